/- An interpreter of the model's code over tagged trees, twenty-fifth part: regions whose order is drawn. -/
import Derived.Test.YtbdokibepndibaaGreatEng24
namespace Go.Proofs.YtbdokibepndibaaGreat.Eng
open Go.RowKit

def runG (ex : Ex) (T : FuncId → Option AFun) : List AOp → Nat → St → Option St
  | [], _, s => some s
  | o :: r, d, s => (gOp ex T o d s).bind (runG ex T r (d + 64))
def stepAt (ex : Ex) (T : FuncId → Option AFun) (q : List AOp) (base i : Nat) (s : St) : Option St :=
  match q[i]? with
  | some o => gOp ex T o (base + 64 * i) s
  | none => none
def anyL (st : Nat → St → Option St) (ops : Array Oper) (n : Nat) (L : Array Bool → St → Prop) : Nat → Array Bool → St → Prop
  | 0, listed, s => L listed s
  | f + 1, listed, s => Region.ready .any ops listed ≠ [] ∧ ∀ i ∈ Region.ready .any ops listed, i < n ∧ ∃ s1, st i s = some s1 ∧ anyL st ops n L f (listed.setIfInBounds i true) s1
def freeG (ops : Array Oper) (q : List AOp) (n : Nat) (listed : Array Bool) (k : Nat) : Bool :=
  match q[k]? with
  | none => false
  | some ak => (List.range n).all fun j => j == k || listed.getD j true || (match ops[j]?, q[j]? with
    | some oj, some aj => oj.after.any (fun e => Region.binds .any e && e.on == k) || ak.apart aj
    | _, _ => false)
def lexG (ops : Array Oper) (q : List AOp) (n g : Nat) : Nat → Nat → Array Bool → Bool
  | 0, k, listed => Region.seqB .any ops g k listed
  | f + 1, k, listed => (Region.ready .any ops listed).contains k && freeG ops q n listed k && lexG ops q n g f (k + 1) (listed.setIfInBounds k true)
def drawB (ops : Array Oper) (q : List AOp) (n : Nat) : Bool :=
  (n == ops.size || (decide (n < ops.size) && Region.sinkB .any ops n && Region.chainB .any ops n)) && lexG ops q n (ops.size - n) n 0 (Array.replicate ops.size false)

section
variable {P : Program} {F : Own} {w0 : World} {G G' : Gh} {s s' : St} {a : Act} {w w' : World} {o : Oper} {d : Nat} {T : FuncId → Option AFun} {ex : Ex} {ops : Array Oper} {q : List AOp} {n base : Nat}
theorem wpOp_ex {i : Nat} {K : Act → World → Prop} (h : wpOp P ops (fun _ _ _ => False) i K a w) : ∃ a' w', K a' w' := by
  unfold wpOp at h
  split at h
  · exact ⟨_, _, h⟩
  · split at h
    · rcases h with h | ⟨_, _, _, h⟩
      · unfold Oper.wp at h
        unfold Oper.upon at h
        split at h
        · exact ⟨_, _, h⟩
        · exact ⟨_, _, h⟩
        · exact ⟨_, _, h⟩
        · obtain ⟨e, w', fr, hR, _⟩ := h []
          cases e with
          | returned v => exact ⟨_, _, hR⟩
          | panicked c => exact hR.elim
          | outgrown => obtain ⟨_, _, hh⟩ := hR; exact hh.elim
        · obtain ⟨v, w', hR, _⟩ := h default []
          exact ⟨_, _, hR⟩
        · exact h.elim
        · exact h.elim
      · exact h.elim
    · exact ⟨_, _, h⟩
theorem chkOps_at : ∀ {l : List Oper} {q : List AOp}, chkOps P ops l q = true → ∀ {i : Nat} {ao : AOp}, q[i]? = some ao → ∃ o, l[i]? = some o ∧ o.dst = ao.dst ∧ guardB ops o.guard ao.guard = true ∧ chkAct P o.op ao.act = true := by
  intro l
  induction l with
  | nil => intro q h i ao hi; cases q <;> simp [chkOps] at h hi
  | cons o r ih =>
    intro q h i ao hi
    cases q with
    | nil => simp at hi
    | cons b q =>
      simp only [chkOps, Bool.and_eq_true, beq_iff_eq] at h
      cases i with
      | zero => simp at hi; subst hi; exact ⟨o, rfl, h.1.1.1, h.1.1.2, h.1.2⟩
      | succ i => exact ih h.2 (by simpa using hi)
theorem step_good (hT : ∀ f af, T f = some af → FunOk P ex f af) (hc : chkOps P ops ops.toList q = true) {i : Nat} (hg : Good s) (h : stepAt ex T q base i s = some s') : Good s' := by
  obtain ⟨F, w0, G, a, w, hr⟩ := hg
  unfold stepAt at h
  split at h
  · rename_i ao hq
    obtain ⟨o, ho, k1, k2, k3⟩ := chkOps_at hc hq
    rw [Array.getElem?_toList] at ho
    obtain ⟨a', w', G', hk⟩ := wpOp_ex (doAct_ok (x := ⟨s, 0⟩) (y := ⟨s', 0⟩) (Q := fun _ _ _ => False) (K := fun a' w' => ∃ G', Rel F w0 G' s' a' w') hT hr ho k1 k2 k3 (gOp_do h) fun a' w' G' h => ⟨G', h⟩)
    exact ⟨F, w0, G', a', w', hk⟩
  · cases h
theorem step_diamond {i j : Nat} {ai aj : AOp} {s1 s2 : St} (hi : q[i]? = some ai) (hj : q[j]? = some aj) (hij : i ≠ j) (hap : ai.apart aj = true) (hg : Good s) (h1 : stepAt ex T q base i s = some s1) (h2 : stepAt ex T q base j s1 = some s2) :
    ∃ s3, stepAt ex T q base j s = some s3 ∧ stepAt ex T q base i s3 = some s2 := by
  simp only [stepAt, hi, hj] at *
  exact diamond hg hap (by omega) h1 h2
theorem head_first {listed : Array Bool} (hn : n = ops.size ∨ (n < ops.size ∧ Region.sinkB .any ops n = true ∧ Region.chainB .any ops n = true)) (inv : HeadInv .any ops n listed) {i j : Nat} (hin : i < n) (hun : listed.getD i true = false) (hj : j ∈ Region.ready .any ops listed) : j < n := by
  rcases hn with rfl | ⟨hn, hs, hc⟩
  · obtain ⟨_, oj, hoj, _⟩ := mem_ready.1 hj
    exact (Array.getElem?_eq_some_iff.1 hoj).1
  · rcases Nat.lt_or_ge j n with h | h
    · exact h
    · exact absurd hj (tail_waits hs hc hn inv _ i rfl hin hun j h)
theorem anyL_first (hT : ∀ f af, T f = some af → FunOk P ex f af) (hc : chkOps P ops ops.toList q = true) (hn : n = ops.size ∨ (n < ops.size ∧ Region.sinkB .any ops n = true ∧ Region.chainB .any ops n = true)) {L : Array Bool → St → Prop} {i : Nat} {ai : AOp} (hi : q[i]? = some ai) (hin : i < n)
    (hdone : ∀ listed s, L listed s → ∀ j ∈ Region.ready .any ops listed, n ≤ j) :
    ∀ (f : Nat) (listed : Array Bool) (s si : St), HeadInv .any ops n listed →
      (∀ j oj aj, ops[j]? = some oj → q[j]? = some aj → j < n → j ≠ i → listed.getD j true = false → (∀ e ∈ oj.after, Region.binds .any e = true → e.on ≠ i) → ai.apart aj = true) →
      i ∈ Region.ready .any ops listed → Good s → stepAt ex T q base i s = some si → anyL (stepAt ex T q base) ops n L f (listed.setIfInBounds i true) si → anyL (stepAt ex T q base) ops n L (f + 1) listed s := by
  intro f
  induction f with
  | zero =>
    intro listed s si inv _ hr hg hst H
    have hun := (mem_ready.1 hr).1
    refine ⟨fun h => (by rw [h] at hr; cases hr), fun j hj => ?_⟩
    have hjn := head_first hn inv hin hun hj
    refine ⟨hjn, ?_⟩
    by_cases hji : j = i
    · subst hji; exact ⟨si, hst, H⟩
    · have := hdone _ _ H j (ready_mono hj hji)
      omega
  | succ f ih =>
    intro listed s si inv hfree hr hg hst H
    have hun := (mem_ready.1 hr).1
    refine ⟨fun h => (by rw [h] at hr; cases hr), fun j hj => ?_⟩
    have hjn := head_first hn inv hin hun hj
    refine ⟨hjn, ?_⟩
    by_cases hji : j = i
    · subst hji; exact ⟨si, hst, H⟩
    · obtain ⟨_, s2, hs2, H2⟩ := H.2 j (ready_mono hj hji)
      obtain ⟨hjun, oj, hoj, hall⟩ := mem_ready.1 hj
      have hnot : ∀ e ∈ oj.after, Region.binds .any e = true → e.on ≠ i := fun e he hb heq => by
        have h1 := hall e he hb
        rw [heq, getD_both hun] at h1
        cases h1
      have hqj : ∃ aj, q[j]? = some aj := by
        unfold stepAt at hs2
        split at hs2
        · exact ⟨_, ‹_›⟩
        · cases hs2
      obtain ⟨aj, haj⟩ := hqj
      obtain ⟨s3, h3, h4⟩ := step_diamond hi haj (Ne.symm hji) (hfree j oj aj hoj haj hjn hji hjun hnot) hg hst hs2
      refine ⟨s3, h3, ih _ s3 s2 (inv.set hj hjn) (fun k ok ak hk hak hkn hki hun' hno => hfree k ok ak hk hak hkn hki ?_ hno) (ready_mono hr (Ne.symm hji)) (step_good hT hc hg h3) h4 ?_⟩
      · by_cases hjk : j = k
        · subst hjk; exact hjun
        · rw [getD_set_ne true hjk] at hun'; exact hun'
      · rw [Array.setIfInBounds_comm _ _ hji]
        exact H2
theorem freeG_spec {listed : Array Bool} {k : Nat} {ak : AOp} (hk : q[k]? = some ak) (h : freeG ops q n listed k = true) : ∀ j oj aj, ops[j]? = some oj → q[j]? = some aj → j < n → j ≠ k → listed.getD j true = false → (∀ e ∈ oj.after, Region.binds .any e = true → e.on ≠ k) → ak.apart aj = true := by
  intro j oj aj hoj haj hjn hne hun hno
  simp only [freeG, hk, List.all_eq_true, List.mem_range] at h
  have h1 := h j hjn
  simp only [hoj, haj, Bool.or_eq_true, beq_iff_eq, hne, false_or, hun, Bool.false_eq_true] at h1
  rcases h1 with h1 | h1
  · obtain ⟨e, he, hb⟩ := Array.any_eq_true'.1 h1
    simp only [Bool.and_eq_true, beq_iff_eq] at hb
    exact absurd hb.2 (hno e he hb.1)
  · exact h1
theorem anyL_lex (hT : ∀ f af, T f = some af → FunOk P ex f af) (hc : chkOps P ops ops.toList q = true) (hn : n = ops.size ∨ (n < ops.size ∧ Region.sinkB .any ops n = true ∧ Region.chainB .any ops n = true)) {g : Nat} : ∀ (l : List AOp) (k : Nat) (listed : Array Bool) (s : St), (∀ j, j < l.length → l[j]? = q[k + j]?) → k + l.length = n →
    lexG ops q n g l.length k listed = true → HeadInv .any ops n listed → Good s → runG ex T l (base + 64 * k) s = some s' → anyL (stepAt ex T q base) ops n (fun listed' s'' => Region.seqB .any ops g n listed' = true ∧ s'' = s') l.length listed s
  | [], k, listed, s, _, hk, hB, _, _, hv => by
    have : k = n := by simpa using hk
    subst this
    simp only [runG, Option.some.injEq] at hv
    exact ⟨by simpa [lexG] using hB, hv⟩
  | o :: l, k, listed, s, hl, hk, hB, inv, hg, hv => by
    have h0 : q[k]? = some o := by simpa using (hl 0 (by simp)).symm
    simp only [List.length_cons, lexG, Bool.and_eq_true] at hB
    obtain ⟨⟨hr, hf⟩, hB'⟩ := hB
    have hkn : k < n := by simp only [List.length_cons] at hk; omega
    have hr' : k ∈ Region.ready .any ops listed := by simpa using hr
    simp only [runG] at hv
    obtain ⟨s1, h1, hv⟩ := Option.bind_eq_some_iff.1 hv
    have hst : stepAt ex T q base k s = some s1 := by simp only [stepAt, h0]; exact h1
    refine anyL_first hT hc hn h0 hkn (fun listed' s'' hL => seqB_ready hL.1) l.length listed s s1 inv (freeG_spec h0 hf) hr' hg hst ?_
    exact anyL_lex hT hc hn l (k + 1) _ s1 (fun j hj => by have := hl (j + 1) (by simp; omega); simpa [Nat.add_assoc, Nat.add_comm 1 j] using this) (by simp only [List.length_cons] at hk; omega) hB' (inv.set hr' hkn) (step_good hT hc hg hst) (by rw [show base + 64 * (k + 1) = base + 64 * k + 64 by omega]; exact hv)
theorem wpAny_of_anyL (hT : ∀ f af, T f = some af → FunOk P ex f af) (hc : chkOps P ops ops.toList q = true) {g : Nat} {L : Array Bool → St → Prop} {Q : Exit → Act → World → Prop} (hL : ∀ listed s G a w, L listed s → Rel F w0 G s a w → wpAny P .any ops Q g listed a w) :
    ∀ (f : Nat) (listed : Array Bool) (s : St) (G : Gh) (a : Act) (w : World), Rel F w0 G s a w → anyL (stepAt ex T q base) ops n L f listed s → wpAny P .any ops Q (f + g) listed a w
  | 0, listed, s, G, a, w, hr, h => by rw [Nat.zero_add]; exact hL _ _ _ _ _ h hr
  | f + 1, listed, s, G, a, w, hr, h => by
    rw [show f + 1 + g = (f + g) + 1 by omega]
    refine ⟨fun h0 => absurd h0 h.1, fun i hi => ?_⟩
    obtain ⟨_, s1, hs1, h2⟩ := h.2 i hi
    unfold stepAt at hs1
    split at hs1
    · rename_i ao hq
      obtain ⟨o, ho, k1, k2, k3⟩ := chkOps_at hc hq
      rw [Array.getElem?_toList] at ho
      exact doAct_ok (x := ⟨s, 0⟩) (y := ⟨s1, 0⟩) hT hr ho k1 k2 k3 (gOp_do hs1) fun a' w' G' hrel => wpAny_of_anyL hT hc hL f _ s1 G' a' w' hrel h2
    · cases hs1
theorem wpAny_of_seqA (hT : ∀ f af, T f = some af → FunOk P ex f af) {Q : Exit → Act → World → Prop} : ∀ (l : List Oper) {p : List AOp} {k d : Nat} {listed : Array Bool} {x y : XS} {G : Gh} {a : Act} {w : World}, (∀ j, l[j]? = ops[k + j]?) → Region.seqB .any ops l.length k listed = true → chkOps P ops l p = true →
    runOps ex T p d x = some y → Rel F w0 G x.st a w → (∀ a' w' G', Rel F w0 G' y.st a' w' → Q .normal a' w') → wpAny P .any ops Q l.length listed a w := by
  intro l
  induction l with
  | nil =>
    intro p k d listed x y G a w hl hB hc hv h hQ
    cases p with
    | nil => simp only [runOps, Option.some.injEq] at hv; subst hv; exact ⟨by simpa [Region.seqB] using hB, hQ _ _ _ h⟩
    | cons _ _ => simp [chkOps] at hc
  | cons o r ih =>
    intro p k d listed x y G a w hl hB hc hv h hQ
    cases p with
    | nil => simp [chkOps] at hc
    | cons ao p =>
      simp only [chkOps, Bool.and_eq_true, beq_iff_eq] at hc
      obtain ⟨⟨⟨hd, hg⟩, ha⟩, hc⟩ := hc
      simp only [runOps] at hv
      obtain ⟨z, hz, hv⟩ := Option.bind_eq_some_iff.1 hv
      simp only [List.length_cons, Region.seqB, Bool.and_eq_true, decide_eq_true_eq] at hB
      refine ⟨fun h1 => (by rw [hB.1] at h1; cases h1), fun i hi => ?_⟩
      rw [hB.1] at hi
      have hik : i = k := by simpa using hi
      subst hik
      have h0 : ops[i]? = some o := by simpa using (hl 0).symm
      refine doAct_ok hT h h0 hd hg ha hz fun a' w' G' hrel => ?_
      exact ih (fun j => by have := hl (j + 1); simpa [Nat.add_assoc, Nat.add_comm 1 j] using this) hB.2 hc hv hrel hQ
theorem Rel.world (h : Rel F w0 G s a w) (hw : w'.heap = w.heap) (h1 : w'.os = w.os) (h2 : w'.tape = w.tape) (h3 : w'.output = w.output) : Rel F w0 G s a w' := by
  have hg : Grows w w' := fun g _ => by rw [hw]
  exact ⟨h.defers, h.slots.imp fun s v => SRel.imp fun a v => A1Rel.grows hg h.inv.lt, h.up.imp fun s v => SRel.imp fun a v => A1Rel.grows hg h.inv.lt, h.rr, h.inv.grows hg (by rw [hw]; exact Nat.le_refl _),
    ⟨h1.trans h.fr.os, h2.trans h.fr.tape, h3.trans h.fr.output, by rw [hw]; exact h.fr.size, fun g hg hF => by rw [hw]; exact h.fr.block g hg hF⟩, h.own⟩
theorem chkOps_split : ∀ {l : List Oper} {q : List AOp} (k : Nat), chkOps P ops l q = true → chkOps P ops (l.drop k) (q.drop k) = true := by
  intro l
  induction l with
  | nil => intro q k h; cases q <;> simp [chkOps] at h ⊢
  | cons o r ih =>
    intro q k h
    cases q with
    | nil => simp [chkOps] at h
    | cons b q =>
      cases k with
      | zero => exact h
      | succ k =>
        simp only [chkOps, Bool.and_eq_true] at h
        exact ih k h.2
theorem chkOps_len : ∀ {l : List Oper} {q : List AOp}, chkOps P ops l q = true → l.length = q.length := by
  intro l
  induction l with
  | nil => intro q h; cases q <;> simp [chkOps] at h ⊢
  | cons o r ih =>
    intro q h
    cases q with
    | nil => simp [chkOps] at h
    | cons b q =>
      simp only [chkOps, Bool.and_eq_true] at h
      simp [ih h.2]
/-- A region whose order is drawn. -/
theorem draw_ok (hm : P.follows .mixedOrders = true) (hT : ∀ f af, T f = some af → FunOk P ex f af) (hc : chkOps P ops ops.toList q = true) (hB : drawB ops q n = true) {rid : Nat} {s1 : St} {y : XS} {nx : Nat} {Q : Exit → Act → World → Prop}
    (hg : runG ex T (q.take n) base s = some s1) (hv : runOps ex T (q.drop n) d ⟨s1, nx⟩ = some y) (h : Rel F w0 G s a w) (hQ : ∀ a' w' G', Rel F w0 G' y.st a' w' → Q .normal a' w') : (Code.region rid ops true).wp P Q a w := by
  simp only [drawB, Bool.and_eq_true, Bool.or_eq_true, beq_iff_eq, decide_eq_true_eq] at hB
  obtain ⟨hn, hlex⟩ := hB
  have hn' : n = ops.size ∨ (n < ops.size ∧ Region.sinkB .any ops n = true ∧ Region.chainB .any ops n = true) := hn.imp id fun h => ⟨h.1.1, h.1.2, h.2⟩
  have hnle : n ≤ ops.size := by rcases hn' with h | h <;> omega
  have hql : ops.size = q.length := by simpa using chkOps_len hc
  have hl : (q.take n).length = n := by simp; omega
  have hr1 : Rel F w0 G s a { w with drawn := w.drawn + 1 } := h.world rfl rfl rfl rfl
  have inv0 : HeadInv .any ops n (Array.replicate ops.size false) :=
    ⟨by simp, fun j oj _ hl => (by rw [getD_replicate_false] at hl; cases hl), fun t _ ht => getD_in (by simpa using ht) (getD_replicate_false _ _)⟩
  refine wp_region_any hm ?_
  have H := anyL_lex (base := base) (s' := s1) (g := ops.size - n) hT hc hn' (q.take n) 0 (Array.replicate ops.size false) s (fun j hj => by
    rw [hl] at hj
    simp [hj]) (by omega) (by rw [hl]; exact hlex) inv0 ⟨F, w0, G, a, w, h⟩ (by simpa using hg)
  have := wpAny_of_anyL (n := n) (Q := Q) (g := ops.size - n) hT hc (fun listed s' G a w hL hrel => by
    obtain ⟨hL1, rfl⟩ := hL
    have hdl : (ops.toList.drop n).length = ops.size - n := by simp
    have := wpAny_of_seqA (Q := Q) (k := n) (listed := listed) hT (ops.toList.drop n) (fun j => by simp [List.getElem?_drop]) (by rw [hdl]; exact hL1) (chkOps_split n hc) hv hrel hQ
    rwa [hdl] at this) _ _ _ _ _ _ hr1 H
  rw [hl, show n + (ops.size - n) = ops.size by omega] at this
  exact this
end
end Go.Proofs.YtbdokibepndibaaGreat.Eng
