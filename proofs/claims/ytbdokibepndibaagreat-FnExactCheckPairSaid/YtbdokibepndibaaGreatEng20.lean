/- An interpreter of the model's code over tagged trees, twentieth part: calls, carried out. -/
import Derived.Test.YtbdokibepndibaaGreatEng19
namespace Go.Proofs.YtbdokibepndibaaGreat.Eng
open Go.RowKit

def ERel : AE → Exit → Prop
  | .nrm, .normal => True
  | .exit i, .exit j => i = j
  | .ret, .ret => True
  | _, _ => False
def After (F : Own) (w0 : World) (e : AE) (s : St) : Exit → Act → World → Prop := fun x a w => ERel e x ∧ ∃ G, Rel F w0 G s a w
/-- A library function that is taken whole. -/
def Node (P : Program) (f : FuncId) : ACode → Prop
  | .ins => Ins P f
  | .grw sz bytes => Grw P f sz bytes
  | .rvs => Rvs P f
  | _ => True
/-- One function's code is what the table says it is, and the interpreter does as the model does with it. -/
def FunOk (P : Program) (ex : Ex) (f : FuncId) (af : AFun) : Prop :=
  Node P f af.body ∧ ∃ fn c, P.funcs[f]? = some fn ∧ fn.body = some c ∧ fn.name ≠ "runtime.NumGoroutine" ∧ fn.ntmps = af.n ∧ chkRes P fn.results.toList af.res = true ∧
    ∀ x e y F w0 G a w, ex af.body x = some (e, y) → Rel F w0 G x.st a w → c.wp P (After F w0 e y.st) a w

section
variable {P : Program} {F : Own} {w0 : World} {G G' : Gh} {s s' : St} {a : Act} {w w' : World} {sv : SV} {o : Oper} {d : Nat} {m m' : Mem} {T : FuncId → Option AFun} {ex : Ex}
theorem undef_rel : SRel G m w (.tup []) undef := ⟨[], rfl, .nil⟩
theorem results_ok (h : Rel F w0 G s a w) {fn : Func} {qs : List ARes} {l : List (Bool × List A1)} (hc : chkRes P fn.results.toList qs = true) (hr : resOf s qs = some l) :
    ∃ v, (results fn a.tmps).run P w = .ok v w ∧ SRel G s.mem w (resSV l) v := by
  obtain ⟨vs, k1, k2⟩ := res_ok h hc hr
  have e : (fn.results.mapM (resultOf a)).run P w = .ok vs.toArray w := by
    rw [Array.mapM_eq_mapM_toList]
    simp only [Sem.run_map, k1, Result.andThen_ok]
  have e2 : results fn a.tmps = (do
      let vs ← fn.results.mapM (resultOf a)
      pure (if h : vs.size = 1 then vs[0] else .tuple vs)) := rfl
  refine ⟨if h : vs.toArray.size = 1 then vs.toArray[0] else .tuple vs.toArray, ?_, ?_⟩
  · rw [e2]
    simp only [Sem.run_bind, e, Result.andThen_ok, Sem.run_pure]
  · cases l with
    | nil =>
      have : vs = [] := List.eq_nil_of_length_eq_zero k2.1.symm
      subst this
      exact ⟨[], rfl, .nil⟩
    | cons p r =>
      cases vs with
      | nil => have := k2.1; simp at this
      | cons v vr =>
        cases r with
        | nil =>
          cases vr with
          | nil => exact k2.2 0 p v rfl rfl
          | cons _ _ => have := k2.1; simp at this
        | cons p2 r2 =>
          cases vr with
          | nil => have := k2.1; simp at this
          | cons v2 vr2 =>
            simp only [resSV]
            rw [dif_neg (by simp)]
            exact ⟨_, rfl, k2⟩
theorem entry_rel {Fc : Own} {vs : List SV} {xs : List Value} {n : Nat} {up : List SV} (hargs : All2 (SRel G m w) vs xs) (hup : All2 (SRel G m w) up Fc.X) (hrr : ∀ g, G.R g → Fc.R g ∨ w0.heap.size ≤ g) (hinv : Inv G m w) (hfr : Fr Fc.dom w0 w)
    (hown : ∀ t x, m t = some x → ∀ g ∈ G.fp t, Fc g ∨ w0.heap.size ≤ g) (_ : vs.length ≤ n) :
    Rel Fc w0 G ⟨vs ++ List.replicate (n - vs.length) (.tup []), m, up⟩ { tmps := xs.toArray ++ Array.replicate (n - xs.toArray.size) undef, defers := [] } w := by
  refine ⟨rfl, ?_, hup, hrr, hinv, hfr, hown⟩
  have e : (xs.toArray ++ Array.replicate (n - xs.toArray.size) undef).toList = xs ++ List.replicate (n - vs.length) undef := by
    rw [hargs.1]; simp
  rw [e]
  refine hargs.append ⟨by simp, fun i x v hx hv => ?_⟩
  rw [List.getElem?_replicate] at hx hv
  split at hx <;> cases hx
  rename_i hi
  rw [if_pos hi] at hv
  cases hv
  exact undef_rel
/-- The call of a function that sees the caller's memory. -/
theorem thru_ok (hT : ∀ f af, T f = some af → FunOk P ex f af) (h : Rel F w0 G s a w) {nx : Nat} {f : FuncId} {args : List SV} {xs : Array Value} {y : XS} (hargs : All2 (SRel G s.mem w) args xs.toList) (hv : runThru ex T f args ⟨s, nx⟩ = some (sv, y)) :
    (∃ fn cd, P.funcs[f]? = some fn ∧ fn.body = some cd ∧ fn.name ≠ "runtime.NumGoroutine") ∧ Back P f xs w fun v w' => ∃ G', Rel F w0 G' y.st a w' ∧ SRel G' y.st.mem w' sv v := by
  unfold runThru at hv
  split at hv
  · rename_i af haf
    obtain ⟨_, fn, cd, h1, h2, h3, h4, h5, h6⟩ := hT f af haf
    refine ⟨⟨fn, cd, h1, h2, h3⟩, ?_⟩
    split at hv
    · rename_i hlen
      have hent := entry_rel (n := af.n) (Fc := ⟨F.dom, a.tmps.toList ++ F.X, F.R⟩) (up := s.slots ++ s.up) hargs (h.slots.append h.up) h.rr h.inv h.fr h.own hlen
      have fin : ∀ e z l, ex af.body ⟨⟨args ++ List.replicate (af.n - args.length) (.tup []), s.mem, s.slots ++ s.up⟩, nx⟩ = some (e, z) → (∀ i, e ≠ .exit i) → resOf z.st af.res = some l → sv = resSV l → y = ⟨⟨z.st.up.take s.slots.length, z.st.mem, z.st.up.drop s.slots.length⟩, z.nx⟩ →
          Back P f xs w fun v w' => ∃ G', Rel F w0 G' y.st a w' ∧ SRel G' y.st.mem w' sv v := by
        intro e z l hex hne hres hsv hy
        subst hsv hy
        refine calls_of_wp h1 h2 ?_
        rw [h4, ← Array.toArray_toList (xs := xs)]
        refine wp_mono (h6 _ _ _ _ _ _ _ _ hex hent) fun x a' w' ⟨hx, G', hrel⟩ => ?_
        obtain ⟨v, hrv, hsr⟩ := results_ok (P := P) hrel h5 hres
        have hup := hrel.up
        have hl : s.slots.length = a.tmps.toList.length := h.slots.1
        have hback : Rel F w0 G' ⟨z.st.up.take s.slots.length, z.st.mem, z.st.up.drop s.slots.length⟩ a w' := by
          refine ⟨h.defers, ?_, ?_, hrel.rr, hrel.inv, hrel.fr, hrel.own⟩
          · have := hup.take s.slots.length
            rw [hl, List.take_left] at this
            rw [hl]
            exact this
          · have := hup.drop s.slots.length
            rw [hl, List.drop_left] at this
            rw [hl]
            exact this
        cases e with
        | exit i => exact absurd rfl (hne i)
        | nrm =>
          cases x <;> simp only [ERel] at hx
          exact ⟨hrel.defers, v, hrv, G', hback, hsr⟩
        | ret =>
          cases x <;> simp only [ERel] at hx
          exact ⟨hrel.defers, v, hrv, G', hback, hsr⟩
      split at hv
      · cases hv
      · rename_i e z hne hex
        obtain ⟨l, hl, he⟩ := Option.map_eq_some_iff.1 hv
        cases he
        refine fin e z l hex (fun i hi => ?_) hl rfl rfl
        subst hi
        exact hne i rfl
      · cases hv
    · cases hv
  · cases hv
theorem VRel.mapN {C : Prop} {f : A1 → A1} (k : ∀ x v, (C ∨ x.noRo = true) → A1Rel G m w x v → A1Rel G' m' w' (f x) v) {ag : Bool} {as_ : List A1} {v : Value} (hn : C ∨ as_.all A1.noRo = true) (h : VRel G m w ag as_ v) : VRel G' m' w' ag (as_.map f) v := by
  have hk : ∀ x ∈ as_, C ∨ x.noRo = true := fun x hx => hn.imp id fun k => List.all_eq_true.1 k x hx
  cases ag with
  | false =>
    obtain ⟨x, rfl, h⟩ := h
    exact ⟨f x, rfl, k x v (hk x (by simp)) h⟩
  | true =>
    obtain ⟨vs, rfl, h⟩ := h
    refine ⟨vs, rfl, by simp [h.1], fun i y v hy hv => ?_⟩
    rw [List.getElem?_map] at hy
    obtain ⟨x, hx, rfl⟩ := Option.map_eq_some_iff.1 hy
    exact k x v (hk x (List.mem_of_getElem? hx)) (h.2 i x v hx hv)
theorem SRel.mapN {C : Prop} {f : A1 → A1} {x : SV} {v : Value} (hn : C ∨ x.noRo = true) (k : ∀ x v, (C ∨ x.noRo = true) → A1Rel G m w x v → A1Rel G' m' w' (f x) v) (h : SRel G m w x v) : SRel G' m' w' (x.map f) v := by
  cases x with
  | v ag as_ => exact VRel.mapN k hn h
  | tup vs =>
    obtain ⟨xs, rfl, h⟩ := h
    refine ⟨xs, rfl, by simp [h.1], fun i y v hy hv => ?_⟩
    rw [List.getElem?_map] at hy
    obtain ⟨p, hp, rfl⟩ := Option.map_eq_some_iff.1 hy
    exact VRel.mapN k (hn.imp id fun e => List.all_eq_true.1 e p (List.mem_of_getElem? hp)) (h.2 i p v hp hv)
  | bad => trivial
/-- What is only to be read, seen by the callee. -/
theorem roA_rel (h : Rel F w0 G s a w) {R : Nat → Prop} {z : Nat} {x y : A1} {v : Value} (hx : A1Rel G s.mem w x v) (hr : roA s.mem z x = some y) (hR : ∀ g, G.R g → R g) (hR2 : x.ownB = true → ∀ g, g < w.heap.size → R g) {b o : Nat → Nat} {fp : Nat → List Nat} :
    A1Rel ⟨b, o, fp, R⟩ (fun _ => none) w y v := by
  cases x with
  | sl t p off n =>
    simp only [roA] at hr
    obtain ⟨⟨n', cs⟩, hs, rfl⟩ := Option.map_eq_some_iff.1 hr
    obtain ⟨A, c, vs, fp', rfl, k1, k2, k3, k4, k5⟩ := src_rel h hx hs
    refine ⟨A, c, rfl, ⟨k1, k2⟩, ?_⟩
    by_cases he : cs = []
    · exact .inl he
    · obtain ⟨g, q, rfl, kb⟩ := k5 he
      exact .inr ⟨g, q, vs, fp', rfl, kb, k4, fun y hy => hR2 rfl y (by
        simp only [List.mem_cons] at hy
        rcases hy with rfl | hy
        · exact kb.lt
        · exact k4.lt y hy)⟩
  | ro n cs =>
    simp only [roA, Option.some.injEq] at hr
    subst hr
    obtain ⟨A, c, rfl, hn, hh⟩ := hx
    exact ⟨A, c, rfl, hn, hh.frame hR fun _ _ => rfl⟩
  | pc cs =>
    simp only [roA, Option.some.injEq] at hr
    subst hr
    obtain ⟨A, rfl, hh⟩ := hx
    exact ⟨A, rfl, hh.frame hR fun _ _ => rfl⟩
  | rx n cs =>
    simp only [roA, Option.some.injEq] at hr
    subst hr
    obtain ⟨A, rfl, hn, hh⟩ := hx
    exact ⟨A, n, rfl, ⟨Nat.le_refl _, hn⟩, hh.frame hR fun _ _ => rfl⟩
  | pr t p off => simp [roA] at hr
  | fn f caps =>
    simp only [roA] at hr
    split at hr <;> cases hr
    rename_i hc
    have : caps = [] := by simpa using hc
    subst this
    exact ⟨hx.1, by simp⟩
  | int k n => simp only [roA, Option.some.injEq] at hr; subst hr; exact hx
  | bool b => simp only [roA, Option.some.injEq] at hr; subst hr; exact hx
  | str b => simp only [roA, Option.some.injEq] at hr; subst hr; exact hx
  | nil => simp only [roA, Option.some.injEq] at hr; subst hr; exact hx
  | bad => simp only [roA, Option.some.injEq] at hr; subst hr; exact hx
theorem roL_rel (h : Rel F w0 G s a w) {R : Nat → Prop} (hR : ∀ g, G.R g → R g) {b o : Nat → Nat} {fp : Nat → List Nat} : ∀ {as_ bs : List A1} {zs : List Nat} {vs : List Value}, All2 (A1Rel G s.mem w) as_ vs → roL s.mem as_ zs = some bs → (as_.any A1.ownB = true → ∀ g, g < w.heap.size → R g) →
    All2 (A1Rel ⟨b, o, fp, R⟩ (fun _ => none) w) bs vs := by
  intro as_
  induction as_ with
  | nil =>
    intro bs zs vs hr hb _
    have : vs = [] := List.eq_nil_of_length_eq_zero hr.1.symm
    subst this
    simp only [roL, Option.some.injEq] at hb
    subst hb
    exact .nil
  | cons x r ih =>
    intro bs zs vs hr hb hown
    cases zs with
    | nil => simp [roL] at hb
    | cons z q =>
      cases vs with
      | nil => have := hr.1; simp at this
      | cons v vr =>
        simp only [roL] at hb
        split at hb <;> cases hb
        rename_i y q' hy hq
        have h0 : A1Rel G s.mem w x v := hr.2 0 x v rfl rfl
        have hrest : All2 (A1Rel G s.mem w) r vr := ⟨by have := hr.1; simpa using this, fun i a b ha hb => hr.2 (i + 1) a b ha hb⟩
        exact .cons (roA_rel h h0 hy hR (fun e => hown (by simp [e]))) (ih hrest hq fun e => hown (by simp [e]))
theorem roArgs_rel (h : Rel F w0 G s a w) {R : Nat → Prop} (hR : ∀ g, G.R g → R g) {b o : Nat → Nat} {fp : Nat → List Nat} : ∀ {xs : List Operand} {ys : List (AX × List Nat)} {vs : List SV} {clean : Bool}, axsB xs (ys.map (·.1)) = true → roArgs s ys = some (vs, clean) → (clean = false → ∀ g, g < w.heap.size → R g) →
    All2 (SRel ⟨b, o, fp, R⟩ (fun _ => none) w) vs (xs.map a.eval) := by
  intro xs
  induction xs with
  | nil =>
    intro ys vs clean hc hr _
    cases ys with
    | nil => simp only [roArgs, Option.some.injEq, Prod.mk.injEq] at hr; obtain ⟨rfl, rfl⟩ := hr; exact .nil
    | cons y r => simp [axsB] at hc
  | cons x r ih =>
    intro ys vs clean hc hr hcl
    cases ys with
    | nil => simp [axsB] at hc
    | cons y q =>
      obtain ⟨y, zs⟩ := y
      simp only [List.map_cons, axsB, Bool.and_eq_true] at hc
      simp only [roArgs] at hr
      split at hr
      · rename_i ag as_ q' c' hget hq
        obtain ⟨bs, hbs, he⟩ := Option.map_eq_some_iff.1 hr
        simp only [Prod.mk.injEq] at he
        obtain ⟨rfl, rfl⟩ := he
        have h1 := eval_get h hc.1 hget
        refine .cons ?_ (ih hc.2 hq fun e => hcl (by simp [e]))
        have hl : ∀ vs', All2 (A1Rel G s.mem w) as_ vs' → All2 (A1Rel ⟨b, o, fp, R⟩ (fun _ => none) w) bs vs' := fun vs' hv => roL_rel h hR hv hbs fun e => hcl (by simp [e])
        cases ag with
        | false =>
          obtain ⟨x1, e1, h2⟩ := h1
          have h3 := hl [a.eval x] (by rw [e1]; exact .cons h2 .nil)
          have hlen := h3.1
          cases bs with
          | nil => simp at hlen
          | cons b1 br =>
            cases br with
            | nil => exact ⟨b1, rfl, h3.2 0 b1 _ rfl rfl⟩
            | cons _ _ => simp at hlen
        | true =>
          obtain ⟨vs', e1, h2⟩ := h1
          exact ⟨vs', e1, hl vs' h2⟩
      · cases hr
theorem allObs_spec {m : Mem} : ∀ {l : List Nat} {obs : List Ob}, allObs m l = some obs → obs.length = l.length ∧ ∀ (i t : Nat), l[i]? = some t → m t = obs[i]? := by
  intro l
  induction l with
  | nil => intro obs h; simp only [allObs, Option.some.injEq] at h; subst h; simp
  | cons t r ih =>
    intro obs h
    simp only [allObs] at h
    split at h <;> cases h
    rename_i x q hx hq
    obtain ⟨k1, k2⟩ := ih hq
    refine ⟨by simp [k1], fun i t' hi => ?_⟩
    cases i with
    | zero => simp at hi; subst hi; simpa using hx
    | succ i => simpa using k2 i t' (by simpa using hi)
/-- The call of a function on trees. -/
theorem ro_ok (hT : ∀ f af, T f = some af → FunOk P ex f af) (h : Rel F w0 G s a w) {f : FuncId} {ys : List (AX × List Nat)} {xs : Array Operand} (hax : axsB xs.toList (ys.map (·.1)) = true) (hv : callRO ex T f ys d s = some (sv, s')) :
    (∃ fn cd, P.funcs[f]? = some fn ∧ fn.body = some cd ∧ fn.name ≠ "runtime.NumGoroutine") ∧ Back P f (xs.map a.eval) w fun v w' => ∃ G', Rel F w0 G' s' a w' ∧ SRel G' s'.mem w' sv v := by
  unfold callRO at hv
  split at hv
  · rename_i vs clean hargs
    split at hv
    · rename_i sv0 obs hrun
      split at hv
      · rename_i hck
        simp only [Option.some.injEq, Prod.mk.injEq] at hv
        obtain ⟨rfl, rfl⟩ := hv
        simp only [Bool.and_eq_true, Bool.or_eq_true, List.all_eq_true] at hck
        unfold runRO at hrun
        split at hrun
        · rename_i af haf
          obtain ⟨_, fn, cd, h1, h2, h3, h4, h5, h6⟩ := hT f af haf
          refine ⟨⟨fn, cd, h1, h2, h3⟩, ?_⟩
          split at hrun
          · rename_i hlen
            let R : Nat → Prop := fun g => if clean = true then G.R g else g < w.heap.size
            have hRG : ∀ g, G.R g → R g := by
              intro g hg
              simp only [R]
              split
              · exact hg
              · exact h.inv.lt g hg
            have hRlt : ∀ g, R g → g < w.heap.size := by
              intro g hg
              simp only [R] at hg
              split at hg
              · exact h.inv.lt g hg
              · exact hg
            have hra := roArgs_rel (b := G.b) (o := G.o) (fp := G.fp) h hRG hax hargs (fun e g hg => by simp only [R, e]; exact hg)
            have hent := entry_rel (w0 := w) (n := af.n) (Fc := ⟨fun _ => False, [], R⟩) (G := ⟨G.b, G.o, G.fp, R⟩) (m := fun _ => none) (up := []) (xs := (xs.map a.eval).toList) (by simpa using hra) .nil (fun _ h => .inl h)
              ⟨fun t x hx => (by cases hx), fun t x hx => (by cases hx), fun t t' x x' hx => (by cases hx), fun t x hx => (by cases hx), hRlt⟩ ⟨rfl, rfl, rfl, Nat.le_refl _, fun _ _ _ => rfl⟩ (fun t x hx => by cases hx) hlen
            have fin : ∀ e z l, ex af.body ⟨⟨vs ++ List.replicate (af.n - vs.length) (.tup []), fun _ => none, []⟩, 0⟩ = some (e, z) → (∀ i, e ≠ .exit i) → resOf z.st af.res = some l →
                (allObs (z.st.canon (reach z.st.mem 64 (SV.ids (resSV l)) [])).mem (List.range (reach z.st.mem 64 (SV.ids (resSV l)) []).length)).map (fun obs => ((resSV l).map (ren (pos (reach z.st.mem 64 (SV.ids (resSV l)) []))), obs)) = some (sv0, obs) →
                Back P f (xs.map a.eval) w fun v w' => ∃ G', Rel F w0 G' ⟨s.slots, addMem s.mem d obs, s.up⟩ a w' ∧ SRel G' (addMem s.mem d obs) w' (sv0.map (ren (shift d obs.length))) v := by
              intro e z l hex hne hres hob
              refine calls_of_wp h1 h2 ?_
              rw [h4, ← Array.toArray_toList (xs := xs.map a.eval)]
              refine wp_mono (h6 _ _ _ _ _ _ _ _ hex hent) fun x a' w' ⟨hx, G1, hrel⟩ => ?_
              obtain ⟨v, hrv, hsr⟩ := results_ok (P := P) hrel h5 hres
              obtain ⟨obs', hob1, he⟩ := Option.map_eq_some_iff.1 hob
              simp only [Prod.mk.injEq] at he
              obtain ⟨rfl, rfl⟩ := he
              obtain ⟨G2, hcan, hconv⟩ := hrel.canon (reach_nodup (m := z.st.mem) (k := 64) (l := SV.ids (resSV l)) (seen := []) (by simp))
              obtain ⟨o1, o2⟩ := allObs_spec hob1
              simp only [List.length_range] at o1
              have hobs : ∀ i, (z.st.canon (reach z.st.mem 64 (SV.ids (resSV l)) [])).mem i = obs'[i]? := by
                intro i
                by_cases hi : i < (reach z.st.mem 64 (SV.ids (resSV l)) []).length
                · exact o2 i i (by simp [hi])
                · rw [List.getElem?_eq_none (by omega)]
                  rw [canon_mem, List.getElem?_eq_none (by omega)]
                  rfl
              have hclean : (∀ g, G2.R g → G.R g ∨ w.heap.size ≤ g) ∨ (obs'.all Ob.noRo = true ∧ ((resSV l).map (ren (pos (reach z.st.mem 64 (SV.ids (resSV l)) [])))).noRo = true) := by
                rcases hck.1 with hcl | hcl
                · left
                  intro g hg
                  rcases hcan.rr g hg with this | this
                  · simp only [R, hcl] at this
                    exact .inl this
                  · exact .inr this
                · exact .inr ⟨List.all_eq_true.2 hcl.1, hcl.2⟩
              obtain ⟨G3, t1, _, t3⟩ := h.take (d := d) (obs := obs') hcan (fun g h => h) hobs (fun i hi => by
                have := hck.2 i (by simp [hi])
                simpa using this) (hclean.imp id fun k as_ has => by
                have := List.all_eq_true.1 k.1 _ has
                simpa [Ob.noRo] using this)
              refine (fun hfin => ?_ : (SRel G3 (addMem s.mem d obs') w' (((resSV l).map (ren (pos (reach z.st.mem 64 (SV.ids (resSV l)) [])))).map (ren (shift d obs'.length))) v) → _) ?_
              · cases e with
                | exit i => exact absurd rfl (hne i)
                | nrm =>
                  cases x <;> simp only [ERel] at hx
                  exact ⟨hrel.defers, v, hrv, G3, t1, hfin⟩
                | ret =>
                  cases x <;> simp only [ERel] at hx
                  exact ⟨hrel.defers, v, hrv, G3, t1, hfin⟩
              · have s2 : SRel G2 (z.st.canon (reach z.st.mem 64 (SV.ids (resSV l)) [])).mem w' ((resSV l).map (ren (pos (reach z.st.mem 64 (SV.ids (resSV l)) [])))) v := SRel.mapA hconv hsr
                exact SRel.mapN (hclean.imp id (·.2)) t3 s2
            split at hrun
            · cases hrun
            · rename_i e z hne hex
              split at hrun
              · rename_i l hl
                exact fin e z l hex (fun i hi => by subst hi; exact hne i rfl) hl hrun
              · cases hrun
            · cases hrun
          · cases hrun
        · cases hrun
      · cases hv
    · cases hv
  · cases hv
/-- What leads to nothing of the call's own stands elsewhere too. -/
theorem A1Rel.free {x : A1} {v : Value} (h : A1Rel G m w x v) (hid : x.ids.isEmpty = true) (hR : ∀ g, G.R g → G'.R g) (hw : ∀ g, G.R g → w'.heap[g]? = w.heap[g]?) : A1Rel G' m' w' x v := by
  cases x with
  | sl t p off n => simp [A1.ids] at hid
  | pr t p off => simp [A1.ids] at hid
  | fn f caps =>
    have : caps = [] := by simpa [A1.ids] using hid
    subst this
    exact ⟨h.1, by simp⟩
  | ro n cs =>
    obtain ⟨A, c, rfl, hn, hh⟩ := h
    exact ⟨A, c, rfl, hn, hh.frame hR hw⟩
  | pc cs =>
    obtain ⟨A, rfl, hh⟩ := h
    exact ⟨A, rfl, hh.frame hR hw⟩
  | rx n cs =>
    obtain ⟨A, rfl, hn, hh⟩ := h
    exact ⟨A, rfl, hn, hh.frame hR hw⟩
  | _ => exact h
/-- What is told where there is no memory stands with any. -/
theorem A1Rel.none_mem {b o : Nat → Nat} {fp : Nat → List Nat} {R : Nat → Prop} {x : A1} {v : Value} (h : A1Rel ⟨b, o, fp, R⟩ (fun _ => none) w x v) (hR : ∀ g, R g → G'.R g) : A1Rel G' m' w x v := by
  refine A1Rel.free h ?_ hR (fun _ _ => rfl)
  cases x with
  | sl t p off n => obtain ⟨A, c, _, _, ⟨z, ds, hz, _⟩, _⟩ := h; cases hz
  | pr t p off =>
    obtain ⟨A, _, h⟩ := h
    rcases h with ⟨z, ds, hz, _⟩ | ⟨as_, hz, _⟩
    · cases hz
    · cases hz
  | fn f caps =>
    cases caps with
    | nil => rfl
    | cons t r => obtain ⟨as_, hz⟩ := h.2 t (by simp); cases hz
  | _ => rfl
/-- A block that nothing leads to is as it was before: all stands, and nothing old has turned. -/
theorem Rel.revert {F' : Own} {gb : Nat} {w1 : World} (h : Rel F w0 G s a w) (hX : F'.X = F.X) (hR' : F'.R = F.R) (hdom : F'.dom = fun _ => False) (hno : ∀ u y, s.mem u = some y → gb ∉ G.fp u) (hR : ¬ G.R gb) (hw1 : ∀ y, y ≠ gb → w1.heap[y]? = w.heap[y]?)
    (hos : w1.os = w.os) (htape : w1.tape = w.tape) (hout : w1.output = w.output) (hsize : w1.heap.size = w.heap.size) (hold : ∀ g, g < w0.heap.size → w1.heap[g]? = w0.heap[g]?) (hF : ∀ g, F.dom g → g = gb) : Rel F' w0 G s a w1 := by
  have hf : ∀ x v, A1Rel G s.mem w x v → A1Rel G s.mem w1 x v := fun x v hx => hx.frame h.inv (fun t ht g hg => by
    obtain ⟨z, hz⟩ := hx.dom t ht
    exact hw1 g (fun e => hno t z hz (by rw [← e]; exact hg))) (fun g hg => hw1 g (fun e => hR (by rw [← e]; exact hg)))
  refine ⟨h.defers, h.slots.imp fun x v => SRel.imp hf, by rw [hX]; exact h.up.imp fun x v => SRel.imp hf, by rw [hR']; exact h.rr, ⟨?_, h.inv.nd, h.inv.apart, h.inv.ro, fun g hg => by rw [hsize]; exact h.inv.lt g hg⟩, ⟨hos.trans h.fr.os, htape.trans h.fr.tape, hout.trans h.fr.output, by rw [hsize]; exact h.fr.size, fun g hg _ => hold g hg⟩, ?_⟩
  · intro u y hu
    have hk : ∀ g ∈ G.fp u, w1.heap[g]? = w.heap[g]? := fun g hg => hw1 g (fun e => hno u y hu (by rw [← e]; exact hg))
    have hob := h.inv.ob u y hu
    cases y with
    | row sz cs =>
      obtain ⟨h0, vs, fq, h1, h2, h3⟩ := hob
      exact ⟨h0, vs, fq, h1.frame fun g hx => hk g (by rw [h3]; simp [hx]), h2.frame (hk _ (by rw [h3]; simp)), h3⟩
    | box as2 =>
      obtain ⟨vs, ar, e, h1, h2, h3, h4⟩ := hob
      exact ⟨vs, ar, e, (hk _ (by rw [h4]; simp)).trans h1, h2, h3.imp hf, h4⟩
  · intro u y hu g hg
    rcases h.own u y hu g hg with k | k
    · exact absurd (by rw [← hF g k]; exact hg) (hno u y hu)
    · exact .inr k
/-- The call of a function that is lent one variable. -/
theorem lend_ok (hT : ∀ f af, T f = some af → FunOk P ex f af) (h : Rel F w0 G s a w) {f : FuncId} {x : AX} {ys : List (AX × List Nat)} {xs : Array Operand} (hax : axsB xs.toList (x :: ys.map (·.1)) = true) (hv : callLend ex T f x ys d s = some (sv, s')) :
    (∃ fn cd, P.funcs[f]? = some fn ∧ fn.body = some cd ∧ fn.name ≠ "runtime.NumGoroutine") ∧ Back P f (xs.map a.eval) w fun v w' => ∃ G', Rel F w0 G' s' a w' ∧ SRel G' s'.mem w' sv v := by
  unfold callLend at hv
  split at hv
  · rename_i t as_ vs hbox hargs
    split at hv
    · rename_i sv0 bs obs hrun
      split at hv
      · rename_i hck
        simp only [Option.some.injEq, Prod.mk.injEq] at hv
        obtain ⟨rfl, rfl⟩ := hv
        obtain ⟨hlen0, hfree⟩ := hck
        unfold runLend at hrun
        split at hrun
        · rename_i af haf
          obtain ⟨_, fn, cd, h1, h2, h3, h4, h5, h6⟩ := hT f af haf
          refine ⟨⟨fn, cd, h1, h2, h3⟩, ?_⟩
          split at hrun
          · rename_i hlen
            -- the variable
            unfold lendBox at hbox
            split at hbox
            · rename_i t' hone
              split at hbox
              · rename_i as' hm
                split at hbox
                · rename_i hids
                  simp only [Option.some.injEq, Prod.mk.injEq] at hbox
                  obtain ⟨rfl, rfl⟩ := hbox
                  obtain ⟨x0, xr, hxs⟩ : ∃ x0 xr, xs.toList = x0 :: xr := by
                    cases hxl : xs.toList with
                    | nil => rw [hxl] at hax; simp [axsB] at hax
                    | cons x0 xr => exact ⟨x0, xr, rfl⟩
                  rw [hxs] at hax
                  simp only [axsB, Bool.and_eq_true] at hax
                  obtain ⟨A, hA, hpr⟩ := eval_one h hax.1 hone
                  have hA' : A = ⟨G.b t', 0, none⟩ := by
                    rcases hpr with ⟨z, ds, hz, _⟩ | ⟨_, _, _, hA⟩
                    · rw [hm] at hz; cases hz
                    · exact hA
                  subst hA'
                  obtain ⟨bvs, barr, be, b1, b2, b3, b4⟩ := h.inv.ob _ _ hm
                  have hbids : ∀ y ∈ as', y.ids.isEmpty = true := fun y hy => List.all_eq_true.1 hids y hy
                  let Gc : Gh := ⟨fun _ => G.b t', fun _ => G.o t', fun _ => [G.b t'], G.R⟩
                  let mc : Mem := memL [some (.box as')]
                  have mc_get : ∀ u y, mc u = some y → u = 0 ∧ y = .box as' := by
                    intro u y hy
                    cases u with
                    | zero => exact ⟨rfl, by simpa [mc, memL] using hy.symm⟩
                    | succ u => simp [mc, memL] at hy
                  have hRb : ¬ G.R (G.b t') := h.inv.ro _ _ hm _ (by rw [b4]; simp)
                  have hbs0 : All2 (A1Rel Gc mc w) as' bvs := ⟨b3.1, fun i y v hy hv => (b3.2 i y v hy hv).free (hbids y (List.mem_of_getElem? hy)) (fun _ h => h) (fun _ _ => rfl)⟩
                  have hinv : Inv Gc mc w := by
                    refine ⟨?_, ?_, ?_, ?_, h.inv.lt⟩
                    · intro u y hy
                      obtain ⟨rfl, rfl⟩ := mc_get u y hy
                      exact ⟨bvs, barr, be, b1, b2, hbs0, rfl⟩
                    · intro u y hy; simp [Gc]
                    · intro u u' y y' hy hy' hne
                      obtain ⟨rfl, _⟩ := mc_get u y hy
                      obtain ⟨rfl, _⟩ := mc_get u' y' hy'
                      exact absurd rfl hne
                    · intro u y hy g hg
                      simp [Gc] at hg
                      subst hg
                      exact hRb
                  have hra := roArgs_rel (b := G.b) (o := G.o) (fp := G.fp) (R := G.R) h (fun _ h => h) hax.2 hargs (fun e => by cases e)
                  have hra' : All2 (SRel Gc mc w) vs (xr.map a.eval) := hra.imp fun y v hs => SRel.imp (fun y v hy => hy.none_mem (fun _ h => h)) hs
                  have hp0 : SRel Gc mc w (.v false [.pr 0 [] 0]) (.pointer (some ⟨G.b t', 0, none⟩)) := ⟨_, rfl, _, rfl, .inr ⟨as', rfl, rfl, rfl⟩⟩
                  have hargs1 : All2 (SRel Gc mc w) (.v false [.pr 0 [] 0] :: vs) (.pointer (some ⟨G.b t', 0, none⟩) :: xr.map a.eval) := .cons hp0 hra'
                  have hargs2 : (.pointer (some ⟨G.b t', 0, none⟩) :: xr.map a.eval) = (xs.map a.eval).toList := by rw [Array.toList_map, hxs, List.map_cons, hA]
                  rw [hargs2] at hargs1
                  have hent := entry_rel (w0 := w) (n := af.n) (Fc := ⟨fun g => g = G.b t', [.pointer (some ⟨G.b t', 0, none⟩)], G.R⟩) (G := Gc) (m := mc) (up := [.v false [.pr 0 [] 0]]) hargs1 (.cons hp0 .nil) (fun _ h => .inl h) hinv
                    ⟨rfl, rfl, rfl, Nat.le_refl _, fun _ _ _ => rfl⟩ (fun u y hy g hg => .inl (by simpa [Gc] using hg)) (by simpa using hlen)
                  have hA3 : ∀ {G3 : Gh} {w3 : World} {m3 : Mem}, Rel F w0 G3 ⟨s.slots, m3, s.up⟩ a w3 → A1Rel G3 m3 w3 (.pr t' [] 0) (.pointer (some ⟨G.b t', 0, none⟩)) := by
                    intro G3 w3 m3 h3
                    have k := eval_one (x := x0) h3 hax.1 (show (⟨s.slots, m3, s.up⟩ : St).one x = some (.pr t' [] 0) from hone)
                    rw [hA] at k
                    exact k
                  have fin : ∀ e z, ex af.body ⟨⟨(.v false [.pr 0 [] 0] :: vs) ++ List.replicate (af.n - (vs.length + 1)) (.tup []), mc, [.v false [.pr 0 [] 0]]⟩, 1⟩ = some (e, z) → (∀ i, e ≠ .exit i) → lendEnd z.st af.res = some (sv0, bs, obs) →
                      Back P f (xs.map a.eval) w fun v w' => ∃ G', Rel F w0 G' ⟨s.slots, upd (addMem s.mem d obs) t' (some (.box bs)), s.up⟩ a w' ∧ SRel G' (upd (addMem s.mem d obs) t' (some (.box bs))) w' (sv0.map (ren (shift d obs.length))) v := by
                    intro e z hex hne hend
                    refine calls_of_wp h1 h2 ?_
                    rw [h4, ← Array.toArray_toList (xs := xs.map a.eval)]
                    refine wp_mono (h6 _ _ _ _ _ _ _ _ hex hent) fun x a' w' ⟨hx, G1, hrel⟩ => ?_
                    unfold lendEnd at hend
                    split at hend
                    · rename_i l tb hres hup
                      split at hend
                      · rename_i bs' hmb
                        simp only at hend
                        split at hend
                        · rename_i hcond
                          obtain ⟨obs', hob1, he⟩ := Option.map_eq_some_iff.1 hend
                          simp only [Prod.mk.injEq] at he
                          obtain ⟨rfl, rfl, rfl⟩ := he
                          obtain ⟨hids2, hnot⟩ := hcond
                          obtain ⟨v, hrv, hsr⟩ := results_ok (P := P) hrel h5 hres
                          -- where the variable is now
                          have hupr := hrel.up
                          rw [hup] at hupr
                          have hpt : SRel G1 z.st.mem w' (.v false [.pr tb [] 0]) (.pointer (some ⟨G.b t', 0, none⟩)) := hupr.2 0 _ _ rfl rfl
                          obtain ⟨y1, e1, hpt⟩ := hpt
                          cases e1
                          obtain ⟨A1, e2, hp1⟩ := hpt
                          cases e2
                          have hGb : G1.b tb = G.b t' := by
                            rcases hp1 with ⟨zz, ds, hz, _⟩ | ⟨_, _, _, hA⟩
                            · rw [hmb] at hz; cases hz
                            · exact (congrArg Addr.block hA).symm
                          obtain ⟨cvs, carr, ce, c1, c2, c3, c4⟩ := hrel.inv.ob _ _ hmb
                          rw [hGb] at c1
                          -- the world in which the variable is as it was: all else is only more
                          have hglt : G.b t' < w.heap.size := (Array.getElem?_eq_some_iff.1 b1).1
                          have hglt' : G.b t' < w'.heap.size := (Array.getElem?_eq_some_iff.1 c1).1
                          let w1 : World := { w' with heap := w'.heap.setIfInBounds (G.b t') (.cells barr be (0, 0)) }
                          have hw1 : ∀ y, y ≠ G.b t' → w1.heap[y]? = w'.heap[y]? := by
                            intro y hy
                            simp only [w1, Array.getElem?_setIfInBounds]
                            rw [if_neg (fun e => hy e.symm)]
                          have hw1g : w1.heap[G.b t']? = some (.cells barr be (0, 0)) := by
                            simp only [w1, Array.getElem?_setIfInBounds_self_of_lt hglt']
                          have hbl : bs'.length = as'.length := hlen0
                          have hRc : ¬ G1.R (G.b t') := hrel.inv.ro _ _ hmb _ (by rw [c4, hGb]; simp)
                          -- what is new
                          obtain ⟨G2, hcan, hconv, hfp, hG2R⟩ := hrel.canonF (reach_nodup (m := z.st.mem) (k := 64) (l := SV.ids (resSV l)) (seen := []) (by simp))
                          generalize hts : reach z.st.mem 64 (SV.ids (resSV l)) [] = ts at hcan hconv hfp hob1 hnot ⊢
                          have hnb : ∀ u y, (z.st.canon ts).mem u = some y → G.b t' ∉ G2.fp u := by
                            intro u y hy hg
                            obtain ⟨q, zz, hq, hz, hf⟩ := hfp u y hy
                            rw [hf] at hg
                            have hqt : q ≠ tb := by
                              rintro rfl
                              have hqm := List.mem_of_getElem? hq
                              simp [hqm] at hnot
                            exact hrel.inv.apart q tb zz _ hz hmb hqt _ hg (by rw [c4, hGb]; simp)
                          have hc : Rel ⟨fun _ => False, [.pointer (some ⟨G.b t', 0, none⟩)], G.R⟩ w G2 (z.st.canon ts) a' w1 :=
                            hcan.revert (gb := G.b t') rfl rfl rfl hnb (by rw [hG2R]; exact hRc) hw1 rfl rfl rfl (by simp [w1]) (fun g hg => by
                              by_cases hgt : g = G.b t'
                              · subst hgt; rw [hw1g, b1]
                              · rw [hw1 g hgt]; exact hrel.fr.block g hg hgt) (fun g hg => hg)
                          obtain ⟨o1, o2⟩ := allObs_spec hob1
                          simp only [List.length_range] at o1
                          have hobs : ∀ i, (z.st.canon ts).mem i = obs'[i]? := by
                            intro i
                            by_cases hi : i < ts.length
                            · exact o2 i i (by simp [hi])
                            · rw [List.getElem?_eq_none (by omega)]
                              rw [canon_mem, List.getElem?_eq_none (by omega)]
                              rfl
                          have hd0 : ∀ i, i < obs'.length → s.mem (d + i) = none := by
                            intro i hi
                            have hz := List.all_eq_true.1 hfree i (by simpa using hi)
                            simpa using hz
                          have hRR : ∀ g, G2.R g → G.R g ∨ w.heap.size ≤ g := fun g hg => hcan.rr g hg
                          obtain ⟨G3, t1, t2, t3⟩ := h.take (d := d) (obs := obs') hc (fun g h => h) hobs hd0 (.inl hRR)
                          have hm3 : addMem s.mem d obs' t' = some (.box as') := by
                            simp only [addMem]
                            rw [if_neg]
                            · exact hm
                            · rintro ⟨q1, q2⟩
                              have := hd0 (t' - d) (by omega)
                              rw [show d + (t' - d) = t' by omega, hm] at this
                              cases this
                          -- the variable
                          have hG3b : G3.b t' = G.b t' := by
                            obtain ⟨A3, e3, hA3⟩ : A1Rel G3 (addMem s.mem d obs') w1 (.pr t' [] 0) (.pointer (some ⟨G.b t', 0, none⟩)) := hA3 t1
                            cases e3
                            rcases hA3 with ⟨_, _, hq, _⟩ | ⟨_, _, _, hq⟩
                            · rw [hm3] at hq; cases hq
                            · exact (congrArg Addr.block hq).symm
                          have hbs2 : ∀ y ∈ bs', y.ids.isEmpty = true := fun y hy => List.all_eq_true.1 hids2 y hy
                          have hRw : ∀ g, G1.R g → w1.heap[g]? = w'.heap[g]? := fun g hg => hw1 g (fun e => hRc (by rw [← e]; exact hg))
                          have hG3R : ∀ g, G1.R g → G3.R g := fun g hg => t2 hRR g (by rw [hG2R]; exact hg)
                          have hb2 : All2 (A1Rel G3 (addMem s.mem d obs') w1) bs' cvs := ⟨c3.1, fun i y v hy hv => (c3.2 i y v hy hv).free (hbs2 y (List.mem_of_getElem? hy)) hG3R hRw⟩
                          have hwr : Wr w1 w' (G3.b t') 0 cvs := by
                            rw [hG3b]
                            refine ⟨rfl, rfl, rfl, by simp [w1], ⟨barr, carr, be, ce, hw1g, c1, ?_, ?_, ?_⟩, fun y hy => (hw1 y hy).symm⟩
                            · rw [c2, b2]; simp; rw [← c3.1, ← b3.1, hbl]
                            · intro i hi
                              have l1 : barr.size = bvs.length := by rw [b2]; simp
                              have l2 : carr.size = cvs.length := by rw [c2]; simp
                              have l3 := c3.1
                              have l4 := b3.1
                              rw [Array.getElem?_eq_none (by omega), Array.getElem?_eq_none (by omega)]
                            · intro j x hx
                              rw [c2]
                              simpa using hx
                          obtain ⟨hst, hsc⟩ := t1.storeBox (j := 0) hm3 (by simp [hbl]) hwr hb2
                          have hspl : spl bs' 0 as' = bs' := by
                            simp only [spl, List.take_zero, List.nil_append, Nat.zero_add]
                            rw [List.drop_eq_nil_of_le (by omega), List.append_nil]
                          rw [hspl] at hst hsc
                          have s1 : SRel G2 (z.st.canon ts).mem w1 ((resSV l).map (ren (pos ts))) v := by
                            have s0 : SRel G2 (z.st.canon ts).mem w' ((resSV l).map (ren (pos ts))) v := SRel.mapA hconv hsr
                            refine SRel.imp (fun y v hy => hy.frame hcan.inv (fun u hu g hg => ?_) (fun g hg => hw1 g (fun e => hRc (by rw [← e, ← hG2R]; exact hg)))) s0
                            obtain ⟨zz, hzz⟩ := hy.dom u hu
                            exact hw1 g (fun e => hnb u zz hzz (by rw [← e]; exact hg))
                          have hfin := SRel.imp hsc (SRel.mapN (.inl hRR) t3 s1)
                          cases e with
                          | exit i => exact absurd rfl (hne i)
                          | nrm =>
                            cases x <;> simp only [ERel] at hx
                            exact ⟨hrel.defers, v, hrv, G3, hst, hfin⟩
                          | ret =>
                            cases x <;> simp only [ERel] at hx
                            exact ⟨hrel.defers, v, hrv, G3, hst, hfin⟩
                        · cases hend
                      · cases hend
                    · cases hend
                  split at hrun
                  · cases hrun
                  · rename_i e z hne hex
                    exact fin e z hex (fun i hi => by subst hi; exact hne i rfl) hrun
                  · cases hrun
                · cases hbox
              · cases hbox
            · cases hbox
          · cases hrun
        · cases hrun
      · cases hv
    · cases hv
  · cases hv
end
end Go.Proofs.YtbdokibepndibaaGreat.Eng
