/- An interpreter of the model's code over tagged trees, seventeenth part: names of rows and variables changed; what a call brings back. -/
import Derived.Test.YtbdokibepndibaaGreatEngV
namespace Go.Proofs.YtbdokibepndibaaGreat.Eng
open Go.RowKit

def renL (ρ : Nat → Option Nat) : List Nat → Option (List Nat)
  | [] => some []
  | t :: r => match ρ t, renL ρ r with
    | some u, some q => some (u :: q)
    | _, _ => none
def ren (ρ : Nat → Option Nat) : A1 → A1
  | .sl t p off n => match ρ t with | some u => .sl u p off n | none => .bad
  | .pr t p off => match ρ t with | some u => .pr u p off | none => .bad
  | .fn f caps => match renL ρ caps with | some cs => .fn f cs | none => .bad
  | a => a
/-- It does not lead to what is only read. -/
def A1.noRo : A1 → Bool
  | .ro _ cs => cs.isEmpty
  | .pc cs => cs.isEmpty
  | .rx _ cs => cs.isEmpty
  | _ => true
def pos : List Nat → Nat → Option Nat
  | [], _ => none
  | u :: r, t => if u = t then some 0 else (pos r t).map (· + 1)
/-- Memory by a list of what it holds. -/
def memL (l : List (Option Ob)) : Mem := fun u => (l[u]?).getD none
def St.canon (s : St) (ts : List Nat) : St :=
  ⟨s.slots.map (SV.map (ren (pos ts))), memL (ts.map fun t => (s.mem t).map (Ob.map (ren (pos ts)))), s.up.map (SV.map (ren (pos ts)))⟩
theorem canon_mem (s : St) (ts : List Nat) (u : Nat) : (s.canon ts).mem u = (ts[u]?).bind fun t => (s.mem t).map (Ob.map (ren (pos ts))) := by
  simp only [St.canon, memL, List.getElem?_map]
  cases ts[u]? <;> rfl
def shift (d k : Nat) (t : Nat) : Option Nat := if t < k then some (d + t) else none
def addMem (m : Mem) (d : Nat) (obs : List Ob) : Mem := fun u => if d ≤ u ∧ u < d + obs.length then (obs[u - d]?).map (Ob.map (ren (shift d obs.length))) else m u

section
variable {P : Program} {F : Own} {w0 : World} {G G' : Gh} {s s' : St} {a : Act} {w w' : World} {sv : SV} {o : Oper} {d : Nat} {m m' : Mem}
theorem pos_some {ts : List Nat} {t u : Nat} (h : pos ts t = some u) : ts[u]? = some t := by
  induction ts generalizing u with
  | nil => cases h
  | cons x r ih =>
    simp only [pos] at h
    split at h
    · rename_i e; cases h; simp [e]
    · obtain ⟨v, hv, rfl⟩ := Option.map_eq_some_iff.1 h
      simpa using ih hv
theorem A1Rel.ren {ρ : Nat → Option Nat} {x : A1} {v : Value} (h : A1Rel G m w x v)
    (hG : ∀ t u, ρ t = some u → ∀ z, m t = some z → G'.b u = G.b t ∧ G'.o u = G.o t ∧ ∃ y, m' u = some y ∧ Ob.like z y) (hR : (∀ g, G.R g → G'.R g) ∨ x.noRo = true) :
    A1Rel G' m' w (ren ρ x) v := by
  have hone := h.one
  have hat : ∀ t u p off A, ρ t = some u → At G m w t p off A → At G' m' w u p off A := by
    rintro t u p off A ht ⟨sz, cs, hm, hn⟩
    obtain ⟨e1, e2, y, hy, hl⟩ := hG t u ht _ hm
    obtain rfl := like_row hl
    refine ⟨sz, cs, hy, fun ns hns hne => ?_⟩
    rw [e1, e2]
    exact hn ns hns hne
  cases x with
  | sl t p off n =>
    simp only [Eng.ren]
    split
    · rename_i u ht
      obtain ⟨A, c, rfl, hn, ⟨sz, cs, hm, hcov⟩, h2, h3⟩ := h
      obtain ⟨e1, e2, y, hy, hl⟩ := hG t u ht _ hm
      obtain rfl := like_row hl
      refine ⟨A, c, rfl, hn, ⟨sz, cs, hy, hcov⟩, h2.imp id (hat t u p off A ht), fun hp sz1 cs1 hm1 hc => ?_⟩
      rw [hy] at hm1
      cases hm1
      rw [e1, e2]
      exact h3 hp sz cs hm hc
    · exact hone
  | ro n cs =>
    obtain ⟨A, c, rfl, hn, h⟩ := h
    refine ⟨A, c, rfl, hn, ?_⟩
    rcases hR with hR | hR
    · exact h.frame hR fun _ _ => rfl
    · exact .inl (by simpa [A1.noRo] using hR)
  | pr t p off =>
    simp only [Eng.ren]
    split
    · rename_i u ht
      obtain ⟨A, rfl, h⟩ := h
      refine ⟨A, rfl, ?_⟩
      rcases h with h | ⟨as_, hm, hp, hA⟩
      · exact .inl (hat t u p off _ ht h)
      · obtain ⟨e1, e2, y, hy, hl⟩ := hG t u ht _ hm
        obtain ⟨bs, rfl⟩ := like_box hl
        exact .inr ⟨bs, hy, hp, by rw [e1]; exact hA⟩
    · exact hone
  | pc cs =>
    obtain ⟨A, rfl, h⟩ := h
    refine ⟨A, rfl, ?_⟩
    rcases hR with hR | hR
    · exact h.frame hR fun _ _ => rfl
    · exact .inl (by simpa [A1.noRo] using hR)
  | rx n cs =>
    obtain ⟨A, rfl, hn, h⟩ := h
    refine ⟨A, rfl, hn, ?_⟩
    rcases hR with hR | hR
    · exact h.frame hR fun _ _ => rfl
    · exact .inl (by simpa [A1.noRo] using hR)
  | fn f caps =>
    simp only [Eng.ren]
    split
    · rename_i cs hcs
      obtain ⟨rfl, h⟩ := h
      have key : ∀ {l q : List Nat}, renL ρ l = some q → (∀ t ∈ l, ∃ as_, m t = some (.box as_)) → (q.map fun t => Value.pointer (some ⟨G'.b t, 0, none⟩)) = (l.map fun t => Value.pointer (some ⟨G.b t, 0, none⟩)) ∧ ∀ t ∈ q, ∃ as_, m' t = some (.box as_) := by
        intro l
        induction l with
        | nil => intro q hq _; cases hq; simp
        | cons t r ih =>
          intro q hq hb
          simp only [renL] at hq
          split at hq <;> cases hq
          rename_i u q' hu hq'
          obtain ⟨k1, k2⟩ := ih hq' fun t ht => hb t (by simp [ht])
          obtain ⟨as_, hm⟩ := hb t (by simp)
          obtain ⟨e1, _, y, hy, hl⟩ := hG t u hu _ hm
          obtain ⟨bs, rfl⟩ := like_box hl
          refine ⟨by simp [e1, k1], fun t' ht' => ?_⟩
          simp only [List.mem_cons] at ht'
          rcases ht' with rfl | ht'
          · exact ⟨bs, hy⟩
          · exact k2 t' ht'
      obtain ⟨k1, k2⟩ := key hcs h
      exact ⟨by rw [k1], k2⟩
    · exact hone
  | _ => exact h
/-- Names changed: all stands. -/
theorem Rel.canonF (h : Rel F w0 G s a w) {ts : List Nat} (hts : ts.Nodup) : ∃ G', Rel F w0 G' (s.canon ts) a w ∧ (∀ x v, A1Rel G s.mem w x v → A1Rel G' (s.canon ts).mem w (ren (pos ts) x) v) ∧
    (∀ u y, (s.canon ts).mem u = some y → ∃ t z, ts[u]? = some t ∧ s.mem t = some z ∧ G'.fp u = G.fp t) ∧ G'.R = G.R := by
  refine ⟨{ b := fun u => G.b (ts.getD u 0), o := fun u => G.o (ts.getD u 0), fp := fun u => G.fp (ts.getD u 0), R := G.R }, ?_⟩
  have gd : ∀ u t, ts[u]? = some t → ts.getD u 0 = t := fun u t hu => by simp [List.getD, hu]
  have conv : ∀ x v, A1Rel G s.mem w x v → A1Rel { b := fun u => G.b (ts.getD u 0), o := fun u => G.o (ts.getD u 0), fp := fun u => G.fp (ts.getD u 0), R := G.R } (s.canon ts).mem w (ren (pos ts) x) v := by
    intro x v hx
    refine hx.ren (fun t u hu z hz => ?_) (.inl fun _ h => h)
    have hp := pos_some hu
    refine ⟨by simp only [gd u t hp], by simp only [gd u t hp], z.map (ren (pos ts)), by simp [canon_mem, hp, hz], like_map _ _⟩
  have get : ∀ u y, (s.canon ts).mem u = some y → ∃ t z, ts[u]? = some t ∧ s.mem t = some z ∧ y = z.map (ren (pos ts)) := by
    intro u y hy
    rw [canon_mem] at hy
    obtain ⟨t, ht, hy⟩ := Option.bind_eq_some_iff.1 hy
    obtain ⟨z, hz, rfl⟩ := Option.map_eq_some_iff.1 hy
    exact ⟨t, z, ht, hz, rfl⟩
  refine ⟨?_, conv, fun u y hy => by obtain ⟨t, z, ht, hz, _⟩ := get u y hy; exact ⟨t, z, ht, hz, by simp only [gd u t ht]⟩, rfl⟩
  refine ⟨h.defers, h.slots.mapL (fun s v hs => SRel.mapA conv hs), h.up.mapL (fun s v hs => SRel.mapA conv hs), h.rr, ⟨?_, ?_, ?_, ?_, h.inv.lt⟩, h.fr, ?_⟩
  · intro u y hy
    obtain ⟨t, z, ht, hz, rfl⟩ := get u y hy
    have e := gd u t ht
    have hob := h.inv.ob t z hz
    cases z with
    | row sz cs =>
      obtain ⟨h0, vs, fq, h1, h2, h3⟩ := hob
      exact ⟨h0, vs, fq, h1, by simp only [e]; exact h2, by simp only [e]; exact h3⟩
    | box as_ =>
      obtain ⟨vs, ar, e', h1, h2, h3, h4⟩ := hob
      exact ⟨vs, ar, e', by simp only [e]; exact h1, h2, h3.mapL conv, by simp only [e]; exact h4⟩
  · intro u y hy
    obtain ⟨t, z, ht, hz, rfl⟩ := get u y hy
    simp only [gd u t ht]
    exact h.inv.nd t z hz
  · intro u u' y y' hy hy' hne g hg
    obtain ⟨t, z, ht, hz, rfl⟩ := get u y hy
    obtain ⟨t', z', ht', hz', rfl⟩ := get u' y' hy'
    simp only [gd u t ht] at hg
    simp only [gd u' t' ht']
    refine h.inv.apart t t' z z' hz hz' (fun e => hne ?_) g hg
    subst e
    have hlt := (List.getElem?_eq_some_iff.1 ht).1
    have hlt' := (List.getElem?_eq_some_iff.1 ht').1
    rw [List.getElem?_eq_getElem hlt] at ht
    rw [List.getElem?_eq_getElem hlt'] at ht'
    have hpw := List.pairwise_iff_getElem.1 hts
    rcases Nat.lt_trichotomy u u' with hl | hl | hl
    · exact absurd (by rw [Option.some.inj ht, Option.some.inj ht']) (hpw u u' hlt hlt' hl)
    · exact hl
    · exact absurd (by rw [Option.some.inj ht, Option.some.inj ht']) (hpw u' u hlt' hlt hl)
  · intro u y hy g hg
    obtain ⟨t, z, ht, hz, rfl⟩ := get u y hy
    simp only [gd u t ht] at hg
    exact h.inv.ro t z hz g hg
  · intro u y hy g hg
    obtain ⟨t, z, ht, hz, rfl⟩ := get u y hy
    simp only [gd u t ht] at hg
    exact h.own t z hz g hg
theorem Rel.canon (h : Rel F w0 G s a w) {ts : List Nat} (hts : ts.Nodup) : ∃ G', Rel F w0 G' (s.canon ts) a w ∧ ∀ x v, A1Rel G s.mem w x v → A1Rel G' (s.canon ts).mem w (ren (pos ts) x) v := by
  obtain ⟨G', h1, h2, _⟩ := h.canonF hts
  exact ⟨G', h1, h2⟩
/-- What a call that wrote nothing old has made is taken over. -/
theorem Rel.take {Gc : Gh} {sc : St} {ac : Act} {obs : List Ob} {Fc : Own} (h : Rel F w0 G s a w) (hc : Rel Fc w Gc sc ac w') (hFc : ∀ g, ¬ Fc g) (hobs : ∀ i, sc.mem i = obs[i]?) (hd : ∀ i, i < obs.length → s.mem (d + i) = none)
    (hR : (∀ g, Gc.R g → G.R g ∨ w.heap.size ≤ g) ∨ ∀ as_, Ob.box as_ ∈ obs → as_.all A1.noRo = true) :
    ∃ G', Rel F w0 G' ⟨s.slots, addMem s.mem d obs, s.up⟩ a w' ∧ ((∀ g, Gc.R g → G.R g ∨ w.heap.size ≤ g) → ∀ g, Gc.R g → G'.R g) ∧ ∀ x v, ((∀ g, Gc.R g → G.R g ∨ w.heap.size ≤ g) ∨ x.noRo = true) → A1Rel Gc sc.mem w' x v → A1Rel G' (addMem s.mem d obs) w' (ren (shift d obs.length) x) v := by
  have hgrow : Grows w w' := fun g hg => hc.fr.block g hg (hFc g)
  have hsize := hc.fr.size
  refine ⟨{ b := fun u => if d ≤ u ∧ u < d + obs.length then Gc.b (u - d) else G.b u, o := fun u => if d ≤ u ∧ u < d + obs.length then Gc.o (u - d) else G.o u, fp := fun u => if d ≤ u ∧ u < d + obs.length then Gc.fp (u - d) else G.fp u, R := fun g => G.R g ∨ (w.heap.size ≤ g ∧ Gc.R g) }, ?_, fun k g hg => (k g hg).imp id (fun h => ⟨h, hg⟩), ?_⟩
  case refine_2 =>
    intro x v hx hr
    refine hr.ren (fun t u hu z hz => ?_) (hx.imp (fun k g hg => (k g hg).imp id fun h => ⟨h, hg⟩) id)
    unfold shift at hu
    split at hu <;> cases hu
    rename_i ht
    have hin : d ≤ d + t ∧ d + t < d + obs.length := by omega
    refine ⟨by simp only [if_pos hin, Nat.add_sub_cancel_left], by simp only [if_pos hin, Nat.add_sub_cancel_left], z.map (ren (shift d obs.length)), ?_, like_map _ _⟩
    rw [hobs] at hz
    simp only [addMem, if_pos hin, Nat.add_sub_cancel_left, hz, Option.map_some]
  have conv0 : ∀ x v, A1Rel G s.mem w x v → A1Rel { b := fun u => if d ≤ u ∧ u < d + obs.length then Gc.b (u - d) else G.b u, o := fun u => if d ≤ u ∧ u < d + obs.length then Gc.o (u - d) else G.o u, fp := fun u => if d ≤ u ∧ u < d + obs.length then Gc.fp (u - d) else G.fp u, R := fun g => G.R g ∨ (w.heap.size ≤ g ∧ Gc.R g) } (addMem s.mem d obs) w' x v := by
    intro x v hx
    refine (hx.grows hgrow h.inv.lt).congr (fun t _ z hz => ?_) (fun _ h => .inl h)
    have hout : ¬ (d ≤ t ∧ t < d + obs.length) := by
      rintro ⟨h1, h2⟩
      have := hd (t - d) (by omega)
      rw [show d + (t - d) = t by omega, hz] at this
      cases this
    refine ⟨by simp only [if_neg hout], by simp only [if_neg hout], z, by simp only [addMem, if_neg hout]; exact hz, ?_⟩
    cases z
    · exact ⟨rfl, rfl⟩
    · exact trivial
  have conv1 : ∀ x v, ((∀ g, Gc.R g → G.R g ∨ w.heap.size ≤ g) ∨ x.noRo = true) → A1Rel Gc sc.mem w' x v → A1Rel { b := fun u => if d ≤ u ∧ u < d + obs.length then Gc.b (u - d) else G.b u, o := fun u => if d ≤ u ∧ u < d + obs.length then Gc.o (u - d) else G.o u, fp := fun u => if d ≤ u ∧ u < d + obs.length then Gc.fp (u - d) else G.fp u, R := fun g => G.R g ∨ (w.heap.size ≤ g ∧ Gc.R g) } (addMem s.mem d obs) w' (ren (shift d obs.length) x) v := by
    intro x v hx hr
    refine hr.ren (fun t u hu z hz => ?_) (hx.imp (fun k g hg => (k g hg).imp id fun h => ⟨h, hg⟩) id)
    unfold shift at hu
    split at hu <;> cases hu
    rename_i ht
    have hin : d ≤ d + t ∧ d + t < d + obs.length := by omega
    refine ⟨by simp only [if_pos hin, Nat.add_sub_cancel_left], by simp only [if_pos hin, Nat.add_sub_cancel_left], z.map (ren (shift d obs.length)), ?_, like_map _ _⟩
    rw [hobs] at hz
    simp only [addMem, if_pos hin, Nat.add_sub_cancel_left, hz, Option.map_some]
  have get : ∀ u y, addMem s.mem d obs u = some y → (d ≤ u ∧ u < d + obs.length ∧ ∃ z, sc.mem (u - d) = some z ∧ z ∈ obs ∧ y = z.map (ren (shift d obs.length))) ∨ (¬ (d ≤ u ∧ u < d + obs.length) ∧ s.mem u = some y) := by
    intro u y hy
    unfold addMem at hy
    split at hy
    · rename_i hin
      obtain ⟨z, hz, rfl⟩ := Option.map_eq_some_iff.1 hy
      exact .inl ⟨hin.1, hin.2, z, by rw [hobs]; exact hz, List.mem_of_getElem? hz, rfl⟩
    · rename_i hout
      exact .inr ⟨hout, hy⟩
  have hnew : ∀ u z, sc.mem u = some z → ∀ g ∈ Gc.fp u, w.heap.size ≤ g := fun u z hz g hg => (hc.own u z hz g hg).resolve_left (hFc g)
  have hold : ∀ u z, s.mem u = some z → ∀ g ∈ G.fp u, g < w.heap.size := fun u z hz g hg => (h.inv.ob u z hz).lt g hg
  refine ⟨h.defers, h.slots.imp (fun s v hs => SRel.imp conv0 hs), h.up.imp (fun s v hs => SRel.imp conv0 hs), fun g hg => hg.elim (h.rr g) (fun hg => .inr (Nat.le_trans h.fr.size hg.1)), ⟨?_, ?_, ?_, ?_, fun g hg => hg.elim (fun hg => Nat.lt_of_lt_of_le (h.inv.lt g hg) hsize) (fun hg => hc.inv.lt g hg.2)⟩, ?_, ?_⟩
  · intro u y hy
    rcases get u y hy with ⟨h1, h2, z, hz, hzo, rfl⟩ | ⟨hout, hz⟩
    · have hin : d ≤ u ∧ u < d + obs.length := ⟨h1, h2⟩
      have hob := hc.inv.ob _ z hz
      cases z with
      | row sz cs =>
        obtain ⟨h0, vs, fq, h1, h2, h3⟩ := hob
        exact ⟨h0, vs, fq, h1, by simp only [if_pos hin]; exact h2, by simp only [if_pos hin]; exact h3⟩
      | box as_ =>
        obtain ⟨vs, ar, e', h1, h2, h3, h4⟩ := hob
        refine ⟨vs, ar, e', by simp only [if_pos hin]; exact h1, h2, ?_, by simp only [if_pos hin]; exact h4⟩
        have hk : ∀ x ∈ as_, (∀ g, Gc.R g → G.R g ∨ w.heap.size ≤ g) ∨ x.noRo = true := fun x hx => hR.imp id fun k => List.all_eq_true.1 (k as_ hzo) x hx
        refine ⟨by simp [h3.1], fun i x v hx hv => ?_⟩
        rw [List.getElem?_map] at hx
        obtain ⟨x', hx', rfl⟩ := Option.map_eq_some_iff.1 hx
        exact conv1 x' v (hk x' (List.mem_of_getElem? hx')) (h3.2 i x' v hx' hv)
    · have hob := h.inv.ob u y hz
      cases y with
      | row sz cs =>
        obtain ⟨h0, vs, fq, h1, h2, h3⟩ := hob
        exact ⟨h0, vs, fq, h1.frame fun g hg => hgrow g (h1.lt g hg), by simp only [if_neg hout]; exact h2.frame (hgrow _ h2.lt), by simp only [if_neg hout]; exact h3⟩
      | box as_ =>
        obtain ⟨vs, ar, e', h1, h2, h3, h4⟩ := hob
        exact ⟨vs, ar, e', by simp only [if_neg hout]; exact (hgrow _ (Array.getElem?_eq_some_iff.1 h1).1).trans h1, h2, h3.imp conv0, by simp only [if_neg hout]; exact h4⟩
  · intro u y hy
    rcases get u y hy with ⟨h1, h2, z, hz, hzo, rfl⟩ | ⟨hout, hz⟩
    · simp only [if_pos (show d ≤ u ∧ u < d + obs.length from ⟨h1, h2⟩)]; exact hc.inv.nd _ z hz
    · simp only [if_neg hout]; exact h.inv.nd u y hz
  · intro u u' y y' hy hy' hne g hg
    rcases get u y hy with ⟨h1, h2, z, hz, _, rfl⟩ | ⟨hout, hz⟩
    · simp only [if_pos (show d ≤ u ∧ u < d + obs.length from ⟨h1, h2⟩)] at hg
      rcases get u' y' hy' with ⟨h1', h2', z', hz', _, rfl⟩ | ⟨hout', hz'⟩
      · simp only [if_pos (show d ≤ u' ∧ u' < d + obs.length from ⟨h1', h2'⟩)]
        exact hc.inv.apart _ _ z z' hz hz' (by omega) g hg
      · simp only [if_neg hout']
        intro hg'
        have := hnew _ z hz g hg
        have := hold u' y' hz' g hg'
        omega
    · simp only [if_neg hout] at hg
      rcases get u' y' hy' with ⟨h1', h2', z', hz', _, rfl⟩ | ⟨hout', hz'⟩
      · simp only [if_pos (show d ≤ u' ∧ u' < d + obs.length from ⟨h1', h2'⟩)]
        intro hg'
        have := hnew _ z' hz' g hg'
        have := hold u y hz g hg
        omega
      · simp only [if_neg hout']
        exact h.inv.apart u u' y y' hz hz' hne g hg
  · intro u y hy g hg
    rcases get u y hy with ⟨h1, h2, z, hz, _, rfl⟩ | ⟨hout, hz⟩
    · simp only [if_pos (show d ≤ u ∧ u < d + obs.length from ⟨h1, h2⟩)] at hg
      rintro (hr | hr)
      · have := hnew _ z hz g hg
        have := h.inv.lt g hr
        omega
      · exact hc.inv.ro _ z hz g hg hr.2
    · simp only [if_neg hout] at hg
      rintro (hr | hr)
      · exact h.inv.ro u y hz g hg hr
      · have := hold u y hz g hg
        omega
  · exact ⟨hc.fr.os.trans h.fr.os, hc.fr.tape.trans h.fr.tape, hc.fr.output.trans h.fr.output, Nat.le_trans h.fr.size hsize, fun g hg hF => (hgrow g (Nat.lt_of_lt_of_le hg h.fr.size)).trans (h.fr.block g hg hF)⟩
  · intro u y hy g hg
    rcases get u y hy with ⟨h1, h2, z, hz, _, rfl⟩ | ⟨hout, hz⟩
    · simp only [if_pos (show d ≤ u ∧ u < d + obs.length from ⟨h1, h2⟩)] at hg
      have h3 := hnew _ z hz g hg
      have h4 := h.fr.size
      exact .inr (by omega)
    · simp only [if_neg hout] at hg
      exact h.own u y hz g hg
end
end Go.Proofs.YtbdokibepndibaaGreat.Eng
