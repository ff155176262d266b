/- An interpreter of the model's code over tagged trees, twenty-fourth part: such operations may stand in any order. -/
import Derived.Test.YtbdokibepndibaaGreatEng23
namespace Go.Proofs.YtbdokibepndibaaGreat.Eng
open Go.RowKit

def AOp.slots (o : AOp) : List Nat := (o.act.rd.filterMap fun x => match x with | .s i => some i | .c _ => none) ++ (o.guard.toList.map (·.1))
def AOp.plain (o : AOp) : Bool := o.act.rd.all fun x => match x with | .s _ => true | .c a => a.ids.isEmpty
def AO.isLend : AO → Bool
  | .lend _ _ _ => true
  | _ => false
def AOp.apart (x y : AOp) : Bool :=
  ((!x.act.isLend || y.act.noLd) && (!y.act.isLend || x.act.noLd)) && x.plain && y.plain && (match x.dst with | some d => !y.slots.contains d && y.dst != some d | none => true) && (match y.dst with | some d => !x.slots.contains d | none => true)
theorem AOp.apart_lend {x y : AOp} (h : x.apart y = true) : (x.act.isLend = true → y.act.noLd = true) ∧ (y.act.isLend = true → x.act.noLd = true) := by
  unfold AOp.apart at h
  simp only [Bool.and_eq_true, Bool.or_eq_true, Bool.not_eq_true'] at h
  obtain ⟨⟨⟨⟨⟨h1, h2⟩, _⟩, _⟩, _⟩, _⟩ := h
  exact ⟨fun e => h1.resolve_left (by simp [e]), fun e => h2.resolve_left (by simp [e])⟩
theorem AOp.apart_spec {x y : AOp} (h : x.apart y = true) : x.plain = true ∧ y.plain = true ∧ (∀ d, x.dst = some d → d ∉ y.slots) ∧ (∀ d, x.dst = some d → y.dst ≠ some d) ∧ (∀ d, y.dst = some d → d ∉ x.slots) := by
  unfold AOp.apart at h
  simp only [Bool.and_eq_true] at h
  obtain ⟨⟨⟨⟨_, h1⟩, h2⟩, h3⟩, h4⟩ := h
  refine ⟨h1, h2, fun d hd => ?_, fun d hd => ?_, fun d hd => ?_⟩
  · rw [hd] at h3; simp at h3; exact h3.1
  · rw [hd] at h3; simp at h3; exact h3.2
  · rw [hd] at h4; simpa using h4
/-- Some world stands to the state. -/
def Good (s : St) : Prop := ∃ F w0 G a w, Rel F w0 G s a w

section
variable {s s' s1 s2 : St} {xs : List AX} {T : FuncId → Option AFun} {ex : Ex} {d : Nat} {m m' : Mem}
theorem reps_mem {n : Nat} {z : List A1} {y : A1} (h : y ∈ reps n z) : y ∈ z := by
  induction n with
  | zero => simp [reps] at h
  | succ n ih =>
    simp only [reps, List.mem_append] at h
    exact h.elim id ih
theorem fillA_mem {ps : List (Nat × List A1)} : ∀ {z : List A1} {y : A1}, y ∈ fillA z ps → y ∈ z ∨ ∃ p ∈ ps, y ∈ p.2 := by
  induction ps with
  | nil => intro z y h; exact .inl h
  | cons p r ih =>
    intro z y h
    obtain ⟨off, as_⟩ := p
    simp only [fillA] at h
    rcases ih h with h | ⟨q, hq, hy⟩
    · simp only [List.mem_append] at h
      rcases h with (h | h) | h
      · exact .inl (List.mem_of_mem_take h)
      · exact .inr ⟨(off, as_), by simp, h⟩
      · exact .inl (List.mem_of_mem_drop h)
    · exact .inr ⟨q, by simp [hq], hy⟩
theorem parts_mem : ∀ {ps : List (Nat × Nat × AX)} {l : List (Nat × List A1)}, s.parts ps = some l → ∀ p ∈ l, ∃ x ∈ ps.map (·.2.2), ∃ ag, s.get x = some (.v ag p.2) := by
  intro ps
  induction ps with
  | nil => intro l h; simp only [St.parts, Option.some.injEq] at h; subst h; simp
  | cons q r ih =>
    intro l h p hp
    obtain ⟨off, sz, x⟩ := q
    simp only [St.parts] at h
    split at h
    · rename_i ag as_ hg
      split at h
      · obtain ⟨l', hl', rfl⟩ := Option.map_eq_some_iff.1 h
        simp only [List.mem_cons] at hp
        rcases hp with rfl | hp
        · exact ⟨x, by simp, ag, hg⟩
        · obtain ⟨x', hx', ag', hg'⟩ := ih hl' p hp
          exact ⟨x', by simp at hx' ⊢; exact .inr hx', ag', hg'⟩
      · cases h
    · cases h
theorem gEff_local {ao : AO} (h : Agree s s' ao.rd) : gEff ex T s d ao = gEff ex T s' d ao := by
  cases ao with
  | call f args => simp only [gEff]; rw [h.roArgs (ys := args) (fun x hx => hx)]
  | box sz x => simp only [gEff]; rw [h.get x (by simp [AO.rd])]
  | bxr sz x => simp only [gEff]; rw [h.get x (by simp [AO.rd])]
  | alc zero => rfl
  | lit0 => rfl
  | lit sz zero len ps =>
    simp only [gEff]
    rw [← h.parts (ps := ps) (fun x hx => hx)]
    cases hp : s.parts ps with
    | none => rfl
    | some l =>
      simp only [Option.bind_some]
      by_cases hc : inB (reps len zero).length l = true ∧ (zero.all fun x => x.ids.isEmpty) = true
      · rw [if_pos hc, if_pos hc]
        have e := toCells_eq (as_ := fillA (reps len zero) l) (m := s.mem) (m' := s'.mem) fun y hy t ht => by
          rcases fillA_mem hy with hy | ⟨p, hp', hy⟩
          · have := List.all_eq_true.1 hc.2 y (reps_mem hy)
            rw [List.isEmpty_iff.1 this] at ht
            simp at ht
          · obtain ⟨x, hx, ag, hg⟩ := parts_mem hp p hp'
            exact h.mem x hx _ hg t (by simp only [SV.ids, List.mem_flatMap]; exact ⟨y, hy, ht⟩)
        cases h1 : toCells s.mem (fillA (reps len zero) l) with
        | none =>
          rw [h1] at e
          cases h2 : toCells s'.mem (fillA (reps len zero) l) with
          | none => rfl
          | some q => rw [h2] at e; simp at e
        | some q1 =>
          rw [h1] at e
          cases h2 : toCells s'.mem (fillA (reps len zero) l) with
          | none => rw [h2] at e; simp at e
          | some q2 =>
            rw [h2] at e
            obtain ⟨c1, m1, t1⟩ := q1
            obtain ⟨c2, m2, t2⟩ := q2
            simp only [Option.map_some, Option.some.injEq, Prod.mk.injEq] at e
            obtain ⟨rfl, rfl⟩ := e
            cases t1 <;> rfl
      · rw [if_neg hc, if_neg hc]
  | litr sz zero len ps => simp only [gEff]; rw [← h.parts (ps := ps) (fun x hx => hx)]
  | apx sz b x y =>
    simp only [gEff]
    rw [← h.one (x := x) (by simp [AO.rd]), ← h.one (x := y) (by simp [AO.rd])]
    cases hx : s.one x with
    | none => rfl
    | some ax =>
      cases hy : s.one y with
      | none => cases ax <;> rfl
      | some ay =>
        cases ax with
        | rx n cs => simp only; rw [src_eq (h.ids (by simp [AO.rd]) hy)]
        | _ => rfl
  | mks sz b zero n => simp only [gEff]; rw [h.num (x := n) (by simp [AO.rd])]
  | app sz b x y =>
    simp only [gEff]
    rw [← h.one (x := x) (by simp [AO.rd]), ← h.one (x := y) (by simp [AO.rd])]
    cases hx : s.one x with
    | none => rfl
    | some ax =>
      cases hy : s.one y with
      | none => cases ax <;> rfl
      | some ay =>
        cases ax with
        | nil => simp only; rw [src_eq (h.ids (by simp [AO.rd]) hy)]
        | _ => rfl
  | _ => first | rfl | (simp only [gEff, AO.eff, Bool.false_eq_true, if_false]; rw [pure_local h])
theorem gRes_local {o : AOp} (h : Agree s s' o.act.rd) (hg : ∀ i b, o.guard = some (i, b) → s.slots[i]? = s'.slots[i]?) (hf : freshB s.mem d = freshB s'.mem d) : gRes ex T o d s = gRes ex T o d s' := by
  have hw : wantB s o.guard = wantB s' o.guard := by
    cases hh : o.guard with
    | none => rfl
    | some p => obtain ⟨i, b⟩ := p; simp only [wantB]; rw [hg i b hh]
  simp only [gRes]
  rw [hw, gEff_local h, hf]
theorem gRes_fresh {o : AOp} {r : SV × List Ob} (h : gRes ex T o d s = some r) : r.2 = [] ∨ (r.2.length ≤ 64 ∧ freshB s.mem d = true) := by
  unfold gRes at h
  split at h
  · cases h
  · cases h; exact .inl rfl
  · split at h
    · split at h <;> cases h
      rename_i hh
      exact .inr hh
    · cases h
theorem SRel.dom {G : Gh} {w : World} {sv : SV} {v : Value} (h : SRel G m w sv v) : ∀ t ∈ sv.ids, ∃ z, m t = some z := by
  intro t ht
  have hv : ∀ ag as_ v, VRel G m w ag as_ v → ∀ t ∈ as_.flatMap A1.ids, ∃ z, m t = some z := by
    intro ag as_ v hv t ht
    obtain ⟨y, hy, hty⟩ := List.mem_flatMap.1 ht
    cases ag with
    | false => obtain ⟨x, rfl, hx⟩ := hv; simp at hy; subst hy; exact hx.dom t hty
    | true =>
      obtain ⟨vs, rfl, hr⟩ := hv
      obtain ⟨i, hi⟩ := List.getElem?_of_mem hy
      obtain ⟨b, _, hb⟩ := hr.nth hi
      exact hb.dom t hty
  cases sv with
  | v ag as_ => exact hv ag as_ v h t ht
  | tup vs =>
    obtain ⟨xs, rfl, hr⟩ := h
    simp only [SV.ids, List.mem_flatMap] at ht
    obtain ⟨p, hp, y, hy, hty⟩ := ht
    obtain ⟨i, hi⟩ := List.getElem?_of_mem hp
    obtain ⟨b, _, hb⟩ := hr.nth hi
    exact hv _ _ _ hb t (List.mem_flatMap.2 ⟨y, hy, hty⟩)
  | bad => simp [SV.ids] at ht
theorem Good.dom (h : Good s) {i : Nat} {v : SV} (hv : s.slots[i]? = some v) : ∀ t ∈ v.ids, ∃ z, s.mem t = some z := by
  obtain ⟨F, w0, G, a, w, h⟩ := h
  obtain ⟨b, _, hb⟩ := h.slots.nth hv
  exact hb.dom
def setO (l : List SV) (dst : Option Nat) (v : SV) : List SV := match dst with | some d => l.set d v | none => l
theorem setO_ne {l : List SV} {dst : Option Nat} {v : SV} {i : Nat} (h : dst ≠ some i) : (setO l dst v)[i]? = l[i]? := by
  cases dst with
  | none => rfl
  | some d => simp only [setO]; rw [List.getElem?_set_ne (fun e => h (by rw [e]))]
theorem setO_comm {l : List SV} {d1 d2 : Option Nat} {v1 v2 : SV} (h : ∀ d, d1 = some d → d2 ≠ some d) : setO (setO l d1 v1) d2 v2 = setO (setO l d2 v2) d1 v1 := by
  cases d1 with
  | none => rfl
  | some a =>
    cases d2 with
    | none => rfl
    | some b =>
      simp only [setO]
      rw [List.set_comm _ _ (fun e => h a rfl (by rw [e]))]
/-- What an operation looks at stands behind another one. -/
theorem step_agree0 {j : AOp} {dst : Option Nat} {v : SV} {obs : List Ob} {di : Nat} (hg : Good s) (hp : j.plain = true) (hdst : ∀ e, dst = some e → e ∉ j.slots) (hf : obs = [] ∨ (obs.length ≤ 64 ∧ freshB s.mem di = true)) :
    Agree s ⟨setO s.slots dst v, addObs s.mem di obs, s.up⟩ j.act.rd ∧ ∀ i b, j.guard = some (i, b) → s.slots[i]? = (setO s.slots dst v)[i]? := by
  have hmem : ∀ t z, s.mem t = some z → addObs s.mem di obs t = s.mem t := by
    intro t z hz
    rcases hf with rfl | ⟨hl, hfr⟩
    · rw [addObs_nil]
    · simp only [addObs]
      rw [if_neg]
      rintro ⟨h1, h2⟩
      have := freshB_spec hfr (i := t - di) (by omega)
      rw [show di + (t - di) = t by omega, hz] at this
      cases this
  have hslot : ∀ i, i ∈ j.slots → (setO s.slots dst v)[i]? = s.slots[i]? := fun i hi => setO_ne fun e => hdst i e hi
  have hrd : ∀ i, AX.s i ∈ j.act.rd → i ∈ j.slots := by
    intro i hi
    simp only [AOp.slots, List.mem_append, List.mem_filterMap]
    exact .inl ⟨.s i, hi, rfl⟩
  refine ⟨⟨fun x hx => ?_, fun x hx v' hv' t ht => ?_⟩, fun i b hgd => ?_⟩
  · cases x with
    | s i => simp only [St.get]; rw [hslot i (hrd i hx)]
    | c a => rfl
  · cases x with
    | s i =>
      obtain ⟨z, hz⟩ := hg.dom (show s.slots[i]? = some v' from hv') t ht
      exact (hmem t z hz).symm
    | c a =>
      have := List.all_eq_true.1 hp _ hx
      simp only [St.get, Option.some.injEq] at hv'
      subst hv'
      simp only [SV.ids, List.flatMap_cons, List.flatMap_nil, List.append_nil, List.isEmpty_iff.1 this] at ht
      simp at ht
  · exact (hslot i (by simp [AOp.slots, hgd])).symm
/-- Seen behind another operation, an operation sees what it saw. -/
theorem step_agree {j : AOp} {dst : Option Nat} {v : SV} {obs : List Ob} {di dj : Nat} (hg : Good s) (hp : j.plain = true) (hdst : ∀ e, dst = some e → e ∉ j.slots) (hf : obs = [] ∨ (obs.length ≤ 64 ∧ freshB s.mem di = true)) (hdd : obs = [] ∨ di + 64 ≤ dj ∨ dj + 64 ≤ di) :
    gRes ex T j dj s = gRes ex T j dj ⟨setO s.slots dst v, addObs s.mem di obs, s.up⟩ := by
  obtain ⟨k1, k2⟩ := step_agree0 (v := v) hg hp hdst hf
  refine gRes_local k1 k2 ?_
  have : ∀ i, i < 64 → addObs s.mem di obs (dj + i) = s.mem (dj + i) := by
    intro i hi
    rcases hf with rfl | ⟨hl, _⟩
    · rw [addObs_nil]
    · rcases hdd with rfl | hdd
      · rw [addObs_nil]
      · simp only [addObs]; rw [if_neg (by omega)]
  simp only [freshB]
  rw [Bool.eq_iff_iff, List.all_eq_true, List.all_eq_true]
  constructor
  · intro h i hi; rw [this i (List.mem_range.1 hi)]; exact h i hi
  · intro h i hi; have := this i (List.mem_range.1 hi); rw [← this]; exact h i hi
theorem step_agreeL {j : AOp} {f : FuncId} {x : AX} {args : List (AX × List Nat)} {dst : Option Nat} {v : SV} {obs : List Ob} {di : Nat} (hj : j.act = .lend f x args) (hg : Good s) (hp : j.plain = true) (hdst : ∀ e, dst = some e → e ∉ j.slots) (hf : obs = [] ∨ (obs.length ≤ 64 ∧ freshB s.mem di = true)) :
    gResL ex T f x args j s = gResL ex T f x args j ⟨setO s.slots dst v, addObs s.mem di obs, s.up⟩ := by
  obtain ⟨k1, k2⟩ := step_agree0 (v := v) hg hp hdst hf
  rw [hj] at k1
  have hw : wantB s j.guard = wantB ⟨setO s.slots dst v, addObs s.mem di obs, s.up⟩ j.guard := by
    cases hh : j.guard with
    | none => rfl
    | some p => obtain ⟨i, b⟩ := p; simp only [wantB]; rw [k2 i b hh]
  have hl : lendBox s x = lendBox ⟨setO s.slots dst v, addObs s.mem di obs, s.up⟩ x := by
    simp only [lendBox]
    rw [← k1.one (x := x) (by simp [AO.rd])]
    cases ho : s.one x with
    | none => rfl
    | some y =>
      have hi := k1.ids (by simp [AO.rd]) ho
      cases y with
      | pr t p off =>
        cases p with
        | nil =>
          cases off with
          | zero => simp only; rw [hi t (by simp [A1.ids])]
          | succ _ => rfl
        | cons _ _ => rfl
      | _ => rfl
  simp only [gResL, gLend]
  rw [← hw, ← hl, (show Agree s _ (args.map (·.1)) from ⟨fun y hy => k1.get y (by simp [AO.rd, List.mem_map] at hy ⊢; exact .inr hy), fun y hy => k1.mem y (by simp [AO.rd, List.mem_map] at hy ⊢; exact .inr hy)⟩).roArgs (ys := args) (fun y hy => hy)]
theorem gEff_rows {sl up : List SV} {ao : AO} (h : ao.noLd = true) : gEff ex T ⟨sl, rowMem m, up⟩ d ao = gEff ex T ⟨sl, m, up⟩ d ao := by
  cases ao with
  | call f args => simp only [gEff, roArgs_rows]
  | lit sz zero len ps =>
    simp only [gEff, parts_rows, toCells_rows]
    congr 1
    funext l
    split
    · cases toCells m (fillA (reps len zero) l) with
      | none => rfl
      | some q => obtain ⟨cs, m', ts⟩ := q; cases ts <;> rfl
    · rfl
  | litr sz zero len ps => simp only [gEff, parts_rows]
  | app sz b x y => simp only [gEff, one_rows, src_rows]
  | apx sz b x y => simp only [gEff, one_rows, src_rows]
  | ld _ _ _ => cases h
  | mf _ _ => cases h
  | lend _ _ _ => cases h
  | _ => first | rfl | (simp only [gEff, AO.eff, Bool.false_eq_true, if_false]; rw [pure_rows rfl])
theorem rowMem_box {t : Nat} {as_ bs : List A1} (h : m t = some (.box as_)) : rowMem (upd m t (some (.box bs))) = rowMem m := by
  funext u
  simp only [rowMem, upd]
  by_cases hu : u = t
  · subst hu; simp [h]
  · simp [hu]
/-- A variable that has turned is not seen. -/
theorem gRes_box {sl up : List SV} {j : AOp} {t : Nat} {as_ bs : List A1} (h : j.act.noLd = true) (hb : m t = some (.box as_)) : gRes ex T j d ⟨sl, upd m t (some (.box bs)), up⟩ = gRes ex T j d ⟨sl, m, up⟩ := by
  have e1 : gEff ex T ⟨sl, upd m t (some (.box bs)), up⟩ d j.act = gEff ex T ⟨sl, m, up⟩ d j.act := by
    rw [← gEff_rows h, rowMem_box hb, gEff_rows h]
  have e2 : freshB (upd m t (some (.box bs))) d = freshB m d := by
    simp only [freshB]
    congr 1
    funext i
    simp only [upd]
    by_cases hu : d + i = t
    · rw [if_pos hu, hu, hb]; rfl
    · rw [if_neg hu]
  have e3 : wantB ⟨sl, upd m t (some (.box bs)), up⟩ j.guard = wantB ⟨sl, m, up⟩ j.guard := rfl
  simp only [gRes]
  rw [e1, e2, e3]
theorem gResL_box {f : FuncId} {x : AX} {args : List (AX × List Nat)} {o : AOp} {v : SV} {q : Option (Nat × List A1)} (h : gResL ex T f x args o s = some (v, q)) : q = none ∨ ∃ t as_ bs, q = some (t, bs) ∧ s.mem t = some (.box as_) := by
  unfold gResL at h
  split at h
  · cases h
  · cases h; exact .inl rfl
  · obtain ⟨⟨sv, t, bs⟩, hg, he⟩ := Option.map_eq_some_iff.1 h
    simp only [Prod.mk.injEq] at he
    obtain ⟨rfl, rfl⟩ := he
    right
    unfold gLend at hg
    split at hg
    · rename_i t0 as_ vs hb hra
      split at hg
      · split at hg <;> cases hg
        unfold lendBox at hb
        split at hb
        · split at hb
          · rename_i bs1 hm
            split at hb <;> cases hb
            exact ⟨_, _, _, rfl, hm⟩
          · cases hb
        · cases hb
      · cases hg
    · cases hg
theorem gRes_updO {sl up : List SV} {j : AOp} {q : Option (Nat × List A1)} (h : j.act.noLd = true) (hq : q = none ∨ ∃ t as_ bs, q = some (t, bs) ∧ m t = some (.box as_)) : gRes ex T j d ⟨sl, updO m q, up⟩ = gRes ex T j d ⟨sl, m, up⟩ := by
  rcases hq with rfl | ⟨t, as_, bs, rfl, hb⟩
  · rfl
  · exact gRes_box h hb
theorem updO_addObs {q : Option (Nat × List A1)} {obs : List Ob} (hq : q = none ∨ ∃ t as_ bs, q = some (t, bs) ∧ m t = some (.box as_)) (hf : obs = [] ∨ (obs.length ≤ 64 ∧ freshB m d = true)) : addObs (updO m q) d obs = updO (addObs m d obs) q := by
  rcases hq with rfl | ⟨t, as_, bs, rfl, hb⟩
  · rfl
  · funext u
    simp only [addObs, updO, upd]
    by_cases hu : u = t
    · subst hu
      rw [if_pos rfl, if_neg]
      · rw [if_pos rfl]
      · rintro ⟨h1, h2⟩
        rcases hf with rfl | ⟨hl, hfr⟩
        · simp at h2; omega
        · have := freshB_spec hfr (i := u - d) (by omega)
          rw [show d + (u - d) = u by omega, hb] at this
          cases this
    · rw [if_neg hu, if_neg hu]
theorem put_eq (l : St) (dst : Option Nat) (v : SV) : l.put dst v = ⟨setO l.slots dst v, l.mem, l.up⟩ := by cases dst <;> rfl
theorem gOp_no {o : AOp} (h : o.act.isLend = false) : gOp ex T o d s = gOp0 ex T o d s := by
  unfold gOp
  split
  · rename_i hact; rw [hact] at h; cases h
  · rfl
/-- A lending call and one that looks at no variable, in either order. -/
theorem lend_calm {x y : AOp} {f : FuncId} {c : AX} {args : List (AX × List Nat)} {dy : Nat} {vx vy : SV} {q : Option (Nat × List A1)} {oy : List Ob} (hx : x.act = .lend f c args) (hg : Good s) (hap : x.plain = true ∧ y.plain = true ∧ (∀ d, x.dst = some d → d ∉ y.slots) ∧ (∀ d, x.dst = some d → y.dst ≠ some d) ∧ (∀ d, y.dst = some d → d ∉ x.slots)) (hn : y.act.noLd = true)
    (h1 : gResL ex T f c args x s = some (vx, q)) : (gRes ex T y dy ⟨setO s.slots x.dst vx, updO s.mem q, s.up⟩ = some (vy, oy) ↔ gRes ex T y dy s = some (vy, oy)) ∧
      (gRes ex T y dy s = some (vy, oy) → gResL ex T f c args x ⟨setO s.slots y.dst vy, addObs s.mem dy oy, s.up⟩ = some (vx, q) ∧ addObs (updO s.mem q) dy oy = updO (addObs s.mem dy oy) q) := by
  obtain ⟨p1, p2, a1, a2, a3⟩ := hap
  have hq := gResL_box h1
  have e : gRes ex T y dy ⟨setO s.slots x.dst vx, updO s.mem q, s.up⟩ = gRes ex T y dy s := by
    rw [gRes_updO hn hq, step_agree (dst := x.dst) (v := vx) (obs := []) (di := 0) hg p2 a1 (.inl rfl) (.inl rfl), addObs_nil]
  refine ⟨by rw [e], fun h => ?_⟩
  have fy := gRes_fresh h
  simp only at fy
  exact ⟨by rw [← step_agreeL (dst := y.dst) (v := vy) (obs := oy) (di := dy) hx hg p1 a3 fy]; exact h1, updO_addObs hq fy⟩
/-- Two of them in either order. -/
theorem diamond0 {x y : AOp} {dx dy : Nat} (hg : Good s) (hap : x.apart y = true) (hdd : dx + 64 ≤ dy ∨ dy + 64 ≤ dx) (h1 : gOp0 ex T x dx s = some s1) (h2 : gOp0 ex T y dy s1 = some s2) :
    ∃ s3, gOp0 ex T y dy s = some s3 ∧ gOp0 ex T x dx s3 = some s2 := by
  obtain ⟨p1, p2, a1, a2, a3⟩ := AOp.apart_spec hap
  unfold gOp0 at h1 h2
  obtain ⟨⟨vx, ox⟩, hx, rfl⟩ := Option.map_eq_some_iff.1 h1
  obtain ⟨⟨vy, oy⟩, hy, rfl⟩ := Option.map_eq_some_iff.1 h2
  have fx := gRes_fresh hx
  have e1 : ∀ (l : St) (dst : Option Nat) (v : SV), l.put dst v = ⟨setO l.slots dst v, l.mem, l.up⟩ := fun l dst v => by cases dst <;> rfl
  rw [e1] at hy
  simp only at hy fx
  have hy' : gRes ex T y dy s = some (vy, oy) := by rw [step_agree (dst := x.dst) (v := vx) (obs := ox) (di := dx) hg p2 a1 fx (.inr hdd)]; exact hy
  have fy := gRes_fresh hy'
  simp only at fy
  have hx' : gRes ex T x dx ⟨setO s.slots y.dst vy, addObs s.mem dy oy, s.up⟩ = some (vx, ox) := by rw [← step_agree (dst := y.dst) (v := vy) (obs := oy) (di := dy) hg p1 a3 fy (.inr (by omega))]; exact hx
  refine ⟨⟨setO s.slots y.dst vy, addObs s.mem dy oy, s.up⟩, by simp only [gOp0, hy', Option.map_some, e1], ?_⟩
  simp only [gOp0, hx', Option.map_some, e1, Option.some.injEq, St.mk.injEq, and_true]
  refine ⟨(setO_comm a2).symm, ?_⟩
  funext u
  simp only [addObs]
  by_cases hu : dx ≤ u ∧ u < dx + ox.length
  · by_cases hv : dy ≤ u ∧ u < dy + oy.length
    · exfalso
      rcases fx with h | ⟨h, _⟩
      · rw [h] at hu; simp at hu; omega
      · rcases fy with h' | ⟨h', _⟩
        · rw [h'] at hv; simp at hv; omega
        · omega
    · rw [if_pos hu, if_neg hv, if_pos hu]
  · by_cases hv : dy ≤ u ∧ u < dy + oy.length
    · rw [if_neg hu, if_pos hv, if_pos hv]
    · rw [if_neg hu, if_neg hv, if_neg hv, if_neg hu]
theorem diamond {x y : AOp} {dx dy : Nat} (hg : Good s) (hap : x.apart y = true) (hdd : dx + 64 ≤ dy ∨ dy + 64 ≤ dx) (h1 : gOp ex T x dx s = some s1) (h2 : gOp ex T y dy s1 = some s2) :
    ∃ s3, gOp ex T y dy s = some s3 ∧ gOp ex T x dx s3 = some s2 := by
  obtain ⟨l1, l2⟩ := AOp.apart_lend hap
  have hsp := AOp.apart_spec hap
  cases hx : x.act.isLend with
  | false =>
    rw [gOp_no hx] at h1
    cases hy : y.act.isLend with
    | false =>
      rw [gOp_no hy] at h2
      obtain ⟨s3, k1, k2⟩ := diamond0 hg hap hdd h1 h2
      exact ⟨s3, by rw [gOp_no hy]; exact k1, by rw [gOp_no hx]; exact k2⟩
    | true =>
      have hn := l2 hy
      unfold gOp at h2
      split at h2
      · rename_i f c args hact
        obtain ⟨p1, p2, a1, a2, a3⟩ := hsp
        unfold gOp0 at h1
        obtain ⟨⟨vx, ox⟩, hvx, rfl⟩ := Option.map_eq_some_iff.1 h1
        unfold gOpL at h2
        obtain ⟨⟨vy, q⟩, hvy, rfl⟩ := Option.map_eq_some_iff.1 h2
        rw [put_eq] at hvy
        simp only at hvy
        have fx := gRes_fresh hvx
        simp only at fx
        have hvy' : gResL ex T f c args y s = some (vy, q) := by rw [step_agreeL (dst := x.dst) (v := vx) (obs := ox) (di := dx) hact hg p2 a1 fx]; exact hvy
        obtain ⟨k1, k2⟩ := lend_calm (x := y) (y := x) (dy := dx) (vy := vx) (oy := ox) hact hg ⟨p2, p1, a3, fun d hd e => a2 d e hd, a1⟩ hn hvy'
        refine ⟨⟨setO s.slots y.dst vy, updO s.mem q, s.up⟩, ?_, ?_⟩
        · unfold gOp
          rw [hact]
          simp only [gOpL, hvy', Option.map_some, put_eq]
        · rw [gOp_no hx]
          simp only [gOp0, k1.2 hvx, Option.map_some, put_eq, Option.some.injEq, St.mk.injEq, and_true]
          exact ⟨(setO_comm a2).symm, (k2 hvx).2⟩
      · rename_i hno
        cases hya : y.act <;> rw [hya] at hy <;> first | exact absurd hya (hno _ _ _) | cases hy
  | true =>
    have hn := l1 hx
    have hy : y.act.isLend = false := by
      cases hya : y.act <;> rw [hya] at hn <;> first | rfl | cases hn
    rw [gOp_no hy] at h2 ⊢
    unfold gOp at h1
    split at h1
    · rename_i f c args hact
      unfold gOpL at h1
      obtain ⟨⟨vx, q⟩, hvx, rfl⟩ := Option.map_eq_some_iff.1 h1
      unfold gOp0 at h2
      obtain ⟨⟨vy, oy⟩, hvy, rfl⟩ := Option.map_eq_some_iff.1 h2
      rw [put_eq] at hvy
      simp only at hvy
      obtain ⟨k1, k2⟩ := lend_calm (dy := dy) (vy := vy) (oy := oy) hact hg hsp hn hvx
      have hvy' := k1.1 hvy
      obtain ⟨q1, q2⟩ := k2 hvy'
      refine ⟨⟨setO s.slots y.dst vy, addObs s.mem dy oy, s.up⟩, by simp only [gOp0, hvy', Option.map_some, put_eq], ?_⟩
      unfold gOp
      rw [hact]
      simp only [gOpL, q1, Option.map_some, put_eq, Option.some.injEq, St.mk.injEq, and_true]
      exact ⟨(setO_comm hsp.2.2.2.1).symm, q2.symm⟩
    · rename_i hno
      cases hxa : x.act <;> rw [hxa] at hx <;> first | exact absurd hxa (hno _ _ _) | cases hx
end
end Go.Proofs.YtbdokibepndibaaGreat.Eng
