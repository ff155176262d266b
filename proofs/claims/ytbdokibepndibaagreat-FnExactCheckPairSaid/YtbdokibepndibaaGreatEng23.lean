/- An interpreter of the model's code over tagged trees, twenty-third part: what an operation looks at is all that it hangs on. -/
import Derived.Test.YtbdokibepndibaaGreatEng22
namespace Go.Proofs.YtbdokibepndibaaGreat.Eng
open Go.RowKit

/-- Memory's rows. -/
def rowMem (m : Mem) : Mem := fun t => match m t with
  | some (.row z cs) => some (.row z cs)
  | _ => none
structure Agree (s s' : St) (xs : List AX) : Prop where
  get : ∀ x ∈ xs, s.get x = s'.get x
  mem : ∀ x ∈ xs, ∀ v, s.get x = some v → ∀ t ∈ v.ids, s.mem t = s'.mem t

section
variable {s s' : St} {xs : List AX} {T : FuncId → Option AFun} {ex : Ex} {d : Nat} {m m' : Mem}
theorem Agree.one (h : Agree s s' xs) {x : AX} (hx : x ∈ xs) : s.one x = s'.one x := by
  simp only [St.one, h.get x hx]
theorem Agree.num (h : Agree s s' xs) {x : AX} (hx : x ∈ xs) : s.num x = s'.num x := by
  simp only [St.num, h.one hx]
theorem one_get {x : AX} {y : A1} (h : s.one x = some y) : s.get x = some (.v false [y]) := by
  unfold St.one at h
  split at h
  · rename_i z hz; cases h; exact hz
  · cases h
theorem Agree.ids (h : Agree s s' xs) {x : AX} (hx : x ∈ xs) {y : A1} (hy : s.one x = some y) : ∀ t ∈ y.ids, s.mem t = s'.mem t := by
  intro t ht
  exact h.mem x hx _ (one_get hy) t (by simpa [SV.ids] using ht)
theorem src_eq {sz : Nat} {y : A1} (h : ∀ t ∈ y.ids, m t = m' t) : srcCells m sz y = srcCells m' sz y := by
  cases y with
  | sl t p off n => simp only [srcCells]; rw [h t (by simp [A1.ids])]
  | _ => rfl
theorem Agree.optNum (h : Agree s s' xs) {x : Option AX} (hx : ∀ y ∈ x.toList, y ∈ xs) : s.optNum x = s'.optNum x := by
  cases x with
  | none => rfl
  | some y => simp only [St.optNum]; rw [h.num (hx y (by simp))]
theorem Agree.parts (h : Agree s s' xs) : ∀ {ps : List (Nat × Nat × AX)}, (∀ x ∈ ps.map (·.2.2), x ∈ xs) → s.parts ps = s'.parts ps := by
  intro ps
  induction ps with
  | nil => intro _; rfl
  | cons p r ih =>
    intro hx
    obtain ⟨off, sz, x⟩ := p
    simp only [St.parts]
    rw [h.get x (hx x (by simp)), ih fun y hy => hx y (by simp at hy ⊢; exact .inr hy)]
theorem Agree.boxes (h : Agree s s' xs) : ∀ {ps : List AX}, (∀ x ∈ ps, x ∈ xs) → s.boxes ps = s'.boxes ps := by
  intro ps
  induction ps with
  | nil => intro _; rfl
  | cons x r ih =>
    intro hx
    have e : boxOf s.mem (s.one x) = boxOf s'.mem (s'.one x) := by
      rw [← h.one (hx x (by simp))]
      cases ho : s.one x with
      | none => rfl
      | some y =>
        have hi := h.ids (hx x (by simp)) ho
        cases y with
        | pr t p off =>
          cases p with
          | nil =>
            cases off with
            | zero => simp only [boxOf]; rw [hi t (by simp [A1.ids])]
            | succ _ => rfl
          | cons _ _ => rfl
        | _ => rfl
    simp only [St.boxes]
    rw [e, ih fun y hy => hx y (by simp [hy])]
theorem roL_eq {as_ : List A1} : ∀ {zs : List Nat}, (∀ y ∈ as_, ∀ t ∈ y.ids, m t = m' t) → roL m as_ zs = roL m' as_ zs := by
  induction as_ with
  | nil => intro zs _; cases zs <;> rfl
  | cons y r ih =>
    intro zs h
    cases zs with
    | nil => rfl
    | cons z q =>
      have e : roA m z y = roA m' z y := by
        cases y with
        | sl t p off n => simp only [roA]; rw [src_eq (h _ (by simp))]
        | _ => rfl
      simp only [roL]
      rw [e, ih fun y hy => h y (by simp [hy])]
theorem Agree.roArgs (h : Agree s s' xs) : ∀ {ys : List (AX × List Nat)}, (∀ x ∈ ys.map (·.1), x ∈ xs) → roArgs s ys = roArgs s' ys := by
  intro ys
  induction ys with
  | nil => intro _; rfl
  | cons p r ih =>
    intro hx
    obtain ⟨x, zs⟩ := p
    simp only [Eng.roArgs]
    rw [← h.get x (hx x (by simp)), ih fun y hy => hx y (by simp at hy ⊢; exact .inr hy)]
    cases hg : s.get x with
    | none => rfl
    | some v =>
      cases v with
      | v ag as_ =>
        have : roL s.mem as_ zs = roL s'.mem as_ zs := roL_eq fun y hy t ht => h.mem x (hx x (by simp)) _ hg t (by simp only [SV.ids, List.mem_flatMap]; exact ⟨y, hy, ht⟩)
        cases Eng.roArgs s' r with
        | none => rfl
        | some q => simp only; rw [this]
      | _ => rfl
theorem toCell_eq {y : A1} (h : ∀ t ∈ y.ids, m t = m' t) : toCell m y = toCell m' y := by
  cases y with
  | sl t p off n =>
    cases p with
    | nil => simp only [toCell]; rw [h t (by simp [A1.ids])]
    | cons _ _ => rfl
  | ro n cs => cases cs <;> rfl
  | _ => rfl
theorem toCells_eq : ∀ {as_ : List A1} {m m' : Mem}, (∀ y ∈ as_, ∀ t ∈ y.ids, m t = m' t) → (toCells m as_).map (fun r => (r.1, r.2.2)) = (toCells m' as_).map fun r => (r.1, r.2.2) := by
  intro as_
  induction as_ with
  | nil => intro m m' _; rfl
  | cons y r ih =>
    intro m m' h
    simp only [toCells]
    rw [toCell_eq (h y (by simp))]
    cases hc : toCell m' y with
    | none => rfl
    | some p =>
      obtain ⟨c, u⟩ := p
      cases u with
      | none =>
        have := ih (m := m) (m' := m') fun y hy => h y (by simp [hy])
        simp only [Option.map_map]
        have e := congrArg (Option.map fun (r : List Cell × List Nat) => (c :: r.1, r.2)) this
        simpa [Option.map_map, Function.comp_def] using e
      | some t =>
        have := ih (m := upd m t none) (m' := upd m' t none) fun y hy u hu => by
          simp only [upd]
          rw [h y (by simp [hy]) u hu]
        simp only [Option.map_map]
        have e := congrArg (Option.map fun (r : List Cell × List Nat) => (c :: r.1, t :: r.2)) this
        simpa [Option.map_map, Function.comp_def] using e
theorem pure_local {ao : AO} (h : Agree s s' ao.rd) : pureOp s ao = pureOp s' ao := by
  cases ao with
  | mv x => exact h.get x (by simp [AO.rd])
  | bin op x y => simp only [pureOp, h.one (x := x) (by simp [AO.rd]), h.one (x := y) (by simp [AO.rd])]
  | beq n x y => simp only [pureOp, h.one (x := x) (by simp [AO.rd]), h.one (x := y) (by simp [AO.rd])]
  | un op x => cases op <;> simp only [pureOp, h.one (x := x) (by simp [AO.rd])]
  | conv k x => simp only [pureOp, h.num (x := x) (by simp [AO.rd])]
  | i2s x => simp only [pureOp, h.num (x := x) (by simp [AO.rd])]
  | b2s x =>
    simp only [pureOp]
    rw [← h.one (x := x) (by simp [AO.rd])]
    cases ho : s.one x with
    | none => rfl
    | some y => simp only; rw [src_eq (h.ids (by simp [AO.rd]) ho)]
  | pick c x y => simp only [pureOp, h.one (x := c) (by simp [AO.rd]), h.get x (by simp [AO.rd]), h.get y (by simp [AO.rd])]
  | fld off sz ag x => simp only [pureOp, h.get x (by simp [AO.rd])]
  | bld zero ps => simp only [pureOp, h.parts (ps := ps) (fun x hx => hx)]
  | slc sz x lo hi =>
    simp only [pureOp]
    rw [← h.one (x := x) (by simp [AO.rd]), ← h.optNum (x := lo) (fun y hy => by simp [AO.rd] at hy ⊢; exact .inr (.inl hy)), ← h.optNum (x := hi) (fun y hy => by simp [AO.rd] at hy ⊢; exact .inr (.inr hy))]
    cases ho : s.one x with
    | none => rfl
    | some y =>
      cases y with
      | sl t p off n =>
        have e : szOk s.mem t p sz = szOk s'.mem t p sz := by
          cases p with
          | nil => simp only [szOk]; rw [h.ids (by simp [AO.rd]) ho t (by simp [A1.ids])]
          | cons _ _ => rfl
        cases s.optNum lo with
        | none => rfl
        | some _ => cases s.optNum hi with
          | none => rfl
          | some _ => simp only; rw [e]
      | _ => cases s.optNum lo <;> cases s.optNum hi <;> rfl
  | slz x => simp only [pureOp, h.one (x := x) (by simp [AO.rd])]
  | sslc x lo hi =>
    simp only [pureOp, h.one (x := x) (by simp [AO.rd]), h.optNum (x := lo) (fun y hy => by simp [AO.rd] at hy ⊢; exact .inr (.inl hy)), h.optNum (x := hi) (fun y hy => by simp [AO.rd] at hy ⊢; exact .inr (.inr hy))]
  | idx x i => simp only [pureOp, h.one (x := x) (by simp [AO.rd]), h.num (x := i) (by simp [AO.rd])]
  | aidx len sz ag x i => simp only [pureOp, h.get x (by simp [AO.rd]), h.num (x := i) (by simp [AO.rd])]
  | ia sz x i => simp only [pureOp, h.one (x := x) (by simp [AO.rd]), h.num (x := i) (by simp [AO.rd])]
  | iaa sz len x i => simp only [pureOp, h.one (x := x) (by simp [AO.rd]), h.num (x := i) (by simp [AO.rd])]
  | fa off x => simp only [pureOp, h.one (x := x) (by simp [AO.rd])]
  | ld sz ag x =>
    simp only [pureOp]
    rw [← h.one (x := x) (by simp [AO.rd])]
    cases ho : s.one x with
    | none => rfl
    | some y =>
      cases y with
      | pr t p off => simp only; rw [h.ids (by simp [AO.rd]) ho t (by simp [A1.ids])]
      | _ => rfl
  | nck x => simp only [pureOp, h.one (x := x) (by simp [AO.rd])]
  | ext x i => simp only [pureOp, h.get x (by simp [AO.rd])]
  | mf f caps => simp only [pureOp, h.boxes (ps := caps) (fun x hx => hx)]
  | len x => simp only [pureOp, h.one (x := x) (by simp [AO.rd])]
  | slen x => simp only [pureOp, h.one (x := x) (by simp [AO.rd])]
  | mm mx x y => simp only [pureOp, h.one (x := x) (by simp [AO.rd]), h.one (x := y) (by simp [AO.rd])]
  | _ => rfl
theorem src_rows {sz : Nat} {y : A1} : srcCells (rowMem m) sz y = srcCells m sz y := by
  cases y with
  | sl t p off n =>
    simp only [srcCells, rowMem]
    cases m t with
    | none => rfl
    | some z => cases z <;> rfl
  | _ => rfl
theorem toCell_rows {y : A1} : toCell (rowMem m) y = toCell m y := by
  cases y with
  | sl t p off n =>
    cases p with
    | nil =>
      simp only [toCell, rowMem]
      cases m t with
      | none => rfl
      | some z => cases z <;> rfl
    | cons _ _ => rfl
  | ro n cs => cases cs <;> rfl
  | _ => rfl
theorem rowMem_none {t : Nat} : upd (rowMem m) t none = rowMem (upd m t none) := by
  funext u
  simp only [upd, rowMem]
  by_cases h : u = t
  · simp [h]
  · simp [h]
theorem toCells_rows : ∀ {as_ : List A1} {m : Mem}, toCells (rowMem m) as_ = (toCells m as_).map fun r => (r.1, rowMem r.2.1, r.2.2) := by
  intro as_
  induction as_ with
  | nil => intro m; rfl
  | cons y r ih =>
    intro m
    simp only [toCells, toCell_rows]
    cases toCell m y with
    | none => rfl
    | some p =>
      obtain ⟨c, u⟩ := p
      cases u with
      | none => simp only [ih, Option.map_map]; rfl
      | some t => simp only [rowMem_none, ih, Option.map_map]; rfl
theorem roL_rows {as_ : List A1} : ∀ {zs : List Nat}, roL (rowMem m) as_ zs = roL m as_ zs := by
  induction as_ with
  | nil => intro zs; cases zs <;> rfl
  | cons y r ih =>
    intro zs
    cases zs with
    | nil => rfl
    | cons z q =>
      have e : roA (rowMem m) z y = roA m z y := by
        cases y with
        | sl t p off n => simp only [roA, src_rows]
        | _ => rfl
      simp only [roL, e, ih]
def AO.noLd : AO → Bool
  | .ld _ _ _ | .mf _ _ | .lend _ _ _ => false
  | _ => true
theorem get_rows {sl up : List SV} {x : AX} : St.get ⟨sl, rowMem m, up⟩ x = St.get ⟨sl, m, up⟩ x := rfl
theorem one_rows {sl up : List SV} {x : AX} : St.one ⟨sl, rowMem m, up⟩ x = St.one ⟨sl, m, up⟩ x := rfl
theorem num_rows {sl up : List SV} {x : AX} : St.num ⟨sl, rowMem m, up⟩ x = St.num ⟨sl, m, up⟩ x := rfl
theorem parts_rows {sl up : List SV} {ps : List (Nat × Nat × AX)} : St.parts ⟨sl, rowMem m, up⟩ ps = St.parts ⟨sl, m, up⟩ ps := by
  induction ps with
  | nil => rfl
  | cons p r ih => obtain ⟨off, sz, x⟩ := p; simp only [St.parts, get_rows, ih]
theorem roArgs_rows {sl up : List SV} {ys : List (AX × List Nat)} : Eng.roArgs ⟨sl, rowMem m, up⟩ ys = Eng.roArgs ⟨sl, m, up⟩ ys := by
  induction ys with
  | nil => rfl
  | cons p r ih => obtain ⟨x, zs⟩ := p; simp only [Eng.roArgs, get_rows, ih, roL_rows]
theorem pure_rows {sl up : List SV} {ao : AO} (h : ao.noLd = true) : pureOp ⟨sl, rowMem m, up⟩ ao = pureOp ⟨sl, m, up⟩ ao := by
  cases ao with
  | ld _ _ _ => cases h
  | mf _ _ => cases h
  | b2s x => simp only [pureOp, one_rows, src_rows]
  | bld zero ps => simp only [pureOp, parts_rows]
  | un op x => cases op <;> rfl
  | slc sz x lo hi =>
    have e : ∀ t p, szOk (rowMem m) t p sz = szOk m t p sz := by
      intro t p
      cases p with
      | nil =>
        simp only [szOk, rowMem]
        cases m t with
        | none => rfl
        | some z => cases z <;> rfl
      | cons _ _ => rfl
    simp only [pureOp, one_rows, e]
    rfl
  | _ => rfl
end
end Go.Proofs.YtbdokibepndibaaGreat.Eng
