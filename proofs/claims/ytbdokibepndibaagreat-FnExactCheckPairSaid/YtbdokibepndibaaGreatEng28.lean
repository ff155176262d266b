/- An interpreter of the model's code over tagged trees, twenty-eighth part: more fuel does no harm; from some fuel on. -/
import Derived.Test.YtbdokibepndibaaGreatEng27
namespace Go.Proofs.YtbdokibepndibaaGreat.Eng
open Go.RowKit

def Ex.Le (e1 e2 : Ex) : Prop := ∀ c x r, e1 c x = some r → e2 c x = some r
section
variable {T : FuncId → Option AFun} {e1 e2 : Ex}
theorem runRO_mono (h : Ex.Le e1 e2) {f : FuncId} {vs : List SV} {r : SV × List Ob} (hr : runRO e1 T f vs = some r) : runRO e2 T f vs = some r := by
  unfold runRO at hr ⊢
  cases hT : T f with
  | none => rw [hT] at hr; cases hr
  | some af =>
    rw [hT] at hr
    simp only at hr ⊢
    split at hr
    · rename_i hl
      rw [if_pos hl]
      cases hx : e1 af.body ⟨⟨vs ++ List.replicate (af.n - vs.length) (.tup []), fun _ => none, []⟩, 0⟩ with
      | none => rw [hx] at hr; cases hr
      | some p => rw [hx] at hr; rw [h _ _ _ hx]; exact hr
    · cases hr
theorem runThru_mono (h : Ex.Le e1 e2) {f : FuncId} {vs : List SV} {x : XS} {r : SV × XS} (hr : runThru e1 T f vs x = some r) : runThru e2 T f vs x = some r := by
  unfold runThru at hr ⊢
  cases hT : T f with
  | none => rw [hT] at hr; cases hr
  | some af =>
    rw [hT] at hr
    simp only at hr ⊢
    split at hr
    · rename_i hl
      rw [if_pos hl]
      cases hx : e1 af.body ⟨⟨vs ++ List.replicate (af.n - vs.length) (.tup []), x.st.mem, x.st.slots ++ x.st.up⟩, x.nx⟩ with
      | none => rw [hx] at hr; cases hr
      | some p => rw [hx] at hr; rw [h _ _ _ hx]; exact hr
    · cases hr
theorem callRO_mono (h : Ex.Le e1 e2) {f : FuncId} {ys : List (AX × List Nat)} {d : Nat} {s : St} {r : SV × St} (hr : callRO e1 T f ys d s = some r) : callRO e2 T f ys d s = some r := by
  unfold callRO at hr ⊢
  cases ha : roArgs s ys with
  | none => rw [ha] at hr; cases hr
  | some p =>
    obtain ⟨vs, c⟩ := p
    rw [ha] at hr
    simp only at hr ⊢
    cases hx : runRO e1 T f vs with
    | none => rw [hx] at hr; cases hr
    | some q => rw [hx] at hr; rw [runRO_mono h hx]; exact hr
theorem runLend_mono (h : Ex.Le e1 e2) {f : FuncId} {as_ : List A1} {vs : List SV} {r : SV × List A1 × List Ob} (hr : runLend e1 T f as_ vs = some r) : runLend e2 T f as_ vs = some r := by
  unfold runLend at hr ⊢
  cases hT : T f with
  | none => rw [hT] at hr; cases hr
  | some af =>
    rw [hT] at hr
    simp only at hr ⊢
    split at hr
    · rename_i hl
      rw [if_pos hl]
      cases hx : e1 af.body ⟨⟨(.v false [.pr 0 [] 0] :: vs) ++ List.replicate (af.n - (vs.length + 1)) (.tup []), memL [some (.box as_)], [.v false [.pr 0 [] 0]]⟩, 1⟩ with
      | none => rw [hx] at hr; cases hr
      | some p => rw [hx] at hr; rw [h _ _ _ hx]; exact hr
    · cases hr
theorem callLend_mono (h : Ex.Le e1 e2) {f : FuncId} {x : AX} {ys : List (AX × List Nat)} {d : Nat} {s : St} {r : SV × St} (hr : callLend e1 T f x ys d s = some r) : callLend e2 T f x ys d s = some r := by
  unfold callLend at hr ⊢
  split at hr
  · rename_i t as_ vs hb ha
    try rw [hb, ha]
    try simp only
    cases hx : runLend e1 T f as_ vs with
    | none => rw [hx] at hr; cases hr
    | some q => rw [hx] at hr; rw [runLend_mono h hx]; exact hr
  · cases hr
theorem doOp_mono (h : Ex.Le e1 e2) {o : AOp} {d : Nat} {x y : XS} (hr : doOp e1 T o d x = some y) : doOp e2 T o d x = some y := by
  unfold doOp at hr ⊢
  cases hw : wantB x.st o.guard with
  | none => rw [hw] at hr; cases hr
  | some b =>
    rw [hw] at hr
    cases b with
    | false => exact hr
    | true =>
      simp only at hr ⊢
      cases ha : o.act with
      | call f ys =>
        rw [ha] at hr
        simp only at hr ⊢
        obtain ⟨q, hq, he⟩ := Option.map_eq_some_iff.1 hr
        rw [callRO_mono h hq, Option.map_some, he]
      | lend f x ys =>
        rw [ha] at hr
        simp only at hr ⊢
        obtain ⟨q, hq, he⟩ := Option.map_eq_some_iff.1 hr
        rw [callLend_mono h hq, Option.map_some, he]
      | thru f ys =>
        rw [ha] at hr
        simp only at hr ⊢
        obtain ⟨vs, hvs, hr⟩ := Option.bind_eq_some_iff.1 hr
        obtain ⟨q, hq, he⟩ := Option.map_eq_some_iff.1 hr
        rw [hvs, Option.bind_some, runThru_mono h hq, Option.map_some, he]
      | callv g ys =>
        rw [ha] at hr
        simp only at hr ⊢
        split at hr
        · rename_i f caps vs ho hv
          obtain ⟨q, hq, he⟩ := Option.map_eq_some_iff.1 hr
          rw [runThru_mono h hq, Option.map_some, he]
        · cases hr
      | _ => rw [ha] at hr; exact hr
theorem runOps_mono (h : Ex.Le e1 e2) : ∀ {l : List AOp} {d : Nat} {x y : XS}, runOps e1 T l d x = some y → runOps e2 T l d x = some y := by
  intro l
  induction l with
  | nil => intro d x y h; exact h
  | cons o r ih =>
    intro d x y hr
    simp only [runOps] at hr ⊢
    obtain ⟨z, hz, hr⟩ := Option.bind_eq_some_iff.1 hr
    rw [doOp_mono h hz, Option.bind_some]
    exact ih hr
theorem gOp0_mono (h : Ex.Le e1 e2) {o : AOp} {d : Nat} {s s' : St} (hr : gOp0 e1 T o d s = some s') : gOp0 e2 T o d s = some s' := by
  unfold gOp0 at hr ⊢
  obtain ⟨q, hq, he⟩ := Option.map_eq_some_iff.1 hr
  have : gRes e2 T o d s = some q := by
    unfold gRes at hq ⊢
    cases hw : wantB s o.guard with
    | none => rw [hw] at hq; cases hq
    | some b =>
      rw [hw] at hq
      cases b with
      | false => exact hq
      | true =>
        simp only at hq ⊢
        cases hg : gEff e1 T s d o.act with
        | none => rw [hg] at hq; cases hq
        | some p =>
          rw [hg] at hq
          have : gEff e2 T s d o.act = some p := by
            cases ha : o.act with
            | call f ys =>
              rw [ha] at hg
              simp only [gEff] at hg ⊢
              cases hra : roArgs s ys with
              | none => rw [hra] at hg; cases hg
              | some q =>
                obtain ⟨vs, c⟩ := q
                rw [hra] at hg
                simp only at hg ⊢
                cases hx : runRO e1 T f vs with
                | none => rw [hx] at hg; cases hg
                | some q => rw [hx] at hg; rw [runRO_mono h hx]; exact hg
            | _ => rw [ha] at hg; exact hg
          rw [this]
          exact hq
  rw [this, Option.map_some, he]
theorem gLend_mono (h : Ex.Le e1 e2) {f : FuncId} {x : AX} {ys : List (AX × List Nat)} {s : St} {r : SV × Nat × List A1} (hr : gLend e1 T s f x ys = some r) : gLend e2 T s f x ys = some r := by
  unfold gLend at hr ⊢
  split at hr
  · rename_i t as_ vs hb ha
    try rw [hb, ha]
    try simp only
    cases hx : runLend e1 T f as_ vs with
    | none => rw [hx] at hr; cases hr
    | some q => rw [hx] at hr; rw [runLend_mono h hx]; exact hr
  · cases hr
theorem gOp_mono (h : Ex.Le e1 e2) {o : AOp} {d : Nat} {s s' : St} (hr : gOp e1 T o d s = some s') : gOp e2 T o d s = some s' := by
  unfold gOp at hr ⊢
  cases ha : o.act with
  | lend f x ys =>
    rw [ha] at hr
    simp only at hr ⊢
    unfold gOpL at hr ⊢
    obtain ⟨q, hq, he⟩ := Option.map_eq_some_iff.1 hr
    have : gResL e2 T f x ys o s = some q := by
      unfold gResL at hq ⊢
      cases hw : wantB s o.guard with
      | none => rw [hw] at hq; cases hq
      | some b =>
        rw [hw] at hq
        cases b with
        | false => exact hq
        | true =>
          simp only at hq ⊢
          obtain ⟨r, hr', he'⟩ := Option.map_eq_some_iff.1 hq
          rw [gLend_mono h hr', Option.map_some, he']
    rw [this, Option.map_some, he]
  | _ => rw [ha] at hr; exact gOp0_mono h hr
theorem runG_mono (h : Ex.Le e1 e2) : ∀ {l : List AOp} {d : Nat} {s s' : St}, runG e1 T l d s = some s' → runG e2 T l d s = some s' := by
  intro l
  induction l with
  | nil => intro d x y h; exact h
  | cons o r ih =>
    intro d x y hr
    simp only [runG] at hr ⊢
    obtain ⟨z, hz, hr⟩ := Option.bind_eq_some_iff.1 hr
    rw [gOp_mono h hz, Option.bind_some]
    exact ih hr
theorem exec_step : ∀ (k : Nat), Ex.Le (exec T k) (exec T (k + 1)) := by
  intro k
  induction k with
  | zero => intro c x r h; cases h
  | succ k ih =>
    intro c x r h
    cases c with
    | skip => exact h
    | exit i ag dead => exact h
    | clone sz bytes => exact h
    | ins => exact h
    | grw _ _ => exact h
    | rvs => exact h
    | ret ag dead => exact h
    | region dr n q =>
      rw [exec] at h ⊢
      obtain ⟨s1, h1, h⟩ := Option.bind_eq_some_iff.1 h
      obtain ⟨z, hz, he⟩ := Option.map_eq_some_iff.1 h
      rw [runG_mono ih h1, Option.bind_some, runOps_mono ih hz, Option.map_some, he]
    | seq a b =>
      rw [exec] at h ⊢
      cases ha : exec T k a x with
      | none => rw [ha] at h; cases h
      | some p =>
        rw [ha] at h
        rw [ih _ _ _ ha]
        obtain ⟨e, y⟩ := p
        cases e with
        | nrm => exact ih _ _ _ h
        | _ => exact h
    | cond c a b =>
      rw [exec] at h ⊢
      split at h
      · rename_i t ht
        cases t with
        | true => exact ih _ _ _ h
        | false => exact ih _ _ _ h
      · cases h
    | block i b =>
      rw [exec] at h ⊢
      cases ha : exec T k b x with
      | none => rw [ha] at h; cases h
      | some p => rw [ha] at h; rw [ih _ _ _ ha]; exact h
    | loop ag dead b =>
      rw [exec] at h ⊢
      cases ha : exec T k b (head ag dead x) with
      | none => rw [ha] at h; cases h
      | some p =>
        rw [ha] at h
        rw [ih _ _ _ ha]
        obtain ⟨e, y⟩ := p
        cases e with
        | nrm => exact ih _ _ _ h
        | _ => exact h
theorem exec_mono {k j : Nat} (h : k ≤ j) : Ex.Le (exec T k) (exec T j) := by
  induction h with
  | refl => exact fun _ _ _ h => h
  | step _ ih => exact fun c x r hr => exec_step _ c x r (ih c x r hr)
/-- From some fuel on. -/
def Evl {α : Type} (g : Nat → Option α) (r : α) : Prop := ∃ K, ∀ k, K ≤ k → g k = some r
theorem Evl.of_run {f : FuncId} {vs : List SV} {r : SV × List Ob} {k : Nat} (h : runRO (exec T k) T f vs = some r) : Evl (fun k => runRO (exec T k) T f vs) r :=
  ⟨k, fun _ hj => runRO_mono (exec_mono hj) h⟩
theorem Evl.of_exec {c : ACode} {x : XS} {r : AE × XS} {k : Nat} (h : exec T k c x = some r) : Evl (fun k => exec T k c x) r := ⟨k, fun _ hj => exec_mono hj _ _ _ h⟩
theorem Evl.fuel {α : Type} {g : Nat → Option α} {r : α} (h : Evl g r) : ∃ k, g k = some r := h.imp fun K h => h K (Nat.le_refl _)
end
end Go.Proofs.YtbdokibepndibaaGreat.Eng
