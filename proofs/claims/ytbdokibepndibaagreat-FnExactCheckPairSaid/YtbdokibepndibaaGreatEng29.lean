/- An interpreter of the model's code over tagged trees, twenty-ninth part: what it answers with as much fuel as is wanted, step by step. -/
import Derived.Test.YtbdokibepndibaaGreatEng28
import Derived.KernelRfl
namespace Go.Proofs.YtbdokibepndibaaGreat.Eng
open Go.RowKit

/-- What the interpreter answers, with as much fuel as is wanted. -/
noncomputable def X (T : FuncId → Option AFun) : Ex := fun c x =>
  open Classical in if h : ∃ r, ∃ k, exec T k c x = some r then some (Classical.choose h) else none
section
variable {T : FuncId → Option AFun} {k : Nat} {c : ACode} {x : XS} {r : AE × XS}
theorem exec_det {k j : Nat} {r r' : AE × XS} (h : exec T k c x = some r) (h' : exec T j c x = some r') : r = r' := by
  rcases Nat.le_total k j with hk | hk
  · have := exec_mono hk _ _ _ h
    rw [this] at h'
    exact Option.some.inj h'
  · have := exec_mono hk _ _ _ h'
    rw [this] at h
    exact (Option.some.inj h).symm
theorem X_iff : X T c x = some r ↔ ∃ k, exec T k c x = some r := by
  unfold X
  constructor
  · intro h
    split at h
    · rename_i hh
      cases h
      exact Classical.choose_spec hh
    · cases h
  · rintro ⟨k, hk⟩
    have hh : ∃ r, ∃ k, exec T k c x = some r := ⟨r, k, hk⟩
    rw [dif_pos hh]
    obtain ⟨j, hj⟩ := Classical.choose_spec hh
    rw [exec_det hj hk]
theorem exec_le_X (k : Nat) : Ex.Le (exec T k) (X T) := fun _ _ _ h => X_iff.2 ⟨k, h⟩
theorem runRO_X {f : FuncId} {vs : List SV} {r : SV × List Ob} (h : runRO (X T) T f vs = some r) : ∃ k, runRO (exec T k) T f vs = some r := by
  unfold runRO at h ⊢
  cases hT : T f with
  | none => rw [hT] at h; cases h
  | some af =>
    rw [hT] at h
    simp only at h ⊢
    split at h
    · rename_i hl
      simp only [if_pos hl]
      cases hx : X T af.body ⟨⟨vs ++ List.replicate (af.n - vs.length) (.tup []), fun _ => none, []⟩, 0⟩ with
      | none => rw [hx] at h; cases h
      | some p =>
        obtain ⟨k, hk⟩ := X_iff.1 hx
        rw [hx] at h
        exact ⟨k, by rw [hk]; exact h⟩
    · cases h
theorem runThru_X {f : FuncId} {vs : List SV} {x : XS} {r : SV × XS} (h : runThru (X T) T f vs x = some r) : ∃ k, runThru (exec T k) T f vs x = some r := by
  unfold runThru at h ⊢
  cases hT : T f with
  | none => rw [hT] at h; cases h
  | some af =>
    rw [hT] at h
    simp only at h ⊢
    split at h
    · rename_i hl
      simp only [if_pos hl]
      cases hx : X T af.body ⟨⟨vs ++ List.replicate (af.n - vs.length) (.tup []), x.st.mem, x.st.slots ++ x.st.up⟩, x.nx⟩ with
      | none => rw [hx] at h; cases h
      | some p =>
        obtain ⟨k, hk⟩ := X_iff.1 hx
        rw [hx] at h
        exact ⟨k, by rw [hk]; exact h⟩
    · cases h
theorem callRO_X {f : FuncId} {ys : List (AX × List Nat)} {d : Nat} {s : St} {r : SV × St} (h : callRO (X T) T f ys d s = some r) : ∃ k, callRO (exec T k) T f ys d s = some r := by
  unfold callRO at h ⊢
  cases ha : roArgs s ys with
  | none => rw [ha] at h; cases h
  | some p =>
    obtain ⟨vs, c⟩ := p
    rw [ha] at h
    simp only at h ⊢
    cases hx : runRO (X T) T f vs with
    | none => rw [hx] at h; cases h
    | some q =>
      obtain ⟨k, hk⟩ := runRO_X hx
      rw [hx] at h
      exact ⟨k, by rw [hk]; exact h⟩
theorem runLend_X {f : FuncId} {as_ : List A1} {vs : List SV} {r : SV × List A1 × List Ob} (h : runLend (X T) T f as_ vs = some r) : ∃ k, runLend (exec T k) T f as_ vs = some r := by
  unfold runLend at h ⊢
  cases hT : T f with
  | none => rw [hT] at h; cases h
  | some af =>
    rw [hT] at h
    simp only at h ⊢
    split at h
    · rename_i hl
      simp only [if_pos hl]
      cases hx : X T af.body ⟨⟨(.v false [.pr 0 [] 0] :: vs) ++ List.replicate (af.n - (vs.length + 1)) (.tup []), memL [some (.box as_)], [.v false [.pr 0 [] 0]]⟩, 1⟩ with
      | none => rw [hx] at h; cases h
      | some p =>
        obtain ⟨k, hk⟩ := X_iff.1 hx
        rw [hx] at h
        exact ⟨k, by rw [hk]; exact h⟩
    · cases h
theorem callLend_X {f : FuncId} {x : AX} {ys : List (AX × List Nat)} {d : Nat} {s : St} {r : SV × St} (h : callLend (X T) T f x ys d s = some r) : ∃ k, callLend (exec T k) T f x ys d s = some r := by
  unfold callLend at h ⊢
  split at h
  · rename_i t as_ vs hb ha
    try rw [hb, ha]
    try simp only
    cases hx : runLend (X T) T f as_ vs with
    | none => rw [hx] at h; cases h
    | some q =>
      obtain ⟨k, hk⟩ := runLend_X hx
      rw [hx] at h
      exact ⟨k, by rw [hk]; exact h⟩
  · cases h
theorem doOp_X {o : AOp} {d : Nat} {x y : XS} (h : doOp (X T) T o d x = some y) : ∃ k, doOp (exec T k) T o d x = some y := by
  unfold doOp at h ⊢
  cases hw : wantB x.st o.guard with
  | none => rw [hw] at h; cases h
  | some b =>
    rw [hw] at h
    cases b with
    | false => exact ⟨0, h⟩
    | true =>
      simp only at h ⊢
      cases ha : o.act with
      | call f ys =>
        rw [ha] at h
        simp only at h ⊢
        obtain ⟨q, hq, he⟩ := Option.map_eq_some_iff.1 h
        obtain ⟨k, hk⟩ := callRO_X hq
        exact ⟨k, by rw [hk, Option.map_some, he]⟩
      | lend f x ys =>
        rw [ha] at h
        simp only at h ⊢
        obtain ⟨q, hq, he⟩ := Option.map_eq_some_iff.1 h
        obtain ⟨k, hk⟩ := callLend_X hq
        exact ⟨k, by rw [hk, Option.map_some, he]⟩
      | thru f ys =>
        rw [ha] at h
        simp only at h ⊢
        obtain ⟨vs, hvs, h⟩ := Option.bind_eq_some_iff.1 h
        obtain ⟨q, hq, he⟩ := Option.map_eq_some_iff.1 h
        obtain ⟨k, hk⟩ := runThru_X hq
        exact ⟨k, by rw [hvs, Option.bind_some, hk, Option.map_some, he]⟩
      | callv g ys =>
        rw [ha] at h
        simp only at h ⊢
        split at h
        · rename_i f caps vs ho hv
          obtain ⟨q, hq, he⟩ := Option.map_eq_some_iff.1 h
          obtain ⟨k, hk⟩ := runThru_X hq
          exact ⟨k, by rw [hk, Option.map_some, he]⟩
        · cases h
      | _ => rw [ha] at h; exact ⟨0, h⟩
theorem runOps_X : ∀ {l : List AOp} {d : Nat} {x y : XS}, runOps (X T) T l d x = some y → ∃ k, runOps (exec T k) T l d x = some y := by
  intro l
  induction l with
  | nil => intro d x y h; exact ⟨0, h⟩
  | cons o r ih =>
    intro d x y h
    simp only [runOps] at h ⊢
    obtain ⟨z, hz, h⟩ := Option.bind_eq_some_iff.1 h
    obtain ⟨k, hk⟩ := doOp_X hz
    obtain ⟨j, hj⟩ := ih h
    exact ⟨k + j, by rw [doOp_mono (exec_mono (Nat.le_add_right k j)) hk, Option.bind_some]; exact runOps_mono (exec_mono (Nat.le_add_left j k)) hj⟩
theorem gOp0_X {o : AOp} {d : Nat} {s s' : St} (h : gOp0 (X T) T o d s = some s') : ∃ k, gOp0 (exec T k) T o d s = some s' := by
  unfold gOp0 at h ⊢
  obtain ⟨q, hq, he⟩ := Option.map_eq_some_iff.1 h
  have : ∃ k, gRes (exec T k) T o d s = some q := by
    unfold gRes at hq ⊢
    cases hw : wantB s o.guard with
    | none => rw [hw] at hq; cases hq
    | some b =>
      rw [hw] at hq
      cases b with
      | false => exact ⟨0, hq⟩
      | true =>
        simp only at hq ⊢
        cases hg : gEff (X T) T s d o.act with
        | none => rw [hg] at hq; cases hq
        | some p =>
          rw [hg] at hq
          have : ∃ k, gEff (exec T k) T s d o.act = some p := by
            cases ha : o.act with
            | call f ys =>
              rw [ha] at hg
              simp only [gEff] at hg ⊢
              cases hra : roArgs s ys with
              | none => rw [hra] at hg; cases hg
              | some q =>
                obtain ⟨vs, c⟩ := q
                rw [hra] at hg
                simp only at hg ⊢
                cases hx : runRO (X T) T f vs with
                | none => rw [hx] at hg; cases hg
                | some q =>
                  obtain ⟨k, hk⟩ := runRO_X hx
                  rw [hx] at hg
                  exact ⟨k, by rw [hk]; exact hg⟩
            | _ => rw [ha] at hg; exact ⟨0, hg⟩
          obtain ⟨k, hk⟩ := this
          exact ⟨k, by rw [hk]; exact hq⟩
  obtain ⟨k, hk⟩ := this
  exact ⟨k, by rw [hk, Option.map_some, he]⟩
theorem gLend_X {f : FuncId} {x : AX} {ys : List (AX × List Nat)} {s : St} {r : SV × Nat × List A1} (hr : gLend (X T) T s f x ys = some r) : ∃ k, gLend (exec T k) T s f x ys = some r := by
  unfold gLend at hr ⊢
  split at hr
  · rename_i t as_ vs hb ha
    try rw [hb, ha]
    try simp only
    cases hx : runLend (X T) T f as_ vs with
    | none => rw [hx] at hr; cases hr
    | some q =>
      obtain ⟨k, hk⟩ := runLend_X hx
      rw [hx] at hr
      exact ⟨k, by rw [hk]; exact hr⟩
  · cases hr
theorem gOp_X {o : AOp} {d : Nat} {s s' : St} (h : gOp (X T) T o d s = some s') : ∃ k, gOp (exec T k) T o d s = some s' := by
  unfold gOp at h ⊢
  cases ha : o.act with
  | lend f x ys =>
    rw [ha] at h
    simp only at h ⊢
    unfold gOpL at h ⊢
    obtain ⟨q, hq, he⟩ := Option.map_eq_some_iff.1 h
    have : ∃ k, gResL (exec T k) T f x ys o s = some q := by
      unfold gResL at hq ⊢
      cases hw : wantB s o.guard with
      | none => rw [hw] at hq; cases hq
      | some b =>
        rw [hw] at hq
        cases b with
        | false => exact ⟨0, hq⟩
        | true =>
          simp only at hq ⊢
          obtain ⟨r, hr', he'⟩ := Option.map_eq_some_iff.1 hq
          obtain ⟨k, hk⟩ := gLend_X hr'
          exact ⟨k, by rw [hk, Option.map_some, he']⟩
    obtain ⟨k, hk⟩ := this
    exact ⟨k, by rw [hk, Option.map_some, he]⟩
  | _ => rw [ha] at h; exact gOp0_X h
theorem runG_X : ∀ {l : List AOp} {d : Nat} {s s' : St}, runG (X T) T l d s = some s' → ∃ k, runG (exec T k) T l d s = some s' := by
  intro l
  induction l with
  | nil => intro d x y h; exact ⟨0, h⟩
  | cons o r ih =>
    intro d x y h
    simp only [runG] at h ⊢
    obtain ⟨z, hz, h⟩ := Option.bind_eq_some_iff.1 h
    obtain ⟨k, hk⟩ := gOp_X hz
    obtain ⟨j, hj⟩ := ih h
    exact ⟨k + j, by rw [gOp_mono (exec_mono (Nat.le_add_right k j)) hk, Option.bind_some]; exact runG_mono (exec_mono (Nat.le_add_left j k)) hj⟩

/-! The steps. -/
theorem X_of {g : Option (AE × XS)} (h1 : ∀ k r, exec T (k + 1) c x = some r → g = some r) (h2 : ∀ r, g = some r → ∃ k, exec T k c x = some r) : X T c x = g := by
  cases hx : X T c x with
  | some r =>
    obtain ⟨k, hk⟩ := X_iff.1 hx
    cases k with
    | zero => cases hk
    | succ k => exact (h1 k r hk).symm
  | none =>
    cases hg : g with
    | none => rfl
    | some r =>
      obtain ⟨k, hk⟩ := h2 r hg
      rw [X_iff.2 ⟨k, hk⟩] at hx
      cases hx
theorem x_skip : X T .skip x = some (.nrm, x) := X_iff.2 ⟨1, by rw [exec]⟩
theorem x_exit {i : Nat} {ag : Bool} {dead : List Nat} : X T (.exit i ag dead) x = some (.exit i, head ag dead x) := X_iff.2 ⟨1, by rw [exec]⟩
theorem x_ret {ag : Bool} {dead : List Nat} : X T (.ret ag dead) x = some (.ret, head ag dead x) := X_iff.2 ⟨1, by rw [exec]⟩
theorem head_id : head false [] x = x := rfl
theorem x_region {dr : Bool} {n : Nat} {ops : List AOp} : X T (.region dr n ops) x = (runG (X T) T (ops.take n) x.nx x.st).bind fun s => (runOps (X T) T (ops.drop n) (x.nx + 64 * n) ⟨s, x.nx + 64 * ops.length⟩).map fun y => (.nrm, y) := by
  refine X_of (fun k r h => ?_) (fun r h => ?_)
  · rw [exec] at h
    obtain ⟨s1, h1, h⟩ := Option.bind_eq_some_iff.1 h
    obtain ⟨z, hz, he⟩ := Option.map_eq_some_iff.1 h
    rw [runG_mono (exec_le_X k) h1, Option.bind_some, runOps_mono (exec_le_X k) hz, Option.map_some, he]
  · obtain ⟨s1, h1, h⟩ := Option.bind_eq_some_iff.1 h
    obtain ⟨z, hz, he⟩ := Option.map_eq_some_iff.1 h
    obtain ⟨k, hk⟩ := runG_X h1
    obtain ⟨j, hj⟩ := runOps_X hz
    exact ⟨k + j + 1, by rw [exec, runG_mono (exec_mono (Nat.le_add_right k j)) hk, Option.bind_some, runOps_mono (exec_mono (Nat.le_add_left j k)) hj, Option.map_some, he]⟩
theorem x_seq {a b : ACode} : X T (.seq a b) x = match X T a x with | some (.nrm, y) => X T b y | r => r := by
  refine X_of (fun k r h => ?_) (fun r h => ?_)
  · rw [exec] at h
    cases ha : exec T k a x with
    | none => rw [ha] at h; cases h
    | some p =>
      obtain ⟨e, y⟩ := p
      rw [ha] at h
      rw [exec_le_X k _ _ _ ha]
      cases e with
      | nrm => exact exec_le_X k _ _ _ h
      | _ => exact h
  · cases ha : X T a x with
    | none => rw [ha] at h; cases h
    | some p =>
      obtain ⟨e, y⟩ := p
      rw [ha] at h
      obtain ⟨k, hk⟩ := X_iff.1 ha
      cases e with
      | nrm =>
        obtain ⟨j, hj⟩ := X_iff.1 h
        exact ⟨k + j + 1, by rw [exec, exec_mono (Nat.le_add_right k j) _ _ _ hk]; exact exec_mono (Nat.le_add_left j k) _ _ _ hj⟩
      | _ => exact ⟨k + 1, by rw [exec, hk]; exact h⟩
theorem x_cond {q : AX} {a b : ACode} : X T (.cond q a b) x = match x.st.one q with | some (.bool t) => if t = true then X T a x else X T b x | _ => none := by
  refine X_of (fun k r h => ?_) (fun r h => ?_)
  · rw [exec] at h
    split at h
    · rename_i t ht
      rw [ht]
      cases t with
      | true => exact exec_le_X k _ _ _ h
      | false => exact exec_le_X k _ _ _ h
    · cases h
  · split at h
    · rename_i t ht
      cases t with
      | true =>
        obtain ⟨k, hk⟩ := X_iff.1 h
        exact ⟨k + 1, by rw [exec, ht]; exact hk⟩
      | false =>
        obtain ⟨k, hk⟩ := X_iff.1 h
        exact ⟨k + 1, by rw [exec, ht]; exact hk⟩
    · cases h
theorem x_block {i : Nat} {b : ACode} : X T (.block i b) x = match X T b x with | some (.exit j, y) => if j = i then some (.nrm, y) else some (.exit j, y) | r => r := by
  refine X_of (fun k r h => ?_) (fun r h => ?_)
  · rw [exec] at h
    cases ha : exec T k b x with
    | none => rw [ha] at h; cases h
    | some p => rw [ha] at h; rw [exec_le_X k _ _ _ ha]; exact h
  · cases ha : X T b x with
    | none => rw [ha] at h; cases h
    | some p =>
      obtain ⟨k, hk⟩ := X_iff.1 ha
      rw [ha] at h
      exact ⟨k + 1, by rw [exec, hk]; exact h⟩
theorem x_loop {ag : Bool} {dead : List Nat} {b : ACode} : X T (.loop ag dead b) x = match X T b (head ag dead x) with | some (.nrm, z) => X T (.loop ag dead b) (if ag then z else ⟨z.st, (head ag dead x).nx⟩) | r => r := by
  refine X_of (fun k r h => ?_) (fun r h => ?_)
  · rw [exec] at h
    cases ha : exec T k b (head ag dead x) with
    | none => rw [ha] at h; cases h
    | some p =>
      obtain ⟨e, y⟩ := p
      rw [ha] at h
      rw [exec_le_X k _ _ _ ha]
      cases e with
      | nrm => exact exec_le_X k _ _ _ h
      | _ => exact h
  · cases ha : X T b (head ag dead x) with
    | none => rw [ha] at h; cases h
    | some p =>
      obtain ⟨e, y⟩ := p
      rw [ha] at h
      obtain ⟨k, hk⟩ := X_iff.1 ha
      cases e with
      | nrm =>
        obtain ⟨j, hj⟩ := X_iff.1 h
        exact ⟨k + j + 1, by rw [exec, exec_mono (Nat.le_add_right k j) _ _ _ hk]; exact exec_mono (Nat.le_add_left j k) _ _ _ hj⟩
      | _ => exact ⟨k + 1, by rw [exec, hk]; exact h⟩
/-- A loop, from a measure: each round leads to a next head, or out. -/
theorem loopX {σ : Type} {dead : List Nat} {b : ACode} (S : σ → XS) (μ : σ → Nat) (I : σ → Prop) (R : Option (AE × XS))
    (step : ∀ s, I s → (∃ s', (∃ z, X T b (S s) = some (.nrm, z) ∧ head true dead z = S s') ∧ μ s' < μ s ∧ I s') ∨ (X T b (S s) = R ∧ ∀ z, R ≠ some (.nrm, z))) :
    ∀ s, I s → ∀ x, head true dead x = S s → X T (.loop true dead b) x = R := by
  have key : ∀ n s, μ s ≤ n → I s → ∀ x, head true dead x = S s → X T (.loop true dead b) x = R := by
    intro n
    induction n with
    | zero =>
      intro s hs hI x hx
      rcases step s hI with ⟨s', _, h, _⟩ | ⟨h1, h2⟩
      · omega
      · rw [x_loop, hx, h1]
        split
        · exact absurd rfl (h2 _)
        · rfl
    | succ n ih =>
      intro s hs hI x hx
      rcases step s hI with ⟨s', ⟨z, h1, h2⟩, h3, h4⟩ | ⟨h1, h2⟩
      · rw [x_loop, hx, h1]
        exact ih s' (by omega) h4 _ h2
      · rw [x_loop, hx, h1]
        split
        · exact absurd rfl (h2 _)
        · rfl
  exact fun s hI x hx => key (μ s) s (Nat.le_refl _) hI x hx
/-- The like, where what its caller owns is turned. -/
theorem loopXF {σ : Type} {dead : List Nat} {b : ACode} (S : σ → XS) (μ : σ → Nat) (I : σ → Prop) (R : Option (AE × XS))
    (step : ∀ s, I s → (∃ s', (∃ z, X T b (S s) = some (.nrm, z) ∧ head false dead ⟨z.st, (S s).nx⟩ = S s') ∧ μ s' < μ s ∧ I s') ∨ (X T b (S s) = R ∧ ∀ z, R ≠ some (.nrm, z))) :
    ∀ s, I s → ∀ x, head false dead x = S s → X T (.loop false dead b) x = R := by
  have key : ∀ n s, μ s ≤ n → I s → ∀ x, head false dead x = S s → X T (.loop false dead b) x = R := by
    intro n
    induction n with
    | zero =>
      intro s hs hI x hx
      rcases step s hI with ⟨s', _, h, _⟩ | ⟨h1, h2⟩
      · omega
      · rw [x_loop, hx, h1]
        split
        · exact absurd rfl (h2 _)
        · rfl
    | succ n ih =>
      intro s hs hI x hx
      rcases step s hI with ⟨s', ⟨z, h1, h2⟩, h3, h4⟩ | ⟨h1, h2⟩
      · rw [x_loop, hx, h1]
        exact ih s' (by omega) h4 _ h2
      · rw [x_loop, hx, h1]
        split
        · exact absurd rfl (h2 _)
        · rfl
  exact fun s hI x hx => key (μ s) s (Nat.le_refl _) hI x hx
/-- A loop that ends with something of which enough is known. -/
theorem loopE {σ : Type} {dead : List Nat} {b : ACode} (S : σ → XS) (μ : σ → Nat) (I : σ → Prop) (Q : AE × XS → Prop)
    (step : ∀ s, I s → (∃ z, X T b (S s) = some (.nrm, z) ∧ ∃ s', head true dead z = S s' ∧ μ s' < μ s ∧ I s') ∨ (∃ r, X T b (S s) = some r ∧ (∀ z, r ≠ (.nrm, z)) ∧ Q r)) :
    ∀ s, I s → ∃ r, Q r ∧ ∀ x, head true dead x = S s → X T (.loop true dead b) x = some r := by
  have key : ∀ n s, μ s ≤ n → I s → ∃ r, Q r ∧ ∀ x, head true dead x = S s → X T (.loop true dead b) x = some r := by
    intro n
    induction n with
    | zero =>
      intro s hs hI
      rcases step s hI with ⟨_, _, s', _, h, _⟩ | ⟨r, h1, h2, h3⟩
      · omega
      · refine ⟨r, h3, fun x hx => ?_⟩
        rw [x_loop, hx, h1]
        split
        · rename_i z he; exact absurd (Option.some.inj he) (h2 z)
        · rfl
    | succ n ih =>
      intro s hs hI
      rcases step s hI with ⟨z, h1, s', h2, h3, h4⟩ | ⟨r, h1, h2, h3⟩
      · obtain ⟨r, hr, hx⟩ := ih s' (by omega) h4
        refine ⟨r, hr, fun x hh => ?_⟩
        rw [x_loop, hh, h1]
        exact hx _ h2
      · refine ⟨r, h3, fun x hx => ?_⟩
        rw [x_loop, hx, h1]
        split
        · rename_i z he; exact absurd (Option.some.inj he) (h2 z)
        · rfl
  exact fun s hI => key (μ s) s (Nat.le_refl _) hI
/-- A loop that counts, from i0 on up to n. -/
theorem loopN {dead : List Nat} {b : ACode} (n : Nat) (S : Nat → XS) (R : Option (AE × XS)) (hR : ∀ z, R ≠ some (.nrm, z)) (round : ∀ i, i < n → ∃ z, X T b (S i) = some (.nrm, z) ∧ head true dead z = S (i + 1)) (out : X T b (S n) = R) :
    ∀ {x i}, i ≤ n → head true dead x = S i → X T (.loop true dead b) x = R := by
  intro x i hi hx
  refine loopX (σ := Nat) S (fun i => n - i) (fun i => i ≤ n) R (fun i hi => ?_) i hi x hx
  rcases Nat.lt_or_ge i n with h | h
  · obtain ⟨z, h1, h2⟩ := round i h
    exact .inl ⟨i + 1, ⟨z, h1, h2⟩, by omega, h⟩
  · obtain rfl : i = n := Nat.le_antisymm hi h
    exact .inr ⟨out, hR⟩
/-- A loop that counts and turns what its caller owns. -/
theorem loopF {dead : List Nat} {b : ACode} (n : Nat) (S : Nat → XS) (R : Option (AE × XS)) (hR : ∀ z, R ≠ some (.nrm, z)) (round : ∀ i, i < n → ∃ z, X T b (S i) = some (.nrm, z) ∧ head false dead ⟨z.st, (S i).nx⟩ = S (i + 1)) (out : X T b (S n) = R) :
    ∀ {x i}, i ≤ n → head false dead x = S i → X T (.loop false dead b) x = R := by
  intro x i hi hx
  refine loopXF (σ := Nat) S (fun i => n - i) (fun i => i ≤ n) R (fun i hi => ?_) i hi x hx
  rcases Nat.lt_or_ge i n with h | h
  · exact .inl ⟨i + 1, round i h, by omega, h⟩
  · obtain rfl : i = n := Nat.le_antisymm hi h
    exact .inr ⟨out, hR⟩
/-! Operations, one by one. -/
variable {ex : Ex} {dst : Option Nat} {g : Nat × Bool} {act : AO} {l : List AOp} {d : Nat}
theorem runOps_nil : runOps ex T [] d x = some x := rfl
theorem runOps_skip (h : wantB x.st (some g) = some false) : runOps ex T (⟨dst, some g, act⟩ :: l) d x = runOps ex T l (d + 64) ⟨x.st.put dst (.tup []), x.nx⟩ := by
  simp only [runOps, doOp, h, Option.bind_some]
theorem runOps_go (h : wantB x.st (some g) = some true) : runOps ex T (⟨dst, some g, act⟩ :: l) d x = runOps ex T (⟨dst, none, act⟩ :: l) d x := by
  simp only [runOps, doOp, h]
  rfl
theorem runOps_none : runOps ex T (⟨dst, none, act⟩ :: l) d x = (doOp ex T ⟨dst, none, act⟩ d x).bind (runOps ex T l (d + 64)) := rfl
end
theorem upd_upd (m : Mem) (t : Nat) (x y : Option Ob) : upd (upd m t x) t y = upd m t y := by
  funext k
  simp only [upd]
  split <;> rfl
theorem upd_self {m : Mem} {t : Nat} {x : Option Ob} (h : m t = x) : upd m t x = m := by
  funext k
  simp only [upd]
  split
  · rename_i hk; subst hk; exact h.symm
  · rfl
end Go.Proofs.YtbdokibepndibaaGreat.Eng
