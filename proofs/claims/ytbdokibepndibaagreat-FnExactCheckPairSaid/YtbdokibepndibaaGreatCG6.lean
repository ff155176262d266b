/- Bits, Zb, Zc, as one text. -/
import Derived.Test.YtbdokibepndibaaGreatCG4
import Derived.Test.YtbdokibepndibaaGreatCG2
namespace Go.Proofs.YtbdokibepndibaaGreat.Eng.C
set_option linter.unusedSimpArgs false
set_option linter.unusedVariables false
set_option maxHeartbeats 16000000
set_option maxRecDepth 100000
open Go.RowKit Go.Proofs
attribute [local simp] x_seq x_cond x_block x_region x_skip x_exit x_ret head_id runG runOps doOp wantB stepOp AO.eff pureOp St.get St.one St.num St.put St.optNum binA binInt gOp gOp0 gOpL gResL updO gRes gEff addObs_nil addObs_one freshB_memL freshB_none freshB_upd freshB_addMem freshB_addObs effOp2 effOp memL_app stoRow cellsAt toCells toCell scalar_int scalar_bool scalar_str scalar_sl updAt fromRo callRO addMem_nil roArgs roL roA srcCells A1.ownB addMem shift ren SV.map Ob.map Ob.noRo SV.noRo A1.noRo resOf resSV SV.ids A1.ids reach allObs pos St.canon A1.slB flat_int cl_flat' St.parts Eng.inB reps fillA newRowSt appSt oldOf

def mkF : Option Int → List Int → Bool
  | _, [] => true
  | none, y :: r => rng y 0 7 && mkF (some y) r
  | some p, y :: r => rng y 0 7 && !decide (y ≤ p) && mkF (some y) r
def marksOk (l : List Int) : Bool := mkF none l
def prevO (l : List Int) (i : Nat) : Option Int := if i = 0 then none else some (l.getD (i - 1) 0)
theorem prevO_next {l : List Int} {i : Nat} {y : Int} {r : List Int} (h : l.drop i = y :: r) : prevO l (i + 1) = some y := by
  have hi := drop_lt h
  have := List.drop_eq_getElem_cons hi
  rw [h] at this
  simp [prevO, hi, (List.cons.inj this).1]
theorem drop_getD' {l : List Int} {i : Nat} (h : i < l.length) : l.drop i = l.getD i 0 :: l.drop (i + 1) := by
  rw [List.drop_eq_getElem_cons h]
  simp [h]
def S_sMarksOk (l : List Int) (i : Nat) : XS := ⟨⟨[.v false [.ro l.length (cl .i64 l)], .bad, .bad, .v false [.int .i64 (i)], .bad, .bad, .bad, .bad, .bad, .bad, .bad, .bad, .bad, .bad, .bad, .bad, .bad, .bad, .bad, .bad, .bad, .bad, .bad, .bad, .bad, .bad, .bad, .bad, .bad, .bad, .bad, .bad], memL [], []⟩, 0⟩
def R_sMarksOk (ok : Bool) : Option (AE × XS) := if ok = true then some (.exit 0, ⟨⟨[.bad, .bad, .bad, .bad, .bad, .bad, .bad, .bad, .bad, .bad, .bad, .bad, .bad, .bad, .bad, .bad, .bad, .bad, .bad, .bad, .bad, .bad, .bad, .bad, .bad, .bad, .bad, .bad, .bad, .bad, .bad, .bad], memL [], []⟩, 0⟩) else some (.ret, ⟨⟨[.bad, .bad, .v false [.bool (false)], .bad, .bad, .bad, .bad, .bad, .bad, .bad, .bad, .bad, .bad, .bad, .bad, .bad, .bad, .bad, .bad, .bad, .bad, .bad, .bad, .bad, .bad, .bad, .bad, .bad, .bad, .bad, .bad, .bad], memL [], []⟩, 0⟩)
theorem loop_sMarksOk (l : List Int) (hn : l.length ≤ 1048576) {x : XS} (hx : head true d86_0 x = S_sMarksOk l 0) : X tab l86_0 x = R_sMarksOk (marksOk l) := by
  refine loopX (σ := Nat) (S_sMarksOk l) (fun i => l.length - i) (fun i => i ≤ l.length ∧ mkF (prevO l i) (l.drop i) = marksOk l) _ (fun i ⟨hi, hs⟩ => ?_) 0 ⟨Nat.zero_le _, rfl⟩ x hx
  rw [← hs]
  cases hl : l.drop i with
  | nil =>
    obtain rfl := drop_end hl hi
    have : mkF (prevO l l.length) [] = true := by cases prevO l l.length <;> rfl
    rw [this]
    refine .inr ⟨?_, by simp [R_sMarksOk]⟩
    simp (maxSteps := 4000000) -implicitDefEqProofs [b86_0, S_sMarksOk, List.take, List.drop, R_sMarksOk]
    change _ = _
    kernel_rfl
  | cons y r =>
    have hi' := drop_lt hl
    have h1 : (0 ≤ (i : Int) ∧ (i : Int) < (l.length : Int)) := by omega
    have h2 := cl_at (k := .i64) hl
    have h4 := wrap_next hi' (show l.length ≤ 281474976710656 by omega)
    have h5 := r_l1In y 0 7
    by_cases hz : i = 0
    · have c0 : ¬ (0 : Int) < (i : Int) := by omega
      have c0' : ¬ 0 < i := by omega
      rw [show prevO l i = none by simp [prevO, hz], mkF]
      cases hp : rng y 0 7 with
      | false =>
        rw [hp] at h5
        refine .inr ⟨?_, by simp [R_sMarksOk]⟩
        simp (maxSteps := 4000000) -implicitDefEqProofs [b86_0, S_sMarksOk, List.take, List.drop, List.range, List.range.loop, fromRo, h1, h2, h4, h5, hi', R_sMarksOk]
        change _ = _
        kernel_rfl
      | true =>
        rw [hp] at h5
        refine .inl ⟨i + 1, ?_, by omega, hi', by rw [drop_next hl, prevO_next hl]; simp⟩
        simp (maxSteps := 4000000) -implicitDefEqProofs [b86_0, S_sMarksOk, List.take, List.drop, List.range, List.range.loop, fromRo, h1, h2, h4, h5, hi', c0, c0']
        change _ = _
        kernel_rfl
    · have c0 : (0 : Int) < (i : Int) := by omega
      have c0' : 0 < i := by omega
      obtain ⟨j, hj⟩ : ∃ j, j = i - 1 := ⟨_, rfl⟩
      have wj : IntKind.i64.wrap ((i : Int) - 1) = (j : Int) := by rw [wrap_id (by omega) (by omega)]; omega
      have h1j : (0 ≤ (j : Int) ∧ (j : Int) < (l.length : Int)) := by omega
      have h2j := cl_at (k := .i64) (drop_getD' (l := l) (i := j) (by omega))
      rw [show prevO l i = some (l.getD j 0) by simp [prevO, hz, hj], mkF]
      generalize l.getD j 0 = z at *
      cases hp : rng y 0 7 with
      | false =>
        rw [hp] at h5
        refine .inr ⟨?_, by simp [R_sMarksOk]⟩
        simp (maxSteps := 4000000) -implicitDefEqProofs [b86_0, S_sMarksOk, List.take, List.drop, List.range, List.range.loop, fromRo, h1, h2, h4, h5, hi', R_sMarksOk]
        change _ = _
        kernel_rfl
      | true =>
        rw [hp] at h5
        by_cases hyz : y ≤ z
        · refine .inr ⟨?_, by simp [R_sMarksOk, hyz]⟩
          simp (maxSteps := 4000000) -implicitDefEqProofs [b86_0, S_sMarksOk, List.take, List.drop, List.range, List.range.loop, fromRo, h1, h2, h4, h5, hi', c0, c0', wj, h1j, h2j, hyz, R_sMarksOk]
          change _ = _
          kernel_rfl
        · refine .inl ⟨i + 1, ?_, by omega, hi', by rw [drop_next hl, prevO_next hl]; simp [hyz]⟩
          simp (maxSteps := 4000000) -implicitDefEqProofs [b86_0, S_sMarksOk, List.take, List.drop, List.range, List.range.loop, fromRo, h1, h2, h4, h5, hi', c0, c0', wj, h1j, h2j, hyz]
          change _ = _
          kernel_rfl
theorem r_sMarksOk (l : List Int) (hn : l.length ≤ 1048576) : runRO (X tab) tab 86 [.v false [.ro l.length (cl .i64 l)]] = some (.v false [.bool (marksOk l)], []) := by
  unfold runRO
  simp (maxSteps := 4000000) -implicitDefEqProofs [tab86, a86, List.take, List.drop]
  rw [loop_sMarksOk l hn (by change _ = _; kernel_rfl)]
  cases marksOk l <;> simp (maxSteps := 4000000) -implicitDefEqProofs [R_sMarksOk, List.take, List.drop, memL, List.range, List.range.loop]
def S_MarksOk (l : List Int) (i : Nat) : XS := ⟨⟨[.v false [.ro l.length (cl .i64 l)], .bad, .bad, .bad, .bad, .v false [.ro l.length (cl .i64 l)], .v false [.int .i64 (l.length)], .v false [.int .i64 (i)], .bad, .bad, .bad, .bad, .bad, .bad, .bad, .bad, .bad, .bad, .bad, .bad, .bad, .bad, .bad, .bad, .bad, .bad, .bad, .bad, .bad], memL [], []⟩, 0⟩
def R_MarksOk (ok : Bool) : Option (AE × XS) := if ok = true then some (.exit 0, ⟨⟨[.bad, .bad, .bad, .bad, .bad, .bad, .bad, .bad, .bad, .bad, .bad, .bad, .bad, .bad, .bad, .bad, .bad, .bad, .bad, .bad, .bad, .bad, .bad, .bad, .bad, .bad, .bad, .bad, .bad], memL [], []⟩, 0⟩) else some (.ret, ⟨⟨[.bad, .bad, .v false [.bool (false)], .bad, .bad, .bad, .bad, .bad, .bad, .bad, .bad, .bad, .bad, .bad, .bad, .bad, .bad, .bad, .bad, .bad, .bad, .bad, .bad, .bad, .bad, .bad, .bad, .bad, .bad], memL [], []⟩, 0⟩)
theorem loop_MarksOk (l : List Int) (hn : l.length ≤ 1048576) {x : XS} (hx : head true d103_0 x = S_MarksOk l 0) : X tab l103_0 x = R_MarksOk (marksOk l) := by
  refine loopX (σ := Nat) (S_MarksOk l) (fun i => l.length - i) (fun i => i ≤ l.length ∧ mkF (prevO l i) (l.drop i) = marksOk l) _ (fun i ⟨hi, hs⟩ => ?_) 0 ⟨Nat.zero_le _, rfl⟩ x hx
  rw [← hs]
  cases hl : l.drop i with
  | nil =>
    obtain rfl := drop_end hl hi
    have : mkF (prevO l l.length) [] = true := by cases prevO l l.length <;> rfl
    rw [this]
    refine .inr ⟨?_, by simp [R_MarksOk]⟩
    simp (maxSteps := 4000000) -implicitDefEqProofs [b103_0, S_MarksOk, List.take, List.drop, R_MarksOk]
    change _ = _
    kernel_rfl
  | cons y r =>
    have hi' := drop_lt hl
    have h1 : (0 ≤ (i : Int) ∧ (i : Int) < (l.length : Int)) := by omega
    have h2 := cl_at (k := .i64) hl
    have h4 := wrap_next hi' (show l.length ≤ 281474976710656 by omega)
    have h5 := r_isCell y
    by_cases hz : i = 0
    · have c0 : ¬ (0 : Int) < (i : Int) := by omega
      have c0' : ¬ 0 < i := by omega
      rw [show prevO l i = none by simp [prevO, hz], mkF]
      cases hp : rng y 0 7 with
      | false =>
        rw [hp] at h5
        refine .inr ⟨?_, by simp [R_MarksOk]⟩
        simp (maxSteps := 4000000) -implicitDefEqProofs [b103_0, S_MarksOk, List.take, List.drop, List.range, List.range.loop, fromRo, h1, h2, h4, h5, hi', R_MarksOk]
        change _ = _
        kernel_rfl
      | true =>
        rw [hp] at h5
        refine .inl ⟨i + 1, ?_, by omega, hi', by rw [drop_next hl, prevO_next hl]; simp⟩
        simp (maxSteps := 4000000) -implicitDefEqProofs [b103_0, S_MarksOk, List.take, List.drop, List.range, List.range.loop, fromRo, h1, h2, h4, h5, hi', c0, c0']
        change _ = _
        kernel_rfl
    · have c0 : (0 : Int) < (i : Int) := by omega
      have c0' : 0 < i := by omega
      obtain ⟨j, hj⟩ : ∃ j, j = i - 1 := ⟨_, rfl⟩
      have wj : IntKind.i64.wrap ((i : Int) - 1) = (j : Int) := by rw [wrap_id (by omega) (by omega)]; omega
      have h1j : (0 ≤ (j : Int) ∧ (j : Int) < (l.length : Int)) := by omega
      have h2j := cl_at (k := .i64) (drop_getD' (l := l) (i := j) (by omega))
      rw [show prevO l i = some (l.getD j 0) by simp [prevO, hz, hj], mkF]
      generalize l.getD j 0 = z at *
      cases hp : rng y 0 7 with
      | false =>
        rw [hp] at h5
        refine .inr ⟨?_, by simp [R_MarksOk]⟩
        simp (maxSteps := 4000000) -implicitDefEqProofs [b103_0, S_MarksOk, List.take, List.drop, List.range, List.range.loop, fromRo, h1, h2, h4, h5, hi', R_MarksOk]
        change _ = _
        kernel_rfl
      | true =>
        rw [hp] at h5
        by_cases hyz : y ≤ z
        · refine .inr ⟨?_, by simp [R_MarksOk, hyz]⟩
          simp (maxSteps := 4000000) -implicitDefEqProofs [b103_0, S_MarksOk, List.take, List.drop, List.range, List.range.loop, fromRo, h1, h2, h4, h5, hi', c0, c0', wj, h1j, h2j, hyz, R_MarksOk]
          change _ = _
          kernel_rfl
        · refine .inl ⟨i + 1, ?_, by omega, hi', by rw [drop_next hl, prevO_next hl]; simp [hyz]⟩
          simp (maxSteps := 4000000) -implicitDefEqProofs [b103_0, S_MarksOk, List.take, List.drop, List.range, List.range.loop, fromRo, h1, h2, h4, h5, hi', c0, c0', wj, h1j, h2j, hyz]
          change _ = _
          kernel_rfl
theorem r_MarksOk (l : List Int) (hn : l.length ≤ 1048576) : runRO (X tab) tab 103 [.v false [.ro l.length (cl .i64 l)]] = some (.v false [.bool (marksOk l)], []) := by
  unfold runRO
  simp (maxSteps := 4000000) -implicitDefEqProofs [tab103, a103, List.take, List.drop]
  rw [loop_MarksOk l hn (by change _ = _; kernel_rfl)]
  cases marksOk l <;> simp (maxSteps := 4000000) -implicitDefEqProofs [R_MarksOk, List.take, List.drop, memL, List.range, List.range.loop]
/-- The runs up to a cell: the runs that are over, whether the last cell was marked, how many cells are in the run at hand. -/
def rS (m : List Int) : Nat → List Int × Bool × Nat
  | 0 => ([], false, 0)
  | i + 1 => if (decide ((i : Int) ∈ m) != (rS m i).2.1) = true then ((rS m i).1 ++ [((rS m i).2.2 : Int)], !(rS m i).2.1, 1) else ((rS m i).1, (rS m i).2.1, (rS m i).2.2 + 1)
theorem rS_bound (m : List Int) : ∀ i, (rS m i).1.length ≤ i ∧ (rS m i).2.2 ≤ i := by
  intro i
  induction i with
  | zero => simp [rS]
  | succ i ih =>
    simp only [rS]
    split
    · simp; omega
    · simp only; omega
def runs (m : List Int) : List Int := if marksOk m = true then (rS m 8).1 ++ [((rS m 8).2.2 : Int)] else []
def S_SEqual (a b : List Int) (i : Nat) : XS := ⟨⟨[.v false [.ro a.length (cl .i64 a)], .v false [.ro b.length (cl .i64 b)], .bad, .bad, .bad, .bad, .bad, .bad, .bad, .bad, .bad, .bad, .v false [.int .i64 (a.length)], .v false [.int .i64 (i)], .bad, .bad, .bad, .bad, .bad, .bad, .bad, .bad, .bad, .bad, .bad, .bad], memL [], []⟩, 0⟩
def R_SEqual (ok : Bool) : Option (AE × XS) := if ok = true then some (.exit 0, ⟨⟨[.bad, .bad, .bad, .bad, .bad, .bad, .bad, .bad, .bad, .bad, .bad, .bad, .bad, .bad, .bad, .bad, .bad, .bad, .bad, .bad, .bad, .bad, .bad, .bad, .bad, .bad], memL [], []⟩, 0⟩) else some (.ret, ⟨⟨[.bad, .bad, .bad, .bad, .v false [.bool (false)], .bad, .bad, .bad, .bad, .bad, .bad, .bad, .bad, .bad, .bad, .bad, .bad, .bad, .bad, .bad, .bad, .bad, .bad, .bad, .bad, .bad], memL [], []⟩, 0⟩)
theorem loop_SEqual (a b : List Int) (hab : a.length = b.length) (hn : a.length ≤ 1048576) {x : XS} (hx : head true d105_0 x = S_SEqual a b 0) : X tab l105_0 x = R_SEqual (decide (a = b)) := by
  refine loopX (σ := Nat) (S_SEqual a b) (fun i => a.length - i) (fun i => i ≤ a.length ∧ (a.drop i = b.drop i ↔ a = b)) _ (fun i ⟨hi, hs⟩ => ?_) 0 ⟨Nat.zero_le _, by simp⟩ x hx
  rcases Nat.lt_or_ge i a.length with h | h
  · have da := drop_getD' (l := a) (i := i) h
    have db := drop_getD' (l := b) (i := i) (by omega)
    have h1 : (0 ≤ (i : Int) ∧ (i : Int) < (a.length : Int)) := by omega
    have h1' : (0 ≤ (i : Int) ∧ (i : Int) < (b.length : Int)) := by omega
    have h2 := cl_at (k := .i64) da
    have h2' := cl_at (k := .i64) db
    have h3 : i < b.length := by omega
    have h4 := wrap_next h (show a.length ≤ 281474976710656 by omega)
    rw [da, db] at hs
    generalize a.getD i 0 = p at *
    generalize b.getD i 0 = q at *
    cases hp : (p == q) with
    | false =>
      have hne : ¬ p = q := beq_eq_false_iff_ne.1 hp
      have hb : decide (a = b) = false := by rw [decide_eq_false_iff_not, ← hs]; simp [hne]
      rw [hb]
      refine .inr ⟨?_, by simp [R_SEqual]⟩
      simp (maxSteps := 4000000) -implicitDefEqProofs [b105_0, S_SEqual, List.take, List.drop, fromRo, bne, h1, h1', h2, h2', h3, h4, h, hp, R_SEqual]
      change _ = _
      kernel_rfl
    | true =>
      have he : p = q := beq_iff_eq.1 hp
      subst he
      refine .inl ⟨i + 1, ?_, by omega, h, by rw [← hs]; simp⟩
      simp (maxSteps := 4000000) -implicitDefEqProofs [b105_0, S_SEqual, List.take, List.drop, fromRo, bne, h1, h1', h2, h2', h3, h4, h]
      change _ = _
      kernel_rfl
  · obtain rfl : i = a.length := by omega
    have hb : decide (a = b) = true := by rw [decide_eq_true_eq, ← hs, List.drop_length, hab, List.drop_length]
    rw [hb]
    refine .inr ⟨?_, by simp [R_SEqual]⟩
    simp (maxSteps := 4000000) -implicitDefEqProofs [b105_0, S_SEqual, List.take, List.drop, R_SEqual]
    change _ = _
    kernel_rfl
theorem r_SEqual (a b : List Int) (hn : a.length ≤ 1048576) : runRO (X tab) tab 105 [.v false [.ro a.length (cl .i64 a)], .v false [.ro b.length (cl .i64 b)]] = some (.v false [.bool (decide (a = b))], []) := by
  unfold runRO
  by_cases hab : a.length = b.length
  · have h1 : ((a.length : Int) == (b.length : Int)) = true := by rw [beq_iff_eq]; omega
    rw [hab] at h1
    simp (maxSteps := 4000000) -implicitDefEqProofs [tab105, a105, List.take, List.drop, bne, hab]
    rw [loop_SEqual a b hab hn (by change _ = _; rw [S_SEqual, hab]; kernel_rfl)]
    cases decide (a = b) <;> simp (maxSteps := 4000000) -implicitDefEqProofs [R_SEqual, List.take, List.drop, memL, List.range, List.range.loop]
  · have h1 : ((a.length : Int) == (b.length : Int)) = false := by rw [beq_eq_false_iff_ne]; omega
    have hb : decide (a = b) = false := by rw [decide_eq_false_iff_not]; intro e; exact hab (by rw [e])
    rw [hb]
    simp (maxSteps := 4000000) -implicitDefEqProofs [tab105, a105, List.take, List.drop, memL, List.range, List.range.loop, bne, h1]
def pe : List Int → List Int → Bool
  | x :: r, y :: s => (x == y) && pe r s
  | _, _ => true
theorem pe_eq : ∀ (a b : List Int), (pe a b && decide (a.length = b.length)) = decide (a = b) := by
  intro a
  induction a with
  | nil => intro b; cases b <;> simp [pe]
  | cons x r ih =>
    intro b
    cases b with
    | nil => simp [pe]
    | cons y s =>
      have := ih s
      by_cases h : x = y
      · subst h; simpa [pe] using this
      · simp [pe, h]
def S_l5Same (a b : List Int) (i : Nat) : XS := ⟨⟨[.v false [.ro a.length (cl .i64 a)], .v false [.ro b.length (cl .i64 b)], .bad, .bad, .bad, .v false [.int .i64 (i)], .bad, .bad, .bad, .bad, .bad, .bad, .bad, .bad, .bad, .bad, .bad, .bad, .bad, .bad, .bad, .bad, .bad, .bad, .bad, .bad, .bad, .bad, .bad, .bad, .bad, .bad], memL [], []⟩, 0⟩
def R_l5Same (a b : List Int) (ok : Bool) : Option (AE × XS) := if ok = true then some (.exit 0, ⟨⟨[.v false [.ro a.length (cl .i64 a)], .v false [.ro b.length (cl .i64 b)], .bad, .bad, .bad, .bad, .bad, .bad, .bad, .bad, .bad, .bad, .bad, .bad, .bad, .bad, .bad, .bad, .bad, .bad, .bad, .bad, .bad, .bad, .bad, .bad, .bad, .bad, .bad, .bad, .bad, .bad], memL [], []⟩, 0⟩) else some (.ret, ⟨⟨[.bad, .bad, .bad, .bad, .v false [.bool (false)], .bad, .bad, .bad, .bad, .bad, .bad, .bad, .bad, .bad, .bad, .bad, .bad, .bad, .bad, .bad, .bad, .bad, .bad, .bad, .bad, .bad, .bad, .bad, .bad, .bad, .bad, .bad], memL [], []⟩, 0⟩)
theorem loop_l5Same (a b : List Int) (hn : a.length ≤ 1048576) {x : XS} (hx : head true d90_0 x = S_l5Same a b 0) : X tab l90_0 x = R_l5Same a b (pe a b) := by
  refine loopX (σ := Nat) (S_l5Same a b) (fun i => a.length - i) (fun i => i ≤ a.length ∧ i ≤ b.length ∧ pe (a.drop i) (b.drop i) = pe a b) _ (fun i ⟨hi, hib, hs⟩ => ?_) 0 ⟨Nat.zero_le _, Nat.zero_le _, by simp⟩ x hx
  by_cases h : i < a.length ∧ i < b.length
  · obtain ⟨h, h3⟩ := h
    have da := drop_getD' (l := a) (i := i) h
    have db := drop_getD' (l := b) (i := i) h3
    have h1 : (0 ≤ (i : Int) ∧ (i : Int) < (a.length : Int)) := by omega
    have h1' : (0 ≤ (i : Int) ∧ (i : Int) < (b.length : Int)) := by omega
    have h2 := cl_at (k := .i64) da
    have h2' := cl_at (k := .i64) db
    have h4 := wrap_next h (show a.length ≤ 281474976710656 by omega)
    rw [da, db, pe] at hs
    generalize a.getD i 0 = p at *
    generalize b.getD i 0 = q at *
    cases hp : (p == q) with
    | false =>
      rw [hp, Bool.false_and] at hs
      rw [← hs]
      refine .inr ⟨?_, by simp [R_l5Same]⟩
      simp (maxSteps := 4000000) -implicitDefEqProofs [b90_0, S_l5Same, List.take, List.drop, fromRo, bne, h1, h1', h2, h2', h3, h4, h, hp, R_l5Same]
      change _ = _
      kernel_rfl
    | true =>
      rw [hp, Bool.true_and] at hs
      have he : p = q := beq_iff_eq.1 hp
      subst he
      refine .inl ⟨i + 1, ?_, by omega, h, h3, hs⟩
      simp (maxSteps := 4000000) -implicitDefEqProofs [b90_0, S_l5Same, List.take, List.drop, fromRo, bne, h1, h1', h2, h2', h3, h4, h]
      change _ = _
      kernel_rfl
  · have hb : pe (a.drop i) (b.drop i) = true := by
      by_cases ha : i < a.length
      · have : b.drop i = [] := List.drop_eq_nil_of_le (by omega)
        rw [this]; cases a.drop i <;> rfl
      · have : a.drop i = [] := List.drop_eq_nil_of_le (by omega)
        rw [this]; rfl
    rw [hb] at hs
    rw [← hs]
    refine .inr ⟨?_, by simp [R_l5Same]⟩
    by_cases ha : i < a.length
    · have hb' : ¬ i < b.length := fun q => h ⟨ha, q⟩
      simp (maxSteps := 4000000) -implicitDefEqProofs [b90_0, S_l5Same, List.take, List.drop, R_l5Same, ha, hb']
      change _ = _
      kernel_rfl
    · simp (maxSteps := 4000000) -implicitDefEqProofs [b90_0, S_l5Same, List.take, List.drop, R_l5Same, ha]
      change _ = _
      kernel_rfl
theorem r_l5Same (a b : List Int) (hn : a.length ≤ 1048576) : runRO (X tab) tab 90 [.v false [.ro a.length (cl .i64 a)], .v false [.ro b.length (cl .i64 b)]] = some (.v false [.bool (decide (a = b))], []) := by
  unfold runRO
  simp (maxSteps := 4000000) -implicitDefEqProofs [tab90, a90, List.take, List.drop]
  rw [loop_l5Same a b hn (by change _ = _; kernel_rfl), ← pe_eq]
  cases pe a b with
  | false => simp (maxSteps := 4000000) -implicitDefEqProofs [R_l5Same, List.take, List.drop, memL, List.range, List.range.loop]
  | true =>
    by_cases hab : a.length = b.length
    · have h1 : ((a.length : Int) == (b.length : Int)) = true := by rw [beq_iff_eq]; omega
      simp (maxSteps := 4000000) -implicitDefEqProofs [R_l5Same, List.take, List.drop, memL, List.range, List.range.loop, hab]
    · have h1 : ((a.length : Int) == (b.length : Int)) = false := by rw [beq_eq_false_iff_ne]; omega
      simp (maxSteps := 4000000) -implicitDefEqProofs [R_l5Same, List.take, List.drop, memL, List.range, List.range.loop, hab, h1]

/-- All numbers below n are P. -/
def allN (n : Nat) (P : Nat → Bool) : Bool := (List.range n).all P
theorem allN_iff {n : Nat} {P : Nat → Bool} : allN n P = true ↔ ∀ i, i < n → P i = true := by
  unfold allN
  rw [List.all_eq_true]
  exact ⟨fun h i hi => h i (List.mem_range.2 hi), fun h i hi => h i (List.mem_range.1 hi)⟩
/-- A loop that looks at each number below n, and ends where one isn't right. -/
theorem loopAll {dead : List Nat} {b : ACode} (n : Nat) (S : Nat → XS) (P : Nat → Bool) (G B : Option (AE × XS)) (hG : ∀ z, G ≠ some (.nrm, z)) (hB : ∀ z, B ≠ some (.nrm, z))
    (good : ∀ i, i < n → P i = true → (∀ j, j < i → P j = true) → ∃ z, X tab b (S i) = some (.nrm, z) ∧ head true dead z = S (i + 1)) (bad : ∀ i, i < n → P i = false → (∀ j, j < i → P j = true) → X tab b (S i) = B) (out : (∀ j, j < n → P j = true) → X tab b (S n) = G) {x : XS} (hx : head true dead x = S 0) :
    X tab (.loop true dead b) x = if allN n P = true then G else B := by
  unfold allN
  refine loopX (σ := Nat) S (fun i => n - i) (fun i => i ≤ n ∧ ∀ j, j < i → P j = true) _ (fun i ⟨hi, hs⟩ => ?_) 0 ⟨Nat.zero_le _, fun j hj => absurd hj (by omega)⟩ x hx
  rcases Nat.lt_or_ge i n with h | h
  · cases hp : P i with
    | true =>
      obtain ⟨z, h1, h2⟩ := good i h hp hs
      refine .inl ⟨i + 1, ⟨z, h1, h2⟩, by omega, h, fun j hj => ?_⟩
      rcases Nat.lt_or_ge j i with h | h
      · exact hs j h
      · obtain rfl : j = i := by omega
        exact hp
    | false =>
      have : ¬ (List.range n).all P = true := fun ha => by
        rw [List.all_eq_true] at ha
        rw [ha i (List.mem_range.2 h)] at hp
        cases hp
      rw [if_neg this]
      exact .inr ⟨bad i h hp hs, hB⟩
  · obtain rfl : i = n := by omega
    have : (List.range i).all P = true := by rw [List.all_eq_true]; exact fun j hj => hs j (List.mem_range.1 hj)
    rw [if_pos this]
    exact .inr ⟨out hs, hG⟩
/-! Generations. -/
def gensP (l : List Int) (i : Nat) : Bool := rng (l.getD i 0) 1 100000 && !decide (l.getD i 0 ∈ l.take i)
def gensOk (l : List Int) : Bool := allN l.length (gensP l) && decide (l.length ≤ 12)
def S_sGens (l : List Int) (i : Nat) : XS := ⟨⟨[.v false [.ro l.length (cl .i64 l)], .bad, .bad, .v false [.int .i64 (i)], .bad, .bad, .bad, .bad, .bad, .bad, .bad, .bad, .bad, .bad, .bad, .bad, .bad, .bad, .bad, .bad, .bad, .bad, .bad, .bad, .bad, .bad, .bad, .bad, .bad], memL [], []⟩, 0⟩
theorem loop_sGens (l : List Int) (hn : l.length ≤ 1048576) {x : XS} (hx : head true d87_0 x = S_sGens l 0) : X tab l87_0 x = if allN l.length (gensP l) = true then some (.exit 0, ⟨⟨[.v false [.ro l.length (cl .i64 l)], .bad, .bad, .bad, .bad, .bad, .bad, .bad, .bad, .bad, .bad, .bad, .bad, .bad, .bad, .bad, .bad, .bad, .bad, .bad, .bad, .bad, .bad, .bad, .bad, .bad, .bad, .bad, .bad], memL [], []⟩, 0⟩) else some (.ret, ⟨⟨[.bad, .bad, .v false [.bool (false)], .bad, .bad, .bad, .bad, .bad, .bad, .bad, .bad, .bad, .bad, .bad, .bad, .bad, .bad, .bad, .bad, .bad, .bad, .bad, .bad, .bad, .bad, .bad, .bad, .bad, .bad], memL [], []⟩, 0⟩) := by
  refine loopAll l.length (S_sGens l) (gensP l) _ _ (by simp) (by simp) (fun i hi hp _ => ?_) (fun i hi hp _ => ?_) (fun _ => ?_) hx
  · obtain ⟨y, hy⟩ : ∃ y, l.getD i 0 = y := ⟨_, rfl⟩
    have hl := drop_getD' hi
    unfold gensP at hp
    rw [hy] at hl hp
    have h1 : (0 ≤ (i : Int) ∧ (i : Int) < (l.length : Int)) := by omega
    have h2 := cl_at (k := .i64) hl
    have h4 := wrap_next hi (show l.length ≤ 281474976710656 by omega)
    have h5 := r_l1In y 1 100000
    have h6 := r_l2Has (l.take i) y (by rw [List.length_take]; omega)
    rw [List.length_take, Nat.min_eq_left (by omega), ← cl_take] at h6
    have h7 : (i : Int) ≤ (l.length : Int) := by omega
    simp only [Bool.and_eq_true, Bool.not_eq_true'] at hp
    rw [hp.1] at h5
    rw [hp.2] at h6
    simp (maxSteps := 4000000) -implicitDefEqProofs [b87_0, S_sGens, List.take, List.drop, List.range, List.range.loop, cutB, fromRo, h1, h2, h4, h5, h6, h7, hi]
    change _ = _
    kernel_rfl
  · obtain ⟨y, hy⟩ : ∃ y, l.getD i 0 = y := ⟨_, rfl⟩
    have hl := drop_getD' hi
    unfold gensP at hp
    rw [hy] at hl hp
    have h1 : (0 ≤ (i : Int) ∧ (i : Int) < (l.length : Int)) := by omega
    have h2 := cl_at (k := .i64) hl
    have h4 := wrap_next hi (show l.length ≤ 281474976710656 by omega)
    have h5 := r_l1In y 1 100000
    have h6 := r_l2Has (l.take i) y (by rw [List.length_take]; omega)
    rw [List.length_take, Nat.min_eq_left (by omega), ← cl_take] at h6
    have h7 : (i : Int) ≤ (l.length : Int) := by omega
    cases hr : rng y 1 100000 with
    | false =>
      rw [hr] at h5
      simp (maxSteps := 4000000) -implicitDefEqProofs [b87_0, S_sGens, List.take, List.drop, List.range, List.range.loop, cutB, fromRo, h1, h2, h4, h5, h7, hi]
      change _ = _
      kernel_rfl
    | true =>
      rw [hr, Bool.true_and] at hp
      have hq : decide (y ∈ l.take i) = true := by simpa using hp
      rw [hr] at h5
      rw [hq] at h6
      simp (maxSteps := 4000000) -implicitDefEqProofs [b87_0, S_sGens, List.take, List.drop, List.range, List.range.loop, cutB, fromRo, h1, h2, h4, h5, h6, h7, hi]
      change _ = _
      kernel_rfl
  · simp (maxSteps := 4000000) -implicitDefEqProofs [b87_0, S_sGens, List.take, List.drop]
    change _ = _
    kernel_rfl
theorem r_sGensOk (l : List Int) (hn : l.length ≤ 1048576) : runRO (X tab) tab 87 [.v false [.ro l.length (cl .i64 l)]] = some (.v false [.bool (gensOk l)], []) := by
  unfold runRO
  simp (maxSteps := 4000000) -implicitDefEqProofs [tab87, a87, List.take, List.drop]
  rw [loop_sGens l hn (by change _ = _; kernel_rfl)]
  unfold gensOk
  cases allN l.length (gensP l) with
  | false => simp (maxSteps := 4000000) -implicitDefEqProofs [List.take, List.drop, memL, List.range, List.range.loop]
  | true =>
    by_cases h8 : l.length ≤ 12
    · have h8' : (l.length : Int) ≤ 12 := by omega
      simp (maxSteps := 4000000) -implicitDefEqProofs [List.take, List.drop, memL, List.range, List.range.loop, h8, h8']
    · have h8' : ¬ (l.length : Int) ≤ 12 := by omega
      simp (maxSteps := 4000000) -implicitDefEqProofs [List.take, List.drop, memL, List.range, List.range.loop, h8, h8']
def S_Gens (l : List Int) (i : Nat) : XS := ⟨⟨[.v false [.ro l.length (cl .i64 l)], .bad, .bad, .bad, .bad, .v false [.ro l.length (cl .i64 l)], .v false [.int .i64 (l.length)], .v false [.int .i64 (i)], .bad, .bad, .bad, .bad, .bad, .bad, .bad, .bad, .bad, .bad, .bad, .bad, .bad, .bad, .bad, .bad, .bad, .bad], memL [], []⟩, 0⟩
theorem loop_Gens (l : List Int) (hn : l.length ≤ 1048576) {x : XS} (hx : head true d100_0 x = S_Gens l 0) : X tab l100_0 x = if allN l.length (gensP l) = true then some (.exit 0, ⟨⟨[.v false [.ro l.length (cl .i64 l)], .bad, .bad, .bad, .bad, .bad, .bad, .bad, .bad, .bad, .bad, .bad, .bad, .bad, .bad, .bad, .bad, .bad, .bad, .bad, .bad, .bad, .bad, .bad, .bad, .bad], memL [], []⟩, 0⟩) else some (.ret, ⟨⟨[.bad, .bad, .v false [.bool (false)], .bad, .bad, .bad, .bad, .bad, .bad, .bad, .bad, .bad, .bad, .bad, .bad, .bad, .bad, .bad, .bad, .bad, .bad, .bad, .bad, .bad, .bad, .bad], memL [], []⟩, 0⟩) := by
  refine loopAll l.length (S_Gens l) (gensP l) _ _ (by simp) (by simp) (fun i hi hp _ => ?_) (fun i hi hp _ => ?_) (fun _ => ?_) hx
  · obtain ⟨y, hy⟩ : ∃ y, l.getD i 0 = y := ⟨_, rfl⟩
    have hl := drop_getD' hi
    unfold gensP at hp
    rw [hy] at hl hp
    have h1 : (0 ≤ (i : Int) ∧ (i : Int) < (l.length : Int)) := by omega
    have h2 := cl_at (k := .i64) hl
    have h4 := wrap_next hi (show l.length ≤ 281474976710656 by omega)
    have h5 := r_from y 1 100000
    have h6 := r_Contains (l.take i) y (by rw [List.length_take]; omega)
    rw [List.length_take, Nat.min_eq_left (by omega), ← cl_take] at h6
    have h7 : (i : Int) ≤ (l.length : Int) := by omega
    simp only [Bool.and_eq_true, Bool.not_eq_true'] at hp
    rw [hp.1] at h5
    rw [hp.2] at h6
    simp (maxSteps := 4000000) -implicitDefEqProofs [b100_0, S_Gens, List.take, List.drop, List.range, List.range.loop, cutB, fromRo, h1, h2, h4, h5, h6, h7, hi]
    change _ = _
    kernel_rfl
  · obtain ⟨y, hy⟩ : ∃ y, l.getD i 0 = y := ⟨_, rfl⟩
    have hl := drop_getD' hi
    unfold gensP at hp
    rw [hy] at hl hp
    have h1 : (0 ≤ (i : Int) ∧ (i : Int) < (l.length : Int)) := by omega
    have h2 := cl_at (k := .i64) hl
    have h4 := wrap_next hi (show l.length ≤ 281474976710656 by omega)
    have h5 := r_from y 1 100000
    have h6 := r_Contains (l.take i) y (by rw [List.length_take]; omega)
    rw [List.length_take, Nat.min_eq_left (by omega), ← cl_take] at h6
    have h7 : (i : Int) ≤ (l.length : Int) := by omega
    cases hr : rng y 1 100000 with
    | false =>
      rw [hr] at h5
      simp (maxSteps := 4000000) -implicitDefEqProofs [b100_0, S_Gens, List.take, List.drop, List.range, List.range.loop, cutB, fromRo, h1, h2, h4, h5, h7, hi]
      change _ = _
      kernel_rfl
    | true =>
      rw [hr, Bool.true_and] at hp
      have hq : decide (y ∈ l.take i) = true := by simpa using hp
      rw [hr] at h5
      rw [hq] at h6
      simp (maxSteps := 4000000) -implicitDefEqProofs [b100_0, S_Gens, List.take, List.drop, List.range, List.range.loop, cutB, fromRo, h1, h2, h4, h5, h6, h7, hi]
      change _ = _
      kernel_rfl
  · simp (maxSteps := 4000000) -implicitDefEqProofs [b100_0, S_Gens, List.take, List.drop]
    change _ = _
    kernel_rfl
theorem r_GensOk (l : List Int) (hn : l.length ≤ 1048576) : runRO (X tab) tab 100 [.v false [.ro l.length (cl .i64 l)]] = some (.v false [.bool (gensOk l)], []) := by
  unfold runRO
  simp (maxSteps := 4000000) -implicitDefEqProofs [tab100, a100, List.take, List.drop]
  rw [loop_Gens l hn (by change _ = _; kernel_rfl)]
  unfold gensOk
  cases allN l.length (gensP l) with
  | false => simp (maxSteps := 4000000) -implicitDefEqProofs [List.take, List.drop, memL, List.range, List.range.loop]
  | true =>
    by_cases h8 : l.length ≤ 12
    · have h8' : (l.length : Int) ≤ 12 := by omega
      simp (maxSteps := 4000000) -implicitDefEqProofs [List.take, List.drop, memL, List.range, List.range.loop, h8, h8']
    · have h8' : ¬ (l.length : Int) ≤ 12 := by omega
      simp (maxSteps := 4000000) -implicitDefEqProofs [List.take, List.drop, memL, List.range, List.range.loop, h8, h8']

/-! slices.ContainsFunc over lists of lists, with a closure without variables. -/
def fidL (p : List Int → Bool) : Nat → List (List Int) → Option Nat
  | _, [] => none
  | i, y :: r => if p y = true then some i else fidL p (i + 1) r
theorem fidL_some {p : List Int → Bool} : ∀ {l : List (List Int)} {i : Nat}, (fidL p i l).isSome = l.any p := by
  intro l
  induction l with
  | nil => intro i; rfl
  | cons y r ih =>
    intro i
    simp only [fidL, List.any_cons]
    cases hp : p y with
    | true => simp
    | false => simp [ih]
def SL (f : FuncId) (l : List (List Int)) (m : Mem) (up : List SV) (nx i : Nat) : XS := ⟨⟨[.v false [.ro l.length (l.map intsC)], .v false [.fn f []], .bad, .bad, .bad, .bad, .bad, .v false [.int .i64 (l.length)], .v false [.int .i64 (i)], .bad, .bad, .bad, .bad, .bad, .bad, .bad, .bad, .bad, .bad], m, up⟩, nx⟩
def RL (m : Mem) (up : List SV) (nx : Nat) (c : Nat) : Option Nat → Option (AE × XS)
  | none => some (.exit 0, ⟨⟨[.bad, .bad, .bad, .bad, .bad, .bad, .bad, .bad, .bad, .bad, .bad, .bad, .bad, .bad, .bad, .bad, .bad, .bad, .bad], m, up⟩, nx + 64⟩)
  | some j => some (.ret, ⟨⟨[.bad, .bad, .bad, .bad, .v false [.int .i64 (j)], .bad, .bad, .bad, .bad, .bad, .bad, .bad, .bad, .bad, .bad, .bad, .bad, .bad, .bad], m, up⟩, nx + 704 + c⟩)
theorem loop_IndexL (l : List (List Int)) (f : FuncId) (p : List Int → Bool) (c : Nat) (hn : l.length ≤ 1048576) (m : Mem) (up : List SV) (nx : Nat) (hf : ∀ (y : List Int) sl up nx, y ∈ l → runThru (X tab) tab f [.v false [.ro y.length (cl .i64 y)]] ⟨⟨sl, m, up⟩, nx⟩ = some (.v false [.bool (p y)], ⟨⟨sl, m, up⟩, nx + c⟩)) {x : XS}
    (hx : head false d112_0 x = SL f l m up nx 0) : X tab l112_0 x = RL m up nx c (fidL p 0 l) := by
  refine loopXF (σ := Nat) (SL f l m up nx) (fun i => l.length - i) (fun i => i ≤ l.length ∧ fidL p i (l.drop i) = fidL p 0 l) _ (fun i ⟨hi, hs⟩ => ?_) 0 ⟨Nat.zero_le _, rfl⟩ x hx
  cases hl : l.drop i with
  | nil =>
    obtain rfl := dropx_end hl hi
    rw [← hs, hl]
    refine .inr ⟨?_, by simp [fidL, RL]⟩
    simp (maxSteps := 4000000) -implicitDefEqProofs [b112_0, SL, List.take, List.drop, fidL, RL]
    change _ = _
    kernel_rfl
  | cons y r =>
    have hi' := dropx_lt hl
    have h1 : (0 ≤ (i : Int) ∧ (i : Int) < (l.length : Int)) := by omega
    have h2 := intss_at hl
    simp only [intsC] at h2
    have h4 := wrap_next hi' (show l.length ≤ 281474976710656 by omega)
    have h5 := fun sl up nx => hf y sl up nx (dropx_mem hl)
    rw [hl] at hs
    simp only [fidL] at hs
    cases hp : p y with
    | true =>
      rw [if_pos hp] at hs
      rw [← hs]
      refine .inr ⟨?_, by simp [RL]⟩
      simp (maxSteps := 4000000) -implicitDefEqProofs [b112_0, SL, List.take, List.drop, getAll, fromRo, h1, h2, h4, h5, hi', hp, RL]
      simp only [head, killSlots, Bool.false_eq_true, if_false, List.set, XS.mk.injEq, true_and]
      omega
    | false =>
      rw [if_neg (by simp [hp])] at hs
      refine .inl ⟨i + 1, ?_, by omega, hi', by rw [dropx_next hl]; exact hs⟩
      simp (maxSteps := 4000000) -implicitDefEqProofs [b112_0, SL, List.take, List.drop, getAll, fromRo, h1, h2, h4, h5, hi', hp]
      change _ = _
      kernel_rfl
def dL (c : Nat) : Option Nat → Nat
  | none => 384
  | some _ => 960 + c
theorem r_ContainsL (l : List (List Int)) (f : FuncId) (p : List Int → Bool) (c : Nat) (hn : l.length ≤ 1048576) (hf : ∀ (y : List Int) sl up nx, y ∈ l → runThru (X tab) tab f [.v false [.ro y.length (cl .i64 y)]] ⟨⟨sl, fun _ => none, up⟩, nx⟩ = some (.v false [.bool (p y)], ⟨⟨sl, fun _ => none, up⟩, nx + c⟩)) :
    runRO (X tab) tab 101 [.v false [.ro l.length (l.map intsC)], .v false [.fn f []]] = some (.v false [.bool (l.any p)], []) := by
  have h1 : ∀ sl up nx, runThru (X tab) tab 112 [.v false [.ro l.length (l.map intsC)], .v false [.fn f []]] ⟨⟨sl, fun _ => none, up⟩, nx⟩ = some (.v false [.int .i64 (match fidL p 0 l with | some j => (j : Int) | none => -1)], ⟨⟨sl, fun _ => none, up⟩, nx + dL c (fidL p 0 l)⟩) := by
    intro sl up nx
    unfold runThru
    simp (maxSteps := 4000000) -implicitDefEqProofs [tab112, a112, List.take, List.drop]
    rw [loop_IndexL l f p c hn (fun _ => none) (sl ++ up) (nx + 256) hf (by change _ = _; kernel_rfl)]
    cases fidL p 0 l with
    | none => simp (maxSteps := 4000000) -implicitDefEqProofs [RL, List.take, List.drop, resOf, resSV, Nat.add_assoc, dL]
    | some j => simp (maxSteps := 4000000) -implicitDefEqProofs [RL, List.take, List.drop, resOf, resSV, Nat.add_assoc, dL]
  have hs := fidL_some (p := p) (l := l) (i := 0)
  unfold runRO
  generalize fidL p 0 l = q at *
  rw [← hs]
  cases q with
  | none =>
    simp (maxSteps := 4000000) -implicitDefEqProofs [tab101, a101, List.take, List.drop, memL, List.range, List.range.loop, getAll, h1]
  | some j =>
    have hj : (0 : Int) ≤ (j : Int) := by omega
    simp (maxSteps := 4000000) -implicitDefEqProofs [tab101, a101, List.take, List.drop, memL, List.range, List.range.loop, getAll, h1, hj]
theorem f_marksAll (y : List Int) (hy : y.length ≤ 1048576) (sl : List SV) (m : Mem) (up : List SV) (nx : Nat) : runThru (X tab) tab 102 [.v false [.ro y.length (cl .i64 y)]] ⟨⟨sl, m, up⟩, nx⟩ = some (.v false [.bool (!marksOk y)], ⟨⟨sl, m, up⟩, nx + 320⟩) := by
  have h := r_MarksOk y hy
  unfold runThru
  simp (maxSteps := 4000000) -implicitDefEqProofs [tab102, a102, List.take, List.drop, List.range, List.range.loop, h, resOf, resSV]
def marksAll (l : List (List Int)) : Bool := decide (l.length = 3) && l.all marksOk
theorem r_marksAll (l : List (List Int)) (hn : l.length ≤ 1048576) (hl : ∀ y ∈ l, y.length ≤ 1048576) : runRO (X tab) tab 92 [.v false [.ro l.length (l.map intsC)]] = some (.v false [.bool (marksAll l)], []) := by
  have h := r_ContainsL l 102 (fun y => !marksOk y) 320 hn (fun y sl up nx hy => f_marksAll y (hl y hy) sl _ up nx)
  have e : (l.any fun y => !marksOk y) = !(l.all marksOk) := by
    induction l with
    | nil => rfl
    | cons y r ih =>
      have := ih (by simp at hn; omega) (fun y hy => hl y (List.mem_cons_of_mem _ hy)) (r_ContainsL r 102 (fun y => !marksOk y) 320 (by simp at hn; omega) (fun y sl up nx hy => f_marksAll y (hl _ (List.mem_cons_of_mem _ hy)) sl _ up nx))
      rw [List.any_cons, List.all_cons, this]
      cases marksOk y <;> simp
  rw [e] at h
  unfold runRO marksAll
  by_cases h3 : l.length = 3
  · have h3' : ((l.length : Int) == 3) = true := by rw [beq_iff_eq]; omega
    simp only [h3, decide_true, Bool.true_and]
    generalize l.all marksOk = q at h
    rw [h3] at h
    simp (maxSteps := 4000000) -implicitDefEqProofs [tab92, a92, List.take, List.drop, List.range, List.range.loop, memL, h, h3']
  · have h3' : ((l.length : Int) == 3) = false := by rw [beq_eq_false_iff_ne]; omega
    simp (maxSteps := 4000000) -implicitDefEqProofs [tab92, a92, List.take, List.drop, List.range, List.range.loop, memL, h, h3, h3']
theorem dropx_getD {α : Type} {l : List α} {i : Nat} (d : α) (h : i < l.length) : l.drop i = l.getD i d :: l.drop (i + 1) := by
  rw [List.drop_eq_getElem_cons h]
  simp [h]
/-! Metas. -/
structure SmM (m : PMeta) : Prop where
  gens : m.gens.length ≤ 1048576
  bits : m.bits.length ≤ 1048576
  bit : ∀ l ∈ m.bits, l.length ≤ 1048576
def metaOk (m : PMeta) : Bool := gensOk m.gens && decide (0 < m.gens.length) && marksAll m.bits && rng m.last 0 200 && !(m.old && m.hd)
theorem r_MetaOk (m : PMeta) (h : SmM m) : runRO (X tab) tab 91 [.v true (metaA m)] = some (.v false [.bool (metaOk m)], []) := by
  have q1 := r_GensOk m.gens h.gens
  have q2 := r_marksAll m.bits h.bits h.bit
  have q3 := r_from m.last 0 200
  have q4 : ((0 : Int) < (m.gens.length : Int)) = (0 < m.gens.length) := by apply propext; omega
  unfold metaOk
  generalize gensOk m.gens = g1 at *
  generalize marksAll m.bits = g2 at *
  generalize rng m.last 0 200 = g3 at *
  unfold runRO
  cases g1 with
  | false => simp (maxSteps := 4000000) -implicitDefEqProofs [tab91, a91, List.take, List.drop, List.range, List.range.loop, memL, effOp2, effOp, roCells, metaA, fromRo, q1, q2, q3, q4]
  | true =>
    by_cases hg : 0 < m.gens.length
    · cases g2 with
      | false => simp (maxSteps := 4000000) -implicitDefEqProofs [tab91, a91, List.take, List.drop, List.range, List.range.loop, memL, effOp2, effOp, roCells, metaA, fromRo, q1, q2, q3, q4, hg]
      | true =>
        cases g3 with
        | false => simp (maxSteps := 4000000) -implicitDefEqProofs [tab91, a91, List.take, List.drop, List.range, List.range.loop, memL, effOp2, effOp, roCells, metaA, fromRo, q1, q2, q3, q4, hg]
        | true =>
          cases ho : m.old with
          | false => simp (maxSteps := 4000000) -implicitDefEqProofs [tab91, a91, List.take, List.drop, List.range, List.range.loop, memL, effOp2, effOp, roCells, metaA, fromRo, q1, q2, q3, q4, hg, ho]
          | true => simp (maxSteps := 4000000) -implicitDefEqProofs [tab91, a91, List.take, List.drop, List.range, List.range.loop, memL, effOp2, effOp, roCells, metaA, fromRo, q1, q2, q3, q4, hg, ho]
    · simp (maxSteps := 4000000) -implicitDefEqProofs [tab91, a91, List.take, List.drop, List.range, List.range.loop, memL, effOp2, effOp, roCells, metaA, fromRo, q1, q2, q3, q4, hg]
/-! The reference's. -/
def S_sMetaOk (m : PMeta) (i : Nat) : XS := ⟨⟨[.bad, .v false [.pc (metaC m)], .bad, .v false [.int .i64 (i)], .bad, .bad, .bad, .bad, .bad, .bad, .bad, .bad, .bad, .bad, .bad, .bad, .bad, .bad, .bad, .bad, .bad, .bad, .bad, .bad, .bad, .bad, .bad, .bad, .bad, .bad, .bad, .bad, .bad, .bad, .bad, .bad, .bad, .bad, .bad, .bad, .bad, .bad, .bad, .bad, .bad, .bad, .bad], memL [], []⟩, 0⟩
theorem loop_sMetaOk (m : PMeta) (h : SmM m) {x : XS} (hx : head true d63_0 x = S_sMetaOk m 0) : X tab l63_0 x = if allN m.bits.length (fun i => marksOk (m.bits.getD i [])) = true then some (.exit 0, ⟨⟨[.bad, .v false [.pc (metaC m)], .bad, .bad, .bad, .bad, .bad, .bad, .bad, .bad, .bad, .bad, .bad, .bad, .bad, .bad, .bad, .bad, .bad, .bad, .bad, .bad, .bad, .bad, .bad, .bad, .bad, .bad, .bad, .bad, .bad, .bad, .bad, .bad, .bad, .bad, .bad, .bad, .bad, .bad, .bad, .bad, .bad, .bad, .bad, .bad, .bad], memL [], []⟩, 0⟩) else some (.ret, ⟨⟨[.bad, .bad, .v false [.bool (false)], .bad, .bad, .bad, .bad, .bad, .bad, .bad, .bad, .bad, .bad, .bad, .bad, .bad, .bad, .bad, .bad, .bad, .bad, .bad, .bad, .bad, .bad, .bad, .bad, .bad, .bad, .bad, .bad, .bad, .bad, .bad, .bad, .bad, .bad, .bad, .bad, .bad, .bad, .bad, .bad, .bad, .bad, .bad, .bad], memL [], []⟩, 0⟩) := by
  have hlen := h.bits
  refine loopAll m.bits.length (S_sMetaOk m) _ _ _ (by simp) (by simp) (fun i hi hp _ => ?_) (fun i hi hp _ => ?_) (fun _ => ?_) hx
  · obtain ⟨y, hy⟩ : ∃ y, m.bits.getD i [] = y := ⟨_, rfl⟩
    have hl := dropx_getD [] hi
    rw [hy] at hl
    simp only [hy] at hp
    have h1 : (0 ≤ (i : Int) ∧ (i : Int) < (m.bits.length : Int)) := by omega
    have h2 := intss_at hl
    have h4 := wrap_next hi (show m.bits.length ≤ 281474976710656 by omega)
    have h5 := r_sMarksOk y (h.bit y (dropx_mem hl))
    rw [hp] at h5
    simp only [intsC] at h2
    simp only [S_sMetaOk, metaC, intsC, intssC]
    simp (maxSteps := 4000000) -implicitDefEqProofs [b63_0, List.take, List.drop, List.range, List.range.loop, fromRo, h1, h2, h4, h5, hi]
    change _ = _
    kernel_rfl
  · obtain ⟨y, hy⟩ : ∃ y, m.bits.getD i [] = y := ⟨_, rfl⟩
    have hl := dropx_getD [] hi
    rw [hy] at hl
    simp only [hy] at hp
    have h1 : (0 ≤ (i : Int) ∧ (i : Int) < (m.bits.length : Int)) := by omega
    have h2 := intss_at hl
    have h4 := wrap_next hi (show m.bits.length ≤ 281474976710656 by omega)
    have h5 := r_sMarksOk y (h.bit y (dropx_mem hl))
    rw [hp] at h5
    simp only [intsC] at h2
    simp only [S_sMetaOk, metaC, intsC, intssC]
    simp (maxSteps := 4000000) -implicitDefEqProofs [b63_0, List.take, List.drop, List.range, List.range.loop, fromRo, h1, h2, h4, h5, hi]
    change _ = _
    kernel_rfl
  · simp only [S_sMetaOk, metaC, intsC, intssC]
    simp (maxSteps := 4000000) -implicitDefEqProofs [b63_0, List.take, List.drop, fromRo]
    change _ = _
    kernel_rfl
theorem all_allN {α : Type} (l : List α) (d : α) (p : α → Bool) : l.all p = allN l.length (fun i => p (l.getD i d)) := by
  rw [Bool.eq_iff_iff, allN_iff, List.all_eq_true]
  constructor
  · intro h i hi
    rw [List.getD_eq_getElem?_getD, List.getElem?_eq_getElem hi]
    exact h _ (List.getElem_mem hi)
  · intro h x hx
    obtain ⟨i, hi, rfl⟩ := List.getElem_of_mem hx
    have := h i hi
    rwa [List.getD_eq_getElem?_getD, List.getElem?_eq_getElem hi] at this
theorem r_sMetaOk (m : PMeta) (h : SmM m) : runRO (X tab) tab 63 [.v true (metaA m)] = some (.v false [.bool (metaOk m)], []) := by
  have q1 := r_sGensOk m.gens h.gens
  have q3 := r_l1In m.last 0 200
  have q4 : ((0 : Int) < (m.gens.length : Int)) = (0 < m.gens.length) := by apply propext; omega
  have hlo := fun {x} => loop_sMetaOk m h (x := x)
  have hS : S_sMetaOk m 0 = ⟨⟨[.bad, .v false [.pc (metaC m)], .bad, .v false [.int .i64 (0)], .bad, .bad, .bad, .bad, .bad, .bad, .bad, .bad, .bad, .bad, .bad, .bad, .bad, .bad, .bad, .bad, .bad, .bad, .bad, .bad, .bad, .bad, .bad, .bad, .bad, .bad, .bad, .bad, .bad, .bad, .bad, .bad, .bad, .bad, .bad, .bad, .bad, .bad, .bad, .bad, .bad, .bad, .bad], memL [], []⟩, 0⟩ := rfl
  simp only [metaC, intsC, intssC] at hlo hS
  unfold metaOk marksAll
  rw [all_allN m.bits []]
  generalize gensOk m.gens = g1 at *
  generalize allN m.bits.length (fun i => marksOk (m.bits.getD i [])) = g2 at *
  generalize rng m.last 0 200 = g3 at *
  unfold runRO
  simp (maxSteps := 4000000) -implicitDefEqProofs [tab63, a63, List.take, List.drop, effOp2, effOp, roCells, metaA]
  rw [hlo (by rw [hS]; change _ = _; kernel_rfl)]
  cases g2 with
  | false => simp (maxSteps := 4000000) -implicitDefEqProofs [List.take, List.drop, memL, List.range, List.range.loop]
  | true =>
    cases g1 with
    | false => simp (maxSteps := 4000000) -implicitDefEqProofs [List.take, List.drop, List.range, List.range.loop, memL, fromRo, q1]
    | true =>
      by_cases hg : 0 < m.gens.length
      · by_cases h3 : m.bits.length = 3
        · have h3' : ((m.bits.length : Int) == 3) = true := by rw [beq_iff_eq]; omega
          cases g3 with
          | false => simp (maxSteps := 4000000) -implicitDefEqProofs [List.take, List.drop, List.range, List.range.loop, memL, fromRo, q1, q3, q4, hg, h3, h3']
          | true =>
            cases ho : m.old with
            | false => simp (maxSteps := 4000000) -implicitDefEqProofs [List.take, List.drop, List.range, List.range.loop, memL, fromRo, q1, q3, q4, hg, h3, h3', ho]
            | true => simp (maxSteps := 4000000) -implicitDefEqProofs [List.take, List.drop, List.range, List.range.loop, memL, fromRo, q1, q3, q4, hg, h3, h3', ho]
        · have h3' : ((m.bits.length : Int) == 3) = false := by rw [beq_eq_false_iff_ne]; omega
          simp (maxSteps := 4000000) -implicitDefEqProofs [List.take, List.drop, List.range, List.range.loop, memL, fromRo, q1, q3, q4, hg, h3, h3']
      · simp (maxSteps := 4000000) -implicitDefEqProofs [List.take, List.drop, List.range, List.range.loop, memL, fromRo, q1, q3, q4, hg]
end Go.Proofs.YtbdokibepndibaaGreat.Eng.C
