/- Marks in form, and their runs, as the program and the reference compute them. -/
import Derived.Test.YtdagbeihjobmjaaRHas
namespace Go.Proofs.Ytdagbeihjobmjaa.Eng.R
set_option linter.unusedSimpArgs false
set_option linter.unusedVariables false
set_option maxHeartbeats 8000000
set_option maxRecDepth 100000
open Go.RowKit Go.Proofs

def mkF : Option Int → List Int → Bool
  | _, [] => true
  | none, y :: r => rng y 0 7 && mkF (some y) r
  | some p, y :: r => rng y 0 7 && !decide (y ≤ p) && mkF (some y) r
def marksOk (l : List Int) : Bool := mkF none l
def prevO (l : List Int) (i : Nat) : Option Int := if i = 0 then none else some (l.getD (i - 1) 0)
theorem prevO_next {l : List Int} {i : Nat} {y : Int} {r : List Int} (h : l.drop i = y :: r) : prevO l (i + 1) = some y := by
  have hi := drop_lt h
  have := List.drop_eq_getElem_cons hi
  rw [h] at this
  simp [prevO, hi, (List.cons.inj this).1]
theorem drop_getD' {l : List Int} {i : Nat} (h : i < l.length) : l.drop i = l.getD i 0 :: l.drop (i + 1) := by
  rw [List.drop_eq_getElem_cons h]
  simp [h]
def S_sMarksOk (l : List Int) (i : Nat) : XS := ⟨⟨[.v false [.ro l.length (cl .i64 l)], .bad, .bad, .v false [.int .i64 (i)], .bad, .bad, .bad, .bad, .bad, .bad, .bad, .bad, .bad, .bad, .bad, .bad, .bad, .bad, .bad, .bad, .bad, .bad, .bad, .bad, .bad, .bad, .bad, .bad, .bad, .bad, .bad, .bad], memL [], []⟩, 0⟩
def R_sMarksOk (ok : Bool) : Option (AE × XS) := if ok = true then some (.exit 0, ⟨⟨[.bad, .bad, .bad, .bad, .bad, .bad, .bad, .bad, .bad, .bad, .bad, .bad, .bad, .bad, .bad, .bad, .bad, .bad, .bad, .bad, .bad, .bad, .bad, .bad, .bad, .bad, .bad, .bad, .bad, .bad, .bad, .bad], memL [], []⟩, 0⟩) else some (.ret, ⟨⟨[.bad, .bad, .v false [.bool (false)], .bad, .bad, .bad, .bad, .bad, .bad, .bad, .bad, .bad, .bad, .bad, .bad, .bad, .bad, .bad, .bad, .bad, .bad, .bad, .bad, .bad, .bad, .bad, .bad, .bad, .bad, .bad, .bad, .bad], memL [], []⟩, 0⟩)
theorem loop_sMarksOk (l : List Int) (hn : l.length ≤ 1048576) {x : XS} (hx : head true d121_0 x = S_sMarksOk l 0) : X tab l121_0 x = R_sMarksOk (marksOk l) := by
  refine loopX (σ := Nat) (S_sMarksOk l) (fun i => l.length - i) (fun i => i ≤ l.length ∧ mkF (prevO l i) (l.drop i) = marksOk l) _ (fun i ⟨hi, hs⟩ => ?_) 0 ⟨Nat.zero_le _, rfl⟩ x hx
  rw [← hs]
  cases hl : l.drop i with
  | nil =>
    obtain rfl := drop_end hl hi
    have : mkF (prevO l l.length) [] = true := by cases prevO l l.length <;> rfl
    rw [this]
    refine .inr ⟨?_, by simp [R_sMarksOk]⟩
    simp (maxSteps := 4000000) -implicitDefEqProofs [b121_0, S_sMarksOk, x_seq, x_cond, x_block, x_region, x_skip, x_exit, x_ret, head_id, runG, runOps, doOp, wantB, stepOp, AO.eff, pureOp, St.get, St.one, St.num, St.put, St.optNum, binA, binInt, List.take, List.drop, R_sMarksOk]
    change _ = _
    kernel_rfl
  | cons y r =>
    have hi' := drop_lt hl
    have h1 : (0 ≤ (i : Int) ∧ (i : Int) < (l.length : Int)) := by omega
    have h2 := cl_at (k := .i64) hl
    have h4 := wrap_next hi' (show l.length ≤ 281474976710656 by omega)
    have h5 := r_l1In y 0 7
    by_cases hz : i = 0
    · have c0 : ¬ (0 : Int) < (i : Int) := by omega
      have c0' : ¬ 0 < i := by omega
      rw [show prevO l i = none by simp [prevO, hz], mkF]
      cases hp : rng y 0 7 with
      | false =>
        rw [hp] at h5
        refine .inr ⟨?_, by simp [R_sMarksOk]⟩
        simp (maxSteps := 4000000) -implicitDefEqProofs [b121_0, S_sMarksOk, x_seq, x_cond, x_block, x_region, x_skip, x_exit, x_ret, head_id, runG, runOps, doOp, wantB, stepOp, AO.eff, pureOp, St.get, St.one, St.num, St.put, St.optNum, binA, binInt, List.take, List.drop, gOp, gOp0, gOpL, gResL, updO, gRes, gEff, addObs_nil, addObs_one, freshB_memL, freshB_none, freshB_upd, freshB_addMem, freshB_addObs, callRO, addMem_nil, roArgs, roL, roA, srcCells, A1.ownB, addMem, shift, ren, SV.map, Ob.map, Ob.noRo, SV.noRo, A1.noRo, List.range, List.range.loop, fromRo, h1, h2, h4, h5, hi', R_sMarksOk]
        change _ = _
        kernel_rfl
      | true =>
        rw [hp] at h5
        refine .inl ⟨i + 1, ?_, by omega, hi', by rw [drop_next hl, prevO_next hl]; simp⟩
        simp (maxSteps := 4000000) -implicitDefEqProofs [b121_0, S_sMarksOk, x_seq, x_cond, x_block, x_region, x_skip, x_exit, x_ret, head_id, runG, runOps, doOp, wantB, stepOp, AO.eff, pureOp, St.get, St.one, St.num, St.put, St.optNum, binA, binInt, List.take, List.drop, gOp, gOp0, gOpL, gResL, updO, gRes, gEff, addObs_nil, addObs_one, freshB_memL, freshB_none, freshB_upd, freshB_addMem, freshB_addObs, callRO, addMem_nil, roArgs, roL, roA, srcCells, A1.ownB, addMem, shift, ren, SV.map, Ob.map, Ob.noRo, SV.noRo, A1.noRo, List.range, List.range.loop, fromRo, h1, h2, h4, h5, hi', c0, c0']
        change _ = _
        kernel_rfl
    · have c0 : (0 : Int) < (i : Int) := by omega
      have c0' : 0 < i := by omega
      obtain ⟨j, hj⟩ : ∃ j, j = i - 1 := ⟨_, rfl⟩
      have wj : IntKind.i64.wrap ((i : Int) - 1) = (j : Int) := by rw [wrap_id (by omega) (by omega)]; omega
      have h1j : (0 ≤ (j : Int) ∧ (j : Int) < (l.length : Int)) := by omega
      have h2j := cl_at (k := .i64) (drop_getD' (l := l) (i := j) (by omega))
      rw [show prevO l i = some (l.getD j 0) by simp [prevO, hz, hj], mkF]
      generalize l.getD j 0 = z at *
      cases hp : rng y 0 7 with
      | false =>
        rw [hp] at h5
        refine .inr ⟨?_, by simp [R_sMarksOk]⟩
        simp (maxSteps := 4000000) -implicitDefEqProofs [b121_0, S_sMarksOk, x_seq, x_cond, x_block, x_region, x_skip, x_exit, x_ret, head_id, runG, runOps, doOp, wantB, stepOp, AO.eff, pureOp, St.get, St.one, St.num, St.put, St.optNum, binA, binInt, List.take, List.drop, gOp, gOp0, gOpL, gResL, updO, gRes, gEff, addObs_nil, addObs_one, freshB_memL, freshB_none, freshB_upd, freshB_addMem, freshB_addObs, callRO, addMem_nil, roArgs, roL, roA, srcCells, A1.ownB, addMem, shift, ren, SV.map, Ob.map, Ob.noRo, SV.noRo, A1.noRo, List.range, List.range.loop, fromRo, h1, h2, h4, h5, hi', R_sMarksOk]
        change _ = _
        kernel_rfl
      | true =>
        rw [hp] at h5
        by_cases hyz : y ≤ z
        · refine .inr ⟨?_, by simp [R_sMarksOk, hyz]⟩
          simp (maxSteps := 4000000) -implicitDefEqProofs [b121_0, S_sMarksOk, x_seq, x_cond, x_block, x_region, x_skip, x_exit, x_ret, head_id, runG, runOps, doOp, wantB, stepOp, AO.eff, pureOp, St.get, St.one, St.num, St.put, St.optNum, binA, binInt, List.take, List.drop, gOp, gOp0, gOpL, gResL, updO, gRes, gEff, addObs_nil, addObs_one, freshB_memL, freshB_none, freshB_upd, freshB_addMem, freshB_addObs, callRO, addMem_nil, roArgs, roL, roA, srcCells, A1.ownB, addMem, shift, ren, SV.map, Ob.map, Ob.noRo, SV.noRo, A1.noRo, List.range, List.range.loop, fromRo, h1, h2, h4, h5, hi', c0, c0', wj, h1j, h2j, hyz, R_sMarksOk]
          change _ = _
          kernel_rfl
        · refine .inl ⟨i + 1, ?_, by omega, hi', by rw [drop_next hl, prevO_next hl]; simp [hyz]⟩
          simp (maxSteps := 4000000) -implicitDefEqProofs [b121_0, S_sMarksOk, x_seq, x_cond, x_block, x_region, x_skip, x_exit, x_ret, head_id, runG, runOps, doOp, wantB, stepOp, AO.eff, pureOp, St.get, St.one, St.num, St.put, St.optNum, binA, binInt, List.take, List.drop, gOp, gOp0, gOpL, gResL, updO, gRes, gEff, addObs_nil, addObs_one, freshB_memL, freshB_none, freshB_upd, freshB_addMem, freshB_addObs, callRO, addMem_nil, roArgs, roL, roA, srcCells, A1.ownB, addMem, shift, ren, SV.map, Ob.map, Ob.noRo, SV.noRo, A1.noRo, List.range, List.range.loop, fromRo, h1, h2, h4, h5, hi', c0, c0', wj, h1j, h2j, hyz]
          change _ = _
          kernel_rfl
theorem r_sMarksOk (l : List Int) (hn : l.length ≤ 1048576) : runRO (X tab) tab 121 [.v false [.ro l.length (cl .i64 l)]] = some (.v false [.bool (marksOk l)], []) := by
  unfold runRO
  simp (maxSteps := 4000000) -implicitDefEqProofs [tab121, a121, x_seq, x_cond, x_block, x_region, x_skip, x_exit, x_ret, head_id, runG, runOps, doOp, wantB, stepOp, AO.eff, pureOp, St.get, St.one, St.num, St.put, St.optNum, binA, binInt, List.take, List.drop]
  rw [loop_sMarksOk l hn (by change _ = _; kernel_rfl)]
  cases marksOk l <;> simp (maxSteps := 4000000) -implicitDefEqProofs [R_sMarksOk, x_seq, x_cond, x_block, x_region, x_skip, x_exit, x_ret, head_id, runG, runOps, doOp, wantB, stepOp, AO.eff, pureOp, St.get, St.one, St.num, St.put, St.optNum, binA, binInt, List.take, List.drop, resOf, resSV, SV.map, SV.ids, A1.ids, reach, allObs, ren, pos, Ob.map, St.canon, memL, List.range, List.range.loop]
def S_MarksOk (l : List Int) (i : Nat) : XS := ⟨⟨[.v false [.ro l.length (cl .i64 l)], .bad, .bad, .bad, .bad, .v false [.ro l.length (cl .i64 l)], .v false [.int .i64 (l.length)], .v false [.int .i64 (i)], .bad, .bad, .bad, .bad, .bad, .bad, .bad, .bad, .bad, .bad, .bad, .bad, .bad, .bad, .bad, .bad, .bad, .bad, .bad, .bad, .bad], memL [], []⟩, 0⟩
def R_MarksOk (ok : Bool) : Option (AE × XS) := if ok = true then some (.exit 0, ⟨⟨[.bad, .bad, .bad, .bad, .bad, .bad, .bad, .bad, .bad, .bad, .bad, .bad, .bad, .bad, .bad, .bad, .bad, .bad, .bad, .bad, .bad, .bad, .bad, .bad, .bad, .bad, .bad, .bad, .bad], memL [], []⟩, 0⟩) else some (.ret, ⟨⟨[.bad, .bad, .v false [.bool (false)], .bad, .bad, .bad, .bad, .bad, .bad, .bad, .bad, .bad, .bad, .bad, .bad, .bad, .bad, .bad, .bad, .bad, .bad, .bad, .bad, .bad, .bad, .bad, .bad, .bad, .bad], memL [], []⟩, 0⟩)
theorem loop_MarksOk (l : List Int) (hn : l.length ≤ 1048576) {x : XS} (hx : head true d67_0 x = S_MarksOk l 0) : X tab l67_0 x = R_MarksOk (marksOk l) := by
  refine loopX (σ := Nat) (S_MarksOk l) (fun i => l.length - i) (fun i => i ≤ l.length ∧ mkF (prevO l i) (l.drop i) = marksOk l) _ (fun i ⟨hi, hs⟩ => ?_) 0 ⟨Nat.zero_le _, rfl⟩ x hx
  rw [← hs]
  cases hl : l.drop i with
  | nil =>
    obtain rfl := drop_end hl hi
    have : mkF (prevO l l.length) [] = true := by cases prevO l l.length <;> rfl
    rw [this]
    refine .inr ⟨?_, by simp [R_MarksOk]⟩
    simp (maxSteps := 4000000) -implicitDefEqProofs [b67_0, S_MarksOk, x_seq, x_cond, x_block, x_region, x_skip, x_exit, x_ret, head_id, runG, runOps, doOp, wantB, stepOp, AO.eff, pureOp, St.get, St.one, St.num, St.put, St.optNum, binA, binInt, List.take, List.drop, R_MarksOk]
    change _ = _
    kernel_rfl
  | cons y r =>
    have hi' := drop_lt hl
    have h1 : (0 ≤ (i : Int) ∧ (i : Int) < (l.length : Int)) := by omega
    have h2 := cl_at (k := .i64) hl
    have h4 := wrap_next hi' (show l.length ≤ 281474976710656 by omega)
    have h5 := r_isCell y
    by_cases hz : i = 0
    · have c0 : ¬ (0 : Int) < (i : Int) := by omega
      have c0' : ¬ 0 < i := by omega
      rw [show prevO l i = none by simp [prevO, hz], mkF]
      cases hp : rng y 0 7 with
      | false =>
        rw [hp] at h5
        refine .inr ⟨?_, by simp [R_MarksOk]⟩
        simp (maxSteps := 4000000) -implicitDefEqProofs [b67_0, S_MarksOk, x_seq, x_cond, x_block, x_region, x_skip, x_exit, x_ret, head_id, runG, runOps, doOp, wantB, stepOp, AO.eff, pureOp, St.get, St.one, St.num, St.put, St.optNum, binA, binInt, List.take, List.drop, gOp, gOp0, gOpL, gResL, updO, gRes, gEff, addObs_nil, addObs_one, freshB_memL, freshB_none, freshB_upd, freshB_addMem, freshB_addObs, callRO, addMem_nil, roArgs, roL, roA, srcCells, A1.ownB, addMem, shift, ren, SV.map, Ob.map, Ob.noRo, SV.noRo, A1.noRo, List.range, List.range.loop, fromRo, h1, h2, h4, h5, hi', R_MarksOk]
        change _ = _
        kernel_rfl
      | true =>
        rw [hp] at h5
        refine .inl ⟨i + 1, ?_, by omega, hi', by rw [drop_next hl, prevO_next hl]; simp⟩
        simp (maxSteps := 4000000) -implicitDefEqProofs [b67_0, S_MarksOk, x_seq, x_cond, x_block, x_region, x_skip, x_exit, x_ret, head_id, runG, runOps, doOp, wantB, stepOp, AO.eff, pureOp, St.get, St.one, St.num, St.put, St.optNum, binA, binInt, List.take, List.drop, gOp, gOp0, gOpL, gResL, updO, gRes, gEff, addObs_nil, addObs_one, freshB_memL, freshB_none, freshB_upd, freshB_addMem, freshB_addObs, callRO, addMem_nil, roArgs, roL, roA, srcCells, A1.ownB, addMem, shift, ren, SV.map, Ob.map, Ob.noRo, SV.noRo, A1.noRo, List.range, List.range.loop, fromRo, h1, h2, h4, h5, hi', c0, c0']
        change _ = _
        kernel_rfl
    · have c0 : (0 : Int) < (i : Int) := by omega
      have c0' : 0 < i := by omega
      obtain ⟨j, hj⟩ : ∃ j, j = i - 1 := ⟨_, rfl⟩
      have wj : IntKind.i64.wrap ((i : Int) - 1) = (j : Int) := by rw [wrap_id (by omega) (by omega)]; omega
      have h1j : (0 ≤ (j : Int) ∧ (j : Int) < (l.length : Int)) := by omega
      have h2j := cl_at (k := .i64) (drop_getD' (l := l) (i := j) (by omega))
      rw [show prevO l i = some (l.getD j 0) by simp [prevO, hz, hj], mkF]
      generalize l.getD j 0 = z at *
      cases hp : rng y 0 7 with
      | false =>
        rw [hp] at h5
        refine .inr ⟨?_, by simp [R_MarksOk]⟩
        simp (maxSteps := 4000000) -implicitDefEqProofs [b67_0, S_MarksOk, x_seq, x_cond, x_block, x_region, x_skip, x_exit, x_ret, head_id, runG, runOps, doOp, wantB, stepOp, AO.eff, pureOp, St.get, St.one, St.num, St.put, St.optNum, binA, binInt, List.take, List.drop, gOp, gOp0, gOpL, gResL, updO, gRes, gEff, addObs_nil, addObs_one, freshB_memL, freshB_none, freshB_upd, freshB_addMem, freshB_addObs, callRO, addMem_nil, roArgs, roL, roA, srcCells, A1.ownB, addMem, shift, ren, SV.map, Ob.map, Ob.noRo, SV.noRo, A1.noRo, List.range, List.range.loop, fromRo, h1, h2, h4, h5, hi', R_MarksOk]
        change _ = _
        kernel_rfl
      | true =>
        rw [hp] at h5
        by_cases hyz : y ≤ z
        · refine .inr ⟨?_, by simp [R_MarksOk, hyz]⟩
          simp (maxSteps := 4000000) -implicitDefEqProofs [b67_0, S_MarksOk, x_seq, x_cond, x_block, x_region, x_skip, x_exit, x_ret, head_id, runG, runOps, doOp, wantB, stepOp, AO.eff, pureOp, St.get, St.one, St.num, St.put, St.optNum, binA, binInt, List.take, List.drop, gOp, gOp0, gOpL, gResL, updO, gRes, gEff, addObs_nil, addObs_one, freshB_memL, freshB_none, freshB_upd, freshB_addMem, freshB_addObs, callRO, addMem_nil, roArgs, roL, roA, srcCells, A1.ownB, addMem, shift, ren, SV.map, Ob.map, Ob.noRo, SV.noRo, A1.noRo, List.range, List.range.loop, fromRo, h1, h2, h4, h5, hi', c0, c0', wj, h1j, h2j, hyz, R_MarksOk]
          change _ = _
          kernel_rfl
        · refine .inl ⟨i + 1, ?_, by omega, hi', by rw [drop_next hl, prevO_next hl]; simp [hyz]⟩
          simp (maxSteps := 4000000) -implicitDefEqProofs [b67_0, S_MarksOk, x_seq, x_cond, x_block, x_region, x_skip, x_exit, x_ret, head_id, runG, runOps, doOp, wantB, stepOp, AO.eff, pureOp, St.get, St.one, St.num, St.put, St.optNum, binA, binInt, List.take, List.drop, gOp, gOp0, gOpL, gResL, updO, gRes, gEff, addObs_nil, addObs_one, freshB_memL, freshB_none, freshB_upd, freshB_addMem, freshB_addObs, callRO, addMem_nil, roArgs, roL, roA, srcCells, A1.ownB, addMem, shift, ren, SV.map, Ob.map, Ob.noRo, SV.noRo, A1.noRo, List.range, List.range.loop, fromRo, h1, h2, h4, h5, hi', c0, c0', wj, h1j, h2j, hyz]
          change _ = _
          kernel_rfl
theorem r_MarksOk (l : List Int) (hn : l.length ≤ 1048576) : runRO (X tab) tab 67 [.v false [.ro l.length (cl .i64 l)]] = some (.v false [.bool (marksOk l)], []) := by
  unfold runRO
  simp (maxSteps := 4000000) -implicitDefEqProofs [tab67, a67, x_seq, x_cond, x_block, x_region, x_skip, x_exit, x_ret, head_id, runG, runOps, doOp, wantB, stepOp, AO.eff, pureOp, St.get, St.one, St.num, St.put, St.optNum, binA, binInt, List.take, List.drop]
  rw [loop_MarksOk l hn (by change _ = _; kernel_rfl)]
  cases marksOk l <;> simp (maxSteps := 4000000) -implicitDefEqProofs [R_MarksOk, x_seq, x_cond, x_block, x_region, x_skip, x_exit, x_ret, head_id, runG, runOps, doOp, wantB, stepOp, AO.eff, pureOp, St.get, St.one, St.num, St.put, St.optNum, binA, binInt, List.take, List.drop, resOf, resSV, SV.map, SV.ids, A1.ids, reach, allObs, ren, pos, Ob.map, St.canon, memL, List.range, List.range.loop]
/-- The runs up to a cell: the runs that are over, whether the last cell was marked, how many cells are in the run at hand. -/
def rS (m : List Int) : Nat → List Int × Bool × Nat
  | 0 => ([], false, 0)
  | i + 1 => if (decide ((i : Int) ∈ m) != (rS m i).2.1) = true then ((rS m i).1 ++ [((rS m i).2.2 : Int)], !(rS m i).2.1, 1) else ((rS m i).1, (rS m i).2.1, (rS m i).2.2 + 1)
theorem rS_bound (m : List Int) : ∀ i, (rS m i).1.length ≤ i ∧ (rS m i).2.2 ≤ i := by
  intro i
  induction i with
  | zero => simp [rS]
  | succ i ih =>
    simp only [rS]
    split
    · simp; omega
    · simp only; omega
def runs (m : List Int) : List Int := if marksOk m = true then (rS m 8).1 ++ [((rS m 8).2.2 : Int)] else []
def S_sRuns (l : List Int) (i : Nat) (p : List Int × Bool × Nat) : XS := ⟨⟨[.v false [.ro l.length (cl .i64 l)], .bad, .bad, .v false [.sl 0 [] 0 p.1.length], .v false [.bool (p.2.1)], .v false [.int .i64 (p.2.2)], .v false [.int .i64 (i)], .bad, .bad, .bad, .bad, .bad, .bad, .bad, .bad, .bad, .bad, .bad, .bad, .bad, .bad, .bad, .bad, .bad, .bad, .bad, .bad, .bad, .bad, .bad, .bad, .bad, .bad], memL [some (.row 1 (cl .i64 p.1))], []⟩, 1⟩
def Z_sRuns (p : List Int × Bool × Nat) : XS := ⟨⟨[.bad, .bad, .bad, .v false [.sl 0 [] 0 p.1.length], .bad, .v false [.int .i64 (p.2.2)], .bad, .bad, .bad, .bad, .bad, .bad, .bad, .bad, .bad, .bad, .bad, .bad, .bad, .bad, .bad, .bad, .bad, .bad, .bad, .bad, .bad, .bad, .bad, .bad, .bad, .bad, .bad], memL [some (.row 1 (cl .i64 p.1))], []⟩, 1⟩
theorem loop_sRuns (l : List Int) (hn : l.length ≤ 1048576) {x : XS} (hx : head true d72_0 x = S_sRuns l 0 (rS l 0)) : X tab l72_0 x = some (.exit 0, Z_sRuns (rS l 8)) := by
  refine loopN 8 (fun i => S_sRuns l i (rS l i)) _ (by simp) (fun i hi => ?_) ?_ (Nat.zero_le _) hx
  · have h1 : (i : Int) < 8 := by omega
    have h4 : IntKind.i64.wrap ((i : Int) + 1) = ((i + 1 : Nat) : Int) := by rw [wrap_id (by omega) (by omega)]; omega
    have h5 := r_l2Has l i hn
    obtain ⟨b1, b2⟩ := rS_bound l i
    simp only [rS]
    generalize rS l i = p at *
    obtain ⟨out, on, n⟩ := p
    simp only at b1 b2 ⊢
    have h6 : IntKind.i64.wrap ((n : Int) + 1) = ((n + 1 : Nat) : Int) := by rw [wrap_id (by omega) (by omega)]; omega
    have h7 : (out.length + 1) * 8 ≤ 140737488355328 := by omega
    have h8 : IntKind.i64.wrap 1 = 1 := wrap_id (by omega) (by omega)
    cases hb : decide ((i : Int) ∈ l) <;> rw [hb] at h5 <;> cases on
    · simp only [bne_self_eq_false, Bool.false_eq_true, if_false, S_sRuns]
      simp (maxSteps := 4000000) -implicitDefEqProofs [b72_0, x_seq, x_cond, x_block, x_region, x_skip, x_exit, x_ret, head_id, runG, runOps, doOp, wantB, stepOp, AO.eff, pureOp, St.get, St.one, St.num, St.put, St.optNum, binA, binInt, List.take, List.drop, callRO, addMem_nil, roArgs, roL, roA, srcCells, A1.ownB, addMem, shift, ren, SV.map, Ob.map, Ob.noRo, SV.noRo, A1.noRo, List.range, List.range.loop, memL_app, h1, h4, h5, h6, cl_self, -Int.natCast_add]
      change _ = _
      kernel_rfl
    · simp only [show (false != true) = true from rfl, if_true, S_sRuns, List.length_append, List.length_singleton, ← cl_app1]
      simp (maxSteps := 4000000) -implicitDefEqProofs [b72_0, x_seq, x_cond, x_block, x_region, x_skip, x_exit, x_ret, head_id, runG, runOps, doOp, wantB, stepOp, AO.eff, pureOp, St.get, St.one, St.num, St.put, St.optNum, binA, binInt, List.take, List.drop, callRO, addMem_nil, roArgs, roL, roA, srcCells, A1.ownB, addMem, shift, ren, SV.map, Ob.map, Ob.noRo, SV.noRo, A1.noRo, List.range, List.range.loop, effOp2, effOp, memL_app, stoRow, cellsAt, toCells, toCell, scalar_int, scalar_bool, scalar_str, scalar_sl, updAt, fromRo, upd, srcCells, A1.slB, flat_int, cl_flat', St.parts, Eng.inB, reps, fillA, newRowSt, appSt, oldOf, rest, kill, mapMem, SV.map, Ob.map, h1, h4, h5, h6, h7, h8, cl_self, cl_length, -Int.natCast_add]
      change _ = _
      kernel_rfl
    · simp only [show (true != false) = true from rfl, if_true, S_sRuns, List.length_append, List.length_singleton, ← cl_app1]
      simp (maxSteps := 4000000) -implicitDefEqProofs [b72_0, x_seq, x_cond, x_block, x_region, x_skip, x_exit, x_ret, head_id, runG, runOps, doOp, wantB, stepOp, AO.eff, pureOp, St.get, St.one, St.num, St.put, St.optNum, binA, binInt, List.take, List.drop, callRO, addMem_nil, roArgs, roL, roA, srcCells, A1.ownB, addMem, shift, ren, SV.map, Ob.map, Ob.noRo, SV.noRo, A1.noRo, List.range, List.range.loop, effOp2, effOp, memL_app, stoRow, cellsAt, toCells, toCell, scalar_int, scalar_bool, scalar_str, scalar_sl, updAt, fromRo, upd, srcCells, A1.slB, flat_int, cl_flat', St.parts, Eng.inB, reps, fillA, newRowSt, appSt, oldOf, rest, kill, mapMem, SV.map, Ob.map, h1, h4, h5, h6, h7, h8, cl_self, cl_length, -Int.natCast_add]
      change _ = _
      kernel_rfl
    · simp only [bne_self_eq_false, Bool.false_eq_true, if_false, S_sRuns]
      simp (maxSteps := 4000000) -implicitDefEqProofs [b72_0, x_seq, x_cond, x_block, x_region, x_skip, x_exit, x_ret, head_id, runG, runOps, doOp, wantB, stepOp, AO.eff, pureOp, St.get, St.one, St.num, St.put, St.optNum, binA, binInt, List.take, List.drop, callRO, addMem_nil, roArgs, roL, roA, srcCells, A1.ownB, addMem, shift, ren, SV.map, Ob.map, Ob.noRo, SV.noRo, A1.noRo, List.range, List.range.loop, memL_app, h1, h4, h5, h6, cl_self, -Int.natCast_add]
      change _ = _
      kernel_rfl
  · simp (maxSteps := 4000000) -implicitDefEqProofs [b72_0, S_sRuns, x_seq, x_cond, x_block, x_region, x_skip, x_exit, x_ret, head_id, runG, runOps, doOp, wantB, stepOp, AO.eff, pureOp, St.get, St.one, St.num, St.put, St.optNum, binA, binInt, List.take, List.drop, Z_sRuns]
    change _ = _
    kernel_rfl
theorem r_sRuns (l : List Int) (hn : l.length ≤ 1048576) : runRO (X tab) tab 72 [.v false [.ro l.length (cl .i64 l)]] = some (.v false [.sl 0 [] 0 (runs l).length], [.row 1 (cl .i64 (runs l))]) := by
  have h1 := r_sMarksOk l hn
  unfold runRO runs
  cases hm : marksOk l with
  | false =>
    rw [hm] at h1
    simp (maxSteps := 4000000) -implicitDefEqProofs [tab72, a72, x_seq, x_cond, x_block, x_region, x_skip, x_exit, x_ret, head_id, runG, runOps, doOp, wantB, stepOp, AO.eff, pureOp, St.get, St.one, St.num, St.put, St.optNum, binA, binInt, List.take, List.drop, callRO, addMem_nil, roArgs, roL, roA, srcCells, A1.ownB, addMem, shift, ren, SV.map, Ob.map, Ob.noRo, SV.noRo, A1.noRo, List.range, List.range.loop, effOp2, effOp, memL_app, stoRow, cellsAt, toCells, toCell, scalar_int, scalar_bool, scalar_str, scalar_sl, updAt, fromRo, upd, srcCells, A1.slB, flat_int, cl_flat', St.parts, Eng.inB, reps, fillA, newRowSt, appSt, oldOf, rest, kill, mapMem, SV.map, Ob.map, resOf, resSV, SV.map, SV.ids, A1.ids, reach, allObs, ren, pos, Ob.map, St.canon, memL, List.range, List.range.loop, h1, cl_nil]
  | true =>
    rw [hm] at h1
    simp only [if_true]
    simp (maxSteps := 4000000) -implicitDefEqProofs [tab72, a72, x_seq, x_cond, x_block, x_region, x_skip, x_exit, x_ret, head_id, runG, runOps, doOp, wantB, stepOp, AO.eff, pureOp, St.get, St.one, St.num, St.put, St.optNum, binA, binInt, List.take, List.drop, callRO, addMem_nil, roArgs, roL, roA, srcCells, A1.ownB, addMem, shift, ren, SV.map, Ob.map, Ob.noRo, SV.noRo, A1.noRo, List.range, List.range.loop, effOp2, effOp, memL_app, stoRow, cellsAt, toCells, toCell, scalar_int, scalar_bool, scalar_str, scalar_sl, updAt, fromRo, upd, srcCells, A1.slB, flat_int, cl_flat', St.parts, Eng.inB, reps, fillA, newRowSt, appSt, oldOf, rest, kill, mapMem, SV.map, Ob.map, h1]
    rw [loop_sRuns l hn (by change _ = _; kernel_rfl)]
    have hb := rS_bound l 8
    generalize rS l 8 = p at *
    obtain ⟨out, on, n⟩ := p
    simp only at hb ⊢
    have h7 : (out.length + 1) * 8 ≤ 140737488355328 := by omega
    rw [← cl_app1]
    simp (maxSteps := 4000000) -implicitDefEqProofs [Z_sRuns, x_seq, x_cond, x_block, x_region, x_skip, x_exit, x_ret, head_id, runG, runOps, doOp, wantB, stepOp, AO.eff, pureOp, St.get, St.one, St.num, St.put, St.optNum, binA, binInt, List.take, List.drop, callRO, addMem_nil, roArgs, roL, roA, srcCells, A1.ownB, addMem, shift, ren, SV.map, Ob.map, Ob.noRo, SV.noRo, A1.noRo, List.range, List.range.loop, effOp2, effOp, memL_app, stoRow, cellsAt, toCells, toCell, scalar_int, scalar_bool, scalar_str, scalar_sl, updAt, fromRo, upd, srcCells, A1.slB, flat_int, cl_flat', St.parts, Eng.inB, reps, fillA, newRowSt, appSt, oldOf, rest, kill, mapMem, SV.map, Ob.map, resOf, resSV, SV.map, SV.ids, A1.ids, reach, allObs, ren, pos, Ob.map, St.canon, memL, List.range, List.range.loop, h7, cl_length]
def S_Runs (l : List Int) (i : Nat) (p : List Int × Bool × Nat) : XS := ⟨⟨[.v false [.ro l.length (cl .i64 l)], .bad, .bad, .v false [.sl 0 [] 0 p.1.length], .v false [.bool (p.2.1)], .v false [.int .i64 (p.2.2)], .bad, .bad, .bad, .bad, .bad, .bad, .v false [.int .i64 (i)], .bad, .bad, .bad, .bad, .bad, .bad, .bad, .bad, .bad, .bad, .bad, .bad, .bad, .bad, .bad, .bad, .bad, .bad, .bad, .bad], memL [some (.row 1 (cl .i64 p.1))], []⟩, 1⟩
def Z_Runs (p : List Int × Bool × Nat) : XS := ⟨⟨[.bad, .bad, .bad, .v false [.sl 0 [] 0 p.1.length], .bad, .v false [.int .i64 (p.2.2)], .bad, .bad, .bad, .bad, .bad, .bad, .bad, .bad, .bad, .bad, .bad, .bad, .bad, .bad, .bad, .bad, .bad, .bad, .bad, .bad, .bad, .bad, .bad, .bad, .bad, .bad, .bad], memL [some (.row 1 (cl .i64 p.1))], []⟩, 1⟩
theorem loop_Runs (l : List Int) (hn : l.length ≤ 1048576) {x : XS} (hx : head true d69_0 x = S_Runs l 0 (rS l 0)) : X tab l69_0 x = some (.exit 0, Z_Runs (rS l 8)) := by
  refine loopN 8 (fun i => S_Runs l i (rS l i)) _ (by simp) (fun i hi => ?_) ?_ (Nat.zero_le _) hx
  · have h1 : (i : Int) < 8 := by omega
    have h4 : IntKind.i64.wrap ((i : Int) + 1) = ((i + 1 : Nat) : Int) := by rw [wrap_id (by omega) (by omega)]; omega
    have h5 := r_Contains l i hn
    obtain ⟨b1, b2⟩ := rS_bound l i
    simp only [rS]
    generalize rS l i = p at *
    obtain ⟨out, on, n⟩ := p
    simp only at b1 b2 ⊢
    have h6 : IntKind.i64.wrap ((n : Int) + 1) = ((n + 1 : Nat) : Int) := by rw [wrap_id (by omega) (by omega)]; omega
    have h7 : (out.length + 1) * 8 ≤ 140737488355328 := by omega
    have h8 : IntKind.i64.wrap 1 = 1 := wrap_id (by omega) (by omega)
    cases hb : decide ((i : Int) ∈ l) <;> rw [hb] at h5 <;> cases on
    · simp only [bne_self_eq_false, Bool.false_eq_true, if_false, S_Runs]
      simp (maxSteps := 4000000) -implicitDefEqProofs [b69_0, x_seq, x_cond, x_block, x_region, x_skip, x_exit, x_ret, head_id, runG, runOps, doOp, wantB, stepOp, AO.eff, pureOp, St.get, St.one, St.num, St.put, St.optNum, binA, binInt, List.take, List.drop, callRO, addMem_nil, roArgs, roL, roA, srcCells, A1.ownB, addMem, shift, ren, SV.map, Ob.map, Ob.noRo, SV.noRo, A1.noRo, List.range, List.range.loop, memL_app, h1, h4, h5, h6, cl_self, -Int.natCast_add]
      change _ = _
      kernel_rfl
    · simp only [show (false != true) = true from rfl, if_true, S_Runs, List.length_append, List.length_singleton, ← cl_app1]
      simp (maxSteps := 4000000) -implicitDefEqProofs [b69_0, x_seq, x_cond, x_block, x_region, x_skip, x_exit, x_ret, head_id, runG, runOps, doOp, wantB, stepOp, AO.eff, pureOp, St.get, St.one, St.num, St.put, St.optNum, binA, binInt, List.take, List.drop, callRO, addMem_nil, roArgs, roL, roA, srcCells, A1.ownB, addMem, shift, ren, SV.map, Ob.map, Ob.noRo, SV.noRo, A1.noRo, List.range, List.range.loop, effOp2, effOp, memL_app, stoRow, cellsAt, toCells, toCell, scalar_int, scalar_bool, scalar_str, scalar_sl, updAt, fromRo, upd, srcCells, A1.slB, flat_int, cl_flat', St.parts, Eng.inB, reps, fillA, newRowSt, appSt, oldOf, rest, kill, mapMem, SV.map, Ob.map, h1, h4, h5, h6, h7, h8, cl_self, cl_length, -Int.natCast_add]
      change _ = _
      kernel_rfl
    · simp only [show (true != false) = true from rfl, if_true, S_Runs, List.length_append, List.length_singleton, ← cl_app1]
      simp (maxSteps := 4000000) -implicitDefEqProofs [b69_0, x_seq, x_cond, x_block, x_region, x_skip, x_exit, x_ret, head_id, runG, runOps, doOp, wantB, stepOp, AO.eff, pureOp, St.get, St.one, St.num, St.put, St.optNum, binA, binInt, List.take, List.drop, callRO, addMem_nil, roArgs, roL, roA, srcCells, A1.ownB, addMem, shift, ren, SV.map, Ob.map, Ob.noRo, SV.noRo, A1.noRo, List.range, List.range.loop, effOp2, effOp, memL_app, stoRow, cellsAt, toCells, toCell, scalar_int, scalar_bool, scalar_str, scalar_sl, updAt, fromRo, upd, srcCells, A1.slB, flat_int, cl_flat', St.parts, Eng.inB, reps, fillA, newRowSt, appSt, oldOf, rest, kill, mapMem, SV.map, Ob.map, h1, h4, h5, h6, h7, h8, cl_self, cl_length, -Int.natCast_add]
      change _ = _
      kernel_rfl
    · simp only [bne_self_eq_false, Bool.false_eq_true, if_false, S_Runs]
      simp (maxSteps := 4000000) -implicitDefEqProofs [b69_0, x_seq, x_cond, x_block, x_region, x_skip, x_exit, x_ret, head_id, runG, runOps, doOp, wantB, stepOp, AO.eff, pureOp, St.get, St.one, St.num, St.put, St.optNum, binA, binInt, List.take, List.drop, callRO, addMem_nil, roArgs, roL, roA, srcCells, A1.ownB, addMem, shift, ren, SV.map, Ob.map, Ob.noRo, SV.noRo, A1.noRo, List.range, List.range.loop, memL_app, h1, h4, h5, h6, cl_self, -Int.natCast_add]
      change _ = _
      kernel_rfl
  · simp (maxSteps := 4000000) -implicitDefEqProofs [b69_0, S_Runs, x_seq, x_cond, x_block, x_region, x_skip, x_exit, x_ret, head_id, runG, runOps, doOp, wantB, stepOp, AO.eff, pureOp, St.get, St.one, St.num, St.put, St.optNum, binA, binInt, List.take, List.drop, Z_Runs]
    change _ = _
    kernel_rfl
theorem r_Runs (l : List Int) (hn : l.length ≤ 1048576) : runRO (X tab) tab 69 [.v false [.ro l.length (cl .i64 l)]] = some (.v false [.sl 0 [] 0 (runs l).length], [.row 1 (cl .i64 (runs l))]) := by
  have h1 := r_MarksOk l hn
  unfold runRO runs
  cases hm : marksOk l with
  | false =>
    rw [hm] at h1
    simp (maxSteps := 4000000) -implicitDefEqProofs [tab69, a69, x_seq, x_cond, x_block, x_region, x_skip, x_exit, x_ret, head_id, runG, runOps, doOp, wantB, stepOp, AO.eff, pureOp, St.get, St.one, St.num, St.put, St.optNum, binA, binInt, List.take, List.drop, callRO, addMem_nil, roArgs, roL, roA, srcCells, A1.ownB, addMem, shift, ren, SV.map, Ob.map, Ob.noRo, SV.noRo, A1.noRo, List.range, List.range.loop, effOp2, effOp, memL_app, stoRow, cellsAt, toCells, toCell, scalar_int, scalar_bool, scalar_str, scalar_sl, updAt, fromRo, upd, srcCells, A1.slB, flat_int, cl_flat', St.parts, Eng.inB, reps, fillA, newRowSt, appSt, oldOf, rest, kill, mapMem, SV.map, Ob.map, resOf, resSV, SV.map, SV.ids, A1.ids, reach, allObs, ren, pos, Ob.map, St.canon, memL, List.range, List.range.loop, h1, cl_nil]
  | true =>
    rw [hm] at h1
    simp only [if_true]
    simp (maxSteps := 4000000) -implicitDefEqProofs [tab69, a69, x_seq, x_cond, x_block, x_region, x_skip, x_exit, x_ret, head_id, runG, runOps, doOp, wantB, stepOp, AO.eff, pureOp, St.get, St.one, St.num, St.put, St.optNum, binA, binInt, List.take, List.drop, callRO, addMem_nil, roArgs, roL, roA, srcCells, A1.ownB, addMem, shift, ren, SV.map, Ob.map, Ob.noRo, SV.noRo, A1.noRo, List.range, List.range.loop, effOp2, effOp, memL_app, stoRow, cellsAt, toCells, toCell, scalar_int, scalar_bool, scalar_str, scalar_sl, updAt, fromRo, upd, srcCells, A1.slB, flat_int, cl_flat', St.parts, Eng.inB, reps, fillA, newRowSt, appSt, oldOf, rest, kill, mapMem, SV.map, Ob.map, h1]
    rw [loop_Runs l hn (by change _ = _; kernel_rfl)]
    have hb := rS_bound l 8
    generalize rS l 8 = p at *
    obtain ⟨out, on, n⟩ := p
    simp only at hb ⊢
    have h7 : (out.length + 1) * 8 ≤ 140737488355328 := by omega
    rw [← cl_app1]
    simp (maxSteps := 4000000) -implicitDefEqProofs [Z_Runs, x_seq, x_cond, x_block, x_region, x_skip, x_exit, x_ret, head_id, runG, runOps, doOp, wantB, stepOp, AO.eff, pureOp, St.get, St.one, St.num, St.put, St.optNum, binA, binInt, List.take, List.drop, callRO, addMem_nil, roArgs, roL, roA, srcCells, A1.ownB, addMem, shift, ren, SV.map, Ob.map, Ob.noRo, SV.noRo, A1.noRo, List.range, List.range.loop, effOp2, effOp, memL_app, stoRow, cellsAt, toCells, toCell, scalar_int, scalar_bool, scalar_str, scalar_sl, updAt, fromRo, upd, srcCells, A1.slB, flat_int, cl_flat', St.parts, Eng.inB, reps, fillA, newRowSt, appSt, oldOf, rest, kill, mapMem, SV.map, Ob.map, resOf, resSV, SV.map, SV.ids, A1.ids, reach, allObs, ren, pos, Ob.map, St.canon, memL, List.range, List.range.loop, h7, cl_length]
def pe : List Int → List Int → Bool
  | x :: r, y :: s => (x == y) && pe r s
  | _, _ => true
theorem pe_eq : ∀ (a b : List Int), (pe a b && decide (a.length = b.length)) = decide (a = b) := by
  intro a
  induction a with
  | nil => intro b; cases b <;> simp [pe]
  | cons x r ih =>
    intro b
    cases b with
    | nil => simp [pe]
    | cons y s =>
      have := ih s
      by_cases h : x = y
      · subst h; simpa [pe] using this
      · simp [pe, h]
end Go.Proofs.Ytdagbeihjobmjaa.Eng.R
