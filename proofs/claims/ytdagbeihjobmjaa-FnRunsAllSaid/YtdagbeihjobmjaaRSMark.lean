/- The reference's Mark: a row of numbers, whatever they are. -/
import Derived.Test.YtdagbeihjobmjaaRHas
namespace Go.Proofs.Ytdagbeihjobmjaa.Eng.R
set_option linter.unusedSimpArgs false
set_option linter.unusedVariables false
set_option maxHeartbeats 4000000
open Go.RowKit Go.Proofs

def S_sMark (l : List Int) (n : Int) (i : Nat) : XS := ⟨⟨[.v false [.ro l.length (cl .i64 l)], .v false [.int .i64 (n)], .bad, .bad, .bad, .v false [.int .i64 (i)], .bad, .bad, .bad, .bad, .bad, .bad, .bad, .bad, .bad, .bad, .bad, .bad, .bad, .bad, .bad, .bad, .bad, .bad, .bad, .bad, .bad, .bad, .bad, .bad, .bad, .bad, .bad, .bad, .bad, .bad, .bad, .bad, .bad, .bad, .bad, .bad, .bad, .bad, .bad, .bad], memL [], []⟩, 0⟩
def Z_sMark (l : List Int) (n : Int) (i : Nat) : XS := ⟨⟨[.v false [.ro l.length (cl .i64 l)], .v false [.int .i64 (n)], .bad, .bad, .bad, .v false [.int .i64 (i)], .bad, .bad, .bad, .bad, .bad, .bad, .bad, .bad, .bad, .bad, .bad, .bad, .bad, .bad, .bad, .bad, .bad, .bad, .bad, .bad, .bad, .bad, .bad, .bad, .bad, .bad, .bad, .bad, .bad, .bad, .bad, .bad, .bad, .bad, .bad, .bad, .bad, .bad, .bad, .bad], memL [], []⟩, 0⟩
def Q_sMark (l : List Int) (n : Int) (r : AE × XS) : Prop := ∃ i : Nat, i ≤ l.length ∧ r = (.exit 0, Z_sMark l n i)
theorem loop_sMark (l : List Int) (hn : l.length ≤ 1048576) (n : Int) : ∃ r, Q_sMark l n r ∧ ∀ x, head true d134_0 x = S_sMark l n 0 → X tab l134_0 x = some r := by
  refine loopE (σ := Nat) (S_sMark l n) (fun i => l.length - i) (fun i => i ≤ l.length) _ (fun i hi => ?_) 0 (Nat.zero_le _)
  cases hl : l.drop i with
  | nil =>
    obtain rfl := drop_end hl hi
    right
    simp (maxSteps := 4000000) -implicitDefEqProofs [b134_0, S_sMark, x_seq, x_cond, x_block, x_region, x_skip, x_exit, x_ret, head_id, runG, runOps, doOp, wantB, stepOp, AO.eff, pureOp, St.get, St.one, St.num, St.put, St.optNum, binA, binInt, List.take, List.drop, -Prod.exists]
    exact ⟨l.length, Nat.le_refl _, by change _ = _; kernel_rfl⟩
  | cons y r =>
    have hi' := drop_lt hl
    have h1 : (0 ≤ (i : Int) ∧ (i : Int) < (l.length : Int)) := by omega
    have h2 := cl_at (k := .i64) hl
    have h4 := wrap_next hi' (show l.length ≤ 281474976710656 by omega)
    by_cases hy : y < n
    · left
      simp (maxSteps := 4000000) -implicitDefEqProofs [b134_0, S_sMark, x_seq, x_cond, x_block, x_region, x_skip, x_exit, x_ret, head_id, runG, runOps, doOp, wantB, stepOp, AO.eff, pureOp, St.get, St.one, St.num, St.put, St.optNum, binA, binInt, List.take, List.drop, fromRo, h1, h2, h4, hi', hy, -Prod.exists]
      exact ⟨i + 1, by change _ = _; kernel_rfl, by omega, hi'⟩
    · right
      simp (maxSteps := 4000000) -implicitDefEqProofs [b134_0, S_sMark, x_seq, x_cond, x_block, x_region, x_skip, x_exit, x_ret, head_id, runG, runOps, doOp, wantB, stepOp, AO.eff, pureOp, St.get, St.one, St.num, St.put, St.optNum, binA, binInt, List.take, List.drop, fromRo, h1, h2, h4, hi', hy, -Prod.exists]
      exact ⟨i, by omega, by change _ = _; kernel_rfl⟩
theorem r_sMark (l : List Int) (hn : l.length ≤ 1048000) (n : Int) : ∃ l' : List Int, l'.length ≤ l.length + 1 ∧ runRO (X tab) tab 134 [.v false [.ro l.length (cl .i64 l)], .v false [.int .i64 n]] = some (.v false [.sl 0 [] 0 l'.length], [.row 1 (cl .i64 l')]) := by
  have h1 := r_l2Has l n (by omega)
  have h2 := r_l1In n 0 7
  have b0 : l.length * 8 ≤ 140737488355328 := by omega
  have v0 : (cl .i64 l).take l.length = cl .i64 l := cl_self
  have l0 : (cl .i64 l).length = l.length := cl_length
  cases hh : decide (n ∈ l) || !rng n 0 7 with
  | true =>
    by_cases hl0 : l.length = 0
    · have hl1 : l = [] := List.eq_nil_of_length_eq_zero hl0
      subst hl1
      simp only [List.length_nil, cl_nil] at h1
      refine ⟨[], by simp, ?_⟩
      unfold runRO
      have hr : rng n 0 7 = false := by simpa using hh
      rw [hr] at h2
      rw [show decide (n ∈ ([] : List Int)) = false by simp] at h1
      simp (maxSteps := 4000000) -implicitDefEqProofs [tab134, a134, x_seq, x_cond, x_block, x_region, x_skip, x_exit, x_ret, head_id, runG, runOps, doOp, wantB, stepOp, AO.eff, pureOp, St.get, St.one, St.num, St.put, St.optNum, binA, binInt, List.take, List.drop, effOp2, effOp, memL_app, stoRow, cellsAt, toCells, toCell, scalar_int, scalar_bool, scalar_str, scalar_sl, updAt, fromRo, upd, srcCells, A1.slB, flat_int, cl_flat', St.parts, Eng.inB, reps, fillA, newRowSt, appSt, oldOf, rest, kill, mapMem, SV.map, Ob.map, callRO, addMem_nil, roArgs, roL, roA, srcCells, A1.ownB, addMem, shift, ren, SV.map, Ob.map, Ob.noRo, SV.noRo, A1.noRo, List.range, List.range.loop, resOf, resSV, SV.map, SV.ids, A1.ids, reach, allObs, ren, pos, Ob.map, St.canon, memL, List.range, List.range.loop, h1, h2, cl_nil]
    · have hl0' : ¬ l = [] := fun e => hl0 (by rw [e]; rfl)
      refine ⟨l, by omega, ?_⟩
      unfold runRO
      cases hd : decide (n ∈ l) with
      | true =>
        rw [hd] at h1
        simp (maxSteps := 4000000) -implicitDefEqProofs [tab134, a134, x_seq, x_cond, x_block, x_region, x_skip, x_exit, x_ret, head_id, runG, runOps, doOp, wantB, stepOp, AO.eff, pureOp, St.get, St.one, St.num, St.put, St.optNum, binA, binInt, List.take, List.drop, effOp2, effOp, memL_app, stoRow, cellsAt, toCells, toCell, scalar_int, scalar_bool, scalar_str, scalar_sl, updAt, fromRo, upd, srcCells, A1.slB, flat_int, cl_flat', St.parts, Eng.inB, reps, fillA, newRowSt, appSt, oldOf, rest, kill, mapMem, SV.map, Ob.map, callRO, addMem_nil, roArgs, roL, roA, srcCells, A1.ownB, addMem, shift, ren, SV.map, Ob.map, Ob.noRo, SV.noRo, A1.noRo, List.range, List.range.loop, resOf, resSV, SV.map, SV.ids, A1.ids, reach, allObs, ren, pos, Ob.map, St.canon, memL, List.range, List.range.loop, h1, h2, v0, l0, b0, hl0, hl0']
      | false =>
        rw [hd] at h1 hh
        have hr : rng n 0 7 = false := by simpa using hh
        rw [hr] at h2
        simp (maxSteps := 4000000) -implicitDefEqProofs [tab134, a134, x_seq, x_cond, x_block, x_region, x_skip, x_exit, x_ret, head_id, runG, runOps, doOp, wantB, stepOp, AO.eff, pureOp, St.get, St.one, St.num, St.put, St.optNum, binA, binInt, List.take, List.drop, effOp2, effOp, memL_app, stoRow, cellsAt, toCells, toCell, scalar_int, scalar_bool, scalar_str, scalar_sl, updAt, fromRo, upd, srcCells, A1.slB, flat_int, cl_flat', St.parts, Eng.inB, reps, fillA, newRowSt, appSt, oldOf, rest, kill, mapMem, SV.map, Ob.map, callRO, addMem_nil, roArgs, roL, roA, srcCells, A1.ownB, addMem, shift, ren, SV.map, Ob.map, Ob.noRo, SV.noRo, A1.noRo, List.range, List.range.loop, resOf, resSV, SV.map, SV.ids, A1.ids, reach, allObs, ren, pos, Ob.map, St.canon, memL, List.range, List.range.loop, h1, h2, v0, l0, b0, hl0, hl0']
  | false =>
    simp only [Bool.or_eq_false_iff, Bool.not_eq_false'] at hh
    rw [hh.1] at h1
    rw [hh.2] at h2
    obtain ⟨r, ⟨i, hi, rfl⟩, hr⟩ := loop_sMark l (by omega) n
    refine ⟨l.take i ++ n :: l.drop i, by simp; omega, ?_⟩
    have hi' : (i : Int) ≤ (l.length : Int) := by omega
    have t1 : (cl .i64 l).take i = cl .i64 (l.take i) := cl_take
    have t2 : (List.drop i (cl .i64 l)).take (l.length - i) = cl .i64 (l.drop i) := by
      rw [List.take_of_length_le (by rw [List.length_drop, cl_length]; omega)]
      simp [cl]
    have t3 : List.drop i (cl .i64 l) = cl .i64 (l.drop i) := by simp [cl]
    have t4 : (cl .i64 (l.drop i)).take (l.length - i) = cl .i64 (l.drop i) := List.take_of_length_le (by rw [cl_length, List.length_drop]; omega)
    have t5 : (cl .i64 (l.take i)).take i = cl .i64 (l.take i) := List.take_of_length_le (by rw [cl_length, List.length_take]; omega)
    have l1 : (cl .i64 (l.take i)).length = i := by rw [cl_length, List.length_take]; omega
    have l2 : (cl .i64 (l.drop i)).length = l.length - i := by rw [cl_length, List.length_drop]
    have b1 : i * 8 ≤ 140737488355328 := by omega
    have b2 : (i + 1) * 8 ≤ 140737488355328 := by omega
    have b3 : (i + 1 + (l.length - i)) * 8 ≤ 140737488355328 := by omega
    have b4 : (1 + l.length) * 8 ≤ 140737488355328 := by omega
    unfold runRO
    simp (maxSteps := 4000000) -implicitDefEqProofs [tab134, a134, x_seq, x_cond, x_block, x_region, x_skip, x_exit, x_ret, head_id, runG, runOps, doOp, wantB, stepOp, AO.eff, pureOp, St.get, St.one, St.num, St.put, St.optNum, binA, binInt, List.take, List.drop, effOp2, effOp, memL_app, stoRow, cellsAt, toCells, toCell, scalar_int, scalar_bool, scalar_str, scalar_sl, updAt, fromRo, upd, srcCells, A1.slB, flat_int, cl_flat', St.parts, Eng.inB, reps, fillA, newRowSt, appSt, oldOf, rest, kill, mapMem, SV.map, Ob.map, callRO, addMem_nil, roArgs, roL, roA, srcCells, A1.ownB, addMem, shift, ren, SV.map, Ob.map, Ob.noRo, SV.noRo, A1.noRo, List.range, List.range.loop, resOf, resSV, SV.map, SV.ids, A1.ids, reach, allObs, ren, pos, Ob.map, St.canon, memL, List.range, List.range.loop, h1, h2, v0, l0]
    rw [hr _ (by change _ = _; kernel_rfl)]
    by_cases hi0 : i = 0
    · subst hi0
      by_cases hd0 : l.length = 0
      · have hl1 : l = [] := List.eq_nil_of_length_eq_zero hd0
        subst hl1
        simp (maxSteps := 4000000) -implicitDefEqProofs [Z_sMark, x_seq, x_cond, x_block, x_region, x_skip, x_exit, x_ret, head_id, runG, runOps, doOp, wantB, stepOp, AO.eff, pureOp, St.get, St.one, St.num, St.put, St.optNum, binA, binInt, List.take, List.drop, effOp2, effOp, memL_app, stoRow, cellsAt, toCells, toCell, scalar_int, scalar_bool, scalar_str, scalar_sl, updAt, fromRo, upd, srcCells, A1.slB, flat_int, cl_flat', St.parts, Eng.inB, reps, fillA, newRowSt, appSt, oldOf, rest, kill, mapMem, SV.map, Ob.map, callRO, addMem_nil, roArgs, roL, roA, srcCells, A1.ownB, addMem, shift, ren, SV.map, Ob.map, Ob.noRo, SV.noRo, A1.noRo, List.range, List.range.loop, resOf, resSV, SV.map, SV.ids, A1.ids, reach, allObs, ren, pos, Ob.map, St.canon, memL, List.range, List.range.loop, cellsAt, memL_app, cutB, cl]
      · have hl0' : ¬ l = [] := fun e => hd0 (by rw [e]; rfl)
        simp (maxSteps := 4000000) -implicitDefEqProofs [Z_sMark, x_seq, x_cond, x_block, x_region, x_skip, x_exit, x_ret, head_id, runG, runOps, doOp, wantB, stepOp, AO.eff, pureOp, St.get, St.one, St.num, St.put, St.optNum, binA, binInt, List.take, List.drop, effOp2, effOp, memL_app, stoRow, cellsAt, toCells, toCell, scalar_int, scalar_bool, scalar_str, scalar_sl, updAt, fromRo, upd, srcCells, A1.slB, flat_int, cl_flat', St.parts, Eng.inB, reps, fillA, newRowSt, appSt, oldOf, rest, kill, mapMem, SV.map, Ob.map, callRO, addMem_nil, roArgs, roL, roA, srcCells, A1.ownB, addMem, shift, ren, SV.map, Ob.map, Ob.noRo, SV.noRo, A1.noRo, List.range, List.range.loop, resOf, resSV, SV.map, SV.ids, A1.ids, reach, allObs, ren, pos, Ob.map, St.canon, memL, List.range, List.range.loop, cellsAt, memL_app, cutB, l0, v0, hl0', hd0, b4, cl_cons]
        omega
    · by_cases hd0 : l.length - i = 0
      · simp (maxSteps := 4000000) -implicitDefEqProofs [Z_sMark, x_seq, x_cond, x_block, x_region, x_skip, x_exit, x_ret, head_id, runG, runOps, doOp, wantB, stepOp, AO.eff, pureOp, St.get, St.one, St.num, St.put, St.optNum, binA, binInt, List.take, List.drop, effOp2, effOp, memL_app, stoRow, cellsAt, toCells, toCell, scalar_int, scalar_bool, scalar_str, scalar_sl, updAt, fromRo, upd, srcCells, A1.slB, flat_int, cl_flat', St.parts, Eng.inB, reps, fillA, newRowSt, appSt, oldOf, rest, kill, mapMem, SV.map, Ob.map, callRO, addMem_nil, roArgs, roL, roA, srcCells, A1.ownB, addMem, shift, ren, SV.map, Ob.map, Ob.noRo, SV.noRo, A1.noRo, List.range, List.range.loop, resOf, resSV, SV.map, SV.ids, A1.ids, reach, allObs, ren, pos, Ob.map, St.canon, memL, List.range, List.range.loop, cellsAt, memL_app, cutB, hi, hi', t1, t2, t3, t4, t5, l0, l1, l2, b1, b2, b3, hi0, hd0]
        rw [show l.drop i = [] from List.drop_eq_nil_of_le (by omega)]
        simp [cl]
      · simp (maxSteps := 4000000) -implicitDefEqProofs [Z_sMark, x_seq, x_cond, x_block, x_region, x_skip, x_exit, x_ret, head_id, runG, runOps, doOp, wantB, stepOp, AO.eff, pureOp, St.get, St.one, St.num, St.put, St.optNum, binA, binInt, List.take, List.drop, effOp2, effOp, memL_app, stoRow, cellsAt, toCells, toCell, scalar_int, scalar_bool, scalar_str, scalar_sl, updAt, fromRo, upd, srcCells, A1.slB, flat_int, cl_flat', St.parts, Eng.inB, reps, fillA, newRowSt, appSt, oldOf, rest, kill, mapMem, SV.map, Ob.map, callRO, addMem_nil, roArgs, roL, roA, srcCells, A1.ownB, addMem, shift, ren, SV.map, Ob.map, Ob.noRo, SV.noRo, A1.noRo, List.range, List.range.loop, resOf, resSV, SV.map, SV.ids, A1.ids, reach, allObs, ren, pos, Ob.map, St.canon, memL, List.range, List.range.loop, cellsAt, memL_app, cutB, hi, hi', t1, t2, t3, t4, t5, l0, l1, l2, b1, b2, b3, hi0, hd0]
        exact ⟨by omega, by simp [cl]⟩
end Go.Proofs.Ytdagbeihjobmjaa.Eng.R
