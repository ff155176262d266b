/- Blocks: what is put into a drawn block is got of it; all else is as it was. -/
import Derived.Test.YtnbgdddcbmlcpaaABlocks
namespace Go.Proofs.Ytnbgdddcbmlcpaa.Eng.A
set_option linter.unusedSimpArgs false
set_option linter.unusedVariables false
set_option maxHeartbeats 16000000
set_option maxRecDepth 100000
open Go.RowKit Go.Proofs

theorem r_DrawBlockGet (l : List Int) (hl : l.length ≤ 1048576) : ∃ (b : List Int) (k n : Int), b.length ≤ 12 ∧
    runRO (X tab) tab 44 [.v false [.ro l.length (cl .u8 l)]] = some (.tup [(false, [.sl 0 [] 0 b.length]), (false, [.int .i64 k]), (false, [.int .i64 n])], [.row 1 (cl .u8 b)]) := by
  obtain ⟨h, e0⟩ := r_l1New l hl
  obtain ⟨b, i1, g1, hb, e1⟩ := r_l17Draw l hl 0 h
  obtain ⟨k, i2, g2, hk, e2⟩ := r_l1PickInt l hl i1 g1 [0, 1, 3, 7, 8, 9, -1, 9223372036854775807] (by simp) (by simp)
  obtain ⟨n, i3, g3, hn, e3⟩ := r_l1PickInt l hl i2 g2 [0, 1, 4, 8, -1, 9223372036854775807] (by simp) (by simp)
  refine ⟨b, k, n, hb, ?_⟩
  have c1 : ∀ a b c d e f g h : Int, cl .i64 [a, b, c, d, e, f, g, h] = [.int .i64 a, .int .i64 b, .int .i64 c, .int .i64 d, .int .i64 e, .int .i64 f, .int .i64 g, .int .i64 h] := fun _ _ _ _ _ _ _ _ => rfl
  have c2 : ∀ a b c d e f : Int, cl .i64 [a, b, c, d, e, f] = [.int .i64 a, .int .i64 b, .int .i64 c, .int .i64 d, .int .i64 e, .int .i64 f] := fun _ _ _ _ _ _ => rfl
  rw [c1] at e2
  rw [c2] at e3
  simp only [List.length_cons, List.length_nil] at e2 e3
  unfold runRO
  simp only [Int.ofNat_zero] at e0 e1
  simp (maxSteps := 4000000) -implicitDefEqProofs [tab44, a44, x_seq, x_cond, x_block, x_region, x_skip, x_exit, x_ret, head_id, runG, runOps, doOp, wantB, stepOp, AO.eff, pureOp, St.get, St.one, St.num, St.put, St.optNum, binA, binInt, List.take, List.drop, callRO, addMem_nil, roArgs, roL, roA, srcCells, A1.ownB, addMem, shift, ren, SV.map, Ob.map, Ob.noRo, SV.noRo, A1.noRo, List.range, List.range.loop, callLend, lendBox, A1.ids, roArgs, roL, roA, A1.ownB, addMem_nil, List.range, List.range.loop, SV.map, ren, shift, upd, memL_app, effOp2, effOp, memL_app, stoRow, cellsAt, toCells, toCell, scalar_int, scalar_bool, scalar_str, scalar_sl, updAt, fromRo, upd, srcCells, A1.slB, flat_int, cl_flat', St.parts, Eng.inB, reps, fillA, newRowSt, appSt, oldOf, rest, kill, mapMem, SV.map, Ob.map, resOf, resSV, SV.map, SV.ids, A1.ids, reach, allObs, ren, pos, Ob.map, St.canon, memL, List.range, List.range.loop, getAll, spl, e0, e1, e2, e3]
theorem r_DrawBlockSum (l : List Int) (hl : l.length ≤ 1048576) : ∃ b : List Int, b.length ≤ 12 ∧ runRO (X tab) tab 45 [.v false [.ro l.length (cl .u8 l)]] = some (.v false [.sl 0 [] 0 b.length], [.row 1 (cl .u8 b)]) := by
  obtain ⟨h, e0⟩ := r_l1New l hl
  obtain ⟨b, i1, g1, hb, e1⟩ := r_l17Draw l hl 0 h
  refine ⟨b, hb, ?_⟩
  unfold runRO
  simp only [Int.ofNat_zero] at e0 e1
  simp (maxSteps := 4000000) -implicitDefEqProofs [tab45, a45, x_seq, x_cond, x_block, x_region, x_skip, x_exit, x_ret, head_id, runG, runOps, doOp, wantB, stepOp, AO.eff, pureOp, St.get, St.one, St.num, St.put, St.optNum, binA, binInt, List.take, List.drop, callRO, addMem_nil, roArgs, roL, roA, srcCells, A1.ownB, addMem, shift, ren, SV.map, Ob.map, Ob.noRo, SV.noRo, A1.noRo, List.range, List.range.loop, callLend, lendBox, A1.ids, roArgs, roL, roA, A1.ownB, addMem_nil, List.range, List.range.loop, SV.map, ren, shift, upd, memL_app, resOf, resSV, SV.map, SV.ids, A1.ids, reach, allObs, ren, pos, Ob.map, St.canon, memL, List.range, List.range.loop, e0, e1]
theorem r_DrawBlockOk (l : List Int) (hl : l.length ≤ 1048576) : ∃ b : List Int, b.length ≤ 12 ∧ runRO (X tab) tab 46 [.v false [.ro l.length (cl .u8 l)]] = some (.v false [.sl 0 [] 0 b.length], [.row 1 (cl .u8 b)]) := by
  obtain ⟨h, e0⟩ := r_l1New l hl
  obtain ⟨b, i1, g1, hb, e1⟩ := r_l17Draw l hl 0 h
  refine ⟨b, hb, ?_⟩
  unfold runRO
  simp only [Int.ofNat_zero] at e0 e1
  simp (maxSteps := 4000000) -implicitDefEqProofs [tab46, a46, x_seq, x_cond, x_block, x_region, x_skip, x_exit, x_ret, head_id, runG, runOps, doOp, wantB, stepOp, AO.eff, pureOp, St.get, St.one, St.num, St.put, St.optNum, binA, binInt, List.take, List.drop, callRO, addMem_nil, roArgs, roL, roA, srcCells, A1.ownB, addMem, shift, ren, SV.map, Ob.map, Ob.noRo, SV.noRo, A1.noRo, List.range, List.range.loop, callLend, lendBox, A1.ids, roArgs, roL, roA, A1.ownB, addMem_nil, List.range, List.range.loop, SV.map, ren, shift, upd, memL_app, resOf, resSV, SV.map, SV.ids, A1.ids, reach, allObs, ren, pos, Ob.map, St.canon, memL, List.range, List.range.loop, e0, e1]
theorem r_DrawBlockSame (l : List Int) (hl : l.length ≤ 1048576) : ∃ a b : List Int, (a.length ≤ 12 ∧ b.length ≤ 12) ∧
    runRO (X tab) tab 47 [.v false [.ro l.length (cl .u8 l)]] = some (.tup [(false, [.sl 0 [] 0 a.length]), (false, [.sl 1 [] 0 b.length])], [.row 1 (cl .u8 a), .row 1 (cl .u8 b)]) := by
  obtain ⟨h, e0⟩ := r_l1New l hl
  obtain ⟨a, i1, g1, ha, e1⟩ := r_l17Draw l hl 0 h
  obtain ⟨t, i2, g2, e2⟩ := r_l1Once l hl i1 g1 2
  simp only [Int.ofNat_zero] at e0 e1
  cases t with
  | true =>
    refine ⟨a, a, ⟨ha, ha⟩, ?_⟩
    have u1 : (cl .u8 a).take a.length = cl .u8 a := cl_self
    have a1 : a.length ≤ 140737488355328 := by omega
    by_cases hz : a = []
    · subst hz
      simp only [List.length_nil, cl_nil] at e1 ⊢
      unfold runRO
      simp (maxSteps := 4000000) -implicitDefEqProofs [tab47, a47, x_seq, x_cond, x_block, x_region, x_skip, x_exit, x_ret, head_id, runG, runOps, doOp, wantB, stepOp, AO.eff, pureOp, St.get, St.one, St.num, St.put, St.optNum, binA, binInt, List.take, List.drop, effOp2, effOp, memL_app, stoRow, cellsAt, toCells, toCell, scalar_int, scalar_bool, scalar_str, scalar_sl, updAt, fromRo, upd, srcCells, A1.slB, flat_int, cl_flat', St.parts, Eng.inB, reps, fillA, newRowSt, appSt, oldOf, rest, kill, mapMem, SV.map, Ob.map, callRO, addMem_nil, roArgs, roL, roA, srcCells, A1.ownB, addMem, shift, ren, SV.map, Ob.map, Ob.noRo, SV.noRo, A1.noRo, List.range, List.range.loop, callLend, lendBox, A1.ids, roArgs, roL, roA, A1.ownB, addMem_nil, List.range, List.range.loop, SV.map, ren, shift, upd, memL_app, resOf, resSV, SV.map, SV.ids, A1.ids, reach, allObs, ren, pos, Ob.map, St.canon, memL, List.range, List.range.loop, cellsAt, e0, e1, e2]
    · have hz' : ¬ a.length = 0 := fun e => hz (List.eq_nil_of_length_eq_zero e)
      unfold runRO
      simp (maxSteps := 4000000) -implicitDefEqProofs [tab47, a47, x_seq, x_cond, x_block, x_region, x_skip, x_exit, x_ret, head_id, runG, runOps, doOp, wantB, stepOp, AO.eff, pureOp, St.get, St.one, St.num, St.put, St.optNum, binA, binInt, List.take, List.drop, effOp2, effOp, memL_app, stoRow, cellsAt, toCells, toCell, scalar_int, scalar_bool, scalar_str, scalar_sl, updAt, fromRo, upd, srcCells, A1.slB, flat_int, cl_flat', St.parts, Eng.inB, reps, fillA, newRowSt, appSt, oldOf, rest, kill, mapMem, SV.map, Ob.map, callRO, addMem_nil, roArgs, roL, roA, srcCells, A1.ownB, addMem, shift, ren, SV.map, Ob.map, Ob.noRo, SV.noRo, A1.noRo, List.range, List.range.loop, callLend, lendBox, A1.ids, roArgs, roL, roA, A1.ownB, addMem_nil, List.range, List.range.loop, SV.map, ren, shift, upd, memL_app, resOf, resSV, SV.map, SV.ids, A1.ids, reach, allObs, ren, pos, Ob.map, St.canon, memL, List.range, List.range.loop, cellsAt, e0, e1, e2, u1, a1, hz, hz', cl_length, cl_ex]
  | false =>
    obtain ⟨b, i3, g3, hb, e3⟩ := r_l17Draw l hl i2 g2
    refine ⟨a, b, ⟨ha, hb⟩, ?_⟩
    unfold runRO
    simp (maxSteps := 4000000) -implicitDefEqProofs [tab47, a47, x_seq, x_cond, x_block, x_region, x_skip, x_exit, x_ret, head_id, runG, runOps, doOp, wantB, stepOp, AO.eff, pureOp, St.get, St.one, St.num, St.put, St.optNum, binA, binInt, List.take, List.drop, callRO, addMem_nil, roArgs, roL, roA, srcCells, A1.ownB, addMem, shift, ren, SV.map, Ob.map, Ob.noRo, SV.noRo, A1.noRo, List.range, List.range.loop, callLend, lendBox, A1.ids, roArgs, roL, roA, A1.ownB, addMem_nil, List.range, List.range.loop, SV.map, ren, shift, upd, memL_app, resOf, resSV, SV.map, SV.ids, A1.ids, reach, allObs, ren, pos, Ob.map, St.canon, memL, List.range, List.range.loop, cellsAt, e0, e1, e2, e3]
theorem r_BlockSum (b : List Int) (hb : b.length ≤ 12) : runRO (X tab) tab 32 [.v false [.ro b.length (cl .u8 b)]] = some (.v false [.int .i64 (if b.length = 8 then sumOf b else 0)], []) := by
  have h1 := r_BlockOk b.length (cl .u8 b)
  have h2 := r_SumOf b (by omega)
  unfold runRO
  by_cases h8 : b.length = 8
  · rw [decide_eq_true h8] at h1
    simp (maxSteps := 4000000) -implicitDefEqProofs [tab32, a32, x_seq, x_cond, x_block, x_region, x_skip, x_exit, x_ret, head_id, runG, runOps, doOp, wantB, stepOp, AO.eff, pureOp, St.get, St.one, St.num, St.put, St.optNum, binA, binInt, List.take, List.drop, callRO, addMem_nil, roArgs, roL, roA, srcCells, A1.ownB, addMem, shift, ren, SV.map, Ob.map, Ob.noRo, SV.noRo, A1.noRo, List.range, List.range.loop, resOf, resSV, SV.map, SV.ids, A1.ids, reach, allObs, ren, pos, Ob.map, St.canon, memL, List.range, List.range.loop, h1, h2, h8]
    rw [h8] at h1 h2
    simp (maxSteps := 4000000) -implicitDefEqProofs [x_seq, x_cond, x_block, x_region, x_skip, x_exit, x_ret, head_id, runG, runOps, doOp, wantB, stepOp, AO.eff, pureOp, St.get, St.one, St.num, St.put, St.optNum, binA, binInt, List.take, List.drop, callRO, addMem_nil, roArgs, roL, roA, srcCells, A1.ownB, addMem, shift, ren, SV.map, Ob.map, Ob.noRo, SV.noRo, A1.noRo, List.range, List.range.loop, resOf, resSV, SV.map, SV.ids, A1.ids, reach, allObs, ren, pos, Ob.map, St.canon, memL, List.range, List.range.loop, h1, h2]
  · rw [decide_eq_false h8] at h1
    simp (maxSteps := 4000000) -implicitDefEqProofs [tab32, a32, x_seq, x_cond, x_block, x_region, x_skip, x_exit, x_ret, head_id, runG, runOps, doOp, wantB, stepOp, AO.eff, pureOp, St.get, St.one, St.num, St.put, St.optNum, binA, binInt, List.take, List.drop, callRO, addMem_nil, roArgs, roL, roA, srcCells, A1.ownB, addMem, shift, ren, SV.map, Ob.map, Ob.noRo, SV.noRo, A1.noRo, List.range, List.range.loop, resOf, resSV, SV.map, SV.ids, A1.ids, reach, allObs, ren, pos, Ob.map, St.canon, memL, List.range, List.range.loop, h1, h2, h8]
theorem r_sBlockSum (b : List Int) (hb : b.length ≤ 12) : runRO (X tab) tab 31 [.v false [.ro b.length (cl .u8 b)]] = some (.v false [.int .i64 (if b.length = 8 then sumOf b else 0)], []) := by
  have h1 := r_sBlockOk b.length (cl .u8 b)
  have h2 := r_sSumOf b (by omega)
  unfold runRO
  by_cases h8 : b.length = 8
  · rw [decide_eq_true h8] at h1
    simp (maxSteps := 4000000) -implicitDefEqProofs [tab31, a31, x_seq, x_cond, x_block, x_region, x_skip, x_exit, x_ret, head_id, runG, runOps, doOp, wantB, stepOp, AO.eff, pureOp, St.get, St.one, St.num, St.put, St.optNum, binA, binInt, List.take, List.drop, callRO, addMem_nil, roArgs, roL, roA, srcCells, A1.ownB, addMem, shift, ren, SV.map, Ob.map, Ob.noRo, SV.noRo, A1.noRo, List.range, List.range.loop, resOf, resSV, SV.map, SV.ids, A1.ids, reach, allObs, ren, pos, Ob.map, St.canon, memL, List.range, List.range.loop, h1, h2, h8]
    rw [h8] at h1 h2
    simp (maxSteps := 4000000) -implicitDefEqProofs [x_seq, x_cond, x_block, x_region, x_skip, x_exit, x_ret, head_id, runG, runOps, doOp, wantB, stepOp, AO.eff, pureOp, St.get, St.one, St.num, St.put, St.optNum, binA, binInt, List.take, List.drop, callRO, addMem_nil, roArgs, roL, roA, srcCells, A1.ownB, addMem, shift, ren, SV.map, Ob.map, Ob.noRo, SV.noRo, A1.noRo, List.range, List.range.loop, resOf, resSV, SV.map, SV.ids, A1.ids, reach, allObs, ren, pos, Ob.map, St.canon, memL, List.range, List.range.loop, h1, h2]
  · rw [decide_eq_false h8] at h1
    simp (maxSteps := 4000000) -implicitDefEqProofs [tab31, a31, x_seq, x_cond, x_block, x_region, x_skip, x_exit, x_ret, head_id, runG, runOps, doOp, wantB, stepOp, AO.eff, pureOp, St.get, St.one, St.num, St.put, St.optNum, binA, binInt, List.take, List.drop, callRO, addMem_nil, roArgs, roL, roA, srcCells, A1.ownB, addMem, shift, ren, SV.map, Ob.map, Ob.noRo, SV.noRo, A1.noRo, List.range, List.range.loop, resOf, resSV, SV.map, SV.ids, A1.ids, reach, allObs, ren, pos, Ob.map, St.canon, memL, List.range, List.range.loop, h1, h2, h8]
theorem r_BlockNew : runRO (X tab) tab 24 [] = some (.v false [.sl 0 [] 0 8], [.row 1 (cl .u8 [0, 0, 0, 0, 0, 0, 0, 0])]) := runRO_mono (exec_le_X 20) (by kernel_rfl)
end Go.Proofs.Ytnbgdddcbmlcpaa.Eng.A
