/- Blocks: reading of them, putting into them; the laws. -/
import Derived.Test.YtnbgdddcbmlcpaaANum
namespace Go.Proofs.Ytnbgdddcbmlcpaa.Eng.A
set_option linter.unusedSimpArgs false
set_option linter.unusedVariables false
set_option maxHeartbeats 8000000
set_option maxRecDepth 100000
open Go.RowKit Go.Proofs

theorem r_CloneB (l : List Int) (hl : l ≠ []) (hn : l.length ≤ 1048576) : runRO (X tab) tab 61 [.v false [.ro l.length (cl .u8 l)]] = some (.v false [.sl 0 [] 0 l.length], [.row 1 (cl .u8 l)]) := by
  refine runRO_mono (exec_le_X 4) ?_
  have h1 : ¬ l.length = 0 := fun e => hl (List.eq_nil_of_length_eq_zero e)
  have h2 : l.length ≤ 140737488355328 := by omega
  simp [runRO, tab61, a61, exec, cloneX, srcCells, cl_length, cl_self, hl, h1, h2, cl_flat, List.replicate, resOf, resSV, SV.map, SV.ids, A1.ids, reach, allObs, ren, pos, Ob.map, St.canon, memL, List.range, List.range.loop, upd]
theorem r_CloneB_nil : runRO (X tab) tab 61 [.v false [.ro 0 []]] = some (.v false [.nil], []) := runRO_mono (exec_le_X 4) (by kernel_rfl)
theorem r_BlockOk (n : Nat) (cs : List Cell) : runRO (X tab) tab 19 [.v false [.ro n cs]] = some (.v false [.bool (decide (n = 8))], []) := by
  have h : ((n : Int) == 8) = decide (n = 8) := by rw [Bool.eq_iff_iff, beq_iff_eq, decide_eq_true_eq]; omega
  unfold runRO
  simp (maxSteps := 4000000) -implicitDefEqProofs [tab19, a19, x_seq, x_cond, x_block, x_region, x_skip, x_exit, x_ret, head_id, runG, runOps, doOp, wantB, stepOp, AO.eff, pureOp, St.get, St.one, St.num, St.put, St.optNum, binA, binInt, List.take, List.drop, resOf, resSV, SV.map, SV.ids, A1.ids, reach, allObs, ren, pos, Ob.map, St.canon, memL, List.range, List.range.loop, h]
theorem r_sBlockOk (n : Nat) (cs : List Cell) : runRO (X tab) tab 17 [.v false [.ro n cs]] = some (.v false [.bool (decide (n = 8))], []) := by
  have h : ((n : Int) == 8) = decide (n = 8) := by rw [Bool.eq_iff_iff, beq_iff_eq, decide_eq_true_eq]; omega
  unfold runRO
  simp (maxSteps := 4000000) -implicitDefEqProofs [tab17, a17, x_seq, x_cond, x_block, x_region, x_skip, x_exit, x_ret, head_id, runG, runOps, doOp, wantB, stepOp, AO.eff, pureOp, St.get, St.one, St.num, St.put, St.optNum, binA, binInt, List.take, List.drop, resOf, resSV, SV.map, SV.ids, A1.ids, reach, allObs, ren, pos, Ob.map, St.canon, memL, List.range, List.range.loop, h]
theorem r_lies (i n : Int) : runRO (X tab) tab 60 [.v false [.int .i64 i], .v false [.int .i64 n]] = some (.v false [.bool (rng i 0 8 && rng n 0 (8 - i))], []) := by
  have h1 := r_from i 0 8
  unfold runRO
  cases h : rng i 0 8 with
  | false =>
    rw [h] at h1
    simp (maxSteps := 4000000) -implicitDefEqProofs [tab60, a60, x_seq, x_cond, x_block, x_region, x_skip, x_exit, x_ret, head_id, runG, runOps, doOp, wantB, stepOp, AO.eff, pureOp, St.get, St.one, St.num, St.put, St.optNum, binA, binInt, List.take, List.drop, callRO, addMem_nil, roArgs, roL, roA, srcCells, A1.ownB, addMem, shift, ren, SV.map, Ob.map, Ob.noRo, SV.noRo, A1.noRo, List.range, List.range.loop, resOf, resSV, SV.map, SV.ids, A1.ids, reach, allObs, ren, pos, Ob.map, St.canon, memL, List.range, List.range.loop, h1]
  | true =>
    rw [h] at h1
    have hi := rng_iff.1 h
    have h2 : IntKind.i64.wrap (8 - i) = 8 - i := wrap_id (by omega) (by omega)
    simp (maxSteps := 4000000) -implicitDefEqProofs [tab60, a60, x_seq, x_cond, x_block, x_region, x_skip, x_exit, x_ret, head_id, runG, runOps, doOp, wantB, stepOp, AO.eff, pureOp, St.get, St.one, St.num, St.put, St.optNum, binA, binInt, List.take, List.drop, callRO, addMem_nil, roArgs, roL, roA, srcCells, A1.ownB, addMem, shift, ren, SV.map, Ob.map, Ob.noRo, SV.noRo, A1.noRo, List.range, List.range.loop, resOf, resSV, SV.map, SV.ids, A1.ids, reach, allObs, ren, pos, Ob.map, St.canon, memL, List.range, List.range.loop, h1, h2, r_from]
def getOk (b : List Int) (i n : Int) : Bool := decide (b.length = 8) && (rng i 0 8 && rng n 0 (8 - i))
def blockGet (b : List Int) (i n : Int) : List Int := (b.drop i.toNat).take n.toNat
theorem r_BlockGet_bad (b : List Int) (i n : Int) (h : getOk b i n = false) : runRO (X tab) tab 38 [.v false [.ro b.length (cl .u8 b)], .v false [.int .i64 i], .v false [.int .i64 n]] = some (.v false [.nil], []) := by
  have h1 := r_BlockOk b.length (cl .u8 b)
  have h2 := r_lies i n
  unfold runRO
  cases h3 : decide (b.length = 8) with
  | false =>
    rw [h3] at h1
    simp (maxSteps := 4000000) -implicitDefEqProofs [tab38, a38, x_seq, x_cond, x_block, x_region, x_skip, x_exit, x_ret, head_id, runG, runOps, doOp, wantB, stepOp, AO.eff, pureOp, St.get, St.one, St.num, St.put, St.optNum, binA, binInt, List.take, List.drop, callRO, addMem_nil, roArgs, roL, roA, srcCells, A1.ownB, addMem, shift, ren, SV.map, Ob.map, Ob.noRo, SV.noRo, A1.noRo, List.range, List.range.loop, resOf, resSV, SV.map, SV.ids, A1.ids, reach, allObs, ren, pos, Ob.map, St.canon, memL, List.range, List.range.loop, h1]
  | true =>
    rw [h3] at h1
    simp only [getOk, h3, Bool.true_and] at h
    rw [h] at h2
    simp (maxSteps := 4000000) -implicitDefEqProofs [tab38, a38, x_seq, x_cond, x_block, x_region, x_skip, x_exit, x_ret, head_id, runG, runOps, doOp, wantB, stepOp, AO.eff, pureOp, St.get, St.one, St.num, St.put, St.optNum, binA, binInt, List.take, List.drop, callRO, addMem_nil, roArgs, roL, roA, srcCells, A1.ownB, addMem, shift, ren, SV.map, Ob.map, Ob.noRo, SV.noRo, A1.noRo, List.range, List.range.loop, resOf, resSV, SV.map, SV.ids, A1.ids, reach, allObs, ren, pos, Ob.map, St.canon, memL, List.range, List.range.loop, h1, h2]
theorem get_facts {b : List Int} {i n : Int} (h : getOk b i n = true) : b.length = 8 ∧ 0 ≤ i ∧ 0 ≤ n ∧ i ≤ 8 ∧ n ≤ 8 - i ∧ (blockGet b i n).length = n.toNat ∧ rng i 0 8 = true ∧ rng n 0 (8 - i) = true := by
  simp only [getOk, Bool.and_eq_true, decide_eq_true_eq] at h
  have h1 := rng_iff.1 h.2.1
  have h2 := rng_iff.1 h.2.2
  refine ⟨h.1, h1.1, h2.1, h1.2, h2.2, ?_, h.2⟩
  simp [blockGet]
  omega
theorem r_BlockGet (b : List Int) (i n : Int) (h : getOk b i n = true) : runRO (X tab) tab 38 [.v false [.ro b.length (cl .u8 b)], .v false [.int .i64 i], .v false [.int .i64 n]] =
    if blockGet b i n = [] then some (.v false [.nil], []) else some (.v false [.sl 0 [] 0 (blockGet b i n).length], [.row 1 (cl .u8 (blockGet b i n))]) := by
  obtain ⟨h8, hi, hn, hi8, hn8, hlen, q1, q2⟩ := get_facts h
  have h1 := r_BlockOk b.length (cl .u8 b)
  have h2 := r_lies i n
  rw [q1, q2] at h2
  have h3 : IntKind.i64.wrap (i + n) = i + n := wrap_id (by omega) (by omega)
  have h4 : 0 ≤ i ∧ i ≤ i + n ∧ i + n ≤ (b.length : Int) := by omega
  have h5 : (i + n).toNat - i.toNat = n.toNat := by omega
  have h6 : decide (b.length = 8) = true := by simp [h8]
  rw [h6] at h1
  have h7 : ((cl .u8 b).drop i.toNat).take n.toNat = cl .u8 (blockGet b i n) := by rw [cl_drop, cl_take]; rfl
  have h8' : (i + n).toNat = i.toNat + n.toNat := by omega
  unfold runRO
  by_cases he : blockGet b i n = []
  · have hn0 : n.toNat = 0 := by rw [← hlen, he]; rfl
    have h9 := r_CloneB_nil
    rw [if_pos he]
    simp (maxSteps := 4000000) -implicitDefEqProofs [tab38, a38, x_seq, x_cond, x_block, x_region, x_skip, x_exit, x_ret, head_id, runG, runOps, doOp, wantB, stepOp, AO.eff, pureOp, St.get, St.one, St.num, St.put, St.optNum, binA, binInt, List.take, List.drop, callRO, addMem_nil, roArgs, roL, roA, srcCells, A1.ownB, addMem, shift, ren, SV.map, Ob.map, Ob.noRo, SV.noRo, A1.noRo, List.range, List.range.loop, resOf, resSV, SV.map, SV.ids, A1.ids, reach, allObs, ren, pos, Ob.map, St.canon, memL, List.range, List.range.loop, h1, h2, h3, h4, h5, cutB, hn0, h9]
  · have h9 := r_CloneB _ he (by omega)
    rw [hlen] at h9
    rw [if_neg he, hlen]
    simp (maxSteps := 4000000) -implicitDefEqProofs [tab38, a38, x_seq, x_cond, x_block, x_region, x_skip, x_exit, x_ret, head_id, runG, runOps, doOp, wantB, stepOp, AO.eff, pureOp, St.get, St.one, St.num, St.put, St.optNum, binA, binInt, List.take, List.drop, callRO, addMem_nil, roArgs, roL, roA, srcCells, A1.ownB, addMem, shift, ren, SV.map, Ob.map, Ob.noRo, SV.noRo, A1.noRo, List.range, List.range.loop, resOf, resSV, SV.map, SV.ids, A1.ids, reach, allObs, ren, pos, Ob.map, St.canon, memL, List.range, List.range.loop, h1, h2, h3, h4, h5, h7, cutB, h9]
theorem r_sBlockGet_bad (b : List Int) (i n : Int) (hb : b.length ≤ 1048576) (h : getOk b i n = false) : runRO (X tab) tab 37 [.v false [.ro b.length (cl .u8 b)], .v false [.int .i64 i], .v false [.int .i64 n]] = some (.v false [.sl 0 [] 0 0], [.row 1 []]) := by
  have h1 := r_sBlockOk b.length (cl .u8 b)
  unfold runRO
  cases h3 : decide (b.length = 8) with
  | false =>
    rw [h3] at h1
    simp (maxSteps := 4000000) -implicitDefEqProofs [tab37, a37, x_seq, x_cond, x_block, x_region, x_skip, x_exit, x_ret, head_id, runG, runOps, doOp, wantB, stepOp, AO.eff, pureOp, St.get, St.one, St.num, St.put, St.optNum, binA, binInt, List.take, List.drop, callRO, addMem_nil, roArgs, roL, roA, srcCells, A1.ownB, addMem, shift, ren, SV.map, Ob.map, Ob.noRo, SV.noRo, A1.noRo, List.range, List.range.loop, resOf, resSV, SV.map, SV.ids, A1.ids, reach, allObs, ren, pos, Ob.map, St.canon, memL, List.range, List.range.loop, effOp2, effOp, memL_app, stoRow, cellsAt, toCells, toCell, scalar_int, scalar_bool, scalar_str, scalar_sl, updAt, fromRo, upd, srcCells, A1.slB, flat_int, cl_flat', St.parts, Eng.inB, reps, fillA, newRowSt, appSt, oldOf, rest, kill, mapMem, SV.map, Ob.map, h1]
  | true =>
    rw [h3] at h1
    have h8 : b.length = 8 := by simpa using h3
    simp only [getOk, h3, Bool.true_and, Bool.and_eq_false_iff] at h
    rw [rng_not, rng_not] at h
    by_cases c1 : i < 0
    · simp (maxSteps := 4000000) -implicitDefEqProofs [tab37, a37, x_seq, x_cond, x_block, x_region, x_skip, x_exit, x_ret, head_id, runG, runOps, doOp, wantB, stepOp, AO.eff, pureOp, St.get, St.one, St.num, St.put, St.optNum, binA, binInt, List.take, List.drop, callRO, addMem_nil, roArgs, roL, roA, srcCells, A1.ownB, addMem, shift, ren, SV.map, Ob.map, Ob.noRo, SV.noRo, A1.noRo, List.range, List.range.loop, resOf, resSV, SV.map, SV.ids, A1.ids, reach, allObs, ren, pos, Ob.map, St.canon, memL, List.range, List.range.loop, effOp2, effOp, memL_app, stoRow, cellsAt, toCells, toCell, scalar_int, scalar_bool, scalar_str, scalar_sl, updAt, fromRo, upd, srcCells, A1.slB, flat_int, cl_flat', St.parts, Eng.inB, reps, fillA, newRowSt, appSt, oldOf, rest, kill, mapMem, SV.map, Ob.map, h1, c1]
    · by_cases c2 : n < 0
      · simp (maxSteps := 4000000) -implicitDefEqProofs [tab37, a37, x_seq, x_cond, x_block, x_region, x_skip, x_exit, x_ret, head_id, runG, runOps, doOp, wantB, stepOp, AO.eff, pureOp, St.get, St.one, St.num, St.put, St.optNum, binA, binInt, List.take, List.drop, callRO, addMem_nil, roArgs, roL, roA, srcCells, A1.ownB, addMem, shift, ren, SV.map, Ob.map, Ob.noRo, SV.noRo, A1.noRo, List.range, List.range.loop, resOf, resSV, SV.map, SV.ids, A1.ids, reach, allObs, ren, pos, Ob.map, St.canon, memL, List.range, List.range.loop, effOp2, effOp, memL_app, stoRow, cellsAt, toCells, toCell, scalar_int, scalar_bool, scalar_str, scalar_sl, updAt, fromRo, upd, srcCells, A1.slB, flat_int, cl_flat', St.parts, Eng.inB, reps, fillA, newRowSt, appSt, oldOf, rest, kill, mapMem, SV.map, Ob.map, h1, c1, c2]
      · by_cases c3 : (b.length : Int) < i
        · simp (maxSteps := 4000000) -implicitDefEqProofs [tab37, a37, x_seq, x_cond, x_block, x_region, x_skip, x_exit, x_ret, head_id, runG, runOps, doOp, wantB, stepOp, AO.eff, pureOp, St.get, St.one, St.num, St.put, St.optNum, binA, binInt, List.take, List.drop, callRO, addMem_nil, roArgs, roL, roA, srcCells, A1.ownB, addMem, shift, ren, SV.map, Ob.map, Ob.noRo, SV.noRo, A1.noRo, List.range, List.range.loop, resOf, resSV, SV.map, SV.ids, A1.ids, reach, allObs, ren, pos, Ob.map, St.canon, memL, List.range, List.range.loop, effOp2, effOp, memL_app, stoRow, cellsAt, toCells, toCell, scalar_int, scalar_bool, scalar_str, scalar_sl, updAt, fromRo, upd, srcCells, A1.slB, flat_int, cl_flat', St.parts, Eng.inB, reps, fillA, newRowSt, appSt, oldOf, rest, kill, mapMem, SV.map, Ob.map, h1, c1, c2, c3]
        · have c4 : IntKind.i64.wrap ((b.length : Int) - i) = (b.length : Int) - i := wrap_id (by omega) (by omega)
          have c5 : (b.length : Int) - i < n := by omega
          simp (maxSteps := 4000000) -implicitDefEqProofs [tab37, a37, x_seq, x_cond, x_block, x_region, x_skip, x_exit, x_ret, head_id, runG, runOps, doOp, wantB, stepOp, AO.eff, pureOp, St.get, St.one, St.num, St.put, St.optNum, binA, binInt, List.take, List.drop, callRO, addMem_nil, roArgs, roL, roA, srcCells, A1.ownB, addMem, shift, ren, SV.map, Ob.map, Ob.noRo, SV.noRo, A1.noRo, List.range, List.range.loop, resOf, resSV, SV.map, SV.ids, A1.ids, reach, allObs, ren, pos, Ob.map, St.canon, memL, List.range, List.range.loop, effOp2, effOp, memL_app, stoRow, cellsAt, toCells, toCell, scalar_int, scalar_bool, scalar_str, scalar_sl, updAt, fromRo, upd, srcCells, A1.slB, flat_int, cl_flat', St.parts, Eng.inB, reps, fillA, newRowSt, appSt, oldOf, rest, kill, mapMem, SV.map, Ob.map, h1, c1, c2, c3, c4, c5]
theorem r_sBlockGet (b : List Int) (i n : Int) (h : getOk b i n = true) : runRO (X tab) tab 37 [.v false [.ro b.length (cl .u8 b)], .v false [.int .i64 i], .v false [.int .i64 n]] =
    some (.v false [.sl 0 [] 0 (blockGet b i n).length], [.row 1 (cl .u8 (blockGet b i n))]) := by
  obtain ⟨h8, hi, hn, hi8, hn8, hlen, q1, q2⟩ := get_facts h
  have h1 := r_sBlockOk b.length (cl .u8 b)
  have h6 : decide (b.length = 8) = true := by simp [h8]
  rw [h6] at h1
  have h3 : IntKind.i64.wrap (i + n) = i + n := wrap_id (by omega) (by omega)
  have h4 : 0 ≤ i ∧ i ≤ i + n ∧ i + n ≤ (b.length : Int) := by omega
  have h5 : (i + n).toNat - i.toNat = n.toNat := by omega
  have h7 : ((cl .u8 b).drop i.toNat).take n.toNat = cl .u8 (blockGet b i n) := by rw [cl_drop, cl_take]; rfl
  have c1 : ¬ i < 0 := by omega
  have c2 : ¬ n < 0 := by omega
  have c3 : ¬ (b.length : Int) < i := by omega
  have c4 : IntKind.i64.wrap ((b.length : Int) - i) = (b.length : Int) - i := wrap_id (by omega) (by omega)
  have c5 : ¬ (b.length : Int) - i < n := by omega
  unfold runRO
  rw [hlen]
  by_cases he : n.toNat = 0
  · have he' : blockGet b i n = [] := List.eq_nil_of_length_eq_zero (by omega)
    simp (maxSteps := 4000000) -implicitDefEqProofs [tab37, a37, x_seq, x_cond, x_block, x_region, x_skip, x_exit, x_ret, head_id, runG, runOps, doOp, wantB, stepOp, AO.eff, pureOp, St.get, St.one, St.num, St.put, St.optNum, binA, binInt, List.take, List.drop, callRO, addMem_nil, roArgs, roL, roA, srcCells, A1.ownB, addMem, shift, ren, SV.map, Ob.map, Ob.noRo, SV.noRo, A1.noRo, List.range, List.range.loop, resOf, resSV, SV.map, SV.ids, A1.ids, reach, allObs, ren, pos, Ob.map, St.canon, memL, List.range, List.range.loop, effOp2, effOp, memL_app, stoRow, cellsAt, toCells, toCell, scalar_int, scalar_bool, scalar_str, scalar_sl, updAt, fromRo, upd, srcCells, A1.slB, flat_int, cl_flat', St.parts, Eng.inB, reps, fillA, newRowSt, appSt, oldOf, rest, kill, mapMem, SV.map, Ob.map, h1, h3, h4, h5, h7, cutB, c1, c2, c3, c4, c5, he, he', cl_nil]
  · have h9 : ((cl .u8 (blockGet b i n)).length) = n.toNat := by rw [cl_length, hlen]
    have h10 : (cl .u8 (blockGet b i n)).take n.toNat = cl .u8 (blockGet b i n) := by rw [← h9, List.take_length]
    have h11 : n.toNat ≤ 140737488355328 := by omega
    simp (maxSteps := 4000000) -implicitDefEqProofs [tab37, a37, x_seq, x_cond, x_block, x_region, x_skip, x_exit, x_ret, head_id, runG, runOps, doOp, wantB, stepOp, AO.eff, pureOp, St.get, St.one, St.num, St.put, St.optNum, binA, binInt, List.take, List.drop, callRO, addMem_nil, roArgs, roL, roA, srcCells, A1.ownB, addMem, shift, ren, SV.map, Ob.map, Ob.noRo, SV.noRo, A1.noRo, List.range, List.range.loop, resOf, resSV, SV.map, SV.ids, A1.ids, reach, allObs, ren, pos, Ob.map, St.canon, memL, List.range, List.range.loop, effOp2, effOp, memL_app, stoRow, cellsAt, toCells, toCell, scalar_int, scalar_bool, scalar_str, scalar_sl, updAt, fromRo, upd, srcCells, A1.slB, flat_int, cl_flat', St.parts, Eng.inB, reps, fillA, newRowSt, appSt, oldOf, rest, kill, mapMem, SV.map, Ob.map, h1, h3, h4, h5, h7, h9, h10, h11, cutB, c1, c2, c3, c4, c5, he, cl_flat]
end Go.Proofs.Ytnbgdddcbmlcpaa.Eng.A
