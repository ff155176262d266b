/- Blocks: puts that lie apart are the same in any order. -/
import Derived.Test.YtnbgdddcbmlcpaaAPut
import Derived.Test.YtnbgdddcbmlcpaaADraw17
import Derived.Test.YtnbgdddcbmlcpaaALaw
namespace Go.Proofs.Ytnbgdddcbmlcpaa.Eng.A
set_option linter.unusedSimpArgs false
set_option linter.unusedVariables false
set_option maxHeartbeats 8000000
set_option maxRecDepth 100000
open Go.RowKit Go.Proofs

def sameB (a b : List Int) : Bool := decide (a.length = 8) && decide (b.length = 8) && ((strOfNums a).toList == (strOfNums b).toList)
theorem r_BlockSame (a b : List Int) : runRO (X tab) tab 22 [.v false [.ro a.length (cl .u8 a)], .v false [.ro b.length (cl .u8 b)]] = some (.v false [.bool (sameB a b)], []) := by
  have h1 := r_BlockOk a.length (cl .u8 a)
  have h2 := r_BlockOk b.length (cl .u8 b)
  have eB : runRO (X tab) tab 50 [.v false [.ro a.length (cl .u8 a)], .v false [.ro b.length (cl .u8 b)]] = some (.v false [.bool ((strOfNums a).toList == (strOfNums b).toList)], []) := by
    unfold runRO
    simp (maxSteps := 4000000) -implicitDefEqProofs [tab50, a50, x_seq, x_cond, x_block, x_region, x_skip, x_exit, x_ret, head_id, runG, runOps, doOp, wantB, stepOp, AO.eff, pureOp, St.get, St.one, St.num, St.put, St.optNum, binA, binInt, List.take, List.drop, resOf, resSV, SV.map, SV.ids, A1.ids, reach, allObs, ren, pos, Ob.map, St.canon, memL, List.range, List.range.loop, srcCells, cl_self, cl_length, cl_nums, binStr]
  unfold runRO
  unfold sameB
  generalize hq : ((strOfNums a).toList == (strOfNums b).toList) = q at eB ⊢
  cases ha : decide (a.length = 8) with
  | false =>
    rw [ha] at h1
    simp (maxSteps := 4000000) -implicitDefEqProofs [tab22, a22, x_seq, x_cond, x_block, x_region, x_skip, x_exit, x_ret, head_id, runG, runOps, doOp, wantB, stepOp, AO.eff, pureOp, St.get, St.one, St.num, St.put, St.optNum, binA, binInt, List.take, List.drop, gOp, gRes, gEff, addObs_nil, addObs_one, freshB_memL, freshB_none, freshB_upd, freshB_addMem, freshB_addObs, callRO, addMem_nil, roArgs, roL, roA, srcCells, A1.ownB, addMem, shift, ren, SV.map, Ob.map, Ob.noRo, SV.noRo, A1.noRo, List.range, List.range.loop, resOf, resSV, SV.map, SV.ids, A1.ids, reach, allObs, ren, pos, Ob.map, St.canon, memL, List.range, List.range.loop, h1]
  | true =>
    rw [ha] at h1
    cases hb : decide (b.length = 8) with
    | false =>
      rw [hb] at h2
      simp (maxSteps := 4000000) -implicitDefEqProofs [tab22, a22, x_seq, x_cond, x_block, x_region, x_skip, x_exit, x_ret, head_id, runG, runOps, doOp, wantB, stepOp, AO.eff, pureOp, St.get, St.one, St.num, St.put, St.optNum, binA, binInt, List.take, List.drop, gOp, gRes, gEff, addObs_nil, addObs_one, freshB_memL, freshB_none, freshB_upd, freshB_addMem, freshB_addObs, callRO, addMem_nil, roArgs, roL, roA, srcCells, A1.ownB, addMem, shift, ren, SV.map, Ob.map, Ob.noRo, SV.noRo, A1.noRo, List.range, List.range.loop, resOf, resSV, SV.map, SV.ids, A1.ids, reach, allObs, ren, pos, Ob.map, St.canon, memL, List.range, List.range.loop, h1, h2]
    | true =>
      rw [hb] at h2
      simp (maxSteps := 4000000) -implicitDefEqProofs [tab22, a22, x_seq, x_cond, x_block, x_region, x_skip, x_exit, x_ret, head_id, runG, runOps, doOp, wantB, stepOp, AO.eff, pureOp, St.get, St.one, St.num, St.put, St.optNum, binA, binInt, List.take, List.drop, gOp, gRes, gEff, addObs_nil, addObs_one, freshB_memL, freshB_none, freshB_upd, freshB_addMem, freshB_addObs, callRO, addMem_nil, roArgs, roL, roA, srcCells, A1.ownB, addMem, shift, ren, SV.map, Ob.map, Ob.noRo, SV.noRo, A1.noRo, List.range, List.range.loop, resOf, resSV, SV.map, SV.ids, A1.ids, reach, allObs, ren, pos, Ob.map, St.canon, memL, List.range, List.range.loop, h1, h2, eB, cl_self, cl_length, cl_nums, binStr, hq]
theorem r_sBlockSame (a b : List Int) : runRO (X tab) tab 21 [.v false [.ro a.length (cl .u8 a)], .v false [.ro b.length (cl .u8 b)]] = some (.v false [.bool (sameB a b)], []) := by
  have h1 := r_sBlockOk a.length (cl .u8 a)
  have h2 := r_sBlockOk b.length (cl .u8 b)
  have eB : runRO (X tab) tab 50 [.v false [.ro a.length (cl .u8 a)], .v false [.ro b.length (cl .u8 b)]] = some (.v false [.bool ((strOfNums a).toList == (strOfNums b).toList)], []) := by
    unfold runRO
    simp (maxSteps := 4000000) -implicitDefEqProofs [tab50, a50, x_seq, x_cond, x_block, x_region, x_skip, x_exit, x_ret, head_id, runG, runOps, doOp, wantB, stepOp, AO.eff, pureOp, St.get, St.one, St.num, St.put, St.optNum, binA, binInt, List.take, List.drop, resOf, resSV, SV.map, SV.ids, A1.ids, reach, allObs, ren, pos, Ob.map, St.canon, memL, List.range, List.range.loop, srcCells, cl_self, cl_length, cl_nums, binStr]
  unfold runRO
  unfold sameB
  generalize hq : ((strOfNums a).toList == (strOfNums b).toList) = q at eB ⊢
  cases ha : decide (a.length = 8) with
  | false =>
    rw [ha] at h1
    simp (maxSteps := 4000000) -implicitDefEqProofs [tab21, a21, x_seq, x_cond, x_block, x_region, x_skip, x_exit, x_ret, head_id, runG, runOps, doOp, wantB, stepOp, AO.eff, pureOp, St.get, St.one, St.num, St.put, St.optNum, binA, binInt, List.take, List.drop, gOp, gRes, gEff, addObs_nil, addObs_one, freshB_memL, freshB_none, freshB_upd, freshB_addMem, freshB_addObs, callRO, addMem_nil, roArgs, roL, roA, srcCells, A1.ownB, addMem, shift, ren, SV.map, Ob.map, Ob.noRo, SV.noRo, A1.noRo, List.range, List.range.loop, resOf, resSV, SV.map, SV.ids, A1.ids, reach, allObs, ren, pos, Ob.map, St.canon, memL, List.range, List.range.loop, h1]
  | true =>
    rw [ha] at h1
    cases hb : decide (b.length = 8) with
    | false =>
      rw [hb] at h2
      simp (maxSteps := 4000000) -implicitDefEqProofs [tab21, a21, x_seq, x_cond, x_block, x_region, x_skip, x_exit, x_ret, head_id, runG, runOps, doOp, wantB, stepOp, AO.eff, pureOp, St.get, St.one, St.num, St.put, St.optNum, binA, binInt, List.take, List.drop, gOp, gRes, gEff, addObs_nil, addObs_one, freshB_memL, freshB_none, freshB_upd, freshB_addMem, freshB_addObs, callRO, addMem_nil, roArgs, roL, roA, srcCells, A1.ownB, addMem, shift, ren, SV.map, Ob.map, Ob.noRo, SV.noRo, A1.noRo, List.range, List.range.loop, resOf, resSV, SV.map, SV.ids, A1.ids, reach, allObs, ren, pos, Ob.map, St.canon, memL, List.range, List.range.loop, h1, h2]
    | true =>
      rw [hb] at h2
      simp (maxSteps := 4000000) -implicitDefEqProofs [tab21, a21, x_seq, x_cond, x_block, x_region, x_skip, x_exit, x_ret, head_id, runG, runOps, doOp, wantB, stepOp, AO.eff, pureOp, St.get, St.one, St.num, St.put, St.optNum, binA, binInt, List.take, List.drop, gOp, gRes, gEff, addObs_nil, addObs_one, freshB_memL, freshB_none, freshB_upd, freshB_addMem, freshB_addObs, callRO, addMem_nil, roArgs, roL, roA, srcCells, A1.ownB, addMem, shift, ren, SV.map, Ob.map, Ob.noRo, SV.noRo, A1.noRo, List.range, List.range.loop, resOf, resSV, SV.map, SV.ids, A1.ids, reach, allObs, ren, pos, Ob.map, St.canon, memL, List.range, List.range.loop, h1, h2, eB, cl_self, cl_length, cl_nums, binStr, hq]
theorem r_BlockSame_nil : runRO (X tab) tab 22 [.v false [.nil], .v false [.nil]] = some (.v false [.bool false], []) := runRO_mono (exec_le_X 60) (by kernel_rfl)
theorem r_BlockPut_nil (i : Int) (d : List Int) : runRO (X tab) tab 40 [.v false [.nil], .v false [.int .i64 i], .v false [.ro d.length (cl .u8 d)]] = some (.v false [.nil], []) := by
  have h1 : runRO (X tab) tab 61 [.v false [.nil]] = some (.v false [.nil], []) := runRO_mono (exec_le_X 60) (by kernel_rfl)
  have h2 : runRO (X tab) tab 19 [.v false [.nil]] = some (.v false [.bool false], []) := runRO_mono (exec_le_X 60) (by kernel_rfl)
  unfold runRO
  simp (maxSteps := 4000000) -implicitDefEqProofs [tab40, a40, x_seq, x_cond, x_block, x_region, x_skip, x_exit, x_ret, head_id, runG, runOps, doOp, wantB, stepOp, AO.eff, pureOp, St.get, St.one, St.num, St.put, St.optNum, binA, binInt, List.take, List.drop, callRO, addMem_nil, roArgs, roL, roA, srcCells, A1.ownB, addMem, shift, ren, SV.map, Ob.map, Ob.noRo, SV.noRo, A1.noRo, List.range, List.range.loop, resOf, resSV, SV.map, SV.ids, A1.ids, reach, allObs, ren, pos, Ob.map, St.canon, memL, List.range, List.range.loop, h1, h2]
theorem put_apart (b : List Int) (h8 : b.length = 8) (i j : Nat) (hi : i < 3) (hj : j < 3) (y1 y2 y3 : Int) :
    putPart (putPart b i [y1, y2] 2) (i + 2 + j) [y3] 1 = putPart (putPart b (i + 2 + j) [y3] 1) i [y1, y2] 2 := by
  obtain ⟨a0, a1, a2, a3, a4, a5, a6, a7, rfl⟩ : ∃ a0 a1 a2 a3 a4 a5 a6 a7, b = [a0, a1, a2, a3, a4, a5, a6, a7] := by
    match b, h8 with
    | [a0, a1, a2, a3, a4, a5, a6, a7], _ => exact ⟨a0, a1, a2, a3, a4, a5, a6, a7, rfl⟩
  have hi' : i = 0 ∨ i = 1 ∨ i = 2 := by omega
  have hj' : j = 0 ∨ j = 1 ∨ j = 2 := by omega
  rcases hi' with rfl | rfl | rfl <;> rcases hj' with rfl | rfl | rfl <;> rfl
theorem getOk_rng {b : List Int} {i n : Int} (h8 : b.length = 8) (h1 : 0 ≤ i) (h2 : i ≤ 8) (h3 : 0 ≤ n) (h4 : n ≤ 8 - i) : getOk b i n = true := by
  simp only [getOk, h8, decide_true, Bool.true_and, Bool.and_eq_true]
  exact ⟨rng_iff.2 ⟨h1, h2⟩, rng_iff.2 ⟨h3, h4⟩⟩
theorem getOk_not {b : List Int} {i n : Int} (h8 : ¬ b.length = 8) : getOk b i n = false := by simp [getOk, h8]
theorem law_FnBlocksApart (l : List Int) (hn : l.length ≤ 140737488351232) (hw : ∀ x ∈ l, (Lit.int .u8 x).wf = true) :
    runRO (X tab) tab 13 [.v false [.ro l.length (cl .u8 l)]] = some (.v false [.bool true], []) := by
  have hb := r_big l
  by_cases hbig : (1048576 : Int) < (l.length : Int)
  · rw [decide_eq_true hbig] at hb
    unfold runRO
    simp (maxSteps := 4000000) -implicitDefEqProofs [tab13, a13, x_seq, x_cond, x_block, x_region, x_skip, x_exit, x_ret, head_id, runG, runOps, doOp, wantB, stepOp, AO.eff, pureOp, St.get, St.one, St.num, St.put, St.optNum, binA, binInt, List.take, List.drop, callRO, addMem_nil, roArgs, roL, roA, srcCells, A1.ownB, addMem, shift, ren, SV.map, Ob.map, Ob.noRo, SV.noRo, A1.noRo, List.range, List.range.loop, resOf, resSV, SV.map, SV.ids, A1.ids, reach, allObs, ren, pos, Ob.map, St.canon, memL, List.range, List.range.loop, hb]
  · rw [decide_eq_false hbig] at hb
    have hl : l.length ≤ 1048576 := by omega
    obtain ⟨b, k0, d, ⟨hbl, hdl, _⟩, e0⟩ := r_DrawBlockPut l hl
    obtain ⟨x1, hx1, t1⟩ := r_at l hl hw 1 (by omega)
    obtain ⟨x2, hx2, t2⟩ := r_at l hl hw 2 (by omega)
    obtain ⟨x3, hx3, t3⟩ := r_at l hl hw 3 (by omega)
    obtain ⟨x4, hx4, t4⟩ := r_at l hl hw 4 (by omega)
    obtain ⟨x5, hx5, t5⟩ := r_at l hl hw 5 (by omega)
    obtain ⟨i, hi⟩ : ∃ i : Nat, x4.tmod 3 = i := ⟨(x4.tmod 3).toNat, by have := Int.tmod_nonneg 3 hx4.1; omega⟩
    obtain ⟨j, hj⟩ : ∃ j : Nat, x5.tmod 3 = j := ⟨(x5.tmod 3).toNat, by have := Int.tmod_nonneg 3 hx5.1; omega⟩
    have hi3 : i < 3 := by have := Int.tmod_lt_of_pos x4 (b := 3) (by omega); omega
    have hj3 : j < 3 := by have := Int.tmod_lt_of_pos x5 (b := 3) (by omega); omega
    have w1 : IntKind.i64.wrap ((i : Int) + 2) = (i : Int) + 2 := wrap_id (by omega) (by omega)
    have w2 : IntKind.i64.wrap ((i : Int) + 2 + (j : Int)) = ((i + 2 + j : Nat) : Int) := by rw [wrap_id (by omega) (by omega)]; omega
    simp only [Int.cast_ofNat_Int] at t1 t2 t3 t4 t5
    generalize hy1 : IntKind.u8.wrap x1 = y1
    generalize hy2 : IntKind.u8.wrap x2 = y2
    generalize hy3 : IntKind.u8.wrap x3 = y3
    have c2 : ∀ a b : Int, cl .u8 [a, b] = [.int .u8 a, .int .u8 b] := fun _ _ => rfl
    have c1 : ∀ a : Int, cl .u8 [a] = [.int .u8 a] := fun _ => rfl
    have ok := r_BlockOk b.length (cl .u8 b)
    generalize hk : i + 2 + j = k at w2
    have u1 : (cl .u8 b).take b.length = cl .u8 b := cl_self
    by_cases h8 : b.length = 8
    · rw [decide_eq_true h8] at ok
      have o1 : getOk b i ([y1, y2].length : Nat) = true := getOk_rng h8 (by omega) (by omega) (by simp) (by simp; omega)
      have o2 : getOk b k ([y3].length : Nat) = true := getOk_rng h8 (by omega) (by omega) (by simp) (by simp; omega)
      have g1 := r_BlockPut b i [y1, y2] o1
      have g2 := r_BlockPut b k [y3] o2
      have hl1 : (putPart b i [y1, y2] 2).length = 8 := by rw [putPart_length (by simp; omega) (by simp)]; exact h8
      have hl2 : (putPart b k [y3] 1).length = 8 := by rw [putPart_length (by simp; omega) (by simp)]; exact h8
      have o3 : getOk (putPart b i [y1, y2] 2) k ([y3].length : Nat) = true := getOk_rng hl1 (by omega) (by omega) (by simp) (by simp; omega)
      have o4 : getOk (putPart b k [y3] 1) i ([y1, y2].length : Nat) = true := getOk_rng hl2 (by omega) (by omega) (by simp) (by simp; omega)
      have g3 := r_BlockPut _ k [y3] o3
      have g4 := r_BlockPut _ i [y1, y2] o4
      have hq := put_apart b h8 i j hi3 hj3 y1 y2 y3
      rw [hk] at hq
      simp only [Int.toNat_natCast, List.length_cons, List.length_nil, c1, c2, Nat.zero_add, Nat.reduceAdd, hl1, hl2, h8] at g1 g2 g3 g4
      have hl3 : (putPart (putPart b k [y3] 1) i [y1, y2] 2).length = 8 := by rw [putPart_length (by rw [hl2]; simp; omega) (by simp)]; exact hl2
      rw [hq] at g3
      generalize putPart (putPart b k [y3] 1) i [y1, y2] 2 = z at g3 g4 hl3
      generalize putPart b k [y3] 1 = p at g2 g4 hl2
      generalize putPart b i [y1, y2] 2 = q at g1 g3 hl1
      have u2 : (cl .u8 p).take 8 = cl .u8 p := by rw [← hl2, cl_self]
      have u3 : (cl .u8 q).take 8 = cl .u8 q := by rw [← hl1, cl_self]
      have u4 : (cl .u8 z).take 8 = cl .u8 z := by rw [← hl3, cl_self]
      have v2 : (cl .u8 p).length = 8 := by rw [cl_length, hl2]
      have v3 : (cl .u8 q).length = 8 := by rw [cl_length, hl1]
      have v4 : (cl .u8 z).length = 8 := by rw [cl_length, hl3]
      have v1 : (cl .u8 b).length = 8 := by rw [cl_length, h8]
      rw [h8] at u1 ok e0
      have s1 := r_BlockSame z z
      rw [hl3] at s1
      have s2 : sameB z z = true := by simp [sameB, hl3]
      rw [s2] at s1
      unfold runRO
      simp (maxSteps := 4000000) -implicitDefEqProofs [tab13, a13, x_seq, x_cond, x_block, x_region, x_skip, x_exit, x_ret, head_id, runG, runOps, doOp, wantB, stepOp, AO.eff, pureOp, St.get, St.one, St.num, St.put, St.optNum, binA, binInt, List.take, List.drop, gOp, gRes, gEff, addObs_nil, addObs_one, freshB_memL, freshB_none, freshB_upd, freshB_addMem, freshB_addObs, effOp2, effOp, memL_app, stoRow, cellsAt, toCells, toCell, scalar_int, scalar_bool, scalar_str, scalar_sl, updAt, fromRo, upd, srcCells, A1.slB, flat_int, cl_flat', St.parts, Eng.inB, reps, fillA, newRowSt, appSt, oldOf, rest, kill, mapMem, SV.map, Ob.map, callRO, addMem_nil, roArgs, roL, roA, srcCells, A1.ownB, addMem, shift, ren, SV.map, Ob.map, Ob.noRo, SV.noRo, A1.noRo, List.range, List.range.loop, resOf, resSV, SV.map, SV.ids, A1.ids, reach, allObs, ren, pos, Ob.map, St.canon, memL, List.range, List.range.loop, hb, e0, t1, t2, t3, t4, t5, hi, hj, w1, w2, hy1, hy2, hy3, ok, g1, g2, g3, g4, s1, u1, u2, u3, u4, v1, v2, v3, v4, cl_nums, binStr]
    · rw [decide_eq_false h8] at ok
      have o1 : getOk b i ([y1, y2].length : Nat) = false := getOk_not h8
      have o2 : getOk b k ([y3].length : Nat) = false := getOk_not h8
      have g1 := r_BlockPut_bad b i [y1, y2] (by omega) o1
      have g2 := r_BlockPut_bad b k [y3] (by omega) o2
      simp only [List.length_cons, List.length_nil, c1, c2, Nat.zero_add, Nat.reduceAdd] at g1 g2
      by_cases he : b = []
      · subst he
        rw [if_pos rfl] at g1 g2
        have g3 := r_BlockPut_nil k [y3]
        have g4 := r_BlockPut_nil i [y1, y2]
        simp only [List.length_cons, List.length_nil, c1, c2, Nat.zero_add, Nat.reduceAdd, cl_nil] at g1 g2 g3 g4 ok e0
        have s1 := r_BlockSame_nil
        unfold runRO
        simp (maxSteps := 4000000) -implicitDefEqProofs [tab13, a13, x_seq, x_cond, x_block, x_region, x_skip, x_exit, x_ret, head_id, runG, runOps, doOp, wantB, stepOp, AO.eff, pureOp, St.get, St.one, St.num, St.put, St.optNum, binA, binInt, List.take, List.drop, gOp, gRes, gEff, addObs_nil, addObs_one, freshB_memL, freshB_none, freshB_upd, freshB_addMem, freshB_addObs, effOp2, effOp, memL_app, stoRow, cellsAt, toCells, toCell, scalar_int, scalar_bool, scalar_str, scalar_sl, updAt, fromRo, upd, srcCells, A1.slB, flat_int, cl_flat', St.parts, Eng.inB, reps, fillA, newRowSt, appSt, oldOf, rest, kill, mapMem, SV.map, Ob.map, callRO, addMem_nil, roArgs, roL, roA, srcCells, A1.ownB, addMem, shift, ren, SV.map, Ob.map, Ob.noRo, SV.noRo, A1.noRo, List.range, List.range.loop, resOf, resSV, SV.map, SV.ids, A1.ids, reach, allObs, ren, pos, Ob.map, St.canon, memL, List.range, List.range.loop, hb, e0, t1, t2, t3, t4, t5, hi, hj, w1, w2, hy1, hy2, hy3, ok, g1, g2, g3, g4, s1, numsOfCells, binStr]
      · rw [if_neg he] at g1 g2
        have s1 := r_BlockSame b b
        have s2 : sameB b b = false := by simp [sameB, h8]
        rw [s2] at s1
        have v1 : (cl .u8 b).length = b.length := cl_length
        unfold runRO
        simp (maxSteps := 4000000) -implicitDefEqProofs [tab13, a13, x_seq, x_cond, x_block, x_region, x_skip, x_exit, x_ret, head_id, runG, runOps, doOp, wantB, stepOp, AO.eff, pureOp, St.get, St.one, St.num, St.put, St.optNum, binA, binInt, List.take, List.drop, gOp, gRes, gEff, addObs_nil, addObs_one, freshB_memL, freshB_none, freshB_upd, freshB_addMem, freshB_addObs, effOp2, effOp, memL_app, stoRow, cellsAt, toCells, toCell, scalar_int, scalar_bool, scalar_str, scalar_sl, updAt, fromRo, upd, srcCells, A1.slB, flat_int, cl_flat', St.parts, Eng.inB, reps, fillA, newRowSt, appSt, oldOf, rest, kill, mapMem, SV.map, Ob.map, callRO, addMem_nil, roArgs, roL, roA, srcCells, A1.ownB, addMem, shift, ren, SV.map, Ob.map, Ob.noRo, SV.noRo, A1.noRo, List.range, List.range.loop, resOf, resSV, SV.map, SV.ids, A1.ids, reach, allObs, ren, pos, Ob.map, St.canon, memL, List.range, List.range.loop, hb, e0, t1, t2, t3, t4, t5, hi, hj, w1, w2, hy1, hy2, hy3, ok, g1, g2, s1, u1, v1, cl_nums, binStr]
end Go.Proofs.Ytnbgdddcbmlcpaa.Eng.A
