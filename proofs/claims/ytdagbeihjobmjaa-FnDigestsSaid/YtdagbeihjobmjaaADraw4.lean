/- Draws: images, and what is drawn of digests. -/
import Derived.Test.YtdagbeihjobmjaaADraw2
import Derived.Test.YtdagbeihjobmjaaADig2
namespace Go.Proofs.Ytdagbeihjobmjaa.Eng.A
set_option linter.unusedSimpArgs false
set_option linter.unusedVariables false
set_option maxHeartbeats 8000000
set_option maxRecDepth 100000
open Go.RowKit Go.Proofs

theorem r_ImageNew : runRO (X tab) tab 126 [] = some (.v false [.sl 0 [] 0 8], [.row 1 (cl .i64 [0, 0, 0, 0, 0, 0, 0, 0])]) := runRO_mono (exec_le_X 20) (by kernel_rfl)
def S_Image (l : List Int) (s : Nat × List Int × Nat × Int) : XS := ⟨⟨[.v false [.pr 0 [] 0], .bad, .bad, .v false [.sl 1 [] 0 8], .v false [.int .i64 (s.1)], .bad, .bad, .bad, .bad, .bad, .bad, .bad, .bad, .bad, .bad, .bad, .bad, .bad, .bad, .bad, .bad, .bad, .bad, .bad, .bad, .bad, .bad, .bad, .bad, .bad, .bad, .bad, .bad, .bad, .bad, .bad, .bad], memL [some (.box [.ro l.length (cl .u8 l), .int .i64 s.2.2.1, .int .i64 s.2.2.2]), some (.row 1 (cl .i64 s.2.1))], [.v false [.pr 0 [] 0]]⟩, 2⟩
def Q_Image (l : List Int) (r : AE × XS) : Prop := ∃ (ws : List Int) (i : Nat) (h : Int), ws.length = 8 ∧ r = (.exit 0, ⟨⟨[.v false [.pr 0 [] 0], .bad, .bad, .v false [.sl 1 [] 0 8], .bad, .bad, .bad, .bad, .bad, .bad, .bad, .bad, .bad, .bad, .bad, .bad, .bad, .bad, .bad, .bad, .bad, .bad, .bad, .bad, .bad, .bad, .bad, .bad, .bad, .bad, .bad, .bad, .bad, .bad, .bad, .bad, .bad], memL [some (.box [.ro l.length (cl .u8 l), .int .i64 i, .int .i64 h]), some (.row 1 (cl .i64 ws))], [.v false [.pr 0 [] 0]]⟩, 2⟩)
theorem loop_Image (l : List Int) (hl : l.length ≤ 1048576) (i0 : Nat) (h0 : Int) : ∃ r, Q_Image l r ∧ ∀ x, head true d86_0 x = S_Image l (0, [0, 0, 0, 0, 0, 0, 0, 0], i0, h0) → X tab l86_0 x = some r := by
  refine loopE (S_Image l) (fun s => 6 - s.1) (fun s => s.1 ≤ 6 ∧ s.2.1.length = 8) (Q_Image l) (fun ⟨k, ws, i, h⟩ ⟨hk, hlen⟩ => ?_) (0, [0, 0, 0, 0, 0, 0, 0, 0], i0, h0) (by simp)
  simp only at hk hlen
  obtain ⟨x1, i1, g1, ⟨b1, c1⟩, e1⟩ := r_l1Below l hl i h 6
  have c1 := c1 (by omega)
  by_cases hlt : (k : Int) < x1
  · obtain ⟨x2, i2, g2, ⟨b2, c2⟩, e2⟩ := r_l1Below l hl i1 g1 8
    have c2 := c2 (by omega)
    obtain ⟨x3, i3, g3, ⟨b3, c3⟩, e3⟩ := r_l1Below l hl i2 g2 9
    obtain ⟨j, rfl⟩ : ∃ j : Nat, x2 = j := ⟨x2.toNat, by omega⟩
    have hj : j < 8 := by omega
    have h4 : IntKind.i64.wrap ((k : Int) + 1) = ((k + 1 : Nat) : Int) := by rw [wrap_id (by omega) (by omega)]; omega
    have a2 : (cl .i64 ws).length = 8 := by rw [cl_length]; exact hlen
    have a3 : spl [Cell.int .i64 x3] j (cl .i64 ws) = cl .i64 (ws.set j x3) := cl_spl (by omega)
    have a4 : j + 1 ≤ 8 := by omega
    have hj8 : (j : Int) < 8 := by omega
    left
    simp (maxSteps := 4000000) -implicitDefEqProofs [b86_0, S_Image, x_seq, x_cond, x_block, x_region, x_skip, x_exit, x_ret, head_id, runG, runOps, doOp, wantB, stepOp, AO.eff, pureOp, St.get, St.one, St.num, St.put, St.optNum, binA, binInt, List.take, List.drop, effOp2, effOp, memL_app, stoRow, cellsAt, toCells, toCell, scalar_int, scalar_bool, scalar_str, scalar_sl, updAt, fromRo, upd, callLend, lendBox, A1.ids, roArgs, roL, roA, A1.ownB, addMem_nil, List.range, List.range.loop, SV.map, ren, shift, upd, memL_app, e1, e2, e3, hlt, h4, a2, a3, a4, hj, hj8, -Prod.exists]
    refine ⟨(k + 1, ws.set j x3, i3, g3), ?_, by simp only; omega, by simp only; omega, by simpa using hlen⟩
    change _ = _
    kernel_rfl
  · right
    simp (maxSteps := 4000000) -implicitDefEqProofs [b86_0, S_Image, x_seq, x_cond, x_block, x_region, x_skip, x_exit, x_ret, head_id, runG, runOps, doOp, wantB, stepOp, AO.eff, pureOp, St.get, St.one, St.num, St.put, St.optNum, binA, binInt, List.take, List.drop, effOp2, effOp, memL_app, stoRow, cellsAt, toCells, toCell, scalar_int, scalar_bool, scalar_str, scalar_sl, updAt, fromRo, upd, callLend, lendBox, A1.ids, roArgs, roL, roA, A1.ownB, addMem_nil, List.range, List.range.loop, SV.map, ren, shift, upd, memL_app, e1, hlt, -Prod.exists]
    exact ⟨ws, i1, g1, hlen, by change _ = _; kernel_rfl⟩
theorem r_l2DrawImage (l : List Int) (hl : l.length ≤ 1048576) (i : Nat) (h : Int) :
    ∃ (ws im : List Int) (i' : Nat) (h' : Int), (3 ≤ im.length ∧ im.length ≤ ws.length ∧ ws.length ≤ 9 ∧ ws.take im.length = im) ∧ runLend (X tab) tab 86 [.ro l.length (cl .u8 l), .int .i64 i, .int .i64 h] [] = some (.v false [.sl 0 [] 0 im.length], [.ro l.length (cl .u8 l), .int .i64 i', .int .i64 h'], [.row 1 (cl .i64 ws)]) := by
  obtain ⟨r, ⟨ws, i1, g1, hws, rfl⟩, hr⟩ := loop_Image l hl i h
  have hnew := r_ImageNew
  have a2 : (cl .i64 ws).length = 8 := by rw [cl_length]; exact hws
  obtain ⟨x2, i2, g2, ⟨b2, c2⟩, e2⟩ := r_l1Below l hl i1 g1 12
  by_cases h0 : x2 = 0
  · subst h0
    refine ⟨ws ++ [1], ws ++ [1], i2, g2, ⟨by simp; omega, by simp, by simp; omega, by rw [List.take_length]⟩, ?_⟩
    have a3 : (ws ++ [1]).length = 9 := by simp; omega
    rw [a3]
    unfold runLend
    simp (maxSteps := 4000000) -implicitDefEqProofs [tab86, a86, lendEnd, x_seq, x_cond, x_block, x_region, x_skip, x_exit, x_ret, head_id, runG, runOps, doOp, wantB, stepOp, AO.eff, pureOp, St.get, St.one, St.num, St.put, St.optNum, binA, binInt, List.take, List.drop, effOp2, effOp, memL_app, stoRow, cellsAt, toCells, toCell, scalar_int, scalar_bool, scalar_str, scalar_sl, updAt, fromRo, upd, srcCells, A1.slB, flat_int, cl_flat', St.parts, Eng.inB, reps, fillA, newRowSt, appSt, oldOf, rest, kill, mapMem, SV.map, Ob.map, callRO, addMem_nil, roArgs, roL, roA, srcCells, A1.ownB, addMem, shift, ren, SV.map, Ob.map, Ob.noRo, SV.noRo, A1.noRo, List.range, List.range.loop, callLend, lendBox, A1.ids, roArgs, roL, roA, A1.ownB, addMem_nil, List.range, List.range.loop, SV.map, ren, shift, upd, memL_app, hnew]
    rw [hr _ (by change _ = _; kernel_rfl)]
    simp (maxSteps := 4000000) -implicitDefEqProofs [x_seq, x_cond, x_block, x_region, x_skip, x_exit, x_ret, head_id, runG, runOps, doOp, wantB, stepOp, AO.eff, pureOp, St.get, St.one, St.num, St.put, St.optNum, binA, binInt, List.take, List.drop, effOp2, effOp, memL_app, stoRow, cellsAt, toCells, toCell, scalar_int, scalar_bool, scalar_str, scalar_sl, updAt, fromRo, upd, srcCells, A1.slB, flat_int, cl_flat', St.parts, Eng.inB, reps, fillA, newRowSt, appSt, oldOf, rest, kill, mapMem, SV.map, Ob.map, callRO, addMem_nil, roArgs, roL, roA, srcCells, A1.ownB, addMem, shift, ren, SV.map, Ob.map, Ob.noRo, SV.noRo, A1.noRo, List.range, List.range.loop, callLend, lendBox, A1.ids, roArgs, roL, roA, A1.ownB, addMem_nil, List.range, List.range.loop, SV.map, ren, shift, upd, memL_app, resOf, resSV, SV.map, SV.ids, A1.ids, reach, allObs, ren, pos, Ob.map, St.canon, memL, List.range, List.range.loop, e2, a2, hws, cl_app1]
  · have n0 : (x2 == 0) = false := by rw [beq_eq_false_iff_ne]; exact h0
    by_cases h1 : x2 = 1
    · subst h1
      obtain ⟨y, i3, g3, hy, e3⟩ := r_l1PickInt l hl i2 g2 [-1, 200, 201] (by simp) (by simp)
      have c1 : ∀ a b c : Int, cl .i64 [a, b, c] = [.int .i64 a, .int .i64 b, .int .i64 c] := fun _ _ _ => rfl
      rw [c1] at e3
      simp only [List.length_cons, List.length_nil] at e3
      have a3 : spl [Cell.int .i64 y] 0 (cl .i64 ws) = cl .i64 (ws.set 0 y) := cl_spl (by omega)
      refine ⟨ws.set 0 y, ws.set 0 y, i3, g3, ⟨by simp; omega, by simp, by simp; omega, by rw [List.take_length]⟩, ?_⟩
      rw [List.length_set, hws]
      unfold runLend
      simp (maxSteps := 4000000) -implicitDefEqProofs [tab86, a86, lendEnd, x_seq, x_cond, x_block, x_region, x_skip, x_exit, x_ret, head_id, runG, runOps, doOp, wantB, stepOp, AO.eff, pureOp, St.get, St.one, St.num, St.put, St.optNum, binA, binInt, List.take, List.drop, effOp2, effOp, memL_app, stoRow, cellsAt, toCells, toCell, scalar_int, scalar_bool, scalar_str, scalar_sl, updAt, fromRo, upd, srcCells, A1.slB, flat_int, cl_flat', St.parts, Eng.inB, reps, fillA, newRowSt, appSt, oldOf, rest, kill, mapMem, SV.map, Ob.map, callRO, addMem_nil, roArgs, roL, roA, srcCells, A1.ownB, addMem, shift, ren, SV.map, Ob.map, Ob.noRo, SV.noRo, A1.noRo, List.range, List.range.loop, callLend, lendBox, A1.ids, roArgs, roL, roA, A1.ownB, addMem_nil, List.range, List.range.loop, SV.map, ren, shift, upd, memL_app, hnew]
      rw [hr _ (by change _ = _; kernel_rfl)]
      simp (maxSteps := 4000000) -implicitDefEqProofs [x_seq, x_cond, x_block, x_region, x_skip, x_exit, x_ret, head_id, runG, runOps, doOp, wantB, stepOp, AO.eff, pureOp, St.get, St.one, St.num, St.put, St.optNum, binA, binInt, List.take, List.drop, effOp2, effOp, memL_app, stoRow, cellsAt, toCells, toCell, scalar_int, scalar_bool, scalar_str, scalar_sl, updAt, fromRo, upd, srcCells, A1.slB, flat_int, cl_flat', St.parts, Eng.inB, reps, fillA, newRowSt, appSt, oldOf, rest, kill, mapMem, SV.map, Ob.map, callRO, addMem_nil, roArgs, roL, roA, srcCells, A1.ownB, addMem, shift, ren, SV.map, Ob.map, Ob.noRo, SV.noRo, A1.noRo, List.range, List.range.loop, callLend, lendBox, A1.ids, roArgs, roL, roA, A1.ownB, addMem_nil, List.range, List.range.loop, SV.map, ren, shift, upd, memL_app, resOf, resSV, SV.map, SV.ids, A1.ids, reach, allObs, ren, pos, Ob.map, St.canon, memL, List.range, List.range.loop, getAll, e2, e3, a2, a3, hws]
    · have n1 : (x2 == 1) = false := by rw [beq_eq_false_iff_ne]; exact h1
      by_cases h2 : x2 = 2
      · subst h2
        refine ⟨ws, ws.take 3, i2, g2, ⟨by simp; omega, by rw [List.length_take]; omega, by omega, by simp⟩, ?_⟩
        have a3 : (ws.take 3).length = 3 := by simp; omega
        have hcut : cutB 8 none (some 3) = some (0, 3) := by decide
        rw [a3]
        unfold runLend
        simp (maxSteps := 4000000) -implicitDefEqProofs [tab86, a86, lendEnd, x_seq, x_cond, x_block, x_region, x_skip, x_exit, x_ret, head_id, runG, runOps, doOp, wantB, stepOp, AO.eff, pureOp, St.get, St.one, St.num, St.put, St.optNum, binA, binInt, List.take, List.drop, effOp2, effOp, memL_app, stoRow, cellsAt, toCells, toCell, scalar_int, scalar_bool, scalar_str, scalar_sl, updAt, fromRo, upd, srcCells, A1.slB, flat_int, cl_flat', St.parts, Eng.inB, reps, fillA, newRowSt, appSt, oldOf, rest, kill, mapMem, SV.map, Ob.map, callRO, addMem_nil, roArgs, roL, roA, srcCells, A1.ownB, addMem, shift, ren, SV.map, Ob.map, Ob.noRo, SV.noRo, A1.noRo, List.range, List.range.loop, callLend, lendBox, A1.ids, roArgs, roL, roA, A1.ownB, addMem_nil, List.range, List.range.loop, SV.map, ren, shift, upd, memL_app, hnew]
        rw [hr _ (by change _ = _; kernel_rfl)]
        simp (maxSteps := 4000000) -implicitDefEqProofs [x_seq, x_cond, x_block, x_region, x_skip, x_exit, x_ret, head_id, runG, runOps, doOp, wantB, stepOp, AO.eff, pureOp, St.get, St.one, St.num, St.put, St.optNum, binA, binInt, List.take, List.drop, effOp2, effOp, memL_app, stoRow, cellsAt, toCells, toCell, scalar_int, scalar_bool, scalar_str, scalar_sl, updAt, fromRo, upd, srcCells, A1.slB, flat_int, cl_flat', St.parts, Eng.inB, reps, fillA, newRowSt, appSt, oldOf, rest, kill, mapMem, SV.map, Ob.map, callRO, addMem_nil, roArgs, roL, roA, srcCells, A1.ownB, addMem, shift, ren, SV.map, Ob.map, Ob.noRo, SV.noRo, A1.noRo, List.range, List.range.loop, callLend, lendBox, A1.ids, roArgs, roL, roA, A1.ownB, addMem_nil, List.range, List.range.loop, SV.map, ren, shift, upd, memL_app, resOf, resSV, SV.map, SV.ids, A1.ids, reach, allObs, ren, pos, Ob.map, St.canon, memL, List.range, List.range.loop, e2, a2, hws, hcut, szOk]
      · have n2 : (x2 == 2) = false := by rw [beq_eq_false_iff_ne]; exact h2
        refine ⟨ws, ws, i2, g2, ⟨by omega, by omega, by omega, by rw [List.take_length]⟩, ?_⟩
        rw [hws]
        unfold runLend
        simp (maxSteps := 4000000) -implicitDefEqProofs [tab86, a86, lendEnd, x_seq, x_cond, x_block, x_region, x_skip, x_exit, x_ret, head_id, runG, runOps, doOp, wantB, stepOp, AO.eff, pureOp, St.get, St.one, St.num, St.put, St.optNum, binA, binInt, List.take, List.drop, effOp2, effOp, memL_app, stoRow, cellsAt, toCells, toCell, scalar_int, scalar_bool, scalar_str, scalar_sl, updAt, fromRo, upd, srcCells, A1.slB, flat_int, cl_flat', St.parts, Eng.inB, reps, fillA, newRowSt, appSt, oldOf, rest, kill, mapMem, SV.map, Ob.map, callRO, addMem_nil, roArgs, roL, roA, srcCells, A1.ownB, addMem, shift, ren, SV.map, Ob.map, Ob.noRo, SV.noRo, A1.noRo, List.range, List.range.loop, callLend, lendBox, A1.ids, roArgs, roL, roA, A1.ownB, addMem_nil, List.range, List.range.loop, SV.map, ren, shift, upd, memL_app, hnew]
        rw [hr _ (by change _ = _; kernel_rfl)]
        simp (maxSteps := 4000000) -implicitDefEqProofs [x_seq, x_cond, x_block, x_region, x_skip, x_exit, x_ret, head_id, runG, runOps, doOp, wantB, stepOp, AO.eff, pureOp, St.get, St.one, St.num, St.put, St.optNum, binA, binInt, List.take, List.drop, effOp2, effOp, memL_app, stoRow, cellsAt, toCells, toCell, scalar_int, scalar_bool, scalar_str, scalar_sl, updAt, fromRo, upd, srcCells, A1.slB, flat_int, cl_flat', St.parts, Eng.inB, reps, fillA, newRowSt, appSt, oldOf, rest, kill, mapMem, SV.map, Ob.map, callRO, addMem_nil, roArgs, roL, roA, srcCells, A1.ownB, addMem, shift, ren, SV.map, Ob.map, Ob.noRo, SV.noRo, A1.noRo, List.range, List.range.loop, callLend, lendBox, A1.ids, roArgs, roL, roA, A1.ownB, addMem_nil, List.range, List.range.loop, SV.map, ren, shift, upd, memL_app, resOf, resSV, SV.map, SV.ids, A1.ids, reach, allObs, ren, pos, Ob.map, St.canon, memL, List.range, List.range.loop, e2, a2, hws, n0, n1, n2]
theorem take_im {ws im : List Int} (h : ws.take im.length = im) : (cl .i64 ws).take im.length = cl .i64 im := by rw [cl_take, h]
theorem r_DrawDigests (l : List Int) (hl : l.length ≤ 1048576) : ∃ ws im : List Int, (3 ≤ im.length ∧ im.length ≤ ws.length ∧ ws.length ≤ 9 ∧ ws.take im.length = im) ∧
    runRO (X tab) tab 17 [.v false [.ro l.length (cl .u8 l)]] = some (.v false [.sl 0 [] 0 im.length], [.row 1 (cl .i64 ws)]) := by
  obtain ⟨h, e0⟩ := r_l1New l hl
  obtain ⟨ws, im, i1, g1, hI, e1⟩ := r_l2DrawImage l hl 0 h
  refine ⟨ws, im, hI, ?_⟩
  unfold runRO
  simp only [Int.ofNat_zero] at e0 e1
  simp (maxSteps := 4000000) -implicitDefEqProofs [tab17, a17, x_seq, x_cond, x_block, x_region, x_skip, x_exit, x_ret, head_id, runG, runOps, doOp, wantB, stepOp, AO.eff, pureOp, St.get, St.one, St.num, St.put, St.optNum, binA, binInt, List.take, List.drop, callRO, addMem_nil, roArgs, roL, roA, srcCells, A1.ownB, addMem, shift, ren, SV.map, Ob.map, Ob.noRo, SV.noRo, A1.noRo, List.range, List.range.loop, callLend, lendBox, A1.ids, roArgs, roL, roA, A1.ownB, addMem_nil, List.range, List.range.loop, SV.map, ren, shift, upd, memL_app, resOf, resSV, SV.map, SV.ids, A1.ids, reach, allObs, ren, pos, Ob.map, St.canon, memL, List.range, List.range.loop, e0, e1]
theorem r_DrawDigest (l : List Int) (hl : l.length ≤ 1048576) : ∃ (ws im : List Int) (k : Int), (3 ≤ im.length ∧ im.length ≤ ws.length ∧ ws.length ≤ 9 ∧ ws.take im.length = im) ∧
    runRO (X tab) tab 16 [.v false [.ro l.length (cl .u8 l)]] = some (.tup [(false, [.sl 0 [] 0 im.length]), (false, [.int .i64 k])], [.row 1 (cl .i64 ws)]) := by
  obtain ⟨h, e0⟩ := r_l1New l hl
  obtain ⟨ws, im, i1, g1, hI, e1⟩ := r_l2DrawImage l hl 0 h
  obtain ⟨x2, i2, g2, ⟨b2, c2⟩, e2⟩ := r_l1Below l hl i1 g1 10
  refine ⟨ws, im, IntKind.i64.wrap (x2 - 1), hI, ?_⟩
  unfold runRO
  simp only [Int.ofNat_zero] at e0 e1
  simp (maxSteps := 4000000) -implicitDefEqProofs [tab16, a16, x_seq, x_cond, x_block, x_region, x_skip, x_exit, x_ret, head_id, runG, runOps, doOp, wantB, stepOp, AO.eff, pureOp, St.get, St.one, St.num, St.put, St.optNum, binA, binInt, List.take, List.drop, callRO, addMem_nil, roArgs, roL, roA, srcCells, A1.ownB, addMem, shift, ren, SV.map, Ob.map, Ob.noRo, SV.noRo, A1.noRo, List.range, List.range.loop, callLend, lendBox, A1.ids, roArgs, roL, roA, A1.ownB, addMem_nil, List.range, List.range.loop, SV.map, ren, shift, upd, memL_app, resOf, resSV, SV.map, SV.ids, A1.ids, reach, allObs, ren, pos, Ob.map, St.canon, memL, List.range, List.range.loop, e0, e1, e2]
theorem digests_len (l : List Int) : (digests l).length = 8 ∨ (digests l).length = 0 := by
  unfold digests
  split
  · exact .inl (digF_length l 8)
  · exact .inr rfl
theorem r_DrawDigestsOk (l : List Int) (hl : l.length ≤ 1048576) : ∃ ds : List Int, ds.length ≤ 9 ∧
    runRO (X tab) tab 18 [.v false [.ro l.length (cl .u8 l)]] = some (.v false [.sl 0 [] 0 ds.length], [.row 1 (cl .i64 ds)]) := by
  obtain ⟨h, e0⟩ := r_l1New l hl
  obtain ⟨ws, im, i1, g1, ⟨hI1, hI2, hI3, hI4⟩, e1⟩ := r_l2DrawImage l hl 0 h
  obtain ⟨x2, i2, g2, ⟨b2, c2⟩, e2⟩ := r_l1Below l hl i1 g1 5
  have hT := take_im hI4
  have hle : im.length ≤ (cl .i64 ws).length := by rw [cl_length]; exact hI2
  have e3 := r_sDigests im (by omega)
  have hd := digests_len im
  generalize digests im = ds at e3 hd
  simp only [Int.ofNat_zero] at e0 e1
  by_cases h0 : x2 = 0
  · subst h0
    refine ⟨ds ++ [3], by simp; omega, ?_⟩
    have a1 : (ds.length + 1) * 8 ≤ 140737488355328 := by omega
    have a2 : (cl .i64 ds).length = ds.length := cl_length
    unfold runRO
    simp (maxSteps := 4000000) -implicitDefEqProofs [tab18, a18, x_seq, x_cond, x_block, x_region, x_skip, x_exit, x_ret, head_id, runG, runOps, doOp, wantB, stepOp, AO.eff, pureOp, St.get, St.one, St.num, St.put, St.optNum, binA, binInt, List.take, List.drop, effOp2, effOp, memL_app, stoRow, cellsAt, toCells, toCell, scalar_int, scalar_bool, scalar_str, scalar_sl, updAt, fromRo, upd, srcCells, A1.slB, flat_int, cl_flat', St.parts, Eng.inB, reps, fillA, newRowSt, appSt, oldOf, rest, kill, mapMem, SV.map, Ob.map, callRO, addMem_nil, roArgs, roL, roA, srcCells, A1.ownB, addMem, shift, ren, SV.map, Ob.map, Ob.noRo, SV.noRo, A1.noRo, List.range, List.range.loop, callLend, lendBox, A1.ids, roArgs, roL, roA, A1.ownB, addMem_nil, List.range, List.range.loop, SV.map, ren, shift, upd, memL_app, resOf, resSV, SV.map, SV.ids, A1.ids, reach, allObs, ren, pos, Ob.map, St.canon, memL, List.range, List.range.loop, cellsAt, e0, e1, e2, e3, hT, hle, hI2, cl_length, a1, a2, cl_app1]
  · have n0 : (x2 == 0) = false := by rw [beq_eq_false_iff_ne]; exact h0
    by_cases h1 : x2 = 1
    · subst h1
      by_cases hz : 0 < ds.length
      · refine ⟨ds.set 0 (-1), by simp; omega, ?_⟩
        have a3 : spl [Cell.int .i64 (-1)] 0 (cl .i64 ds) = cl .i64 (ds.set 0 (-1)) := cl_spl hz
        have a4 : (0 : Int) < (ds.length : Int) := by omega
        have a5 : 1 ≤ ds.length := by omega
        unfold runRO
        simp (maxSteps := 4000000) -implicitDefEqProofs [tab18, a18, x_seq, x_cond, x_block, x_region, x_skip, x_exit, x_ret, head_id, runG, runOps, doOp, wantB, stepOp, AO.eff, pureOp, St.get, St.one, St.num, St.put, St.optNum, binA, binInt, List.take, List.drop, effOp2, effOp, memL_app, stoRow, cellsAt, toCells, toCell, scalar_int, scalar_bool, scalar_str, scalar_sl, updAt, fromRo, upd, srcCells, A1.slB, flat_int, cl_flat', St.parts, Eng.inB, reps, fillA, newRowSt, appSt, oldOf, rest, kill, mapMem, SV.map, Ob.map, callRO, addMem_nil, roArgs, roL, roA, srcCells, A1.ownB, addMem, shift, ren, SV.map, Ob.map, Ob.noRo, SV.noRo, A1.noRo, List.range, List.range.loop, callLend, lendBox, A1.ids, roArgs, roL, roA, A1.ownB, addMem_nil, List.range, List.range.loop, SV.map, ren, shift, upd, memL_app, resOf, resSV, SV.map, SV.ids, A1.ids, reach, allObs, ren, pos, Ob.map, St.canon, memL, List.range, List.range.loop, cellsAt, e0, e1, e2, e3, hT, hle, hI2, cl_length, a3, a4, a5, hz]
      · have hz' : ds = [] := List.eq_nil_of_length_eq_zero (by omega)
        subst hz'
        refine ⟨[], by simp, ?_⟩
        simp only [List.length_nil, cl_nil] at e3 ⊢
        unfold runRO
        simp (maxSteps := 4000000) -implicitDefEqProofs [tab18, a18, x_seq, x_cond, x_block, x_region, x_skip, x_exit, x_ret, head_id, runG, runOps, doOp, wantB, stepOp, AO.eff, pureOp, St.get, St.one, St.num, St.put, St.optNum, binA, binInt, List.take, List.drop, effOp2, effOp, memL_app, stoRow, cellsAt, toCells, toCell, scalar_int, scalar_bool, scalar_str, scalar_sl, updAt, fromRo, upd, srcCells, A1.slB, flat_int, cl_flat', St.parts, Eng.inB, reps, fillA, newRowSt, appSt, oldOf, rest, kill, mapMem, SV.map, Ob.map, callRO, addMem_nil, roArgs, roL, roA, srcCells, A1.ownB, addMem, shift, ren, SV.map, Ob.map, Ob.noRo, SV.noRo, A1.noRo, List.range, List.range.loop, callLend, lendBox, A1.ids, roArgs, roL, roA, A1.ownB, addMem_nil, List.range, List.range.loop, SV.map, ren, shift, upd, memL_app, resOf, resSV, SV.map, SV.ids, A1.ids, reach, allObs, ren, pos, Ob.map, St.canon, memL, List.range, List.range.loop, cellsAt, e0, e1, e2, e3, hT, hle, hI2, cl_length]
    · have n1 : (x2 == 1) = false := by rw [beq_eq_false_iff_ne]; exact h1
      refine ⟨ds, by omega, ?_⟩
      unfold runRO
      simp (maxSteps := 4000000) -implicitDefEqProofs [tab18, a18, x_seq, x_cond, x_block, x_region, x_skip, x_exit, x_ret, head_id, runG, runOps, doOp, wantB, stepOp, AO.eff, pureOp, St.get, St.one, St.num, St.put, St.optNum, binA, binInt, List.take, List.drop, effOp2, effOp, memL_app, stoRow, cellsAt, toCells, toCell, scalar_int, scalar_bool, scalar_str, scalar_sl, updAt, fromRo, upd, srcCells, A1.slB, flat_int, cl_flat', St.parts, Eng.inB, reps, fillA, newRowSt, appSt, oldOf, rest, kill, mapMem, SV.map, Ob.map, callRO, addMem_nil, roArgs, roL, roA, srcCells, A1.ownB, addMem, shift, ren, SV.map, Ob.map, Ob.noRo, SV.noRo, A1.noRo, List.range, List.range.loop, callLend, lendBox, A1.ids, roArgs, roL, roA, A1.ownB, addMem_nil, List.range, List.range.loop, SV.map, ren, shift, upd, memL_app, resOf, resSV, SV.map, SV.ids, A1.ids, reach, allObs, ren, pos, Ob.map, St.canon, memL, List.range, List.range.loop, cellsAt, e0, e1, e2, e3, hT, hle, hI2, cl_length, n0, n1]
theorem r_DrawCompare (l : List Int) (hl : l.length ≤ 1048576) : ∃ ws im ds : List Int, (im.length ≤ ws.length ∧ ws.length ≤ 9 ∧ ws.take im.length = im ∧ ds.length ≤ 9) ∧
    runRO (X tab) tab 27 [.v false [.ro l.length (cl .u8 l)]] = some (.tup [(false, [.sl 0 [] 0 im.length]), (false, [.sl 1 [] 0 ds.length])], [.row 1 (cl .i64 ws), .row 1 (cl .i64 ds)]) := by
  obtain ⟨h, e0⟩ := r_l1New l hl
  obtain ⟨ws, im, i1, g1, ⟨hI1, hI2, hI3, hI4⟩, e1⟩ := r_l2DrawImage l hl 0 h
  obtain ⟨t, i2, g2, e2⟩ := r_l1Once l hl i1 g1 6
  simp only [Int.ofNat_zero] at e0 e1
  cases t with
  | true =>
    obtain ⟨ds, hds, e3⟩ := r_DrawDigestsOk l hl
    refine ⟨ws, im, ds, ⟨hI2, hI3, hI4, hds⟩, ?_⟩
    unfold runRO
    simp (maxSteps := 4000000) -implicitDefEqProofs [tab27, a27, x_seq, x_cond, x_block, x_region, x_skip, x_exit, x_ret, head_id, runG, runOps, doOp, wantB, stepOp, AO.eff, pureOp, St.get, St.one, St.num, St.put, St.optNum, binA, binInt, List.take, List.drop, callRO, addMem_nil, roArgs, roL, roA, srcCells, A1.ownB, addMem, shift, ren, SV.map, Ob.map, Ob.noRo, SV.noRo, A1.noRo, List.range, List.range.loop, callLend, lendBox, A1.ids, roArgs, roL, roA, A1.ownB, addMem_nil, List.range, List.range.loop, SV.map, ren, shift, upd, memL_app, resOf, resSV, SV.map, SV.ids, A1.ids, reach, allObs, ren, pos, Ob.map, St.canon, memL, List.range, List.range.loop, e0, e1, e2, e3]
  | false =>
    obtain ⟨x3, i3, g3, ⟨b3, c3⟩, e3⟩ := r_l1Below l hl i2 g2 im.length
    have c3 := c3 (by omega)
    obtain ⟨j, rfl⟩ : ∃ j : Nat, x3 = j := ⟨x3.toNat, by omega⟩
    obtain ⟨x4, i4, g4, ⟨b4, c4⟩, e4⟩ := r_l1Below l hl i3 g3 9
    have hT := take_im hI4
    have hj : j < im.length := by omega
    have a1 : im.length * 8 ≤ 140737488355328 := by omega
    have a3 : spl [Cell.int .i64 x4] j (cl .i64 im) = cl .i64 (im.set j x4) := cl_spl hj
    have a4 : j + 1 ≤ im.length := by omega
    have a5 : (0 : Int) < (im.length : Int) := by omega
    have a5' : 0 < im.length := by omega
    have a6 : ¬ im.length = 0 := by omega
    have a7 : ¬ im = [] := fun e => a6 (by rw [e]; rfl)
    have e5 := r_sDigests (im.set j x4) (by simp; omega)
    rw [List.length_set] at e5
    have hd := digests_len (im.set j x4)
    have u1 : (cl .i64 (im.set j x4)).take im.length = cl .i64 (im.set j x4) := by have e := cl_self (k := .i64) (l := im.set j x4); rwa [List.length_set] at e
    refine ⟨ws, im, digests (im.set j x4), ⟨hI2, hI3, hI4, by omega⟩, ?_⟩
    unfold runRO
    simp (maxSteps := 4000000) -implicitDefEqProofs [tab27, a27, x_seq, x_cond, x_block, x_region, x_skip, x_exit, x_ret, head_id, runG, runOps, doOp, wantB, stepOp, AO.eff, pureOp, St.get, St.one, St.num, St.put, St.optNum, binA, binInt, List.take, List.drop, effOp2, effOp, memL_app, stoRow, cellsAt, toCells, toCell, scalar_int, scalar_bool, scalar_str, scalar_sl, updAt, fromRo, upd, srcCells, A1.slB, flat_int, cl_flat', St.parts, Eng.inB, reps, fillA, newRowSt, appSt, oldOf, rest, kill, mapMem, SV.map, Ob.map, callRO, addMem_nil, roArgs, roL, roA, srcCells, A1.ownB, addMem, shift, ren, SV.map, Ob.map, Ob.noRo, SV.noRo, A1.noRo, List.range, List.range.loop, callLend, lendBox, A1.ids, roArgs, roL, roA, A1.ownB, addMem_nil, List.range, List.range.loop, SV.map, ren, shift, upd, memL_app, resOf, resSV, SV.map, SV.ids, A1.ids, reach, allObs, ren, pos, Ob.map, St.canon, memL, List.range, List.range.loop, cellsAt, e0, e1, e2, e3, e4, e5, hT, hI2, hj, cl_length, cl_ex, a1, a3, a4, a5, a5', a6, a7, u1]
end Go.Proofs.Ytdagbeihjobmjaa.Eng.A
