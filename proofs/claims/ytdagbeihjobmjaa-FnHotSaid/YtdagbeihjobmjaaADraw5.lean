/- Draws: hot rows, touches. -/
import Derived.Test.YtdagbeihjobmjaaADraw2
import Derived.Test.YtdagbeihjobmjaaABook
namespace Go.Proofs.Ytdagbeihjobmjaa.Eng.A
set_option linter.unusedSimpArgs false
set_option linter.unusedVariables false
set_option maxHeartbeats 8000000
set_option maxRecDepth 100000
open Go.RowKit Go.Proofs

theorem extOf_nn {c : Int} (h1 : 0 ≤ c) (h2 : c ≤ 7) : ¬ extOf c < 0 := by
  unfold extOf
  rw [if_pos (rng_iff.2 ⟨h1, h2⟩)]
  omega
def S_DrawHot (l : List Int) (s : Nat × List Int × Nat × Int) : XS := ⟨⟨[.v false [.pr 0 [] 0], .bad, .bad, .v false [.sl 1 [] 0 s.2.1.length], .v false [.int .i64 (s.1)], .bad, .bad, .bad, .bad, .bad, .bad, .bad, .bad, .bad, .bad, .bad, .bad, .bad, .bad, .bad, .bad, .bad, .bad, .bad, .bad, .bad, .bad, .bad], memL [some (.box [.ro l.length (cl .u8 l), .int .i64 s.2.2.1, .int .i64 s.2.2.2]), some (.row 1 (cl .i64 s.2.1))], [.v false [.pr 0 [] 0]]⟩, 2⟩
def Q_DrawHot (l : List Int) (r : AE × XS) : Prop := ∃ (ws : List Int) (i : Nat) (h : Int), hotOk ws = true ∧ r = (.exit 0, ⟨⟨[.v false [.pr 0 [] 0], .bad, .bad, .v false [.sl 1 [] 0 ws.length], .bad, .bad, .bad, .bad, .bad, .bad, .bad, .bad, .bad, .bad, .bad, .bad, .bad, .bad, .bad, .bad, .bad, .bad, .bad, .bad, .bad, .bad, .bad, .bad], memL [some (.box [.ro l.length (cl .u8 l), .int .i64 i, .int .i64 h]), some (.row 1 (cl .i64 ws))], [.v false [.pr 0 [] 0]]⟩, 2⟩)
theorem loop_DrawHot (l : List Int) (hl : l.length ≤ 1048576) (i0 : Nat) (h0 : Int) : ∃ r, Q_DrawHot l r ∧ ∀ x, head true d117_0 x = S_DrawHot l (0, [], i0, h0) → X tab l117_0 x = some r := by
  refine loopE (S_DrawHot l) (fun s => 5 - s.1) (fun s => s.1 ≤ 5 ∧ hotOk s.2.1 = true) (Q_DrawHot l) (fun ⟨k, ws, i, h⟩ ⟨hk, hws⟩ => ?_) (0, [], i0, h0) (by simp; rfl)
  simp only at hk hws
  obtain ⟨x1, i1, g1, ⟨b1, c1⟩, e1⟩ := r_l1Below l hl i h 5
  have c1 := c1 (by omega)
  by_cases hlt : (k : Int) < x1
  · obtain ⟨x2, i2, g2, ⟨b2, c2⟩, e2⟩ := r_l1Below l hl i1 g1 8
    have c2 := c2 (by omega)
    have he := extOf_nn b2 (by omega)
    have hok : touchOk ws x2 = true := by simp only [touchOk, hws, Bool.true_and, decide_eq_true_eq]; omega
    have e3 := r_sTouch ws x2 hok
    have h4 : IntKind.i64.wrap ((k : Int) + 1) = ((k + 1 : Nat) : Int) := by rw [wrap_id (by omega) (by omega)]; omega
    have hn := hotOk_touch hws he
    have u1 : (cl .i64 ws).take ws.length = cl .i64 ws := cl_self
    generalize (touchAll ws x2).take 2 = zs at e3 hn
    generalize touchX (touchAll ws x2) = o at e3
    left
    simp (maxSteps := 4000000) -implicitDefEqProofs [b117_0, S_DrawHot, x_seq, x_cond, x_block, x_region, x_skip, x_exit, x_ret, head_id, runG, runOps, doOp, wantB, stepOp, AO.eff, pureOp, St.get, St.one, St.num, St.put, St.optNum, binA, binInt, List.take, List.drop, effOp2, effOp, memL_app, stoRow, cellsAt, toCells, toCell, scalar_int, scalar_bool, scalar_str, scalar_sl, updAt, fromRo, upd, callRO, addMem_nil, roArgs, roL, roA, srcCells, A1.ownB, addMem, shift, ren, SV.map, Ob.map, Ob.noRo, SV.noRo, A1.noRo, List.range, List.range.loop, callLend, lendBox, A1.ids, roArgs, roL, roA, A1.ownB, addMem_nil, List.range, List.range.loop, SV.map, ren, shift, upd, memL_app, cellsAt, e1, e2, e3, hlt, h4, u1, cl_length, -Prod.exists]
    refine ⟨(k + 1, zs, i2, g2), ?_, by simp only; omega, by simp only; omega, hn⟩
    change _ = _
    kernel_rfl
  · right
    simp (maxSteps := 4000000) -implicitDefEqProofs [b117_0, S_DrawHot, x_seq, x_cond, x_block, x_region, x_skip, x_exit, x_ret, head_id, runG, runOps, doOp, wantB, stepOp, AO.eff, pureOp, St.get, St.one, St.num, St.put, St.optNum, binA, binInt, List.take, List.drop, effOp2, effOp, memL_app, stoRow, cellsAt, toCells, toCell, scalar_int, scalar_bool, scalar_str, scalar_sl, updAt, fromRo, upd, callLend, lendBox, A1.ids, roArgs, roL, roA, A1.ownB, addMem_nil, List.range, List.range.loop, SV.map, ren, shift, upd, memL_app, e1, hlt, -Prod.exists]
    exact ⟨ws, i1, g1, hws, by change _ = _; kernel_rfl⟩
theorem r_l19DrawHot (l : List Int) (hl : l.length ≤ 1048576) (i : Nat) (h : Int) :
    ∃ (ws : List Int) (i' : Nat) (h' : Int), ws.length ≤ 3 ∧ runLend (X tab) tab 117 [.ro l.length (cl .u8 l), .int .i64 i, .int .i64 h] [] = some (.v false [.sl 0 [] 0 ws.length], [.ro l.length (cl .u8 l), .int .i64 i', .int .i64 h'], [.row 1 (cl .i64 ws)]) := by
  obtain ⟨r, ⟨ws, i1, g1, hws, rfl⟩, hr⟩ := loop_DrawHot l hl i h
  have hlen := hotOk_len hws
  obtain ⟨t, i2, g2, e2⟩ := r_l1Once l hl i1 g1 6
  cases t with
  | false =>
    refine ⟨ws, i2, g2, by omega, ?_⟩
    unfold runLend
    simp (maxSteps := 4000000) -implicitDefEqProofs [tab117, a117, lendEnd, x_seq, x_cond, x_block, x_region, x_skip, x_exit, x_ret, head_id, runG, runOps, doOp, wantB, stepOp, AO.eff, pureOp, St.get, St.one, St.num, St.put, St.optNum, binA, binInt, List.take, List.drop, effOp2, effOp, memL_app, stoRow, cellsAt, toCells, toCell, scalar_int, scalar_bool, scalar_str, scalar_sl, updAt, fromRo, upd, srcCells, A1.slB, flat_int, cl_flat', St.parts, Eng.inB, reps, fillA, newRowSt, appSt, oldOf, rest, kill, mapMem, SV.map, Ob.map, callLend, lendBox, A1.ids, roArgs, roL, roA, A1.ownB, addMem_nil, List.range, List.range.loop, SV.map, ren, shift, upd, memL_app]
    rw [hr _ (by change _ = _; kernel_rfl)]
    simp (maxSteps := 4000000) -implicitDefEqProofs [x_seq, x_cond, x_block, x_region, x_skip, x_exit, x_ret, head_id, runG, runOps, doOp, wantB, stepOp, AO.eff, pureOp, St.get, St.one, St.num, St.put, St.optNum, binA, binInt, List.take, List.drop, effOp2, effOp, memL_app, stoRow, cellsAt, toCells, toCell, scalar_int, scalar_bool, scalar_str, scalar_sl, updAt, fromRo, upd, callLend, lendBox, A1.ids, roArgs, roL, roA, A1.ownB, addMem_nil, List.range, List.range.loop, SV.map, ren, shift, upd, memL_app, resOf, resSV, SV.map, SV.ids, A1.ids, reach, allObs, ren, pos, Ob.map, St.canon, memL, List.range, List.range.loop, e2]
  | true =>
    obtain ⟨x3, i3, g3, ⟨b3, c3⟩, e3⟩ := r_l1Below l hl i2 g2 6
    generalize hy : IntKind.i64.wrap (x3 - 1) = y
    refine ⟨ws ++ [y], i3, g3, by simp; omega, ?_⟩
    have a1 : (ws.length + 1) * 8 ≤ 140737488355328 := by omega
    have a2 : (cl .i64 ws).length = ws.length := cl_length
    unfold runLend
    simp (maxSteps := 4000000) -implicitDefEqProofs [tab117, a117, lendEnd, x_seq, x_cond, x_block, x_region, x_skip, x_exit, x_ret, head_id, runG, runOps, doOp, wantB, stepOp, AO.eff, pureOp, St.get, St.one, St.num, St.put, St.optNum, binA, binInt, List.take, List.drop, effOp2, effOp, memL_app, stoRow, cellsAt, toCells, toCell, scalar_int, scalar_bool, scalar_str, scalar_sl, updAt, fromRo, upd, srcCells, A1.slB, flat_int, cl_flat', St.parts, Eng.inB, reps, fillA, newRowSt, appSt, oldOf, rest, kill, mapMem, SV.map, Ob.map, callLend, lendBox, A1.ids, roArgs, roL, roA, A1.ownB, addMem_nil, List.range, List.range.loop, SV.map, ren, shift, upd, memL_app]
    rw [hr _ (by change _ = _; kernel_rfl)]
    simp (maxSteps := 4000000) -implicitDefEqProofs [x_seq, x_cond, x_block, x_region, x_skip, x_exit, x_ret, head_id, runG, runOps, doOp, wantB, stepOp, AO.eff, pureOp, St.get, St.one, St.num, St.put, St.optNum, binA, binInt, List.take, List.drop, effOp2, effOp, memL_app, stoRow, cellsAt, toCells, toCell, scalar_int, scalar_bool, scalar_str, scalar_sl, updAt, fromRo, upd, srcCells, A1.slB, flat_int, cl_flat', St.parts, Eng.inB, reps, fillA, newRowSt, appSt, oldOf, rest, kill, mapMem, SV.map, Ob.map, callLend, lendBox, A1.ids, roArgs, roL, roA, A1.ownB, addMem_nil, List.range, List.range.loop, SV.map, ren, shift, upd, memL_app, resOf, resSV, SV.map, SV.ids, A1.ids, reach, allObs, ren, pos, Ob.map, St.canon, memL, List.range, List.range.loop, e2, e3, hy, a1, a2, cl_app1]
theorem r_DrawTouch (l : List Int) (hl : l.length ≤ 1048576) : ∃ (ws : List Int) (c : Int), (ws.length ≤ 3 ∧ -1 ≤ c ∧ c ≤ 8) ∧ runRO (X tab) tab 54 [.v false [.ro l.length (cl .u8 l)]] = some (.tup [(false, [.sl 0 [] 0 ws.length]), (false, [.int .i64 c])], [.row 1 (cl .i64 ws)]) := by
  obtain ⟨h, e0⟩ := r_l1New l hl
  obtain ⟨ws, i1, g1, hws, e1⟩ := r_l19DrawHot l hl 0 h
  obtain ⟨x2, i2, g2, ⟨b2, c2⟩, e2⟩ := r_l1Below l hl i1 g1 10
  have c2 := c2 (by omega)
  have w1 : IntKind.i64.wrap (x2 - 1) = x2 - 1 := wrap_id (by omega) (by omega)
  refine ⟨ws, x2 - 1, ⟨hws, by omega, by omega⟩, ?_⟩
  unfold runRO
  simp only [Int.ofNat_zero] at e0 e1
  simp (maxSteps := 4000000) -implicitDefEqProofs [tab54, a54, x_seq, x_cond, x_block, x_region, x_skip, x_exit, x_ret, head_id, runG, runOps, doOp, wantB, stepOp, AO.eff, pureOp, St.get, St.one, St.num, St.put, St.optNum, binA, binInt, List.take, List.drop, callRO, addMem_nil, roArgs, roL, roA, srcCells, A1.ownB, addMem, shift, ren, SV.map, Ob.map, Ob.noRo, SV.noRo, A1.noRo, List.range, List.range.loop, callLend, lendBox, A1.ids, roArgs, roL, roA, A1.ownB, addMem_nil, List.range, List.range.loop, SV.map, ren, shift, upd, memL_app, resOf, resSV, SV.map, SV.ids, A1.ids, reach, allObs, ren, pos, Ob.map, St.canon, memL, List.range, List.range.loop, e0, e1, e2, w1]
theorem r_DrawExtOf (l : List Int) (hl : l.length ≤ 1048576) : ∃ c : Int, runRO (X tab) tab 57 [.v false [.ro l.length (cl .u8 l)]] = some (.v false [.int .i64 c], []) := by
  obtain ⟨h, e0⟩ := r_l1New l hl
  obtain ⟨x2, i2, g2, ⟨b2, c2⟩, e2⟩ := r_l1Below l hl 0 h 11
  refine ⟨IntKind.i64.wrap (x2 - 1), ?_⟩
  unfold runRO
  simp only [Int.ofNat_zero] at e0 e2
  simp (maxSteps := 4000000) -implicitDefEqProofs [tab57, a57, x_seq, x_cond, x_block, x_region, x_skip, x_exit, x_ret, head_id, runG, runOps, doOp, wantB, stepOp, AO.eff, pureOp, St.get, St.one, St.num, St.put, St.optNum, binA, binInt, List.take, List.drop, callRO, addMem_nil, roArgs, roL, roA, srcCells, A1.ownB, addMem, shift, ren, SV.map, Ob.map, Ob.noRo, SV.noRo, A1.noRo, List.range, List.range.loop, callLend, lendBox, A1.ids, roArgs, roL, roA, A1.ownB, addMem_nil, List.range, List.range.loop, SV.map, ren, shift, upd, memL_app, resOf, resSV, SV.map, SV.ids, A1.ids, reach, allObs, ren, pos, Ob.map, St.canon, memL, List.range, List.range.loop, e0, e2]
theorem r_DrawHotOk (l : List Int) (hl : l.length ≤ 1048576) : ∃ ws : List Int, ws.length ≤ 3 ∧ runRO (X tab) tab 58 [.v false [.ro l.length (cl .u8 l)]] = some (.v false [.sl 0 [] 0 ws.length], [.row 1 (cl .i64 ws)]) := by
  obtain ⟨h, e0⟩ := r_l1New l hl
  obtain ⟨ws, i1, g1, hws, e1⟩ := r_l19DrawHot l hl 0 h
  refine ⟨ws, hws, ?_⟩
  unfold runRO
  simp only [Int.ofNat_zero] at e0 e1
  simp (maxSteps := 4000000) -implicitDefEqProofs [tab58, a58, x_seq, x_cond, x_block, x_region, x_skip, x_exit, x_ret, head_id, runG, runOps, doOp, wantB, stepOp, AO.eff, pureOp, St.get, St.one, St.num, St.put, St.optNum, binA, binInt, List.take, List.drop, callRO, addMem_nil, roArgs, roL, roA, srcCells, A1.ownB, addMem, shift, ren, SV.map, Ob.map, Ob.noRo, SV.noRo, A1.noRo, List.range, List.range.loop, callLend, lendBox, A1.ids, roArgs, roL, roA, A1.ownB, addMem_nil, List.range, List.range.loop, SV.map, ren, shift, upd, memL_app, resOf, resSV, SV.map, SV.ids, A1.ids, reach, allObs, ren, pos, Ob.map, St.canon, memL, List.range, List.range.loop, e0, e1]
theorem r_DrawHotMarks (l : List Int) (hl : l.length ≤ 1048576) : ∃ ws : List Int, ws.length ≤ 3 ∧ runRO (X tab) tab 59 [.v false [.ro l.length (cl .u8 l)]] = some (.v false [.sl 0 [] 0 ws.length], [.row 1 (cl .i64 ws)]) := by
  obtain ⟨h, e0⟩ := r_l1New l hl
  obtain ⟨ws, i1, g1, hws, e1⟩ := r_l19DrawHot l hl 0 h
  refine ⟨ws, hws, ?_⟩
  unfold runRO
  simp only [Int.ofNat_zero] at e0 e1
  simp (maxSteps := 4000000) -implicitDefEqProofs [tab59, a59, x_seq, x_cond, x_block, x_region, x_skip, x_exit, x_ret, head_id, runG, runOps, doOp, wantB, stepOp, AO.eff, pureOp, St.get, St.one, St.num, St.put, St.optNum, binA, binInt, List.take, List.drop, callRO, addMem_nil, roArgs, roL, roA, srcCells, A1.ownB, addMem, shift, ren, SV.map, Ob.map, Ob.noRo, SV.noRo, A1.noRo, List.range, List.range.loop, callLend, lendBox, A1.ids, roArgs, roL, roA, A1.ownB, addMem_nil, List.range, List.range.loop, SV.map, ren, shift, upd, memL_app, resOf, resSV, SV.map, SV.ids, A1.ids, reach, allObs, ren, pos, Ob.map, St.canon, memL, List.range, List.range.loop, e0, e1]
end Go.Proofs.Ytdagbeihjobmjaa.Eng.A
