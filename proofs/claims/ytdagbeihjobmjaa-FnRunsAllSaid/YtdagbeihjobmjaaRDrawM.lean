/- Draws: marks. -/
import Derived.Test.YtdagbeihjobmjaaRSMark
import Derived.Test.YtdagbeihjobmjaaRDraw2
namespace Go.Proofs.Ytdagbeihjobmjaa.Eng.R
set_option linter.unusedSimpArgs false
set_option linter.unusedVariables false
set_option maxHeartbeats 4000000
open Go.RowKit Go.Proofs

def S_DrawMarks (l : List Int) (s : Nat × List Int × Nat × Int) : XS := ⟨⟨[.v false [.pr 0 [] 0], .bad, .bad, .v false [.sl 1 [] 0 s.2.1.length], .v false [.int .i64 (s.1)], .bad, .bad, .bad, .bad, .bad, .bad, .bad, .bad, .bad, .bad, .bad, .bad, .bad, .bad, .bad, .bad, .bad, .bad, .bad, .bad], memL [some (.box [.ro l.length (cl .u8 l), .int .i64 s.2.2.1, .int .i64 s.2.2.2]), some (.row 1 (cl .i64 s.2.1))], [.v false [.pr 0 [] 0]]⟩, 2⟩
def Q_DrawMarks (l : List Int) (r : AE × XS) : Prop := ∃ (ws : List Int) (i : Nat) (h : Int), ws.length ≤ 5 ∧ r = (.exit 0, ⟨⟨[.v false [.pr 0 [] 0], .bad, .bad, .v false [.sl 1 [] 0 ws.length], .bad, .bad, .bad, .bad, .bad, .bad, .bad, .bad, .bad, .bad, .bad, .bad, .bad, .bad, .bad, .bad, .bad, .bad, .bad, .bad, .bad], memL [some (.box [.ro l.length (cl .u8 l), .int .i64 i, .int .i64 h]), some (.row 1 (cl .i64 ws))], [.v false [.pr 0 [] 0]]⟩, 2⟩)
theorem loop_DrawMarks (l : List Int) (hl : l.length ≤ 1048576) (i0 : Nat) (h0 : Int) : ∃ r, Q_DrawMarks l r ∧ ∀ x, head true d120_0 x = S_DrawMarks l (0, [], i0, h0) → X tab l120_0 x = some r := by
  refine loopE (S_DrawMarks l) (fun s => 5 - s.1) (fun s => s.1 ≤ 5 ∧ s.2.1.length ≤ s.1) (Q_DrawMarks l) (fun ⟨k, ws, i, h⟩ ⟨hk, hlen⟩ => ?_) (0, [], i0, h0) (by simp)
  simp only at hk hlen
  obtain ⟨x1, i1, g1, ⟨b1, c1⟩, e1⟩ := r_l1Below l hl i h 5
  have c1 := c1 (by omega)
  by_cases hlt : (k : Int) < x1
  · obtain ⟨x2, i2, g2, ⟨b2, c2⟩, e2⟩ := r_l1Below l hl i1 g1 8
    obtain ⟨ws', hws', e3⟩ := r_sMark ws (by omega) x2
    have h4 : IntKind.i64.wrap ((k : Int) + 1) = ((k + 1 : Nat) : Int) := by rw [wrap_id (by omega) (by omega)]; omega
    have v0 : (cl .i64 ws).take ws.length = cl .i64 ws := cl_self
    have l0 : (cl .i64 ws).length = ws.length := cl_length
    left
    simp (maxSteps := 4000000) -implicitDefEqProofs [b120_0, S_DrawMarks, x_seq, x_cond, x_block, x_region, x_skip, x_exit, x_ret, head_id, runG, runOps, doOp, wantB, stepOp, AO.eff, pureOp, St.get, St.one, St.num, St.put, St.optNum, binA, binInt, List.take, List.drop, effOp2, effOp, memL_app, stoRow, cellsAt, toCells, toCell, scalar_int, scalar_bool, scalar_str, scalar_sl, updAt, fromRo, upd, callLend, lendBox, A1.ids, roArgs, roL, roA, A1.ownB, addMem_nil, List.range, List.range.loop, SV.map, ren, shift, upd, memL_app, callRO, addMem_nil, roArgs, roL, roA, srcCells, A1.ownB, addMem, shift, ren, SV.map, Ob.map, Ob.noRo, SV.noRo, A1.noRo, List.range, List.range.loop, cellsAt, e1, e2, e3, hlt, h4, v0, l0, -Prod.exists]
    exact ⟨(k + 1, ws', i2, g2), by change _ = _; kernel_rfl, by simp only; omega, by simp only; omega, by simp only; omega⟩
  · right
    simp (maxSteps := 4000000) -implicitDefEqProofs [b120_0, S_DrawMarks, x_seq, x_cond, x_block, x_region, x_skip, x_exit, x_ret, head_id, runG, runOps, doOp, wantB, stepOp, AO.eff, pureOp, St.get, St.one, St.num, St.put, St.optNum, binA, binInt, List.take, List.drop, effOp2, effOp, memL_app, stoRow, cellsAt, toCells, toCell, scalar_int, scalar_bool, scalar_str, scalar_sl, updAt, fromRo, upd, callLend, lendBox, A1.ids, roArgs, roL, roA, A1.ownB, addMem_nil, List.range, List.range.loop, SV.map, ren, shift, upd, memL_app, e1, hlt, -Prod.exists]
    exact ⟨ws, i1, g1, by omega, by change _ = _; kernel_rfl⟩
theorem r_l2DrawMarks (l : List Int) (hl : l.length ≤ 1048576) (i : Nat) (h : Int) :
    ∃ (ws : List Int) (i' : Nat) (h' : Int), ws.length ≤ 6 ∧ runLend (X tab) tab 120 [.ro l.length (cl .u8 l), .int .i64 i, .int .i64 h] [] = some (.v false [.sl 0 [] 0 ws.length], [.ro l.length (cl .u8 l), .int .i64 i', .int .i64 h'], [.row 1 (cl .i64 ws)]) := by
  obtain ⟨r, ⟨ws, i1, g1, hws, rfl⟩, hr⟩ := loop_DrawMarks l hl i h
  obtain ⟨b, i2, g2, e2⟩ := r_l1Once l hl i1 g1 10
  cases b with
  | false =>
    refine ⟨ws, i2, g2, by omega, ?_⟩
    unfold runLend
    simp (maxSteps := 4000000) -implicitDefEqProofs [tab120, a120, lendEnd, x_seq, x_cond, x_block, x_region, x_skip, x_exit, x_ret, head_id, runG, runOps, doOp, wantB, stepOp, AO.eff, pureOp, St.get, St.one, St.num, St.put, St.optNum, binA, binInt, List.take, List.drop, effOp2, effOp, memL_app, stoRow, cellsAt, toCells, toCell, scalar_int, scalar_bool, scalar_str, scalar_sl, updAt, fromRo, upd, srcCells, A1.slB, flat_int, cl_flat', St.parts, Eng.inB, reps, fillA, newRowSt, appSt, oldOf, rest, kill, mapMem, SV.map, Ob.map]
    rw [hr _ (by change _ = _; kernel_rfl)]
    simp (maxSteps := 4000000) -implicitDefEqProofs [x_seq, x_cond, x_block, x_region, x_skip, x_exit, x_ret, head_id, runG, runOps, doOp, wantB, stepOp, AO.eff, pureOp, St.get, St.one, St.num, St.put, St.optNum, binA, binInt, List.take, List.drop, effOp2, effOp, memL_app, stoRow, cellsAt, toCells, toCell, scalar_int, scalar_bool, scalar_str, scalar_sl, updAt, fromRo, upd, callLend, lendBox, A1.ids, roArgs, roL, roA, A1.ownB, addMem_nil, List.range, List.range.loop, SV.map, ren, shift, upd, memL_app, resOf, resSV, SV.map, SV.ids, A1.ids, reach, allObs, ren, pos, Ob.map, St.canon, memL, List.range, List.range.loop, e2]
  | true =>
    obtain ⟨x3, i3, g3, hx3, e3⟩ := r_l1PickInt l hl i2 g2 [-1, 0, 7, 8] (by simp) (by simp)
    have e3' : ∀ (t u : Nat) (sl : List SV) (m : Mem) (up : List SV) (nx : Nat), t ≠ u → m t = some (.box [.ro l.length (cl .u8 l), .int .i64 i2, .int .i64 g2]) → m u = some (.row 1 [.int .i64 (-1), .int .i64 0, .int .i64 7, .int .i64 8]) → runThru (X tab) tab 104 [.v false [.pr t [] 0], .v false [.sl u [] 0 4]] ⟨⟨sl, m, up⟩, nx⟩ = some (.v false [.int .i64 x3], ⟨⟨sl, upd m t (some (.box [.ro l.length (cl .u8 l), .int .i64 i3, .int .i64 g3])), up⟩, nx + 576⟩) := e3
    have b1 : (ws.length + 1) * 8 ≤ 140737488355328 := by omega
    have l0 : (cl .i64 ws).length = ws.length := cl_length
    refine ⟨ws ++ [x3], i3, g3, by simp; omega, ?_⟩
    unfold runLend
    simp (maxSteps := 4000000) -implicitDefEqProofs [tab120, a120, lendEnd, x_seq, x_cond, x_block, x_region, x_skip, x_exit, x_ret, head_id, runG, runOps, doOp, wantB, stepOp, AO.eff, pureOp, St.get, St.one, St.num, St.put, St.optNum, binA, binInt, List.take, List.drop, effOp2, effOp, memL_app, stoRow, cellsAt, toCells, toCell, scalar_int, scalar_bool, scalar_str, scalar_sl, updAt, fromRo, upd, srcCells, A1.slB, flat_int, cl_flat', St.parts, Eng.inB, reps, fillA, newRowSt, appSt, oldOf, rest, kill, mapMem, SV.map, Ob.map]
    rw [hr _ (by change _ = _; kernel_rfl)]
    simp (maxSteps := 4000000) -implicitDefEqProofs [x_seq, x_cond, x_block, x_region, x_skip, x_exit, x_ret, head_id, runG, runOps, doOp, wantB, stepOp, AO.eff, pureOp, St.get, St.one, St.num, St.put, St.optNum, binA, binInt, List.take, List.drop, effOp2, effOp, memL_app, stoRow, cellsAt, toCells, toCell, scalar_int, scalar_bool, scalar_str, scalar_sl, updAt, fromRo, upd, callLend, lendBox, A1.ids, roArgs, roL, roA, A1.ownB, addMem_nil, List.range, List.range.loop, SV.map, ren, shift, upd, memL_app, srcCells, A1.slB, flat_int, cl_flat', St.parts, Eng.inB, reps, fillA, newRowSt, appSt, oldOf, rest, kill, mapMem, SV.map, Ob.map, resOf, resSV, SV.map, SV.ids, A1.ids, reach, allObs, ren, pos, Ob.map, St.canon, memL, List.range, List.range.loop, e2, e3', getAll, b1, l0, cl_app1]
    skip
theorem r_DrawRuns (l : List Int) (hl : l.length ≤ 1048576) : ∃ ws : List Int, ws.length ≤ 6 ∧ runRO (X tab) tab 68 [.v false [.ro l.length (cl .u8 l)]] = some (.v false [.sl 0 [] 0 ws.length], [.row 1 (cl .i64 ws)]) := by
  obtain ⟨h, e0⟩ := r_l1New l hl
  obtain ⟨ws, i', h', hws, e1⟩ := r_l2DrawMarks l hl 0 h
  refine ⟨ws, hws, ?_⟩
  simp only [Int.ofNat_zero] at e0 e1
  unfold runRO
  simp (maxSteps := 4000000) -implicitDefEqProofs [tab68, a68, x_seq, x_cond, x_block, x_region, x_skip, x_exit, x_ret, head_id, runG, runOps, doOp, wantB, stepOp, AO.eff, pureOp, St.get, St.one, St.num, St.put, St.optNum, binA, binInt, List.take, List.drop, callRO, addMem_nil, roArgs, roL, roA, srcCells, A1.ownB, addMem, shift, ren, SV.map, Ob.map, Ob.noRo, SV.noRo, A1.noRo, List.range, List.range.loop, callLend, lendBox, A1.ids, roArgs, roL, roA, A1.ownB, addMem_nil, List.range, List.range.loop, SV.map, ren, shift, upd, memL_app, resOf, resSV, SV.map, SV.ids, A1.ids, reach, allObs, ren, pos, Ob.map, St.canon, memL, List.range, List.range.loop, e0, e1]
theorem r_DrawMany (l : List Int) (hl : l.length ≤ 1048576) : ∃ ws : List Int, ws.length ≤ 6 ∧ runRO (X tab) tab 71 [.v false [.ro l.length (cl .u8 l)]] = some (.v false [.sl 0 [] 0 ws.length], [.row 1 (cl .i64 ws)]) := by
  obtain ⟨h, e0⟩ := r_l1New l hl
  obtain ⟨ws, i', h', hws, e1⟩ := r_l2DrawMarks l hl 0 h
  refine ⟨ws, hws, ?_⟩
  simp only [Int.ofNat_zero] at e0 e1
  unfold runRO
  simp (maxSteps := 4000000) -implicitDefEqProofs [tab71, a71, x_seq, x_cond, x_block, x_region, x_skip, x_exit, x_ret, head_id, runG, runOps, doOp, wantB, stepOp, AO.eff, pureOp, St.get, St.one, St.num, St.put, St.optNum, binA, binInt, List.take, List.drop, callRO, addMem_nil, roArgs, roL, roA, srcCells, A1.ownB, addMem, shift, ren, SV.map, Ob.map, Ob.noRo, SV.noRo, A1.noRo, List.range, List.range.loop, callLend, lendBox, A1.ids, roArgs, roL, roA, A1.ownB, addMem_nil, List.range, List.range.loop, SV.map, ren, shift, upd, memL_app, resOf, resSV, SV.map, SV.ids, A1.ids, reach, allObs, ren, pos, Ob.map, St.canon, memL, List.range, List.range.loop, e0, e1]
end Go.Proofs.Ytdagbeihjobmjaa.Eng.R
