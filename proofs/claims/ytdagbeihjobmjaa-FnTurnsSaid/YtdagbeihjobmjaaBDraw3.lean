/- Draws: rows of cells, images. -/
import Derived.Test.YtdagbeihjobmjaaBDraw2
namespace Go.Proofs.Ytdagbeihjobmjaa.Eng.B
set_option linter.unusedSimpArgs false
set_option linter.unusedVariables false
open Go.RowKit Go.Proofs

theorem pos_len {ws : List Int} (h : ¬ ws.length = 0) : ws ≠ [] := fun e => h (by rw [e]; rfl)
def S_DrawCells (l : List Int) (s : Nat × List Int × Nat × Int) : XS := ⟨⟨[.v false [.pr 0 [] 0], .bad, .bad, .v false [.sl 1 [] 0 s.2.1.length], .v false [.int .i64 (s.1)], .bad, .bad, .bad, .bad, .bad, .bad, .bad, .bad, .bad, .bad, .bad, .bad, .bad], memL [some (.box [.ro l.length (cl .u8 l), .int .i64 s.2.2.1, .int .i64 s.2.2.2]), some (.row 1 (cl .i64 s.2.1))], [.v false [.pr 0 [] 0]]⟩, 2⟩
def Q_DrawCells (l : List Int) (r : AE × XS) : Prop := ∃ (ws : List Int) (i : Nat) (h : Int), (ws.length ≤ 14 ∧ ∀ y ∈ ws, 0 ≤ y ∧ y < 9) ∧ r = (.exit 0, ⟨⟨[.bad, .bad, .bad, .v false [.sl 0 [] 0 ws.length], .bad, .bad, .bad, .bad, .bad, .bad, .bad, .bad, .bad, .bad, .bad, .bad, .bad, .bad], memL [some (.row 1 (cl .i64 ws)), some (.box [.ro l.length (cl .u8 l), .int .i64 i, .int .i64 h])], [.v false [.pr 1 [] 0]]⟩, 2⟩)
theorem loop_DrawCells (l : List Int) (hl : l.length ≤ 1048576) (i0 : Nat) (h0 : Int) : ∃ r, Q_DrawCells l r ∧ ∀ x, head true d101_0 x = S_DrawCells l (0, [], i0, h0) → X tab l101_0 x = some r := by
  refine loopE (S_DrawCells l) (fun s => 14 - s.1) (fun s => s.1 ≤ 14 ∧ s.2.1.length = s.1 ∧ ∀ y ∈ s.2.1, 0 ≤ y ∧ y < 9) (Q_DrawCells l) (fun ⟨k, ws, i, h⟩ ⟨hk, hlen, hws⟩ => ?_) (0, [], i0, h0) (by simp)
  simp only at hk hlen hws
  obtain ⟨x1, i1, g1, ⟨b1, c1⟩, e1⟩ := r_l1Below l hl i h 14
  have c1 := c1 (by omega)
  by_cases hlt : (k : Int) < x1
  · obtain ⟨x2, i2, g2, ⟨b2, c2⟩, e2⟩ := r_l1Below l hl i1 g1 9
    have c2 := c2 (by omega)
    have h4 : IntKind.i64.wrap ((k : Int) + 1) = ((k + 1 : Nat) : Int) := by rw [wrap_id (by omega) (by omega)]; omega
    have a1 : (ws.length + 1) * 8 ≤ 140737488355328 := by omega
    have a2 : (cl .i64 ws).length = ws.length := cl_length
    left
    simp (maxSteps := 4000000) -implicitDefEqProofs [b101_0, S_DrawCells, x_seq, x_cond, x_block, x_region, x_skip, x_exit, x_ret, head_id, runG, runOps, doOp, wantB, stepOp, AO.eff, pureOp, St.get, St.one, St.num, St.put, St.optNum, binA, binInt, List.take, List.drop, effOp2, effOp, memL_app, stoRow, cellsAt, toCells, toCell, scalar_int, scalar_bool, scalar_str, scalar_sl, updAt, fromRo, upd, callLend, lendBox, A1.ids, roArgs, roL, roA, A1.ownB, addMem_nil, List.range, List.range.loop, SV.map, ren, shift, upd, memL_app, srcCells, A1.slB, flat_int, cl_flat', St.parts, Eng.inB, reps, fillA, newRowSt, appSt, oldOf, rest, kill, mapMem, SV.map, Ob.map, e1, e2, hlt, h4, a1, a2, cl_app1, -Prod.exists]
    refine ⟨(k + 1, ws ++ [x2], i2, g2), ?_, by simp only; omega, by simp only; omega, by simp; omega, ?_⟩
    · simp only [S_DrawCells, List.length_append, List.length_singleton]
      change _ = _
      kernel_rfl
    · intro y hy
      simp only [List.mem_append, List.mem_singleton] at hy
      rcases hy with hy | rfl
      · exact hws y hy
      · exact ⟨b2, c2⟩
  · right
    simp (maxSteps := 4000000) -implicitDefEqProofs [b101_0, S_DrawCells, x_seq, x_cond, x_block, x_region, x_skip, x_exit, x_ret, head_id, runG, runOps, doOp, wantB, stepOp, AO.eff, pureOp, St.get, St.one, St.num, St.put, St.optNum, binA, binInt, List.take, List.drop, effOp2, effOp, memL_app, stoRow, cellsAt, toCells, toCell, scalar_int, scalar_bool, scalar_str, scalar_sl, updAt, fromRo, upd, callLend, lendBox, A1.ids, roArgs, roL, roA, A1.ownB, addMem_nil, List.range, List.range.loop, SV.map, ren, shift, upd, memL_app, e1, hlt, -Prod.exists]
    exact ⟨ws, i1, g1, ⟨by omega, hws⟩, by change _ = _; kernel_rfl⟩
theorem r_l19DrawCells (l : List Int) (hl : l.length ≤ 1048576) (i : Nat) (h : Int) :
    ∃ (ws : List Int) (i' : Nat) (h' : Int), (ws.length ≤ 14 ∧ ∀ y ∈ ws, 0 ≤ y ∧ y < 9) ∧ runLend (X tab) tab 101 [.ro l.length (cl .u8 l), .int .i64 i, .int .i64 h] [] = some (.v false [.sl 0 [] 0 ws.length], [.ro l.length (cl .u8 l), .int .i64 i', .int .i64 h'], [.row 1 (cl .i64 ws)]) := by
  obtain ⟨r, ⟨ws, i', h', hws, rfl⟩, hr⟩ := loop_DrawCells l hl i h
  refine ⟨ws, i', h', hws, ?_⟩
  unfold runLend
  simp (maxSteps := 4000000) -implicitDefEqProofs [tab101, a101, lendEnd, x_seq, x_cond, x_block, x_region, x_skip, x_exit, x_ret, head_id, runG, runOps, doOp, wantB, stepOp, AO.eff, pureOp, St.get, St.one, St.num, St.put, St.optNum, binA, binInt, List.take, List.drop, effOp2, effOp, memL_app, stoRow, cellsAt, toCells, toCell, scalar_int, scalar_bool, scalar_str, scalar_sl, updAt, fromRo, upd, srcCells, A1.slB, flat_int, cl_flat', St.parts, Eng.inB, reps, fillA, newRowSt, appSt, oldOf, rest, kill, mapMem, SV.map, Ob.map]
  rw [hr _ (by change _ = _; kernel_rfl)]
  simp (maxSteps := 4000000) -implicitDefEqProofs [x_seq, x_cond, x_block, x_region, x_skip, x_exit, x_ret, head_id, runG, runOps, doOp, wantB, stepOp, AO.eff, pureOp, St.get, St.one, St.num, St.put, St.optNum, binA, binInt, List.take, List.drop, effOp2, effOp, memL_app, stoRow, cellsAt, toCells, toCell, scalar_int, scalar_bool, scalar_str, scalar_sl, updAt, fromRo, upd, resOf, resSV, SV.map, SV.ids, A1.ids, reach, allObs, ren, pos, Ob.map, St.canon, memL, List.range, List.range.loop]
theorem r_DrawHotBook (l : List Int) (hl : l.length ≤ 1048576) : ∃ ws : List Int, (ws.length ≤ 14 ∧ ∀ y ∈ ws, 0 ≤ y ∧ y < 9) ∧ runRO (X tab) tab 32 [.v false [.ro l.length (cl .u8 l)]] = some (.v false [.sl 0 [] 0 ws.length], [.row 1 (cl .i64 ws)]) := by
  obtain ⟨h, e0⟩ := r_l1New l hl
  obtain ⟨ws, i', h', hws, e1⟩ := r_l19DrawCells l hl 0 h
  refine ⟨ws, hws, ?_⟩
  unfold runRO
  simp only [Int.ofNat_zero] at e0 e1
  simp (maxSteps := 4000000) -implicitDefEqProofs [tab32, a32, x_seq, x_cond, x_block, x_region, x_skip, x_exit, x_ret, head_id, runG, runOps, doOp, wantB, stepOp, AO.eff, pureOp, St.get, St.one, St.num, St.put, St.optNum, binA, binInt, List.take, List.drop, callRO, addMem_nil, roArgs, roL, roA, srcCells, A1.ownB, addMem, shift, ren, SV.map, Ob.map, Ob.noRo, SV.noRo, A1.noRo, List.range, List.range.loop, callLend, lendBox, A1.ids, roArgs, roL, roA, A1.ownB, addMem_nil, List.range, List.range.loop, SV.map, ren, shift, upd, memL_app, resOf, resSV, SV.map, SV.ids, A1.ids, reach, allObs, ren, pos, Ob.map, St.canon, memL, List.range, List.range.loop, e0, e1]
end Go.Proofs.Ytdagbeihjobmjaa.Eng.B
