/- Draws: turns, and books with something put in or taken away. -/
import Derived.Test.YtdagbeihjobmjaaBDent
import Derived.Test.YtdagbeihjobmjaaBDraw3
import Derived.Test.YtdagbeihjobmjaaBTornG
namespace Go.Proofs.Ytdagbeihjobmjaa.Eng.B
set_option linter.unusedSimpArgs false
set_option linter.unusedVariables false
set_option maxHeartbeats 4000000
open Go.RowKit Go.Proofs

theorem r_DrawHotReplay (l : List Int) (hl : l.length ≤ 1048576) : ∃ (k : Nat) (cs : List Int), (k ≤ cs.length ∧ cs.length ≤ 189982 ∧ Bytes cs) ∧ runRO (X tab) tab 84 [.v false [.ro l.length (cl .u8 l)]] = some (.v false [.sl 0 [] 0 k], [.row 1 (cl .u8 cs)]) := by
  obtain ⟨h, e0⟩ := r_l1New l hl
  obtain ⟨ws, i', h', ⟨hws, _⟩, e1⟩ := r_l19DrawCells l hl 0 h
  have g1 := r_sHotBook ws (by omega)
  have hbl := book_length ws ([], [], 1) (by simp) (by simp)
  have hB := Bytes_book ws ([], [], 1) (fun x hx => by simp at hx)
  generalize (bookF ([], [], 1) ws).1 = b at g1 hbl hB
  simp only [Int.ofNat_zero] at e0 e1
  have v4 : (cl .i64 ws).take ws.length = cl .i64 ws := cl_self
  have hd := fun t u sl m up nx => r_l4Dent l hl i' h' b hB (by omega) t u sl m up nx
  unfold runRO
  simp (maxSteps := 4000000) -implicitDefEqProofs [tab84, a84, x_seq, x_cond, x_block, x_region, x_skip, x_exit, x_ret, head_id, runG, runOps, doOp, wantB, stepOp, AO.eff, pureOp, St.get, St.one, St.num, St.put, St.optNum, binA, binInt, List.take, List.drop, callRO, addMem_nil, roArgs, roL, roA, srcCells, A1.ownB, addMem, shift, ren, SV.map, Ob.map, Ob.noRo, SV.noRo, A1.noRo, List.range, List.range.loop, callLend, lendBox, A1.ids, roArgs, roL, roA, A1.ownB, addMem_nil, List.range, List.range.loop, SV.map, ren, shift, upd, memL_app, cellsAt, e0, e1, v4, cl_length, g1, getAll]
  obtain ⟨r, hr, ⟨u, k, cs, i2, h2, fx, m', nx', rfl, hfx, hmt, hk, hcl, hcB, hut, hmu, htn, hun, hf⟩⟩ := r_l4Dent l hl i' h' b hB (by omega) 128 448
    [.v false [.ro l.length (cl .u8 l)], .tup [], .v false [.nil], .v false [.pr 128 [] 0], .v false [.ro l.length (cl .u8 l)], .v false [.pr 128 [] 0], .v false [.pr 128 [] 0], .v false [.pr 128 [] 0], .v false [.sl 384 [] 0 ws.length], .v false [.sl 448 [] 0 b.length], .tup []]
    (addMem (upd (addMem (addMem (fun x => none) 128 [Ob.box [A1.ro l.length (cl IntKind.u8 l), A1.int IntKind.i64 0, A1.int IntKind.i64 h]]) 384 [Ob.row 1 (cl IntKind.i64 ws)]) 128 (some (Ob.box [A1.ro l.length (cl IntKind.u8 l), A1.int IntKind.i64 ↑i', A1.int IntKind.i64 h']))) 448 [Ob.row 1 (cl IntKind.u8 b)])
    [] 640 (by omega) (by omega) (by omega) (by simp [addMem, upd]) (by simp [addMem, Ob.map]) (fun j => by
      rw [freshB_addMem (.inl (by simp; omega)), freshB_upd (.inl (by omega)), freshB_addMem (.inl (by simp; omega)), freshB_addMem (.inl (by simp; omega)), freshB_none])
  rw [hr]
  refine ⟨k, cs, ⟨hk, by omega, hcB⟩, ?_⟩
  simp (maxSteps := 4000000) -implicitDefEqProofs [x_seq, x_cond, x_block, x_region, x_skip, x_exit, x_ret, head_id, runG, runOps, doOp, wantB, stepOp, AO.eff, pureOp, St.get, St.one, St.num, St.put, St.optNum, binA, binInt, List.take, List.drop, resOf, resSV, SV.map, SV.ids, A1.ids, reach, allObs, ren, pos, Ob.map, St.canon, memL, List.range, List.range.loop, hmu]
theorem r_DrawTurnOf (l : List Int) (hl : l.length ≤ 1048576) : ∃ (k : Nat) (cs : List Int) (x : Int), (k ≤ cs.length ∧ cs.length ≤ 189982 ∧ Bytes cs ∧ x ≤ 9223372036854775807) ∧ runRO (X tab) tab 38 [.v false [.ro l.length (cl .u8 l)]] = some (.tup [(false, [.sl 0 [] 0 k]), (false, [.int .i64 x])], [.row 1 (cl .u8 cs)]) := by
  obtain ⟨h, e0⟩ := r_l1New l hl
  obtain ⟨ws, i', h', ⟨hws, _⟩, e1⟩ := r_l19DrawCells l hl 0 h
  have g1 := r_sHotBook ws (by omega)
  have hbl := book_length ws ([], [], 1) (by simp) (by simp)
  have hB := Bytes_book ws ([], [], 1) (fun x hx => by simp at hx)
  generalize (bookF ([], [], 1) ws).1 = b at g1 hbl hB
  simp only [Int.ofNat_zero] at e0 e1
  have v4 : (cl .i64 ws).take ws.length = cl .i64 ws := cl_self
  unfold runRO
  simp (maxSteps := 4000000) -implicitDefEqProofs [tab38, a38, x_seq, x_cond, x_block, x_region, x_skip, x_exit, x_ret, head_id, runG, runOps, doOp, wantB, stepOp, AO.eff, pureOp, St.get, St.one, St.num, St.put, St.optNum, binA, binInt, List.take, List.drop, callRO, addMem_nil, roArgs, roL, roA, srcCells, A1.ownB, addMem, shift, ren, SV.map, Ob.map, Ob.noRo, SV.noRo, A1.noRo, List.range, List.range.loop, callLend, lendBox, A1.ids, roArgs, roL, roA, A1.ownB, addMem_nil, List.range, List.range.loop, SV.map, ren, shift, upd, memL_app, cellsAt, e0, e1, v4, cl_length, g1, getAll]
  obtain ⟨r, hr, ⟨u, k, cs, i2, h2, fx, m', nx', rfl, hfx, hmt, hk, hcl, hcB, hut, hmu, htn, hun, hf⟩⟩ := r_l4Dent l hl i' h' b hB (by omega) 192 512
    [.v false [.ro l.length (cl .u8 l)], .tup [], .v false [.nil], .v false [.int .i64 0], .v false [.pr 192 [] 0], .tup [], .v false [.ro l.length (cl .u8 l)], .v false [.pr 192 [] 0], .v false [.pr 192 [] 0], .v false [.pr 192 [] 0], .v false [.sl 448 [] 0 ws.length], .v false [.sl 512 [] 0 b.length], .tup [], .tup [], .tup [], .tup [], .tup [], .tup [], .tup []]
    (addMem (upd (addMem (addMem (fun x => none) 192 [Ob.box [A1.ro l.length (cl IntKind.u8 l), A1.int IntKind.i64 0, A1.int IntKind.i64 h]]) 448 [Ob.row 1 (cl IntKind.i64 ws)]) 192 (some (Ob.box [A1.ro l.length (cl IntKind.u8 l), A1.int IntKind.i64 ↑i', A1.int IntKind.i64 h']))) 512 [Ob.row 1 (cl IntKind.u8 b)])
    [] 704 (by omega) (by omega) (by omega) (by simp [addMem, upd]) (by simp [addMem, Ob.map]) (fun j => by
      rw [freshB_addMem (.inl (by simp; omega)), freshB_upd (.inl (by omega)), freshB_addMem (.inl (by simp; omega)), freshB_addMem (.inl (by simp; omega)), freshB_none])
  rw [hr]
  obtain ⟨x3, i3, g3, hx3, e3⟩ := r_l1PickInt l hl i2 h2 [0, 0, 7, 1, (k : Int), -1, 9223372036854775807] (by simp) (by simp)
  have e3' : ∀ (t u : Nat) (sl : List SV) (m : Mem) (up : List SV) (nx : Nat), t ≠ u → m t = some (.box [.ro l.length (cl .u8 l), .int .i64 i2, .int .i64 h2]) → m u = some (.row 1 [.int .i64 (0), .int .i64 (0), .int .i64 (7), .int .i64 (1), .int .i64 ((k : Int)), .int .i64 (-1), .int .i64 (9223372036854775807)]) → runThru (X tab) tab 104 [.v false [.pr t [] 0], .v false [.sl u [] 0 7]] ⟨⟨sl, m, up⟩, nx⟩ = some (.v false [.int .i64 x3], ⟨⟨sl, upd m t (some (.box [.ro l.length (cl .u8 l), .int .i64 i3, .int .i64 g3])), up⟩, nx + 576⟩) := e3
  have hx4 : x3 ≤ 9223372036854775807 := by
    simp only [List.mem_cons, List.not_mem_nil, or_false] at hx3
    omega
  have hfm : ∀ j, m' (nx' + j) = none := fun j => by have := freshB_spec (hf j) (i := 0) (by omega); simpa using this
  have ne1 : ∀ j, ¬ nx' + j = 192 := fun j => by omega
  have ne2 : ∀ j, ¬ nx' + j = u := fun j => by omega
  have ne3 : ∀ j, ¬ 192 = nx' + j := fun j => by omega
  have ne4 : ∀ j, ¬ u = nx' + j := fun j => by omega
  have hut' : ¬ 192 = u := fun e => hut e.symm
  refine ⟨k, cs, x3, ⟨hk, by omega, hcB, hx4⟩, ?_⟩
  rcases hfx with rfl | rfl
  · simp (maxSteps := 4000000) -implicitDefEqProofs [x_seq, x_cond, x_block, x_region, x_skip, x_exit, x_ret, head_id, runG, runOps, doOp, wantB, stepOp, AO.eff, pureOp, St.get, St.one, St.num, St.put, St.optNum, binA, binInt, List.take, List.drop, effOp2, effOp, memL_app, stoRow, cellsAt, toCells, toCell, scalar_int, scalar_bool, scalar_str, scalar_sl, updAt, fromRo, upd, srcCells, A1.slB, flat_int, cl_flat', St.parts, Eng.inB, reps, fillA, newRowSt, appSt, oldOf, rest, kill, mapMem, SV.map, Ob.map, resOf, resSV, SV.map, SV.ids, A1.ids, reach, allObs, ren, pos, Ob.map, St.canon, memL, List.range, List.range.loop, Nat.add_assoc, hmu, hmt, hfm, e3', ne1, ne2, ne3, ne4, hut, hut', getAll]
  · simp (maxSteps := 4000000) -implicitDefEqProofs [x_seq, x_cond, x_block, x_region, x_skip, x_exit, x_ret, head_id, runG, runOps, doOp, wantB, stepOp, AO.eff, pureOp, St.get, St.one, St.num, St.put, St.optNum, binA, binInt, List.take, List.drop, effOp2, effOp, memL_app, stoRow, cellsAt, toCells, toCell, scalar_int, scalar_bool, scalar_str, scalar_sl, updAt, fromRo, upd, srcCells, A1.slB, flat_int, cl_flat', St.parts, Eng.inB, reps, fillA, newRowSt, appSt, oldOf, rest, kill, mapMem, SV.map, Ob.map, resOf, resSV, SV.map, SV.ids, A1.ids, reach, allObs, ren, pos, Ob.map, St.canon, memL, List.range, List.range.loop, Nat.add_assoc, hmu, hmt, hfm, e3', ne1, ne2, ne3, ne4, hut, hut', getAll]
theorem r_DrawTurnBytes (l : List Int) (hl : l.length ≤ 1048576) : ∃ (a o n : Int), (-1 ≤ a ∧ a ≤ 4 ∧ -2 ≤ o ∧ o ≤ 4 ∧ n ∈ [(1 : Int), 2, 300, 9999, 10000, 0, -1]) ∧ runRO (X tab) tab 36 [.v false [.ro l.length (cl .u8 l)]] = some (.tup [(false, [.int .i64 a]), (false, [.int .i64 o]), (false, [.int .i64 n])], []) := by
  obtain ⟨h, e0⟩ := r_l1New l hl
  obtain ⟨x1, i1, g1, ⟨b1, c1⟩, e1⟩ := r_l1Below l hl 0 h 6
  obtain ⟨x2, i2, g2, ⟨b2, c2⟩, e2⟩ := r_l1Below l hl i1 g1 7
  obtain ⟨x3, i3, g3, hx3, e3⟩ := r_l1PickInt l hl i2 g2 [1, 2, 300, 9999, 10000, 0, -1] (by simp) (by simp)
  have c1 := c1 (by omega)
  have c2 := c2 (by omega)
  have w1 : IntKind.i64.wrap (x1 - 1) = x1 - 1 := wrap_id (by omega) (by omega)
  have w2 : IntKind.i64.wrap (x2 - 2) = x2 - 2 := wrap_id (by omega) (by omega)
  simp only [Int.ofNat_zero] at e0 e1
  have e3' : ∀ (t u : Nat) (sl : List SV) (m : Mem) (up : List SV) (nx : Nat), t ≠ u → m t = some (.box [.ro l.length (cl .u8 l), .int .i64 i2, .int .i64 g2]) → m u = some (.row 1 [.int .i64 (1), .int .i64 (2), .int .i64 (300), .int .i64 (9999), .int .i64 (10000), .int .i64 (0), .int .i64 (-1)]) → runThru (X tab) tab 104 [.v false [.pr t [] 0], .v false [.sl u [] 0 7]] ⟨⟨sl, m, up⟩, nx⟩ = some (.v false [.int .i64 x3], ⟨⟨sl, upd m t (some (.box [.ro l.length (cl .u8 l), .int .i64 i3, .int .i64 g3])), up⟩, nx + 576⟩) := e3
  refine ⟨x1 - 1, x2 - 2, x3, ⟨by omega, by omega, by omega, by omega, hx3⟩, ?_⟩
  unfold runRO
  simp (maxSteps := 4000000) -implicitDefEqProofs [tab36, a36, x_seq, x_cond, x_block, x_region, x_skip, x_exit, x_ret, head_id, runG, runOps, doOp, wantB, stepOp, AO.eff, pureOp, St.get, St.one, St.num, St.put, St.optNum, binA, binInt, List.take, List.drop, effOp2, effOp, memL_app, stoRow, cellsAt, toCells, toCell, scalar_int, scalar_bool, scalar_str, scalar_sl, updAt, fromRo, upd, srcCells, A1.slB, flat_int, cl_flat', St.parts, Eng.inB, reps, fillA, newRowSt, appSt, oldOf, rest, kill, mapMem, SV.map, Ob.map, callRO, addMem_nil, roArgs, roL, roA, srcCells, A1.ownB, addMem, shift, ren, SV.map, Ob.map, Ob.noRo, SV.noRo, A1.noRo, List.range, List.range.loop, callLend, lendBox, A1.ids, roArgs, roL, roA, A1.ownB, addMem_nil, List.range, List.range.loop, SV.map, ren, shift, upd, memL_app, resOf, resSV, SV.map, SV.ids, A1.ids, reach, allObs, ren, pos, Ob.map, St.canon, memL, List.range, List.range.loop, e0, e1, e2, e3', w1, w2, getAll]
end Go.Proofs.Ytdagbeihjobmjaa.Eng.B
