/- Draws: marks' bytes and runs with something put in or taken away. -/
import Derived.Test.YtdagbeihjobmjaaBDraw7
namespace Go.Proofs.Ytdagbeihjobmjaa.Eng.B
set_option linter.unusedSimpArgs false
set_option linter.unusedVariables false
set_option maxHeartbeats 4000000
open Go.RowKit Go.Proofs

theorem runs_bad {m : List Int} (h : marksOk m = false) : runs m = [] := by
  unfold runs
  rw [if_neg (by simp [h])]
theorem r_BitsBytes_bad (m : List Int) (hm : m.length ≤ 1048576) (h : marksOk m = false) : runRO (X tab) tab 78 [.v false [.ro m.length (cl .i64 m)]] = some (.v false [.nil], []) := by
  have g1 := r_MarksOk m hm
  rw [h] at g1
  unfold runRO
  simp (maxSteps := 4000000) -implicitDefEqProofs [tab78, a78, x_seq, x_cond, x_block, x_region, x_skip, x_exit, x_ret, head_id, runG, runOps, doOp, wantB, stepOp, AO.eff, pureOp, St.get, St.one, St.num, St.put, St.optNum, binA, binInt, List.take, List.drop, callRO, addMem_nil, roArgs, roL, roA, srcCells, A1.ownB, addMem, shift, ren, SV.map, Ob.map, Ob.noRo, SV.noRo, A1.noRo, List.range, List.range.loop, resOf, resSV, SV.map, SV.ids, A1.ids, reach, allObs, ren, pos, Ob.map, St.canon, memL, List.range, List.range.loop, g1]
theorem r_sBitsBytes_bad (m : List Int) (hm : m.length ≤ 1048576) (h : marksOk m = false) : runRO (X tab) tab 83 [.v false [.ro m.length (cl .i64 m)]] = some (.v false [.sl 0 [] 0 0], [.row 1 []]) := by
  have g2 := r_sRuns m hm
  rw [runs_bad h] at g2
  simp only [List.length_nil, cl_nil] at g2
  unfold runRO
  simp (maxSteps := 4000000) -implicitDefEqProofs [tab83, a83, x_seq, x_cond, x_block, x_region, x_skip, x_exit, x_ret, head_id, runG, runOps, doOp, wantB, stepOp, AO.eff, pureOp, St.get, St.one, St.num, St.put, St.optNum, binA, binInt, List.take, List.drop, effOp2, effOp, memL_app, stoRow, cellsAt, toCells, toCell, scalar_int, scalar_bool, scalar_str, scalar_sl, updAt, fromRo, upd, srcCells, A1.slB, flat_int, cl_flat', St.parts, Eng.inB, reps, fillA, newRowSt, appSt, oldOf, rest, kill, mapMem, SV.map, Ob.map, callRO, addMem_nil, roArgs, roL, roA, srcCells, A1.ownB, addMem, shift, ren, SV.map, Ob.map, Ob.noRo, SV.noRo, A1.noRo, List.range, List.range.loop, resOf, resSV, SV.map, SV.ids, A1.ids, reach, allObs, ren, pos, Ob.map, St.canon, memL, List.range, List.range.loop, g2]
/-- The reference's bytes of marks, whatever they are. -/
theorem r_sBitsAny (m : List Int) (hm : m.length ≤ 1048576) : ∃ b : List Int, Bytes b ∧ b.length ≤ 10 ∧ runRO (X tab) tab 83 [.v false [.ro m.length (cl .i64 m)]] = some (.v false [.sl 0 [] 0 b.length], [.row 1 (cl .u8 b)]) := by
  cases h : marksOk m with
  | true =>
    obtain ⟨_, _, _, q1, _, q2⟩ := bits_read h
    exact ⟨bitsB m, q1, q2, r_sBitsBytes m hm h⟩
  | false => exact ⟨[], fun x hx => by simp at hx, by simp, r_sBitsBytes_bad m hm h⟩
theorem r_DrawBitsOf (l : List Int) (hl : l.length ≤ 1048576) : ∃ (k : Nat) (cs : List Int), (k ≤ cs.length ∧ cs.length ≤ 189982 ∧ Bytes cs) ∧ runRO (X tab) tab 79 [.v false [.ro l.length (cl .u8 l)]] = some (.v false [.sl 0 [] 0 k], [.row 1 (cl .u8 cs)]) := by
  obtain ⟨h, e0⟩ := r_l1New l hl
  obtain ⟨ws, i', h', hws, e1⟩ := r_l2DrawMarks l hl 0 h
  obtain ⟨b, hB, hbl, g1⟩ := r_sBitsAny ws (by omega)
  simp only [Int.ofNat_zero] at e0 e1
  have v4 : (cl .i64 ws).take ws.length = cl .i64 ws := cl_self
  unfold runRO
  simp (maxSteps := 4000000) -implicitDefEqProofs [tab79, a79, x_seq, x_cond, x_block, x_region, x_skip, x_exit, x_ret, head_id, runG, runOps, doOp, wantB, stepOp, AO.eff, pureOp, St.get, St.one, St.num, St.put, St.optNum, binA, binInt, List.take, List.drop, callRO, addMem_nil, roArgs, roL, roA, srcCells, A1.ownB, addMem, shift, ren, SV.map, Ob.map, Ob.noRo, SV.noRo, A1.noRo, List.range, List.range.loop, callLend, lendBox, A1.ids, roArgs, roL, roA, A1.ownB, addMem_nil, List.range, List.range.loop, SV.map, ren, shift, upd, memL_app, cellsAt, e0, e1, v4, cl_length, g1, getAll]
  obtain ⟨r, hr, ⟨u, k, cs, i2, h2, fx, m', nx', rfl, hfx, hmt, hk, hcl, hcB, hut, hmu, htn, hun, hf⟩⟩ := r_l4Dent l hl i' h' b hB (by omega) 128 448
    [.v false [.ro l.length (cl .u8 l)], .tup [], .v false [.nil], .v false [.pr 128 [] 0], .v false [.ro l.length (cl .u8 l)], .v false [.pr 128 [] 0], .v false [.pr 128 [] 0], .v false [.pr 128 [] 0], .v false [.sl 384 [] 0 ws.length], .v false [.sl 448 [] 0 b.length], .tup []]
    (addMem (upd (addMem (addMem (fun x => none) 128 [Ob.box [A1.ro l.length (cl IntKind.u8 l), A1.int IntKind.i64 0, A1.int IntKind.i64 h]]) 384 [Ob.row 1 (cl IntKind.i64 ws)]) 128 (some (Ob.box [A1.ro l.length (cl IntKind.u8 l), A1.int IntKind.i64 ↑i', A1.int IntKind.i64 h']))) 448 [Ob.row 1 (cl IntKind.u8 b)])
    [] 640 (by omega) (by omega) (by omega) (by simp [addMem, upd]) (by simp [addMem, Ob.map]) (fun j => by
      rw [freshB_addMem (.inl (by simp; omega)), freshB_upd (.inl (by omega)), freshB_addMem (.inl (by simp; omega)), freshB_addMem (.inl (by simp; omega)), freshB_none])
  rw [hr]
  refine ⟨k, cs, ⟨hk, by omega, hcB⟩, ?_⟩
  simp (maxSteps := 4000000) -implicitDefEqProofs [x_seq, x_cond, x_block, x_region, x_skip, x_exit, x_ret, head_id, runG, runOps, doOp, wantB, stepOp, AO.eff, pureOp, St.get, St.one, St.num, St.put, St.optNum, binA, binInt, List.take, List.drop, resOf, resSV, SV.map, SV.ids, A1.ids, reach, allObs, ren, pos, Ob.map, St.canon, memL, List.range, List.range.loop, hmu]
theorem r_DrawOfRuns (l : List Int) (hl : l.length ≤ 1048576) : ∃ ws : List Int, ws.length ≤ 10 ∧ runRO (X tab) tab 80 [.v false [.ro l.length (cl .u8 l)]] = some (.v false [.sl 0 [] 0 ws.length], [.row 1 (cl .i64 ws)]) := by
  obtain ⟨h, e0⟩ := r_l1New l hl
  obtain ⟨ms, i1, g1, hms, e1⟩ := r_l2DrawMarks l hl 0 h
  have e2 := r_sRuns ms (by omega)
  have hrl := runs_len ms
  generalize runs ms = ws at e2 hrl
  obtain ⟨x3, i3, g3, ⟨b3, c3⟩, e3⟩ := r_l1Below l hl i1 g1 5
  simp only [Int.ofNat_zero] at e0 e1
  have v4 : (cl .i64 ms).take ms.length = cl .i64 ms := cl_self
  have l0 : (cl .i64 ws).length = ws.length := cl_length
  have l1 : (cl .i64 ms).length = ms.length := cl_length
  by_cases h0 : x3 = 0
  · subst h0
    obtain ⟨x4, i4, g4, ⟨b4, c4⟩, e4⟩ := r_l1Below l hl i3 g3 3
    have bb : (ws.length + 1) * 8 ≤ 140737488355328 := by omega
    refine ⟨ws ++ [x4], by simp; omega, ?_⟩
    unfold runRO
    simp (maxSteps := 4000000) -implicitDefEqProofs [tab80, a80, x_seq, x_cond, x_block, x_region, x_skip, x_exit, x_ret, head_id, runG, runOps, doOp, wantB, stepOp, AO.eff, pureOp, St.get, St.one, St.num, St.put, St.optNum, binA, binInt, List.take, List.drop, effOp2, effOp, memL_app, stoRow, cellsAt, toCells, toCell, scalar_int, scalar_bool, scalar_str, scalar_sl, updAt, fromRo, upd, srcCells, A1.slB, flat_int, cl_flat', St.parts, Eng.inB, reps, fillA, newRowSt, appSt, oldOf, rest, kill, mapMem, SV.map, Ob.map, callRO, addMem_nil, roArgs, roL, roA, srcCells, A1.ownB, addMem, shift, ren, SV.map, Ob.map, Ob.noRo, SV.noRo, A1.noRo, List.range, List.range.loop, callLend, lendBox, A1.ids, roArgs, roL, roA, A1.ownB, addMem_nil, List.range, List.range.loop, SV.map, ren, shift, upd, memL_app, resOf, resSV, SV.map, SV.ids, A1.ids, reach, allObs, ren, pos, Ob.map, St.canon, memL, List.range, List.range.loop, cellsAt, e0, e1, e2, e3, e4, v4, l0, l1, bb, cl_app1]
  · by_cases h1 : x3 = 1
    · subst h1
      by_cases hw0 : ws.length = 0
      · have hz : ¬ 0 < ws.length := by omega
        refine ⟨ws, by omega, ?_⟩
        unfold runRO
        simp (maxSteps := 4000000) -implicitDefEqProofs [tab80, a80, x_seq, x_cond, x_block, x_region, x_skip, x_exit, x_ret, head_id, runG, runOps, doOp, wantB, stepOp, AO.eff, pureOp, St.get, St.one, St.num, St.put, St.optNum, binA, binInt, List.take, List.drop, effOp2, effOp, memL_app, stoRow, cellsAt, toCells, toCell, scalar_int, scalar_bool, scalar_str, scalar_sl, updAt, fromRo, upd, srcCells, A1.slB, flat_int, cl_flat', St.parts, Eng.inB, reps, fillA, newRowSt, appSt, oldOf, rest, kill, mapMem, SV.map, Ob.map, callRO, addMem_nil, roArgs, roL, roA, srcCells, A1.ownB, addMem, shift, ren, SV.map, Ob.map, Ob.noRo, SV.noRo, A1.noRo, List.range, List.range.loop, callLend, lendBox, A1.ids, roArgs, roL, roA, A1.ownB, addMem_nil, List.range, List.range.loop, SV.map, ren, shift, upd, memL_app, resOf, resSV, SV.map, SV.ids, A1.ids, reach, allObs, ren, pos, Ob.map, St.canon, memL, List.range, List.range.loop, cellsAt, e0, e1, e2, e3, v4, l0, l1, h0, hw0, hz]
        skip
      · have hz : 0 < ws.length := by omega
        have hz' : ¬ ws = [] := fun e => hw0 (by rw [e]; rfl)
        obtain ⟨x4, i4, g4, ⟨b4, c4⟩, e4⟩ := r_l1Below l hl i3 g3 ws.length
        have c4 := c4 (by omega)
        obtain ⟨j, rfl⟩ : ∃ j : Nat, x4 = j := ⟨x4.toNat, by omega⟩
        obtain ⟨x5, i5, g5, hx5, e5⟩ := r_l1PickInt l hl i4 g4 [-1, 0, 2, 9, 9223372036854775807] (by simp) (by simp)
        have e5' : ∀ (t u : Nat) (sl : List SV) (m : Mem) (up : List SV) (nx : Nat), t ≠ u → m t = some (.box [.ro l.length (cl .u8 l), .int .i64 i4, .int .i64 g4]) → m u = some (.row 1 [.int .i64 (-1), .int .i64 0, .int .i64 2, .int .i64 9, .int .i64 9223372036854775807]) → runThru (X tab) tab 104 [.v false [.pr t [] 0], .v false [.sl u [] 0 5]] ⟨⟨sl, m, up⟩, nx⟩ = some (.v false [.int .i64 x5], ⟨⟨sl, upd m t (some (.box [.ro l.length (cl .u8 l), .int .i64 i5, .int .i64 g5])), up⟩, nx + 576⟩) := e5
        have hj : j < ws.length := by omega
        have hj1 : j + 1 ≤ ws.length := by omega
        have hj' : (j : Int) < (ws.length : Int) := by omega
        refine ⟨ws.take j ++ x5 :: ws.drop (j + 1), by simp; omega, ?_⟩
        unfold runRO
        simp (maxSteps := 4000000) -implicitDefEqProofs [tab80, a80, x_seq, x_cond, x_block, x_region, x_skip, x_exit, x_ret, head_id, runG, runOps, doOp, wantB, stepOp, AO.eff, pureOp, St.get, St.one, St.num, St.put, St.optNum, binA, binInt, List.take, List.drop, effOp2, effOp, memL_app, stoRow, cellsAt, toCells, toCell, scalar_int, scalar_bool, scalar_str, scalar_sl, updAt, fromRo, upd, srcCells, A1.slB, flat_int, cl_flat', St.parts, Eng.inB, reps, fillA, newRowSt, appSt, oldOf, rest, kill, mapMem, SV.map, Ob.map, callRO, addMem_nil, roArgs, roL, roA, srcCells, A1.ownB, addMem, shift, ren, SV.map, Ob.map, Ob.noRo, SV.noRo, A1.noRo, List.range, List.range.loop, callLend, lendBox, A1.ids, roArgs, roL, roA, A1.ownB, addMem_nil, List.range, List.range.loop, SV.map, ren, shift, upd, memL_app, resOf, resSV, SV.map, SV.ids, A1.ids, reach, allObs, ren, pos, Ob.map, St.canon, memL, List.range, List.range.loop, cellsAt, spl, e0, e1, e2, e3, e4, e5', v4, l0, l1, h0, hz, hz', hj, hj1, hj', getAll]
        exact ⟨by omega, by simp [cl]⟩
    · refine ⟨ws, by omega, ?_⟩
      unfold runRO
      simp (maxSteps := 4000000) -implicitDefEqProofs [tab80, a80, x_seq, x_cond, x_block, x_region, x_skip, x_exit, x_ret, head_id, runG, runOps, doOp, wantB, stepOp, AO.eff, pureOp, St.get, St.one, St.num, St.put, St.optNum, binA, binInt, List.take, List.drop, effOp2, effOp, memL_app, stoRow, cellsAt, toCells, toCell, scalar_int, scalar_bool, scalar_str, scalar_sl, updAt, fromRo, upd, srcCells, A1.slB, flat_int, cl_flat', St.parts, Eng.inB, reps, fillA, newRowSt, appSt, oldOf, rest, kill, mapMem, SV.map, Ob.map, callRO, addMem_nil, roArgs, roL, roA, srcCells, A1.ownB, addMem, shift, ren, SV.map, Ob.map, Ob.noRo, SV.noRo, A1.noRo, List.range, List.range.loop, callLend, lendBox, A1.ids, roArgs, roL, roA, A1.ownB, addMem_nil, List.range, List.range.loop, SV.map, ren, shift, upd, memL_app, resOf, resSV, SV.map, SV.ids, A1.ids, reach, allObs, ren, pos, Ob.map, St.canon, memL, List.range, List.range.loop, cellsAt, e0, e1, e2, e3, v4, l0, l1, h0, h1]
end Go.Proofs.Ytdagbeihjobmjaa.Eng.B
