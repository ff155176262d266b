/- Draws: blocks. -/
import Derived.Test.YtnbgdddcbmlcpaaADraw2
namespace Go.Proofs.Ytnbgdddcbmlcpaa.Eng.A
set_option linter.unusedSimpArgs false
set_option linter.unusedVariables false
open Go.RowKit Go.Proofs

def S_Draw17 (l : List Int) (n : Int) (s : Nat × List Int × Nat × Int) : XS := ⟨⟨[.v false [.pr 0 [] 0], .bad, .bad, .v false [.int .i64 (n)], .v false [.sl 1 [] 0 s.2.1.length], .v false [.int .i64 (s.1)], .bad, .bad, .bad, .bad, .bad, .bad, .bad, .bad, .bad, .bad, .bad, .bad, .bad, .bad, .bad, .bad, .bad], memL [some (.box [.ro l.length (cl .u8 l), .int .i64 s.2.2.1, .int .i64 s.2.2.2]), some (.row 1 (cl .u8 s.2.1))], [.v false [.pr 0 [] 0]]⟩, 2⟩
def Q_Draw17 (l : List Int) (r : AE × XS) : Prop := ∃ (bs : List Int) (i : Nat) (h : Int), bs.length ≤ 12 ∧ r = (.exit 0, ⟨⟨[.bad, .bad, .bad, .bad, .v false [.sl 0 [] 0 bs.length], .bad, .bad, .bad, .bad, .bad, .bad, .bad, .bad, .bad, .bad, .bad, .bad, .bad, .bad, .bad, .bad, .bad, .bad], memL [some (.row 1 (cl .u8 bs)), some (.box [.ro l.length (cl .u8 l), .int .i64 i, .int .i64 h])], [.v false [.pr 1 [] 0]]⟩, 2⟩)
theorem loop_Draw17 (l : List Int) (hl : l.length ≤ 1048576) (n : Int) (hn : n ≤ 12) (i0 : Nat) (h0 : Int) : ∃ r, Q_Draw17 l r ∧ ∀ x, head true d63_0 x = S_Draw17 l n (0, [], i0, h0) → X tab l63_0 x = some r := by
  refine loopE (S_Draw17 l n) (fun s => 12 - s.1) (fun s => s.1 ≤ 12 ∧ s.2.1.length = s.1) (Q_Draw17 l) (fun ⟨k, ws, i, h⟩ ⟨hk, hlen⟩ => ?_) (0, [], i0, h0) (by simp)
  simp only at hk hlen
  by_cases hlt : (k : Int) < n
  · obtain ⟨x2, i2, g2, ⟨b2, c2⟩, e2⟩ := r_l1Below l hl i h 256
    have h4 : IntKind.i64.wrap ((k : Int) + 1) = ((k + 1 : Nat) : Int) := by rw [wrap_id (by omega) (by omega)]; omega
    have a1 : ws.length + 1 ≤ 140737488355328 := by omega
    have a2 : (cl .u8 ws).length = ws.length := cl_length
    left
    generalize hy : IntKind.u8.wrap x2 = y
    simp (maxSteps := 4000000) -implicitDefEqProofs [b63_0, S_Draw17, x_seq, x_cond, x_block, x_region, x_skip, x_exit, x_ret, head_id, runG, runOps, doOp, wantB, stepOp, AO.eff, pureOp, St.get, St.one, St.num, St.put, St.optNum, binA, binInt, List.take, List.drop, effOp2, effOp, memL_app, stoRow, cellsAt, toCells, toCell, scalar_int, scalar_bool, scalar_str, scalar_sl, updAt, fromRo, upd, callLend, lendBox, A1.ids, roArgs, roL, roA, A1.ownB, addMem_nil, List.range, List.range.loop, SV.map, ren, shift, upd, memL_app, srcCells, A1.slB, flat_int, cl_flat', St.parts, Eng.inB, reps, fillA, newRowSt, appSt, oldOf, rest, kill, mapMem, SV.map, Ob.map, e2, hlt, h4, a1, a2, hy, cl_app1, -Prod.exists]
    refine ⟨(k + 1, ws ++ [y], i2, g2), ?_, by simp only; omega, by simp only; omega, by simp; omega⟩
    simp only [S_Draw17, List.length_append, List.length_singleton]
    change _ = _
    kernel_rfl
  · right
    simp (maxSteps := 4000000) -implicitDefEqProofs [b63_0, S_Draw17, x_seq, x_cond, x_block, x_region, x_skip, x_exit, x_ret, head_id, runG, runOps, doOp, wantB, stepOp, AO.eff, pureOp, St.get, St.one, St.num, St.put, St.optNum, binA, binInt, List.take, List.drop, effOp2, effOp, memL_app, stoRow, cellsAt, toCells, toCell, scalar_int, scalar_bool, scalar_str, scalar_sl, updAt, fromRo, upd, callLend, lendBox, A1.ids, roArgs, roL, roA, A1.ownB, addMem_nil, List.range, List.range.loop, SV.map, ren, shift, upd, memL_app, hlt, -Prod.exists]
    exact ⟨ws, i, h, by omega, by change _ = _; kernel_rfl⟩
theorem r_l17Draw (l : List Int) (hl : l.length ≤ 1048576) (i : Nat) (h : Int) :
    ∃ (bs : List Int) (i' : Nat) (h' : Int), bs.length ≤ 12 ∧ runLend (X tab) tab 63 [.ro l.length (cl .u8 l), .int .i64 i, .int .i64 h] [] = some (.v false [.sl 0 [] 0 bs.length], [.ro l.length (cl .u8 l), .int .i64 i', .int .i64 h'], [.row 1 (cl .u8 bs)]) := by
  obtain ⟨t, i1, g1, e1⟩ := r_l1Once l hl i h 8
  cases t with
  | false =>
    obtain ⟨r, ⟨bs, i', h', hb, rfl⟩, hr⟩ := loop_Draw17 l hl 8 (by omega) i1 g1
    refine ⟨bs, i', h', hb, ?_⟩
    unfold runLend
    simp (maxSteps := 4000000) -implicitDefEqProofs [tab63, a63, lendEnd, x_seq, x_cond, x_block, x_region, x_skip, x_exit, x_ret, head_id, runG, runOps, doOp, wantB, stepOp, AO.eff, pureOp, St.get, St.one, St.num, St.put, St.optNum, binA, binInt, List.take, List.drop, effOp2, effOp, memL_app, stoRow, cellsAt, toCells, toCell, scalar_int, scalar_bool, scalar_str, scalar_sl, updAt, fromRo, upd, srcCells, A1.slB, flat_int, cl_flat', St.parts, Eng.inB, reps, fillA, newRowSt, appSt, oldOf, rest, kill, mapMem, SV.map, Ob.map, callLend, lendBox, A1.ids, roArgs, roL, roA, A1.ownB, addMem_nil, List.range, List.range.loop, SV.map, ren, shift, upd, memL_app, e1]
    rw [hr _ (by change _ = _; kernel_rfl)]
    simp (maxSteps := 4000000) -implicitDefEqProofs [x_seq, x_cond, x_block, x_region, x_skip, x_exit, x_ret, head_id, runG, runOps, doOp, wantB, stepOp, AO.eff, pureOp, St.get, St.one, St.num, St.put, St.optNum, binA, binInt, List.take, List.drop, effOp2, effOp, memL_app, stoRow, cellsAt, toCells, toCell, scalar_int, scalar_bool, scalar_str, scalar_sl, updAt, fromRo, upd, resOf, resSV, SV.map, SV.ids, A1.ids, reach, allObs, ren, pos, Ob.map, St.canon, memL, List.range, List.range.loop]
  | true =>
    obtain ⟨x2, i2, g2, ⟨b2, c2⟩, e2⟩ := r_l1Below l hl i1 g1 12
    have c2 := c2 (by omega)
    obtain ⟨r, ⟨bs, i', h', hb, rfl⟩, hr⟩ := loop_Draw17 l hl x2 (by omega) i2 g2
    refine ⟨bs, i', h', hb, ?_⟩
    unfold runLend
    simp (maxSteps := 4000000) -implicitDefEqProofs [tab63, a63, lendEnd, x_seq, x_cond, x_block, x_region, x_skip, x_exit, x_ret, head_id, runG, runOps, doOp, wantB, stepOp, AO.eff, pureOp, St.get, St.one, St.num, St.put, St.optNum, binA, binInt, List.take, List.drop, effOp2, effOp, memL_app, stoRow, cellsAt, toCells, toCell, scalar_int, scalar_bool, scalar_str, scalar_sl, updAt, fromRo, upd, srcCells, A1.slB, flat_int, cl_flat', St.parts, Eng.inB, reps, fillA, newRowSt, appSt, oldOf, rest, kill, mapMem, SV.map, Ob.map, callLend, lendBox, A1.ids, roArgs, roL, roA, A1.ownB, addMem_nil, List.range, List.range.loop, SV.map, ren, shift, upd, memL_app, e1, e2]
    rw [hr _ (by change _ = _; kernel_rfl)]
    simp (maxSteps := 4000000) -implicitDefEqProofs [x_seq, x_cond, x_block, x_region, x_skip, x_exit, x_ret, head_id, runG, runOps, doOp, wantB, stepOp, AO.eff, pureOp, St.get, St.one, St.num, St.put, St.optNum, binA, binInt, List.take, List.drop, effOp2, effOp, memL_app, stoRow, cellsAt, toCells, toCell, scalar_int, scalar_bool, scalar_str, scalar_sl, updAt, fromRo, upd, resOf, resSV, SV.map, SV.ids, A1.ids, reach, allObs, ren, pos, Ob.map, St.canon, memL, List.range, List.range.loop]
def S_Data17 (l : List Int) (n : Int) (s : Nat × List Int × Nat × Int) : XS := ⟨⟨[.v false [.pr 0 [] 0], .bad, .bad, .bad, .bad, .v false [.sl 1 [] 0 s.2.1.length], .v false [.int .i64 (n)], .v false [.int .i64 (s.1)], .bad, .bad, .bad, .bad, .bad, .bad, .bad, .bad, .bad, .bad, .bad, .bad, .bad, .bad, .bad, .bad, .bad, .bad], memL [some (.box [.ro l.length (cl .u8 l), .int .i64 s.2.2.1, .int .i64 s.2.2.2]), some (.row 1 (cl .u8 s.2.1))], [.v false [.pr 0 [] 0]]⟩, 2⟩
def Q_Data17 (l : List Int) (r : AE × XS) : Prop := ∃ (bs : List Int) (i : Nat) (h : Int), bs.length ≤ 12 ∧ r = (.exit 0, ⟨⟨[.bad, .bad, .bad, .bad, .bad, .v false [.sl 0 [] 0 bs.length], .bad, .bad, .bad, .bad, .bad, .bad, .bad, .bad, .bad, .bad, .bad, .bad, .bad, .bad, .bad, .bad, .bad, .bad, .bad, .bad], memL [some (.row 1 (cl .u8 bs)), some (.box [.ro l.length (cl .u8 l), .int .i64 i, .int .i64 h])], [.v false [.pr 1 [] 0]]⟩, 2⟩)
theorem loop_Data17 (l : List Int) (hl : l.length ≤ 1048576) (n : Int) (hn : n ≤ 12) (i0 : Nat) (h0 : Int) : ∃ r, Q_Data17 l r ∧ ∀ x, head true d65_0 x = S_Data17 l n (0, [], i0, h0) → X tab l65_0 x = some r := by
  refine loopE (S_Data17 l n) (fun s => 12 - s.1) (fun s => s.1 ≤ 12 ∧ s.2.1.length = s.1) (Q_Data17 l) (fun ⟨k, ws, i, h⟩ ⟨hk, hlen⟩ => ?_) (0, [], i0, h0) (by simp)
  simp only at hk hlen
  by_cases hlt : (k : Int) < n
  · obtain ⟨x2, i2, g2, ⟨b2, c2⟩, e2⟩ := r_l1Below l hl i h 26
    have h4 : IntKind.i64.wrap ((k : Int) + 1) = ((k + 1 : Nat) : Int) := by rw [wrap_id (by omega) (by omega)]; omega
    have a1 : ws.length + 1 ≤ 140737488355328 := by omega
    have a2 : (cl .u8 ws).length = ws.length := cl_length
    left
    generalize hz : IntKind.i64.wrap (97 + x2) = z
    generalize hy : IntKind.u8.wrap z = y
    simp (maxSteps := 4000000) -implicitDefEqProofs [b65_0, S_Data17, x_seq, x_cond, x_block, x_region, x_skip, x_exit, x_ret, head_id, runG, runOps, doOp, wantB, stepOp, AO.eff, pureOp, St.get, St.one, St.num, St.put, St.optNum, binA, binInt, List.take, List.drop, effOp2, effOp, memL_app, stoRow, cellsAt, toCells, toCell, scalar_int, scalar_bool, scalar_str, scalar_sl, updAt, fromRo, upd, callLend, lendBox, A1.ids, roArgs, roL, roA, A1.ownB, addMem_nil, List.range, List.range.loop, SV.map, ren, shift, upd, memL_app, srcCells, A1.slB, flat_int, cl_flat', St.parts, Eng.inB, reps, fillA, newRowSt, appSt, oldOf, rest, kill, mapMem, SV.map, Ob.map, e2, hlt, h4, a1, a2, hz, hy, cl_app1, -Prod.exists]
    refine ⟨(k + 1, ws ++ [y], i2, g2), ?_, by simp only; omega, by simp only; omega, by simp; omega⟩
    simp only [S_Data17, List.length_append, List.length_singleton]
    change _ = _
    kernel_rfl
  · right
    simp (maxSteps := 4000000) -implicitDefEqProofs [b65_0, S_Data17, x_seq, x_cond, x_block, x_region, x_skip, x_exit, x_ret, head_id, runG, runOps, doOp, wantB, stepOp, AO.eff, pureOp, St.get, St.one, St.num, St.put, St.optNum, binA, binInt, List.take, List.drop, effOp2, effOp, memL_app, stoRow, cellsAt, toCells, toCell, scalar_int, scalar_bool, scalar_str, scalar_sl, updAt, fromRo, upd, callLend, lendBox, A1.ids, roArgs, roL, roA, A1.ownB, addMem_nil, List.range, List.range.loop, SV.map, ren, shift, upd, memL_app, hlt, -Prod.exists]
    exact ⟨ws, i, h, by omega, by change _ = _; kernel_rfl⟩
theorem r_l17DrawData (l : List Int) (hl : l.length ≤ 1048576) (i : Nat) (h : Int) :
    ∃ (bs : List Int) (i' : Nat) (h' : Int), bs.length ≤ 12 ∧ runLend (X tab) tab 65 [.ro l.length (cl .u8 l), .int .i64 i, .int .i64 h] [.v false [.int .i64 6]] = some (.v false [.sl 0 [] 0 bs.length], [.ro l.length (cl .u8 l), .int .i64 i', .int .i64 h'], [.row 1 (cl .u8 bs)]) := by
  have w1 : IntKind.i64.wrap 7 = 7 := by decide
  obtain ⟨x2, i2, g2, ⟨b2, c2⟩, e2⟩ := r_l1Below l hl i h 7
  have c2 := c2 (by omega)
  obtain ⟨r, ⟨bs, i', h', hb, rfl⟩, hr⟩ := loop_Data17 l hl x2 (by omega) i2 g2
  refine ⟨bs, i', h', hb, ?_⟩
  unfold runLend
  simp (maxSteps := 4000000) -implicitDefEqProofs [tab65, a65, lendEnd, x_seq, x_cond, x_block, x_region, x_skip, x_exit, x_ret, head_id, runG, runOps, doOp, wantB, stepOp, AO.eff, pureOp, St.get, St.one, St.num, St.put, St.optNum, binA, binInt, List.take, List.drop, effOp2, effOp, memL_app, stoRow, cellsAt, toCells, toCell, scalar_int, scalar_bool, scalar_str, scalar_sl, updAt, fromRo, upd, srcCells, A1.slB, flat_int, cl_flat', St.parts, Eng.inB, reps, fillA, newRowSt, appSt, oldOf, rest, kill, mapMem, SV.map, Ob.map, callLend, lendBox, A1.ids, roArgs, roL, roA, A1.ownB, addMem_nil, List.range, List.range.loop, SV.map, ren, shift, upd, memL_app, e2, w1]
  rw [hr _ (by change _ = _; kernel_rfl)]
  simp (maxSteps := 4000000) -implicitDefEqProofs [x_seq, x_cond, x_block, x_region, x_skip, x_exit, x_ret, head_id, runG, runOps, doOp, wantB, stepOp, AO.eff, pureOp, St.get, St.one, St.num, St.put, St.optNum, binA, binInt, List.take, List.drop, effOp2, effOp, memL_app, stoRow, cellsAt, toCells, toCell, scalar_int, scalar_bool, scalar_str, scalar_sl, updAt, fromRo, upd, resOf, resSV, SV.map, SV.ids, A1.ids, reach, allObs, ren, pos, Ob.map, St.canon, memL, List.range, List.range.loop]
theorem r_DrawBlockPut (l : List Int) (hl : l.length ≤ 1048576) : ∃ (b : List Int) (k : Int) (d : List Int), (b.length ≤ 12 ∧ d.length ≤ 12 ∧ k ∈ [0, 1, 3, 7, 8, 9, -1, 9223372036854775807]) ∧
    runRO (X tab) tab 42 [.v false [.ro l.length (cl .u8 l)]] = some (.tup [(false, [.sl 0 [] 0 b.length]), (false, [.int .i64 k]), (false, [.sl 1 [] 0 d.length])], [.row 1 (cl .u8 b), .row 1 (cl .u8 d)]) := by
  obtain ⟨h, e0⟩ := r_l1New l hl
  obtain ⟨b, i1, g1, hb, e1⟩ := r_l17Draw l hl 0 h
  obtain ⟨k, i2, g2, hk, e2⟩ := r_l1PickInt l hl i1 g1 [0, 1, 3, 7, 8, 9, -1, 9223372036854775807] (by simp) (by simp)
  obtain ⟨d, i3, g3, hd, e3⟩ := r_l17DrawData l hl i2 g2
  refine ⟨b, k, d, ⟨hb, hd, hk⟩, ?_⟩
  have c1 : ∀ a b c d e f g h : Int, cl .i64 [a, b, c, d, e, f, g, h] = [.int .i64 a, .int .i64 b, .int .i64 c, .int .i64 d, .int .i64 e, .int .i64 f, .int .i64 g, .int .i64 h] := fun _ _ _ _ _ _ _ _ => rfl
  rw [c1] at e2
  simp only [List.length_cons, List.length_nil] at e2
  unfold runRO
  simp only [Int.ofNat_zero] at e0 e1
  simp (maxSteps := 4000000) -implicitDefEqProofs [tab42, a42, x_seq, x_cond, x_block, x_region, x_skip, x_exit, x_ret, head_id, runG, runOps, doOp, wantB, stepOp, AO.eff, pureOp, St.get, St.one, St.num, St.put, St.optNum, binA, binInt, List.take, List.drop, callRO, addMem_nil, roArgs, roL, roA, srcCells, A1.ownB, addMem, shift, ren, SV.map, Ob.map, Ob.noRo, SV.noRo, A1.noRo, List.range, List.range.loop, callLend, lendBox, A1.ids, roArgs, roL, roA, A1.ownB, addMem_nil, List.range, List.range.loop, SV.map, ren, shift, upd, memL_app, effOp2, effOp, memL_app, stoRow, cellsAt, toCells, toCell, scalar_int, scalar_bool, scalar_str, scalar_sl, updAt, fromRo, upd, srcCells, A1.slB, flat_int, cl_flat', St.parts, Eng.inB, reps, fillA, newRowSt, appSt, oldOf, rest, kill, mapMem, SV.map, Ob.map, resOf, resSV, SV.map, SV.ids, A1.ids, reach, allObs, ren, pos, Ob.map, St.canon, memL, List.range, List.range.loop, getAll, spl, e0, e1, e2, e3]
end Go.Proofs.Ytnbgdddcbmlcpaa.Eng.A
