/- The laws' own functions over worlds, third part: copies of nodes and of worlds. -/
import Derived.Test.YtbdokibepndibaaBW2
namespace Go.Proofs.Ytbdokibepndibaa.Eng.B
set_option linter.unusedSimpArgs false
set_option linter.unusedVariables false
set_option maxHeartbeats 16000000
set_option maxRecDepth 100000
open Go.RowKit Go.Proofs

theorem mem_le_sum {α : Type} {f : α → Nat} {l : List α} {x : α} (h : x ∈ l) : f x ≤ (l.map f).sum := by
  induction l with
  | nil => cases h
  | cons y r ih =>
    rw [List.map_cons, List.sum_cons]
    rcases List.mem_cons.1 h with rfl | h
    · omega
    · have := ih h; omega
/-- Of no more than the laws allow. -/
structure SmN (n : PNode) : Prop where
  image : n.image.length ≤ 1048576
  gens : n.mt.gens.length ≤ 1048576
  bits : n.mt.bits.length ≤ 1048576
  bit : ∀ l ∈ n.mt.bits, l.length ≤ 1048576
  sa : n.sa.length ≤ 1048576
  sb : n.sb.length ≤ 1048576
  conn : n.conn.length ≤ 1048576
  sync : n.sync.length ≤ 1048576
  syn : ∀ l ∈ n.sync, l.length ≤ 1048576
  copies : n.copies.length ≤ 1048576
  wait : n.wait.length ≤ 1048576
theorem smN (n : PNode) (h : totN n ≤ 1048576) : SmN n := by
  unfold totN at h
  exact ⟨by omega, by omega, by omega, fun l hl => by have := mem_le_sum (f := List.length) hl; omega, by omega, by omega, by omega, by omega, fun l hl => by have := mem_le_sum (f := List.length) hl; omega, by omega, by omega⟩
structure SmW (w : PWorld) : Prop where
  nodes : w.nodes.length ≤ 1048576
  node : ∀ n ∈ w.nodes, SmN n
  net : w.net.length ≤ 1048576
  wire : ∀ x ∈ w.net, x.bytes.length ≤ 1048576
  log : w.log.length ≤ 1048576
  safe : w.safe.length ≤ 1048576
theorem smW (w : PWorld) (h : totW w ≤ 1048576) : SmW w := by
  unfold totW at h
  exact ⟨by omega, fun n hn => smN n (by have := mem_le_sum (f := totN) hn; omega), by omega, fun x hx => by have h1 := mem_le_sum (f := totX) hx; have h2 : totX x = x.bytes.length := rfl; omega, by omega, by omega⟩
theorem r_toRec' (x : PRec) (_ : True) : runRO (X tab) tab 55 [.v true (recA x)] = some (.v true [.int .i64 x.cell, .int .i64 x.up], []) := r_toRec x
theorem r_toMeta (m : PMeta) (h1 : m.gens.length ≤ 1048576) (h2 : m.bits.length ≤ 1048576) (h3 : ∀ l ∈ m.bits, l.length ≤ 1048576) : runRO (X tab) tab 72 [.v true (metaA m)] = some (.v true [.sl 0 [] 0 m.gens.length, .sl 1 [] 0 m.bits.length, .bool m.fine, .bool m.old, .bool m.hd, .int .i64 m.last], [.row 1 (cl .i64 m.gens), .row 1 (m.bits.map intsC)]) := by
  have q1 := toIntS m.gens h1
  have q2 := r_toIntSS m.bits h2 h3
  unfold runRO
  simp only [metaA]
  simp (maxSteps := 4000000) -implicitDefEqProofs [tab72, a72, x_seq, x_cond, x_block, x_region, x_skip, x_exit, x_ret, head_id, runG, runOps, doOp, wantB, stepOp, AO.eff, pureOp, St.get, St.one, St.num, St.put, St.optNum, binA, binInt, List.take, List.drop, effOp2, effOp, memL_app, stoRow, cellsAt, toCells, toCell, scalar_int, scalar_bool, scalar_str, scalar_sl, updAt, fromRo, upd, callRO, addMem_nil, roArgs, roL, roA, srcCells, A1.ownB, addMem, shift, ren, SV.map, Ob.map, Ob.noRo, SV.noRo, A1.noRo, List.range, List.range.loop, resOf, resSV, SV.map, SV.ids, A1.ids, reach, allObs, ren, pos, Ob.map, St.canon, memL, List.range, List.range.loop, q1, q2, spl]
theorem r_toSlots (n : PNode) (h1 : n.sa.length ≤ 1048576) (h2 : n.sb.length ≤ 1048576) : runRO (X tab) tab 73 [.v true (slotsA n)] = some (.v true [.sl 0 [] 0 n.sa.length, .sl 1 [] 0 n.sb.length], [.row 1 (cl .u8 n.sa), .row 1 (cl .u8 n.sb)]) := by
  have q1 := toByteS n.sa h1
  have q2 := toByteS n.sb h2
  unfold runRO
  simp only [slotsA]
  simp (maxSteps := 4000000) -implicitDefEqProofs [tab73, a73, x_seq, x_cond, x_block, x_region, x_skip, x_exit, x_ret, head_id, runG, runOps, doOp, wantB, stepOp, AO.eff, pureOp, St.get, St.one, St.num, St.put, St.optNum, binA, binInt, List.take, List.drop, effOp2, effOp, memL_app, stoRow, cellsAt, toCells, toCell, scalar_int, scalar_bool, scalar_str, scalar_sl, updAt, fromRo, upd, callRO, addMem_nil, roArgs, roL, roA, srcCells, A1.ownB, addMem, shift, ren, SV.map, Ob.map, Ob.noRo, SV.noRo, A1.noRo, List.range, List.range.loop, resOf, resSV, SV.map, SV.ids, A1.ids, reach, allObs, ren, pos, Ob.map, St.canon, memL, List.range, List.range.loop, q1, q2, spl]
def nodeR (n : PNode) : List A1 :=
  [.int .i64 n.id, .bool n.up, .bool n.prime, .sl 0 [] 0 n.image.length, .sl 1 [] 0 n.mt.gens.length, .sl 2 [] 0 n.mt.bits.length, .bool n.mt.fine, .bool n.mt.old, .bool n.mt.hd, .int .i64 n.mt.last,
    .sl 3 [] 0 n.sa.length, .sl 4 [] 0 n.sb.length, .sl 5 [] 0 n.conn.length, .sl 6 [] 0 n.sync.length, .sl 7 [] 0 n.copies.length, .sl 8 [] 0 n.wait.length]
def nodeO (n : PNode) : List Ob :=
  [.row 1 (cl .i64 n.image), .row 1 (cl .i64 n.mt.gens), .row 1 (n.mt.bits.map intsC), .row 1 (cl .u8 n.sa), .row 1 (cl .u8 n.sb), .row 1 (cb n.conn), .row 1 (n.sync.map intsC), .row 1 (cb n.copies), .row 1 (cl .i64 n.wait)]
theorem r_toNode (n : PNode) (h : SmN n) : runRO (X tab) tab 53 [.v true (nodeA n)] = some (.v true (nodeR n), nodeO n) := by
  have q1 := toIntS n.image h.image
  have q2 := r_toMeta n.mt h.gens h.bits h.bit
  have q3 := r_toSlots n h.sa h.sb
  have q4 := r_toBoolS n.conn h.conn
  have q5 := r_toIntSS n.sync h.sync h.syn
  have q6 := r_toBoolS n.copies h.copies
  have q7 := toIntS n.wait h.wait
  simp only [metaA, slotsA] at q2 q3
  unfold runRO
  simp only [nodeA, nodeR, nodeO]
  simp (maxSteps := 4000000) -implicitDefEqProofs [tab53, a53, x_seq, x_cond, x_block, x_region, x_skip, x_exit, x_ret, head_id, runG, runOps, doOp, wantB, stepOp, AO.eff, pureOp, St.get, St.one, St.num, St.put, St.optNum, binA, binInt, List.take, List.drop, effOp2, effOp, memL_app, stoRow, cellsAt, toCells, toCell, scalar_int, scalar_bool, scalar_str, scalar_sl, updAt, fromRo, upd, callRO, addMem_nil, roArgs, roL, roA, srcCells, A1.ownB, addMem, shift, ren, SV.map, Ob.map, Ob.noRo, SV.noRo, A1.noRo, List.range, List.range.loop, resOf, resSV, SV.map, SV.ids, A1.ids, reach, allObs, ren, pos, Ob.map, St.canon, memL, List.range, List.range.loop, q1, q2, q3, q4, q5, q6, q7, spl]
def S_toRecS (l : List (PRec)) (i : Nat) : XS := ⟨⟨[.v false [.ro l.length (recsC l)], .bad, .bad, .v false [.sl 0 [] 0 l.length], .v false [.int .i64 (i)], .bad, .bad, .bad, .bad, .bad, .bad, .bad, .bad, .bad, .bad, .bad, .bad, .bad, .bad, .bad, .bad, .bad, .bad], memL [some (.row 2 (part recC zeroR l i))], []⟩, 1⟩
def Z_toRecS (l : List (PRec)) : XS := ⟨⟨[.bad, .bad, .bad, .v false [.sl 0 [] 0 l.length], .bad, .bad, .bad, .bad, .bad, .bad, .bad, .bad, .bad, .bad, .bad, .bad, .bad, .bad, .bad, .bad, .bad, .bad, .bad], memL [some (.row 2 (recsC l))], []⟩, 1⟩
theorem loop_toRecS (l : List (PRec)) (hn : l.length ≤ 1048576) (he : ∀ y ∈ l, True) {x : XS} (hx : head true d35_0 x = S_toRecS l 0) : X tab l35_0 x = some (.exit 0, Z_toRecS l) := by
  refine loopN l.length (S_toRecS l) _ (by simp) (fun i hi => ?_) ?_ (Nat.zero_le _) hx
  · obtain ⟨y, r, hl⟩ : ∃ y r, l.drop i = y :: r := ⟨_, _, List.drop_eq_getElem_cons hi⟩
    have h1 : (0 ≤ (i : Int) ∧ (i : Int) < (l.length : Int)) := by omega
    have h2 := recsC_at hl
    have h3 : i * 2 + 2 ≤ (part recC zeroR l i).length := by rw [part_len (z := 2) (fun _ => rfl) rfl (by omega)]; omega
    have h4 : IntKind.i64.wrap ((i : Int) + 1) = ((i + 1 : Nat) : Int) := by rw [wrap_id (by omega) (by omega)]; omega
    have h5 := part_next (lay := recC) (zc := zeroR) (z := 2) (fun _ => rfl) rfl hl
    have h6 := r_toRec' y (he y (dropx_mem hl))
    simp only [recC, recA, List.cons_append, List.nil_append] at h2 h5 h6
    simp only [S_toRecS]
    generalize part recC zeroR l i = p at *
    generalize part recC zeroR l (i + 1) = p' at *
    simp (maxSteps := 4000000) -implicitDefEqProofs [b35_0, x_seq, x_cond, x_block, x_region, x_skip, x_exit, x_ret, head_id, runG, runOps, doOp, wantB, stepOp, AO.eff, pureOp, St.get, St.one, St.num, St.put, St.optNum, binA, binInt, List.take, List.drop, effOp2, effOp, memL_app, stoRow, cellsAt, toCells, toCell, scalar_int, scalar_bool, scalar_str, scalar_sl, updAt, fromRo, upd, callRO, addMem_nil, roArgs, roL, roA, srcCells, A1.ownB, addMem, shift, ren, SV.map, Ob.map, Ob.noRo, SV.noRo, A1.noRo, List.range, List.range.loop, fromRo, h1, h2, h3, h4, h5, h6, hi, cutoff, -Int.natCast_add]
    change _ = _
    kernel_rfl
  · simp only [S_toRecS, part_all, recsC]
    simp (maxSteps := 4000000) -implicitDefEqProofs [b35_0, x_seq, x_cond, x_block, x_region, x_skip, x_exit, x_ret, head_id, runG, runOps, doOp, wantB, stepOp, AO.eff, pureOp, St.get, St.one, St.num, St.put, St.optNum, binA, binInt, List.take, List.drop, effOp2, effOp, memL_app, stoRow, cellsAt, toCells, toCell, scalar_int, scalar_bool, scalar_str, scalar_sl, updAt, fromRo, upd, Z_toRecS]
    change _ = _
    kernel_rfl
theorem r_toRecS (l : List (PRec)) (hn : l.length ≤ 1048576) (he : ∀ y ∈ l, True) : runRO (X tab) tab 35 [.v false [.ro l.length (recsC l)]] = some (.v false [.sl 0 [] 0 l.length], [.row 2 (recsC l)]) := by
  have h1 : 16 * (l.length : Int) ≤ 281474976710656 := by omega
  have hc := cells_reps' (m := fun _ => none) (zero := [.int .i64 0, .int .i64 0]) (zc := zeroR) (fun r cs h => by simp only [List.cons_append, List.nil_append, toCells, toCell, h]; rfl) l.length
  have hS : S_toRecS l 0 = ⟨⟨[.v false [.ro l.length (recsC l)], .bad, .bad, .v false [.sl 0 [] 0 l.length], .v false [.int .i64 (0)], .bad, .bad, .bad, .bad, .bad, .bad, .bad, .bad, .bad, .bad, .bad, .bad, .bad, .bad, .bad, .bad, .bad, .bad], memL [some (.row 2 (List.replicate l.length zeroR).flatten)], []⟩, 1⟩ := by simp [S_toRecS, part_zero]
  generalize hfl : (List.replicate l.length zeroR).flatten = fl at *
  unfold runRO
  simp (maxSteps := 4000000) -implicitDefEqProofs [tab35, a35, x_seq, x_cond, x_block, x_region, x_skip, x_exit, x_ret, head_id, runG, runOps, doOp, wantB, stepOp, AO.eff, pureOp, St.get, St.one, St.num, St.put, St.optNum, binA, binInt, List.take, List.drop, effOp2, effOp, memL_app, stoRow, cellsAt, toCells, toCell, scalar_int, scalar_bool, scalar_str, scalar_sl, updAt, fromRo, upd, h1, hc, newRowSt]
  rw [loop_toRecS l hn he (by
    change _ = _
    rw [hS]
    kernel_rfl)]
  simp (maxSteps := 4000000) -implicitDefEqProofs [Z_toRecS, x_seq, x_cond, x_block, x_region, x_skip, x_exit, x_ret, head_id, runG, runOps, doOp, wantB, stepOp, AO.eff, pureOp, St.get, St.one, St.num, St.put, St.optNum, binA, binInt, List.take, List.drop, effOp2, effOp, memL_app, stoRow, cellsAt, toCells, toCell, scalar_int, scalar_bool, scalar_str, scalar_sl, updAt, fromRo, upd, resOf, resSV, SV.map, SV.ids, A1.ids, reach, allObs, ren, pos, Ob.map, St.canon, memL, List.range, List.range.loop]
def S_toNodeS (l : List (PNode)) (i : Nat) : XS := ⟨⟨[.v false [.ro l.length (nodesC l)], .bad, .bad, .v false [.sl 0 [] 0 l.length], .v false [.int .i64 (i)], .bad, .bad, .bad, .bad, .bad, .bad, .bad, .bad, .bad, .bad, .bad, .bad, .bad, .bad, .bad, .bad, .bad, .bad], memL [some (.row 16 (part nodeC zeroN l i))], []⟩, 1⟩
def Z_toNodeS (l : List (PNode)) : XS := ⟨⟨[.bad, .bad, .bad, .v false [.sl 0 [] 0 l.length], .bad, .bad, .bad, .bad, .bad, .bad, .bad, .bad, .bad, .bad, .bad, .bad, .bad, .bad, .bad, .bad, .bad, .bad, .bad], memL [some (.row 16 (nodesC l))], []⟩, 1⟩
theorem loop_toNodeS (l : List (PNode)) (hn : l.length ≤ 1048576) (he : ∀ y ∈ l, SmN y) {x : XS} (hx : head true d33_0 x = S_toNodeS l 0) : X tab l33_0 x = some (.exit 0, Z_toNodeS l) := by
  refine loopN l.length (S_toNodeS l) _ (by simp) (fun i hi => ?_) ?_ (Nat.zero_le _) hx
  · obtain ⟨y, r, hl⟩ : ∃ y r, l.drop i = y :: r := ⟨_, _, List.drop_eq_getElem_cons hi⟩
    have h1 : (0 ≤ (i : Int) ∧ (i : Int) < (l.length : Int)) := by omega
    have h2 := nodesC_at hl
    have h3 : i * 16 + 16 ≤ (part nodeC zeroN l i).length := by rw [part_len (z := 16) (fun _ => rfl) rfl (by omega)]; omega
    have h4 : IntKind.i64.wrap ((i : Int) + 1) = ((i + 1 : Nat) : Int) := by rw [wrap_id (by omega) (by omega)]; omega
    have h5 := part_next (lay := nodeC) (zc := zeroN) (z := 16) (fun _ => rfl) rfl hl
    have h6 := r_toNode y (he y (dropx_mem hl))
    simp only [nodeC, nodeA, nodeR, nodeO, intsC, intssC, bytesC, boolsC, List.cons_append, List.nil_append] at h2 h5 h6
    simp only [S_toNodeS]
    generalize part nodeC zeroN l i = p at *
    generalize part nodeC zeroN l (i + 1) = p' at *
    simp (maxSteps := 4000000) -implicitDefEqProofs [b33_0, x_seq, x_cond, x_block, x_region, x_skip, x_exit, x_ret, head_id, runG, runOps, doOp, wantB, stepOp, AO.eff, pureOp, St.get, St.one, St.num, St.put, St.optNum, binA, binInt, List.take, List.drop, effOp2, effOp, memL_app, stoRow, cellsAt, toCells, toCell, scalar_int, scalar_bool, scalar_str, scalar_sl, updAt, fromRo, upd, callRO, addMem_nil, roArgs, roL, roA, srcCells, A1.ownB, addMem, shift, ren, SV.map, Ob.map, Ob.noRo, SV.noRo, A1.noRo, List.range, List.range.loop, fromRo, h1, h2, h3, h4, h5, h6, hi, cutoff, kill, Eng.thru, mapMem, -Int.natCast_add]
    change _ = _
    kernel_rfl
  · simp only [S_toNodeS, part_all, nodesC]
    simp (maxSteps := 4000000) -implicitDefEqProofs [b33_0, x_seq, x_cond, x_block, x_region, x_skip, x_exit, x_ret, head_id, runG, runOps, doOp, wantB, stepOp, AO.eff, pureOp, St.get, St.one, St.num, St.put, St.optNum, binA, binInt, List.take, List.drop, effOp2, effOp, memL_app, stoRow, cellsAt, toCells, toCell, scalar_int, scalar_bool, scalar_str, scalar_sl, updAt, fromRo, upd, Z_toNodeS]
    change _ = _
    kernel_rfl
theorem r_toNodeS (l : List (PNode)) (hn : l.length ≤ 1048576) (he : ∀ y ∈ l, SmN y) : runRO (X tab) tab 33 [.v false [.ro l.length (nodesC l)]] = some (.v false [.sl 0 [] 0 l.length], [.row 16 (nodesC l)]) := by
  have h1 : 248 * (l.length : Int) ≤ 281474976710656 := by omega
  have hc := cells_reps' (m := fun _ => none) (zero := [.int .i64 0, .bool false, .bool false, .nil, .nil, .nil, .bool false, .bool false, .bool false, .int .i64 0, .nil, .nil, .nil, .nil, .nil, .nil]) (zc := zeroN) (fun r cs h => by simp only [List.cons_append, List.nil_append, toCells, toCell, h]; rfl) l.length
  have hS : S_toNodeS l 0 = ⟨⟨[.v false [.ro l.length (nodesC l)], .bad, .bad, .v false [.sl 0 [] 0 l.length], .v false [.int .i64 (0)], .bad, .bad, .bad, .bad, .bad, .bad, .bad, .bad, .bad, .bad, .bad, .bad, .bad, .bad, .bad, .bad, .bad, .bad], memL [some (.row 16 (List.replicate l.length zeroN).flatten)], []⟩, 1⟩ := by simp [S_toNodeS, part_zero]
  generalize hfl : (List.replicate l.length zeroN).flatten = fl at *
  unfold runRO
  simp (maxSteps := 4000000) -implicitDefEqProofs [tab33, a33, x_seq, x_cond, x_block, x_region, x_skip, x_exit, x_ret, head_id, runG, runOps, doOp, wantB, stepOp, AO.eff, pureOp, St.get, St.one, St.num, St.put, St.optNum, binA, binInt, List.take, List.drop, effOp2, effOp, memL_app, stoRow, cellsAt, toCells, toCell, scalar_int, scalar_bool, scalar_str, scalar_sl, updAt, fromRo, upd, h1, hc, newRowSt]
  rw [loop_toNodeS l hn he (by
    change _ = _
    rw [hS]
    kernel_rfl)]
  simp (maxSteps := 4000000) -implicitDefEqProofs [Z_toNodeS, x_seq, x_cond, x_block, x_region, x_skip, x_exit, x_ret, head_id, runG, runOps, doOp, wantB, stepOp, AO.eff, pureOp, St.get, St.one, St.num, St.put, St.optNum, binA, binInt, List.take, List.drop, effOp2, effOp, memL_app, stoRow, cellsAt, toCells, toCell, scalar_int, scalar_bool, scalar_str, scalar_sl, updAt, fromRo, upd, resOf, resSV, SV.map, SV.ids, A1.ids, reach, allObs, ren, pos, Ob.map, St.canon, memL, List.range, List.range.loop]
def worldR (w : PWorld) : List A1 := [.sl 0 [] 0 w.nodes.length, .sl 1 [] 0 w.net.length, .sl 2 [] 0 w.log.length, .sl 3 [] 0 w.safe.length, .int .i64 w.gen]
def worldO (w : PWorld) : List Ob := [.row 16 (nodesC w.nodes), .row 3 (wiresC w.net), .row 2 (recsC w.log), .row 1 (cl .i64 w.safe)]
theorem r_toWorld (w : PWorld) (h : SmW w) : runRO (X tab) tab 11 [.v true (worldA w)] = some (.v true (worldR w), worldO w) := by
  have q1 := r_toNodeS w.nodes h.nodes h.node
  have q2 := r_toWireS w.net h.net h.wire
  have q3 := r_toRecS w.log h.log (fun _ _ => trivial)
  have q4 := toIntS w.safe h.safe
  unfold runRO
  simp only [worldA, worldR, worldO]
  simp (maxSteps := 4000000) -implicitDefEqProofs [tab11, a11, x_seq, x_cond, x_block, x_region, x_skip, x_exit, x_ret, head_id, runG, runOps, doOp, wantB, stepOp, AO.eff, pureOp, St.get, St.one, St.num, St.put, St.optNum, binA, binInt, List.take, List.drop, effOp2, effOp, memL_app, stoRow, cellsAt, toCells, toCell, scalar_int, scalar_bool, scalar_str, scalar_sl, updAt, fromRo, upd, callRO, addMem_nil, roArgs, roL, roA, srcCells, A1.ownB, addMem, shift, ren, SV.map, Ob.map, Ob.noRo, SV.noRo, A1.noRo, List.range, List.range.loop, resOf, resSV, SV.map, SV.ids, A1.ids, reach, allObs, ren, pos, Ob.map, St.canon, memL, List.range, List.range.loop, q1, q2, q3, q4, spl]
end Go.Proofs.Ytbdokibepndibaa.Eng.B
