/- The laws' own functions over worlds, second part: copies. -/
import Derived.Test.YtbdokibepndibaaBW1g
namespace Go.Proofs.Ytbdokibepndibaa.Eng.B
set_option linter.unusedSimpArgs false
set_option linter.unusedVariables false
set_option maxHeartbeats 8000000
set_option maxRecDepth 100000
open Go.RowKit Go.Proofs

/-- A row that is copied, at i. -/
def part {α : Type} (lay : α → List Cell) (zc : List Cell) (l : List α) (i : Nat) : List Cell := (l.take i).flatMap lay ++ (List.replicate (l.length - i) zc).flatten
section
variable {α : Type} {lay : α → List Cell} {zc : List Cell} {z : Nat} {l : List α} {i : Nat}
theorem flatMap_len (hz : ∀ x, (lay x).length = z) : ∀ l : List α, (l.flatMap lay).length = l.length * z := by
  intro l
  induction l with
  | nil => simp
  | cons x r ih => rw [List.flatMap_cons, List.length_append, ih, hz, List.length_cons, Nat.succ_mul]; omega
theorem part_len (hz : ∀ x, (lay x).length = z) (hzc : zc.length = z) (hi : i ≤ l.length) : (part lay zc l i).length = l.length * z := by
  unfold part
  rw [List.length_append, flatMap_len hz, List.length_take, List.length_flatten, List.map_replicate, List.sum_replicate_nat, hzc, Nat.min_eq_left hi, ← Nat.add_mul]
  congr 1
  omega
theorem part_zero : part lay zc l 0 = (List.replicate l.length zc).flatten := by simp [part]
theorem part_all : part lay zc l l.length = l.flatMap lay := by simp [part]
theorem part_next (hz : ∀ x, (lay x).length = z) (hzc : zc.length = z) {x : α} {r : List α} (h : l.drop i = x :: r) : spl (lay x) (i * z) (part lay zc l i) = part lay zc l (i + 1) := by
  have hi := dropx_lt h
  have hx : l[i]? = some x := by
    have := congrArg (fun q : List α => q[0]?) h
    simpa using this
  have h1 : l.length - i = (l.length - (i + 1)) + 1 := by omega
  have hl : ((l.take i).flatMap lay).length = i * z := by rw [flatMap_len hz, List.length_take, Nat.min_eq_left (by omega)]
  unfold part spl
  rw [h1, List.replicate_succ, List.flatten_cons, List.take_append_of_le_length (by omega), List.take_of_length_le (by omega), List.take_add_one, hx, List.flatMap_append]
  rw [List.drop_append, List.drop_of_length_le (by omega), hl, Nat.add_sub_cancel_left, hz, List.nil_append, List.drop_append, List.drop_of_length_le (by omega), hzc, Nat.sub_self, List.drop_zero]
  simp
theorem cells_reps' {m : Mem} {zero : List A1} {zc : List Cell} (h : ∀ (r : List A1) (cs : List Cell), toCells m r = some (cs, m, []) → toCells m (zero ++ r) = some (zc ++ cs, m, [])) (n : Nat) : toCells m (reps n zero) = some ((List.replicate n zc).flatten, m, []) := by
  induction n with
  | zero => rfl
  | succ n ih => simp only [reps, List.replicate_succ, List.flatten_cons]; exact h _ _ ih
end
def layB (b : Bool) : List Cell := [.bool b]
def layI (l : List Int) : List Cell := [intsC l]
theorem cb_lay (l : List Bool) : l.flatMap layB = cb l := flat1 l
theorem layI_map (l : List (List Int)) : l.flatMap layI = l.map intsC := flat1 l
def zeroI : List Cell := [.sl 0 []]
def zeroX : List Cell := [.int .i64 0, .int .i64 0, .sl 0 []]
def zeroR : List Cell := [.int .i64 0, .int .i64 0]
def zeroN : List Cell := [.int .i64 0, .bool false, .bool false, .sl 0 [], .sl 0 [], .sl 0 [], .bool false, .bool false, .bool false, .int .i64 0, .sl 0 [], .sl 0 [], .sl 0 [], .sl 0 [], .sl 0 [], .sl 0 []]
theorem cb_at {l : List Bool} {i : Nat} {x : Bool} {r : List Bool} (h : l.drop i = x :: r) : (cb l).drop i = .bool x :: cb r := by
  unfold cb
  rw [← List.map_drop, h]
  rfl
/-! toBoolS -/
def S_toBoolS (l : List Bool) (i : Nat) : XS := ⟨⟨[.v false [.ro l.length (cb l)], .bad, .bad, .v false [.sl 0 [] 0 l.length], .v false [.int .i64 (i)], .bad, .bad, .bad, .bad, .bad, .bad, .bad, .bad, .bad, .bad, .bad, .bad, .bad, .bad, .bad, .bad, .bad], memL [some (.row 1 (part layB [.bool false] l i))], []⟩, 1⟩
def Z_toBoolS (l : List Bool) : XS := ⟨⟨[.bad, .bad, .bad, .v false [.sl 0 [] 0 l.length], .bad, .bad, .bad, .bad, .bad, .bad, .bad, .bad, .bad, .bad, .bad, .bad, .bad, .bad, .bad, .bad, .bad, .bad], memL [some (.row 1 (cb l))], []⟩, 1⟩
theorem loop_toBoolS (l : List Bool) (hn : l.length ≤ 1048576) {x : XS} (hx : head true d74_0 x = S_toBoolS l 0) : X tab l74_0 x = some (.exit 0, Z_toBoolS l) := by
  refine loopN l.length (S_toBoolS l) _ (by simp) (fun i hi => ?_) ?_ (Nat.zero_le _) hx
  · obtain ⟨y, r, hl⟩ : ∃ y r, l.drop i = y :: r := ⟨_, _, List.drop_eq_getElem_cons hi⟩
    have h1 : (0 ≤ (i : Int) ∧ (i : Int) < (l.length : Int)) := by omega
    have h2 := cb_at hl
    have h3 : i + 1 ≤ (part layB [.bool false] l i).length := by rw [part_len (z := 1) (fun _ => rfl) rfl (by omega)]; omega
    have h4 : IntKind.i64.wrap ((i : Int) + 1) = ((i + 1 : Nat) : Int) := by rw [wrap_id (by omega) (by omega)]; omega
    have h5 := part_next (lay := layB) (zc := [.bool false]) (z := 1) (fun _ => rfl) rfl hl
    rw [Nat.mul_one] at h5
    simp only [layB] at h5
    simp only [S_toBoolS]
    generalize part layB [.bool false] l i = p at *
    simp (maxSteps := 4000000) -implicitDefEqProofs [b74_0, x_seq, x_cond, x_block, x_region, x_skip, x_exit, x_ret, head_id, runG, runOps, doOp, wantB, stepOp, AO.eff, pureOp, St.get, St.one, St.num, St.put, St.optNum, binA, binInt, List.take, List.drop, effOp2, effOp, memL_app, stoRow, cellsAt, toCells, toCell, scalar_int, scalar_bool, scalar_str, scalar_sl, updAt, fromRo, upd, h1, h2, h3, h4, h5, hi, -Int.natCast_add]
    change _ = _
    kernel_rfl
  · simp only [S_toBoolS, part_all, cb_lay]
    simp (maxSteps := 4000000) -implicitDefEqProofs [b74_0, x_seq, x_cond, x_block, x_region, x_skip, x_exit, x_ret, head_id, runG, runOps, doOp, wantB, stepOp, AO.eff, pureOp, St.get, St.one, St.num, St.put, St.optNum, binA, binInt, List.take, List.drop, effOp2, effOp, memL_app, stoRow, cellsAt, toCells, toCell, scalar_int, scalar_bool, scalar_str, scalar_sl, updAt, fromRo, upd, Z_toBoolS]
    change _ = _
    kernel_rfl
theorem r_toBoolS (l : List Bool) (hn : l.length ≤ 1048576) : runRO (X tab) tab 74 [.v false [.ro l.length (cb l)]] = some (.v false [.sl 0 [] 0 l.length], [.row 1 (cb l)]) := by
  have h1 : (l.length : Int) ≤ 281474976710656 := by omega
  have hc := cells_reps' (m := fun _ => none) (zero := [.bool false]) (zc := [.bool false]) (fun r cs h => by simp only [List.cons_append, List.nil_append, toCells, toCell, h]; rfl) l.length
  have hS : S_toBoolS l 0 = ⟨⟨[.v false [.ro l.length (cb l)], .bad, .bad, .v false [.sl 0 [] 0 l.length], .v false [.int .i64 (0)], .bad, .bad, .bad, .bad, .bad, .bad, .bad, .bad, .bad, .bad, .bad, .bad, .bad, .bad, .bad, .bad, .bad], memL [some (.row 1 (List.replicate l.length (Cell.bool false)))], []⟩, 1⟩ := by simp [S_toBoolS, part_zero]
  unfold runRO
  simp (maxSteps := 4000000) -implicitDefEqProofs [tab74, a74, x_seq, x_cond, x_block, x_region, x_skip, x_exit, x_ret, head_id, runG, runOps, doOp, wantB, stepOp, AO.eff, pureOp, St.get, St.one, St.num, St.put, St.optNum, binA, binInt, List.take, List.drop, effOp2, effOp, memL_app, stoRow, cellsAt, toCells, toCell, scalar_int, scalar_bool, scalar_str, scalar_sl, updAt, fromRo, upd, h1, hc, newRowSt]
  rw [loop_toBoolS l (by omega) (by
    change _ = _
    rw [hS]
    kernel_rfl)]
  simp (maxSteps := 4000000) -implicitDefEqProofs [Z_toBoolS, x_seq, x_cond, x_block, x_region, x_skip, x_exit, x_ret, head_id, runG, runOps, doOp, wantB, stepOp, AO.eff, pureOp, St.get, St.one, St.num, St.put, St.optNum, binA, binInt, List.take, List.drop, effOp2, effOp, memL_app, stoRow, cellsAt, toCells, toCell, scalar_int, scalar_bool, scalar_str, scalar_sl, updAt, fromRo, upd, resOf, resSV, SV.map, SV.ids, A1.ids, reach, allObs, ren, pos, Ob.map, St.canon, memL, List.range, List.range.loop]
/-! Rows of what has rows of its own. -/
theorem r_toRec (x : PRec) : runRO (X tab) tab 55 [.v true (recA x)] = some (.v true [.int .i64 x.cell, .int .i64 x.up], []) := by
  unfold runRO
  simp only [recA]
  simp (maxSteps := 4000000) -implicitDefEqProofs [tab55, a55, x_seq, x_cond, x_block, x_region, x_skip, x_exit, x_ret, head_id, runG, runOps, doOp, wantB, stepOp, AO.eff, pureOp, St.get, St.one, St.num, St.put, St.optNum, binA, binInt, List.take, List.drop, effOp2, effOp, memL_app, stoRow, cellsAt, toCells, toCell, scalar_int, scalar_bool, scalar_str, scalar_sl, updAt, fromRo, upd, resOf, resSV, SV.map, SV.ids, A1.ids, reach, allObs, ren, pos, Ob.map, St.canon, memL, List.range, List.range.loop, spl]
theorem r_toWire (x : PWire) (hx : x.bytes.length ≤ 1048576) : runRO (X tab) tab 54 [.v true (wireA x)] = some (.v true [.int .i64 x.src, .int .i64 x.dst, .sl 0 [] 0 x.bytes.length], [.row 1 (cl .u8 x.bytes)]) := by
  have h1 := toByteS x.bytes hx
  unfold runRO
  simp only [wireA]
  simp (maxSteps := 4000000) -implicitDefEqProofs [tab54, a54, x_seq, x_cond, x_block, x_region, x_skip, x_exit, x_ret, head_id, runG, runOps, doOp, wantB, stepOp, AO.eff, pureOp, St.get, St.one, St.num, St.put, St.optNum, binA, binInt, List.take, List.drop, effOp2, effOp, memL_app, stoRow, cellsAt, toCells, toCell, scalar_int, scalar_bool, scalar_str, scalar_sl, updAt, fromRo, upd, callRO, addMem_nil, roArgs, roL, roA, srcCells, A1.ownB, addMem, shift, ren, SV.map, Ob.map, Ob.noRo, SV.noRo, A1.noRo, List.range, List.range.loop, resOf, resSV, SV.map, SV.ids, A1.ids, reach, allObs, ren, pos, Ob.map, St.canon, memL, List.range, List.range.loop, h1, spl]
def S_toIntSS (l : List (List Int)) (i : Nat) : XS := ⟨⟨[.v false [.ro l.length (l.map intsC)], .bad, .bad, .v false [.sl 0 [] 0 l.length], .v false [.int .i64 (i)], .bad, .bad, .bad, .bad, .bad, .bad, .bad, .bad, .bad, .bad, .bad, .bad, .bad, .bad, .bad, .bad, .bad, .bad], memL [some (.row 1 (part layI zeroI l i))], []⟩, 1⟩
def Z_toIntSS (l : List (List Int)) : XS := ⟨⟨[.bad, .bad, .bad, .v false [.sl 0 [] 0 l.length], .bad, .bad, .bad, .bad, .bad, .bad, .bad, .bad, .bad, .bad, .bad, .bad, .bad, .bad, .bad, .bad, .bad, .bad, .bad], memL [some (.row 1 (l.map intsC))], []⟩, 1⟩
theorem loop_toIntSS (l : List (List Int)) (hn : l.length ≤ 1048576) (he : ∀ y ∈ l, y.length ≤ 1048576) {x : XS} (hx : head true d75_0 x = S_toIntSS l 0) : X tab l75_0 x = some (.exit 0, Z_toIntSS l) := by
  refine loopN l.length (S_toIntSS l) _ (by simp) (fun i hi => ?_) ?_ (Nat.zero_le _) hx
  · obtain ⟨y, r, hl⟩ : ∃ y r, l.drop i = y :: r := ⟨_, _, List.drop_eq_getElem_cons hi⟩
    have h1 : (0 ≤ (i : Int) ∧ (i : Int) < (l.length : Int)) := by omega
    have h2 := intss_at hl
    have h3 : i * 1 + 1 ≤ (part layI zeroI l i).length := by rw [part_len (z := 1) (fun _ => rfl) rfl (by omega)]; omega
    have h4 : IntKind.i64.wrap ((i : Int) + 1) = ((i + 1 : Nat) : Int) := by rw [wrap_id (by omega) (by omega)]; omega
    have h5 := part_next (lay := layI) (zc := zeroI) (z := 1) (fun _ => rfl) rfl hl
    have h6 := toIntS y (he y (dropx_mem hl))
    try simp only [Nat.mul_one] at h3 h5
    simp only [layI, intsC, List.cons_append, List.nil_append] at h2 h5 h6
    simp only [S_toIntSS]
    generalize part layI zeroI l i = p at *
    generalize part layI zeroI l (i + 1) = p' at *
    simp (maxSteps := 4000000) -implicitDefEqProofs [b75_0, x_seq, x_cond, x_block, x_region, x_skip, x_exit, x_ret, head_id, runG, runOps, doOp, wantB, stepOp, AO.eff, pureOp, St.get, St.one, St.num, St.put, St.optNum, binA, binInt, List.take, List.drop, effOp2, effOp, memL_app, stoRow, cellsAt, toCells, toCell, scalar_int, scalar_bool, scalar_str, scalar_sl, updAt, fromRo, upd, callRO, addMem_nil, roArgs, roL, roA, srcCells, A1.ownB, addMem, shift, ren, SV.map, Ob.map, Ob.noRo, SV.noRo, A1.noRo, List.range, List.range.loop, fromRo, h1, h2, h3, h4, h5, h6, hi, cutoff, kill, Eng.thru, mapMem, -Int.natCast_add]
    change _ = _
    kernel_rfl
  · simp only [S_toIntSS, part_all, layI_map]
    simp (maxSteps := 4000000) -implicitDefEqProofs [b75_0, x_seq, x_cond, x_block, x_region, x_skip, x_exit, x_ret, head_id, runG, runOps, doOp, wantB, stepOp, AO.eff, pureOp, St.get, St.one, St.num, St.put, St.optNum, binA, binInt, List.take, List.drop, effOp2, effOp, memL_app, stoRow, cellsAt, toCells, toCell, scalar_int, scalar_bool, scalar_str, scalar_sl, updAt, fromRo, upd, Z_toIntSS]
    change _ = _
    kernel_rfl
theorem r_toIntSS (l : List (List Int)) (hn : l.length ≤ 1048576) (he : ∀ y ∈ l, y.length ≤ 1048576) : runRO (X tab) tab 75 [.v false [.ro l.length (l.map intsC)]] = some (.v false [.sl 0 [] 0 l.length], [.row 1 (l.map intsC)]) := by
  have h1 : 24 * (l.length : Int) ≤ 281474976710656 := by omega
  have hc := cells_reps' (m := fun _ => none) (zero := [.nil]) (zc := zeroI) (fun r cs h => by simp only [List.cons_append, List.nil_append, toCells, toCell, h]; rfl) l.length
  have hS : S_toIntSS l 0 = ⟨⟨[.v false [.ro l.length (l.map intsC)], .bad, .bad, .v false [.sl 0 [] 0 l.length], .v false [.int .i64 (0)], .bad, .bad, .bad, .bad, .bad, .bad, .bad, .bad, .bad, .bad, .bad, .bad, .bad, .bad, .bad, .bad, .bad, .bad], memL [some (.row 1 (List.replicate l.length zeroI).flatten)], []⟩, 1⟩ := by simp [S_toIntSS, part_zero]
  generalize hfl : (List.replicate l.length zeroI).flatten = fl at *
  unfold runRO
  simp (maxSteps := 4000000) -implicitDefEqProofs [tab75, a75, x_seq, x_cond, x_block, x_region, x_skip, x_exit, x_ret, head_id, runG, runOps, doOp, wantB, stepOp, AO.eff, pureOp, St.get, St.one, St.num, St.put, St.optNum, binA, binInt, List.take, List.drop, effOp2, effOp, memL_app, stoRow, cellsAt, toCells, toCell, scalar_int, scalar_bool, scalar_str, scalar_sl, updAt, fromRo, upd, h1, hc, newRowSt]
  rw [loop_toIntSS l hn he (by
    change _ = _
    rw [hS]
    kernel_rfl)]
  simp (maxSteps := 4000000) -implicitDefEqProofs [Z_toIntSS, x_seq, x_cond, x_block, x_region, x_skip, x_exit, x_ret, head_id, runG, runOps, doOp, wantB, stepOp, AO.eff, pureOp, St.get, St.one, St.num, St.put, St.optNum, binA, binInt, List.take, List.drop, effOp2, effOp, memL_app, stoRow, cellsAt, toCells, toCell, scalar_int, scalar_bool, scalar_str, scalar_sl, updAt, fromRo, upd, resOf, resSV, SV.map, SV.ids, A1.ids, reach, allObs, ren, pos, Ob.map, St.canon, memL, List.range, List.range.loop]
def S_toWireS (l : List (PWire)) (i : Nat) : XS := ⟨⟨[.v false [.ro l.length (wiresC l)], .bad, .bad, .v false [.sl 0 [] 0 l.length], .v false [.int .i64 (i)], .bad, .bad, .bad, .bad, .bad, .bad, .bad, .bad, .bad, .bad, .bad, .bad, .bad, .bad, .bad, .bad, .bad, .bad], memL [some (.row 3 (part wireC zeroX l i))], []⟩, 1⟩
def Z_toWireS (l : List (PWire)) : XS := ⟨⟨[.bad, .bad, .bad, .v false [.sl 0 [] 0 l.length], .bad, .bad, .bad, .bad, .bad, .bad, .bad, .bad, .bad, .bad, .bad, .bad, .bad, .bad, .bad, .bad, .bad, .bad, .bad], memL [some (.row 3 (wiresC l))], []⟩, 1⟩
theorem loop_toWireS (l : List (PWire)) (hn : l.length ≤ 1048576) (he : ∀ y ∈ l, y.bytes.length ≤ 1048576) {x : XS} (hx : head true d34_0 x = S_toWireS l 0) : X tab l34_0 x = some (.exit 0, Z_toWireS l) := by
  refine loopN l.length (S_toWireS l) _ (by simp) (fun i hi => ?_) ?_ (Nat.zero_le _) hx
  · obtain ⟨y, r, hl⟩ : ∃ y r, l.drop i = y :: r := ⟨_, _, List.drop_eq_getElem_cons hi⟩
    have h1 : (0 ≤ (i : Int) ∧ (i : Int) < (l.length : Int)) := by omega
    have h2 := wiresC_at hl
    have h3 : i * 3 + 3 ≤ (part wireC zeroX l i).length := by rw [part_len (z := 3) (fun _ => rfl) rfl (by omega)]; omega
    have h4 : IntKind.i64.wrap ((i : Int) + 1) = ((i + 1 : Nat) : Int) := by rw [wrap_id (by omega) (by omega)]; omega
    have h5 := part_next (lay := wireC) (zc := zeroX) (z := 3) (fun _ => rfl) rfl hl
    have h6 := r_toWire y (he y (dropx_mem hl))
    try simp only [Nat.mul_one] at h3 h5
    simp only [wireC, bytesC, wireA, List.cons_append, List.nil_append] at h2 h5 h6
    simp only [S_toWireS]
    generalize part wireC zeroX l i = p at *
    generalize part wireC zeroX l (i + 1) = p' at *
    simp (maxSteps := 4000000) -implicitDefEqProofs [b34_0, x_seq, x_cond, x_block, x_region, x_skip, x_exit, x_ret, head_id, runG, runOps, doOp, wantB, stepOp, AO.eff, pureOp, St.get, St.one, St.num, St.put, St.optNum, binA, binInt, List.take, List.drop, effOp2, effOp, memL_app, stoRow, cellsAt, toCells, toCell, scalar_int, scalar_bool, scalar_str, scalar_sl, updAt, fromRo, upd, callRO, addMem_nil, roArgs, roL, roA, srcCells, A1.ownB, addMem, shift, ren, SV.map, Ob.map, Ob.noRo, SV.noRo, A1.noRo, List.range, List.range.loop, fromRo, h1, h2, h3, h4, h5, h6, hi, cutoff, kill, Eng.thru, mapMem, -Int.natCast_add]
    change _ = _
    kernel_rfl
  · simp only [S_toWireS, part_all, wiresC]
    simp (maxSteps := 4000000) -implicitDefEqProofs [b34_0, x_seq, x_cond, x_block, x_region, x_skip, x_exit, x_ret, head_id, runG, runOps, doOp, wantB, stepOp, AO.eff, pureOp, St.get, St.one, St.num, St.put, St.optNum, binA, binInt, List.take, List.drop, effOp2, effOp, memL_app, stoRow, cellsAt, toCells, toCell, scalar_int, scalar_bool, scalar_str, scalar_sl, updAt, fromRo, upd, Z_toWireS]
    change _ = _
    kernel_rfl
theorem r_toWireS (l : List (PWire)) (hn : l.length ≤ 1048576) (he : ∀ y ∈ l, y.bytes.length ≤ 1048576) : runRO (X tab) tab 34 [.v false [.ro l.length (wiresC l)]] = some (.v false [.sl 0 [] 0 l.length], [.row 3 (wiresC l)]) := by
  have h1 : 40 * (l.length : Int) ≤ 281474976710656 := by omega
  have hc := cells_reps' (m := fun _ => none) (zero := [.int .i64 0, .int .i64 0, .nil]) (zc := zeroX) (fun r cs h => by simp only [List.cons_append, List.nil_append, toCells, toCell, h]; rfl) l.length
  have hS : S_toWireS l 0 = ⟨⟨[.v false [.ro l.length (wiresC l)], .bad, .bad, .v false [.sl 0 [] 0 l.length], .v false [.int .i64 (0)], .bad, .bad, .bad, .bad, .bad, .bad, .bad, .bad, .bad, .bad, .bad, .bad, .bad, .bad, .bad, .bad, .bad, .bad], memL [some (.row 3 (List.replicate l.length zeroX).flatten)], []⟩, 1⟩ := by simp [S_toWireS, part_zero]
  generalize hfl : (List.replicate l.length zeroX).flatten = fl at *
  unfold runRO
  simp (maxSteps := 4000000) -implicitDefEqProofs [tab34, a34, x_seq, x_cond, x_block, x_region, x_skip, x_exit, x_ret, head_id, runG, runOps, doOp, wantB, stepOp, AO.eff, pureOp, St.get, St.one, St.num, St.put, St.optNum, binA, binInt, List.take, List.drop, effOp2, effOp, memL_app, stoRow, cellsAt, toCells, toCell, scalar_int, scalar_bool, scalar_str, scalar_sl, updAt, fromRo, upd, h1, hc, newRowSt]
  rw [loop_toWireS l hn he (by
    change _ = _
    rw [hS]
    kernel_rfl)]
  simp (maxSteps := 4000000) -implicitDefEqProofs [Z_toWireS, x_seq, x_cond, x_block, x_region, x_skip, x_exit, x_ret, head_id, runG, runOps, doOp, wantB, stepOp, AO.eff, pureOp, St.get, St.one, St.num, St.put, St.optNum, binA, binInt, List.take, List.drop, effOp2, effOp, memL_app, stoRow, cellsAt, toCells, toCell, scalar_int, scalar_bool, scalar_str, scalar_sl, updAt, fromRo, upd, resOf, resSV, SV.map, SV.ids, A1.ids, reach, allObs, ren, pos, Ob.map, St.canon, memL, List.range, List.range.loop]
end Go.Proofs.Ytbdokibepndibaa.Eng.B
