/- The laws' own functions over worlds, fourth part: what is alike is found to be so. -/
import Derived.Test.YtbdokibepndibaaBW3
namespace Go.Proofs.Ytbdokibepndibaa.Eng.B
set_option linter.unusedSimpArgs false
set_option linter.unusedVariables false
set_option maxHeartbeats 16000000
set_option maxRecDepth 100000
open Go.RowKit Go.Proofs

def EqL {α : Type} (f : FuncId) (lay : List α → List Cell) (l : List α) : Prop :=
  runRO (X tab) tab f [.v false [.ro l.length (lay l)], .v false [.ro l.length (lay l)]] = some (.v false [.bool true], [])
theorem r_eqRec (x : PRec) (_ : True) : runRO (X tab) tab 60 [.v true (recA x), .v true (recA x)] = some (.v false [.bool true], []) := by
  unfold runRO
  simp only [recA]
  simp (maxSteps := 4000000) -implicitDefEqProofs [tab60, a60, x_seq, x_cond, x_block, x_region, x_skip, x_exit, x_ret, head_id, runG, runOps, doOp, wantB, stepOp, AO.eff, pureOp, St.get, St.one, St.num, St.put, St.optNum, binA, binInt, List.take, List.drop, effOp2, effOp, memL_app, stoRow, cellsAt, toCells, toCell, scalar_int, scalar_bool, scalar_str, scalar_sl, updAt, fromRo, upd, resOf, resSV, SV.map, SV.ids, A1.ids, reach, allObs, ren, pos, Ob.map, St.canon, memL, List.range, List.range.loop]
theorem r_eqWire (x : PWire) (hx : x.bytes.length ≤ 1048576) : runRO (X tab) tab 59 [.v true (wireA x), .v true (wireA x)] = some (.v false [.bool true], []) := by
  have q1 := eqByteS x.bytes hx
  unfold runRO
  simp only [wireA]
  simp (maxSteps := 4000000) -implicitDefEqProofs [tab59, a59, x_seq, x_cond, x_block, x_region, x_skip, x_exit, x_ret, head_id, runG, runOps, doOp, wantB, stepOp, AO.eff, pureOp, St.get, St.one, St.num, St.put, St.optNum, binA, binInt, List.take, List.drop, effOp2, effOp, memL_app, stoRow, cellsAt, toCells, toCell, scalar_int, scalar_bool, scalar_str, scalar_sl, updAt, fromRo, upd, callRO, addMem_nil, roArgs, roL, roA, srcCells, A1.ownB, addMem, shift, ren, SV.map, Ob.map, Ob.noRo, SV.noRo, A1.noRo, List.range, List.range.loop, resOf, resSV, SV.map, SV.ids, A1.ids, reach, allObs, ren, pos, Ob.map, St.canon, memL, List.range, List.range.loop, q1]
def S_eqBoolS (l : List (Bool)) (i : Nat) : XS := ⟨⟨[.v false [.ro l.length (cb l)], .v false [.ro l.length (cb l)], .bad, .bad, .bad, .v false [.int .i64 (i)], .bad, .bad, .bad, .bad, .bad, .bad, .bad, .bad, .bad, .bad, .bad, .bad, .bad, .bad, .bad, .bad, .bad, .bad, .bad, .bad], memL [], []⟩, 0⟩
def Z_eqBoolS : XS := ⟨⟨[.bad, .bad, .bad, .bad, .bad, .bad, .bad, .bad, .bad, .bad, .bad, .bad, .bad, .bad, .bad, .bad, .bad, .bad, .bad, .bad, .bad, .bad, .bad, .bad, .bad, .bad], memL [], []⟩, 0⟩
theorem loop_eqBoolS (l : List (Bool)) (hn : l.length ≤ 1048576) (he : ∀ y ∈ l, True) {x : XS} (hx : head true d79_0 x = S_eqBoolS l 0) : X tab l79_0 x = some (.exit 0, Z_eqBoolS) := by
  refine loopN l.length (S_eqBoolS l) _ (by simp) (fun i hi => ?_) ?_ (Nat.zero_le _) hx
  · obtain ⟨y, r, hl⟩ : ∃ y r, l.drop i = y :: r := ⟨_, _, List.drop_eq_getElem_cons hi⟩
    have h1 : (0 ≤ (i : Int) ∧ (i : Int) < (l.length : Int)) := by omega
    have h2 := cb_at hl
    have h4 : IntKind.i64.wrap ((i : Int) + 1) = ((i + 1 : Nat) : Int) := by rw [wrap_id (by omega) (by omega)]; omega
    have h6 := trivial
    try simp only [cb_at, List.cons_append, List.nil_append] at h2 h6
    simp only [S_eqBoolS]
    simp (maxSteps := 4000000) -implicitDefEqProofs [b79_0, x_seq, x_cond, x_block, x_region, x_skip, x_exit, x_ret, head_id, runG, runOps, doOp, wantB, stepOp, AO.eff, pureOp, St.get, St.one, St.num, St.put, St.optNum, binA, binInt, List.take, List.drop, gOp, gOp0, gOpL, gResL, updO, gRes, gEff, addObs_nil, addObs_one, freshB_memL, freshB_none, freshB_upd, freshB_addMem, freshB_addObs, callRO, addMem_nil, roArgs, roL, roA, srcCells, A1.ownB, addMem, shift, ren, SV.map, Ob.map, Ob.noRo, SV.noRo, A1.noRo, List.range, List.range.loop, fromRo, h1, h2, h4, h6, hi, -Int.natCast_add]
    change _ = _
    kernel_rfl
  · simp (maxSteps := 4000000) -implicitDefEqProofs [b79_0, S_eqBoolS, x_seq, x_cond, x_block, x_region, x_skip, x_exit, x_ret, head_id, runG, runOps, doOp, wantB, stepOp, AO.eff, pureOp, St.get, St.one, St.num, St.put, St.optNum, binA, binInt, List.take, List.drop]
    change _ = _
    kernel_rfl
theorem r_eqBoolS (l : List (Bool)) (hn : l.length ≤ 1048576) (he : ∀ y ∈ l, True) : runRO (X tab) tab 79 [.v false [.ro l.length (cb l)], .v false [.ro l.length (cb l)]] = some (.v false [.bool true], []) := by
  unfold runRO
  simp (maxSteps := 4000000) -implicitDefEqProofs [tab79, a79, x_seq, x_cond, x_block, x_region, x_skip, x_exit, x_ret, head_id, runG, runOps, doOp, wantB, stepOp, AO.eff, pureOp, St.get, St.one, St.num, St.put, St.optNum, binA, binInt, List.take, List.drop]
  rw [loop_eqBoolS l hn he (by change _ = _; kernel_rfl)]
  simp (maxSteps := 4000000) -implicitDefEqProofs [Z_eqBoolS, x_seq, x_cond, x_block, x_region, x_skip, x_exit, x_ret, head_id, runG, runOps, doOp, wantB, stepOp, AO.eff, pureOp, St.get, St.one, St.num, St.put, St.optNum, binA, binInt, List.take, List.drop, resOf, resSV, SV.map, SV.ids, A1.ids, reach, allObs, ren, pos, Ob.map, St.canon, memL, List.range, List.range.loop]
def S_eqIntSS (l : List (List Int)) (i : Nat) : XS := ⟨⟨[.v false [.ro l.length (l.map intsC)], .v false [.ro l.length (l.map intsC)], .bad, .bad, .bad, .v false [.int .i64 (i)], .bad, .bad, .bad, .bad, .bad, .bad, .bad, .bad, .bad, .bad, .bad, .bad, .bad, .bad, .bad, .bad, .bad, .bad, .bad, .bad, .bad], memL [], []⟩, 0⟩
def Z_eqIntSS : XS := ⟨⟨[.bad, .bad, .bad, .bad, .bad, .bad, .bad, .bad, .bad, .bad, .bad, .bad, .bad, .bad, .bad, .bad, .bad, .bad, .bad, .bad, .bad, .bad, .bad, .bad, .bad, .bad, .bad], memL [], []⟩, 0⟩
theorem loop_eqIntSS (l : List (List Int)) (hn : l.length ≤ 1048576) (he : ∀ y ∈ l, y.length ≤ 1048576) {x : XS} (hx : head true d80_0 x = S_eqIntSS l 0) : X tab l80_0 x = some (.exit 0, Z_eqIntSS) := by
  refine loopN l.length (S_eqIntSS l) _ (by simp) (fun i hi => ?_) ?_ (Nat.zero_le _) hx
  · obtain ⟨y, r, hl⟩ : ∃ y r, l.drop i = y :: r := ⟨_, _, List.drop_eq_getElem_cons hi⟩
    have h1 : (0 ≤ (i : Int) ∧ (i : Int) < (l.length : Int)) := by omega
    have h2 := intss_at hl
    have h4 : IntKind.i64.wrap ((i : Int) + 1) = ((i + 1 : Nat) : Int) := by rw [wrap_id (by omega) (by omega)]; omega
    have h6 := eqIntS y (he y (dropx_mem hl))
    try simp only [intsC, List.cons_append, List.nil_append] at h2 h6
    simp only [S_eqIntSS]
    simp (maxSteps := 4000000) -implicitDefEqProofs [b80_0, x_seq, x_cond, x_block, x_region, x_skip, x_exit, x_ret, head_id, runG, runOps, doOp, wantB, stepOp, AO.eff, pureOp, St.get, St.one, St.num, St.put, St.optNum, binA, binInt, List.take, List.drop, gOp, gOp0, gOpL, gResL, updO, gRes, gEff, addObs_nil, addObs_one, freshB_memL, freshB_none, freshB_upd, freshB_addMem, freshB_addObs, callRO, addMem_nil, roArgs, roL, roA, srcCells, A1.ownB, addMem, shift, ren, SV.map, Ob.map, Ob.noRo, SV.noRo, A1.noRo, List.range, List.range.loop, fromRo, h1, h2, h4, h6, hi, -Int.natCast_add]
    change _ = _
    kernel_rfl
  · simp (maxSteps := 4000000) -implicitDefEqProofs [b80_0, S_eqIntSS, x_seq, x_cond, x_block, x_region, x_skip, x_exit, x_ret, head_id, runG, runOps, doOp, wantB, stepOp, AO.eff, pureOp, St.get, St.one, St.num, St.put, St.optNum, binA, binInt, List.take, List.drop]
    change _ = _
    kernel_rfl
theorem r_eqIntSS (l : List (List Int)) (hn : l.length ≤ 1048576) (he : ∀ y ∈ l, y.length ≤ 1048576) : runRO (X tab) tab 80 [.v false [.ro l.length (l.map intsC)], .v false [.ro l.length (l.map intsC)]] = some (.v false [.bool true], []) := by
  unfold runRO
  simp (maxSteps := 4000000) -implicitDefEqProofs [tab80, a80, x_seq, x_cond, x_block, x_region, x_skip, x_exit, x_ret, head_id, runG, runOps, doOp, wantB, stepOp, AO.eff, pureOp, St.get, St.one, St.num, St.put, St.optNum, binA, binInt, List.take, List.drop]
  rw [loop_eqIntSS l hn he (by change _ = _; kernel_rfl)]
  simp (maxSteps := 4000000) -implicitDefEqProofs [Z_eqIntSS, x_seq, x_cond, x_block, x_region, x_skip, x_exit, x_ret, head_id, runG, runOps, doOp, wantB, stepOp, AO.eff, pureOp, St.get, St.one, St.num, St.put, St.optNum, binA, binInt, List.take, List.drop, resOf, resSV, SV.map, SV.ids, A1.ids, reach, allObs, ren, pos, Ob.map, St.canon, memL, List.range, List.range.loop]
def S_eqRecS (l : List (PRec)) (i : Nat) : XS := ⟨⟨[.v false [.ro l.length (recsC l)], .v false [.ro l.length (recsC l)], .bad, .bad, .bad, .v false [.int .i64 (i)], .bad, .bad, .bad, .bad, .bad, .bad, .bad, .bad, .bad, .bad, .bad, .bad, .bad, .bad, .bad, .bad, .bad, .bad, .bad, .bad, .bad], memL [], []⟩, 0⟩
def Z_eqRecS : XS := ⟨⟨[.bad, .bad, .bad, .bad, .bad, .bad, .bad, .bad, .bad, .bad, .bad, .bad, .bad, .bad, .bad, .bad, .bad, .bad, .bad, .bad, .bad, .bad, .bad, .bad, .bad, .bad, .bad], memL [], []⟩, 0⟩
theorem loop_eqRecS (l : List (PRec)) (hn : l.length ≤ 1048576) (he : ∀ y ∈ l, True) {x : XS} (hx : head true d40_0 x = S_eqRecS l 0) : X tab l40_0 x = some (.exit 0, Z_eqRecS) := by
  refine loopN l.length (S_eqRecS l) _ (by simp) (fun i hi => ?_) ?_ (Nat.zero_le _) hx
  · obtain ⟨y, r, hl⟩ : ∃ y r, l.drop i = y :: r := ⟨_, _, List.drop_eq_getElem_cons hi⟩
    have h1 : (0 ≤ (i : Int) ∧ (i : Int) < (l.length : Int)) := by omega
    have h2 := recsC_at hl
    have h4 : IntKind.i64.wrap ((i : Int) + 1) = ((i + 1 : Nat) : Int) := by rw [wrap_id (by omega) (by omega)]; omega
    have h6 := r_eqRec y (he y (dropx_mem hl))
    try simp only [recC, recA, List.cons_append, List.nil_append] at h2 h6
    simp only [S_eqRecS]
    simp (maxSteps := 4000000) -implicitDefEqProofs [b40_0, x_seq, x_cond, x_block, x_region, x_skip, x_exit, x_ret, head_id, runG, runOps, doOp, wantB, stepOp, AO.eff, pureOp, St.get, St.one, St.num, St.put, St.optNum, binA, binInt, List.take, List.drop, gOp, gOp0, gOpL, gResL, updO, gRes, gEff, addObs_nil, addObs_one, freshB_memL, freshB_none, freshB_upd, freshB_addMem, freshB_addObs, callRO, addMem_nil, roArgs, roL, roA, srcCells, A1.ownB, addMem, shift, ren, SV.map, Ob.map, Ob.noRo, SV.noRo, A1.noRo, List.range, List.range.loop, fromRo, h1, h2, h4, h6, hi, -Int.natCast_add]
    change _ = _
    kernel_rfl
  · simp (maxSteps := 4000000) -implicitDefEqProofs [b40_0, S_eqRecS, x_seq, x_cond, x_block, x_region, x_skip, x_exit, x_ret, head_id, runG, runOps, doOp, wantB, stepOp, AO.eff, pureOp, St.get, St.one, St.num, St.put, St.optNum, binA, binInt, List.take, List.drop]
    change _ = _
    kernel_rfl
theorem r_eqRecS (l : List (PRec)) (hn : l.length ≤ 1048576) (he : ∀ y ∈ l, True) : runRO (X tab) tab 40 [.v false [.ro l.length (recsC l)], .v false [.ro l.length (recsC l)]] = some (.v false [.bool true], []) := by
  unfold runRO
  simp (maxSteps := 4000000) -implicitDefEqProofs [tab40, a40, x_seq, x_cond, x_block, x_region, x_skip, x_exit, x_ret, head_id, runG, runOps, doOp, wantB, stepOp, AO.eff, pureOp, St.get, St.one, St.num, St.put, St.optNum, binA, binInt, List.take, List.drop]
  rw [loop_eqRecS l hn he (by change _ = _; kernel_rfl)]
  simp (maxSteps := 4000000) -implicitDefEqProofs [Z_eqRecS, x_seq, x_cond, x_block, x_region, x_skip, x_exit, x_ret, head_id, runG, runOps, doOp, wantB, stepOp, AO.eff, pureOp, St.get, St.one, St.num, St.put, St.optNum, binA, binInt, List.take, List.drop, resOf, resSV, SV.map, SV.ids, A1.ids, reach, allObs, ren, pos, Ob.map, St.canon, memL, List.range, List.range.loop]
def S_eqWireS (l : List (PWire)) (i : Nat) : XS := ⟨⟨[.v false [.ro l.length (wiresC l)], .v false [.ro l.length (wiresC l)], .bad, .bad, .bad, .v false [.int .i64 (i)], .bad, .bad, .bad, .bad, .bad, .bad, .bad, .bad, .bad, .bad, .bad, .bad, .bad, .bad, .bad, .bad, .bad, .bad, .bad, .bad, .bad], memL [], []⟩, 0⟩
def Z_eqWireS : XS := ⟨⟨[.bad, .bad, .bad, .bad, .bad, .bad, .bad, .bad, .bad, .bad, .bad, .bad, .bad, .bad, .bad, .bad, .bad, .bad, .bad, .bad, .bad, .bad, .bad, .bad, .bad, .bad, .bad], memL [], []⟩, 0⟩
theorem loop_eqWireS (l : List (PWire)) (hn : l.length ≤ 1048576) (he : ∀ y ∈ l, y.bytes.length ≤ 1048576) {x : XS} (hx : head true d39_0 x = S_eqWireS l 0) : X tab l39_0 x = some (.exit 0, Z_eqWireS) := by
  refine loopN l.length (S_eqWireS l) _ (by simp) (fun i hi => ?_) ?_ (Nat.zero_le _) hx
  · obtain ⟨y, r, hl⟩ : ∃ y r, l.drop i = y :: r := ⟨_, _, List.drop_eq_getElem_cons hi⟩
    have h1 : (0 ≤ (i : Int) ∧ (i : Int) < (l.length : Int)) := by omega
    have h2 := wiresC_at hl
    have h4 : IntKind.i64.wrap ((i : Int) + 1) = ((i + 1 : Nat) : Int) := by rw [wrap_id (by omega) (by omega)]; omega
    have h6 := r_eqWire y (he y (dropx_mem hl))
    try simp only [wireC, wireA, bytesC, List.cons_append, List.nil_append] at h2 h6
    simp only [S_eqWireS]
    simp (maxSteps := 4000000) -implicitDefEqProofs [b39_0, x_seq, x_cond, x_block, x_region, x_skip, x_exit, x_ret, head_id, runG, runOps, doOp, wantB, stepOp, AO.eff, pureOp, St.get, St.one, St.num, St.put, St.optNum, binA, binInt, List.take, List.drop, gOp, gOp0, gOpL, gResL, updO, gRes, gEff, addObs_nil, addObs_one, freshB_memL, freshB_none, freshB_upd, freshB_addMem, freshB_addObs, callRO, addMem_nil, roArgs, roL, roA, srcCells, A1.ownB, addMem, shift, ren, SV.map, Ob.map, Ob.noRo, SV.noRo, A1.noRo, List.range, List.range.loop, fromRo, h1, h2, h4, h6, hi, -Int.natCast_add]
    change _ = _
    kernel_rfl
  · simp (maxSteps := 4000000) -implicitDefEqProofs [b39_0, S_eqWireS, x_seq, x_cond, x_block, x_region, x_skip, x_exit, x_ret, head_id, runG, runOps, doOp, wantB, stepOp, AO.eff, pureOp, St.get, St.one, St.num, St.put, St.optNum, binA, binInt, List.take, List.drop]
    change _ = _
    kernel_rfl
theorem r_eqWireS (l : List (PWire)) (hn : l.length ≤ 1048576) (he : ∀ y ∈ l, y.bytes.length ≤ 1048576) : runRO (X tab) tab 39 [.v false [.ro l.length (wiresC l)], .v false [.ro l.length (wiresC l)]] = some (.v false [.bool true], []) := by
  unfold runRO
  simp (maxSteps := 4000000) -implicitDefEqProofs [tab39, a39, x_seq, x_cond, x_block, x_region, x_skip, x_exit, x_ret, head_id, runG, runOps, doOp, wantB, stepOp, AO.eff, pureOp, St.get, St.one, St.num, St.put, St.optNum, binA, binInt, List.take, List.drop]
  rw [loop_eqWireS l hn he (by change _ = _; kernel_rfl)]
  simp (maxSteps := 4000000) -implicitDefEqProofs [Z_eqWireS, x_seq, x_cond, x_block, x_region, x_skip, x_exit, x_ret, head_id, runG, runOps, doOp, wantB, stepOp, AO.eff, pureOp, St.get, St.one, St.num, St.put, St.optNum, binA, binInt, List.take, List.drop, resOf, resSV, SV.map, SV.ids, A1.ids, reach, allObs, ren, pos, Ob.map, St.canon, memL, List.range, List.range.loop]
theorem r_eqMeta (m : PMeta) (h1 : m.gens.length ≤ 1048576) (h2 : m.bits.length ≤ 1048576) (h3 : ∀ l ∈ m.bits, l.length ≤ 1048576) : runRO (X tab) tab 77 [.v true (metaA m), .v true (metaA m)] = some (.v false [.bool true], []) := by
  have q1 := eqIntS m.gens h1
  have q2 := r_eqIntSS m.bits h2 h3
  unfold runRO
  simp only [metaA]
  simp (maxSteps := 4000000) -implicitDefEqProofs [tab77, a77, x_seq, x_cond, x_block, x_region, x_skip, x_exit, x_ret, head_id, runG, runOps, doOp, wantB, stepOp, AO.eff, pureOp, St.get, St.one, St.num, St.put, St.optNum, binA, binInt, List.take, List.drop, effOp2, effOp, memL_app, stoRow, cellsAt, toCells, toCell, scalar_int, scalar_bool, scalar_str, scalar_sl, updAt, fromRo, upd, callRO, addMem_nil, roArgs, roL, roA, srcCells, A1.ownB, addMem, shift, ren, SV.map, Ob.map, Ob.noRo, SV.noRo, A1.noRo, List.range, List.range.loop, resOf, resSV, SV.map, SV.ids, A1.ids, reach, allObs, ren, pos, Ob.map, St.canon, memL, List.range, List.range.loop, q1, q2]
theorem r_eqSlots (n : PNode) (h1 : n.sa.length ≤ 1048576) (h2 : n.sb.length ≤ 1048576) : runRO (X tab) tab 78 [.v true (slotsA n), .v true (slotsA n)] = some (.v false [.bool true], []) := by
  have q1 := eqByteS n.sa h1
  have q2 := eqByteS n.sb h2
  unfold runRO
  simp only [slotsA]
  simp (maxSteps := 4000000) -implicitDefEqProofs [tab78, a78, x_seq, x_cond, x_block, x_region, x_skip, x_exit, x_ret, head_id, runG, runOps, doOp, wantB, stepOp, AO.eff, pureOp, St.get, St.one, St.num, St.put, St.optNum, binA, binInt, List.take, List.drop, effOp2, effOp, memL_app, stoRow, cellsAt, toCells, toCell, scalar_int, scalar_bool, scalar_str, scalar_sl, updAt, fromRo, upd, callRO, addMem_nil, roArgs, roL, roA, srcCells, A1.ownB, addMem, shift, ren, SV.map, Ob.map, Ob.noRo, SV.noRo, A1.noRo, List.range, List.range.loop, resOf, resSV, SV.map, SV.ids, A1.ids, reach, allObs, ren, pos, Ob.map, St.canon, memL, List.range, List.range.loop, q1, q2]
theorem r_eqNode (n : PNode) (h : SmN n) : runRO (X tab) tab 58 [.v true (nodeA n), .v true (nodeA n)] = some (.v false [.bool true], []) := by
  have q1 := eqIntS n.image h.image
  have q2 := r_eqMeta n.mt h.gens h.bits h.bit
  have q3 := r_eqSlots n h.sa h.sb
  have q4 := r_eqBoolS n.conn h.conn (fun _ _ => trivial)
  have q5 := r_eqIntSS n.sync h.sync h.syn
  have q6 := r_eqBoolS n.copies h.copies (fun _ _ => trivial)
  have q7 := eqIntS n.wait h.wait
  simp only [metaA, slotsA] at q2 q3
  unfold runRO
  simp only [nodeA]
  simp (maxSteps := 4000000) -implicitDefEqProofs [tab58, a58, x_seq, x_cond, x_block, x_region, x_skip, x_exit, x_ret, head_id, runG, runOps, doOp, wantB, stepOp, AO.eff, pureOp, St.get, St.one, St.num, St.put, St.optNum, binA, binInt, List.take, List.drop, effOp2, effOp, memL_app, stoRow, cellsAt, toCells, toCell, scalar_int, scalar_bool, scalar_str, scalar_sl, updAt, fromRo, upd, callRO, addMem_nil, roArgs, roL, roA, srcCells, A1.ownB, addMem, shift, ren, SV.map, Ob.map, Ob.noRo, SV.noRo, A1.noRo, List.range, List.range.loop, resOf, resSV, SV.map, SV.ids, A1.ids, reach, allObs, ren, pos, Ob.map, St.canon, memL, List.range, List.range.loop, q1, q2, q3, q4, q5, q6, q7]
def S_eqNodeS (l : List (PNode)) (i : Nat) : XS := ⟨⟨[.v false [.ro l.length (nodesC l)], .v false [.ro l.length (nodesC l)], .bad, .bad, .bad, .v false [.int .i64 (i)], .bad, .bad, .bad, .bad, .bad, .bad, .bad, .bad, .bad, .bad, .bad, .bad, .bad, .bad, .bad, .bad, .bad, .bad, .bad, .bad, .bad], memL [], []⟩, 0⟩
def Z_eqNodeS : XS := ⟨⟨[.bad, .bad, .bad, .bad, .bad, .bad, .bad, .bad, .bad, .bad, .bad, .bad, .bad, .bad, .bad, .bad, .bad, .bad, .bad, .bad, .bad, .bad, .bad, .bad, .bad, .bad, .bad], memL [], []⟩, 0⟩
theorem loop_eqNodeS (l : List (PNode)) (hn : l.length ≤ 1048576) (he : ∀ y ∈ l, SmN y) {x : XS} (hx : head true d38_0 x = S_eqNodeS l 0) : X tab l38_0 x = some (.exit 0, Z_eqNodeS) := by
  refine loopN l.length (S_eqNodeS l) _ (by simp) (fun i hi => ?_) ?_ (Nat.zero_le _) hx
  · obtain ⟨y, r, hl⟩ : ∃ y r, l.drop i = y :: r := ⟨_, _, List.drop_eq_getElem_cons hi⟩
    have h1 : (0 ≤ (i : Int) ∧ (i : Int) < (l.length : Int)) := by omega
    have h2 := nodesC_at hl
    have h4 : IntKind.i64.wrap ((i : Int) + 1) = ((i + 1 : Nat) : Int) := by rw [wrap_id (by omega) (by omega)]; omega
    have h6 := r_eqNode y (he y (dropx_mem hl))
    try simp only [nodeC, nodeA, intsC, intssC, bytesC, boolsC, List.cons_append, List.nil_append] at h2 h6
    simp only [S_eqNodeS]
    simp (maxSteps := 4000000) -implicitDefEqProofs [b38_0, x_seq, x_cond, x_block, x_region, x_skip, x_exit, x_ret, head_id, runG, runOps, doOp, wantB, stepOp, AO.eff, pureOp, St.get, St.one, St.num, St.put, St.optNum, binA, binInt, List.take, List.drop, gOp, gOp0, gOpL, gResL, updO, gRes, gEff, addObs_nil, addObs_one, freshB_memL, freshB_none, freshB_upd, freshB_addMem, freshB_addObs, callRO, addMem_nil, roArgs, roL, roA, srcCells, A1.ownB, addMem, shift, ren, SV.map, Ob.map, Ob.noRo, SV.noRo, A1.noRo, List.range, List.range.loop, fromRo, h1, h2, h4, h6, hi, -Int.natCast_add]
    change _ = _
    kernel_rfl
  · simp (maxSteps := 4000000) -implicitDefEqProofs [b38_0, S_eqNodeS, x_seq, x_cond, x_block, x_region, x_skip, x_exit, x_ret, head_id, runG, runOps, doOp, wantB, stepOp, AO.eff, pureOp, St.get, St.one, St.num, St.put, St.optNum, binA, binInt, List.take, List.drop]
    change _ = _
    kernel_rfl
theorem r_eqNodeS (l : List (PNode)) (hn : l.length ≤ 1048576) (he : ∀ y ∈ l, SmN y) : runRO (X tab) tab 38 [.v false [.ro l.length (nodesC l)], .v false [.ro l.length (nodesC l)]] = some (.v false [.bool true], []) := by
  unfold runRO
  simp (maxSteps := 4000000) -implicitDefEqProofs [tab38, a38, x_seq, x_cond, x_block, x_region, x_skip, x_exit, x_ret, head_id, runG, runOps, doOp, wantB, stepOp, AO.eff, pureOp, St.get, St.one, St.num, St.put, St.optNum, binA, binInt, List.take, List.drop]
  rw [loop_eqNodeS l hn he (by change _ = _; kernel_rfl)]
  simp (maxSteps := 4000000) -implicitDefEqProofs [Z_eqNodeS, x_seq, x_cond, x_block, x_region, x_skip, x_exit, x_ret, head_id, runG, runOps, doOp, wantB, stepOp, AO.eff, pureOp, St.get, St.one, St.num, St.put, St.optNum, binA, binInt, List.take, List.drop, resOf, resSV, SV.map, SV.ids, A1.ids, reach, allObs, ren, pos, Ob.map, St.canon, memL, List.range, List.range.loop]
theorem r_eqWorld (w : PWorld) (h : SmW w) : runRO (X tab) tab 13 [.v true (worldA w), .v true (worldA w)] = some (.v false [.bool true], []) := by
  have q1 := r_eqNodeS w.nodes h.nodes h.node
  have q2 := r_eqWireS w.net h.net h.wire
  have q3 := r_eqRecS w.log h.log (fun _ _ => trivial)
  have q4 := eqIntS w.safe h.safe
  unfold runRO
  simp only [worldA]
  simp (maxSteps := 4000000) -implicitDefEqProofs [tab13, a13, x_seq, x_cond, x_block, x_region, x_skip, x_exit, x_ret, head_id, runG, runOps, doOp, wantB, stepOp, AO.eff, pureOp, St.get, St.one, St.num, St.put, St.optNum, binA, binInt, List.take, List.drop, effOp2, effOp, memL_app, stoRow, cellsAt, toCells, toCell, scalar_int, scalar_bool, scalar_str, scalar_sl, updAt, fromRo, upd, callRO, addMem_nil, roArgs, roL, roA, srcCells, A1.ownB, addMem, shift, ren, SV.map, Ob.map, Ob.noRo, SV.noRo, A1.noRo, List.range, List.range.loop, resOf, resSV, SV.map, SV.ids, A1.ids, reach, allObs, ren, pos, Ob.map, St.canon, memL, List.range, List.range.loop, q1, q2, q3, q4]
end Go.Proofs.Ytbdokibepndibaa.Eng.B
