/- Those that are not marked, how many are, and lists one behind the other. -/
import Derived.Test.YtdagbeihjobmjaaRBits
import Derived.Test.YtdagbeihjobmjaaRMark
namespace Go.Proofs.Ytdagbeihjobmjaa.Eng.R
set_option linter.unusedSimpArgs false
set_option linter.unusedVariables false
set_option maxHeartbeats 8000000
set_option maxRecDepth 100000
open Go.RowKit Go.Proofs

/-- Those below i that are not marked. -/
def oS (m : List Int) : Nat → List Int
  | 0 => []
  | i + 1 => if marksOk m = true ∧ ¬ (i : Int) ∈ m then oS m i ++ [(i : Int)] else oS m i
theorem oS_bound (m : List Int) : ∀ i, (oS m i).length ≤ i := by
  intro i
  induction i with
  | zero => simp [oS]
  | succ i ih =>
    simp only [oS]
    split
    · simp; omega
    · omega
theorem oS_none (m : List Int) (h : marksOk m = false) : ∀ i, oS m i = [] := by
  intro i
  induction i with
  | zero => rfl
  | succ i ih => simp [oS, h, ih]
def S_Others (l : List Int) (i : Nat) (p : List Int) : XS := ⟨⟨[.v false [.ro l.length (cl .i64 l)], .bad, .bad, .v false [.sl 0 [] 0 p.length], .bad, .bad, .v false [.int .i64 (i)], .bad, .bad, .bad, .bad, .bad, .bad, .bad, .bad, .bad, .bad, .bad, .bad, .bad, .bad, .bad, .bad], memL [some (.row 1 (cl .i64 p))], []⟩, 1⟩
def Z_Others (p : List Int) : XS := ⟨⟨[.bad, .bad, .bad, .v false [.sl 0 [] 0 p.length], .bad, .bad, .bad, .bad, .bad, .bad, .bad, .bad, .bad, .bad, .bad, .bad, .bad, .bad, .bad, .bad, .bad, .bad, .bad], memL [some (.row 1 (cl .i64 p))], []⟩, 1⟩
theorem loop_Others (l : List Int) (hn : l.length ≤ 1048576) {x : XS} (hx : head true d70_0 x = S_Others l 0 []) : X tab l70_0 x = some (.exit 0, Z_Others (oS l 8)) := by
  refine loopN 8 (fun i => S_Others l i (oS l i)) _ (by simp) (fun i hi => ?_) ?_ (Nat.zero_le _) hx
  · have h1 : (i : Int) < 8 := by omega
    have h4 : IntKind.i64.wrap ((i : Int) + 1) = ((i + 1 : Nat) : Int) := by rw [wrap_id (by omega) (by omega)]; omega
    have h5 := r_Contains l i hn
    have h6 := r_MarksOk l hn
    have hb := oS_bound l i
    simp only [oS]
    generalize oS l i = p at *
    have h7 : (p.length + 1) * 8 ≤ 140737488355328 := by omega
    cases hm : marksOk l with
    | false =>
      rw [hm] at h6
      simp only [Bool.false_eq_true, false_and, if_false, S_Others]
      simp (maxSteps := 4000000) -implicitDefEqProofs [b70_0, x_seq, x_cond, x_block, x_region, x_skip, x_exit, x_ret, head_id, runG, runOps, doOp, wantB, stepOp, AO.eff, pureOp, St.get, St.one, St.num, St.put, St.optNum, binA, binInt, List.take, List.drop, callRO, addMem_nil, roArgs, roL, roA, srcCells, A1.ownB, addMem, shift, ren, SV.map, Ob.map, Ob.noRo, SV.noRo, A1.noRo, List.range, List.range.loop, memL_app, h1, h4, h6, cl_self, -Int.natCast_add]
      change _ = _
      kernel_rfl
    | true =>
      rw [hm] at h6
      by_cases hb' : (i : Int) ∈ l
      · rw [decide_eq_true hb'] at h5
        rw [if_neg (by simp [hb'])]
        simp only [S_Others]
        simp (maxSteps := 4000000) -implicitDefEqProofs [b70_0, x_seq, x_cond, x_block, x_region, x_skip, x_exit, x_ret, head_id, runG, runOps, doOp, wantB, stepOp, AO.eff, pureOp, St.get, St.one, St.num, St.put, St.optNum, binA, binInt, List.take, List.drop, callRO, addMem_nil, roArgs, roL, roA, srcCells, A1.ownB, addMem, shift, ren, SV.map, Ob.map, Ob.noRo, SV.noRo, A1.noRo, List.range, List.range.loop, memL_app, h1, h4, h5, h6, cl_self, -Int.natCast_add]
        change _ = _
        kernel_rfl
      · rw [decide_eq_false hb'] at h5
        rw [if_pos ⟨rfl, hb'⟩]
        simp only [S_Others, List.length_append, List.length_singleton, ← cl_app1]
        simp (maxSteps := 4000000) -implicitDefEqProofs [b70_0, x_seq, x_cond, x_block, x_region, x_skip, x_exit, x_ret, head_id, runG, runOps, doOp, wantB, stepOp, AO.eff, pureOp, St.get, St.one, St.num, St.put, St.optNum, binA, binInt, List.take, List.drop, callRO, addMem_nil, roArgs, roL, roA, srcCells, A1.ownB, addMem, shift, ren, SV.map, Ob.map, Ob.noRo, SV.noRo, A1.noRo, List.range, List.range.loop, effOp2, effOp, memL_app, stoRow, cellsAt, toCells, toCell, scalar_int, scalar_bool, scalar_str, scalar_sl, updAt, fromRo, upd, srcCells, A1.slB, flat_int, cl_flat', St.parts, Eng.inB, reps, fillA, newRowSt, appSt, oldOf, rest, kill, mapMem, SV.map, Ob.map, h1, h4, h5, h6, h7, cl_self, cl_length, -Int.natCast_add]
        change _ = _
        kernel_rfl
  · simp (maxSteps := 4000000) -implicitDefEqProofs [b70_0, S_Others, x_seq, x_cond, x_block, x_region, x_skip, x_exit, x_ret, head_id, runG, runOps, doOp, wantB, stepOp, AO.eff, pureOp, St.get, St.one, St.num, St.put, St.optNum, binA, binInt, List.take, List.drop, Z_Others]
    change _ = _
    kernel_rfl
theorem r_Others (l : List Int) (hn : l.length ≤ 1048576) : runRO (X tab) tab 70 [.v false [.ro l.length (cl .i64 l)]] = some (.v false [.sl 0 [] 0 (oS l 8).length], [.row 1 (cl .i64 (oS l 8))]) := by
  unfold runRO
  simp (maxSteps := 4000000) -implicitDefEqProofs [tab70, a70, x_seq, x_cond, x_block, x_region, x_skip, x_exit, x_ret, head_id, runG, runOps, doOp, wantB, stepOp, AO.eff, pureOp, St.get, St.one, St.num, St.put, St.optNum, binA, binInt, List.take, List.drop, callRO, addMem_nil, roArgs, roL, roA, srcCells, A1.ownB, addMem, shift, ren, SV.map, Ob.map, Ob.noRo, SV.noRo, A1.noRo, List.range, List.range.loop, effOp2, effOp, memL_app, stoRow, cellsAt, toCells, toCell, scalar_int, scalar_bool, scalar_str, scalar_sl, updAt, fromRo, upd, srcCells, A1.slB, flat_int, cl_flat', St.parts, Eng.inB, reps, fillA, newRowSt, appSt, oldOf, rest, kill, mapMem, SV.map, Ob.map]
  rw [loop_Others l hn (by change _ = _; kernel_rfl)]
  simp (maxSteps := 4000000) -implicitDefEqProofs [Z_Others, x_seq, x_cond, x_block, x_region, x_skip, x_exit, x_ret, head_id, runG, runOps, doOp, wantB, stepOp, AO.eff, pureOp, St.get, St.one, St.num, St.put, St.optNum, binA, binInt, List.take, List.drop, callRO, addMem_nil, roArgs, roL, roA, srcCells, A1.ownB, addMem, shift, ren, SV.map, Ob.map, Ob.noRo, SV.noRo, A1.noRo, List.range, List.range.loop, resOf, resSV, SV.map, SV.ids, A1.ids, reach, allObs, ren, pos, Ob.map, St.canon, memL, List.range, List.range.loop]
def S_sOthers (l : List Int) (i : Nat) (p : List Int) : XS := ⟨⟨[.v false [.ro l.length (cl .i64 l)], .bad, .bad, .v false [.sl 0 [] 0 p.length], .v false [.int .i64 (i)], .bad, .bad, .bad, .bad, .bad, .bad, .bad, .bad, .bad, .bad, .bad, .bad, .bad, .bad, .bad, .bad, .bad, .bad], memL [some (.row 1 (cl .i64 p))], []⟩, 1⟩
def Z_sOthers (p : List Int) : XS := ⟨⟨[.bad, .bad, .bad, .v false [.sl 0 [] 0 p.length], .bad, .bad, .bad, .bad, .bad, .bad, .bad, .bad, .bad, .bad, .bad, .bad, .bad, .bad, .bad, .bad, .bad, .bad, .bad], memL [some (.row 1 (cl .i64 p))], []⟩, 1⟩
theorem loop_sOthers (l : List Int) (hn : l.length ≤ 1048576) (hm : marksOk l = true) {x : XS} (hx : head true d73_0 x = S_sOthers l 0 []) : X tab l73_0 x = some (.exit 0, Z_sOthers (oS l 8)) := by
  refine loopN 8 (fun i => S_sOthers l i (oS l i)) _ (by simp) (fun i hi => ?_) ?_ (Nat.zero_le _) hx
  · have h1 : (i : Int) < 8 := by omega
    have h4 : IntKind.i64.wrap ((i : Int) + 1) = ((i + 1 : Nat) : Int) := by rw [wrap_id (by omega) (by omega)]; omega
    have h5 := r_l2Has l i hn
    have h6 := r_sMarksOk l hn
    have hb := oS_bound l i
    simp only [oS]
    generalize oS l i = p at *
    have h7 : (p.length + 1) * 8 ≤ 140737488355328 := by omega
    rw [hm] at h6
    by_cases hb' : (i : Int) ∈ l
    · rw [decide_eq_true hb'] at h5
      rw [if_neg (by simp [hb'])]
      simp only [S_sOthers]
      simp (maxSteps := 4000000) -implicitDefEqProofs [b73_0, x_seq, x_cond, x_block, x_region, x_skip, x_exit, x_ret, head_id, runG, runOps, doOp, wantB, stepOp, AO.eff, pureOp, St.get, St.one, St.num, St.put, St.optNum, binA, binInt, List.take, List.drop, callRO, addMem_nil, roArgs, roL, roA, srcCells, A1.ownB, addMem, shift, ren, SV.map, Ob.map, Ob.noRo, SV.noRo, A1.noRo, List.range, List.range.loop, memL_app, h1, h4, h5, h6, cl_self, -Int.natCast_add]
      change _ = _
      kernel_rfl
    · rw [decide_eq_false hb'] at h5
      rw [if_pos ⟨hm, hb'⟩]
      simp only [S_sOthers, List.length_append, List.length_singleton, ← cl_app1]
      simp (maxSteps := 4000000) -implicitDefEqProofs [b73_0, x_seq, x_cond, x_block, x_region, x_skip, x_exit, x_ret, head_id, runG, runOps, doOp, wantB, stepOp, AO.eff, pureOp, St.get, St.one, St.num, St.put, St.optNum, binA, binInt, List.take, List.drop, callRO, addMem_nil, roArgs, roL, roA, srcCells, A1.ownB, addMem, shift, ren, SV.map, Ob.map, Ob.noRo, SV.noRo, A1.noRo, List.range, List.range.loop, effOp2, effOp, memL_app, stoRow, cellsAt, toCells, toCell, scalar_int, scalar_bool, scalar_str, scalar_sl, updAt, fromRo, upd, srcCells, A1.slB, flat_int, cl_flat', St.parts, Eng.inB, reps, fillA, newRowSt, appSt, oldOf, rest, kill, mapMem, SV.map, Ob.map, h1, h4, h5, h6, h7, cl_self, cl_length, -Int.natCast_add]
      change _ = _
      kernel_rfl
  · simp (maxSteps := 4000000) -implicitDefEqProofs [b73_0, S_sOthers, x_seq, x_cond, x_block, x_region, x_skip, x_exit, x_ret, head_id, runG, runOps, doOp, wantB, stepOp, AO.eff, pureOp, St.get, St.one, St.num, St.put, St.optNum, binA, binInt, List.take, List.drop, Z_sOthers]
    change _ = _
    kernel_rfl
theorem r_sOthers (l : List Int) (hn : l.length ≤ 1048576) : runRO (X tab) tab 73 [.v false [.ro l.length (cl .i64 l)]] = some (.v false [.sl 0 [] 0 (oS l 8).length], [.row 1 (cl .i64 (oS l 8))]) := by
  cases hm : marksOk l with
  | true =>
    unfold runRO
    simp (maxSteps := 4000000) -implicitDefEqProofs [tab73, a73, x_seq, x_cond, x_block, x_region, x_skip, x_exit, x_ret, head_id, runG, runOps, doOp, wantB, stepOp, AO.eff, pureOp, St.get, St.one, St.num, St.put, St.optNum, binA, binInt, List.take, List.drop, callRO, addMem_nil, roArgs, roL, roA, srcCells, A1.ownB, addMem, shift, ren, SV.map, Ob.map, Ob.noRo, SV.noRo, A1.noRo, List.range, List.range.loop, effOp2, effOp, memL_app, stoRow, cellsAt, toCells, toCell, scalar_int, scalar_bool, scalar_str, scalar_sl, updAt, fromRo, upd, srcCells, A1.slB, flat_int, cl_flat', St.parts, Eng.inB, reps, fillA, newRowSt, appSt, oldOf, rest, kill, mapMem, SV.map, Ob.map]
    rw [loop_sOthers l hn hm (by change _ = _; kernel_rfl)]
    simp (maxSteps := 4000000) -implicitDefEqProofs [Z_sOthers, x_seq, x_cond, x_block, x_region, x_skip, x_exit, x_ret, head_id, runG, runOps, doOp, wantB, stepOp, AO.eff, pureOp, St.get, St.one, St.num, St.put, St.optNum, binA, binInt, List.take, List.drop, callRO, addMem_nil, roArgs, roL, roA, srcCells, A1.ownB, addMem, shift, ren, SV.map, Ob.map, Ob.noRo, SV.noRo, A1.noRo, List.range, List.range.loop, resOf, resSV, SV.map, SV.ids, A1.ids, reach, allObs, ren, pos, Ob.map, St.canon, memL, List.range, List.range.loop]
  | false =>
    rw [oS_none l hm]
    have h6 := r_sMarksOk l hn
    rw [hm] at h6
    unfold runRO
    simp (maxSteps := 4000000) -implicitDefEqProofs [tab73, a73, x_seq, x_cond, x_block, x_region, x_skip, x_exit, x_ret, head_id, runG, runOps, doOp, wantB, stepOp, AO.eff, pureOp, St.get, St.one, St.num, St.put, St.optNum, binA, binInt, List.take, List.drop, callRO, addMem_nil, roArgs, roL, roA, srcCells, A1.ownB, addMem, shift, ren, SV.map, Ob.map, Ob.noRo, SV.noRo, A1.noRo, List.range, List.range.loop, effOp2, effOp, memL_app, stoRow, cellsAt, toCells, toCell, scalar_int, scalar_bool, scalar_str, scalar_sl, updAt, fromRo, upd, srcCells, A1.slB, flat_int, cl_flat', St.parts, Eng.inB, reps, fillA, newRowSt, appSt, oldOf, rest, kill, mapMem, SV.map, Ob.map]
    rw [show X tab l73_0 _ = some (.exit 0, Z_sOthers []) from loopN 0 (fun i => S_sOthers l i []) _ (by simp) (fun i hi => absurd hi (by omega)) (by
      simp (maxSteps := 4000000) -implicitDefEqProofs [b73_0, S_sOthers, x_seq, x_cond, x_block, x_region, x_skip, x_exit, x_ret, head_id, runG, runOps, doOp, wantB, stepOp, AO.eff, pureOp, St.get, St.one, St.num, St.put, St.optNum, binA, binInt, List.take, List.drop, callRO, addMem_nil, roArgs, roL, roA, srcCells, A1.ownB, addMem, shift, ren, SV.map, Ob.map, Ob.noRo, SV.noRo, A1.noRo, List.range, List.range.loop, Z_sOthers, h6]
      change _ = _
      kernel_rfl) (Nat.zero_le _) (by change _ = _; kernel_rfl)]
    simp (maxSteps := 4000000) -implicitDefEqProofs [Z_sOthers, x_seq, x_cond, x_block, x_region, x_skip, x_exit, x_ret, head_id, runG, runOps, doOp, wantB, stepOp, AO.eff, pureOp, St.get, St.one, St.num, St.put, St.optNum, binA, binInt, List.take, List.drop, callRO, addMem_nil, roArgs, roL, roA, srcCells, A1.ownB, addMem, shift, ren, SV.map, Ob.map, Ob.noRo, SV.noRo, A1.noRo, List.range, List.range.loop, resOf, resSV, SV.map, SV.ids, A1.ids, reach, allObs, ren, pos, Ob.map, St.canon, memL, List.range, List.range.loop, cl_nil]
def many (l : List Int) : Int := if marksOk l = true then (l.length : Int) else 0
theorem r_Many (l : List Int) (hn : l.length ≤ 1048576) : runRO (X tab) tab 74 [.v false [.ro l.length (cl .i64 l)]] = some (.v false [.int .i64 (many l)], []) := by
  have h1 := r_MarksOk l hn
  unfold runRO many
  cases hm : marksOk l with
  | false =>
    rw [hm] at h1
    simp (maxSteps := 4000000) -implicitDefEqProofs [tab74, a74, x_seq, x_cond, x_block, x_region, x_skip, x_exit, x_ret, head_id, runG, runOps, doOp, wantB, stepOp, AO.eff, pureOp, St.get, St.one, St.num, St.put, St.optNum, binA, binInt, List.take, List.drop, callRO, addMem_nil, roArgs, roL, roA, srcCells, A1.ownB, addMem, shift, ren, SV.map, Ob.map, Ob.noRo, SV.noRo, A1.noRo, List.range, List.range.loop, resOf, resSV, SV.map, SV.ids, A1.ids, reach, allObs, ren, pos, Ob.map, St.canon, memL, List.range, List.range.loop, h1]
  | true =>
    rw [hm] at h1
    simp (maxSteps := 4000000) -implicitDefEqProofs [tab74, a74, x_seq, x_cond, x_block, x_region, x_skip, x_exit, x_ret, head_id, runG, runOps, doOp, wantB, stepOp, AO.eff, pureOp, St.get, St.one, St.num, St.put, St.optNum, binA, binInt, List.take, List.drop, callRO, addMem_nil, roArgs, roL, roA, srcCells, A1.ownB, addMem, shift, ren, SV.map, Ob.map, Ob.noRo, SV.noRo, A1.noRo, List.range, List.range.loop, resOf, resSV, SV.map, SV.ids, A1.ids, reach, allObs, ren, pos, Ob.map, St.canon, memL, List.range, List.range.loop, h1]
theorem r_sMany (l : List Int) (hn : l.length ≤ 1048576) : runRO (X tab) tab 75 [.v false [.ro l.length (cl .i64 l)]] = some (.v false [.int .i64 (many l)], []) := by
  have h1 := r_sMarksOk l hn
  unfold runRO many
  cases hm : marksOk l with
  | false =>
    rw [hm] at h1
    simp (maxSteps := 4000000) -implicitDefEqProofs [tab75, a75, x_seq, x_cond, x_block, x_region, x_skip, x_exit, x_ret, head_id, runG, runOps, doOp, wantB, stepOp, AO.eff, pureOp, St.get, St.one, St.num, St.put, St.optNum, binA, binInt, List.take, List.drop, callRO, addMem_nil, roArgs, roL, roA, srcCells, A1.ownB, addMem, shift, ren, SV.map, Ob.map, Ob.noRo, SV.noRo, A1.noRo, List.range, List.range.loop, resOf, resSV, SV.map, SV.ids, A1.ids, reach, allObs, ren, pos, Ob.map, St.canon, memL, List.range, List.range.loop, h1]
  | true =>
    rw [hm] at h1
    simp (maxSteps := 4000000) -implicitDefEqProofs [tab75, a75, x_seq, x_cond, x_block, x_region, x_skip, x_exit, x_ret, head_id, runG, runOps, doOp, wantB, stepOp, AO.eff, pureOp, St.get, St.one, St.num, St.put, St.optNum, binA, binInt, List.take, List.drop, callRO, addMem_nil, roArgs, roL, roA, srcCells, A1.ownB, addMem, shift, ren, SV.map, Ob.map, Ob.noRo, SV.noRo, A1.noRo, List.range, List.range.loop, resOf, resSV, SV.map, SV.ids, A1.ids, reach, allObs, ren, pos, Ob.map, St.canon, memL, List.range, List.range.loop, h1]
/-! Two lists, one behind the other. -/
def two (a b : List Int) : List Cell := [.sl a.length (cl .i64 a), .sl b.length (cl .i64 b)]
def S_Cat0 (a b : List Int) (i : Nat) (n : Nat) : XS := ⟨⟨[.v false [.ro 2 (two a b)], .bad, .bad, .v false [.int .i64 (n)], .bad, .bad, .bad, .bad, .bad, .v false [.ro 2 (two a b)], .v false [.int .i64 (2)], .v false [.int .i64 (i)], .bad, .bad, .bad, .bad, .bad, .bad, .bad, .bad, .bad, .bad, .bad, .bad, .bad, .bad, .bad, .bad, .bad, .bad, .bad, .bad, .bad, .bad, .bad, .bad], memL [], []⟩, 0⟩
def Z_Cat0 (a b : List Int) (n : Nat) : XS := ⟨⟨[.v false [.ro 2 (two a b)], .bad, .bad, .v false [.int .i64 (n)], .bad, .bad, .bad, .bad, .bad, .bad, .bad, .bad, .bad, .bad, .bad, .bad, .bad, .bad, .bad, .bad, .bad, .bad, .bad, .bad, .bad, .bad, .bad, .bad, .bad, .bad, .bad, .bad, .bad, .bad, .bad, .bad], memL [], []⟩, 0⟩
def szAt (a b : List Int) : Nat → Nat
  | 0 => 0
  | 1 => a.length
  | _ => a.length + b.length
theorem loop_Cat0 (a b : List Int) (ha : a.length ≤ 1000) (hb : b.length ≤ 1000) {x : XS} (hx : head true d122_0 x = S_Cat0 a b 0 0) : X tab l122_0 x = some (.exit 0, Z_Cat0 a b (a.length + b.length)) := by
  refine loopN 2 (fun i => S_Cat0 a b i (szAt a b i)) _ (by simp) (fun i hi => ?_) ?_ (Nat.zero_le _) hx
  · have hw : ∀ z : Nat, z ≤ 100000 → IntKind.i64.wrap (z : Int) = z := fun z hz => wrap_id (by omega) (by omega)
    have w1 : IntKind.i64.wrap 1 = 1 := wrap_id (by omega) (by omega)
    have w2 : IntKind.i64.wrap 2 = 2 := wrap_id (by omega) (by omega)
    have ha' := hw a.length (by omega)
    have hb' : IntKind.i64.wrap ((a.length : Int) + (b.length : Int)) = ((a.length + b.length : Nat) : Int) := by rw [wrap_id (by omega) (by omega)]; omega
    have n1 : ¬ (a.length : Int) < 0 := by omega
    have n2 : ¬ ((a.length + b.length : Nat) : Int) < 0 := by omega
    match i, hi with
    | 0, _ =>
      simp only [S_Cat0, szAt, two]
      simp (maxSteps := 4000000) -implicitDefEqProofs [b122_0, x_seq, x_cond, x_block, x_region, x_skip, x_exit, x_ret, head_id, runG, runOps, doOp, wantB, stepOp, AO.eff, pureOp, St.get, St.one, St.num, St.put, St.optNum, binA, binInt, List.take, List.drop, callRO, addMem_nil, roArgs, roL, roA, srcCells, A1.ownB, addMem, shift, ren, SV.map, Ob.map, Ob.noRo, SV.noRo, A1.noRo, List.range, List.range.loop, memL_app, fromRo, ha', n1, w1]
      change _ = _
      kernel_rfl
    | 1, _ =>
      simp only [S_Cat0, szAt, two]
      simp (maxSteps := 4000000) -implicitDefEqProofs [b122_0, x_seq, x_cond, x_block, x_region, x_skip, x_exit, x_ret, head_id, runG, runOps, doOp, wantB, stepOp, AO.eff, pureOp, St.get, St.one, St.num, St.put, St.optNum, binA, binInt, List.take, List.drop, callRO, addMem_nil, roArgs, roL, roA, srcCells, A1.ownB, addMem, shift, ren, SV.map, Ob.map, Ob.noRo, SV.noRo, A1.noRo, List.range, List.range.loop, memL_app, fromRo, hb', n2, w2, -Int.natCast_add]
      change _ = _
      kernel_rfl
  · simp (maxSteps := 4000000) -implicitDefEqProofs [b122_0, S_Cat0, szAt, x_seq, x_cond, x_block, x_region, x_skip, x_exit, x_ret, head_id, runG, runOps, doOp, wantB, stepOp, AO.eff, pureOp, St.get, St.one, St.num, St.put, St.optNum, binA, binInt, List.take, List.drop, Z_Cat0]
    change _ = _
    kernel_rfl
def catAt (a b : List Int) : Nat → List Int
  | 0 => []
  | 1 => a
  | _ => a ++ b
def S_Cat1 (a b : List Int) (i : Nat) (p : List Int) : XS := ⟨⟨[.bad, .bad, .bad, .bad, .bad, .bad, .v false [.sl 0 [] 0 p.length], .bad, .bad, .bad, .bad, .bad, .bad, .bad, .bad, .bad, .bad, .bad, .bad, .bad, .bad, .bad, .bad, .bad, .bad, .v false [.ro 2 (two a b)], .v false [.int .i64 (2)], .v false [.int .i64 (i)], .bad, .bad, .bad, .bad, .bad, .bad, .bad, .bad], memL [some (.row 1 (cl .i64 p))], []⟩, 1⟩
def Z_Cat1 (p : List Int) : XS := ⟨⟨[.bad, .bad, .bad, .bad, .bad, .bad, .v false [.sl 0 [] 0 p.length], .bad, .bad, .bad, .bad, .bad, .bad, .bad, .bad, .bad, .bad, .bad, .bad, .bad, .bad, .bad, .bad, .bad, .bad, .bad, .bad, .bad, .bad, .bad, .bad, .bad, .bad, .bad, .bad, .bad], memL [some (.row 1 (cl .i64 p))], []⟩, 1⟩
theorem loop_Cat1 (a b : List Int) (ha : a.length ≤ 1000) (hb : b.length ≤ 1000) {x : XS} (hx : head true d122_1 x = S_Cat1 a b 0 []) : X tab l122_1 x = some (.exit 2, Z_Cat1 (a ++ b)) := by
  refine loopN 2 (fun i => S_Cat1 a b i (catAt a b i)) _ (by simp) (fun i hi => ?_) ?_ (Nat.zero_le _) hx
  · have w1 : IntKind.i64.wrap 1 = 1 := wrap_id (by omega) (by omega)
    have w2 : IntKind.i64.wrap 2 = 2 := wrap_id (by omega) (by omega)
    match i, hi with
    | 0, _ =>
      simp only [S_Cat1, catAt, two]
      by_cases h0 : a = []
      · subst h0
        simp (maxSteps := 4000000) -implicitDefEqProofs [b122_1, x_seq, x_cond, x_block, x_region, x_skip, x_exit, x_ret, head_id, runG, runOps, doOp, wantB, stepOp, AO.eff, pureOp, St.get, St.one, St.num, St.put, St.optNum, binA, binInt, List.take, List.drop, callRO, addMem_nil, roArgs, roL, roA, srcCells, A1.ownB, addMem, shift, ren, SV.map, Ob.map, Ob.noRo, SV.noRo, A1.noRo, List.range, List.range.loop, effOp2, effOp, memL_app, stoRow, cellsAt, toCells, toCell, scalar_int, scalar_bool, scalar_str, scalar_sl, updAt, fromRo, upd, srcCells, A1.slB, flat_int, cl_flat', St.parts, Eng.inB, reps, fillA, newRowSt, appSt, oldOf, rest, kill, mapMem, SV.map, Ob.map, fromRo, w1, cl_nil]
        change _ = _
        kernel_rfl
      · have h1 : ¬ a.length = 0 := fun e => h0 (List.eq_nil_of_length_eq_zero e)
        have h7 : a.length * 8 ≤ 140737488355328 := by omega
        simp (maxSteps := 4000000) -implicitDefEqProofs [b122_1, x_seq, x_cond, x_block, x_region, x_skip, x_exit, x_ret, head_id, runG, runOps, doOp, wantB, stepOp, AO.eff, pureOp, St.get, St.one, St.num, St.put, St.optNum, binA, binInt, List.take, List.drop, callRO, addMem_nil, roArgs, roL, roA, srcCells, A1.ownB, addMem, shift, ren, SV.map, Ob.map, Ob.noRo, SV.noRo, A1.noRo, List.range, List.range.loop, effOp2, effOp, memL_app, stoRow, cellsAt, toCells, toCell, scalar_int, scalar_bool, scalar_str, scalar_sl, updAt, fromRo, upd, srcCells, A1.slB, flat_int, cl_flat', St.parts, Eng.inB, reps, fillA, newRowSt, appSt, oldOf, rest, kill, mapMem, SV.map, Ob.map, fromRo, w1, h0, h1, h7, cl_self, cl_length, cl_nil]
        change _ = _
        kernel_rfl
    | 1, _ =>
      simp only [S_Cat1, catAt, two]
      by_cases h0 : b = []
      · subst h0
        simp (maxSteps := 4000000) -implicitDefEqProofs [b122_1, x_seq, x_cond, x_block, x_region, x_skip, x_exit, x_ret, head_id, runG, runOps, doOp, wantB, stepOp, AO.eff, pureOp, St.get, St.one, St.num, St.put, St.optNum, binA, binInt, List.take, List.drop, callRO, addMem_nil, roArgs, roL, roA, srcCells, A1.ownB, addMem, shift, ren, SV.map, Ob.map, Ob.noRo, SV.noRo, A1.noRo, List.range, List.range.loop, effOp2, effOp, memL_app, stoRow, cellsAt, toCells, toCell, scalar_int, scalar_bool, scalar_str, scalar_sl, updAt, fromRo, upd, srcCells, A1.slB, flat_int, cl_flat', St.parts, Eng.inB, reps, fillA, newRowSt, appSt, oldOf, rest, kill, mapMem, SV.map, Ob.map, fromRo, w2, cl_nil]
        change _ = _
        kernel_rfl
      · have h1 : ¬ b.length = 0 := fun e => h0 (List.eq_nil_of_length_eq_zero e)
        have h7 : (a.length + b.length) * 8 ≤ 140737488355328 := by omega
        simp only [List.length_append, ← cl_app]
        simp (maxSteps := 4000000) -implicitDefEqProofs [b122_1, x_seq, x_cond, x_block, x_region, x_skip, x_exit, x_ret, head_id, runG, runOps, doOp, wantB, stepOp, AO.eff, pureOp, St.get, St.one, St.num, St.put, St.optNum, binA, binInt, List.take, List.drop, callRO, addMem_nil, roArgs, roL, roA, srcCells, A1.ownB, addMem, shift, ren, SV.map, Ob.map, Ob.noRo, SV.noRo, A1.noRo, List.range, List.range.loop, effOp2, effOp, memL_app, stoRow, cellsAt, toCells, toCell, scalar_int, scalar_bool, scalar_str, scalar_sl, updAt, fromRo, upd, srcCells, A1.slB, flat_int, cl_flat', St.parts, Eng.inB, reps, fillA, newRowSt, appSt, oldOf, rest, kill, mapMem, SV.map, Ob.map, fromRo, w2, h0, h1, h7, cl_self, cl_length, -Int.natCast_add]
        change _ = _
        kernel_rfl
  · simp (maxSteps := 4000000) -implicitDefEqProofs [b122_1, S_Cat1, catAt, x_seq, x_cond, x_block, x_region, x_skip, x_exit, x_ret, head_id, runG, runOps, doOp, wantB, stepOp, AO.eff, pureOp, St.get, St.one, St.num, St.put, St.optNum, binA, binInt, List.take, List.drop, Z_Cat1]
    change _ = _
    kernel_rfl
theorem r_Concat (a b : List Int) (ha : a.length ≤ 1000) (hb : b.length ≤ 1000) (h0 : 0 < a.length + b.length) :
    runRO (X tab) tab 122 [.v false [.ro 2 (two a b)]] = some (.v false [.sl 0 [] 0 (a ++ b).length], [.row 1 (cl .i64 (a ++ b))]) := by
  have e1 : ¬ ((a.length + b.length : Nat) : Int) = 0 := by omega
  have e2 : (0 : Int) < ((a.length + b.length : Nat) : Int) := by omega
  have e3 : (a.length + b.length) * 8 ≤ 140737488355328 := by omega
  have e4 : ((a.length + b.length : Nat) : Int) ≤ 4611686018427387904 := by omega
  unfold runRO
  simp (maxSteps := 4000000) -implicitDefEqProofs [tab122, a122, x_seq, x_cond, x_block, x_region, x_skip, x_exit, x_ret, head_id, runG, runOps, doOp, wantB, stepOp, AO.eff, pureOp, St.get, St.one, St.num, St.put, St.optNum, binA, binInt, List.take, List.drop, callRO, addMem_nil, roArgs, roL, roA, srcCells, A1.ownB, addMem, shift, ren, SV.map, Ob.map, Ob.noRo, SV.noRo, A1.noRo, List.range, List.range.loop, effOp2, effOp, memL_app, stoRow, cellsAt, toCells, toCell, scalar_int, scalar_bool, scalar_str, scalar_sl, updAt, fromRo, upd]
  rw [loop_Cat0 a b ha hb (by change _ = _; kernel_rfl)]
  generalize hn : a.length + b.length = n at *
  have e5 : ¬ n = 0 := by omega
  have e6 : 0 < n := h0
  simp (maxSteps := 4000000) -implicitDefEqProofs [Z_Cat0, x_seq, x_cond, x_block, x_region, x_skip, x_exit, x_ret, head_id, runG, runOps, doOp, wantB, stepOp, AO.eff, pureOp, St.get, St.one, St.num, St.put, St.optNum, binA, binInt, List.take, List.drop, callRO, addMem_nil, roArgs, roL, roA, srcCells, A1.ownB, addMem, shift, ren, SV.map, Ob.map, Ob.noRo, SV.noRo, A1.noRo, List.range, List.range.loop, effOp2, effOp, memL_app, stoRow, cellsAt, toCells, toCell, scalar_int, scalar_bool, scalar_str, scalar_sl, updAt, fromRo, upd, grwOp, tab135, a135, grwSt, newRowSt, e1, e2, e3, e4, e5, e6]
  rw [loop_Cat1 a b ha hb (by change _ = _; kernel_rfl)]
  simp (maxSteps := 4000000) -implicitDefEqProofs [Z_Cat1, x_seq, x_cond, x_block, x_region, x_skip, x_exit, x_ret, head_id, runG, runOps, doOp, wantB, stepOp, AO.eff, pureOp, St.get, St.one, St.num, St.put, St.optNum, binA, binInt, List.take, List.drop, callRO, addMem_nil, roArgs, roL, roA, srcCells, A1.ownB, addMem, shift, ren, SV.map, Ob.map, Ob.noRo, SV.noRo, A1.noRo, List.range, List.range.loop, resOf, resSV, SV.map, SV.ids, A1.ids, reach, allObs, ren, pos, Ob.map, St.canon, memL, List.range, List.range.loop, hn]
end Go.Proofs.Ytdagbeihjobmjaa.Eng.R
