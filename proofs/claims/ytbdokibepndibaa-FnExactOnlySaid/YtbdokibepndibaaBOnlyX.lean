/- W9, Tips, TipsL, Del, Only, OnlyL, as one text. -/
import Derived.Test.YtbdokibepndibaaBW1g
import Derived.Test.YtbdokibepndibaaBLine
import Derived.Test.YtbdokibepndibaaBW8
import Derived.Test.YtbdokibepndibaaBHas
namespace Go.Proofs.Ytbdokibepndibaa.Eng.B
set_option linter.unusedSimpArgs false
set_option linter.unusedVariables false
set_option maxHeartbeats 16000000
set_option maxRecDepth 100000
open Go.RowKit Go.Proofs

theorem r_szWorld (x : PWorld) (hz : WfW x) (left : Int) (h0 : 0 ≤ left) (h1 : left ≤ 1048576) : runRO (X tab) tab 9 [.v true (worldA x), .v false [.int .i64 left]] = some (.v false [.int .i64 (szT left (x.nodes.length + (x.nodes.map totN).sum + (x.net.length + (x.net.map totX).sum + (x.log.length + (x.safe.length)))))], []) := by
  unfold runRO
  have q1 := r_szNodeS x.nodes hz.sN hz.szN (left) (by omega) (by omega)
  by_cases c1 : left < ((x.nodes.length + (x.nodes.map totN).sum : Nat) : Int)
  · rw [szT_neg c1] at q1
    rw [szT_neg (show left < ((x.nodes.length + (x.nodes.map totN).sum + (x.net.length + (x.net.map totX).sum + (x.log.length + (x.safe.length))) : Nat) : Int) by omega)]
    simp only [worldA] at *
    simp (maxSteps := 4000000) -implicitDefEqProofs [tab9, a9, x_seq, x_cond, x_block, x_region, x_skip, x_exit, x_ret, head_id, runG, runOps, doOp, wantB, stepOp, AO.eff, pureOp, St.get, St.one, St.num, St.put, St.optNum, binA, binInt, List.take, List.drop, effOp2, effOp, memL_app, stoRow, cellsAt, toCells, toCell, scalar_int, scalar_bool, scalar_str, scalar_sl, updAt, fromRo, upd, callRO, addMem_nil, roArgs, roL, roA, srcCells, A1.ownB, addMem, shift, ren, SV.map, Ob.map, Ob.noRo, SV.noRo, A1.noRo, List.range, List.range.loop, resOf, resSV, SV.map, SV.ids, A1.ids, reach, allObs, ren, pos, Ob.map, St.canon, memL, List.range, List.range.loop, q1, -Int.natCast_add]
  · rw [szT_pos c1] at q1
    have n1 : ¬ left - ((x.nodes.length + (x.nodes.map totN).sum : Nat) : Int) < 0 := by omega
    rw [← szT_add c1]
    have q2 := r_szWireS x.net hz.sX hz.szX (left - ((x.nodes.length + (x.nodes.map totN).sum : Nat) : Int)) (by omega) (by omega)
    by_cases c2 : left - ((x.nodes.length + (x.nodes.map totN).sum : Nat) : Int) < ((x.net.length + (x.net.map totX).sum : Nat) : Int)
    · rw [szT_neg c2] at q2
      rw [szT_neg (show left - ((x.nodes.length + (x.nodes.map totN).sum : Nat) : Int) < ((x.net.length + (x.net.map totX).sum + (x.log.length + (x.safe.length)) : Nat) : Int) by omega)]
      simp only [worldA] at *
      simp (maxSteps := 4000000) -implicitDefEqProofs [tab9, a9, x_seq, x_cond, x_block, x_region, x_skip, x_exit, x_ret, head_id, runG, runOps, doOp, wantB, stepOp, AO.eff, pureOp, St.get, St.one, St.num, St.put, St.optNum, binA, binInt, List.take, List.drop, effOp2, effOp, memL_app, stoRow, cellsAt, toCells, toCell, scalar_int, scalar_bool, scalar_str, scalar_sl, updAt, fromRo, upd, callRO, addMem_nil, roArgs, roL, roA, srcCells, A1.ownB, addMem, shift, ren, SV.map, Ob.map, Ob.noRo, SV.noRo, A1.noRo, List.range, List.range.loop, resOf, resSV, SV.map, SV.ids, A1.ids, reach, allObs, ren, pos, Ob.map, St.canon, memL, List.range, List.range.loop, q1, n1, q2, -Int.natCast_add]
    · rw [szT_pos c2] at q2
      have n2 : ¬ left - ((x.nodes.length + (x.nodes.map totN).sum : Nat) : Int) - ((x.net.length + (x.net.map totX).sum : Nat) : Int) < 0 := by omega
      rw [← szT_add c2]
      have q3 := r_szRecS x.log.length (recsC x.log) (left - ((x.nodes.length + (x.nodes.map totN).sum : Nat) : Int) - ((x.net.length + (x.net.map totX).sum : Nat) : Int)) (by omega) (by omega) (by have := hz.sL; simp only [Sz, maxLen] at this; omega)
      by_cases c3 : left - ((x.nodes.length + (x.nodes.map totN).sum : Nat) : Int) - ((x.net.length + (x.net.map totX).sum : Nat) : Int) < ((x.log.length : Nat) : Int)
      · rw [szT_neg c3] at q3
        rw [szT_neg (show left - ((x.nodes.length + (x.nodes.map totN).sum : Nat) : Int) - ((x.net.length + (x.net.map totX).sum : Nat) : Int) < ((x.log.length + (x.safe.length) : Nat) : Int) by omega)]
        simp only [worldA] at *
        simp (maxSteps := 4000000) -implicitDefEqProofs [tab9, a9, x_seq, x_cond, x_block, x_region, x_skip, x_exit, x_ret, head_id, runG, runOps, doOp, wantB, stepOp, AO.eff, pureOp, St.get, St.one, St.num, St.put, St.optNum, binA, binInt, List.take, List.drop, effOp2, effOp, memL_app, stoRow, cellsAt, toCells, toCell, scalar_int, scalar_bool, scalar_str, scalar_sl, updAt, fromRo, upd, callRO, addMem_nil, roArgs, roL, roA, srcCells, A1.ownB, addMem, shift, ren, SV.map, Ob.map, Ob.noRo, SV.noRo, A1.noRo, List.range, List.range.loop, resOf, resSV, SV.map, SV.ids, A1.ids, reach, allObs, ren, pos, Ob.map, St.canon, memL, List.range, List.range.loop, q1, n1, q2, n2, q3, -Int.natCast_add]
      · rw [szT_pos c3] at q3
        have n3 : ¬ left - ((x.nodes.length + (x.nodes.map totN).sum : Nat) : Int) - ((x.net.length + (x.net.map totX).sum : Nat) : Int) - ((x.log.length : Nat) : Int) < 0 := by omega
        rw [← szT_add c3]
        have q4 := r_szIntS x.safe.length (cl .i64 x.safe) (left - ((x.nodes.length + (x.nodes.map totN).sum : Nat) : Int) - ((x.net.length + (x.net.map totX).sum : Nat) : Int) - ((x.log.length : Nat) : Int)) (by omega) (by omega) (by have := hz.sS; simp only [Sz, maxLen] at this; omega)
        by_cases c4 : left - ((x.nodes.length + (x.nodes.map totN).sum : Nat) : Int) - ((x.net.length + (x.net.map totX).sum : Nat) : Int) - ((x.log.length : Nat) : Int) < ((x.safe.length : Nat) : Int)
        · rw [szT_neg c4] at q4
          rw [szT_neg (show left - ((x.nodes.length + (x.nodes.map totN).sum : Nat) : Int) - ((x.net.length + (x.net.map totX).sum : Nat) : Int) - ((x.log.length : Nat) : Int) < ((x.safe.length : Nat) : Int) by omega)]
          simp only [worldA] at *
          simp (maxSteps := 4000000) -implicitDefEqProofs [tab9, a9, x_seq, x_cond, x_block, x_region, x_skip, x_exit, x_ret, head_id, runG, runOps, doOp, wantB, stepOp, AO.eff, pureOp, St.get, St.one, St.num, St.put, St.optNum, binA, binInt, List.take, List.drop, effOp2, effOp, memL_app, stoRow, cellsAt, toCells, toCell, scalar_int, scalar_bool, scalar_str, scalar_sl, updAt, fromRo, upd, callRO, addMem_nil, roArgs, roL, roA, srcCells, A1.ownB, addMem, shift, ren, SV.map, Ob.map, Ob.noRo, SV.noRo, A1.noRo, List.range, List.range.loop, resOf, resSV, SV.map, SV.ids, A1.ids, reach, allObs, ren, pos, Ob.map, St.canon, memL, List.range, List.range.loop, q1, n1, q2, n2, q3, n3, q4, -Int.natCast_add]
        · rw [szT_pos c4] at q4
          have n4 : ¬ left - ((x.nodes.length + (x.nodes.map totN).sum : Nat) : Int) - ((x.net.length + (x.net.map totX).sum : Nat) : Int) - ((x.log.length : Nat) : Int) - ((x.safe.length : Nat) : Int) < 0 := by omega
          rw [szT_pos c4]
          simp only [worldA] at *
          simp (maxSteps := 4000000) -implicitDefEqProofs [tab9, a9, x_seq, x_cond, x_block, x_region, x_skip, x_exit, x_ret, head_id, runG, runOps, doOp, wantB, stepOp, AO.eff, pureOp, St.get, St.one, St.num, St.put, St.optNum, binA, binInt, List.take, List.drop, effOp2, effOp, memL_app, stoRow, cellsAt, toCells, toCell, scalar_int, scalar_bool, scalar_str, scalar_sl, updAt, fromRo, upd, callRO, addMem_nil, roArgs, roL, roA, srcCells, A1.ownB, addMem, shift, ren, SV.map, Ob.map, Ob.noRo, SV.noRo, A1.noRo, List.range, List.range.loop, resOf, resSV, SV.map, SV.ids, A1.ids, reach, allObs, ren, pos, Ob.map, St.canon, memL, List.range, List.range.loop, q1, n1, q2, n2, q3, n3, q4, n4, -Int.natCast_add]

def usedB (log : List PRec) (n : Int) : Bool := log.any fun r => r.up == n
def tipsTo (log : List PRec) (k : Nat) : List Int := ((List.range k).map fun (i : Nat) => (i : Int) + 1).filter fun n => !usedB log n
def tips (log : List PRec) : List Int := tipsTo log log.length
theorem tips_next (log : List PRec) (k : Nat) : tipsTo log (k + 1) = if usedB log ((k : Int) + 1) = true then tipsTo log k else tipsTo log k ++ [(k : Int) + 1] := by
  unfold tipsTo
  rw [List.range_succ, List.map_append, List.filter_append]
  cases h : usedB log ((k : Int) + 1) <;> simp [h]
theorem tips_le (log : List PRec) (k : Nat) : (tipsTo log k).length ≤ k := by
  unfold tipsTo
  refine Nat.le_trans (List.length_filter_le _ _) ?_
  simp
/-! The reference's. -/
def S_sTips1 (w : PWorld) (n : Int) (out : List Int) (i : Nat) (b : Bool) : XS := ⟨⟨[.bad, .v false [.pr 0 [] 0], .bad, .v false [.sl 1 [] 0 out.length], .v false [.int .i64 (n)], .v false [.bool (b)], .v false [.int .i64 (i)], .bad, .bad, .bad, .bad, .bad, .bad, .bad, .bad, .bad, .bad, .bad, .bad, .bad, .bad, .bad, .bad, .bad, .bad, .bad, .bad, .bad, .bad, .bad, .bad, .bad, .bad, .bad, .bad, .bad, .bad, .bad, .bad, .bad], memL [some (.box (worldA w)), some (.row 1 (cl .i64 out))], []⟩, 2⟩
def R_sTips1 (w : PWorld) (n : Int) (out : List Int) : Option (AE × XS) := some (.exit 2, ⟨⟨[.bad, .v false [.pr 0 [] 0], .bad, .v false [.sl 1 [] 0 out.length], .v false [.int .i64 (n)], .v false [.bool ((usedB w.log n))], .bad, .bad, .bad, .bad, .bad, .bad, .bad, .bad, .bad, .bad, .bad, .bad, .bad, .bad, .bad, .bad, .bad, .bad, .bad, .bad, .bad, .bad, .bad, .bad, .bad, .bad, .bad, .bad, .bad, .bad, .bad, .bad, .bad, .bad], memL [some (.box (worldA w)), some (.row 1 (cl .i64 out))], []⟩, 2⟩)
theorem loop_sTips1 (w : PWorld) (hs : SmW w) (n : Int) (out : List Int) {x : XS} (hx : head true d20_1 x = S_sTips1 w n out 0 false) : X tab l20_1 x = R_sTips1 w n out := by
  have hlog := hs.log
  refine loopN w.log.length (fun i => S_sTips1 w n out i ((w.log.take i).any fun r => r.up == n)) _ (by simp [R_sTips1]) (fun i hi => ?_) ?_ (Nat.zero_le _) hx
  · obtain ⟨y, r, hl⟩ : ∃ y r, w.log.drop i = y :: r := ⟨_, _, List.drop_eq_getElem_cons hi⟩
    have hy : w.log[i]? = some y := by
      have := congrArg (fun q : List PRec => q[0]?) hl
      simpa using this
    have h1 : (0 ≤ (i : Int) ∧ (i : Int) < (w.log.length : Int)) := by omega
    have h2 := recsC_at hl
    simp only [recC, List.cons_append, List.nil_append] at h2
    have h4 : IntKind.i64.wrap ((i : Int) + 1) = ((i + 1 : Nat) : Int) := by rw [wrap_id (by omega) (by omega)]; omega
    have hn : ((w.log.take (i + 1)).any fun r => r.up == n) = (((w.log.take i).any fun r => r.up == n) || (y.up == n)) := by
      rw [List.take_add_one, hy, List.any_append]
      simp
    simp only [hn, S_sTips1, worldA]
    cases ((w.log.take i).any fun r => r.up == n) with
    | true =>
      simp (maxSteps := 4000000) -implicitDefEqProofs [b20_1, x_seq, x_cond, x_block, x_region, x_skip, x_exit, x_ret, head_id, runG, runOps, doOp, wantB, stepOp, AO.eff, pureOp, St.get, St.one, St.num, St.put, St.optNum, binA, binInt, List.take, List.drop, effOp2, effOp, memL_app, stoRow, cellsAt, toCells, toCell, scalar_int, scalar_bool, scalar_str, scalar_sl, updAt, fromRo, upd, fromRo, h1, h2, h4, hi, -Int.natCast_add]
      change _ = _
      kernel_rfl
    | false =>
      simp (maxSteps := 4000000) -implicitDefEqProofs [b20_1, x_seq, x_cond, x_block, x_region, x_skip, x_exit, x_ret, head_id, runG, runOps, doOp, wantB, stepOp, AO.eff, pureOp, St.get, St.one, St.num, St.put, St.optNum, binA, binInt, List.take, List.drop, effOp2, effOp, memL_app, stoRow, cellsAt, toCells, toCell, scalar_int, scalar_bool, scalar_str, scalar_sl, updAt, fromRo, upd, fromRo, h1, h2, h4, hi, -Int.natCast_add]
      change _ = _
      kernel_rfl
  · rw [List.take_length]
    simp (maxSteps := 4000000) -implicitDefEqProofs [b20_1, S_sTips1, worldA, x_seq, x_cond, x_block, x_region, x_skip, x_exit, x_ret, head_id, runG, runOps, doOp, wantB, stepOp, AO.eff, pureOp, St.get, St.one, St.num, St.put, St.optNum, binA, binInt, List.take, List.drop, effOp2, effOp, memL_app, stoRow, cellsAt, toCells, toCell, scalar_int, scalar_bool, scalar_str, scalar_sl, updAt, fromRo, upd, R_sTips1, usedB]
    change _ = _
    kernel_rfl
def S_sTips (w : PWorld) (i : Nat) : XS := ⟨⟨[.bad, .v false [.pr 0 [] 0], .bad, .v false [.sl 1 [] 0 (tipsTo w.log i).length], .v false [.int .i64 ((i : Int) + 1)], .bad, .bad, .bad, .bad, .bad, .bad, .bad, .bad, .bad, .bad, .bad, .bad, .bad, .bad, .bad, .bad, .bad, .bad, .bad, .bad, .bad, .bad, .bad, .bad, .bad, .bad, .bad, .bad, .bad, .bad, .bad, .bad, .bad, .bad, .bad], memL [some (.box (worldA w)), some (.row 1 (cl .i64 (tipsTo w.log i)))], []⟩, 2⟩
def R_sTips (l : List Int) : Option (AE × XS) := some (.exit 0, ⟨⟨[.bad, .bad, .bad, .v false [.sl 0 [] 0 l.length], .bad, .bad, .bad, .bad, .bad, .bad, .bad, .bad, .bad, .bad, .bad, .bad, .bad, .bad, .bad, .bad, .bad, .bad, .bad, .bad, .bad, .bad, .bad, .bad, .bad, .bad, .bad, .bad, .bad, .bad, .bad, .bad, .bad, .bad, .bad, .bad], memL [some (.row 1 (cl .i64 l))], []⟩, 1⟩)
theorem loop_sTips (w : PWorld) (hs : SmW w) {x : XS} (hx : head true d20_0 x = S_sTips w 0) : X tab l20_0 x = R_sTips (tips w.log) := by
  have hlog := hs.log
  refine loopN w.log.length (S_sTips w) _ (by simp [R_sTips]) (fun i hi => ?_) ?_ (Nat.zero_le _) hx
  · have h1 : (i : Int) + 1 ≤ (w.log.length : Int) := by omega
    have h4 : IntKind.i64.wrap ((i : Int) + 1 + 1) = ((i + 1 : Nat) : Int) + 1 := by rw [wrap_id (by omega) (by omega)]; omega
    have hlp := fun {x} => loop_sTips1 w hs ((i : Int) + 1) (tipsTo w.log i) (x := x)
    have hle := tips_le w.log i
    have hc : (cl .i64 (tipsTo w.log i)).length = (tipsTo w.log i).length := cl_length
    have h5 : ((tipsTo w.log i).length + 1) * 8 ≤ 140737488355328 := by omega
    simp only [S_sTips, tips_next, worldA]
    generalize tipsTo w.log i = out at *
    have hS : S_sTips1 w ((i : Int) + 1) out 0 false = ⟨⟨[.bad, .v false [.pr 0 [] 0], .bad, .v false [.sl 1 [] 0 out.length], .v false [.int .i64 ((i : Int) + 1)], .v false [.bool (false)], .v false [.int .i64 (0)], .bad, .bad, .bad, .bad, .bad, .bad, .bad, .bad, .bad, .bad, .bad, .bad, .bad, .bad, .bad, .bad, .bad, .bad, .bad, .bad, .bad, .bad, .bad, .bad, .bad, .bad, .bad, .bad, .bad, .bad, .bad, .bad, .bad], memL [some (.box (worldA w)), some (.row 1 (cl .i64 out))], []⟩, 2⟩ := rfl
    simp only [worldA] at hS
    simp (maxSteps := 4000000) -implicitDefEqProofs [b20_0, x_seq, x_cond, x_block, x_region, x_skip, x_exit, x_ret, head_id, runG, runOps, doOp, wantB, stepOp, AO.eff, pureOp, St.get, St.one, St.num, St.put, St.optNum, binA, binInt, List.take, List.drop, effOp2, effOp, memL_app, stoRow, cellsAt, toCells, toCell, scalar_int, scalar_bool, scalar_str, scalar_sl, updAt, fromRo, upd, h1, h4, hi, -Int.natCast_add]
    rw [hlp (by rw [hS]; change _ = _; kernel_rfl)]
    simp only [R_sTips1, worldA]
    cases hu : usedB w.log ((i : Int) + 1) with
    | true =>
      simp (maxSteps := 4000000) -implicitDefEqProofs [b20_0, x_seq, x_cond, x_block, x_region, x_skip, x_exit, x_ret, head_id, runG, runOps, doOp, wantB, stepOp, AO.eff, pureOp, St.get, St.one, St.num, St.put, St.optNum, binA, binInt, List.take, List.drop, effOp2, effOp, memL_app, stoRow, cellsAt, toCells, toCell, scalar_int, scalar_bool, scalar_str, scalar_sl, updAt, fromRo, upd, h1, h4, hi, -Int.natCast_add]
      change _ = _
      kernel_rfl
    | false =>
      simp only [Bool.false_eq_true, if_false, List.length_append, List.length_singleton, ← cl_app1]
      simp (maxSteps := 4000000) -implicitDefEqProofs [b20_0, x_seq, x_cond, x_block, x_region, x_skip, x_exit, x_ret, head_id, runG, runOps, doOp, wantB, stepOp, AO.eff, pureOp, St.get, St.one, St.num, St.put, St.optNum, binA, binInt, List.take, List.drop, effOp2, effOp, memL_app, stoRow, cellsAt, toCells, toCell, scalar_int, scalar_bool, scalar_str, scalar_sl, updAt, fromRo, upd, srcCells, A1.slB, flat_int, cl_flat', St.parts, Eng.inB, reps, fillA, newRowSt, appSt, oldOf, rest, kill, mapMem, SV.map, Ob.map, h1, h4, h5, hc, hi, -Int.natCast_add]
      change _ = _
      kernel_rfl
  · have h1 : ¬ (w.log.length : Int) + 1 ≤ (w.log.length : Int) := by omega
    simp only [S_sTips, worldA, tips]
    generalize tipsTo w.log w.log.length = out at *
    simp (maxSteps := 4000000) -implicitDefEqProofs [b20_0, x_seq, x_cond, x_block, x_region, x_skip, x_exit, x_ret, head_id, runG, runOps, doOp, wantB, stepOp, AO.eff, pureOp, St.get, St.one, St.num, St.put, St.optNum, binA, binInt, List.take, List.drop, effOp2, effOp, memL_app, stoRow, cellsAt, toCells, toCell, scalar_int, scalar_bool, scalar_str, scalar_sl, updAt, fromRo, upd, R_sTips, h1]
    change _ = _
    kernel_rfl
theorem r_sTips (w : PWorld) (hs : SmW w) : runRO (X tab) tab 20 [.v true (worldA w)] = some (.v false [.sl 0 [] 0 (tips w.log).length], [.row 1 (cl .i64 (tips w.log))]) := by
  have hS : S_sTips w 0 = ⟨⟨[.bad, .v false [.pr 0 [] 0], .bad, .v false [.sl 1 [] 0 0], .v false [.int .i64 (1)], .bad, .bad, .bad, .bad, .bad, .bad, .bad, .bad, .bad, .bad, .bad, .bad, .bad, .bad, .bad, .bad, .bad, .bad, .bad, .bad, .bad, .bad, .bad, .bad, .bad, .bad, .bad, .bad, .bad, .bad, .bad, .bad, .bad, .bad, .bad], memL [some (.box (worldA w)), some (.row 1 [])], []⟩, 2⟩ := rfl
  unfold runRO
  simp (maxSteps := 4000000) -implicitDefEqProofs [tab20, a20, x_seq, x_cond, x_block, x_region, x_skip, x_exit, x_ret, head_id, runG, runOps, doOp, wantB, stepOp, AO.eff, pureOp, St.get, St.one, St.num, St.put, St.optNum, binA, binInt, List.take, List.drop, effOp2, effOp, memL_app, stoRow, cellsAt, toCells, toCell, scalar_int, scalar_bool, scalar_str, scalar_sl, updAt, fromRo, upd, srcCells, A1.slB, flat_int, cl_flat', St.parts, Eng.inB, reps, fillA, newRowSt, appSt, oldOf, rest, kill, mapMem, SV.map, Ob.map]
  rw [loop_sTips w hs (by
    rw [hS]
    change _ = _
    kernel_rfl)]
  simp (maxSteps := 4000000) -implicitDefEqProofs [R_sTips, x_seq, x_cond, x_block, x_region, x_skip, x_exit, x_ret, head_id, runG, runOps, doOp, wantB, stepOp, AO.eff, pureOp, St.get, St.one, St.num, St.put, St.optNum, binA, binInt, List.take, List.drop, resOf, resSV, SV.map, SV.ids, A1.ids, reach, allObs, ren, pos, Ob.map, St.canon, memL, List.range, List.range.loop]
/-! The program's. -/
theorem f_Tips (u : Nat) (n : Int) (x : PRec) (sl : List SV) (m : Mem) (up : List SV) (nx : Nat) (hm : m u = some (.box [.int .i64 n])) :
    runThru (X tab) tab 45 [.v true [.int .i64 x.cell, .int .i64 x.up], .v false [.pr u [] 0]] ⟨⟨sl, m, up⟩, nx⟩ = some (.v false [.bool (x.up == n)], ⟨⟨sl, m, up⟩, nx + 448⟩) := by
  unfold runThru
  simp (maxSteps := 4000000) -implicitDefEqProofs [tab45, a45, x_seq, x_cond, x_block, x_region, x_skip, x_exit, x_ret, head_id, runG, runOps, doOp, wantB, stepOp, AO.eff, pureOp, St.get, St.one, St.num, St.put, St.optNum, binA, binInt, List.take, List.drop, effOp2, effOp, roCells, fromRo, hm, resOf, resSV]
/-- The first of a row of structures that is p. -/
def fidR (p : PRec → Bool) : Nat → List PRec → Option Nat
  | _, [] => none
  | i, y :: r => if p y = true then some i else fidR p (i + 1) r
theorem fidR_none {p : PRec → Bool} : ∀ {l : List PRec} {i : Nat}, (fidR p i l).isSome = l.any p := by
  intro l
  induction l with
  | nil => intro i; rfl
  | cons y r ih =>
    intro i
    simp only [fidR, List.any_cons]
    cases hp : p y with
    | true => simp
    | false => simp [ih]
def SR (u : Nat) (f : FuncId) (l : List PRec) (m : Mem) (up : List SV) (nx i : Nat) : XS := ⟨⟨[.v false [.ro l.length (recsC l)], .v false [.fn f [u]], .bad, .bad, .bad, .bad, .bad, .v false [.int .i64 (l.length)], .v false [.int .i64 (i)], .bad, .bad, .bad, .bad, .bad, .bad, .bad, .bad, .bad, .bad], m, up⟩, nx⟩
def RR (m : Mem) (up : List SV) (nx : Nat) (c : Nat) : Option Nat → Option (AE × XS)
  | none => some (.exit 0, ⟨⟨[.bad, .bad, .bad, .bad, .bad, .bad, .bad, .bad, .bad, .bad, .bad, .bad, .bad, .bad, .bad, .bad, .bad, .bad, .bad], m, up⟩, nx + 64⟩)
  | some j => some (.ret, ⟨⟨[.bad, .bad, .bad, .bad, .v false [.int .i64 (j)], .bad, .bad, .bad, .bad, .bad, .bad, .bad, .bad, .bad, .bad, .bad, .bad, .bad, .bad], m, up⟩, nx + 704 + c⟩)
theorem loop_IndexR (l : List PRec) (u : Nat) (f : FuncId) (p : PRec → Bool) (c : Nat) (hn : l.length ≤ 1048576) (m : Mem) (up : List SV) (nx : Nat) (hf : ∀ (y : PRec) sl up nx, runThru (X tab) tab f [.v true [.int .i64 y.cell, .int .i64 y.up], .v false [.pr u [] 0]] ⟨⟨sl, m, up⟩, nx⟩ = some (.v false [.bool (p y)], ⟨⟨sl, m, up⟩, nx + c⟩)) {x : XS}
    (hx : head false d62_0 x = SR u f l m up nx 0) : X tab l62_0 x = RR m up nx c (fidR p 0 l) := by
  refine loopXF (σ := Nat) (SR u f l m up nx) (fun i => l.length - i) (fun i => i ≤ l.length ∧ fidR p i (l.drop i) = fidR p 0 l) _ (fun i ⟨hi, hs⟩ => ?_) 0 ⟨Nat.zero_le _, rfl⟩ x hx
  cases hl : l.drop i with
  | nil =>
    have hi2 : i = l.length := by
      have := congrArg List.length hl
      simp at this
      omega
    subst hi2
    rw [← hs, hl]
    refine .inr ⟨?_, by simp [fidR, RR]⟩
    simp (maxSteps := 4000000) -implicitDefEqProofs [b62_0, SR, x_seq, x_cond, x_block, x_region, x_skip, x_exit, x_ret, head_id, runG, runOps, doOp, wantB, stepOp, AO.eff, pureOp, St.get, St.one, St.num, St.put, St.optNum, binA, binInt, List.take, List.drop, fidR, RR]
    change _ = _
    kernel_rfl
  | cons y r =>
    have hi' := dropx_lt hl
    have h1 : (0 ≤ (i : Int) ∧ (i : Int) < (l.length : Int)) := by omega
    have h2 := recsC_at hl
    simp only [recC, List.cons_append, List.nil_append] at h2
    have h4 := wrap_next hi' (show l.length ≤ 281474976710656 by omega)
    have h5 := fun sl up nx => hf y sl up nx
    rw [hl] at hs
    simp only [fidR] at hs
    cases hp : p y with
    | true =>
      rw [if_pos hp] at hs
      rw [← hs]
      refine .inr ⟨?_, by simp [RR]⟩
      simp (maxSteps := 4000000) -implicitDefEqProofs [b62_0, SR, x_seq, x_cond, x_block, x_region, x_skip, x_exit, x_ret, head_id, runG, runOps, doOp, wantB, stepOp, AO.eff, pureOp, St.get, St.one, St.num, St.put, St.optNum, binA, binInt, List.take, List.drop, getAll, fromRo, h1, h2, h4, h5, hi', hp, RR]
      simp only [head, killSlots, Bool.false_eq_true, if_false, List.set, XS.mk.injEq, true_and]
      omega
    | false =>
      rw [if_neg (by simp [hp])] at hs
      refine .inl ⟨i + 1, ?_, by omega, hi', by rw [dropx_next hl]; exact hs⟩
      simp (maxSteps := 4000000) -implicitDefEqProofs [b62_0, SR, x_seq, x_cond, x_block, x_region, x_skip, x_exit, x_ret, head_id, runG, runOps, doOp, wantB, stepOp, AO.eff, pureOp, St.get, St.one, St.num, St.put, St.optNum, binA, binInt, List.take, List.drop, getAll, fromRo, h1, h2, h4, h5, hi', hp]
      change _ = _
      kernel_rfl
def dR (c : Nat) : Option Nat → Nat
  | none => 384
  | some _ => 960 + c
theorem t_ContainsR (l : List PRec) (u : Nat) (f : FuncId) (p : PRec → Bool) (c : Nat) (hn : l.length ≤ 1048576) (sl : List SV) (m : Mem) (up : List SV) (nx : Nat) (hf : ∀ (y : PRec) sl up nx, runThru (X tab) tab f [.v true [.int .i64 y.cell, .int .i64 y.up], .v false [.pr u [] 0]] ⟨⟨sl, m, up⟩, nx⟩ = some (.v false [.bool (p y)], ⟨⟨sl, m, up⟩, nx + c⟩)) :
    runThru (X tab) tab 44 [.v false [.ro l.length (recsC l)], .v false [.fn f [u]]] ⟨⟨sl, m, up⟩, nx⟩ = some (.v false [.bool (l.any p)], ⟨⟨sl, m, up⟩, nx + 384 + dR c (fidR p 0 l)⟩) := by
  have h1 : ∀ sl up nx, runThru (X tab) tab 62 [.v false [.ro l.length (recsC l)], .v false [.fn f [u]]] ⟨⟨sl, m, up⟩, nx⟩ = some (.v false [.int .i64 (match fidR p 0 l with | some j => (j : Int) | none => -1)], ⟨⟨sl, m, up⟩, nx + dR c (fidR p 0 l)⟩) := by
    intro sl up nx
    unfold runThru
    simp (maxSteps := 4000000) -implicitDefEqProofs [tab62, a62, x_seq, x_cond, x_block, x_region, x_skip, x_exit, x_ret, head_id, runG, runOps, doOp, wantB, stepOp, AO.eff, pureOp, St.get, St.one, St.num, St.put, St.optNum, binA, binInt, List.take, List.drop]
    rw [loop_IndexR l u f p c hn m (sl ++ up) (nx + 256) hf (by change _ = _; kernel_rfl)]
    cases fidR p 0 l with
    | none => simp (maxSteps := 4000000) -implicitDefEqProofs [RR, x_seq, x_cond, x_block, x_region, x_skip, x_exit, x_ret, head_id, runG, runOps, doOp, wantB, stepOp, AO.eff, pureOp, St.get, St.one, St.num, St.put, St.optNum, binA, binInt, List.take, List.drop, resOf, resSV, Nat.add_assoc, dR]
    | some j => simp (maxSteps := 4000000) -implicitDefEqProofs [RR, x_seq, x_cond, x_block, x_region, x_skip, x_exit, x_ret, head_id, runG, runOps, doOp, wantB, stepOp, AO.eff, pureOp, St.get, St.one, St.num, St.put, St.optNum, binA, binInt, List.take, List.drop, resOf, resSV, Nat.add_assoc, dR]
  have hs := fidR_none (p := p) (l := l) (i := 0)
  generalize fidR p 0 l = q at *
  rw [← hs]
  unfold runThru
  cases q with
  | none =>
    simp (maxSteps := 4000000) -implicitDefEqProofs [tab44, a44, x_seq, x_cond, x_block, x_region, x_skip, x_exit, x_ret, head_id, runG, runOps, doOp, wantB, stepOp, AO.eff, pureOp, St.get, St.one, St.num, St.put, St.optNum, binA, binInt, List.take, List.drop, getAll, h1, resOf, resSV, Nat.add_assoc, dR]
  | some j =>
    have hj : (0 : Int) ≤ (j : Int) := by omega
    simp (maxSteps := 4000000) -implicitDefEqProofs [tab44, a44, x_seq, x_cond, x_block, x_region, x_skip, x_exit, x_ret, head_id, runG, runOps, doOp, wantB, stepOp, AO.eff, pureOp, St.get, St.one, St.num, St.put, St.optNum, binA, binInt, List.take, List.drop, getAll, h1, hj, resOf, resSV, Nat.add_assoc, dR]
def S_Tips (w : PWorld) (i : Nat) : XS := ⟨⟨[.bad, .v false [.pr 0 [] 0], .bad, .v false [.sl 1 [] 0 (tipsTo w.log i).length], .v false [.pr 2 [] 0], .bad, .bad, .bad, .bad, .bad, .bad, .bad, .bad, .bad, .bad, .bad, .bad, .bad, .bad, .bad, .bad, .bad, .bad, .bad], memL [some (.box (worldA w)), some (.row 1 (cl .i64 (tipsTo w.log i))), some (.box [.int .i64 ((i : Int) + 1)])], []⟩, 3⟩
def R_Tips (l : List Int) : Option (AE × XS) := some (.exit 0, ⟨⟨[.bad, .bad, .bad, .v false [.sl 0 [] 0 l.length], .bad, .bad, .bad, .bad, .bad, .bad, .bad, .bad, .bad, .bad, .bad, .bad, .bad, .bad, .bad, .bad, .bad, .bad, .bad, .bad], memL [some (.row 1 (cl .i64 l))], []⟩, 1⟩)
theorem loop_Tips (w : PWorld) (hs : SmW w) {x : XS} (hx : head true d21_0 x = S_Tips w 0) : X tab l21_0 x = R_Tips (tips w.log) := by
  have hlog := hs.log
  refine loopN w.log.length (S_Tips w) _ (by simp [R_Tips]) (fun i hi => ?_) ?_ (Nat.zero_le _) hx
  · have h1 : (i : Int) + 1 ≤ (w.log.length : Int) := by omega
    have h4 : IntKind.i64.wrap ((i : Int) + 1 + 1) = ((i + 1 : Nat) : Int) + 1 := by rw [wrap_id (by omega) (by omega)]; omega
    have hle := tips_le w.log i
    have hc : (cl .i64 (tipsTo w.log i)).length = (tipsTo w.log i).length := cl_length
    have h5 : ((tipsTo w.log i).length + 1) * 8 ≤ 140737488355328 := by omega
    simp only [S_Tips, tips_next, worldA]
    generalize tipsTo w.log i = out at *
    have hq := fun sl up nx => t_ContainsR w.log 2 45 (fun r => r.up == (i : Int) + 1) 448 (by omega) sl (memL [some (.box (worldA w)), some (.row 1 (cl .i64 out)), some (.box [.int .i64 ((i : Int) + 1)])]) up nx (fun y sl up nx => f_Tips 2 ((i : Int) + 1) y sl _ up nx rfl)
    simp only [worldA] at hq
    have hu : (w.log.any fun r => r.up == (i : Int) + 1) = usedB w.log ((i : Int) + 1) := rfl
    rw [hu] at hq
    have hs := fidR_none (p := fun r => r.up == (i : Int) + 1) (l := w.log) (i := 0)
    rw [hu] at hs
    clear hu
    generalize fidR (fun r => r.up == (i : Int) + 1) 0 w.log = fi at *
    cases fi with
    | some j =>
      rw [← hs]
      rw [← hs] at hq
      simp only [dR, Option.isSome] at hq
      simp (maxSteps := 4000000) -implicitDefEqProofs [b21_0, x_seq, x_cond, x_block, x_region, x_skip, x_exit, x_ret, head_id, runG, runOps, doOp, wantB, stepOp, AO.eff, pureOp, St.get, St.one, St.num, St.put, St.optNum, binA, binInt, List.take, List.drop, effOp2, effOp, memL_app, stoRow, cellsAt, toCells, toCell, scalar_int, scalar_bool, scalar_str, scalar_sl, updAt, fromRo, upd, spl, getAll, St.boxes, boxOf, h1, h4, hq, hi, -Int.natCast_add]
      change _ = _
      kernel_rfl
    | none =>
      rw [← hs]
      rw [← hs] at hq
      simp only [dR, Option.isSome] at hq
      simp only [Option.isSome, Bool.false_eq_true, if_false, List.length_append, List.length_singleton, ← cl_app1]
      simp (maxSteps := 4000000) -implicitDefEqProofs [b21_0, x_seq, x_cond, x_block, x_region, x_skip, x_exit, x_ret, head_id, runG, runOps, doOp, wantB, stepOp, AO.eff, pureOp, St.get, St.one, St.num, St.put, St.optNum, binA, binInt, List.take, List.drop, effOp2, effOp, memL_app, stoRow, cellsAt, toCells, toCell, scalar_int, scalar_bool, scalar_str, scalar_sl, updAt, fromRo, upd, srcCells, A1.slB, flat_int, cl_flat', St.parts, Eng.inB, reps, fillA, newRowSt, appSt, oldOf, rest, kill, mapMem, SV.map, Ob.map, spl, getAll, St.boxes, boxOf, h1, h4, h5, hc, hq, hi, -Int.natCast_add]
      change _ = _
      kernel_rfl
  · have h1 : ¬ (w.log.length : Int) + 1 ≤ (w.log.length : Int) := by omega
    simp only [S_Tips, worldA, tips]
    generalize tipsTo w.log w.log.length = out at *
    simp (maxSteps := 4000000) -implicitDefEqProofs [b21_0, x_seq, x_cond, x_block, x_region, x_skip, x_exit, x_ret, head_id, runG, runOps, doOp, wantB, stepOp, AO.eff, pureOp, St.get, St.one, St.num, St.put, St.optNum, binA, binInt, List.take, List.drop, effOp2, effOp, memL_app, stoRow, cellsAt, toCells, toCell, scalar_int, scalar_bool, scalar_str, scalar_sl, updAt, fromRo, upd, R_Tips, h1]
    change _ = _
    kernel_rfl
theorem r_Tips (w : PWorld) (hs : SmW w) : runRO (X tab) tab 21 [.v true (worldA w)] = some (.v false [.sl 0 [] 0 (tips w.log).length], [.row 1 (cl .i64 (tips w.log))]) := by
  have hS : S_Tips w 0 = ⟨⟨[.bad, .v false [.pr 0 [] 0], .bad, .v false [.sl 1 [] 0 0], .v false [.pr 2 [] 0], .bad, .bad, .bad, .bad, .bad, .bad, .bad, .bad, .bad, .bad, .bad, .bad, .bad, .bad, .bad, .bad, .bad, .bad, .bad], memL [some (.box (worldA w)), some (.row 1 []), some (.box [.int .i64 1])], []⟩, 3⟩ := rfl
  unfold runRO
  simp (maxSteps := 4000000) -implicitDefEqProofs [tab21, a21, x_seq, x_cond, x_block, x_region, x_skip, x_exit, x_ret, head_id, runG, runOps, doOp, wantB, stepOp, AO.eff, pureOp, St.get, St.one, St.num, St.put, St.optNum, binA, binInt, List.take, List.drop, effOp2, effOp, memL_app, stoRow, cellsAt, toCells, toCell, scalar_int, scalar_bool, scalar_str, scalar_sl, updAt, fromRo, upd, srcCells, A1.slB, flat_int, cl_flat', St.parts, Eng.inB, reps, fillA, newRowSt, appSt, oldOf, rest, kill, mapMem, SV.map, Ob.map, spl]
  rw [loop_Tips w hs (by
    rw [hS]
    change _ = _
    kernel_rfl)]
  simp (maxSteps := 4000000) -implicitDefEqProofs [R_Tips, x_seq, x_cond, x_block, x_region, x_skip, x_exit, x_ret, head_id, runG, runOps, doOp, wantB, stepOp, AO.eff, pureOp, St.get, St.one, St.num, St.put, St.optNum, binA, binInt, List.take, List.drop, resOf, resSV, SV.map, SV.ids, A1.ids, reach, allObs, ren, pos, Ob.map, St.canon, memL, List.range, List.range.loop]

theorem kW_bound (w : PWorld) (h : totW w ≤ 1048576) : 0 ≤ kW 1 w ∧ kW 1 w ≤ 1000000000 := by
  unfold kW kL
  have h1 : (w.nodes.map cN).sum ≤ (w.nodes.map totN).sum + w.nodes.length * 7 := sum_le fun n hn => by unfold cN totN; omega
  have h2 : (w.net.map cWire).sum ≤ (w.net.map totX).sum + w.net.length * 2 := sum_le fun n hn => by unfold cWire totX; omega
  have h3 : (w.log.map cRec).sum ≤ (w.log.map fun _ => 0).sum + w.log.length * 2 := sum_le fun n hn => by unfold cRec; omega
  have h4 : (w.log.map fun _ => 0).sum = 0 := by
    induction w.log with
    | nil => rfl
    | cons x r ih => simpa using ih
  have hs := smW w h
  have e1 := hs.nodes
  have e2 := hs.net
  have e3 := hs.log
  have e4 := hs.safe
  unfold totW at h
  constructor
  · omega
  · omega
theorem law_FnExactTips (w : PWorld) (hw : WfW w)  : runRO (X tab) tab 7 [.v true (worldA w)] = some (.v false [.bool true], []) := by
  have q0 : runRO (X tab) tab 9 [.v true (worldA w), .v false [.int .i64 1048576]] = some (.v false [.int .i64 (szT 1048576 (totW w))], []) := r_szWorld w hw 1048576 (by omega) (by omega)
  by_cases ht : (1048576 : Int) < (totW w : Int)
  · rw [szT_neg ht] at q0
    simp only [worldA] at q0
    unfold runRO
    simp (maxSteps := 4000000) -implicitDefEqProofs [tab7, a7, x_seq, x_cond, x_block, x_region, x_skip, x_exit, x_ret, head_id, runG, runOps, doOp, wantB, stepOp, AO.eff, pureOp, St.get, St.one, St.num, St.put, St.optNum, binA, binInt, List.take, List.drop, effOp2, effOp, memL_app, stoRow, cellsAt, toCells, toCell, scalar_int, scalar_bool, scalar_str, scalar_sl, updAt, fromRo, upd, callRO, addMem_nil, roArgs, roL, roA, srcCells, A1.ownB, addMem, shift, ren, SV.map, Ob.map, Ob.noRo, SV.noRo, A1.noRo, List.range, List.range.loop, resOf, resSV, SV.map, SV.ids, A1.ids, reach, allObs, ren, pos, Ob.map, St.canon, memL, List.range, List.range.loop, worldA, q0]
  · rw [szT_pos ht] at q0
    have hs := smW w (by omega)
    have q1 := r_toWorld w hs
    have g1 := r_sTips w hs
    have g2 := r_Tips w hs
    have q2 := r_eqWorld w hs
    have h0 : ¬ (1048576 : Int) - (totW w : Int) < 0 := by omega
    have hkw := kW_bound w (by omega)
    have hk0 : ¬ kW 1 w < 0 := by omega
    have t1 := nodesC_self w.nodes
    have t2 := wiresC_self w.net
    have t3 := recsC_self w.log
    have t4 : (cl .i64 w.safe).take w.safe.length = cl .i64 w.safe := cl_self
    have l1 := nodesC_len w.nodes
    have l2 := wiresC_len w.net
    have l3 := recsC_len w.log
    have l4 : (cl .i64 w.safe).length = w.safe.length := cl_length
    have hle := show (tips w.log).length ≤ w.log.length from tips_le w.log w.log.length
    have hlog := hs.log
    have e1 := eqIntS (tips w.log) (by omega)
    have m1 := fun sl m up nx tn tx tl ts g hn hx hl hsa d1 d2 d3 d4 d5 d6 h0 => t_markWorld w hs 1 (by omega) hkw.2 tn tx tl ts g sl m up nx hn hx hl hsa d1 d2 d3 d4 d5 d6 h0
    have m2 := fun t sl m up nx hm => markIntS t (tips w.log).length (tips w.log) 1 sl m up nx hm rfl (by omega) (by omega) (by omega)
    have m3 := heldIntS (tips w.log).length 1 (by omega) (by omega) (by omega)
    have v1 : (cl .i64 (tips w.log)).take (tips w.log).length = cl .i64 (tips w.log) := cl_self
    have v2 : (cl .i64 (tips w.log)).length = (tips w.log).length := cl_length
    have v3 : (cl .i64 (marks_i64 1 (tips w.log).length)).take (tips w.log).length = cl .i64 (marks_i64 1 (tips w.log).length) := by rw [List.take_of_length_le]; simp [cl_length, marks_i64]
    have v4 : (cl .i64 (marks_i64 1 (tips w.log).length)).length = (tips w.log).length := by simp [cl_length, marks_i64]
    have v5 : ¬ (1 : Int) + ((tips w.log).length : Int) < 0 := by omega
    generalize tips w.log = v at *
    generalize (1048576 : Int) - (totW w : Int) = left at *
    generalize kW 1 w = kw at *
    simp only [worldA, worldR, worldO] at q0 q1 q2 g1 g2
    unfold runRO
    simp (maxSteps := 4000000) -implicitDefEqProofs [tab7, a7, x_seq, x_cond, x_block, x_region, x_skip, x_exit, x_ret, head_id, runG, runOps, doOp, wantB, stepOp, AO.eff, pureOp, St.get, St.one, St.num, St.put, St.optNum, binA, binInt, List.take, List.drop, effOp2, effOp, memL_app, stoRow, cellsAt, toCells, toCell, scalar_int, scalar_bool, scalar_str, scalar_sl, updAt, fromRo, upd, gOp, gOp0, gOpL, gResL, updO, gRes, gEff, addObs_nil, addObs_one, freshB_memL, freshB_none, freshB_upd, freshB_addMem, freshB_addObs, callRO, addMem_nil, roArgs, roL, roA, srcCells, A1.ownB, addMem, shift, ren, SV.map, Ob.map, Ob.noRo, SV.noRo, A1.noRo, List.range, List.range.loop, resOf, resSV, SV.map, SV.ids, A1.ids, reach, allObs, ren, pos, Ob.map, St.canon, memL, List.range, List.range.loop, addObs_app, getAll, spl, cellsAt, memW, worldA, q0, q1, q2, g1, g2, e1, m1, m2, m3, v1, v2, v3, v4, v5, h0, hk0, t1, t2, t3, t4, l1, l2, l3, l4]

/-- A function value with one variable, which it looks at in a memory that is C. -/
def LooksG (f : FuncId) (u : Nat) (C : Mem → Prop) (p : Int → Bool) (c : Nat) : Prop :=
  ∀ y sl m up nx, C m → runThru (X tab) tab f [.v false [.int .i64 y], .v false [.pr u [] 0]] ⟨⟨sl, m, up⟩, nx⟩ = some (.v false [.bool (p y)], ⟨⟨sl, m, up⟩, nx + c⟩)
def SI (t u : Nat) (f : FuncId) (l : List Int) (m : Mem) (up : List SV) (nx i : Nat) : XS := ⟨⟨[.v false [.sl t [] 0 l.length], .v false [.fn f [u]], .bad, .bad, .bad, .bad, .bad, .v false [.int .i64 (l.length)], .v false [.int .i64 (i)], .bad, .bad, .bad, .bad, .bad, .bad, .bad, .bad, .bad, .bad], m, up⟩, nx⟩
def RI (c : Nat) (m : Mem) (up : List SV) (nx : Nat) : Option Nat → Option (AE × XS)
  | none => some (.exit 0, ⟨⟨[.bad, .bad, .bad, .bad, .bad, .bad, .bad, .bad, .bad, .bad, .bad, .bad, .bad, .bad, .bad, .bad, .bad, .bad, .bad], m, up⟩, nx + 64⟩)
  | some j => some (.ret, ⟨⟨[.bad, .bad, .bad, .bad, .v false [.int .i64 (j)], .bad, .bad, .bad, .bad, .bad, .bad, .bad, .bad, .bad, .bad, .bad, .bad, .bad, .bad], m, up⟩, nx + 704 + c⟩)
theorem loop_IndexC (l : List Int) (t u : Nat) (f : FuncId) (C : Mem → Prop) (p : Int → Bool) (c : Nat) (hf : LooksG f u C p c) (hn : l.length ≤ 1048576) (m : Mem) (up : List SV) (nx : Nat) (ht : m t = some (.row 1 (cl .i64 l))) (hu : C m) {x : XS}
    (hx : head false d66_0 x = SI t u f l m up nx 0) : X tab l66_0 x = RI c m up nx (fidx p 0 l) := by
  refine loopXF (σ := Nat) (SI t u f l m up nx) (fun i => l.length - i) (fun i => i ≤ l.length ∧ fidx p i (l.drop i) = fidx p 0 l) _ (fun i ⟨hi, hs⟩ => ?_) 0 ⟨Nat.zero_le _, rfl⟩ x hx
  cases hl : l.drop i with
  | nil =>
    obtain rfl := drop_end hl hi
    rw [← hs, hl]
    refine .inr ⟨?_, by simp [fidx, RI]⟩
    simp (maxSteps := 4000000) -implicitDefEqProofs [b66_0, SI, x_seq, x_cond, x_block, x_region, x_skip, x_exit, x_ret, head_id, runG, runOps, doOp, wantB, stepOp, AO.eff, pureOp, St.get, St.one, St.num, St.put, St.optNum, binA, binInt, List.take, List.drop, fidx, RI]
    change _ = _
    kernel_rfl
  | cons y r =>
    have hi' := drop_lt hl
    have h1 : (0 ≤ (i : Int) ∧ (i : Int) < (l.length : Int)) := by omega
    have h2 := cl_read (k := .i64) hl t []
    have h4 := wrap_next hi' (show l.length ≤ 281474976710656 by omega)
    have h5 := fun sl up nx => hf y sl m up nx hu
    rw [hl] at hs
    simp only [fidx] at hs
    cases hp : p y with
    | true =>
      rw [if_pos hp] at hs
      rw [← hs]
      refine .inr ⟨?_, by simp [RI]⟩
      simp (maxSteps := 4000000) -implicitDefEqProofs [b66_0, SI, x_seq, x_cond, x_block, x_region, x_skip, x_exit, x_ret, head_id, runG, runOps, doOp, wantB, stepOp, AO.eff, pureOp, St.get, St.one, St.num, St.put, St.optNum, binA, binInt, List.take, List.drop, getAll, cellsAt, ht, h1, h2, h4, h5, hi', hp, RI]
      simp only [head, killSlots, Bool.false_eq_true, if_false, List.set, XS.mk.injEq, true_and]
      omega
    | false =>
      rw [if_neg (by simp [hp])] at hs
      refine .inl ⟨i + 1, ?_, by omega, hi', by rw [drop_next hl]; exact hs⟩
      simp (maxSteps := 4000000) -implicitDefEqProofs [b66_0, SI, x_seq, x_cond, x_block, x_region, x_skip, x_exit, x_ret, head_id, runG, runOps, doOp, wantB, stepOp, AO.eff, pureOp, St.get, St.one, St.num, St.put, St.optNum, binA, binInt, List.take, List.drop, getAll, cellsAt, ht, h1, h2, h4, h5, hi', hp]
      change _ = _
      kernel_rfl
def dI (c : Nat) : Option Nat → Nat
  | none => 384
  | some _ => 960 + c
theorem t_IndexC (l : List Int) (t u : Nat) (f : FuncId) (C : Mem → Prop) (p : Int → Bool) (c : Nat) (hf : LooksG f u C p c) (hn : l.length ≤ 1048576) (sl : List SV) (m : Mem) (up : List SV) (nx : Nat) (ht : m t = some (.row 1 (cl .i64 l))) (hu : C m) :
    runThru (X tab) tab 66 [.v false [.sl t [] 0 l.length], .v false [.fn f [u]]] ⟨⟨sl, m, up⟩, nx⟩ = some (.v false [.int .i64 (match fidx p 0 l with | some j => (j : Int) | none => -1)], ⟨⟨sl, m, up⟩, nx + dI c (fidx p 0 l)⟩) := by
  unfold runThru
  simp (maxSteps := 4000000) -implicitDefEqProofs [tab66, a66, x_seq, x_cond, x_block, x_region, x_skip, x_exit, x_ret, head_id, runG, runOps, doOp, wantB, stepOp, AO.eff, pureOp, St.get, St.one, St.num, St.put, St.optNum, binA, binInt, List.take, List.drop]
  rw [loop_IndexC l t u f C p c hf hn m (sl ++ up) (nx + 256) ht hu (by change _ = _; kernel_rfl)]
  cases fidx p 0 l with
  | none => simp (maxSteps := 4000000) -implicitDefEqProofs [RI, x_seq, x_cond, x_block, x_region, x_skip, x_exit, x_ret, head_id, runG, runOps, doOp, wantB, stepOp, AO.eff, pureOp, St.get, St.one, St.num, St.put, St.optNum, binA, binInt, List.take, List.drop, resOf, resSV, Nat.add_assoc, dI]
  | some j => simp (maxSteps := 4000000) -implicitDefEqProofs [RI, x_seq, x_cond, x_block, x_region, x_skip, x_exit, x_ret, head_id, runG, runOps, doOp, wantB, stepOp, AO.eff, pureOp, St.get, St.one, St.num, St.put, St.optNum, binA, binInt, List.take, List.drop, resOf, resSV, Nat.add_assoc, dI]
/-- Taking out, in place. -/
def delF (p : Int → Bool) : Nat → List Int → List Int → Nat × List Int
  | i, row, [] => (i, row)
  | i, row, v :: r => if p v = true then delF p i row r else delF p (i + 1) (row.set i v) r
def SD (t u : Nat) (f : FuncId) (n : Nat) (m : Mem) (up : List SV) (nx : Nat) (s : Nat × Nat × List Int) : XS := ⟨⟨[.v false [.sl t [] 0 n], .v false [.fn f [u]], .bad, .bad, .bad, .v false [.int .i64 (s.1)], .v false [.int .i64 (s.2.1)], .bad, .bad, .bad, .bad, .bad, .bad, .bad, .bad, .bad, .bad, .bad, .bad, .bad, .bad, .bad, .bad, .bad, .bad, .bad, .bad, .bad, .bad, .bad, .bad, .bad, .bad, .bad, .bad, .bad, .bad, .bad, .bad, .bad, .bad, .bad], upd m t (some (.row 1 (cl .i64 s.2.2))), up⟩, nx⟩
def ZD (t n : Nat) (m : Mem) (up : List SV) (nx : Nat) (q : Nat × List Int) : XS := ⟨⟨[.v false [.sl t [] 0 n], .bad, .bad, .bad, .bad, .v false [.int .i64 (q.1)], .bad, .bad, .bad, .bad, .bad, .bad, .bad, .bad, .bad, .bad, .bad, .bad, .bad, .bad, .bad, .bad, .bad, .bad, .bad, .bad, .bad, .bad, .bad, .bad, .bad, .bad, .bad, .bad, .bad, .bad, .bad, .bad, .bad, .bad, .bad, .bad], upd m t (some (.row 1 (cl .i64 q.2))), up⟩, nx + 256⟩
theorem loop_Delete (l : List Int) (t u : Nat) (f : FuncId) (C : Mem → Prop) (p : Int → Bool) (c : Nat) (hf : LooksG f u C p c) (hn : l.length ≤ 1048576) (m : Mem) (up : List SV) (nx i0 : Nat) (hu : ∀ q, C (upd m t q)) (hi0 : i0 < l.length) {x : XS}
    (hx : head false d49_0 x = SD t u f l.length m up nx (i0, i0 + 1, l)) : X tab l49_0 x = some (.exit 0, ZD t l.length m up nx (delF p i0 l (l.drop (i0 + 1)))) := by
  refine loopXF (σ := Nat × Nat × List Int) (SD t u f l.length m up nx) (fun s => l.length - s.2.1) (fun s => s.1 < s.2.1 ∧ s.2.1 ≤ l.length ∧ s.2.2.length = l.length ∧ s.2.2.drop s.2.1 = l.drop s.2.1 ∧ delF p s.1 s.2.2 (l.drop s.2.1) = delF p i0 l (l.drop (i0 + 1))) _ (fun ⟨i, j, row⟩ ⟨hij, hj, hlen, hrow, hs⟩ => ?_) (i0, i0 + 1, l) ⟨by simp, by simp only; omega, rfl, rfl, rfl⟩ x hx
  simp only at hij hj hlen hrow hs
  cases hl : l.drop j with
  | nil =>
    obtain rfl := drop_end hl hj
    rw [hl, delF] at hs
    rw [← hs]
    refine .inr ⟨?_, by simp⟩
    simp (maxSteps := 4000000) -implicitDefEqProofs [b49_0, SD, x_seq, x_cond, x_block, x_region, x_skip, x_exit, x_ret, head_id, runG, runOps, doOp, wantB, stepOp, AO.eff, pureOp, St.get, St.one, St.num, St.put, St.optNum, binA, binInt, List.take, List.drop, ZD]
    change _ = _
    kernel_rfl
  | cons y r =>
    have hj' := drop_lt hl
    have h1 : (0 ≤ (j : Int) ∧ (j : Int) < (l.length : Int)) := by omega
    have h1' : (0 ≤ (i : Int) ∧ (i : Int) < (l.length : Int)) := by omega
    have h2 := cl_read (k := .i64) (hrow.trans hl) t []
    have h4 := wrap_next hj' (show l.length ≤ 281474976710656 by omega)
    have h4' : IntKind.i64.wrap ((i : Int) + 1) = ((i + 1 : Nat) : Int) := by rw [wrap_id (by omega) (by omega)]; omega
    have h5 := fun q sl up nx => hf y sl (upd m t q) up nx (hu q)
    rw [hl] at hs
    simp only [delF] at hs
    have h6 : (i : Int) < (l.length : Int) := by omega
    have h7 : i + 1 ≤ (cl .i64 row).length := by rw [cl_length]; omega
    have h8 : spl [Cell.int .i64 y] i (cl .i64 row) = cl .i64 (row.set i y) := cl_spl (by omega)
    have h9 : ∀ q : Option Ob, upd m t q t = q := fun q => by simp [upd]
    cases hp : p y with
    | true =>
      rw [if_pos hp] at hs
      refine .inl ⟨(i, j + 1, row), ?_, by simp only; omega, by simp only; omega, hj', hlen, by simp only; rw [drop_next hl, drop_next (hrow.trans hl)], by simp only; rw [drop_next hl]; exact hs⟩
      simp (maxSteps := 4000000) -implicitDefEqProofs [b49_0, SD, x_seq, x_cond, x_block, x_region, x_skip, x_exit, x_ret, head_id, runG, runOps, doOp, wantB, stepOp, AO.eff, pureOp, St.get, St.one, St.num, St.put, St.optNum, binA, binInt, List.take, List.drop, getAll, cellsAt, h9, h1, h2, h4, h5, hj', hp]
      change _ = _
      kernel_rfl
    | false =>
      rw [if_neg (by simp [hp])] at hs
      have hrow2 : (row.set i y).drop (j + 1) = l.drop (j + 1) := by
        rw [List.drop_set_of_lt (by omega), drop_next hl, drop_next (hrow.trans hl)]
      refine .inl ⟨(i + 1, j + 1, row.set i y), ?_, by simp only; omega, by simp only; omega, hj', by simp only [List.length_set]; exact hlen, by simp only; exact hrow2, by simp only; rw [drop_next hl]; exact hs⟩
      simp (maxSteps := 4000000) -implicitDefEqProofs [b49_0, SD, x_seq, x_cond, x_block, x_region, x_skip, x_exit, x_ret, head_id, runG, runOps, doOp, wantB, stepOp, AO.eff, pureOp, St.get, St.one, St.num, St.put, St.optNum, binA, binInt, List.take, List.drop, getAll, cellsAt, effOp2, effOp, stoRow, toCells, toCell, scalar_int, updAt, h9, h1, h1', h2, h4, h4', h5, h6, h7, h8, hj', hp, upd_upd]
      change _ = _
      kernel_rfl
theorem delF_spec (p : Int → Bool) : ∀ (r : List Int) (i : Nat) (row : List Int), i + r.length ≤ row.length →
    (delF p i row r).1 = i + (r.filter fun x => !p x).length ∧ (delF p i row r).2.length = row.length ∧ (delF p i row r).2.take (delF p i row r).1 = row.take i ++ r.filter fun x => !p x := by
  intro r
  induction r with
  | nil => intro i row h; simp [delF]
  | cons v r ih =>
    intro i row h
    simp only [List.length_cons] at h
    simp only [delF]
    cases hp : p v with
    | true =>
      simp only [if_true, List.filter_cons, hp, Bool.not_true, Bool.false_eq_true, if_false]
      exact ih i row (by omega)
    | false =>
      simp only [Bool.false_eq_true, if_false, List.filter_cons, hp, Bool.not_false, if_true, List.length_cons]
      obtain ⟨h1, h2, h3⟩ := ih (i + 1) (row.set i v) (by simp; omega)
      refine ⟨by omega, by rw [h2]; simp, ?_⟩
      rw [h3]
      have : (row.set i v).take (i + 1) = row.take i ++ [v] := by
        have hi : i < row.length := by omega
        have hl : (row.take i).length = i := by simp; omega
        rw [List.take_set, ← List.take_append_getElem hi, List.set_append_right _ _ (by omega), hl, Nat.sub_self, List.set_cons_zero]
      rw [this]
      simp
theorem fidx_split {p : Int → Bool} : ∀ {l : List Int} {i j : Nat}, fidx p i l = some j → i ≤ j ∧ ∃ y r, l.drop (j - i) = y :: r ∧ p y = true ∧ (l.filter fun x => !p x) = l.take (j - i) ++ r.filter fun x => !p x := by
  intro l
  induction l with
  | nil => intro i j h; cases h
  | cons y r ih =>
    intro i j h
    simp only [fidx] at h
    cases hp : p y with
    | true =>
      rw [if_pos hp] at h
      cases h
      exact ⟨Nat.le_refl _, y, r, by simp, hp, by simp [hp]⟩
    | false =>
      rw [if_neg (by simp [hp])] at h
      obtain ⟨h1, z, q, h2, h3, h4⟩ := ih h
      have e : j - i = (j - (i + 1)) + 1 := by omega
      refine ⟨by omega, z, q, by rw [e]; simpa using h2, h3, ?_⟩
      rw [e, List.take_succ_cons, List.filter_cons, hp, h4]
      simp
theorem fidx_all {p : Int → Bool} {l : List Int} (h : fidx p 0 l = none) : (l.filter fun x => !p x) = l := by
  have := fidx_none.1 h
  rw [List.any_eq_false] at this
  rw [List.filter_eq_self]
  intro x hx
  simp [this x hx]
theorem reps_ints {k : IntKind} {x : Int} : ∀ n, reps n [A1.int k x] = (List.replicate n x).map (A1.int k) := by
  intro n
  induction n with
  | zero => rfl
  | succ n ih => simp [reps, ih, List.replicate_succ]
theorem cells_rep {k : IntKind} {x : Int} {m : Mem} (n : Nat) : toCells m (List.replicate n (A1.int k x)) = some (cl k (List.replicate n x), m, []) := by
  have := cells_ints (k := k) (m := m) (List.replicate n x)
  rwa [List.map_replicate] at this
theorem t_Delete (l : List Int) (f : FuncId) (p : Int → Bool) (c : Nat) (hn : l.length ≤ 1048576) :
    ∃ (tail : List Int) (d : Nat), ∀ (t u : Nat) (C : Mem → Prop) (hf : LooksG f u C p c) (sl : List SV) (m : Mem) (up : List SV) (nx : Nat), m t = some (.row 1 (cl .i64 l)) → (∀ q, C (upd m t q)) →
      runThru (X tab) tab 49 [.v false [.sl t [] 0 l.length], .v false [.fn f [u]]] ⟨⟨sl, m, up⟩, nx⟩ = some (.v false [.sl t [] 0 (l.filter fun x => !p x).length], ⟨⟨sl, upd m t (some (.row 1 (cl .i64 ((l.filter fun x => !p x) ++ tail)))), up⟩, nx + d⟩) := by
  cases h : fidx p 0 l with
  | none =>
    refine ⟨[], 576 + dI c none, fun t u C hf sl m up nx ht hu => ?_⟩
    have h1 := fun sl up nx => t_IndexC l t u f C p c hf hn sl m up nx ht (by have := hu (some (.row 1 (cl .i64 l))); rwa [upd_self ht] at this)
    simp only [h] at h1
    rw [fidx_all h, List.append_nil, upd_self ht]
    unfold runThru
    simp (maxSteps := 4000000) -implicitDefEqProofs [tab49, a49, x_seq, x_cond, x_block, x_region, x_skip, x_exit, x_ret, head_id, runG, runOps, doOp, wantB, stepOp, AO.eff, pureOp, St.get, St.one, St.num, St.put, St.optNum, binA, binInt, List.take, List.drop, getAll, h1, resOf, resSV, Nat.add_assoc, dI]
  | some j =>
    obtain ⟨_, y, r, hd, hy, hF⟩ := fidx_split h
    rw [Nat.sub_zero] at hd hF
    have hj := drop_lt hd
    obtain ⟨s1, s2, s3⟩ := delF_spec p r j l (by have := congrArg List.length hd; simp at this; omega)
    have hdr : l.drop (j + 1) = r := drop_next hd
    have hk : (l.filter fun x => !p x).length = (delF p j l r).1 := by rw [hF, s1]; simp; omega
    have hk2 : (delF p j l r).1 ≤ l.length := by rw [← hk]; exact List.length_filter_le _ _
    refine ⟨List.replicate (l.length - (delF p j l r).1) 0, 1408 + dI c (some j), fun t u C hf sl m up nx ht hu => ?_⟩
    have h1 := fun sl up nx => t_IndexC l t u f C p c hf hn sl m up nx ht (by have := hu (some (.row 1 (cl .i64 l))); rwa [upd_self ht] at this)
    simp only [h] at h1
    have hlp := fun up nx x hx => loop_Delete l t u f C p c hf hn m up nx j hu hj (x := x) hx
    rw [hdr] at hlp
    rw [hk, hF, ← s3]
    have w1 : IntKind.i64.wrap ((j : Int) + 1) = ((j + 1 : Nat) : Int) := by rw [wrap_id (by omega) (by omega)]; omega
    have w2 : ((j : Int) == -1) = false := by rw [beq_eq_false_iff_ne]; omega
    generalize delF p j l r = q at *
    obtain ⟨qi, qr⟩ := q
    simp only at hk hk2 s2 hlp ⊢
    have z1 : (qi : Int) ≤ (l.length : Int) := by omega
    have z2 : ∀ q : Option Ob, upd m t q t = q := fun q => by simp [upd]
    unfold runThru
    simp (maxSteps := 4000000) -implicitDefEqProofs [tab49, a49, x_seq, x_cond, x_block, x_region, x_skip, x_exit, x_ret, head_id, runG, runOps, doOp, wantB, stepOp, AO.eff, pureOp, St.get, St.one, St.num, St.put, St.optNum, binA, binInt, List.take, List.drop, getAll, h1, w1, w2, -Int.natCast_add]
    rw [hlp (sl ++ up) (nx + 64 + 256 + dI c (some j) + 128 + 192) _ (by
      change _ = _
      rw [show SD t u f l.length m (sl ++ up) (nx + 64 + 256 + dI c (some j) + 128 + 192) (j, j + 1, l) = ⟨⟨[.v false [.sl t [] 0 l.length], .v false [.fn f [u]], .bad, .bad, .bad, .v false [.int .i64 (j)], .v false [.int .i64 ((j + 1 : Nat))], .bad, .bad, .bad, .bad, .bad, .bad, .bad, .bad, .bad, .bad, .bad, .bad, .bad, .bad, .bad, .bad, .bad, .bad, .bad, .bad, .bad, .bad, .bad, .bad, .bad, .bad, .bad, .bad, .bad, .bad, .bad, .bad, .bad, .bad, .bad], m, sl ++ up⟩, nx + 64 + 256 + dI c (some j) + 128 + 192⟩ by simp only [SD, upd_self ht]]
      kernel_rfl)]
    have z3 : ¬ (l.length - qi = 0) := by
      have e1 : (r.filter fun x => !p x).length ≤ r.length := List.length_filter_le _ _
      have e2 := congrArg List.length hd
      simp at e2 s1
      omega
    have z3' : 0 < l.length - qi := by omega
    have z4 : qi + (l.length - qi) = l.length := by omega
    have z5 : spl (cl .i64 (List.replicate (l.length - qi) 0)) qi (cl .i64 qr) = cl .i64 (qr.take qi ++ List.replicate (l.length - qi) 0) := by
      unfold spl
      rw [cl_take, cl_drop, cl_length, cl_app, cl_app, List.length_replicate, z4, ← s2, List.drop_length, List.append_nil]
    simp (maxSteps := 4000000) -implicitDefEqProofs [ZD, x_seq, x_cond, x_block, x_region, x_skip, x_exit, x_ret, head_id, runG, runOps, doOp, wantB, stepOp, AO.eff, pureOp, St.get, St.one, St.num, St.put, St.optNum, binA, binInt, List.take, List.drop, cutB, szOk, z1, z2, z3, z3', z4, z5, effOp2, clrSt, stoRow, cellsAt, reps_ints, cells_rep, scalar_int, updAt, cl_length, s2, upd_upd, resOf, resSV, Nat.add_assoc]
    omega

def onlyF (A B : List Int) : List Int := A.filter fun x => !decide (x ∈ B)
theorem only_next {B A : List Int} {i : Nat} {y : Int} (h : A[i]? = some y) : onlyF (A.take (i + 1)) B = if y ∈ B then onlyF (A.take i) B else onlyF (A.take i) B ++ [y] := by
  unfold onlyF
  rw [List.take_add_one, h, List.filter_append]
  by_cases hy : y ∈ B <;> simp [hy]
theorem only_le (A B : List Int) : (onlyF A B).length ≤ A.length := List.length_filter_le _ _
def S_sOnly (w : PWorld) (A : List Int) (b : Int) (i : Nat) (o : List Int) : XS := ⟨⟨[.bad, .bad, .v false [.int .i64 (b)], .v false [.pr 0 [] 0], .bad, .bad, .bad, .v false [.sl 1 [] 0 A.length], .v false [.sl 2 [] 0 o.length], .v false [.int .i64 (i)], .bad, .bad, .bad, .bad, .bad, .bad, .bad, .bad, .bad, .bad, .bad, .bad, .bad, .bad, .bad, .bad, .bad, .bad, .bad, .bad, .bad, .bad, .bad, .bad, .bad, .bad], memL [some (.box (worldA w)), some (.row 1 (cl .i64 A)), some (.row 1 (cl .i64 o))], []⟩, 3⟩
def R_sOnly (o : List Int) : Option (AE × XS) := some (.exit 0, ⟨⟨[.bad, .bad, .bad, .bad, .bad, .bad, .bad, .bad, .v false [.sl 0 [] 0 o.length], .bad, .bad, .bad, .bad, .bad, .bad, .bad, .bad, .bad, .bad, .bad, .bad, .bad, .bad, .bad, .bad, .bad, .bad, .bad, .bad, .bad, .bad, .bad, .bad, .bad, .bad, .bad], memL [some (.row 1 (cl .i64 o))], []⟩, 1⟩)
theorem loop_sOnly (w : PWorld) (hw : WfW w) (hs : SmW w) (A : List Int) (hA : A.length ≤ 1048576) (b : Int) (hb : I64 b) {x : XS} (hx : head true d26_0 x = S_sOnly w A b 0 []) : X tab l26_0 x = R_sOnly (onlyF A (chain w.log b)) := by
  refine loopN A.length (fun i => S_sOnly w A b i (onlyF (A.take i) (chain w.log b))) _ (by simp [R_sOnly]) (fun i hi => ?_) ?_ (Nat.zero_le _) hx
  · obtain ⟨y, r, hl⟩ : ∃ y r, A.drop i = y :: r := ⟨_, _, List.drop_eq_getElem_cons hi⟩
    have hy : A[i]? = some y := by
      have := congrArg (fun q : List Int => q[0]?) hl
      simpa using this
    have h1 : (0 ≤ (i : Int) ∧ (i : Int) < (A.length : Int)) := by omega
    have h2 := cl_read (k := .i64) hl 1 []
    have h4 : IntKind.i64.wrap ((i : Int) + 1) = ((i + 1 : Nat) : Int) := by rw [wrap_id (by omega) (by omega)]; omega
    have h5 := r_sWithin w hw hs y b hb
    have hle := only_le (A.take i) (chain w.log b)
    rw [List.length_take] at hle
    simp only [worldA] at h5
    simp only [only_next hy, S_sOnly, worldA]
    generalize onlyF (A.take i) (chain w.log b) = o at *
    have h6 : (o.length + 1) * 8 ≤ 140737488355328 := by omega
    have h7 : (cl .i64 o).length = o.length := cl_length
    by_cases hm : y ∈ chain w.log b
    · rw [decide_eq_true hm] at h5
      rw [if_pos hm]
      simp (maxSteps := 4000000) -implicitDefEqProofs [b26_0, x_seq, x_cond, x_block, x_region, x_skip, x_exit, x_ret, head_id, runG, runOps, doOp, wantB, stepOp, AO.eff, pureOp, St.get, St.one, St.num, St.put, St.optNum, binA, binInt, List.take, List.drop, gOp, gOp0, gOpL, gResL, updO, gRes, gEff, addObs_nil, addObs_one, freshB_memL, freshB_none, freshB_upd, freshB_addMem, freshB_addObs, callRO, addMem_nil, roArgs, roL, roA, srcCells, A1.ownB, addMem, shift, ren, SV.map, Ob.map, Ob.noRo, SV.noRo, A1.noRo, List.range, List.range.loop, effOp2, effOp, memL_app, stoRow, cellsAt, toCells, toCell, scalar_int, scalar_bool, scalar_str, scalar_sl, updAt, fromRo, upd, h1, h2, h4, h5, hi, -Int.natCast_add]
      change _ = _
      kernel_rfl
    · rw [decide_eq_false hm] at h5
      rw [if_neg hm]
      simp only [List.length_append, List.length_singleton, ← cl_app1]
      simp (maxSteps := 4000000) -implicitDefEqProofs [b26_0, x_seq, x_cond, x_block, x_region, x_skip, x_exit, x_ret, head_id, runG, runOps, doOp, wantB, stepOp, AO.eff, pureOp, St.get, St.one, St.num, St.put, St.optNum, binA, binInt, List.take, List.drop, gOp, gOp0, gOpL, gResL, updO, gRes, gEff, addObs_nil, addObs_one, freshB_memL, freshB_none, freshB_upd, freshB_addMem, freshB_addObs, callRO, addMem_nil, roArgs, roL, roA, srcCells, A1.ownB, addMem, shift, ren, SV.map, Ob.map, Ob.noRo, SV.noRo, A1.noRo, List.range, List.range.loop, effOp2, effOp, memL_app, stoRow, cellsAt, toCells, toCell, scalar_int, scalar_bool, scalar_str, scalar_sl, updAt, fromRo, upd, srcCells, A1.slB, flat_int, cl_flat', St.parts, Eng.inB, reps, fillA, newRowSt, appSt, oldOf, rest, kill, mapMem, SV.map, Ob.map, h1, h2, h4, h5, h6, h7, hi, -Int.natCast_add]
      change _ = _
      kernel_rfl
  · rw [List.take_length]
    simp (maxSteps := 4000000) -implicitDefEqProofs [b26_0, S_sOnly, worldA, x_seq, x_cond, x_block, x_region, x_skip, x_exit, x_ret, head_id, runG, runOps, doOp, wantB, stepOp, AO.eff, pureOp, St.get, St.one, St.num, St.put, St.optNum, binA, binInt, List.take, List.drop, effOp2, effOp, memL_app, stoRow, cellsAt, toCells, toCell, scalar_int, scalar_bool, scalar_str, scalar_sl, updAt, fromRo, upd, R_sOnly]
    change _ = _
    kernel_rfl
theorem r_sOnly (w : PWorld) (hw : WfW w) (hs : SmW w) (a b : Int) (ha : I64 a) (hb : I64 b) : runRO (X tab) tab 26 [.v true (worldA w), .v false [.int .i64 a], .v false [.int .i64 b]] = some (.v false [.sl 0 [] 0 (onlyF (chain w.log a) (chain w.log b)).length], [.row 1 (cl .i64 (onlyF (chain w.log a) (chain w.log b)))]) := by
  have q1 := r_sChain w hw hs a ha
  have hle := chain_le w.log a
  have hlog := hs.log
  have hlp := fun {x} => loop_sOnly w hw hs (chain w.log a) (by omega) b hb (x := x)
  generalize chain w.log a = A at *
  have hS : S_sOnly w A b 0 [] = ⟨⟨[.bad, .bad, .v false [.int .i64 (b)], .v false [.pr 0 [] 0], .bad, .bad, .bad, .v false [.sl 1 [] 0 A.length], .v false [.sl 2 [] 0 0], .v false [.int .i64 (0)], .bad, .bad, .bad, .bad, .bad, .bad, .bad, .bad, .bad, .bad, .bad, .bad, .bad, .bad, .bad, .bad, .bad, .bad, .bad, .bad, .bad, .bad, .bad, .bad, .bad, .bad], memL [some (.box (worldA w)), some (.row 1 (cl .i64 A)), some (.row 1 [])], []⟩, 3⟩ := rfl
  simp only [worldA] at q1 hS
  unfold runRO
  simp (maxSteps := 4000000) -implicitDefEqProofs [tab26, a26, x_seq, x_cond, x_block, x_region, x_skip, x_exit, x_ret, head_id, runG, runOps, doOp, wantB, stepOp, AO.eff, pureOp, St.get, St.one, St.num, St.put, St.optNum, binA, binInt, List.take, List.drop, effOp2, effOp, memL_app, stoRow, cellsAt, toCells, toCell, scalar_int, scalar_bool, scalar_str, scalar_sl, updAt, fromRo, upd, callRO, addMem_nil, roArgs, roL, roA, srcCells, A1.ownB, addMem, shift, ren, SV.map, Ob.map, Ob.noRo, SV.noRo, A1.noRo, List.range, List.range.loop, srcCells, A1.slB, flat_int, cl_flat', St.parts, Eng.inB, reps, fillA, newRowSt, appSt, oldOf, rest, kill, mapMem, SV.map, Ob.map, worldA, q1]
  rw [hlp (by rw [hS]; change _ = _; kernel_rfl)]
  simp (maxSteps := 4000000) -implicitDefEqProofs [R_sOnly, x_seq, x_cond, x_block, x_region, x_skip, x_exit, x_ret, head_id, runG, runOps, doOp, wantB, stepOp, AO.eff, pureOp, St.get, St.one, St.num, St.put, St.optNum, binA, binInt, List.take, List.drop, resOf, resSV, SV.map, SV.ids, A1.ids, reach, allObs, ren, pos, Ob.map, St.canon, memL, List.range, List.range.loop]
theorem f_Only (B : List Int) (hB : B.length ≤ 1048576) (u r : Nat) : LooksG 50 u (fun m => m u = some (.box [.sl r [] 0 B.length]) ∧ m r = some (.row 1 (cl .i64 B))) (fun y => decide (y ∈ B)) 320 := by
  intro y sl m up nx ⟨hm, hr⟩
  have h5 := r_Contains B y hB
  have h6 : (cl .i64 B).take B.length = cl .i64 B := cl_self
  have h7 : (cl .i64 B).length = B.length := cl_length
  unfold runThru
  simp (maxSteps := 4000000) -implicitDefEqProofs [tab50, a50, x_seq, x_cond, x_block, x_region, x_skip, x_exit, x_ret, head_id, runG, runOps, doOp, wantB, stepOp, AO.eff, pureOp, St.get, St.one, St.num, St.put, St.optNum, binA, binInt, List.take, List.drop, callRO, addMem_nil, roArgs, roL, roA, srcCells, A1.ownB, addMem, shift, ren, SV.map, Ob.map, Ob.noRo, SV.noRo, A1.noRo, List.range, List.range.loop, hm, hr, h5, h6, h7, cellsAt, resOf, resSV]
theorem r_Only (w : PWorld) (hw : WfW w) (hs : SmW w) (a b : Int) (ha : I64 a) (hb : I64 b) : ∃ tail, runRO (X tab) tab 27 [.v true (worldA w), .v false [.int .i64 a], .v false [.int .i64 b]] = some (.v false [.sl 0 [] 0 (onlyF (chain w.log a) (chain w.log b)).length], [.row 1 (cl .i64 (onlyF (chain w.log a) (chain w.log b) ++ tail))]) := by
  have q1 := r_Chain w hw hs a ha
  have q2 := r_Chain w hw hs b hb
  have hle := chain_le w.log a
  have hle2 := chain_le w.log b
  have hlog := hs.log
  obtain ⟨tail, d, h⟩ := t_Delete (chain w.log a) 50 (fun y => decide (y ∈ chain w.log b)) 320 (by omega)
  refine ⟨tail, ?_⟩
  have hf := fun u r => f_Only (chain w.log b) (by omega) u r
  have hd := fun t u C hf sl m up nx ht hu => h t u C hf sl m up nx ht hu
  generalize chain w.log a = A at *
  generalize chain w.log b = B at *
  have h' : ∀ (t u r : Nat) (sl : List SV) (m : Mem) (up : List SV) (nx : Nat), m t = some (.row 1 (cl .i64 A)) → u ≠ t → r ≠ t → m u = some (.box [.sl r [] 0 B.length]) → m r = some (.row 1 (cl .i64 B)) → runThru (X tab) tab 49 [.v false [.sl t [] 0 A.length], .v false [.fn 50 [u]]] ⟨⟨sl, m, up⟩, nx⟩ = some (.v false [.sl t [] 0 (onlyF A B).length], ⟨⟨sl, upd m t (some (.row 1 (cl .i64 (onlyF A B ++ tail)))), up⟩, nx + d⟩) := fun t u r sl m up nx ht h1 h2 h3 h4 =>
    h t u _ (hf u r) sl m up nx ht fun q => ⟨by simp only [upd]; rw [if_neg h1]; exact h3, by simp only [upd]; rw [if_neg h2]; exact h4⟩
  clear h hf hd
  generalize onlyF A B ++ tail = W at *
  generalize onlyF A B = V at *
  simp only [worldA] at q1 q2
  unfold runRO
  have h2 := fun t u sl m up nx => h' t u 256 sl m up nx
  simp (maxSteps := 4000000) -implicitDefEqProofs [tab27, a27, x_seq, x_cond, x_block, x_region, x_skip, x_exit, x_ret, head_id, runG, runOps, doOp, wantB, stepOp, AO.eff, pureOp, St.get, St.one, St.num, St.put, St.optNum, binA, binInt, List.take, List.drop, effOp2, effOp, memL_app, stoRow, cellsAt, toCells, toCell, scalar_int, scalar_bool, scalar_str, scalar_sl, updAt, fromRo, upd, callRO, addMem_nil, roArgs, roL, roA, srcCells, A1.ownB, addMem, shift, ren, SV.map, Ob.map, Ob.noRo, SV.noRo, A1.noRo, List.range, List.range.loop, resOf, resSV, SV.map, SV.ids, A1.ids, reach, allObs, ren, pos, Ob.map, St.canon, memL, List.range, List.range.loop, spl, getAll, St.boxes, boxOf, worldA, q1, q2, h2]

/-! Marks in the first part of a row. -/
def S_mkT (t n : Nat) (c0 : List Cell) (k : Int) (m : Mem) (up : List SV) (nx : Nat) (i : Nat) : XS := ⟨⟨[.v false [.sl t [] 0 n], .v false [.int .i64 ((k + i))], .bad, .bad, .bad, .v false [.int .i64 (i)], .bad, .bad, .bad, .bad, .bad, .bad, .bad, .bad, .bad, .bad, .bad, .bad, .bad], upd m t (some (.row 1 (mcF mfI k i ++ c0.drop i))), up⟩, nx⟩
def Z_mkT (t n : Nat) (c0 : List Cell) (k : Int) (m : Mem) (up : List SV) (nx : Nat) : XS := ⟨⟨[.bad, .v false [.int .i64 ((k + n))], .bad, .bad, .bad, .bad, .bad, .bad, .bad, .bad, .bad, .bad, .bad, .bad, .bad, .bad, .bad, .bad, .bad], upd m t (some (.row 1 (mcF mfI k n ++ c0.drop n))), up⟩, nx + 256⟩
theorem loop_mkT (t n : Nat) (c0 : List Cell) (k : Int) (m : Mem) (up : List SV) (nx : Nat) (hc : n ≤ c0.length) (hk : 0 ≤ k) (hk2 : k ≤ 1000000000) (hn : n ≤ 1048576) {x : XS} (hx : head false d24_0 x = S_mkT t n c0 k m up nx 0) : X tab l24_0 x = some (.exit 0, Z_mkT t n c0 k m up nx) := by
  refine loopF n (S_mkT t n c0 k m up nx) _ (by simp) (fun i hi => ?_) ?_ (Nat.zero_le _) hx
  · have h1 : (0 ≤ (i : Int) ∧ (i : Int) < (n : Int)) := by omega
    have h4 : IntKind.i64.wrap ((i : Int) + 1) = ((i + 1 : Nat) : Int) := by rw [wrap_id (by omega) (by omega)]; omega
    have h5 : IntKind.i64.wrap (k + (i : Int) + 1) = k + ((i + 1 : Nat) : Int) := by rw [wrap_id (by omega) (by omega)]; omega
    have h8 : i + 1 ≤ (mcF mfI k i ++ c0.drop i).length := by rw [List.length_append, mcF_len, List.length_drop]; omega
    have h9 : spl [mfI (k + i)] i (mcF mfI k i ++ c0.drop i) = mcF mfI k (i + 1) ++ c0.drop (i + 1) := mcF_next (by omega)
    simp only [S_mkT]
    simp only [mfI] at h9
    generalize mcF mfI k (i + 1) ++ c0.drop (i + 1) = q' at *
    generalize mcF mfI k i ++ c0.drop i = q at *
    simp (maxSteps := 4000000) -implicitDefEqProofs [b24_0, x_seq, x_cond, x_block, x_region, x_skip, x_exit, x_ret, head_id, runG, runOps, doOp, wantB, stepOp, AO.eff, pureOp, St.get, St.one, St.num, St.put, St.optNum, binA, binInt, List.take, List.drop, effOp2, effOp, memL_app, stoRow, toCells, toCell, scalar_int, scalar_bool, cellsAt, updAt, upd_same, upd_upd, h1, h4, h5, h8, h9, hi, -Int.natCast_add]
    change _ = _
    kernel_rfl
  · simp only [S_mkT]
    simp (maxSteps := 4000000) -implicitDefEqProofs [b24_0, x_seq, x_cond, x_block, x_region, x_skip, x_exit, x_ret, head_id, runG, runOps, doOp, wantB, stepOp, AO.eff, pureOp, St.get, St.one, St.num, St.put, St.optNum, binA, binInt, List.take, List.drop]
    change _ = _
    kernel_rfl
theorem t_mkT (t n : Nat) (c0 : List Cell) (k : Int) (sl : List SV) (m : Mem) (up : List SV) (nx : Nat) (hm : m t = some (.row 1 c0)) (hc : n ≤ c0.length) (hk : 0 ≤ k) (hk2 : k ≤ 1000000000) (hn : n ≤ 1048576) :
    runThru (X tab) tab 24 [.v false [.sl t [] 0 n], .v false [.int .i64 k]] ⟨⟨sl, m, up⟩, nx⟩ = some (.v false [.int .i64 (k + n)], ⟨⟨sl, upd m t (some (.row 1 (mcF mfI k n ++ c0.drop n))), up⟩, nx + 512⟩) := by
  unfold runThru
  simp (maxSteps := 4000000) -implicitDefEqProofs [tab24, a24, x_seq, x_cond, x_block, x_region, x_skip, x_exit, x_ret, head_id, runG, runOps, doOp, wantB, stepOp, AO.eff, pureOp, St.get, St.one, St.num, St.put, St.optNum, binA, binInt, List.take, List.drop]
  rw [loop_mkT t n c0 k m (sl ++ up) (nx + 128) hc hk hk2 hn (by
    have e : mcF mfI k 0 ++ c0.drop 0 = c0 := rfl
    simp only [S_mkT, e, upd_self hm, Int.ofNat_zero, Int.add_zero]
    change _ = _
    kernel_rfl)]
  simp (maxSteps := 4000000) -implicitDefEqProofs [Z_mkT, x_seq, x_cond, x_block, x_region, x_skip, x_exit, x_ret, head_id, runG, runOps, doOp, wantB, stepOp, AO.eff, pureOp, St.get, St.one, St.num, St.put, St.optNum, binA, binInt, List.take, List.drop, resOf, resSV]
theorem mcF_marks {k : Int} {n : Nat} (hk : 0 ≤ k) (hk2 : k ≤ 1000000000) (hn : n ≤ 1048576) : mcF mfI k n = cl .i64 (marks_i64 k n) := by
  unfold mcF marks_i64 cl mfI
  rw [List.map_map]
  apply List.map_congr_left
  intro i hi
  have := List.mem_range.1 hi
  simp only [Function.comp, mfI]
  rw [wrap_id (by omega) (by omega)]
theorem law_FnExactOnly (w : PWorld) (hw : WfW w) (a : Int) (ha : I64 a) (b : Int) (hb : I64 b) : runRO (X tab) tab 8 [.v true (worldA w), .v false [.int .i64 a], .v false [.int .i64 b]] = some (.v false [.bool true], []) := by
  have q0 : runRO (X tab) tab 9 [.v true (worldA w), .v false [.int .i64 1048576]] = some (.v false [.int .i64 (szT 1048576 (totW w))], []) := r_szWorld w hw 1048576 (by omega) (by omega)
  by_cases ht : (1048576 : Int) < (totW w : Int)
  · rw [szT_neg ht] at q0
    simp only [worldA] at q0
    unfold runRO
    simp (maxSteps := 4000000) -implicitDefEqProofs [tab8, a8, x_seq, x_cond, x_block, x_region, x_skip, x_exit, x_ret, head_id, runG, runOps, doOp, wantB, stepOp, AO.eff, pureOp, St.get, St.one, St.num, St.put, St.optNum, binA, binInt, List.take, List.drop, effOp2, effOp, memL_app, stoRow, cellsAt, toCells, toCell, scalar_int, scalar_bool, scalar_str, scalar_sl, updAt, fromRo, upd, callRO, addMem_nil, roArgs, roL, roA, srcCells, A1.ownB, addMem, shift, ren, SV.map, Ob.map, Ob.noRo, SV.noRo, A1.noRo, List.range, List.range.loop, resOf, resSV, SV.map, SV.ids, A1.ids, reach, allObs, ren, pos, Ob.map, St.canon, memL, List.range, List.range.loop, worldA, q0]
  · rw [szT_pos ht] at q0
    have hs := smW w (by omega)
    have q1 := r_toWorld w hs
    have g1 := r_sOnly w hw hs a b ha hb
    obtain ⟨tail, g2⟩ := r_Only w hw hs a b ha hb
    have q2 := r_eqWorld w hs
    have h0 : ¬ (1048576 : Int) - (totW w : Int) < 0 := by omega
    have hkw := kW_bound w (by omega)
    have hk0 : ¬ kW 1 w < 0 := by omega
    have t1 := nodesC_self w.nodes
    have t2 := wiresC_self w.net
    have t3 := recsC_self w.log
    have t4 : (cl .i64 w.safe).take w.safe.length = cl .i64 w.safe := cl_self
    have l1 := nodesC_len w.nodes
    have l2 := wiresC_len w.net
    have l3 := recsC_len w.log
    have l4 : (cl .i64 w.safe).length = w.safe.length := cl_length
    have hle := only_le (chain w.log a) (chain w.log b)
    have hle2 := chain_le w.log a
    have hlog := hs.log
    generalize onlyF (chain w.log a) (chain w.log b) = v at *
    have e1 := eqIntS v (by omega)
    have m1 := fun sl m up nx tn tx tl ts g hn hx hl hsa d1 d2 d3 d4 d5 d6 h0 => t_markWorld w hs 1 (by omega) hkw.2 tn tx tl ts g sl m up nx hn hx hl hsa d1 d2 d3 d4 d5 d6 h0
    have m2 := fun t sl m up nx hm => t_mkT t v.length (cl .i64 (v ++ tail)) 1 sl m up nx hm (by rw [cl_length, List.length_append]; omega) (by omega) (by omega) (by omega)
    have m3 := heldIntS v.length 1 (by omega) (by omega) (by omega)
    rw [← mcF_marks (by omega) (by omega) (by omega)] at m3
    have v1 : (cl .i64 (v ++ tail)).take v.length = cl .i64 v := by rw [← cl_app, List.take_append_of_le_length (by rw [cl_length]; exact Nat.le_refl _), cl_self]
    have v2 : v.length ≤ (cl .i64 (v ++ tail)).length := by rw [cl_length, List.length_append]; omega
    have v1' : (cl .i64 v).take v.length = cl .i64 v := cl_self
    have v2' : (cl .i64 v).length = v.length := cl_length
    have v3 : (mcF mfI 1 v.length ++ (cl .i64 (v ++ tail)).drop v.length).take v.length = mcF mfI 1 v.length := by
      rw [List.take_append_of_le_length (by rw [mcF_len]; exact Nat.le_refl _), List.take_of_length_le (by rw [mcF_len]; exact Nat.le_refl _)]
    have v4 : v.length ≤ (mcF mfI 1 v.length ++ (cl .i64 (v ++ tail)).drop v.length).length := by rw [List.length_append, mcF_len]; omega
    have v5 : ¬ (1 : Int) + (v.length : Int) < 0 := by omega
    generalize mcF mfI 1 v.length ++ (cl .i64 (v ++ tail)).drop v.length = R2 at *
    generalize cl .i64 (v ++ tail) = R1 at *
    generalize mcF mfI 1 v.length = R3 at *
    generalize (1048576 : Int) - (totW w : Int) = left at *
    generalize kW 1 w = kw at *
    simp only [worldA, worldR, worldO] at q0 q1 q2 g1 g2
    unfold runRO
    simp (maxSteps := 4000000) -implicitDefEqProofs [tab8, a8, x_seq, x_cond, x_block, x_region, x_skip, x_exit, x_ret, head_id, runG, runOps, doOp, wantB, stepOp, AO.eff, pureOp, St.get, St.one, St.num, St.put, St.optNum, binA, binInt, List.take, List.drop, effOp2, effOp, memL_app, stoRow, cellsAt, toCells, toCell, scalar_int, scalar_bool, scalar_str, scalar_sl, updAt, fromRo, upd, gOp, gOp0, gOpL, gResL, updO, gRes, gEff, addObs_nil, addObs_one, freshB_memL, freshB_none, freshB_upd, freshB_addMem, freshB_addObs, callRO, addMem_nil, roArgs, roL, roA, srcCells, A1.ownB, addMem, shift, ren, SV.map, Ob.map, Ob.noRo, SV.noRo, A1.noRo, List.range, List.range.loop, resOf, resSV, SV.map, SV.ids, A1.ids, reach, allObs, ren, pos, Ob.map, St.canon, memL, List.range, List.range.loop, addObs_app, getAll, spl, cellsAt, memW, worldA, q0, q1, q2, g1, g2, e1, m1, m2, m3, v1, v2, v1', v2', v3, v4, v5, h0, hk0, t1, t2, t3, t4, l1, l2, l3, l4]
end Go.Proofs.Ytbdokibepndibaa.Eng.B
