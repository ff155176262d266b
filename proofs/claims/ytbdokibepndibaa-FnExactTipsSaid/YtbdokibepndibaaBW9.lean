/- The laws' own functions over worlds, ninth part: the size of a world. -/
import Derived.Test.YtbdokibepndibaaBW1g
namespace Go.Proofs.Ytbdokibepndibaa.Eng.B
set_option linter.unusedSimpArgs false
set_option linter.unusedVariables false
set_option maxHeartbeats 8000000
set_option maxRecDepth 100000
open Go.RowKit Go.Proofs

theorem r_szWorld (x : PWorld) (hz : WfW x) (left : Int) (h0 : 0 ≤ left) (h1 : left ≤ 1048576) : runRO (X tab) tab 9 [.v true (worldA x), .v false [.int .i64 left]] = some (.v false [.int .i64 (szT left (x.nodes.length + (x.nodes.map totN).sum + (x.net.length + (x.net.map totX).sum + (x.log.length + (x.safe.length)))))], []) := by
  unfold runRO
  have q1 := r_szNodeS x.nodes hz.sN hz.szN (left) (by omega) (by omega)
  by_cases c1 : left < ((x.nodes.length + (x.nodes.map totN).sum : Nat) : Int)
  · rw [szT_neg c1] at q1
    rw [szT_neg (show left < ((x.nodes.length + (x.nodes.map totN).sum + (x.net.length + (x.net.map totX).sum + (x.log.length + (x.safe.length))) : Nat) : Int) by omega)]
    simp only [worldA] at *
    simp (maxSteps := 4000000) -implicitDefEqProofs [tab9, a9, x_seq, x_cond, x_block, x_region, x_skip, x_exit, x_ret, head_id, runG, runOps, doOp, wantB, stepOp, AO.eff, pureOp, St.get, St.one, St.num, St.put, St.optNum, binA, binInt, List.take, List.drop, effOp2, effOp, memL_app, stoRow, cellsAt, toCells, toCell, scalar_int, scalar_bool, scalar_str, scalar_sl, updAt, fromRo, upd, callRO, addMem_nil, roArgs, roL, roA, srcCells, A1.ownB, addMem, shift, ren, SV.map, Ob.map, Ob.noRo, SV.noRo, A1.noRo, List.range, List.range.loop, resOf, resSV, SV.map, SV.ids, A1.ids, reach, allObs, ren, pos, Ob.map, St.canon, memL, List.range, List.range.loop, q1, -Int.natCast_add]
  · rw [szT_pos c1] at q1
    have n1 : ¬ left - ((x.nodes.length + (x.nodes.map totN).sum : Nat) : Int) < 0 := by omega
    rw [← szT_add c1]
    have q2 := r_szWireS x.net hz.sX hz.szX (left - ((x.nodes.length + (x.nodes.map totN).sum : Nat) : Int)) (by omega) (by omega)
    by_cases c2 : left - ((x.nodes.length + (x.nodes.map totN).sum : Nat) : Int) < ((x.net.length + (x.net.map totX).sum : Nat) : Int)
    · rw [szT_neg c2] at q2
      rw [szT_neg (show left - ((x.nodes.length + (x.nodes.map totN).sum : Nat) : Int) < ((x.net.length + (x.net.map totX).sum + (x.log.length + (x.safe.length)) : Nat) : Int) by omega)]
      simp only [worldA] at *
      simp (maxSteps := 4000000) -implicitDefEqProofs [tab9, a9, x_seq, x_cond, x_block, x_region, x_skip, x_exit, x_ret, head_id, runG, runOps, doOp, wantB, stepOp, AO.eff, pureOp, St.get, St.one, St.num, St.put, St.optNum, binA, binInt, List.take, List.drop, effOp2, effOp, memL_app, stoRow, cellsAt, toCells, toCell, scalar_int, scalar_bool, scalar_str, scalar_sl, updAt, fromRo, upd, callRO, addMem_nil, roArgs, roL, roA, srcCells, A1.ownB, addMem, shift, ren, SV.map, Ob.map, Ob.noRo, SV.noRo, A1.noRo, List.range, List.range.loop, resOf, resSV, SV.map, SV.ids, A1.ids, reach, allObs, ren, pos, Ob.map, St.canon, memL, List.range, List.range.loop, q1, n1, q2, -Int.natCast_add]
    · rw [szT_pos c2] at q2
      have n2 : ¬ left - ((x.nodes.length + (x.nodes.map totN).sum : Nat) : Int) - ((x.net.length + (x.net.map totX).sum : Nat) : Int) < 0 := by omega
      rw [← szT_add c2]
      have q3 := r_szRecS x.log.length (recsC x.log) (left - ((x.nodes.length + (x.nodes.map totN).sum : Nat) : Int) - ((x.net.length + (x.net.map totX).sum : Nat) : Int)) (by omega) (by omega) (by have := hz.sL; simp only [Sz, maxLen] at this; omega)
      by_cases c3 : left - ((x.nodes.length + (x.nodes.map totN).sum : Nat) : Int) - ((x.net.length + (x.net.map totX).sum : Nat) : Int) < ((x.log.length : Nat) : Int)
      · rw [szT_neg c3] at q3
        rw [szT_neg (show left - ((x.nodes.length + (x.nodes.map totN).sum : Nat) : Int) - ((x.net.length + (x.net.map totX).sum : Nat) : Int) < ((x.log.length + (x.safe.length) : Nat) : Int) by omega)]
        simp only [worldA] at *
        simp (maxSteps := 4000000) -implicitDefEqProofs [tab9, a9, x_seq, x_cond, x_block, x_region, x_skip, x_exit, x_ret, head_id, runG, runOps, doOp, wantB, stepOp, AO.eff, pureOp, St.get, St.one, St.num, St.put, St.optNum, binA, binInt, List.take, List.drop, effOp2, effOp, memL_app, stoRow, cellsAt, toCells, toCell, scalar_int, scalar_bool, scalar_str, scalar_sl, updAt, fromRo, upd, callRO, addMem_nil, roArgs, roL, roA, srcCells, A1.ownB, addMem, shift, ren, SV.map, Ob.map, Ob.noRo, SV.noRo, A1.noRo, List.range, List.range.loop, resOf, resSV, SV.map, SV.ids, A1.ids, reach, allObs, ren, pos, Ob.map, St.canon, memL, List.range, List.range.loop, q1, n1, q2, n2, q3, -Int.natCast_add]
      · rw [szT_pos c3] at q3
        have n3 : ¬ left - ((x.nodes.length + (x.nodes.map totN).sum : Nat) : Int) - ((x.net.length + (x.net.map totX).sum : Nat) : Int) - ((x.log.length : Nat) : Int) < 0 := by omega
        rw [← szT_add c3]
        have q4 := r_szIntS x.safe.length (cl .i64 x.safe) (left - ((x.nodes.length + (x.nodes.map totN).sum : Nat) : Int) - ((x.net.length + (x.net.map totX).sum : Nat) : Int) - ((x.log.length : Nat) : Int)) (by omega) (by omega) (by have := hz.sS; simp only [Sz, maxLen] at this; omega)
        by_cases c4 : left - ((x.nodes.length + (x.nodes.map totN).sum : Nat) : Int) - ((x.net.length + (x.net.map totX).sum : Nat) : Int) - ((x.log.length : Nat) : Int) < ((x.safe.length : Nat) : Int)
        · rw [szT_neg c4] at q4
          rw [szT_neg (show left - ((x.nodes.length + (x.nodes.map totN).sum : Nat) : Int) - ((x.net.length + (x.net.map totX).sum : Nat) : Int) - ((x.log.length : Nat) : Int) < ((x.safe.length : Nat) : Int) by omega)]
          simp only [worldA] at *
          simp (maxSteps := 4000000) -implicitDefEqProofs [tab9, a9, x_seq, x_cond, x_block, x_region, x_skip, x_exit, x_ret, head_id, runG, runOps, doOp, wantB, stepOp, AO.eff, pureOp, St.get, St.one, St.num, St.put, St.optNum, binA, binInt, List.take, List.drop, effOp2, effOp, memL_app, stoRow, cellsAt, toCells, toCell, scalar_int, scalar_bool, scalar_str, scalar_sl, updAt, fromRo, upd, callRO, addMem_nil, roArgs, roL, roA, srcCells, A1.ownB, addMem, shift, ren, SV.map, Ob.map, Ob.noRo, SV.noRo, A1.noRo, List.range, List.range.loop, resOf, resSV, SV.map, SV.ids, A1.ids, reach, allObs, ren, pos, Ob.map, St.canon, memL, List.range, List.range.loop, q1, n1, q2, n2, q3, n3, q4, -Int.natCast_add]
        · rw [szT_pos c4] at q4
          have n4 : ¬ left - ((x.nodes.length + (x.nodes.map totN).sum : Nat) : Int) - ((x.net.length + (x.net.map totX).sum : Nat) : Int) - ((x.log.length : Nat) : Int) - ((x.safe.length : Nat) : Int) < 0 := by omega
          rw [szT_pos c4]
          simp only [worldA] at *
          simp (maxSteps := 4000000) -implicitDefEqProofs [tab9, a9, x_seq, x_cond, x_block, x_region, x_skip, x_exit, x_ret, head_id, runG, runOps, doOp, wantB, stepOp, AO.eff, pureOp, St.get, St.one, St.num, St.put, St.optNum, binA, binInt, List.take, List.drop, effOp2, effOp, memL_app, stoRow, cellsAt, toCells, toCell, scalar_int, scalar_bool, scalar_str, scalar_sl, updAt, fromRo, upd, callRO, addMem_nil, roArgs, roL, roA, srcCells, A1.ownB, addMem, shift, ren, SV.map, Ob.map, Ob.noRo, SV.noRo, A1.noRo, List.range, List.range.loop, resOf, resSV, SV.map, SV.ids, A1.ids, reach, allObs, ren, pos, Ob.map, St.canon, memL, List.range, List.range.loop, q1, n1, q2, n2, q3, n3, q4, n4, -Int.natCast_add]
end Go.Proofs.Ytbdokibepndibaa.Eng.B
