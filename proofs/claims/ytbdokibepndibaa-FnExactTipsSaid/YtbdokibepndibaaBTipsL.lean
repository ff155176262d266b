/- The law of Tips. -/
import Derived.Test.YtbdokibepndibaaBTips
import Derived.Test.YtbdokibepndibaaBW9
namespace Go.Proofs.Ytbdokibepndibaa.Eng.B
set_option linter.unusedSimpArgs false
set_option linter.unusedVariables false
set_option maxHeartbeats 16000000
set_option maxRecDepth 100000
open Go.RowKit Go.Proofs

theorem kW_bound (w : PWorld) (h : totW w ≤ 1048576) : 0 ≤ kW 1 w ∧ kW 1 w ≤ 1000000000 := by
  unfold kW kL
  have h1 : (w.nodes.map cN).sum ≤ (w.nodes.map totN).sum + w.nodes.length * 7 := sum_le fun n hn => by unfold cN totN; omega
  have h2 : (w.net.map cWire).sum ≤ (w.net.map totX).sum + w.net.length * 2 := sum_le fun n hn => by unfold cWire totX; omega
  have h3 : (w.log.map cRec).sum ≤ (w.log.map fun _ => 0).sum + w.log.length * 2 := sum_le fun n hn => by unfold cRec; omega
  have h4 : (w.log.map fun _ => 0).sum = 0 := by
    induction w.log with
    | nil => rfl
    | cons x r ih => simpa using ih
  have hs := smW w h
  have e1 := hs.nodes
  have e2 := hs.net
  have e3 := hs.log
  have e4 := hs.safe
  unfold totW at h
  constructor
  · omega
  · omega
theorem law_FnExactTips (w : PWorld) (hw : WfW w)  : runRO (X tab) tab 7 [.v true (worldA w)] = some (.v false [.bool true], []) := by
  have q0 : runRO (X tab) tab 9 [.v true (worldA w), .v false [.int .i64 1048576]] = some (.v false [.int .i64 (szT 1048576 (totW w))], []) := r_szWorld w hw 1048576 (by omega) (by omega)
  by_cases ht : (1048576 : Int) < (totW w : Int)
  · rw [szT_neg ht] at q0
    simp only [worldA] at q0
    unfold runRO
    simp (maxSteps := 4000000) -implicitDefEqProofs [tab7, a7, x_seq, x_cond, x_block, x_region, x_skip, x_exit, x_ret, head_id, runG, runOps, doOp, wantB, stepOp, AO.eff, pureOp, St.get, St.one, St.num, St.put, St.optNum, binA, binInt, List.take, List.drop, effOp2, effOp, memL_app, stoRow, cellsAt, toCells, toCell, scalar_int, scalar_bool, scalar_str, scalar_sl, updAt, fromRo, upd, callRO, addMem_nil, roArgs, roL, roA, srcCells, A1.ownB, addMem, shift, ren, SV.map, Ob.map, Ob.noRo, SV.noRo, A1.noRo, List.range, List.range.loop, resOf, resSV, SV.map, SV.ids, A1.ids, reach, allObs, ren, pos, Ob.map, St.canon, memL, List.range, List.range.loop, worldA, q0]
  · rw [szT_pos ht] at q0
    have hs := smW w (by omega)
    have q1 := r_toWorld w hs
    have g1 := r_sTips w hs
    have g2 := r_Tips w hs
    have q2 := r_eqWorld w hs
    have h0 : ¬ (1048576 : Int) - (totW w : Int) < 0 := by omega
    have hkw := kW_bound w (by omega)
    have hk0 : ¬ kW 1 w < 0 := by omega
    have t1 := nodesC_self w.nodes
    have t2 := wiresC_self w.net
    have t3 := recsC_self w.log
    have t4 : (cl .i64 w.safe).take w.safe.length = cl .i64 w.safe := cl_self
    have l1 := nodesC_len w.nodes
    have l2 := wiresC_len w.net
    have l3 := recsC_len w.log
    have l4 : (cl .i64 w.safe).length = w.safe.length := cl_length
    have hle := show (tips w.log).length ≤ w.log.length from tips_le w.log w.log.length
    have hlog := hs.log
    have e1 := eqIntS (tips w.log) (by omega)
    have m1 := fun sl m up nx tn tx tl ts g hn hx hl hsa d1 d2 d3 d4 d5 d6 h0 => t_markWorld w hs 1 (by omega) hkw.2 tn tx tl ts g sl m up nx hn hx hl hsa d1 d2 d3 d4 d5 d6 h0
    have m2 := fun t sl m up nx hm => markIntS t (tips w.log).length (tips w.log) 1 sl m up nx hm rfl (by omega) (by omega) (by omega)
    have m3 := heldIntS (tips w.log).length 1 (by omega) (by omega) (by omega)
    have v1 : (cl .i64 (tips w.log)).take (tips w.log).length = cl .i64 (tips w.log) := cl_self
    have v2 : (cl .i64 (tips w.log)).length = (tips w.log).length := cl_length
    have v3 : (cl .i64 (marks_i64 1 (tips w.log).length)).take (tips w.log).length = cl .i64 (marks_i64 1 (tips w.log).length) := by rw [List.take_of_length_le]; simp [cl_length, marks_i64]
    have v4 : (cl .i64 (marks_i64 1 (tips w.log).length)).length = (tips w.log).length := by simp [cl_length, marks_i64]
    have v5 : ¬ (1 : Int) + ((tips w.log).length : Int) < 0 := by omega
    generalize tips w.log = v at *
    generalize (1048576 : Int) - (totW w : Int) = left at *
    generalize kW 1 w = kw at *
    simp only [worldA, worldR, worldO] at q0 q1 q2 g1 g2
    unfold runRO
    simp (maxSteps := 4000000) -implicitDefEqProofs [tab7, a7, x_seq, x_cond, x_block, x_region, x_skip, x_exit, x_ret, head_id, runG, runOps, doOp, wantB, stepOp, AO.eff, pureOp, St.get, St.one, St.num, St.put, St.optNum, binA, binInt, List.take, List.drop, effOp2, effOp, memL_app, stoRow, cellsAt, toCells, toCell, scalar_int, scalar_bool, scalar_str, scalar_sl, updAt, fromRo, upd, gOp, gOp0, gOpL, gResL, updO, gRes, gEff, addObs_nil, addObs_one, freshB_memL, freshB_none, freshB_upd, freshB_addMem, freshB_addObs, callRO, addMem_nil, roArgs, roL, roA, srcCells, A1.ownB, addMem, shift, ren, SV.map, Ob.map, Ob.noRo, SV.noRo, A1.noRo, List.range, List.range.loop, resOf, resSV, SV.map, SV.ids, A1.ids, reach, allObs, ren, pos, Ob.map, St.canon, memL, List.range, List.range.loop, addObs_app, getAll, spl, cellsAt, memW, worldA, q0, q1, q2, g1, g2, e1, m1, m2, m3, v1, v2, v3, v4, v5, h0, hk0, t1, t2, t3, t4, l1, l2, l3, l4]
end Go.Proofs.Ytbdokibepndibaa.Eng.B
