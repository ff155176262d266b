/- Drawn marks are read from their bytes, and their runs, as they were: the law. -/
import Derived.Test.YtdagbeihjobmjaaBDraw8
import Derived.Test.YtdagbeihjobmjaaBSameG
namespace Go.Proofs.Ytdagbeihjobmjaa.Eng.B
set_option linter.unusedSimpArgs false
set_option linter.unusedVariables false
set_option maxHeartbeats 8000000
set_option maxRecDepth 100000
open Go.RowKit Go.Proofs

theorem law_FnBits (l : List Int) (hn : l.length ≤ 140737488351232) (hw : ∀ x ∈ l, (Lit.int .u8 x).wf = true) :
    runRO (X tab) tab 13 [.v false [.ro l.length (cl .u8 l)]] = some (.v false [.bool true], []) := by
  have hb := r_big l
  by_cases h1 : (1048576 : Int) < (l.length : Int)
  · rw [decide_eq_true h1] at hb
    unfold runRO
    simp (maxSteps := 4000000) -implicitDefEqProofs [tab13, a13, x_seq, x_cond, x_block, x_region, x_skip, x_exit, x_ret, head_id, runG, runOps, doOp, wantB, stepOp, AO.eff, pureOp, St.get, St.one, St.num, St.put, St.optNum, binA, binInt, List.take, List.drop, callRO, addMem_nil, roArgs, roL, roA, srcCells, A1.ownB, addMem, shift, ren, SV.map, Ob.map, Ob.noRo, SV.noRo, A1.noRo, List.range, List.range.loop, resOf, resSV, SV.map, SV.ids, A1.ids, reach, allObs, ren, pos, Ob.map, St.canon, memL, List.range, List.range.loop, hb]
  · rw [decide_eq_false h1] at hb
    have hl : l.length ≤ 1048576 := by omega
    obtain ⟨m, hm, e0⟩ := r_DrawBitsBytes l hl
    obtain ⟨k, cs, ⟨hk, hcl, hcB⟩, e1⟩ := r_DrawBitsOf l hl
    obtain ⟨r, hrl, e2⟩ := r_DrawOfRuns l hl
    have hlc : (cs.take k).length = k := by rw [List.length_take]; omega
    have hcB' : Bytes (cs.take k) := fun x hx => hcB x (List.mem_of_mem_take hx)
    have g1 := r_BitsOf (cs.take k) hcB' (by omega)
    have g2 := r_sBitsOf (cs.take k) hcB' (by omega)
    rw [hlc] at g1 g2
    have g3 := r_OfRuns r (by omega)
    have g4 := r_sOfRuns r (by omega)
    have v2 : (cl .u8 cs).take k = cl .u8 (cs.take k) := cl_take
    have v3 : k ≤ (cl .u8 cs).length := by rw [cl_length]; exact hk
    have v4 : (cl .i64 r).take r.length = cl .i64 r := cl_self
    have v5 : (cl .i64 m).take m.length = cl .i64 m := cl_self
    have l5 : (cl .i64 m).length = m.length := cl_length
    have l4 : (cl .i64 r).length = r.length := cl_length
    have n1 := r_sameInts_nil2
    have n2 := r_sameInts_nil1
    have n3 := r_sameInts_nil3
    -- what is read of the drawn bytes
    have hX : bitsOk (cs.take k) = true → marksOk (ofRuns (listF (cs.take k)).1).1 = true ∧ ((strOfNums (bitsB (ofRuns (listF (cs.take k)).1).1)).toList == (strOfNums (cs.take k)).toList) = true := by
      intro h
      unfold bitsOk at h
      simp only [Bool.and_eq_true] at h
      exact ⟨(ofRuns_true h.1.2).1, h.2⟩
    have hYl := ofRuns_len (listF (cs.take k)).1
    generalize hY : (ofRuns (listF (cs.take k)).1).1 = y at g1 g2 hX hYl
    have hZl := ofRuns_len r
    have hZ : (ofRuns r).2 = true → marksOk (ofRuns r).1 = true ∧ runs (ofRuns r).1 = r := ofRuns_true
    have hZ0 : (ofRuns r).2 = false → (ofRuns r).1 = [] := by
      unfold ofRuns
      split
      · intro h; cases h
      · intro _; rfl
    generalize ofRuns r = zz at g3 g4 hZ hZl hZ0
    obtain ⟨z, is_⟩ := zz
    simp only at g3 g4 hZ hZl hZ0
    have c1 := r_sameInts y (by omega)
    have c2 := r_sameInts z (by omega)
    have c3 := r_sameInts r (by omega)
    have c4 := r_sameInts m (by omega)
    have v6 : (cl .i64 y).take y.length = cl .i64 y := cl_self
    have v7 : (cl .i64 z).take z.length = cl .i64 z := cl_self
    have l6 : (cl .i64 y).length = y.length := cl_length
    have l7 : (cl .i64 z).length = z.length := cl_length
    have k1 := r_MarksOk m (by omega)
    have k2 := r_Runs z (by omega)
    generalize hT : cs.take k = T at g1 g2 hX v2
    -- what is asked of the drawn runs
    have hR : is_ = true → runRO (X tab) tab 69 [.v false [.ro z.length (cl .i64 z)]] = some (.v false [.sl 0 [] 0 r.length], [.row 1 (cl .i64 r)]) := fun h => by rw [← (hZ h).2]; exact k2
    cases hm1 : marksOk m with
    | false =>
      rw [hm1] at k1
      have b1 := r_BitsBytes_bad m (by omega) hm1
      have b2 := r_sBitsBytes_bad m (by omega) hm1
      cases hx : bitsOk T with
      | false =>
        rw [hx] at g1 g2
        simp only [Bool.false_eq_true, if_false] at g1 g2
        cases is_ with
        | false =>
          obtain rfl := hZ0 rfl
          simp only [Bool.false_eq_true, if_false, List.length_nil, cl_nil] at g3 g4
          unfold runRO
          simp (maxSteps := 4000000) -implicitDefEqProofs [tab13, a13, x_seq, x_cond, x_block, x_region, x_skip, x_exit, x_ret, head_id, runG, runOps, doOp, wantB, stepOp, AO.eff, pureOp, St.get, St.one, St.num, St.put, St.optNum, binA, binInt, List.take, List.drop, gOp, gOp0, gOpL, gResL, updO, gRes, gEff, addObs_nil, addObs_one, freshB_memL, freshB_none, freshB_upd, freshB_addMem, freshB_addObs, effOp2, effOp, memL_app, stoRow, cellsAt, toCells, toCell, scalar_int, scalar_bool, scalar_str, scalar_sl, updAt, fromRo, upd, srcCells, A1.slB, flat_int, cl_flat', St.parts, Eng.inB, reps, fillA, newRowSt, appSt, oldOf, rest, kill, mapMem, SV.map, Ob.map, callRO, addMem_nil, roArgs, roL, roA, srcCells, A1.ownB, addMem, shift, ren, SV.map, Ob.map, Ob.noRo, SV.noRo, A1.noRo, List.range, List.range.loop, resOf, resSV, SV.map, SV.ids, A1.ids, reach, allObs, ren, pos, Ob.map, St.canon, memL, List.range, List.range.loop, cellsAt, hb, e0, e1, e2, g1, g2, g3, g4, b1, b2, k1, v2, v3, v4, v5, l4, l5, n1, n2, n3, szOk, cl_nums, numsOfCells, binStr, bne]
        | true =>
          have hR := hR rfl
          simp only [if_true] at g3 g4
          unfold runRO
          simp (maxSteps := 4000000) -implicitDefEqProofs [tab13, a13, x_seq, x_cond, x_block, x_region, x_skip, x_exit, x_ret, head_id, runG, runOps, doOp, wantB, stepOp, AO.eff, pureOp, St.get, St.one, St.num, St.put, St.optNum, binA, binInt, List.take, List.drop, gOp, gOp0, gOpL, gResL, updO, gRes, gEff, addObs_nil, addObs_one, freshB_memL, freshB_none, freshB_upd, freshB_addMem, freshB_addObs, effOp2, effOp, memL_app, stoRow, cellsAt, toCells, toCell, scalar_int, scalar_bool, scalar_str, scalar_sl, updAt, fromRo, upd, srcCells, A1.slB, flat_int, cl_flat', St.parts, Eng.inB, reps, fillA, newRowSt, appSt, oldOf, rest, kill, mapMem, SV.map, Ob.map, callRO, addMem_nil, roArgs, roL, roA, srcCells, A1.ownB, addMem, shift, ren, SV.map, Ob.map, Ob.noRo, SV.noRo, A1.noRo, List.range, List.range.loop, resOf, resSV, SV.map, SV.ids, A1.ids, reach, allObs, ren, pos, Ob.map, St.canon, memL, List.range, List.range.loop, cellsAt, hb, e0, e1, e2, g1, g2, g3, g4, b1, b2, k1, v2, v3, v4, v5, l4, l5, n1, n2, n3, szOk, cl_nums, numsOfCells, binStr, bne, hR, c2, c3, v7, l7]
      | true =>
        rw [hx] at g1 g2
        simp only [if_true] at g1 g2
        obtain ⟨hx1, hx2⟩ := hX hx
        have b3 := r_BitsBytes y (by omega) hx1
        have v8 : (cl .u8 (bitsB y)).take (bitsB y).length = cl .u8 (bitsB y) := cl_self
        have l8 : (cl .u8 (bitsB y)).length = (bitsB y).length := cl_length
        generalize bitsB y = By at b3 hx2 v8 l8
        cases is_ with
        | false =>
          obtain rfl := hZ0 rfl
          simp only [Bool.false_eq_true, if_false, List.length_nil, cl_nil] at g3 g4
          unfold runRO
          simp (maxSteps := 4000000) -implicitDefEqProofs [tab13, a13, x_seq, x_cond, x_block, x_region, x_skip, x_exit, x_ret, head_id, runG, runOps, doOp, wantB, stepOp, AO.eff, pureOp, St.get, St.one, St.num, St.put, St.optNum, binA, binInt, List.take, List.drop, gOp, gOp0, gOpL, gResL, updO, gRes, gEff, addObs_nil, addObs_one, freshB_memL, freshB_none, freshB_upd, freshB_addMem, freshB_addObs, effOp2, effOp, memL_app, stoRow, cellsAt, toCells, toCell, scalar_int, scalar_bool, scalar_str, scalar_sl, updAt, fromRo, upd, srcCells, A1.slB, flat_int, cl_flat', St.parts, Eng.inB, reps, fillA, newRowSt, appSt, oldOf, rest, kill, mapMem, SV.map, Ob.map, callRO, addMem_nil, roArgs, roL, roA, srcCells, A1.ownB, addMem, shift, ren, SV.map, Ob.map, Ob.noRo, SV.noRo, A1.noRo, List.range, List.range.loop, resOf, resSV, SV.map, SV.ids, A1.ids, reach, allObs, ren, pos, Ob.map, St.canon, memL, List.range, List.range.loop, cellsAt, hb, e0, e1, e2, g1, g2, g3, g4, b1, b2, k1, v2, v3, v4, v5, l4, l5, n1, n2, n3, szOk, cl_nums, numsOfCells, binStr, bne, b3, c1, hx2, v6, v8, l6, l8]
        | true =>
          have hR := hR rfl
          simp only [if_true] at g3 g4
          unfold runRO
          simp (maxSteps := 4000000) -implicitDefEqProofs [tab13, a13, x_seq, x_cond, x_block, x_region, x_skip, x_exit, x_ret, head_id, runG, runOps, doOp, wantB, stepOp, AO.eff, pureOp, St.get, St.one, St.num, St.put, St.optNum, binA, binInt, List.take, List.drop, gOp, gOp0, gOpL, gResL, updO, gRes, gEff, addObs_nil, addObs_one, freshB_memL, freshB_none, freshB_upd, freshB_addMem, freshB_addObs, effOp2, effOp, memL_app, stoRow, cellsAt, toCells, toCell, scalar_int, scalar_bool, scalar_str, scalar_sl, updAt, fromRo, upd, srcCells, A1.slB, flat_int, cl_flat', St.parts, Eng.inB, reps, fillA, newRowSt, appSt, oldOf, rest, kill, mapMem, SV.map, Ob.map, callRO, addMem_nil, roArgs, roL, roA, srcCells, A1.ownB, addMem, shift, ren, SV.map, Ob.map, Ob.noRo, SV.noRo, A1.noRo, List.range, List.range.loop, resOf, resSV, SV.map, SV.ids, A1.ids, reach, allObs, ren, pos, Ob.map, St.canon, memL, List.range, List.range.loop, cellsAt, hb, e0, e1, e2, g1, g2, g3, g4, b1, b2, k1, v2, v3, v4, v5, l4, l5, n1, n2, n3, szOk, cl_nums, numsOfCells, binStr, bne, b3, c1, hx2, v6, v8, l6, l8, hR, c2, c3, v7, l7]
    | true =>
      rw [hm1] at k1
      have b1 := r_BitsBytes m (by omega) hm1
      have b2 := r_sBitsBytes m (by omega) hm1
      obtain ⟨q1, q2, q3, q4, q5, q6⟩ := bits_read hm1
      have d1 := r_BitsOf (bitsB m) q4 (by omega)
      rw [if_pos q1, q2] at d1
      have hl9 : ((bitsB m).take ((bitsB m).length - 1)).length = (bitsB m).length - 1 := by rw [List.length_take]; omega
      have d2 := r_BitsOf ((bitsB m).take ((bitsB m).length - 1)) (fun x hx => q4 x (List.mem_of_mem_take hx)) (by omega)
      rw [hl9, q3] at d2
      simp only [Bool.false_eq_true, if_false] at d2
      have d3 := r_Runs m (by omega)
      have d4 := r_OfRuns (runs m) (by have := runs_len m; omega)
      rw [ofRuns_runs hm1] at d4
      simp only [if_true] at d4
      have v9 : (cl .u8 (bitsB m)).take (bitsB m).length = cl .u8 (bitsB m) := cl_self
      have l9 : (cl .u8 (bitsB m)).length = (bitsB m).length := cl_length
      have v10 : (cl .u8 (bitsB m)).take ((bitsB m).length - 1) = cl .u8 ((bitsB m).take ((bitsB m).length - 1)) := cl_take
      have w1 : IntKind.i64.wrap (((bitsB m).length : Int) - 1) = ((bitsB m).length : Int) - 1 := wrap_id (by omega) (by omega)
      have z2 : ¬ bitsB m = [] := fun e => by rw [e] at q5; simp at q5
      have hc9 : cutB (bitsB m).length none (some (((bitsB m).length : Int) - 1)) = some (0, (bitsB m).length - 1) := by simp [cutB]; omega
      have hc8 : (bitsB m).length - 1 ≤ (bitsB m).length := by omega
      have v11 : (cl .i64 (runs m)).take (runs m).length = cl .i64 (runs m) := cl_self
      have l11 : (cl .i64 (runs m)).length = (runs m).length := cl_length
      generalize bitsB m = B at *
      generalize runs m = rm at *
      cases hx : bitsOk T with
      | false =>
        rw [hx] at g1 g2
        simp only [Bool.false_eq_true, if_false] at g1 g2
        cases is_ with
        | false =>
          obtain rfl := hZ0 rfl
          simp only [Bool.false_eq_true, if_false, List.length_nil, cl_nil] at g3 g4
          unfold runRO
          simp (maxSteps := 4000000) -implicitDefEqProofs [tab13, a13, x_seq, x_cond, x_block, x_region, x_skip, x_exit, x_ret, head_id, runG, runOps, doOp, wantB, stepOp, AO.eff, pureOp, St.get, St.one, St.num, St.put, St.optNum, binA, binInt, List.take, List.drop, gOp, gOp0, gOpL, gResL, updO, gRes, gEff, addObs_nil, addObs_one, freshB_memL, freshB_none, freshB_upd, freshB_addMem, freshB_addObs, effOp2, effOp, memL_app, stoRow, cellsAt, toCells, toCell, scalar_int, scalar_bool, scalar_str, scalar_sl, updAt, fromRo, upd, srcCells, A1.slB, flat_int, cl_flat', St.parts, Eng.inB, reps, fillA, newRowSt, appSt, oldOf, rest, kill, mapMem, SV.map, Ob.map, callRO, addMem_nil, roArgs, roL, roA, srcCells, A1.ownB, addMem, shift, ren, SV.map, Ob.map, Ob.noRo, SV.noRo, A1.noRo, List.range, List.range.loop, resOf, resSV, SV.map, SV.ids, A1.ids, reach, allObs, ren, pos, Ob.map, St.canon, memL, List.range, List.range.loop, cellsAt, hb, e0, e1, e2, g1, g2, g3, g4, b1, b2, k1, v2, v3, v4, v5, l4, l5, n1, n2, n3, szOk, cl_nums, numsOfCells, binStr, bne, d1, d2, d3, d4, v9, l9, v10, w1, z2, hc9, hc8, v11, l11, c4]
        | true =>
          have hR := hR rfl
          simp only [if_true] at g3 g4
          unfold runRO
          simp (maxSteps := 4000000) -implicitDefEqProofs [tab13, a13, x_seq, x_cond, x_block, x_region, x_skip, x_exit, x_ret, head_id, runG, runOps, doOp, wantB, stepOp, AO.eff, pureOp, St.get, St.one, St.num, St.put, St.optNum, binA, binInt, List.take, List.drop, gOp, gOp0, gOpL, gResL, updO, gRes, gEff, addObs_nil, addObs_one, freshB_memL, freshB_none, freshB_upd, freshB_addMem, freshB_addObs, effOp2, effOp, memL_app, stoRow, cellsAt, toCells, toCell, scalar_int, scalar_bool, scalar_str, scalar_sl, updAt, fromRo, upd, srcCells, A1.slB, flat_int, cl_flat', St.parts, Eng.inB, reps, fillA, newRowSt, appSt, oldOf, rest, kill, mapMem, SV.map, Ob.map, callRO, addMem_nil, roArgs, roL, roA, srcCells, A1.ownB, addMem, shift, ren, SV.map, Ob.map, Ob.noRo, SV.noRo, A1.noRo, List.range, List.range.loop, resOf, resSV, SV.map, SV.ids, A1.ids, reach, allObs, ren, pos, Ob.map, St.canon, memL, List.range, List.range.loop, cellsAt, hb, e0, e1, e2, g1, g2, g3, g4, b1, b2, k1, v2, v3, v4, v5, l4, l5, n1, n2, n3, szOk, cl_nums, numsOfCells, binStr, bne, d1, d2, d3, d4, v9, l9, v10, w1, z2, hc9, hc8, v11, l11, c4, hR, c2, c3, v7, l7]
      | true =>
        rw [hx] at g1 g2
        simp only [if_true] at g1 g2
        obtain ⟨hx1, hx2⟩ := hX hx
        have b3 := r_BitsBytes y (by omega) hx1
        have v8 : (cl .u8 (bitsB y)).take (bitsB y).length = cl .u8 (bitsB y) := cl_self
        have l8 : (cl .u8 (bitsB y)).length = (bitsB y).length := cl_length
        generalize bitsB y = By at b3 hx2 v8 l8
        cases is_ with
        | false =>
          obtain rfl := hZ0 rfl
          simp only [Bool.false_eq_true, if_false, List.length_nil, cl_nil] at g3 g4
          unfold runRO
          simp (maxSteps := 4000000) -implicitDefEqProofs [tab13, a13, x_seq, x_cond, x_block, x_region, x_skip, x_exit, x_ret, head_id, runG, runOps, doOp, wantB, stepOp, AO.eff, pureOp, St.get, St.one, St.num, St.put, St.optNum, binA, binInt, List.take, List.drop, gOp, gOp0, gOpL, gResL, updO, gRes, gEff, addObs_nil, addObs_one, freshB_memL, freshB_none, freshB_upd, freshB_addMem, freshB_addObs, effOp2, effOp, memL_app, stoRow, cellsAt, toCells, toCell, scalar_int, scalar_bool, scalar_str, scalar_sl, updAt, fromRo, upd, srcCells, A1.slB, flat_int, cl_flat', St.parts, Eng.inB, reps, fillA, newRowSt, appSt, oldOf, rest, kill, mapMem, SV.map, Ob.map, callRO, addMem_nil, roArgs, roL, roA, srcCells, A1.ownB, addMem, shift, ren, SV.map, Ob.map, Ob.noRo, SV.noRo, A1.noRo, List.range, List.range.loop, resOf, resSV, SV.map, SV.ids, A1.ids, reach, allObs, ren, pos, Ob.map, St.canon, memL, List.range, List.range.loop, cellsAt, hb, e0, e1, e2, g1, g2, g3, g4, b1, b2, k1, v2, v3, v4, v5, l4, l5, n1, n2, n3, szOk, cl_nums, numsOfCells, binStr, bne, d1, d2, d3, d4, v9, l9, v10, w1, z2, hc9, hc8, v11, l11, c4, b3, c1, hx2, v6, v8, l6, l8]
        | true =>
          have hR := hR rfl
          simp only [if_true] at g3 g4
          unfold runRO
          simp (maxSteps := 4000000) -implicitDefEqProofs [tab13, a13, x_seq, x_cond, x_block, x_region, x_skip, x_exit, x_ret, head_id, runG, runOps, doOp, wantB, stepOp, AO.eff, pureOp, St.get, St.one, St.num, St.put, St.optNum, binA, binInt, List.take, List.drop, gOp, gOp0, gOpL, gResL, updO, gRes, gEff, addObs_nil, addObs_one, freshB_memL, freshB_none, freshB_upd, freshB_addMem, freshB_addObs, effOp2, effOp, memL_app, stoRow, cellsAt, toCells, toCell, scalar_int, scalar_bool, scalar_str, scalar_sl, updAt, fromRo, upd, srcCells, A1.slB, flat_int, cl_flat', St.parts, Eng.inB, reps, fillA, newRowSt, appSt, oldOf, rest, kill, mapMem, SV.map, Ob.map, callRO, addMem_nil, roArgs, roL, roA, srcCells, A1.ownB, addMem, shift, ren, SV.map, Ob.map, Ob.noRo, SV.noRo, A1.noRo, List.range, List.range.loop, resOf, resSV, SV.map, SV.ids, A1.ids, reach, allObs, ren, pos, Ob.map, St.canon, memL, List.range, List.range.loop, cellsAt, hb, e0, e1, e2, g1, g2, g3, g4, b1, b2, k1, v2, v3, v4, v5, l4, l5, n1, n2, n3, szOk, cl_nums, numsOfCells, binStr, bne, d1, d2, d3, d4, v9, l9, v10, w1, z2, hc9, hc8, v11, l11, c4, b3, c1, hx2, v6, v8, l6, l8, hR, c2, c3, v7, l7]
end Go.Proofs.Ytdagbeihjobmjaa.Eng.B
