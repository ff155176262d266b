/- What is touched is hot, ahead of all: the law. -/
import Derived.Test.YtdagbeihjobmjaaACovers
namespace Go.Proofs.Ytdagbeihjobmjaa.Eng.A
set_option linter.unusedSimpArgs false
set_option linter.unusedVariables false
set_option maxHeartbeats 8000000
set_option maxRecDepth 100000
open Go.RowKit Go.Proofs

theorem touch_facts {l : List Int} (h : hotOk l = true) {c : Int} (hc : 0 ≤ extOf c) :
    (∃ r, (touchAll l c).take 2 = extOf c :: r) ∧ (touchAll ((touchAll l c).take 2) c).take 2 = (touchAll l c).take 2 ∧ touchX (touchAll ((touchAll l c).take 2) c) = -1 ∧
    (touchX (touchAll l c) = -1 ∨ (touchX (touchAll l c) ∈ l ∧ ¬ touchX (touchAll l c) ∈ (touchAll l c).take 2)) ∧ l.length ≤ ((touchAll l c).take 2).length := by
  have he := extOf_rng (c := c) (by omega)
  unfold touchAll
  generalize extOf c = e at he
  have he' : e = 0 ∨ e = 1 ∨ e = 2 ∨ e = 3 := by omega
  clear he hc
  refine ⟨⟨_, rfl⟩, ?_⟩
  rcases hotOk_forms h with rfl | ⟨a, ha, rfl⟩ | ⟨a, b, ha, hb, hab, rfl⟩
  · rcases he' with rfl | rfl | rfl | rfl <;> decide
  · rcases he' with rfl | rfl | rfl | rfl <;> rcases ha with rfl | rfl | rfl | rfl <;> decide
  · rcases he' with rfl | rfl | rfl | rfl <;> rcases ha with rfl | rfl | rfl | rfl <;> rcases hb with rfl | rfl | rfl | rfl <;> first | exact absurd rfl hab | decide
theorem law_FnHot (l : List Int) (hn : l.length ≤ 140737488351232) (hw : ∀ x ∈ l, (Lit.int .u8 x).wf = true) :
    runRO (X tab) tab 10 [.v false [.ro l.length (cl .u8 l)]] = some (.v false [.bool true], []) := by
  have hb := r_big l
  by_cases hbig : (1048576 : Int) < (l.length : Int)
  · rw [decide_eq_true hbig] at hb
    unfold runRO
    simp (maxSteps := 4000000) -implicitDefEqProofs [tab10, a10, x_seq, x_cond, x_block, x_region, x_skip, x_exit, x_ret, head_id, runG, runOps, doOp, wantB, stepOp, AO.eff, pureOp, St.get, St.one, St.num, St.put, St.optNum, binA, binInt, List.take, List.drop, callRO, addMem_nil, roArgs, roL, roA, srcCells, A1.ownB, addMem, shift, ren, SV.map, Ob.map, Ob.noRo, SV.noRo, A1.noRo, List.range, List.range.loop, resOf, resSV, SV.map, SV.ids, A1.ids, reach, allObs, ren, pos, Ob.map, St.canon, memL, List.range, List.range.loop, hb]
  · rw [decide_eq_false hbig] at hb
    have hl : l.length ≤ 1048576 := by omega
    obtain ⟨ws, c, ⟨hwl, hc0, hc8⟩, e0⟩ := r_DrawTouch l hl
    obtain ⟨c2, e1⟩ := r_DrawExtOf l hl
    obtain ⟨w2, hw2, e2⟩ := r_DrawHotOk l hl
    obtain ⟨w3, hw3, e3⟩ := r_DrawHotMarks l hl
    have u1 : (cl .i64 ws).take ws.length = cl .i64 ws := cl_self
    have u2 : (cl .i64 w2).take w2.length = cl .i64 w2 := cl_self
    have u3 : (cl .i64 w3).take w3.length = cl .i64 w3 := cl_self
    have k1 := r_HotOk ws (by omega)
    have k2 := r_ExtOf c
    have q1 := r_ExtOf c2
    have q2 := r_sExtOf c2
    generalize extOf c2 = x2 at q1 q2
    have q3 := r_HotOk w2 (by omega)
    have q4 := r_sHotOk w2 (by omega)
    generalize hotOk w2 = b2 at q3 q4
    have q5 := r_HotMarks w3 (by omega)
    have q6 := r_sHotMarks w3 (by omega)
    have hml : (hotC w3).length ≤ 8 := by
      unfold hotC
      split
      · exact (hotM_sub w3).length_le
      · simp
    have q7 := r_sameInts (hotC w3) (by omega)
    generalize hotC w3 = m3 at q5 q6 q7 hml
    have u4 : (cl .i64 m3).take m3.length = cl .i64 m3 := cl_self
    cases hok : touchOk ws c with
    | true =>
      obtain ⟨tail, g1⟩ := r_Touch ws c hok
      have g2 := r_sTouch ws c hok
      have hok' := hok
      simp only [touchOk, Bool.and_eq_true, decide_eq_true_eq] at hok'
      rw [hok'.1] at k1
      have he : ¬ extOf c < 0 := by omega
      have hh := hotOk_touch hok'.1 he
      obtain ⟨⟨r, t0⟩, t1, t2, t3, t4⟩ := touch_facts hok'.1 hok'.2
      have hlen := hotOk_len hh
      generalize (touchAll ws c).take 2 = R2 at g1 g2 hh hlen t0 t1 t2 t3 t4
      generalize touchX (touchAll ws c) = o at g1 g2 t3
      have hok2 : touchOk R2 c = true := by simp only [touchOk, hh, Bool.true_and, decide_eq_true_eq]; omega
      obtain ⟨tail2, g3⟩ := r_Touch R2 c hok2
      rw [t1, t2] at g3
      have g4 := r_sameInts R2 (by omega)
      have g5 := r_HotOk R2 (by omega)
      rw [hh] at g5
      have v1 : (cl .i64 (R2 ++ tail)).take R2.length = cl .i64 R2 := by rw [cl_take, List.take_left]
      have v2 : (cl .i64 (R2 ++ tail2)).take R2.length = cl .i64 R2 := by rw [cl_take, List.take_left]
      have v3 : (cl .i64 R2).take R2.length = cl .i64 R2 := cl_self
      have v4 : R2.length ≤ (cl .i64 (R2 ++ tail)).length := by rw [cl_length]; simp
      have v5 : R2.length ≤ (cl .i64 (R2 ++ tail2)).length := by rw [cl_length]; simp
      have hd : (R2 ++ tail).drop 0 = extOf c :: (r ++ tail) := by rw [t0]; rfl
      have v6 := fun t => cl_read (k := .i64) hd t []
      have v7 : (0 : Int) < (R2.length : Int) := by have := congrArg List.length t0; simp at this; omega
      have v7' : 0 < R2.length := by omega
      have t4' : (ws.length : Int) ≤ (R2.length : Int) := by omega
      by_cases ho : o = -1
      · subst ho
        unfold runRO
        simp (maxSteps := 4000000) -implicitDefEqProofs [tab10, a10, x_seq, x_cond, x_block, x_region, x_skip, x_exit, x_ret, head_id, runG, runOps, doOp, wantB, stepOp, AO.eff, pureOp, St.get, St.one, St.num, St.put, St.optNum, binA, binInt, List.take, List.drop, gOp, gRes, gEff, addObs_nil, addObs_one, freshB_memL, freshB_none, freshB_upd, freshB_addMem, freshB_addObs, callRO, addMem_nil, roArgs, roL, roA, srcCells, A1.ownB, addMem, shift, ren, SV.map, Ob.map, Ob.noRo, SV.noRo, A1.noRo, List.range, List.range.loop, resOf, resSV, SV.map, SV.ids, A1.ids, reach, allObs, ren, pos, Ob.map, St.canon, memL, List.range, List.range.loop, cellsAt, hb, e0, e1, e2, e3, g1, g2, g3, g4, g5, k1, k2, q1, q2, q3, q4, q5, q6, q7, u1, u2, u3, u4, v1, v2, v3, v4, v5, v6, v7, v7', t4, t4', he, cl_length, bne]
      · have ho' : (o == -1) = false := beq_eq_false_iff_ne.2 ho
        obtain ⟨s1, s2⟩ := t3.resolve_left ho
        have g6 := r_within ws o (by omega)
        rw [decide_eq_true s1] at g6
        have g7 := r_within R2 o (by omega)
        rw [decide_eq_false s2] at g7
        unfold runRO
        simp (maxSteps := 4000000) -implicitDefEqProofs [tab10, a10, x_seq, x_cond, x_block, x_region, x_skip, x_exit, x_ret, head_id, runG, runOps, doOp, wantB, stepOp, AO.eff, pureOp, St.get, St.one, St.num, St.put, St.optNum, binA, binInt, List.take, List.drop, gOp, gRes, gEff, addObs_nil, addObs_one, freshB_memL, freshB_none, freshB_upd, freshB_addMem, freshB_addObs, callRO, addMem_nil, roArgs, roL, roA, srcCells, A1.ownB, addMem, shift, ren, SV.map, Ob.map, Ob.noRo, SV.noRo, A1.noRo, List.range, List.range.loop, resOf, resSV, SV.map, SV.ids, A1.ids, reach, allObs, ren, pos, Ob.map, St.canon, memL, List.range, List.range.loop, cellsAt, hb, e0, e1, e2, e3, g1, g2, g3, g4, g5, g6, g7, k1, k2, q1, q2, q3, q4, q5, q6, q7, u1, u2, u3, u4, v1, v2, v3, v4, v5, v6, v7, v7', t4, t4', he, ho', cl_length, bne]
    | false =>
      have g1 := r_Touch_bad ws (by omega) c hok
      have g2 := r_sTouch_bad ws (by omega) c hok
      have fin : hotOk ws = true → extOf c < 0 := by
        intro h
        simp only [touchOk, h, Bool.true_and, decide_eq_false_iff_not] at hok
        omega
      by_cases he : ws = []
      · subst he
        rw [if_pos rfl] at g1
        have hneg := fin rfl
        rw [show hotOk [] = true from rfl] at k1
        simp only [List.length_nil, cl_nil] at e0 g1 g2 k1 u1
        have g5 := r_sameInts_nil1
        unfold runRO
        simp (maxSteps := 4000000) -implicitDefEqProofs [tab10, a10, x_seq, x_cond, x_block, x_region, x_skip, x_exit, x_ret, head_id, runG, runOps, doOp, wantB, stepOp, AO.eff, pureOp, St.get, St.one, St.num, St.put, St.optNum, binA, binInt, List.take, List.drop, gOp, gRes, gEff, addObs_nil, addObs_one, freshB_memL, freshB_none, freshB_upd, freshB_addMem, freshB_addObs, callRO, addMem_nil, roArgs, roL, roA, srcCells, A1.ownB, addMem, shift, ren, SV.map, Ob.map, Ob.noRo, SV.noRo, A1.noRo, List.range, List.range.loop, resOf, resSV, SV.map, SV.ids, A1.ids, reach, allObs, ren, pos, Ob.map, St.canon, memL, List.range, List.range.loop, cellsAt, hb, e0, e1, e2, e3, g1, g2, g5, k1, k2, q1, q2, q3, q4, q5, q6, q7, u2, u3, u4, hneg, cl_length, bne]
      · rw [if_neg he] at g1
        have g5 := r_sameInts ws (by omega)
        cases hk : hotOk ws with
        | false =>
          rw [hk] at k1
          unfold runRO
          simp (maxSteps := 4000000) -implicitDefEqProofs [tab10, a10, x_seq, x_cond, x_block, x_region, x_skip, x_exit, x_ret, head_id, runG, runOps, doOp, wantB, stepOp, AO.eff, pureOp, St.get, St.one, St.num, St.put, St.optNum, binA, binInt, List.take, List.drop, gOp, gRes, gEff, addObs_nil, addObs_one, freshB_memL, freshB_none, freshB_upd, freshB_addMem, freshB_addObs, callRO, addMem_nil, roArgs, roL, roA, srcCells, A1.ownB, addMem, shift, ren, SV.map, Ob.map, Ob.noRo, SV.noRo, A1.noRo, List.range, List.range.loop, resOf, resSV, SV.map, SV.ids, A1.ids, reach, allObs, ren, pos, Ob.map, St.canon, memL, List.range, List.range.loop, cellsAt, hb, e0, e1, e2, e3, g1, g2, g5, k1, k2, q1, q2, q3, q4, q5, q6, q7, u1, u2, u3, u4, cl_length, bne]
        | true =>
          rw [hk] at k1
          have hneg := fin hk
          unfold runRO
          simp (maxSteps := 4000000) -implicitDefEqProofs [tab10, a10, x_seq, x_cond, x_block, x_region, x_skip, x_exit, x_ret, head_id, runG, runOps, doOp, wantB, stepOp, AO.eff, pureOp, St.get, St.one, St.num, St.put, St.optNum, binA, binInt, List.take, List.drop, gOp, gRes, gEff, addObs_nil, addObs_one, freshB_memL, freshB_none, freshB_upd, freshB_addMem, freshB_addObs, callRO, addMem_nil, roArgs, roL, roA, srcCells, A1.ownB, addMem, shift, ren, SV.map, Ob.map, Ob.noRo, SV.noRo, A1.noRo, List.range, List.range.loop, resOf, resSV, SV.map, SV.ids, A1.ids, reach, allObs, ren, pos, Ob.map, St.canon, memL, List.range, List.range.loop, cellsAt, hb, e0, e1, e2, e3, g1, g2, g5, k1, k2, q1, q2, q3, q4, q5, q6, q7, u1, u2, u3, u4, hneg, cl_length, bne]
end Go.Proofs.Ytdagbeihjobmjaa.Eng.A
