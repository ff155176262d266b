/- The book of drawn touches tells what is hot: the law. -/
import Derived.Test.YtdagbeihjobmjaaBDraw6
namespace Go.Proofs.Ytdagbeihjobmjaa.Eng.B
set_option linter.unusedSimpArgs false
set_option linter.unusedVariables false
set_option maxHeartbeats 8000000
set_option maxRecDepth 100000
open Go.RowKit Go.Proofs

def S_hotB (ws b : List Int) (s : Nat × List Int × Option (List Int)) : XS :=
  match s.2.2 with
  | none => ⟨⟨[.bad, .bad, .bad, .v false [.sl 0 [] 0 ws.length], .v false [.sl 1 [] 0 b.length], .bad, .bad, .bad, .bad, .bad, .v false [.nil], .v false [.int .i64 (s.1)], .bad, .bad, .bad, .bad, .bad, .bad, .bad, .bad, .bad, .bad, .bad, .bad, .bad, .bad, .bad, .bad, .bad, .bad, .bad, .bad, .bad, .bad, .bad, .bad, .bad, .bad, .bad, .bad, .bad, .bad, .bad, .bad, .bad, .bad, .bad, .bad, .bad, .bad, .bad, .bad, .bad, .bad, .bad, .bad, .bad, .bad, .bad, .bad, .bad, .bad, .bad, .bad, .bad, .bad, .bad, .bad, .bad, .bad, .bad, .bad, .bad, .bad, .bad, .bad, .bad, .bad, .bad, .bad, .bad, .bad, .bad, .bad, .bad, .bad, .bad, .bad, .bad, .bad, .bad, .bad], memL [some (.row 1 (cl .i64 ws)), some (.row 1 (cl .u8 b))], []⟩, 2⟩
  | some tail => ⟨⟨[.bad, .bad, .bad, .v false [.sl 0 [] 0 ws.length], .v false [.sl 1 [] 0 b.length], .bad, .bad, .bad, .bad, .bad, .v false [.sl 2 [] 0 s.2.1.length], .v false [.int .i64 (s.1)], .bad, .bad, .bad, .bad, .bad, .bad, .bad, .bad, .bad, .bad, .bad, .bad, .bad, .bad, .bad, .bad, .bad, .bad, .bad, .bad, .bad, .bad, .bad, .bad, .bad, .bad, .bad, .bad, .bad, .bad, .bad, .bad, .bad, .bad, .bad, .bad, .bad, .bad, .bad, .bad, .bad, .bad, .bad, .bad, .bad, .bad, .bad, .bad, .bad, .bad, .bad, .bad, .bad, .bad, .bad, .bad, .bad, .bad, .bad, .bad, .bad, .bad, .bad, .bad, .bad, .bad, .bad, .bad, .bad, .bad, .bad, .bad, .bad, .bad, .bad, .bad, .bad, .bad, .bad, .bad], memL [some (.row 1 (cl .i64 ws)), some (.row 1 (cl .u8 b)), some (.row 1 (cl .i64 (s.2.1 ++ tail)))], []⟩, 3⟩
def I_hotB (ws : List Int) (s : Nat × List Int × Option (List Int)) : Prop := s.1 ≤ ws.length ∧ s.2.1 = hotAt ws s.1 ∧ (s.2.2 = none → s.2.1 = [])
def Z_hotB (b hot : List Int) : Option (List Int) → XS
  | none => ⟨⟨[.bad, .bad, .bad, .bad, .v false [.sl 0 [] 0 b.length], .bad, .bad, .bad, .bad, .bad, .v false [.nil], .bad, .bad, .bad, .bad, .bad, .bad, .bad, .bad, .bad, .bad, .bad, .bad, .bad, .bad, .bad, .bad, .bad, .bad, .bad, .bad, .bad, .bad, .bad, .bad, .bad, .bad, .bad, .bad, .bad, .bad, .bad, .bad, .bad, .bad, .bad, .bad, .bad, .bad, .bad, .bad, .bad, .bad, .bad, .bad, .bad, .bad, .bad, .bad, .bad, .bad, .bad, .bad, .bad, .bad, .bad, .bad, .bad, .bad, .bad, .bad, .bad, .bad, .bad, .bad, .bad, .bad, .bad, .bad, .bad, .bad, .bad, .bad, .bad, .bad, .bad, .bad, .bad, .bad, .bad, .bad, .bad], memL [some (.row 1 (cl .u8 b))], []⟩, 1⟩
  | some tail => ⟨⟨[.bad, .bad, .bad, .bad, .v false [.sl 0 [] 0 b.length], .bad, .bad, .bad, .bad, .bad, .v false [.sl 1 [] 0 hot.length], .bad, .bad, .bad, .bad, .bad, .bad, .bad, .bad, .bad, .bad, .bad, .bad, .bad, .bad, .bad, .bad, .bad, .bad, .bad, .bad, .bad, .bad, .bad, .bad, .bad, .bad, .bad, .bad, .bad, .bad, .bad, .bad, .bad, .bad, .bad, .bad, .bad, .bad, .bad, .bad, .bad, .bad, .bad, .bad, .bad, .bad, .bad, .bad, .bad, .bad, .bad, .bad, .bad, .bad, .bad, .bad, .bad, .bad, .bad, .bad, .bad, .bad, .bad, .bad, .bad, .bad, .bad, .bad, .bad, .bad, .bad, .bad, .bad, .bad, .bad, .bad, .bad, .bad, .bad, .bad, .bad], memL [some (.row 1 (cl .u8 b)), some (.row 1 (cl .i64 (hot ++ tail)))], []⟩, 2⟩
def Q_hotB (b hot : List Int) (r : AE × XS) : Prop := ∃ form : Option (List Int), (form = none → hot = []) ∧ r = (.exit 0, Z_hotB b hot form)
theorem loop_hotB (ws b : List Int) (hws : ws.length ≤ 14) :
    ∃ r, Q_hotB b (hotAt ws ws.length) r ∧ ∀ x, head true d14_0 x = S_hotB ws b (0, [], some []) → X tab l14_0 x = some r := by
  refine loopE (S_hotB ws b) (fun s => ws.length - s.1) (I_hotB ws) _ (fun ⟨i, hot, form⟩ ⟨hi, hhot, hform⟩ => ?_) (0, [], some []) ⟨Nat.zero_le _, rfl, fun h => (by cases h)⟩
  simp only at hi hhot hform
  cases hl : ws.drop i with
  | nil =>
    obtain rfl := drop_end hl hi
    right
    cases form with
    | none =>
      simp (maxSteps := 4000000) -implicitDefEqProofs [b14_0, S_hotB, x_seq, x_cond, x_block, x_region, x_skip, x_exit, x_ret, head_id, runG, runOps, doOp, wantB, stepOp, AO.eff, pureOp, St.get, St.one, St.num, St.put, St.optNum, binA, binInt, List.take, List.drop, -Prod.exists]
      exact ⟨none, fun _ => by rw [← hhot]; exact hform rfl, by change _ = _; kernel_rfl⟩
    | some tail =>
      rw [← hhot]
      simp (maxSteps := 4000000) -implicitDefEqProofs [b14_0, S_hotB, x_seq, x_cond, x_block, x_region, x_skip, x_exit, x_ret, head_id, runG, runOps, doOp, wantB, stepOp, AO.eff, pureOp, St.get, St.one, St.num, St.put, St.optNum, binA, binInt, List.take, List.drop, -Prod.exists]
      exact ⟨some tail, fun h => (by cases h), by change _ = _; kernel_rfl⟩
  | cons y r =>
    left
    have hi' := drop_lt hl
    have h1 : (0 ≤ (i : Int) ∧ (i : Int) < (ws.length : Int)) := by omega
    have h2 := fun t => cl_read (k := .i64) hl t []
    have h4 := wrap_next hi' (show ws.length ≤ 281474976710656 by omega)
    have hk : hotOk hot = true := by rw [hhot]; exact hotAt_ok _ _ rfl
    have hn := hotAt_next hl
    rw [← hhot] at hn
    have hlen := hotOk_len hk
    by_cases hc : extOf y < 0
    · rw [if_pos hc] at hn
      have hok : touchOk hot y = false := by
        simp only [touchOk, hk, Bool.true_and, decide_eq_false_iff_not]
        omega
      by_cases he : hot = []
      · subst he
        have gt := r_Touch_nil_bad y hc
        have gt2 := r_Touch_bad [] (by simp) y hok
        rw [if_pos rfl] at gt2
        simp only [List.length_nil, cl_nil] at gt2
        cases form with
        | none =>
          simp (maxSteps := 4000000) -implicitDefEqProofs [b14_0, S_hotB, x_seq, x_cond, x_block, x_region, x_skip, x_exit, x_ret, head_id, runG, runOps, doOp, wantB, stepOp, AO.eff, pureOp, St.get, St.one, St.num, St.put, St.optNum, binA, binInt, List.take, List.drop, callRO, addMem_nil, roArgs, roL, roA, srcCells, A1.ownB, addMem, shift, ren, SV.map, Ob.map, Ob.noRo, SV.noRo, A1.noRo, List.range, List.range.loop, cellsAt, memL_app, h1, h2, h4, hi', gt, gt2, cl_length, -Prod.exists]
          refine ⟨(i + 1, [], none), ?_, ?_, hi', hn.symm, fun _ => rfl⟩
          · simp only [S_hotB]
            change _ = _
            kernel_rfl
          · simp only; omega
        | some tail =>
          simp (maxSteps := 4000000) -implicitDefEqProofs [b14_0, S_hotB, x_seq, x_cond, x_block, x_region, x_skip, x_exit, x_ret, head_id, runG, runOps, doOp, wantB, stepOp, AO.eff, pureOp, St.get, St.one, St.num, St.put, St.optNum, binA, binInt, List.take, List.drop, callRO, addMem_nil, roArgs, roL, roA, srcCells, A1.ownB, addMem, shift, ren, SV.map, Ob.map, Ob.noRo, SV.noRo, A1.noRo, List.range, List.range.loop, cellsAt, memL_app, h1, h2, h4, hi', gt, gt2, cl_length, -Prod.exists]
          refine ⟨(i + 1, [], none), ?_, ?_, hi', hn.symm, fun _ => rfl⟩
          · simp only [S_hotB]
            change _ = _
            kernel_rfl
          · simp only; omega
      · have gt := r_Touch_bad hot (by omega) y hok
        rw [if_neg he] at gt
        cases form with
        | none => exact absurd (hform rfl) he
        | some tail =>
          have u5 : (cl .i64 (hot ++ tail)).take hot.length = cl .i64 hot := by rw [cl_take, List.take_left]
          have u6 : hot.length ≤ (cl .i64 (hot ++ tail)).length := by rw [cl_length]; simp
          simp (maxSteps := 4000000) -implicitDefEqProofs [b14_0, S_hotB, x_seq, x_cond, x_block, x_region, x_skip, x_exit, x_ret, head_id, runG, runOps, doOp, wantB, stepOp, AO.eff, pureOp, St.get, St.one, St.num, St.put, St.optNum, binA, binInt, List.take, List.drop, callRO, addMem_nil, roArgs, roL, roA, srcCells, A1.ownB, addMem, shift, ren, SV.map, Ob.map, Ob.noRo, SV.noRo, A1.noRo, List.range, List.range.loop, cellsAt, memL_app, h1, h2, h4, hi', gt, u5, u6, cl_length, -Prod.exists]
          refine ⟨(i + 1, hot, some []), ?_, ?_, hi', hn.symm, fun h => by cases h⟩
          · simp only [S_hotB, List.append_nil]
            change _ = _
            kernel_rfl
          · simp only; omega
    · rw [if_neg hc] at hn
      have hok : touchOk hot y = true := by
        simp only [touchOk, hk, Bool.true_and, decide_eq_true_eq]
        omega
      have hk2 := hotOk_touch hk hc
      have hlen2 := hotOk_len hk2
      obtain ⟨tail2, gt⟩ := r_Touch hot y hok
      cases form with
      | none =>
        obtain rfl := hform rfl
        have gt3 := r_Touch_nil y hc
        have e9 : (touchAll [] y).take 2 = [extOf y] := by simp [touchAll, without]
        rw [e9] at hn
        generalize extOf y = e at gt3 hn
        simp (maxSteps := 4000000) -implicitDefEqProofs [b14_0, S_hotB, x_seq, x_cond, x_block, x_region, x_skip, x_exit, x_ret, head_id, runG, runOps, doOp, wantB, stepOp, AO.eff, pureOp, St.get, St.one, St.num, St.put, St.optNum, binA, binInt, List.take, List.drop, callRO, addMem_nil, roArgs, roL, roA, srcCells, A1.ownB, addMem, shift, ren, SV.map, Ob.map, Ob.noRo, SV.noRo, A1.noRo, List.range, List.range.loop, cellsAt, memL_app, h1, h2, h4, hi', gt3, cl_length, -Prod.exists]
        refine ⟨(i + 1, [e], some []), ?_, ?_, hi', hn.symm, fun h => by cases h⟩
        · simp only [S_hotB]
          change _ = _
          kernel_rfl
        · simp only; omega
      | some tail =>
        have u5 : (cl .i64 (hot ++ tail)).take hot.length = cl .i64 hot := by rw [cl_take, List.take_left]
        have u6 : hot.length ≤ (cl .i64 (hot ++ tail)).length := by rw [cl_length]; simp
        generalize (touchAll hot y).take 2 = R2 at gt hn hlen2
        generalize touchX (touchAll hot y) = o at gt
        simp (maxSteps := 4000000) -implicitDefEqProofs [b14_0, S_hotB, x_seq, x_cond, x_block, x_region, x_skip, x_exit, x_ret, head_id, runG, runOps, doOp, wantB, stepOp, AO.eff, pureOp, St.get, St.one, St.num, St.put, St.optNum, binA, binInt, List.take, List.drop, callRO, addMem_nil, roArgs, roL, roA, srcCells, A1.ownB, addMem, shift, ren, SV.map, Ob.map, Ob.noRo, SV.noRo, A1.noRo, List.range, List.range.loop, cellsAt, memL_app, h1, h2, h4, hi', gt, u5, u6, cl_length, -Prod.exists]
        refine ⟨(i + 1, R2, some tail2), ?_, ?_, hi', hn.symm, fun h => by cases h⟩
        · simp only [S_hotB]
          change _ = _
          kernel_rfl
        · simp only; omega
theorem law_FnHotBook (l : List Int) (hn : l.length ≤ 140737488351232) (hw : ∀ x ∈ l, (Lit.int .u8 x).wf = true) :
    runRO (X tab) tab 14 [.v false [.ro l.length (cl .u8 l)]] = some (.v false [.bool true], []) := by
  have hb := r_big l
  by_cases h1 : (1048576 : Int) < (l.length : Int)
  · rw [decide_eq_true h1] at hb
    unfold runRO
    simp (maxSteps := 4000000) -implicitDefEqProofs [tab14, a14, x_seq, x_cond, x_block, x_region, x_skip, x_exit, x_ret, head_id, runG, runOps, doOp, wantB, stepOp, AO.eff, pureOp, St.get, St.one, St.num, St.put, St.optNum, binA, binInt, List.take, List.drop, callRO, addMem_nil, roArgs, roL, roA, srcCells, A1.ownB, addMem, shift, ren, SV.map, Ob.map, Ob.noRo, SV.noRo, A1.noRo, List.range, List.range.loop, resOf, resSV, SV.map, SV.ids, A1.ids, reach, allObs, ren, pos, Ob.map, St.canon, memL, List.range, List.range.loop, hb]
  · rw [decide_eq_false h1] at hb
    have hl : l.length ≤ 1048576 := by omega
    obtain ⟨ws, ⟨hwl, _⟩, e0⟩ := r_DrawHotBook l hl
    obtain ⟨k, cs, ⟨hk, hcl, hcB⟩, e1⟩ := r_DrawHotReplay l hl
    have g1 := r_HotBook ws (by omega)
    have g2 := r_sHotBook ws (by omega)
    have hB := Bytes_book ws ([], [], 1) (fun x hx => by simp at hx)
    have hbl := book_length ws ([], [], 1) (by simp) (by simp)
    have hlc : (cs.take k).length = k := by rw [List.length_take]; omega
    have hcB' : Bytes (cs.take k) := fun x hx => hcB x (List.mem_of_mem_take hx)
    have g3 := r_HotReplay (cs.take k) hcB' (by omega)
    have g4 := r_sHotReplay (cs.take k) hcB' (by omega)
    have p1 := repF_len (cs.take k) ((cs.take k).length + 1) [] 0 1 (by simp)
    have p2 := repF_ok (cs.take k) ((cs.take k).length + 1) [] 0 1 rfl
    have p3 := repF_used (cs.take k) ((cs.take k).length + 1) [] 0 1 (by simp) (Nat.zero_le _)
    rw [hlc] at g3 g4 p1 p2 p3
    generalize repF (cs.take k) (k + 1) [] 0 1 = res at g3 g4 p1 p2 p3
    obtain ⟨pp, uu⟩ := res
    simp only at g3 g4 p1 p2 p3
    have c1 := r_sameInts pp (by omega)
    have c2 := r_HotOk pp (by omega)
    rw [p2] at c2
    obtain ⟨w1, w2⟩ := whole_gen ws [] [] 1 [] ((bookF ([], [], 1) ws).1.length + 1) rfl (.inl rfl) (by omega) (by omega) (by simp; omega)
    simp only [List.length_nil] at w1 w2
    have g5 := r_HotReplay (bookF ([], [], 1) ws).1 hB (by omega)
    have p4 := repF_len (bookF ([], [], 1) ws).1 ((bookF ([], [], 1) ws).1.length + 1) [] 0 1 (by simp)
    generalize repF (bookF ([], [], 1) ws).1 ((bookF ([], [], 1) ws).1.length + 1) [] 0 1 = res2 at g5 w1 w2 p4
    obtain ⟨told, used⟩ := res2
    simp only at g5 w1 w2 p4
    subst w2
    have hAt : (bookF ([], [], 1) ws).2.1 = hotAt ws ws.length := by rw [hotAt, List.take_length]
    rw [hAt] at w1
    have hkk : hotOk (hotAt ws ws.length) = true := hotAt_ok _ _ rfl
    have hC := w1.c hkk
    have hlh := hotOk_len hkk
    have m1 := r_HotMarks told (by omega)
    have m2 := r_HotMarks (hotAt ws ws.length) (by omega)
    have m3 := r_HotMarks_nil'
    rw [hC] at m1
    have m8 : (hotC (hotAt ws ws.length)).length ≤ 1048576 := by
      have : ∀ l : List Int, (hotC l).length ≤ 8 := by
        intro l
        unfold hotC
        split
        · exact Nat.le_trans (List.length_filter_le _ _) (by simp)
        · simp
      have := this (hotAt ws ws.length)
      omega
    have c3 := r_sameInts (hotC (hotAt ws ws.length)) m8
    obtain ⟨r, ⟨form, hform, rfl⟩, hr⟩ := loop_hotB ws (bookF ([], [], 1) ws).1 hwl
    have v1 : (cl .u8 (bookF ([], [], 1) ws).1).take (bookF ([], [], 1) ws).1.length = cl .u8 (bookF ([], [], 1) ws).1 := cl_self
    have v2 : (cl .u8 cs).take k = cl .u8 (cs.take k) := cl_take
    have v3 : k ≤ (cl .u8 cs).length := by rw [cl_length]; exact hk
    have v4 : (cl .i64 ws).take ws.length = cl .i64 ws := cl_self
    have v5 : (cl .i64 pp).take pp.length = cl .i64 pp := cl_self
    have v6 : (cl .i64 told).take told.length = cl .i64 told := cl_self
    have v7 : (cl .i64 (hotC (hotAt ws ws.length))).take (hotC (hotAt ws ws.length)).length = cl .i64 (hotC (hotAt ws ws.length)) := cl_self
    have p3' : ¬ (k : Int) < (uu : Int) := by omega
    have hcN : hotC [] = [] := rfl
    generalize (bookF ([], [], 1) ws).1 = b at *
    generalize hotAt ws ws.length = hot at *
    unfold runRO
    simp (maxSteps := 4000000) -implicitDefEqProofs [tab14, a14, x_seq, x_cond, x_block, x_region, x_skip, x_exit, x_ret, head_id, runG, runOps, doOp, wantB, stepOp, AO.eff, pureOp, St.get, St.one, St.num, St.put, St.optNum, binA, binInt, List.take, List.drop, gOp, gOp0, gOpL, gResL, updO, gRes, gEff, addObs_nil, addObs_one, freshB_memL, freshB_none, freshB_upd, freshB_addMem, freshB_addObs, effOp2, effOp, memL_app, stoRow, cellsAt, toCells, toCell, scalar_int, scalar_bool, scalar_str, scalar_sl, updAt, fromRo, upd, srcCells, A1.slB, flat_int, cl_flat', St.parts, Eng.inB, reps, fillA, newRowSt, appSt, oldOf, rest, kill, mapMem, SV.map, Ob.map, callRO, addMem_nil, roArgs, roL, roA, srcCells, A1.ownB, addMem, shift, ren, SV.map, Ob.map, Ob.noRo, SV.noRo, A1.noRo, List.range, List.range.loop, cellsAt, hb, e0, e1, g1, g2, g3, g4, c1, c2, v1, v2, v3, v4, v5, hk, p3', szOk, cl_nums, cl_length, binStr, bne]
    rw [hr _ (by change _ = _; kernel_rfl)]
    cases form with
    | none =>
      obtain rfl := hform rfl
      rw [hcN] at c3 m1
      simp only [List.length_nil, cl_nil] at c3 m1
      simp (maxSteps := 4000000) -implicitDefEqProofs [Z_hotB, x_seq, x_cond, x_block, x_region, x_skip, x_exit, x_ret, head_id, runG, runOps, doOp, wantB, stepOp, AO.eff, pureOp, St.get, St.one, St.num, St.put, St.optNum, binA, binInt, List.take, List.drop, callRO, addMem_nil, roArgs, roL, roA, srcCells, A1.ownB, addMem, shift, ren, SV.map, Ob.map, Ob.noRo, SV.noRo, A1.noRo, List.range, List.range.loop, resOf, resSV, SV.map, SV.ids, A1.ids, reach, allObs, ren, pos, Ob.map, St.canon, memL, List.range, List.range.loop, cellsAt, memL_app, g5, m1, m3, v1, v6, c3, szOk, cl_length]
    | some tail =>
      have u5 : (cl .i64 (hot ++ tail)).take hot.length = cl .i64 hot := by rw [cl_take, List.take_left]
      have u6 : hot.length ≤ (cl .i64 (hot ++ tail)).length := by rw [cl_length]; simp
      simp (maxSteps := 4000000) -implicitDefEqProofs [Z_hotB, x_seq, x_cond, x_block, x_region, x_skip, x_exit, x_ret, head_id, runG, runOps, doOp, wantB, stepOp, AO.eff, pureOp, St.get, St.one, St.num, St.put, St.optNum, binA, binInt, List.take, List.drop, callRO, addMem_nil, roArgs, roL, roA, srcCells, A1.ownB, addMem, shift, ren, SV.map, Ob.map, Ob.noRo, SV.noRo, A1.noRo, List.range, List.range.loop, resOf, resSV, SV.map, SV.ids, A1.ids, reach, allObs, ren, pos, Ob.map, St.canon, memL, List.range, List.range.loop, cellsAt, memL_app, g5, m1, m2, v1, v6, v7, u5, u6, c3, szOk, cl_length]
end Go.Proofs.Ytdagbeihjobmjaa.Eng.B
