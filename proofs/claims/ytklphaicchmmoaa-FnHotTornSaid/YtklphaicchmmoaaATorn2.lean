/- The book of touches, torn anywhere: the law's row. -/
import Derived.Test.YtklphaicchmmoaaATorn
namespace Go.Proofs.Ytklphaicchmmoaa.Eng.A
set_option linter.unusedSimpArgs false
set_option linter.unusedVariables false
set_option maxHeartbeats 8000000
set_option maxRecDepth 100000
open Go.RowKit Go.Proofs

theorem law_FnHotTorn (l : List Int) (hn : l.length ≤ 140737488351232) (hw : ∀ x ∈ l, (Lit.int .u8 x).wf = true) :
    runRO (X tab) tab 3 [.v false [.ro l.length (cl .u8 l)]] = some (.v false [.bool true], []) := by
  have hb := r_big l
  by_cases h1 : (1048576 : Int) < (l.length : Int)
  · rw [decide_eq_true h1] at hb
    unfold runRO
    simp (maxSteps := 4000000) -implicitDefEqProofs [tab3, a3, x_seq, x_cond, x_block, x_region, x_skip, x_exit, x_ret, head_id, runG, runOps, doOp, wantB, stepOp, AO.eff, pureOp, St.get, St.one, St.num, St.put, St.optNum, binA, binInt, List.take, List.drop, callRO, addMem_nil, roArgs, roL, roA, srcCells, A1.ownB, addMem, shift, ren, SV.map, Ob.map, Ob.noRo, SV.noRo, A1.noRo, List.range, List.range.loop, resOf, resSV, SV.map, SV.ids, A1.ids, reach, allObs, ren, pos, Ob.map, St.canon, memL, List.range, List.range.loop, hb]
  · rw [decide_eq_false h1] at hb
    have hl : l.length ≤ 1048576 := by omega
    obtain ⟨ws, ⟨hwl, _⟩, e0⟩ := r_DrawHotBook l hl
    obtain ⟨x, ⟨x0, x1⟩, e1⟩ := r_at l hl hw 1 (by omega)
    have e1' : runRO (X tab) tab 20 [.v false [.ro l.length (cl .u8 l)], .v false [.int .i64 1]] = some (.v false [.int .i64 x], []) := e1
    have g1 := r_HotBook ws (by omega)
    have g2 := r_sHotBook ws (by omega)
    have hB := Bytes_book ws ([], [], 1) (fun x hx => by simp at hx)
    have hbl := book_length ws ([], [], 1) (by simp) (by simp)
    have w1 : IntKind.i64.wrap (((bookF ([], [], 1) ws).1.length : Int) + 1) = ((bookF ([], [], 1) ws).1.length : Int) + 1 := wrap_id (by omega) (by omega)
    have k0 : 0 ≤ x.tmod (((bookF ([], [], 1) ws).1.length : Int) + 1) := Int.tmod_nonneg _ x0
    have k1 : x.tmod (((bookF ([], [], 1) ws).1.length : Int) + 1) < ((bookF ([], [], 1) ws).1.length : Int) + 1 := Int.tmod_lt_of_pos _ (by omega)
    have hz : ¬ (((bookF ([], [], 1) ws).1.length : Int) + 1) = 0 := by omega
    obtain ⟨p, hp⟩ : ∃ p : Nat, x.tmod (((bookF ([], [], 1) ws).1.length : Int) + 1) = p := ⟨(x.tmod (((bookF ([], [], 1) ws).1.length : Int) + 1)).toNat, by omega⟩
    rw [hp] at k1
    have hpl : p ≤ (bookF ([], [], 1) ws).1.length := by omega
    have hlp : ((bookF ([], [], 1) ws).1.take p).length = p := by rw [List.length_take]; omega
    obtain ⟨⟨j, j1, j2, j3⟩, _, t2, t3⟩ := torn_gen ws [] [] 1 [] p (p + 1) rfl (.inl rfl) (by omega) (by omega) (by simp) (by rw [hlp]; simp; omega)
    simp only [List.length_nil] at j2 t2 t3
    rw [hlp] at t2
    have g3 := r_HotReplay ((bookF ([], [], 1) ws).1.take p) (fun x hx => hB x (List.mem_of_mem_take hx)) (by rw [hlp]; omega)
    rw [hlp] at g3
    have hr2 := repF_len ((bookF ([], [], 1) ws).1.take p) (p + 1) [] 0 1 (by simp)
    generalize hres : repF ((bookF ([], [], 1) ws).1.take p) (p + 1) [] 0 1 = res at *
    obtain ⟨told, used⟩ := res
    simp only at t2 t3 g3 hr2 j2
    have htk : ((bookF ([], [], 1) ws).1.take p).take used = (bookF ([], [], 1) ws).1.take used := by rw [List.take_take, Nat.min_eq_left t2]
    rw [htk] at t3
    have hlu : ((bookF ([], [], 1) ws).1.take used).length = used := by rw [List.length_take]; omega
    have g4 := r_HotReplay ((bookF ([], [], 1) ws).1.take used) (fun x hx => hB x (List.mem_of_mem_take hx)) (by rw [hlu]; omega)
    rw [hlu, t3 (used + 1) (by omega)] at g4
    simp only at g4
    have hit : ∀ t : Bool, ((told = [] → t = true) ∧ ∀ j, 1 ≤ j → j ≤ ws.length → hotC told = hotC (hotAt ws j) → t = true) → t = true := by
      intro t ⟨a1, a2⟩
      by_cases hj0 : j = 0
      · subst hj0
        refine a1 ?_
        rcases j2 with h | h
        · exact h
        · exact h
      · exact a2 j (by omega) j1 (j2.c j3)
    obtain ⟨r, ⟨t, ht, rfl⟩, hr⟩ := loop_torn ws (bookF ([], [], 1) ws).1 told used hwl (by omega) (decide (told.length = 0)) (fun h => by simp [h])
    obtain rfl := hit t ht
    have c1 := r_sameInts told (by omega)
    have v1 : (cl .u8 (bookF ([], [], 1) ws).1).take (bookF ([], [], 1) ws).1.length = cl .u8 (bookF ([], [], 1) ws).1 := cl_self
    have v2 : (cl .u8 (bookF ([], [], 1) ws).1).take p = cl .u8 ((bookF ([], [], 1) ws).1.take p) := cl_take
    have v3 : (cl .u8 (bookF ([], [], 1) ws).1).take used = cl .u8 ((bookF ([], [], 1) ws).1.take used) := cl_take
    have v4 : (cl .i64 ws).take ws.length = cl .i64 ws := cl_self
    have v5 : (cl .i64 told).take told.length = cl .i64 told := cl_self
    have hc1 : cutB (bookF ([], [], 1) ws).1.length none (some (p : Int)) = some (0, p) := by simp [cutB]; omega
    have hc2 : cutB (bookF ([], [], 1) ws).1.length none (some (used : Int)) = some (0, used) := by simp [cutB]; omega
    have hul : used ≤ (bookF ([], [], 1) ws).1.length := by omega
    have hz0 : (decide (told.length = 0)) = ((told.length : Int) == 0) := by
      rw [Bool.eq_iff_iff, decide_eq_true_eq, beq_iff_eq]
      omega
    rw [hz0] at hr
    generalize (bookF ([], [], 1) ws).1 = b at *
    unfold runRO
    simp (maxSteps := 4000000) -implicitDefEqProofs [tab3, a3, x_seq, x_cond, x_block, x_region, x_skip, x_exit, x_ret, head_id, runG, runOps, doOp, wantB, stepOp, AO.eff, pureOp, St.get, St.one, St.num, St.put, St.optNum, binA, binInt, List.take, List.drop, gOp, gRes, gEff, addObs_nil, addObs_one, freshB_memL, freshB_none, freshB_upd, freshB_addMem, freshB_addObs, effOp2, effOp, memL_app, stoRow, cellsAt, toCells, toCell, scalar_int, scalar_bool, scalar_str, scalar_sl, updAt, fromRo, upd, srcCells, A1.slB, flat_int, cl_flat', St.parts, Eng.inB, reps, fillA, newRowSt, appSt, oldOf, rest, kill, mapMem, SV.map, Ob.map, callRO, addMem_nil, roArgs, roL, roA, srcCells, A1.ownB, addMem, shift, ren, SV.map, Ob.map, Ob.noRo, SV.noRo, A1.noRo, List.range, List.range.loop, cellsAt, hb, e0, e1', g1, g2, g3, w1, hz, hp, v1, v2, v4, hc1, hpl, szOk, cl_nums, cl_length, binStr, bne]
    rw [hr _ (by change _ = _; kernel_rfl)]
    simp (maxSteps := 4000000) -implicitDefEqProofs [x_seq, x_cond, x_block, x_region, x_skip, x_exit, x_ret, head_id, runG, runOps, doOp, wantB, stepOp, AO.eff, pureOp, St.get, St.one, St.num, St.put, St.optNum, binA, binInt, List.take, List.drop, callRO, addMem_nil, roArgs, roL, roA, srcCells, A1.ownB, addMem, shift, ren, SV.map, Ob.map, Ob.noRo, SV.noRo, A1.noRo, List.range, List.range.loop, resOf, resSV, SV.map, SV.ids, A1.ids, reach, allObs, ren, pos, Ob.map, St.canon, memL, List.range, List.range.loop, cellsAt, memL_app, g4, c1, v3, v5, hc2, hul, szOk, cl_length]
end Go.Proofs.Ytklphaicchmmoaa.Eng.A
