/- Drawn turns are read from their bytes as they were: the law. -/
import Derived.Test.YtdagbeihjobmjaaBDraw6
namespace Go.Proofs.Ytdagbeihjobmjaa.Eng.B
set_option linter.unusedSimpArgs false
set_option linter.unusedVariables false
set_option maxHeartbeats 8000000
set_option maxRecDepth 100000
open Go.RowKit Go.Proofs

theorem getF_two (n : Nat) (h1 : 128 ≤ n) (h2 : n ≤ 16383) (r : List Int) : getF 0 0 (((n % 128 + 128 : Nat) : Int) :: ((n / 128 : Nat) : Int) :: r) = some (n, 2) := by
  have e1 : ¬ n % 128 + 128 < 128 := by omega
  have e2 : (n % 128 + 128) % 128 = n % 128 := by omega
  have e3 : n / 128 < 128 := by omega
  have e4 : n / 128 % 128 = n / 128 := by omega
  have e5 : n % 128 + n / 128 * 128 = n := by omega
  have e6 : ¬ (2147483647 < n ∨ n / 128 = 0 ∧ 0 < 1) := by omega
  simp only [getF, Int.toNat_natCast, e1, e2, e3, e4, if_false, if_true, Nat.zero_add, Nat.pow_zero, Nat.mul_one, Nat.pow_one, e5, e6, show (0 : Nat) < 5 from by omega, show (1 : Nat) < 5 from by omega]
theorem getNum_two (D : List Int) (i n : Nat) (r : List Int) (h : D.drop i = ((n % 128 + 128 : Nat) : Int) :: ((n / 128 : Nat) : Int) :: r) (h1 : 128 ≤ n) (h2 : n ≤ 16383) : getNum D (i : Int) = some (n, i + 2) := by
  unfold getNum
  rw [if_neg (by omega), Int.toNat_natCast, h, getF_two n h1 h2]
  rfl
theorem turnB_long {a o n : Nat} (ha : a ≤ 3) (ho : o ≤ 4) (hn : 128 ≤ n) (hn2 : n ≤ 16383) : ∃ f0 f1 f2 f3 : Int, turnB a ((o : Int) - 1) n = [((n % 128 + 128 : Nat) : Int), ((n / 128 : Nat) : Int), (a : Int), (o : Int), f0, f1, f2, f3] := by
  have e1 : putN n = [((n % 128 + 128 : Nat) : Int), ((n / 128 : Nat) : Int)] := by
    unfold putN
    rw [initN_big (by omega), lastN_big (by omega), initN_small (by omega), lastN_small (by omega)]
    rfl
  have e2 : putN a = [(a : Int)] := by
    unfold putN
    rw [initN_small (by omega), lastN_small (by omega)]
    rfl
  have e3 : putN o = [(o : Int)] := by
    unfold putN
    rw [initN_small (by omega), lastN_small (by omega)]
    rfl
  have e4 : ((o : Int) - 1 + 1).toNat = o := by omega
  have e5 : ∀ s : Nat, ∃ f0 f1 f2 f3 : Int, turnP (a : Int) ((o : Int) - 1) (n : Int) ++ fourN s = [((n % 128 + 128 : Nat) : Int), ((n / 128 : Nat) : Int), (a : Int), (o : Int), f0, f1, f2, f3] := by
    intro s
    unfold turnP fourN
    rw [Int.toNat_natCast, Int.toNat_natCast, e4, e1, e2, e3]
    exact ⟨_, _, _, _, rfl⟩
  exact e5 _
/-- A turn is read from its bytes as it was; without the last of them it is none. -/
theorem turn_read {a o n : Nat} (hok : turnOk a ((o : Int) - 1) n = true) : turnOf (turnB a ((o : Int) - 1) n) (0 : Nat) = some (n, a, o, turnB a ((o : Int) - 1) n) ∧
    turnOf ((turnB a ((o : Int) - 1) n).take ((turnB a ((o : Int) - 1) n).length - 1)) (0 : Nat) = none ∧ 7 ≤ (turnB a ((o : Int) - 1) n).length ∧ (turnB a ((o : Int) - 1) n).length ≤ 8 := by
  obtain ⟨_, h1, _, h3, h4, h5⟩ := turn_facts hok
  have ha : a ≤ 3 := by omega
  have ho : o ≤ 4 := by omega
  by_cases hn : n ≤ 127
  · obtain ⟨f0, f1, f2, f3, hT⟩ := turnB_short ha ho hn
    have hlen : (turnB a ((o : Int) - 1) n).length = 7 := by rw [hT]; rfl
    have w := turnOf_whole ha ho hn hok []
    rw [List.append_nil] at w
    exact ⟨w, turnOf_cut ha ho hn _ (by omega), by omega, by omega⟩
  · obtain ⟨f0, f1, f2, f3, hT⟩ := turnB_long ha ho (show 128 ≤ n by omega) (by omega)
    have hlen : (turnB a ((o : Int) - 1) n).length = 8 := by rw [hT]; rfl
    have gen : ∀ (D : List Int) (r : List Int), D = ((n % 128 + 128 : Nat) : Int) :: ((n / 128 : Nat) : Int) :: (a : Int) :: (o : Int) :: r → turnOf D (0 : Nat) = if (turnOk a ((o : Int) - 1) n && hasPre D (turnB a ((o : Int) - 1) n)) = true then some (n, a, o, turnB a ((o : Int) - 1) n) else none := by
      intro D r hD
      unfold turnOf
      rw [getNum_two D 0 n ((a : Int) :: (o : Int) :: r) (by rw [hD]; rfl) (by omega) (by omega)]
      simp only [Nat.zero_add]
      rw [getNum_at D 2 a ((o : Int) :: r) (by rw [hD]; rfl) (by omega)]
      simp only [Nat.reduceAdd]
      rw [getNum_at D 3 o r (by rw [hD]; rfl) (by omega)]
      simp only [Int.toNat_natCast, List.drop_zero]
    refine ⟨?_, ?_, by omega, by omega⟩
    · rw [gen _ _ hT, if_pos]
      simp only [hok, Bool.true_and, hasPre, List.take_length, Bool.and_eq_true, decide_eq_true_eq]
      exact ⟨Nat.le_refl _, by simp [eqB]⟩
    · rw [gen _ [f0, f1, f2] (by rw [hlen, hT]; rfl), if_neg]
      simp only [hasPre, List.length_take, hlen, hok, Bool.true_and, Bool.and_eq_true, decide_eq_true_eq]
      omega
/-- What is read is what stands there. -/
theorem turnOf_there {b : List Int} {i : Int} {n a c : Nat} {T : List Int} (h : turnOf b i = some (n, a, c, T)) : ∃ k : Nat, i = (k : Int) ∧ k + T.length ≤ b.length ∧ eqB ((b.drop k).take T.length) T = true ∧ T = turnB a ((c : Int) - 1) n ∧ turnOk a ((c : Int) - 1) n = true ∧ T.length ≤ 19 := by
  have h0 : 0 ≤ i := by
    unfold turnOf at h
    split at h
    · cases h
    · rename_i g1
      exact (getNum_bound g1).1
  obtain ⟨k, rfl⟩ : ∃ k : Nat, i = k := ⟨i.toNat, by omega⟩
  have hf := turnOf_facts h
  unfold turnOf at h
  split at h
  · cases h
  · split at h
    · cases h
    · split at h
      · cases h
      · split at h
        · rename_i hh
          simp only [Option.some.injEq, Prod.mk.injEq] at h
          obtain ⟨rfl, rfl, rfl, rfl⟩ := h
          simp only [Bool.and_eq_true, Int.toNat_natCast] at hh
          refine ⟨k, rfl, hf.1, ?_, rfl, hh.1, hf.2.2.2⟩
          have := hh.2
          simp only [hasPre, Bool.and_eq_true] at this
          exact this.2
        · cases h
theorem law_FnTurns (l : List Int) (hn : l.length ≤ 140737488351232) (hw : ∀ x ∈ l, (Lit.int .u8 x).wf = true) :
    runRO (X tab) tab 6 [.v false [.ro l.length (cl .u8 l)]] = some (.v false [.bool true], []) := by
  have hb := r_big l
  by_cases h1 : (1048576 : Int) < (l.length : Int)
  · rw [decide_eq_true h1] at hb
    unfold runRO
    simp (maxSteps := 4000000) -implicitDefEqProofs [tab6, a6, x_seq, x_cond, x_block, x_region, x_skip, x_exit, x_ret, head_id, runG, runOps, doOp, wantB, stepOp, AO.eff, pureOp, St.get, St.one, St.num, St.put, St.optNum, binA, binInt, List.take, List.drop, callRO, addMem_nil, roArgs, roL, roA, srcCells, A1.ownB, addMem, shift, ren, SV.map, Ob.map, Ob.noRo, SV.noRo, A1.noRo, List.range, List.range.loop, resOf, resSV, SV.map, SV.ids, A1.ids, reach, allObs, ren, pos, Ob.map, St.canon, memL, List.range, List.range.loop, hb]
  · rw [decide_eq_false h1] at hb
    have hl : l.length ≤ 1048576 := by omega
    obtain ⟨a, o, n, ⟨a1, a2, o1, o2, hnn⟩, e0⟩ := r_DrawTurnBytes l hl
    obtain ⟨k, cs, x, ⟨hk, hcl, hcB, hx⟩, e1⟩ := r_DrawTurnOf l hl
    have hlc : (cs.take k).length = k := by rw [List.length_take]; omega
    have hcB' : Bytes (cs.take k) := fun x hx => hcB x (List.mem_of_mem_take hx)
    have g1 := r_TurnOf (cs.take k) hcB' (by omega) x hx
    have g2 := r_sTurnOf (cs.take k) hcB' (by omega) x hx
    have v2 : (cl .u8 cs).take k = cl .u8 (cs.take k) := cl_take
    have v3 : k ≤ (cl .u8 cs).length := by rw [cl_length]; exact hk
    cases hto : turnOf (cs.take k) x with
    | none =>
      rw [hlc, hto] at g1 g2
      simp only [turnSV] at g1 g2
      cases hok : turnOk a o n with
      | true =>
        obtain ⟨f1, f2, f3, f4, f5, f6⟩ := turn_facts hok
        obtain ⟨a', rfl⟩ : ∃ a' : Nat, a = a' := ⟨a.toNat, by omega⟩
        obtain ⟨o', rfl⟩ : ∃ o' : Nat, o = (o' : Int) - 1 := ⟨(o + 1).toNat, by omega⟩
        obtain ⟨n', rfl⟩ : ∃ n' : Nat, n = n' := ⟨n.toNat, by omega⟩
        obtain ⟨q1, q2, q3, q4⟩ := turn_read hok
        have t1 := r_TurnBytes _ _ _ hok
        have t2 := r_sTurnBytes _ _ _ hok
        have hTB : Bytes (turnB (a' : Int) ((o' : Int) - 1) (n' : Int)) := by have := Bytes_turnR a' ((o' : Int) - 1) n'; unfold turnR at this; rwa [if_pos hok] at this
        have t3 := r_TurnOf (turnB (a' : Int) ((o' : Int) - 1) (n' : Int)) hTB (by omega) ((0 : Nat) : Int) (by omega)
        have t4 := r_TurnOf ((turnB (a' : Int) ((o' : Int) - 1) (n' : Int)).take ((turnB (a' : Int) ((o' : Int) - 1) (n' : Int)).length - 1)) (fun x hx => hTB x (List.mem_of_mem_take hx)) (by rw [List.length_take]; omega) ((0 : Nat) : Int) (by omega)
        rw [q1] at t3
        rw [q2] at t4
        generalize turnB (a' : Int) ((o' : Int) - 1) (n' : Int) = B at *
        have hl1 : (B.take (B.length - 1)).length = B.length - 1 := by rw [List.length_take]; omega
        rw [hl1] at t4
        simp only [turnSV, Int.ofNat_zero, Int.zero_add] at t3 t4
        have v5 : (cl .u8 B).take B.length = cl .u8 B := cl_self
        have v6 : (cl .u8 B).take (B.length - 1) = cl .u8 (B.take (B.length - 1)) := cl_take
        have w1 : IntKind.i64.wrap ((B.length : Int) - 1) = (B.length : Int) - 1 := wrap_id (by omega) (by omega)
        have z1 : ((B.length : Int) == 0) = false := by rw [beq_eq_false_iff_ne]; omega
        have z2 : ¬ B = [] := fun e => by rw [e] at q3; simp at q3
        have hc9 : cutB B.length none (some ((B.length : Int) - 1)) = some (0, B.length - 1) := by simp [cutB]; omega
        have hc8 : B.length - 1 ≤ B.length := by omega
        unfold runRO
        as_aux_lemma => simp (maxSteps := 4000000) -implicitDefEqProofs [tab6, a6, x_seq, x_cond, x_block, x_region, x_skip, x_exit, x_ret, head_id, runG, runOps, doOp, wantB, stepOp, AO.eff, pureOp, St.get, St.one, St.num, St.put, St.optNum, binA, binInt, List.take, List.drop, gOp, gOp0, gOpL, gResL, updO, gRes, gEff, addObs_nil, addObs_one, freshB_memL, freshB_none, freshB_upd, freshB_addMem, freshB_addObs, effOp2, effOp, memL_app, stoRow, cellsAt, toCells, toCell, scalar_int, scalar_bool, scalar_str, scalar_sl, updAt, fromRo, upd, srcCells, A1.slB, flat_int, cl_flat', St.parts, Eng.inB, reps, fillA, newRowSt, appSt, oldOf, rest, kill, mapMem, SV.map, Ob.map, callRO, addMem_nil, roArgs, roL, roA, srcCells, A1.ownB, addMem, shift, ren, SV.map, Ob.map, Ob.noRo, SV.noRo, A1.noRo, List.range, List.range.loop, resOf, resSV, SV.map, SV.ids, A1.ids, reach, allObs, ren, pos, Ob.map, St.canon, memL, List.range, List.range.loop, cellsAt, hb, e0, e1, g1, g2, v2, v3, hk, szOk, cl_nums, numsOfCells, cl_length, binStr, bne, t1, t2, t3, t4, v5, v6, w1, z1, z2, hc9, hc8]
      | false =>
        have t1 := r_TurnBytes_bad a o n hok
        have t2 := r_sTurnBytes_bad a o n hok
        have hor : ¬ a < 0 → ¬ 4 ≤ a → ¬ o < -1 → ¬ 4 ≤ o → ¬ a = o → ¬ n < 1 → 9999 < n := by
          intros
          unfold turnOk at hok
          simp only [Bool.and_eq_false_iff, Bool.not_eq_false', beq_iff_eq, rng_not] at hok
          omega
        unfold runRO
        by_cases c1 : a < 0
        · as_aux_lemma => simp (maxSteps := 4000000) -implicitDefEqProofs [tab6, a6, x_seq, x_cond, x_block, x_region, x_skip, x_exit, x_ret, head_id, runG, runOps, doOp, wantB, stepOp, AO.eff, pureOp, St.get, St.one, St.num, St.put, St.optNum, binA, binInt, List.take, List.drop, gOp, gOp0, gOpL, gResL, updO, gRes, gEff, addObs_nil, addObs_one, freshB_memL, freshB_none, freshB_upd, freshB_addMem, freshB_addObs, effOp2, effOp, memL_app, stoRow, cellsAt, toCells, toCell, scalar_int, scalar_bool, scalar_str, scalar_sl, updAt, fromRo, upd, srcCells, A1.slB, flat_int, cl_flat', St.parts, Eng.inB, reps, fillA, newRowSt, appSt, oldOf, rest, kill, mapMem, SV.map, Ob.map, callRO, addMem_nil, roArgs, roL, roA, srcCells, A1.ownB, addMem, shift, ren, SV.map, Ob.map, Ob.noRo, SV.noRo, A1.noRo, List.range, List.range.loop, resOf, resSV, SV.map, SV.ids, A1.ids, reach, allObs, ren, pos, Ob.map, St.canon, memL, List.range, List.range.loop, cellsAt, hb, e0, e1, g1, g2, v2, v3, hk, szOk, cl_nums, numsOfCells, cl_length, binStr, bne, t1, t2, c1]
        · skip
          by_cases c2 : 4 ≤ a
          · as_aux_lemma => simp (maxSteps := 4000000) -implicitDefEqProofs [tab6, a6, x_seq, x_cond, x_block, x_region, x_skip, x_exit, x_ret, head_id, runG, runOps, doOp, wantB, stepOp, AO.eff, pureOp, St.get, St.one, St.num, St.put, St.optNum, binA, binInt, List.take, List.drop, gOp, gOp0, gOpL, gResL, updO, gRes, gEff, addObs_nil, addObs_one, freshB_memL, freshB_none, freshB_upd, freshB_addMem, freshB_addObs, effOp2, effOp, memL_app, stoRow, cellsAt, toCells, toCell, scalar_int, scalar_bool, scalar_str, scalar_sl, updAt, fromRo, upd, srcCells, A1.slB, flat_int, cl_flat', St.parts, Eng.inB, reps, fillA, newRowSt, appSt, oldOf, rest, kill, mapMem, SV.map, Ob.map, callRO, addMem_nil, roArgs, roL, roA, srcCells, A1.ownB, addMem, shift, ren, SV.map, Ob.map, Ob.noRo, SV.noRo, A1.noRo, List.range, List.range.loop, resOf, resSV, SV.map, SV.ids, A1.ids, reach, allObs, ren, pos, Ob.map, St.canon, memL, List.range, List.range.loop, cellsAt, hb, e0, e1, g1, g2, v2, v3, hk, szOk, cl_nums, numsOfCells, cl_length, binStr, bne, t1, t2, c1, c2]
          · skip
            by_cases c3 : o < -1
            · as_aux_lemma => simp (maxSteps := 4000000) -implicitDefEqProofs [tab6, a6, x_seq, x_cond, x_block, x_region, x_skip, x_exit, x_ret, head_id, runG, runOps, doOp, wantB, stepOp, AO.eff, pureOp, St.get, St.one, St.num, St.put, St.optNum, binA, binInt, List.take, List.drop, gOp, gOp0, gOpL, gResL, updO, gRes, gEff, addObs_nil, addObs_one, freshB_memL, freshB_none, freshB_upd, freshB_addMem, freshB_addObs, effOp2, effOp, memL_app, stoRow, cellsAt, toCells, toCell, scalar_int, scalar_bool, scalar_str, scalar_sl, updAt, fromRo, upd, srcCells, A1.slB, flat_int, cl_flat', St.parts, Eng.inB, reps, fillA, newRowSt, appSt, oldOf, rest, kill, mapMem, SV.map, Ob.map, callRO, addMem_nil, roArgs, roL, roA, srcCells, A1.ownB, addMem, shift, ren, SV.map, Ob.map, Ob.noRo, SV.noRo, A1.noRo, List.range, List.range.loop, resOf, resSV, SV.map, SV.ids, A1.ids, reach, allObs, ren, pos, Ob.map, St.canon, memL, List.range, List.range.loop, cellsAt, hb, e0, e1, g1, g2, v2, v3, hk, szOk, cl_nums, numsOfCells, cl_length, binStr, bne, t1, t2, c1, c2, c3]
            · skip
              by_cases c4 : 4 ≤ o
              · as_aux_lemma => simp (maxSteps := 4000000) -implicitDefEqProofs [tab6, a6, x_seq, x_cond, x_block, x_region, x_skip, x_exit, x_ret, head_id, runG, runOps, doOp, wantB, stepOp, AO.eff, pureOp, St.get, St.one, St.num, St.put, St.optNum, binA, binInt, List.take, List.drop, gOp, gOp0, gOpL, gResL, updO, gRes, gEff, addObs_nil, addObs_one, freshB_memL, freshB_none, freshB_upd, freshB_addMem, freshB_addObs, effOp2, effOp, memL_app, stoRow, cellsAt, toCells, toCell, scalar_int, scalar_bool, scalar_str, scalar_sl, updAt, fromRo, upd, srcCells, A1.slB, flat_int, cl_flat', St.parts, Eng.inB, reps, fillA, newRowSt, appSt, oldOf, rest, kill, mapMem, SV.map, Ob.map, callRO, addMem_nil, roArgs, roL, roA, srcCells, A1.ownB, addMem, shift, ren, SV.map, Ob.map, Ob.noRo, SV.noRo, A1.noRo, List.range, List.range.loop, resOf, resSV, SV.map, SV.ids, A1.ids, reach, allObs, ren, pos, Ob.map, St.canon, memL, List.range, List.range.loop, cellsAt, hb, e0, e1, g1, g2, v2, v3, hk, szOk, cl_nums, numsOfCells, cl_length, binStr, bne, t1, t2, c1, c2, c3, c4]
              · skip
                by_cases c5 : a = o
                · subst c5
                  as_aux_lemma => simp (maxSteps := 4000000) -implicitDefEqProofs [tab6, a6, x_seq, x_cond, x_block, x_region, x_skip, x_exit, x_ret, head_id, runG, runOps, doOp, wantB, stepOp, AO.eff, pureOp, St.get, St.one, St.num, St.put, St.optNum, binA, binInt, List.take, List.drop, gOp, gOp0, gOpL, gResL, updO, gRes, gEff, addObs_nil, addObs_one, freshB_memL, freshB_none, freshB_upd, freshB_addMem, freshB_addObs, effOp2, effOp, memL_app, stoRow, cellsAt, toCells, toCell, scalar_int, scalar_bool, scalar_str, scalar_sl, updAt, fromRo, upd, srcCells, A1.slB, flat_int, cl_flat', St.parts, Eng.inB, reps, fillA, newRowSt, appSt, oldOf, rest, kill, mapMem, SV.map, Ob.map, callRO, addMem_nil, roArgs, roL, roA, srcCells, A1.ownB, addMem, shift, ren, SV.map, Ob.map, Ob.noRo, SV.noRo, A1.noRo, List.range, List.range.loop, resOf, resSV, SV.map, SV.ids, A1.ids, reach, allObs, ren, pos, Ob.map, St.canon, memL, List.range, List.range.loop, cellsAt, hb, e0, e1, g1, g2, v2, v3, hk, szOk, cl_nums, numsOfCells, cl_length, binStr, bne, t1, t2, c1, c2, c3, c4]
                · have c8 : (a == o) = false := by rw [beq_eq_false_iff_ne]; exact c5
                  by_cases c6 : n < 1
                  · as_aux_lemma => simp (maxSteps := 4000000) -implicitDefEqProofs [tab6, a6, x_seq, x_cond, x_block, x_region, x_skip, x_exit, x_ret, head_id, runG, runOps, doOp, wantB, stepOp, AO.eff, pureOp, St.get, St.one, St.num, St.put, St.optNum, binA, binInt, List.take, List.drop, gOp, gOp0, gOpL, gResL, updO, gRes, gEff, addObs_nil, addObs_one, freshB_memL, freshB_none, freshB_upd, freshB_addMem, freshB_addObs, effOp2, effOp, memL_app, stoRow, cellsAt, toCells, toCell, scalar_int, scalar_bool, scalar_str, scalar_sl, updAt, fromRo, upd, srcCells, A1.slB, flat_int, cl_flat', St.parts, Eng.inB, reps, fillA, newRowSt, appSt, oldOf, rest, kill, mapMem, SV.map, Ob.map, callRO, addMem_nil, roArgs, roL, roA, srcCells, A1.ownB, addMem, shift, ren, SV.map, Ob.map, Ob.noRo, SV.noRo, A1.noRo, List.range, List.range.loop, resOf, resSV, SV.map, SV.ids, A1.ids, reach, allObs, ren, pos, Ob.map, St.canon, memL, List.range, List.range.loop, cellsAt, hb, e0, e1, g1, g2, v2, v3, hk, szOk, cl_nums, numsOfCells, cl_length, binStr, bne, t1, t2, c1, c2, c3, c4, c5, c8, c6]
                  · skip
                    have c7 := hor c1 c2 c3 c4 c5 c6
                    as_aux_lemma => simp (maxSteps := 4000000) -implicitDefEqProofs [tab6, a6, x_seq, x_cond, x_block, x_region, x_skip, x_exit, x_ret, head_id, runG, runOps, doOp, wantB, stepOp, AO.eff, pureOp, St.get, St.one, St.num, St.put, St.optNum, binA, binInt, List.take, List.drop, gOp, gOp0, gOpL, gResL, updO, gRes, gEff, addObs_nil, addObs_one, freshB_memL, freshB_none, freshB_upd, freshB_addMem, freshB_addObs, effOp2, effOp, memL_app, stoRow, cellsAt, toCells, toCell, scalar_int, scalar_bool, scalar_str, scalar_sl, updAt, fromRo, upd, srcCells, A1.slB, flat_int, cl_flat', St.parts, Eng.inB, reps, fillA, newRowSt, appSt, oldOf, rest, kill, mapMem, SV.map, Ob.map, callRO, addMem_nil, roArgs, roL, roA, srcCells, A1.ownB, addMem, shift, ren, SV.map, Ob.map, Ob.noRo, SV.noRo, A1.noRo, List.range, List.range.loop, resOf, resSV, SV.map, SV.ids, A1.ids, reach, allObs, ren, pos, Ob.map, St.canon, memL, List.range, List.range.loop, cellsAt, hb, e0, e1, g1, g2, v2, v3, hk, szOk, cl_nums, numsOfCells, cl_length, binStr, bne, t1, t2, c1, c2, c3, c4, c5, c8, c6, c7]
    | some p =>
      obtain ⟨rn, ra, rc, T⟩ := p
      rw [hlc, hto] at g1 g2
      obtain ⟨j, rfl, d1, d2, d3, d4, d5⟩ := turnOf_there hto
      rw [hlc] at d1
      have tb := r_TurnBytes _ _ _ d4
      rw [← d3] at tb
      simp only [turnSV] at g1 g2
      have hc1 : cutB k (some (j : Int)) (some ((j : Int) + (T.length : Int))) = some (j, j + T.length) := by simp [cutB]; omega
      have hc2 : j + T.length - j = T.length := by omega
      have v7 : (cl .u8 T).take T.length = cl .u8 T := cl_self
      have v8 : ((cl .u8 cs).drop j).take T.length = cl .u8 (((cs.take k).drop j).take T.length) := by
        have : ((cs.take k).drop j).take T.length = (cs.drop j).take T.length := by
          rw [List.drop_take, List.take_take, Nat.min_eq_left (by omega)]
        rw [this]
        simp [cl]
      have v9 : j + T.length ≤ (cl .u8 cs).length := by rw [cl_length]; omega
      have v10 : j + T.length ≤ cs.length := by omega
      have eqs : ((strOfNums T).toList == (strOfNums (((cs.take k).drop j).take T.length)).toList) = true := by
        have := d2
        unfold eqB at this
        rw [beq_iff_eq] at this ⊢
        exact this.symm
      generalize hD : ((cs.take k).drop j).take T.length = D at v8 eqs d2
      cases hok : turnOk a o n with
      | true =>
        obtain ⟨f1, f2, f3, f4, f5, f6⟩ := turn_facts hok
        obtain ⟨a', rfl⟩ : ∃ a' : Nat, a = a' := ⟨a.toNat, by omega⟩
        obtain ⟨o', rfl⟩ : ∃ o' : Nat, o = (o' : Int) - 1 := ⟨(o + 1).toNat, by omega⟩
        obtain ⟨n', rfl⟩ : ∃ n' : Nat, n = n' := ⟨n.toNat, by omega⟩
        obtain ⟨q1, q2, q3, q4⟩ := turn_read hok
        have t1 := r_TurnBytes _ _ _ hok
        have t2 := r_sTurnBytes _ _ _ hok
        have hTB : Bytes (turnB (a' : Int) ((o' : Int) - 1) (n' : Int)) := by have := Bytes_turnR a' ((o' : Int) - 1) n'; unfold turnR at this; rwa [if_pos hok] at this
        have t3 := r_TurnOf (turnB (a' : Int) ((o' : Int) - 1) (n' : Int)) hTB (by omega) ((0 : Nat) : Int) (by omega)
        have t4 := r_TurnOf ((turnB (a' : Int) ((o' : Int) - 1) (n' : Int)).take ((turnB (a' : Int) ((o' : Int) - 1) (n' : Int)).length - 1)) (fun x hx => hTB x (List.mem_of_mem_take hx)) (by rw [List.length_take]; omega) ((0 : Nat) : Int) (by omega)
        rw [q1] at t3
        rw [q2] at t4
        generalize turnB (a' : Int) ((o' : Int) - 1) (n' : Int) = B at *
        have hl1 : (B.take (B.length - 1)).length = B.length - 1 := by rw [List.length_take]; omega
        rw [hl1] at t4
        simp only [turnSV, Int.ofNat_zero, Int.zero_add] at t3 t4
        have v5 : (cl .u8 B).take B.length = cl .u8 B := cl_self
        have v6 : (cl .u8 B).take (B.length - 1) = cl .u8 (B.take (B.length - 1)) := cl_take
        have w1 : IntKind.i64.wrap ((B.length : Int) - 1) = (B.length : Int) - 1 := wrap_id (by omega) (by omega)
        have z1 : ((B.length : Int) == 0) = false := by rw [beq_eq_false_iff_ne]; omega
        have z2 : ¬ B = [] := fun e => by rw [e] at q3; simp at q3
        have hc9 : cutB B.length none (some ((B.length : Int) - 1)) = some (0, B.length - 1) := by simp [cutB]; omega
        have hc8 : B.length - 1 ≤ B.length := by omega
        unfold runRO
        as_aux_lemma => simp (maxSteps := 4000000) -implicitDefEqProofs [tab6, a6, x_seq, x_cond, x_block, x_region, x_skip, x_exit, x_ret, head_id, runG, runOps, doOp, wantB, stepOp, AO.eff, pureOp, St.get, St.one, St.num, St.put, St.optNum, binA, binInt, List.take, List.drop, gOp, gOp0, gOpL, gResL, updO, gRes, gEff, addObs_nil, addObs_one, freshB_memL, freshB_none, freshB_upd, freshB_addMem, freshB_addObs, effOp2, effOp, memL_app, stoRow, cellsAt, toCells, toCell, scalar_int, scalar_bool, scalar_str, scalar_sl, updAt, fromRo, upd, srcCells, A1.slB, flat_int, cl_flat', St.parts, Eng.inB, reps, fillA, newRowSt, appSt, oldOf, rest, kill, mapMem, SV.map, Ob.map, callRO, addMem_nil, roArgs, roL, roA, srcCells, A1.ownB, addMem, shift, ren, SV.map, Ob.map, Ob.noRo, SV.noRo, A1.noRo, List.range, List.range.loop, resOf, resSV, SV.map, SV.ids, A1.ids, reach, allObs, ren, pos, Ob.map, St.canon, memL, List.range, List.range.loop, cellsAt, hb, e0, e1, g1, g2, v2, v3, hk, szOk, cl_nums, numsOfCells, cl_length, binStr, bne, t1, t2, t3, t4, v5, v6, w1, z1, z2, hc9, hc8, tb, hc1, hc2, v7, v8, v9, v10, eqs, cl_nums]
      | false =>
        have t1 := r_TurnBytes_bad a o n hok
        have t2 := r_sTurnBytes_bad a o n hok
        have hor : ¬ a < 0 → ¬ 4 ≤ a → ¬ o < -1 → ¬ 4 ≤ o → ¬ a = o → ¬ n < 1 → 9999 < n := by
          intros
          unfold turnOk at hok
          simp only [Bool.and_eq_false_iff, Bool.not_eq_false', beq_iff_eq, rng_not] at hok
          omega
        unfold runRO
        by_cases c1 : a < 0
        · as_aux_lemma => simp (maxSteps := 4000000) -implicitDefEqProofs [tab6, a6, x_seq, x_cond, x_block, x_region, x_skip, x_exit, x_ret, head_id, runG, runOps, doOp, wantB, stepOp, AO.eff, pureOp, St.get, St.one, St.num, St.put, St.optNum, binA, binInt, List.take, List.drop, gOp, gOp0, gOpL, gResL, updO, gRes, gEff, addObs_nil, addObs_one, freshB_memL, freshB_none, freshB_upd, freshB_addMem, freshB_addObs, effOp2, effOp, memL_app, stoRow, cellsAt, toCells, toCell, scalar_int, scalar_bool, scalar_str, scalar_sl, updAt, fromRo, upd, srcCells, A1.slB, flat_int, cl_flat', St.parts, Eng.inB, reps, fillA, newRowSt, appSt, oldOf, rest, kill, mapMem, SV.map, Ob.map, callRO, addMem_nil, roArgs, roL, roA, srcCells, A1.ownB, addMem, shift, ren, SV.map, Ob.map, Ob.noRo, SV.noRo, A1.noRo, List.range, List.range.loop, resOf, resSV, SV.map, SV.ids, A1.ids, reach, allObs, ren, pos, Ob.map, St.canon, memL, List.range, List.range.loop, cellsAt, hb, e0, e1, g1, g2, v2, v3, hk, szOk, cl_nums, numsOfCells, cl_length, binStr, bne, t1, t2, tb, hc1, hc2, v7, v8, v9, v10, eqs, cl_nums, c1]
        · skip
          by_cases c2 : 4 ≤ a
          · as_aux_lemma => simp (maxSteps := 4000000) -implicitDefEqProofs [tab6, a6, x_seq, x_cond, x_block, x_region, x_skip, x_exit, x_ret, head_id, runG, runOps, doOp, wantB, stepOp, AO.eff, pureOp, St.get, St.one, St.num, St.put, St.optNum, binA, binInt, List.take, List.drop, gOp, gOp0, gOpL, gResL, updO, gRes, gEff, addObs_nil, addObs_one, freshB_memL, freshB_none, freshB_upd, freshB_addMem, freshB_addObs, effOp2, effOp, memL_app, stoRow, cellsAt, toCells, toCell, scalar_int, scalar_bool, scalar_str, scalar_sl, updAt, fromRo, upd, srcCells, A1.slB, flat_int, cl_flat', St.parts, Eng.inB, reps, fillA, newRowSt, appSt, oldOf, rest, kill, mapMem, SV.map, Ob.map, callRO, addMem_nil, roArgs, roL, roA, srcCells, A1.ownB, addMem, shift, ren, SV.map, Ob.map, Ob.noRo, SV.noRo, A1.noRo, List.range, List.range.loop, resOf, resSV, SV.map, SV.ids, A1.ids, reach, allObs, ren, pos, Ob.map, St.canon, memL, List.range, List.range.loop, cellsAt, hb, e0, e1, g1, g2, v2, v3, hk, szOk, cl_nums, numsOfCells, cl_length, binStr, bne, t1, t2, tb, hc1, hc2, v7, v8, v9, v10, eqs, cl_nums, c1, c2]
          · skip
            by_cases c3 : o < -1
            · as_aux_lemma => simp (maxSteps := 4000000) -implicitDefEqProofs [tab6, a6, x_seq, x_cond, x_block, x_region, x_skip, x_exit, x_ret, head_id, runG, runOps, doOp, wantB, stepOp, AO.eff, pureOp, St.get, St.one, St.num, St.put, St.optNum, binA, binInt, List.take, List.drop, gOp, gOp0, gOpL, gResL, updO, gRes, gEff, addObs_nil, addObs_one, freshB_memL, freshB_none, freshB_upd, freshB_addMem, freshB_addObs, effOp2, effOp, memL_app, stoRow, cellsAt, toCells, toCell, scalar_int, scalar_bool, scalar_str, scalar_sl, updAt, fromRo, upd, srcCells, A1.slB, flat_int, cl_flat', St.parts, Eng.inB, reps, fillA, newRowSt, appSt, oldOf, rest, kill, mapMem, SV.map, Ob.map, callRO, addMem_nil, roArgs, roL, roA, srcCells, A1.ownB, addMem, shift, ren, SV.map, Ob.map, Ob.noRo, SV.noRo, A1.noRo, List.range, List.range.loop, resOf, resSV, SV.map, SV.ids, A1.ids, reach, allObs, ren, pos, Ob.map, St.canon, memL, List.range, List.range.loop, cellsAt, hb, e0, e1, g1, g2, v2, v3, hk, szOk, cl_nums, numsOfCells, cl_length, binStr, bne, t1, t2, tb, hc1, hc2, v7, v8, v9, v10, eqs, cl_nums, c1, c2, c3]
            · skip
              by_cases c4 : 4 ≤ o
              · as_aux_lemma => simp (maxSteps := 4000000) -implicitDefEqProofs [tab6, a6, x_seq, x_cond, x_block, x_region, x_skip, x_exit, x_ret, head_id, runG, runOps, doOp, wantB, stepOp, AO.eff, pureOp, St.get, St.one, St.num, St.put, St.optNum, binA, binInt, List.take, List.drop, gOp, gOp0, gOpL, gResL, updO, gRes, gEff, addObs_nil, addObs_one, freshB_memL, freshB_none, freshB_upd, freshB_addMem, freshB_addObs, effOp2, effOp, memL_app, stoRow, cellsAt, toCells, toCell, scalar_int, scalar_bool, scalar_str, scalar_sl, updAt, fromRo, upd, srcCells, A1.slB, flat_int, cl_flat', St.parts, Eng.inB, reps, fillA, newRowSt, appSt, oldOf, rest, kill, mapMem, SV.map, Ob.map, callRO, addMem_nil, roArgs, roL, roA, srcCells, A1.ownB, addMem, shift, ren, SV.map, Ob.map, Ob.noRo, SV.noRo, A1.noRo, List.range, List.range.loop, resOf, resSV, SV.map, SV.ids, A1.ids, reach, allObs, ren, pos, Ob.map, St.canon, memL, List.range, List.range.loop, cellsAt, hb, e0, e1, g1, g2, v2, v3, hk, szOk, cl_nums, numsOfCells, cl_length, binStr, bne, t1, t2, tb, hc1, hc2, v7, v8, v9, v10, eqs, cl_nums, c1, c2, c3, c4]
              · skip
                by_cases c5 : a = o
                · subst c5
                  as_aux_lemma => simp (maxSteps := 4000000) -implicitDefEqProofs [tab6, a6, x_seq, x_cond, x_block, x_region, x_skip, x_exit, x_ret, head_id, runG, runOps, doOp, wantB, stepOp, AO.eff, pureOp, St.get, St.one, St.num, St.put, St.optNum, binA, binInt, List.take, List.drop, gOp, gOp0, gOpL, gResL, updO, gRes, gEff, addObs_nil, addObs_one, freshB_memL, freshB_none, freshB_upd, freshB_addMem, freshB_addObs, effOp2, effOp, memL_app, stoRow, cellsAt, toCells, toCell, scalar_int, scalar_bool, scalar_str, scalar_sl, updAt, fromRo, upd, srcCells, A1.slB, flat_int, cl_flat', St.parts, Eng.inB, reps, fillA, newRowSt, appSt, oldOf, rest, kill, mapMem, SV.map, Ob.map, callRO, addMem_nil, roArgs, roL, roA, srcCells, A1.ownB, addMem, shift, ren, SV.map, Ob.map, Ob.noRo, SV.noRo, A1.noRo, List.range, List.range.loop, resOf, resSV, SV.map, SV.ids, A1.ids, reach, allObs, ren, pos, Ob.map, St.canon, memL, List.range, List.range.loop, cellsAt, hb, e0, e1, g1, g2, v2, v3, hk, szOk, cl_nums, numsOfCells, cl_length, binStr, bne, t1, t2, tb, hc1, hc2, v7, v8, v9, v10, eqs, cl_nums, c1, c2, c3, c4]
                · have c8 : (a == o) = false := by rw [beq_eq_false_iff_ne]; exact c5
                  by_cases c6 : n < 1
                  · as_aux_lemma => simp (maxSteps := 4000000) -implicitDefEqProofs [tab6, a6, x_seq, x_cond, x_block, x_region, x_skip, x_exit, x_ret, head_id, runG, runOps, doOp, wantB, stepOp, AO.eff, pureOp, St.get, St.one, St.num, St.put, St.optNum, binA, binInt, List.take, List.drop, gOp, gOp0, gOpL, gResL, updO, gRes, gEff, addObs_nil, addObs_one, freshB_memL, freshB_none, freshB_upd, freshB_addMem, freshB_addObs, effOp2, effOp, memL_app, stoRow, cellsAt, toCells, toCell, scalar_int, scalar_bool, scalar_str, scalar_sl, updAt, fromRo, upd, srcCells, A1.slB, flat_int, cl_flat', St.parts, Eng.inB, reps, fillA, newRowSt, appSt, oldOf, rest, kill, mapMem, SV.map, Ob.map, callRO, addMem_nil, roArgs, roL, roA, srcCells, A1.ownB, addMem, shift, ren, SV.map, Ob.map, Ob.noRo, SV.noRo, A1.noRo, List.range, List.range.loop, resOf, resSV, SV.map, SV.ids, A1.ids, reach, allObs, ren, pos, Ob.map, St.canon, memL, List.range, List.range.loop, cellsAt, hb, e0, e1, g1, g2, v2, v3, hk, szOk, cl_nums, numsOfCells, cl_length, binStr, bne, t1, t2, tb, hc1, hc2, v7, v8, v9, v10, eqs, cl_nums, c1, c2, c3, c4, c5, c8, c6]
                  · skip
                    have c7 := hor c1 c2 c3 c4 c5 c6
                    as_aux_lemma => simp (maxSteps := 4000000) -implicitDefEqProofs [tab6, a6, x_seq, x_cond, x_block, x_region, x_skip, x_exit, x_ret, head_id, runG, runOps, doOp, wantB, stepOp, AO.eff, pureOp, St.get, St.one, St.num, St.put, St.optNum, binA, binInt, List.take, List.drop, gOp, gOp0, gOpL, gResL, updO, gRes, gEff, addObs_nil, addObs_one, freshB_memL, freshB_none, freshB_upd, freshB_addMem, freshB_addObs, effOp2, effOp, memL_app, stoRow, cellsAt, toCells, toCell, scalar_int, scalar_bool, scalar_str, scalar_sl, updAt, fromRo, upd, srcCells, A1.slB, flat_int, cl_flat', St.parts, Eng.inB, reps, fillA, newRowSt, appSt, oldOf, rest, kill, mapMem, SV.map, Ob.map, callRO, addMem_nil, roArgs, roL, roA, srcCells, A1.ownB, addMem, shift, ren, SV.map, Ob.map, Ob.noRo, SV.noRo, A1.noRo, List.range, List.range.loop, resOf, resSV, SV.map, SV.ids, A1.ids, reach, allObs, ren, pos, Ob.map, St.canon, memL, List.range, List.range.loop, cellsAt, hb, e0, e1, g1, g2, v2, v3, hk, szOk, cl_nums, numsOfCells, cl_length, binStr, bne, t1, t2, tb, hc1, hc2, v7, v8, v9, v10, eqs, cl_nums, c1, c2, c3, c4, c5, c8, c6, c7]
end Go.Proofs.Ytdagbeihjobmjaa.Eng.B
