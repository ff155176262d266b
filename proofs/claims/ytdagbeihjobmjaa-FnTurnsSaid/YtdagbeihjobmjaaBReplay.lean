/- The book read again, as the program and the reference read it; the law. -/
import Derived.Test.YtdagbeihjobmjaaBTouch
import Derived.Test.YtdagbeihjobmjaaBTurnOf
namespace Go.Proofs.Ytdagbeihjobmjaa.Eng.B
set_option linter.unusedSimpArgs false
set_option linter.unusedVariables false
set_option maxHeartbeats 16000000
set_option maxRecDepth 100000
open Go.RowKit Go.Proofs

/-- Where reading stops, or what comes next. -/
def repNext (b hot : List Int) (i k : Nat) : Option (List Int × Nat) :=
  match turnOf b i with
  | none => none
  | some (n, a, c, T) =>
    if n = k then
      (if (a : Int) ∈ hot then none
      else if hot.length = 2 then (if (c : Int) - 1 ∈ hot then some ((a : Int) :: without hot ((c : Int) - 1), i + T.length) else none)
      else (if (c : Int) - 1 = -1 then some ((a : Int) :: without hot ((c : Int) - 1), i + T.length) else none))
    else none
def repF (b : List Int) : Nat → List Int → Nat → Nat → List Int × Nat
  | 0, hot, i, _ => (hot, i)
  | f + 1, hot, i, k => match repNext b hot i k with
    | none => (hot, i)
    | some (hot', i') => repF b f hot' i' (k + 1)
theorem turnOf_facts {b : List Int} {i : Nat} {n a c : Nat} {T : List Int} (h : turnOf b i = some (n, a, c, T)) : i + T.length ≤ b.length ∧ 0 < T.length ∧ c ≤ 2147483647 ∧ T.length ≤ 19 := by
  unfold turnOf at h
  split at h
  · cases h
  · rename_i g1
    split at h
    · cases h
    · rename_i g2
      split at h
      · cases h
      · rename_i g3
        split at h
        · rename_i hh
          simp only [Option.some.injEq, Prod.mk.injEq] at h
          obtain ⟨rfl, rfl, rfl, rfl⟩ := h
          simp only [Bool.and_eq_true] at hh
          have h1 := turnB_length hh.1
          have h2 := hh.2
          simp only [hasPre, Bool.and_eq_true, decide_eq_true_eq, List.length_drop, Int.toNat_natCast] at h2
          have b1 := getNum_bound g1
          have b3 := getNum_bound g3
          refine ⟨by omega, ?_, by omega, h1⟩
          simp [turnB, fourN]
        · cases h
theorem without_lt {l : List Int} {a : Int} (h : a ∈ l) : (without l a).length < l.length := by
  unfold without
  rw [List.length_filter_lt_length_iff_exists]
  exact ⟨a, h, by simp⟩
theorem repNext_facts {b hot hot' : List Int} {i i' k : Nat} (hh : hot.length ≤ 2) (h : repNext b hot i k = some (hot', i')) : hot'.length ≤ 2 ∧ i < i' ∧ i' ≤ b.length := by
  unfold repNext at h
  split at h
  · cases h
  · rename_i n a c T ht
    have hf := turnOf_facts ht
    split at h
    · split at h
      · cases h
      · split at h
        · rename_i h2
          split at h
          · rename_i hm
            simp only [Option.some.injEq, Prod.mk.injEq] at h
            obtain ⟨rfl, rfl⟩ := h
            have := without_lt hm
            simp only [List.length_cons]
            omega
          · cases h
        · rename_i h2
          split at h
          · rename_i hm
            simp only [Option.some.injEq, Prod.mk.injEq] at h
            obtain ⟨rfl, rfl⟩ := h
            have := without_length hot ((c : Int) - 1)
            simp only [List.length_cons]
            omega
          · cases h
    · cases h
def RI2 (b : List Int) (s : List Int × Nat × Nat) : Prop := s.1.length ≤ 2 ∧ s.2.1 ≤ b.length ∧ s.2.2 ≤ s.2.1 + 1 ∧ ∃ f, b.length - s.2.1 < f ∧ repF b f s.1 s.2.1 s.2.2 = repF b (b.length + 1) [] 0 1
theorem RI2_stop {b hot : List Int} {i k : Nat} (h : RI2 b (hot, i, k)) (hn : repNext b hot i k = none) : repF b (b.length + 1) [] 0 1 = (hot, i) := by
  obtain ⟨_, _, _, f, h1, h2⟩ := h
  cases f with
  | zero => omega
  | succ f =>
    rw [← h2]
    simp only [repF, hn]
theorem RI2_next {b hot hot' : List Int} {i i' k : Nat} (h : RI2 b (hot, i, k)) (hn : repNext b hot i k = some (hot', i')) : RI2 b (hot', i', k + 1) ∧ b.length - i' < b.length - i := by
  obtain ⟨q1, q2, q3, f, h1, h2⟩ := h
  simp only at q1 q2 q3 h1 h2
  obtain ⟨f1, f2, f3⟩ := repNext_facts q1 hn
  cases f with
  | zero => omega
  | succ f =>
    simp only [repF, hn] at h2
    exact ⟨⟨f1, f3, by simp only; omega, f, by simp only; omega, h2⟩, by omega⟩
def S_HotReplay (b : List Int) (s : List Int × Nat × Nat) : XS := ⟨⟨[.v false [.ro b.length (cl .u8 b)], .bad, .bad, .bad, .v false [.sl 0 [] 0 s.1.length], .v false [.int .i64 (s.2.1)], .v false [.int .i64 (s.2.2)], .bad, .bad, .bad, .bad, .bad, .bad, .bad, .bad, .bad, .bad, .bad, .bad, .bad, .bad, .bad, .bad, .bad, .bad, .bad, .bad, .bad, .bad, .bad, .bad, .bad, .bad, .bad, .bad, .bad, .bad, .bad, .bad, .bad, .bad, .bad, .bad, .bad, .bad, .bad, .bad, .bad, .bad, .bad, .bad, .bad, .bad, .bad, .bad, .bad, .bad, .bad, .bad, .bad, .bad, .bad, .bad, .bad, .bad, .bad], memL [some (.row 1 (cl .i64 s.1))], []⟩, 1⟩
def Z_HotReplay (p : List Int × Nat) : Option (AE × XS) := some (.ret, ⟨⟨[.bad, .bad, .v false [.sl 0 [] 0 p.1.length], .v false [.int .i64 (p.2)], .bad, .bad, .bad, .bad, .bad, .bad, .bad, .bad, .bad, .bad, .bad, .bad, .bad, .bad, .bad, .bad, .bad, .bad, .bad, .bad, .bad, .bad, .bad, .bad, .bad, .bad, .bad, .bad, .bad, .bad, .bad, .bad, .bad, .bad, .bad, .bad, .bad, .bad, .bad, .bad, .bad, .bad, .bad, .bad, .bad, .bad, .bad, .bad, .bad, .bad, .bad, .bad, .bad, .bad, .bad, .bad, .bad, .bad, .bad, .bad, .bad, .bad], memL [some (.row 1 (cl .i64 p.1))], []⟩, 1⟩)
theorem loop_HotReplay (b : List Int) (hB : Bytes b) (hn : b.length ≤ 1048576) {x : XS} (hx : head true d50_0 x = S_HotReplay b ([], 0, 1)) : X tab l50_0 x = Z_HotReplay (repF b (b.length + 1) [] 0 1) := by
  refine loopX (σ := List Int × Nat × Nat) (S_HotReplay b) (fun s => b.length - s.2.1) (RI2 b) _ (fun ⟨hot, i, k⟩ hI => ?_) ([], 0, 1) ⟨by simp, by simp, by simp, _, by simp only; omega, rfl⟩ x hx
  have hI' := hI
  obtain ⟨q1, q2, q3, _⟩ := hI'
  simp only at q1 q2 q3
  have g := r_TurnOf b hB hn i (by omega)
  have w1 : IntKind.i64.wrap ((k : Int) + 1) = ((k + 1 : Nat) : Int) := by rw [wrap_id (by omega) (by omega)]; omega
  have c1 : (cl .i64 hot).take hot.length = cl .i64 hot := cl_self
  have c2 : hot.length ≤ (cl .i64 hot).length := by rw [cl_length]; omega
  cases ht : turnOf b i with
  | none =>
    rw [ht] at g
    simp only [turnSV] at g
    rw [RI2_stop hI (by simp only [repNext, ht])]
    refine .inr ⟨?_, by simp [Z_HotReplay]⟩
    simp only [S_HotReplay, Z_HotReplay]
    simp (maxSteps := 4000000) -implicitDefEqProofs [b50_0, x_seq, x_cond, x_block, x_region, x_skip, x_exit, x_ret, head_id, runG, runOps, doOp, wantB, stepOp, AO.eff, pureOp, St.get, St.one, St.num, St.put, St.optNum, binA, binInt, List.take, List.drop, callRO, addMem_nil, roArgs, roL, roA, srcCells, A1.ownB, addMem, shift, ren, SV.map, Ob.map, Ob.noRo, SV.noRo, A1.noRo, List.range, List.range.loop, memL_app, cellsAt, g]
    change _ = _
    kernel_rfl
  | some p =>
    obtain ⟨n, a, c, T⟩ := p
    obtain ⟨t1, t2, t3, t4⟩ := turnOf_facts ht
    rw [ht] at g
    simp only [turnSV] at g
    have w2 : (i : Int) + (T.length : Int) = ((i + T.length : Nat) : Int) := by omega
    rw [w2] at g
    generalize hi' : i + T.length = i' at *
    have v1 := r_Contains hot a (by omega)
    obtain ⟨o, ho⟩ : ∃ o, o = (c : Int) - 1 := ⟨_, rfl⟩
    rw [← ho] at g
    have v2 := r_Contains hot o (by omega)
    by_cases hk : n = k
    · subst hk
      by_cases ha : (a : Int) ∈ hot
      · rw [decide_eq_true ha] at v1
        rw [RI2_stop hI (by simp only [repNext, ht, ← ho, if_true, if_pos ha])]
        refine .inr ⟨?_, by simp [Z_HotReplay]⟩
        simp only [S_HotReplay, Z_HotReplay]
        simp (maxSteps := 4000000) -implicitDefEqProofs [b50_0, x_seq, x_cond, x_block, x_region, x_skip, x_exit, x_ret, head_id, runG, runOps, doOp, wantB, stepOp, AO.eff, pureOp, St.get, St.one, St.num, St.put, St.optNum, binA, binInt, List.take, List.drop, callRO, addMem_nil, roArgs, roL, roA, srcCells, A1.ownB, addMem, shift, ren, SV.map, Ob.map, Ob.noRo, SV.noRo, A1.noRo, List.range, List.range.loop, memL_app, cellsAt, g, c1, c2, v1]
        change _ = _
        kernel_rfl
      · rw [decide_eq_false ha] at v1
        have step : repNext b hot i n = some ((a : Int) :: without hot o, i') → ((hot.length = 2 ∧ o ∈ hot) ∨ (hot.length ≠ 2 ∧ o = -1)) →
            (∃ s', (∃ z, X tab b50_0 (S_HotReplay b (hot, i, n)) = some (.nrm, z) ∧ head true d50_0 z = S_HotReplay b s') ∧ b.length - s'.2.1 < b.length - i ∧ RI2 b s') := by
          intro hnext hcase
          obtain ⟨r1, r2⟩ := RI2_next hI hnext
          refine ⟨((a : Int) :: without hot o, i', n + 1), ?_, r2, r1⟩
          clear hnext r1 r2 ho
          have hwl := without_length hot o
          simp only [S_HotReplay, List.length_cons, cl_cons]
          by_cases hne : hot = []
          · subst hne
            rcases hcase with ⟨h2, _⟩ | ⟨_, hm⟩
            · simp at h2
            · subst hm
              have h8 := r_Clear_nil (-1)
              simp only [List.length_nil, cl_nil] at v1 ⊢
              simp (maxSteps := 4000000) -implicitDefEqProofs [b50_0, x_seq, x_cond, x_block, x_region, x_skip, x_exit, x_ret, head_id, runG, runOps, doOp, wantB, stepOp, AO.eff, pureOp, St.get, St.one, St.num, St.put, St.optNum, binA, binInt, List.take, List.drop, callRO, addMem_nil, roArgs, roL, roA, srcCells, A1.ownB, addMem, shift, ren, SV.map, Ob.map, Ob.noRo, SV.noRo, A1.noRo, List.range, List.range.loop, effOp2, effOp, memL_app, stoRow, cellsAt, toCells, toCell, scalar_int, scalar_bool, scalar_str, scalar_sl, updAt, fromRo, upd, srcCells, A1.slB, flat_int, cl_flat', St.parts, Eng.inB, reps, fillA, newRowSt, appSt, oldOf, rest, kill, mapMem, SV.map, Ob.map, memL_app, cellsAt, g, v1, h8, w1, without, cl_nil, -Int.natCast_add]
              change _ = _
              kernel_rfl
          · obtain ⟨tail, h8⟩ := r_Clear hot hne (by omega) o
            have c3 : (cl .i64 (without hot o ++ tail)).take (without hot o).length = cl .i64 (without hot o) := by rw [cl_take]; simp
            have c4 : (without hot o).length ≤ (cl .i64 (without hot o ++ tail)).length := by rw [cl_length]; simp
            generalize hW : without hot o ++ tail = W at *
            generalize hVV : without hot o = V at *
            have c5 : 1 + V.length = V.length + 1 := Nat.add_comm _ _
            have c6 : (1 + V.length) * 8 ≤ 140737488355328 := by omega
            have c6' : (V.length + 1) * 8 ≤ 140737488355328 := by omega
            rcases hcase with ⟨hfull, hm⟩ | ⟨hnf, hm⟩
            · rw [decide_eq_true hm] at v2
              generalize hot.length = m at *
              subst hfull
              by_cases hV : V.length = 0
              · obtain rfl := List.eq_nil_of_length_eq_zero hV
                simp only [List.length_nil, cl_nil] at h8 c3 c4 ⊢
                simp (maxSteps := 4000000) -implicitDefEqProofs [b50_0, x_seq, x_cond, x_block, x_region, x_skip, x_exit, x_ret, head_id, runG, runOps, doOp, wantB, stepOp, AO.eff, pureOp, St.get, St.one, St.num, St.put, St.optNum, binA, binInt, List.take, List.drop, callRO, addMem_nil, roArgs, roL, roA, srcCells, A1.ownB, addMem, shift, ren, SV.map, Ob.map, Ob.noRo, SV.noRo, A1.noRo, List.range, List.range.loop, effOp2, effOp, memL_app, stoRow, cellsAt, toCells, toCell, scalar_int, scalar_bool, scalar_str, scalar_sl, updAt, fromRo, upd, srcCells, A1.slB, flat_int, cl_flat', St.parts, Eng.inB, reps, fillA, newRowSt, appSt, oldOf, rest, kill, mapMem, SV.map, Ob.map, memL_app, cellsAt, g, c1, c2, c3, c4, v1, v2, h8, w1, cl_nil, -Int.natCast_add]
                change _ = _
                kernel_rfl
              · have hV' : V ≠ [] := fun e => hV (by rw [e]; rfl)
                simp (maxSteps := 4000000) -implicitDefEqProofs [b50_0, x_seq, x_cond, x_block, x_region, x_skip, x_exit, x_ret, head_id, runG, runOps, doOp, wantB, stepOp, AO.eff, pureOp, St.get, St.one, St.num, St.put, St.optNum, binA, binInt, List.take, List.drop, callRO, addMem_nil, roArgs, roL, roA, srcCells, A1.ownB, addMem, shift, ren, SV.map, Ob.map, Ob.noRo, SV.noRo, A1.noRo, List.range, List.range.loop, effOp2, effOp, memL_app, stoRow, cellsAt, toCells, toCell, scalar_int, scalar_bool, scalar_str, scalar_sl, updAt, fromRo, upd, srcCells, A1.slB, flat_int, cl_flat', St.parts, Eng.inB, reps, fillA, newRowSt, appSt, oldOf, rest, kill, mapMem, SV.map, Ob.map, memL_app, cellsAt, g, c1, c2, c3, c4, c5, c6, c6', v1, v2, h8, w1, hV, hV', cl_flat, -Int.natCast_add]
                change _ = _
                kernel_rfl
            · subst hm
              have hf : ((hot.length : Int) == 2) = false := by rw [beq_eq_false_iff_ne]; omega
              by_cases hV : V.length = 0
              · obtain rfl := List.eq_nil_of_length_eq_zero hV
                simp only [List.length_nil, cl_nil] at h8 c3 c4 ⊢
                simp (maxSteps := 4000000) -implicitDefEqProofs [b50_0, x_seq, x_cond, x_block, x_region, x_skip, x_exit, x_ret, head_id, runG, runOps, doOp, wantB, stepOp, AO.eff, pureOp, St.get, St.one, St.num, St.put, St.optNum, binA, binInt, List.take, List.drop, callRO, addMem_nil, roArgs, roL, roA, srcCells, A1.ownB, addMem, shift, ren, SV.map, Ob.map, Ob.noRo, SV.noRo, A1.noRo, List.range, List.range.loop, effOp2, effOp, memL_app, stoRow, cellsAt, toCells, toCell, scalar_int, scalar_bool, scalar_str, scalar_sl, updAt, fromRo, upd, srcCells, A1.slB, flat_int, cl_flat', St.parts, Eng.inB, reps, fillA, newRowSt, appSt, oldOf, rest, kill, mapMem, SV.map, Ob.map, memL_app, cellsAt, g, c1, c2, c3, c4, v1, hf, h8, w1, cl_nil, -Int.natCast_add]
                change _ = _
                kernel_rfl
              · have hV' : V ≠ [] := fun e => hV (by rw [e]; rfl)
                simp (maxSteps := 4000000) -implicitDefEqProofs [b50_0, x_seq, x_cond, x_block, x_region, x_skip, x_exit, x_ret, head_id, runG, runOps, doOp, wantB, stepOp, AO.eff, pureOp, St.get, St.one, St.num, St.put, St.optNum, binA, binInt, List.take, List.drop, callRO, addMem_nil, roArgs, roL, roA, srcCells, A1.ownB, addMem, shift, ren, SV.map, Ob.map, Ob.noRo, SV.noRo, A1.noRo, List.range, List.range.loop, effOp2, effOp, memL_app, stoRow, cellsAt, toCells, toCell, scalar_int, scalar_bool, scalar_str, scalar_sl, updAt, fromRo, upd, srcCells, A1.slB, flat_int, cl_flat', St.parts, Eng.inB, reps, fillA, newRowSt, appSt, oldOf, rest, kill, mapMem, SV.map, Ob.map, memL_app, cellsAt, g, c1, c2, c3, c4, c5, c6, c6', v1, hf, h8, w1, hV, hV', cl_flat, -Int.natCast_add]
                change _ = _
                kernel_rfl
        by_cases hfull : hot.length = 2
        · by_cases hm : o ∈ hot
          · exact .inl (step (by simp only [repNext, ht, ← ho, if_true, if_neg ha, if_pos hfull, if_pos hm, hi']) (.inl ⟨hfull, hm⟩))
          · rw [decide_eq_false hm] at v2
            rw [RI2_stop hI (by simp only [repNext, ht, ← ho, if_true, if_neg ha, if_pos hfull, if_neg hm])]
            refine .inr ⟨?_, by simp [Z_HotReplay]⟩
            simp only [S_HotReplay, Z_HotReplay]
            generalize hot.length = m at *
            subst hfull
            simp (maxSteps := 4000000) -implicitDefEqProofs [b50_0, x_seq, x_cond, x_block, x_region, x_skip, x_exit, x_ret, head_id, runG, runOps, doOp, wantB, stepOp, AO.eff, pureOp, St.get, St.one, St.num, St.put, St.optNum, binA, binInt, List.take, List.drop, callRO, addMem_nil, roArgs, roL, roA, srcCells, A1.ownB, addMem, shift, ren, SV.map, Ob.map, Ob.noRo, SV.noRo, A1.noRo, List.range, List.range.loop, memL_app, cellsAt, g, c1, c2, v1, v2]
            change _ = _
            kernel_rfl
        · have hf : ((hot.length : Int) == 2) = false := by rw [beq_eq_false_iff_ne]; omega
          by_cases hm : o = -1
          · exact .inl (step (by simp only [repNext, ht, ← ho, if_true, if_neg ha, if_neg hfull, if_pos hm, hi']) (.inr ⟨hfull, hm⟩))
          · have hm' : (o == -1) = false := by rw [beq_eq_false_iff_ne]; exact hm
            rw [RI2_stop hI (by simp only [repNext, ht, ← ho, if_true, if_neg ha, if_neg hfull, if_neg hm])]
            refine .inr ⟨?_, by simp [Z_HotReplay]⟩
            simp only [S_HotReplay, Z_HotReplay]
            simp (maxSteps := 4000000) -implicitDefEqProofs [b50_0, x_seq, x_cond, x_block, x_region, x_skip, x_exit, x_ret, head_id, runG, runOps, doOp, wantB, stepOp, AO.eff, pureOp, St.get, St.one, St.num, St.put, St.optNum, binA, binInt, List.take, List.drop, callRO, addMem_nil, roArgs, roL, roA, srcCells, A1.ownB, addMem, shift, ren, SV.map, Ob.map, Ob.noRo, SV.noRo, A1.noRo, List.range, List.range.loop, memL_app, cellsAt, g, bne, c1, c2, v1, hf, hm']
            change _ = _
            kernel_rfl
    · have hk' : ((n : Int) == (k : Int)) = false := by rw [beq_eq_false_iff_ne]; omega
      rw [RI2_stop hI (by simp only [repNext, ht, ← ho, if_neg hk])]
      refine .inr ⟨?_, by simp [Z_HotReplay]⟩
      simp only [S_HotReplay, Z_HotReplay]
      simp (maxSteps := 4000000) -implicitDefEqProofs [b50_0, x_seq, x_cond, x_block, x_region, x_skip, x_exit, x_ret, head_id, runG, runOps, doOp, wantB, stepOp, AO.eff, pureOp, St.get, St.one, St.num, St.put, St.optNum, binA, binInt, List.take, List.drop, callRO, addMem_nil, roArgs, roL, roA, srcCells, A1.ownB, addMem, shift, ren, SV.map, Ob.map, Ob.noRo, SV.noRo, A1.noRo, List.range, List.range.loop, memL_app, cellsAt, g, bne, hk', c1, c2]
      change _ = _
      kernel_rfl
theorem r_HotReplay (b : List Int) (hB : Bytes b) (hn : b.length ≤ 1048576) : runRO (X tab) tab 50 [.v false [.ro b.length (cl .u8 b)]] = some (.tup [(false, [.sl 0 [] 0 (repF b (b.length + 1) [] 0 1).1.length]), (false, [.int .i64 (repF b (b.length + 1) [] 0 1).2])], [.row 1 (cl .i64 (repF b (b.length + 1) [] 0 1).1)]) := by
  unfold runRO
  simp (maxSteps := 4000000) -implicitDefEqProofs [tab50, a50, x_seq, x_cond, x_block, x_region, x_skip, x_exit, x_ret, head_id, runG, runOps, doOp, wantB, stepOp, AO.eff, pureOp, St.get, St.one, St.num, St.put, St.optNum, binA, binInt, List.take, List.drop, effOp2, effOp, memL_app, stoRow, cellsAt, toCells, toCell, scalar_int, scalar_bool, scalar_str, scalar_sl, updAt, fromRo, upd, srcCells, A1.slB, flat_int, cl_flat', St.parts, Eng.inB, reps, fillA, newRowSt, appSt, oldOf, rest, kill, mapMem, SV.map, Ob.map]
  rw [loop_HotReplay b hB hn (by change _ = _; kernel_rfl)]
  simp (maxSteps := 4000000) -implicitDefEqProofs [Z_HotReplay, x_seq, x_cond, x_block, x_region, x_skip, x_exit, x_ret, head_id, runG, runOps, doOp, wantB, stepOp, AO.eff, pureOp, St.get, St.one, St.num, St.put, St.optNum, binA, binInt, List.take, List.drop, effOp2, effOp, memL_app, stoRow, cellsAt, toCells, toCell, scalar_int, scalar_bool, scalar_str, scalar_sl, updAt, fromRo, upd, resOf, resSV, SV.map, SV.ids, A1.ids, reach, allObs, ren, pos, Ob.map, St.canon, memL, List.range, List.range.loop]
def S_sHotReplay (b : List Int) (s : List Int × Nat × Nat) : XS := ⟨⟨[.v false [.ro b.length (cl .u8 b)], .bad, .bad, .bad, .v false [.sl 0 [] 0 s.1.length], .v false [.int .i64 (s.2.1)], .v false [.int .i64 (s.2.2)], .bad, .bad, .bad, .bad, .bad, .bad, .bad, .bad, .bad, .bad, .bad, .bad, .bad, .bad, .bad, .bad, .bad, .bad, .bad, .bad, .bad, .bad, .bad, .bad, .bad, .bad, .bad, .bad, .bad, .bad, .bad, .bad, .bad, .bad, .bad, .bad, .bad, .bad, .bad, .bad, .bad, .bad, .bad, .bad, .bad, .bad, .bad, .bad, .bad, .bad, .bad, .bad, .bad, .bad, .bad, .bad, .bad, .bad, .bad, .bad, .bad, .bad, .bad, .bad, .bad, .bad, .bad, .bad, .bad, .bad, .bad, .bad, .bad, .bad, .bad, .bad, .bad], memL [some (.row 1 (cl .i64 s.1))], []⟩, 1⟩
def Z_sHotReplay (p : List Int × Nat) : Option (AE × XS) := some (.ret, ⟨⟨[.bad, .bad, .v false [.sl 0 [] 0 p.1.length], .v false [.int .i64 (p.2)], .bad, .bad, .bad, .bad, .bad, .bad, .bad, .bad, .bad, .bad, .bad, .bad, .bad, .bad, .bad, .bad, .bad, .bad, .bad, .bad, .bad, .bad, .bad, .bad, .bad, .bad, .bad, .bad, .bad, .bad, .bad, .bad, .bad, .bad, .bad, .bad, .bad, .bad, .bad, .bad, .bad, .bad, .bad, .bad, .bad, .bad, .bad, .bad, .bad, .bad, .bad, .bad, .bad, .bad, .bad, .bad, .bad, .bad, .bad, .bad, .bad, .bad, .bad, .bad, .bad, .bad, .bad, .bad, .bad, .bad, .bad, .bad, .bad, .bad, .bad, .bad, .bad, .bad, .bad, .bad], memL [some (.row 1 (cl .i64 p.1))], []⟩, 1⟩)
def S_sIn (b hot : List Int) (o : Int) (k i' : Nat) (s : Nat × List Int) : XS := ⟨⟨[.v false [.ro b.length (cl .u8 b)], .bad, .bad, .bad, .v false [.sl 0 [] 0 hot.length], .bad, .v false [.int .i64 (k)], .bad, .v false [.int .i64 (o)], .bad, .v false [.int .i64 (i')], .bad, .bad, .v false [.sl 1 [] 0 s.2.length], .v false [.int .i64 (s.1)], .bad, .bad, .bad, .bad, .bad, .bad, .bad, .bad, .bad, .bad, .bad, .bad, .bad, .bad, .bad, .bad, .bad, .bad, .bad, .bad, .bad, .bad, .bad, .bad, .bad, .bad, .bad, .bad, .bad, .bad, .bad, .bad, .bad, .bad, .bad, .bad, .bad, .bad, .bad, .bad, .bad, .bad, .bad, .bad, .bad, .bad, .bad, .bad, .bad, .bad, .bad, .bad, .bad, .bad, .bad, .bad, .bad, .bad, .bad, .bad, .bad, .bad, .bad, .bad, .bad, .bad, .bad, .bad, .bad], memL [some (.row 1 (cl .i64 hot)), some (.row 1 (cl .i64 s.2))], []⟩, 2⟩
def Z_sIn (b : List Int) (k i' : Nat) (acc : List Int) : XS := ⟨⟨[.v false [.ro b.length (cl .u8 b)], .bad, .bad, .bad, .bad, .bad, .v false [.int .i64 (k)], .bad, .bad, .bad, .v false [.int .i64 (i')], .bad, .bad, .v false [.sl 0 [] 0 acc.length], .bad, .bad, .bad, .bad, .bad, .bad, .bad, .bad, .bad, .bad, .bad, .bad, .bad, .bad, .bad, .bad, .bad, .bad, .bad, .bad, .bad, .bad, .bad, .bad, .bad, .bad, .bad, .bad, .bad, .bad, .bad, .bad, .bad, .bad, .bad, .bad, .bad, .bad, .bad, .bad, .bad, .bad, .bad, .bad, .bad, .bad, .bad, .bad, .bad, .bad, .bad, .bad, .bad, .bad, .bad, .bad, .bad, .bad, .bad, .bad, .bad, .bad, .bad, .bad, .bad, .bad, .bad, .bad, .bad, .bad], memL [some (.row 1 (cl .i64 acc))], []⟩, 1⟩
theorem loop_sIn (b hot : List Int) (o a : Int) (k i' : Nat) (hh : hot.length ≤ 2) {x : XS} (hx : head true d48_1 x = S_sIn b hot o k i' (0, [a])) : X tab l48_1 x = some (.exit 2, Z_sIn b k i' (a :: without hot o)) := by
  refine loopX (σ := Nat × List Int) (S_sIn b hot o k i') (fun s => hot.length - s.1) (fun s => s.1 ≤ hot.length ∧ s.2.length ≤ s.1 + 1 ∧ s.2 ++ without (hot.drop s.1) o = a :: without hot o) _ (fun ⟨i, acc⟩ ⟨hi, hlen, hs⟩ => ?_) (0, [a]) ⟨Nat.zero_le _, by simp, rfl⟩ x hx
  simp only at hi hlen hs
  cases hd : hot.drop i with
  | nil =>
    obtain rfl := drop_end hd hi
    rw [hd] at hs
    simp only [without, List.filter_nil, List.append_nil] at hs
    rw [show a :: without hot o = acc from hs.symm]
    refine .inr ⟨?_, by simp⟩
    simp (maxSteps := 4000000) -implicitDefEqProofs [b48_1, S_sIn, x_seq, x_cond, x_block, x_region, x_skip, x_exit, x_ret, head_id, runG, runOps, doOp, wantB, stepOp, AO.eff, pureOp, St.get, St.one, St.num, St.put, St.optNum, binA, binInt, List.take, List.drop, Z_sIn]
    change _ = _
    kernel_rfl
  | cons y r =>
    have hi' := drop_lt hd
    have h1 : (0 ≤ (i : Int) ∧ (i : Int) < (hot.length : Int)) := by omega
    have h2 := cl_read (k := .i64) hd 0 []
    have h4 := wrap_next hi' (show hot.length ≤ 281474976710656 by omega)
    have h5 : (acc.length + 1) * 8 ≤ 140737488355328 := by omega
    rw [hd] at hs
    simp only [without, List.filter_cons] at hs
    cases hp : (y == o) with
    | true =>
      have hye : y = o := beq_iff_eq.1 hp
      simp only [hp, Bool.not_true, Bool.false_eq_true, if_false] at hs
      refine .inl ⟨(i + 1, acc), ?_, by simp only; omega, hi', by simp only; omega, by simp only [drop_next hd]; exact hs⟩
      simp only [S_sIn]
      subst hye
      simp (maxSteps := 4000000) -implicitDefEqProofs [b48_1, x_seq, x_cond, x_block, x_region, x_skip, x_exit, x_ret, head_id, runG, runOps, doOp, wantB, stepOp, AO.eff, pureOp, St.get, St.one, St.num, St.put, St.optNum, binA, binInt, List.take, List.drop, memL_app, cellsAt, bne, h1, h2, h4, hi', -Int.natCast_add]
      change _ = _
      kernel_rfl
    | false =>
      simp only [hp, Bool.not_false, if_true] at hs
      refine .inl ⟨(i + 1, acc ++ [y]), ?_, by simp only; omega, hi', by simp; omega, by simp only [drop_next hd, List.append_assoc, List.singleton_append]; exact hs⟩
      simp only [S_sIn, List.length_append, List.length_singleton, ← cl_app1]
      simp (maxSteps := 4000000) -implicitDefEqProofs [b48_1, x_seq, x_cond, x_block, x_region, x_skip, x_exit, x_ret, head_id, runG, runOps, doOp, wantB, stepOp, AO.eff, pureOp, St.get, St.one, St.num, St.put, St.optNum, binA, binInt, List.take, List.drop, effOp2, effOp, memL_app, stoRow, cellsAt, toCells, toCell, scalar_int, scalar_bool, scalar_str, scalar_sl, updAt, fromRo, upd, srcCells, A1.slB, flat_int, cl_flat', St.parts, Eng.inB, reps, fillA, newRowSt, appSt, oldOf, rest, kill, mapMem, SV.map, Ob.map, memL_app, bne, h1, h2, h4, h5, hp, hi', cl_length, -Int.natCast_add]
      change _ = _
      kernel_rfl
theorem loop_sHotReplay (b : List Int) (hB : Bytes b) (hn : b.length ≤ 1048576) {x : XS} (hx : head true d48_0 x = S_sHotReplay b ([], 0, 1)) : X tab l48_0 x = Z_sHotReplay (repF b (b.length + 1) [] 0 1) := by
  refine loopX (σ := List Int × Nat × Nat) (S_sHotReplay b) (fun s => b.length - s.2.1) (RI2 b) _ (fun ⟨hot, i, k⟩ hI => ?_) ([], 0, 1) ⟨by simp, by simp, by simp, _, by simp only; omega, rfl⟩ x hx
  have hI' := hI
  obtain ⟨q1, q2, q3, _⟩ := hI'
  simp only at q1 q2 q3
  have g := r_sTurnOf b hB hn i (by omega)
  have w1 : IntKind.i64.wrap ((k : Int) + 1) = ((k + 1 : Nat) : Int) := by rw [wrap_id (by omega) (by omega)]; omega
  have c1 : (cl .i64 hot).take hot.length = cl .i64 hot := cl_self
  have c2 : hot.length ≤ (cl .i64 hot).length := by rw [cl_length]; omega
  cases ht : turnOf b i with
  | none =>
    rw [ht] at g
    simp only [turnSV] at g
    rw [RI2_stop hI (by simp only [repNext, ht])]
    refine .inr ⟨?_, by simp [Z_sHotReplay]⟩
    simp only [S_sHotReplay, Z_sHotReplay]
    simp (maxSteps := 4000000) -implicitDefEqProofs [b48_0, x_seq, x_cond, x_block, x_region, x_skip, x_exit, x_ret, head_id, runG, runOps, doOp, wantB, stepOp, AO.eff, pureOp, St.get, St.one, St.num, St.put, St.optNum, binA, binInt, List.take, List.drop, callRO, addMem_nil, roArgs, roL, roA, srcCells, A1.ownB, addMem, shift, ren, SV.map, Ob.map, Ob.noRo, SV.noRo, A1.noRo, List.range, List.range.loop, memL_app, cellsAt, g]
    change _ = _
    kernel_rfl
  | some p =>
    obtain ⟨n, a, c, T⟩ := p
    obtain ⟨t1, t2, t3, t4⟩ := turnOf_facts ht
    rw [ht] at g
    simp only [turnSV] at g
    have w2 : (i : Int) + (T.length : Int) = ((i + T.length : Nat) : Int) := by omega
    rw [w2] at g
    generalize hi' : i + T.length = i' at *
    have v1 := r_l2Has hot a (by omega)
    obtain ⟨o, ho⟩ : ∃ o, o = (c : Int) - 1 := ⟨_, rfl⟩
    rw [← ho] at g
    have v2 := r_l2Has hot o (by omega)
    by_cases hk : n = k
    · subst hk
      by_cases ha : (a : Int) ∈ hot
      · rw [decide_eq_true ha] at v1
        rw [RI2_stop hI (by simp only [repNext, ht, if_true, if_pos ha])]
        refine .inr ⟨?_, by simp [Z_sHotReplay]⟩
        simp only [S_sHotReplay, Z_sHotReplay]
        simp (maxSteps := 4000000) -implicitDefEqProofs [b48_0, x_seq, x_cond, x_block, x_region, x_skip, x_exit, x_ret, head_id, runG, runOps, doOp, wantB, stepOp, AO.eff, pureOp, St.get, St.one, St.num, St.put, St.optNum, binA, binInt, List.take, List.drop, callRO, addMem_nil, roArgs, roL, roA, srcCells, A1.ownB, addMem, shift, ren, SV.map, Ob.map, Ob.noRo, SV.noRo, A1.noRo, List.range, List.range.loop, memL_app, cellsAt, g, c1, c2, v1]
        change _ = _
        kernel_rfl
      · rw [decide_eq_false ha] at v1
        by_cases hfull : hot.length = 2
        · have hf2 : (2 : Int) ≤ (hot.length : Int) := by omega
          by_cases hm : o ∈ hot
          · have hnext : repNext b hot i n = some ((a : Int) :: without hot o, i') := by simp only [repNext, ht, ← ho, if_true, if_neg ha, if_pos hfull, if_pos hm, hi']
            obtain ⟨r1, r2⟩ := RI2_next hI hnext
            rw [decide_eq_true hm] at v2
            refine .inl ⟨((a : Int) :: without hot o, i', n + 1), ?_, r2, r1⟩
            simp only [S_sHotReplay]
            simp (maxSteps := 4000000) -implicitDefEqProofs [b48_0, x_seq, x_cond, x_block, x_region, x_skip, x_exit, x_ret, head_id, runG, runOps, doOp, wantB, stepOp, AO.eff, pureOp, St.get, St.one, St.num, St.put, St.optNum, binA, binInt, List.take, List.drop, callRO, addMem_nil, roArgs, roL, roA, srcCells, A1.ownB, addMem, shift, ren, SV.map, Ob.map, Ob.noRo, SV.noRo, A1.noRo, List.range, List.range.loop, effOp2, effOp, memL_app, stoRow, cellsAt, toCells, toCell, scalar_int, scalar_bool, scalar_str, scalar_sl, updAt, fromRo, upd, srcCells, A1.slB, flat_int, cl_flat', St.parts, Eng.inB, reps, fillA, newRowSt, appSt, oldOf, rest, kill, mapMem, SV.map, Ob.map, memL_app, cellsAt, g, c1, c2, v1, v2, hf2, w1, -Int.natCast_add]
            rw [loop_sIn b hot o a n i' q1 (by change _ = _; kernel_rfl)]
            simp (maxSteps := 4000000) -implicitDefEqProofs [Z_sIn, x_seq, x_cond, x_block, x_region, x_skip, x_exit, x_ret, head_id, runG, runOps, doOp, wantB, stepOp, AO.eff, pureOp, St.get, St.one, St.num, St.put, St.optNum, binA, binInt, List.take, List.drop, w1, -Int.natCast_add]
            change _ = _
            kernel_rfl
          · rw [decide_eq_false hm] at v2
            rw [RI2_stop hI (by simp only [repNext, ht, ← ho, if_true, if_neg ha, if_pos hfull, if_neg hm])]
            refine .inr ⟨?_, by simp [Z_sHotReplay]⟩
            simp only [S_sHotReplay, Z_sHotReplay]
            simp (maxSteps := 4000000) -implicitDefEqProofs [b48_0, x_seq, x_cond, x_block, x_region, x_skip, x_exit, x_ret, head_id, runG, runOps, doOp, wantB, stepOp, AO.eff, pureOp, St.get, St.one, St.num, St.put, St.optNum, binA, binInt, List.take, List.drop, callRO, addMem_nil, roArgs, roL, roA, srcCells, A1.ownB, addMem, shift, ren, SV.map, Ob.map, Ob.noRo, SV.noRo, A1.noRo, List.range, List.range.loop, memL_app, cellsAt, g, c1, c2, v1, v2, hf2]
            change _ = _
            kernel_rfl
        · have hf2 : ¬ (2 : Int) ≤ (hot.length : Int) := by omega
          by_cases hm : o = -1
          · have hnext : repNext b hot i n = some ((a : Int) :: without hot o, i') := by simp only [repNext, ht, ← ho, if_true, if_neg ha, if_neg hfull, if_pos hm, hi']
            obtain ⟨r1, r2⟩ := RI2_next hI hnext
            refine .inl ⟨((a : Int) :: without hot o, i', n + 1), ?_, r2, r1⟩
            clear ho hnext r1 r2
            subst hm
            simp only [S_sHotReplay]
            simp (maxSteps := 4000000) -implicitDefEqProofs [b48_0, x_seq, x_cond, x_block, x_region, x_skip, x_exit, x_ret, head_id, runG, runOps, doOp, wantB, stepOp, AO.eff, pureOp, St.get, St.one, St.num, St.put, St.optNum, binA, binInt, List.take, List.drop, callRO, addMem_nil, roArgs, roL, roA, srcCells, A1.ownB, addMem, shift, ren, SV.map, Ob.map, Ob.noRo, SV.noRo, A1.noRo, List.range, List.range.loop, effOp2, effOp, memL_app, stoRow, cellsAt, toCells, toCell, scalar_int, scalar_bool, scalar_str, scalar_sl, updAt, fromRo, upd, srcCells, A1.slB, flat_int, cl_flat', St.parts, Eng.inB, reps, fillA, newRowSt, appSt, oldOf, rest, kill, mapMem, SV.map, Ob.map, memL_app, cellsAt, g, c1, c2, v1, hf2, w1, -Int.natCast_add]
            rw [loop_sIn b hot (-1) a n i' q1 (by change _ = _; kernel_rfl)]
            simp (maxSteps := 4000000) -implicitDefEqProofs [Z_sIn, x_seq, x_cond, x_block, x_region, x_skip, x_exit, x_ret, head_id, runG, runOps, doOp, wantB, stepOp, AO.eff, pureOp, St.get, St.one, St.num, St.put, St.optNum, binA, binInt, List.take, List.drop, w1, -Int.natCast_add]
            change _ = _
            kernel_rfl
          · have hm' : (o == -1) = false := by rw [beq_eq_false_iff_ne]; exact hm
            rw [RI2_stop hI (by simp only [repNext, ht, ← ho, if_true, if_neg ha, if_neg hfull, if_neg hm])]
            refine .inr ⟨?_, by simp [Z_sHotReplay]⟩
            simp only [S_sHotReplay, Z_sHotReplay]
            simp (maxSteps := 4000000) -implicitDefEqProofs [b48_0, x_seq, x_cond, x_block, x_region, x_skip, x_exit, x_ret, head_id, runG, runOps, doOp, wantB, stepOp, AO.eff, pureOp, St.get, St.one, St.num, St.put, St.optNum, binA, binInt, List.take, List.drop, callRO, addMem_nil, roArgs, roL, roA, srcCells, A1.ownB, addMem, shift, ren, SV.map, Ob.map, Ob.noRo, SV.noRo, A1.noRo, List.range, List.range.loop, memL_app, cellsAt, g, bne, c1, c2, v1, hf2, hm']
            change _ = _
            kernel_rfl
    · have hk' : ((n : Int) == (k : Int)) = false := by rw [beq_eq_false_iff_ne]; omega
      rw [RI2_stop hI (by simp only [repNext, ht, ← ho, if_neg hk])]
      refine .inr ⟨?_, by simp [Z_sHotReplay]⟩
      simp only [S_sHotReplay, Z_sHotReplay]
      simp (maxSteps := 4000000) -implicitDefEqProofs [b48_0, x_seq, x_cond, x_block, x_region, x_skip, x_exit, x_ret, head_id, runG, runOps, doOp, wantB, stepOp, AO.eff, pureOp, St.get, St.one, St.num, St.put, St.optNum, binA, binInt, List.take, List.drop, callRO, addMem_nil, roArgs, roL, roA, srcCells, A1.ownB, addMem, shift, ren, SV.map, Ob.map, Ob.noRo, SV.noRo, A1.noRo, List.range, List.range.loop, memL_app, cellsAt, g, bne, hk', c1, c2]
      change _ = _
      kernel_rfl
theorem r_sHotReplay (b : List Int) (hB : Bytes b) (hn : b.length ≤ 1048576) : runRO (X tab) tab 48 [.v false [.ro b.length (cl .u8 b)]] = some (.tup [(false, [.sl 0 [] 0 (repF b (b.length + 1) [] 0 1).1.length]), (false, [.int .i64 (repF b (b.length + 1) [] 0 1).2])], [.row 1 (cl .i64 (repF b (b.length + 1) [] 0 1).1)]) := by
  unfold runRO
  simp (maxSteps := 4000000) -implicitDefEqProofs [tab48, a48, x_seq, x_cond, x_block, x_region, x_skip, x_exit, x_ret, head_id, runG, runOps, doOp, wantB, stepOp, AO.eff, pureOp, St.get, St.one, St.num, St.put, St.optNum, binA, binInt, List.take, List.drop, effOp2, effOp, memL_app, stoRow, cellsAt, toCells, toCell, scalar_int, scalar_bool, scalar_str, scalar_sl, updAt, fromRo, upd, srcCells, A1.slB, flat_int, cl_flat', St.parts, Eng.inB, reps, fillA, newRowSt, appSt, oldOf, rest, kill, mapMem, SV.map, Ob.map]
  rw [loop_sHotReplay b hB hn (by change _ = _; kernel_rfl)]
  simp (maxSteps := 4000000) -implicitDefEqProofs [Z_sHotReplay, x_seq, x_cond, x_block, x_region, x_skip, x_exit, x_ret, head_id, runG, runOps, doOp, wantB, stepOp, AO.eff, pureOp, St.get, St.one, St.num, St.put, St.optNum, binA, binInt, List.take, List.drop, effOp2, effOp, memL_app, stoRow, cellsAt, toCells, toCell, scalar_int, scalar_bool, scalar_str, scalar_sl, updAt, fromRo, upd, resOf, resSV, SV.map, SV.ids, A1.ids, reach, allObs, ren, pos, Ob.map, St.canon, memL, List.range, List.range.loop]
theorem repF_len (b : List Int) : ∀ (f : Nat) (hot : List Int) (i k : Nat), hot.length ≤ 2 → (repF b f hot i k).1.length ≤ 2 := by
  intro f
  induction f with
  | zero => intro hot i k h; exact h
  | succ f ih =>
    intro hot i k h
    simp only [repF]
    cases hn : repNext b hot i k with
    | none => exact h
    | some p =>
      obtain ⟨hot', i'⟩ := p
      exact ih _ _ _ (repNext_facts h hn).1
end Go.Proofs.Ytdagbeihjobmjaa.Eng.B
