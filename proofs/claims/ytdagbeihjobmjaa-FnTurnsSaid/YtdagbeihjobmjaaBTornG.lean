/- What is hot behind the first touches. -/
import Derived.Test.YtdagbeihjobmjaaBTornP
import Derived.Test.YtdagbeihjobmjaaBSameG
namespace Go.Proofs.Ytdagbeihjobmjaa.Eng.B
set_option linter.unusedSimpArgs false
set_option linter.unusedVariables false
set_option maxHeartbeats 8000000
set_option maxRecDepth 100000
open Go.RowKit Go.Proofs

theorem r_HotMarks_nil' : runRO (X tab) tab 64 [.v false [.nil]] = some (.v false [.sl 0 [] 0 0], [.row 1 []]) := runRO_mono (exec_le_X 60) (by kernel_rfl)
theorem r_HotOk_nil : runRO (X tab) tab 62 [.v false [.nil]] = some (.v false [.bool true], []) := runRO_mono (exec_le_X 60) (by kernel_rfl)
theorem r_CloneI_nil2 : runRO (X tab) tab 118 [.v false [.nil]] = some (.v false [.nil], []) := runRO_mono (exec_le_X 4) (by kernel_rfl)
theorem r_Clear_nil2 (a : Int) : runRO (X tab) tab 113 [.v false [.nil], .v false [.int .i64 a]] = some (.v false [.nil], []) := runRO_mono (exec_le_X 60) (by kernel_rfl)
theorem r_Touch_nil (c : Int) (h : ¬ extOf c < 0) : runRO (X tab) tab 55 [.v false [.nil], .v false [.int .i64 c]] = some (.tup [(false, [.sl 0 [] 0 1]), (false, [.int .i64 (-1)])], [.row 1 [.int .i64 (extOf c)]]) := by
  have h1 := r_ExtOf c
  have h2 := r_HotOk_nil
  have h3 := r_Clear_nil2 (extOf c)
  generalize extOf c = e at h h1 h3
  unfold runRO
  simp (maxSteps := 4000000) -implicitDefEqProofs [tab55, a55, x_seq, x_cond, x_block, x_region, x_skip, x_exit, x_ret, head_id, runG, runOps, doOp, wantB, stepOp, AO.eff, pureOp, St.get, St.one, St.num, St.put, St.optNum, binA, binInt, List.take, List.drop, effOp2, effOp, memL_app, stoRow, cellsAt, toCells, toCell, scalar_int, scalar_bool, scalar_str, scalar_sl, updAt, fromRo, upd, srcCells, A1.slB, flat_int, cl_flat', St.parts, Eng.inB, reps, fillA, newRowSt, appSt, oldOf, rest, kill, mapMem, SV.map, Ob.map, callRO, addMem_nil, roArgs, roL, roA, srcCells, A1.ownB, addMem, shift, ren, SV.map, Ob.map, Ob.noRo, SV.noRo, A1.noRo, List.range, List.range.loop, resOf, resSV, SV.map, SV.ids, A1.ids, reach, allObs, ren, pos, Ob.map, St.canon, memL, List.range, List.range.loop, h1, h2, h3, h]
theorem r_Touch_nil_bad (c : Int) (h : extOf c < 0) : runRO (X tab) tab 55 [.v false [.nil], .v false [.int .i64 c]] = some (.tup [(false, [.nil]), (false, [.int .i64 (-1)])], []) := by
  have h1 := r_ExtOf c
  have h2 := r_HotOk_nil
  have h3 := r_CloneI_nil2
  generalize extOf c = e at h h1
  unfold runRO
  simp (maxSteps := 4000000) -implicitDefEqProofs [tab55, a55, x_seq, x_cond, x_block, x_region, x_skip, x_exit, x_ret, head_id, runG, runOps, doOp, wantB, stepOp, AO.eff, pureOp, St.get, St.one, St.num, St.put, St.optNum, binA, binInt, List.take, List.drop, effOp2, effOp, memL_app, stoRow, cellsAt, toCells, toCell, scalar_int, scalar_bool, scalar_str, scalar_sl, updAt, fromRo, upd, srcCells, A1.slB, flat_int, cl_flat', St.parts, Eng.inB, reps, fillA, newRowSt, appSt, oldOf, rest, kill, mapMem, SV.map, Ob.map, callRO, addMem_nil, roArgs, roL, roA, srcCells, A1.ownB, addMem, shift, ren, SV.map, Ob.map, Ob.noRo, SV.noRo, A1.noRo, List.range, List.range.loop, resOf, resSV, SV.map, SV.ids, A1.ids, reach, allObs, ren, pos, Ob.map, St.canon, memL, List.range, List.range.loop, h1, h2, h3, h]
theorem Bytes_turnR (a o n : Int) : Bytes (turnR a o n) := by
  unfold turnR
  split
  · refine (turnP_bytes a o n).app ?_
    intro x hx
    simp only [fourN, List.mem_cons, List.not_mem_nil, or_false] at hx
    rcases hx with rfl | rfl | rfl | rfl <;> omega
  · intro x hx; simp at hx
theorem Bytes_book : ∀ (r : List Int) (s : List Int × List Int × Nat), Bytes s.1 → Bytes (bookF s r).1 := by
  intro r
  induction r with
  | nil => exact fun s h => h
  | cons c r ih =>
    intro s h
    simp only [bookF]
    apply ih
    unfold bookStep
    split
    · exact h
    · split
      · exact h
      · exact h.app (Bytes_turnR _ _ _)
/-- What is hot behind the first touches. -/
def hotAt (ws : List Int) (i : Nat) : List Int := (bookF ([], [], 1) (ws.take i)).2.1
theorem hotAt_ok : ∀ (r : List Int) (s : List Int × List Int × Nat), hotOk s.2.1 = true → hotOk (bookF s r).2.1 = true := by
  intro r
  induction r with
  | nil => exact fun s h => h
  | cons c r ih =>
    intro s h
    simp only [bookF]
    apply ih
    unfold bookStep
    split
    · exact h
    · rename_i hc
      split
      · exact hotOk_touch h hc
      · exact hotOk_touch h hc
theorem hotAt_next {ws : List Int} {i : Nat} {y : Int} {r : List Int} (h : ws.drop i = y :: r) : hotAt ws (i + 1) = if extOf y < 0 then hotAt ws i else (touchAll (hotAt ws i) y).take 2 := by
  unfold hotAt
  rw [take_next h, bookF_app']
  simp only [bookF, bookStep]
  by_cases h1 : extOf y < 0
  · simp [h1]
  · by_cases h2 : extOf y ∈ (bookF ([], [], 1) (ws.take i)).2.1 <;> simp [h1, h2]
/-- A book that is whole is read to its end. -/
theorem whole_gen : ∀ (r B hot : List Int) (n : Nat) (hotR : List Int) (f : Nat), hotOk hot = true → Sync hotR hot → 1 ≤ n → n + r.length ≤ 127 → (bookF (B, hot, n) r).1.length < B.length + 7 * f →
    Sync (repF (bookF (B, hot, n) r).1 f hotR B.length n).1 (bookF (B, hot, n) r).2.1 ∧ (repF (bookF (B, hot, n) r).1 f hotR B.length n).2 = (bookF (B, hot, n) r).1.length := by
  intro r
  induction r with
  | nil =>
    intro B hot n hotR f hk hs hn hr hf
    simp only [bookF] at hf ⊢
    rw [repF_stop (by rw [List.drop_length]; exact turnOf_empty) (by omega)]
    exact ⟨hs, rfl⟩
  | cons c r ih =>
    intro B hot n hotR f hk hs hn hr hf
    simp only [List.length_cons] at hr
    by_cases hc : extOf c < 0
    · have hst : bookStep (B, hot, n) c = (B, hot, n) := by simp [bookStep, hc]
      simp only [bookF, hst] at hf ⊢
      exact ih B hot n hotR f hk hs hn (by omega) hf
    · by_cases hm : extOf c ∈ hot
      · have hst : bookStep (B, hot, n) c = (B, (touchAll hot c).take 2, n) := by simp [bookStep, hc, hm]
        simp only [bookF, hst] at hf ⊢
        exact ih B _ n hotR f (hotOk_touch hk hc) (touch_in hk hs hm) hn (by omega) hf
      · obtain ⟨o, ho4, hox, hoe, hne, htk, ho2, ho3⟩ := touch_out hk hs hc hm
        have her := extOf_rng hc
        obtain ⟨a, ha⟩ : ∃ a : Nat, extOf c = a := ⟨(extOf c).toNat, by omega⟩
        have ha3 : a ≤ 3 := by omega
        have hok : turnOk a ((o : Int) - 1) n = true := by
          simp only [turnOk, Bool.and_eq_true, Bool.not_eq_true', beq_eq_false_iff_ne]
          exact ⟨⟨⟨rng_iff.2 (by omega), rng_iff.2 (by omega)⟩, by rw [← ha]; exact hoe⟩, rng_iff.2 (by omega)⟩
        obtain ⟨f0, f1, f2, f3, hT⟩ := turnB_short ha3 ho4 (show n ≤ 127 by omega)
        have hlen : (turnB a ((o : Int) - 1) n).length = 7 := by rw [hT]; rfl
        have hst : bookStep (B, hot, n) c = (B ++ turnB a ((o : Int) - 1) n, (touchAll hot c).take 2, n + 1) := by
          have hc' := hc
          have hm' := hm
          rw [ha] at hc' hm'
          simp only [bookStep, ha, if_neg hc', if_neg hm', hox, turnR, hok, if_true]
        obtain ⟨t, ht⟩ := bookF_ext' r (B ++ turnB a ((o : Int) - 1) n, (touchAll hot c).take 2, n + 1)
        have hk2 := hotOk_touch hk hc
        rw [ha] at htk hne
        simp only [bookF, hst] at hf ⊢
        have hBl : (B ++ turnB a ((o : Int) - 1) n).length = B.length + 7 := by rw [List.length_append, hlen]
        have hf0 : 0 < f := by
          rw [ht] at hf
          simp only [List.length_append, hlen] at hf
          omega
        obtain ⟨f', rfl⟩ : ∃ f', f = f' + 1 := ⟨f - 1, by omega⟩
        have hd1 : (bookF (B ++ turnB a ((o : Int) - 1) n, (touchAll hot c).take 2, n + 1) r).1.drop B.length = turnB a ((o : Int) - 1) n ++ t := by
          rw [ht]
          simp only
          rw [List.append_assoc, List.drop_left]
        rw [repF_step ho4 ha3 (by omega) hok hd1 hne ho2 ho3 htk]
        have := ih (B ++ turnB a ((o : Int) - 1) n) _ (n + 1) ((touchAll hot c).take 2) f' hk2 (.inl rfl) (by omega) (by omega) (by rw [hBl]; omega)
        rwa [hBl] at this
theorem repNext_ok {b hot hot' : List Int} {i i' k : Nat} (hk : hotOk hot = true) (h : repNext b hot i k = some (hot', i')) : hotOk hot' = true := by
  unfold repNext at h
  split at h
  · cases h
  · rename_i n a c T ht
    have ha : (a = 0 ∨ a = 1 ∨ a = 2 ∨ a = 3) := by
      unfold turnOf at ht
      split at ht
      · cases ht
      · split at ht
        · cases ht
        · split at ht
          · cases ht
          · split at ht
            · rename_i hh
              simp only [Option.some.injEq, Prod.mk.injEq] at ht
              obtain ⟨rfl, rfl, rfl, rfl⟩ := ht
              simp only [Bool.and_eq_true] at hh
              have := turn_facts hh.1
              omega
            · cases ht
    split at h
    · split at h
      · cases h
      · rename_i hna
        split at h
        · rename_i h2
          split at h
          · rename_i hm
            simp only [Option.some.injEq, Prod.mk.injEq] at h
            obtain ⟨rfl, rfl⟩ := h
            rcases hotOk_forms hk with rfl | ⟨x, hx, rfl⟩ | ⟨x, y, hx, hy, hxy, rfl⟩
            · simp at h2
            · simp at h2
            · generalize (c : Int) - 1 = o at hm
              simp at hm hna
              rcases hm with rfl | rfl
              · have h1 : (y == o) = false := beq_eq_false_iff_ne.2 (fun h => hxy h.symm)
                have : without [o, y] o = [y] := by simp [without, h1]
                rw [this]
                rcases ha with rfl | rfl | rfl | rfl <;> rcases hy with rfl | rfl | rfl | rfl <;> first | decide | exact absurd rfl hna.2
              · have h1 : (x == o) = false := beq_eq_false_iff_ne.2 hxy
                have : without [x, o] o = [x] := by simp [without, h1]
                rw [this]
                rcases ha with rfl | rfl | rfl | rfl <;> rcases hx with rfl | rfl | rfl | rfl <;> first | decide | exact absurd rfl hna.1
          · cases h
        · rename_i h2
          split at h
          · rename_i hm
            simp only [Option.some.injEq, Prod.mk.injEq] at h
            obtain ⟨rfl, rfl⟩ := h
            rw [hm]
            rcases hotOk_forms hk with rfl | ⟨x, hx, rfl⟩ | ⟨x, y, hx, hy, hxy, rfl⟩
            · have : without [] (-1) = [] := rfl
              rw [this]
              rcases ha with rfl | rfl | rfl | rfl <;> decide
            · simp at hna
              have h1 : (x == -1) = false := beq_eq_false_iff_ne.2 (by omega)
              have : without [x] (-1) = [x] := by simp [without, h1]
              rw [this]
              rcases ha with rfl | rfl | rfl | rfl <;> rcases hx with rfl | rfl | rfl | rfl <;> first | decide | exact absurd rfl hna
            · exact absurd rfl h2
          · cases h
    · cases h
theorem repF_ok (b : List Int) : ∀ (f : Nat) (hot : List Int) (i k : Nat), hotOk hot = true → hotOk (repF b f hot i k).1 = true := by
  intro f
  induction f with
  | zero => exact fun hot i k h => h
  | succ f ih =>
    intro hot i k h
    simp only [repF]
    cases hn : repNext b hot i k with
    | none => exact h
    | some p => obtain ⟨hot', i'⟩ := p; exact ih hot' i' (k + 1) (repNext_ok h hn)
theorem repF_used (b : List Int) : ∀ (f : Nat) (hot : List Int) (i k : Nat), hot.length ≤ 2 → i ≤ b.length → (repF b f hot i k).2 ≤ b.length := by
  intro f
  induction f with
  | zero => exact fun hot i k _ h => h
  | succ f ih =>
    intro hot i k hh h
    simp only [repF]
    cases hn : repNext b hot i k with
    | none => exact h
    | some p =>
      obtain ⟨hot', i'⟩ := p
      obtain ⟨h1, h2, h3⟩ := repNext_facts hh hn
      exact ih hot' i' (k + 1) h1 h3
end Go.Proofs.Ytdagbeihjobmjaa.Eng.B
