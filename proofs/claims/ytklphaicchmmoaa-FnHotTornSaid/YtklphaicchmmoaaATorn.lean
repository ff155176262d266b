/- The book of touches, torn: the law. -/
import Derived.Test.YtklphaicchmmoaaATornP
import Derived.Test.YtklphaicchmmoaaADraw3
import Derived.Test.YtklphaicchmmoaaALaw
namespace Go.Proofs.Ytklphaicchmmoaa.Eng.A
set_option linter.unusedSimpArgs false
set_option linter.unusedVariables false
set_option maxHeartbeats 8000000
set_option maxRecDepth 100000
open Go.RowKit Go.Proofs

def S_sameG (a b : List Int) (i : Nat) : XS := ⟨⟨[.v false [.ro a.length (cl .i64 a)], .v false [.ro b.length (cl .i64 b)], .bad, .bad, .bad, .v false [.int .i64 (i)], .bad, .bad, .bad, .bad, .bad, .bad, .bad, .bad, .bad, .bad, .bad, .bad, .bad, .bad, .bad, .bad, .bad, .bad, .bad, .bad], memL [], []⟩, 0⟩
def R_sameG (t : Bool) : Option (AE × XS) := if t = true then some (.exit 0, ⟨⟨[.bad, .bad, .bad, .bad, .bad, .bad, .bad, .bad, .bad, .bad, .bad, .bad, .bad, .bad, .bad, .bad, .bad, .bad, .bad, .bad, .bad, .bad, .bad, .bad, .bad, .bad], memL [], []⟩, 0⟩) else some (.ret, ⟨⟨[.bad, .bad, .bad, .bad, .v false [.bool (false)], .bad, .bad, .bad, .bad, .bad, .bad, .bad, .bad, .bad, .bad, .bad, .bad, .bad, .bad, .bad, .bad, .bad, .bad, .bad, .bad, .bad], memL [], []⟩, 0⟩)
theorem loop_sameG (a b : List Int) (hab : a.length = b.length) (hn : a.length ≤ 1048576) {x : XS} (hx : head true d22_0 x = S_sameG a b 0) : X tab l22_0 x = R_sameG (decide (a = b)) := by
  refine loopX (σ := Nat) (S_sameG a b) (fun i => a.length - i) (fun i => i ≤ a.length ∧ (a.drop i = b.drop i ↔ a = b)) _ (fun i ⟨hi, hs⟩ => ?_) 0 ⟨Nat.zero_le _, by simp⟩ x hx
  cases hl : a.drop i with
  | nil =>
    obtain rfl := drop_end hl hi
    have hb : b.drop a.length = [] := List.drop_eq_nil_of_le (by omega)
    have he : decide (a = b) = true := by rw [decide_eq_true_eq, ← hs, hl, hb]
    rw [he]
    refine .inr ⟨?_, by simp [R_sameG]⟩
    simp (maxSteps := 4000000) -implicitDefEqProofs [b22_0, S_sameG, x_seq, x_cond, x_block, x_region, x_skip, x_exit, x_ret, head_id, runG, runOps, doOp, wantB, stepOp, AO.eff, pureOp, St.get, St.one, St.num, St.put, St.optNum, binA, binInt, List.take, List.drop, R_sameG]
    change _ = _
    kernel_rfl
  | cons y r =>
    have hi' := drop_lt hl
    obtain ⟨z, q, hl2⟩ : ∃ z q, b.drop i = z :: q := ⟨_, _, List.drop_eq_getElem_cons (by omega)⟩
    have h1 : (0 ≤ (i : Int) ∧ (i : Int) < (a.length : Int)) := by omega
    have h1b : (i : Int) < (b.length : Int) := by omega
    have h1c : i < b.length := by omega
    have h2 := cl_at (k := .i64) hl
    have h3 := cl_at (k := .i64) hl2
    have h4 := wrap_next hi' (show a.length ≤ 281474976710656 by omega)
    cases hp : (y == z) with
    | false =>
      have hne : ¬ y = z := beq_eq_false_iff_ne.1 hp
      have he : decide (a = b) = false := by
        rw [decide_eq_false_iff_not, ← hs, hl, hl2]
        intro h
        exact hne (List.cons.inj h).1
      rw [he]
      refine .inr ⟨?_, by simp [R_sameG]⟩
      simp (maxSteps := 4000000) -implicitDefEqProofs [b22_0, S_sameG, x_seq, x_cond, x_block, x_region, x_skip, x_exit, x_ret, head_id, runG, runOps, doOp, wantB, stepOp, AO.eff, pureOp, St.get, St.one, St.num, St.put, St.optNum, binA, binInt, List.take, List.drop, gOp, gRes, gEff, addObs_nil, addObs_one, freshB_memL, freshB_none, freshB_upd, freshB_addMem, freshB_addObs, fromRo, bne, h1, h1b, h1c, h2, h3, h4, hi', hp, R_sameG]
      change _ = _
      kernel_rfl
    | true =>
      have hye : y = z := beq_iff_eq.1 hp
      refine .inl ⟨i + 1, ?_, by omega, hi', ?_⟩
      · simp (maxSteps := 4000000) -implicitDefEqProofs [b22_0, S_sameG, x_seq, x_cond, x_block, x_region, x_skip, x_exit, x_ret, head_id, runG, runOps, doOp, wantB, stepOp, AO.eff, pureOp, St.get, St.one, St.num, St.put, St.optNum, binA, binInt, List.take, List.drop, gOp, gRes, gEff, addObs_nil, addObs_one, freshB_memL, freshB_none, freshB_upd, freshB_addMem, freshB_addObs, fromRo, bne, h1, h1b, h1c, h2, h3, h4, hi', hp]
        change _ = _
        kernel_rfl
      · rw [drop_next hl, drop_next hl2, ← hs, hl, hl2, hye]
        simp
theorem r_sameG (a b : List Int) (hn : a.length ≤ 1048576) : runRO (X tab) tab 22 [.v false [.ro a.length (cl .i64 a)], .v false [.ro b.length (cl .i64 b)]] = some (.v false [.bool (decide (a = b))], []) := by
  unfold runRO
  cases hp : ((a.length : Int) == (b.length : Int)) with
  | false =>
    have hne : ¬ a.length = b.length := by have := beq_eq_false_iff_ne.1 hp; omega
    rw [decide_eq_false (fun h : a = b => hne (by rw [h]))]
    simp (maxSteps := 4000000) -implicitDefEqProofs [tab22, a22, x_seq, x_cond, x_block, x_region, x_skip, x_exit, x_ret, head_id, runG, runOps, doOp, wantB, stepOp, AO.eff, pureOp, St.get, St.one, St.num, St.put, St.optNum, binA, binInt, List.take, List.drop, resOf, resSV, SV.map, SV.ids, A1.ids, reach, allObs, ren, pos, Ob.map, St.canon, memL, List.range, List.range.loop, bne, hp]
  | true =>
    have hab : a.length = b.length := by have := beq_iff_eq.1 hp; omega
    simp (maxSteps := 4000000) -implicitDefEqProofs [tab22, a22, x_seq, x_cond, x_block, x_region, x_skip, x_exit, x_ret, head_id, runG, runOps, doOp, wantB, stepOp, AO.eff, pureOp, St.get, St.one, St.num, St.put, St.optNum, binA, binInt, List.take, List.drop, bne, hp]
    rw [loop_sameG a b hab hn (by change _ = _; kernel_rfl)]
    cases decide (a = b) <;> simp (maxSteps := 4000000) -implicitDefEqProofs [R_sameG, x_seq, x_cond, x_block, x_region, x_skip, x_exit, x_ret, head_id, runG, runOps, doOp, wantB, stepOp, AO.eff, pureOp, St.get, St.one, St.num, St.put, St.optNum, binA, binInt, List.take, List.drop, resOf, resSV, SV.map, SV.ids, A1.ids, reach, allObs, ren, pos, Ob.map, St.canon, memL, List.range, List.range.loop]
theorem r_HotMarks_nil' : runRO (X tab) tab 23 [.v false [.nil]] = some (.v false [.sl 0 [] 0 0], [.row 1 []]) := runRO_mono (exec_le_X 60) (by kernel_rfl)
theorem r_HotOk_nil : runRO (X tab) tab 59 [.v false [.nil]] = some (.v false [.bool true], []) := runRO_mono (exec_le_X 60) (by kernel_rfl)
theorem r_CloneI_nil2 : runRO (X tab) tab 60 [.v false [.nil]] = some (.v false [.nil], []) := runRO_mono (exec_le_X 4) (by kernel_rfl)
theorem r_Clear_nil2 (a : Int) : runRO (X tab) tab 58 [.v false [.nil], .v false [.int .i64 a]] = some (.v false [.nil], []) := runRO_mono (exec_le_X 60) (by kernel_rfl)
theorem r_Touch_nil (c : Int) (h : ¬ extOf c < 0) : runRO (X tab) tab 21 [.v false [.nil], .v false [.int .i64 c]] = some (.tup [(false, [.sl 0 [] 0 1]), (false, [.int .i64 (-1)])], [.row 1 [.int .i64 (extOf c)]]) := by
  have h1 := r_ExtOf c
  have h2 := r_HotOk_nil
  have h3 := r_Clear_nil2 (extOf c)
  generalize extOf c = e at h h1 h3
  unfold runRO
  simp (maxSteps := 4000000) -implicitDefEqProofs [tab21, a21, x_seq, x_cond, x_block, x_region, x_skip, x_exit, x_ret, head_id, runG, runOps, doOp, wantB, stepOp, AO.eff, pureOp, St.get, St.one, St.num, St.put, St.optNum, binA, binInt, List.take, List.drop, effOp2, effOp, memL_app, stoRow, cellsAt, toCells, toCell, scalar_int, scalar_bool, scalar_str, scalar_sl, updAt, fromRo, upd, srcCells, A1.slB, flat_int, cl_flat', St.parts, Eng.inB, reps, fillA, newRowSt, appSt, oldOf, rest, kill, mapMem, SV.map, Ob.map, callRO, addMem_nil, roArgs, roL, roA, srcCells, A1.ownB, addMem, shift, ren, SV.map, Ob.map, Ob.noRo, SV.noRo, A1.noRo, List.range, List.range.loop, resOf, resSV, SV.map, SV.ids, A1.ids, reach, allObs, ren, pos, Ob.map, St.canon, memL, List.range, List.range.loop, h1, h2, h3, h]
theorem r_Touch_nil_bad (c : Int) (h : extOf c < 0) : runRO (X tab) tab 21 [.v false [.nil], .v false [.int .i64 c]] = some (.tup [(false, [.nil]), (false, [.int .i64 (-1)])], []) := by
  have h1 := r_ExtOf c
  have h2 := r_HotOk_nil
  have h3 := r_CloneI_nil2
  generalize extOf c = e at h h1
  unfold runRO
  simp (maxSteps := 4000000) -implicitDefEqProofs [tab21, a21, x_seq, x_cond, x_block, x_region, x_skip, x_exit, x_ret, head_id, runG, runOps, doOp, wantB, stepOp, AO.eff, pureOp, St.get, St.one, St.num, St.put, St.optNum, binA, binInt, List.take, List.drop, effOp2, effOp, memL_app, stoRow, cellsAt, toCells, toCell, scalar_int, scalar_bool, scalar_str, scalar_sl, updAt, fromRo, upd, srcCells, A1.slB, flat_int, cl_flat', St.parts, Eng.inB, reps, fillA, newRowSt, appSt, oldOf, rest, kill, mapMem, SV.map, Ob.map, callRO, addMem_nil, roArgs, roL, roA, srcCells, A1.ownB, addMem, shift, ren, SV.map, Ob.map, Ob.noRo, SV.noRo, A1.noRo, List.range, List.range.loop, resOf, resSV, SV.map, SV.ids, A1.ids, reach, allObs, ren, pos, Ob.map, St.canon, memL, List.range, List.range.loop, h1, h2, h3, h]
theorem Bytes_turnR (a o n : Int) : Bytes (turnR a o n) := by
  unfold turnR
  split
  · refine (turnP_bytes a o n).app ?_
    intro x hx
    simp only [fourN, List.mem_cons, List.not_mem_nil, or_false] at hx
    rcases hx with rfl | rfl | rfl | rfl <;> omega
  · intro x hx; simp at hx
theorem Bytes_book : ∀ (r : List Int) (s : List Int × List Int × Nat), Bytes s.1 → Bytes (bookF s r).1 := by
  intro r
  induction r with
  | nil => exact fun s h => h
  | cons c r ih =>
    intro s h
    simp only [bookF]
    apply ih
    unfold bookStep
    split
    · exact h
    · split
      · exact h
      · exact h.app (Bytes_turnR _ _ _)
/-- What is hot behind the first touches. -/
def hotAt (ws : List Int) (i : Nat) : List Int := (bookF ([], [], 1) (ws.take i)).2.1
theorem hotAt_ok : ∀ (r : List Int) (s : List Int × List Int × Nat), hotOk s.2.1 = true → hotOk (bookF s r).2.1 = true := by
  intro r
  induction r with
  | nil => exact fun s h => h
  | cons c r ih =>
    intro s h
    simp only [bookF]
    apply ih
    unfold bookStep
    split
    · exact h
    · rename_i hc
      split
      · exact hotOk_touch h hc
      · exact hotOk_touch h hc
theorem hotAt_next {ws : List Int} {i : Nat} {y : Int} {r : List Int} (h : ws.drop i = y :: r) : hotAt ws (i + 1) = if extOf y < 0 then hotAt ws i else (touchAll (hotAt ws i) y).take 2 := by
  unfold hotAt
  rw [take_next h, bookF_app']
  simp only [bookF, bookStep]
  by_cases h1 : extOf y < 0
  · simp [h1]
  · by_cases h2 : extOf y ∈ (bookF ([], [], 1) (ws.take i)).2.1 <;> simp [h1, h2]
/-- The loop's states: what is hot is a row, or none. -/
def S_torn (ws b told : List Int) (used : Nat) (s : Nat × List Int × Option (List Int) × Bool) : XS :=
  match s.2.2.1 with
  | none => ⟨⟨[.bad, .bad, .bad, .v false [.sl 0 [] 0 ws.length], .v false [.sl 1 [] 0 b.length], .v false [.sl 2 [] 0 told.length], .v false [.int .i64 (used)], .v false [.nil], .v false [.bool (s.2.2.2)], .v false [.int .i64 (s.1)], .bad, .bad, .bad, .bad, .bad, .bad, .bad, .bad, .bad, .bad, .bad, .bad, .bad, .bad, .bad, .bad, .bad, .bad, .bad, .bad, .bad, .bad, .bad, .bad, .bad, .bad, .bad, .bad, .bad, .bad, .bad, .bad, .bad, .bad, .bad, .bad, .bad, .bad, .bad, .bad, .bad, .bad, .bad, .bad, .bad, .bad, .bad, .bad, .bad, .bad, .bad, .bad, .bad, .bad, .bad, .bad, .bad, .bad, .bad, .bad, .bad, .bad, .bad, .bad, .bad, .bad, .bad, .bad, .bad, .bad, .bad], memL [some (.row 1 (cl .i64 ws)), some (.row 1 (cl .u8 b)), some (.row 1 (cl .i64 told))], []⟩, 3⟩
  | some tail => ⟨⟨[.bad, .bad, .bad, .v false [.sl 0 [] 0 ws.length], .v false [.sl 1 [] 0 b.length], .v false [.sl 2 [] 0 told.length], .v false [.int .i64 (used)], .v false [.sl 3 [] 0 s.2.1.length], .v false [.bool (s.2.2.2)], .v false [.int .i64 (s.1)], .bad, .bad, .bad, .bad, .bad, .bad, .bad, .bad, .bad, .bad, .bad, .bad, .bad, .bad, .bad, .bad, .bad, .bad, .bad, .bad, .bad, .bad, .bad, .bad, .bad, .bad, .bad, .bad, .bad, .bad, .bad, .bad, .bad, .bad, .bad, .bad, .bad, .bad, .bad, .bad, .bad, .bad, .bad, .bad, .bad, .bad, .bad, .bad, .bad, .bad, .bad, .bad, .bad, .bad, .bad, .bad, .bad, .bad, .bad, .bad, .bad, .bad, .bad, .bad, .bad, .bad, .bad, .bad, .bad, .bad, .bad], memL [some (.row 1 (cl .i64 ws)), some (.row 1 (cl .u8 b)), some (.row 1 (cl .i64 told)), some (.row 1 (cl .i64 (s.2.1 ++ tail)))], []⟩, 4⟩
def I_torn (ws told : List Int) (s : Nat × List Int × Option (List Int) × Bool) : Prop :=
  s.1 ≤ ws.length ∧ s.2.1 = hotAt ws s.1 ∧ (s.2.2.1 = none → s.2.1 = []) ∧ (told = [] → s.2.2.2 = true) ∧ ∀ j, 1 ≤ j → j ≤ s.1 → hotC told = hotC (hotAt ws j) → s.2.2.2 = true
def Q_torn (b told : List Int) (used : Nat) (H : Bool → Prop) (r : AE × XS) : Prop := ∃ hit : Bool, H hit ∧ r = (.exit 0, ⟨⟨[.bad, .bad, .bad, .bad, .v false [.sl 0 [] 0 b.length], .v false [.sl 1 [] 0 told.length], .v false [.int .i64 (used)], .bad, .v false [.bool (hit)], .bad, .bad, .bad, .bad, .bad, .bad, .bad, .bad, .bad, .bad, .bad, .bad, .bad, .bad, .bad, .bad, .bad, .bad, .bad, .bad, .bad, .bad, .bad, .bad, .bad, .bad, .bad, .bad, .bad, .bad, .bad, .bad, .bad, .bad, .bad, .bad, .bad, .bad, .bad, .bad, .bad, .bad, .bad, .bad, .bad, .bad, .bad, .bad, .bad, .bad, .bad, .bad, .bad, .bad, .bad, .bad, .bad, .bad, .bad, .bad, .bad, .bad, .bad, .bad, .bad, .bad, .bad, .bad, .bad, .bad, .bad, .bad], memL [some (.row 1 (cl .u8 b)), some (.row 1 (cl .i64 told))], []⟩, 2⟩)
theorem loop_torn (ws b told : List Int) (used : Nat) (hws : ws.length ≤ 14) (htl : told.length ≤ 2) (h0 : Bool) (hh0 : told = [] → h0 = true) :
    ∃ r, Q_torn b told used (fun hit => (told = [] → hit = true) ∧ ∀ j, 1 ≤ j → j ≤ ws.length → hotC told = hotC (hotAt ws j) → hit = true) r ∧ ∀ x, head true d3_0 x = S_torn ws b told used (0, [], some [], h0) → X tab l3_0 x = some r := by
  refine loopE (S_torn ws b told used) (fun s => ws.length - s.1) (I_torn ws told) _ (fun ⟨i, hot, form, hit⟩ ⟨hi, hhot, hform, hh, hj⟩ => ?_) (0, [], some [], h0) ⟨Nat.zero_le _, rfl, fun h => (by cases h), hh0, fun j h1 h2 => by simp only at h2; omega⟩
  simp only at hi hhot hform hh hj
  cases hl : ws.drop i with
  | nil =>
    obtain rfl := drop_end hl hi
    right
    cases form with
    | none =>
      simp (maxSteps := 4000000) -implicitDefEqProofs [b3_0, S_torn, x_seq, x_cond, x_block, x_region, x_skip, x_exit, x_ret, head_id, runG, runOps, doOp, wantB, stepOp, AO.eff, pureOp, St.get, St.one, St.num, St.put, St.optNum, binA, binInt, List.take, List.drop, -Prod.exists]
      exact ⟨hit, ⟨hh, hj⟩, by change _ = _; kernel_rfl⟩
    | some tail =>
      simp (maxSteps := 4000000) -implicitDefEqProofs [b3_0, S_torn, x_seq, x_cond, x_block, x_region, x_skip, x_exit, x_ret, head_id, runG, runOps, doOp, wantB, stepOp, AO.eff, pureOp, St.get, St.one, St.num, St.put, St.optNum, binA, binInt, List.take, List.drop, -Prod.exists]
      exact ⟨hit, ⟨hh, hj⟩, by change _ = _; kernel_rfl⟩
  | cons y r =>
    left
    have hi' := drop_lt hl
    have h1 : (0 ≤ (i : Int) ∧ (i : Int) < (ws.length : Int)) := by omega
    have h2 := fun t => cl_read (k := .i64) hl t []
    have h4 := wrap_next hi' (show ws.length ≤ 281474976710656 by omega)
    have hk : hotOk hot = true := by rw [hhot]; exact hotAt_ok _ _ rfl
    have hn := hotAt_next hl
    rw [← hhot] at hn
    have hlen := hotOk_len hk
    have g1 := r_HotMarks told (by omega)
    have u1 : (cl .i64 told).take told.length = cl .i64 told := cl_self
    have hm8 : ∀ l : List Int, (hotC l).length ≤ 8 := by
      intro l
      unfold hotC
      split
      · exact Nat.le_trans (List.length_filter_le _ _) (by simp)
      · simp
    -- the next state's marks
    have nextI : ∀ (hot' : List Int) (form' : Option (List Int)), hot' = hotAt ws (i + 1) → (form' = none → hot' = []) → I_torn ws told (i + 1, hot', form', hit || decide (hotC told = hotC hot')) := by
      intro hot' form' e1 e2
      refine ⟨hi', e1, e2, fun h => by simp [hh h], fun j j1 j2 j3 => ?_⟩
      simp only at j2 ⊢
      by_cases hji : j = i + 1
      · subst hji
        rw [← e1] at j3
        simp [j3]
      · simp [hj j j1 (by omega) j3]
    by_cases hc : extOf y < 0
    · rw [if_pos hc] at hn
      have hok : touchOk hot y = false := by
        simp only [touchOk, hk, Bool.true_and, decide_eq_false_iff_not]
        omega
      by_cases he : hot = []
      · subst he
        have hmk := r_HotMarks_nil'
        have hcN : hotC [] = [] := rfl
        have gs := r_sameG (hotC told) [] (by have := hm8 told; omega)
        have u3 : (cl .i64 (hotC told)).take (hotC told).length = cl .i64 (hotC told) := cl_self
        have hN := nextI [] none hn.symm (fun _ => rfl)
        rw [hcN] at hN
        simp only [List.length_nil, cl_nil] at gs
        have gt := r_Touch_nil_bad y hc
        have gt2 := r_Touch_bad [] (by simp) y hok
        rw [if_pos rfl] at gt2
        simp only [List.length_nil, cl_nil] at gt2
        generalize hotC told = mt at g1 gs u3 hN
        generalize decide (mt = []) = dd at gs hN
        cases form with
        | none =>
          cases hit <;>
          · simp (maxSteps := 4000000) -implicitDefEqProofs [b3_0, S_torn, x_seq, x_cond, x_block, x_region, x_skip, x_exit, x_ret, head_id, runG, runOps, doOp, wantB, stepOp, AO.eff, pureOp, St.get, St.one, St.num, St.put, St.optNum, binA, binInt, List.take, List.drop, callRO, addMem_nil, roArgs, roL, roA, srcCells, A1.ownB, addMem, shift, ren, SV.map, Ob.map, Ob.noRo, SV.noRo, A1.noRo, List.range, List.range.loop, cellsAt, memL_app, h1, h2, h4, hi', gt, gt2, g1, hmk, gs, u1, u3, cl_length, -Prod.exists]
            refine ⟨_, ?_, ?_, hN⟩
            · simp only [S_torn]
              change _ = _
              kernel_rfl
            · simp only; omega
        | some tail =>
          cases hit <;>
          · simp (maxSteps := 4000000) -implicitDefEqProofs [b3_0, S_torn, x_seq, x_cond, x_block, x_region, x_skip, x_exit, x_ret, head_id, runG, runOps, doOp, wantB, stepOp, AO.eff, pureOp, St.get, St.one, St.num, St.put, St.optNum, binA, binInt, List.take, List.drop, callRO, addMem_nil, roArgs, roL, roA, srcCells, A1.ownB, addMem, shift, ren, SV.map, Ob.map, Ob.noRo, SV.noRo, A1.noRo, List.range, List.range.loop, cellsAt, memL_app, h1, h2, h4, hi', gt, gt2, g1, hmk, gs, u1, u3, cl_length, -Prod.exists]
            refine ⟨_, ?_, ?_, hN⟩
            · simp only [S_torn]
              change _ = _
              kernel_rfl
            · simp only; omega
      · have gt := r_Touch_bad hot (by omega) y hok
        rw [if_neg he] at gt
        have hmk := r_HotMarks hot (by omega)
        have gs := r_sameG (hotC told) (hotC hot) (by have := hm8 told; omega)
        have u2 : (cl .i64 hot).take hot.length = cl .i64 hot := cl_self
        have u3 : (cl .i64 (hotC told)).take (hotC told).length = cl .i64 (hotC told) := cl_self
        have u4 : (cl .i64 (hotC hot)).take (hotC hot).length = cl .i64 (hotC hot) := cl_self
        have hN := nextI hot (some []) hn.symm (fun h => by cases h)
        generalize hotC told = mt at g1 gs u3 hN
        generalize hotC hot = mh at hmk gs u4 hN
        generalize decide (mt = mh) = dd at gs hN
        cases form with
        | none => exact absurd (hform rfl) he
        | some tail =>
          have u5 : (cl .i64 (hot ++ tail)).take hot.length = cl .i64 hot := by rw [cl_take, List.take_left]
          have u6 : hot.length ≤ (cl .i64 (hot ++ tail)).length := by rw [cl_length]; simp
          cases hit <;>
          · simp (maxSteps := 4000000) -implicitDefEqProofs [b3_0, S_torn, x_seq, x_cond, x_block, x_region, x_skip, x_exit, x_ret, head_id, runG, runOps, doOp, wantB, stepOp, AO.eff, pureOp, St.get, St.one, St.num, St.put, St.optNum, binA, binInt, List.take, List.drop, callRO, addMem_nil, roArgs, roL, roA, srcCells, A1.ownB, addMem, shift, ren, SV.map, Ob.map, Ob.noRo, SV.noRo, A1.noRo, List.range, List.range.loop, cellsAt, memL_app, h1, h2, h4, hi', gt, g1, hmk, gs, u1, u2, u3, u4, u5, u6, cl_length, -Prod.exists]
            refine ⟨_, ?_, ?_, hN⟩
            · simp only [S_torn, List.append_nil]
              change _ = _
              kernel_rfl
            · simp only; omega
    · rw [if_neg hc] at hn
      have hok : touchOk hot y = true := by
        simp only [touchOk, hk, Bool.true_and, decide_eq_true_eq]
        omega
      have hk2 := hotOk_touch hk hc
      have hlen2 := hotOk_len hk2
      obtain ⟨tail2, gt⟩ := r_Touch hot y hok
      have hmk := r_HotMarks ((touchAll hot y).take 2) (by omega)
      have gs := r_sameG (hotC told) (hotC ((touchAll hot y).take 2)) (by have := hm8 told; omega)
      have u3 : (cl .i64 (hotC told)).take (hotC told).length = cl .i64 (hotC told) := cl_self
      have u4 : (cl .i64 (hotC ((touchAll hot y).take 2))).take (hotC ((touchAll hot y).take 2)).length = cl .i64 (hotC ((touchAll hot y).take 2)) := cl_self
      have hN := fun tl => nextI ((touchAll hot y).take 2) (some tl) hn.symm (fun h => by cases h)
      cases form with
      | none =>
        obtain rfl := hform rfl
        have gt3 := r_Touch_nil y hc
        have e9 : (touchAll [] y).take 2 = [extOf y] := by simp [touchAll, without]
        rw [e9] at hmk gs u4 hN
        have hN := hN []
        have c1 : cl .i64 [extOf y] = [.int .i64 (extOf y)] := rfl
        simp only [List.length_cons, List.length_nil, Nat.zero_add, c1] at hmk
        generalize hotC told = mt at g1 gs u3 hN
        generalize hotC [extOf y] = mh at hmk gs u4 hN
        generalize decide (mt = mh) = dd at gs hN
        generalize extOf y = e at gt3 hmk hN
        cases hit <;>
        · simp (maxSteps := 4000000) -implicitDefEqProofs [b3_0, S_torn, x_seq, x_cond, x_block, x_region, x_skip, x_exit, x_ret, head_id, runG, runOps, doOp, wantB, stepOp, AO.eff, pureOp, St.get, St.one, St.num, St.put, St.optNum, binA, binInt, List.take, List.drop, callRO, addMem_nil, roArgs, roL, roA, srcCells, A1.ownB, addMem, shift, ren, SV.map, Ob.map, Ob.noRo, SV.noRo, A1.noRo, List.range, List.range.loop, cellsAt, memL_app, h1, h2, h4, hi', gt3, g1, hmk, gs, u1, u3, u4, cl_length, -Prod.exists]
          refine ⟨_, ?_, ?_, hN⟩
          · simp only [S_torn]
            change _ = _
            kernel_rfl
          · simp only; omega
      | some tail =>
        have hN := hN tail2
        have u5 : (cl .i64 (hot ++ tail)).take hot.length = cl .i64 hot := by rw [cl_take, List.take_left]
        have u6 : hot.length ≤ (cl .i64 (hot ++ tail)).length := by rw [cl_length]; simp
        generalize (touchAll hot y).take 2 = R2 at gt hmk gs u4 hN hlen2
        generalize touchX (touchAll hot y) = o at gt
        have u7 : (cl .i64 (R2 ++ tail2)).take R2.length = cl .i64 R2 := by rw [cl_take, List.take_left]
        have u8 : R2.length ≤ (cl .i64 (R2 ++ tail2)).length := by rw [cl_length]; simp
        generalize hotC told = mt at g1 gs u3 hN
        generalize hotC R2 = mh at hmk gs u4 hN
        generalize decide (mt = mh) = dd at gs hN
        cases hit <;>
        · simp (maxSteps := 4000000) -implicitDefEqProofs [b3_0, S_torn, x_seq, x_cond, x_block, x_region, x_skip, x_exit, x_ret, head_id, runG, runOps, doOp, wantB, stepOp, AO.eff, pureOp, St.get, St.one, St.num, St.put, St.optNum, binA, binInt, List.take, List.drop, callRO, addMem_nil, roArgs, roL, roA, srcCells, A1.ownB, addMem, shift, ren, SV.map, Ob.map, Ob.noRo, SV.noRo, A1.noRo, List.range, List.range.loop, cellsAt, memL_app, h1, h2, h4, hi', gt, g1, hmk, gs, u1, u3, u4, u5, u6, u7, u8, cl_length, -Prod.exists]
          refine ⟨_, ?_, ?_, hN⟩
          · simp only [S_torn]
            change _ = _
            kernel_rfl
          · simp only; omega
end Go.Proofs.Ytklphaicchmmoaa.Eng.A
