/- A cell that is touched is among those that are looked at behind a fall: the law. -/
import Derived.Test.YtdagbeihjobmjaaADraw5
import Derived.Test.YtdagbeihjobmjaaAMark
import Derived.Test.YtdagbeihjobmjaaALaw
import Derived.Test.YtdagbeihjobmjaaABits
namespace Go.Proofs.Ytdagbeihjobmjaa.Eng.A
set_option linter.unusedSimpArgs false
set_option linter.unusedVariables false
set_option maxHeartbeats 8000000
set_option maxRecDepth 100000
open Go.RowKit Go.Proofs

def S_within (l : List Int) (y : Int) (i : Nat) : XS := ⟨⟨[.v false [.ro l.length (cl .i64 l)], .v false [.int .i64 (y)], .bad, .bad, .bad, .v false [.int .i64 (i)], .bad, .bad, .bad, .bad, .bad, .bad, .bad, .bad, .bad, .bad, .bad, .bad], memL [], []⟩, 0⟩
def R_within (b : Bool) : Option (AE × XS) := if b = true then some (.ret, ⟨⟨[.bad, .bad, .bad, .bad, .v false [.bool (true)], .bad, .bad, .bad, .bad, .bad, .bad, .bad, .bad, .bad, .bad, .bad, .bad, .bad], memL [], []⟩, 0⟩) else some (.exit 0, ⟨⟨[.bad, .bad, .bad, .bad, .bad, .bad, .bad, .bad, .bad, .bad, .bad, .bad, .bad, .bad, .bad, .bad, .bad, .bad], memL [], []⟩, 0⟩)
theorem loop_within (l : List Int) (y : Int) (hn : l.length ≤ 1048576) {x : XS} (hx : head true d66_0 x = S_within l y 0) : X tab l66_0 x = R_within (decide (y ∈ l)) := by
  refine loopX (σ := Nat) (S_within l y) (fun i => l.length - i) (fun i => i ≤ l.length ∧ (y ∈ l.drop i ↔ y ∈ l)) _ (fun i ⟨hi, hs⟩ => ?_) 0 ⟨Nat.zero_le _, by simp⟩ x hx
  cases hl : l.drop i with
  | nil =>
    have hb : decide (y ∈ l) = false := by rw [decide_eq_false_iff_not, ← hs, hl]; simp
    obtain rfl := drop_end hl hi
    rw [hb]
    refine .inr ⟨?_, by simp [R_within]⟩
    simp (maxSteps := 4000000) -implicitDefEqProofs [b66_0, S_within, x_seq, x_cond, x_block, x_region, x_skip, x_exit, x_ret, head_id, runG, runOps, doOp, wantB, stepOp, AO.eff, pureOp, St.get, St.one, St.num, St.put, St.optNum, binA, binInt, List.take, List.drop, R_within]
    change _ = _
    kernel_rfl
  | cons z r =>
    have hi' := drop_lt hl
    have h1 : (0 ≤ (i : Int) ∧ (i : Int) < (l.length : Int)) := by omega
    have h2 := cl_at (k := .i64) hl
    have h4 := wrap_next hi' (show l.length ≤ 281474976710656 by omega)
    cases hp : (z == y) with
    | true =>
      have : y = z := (beq_iff_eq.1 hp).symm
      subst this
      have hb : decide (y ∈ l) = true := by rw [decide_eq_true_eq, ← hs, hl]; simp
      rw [hb]
      refine .inr ⟨?_, by simp [R_within]⟩
      simp (maxSteps := 4000000) -implicitDefEqProofs [b66_0, S_within, x_seq, x_cond, x_block, x_region, x_skip, x_exit, x_ret, head_id, runG, runOps, doOp, wantB, stepOp, AO.eff, pureOp, St.get, St.one, St.num, St.put, St.optNum, binA, binInt, List.take, List.drop, callRO, addMem_nil, roArgs, roL, roA, srcCells, A1.ownB, addMem, shift, ren, SV.map, Ob.map, Ob.noRo, SV.noRo, A1.noRo, List.range, List.range.loop, fromRo, h1, h2, h4, hi', R_within]
      change _ = _
      kernel_rfl
    | false =>
      have hne : ¬ z = y := beq_eq_false_iff_ne.1 hp
      refine .inl ⟨i + 1, ?_, by omega, hi', by rw [drop_next hl, ← hs, hl]; simp [show ¬ y = z from fun e => hne e.symm]⟩
      simp (maxSteps := 4000000) -implicitDefEqProofs [b66_0, S_within, x_seq, x_cond, x_block, x_region, x_skip, x_exit, x_ret, head_id, runG, runOps, doOp, wantB, stepOp, AO.eff, pureOp, St.get, St.one, St.num, St.put, St.optNum, binA, binInt, List.take, List.drop, callRO, addMem_nil, roArgs, roL, roA, srcCells, A1.ownB, addMem, shift, ren, SV.map, Ob.map, Ob.noRo, SV.noRo, A1.noRo, List.range, List.range.loop, fromRo, h1, h2, h4, hi', hp]
      change _ = _
      kernel_rfl
theorem r_within (l : List Int) (y : Int) (hn : l.length ≤ 1048576) : runRO (X tab) tab 66 [.v false [.ro l.length (cl .i64 l)], .v false [.int .i64 y]] = some (.v false [.bool (decide (y ∈ l))], []) := by
  unfold runRO
  simp (maxSteps := 4000000) -implicitDefEqProofs [tab66, a66, x_seq, x_cond, x_block, x_region, x_skip, x_exit, x_ret, head_id, runG, runOps, doOp, wantB, stepOp, AO.eff, pureOp, St.get, St.one, St.num, St.put, St.optNum, binA, binInt, List.take, List.drop]
  rw [loop_within l y hn (by change _ = _; kernel_rfl)]
  cases decide (y ∈ l) <;> simp (maxSteps := 4000000) -implicitDefEqProofs [R_within, x_seq, x_cond, x_block, x_region, x_skip, x_exit, x_ret, head_id, runG, runOps, doOp, wantB, stepOp, AO.eff, pureOp, St.get, St.one, St.num, St.put, St.optNum, binA, binInt, List.take, List.drop, resOf, resSV, SV.map, SV.ids, A1.ids, reach, allObs, ren, pos, Ob.map, St.canon, memL, List.range, List.range.loop]
/-- The marks of hot rows are in form. -/
theorem hotM_all (p : List Int → Prop) (h0 : p []) (h1 : ∀ a, (a = 0 ∨ a = 1 ∨ a = 2 ∨ a = 3) → p [a]) (h2 : ∀ a b, (a = 0 ∨ a = 1 ∨ a = 2 ∨ a = 3) → (b = 0 ∨ b = 1 ∨ b = 2 ∨ b = 3) → a ≠ b → p [a, b]) {l : List Int} (h : hotOk l = true) : p l := by
  rcases hotOk_forms h with rfl | ⟨a, ha, rfl⟩ | ⟨a, b, ha, hb, hab, rfl⟩
  · exact h0
  · exact h1 a ha
  · exact h2 a b ha hb hab
theorem hotM_len {l : List Int} (h : hotOk l = true) : (hotM l).length ≤ 4 := by
  rw [← outF_hot h, outF, outF_length]
  have := hotOk_len h
  simp
  omega
theorem hotM_sub (l : List Int) : (hotM l).Sublist [0, 1, 2, 3, 4, 5, 6, 7] := by
  unfold hotM
  exact List.filter_sublist
theorem mem_hotM {l : List Int} {c : Int} (h0 : 0 ≤ c) (h7 : c ≤ 7) (h : extOf c ∈ l) : c ∈ hotM l := by
  unfold hotM
  rw [List.mem_filter]
  refine ⟨?_, by simpa using h⟩
  rw [List.mem_map]
  exact ⟨c.toNat, by rw [List.mem_range]; omega, by omega⟩
theorem marks_hotM {l : List Int} (h : hotOk l = true) : marksOk (hotM l) = true := by
  rcases hotOk_forms h with rfl | ⟨a, ha, rfl⟩ | ⟨a, b, ha, hb, hab, rfl⟩
  · decide
  · rcases ha with rfl | rfl | rfl | rfl <;> decide
  · rcases ha with rfl | rfl | rfl | rfl <;> rcases hb with rfl | rfl | rfl | rfl <;> first | exact absurd rfl hab | decide
theorem r_HotMarks_nil : runRO (X tab) tab 64 [.v false [.nil]] = some (.v false [.sl 0 [] 0 0], [.row 1 []]) := runRO_mono (exec_le_X 60) (by kernel_rfl)
theorem r_sHotOk_nil : runRO (X tab) tab 63 [.v false [.nil]] = some (.v false [.bool true], []) := runRO_mono (exec_le_X 60) (by kernel_rfl)
theorem r_l2Has_nil (y : Int) : runRO (X tab) tab 103 [.v false [.nil], .v false [.int .i64 y]] = some (.v false [.bool false], []) := runRO_mono (exec_le_X 60) (by kernel_rfl)
def S_sHotMN (i : Nat) : XS := ⟨⟨[.v false [.nil], .bad, .bad, .v false [.sl 0 [] 0 0], .v false [.int .i64 (i)], .bad, .bad, .bad, .bad, .bad, .bad, .bad, .bad, .bad, .bad, .bad, .bad, .bad, .bad, .bad, .bad, .bad, .bad], memL [some (.row 1 [])], []⟩, 1⟩
theorem loop_sHotMN {x : XS} (hx : head true d65_0 x = S_sHotMN 0) : X tab l65_0 x = some (.exit 0, ⟨⟨[.bad, .bad, .bad, .v false [.sl 0 [] 0 0], .bad, .bad, .bad, .bad, .bad, .bad, .bad, .bad, .bad, .bad, .bad, .bad, .bad, .bad, .bad, .bad, .bad, .bad, .bad], memL [some (.row 1 [])], []⟩, 1⟩) := by
  have h9 := r_sHotOk_nil
  refine loopN 8 S_sHotMN _ (by simp) (fun i hi => ?_) ?_ (Nat.zero_le _) hx
  · have h1 : (i : Int) < 8 := by omega
    have h4 : IntKind.i64.wrap ((i : Int) + 1) = ((i + 1 : Nat) : Int) := by rw [wrap_id (by omega) (by omega)]; omega
    have h5 := r_sExtOf (i : Int)
    have h6 := r_l2Has_nil (extOf (i : Int))
    simp (maxSteps := 4000000) -implicitDefEqProofs [b65_0, S_sHotMN, x_seq, x_cond, x_block, x_region, x_skip, x_exit, x_ret, head_id, runG, runOps, doOp, wantB, stepOp, AO.eff, pureOp, St.get, St.one, St.num, St.put, St.optNum, binA, binInt, List.take, List.drop, effOp2, effOp, memL_app, stoRow, cellsAt, toCells, toCell, scalar_int, scalar_bool, scalar_str, scalar_sl, updAt, fromRo, upd, srcCells, A1.slB, flat_int, cl_flat', St.parts, Eng.inB, reps, fillA, newRowSt, appSt, oldOf, rest, kill, mapMem, SV.map, Ob.map, callRO, addMem_nil, roArgs, roL, roA, srcCells, A1.ownB, addMem, shift, ren, SV.map, Ob.map, Ob.noRo, SV.noRo, A1.noRo, List.range, List.range.loop, h1, h4, h5, h6, h9, -Int.natCast_add]
    change _ = _
    kernel_rfl
  · simp (maxSteps := 4000000) -implicitDefEqProofs [b65_0, S_sHotMN, x_seq, x_cond, x_block, x_region, x_skip, x_exit, x_ret, head_id, runG, runOps, doOp, wantB, stepOp, AO.eff, pureOp, St.get, St.one, St.num, St.put, St.optNum, binA, binInt, List.take, List.drop, effOp2, effOp, memL_app, stoRow, cellsAt, toCells, toCell, scalar_int, scalar_bool, scalar_str, scalar_sl, updAt, fromRo, upd, srcCells, A1.slB, flat_int, cl_flat', St.parts, Eng.inB, reps, fillA, newRowSt, appSt, oldOf, rest, kill, mapMem, SV.map, Ob.map, callRO, addMem_nil, roArgs, roL, roA, srcCells, A1.ownB, addMem, shift, ren, SV.map, Ob.map, Ob.noRo, SV.noRo, A1.noRo, List.range, List.range.loop, h9]
    change _ = _
    kernel_rfl
theorem r_sHotMarks_nil : runRO (X tab) tab 65 [.v false [.nil]] = some (.v false [.sl 0 [] 0 0], [.row 1 []]) := by
  unfold runRO
  simp (maxSteps := 4000000) -implicitDefEqProofs [tab65, a65, x_seq, x_cond, x_block, x_region, x_skip, x_exit, x_ret, head_id, runG, runOps, doOp, wantB, stepOp, AO.eff, pureOp, St.get, St.one, St.num, St.put, St.optNum, binA, binInt, List.take, List.drop, effOp2, effOp, memL_app, stoRow, cellsAt, toCells, toCell, scalar_int, scalar_bool, scalar_str, scalar_sl, updAt, fromRo, upd, srcCells, A1.slB, flat_int, cl_flat', St.parts, Eng.inB, reps, fillA, newRowSt, appSt, oldOf, rest, kill, mapMem, SV.map, Ob.map]
  rw [loop_sHotMN (by change _ = _; kernel_rfl)]
  simp (maxSteps := 4000000) -implicitDefEqProofs [x_seq, x_cond, x_block, x_region, x_skip, x_exit, x_ret, head_id, runG, runOps, doOp, wantB, stepOp, AO.eff, pureOp, St.get, St.one, St.num, St.put, St.optNum, binA, binInt, List.take, List.drop, effOp2, effOp, memL_app, stoRow, cellsAt, toCells, toCell, scalar_int, scalar_bool, scalar_str, scalar_sl, updAt, fromRo, upd, resOf, resSV, SV.map, SV.ids, A1.ids, reach, allObs, ren, pos, Ob.map, St.canon, memL, List.range, List.range.loop]
theorem law_FnHotCovers (l : List Int) (hn : l.length ≤ 140737488351232) (hw : ∀ x ∈ l, (Lit.int .u8 x).wf = true) :
    runRO (X tab) tab 11 [.v false [.ro l.length (cl .u8 l)]] = some (.v false [.bool true], []) := by
  have hb := r_big l
  by_cases hbig : (1048576 : Int) < (l.length : Int)
  · rw [decide_eq_true hbig] at hb
    unfold runRO
    simp (maxSteps := 4000000) -implicitDefEqProofs [tab11, a11, x_seq, x_cond, x_block, x_region, x_skip, x_exit, x_ret, head_id, runG, runOps, doOp, wantB, stepOp, AO.eff, pureOp, St.get, St.one, St.num, St.put, St.optNum, binA, binInt, List.take, List.drop, callRO, addMem_nil, roArgs, roL, roA, srcCells, A1.ownB, addMem, shift, ren, SV.map, Ob.map, Ob.noRo, SV.noRo, A1.noRo, List.range, List.range.loop, resOf, resSV, SV.map, SV.ids, A1.ids, reach, allObs, ren, pos, Ob.map, St.canon, memL, List.range, List.range.loop, hb]
  · rw [decide_eq_false hbig] at hb
    have hl : l.length ≤ 1048576 := by omega
    obtain ⟨ws, c, ⟨hwl, hc0, hc8⟩, e0⟩ := r_DrawTouch l hl
    have u1 : (cl .i64 ws).take ws.length = cl .i64 ws := cl_self
    have k1 := r_HotOk ws (by omega)
    have k2 := r_ExtOf c
    cases hok : touchOk ws c with
    | true =>
      obtain ⟨tail, g1⟩ := r_Touch ws c hok
      have g2 := r_sTouch ws c hok
      simp only [touchOk, Bool.and_eq_true, decide_eq_true_eq] at hok
      rw [hok.1] at k1
      have he : ¬ extOf c < 0 := by omega
      have hh := hotOk_touch hok.1 he
      have hmem : extOf c ∈ (touchAll ws c).take 2 := by simp [touchAll]
      have hc7 : 0 ≤ c ∧ c ≤ 7 := by
        have h := hok.2
        unfold extOf at h
        split at h
        · rename_i hr; exact rng_iff.1 hr
        · omega
      have hlen := hotOk_len hh
      generalize (touchAll ws c).take 2 = R2 at g1 g2 hh hmem hlen
      generalize touchX (touchAll ws c) = o at g1 g2
      have hcC : hotC R2 = hotM R2 := by simp [hotC, hh]
      have g3 := r_HotMarks R2 (by omega)
      have g4 := r_sHotMarks R2 (by omega)
      rw [hcC] at g3 g4
      have hml := hotM_len hh
      have g5 := r_sameInts R2 (by omega)
      have g6 := r_sameInts (hotM R2) (by omega)
      have g7 := r_within (hotM R2) c (by omega)
      rw [decide_eq_true (mem_hotM hc7.1 hc7.2 hmem)] at g7
      have g8 := r_MarksOk (hotM R2) (by omega)
      rw [marks_hotM hh] at g8
      generalize hotM R2 = m at g3 g4 g6 g7 g8 hml
      have u2 : (cl .i64 (R2 ++ tail)).take R2.length = cl .i64 R2 := by rw [cl_take, List.take_left]
      have u3 : (cl .i64 R2).take R2.length = cl .i64 R2 := cl_self
      have u4 : (cl .i64 m).take m.length = cl .i64 m := cl_self
      have u5 : R2.length ≤ (cl .i64 (R2 ++ tail)).length := by rw [cl_length]; simp
      have hml' : (m.length : Int) ≤ 4 := by omega
      unfold runRO
      simp (maxSteps := 4000000) -implicitDefEqProofs [tab11, a11, x_seq, x_cond, x_block, x_region, x_skip, x_exit, x_ret, head_id, runG, runOps, doOp, wantB, stepOp, AO.eff, pureOp, St.get, St.one, St.num, St.put, St.optNum, binA, binInt, List.take, List.drop, callRO, addMem_nil, roArgs, roL, roA, srcCells, A1.ownB, addMem, shift, ren, SV.map, Ob.map, Ob.noRo, SV.noRo, A1.noRo, List.range, List.range.loop, resOf, resSV, SV.map, SV.ids, A1.ids, reach, allObs, ren, pos, Ob.map, St.canon, memL, List.range, List.range.loop, cellsAt, hb, e0, g1, g2, g3, g4, g5, g6, g7, g8, k1, k2, u1, u2, u3, u4, u5, he, hml, hml', cl_length]
    | false =>
      have g1 := r_Touch_bad ws (by omega) c hok
      have g2 := r_sTouch_bad ws (by omega) c hok
      have fin : hotOk ws = true → extOf c < 0 := by
        intro h
        simp only [touchOk, h, Bool.true_and, decide_eq_false_iff_not] at hok
        omega
      by_cases he : ws = []
      · subst he
        rw [if_pos rfl] at g1
        have hneg := fin rfl
        rw [show hotOk [] = true from rfl] at k1
        simp only [List.length_nil, cl_nil] at e0 g1 g2 k1 u1
        have g3 := r_HotMarks_nil
        have g4 := r_sHotMarks_nil
        have g5 := r_sameInts_nil1
        have g6 := r_sameInts [] (by simp)
        simp only [List.length_nil, cl_nil] at g6
        unfold runRO
        simp (maxSteps := 4000000) -implicitDefEqProofs [tab11, a11, x_seq, x_cond, x_block, x_region, x_skip, x_exit, x_ret, head_id, runG, runOps, doOp, wantB, stepOp, AO.eff, pureOp, St.get, St.one, St.num, St.put, St.optNum, binA, binInt, List.take, List.drop, callRO, addMem_nil, roArgs, roL, roA, srcCells, A1.ownB, addMem, shift, ren, SV.map, Ob.map, Ob.noRo, SV.noRo, A1.noRo, List.range, List.range.loop, resOf, resSV, SV.map, SV.ids, A1.ids, reach, allObs, ren, pos, Ob.map, St.canon, memL, List.range, List.range.loop, cellsAt, hb, e0, g1, g2, g3, g4, g5, g6, k1, k2, hneg, cl_length]
      · rw [if_neg he] at g1
        have g3 := r_HotMarks ws (by omega)
        have g4 := r_sHotMarks ws (by omega)
        have hml : (hotC ws).length ≤ 8 := by
          unfold hotC
          split
          · exact (hotM_sub ws).length_le
          · simp
        have g5 := r_sameInts ws (by omega)
        have g6 := r_sameInts (hotC ws) (by omega)
        generalize hotC ws = m at g3 g4 g6 hml
        have u4 : (cl .i64 m).take m.length = cl .i64 m := cl_self
        cases hk : hotOk ws with
        | false =>
          rw [hk] at k1
          unfold runRO
          simp (maxSteps := 4000000) -implicitDefEqProofs [tab11, a11, x_seq, x_cond, x_block, x_region, x_skip, x_exit, x_ret, head_id, runG, runOps, doOp, wantB, stepOp, AO.eff, pureOp, St.get, St.one, St.num, St.put, St.optNum, binA, binInt, List.take, List.drop, callRO, addMem_nil, roArgs, roL, roA, srcCells, A1.ownB, addMem, shift, ren, SV.map, Ob.map, Ob.noRo, SV.noRo, A1.noRo, List.range, List.range.loop, resOf, resSV, SV.map, SV.ids, A1.ids, reach, allObs, ren, pos, Ob.map, St.canon, memL, List.range, List.range.loop, cellsAt, hb, e0, g1, g2, g3, g4, g5, g6, k1, k2, u1, u4, cl_length]
        | true =>
          rw [hk] at k1
          have hneg := fin hk
          unfold runRO
          simp (maxSteps := 4000000) -implicitDefEqProofs [tab11, a11, x_seq, x_cond, x_block, x_region, x_skip, x_exit, x_ret, head_id, runG, runOps, doOp, wantB, stepOp, AO.eff, pureOp, St.get, St.one, St.num, St.put, St.optNum, binA, binInt, List.take, List.drop, callRO, addMem_nil, roArgs, roL, roA, srcCells, A1.ownB, addMem, shift, ren, SV.map, Ob.map, Ob.noRo, SV.noRo, A1.noRo, List.range, List.range.loop, resOf, resSV, SV.map, SV.ids, A1.ids, reach, allObs, ren, pos, Ob.map, St.canon, memL, List.range, List.range.loop, cellsAt, hb, e0, g1, g2, g3, g4, g5, g6, k1, k2, u1, u4, hneg, cl_length]
end Go.Proofs.Ytdagbeihjobmjaa.Eng.A
