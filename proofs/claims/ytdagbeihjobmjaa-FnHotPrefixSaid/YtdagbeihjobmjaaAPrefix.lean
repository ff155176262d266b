/- HotPrefix: the book of the first touches is the beginning of the book of all. -/
import Derived.Test.YtdagbeihjobmjaaABook
import Derived.Test.YtdagbeihjobmjaaADraw3
namespace Go.Proofs.Ytdagbeihjobmjaa.Eng.A
set_option linter.unusedSimpArgs false
set_option linter.unusedVariables false
open Go.RowKit Go.Proofs

theorem r_big (l : List Int) : runRO (X tab) tab 15 [.v false [.ro l.length (cl .u8 l)]] = some (.v false [.bool (decide ((1048576 : Int) < l.length))], []) := by
  unfold runRO
  simp (maxSteps := 4000000) -implicitDefEqProofs [tab15, a15, x_seq, x_cond, x_block, x_region, x_skip, x_exit, x_ret, head_id, runG, runOps, doOp, wantB, stepOp, AO.eff, pureOp, St.get, St.one, St.num, St.put, St.optNum, binA, binInt, List.take, List.drop, resOf, resSV, SV.map, SV.ids, A1.ids, reach, allObs, ren, pos, Ob.map, St.canon, memL, List.range, List.range.loop]
theorem u8_wf {x : Int} (h : (Lit.int .u8 x).wf = true) : 0 ≤ x ∧ x < 256 := by
  simp [Lit.wf, IntKind.min, IntKind.max, IntKind.signed, IntKind.bits] at h
  omega
theorem r_at (l : List Int) (hl : l.length ≤ 1048576) (hw : ∀ x ∈ l, (Lit.int .u8 x).wf = true) (i : Nat) (hi : i ≤ 1000) :
    ∃ x : Int, (0 ≤ x ∧ x < 256) ∧ runRO (X tab) tab 34 [.v false [.ro l.length (cl .u8 l)], .v false [.int .i64 i]] = some (.v false [.int .i64 x], []) := by
  by_cases h : i < l.length
  · obtain ⟨y, r, hd⟩ : ∃ y r, l.drop i = y :: r := ⟨_, _, List.drop_eq_getElem_cons h⟩
    have hy : y ∈ l := List.mem_of_mem_drop (by rw [hd]; simp : y ∈ l.drop i)
    have hy2 := u8_wf (hw y hy)
    have h1 : (0 ≤ (i : Int) ∧ (i : Int) < (l.length : Int)) := by omega
    have h2 := cl_at (k := .u8) hd
    have h3 : IntKind.i64.wrap y = y := wrap_id (by omega) (by omega)
    refine ⟨y, hy2, ?_⟩
    unfold runRO
    simp (maxSteps := 4000000) -implicitDefEqProofs [tab34, a34, x_seq, x_cond, x_block, x_region, x_skip, x_exit, x_ret, head_id, runG, runOps, doOp, wantB, stepOp, AO.eff, pureOp, St.get, St.one, St.num, St.put, St.optNum, binA, binInt, List.take, List.drop, resOf, resSV, SV.map, SV.ids, A1.ids, reach, allObs, ren, pos, Ob.map, St.canon, memL, List.range, List.range.loop, fromRo, h1, h2, h3, h]
  · have h1 : ¬ (i : Int) < (l.length : Int) := by omega
    have w1 : IntKind.i64.wrap ((i : Int) * 7) = (i : Int) * 7 := wrap_id (by omega) (by omega)
    have w2 : IntKind.i64.wrap ((i : Int) * 7 + (l.length : Int)) = (i : Int) * 7 + (l.length : Int) := wrap_id (by omega) (by omega)
    refine ⟨((i : Int) * 7 + l.length).tmod 256, ⟨Int.tmod_nonneg _ (by omega), Int.tmod_lt_of_pos _ (by omega)⟩, ?_⟩
    unfold runRO
    simp (maxSteps := 4000000) -implicitDefEqProofs [tab34, a34, x_seq, x_cond, x_block, x_region, x_skip, x_exit, x_ret, head_id, runG, runOps, doOp, wantB, stepOp, AO.eff, pureOp, St.get, St.one, St.num, St.put, St.optNum, binA, binInt, List.take, List.drop, resOf, resSV, SV.map, SV.ids, A1.ids, reach, allObs, ren, pos, Ob.map, St.canon, memL, List.range, List.range.loop, w1, w2, h]
theorem bookF_app (s : List Int × List Int × Nat) (a b : List Int) : bookF s (a ++ b) = bookF (bookF s a) b := by
  induction a generalizing s with
  | nil => rfl
  | cons x r ih => simp only [List.cons_append, bookF]; exact ih _
theorem bookF_ext : ∀ (b : List Int) (s : List Int × List Int × Nat), ∃ t, (bookF s b).1 = s.1 ++ t := by
  intro b
  induction b with
  | nil => exact fun s => ⟨[], by simp [bookF]⟩
  | cons x r ih =>
    intro s
    obtain ⟨t, ht⟩ := ih (bookStep s x)
    simp only [bookF, ht]
    by_cases h1 : extOf x < 0
    · exact ⟨t, by simp [bookStep, h1]⟩
    · by_cases h2 : extOf x ∈ s.2.1
      · exact ⟨t, by simp [bookStep, h1, h2]⟩
      · exact ⟨turnR (extOf x) (touchX (touchAll s.2.1 x)) s.2.2 ++ t, by simp [bookStep, h1, h2]⟩
theorem book_prefix (l : List Int) (k : Nat) : (bookF ([], [], 1) (l.take k)).1 = (bookF ([], [], 1) l).1.take (bookF ([], [], 1) (l.take k)).1.length := by
  obtain ⟨t, ht⟩ := bookF_ext (l.drop k) (bookF ([], [], 1) (l.take k))
  rw [← bookF_app, List.take_append_drop] at ht
  rw [ht, List.take_left]
theorem law_FnHotPrefix (l : List Int) (hn : l.length ≤ 140737488351232) (hw : ∀ x ∈ l, (Lit.int .u8 x).wf = true) :
    runRO (X tab) tab 5 [.v false [.ro l.length (cl .u8 l)]] = some (.v false [.bool true], []) := by
  have hb := r_big l
  by_cases h1 : (1048576 : Int) < (l.length : Int)
  · rw [decide_eq_true h1] at hb
    unfold runRO
    simp (maxSteps := 4000000) -implicitDefEqProofs [tab5, a5, x_seq, x_cond, x_block, x_region, x_skip, x_exit, x_ret, head_id, runG, runOps, doOp, wantB, stepOp, AO.eff, pureOp, St.get, St.one, St.num, St.put, St.optNum, binA, binInt, List.take, List.drop, callRO, addMem_nil, roArgs, roL, roA, srcCells, A1.ownB, addMem, shift, ren, SV.map, Ob.map, Ob.noRo, SV.noRo, A1.noRo, List.range, List.range.loop, resOf, resSV, SV.map, SV.ids, A1.ids, reach, allObs, ren, pos, Ob.map, St.canon, memL, List.range, List.range.loop, hb]
  · rw [decide_eq_false h1] at hb
    have hl : l.length ≤ 1048576 := by omega
    obtain ⟨ws, ⟨hwl, _⟩, e0⟩ := r_DrawHotBook l hl
    obtain ⟨x, ⟨x0, x1⟩, e1⟩ := r_at l hl hw 1 (by omega)
    have w1 : IntKind.i64.wrap ((ws.length : Int) + 1) = (ws.length : Int) + 1 := wrap_id (by omega) (by omega)
    have k0 : 0 ≤ x.tmod ((ws.length : Int) + 1) := Int.tmod_nonneg _ x0
    have k1 : x.tmod ((ws.length : Int) + 1) < (ws.length : Int) + 1 := Int.tmod_lt_of_pos _ (by omega)
    have hz : ¬ ((ws.length : Int) + 1) = 0 := by omega
    obtain ⟨k, hk⟩ : ∃ k : Nat, x.tmod ((ws.length : Int) + 1) = k := ⟨(x.tmod ((ws.length : Int) + 1)).toNat, by omega⟩
    rw [hk] at k1
    have hk1 : k ≤ ws.length := by omega
    have g1 := r_HotBook ws (by omega)
    have g2 := r_sHotBook ws (by omega)
    have g3 := r_HotBook (ws.take k) (by simp; omega)
    rw [List.length_take, Nat.min_eq_left hk1] at g3
    have hp := book_prefix ws k
    have hle : (bookF ([], [], 1) (ws.take k)).1.length ≤ (bookF ([], [], 1) ws).1.length := by rw [hp, List.length_take]; omega
    generalize (bookF ([], [], 1) (ws.take k)).1 = a at g3 hp hle
    generalize (bookF ([], [], 1) ws).1 = c at g1 g2 hp hle
    have t1 : (cl .u8 c).take c.length = cl .u8 c := cl_self
    have t2 : (cl .u8 a).take a.length = cl .u8 a := cl_self
    have t3 : (cl .u8 c).take a.length = cl .u8 a := by rw [cl_take, ← hp]
    have t4 : (cl .i64 ws).take k = cl .i64 (ws.take k) := cl_take
    have t5 : (cl .i64 ws).take ws.length = cl .i64 ws := cl_self
    have hcut : cutB ws.length none (some (k : Int)) = some (0, k) := by simp [cutB]; omega
    have hcut2 : cutB c.length none (some (a.length : Int)) = some (0, a.length) := by simp [cutB]; omega
    have e1' : runRO (X tab) tab 34 [.v false [.ro l.length (cl .u8 l)], .v false [.int .i64 1]] = some (.v false [.int .i64 x], []) := e1
    unfold runRO
    simp (maxSteps := 4000000) -implicitDefEqProofs [tab5, a5, x_seq, x_cond, x_block, x_region, x_skip, x_exit, x_ret, head_id, runG, runOps, doOp, wantB, stepOp, AO.eff, pureOp, St.get, St.one, St.num, St.put, St.optNum, binA, binInt, List.take, List.drop, gOp, gRes, gEff, addObs_nil, addObs_one, freshB_memL, freshB_none, freshB_upd, freshB_addMem, freshB_addObs, callRO, addMem_nil, roArgs, roL, roA, srcCells, A1.ownB, addMem, shift, ren, SV.map, Ob.map, Ob.noRo, SV.noRo, A1.noRo, List.range, List.range.loop, resOf, resSV, SV.map, SV.ids, A1.ids, reach, allObs, ren, pos, Ob.map, St.canon, memL, List.range, List.range.loop, hb, e0, e1', g1, g2, g3, w1, hz, hk, t1, t2, t3, t4, t5, hcut, hcut2, szOk, cellsAt, cl_nums, cl_length, binStr, upd, hle, hk1]
end Go.Proofs.Ytdagbeihjobmjaa.Eng.A
