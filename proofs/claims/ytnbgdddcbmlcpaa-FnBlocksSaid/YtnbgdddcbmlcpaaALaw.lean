/- What laws over draws begin with: how long a code may be, a byte of it, rows that are the same. -/
import Derived.Test.YtnbgdddcbmlcpaaANum
namespace Go.Proofs.Ytnbgdddcbmlcpaa.Eng.A
set_option linter.unusedSimpArgs false
set_option linter.unusedVariables false
set_option maxHeartbeats 8000000
set_option maxRecDepth 100000
open Go.RowKit Go.Proofs

theorem r_big (l : List Int) : runRO (X tab) tab 41 [.v false [.ro l.length (cl .u8 l)]] = some (.v false [.bool (decide ((1048576 : Int) < l.length))], []) := by
  unfold runRO
  simp (maxSteps := 4000000) -implicitDefEqProofs [tab41, a41, x_seq, x_cond, x_block, x_region, x_skip, x_exit, x_ret, head_id, runG, runOps, doOp, wantB, stepOp, AO.eff, pureOp, St.get, St.one, St.num, St.put, St.optNum, binA, binInt, List.take, List.drop, resOf, resSV, SV.map, SV.ids, A1.ids, reach, allObs, ren, pos, Ob.map, St.canon, memL, List.range, List.range.loop]
theorem u8_wf {x : Int} (h : (Lit.int .u8 x).wf = true) : 0 ≤ x ∧ x < 256 := by
  simp [Lit.wf, IntKind.min, IntKind.max, IntKind.signed, IntKind.bits] at h
  omega
theorem r_at (l : List Int) (hl : l.length ≤ 1048576) (hw : ∀ x ∈ l, (Lit.int .u8 x).wf = true) (i : Nat) (hi : i ≤ 1000) :
    ∃ x : Int, (0 ≤ x ∧ x < 256) ∧ runRO (X tab) tab 43 [.v false [.ro l.length (cl .u8 l)], .v false [.int .i64 i]] = some (.v false [.int .i64 x], []) := by
  by_cases h : i < l.length
  · obtain ⟨y, r, hd⟩ : ∃ y r, l.drop i = y :: r := ⟨_, _, List.drop_eq_getElem_cons h⟩
    have hy : y ∈ l := List.mem_of_mem_drop (by rw [hd]; simp : y ∈ l.drop i)
    have hy2 := u8_wf (hw y hy)
    have h1 : (0 ≤ (i : Int) ∧ (i : Int) < (l.length : Int)) := by omega
    have h2 := cl_at (k := .u8) hd
    have h3 : IntKind.i64.wrap y = y := wrap_id (by omega) (by omega)
    refine ⟨y, hy2, ?_⟩
    unfold runRO
    simp (maxSteps := 4000000) -implicitDefEqProofs [tab43, a43, x_seq, x_cond, x_block, x_region, x_skip, x_exit, x_ret, head_id, runG, runOps, doOp, wantB, stepOp, AO.eff, pureOp, St.get, St.one, St.num, St.put, St.optNum, binA, binInt, List.take, List.drop, resOf, resSV, SV.map, SV.ids, A1.ids, reach, allObs, ren, pos, Ob.map, St.canon, memL, List.range, List.range.loop, fromRo, h1, h2, h3, h]
  · have h1 : ¬ (i : Int) < (l.length : Int) := by omega
    have w1 : IntKind.i64.wrap ((i : Int) * 7) = (i : Int) * 7 := wrap_id (by omega) (by omega)
    have w2 : IntKind.i64.wrap ((i : Int) * 7 + (l.length : Int)) = (i : Int) * 7 + (l.length : Int) := wrap_id (by omega) (by omega)
    refine ⟨((i : Int) * 7 + l.length).tmod 256, ⟨Int.tmod_nonneg _ (by omega), Int.tmod_lt_of_pos _ (by omega)⟩, ?_⟩
    unfold runRO
    simp (maxSteps := 4000000) -implicitDefEqProofs [tab43, a43, x_seq, x_cond, x_block, x_region, x_skip, x_exit, x_ret, head_id, runG, runOps, doOp, wantB, stepOp, AO.eff, pureOp, St.get, St.one, St.num, St.put, St.optNum, binA, binInt, List.take, List.drop, resOf, resSV, SV.map, SV.ids, A1.ids, reach, allObs, ren, pos, Ob.map, St.canon, memL, List.range, List.range.loop, w1, w2, h]
end Go.Proofs.Ytnbgdddcbmlcpaa.Eng.A
