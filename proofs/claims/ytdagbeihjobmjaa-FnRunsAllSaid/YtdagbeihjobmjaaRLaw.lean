/- What laws over draws begin with: how long a code may be, a byte of it, rows that are the same. -/
import Derived.Test.YtdagbeihjobmjaaRNum
namespace Go.Proofs.Ytdagbeihjobmjaa.Eng.R
set_option linter.unusedSimpArgs false
set_option linter.unusedVariables false
set_option maxHeartbeats 8000000
set_option maxRecDepth 100000
open Go.RowKit Go.Proofs

theorem r_big (l : List Int) : runRO (X tab) tab 15 [.v false [.ro l.length (cl .u8 l)]] = some (.v false [.bool (decide ((1048576 : Int) < l.length))], []) := by
  unfold runRO
  simp (maxSteps := 4000000) -implicitDefEqProofs [tab15, a15, x_seq, x_cond, x_block, x_region, x_skip, x_exit, x_ret, head_id, runG, runOps, doOp, wantB, stepOp, AO.eff, pureOp, St.get, St.one, St.num, St.put, St.optNum, binA, binInt, List.take, List.drop, resOf, resSV, SV.map, SV.ids, A1.ids, reach, allObs, ren, pos, Ob.map, St.canon, memL, List.range, List.range.loop]
theorem u8_wf {x : Int} (h : (Lit.int .u8 x).wf = true) : 0 ≤ x ∧ x < 256 := by
  simp [Lit.wf, IntKind.min, IntKind.max, IntKind.signed, IntKind.bits] at h
  omega
def S_sameInts (l : List Int) (i : Nat) : XS := ⟨⟨[.v false [.ro l.length (cl .i64 l)], .v false [.ro l.length (cl .i64 l)], .bad, .bad, .bad, .v false [.int .i64 (i)], .bad, .bad, .bad, .bad, .bad, .bad, .bad, .bad, .bad, .bad, .bad, .bad, .bad, .bad, .bad, .bad, .bad, .bad, .bad, .bad], memL [], []⟩, 0⟩
def Z_sameInts : XS := ⟨⟨[.bad, .bad, .bad, .bad, .bad, .bad, .bad, .bad, .bad, .bad, .bad, .bad, .bad, .bad, .bad, .bad, .bad, .bad, .bad, .bad, .bad, .bad, .bad, .bad, .bad, .bad], memL [], []⟩, 0⟩
theorem loop_sameInts (l : List Int) (hn : l.length ≤ 1048576) {x : XS} (hx : head true d22_0 x = S_sameInts l 0) : X tab l22_0 x = some (.exit 0, Z_sameInts) := by
  refine loopN l.length (S_sameInts l) _ (by simp) (fun i hi => ?_) ?_ (Nat.zero_le _) hx
  · obtain ⟨y, r, hl⟩ : ∃ y r, l.drop i = y :: r := ⟨_, _, List.drop_eq_getElem_cons hi⟩
    have h1 : (0 ≤ (i : Int) ∧ (i : Int) < (l.length : Int)) := by omega
    have h2 := cl_at (k := .i64) hl
    have h4 : IntKind.i64.wrap ((i : Int) + 1) = ((i + 1 : Nat) : Int) := by rw [wrap_id (by omega) (by omega)]; omega
    simp (maxSteps := 4000000) -implicitDefEqProofs [b22_0, S_sameInts, x_seq, x_cond, x_block, x_region, x_skip, x_exit, x_ret, head_id, runG, runOps, doOp, wantB, stepOp, AO.eff, pureOp, St.get, St.one, St.num, St.put, St.optNum, binA, binInt, List.take, List.drop, gOp, gOp0, gOpL, gResL, updO, gRes, gEff, addObs_nil, addObs_one, freshB_memL, freshB_none, freshB_upd, freshB_addMem, freshB_addObs, fromRo, h1, h2, h4, hi]
    change _ = _
    kernel_rfl
  · simp (maxSteps := 4000000) -implicitDefEqProofs [b22_0, S_sameInts, x_seq, x_cond, x_block, x_region, x_skip, x_exit, x_ret, head_id, runG, runOps, doOp, wantB, stepOp, AO.eff, pureOp, St.get, St.one, St.num, St.put, St.optNum, binA, binInt, List.take, List.drop]
    change _ = _
    kernel_rfl
theorem r_sameInts (l : List Int) (hn : l.length ≤ 1048576) : runRO (X tab) tab 22 [.v false [.ro l.length (cl .i64 l)], .v false [.ro l.length (cl .i64 l)]] = some (.v false [.bool true], []) := by
  unfold runRO
  simp (maxSteps := 4000000) -implicitDefEqProofs [tab22, a22, x_seq, x_cond, x_block, x_region, x_skip, x_exit, x_ret, head_id, runG, runOps, doOp, wantB, stepOp, AO.eff, pureOp, St.get, St.one, St.num, St.put, St.optNum, binA, binInt, List.take, List.drop]
  rw [loop_sameInts l hn (by change _ = _; kernel_rfl)]
  simp (maxSteps := 4000000) -implicitDefEqProofs [Z_sameInts, x_seq, x_cond, x_block, x_region, x_skip, x_exit, x_ret, head_id, runG, runOps, doOp, wantB, stepOp, AO.eff, pureOp, St.get, St.one, St.num, St.put, St.optNum, binA, binInt, List.take, List.drop, resOf, resSV, SV.map, SV.ids, A1.ids, reach, allObs, ren, pos, Ob.map, St.canon, memL, List.range, List.range.loop]
theorem r_sameInts_nil1 : runRO (X tab) tab 22 [.v false [.nil], .v false [.ro 0 []]] = some (.v false [.bool true], []) := runRO_mono (exec_le_X 60) (by kernel_rfl)
theorem r_sameInts_nil2 : runRO (X tab) tab 22 [.v false [.nil], .v false [.nil]] = some (.v false [.bool true], []) := runRO_mono (exec_le_X 60) (by kernel_rfl)
theorem r_sameInts_nil3 : runRO (X tab) tab 22 [.v false [.ro 0 []], .v false [.nil]] = some (.v false [.bool true], []) := runRO_mono (exec_le_X 60) (by kernel_rfl)
end Go.Proofs.Ytdagbeihjobmjaa.Eng.R
