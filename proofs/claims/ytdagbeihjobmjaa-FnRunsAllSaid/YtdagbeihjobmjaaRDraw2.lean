/- Draws: the cursor, and rows of numbers that are drawn. -/
import Derived.Test.YtdagbeihjobmjaaRDraw
namespace Go.Proofs.Ytdagbeihjobmjaa.Eng.R
set_option linter.unusedSimpArgs false
set_option linter.unusedVariables false
open Go.RowKit Go.Proofs

def S_l1New (l : List Int) (s : Nat × Int) : XS := ⟨⟨[.v false [.ro l.length (cl .u8 l)], .bad, .bad, .v false [.int .i64 (s.2)], .v false [.int .i64 (s.1)], .bad, .bad, .bad, .bad, .bad, .bad, .bad, .bad, .bad, .bad, .bad, .bad, .bad, .bad, .bad, .bad, .bad, .bad, .bad, .bad, .bad, .bad, .bad, .bad, .bad, .bad, .bad], memL [], []⟩, 0⟩
def Q_l1New (l : List Int) (r : AE × XS) : Prop := ∃ h, r = (.exit 0, ⟨⟨[.v false [.ro l.length (cl .u8 l)], .bad, .bad, .v false [.int .i64 (h)], .bad, .bad, .bad, .bad, .bad, .bad, .bad, .bad, .bad, .bad, .bad, .bad, .bad, .bad, .bad, .bad, .bad, .bad, .bad, .bad, .bad, .bad, .bad, .bad, .bad, .bad, .bad, .bad], memL [], []⟩, 0⟩)
theorem loop_l1New (l : List Int) (hl : l.length ≤ 1048576) (h0 : Int) : ∃ r, Q_l1New l r ∧ ∀ x, head true d85_0 x = S_l1New l (0, h0) → X tab l85_0 x = some r := by
  refine loopE (σ := Nat × Int) (S_l1New l) (fun s => l.length - s.1) (fun s => s.1 ≤ l.length) (Q_l1New l) (fun ⟨i, h⟩ hI => ?_) (0, h0) (Nat.zero_le _)
  by_cases hi : i < l.length
  · by_cases h4k : i < 4000
    · left
      obtain ⟨y, r, hd⟩ : ∃ y r, l.drop i = y :: r := ⟨_, _, List.drop_eq_getElem_cons hi⟩
      have h1 : (0 ≤ (i : Int) ∧ (i : Int) < (l.length : Int)) := by omega
      have h2 := cl_at (k := .u8) hd
      have h4 : IntKind.i64.wrap ((i : Int) + 1) = ((i + 1 : Nat) : Int) := by rw [wrap_id (by omega) (by omega)]; omega
      have h5 : (i : Int) < 4000 := by omega
      simp (maxSteps := 4000000) -implicitDefEqProofs [b85_0, S_l1New, x_seq, x_cond, x_block, x_region, x_skip, x_exit, x_ret, head_id, runG, runOps, doOp, wantB, stepOp, AO.eff, pureOp, St.get, St.one, St.num, St.put, St.optNum, binA, binInt, List.take, List.drop, fromRo, h1, h2, h4, h5, hi, h4k, -Prod.exists]
      generalize IntKind.i64.wrap _ = h'
      exact ⟨(i + 1, h'), by change _ = _; kernel_rfl, by simp only; omega, hi⟩
    · right
      have h5 : ¬ (i : Int) < 4000 := by omega
      have h6 : (i : Int) < (l.length : Int) := by omega
      simp (maxSteps := 4000000) -implicitDefEqProofs [b85_0, S_l1New, x_seq, x_cond, x_block, x_region, x_skip, x_exit, x_ret, head_id, runG, runOps, doOp, wantB, stepOp, AO.eff, pureOp, St.get, St.one, St.num, St.put, St.optNum, binA, binInt, List.take, List.drop, h5, h6, hi, h4k, -Prod.exists]
      exact ⟨h, by change _ = _; kernel_rfl⟩
  · right
    have h6 : ¬ (i : Int) < (l.length : Int) := by omega
    simp (maxSteps := 4000000) -implicitDefEqProofs [b85_0, S_l1New, x_seq, x_cond, x_block, x_region, x_skip, x_exit, x_ret, head_id, runG, runOps, doOp, wantB, stepOp, AO.eff, pureOp, St.get, St.one, St.num, St.put, St.optNum, binA, binInt, List.take, List.drop, h6, hi, -Prod.exists]
    exact ⟨h, by change _ = _; kernel_rfl⟩
theorem r_l1New (l : List Int) (hl : l.length ≤ 1048576) : ∃ h : Int, runRO (X tab) tab 85 [.v false [.ro l.length (cl .u8 l)]] = some (.v false [.pr 0 [] 0], [.box [.ro l.length (cl .u8 l), .int .i64 (0 : Nat), .int .i64 h]]) := by
  have w1 : IntKind.i64.wrap (24770 + (l.length : Int)) = 24770 + (l.length : Int) := wrap_id (by omega) (by omega)
  obtain ⟨r, ⟨h, rfl⟩, hr⟩ := loop_l1New l hl (24770 + l.length)
  refine ⟨h, ?_⟩
  unfold runRO
  simp (maxSteps := 4000000) -implicitDefEqProofs [tab85, a85, x_seq, x_cond, x_block, x_region, x_skip, x_exit, x_ret, head_id, runG, runOps, doOp, wantB, stepOp, AO.eff, pureOp, St.get, St.one, St.num, St.put, St.optNum, binA, binInt, List.take, List.drop, w1]
  rw [hr _ (by change _ = _; kernel_rfl)]
  simp (maxSteps := 4000000) -implicitDefEqProofs [x_seq, x_cond, x_block, x_region, x_skip, x_exit, x_ret, head_id, runG, runOps, doOp, wantB, stepOp, AO.eff, pureOp, St.get, St.one, St.num, St.put, St.optNum, binA, binInt, List.take, List.drop, effOp2, effOp, memL_app, stoRow, cellsAt, toCells, toCell, scalar_int, scalar_bool, scalar_str, scalar_sl, updAt, fromRo, upd, resOf, resSV, SV.map, SV.ids, A1.ids, reach, allObs, ren, pos, Ob.map, St.canon, memL, List.range, List.range.loop, fillA, St.parts, Eng.inB, spl]
end Go.Proofs.Ytdagbeihjobmjaa.Eng.R
