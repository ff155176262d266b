/- Rows that are the same, or not. -/
import Derived.Test.YtdagbeihjobmjaaRLaw
namespace Go.Proofs.Ytdagbeihjobmjaa.Eng.R
set_option linter.unusedSimpArgs false
set_option linter.unusedVariables false
set_option maxHeartbeats 8000000
set_option maxRecDepth 100000
open Go.RowKit Go.Proofs

def S_sameG (a b : List Int) (i : Nat) : XS := ⟨⟨[.v false [.ro a.length (cl .i64 a)], .v false [.ro b.length (cl .i64 b)], .bad, .bad, .bad, .v false [.int .i64 (i)], .bad, .bad, .bad, .bad, .bad, .bad, .bad, .bad, .bad, .bad, .bad, .bad, .bad, .bad, .bad, .bad, .bad, .bad, .bad, .bad], memL [], []⟩, 0⟩
def R_sameG (t : Bool) : Option (AE × XS) := if t = true then some (.exit 0, ⟨⟨[.bad, .bad, .bad, .bad, .bad, .bad, .bad, .bad, .bad, .bad, .bad, .bad, .bad, .bad, .bad, .bad, .bad, .bad, .bad, .bad, .bad, .bad, .bad, .bad, .bad, .bad], memL [], []⟩, 0⟩) else some (.ret, ⟨⟨[.bad, .bad, .bad, .bad, .v false [.bool (false)], .bad, .bad, .bad, .bad, .bad, .bad, .bad, .bad, .bad, .bad, .bad, .bad, .bad, .bad, .bad, .bad, .bad, .bad, .bad, .bad, .bad], memL [], []⟩, 0⟩)
theorem loop_sameG (a b : List Int) (hab : a.length = b.length) (hn : a.length ≤ 1048576) {x : XS} (hx : head true d22_0 x = S_sameG a b 0) : X tab l22_0 x = R_sameG (decide (a = b)) := by
  refine loopX (σ := Nat) (S_sameG a b) (fun i => a.length - i) (fun i => i ≤ a.length ∧ (a.drop i = b.drop i ↔ a = b)) _ (fun i ⟨hi, hs⟩ => ?_) 0 ⟨Nat.zero_le _, by simp⟩ x hx
  cases hl : a.drop i with
  | nil =>
    obtain rfl := drop_end hl hi
    have hb : b.drop a.length = [] := List.drop_eq_nil_of_le (by omega)
    have he : decide (a = b) = true := by rw [decide_eq_true_eq, ← hs, hl, hb]
    rw [he]
    refine .inr ⟨?_, by simp [R_sameG]⟩
    simp (maxSteps := 4000000) -implicitDefEqProofs [b22_0, S_sameG, x_seq, x_cond, x_block, x_region, x_skip, x_exit, x_ret, head_id, runG, runOps, doOp, wantB, stepOp, AO.eff, pureOp, St.get, St.one, St.num, St.put, St.optNum, binA, binInt, List.take, List.drop, R_sameG]
    change _ = _
    kernel_rfl
  | cons y r =>
    have hi' := drop_lt hl
    obtain ⟨z, q, hl2⟩ : ∃ z q, b.drop i = z :: q := ⟨_, _, List.drop_eq_getElem_cons (by omega)⟩
    have h1 : (0 ≤ (i : Int) ∧ (i : Int) < (a.length : Int)) := by omega
    have h1b : (i : Int) < (b.length : Int) := by omega
    have h1c : i < b.length := by omega
    have h2 := cl_at (k := .i64) hl
    have h3 := cl_at (k := .i64) hl2
    have h4 := wrap_next hi' (show a.length ≤ 281474976710656 by omega)
    cases hp : (y == z) with
    | false =>
      have hne : ¬ y = z := beq_eq_false_iff_ne.1 hp
      have he : decide (a = b) = false := by
        rw [decide_eq_false_iff_not, ← hs, hl, hl2]
        intro h
        exact hne (List.cons.inj h).1
      rw [he]
      refine .inr ⟨?_, by simp [R_sameG]⟩
      simp (maxSteps := 4000000) -implicitDefEqProofs [b22_0, S_sameG, x_seq, x_cond, x_block, x_region, x_skip, x_exit, x_ret, head_id, runG, runOps, doOp, wantB, stepOp, AO.eff, pureOp, St.get, St.one, St.num, St.put, St.optNum, binA, binInt, List.take, List.drop, gOp, gOp0, gOpL, gResL, updO, gRes, gEff, addObs_nil, addObs_one, freshB_memL, freshB_none, freshB_upd, freshB_addMem, freshB_addObs, fromRo, bne, h1, h1b, h1c, h2, h3, h4, hi', hp, R_sameG]
      change _ = _
      kernel_rfl
    | true =>
      have hye : y = z := beq_iff_eq.1 hp
      refine .inl ⟨i + 1, ?_, by omega, hi', ?_⟩
      · simp (maxSteps := 4000000) -implicitDefEqProofs [b22_0, S_sameG, x_seq, x_cond, x_block, x_region, x_skip, x_exit, x_ret, head_id, runG, runOps, doOp, wantB, stepOp, AO.eff, pureOp, St.get, St.one, St.num, St.put, St.optNum, binA, binInt, List.take, List.drop, gOp, gOp0, gOpL, gResL, updO, gRes, gEff, addObs_nil, addObs_one, freshB_memL, freshB_none, freshB_upd, freshB_addMem, freshB_addObs, fromRo, bne, h1, h1b, h1c, h2, h3, h4, hi', hp]
        change _ = _
        kernel_rfl
      · rw [drop_next hl, drop_next hl2, ← hs, hl, hl2, hye]
        simp
theorem r_sameG (a b : List Int) (hn : a.length ≤ 1048576) : runRO (X tab) tab 22 [.v false [.ro a.length (cl .i64 a)], .v false [.ro b.length (cl .i64 b)]] = some (.v false [.bool (decide (a = b))], []) := by
  unfold runRO
  cases hp : ((a.length : Int) == (b.length : Int)) with
  | false =>
    have hne : ¬ a.length = b.length := by have := beq_eq_false_iff_ne.1 hp; omega
    rw [decide_eq_false (fun h : a = b => hne (by rw [h]))]
    simp (maxSteps := 4000000) -implicitDefEqProofs [tab22, a22, x_seq, x_cond, x_block, x_region, x_skip, x_exit, x_ret, head_id, runG, runOps, doOp, wantB, stepOp, AO.eff, pureOp, St.get, St.one, St.num, St.put, St.optNum, binA, binInt, List.take, List.drop, resOf, resSV, SV.map, SV.ids, A1.ids, reach, allObs, ren, pos, Ob.map, St.canon, memL, List.range, List.range.loop, bne, hp]
  | true =>
    have hab : a.length = b.length := by have := beq_iff_eq.1 hp; omega
    simp (maxSteps := 4000000) -implicitDefEqProofs [tab22, a22, x_seq, x_cond, x_block, x_region, x_skip, x_exit, x_ret, head_id, runG, runOps, doOp, wantB, stepOp, AO.eff, pureOp, St.get, St.one, St.num, St.put, St.optNum, binA, binInt, List.take, List.drop, bne, hp]
    rw [loop_sameG a b hab hn (by change _ = _; kernel_rfl)]
    cases decide (a = b) <;> simp (maxSteps := 4000000) -implicitDefEqProofs [R_sameG, x_seq, x_cond, x_block, x_region, x_skip, x_exit, x_ret, head_id, runG, runOps, doOp, wantB, stepOp, AO.eff, pureOp, St.get, St.one, St.num, St.put, St.optNum, binA, binInt, List.take, List.drop, resOf, resSV, SV.map, SV.ids, A1.ids, reach, allObs, ren, pos, Ob.map, St.canon, memL, List.range, List.range.loop]
end Go.Proofs.Ytdagbeihjobmjaa.Eng.R
