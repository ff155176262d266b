/- What a row holds: looking for a number, digests in form, hot rows in form; the laws of the last two. -/
import Derived.Test.YtklphaicchmmoaaANum
namespace Go.Proofs.Ytklphaicchmmoaa.Eng.A
set_option linter.unusedSimpArgs false
set_option linter.unusedVariables false
open Go.RowKit Go.Proofs

def digestsOk (l : List Int) : Bool := decide (l.length = 8) && !(l.any fun n => decide (n < 0))
theorem f_DigestsOk : Looks 95 [] (fun _ => True) (fun n => decide (n < 0)) 256 := by
  intro y sl m up nx _
  unfold runThru
  simp (maxSteps := 4000000) -implicitDefEqProofs [tab95, a95, x_seq, x_cond, x_block, x_region, x_skip, x_exit, x_ret, head_id, runG, runOps, doOp, wantB, stepOp, AO.eff, pureOp, St.get, St.one, St.num, St.put, St.optNum, binA, binInt, List.take, List.drop, callRO, addMem_nil, roArgs, roL, roA, srcCells, A1.ownB, addMem, shift, ren, SV.map, Ob.map, Ob.noRo, SV.noRo, A1.noRo, List.range, List.range.loop, resOf, resSV]
theorem r_DigestsOk (l : List Int) (hn : l.length ≤ 1048576) : runRO (X tab) tab 79 [.v false [.ro l.length (cl .i64 l)]] = some (.v false [.bool (digestsOk l)], []) := by
  have h := r_ContainsFunc l _ _ _ f_DigestsOk hn
  unfold runRO
  by_cases h8 : l.length = 8
  · have h8' : ((l.length : Int) == 8) = true := by rw [beq_iff_eq]; omega
    simp only [digestsOk, h8, decide_true, Bool.true_and]
    generalize (l.any fun n => decide (n < 0)) = q at h
    rw [h8] at h
    simp (maxSteps := 4000000) -implicitDefEqProofs [tab79, a79, x_seq, x_cond, x_block, x_region, x_skip, x_exit, x_ret, head_id, runG, runOps, doOp, wantB, stepOp, AO.eff, pureOp, St.get, St.one, St.num, St.put, St.optNum, binA, binInt, List.take, List.drop, callRO, addMem_nil, roArgs, roL, roA, srcCells, A1.ownB, addMem, shift, ren, SV.map, Ob.map, Ob.noRo, SV.noRo, A1.noRo, List.range, List.range.loop, resOf, resSV, SV.map, SV.ids, A1.ids, reach, allObs, ren, pos, Ob.map, St.canon, memL, List.range, List.range.loop, h, h8']
  · have h8' : ((l.length : Int) == 8) = false := by rw [beq_eq_false_iff_ne]; omega
    simp (maxSteps := 4000000) -implicitDefEqProofs [tab79, a79, x_seq, x_cond, x_block, x_region, x_skip, x_exit, x_ret, head_id, runG, runOps, doOp, wantB, stepOp, AO.eff, pureOp, St.get, St.one, St.num, St.put, St.optNum, binA, binInt, List.take, List.drop, callRO, addMem_nil, roArgs, roL, roA, srcCells, A1.ownB, addMem, shift, ren, SV.map, Ob.map, Ob.noRo, SV.noRo, A1.noRo, List.range, List.range.loop, resOf, resSV, SV.map, SV.ids, A1.ids, reach, allObs, ren, pos, Ob.map, St.canon, memL, List.range, List.range.loop, h, h8', digestsOk, h8]
def S_sDigestsOk (l : List Int) (i : Nat) : XS := ⟨⟨[.v false [.ro l.length (cl .i64 l)], .bad, .bad, .v false [.int .i64 (i)], .bad, .bad, .bad, .bad, .bad, .bad, .bad, .bad, .bad, .bad, .bad, .bad, .bad, .bad], memL [], []⟩, 0⟩
def R_sDigestsOk (l : List Int) (bad : Bool) : Option (AE × XS) := if bad = true then some (.ret, ⟨⟨[.bad, .bad, .v false [.bool (false)], .bad, .bad, .bad, .bad, .bad, .bad, .bad, .bad, .bad, .bad, .bad, .bad, .bad, .bad, .bad], memL [], []⟩, 0⟩) else some (.exit 0, ⟨⟨[.v false [.ro l.length (cl .i64 l)], .bad, .bad, .bad, .bad, .bad, .bad, .bad, .bad, .bad, .bad, .bad, .bad, .bad, .bad, .bad, .bad, .bad], memL [], []⟩, 0⟩)
theorem loop_sDigestsOk (l : List Int) (hn : l.length ≤ 1048576) {x : XS} (hx : head true d78_0 x = S_sDigestsOk l 0) : X tab l78_0 x = R_sDigestsOk l (l.any fun n => decide (n < 0)) := by
  refine loopX (σ := Nat) (S_sDigestsOk l) (fun i => l.length - i) (fun i => i ≤ l.length ∧ ((l.drop i).any fun n => decide (n < 0)) = l.any fun n => decide (n < 0)) _ (fun i ⟨hi, hs⟩ => ?_) 0 ⟨Nat.zero_le _, rfl⟩ x hx
  rw [← hs]
  cases hl : l.drop i with
  | nil =>
    obtain rfl := drop_end hl hi
    refine .inr ⟨?_, by simp [R_sDigestsOk]⟩
    simp (maxSteps := 4000000) -implicitDefEqProofs [b78_0, S_sDigestsOk, x_seq, x_cond, x_block, x_region, x_skip, x_exit, x_ret, head_id, runG, runOps, doOp, wantB, stepOp, AO.eff, pureOp, St.get, St.one, St.num, St.put, St.optNum, binA, binInt, List.take, List.drop, R_sDigestsOk]
    change _ = _
    kernel_rfl
  | cons y r =>
    have hi' := drop_lt hl
    have h1 : (0 ≤ (i : Int) ∧ (i : Int) < (l.length : Int)) := by omega
    have h2 := cl_at (k := .i64) hl
    have h4 := wrap_next hi' (show l.length ≤ 281474976710656 by omega)
    rw [List.any_cons]
    by_cases hp : y < 0
    · refine .inr ⟨?_, by simp [R_sDigestsOk, hp]⟩
      simp (maxSteps := 4000000) -implicitDefEqProofs [b78_0, S_sDigestsOk, x_seq, x_cond, x_block, x_region, x_skip, x_exit, x_ret, head_id, runG, runOps, doOp, wantB, stepOp, AO.eff, pureOp, St.get, St.one, St.num, St.put, St.optNum, binA, binInt, List.take, List.drop, callRO, addMem_nil, roArgs, roL, roA, srcCells, A1.ownB, addMem, shift, ren, SV.map, Ob.map, Ob.noRo, SV.noRo, A1.noRo, List.range, List.range.loop, fromRo, h1, h2, h4, hi', hp, R_sDigestsOk]
      change _ = _
      kernel_rfl
    · refine .inl ⟨i + 1, ?_, by omega, hi', by rw [drop_next hl]; simp [hp]⟩
      simp (maxSteps := 4000000) -implicitDefEqProofs [b78_0, S_sDigestsOk, x_seq, x_cond, x_block, x_region, x_skip, x_exit, x_ret, head_id, runG, runOps, doOp, wantB, stepOp, AO.eff, pureOp, St.get, St.one, St.num, St.put, St.optNum, binA, binInt, List.take, List.drop, callRO, addMem_nil, roArgs, roL, roA, srcCells, A1.ownB, addMem, shift, ren, SV.map, Ob.map, Ob.noRo, SV.noRo, A1.noRo, List.range, List.range.loop, fromRo, h1, h2, h4, hi', hp]
      change _ = _
      kernel_rfl
theorem r_sDigestsOk (l : List Int) (hn : l.length ≤ 1048576) : runRO (X tab) tab 78 [.v false [.ro l.length (cl .i64 l)]] = some (.v false [.bool (digestsOk l)], []) := by
  unfold runRO
  simp (maxSteps := 4000000) -implicitDefEqProofs [tab78, a78, x_seq, x_cond, x_block, x_region, x_skip, x_exit, x_ret, head_id, runG, runOps, doOp, wantB, stepOp, AO.eff, pureOp, St.get, St.one, St.num, St.put, St.optNum, binA, binInt, List.take, List.drop]
  rw [loop_sDigestsOk l hn (by change _ = _; kernel_rfl)]
  unfold digestsOk
  cases (l.any fun n => decide (n < 0)) with
  | true => simp (maxSteps := 4000000) -implicitDefEqProofs [R_sDigestsOk, x_seq, x_cond, x_block, x_region, x_skip, x_exit, x_ret, head_id, runG, runOps, doOp, wantB, stepOp, AO.eff, pureOp, St.get, St.one, St.num, St.put, St.optNum, binA, binInt, List.take, List.drop, resOf, resSV, SV.map, SV.ids, A1.ids, reach, allObs, ren, pos, Ob.map, St.canon, memL, List.range, List.range.loop]
  | false =>
    by_cases h8 : l.length = 8
    · have h8' : ((l.length : Int) == 8) = true := by rw [beq_iff_eq]; omega
      simp (maxSteps := 4000000) -implicitDefEqProofs [R_sDigestsOk, x_seq, x_cond, x_block, x_region, x_skip, x_exit, x_ret, head_id, runG, runOps, doOp, wantB, stepOp, AO.eff, pureOp, St.get, St.one, St.num, St.put, St.optNum, binA, binInt, List.take, List.drop, resOf, resSV, SV.map, SV.ids, A1.ids, reach, allObs, ren, pos, Ob.map, St.canon, memL, List.range, List.range.loop, h8, h8']
    · have h8' : ((l.length : Int) == 8) = false := by rw [beq_eq_false_iff_ne]; omega
      simp (maxSteps := 4000000) -implicitDefEqProofs [R_sDigestsOk, x_seq, x_cond, x_block, x_region, x_skip, x_exit, x_ret, head_id, runG, runOps, doOp, wantB, stepOp, AO.eff, pureOp, St.get, St.one, St.num, St.put, St.optNum, binA, binInt, List.take, List.drop, resOf, resSV, SV.map, SV.ids, A1.ids, reach, allObs, ren, pos, Ob.map, St.canon, memL, List.range, List.range.loop, h8, h8']
theorem r_isExt (n : Int) : runRO (X tab) tab 73 [.v false [.int .i64 n]] = some (.v false [.bool (rng n 0 3)], []) := by
  unfold runRO
  simp (maxSteps := 4000000) -implicitDefEqProofs [tab73, a73, x_seq, x_cond, x_block, x_region, x_skip, x_exit, x_ret, head_id, runG, runOps, doOp, wantB, stepOp, AO.eff, pureOp, St.get, St.one, St.num, St.put, St.optNum, binA, binInt, List.take, List.drop, callRO, addMem_nil, roArgs, roL, roA, srcCells, A1.ownB, addMem, shift, ren, SV.map, Ob.map, Ob.noRo, SV.noRo, A1.noRo, List.range, List.range.loop, resOf, resSV, SV.map, SV.ids, A1.ids, reach, allObs, ren, pos, Ob.map, St.canon, memL, List.range, List.range.loop, r_from]
def hotF (pre : List Int) : List Int → Bool
  | [] => true
  | y :: r => (rng y 0 3 && !decide (y ∈ pre)) && hotF (pre ++ [y]) r
def hotOk (l : List Int) : Bool := hotF [] l && decide (l.length ≤ 2)
theorem take_next {l : List Int} {i : Nat} {y : Int} {r : List Int} (h : l.drop i = y :: r) : l.take (i + 1) = l.take i ++ [y] := by
  have hi := drop_lt h
  have hx : l[i] = y := by
    have := List.drop_eq_getElem_cons hi
    rw [h] at this
    exact (List.cons.inj this).1.symm
  rw [← hx, List.take_append_getElem]
end Go.Proofs.Ytklphaicchmmoaa.Eng.A
