/- What a row holds: looking for a number, digests in form, hot rows in form; the laws of the last two. -/
import Derived.Test.YtbdokibepndibaaBNum
namespace Go.Proofs.Ytbdokibepndibaa.Eng.B
set_option linter.unusedSimpArgs false
set_option linter.unusedVariables false
open Go.RowKit Go.Proofs

def S_l2Has (l : List Int) (y : Int) (i : Nat) : XS := ⟨⟨[.v false [.ro l.length (cl .i64 l)], .v false [.int .i64 (y)], .bad, .bad, .bad, .v false [.int .i64 (i)], .bad, .bad, .bad, .bad, .bad, .bad, .bad, .bad, .bad, .bad, .bad, .bad], memL [], []⟩, 0⟩
def R_l2Has (b : Bool) : Option (AE × XS) := if b = true then some (.ret, ⟨⟨[.bad, .bad, .bad, .bad, .v false [.bool (true)], .bad, .bad, .bad, .bad, .bad, .bad, .bad, .bad, .bad, .bad, .bad, .bad, .bad], memL [], []⟩, 0⟩) else some (.exit 0, ⟨⟨[.bad, .bad, .bad, .bad, .bad, .bad, .bad, .bad, .bad, .bad, .bad, .bad, .bad, .bad, .bad, .bad, .bad, .bad], memL [], []⟩, 0⟩)
theorem loop_l2Has (l : List Int) (y : Int) (hn : l.length ≤ 1048576) {x : XS} (hx : head true d41_0 x = S_l2Has l y 0) : X tab l41_0 x = R_l2Has (decide (y ∈ l)) := by
  refine loopX (σ := Nat) (S_l2Has l y) (fun i => l.length - i) (fun i => i ≤ l.length ∧ (y ∈ l.drop i ↔ y ∈ l)) _ (fun i ⟨hi, hs⟩ => ?_) 0 ⟨Nat.zero_le _, by simp⟩ x hx
  cases hl : l.drop i with
  | nil =>
    have hb : decide (y ∈ l) = false := by rw [decide_eq_false_iff_not, ← hs, hl]; simp
    obtain rfl := drop_end hl hi
    rw [hb]
    refine .inr ⟨?_, by simp [R_l2Has]⟩
    simp (maxSteps := 4000000) -implicitDefEqProofs [b41_0, S_l2Has, x_seq, x_cond, x_block, x_region, x_skip, x_exit, x_ret, head_id, runG, runOps, doOp, wantB, stepOp, AO.eff, pureOp, St.get, St.one, St.num, St.put, St.optNum, binA, binInt, List.take, List.drop, R_l2Has]
    change _ = _
    kernel_rfl
  | cons z r =>
    have hi' := drop_lt hl
    have h1 : (0 ≤ (i : Int) ∧ (i : Int) < (l.length : Int)) := by omega
    have h2 := cl_at (k := .i64) hl
    have h4 := wrap_next hi' (show l.length ≤ 281474976710656 by omega)
    cases hp : (z == y) with
    | true =>
      have : y = z := (beq_iff_eq.1 hp).symm
      subst this
      have hb : decide (y ∈ l) = true := by rw [decide_eq_true_eq, ← hs, hl]; simp
      rw [hb]
      refine .inr ⟨?_, by simp [R_l2Has]⟩
      simp (maxSteps := 4000000) -implicitDefEqProofs [b41_0, S_l2Has, x_seq, x_cond, x_block, x_region, x_skip, x_exit, x_ret, head_id, runG, runOps, doOp, wantB, stepOp, AO.eff, pureOp, St.get, St.one, St.num, St.put, St.optNum, binA, binInt, List.take, List.drop, callRO, addMem_nil, roArgs, roL, roA, srcCells, A1.ownB, addMem, shift, ren, SV.map, Ob.map, Ob.noRo, SV.noRo, A1.noRo, List.range, List.range.loop, fromRo, h1, h2, h4, hi', R_l2Has]
      change _ = _
      kernel_rfl
    | false =>
      have hne : ¬ z = y := beq_eq_false_iff_ne.1 hp
      refine .inl ⟨i + 1, ?_, by omega, hi', by rw [drop_next hl, ← hs, hl]; simp [show ¬ y = z from fun e => hne e.symm]⟩
      simp (maxSteps := 4000000) -implicitDefEqProofs [b41_0, S_l2Has, x_seq, x_cond, x_block, x_region, x_skip, x_exit, x_ret, head_id, runG, runOps, doOp, wantB, stepOp, AO.eff, pureOp, St.get, St.one, St.num, St.put, St.optNum, binA, binInt, List.take, List.drop, callRO, addMem_nil, roArgs, roL, roA, srcCells, A1.ownB, addMem, shift, ren, SV.map, Ob.map, Ob.noRo, SV.noRo, A1.noRo, List.range, List.range.loop, fromRo, h1, h2, h4, hi', hp]
      change _ = _
      kernel_rfl
theorem r_l2Has (l : List Int) (y : Int) (hn : l.length ≤ 1048576) : runRO (X tab) tab 41 [.v false [.ro l.length (cl .i64 l)], .v false [.int .i64 y]] = some (.v false [.bool (decide (y ∈ l))], []) := by
  unfold runRO
  simp (maxSteps := 4000000) -implicitDefEqProofs [tab41, a41, x_seq, x_cond, x_block, x_region, x_skip, x_exit, x_ret, head_id, runG, runOps, doOp, wantB, stepOp, AO.eff, pureOp, St.get, St.one, St.num, St.put, St.optNum, binA, binInt, List.take, List.drop]
  rw [loop_l2Has l y hn (by change _ = _; kernel_rfl)]
  cases decide (y ∈ l) <;> simp (maxSteps := 4000000) -implicitDefEqProofs [R_l2Has, x_seq, x_cond, x_block, x_region, x_skip, x_exit, x_ret, head_id, runG, runOps, doOp, wantB, stepOp, AO.eff, pureOp, St.get, St.one, St.num, St.put, St.optNum, binA, binInt, List.take, List.drop, resOf, resSV, SV.map, SV.ids, A1.ids, reach, allObs, ren, pos, Ob.map, St.canon, memL, List.range, List.range.loop]
def S_Index (l : List Int) (y : Int) (i : Nat) : XS := ⟨⟨[.v false [.ro l.length (cl .i64 l)], .v false [.int .i64 (y)], .bad, .bad, .bad, .bad, .bad, .v false [.int .i64 (l.length)], .v false [.int .i64 (i)], .bad, .bad, .bad, .bad, .bad, .bad, .bad, .bad, .bad, .bad], memL [], []⟩, 0⟩
def R_Index : Option Nat → Option (AE × XS)
  | some j => some (.ret, ⟨⟨[.bad, .bad, .bad, .bad, .v false [.int .i64 (j)], .bad, .bad, .bad, .bad, .bad, .bad, .bad, .bad, .bad, .bad, .bad, .bad, .bad, .bad], memL [], []⟩, 0⟩)
  | none => some (.exit 0, ⟨⟨[.bad, .bad, .bad, .bad, .bad, .bad, .bad, .bad, .bad, .bad, .bad, .bad, .bad, .bad, .bad, .bad, .bad, .bad, .bad], memL [], []⟩, 0⟩)
theorem loop_Index (l : List Int) (y : Int) (hn : l.length ≤ 1048576) {x : XS} (hx : head true d61_0 x = S_Index l y 0) : X tab l61_0 x = R_Index (fidx (fun z => y == z) 0 l) := by
  refine loopX (σ := Nat) (S_Index l y) (fun i => l.length - i) (fun i => i ≤ l.length ∧ fidx (fun z => y == z) i (l.drop i) = fidx (fun z => y == z) 0 l) _ (fun i ⟨hi, hs⟩ => ?_) 0 ⟨Nat.zero_le _, by simp⟩ x hx
  rw [← hs]
  cases hl : l.drop i with
  | nil =>
    obtain rfl := drop_end hl hi
    refine .inr ⟨?_, by simp [R_Index, fidx]⟩
    simp (maxSteps := 4000000) -implicitDefEqProofs [b61_0, S_Index, x_seq, x_cond, x_block, x_region, x_skip, x_exit, x_ret, head_id, runG, runOps, doOp, wantB, stepOp, AO.eff, pureOp, St.get, St.one, St.num, St.put, St.optNum, binA, binInt, List.take, List.drop, R_Index, fidx]
    change _ = _
    kernel_rfl
  | cons z r =>
    have hi' := drop_lt hl
    have h1 : (0 ≤ (i : Int) ∧ (i : Int) < (l.length : Int)) := by omega
    have h2 := cl_at (k := .i64) hl
    have h4 := wrap_next hi' (show l.length ≤ 281474976710656 by omega)
    cases hp : (y == z) with
    | true =>
      refine .inr ⟨?_, by simp [R_Index, fidx, hp]⟩
      simp (maxSteps := 4000000) -implicitDefEqProofs [b61_0, S_Index, x_seq, x_cond, x_block, x_region, x_skip, x_exit, x_ret, head_id, runG, runOps, doOp, wantB, stepOp, AO.eff, pureOp, St.get, St.one, St.num, St.put, St.optNum, binA, binInt, List.take, List.drop, callRO, addMem_nil, roArgs, roL, roA, srcCells, A1.ownB, addMem, shift, ren, SV.map, Ob.map, Ob.noRo, SV.noRo, A1.noRo, List.range, List.range.loop, fromRo, h1, h2, h4, hi', hp, R_Index, fidx]
      change _ = _
      kernel_rfl
    | false =>
      refine .inl ⟨i + 1, ?_, by omega, hi', by rw [drop_next hl]; simp [fidx, hp]⟩
      simp (maxSteps := 4000000) -implicitDefEqProofs [b61_0, S_Index, x_seq, x_cond, x_block, x_region, x_skip, x_exit, x_ret, head_id, runG, runOps, doOp, wantB, stepOp, AO.eff, pureOp, St.get, St.one, St.num, St.put, St.optNum, binA, binInt, List.take, List.drop, callRO, addMem_nil, roArgs, roL, roA, srcCells, A1.ownB, addMem, shift, ren, SV.map, Ob.map, Ob.noRo, SV.noRo, A1.noRo, List.range, List.range.loop, fromRo, h1, h2, h4, hi', hp]
      change _ = _
      kernel_rfl
theorem r_Index (l : List Int) (y : Int) (hn : l.length ≤ 1048576) : runRO (X tab) tab 61 [.v false [.ro l.length (cl .i64 l)], .v false [.int .i64 y]] = some (.v false [.int .i64 (match fidx (fun z => y == z) 0 l with | some j => (j : Int) | none => -1)], []) := by
  unfold runRO
  simp (maxSteps := 4000000) -implicitDefEqProofs [tab61, a61, x_seq, x_cond, x_block, x_region, x_skip, x_exit, x_ret, head_id, runG, runOps, doOp, wantB, stepOp, AO.eff, pureOp, St.get, St.one, St.num, St.put, St.optNum, binA, binInt, List.take, List.drop]
  rw [loop_Index l y hn (by change _ = _; kernel_rfl)]
  cases fidx (fun z => y == z) 0 l <;> simp (maxSteps := 4000000) -implicitDefEqProofs [R_Index, x_seq, x_cond, x_block, x_region, x_skip, x_exit, x_ret, head_id, runG, runOps, doOp, wantB, stepOp, AO.eff, pureOp, St.get, St.one, St.num, St.put, St.optNum, binA, binInt, List.take, List.drop, resOf, resSV, SV.map, SV.ids, A1.ids, reach, allObs, ren, pos, Ob.map, St.canon, memL, List.range, List.range.loop]
theorem any_mem (l : List Int) (y : Int) : (l.any fun z => y == z) = decide (y ∈ l) := by
  induction l with
  | nil => rfl
  | cons x r ih =>
    rw [List.any_cons, ih]
    by_cases h : y = x <;> simp [h]
theorem r_Contains (l : List Int) (y : Int) (hn : l.length ≤ 1048576) : runRO (X tab) tab 42 [.v false [.ro l.length (cl .i64 l)], .v false [.int .i64 y]] = some (.v false [.bool (decide (y ∈ l))], []) := by
  have h := r_Index l y hn
  rw [← any_mem, ← fidx_isSome (i := 0)]
  unfold runRO
  cases hp : fidx (fun z => y == z) 0 l <;> rw [hp] at h <;> simp (maxSteps := 4000000) -implicitDefEqProofs [tab42, a42, x_seq, x_cond, x_block, x_region, x_skip, x_exit, x_ret, head_id, runG, runOps, doOp, wantB, stepOp, AO.eff, pureOp, St.get, St.one, St.num, St.put, St.optNum, binA, binInt, List.take, List.drop, callRO, addMem_nil, roArgs, roL, roA, srcCells, A1.ownB, addMem, shift, ren, SV.map, Ob.map, Ob.noRo, SV.noRo, A1.noRo, List.range, List.range.loop, resOf, resSV, SV.map, SV.ids, A1.ids, reach, allObs, ren, pos, Ob.map, St.canon, memL, List.range, List.range.loop, h]
def digestsOk (l : List Int) : Bool := decide (l.length = 8) && !(l.any fun n => decide (n < 0))
def hotF (pre : List Int) : List Int → Bool
  | [] => true
  | y :: r => (rng y 0 3 && !decide (y ∈ pre)) && hotF (pre ++ [y]) r
def hotOk (l : List Int) : Bool := hotF [] l && decide (l.length ≤ 2)
theorem take_next {l : List Int} {i : Nat} {y : Int} {r : List Int} (h : l.drop i = y :: r) : l.take (i + 1) = l.take i ++ [y] := by
  have hi := drop_lt h
  have hx : l[i] = y := by
    have := List.drop_eq_getElem_cons hi
    rw [h] at this
    exact (List.cons.inj this).1.symm
  rw [← hx, List.take_append_getElem]
end Go.Proofs.Ytbdokibepndibaa.Eng.B
