/- What a row holds: looking for a number, digests in form, hot rows in form; the laws of the last two. -/
import Derived.Test.YtdagbeihjobmjaaRNum
namespace Go.Proofs.Ytdagbeihjobmjaa.Eng.R
set_option linter.unusedSimpArgs false
set_option linter.unusedVariables false
open Go.RowKit Go.Proofs

def S_l2Has (l : List Int) (y : Int) (i : Nat) : XS := ⟨⟨[.v false [.ro l.length (cl .i64 l)], .v false [.int .i64 (y)], .bad, .bad, .bad, .v false [.int .i64 (i)], .bad, .bad, .bad, .bad, .bad, .bad, .bad, .bad, .bad, .bad, .bad, .bad], memL [], []⟩, 0⟩
def R_l2Has (b : Bool) : Option (AE × XS) := if b = true then some (.ret, ⟨⟨[.bad, .bad, .bad, .bad, .v false [.bool (true)], .bad, .bad, .bad, .bad, .bad, .bad, .bad, .bad, .bad, .bad, .bad, .bad, .bad], memL [], []⟩, 0⟩) else some (.exit 0, ⟨⟨[.bad, .bad, .bad, .bad, .bad, .bad, .bad, .bad, .bad, .bad, .bad, .bad, .bad, .bad, .bad, .bad, .bad, .bad], memL [], []⟩, 0⟩)
theorem loop_l2Has (l : List Int) (y : Int) (hn : l.length ≤ 1048576) {x : XS} (hx : head true d103_0 x = S_l2Has l y 0) : X tab l103_0 x = R_l2Has (decide (y ∈ l)) := by
  refine loopX (σ := Nat) (S_l2Has l y) (fun i => l.length - i) (fun i => i ≤ l.length ∧ (y ∈ l.drop i ↔ y ∈ l)) _ (fun i ⟨hi, hs⟩ => ?_) 0 ⟨Nat.zero_le _, by simp⟩ x hx
  cases hl : l.drop i with
  | nil =>
    have hb : decide (y ∈ l) = false := by rw [decide_eq_false_iff_not, ← hs, hl]; simp
    obtain rfl := drop_end hl hi
    rw [hb]
    refine .inr ⟨?_, by simp [R_l2Has]⟩
    simp (maxSteps := 4000000) -implicitDefEqProofs [b103_0, S_l2Has, x_seq, x_cond, x_block, x_region, x_skip, x_exit, x_ret, head_id, runG, runOps, doOp, wantB, stepOp, AO.eff, pureOp, St.get, St.one, St.num, St.put, St.optNum, binA, binInt, List.take, List.drop, R_l2Has]
    change _ = _
    kernel_rfl
  | cons z r =>
    have hi' := drop_lt hl
    have h1 : (0 ≤ (i : Int) ∧ (i : Int) < (l.length : Int)) := by omega
    have h2 := cl_at (k := .i64) hl
    have h4 := wrap_next hi' (show l.length ≤ 281474976710656 by omega)
    cases hp : (z == y) with
    | true =>
      have : y = z := (beq_iff_eq.1 hp).symm
      subst this
      have hb : decide (y ∈ l) = true := by rw [decide_eq_true_eq, ← hs, hl]; simp
      rw [hb]
      refine .inr ⟨?_, by simp [R_l2Has]⟩
      simp (maxSteps := 4000000) -implicitDefEqProofs [b103_0, S_l2Has, x_seq, x_cond, x_block, x_region, x_skip, x_exit, x_ret, head_id, runG, runOps, doOp, wantB, stepOp, AO.eff, pureOp, St.get, St.one, St.num, St.put, St.optNum, binA, binInt, List.take, List.drop, callRO, addMem_nil, roArgs, roL, roA, srcCells, A1.ownB, addMem, shift, ren, SV.map, Ob.map, Ob.noRo, SV.noRo, A1.noRo, List.range, List.range.loop, fromRo, h1, h2, h4, hi', R_l2Has]
      change _ = _
      kernel_rfl
    | false =>
      have hne : ¬ z = y := beq_eq_false_iff_ne.1 hp
      refine .inl ⟨i + 1, ?_, by omega, hi', by rw [drop_next hl, ← hs, hl]; simp [show ¬ y = z from fun e => hne e.symm]⟩
      simp (maxSteps := 4000000) -implicitDefEqProofs [b103_0, S_l2Has, x_seq, x_cond, x_block, x_region, x_skip, x_exit, x_ret, head_id, runG, runOps, doOp, wantB, stepOp, AO.eff, pureOp, St.get, St.one, St.num, St.put, St.optNum, binA, binInt, List.take, List.drop, callRO, addMem_nil, roArgs, roL, roA, srcCells, A1.ownB, addMem, shift, ren, SV.map, Ob.map, Ob.noRo, SV.noRo, A1.noRo, List.range, List.range.loop, fromRo, h1, h2, h4, hi', hp]
      change _ = _
      kernel_rfl
theorem r_l2Has (l : List Int) (y : Int) (hn : l.length ≤ 1048576) : runRO (X tab) tab 103 [.v false [.ro l.length (cl .i64 l)], .v false [.int .i64 y]] = some (.v false [.bool (decide (y ∈ l))], []) := by
  unfold runRO
  simp (maxSteps := 4000000) -implicitDefEqProofs [tab103, a103, x_seq, x_cond, x_block, x_region, x_skip, x_exit, x_ret, head_id, runG, runOps, doOp, wantB, stepOp, AO.eff, pureOp, St.get, St.one, St.num, St.put, St.optNum, binA, binInt, List.take, List.drop]
  rw [loop_l2Has l y hn (by change _ = _; kernel_rfl)]
  cases decide (y ∈ l) <;> simp (maxSteps := 4000000) -implicitDefEqProofs [R_l2Has, x_seq, x_cond, x_block, x_region, x_skip, x_exit, x_ret, head_id, runG, runOps, doOp, wantB, stepOp, AO.eff, pureOp, St.get, St.one, St.num, St.put, St.optNum, binA, binInt, List.take, List.drop, resOf, resSV, SV.map, SV.ids, A1.ids, reach, allObs, ren, pos, Ob.map, St.canon, memL, List.range, List.range.loop]
def S_Index (l : List Int) (y : Int) (i : Nat) : XS := ⟨⟨[.v false [.ro l.length (cl .i64 l)], .v false [.int .i64 (y)], .bad, .bad, .bad, .bad, .bad, .v false [.int .i64 (l.length)], .v false [.int .i64 (i)], .bad, .bad, .bad, .bad, .bad, .bad, .bad, .bad, .bad, .bad], memL [], []⟩, 0⟩
def R_Index : Option Nat → Option (AE × XS)
  | some j => some (.ret, ⟨⟨[.bad, .bad, .bad, .bad, .v false [.int .i64 (j)], .bad, .bad, .bad, .bad, .bad, .bad, .bad, .bad, .bad, .bad, .bad, .bad, .bad, .bad], memL [], []⟩, 0⟩)
  | none => some (.exit 0, ⟨⟨[.bad, .bad, .bad, .bad, .bad, .bad, .bad, .bad, .bad, .bad, .bad, .bad, .bad, .bad, .bad, .bad, .bad, .bad, .bad], memL [], []⟩, 0⟩)
theorem loop_Index (l : List Int) (y : Int) (hn : l.length ≤ 1048576) {x : XS} (hx : head true d129_0 x = S_Index l y 0) : X tab l129_0 x = R_Index (fidx (fun z => y == z) 0 l) := by
  refine loopX (σ := Nat) (S_Index l y) (fun i => l.length - i) (fun i => i ≤ l.length ∧ fidx (fun z => y == z) i (l.drop i) = fidx (fun z => y == z) 0 l) _ (fun i ⟨hi, hs⟩ => ?_) 0 ⟨Nat.zero_le _, by simp⟩ x hx
  rw [← hs]
  cases hl : l.drop i with
  | nil =>
    obtain rfl := drop_end hl hi
    refine .inr ⟨?_, by simp [R_Index, fidx]⟩
    simp (maxSteps := 4000000) -implicitDefEqProofs [b129_0, S_Index, x_seq, x_cond, x_block, x_region, x_skip, x_exit, x_ret, head_id, runG, runOps, doOp, wantB, stepOp, AO.eff, pureOp, St.get, St.one, St.num, St.put, St.optNum, binA, binInt, List.take, List.drop, R_Index, fidx]
    change _ = _
    kernel_rfl
  | cons z r =>
    have hi' := drop_lt hl
    have h1 : (0 ≤ (i : Int) ∧ (i : Int) < (l.length : Int)) := by omega
    have h2 := cl_at (k := .i64) hl
    have h4 := wrap_next hi' (show l.length ≤ 281474976710656 by omega)
    cases hp : (y == z) with
    | true =>
      refine .inr ⟨?_, by simp [R_Index, fidx, hp]⟩
      simp (maxSteps := 4000000) -implicitDefEqProofs [b129_0, S_Index, x_seq, x_cond, x_block, x_region, x_skip, x_exit, x_ret, head_id, runG, runOps, doOp, wantB, stepOp, AO.eff, pureOp, St.get, St.one, St.num, St.put, St.optNum, binA, binInt, List.take, List.drop, callRO, addMem_nil, roArgs, roL, roA, srcCells, A1.ownB, addMem, shift, ren, SV.map, Ob.map, Ob.noRo, SV.noRo, A1.noRo, List.range, List.range.loop, fromRo, h1, h2, h4, hi', hp, R_Index, fidx]
      change _ = _
      kernel_rfl
    | false =>
      refine .inl ⟨i + 1, ?_, by omega, hi', by rw [drop_next hl]; simp [fidx, hp]⟩
      simp (maxSteps := 4000000) -implicitDefEqProofs [b129_0, S_Index, x_seq, x_cond, x_block, x_region, x_skip, x_exit, x_ret, head_id, runG, runOps, doOp, wantB, stepOp, AO.eff, pureOp, St.get, St.one, St.num, St.put, St.optNum, binA, binInt, List.take, List.drop, callRO, addMem_nil, roArgs, roL, roA, srcCells, A1.ownB, addMem, shift, ren, SV.map, Ob.map, Ob.noRo, SV.noRo, A1.noRo, List.range, List.range.loop, fromRo, h1, h2, h4, hi', hp]
      change _ = _
      kernel_rfl
theorem r_Index (l : List Int) (y : Int) (hn : l.length ≤ 1048576) : runRO (X tab) tab 129 [.v false [.ro l.length (cl .i64 l)], .v false [.int .i64 y]] = some (.v false [.int .i64 (match fidx (fun z => y == z) 0 l with | some j => (j : Int) | none => -1)], []) := by
  unfold runRO
  simp (maxSteps := 4000000) -implicitDefEqProofs [tab129, a129, x_seq, x_cond, x_block, x_region, x_skip, x_exit, x_ret, head_id, runG, runOps, doOp, wantB, stepOp, AO.eff, pureOp, St.get, St.one, St.num, St.put, St.optNum, binA, binInt, List.take, List.drop]
  rw [loop_Index l y hn (by change _ = _; kernel_rfl)]
  cases fidx (fun z => y == z) 0 l <;> simp (maxSteps := 4000000) -implicitDefEqProofs [R_Index, x_seq, x_cond, x_block, x_region, x_skip, x_exit, x_ret, head_id, runG, runOps, doOp, wantB, stepOp, AO.eff, pureOp, St.get, St.one, St.num, St.put, St.optNum, binA, binInt, List.take, List.drop, resOf, resSV, SV.map, SV.ids, A1.ids, reach, allObs, ren, pos, Ob.map, St.canon, memL, List.range, List.range.loop]
theorem any_mem (l : List Int) (y : Int) : (l.any fun z => y == z) = decide (y ∈ l) := by
  induction l with
  | nil => rfl
  | cons x r ih =>
    rw [List.any_cons, ih]
    by_cases h : y = x <;> simp [h]
theorem r_Contains (l : List Int) (y : Int) (hn : l.length ≤ 1048576) : runRO (X tab) tab 102 [.v false [.ro l.length (cl .i64 l)], .v false [.int .i64 y]] = some (.v false [.bool (decide (y ∈ l))], []) := by
  have h := r_Index l y hn
  rw [← any_mem, ← fidx_isSome (i := 0)]
  unfold runRO
  cases hp : fidx (fun z => y == z) 0 l <;> rw [hp] at h <;> simp (maxSteps := 4000000) -implicitDefEqProofs [tab102, a102, x_seq, x_cond, x_block, x_region, x_skip, x_exit, x_ret, head_id, runG, runOps, doOp, wantB, stepOp, AO.eff, pureOp, St.get, St.one, St.num, St.put, St.optNum, binA, binInt, List.take, List.drop, callRO, addMem_nil, roArgs, roL, roA, srcCells, A1.ownB, addMem, shift, ren, SV.map, Ob.map, Ob.noRo, SV.noRo, A1.noRo, List.range, List.range.loop, resOf, resSV, SV.map, SV.ids, A1.ids, reach, allObs, ren, pos, Ob.map, St.canon, memL, List.range, List.range.loop, h]
def digestsOk (l : List Int) : Bool := decide (l.length = 8) && !(l.any fun n => decide (n < 0))
theorem r_isExt (n : Int) : runRO (X tab) tab 105 [.v false [.int .i64 n]] = some (.v false [.bool (rng n 0 3)], []) := by
  unfold runRO
  simp (maxSteps := 4000000) -implicitDefEqProofs [tab105, a105, x_seq, x_cond, x_block, x_region, x_skip, x_exit, x_ret, head_id, runG, runOps, doOp, wantB, stepOp, AO.eff, pureOp, St.get, St.one, St.num, St.put, St.optNum, binA, binInt, List.take, List.drop, callRO, addMem_nil, roArgs, roL, roA, srcCells, A1.ownB, addMem, shift, ren, SV.map, Ob.map, Ob.noRo, SV.noRo, A1.noRo, List.range, List.range.loop, resOf, resSV, SV.map, SV.ids, A1.ids, reach, allObs, ren, pos, Ob.map, St.canon, memL, List.range, List.range.loop, r_from]
def hotF (pre : List Int) : List Int → Bool
  | [] => true
  | y :: r => (rng y 0 3 && !decide (y ∈ pre)) && hotF (pre ++ [y]) r
def hotOk (l : List Int) : Bool := hotF [] l && decide (l.length ≤ 2)
theorem take_next {l : List Int} {i : Nat} {y : Int} {r : List Int} (h : l.drop i = y :: r) : l.take (i + 1) = l.take i ++ [y] := by
  have hi := drop_lt h
  have hx : l[i] = y := by
    have := List.drop_eq_getElem_cons hi
    rw [h] at this
    exact (List.cons.inj this).1.symm
  rw [← hx, List.take_append_getElem]
def S_sHotOk (l : List Int) (i : Nat) : XS := ⟨⟨[.v false [.ro l.length (cl .i64 l)], .bad, .bad, .v false [.int .i64 (i)], .bad, .bad, .bad, .bad, .bad, .bad, .bad, .bad, .bad, .bad, .bad, .bad, .bad, .bad, .bad, .bad, .bad, .bad, .bad, .bad, .bad, .bad, .bad, .bad, .bad], memL [], []⟩, 0⟩
def R_sHotOk (l : List Int) (ok : Bool) : Option (AE × XS) := if ok = true then some (.exit 0, ⟨⟨[.v false [.ro l.length (cl .i64 l)], .bad, .bad, .bad, .bad, .bad, .bad, .bad, .bad, .bad, .bad, .bad, .bad, .bad, .bad, .bad, .bad, .bad, .bad, .bad, .bad, .bad, .bad, .bad, .bad, .bad, .bad, .bad, .bad], memL [], []⟩, 0⟩) else some (.ret, ⟨⟨[.bad, .bad, .v false [.bool (false)], .bad, .bad, .bad, .bad, .bad, .bad, .bad, .bad, .bad, .bad, .bad, .bad, .bad, .bad, .bad, .bad, .bad, .bad, .bad, .bad, .bad, .bad, .bad, .bad, .bad, .bad], memL [], []⟩, 0⟩)
theorem loop_sHotOk (l : List Int) (hn : l.length ≤ 1048576) {x : XS} (hx : head true d63_0 x = S_sHotOk l 0) : X tab l63_0 x = R_sHotOk l (hotF [] l) := by
  refine loopX (σ := Nat) (S_sHotOk l) (fun i => l.length - i) (fun i => i ≤ l.length ∧ hotF (l.take i) (l.drop i) = hotF [] l) _ (fun i ⟨hi, hs⟩ => ?_) 0 ⟨Nat.zero_le _, rfl⟩ x hx
  rw [← hs]
  cases hl : l.drop i with
  | nil =>
    obtain rfl := drop_end hl hi
    refine .inr ⟨?_, by simp [R_sHotOk, hotF]⟩
    simp (maxSteps := 4000000) -implicitDefEqProofs [b63_0, S_sHotOk, x_seq, x_cond, x_block, x_region, x_skip, x_exit, x_ret, head_id, runG, runOps, doOp, wantB, stepOp, AO.eff, pureOp, St.get, St.one, St.num, St.put, St.optNum, binA, binInt, List.take, List.drop, R_sHotOk, hotF]
    change _ = _
    kernel_rfl
  | cons y r =>
    have hi' := drop_lt hl
    have h1 : (0 ≤ (i : Int) ∧ (i : Int) < (l.length : Int)) := by omega
    have h2 := cl_at (k := .i64) hl
    have h4 := wrap_next hi' (show l.length ≤ 281474976710656 by omega)
    have h5 := r_l1In y 0 3
    have h6 := r_l2Has (l.take i) y (by rw [List.length_take]; omega)
    rw [List.length_take, Nat.min_eq_left hi, ← cl_take] at h6
    have h7 : (i : Int) ≤ (l.length : Int) := by omega
    simp only [hotF]
    cases hp : rng y 0 3 with
    | false =>
      rw [hp] at h5
      refine .inr ⟨?_, by simp [R_sHotOk]⟩
      simp (maxSteps := 4000000) -implicitDefEqProofs [b63_0, S_sHotOk, x_seq, x_cond, x_block, x_region, x_skip, x_exit, x_ret, head_id, runG, runOps, doOp, wantB, stepOp, AO.eff, pureOp, St.get, St.one, St.num, St.put, St.optNum, binA, binInt, List.take, List.drop, gOp, gOp0, gOpL, gResL, updO, gRes, gEff, addObs_nil, addObs_one, freshB_memL, freshB_none, freshB_upd, freshB_addMem, freshB_addObs, callRO, addMem_nil, roArgs, roL, roA, srcCells, A1.ownB, addMem, shift, ren, SV.map, Ob.map, Ob.noRo, SV.noRo, A1.noRo, List.range, List.range.loop, cutB, fromRo, h1, h2, h4, h5, hi', R_sHotOk]
      change _ = _
      kernel_rfl
    | true =>
      rw [hp] at h5
      cases hq : decide (y ∈ l.take i) with
      | true =>
        rw [hq] at h6
        refine .inr ⟨?_, by simp [R_sHotOk]⟩
        simp (maxSteps := 4000000) -implicitDefEqProofs [b63_0, S_sHotOk, x_seq, x_cond, x_block, x_region, x_skip, x_exit, x_ret, head_id, runG, runOps, doOp, wantB, stepOp, AO.eff, pureOp, St.get, St.one, St.num, St.put, St.optNum, binA, binInt, List.take, List.drop, gOp, gOp0, gOpL, gResL, updO, gRes, gEff, addObs_nil, addObs_one, freshB_memL, freshB_none, freshB_upd, freshB_addMem, freshB_addObs, callRO, addMem_nil, roArgs, roL, roA, srcCells, A1.ownB, addMem, shift, ren, SV.map, Ob.map, Ob.noRo, SV.noRo, A1.noRo, List.range, List.range.loop, cutB, fromRo, h1, h2, h4, h5, h6, h7, hi', R_sHotOk]
        change _ = _
        kernel_rfl
      | false =>
        rw [hq] at h6
        refine .inl ⟨i + 1, ?_, by omega, hi', by rw [drop_next hl, take_next hl]; simp⟩
        simp (maxSteps := 4000000) -implicitDefEqProofs [b63_0, S_sHotOk, x_seq, x_cond, x_block, x_region, x_skip, x_exit, x_ret, head_id, runG, runOps, doOp, wantB, stepOp, AO.eff, pureOp, St.get, St.one, St.num, St.put, St.optNum, binA, binInt, List.take, List.drop, gOp, gOp0, gOpL, gResL, updO, gRes, gEff, addObs_nil, addObs_one, freshB_memL, freshB_none, freshB_upd, freshB_addMem, freshB_addObs, callRO, addMem_nil, roArgs, roL, roA, srcCells, A1.ownB, addMem, shift, ren, SV.map, Ob.map, Ob.noRo, SV.noRo, A1.noRo, List.range, List.range.loop, cutB, fromRo, h1, h2, h4, h5, h6, h7, hi']
        change _ = _
        kernel_rfl
theorem r_sHotOk (l : List Int) (hn : l.length ≤ 1048576) : runRO (X tab) tab 63 [.v false [.ro l.length (cl .i64 l)]] = some (.v false [.bool (hotOk l)], []) := by
  unfold runRO
  simp (maxSteps := 4000000) -implicitDefEqProofs [tab63, a63, x_seq, x_cond, x_block, x_region, x_skip, x_exit, x_ret, head_id, runG, runOps, doOp, wantB, stepOp, AO.eff, pureOp, St.get, St.one, St.num, St.put, St.optNum, binA, binInt, List.take, List.drop]
  rw [loop_sHotOk l hn (by change _ = _; kernel_rfl)]
  unfold hotOk
  cases hotF [] l with
  | false => simp (maxSteps := 4000000) -implicitDefEqProofs [R_sHotOk, x_seq, x_cond, x_block, x_region, x_skip, x_exit, x_ret, head_id, runG, runOps, doOp, wantB, stepOp, AO.eff, pureOp, St.get, St.one, St.num, St.put, St.optNum, binA, binInt, List.take, List.drop, resOf, resSV, SV.map, SV.ids, A1.ids, reach, allObs, ren, pos, Ob.map, St.canon, memL, List.range, List.range.loop]
  | true =>
    by_cases h8 : l.length ≤ 2
    · have h8' : (l.length : Int) ≤ 2 := by omega
      simp (maxSteps := 4000000) -implicitDefEqProofs [R_sHotOk, x_seq, x_cond, x_block, x_region, x_skip, x_exit, x_ret, head_id, runG, runOps, doOp, wantB, stepOp, AO.eff, pureOp, St.get, St.one, St.num, St.put, St.optNum, binA, binInt, List.take, List.drop, resOf, resSV, SV.map, SV.ids, A1.ids, reach, allObs, ren, pos, Ob.map, St.canon, memL, List.range, List.range.loop, h8, h8']
    · have h8' : ¬ (l.length : Int) ≤ 2 := by omega
      simp (maxSteps := 4000000) -implicitDefEqProofs [R_sHotOk, x_seq, x_cond, x_block, x_region, x_skip, x_exit, x_ret, head_id, runG, runOps, doOp, wantB, stepOp, AO.eff, pureOp, St.get, St.one, St.num, St.put, St.optNum, binA, binInt, List.take, List.drop, resOf, resSV, SV.map, SV.ids, A1.ids, reach, allObs, ren, pos, Ob.map, St.canon, memL, List.range, List.range.loop, h8, h8']
def S_HotOk (l : List Int) (i : Nat) : XS := ⟨⟨[.v false [.ro l.length (cl .i64 l)], .bad, .bad, .bad, .bad, .v false [.ro l.length (cl .i64 l)], .v false [.int .i64 (l.length)], .v false [.int .i64 (i)], .bad, .bad, .bad, .bad, .bad, .bad, .bad, .bad, .bad, .bad, .bad, .bad, .bad, .bad, .bad, .bad, .bad, .bad], memL [], []⟩, 0⟩
def R_HotOk (l : List Int) (ok : Bool) : Option (AE × XS) := if ok = true then some (.exit 0, ⟨⟨[.v false [.ro l.length (cl .i64 l)], .bad, .bad, .bad, .bad, .bad, .bad, .bad, .bad, .bad, .bad, .bad, .bad, .bad, .bad, .bad, .bad, .bad, .bad, .bad, .bad, .bad, .bad, .bad, .bad, .bad], memL [], []⟩, 0⟩) else some (.ret, ⟨⟨[.bad, .bad, .v false [.bool (false)], .bad, .bad, .bad, .bad, .bad, .bad, .bad, .bad, .bad, .bad, .bad, .bad, .bad, .bad, .bad, .bad, .bad, .bad, .bad, .bad, .bad, .bad, .bad], memL [], []⟩, 0⟩)
theorem loop_HotOk (l : List Int) (hn : l.length ≤ 1048576) {x : XS} (hx : head true d62_0 x = S_HotOk l 0) : X tab l62_0 x = R_HotOk l (hotF [] l) := by
  refine loopX (σ := Nat) (S_HotOk l) (fun i => l.length - i) (fun i => i ≤ l.length ∧ hotF (l.take i) (l.drop i) = hotF [] l) _ (fun i ⟨hi, hs⟩ => ?_) 0 ⟨Nat.zero_le _, rfl⟩ x hx
  rw [← hs]
  cases hl : l.drop i with
  | nil =>
    obtain rfl := drop_end hl hi
    refine .inr ⟨?_, by simp [R_HotOk, hotF]⟩
    simp (maxSteps := 4000000) -implicitDefEqProofs [b62_0, S_HotOk, x_seq, x_cond, x_block, x_region, x_skip, x_exit, x_ret, head_id, runG, runOps, doOp, wantB, stepOp, AO.eff, pureOp, St.get, St.one, St.num, St.put, St.optNum, binA, binInt, List.take, List.drop, R_HotOk, hotF]
    change _ = _
    kernel_rfl
  | cons y r =>
    have hi' := drop_lt hl
    have h1 : (0 ≤ (i : Int) ∧ (i : Int) < (l.length : Int)) := by omega
    have h2 := cl_at (k := .i64) hl
    have h4 := wrap_next hi' (show l.length ≤ 281474976710656 by omega)
    have h5 := r_isExt y
    have h6 := r_Contains (l.take i) y (by rw [List.length_take]; omega)
    rw [List.length_take, Nat.min_eq_left hi, ← cl_take] at h6
    have h7 : (i : Int) ≤ (l.length : Int) := by omega
    simp only [hotF]
    cases hp : rng y 0 3 with
    | false =>
      rw [hp] at h5
      refine .inr ⟨?_, by simp [R_HotOk]⟩
      simp (maxSteps := 4000000) -implicitDefEqProofs [b62_0, S_HotOk, x_seq, x_cond, x_block, x_region, x_skip, x_exit, x_ret, head_id, runG, runOps, doOp, wantB, stepOp, AO.eff, pureOp, St.get, St.one, St.num, St.put, St.optNum, binA, binInt, List.take, List.drop, gOp, gOp0, gOpL, gResL, updO, gRes, gEff, addObs_nil, addObs_one, freshB_memL, freshB_none, freshB_upd, freshB_addMem, freshB_addObs, callRO, addMem_nil, roArgs, roL, roA, srcCells, A1.ownB, addMem, shift, ren, SV.map, Ob.map, Ob.noRo, SV.noRo, A1.noRo, List.range, List.range.loop, cutB, fromRo, h1, h2, h4, h5, hi', R_HotOk]
      change _ = _
      kernel_rfl
    | true =>
      rw [hp] at h5
      cases hq : decide (y ∈ l.take i) with
      | true =>
        rw [hq] at h6
        refine .inr ⟨?_, by simp [R_HotOk]⟩
        simp (maxSteps := 4000000) -implicitDefEqProofs [b62_0, S_HotOk, x_seq, x_cond, x_block, x_region, x_skip, x_exit, x_ret, head_id, runG, runOps, doOp, wantB, stepOp, AO.eff, pureOp, St.get, St.one, St.num, St.put, St.optNum, binA, binInt, List.take, List.drop, gOp, gOp0, gOpL, gResL, updO, gRes, gEff, addObs_nil, addObs_one, freshB_memL, freshB_none, freshB_upd, freshB_addMem, freshB_addObs, callRO, addMem_nil, roArgs, roL, roA, srcCells, A1.ownB, addMem, shift, ren, SV.map, Ob.map, Ob.noRo, SV.noRo, A1.noRo, List.range, List.range.loop, cutB, fromRo, h1, h2, h4, h5, h6, h7, hi', R_HotOk]
        change _ = _
        kernel_rfl
      | false =>
        rw [hq] at h6
        refine .inl ⟨i + 1, ?_, by omega, hi', by rw [drop_next hl, take_next hl]; simp⟩
        simp (maxSteps := 4000000) -implicitDefEqProofs [b62_0, S_HotOk, x_seq, x_cond, x_block, x_region, x_skip, x_exit, x_ret, head_id, runG, runOps, doOp, wantB, stepOp, AO.eff, pureOp, St.get, St.one, St.num, St.put, St.optNum, binA, binInt, List.take, List.drop, gOp, gOp0, gOpL, gResL, updO, gRes, gEff, addObs_nil, addObs_one, freshB_memL, freshB_none, freshB_upd, freshB_addMem, freshB_addObs, callRO, addMem_nil, roArgs, roL, roA, srcCells, A1.ownB, addMem, shift, ren, SV.map, Ob.map, Ob.noRo, SV.noRo, A1.noRo, List.range, List.range.loop, cutB, fromRo, h1, h2, h4, h5, h6, h7, hi']
        change _ = _
        kernel_rfl
theorem r_HotOk (l : List Int) (hn : l.length ≤ 1048576) : runRO (X tab) tab 62 [.v false [.ro l.length (cl .i64 l)]] = some (.v false [.bool (hotOk l)], []) := by
  unfold runRO
  simp (maxSteps := 4000000) -implicitDefEqProofs [tab62, a62, x_seq, x_cond, x_block, x_region, x_skip, x_exit, x_ret, head_id, runG, runOps, doOp, wantB, stepOp, AO.eff, pureOp, St.get, St.one, St.num, St.put, St.optNum, binA, binInt, List.take, List.drop]
  rw [loop_HotOk l hn (by change _ = _; kernel_rfl)]
  unfold hotOk
  cases hotF [] l with
  | false => simp (maxSteps := 4000000) -implicitDefEqProofs [R_HotOk, x_seq, x_cond, x_block, x_region, x_skip, x_exit, x_ret, head_id, runG, runOps, doOp, wantB, stepOp, AO.eff, pureOp, St.get, St.one, St.num, St.put, St.optNum, binA, binInt, List.take, List.drop, resOf, resSV, SV.map, SV.ids, A1.ids, reach, allObs, ren, pos, Ob.map, St.canon, memL, List.range, List.range.loop]
  | true =>
    by_cases h8 : l.length ≤ 2
    · have h8' : (l.length : Int) ≤ 2 := by omega
      simp (maxSteps := 4000000) -implicitDefEqProofs [R_HotOk, x_seq, x_cond, x_block, x_region, x_skip, x_exit, x_ret, head_id, runG, runOps, doOp, wantB, stepOp, AO.eff, pureOp, St.get, St.one, St.num, St.put, St.optNum, binA, binInt, List.take, List.drop, resOf, resSV, SV.map, SV.ids, A1.ids, reach, allObs, ren, pos, Ob.map, St.canon, memL, List.range, List.range.loop, h8, h8']
    · have h8' : ¬ (l.length : Int) ≤ 2 := by omega
      simp (maxSteps := 4000000) -implicitDefEqProofs [R_HotOk, x_seq, x_cond, x_block, x_region, x_skip, x_exit, x_ret, head_id, runG, runOps, doOp, wantB, stepOp, AO.eff, pureOp, St.get, St.one, St.num, St.put, St.optNum, binA, binInt, List.take, List.drop, resOf, resSV, SV.map, SV.ids, A1.ids, reach, allObs, ren, pos, Ob.map, St.canon, memL, List.range, List.range.loop, h8, h8']
end Go.Proofs.Ytdagbeihjobmjaa.Eng.R
