/- Touching: taking a number out of a row, and putting one ahead. -/
import Derived.Test.YtdagbeihjobmjaaRHas
namespace Go.Proofs.Ytdagbeihjobmjaa.Eng.R
set_option linter.unusedSimpArgs false
set_option linter.unusedVariables false
set_option maxHeartbeats 8000000
set_option maxRecDepth 100000
open Go.RowKit Go.Proofs

theorem r_CloneI (l : List Int) (hl : l ≠ []) (hn : l.length ≤ 1048576) : runRO (X tab) tab 118 [.v false [.ro l.length (cl .i64 l)]] = some (.v false [.sl 0 [] 0 l.length], [.row 1 (cl .i64 l)]) := by
  refine runRO_mono (exec_le_X 4) ?_
  have h1 : ¬ l.length = 0 := fun e => hl (List.eq_nil_of_length_eq_zero e)
  have h2 : l.length * 8 ≤ 140737488355328 := by omega
  simp [runRO, tab118, a118, exec, cloneX, srcCells, cl_length, cl_self, hl, h1, h2, cl_flat, List.replicate, resOf, resSV, SV.map, SV.ids, A1.ids, reach, allObs, ren, pos, Ob.map, St.canon, memL, List.range, List.range.loop, upd]
theorem r_CloneI_nil : runRO (X tab) tab 118 [.v false [.ro 0 []]] = some (.v false [.nil], []) := runRO_mono (exec_le_X 4) (by kernel_rfl)
def extOf (c : Int) : Int := if rng c 0 7 = true then c / 2 else -1
theorem r_ExtOf (c : Int) : runRO (X tab) tab 60 [.v false [.int .i64 c]] = some (.v false [.int .i64 (extOf c)], []) := by
  have h1 := r_isCell c
  unfold runRO extOf
  cases h : rng c 0 7 with
  | false =>
    rw [h] at h1
    simp (maxSteps := 4000000) -implicitDefEqProofs [tab60, a60, x_seq, x_cond, x_block, x_region, x_skip, x_exit, x_ret, head_id, runG, runOps, doOp, wantB, stepOp, AO.eff, pureOp, St.get, St.one, St.num, St.put, St.optNum, binA, binInt, List.take, List.drop, callRO, addMem_nil, roArgs, roL, roA, srcCells, A1.ownB, addMem, shift, ren, SV.map, Ob.map, Ob.noRo, SV.noRo, A1.noRo, List.range, List.range.loop, resOf, resSV, SV.map, SV.ids, A1.ids, reach, allObs, ren, pos, Ob.map, St.canon, memL, List.range, List.range.loop, h1]
  | true =>
    rw [h] at h1
    have hc := rng_iff.1 h
    have h2 : IntKind.i64.wrap (c.tdiv 2) = c / 2 := by rw [Int.tdiv_eq_ediv_of_nonneg (by omega), wrap_id (by omega) (by omega)]
    simp (maxSteps := 4000000) -implicitDefEqProofs [tab60, a60, x_seq, x_cond, x_block, x_region, x_skip, x_exit, x_ret, head_id, runG, runOps, doOp, wantB, stepOp, AO.eff, pureOp, St.get, St.one, St.num, St.put, St.optNum, binA, binInt, List.take, List.drop, callRO, addMem_nil, roArgs, roL, roA, srcCells, A1.ownB, addMem, shift, ren, SV.map, Ob.map, Ob.noRo, SV.noRo, A1.noRo, List.range, List.range.loop, resOf, resSV, SV.map, SV.ids, A1.ids, reach, allObs, ren, pos, Ob.map, St.canon, memL, List.range, List.range.loop, h1, h2]
theorem r_sExtOf (c : Int) : runRO (X tab) tab 61 [.v false [.int .i64 c]] = some (.v false [.int .i64 (extOf c)], []) := by
  have h1 := r_l1In c 0 7
  unfold runRO extOf
  cases h : rng c 0 7 with
  | false =>
    rw [h] at h1
    simp (maxSteps := 4000000) -implicitDefEqProofs [tab61, a61, x_seq, x_cond, x_block, x_region, x_skip, x_exit, x_ret, head_id, runG, runOps, doOp, wantB, stepOp, AO.eff, pureOp, St.get, St.one, St.num, St.put, St.optNum, binA, binInt, List.take, List.drop, callRO, addMem_nil, roArgs, roL, roA, srcCells, A1.ownB, addMem, shift, ren, SV.map, Ob.map, Ob.noRo, SV.noRo, A1.noRo, List.range, List.range.loop, resOf, resSV, SV.map, SV.ids, A1.ids, reach, allObs, ren, pos, Ob.map, St.canon, memL, List.range, List.range.loop, h1]
  | true =>
    rw [h] at h1
    have hc := rng_iff.1 h
    have h2 : IntKind.i64.wrap (c.tdiv 2) = c / 2 := by rw [Int.tdiv_eq_ediv_of_nonneg (by omega), wrap_id (by omega) (by omega)]
    simp (maxSteps := 4000000) -implicitDefEqProofs [tab61, a61, x_seq, x_cond, x_block, x_region, x_skip, x_exit, x_ret, head_id, runG, runOps, doOp, wantB, stepOp, AO.eff, pureOp, St.get, St.one, St.num, St.put, St.optNum, binA, binInt, List.take, List.drop, callRO, addMem_nil, roArgs, roL, roA, srcCells, A1.ownB, addMem, shift, ren, SV.map, Ob.map, Ob.noRo, SV.noRo, A1.noRo, List.range, List.range.loop, resOf, resSV, SV.map, SV.ids, A1.ids, reach, allObs, ren, pos, Ob.map, St.canon, memL, List.range, List.range.loop, h1, h2]
/-- A function value with one variable, which it reads. -/
def LooksC (f : FuncId) (t : Nat) (a : Int) (p : Int → Bool) (c : Nat) : Prop :=
  ∀ y sl m up nx, m t = some (.box [.int .i64 a]) → runThru (X tab) tab f [.v false [.int .i64 y], .v false [.pr t [] 0]] ⟨⟨sl, m, up⟩, nx⟩ = some (.v false [.bool (p y)], ⟨⟨sl, m, up⟩, nx + c⟩)
theorem f_Clear (t : Nat) (a : Int) : LooksC 132 t a (fun y => y == a) 320 := by
  intro y sl m up nx hm
  unfold runThru
  simp (maxSteps := 4000000) -implicitDefEqProofs [tab132, a132, x_seq, x_cond, x_block, x_region, x_skip, x_exit, x_ret, head_id, runG, runOps, doOp, wantB, stepOp, AO.eff, pureOp, St.get, St.one, St.num, St.put, St.optNum, binA, binInt, List.take, List.drop, hm, resOf, resSV]
def SI (t u : Nat) (f : FuncId) (l : List Int) (m : Mem) (up : List SV) (nx i : Nat) : XS := ⟨⟨[.v false [.sl t [] 0 l.length], .v false [.fn f [u]], .bad, .bad, .bad, .bad, .bad, .v false [.int .i64 (l.length)], .v false [.int .i64 (i)], .bad, .bad, .bad, .bad, .bad, .bad, .bad, .bad, .bad, .bad], m, up⟩, nx⟩
def RI (c : Nat) (m : Mem) (up : List SV) (nx : Nat) : Option Nat → Option (AE × XS)
  | none => some (.exit 0, ⟨⟨[.bad, .bad, .bad, .bad, .bad, .bad, .bad, .bad, .bad, .bad, .bad, .bad, .bad, .bad, .bad, .bad, .bad, .bad, .bad], m, up⟩, nx + 64⟩)
  | some j => some (.ret, ⟨⟨[.bad, .bad, .bad, .bad, .v false [.int .i64 (j)], .bad, .bad, .bad, .bad, .bad, .bad, .bad, .bad, .bad, .bad, .bad, .bad, .bad, .bad], m, up⟩, nx + 704 + c⟩)
theorem loop_IndexC (l : List Int) (t u : Nat) (f : FuncId) (a : Int) (p : Int → Bool) (c : Nat) (hf : LooksC f u a p c) (hn : l.length ≤ 1048576) (m : Mem) (up : List SV) (nx : Nat) (ht : m t = some (.row 1 (cl .i64 l))) (hu : m u = some (.box [.int .i64 a])) {x : XS}
    (hx : head false d128_0 x = SI t u f l m up nx 0) : X tab l128_0 x = RI c m up nx (fidx p 0 l) := by
  refine loopXF (σ := Nat) (SI t u f l m up nx) (fun i => l.length - i) (fun i => i ≤ l.length ∧ fidx p i (l.drop i) = fidx p 0 l) _ (fun i ⟨hi, hs⟩ => ?_) 0 ⟨Nat.zero_le _, rfl⟩ x hx
  cases hl : l.drop i with
  | nil =>
    obtain rfl := drop_end hl hi
    rw [← hs, hl]
    refine .inr ⟨?_, by simp [fidx, RI]⟩
    simp (maxSteps := 4000000) -implicitDefEqProofs [b128_0, SI, x_seq, x_cond, x_block, x_region, x_skip, x_exit, x_ret, head_id, runG, runOps, doOp, wantB, stepOp, AO.eff, pureOp, St.get, St.one, St.num, St.put, St.optNum, binA, binInt, List.take, List.drop, fidx, RI]
    change _ = _
    kernel_rfl
  | cons y r =>
    have hi' := drop_lt hl
    have h1 : (0 ≤ (i : Int) ∧ (i : Int) < (l.length : Int)) := by omega
    have h2 := cl_read (k := .i64) hl t []
    have h4 := wrap_next hi' (show l.length ≤ 281474976710656 by omega)
    have h5 := fun sl up nx => hf y sl m up nx hu
    rw [hl] at hs
    simp only [fidx] at hs
    cases hp : p y with
    | true =>
      rw [if_pos hp] at hs
      rw [← hs]
      refine .inr ⟨?_, by simp [RI]⟩
      simp (maxSteps := 4000000) -implicitDefEqProofs [b128_0, SI, x_seq, x_cond, x_block, x_region, x_skip, x_exit, x_ret, head_id, runG, runOps, doOp, wantB, stepOp, AO.eff, pureOp, St.get, St.one, St.num, St.put, St.optNum, binA, binInt, List.take, List.drop, getAll, cellsAt, ht, h1, h2, h4, h5, hi', hp, RI]
      simp only [head, killSlots, Bool.false_eq_true, if_false, List.set, XS.mk.injEq, true_and]
      omega
    | false =>
      rw [if_neg (by simp [hp])] at hs
      refine .inl ⟨i + 1, ?_, by omega, hi', by rw [drop_next hl]; exact hs⟩
      simp (maxSteps := 4000000) -implicitDefEqProofs [b128_0, SI, x_seq, x_cond, x_block, x_region, x_skip, x_exit, x_ret, head_id, runG, runOps, doOp, wantB, stepOp, AO.eff, pureOp, St.get, St.one, St.num, St.put, St.optNum, binA, binInt, List.take, List.drop, getAll, cellsAt, ht, h1, h2, h4, h5, hi', hp]
      change _ = _
      kernel_rfl
def dI (c : Nat) : Option Nat → Nat
  | none => 384
  | some _ => 960 + c
theorem t_IndexC (l : List Int) (t u : Nat) (f : FuncId) (a : Int) (p : Int → Bool) (c : Nat) (hf : LooksC f u a p c) (hn : l.length ≤ 1048576) (sl : List SV) (m : Mem) (up : List SV) (nx : Nat) (ht : m t = some (.row 1 (cl .i64 l))) (hu : m u = some (.box [.int .i64 a])) :
    runThru (X tab) tab 128 [.v false [.sl t [] 0 l.length], .v false [.fn f [u]]] ⟨⟨sl, m, up⟩, nx⟩ = some (.v false [.int .i64 (match fidx p 0 l with | some j => (j : Int) | none => -1)], ⟨⟨sl, m, up⟩, nx + dI c (fidx p 0 l)⟩) := by
  unfold runThru
  simp (maxSteps := 4000000) -implicitDefEqProofs [tab128, a128, x_seq, x_cond, x_block, x_region, x_skip, x_exit, x_ret, head_id, runG, runOps, doOp, wantB, stepOp, AO.eff, pureOp, St.get, St.one, St.num, St.put, St.optNum, binA, binInt, List.take, List.drop]
  rw [loop_IndexC l t u f a p c hf hn m (sl ++ up) (nx + 256) ht hu (by change _ = _; kernel_rfl)]
  cases fidx p 0 l with
  | none => simp (maxSteps := 4000000) -implicitDefEqProofs [RI, x_seq, x_cond, x_block, x_region, x_skip, x_exit, x_ret, head_id, runG, runOps, doOp, wantB, stepOp, AO.eff, pureOp, St.get, St.one, St.num, St.put, St.optNum, binA, binInt, List.take, List.drop, resOf, resSV, Nat.add_assoc, dI]
  | some j => simp (maxSteps := 4000000) -implicitDefEqProofs [RI, x_seq, x_cond, x_block, x_region, x_skip, x_exit, x_ret, head_id, runG, runOps, doOp, wantB, stepOp, AO.eff, pureOp, St.get, St.one, St.num, St.put, St.optNum, binA, binInt, List.take, List.drop, resOf, resSV, Nat.add_assoc, dI]
/-- Taking out, in place. -/
def delF (p : Int → Bool) : Nat → List Int → List Int → Nat × List Int
  | i, row, [] => (i, row)
  | i, row, v :: r => if p v = true then delF p i row r else delF p (i + 1) (row.set i v) r
def SD (t u : Nat) (f : FuncId) (n : Nat) (m : Mem) (up : List SV) (nx : Nat) (s : Nat × Nat × List Int) : XS := ⟨⟨[.v false [.sl t [] 0 n], .v false [.fn f [u]], .bad, .bad, .bad, .v false [.int .i64 (s.1)], .v false [.int .i64 (s.2.1)], .bad, .bad, .bad, .bad, .bad, .bad, .bad, .bad, .bad, .bad, .bad, .bad, .bad, .bad, .bad, .bad, .bad, .bad, .bad, .bad, .bad, .bad, .bad, .bad, .bad, .bad, .bad, .bad, .bad, .bad, .bad, .bad, .bad, .bad, .bad], upd m t (some (.row 1 (cl .i64 s.2.2))), up⟩, nx⟩
def ZD (t n : Nat) (m : Mem) (up : List SV) (nx : Nat) (q : Nat × List Int) : XS := ⟨⟨[.v false [.sl t [] 0 n], .bad, .bad, .bad, .bad, .v false [.int .i64 (q.1)], .bad, .bad, .bad, .bad, .bad, .bad, .bad, .bad, .bad, .bad, .bad, .bad, .bad, .bad, .bad, .bad, .bad, .bad, .bad, .bad, .bad, .bad, .bad, .bad, .bad, .bad, .bad, .bad, .bad, .bad, .bad, .bad, .bad, .bad, .bad, .bad], upd m t (some (.row 1 (cl .i64 q.2))), up⟩, nx + 256⟩
theorem loop_Delete (l : List Int) (t u : Nat) (f : FuncId) (a : Int) (p : Int → Bool) (c : Nat) (hf : LooksC f u a p c) (hn : l.length ≤ 1048576) (m : Mem) (up : List SV) (nx i0 : Nat) (htu : u ≠ t) (hu : m u = some (.box [.int .i64 a])) (hi0 : i0 < l.length) {x : XS}
    (hx : head false d131_0 x = SD t u f l.length m up nx (i0, i0 + 1, l)) : X tab l131_0 x = some (.exit 0, ZD t l.length m up nx (delF p i0 l (l.drop (i0 + 1)))) := by
  refine loopXF (σ := Nat × Nat × List Int) (SD t u f l.length m up nx) (fun s => l.length - s.2.1) (fun s => s.1 < s.2.1 ∧ s.2.1 ≤ l.length ∧ s.2.2.length = l.length ∧ s.2.2.drop s.2.1 = l.drop s.2.1 ∧ delF p s.1 s.2.2 (l.drop s.2.1) = delF p i0 l (l.drop (i0 + 1))) _ (fun ⟨i, j, row⟩ ⟨hij, hj, hlen, hrow, hs⟩ => ?_) (i0, i0 + 1, l) ⟨by simp, by simp only; omega, rfl, rfl, rfl⟩ x hx
  simp only at hij hj hlen hrow hs
  cases hl : l.drop j with
  | nil =>
    obtain rfl := drop_end hl hj
    rw [hl, delF] at hs
    rw [← hs]
    refine .inr ⟨?_, by simp⟩
    simp (maxSteps := 4000000) -implicitDefEqProofs [b131_0, SD, x_seq, x_cond, x_block, x_region, x_skip, x_exit, x_ret, head_id, runG, runOps, doOp, wantB, stepOp, AO.eff, pureOp, St.get, St.one, St.num, St.put, St.optNum, binA, binInt, List.take, List.drop, ZD]
    change _ = _
    kernel_rfl
  | cons y r =>
    have hj' := drop_lt hl
    have h1 : (0 ≤ (j : Int) ∧ (j : Int) < (l.length : Int)) := by omega
    have h1' : (0 ≤ (i : Int) ∧ (i : Int) < (l.length : Int)) := by omega
    have h2 := cl_read (k := .i64) (hrow.trans hl) t []
    have h4 := wrap_next hj' (show l.length ≤ 281474976710656 by omega)
    have h4' : IntKind.i64.wrap ((i : Int) + 1) = ((i + 1 : Nat) : Int) := by rw [wrap_id (by omega) (by omega)]; omega
    have hu' : ∀ q, upd m t q u = some (.box [.int .i64 a]) := fun q => by simp only [upd]; rw [if_neg htu]; exact hu
    have h5 := fun q sl up nx => hf y sl (upd m t q) up nx (hu' q)
    rw [hl] at hs
    simp only [delF] at hs
    have h6 : (i : Int) < (l.length : Int) := by omega
    have h7 : i + 1 ≤ (cl .i64 row).length := by rw [cl_length]; omega
    have h8 : spl [Cell.int .i64 y] i (cl .i64 row) = cl .i64 (row.set i y) := cl_spl (by omega)
    have h9 : ∀ q : Option Ob, upd m t q t = q := fun q => by simp [upd]
    cases hp : p y with
    | true =>
      rw [if_pos hp] at hs
      refine .inl ⟨(i, j + 1, row), ?_, by simp only; omega, by simp only; omega, hj', hlen, by simp only; rw [drop_next hl, drop_next (hrow.trans hl)], by simp only; rw [drop_next hl]; exact hs⟩
      simp (maxSteps := 4000000) -implicitDefEqProofs [b131_0, SD, x_seq, x_cond, x_block, x_region, x_skip, x_exit, x_ret, head_id, runG, runOps, doOp, wantB, stepOp, AO.eff, pureOp, St.get, St.one, St.num, St.put, St.optNum, binA, binInt, List.take, List.drop, getAll, cellsAt, h9, h1, h2, h4, h5, hj', hp]
      change _ = _
      kernel_rfl
    | false =>
      rw [if_neg (by simp [hp])] at hs
      have hrow2 : (row.set i y).drop (j + 1) = l.drop (j + 1) := by
        rw [List.drop_set_of_lt (by omega), drop_next hl, drop_next (hrow.trans hl)]
      refine .inl ⟨(i + 1, j + 1, row.set i y), ?_, by simp only; omega, by simp only; omega, hj', by simp only [List.length_set]; exact hlen, by simp only; exact hrow2, by simp only; rw [drop_next hl]; exact hs⟩
      simp (maxSteps := 4000000) -implicitDefEqProofs [b131_0, SD, x_seq, x_cond, x_block, x_region, x_skip, x_exit, x_ret, head_id, runG, runOps, doOp, wantB, stepOp, AO.eff, pureOp, St.get, St.one, St.num, St.put, St.optNum, binA, binInt, List.take, List.drop, getAll, cellsAt, effOp2, effOp, stoRow, toCells, toCell, scalar_int, updAt, h9, h1, h1', h2, h4, h4', h5, h6, h7, h8, hj', hp, upd_upd]
      change _ = _
      kernel_rfl
theorem delF_spec (p : Int → Bool) : ∀ (r : List Int) (i : Nat) (row : List Int), i + r.length ≤ row.length →
    (delF p i row r).1 = i + (r.filter fun x => !p x).length ∧ (delF p i row r).2.length = row.length ∧ (delF p i row r).2.take (delF p i row r).1 = row.take i ++ r.filter fun x => !p x := by
  intro r
  induction r with
  | nil => intro i row h; simp [delF]
  | cons v r ih =>
    intro i row h
    simp only [List.length_cons] at h
    simp only [delF]
    cases hp : p v with
    | true =>
      simp only [if_true, List.filter_cons, hp, Bool.not_true, Bool.false_eq_true, if_false]
      exact ih i row (by omega)
    | false =>
      simp only [Bool.false_eq_true, if_false, List.filter_cons, hp, Bool.not_false, if_true, List.length_cons]
      obtain ⟨h1, h2, h3⟩ := ih (i + 1) (row.set i v) (by simp; omega)
      refine ⟨by omega, by rw [h2]; simp, ?_⟩
      rw [h3]
      have : (row.set i v).take (i + 1) = row.take i ++ [v] := by
        have hi : i < row.length := by omega
        have hl : (row.take i).length = i := by simp; omega
        rw [List.take_set, ← List.take_append_getElem hi, List.set_append_right _ _ (by omega), hl, Nat.sub_self, List.set_cons_zero]
      rw [this]
      simp
theorem fidx_split {p : Int → Bool} : ∀ {l : List Int} {i j : Nat}, fidx p i l = some j → i ≤ j ∧ ∃ y r, l.drop (j - i) = y :: r ∧ p y = true ∧ (l.filter fun x => !p x) = l.take (j - i) ++ r.filter fun x => !p x := by
  intro l
  induction l with
  | nil => intro i j h; cases h
  | cons y r ih =>
    intro i j h
    simp only [fidx] at h
    cases hp : p y with
    | true =>
      rw [if_pos hp] at h
      cases h
      exact ⟨Nat.le_refl _, y, r, by simp, hp, by simp [hp]⟩
    | false =>
      rw [if_neg (by simp [hp])] at h
      obtain ⟨h1, z, q, h2, h3, h4⟩ := ih h
      have e : j - i = (j - (i + 1)) + 1 := by omega
      refine ⟨by omega, z, q, by rw [e]; simpa using h2, h3, ?_⟩
      rw [e, List.take_succ_cons, List.filter_cons, hp, h4]
      simp
theorem fidx_all {p : Int → Bool} {l : List Int} (h : fidx p 0 l = none) : (l.filter fun x => !p x) = l := by
  have := fidx_none.1 h
  rw [List.any_eq_false] at this
  rw [List.filter_eq_self]
  intro x hx
  simp [this x hx]
theorem reps_ints {k : IntKind} {x : Int} : ∀ n, reps n [A1.int k x] = (List.replicate n x).map (A1.int k) := by
  intro n
  induction n with
  | zero => rfl
  | succ n ih => simp [reps, ih, List.replicate_succ]
theorem cells_rep {k : IntKind} {x : Int} {m : Mem} (n : Nat) : toCells m (List.replicate n (A1.int k x)) = some (cl k (List.replicate n x), m, []) := by
  have := cells_ints (k := k) (m := m) (List.replicate n x)
  rwa [List.map_replicate] at this
theorem t_Delete (l : List Int) (f : FuncId) (a : Int) (p : Int → Bool) (c : Nat) (hf : ∀ u, LooksC f u a p c) (hn : l.length ≤ 1048576) :
    ∃ (tail : List Int) (d : Nat), ∀ (t u : Nat) (sl : List SV) (m : Mem) (up : List SV) (nx : Nat), m t = some (.row 1 (cl .i64 l)) → m u = some (.box [.int .i64 a]) → u ≠ t →
      runThru (X tab) tab 131 [.v false [.sl t [] 0 l.length], .v false [.fn f [u]]] ⟨⟨sl, m, up⟩, nx⟩ = some (.v false [.sl t [] 0 (l.filter fun x => !p x).length], ⟨⟨sl, upd m t (some (.row 1 (cl .i64 ((l.filter fun x => !p x) ++ tail)))), up⟩, nx + d⟩) := by
  cases h : fidx p 0 l with
  | none =>
    refine ⟨[], 576 + dI c none, fun t u sl m up nx ht hu htu => ?_⟩
    have h1 := fun sl up nx => t_IndexC l t u f a p c (hf u) hn sl m up nx ht hu
    simp only [h] at h1
    rw [fidx_all h, List.append_nil, upd_self ht]
    unfold runThru
    simp (maxSteps := 4000000) -implicitDefEqProofs [tab131, a131, x_seq, x_cond, x_block, x_region, x_skip, x_exit, x_ret, head_id, runG, runOps, doOp, wantB, stepOp, AO.eff, pureOp, St.get, St.one, St.num, St.put, St.optNum, binA, binInt, List.take, List.drop, getAll, h1, resOf, resSV, Nat.add_assoc, dI]
  | some j =>
    obtain ⟨_, y, r, hd, hy, hF⟩ := fidx_split h
    rw [Nat.sub_zero] at hd hF
    have hj := drop_lt hd
    obtain ⟨s1, s2, s3⟩ := delF_spec p r j l (by have := congrArg List.length hd; simp at this; omega)
    have hdr : l.drop (j + 1) = r := drop_next hd
    have hk : (l.filter fun x => !p x).length = (delF p j l r).1 := by rw [hF, s1]; simp; omega
    have hk2 : (delF p j l r).1 ≤ l.length := by rw [← hk]; exact List.length_filter_le _ _
    refine ⟨List.replicate (l.length - (delF p j l r).1) 0, 1408 + dI c (some j), fun t u sl m up nx ht hu htu => ?_⟩
    have h1 := fun sl up nx => t_IndexC l t u f a p c (hf u) hn sl m up nx ht hu
    simp only [h] at h1
    have hlp := fun up nx x hx => loop_Delete l t u f a p c (hf u) hn m up nx j htu hu hj (x := x) hx
    rw [hdr] at hlp
    rw [hk, hF, ← s3]
    have w1 : IntKind.i64.wrap ((j : Int) + 1) = ((j + 1 : Nat) : Int) := by rw [wrap_id (by omega) (by omega)]; omega
    have w2 : ((j : Int) == -1) = false := by rw [beq_eq_false_iff_ne]; omega
    generalize delF p j l r = q at *
    obtain ⟨qi, qr⟩ := q
    simp only at hk hk2 s2 hlp ⊢
    have z1 : (qi : Int) ≤ (l.length : Int) := by omega
    have z2 : ∀ q : Option Ob, upd m t q t = q := fun q => by simp [upd]
    unfold runThru
    simp (maxSteps := 4000000) -implicitDefEqProofs [tab131, a131, x_seq, x_cond, x_block, x_region, x_skip, x_exit, x_ret, head_id, runG, runOps, doOp, wantB, stepOp, AO.eff, pureOp, St.get, St.one, St.num, St.put, St.optNum, binA, binInt, List.take, List.drop, getAll, h1, w1, w2, -Int.natCast_add]
    rw [hlp (sl ++ up) (nx + 64 + 256 + dI c (some j) + 128 + 192) _ (by
      change _ = _
      rw [show SD t u f l.length m (sl ++ up) (nx + 64 + 256 + dI c (some j) + 128 + 192) (j, j + 1, l) = ⟨⟨[.v false [.sl t [] 0 l.length], .v false [.fn f [u]], .bad, .bad, .bad, .v false [.int .i64 (j)], .v false [.int .i64 ((j + 1 : Nat))], .bad, .bad, .bad, .bad, .bad, .bad, .bad, .bad, .bad, .bad, .bad, .bad, .bad, .bad, .bad, .bad, .bad, .bad, .bad, .bad, .bad, .bad, .bad, .bad, .bad, .bad, .bad, .bad, .bad, .bad, .bad, .bad, .bad, .bad, .bad], m, sl ++ up⟩, nx + 64 + 256 + dI c (some j) + 128 + 192⟩ by simp only [SD, upd_self ht]]
      kernel_rfl)]
    have z3 : ¬ (l.length - qi = 0) := by
      have e1 : (r.filter fun x => !p x).length ≤ r.length := List.length_filter_le _ _
      have e2 := congrArg List.length hd
      simp at e2 s1
      omega
    have z3' : 0 < l.length - qi := by omega
    have z4 : qi + (l.length - qi) = l.length := by omega
    have z5 : spl (cl .i64 (List.replicate (l.length - qi) 0)) qi (cl .i64 qr) = cl .i64 (qr.take qi ++ List.replicate (l.length - qi) 0) := by
      unfold spl
      rw [cl_take, cl_drop, cl_length, cl_app, cl_app, List.length_replicate, z4, ← s2, List.drop_length, List.append_nil]
    simp (maxSteps := 4000000) -implicitDefEqProofs [ZD, x_seq, x_cond, x_block, x_region, x_skip, x_exit, x_ret, head_id, runG, runOps, doOp, wantB, stepOp, AO.eff, pureOp, St.get, St.one, St.num, St.put, St.optNum, binA, binInt, List.take, List.drop, cutB, szOk, z1, z2, z3, z3', z4, z5, effOp2, clrSt, stoRow, cellsAt, reps_ints, cells_rep, scalar_int, updAt, cl_length, s2, upd_upd, resOf, resSV, Nat.add_assoc]
    omega
def without (l : List Int) (a : Int) : List Int := l.filter fun x => !(x == a)
theorem r_Clear_nil (a : Int) : runRO (X tab) tab 113 [.v false [.ro 0 []], .v false [.int .i64 a]] = some (.v false [.nil], []) := runRO_mono (exec_le_X 60) (by kernel_rfl)
theorem r_Clear (l : List Int) (hl : l ≠ []) (hn : l.length ≤ 1048576) (a : Int) : ∃ tail, runRO (X tab) tab 113 [.v false [.ro l.length (cl .i64 l)], .v false [.int .i64 a]] = some (.v false [.sl 0 [] 0 (without l a).length], [.row 1 (cl .i64 (without l a ++ tail))]) := by
  obtain ⟨tail, d, h⟩ := t_Delete l 132 a (fun y => y == a) 320 (fun u => f_Clear u a) hn
  refine ⟨tail, ?_⟩
  have h9 := r_CloneI l hl hn
  change ∀ (t u : Nat) (sl : List SV) (m : Mem) (up : List SV) (nx : Nat), m t = some (.row 1 (cl .i64 l)) → m u = some (.box [.int .i64 a]) → u ≠ t →
      runThru (X tab) tab 131 [.v false [.sl t [] 0 l.length], .v false [.fn 132 [u]]] ⟨⟨sl, m, up⟩, nx⟩ = some (.v false [.sl t [] 0 (without l a).length], ⟨⟨sl, upd m t (some (.row 1 (cl .i64 (without l a ++ tail)))), up⟩, nx + d⟩) at h
  generalize without l a ++ tail = W at *
  generalize without l a = V at *
  unfold runRO
  simp (maxSteps := 4000000) -implicitDefEqProofs [tab113, a113, x_seq, x_cond, x_block, x_region, x_skip, x_exit, x_ret, head_id, runG, runOps, doOp, wantB, stepOp, AO.eff, pureOp, St.get, St.one, St.num, St.put, St.optNum, binA, binInt, List.take, List.drop, callRO, addMem_nil, roArgs, roL, roA, srcCells, A1.ownB, addMem, shift, ren, SV.map, Ob.map, Ob.noRo, SV.noRo, A1.noRo, List.range, List.range.loop, resOf, resSV, SV.map, SV.ids, A1.ids, reach, allObs, ren, pos, Ob.map, St.canon, memL, List.range, List.range.loop, effOp2, effOp, getAll, St.boxes, boxOf, h9, h, upd]
theorem rest_app (ts : List Nat) (m : Mem) (k : Nat) : rest ts m k = (if k ∈ ts then none else m k).map (Ob.map (kill ts)) := rfl
theorem freshB_rest {ts : List Nat} {m : Mem} {d : Nat} (h : freshB m d = true) : freshB (rest ts m) d = true := by
  simp only [freshB, List.all_eq_true]
  intro i hi
  rw [rest_app, freshB_spec h (List.mem_range.1 hi)]
  split <;> rfl
theorem without_length (l : List Int) (a : Int) : (without l a).length ≤ l.length := List.length_filter_le _ _
theorem hotOk_len {l : List Int} (h : hotOk l = true) : l.length ≤ 2 := by
  simp only [hotOk, Bool.and_eq_true, decide_eq_true_eq] at h
  exact h.2
def touchOk (l : List Int) (c : Int) : Bool := hotOk l && decide (0 ≤ extOf c)
def touchAll (l : List Int) (c : Int) : List Int := extOf c :: without l (extOf c)
def touchX (o : List Int) : Int := if 2 < o.length then o.getD 2 0 else -1
theorem r_Touch_bad (l : List Int) (hn : l.length ≤ 1048576) (c : Int) (h : touchOk l c = false) : runRO (X tab) tab 55 [.v false [.ro l.length (cl .i64 l)], .v false [.int .i64 c]] =
    if l = [] then some (.tup [(false, [.nil]), (false, [.int .i64 (-1)])], []) else some (.tup [(false, [.sl 0 [] 0 l.length]), (false, [.int .i64 (-1)])], [.row 1 (cl .i64 l)]) := by
  have h1 := r_HotOk l hn
  have h2 := r_ExtOf c
  have hc : hotOk l = true → extOf c < 0 := by
    intro hh
    rw [touchOk, hh, Bool.true_and, decide_eq_false_iff_not] at h
    omega
  unfold runRO
  by_cases he : l = []
  · have h9 := r_CloneI_nil
    subst he
    simp only [List.length_nil, cl_nil, if_true] at h1 ⊢
    cases hh : hotOk [] with
    | false =>
      rw [hh] at h1
      simp (maxSteps := 4000000) -implicitDefEqProofs [tab55, a55, x_seq, x_cond, x_block, x_region, x_skip, x_exit, x_ret, head_id, runG, runOps, doOp, wantB, stepOp, AO.eff, pureOp, St.get, St.one, St.num, St.put, St.optNum, binA, binInt, List.take, List.drop, callRO, addMem_nil, roArgs, roL, roA, srcCells, A1.ownB, addMem, shift, ren, SV.map, Ob.map, Ob.noRo, SV.noRo, A1.noRo, List.range, List.range.loop, resOf, resSV, SV.map, SV.ids, A1.ids, reach, allObs, ren, pos, Ob.map, St.canon, memL, List.range, List.range.loop, h1, h2, h9]
    | true =>
      rw [hh] at h1
      have := hc hh
      simp (maxSteps := 4000000) -implicitDefEqProofs [tab55, a55, x_seq, x_cond, x_block, x_region, x_skip, x_exit, x_ret, head_id, runG, runOps, doOp, wantB, stepOp, AO.eff, pureOp, St.get, St.one, St.num, St.put, St.optNum, binA, binInt, List.take, List.drop, callRO, addMem_nil, roArgs, roL, roA, srcCells, A1.ownB, addMem, shift, ren, SV.map, Ob.map, Ob.noRo, SV.noRo, A1.noRo, List.range, List.range.loop, resOf, resSV, SV.map, SV.ids, A1.ids, reach, allObs, ren, pos, Ob.map, St.canon, memL, List.range, List.range.loop, h1, h2, h9, this]
  · have h9 := r_CloneI l he hn
    rw [if_neg he]
    cases hh : hotOk l with
    | false =>
      rw [hh] at h1
      simp (maxSteps := 4000000) -implicitDefEqProofs [tab55, a55, x_seq, x_cond, x_block, x_region, x_skip, x_exit, x_ret, head_id, runG, runOps, doOp, wantB, stepOp, AO.eff, pureOp, St.get, St.one, St.num, St.put, St.optNum, binA, binInt, List.take, List.drop, callRO, addMem_nil, roArgs, roL, roA, srcCells, A1.ownB, addMem, shift, ren, SV.map, Ob.map, Ob.noRo, SV.noRo, A1.noRo, List.range, List.range.loop, resOf, resSV, SV.map, SV.ids, A1.ids, reach, allObs, ren, pos, Ob.map, St.canon, memL, List.range, List.range.loop, h1, h2, h9]
    | true =>
      rw [hh] at h1
      have := hc hh
      simp (maxSteps := 4000000) -implicitDefEqProofs [tab55, a55, x_seq, x_cond, x_block, x_region, x_skip, x_exit, x_ret, head_id, runG, runOps, doOp, wantB, stepOp, AO.eff, pureOp, St.get, St.one, St.num, St.put, St.optNum, binA, binInt, List.take, List.drop, callRO, addMem_nil, roArgs, roL, roA, srcCells, A1.ownB, addMem, shift, ren, SV.map, Ob.map, Ob.noRo, SV.noRo, A1.noRo, List.range, List.range.loop, resOf, resSV, SV.map, SV.ids, A1.ids, reach, allObs, ren, pos, Ob.map, St.canon, memL, List.range, List.range.loop, h1, h2, h9, this]
theorem r_Touch (l : List Int) (c : Int) (h : touchOk l c = true) : ∃ tail, runRO (X tab) tab 55 [.v false [.ro l.length (cl .i64 l)], .v false [.int .i64 c]] =
    some (.tup [(false, [.sl 0 [] 0 ((touchAll l c).take 2).length]), (false, [.int .i64 (touchX (touchAll l c))])], [.row 1 (cl .i64 ((touchAll l c).take 2 ++ tail))]) := by
  simp only [touchOk, Bool.and_eq_true, decide_eq_true_eq] at h
  have hlen := hotOk_len h.1
  have h1 := r_HotOk l (by omega)
  rw [h.1] at h1
  have h2 := r_ExtOf c
  have hw := without_length l (extOf c)
  have hneg : ¬ extOf c < 0 := by omega
  unfold touchAll
  generalize extOf c = e at *
  by_cases he : l = []
  · subst he
    have h3 := r_Clear_nil e
    refine ⟨[], ?_⟩
    unfold runRO
    simp only [List.length_nil, cl_nil] at h1 ⊢
    simp (maxSteps := 4000000) -implicitDefEqProofs [tab55, a55, x_seq, x_cond, x_block, x_region, x_skip, x_exit, x_ret, head_id, runG, runOps, doOp, wantB, stepOp, AO.eff, pureOp, St.get, St.one, St.num, St.put, St.optNum, binA, binInt, List.take, List.drop, callRO, addMem_nil, roArgs, roL, roA, srcCells, A1.ownB, addMem, shift, ren, SV.map, Ob.map, Ob.noRo, SV.noRo, A1.noRo, List.range, List.range.loop, resOf, resSV, SV.map, SV.ids, A1.ids, reach, allObs, ren, pos, Ob.map, St.canon, memL, List.range, List.range.loop, effOp2, effOp, memL_app, stoRow, cellsAt, toCells, toCell, scalar_int, scalar_bool, scalar_str, scalar_sl, updAt, fromRo, upd, srcCells, A1.slB, flat_int, cl_flat', St.parts, Eng.inB, reps, fillA, newRowSt, appSt, oldOf, rest_app, kill, SV.map, Ob.map, h1, h2, h3, hneg, without, touchX, cl_cons, cl_nil]
  · obtain ⟨tl, h3⟩ := r_Clear l he (by omega) e
    generalize hV : without l e = V at *
    have hV2 : V.length ≤ 2 := by omega
    match V, hV2 with
    | [], _ =>
      refine ⟨[], ?_⟩
      unfold runRO
      simp (maxSteps := 4000000) -implicitDefEqProofs [tab55, a55, x_seq, x_cond, x_block, x_region, x_skip, x_exit, x_ret, head_id, runG, runOps, doOp, wantB, stepOp, AO.eff, pureOp, St.get, St.one, St.num, St.put, St.optNum, binA, binInt, List.take, List.drop, callRO, addMem_nil, roArgs, roL, roA, srcCells, A1.ownB, addMem, shift, ren, SV.map, Ob.map, Ob.noRo, SV.noRo, A1.noRo, List.range, List.range.loop, resOf, resSV, SV.map, SV.ids, A1.ids, reach, allObs, ren, pos, Ob.map, St.canon, memL, List.range, List.range.loop, effOp2, effOp, memL_app, stoRow, cellsAt, toCells, toCell, scalar_int, scalar_bool, scalar_str, scalar_sl, updAt, fromRo, upd, srcCells, A1.slB, flat_int, cl_flat', St.parts, Eng.inB, reps, fillA, newRowSt, appSt, oldOf, rest_app, kill, SV.map, Ob.map, h1, h2, h3, hneg, touchX, cl_cons, cl_nil]
    | [p], _ =>
      refine ⟨[], ?_⟩
      unfold runRO
      simp (maxSteps := 4000000) -implicitDefEqProofs [tab55, a55, x_seq, x_cond, x_block, x_region, x_skip, x_exit, x_ret, head_id, runG, runOps, doOp, wantB, stepOp, AO.eff, pureOp, St.get, St.one, St.num, St.put, St.optNum, binA, binInt, List.take, List.drop, callRO, addMem_nil, roArgs, roL, roA, srcCells, A1.ownB, addMem, shift, ren, SV.map, Ob.map, Ob.noRo, SV.noRo, A1.noRo, List.range, List.range.loop, resOf, resSV, SV.map, SV.ids, A1.ids, reach, allObs, ren, pos, Ob.map, St.canon, memL, List.range, List.range.loop, effOp2, effOp, memL_app, stoRow, cellsAt, toCells, toCell, scalar_int, scalar_bool, scalar_str, scalar_sl, updAt, fromRo, upd, srcCells, A1.slB, flat_int, cl_flat', St.parts, Eng.inB, reps, fillA, newRowSt, appSt, oldOf, rest_app, kill, SV.map, Ob.map, h1, h2, h3, hneg, touchX, cl_cons, cl_nil]
    | [p, q], _ =>
      refine ⟨[q], ?_⟩
      unfold runRO
      simp (maxSteps := 4000000) -implicitDefEqProofs [tab55, a55, x_seq, x_cond, x_block, x_region, x_skip, x_exit, x_ret, head_id, runG, runOps, doOp, wantB, stepOp, AO.eff, pureOp, St.get, St.one, St.num, St.put, St.optNum, binA, binInt, List.take, List.drop, gOp, gOp0, gOpL, gResL, updO, gRes, gEff, addObs_nil, addObs_one, freshB_memL, freshB_none, freshB_upd, freshB_addMem, freshB_addObs, callRO, addMem_nil, roArgs, roL, roA, srcCells, A1.ownB, addMem, shift, ren, SV.map, Ob.map, Ob.noRo, SV.noRo, A1.noRo, List.range, List.range.loop, resOf, resSV, SV.map, SV.ids, A1.ids, reach, allObs, ren, pos, Ob.map, St.canon, memL, List.range, List.range.loop, effOp2, effOp, memL_app, stoRow, cellsAt, toCells, toCell, scalar_int, scalar_bool, scalar_str, scalar_sl, updAt, fromRo, upd, srcCells, A1.slB, flat_int, cl_flat', St.parts, Eng.inB, reps, fillA, newRowSt, appSt, oldOf, rest_app, kill, SV.map, Ob.map, freshB_rest, cutB, szOk, readOwn, fromOwn, h1, h2, h3, hneg, touchX, cl_cons, cl_nil]
theorem r_sTouch_bad (l : List Int) (hn : l.length ≤ 1048576) (c : Int) (h : touchOk l c = false) : runRO (X tab) tab 56 [.v false [.ro l.length (cl .i64 l)], .v false [.int .i64 c]] =
    some (.tup [(false, [.sl 0 [] 0 l.length]), (false, [.int .i64 (-1)])], [.row 1 (cl .i64 l)]) := by
  have h1 := r_sHotOk l hn
  have h2 := r_sExtOf c
  have hc : hotOk l = true → extOf c < 0 := by
    intro hh
    rw [touchOk, hh, Bool.true_and, decide_eq_false_iff_not] at h
    omega
  have e1 : l.length * 8 ≤ 140737488355328 := by omega
  unfold runRO
  by_cases he : l = []
  · subst he
    simp only [List.length_nil, cl_nil] at h1 ⊢
    cases hh : hotOk [] with
    | false =>
      rw [hh] at h1
      simp (maxSteps := 4000000) -implicitDefEqProofs [tab56, a56, x_seq, x_cond, x_block, x_region, x_skip, x_exit, x_ret, head_id, runG, runOps, doOp, wantB, stepOp, AO.eff, pureOp, St.get, St.one, St.num, St.put, St.optNum, binA, binInt, List.take, List.drop, callRO, addMem_nil, roArgs, roL, roA, srcCells, A1.ownB, addMem, shift, ren, SV.map, Ob.map, Ob.noRo, SV.noRo, A1.noRo, List.range, List.range.loop, resOf, resSV, SV.map, SV.ids, A1.ids, reach, allObs, ren, pos, Ob.map, St.canon, memL, List.range, List.range.loop, effOp2, effOp, memL_app, stoRow, cellsAt, toCells, toCell, scalar_int, scalar_bool, scalar_str, scalar_sl, updAt, fromRo, upd, srcCells, A1.slB, flat_int, cl_flat', St.parts, Eng.inB, reps, fillA, newRowSt, appSt, oldOf, rest, kill, mapMem, SV.map, Ob.map, h1, h2]
    | true =>
      rw [hh] at h1
      have := hc hh
      simp (maxSteps := 4000000) -implicitDefEqProofs [tab56, a56, x_seq, x_cond, x_block, x_region, x_skip, x_exit, x_ret, head_id, runG, runOps, doOp, wantB, stepOp, AO.eff, pureOp, St.get, St.one, St.num, St.put, St.optNum, binA, binInt, List.take, List.drop, callRO, addMem_nil, roArgs, roL, roA, srcCells, A1.ownB, addMem, shift, ren, SV.map, Ob.map, Ob.noRo, SV.noRo, A1.noRo, List.range, List.range.loop, resOf, resSV, SV.map, SV.ids, A1.ids, reach, allObs, ren, pos, Ob.map, St.canon, memL, List.range, List.range.loop, effOp2, effOp, memL_app, stoRow, cellsAt, toCells, toCell, scalar_int, scalar_bool, scalar_str, scalar_sl, updAt, fromRo, upd, srcCells, A1.slB, flat_int, cl_flat', St.parts, Eng.inB, reps, fillA, newRowSt, appSt, oldOf, rest, kill, mapMem, SV.map, Ob.map, h1, h2, this]
  · have e3 : ¬ l.length = 0 := fun e => he (List.eq_nil_of_length_eq_zero e)
    cases hh : hotOk l with
    | false =>
      rw [hh] at h1
      simp (maxSteps := 4000000) -implicitDefEqProofs [tab56, a56, x_seq, x_cond, x_block, x_region, x_skip, x_exit, x_ret, head_id, runG, runOps, doOp, wantB, stepOp, AO.eff, pureOp, St.get, St.one, St.num, St.put, St.optNum, binA, binInt, List.take, List.drop, callRO, addMem_nil, roArgs, roL, roA, srcCells, A1.ownB, addMem, shift, ren, SV.map, Ob.map, Ob.noRo, SV.noRo, A1.noRo, List.range, List.range.loop, resOf, resSV, SV.map, SV.ids, A1.ids, reach, allObs, ren, pos, Ob.map, St.canon, memL, List.range, List.range.loop, effOp2, effOp, memL_app, stoRow, cellsAt, toCells, toCell, scalar_int, scalar_bool, scalar_str, scalar_sl, updAt, fromRo, upd, srcCells, A1.slB, flat_int, cl_flat', St.parts, Eng.inB, reps, fillA, newRowSt, appSt, oldOf, rest, kill, mapMem, SV.map, Ob.map, h1, h2, e1, e3, he, cl_self, cl_length, cl_flat]
    | true =>
      rw [hh] at h1
      have := hc hh
      simp (maxSteps := 4000000) -implicitDefEqProofs [tab56, a56, x_seq, x_cond, x_block, x_region, x_skip, x_exit, x_ret, head_id, runG, runOps, doOp, wantB, stepOp, AO.eff, pureOp, St.get, St.one, St.num, St.put, St.optNum, binA, binInt, List.take, List.drop, callRO, addMem_nil, roArgs, roL, roA, srcCells, A1.ownB, addMem, shift, ren, SV.map, Ob.map, Ob.noRo, SV.noRo, A1.noRo, List.range, List.range.loop, resOf, resSV, SV.map, SV.ids, A1.ids, reach, allObs, ren, pos, Ob.map, St.canon, memL, List.range, List.range.loop, effOp2, effOp, memL_app, stoRow, cellsAt, toCells, toCell, scalar_int, scalar_bool, scalar_str, scalar_sl, updAt, fromRo, upd, srcCells, A1.slB, flat_int, cl_flat', St.parts, Eng.inB, reps, fillA, newRowSt, appSt, oldOf, rest, kill, mapMem, SV.map, Ob.map, h1, h2, e1, e3, he, this, cl_self, cl_length, cl_flat]
def S_sTouch (l : List Int) (e : Int) (s : Nat × List Int) : XS := ⟨⟨[.v false [.ro l.length (cl .i64 l)], .bad, .bad, .bad, .bad, .bad, .v false [.int .i64 (e)], .v false [.sl 0 [] 0 s.2.length], .v false [.int .i64 (s.1)], .bad, .bad, .bad, .bad, .bad, .bad, .bad, .bad, .bad, .bad, .bad, .bad, .bad, .bad, .bad, .bad, .bad, .bad, .bad, .bad, .bad, .bad, .bad, .bad, .bad, .bad, .bad, .bad, .bad, .bad, .bad, .bad, .bad, .bad, .bad, .bad, .bad, .bad, .bad, .bad, .bad, .bad, .bad, .bad], memL [some (.row 1 (cl .i64 s.2))], []⟩, 1⟩
def Z_sTouch (o : List Int) : XS := ⟨⟨[.bad, .bad, .bad, .bad, .bad, .bad, .bad, .v false [.sl 0 [] 0 o.length], .bad, .bad, .bad, .bad, .bad, .bad, .bad, .bad, .bad, .bad, .bad, .bad, .bad, .bad, .bad, .bad, .bad, .bad, .bad, .bad, .bad, .bad, .bad, .bad, .bad, .bad, .bad, .bad, .bad, .bad, .bad, .bad, .bad, .bad, .bad, .bad, .bad, .bad, .bad, .bad, .bad, .bad, .bad, .bad, .bad], memL [some (.row 1 (cl .i64 o))], []⟩, 1⟩
theorem loop_sTouch (l : List Int) (e : Int) (hn : l.length ≤ 1048576) {x : XS} (hx : head true d56_0 x = S_sTouch l e (0, [e])) : X tab l56_0 x = some (.exit 0, Z_sTouch (e :: without l e)) := by
  refine loopX (σ := Nat × List Int) (S_sTouch l e) (fun s => l.length - s.1) (fun s => s.1 ≤ l.length ∧ s.2.length ≤ s.1 + 1 ∧ s.2 ++ without (l.drop s.1) e = e :: without l e) _ (fun ⟨i, acc⟩ ⟨hi, hlen, hs⟩ => ?_) (0, [e]) ⟨Nat.zero_le _, by simp, rfl⟩ x hx
  simp only at hi hlen hs
  cases hd : l.drop i with
  | nil =>
    obtain rfl := drop_end hd hi
    rw [hd] at hs
    simp only [without, List.filter_nil, List.append_nil] at hs
    rw [show e :: without l e = acc from hs.symm]
    refine .inr ⟨?_, by simp⟩
    simp (maxSteps := 4000000) -implicitDefEqProofs [b56_0, S_sTouch, x_seq, x_cond, x_block, x_region, x_skip, x_exit, x_ret, head_id, runG, runOps, doOp, wantB, stepOp, AO.eff, pureOp, St.get, St.one, St.num, St.put, St.optNum, binA, binInt, List.take, List.drop, Z_sTouch]
    change _ = _
    kernel_rfl
  | cons y r =>
    have hi' := drop_lt hd
    have h1 : (0 ≤ (i : Int) ∧ (i : Int) < (l.length : Int)) := by omega
    have h2 := cl_at (k := .i64) hd
    have h4 := wrap_next hi' (show l.length ≤ 281474976710656 by omega)
    have h5 : (acc.length + 1) * 8 ≤ 140737488355328 := by omega
    rw [hd] at hs
    simp only [without, List.filter_cons] at hs
    cases hp : (y == e) with
    | true =>
      have hye : y = e := beq_iff_eq.1 hp
      simp only [hp, Bool.not_true, Bool.false_eq_true, if_false] at hs
      refine .inl ⟨(i + 1, acc), ?_, by simp only; omega, hi', by simp only; omega, by simp only [drop_next hd]; exact hs⟩
      simp only [S_sTouch]
      subst hye
      simp (maxSteps := 4000000) -implicitDefEqProofs [b56_0, x_seq, x_cond, x_block, x_region, x_skip, x_exit, x_ret, head_id, runG, runOps, doOp, wantB, stepOp, AO.eff, pureOp, St.get, St.one, St.num, St.put, St.optNum, binA, binInt, List.take, List.drop, fromRo, bne, h1, h2, h4, hi', -Int.natCast_add]
      change _ = _
      kernel_rfl
    | false =>
      simp only [hp, Bool.not_false, if_true] at hs
      refine .inl ⟨(i + 1, acc ++ [y]), ?_, by simp only; omega, hi', by simp; omega, by simp only [drop_next hd, List.append_assoc, List.singleton_append]; exact hs⟩
      simp only [S_sTouch, List.length_append, List.length_singleton, ← cl_app1]
      simp (maxSteps := 4000000) -implicitDefEqProofs [b56_0, x_seq, x_cond, x_block, x_region, x_skip, x_exit, x_ret, head_id, runG, runOps, doOp, wantB, stepOp, AO.eff, pureOp, St.get, St.one, St.num, St.put, St.optNum, binA, binInt, List.take, List.drop, effOp2, effOp, memL_app, stoRow, cellsAt, toCells, toCell, scalar_int, scalar_bool, scalar_str, scalar_sl, updAt, fromRo, upd, srcCells, A1.slB, flat_int, cl_flat', St.parts, Eng.inB, reps, fillA, newRowSt, appSt, oldOf, rest, kill, mapMem, SV.map, Ob.map, fromRo, bne, h1, h2, h4, h5, hp, hi', cl_length, -Int.natCast_add]
      change _ = _
      kernel_rfl
theorem r_sTouch (l : List Int) (c : Int) (h : touchOk l c = true) : runRO (X tab) tab 56 [.v false [.ro l.length (cl .i64 l)], .v false [.int .i64 c]] =
    some (.tup [(false, [.sl 0 [] 0 ((touchAll l c).take 2).length]), (false, [.int .i64 (touchX (touchAll l c))])], [.row 1 (cl .i64 ((touchAll l c).take 2))]) := by
  simp only [touchOk, Bool.and_eq_true, decide_eq_true_eq] at h
  have hlen := hotOk_len h.1
  have h1 := r_sHotOk l (by omega)
  rw [h.1] at h1
  have h2 := r_sExtOf c
  have hw := without_length l (extOf c)
  have hneg : ¬ extOf c < 0 := by omega
  unfold touchAll
  generalize extOf c = e at *
  unfold runRO
  simp (maxSteps := 4000000) -implicitDefEqProofs [tab56, a56, x_seq, x_cond, x_block, x_region, x_skip, x_exit, x_ret, head_id, runG, runOps, doOp, wantB, stepOp, AO.eff, pureOp, St.get, St.one, St.num, St.put, St.optNum, binA, binInt, List.take, List.drop, callRO, addMem_nil, roArgs, roL, roA, srcCells, A1.ownB, addMem, shift, ren, SV.map, Ob.map, Ob.noRo, SV.noRo, A1.noRo, List.range, List.range.loop, effOp2, effOp, memL_app, stoRow, cellsAt, toCells, toCell, scalar_int, scalar_bool, scalar_str, scalar_sl, updAt, fromRo, upd, srcCells, A1.slB, flat_int, cl_flat', St.parts, Eng.inB, reps, fillA, newRowSt, appSt, oldOf, rest, kill, mapMem, SV.map, Ob.map, h1, h2, hneg]
  rw [loop_sTouch l e (by omega) (by change _ = _; kernel_rfl)]
  generalize hV : without l e = V at *
  have hV2 : V.length ≤ 2 := by omega
  match V, hV2 with
  | [], _ => simp (maxSteps := 4000000) -implicitDefEqProofs [Z_sTouch, x_seq, x_cond, x_block, x_region, x_skip, x_exit, x_ret, head_id, runG, runOps, doOp, wantB, stepOp, AO.eff, pureOp, St.get, St.one, St.num, St.put, St.optNum, binA, binInt, List.take, List.drop, resOf, resSV, SV.map, SV.ids, A1.ids, reach, allObs, ren, pos, Ob.map, St.canon, memL, List.range, List.range.loop, touchX, cl_cons, cl_nil]
  | [p], _ => simp (maxSteps := 4000000) -implicitDefEqProofs [Z_sTouch, x_seq, x_cond, x_block, x_region, x_skip, x_exit, x_ret, head_id, runG, runOps, doOp, wantB, stepOp, AO.eff, pureOp, St.get, St.one, St.num, St.put, St.optNum, binA, binInt, List.take, List.drop, resOf, resSV, SV.map, SV.ids, A1.ids, reach, allObs, ren, pos, Ob.map, St.canon, memL, List.range, List.range.loop, touchX, cl_cons, cl_nil]
  | [p, q], _ => simp (maxSteps := 4000000) -implicitDefEqProofs [Z_sTouch, x_seq, x_cond, x_block, x_region, x_skip, x_exit, x_ret, head_id, runG, runOps, doOp, wantB, stepOp, AO.eff, pureOp, St.get, St.one, St.num, St.put, St.optNum, binA, binInt, List.take, List.drop, gOp, gOp0, gOpL, gResL, updO, gRes, gEff, addObs_nil, addObs_one, freshB_memL, freshB_none, freshB_upd, freshB_addMem, freshB_addObs, callRO, addMem_nil, roArgs, roL, roA, srcCells, A1.ownB, addMem, shift, ren, SV.map, Ob.map, Ob.noRo, SV.noRo, A1.noRo, List.range, List.range.loop, resOf, resSV, SV.map, SV.ids, A1.ids, reach, allObs, ren, pos, Ob.map, St.canon, memL, List.range, List.range.loop, effOp2, effOp, memL_app, stoRow, cellsAt, toCells, toCell, scalar_int, scalar_bool, scalar_str, scalar_sl, updAt, fromRo, upd, srcCells, A1.slB, flat_int, cl_flat', St.parts, Eng.inB, reps, fillA, newRowSt, appSt, oldOf, rest_app, kill, SV.map, Ob.map, cutB, szOk, readOwn, fromOwn, touchX, cl_cons, cl_nil]
end Go.Proofs.Ytdagbeihjobmjaa.Eng.R
