/- Runs read again into marks, as the program and the reference read them. -/
import Derived.Test.YtdagbeihjobmjaaBBits
namespace Go.Proofs.Ytdagbeihjobmjaa.Eng.B
set_option linter.unusedSimpArgs false
set_option linter.unusedVariables false
set_option maxHeartbeats 8000000
set_option maxRecDepth 100000
open Go.RowKit Go.Proofs

/-- One cell further. -/
def ofIn (odd : Bool) (s : List Int × Int) : List Int × Int := (if (odd && decide (s.2 < 8)) = true then s.1 ++ [s.2] else s.1, s.2 + 1)
def ofTimes (odd : Bool) : Nat → List Int × Int → List Int × Int
  | 0, s => s
  | n + 1, s => ofIn odd (ofTimes odd n s)
def oddB (i : Nat) : Bool := decide ((i : Int).tmod 2 = 1)
/-- Behind the first i counts; the whole count is held at 9 in the reference. -/
def ofSt (l : List Int) : Nat → List Int × Int
  | 0 => ([], 0)
  | i + 1 => ofTimes (oddB i) (l.getD i 0).toNat (ofSt l i)
def capS (s : List Int × Int) : List Int × Int := (s.1, if s.2 < 9 then s.2 else 9)
def spIn (odd : Bool) (s : List Int × Int) : List Int × Int := (if (odd && decide (s.2 < 8)) = true then s.1 ++ [s.2] else s.1, if s.2 + 1 < 9 then s.2 + 1 else 9)
def spTimes (odd : Bool) : Nat → List Int × Int → List Int × Int
  | 0, s => s
  | n + 1, s => spIn odd (spTimes odd n s)
def spSt (l : List Int) : Nat → List Int × Int
  | 0 => ([], 0)
  | i + 1 => spTimes (oddB i) (if l.getD i 0 < 9 then l.getD i 0 else 9).toNat (spSt l i)
theorem spIn_cap (odd : Bool) (s : List Int × Int) : spIn odd (capS s) = capS (ofIn odd s) := by
  obtain ⟨a, p⟩ := s
  unfold spIn capS ofIn
  by_cases h : p < 8
  · have h9 : p < 9 := by omega
    simp [h9, h]
  · by_cases h9 : p < 9
    · simp [h9, h]
    · have h1 : ¬ p + 1 < 9 := by omega
      simp [h9, h, h1]
theorem spTimes_cap (odd : Bool) (n : Nat) (s : List Int × Int) : spTimes odd n (capS s) = capS (ofTimes odd n s) := by
  induction n with
  | zero => rfl
  | succ n ih => simp only [spTimes, ofTimes]; rw [ih, spIn_cap]
theorem spSt_cap (l : List Int) (i : Nat) (h : ∀ j, j < i → 0 ≤ l.getD j 0 ∧ l.getD j 0 ≤ 8) : spSt l i = capS (ofSt l i) := by
  induction i with
  | zero => rfl
  | succ i ih =>
    have := h i (by omega)
    simp only [spSt, ofSt]
    rw [ih (fun j hj => h j (by omega)), if_pos (by omega), spTimes_cap]
theorem ofTimes_pos (odd : Bool) (n : Nat) (s : List Int × Int) : (ofTimes odd n s).2 = s.2 + n := by
  induction n with
  | zero => simp [ofTimes]
  | succ n ih => simp only [ofTimes, ofIn]; rw [ih]; omega
/-- The list that the cells make is no longer than the place, and no longer than eight. -/
def Short (s : List Int × Int) : Prop := 0 ≤ s.2 ∧ (s.1.length : Int) ≤ s.2 ∧ s.1.length ≤ 8
theorem ofIn_short (odd : Bool) (s : List Int × Int) (h : Short s) : Short (ofIn odd s) := by
  obtain ⟨h0, h1, h2⟩ := h
  unfold Short ofIn
  by_cases hc : (odd && decide (s.2 < 8)) = true
  · have : s.2 < 8 := by simp at hc; exact hc.2
    simp only [if_pos hc, List.length_append, List.length_singleton]
    omega
  · simp only [if_neg hc]
    omega
theorem ofTimes_short (odd : Bool) (n : Nat) (s : List Int × Int) (h : Short s) : Short (ofTimes odd n s) := by
  induction n with
  | zero => exact h
  | succ n ih => exact ofIn_short odd _ ih
theorem ofSt_short (l : List Int) (i : Nat) : Short (ofSt l i) := by
  induction i with
  | zero => simp [Short, ofSt]
  | succ i ih => exact ofTimes_short _ _ _ ih
theorem ofSt_le (l : List Int) (i : Nat) (h : ∀ j, j < i → 0 ≤ l.getD j 0 ∧ l.getD j 0 ≤ 8) : (ofSt l i).2 ≤ 8 * i := by
  induction i with
  | zero => simp [ofSt]
  | succ i ih =>
    have h1 := h i (by omega)
    have h2 := ih (fun j hj => h j (by omega))
    simp only [ofSt]
    rw [ofTimes_pos]
    omega
def Short9 (s : List Int × Int) : Prop := 0 ≤ s.2 ∧ s.2 ≤ 9 ∧ (s.1.length : Int) ≤ s.2 ∧ s.1.length ≤ 8
theorem spIn_short (odd : Bool) (s : List Int × Int) (h : Short9 s) : Short9 (spIn odd s) := by
  obtain ⟨h0, h9, h1, h2⟩ := h
  unfold Short9 spIn
  by_cases hc : (odd && decide (s.2 < 8)) = true
  · have : s.2 < 8 := by simp at hc; exact hc.2
    simp only [if_pos hc, List.length_append, List.length_singleton]
    split <;> omega
  · simp only [if_neg hc]
    split <;> omega
theorem spTimes_short (odd : Bool) (n : Nat) (s : List Int × Int) (h : Short9 s) : Short9 (spTimes odd n s) := by
  induction n with
  | zero => exact h
  | succ n ih => exact spIn_short odd _ ih
theorem spSt_short (l : List Int) (i : Nat) : Short9 (spSt l i) := by
  induction i with
  | zero => simp [Short9, spSt]
  | succ i ih => exact spTimes_short _ _ _ ih
/-- The counts of a good list of cells are each from 0 to 8 and are 8 together. -/
def sumL (l : List Int) : Int := l.foldr (· + ·) 0
theorem sumL_app (a b : List Int) : sumL (a ++ b) = sumL a + sumL b := by
  unfold sumL
  induction a with
  | nil => simp
  | cons x a ih => simp only [List.cons_append, List.foldr_cons]; rw [ih]; omega
theorem rS_sum (m : List Int) (i : Nat) : sumL (rS m i).1 + (rS m i).2.2 = i ∧ (rS m i).2.2 ≤ i ∧ ∀ x ∈ (rS m i).1, 0 ≤ x ∧ x ≤ (i : Int) := by
  induction i with
  | zero => simp [rS, sumL]
  | succ i ih =>
    obtain ⟨h1, h3, h4⟩ := ih
    simp only [rS]
    split
    · refine ⟨?_, by simp, ?_⟩
      · rw [sumL_app]
        simp only [sumL, List.foldr_cons, List.foldr_nil] at h1 ⊢
        omega
      · intro x hx
        rw [List.mem_append] at hx
        rcases hx with hx | hx
        · have := h4 x hx; omega
        · simp at hx
          omega
    · exact ⟨by simp only; omega, by simp only; omega, fun x hx => by have := h4 x hx; omega⟩
theorem runs_good (m : List Int) (h : marksOk m = true) : sumL (runs m) = 8 ∧ ∀ x ∈ runs m, 0 ≤ x ∧ x ≤ 8 := by
  obtain ⟨h1, h3, h4⟩ := rS_sum m 8
  unfold runs
  rw [if_pos h]
  constructor
  · rw [sumL_app]
    simp only [sumL, List.foldr_cons, List.foldr_nil] at h1 ⊢
    omega
  · intro x hx
    rw [List.mem_append] at hx
    rcases hx with hx | hx
    · exact h4 x hx
    · simp at hx
      omega
theorem sumL_take (l : List Int) (i : Nat) (h : i < l.length) : sumL (l.take (i + 1)) = sumL (l.take i) + l.getD i 0 := by
  rw [← List.take_append_getElem h, sumL_app]
  simp [sumL, h]
theorem ofSt_pos (l : List Int) (i : Nat) (hi : i ≤ l.length) (h : ∀ j, j < i → 0 ≤ l.getD j 0 ∧ l.getD j 0 ≤ 8) : (ofSt l i).2 = sumL (l.take i) := by
  induction i with
  | zero => simp [ofSt, sumL]
  | succ i ih =>
    have h1 := h i (by omega)
    have h2 := ih (by omega) (fun j hj => h j (by omega))
    simp only [ofSt]
    rw [ofTimes_pos, sumL_take l i (by omega)]
    omega
def ofRuns (l : List Int) : List Int × Bool := if runs (spSt l l.length).1 = l then ((spSt l l.length).1, true) else ([], false)
theorem ofRuns_len (l : List Int) : (ofRuns l).1.length ≤ 8 := by
  unfold ofRuns
  have := spSt_short l l.length
  split
  · exact this.2.2.2
  · simp
theorem getD_all {l : List Int} {p : Int → Prop} (h : ∀ x ∈ l, p x) (j : Nat) (hj : j < l.length) : p (l.getD j 0) := by
  rw [List.getD_eq_getElem?_getD, List.getElem?_eq_getElem hj]
  exact h _ (List.getElem_mem hj)
theorem ofRuns_good (l : List Int) (h : runs (spSt l l.length).1 = l) : (∀ j, j < l.length → 0 ≤ l.getD j 0 ∧ l.getD j 0 ≤ 8) ∧ (ofSt l l.length).2 = 8 ∧ (ofSt l l.length).1 = (spSt l l.length).1 := by
  have hm : marksOk (spSt l l.length).1 = true := by
    cases hm : marksOk (spSt l l.length).1 with
    | true => rfl
    | false =>
      have he : runs (spSt l l.length).1 = [] := by simp [runs, hm]
      rw [he] at h
      subst h
      simp [spSt, marksOk, mkF] at hm
  obtain ⟨h1, h2⟩ := runs_good _ hm
  rw [h] at h1 h2
  have h3 : ∀ j, j < l.length → 0 ≤ l.getD j 0 ∧ l.getD j 0 ≤ 8 := fun j hj => getD_all h2 j hj
  refine ⟨h3, ?_, ?_⟩
  · rw [ofSt_pos l _ (by omega) h3, List.take_length, h1]
  · rw [spSt_cap l _ h3]
    rfl

theorem oddB_eq (i : Nat) : ((i : Int).tmod 2 == 1) = oddB i := by unfold oddB; rw [Bool.eq_iff_iff, beq_iff_eq, decide_eq_true_eq]
theorem r_l1Min (a b : Int) : runRO (X tab) tab 114 [.v false [.int .i64 a], .v false [.int .i64 b]] = some (.v false [.int .i64 (if a < b then a else b)], []) := by
  unfold runRO
  by_cases h : a < b <;> simp (maxSteps := 4000000) -implicitDefEqProofs [tab114, a114, x_seq, x_cond, x_block, x_region, x_skip, x_exit, x_ret, head_id, runG, runOps, doOp, wantB, stepOp, AO.eff, pureOp, St.get, St.one, St.num, St.put, St.optNum, binA, binInt, List.take, List.drop, resOf, resSV, SV.map, SV.ids, A1.ids, reach, allObs, ren, pos, Ob.map, St.canon, memL, List.range, List.range.loop, h]
def allN (l : List Int) : Bool := l.all fun x => rng x 0 8
theorem allN_at {l : List Int} (h : allN l = true) (j : Nat) (hj : j < l.length) : 0 ≤ l.getD j 0 ∧ l.getD j 0 ≤ 8 :=
  getD_all (p := fun x => 0 ≤ x ∧ x ≤ 8) (fun x hx => rng_iff.1 (List.all_eq_true.1 h x hx)) j hj
/-! The program's. -/
def S_ofIn (l : List Int) (i n : Nat) (p : List Int × Int) (k : Nat) : XS := ⟨⟨[.v false [.ro l.length (cl .i64 l)], .bad, .bad, .bad, .v false [.sl 0 [] 0 p.1.length], .v false [.int .i64 (p.2)], .v false [.int .i64 (i)], .bad, .bad, .v false [.ro l.length (cl .i64 l)], .v false [.int .i64 (l.length)], .v false [.int .i64 (i)], .bad, .bad, .bad, .bad, .bad, .bad, .bad, .v false [.int .i64 (n)], .v false [.int .i64 (k)], .bad, .bad, .bad, .bad, .bad, .bad, .bad, .bad, .bad, .bad, .bad, .bad, .bad, .bad, .bad, .bad, .bad, .bad, .bad, .bad, .bad, .bad, .bad, .bad, .bad, .bad], memL [some (.row 1 (cl .i64 p.1))], []⟩, 1⟩
def Z_ofIn (l : List Int) (i : Nat) (p : List Int × Int) : XS := ⟨⟨[.v false [.ro l.length (cl .i64 l)], .bad, .bad, .bad, .v false [.sl 0 [] 0 p.1.length], .v false [.int .i64 (p.2)], .bad, .bad, .bad, .v false [.ro l.length (cl .i64 l)], .v false [.int .i64 (l.length)], .v false [.int .i64 (i)], .bad, .bad, .bad, .bad, .bad, .bad, .bad, .bad, .bad, .bad, .bad, .bad, .bad, .bad, .bad, .bad, .bad, .bad, .bad, .bad, .bad, .bad, .bad, .bad, .bad, .bad, .bad, .bad, .bad, .bad, .bad, .bad, .bad, .bad, .bad], memL [some (.row 1 (cl .i64 p.1))], []⟩, 1⟩
theorem loop_ofIn (l : List Int) (i n : Nat) (p : List Int × Int) (hp : Short p) (hp2 : p.2 ≤ 100000000) (hn : n ≤ 8) {x : XS} (hx : head true d81_1 x = S_ofIn l i n p 0) : X tab l81_1 x = some (.exit 2, Z_ofIn l i (ofTimes (oddB i) n p)) := by
  refine loopN n (fun k => S_ofIn l i n (ofTimes (oddB i) k p) k) _ (by simp) (fun k hk => ?_) ?_ (Nat.zero_le _) hx
  · have hs := ofTimes_short (oddB i) k p hp
    have hpos := ofTimes_pos (oddB i) k p
    have h1 : (k : Int) < (n : Int) := by omega
    have h4 : IntKind.i64.wrap ((k : Int) + 1) = ((k + 1 : Nat) : Int) := by rw [wrap_id (by omega) (by omega)]; omega
    have ho := oddB_eq i
    simp only [ofTimes]
    generalize ofTimes (oddB i) k p = q at hs hpos
    obtain ⟨out, at_⟩ := q
    obtain ⟨s0, s1, s2⟩ := hs
    simp only at s0 s1 s2 hpos
    have w1 : IntKind.i64.wrap (at_ + 1) = at_ + 1 := wrap_id (by omega) (by omega)
    have a1 : (out.length + 1) * 8 ≤ 140737488355328 := by omega
    have a2 : (cl .i64 out).length = out.length := cl_length
    cases hb : oddB i with
    | false =>
      rw [hb] at ho
      simp only [ofIn, Bool.false_and, Bool.false_eq_true, if_false]
      simp (maxSteps := 4000000) -implicitDefEqProofs [b81_1, S_ofIn, x_seq, x_cond, x_block, x_region, x_skip, x_exit, x_ret, head_id, runG, runOps, doOp, wantB, stepOp, AO.eff, pureOp, St.get, St.one, St.num, St.put, St.optNum, binA, binInt, List.take, List.drop, h1, h4, ho, w1]
      change _ = _
      kernel_rfl
    | true =>
      rw [hb] at ho
      by_cases h8 : at_ < 8
      · simp only [ofIn, h8, decide_true, Bool.and_self, if_true]
        simp (maxSteps := 4000000) -implicitDefEqProofs [b81_1, S_ofIn, x_seq, x_cond, x_block, x_region, x_skip, x_exit, x_ret, head_id, runG, runOps, doOp, wantB, stepOp, AO.eff, pureOp, St.get, St.one, St.num, St.put, St.optNum, binA, binInt, List.take, List.drop, effOp2, effOp, memL_app, stoRow, cellsAt, toCells, toCell, scalar_int, scalar_bool, scalar_str, scalar_sl, updAt, fromRo, upd, srcCells, A1.slB, flat_int, cl_flat', St.parts, Eng.inB, reps, fillA, newRowSt, appSt, oldOf, rest, kill, mapMem, SV.map, Ob.map, h1, h4, ho, w1, h8, a1, a2, cl_app1]
        change _ = _
        kernel_rfl
      · simp only [ofIn, h8, decide_false, Bool.and_false, Bool.false_eq_true, if_false]
        simp (maxSteps := 4000000) -implicitDefEqProofs [b81_1, S_ofIn, x_seq, x_cond, x_block, x_region, x_skip, x_exit, x_ret, head_id, runG, runOps, doOp, wantB, stepOp, AO.eff, pureOp, St.get, St.one, St.num, St.put, St.optNum, binA, binInt, List.take, List.drop, effOp2, effOp, memL_app, stoRow, cellsAt, toCells, toCell, scalar_int, scalar_bool, scalar_str, scalar_sl, updAt, fromRo, upd, srcCells, A1.slB, flat_int, cl_flat', St.parts, Eng.inB, reps, fillA, newRowSt, appSt, oldOf, rest, kill, mapMem, SV.map, Ob.map, h1, h4, ho, w1, h8]
        change _ = _
        kernel_rfl
  · simp (maxSteps := 4000000) -implicitDefEqProofs [b81_1, S_ofIn, x_seq, x_cond, x_block, x_region, x_skip, x_exit, x_ret, head_id, runG, runOps, doOp, wantB, stepOp, AO.eff, pureOp, St.get, St.one, St.num, St.put, St.optNum, binA, binInt, List.take, List.drop, Z_ofIn]
    change _ = _
    kernel_rfl
def S_of (l : List Int) (i : Nat) : XS := ⟨⟨[.v false [.ro l.length (cl .i64 l)], .bad, .bad, .bad, .v false [.sl 0 [] 0 (ofSt l i).1.length], .v false [.int .i64 ((ofSt l i).2)], .bad, .bad, .bad, .v false [.ro l.length (cl .i64 l)], .v false [.int .i64 (l.length)], .v false [.int .i64 (i)], .bad, .bad, .bad, .bad, .bad, .bad, .bad, .bad, .bad, .bad, .bad, .bad, .bad, .bad, .bad, .bad, .bad, .bad, .bad, .bad, .bad, .bad, .bad, .bad, .bad, .bad, .bad, .bad, .bad, .bad, .bad, .bad, .bad, .bad, .bad], memL [some (.row 1 (cl .i64 (ofSt l i).1))], []⟩, 1⟩
def R_of (l : List Int) (ok : Bool) : Option (AE × XS) := if ok = true then some (.exit 0, ⟨⟨[.v false [.ro l.length (cl .i64 l)], .bad, .bad, .bad, .v false [.sl 0 [] 0 (ofSt l l.length).1.length], .v false [.int .i64 ((ofSt l l.length).2)], .bad, .bad, .bad, .bad, .bad, .bad, .bad, .bad, .bad, .bad, .bad, .bad, .bad, .bad, .bad, .bad, .bad, .bad, .bad, .bad, .bad, .bad, .bad, .bad, .bad, .bad, .bad, .bad, .bad, .bad, .bad, .bad, .bad, .bad, .bad, .bad, .bad, .bad, .bad, .bad, .bad], memL [some (.row 1 (cl .i64 (ofSt l l.length).1))], []⟩, 1⟩) else some (.ret, ⟨⟨[.bad, .bad, .v false [.nil], .v false [.bool (false)], .bad, .bad, .bad, .bad, .bad, .bad, .bad, .bad, .bad, .bad, .bad, .bad, .bad, .bad, .bad, .bad, .bad, .bad, .bad, .bad, .bad, .bad, .bad, .bad, .bad, .bad, .bad, .bad, .bad, .bad, .bad, .bad, .bad, .bad, .bad, .bad, .bad, .bad, .bad, .bad, .bad, .bad, .bad], memL [], []⟩, 0⟩)
theorem loop_of (l : List Int) (hn : l.length ≤ 1048576) {x : XS} (hx : head true d81_0 x = S_of l 0) : X tab l81_0 x = R_of l (allN l) := by
  refine loopX (σ := Nat) (S_of l) (fun i => l.length - i) (fun i => i ≤ l.length ∧ (∀ j, j < i → 0 ≤ l.getD j 0 ∧ l.getD j 0 ≤ 8) ∧ allN (l.drop i) = allN l) _ (fun i ⟨hi, hall, hs⟩ => ?_) 0 ⟨Nat.zero_le _, fun j hj => by omega, rfl⟩ x hx
  rw [← hs]
  cases hl : l.drop i with
  | nil =>
    obtain rfl := drop_end hl hi
    refine .inr ⟨?_, by simp [R_of, allN]⟩
    simp (maxSteps := 4000000) -implicitDefEqProofs [b81_0, S_of, x_seq, x_cond, x_block, x_region, x_skip, x_exit, x_ret, head_id, runG, runOps, doOp, wantB, stepOp, AO.eff, pureOp, St.get, St.one, St.num, St.put, St.optNum, binA, binInt, List.take, List.drop, R_of, allN]
    change _ = _
    kernel_rfl
  | cons y r =>
    have hi' := drop_lt hl
    have hy : l.getD i 0 = y := by
      have := List.drop_eq_getElem_cons hi'
      rw [hl] at this
      simp [hi', (List.cons.inj this).1]
    have h1 : (0 ≤ (i : Int) ∧ (i : Int) < (l.length : Int)) := by omega
    have h2 := cl_at (k := .i64) hl
    have h4 := wrap_next hi' (show l.length ≤ 281474976710656 by omega)
    have h5 := r_from y 0 8
    simp only [allN, List.all_cons]
    cases hp : rng y 0 8 with
    | false =>
      rw [hp] at h5
      refine .inr ⟨?_, by simp [R_of]⟩
      simp (maxSteps := 4000000) -implicitDefEqProofs [b81_0, S_of, x_seq, x_cond, x_block, x_region, x_skip, x_exit, x_ret, head_id, runG, runOps, doOp, wantB, stepOp, AO.eff, pureOp, St.get, St.one, St.num, St.put, St.optNum, binA, binInt, List.take, List.drop, callRO, addMem_nil, roArgs, roL, roA, srcCells, A1.ownB, addMem, shift, ren, SV.map, Ob.map, Ob.noRo, SV.noRo, A1.noRo, List.range, List.range.loop, fromRo, h1, h2, h4, h5, hi', R_of]
      change _ = _
      kernel_rfl
    | true =>
      rw [hp] at h5
      have hr := rng_iff.1 hp
      obtain ⟨n, rfl⟩ : ∃ n : Nat, y = n := ⟨y.toNat, by omega⟩
      have hsh := ofSt_short l i
      have hle := ofSt_le l i hall
      have hnext : ofSt l (i + 1) = ofTimes (oddB i) n (ofSt l i) := by simp only [ofSt, hy, Int.toNat_natCast]
      have hin := fun x hx => loop_ofIn l i n (ofSt l i) hsh (by omega) (by omega) (x := x) hx
      refine .inl ⟨i + 1, ?_, by omega, hi', ?_, by rw [drop_next hl]; rfl⟩
      · simp only [S_of, hnext]
        generalize ofTimes (oddB i) n (ofSt l i) = q at hin
        generalize ofSt l i = p at hin
        simp (maxSteps := 4000000) -implicitDefEqProofs [b81_0, x_seq, x_cond, x_block, x_region, x_skip, x_exit, x_ret, head_id, runG, runOps, doOp, wantB, stepOp, AO.eff, pureOp, St.get, St.one, St.num, St.put, St.optNum, binA, binInt, List.take, List.drop, callRO, addMem_nil, roArgs, roL, roA, srcCells, A1.ownB, addMem, shift, ren, SV.map, Ob.map, Ob.noRo, SV.noRo, A1.noRo, List.range, List.range.loop, fromRo, h1, h2, h4, h5, hi']
        rw [hin _ (by change _ = _; kernel_rfl)]
        simp (maxSteps := 4000000) -implicitDefEqProofs [Z_ofIn, x_seq, x_cond, x_block, x_region, x_skip, x_exit, x_ret, head_id, runG, runOps, doOp, wantB, stepOp, AO.eff, pureOp, St.get, St.one, St.num, St.put, St.optNum, binA, binInt, List.take, List.drop, h4]
        change _ = _
        kernel_rfl
      · intro j hj
        by_cases hji : j = i
        · subst hji; rw [hy]; exact hr
        · exact hall j (by omega)
theorem runs_len (m : List Int) : (runs m).length ≤ 9 := by
  unfold runs
  have := (rS_bound m 8).1
  split
  · simp; omega
  · simp
/-- What the program answers. -/
theorem r_OfRuns (l : List Int) (hn : l.length ≤ 1048576) : runRO (X tab) tab 81 [.v false [.ro l.length (cl .i64 l)]] =
    if (ofRuns l).2 = true then some (.tup [(false, [.sl 0 [] 0 (ofRuns l).1.length]), (false, [.bool true])], [.row 1 (cl .i64 (ofRuns l).1)]) else some (.tup [(false, [.nil]), (false, [.bool false])], []) := by
  have key : ∀ b : Bool, (if runs (spSt l l.length).1 = l then true else false) = b → (ofRuns l).2 = b := by
    intro b hb
    unfold ofRuns
    by_cases h : runs (spSt l l.length).1 = l
    · rw [if_pos h] at hb ⊢; exact hb
    · rw [if_neg h] at hb ⊢; exact hb
  unfold runRO
  cases hall : allN l with
  | false =>
    have hbad : ¬ runs (spSt l l.length).1 = l := by
      intro h
      have h3 := (ofRuns_good l h).1
      have : allN l = true := by
        unfold allN
        rw [List.all_eq_true]
        intro x hx
        obtain ⟨j, hj, rfl⟩ := List.getElem_of_mem hx
        have := h3 j hj
        rw [List.getD_eq_getElem?_getD, List.getElem?_eq_getElem hj] at this
        exact rng_iff.2 this
      rw [this] at hall
      cases hall
    rw [key false (by rw [if_neg hbad])]
    simp (maxSteps := 4000000) -implicitDefEqProofs [tab81, a81, x_seq, x_cond, x_block, x_region, x_skip, x_exit, x_ret, head_id, runG, runOps, doOp, wantB, stepOp, AO.eff, pureOp, St.get, St.one, St.num, St.put, St.optNum, binA, binInt, List.take, List.drop, effOp2, effOp, memL_app, stoRow, cellsAt, toCells, toCell, scalar_int, scalar_bool, scalar_str, scalar_sl, updAt, fromRo, upd, srcCells, A1.slB, flat_int, cl_flat', St.parts, Eng.inB, reps, fillA, newRowSt, appSt, oldOf, rest, kill, mapMem, SV.map, Ob.map]
    rw [loop_of l hn (by change _ = _; kernel_rfl), hall]
    simp (maxSteps := 4000000) -implicitDefEqProofs [R_of, x_seq, x_cond, x_block, x_region, x_skip, x_exit, x_ret, head_id, runG, runOps, doOp, wantB, stepOp, AO.eff, pureOp, St.get, St.one, St.num, St.put, St.optNum, binA, binInt, List.take, List.drop, resOf, resSV, SV.map, SV.ids, A1.ids, reach, allObs, ren, pos, Ob.map, St.canon, memL, List.range, List.range.loop]
  | true =>
    have h3 : ∀ j, j < l.length → 0 ≤ l.getD j 0 ∧ l.getD j 0 ≤ 8 := fun j hj => allN_at hall j hj
    have he : (ofSt l l.length).1 = (spSt l l.length).1 := by rw [spSt_cap l _ h3]; rfl
    have hsh := ofSt_short l l.length
    have g1 := r_Runs (ofSt l l.length).1 (by have := hsh.2.2; omega)
    have hrl := runs_len (ofSt l l.length).1
    have g2 := r_SEqual (runs (ofSt l l.length).1) l (by omega)
    have u1 : (cl .i64 (ofSt l l.length).1).take (ofSt l l.length).1.length = cl .i64 (ofSt l l.length).1 := cl_self
    have u2 : (cl .i64 (runs (ofSt l l.length).1)).take (runs (ofSt l l.length).1).length = cl .i64 (runs (ofSt l l.length).1) := cl_self
    have hlo := fun x hx => loop_of l hn (x := x) hx
    rw [hall] at hlo
    simp only [R_of, if_true] at hlo
    by_cases h8 : (ofSt l l.length).2 = 8
    · rw [h8] at hlo
      by_cases h : runs (spSt l l.length).1 = l
      · rw [key true (by rw [if_pos h])]
        have hf : (ofRuns l).1 = (ofSt l l.length).1 := by unfold ofRuns; rw [if_pos h, he]
        rw [hf]
        rw [decide_eq_true (show runs (ofSt l l.length).1 = l by rw [he]; exact h)] at g2
        generalize (runs (ofSt l l.length).1) = rr at g1 g2 u2
        generalize (ofSt l l.length).1 = out at *
        simp only [if_true]
        simp (maxSteps := 4000000) -implicitDefEqProofs [tab81, a81, x_seq, x_cond, x_block, x_region, x_skip, x_exit, x_ret, head_id, runG, runOps, doOp, wantB, stepOp, AO.eff, pureOp, St.get, St.one, St.num, St.put, St.optNum, binA, binInt, List.take, List.drop, effOp2, effOp, memL_app, stoRow, cellsAt, toCells, toCell, scalar_int, scalar_bool, scalar_str, scalar_sl, updAt, fromRo, upd, srcCells, A1.slB, flat_int, cl_flat', St.parts, Eng.inB, reps, fillA, newRowSt, appSt, oldOf, rest, kill, mapMem, SV.map, Ob.map]
        rw [hlo _ (by change _ = _; kernel_rfl)]
        simp (maxSteps := 4000000) -implicitDefEqProofs [x_seq, x_cond, x_block, x_region, x_skip, x_exit, x_ret, head_id, runG, runOps, doOp, wantB, stepOp, AO.eff, pureOp, St.get, St.one, St.num, St.put, St.optNum, binA, binInt, List.take, List.drop, callRO, addMem_nil, roArgs, roL, roA, srcCells, A1.ownB, addMem, shift, ren, SV.map, Ob.map, Ob.noRo, SV.noRo, A1.noRo, List.range, List.range.loop, resOf, resSV, SV.map, SV.ids, A1.ids, reach, allObs, ren, pos, Ob.map, St.canon, memL, List.range, List.range.loop, cellsAt, memL_app, bne, g1, g2, u1, u2, cl_length]
      · rw [key false (by rw [if_neg h])]
        rw [decide_eq_false (show ¬ runs (ofSt l l.length).1 = l by rw [he]; exact h)] at g2
        generalize (runs (ofSt l l.length).1) = rr at g1 g2 u2
        generalize (ofSt l l.length).1 = out at *
        simp (maxSteps := 4000000) -implicitDefEqProofs [tab81, a81, x_seq, x_cond, x_block, x_region, x_skip, x_exit, x_ret, head_id, runG, runOps, doOp, wantB, stepOp, AO.eff, pureOp, St.get, St.one, St.num, St.put, St.optNum, binA, binInt, List.take, List.drop, effOp2, effOp, memL_app, stoRow, cellsAt, toCells, toCell, scalar_int, scalar_bool, scalar_str, scalar_sl, updAt, fromRo, upd, srcCells, A1.slB, flat_int, cl_flat', St.parts, Eng.inB, reps, fillA, newRowSt, appSt, oldOf, rest, kill, mapMem, SV.map, Ob.map]
        rw [hlo _ (by change _ = _; kernel_rfl)]
        simp (maxSteps := 4000000) -implicitDefEqProofs [x_seq, x_cond, x_block, x_region, x_skip, x_exit, x_ret, head_id, runG, runOps, doOp, wantB, stepOp, AO.eff, pureOp, St.get, St.one, St.num, St.put, St.optNum, binA, binInt, List.take, List.drop, callRO, addMem_nil, roArgs, roL, roA, srcCells, A1.ownB, addMem, shift, ren, SV.map, Ob.map, Ob.noRo, SV.noRo, A1.noRo, List.range, List.range.loop, resOf, resSV, SV.map, SV.ids, A1.ids, reach, allObs, ren, pos, Ob.map, St.canon, memL, List.range, List.range.loop, cellsAt, memL_app, bne, g1, g2, u1, u2, cl_length]
    · have hbad : ¬ runs (spSt l l.length).1 = l := fun h => h8 (ofRuns_good l h).2.1
      have h8' : ((ofSt l l.length).2 == 8) = false := beq_eq_false_iff_ne.2 h8
      rw [key false (by rw [if_neg hbad])]
      generalize (ofSt l l.length).2 = at_ at *
      generalize (ofSt l l.length).1 = out at *
      simp (maxSteps := 4000000) -implicitDefEqProofs [tab81, a81, x_seq, x_cond, x_block, x_region, x_skip, x_exit, x_ret, head_id, runG, runOps, doOp, wantB, stepOp, AO.eff, pureOp, St.get, St.one, St.num, St.put, St.optNum, binA, binInt, List.take, List.drop, effOp2, effOp, memL_app, stoRow, cellsAt, toCells, toCell, scalar_int, scalar_bool, scalar_str, scalar_sl, updAt, fromRo, upd, srcCells, A1.slB, flat_int, cl_flat', St.parts, Eng.inB, reps, fillA, newRowSt, appSt, oldOf, rest, kill, mapMem, SV.map, Ob.map]
      rw [hlo _ (by change _ = _; kernel_rfl)]
      simp (maxSteps := 4000000) -implicitDefEqProofs [x_seq, x_cond, x_block, x_region, x_skip, x_exit, x_ret, head_id, runG, runOps, doOp, wantB, stepOp, AO.eff, pureOp, St.get, St.one, St.num, St.put, St.optNum, binA, binInt, List.take, List.drop, callRO, addMem_nil, roArgs, roL, roA, srcCells, A1.ownB, addMem, shift, ren, SV.map, Ob.map, Ob.noRo, SV.noRo, A1.noRo, List.range, List.range.loop, resOf, resSV, SV.map, SV.ids, A1.ids, reach, allObs, ren, pos, Ob.map, St.canon, memL, List.range, List.range.loop, cellsAt, memL_app, bne, h8', cl_length]
/-! The reference's. -/
def S_spIn (l : List Int) (i : Nat) (p : List Int × Int) (k : Nat) : XS := ⟨⟨[.v false [.ro l.length (cl .i64 l)], .bad, .bad, .bad, .v false [.sl 0 [] 0 p.1.length], .v false [.int .i64 (p.2)], .v false [.int .i64 (i)], .v false [.int .i64 (k)], .bad, .bad, .bad, .bad, .bad, .bad, .bad, .bad, .bad, .bad, .bad, .bad, .bad, .bad, .bad, .bad, .bad, .bad, .bad, .bad, .bad, .bad, .bad, .bad, .bad, .bad, .bad, .bad, .bad, .bad, .bad, .bad, .bad, .bad, .bad, .bad, .bad], memL [some (.row 1 (cl .i64 p.1))], []⟩, 1⟩
def Z_spIn (l : List Int) (i : Nat) (p : List Int × Int) : XS := ⟨⟨[.v false [.ro l.length (cl .i64 l)], .bad, .bad, .bad, .v false [.sl 0 [] 0 p.1.length], .v false [.int .i64 (p.2)], .v false [.int .i64 (i)], .bad, .bad, .bad, .bad, .bad, .bad, .bad, .bad, .bad, .bad, .bad, .bad, .bad, .bad, .bad, .bad, .bad, .bad, .bad, .bad, .bad, .bad, .bad, .bad, .bad, .bad, .bad, .bad, .bad, .bad, .bad, .bad, .bad, .bad, .bad, .bad, .bad, .bad], memL [some (.row 1 (cl .i64 p.1))], []⟩, 1⟩
theorem loop_spIn (l : List Int) (hn : l.length ≤ 1048576) (i : Nat) (y : Int) (r : List Int) (hd : l.drop i = y :: r) (p : List Int × Int) (hp : Short9 p) {x : XS} (hx : head true d82_1 x = S_spIn l i p 0) :
    X tab l82_1 x = some (.exit 2, Z_spIn l i (spTimes (oddB i) (if y < 9 then y else 9).toNat p)) := by
  have hi' := drop_lt hd
  have h1 : (0 ≤ (i : Int) ∧ (i : Int) < (l.length : Int)) := by omega
  have h2 := cl_at (k := .i64) hd
  have h5 := r_l1Min y 9
  have hm9 : (if y < 9 then y else 9) ≤ 9 := by split <;> omega
  have hneg : (if y < 9 then y else 9) < 0 ∨ (if y < 9 then y else 9) = (((if y < 9 then y else 9).toNat : Nat) : Int) := by omega
  generalize (if y < 9 then y else 9) = mn at h5 hm9 hneg
  generalize hnn : mn.toNat = n at hneg
  have hn9 : n ≤ 9 := by omega
  refine loopN n (fun k => S_spIn l i (spTimes (oddB i) k p) k) _ (by simp) (fun k hk => ?_) ?_ (Nat.zero_le _) hx
  · have hs := spTimes_short (oddB i) k p hp
    have h3 : (k : Int) < mn := by omega
    have h4 : IntKind.i64.wrap ((k : Int) + 1) = ((k + 1 : Nat) : Int) := by rw [wrap_id (by omega) (by omega)]; omega
    have ho := oddB_eq i
    simp only [spTimes]
    generalize spTimes (oddB i) k p = q at hs
    obtain ⟨out, at_⟩ := q
    obtain ⟨s0, s9, s1, s2⟩ := hs
    simp only at s0 s9 s1 s2
    have w1 : IntKind.i64.wrap (at_ + 1) = at_ + 1 := wrap_id (by omega) (by omega)
    have h6 := r_l1Min (at_ + 1) 9
    have a1 : (out.length + 1) * 8 ≤ 140737488355328 := by omega
    have a2 : (cl .i64 out).length = out.length := cl_length
    cases hb : oddB i with
    | false =>
      rw [hb] at ho
      simp only [spIn, Bool.false_and, Bool.false_eq_true, if_false]
      generalize (if at_ + 1 < 9 then at_ + 1 else 9) = a9 at h6
      simp (maxSteps := 4000000) -implicitDefEqProofs [b82_1, S_spIn, x_seq, x_cond, x_block, x_region, x_skip, x_exit, x_ret, head_id, runG, runOps, doOp, wantB, stepOp, AO.eff, pureOp, St.get, St.one, St.num, St.put, St.optNum, binA, binInt, List.take, List.drop, callRO, addMem_nil, roArgs, roL, roA, srcCells, A1.ownB, addMem, shift, ren, SV.map, Ob.map, Ob.noRo, SV.noRo, A1.noRo, List.range, List.range.loop, fromRo, h1, h2, h3, h4, h5, h6, hi', ho, w1]
      change _ = _
      kernel_rfl
    | true =>
      rw [hb] at ho
      by_cases h8 : at_ < 8
      · simp only [spIn, h8, decide_true, Bool.and_self, if_true]
        generalize (if at_ + 1 < 9 then at_ + 1 else 9) = a9 at h6
        simp (maxSteps := 4000000) -implicitDefEqProofs [b82_1, S_spIn, x_seq, x_cond, x_block, x_region, x_skip, x_exit, x_ret, head_id, runG, runOps, doOp, wantB, stepOp, AO.eff, pureOp, St.get, St.one, St.num, St.put, St.optNum, binA, binInt, List.take, List.drop, effOp2, effOp, memL_app, stoRow, cellsAt, toCells, toCell, scalar_int, scalar_bool, scalar_str, scalar_sl, updAt, fromRo, upd, srcCells, A1.slB, flat_int, cl_flat', St.parts, Eng.inB, reps, fillA, newRowSt, appSt, oldOf, rest, kill, mapMem, SV.map, Ob.map, callRO, addMem_nil, roArgs, roL, roA, srcCells, A1.ownB, addMem, shift, ren, SV.map, Ob.map, Ob.noRo, SV.noRo, A1.noRo, List.range, List.range.loop, fromRo, h1, h2, h3, h4, h5, h6, hi', ho, w1, h8, a1, a2, cl_app1]
        change _ = _
        kernel_rfl
      · simp only [spIn, h8, decide_false, Bool.and_false, Bool.false_eq_true, if_false]
        generalize (if at_ + 1 < 9 then at_ + 1 else 9) = a9 at h6
        simp (maxSteps := 4000000) -implicitDefEqProofs [b82_1, S_spIn, x_seq, x_cond, x_block, x_region, x_skip, x_exit, x_ret, head_id, runG, runOps, doOp, wantB, stepOp, AO.eff, pureOp, St.get, St.one, St.num, St.put, St.optNum, binA, binInt, List.take, List.drop, effOp2, effOp, memL_app, stoRow, cellsAt, toCells, toCell, scalar_int, scalar_bool, scalar_str, scalar_sl, updAt, fromRo, upd, srcCells, A1.slB, flat_int, cl_flat', St.parts, Eng.inB, reps, fillA, newRowSt, appSt, oldOf, rest, kill, mapMem, SV.map, Ob.map, callRO, addMem_nil, roArgs, roL, roA, srcCells, A1.ownB, addMem, shift, ren, SV.map, Ob.map, Ob.noRo, SV.noRo, A1.noRo, List.range, List.range.loop, fromRo, h1, h2, h3, h4, h5, h6, hi', ho, w1, h8]
        change _ = _
        kernel_rfl
  · have h3 : ¬ (n : Int) < mn := by omega
    simp (maxSteps := 4000000) -implicitDefEqProofs [b82_1, S_spIn, x_seq, x_cond, x_block, x_region, x_skip, x_exit, x_ret, head_id, runG, runOps, doOp, wantB, stepOp, AO.eff, pureOp, St.get, St.one, St.num, St.put, St.optNum, binA, binInt, List.take, List.drop, callRO, addMem_nil, roArgs, roL, roA, srcCells, A1.ownB, addMem, shift, ren, SV.map, Ob.map, Ob.noRo, SV.noRo, A1.noRo, List.range, List.range.loop, fromRo, h1, h2, h3, h5, hi', Z_spIn]
    change _ = _
    kernel_rfl
def S_sp (l : List Int) (i : Nat) : XS := ⟨⟨[.v false [.ro l.length (cl .i64 l)], .bad, .bad, .bad, .v false [.sl 0 [] 0 (spSt l i).1.length], .v false [.int .i64 ((spSt l i).2)], .v false [.int .i64 (i)], .bad, .bad, .bad, .bad, .bad, .bad, .bad, .bad, .bad, .bad, .bad, .bad, .bad, .bad, .bad, .bad, .bad, .bad, .bad, .bad, .bad, .bad, .bad, .bad, .bad, .bad, .bad, .bad, .bad, .bad, .bad, .bad, .bad, .bad, .bad, .bad, .bad, .bad], memL [some (.row 1 (cl .i64 (spSt l i).1))], []⟩, 1⟩
def Z_sp (l out : List Int) : XS := ⟨⟨[.v false [.ro l.length (cl .i64 l)], .bad, .bad, .bad, .v false [.sl 0 [] 0 out.length], .bad, .bad, .bad, .bad, .bad, .bad, .bad, .bad, .bad, .bad, .bad, .bad, .bad, .bad, .bad, .bad, .bad, .bad, .bad, .bad, .bad, .bad, .bad, .bad, .bad, .bad, .bad, .bad, .bad, .bad, .bad, .bad, .bad, .bad, .bad, .bad, .bad, .bad, .bad, .bad], memL [some (.row 1 (cl .i64 out))], []⟩, 1⟩
theorem loop_sp (l : List Int) (hn : l.length ≤ 1048576) {x : XS} (hx : head true d82_0 x = S_sp l 0) : X tab l82_0 x = some (.exit 0, Z_sp l (spSt l l.length).1) := by
  refine loopN l.length (S_sp l) _ (by simp) (fun i hi => ?_) ?_ (Nat.zero_le _) hx
  · obtain ⟨y, r, hd⟩ : ∃ y r, l.drop i = y :: r := ⟨_, _, List.drop_eq_getElem_cons hi⟩
    have hy : l.getD i 0 = y := by
      have := List.drop_eq_getElem_cons hi
      rw [hd] at this
      simp [hi, (List.cons.inj this).1]
    have h1 : (0 ≤ (i : Int) ∧ (i : Int) < (l.length : Int)) := by omega
    have h4 := wrap_next hi (show l.length ≤ 281474976710656 by omega)
    have hin := fun x hx => loop_spIn l hn i y r hd (spSt l i) (spSt_short l i) (x := x) hx
    have hnext : spSt l (i + 1) = spTimes (oddB i) (if y < 9 then y else 9).toNat (spSt l i) := by simp only [spSt, hy]
    simp only [S_sp, hnext]
    generalize spTimes (oddB i) (if y < 9 then y else 9).toNat (spSt l i) = q at hin
    generalize spSt l i = p at hin
    simp (maxSteps := 4000000) -implicitDefEqProofs [b82_0, x_seq, x_cond, x_block, x_region, x_skip, x_exit, x_ret, head_id, runG, runOps, doOp, wantB, stepOp, AO.eff, pureOp, St.get, St.one, St.num, St.put, St.optNum, binA, binInt, List.take, List.drop, callRO, addMem_nil, roArgs, roL, roA, srcCells, A1.ownB, addMem, shift, ren, SV.map, Ob.map, Ob.noRo, SV.noRo, A1.noRo, List.range, List.range.loop, fromRo, h1, h4, hi]
    rw [hin _ (by change _ = _; kernel_rfl)]
    simp (maxSteps := 4000000) -implicitDefEqProofs [Z_spIn, x_seq, x_cond, x_block, x_region, x_skip, x_exit, x_ret, head_id, runG, runOps, doOp, wantB, stepOp, AO.eff, pureOp, St.get, St.one, St.num, St.put, St.optNum, binA, binInt, List.take, List.drop, h4]
    change _ = _
    kernel_rfl
  · simp (maxSteps := 4000000) -implicitDefEqProofs [b82_0, S_sp, x_seq, x_cond, x_block, x_region, x_skip, x_exit, x_ret, head_id, runG, runOps, doOp, wantB, stepOp, AO.eff, pureOp, St.get, St.one, St.num, St.put, St.optNum, binA, binInt, List.take, List.drop, Z_sp]
    change _ = _
    kernel_rfl
theorem r_sOfRuns (l : List Int) (hn : l.length ≤ 1048576) : runRO (X tab) tab 82 [.v false [.ro l.length (cl .i64 l)]] =
    some (.tup [(false, [.sl 0 [] 0 (ofRuns l).1.length]), (false, [.bool (ofRuns l).2])], [.row 1 (cl .i64 (ofRuns l).1)]) := by
  have hsh := spSt_short l l.length
  have g1 := r_sRuns (spSt l l.length).1 (by have := hsh.2.2.2; omega)
  have hrl := runs_len (spSt l l.length).1
  have g2 := r_l5Same (runs (spSt l l.length).1) l (by omega)
  have u1 : (cl .i64 (spSt l l.length).1).take (spSt l l.length).1.length = cl .i64 (spSt l l.length).1 := cl_self
  have u2 : (cl .i64 (runs (spSt l l.length).1)).take (runs (spSt l l.length).1).length = cl .i64 (runs (spSt l l.length).1) := cl_self
  have hlo := fun x hx => loop_sp l hn (x := x) hx
  unfold runRO ofRuns
  by_cases h : runs (spSt l l.length).1 = l
  · rw [if_pos h]
    rw [decide_eq_true h] at g2
    generalize (runs (spSt l l.length).1) = rr at g1 g2 u2
    generalize (spSt l l.length).1 = out at *
    simp (maxSteps := 4000000) -implicitDefEqProofs [tab82, a82, x_seq, x_cond, x_block, x_region, x_skip, x_exit, x_ret, head_id, runG, runOps, doOp, wantB, stepOp, AO.eff, pureOp, St.get, St.one, St.num, St.put, St.optNum, binA, binInt, List.take, List.drop, effOp2, effOp, memL_app, stoRow, cellsAt, toCells, toCell, scalar_int, scalar_bool, scalar_str, scalar_sl, updAt, fromRo, upd, srcCells, A1.slB, flat_int, cl_flat', St.parts, Eng.inB, reps, fillA, newRowSt, appSt, oldOf, rest, kill, mapMem, SV.map, Ob.map]
    rw [hlo _ (by change _ = _; kernel_rfl)]
    simp (maxSteps := 4000000) -implicitDefEqProofs [Z_sp, x_seq, x_cond, x_block, x_region, x_skip, x_exit, x_ret, head_id, runG, runOps, doOp, wantB, stepOp, AO.eff, pureOp, St.get, St.one, St.num, St.put, St.optNum, binA, binInt, List.take, List.drop, effOp2, effOp, memL_app, stoRow, cellsAt, toCells, toCell, scalar_int, scalar_bool, scalar_str, scalar_sl, updAt, fromRo, upd, srcCells, A1.slB, flat_int, cl_flat', St.parts, Eng.inB, reps, fillA, newRowSt, appSt, oldOf, rest, kill, mapMem, SV.map, Ob.map, callRO, addMem_nil, roArgs, roL, roA, srcCells, A1.ownB, addMem, shift, ren, SV.map, Ob.map, Ob.noRo, SV.noRo, A1.noRo, List.range, List.range.loop, resOf, resSV, SV.map, SV.ids, A1.ids, reach, allObs, ren, pos, Ob.map, St.canon, memL, List.range, List.range.loop, cellsAt, memL_app, bne, g1, g2, u1, u2, cl_length]
  · rw [if_neg h]
    rw [decide_eq_false h] at g2
    generalize (runs (spSt l l.length).1) = rr at g1 g2 u2
    generalize (spSt l l.length).1 = out at *
    simp (maxSteps := 4000000) -implicitDefEqProofs [tab82, a82, x_seq, x_cond, x_block, x_region, x_skip, x_exit, x_ret, head_id, runG, runOps, doOp, wantB, stepOp, AO.eff, pureOp, St.get, St.one, St.num, St.put, St.optNum, binA, binInt, List.take, List.drop, effOp2, effOp, memL_app, stoRow, cellsAt, toCells, toCell, scalar_int, scalar_bool, scalar_str, scalar_sl, updAt, fromRo, upd, srcCells, A1.slB, flat_int, cl_flat', St.parts, Eng.inB, reps, fillA, newRowSt, appSt, oldOf, rest, kill, mapMem, SV.map, Ob.map]
    rw [hlo _ (by change _ = _; kernel_rfl)]
    simp (maxSteps := 4000000) -implicitDefEqProofs [Z_sp, x_seq, x_cond, x_block, x_region, x_skip, x_exit, x_ret, head_id, runG, runOps, doOp, wantB, stepOp, AO.eff, pureOp, St.get, St.one, St.num, St.put, St.optNum, binA, binInt, List.take, List.drop, effOp2, effOp, memL_app, stoRow, cellsAt, toCells, toCell, scalar_int, scalar_bool, scalar_str, scalar_sl, updAt, fromRo, upd, srcCells, A1.slB, flat_int, cl_flat', St.parts, Eng.inB, reps, fillA, newRowSt, appSt, oldOf, rest, kill, mapMem, SV.map, Ob.map, callRO, addMem_nil, roArgs, roL, roA, srcCells, A1.ownB, addMem, shift, ren, SV.map, Ob.map, Ob.noRo, SV.noRo, A1.noRo, List.range, List.range.loop, resOf, resSV, SV.map, SV.ids, A1.ids, reach, allObs, ren, pos, Ob.map, St.canon, memL, List.range, List.range.loop, cellsAt, memL_app, bne, g1, g2, u1, u2, cl_length, cl_nil]
end Go.Proofs.Ytdagbeihjobmjaa.Eng.B
