/- The program's OfRuns answers as the reference's OfRuns does, for every list, with memory of its own, and leaves the list as it was. -/
import Derived.Test.YtklphaicchmmoaaPFnExactOfRunsx4
import Derived.Test.YtklphaicchmmoaaGen
namespace Go.Proofs.Ytklphaicchmmoaa.Pure
open Go.RowKit Go.Proofs.Ytklphaicchmmoaa.PFnExactOfRuns Go.Proofs.YtklphaicchmmoaaW.PrintWords Go.Proofs.YtklphaicchmmoaaW.PrintLast Go.Proofs.Ytklphaicchmmoaa.Gen
set_option linter.unusedVariables false
theorem toIntS_ev (l : List Int) (hl : l.length ≤ 35184372088832) : Ev (fun k => laws_toIntS.f k l) l := by
  refine Ev.pos (by omega) (Ev.pos (by omega) ?_)
  rw [Int.toNat_natCast]
  exact copy_ev (fun _ _ _ _ => rfl) l (by omega)
theorem eqIntS_ev (a b : List Int) (hl : a.length ≤ 35184372088832) : Ev (fun k => laws_eqIntS.f k a b) (decide (a = b)) := by
  by_cases h : a.length = b.length
  · exact Ev.pos (by omega) (eq_ev (fun _ _ _ _ => rfl) a b h (by omega))
  · refine Ev.neg (by omega) (Ev.some ?_)
    symm
    apply decide_eq_false
    rintro rfl
    exact h rfl
theorem markIntS_ev (a : List Int) (n : Int) (hn : 0 ≤ n) (hl : n + a.length ≤ 9223372036854775806) : Ev (fun k => laws_markIntS.f k a n) (n + a.length, marks id n a.length) :=
  mark_ev (m := id) (fun _ _ _ _ => rfl) a n hn hl
theorem heldIntS_ev (N : Nat) (n : Int) (hn : 0 ≤ n) (hl : n + N ≤ 9223372036854775806) : Ev (fun k => laws_heldIntS.f k (marks id n N) n) (n + N) :=
  held_ev (m := id) (fun _ _ _ _ => rfl) N n hn hl
theorem l1In_is (a b c : Int) : spec_l1In.f a b c = some (decide (b ≤ a ∧ a ≤ c)) := by
  unfold spec_l1In.f
  by_cases h : a ≥ b
  · rw [if_pos h]; simp [show b ≤ a from h]
  · rw [if_neg h]; simp [show ¬ b ≤ a from h]
theorem from_is (a b c : Int) : impl_from.f a b c = some (decide (b ≤ a ∧ a ≤ c)) := by
  unfold impl_from.f
  by_cases h : a ≥ b
  · rw [if_pos h]; simp [show b ≤ a from h]
  · rw [if_neg h]; simp [show ¬ b ≤ a from h]
theorem isCell_is (a : Int) : impl_isCell.f a = some (decide (0 ≤ a ∧ a ≤ 7)) := by unfold impl_isCell.f; rw [from_is]; rfl
def mk1 (l : List Int) (i : Nat) : Bool := decide (0 ≤ l.getD i 0 ∧ l.getD i 0 ≤ 7) && (decide (i = 0) || !decide (l.getD (i - 1) 0 ≥ l.getD i 0))
def marksOk (l : List Int) : Bool := (List.range l.length).all (mk1 l)
theorem sMarksOk_ev (l : List Int) (hl : l.length ≤ 35184372088832) : Ev (fun k => spec_MarksOk.f k l) (marksOk l) := by
  have h := all_ev (G := fun k i => spec_MarksOk.l0 k l i) (n := l.length) (p := mk1 l) (b := true) ?_ ?_ ?_
  · rw [Bool.and_true] at h; exact h
  · exact Ev.step (fun k => rfl) (Ev.neg (by omega) (Ev.some rfl))
  · intro i hi hp
    refine Ev.step (fun k => rfl) (Ev.pos (by omega) (Ev.pos (by omega) ?_))
    rw [l1In_is, rd_nat]
    simp only [Option.bind_some]
    unfold mk1 at hp
    cases h : decide (0 ≤ l.getD i 0 ∧ l.getD i 0 ≤ 7) with
    | false => exact Ev.neg (by simp) (Ev.some rfl)
    | true =>
      rw [h, Bool.true_and, Bool.or_eq_false_iff] at hp
      have h0 : i ≠ 0 := by simpa using hp.1
      refine Ev.pos rfl (Ev.pos (by omega) ?_)
      rw [wrap_pred hi (by omega) (by omega), rd_nat]
      exact Ev.pos (by omega) (Ev.pos (by omega) (Ev.pos (by simpa using hp.2) (Ev.some rfl)))
  · intro i hi hp r hr
    refine Ev.step (fun k => rfl) (Ev.pos (by omega) (Ev.pos (by omega) ?_))
    rw [l1In_is, rd_nat]
    simp only [Option.bind_some]
    unfold mk1 at hp
    rw [Bool.and_eq_true, Bool.or_eq_true] at hp
    rw [hp.1, wrap_succ hi (by omega)]
    refine Ev.pos rfl ?_
    by_cases h0 : i = 0
    · exact Ev.neg (by omega) hr
    · rw [wrap_pred hi (by omega) (by omega), rd_nat]
      exact Ev.pos (by omega) (Ev.pos (by omega) (Ev.pos (by omega) (Ev.neg (by simpa [h0] using hp.2) hr)))
theorem iMarksOk_ev (l : List Int) (hl : l.length ≤ 35184372088832) : Ev (fun k => impl_MarksOk.f k l) (marksOk l) := by
  have h := all_ev (G := fun k i => impl_MarksOk.l0 k l l (l.length : Int) i) (n := l.length) (p := mk1 l) (b := true) ?_ ?_ ?_
  · rw [Bool.and_true] at h; exact h
  · exact Ev.step (fun k => rfl) (Ev.neg (by omega) (Ev.some rfl))
  · intro i hi hp
    refine Ev.step (fun k => rfl) (Ev.pos (by omega) (Ev.pos (by omega) (Ev.pos (by omega) ?_)))
    rw [isCell_is, rd_nat]
    simp only [Option.bind_some]
    unfold mk1 at hp
    cases h : decide (0 ≤ l.getD i 0 ∧ l.getD i 0 ≤ 7) with
    | false => exact Ev.neg (by simp) (Ev.some rfl)
    | true =>
      rw [h, Bool.true_and, Bool.or_eq_false_iff] at hp
      have h0 : i ≠ 0 := by simpa using hp.1
      refine Ev.pos rfl (Ev.pos (by omega) ?_)
      rw [wrap_pred hi (by omega) (by omega), rd_nat]
      exact Ev.pos (by omega) (Ev.pos (by omega) (Ev.pos (by simpa using hp.2) (Ev.some rfl)))
  · intro i hi hp r hr
    refine Ev.step (fun k => rfl) (Ev.pos (by omega) (Ev.pos (by omega) (Ev.pos (by omega) ?_)))
    rw [isCell_is, rd_nat]
    simp only [Option.bind_some]
    unfold mk1 at hp
    rw [Bool.and_eq_true, Bool.or_eq_true] at hp
    rw [hp.1, wrap_succ hi (by omega)]
    refine Ev.pos rfl ?_
    by_cases h0 : i = 0
    · exact Ev.neg (by omega) hr
    · rw [wrap_pred hi (by omega) (by omega), rd_nat]
      exact Ev.pos (by omega) (Ev.pos (by omega) (Ev.pos (by omega) (Ev.neg (by simpa [h0] using hp.2) hr)))
theorem l2Has_ev (a : List Int) (n : Int) (hl : a.length ≤ 281474976710656) : Ev (fun k => spec_l2Has.f k a n) (a.contains n) := has_ev (fun _ _ _ _ => rfl) a n hl
theorem contains_ev (a : List Int) (n : Int) (hl : a.length ≤ 281474976710656) : Ev (fun k => slices_Contains_int_int.f k a n) (a.contains n) := by
  obtain ⟨r, hr, he⟩ := index_ev (F := slices_Index_int_int.l0) (fun _ _ _ _ _ => rfl) a n hl
  exact Ev.bind hr (Ev.some he)
def runStep (l : List Int) (s : List Int × Bool × Int) (i : Nat) : List Int × Bool × Int :=
  if (l.contains (i : Int) != s.2.1) = true then (s.1 ++ [s.2.2], !s.2.1, 0 + 1) else (s.1, s.2.1, wrap64 (s.2.2 + 1))
def runSt (l : List Int) : Nat → List Int × Bool × Int
  | 0 => ([], false, 0)
  | i + 1 => runStep l (runSt l i) i
theorem runSt_len (l : List Int) (i : Nat) : (runSt l i).1.length ≤ i := by
  induction i with
  | zero => simp [runSt]
  | succ i ih =>
    simp only [runSt, runStep]
    split
    · simp; omega
    · simp; omega
def runsOf (l : List Int) : List Int := if marksOk l = true then (runSt l 8).1 ++ [(runSt l 8).2.2] else []
theorem runsOf_len (l : List Int) : (runsOf l).length ≤ 9 := by
  unfold runsOf
  have := runSt_len l 8
  split
  · simp; omega
  · simp
theorem sRuns_ev (l : List Int) (hl : l.length ≤ 35184372088832) : Ev (fun k => spec_Runs.f k l) (runsOf l) := by
  refine Ev.bind (Ev.now _) (Ev.bind (sMarksOk_ev l hl) ?_)
  unfold runsOf
  cases marksOk l
  · exact Ev.neg (by simp) (Ev.some (by simp))
  · refine Ev.pos rfl ?_
    refine fold_ev (G := fun k (s : List Int × Bool × Int) i => spec_Runs.l0 k l s.1 s.2.1 s.2.2 i) (n := 8) (st := runSt l) ?_ ?_
    · have := runSt_len l 8
      refine Ev.step (fun k => rfl) (Ev.neg (by omega) (Ev.pos (by omega) (Ev.some (by simp))))
    · intro i hi r hr
      have h8 := runSt_len l i
      refine Ev.step (fun k => rfl) (Ev.pos (by omega) (Ev.bind (l2Has_ev l i (by omega)) ?_))
      rw [wrap_succ hi (by omega)]
      simp only [runSt, runStep] at hr
      by_cases h : (l.contains (i : Int) != (runSt l i).2.1) = true
      · rw [if_pos h] at hr
        exact Ev.pos h (Ev.pos (by omega) hr)
      · rw [if_neg h] at hr
        exact Ev.neg h hr
theorem iRuns_ev (l : List Int) (hl : l.length ≤ 35184372088832) : Ev (fun k => impl_Runs.f k l) (runsOf l) := by
  refine Ev.bind (Ev.now _) (Ev.bind (iMarksOk_ev l hl) ?_)
  unfold runsOf
  cases marksOk l
  · exact Ev.neg (by simp) (Ev.some (by simp))
  · refine Ev.pos rfl ?_
    refine fold_ev (G := fun k (s : List Int × Bool × Int) i => impl_Runs.l0 k l s.1 s.2.1 s.2.2 i) (n := 8) (st := runSt l) ?_ ?_
    · have := runSt_len l 8
      refine Ev.step (fun k => rfl) (Ev.neg (by omega) (Ev.pos (by omega) (Ev.some (by simp))))
    · intro i hi r hr
      have h8 := runSt_len l i
      refine Ev.step (fun k => rfl) (Ev.pos (by omega) (Ev.bind (contains_ev l i (by omega)) ?_))
      rw [wrap_succ hi (by omega)]
      simp only [runSt, runStep] at hr
      by_cases h : (l.contains (i : Int) != (runSt l i).2.1) = true
      · rw [if_pos h] at hr
        exact Ev.pos h (Ev.pos (by omega) hr)
      · rw [if_neg h] at hr
        exact Ev.neg h hr
theorem slEqual_ev (a b : List Int) (hl : a.length ≤ 281474976710656) : Ev (fun k => slices_Equal_int_int.f k a b) (decide (a = b)) := by
  by_cases h : a.length = b.length
  · refine Ev.pos (by omega) ?_
    have key : ∀ (d i : Nat) (hi : i ≤ a.length) (hd : a.length - i = d) (hp : a.take i = b.take i), Ev (fun k => slices_Equal_int_int.l0 k a b (a.length : Int) (i : Int)) (decide (a = b)) := by
      intro d
      induction d with
      | zero =>
        intro i hi hd hp
        refine Ev.step (fun k => rfl) (Ev.neg (by omega) (Ev.some ?_))
        have : i = a.length := by omega
        subst this
        rw [List.take_length, h, List.take_length] at hp
        simp [hp]
      | succ d ih =>
        intro i hi hd hp
        refine Ev.step (fun k => rfl) (Ev.pos (by omega) (Ev.pos (by omega) (Ev.pos (by omega) (Ev.pos (by omega) ?_))))
        rw [wrap_succ (n := a.length) (by omega) hl, rd_get (by omega), rd_get (by omega)]
        by_cases hh : a[i] = b[i]
        · refine Ev.pos hh (ih (i + 1) (by omega) (by omega) ?_)
          rw [← List.take_append_getElem (by omega : i < a.length), ← List.take_append_getElem (by omega : i < b.length), hp, hh]
        · refine Ev.neg hh (Ev.some ?_)
          symm
          apply decide_eq_false
          rintro rfl
          exact hh rfl
    exact key a.length 0 (by omega) (by omega) (by simp)
  · refine Ev.neg (by omega) (Ev.some ?_)
    symm
    apply decide_eq_false
    rintro rfl
    exact h rfl
theorem l5Same_ev (a b : List Int) (hl : a.length ≤ 281474976710656) : Ev (fun k => spec_l5Same.f k a b) (decide (a = b)) := by
  have key : ∀ (d i : Nat) (hi : i ≤ a.length) (hb : i ≤ b.length) (hd : a.length - i = d) (hp : a.take i = b.take i), Ev (fun k => spec_l5Same.l0 k a b (i : Int)) (decide (a = b)) := by
    intro d
    induction d with
    | zero =>
      intro i hi hb hd hp
      refine Ev.step (fun k => spec_l5Same.l0.eq_2 ..) (Ev.neg (by omega) (Ev.step (fun k => spec_l5Same.j1.eq_2 ..) (Ev.neg (by simp) (Ev.some ?_))))
      have : i = a.length := by omega
      subst this
      rw [List.take_length] at hp
      by_cases he : a.length = b.length
      · rw [he, List.take_length] at hp
        simp [hp]
      · rw [decide_eq_false (fun e => he (by rw [e]))]
        simp; omega
    | succ d ih =>
      intro i hi hb hd hp
      refine Ev.step (fun k => spec_l5Same.l0.eq_2 ..) (Ev.pos (by omega) (Ev.step (fun k => spec_l5Same.j1.eq_2 ..) ?_))
      by_cases hib : i < b.length
      · refine Ev.pos (by simp; omega) (Ev.pos (by omega) (Ev.pos (by omega) (Ev.pos (by omega) ?_)))
        rw [wrap_succ (n := a.length) (by omega) hl, rd_get (by omega), rd_get (by omega)]
        by_cases hh : a[i] = b[i]
        · refine Ev.pos hh (ih (i + 1) (by omega) (by omega) (by omega) ?_)
          rw [← List.take_append_getElem (by omega : i < a.length), ← List.take_append_getElem (by omega : i < b.length), hp, hh]
        · refine Ev.neg hh (Ev.some ?_)
          symm
          apply decide_eq_false
          rintro rfl
          exact hh rfl
      · refine Ev.neg (by simp; omega) (Ev.some ?_)
        rw [decide_eq_false (fun e => by rw [e] at hi hd; omega)]
        simp; omega
  exact key a.length 0 (by omega) (by omega) (by omega) (by simp)

/-- One cell further. -/
def ofIn (odd : Bool) (s : List Int × Int) : List Int × Int := (if (odd && decide (s.2 < 8)) = true then s.1 ++ [s.2] else s.1, s.2 + 1)
def ofTimes (odd : Bool) : Nat → List Int × Int → List Int × Int
  | 0, s => s
  | n + 1, s => ofIn odd (ofTimes odd n s)
def oddB (i : Nat) : Bool := decide ((i : Int).tmod 2 = 1)
/-- Behind the first i counts; the whole count is held at 9 in the reference. -/
def ofSt (l : List Int) : Nat → List Int × Int
  | 0 => ([], 0)
  | i + 1 => ofTimes (oddB i) (l.getD i 0).toNat (ofSt l i)
def capS (s : List Int × Int) : List Int × Int := (s.1, if s.2 < 9 then s.2 else 9)
def spIn (odd : Bool) (s : List Int × Int) : List Int × Int := (if (odd && decide (s.2 < 8)) = true then s.1 ++ [s.2] else s.1, if s.2 + 1 < 9 then s.2 + 1 else 9)
def spTimes (odd : Bool) : Nat → List Int × Int → List Int × Int
  | 0, s => s
  | n + 1, s => spIn odd (spTimes odd n s)
def spSt (l : List Int) : Nat → List Int × Int
  | 0 => ([], 0)
  | i + 1 => spTimes (oddB i) (if l.getD i 0 < 9 then l.getD i 0 else 9).toNat (spSt l i)
theorem spIn_cap (odd : Bool) (s : List Int × Int) : spIn odd (capS s) = capS (ofIn odd s) := by
  obtain ⟨a, p⟩ := s
  unfold spIn capS ofIn
  by_cases h : p < 8
  · have h9 : p < 9 := by omega
    simp [h9, h]
  · by_cases h9 : p < 9
    · simp [h9, h]
    · have h1 : ¬ p + 1 < 9 := by omega
      simp [h9, h, h1]
theorem spTimes_cap (odd : Bool) (n : Nat) (s : List Int × Int) : spTimes odd n (capS s) = capS (ofTimes odd n s) := by
  induction n with
  | zero => rfl
  | succ n ih => simp only [spTimes, ofTimes]; rw [ih, spIn_cap]
theorem spSt_cap (l : List Int) (i : Nat) (h : ∀ j, j < i → 0 ≤ l.getD j 0 ∧ l.getD j 0 ≤ 8) : spSt l i = capS (ofSt l i) := by
  induction i with
  | zero => rfl
  | succ i ih =>
    have := h i (by omega)
    simp only [spSt, ofSt]
    rw [ih (fun j hj => h j (by omega)), if_pos (by omega), spTimes_cap]
theorem ofTimes_pos (odd : Bool) (n : Nat) (s : List Int × Int) : (ofTimes odd n s).2 = s.2 + n := by
  induction n with
  | zero => simp [ofTimes]
  | succ n ih => simp only [ofTimes, ofIn]; rw [ih]; omega
/-- The list that the cells make is no longer than the place, and no longer than eight. -/
def Short (s : List Int × Int) : Prop := 0 ≤ s.2 ∧ (s.1.length : Int) ≤ s.2 ∧ s.1.length ≤ 8
theorem ofIn_short (odd : Bool) (s : List Int × Int) (h : Short s) : Short (ofIn odd s) := by
  obtain ⟨h0, h1, h2⟩ := h
  unfold Short ofIn
  by_cases hc : (odd && decide (s.2 < 8)) = true
  · have : s.2 < 8 := by simp at hc; exact hc.2
    simp only [if_pos hc, List.length_append, List.length_singleton]
    omega
  · simp only [if_neg hc]
    omega
theorem ofTimes_short (odd : Bool) (n : Nat) (s : List Int × Int) (h : Short s) : Short (ofTimes odd n s) := by
  induction n with
  | zero => exact h
  | succ n ih => exact ofIn_short odd _ ih
theorem ofSt_short (l : List Int) (i : Nat) : Short (ofSt l i) := by
  induction i with
  | zero => simp [Short, ofSt]
  | succ i ih => exact ofTimes_short _ _ _ ih
theorem ofSt_le (l : List Int) (i : Nat) (h : ∀ j, j < i → 0 ≤ l.getD j 0 ∧ l.getD j 0 ≤ 8) : (ofSt l i).2 ≤ 8 * i := by
  induction i with
  | zero => simp [ofSt]
  | succ i ih =>
    have h1 := h i (by omega)
    have h2 := ih (fun j hj => h j (by omega))
    simp only [ofSt]
    rw [ofTimes_pos]
    omega
def Short9 (s : List Int × Int) : Prop := 0 ≤ s.2 ∧ s.2 ≤ 9 ∧ (s.1.length : Int) ≤ s.2 ∧ s.1.length ≤ 8
theorem spIn_short (odd : Bool) (s : List Int × Int) (h : Short9 s) : Short9 (spIn odd s) := by
  obtain ⟨h0, h9, h1, h2⟩ := h
  unfold Short9 spIn
  by_cases hc : (odd && decide (s.2 < 8)) = true
  · have : s.2 < 8 := by simp at hc; exact hc.2
    simp only [if_pos hc, List.length_append, List.length_singleton]
    split <;> omega
  · simp only [if_neg hc]
    split <;> omega
theorem spTimes_short (odd : Bool) (n : Nat) (s : List Int × Int) (h : Short9 s) : Short9 (spTimes odd n s) := by
  induction n with
  | zero => exact h
  | succ n ih => exact spIn_short odd _ ih
theorem spSt_short (l : List Int) (i : Nat) : Short9 (spSt l i) := by
  induction i with
  | zero => simp [Short9, spSt]
  | succ i ih => exact spTimes_short _ _ _ ih
/-- The counts of a good list of cells are each from 0 to 8 and are 8 together. -/
def sumL (l : List Int) : Int := l.foldr (· + ·) 0
theorem sumL_app (a b : List Int) : sumL (a ++ b) = sumL a + sumL b := by
  unfold sumL
  induction a with
  | nil => simp
  | cons x a ih => simp only [List.cons_append, List.foldr_cons]; rw [ih]; omega
theorem runSt_sum (m : List Int) (i : Nat) (hi : i ≤ 8) : sumL (runSt m i).1 + (runSt m i).2.2 = i ∧ 0 ≤ (runSt m i).2.2 ∧ (runSt m i).2.2 ≤ i ∧ ∀ x ∈ (runSt m i).1, 0 ≤ x ∧ x ≤ 8 := by
  induction i with
  | zero => simp [runSt, sumL]
  | succ i ih =>
    obtain ⟨h1, h2, h3, h4⟩ := ih (by omega)
    simp only [runSt, runStep]
    split
    · refine ⟨?_, by simp, by simp; omega, ?_⟩
      · rw [sumL_app]
        simp only [sumL, List.foldr_cons, List.foldr_nil] at h1 ⊢
        omega
      · intro x hx
        rw [List.mem_append] at hx
        rcases hx with hx | hx
        · exact h4 x hx
        · simp at hx
          omega
    · have e : wrap64 ((runSt m i).2.2 + 1) = (runSt m i).2.2 + 1 := wrap_id (by omega) (by omega)
      rw [e]
      exact ⟨by simp only; omega, by simp only; omega, by simp only; omega, h4⟩
theorem runsOf_good (m : List Int) (h : marksOk m = true) : sumL (runsOf m) = 8 ∧ ∀ x ∈ runsOf m, 0 ≤ x ∧ x ≤ 8 := by
  obtain ⟨h1, h2, h3, h4⟩ := runSt_sum m 8 (by omega)
  unfold runsOf
  rw [if_pos h]
  constructor
  · rw [sumL_app]
    simp only [sumL, List.foldr_cons, List.foldr_nil] at h1 ⊢
    omega
  · intro x hx
    rw [List.mem_append] at hx
    rcases hx with hx | hx
    · exact h4 x hx
    · simp at hx
      omega
theorem sumL_take (l : List Int) (i : Nat) (h : i < l.length) : sumL (l.take (i + 1)) = sumL (l.take i) + l.getD i 0 := by
  rw [← List.take_append_getElem h, sumL_app]
  simp [sumL, h]
theorem ofSt_pos (l : List Int) (i : Nat) (hi : i ≤ l.length) (h : ∀ j, j < i → 0 ≤ l.getD j 0 ∧ l.getD j 0 ≤ 8) : (ofSt l i).2 = sumL (l.take i) := by
  induction i with
  | zero => simp [ofSt, sumL]
  | succ i ih =>
    have h1 := h i (by omega)
    have h2 := ih (by omega) (fun j hj => h j (by omega))
    simp only [ofSt]
    rw [ofTimes_pos, sumL_take l i (by omega)]
    omega
def ofRuns (l : List Int) : List Int × Bool := if runsOf (spSt l l.length).1 = l then ((spSt l l.length).1, true) else ([], false)
theorem ofRuns_len (l : List Int) : (ofRuns l).1.length ≤ 8 := by
  unfold ofRuns
  have := spSt_short l l.length
  split
  · exact this.2.2.2
  · simp
theorem getD_all {l : List Int} {p : Int → Prop} (h : ∀ x ∈ l, p x) (j : Nat) (hj : j < l.length) : p (l.getD j 0) := by
  rw [List.getD_eq_getElem?_getD, List.getElem?_eq_getElem hj]
  exact h _ (List.getElem_mem hj)
theorem ofRuns_good (l : List Int) (h : runsOf (spSt l l.length).1 = l) : (∀ j, j < l.length → 0 ≤ l.getD j 0 ∧ l.getD j 0 ≤ 8) ∧ (ofSt l l.length).2 = 8 ∧ (ofSt l l.length).1 = (spSt l l.length).1 := by
  have hm : marksOk (spSt l l.length).1 = true := by
    cases hm : marksOk (spSt l l.length).1 with
    | true => rfl
    | false =>
      have he : runsOf (spSt l l.length).1 = [] := by simp [runsOf, hm]
      rw [he] at h
      subst h
      simp [spSt, marksOk] at hm
  obtain ⟨h1, h2⟩ := runsOf_good _ hm
  rw [h] at h1 h2
  have h3 : ∀ j, j < l.length → 0 ≤ l.getD j 0 ∧ l.getD j 0 ≤ 8 := fun j hj => getD_all h2 j hj
  refine ⟨h3, ?_, ?_⟩
  · rw [ofSt_pos l _ (by omega) h3, List.take_length, h1]
  · rw [spSt_cap l _ h3]
    rfl
theorem l1Min_is (a b : Int) : spec_l1Min.f a b = some (if a < b then a else b) := by
  unfold spec_l1Min.f
  split <;> rfl
theorem sOfRuns_ev (l : List Int) (hl : l.length ≤ 1048576) : Ev (fun k => spec_OfRuns.f k l) (ofRuns l) := by
  refine fold_ev (G := fun k (s : List Int × Int) i => spec_OfRuns.l0 k l s.1 s.2 i) (n := l.length) (st := spSt l) ?_ ?_
  · have hs := spSt_short l l.length
    refine Ev.step (fun k => spec_OfRuns.l0.eq_2 ..) (Ev.neg (by omega) (Ev.bind (sRuns_ev _ (by have := hs.2.2.2; omega)) (Ev.bind (l5Same_ev _ _ (by have := runsOf_len (spSt l l.length).1; omega)) ?_)))
    unfold ofRuns
    by_cases h : runsOf (spSt l l.length).1 = l
    · rw [if_pos h, decide_eq_true h]
      exact Ev.pos rfl (Ev.now _)
    · rw [if_neg h, decide_eq_false h]
      exact Ev.neg (by simp) (Ev.now _)
  · intro i hi r hr
    refine Ev.step (fun k => spec_OfRuns.l0.eq_2 ..) (Ev.pos (by omega) ?_)
    refine fold_ev (G := fun k (s : List Int × Int) j => spec_OfRuns.l1 k l s.1 s.2 (i : Int) j) (n := (if l.getD i 0 < 9 then l.getD i 0 else 9).toNat) (st := fun j => spTimes (oddB i) j (spSt l i)) ?_ ?_
    · refine Ev.step (fun k => spec_OfRuns.l1.eq_2 ..) (Ev.pos (by omega) (Ev.pos (by omega) ?_))
      rw [l1Min_is, rd_nat]
      simp only [Option.bind_some]
      refine Ev.neg (by omega) ?_
      rw [wrap_succ hi (by omega)]
      exact hr
    · intro j hj r hr
      obtain ⟨s0, s9, s1, s2⟩ := spTimes_short (oddB i) j _ (spSt_short l i)
      refine Ev.step (fun k => spec_OfRuns.l1.eq_2 ..) (Ev.pos (by omega) (Ev.pos (by omega) ?_))
      rw [l1Min_is, rd_nat, l1Min_is, wrap_id (n := (spTimes (oddB i) j (spSt l i)).2 + 1) (by omega) (by omega)]
      simp only [Option.bind_some]
      refine Ev.pos (by omega) ?_
      rw [show wrap64 ((j : Int) + 1) = ((j + 1 : Nat) : Int) from wrap_succ (n := 10) (by split at hj <;> omega) (by omega)]
      simp only [spTimes, spIn] at hr
      by_cases h1 : (i : Int).tmod 2 = 1
      · by_cases h2 : (spTimes (oddB i) j (spSt l i)).2 < 8
        · rw [if_pos (by rw [Bool.and_eq_true]; exact ⟨decide_eq_true h1, decide_eq_true h2⟩)] at hr
          exact Ev.pos h1 (Ev.pos h2 (Ev.pos (by omega) hr))
        · rw [if_neg (by rw [Bool.and_eq_true]; exact fun e => h2 (of_decide_eq_true e.2))] at hr
          exact Ev.pos h1 (Ev.neg h2 hr)
      · rw [if_neg (by rw [Bool.and_eq_true]; exact fun e => h1 (of_decide_eq_true e.1))] at hr
        exact Ev.neg h1 hr
theorem iOfRuns_ev (l : List Int) (hl : l.length ≤ 1048576) : Ev (fun k => impl_OfRuns.f k l) (ofRuns l) := by
  -- up to the first count that is out of range
  have main : ∀ (d i : Nat), i ≤ l.length → l.length - i = d → (∀ j, j < i → 0 ≤ l.getD j 0 ∧ l.getD j 0 ≤ 8) → Ev (fun k => impl_OfRuns.l0 k l (ofSt l i).1 (ofSt l i).2 l (l.length : Int) (i : Int)) (ofRuns l) := by
    intro d
    induction d with
    | zero =>
      intro i hi hd hall
      have : i = l.length := by omega
      subst this
      have hs := ofSt_short l l.length
      refine Ev.step (fun k => impl_OfRuns.l0.eq_2 ..) (Ev.neg (by omega) ?_)
      by_cases h8 : (ofSt l l.length).2 = 8
      · refine Ev.pos h8 (Ev.bind (iRuns_ev _ (by have := hs.2.2; omega)) (Ev.bind (slEqual_ev _ _ (by have := runsOf_len (ofSt l l.length).1; omega)) ?_))
        have e : (ofSt l l.length).1 = (spSt l l.length).1 := by rw [spSt_cap l _ hall]; rfl
        rw [e]
        unfold ofRuns
        by_cases h : runsOf (spSt l l.length).1 = l
        · rw [if_pos h, decide_eq_true h]
          exact Ev.pos rfl (Ev.now _)
        · rw [if_neg h, decide_eq_false h]
          exact Ev.neg (by simp) (Ev.now _)
      · refine Ev.neg h8 (Ev.some ?_)
        unfold ofRuns
        rw [if_neg (fun h => h8 (ofRuns_good l h).2.1)]
    | succ d ih =>
      intro i hi hd hall
      have hi' : i < l.length := by omega
      refine Ev.step (fun k => impl_OfRuns.l0.eq_2 ..) (Ev.pos (by omega) (Ev.pos (by omega) (Ev.pos (by omega) ?_)))
      rw [from_is, rd_nat]
      simp only [Option.bind_some]
      by_cases hr : 0 ≤ l.getD i 0 ∧ l.getD i 0 ≤ 8
      · refine Ev.pos (by simpa using hr) ?_
        have hle := ofSt_le l i hall
        refine fold_ev (G := fun k (s : List Int × Int) j => impl_OfRuns.l1 k l s.1 s.2 (i : Int) l (l.length : Int) (i : Int) (l.getD i 0) j) (n := (l.getD i 0).toNat) (st := fun j => ofTimes (oddB i) j (ofSt l i)) ?_ ?_
        · refine Ev.step (fun k => impl_OfRuns.l1.eq_2 ..) (Ev.neg (by omega) ?_)
          rw [wrap_succ hi' (by omega)]
          exact ih (i + 1) (by omega) (by omega) (fun j hj => by
            by_cases h : j = i
            · rw [h]; exact hr
            · exact hall j (by omega))
        · intro j hj r hr'
          obtain ⟨s0, s1, s2⟩ := ofTimes_short (oddB i) j _ (ofSt_short l i)
          have hp := ofTimes_pos (oddB i) j (ofSt l i)
          refine Ev.step (fun k => impl_OfRuns.l1.eq_2 ..) (Ev.pos (by omega) ?_)
          rw [wrap_id (n := (ofTimes (oddB i) j (ofSt l i)).2 + 1) (by omega) (by omega)]
          rw [show wrap64 ((j : Int) + 1) = ((j + 1 : Nat) : Int) from wrap_succ (n := 10) (by omega) (by omega)]
          simp only [ofTimes, ofIn] at hr'
          by_cases h1 : (i : Int).tmod 2 = 1
          · by_cases h2 : (ofTimes (oddB i) j (ofSt l i)).2 < 8
            · rw [if_pos (by rw [Bool.and_eq_true]; exact ⟨decide_eq_true h1, decide_eq_true h2⟩)] at hr'
              exact Ev.pos h1 (Ev.pos h2 (Ev.pos (by omega) hr'))
            · rw [if_neg (by rw [Bool.and_eq_true]; exact fun e => h2 (of_decide_eq_true e.2))] at hr'
              exact Ev.pos h1 (Ev.neg h2 hr')
          · rw [if_neg (by rw [Bool.and_eq_true]; exact fun e => h1 (of_decide_eq_true e.1))] at hr'
            exact Ev.neg h1 hr'
      · refine Ev.neg (by simpa using hr) (Ev.some ?_)
        unfold ofRuns
        rw [if_neg (fun h => hr ((ofRuns_good l h).1 i hi'))]
  exact main l.length 0 (by omega) (by omega) (by intro j hj; omega)
theorem FnExactOfRuns : laws_FnExactOfRuns.Pure := by
  intro l _ _ _
  refine Ev.rounds ?_
  by_cases hb : (l.length : Int) > 1048576
  · exact Ev.pos hb (Ev.some rfl)
  have h := toIntS_ev l (by omega)
  have hs := sOfRuns_ev l (by omega)
  have hi := iOfRuns_ev l (by omega)
  have hL := ofRuns_len l
  have e := eqIntS_ev (ofRuns l).1 (ofRuns l).1 (by omega)
  have m := markIntS_ev (ofRuns l).1 1 (by omega) (by omega)
  have hd := heldIntS_ev (ofRuns l).1.length 1 (by omega) (by omega)
  refine Ev.neg hb (Ev.bind h (Ev.bind hs (Ev.bind h (Ev.bind hi (Ev.bind e (Ev.pos (by simp) ?_))))))
  refine Ev.step (fun k => laws_FnExactOfRuns.j0.eq_2 ..) (Ev.neg (by simp) (Ev.bind h (Ev.bind (eqIntS_ev l l (by omega)) (Ev.pos (by simp) (Ev.bind (markIntS_ev l 1 (by omega) (by omega)) (Ev.neg (by simp; omega) (Ev.bind e (Ev.pos (by simp) ?_))))))))
  refine Ev.step (fun k => laws_FnExactOfRuns.j1.eq_2 ..) (Ev.neg (by simp) (Ev.bind m (Ev.bind hd (Ev.neg (by omega) (Ev.pos rfl (Ev.bind h (Ev.bind hi (Ev.bind e (Ev.pos (by simp) ?_)))))))))
  exact Ev.step (fun k => laws_FnExactOfRuns.j2.eq_2 ..) (Ev.neg (by simp) (Ev.bind hd (Ev.neg (by omega) (Ev.pos rfl (Ev.some rfl)))))
end Go.Proofs.Ytklphaicchmmoaa.Pure
