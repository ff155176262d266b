/- The program's Runs answers as the reference's Runs does, for every list, with memory of its own, and leaves the list as it was. -/
import Derived.Test.YtklphaicchmmoaaPFnExactRunsx3
import Derived.Test.YtklphaicchmmoaaGen
namespace Go.Proofs.Ytklphaicchmmoaa.Pure
open Go.RowKit Go.Proofs.Ytklphaicchmmoaa.PFnExactRuns Go.Proofs.YtklphaicchmmoaaW.PrintWords Go.Proofs.YtklphaicchmmoaaW.PrintLast Go.Proofs.Ytklphaicchmmoaa.Gen
set_option linter.unusedVariables false
theorem toIntS_ev (l : List Int) (hl : l.length ≤ 35184372088832) : Ev (fun k => laws_toIntS.f k l) l := by
  refine Ev.pos (by omega) (Ev.pos (by omega) ?_)
  rw [Int.toNat_natCast]
  exact copy_ev (fun _ _ _ _ => rfl) l (by omega)
theorem eqIntS_ev (a b : List Int) (hl : a.length ≤ 35184372088832) : Ev (fun k => laws_eqIntS.f k a b) (decide (a = b)) := by
  by_cases h : a.length = b.length
  · exact Ev.pos (by omega) (eq_ev (fun _ _ _ _ => rfl) a b h (by omega))
  · refine Ev.neg (by omega) (Ev.some ?_)
    symm
    apply decide_eq_false
    rintro rfl
    exact h rfl
theorem markIntS_ev (a : List Int) (n : Int) (hn : 0 ≤ n) (hl : n + a.length ≤ 9223372036854775806) : Ev (fun k => laws_markIntS.f k a n) (n + a.length, marks id n a.length) :=
  mark_ev (m := id) (fun _ _ _ _ => rfl) a n hn hl
theorem heldIntS_ev (N : Nat) (n : Int) (hn : 0 ≤ n) (hl : n + N ≤ 9223372036854775806) : Ev (fun k => laws_heldIntS.f k (marks id n N) n) (n + N) :=
  held_ev (m := id) (fun _ _ _ _ => rfl) N n hn hl
theorem l1In_is (a b c : Int) : spec_l1In.f a b c = some (decide (b ≤ a ∧ a ≤ c)) := by
  unfold spec_l1In.f
  by_cases h : a ≥ b
  · rw [if_pos h]; simp [show b ≤ a from h]
  · rw [if_neg h]; simp [show ¬ b ≤ a from h]
theorem from_is (a b c : Int) : impl_from.f a b c = some (decide (b ≤ a ∧ a ≤ c)) := by
  unfold impl_from.f
  by_cases h : a ≥ b
  · rw [if_pos h]; simp [show b ≤ a from h]
  · rw [if_neg h]; simp [show ¬ b ≤ a from h]
theorem isCell_is (a : Int) : impl_isCell.f a = some (decide (0 ≤ a ∧ a ≤ 7)) := by unfold impl_isCell.f; rw [from_is]; rfl
def mk1 (l : List Int) (i : Nat) : Bool := decide (0 ≤ l.getD i 0 ∧ l.getD i 0 ≤ 7) && (decide (i = 0) || !decide (l.getD (i - 1) 0 ≥ l.getD i 0))
def marksOk (l : List Int) : Bool := (List.range l.length).all (mk1 l)
theorem sMarksOk_ev (l : List Int) (hl : l.length ≤ 35184372088832) : Ev (fun k => spec_MarksOk.f k l) (marksOk l) := by
  have h := all_ev (G := fun k i => spec_MarksOk.l0 k l i) (n := l.length) (p := mk1 l) (b := true) ?_ ?_ ?_
  · rw [Bool.and_true] at h; exact h
  · exact Ev.step (fun k => rfl) (Ev.neg (by omega) (Ev.some rfl))
  · intro i hi hp
    refine Ev.step (fun k => rfl) (Ev.pos (by omega) (Ev.pos (by omega) ?_))
    rw [l1In_is, rd_nat]
    simp only [Option.bind_some]
    unfold mk1 at hp
    cases h : decide (0 ≤ l.getD i 0 ∧ l.getD i 0 ≤ 7) with
    | false => exact Ev.neg (by simp) (Ev.some rfl)
    | true =>
      rw [h, Bool.true_and, Bool.or_eq_false_iff] at hp
      have h0 : i ≠ 0 := by simpa using hp.1
      refine Ev.pos rfl (Ev.pos (by omega) ?_)
      rw [wrap_pred hi (by omega) (by omega), rd_nat]
      exact Ev.pos (by omega) (Ev.pos (by omega) (Ev.pos (by simpa using hp.2) (Ev.some rfl)))
  · intro i hi hp r hr
    refine Ev.step (fun k => rfl) (Ev.pos (by omega) (Ev.pos (by omega) ?_))
    rw [l1In_is, rd_nat]
    simp only [Option.bind_some]
    unfold mk1 at hp
    rw [Bool.and_eq_true, Bool.or_eq_true] at hp
    rw [hp.1, wrap_succ hi (by omega)]
    refine Ev.pos rfl ?_
    by_cases h0 : i = 0
    · exact Ev.neg (by omega) hr
    · rw [wrap_pred hi (by omega) (by omega), rd_nat]
      exact Ev.pos (by omega) (Ev.pos (by omega) (Ev.pos (by omega) (Ev.neg (by simpa [h0] using hp.2) hr)))
theorem iMarksOk_ev (l : List Int) (hl : l.length ≤ 35184372088832) : Ev (fun k => impl_MarksOk.f k l) (marksOk l) := by
  have h := all_ev (G := fun k i => impl_MarksOk.l0 k l l (l.length : Int) i) (n := l.length) (p := mk1 l) (b := true) ?_ ?_ ?_
  · rw [Bool.and_true] at h; exact h
  · exact Ev.step (fun k => rfl) (Ev.neg (by omega) (Ev.some rfl))
  · intro i hi hp
    refine Ev.step (fun k => rfl) (Ev.pos (by omega) (Ev.pos (by omega) (Ev.pos (by omega) ?_)))
    rw [isCell_is, rd_nat]
    simp only [Option.bind_some]
    unfold mk1 at hp
    cases h : decide (0 ≤ l.getD i 0 ∧ l.getD i 0 ≤ 7) with
    | false => exact Ev.neg (by simp) (Ev.some rfl)
    | true =>
      rw [h, Bool.true_and, Bool.or_eq_false_iff] at hp
      have h0 : i ≠ 0 := by simpa using hp.1
      refine Ev.pos rfl (Ev.pos (by omega) ?_)
      rw [wrap_pred hi (by omega) (by omega), rd_nat]
      exact Ev.pos (by omega) (Ev.pos (by omega) (Ev.pos (by simpa using hp.2) (Ev.some rfl)))
  · intro i hi hp r hr
    refine Ev.step (fun k => rfl) (Ev.pos (by omega) (Ev.pos (by omega) (Ev.pos (by omega) ?_)))
    rw [isCell_is, rd_nat]
    simp only [Option.bind_some]
    unfold mk1 at hp
    rw [Bool.and_eq_true, Bool.or_eq_true] at hp
    rw [hp.1, wrap_succ hi (by omega)]
    refine Ev.pos rfl ?_
    by_cases h0 : i = 0
    · exact Ev.neg (by omega) hr
    · rw [wrap_pred hi (by omega) (by omega), rd_nat]
      exact Ev.pos (by omega) (Ev.pos (by omega) (Ev.pos (by omega) (Ev.neg (by simpa [h0] using hp.2) hr)))
theorem l2Has_ev (a : List Int) (n : Int) (hl : a.length ≤ 281474976710656) : Ev (fun k => spec_l2Has.f k a n) (a.contains n) := has_ev (fun _ _ _ _ => rfl) a n hl
theorem contains_ev (a : List Int) (n : Int) (hl : a.length ≤ 281474976710656) : Ev (fun k => slices_Contains_int_int.f k a n) (a.contains n) := by
  obtain ⟨r, hr, he⟩ := index_ev (F := slices_Index_int_int.l0) (fun _ _ _ _ _ => rfl) a n hl
  exact Ev.bind hr (Ev.some he)
def runStep (l : List Int) (s : List Int × Bool × Int) (i : Nat) : List Int × Bool × Int :=
  if (l.contains (i : Int) != s.2.1) = true then (s.1 ++ [s.2.2], !s.2.1, 0 + 1) else (s.1, s.2.1, wrap64 (s.2.2 + 1))
def runSt (l : List Int) : Nat → List Int × Bool × Int
  | 0 => ([], false, 0)
  | i + 1 => runStep l (runSt l i) i
theorem runSt_len (l : List Int) (i : Nat) : (runSt l i).1.length ≤ i := by
  induction i with
  | zero => simp [runSt]
  | succ i ih =>
    simp only [runSt, runStep]
    split
    · simp; omega
    · simp; omega
def runsOf (l : List Int) : List Int := if marksOk l = true then (runSt l 8).1 ++ [(runSt l 8).2.2] else []
theorem runsOf_len (l : List Int) : (runsOf l).length ≤ 9 := by
  unfold runsOf
  have := runSt_len l 8
  split
  · simp; omega
  · simp
theorem sRuns_ev (l : List Int) (hl : l.length ≤ 35184372088832) : Ev (fun k => spec_Runs.f k l) (runsOf l) := by
  refine Ev.bind (Ev.now _) (Ev.bind (sMarksOk_ev l hl) ?_)
  unfold runsOf
  cases marksOk l
  · exact Ev.neg (by simp) (Ev.some (by simp))
  · refine Ev.pos rfl ?_
    refine fold_ev (G := fun k (s : List Int × Bool × Int) i => spec_Runs.l0 k l s.1 s.2.1 s.2.2 i) (n := 8) (st := runSt l) ?_ ?_
    · have := runSt_len l 8
      refine Ev.step (fun k => rfl) (Ev.neg (by omega) (Ev.pos (by omega) (Ev.some (by simp))))
    · intro i hi r hr
      have h8 := runSt_len l i
      refine Ev.step (fun k => rfl) (Ev.pos (by omega) (Ev.bind (l2Has_ev l i (by omega)) ?_))
      rw [wrap_succ hi (by omega)]
      simp only [runSt, runStep] at hr
      by_cases h : (l.contains (i : Int) != (runSt l i).2.1) = true
      · rw [if_pos h] at hr
        exact Ev.pos h (Ev.pos (by omega) hr)
      · rw [if_neg h] at hr
        exact Ev.neg h hr
theorem iRuns_ev (l : List Int) (hl : l.length ≤ 35184372088832) : Ev (fun k => impl_Runs.f k l) (runsOf l) := by
  refine Ev.bind (Ev.now _) (Ev.bind (iMarksOk_ev l hl) ?_)
  unfold runsOf
  cases marksOk l
  · exact Ev.neg (by simp) (Ev.some (by simp))
  · refine Ev.pos rfl ?_
    refine fold_ev (G := fun k (s : List Int × Bool × Int) i => impl_Runs.l0 k l s.1 s.2.1 s.2.2 i) (n := 8) (st := runSt l) ?_ ?_
    · have := runSt_len l 8
      refine Ev.step (fun k => rfl) (Ev.neg (by omega) (Ev.pos (by omega) (Ev.some (by simp))))
    · intro i hi r hr
      have h8 := runSt_len l i
      refine Ev.step (fun k => rfl) (Ev.pos (by omega) (Ev.bind (contains_ev l i (by omega)) ?_))
      rw [wrap_succ hi (by omega)]
      simp only [runSt, runStep] at hr
      by_cases h : (l.contains (i : Int) != (runSt l i).2.1) = true
      · rw [if_pos h] at hr
        exact Ev.pos h (Ev.pos (by omega) hr)
      · rw [if_neg h] at hr
        exact Ev.neg h hr
theorem FnExactRuns : laws_FnExactRuns.Pure := by
  intro l _ _ _
  refine Ev.rounds ?_
  by_cases hb : (l.length : Int) > 1048576
  · exact Ev.pos hb (Ev.some rfl)
  have h := toIntS_ev l (by omega)
  have hs := sRuns_ev l (by omega)
  have hi := iRuns_ev l (by omega)
  have hL := runsOf_len l
  have e := eqIntS_ev (runsOf l) (runsOf l) (by omega)
  have m := markIntS_ev (runsOf l) 1 (by omega) (by omega)
  have hd := heldIntS_ev (runsOf l).length 1 (by omega) (by omega)
  refine Ev.neg hb (Ev.bind h (Ev.bind hs (Ev.bind h (Ev.bind hi (Ev.bind e (Ev.pos (by simp) (Ev.bind h (Ev.bind (eqIntS_ev l l (by omega)) (Ev.pos (by simp) (Ev.bind (markIntS_ev l 1 (by omega) (by omega)) (Ev.neg (by simp; omega) (Ev.bind e ?_))))))))))))
  refine Ev.step (fun k => rfl) (Ev.neg (by simp) (Ev.bind m (Ev.bind hd (Ev.neg (by omega) (Ev.pos rfl (Ev.bind h (Ev.bind hi (Ev.bind e (Ev.pos (by simp) (Ev.bind hd (Ev.neg (by omega) (Ev.pos rfl (Ev.some rfl)))))))))))))
end Go.Proofs.Ytklphaicchmmoaa.Pure
