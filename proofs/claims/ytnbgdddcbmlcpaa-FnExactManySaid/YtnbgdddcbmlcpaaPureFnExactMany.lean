/- The program's Many answers as the reference's Many does, for every list, and leaves the list as it was. -/
import Derived.Test.YtnbgdddcbmlcpaaPFnExactManyx2
import Derived.Test.YtnbgdddcbmlcpaaGen
namespace Go.Proofs.Ytnbgdddcbmlcpaa.Pure
open Go.RowKit Go.Proofs.Ytnbgdddcbmlcpaa.PFnExactMany Go.Proofs.YtnbgdddcbmlcpaaW.PrintWords Go.Proofs.YtnbgdddcbmlcpaaW.PrintLast Go.Proofs.Ytnbgdddcbmlcpaa.Gen
set_option linter.unusedVariables false
theorem toIntS_ev (l : List Int) (hl : l.length ≤ 35184372088832) : Ev (fun k => laws_toIntS.f k l) l := by
  refine Ev.pos (by omega) (Ev.pos (by omega) ?_)
  rw [Int.toNat_natCast]
  exact copy_ev (fun _ _ _ _ => rfl) l (by omega)
theorem eqIntS_ev (a b : List Int) (hl : a.length ≤ 35184372088832) : Ev (fun k => laws_eqIntS.f k a b) (decide (a = b)) := by
  by_cases h : a.length = b.length
  · exact Ev.pos (by omega) (eq_ev (fun _ _ _ _ => rfl) a b h (by omega))
  · refine Ev.neg (by omega) (Ev.some ?_)
    symm
    apply decide_eq_false
    rintro rfl
    exact h rfl
theorem l1In_is (a b c : Int) : spec_l1In.f a b c = some (decide (b ≤ a ∧ a ≤ c)) := by
  unfold spec_l1In.f
  by_cases h : a ≥ b
  · rw [if_pos h]; simp [show b ≤ a from h]
  · rw [if_neg h]; simp [show ¬ b ≤ a from h]
theorem from_is (a b c : Int) : impl_from.f a b c = some (decide (b ≤ a ∧ a ≤ c)) := by
  unfold impl_from.f
  by_cases h : a ≥ b
  · rw [if_pos h]; simp [show b ≤ a from h]
  · rw [if_neg h]; simp [show ¬ b ≤ a from h]
theorem isCell_is (a : Int) : impl_isCell.f a = some (decide (0 ≤ a ∧ a ≤ 7)) := by unfold impl_isCell.f; rw [from_is]; rfl
def mk1 (l : List Int) (i : Nat) : Bool := decide (0 ≤ l.getD i 0 ∧ l.getD i 0 ≤ 7) && (decide (i = 0) || !decide (l.getD (i - 1) 0 ≥ l.getD i 0))
def marksOk (l : List Int) : Bool := (List.range l.length).all (mk1 l)
theorem sMarksOk_ev (l : List Int) (hl : l.length ≤ 35184372088832) : Ev (fun k => spec_MarksOk.f k l) (marksOk l) := by
  have h := all_ev (G := fun k i => spec_MarksOk.l0 k l i) (n := l.length) (p := mk1 l) (b := true) ?_ ?_ ?_
  · rw [Bool.and_true] at h; exact h
  · exact Ev.step (fun k => rfl) (Ev.neg (by omega) (Ev.some rfl))
  · intro i hi hp
    refine Ev.step (fun k => rfl) (Ev.pos (by omega) (Ev.pos (by omega) ?_))
    rw [l1In_is, rd_nat]
    simp only [Option.bind_some]
    unfold mk1 at hp
    cases h : decide (0 ≤ l.getD i 0 ∧ l.getD i 0 ≤ 7) with
    | false => exact Ev.neg (by simp) (Ev.some rfl)
    | true =>
      rw [h, Bool.true_and, Bool.or_eq_false_iff] at hp
      have h0 : i ≠ 0 := by simpa using hp.1
      refine Ev.pos rfl (Ev.pos (by omega) ?_)
      rw [wrap_pred hi (by omega) (by omega), rd_nat]
      exact Ev.pos (by omega) (Ev.pos (by omega) (Ev.pos (by simpa using hp.2) (Ev.some rfl)))
  · intro i hi hp r hr
    refine Ev.step (fun k => rfl) (Ev.pos (by omega) (Ev.pos (by omega) ?_))
    rw [l1In_is, rd_nat]
    simp only [Option.bind_some]
    unfold mk1 at hp
    rw [Bool.and_eq_true, Bool.or_eq_true] at hp
    rw [hp.1, wrap_succ hi (by omega)]
    refine Ev.pos rfl ?_
    by_cases h0 : i = 0
    · exact Ev.neg (by omega) hr
    · rw [wrap_pred hi (by omega) (by omega), rd_nat]
      exact Ev.pos (by omega) (Ev.pos (by omega) (Ev.pos (by omega) (Ev.neg (by simpa [h0] using hp.2) hr)))
theorem iMarksOk_ev (l : List Int) (hl : l.length ≤ 35184372088832) : Ev (fun k => impl_MarksOk.f k l) (marksOk l) := by
  have h := all_ev (G := fun k i => impl_MarksOk.l0 k l l (l.length : Int) i) (n := l.length) (p := mk1 l) (b := true) ?_ ?_ ?_
  · rw [Bool.and_true] at h; exact h
  · exact Ev.step (fun k => rfl) (Ev.neg (by omega) (Ev.some rfl))
  · intro i hi hp
    refine Ev.step (fun k => rfl) (Ev.pos (by omega) (Ev.pos (by omega) (Ev.pos (by omega) ?_)))
    rw [isCell_is, rd_nat]
    simp only [Option.bind_some]
    unfold mk1 at hp
    cases h : decide (0 ≤ l.getD i 0 ∧ l.getD i 0 ≤ 7) with
    | false => exact Ev.neg (by simp) (Ev.some rfl)
    | true =>
      rw [h, Bool.true_and, Bool.or_eq_false_iff] at hp
      have h0 : i ≠ 0 := by simpa using hp.1
      refine Ev.pos rfl (Ev.pos (by omega) ?_)
      rw [wrap_pred hi (by omega) (by omega), rd_nat]
      exact Ev.pos (by omega) (Ev.pos (by omega) (Ev.pos (by simpa using hp.2) (Ev.some rfl)))
  · intro i hi hp r hr
    refine Ev.step (fun k => rfl) (Ev.pos (by omega) (Ev.pos (by omega) (Ev.pos (by omega) ?_)))
    rw [isCell_is, rd_nat]
    simp only [Option.bind_some]
    unfold mk1 at hp
    rw [Bool.and_eq_true, Bool.or_eq_true] at hp
    rw [hp.1, wrap_succ hi (by omega)]
    refine Ev.pos rfl ?_
    by_cases h0 : i = 0
    · exact Ev.neg (by omega) hr
    · rw [wrap_pred hi (by omega) (by omega), rd_nat]
      exact Ev.pos (by omega) (Ev.pos (by omega) (Ev.pos (by omega) (Ev.neg (by simpa [h0] using hp.2) hr)))
theorem FnExactMany : laws_FnExactMany.Pure := by
  intro l _ _ _
  refine Ev.rounds ?_
  by_cases hb : (l.length : Int) > 1048576
  · exact Ev.pos hb (Ev.some rfl)
  · have h := toIntS_ev l (by omega)
    have hs : Ev (fun k => spec_Many.f k l) (if marksOk l then (l.length : Int) else 0) := by
      refine Ev.bind (sMarksOk_ev l (by omega)) ?_
      cases marksOk l
      · exact Ev.neg (by simp) (Ev.some rfl)
      · exact Ev.pos rfl (Ev.some rfl)
    have hi : Ev (fun k => impl_Many.f k l) (if marksOk l then (l.length : Int) else 0) := by
      refine Ev.bind (iMarksOk_ev l (by omega)) ?_
      cases marksOk l
      · exact Ev.neg (by simp) (Ev.some rfl)
      · exact Ev.pos rfl (Ev.some rfl)
    exact Ev.neg hb (Ev.bind h (Ev.bind hs (Ev.bind h (Ev.bind hi (Ev.pos rfl (Ev.bind h (Ev.bind (eqIntS_ev l l (by omega)) (Ev.pos (by simp) (Ev.some rfl)))))))))
end Go.Proofs.Ytnbgdddcbmlcpaa.Pure
