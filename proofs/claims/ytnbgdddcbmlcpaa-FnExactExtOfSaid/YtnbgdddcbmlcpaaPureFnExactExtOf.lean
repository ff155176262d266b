/- The program's ExtOf answers as the reference's ExtOf does, for every cell. -/
import Derived.Test.YtnbgdddcbmlcpaaPFnExactExtOfx1
import Derived.Test.YtnbgdddcbmlcpaaGen
namespace Go.Proofs.Ytnbgdddcbmlcpaa.Pure
open Go.RowKit Go.Proofs.Ytnbgdddcbmlcpaa.PFnExactExtOf Go.Proofs.YtnbgdddcbmlcpaaW.PrintWords Go.Proofs.YtnbgdddcbmlcpaaW.PrintLast Go.Proofs.Ytnbgdddcbmlcpaa.Gen
set_option linter.unusedVariables false
theorem l1In_is (a b c : Int) : spec_l1In.f a b c = some (decide (b ≤ a ∧ a ≤ c)) := by
  unfold spec_l1In.f
  by_cases h : a ≥ b
  · rw [if_pos h]; simp [show b ≤ a from h]
  · rw [if_neg h]; simp [show ¬ b ≤ a from h]
theorem from_is (a b c : Int) : impl_from.f a b c = some (decide (b ≤ a ∧ a ≤ c)) := by
  unfold impl_from.f
  by_cases h : a ≥ b
  · rw [if_pos h]; simp [show b ≤ a from h]
  · rw [if_neg h]; simp [show ¬ b ≤ a from h]
theorem isCell_is (a : Int) : impl_isCell.f a = some (decide (0 ≤ a ∧ a ≤ 7)) := by unfold impl_isCell.f; rw [from_is]; rfl
theorem FnExactExtOf : laws_FnExactExtOf.Pure := by
  intro a _
  unfold laws_FnExactExtOf.f spec_ExtOf.f impl_ExtOf.f
  rw [l1In_is, isCell_is]
  by_cases h : 0 ≤ a ∧ a ≤ 7 <;> simp [h]
end Go.Proofs.Ytnbgdddcbmlcpaa.Pure
