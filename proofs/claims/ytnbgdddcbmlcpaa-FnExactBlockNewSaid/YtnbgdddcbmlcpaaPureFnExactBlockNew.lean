/- The program's BlockNew answers as the reference's BlockNew does, with memory of its own. -/
import Derived.Test.YtnbgdddcbmlcpaaPFnExactBlockNewx1
import Derived.Test.YtnbgdddcbmlcpaaGen
namespace Go.Proofs.Ytnbgdddcbmlcpaa.Pure
open Go.RowKit Go.Proofs.Ytnbgdddcbmlcpaa.PFnExactBlockNew Go.Proofs.YtnbgdddcbmlcpaaW.PrintWords Go.Proofs.YtnbgdddcbmlcpaaW.PrintLast Go.Proofs.Ytnbgdddcbmlcpaa.Gen
set_option linter.unusedVariables false
theorem eqByteS_ev (a b : List Int) (hl : a.length ≤ 35184372088832) : Ev (fun k => laws_eqByteS.f k a b) (decide (a = b)) := by
  by_cases h : a.length = b.length
  · exact Ev.pos (by omega) (eq_ev (fun _ _ _ _ => rfl) a b h (by omega))
  · refine Ev.neg (by omega) (Ev.some ?_)
    symm
    apply decide_eq_false
    rintro rfl
    exact h rfl
theorem markByteS_ev (a : List Int) (n : Int) (hn : 0 ≤ n) (hl : n + a.length ≤ 9223372036854775806) : Ev (fun k => laws_markByteS.f k a n) (n + a.length, marks (· % 256) n a.length) :=
  mark_ev (m := (· % 256)) (fun _ _ _ _ => rfl) a n hn hl
theorem heldByteS_ev (N : Nat) (n : Int) (hn : 0 ≤ n) (hl : n + N ≤ 9223372036854775806) : Ev (fun k => laws_heldByteS.f k (marks (· % 256) n N) n) (n + N) :=
  held_ev (m := (· % 256)) (fun _ _ _ _ => rfl) N n hn hl
theorem FnExactBlockNew : laws_FnExactBlockNew.Pure := by
  refine Ev.rounds ?_
  have h : spec_BlockNew.f = some (List.replicate 8 0) := rfl
  have g : impl_BlockNew.f = some (List.replicate 8 0) := rfl
  have hs : Ev (fun _ => spec_BlockNew.f) (List.replicate 8 0) := by rw [h]; exact Ev.now _
  have hi : Ev (fun _ => impl_BlockNew.f) (List.replicate 8 0) := by rw [g]; exact Ev.now _
  have heq := eqByteS_ev (List.replicate 8 0) (List.replicate 8 0) (by decide)
  have hm := markByteS_ev (List.replicate 8 0) 1 (by decide) (by decide)
  have hh := heldByteS_ev 8 1 (by decide) (by decide)
  exact Ev.bind hs (Ev.bind hi (Ev.bind heq (Ev.pos (by simp) (Ev.bind hm (Ev.bind hh (Ev.neg (by decide) (Ev.pos (by decide) (Ev.bind hi (Ev.bind heq (Ev.pos (by simp) (Ev.bind hh (Ev.neg (by decide) (Ev.pos (by decide) (Ev.some rfl))))))))))))))
end Go.Proofs.Ytnbgdddcbmlcpaa.Pure
