/- The program's BlockOk answers as the reference's BlockOk does, for every row of bytes, and leaves the row as it was. -/
import Derived.Test.YtnbgdddcbmlcpaaPFnExactBlockOkx1
import Derived.Test.YtnbgdddcbmlcpaaGen
namespace Go.Proofs.Ytnbgdddcbmlcpaa.Pure
open Go.RowKit Go.Proofs.Ytnbgdddcbmlcpaa.PFnExactBlockOk Go.Proofs.YtnbgdddcbmlcpaaW.PrintWords Go.Proofs.YtnbgdddcbmlcpaaW.PrintLast Go.Proofs.Ytnbgdddcbmlcpaa.Gen
set_option linter.unusedVariables false
theorem toByteS_ev (l : List Int) (hl : l.length ≤ 35184372088832) : Ev (fun k => laws_toByteS.f k l) l := by
  refine Ev.pos (by omega) (Ev.pos (by omega) ?_)
  rw [Int.toNat_natCast]
  exact copy_ev (fun _ _ _ _ => rfl) l (by omega)
theorem eqByteS_ev (a b : List Int) (hl : a.length ≤ 35184372088832) : Ev (fun k => laws_eqByteS.f k a b) (decide (a = b)) := by
  by_cases h : a.length = b.length
  · exact Ev.pos (by omega) (eq_ev (fun _ _ _ _ => rfl) a b h (by omega))
  · refine Ev.neg (by omega) (Ev.some ?_)
    symm
    apply decide_eq_false
    rintro rfl
    exact h rfl
theorem FnExactBlockOk : laws_FnExactBlockOk.Pure := by
  intro l _ _ _
  refine Ev.rounds ?_
  by_cases hb : (l.length : Int) > 1048576
  · exact Ev.pos hb (Ev.some rfl)
  · have h := toByteS_ev l (by omega)
    exact Ev.neg hb (Ev.bind h (Ev.bind (Ev.now _) (Ev.bind h (Ev.bind (Ev.now _) (Ev.neg (by simp) (Ev.bind h (Ev.bind (eqByteS_ev l l (by omega)) (Ev.pos (by simp) (Ev.some rfl)))))))))
end Go.Proofs.Ytnbgdddcbmlcpaa.Pure
