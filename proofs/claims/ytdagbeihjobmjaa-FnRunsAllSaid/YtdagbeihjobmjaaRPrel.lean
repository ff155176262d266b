/- The laws' own functions over rows: copying, comparing, marking, looking at marks. -/
import Derived.Test.YtdagbeihjobmjaaTR
import Derived.Test.YtdagbeihjobmjaaEng30
namespace Go.Proofs.Ytdagbeihjobmjaa.Eng.R
set_option linter.unusedSimpArgs false
set_option linter.unusedVariables false
open Go.RowKit Go.Proofs

theorem row_copy {k : IntKind} {l : List Int} {i : Nat} {x : Int} {r : List Int} (h : l.drop i = x :: r) : spl [Cell.int k x] i (cl k (l.take i ++ List.replicate (l.length - i) 0)) = cl k (l.take (i + 1) ++ List.replicate (l.length - (i + 1)) 0) := by
  have hi := drop_lt h
  rw [cl_spl (by simp; omega)]
  congr 1
  have hx : l[i] = x := by
    have := List.drop_eq_getElem_cons hi
    rw [h] at this
    exact (List.cons.inj this).1.symm
  have h1 : l.length - i = (l.length - (i + 1)) + 1 := by omega
  rw [← List.take_append_getElem hi, hx, h1, List.replicate_succ]
  have hl : (l.take i).length = i := by simp; omega
  rw [List.set_append_right _ _ (by omega), hl, Nat.sub_self, List.set_cons_zero]
  simp

end Go.Proofs.Ytdagbeihjobmjaa.Eng.R
