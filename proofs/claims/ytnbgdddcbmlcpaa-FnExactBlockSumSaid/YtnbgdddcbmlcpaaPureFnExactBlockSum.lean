/- The program's BlockSum answers as the reference's BlockSum does, for every row of bytes, and leaves the row as it was. -/
import Derived.Test.YtnbgdddcbmlcpaaPFnExactBlockSumx1
import Derived.Test.YtnbgdddcbmlcpaaGen
namespace Go.Proofs.Ytnbgdddcbmlcpaa.Pure
open Go.RowKit Go.Proofs.Ytnbgdddcbmlcpaa.PFnExactBlockSum Go.Proofs.YtnbgdddcbmlcpaaW.PrintWords Go.Proofs.YtnbgdddcbmlcpaaW.PrintLast Go.Proofs.Ytnbgdddcbmlcpaa.Gen
set_option linter.unusedVariables false
theorem toByteS_ev (l : List Int) (hl : l.length ≤ 35184372088832) : Ev (fun k => laws_toByteS.f k l) l := by
  refine Ev.pos (by omega) (Ev.pos (by omega) ?_)
  rw [Int.toNat_natCast]
  exact copy_ev (fun _ _ _ _ => rfl) l (by omega)
theorem eqByteS_ev (a b : List Int) (hl : a.length ≤ 35184372088832) : Ev (fun k => laws_eqByteS.f k a b) (decide (a = b)) := by
  by_cases h : a.length = b.length
  · exact Ev.pos (by omega) (eq_ev (fun _ _ _ _ => rfl) a b h (by omega))
  · refine Ev.neg (by omega) (Ev.some ?_)
    symm
    apply decide_eq_false
    rintro rfl
    exact h rfl
def sumStep (s : Int × Int) (b : Int) : Int × Int := (Int.tmod (wrap64 (s.1 + wrap64 b)) 65521, Int.tmod (wrap64 (s.2 + Int.tmod (wrap64 (s.1 + wrap64 b)) 65521)) 65521)
def sumOf (l : List Int) : Int := let s := l.foldl sumStep (1, 0); wrap64 (wrap64 (s.2 * 65536) + s.1)
theorem sSumOf_ev (l : List Int) (hl : l.length ≤ 281474976710656) : Ev (fun k => spec_SumOf.f k l) (sumOf l) := by
  refine fold_ev (G := fun k (s : Int × Int) i => spec_SumOf.l0 k l s.1 s.2 i) (n := l.length) (st := fun i => (l.take i).foldl sumStep (1, 0)) ?_ ?_
  · refine Ev.step (fun k => rfl) (Ev.neg (by omega) (Ev.some ?_))
    simp only [List.take_length]
    rfl
  · intro i hi r hr
    refine Ev.step (fun k => rfl) (Ev.pos (by omega) (Ev.pos (by omega) ?_))
    rw [wrap_succ hi hl, rd_get hi]
    rw [← List.take_append_getElem hi, List.foldl_append] at hr
    exact hr
theorem iSumOf_ev (l : List Int) (hl : l.length ≤ 281474976710656) : Ev (fun k => impl_SumOf.f k l) (sumOf l) := by
  refine fold_ev (G := fun k (s : Int × Int) i => impl_SumOf.l0 k s.1 s.2 l (l.length : Int) i) (n := l.length) (st := fun i => (l.take i).foldl sumStep (1, 0)) ?_ ?_
  · refine Ev.step (fun k => rfl) (Ev.neg (by omega) (Ev.some ?_))
    simp only [List.take_length]
    rfl
  · intro i hi r hr
    refine Ev.step (fun k => rfl) (Ev.pos (by omega) (Ev.pos (by omega) (Ev.pos (by omega) ?_)))
    rw [wrap_succ hi hl, rd_get hi]
    rw [← List.take_append_getElem hi, List.foldl_append] at hr
    exact hr
theorem FnExactBlockSum : laws_FnExactBlockSum.Pure := by
  intro l _ _ _
  refine Ev.rounds ?_
  by_cases hb : (l.length : Int) > 1048576
  · exact Ev.pos hb (Ev.some rfl)
  · have h := toByteS_ev l (by omega)
    have hs : Ev (fun k => spec_BlockSum.f k l) (if (l.length : Int) == 8 then sumOf l else 0) := by
      refine Ev.bind (Ev.now _) ?_
      cases ((l.length : Int) == 8)
      · exact Ev.neg (by simp) (Ev.some rfl)
      · exact Ev.pos rfl (Ev.bind (sSumOf_ev l (by omega)) (Ev.some rfl))
    have hi : Ev (fun k => impl_BlockSum.f k l) (if (l.length : Int) == 8 then sumOf l else 0) := by
      refine Ev.bind (Ev.now _) ?_
      cases ((l.length : Int) == 8)
      · exact Ev.neg (by simp) (Ev.some rfl)
      · exact Ev.pos rfl (Ev.bind (iSumOf_ev l (by omega)) (Ev.some rfl))
    exact Ev.neg hb (Ev.bind h (Ev.bind hs (Ev.bind h (Ev.bind hi (Ev.pos rfl (Ev.bind h (Ev.bind (eqByteS_ev l l (by omega)) (Ev.pos (by simp) (Ev.some rfl)))))))))
end Go.Proofs.Ytnbgdddcbmlcpaa.Pure
