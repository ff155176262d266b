/- Digests of an image's cells, as the program and the reference compute them; the law of them. -/
import Derived.Test.YtdagbeihjobmjaaANum
namespace Go.Proofs.Ytdagbeihjobmjaa.Eng.A
set_option linter.unusedSimpArgs false
set_option linter.unusedVariables false
open Go.RowKit Go.Proofs

theorem imageOk_at {l : List Int} {i : Int} (h : imageOk l = true) (hi : rng i 0 7 = true) : ∃ y : Nat, ∃ r, l.drop i.toNat = (y : Int) :: r ∧ y ≤ 200 := by
  simp only [imageOk, Bool.and_eq_true, decide_eq_true_eq, Bool.not_eq_true', List.any_eq_false] at h
  have hi' := rng_iff.1 hi
  have hlt : i.toNat < l.length := by omega
  have hy := h.2 l[i.toNat] (List.getElem_mem hlt)
  have hy' : 0 ≤ l[i.toNat] ∧ l[i.toNat] ≤ 200 := by
    rw [← rng_iff]
    simpa using hy
  refine ⟨l[i.toNat].toNat, l.drop (i.toNat + 1), ?_, by omega⟩
  rw [List.drop_eq_getElem_cons hlt, Int.toNat_of_nonneg hy'.1]
def digest (l : List Int) (i : Int) : Int := if (imageOk l && rng i 0 7) = true then sumOf (putN (l.getD i.toNat 0).toNat) else 0
theorem r_sDigest (l : List Int) (hn : l.length ≤ 1048576) (i : Int) : runRO (X tab) tab 21 [.v false [.ro l.length (cl .i64 l)], .v false [.int .i64 i]] = some (.v false [.int .i64 (digest l i)], []) := by
  have h1 := r_sImageOk l hn
  have h2 := r_l1In i 0 7
  unfold runRO
  cases hI : imageOk l with
  | false =>
    rw [hI] at h1
    simp (maxSteps := 4000000) -implicitDefEqProofs [tab21, a21, x_seq, x_cond, x_block, x_region, x_skip, x_exit, x_ret, head_id, runG, runOps, doOp, wantB, stepOp, AO.eff, pureOp, St.get, St.one, St.num, St.put, St.optNum, binA, binInt, List.take, List.drop, callRO, addMem_nil, roArgs, roL, roA, srcCells, A1.ownB, addMem, shift, ren, SV.map, Ob.map, Ob.noRo, SV.noRo, A1.noRo, List.range, List.range.loop, resOf, resSV, SV.map, SV.ids, A1.ids, reach, allObs, ren, pos, Ob.map, St.canon, memL, List.range, List.range.loop, h1, digest, hI]
  | true =>
    rw [hI] at h1
    cases hB : rng i 0 7 with
    | false =>
      rw [hB] at h2
      simp (maxSteps := 4000000) -implicitDefEqProofs [tab21, a21, x_seq, x_cond, x_block, x_region, x_skip, x_exit, x_ret, head_id, runG, runOps, doOp, wantB, stepOp, AO.eff, pureOp, St.get, St.one, St.num, St.put, St.optNum, binA, binInt, List.take, List.drop, callRO, addMem_nil, roArgs, roL, roA, srcCells, A1.ownB, addMem, shift, ren, SV.map, Ob.map, Ob.noRo, SV.noRo, A1.noRo, List.range, List.range.loop, resOf, resSV, SV.map, SV.ids, A1.ids, reach, allObs, ren, pos, Ob.map, St.canon, memL, List.range, List.range.loop, h1, h2, digest, hI, hB]
    | true =>
      rw [hB] at h2
      obtain ⟨y, r, hd, hy⟩ := imageOk_at hI hB
      have hg : l.getD i.toNat 0 = (y : Int) := by
        rw [List.getD_eq_getElem?_getD]
        have := congrArg (fun q : List Int => q[0]?) hd
        simp only [List.getElem?_drop, Nat.add_zero] at this
        rw [this]; rfl
      have hi := rng_iff.1 hB
      have hlt := drop_lt hd
      have h8 : l.length = 8 := by
        simp only [imageOk, Bool.and_eq_true, decide_eq_true_eq] at hI
        exact hI.1
      have h3 : 0 ≤ i ∧ i < (l.length : Int) := by omega
      have h4 := cl_at (k := .i64) hd
      have h5 := r_sPutNum y (by omega)
      have h6 := r_sSumOf (putN y) (by have := putN_five (n := y) (by omega); omega)
      have e : digest l i = sumOf (putN y) := by
        unfold digest
        rw [hI, hB, hg]
        rfl
      rw [e]
      simp (maxSteps := 4000000) -implicitDefEqProofs [tab21, a21, x_seq, x_cond, x_block, x_region, x_skip, x_exit, x_ret, head_id, runG, runOps, doOp, wantB, stepOp, AO.eff, pureOp, St.get, St.one, St.num, St.put, St.optNum, binA, binInt, List.take, List.drop, callRO, addMem_nil, roArgs, roL, roA, srcCells, A1.ownB, addMem, shift, ren, SV.map, Ob.map, Ob.noRo, SV.noRo, A1.noRo, List.range, List.range.loop, resOf, resSV, SV.map, SV.ids, A1.ids, reach, allObs, ren, pos, Ob.map, St.canon, memL, List.range, List.range.loop, h1, h2, h3, h4, h5, h6, fromRo, cellsAt, cl_self, cl_length]
theorem r_Digest (l : List Int) (hn : l.length ≤ 1048576) (i : Int) : runRO (X tab) tab 20 [.v false [.ro l.length (cl .i64 l)], .v false [.int .i64 i]] = some (.v false [.int .i64 (digest l i)], []) := by
  have h1 := r_ImageOk l hn
  have h2 := r_isCell i
  unfold runRO
  cases hI : imageOk l with
  | false =>
    rw [hI] at h1
    simp (maxSteps := 4000000) -implicitDefEqProofs [tab20, a20, x_seq, x_cond, x_block, x_region, x_skip, x_exit, x_ret, head_id, runG, runOps, doOp, wantB, stepOp, AO.eff, pureOp, St.get, St.one, St.num, St.put, St.optNum, binA, binInt, List.take, List.drop, callRO, addMem_nil, roArgs, roL, roA, srcCells, A1.ownB, addMem, shift, ren, SV.map, Ob.map, Ob.noRo, SV.noRo, A1.noRo, List.range, List.range.loop, resOf, resSV, SV.map, SV.ids, A1.ids, reach, allObs, ren, pos, Ob.map, St.canon, memL, List.range, List.range.loop, h1, digest, hI]
  | true =>
    rw [hI] at h1
    cases hB : rng i 0 7 with
    | false =>
      rw [hB] at h2
      simp (maxSteps := 4000000) -implicitDefEqProofs [tab20, a20, x_seq, x_cond, x_block, x_region, x_skip, x_exit, x_ret, head_id, runG, runOps, doOp, wantB, stepOp, AO.eff, pureOp, St.get, St.one, St.num, St.put, St.optNum, binA, binInt, List.take, List.drop, callRO, addMem_nil, roArgs, roL, roA, srcCells, A1.ownB, addMem, shift, ren, SV.map, Ob.map, Ob.noRo, SV.noRo, A1.noRo, List.range, List.range.loop, resOf, resSV, SV.map, SV.ids, A1.ids, reach, allObs, ren, pos, Ob.map, St.canon, memL, List.range, List.range.loop, h1, h2, digest, hI, hB]
    | true =>
      rw [hB] at h2
      obtain ⟨y, r, hd, hy⟩ := imageOk_at hI hB
      have hg : l.getD i.toNat 0 = (y : Int) := by
        rw [List.getD_eq_getElem?_getD]
        have := congrArg (fun q : List Int => q[0]?) hd
        simp only [List.getElem?_drop, Nat.add_zero] at this
        rw [this]; rfl
      have hi := rng_iff.1 hB
      have hlt := drop_lt hd
      have h8 : l.length = 8 := by
        simp only [imageOk, Bool.and_eq_true, decide_eq_true_eq] at hI
        exact hI.1
      have h3 : 0 ≤ i ∧ i < (l.length : Int) := by omega
      have h4 := cl_at (k := .i64) hd
      have h5 := r_PutNum y (by omega)
      have h6 := r_SumOf (putN y) (by have := putN_five (n := y) (by omega); omega)
      have e : digest l i = sumOf (putN y) := by
        unfold digest
        rw [hI, hB, hg]
        rfl
      rw [e]
      simp (maxSteps := 4000000) -implicitDefEqProofs [tab20, a20, x_seq, x_cond, x_block, x_region, x_skip, x_exit, x_ret, head_id, runG, runOps, doOp, wantB, stepOp, AO.eff, pureOp, St.get, St.one, St.num, St.put, St.optNum, binA, binInt, List.take, List.drop, callRO, addMem_nil, roArgs, roL, roA, srcCells, A1.ownB, addMem, shift, ren, SV.map, Ob.map, Ob.noRo, SV.noRo, A1.noRo, List.range, List.range.loop, resOf, resSV, SV.map, SV.ids, A1.ids, reach, allObs, ren, pos, Ob.map, St.canon, memL, List.range, List.range.loop, h1, h2, h3, h4, h5, h6, fromRo, cellsAt, cl_self, cl_length]
end Go.Proofs.Ytdagbeihjobmjaa.Eng.A
