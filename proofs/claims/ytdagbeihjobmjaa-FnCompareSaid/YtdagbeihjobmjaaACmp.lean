/- Comparing drawn images by their digests: the law. -/
import Derived.Test.YtdagbeihjobmjaaADig3
namespace Go.Proofs.Ytdagbeihjobmjaa.Eng.A
set_option linter.unusedSimpArgs false
set_option linter.unusedVariables false
set_option maxHeartbeats 8000000
set_option maxRecDepth 100000
open Go.RowKit Go.Proofs

theorem r_sPut25 (l : List Int) (h3 : 3 ≤ l.length) (h9 : l.length ≤ 9) : runRO (X tab) tab 100 [.v false [.ro l.length (cl .i64 l)], .v false [.int .i64 2], .v false [.int .i64 5]] = some (.v false [.sl 0 [] 0 l.length], [.row 1 (cl .i64 (l.set 2 5))]) := by
  have h1 := r_l1In 2 0 ((l.length : Int) - 1)
  rw [rng_iff.2 (by omega)] at h1
  have w1 : IntKind.i64.wrap ((l.length : Int) - 1) = (l.length : Int) - 1 := wrap_id (by omega) (by omega)
  have a1 : l.length * 8 ≤ 140737488355328 := by omega
  have a3 : spl [Cell.int .i64 5] 2 (cl .i64 l) = cl .i64 (l.set 2 5) := cl_spl (by omega)
  have a5 : (2 : Int) < (l.length : Int) := by omega
  have a5' : 2 < l.length := by omega
  have a6 : ¬ l.length = 0 := by omega
  have a7 : ¬ l = [] := fun e => a6 (by rw [e]; rfl)
  have u1 : (cl .i64 l).take l.length = cl .i64 l := cl_self
  unfold runRO
  simp (maxSteps := 4000000) -implicitDefEqProofs [tab100, a100, x_seq, x_cond, x_block, x_region, x_skip, x_exit, x_ret, head_id, runG, runOps, doOp, wantB, stepOp, AO.eff, pureOp, St.get, St.one, St.num, St.put, St.optNum, binA, binInt, List.take, List.drop, effOp2, effOp, memL_app, stoRow, cellsAt, toCells, toCell, scalar_int, scalar_bool, scalar_str, scalar_sl, updAt, fromRo, upd, srcCells, A1.slB, flat_int, cl_flat', St.parts, Eng.inB, reps, fillA, newRowSt, appSt, oldOf, rest, kill, mapMem, SV.map, Ob.map, callRO, addMem_nil, roArgs, roL, roA, srcCells, A1.ownB, addMem, shift, ren, SV.map, Ob.map, Ob.noRo, SV.noRo, A1.noRo, List.range, List.range.loop, resOf, resSV, SV.map, SV.ids, A1.ids, reach, allObs, ren, pos, Ob.map, St.canon, memL, List.range, List.range.loop, cellsAt, h1, w1, a1, a3, a5, a5', a6, a7, h3, u1, cl_length, cl_ex]
theorem r_DrawDiffer (l : List Int) (hl : l.length ≤ 1048576) : ∃ ws im ws2 im2 : List Int, (im.length ≤ ws.length ∧ ws.length ≤ 9 ∧ ws.take im.length = im) ∧ (im2.length ≤ ws2.length ∧ ws2.length ≤ 9 ∧ ws2.take im2.length = im2) ∧
    runRO (X tab) tab 30 [.v false [.ro l.length (cl .u8 l)]] = some (.tup [(false, [.sl 0 [] 0 im.length]), (false, [.sl 1 [] 0 im2.length])], [.row 1 (cl .i64 ws), .row 1 (cl .i64 ws2)]) := by
  obtain ⟨h, e0⟩ := r_l1New l hl
  obtain ⟨ws, im, i1, g1, ⟨hI1, hI2, hI3, hI4⟩, e1⟩ := r_l2DrawImage l hl 0 h
  obtain ⟨t, i2, g2, e2⟩ := r_l1Once l hl i1 g1 3
  simp only [Int.ofNat_zero] at e0 e1
  have hT := take_im hI4
  cases t with
  | true =>
    have e3 := r_sPut25 im hI1 (by omega)
    refine ⟨ws, im, im.set 2 5, im.set 2 5, ⟨hI2, hI3, hI4⟩, ⟨Nat.le_refl _, by simp; omega, by rw [List.take_length]⟩, ?_⟩
    rw [List.length_set]
    unfold runRO
    simp (maxSteps := 4000000) -implicitDefEqProofs [tab30, a30, x_seq, x_cond, x_block, x_region, x_skip, x_exit, x_ret, head_id, runG, runOps, doOp, wantB, stepOp, AO.eff, pureOp, St.get, St.one, St.num, St.put, St.optNum, binA, binInt, List.take, List.drop, callRO, addMem_nil, roArgs, roL, roA, srcCells, A1.ownB, addMem, shift, ren, SV.map, Ob.map, Ob.noRo, SV.noRo, A1.noRo, List.range, List.range.loop, callLend, lendBox, A1.ids, roArgs, roL, roA, A1.ownB, addMem_nil, List.range, List.range.loop, SV.map, ren, shift, upd, memL_app, resOf, resSV, SV.map, SV.ids, A1.ids, reach, allObs, ren, pos, Ob.map, St.canon, memL, List.range, List.range.loop, cellsAt, e0, e1, e2, e3, hT, hI2, cl_length]
  | false =>
    obtain ⟨ws2, im2, i3, g3, ⟨hJ1, hJ2, hJ3, hJ4⟩, e3⟩ := r_l2DrawImage l hl i2 g2
    refine ⟨ws, im, ws2, im2, ⟨hI2, hI3, hI4⟩, ⟨hJ2, hJ3, hJ4⟩, ?_⟩
    unfold runRO
    simp (maxSteps := 4000000) -implicitDefEqProofs [tab30, a30, x_seq, x_cond, x_block, x_region, x_skip, x_exit, x_ret, head_id, runG, runOps, doOp, wantB, stepOp, AO.eff, pureOp, St.get, St.one, St.num, St.put, St.optNum, binA, binInt, List.take, List.drop, callRO, addMem_nil, roArgs, roL, roA, srcCells, A1.ownB, addMem, shift, ren, SV.map, Ob.map, Ob.noRo, SV.noRo, A1.noRo, List.range, List.range.loop, callLend, lendBox, A1.ids, roArgs, roL, roA, A1.ownB, addMem_nil, List.range, List.range.loop, SV.map, ren, shift, upd, memL_app, resOf, resSV, SV.map, SV.ids, A1.ids, reach, allObs, ren, pos, Ob.map, St.canon, memL, List.range, List.range.loop, cellsAt, e0, e1, e2, e3, hT, hI2, cl_length]
theorem difF_digF {a b : List Int} (ha : imageOk a = true) (hb : imageOk b = true) : ∀ i, i ≤ 8 → difF (digF a 8) (digF b 8) i = difF a b i := by
  intro i
  induction i with
  | zero => intro _; rfl
  | succ i ih =>
    intro hi
    have h := digF_inj ha hb i i (by omega) (by omega)
    simp only [difF, digF_at _ _ (show i < 8 by omega), h, ih (by omega)]
theorem difF_self (a : List Int) : ∀ i, difF a a i = [] := by
  intro i
  induction i with
  | zero => rfl
  | succ i ih => simp [difF, ih]
theorem law_FnCompare (l : List Int) (hn : l.length ≤ 140737488351232) (hw : ∀ x ∈ l, (Lit.int .u8 x).wf = true) :
    runRO (X tab) tab 4 [.v false [.ro l.length (cl .u8 l)]] = some (.v false [.bool true], []) := by
  have hb := r_big l
  by_cases hbig : (1048576 : Int) < (l.length : Int)
  · rw [decide_eq_true hbig] at hb
    unfold runRO
    simp (maxSteps := 4000000) -implicitDefEqProofs [tab4, a4, x_seq, x_cond, x_block, x_region, x_skip, x_exit, x_ret, head_id, runG, runOps, doOp, wantB, stepOp, AO.eff, pureOp, St.get, St.one, St.num, St.put, St.optNum, binA, binInt, List.take, List.drop, callRO, addMem_nil, roArgs, roL, roA, srcCells, A1.ownB, addMem, shift, ren, SV.map, Ob.map, Ob.noRo, SV.noRo, A1.noRo, List.range, List.range.loop, resOf, resSV, SV.map, SV.ids, A1.ids, reach, allObs, ren, pos, Ob.map, St.canon, memL, List.range, List.range.loop, hb]
  · rw [decide_eq_false hbig] at hb
    have hl : l.length ≤ 1048576 := by omega
    obtain ⟨ws, im, ds, ⟨hI2, hI3, hI4, hds⟩, e0⟩ := r_DrawCompare l hl
    obtain ⟨wx, ix, wy, iy, ⟨hX2, hX3, hX4⟩, ⟨hY2, hY3, hY4⟩, e1⟩ := r_DrawDiffer l hl
    have hT := take_im hI4
    have hTx := take_im hX4
    have hTy := take_im hY4
    have u2 : (cl .i64 ds).take ds.length = cl .i64 ds := cl_self
    have i1 := r_ImageOk ix (by omega)
    have i2 := r_ImageOk iy (by omega)
    -- the first half
    have first : ∀ (rest : Prop), (∀ (A : A1) (ok : Bool) (obs : List Ob) (obs2 : List Ob) (B : A1),
        runRO (X tab) tab 28 [.v false [.ro im.length (cl .i64 im)], .v false [.ro ds.length (cl .i64 ds)]] = some (.tup [(false, [A]), (false, [.bool ok])], obs) →
        runRO (X tab) tab 29 [.v false [.ro im.length (cl .i64 im)], .v false [.ro ds.length (cl .i64 ds)]] = some (.tup [(false, [B]), (false, [.bool ok])], obs2) →
        ((A = .nil ∧ ok = false ∧ obs = [] ∧ B = .sl 0 [] 0 0 ∧ obs2 = [.row 1 []]) ∨ (ok = true ∧ ∃ c : List Int, c.length ≤ 8 ∧ A = .sl 0 [] 0 c.length ∧ obs = [.row 1 (cl .i64 c)] ∧ B = .sl 0 [] 0 c.length ∧ obs2 = [.row 1 (cl .i64 c)])) → rest) → rest := by
      intro rest hk
      cases hc : cmpOk im ds with
      | false => exact hk _ _ _ _ _ (r_Compare_bad im ds (by omega) (by omega) hc) (r_sCompare_bad im ds (by omega) (by omega) hc) (.inl ⟨rfl, rfl, rfl, rfl, rfl⟩)
      | true => exact hk _ _ _ _ _ (r_Compare im ds (by omega) (by omega) hc) (r_sCompare im ds (by omega) (by omega) hc) (.inr ⟨rfl, _, difF_length _ _ _, rfl, rfl, rfl, rfl⟩)
    refine first _ fun A ok obs obs2 B c1 c2 hAB => ?_
    -- the second half
    cases hx : imageOk ix with
    | false =>
      rw [hx] at i1
      rcases hAB with ⟨rfl, rfl, rfl, rfl, rfl⟩ | ⟨rfl, c, hc8, rfl, rfl, rfl, rfl⟩
      · have s1 := r_sameInts_nil1
        unfold runRO
        simp (maxSteps := 4000000) -implicitDefEqProofs [tab4, a4, x_seq, x_cond, x_block, x_region, x_skip, x_exit, x_ret, head_id, runG, runOps, doOp, wantB, stepOp, AO.eff, pureOp, St.get, St.one, St.num, St.put, St.optNum, binA, binInt, List.take, List.drop, callRO, addMem_nil, roArgs, roL, roA, srcCells, A1.ownB, addMem, shift, ren, SV.map, Ob.map, Ob.noRo, SV.noRo, A1.noRo, List.range, List.range.loop, resOf, resSV, SV.map, SV.ids, A1.ids, reach, allObs, ren, pos, Ob.map, St.canon, memL, List.range, List.range.loop, cellsAt, hb, e0, e1, c1, c2, s1, i1, hT, hTx, hTy, u2, hI2, hX2, hY2, cl_length]
      · have s1 := r_sameInts c (by omega)
        have u3 : (cl .i64 c).take c.length = cl .i64 c := cl_self
        unfold runRO
        simp (maxSteps := 4000000) -implicitDefEqProofs [tab4, a4, x_seq, x_cond, x_block, x_region, x_skip, x_exit, x_ret, head_id, runG, runOps, doOp, wantB, stepOp, AO.eff, pureOp, St.get, St.one, St.num, St.put, St.optNum, binA, binInt, List.take, List.drop, callRO, addMem_nil, roArgs, roL, roA, srcCells, A1.ownB, addMem, shift, ren, SV.map, Ob.map, Ob.noRo, SV.noRo, A1.noRo, List.range, List.range.loop, resOf, resSV, SV.map, SV.ids, A1.ids, reach, allObs, ren, pos, Ob.map, St.canon, memL, List.range, List.range.loop, cellsAt, hb, e0, e1, c1, c2, s1, i1, hT, hTx, hTy, u2, u3, hI2, hX2, hY2, cl_length]
    | true =>
      rw [hx] at i1
      cases hy : imageOk iy with
      | false =>
        rw [hy] at i2
        rcases hAB with ⟨rfl, rfl, rfl, rfl, rfl⟩ | ⟨rfl, c, hc8, rfl, rfl, rfl, rfl⟩
        · have s1 := r_sameInts_nil1
          unfold runRO
          simp (maxSteps := 4000000) -implicitDefEqProofs [tab4, a4, x_seq, x_cond, x_block, x_region, x_skip, x_exit, x_ret, head_id, runG, runOps, doOp, wantB, stepOp, AO.eff, pureOp, St.get, St.one, St.num, St.put, St.optNum, binA, binInt, List.take, List.drop, callRO, addMem_nil, roArgs, roL, roA, srcCells, A1.ownB, addMem, shift, ren, SV.map, Ob.map, Ob.noRo, SV.noRo, A1.noRo, List.range, List.range.loop, resOf, resSV, SV.map, SV.ids, A1.ids, reach, allObs, ren, pos, Ob.map, St.canon, memL, List.range, List.range.loop, cellsAt, hb, e0, e1, c1, c2, s1, i1, i2, hT, hTx, hTy, u2, hI2, hX2, hY2, cl_length]
        · have s1 := r_sameInts c (by omega)
          have u3 : (cl .i64 c).take c.length = cl .i64 c := cl_self
          unfold runRO
          simp (maxSteps := 4000000) -implicitDefEqProofs [tab4, a4, x_seq, x_cond, x_block, x_region, x_skip, x_exit, x_ret, head_id, runG, runOps, doOp, wantB, stepOp, AO.eff, pureOp, St.get, St.one, St.num, St.put, St.optNum, binA, binInt, List.take, List.drop, callRO, addMem_nil, roArgs, roL, roA, srcCells, A1.ownB, addMem, shift, ren, SV.map, Ob.map, Ob.noRo, SV.noRo, A1.noRo, List.range, List.range.loop, resOf, resSV, SV.map, SV.ids, A1.ids, reach, allObs, ren, pos, Ob.map, St.canon, memL, List.range, List.range.loop, cellsAt, hb, e0, e1, c1, c2, s1, i1, i2, hT, hTx, hTy, u2, u3, hI2, hX2, hY2, cl_length]
      | true =>
        rw [hy] at i2
        have lx := imageOk_len hx
        have ly := imageOk_len hy
        have dx : digests ix = digF ix 8 := by unfold digests; rw [hx]; rfl
        have dy : digests iy = digF iy 8 := by unfold digests; rw [hy]; rfl
        have q1 := r_Digests iy (by omega)
        have q2 := r_Digests ix (by omega)
        rw [dy, digF_length] at q1
        rw [dx, digF_length] at q2
        have k1 := r_Compare ix (digF iy 8) (by omega) (by rw [digF_length]; omega) (by simp [cmpOk, hx, digestsOk_digF hy])
        have k2 := r_Compare ix (digF ix 8) (by omega) (by rw [digF_length]; omega) (by simp [cmpOk, hx, digestsOk_digF hx])
        rw [difF_digF hx hy 8 (Nat.le_refl _), digF_length] at k1
        rw [difF_self, digF_length] at k2
        have k3 := r_Differ ix iy lx ly
        have v1 : (cl .i64 (digF iy 8)).take 8 = cl .i64 (digF iy 8) := by have e := cl_self (k := .i64) (l := digF iy 8); rwa [digF_length] at e
        have v2 : (cl .i64 (digF ix 8)).take 8 = cl .i64 (digF ix 8) := by have e := cl_self (k := .i64) (l := digF ix 8); rwa [digF_length] at e
        have v3 : (cl .i64 (digF iy 8)).length = 8 := by rw [cl_length, digF_length]
        have v4 : (cl .i64 (digF ix 8)).length = 8 := by rw [cl_length, digF_length]
        have s2 := r_sameInts (difF ix iy 8) (by have := difF_length ix iy 8; omega)
        have u4 : (cl .i64 (difF ix iy 8)).take (difF ix iy 8).length = cl .i64 (difF ix iy 8) := cl_self
        generalize digF iy 8 = dyy at q1 k1 v1 v3
        generalize digF ix 8 = dxx at q2 k2 v2 v4
        generalize difF ix iy 8 = dxy at k1 k3 s2 u4
        simp only [List.length_nil, cl_nil] at k2
        rw [lx] at e1 hTx i1 q2 k1 k2 k3 hX2
        rw [ly] at e1 hTy i2 q1 k3 hY2
        rcases hAB with ⟨rfl, rfl, rfl, rfl, rfl⟩ | ⟨rfl, c, hc8, rfl, rfl, rfl, rfl⟩
        · have s1 := r_sameInts_nil1
          unfold runRO
          simp (maxSteps := 4000000) -implicitDefEqProofs [tab4, a4, x_seq, x_cond, x_block, x_region, x_skip, x_exit, x_ret, head_id, runG, runOps, doOp, wantB, stepOp, AO.eff, pureOp, St.get, St.one, St.num, St.put, St.optNum, binA, binInt, List.take, List.drop, callRO, addMem_nil, roArgs, roL, roA, srcCells, A1.ownB, addMem, shift, ren, SV.map, Ob.map, Ob.noRo, SV.noRo, A1.noRo, List.range, List.range.loop, resOf, resSV, SV.map, SV.ids, A1.ids, reach, allObs, ren, pos, Ob.map, St.canon, memL, List.range, List.range.loop, cellsAt, hb, e0, e1, c1, c2, s1, s2, i1, i2, q1, q2, k1, k2, k3, v1, v2, v3, v4, u4, hT, hTx, hTy, u2, hI2, hX2, hY2, cl_length]
        · have s1 := r_sameInts c (by omega)
          have u3 : (cl .i64 c).take c.length = cl .i64 c := cl_self
          unfold runRO
          simp (maxSteps := 4000000) -implicitDefEqProofs [tab4, a4, x_seq, x_cond, x_block, x_region, x_skip, x_exit, x_ret, head_id, runG, runOps, doOp, wantB, stepOp, AO.eff, pureOp, St.get, St.one, St.num, St.put, St.optNum, binA, binInt, List.take, List.drop, callRO, addMem_nil, roArgs, roL, roA, srcCells, A1.ownB, addMem, shift, ren, SV.map, Ob.map, Ob.noRo, SV.noRo, A1.noRo, List.range, List.range.loop, resOf, resSV, SV.map, SV.ids, A1.ids, reach, allObs, ren, pos, Ob.map, St.canon, memL, List.range, List.range.loop, cellsAt, hb, e0, e1, c1, c2, s1, s2, i1, i2, q1, q2, k1, k2, k3, v1, v2, v3, v4, u4, hT, hTx, hTy, u2, u3, hI2, hX2, hY2, cl_length]
end Go.Proofs.Ytdagbeihjobmjaa.Eng.A
