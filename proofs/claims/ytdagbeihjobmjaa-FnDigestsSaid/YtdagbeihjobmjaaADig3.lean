/- Digests of drawn images: the laws. -/
import Derived.Test.YtdagbeihjobmjaaADraw4
import Derived.Test.YtdagbeihjobmjaaALaw
namespace Go.Proofs.Ytdagbeihjobmjaa.Eng.A
set_option linter.unusedSimpArgs false
set_option linter.unusedVariables false
set_option maxHeartbeats 8000000
set_option maxRecDepth 100000
open Go.RowKit Go.Proofs

/-! One digest, one number. -/
theorem putN_small {n : Nat} (h : n ≤ 127) : putN n = [(n : Int)] := by
  unfold putN
  rw [initN, lastN, dif_neg (by omega), dif_neg (by omega)]
  rfl
theorem putN_two {n : Nat} (h1 : 127 < n) (h2 : n ≤ 255) : putN n = [((n % 128 + 128 : Nat) : Int), 1] := by
  unfold putN
  rw [initN, lastN, dif_pos (by omega), dif_pos (by omega), initN, lastN, dif_neg (by omega), dif_neg (by omega)]
  have : n / 128 = 1 := by omega
  rw [this]
  rfl
theorem sum_one {c : Int} (h1 : 0 ≤ c) (h2 : c ≤ 127) : sumOf [c] = (1 + c) * 65537 := by
  have w1 : IntKind.i64.wrap c = c := wrap_id (by omega) (by omega)
  have w2 : IntKind.i64.wrap (1 + c) = 1 + c := wrap_id (by omega) (by omega)
  have m1 : (1 + c).tmod 65521 = 1 + c := Int.tmod_eq_of_lt (by omega) (by omega)
  have w3 : IntKind.i64.wrap (0 + (1 + c)) = 1 + c := by rw [wrap_id (by omega) (by omega)]; omega
  have w4 : IntKind.i64.wrap ((1 + c) * 65536) = (1 + c) * 65536 := wrap_id (by omega) (by omega)
  have w5 : IntKind.i64.wrap ((1 + c) * 65536 + (1 + c)) = (1 + c) * 65536 + (1 + c) := wrap_id (by omega) (by omega)
  simp only [sumOf, sumF, sumStep, sumStep2, w1, w2, m1, w3, w4, w5]
  omega
theorem sum_two {c : Int} (h1 : 128 ≤ c) (h2 : c ≤ 255) : sumOf [c, 1] = (3 + 2 * c) * 65536 + (2 + c) := by
  have w0 : IntKind.i64.wrap 1 = 1 := wrap_id (by omega) (by omega)
  have w1 : IntKind.i64.wrap c = c := wrap_id (by omega) (by omega)
  have w2 : IntKind.i64.wrap (1 + c) = 1 + c := wrap_id (by omega) (by omega)
  have m1 : (1 + c).tmod 65521 = 1 + c := Int.tmod_eq_of_lt (by omega) (by omega)
  have w3 : IntKind.i64.wrap (0 + (1 + c)) = 1 + c := by rw [wrap_id (by omega) (by omega)]; omega
  have w6 : IntKind.i64.wrap (1 + c + 1) = 2 + c := by rw [wrap_id (by omega) (by omega)]; omega
  have m2 : (2 + c).tmod 65521 = 2 + c := Int.tmod_eq_of_lt (by omega) (by omega)
  have w7 : IntKind.i64.wrap (1 + c + (2 + c)) = 3 + 2 * c := by rw [wrap_id (by omega) (by omega)]; omega
  have m3 : (3 + 2 * c).tmod 65521 = 3 + 2 * c := Int.tmod_eq_of_lt (by omega) (by omega)
  have w4 : IntKind.i64.wrap ((3 + 2 * c) * 65536) = (3 + 2 * c) * 65536 := wrap_id (by omega) (by omega)
  have w5 : IntKind.i64.wrap ((3 + 2 * c) * 65536 + (2 + c)) = (3 + 2 * c) * 65536 + (2 + c) := wrap_id (by omega) (by omega)
  simp only [sumOf, sumF, sumStep, sumStep2, w0, w1, w2, m1, w3, w6, m2, w7, m3, w4, w5]
def dg (n : Nat) : Int := sumOf (putN n)
theorem dg_small {n : Nat} (h : n ≤ 127) : dg n = (1 + n) * 65537 := by unfold dg; rw [putN_small h, sum_one (by omega) (by omega)]
theorem dg_two {n : Nat} (h1 : 127 < n) (h2 : n ≤ 200) : dg n = (3 + 2 * n) * 65536 + (2 + n) := by
  unfold dg
  rw [putN_two h1 (by omega), sum_two (by omega) (by omega)]
  have : n % 128 + 128 = n := by omega
  rw [this]
theorem dg_pos {n : Nat} (h : n ≤ 200) : 0 ≤ dg n := by
  by_cases h1 : n ≤ 127
  · rw [dg_small h1]; omega
  · rw [dg_two (by omega) h]; omega
theorem dg_inj {a b : Nat} (ha : a ≤ 200) (hb : b ≤ 200) (h : dg a = dg b) : a = b := by
  by_cases h1 : a ≤ 127 <;> by_cases h2 : b ≤ 127
  · rw [dg_small h1, dg_small h2] at h; omega
  · rw [dg_small h1, dg_two (by omega) hb] at h; omega
  · rw [dg_two (by omega) ha, dg_small h2] at h; omega
  · rw [dg_two (by omega) ha, dg_two (by omega) hb] at h; omega
theorem image_at {m : List Int} (h : imageOk m = true) (i : Nat) (hi : i < 8) : 0 ≤ m.getD i 0 ∧ m.getD i 0 ≤ 200 := by
  have hl := imageOk_len h
  simp only [imageOk, Bool.and_eq_true, Bool.not_eq_true', List.any_eq_false] at h
  have hm : m.getD i 0 ∈ m := by
    rw [List.getD_eq_getElem?_getD, List.getElem?_eq_getElem (by omega)]
    exact List.getElem_mem _
  have := h.2 _ hm
  exact rng_iff.1 (by simpa using this)
theorem digest_dg {m : List Int} (h : imageOk m = true) (i : Nat) (hi : i < 8) : digest m i = dg (m.getD i 0).toNat := by
  unfold digest
  rw [if_pos (by rw [h, rng_iff.2 (by omega)]; rfl), Int.toNat_natCast]
  rfl
theorem digF_inj {a b : List Int} (ha : imageOk a = true) (hb : imageOk b = true) (i j : Nat) (hi : i < 8) (hj : j < 8) : (digest a i == digest b j) = (a.getD i 0 == b.getD j 0) := by
  rw [digest_dg ha i hi, digest_dg hb j hj]
  have h1 := image_at ha i hi
  have h2 := image_at hb j hj
  rw [Bool.eq_iff_iff, beq_iff_eq, beq_iff_eq]
  constructor
  · intro h
    have := dg_inj (by omega) (by omega) h
    omega
  · intro h
    rw [h]
theorem digestsOk_digF {a : List Int} (ha : imageOk a = true) : digestsOk (digF a 8) = true := by
  simp only [digestsOk, digF_length, decide_true, Bool.true_and, Bool.not_eq_true', List.any_eq_false, decide_eq_true_eq]
  intro x hx
  simp only [digF, List.mem_map, List.mem_range] at hx
  obtain ⟨i, hi, rfl⟩ := hx
  rw [digest_dg ha i hi]
  have := dg_pos (n := (a.getD i 0).toNat) (by have := image_at ha i hi; omega)
  omega
def S_dOut (ws d : List Int) (i : Nat) : XS := ⟨⟨[.bad, .bad, .bad, .v false [.sl 0 [] 0 8], .bad, .bad, .bad, .v false [.sl 1 [] 0 8], .v false [.int .i64 (i)], .bad, .bad, .bad, .bad, .bad, .bad, .bad, .bad, .bad, .bad, .bad, .bad, .bad, .bad, .bad, .bad, .bad, .bad, .bad, .bad, .bad, .bad, .bad, .bad, .bad, .bad, .bad, .bad, .bad, .bad, .bad, .bad, .bad, .bad, .bad, .bad, .bad, .bad, .bad, .bad, .bad, .bad, .bad, .bad, .bad, .bad, .bad, .bad, .bad, .bad, .bad, .bad, .bad, .bad, .bad, .bad, .bad, .bad, .bad, .bad, .bad, .bad, .bad, .bad, .bad, .bad, .bad, .bad, .bad, .bad, .bad, .bad, .bad, .bad, .bad], memL [some (.row 1 (cl .i64 ws)), some (.row 1 (cl .i64 d))], []⟩, 2⟩
def Z_dOut (d : List Int) : XS := ⟨⟨[.bad, .bad, .bad, .bad, .bad, .bad, .bad, .v false [.sl 0 [] 0 8], .bad, .bad, .bad, .bad, .bad, .bad, .bad, .bad, .bad, .bad, .bad, .bad, .bad, .bad, .bad, .bad, .bad, .bad, .bad, .bad, .bad, .bad, .bad, .bad, .bad, .bad, .bad, .bad, .bad, .bad, .bad, .bad, .bad, .bad, .bad, .bad, .bad, .bad, .bad, .bad, .bad, .bad, .bad, .bad, .bad, .bad, .bad, .bad, .bad, .bad, .bad, .bad, .bad, .bad, .bad, .bad, .bad, .bad, .bad, .bad, .bad, .bad, .bad, .bad, .bad, .bad, .bad, .bad, .bad, .bad, .bad, .bad, .bad, .bad, .bad, .bad], memL [some (.row 1 (cl .i64 d))], []⟩, 1⟩
def S_dIn (ws d : List Int) (i j : Nat) : XS := ⟨⟨[.bad, .bad, .bad, .v false [.sl 0 [] 0 8], .bad, .bad, .bad, .v false [.sl 1 [] 0 8], .v false [.int .i64 (i)], .v false [.int .i64 (j)], .bad, .bad, .bad, .bad, .bad, .bad, .bad, .bad, .bad, .bad, .bad, .bad, .bad, .bad, .bad, .bad, .bad, .bad, .bad, .bad, .bad, .bad, .bad, .bad, .bad, .bad, .bad, .bad, .bad, .bad, .bad, .bad, .bad, .bad, .bad, .bad, .bad, .bad, .bad, .bad, .bad, .bad, .bad, .bad, .bad, .bad, .bad, .bad, .bad, .bad, .bad, .bad, .bad, .bad, .bad, .bad, .bad, .bad, .bad, .bad, .bad, .bad, .bad, .bad, .bad, .bad, .bad, .bad, .bad, .bad, .bad, .bad, .bad, .bad], memL [some (.row 1 (cl .i64 ws)), some (.row 1 (cl .i64 d))], []⟩, 2⟩
def Z_dIn (ws d : List Int) (i : Nat) : XS := ⟨⟨[.bad, .bad, .bad, .v false [.sl 0 [] 0 8], .bad, .bad, .bad, .v false [.sl 1 [] 0 8], .v false [.int .i64 (i)], .bad, .bad, .bad, .bad, .bad, .bad, .bad, .bad, .bad, .bad, .bad, .bad, .bad, .bad, .bad, .bad, .bad, .bad, .bad, .bad, .bad, .bad, .bad, .bad, .bad, .bad, .bad, .bad, .bad, .bad, .bad, .bad, .bad, .bad, .bad, .bad, .bad, .bad, .bad, .bad, .bad, .bad, .bad, .bad, .bad, .bad, .bad, .bad, .bad, .bad, .bad, .bad, .bad, .bad, .bad, .bad, .bad, .bad, .bad, .bad, .bad, .bad, .bad, .bad, .bad, .bad, .bad, .bad, .bad, .bad, .bad, .bad, .bad, .bad, .bad], memL [some (.row 1 (cl .i64 ws)), some (.row 1 (cl .i64 d))], []⟩, 2⟩
theorem loop_dIn (ws d : List Int) (hw : 8 ≤ ws.length) (hd : d.length = 8) (hE : ∀ i j : Nat, i < 8 → j < 8 → (d.getD i 0 == d.getD j 0) = (ws.getD i 0 == ws.getD j 0)) (i : Nat) (hi : i < 8) {x : XS} (hx : head true d3_1 x = S_dIn ws d i 0) :
    X tab l3_1 x = some (.exit 2, Z_dIn ws d i) := by
  refine loopN 8 (S_dIn ws d i) _ (by simp) (fun j hj => ?_) ?_ (Nat.zero_le _) hx
  · have r1 := cl_read (k := .i64) (drop_getD (l := d) (i := i) (by omega)) 1 []
    have r2 := cl_read (k := .i64) (drop_getD (l := d) (i := j) (by omega)) 1 []
    have r3 := cl_read (k := .i64) (drop_getD (l := ws) (i := i) (by omega)) 0 []
    have r4 := cl_read (k := .i64) (drop_getD (l := ws) (i := j) (by omega)) 0 []
    have hq := hE i j hi hj
    have h1 : (j : Int) < 8 := by omega
    have h2 : (i : Int) < 8 := by omega
    have h4 : IntKind.i64.wrap ((j : Int) + 1) = ((j + 1 : Nat) : Int) := by rw [wrap_id (by omega) (by omega)]; omega
    generalize d.getD i 0 = p1 at r1 hq
    generalize d.getD j 0 = p2 at r2 hq
    generalize ws.getD i 0 = p3 at r3 hq
    generalize ws.getD j 0 = p4 at r4 hq
    cases hb : (p3 == p4) <;> rw [hb] at hq <;>
    · simp (maxSteps := 4000000) -implicitDefEqProofs [b3_1, S_dIn, x_seq, x_cond, x_block, x_region, x_skip, x_exit, x_ret, head_id, runG, runOps, doOp, wantB, stepOp, AO.eff, pureOp, St.get, St.one, St.num, St.put, St.optNum, binA, binInt, List.take, List.drop, gOp, gRes, gEff, addObs_nil, addObs_one, freshB_memL, freshB_none, freshB_upd, freshB_addMem, freshB_addObs, cellsAt, memL_app, h1, h2, h4, hi, hj, r1, r2, r3, r4, hb, hq]
      change _ = _
      kernel_rfl
  · simp (maxSteps := 4000000) -implicitDefEqProofs [b3_1, S_dIn, x_seq, x_cond, x_block, x_region, x_skip, x_exit, x_ret, head_id, runG, runOps, doOp, wantB, stepOp, AO.eff, pureOp, St.get, St.one, St.num, St.put, St.optNum, binA, binInt, List.take, List.drop]
    change _ = _
    kernel_rfl
theorem loop_dOut (ws d : List Int) (hw : 8 ≤ ws.length) (hd : d.length = 8) (hE : ∀ i j : Nat, i < 8 → j < 8 → (d.getD i 0 == d.getD j 0) = (ws.getD i 0 == ws.getD j 0)) {x : XS} (hx : head true d3_0 x = S_dOut ws d 0) :
    X tab l3_0 x = some (.exit 0, Z_dOut d) := by
  refine loopN 8 (S_dOut ws d) _ (by simp) (fun i hi => ?_) ?_ (Nat.zero_le _) hx
  · have h2 : (i : Int) < 8 := by omega
    have h4 : IntKind.i64.wrap ((i : Int) + 1) = ((i + 1 : Nat) : Int) := by rw [wrap_id (by omega) (by omega)]; omega
    simp (maxSteps := 4000000) -implicitDefEqProofs [b3_0, S_dOut, x_seq, x_cond, x_block, x_region, x_skip, x_exit, x_ret, head_id, runG, runOps, doOp, wantB, stepOp, AO.eff, pureOp, St.get, St.one, St.num, St.put, St.optNum, binA, binInt, List.take, List.drop, h2, h4]
    rw [loop_dIn ws d hw hd hE i hi (by change _ = _; kernel_rfl)]
    simp (maxSteps := 4000000) -implicitDefEqProofs [Z_dIn, x_seq, x_cond, x_block, x_region, x_skip, x_exit, x_ret, head_id, runG, runOps, doOp, wantB, stepOp, AO.eff, pureOp, St.get, St.one, St.num, St.put, St.optNum, binA, binInt, List.take, List.drop, h4]
    change _ = _
    kernel_rfl
  · simp (maxSteps := 4000000) -implicitDefEqProofs [b3_0, S_dOut, x_seq, x_cond, x_block, x_region, x_skip, x_exit, x_ret, head_id, runG, runOps, doOp, wantB, stepOp, AO.eff, pureOp, St.get, St.one, St.num, St.put, St.optNum, binA, binInt, List.take, List.drop]
    change _ = _
    kernel_rfl
theorem law_FnDigests (l : List Int) (hn : l.length ≤ 140737488351232) (hw : ∀ x ∈ l, (Lit.int .u8 x).wf = true) :
    runRO (X tab) tab 3 [.v false [.ro l.length (cl .u8 l)]] = some (.v false [.bool true], []) := by
  have hb := r_big l
  by_cases hbig : (1048576 : Int) < (l.length : Int)
  · rw [decide_eq_true hbig] at hb
    unfold runRO
    simp (maxSteps := 4000000) -implicitDefEqProofs [tab3, a3, x_seq, x_cond, x_block, x_region, x_skip, x_exit, x_ret, head_id, runG, runOps, doOp, wantB, stepOp, AO.eff, pureOp, St.get, St.one, St.num, St.put, St.optNum, binA, binInt, List.take, List.drop, callRO, addMem_nil, roArgs, roL, roA, srcCells, A1.ownB, addMem, shift, ren, SV.map, Ob.map, Ob.noRo, SV.noRo, A1.noRo, List.range, List.range.loop, resOf, resSV, SV.map, SV.ids, A1.ids, reach, allObs, ren, pos, Ob.map, St.canon, memL, List.range, List.range.loop, hb]
  · rw [decide_eq_false hbig] at hb
    have hl : l.length ≤ 1048576 := by omega
    obtain ⟨ws, im, k, ⟨hI1, hI2, hI3, hI4⟩, e0⟩ := r_DrawDigest l hl
    obtain ⟨ws2, im2, ⟨hJ1, hJ2, hJ3, hJ4⟩, e1⟩ := r_DrawDigests l hl
    obtain ⟨ds, hds, e2⟩ := r_DrawDigestsOk l hl
    have hT := take_im hI4
    have hT2 := take_im hJ4
    have g1 := r_Digests im (by omega)
    have g2 := r_Digest im (by omega) k
    have g3 := r_sDigest im (by omega) k
    have g4 := r_Digests im2 (by omega)
    have g5 := r_sDigests im2 (by omega)
    have g6 := r_DigestsOk ds (by omega)
    have g7 := r_sDigestsOk ds (by omega)
    have g8 := r_ImageOk im (by omega)
    have hs := digests_len im2
    have g9 := r_sameInts (digests im2) (by omega)
    have u1 : (cl .i64 (digests im2)).take (digests im2).length = cl .i64 (digests im2) := cl_self
    have u2 : (cl .i64 ds).take ds.length = cl .i64 ds := cl_self
    have hle1 : im.length ≤ (cl .i64 ws).length := by rw [cl_length]; exact hI2
    generalize digests im2 = d2 at g4 g5 g9 u1
    generalize digest im k = dk at g2 g3
    generalize digestsOk ds = b0 at g6 g7
    cases hok : imageOk im with
    | false =>
      rw [hok] at g8
      have hd0 : digests im = [] := by unfold digests; rw [hok]; rfl
      rw [hd0] at g1
      simp only [List.length_nil, cl_nil] at g1
      unfold runRO
      simp (maxSteps := 4000000) -implicitDefEqProofs [tab3, a3, x_seq, x_cond, x_block, x_region, x_skip, x_exit, x_ret, head_id, runG, runOps, doOp, wantB, stepOp, AO.eff, pureOp, St.get, St.one, St.num, St.put, St.optNum, binA, binInt, List.take, List.drop, callRO, addMem_nil, roArgs, roL, roA, srcCells, A1.ownB, addMem, shift, ren, SV.map, Ob.map, Ob.noRo, SV.noRo, A1.noRo, List.range, List.range.loop, resOf, resSV, SV.map, SV.ids, A1.ids, reach, allObs, ren, pos, Ob.map, St.canon, memL, List.range, List.range.loop, cellsAt, hb, e0, e1, e2, g1, g2, g3, g4, g5, g6, g7, g8, g9, hT, hT2, u1, u2, hI2, hJ2, cl_length]
    | true =>
      rw [hok] at g8
      have hd0 : digests im = digF im 8 := by unfold digests; rw [hok]; rfl
      rw [hd0, digF_length] at g1
      have hil := imageOk_len hok
      have hE : ∀ i j : Nat, i < 8 → j < 8 → ((digF im 8).getD i 0 == (digF im 8).getD j 0) = (ws.getD i 0 == ws.getD j 0) := by
        intro i j hi hj
        rw [digF_at im i hi, digF_at im j hj, digF_inj hok hok i j hi hj, ← hI4, hil]
        simp [List.getD_eq_getElem?_getD, List.getElem?_take, hi, hj]
      have hlo := loop_dOut ws (digF im 8) (by omega) (digF_length im 8)
      have g10 := r_DigestsOk (digF im 8) (by rw [digF_length]; omega)
      rw [digestsOk_digF hok, digF_length] at g10
      have hdl := digF_length im 8
      have u3 : (cl .i64 (digF im 8)).take 8 = cl .i64 (digF im 8) := by have e := cl_self (k := .i64) (l := digF im 8); rwa [hdl] at e
      have u4 : (cl .i64 (digF im 8)).length = 8 := by rw [cl_length, hdl]
      generalize digF im 8 = d at g1 hE hlo g10 hdl u3 u4
      rw [hil] at e0 hT g8 g2 g3 g1 hI2
      unfold runRO
      simp (maxSteps := 4000000) -implicitDefEqProofs [tab3, a3, x_seq, x_cond, x_block, x_region, x_skip, x_exit, x_ret, head_id, runG, runOps, doOp, wantB, stepOp, AO.eff, pureOp, St.get, St.one, St.num, St.put, St.optNum, binA, binInt, List.take, List.drop, callRO, addMem_nil, roArgs, roL, roA, srcCells, A1.ownB, addMem, shift, ren, SV.map, Ob.map, Ob.noRo, SV.noRo, A1.noRo, List.range, List.range.loop, cellsAt, hb, e0, e1, e2, g1, g2, g3, g4, g5, g6, g7, g8, g9, hT, hT2, u1, u2, hI2, hJ2, cl_length]
      rw [hlo hE (by change _ = _; kernel_rfl)]
      simp (maxSteps := 4000000) -implicitDefEqProofs [Z_dOut, x_seq, x_cond, x_block, x_region, x_skip, x_exit, x_ret, head_id, runG, runOps, doOp, wantB, stepOp, AO.eff, pureOp, St.get, St.one, St.num, St.put, St.optNum, binA, binInt, List.take, List.drop, callRO, addMem_nil, roArgs, roL, roA, srcCells, A1.ownB, addMem, shift, ren, SV.map, Ob.map, Ob.noRo, SV.noRo, A1.noRo, List.range, List.range.loop, resOf, resSV, SV.map, SV.ids, A1.ids, reach, allObs, ren, pos, Ob.map, St.canon, memL, List.range, List.range.loop, cellsAt, memL_app, g10, u3, u4]
end Go.Proofs.Ytdagbeihjobmjaa.Eng.A
