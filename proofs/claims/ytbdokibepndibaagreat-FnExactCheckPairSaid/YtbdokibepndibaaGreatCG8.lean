/- Zi, Zj, Zk, Zl, as one text. -/
import Derived.Test.YtbdokibepndibaaGreatCG7
namespace Go.Proofs.YtbdokibepndibaaGreat.Eng.C
set_option linter.unusedSimpArgs false
set_option linter.unusedVariables false
set_option maxHeartbeats 16000000
set_option maxRecDepth 100000
open Go.RowKit Go.Proofs
attribute [local simp] x_seq x_cond x_block x_region x_skip x_exit x_ret head_id runG runOps doOp wantB stepOp AO.eff pureOp St.get St.one St.num St.put St.optNum binA binInt gOp gOp0 gOpL gResL updO gRes gEff addObs_nil addObs_one freshB_memL freshB_none freshB_upd freshB_addMem freshB_addObs effOp2 effOp memL_app stoRow cellsAt toCells toCell scalar_int scalar_bool scalar_str scalar_sl updAt fromRo callRO addMem_nil roArgs roL roA srcCells A1.ownB addMem shift ren SV.map Ob.map Ob.noRo SV.noRo A1.noRo resOf resSV SV.ids A1.ids reach allObs pos St.canon A1.slB flat_int cl_flat' St.parts Eng.inB reps fillA newRowSt appSt oldOf

theorem r_sMetaOf (b : List Int) (hB : Bytes b) (hn : b.length ≤ 1000) : runRO (X tab) tab 98 [.v false [.ro b.length (cl .u8 b)]] = some (metaSV (metaOf b)) := by
  have hz : ∀ i, zI i ≤ i := fun i => Nat.le_refl _
  obtain ⟨⟨m, ok⟩, hm⟩ : ∃ r, metaRd z0 b = r := ⟨_, rfl⟩
  rw [metaOf_some hm, metaRd_alike z0 zI b] at *
  have i0 : Ins b (0, true) := Nat.zero_le _
  have q0 := r_sLst b hB (by omega) (0, true) i0
  obtain ⟨i1, n1, v1⟩ := listZ_ins hz i0
  unfold metaRd at hm
  obtain ⟨⟨g, s0⟩, e0⟩ : ∃ r, listZ zI b (0, true) = r := ⟨_, rfl⟩
  rw [e0] at q0 i1 n1 v1 hm
  simp only at i1 n1 v1 hm
  simp only [Int.ofNat_zero] at q0
  obtain ⟨i2, n2, v2⟩ := listZ_ins hz i1
  obtain ⟨⟨L1, s1⟩, e1⟩ : ∃ r, listZ zI b s0 = r := ⟨_, rfl⟩
  rw [e1] at i2 n2 v2 hm
  simp only at i2 n2 v2 hm
  obtain ⟨i3, n3, v3⟩ := listZ_ins hz i2
  obtain ⟨⟨L2, s2⟩, e2⟩ : ∃ r, listZ zI b s1 = r := ⟨_, rfl⟩
  rw [e2] at i3 n3 v3 hm
  simp only at i3 n3 v3 hm
  obtain ⟨i4, n4, v4⟩ := listZ_ins hz i3
  obtain ⟨⟨L3, s3⟩, e3⟩ : ∃ r, listZ zI b s2 = r := ⟨_, rfl⟩
  rw [e3] at i4 n4 v4 hm
  simp only at i4 n4 v4 hm
  have hlo := fun {x} => loop_sMO b hB hn g L1 L2 L3 s0 s1 s2 s3 i1 e1 e2 e3 (x := x)
  obtain ⟨i5, _, v5⟩ := numZ_ins hz i4
  obtain ⟨_, _, v6⟩ := numZ_ins hz i5
  have t1 := r_l4Num b hB (by omega) s3 i4
  obtain ⟨⟨f, s4⟩, e4⟩ : ∃ r, numZ zI b s3 = r := ⟨_, rfl⟩
  rw [e4] at t1 i5 hm v5 v6
  simp only at t1 i5 hm v5 v6
  have t2 := r_l4Num b hB (by omega) s4 i5
  obtain ⟨⟨t, s5⟩, e5⟩ : ∃ r, numZ zI b s4 = r := ⟨_, rfl⟩
  rw [e5] at t2 hm v6
  simp only at t2 hm v6
  simp only [Prod.mk.injEq] at hm
  obtain ⟨hm, hok⟩ := hm
  obtain ⟨x1, a1⟩ : ∃ x, IntKind.i64.wrap (((BitVec.ofInt IntKind.i64.bits (f : Int)) &&& (BitVec.ofInt IntKind.i64.bits 1)).toNat : Int) = x := ⟨_, rfl⟩
  obtain ⟨x2, a2⟩ : ∃ x, IntKind.i64.wrap (((BitVec.ofInt IntKind.i64.bits (f : Int)) &&& (BitVec.ofInt IntKind.i64.bits 2)).toNat : Int) = x := ⟨_, rfl⟩
  obtain ⟨x4, a4⟩ : ∃ x, IntKind.i64.wrap (((BitVec.ofInt IntKind.i64.bits (f : Int)) &&& (BitVec.ofInt IntKind.i64.bits 4)).toNat : Int) = x := ⟨_, rfl⟩
  simp only [flN, a1, a2, a4] at hm
  have sm : SmM m := by rw [← hm]; exact ⟨by simp only; omega, by simp, fun l hl => by simp at hl; rcases hl with rfl | rfl | rfl <;> omega⟩
  have hne := metaB_ne m
  have hnl : ¬ (metaB m).length = 0 := fun e => hne (List.eq_nil_of_length_eq_zero e)
  have hS : S_sMO b g L1 L2 L3 s0 s1 s2 s3 0 = ⟨⟨[.v false [.ro b.length (cl .u8 b)], .bad, .v false [.pr 0 [] 0], .bad, .v false [.pr 1 [] 0], .v false [.pr 2 [] 0], .v false [.int .i64 (0)], .bad, .bad, .bad, .bad, .bad, .bad, .bad, .bad, .bad, .bad, .bad, .bad, .bad, .bad, .bad, .bad, .bad, .bad, .bad, .bad, .bad, .bad, .bad, .bad, .bad, .bad, .bad, .bad, .bad, .bad, .bad, .bad, .bad, .bad, .bad, .bad, .bad, .bad, .bad, .bad, .bad, .bad, .bad, .bad, .bad, .bad, .bad, .bad, .bad, .bad, .bad, .bad, .bad, .bad, .bad, .bad, .bad, .bad], memL [some (.box [.nil, .nil, .bool false, .bool false, .bool false, .int .i64 0]), some (.box [.ro b.length (cl .u8 b), .int .i64 s0.1, .bool s0.2]), some (.box [.sl 3 [] 0 g.length, .nil, .bool false, .bool false, .bool false, .int .i64 0]), some (.row 1 (cl .i64 g))], []⟩, 4⟩ := rfl
  try simp only [rdA] at t1 t2
  have e6 : ∀ x : Int, (!(x == 0)) = (x != 0) := fun _ => rfl
  generalize hR : some (metaSV (if (ok && metaOk m && eqB (metaB m) b) = true then some m else none)) = R
  unfold runRO
  simp (maxSteps := 4000000) -implicitDefEqProofs [tab98, a98, List.take, List.drop, upd, rest, kill, mapMem, callLend, lendBox, A1.ids, roArgs, roL, roA, A1.ownB, addMem_nil, List.range, List.range.loop, SV.map, ren, shift, upd, memL_app, addMem, Ob.map, spl, q0, -BitVec.toNat_and, -BitVec.ofInt_natCast, -BitVec.toNat_ofInt, -BitVec.ofInt_ofNat, -BitVec.reduceOfInt, -Int.natCast_add]
  rw [hlo (by rw [hS]; change _ = _; kernel_rfl)]
  simp only [Z_sMO]
  clear hlo hS q0
  obtain ⟨j3, k3⟩ := s3
  obtain ⟨j4, k4⟩ := s4
  obtain ⟨j5, k5⟩ := s5
  try simp only at t1 t2 hok
  have v5 : k4 = true → k3 = true := fun h => (v5 h).1
  have v6 : k5 = true → k4 = true := fun h => (v6 h).1
  clear e0 e1 e2 e3 e4 e5 i0 i1 i2 i3 i4 i5 n1 n2 n3 n4 v1 v2 v3 v4
  subst hok
  have hA : metaA m = [.ro g.length (cl .i64 g), .ro 3 [.sl L1.length (cl .i64 L1), .sl L2.length (cl .i64 L2), .sl L3.length (cl .i64 L3)], .bool (x1 != 0), .bool (x2 != 0), .bool (x4 != 0), .int .i64 (t : Int)] := by rw [← hm]; rfl
  cases hmo : metaOk m with
  | false =>
    rw [hmo] at hR
    have hR2 : R = some (metaSV none) := by rw [← hR]; simp
    rw [hR2]
    clear hR hR2
    have q7 := r_sMetaBytes_bad m sm hmo
    rw [hA] at q7
    clear hm sm hne hnl hmo
    have hb : (eqB [] b || (b.length : Int) == 0) = true ∨ eqB [] b = false := by cases eqB [] b <;> simp
    have hbe : b = [] ∨ eqB [] b = false := by
      by_cases h : b = []
      · exact .inl h
      · refine .inr ?_
        cases he : eqB [] b with
        | false => rfl
        | true => exact absurd ((eqB_iff (l := []) (by intro x hx; cases hx) hB).1 he).symm h
    rcases hbe with rfl | hbe
    · simp only [List.length_nil] at t1 t2
      cases k5 with
      | false =>
        simp (maxSteps := 4000000) -implicitDefEqProofs [List.take, List.drop, upd, rest, kill, mapMem, List.range, List.range.loop, callLend, lendBox, A1.ids, roArgs, roL, roA, A1.ownB, addMem_nil, SV.map, ren, shift, upd, memL_app, memL, List.range, List.range.loop, addMem, addObs, Ob.map, spl, getAll, roCells, fromRo, numC, binStr, cl_self, cl_length, cl_nums, numsOfCells, metaSV, metaS, metaO, zeroM, intsC, t1, t2, a1, a2, a4, e6, q7, -BitVec.toNat_and, -BitVec.ofInt_natCast, -BitVec.toNat_ofInt, -BitVec.ofInt_ofNat, -BitVec.reduceOfInt, -Int.natCast_add]
      | true =>
        simp (maxSteps := 4000000) -implicitDefEqProofs [List.take, List.drop, upd, rest, kill, mapMem, List.range, List.range.loop, callLend, lendBox, A1.ids, roArgs, roL, roA, A1.ownB, addMem_nil, SV.map, ren, shift, upd, memL_app, memL, List.range, List.range.loop, addMem, addObs, Ob.map, spl, getAll, roCells, fromRo, numC, binStr, cl_self, cl_length, cl_nums, numsOfCells, metaSV, metaS, metaO, zeroM, intsC, t1, t2, a1, a2, a4, e6, q7, -BitVec.toNat_and, -BitVec.ofInt_natCast, -BitVec.toNat_ofInt, -BitVec.ofInt_ofNat, -BitVec.reduceOfInt, -Int.natCast_add]
    · simp only [eqB] at hbe
      have hbl : ¬ (b.length : Int) = 0 ∨ True := .inr trivial
      cases k5 with
      | false =>
        simp (maxSteps := 4000000) -implicitDefEqProofs [List.take, List.drop, upd, rest, kill, mapMem, List.range, List.range.loop, callLend, lendBox, A1.ids, roArgs, roL, roA, A1.ownB, addMem_nil, SV.map, ren, shift, upd, memL_app, memL, List.range, List.range.loop, addMem, addObs, Ob.map, spl, getAll, roCells, fromRo, numC, binStr, cl_self, cl_length, cl_nums, numsOfCells, metaSV, metaS, metaO, zeroM, intsC, t1, t2, a1, a2, a4, e6, q7, hbe, -BitVec.toNat_and, -BitVec.ofInt_natCast, -BitVec.toNat_ofInt, -BitVec.ofInt_ofNat, -BitVec.reduceOfInt, -Int.natCast_add]
      | true =>
        simp (maxSteps := 4000000) -implicitDefEqProofs [List.take, List.drop, upd, rest, kill, mapMem, List.range, List.range.loop, callLend, lendBox, A1.ids, roArgs, roL, roA, A1.ownB, addMem_nil, SV.map, ren, shift, upd, memL_app, memL, List.range, List.range.loop, addMem, addObs, Ob.map, spl, getAll, roCells, fromRo, numC, binStr, cl_self, cl_length, cl_nums, numsOfCells, metaSV, metaS, metaO, zeroM, intsC, t1, t2, a1, a2, a4, e6, q7, hbe, -BitVec.toNat_and, -BitVec.ofInt_natCast, -BitVec.toNat_ofInt, -BitVec.ofInt_ofNat, -BitVec.reduceOfInt, -Int.natCast_add]
  | true =>
    rw [hmo] at hR
    have q7 := r_sMetaBytes m hmo
    rw [hA] at q7
    have z1 : (cl .u8 (metaB m)).take (metaB m).length = cl .u8 (metaB m) := cl_self
    have z2 : (cl .u8 (metaB m)).length = (metaB m).length := cl_length
    have z3 : (((metaB m).length : Int) == 0) = false := by rw [beq_eq_false_iff_ne]; omega
    have z4 : (((metaB m).length : Int) != 0) = true := by rw [bne, z3]; rfl
    have hbn : eqB (metaB m) b = true → ¬ b.length = 0 := by
      intro h e
      have := (eqB_iff (metaB_bytes m) hB).1 h
      rw [List.eq_nil_of_length_eq_zero e] at this
      exact hne this
    obtain ⟨eb, hq⟩ : ∃ eb, eqB (metaB m) b = eb := ⟨_, rfl⟩
    rw [hq] at hR hbn
    simp only [eqB] at hq
    generalize metaB m = MB at *
    cases k5 with
    | false =>
      have hR2 : R = some (metaSV none) := by rw [← hR]; simp
      rw [hR2]
      clear hR hR2
      simp (maxSteps := 4000000) -implicitDefEqProofs [List.take, List.drop, upd, rest, kill, mapMem, List.range, List.range.loop, callLend, lendBox, A1.ids, roArgs, roL, roA, A1.ownB, addMem_nil, SV.map, ren, shift, upd, memL_app, memL, List.range, List.range.loop, addMem, addObs, Ob.map, spl, getAll, roCells, fromRo, numC, binStr, cl_self, cl_length, cl_nums, numsOfCells, metaSV, metaS, metaO, zeroM, intsC, t1, t2, a1, a2, a4, e6, q7, z1, z2, z3, z4, hq, -BitVec.toNat_and, -BitVec.ofInt_natCast, -BitVec.toNat_ofInt, -BitVec.ofInt_ofNat, -BitVec.reduceOfInt, -Int.natCast_add]
    | true =>
      rw [← hR, ← hm]
      cases eb with
      | false =>
        simp (maxSteps := 4000000) -implicitDefEqProofs [List.take, List.drop, upd, rest, kill, mapMem, List.range, List.range.loop, callLend, lendBox, A1.ids, roArgs, roL, roA, A1.ownB, addMem_nil, SV.map, ren, shift, upd, memL_app, memL, List.range, List.range.loop, addMem, addObs, Ob.map, spl, getAll, roCells, fromRo, numC, binStr, cl_self, cl_length, cl_nums, numsOfCells, metaSV, metaS, metaO, zeroM, intsC, t1, t2, a1, a2, a4, e6, q7, z1, z2, z3, z4, hq, -BitVec.toNat_and, -BitVec.ofInt_natCast, -BitVec.toNat_ofInt, -BitVec.ofInt_ofNat, -BitVec.reduceOfInt, -Int.natCast_add]
      | true =>
        have hb0 := hbn rfl
        have hb1 : b ≠ [] := fun e => hb0 (by rw [e]; rfl)
        simp (maxSteps := 4000000) -implicitDefEqProofs [List.take, List.drop, upd, rest, kill, mapMem, List.range, List.range.loop, callLend, lendBox, A1.ids, roArgs, roL, roA, A1.ownB, addMem_nil, SV.map, ren, shift, upd, memL_app, memL, List.range, List.range.loop, addMem, addObs, Ob.map, spl, getAll, roCells, fromRo, numC, binStr, cl_self, cl_length, cl_nums, numsOfCells, metaSV, metaS, metaO, zeroM, intsC, t1, t2, a1, a2, a4, e6, q7, z1, z2, z3, z4, hq, hb0, hb1, -BitVec.toNat_and, -BitVec.ofInt_natCast, -BitVec.toNat_ofInt, -BitVec.ofInt_ofNat, -BitVec.reduceOfInt, -Int.natCast_add]

theorem reps_intsZ {k : IntKind} {x : Int} : ∀ n, reps n [A1.int k x] = (List.replicate n x).map (A1.int k) := by
  intro n
  induction n with
  | zero => rfl
  | succ n ih => simp [reps, ih, List.replicate_succ]
theorem cells_repZ {k : IntKind} {x : Int} {m : Mem} (n : Nat) : toCells m (reps n [A1.int k x]) = some (cl k (List.replicate n x), m, []) := by
  rw [reps_intsZ]
  exact cells_ints (k := k) (m := m) (List.replicate n x)
def slotH (m : PMeta) (n : Nat) : List Int := fourN n ++ ((metaB m).length : Int) :: metaB m
def slotB (m : PMeta) (n : Nat) : List Int := slotH m n ++ List.replicate (151 - (metaB m).length) 0 ++ fourN n
theorem slotB_len {m : PMeta} {n : Nat} (h : (metaB m).length ≤ 151) : (slotB m n).length = 160 := by
  unfold slotB slotH
  simp only [List.length_append, List.length_cons, List.length_replicate]
  have : (fourN n).length = 4 := rfl
  omega
theorem slotB_bytes {m : PMeta} {n : Nat} (h : (metaB m).length ≤ 151) : Bytes (slotB m n) := by
  have h4 : Bytes (fourN n) := by
    intro x hx
    simp only [fourN, List.mem_cons, List.not_mem_nil, or_false] at hx
    rcases hx with rfl | rfl | rfl | rfl <;> omega
  refine Bytes.app (Bytes.app (Bytes.app h4 ?_) ?_) h4
  · intro x hx
    rcases List.mem_cons.1 hx with rfl | hx
    · omega
    · exact metaB_bytes m x hx
  · intro x hx
    have := List.eq_of_mem_replicate hx
    omega
theorem cl_one {k : IntKind} {l : List Int} {x : Int} : cl k l ++ [.int k x] = cl k (l ++ [x]) := by simp [cl]
theorem r_slotBytes (m : PMeta) (h : metaOk m = true) (hL : (metaB m).length ≤ 151) (n : Nat) (hn : n < 8589934592) : runRO (X tab) tab 119 [.v true (metaA m), .v false [.int .i64 n]] = some (.v false [.sl 0 [] 0 160], [.row 1 (cl .u8 (slotB m n))]) := by
  have q1 := r_MetaBytes m h
  have q2 := r_four n hn
  have hne := metaB_ne m
  have hnl : ¬ (metaB m).length = 0 := fun e => hne (List.eq_nil_of_length_eq_zero e)
  have w1 : IntKind.u8.wrap ((metaB m).length : Int) = ((metaB m).length : Int) := by rw [u8_mod]; omega
  have w2 : IntKind.i64.wrap (156 - ((5 + (metaB m).length : Nat) : Int)) = ((151 - (metaB m).length : Nat) : Int) := by rw [wrap_id (by omega) (by omega)]; omega
  have e4 : (fourN n).length = 4 := rfl
  have e5 : (cl .u8 (fourN n)).length = 4 := by rw [cl_length, e4]
  have e6 : (cl .u8 (fourN n)).take 4 = cl .u8 (fourN n) := by rw [← e4, cl_self]
  have e7 : cl .u8 (fourN n) ++ [.int .u8 ((metaB m).length : Int)] = cl .u8 (fourN n ++ [((metaB m).length : Int)]) := cl_one
  have e8 : cl .u8 (fourN n ++ [((metaB m).length : Int)]) ++ cl .u8 (metaB m) = cl .u8 (slotH m n) := by rw [cl_app]; simp [slotH]
  have e9 : (cl .u8 (fourN n ++ [((metaB m).length : Int)])).length = 5 := by rw [cl_length]; rfl
  have e9' : (cl .u8 (fourN n ++ [((metaB m).length : Int)])).take 5 = cl .u8 (fourN n ++ [((metaB m).length : Int)]) := by rw [← e9, List.take_length]
  have e10 : (cl .u8 (slotH m n)).length = 5 + (metaB m).length := by rw [cl_length]; simp only [slotH, List.length_append, List.length_cons, e4]; omega
  have e10' : (cl .u8 (slotH m n)).take (5 + (metaB m).length) = cl .u8 (slotH m n) := by rw [← e10, List.take_length]
  have e11 : (cl .u8 (metaB m)).take (metaB m).length = cl .u8 (metaB m) := cl_self
  have e12 : (cl .u8 (metaB m)).length = (metaB m).length := cl_length
  have b1 : 5 + (metaB m).length ≤ 140737488355328 := by omega
  simp only [metaA] at q1
  have b2 : 5 + (metaB m).length + 4 ≤ 140737488355328 := by omega
  by_cases h151 : 151 - (metaB m).length = 0
  · have c5 : 5 + (metaB m).length + 4 = 160 := by omega
    have eS : cl .u8 (slotB m n) = cl .u8 (slotH m n) ++ cl .u8 (fourN n) := by rw [cl_app]; simp [slotB, h151]
    rw [eS]
    generalize slotH m n = H at *
    generalize fourN n ++ [((metaB m).length : Int)] = H5 at *
    generalize fourN n = Q at *
    generalize metaB m = MB at *
    generalize 151 - MB.length = k at *
    unfold runRO
    simp (maxSteps := 4000000) -implicitDefEqProofs [tab119, a119, List.take, List.drop, upd, rest, kill, mapMem, List.range, List.range.loop, memL, roCells, metaA, q1, q2, hne, w1, w2, e4, e5, e6, e7, e8, e9, e9', e10, e10', e11, e12, b1, b2, c5, h151, cl_flat, apmSt, -Int.natCast_add]
  · have hz : ¬ ((151 - (metaB m).length : Nat) : Int) = 0 := by omega
    have hz2 : 0 ≤ ((151 - (metaB m).length : Nat) : Int) ∧ ((151 - (metaB m).length : Nat) : Int) ≤ 140737488355328 := by omega
    have hz3 : ((151 - (metaB m).length : Nat) : Int) ≤ 140737488355328 := by omega
    have c1 := fun m' => cells_repZ (k := .u8) (x := 0) (m := m') (151 - (metaB m).length)
    have c2 : cl .u8 (slotH m n) ++ cl .u8 (List.replicate (151 - (metaB m).length) 0) = cl .u8 (slotH m n ++ List.replicate (151 - (metaB m).length) 0) := cl_app
    have c3 : (cl .u8 (slotH m n ++ List.replicate (151 - (metaB m).length) 0)).length = 156 := by rw [cl_length, List.length_append, List.length_replicate, ← cl_length (k := .u8), e10]; omega
    have c3' : (cl .u8 (slotH m n ++ List.replicate (151 - (metaB m).length) 0)).take 156 = cl .u8 (slotH m n ++ List.replicate (151 - (metaB m).length) 0) := by rw [← c3, List.take_length]
    have c4 : 5 + (metaB m).length + (151 - (metaB m).length) = 156 := by omega
    have c6 : (cl .u8 (List.replicate (151 - (metaB m).length) 0)).length = 151 - (metaB m).length := by rw [cl_length, List.length_replicate]
    have eS : cl .u8 (slotB m n) = cl .u8 (slotH m n ++ List.replicate (151 - (metaB m).length) 0) ++ cl .u8 (fourN n) := by rw [cl_app]; rfl
    rw [eS]
    generalize slotH m n ++ List.replicate (151 - (metaB m).length) 0 = H6 at *
    generalize cl .u8 (List.replicate (151 - (metaB m).length) 0) = Z at *
    generalize slotH m n = H at *
    generalize fourN n ++ [((metaB m).length : Int)] = H5 at *
    generalize fourN n = Q at *
    generalize metaB m = MB at *
    generalize hk : 151 - MB.length = k at *
    unfold runRO
    simp (maxSteps := 4000000) -implicitDefEqProofs [tab119, a119, List.take, List.drop, upd, rest, kill, mapMem, List.range, List.range.loop, memL, roCells, metaA, q1, q2, hne, w1, w2, e4, e5, e6, e7, e8, e9, e9', e10, e10', e11, e12, b1, c1, c2, c3, c3', c4, c6, hz2, hz3, h151, cl_flat, apmSt, -Int.natCast_add]
/-! The reference's. -/
def S_l6 (m : PMeta) (n : Nat) (j : Nat) : XS := ⟨⟨[.bad, .v false [.int .i64 (n)], .bad, .bad, .bad, .bad, .v false [.sl 0 [] 0 (5 + (metaB m).length + j)], .bad, .bad, .bad, .bad, .bad, .bad, .bad, .bad, .bad, .bad, .bad, .bad, .bad, .bad, .bad, .bad, .bad, .bad, .bad, .bad, .bad, .bad], memL [some (.row 1 (cl .u8 (slotH m n ++ List.replicate j 0)))], []⟩, 1⟩
theorem loop_l6 (m : PMeta) (hL : (metaB m).length ≤ 151) (n : Nat) {x : XS} (hx : head true d99_0 x = S_l6 m n 0) : X tab l99_0 x = some (.exit 0, ⟨⟨[.bad, .v false [.int .i64 (n)], .bad, .bad, .bad, .bad, .v false [.sl 0 [] 0 156], .bad, .bad, .bad, .bad, .bad, .bad, .bad, .bad, .bad, .bad, .bad, .bad, .bad, .bad, .bad, .bad, .bad, .bad, .bad, .bad, .bad, .bad], memL [some (.row 1 (cl .u8 (slotH m n ++ List.replicate (151 - (metaB m).length) 0)))], []⟩, 1⟩) := by
  have e10 : (cl .u8 (slotH m n)).length = 5 + (metaB m).length := by
    have e4 : (fourN n).length = 4 := rfl
    rw [cl_length]; simp only [slotH, List.length_append, List.length_cons, e4]; omega
  refine loopN (151 - (metaB m).length) (S_l6 m n) _ (by simp) (fun j hj => ?_) ?_ (Nat.zero_le _) hx
  · have h1 : ((5 + (metaB m).length + j : Nat) : Int) < 156 := by omega
    have h2 : (5 + (metaB m).length + j + 1) * 1 ≤ 140737488355328 := by omega
    have h2' : 5 + (metaB m).length + j + 1 ≤ 140737488355328 := by omega
    have h3 : (cl .u8 (slotH m n ++ List.replicate j 0)).length = 5 + (metaB m).length + j := by rw [cl_length, List.length_append, List.length_replicate, ← cl_length (k := .u8), e10]
    have e : slotH m n ++ List.replicate (j + 1) 0 = (slotH m n ++ List.replicate j 0) ++ [0] := by rw [List.append_assoc, ← List.replicate_succ']
    simp only [S_l6, e, ← cl_one, ← Nat.add_assoc]
    generalize slotH m n ++ List.replicate j 0 = acc at *
    generalize 5 + (metaB m).length + j = q at *
    simp (maxSteps := 4000000) -implicitDefEqProofs [b99_0, List.take, List.drop, upd, rest, kill, mapMem, h1, h2, h2', h3, -Int.natCast_add]
    change _ = _
    kernel_rfl
  · have e : 5 + (metaB m).length + (151 - (metaB m).length) = 156 := by omega
    simp only [S_l6, e]
    generalize slotH m n ++ List.replicate (151 - (metaB m).length) 0 = acc at *
    simp (maxSteps := 4000000) -implicitDefEqProofs [b99_0, List.take, List.drop]
    change _ = _
    kernel_rfl
theorem r_l6Slot (m : PMeta) (h : metaOk m = true) (hL : (metaB m).length ≤ 151) (n : Nat) (hn : n < 8589934592) : runRO (X tab) tab 99 [.v true (metaA m), .v false [.int .i64 n]] = some (.v false [.sl 0 [] 0 160], [.row 1 (cl .u8 (slotB m n))]) := by
  have q1 := r_sMetaBytes m h
  have q2 := r_l4Sum n hn
  have hne := metaB_ne m
  have hnl : ¬ (metaB m).length = 0 := fun e => hne (List.eq_nil_of_length_eq_zero e)
  have w1 : IntKind.u8.wrap ((metaB m).length : Int) = ((metaB m).length : Int) := by rw [u8_mod]; omega
  have e4 : (fourN n).length = 4 := rfl
  have e5 : (cl .u8 (fourN n)).length = 4 := by rw [cl_length, e4]
  have e6 : (cl .u8 (fourN n)).take 4 = cl .u8 (fourN n) := by rw [← e4, cl_self]
  have e7 : cl .u8 (fourN n) ++ [.int .u8 ((metaB m).length : Int)] = cl .u8 (fourN n ++ [((metaB m).length : Int)]) := cl_one
  have e8 : cl .u8 (fourN n ++ [((metaB m).length : Int)]) ++ cl .u8 (metaB m) = cl .u8 (slotH m n) := by rw [cl_app]; simp [slotH]
  have e9 : (cl .u8 (fourN n ++ [((metaB m).length : Int)])).length = 5 := by rw [cl_length]; rfl
  have e9' : (cl .u8 (fourN n ++ [((metaB m).length : Int)])).take 5 = cl .u8 (fourN n ++ [((metaB m).length : Int)]) := by rw [← e9, List.take_length]
  have e11 : (cl .u8 (metaB m)).take (metaB m).length = cl .u8 (metaB m) := cl_self
  have e12 : (cl .u8 (metaB m)).length = (metaB m).length := cl_length
  have b1 : 5 + (metaB m).length ≤ 140737488355328 := by omega
  have hlo := fun {x} => loop_l6 m hL n (x := x)
  have hS : S_l6 m n 0 = ⟨⟨[.bad, .v false [.int .i64 (n)], .bad, .bad, .bad, .bad, .v false [.sl 0 [] 0 (5 + (metaB m).length)], .bad, .bad, .bad, .bad, .bad, .bad, .bad, .bad, .bad, .bad, .bad, .bad, .bad, .bad, .bad, .bad, .bad, .bad, .bad, .bad, .bad, .bad], memL [some (.row 1 (cl .u8 (slotH m n)))], []⟩, 1⟩ := by simp [S_l6]
  have c3 : (cl .u8 (slotH m n ++ List.replicate (151 - (metaB m).length) 0)).length = 156 := by
    rw [cl_length, List.length_append, List.length_replicate]; simp only [slotH, List.length_append, List.length_cons, e4]; omega
  have eS : cl .u8 (slotB m n) = cl .u8 (slotH m n ++ List.replicate (151 - (metaB m).length) 0) ++ cl .u8 (fourN n) := by rw [cl_app]; rfl
  rw [eS]
  simp only [metaA] at q1
  generalize slotH m n ++ List.replicate (151 - (metaB m).length) 0 = H6 at *
  generalize slotH m n = H at *
  generalize fourN n ++ [((metaB m).length : Int)] = H5 at *
  generalize fourN n = Q at *
  generalize metaB m = MB at *
  unfold runRO
  simp (maxSteps := 4000000) -implicitDefEqProofs [tab99, a99, List.take, List.drop, upd, rest, kill, mapMem, List.range, List.range.loop, roCells, metaA, q1, q2, hne, w1, e4, e5, e6, e7, e8, e9, e9', e11, e12, b1, cl_flat, -Int.natCast_add]
  rw [hlo (by rw [hS]; change _ = _; kernel_rfl)]
  simp (maxSteps := 4000000) -implicitDefEqProofs [List.take, List.drop, upd, rest, kill, mapMem, List.range, List.range.loop, memL, q2, c3, e4, e5, e6, cl_flat]

theorem or_nat {k n y p : Nat} (hn : n < 2 ^ k) (hp : p = y * 2 ^ k) (hb : n + p < 9223372036854775808) : IntKind.i64.wrap ((BitVec.ofInt IntKind.i64.bits (n : Int) ||| BitVec.ofInt IntKind.i64.bits (p : Int)).toNat : Int) = ((n + p : Nat) : Int) := by
  have e1 : n ||| p = n + p := by
    have h := Nat.two_pow_add_eq_or_of_lt (b := n) (i := k) hn y
    rw [hp, Nat.mul_comm, Nat.or_comm, ← h, Nat.add_comm]
  have e2 : (BitVec.ofInt IntKind.i64.bits (n : Int) ||| BitVec.ofInt IntKind.i64.bits (p : Int)).toNat = n ||| p := by
    clear hp hn e1
    rw [BitVec.toNat_or]
    have hn2 : (BitVec.ofInt IntKind.i64.bits (n : Int)).toNat = n := by
      change (BitVec.ofInt 64 (n : Int)).toNat = n
      simp
      omega
    have hp2 : (BitVec.ofInt IntKind.i64.bits (p : Int)).toNat = p := by
      change (BitVec.ofInt 64 (p : Int)).toNat = p
      simp
      omega
    rw [hn2, hp2]
  rw [e2, e1, wrap_id (by omega) (by omega)]
def le4 (b : List Int) : Nat := ((b.getD 0 0) + (b.getD 1 0) * 256 + (b.getD 2 0) * 65536 + (b.getD 3 0) * 16777216).toNat
theorem le4_eq (y0 y1 y2 y3 : Nat) (r : List Int) : le4 ((y0 : Int) :: (y1 : Int) :: (y2 : Int) :: (y3 : Int) :: r) = y0 + y1 * 256 + y2 * 65536 + y3 * 16777216 := by
  unfold le4
  simp only [List.getD_cons_zero, List.getD_cons_succ]
  omega
def slotOf (b : List Int) : Option (PMeta × Nat) :=
  if b.length = 160 ∧ 1 ≤ le4 b ∧ le4 b ≤ 1000000 ∧ (b.getD 4 0).toNat ≤ 151 then
    match metaOf ((b.drop 5).take (b.getD 4 0).toNat) with
    | some m => if eqB (slotB m (le4 b)) b = true then some (m, le4 b) else none
    | none => none
  else none
def slotSV : Option (PMeta × Nat) → SV × List Ob
  | some (m, n) => (.tup [(true, metaS m), (false, [.int .i64 n]), (false, [.bool true])], metaO m)
  | none => (.tup [(true, zeroM), (false, [.int .i64 0]), (false, [.bool false])], [])
theorem metaOf_spec {b : List Int} {m : PMeta} (h : metaOf b = some m) (hB : Bytes b) : metaOk m = true ∧ metaB m = b := by
  unfold metaOf at h
  split at h
  · rename_i hh
    cases h
    simp only [Bool.and_eq_true] at hh
    exact ⟨hh.1.2, (eqB_iff (metaB_bytes _) hB).1 hh.2⟩
  · cases h
theorem slotOf_spec {b : List Int} {m : PMeta} {n : Nat} (h : slotOf b = some (m, n)) : metaOk m = true ∧ 1 ≤ n ∧ n ≤ 1000000 := by
  unfold slotOf at h
  split at h
  · rename_i hc
    split at h
    · rename_i m' hm
      split at h
      · cases h
        refine ⟨?_, hc.2.1, hc.2.2.1⟩
        unfold metaOf at hm
        split at hm
        · rename_i hh
          cases hm
          simp only [Bool.and_eq_true] at hh
          exact hh.1.2
        · cases hm
      · cases h
    · cases h
  · cases h
theorem r_SlotOf (b : List Int) (hB : Bytes b) (hn : b.length ≤ 1048576) : runRO (X tab) tab 113 [.v false [.ro b.length (cl .u8 b)]] = some (slotSV (slotOf b)) := by
  by_cases h160 : b.length = 160
  · obtain ⟨x0, x1, x2, x3, x4, r, rfl⟩ : ∃ x0 x1 x2 x3 x4 r, b = x0 :: x1 :: x2 :: x3 :: x4 :: r := by
      match b, h160 with
      | x0 :: x1 :: x2 :: x3 :: x4 :: r, _ => exact ⟨x0, x1, x2, x3, x4, r, rfl⟩
    have hr : r.length = 155 := by simpa using h160
    have g0 := hB x0 (by simp)
    have g1 := hB x1 (by simp)
    have g2 := hB x2 (by simp)
    have g3 := hB x3 (by simp)
    have g4 := hB x4 (by simp)
    have hBr : Bytes r := fun x hx => hB x (by simp [hx])
    have hr5 : (cl .u8 r).length = 155 := by rw [cl_length, hr]
    have hr6 : (cl .u8 r).take 155 = cl .u8 r := by rw [← hr5, List.take_length]
    obtain ⟨y0, rfl⟩ : ∃ y : Nat, x0 = (y : Int) := ⟨x0.toNat, by omega⟩
    obtain ⟨y1, rfl⟩ : ∃ y : Nat, x1 = (y : Int) := ⟨x1.toNat, by omega⟩
    obtain ⟨y2, rfl⟩ : ∃ y : Nat, x2 = (y : Int) := ⟨x2.toNat, by omega⟩
    obtain ⟨y3, rfl⟩ : ∃ y : Nat, x3 = (y : Int) := ⟨x3.toNat, by omega⟩
    obtain ⟨y4, rfl⟩ : ∃ y : Nat, x4 = (y : Int) := ⟨x4.toNat, by omega⟩
    obtain ⟨p1, hp1⟩ : ∃ p, p = y1 * 256 := ⟨_, rfl⟩
    obtain ⟨p2, hp2⟩ : ∃ p, p = y2 * 65536 := ⟨_, rfl⟩
    obtain ⟨p3, hp3⟩ : ∃ p, p = y3 * 16777216 := ⟨_, rfl⟩
    have hle : le4 ((y0 : Int) :: (y1 : Int) :: (y2 : Int) :: (y3 : Int) :: (y4 : Int) :: r) = y0 + p1 + p2 + p3 := by rw [le4_eq, hp1, hp2, hp3]
    have hsz : (((y0 : Int) :: (y1 : Int) :: (y2 : Int) :: (y3 : Int) :: (y4 : Int) :: r).getD 4 0).toNat = y4 := by simp
    have c0 : IntKind.i64.wrap (y0 : Int) = (y0 : Int) := wrap_id (by omega) (by omega)
    have c1 : IntKind.i64.wrap (y1 : Int) = (y1 : Int) := wrap_id (by omega) (by omega)
    have c2 : IntKind.i64.wrap (y2 : Int) = (y2 : Int) := wrap_id (by omega) (by omega)
    have c3 : IntKind.i64.wrap (y3 : Int) = (y3 : Int) := wrap_id (by omega) (by omega)
    have c4 : IntKind.i64.wrap (y4 : Int) = (y4 : Int) := wrap_id (by omega) (by omega)
    have s1 : IntKind.i64.wrap ((y1 : Int) * 2 ^ min 8 IntKind.i64.bits) = (p1 : Int) := by
      have e2 : (2 : Int) ^ min 8 IntKind.i64.bits = 256 := rfl
      rw [e2, wrap_id (by omega) (by omega)]; omega
    have s2 : IntKind.i64.wrap ((y2 : Int) * 2 ^ min 16 IntKind.i64.bits) = (p2 : Int) := by
      have e2 : (2 : Int) ^ min 16 IntKind.i64.bits = 65536 := rfl
      rw [e2, wrap_id (by omega) (by omega)]; omega
    have s3 : IntKind.i64.wrap ((y3 : Int) * 2 ^ min 24 IntKind.i64.bits) = (p3 : Int) := by
      have e2 : (2 : Int) ^ min 24 IntKind.i64.bits = 16777216 := rfl
      rw [e2, wrap_id (by omega) (by omega)]; omega
    have o1 := or_nat (k := 8) (n := y0) (y := y1) (p := p1) (by rw [show (2 : Nat) ^ 8 = 256 from rfl]; omega) (by rw [show (2 : Nat) ^ 8 = 256 from rfl]; exact hp1) (by omega)
    have o2 := or_nat (k := 16) (n := y0 + p1) (y := y2) (p := p2) (by rw [show (2 : Nat) ^ 16 = 65536 from rfl]; omega) (by rw [show (2 : Nat) ^ 16 = 65536 from rfl]; exact hp2) (by omega)
    have o3 := or_nat (k := 24) (n := y0 + p1 + p2) (y := y3) (p := p3) (by rw [show (2 : Nat) ^ 24 = 16777216 from rfl]; omega) (by rw [show (2 : Nat) ^ 24 = 16777216 from rfl]; exact hp3) (by omega)
    have a1 : IntKind.i64.wrap ((y0 : Int) + (p1 : Int)) = ((y0 + p1 : Nat) : Int) := by rw [wrap_id (by omega) (by omega)]; omega
    have a2 : IntKind.i64.wrap (((y0 + p1 : Nat) : Int) + (p2 : Int)) = ((y0 + p1 + p2 : Nat) : Int) := by rw [wrap_id (by omega) (by omega)]; omega
    have a3 : IntKind.i64.wrap (((y0 + p1 + p2 : Nat) : Int) + (p3 : Int)) = ((y0 + p1 + p2 + p3 : Nat) : Int) := by rw [wrap_id (by omega) (by omega)]; omega
    have hnb : y0 + p1 + p2 + p3 < 8589934592 := by omega
    have q1 := r_from ((y0 + p1 + p2 + p3 : Nat) : Int) 1 1000000
    have w5 : IntKind.i64.wrap (5 + (y4 : Int)) = 5 + (y4 : Int) := wrap_id (by omega) (by omega)
    have hb8 := fun (m : PMeta) => r_BytesEqual (slotB m (y0 + p1 + p2 + p3)) ((y0 : Int) :: (y1 : Int) :: (y2 : Int) :: (y3 : Int) :: (y4 : Int) :: r)
    unfold slotOf
    rw [hle, hsz, h160]
    rw [h160] at hb8
    have hd5 : ((y0 : Int) :: (y1 : Int) :: (y2 : Int) :: (y3 : Int) :: (y4 : Int) :: r).drop 5 = r := rfl
    rw [hd5]
    clear hp1 hp2 hp3 hle
    generalize (y0 + p1 + p2 + p3 : Nat) = n at *
    generalize (y0 + p1 + p2 : Nat) = n2 at *
    generalize (y0 + p1 : Nat) = n1 at *
    simp only [cl_cons] at hb8 ⊢
    by_cases hc : 1 ≤ n ∧ n ≤ 1000000 ∧ y4 ≤ 151
    · have hr1 : rng (n : Int) 1 1000000 = true := rng_iff.2 (by omega)
      have hb4 : ¬ (151 : Int) < (y4 : Int) := by omega
      rw [hr1] at q1
      rw [if_pos ⟨trivial, hc.1, hc.2.1, hc.2.2⟩]
      have hBt : Bytes (r.take y4) := fun x hx => hBr x (List.mem_of_mem_take hx)
      have htl : (r.take y4).length = y4 := by rw [List.length_take]; omega
      have q2 := r_MetaOf (r.take y4) hBt (by omega)
      rw [htl, ← cl_take] at q2
      have k1 : (0 : Int) ≤ 5 := by omega
      have k2 : (5 : Int) ≤ 5 + (y4 : Int) := by omega
      have k3 : 5 + (y4 : Int) ≤ 160 := by omega
      have k4 : (5 + (y4 : Int)).toNat = 5 + y4 := by omega
      have k5 : 5 + y4 - 5 = y4 := by omega
      cases hm : metaOf (r.take y4) with
      | none =>
        rw [hm] at q2
        simp only [metaSV, zeroM] at q2
        unfold runRO
        simp (maxSteps := 4000000) -implicitDefEqProofs [tab113, a113, List.take, List.drop, upd, rest, kill, mapMem, List.range, List.range.loop, memL, spl, fromRo, cutB, szOk, c0, c1, c2, c3, c4, s1, s2, s3, o1, o2, o3, a1, a2, a3, q1, q2, hb4, w5, k1, k2, k3, k4, k5, slotSV, zeroM, -BitVec.toNat_or, -BitVec.toNat_and, -BitVec.ofInt_natCast, -BitVec.toNat_ofInt, -BitVec.ofInt_ofNat, -BitVec.reduceOfInt, -Int.natCast_add, -Int.natCast_mul]
      | some m =>
        obtain ⟨mo, mb⟩ := metaOf_spec hm hBt
        have hL : (metaB m).length ≤ 151 := by rw [mb, htl]; omega
        have q3 := r_slotBytes m mo hL n hnb
        have q4 := hb8 m
        rw [slotB_len hL] at q4
        have z1 : (cl .i64 m.gens).take m.gens.length = cl .i64 m.gens := cl_self
        have z2 : (cl .i64 m.gens).length = m.gens.length := cl_length
        have z3 : (m.bits.map intsC).length = m.bits.length := by simp
        have z4 : (m.bits.map intsC).take m.bits.length = m.bits.map intsC := by rw [← z3, List.take_length]
        have z5 : (cl .u8 (slotB m n)).length = 160 := by rw [cl_length, slotB_len hL]
        have z6 : (cl .u8 (slotB m n)).take 160 = cl .u8 (slotB m n) := by rw [← z5, List.take_length]
        rw [hm] at q2
        simp only [metaSV, metaS, metaO] at q2
        simp only [metaA] at q3
        obtain ⟨eb, hq⟩ : ∃ eb, eqB (slotB m n) ((y0 : Int) :: (y1 : Int) :: (y2 : Int) :: (y3 : Int) :: (y4 : Int) :: r) = eb := ⟨_, rfl⟩
        rw [hq] at q4
        simp only [hq]
        simp only [eqB] at hq
        generalize slotB m n = SB at *
        unfold runRO
        cases eb with
        | false => simp (maxSteps := 4000000) -implicitDefEqProofs [tab113, a113, List.take, List.drop, upd, rest, kill, mapMem, List.range, List.range.loop, memL, spl, fromRo, cutB, szOk, binStr, numsOfCells, cl_nums, c0, c1, c2, c3, c4, s1, s2, s3, o1, o2, o3, a1, a2, a3, q1, q2, q3, q4, hq, hb4, hr5, hr6, z1, z2, z3, z4, z5, z6, w5, k1, k2, k3, k4, k5, slotSV, zeroM, metaS, metaO, -BitVec.toNat_or, -BitVec.toNat_and, -BitVec.ofInt_natCast, -BitVec.toNat_ofInt, -BitVec.ofInt_ofNat, -BitVec.reduceOfInt, -Int.natCast_add, -Int.natCast_mul]
        | true => simp (maxSteps := 4000000) -implicitDefEqProofs [tab113, a113, List.take, List.drop, upd, rest, kill, mapMem, List.range, List.range.loop, memL, spl, fromRo, cutB, szOk, binStr, numsOfCells, cl_nums, c0, c1, c2, c3, c4, s1, s2, s3, o1, o2, o3, a1, a2, a3, q1, q2, q3, q4, hq, hb4, hr5, hr6, z1, z2, z3, z4, z5, z6, w5, k1, k2, k3, k4, k5, slotSV, zeroM, metaS, metaO, -BitVec.toNat_or, -BitVec.toNat_and, -BitVec.ofInt_natCast, -BitVec.toNat_ofInt, -BitVec.ofInt_ofNat, -BitVec.reduceOfInt, -Int.natCast_add, -Int.natCast_mul]
    · rw [if_neg (fun h => hc h.2)]
      unfold runRO
      cases hr1 : rng (n : Int) 1 1000000 with
      | false =>
        rw [hr1] at q1
        simp (maxSteps := 4000000) -implicitDefEqProofs [tab113, a113, List.take, List.drop, upd, rest, kill, mapMem, List.range, List.range.loop, memL, spl, fromRo, cutB, szOk, binStr, numsOfCells, cl_nums, c0, c1, c2, c3, c4, s1, s2, s3, o1, o2, o3, a1, a2, a3, q1, w5, slotSV, zeroM, metaS, metaO, -BitVec.toNat_or, -BitVec.toNat_and, -BitVec.ofInt_natCast, -BitVec.toNat_ofInt, -BitVec.ofInt_ofNat, -BitVec.reduceOfInt, -Int.natCast_add, -Int.natCast_mul]
      | true =>
        rw [hr1] at q1
        have := rng_iff.1 hr1
        have hb4 : (151 : Int) < (y4 : Int) := by omega
        simp (maxSteps := 4000000) -implicitDefEqProofs [tab113, a113, List.take, List.drop, upd, rest, kill, mapMem, List.range, List.range.loop, memL, spl, fromRo, cutB, szOk, binStr, numsOfCells, cl_nums, c0, c1, c2, c3, c4, s1, s2, s3, o1, o2, o3, a1, a2, a3, q1, hb4, w5, slotSV, zeroM, metaS, metaO, -BitVec.toNat_or, -BitVec.toNat_and, -BitVec.ofInt_natCast, -BitVec.toNat_ofInt, -BitVec.ofInt_ofNat, -BitVec.reduceOfInt, -Int.natCast_add, -Int.natCast_mul]
  · have hl : ((b.length : Int) == 160) = false := by rw [beq_eq_false_iff_ne]; omega
    have e : slotOf b = none := by unfold slotOf; rw [if_neg (by omega)]
    rw [e]
    unfold runRO
    simp (maxSteps := 4000000) -implicitDefEqProofs [tab113, a113, List.take, List.drop, upd, rest, kill, mapMem, List.range, List.range.loop, memL, spl, bne, hl, slotSV, zeroM]
theorem r_sSlotOf (b : List Int) (hB : Bytes b) (hn : b.length ≤ 1048576) : runRO (X tab) tab 89 [.v false [.ro b.length (cl .u8 b)]] = some (slotSV (slotOf b)) := by
  by_cases h160 : b.length = 160
  · obtain ⟨x0, x1, x2, x3, x4, r, rfl⟩ : ∃ x0 x1 x2 x3 x4 r, b = x0 :: x1 :: x2 :: x3 :: x4 :: r := by
      match b, h160 with
      | x0 :: x1 :: x2 :: x3 :: x4 :: r, _ => exact ⟨x0, x1, x2, x3, x4, r, rfl⟩
    have hr : r.length = 155 := by simpa using h160
    have g0 := hB x0 (by simp)
    have g1 := hB x1 (by simp)
    have g2 := hB x2 (by simp)
    have g3 := hB x3 (by simp)
    have g4 := hB x4 (by simp)
    have hBr : Bytes r := fun x hx => hB x (by simp [hx])
    have hr5 : (cl .u8 r).length = 155 := by rw [cl_length, hr]
    have hr6 : (cl .u8 r).take 155 = cl .u8 r := by rw [← hr5, List.take_length]
    obtain ⟨y0, rfl⟩ : ∃ y : Nat, x0 = (y : Int) := ⟨x0.toNat, by omega⟩
    obtain ⟨y1, rfl⟩ : ∃ y : Nat, x1 = (y : Int) := ⟨x1.toNat, by omega⟩
    obtain ⟨y2, rfl⟩ : ∃ y : Nat, x2 = (y : Int) := ⟨x2.toNat, by omega⟩
    obtain ⟨y3, rfl⟩ : ∃ y : Nat, x3 = (y : Int) := ⟨x3.toNat, by omega⟩
    obtain ⟨y4, rfl⟩ : ∃ y : Nat, x4 = (y : Int) := ⟨x4.toNat, by omega⟩
    obtain ⟨p1, hp1⟩ : ∃ p, p = y1 * 256 := ⟨_, rfl⟩
    obtain ⟨p2, hp2⟩ : ∃ p, p = y2 * 65536 := ⟨_, rfl⟩
    obtain ⟨p3, hp3⟩ : ∃ p, p = y3 * 16777216 := ⟨_, rfl⟩
    have hle : le4 ((y0 : Int) :: (y1 : Int) :: (y2 : Int) :: (y3 : Int) :: (y4 : Int) :: r) = y0 + p1 + p2 + p3 := by rw [le4_eq, hp1, hp2, hp3]
    have hsz : (((y0 : Int) :: (y1 : Int) :: (y2 : Int) :: (y3 : Int) :: (y4 : Int) :: r).getD 4 0).toNat = y4 := by simp
    have c0 : IntKind.i64.wrap (y0 : Int) = (y0 : Int) := wrap_id (by omega) (by omega)
    have c1 : IntKind.i64.wrap (y1 : Int) = (y1 : Int) := wrap_id (by omega) (by omega)
    have c2 : IntKind.i64.wrap (y2 : Int) = (y2 : Int) := wrap_id (by omega) (by omega)
    have c3 : IntKind.i64.wrap (y3 : Int) = (y3 : Int) := wrap_id (by omega) (by omega)
    have c4 : IntKind.i64.wrap (y4 : Int) = (y4 : Int) := wrap_id (by omega) (by omega)
    have s1 : IntKind.i64.wrap ((y1 : Int) * 2 ^ min 8 IntKind.i64.bits) = (p1 : Int) := by
      have e2 : (2 : Int) ^ min 8 IntKind.i64.bits = 256 := rfl
      rw [e2, wrap_id (by omega) (by omega)]; omega
    have s2 : IntKind.i64.wrap ((y2 : Int) * 2 ^ min 16 IntKind.i64.bits) = (p2 : Int) := by
      have e2 : (2 : Int) ^ min 16 IntKind.i64.bits = 65536 := rfl
      rw [e2, wrap_id (by omega) (by omega)]; omega
    have s3 : IntKind.i64.wrap ((y3 : Int) * 2 ^ min 24 IntKind.i64.bits) = (p3 : Int) := by
      have e2 : (2 : Int) ^ min 24 IntKind.i64.bits = 16777216 := rfl
      rw [e2, wrap_id (by omega) (by omega)]; omega
    have o1 := or_nat (k := 8) (n := y0) (y := y1) (p := p1) (by rw [show (2 : Nat) ^ 8 = 256 from rfl]; omega) (by rw [show (2 : Nat) ^ 8 = 256 from rfl]; exact hp1) (by omega)
    have o2 := or_nat (k := 16) (n := y0 + p1) (y := y2) (p := p2) (by rw [show (2 : Nat) ^ 16 = 65536 from rfl]; omega) (by rw [show (2 : Nat) ^ 16 = 65536 from rfl]; exact hp2) (by omega)
    have o3 := or_nat (k := 24) (n := y0 + p1 + p2) (y := y3) (p := p3) (by rw [show (2 : Nat) ^ 24 = 16777216 from rfl]; omega) (by rw [show (2 : Nat) ^ 24 = 16777216 from rfl]; exact hp3) (by omega)
    have a1 : IntKind.i64.wrap ((y0 : Int) + (p1 : Int)) = ((y0 + p1 : Nat) : Int) := by rw [wrap_id (by omega) (by omega)]; omega
    have a2 : IntKind.i64.wrap (((y0 + p1 : Nat) : Int) + (p2 : Int)) = ((y0 + p1 + p2 : Nat) : Int) := by rw [wrap_id (by omega) (by omega)]; omega
    have a3 : IntKind.i64.wrap (((y0 + p1 + p2 : Nat) : Int) + (p3 : Int)) = ((y0 + p1 + p2 + p3 : Nat) : Int) := by rw [wrap_id (by omega) (by omega)]; omega
    have hnb : y0 + p1 + p2 + p3 < 8589934592 := by omega
    have q1 := r_l1In ((y0 + p1 + p2 + p3 : Nat) : Int) 1 1000000
    have w5 : IntKind.i64.wrap (5 + (y4 : Int)) = 5 + (y4 : Int) := wrap_id (by omega) (by omega)
    have hb8 := fun (m : PMeta) => r_BytesEqual (slotB m (y0 + p1 + p2 + p3)) ((y0 : Int) :: (y1 : Int) :: (y2 : Int) :: (y3 : Int) :: (y4 : Int) :: r)
    unfold slotOf
    rw [hle, hsz, h160]
    rw [h160] at hb8
    have hd5 : ((y0 : Int) :: (y1 : Int) :: (y2 : Int) :: (y3 : Int) :: (y4 : Int) :: r).drop 5 = r := rfl
    rw [hd5]
    clear hp1 hp2 hp3 hle
    generalize (y0 + p1 + p2 + p3 : Nat) = n at *
    generalize (y0 + p1 + p2 : Nat) = n2 at *
    generalize (y0 + p1 : Nat) = n1 at *
    simp only [cl_cons] at hb8 ⊢
    by_cases hc : 1 ≤ n ∧ n ≤ 1000000 ∧ y4 ≤ 151
    · have hr1 : rng (n : Int) 1 1000000 = true := rng_iff.2 (by omega)
      have hb4 : ¬ (151 : Int) < (y4 : Int) := by omega
      rw [hr1] at q1
      rw [if_pos ⟨trivial, hc.1, hc.2.1, hc.2.2⟩]
      have hBt : Bytes (r.take y4) := fun x hx => hBr x (List.mem_of_mem_take hx)
      have htl : (r.take y4).length = y4 := by rw [List.length_take]; omega
      have q2 := r_sMetaOf (r.take y4) hBt (by omega)
      rw [htl, ← cl_take] at q2
      have k1 : (0 : Int) ≤ 5 := by omega
      have k2 : (5 : Int) ≤ 5 + (y4 : Int) := by omega
      have k3 : 5 + (y4 : Int) ≤ 160 := by omega
      have k4 : (5 + (y4 : Int)).toNat = 5 + y4 := by omega
      have k5 : 5 + y4 - 5 = y4 := by omega
      cases hm : metaOf (r.take y4) with
      | none =>
        rw [hm] at q2
        simp only [metaSV, zeroM] at q2
        unfold runRO
        simp (maxSteps := 4000000) -implicitDefEqProofs [tab89, a89, List.take, List.drop, upd, rest, kill, mapMem, List.range, List.range.loop, memL, spl, fromRo, cutB, szOk, c0, c1, c2, c3, c4, s1, s2, s3, o1, o2, o3, a1, a2, a3, q1, q2, hb4, w5, k1, k2, k3, k4, k5, slotSV, zeroM, -BitVec.toNat_or, -BitVec.toNat_and, -BitVec.ofInt_natCast, -BitVec.toNat_ofInt, -BitVec.ofInt_ofNat, -BitVec.reduceOfInt, -Int.natCast_add, -Int.natCast_mul]
      | some m =>
        obtain ⟨mo, mb⟩ := metaOf_spec hm hBt
        have hL : (metaB m).length ≤ 151 := by rw [mb, htl]; omega
        have q3 := r_l6Slot m mo hL n hnb
        have q4 := hb8 m
        rw [slotB_len hL] at q4
        have z1 : (cl .i64 m.gens).take m.gens.length = cl .i64 m.gens := cl_self
        have z2 : (cl .i64 m.gens).length = m.gens.length := cl_length
        have z3 : (m.bits.map intsC).length = m.bits.length := by simp
        have z4 : (m.bits.map intsC).take m.bits.length = m.bits.map intsC := by rw [← z3, List.take_length]
        have z5 : (cl .u8 (slotB m n)).length = 160 := by rw [cl_length, slotB_len hL]
        have z6 : (cl .u8 (slotB m n)).take 160 = cl .u8 (slotB m n) := by rw [← z5, List.take_length]
        rw [hm] at q2
        simp only [metaSV, metaS, metaO] at q2
        simp only [metaA] at q3
        obtain ⟨eb, hq⟩ : ∃ eb, eqB (slotB m n) ((y0 : Int) :: (y1 : Int) :: (y2 : Int) :: (y3 : Int) :: (y4 : Int) :: r) = eb := ⟨_, rfl⟩
        rw [hq] at q4
        simp only [hq]
        simp only [eqB] at hq
        generalize slotB m n = SB at *
        unfold runRO
        cases eb with
        | false => simp (maxSteps := 4000000) -implicitDefEqProofs [tab89, a89, List.take, List.drop, upd, rest, kill, mapMem, List.range, List.range.loop, memL, spl, fromRo, cutB, szOk, binStr, numsOfCells, cl_nums, c0, c1, c2, c3, c4, s1, s2, s3, o1, o2, o3, a1, a2, a3, q1, q2, q3, q4, hq, hb4, hr5, hr6, z1, z2, z3, z4, z5, z6, w5, k1, k2, k3, k4, k5, slotSV, zeroM, metaS, metaO, -BitVec.toNat_or, -BitVec.toNat_and, -BitVec.ofInt_natCast, -BitVec.toNat_ofInt, -BitVec.ofInt_ofNat, -BitVec.reduceOfInt, -Int.natCast_add, -Int.natCast_mul]
        | true => simp (maxSteps := 4000000) -implicitDefEqProofs [tab89, a89, List.take, List.drop, upd, rest, kill, mapMem, List.range, List.range.loop, memL, spl, fromRo, cutB, szOk, binStr, numsOfCells, cl_nums, c0, c1, c2, c3, c4, s1, s2, s3, o1, o2, o3, a1, a2, a3, q1, q2, q3, q4, hq, hb4, hr5, hr6, z1, z2, z3, z4, z5, z6, w5, k1, k2, k3, k4, k5, slotSV, zeroM, metaS, metaO, -BitVec.toNat_or, -BitVec.toNat_and, -BitVec.ofInt_natCast, -BitVec.toNat_ofInt, -BitVec.ofInt_ofNat, -BitVec.reduceOfInt, -Int.natCast_add, -Int.natCast_mul]
    · rw [if_neg (fun h => hc h.2)]
      unfold runRO
      cases hr1 : rng (n : Int) 1 1000000 with
      | false =>
        rw [hr1] at q1
        simp (maxSteps := 4000000) -implicitDefEqProofs [tab89, a89, List.take, List.drop, upd, rest, kill, mapMem, List.range, List.range.loop, memL, spl, fromRo, cutB, szOk, binStr, numsOfCells, cl_nums, c0, c1, c2, c3, c4, s1, s2, s3, o1, o2, o3, a1, a2, a3, q1, w5, slotSV, zeroM, metaS, metaO, -BitVec.toNat_or, -BitVec.toNat_and, -BitVec.ofInt_natCast, -BitVec.toNat_ofInt, -BitVec.ofInt_ofNat, -BitVec.reduceOfInt, -Int.natCast_add, -Int.natCast_mul]
      | true =>
        rw [hr1] at q1
        have := rng_iff.1 hr1
        have hb4 : (151 : Int) < (y4 : Int) := by omega
        simp (maxSteps := 4000000) -implicitDefEqProofs [tab89, a89, List.take, List.drop, upd, rest, kill, mapMem, List.range, List.range.loop, memL, spl, fromRo, cutB, szOk, binStr, numsOfCells, cl_nums, c0, c1, c2, c3, c4, s1, s2, s3, o1, o2, o3, a1, a2, a3, q1, hb4, w5, slotSV, zeroM, metaS, metaO, -BitVec.toNat_or, -BitVec.toNat_and, -BitVec.ofInt_natCast, -BitVec.toNat_ofInt, -BitVec.ofInt_ofNat, -BitVec.reduceOfInt, -Int.natCast_add, -Int.natCast_mul]
  · have hl : ((b.length : Int) == 160) = false := by rw [beq_eq_false_iff_ne]; omega
    have e : slotOf b = none := by unfold slotOf; rw [if_neg (by omega)]
    rw [e]
    unfold runRO
    simp (maxSteps := 4000000) -implicitDefEqProofs [tab89, a89, List.take, List.drop, upd, rest, kill, mapMem, List.range, List.range.loop, memL, spl, bne, hl, slotSV, zeroM]

def slotGet (A B : List Int) : Option (PMeta × Nat) :=
  match slotOf A, slotOf B with
  | some p, some q => if p.2 < q.2 then some q else some p
  | some p, none => some p
  | none, q => q
theorem slotGet_ok {A B : List Int} {m : PMeta} {n : Nat} (h : slotGet A B = some (m, n)) : metaOk m = true ∧ 1 ≤ n := by
  unfold slotGet at h
  split at h
  · rename_i p q hp hq
    split at h
    · cases h; exact ⟨(slotOf_spec hq).1, (slotOf_spec hq).2.1⟩
    · cases h; exact ⟨(slotOf_spec hp).1, (slotOf_spec hp).2.1⟩
  · rename_i p hp hq
    cases h; exact ⟨(slotOf_spec hp).1, (slotOf_spec hp).2.1⟩
  · rename_i hp
    exact ⟨(slotOf_spec h).1, (slotOf_spec h).2.1⟩
def isA (A B : List Int) : Bool :=
  match slotOf A, slotOf B with
  | some p, some q => !decide (p.2 < q.2)
  | some _, none => true
  | none, _ => false
def latSV (f : Bool) : Option (PMeta × Nat) → SV × List Ob
  | some (m, n) => (.tup [(true, metaS m), (false, [.int .i64 n]), (false, [.bool f])], metaO m)
  | none => (.tup [(true, zeroM), (false, [.int .i64 0]), (false, [.bool f])], [])
theorem r_latest (n : PNode) (hA : Bytes n.sa) (hB : Bytes n.sb) (h1 : n.sa.length ≤ 1048576) (h2 : n.sb.length ≤ 1048576) : runRO (X tab) tab 104 [.v true (slotsA n)] = some (latSV (isA n.sa n.sb) (slotGet n.sa n.sb)) := by
  have q1 := r_SlotOf n.sa hA h1
  have q2 := r_SlotOf n.sb hB h2
  unfold slotGet isA
  cases ha : slotOf n.sa with
  | none =>
    rw [ha] at q1
    cases hb : slotOf n.sb with
    | none =>
      rw [hb] at q2
      simp only [slotSV, zeroM] at q1 q2
      unfold runRO
      simp (maxSteps := 4000000) -implicitDefEqProofs [tab104, a104, List.take, List.drop, upd, rest, kill, mapMem, List.range, List.range.loop, memL, spl, roCells, slotsA, q1, q2, latSV, metaS, metaO, zeroM]
    | some q =>
      obtain ⟨m, k⟩ := q
      rw [hb] at q2
      simp only [slotSV, zeroM, metaS, metaO] at q1 q2
      unfold runRO
      simp (maxSteps := 4000000) -implicitDefEqProofs [tab104, a104, List.take, List.drop, upd, rest, kill, mapMem, List.range, List.range.loop, memL, spl, roCells, slotsA, q1, q2, latSV, metaS, metaO, zeroM]
  | some p =>
    obtain ⟨m, k⟩ := p
    rw [ha] at q1
    cases hb : slotOf n.sb with
    | none =>
      rw [hb] at q2
      simp only [slotSV, zeroM, metaS, metaO] at q1 q2
      unfold runRO
      simp (maxSteps := 4000000) -implicitDefEqProofs [tab104, a104, List.take, List.drop, upd, rest, kill, mapMem, List.range, List.range.loop, memL, spl, roCells, slotsA, q1, q2, latSV, metaS, metaO, zeroM]
    | some q =>
      obtain ⟨m2, k2⟩ := q
      rw [hb] at q2
      simp only [slotSV, zeroM, metaS, metaO] at q1 q2
      unfold runRO
      by_cases hlt : k < k2
      · have hlt' : (k : Int) < (k2 : Int) := by omega
        simp (maxSteps := 4000000) -implicitDefEqProofs [tab104, a104, List.take, List.drop, upd, rest, kill, mapMem, List.range, List.range.loop, memL, spl, roCells, slotsA, q1, q2, hlt, hlt', latSV, metaS, metaO, zeroM]
      · have hlt' : ¬ (k : Int) < (k2 : Int) := by omega
        simp (maxSteps := 4000000) -implicitDefEqProofs [tab104, a104, List.take, List.drop, upd, rest, kill, mapMem, List.range, List.range.loop, memL, spl, roCells, slotsA, q1, q2, hlt, hlt', latSV, metaS, metaO, zeroM]
theorem r_SlotGet (n : PNode) (hA : Bytes n.sa) (hB : Bytes n.sb) (h1 : n.sa.length ≤ 1048576) (h2 : n.sb.length ≤ 1048576) : runRO (X tab) tab 93 [.v true (slotsA n)] = some (latSV (slotGet n.sa n.sb).isSome (slotGet n.sa n.sb)) := by
  have q1 := r_latest n hA hB h1 h2
  generalize isA n.sa n.sb = f at *
  cases hg : slotGet n.sa n.sb with
  | none =>
    rw [hg] at q1
    simp only [latSV, zeroM, slotsA] at q1
    unfold runRO
    simp (maxSteps := 4000000) -implicitDefEqProofs [tab93, a93, List.take, List.drop, upd, rest, kill, mapMem, List.range, List.range.loop, memL, spl, roCells, fromRo, slotsA, q1, latSV, metaS, metaO, zeroM]
  | some p =>
    obtain ⟨m, k⟩ := p
    have hk := (slotGet_ok hg).2
    have hk' : (0 : Int) < (k : Int) := by omega
    have hk'' : 0 < k := hk
    rw [hg] at q1
    simp only [latSV, metaS, metaO, slotsA] at q1
    unfold runRO
    simp (maxSteps := 4000000) -implicitDefEqProofs [tab93, a93, List.take, List.drop, upd, rest, kill, mapMem, List.range, List.range.loop, memL, spl, roCells, fromRo, slotsA, q1, hk', hk'', latSV, metaS, metaO, zeroM]
/-! The reference's. -/
def whichI (A B : List Int) : Int :=
  match slotOf A, slotOf B with
  | some p, some q => if p.2 < q.2 then 1 else 0
  | some _, none => 0
  | none, some _ => 1
  | none, none => -1
theorem r_l6Which (n : PNode) (hA : Bytes n.sa) (hB : Bytes n.sb) (h1 : n.sa.length ≤ 1048576) (h2 : n.sb.length ≤ 1048576) : runRO (X tab) tab 88 [.v true (slotsA n)] = some (.v false [.int .i64 (whichI n.sa n.sb)], []) := by
  have q1 := r_sSlotOf n.sa hA h1
  have q2 := r_sSlotOf n.sb hB h2
  unfold whichI
  cases ha : slotOf n.sa with
  | none =>
    rw [ha] at q1
    cases hb : slotOf n.sb with
    | none =>
      rw [hb] at q2
      simp only [slotSV, zeroM] at q1 q2
      unfold runRO
      simp (maxSteps := 4000000) -implicitDefEqProofs [tab88, a88, List.take, List.drop, upd, rest, kill, mapMem, List.range, List.range.loop, memL, spl, roCells, fromRo, slotsA, q1, q2]
    | some q =>
      obtain ⟨m, k⟩ := q
      rw [hb] at q2
      simp only [slotSV, zeroM, metaS, metaO] at q1 q2
      unfold runRO
      simp (maxSteps := 4000000) -implicitDefEqProofs [tab88, a88, List.take, List.drop, upd, rest, kill, mapMem, List.range, List.range.loop, memL, spl, roCells, fromRo, slotsA, q1, q2]
  | some p =>
    obtain ⟨m, k⟩ := p
    rw [ha] at q1
    cases hb : slotOf n.sb with
    | none =>
      rw [hb] at q2
      simp only [slotSV, zeroM, metaS, metaO] at q1 q2
      unfold runRO
      simp (maxSteps := 4000000) -implicitDefEqProofs [tab88, a88, List.take, List.drop, upd, rest, kill, mapMem, List.range, List.range.loop, memL, spl, roCells, fromRo, slotsA, q1, q2]
    | some q =>
      obtain ⟨m2, k2⟩ := q
      rw [hb] at q2
      simp only [slotSV, zeroM, metaS, metaO] at q1 q2
      unfold runRO
      by_cases hlt : k < k2
      · have hlt' : ¬ (k2 : Int) ≤ (k : Int) := by omega
        have hlt2 : ¬ k2 ≤ k := by omega
        simp (maxSteps := 4000000) -implicitDefEqProofs [tab88, a88, List.take, List.drop, upd, rest, kill, mapMem, List.range, List.range.loop, memL, spl, roCells, fromRo, slotsA, q1, q2, hlt, hlt', hlt2]
      · have hlt' : (k2 : Int) ≤ (k : Int) := by omega
        have hlt2 : k2 ≤ k := by omega
        simp (maxSteps := 4000000) -implicitDefEqProofs [tab88, a88, List.take, List.drop, upd, rest, kill, mapMem, List.range, List.range.loop, memL, spl, roCells, fromRo, slotsA, q1, q2, hlt, hlt', hlt2]
theorem r_sSlotGet (n : PNode) (hA : Bytes n.sa) (hB : Bytes n.sb) (h1 : n.sa.length ≤ 1048576) (h2 : n.sb.length ≤ 1048576) : runRO (X tab) tab 65 [.v true (slotsA n)] = some (latSV (slotGet n.sa n.sb).isSome (slotGet n.sa n.sb)) := by
  have q0 := r_l6Which n hA hB h1 h2
  have q1 := r_sSlotOf n.sa hA h1
  have q2 := r_sSlotOf n.sb hB h2
  simp only [slotsA] at q0
  have key : (whichI n.sa n.sb = 1 ∧ slotGet n.sa n.sb = slotOf n.sb) ∨ (¬ whichI n.sa n.sb = 1 ∧ slotGet n.sa n.sb = slotOf n.sa) := by
    unfold whichI slotGet
    cases slotOf n.sa with
    | none => cases slotOf n.sb <;> simp
    | some p =>
      cases slotOf n.sb with
      | none => simp
      | some q =>
        by_cases h : p.2 < q.2
        · left; simp [h]
        · right; simp [h]
  rcases key with ⟨k1, k2⟩ | ⟨k1, k2⟩
  · rw [k2]
    rw [k1] at q0
    cases hb : slotOf n.sb with
    | none =>
      rw [hb] at q2
      simp only [slotSV, zeroM] at q2
      unfold runRO
      simp (maxSteps := 4000000) -implicitDefEqProofs [tab65, a65, List.take, List.drop, upd, rest, kill, mapMem, List.range, List.range.loop, memL, spl, roCells, fromRo, slotsA, q0, q2, latSV, metaS, metaO, zeroM]
    | some q =>
      obtain ⟨m, k⟩ := q
      rw [hb] at q2
      simp only [slotSV, metaS, metaO] at q2
      unfold runRO
      simp (maxSteps := 4000000) -implicitDefEqProofs [tab65, a65, List.take, List.drop, upd, rest, kill, mapMem, List.range, List.range.loop, memL, spl, roCells, fromRo, slotsA, q0, q2, latSV, metaS, metaO, zeroM]
  · rw [k2]
    have k3 : (whichI n.sa n.sb == 1) = false := by rw [beq_eq_false_iff_ne]; exact k1
    generalize whichI n.sa n.sb = wh at *
    cases hb : slotOf n.sa with
    | none =>
      rw [hb] at q1
      simp only [slotSV, zeroM] at q1
      unfold runRO
      simp (maxSteps := 4000000) -implicitDefEqProofs [tab65, a65, List.take, List.drop, upd, rest, kill, mapMem, List.range, List.range.loop, memL, spl, roCells, fromRo, slotsA, q0, q1, k3, latSV, metaS, metaO, zeroM]
    | some q =>
      obtain ⟨m, k⟩ := q
      rw [hb] at q1
      simp only [slotSV, metaS, metaO] at q1
      unfold runRO
      simp (maxSteps := 4000000) -implicitDefEqProofs [tab65, a65, List.take, List.drop, upd, rest, kill, mapMem, List.range, List.range.loop, memL, spl, roCells, fromRo, slotsA, q0, q1, k3, latSV, metaS, metaO, zeroM]
end Go.Proofs.YtbdokibepndibaaGreat.Eng.C
