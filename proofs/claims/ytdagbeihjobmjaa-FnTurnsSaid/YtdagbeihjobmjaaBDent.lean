/- Draws: bytes with something put in or taken away. -/
import Derived.Test.YtdagbeihjobmjaaBDraw2
import Derived.Test.YtdagbeihjobmjaaBTouch
import Derived.Test.YtdagbeihjobmjaaBGet
namespace Go.Proofs.Ytdagbeihjobmjaa.Eng.B
set_option linter.unusedSimpArgs false
set_option linter.unusedVariables false
open Go.RowKit Go.Proofs

theorem r_l1PickIntL (l : List Int) (hl : l.length ≤ 1048576) (i : Nat) (h : Int) (ws : List Int) (hw : ws ≠ []) (hwl : ws.length ≤ 1048576) :
    ∃ (x : Int) (i' : Nat) (h' : Int), x ∈ ws ∧ runLend (X tab) tab 104 [.ro l.length (cl .u8 l), .int .i64 i, .int .i64 h] [.v false [.ro ws.length (cl .i64 ws)]] = some (.v false [.int .i64 x], [.ro l.length (cl .u8 l), .int .i64 i', .int .i64 h'], []) := by
  obtain ⟨x1, i1, g1, ⟨b1, b2⟩, e1⟩ := r_l1Below l hl i h ws.length
  have hpos : 0 < ws.length := List.length_pos_iff.2 hw
  obtain ⟨k, rfl⟩ : ∃ k : Nat, x1 = k := ⟨x1.toNat, by omega⟩
  have hk : k < ws.length := by have := b2 (by omega); omega
  obtain ⟨y, r, hd⟩ : ∃ y r, ws.drop k = y :: r := ⟨_, _, List.drop_eq_getElem_cons hk⟩
  refine ⟨y, i1, g1, ?_, ?_⟩
  · have : y ∈ ws.drop k := by rw [hd]; simp
    exact List.mem_of_mem_drop this
  · have h2 := cl_at (k := .i64) hd
    unfold runLend
    simp (maxSteps := 4000000) -implicitDefEqProofs [tab104, a104, lendEnd, x_seq, x_cond, x_block, x_region, x_skip, x_exit, x_ret, head_id, runG, runOps, doOp, wantB, stepOp, AO.eff, pureOp, St.get, St.one, St.num, St.put, St.optNum, binA, binInt, List.take, List.drop, effOp2, effOp, memL_app, stoRow, cellsAt, toCells, toCell, scalar_int, scalar_bool, scalar_str, scalar_sl, updAt, fromRo, upd, callLend, lendBox, A1.ids, roArgs, roL, roA, A1.ownB, addMem_nil, List.range, List.range.loop, SV.map, ren, shift, upd, memL_app, resOf, resSV, SV.map, SV.ids, A1.ids, reach, allObs, ren, pos, Ob.map, St.canon, memL, List.range, List.range.loop, e1, hk, h2]
theorem take_mapS {sl up : List SV} {g : SV → SV} : List.take sl.length (sl.map g ++ up.map g) = sl.map g := by rw [← List.length_map (f := g)]; exact List.take_left
theorem drop_mapS {sl up : List SV} {g : SV → SV} : List.drop sl.length (sl.map g ++ up.map g) = up.map g := by rw [← List.length_map (f := g)]; exact List.drop_left
theorem map_idS {sl : List SV} : sl.map (SV.map id) = sl := slots_id sl
structure Dented (t : Nat) (l : List Int) (n : Nat) (sl up : List SV) (nx : Nat) (r : SV × XS) : Prop where
  out : ∃ (u k : Nat) (cs : List Int) (i' : Nat) (h' : Int) (fx : A1 → A1) (m' : Mem) (nx' : Nat), r = (.v false [.sl u [] 0 k], ⟨⟨sl.map (SV.map fx), m', up.map (SV.map fx)⟩, nx'⟩) ∧ (fx = id ∨ fx = kill [nx + 1088]) ∧
    m' t = some (.box [.ro l.length (cl .u8 l), .int .i64 i', .int .i64 h']) ∧ k ≤ cs.length ∧ cs.length ≤ n + 1 ∧ Bytes cs ∧ u ≠ t ∧ m' u = some (.row 1 (cl .u8 cs)) ∧ t < nx' ∧ u < nx' ∧ ∀ j, freshB m' (nx' + j) = true
set_option maxHeartbeats 2000000 in
theorem r_l4Dent (l : List Int) (hl : l.length ≤ 1048576) (i : Nat) (h : Int) (b : List Int) (hB : Bytes b) (hb : b.length ≤ 1048576) (t u : Nat) (sl : List SV) (m : Mem) (up : List SV) (nx : Nat) (htu : t ≠ u) (ht : t < nx) (hu : u < nx)
    (hm : m t = some (.box [.ro l.length (cl .u8 l), .int .i64 i, .int .i64 h])) (hmu : m u = some (.row 1 (cl .u8 b))) (hf : ∀ j, freshB m (nx + j) = true) :
    ∃ r, runThru (X tab) tab 108 [.v false [.pr t [] 0], .v false [.sl u [] 0 b.length]] ⟨⟨sl, m, up⟩, nx⟩ = some r ∧ Dented t l b.length sl up nx r := by
  have w1 : IntKind.i64.wrap ((b.length : Int) + 1) = (b.length : Int) + 1 := wrap_id (by omega) (by omega)
  obtain ⟨x1, i1, g1, ⟨b1, c1⟩, e1⟩ := r_l1Below l hl i h ((b.length : Int) + 1)
  have c1 := c1 (by omega)
  obtain ⟨at_, rfl⟩ : ∃ k : Nat, x1 = k := ⟨x1.toNat, by omega⟩
  have hat : at_ ≤ b.length := by omega
  obtain ⟨x2, i2, g2, ⟨b2, c2⟩, e2⟩ := r_l1Below l hl i1 g1 5
  obtain ⟨x3, i3, g3, hx3, e3⟩ := r_l1PickIntL l hl i2 g2 [0, 1, 128, 3] (by simp) (by simp)
  have htu' := Ne.symm htu
  have ne1 : ∀ k, ¬ nx + k = t := fun k => by omega
  have ne2 : ∀ k, ¬ nx + k = u := fun k => by omega
  have ne3 : ∀ k, ¬ t = nx + k := fun k => by omega
  have ne4 : ∀ k, ¬ u = nx + k := fun k => by omega
  have fu : ∀ (m0 : Mem) (y : Option Ob) (j : Nat), freshB (upd m0 t y) (nx + j) = freshB m0 (nx + j) := fun m0 y j => freshB_upd (.inl (by omega))
  by_cases h0 : x2 = 0
  · subst h0
    unfold runThru
    simp (maxSteps := 4000000) -implicitDefEqProofs [tab108, a108, x_seq, x_cond, x_block, x_region, x_skip, x_exit, x_ret, head_id, runG, runOps, doOp, wantB, stepOp, AO.eff, pureOp, St.get, St.one, St.num, St.put, St.optNum, binA, binInt, List.take, List.drop, effOp2, effOp, memL_app, stoRow, cellsAt, toCells, toCell, scalar_int, scalar_bool, scalar_str, scalar_sl, updAt, fromRo, upd, callLend, lendBox, A1.ids, roArgs, roL, roA, A1.ownB, addMem_nil, List.range, List.range.loop, SV.map, ren, shift, upd, memL_app, w1, hm, hmu, e1, e2, htu, htu', szOk, cutB, hat, resOf, resSV, upd_upd, Nat.add_assoc, -Prod.exists]
    refine ⟨u, at_, b, i2, g2, id, _, _, by rw [map_idS, map_idS], .inl rfl, by simp [upd], hat, by omega, hB, htu', by simp [upd, htu', hmu], by omega, by omega, fun j => ?_⟩
    rw [freshB_upd (.inl (by omega)), Nat.add_assoc]
    exact hf _
  · by_cases h1 : x2 = 1
    · subst h1
      have hbs : 2 ≤ 140737488355328 := by omega
      have hat' : (at_ : Int) ≤ (b.length : Int) := by omega
      have t1 : List.take at_ (cl .u8 b) = cl .u8 (b.take at_) := by simp [cl]
      have t2 : List.take (b.length - at_) (List.drop at_ (cl .u8 b)) = cl .u8 (b.drop at_) := by
        rw [List.take_of_length_le (by rw [List.length_drop, cl_length]; omega)]
        simp [cl]
      have f1 : ∀ x ∈ cl .u8 (b.take at_), x.flat = true := cl_flat'.2 trivial
      have f2 : ∀ x ∈ cl .u8 (b.drop at_), x.flat = true := cl_flat'.2 trivial
      have l0 : (cl .u8 b).length = b.length := cl_length
      have l1 : (cl .u8 (b.take at_)).length = at_ := by rw [cl_length, List.length_take]; omega
      have l2 : (cl .u8 (b.drop at_)).length = b.length - at_ := by rw [cl_length, List.length_drop]
      have l3 : at_ ≤ 140737488355328 := by omega
      have l4 : 1 + (b.length - at_) ≤ 140737488355328 := by omega
      have l5 : 1 + b.length ≤ 140737488355328 := by omega
      have hfm : ∀ j, m (nx + j) = none := fun j => by have := freshB_spec (hf j) (i := 0) (by omega); simpa using this
      have t4 : List.take (1 + (b.length - at_)) (Cell.int .u8 (IntKind.u8.wrap x3) :: cl .u8 (b.drop at_)) = Cell.int .u8 (IntKind.u8.wrap x3) :: cl .u8 (b.drop at_) := List.take_of_length_le (by rw [List.length_cons, l2]; omega)
      have l6 : 1 + (b.length - at_) ≤ b.length - at_ + 1 := by omega
      have l7 : at_ + (1 + (b.length - at_)) ≤ 140737488355328 := by omega
      have l8 : ¬ 1 + (b.length - at_) = 0 := by omega
      have t3 : List.take b.length (cl .u8 b) = cl .u8 b := List.take_of_length_le (by rw [cl_length]; exact Nat.le_refl _)
      have e3' : runLend (X tab) tab 104 [.ro l.length (cl .u8 l), .int .i64 i2, .int .i64 g2] [.v false [.ro 4 [.int .i64 0, .int .i64 1, .int .i64 128, .int .i64 3]]] = some (.v false [.int .i64 x3], [.ro l.length (cl .u8 l), .int .i64 i3, .int .i64 g3], []) := e3
      have q1 : at_ + (b.length - at_) = b.length := by omega
      have hy : 0 ≤ IntKind.u8.wrap x3 ∧ IntKind.u8.wrap x3 ≤ 255 := by
        simp only [List.mem_cons, List.not_mem_nil, or_false] at hx3
        rcases hx3 with rfl | rfl | rfl | rfl <;> decide
      have hcB : Bytes (b.take at_ ++ IntKind.u8.wrap x3 :: b.drop at_) := by
        intro y hy'
        simp only [List.mem_append, List.mem_cons] at hy'
        rcases hy' with hy' | rfl | hy'
        · exact hB y (List.mem_of_mem_take hy')
        · exact hy
        · exact hB y (List.mem_of_mem_drop hy')
      have hcl : (b.take at_ ++ IntKind.u8.wrap x3 :: b.drop at_).length = b.length + 1 := by
        rw [List.length_append, List.length_cons, List.length_take, List.length_drop]
        omega
      have fin0 : ∀ m' : Mem, (∀ k, nx + 1856 ≤ k → m' k = none) → ∀ j, freshB m' (nx + 1856 + j) = true := by
        intro m' hm' j
        simp only [freshB, List.all_eq_true]
        intro i _
        rw [hm' _ (by omega)]
        rfl
      have hge : ∀ k, nx + 1856 ≤ k → m k = none := fun k hk => by have := hfm (k - nx); rwa [show nx + (k - nx) = k by omega] at this
      by_cases ha : at_ = 0
      · have tk : b.take at_ = [] := by rw [ha]; rfl
        have dr : b.drop at_ = b := by rw [ha]; rfl
        by_cases hb0 : b.length - at_ = 0
        · have hbe : (b = []) = True := eq_true (List.eq_nil_of_length_eq_zero (by omega))
          have hbe' : b = [] := List.eq_nil_of_length_eq_zero (by omega)
          unfold runThru
          simp (maxSteps := 4000000) -implicitDefEqProofs [tab108, a108, x_seq, x_cond, x_block, x_region, x_skip, x_exit, x_ret, head_id, runG, runOps, doOp, wantB, stepOp, AO.eff, pureOp, St.get, St.one, St.num, St.put, St.optNum, binA, binInt, List.take, List.drop, gOp, gOp0, gOpL, gResL, updO, gRes, gEff, addObs_nil, addObs_one, freshB_memL, freshB_none, freshB_upd, freshB_addMem, freshB_addObs, gLend, roCells, effOp2, effOp, memL_app, stoRow, cellsAt, toCells, toCell, scalar_int, scalar_bool, scalar_str, scalar_sl, updAt, fromRo, upd, callLend, lendBox, A1.ids, roArgs, roL, roA, A1.ownB, addMem_nil, List.range, List.range.loop, SV.map, ren, shift, upd, memL_app, srcCells, A1.slB, flat_int, cl_flat', St.parts, Eng.inB, reps, fillA, newRowSt, appSt, oldOf, rest, kill, mapMem, SV.map, Ob.map, w1, hm, hmu, e1, e2, e3', htu, htu', szOk, cutB, hat, hat', t1, t2, q1, f1, f2, l0, l1, l2, l3, t3, l4, l5, hfm, t4, l6, l7, l8, hbe, ha, hb0, resOf, resSV, upd_upd, Nat.add_assoc, h0, hf, fu, ne1, ne2, ne3, ne4, take_mapS, drop_mapS, -Prod.exists]
          refine ⟨nx + 1728, 1, b.take at_ ++ IntKind.u8.wrap x3 :: b.drop at_, i3, g3, id, _, _, by first | rfl | (rw [map_idS, map_idS]), .inl rfl, by simp [upd, ne3, ne4, htu, htu', mapMem, Ob.map, kill], by rw [hcl]; omega, by rw [hcl]; exact Nat.le_refl _, hcB, (by omega), ?_, by omega, by omega, fin0 _ ?_⟩
          · simp [upd, hbe', cl]
          · intro k hk
            have g1 : ¬ k = nx + 1728 := by omega
            have g2 : ¬ k = nx + 1664 := by omega
            have g3 : ¬ k = nx + 1088 := by omega
            have g4 : ¬ k = t := by omega
            simp [upd, mapMem, g1, g2, g3, g4, hge k hk]
        · have hbe : ¬ b = [] := fun e => hb0 (by rw [e]; simp)
          have l9 : 1 + b.length ≤ b.length + 1 := by omega
          have t5 : List.take (1 + b.length) (Cell.int .u8 (IntKind.u8.wrap x3) :: cl .u8 b) = Cell.int .u8 (IntKind.u8.wrap x3) :: cl .u8 b := List.take_of_length_le (by rw [List.length_cons, cl_length]; omega)
          have l10 : ¬ 1 + b.length = 0 := by omega
          unfold runThru
          simp (maxSteps := 4000000) -implicitDefEqProofs [tab108, a108, x_seq, x_cond, x_block, x_region, x_skip, x_exit, x_ret, head_id, runG, runOps, doOp, wantB, stepOp, AO.eff, pureOp, St.get, St.one, St.num, St.put, St.optNum, binA, binInt, List.take, List.drop, gOp, gOp0, gOpL, gResL, updO, gRes, gEff, addObs_nil, addObs_one, freshB_memL, freshB_none, freshB_upd, freshB_addMem, freshB_addObs, gLend, roCells, effOp2, effOp, memL_app, stoRow, cellsAt, toCells, toCell, scalar_int, scalar_bool, scalar_str, scalar_sl, updAt, fromRo, upd, callLend, lendBox, A1.ids, roArgs, roL, roA, A1.ownB, addMem_nil, List.range, List.range.loop, SV.map, ren, shift, upd, memL_app, srcCells, A1.slB, flat_int, cl_flat', St.parts, Eng.inB, reps, fillA, newRowSt, appSt, oldOf, rest, kill, mapMem, SV.map, Ob.map, w1, hm, hmu, e1, e2, e3', htu, htu', szOk, cutB, hat, hat', t1, t2, q1, f1, f2, l0, l1, l2, l3, t3, l4, l5, hfm, t4, l6, l7, l8, hbe, l9, t5, l10, ha, hb0, resOf, resSV, upd_upd, Nat.add_assoc, h0, hf, fu, ne1, ne2, ne3, ne4, take_mapS, drop_mapS, -Prod.exists]
          refine ⟨nx + 1728, 1 + b.length, b.take at_ ++ IntKind.u8.wrap x3 :: b.drop at_, i3, g3, id, _, _, by first | rfl | (rw [map_idS, map_idS]), .inl rfl, by simp [upd, ne3, ne4, htu, htu', mapMem, Ob.map, kill], by rw [hcl]; omega, by rw [hcl]; exact Nat.le_refl _, hcB, (by omega), ?_, by omega, by omega, fin0 _ ?_⟩
          · simp [upd, tk, dr, cl]
          · intro k hk
            have g1 : ¬ k = nx + 1728 := by omega
            have g2 : ¬ k = nx + 1664 := by omega
            have g3 : ¬ k = nx + 1088 := by omega
            have g4 : ¬ k = t := by omega
            simp [upd, mapMem, g1, g2, g3, g4, hge k hk]
      · by_cases hb0 : b.length - at_ = 0
        · have dr : b.drop at_ = [] := List.drop_eq_nil_of_le (by omega)
          have l9 : at_ + 1 ≤ 140737488355328 := by omega
          have hbe : ¬ b.length < at_ := by omega
          unfold runThru
          simp (maxSteps := 4000000) -implicitDefEqProofs [tab108, a108, x_seq, x_cond, x_block, x_region, x_skip, x_exit, x_ret, head_id, runG, runOps, doOp, wantB, stepOp, AO.eff, pureOp, St.get, St.one, St.num, St.put, St.optNum, binA, binInt, List.take, List.drop, gOp, gOp0, gOpL, gResL, updO, gRes, gEff, addObs_nil, addObs_one, freshB_memL, freshB_none, freshB_upd, freshB_addMem, freshB_addObs, gLend, roCells, effOp2, effOp, memL_app, stoRow, cellsAt, toCells, toCell, scalar_int, scalar_bool, scalar_str, scalar_sl, updAt, fromRo, upd, callLend, lendBox, A1.ids, roArgs, roL, roA, A1.ownB, addMem_nil, List.range, List.range.loop, SV.map, ren, shift, upd, memL_app, srcCells, A1.slB, flat_int, cl_flat', St.parts, Eng.inB, reps, fillA, newRowSt, appSt, oldOf, rest, kill, mapMem, SV.map, Ob.map, w1, hm, hmu, e1, e2, e3', htu, htu', szOk, cutB, hat, hat', t1, t2, q1, f1, f2, l0, l1, l2, l3, t3, l4, l5, hfm, t4, l6, l7, l8, l9, ha, hb0, resOf, resSV, upd_upd, Nat.add_assoc, h0, hf, fu, ne1, ne2, ne3, ne4, take_mapS, drop_mapS, -Prod.exists]
          refine ⟨nx + 1728, at_ + 1, b.take at_ ++ IntKind.u8.wrap x3 :: b.drop at_, i3, g3, kill [nx + 1088], _, _, by first | rfl | (rw [map_idS, map_idS]), .inr rfl, by simp [upd, ne3, ne4, htu, htu', mapMem, Ob.map, kill], by rw [hcl]; omega, by rw [hcl]; exact Nat.le_refl _, hcB, (by omega), ?_, by omega, by omega, fin0 _ ?_⟩
          · simp [upd, dr, cl]
          · intro k hk
            have g1 : ¬ k = nx + 1728 := by omega
            have g2 : ¬ k = nx + 1664 := by omega
            have g3 : ¬ k = nx + 1088 := by omega
            have g4 : ¬ k = t := by omega
            simp [upd, mapMem, g1, g2, g3, g4, hge k hk]
        · unfold runThru
          simp (maxSteps := 4000000) -implicitDefEqProofs [tab108, a108, x_seq, x_cond, x_block, x_region, x_skip, x_exit, x_ret, head_id, runG, runOps, doOp, wantB, stepOp, AO.eff, pureOp, St.get, St.one, St.num, St.put, St.optNum, binA, binInt, List.take, List.drop, gOp, gOp0, gOpL, gResL, updO, gRes, gEff, addObs_nil, addObs_one, freshB_memL, freshB_none, freshB_upd, freshB_addMem, freshB_addObs, gLend, roCells, effOp2, effOp, memL_app, stoRow, cellsAt, toCells, toCell, scalar_int, scalar_bool, scalar_str, scalar_sl, updAt, fromRo, upd, callLend, lendBox, A1.ids, roArgs, roL, roA, A1.ownB, addMem_nil, List.range, List.range.loop, SV.map, ren, shift, upd, memL_app, srcCells, A1.slB, flat_int, cl_flat', St.parts, Eng.inB, reps, fillA, newRowSt, appSt, oldOf, rest, kill, mapMem, SV.map, Ob.map, w1, hm, hmu, e1, e2, e3', htu, htu', szOk, cutB, hat, hat', t1, t2, q1, f1, f2, l0, l1, l2, l3, t3, l4, l5, hfm, t4, l6, l7, l8,  ha, hb0, resOf, resSV, upd_upd, Nat.add_assoc, h0, hf, fu, ne1, ne2, ne3, ne4, take_mapS, drop_mapS, -Prod.exists]
          refine ⟨nx + 1728, at_ + (1 + (b.length - at_)), b.take at_ ++ IntKind.u8.wrap x3 :: b.drop at_, i3, g3, kill [nx + 1088], _, _, by first | rfl | (rw [map_idS, map_idS]), .inr rfl, by simp [upd, ne3, ne4, htu, htu', mapMem, Ob.map, kill], by rw [hcl]; omega, by rw [hcl]; exact Nat.le_refl _, hcB, (by omega), ?_, by omega, by omega, fin0 _ ?_⟩
          · simp [upd, cl, cl]
          · intro k hk
            have g1 : ¬ k = nx + 1728 := by omega
            have g2 : ¬ k = nx + 1664 := by omega
            have g3 : ¬ k = nx + 1088 := by omega
            have g4 : ¬ k = t := by omega
            simp [upd, mapMem, g1, g2, g3, g4, hge k hk]
    · unfold runThru
      simp (maxSteps := 4000000) -implicitDefEqProofs [tab108, a108, x_seq, x_cond, x_block, x_region, x_skip, x_exit, x_ret, head_id, runG, runOps, doOp, wantB, stepOp, AO.eff, pureOp, St.get, St.one, St.num, St.put, St.optNum, binA, binInt, List.take, List.drop, effOp2, effOp, memL_app, stoRow, cellsAt, toCells, toCell, scalar_int, scalar_bool, scalar_str, scalar_sl, updAt, fromRo, upd, callLend, lendBox, A1.ids, roArgs, roL, roA, A1.ownB, addMem_nil, List.range, List.range.loop, SV.map, ren, shift, upd, memL_app, w1, hm, hmu, e1, e2, htu, htu', resOf, resSV, upd_upd, Nat.add_assoc, h0, h1, -Prod.exists]
      refine ⟨u, b.length, b, i2, g2, id, _, _, by rw [map_idS, map_idS], .inl rfl, by simp [upd], Nat.le_refl _, by omega, hB, htu', by simp [upd, htu', hmu], by omega, by omega, fun j => ?_⟩
      rw [freshB_upd (.inl (by omega)), Nat.add_assoc]
      exact hf _
end Go.Proofs.Ytdagbeihjobmjaa.Eng.B
