/- Draws: a cursor over the bytes of a draw, and what is drawn with it: in bounds, whatever it is. -/
import Derived.Test.YtdagbeihjobmjaaRNum
namespace Go.Proofs.Ytdagbeihjobmjaa.Eng.R
set_option linter.unusedSimpArgs false
set_option linter.unusedVariables false
open Go.RowKit Go.Proofs

theorem and255 (a : Int) : 0 ≤ IntKind.i64.wrap (((a % 2 ^ IntKind.i64.bits).toNat &&& (255 % 2 ^ IntKind.i64.bits : Int).toNat : Nat) : Int) ∧ IntKind.i64.wrap (((a % 2 ^ IntKind.i64.bits).toNat &&& (255 % 2 ^ IntKind.i64.bits : Int).toNat : Nat) : Int) < 256 := by
  have h2 : (255 % 2 ^ IntKind.i64.bits : Int).toNat = 255 := rfl
  have h3 : ∀ n : Nat, n &&& 255 = n % 256 := fun n => Nat.and_two_pow_sub_one_eq_mod n 8
  rw [h2, h3, wrap_id (by omega) (by omega)]
  omega
/-- What one byte of a draw comes to. -/
def GoodB (n : Nat) (cs : List Cell) (r : SV × List A1 × List Ob) : Prop :=
  ∃ (x : Int) (i' : Nat) (h' : Int), 0 ≤ x ∧ x < 256 ∧ r = (.v false [.int .i64 x], [.ro n cs, .int .i64 i', .int .i64 h'], [])
theorem r_l1Byte (l : List Int) (hl : l.length ≤ 1048576) (i : Nat) (h : Int) :
    ∃ (x : Int) (i' : Nat) (h' : Int), 0 ≤ x ∧ x < 256 ∧ runLend (X tab) tab 127 [.ro l.length (cl .u8 l), .int .i64 i, .int .i64 h] [] = some (.v false [.int .i64 x], [.ro l.length (cl .u8 l), .int .i64 i', .int .i64 h'], []) := by
  suffices hs : ∃ r, runLend (X tab) tab 127 [.ro l.length (cl .u8 l), .int .i64 i, .int .i64 h] [] = some r ∧ GoodB l.length (cl .u8 l) r by
    obtain ⟨r, hr, x, i', h', h1, h2, rfl⟩ := hs
    exact ⟨x, i', h', h1, h2, hr⟩
  by_cases hi : i < l.length
  · obtain ⟨y, r, hd⟩ : ∃ y r, l.drop i = y :: r := ⟨_, _, List.drop_eq_getElem_cons hi⟩
    have h1 : (0 ≤ (i : Int) ∧ (i : Int) < (l.length : Int)) := by omega
    have h2 := cl_at (k := .u8) hd
    have h4 : IntKind.i64.wrap ((i : Int) + 1) = ((i + 1 : Nat) : Int) := by rw [wrap_id (by omega) (by omega)]; omega
    unfold runLend
    simp (maxSteps := 4000000) -implicitDefEqProofs [tab127, a127, lendEnd, x_seq, x_cond, x_block, x_region, x_skip, x_exit, x_ret, head_id, runG, runOps, doOp, wantB, stepOp, AO.eff, pureOp, St.get, St.one, St.num, St.put, St.optNum, binA, binInt, List.take, List.drop, gOp, gOp0, gOpL, gResL, updO, gRes, gEff, addObs_nil, addObs_one, freshB_memL, freshB_none, freshB_upd, freshB_addMem, freshB_addObs, effOp2, effOp, memL_app, stoRow, cellsAt, toCells, toCell, scalar_int, scalar_bool, scalar_str, scalar_sl, updAt, fromRo, upd, resOf, resSV, SV.map, SV.ids, A1.ids, reach, allObs, ren, pos, Ob.map, St.canon, memL, List.range, List.range.loop, fromRo, spl, h1, h2, h4, hi]
    exact ⟨_, _, _, (and255 _).1, (and255 _).2, rfl⟩
  · have h1 : ¬ (i : Int) < (l.length : Int) := by omega
    unfold runLend
    simp (maxSteps := 4000000) -implicitDefEqProofs [tab127, a127, lendEnd, x_seq, x_cond, x_block, x_region, x_skip, x_exit, x_ret, head_id, runG, runOps, doOp, wantB, stepOp, AO.eff, pureOp, St.get, St.one, St.num, St.put, St.optNum, binA, binInt, List.take, List.drop, gOp, gOp0, gOpL, gResL, updO, gRes, gEff, addObs_nil, addObs_one, freshB_memL, freshB_none, freshB_upd, freshB_addMem, freshB_addObs, effOp2, effOp, memL_app, stoRow, cellsAt, toCells, toCell, scalar_int, scalar_bool, scalar_str, scalar_sl, updAt, fromRo, upd, resOf, resSV, SV.map, SV.ids, A1.ids, reach, allObs, ren, pos, Ob.map, St.canon, memL, List.range, List.range.loop, fromRo, spl, h1, hi]
    exact ⟨_, _, _, (and255 _).1, (and255 _).2, rfl⟩
/-- What is drawn below n. -/
def GoodN (n : Int) (l : List Int) (r : SV × List A1 × List Ob) : Prop :=
  ∃ (x : Int) (i' : Nat) (h' : Int), (0 ≤ x ∧ (0 < n → x < n)) ∧ r = (.v false [.int .i64 x], [.ro l.length (cl .u8 l), .int .i64 i', .int .i64 h'], [])
theorem r_l1Below (l : List Int) (hl : l.length ≤ 1048576) (i : Nat) (h : Int) (n : Int) :
    ∃ (x : Int) (i' : Nat) (h' : Int), (0 ≤ x ∧ (0 < n → x < n)) ∧ runLend (X tab) tab 87 [.ro l.length (cl .u8 l), .int .i64 i, .int .i64 h] [.v false [.int .i64 n]] = some (.v false [.int .i64 x], [.ro l.length (cl .u8 l), .int .i64 i', .int .i64 h'], []) := by
  suffices hs : ∃ r, runLend (X tab) tab 87 [.ro l.length (cl .u8 l), .int .i64 i, .int .i64 h] [.v false [.int .i64 n]] = some r ∧ GoodN n l r by
    obtain ⟨r, hr, x, i', h', h1, rfl⟩ := hs
    exact ⟨x, i', h', h1, hr⟩
  by_cases h0 : n ≤ 0
  · simp (maxSteps := 4000000) -implicitDefEqProofs [tab87, a87, runLend, lendEnd, x_seq, x_cond, x_block, x_region, x_skip, x_exit, x_ret, head_id, runG, runOps, doOp, wantB, stepOp, AO.eff, pureOp, St.get, St.one, St.num, St.put, St.optNum, binA, binInt, List.take, List.drop, effOp2, effOp, memL_app, stoRow, cellsAt, toCells, toCell, scalar_int, scalar_bool, scalar_str, scalar_sl, updAt, fromRo, upd, resOf, resSV, SV.map, SV.ids, A1.ids, reach, allObs, ren, pos, Ob.map, St.canon, memL, List.range, List.range.loop, h0]
    exact ⟨_, _, _, ⟨by omega, by omega⟩, rfl⟩
  · obtain ⟨x1, i1, g1, b1, c1, e1⟩ := r_l1Byte l hl i h
    by_cases h1 : n ≤ 256
    · have hn0 : ¬ n = 0 := by omega
      have k1 : 0 ≤ x1.tmod n := Int.tmod_nonneg _ b1
      have k2 : x1.tmod n < n := Int.tmod_lt_of_pos _ (by omega)
      unfold runLend
      simp (maxSteps := 4000000) -implicitDefEqProofs [tab87, a87, lendEnd, x_seq, x_cond, x_block, x_region, x_skip, x_exit, x_ret, head_id, runG, runOps, doOp, wantB, stepOp, AO.eff, pureOp, St.get, St.one, St.num, St.put, St.optNum, binA, binInt, List.take, List.drop, effOp2, effOp, memL_app, stoRow, cellsAt, toCells, toCell, scalar_int, scalar_bool, scalar_str, scalar_sl, updAt, fromRo, upd, resOf, resSV, SV.map, SV.ids, A1.ids, reach, allObs, ren, pos, Ob.map, St.canon, memL, List.range, List.range.loop, callLend, lendBox, A1.ids, roArgs, roL, roA, A1.ownB, addMem_nil, List.range, List.range.loop, SV.map, ren, shift, upd, memL_app, spl, h0, h1, e1, hn0]
      exact ⟨_, _, _, ⟨k1, fun _ => k2⟩, rfl⟩
    · obtain ⟨x2, i2, g2, b2, c2, e2⟩ := r_l1Byte l hl i1 g1
      obtain ⟨x3, i3, g3, b3, c3, e3⟩ := r_l1Byte l hl i2 g2
      obtain ⟨x4, i4, g4, b4, c4, e4⟩ := r_l1Byte l hl i3 g3
      have hn0 : ¬ n = 0 := by omega
      have w1 : IntKind.i64.wrap (x1 * 16777216) = x1 * 16777216 := wrap_id (by omega) (by omega)
      have w2 : IntKind.i64.wrap (x2 * 65536) = x2 * 65536 := wrap_id (by omega) (by omega)
      have w3 : IntKind.i64.wrap (x1 * 16777216 + x2 * 65536) = x1 * 16777216 + x2 * 65536 := wrap_id (by omega) (by omega)
      have w4 : IntKind.i64.wrap (x3 * 256) = x3 * 256 := wrap_id (by omega) (by omega)
      have w5 : IntKind.i64.wrap (x1 * 16777216 + x2 * 65536 + x3 * 256) = x1 * 16777216 + x2 * 65536 + x3 * 256 := wrap_id (by omega) (by omega)
      have w6 : IntKind.i64.wrap (x1 * 16777216 + x2 * 65536 + x3 * 256 + x4) = x1 * 16777216 + x2 * 65536 + x3 * 256 + x4 := wrap_id (by omega) (by omega)
      have k1 : 0 ≤ (x1 * 16777216 + x2 * 65536 + x3 * 256 + x4).tmod n := Int.tmod_nonneg _ (by omega)
      have k2 : (x1 * 16777216 + x2 * 65536 + x3 * 256 + x4).tmod n < n := Int.tmod_lt_of_pos _ (by omega)
      unfold runLend
      simp (maxSteps := 4000000) -implicitDefEqProofs [tab87, a87, lendEnd, x_seq, x_cond, x_block, x_region, x_skip, x_exit, x_ret, head_id, runG, runOps, doOp, wantB, stepOp, AO.eff, pureOp, St.get, St.one, St.num, St.put, St.optNum, binA, binInt, List.take, List.drop, effOp2, effOp, memL_app, stoRow, cellsAt, toCells, toCell, scalar_int, scalar_bool, scalar_str, scalar_sl, updAt, fromRo, upd, resOf, resSV, SV.map, SV.ids, A1.ids, reach, allObs, ren, pos, Ob.map, St.canon, memL, List.range, List.range.loop, callLend, lendBox, A1.ids, roArgs, roL, roA, A1.ownB, addMem_nil, List.range, List.range.loop, SV.map, ren, shift, upd, memL_app, spl, h0, h1, e1, e2, e3, e4, w1, w2, w3, w4, w5, w6, hn0]
      exact ⟨_, _, _, ⟨k1, fun _ => k2⟩, rfl⟩
theorem r_l1Once (l : List Int) (hl : l.length ≤ 1048576) (i : Nat) (h : Int) (n : Int) :
    ∃ (x : Bool) (i' : Nat) (h' : Int), runLend (X tab) tab 99 [.ro l.length (cl .u8 l), .int .i64 i, .int .i64 h] [.v false [.int .i64 n]] = some (.v false [.bool x], [.ro l.length (cl .u8 l), .int .i64 i', .int .i64 h'], []) := by
  obtain ⟨x1, i1, g1, b1, e1⟩ := r_l1Below l hl i h n
  refine ⟨x1 == 0, i1, g1, ?_⟩
  unfold runLend
  simp (maxSteps := 4000000) -implicitDefEqProofs [tab99, a99, lendEnd, x_seq, x_cond, x_block, x_region, x_skip, x_exit, x_ret, head_id, runG, runOps, doOp, wantB, stepOp, AO.eff, pureOp, St.get, St.one, St.num, St.put, St.optNum, binA, binInt, List.take, List.drop, effOp2, effOp, memL_app, stoRow, cellsAt, toCells, toCell, scalar_int, scalar_bool, scalar_str, scalar_sl, updAt, fromRo, upd, resOf, resSV, SV.map, SV.ids, A1.ids, reach, allObs, ren, pos, Ob.map, St.canon, memL, List.range, List.range.loop, callLend, lendBox, A1.ids, roArgs, roL, roA, A1.ownB, addMem_nil, List.range, List.range.loop, SV.map, ren, shift, upd, memL_app, spl, e1]
theorem r_l1PickInt (l : List Int) (hl : l.length ≤ 1048576) (i : Nat) (h : Int) (ws : List Int) (hw : ws ≠ []) (hwl : ws.length ≤ 1048576) :
    ∃ (x : Int) (i' : Nat) (h' : Int), x ∈ ws ∧ ∀ (t u : Nat) (sl : List SV) (m : Mem) (up : List SV) (nx : Nat), t ≠ u → m t = some (.box [.ro l.length (cl .u8 l), .int .i64 i, .int .i64 h]) → m u = some (.row 1 (cl .i64 ws)) →
      runThru (X tab) tab 104 [.v false [.pr t [] 0], .v false [.sl u [] 0 ws.length]] ⟨⟨sl, m, up⟩, nx⟩ =
      some (.v false [.int .i64 x], ⟨⟨sl, upd m t (some (.box [.ro l.length (cl .u8 l), .int .i64 i', .int .i64 h'])), up⟩, nx + 576⟩) := by
  obtain ⟨x1, i1, g1, ⟨b1, b2⟩, e1⟩ := r_l1Below l hl i h ws.length
  have hpos : 0 < ws.length := List.length_pos_iff.2 hw
  obtain ⟨k, rfl⟩ : ∃ k : Nat, x1 = k := ⟨x1.toNat, by omega⟩
  have hk : k < ws.length := by have := b2 (by omega); omega
  obtain ⟨y, r, hd⟩ : ∃ y r, ws.drop k = y :: r := ⟨_, _, List.drop_eq_getElem_cons hk⟩
  refine ⟨y, i1, g1, ?_, fun t u sl m up nx htu hm hu => ?_⟩
  · have : y ∈ ws.drop k := by rw [hd]; simp
    exact List.mem_of_mem_drop this
  · have h2 := cl_read (k := .i64) hd u []
    unfold runThru
    simp (maxSteps := 4000000) -implicitDefEqProofs [tab104, a104, x_seq, x_cond, x_block, x_region, x_skip, x_exit, x_ret, head_id, runG, runOps, doOp, wantB, stepOp, AO.eff, pureOp, St.get, St.one, St.num, St.put, St.optNum, binA, binInt, List.take, List.drop, effOp2, effOp, memL_app, stoRow, cellsAt, toCells, toCell, scalar_int, scalar_bool, scalar_str, scalar_sl, updAt, fromRo, upd, callLend, lendBox, A1.ids, roArgs, roL, roA, A1.ownB, addMem_nil, List.range, List.range.loop, SV.map, ren, shift, upd, memL_app, resOf, resSV, SV.map, SV.ids, A1.ids, reach, allObs, ren, pos, Ob.map, St.canon, memL, List.range, List.range.loop, hm, hu, e1, hk, h2, htu, Ne.symm htu, cellsAt]
end Go.Proofs.Ytdagbeihjobmjaa.Eng.R
