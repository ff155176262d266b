/- Putting into blocks; the law. -/
import Derived.Test.YtnbgdddcbmlcpaaABlock
namespace Go.Proofs.Ytnbgdddcbmlcpaa.Eng.A
set_option linter.unusedSimpArgs false
set_option linter.unusedVariables false
set_option maxHeartbeats 8000000
set_option maxRecDepth 100000
open Go.RowKit Go.Proofs

def putPart (b : List Int) (i : Nat) (d : List Int) (j : Nat) : List Int := b.take i ++ (d.take j ++ b.drop (i + j))
theorem putPart_length {b d : List Int} {i j : Nat} (h : i + d.length ≤ b.length) (hj : j ≤ d.length) : (putPart b i d j).length = b.length := by
  simp [putPart]; omega
theorem putPart_set {b d : List Int} {i j : Nat} {x : Int} {r : List Int} (h : i + d.length ≤ b.length) (hd : d.drop j = x :: r) : (putPart b i d j).set (i + j) x = putPart b i d (j + 1) := by
  have hj := drop_lt hd
  have h1 : (b.take i).length = i := by simp; omega
  have h2 : (d.take j).length = j := by simp; omega
  have h3 := List.drop_eq_getElem_cons (show i + j < b.length by omega)
  have hx : d[j] = x := by
    have := List.drop_eq_getElem_cons hj
    rw [hd] at this
    exact (List.cons.inj this).1.symm
  unfold putPart
  rw [List.set_append_right _ _ (by omega), h1, show i + j - i = j by omega, List.set_append_right _ _ (by omega), h2, Nat.sub_self, h3, List.set_cons_zero, ← List.take_append_getElem hj, hx]
  simp [Nat.add_assoc]
theorem putPart_zero {b d : List Int} {i : Nat} : putPart b i d 0 = b := by simp [putPart]
def blockPut (b : List Int) (i : Int) (d : List Int) : List Int := if getOk b i d.length = true then putPart b i.toNat d d.length else b
theorem put_facts {b : List Int} {i : Int} {d : List Int} (h : getOk b i d.length = true) : b.length = 8 ∧ 0 ≤ i ∧ i ≤ 8 ∧ i.toNat + d.length ≤ b.length ∧ rng i 0 8 = true ∧ rng d.length 0 (8 - i) = true := by
  obtain ⟨h8, hi, hn, hi8, hn8, hlen, q1, q2⟩ := get_facts h
  refine ⟨h8, hi, hi8, by omega, q1, q2⟩
theorem r_BlockPut_bad (b : List Int) (i : Int) (d : List Int) (hb : b.length ≤ 1048576) (h : getOk b i d.length = false) : runRO (X tab) tab 40 [.v false [.ro b.length (cl .u8 b)], .v false [.int .i64 i], .v false [.ro d.length (cl .u8 d)]] =
    if b = [] then some (.v false [.nil], []) else some (.v false [.sl 0 [] 0 b.length], [.row 1 (cl .u8 b)]) := by
  have h1 := r_BlockOk b.length (cl .u8 b)
  have h2 := r_lies i d.length
  unfold runRO
  by_cases he : b = []
  · subst he
    have h9 := r_CloneB_nil
    simp only [List.length_nil, cl_nil] at h1 ⊢
    simp only [if_true]
    simp (maxSteps := 4000000) -implicitDefEqProofs [tab40, a40, x_seq, x_cond, x_block, x_region, x_skip, x_exit, x_ret, head_id, runG, runOps, doOp, wantB, stepOp, AO.eff, pureOp, St.get, St.one, St.num, St.put, St.optNum, binA, binInt, List.take, List.drop, callRO, addMem_nil, roArgs, roL, roA, srcCells, A1.ownB, addMem, shift, ren, SV.map, Ob.map, Ob.noRo, SV.noRo, A1.noRo, List.range, List.range.loop, resOf, resSV, SV.map, SV.ids, A1.ids, reach, allObs, ren, pos, Ob.map, St.canon, memL, List.range, List.range.loop, h1, h9]
  · have h9 := r_CloneB _ he hb
    rw [if_neg he]
    cases h3 : decide (b.length = 8) with
    | false =>
      rw [h3] at h1
      simp (maxSteps := 4000000) -implicitDefEqProofs [tab40, a40, x_seq, x_cond, x_block, x_region, x_skip, x_exit, x_ret, head_id, runG, runOps, doOp, wantB, stepOp, AO.eff, pureOp, St.get, St.one, St.num, St.put, St.optNum, binA, binInt, List.take, List.drop, callRO, addMem_nil, roArgs, roL, roA, srcCells, A1.ownB, addMem, shift, ren, SV.map, Ob.map, Ob.noRo, SV.noRo, A1.noRo, List.range, List.range.loop, resOf, resSV, SV.map, SV.ids, A1.ids, reach, allObs, ren, pos, Ob.map, St.canon, memL, List.range, List.range.loop, h1, h9]
    | true =>
      rw [h3] at h1
      simp only [getOk, h3, Bool.true_and] at h
      rw [h] at h2
      simp (maxSteps := 4000000) -implicitDefEqProofs [tab40, a40, x_seq, x_cond, x_block, x_region, x_skip, x_exit, x_ret, head_id, runG, runOps, doOp, wantB, stepOp, AO.eff, pureOp, St.get, St.one, St.num, St.put, St.optNum, binA, binInt, List.take, List.drop, callRO, addMem_nil, roArgs, roL, roA, srcCells, A1.ownB, addMem, shift, ren, SV.map, Ob.map, Ob.noRo, SV.noRo, A1.noRo, List.range, List.range.loop, resOf, resSV, SV.map, SV.ids, A1.ids, reach, allObs, ren, pos, Ob.map, St.canon, memL, List.range, List.range.loop, h1, h2, h9]
theorem r_BlockPut (b : List Int) (i : Int) (d : List Int) (h : getOk b i d.length = true) : runRO (X tab) tab 40 [.v false [.ro b.length (cl .u8 b)], .v false [.int .i64 i], .v false [.ro d.length (cl .u8 d)]] =
    some (.v false [.sl 0 [] 0 b.length], [.row 1 (cl .u8 (putPart b i.toNat d d.length))]) := by
  obtain ⟨h8, hi, hi8, hle, q1, q2⟩ := put_facts h
  have he : b ≠ [] := fun e => by rw [e] at h8; simp at h8
  have h9 := r_CloneB _ he (by omega)
  have h1 := r_BlockOk b.length (cl .u8 b)
  have h2 := r_lies i d.length
  rw [q1, q2] at h2
  have h6 : decide (b.length = 8) = true := by simp [h8]
  rw [h6] at h1
  have h4 : 0 ≤ i ∧ i ≤ (b.length : Int) := by omega
  have h10 : min d.length (b.length - i.toNat) = d.length := by omega
  unfold runRO
  by_cases hd : d.length = 0
  · have hd' := List.eq_nil_of_length_eq_zero hd
    subst hd'
    rw [List.length_nil, putPart_zero]
    have h2 := r_lies i 0
    have q3 : rng 0 0 (8 - i) = true := by rw [rng_iff]; omega
    rw [q1, q3] at h2
    simp only [List.length_nil, cl_nil]
    simp (maxSteps := 4000000) -implicitDefEqProofs [tab40, a40, x_seq, x_cond, x_block, x_region, x_skip, x_exit, x_ret, head_id, runG, runOps, doOp, wantB, stepOp, AO.eff, pureOp, St.get, St.one, St.num, St.put, St.optNum, binA, binInt, List.take, List.drop, callRO, addMem_nil, roArgs, roL, roA, srcCells, A1.ownB, addMem, shift, ren, SV.map, Ob.map, Ob.noRo, SV.noRo, A1.noRo, List.range, List.range.loop, resOf, resSV, SV.map, SV.ids, A1.ids, reach, allObs, ren, pos, Ob.map, St.canon, memL, List.range, List.range.loop, effOp2, effOp, memL_app, stoRow, cellsAt, toCells, toCell, scalar_int, scalar_bool, scalar_str, scalar_sl, updAt, fromRo, upd, h1, h2, h4, h9, cutB, szOk, cpySt, cl_self, cl_length]
  · have h13 : ¬ (b.length - i.toNat = 0) := by omega
    have h11 : i.toNat + d.length ≤ b.length ∧ 0 < d.length := by omega
    have h12 : spl (cl .u8 d) i.toNat (cl .u8 b) = cl .u8 (putPart b i.toNat d d.length) := by
      unfold spl putPart
      rw [cl_take, cl_drop, cl_length, cl_app, cl_app, List.take_length, List.append_assoc]
    simp (maxSteps := 4000000) -implicitDefEqProofs [tab40, a40, x_seq, x_cond, x_block, x_region, x_skip, x_exit, x_ret, head_id, runG, runOps, doOp, wantB, stepOp, AO.eff, pureOp, St.get, St.one, St.num, St.put, St.optNum, binA, binInt, List.take, List.drop, callRO, addMem_nil, roArgs, roL, roA, srcCells, A1.ownB, addMem, shift, ren, SV.map, Ob.map, Ob.noRo, SV.noRo, A1.noRo, List.range, List.range.loop, resOf, resSV, SV.map, SV.ids, A1.ids, reach, allObs, ren, pos, Ob.map, St.canon, memL, List.range, List.range.loop, effOp2, effOp, memL_app, stoRow, cellsAt, toCells, toCell, scalar_int, scalar_bool, scalar_str, scalar_sl, updAt, fromRo, upd, h1, h2, h4, h9, h10, h11, h12, h13, hd, take_ints, cutB, szOk, cpySt, cl_self, cl_length, cl_flat, cl_flat', fromRo_cl, cells_ints, scalar_ints]
theorem r_sBlockPut_bad (b : List Int) (i : Int) (d : List Int) (hb : b.length ≤ 1048576) (hd : d.length ≤ 1048576) (h : getOk b i d.length = false) : runRO (X tab) tab 39 [.v false [.ro b.length (cl .u8 b)], .v false [.int .i64 i], .v false [.ro d.length (cl .u8 d)]] = some (.v false [.sl 0 [] 0 b.length], [.row 1 (cl .u8 b)]) := by
  have h1 := r_sBlockOk b.length (cl .u8 b)
  have e1 : b.length ≤ 140737488355328 := by omega
  have e2 : IntKind.i64.wrap ((b.length : Int) - (d.length : Int)) = (b.length : Int) - (d.length : Int) := wrap_id (by omega) (by omega)
  by_cases he : b = []
  · subst he
    unfold runRO
    simp only [List.length_nil, cl_nil] at h1 ⊢
    simp (maxSteps := 4000000) -implicitDefEqProofs [tab39, a39, x_seq, x_cond, x_block, x_region, x_skip, x_exit, x_ret, head_id, runG, runOps, doOp, wantB, stepOp, AO.eff, pureOp, St.get, St.one, St.num, St.put, St.optNum, binA, binInt, List.take, List.drop, callRO, addMem_nil, roArgs, roL, roA, srcCells, A1.ownB, addMem, shift, ren, SV.map, Ob.map, Ob.noRo, SV.noRo, A1.noRo, List.range, List.range.loop, resOf, resSV, SV.map, SV.ids, A1.ids, reach, allObs, ren, pos, Ob.map, St.canon, memL, List.range, List.range.loop, effOp2, effOp, memL_app, stoRow, cellsAt, toCells, toCell, scalar_int, scalar_bool, scalar_str, scalar_sl, updAt, fromRo, upd, srcCells, A1.slB, flat_int, cl_flat', St.parts, Eng.inB, reps, fillA, newRowSt, appSt, oldOf, rest, kill, mapMem, SV.map, Ob.map, h1]
  · have e3 : ¬ b.length = 0 := fun e => he (List.eq_nil_of_length_eq_zero e)
    unfold runRO
    cases h3 : decide (b.length = 8) with
    | false =>
      rw [h3] at h1
      simp (maxSteps := 4000000) -implicitDefEqProofs [tab39, a39, x_seq, x_cond, x_block, x_region, x_skip, x_exit, x_ret, head_id, runG, runOps, doOp, wantB, stepOp, AO.eff, pureOp, St.get, St.one, St.num, St.put, St.optNum, binA, binInt, List.take, List.drop, callRO, addMem_nil, roArgs, roL, roA, srcCells, A1.ownB, addMem, shift, ren, SV.map, Ob.map, Ob.noRo, SV.noRo, A1.noRo, List.range, List.range.loop, resOf, resSV, SV.map, SV.ids, A1.ids, reach, allObs, ren, pos, Ob.map, St.canon, memL, List.range, List.range.loop, effOp2, effOp, memL_app, stoRow, cellsAt, toCells, toCell, scalar_int, scalar_bool, scalar_str, scalar_sl, updAt, fromRo, upd, srcCells, A1.slB, flat_int, cl_flat', St.parts, Eng.inB, reps, fillA, newRowSt, appSt, oldOf, rest, kill, mapMem, SV.map, Ob.map, h1, e1, e3, he, cl_self, cl_length, cl_flat]
    | true =>
      rw [h3] at h1
      have h8 : b.length = 8 := by simpa using h3
      simp only [getOk, h3, Bool.true_and, Bool.and_eq_false_iff] at h
      rw [rng_not, rng_not] at h
      by_cases c1 : i < 0
      · simp (maxSteps := 4000000) -implicitDefEqProofs [tab39, a39, x_seq, x_cond, x_block, x_region, x_skip, x_exit, x_ret, head_id, runG, runOps, doOp, wantB, stepOp, AO.eff, pureOp, St.get, St.one, St.num, St.put, St.optNum, binA, binInt, List.take, List.drop, callRO, addMem_nil, roArgs, roL, roA, srcCells, A1.ownB, addMem, shift, ren, SV.map, Ob.map, Ob.noRo, SV.noRo, A1.noRo, List.range, List.range.loop, resOf, resSV, SV.map, SV.ids, A1.ids, reach, allObs, ren, pos, Ob.map, St.canon, memL, List.range, List.range.loop, effOp2, effOp, memL_app, stoRow, cellsAt, toCells, toCell, scalar_int, scalar_bool, scalar_str, scalar_sl, updAt, fromRo, upd, srcCells, A1.slB, flat_int, cl_flat', St.parts, Eng.inB, reps, fillA, newRowSt, appSt, oldOf, rest, kill, mapMem, SV.map, Ob.map, h1, e1, e2, e3, he, c1, cl_self, cl_length, cl_flat]
      · have c2 : (b.length : Int) - (d.length : Int) < i := by omega
        simp (maxSteps := 4000000) -implicitDefEqProofs [tab39, a39, x_seq, x_cond, x_block, x_region, x_skip, x_exit, x_ret, head_id, runG, runOps, doOp, wantB, stepOp, AO.eff, pureOp, St.get, St.one, St.num, St.put, St.optNum, binA, binInt, List.take, List.drop, callRO, addMem_nil, roArgs, roL, roA, srcCells, A1.ownB, addMem, shift, ren, SV.map, Ob.map, Ob.noRo, SV.noRo, A1.noRo, List.range, List.range.loop, resOf, resSV, SV.map, SV.ids, A1.ids, reach, allObs, ren, pos, Ob.map, St.canon, memL, List.range, List.range.loop, effOp2, effOp, memL_app, stoRow, cellsAt, toCells, toCell, scalar_int, scalar_bool, scalar_str, scalar_sl, updAt, fromRo, upd, srcCells, A1.slB, flat_int, cl_flat', St.parts, Eng.inB, reps, fillA, newRowSt, appSt, oldOf, rest, kill, mapMem, SV.map, Ob.map, h1, e1, e2, e3, he, c1, c2, cl_self, cl_length, cl_flat]
def S_sBlockPut (b : List Int) (i : Nat) (d : List Int) (j : Nat) : XS := ⟨⟨[.bad, .v false [.int .i64 (i)], .v false [.ro d.length (cl .u8 d)], .bad, .bad, .bad, .bad, .v false [.sl 0 [] 0 b.length], .v false [.int .i64 (j)], .bad, .bad, .bad, .bad, .bad, .bad, .bad, .bad, .bad, .bad, .bad, .bad, .bad, .bad, .bad, .bad, .bad, .bad, .bad, .bad, .bad, .bad, .bad, .bad, .bad, .bad, .bad, .bad, .bad, .bad, .bad, .bad, .bad, .bad, .bad, .bad], memL [some (.row 1 (cl .u8 (putPart b i d j)))], []⟩, 1⟩
def Z_sBlockPut (b : List Int) (i : Nat) (d : List Int) : XS := ⟨⟨[.bad, .bad, .bad, .bad, .bad, .bad, .bad, .v false [.sl 0 [] 0 b.length], .bad, .bad, .bad, .bad, .bad, .bad, .bad, .bad, .bad, .bad, .bad, .bad, .bad, .bad, .bad, .bad, .bad, .bad, .bad, .bad, .bad, .bad, .bad, .bad, .bad, .bad, .bad, .bad, .bad, .bad, .bad, .bad, .bad, .bad, .bad, .bad, .bad], memL [some (.row 1 (cl .u8 (putPart b i d d.length)))], []⟩, 1⟩
theorem loop_sBlockPut (b : List Int) (i : Nat) (d : List Int) (h8 : b.length = 8) (hle : i + d.length ≤ b.length) {x : XS} (hx : head true d39_0 x = S_sBlockPut b i d 0) : X tab l39_0 x = some (.exit 0, Z_sBlockPut b i d) := by
  refine loopN d.length (S_sBlockPut b i d) _ (by simp) (fun j hj => ?_) ?_ (Nat.zero_le _) hx
  · obtain ⟨y, r, hl⟩ : ∃ y r, d.drop j = y :: r := ⟨_, _, List.drop_eq_getElem_cons hj⟩
    have h1 : (0 ≤ (j : Int) ∧ (j : Int) < (d.length : Int)) := by omega
    have h2 := cl_at (k := .u8) hl
    have h4 : IntKind.i64.wrap ((j : Int) + 1) = ((j + 1 : Nat) : Int) := by rw [wrap_id (by omega) (by omega)]; omega
    have h5 : IntKind.i64.wrap ((i : Int) + (j : Int)) = ((i + j : Nat) : Int) := by rw [wrap_id (by omega) (by omega)]; omega
    have h6 : ((i + j : Nat) : Int) < (b.length : Int) := by omega
    have h7 : i + j + 1 ≤ (cl .u8 (putPart b i d j)).length := by rw [cl_length, putPart_length hle (by omega)]; omega
    have h8' : spl [Cell.int .u8 y] (i + j) (cl .u8 (putPart b i d j)) = cl .u8 (putPart b i d (j + 1)) := by
      rw [cl_spl (by rw [putPart_length hle (by omega)]; omega), putPart_set hle hl]
    simp only [S_sBlockPut]
    simp (maxSteps := 4000000) -implicitDefEqProofs [b39_0, x_seq, x_cond, x_block, x_region, x_skip, x_exit, x_ret, head_id, runG, runOps, doOp, wantB, stepOp, AO.eff, pureOp, St.get, St.one, St.num, St.put, St.optNum, binA, binInt, List.take, List.drop, effOp2, effOp, memL_app, stoRow, cellsAt, toCells, toCell, scalar_int, scalar_bool, scalar_str, scalar_sl, updAt, fromRo, upd, h1, h2, h4, h5, h6, h7, h8', hj, -Int.natCast_add]
    change _ = _
    kernel_rfl
  · simp (maxSteps := 4000000) -implicitDefEqProofs [b39_0, S_sBlockPut, x_seq, x_cond, x_block, x_region, x_skip, x_exit, x_ret, head_id, runG, runOps, doOp, wantB, stepOp, AO.eff, pureOp, St.get, St.one, St.num, St.put, St.optNum, binA, binInt, List.take, List.drop, Z_sBlockPut]
    change _ = _
    kernel_rfl
theorem r_sBlockPut (b : List Int) (i : Int) (d : List Int) (h : getOk b i d.length = true) : runRO (X tab) tab 39 [.v false [.ro b.length (cl .u8 b)], .v false [.int .i64 i], .v false [.ro d.length (cl .u8 d)]] = some (.v false [.sl 0 [] 0 b.length], [.row 1 (cl .u8 (putPart b i.toNat d d.length))]) := by
  obtain ⟨h8, hi, hi8, hle, q1, q2⟩ := put_facts h
  have h1 := r_sBlockOk b.length (cl .u8 b)
  have h6 : decide (b.length = 8) = true := by simp [h8]
  rw [h6] at h1
  have e1 : b.length ≤ 140737488355328 := by omega
  have e2 : IntKind.i64.wrap ((b.length : Int) - (d.length : Int)) = (b.length : Int) - (d.length : Int) := wrap_id (by omega) (by omega)
  have e3 : ¬ b.length = 0 := by omega
  have he : b ≠ [] := fun e => e3 (by rw [e]; rfl)
  obtain ⟨n, rfl⟩ : ∃ n : Nat, i = (n : Int) := ⟨i.toNat, by omega⟩
  rw [Int.toNat_natCast] at hle ⊢
  have c1 : ¬ (n : Int) < 0 := by omega
  have c2 : ¬ (b.length : Int) - (d.length : Int) < (n : Int) := by omega
  unfold runRO
  simp (maxSteps := 4000000) -implicitDefEqProofs [tab39, a39, x_seq, x_cond, x_block, x_region, x_skip, x_exit, x_ret, head_id, runG, runOps, doOp, wantB, stepOp, AO.eff, pureOp, St.get, St.one, St.num, St.put, St.optNum, binA, binInt, List.take, List.drop, callRO, addMem_nil, roArgs, roL, roA, srcCells, A1.ownB, addMem, shift, ren, SV.map, Ob.map, Ob.noRo, SV.noRo, A1.noRo, List.range, List.range.loop, effOp2, effOp, memL_app, stoRow, cellsAt, toCells, toCell, scalar_int, scalar_bool, scalar_str, scalar_sl, updAt, fromRo, upd, srcCells, A1.slB, flat_int, cl_flat', St.parts, Eng.inB, reps, fillA, newRowSt, appSt, oldOf, rest, kill, mapMem, SV.map, Ob.map, h1, e1, e2, e3, he, c1, c2, cl_self, cl_length, cl_flat]
  rw [loop_sBlockPut b n d h8 hle (by
    change _ = _
    rw [show S_sBlockPut b n d 0 = ⟨⟨[.bad, .v false [.int .i64 (n)], .v false [.ro d.length (cl .u8 d)], .bad, .bad, .bad, .bad, .v false [.sl 0 [] 0 b.length], .v false [.int .i64 (0)], .bad, .bad, .bad, .bad, .bad, .bad, .bad, .bad, .bad, .bad, .bad, .bad, .bad, .bad, .bad, .bad, .bad, .bad, .bad, .bad, .bad, .bad, .bad, .bad, .bad, .bad, .bad, .bad, .bad, .bad, .bad, .bad, .bad, .bad, .bad, .bad], memL [some (.row 1 (cl .u8 b))], []⟩, 1⟩ by simp [S_sBlockPut, putPart_zero]]
    kernel_rfl)]
  simp (maxSteps := 4000000) -implicitDefEqProofs [Z_sBlockPut, x_seq, x_cond, x_block, x_region, x_skip, x_exit, x_ret, head_id, runG, runOps, doOp, wantB, stepOp, AO.eff, pureOp, St.get, St.one, St.num, St.put, St.optNum, binA, binInt, List.take, List.drop, effOp2, effOp, memL_app, stoRow, cellsAt, toCells, toCell, scalar_int, scalar_bool, scalar_str, scalar_sl, updAt, fromRo, upd, resOf, resSV, SV.map, SV.ids, A1.ids, reach, allObs, ren, pos, Ob.map, St.canon, memL, List.range, List.range.loop]
end Go.Proofs.Ytnbgdddcbmlcpaa.Eng.A
