/- Turns as bytes, and read from bytes. -/
import Derived.Test.YtdagbeihjobmjaaBGet
import Derived.Test.YtdagbeihjobmjaaBHas
namespace Go.Proofs.Ytdagbeihjobmjaa.Eng.B
set_option linter.unusedSimpArgs false
set_option linter.unusedVariables false
set_option maxHeartbeats 8000000
set_option maxRecDepth 100000
open Go.RowKit Go.Proofs

theorem putN_bytes : ∀ (n : Nat), Bytes (putN n) := by
  intro n
  have hi : ∀ (n : Nat), Bytes (initN n) := by
    intro n
    induction n using Nat.strongRecOn with
    | _ n ih =>
      by_cases h : n > 127
      · rw [initN_big h]
        intro x hx
        rcases List.mem_cons.1 hx with rfl | hx
        · omega
        · exact ih _ (by omega) x hx
      · rw [initN_small h]; intro x hx; simp at hx
  intro x hx
  rcases List.mem_append.1 hx with hx | hx
  · exact hi n x hx
  · have := lastN_lt n
    simp at hx
    omega
theorem Bytes.app {a b : List Int} (ha : Bytes a) (hb : Bytes b) : Bytes (a ++ b) := by
  intro x hx
  rcases List.mem_append.1 hx with h | h
  · exact ha x h
  · exact hb x h
theorem sumF_bound : ∀ (l : List Int), Bytes l → ∀ x y : Int, 0 ≤ x → x < 65521 → 0 ≤ y → y < 65521 → 0 ≤ (sumF x y l).1 ∧ (sumF x y l).1 < 65521 ∧ 0 ≤ (sumF x y l).2 ∧ (sumF x y l).2 < 65521 := by
  intro l
  induction l with
  | nil => intro _ x y h1 h2 h3 h4; exact ⟨h1, h2, h3, h4⟩
  | cons c r ih =>
    intro hb x y h1 h2 h3 h4
    have hc := hb c (by simp)
    have hr : Bytes r := fun z hz => hb z (by simp [hz])
    have e1 : IntKind.i64.wrap c = c := wrap_id (by omega) (by omega)
    have e2 : IntKind.i64.wrap (x + c) = x + c := wrap_id (by omega) (by omega)
    have s1 : 0 ≤ sumStep x c ∧ sumStep x c < 65521 := by
      unfold sumStep
      rw [e1, e2, Int.tmod_eq_emod_of_nonneg (by omega)]
      omega
    have e3 : IntKind.i64.wrap (y + sumStep x c) = y + sumStep x c := wrap_id (by omega) (by omega)
    have s2 : 0 ≤ sumStep2 y (sumStep x c) ∧ sumStep2 y (sumStep x c) < 65521 := by
      unfold sumStep2
      rw [e3, Int.tmod_eq_emod_of_nonneg (by omega)]
      omega
    exact ih hr _ _ s1.1 s1.2 s2.1 s2.2
theorem sumOf_nat {l : List Int} (h : Bytes l) : ∃ n : Nat, sumOf l = (n : Int) ∧ n < 8589934592 := by
  obtain ⟨h1, h2, h3, h4⟩ := sumF_bound l h 1 0 (by omega) (by omega) (by omega) (by omega)
  refine ⟨(sumOf l).toNat, ?_, ?_⟩ <;> unfold sumOf <;> rw [wrap_id (x := (sumF 1 0 l).2 * 65536) (by omega) (by omega), wrap_id (by omega) (by omega)] <;> omega
def fourN (n : Nat) : List Int := [((n % 256 : Nat) : Int), ((n / 256 % 256 : Nat) : Int), ((n / 65536 % 256 : Nat) : Int), ((n / 16777216 % 256 : Nat) : Int)]
theorem u8_mod (n : Nat) : IntKind.u8.wrap (n : Int) = ((n % 256 : Nat) : Int) := by simp only [IntKind.wrap, IntKind.bits, IntKind.signed]; simp
theorem shr_nat (n k : Nat) (hk : k ≤ 64) : (n : Int).fdiv (2 ^ min k IntKind.i64.bits) = ((n / 2 ^ k : Nat) : Int) := by
  have e : min k IntKind.i64.bits = k := by change min k 64 = k; omega
  rw [e, Int.fdiv_eq_ediv_of_nonneg _ (Int.pow_nonneg (by omega)), Int.natCast_ediv, Int.natCast_pow]
  rfl
theorem and_255 (n : Nat) (h : n < 9223372036854775808) : IntKind.u8.wrap (IntKind.i64.wrap ((BitVec.ofInt IntKind.i64.bits (n : Int) &&& BitVec.ofInt IntKind.i64.bits 255).toNat : Int)) = ((n % 256 : Nat) : Int) := by
  have e : (BitVec.ofInt IntKind.i64.bits (n : Int) &&& BitVec.ofInt IntKind.i64.bits 255).toNat = n % 256 := by
    change (BitVec.ofInt 64 (n : Int) &&& BitVec.ofInt 64 255).toNat = n % 256
    rw [BitVec.toNat_and]
    have e1 : (BitVec.ofInt 64 (n : Int)).toNat = n := by simp; omega
    have e2 : (BitVec.ofInt 64 255).toNat = 255 := by rfl
    rw [e1, e2]
    exact Nat.and_two_pow_sub_one_eq_mod n 8
  rw [e, wrap_id (by omega) (by omega), u8_mod, Nat.mod_mod]
theorem r_four (n : Nat) (h : n < 8589934592) : runRO (X tab) tab 107 [.v false [.int .i64 n]] = some (.v false [.sl 0 [] 0 4], [.row 1 (cl .u8 (fourN n))]) := by
  have h1 := shr_nat n 8 (by omega)
  have h2 := shr_nat n 16 (by omega)
  have h3 := shr_nat n 24 (by omega)
  have e1 : (2 : Nat) ^ 8 = 256 := rfl
  have e2 : (2 : Nat) ^ 16 = 65536 := rfl
  have e3 : (2 : Nat) ^ 24 = 16777216 := rfl
  rw [e1] at h1
  rw [e2] at h2
  rw [e3] at h3
  have w1 := u8_mod n
  have w2 := u8_mod (n / 256)
  have w3 := u8_mod (n / 65536)
  have w4 := u8_mod (n / 16777216)
  unfold runRO fourN
  generalize n / 256 = n1 at *
  generalize n / 65536 = n2 at *
  generalize n / 16777216 = n3 at *
  generalize n % 256 = q0 at *
  generalize n1 % 256 = q1 at *
  generalize n2 % 256 = q2 at *
  generalize n3 % 256 = q3 at *
  simp (maxSteps := 4000000) -implicitDefEqProofs [tab107, a107, x_seq, x_cond, x_block, x_region, x_skip, x_exit, x_ret, head_id, runG, runOps, doOp, wantB, stepOp, AO.eff, pureOp, St.get, St.one, St.num, St.put, St.optNum, binA, binInt, List.take, List.drop, effOp2, effOp, memL_app, stoRow, cellsAt, toCells, toCell, scalar_int, scalar_bool, scalar_str, scalar_sl, updAt, fromRo, upd, srcCells, A1.slB, flat_int, cl_flat', St.parts, Eng.inB, reps, fillA, newRowSt, appSt, oldOf, rest, kill, mapMem, SV.map, Ob.map, resOf, resSV, SV.map, SV.ids, A1.ids, reach, allObs, ren, pos, Ob.map, St.canon, memL, List.range, List.range.loop, h1, h2, h3, w1, w2, w3, w4, cl]
theorem r_l4Sum (n : Nat) (h : n < 8589934592) : runRO (X tab) tab 112 [.v false [.int .i64 n]] = some (.v false [.sl 0 [] 0 4], [.row 1 (cl .u8 (fourN n))]) := by
  have h1 := shr_nat n 8 (by omega)
  have h2 := shr_nat n 16 (by omega)
  have h3 := shr_nat n 24 (by omega)
  have e1 : (2 : Nat) ^ 8 = 256 := rfl
  have e2 : (2 : Nat) ^ 16 = 65536 := rfl
  have e3 : (2 : Nat) ^ 24 = 16777216 := rfl
  rw [e1] at h1
  rw [e2] at h2
  rw [e3] at h3
  have w1 := and_255 n (by omega)
  have w2 := and_255 (n / 256) (by omega)
  have w3 := and_255 (n / 65536) (by omega)
  have w4 := and_255 (n / 16777216) (by omega)
  unfold runRO fourN
  generalize n / 256 = n1 at *
  generalize n / 65536 = n2 at *
  generalize n / 16777216 = n3 at *
  generalize n % 256 = q0 at *
  generalize n1 % 256 = q1 at *
  generalize n2 % 256 = q2 at *
  generalize n3 % 256 = q3 at *
  simp (maxSteps := 4000000) -implicitDefEqProofs [tab112, a112, x_seq, x_cond, x_block, x_region, x_skip, x_exit, x_ret, head_id, runG, runOps, doOp, wantB, stepOp, AO.eff, pureOp, St.get, St.one, St.num, St.put, St.optNum, binA, binInt, List.take, List.drop, effOp2, effOp, memL_app, stoRow, cellsAt, toCells, toCell, scalar_int, scalar_bool, scalar_str, scalar_sl, updAt, fromRo, upd, srcCells, A1.slB, flat_int, cl_flat', St.parts, Eng.inB, reps, fillA, newRowSt, appSt, oldOf, rest, kill, mapMem, SV.map, Ob.map, resOf, resSV, SV.map, SV.ids, A1.ids, reach, allObs, ren, pos, Ob.map, St.canon, memL, List.range, List.range.loop, h1, h2, h3, w1, w2, w3, w4, cl, -BitVec.toNat_and, -BitVec.ofInt_natCast, -BitVec.toNat_ofInt, -BitVec.ofInt_ofNat, -BitVec.reduceOfInt]
def putAll : List Int → List Int
  | [] => []
  | y :: r => putN y.toNat ++ putAll r
def S_putNums (l : List Int) (s : Nat × List Int) : XS := ⟨⟨[.bad, .bad, .bad, .v false [.sl 0 [] 0 s.2.length], .bad, .bad, .bad, .v false [.ro l.length (cl .i64 l)], .v false [.int .i64 (l.length)], .v false [.int .i64 (s.1)], .bad, .bad, .bad, .bad, .bad, .bad, .bad, .bad, .bad], memL [some (.row 1 (cl .u8 s.2))], []⟩, 1⟩
def Z_putNums (a : List Int) : XS := ⟨⟨[.bad, .bad, .bad, .v false [.sl 0 [] 0 a.length], .bad, .bad, .bad, .bad, .bad, .bad, .bad, .bad, .bad, .bad, .bad, .bad, .bad, .bad, .bad], memL [some (.row 1 (cl .u8 a))], []⟩, 1⟩
theorem loop_putNums (l : List Int) (hl : l.length ≤ 1048576) (hr : ∀ x ∈ l, 0 ≤ x ∧ x ≤ 2147483647) {x : XS} (hx : head true d106_0 x = S_putNums l (0, [])) : X tab l106_0 x = some (.exit 0, Z_putNums (putAll l)) := by
  refine loopX (σ := Nat × List Int) (S_putNums l) (fun s => l.length - s.1) (fun s => s.1 ≤ l.length ∧ s.2.length ≤ 5 * s.1 ∧ s.2 ++ putAll (l.drop s.1) = putAll l) _ (fun ⟨i, acc⟩ ⟨hi, hlen, hs⟩ => ?_) (0, []) ⟨Nat.zero_le _, by simp, rfl⟩ x hx
  simp only at hi hlen hs
  cases hd : l.drop i with
  | nil =>
    obtain rfl := drop_end hd hi
    rw [hd, putAll, List.append_nil] at hs
    rw [← hs]
    refine .inr ⟨?_, by simp⟩
    simp (maxSteps := 4000000) -implicitDefEqProofs [b106_0, S_putNums, x_seq, x_cond, x_block, x_region, x_skip, x_exit, x_ret, head_id, runG, runOps, doOp, wantB, stepOp, AO.eff, pureOp, St.get, St.one, St.num, St.put, St.optNum, binA, binInt, List.take, List.drop, Z_putNums]
    change _ = _
    kernel_rfl
  | cons y r =>
    have hi' := drop_lt hd
    have hm : y ∈ l := List.mem_of_mem_drop (i := i) (by rw [hd]; simp)
    obtain ⟨n, rfl⟩ : ∃ n : Nat, y = (n : Int) := ⟨y.toNat, by have := hr y hm; omega⟩
    have hn : n ≤ 2147483647 := by have := hr _ hm; omega
    have h1 : (0 ≤ (i : Int) ∧ (i : Int) < (l.length : Int)) := by omega
    have h2 := cl_at (k := .i64) hd
    have h4 := wrap_next hi' (show l.length ≤ 281474976710656 by omega)
    have h5 := r_PutNum n hn
    have h6 : ¬ (putN n).length = 0 := by simp [putN]
    have h6' : putN n ≠ [] := fun e => h6 (by rw [e]; rfl)
    have h7 := putN_five hn
    have h8 : acc.length + (putN n).length ≤ 140737488355328 := by omega
    rw [hd] at hs
    refine .inl ⟨(i + 1, acc ++ putN n), ?_, by simp only; omega, hi', by simp; omega, by simp only [drop_next hd, List.append_assoc]; exact hs⟩
    simp only [S_putNums, List.length_append, ← cl_app]
    generalize putN n = c at *
    simp (maxSteps := 4000000) -implicitDefEqProofs [b106_0, x_seq, x_cond, x_block, x_region, x_skip, x_exit, x_ret, head_id, runG, runOps, doOp, wantB, stepOp, AO.eff, pureOp, St.get, St.one, St.num, St.put, St.optNum, binA, binInt, List.take, List.drop, effOp2, effOp, memL_app, stoRow, cellsAt, toCells, toCell, scalar_int, scalar_bool, scalar_str, scalar_sl, updAt, fromRo, upd, srcCells, A1.slB, flat_int, cl_flat', St.parts, Eng.inB, reps, fillA, newRowSt, appSt, oldOf, rest, kill, mapMem, SV.map, Ob.map, callRO, addMem_nil, roArgs, roL, roA, srcCells, A1.ownB, addMem, shift, ren, SV.map, Ob.map, Ob.noRo, SV.noRo, A1.noRo, List.range, List.range.loop, h1, h2, h4, h5, h6, h6', h8, hi', cl_self, cl_length, cl_flat, -Int.natCast_add]
    change _ = _
    kernel_rfl
theorem r_putNums (l : List Int) (hl : l.length ≤ 1048576) (hr : ∀ x ∈ l, 0 ≤ x ∧ x ≤ 2147483647) : runRO (X tab) tab 106 [.v false [.ro l.length (cl .i64 l)]] = some (.v false [.sl 0 [] 0 (putAll l).length], [.row 1 (cl .u8 (putAll l))]) := by
  unfold runRO
  simp (maxSteps := 4000000) -implicitDefEqProofs [tab106, a106, x_seq, x_cond, x_block, x_region, x_skip, x_exit, x_ret, head_id, runG, runOps, doOp, wantB, stepOp, AO.eff, pureOp, St.get, St.one, St.num, St.put, St.optNum, binA, binInt, List.take, List.drop, effOp2, effOp, memL_app, stoRow, cellsAt, toCells, toCell, scalar_int, scalar_bool, scalar_str, scalar_sl, updAt, fromRo, upd, srcCells, A1.slB, flat_int, cl_flat', St.parts, Eng.inB, reps, fillA, newRowSt, appSt, oldOf, rest, kill, mapMem, SV.map, Ob.map]
  rw [loop_putNums l hl hr (by change _ = _; kernel_rfl)]
  simp (maxSteps := 4000000) -implicitDefEqProofs [Z_putNums, x_seq, x_cond, x_block, x_region, x_skip, x_exit, x_ret, head_id, runG, runOps, doOp, wantB, stepOp, AO.eff, pureOp, St.get, St.one, St.num, St.put, St.optNum, binA, binInt, List.take, List.drop, effOp2, effOp, memL_app, stoRow, cellsAt, toCells, toCell, scalar_int, scalar_bool, scalar_str, scalar_sl, updAt, fromRo, upd, resOf, resSV, SV.map, SV.ids, A1.ids, reach, allObs, ren, pos, Ob.map, St.canon, memL, List.range, List.range.loop]
def turnOk (a o n : Int) : Bool := rng a 0 3 && rng o (-1) 3 && !(a == o) && rng n 1 9999
def turnP (a o n : Int) : List Int := putN n.toNat ++ (putN a.toNat ++ putN (o + 1).toNat)
def turnB (a o n : Int) : List Int := turnP a o n ++ fourN (sumOf (turnP a o n)).toNat
theorem turnP_bytes (a o n : Int) : Bytes (turnP a o n) := (putN_bytes _).app ((putN_bytes _).app (putN_bytes _))
theorem turn_facts {a o n : Int} (h : turnOk a o n = true) : 0 ≤ a ∧ a ≤ 3 ∧ -1 ≤ o ∧ o ≤ 3 ∧ 1 ≤ n ∧ n ≤ 9999 := by
  simp only [turnOk, Bool.and_eq_true] at h
  have h1 := rng_iff.1 h.1.1.1
  have h2 := rng_iff.1 h.1.1.2
  have h3 := rng_iff.1 h.2
  omega
theorem turnP_length {a o n : Int} (h : turnOk a o n = true) : (turnP a o n).length ≤ 15 := by
  obtain ⟨_, _, _, _, _, _⟩ := turn_facts h
  have h1 := putN_five (n := n.toNat) (by omega)
  have h2 := putN_five (n := a.toNat) (by omega)
  have h3 := putN_five (n := (o + 1).toNat) (by omega)
  simp [turnP]
  omega
theorem turnB_length {a o n : Int} (h : turnOk a o n = true) : (turnB a o n).length ≤ 19 := by
  have := turnP_length h
  simp [turnB, fourN]
  omega
theorem r_sTurnBytes_bad (a o n : Int) (h : turnOk a o n = false) : runRO (X tab) tab 41 [.v false [.int .i64 a], .v false [.int .i64 o], .v false [.int .i64 n]] = some (.v false [.sl 0 [] 0 0], [.row 1 []]) := by
  have h1 := r_l1In a 0 3
  have h2 := r_l1In o (-1) 3
  have h3 := r_l1In n 1 9999
  unfold runRO
  unfold turnOk at h
  cases c1 : rng a 0 3 <;> rw [c1] at h1 h
  · simp (maxSteps := 4000000) -implicitDefEqProofs [tab41, a41, x_seq, x_cond, x_block, x_region, x_skip, x_exit, x_ret, head_id, runG, runOps, doOp, wantB, stepOp, AO.eff, pureOp, St.get, St.one, St.num, St.put, St.optNum, binA, binInt, List.take, List.drop, effOp2, effOp, memL_app, stoRow, cellsAt, toCells, toCell, scalar_int, scalar_bool, scalar_str, scalar_sl, updAt, fromRo, upd, srcCells, A1.slB, flat_int, cl_flat', St.parts, Eng.inB, reps, fillA, newRowSt, appSt, oldOf, rest, kill, mapMem, SV.map, Ob.map, callRO, addMem_nil, roArgs, roL, roA, srcCells, A1.ownB, addMem, shift, ren, SV.map, Ob.map, Ob.noRo, SV.noRo, A1.noRo, List.range, List.range.loop, resOf, resSV, SV.map, SV.ids, A1.ids, reach, allObs, ren, pos, Ob.map, St.canon, memL, List.range, List.range.loop, h1]
  · cases c2 : rng o (-1) 3 <;> rw [c2] at h2 h
    · simp (maxSteps := 4000000) -implicitDefEqProofs [tab41, a41, x_seq, x_cond, x_block, x_region, x_skip, x_exit, x_ret, head_id, runG, runOps, doOp, wantB, stepOp, AO.eff, pureOp, St.get, St.one, St.num, St.put, St.optNum, binA, binInt, List.take, List.drop, effOp2, effOp, memL_app, stoRow, cellsAt, toCells, toCell, scalar_int, scalar_bool, scalar_str, scalar_sl, updAt, fromRo, upd, srcCells, A1.slB, flat_int, cl_flat', St.parts, Eng.inB, reps, fillA, newRowSt, appSt, oldOf, rest, kill, mapMem, SV.map, Ob.map, callRO, addMem_nil, roArgs, roL, roA, srcCells, A1.ownB, addMem, shift, ren, SV.map, Ob.map, Ob.noRo, SV.noRo, A1.noRo, List.range, List.range.loop, resOf, resSV, SV.map, SV.ids, A1.ids, reach, allObs, ren, pos, Ob.map, St.canon, memL, List.range, List.range.loop, h1, h2]
    · cases c3 : (a == o) <;> rw [c3] at h
      · simp at h
        rw [h] at h3
        simp (maxSteps := 4000000) -implicitDefEqProofs [tab41, a41, x_seq, x_cond, x_block, x_region, x_skip, x_exit, x_ret, head_id, runG, runOps, doOp, wantB, stepOp, AO.eff, pureOp, St.get, St.one, St.num, St.put, St.optNum, binA, binInt, List.take, List.drop, effOp2, effOp, memL_app, stoRow, cellsAt, toCells, toCell, scalar_int, scalar_bool, scalar_str, scalar_sl, updAt, fromRo, upd, srcCells, A1.slB, flat_int, cl_flat', St.parts, Eng.inB, reps, fillA, newRowSt, appSt, oldOf, rest, kill, mapMem, SV.map, Ob.map, callRO, addMem_nil, roArgs, roL, roA, srcCells, A1.ownB, addMem, shift, ren, SV.map, Ob.map, Ob.noRo, SV.noRo, A1.noRo, List.range, List.range.loop, resOf, resSV, SV.map, SV.ids, A1.ids, reach, allObs, ren, pos, Ob.map, St.canon, memL, List.range, List.range.loop, h1, h2, h3, c3]
      · have : a = o := beq_iff_eq.1 c3
        subst this
        simp (maxSteps := 4000000) -implicitDefEqProofs [tab41, a41, x_seq, x_cond, x_block, x_region, x_skip, x_exit, x_ret, head_id, runG, runOps, doOp, wantB, stepOp, AO.eff, pureOp, St.get, St.one, St.num, St.put, St.optNum, binA, binInt, List.take, List.drop, effOp2, effOp, memL_app, stoRow, cellsAt, toCells, toCell, scalar_int, scalar_bool, scalar_str, scalar_sl, updAt, fromRo, upd, srcCells, A1.slB, flat_int, cl_flat', St.parts, Eng.inB, reps, fillA, newRowSt, appSt, oldOf, rest, kill, mapMem, SV.map, Ob.map, callRO, addMem_nil, roArgs, roL, roA, srcCells, A1.ownB, addMem, shift, ren, SV.map, Ob.map, Ob.noRo, SV.noRo, A1.noRo, List.range, List.range.loop, resOf, resSV, SV.map, SV.ids, A1.ids, reach, allObs, ren, pos, Ob.map, St.canon, memL, List.range, List.range.loop, h1, h2]
theorem r_TurnBytes_bad (a o n : Int) (h : turnOk a o n = false) : runRO (X tab) tab 37 [.v false [.int .i64 a], .v false [.int .i64 o], .v false [.int .i64 n]] = some (.v false [.nil], []) := by
  have h1 := r_isExt a
  have h2 := r_from o (-1) 3
  have h3 := r_from n 1 9999
  unfold runRO
  unfold turnOk at h
  cases c1 : rng a 0 3 <;> rw [c1] at h1 h
  · simp (maxSteps := 4000000) -implicitDefEqProofs [tab37, a37, x_seq, x_cond, x_block, x_region, x_skip, x_exit, x_ret, head_id, runG, runOps, doOp, wantB, stepOp, AO.eff, pureOp, St.get, St.one, St.num, St.put, St.optNum, binA, binInt, List.take, List.drop, effOp2, effOp, memL_app, stoRow, cellsAt, toCells, toCell, scalar_int, scalar_bool, scalar_str, scalar_sl, updAt, fromRo, upd, srcCells, A1.slB, flat_int, cl_flat', St.parts, Eng.inB, reps, fillA, newRowSt, appSt, oldOf, rest, kill, mapMem, SV.map, Ob.map, callRO, addMem_nil, roArgs, roL, roA, srcCells, A1.ownB, addMem, shift, ren, SV.map, Ob.map, Ob.noRo, SV.noRo, A1.noRo, List.range, List.range.loop, resOf, resSV, SV.map, SV.ids, A1.ids, reach, allObs, ren, pos, Ob.map, St.canon, memL, List.range, List.range.loop, h1]
  · cases c2 : rng o (-1) 3 <;> rw [c2] at h2 h
    · simp (maxSteps := 4000000) -implicitDefEqProofs [tab37, a37, x_seq, x_cond, x_block, x_region, x_skip, x_exit, x_ret, head_id, runG, runOps, doOp, wantB, stepOp, AO.eff, pureOp, St.get, St.one, St.num, St.put, St.optNum, binA, binInt, List.take, List.drop, effOp2, effOp, memL_app, stoRow, cellsAt, toCells, toCell, scalar_int, scalar_bool, scalar_str, scalar_sl, updAt, fromRo, upd, srcCells, A1.slB, flat_int, cl_flat', St.parts, Eng.inB, reps, fillA, newRowSt, appSt, oldOf, rest, kill, mapMem, SV.map, Ob.map, callRO, addMem_nil, roArgs, roL, roA, srcCells, A1.ownB, addMem, shift, ren, SV.map, Ob.map, Ob.noRo, SV.noRo, A1.noRo, List.range, List.range.loop, resOf, resSV, SV.map, SV.ids, A1.ids, reach, allObs, ren, pos, Ob.map, St.canon, memL, List.range, List.range.loop, h1, h2]
    · cases c3 : (a == o) <;> rw [c3] at h
      · simp at h
        rw [h] at h3
        simp (maxSteps := 4000000) -implicitDefEqProofs [tab37, a37, x_seq, x_cond, x_block, x_region, x_skip, x_exit, x_ret, head_id, runG, runOps, doOp, wantB, stepOp, AO.eff, pureOp, St.get, St.one, St.num, St.put, St.optNum, binA, binInt, List.take, List.drop, effOp2, effOp, memL_app, stoRow, cellsAt, toCells, toCell, scalar_int, scalar_bool, scalar_str, scalar_sl, updAt, fromRo, upd, srcCells, A1.slB, flat_int, cl_flat', St.parts, Eng.inB, reps, fillA, newRowSt, appSt, oldOf, rest, kill, mapMem, SV.map, Ob.map, callRO, addMem_nil, roArgs, roL, roA, srcCells, A1.ownB, addMem, shift, ren, SV.map, Ob.map, Ob.noRo, SV.noRo, A1.noRo, List.range, List.range.loop, resOf, resSV, SV.map, SV.ids, A1.ids, reach, allObs, ren, pos, Ob.map, St.canon, memL, List.range, List.range.loop, h1, h2, h3, c3]
      · have : a = o := beq_iff_eq.1 c3
        subst this
        simp (maxSteps := 4000000) -implicitDefEqProofs [tab37, a37, x_seq, x_cond, x_block, x_region, x_skip, x_exit, x_ret, head_id, runG, runOps, doOp, wantB, stepOp, AO.eff, pureOp, St.get, St.one, St.num, St.put, St.optNum, binA, binInt, List.take, List.drop, effOp2, effOp, memL_app, stoRow, cellsAt, toCells, toCell, scalar_int, scalar_bool, scalar_str, scalar_sl, updAt, fromRo, upd, srcCells, A1.slB, flat_int, cl_flat', St.parts, Eng.inB, reps, fillA, newRowSt, appSt, oldOf, rest, kill, mapMem, SV.map, Ob.map, callRO, addMem_nil, roArgs, roL, roA, srcCells, A1.ownB, addMem, shift, ren, SV.map, Ob.map, Ob.noRo, SV.noRo, A1.noRo, List.range, List.range.loop, resOf, resSV, SV.map, SV.ids, A1.ids, reach, allObs, ren, pos, Ob.map, St.canon, memL, List.range, List.range.loop, h1, h2]
theorem turn_parts {a o n : Int} (h : turnOk a o n = true) : rng a 0 3 = true ∧ rng o (-1) 3 = true ∧ (a == o) = false ∧ rng n 1 9999 = true := by
  simp only [turnOk, Bool.and_eq_true, Bool.not_eq_true'] at h
  exact ⟨h.1.1.1, h.1.1.2, h.1.2, h.2⟩
theorem r_TurnBytes (a o n : Int) (h : turnOk a o n = true) : runRO (X tab) tab 37 [.v false [.int .i64 a], .v false [.int .i64 o], .v false [.int .i64 n]] = some (.v false [.sl 0 [] 0 (turnB a o n).length], [.row 1 (cl .u8 (turnB a o n))]) := by
  have h1 := r_isExt a
  have h2 := r_from o (-1) 3
  have h3 := r_from n 1 9999
  obtain ⟨c1, c2, c3, c4⟩ := turn_parts h
  obtain ⟨_, _, _, _, _, _⟩ := turn_facts h
  rw [c1] at h1
  rw [c2] at h2
  rw [c4] at h3
  have h4 : IntKind.i64.wrap (o + 1) = o + 1 := wrap_id (by omega) (by omega)
  have h5 := r_putNums [n, a, o + 1] (by simp) (by intro x hx; simp at hx; omega)
  have e : putAll [n, a, o + 1] = turnP a o n := by simp [putAll, turnP]
  rw [e] at h5
  have h6 := r_SumOf (turnP a o n) (by have := turnP_length h; omega)
  obtain ⟨s, hs, hs2⟩ := sumOf_nat (turnP_bytes a o n)
  rw [hs] at h6
  have h7 := r_four s hs2
  have h8 : (turnP a o n).length + 4 ≤ 140737488355328 := by have := turnP_length h; omega
  have e2 : turnB a o n = turnP a o n ++ fourN s := by unfold turnB; rw [hs]; rfl
  have e3 : (fourN s).length = 4 := rfl
  rw [e2, List.length_append, e3, ← cl_app]
  have e4 : (cl .u8 (fourN s)).take 4 = cl .u8 (fourN s) := by rw [← e3, cl_self]
  have e5 : (cl .u8 (fourN s)).length = 4 := by rw [cl_length, e3]
  generalize turnP a o n = P at *
  generalize fourN s = Q at *
  simp only [cl, List.map_cons, List.map_nil, List.length_cons, List.length_nil] at h5
  rw [show List.map (Cell.int .u8) P = cl .u8 P from rfl] at h5
  unfold runRO
  simp (maxSteps := 4000000) -implicitDefEqProofs [tab37, a37, x_seq, x_cond, x_block, x_region, x_skip, x_exit, x_ret, head_id, runG, runOps, doOp, wantB, stepOp, AO.eff, pureOp, St.get, St.one, St.num, St.put, St.optNum, binA, binInt, List.take, List.drop, effOp2, effOp, memL_app, stoRow, cellsAt, toCells, toCell, scalar_int, scalar_bool, scalar_str, scalar_sl, updAt, fromRo, upd, srcCells, A1.slB, flat_int, cl_flat', St.parts, Eng.inB, reps, fillA, newRowSt, appSt, oldOf, rest, kill, mapMem, SV.map, Ob.map, callRO, addMem_nil, roArgs, roL, roA, srcCells, A1.ownB, addMem, shift, ren, SV.map, Ob.map, Ob.noRo, SV.noRo, A1.noRo, List.range, List.range.loop, resOf, resSV, SV.map, SV.ids, A1.ids, reach, allObs, ren, pos, Ob.map, St.canon, memL, List.range, List.range.loop, h1, h2, h3, h4, h5, h6, h7, h8, c3, e4, e5, cl_self, cl_length, cl_flat]
theorem r_sTurnBytes (a o n : Int) (h : turnOk a o n = true) : runRO (X tab) tab 41 [.v false [.int .i64 a], .v false [.int .i64 o], .v false [.int .i64 n]] = some (.v false [.sl 0 [] 0 (turnB a o n).length], [.row 1 (cl .u8 (turnB a o n))]) := by
  have h1 := r_l1In a 0 3
  have h2 := r_l1In o (-1) 3
  have h3 := r_l1In n 1 9999
  obtain ⟨c1, c2, c3, c4⟩ := turn_parts h
  obtain ⟨_, _, _, _, _, _⟩ := turn_facts h
  rw [c1] at h1
  rw [c2] at h2
  rw [c4] at h3
  have h4 : IntKind.i64.wrap (o + 1) = o + 1 := wrap_id (by omega) (by omega)
  have p1 := r_sPutNum n.toNat (by omega)
  have p2 := r_sPutNum a.toNat (by omega)
  have p3 := r_sPutNum (o + 1).toNat (by omega)
  rw [Int.toNat_of_nonneg (by omega)] at p1 p2 p3
  have q1 := putN_five (n := n.toNat) (by omega)
  have q2 := putN_five (n := a.toNat) (by omega)
  have q3 := putN_five (n := (o + 1).toNat) (by omega)
  have z2 : ¬ (putN a.toNat).length = 0 := by simp [putN]
  have z3 : ¬ (putN (o + 1).toNat).length = 0 := by simp [putN]
  have y2 : putN a.toNat ≠ [] := fun e => z2 (by rw [e]; rfl)
  have y3 : putN (o + 1).toNat ≠ [] := fun e => z3 (by rw [e]; rfl)
  have h6 := r_sSumOf (turnP a o n) (by have := turnP_length h; omega)
  obtain ⟨s, hs, hs2⟩ := sumOf_nat (turnP_bytes a o n)
  rw [hs] at h6
  have h7 := r_l4Sum s hs2
  have e2 : turnB a o n = turnP a o n ++ fourN s := by unfold turnB; rw [hs]; rfl
  have e3 : (fourN s).length = 4 := rfl
  rw [e2, List.length_append, e3, ← cl_app]
  have e4 : (cl .u8 (fourN s)).take 4 = cl .u8 (fourN s) := by rw [← e3, cl_self]
  have e5 : (cl .u8 (fourN s)).length = 4 := by rw [cl_length, e3]
  unfold turnP at h6 ⊢
  generalize putN n.toNat = A at *
  generalize putN a.toNat = B at *
  generalize putN (o + 1).toNat = C at *
  generalize fourN s = Q at *
  have l1 : A.length + B.length ≤ 140737488355328 := by omega
  have l2 : A.length + B.length + C.length ≤ 140737488355328 := by omega
  have l3 : A.length + B.length + C.length + 4 ≤ 140737488355328 := by omega
  have e6 : (A ++ (B ++ C)).length = A.length + B.length + C.length := by simp [Nat.add_assoc]
  have e7 : cl .u8 (A ++ (B ++ C)) = cl .u8 A ++ (cl .u8 B ++ cl .u8 C) := by rw [← cl_app, ← cl_app]
  rw [e6, e7] at h6
  rw [e6, e7]
  have e8 : (cl .u8 A ++ (cl .u8 B ++ cl .u8 C)).length = A.length + B.length + C.length := by simp [cl_length, Nat.add_assoc]
  have e9 : (cl .u8 A ++ (cl .u8 B ++ cl .u8 C)).take (A.length + B.length + C.length) = cl .u8 A ++ (cl .u8 B ++ cl .u8 C) := by rw [← e8, List.take_length]
  unfold runRO
  simp (maxSteps := 4000000) -implicitDefEqProofs [tab41, a41, x_seq, x_cond, x_block, x_region, x_skip, x_exit, x_ret, head_id, runG, runOps, doOp, wantB, stepOp, AO.eff, pureOp, St.get, St.one, St.num, St.put, St.optNum, binA, binInt, List.take, List.drop, effOp2, effOp, memL_app, stoRow, cellsAt, toCells, toCell, scalar_int, scalar_bool, scalar_str, scalar_sl, updAt, fromRo, upd, srcCells, A1.slB, flat_int, cl_flat', St.parts, Eng.inB, reps, fillA, newRowSt, appSt, oldOf, rest, kill, mapMem, SV.map, Ob.map, callRO, addMem_nil, roArgs, roL, roA, srcCells, A1.ownB, addMem, shift, ren, SV.map, Ob.map, Ob.noRo, SV.noRo, A1.noRo, List.range, List.range.loop, resOf, resSV, SV.map, SV.ids, A1.ids, reach, allObs, ren, pos, Ob.map, St.canon, memL, List.range, List.range.loop, h1, h2, h3, h4, h6, h7, p1, p2, p3, z2, z3, y2, y3, l1, l2, l3, c3, e4, e5, e8, e9, cl_self, cl_length, cl_flat]
end Go.Proofs.Ytdagbeihjobmjaa.Eng.B
