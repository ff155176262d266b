/- Numbers read from bytes, as the program and the reference read them. -/
import Derived.Test.YtdagbeihjobmjaaBNum
namespace Go.Proofs.Ytdagbeihjobmjaa.Eng.B
set_option linter.unusedSimpArgs false
set_option linter.unusedVariables false
set_option maxHeartbeats 8000000
set_option maxRecDepth 100000
open Go.RowKit Go.Proofs

/-- A number read from bytes: the number, and how many bytes it takes. -/
def getF : Nat → Nat → List Int → Option (Nat × Nat)
  | _, _, [] => none
  | i, n, x :: r =>
    if i < 5 then
      (if x.toNat < 128 then (if 2147483647 < n + x.toNat % 128 * 128 ^ i ∨ (x.toNat = 0 ∧ 0 < i) then none else some (n + x.toNat % 128 * 128 ^ i, i + 1))
      else getF (i + 1) (n + x.toNat % 128 * 128 ^ i) r)
    else none
def getNum (b : List Int) (i : Int) : Option (Nat × Nat) := if i < 0 then none else (getF 0 0 (b.drop i.toNat)).map fun p => (p.1, i.toNat + p.2)
def Bytes (b : List Int) : Prop := ∀ x ∈ b, 0 ≤ x ∧ x ≤ 255
theorem byte_at {b : List Int} (hb : Bytes b) {i : Nat} {x : Int} {r : List Int} (h : b.drop i = x :: r) : ∃ y : Nat, x = (y : Int) ∧ y < 256 := by
  have hm : x ∈ b := List.mem_of_mem_drop (i := i) (by rw [h]; simp)
  have := hb x hm
  exact ⟨x.toNat, by omega, by omega⟩
theorem step_lt {i n y u : Nat} (hi : i < 5) (hn : n < u) (hu : u = 128 ^ i) : n + y % 128 * u < u * 128 ∧ u ≤ 268435456 ∧ y % 128 * u ≤ 127 * u := by
  have h1 : y % 128 * u ≤ 127 * u := Nat.mul_le_mul_right _ (by omega)
  have h2 : u ≤ 268435456 := by
    subst hu
    exact Nat.le_trans (Nat.pow_le_pow_right (by omega) (show i ≤ 4 by omega)) (by decide)
  omega
def S_GetNum (b : List Int) (a : Nat) (s : Nat × Nat × Nat) : XS := ⟨⟨[.v false [.ro b.length (cl .u8 b)], .v false [.int .i64 (a)], .bad, .bad, .bad, .bad, .bad, .v false [.int .i64 (s.2.1)], .v false [.int .i64 (s.2.2)], .v false [.int .i64 (s.1)], .bad, .bad, .bad, .bad, .bad, .bad, .bad, .bad, .bad, .bad, .bad, .bad, .bad, .bad, .bad, .bad, .bad, .bad, .bad, .bad, .bad, .bad, .bad, .bad, .bad, .bad, .bad, .bad, .bad, .bad, .bad, .bad, .bad, .bad, .bad, .bad, .bad, .bad, .bad, .bad, .bad, .bad, .bad, .bad, .bad, .bad, .bad], memL [], []⟩, 0⟩
def R_GetNum (a : Nat) : Option (Nat × Nat) → Option (AE × XS)
  | none => some (.exit 0, ⟨⟨[.bad, .bad, .bad, .bad, .bad, .bad, .bad, .bad, .bad, .bad, .bad, .bad, .bad, .bad, .bad, .bad, .bad, .bad, .bad, .bad, .bad, .bad, .bad, .bad, .bad, .bad, .bad, .bad, .bad, .bad, .bad, .bad, .bad, .bad, .bad, .bad, .bad, .bad, .bad, .bad, .bad, .bad, .bad, .bad, .bad, .bad, .bad, .bad, .bad, .bad, .bad, .bad, .bad, .bad, .bad, .bad, .bad], memL [], []⟩, 0⟩)
  | some (n, j) => some (.ret, ⟨⟨[.bad, .bad, .bad, .bad, .v false [.int .i64 (n)], .v false [.int .i64 ((a + j : Nat))], .v false [.bool (true)], .bad, .bad, .bad, .bad, .bad, .bad, .bad, .bad, .bad, .bad, .bad, .bad, .bad, .bad, .bad, .bad, .bad, .bad, .bad, .bad, .bad, .bad, .bad, .bad, .bad, .bad, .bad, .bad, .bad, .bad, .bad, .bad, .bad, .bad, .bad, .bad, .bad, .bad, .bad, .bad, .bad, .bad, .bad, .bad, .bad, .bad, .bad, .bad, .bad, .bad], memL [], []⟩, 0⟩)
theorem loop_GetNum (b : List Int) (hB : Bytes b) (hn : b.length ≤ 1048576) (a : Nat) (ha : a ≤ 9223372036854775807) {x : XS} (hx : head true d130_0 x = S_GetNum b a (0, 0, 1)) : X tab l130_0 x = R_GetNum a (getF 0 0 (b.drop a)) := by
  refine loopX (σ := Nat × Nat × Nat) (S_GetNum b a) (fun s => 5 - s.1) (fun s => s.1 ≤ 5 ∧ s.2.1 < s.2.2 ∧ s.2.2 = 128 ^ s.1 ∧ getF s.1 s.2.1 (b.drop (a + s.1)) = getF 0 0 (b.drop a)) _ (fun ⟨i, n, u⟩ ⟨hi, hlt, hu, hs⟩ => ?_) (0, 0, 1) ⟨by omega, by simp, by simp, rfl⟩ x hx
  simp only at hi hlt hu hs
  rw [← hs]
  by_cases h5 : i < 5
  · have c1 : (i : Int) < 5 := by omega
    have c2 : IntKind.i64.wrap ((b.length : Int) - (i : Int)) = (b.length : Int) - (i : Int) := wrap_id (by omega) (by omega)
    cases hl : b.drop (a + i) with
    | nil =>
      have hge : ¬ (a : Int) < (b.length : Int) - (i : Int) := by
        have := congrArg List.length hl
        simp at this
        omega
      refine .inr ⟨?_, by simp [R_GetNum, getF]⟩
      simp (maxSteps := 4000000) -implicitDefEqProofs [b130_0, S_GetNum, x_seq, x_cond, x_block, x_region, x_skip, x_exit, x_ret, head_id, runG, runOps, doOp, wantB, stepOp, AO.eff, pureOp, St.get, St.one, St.num, St.put, St.optNum, binA, binInt, List.take, List.drop, R_GetNum, getF, c1, c2, hge]
      change _ = _
      kernel_rfl
    | cons x0 r =>
      have hlt' := drop_lt hl
      obtain ⟨y, rfl, hy⟩ := byte_at hB hl
      have c3 : (a : Int) < (b.length : Int) - (i : Int) := by omega
      have c4 : IntKind.i64.wrap ((a : Int) + (i : Int)) = ((a + i : Nat) : Int) := by rw [wrap_id (by omega) (by omega)]; omega
      have c5 : ((a + i : Nat) : Int) < (b.length : Int) := by omega
      have h2 := cl_at (k := .u8) hl
      have c6 : IntKind.i64.wrap (y : Int) = (y : Int) := wrap_id (by omega) (by omega)
      obtain ⟨k1, k2, k3⟩ := step_lt (y := y) h5 hlt hu
      obtain ⟨p, hp⟩ : ∃ p, p = y % 128 * u := ⟨_, rfl⟩
      obtain ⟨q, hq⟩ : ∃ q, q = n + p := ⟨_, rfl⟩
      obtain ⟨v, hv⟩ : ∃ v, v = u * 128 := ⟨_, rfl⟩
      have t1 : IntKind.i64.wrap ((y : Int).tmod 128 * (u : Int)) = (p : Int) := by
        have e : (y : Int) % 128 = ((y % 128 : Nat) : Int) := by omega
        rw [Int.tmod_eq_emod_of_nonneg (by omega), e, ← Int.natCast_mul, ← hp, wrap_id (by omega) (by omega)]
      have t2 : IntKind.i64.wrap ((n : Int) + (p : Int)) = (q : Int) := by rw [wrap_id (by omega) (by omega)]; omega
      have t3 : IntKind.i64.wrap ((u : Int) * 128) = (v : Int) := by rw [wrap_id (by omega) (by omega)]; omega
      have t4 : IntKind.i64.wrap ((i : Int) + 1) = ((i + 1 : Nat) : Int) := by rw [wrap_id (by omega) (by omega)]; omega
      have t5 : IntKind.i64.wrap (((a + i : Nat) : Int) + 1) = ((a + (i + 1) : Nat) : Int) := by rw [wrap_id (by omega) (by omega)]; omega
      have e1 : getF i n ((y : Int) :: r) = if y < 128 then (if 2147483647 < q ∨ (y = 0 ∧ 0 < i) then none else some (q, i + 1)) else getF (i + 1) q r := by
        simp only [getF, if_pos h5, Int.toNat_natCast, ← hu, ← hp, ← hq]
      rw [e1]
      by_cases hc : y < 128
      · have d1 : ¬ (128 : Int) ≤ (y : Int) := by omega
        rw [if_pos hc]
        by_cases hm : 2147483647 < q
        · have d2 : (2147483647 : Int) < (q : Int) := by omega
          rw [if_pos (.inl hm)]
          refine .inr ⟨?_, by simp [R_GetNum]⟩
          simp only [S_GetNum]
          simp (maxSteps := 4000000) -implicitDefEqProofs [b130_0, x_seq, x_cond, x_block, x_region, x_skip, x_exit, x_ret, head_id, runG, runOps, doOp, wantB, stepOp, AO.eff, pureOp, St.get, St.one, St.num, St.put, St.optNum, binA, binInt, List.take, List.drop, R_GetNum, fromRo, c1, c2, c3, c4, c5, c6, h2, t1, t2, t3, d1, d2, -Int.natCast_add]
          change _ = _
          kernel_rfl
        · have d2 : ¬ (2147483647 : Int) < (q : Int) := by omega
          by_cases hz : y = 0
          · subst hz
            have w0 : IntKind.i64.wrap 0 = 0 := wrap_id (by omega) (by omega)
            have hp0 : p = 0 := by rw [hp]; simp
            obtain rfl : q = n := by omega
            have t2' : IntKind.i64.wrap (q : Int) = (q : Int) := wrap_id (by omega) (by omega)
            by_cases hi0 : 0 < i
            · have d4 : (0 : Int) < (i : Int) := by omega
              rw [if_pos (.inr ⟨rfl, hi0⟩)]
              refine .inr ⟨?_, by simp [R_GetNum]⟩
              simp only [S_GetNum]
              simp (maxSteps := 4000000) -implicitDefEqProofs [b130_0, x_seq, x_cond, x_block, x_region, x_skip, x_exit, x_ret, head_id, runG, runOps, doOp, wantB, stepOp, AO.eff, pureOp, St.get, St.one, St.num, St.put, St.optNum, binA, binInt, List.take, List.drop, R_GetNum, fromRo, c1, c2, c3, c4, c5, h2, t2', t3, w0, d2, d4, hi0, -Int.natCast_add]
              change _ = _
              kernel_rfl
            · have d4 : ¬ (0 : Int) < (i : Int) := by omega
              rw [if_neg (by omega)]
              refine .inr ⟨?_, by simp [R_GetNum]⟩
              simp only [S_GetNum]
              simp (maxSteps := 4000000) -implicitDefEqProofs [b130_0, x_seq, x_cond, x_block, x_region, x_skip, x_exit, x_ret, head_id, runG, runOps, doOp, wantB, stepOp, AO.eff, pureOp, St.get, St.one, St.num, St.put, St.optNum, binA, binInt, List.take, List.drop, R_GetNum, fromRo, c1, c2, c3, c4, c5, h2, t2', t3, t5, w0, d2, d4, hi0, -Int.natCast_add]
              change _ = _
              kernel_rfl
          · have d3 : ((y : Int) == 0) = false := by rw [beq_eq_false_iff_ne]; omega
            rw [if_neg (by omega)]
            refine .inr ⟨?_, by simp [R_GetNum]⟩
            simp only [S_GetNum]
            simp (maxSteps := 4000000) -implicitDefEqProofs [b130_0, x_seq, x_cond, x_block, x_region, x_skip, x_exit, x_ret, head_id, runG, runOps, doOp, wantB, stepOp, AO.eff, pureOp, St.get, St.one, St.num, St.put, St.optNum, binA, binInt, List.take, List.drop, R_GetNum, fromRo, c1, c2, c3, c4, c5, c6, h2, t1, t2, t3, t5, d1, d2, d3, hz, -Int.natCast_add]
            change _ = _
            kernel_rfl
      · have d1 : (128 : Int) ≤ (y : Int) := by omega
        rw [if_neg hc]
        refine .inl ⟨(i + 1, q, v), ?_, by simp only; omega, by simp only; omega, by simp only; omega, by simp only; rw [hv, hu, Nat.pow_succ], by simp only; rw [show a + (i + 1) = a + i + 1 by omega, drop_next hl]⟩
        simp only [S_GetNum]
        simp (maxSteps := 4000000) -implicitDefEqProofs [b130_0, x_seq, x_cond, x_block, x_region, x_skip, x_exit, x_ret, head_id, runG, runOps, doOp, wantB, stepOp, AO.eff, pureOp, St.get, St.one, St.num, St.put, St.optNum, binA, binInt, List.take, List.drop, fromRo, c1, c2, c3, c4, c5, c6, h2, t1, t2, t3, t4, d1, -Int.natCast_add]
        change _ = _
        kernel_rfl
  · have c1 : ¬ (i : Int) < 5 := by omega
    have e : getF i n (b.drop (a + i)) = none := by
      cases b.drop (a + i) with
      | nil => rfl
      | cons x0 r => simp only [getF, if_neg h5]
    rw [e]
    refine .inr ⟨?_, by simp [R_GetNum]⟩
    simp (maxSteps := 4000000) -implicitDefEqProofs [b130_0, S_GetNum, x_seq, x_cond, x_block, x_region, x_skip, x_exit, x_ret, head_id, runG, runOps, doOp, wantB, stepOp, AO.eff, pureOp, St.get, St.one, St.num, St.put, St.optNum, binA, binInt, List.take, List.drop, R_GetNum, c1]
    change _ = _
    kernel_rfl
def getSV : Option (Nat × Nat) → SV
  | none => .tup [(false, [.int .i64 0]), (false, [.int .i64 0]), (false, [.bool false])]
  | some (n, j) => .tup [(false, [.int .i64 n]), (false, [.int .i64 j]), (false, [.bool true])]
theorem r_GetNum (b : List Int) (hB : Bytes b) (hn : b.length ≤ 1048576) (i : Int) (hi : i ≤ 9223372036854775807) : runRO (X tab) tab 130 [.v false [.ro b.length (cl .u8 b)], .v false [.int .i64 i]] = some (getSV (getNum b i), []) := by
  unfold runRO getNum
  by_cases h : i < 0
  · rw [if_pos h]
    simp (maxSteps := 4000000) -implicitDefEqProofs [tab130, a130, x_seq, x_cond, x_block, x_region, x_skip, x_exit, x_ret, head_id, runG, runOps, doOp, wantB, stepOp, AO.eff, pureOp, St.get, St.one, St.num, St.put, St.optNum, binA, binInt, List.take, List.drop, resOf, resSV, SV.map, SV.ids, A1.ids, reach, allObs, ren, pos, Ob.map, St.canon, memL, List.range, List.range.loop, h, getSV]
  · rw [if_neg h]
    obtain ⟨a, rfl⟩ : ∃ a : Nat, i = (a : Int) := ⟨i.toNat, by omega⟩
    rw [Int.toNat_natCast]
    simp (maxSteps := 4000000) -implicitDefEqProofs [tab130, a130, x_seq, x_cond, x_block, x_region, x_skip, x_exit, x_ret, head_id, runG, runOps, doOp, wantB, stepOp, AO.eff, pureOp, St.get, St.one, St.num, St.put, St.optNum, binA, binInt, List.take, List.drop, h]
    rw [loop_GetNum b hB hn a (by omega) (by change _ = _; kernel_rfl)]
    cases getF 0 0 (b.drop a) with
    | none => simp (maxSteps := 4000000) -implicitDefEqProofs [R_GetNum, x_seq, x_cond, x_block, x_region, x_skip, x_exit, x_ret, head_id, runG, runOps, doOp, wantB, stepOp, AO.eff, pureOp, St.get, St.one, St.num, St.put, St.optNum, binA, binInt, List.take, List.drop, resOf, resSV, SV.map, SV.ids, A1.ids, reach, allObs, ren, pos, Ob.map, St.canon, memL, List.range, List.range.loop, getSV]
    | some p =>
      obtain ⟨n, j⟩ := p
      simp (maxSteps := 4000000) -implicitDefEqProofs [R_GetNum, x_seq, x_cond, x_block, x_region, x_skip, x_exit, x_ret, head_id, runG, runOps, doOp, wantB, stepOp, AO.eff, pureOp, St.get, St.one, St.num, St.put, St.optNum, binA, binInt, List.take, List.drop, resOf, resSV, SV.map, SV.ids, A1.ids, reach, allObs, ren, pos, Ob.map, St.canon, memL, List.range, List.range.loop, getSV]
def S_sGetNum (b : List Int) (a : Nat) (s : Nat × Nat) : XS := ⟨⟨[.v false [.ro b.length (cl .u8 b)], .v false [.int .i64 (a)], .bad, .bad, .bad, .bad, .bad, .v false [.int .i64 (s.2)], .v false [.int .i64 (s.1)], .bad, .bad, .bad, .bad, .bad, .bad, .bad, .bad, .bad, .bad, .bad, .bad, .bad, .bad, .bad, .bad, .bad, .bad, .bad, .bad, .bad, .bad, .bad, .bad, .bad, .bad, .bad, .bad, .bad, .bad, .bad, .bad, .bad, .bad, .bad, .bad, .bad, .bad, .bad, .bad, .bad, .bad, .bad, .bad, .bad, .bad], memL [], []⟩, 0⟩
def Rbad_sGetNum : Option (AE × XS) := some (.ret, ⟨⟨[.bad, .bad, .bad, .bad, .v false [.int .i64 (0)], .v false [.int .i64 (0)], .v false [.bool (false)], .bad, .bad, .bad, .bad, .bad, .bad, .bad, .bad, .bad, .bad, .bad, .bad, .bad, .bad, .bad, .bad, .bad, .bad, .bad, .bad, .bad, .bad, .bad, .bad, .bad, .bad, .bad, .bad, .bad, .bad, .bad, .bad, .bad, .bad, .bad, .bad, .bad, .bad, .bad, .bad, .bad, .bad, .bad, .bad, .bad, .bad, .bad, .bad], memL [], []⟩, 0⟩)
def Rend_sGetNum : Option (AE × XS) := some (.exit 0, ⟨⟨[.bad, .bad, .bad, .bad, .bad, .bad, .bad, .bad, .bad, .bad, .bad, .bad, .bad, .bad, .bad, .bad, .bad, .bad, .bad, .bad, .bad, .bad, .bad, .bad, .bad, .bad, .bad, .bad, .bad, .bad, .bad, .bad, .bad, .bad, .bad, .bad, .bad, .bad, .bad, .bad, .bad, .bad, .bad, .bad, .bad, .bad, .bad, .bad, .bad, .bad, .bad, .bad, .bad, .bad, .bad], memL [], []⟩, 0⟩)
def Rok_sGetNum (n j : Nat) : Option (AE × XS) := some (.ret, ⟨⟨[.bad, .bad, .bad, .bad, .v false [.int .i64 (n)], .v false [.int .i64 (j)], .v false [.bool (true)], .bad, .bad, .bad, .bad, .bad, .bad, .bad, .bad, .bad, .bad, .bad, .bad, .bad, .bad, .bad, .bad, .bad, .bad, .bad, .bad, .bad, .bad, .bad, .bad, .bad, .bad, .bad, .bad, .bad, .bad, .bad, .bad, .bad, .bad, .bad, .bad, .bad, .bad, .bad, .bad, .bad, .bad, .bad, .bad, .bad, .bad, .bad, .bad], memL [], []⟩, 0⟩)
def sgF (a : Nat) : Nat → Nat → List Int → Option (AE × XS)
  | i, _, [] => if i < 5 then Rbad_sGetNum else Rend_sGetNum
  | i, n, x :: r =>
    if i < 5 then
      (if x.toNat < 128 then (if 2147483647 < n + x.toNat % 128 * 128 ^ i ∨ (x.toNat = 0 ∧ 0 < i) then Rbad_sGetNum else Rok_sGetNum (n + x.toNat % 128 * 128 ^ i) (a + (i + 1)))
      else sgF a (i + 1) (n + x.toNat % 128 * 128 ^ i) r)
    else Rend_sGetNum
theorem sgF_or (a : Nat) : ∀ (l : List Int) (i n : Nat), match getF i n l with
    | none => sgF a i n l = Rbad_sGetNum ∨ sgF a i n l = Rend_sGetNum
    | some (q, j) => sgF a i n l = Rok_sGetNum q (a + j) := by
  intro l
  induction l with
  | nil => intro i n; simp only [getF, sgF]; split <;> simp
  | cons x r ih =>
    intro i n
    simp only [getF, sgF]
    by_cases h5 : i < 5
    · simp only [if_pos h5]
      by_cases h1 : x.toNat < 128
      · simp only [if_pos h1]
        by_cases h2 : 2147483647 < n + x.toNat % 128 * 128 ^ i ∨ (x.toNat = 0 ∧ 0 < i)
        · simp only [if_pos h2]; exact .inl trivial
        · simp only [if_neg h2]
      · simp only [if_neg h1]
        exact ih _ _
    · simp only [if_neg h5]; exact .inr trivial
theorem sgF_ne (a : Nat) (l : List Int) (i n : Nat) : ∀ z, sgF a i n l ≠ some (.nrm, z) := by
  intro z
  have := sgF_or a l i n
  split at this
  · rcases this with h | h <;> rw [h] <;> simp [Rbad_sGetNum, Rend_sGetNum]
  · rw [this]; simp [Rok_sGetNum]
theorem or_bits {i n p y : Nat} (hi : i < 5) (hn : n < 128 ^ i) (hp : p = y % 128 * 128 ^ i) : IntKind.i64.wrap ((BitVec.ofInt IntKind.i64.bits (n : Int) ||| BitVec.ofInt IntKind.i64.bits (p : Int)).toNat : Int) = ((n + p : Nat) : Int) := by
  obtain ⟨k1, k2, k3⟩ := step_lt (y := y) hi hn rfl
  have e0 : (128 : Nat) ^ i = 2 ^ (7 * i) := by rw [Nat.pow_mul]
  have e1 : n ||| p = n + p := by
    have h := Nat.two_pow_add_eq_or_of_lt (b := n) (i := 7 * i) (by rw [← e0]; exact hn) (y % 128)
    rw [← e0] at h
    rw [hp, Nat.mul_comm, Nat.or_comm, ← h, Nat.add_comm]
  have e2 : (BitVec.ofInt IntKind.i64.bits (n : Int) ||| BitVec.ofInt IntKind.i64.bits (p : Int)).toNat = n ||| p := by
    rw [BitVec.toNat_or]
    have hn2 : (BitVec.ofInt IntKind.i64.bits (n : Int)).toNat = n := by
      change (BitVec.ofInt 64 (n : Int)).toNat = n
      simp
      omega
    have hp2 : (BitVec.ofInt IntKind.i64.bits (p : Int)).toNat = p := by
      change (BitVec.ofInt 64 (p : Int)).toNat = p
      simp
      omega
    rw [hn2, hp2]
  rw [e2, e1, wrap_id (by omega) (by omega)]
theorem loop_sGetNum (b : List Int) (hB : Bytes b) (hn : b.length ≤ 1048576) (a : Nat) (ha : a ≤ 9223372036854775807) {x : XS} (hx : head true d111_0 x = S_sGetNum b a (0, 0)) : X tab l111_0 x = sgF a 0 0 (b.drop a) := by
  refine loopX (σ := Nat × Nat) (S_sGetNum b a) (fun s => 5 - s.1) (fun s => s.1 ≤ 5 ∧ s.2 < 128 ^ s.1 ∧ sgF a s.1 s.2 (b.drop (a + s.1)) = sgF a 0 0 (b.drop a)) _ (fun ⟨i, n⟩ ⟨hi, hlt, hs⟩ => ?_) (0, 0) ⟨by omega, by simp, rfl⟩ x hx
  simp only at hi hlt hs
  by_cases h5 : i < 5
  · have c1 : (i : Int) < 5 := by omega
    have c0 : ¬ (a : Int) < 0 := by omega
    have c2 : IntKind.i64.wrap ((b.length : Int) - (i : Int)) = (b.length : Int) - (i : Int) := wrap_id (by omega) (by omega)
    cases hl : b.drop (a + i) with
    | nil =>
      have hge : (b.length : Int) - (i : Int) ≤ (a : Int) := by
        have := congrArg List.length hl
        simp at this
        omega
      refine .inr ⟨?_, sgF_ne _ _ _ _⟩
      rw [← hs, hl, sgF, if_pos h5]
      simp (maxSteps := 4000000) -implicitDefEqProofs [b111_0, S_sGetNum, x_seq, x_cond, x_block, x_region, x_skip, x_exit, x_ret, head_id, runG, runOps, doOp, wantB, stepOp, AO.eff, pureOp, St.get, St.one, St.num, St.put, St.optNum, binA, binInt, List.take, List.drop, Rbad_sGetNum, c0, c1, c2, hge]
      change _ = _
      kernel_rfl
    | cons x0 r =>
      have hlt' := drop_lt hl
      obtain ⟨y, rfl, hy⟩ := byte_at hB hl
      have c3 : ¬ (b.length : Int) - (i : Int) ≤ (a : Int) := by omega
      have c4 : IntKind.i64.wrap ((a : Int) + (i : Int)) = ((a + i : Nat) : Int) := by rw [wrap_id (by omega) (by omega)]; omega
      have c5 : ((a + i : Nat) : Int) < (b.length : Int) := by omega
      have h2 := cl_at (k := .u8) hl
      have c6 : IntKind.i64.wrap (y : Int) = (y : Int) := wrap_id (by omega) (by omega)
      obtain ⟨k1, k2, k3⟩ := step_lt (y := y) h5 hlt rfl
      have hor := or_bits h5 hlt (rfl : y % 128 * 128 ^ i = y % 128 * 128 ^ i)
      obtain ⟨p, hp⟩ : ∃ p, p = y % 128 * 128 ^ i := ⟨_, rfl⟩
      obtain ⟨q, hq⟩ : ∃ q, q = n + p := ⟨_, rfl⟩
      obtain ⟨s, hsv⟩ : ∃ s, s = 7 * i := ⟨_, rfl⟩
      rw [← hp, ← hq] at hor
      have t0 : IntKind.i64.wrap (7 * (i : Int)) = (s : Int) := by rw [wrap_id (by omega) (by omega)]; omega
      have t0' : ¬ (s : Int) < 0 := by omega
      have t1 : IntKind.i64.wrap ((y : Int).tmod 128 * 2 ^ min s IntKind.i64.bits) = (p : Int) := by
        have e : (y : Int) % 128 = ((y % 128 : Nat) : Int) := by omega
        have e2 : min s IntKind.i64.bits = s := by change min s 64 = s; omega
        have e3 : (2 : Int) ^ s = ((128 ^ i : Nat) : Int) := by rw [hsv, Int.pow_mul, Int.natCast_pow]; rfl
        rw [Int.tmod_eq_emod_of_nonneg (by omega), e, e2, e3, ← Int.natCast_mul, ← hp, wrap_id (by omega) (by omega)]
      have t4 : IntKind.i64.wrap ((i : Int) + 1) = ((i + 1 : Nat) : Int) := by rw [wrap_id (by omega) (by omega)]; omega
      have t5 : IntKind.i64.wrap (((a + i : Nat) : Int) + 1) = ((a + (i + 1) : Nat) : Int) := by rw [wrap_id (by omega) (by omega)]; omega
      have e1 : sgF a i n ((y : Int) :: r) = if y < 128 then (if 2147483647 < q ∨ (y = 0 ∧ 0 < i) then Rbad_sGetNum else Rok_sGetNum q (a + (i + 1))) else sgF a (i + 1) q r := by
        simp only [sgF, if_pos h5, Int.toNat_natCast, ← hp, ← hq]
      rw [hl, e1] at hs
      by_cases hc : y < 128
      · have d1 : (y : Int) < 128 := by omega
        rw [if_pos hc] at hs
        refine .inr ⟨?_, sgF_ne _ _ _ _⟩
        rw [← hs]
        by_cases hz : y = 0
        · subst hz
          have w0 : IntKind.i64.wrap 0 = 0 := wrap_id (by omega) (by omega)
          have hp0 : p = 0 := by rw [hp]; simp
          subst hp0
          obtain rfl : q = n := by omega
          by_cases hi0 : 0 < i
          · have d4 : (0 : Int) < (i : Int) := by omega
            rw [if_pos (.inr ⟨rfl, hi0⟩)]
            simp only [S_sGetNum]
            simp (maxSteps := 4000000) -implicitDefEqProofs [b111_0, x_seq, x_cond, x_block, x_region, x_skip, x_exit, x_ret, head_id, runG, runOps, doOp, wantB, stepOp, AO.eff, pureOp, St.get, St.one, St.num, St.put, St.optNum, binA, binInt, List.take, List.drop, Rbad_sGetNum, fromRo, c0, c1, c2, c3, c4, c5, h2, t0, t0', w0, d4, hi0, -Int.natCast_add, -BitVec.toNat_or, -BitVec.ofInt_natCast, -BitVec.toNat_ofInt]
            change _ = _
            kernel_rfl
          · have d4 : ¬ (0 : Int) < (i : Int) := by omega
            have hq0 : q = 0 := by
              obtain rfl : i = 0 := by omega
              simp at hlt
              omega
            have d2 : ¬ (2147483647 : Int) < (q : Int) := by omega
            have hor' : IntKind.i64.wrap ((BitVec.ofInt IntKind.i64.bits (q : Int)).toNat : Int) = (q : Int) := by
              rw [hq0]
              rfl
            have hor'' : IntKind.i64.wrap ((q : Int) % 2 ^ IntKind.i64.bits) = (q : Int) := by
              rw [hq0]
              rfl
            rw [if_neg (by omega)]
            simp only [S_sGetNum]
            simp (maxSteps := 4000000) -implicitDefEqProofs [b111_0, x_seq, x_cond, x_block, x_region, x_skip, x_exit, x_ret, head_id, runG, runOps, doOp, wantB, stepOp, AO.eff, pureOp, St.get, St.one, St.num, St.put, St.optNum, binA, binInt, List.take, List.drop, Rok_sGetNum, fromRo, c0, c1, c2, c3, c4, c5, h2, t0, t0', t5, w0, d2, d4, hi0, hor', hor'', -Int.natCast_add, -BitVec.toNat_or, -BitVec.ofInt_natCast, -BitVec.toNat_ofInt]
            change _ = _
            kernel_rfl
        · have d3 : ((y : Int) == 0) = false := by rw [beq_eq_false_iff_ne]; omega
          by_cases hm : 2147483647 < q
          · have d2 : (2147483647 : Int) < (q : Int) := by omega
            rw [if_pos (.inl hm)]
            by_cases hi0 : 0 < i <;>
            · simp only [S_sGetNum]
              simp (maxSteps := 4000000) -implicitDefEqProofs [b111_0, x_seq, x_cond, x_block, x_region, x_skip, x_exit, x_ret, head_id, runG, runOps, doOp, wantB, stepOp, AO.eff, pureOp, St.get, St.one, St.num, St.put, St.optNum, binA, binInt, List.take, List.drop, Rbad_sGetNum, fromRo, c0, c1, c2, c3, c4, c5, c6, h2, t0, t0', t1, hor, d1, d2, d3, hi0, -Int.natCast_add, -BitVec.toNat_or, -BitVec.ofInt_natCast, -BitVec.toNat_ofInt]
              change _ = _
              kernel_rfl
          · have d2 : ¬ (2147483647 : Int) < (q : Int) := by omega
            rw [if_neg (by omega)]
            by_cases hi0 : 0 < i <;>
            · simp only [S_sGetNum]
              simp (maxSteps := 4000000) -implicitDefEqProofs [b111_0, x_seq, x_cond, x_block, x_region, x_skip, x_exit, x_ret, head_id, runG, runOps, doOp, wantB, stepOp, AO.eff, pureOp, St.get, St.one, St.num, St.put, St.optNum, binA, binInt, List.take, List.drop, Rok_sGetNum, fromRo, c0, c1, c2, c3, c4, c5, c6, h2, t0, t0', t1, t5, hor, d1, d2, d3, hi0, -Int.natCast_add, -BitVec.toNat_or, -BitVec.ofInt_natCast, -BitVec.toNat_ofInt]
              change _ = _
              kernel_rfl
      · have d1 : ¬ (y : Int) < 128 := by omega
        rw [if_neg hc] at hs
        refine .inl ⟨(i + 1, q), ?_, by simp only; omega, by simp only; omega, by simp only; rw [Nat.pow_succ]; omega, by simp only; rw [show a + (i + 1) = a + i + 1 by omega, drop_next hl]; exact hs⟩
        simp only [S_sGetNum]
        simp (maxSteps := 4000000) -implicitDefEqProofs [b111_0, x_seq, x_cond, x_block, x_region, x_skip, x_exit, x_ret, head_id, runG, runOps, doOp, wantB, stepOp, AO.eff, pureOp, St.get, St.one, St.num, St.put, St.optNum, binA, binInt, List.take, List.drop, fromRo, c0, c1, c2, c3, c4, c5, c6, h2, t0, t0', t1, t4, hor, d1, -Int.natCast_add, -BitVec.toNat_or, -BitVec.ofInt_natCast, -BitVec.toNat_ofInt]
        change _ = _
        kernel_rfl
  · have c1 : ¬ (i : Int) < 5 := by omega
    refine .inr ⟨?_, sgF_ne _ _ _ _⟩
    rw [← hs]
    have e : sgF a i n (b.drop (a + i)) = Rend_sGetNum := by
      cases b.drop (a + i) with
      | nil => simp only [sgF, if_neg h5]
      | cons x0 r => simp only [sgF, if_neg h5]
    rw [e]
    simp (maxSteps := 4000000) -implicitDefEqProofs [b111_0, S_sGetNum, x_seq, x_cond, x_block, x_region, x_skip, x_exit, x_ret, head_id, runG, runOps, doOp, wantB, stepOp, AO.eff, pureOp, St.get, St.one, St.num, St.put, St.optNum, binA, binInt, List.take, List.drop, Rend_sGetNum, c1]
    change _ = _
    kernel_rfl
theorem r_sGetNum (b : List Int) (hB : Bytes b) (hn : b.length ≤ 1048576) (i : Int) (hi : i ≤ 9223372036854775807) : runRO (X tab) tab 111 [.v false [.ro b.length (cl .u8 b)], .v false [.int .i64 i]] = some (getSV (getNum b i), []) := by
  unfold runRO getNum
  by_cases h : i < 0
  · rw [if_pos h]
    have hl : ∀ x, head true d111_0 x = ⟨⟨[.v false [.ro b.length (cl .u8 b)], .v false [.int .i64 (i)], .bad, .bad, .bad, .bad, .bad, .v false [.int .i64 (0)], .v false [.int .i64 (0)], .bad, .bad, .bad, .bad, .bad, .bad, .bad, .bad, .bad, .bad, .bad, .bad, .bad, .bad, .bad, .bad, .bad, .bad, .bad, .bad, .bad, .bad, .bad, .bad, .bad, .bad, .bad, .bad, .bad, .bad, .bad, .bad, .bad, .bad, .bad, .bad, .bad, .bad, .bad, .bad, .bad, .bad, .bad, .bad, .bad, .bad], memL [], []⟩, 0⟩ → X tab l111_0 x = Rbad_sGetNum := by
      intro x hx
      refine loopN 0 (fun _ => ⟨⟨[.v false [.ro b.length (cl .u8 b)], .v false [.int .i64 (i)], .bad, .bad, .bad, .bad, .bad, .v false [.int .i64 (0)], .v false [.int .i64 (0)], .bad, .bad, .bad, .bad, .bad, .bad, .bad, .bad, .bad, .bad, .bad, .bad, .bad, .bad, .bad, .bad, .bad, .bad, .bad, .bad, .bad, .bad, .bad, .bad, .bad, .bad, .bad, .bad, .bad, .bad, .bad, .bad, .bad, .bad, .bad, .bad, .bad, .bad, .bad, .bad, .bad, .bad, .bad, .bad, .bad, .bad], memL [], []⟩, 0⟩) _ (by simp [Rbad_sGetNum]) (fun i hi => absurd hi (by omega)) ?_ (Nat.zero_le _) hx
      simp (maxSteps := 4000000) -implicitDefEqProofs [b111_0, x_seq, x_cond, x_block, x_region, x_skip, x_exit, x_ret, head_id, runG, runOps, doOp, wantB, stepOp, AO.eff, pureOp, St.get, St.one, St.num, St.put, St.optNum, binA, binInt, List.take, List.drop, Rbad_sGetNum, h]
      change _ = _
      kernel_rfl
    simp (maxSteps := 4000000) -implicitDefEqProofs [tab111, a111, x_seq, x_cond, x_block, x_region, x_skip, x_exit, x_ret, head_id, runG, runOps, doOp, wantB, stepOp, AO.eff, pureOp, St.get, St.one, St.num, St.put, St.optNum, binA, binInt, List.take, List.drop]
    rw [hl _ (by change _ = _; kernel_rfl)]
    simp (maxSteps := 4000000) -implicitDefEqProofs [Rbad_sGetNum, x_seq, x_cond, x_block, x_region, x_skip, x_exit, x_ret, head_id, runG, runOps, doOp, wantB, stepOp, AO.eff, pureOp, St.get, St.one, St.num, St.put, St.optNum, binA, binInt, List.take, List.drop, resOf, resSV, SV.map, SV.ids, A1.ids, reach, allObs, ren, pos, Ob.map, St.canon, memL, List.range, List.range.loop, getSV]
  · rw [if_neg h]
    obtain ⟨a, rfl⟩ : ∃ a : Nat, i = (a : Int) := ⟨i.toNat, by omega⟩
    rw [Int.toNat_natCast]
    simp (maxSteps := 4000000) -implicitDefEqProofs [tab111, a111, x_seq, x_cond, x_block, x_region, x_skip, x_exit, x_ret, head_id, runG, runOps, doOp, wantB, stepOp, AO.eff, pureOp, St.get, St.one, St.num, St.put, St.optNum, binA, binInt, List.take, List.drop]
    rw [loop_sGetNum b hB hn a (by omega) (by change _ = _; kernel_rfl)]
    have ho := sgF_or a (b.drop a) 0 0
    cases hg : getF 0 0 (b.drop a) with
    | none =>
      rw [hg] at ho
      rcases ho with ho | ho <;> rw [ho] <;> simp (maxSteps := 4000000) -implicitDefEqProofs [Rbad_sGetNum, Rend_sGetNum, x_seq, x_cond, x_block, x_region, x_skip, x_exit, x_ret, head_id, runG, runOps, doOp, wantB, stepOp, AO.eff, pureOp, St.get, St.one, St.num, St.put, St.optNum, binA, binInt, List.take, List.drop, resOf, resSV, SV.map, SV.ids, A1.ids, reach, allObs, ren, pos, Ob.map, St.canon, memL, List.range, List.range.loop, getSV]
    | some p =>
      obtain ⟨n, j⟩ := p
      rw [hg] at ho
      simp only at ho
      rw [ho]
      simp (maxSteps := 4000000) -implicitDefEqProofs [Rok_sGetNum, x_seq, x_cond, x_block, x_region, x_skip, x_exit, x_ret, head_id, runG, runOps, doOp, wantB, stepOp, AO.eff, pureOp, St.get, St.one, St.num, St.put, St.optNum, binA, binInt, List.take, List.drop, resOf, resSV, SV.map, SV.ids, A1.ids, reach, allObs, ren, pos, Ob.map, St.canon, memL, List.range, List.range.loop, getSV]
end Go.Proofs.Ytdagbeihjobmjaa.Eng.B
