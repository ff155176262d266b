/- Get, Turn, TurnOf, List, Zf, as one text. -/
import Derived.Test.YtbdokibepndibaaGreatCG4
namespace Go.Proofs.YtbdokibepndibaaGreat.Eng.C
set_option linter.unusedSimpArgs false
set_option linter.unusedVariables false
set_option maxHeartbeats 16000000
set_option maxRecDepth 100000
open Go.RowKit Go.Proofs
attribute [local simp] x_seq x_cond x_block x_region x_skip x_exit x_ret head_id runG runOps doOp wantB stepOp AO.eff pureOp St.get St.one St.num St.put St.optNum binA binInt gOp gOp0 gOpL gResL updO gRes gEff addObs_nil addObs_one freshB_memL freshB_none freshB_upd freshB_addMem freshB_addObs effOp2 effOp memL_app stoRow cellsAt toCells toCell scalar_int scalar_bool scalar_str scalar_sl updAt fromRo callRO addMem_nil roArgs roL roA srcCells A1.ownB addMem shift ren SV.map Ob.map Ob.noRo SV.noRo A1.noRo resOf resSV SV.ids A1.ids reach allObs pos St.canon A1.slB flat_int cl_flat' St.parts Eng.inB reps fillA newRowSt appSt oldOf

/-- A number read from bytes: the number, and how many bytes it takes. -/
def getF : Nat → Nat → List Int → Option (Nat × Nat)
  | _, _, [] => none
  | i, n, x :: r =>
    if i < 5 then
      (if x.toNat < 128 then (if 2147483647 < n + x.toNat % 128 * 128 ^ i ∨ (x.toNat = 0 ∧ 0 < i) then none else some (n + x.toNat % 128 * 128 ^ i, i + 1))
      else getF (i + 1) (n + x.toNat % 128 * 128 ^ i) r)
    else none
def getNum (b : List Int) (i : Int) : Option (Nat × Nat) := if i < 0 then none else (getF 0 0 (b.drop i.toNat)).map fun p => (p.1, i.toNat + p.2)
def Bytes (b : List Int) : Prop := ∀ x ∈ b, 0 ≤ x ∧ x ≤ 255
theorem byte_at {b : List Int} (hb : Bytes b) {i : Nat} {x : Int} {r : List Int} (h : b.drop i = x :: r) : ∃ y : Nat, x = (y : Int) ∧ y < 256 := by
  have hm : x ∈ b := List.mem_of_mem_drop (i := i) (by rw [h]; simp)
  have := hb x hm
  exact ⟨x.toNat, by omega, by omega⟩
theorem step_lt {i n y u : Nat} (hi : i < 5) (hn : n < u) (hu : u = 128 ^ i) : n + y % 128 * u < u * 128 ∧ u ≤ 268435456 ∧ y % 128 * u ≤ 127 * u := by
  have h1 : y % 128 * u ≤ 127 * u := Nat.mul_le_mul_right _ (by omega)
  have h2 : u ≤ 268435456 := by
    subst hu
    exact Nat.le_trans (Nat.pow_le_pow_right (by omega) (show i ≤ 4 by omega)) (by decide)
  omega
def S_GetNum (b : List Int) (a : Nat) (s : Nat × Nat × Nat) : XS := ⟨⟨[.v false [.ro b.length (cl .u8 b)], .v false [.int .i64 (a)], .bad, .bad, .bad, .bad, .bad, .v false [.int .i64 (s.2.1)], .v false [.int .i64 (s.2.2)], .v false [.int .i64 (s.1)], .bad, .bad, .bad, .bad, .bad, .bad, .bad, .bad, .bad, .bad, .bad, .bad, .bad, .bad, .bad, .bad, .bad, .bad, .bad, .bad, .bad, .bad, .bad, .bad, .bad, .bad, .bad, .bad, .bad, .bad, .bad, .bad, .bad, .bad, .bad, .bad, .bad, .bad, .bad, .bad, .bad, .bad, .bad, .bad, .bad, .bad, .bad], memL [], []⟩, 0⟩
def R_GetNum (a : Nat) : Option (Nat × Nat) → Option (AE × XS)
  | none => some (.exit 0, ⟨⟨[.bad, .bad, .bad, .bad, .bad, .bad, .bad, .bad, .bad, .bad, .bad, .bad, .bad, .bad, .bad, .bad, .bad, .bad, .bad, .bad, .bad, .bad, .bad, .bad, .bad, .bad, .bad, .bad, .bad, .bad, .bad, .bad, .bad, .bad, .bad, .bad, .bad, .bad, .bad, .bad, .bad, .bad, .bad, .bad, .bad, .bad, .bad, .bad, .bad, .bad, .bad, .bad, .bad, .bad, .bad, .bad, .bad], memL [], []⟩, 0⟩)
  | some (n, j) => some (.ret, ⟨⟨[.bad, .bad, .bad, .bad, .v false [.int .i64 (n)], .v false [.int .i64 ((a + j : Nat))], .v false [.bool (true)], .bad, .bad, .bad, .bad, .bad, .bad, .bad, .bad, .bad, .bad, .bad, .bad, .bad, .bad, .bad, .bad, .bad, .bad, .bad, .bad, .bad, .bad, .bad, .bad, .bad, .bad, .bad, .bad, .bad, .bad, .bad, .bad, .bad, .bad, .bad, .bad, .bad, .bad, .bad, .bad, .bad, .bad, .bad, .bad, .bad, .bad, .bad, .bad, .bad, .bad], memL [], []⟩, 0⟩)
theorem loop_GetNum (b : List Int) (hB : Bytes b) (hn : b.length ≤ 1048576) (a : Nat) (ha : a ≤ 9223372036854775807) {x : XS} (hx : head true d124_0 x = S_GetNum b a (0, 0, 1)) : X tab l124_0 x = R_GetNum a (getF 0 0 (b.drop a)) := by
  refine loopX (σ := Nat × Nat × Nat) (S_GetNum b a) (fun s => 5 - s.1) (fun s => s.1 ≤ 5 ∧ s.2.1 < s.2.2 ∧ s.2.2 = 128 ^ s.1 ∧ getF s.1 s.2.1 (b.drop (a + s.1)) = getF 0 0 (b.drop a)) _ (fun ⟨i, n, u⟩ ⟨hi, hlt, hu, hs⟩ => ?_) (0, 0, 1) ⟨by omega, by simp, by simp, rfl⟩ x hx
  simp only at hi hlt hu hs
  rw [← hs]
  by_cases h5 : i < 5
  · have c1 : (i : Int) < 5 := by omega
    have c2 : IntKind.i64.wrap ((b.length : Int) - (i : Int)) = (b.length : Int) - (i : Int) := wrap_id (by omega) (by omega)
    cases hl : b.drop (a + i) with
    | nil =>
      have hge : ¬ (a : Int) < (b.length : Int) - (i : Int) := by
        have := congrArg List.length hl
        simp at this
        omega
      refine .inr ⟨?_, by simp [R_GetNum, getF]⟩
      simp (maxSteps := 4000000) -implicitDefEqProofs [b124_0, S_GetNum, List.take, List.drop, R_GetNum, getF, c1, c2, hge]
      change _ = _
      kernel_rfl
    | cons x0 r =>
      have hlt' := drop_lt hl
      obtain ⟨y, rfl, hy⟩ := byte_at hB hl
      have c3 : (a : Int) < (b.length : Int) - (i : Int) := by omega
      have c4 : IntKind.i64.wrap ((a : Int) + (i : Int)) = ((a + i : Nat) : Int) := by rw [wrap_id (by omega) (by omega)]; omega
      have c5 : ((a + i : Nat) : Int) < (b.length : Int) := by omega
      have h2 := cl_at (k := .u8) hl
      have c6 : IntKind.i64.wrap (y : Int) = (y : Int) := wrap_id (by omega) (by omega)
      obtain ⟨k1, k2, k3⟩ := step_lt (y := y) h5 hlt hu
      obtain ⟨p, hp⟩ : ∃ p, p = y % 128 * u := ⟨_, rfl⟩
      obtain ⟨q, hq⟩ : ∃ q, q = n + p := ⟨_, rfl⟩
      obtain ⟨v, hv⟩ : ∃ v, v = u * 128 := ⟨_, rfl⟩
      have t1 : IntKind.i64.wrap ((y : Int).tmod 128 * (u : Int)) = (p : Int) := by
        have e : (y : Int) % 128 = ((y % 128 : Nat) : Int) := by omega
        rw [Int.tmod_eq_emod_of_nonneg (by omega), e, ← Int.natCast_mul, ← hp, wrap_id (by omega) (by omega)]
      have t2 : IntKind.i64.wrap ((n : Int) + (p : Int)) = (q : Int) := by rw [wrap_id (by omega) (by omega)]; omega
      have t3 : IntKind.i64.wrap ((u : Int) * 128) = (v : Int) := by rw [wrap_id (by omega) (by omega)]; omega
      have t4 : IntKind.i64.wrap ((i : Int) + 1) = ((i + 1 : Nat) : Int) := by rw [wrap_id (by omega) (by omega)]; omega
      have t5 : IntKind.i64.wrap (((a + i : Nat) : Int) + 1) = ((a + (i + 1) : Nat) : Int) := by rw [wrap_id (by omega) (by omega)]; omega
      have e1 : getF i n ((y : Int) :: r) = if y < 128 then (if 2147483647 < q ∨ (y = 0 ∧ 0 < i) then none else some (q, i + 1)) else getF (i + 1) q r := by
        simp only [getF, if_pos h5, Int.toNat_natCast, ← hu, ← hp, ← hq]
      rw [e1]
      by_cases hc : y < 128
      · have d1 : ¬ (128 : Int) ≤ (y : Int) := by omega
        rw [if_pos hc]
        by_cases hm : 2147483647 < q
        · have d2 : (2147483647 : Int) < (q : Int) := by omega
          rw [if_pos (.inl hm)]
          refine .inr ⟨?_, by simp [R_GetNum]⟩
          simp only [S_GetNum]
          simp (maxSteps := 4000000) -implicitDefEqProofs [b124_0, List.take, List.drop, R_GetNum, fromRo, c1, c2, c3, c4, c5, c6, h2, t1, t2, t3, d1, d2, -Int.natCast_add]
          change _ = _
          kernel_rfl
        · have d2 : ¬ (2147483647 : Int) < (q : Int) := by omega
          by_cases hz : y = 0
          · subst hz
            have w0 : IntKind.i64.wrap 0 = 0 := wrap_id (by omega) (by omega)
            have hp0 : p = 0 := by rw [hp]; simp
            obtain rfl : q = n := by omega
            have t2' : IntKind.i64.wrap (q : Int) = (q : Int) := wrap_id (by omega) (by omega)
            by_cases hi0 : 0 < i
            · have d4 : (0 : Int) < (i : Int) := by omega
              rw [if_pos (.inr ⟨rfl, hi0⟩)]
              refine .inr ⟨?_, by simp [R_GetNum]⟩
              simp only [S_GetNum]
              simp (maxSteps := 4000000) -implicitDefEqProofs [b124_0, List.take, List.drop, R_GetNum, fromRo, c1, c2, c3, c4, c5, h2, t2', t3, w0, d2, d4, hi0, -Int.natCast_add]
              change _ = _
              kernel_rfl
            · have d4 : ¬ (0 : Int) < (i : Int) := by omega
              rw [if_neg (by omega)]
              refine .inr ⟨?_, by simp [R_GetNum]⟩
              simp only [S_GetNum]
              simp (maxSteps := 4000000) -implicitDefEqProofs [b124_0, List.take, List.drop, R_GetNum, fromRo, c1, c2, c3, c4, c5, h2, t2', t3, t5, w0, d2, d4, hi0, -Int.natCast_add]
              change _ = _
              kernel_rfl
          · have d3 : ((y : Int) == 0) = false := by rw [beq_eq_false_iff_ne]; omega
            rw [if_neg (by omega)]
            refine .inr ⟨?_, by simp [R_GetNum]⟩
            simp only [S_GetNum]
            simp (maxSteps := 4000000) -implicitDefEqProofs [b124_0, List.take, List.drop, R_GetNum, fromRo, c1, c2, c3, c4, c5, c6, h2, t1, t2, t3, t5, d1, d2, d3, hz, -Int.natCast_add]
            change _ = _
            kernel_rfl
      · have d1 : (128 : Int) ≤ (y : Int) := by omega
        rw [if_neg hc]
        refine .inl ⟨(i + 1, q, v), ?_, by simp only; omega, by simp only; omega, by simp only; omega, by simp only; rw [hv, hu, Nat.pow_succ], by simp only; rw [show a + (i + 1) = a + i + 1 by omega, drop_next hl]⟩
        simp only [S_GetNum]
        simp (maxSteps := 4000000) -implicitDefEqProofs [b124_0, List.take, List.drop, fromRo, c1, c2, c3, c4, c5, c6, h2, t1, t2, t3, t4, d1, -Int.natCast_add]
        change _ = _
        kernel_rfl
  · have c1 : ¬ (i : Int) < 5 := by omega
    have e : getF i n (b.drop (a + i)) = none := by
      cases b.drop (a + i) with
      | nil => rfl
      | cons x0 r => simp only [getF, if_neg h5]
    rw [e]
    refine .inr ⟨?_, by simp [R_GetNum]⟩
    simp (maxSteps := 4000000) -implicitDefEqProofs [b124_0, S_GetNum, List.take, List.drop, R_GetNum, c1]
    change _ = _
    kernel_rfl
def getSV : Option (Nat × Nat) → SV
  | none => .tup [(false, [.int .i64 0]), (false, [.int .i64 0]), (false, [.bool false])]
  | some (n, j) => .tup [(false, [.int .i64 n]), (false, [.int .i64 j]), (false, [.bool true])]
theorem r_GetNum (b : List Int) (hB : Bytes b) (hn : b.length ≤ 1048576) (i : Int) (hi : i ≤ 9223372036854775807) : runRO (X tab) tab 124 [.v false [.ro b.length (cl .u8 b)], .v false [.int .i64 i]] = some (getSV (getNum b i), []) := by
  unfold runRO getNum
  by_cases h : i < 0
  · rw [if_pos h]
    simp (maxSteps := 4000000) -implicitDefEqProofs [tab124, a124, List.take, List.drop, memL, List.range, List.range.loop, h, getSV]
  · rw [if_neg h]
    obtain ⟨a, rfl⟩ : ∃ a : Nat, i = (a : Int) := ⟨i.toNat, by omega⟩
    rw [Int.toNat_natCast]
    simp (maxSteps := 4000000) -implicitDefEqProofs [tab124, a124, List.take, List.drop, h]
    rw [loop_GetNum b hB hn a (by omega) (by change _ = _; kernel_rfl)]
    cases getF 0 0 (b.drop a) with
    | none => simp (maxSteps := 4000000) -implicitDefEqProofs [R_GetNum, List.take, List.drop, memL, List.range, List.range.loop, getSV]
    | some p =>
      obtain ⟨n, j⟩ := p
      simp (maxSteps := 4000000) -implicitDefEqProofs [R_GetNum, List.take, List.drop, memL, List.range, List.range.loop, getSV]
def S_sGetNum (b : List Int) (a : Nat) (s : Nat × Nat) : XS := ⟨⟨[.v false [.ro b.length (cl .u8 b)], .v false [.int .i64 (a)], .bad, .bad, .bad, .bad, .bad, .v false [.int .i64 (s.2)], .v false [.int .i64 (s.1)], .bad, .bad, .bad, .bad, .bad, .bad, .bad, .bad, .bad, .bad, .bad, .bad, .bad, .bad, .bad, .bad, .bad, .bad, .bad, .bad, .bad, .bad, .bad, .bad, .bad, .bad, .bad, .bad, .bad, .bad, .bad, .bad, .bad, .bad, .bad, .bad, .bad, .bad, .bad, .bad, .bad, .bad, .bad, .bad, .bad, .bad], memL [], []⟩, 0⟩
def Rbad_sGetNum : Option (AE × XS) := some (.ret, ⟨⟨[.bad, .bad, .bad, .bad, .v false [.int .i64 (0)], .v false [.int .i64 (0)], .v false [.bool (false)], .bad, .bad, .bad, .bad, .bad, .bad, .bad, .bad, .bad, .bad, .bad, .bad, .bad, .bad, .bad, .bad, .bad, .bad, .bad, .bad, .bad, .bad, .bad, .bad, .bad, .bad, .bad, .bad, .bad, .bad, .bad, .bad, .bad, .bad, .bad, .bad, .bad, .bad, .bad, .bad, .bad, .bad, .bad, .bad, .bad, .bad, .bad, .bad], memL [], []⟩, 0⟩)
def Rend_sGetNum : Option (AE × XS) := some (.exit 0, ⟨⟨[.bad, .bad, .bad, .bad, .bad, .bad, .bad, .bad, .bad, .bad, .bad, .bad, .bad, .bad, .bad, .bad, .bad, .bad, .bad, .bad, .bad, .bad, .bad, .bad, .bad, .bad, .bad, .bad, .bad, .bad, .bad, .bad, .bad, .bad, .bad, .bad, .bad, .bad, .bad, .bad, .bad, .bad, .bad, .bad, .bad, .bad, .bad, .bad, .bad, .bad, .bad, .bad, .bad, .bad, .bad], memL [], []⟩, 0⟩)
def Rok_sGetNum (n j : Nat) : Option (AE × XS) := some (.ret, ⟨⟨[.bad, .bad, .bad, .bad, .v false [.int .i64 (n)], .v false [.int .i64 (j)], .v false [.bool (true)], .bad, .bad, .bad, .bad, .bad, .bad, .bad, .bad, .bad, .bad, .bad, .bad, .bad, .bad, .bad, .bad, .bad, .bad, .bad, .bad, .bad, .bad, .bad, .bad, .bad, .bad, .bad, .bad, .bad, .bad, .bad, .bad, .bad, .bad, .bad, .bad, .bad, .bad, .bad, .bad, .bad, .bad, .bad, .bad, .bad, .bad, .bad, .bad], memL [], []⟩, 0⟩)
def sgF (a : Nat) : Nat → Nat → List Int → Option (AE × XS)
  | i, _, [] => if i < 5 then Rbad_sGetNum else Rend_sGetNum
  | i, n, x :: r =>
    if i < 5 then
      (if x.toNat < 128 then (if 2147483647 < n + x.toNat % 128 * 128 ^ i ∨ (x.toNat = 0 ∧ 0 < i) then Rbad_sGetNum else Rok_sGetNum (n + x.toNat % 128 * 128 ^ i) (a + (i + 1)))
      else sgF a (i + 1) (n + x.toNat % 128 * 128 ^ i) r)
    else Rend_sGetNum
theorem sgF_or (a : Nat) : ∀ (l : List Int) (i n : Nat), match getF i n l with
    | none => sgF a i n l = Rbad_sGetNum ∨ sgF a i n l = Rend_sGetNum
    | some (q, j) => sgF a i n l = Rok_sGetNum q (a + j) := by
  intro l
  induction l with
  | nil => intro i n; simp only [getF, sgF]; split <;> simp
  | cons x r ih =>
    intro i n
    simp only [getF, sgF]
    by_cases h5 : i < 5
    · simp only [if_pos h5]
      by_cases h1 : x.toNat < 128
      · simp only [if_pos h1]
        by_cases h2 : 2147483647 < n + x.toNat % 128 * 128 ^ i ∨ (x.toNat = 0 ∧ 0 < i)
        · simp only [if_pos h2]; exact .inl trivial
        · simp only [if_neg h2]
      · simp only [if_neg h1]
        exact ih _ _
    · simp only [if_neg h5]; exact .inr trivial
theorem sgF_ne (a : Nat) (l : List Int) (i n : Nat) : ∀ z, sgF a i n l ≠ some (.nrm, z) := by
  intro z
  have := sgF_or a l i n
  split at this
  · rcases this with h | h <;> rw [h] <;> simp [Rbad_sGetNum, Rend_sGetNum]
  · rw [this]; simp [Rok_sGetNum]
theorem or_bits {i n p y : Nat} (hi : i < 5) (hn : n < 128 ^ i) (hp : p = y % 128 * 128 ^ i) : IntKind.i64.wrap ((BitVec.ofInt IntKind.i64.bits (n : Int) ||| BitVec.ofInt IntKind.i64.bits (p : Int)).toNat : Int) = ((n + p : Nat) : Int) := by
  obtain ⟨k1, k2, k3⟩ := step_lt (y := y) hi hn rfl
  have e0 : (128 : Nat) ^ i = 2 ^ (7 * i) := by rw [Nat.pow_mul]
  have e1 : n ||| p = n + p := by
    have h := Nat.two_pow_add_eq_or_of_lt (b := n) (i := 7 * i) (by rw [← e0]; exact hn) (y % 128)
    rw [← e0] at h
    rw [hp, Nat.mul_comm, Nat.or_comm, ← h, Nat.add_comm]
  have e2 : (BitVec.ofInt IntKind.i64.bits (n : Int) ||| BitVec.ofInt IntKind.i64.bits (p : Int)).toNat = n ||| p := by
    rw [BitVec.toNat_or]
    have hn2 : (BitVec.ofInt IntKind.i64.bits (n : Int)).toNat = n := by
      change (BitVec.ofInt 64 (n : Int)).toNat = n
      simp
      omega
    have hp2 : (BitVec.ofInt IntKind.i64.bits (p : Int)).toNat = p := by
      change (BitVec.ofInt 64 (p : Int)).toNat = p
      simp
      omega
    rw [hn2, hp2]
  rw [e2, e1, wrap_id (by omega) (by omega)]
theorem loop_sGetNum (b : List Int) (hB : Bytes b) (hn : b.length ≤ 1048576) (a : Nat) (ha : a ≤ 9223372036854775807) {x : XS} (hx : head true d114_0 x = S_sGetNum b a (0, 0)) : X tab l114_0 x = sgF a 0 0 (b.drop a) := by
  refine loopX (σ := Nat × Nat) (S_sGetNum b a) (fun s => 5 - s.1) (fun s => s.1 ≤ 5 ∧ s.2 < 128 ^ s.1 ∧ sgF a s.1 s.2 (b.drop (a + s.1)) = sgF a 0 0 (b.drop a)) _ (fun ⟨i, n⟩ ⟨hi, hlt, hs⟩ => ?_) (0, 0) ⟨by omega, by simp, rfl⟩ x hx
  simp only at hi hlt hs
  by_cases h5 : i < 5
  · have c1 : (i : Int) < 5 := by omega
    have c0 : ¬ (a : Int) < 0 := by omega
    have c2 : IntKind.i64.wrap ((b.length : Int) - (i : Int)) = (b.length : Int) - (i : Int) := wrap_id (by omega) (by omega)
    cases hl : b.drop (a + i) with
    | nil =>
      have hge : (b.length : Int) - (i : Int) ≤ (a : Int) := by
        have := congrArg List.length hl
        simp at this
        omega
      refine .inr ⟨?_, sgF_ne _ _ _ _⟩
      rw [← hs, hl, sgF, if_pos h5]
      simp (maxSteps := 4000000) -implicitDefEqProofs [b114_0, S_sGetNum, List.take, List.drop, Rbad_sGetNum, c0, c1, c2, hge]
      change _ = _
      kernel_rfl
    | cons x0 r =>
      have hlt' := drop_lt hl
      obtain ⟨y, rfl, hy⟩ := byte_at hB hl
      have c3 : ¬ (b.length : Int) - (i : Int) ≤ (a : Int) := by omega
      have c4 : IntKind.i64.wrap ((a : Int) + (i : Int)) = ((a + i : Nat) : Int) := by rw [wrap_id (by omega) (by omega)]; omega
      have c5 : ((a + i : Nat) : Int) < (b.length : Int) := by omega
      have h2 := cl_at (k := .u8) hl
      have c6 : IntKind.i64.wrap (y : Int) = (y : Int) := wrap_id (by omega) (by omega)
      obtain ⟨k1, k2, k3⟩ := step_lt (y := y) h5 hlt rfl
      have hor := or_bits h5 hlt (rfl : y % 128 * 128 ^ i = y % 128 * 128 ^ i)
      obtain ⟨p, hp⟩ : ∃ p, p = y % 128 * 128 ^ i := ⟨_, rfl⟩
      obtain ⟨q, hq⟩ : ∃ q, q = n + p := ⟨_, rfl⟩
      obtain ⟨s, hsv⟩ : ∃ s, s = 7 * i := ⟨_, rfl⟩
      rw [← hp, ← hq] at hor
      have t0 : IntKind.i64.wrap (7 * (i : Int)) = (s : Int) := by rw [wrap_id (by omega) (by omega)]; omega
      have t0' : ¬ (s : Int) < 0 := by omega
      have t1 : IntKind.i64.wrap ((y : Int).tmod 128 * 2 ^ min s IntKind.i64.bits) = (p : Int) := by
        have e : (y : Int) % 128 = ((y % 128 : Nat) : Int) := by omega
        have e2 : min s IntKind.i64.bits = s := by change min s 64 = s; omega
        have e3 : (2 : Int) ^ s = ((128 ^ i : Nat) : Int) := by rw [hsv, Int.pow_mul, Int.natCast_pow]; rfl
        rw [Int.tmod_eq_emod_of_nonneg (by omega), e, e2, e3, ← Int.natCast_mul, ← hp, wrap_id (by omega) (by omega)]
      have t4 : IntKind.i64.wrap ((i : Int) + 1) = ((i + 1 : Nat) : Int) := by rw [wrap_id (by omega) (by omega)]; omega
      have t5 : IntKind.i64.wrap (((a + i : Nat) : Int) + 1) = ((a + (i + 1) : Nat) : Int) := by rw [wrap_id (by omega) (by omega)]; omega
      have e1 : sgF a i n ((y : Int) :: r) = if y < 128 then (if 2147483647 < q ∨ (y = 0 ∧ 0 < i) then Rbad_sGetNum else Rok_sGetNum q (a + (i + 1))) else sgF a (i + 1) q r := by
        simp only [sgF, if_pos h5, Int.toNat_natCast, ← hp, ← hq]
      rw [hl, e1] at hs
      by_cases hc : y < 128
      · have d1 : (y : Int) < 128 := by omega
        rw [if_pos hc] at hs
        refine .inr ⟨?_, sgF_ne _ _ _ _⟩
        rw [← hs]
        by_cases hz : y = 0
        · subst hz
          have w0 : IntKind.i64.wrap 0 = 0 := wrap_id (by omega) (by omega)
          have hp0 : p = 0 := by rw [hp]; simp
          subst hp0
          obtain rfl : q = n := by omega
          by_cases hi0 : 0 < i
          · have d4 : (0 : Int) < (i : Int) := by omega
            rw [if_pos (.inr ⟨rfl, hi0⟩)]
            simp only [S_sGetNum]
            simp (maxSteps := 4000000) -implicitDefEqProofs [b114_0, List.take, List.drop, Rbad_sGetNum, fromRo, c0, c1, c2, c3, c4, c5, h2, t0, t0', w0, d4, hi0, -Int.natCast_add, -BitVec.toNat_or, -BitVec.ofInt_natCast, -BitVec.toNat_ofInt]
            change _ = _
            kernel_rfl
          · have d4 : ¬ (0 : Int) < (i : Int) := by omega
            have hq0 : q = 0 := by
              obtain rfl : i = 0 := by omega
              simp at hlt
              omega
            have d2 : ¬ (2147483647 : Int) < (q : Int) := by omega
            have hor' : IntKind.i64.wrap ((BitVec.ofInt IntKind.i64.bits (q : Int)).toNat : Int) = (q : Int) := by
              rw [hq0]
              rfl
            have hor'' : IntKind.i64.wrap ((q : Int) % 2 ^ IntKind.i64.bits) = (q : Int) := by
              rw [hq0]
              rfl
            rw [if_neg (by omega)]
            simp only [S_sGetNum]
            simp (maxSteps := 4000000) -implicitDefEqProofs [b114_0, List.take, List.drop, Rok_sGetNum, fromRo, c0, c1, c2, c3, c4, c5, h2, t0, t0', t5, w0, d2, d4, hi0, hor', hor'', -Int.natCast_add, -BitVec.toNat_or, -BitVec.ofInt_natCast, -BitVec.toNat_ofInt]
            change _ = _
            kernel_rfl
        · have d3 : ((y : Int) == 0) = false := by rw [beq_eq_false_iff_ne]; omega
          by_cases hm : 2147483647 < q
          · have d2 : (2147483647 : Int) < (q : Int) := by omega
            rw [if_pos (.inl hm)]
            by_cases hi0 : 0 < i <;>
            · simp only [S_sGetNum]
              simp (maxSteps := 4000000) -implicitDefEqProofs [b114_0, List.take, List.drop, Rbad_sGetNum, fromRo, c0, c1, c2, c3, c4, c5, c6, h2, t0, t0', t1, hor, d1, d2, d3, hi0, -Int.natCast_add, -BitVec.toNat_or, -BitVec.ofInt_natCast, -BitVec.toNat_ofInt]
              change _ = _
              kernel_rfl
          · have d2 : ¬ (2147483647 : Int) < (q : Int) := by omega
            rw [if_neg (by omega)]
            by_cases hi0 : 0 < i <;>
            · simp only [S_sGetNum]
              simp (maxSteps := 4000000) -implicitDefEqProofs [b114_0, List.take, List.drop, Rok_sGetNum, fromRo, c0, c1, c2, c3, c4, c5, c6, h2, t0, t0', t1, t5, hor, d1, d2, d3, hi0, -Int.natCast_add, -BitVec.toNat_or, -BitVec.ofInt_natCast, -BitVec.toNat_ofInt]
              change _ = _
              kernel_rfl
      · have d1 : ¬ (y : Int) < 128 := by omega
        rw [if_neg hc] at hs
        refine .inl ⟨(i + 1, q), ?_, by simp only; omega, by simp only; omega, by simp only; rw [Nat.pow_succ]; omega, by simp only; rw [show a + (i + 1) = a + i + 1 by omega, drop_next hl]; exact hs⟩
        simp only [S_sGetNum]
        simp (maxSteps := 4000000) -implicitDefEqProofs [b114_0, List.take, List.drop, fromRo, c0, c1, c2, c3, c4, c5, c6, h2, t0, t0', t1, t4, hor, d1, -Int.natCast_add, -BitVec.toNat_or, -BitVec.ofInt_natCast, -BitVec.toNat_ofInt]
        change _ = _
        kernel_rfl
  · have c1 : ¬ (i : Int) < 5 := by omega
    refine .inr ⟨?_, sgF_ne _ _ _ _⟩
    rw [← hs]
    have e : sgF a i n (b.drop (a + i)) = Rend_sGetNum := by
      cases b.drop (a + i) with
      | nil => simp only [sgF, if_neg h5]
      | cons x0 r => simp only [sgF, if_neg h5]
    rw [e]
    simp (maxSteps := 4000000) -implicitDefEqProofs [b114_0, S_sGetNum, List.take, List.drop, Rend_sGetNum, c1]
    change _ = _
    kernel_rfl
theorem r_sGetNum (b : List Int) (hB : Bytes b) (hn : b.length ≤ 1048576) (i : Int) (hi : i ≤ 9223372036854775807) : runRO (X tab) tab 114 [.v false [.ro b.length (cl .u8 b)], .v false [.int .i64 i]] = some (getSV (getNum b i), []) := by
  unfold runRO getNum
  by_cases h : i < 0
  · rw [if_pos h]
    have hl : ∀ x, head true d114_0 x = ⟨⟨[.v false [.ro b.length (cl .u8 b)], .v false [.int .i64 (i)], .bad, .bad, .bad, .bad, .bad, .v false [.int .i64 (0)], .v false [.int .i64 (0)], .bad, .bad, .bad, .bad, .bad, .bad, .bad, .bad, .bad, .bad, .bad, .bad, .bad, .bad, .bad, .bad, .bad, .bad, .bad, .bad, .bad, .bad, .bad, .bad, .bad, .bad, .bad, .bad, .bad, .bad, .bad, .bad, .bad, .bad, .bad, .bad, .bad, .bad, .bad, .bad, .bad, .bad, .bad, .bad, .bad, .bad], memL [], []⟩, 0⟩ → X tab l114_0 x = Rbad_sGetNum := by
      intro x hx
      refine loopN 0 (fun _ => ⟨⟨[.v false [.ro b.length (cl .u8 b)], .v false [.int .i64 (i)], .bad, .bad, .bad, .bad, .bad, .v false [.int .i64 (0)], .v false [.int .i64 (0)], .bad, .bad, .bad, .bad, .bad, .bad, .bad, .bad, .bad, .bad, .bad, .bad, .bad, .bad, .bad, .bad, .bad, .bad, .bad, .bad, .bad, .bad, .bad, .bad, .bad, .bad, .bad, .bad, .bad, .bad, .bad, .bad, .bad, .bad, .bad, .bad, .bad, .bad, .bad, .bad, .bad, .bad, .bad, .bad, .bad, .bad], memL [], []⟩, 0⟩) _ (by simp [Rbad_sGetNum]) (fun i hi => absurd hi (by omega)) ?_ (Nat.zero_le _) hx
      simp (maxSteps := 4000000) -implicitDefEqProofs [b114_0, List.take, List.drop, Rbad_sGetNum, h]
      change _ = _
      kernel_rfl
    simp (maxSteps := 4000000) -implicitDefEqProofs [tab114, a114, List.take, List.drop]
    rw [hl _ (by change _ = _; kernel_rfl)]
    simp (maxSteps := 4000000) -implicitDefEqProofs [Rbad_sGetNum, List.take, List.drop, memL, List.range, List.range.loop, getSV]
  · rw [if_neg h]
    obtain ⟨a, rfl⟩ : ∃ a : Nat, i = (a : Int) := ⟨i.toNat, by omega⟩
    rw [Int.toNat_natCast]
    simp (maxSteps := 4000000) -implicitDefEqProofs [tab114, a114, List.take, List.drop]
    rw [loop_sGetNum b hB hn a (by omega) (by change _ = _; kernel_rfl)]
    have ho := sgF_or a (b.drop a) 0 0
    cases hg : getF 0 0 (b.drop a) with
    | none =>
      rw [hg] at ho
      rcases ho with ho | ho <;> rw [ho] <;> simp (maxSteps := 4000000) -implicitDefEqProofs [Rbad_sGetNum, Rend_sGetNum, List.take, List.drop, memL, List.range, List.range.loop, getSV]
    | some p =>
      obtain ⟨n, j⟩ := p
      rw [hg] at ho
      simp only at ho
      rw [ho]
      simp (maxSteps := 4000000) -implicitDefEqProofs [Rok_sGetNum, List.take, List.drop, memL, List.range, List.range.loop, getSV]

theorem putN_bytes : ∀ (n : Nat), Bytes (putN n) := by
  intro n
  have hi : ∀ (n : Nat), Bytes (initN n) := by
    intro n
    induction n using Nat.strongRecOn with
    | _ n ih =>
      by_cases h : n > 127
      · rw [initN_big h]
        intro x hx
        rcases List.mem_cons.1 hx with rfl | hx
        · omega
        · exact ih _ (by omega) x hx
      · rw [initN_small h]; intro x hx; simp at hx
  intro x hx
  rcases List.mem_append.1 hx with hx | hx
  · exact hi n x hx
  · have := lastN_lt n
    simp at hx
    omega
theorem Bytes.app {a b : List Int} (ha : Bytes a) (hb : Bytes b) : Bytes (a ++ b) := by
  intro x hx
  rcases List.mem_append.1 hx with h | h
  · exact ha x h
  · exact hb x h
theorem sumF_bound : ∀ (l : List Int), Bytes l → ∀ x y : Int, 0 ≤ x → x < 65521 → 0 ≤ y → y < 65521 → 0 ≤ (sumF x y l).1 ∧ (sumF x y l).1 < 65521 ∧ 0 ≤ (sumF x y l).2 ∧ (sumF x y l).2 < 65521 := by
  intro l
  induction l with
  | nil => intro _ x y h1 h2 h3 h4; exact ⟨h1, h2, h3, h4⟩
  | cons c r ih =>
    intro hb x y h1 h2 h3 h4
    have hc := hb c (by simp)
    have hr : Bytes r := fun z hz => hb z (by simp [hz])
    have e1 : IntKind.i64.wrap c = c := wrap_id (by omega) (by omega)
    have e2 : IntKind.i64.wrap (x + c) = x + c := wrap_id (by omega) (by omega)
    have s1 : 0 ≤ sumStep x c ∧ sumStep x c < 65521 := by
      unfold sumStep
      rw [e1, e2, Int.tmod_eq_emod_of_nonneg (by omega)]
      omega
    have e3 : IntKind.i64.wrap (y + sumStep x c) = y + sumStep x c := wrap_id (by omega) (by omega)
    have s2 : 0 ≤ sumStep2 y (sumStep x c) ∧ sumStep2 y (sumStep x c) < 65521 := by
      unfold sumStep2
      rw [e3, Int.tmod_eq_emod_of_nonneg (by omega)]
      omega
    exact ih hr _ _ s1.1 s1.2 s2.1 s2.2
theorem sumOf_nat {l : List Int} (h : Bytes l) : ∃ n : Nat, sumOf l = (n : Int) ∧ n < 8589934592 := by
  obtain ⟨h1, h2, h3, h4⟩ := sumF_bound l h 1 0 (by omega) (by omega) (by omega) (by omega)
  refine ⟨(sumOf l).toNat, ?_, ?_⟩ <;> unfold sumOf <;> rw [wrap_id (x := (sumF 1 0 l).2 * 65536) (by omega) (by omega), wrap_id (by omega) (by omega)] <;> omega
def fourN (n : Nat) : List Int := [((n % 256 : Nat) : Int), ((n / 256 % 256 : Nat) : Int), ((n / 65536 % 256 : Nat) : Int), ((n / 16777216 % 256 : Nat) : Int)]
theorem u8_mod (n : Nat) : IntKind.u8.wrap (n : Int) = ((n % 256 : Nat) : Int) := by simp only [IntKind.wrap, IntKind.bits, IntKind.signed]; simp
theorem shr_nat (n k : Nat) (hk : k ≤ 64) : (n : Int).fdiv (2 ^ min k IntKind.i64.bits) = ((n / 2 ^ k : Nat) : Int) := by
  have e : min k IntKind.i64.bits = k := by change min k 64 = k; omega
  rw [e, Int.fdiv_eq_ediv_of_nonneg _ (Int.pow_nonneg (by omega)), Int.natCast_ediv, Int.natCast_pow]
  rfl
theorem and_255 (n : Nat) (h : n < 9223372036854775808) : IntKind.u8.wrap (IntKind.i64.wrap ((BitVec.ofInt IntKind.i64.bits (n : Int) &&& BitVec.ofInt IntKind.i64.bits 255).toNat : Int)) = ((n % 256 : Nat) : Int) := by
  have e : (BitVec.ofInt IntKind.i64.bits (n : Int) &&& BitVec.ofInt IntKind.i64.bits 255).toNat = n % 256 := by
    change (BitVec.ofInt 64 (n : Int) &&& BitVec.ofInt 64 255).toNat = n % 256
    rw [BitVec.toNat_and]
    have e1 : (BitVec.ofInt 64 (n : Int)).toNat = n := by simp; omega
    have e2 : (BitVec.ofInt 64 255).toNat = 255 := by rfl
    rw [e1, e2]
    exact Nat.and_two_pow_sub_one_eq_mod n 8
  rw [e, wrap_id (by omega) (by omega), u8_mod, Nat.mod_mod]
theorem r_four (n : Nat) (h : n < 8589934592) : runRO (X tab) tab 123 [.v false [.int .i64 n]] = some (.v false [.sl 0 [] 0 4], [.row 1 (cl .u8 (fourN n))]) := by
  have h1 := shr_nat n 8 (by omega)
  have h2 := shr_nat n 16 (by omega)
  have h3 := shr_nat n 24 (by omega)
  have e1 : (2 : Nat) ^ 8 = 256 := rfl
  have e2 : (2 : Nat) ^ 16 = 65536 := rfl
  have e3 : (2 : Nat) ^ 24 = 16777216 := rfl
  rw [e1] at h1
  rw [e2] at h2
  rw [e3] at h3
  have w1 := u8_mod n
  have w2 := u8_mod (n / 256)
  have w3 := u8_mod (n / 65536)
  have w4 := u8_mod (n / 16777216)
  unfold runRO fourN
  generalize n / 256 = n1 at *
  generalize n / 65536 = n2 at *
  generalize n / 16777216 = n3 at *
  generalize n % 256 = q0 at *
  generalize n1 % 256 = q1 at *
  generalize n2 % 256 = q2 at *
  generalize n3 % 256 = q3 at *
  simp (maxSteps := 4000000) -implicitDefEqProofs [tab123, a123, List.take, List.drop, upd, rest, kill, mapMem, memL, List.range, List.range.loop, h1, h2, h3, w1, w2, w3, w4, cl]
theorem r_l4Sum (n : Nat) (h : n < 8589934592) : runRO (X tab) tab 110 [.v false [.int .i64 n]] = some (.v false [.sl 0 [] 0 4], [.row 1 (cl .u8 (fourN n))]) := by
  have h1 := shr_nat n 8 (by omega)
  have h2 := shr_nat n 16 (by omega)
  have h3 := shr_nat n 24 (by omega)
  have e1 : (2 : Nat) ^ 8 = 256 := rfl
  have e2 : (2 : Nat) ^ 16 = 65536 := rfl
  have e3 : (2 : Nat) ^ 24 = 16777216 := rfl
  rw [e1] at h1
  rw [e2] at h2
  rw [e3] at h3
  have w1 := and_255 n (by omega)
  have w2 := and_255 (n / 256) (by omega)
  have w3 := and_255 (n / 65536) (by omega)
  have w4 := and_255 (n / 16777216) (by omega)
  unfold runRO fourN
  generalize n / 256 = n1 at *
  generalize n / 65536 = n2 at *
  generalize n / 16777216 = n3 at *
  generalize n % 256 = q0 at *
  generalize n1 % 256 = q1 at *
  generalize n2 % 256 = q2 at *
  generalize n3 % 256 = q3 at *
  simp (maxSteps := 4000000) -implicitDefEqProofs [tab110, a110, List.take, List.drop, upd, rest, kill, mapMem, memL, List.range, List.range.loop, h1, h2, h3, w1, w2, w3, w4, cl, -BitVec.toNat_and, -BitVec.ofInt_natCast, -BitVec.toNat_ofInt, -BitVec.ofInt_ofNat, -BitVec.reduceOfInt]
def putAll : List Int → List Int
  | [] => []
  | y :: r => putN y.toNat ++ putAll r
def S_putNums (l : List Int) (s : Nat × List Int) : XS := ⟨⟨[.bad, .bad, .bad, .v false [.sl 0 [] 0 s.2.length], .bad, .bad, .bad, .v false [.ro l.length (cl .i64 l)], .v false [.int .i64 (l.length)], .v false [.int .i64 (s.1)], .bad, .bad, .bad, .bad, .bad, .bad, .bad, .bad, .bad], memL [some (.row 1 (cl .u8 s.2))], []⟩, 1⟩
def Z_putNums (a : List Int) : XS := ⟨⟨[.bad, .bad, .bad, .v false [.sl 0 [] 0 a.length], .bad, .bad, .bad, .bad, .bad, .bad, .bad, .bad, .bad, .bad, .bad, .bad, .bad, .bad, .bad], memL [some (.row 1 (cl .u8 a))], []⟩, 1⟩
theorem loop_putNums (l : List Int) (hl : l.length ≤ 1048576) (hr : ∀ x ∈ l, 0 ≤ x ∧ x ≤ 2147483647) {x : XS} (hx : head true d126_0 x = S_putNums l (0, [])) : X tab l126_0 x = some (.exit 0, Z_putNums (putAll l)) := by
  refine loopX (σ := Nat × List Int) (S_putNums l) (fun s => l.length - s.1) (fun s => s.1 ≤ l.length ∧ s.2.length ≤ 5 * s.1 ∧ s.2 ++ putAll (l.drop s.1) = putAll l) _ (fun ⟨i, acc⟩ ⟨hi, hlen, hs⟩ => ?_) (0, []) ⟨Nat.zero_le _, by simp, rfl⟩ x hx
  simp only at hi hlen hs
  cases hd : l.drop i with
  | nil =>
    obtain rfl := drop_end hd hi
    rw [hd, putAll, List.append_nil] at hs
    rw [← hs]
    refine .inr ⟨?_, by simp⟩
    simp (maxSteps := 4000000) -implicitDefEqProofs [b126_0, S_putNums, List.take, List.drop, Z_putNums]
    change _ = _
    kernel_rfl
  | cons y r =>
    have hi' := drop_lt hd
    have hm : y ∈ l := List.mem_of_mem_drop (i := i) (by rw [hd]; simp)
    obtain ⟨n, rfl⟩ : ∃ n : Nat, y = (n : Int) := ⟨y.toNat, by have := hr y hm; omega⟩
    have hn : n ≤ 2147483647 := by have := hr _ hm; omega
    have h1 : (0 ≤ (i : Int) ∧ (i : Int) < (l.length : Int)) := by omega
    have h2 := cl_at (k := .i64) hd
    have h4 := wrap_next hi' (show l.length ≤ 281474976710656 by omega)
    have h5 := r_PutNum n hn
    have h6 : ¬ (putN n).length = 0 := by simp [putN]
    have h6' : putN n ≠ [] := fun e => h6 (by rw [e]; rfl)
    have h7 := putN_five hn
    have h8 : acc.length + (putN n).length ≤ 140737488355328 := by omega
    rw [hd] at hs
    refine .inl ⟨(i + 1, acc ++ putN n), ?_, by simp only; omega, hi', by simp; omega, by simp only [drop_next hd, List.append_assoc]; exact hs⟩
    simp only [S_putNums, List.length_append, ← cl_app]
    generalize putN n = c at *
    simp (maxSteps := 4000000) -implicitDefEqProofs [b126_0, List.take, List.drop, upd, rest, kill, mapMem, List.range, List.range.loop, h1, h2, h4, h5, h6, h6', h8, hi', cl_self, cl_length, cl_flat, -Int.natCast_add]
    change _ = _
    kernel_rfl
theorem r_putNums (l : List Int) (hl : l.length ≤ 1048576) (hr : ∀ x ∈ l, 0 ≤ x ∧ x ≤ 2147483647) : runRO (X tab) tab 126 [.v false [.ro l.length (cl .i64 l)]] = some (.v false [.sl 0 [] 0 (putAll l).length], [.row 1 (cl .u8 (putAll l))]) := by
  unfold runRO
  simp (maxSteps := 4000000) -implicitDefEqProofs [tab126, a126, List.take, List.drop, upd, rest, kill, mapMem]
  rw [loop_putNums l hl hr (by change _ = _; kernel_rfl)]
  simp (maxSteps := 4000000) -implicitDefEqProofs [Z_putNums, List.take, List.drop, upd, memL, List.range, List.range.loop]
def turnOk (a o n : Int) : Bool := rng a 0 3 && rng o (-1) 3 && !(a == o) && rng n 1 9999
def turnP (a o n : Int) : List Int := putN n.toNat ++ (putN a.toNat ++ putN (o + 1).toNat)
def turnB (a o n : Int) : List Int := turnP a o n ++ fourN (sumOf (turnP a o n)).toNat
theorem turnP_bytes (a o n : Int) : Bytes (turnP a o n) := (putN_bytes _).app ((putN_bytes _).app (putN_bytes _))
theorem turn_facts {a o n : Int} (h : turnOk a o n = true) : 0 ≤ a ∧ a ≤ 3 ∧ -1 ≤ o ∧ o ≤ 3 ∧ 1 ≤ n ∧ n ≤ 9999 := by
  simp only [turnOk, Bool.and_eq_true] at h
  have h1 := rng_iff.1 h.1.1.1
  have h2 := rng_iff.1 h.1.1.2
  have h3 := rng_iff.1 h.2
  omega
theorem turnP_length {a o n : Int} (h : turnOk a o n = true) : (turnP a o n).length ≤ 15 := by
  obtain ⟨_, _, _, _, _, _⟩ := turn_facts h
  have h1 := putN_five (n := n.toNat) (by omega)
  have h2 := putN_five (n := a.toNat) (by omega)
  have h3 := putN_five (n := (o + 1).toNat) (by omega)
  simp [turnP]
  omega
theorem turnB_length {a o n : Int} (h : turnOk a o n = true) : (turnB a o n).length ≤ 19 := by
  have := turnP_length h
  simp [turnB, fourN]
  omega
theorem turn_parts {a o n : Int} (h : turnOk a o n = true) : rng a 0 3 = true ∧ rng o (-1) 3 = true ∧ (a == o) = false ∧ rng n 1 9999 = true := by
  simp only [turnOk, Bool.and_eq_true, Bool.not_eq_true'] at h
  exact ⟨h.1.1.1, h.1.1.2, h.1.2, h.2⟩

/-- Are two rows of bytes the same? -/
def eqB (l m : List Int) : Bool := (strOfNums l).toList == (strOfNums m).toList
theorem r_BytesEqual (l m : List Int) : runRO (X tab) tab 118 [.v false [.ro l.length (cl .u8 l)], .v false [.ro m.length (cl .u8 m)]] = some (.v false [.bool (eqB l m)], []) := by
  unfold runRO
  simp (maxSteps := 4000000) -implicitDefEqProofs [tab118, a118, List.take, List.drop, List.range, List.range.loop, memL, binStr, cl_self, cl_length, cl_nums, eqB]
def hasPre (l m : List Int) : Bool := decide (m.length ≤ l.length) && eqB (l.take m.length) m
theorem t_num_no (t : Nat) (ax : A1) (i : Int) (sl : List SV) (m : Mem) (up : List SV) (nx : Nat) (hm : m t = some (.box [ax, .int .i64 i, .bool false])) :
    runThru (X tab) tab 121 [.v false [.pr t [] 0]] ⟨⟨sl, m, up⟩, nx⟩ = some (.v false [.int .i64 0], ⟨⟨sl, m, up⟩, nx + 448⟩) := by
  unfold runThru
  simp (maxSteps := 4000000) -implicitDefEqProofs [tab121, a121, List.take, List.drop, hm, resOf, resSV]
theorem t_num (t : Nat) (b : List Int) (hB : Bytes b) (hn : b.length ≤ 1048576) (i : Int) (hi : i ≤ 9223372036854775807) (sl : List SV) (m : Mem) (up : List SV) (nx : Nat) (hm : m t = some (.box [.ro b.length (cl .u8 b), .int .i64 i, .bool true]))
    (hf : ∀ j, freshB m (nx + j) = true) :
    runThru (X tab) tab 121 [.v false [.pr t [] 0]] ⟨⟨sl, m, up⟩, nx⟩ = (match getNum b i with
      | some (n, j) => some (.v false [.int .i64 n], ⟨⟨sl, upd m t (some (.box [.ro b.length (cl .u8 b), .int .i64 j, .bool true])), up⟩, nx + 2176⟩)
      | none => some (.v false [.int .i64 0], ⟨⟨sl, upd m t (some (.box [.ro b.length (cl .u8 b), .int .i64 0, .bool false])), up⟩, nx + 2176⟩)) := by
  have hg := r_GetNum b hB hn i hi
  unfold runThru
  cases h : getNum b i with
  | none =>
    rw [h] at hg
    simp only [getSV] at hg
    simp (maxSteps := 4000000) -implicitDefEqProofs [tab121, a121, List.take, List.drop, upd, List.range, List.range.loop, hm, hf, hg, spl, upd_upd, Nat.add_assoc, resOf, resSV]
  | some p =>
    obtain ⟨n, j⟩ := p
    rw [h] at hg
    simp only [getSV] at hg
    simp (maxSteps := 4000000) -implicitDefEqProofs [tab121, a121, List.take, List.drop, upd, List.range, List.range.loop, hm, hf, hg, spl, upd_upd, Nat.add_assoc, resOf, resSV]
theorem getF_bound : ∀ (l : List Int) (i n : Nat) {q j : Nat}, getF i n l = some (q, j) → i < j ∧ j ≤ i + l.length ∧ q ≤ 2147483647 := by
  intro l
  induction l with
  | nil => intro i n q j h; cases h
  | cons x r ih =>
    intro i n q j h
    simp only [getF] at h
    split at h
    · split at h
      · split at h
        · cases h
        · rename_i hh
          simp only [Option.some.injEq, Prod.mk.injEq] at h
          simp only [List.length_cons]
          omega
      · have := ih _ _ h
        simp only [List.length_cons]
        omega
    · cases h
theorem getNum_bound {b : List Int} {i : Int} {n j : Nat} (h : getNum b i = some (n, j)) : 0 ≤ i ∧ i < b.length ∧ j ≤ b.length ∧ n ≤ 2147483647 ∧ i < j := by
  unfold getNum at h
  split at h
  · cases h
  · obtain ⟨⟨q, k⟩, h1, h2⟩ := Option.map_eq_some_iff.1 h
    simp only [Prod.mk.injEq] at h2
    have := getF_bound _ _ _ h1
    simp at this
    omega
theorem t_numX (t : Nat) (b : List Int) (hB : Bytes b) (hn : b.length ≤ 1048576) (i : Int) (hi : i ≤ 9223372036854775807) (sl : List SV) (up : List SV) (nx : Nat) (h : t < nx) :
    runThru (X tab) tab 121 [.v false [.pr t [] 0]] ⟨⟨sl, upd (fun _ => none) t (some (.box [.ro b.length (cl .u8 b), .int .i64 i, .bool true])), up⟩, nx⟩ = (match getNum b i with
      | some (n, j) => some (.v false [.int .i64 n], ⟨⟨sl, upd (fun _ => none) t (some (.box [.ro b.length (cl .u8 b), .int .i64 j, .bool true])), up⟩, nx + 2176⟩)
      | none => some (.v false [.int .i64 0], ⟨⟨sl, upd (fun _ => none) t (some (.box [.ro b.length (cl .u8 b), .int .i64 0, .bool false])), up⟩, nx + 2176⟩)) := by
  have hm : upd (fun _ => none) t (some (.box [.ro b.length (cl .u8 b), .int .i64 i, .bool true])) t = some (.box [.ro b.length (cl .u8 b), .int .i64 i, .bool true]) := by simp [upd]
  rw [t_num t b hB hn i hi sl _ up nx hm (fun j => by rw [freshB_upd (.inl (by omega)), freshB_none])]
  cases getNum b i with
  | none => simp only [upd_upd]
  | some p => simp only [upd_upd]
theorem t_numX_no (t : Nat) (ax : A1) (i : Int) (sl up : List SV) (nx : Nat) :
    runThru (X tab) tab 121 [.v false [.pr t [] 0]] ⟨⟨sl, upd (fun _ => none) t (some (.box [ax, .int .i64 i, .bool false])), up⟩, nx⟩ = some (.v false [.int .i64 0], ⟨⟨sl, upd (fun _ => none) t (some (.box [ax, .int .i64 i, .bool false])), up⟩, nx + 448⟩) :=
  t_num_no t ax i sl _ up nx (by simp [upd])
/-- What a turn is read as. -/
def turnOf (b : List Int) (i : Int) : Option (Nat × Nat × Nat × List Int) :=
  match getNum b i with
  | none => none
  | some (n, k) => match getNum b k with
    | none => none
    | some (a, j) => match getNum b j with
      | none => none
      | some (c, _) => if (turnOk a (c - 1) n && hasPre (b.drop i.toNat) (turnB a (c - 1) n)) = true then some (n, a, c, turnB a (c - 1) n) else none
def turnSV (i : Int) : Option (Nat × Nat × Nat × List Int) → SV
  | none => .tup [(false, [.int .i64 0]), (false, [.int .i64 0]), (false, [.int .i64 0]), (false, [.int .i64 0]), (false, [.bool false])]
  | some (n, a, c, T) => .tup [(false, [.int .i64 a]), (false, [.int .i64 ((c : Int) - 1)]), (false, [.int .i64 n]), (false, [.int .i64 (i + T.length)]), (false, [.bool true])]
theorem bytes_wf {b : List Int} (h : ∀ x ∈ b, (Lit.int .u8 x).wf = true) : Bytes b := by
  intro x hx
  have := h x hx
  have e1 : IntKind.u8.min = 0 := rfl
  have e2 : IntKind.u8.max = 255 := rfl
  simp [Lit.wf, e1, e2] at this
  exact this

/-- A reader: where it stands, and whether all was well; z tells where it stands behind what cannot be read. -/
def numZ (z : Nat → Nat) (b : List Int) (s : Nat × Bool) : Nat × (Nat × Bool) :=
  if s.2 = true then (match getNum b (s.1 : Int) with | none => (0, (z s.1, false)) | some (x, k) => (x, (k, true))) else (0, s)
def rdZ (z : Nat → Nat) (b : List Int) : Nat → Nat × Bool → List Int × (Nat × Bool)
  | 0, s => ([], s)
  | c + 1, s => if s.2 = true then (((numZ z b s).1 : Int) :: (rdZ z b c (numZ z b s).2).1, (rdZ z b c (numZ z b s).2).2) else ([], s)
def listZ (z : Nat → Nat) (b : List Int) (s : Nat × Bool) : List Int × (Nat × Bool) := rdZ z b (numZ z b s).1 (numZ z b s).2
def Ins (b : List Int) (s : Nat × Bool) : Prop := s.1 ≤ b.length
theorem numZ_ins {z : Nat → Nat} (hz : ∀ i, z i ≤ i) {b : List Int} {s : Nat × Bool} (h : Ins b s) : Ins b (numZ z b s).2 ∧ (numZ z b s).1 ≤ 2147483647 ∧ ((numZ z b s).2.2 = true → s.2 = true ∧ s.1 < (numZ z b s).2.1) := by
  unfold numZ Ins at *
  split
  · rename_i hs
    cases hg : getNum b (s.1 : Int) with
    | none => simp only; have := hz s.1; exact ⟨by omega, by omega, fun h => by cases h⟩
    | some p =>
      obtain ⟨x, k⟩ := p
      have hb := getNum_bound hg
      simp only
      exact ⟨hb.2.2.1, hb.2.2.2.1, fun _ => ⟨hs, by omega⟩⟩
  · rename_i hs
    simp only
    exact ⟨h, by omega, fun h => absurd h hs⟩
theorem rdZ_stop {z : Nat → Nat} {b : List Int} {c : Nat} {s : Nat × Bool} (h : s.2 = false) : rdZ z b c s = ([], s) := by
  cases c with
  | zero => rfl
  | succ c => simp only [rdZ]; rw [if_neg (by simp [h])]
theorem rdZ_ins {z : Nat → Nat} (hz : ∀ i, z i ≤ i) {b : List Int} : ∀ {c : Nat} {s : Nat × Bool}, Ins b s → Ins b (rdZ z b c s).2 ∧ (rdZ z b c s).1.length ≤ b.length - s.1 + 1 ∧ (rdZ z b c s).1.length ≤ c ∧ ((rdZ z b c s).2.2 = true → s.2 = true ∧ (rdZ z b c s).1.length = c ∧ s.1 ≤ (rdZ z b c s).2.1) ∧ ∀ x ∈ (rdZ z b c s).1, 0 ≤ x ∧ x ≤ 2147483647 := by
  intro c
  induction c with
  | zero => intro s h; exact ⟨h, by simp [rdZ], by simp [rdZ], fun h => ⟨h, rfl, Nat.le_refl _⟩, by simp [rdZ]⟩
  | succ c ih =>
    intro s h
    simp only [rdZ]
    by_cases hs : s.2 = true
    · rw [if_pos hs]
      obtain ⟨h1, h2, h3⟩ := numZ_ins hz h
      obtain ⟨q1, q2, q3, q4, q5⟩ := ih h1
      refine ⟨q1, ?_, by simp only [List.length_cons]; omega, fun hh => ?_, ?_⟩
      · simp only [List.length_cons]
        by_cases hk : (numZ z b s).2.2 = true
        · have := (h3 hk).2
          unfold Ins at h1
          omega
        · rw [rdZ_stop (by simpa using hk)]
          simp
      · obtain ⟨q6, q7, q8⟩ := q4 hh
        have := (h3 q6).2
        exact ⟨hs, by simp only [List.length_cons, q7], by simp only; omega⟩
      · intro x hx
        rcases List.mem_cons.1 hx with rfl | hx
        · omega
        · exact q5 x hx
    · rw [if_neg hs]
      exact ⟨h, by simp, by simp, fun h => absurd h hs, by simp⟩
theorem listZ_ins {z : Nat → Nat} (hz : ∀ i, z i ≤ i) {b : List Int} {s : Nat × Bool} (h : Ins b s) : Ins b (listZ z b s).2 ∧ (listZ z b s).1.length ≤ b.length + 1 ∧ (∀ x ∈ (listZ z b s).1, 0 ≤ x ∧ x ≤ 2147483647) := by
  obtain ⟨h1, h2, h3⟩ := numZ_ins hz h
  obtain ⟨q1, q2, q3, q4, q5⟩ := rdZ_ins hz (c := (numZ z b s).1) h1
  exact ⟨q1, by unfold listZ; omega, q5⟩
/-- Two readers read alike. -/
def Alike (s s' : Nat × Bool) : Prop := s.2 = s'.2 ∧ (s.2 = true → s = s')
theorem numZ_alike {z z' : Nat → Nat} {b : List Int} {s s' : Nat × Bool} (h : Alike s s') : (numZ z b s).1 = (numZ z' b s').1 ∧ Alike (numZ z b s).2 (numZ z' b s').2 := by
  unfold numZ
  by_cases hs : s.2 = true
  · have e := h.2 hs
    subst e
    rw [if_pos hs, if_pos hs]
    cases getNum b (s.1 : Int) with
    | none => exact ⟨rfl, rfl, fun h => by cases h⟩
    | some p => exact ⟨rfl, rfl, fun _ => rfl⟩
  · rw [if_neg hs, if_neg (by rw [← h.1]; exact hs)]
    exact ⟨rfl, h⟩
theorem rdZ_alike {z z' : Nat → Nat} {b : List Int} : ∀ {c : Nat} {s s' : Nat × Bool}, Alike s s' → (rdZ z b c s).1 = (rdZ z' b c s').1 ∧ Alike (rdZ z b c s).2 (rdZ z' b c s').2 := by
  intro c
  induction c with
  | zero => intro s s' h; exact ⟨rfl, h⟩
  | succ c ih =>
    intro s s' h
    simp only [rdZ]
    by_cases hs : s.2 = true
    · rw [if_pos hs, if_pos (by rw [← h.1]; exact hs)]
      obtain ⟨h1, h2⟩ := numZ_alike (z := z) (z' := z') (b := b) h
      obtain ⟨q1, q2⟩ := ih h2
      exact ⟨by simp only [h1, q1], q2⟩
    · rw [if_neg hs, if_neg (by rw [← h.1]; exact hs)]
      exact ⟨rfl, h⟩
theorem listZ_alike {z z' : Nat → Nat} {b : List Int} {s s' : Nat × Bool} (h : Alike s s') : (listZ z b s).1 = (listZ z' b s').1 ∧ Alike (listZ z b s).2 (listZ z' b s').2 := by
  obtain ⟨h1, h2⟩ := numZ_alike (z := z) (z' := z') (b := b) h
  unfold listZ
  rw [h1]
  exact rdZ_alike h2
/-! The variable of a reader. -/
def rdA (b : List Int) (s : Nat × Bool) : List A1 := [.ro b.length (cl .u8 b), .int .i64 s.1, .bool s.2]
def z0 (_ : Nat) : Nat := 0
def zI (i : Nat) : Nat := i
theorem t_numZ (t : Nat) (b : List Int) (hB : Bytes b) (hn : b.length ≤ 1048576) (s : Nat × Bool) (hs : Ins b s) (sl : List SV) (m : Mem) (up : List SV) (nx : Nat) (hm : m t = some (.box (rdA b s)))
    (hf : ∀ j, freshB m (nx + j) = true) : ∃ c,
    runThru (X tab) tab 121 [.v false [.pr t [] 0]] ⟨⟨sl, m, up⟩, nx⟩ = some (.v false [.int .i64 (numZ z0 b s).1], ⟨⟨sl, upd m t (some (.box (rdA b (numZ z0 b s).2))), up⟩, nx + c⟩) := by
  unfold Ins at hs
  obtain ⟨i, ok⟩ := s
  simp only at hs
  unfold numZ
  cases ok with
  | false =>
    refine ⟨448, ?_⟩
    rw [if_neg (by simp)]
    rw [upd_self (by exact hm)]
    exact t_num_no t _ i sl m up nx hm
  | true =>
    refine ⟨2176, ?_⟩
    rw [if_pos rfl]
    have := t_num t b hB hn (i : Int) (by omega) sl m up nx hm hf
    cases hg : getNum b (i : Int) with
    | none => rw [hg] at this; exact this
    | some p => rw [hg] at this; exact this

def numC (ok : Bool) : Nat := if ok = true then 2176 else 448
theorem t_numZ' (t : Nat) (b : List Int) (hB : Bytes b) (hn : b.length ≤ 1048576) (s : Nat × Bool) (hs : Ins b s) (sl : List SV) (m : Mem) (up : List SV) (nx : Nat) (hm : m t = some (.box (rdA b s)))
    (hf : ∀ j, freshB m (nx + j) = true) :
    runThru (X tab) tab 121 [.v false [.pr t [] 0]] ⟨⟨sl, m, up⟩, nx⟩ = some (.v false [.int .i64 (numZ z0 b s).1], ⟨⟨sl, upd m t (some (.box (rdA b (numZ z0 b s).2))), up⟩, nx + numC s.2⟩) := by
  unfold Ins at hs
  obtain ⟨i, ok⟩ := s
  simp only at hs
  unfold numZ
  cases ok with
  | false =>
    rw [if_neg (by simp)]
    rw [upd_self (by exact hm)]
    exact t_num_no t _ i sl m up nx hm
  | true =>
    rw [if_pos rfl]
    have := t_num t b hB hn (i : Int) (by omega) sl m up nx hm hf
    cases hg : getNum b (i : Int) with
    | none => rw [hg] at this; exact this
    | some p => rw [hg] at this; exact this
/-! The program's. -/
def S_lst (b : List Int) (n : Nat) (s : Nat × List Int × (Nat × Bool)) : XS := ⟨⟨[.v false [.pr 0 [] 0], .bad, .bad, .v false [.sl 1 [] 0 s.2.1.length], .v false [.int .i64 (n)], .v false [.int .i64 (s.1)], .bad, .bad, .bad, .bad, .bad, .bad, .bad, .bad, .bad, .bad, .bad, .bad, .bad, .bad, .bad, .bad, .bad, .bad, .bad, .bad, .bad, .bad], memL [some (.box (rdA b s.2.2)), some (.row 1 (cl .i64 s.2.1))], [.v false [.pr 0 [] 0]]⟩, 2⟩
def Z_lst (b : List Int) (r : List Int × (Nat × Bool)) : XS := ⟨⟨[.bad, .bad, .bad, .v false [.sl 0 [] 0 r.1.length], .bad, .bad, .bad, .bad, .bad, .bad, .bad, .bad, .bad, .bad, .bad, .bad, .bad, .bad, .bad, .bad, .bad, .bad, .bad, .bad, .bad, .bad, .bad, .bad], memL [some (.row 1 (cl .i64 r.1)), some (.box (rdA b r.2))], [.v false [.pr 1 [] 0]]⟩, 2⟩
theorem loop_lst (b : List Int) (hB : Bytes b) (hn : b.length ≤ 1048576) (n : Nat) (hN : n ≤ 2147483647) (s0 : Nat × Bool) (h0 : Ins b s0) {x : XS} (hx : head true d120_0 x = S_lst b n (0, [], s0)) :
    X tab l120_0 x = some (.exit 0, Z_lst b (rdZ z0 b n s0)) := by
  have hz : ∀ i, z0 i ≤ i := fun i => Nat.zero_le _
  refine loopX (σ := Nat × List Int × (Nat × Bool)) (S_lst b n) (fun s => n - s.1) (fun s => s.1 ≤ n ∧ s.2.1.length ≤ s.1 ∧ Ins b s.2.2 ∧ s.2.1 ++ (rdZ z0 b (n - s.1) s.2.2).1 = (rdZ z0 b n s0).1 ∧ (rdZ z0 b (n - s.1) s.2.2).2 = (rdZ z0 b n s0).2) _ (fun ⟨j, acc, st⟩ ⟨hj, hlen, hi, hs1, hs2⟩ => ?_) (0, [], s0) ⟨Nat.zero_le _, by simp, h0, by simp, by simp⟩ x hx
  simp only at hj hlen hi hs1 hs2
  obtain ⟨i, ok⟩ := st
  cases ok with
  | false =>
    rw [rdZ_stop rfl] at hs1 hs2
    rw [List.append_nil] at hs1
    have e : rdZ z0 b n s0 = (acc, (i, false)) := Prod.ext hs1.symm hs2.symm
    rw [e]
    refine .inr ⟨?_, by simp⟩
    by_cases hjn : (j : Int) < (n : Int) <;>
    · simp (maxSteps := 4000000) -implicitDefEqProofs [b120_0, S_lst, rdA, List.take, List.drop, upd, hjn, Z_lst]
      change _ = _
      kernel_rfl
  | true =>
    by_cases hjn : j < n
    · have h1 : (j : Int) < (n : Int) := by omega
      have h4 := wrap_next hjn (show n ≤ 281474976710656 by omega)
      have a1 : (acc.length + 1) * 8 ≤ 140737488355328 := by omega
      have a2 : (cl .i64 acc).length = acc.length := cl_length
      obtain ⟨c, hc⟩ : ∃ c, n - j = c + 1 := ⟨n - j - 1, by omega⟩
      have hc' : n - (j + 1) = c := by omega
      have hnum := fun sl up nx (h : 2 ≤ nx) => t_numZ' 0 b hB hn (i, true) hi sl (memL [some (.box [.ro b.length (cl .u8 b), .int .i64 i, .bool true]), some (.row 1 (cl .i64 acc))]) up nx rfl (fun q => freshB_memL (by simp; omega))
      have hins := (numZ_ins hz hi).1
      rw [hc] at hs1 hs2
      simp only [rdZ, if_true] at hs1 hs2
      generalize numZ z0 b (i, true) = q at *
      obtain ⟨v, i', ok'⟩ := q
      simp only [rdA, numC, if_true] at hnum
      simp only at hins
      refine .inl ⟨(j + 1, acc ++ [(v : Int)], (i', ok')), ?_, by simp only; omega, by simp only; omega, by simp; omega, hins, by simp only [hc']; rw [List.append_assoc]; exact hs1, by simp only [hc']; exact hs2⟩
      simp only [S_lst, rdA, List.length_append, List.length_singleton]
      simp (maxSteps := 4000000) -implicitDefEqProofs [b120_0, List.take, List.drop, upd, rest, kill, mapMem, getAll, h1, h4, hnum, a1, a2, cl_app1]
      change _ = _
      kernel_rfl
    · obtain rfl : j = n := by omega
      rw [Nat.sub_self] at hs1 hs2
      simp only [rdZ, List.append_nil] at hs1 hs2
      have e : rdZ z0 b j s0 = (acc, (i, true)) := Prod.ext hs1.symm hs2.symm
      rw [e]
      refine .inr ⟨?_, by simp⟩
      simp (maxSteps := 4000000) -implicitDefEqProofs [b120_0, S_lst, rdA, List.take, List.drop, upd, Z_lst]
      change _ = _
      kernel_rfl
theorem r_lst (b : List Int) (hB : Bytes b) (hn : b.length ≤ 1048576) (s : Nat × Bool) (hs : Ins b s) : runLend (X tab) tab 120 [.ro b.length (cl .u8 b), .int .i64 s.1, .bool s.2] [] =
    some (.v false [.sl 0 [] 0 (listZ z0 b s).1.length], [.ro b.length (cl .u8 b), .int .i64 (listZ z0 b s).2.1, .bool (listZ z0 b s).2.2], [.row 1 (cl .i64 (listZ z0 b s).1)]) := by
  have hz : ∀ i, z0 i ≤ i := fun i => Nat.zero_le _
  have hnum := fun sl up nx (h : 66 ≤ nx) => t_numZ' 0 b hB hn s hs sl (upd (memL [some (.box [.ro b.length (cl .u8 b), .int .i64 s.1, .bool s.2])]) 65 (some (.row 1 []))) up nx rfl (fun q => by rw [freshB_upd (.inl (by omega)), freshB_memL (by simp; omega)])
  obtain ⟨g1, g2, g3⟩ := numZ_ins hz hs
  unfold listZ
  generalize numZ z0 b s = q at *
  obtain ⟨n, i', ok'⟩ := q
  simp only at g1 g2
  have hlo := fun x hx => loop_lst b hB hn n g2 (i', ok') g1 (x := x) hx
  simp only
  generalize rdZ z0 b n (i', ok') = res at hlo ⊢
  obtain ⟨L, i, ok⟩ := res
  simp only [rdA] at hnum
  unfold runLend
  simp (maxSteps := 4000000) -implicitDefEqProofs [tab120, a120, lendEnd, List.take, List.drop, upd, rest, kill, mapMem, getAll, hnum]
  rw [hlo _ (by change _ = _; kernel_rfl)]
  simp (maxSteps := 4000000) -implicitDefEqProofs [Z_lst, rdA, List.take, List.drop, upd, memL, List.range, List.range.loop]
/-! The reference's. -/
theorem r_l4Num (b : List Int) (hB : Bytes b) (hn : b.length ≤ 1048576) (s : Nat × Bool) (hs : Ins b s) : runLend (X tab) tab 108 [.ro b.length (cl .u8 b), .int .i64 s.1, .bool s.2] [] =
    some (.v false [.int .i64 (numZ zI b s).1], [.ro b.length (cl .u8 b), .int .i64 (numZ zI b s).2.1, .bool (numZ zI b s).2.2], []) := by
  obtain ⟨i, ok⟩ := s
  unfold Ins at hs
  simp only at hs
  have hg := r_sGetNum b hB hn (i : Int) (by omega)
  unfold numZ zI
  cases h : getNum b (i : Int) with
  | none =>
    rw [h] at hg
    simp only [getSV] at hg
    unfold runLend
    cases ok <;> simp (maxSteps := 4000000) -implicitDefEqProofs [tab108, a108, lendEnd, List.take, List.drop, upd, List.range, List.range.loop, memL, hg, spl]
  | some p =>
    obtain ⟨n, j⟩ := p
    rw [h] at hg
    simp only [getSV] at hg
    unfold runLend
    cases ok <;> simp (maxSteps := 4000000) -implicitDefEqProofs [tab108, a108, lendEnd, List.take, List.drop, upd, List.range, List.range.loop, memL, hg, spl]
def S_sLst (b : List Int) (n : Nat) (s : Nat × List Int × (Nat × Bool)) : XS := ⟨⟨[.v false [.pr 0 [] 0], .bad, .bad, .v false [.sl 1 [] 0 s.2.1.length], .v false [.int .i64 (n)], .v false [.int .i64 (s.1)], .bad, .bad, .bad, .bad, .bad, .bad, .bad, .bad, .bad, .bad, .bad, .bad, .bad, .bad, .bad, .bad, .bad, .bad, .bad, .bad, .bad, .bad], memL [some (.box (rdA b s.2.2)), some (.row 1 (cl .i64 s.2.1))], [.v false [.pr 0 [] 0]]⟩, 2⟩
def Z_sLst (b : List Int) (r : List Int × (Nat × Bool)) : XS := ⟨⟨[.bad, .bad, .bad, .v false [.sl 0 [] 0 r.1.length], .bad, .bad, .bad, .bad, .bad, .bad, .bad, .bad, .bad, .bad, .bad, .bad, .bad, .bad, .bad, .bad, .bad, .bad, .bad, .bad, .bad, .bad, .bad, .bad], memL [some (.row 1 (cl .i64 r.1)), some (.box (rdA b r.2))], [.v false [.pr 1 [] 0]]⟩, 2⟩
theorem loop_sLst (b : List Int) (hB : Bytes b) (hn : b.length ≤ 1048576) (n : Nat) (hN : n ≤ 2147483647) (s0 : Nat × Bool) (h0 : Ins b s0) {x : XS} (hx : head true d107_0 x = S_sLst b n (0, [], s0)) :
    X tab l107_0 x = some (.exit 0, Z_sLst b (rdZ zI b n s0)) := by
  have hz : ∀ i, zI i ≤ i := fun i => Nat.le_refl _
  refine loopX (σ := Nat × List Int × (Nat × Bool)) (S_sLst b n) (fun s => n - s.1) (fun s => s.1 ≤ n ∧ s.2.1.length ≤ s.1 ∧ Ins b s.2.2 ∧ s.2.1 ++ (rdZ zI b (n - s.1) s.2.2).1 = (rdZ zI b n s0).1 ∧ (rdZ zI b (n - s.1) s.2.2).2 = (rdZ zI b n s0).2) _ (fun ⟨j, acc, st⟩ ⟨hj, hlen, hi, hs1, hs2⟩ => ?_) (0, [], s0) ⟨Nat.zero_le _, by simp, h0, by simp, by simp⟩ x hx
  simp only at hj hlen hi hs1 hs2
  obtain ⟨i, ok⟩ := st
  cases ok with
  | false =>
    rw [rdZ_stop rfl] at hs1 hs2
    rw [List.append_nil] at hs1
    have e : rdZ zI b n s0 = (acc, (i, false)) := Prod.ext hs1.symm hs2.symm
    rw [e]
    refine .inr ⟨?_, by simp⟩
    by_cases hjn : (j : Int) < (n : Int) <;>
    · simp (maxSteps := 4000000) -implicitDefEqProofs [b107_0, S_sLst, rdA, List.take, List.drop, upd, hjn, Z_sLst]
      change _ = _
      kernel_rfl
  | true =>
    by_cases hjn : j < n
    · have h1 : (j : Int) < (n : Int) := by omega
      have h4 := wrap_next hjn (show n ≤ 281474976710656 by omega)
      have a1 : (acc.length + 1) * 8 ≤ 140737488355328 := by omega
      have a2 : (cl .i64 acc).length = acc.length := cl_length
      obtain ⟨c, hc⟩ : ∃ c, n - j = c + 1 := ⟨n - j - 1, by omega⟩
      have hc' : n - (j + 1) = c := by omega
      have hnum := r_l4Num b hB hn (i, true) hi
      have hins := (numZ_ins hz hi).1
      rw [hc] at hs1 hs2
      simp only [rdZ, if_true] at hs1 hs2
      generalize numZ zI b (i, true) = q at *
      obtain ⟨v, i', ok'⟩ := q
      simp only at hins hnum
      refine .inl ⟨(j + 1, acc ++ [(v : Int)], (i', ok')), ?_, by simp only; omega, by simp only; omega, by simp; omega, hins, by simp only [hc']; rw [List.append_assoc]; exact hs1, by simp only [hc']; exact hs2⟩
      simp only [S_sLst, rdA, List.length_append, List.length_singleton]
      simp (maxSteps := 4000000) -implicitDefEqProofs [b107_0, List.take, List.drop, upd, rest, kill, mapMem, callLend, lendBox, A1.ids, roArgs, roL, roA, A1.ownB, addMem_nil, List.range, List.range.loop, SV.map, ren, shift, upd, memL_app, getAll, h1, h4, hnum, a1, a2, cl_app1]
      change _ = _
      kernel_rfl
    · obtain rfl : j = n := by omega
      rw [Nat.sub_self] at hs1 hs2
      simp only [rdZ, List.append_nil] at hs1 hs2
      have e : rdZ zI b j s0 = (acc, (i, true)) := Prod.ext hs1.symm hs2.symm
      rw [e]
      refine .inr ⟨?_, by simp⟩
      simp (maxSteps := 4000000) -implicitDefEqProofs [b107_0, S_sLst, rdA, List.take, List.drop, upd, Z_sLst]
      change _ = _
      kernel_rfl
theorem r_sLst (b : List Int) (hB : Bytes b) (hn : b.length ≤ 1048576) (s : Nat × Bool) (hs : Ins b s) : runLend (X tab) tab 107 [.ro b.length (cl .u8 b), .int .i64 s.1, .bool s.2] [] =
    some (.v false [.sl 0 [] 0 (listZ zI b s).1.length], [.ro b.length (cl .u8 b), .int .i64 (listZ zI b s).2.1, .bool (listZ zI b s).2.2], [.row 1 (cl .i64 (listZ zI b s).1)]) := by
  have hz : ∀ i, zI i ≤ i := fun i => Nat.le_refl _
  have hnum := r_l4Num b hB hn s hs
  obtain ⟨g1, g2, g3⟩ := numZ_ins hz hs
  unfold listZ
  generalize numZ zI b s = q at *
  obtain ⟨n, i', ok'⟩ := q
  simp only at g1 g2 hnum
  have hlo := fun x hx => loop_sLst b hB hn n g2 (i', ok') g1 (x := x) hx
  simp only
  generalize rdZ zI b n (i', ok') = res at hlo ⊢
  obtain ⟨L, i, ok⟩ := res
  unfold runLend
  simp (maxSteps := 4000000) -implicitDefEqProofs [tab107, a107, lendEnd, List.take, List.drop, upd, rest, kill, mapMem, callLend, lendBox, A1.ids, roArgs, roL, roA, A1.ownB, addMem_nil, List.range, List.range.loop, SV.map, ren, shift, upd, memL_app, getAll, hnum]
  rw [hlo _ (by change _ = _; kernel_rfl)]
  simp (maxSteps := 4000000) -implicitDefEqProofs [Z_sLst, rdA, List.take, List.drop, upd, memL, List.range, List.range.loop]
end Go.Proofs.YtbdokibepndibaaGreat.Eng.C
