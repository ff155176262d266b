/- Ranges, images, sums and numbers as bytes, as the program and the reference compute them. -/
import Derived.Test.YtbdokibepndibaaBPrel
namespace Go.Proofs.Ytbdokibepndibaa.Eng.B
set_option linter.unusedSimpArgs false
set_option linter.unusedVariables false
open Go.RowKit Go.Proofs

def rng (n lo hi : Int) : Bool := decide (lo ≤ n) && decide (n ≤ hi)
theorem rng_iff {n lo hi : Int} : rng n lo hi = true ↔ lo ≤ n ∧ n ≤ hi := by simp [rng]
theorem rng_not {n lo hi : Int} : rng n lo hi = false ↔ ¬ (lo ≤ n ∧ n ≤ hi) := by rw [← rng_iff]; simp
theorem wrap_next {i n : Nat} (h : i < n) (hn : n ≤ 281474976710656) : IntKind.i64.wrap ((i : Int) + 1) = ((i + 1 : Nat) : Int) := by rw [wrap_id (by omega) (by omega)]; omega
theorem r_from (n lo hi : Int) : runRO (X tab) tab 56 [.v false [.int .i64 n], .v false [.int .i64 lo], .v false [.int .i64 hi]] = some (.v false [.bool (rng n lo hi)], []) := by
  unfold runRO
  by_cases h1 : lo ≤ n <;> by_cases h2 : n ≤ hi <;> simp (maxSteps := 4000000) -implicitDefEqProofs [tab56, a56, x_seq, x_cond, x_block, x_region, x_skip, x_exit, x_ret, head_id, runG, runOps, doOp, wantB, stepOp, AO.eff, pureOp, St.get, St.one, St.num, St.put, St.optNum, binA, binInt, List.take, List.drop, resOf, resSV, SV.map, SV.ids, A1.ids, reach, allObs, ren, pos, Ob.map, St.canon, memL, List.range, List.range.loop, rng, h1, h2]
/-- The first place from i on at which p holds. -/
def fidx (p : Int → Bool) : Nat → List Int → Option Nat
  | _, [] => none
  | i, y :: r => if p y = true then some i else fidx p (i + 1) r
theorem fidx_none {p : Int → Bool} : ∀ {l : List Int} {i : Nat}, fidx p i l = none ↔ l.any p = false := by
  intro l
  induction l with
  | nil => intro i; simp [fidx]
  | cons y r ih =>
    intro i
    simp only [fidx, List.any_cons]
    cases p y <;> simp [ih]
theorem fidx_isSome {p : Int → Bool} {l : List Int} {i : Nat} : (fidx p i l).isSome = l.any p := by
  cases h : fidx p i l with
  | none => rw [fidx_none.1 h]; rfl
  | some j =>
    cases ha : l.any p with
    | true => rfl
    | false => rw [fidx_none.2 ha] at h; cases h
/-- A function value that looks at a number, and turns nothing. -/
def Looks (f : FuncId) (caps : List Nat) (I : Mem → Prop) (p : Int → Bool) (c : Nat) : Prop :=
  ∀ y sl m up nx, I m → runThru (X tab) tab f ([.v false [.int .i64 y]] ++ caps.map fun t => .v false [.pr t [] 0]) ⟨⟨sl, m, up⟩, nx⟩ = some (.v false [.bool (p y)], ⟨⟨sl, m, up⟩, nx + c⟩)
def S_IndexFunc (l : List Int) (f : FuncId) (i : Nat) : XS := ⟨⟨[.v false [.ro l.length (cl .i64 l)], .v false [.fn f []], .bad, .bad, .bad, .bad, .bad, .v false [.int .i64 (l.length)], .v false [.int .i64 (i)], .bad, .bad, .bad, .bad, .bad, .bad, .bad, .bad, .bad, .bad], fun _ => none, []⟩, 256⟩
def Z_IndexFunc : XS := ⟨⟨[.bad, .bad, .bad, .bad, .bad, .bad, .bad, .bad, .bad, .bad, .bad, .bad, .bad, .bad, .bad, .bad, .bad, .bad, .bad], fun _ => none, []⟩, 320⟩
def R_IndexFunc (c : Nat) : Option Nat → Option (AE × XS)
  | none => some (.exit 0, Z_IndexFunc)
  | some j => some (.ret, ⟨⟨[.bad, .bad, .bad, .bad, .v false [.int .i64 (j)], .bad, .bad, .bad, .bad, .bad, .bad, .bad, .bad, .bad, .bad, .bad, .bad, .bad, .bad], fun _ => none, []⟩, 960 + c⟩)
theorem loop_IndexFunc (l : List Int) (f : FuncId) (p : Int → Bool) (c : Nat) (hf : Looks f [] (fun _ => True) p c) (hn : l.length ≤ 1048576) {x : XS} (hx : head false d66_0 x = S_IndexFunc l f 0) : X tab l66_0 x = R_IndexFunc c (fidx p 0 l) := by
  refine loopXF (σ := Nat) (S_IndexFunc l f) (fun i => l.length - i) (fun i => i ≤ l.length ∧ fidx p i (l.drop i) = fidx p 0 l) _ (fun i ⟨hi, hs⟩ => ?_) 0 ⟨Nat.zero_le _, rfl⟩ x hx
  cases hl : l.drop i with
  | nil =>
    obtain rfl := drop_end hl hi
    rw [← hs, hl]
    refine .inr ⟨?_, by simp [fidx, R_IndexFunc]⟩
    simp (maxSteps := 4000000) -implicitDefEqProofs [b66_0, S_IndexFunc, x_seq, x_cond, x_block, x_region, x_skip, x_exit, x_ret, head_id, runG, runOps, doOp, wantB, stepOp, AO.eff, pureOp, St.get, St.one, St.num, St.put, St.optNum, binA, binInt, List.take, List.drop, fidx, R_IndexFunc]
    change _ = _
    kernel_rfl
  | cons y r =>
    have hi' := drop_lt hl
    have h1 : (0 ≤ (i : Int) ∧ (i : Int) < (l.length : Int)) := by omega
    have h2 := cl_at (k := .i64) hl
    have h4 := wrap_next hi' (show l.length ≤ 281474976710656 by omega)
    have h5 : ∀ sl m up nx, runThru (X tab) tab f [.v false [.int .i64 y]] ⟨⟨sl, m, up⟩, nx⟩ = some (.v false [.bool (p y)], ⟨⟨sl, m, up⟩, nx + c⟩) := fun sl m up nx => hf y sl m up nx trivial
    rw [hl] at hs
    simp only [fidx] at hs
    cases hp : p y with
    | true =>
      rw [if_pos hp] at hs
      rw [← hs]
      refine .inr ⟨?_, by simp [R_IndexFunc]⟩
      simp (maxSteps := 4000000) -implicitDefEqProofs [b66_0, S_IndexFunc, x_seq, x_cond, x_block, x_region, x_skip, x_exit, x_ret, head_id, runG, runOps, doOp, wantB, stepOp, AO.eff, pureOp, St.get, St.one, St.num, St.put, St.optNum, binA, binInt, List.take, List.drop, getAll, fromRo, h1, h2, h4, h5, hi', hp, R_IndexFunc]
      simp only [head, killSlots, Bool.false_eq_true, if_false, List.set, XS.mk.injEq, true_and]
      omega
    | false =>
      rw [if_neg (by simp [hp])] at hs
      refine .inl ⟨i + 1, ?_, by omega, hi', by rw [drop_next hl]; exact hs⟩
      simp (maxSteps := 4000000) -implicitDefEqProofs [b66_0, S_IndexFunc, x_seq, x_cond, x_block, x_region, x_skip, x_exit, x_ret, head_id, runG, runOps, doOp, wantB, stepOp, AO.eff, pureOp, St.get, St.one, St.num, St.put, St.optNum, binA, binInt, List.take, List.drop, getAll, fromRo, h1, h2, h4, h5, hi', hp]
      change _ = _
      kernel_rfl
theorem r_IndexFunc (l : List Int) (f : FuncId) (p : Int → Bool) (c : Nat) (hf : Looks f [] (fun _ => True) p c) (hn : l.length ≤ 1048576) :
    runRO (X tab) tab 66 [.v false [.ro l.length (cl .i64 l)], .v false [.fn f []]] = some (.v false [.int .i64 (match fidx p 0 l with | some j => (j : Int) | none => -1)], []) := by
  unfold runRO
  simp (maxSteps := 4000000) -implicitDefEqProofs [tab66, a66, x_seq, x_cond, x_block, x_region, x_skip, x_exit, x_ret, head_id, runG, runOps, doOp, wantB, stepOp, AO.eff, pureOp, St.get, St.one, St.num, St.put, St.optNum, binA, binInt, List.take, List.drop]
  rw [loop_IndexFunc l f p c hf hn (by change _ = _; kernel_rfl)]
  cases fidx p 0 l <;> simp (maxSteps := 4000000) -implicitDefEqProofs [R_IndexFunc, Z_IndexFunc, x_seq, x_cond, x_block, x_region, x_skip, x_exit, x_ret, head_id, runG, runOps, doOp, wantB, stepOp, AO.eff, pureOp, St.get, St.one, St.num, St.put, St.optNum, binA, binInt, List.take, List.drop, resOf, resSV, SV.map, SV.ids, A1.ids, reach, allObs, ren, pos, Ob.map, St.canon, memL, List.range, List.range.loop]
def imageOk (l : List Int) : Bool := decide (l.length = 8) && !(l.any fun n => !rng n 0 200)
/-! Sums. -/
def sumStep (x c : Int) : Int := (IntKind.i64.wrap (x + IntKind.i64.wrap c)).tmod 65521
def sumStep2 (y x : Int) : Int := (IntKind.i64.wrap (y + x)).tmod 65521
def sumF : Int → Int → List Int → Int × Int
  | x, y, [] => (x, y)
  | x, y, c :: r => sumF (sumStep x c) (sumStep2 y (sumStep x c)) r
def sumOf (l : List Int) : Int := IntKind.i64.wrap (IntKind.i64.wrap ((sumF 1 0 l).2 * 65536) + (sumF 1 0 l).1)
/-! Numbers as bytes. -/
def initN (n : Nat) : List Int := if h : n > 127 then ((n % 128 + 128 : Nat) : Int) :: initN (n / 128) else []
termination_by n
def lastN (n : Nat) : Nat := if h : n > 127 then lastN (n / 128) else n
termination_by n
theorem initN_big {n : Nat} (h : n > 127) : initN n = ((n % 128 + 128 : Nat) : Int) :: initN (n / 128) := by rw [initN, dif_pos h]
theorem initN_small {n : Nat} (h : ¬ n > 127) : initN n = [] := by rw [initN, dif_neg h]
theorem lastN_big {n : Nat} (h : n > 127) : lastN n = lastN (n / 128) := by rw [lastN, dif_pos h]
theorem lastN_small {n : Nat} (h : ¬ n > 127) : lastN n = n := by rw [lastN, dif_neg h]
theorem initN_length : ∀ (k n : Nat), n < 128 ^ (k + 1) → (initN n).length ≤ k := by
  intro k
  induction k with
  | zero => intro n h; rw [initN_small (by omega)]; simp
  | succ k ih =>
    intro n h
    by_cases h1 : n > 127
    · rw [initN_big h1, List.length_cons]
      have := ih (n / 128) (by rw [Nat.div_lt_iff_lt_mul (by omega)]; rw [Nat.pow_succ] at h; exact h)
      omega
    · rw [initN_small h1]; simp
theorem initN_five {n : Nat} (h : n ≤ 2147483647) : (initN n).length ≤ 4 := initN_length 4 n (by omega)
theorem lastN_lt : ∀ (n : Nat), lastN n < 128 := by
  intro n
  induction n using Nat.strongRecOn with
  | _ n ih =>
    by_cases h : n > 127
    · rw [lastN_big h]; exact ih _ (by omega)
    · rw [lastN_small h]; omega
def putN (n : Nat) : List Int := initN n ++ [(lastN n : Int)]
def putNum (n : Int) : List Int := if rng n 0 2147483647 = true then putN n.toNat else []
theorem putN_five {n : Nat} (h : n ≤ 2147483647) : (putN n).length ≤ 5 := by have := initN_five h; simp [putN]; omega
theorem u8_id {n : Nat} (h : n < 256) : IntKind.u8.wrap (n : Int) = n := by simp only [IntKind.wrap, IntKind.bits, IntKind.signed]; simp; omega
end Go.Proofs.Ytbdokibepndibaa.Eng.B
