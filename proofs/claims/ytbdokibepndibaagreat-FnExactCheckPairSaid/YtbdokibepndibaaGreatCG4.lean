/- Num, Has, Digest, Dig2, as one text. -/
import Derived.Test.YtbdokibepndibaaGreatCG1
namespace Go.Proofs.YtbdokibepndibaaGreat.Eng.C
set_option linter.unusedSimpArgs false
set_option linter.unusedVariables false
set_option maxHeartbeats 16000000
set_option maxRecDepth 100000
open Go.RowKit Go.Proofs
attribute [local simp] x_seq x_cond x_block x_region x_skip x_exit x_ret head_id runG runOps doOp wantB stepOp AO.eff pureOp St.get St.one St.num St.put St.optNum binA binInt gOp gOp0 gOpL gResL updO gRes gEff addObs_nil addObs_one freshB_memL freshB_none freshB_upd freshB_addMem freshB_addObs effOp2 effOp memL_app stoRow cellsAt toCells toCell scalar_int scalar_bool scalar_str scalar_sl updAt fromRo callRO addMem_nil roArgs roL roA srcCells A1.ownB addMem shift ren SV.map Ob.map Ob.noRo SV.noRo A1.noRo resOf resSV SV.ids A1.ids reach allObs pos St.canon A1.slB flat_int cl_flat' St.parts Eng.inB reps fillA newRowSt appSt oldOf

def rng (n lo hi : Int) : Bool := decide (lo ≤ n) && decide (n ≤ hi)
theorem rng_iff {n lo hi : Int} : rng n lo hi = true ↔ lo ≤ n ∧ n ≤ hi := by simp [rng]
theorem rng_not {n lo hi : Int} : rng n lo hi = false ↔ ¬ (lo ≤ n ∧ n ≤ hi) := by rw [← rng_iff]; simp
theorem wrap_next {i n : Nat} (h : i < n) (hn : n ≤ 281474976710656) : IntKind.i64.wrap ((i : Int) + 1) = ((i + 1 : Nat) : Int) := by rw [wrap_id (by omega) (by omega)]; omega
theorem r_from (n lo hi : Int) : runRO (X tab) tab 46 [.v false [.int .i64 n], .v false [.int .i64 lo], .v false [.int .i64 hi]] = some (.v false [.bool (rng n lo hi)], []) := by
  unfold runRO
  by_cases h1 : lo ≤ n <;> by_cases h2 : n ≤ hi <;> simp (maxSteps := 4000000) -implicitDefEqProofs [tab46, a46, List.take, List.drop, memL, List.range, List.range.loop, rng, h1, h2]
theorem r_l1In (n lo hi : Int) : runRO (X tab) tab 18 [.v false [.int .i64 n], .v false [.int .i64 lo], .v false [.int .i64 hi]] = some (.v false [.bool (rng n lo hi)], []) := by
  unfold runRO
  by_cases h1 : lo ≤ n <;> by_cases h2 : n ≤ hi <;> simp (maxSteps := 4000000) -implicitDefEqProofs [tab18, a18, List.take, List.drop, memL, List.range, List.range.loop, rng, h1, h2]
theorem r_isCell (n : Int) : runRO (X tab) tab 47 [.v false [.int .i64 n]] = some (.v false [.bool (rng n 0 7)], []) := by
  unfold runRO
  simp (maxSteps := 4000000) -implicitDefEqProofs [tab47, a47, List.take, List.drop, List.range, List.range.loop, memL, r_from]
/-- The first place from i on at which p holds. -/
def fidx (p : Int → Bool) : Nat → List Int → Option Nat
  | _, [] => none
  | i, y :: r => if p y = true then some i else fidx p (i + 1) r
theorem fidx_none {p : Int → Bool} : ∀ {l : List Int} {i : Nat}, fidx p i l = none ↔ l.any p = false := by
  intro l
  induction l with
  | nil => intro i; simp [fidx]
  | cons y r ih =>
    intro i
    simp only [fidx, List.any_cons]
    cases p y <;> simp [ih]
theorem fidx_isSome {p : Int → Bool} {l : List Int} {i : Nat} : (fidx p i l).isSome = l.any p := by
  cases h : fidx p i l with
  | none => rw [fidx_none.1 h]; rfl
  | some j =>
    cases ha : l.any p with
    | true => rfl
    | false => rw [fidx_none.2 ha] at h; cases h
/-- A function value that looks at a number, and turns nothing. -/
def Looks (f : FuncId) (caps : List Nat) (I : Mem → Prop) (p : Int → Bool) (c : Nat) : Prop :=
  ∀ y sl m up nx, I m → runThru (X tab) tab f ([.v false [.int .i64 y]] ++ caps.map fun t => .v false [.pr t [] 0]) ⟨⟨sl, m, up⟩, nx⟩ = some (.v false [.bool (p y)], ⟨⟨sl, m, up⟩, nx + c⟩)
def S_IndexFunc (l : List Int) (f : FuncId) (i : Nat) : XS := ⟨⟨[.v false [.ro l.length (cl .i64 l)], .v false [.fn f []], .bad, .bad, .bad, .bad, .bad, .v false [.int .i64 (l.length)], .v false [.int .i64 (i)], .bad, .bad, .bad, .bad, .bad, .bad, .bad, .bad, .bad, .bad], fun _ => none, []⟩, 256⟩
def Z_IndexFunc : XS := ⟨⟨[.bad, .bad, .bad, .bad, .bad, .bad, .bad, .bad, .bad, .bad, .bad, .bad, .bad, .bad, .bad, .bad, .bad, .bad, .bad], fun _ => none, []⟩, 320⟩
def R_IndexFunc (c : Nat) : Option Nat → Option (AE × XS)
  | none => some (.exit 0, Z_IndexFunc)
  | some j => some (.ret, ⟨⟨[.bad, .bad, .bad, .bad, .v false [.int .i64 (j)], .bad, .bad, .bad, .bad, .bad, .bad, .bad, .bad, .bad, .bad, .bad, .bad, .bad, .bad], fun _ => none, []⟩, 960 + c⟩)
theorem loop_IndexFunc (l : List Int) (f : FuncId) (p : Int → Bool) (c : Nat) (hf : Looks f [] (fun _ => True) p c) (hn : l.length ≤ 1048576) {x : XS} (hx : head false d96_0 x = S_IndexFunc l f 0) : X tab l96_0 x = R_IndexFunc c (fidx p 0 l) := by
  refine loopXF (σ := Nat) (S_IndexFunc l f) (fun i => l.length - i) (fun i => i ≤ l.length ∧ fidx p i (l.drop i) = fidx p 0 l) _ (fun i ⟨hi, hs⟩ => ?_) 0 ⟨Nat.zero_le _, rfl⟩ x hx
  cases hl : l.drop i with
  | nil =>
    obtain rfl := drop_end hl hi
    rw [← hs, hl]
    refine .inr ⟨?_, by simp [fidx, R_IndexFunc]⟩
    simp (maxSteps := 4000000) -implicitDefEqProofs [b96_0, S_IndexFunc, List.take, List.drop, fidx, R_IndexFunc]
    change _ = _
    kernel_rfl
  | cons y r =>
    have hi' := drop_lt hl
    have h1 : (0 ≤ (i : Int) ∧ (i : Int) < (l.length : Int)) := by omega
    have h2 := cl_at (k := .i64) hl
    have h4 := wrap_next hi' (show l.length ≤ 281474976710656 by omega)
    have h5 : ∀ sl m up nx, runThru (X tab) tab f [.v false [.int .i64 y]] ⟨⟨sl, m, up⟩, nx⟩ = some (.v false [.bool (p y)], ⟨⟨sl, m, up⟩, nx + c⟩) := fun sl m up nx => hf y sl m up nx trivial
    rw [hl] at hs
    simp only [fidx] at hs
    cases hp : p y with
    | true =>
      rw [if_pos hp] at hs
      rw [← hs]
      refine .inr ⟨?_, by simp [R_IndexFunc]⟩
      simp (maxSteps := 4000000) -implicitDefEqProofs [b96_0, S_IndexFunc, List.take, List.drop, getAll, fromRo, h1, h2, h4, h5, hi', hp, R_IndexFunc]
      simp only [head, killSlots, Bool.false_eq_true, if_false, List.set, XS.mk.injEq, true_and]
      omega
    | false =>
      rw [if_neg (by simp [hp])] at hs
      refine .inl ⟨i + 1, ?_, by omega, hi', by rw [drop_next hl]; exact hs⟩
      simp (maxSteps := 4000000) -implicitDefEqProofs [b96_0, S_IndexFunc, List.take, List.drop, getAll, fromRo, h1, h2, h4, h5, hi', hp]
      change _ = _
      kernel_rfl
theorem r_IndexFunc (l : List Int) (f : FuncId) (p : Int → Bool) (c : Nat) (hf : Looks f [] (fun _ => True) p c) (hn : l.length ≤ 1048576) :
    runRO (X tab) tab 96 [.v false [.ro l.length (cl .i64 l)], .v false [.fn f []]] = some (.v false [.int .i64 (match fidx p 0 l with | some j => (j : Int) | none => -1)], []) := by
  unfold runRO
  simp (maxSteps := 4000000) -implicitDefEqProofs [tab96, a96, List.take, List.drop]
  rw [loop_IndexFunc l f p c hf hn (by change _ = _; kernel_rfl)]
  cases fidx p 0 l <;> simp (maxSteps := 4000000) -implicitDefEqProofs [R_IndexFunc, Z_IndexFunc, List.take, List.drop, memL, List.range, List.range.loop]
/-! The same where the caller's memory is seen; the closure may have variables. -/
def ST (caps : List Nat) (f : FuncId) (l : List Int) (m : Mem) (up : List SV) (nx i : Nat) : XS := ⟨⟨[.v false [.ro l.length (cl .i64 l)], .v false [.fn f caps], .bad, .bad, .bad, .bad, .bad, .v false [.int .i64 (l.length)], .v false [.int .i64 (i)], .bad, .bad, .bad, .bad, .bad, .bad, .bad, .bad, .bad, .bad], m, up⟩, nx⟩
def RT (m : Mem) (up : List SV) (nx c : Nat) : Option Nat → Option (AE × XS)
  | none => some (.exit 0, ⟨⟨[.bad, .bad, .bad, .bad, .bad, .bad, .bad, .bad, .bad, .bad, .bad, .bad, .bad, .bad, .bad, .bad, .bad, .bad, .bad], m, up⟩, nx + 64⟩)
  | some j => some (.ret, ⟨⟨[.bad, .bad, .bad, .bad, .v false [.int .i64 (j)], .bad, .bad, .bad, .bad, .bad, .bad, .bad, .bad, .bad, .bad, .bad, .bad, .bad, .bad], m, up⟩, nx + 704 + c⟩)
theorem loop_IndexT (l : List Int) (caps : List Nat) (f : FuncId) (p : Int → Bool) (c : Nat) (hn : l.length ≤ 1048576) (m : Mem) (up : List SV) (nx : Nat) (hf : ∀ (y : Int) sl up nx, runThru (X tab) tab f (.v false [.int .i64 y] :: caps.map fun t => .v false [.pr t [] 0]) ⟨⟨sl, m, up⟩, nx⟩ = some (.v false [.bool (p y)], ⟨⟨sl, m, up⟩, nx + c⟩)) {x : XS}
    (hx : head false d96_0 x = ST caps f l m up nx 0) : X tab l96_0 x = RT m up nx c (fidx p 0 l) := by
  refine loopXF (σ := Nat) (ST caps f l m up nx) (fun i => l.length - i) (fun i => i ≤ l.length ∧ fidx p i (l.drop i) = fidx p 0 l) _ (fun i ⟨hi, hs⟩ => ?_) 0 ⟨Nat.zero_le _, rfl⟩ x hx
  cases hl : l.drop i with
  | nil =>
    obtain rfl := drop_end hl hi
    rw [← hs, hl]
    refine .inr ⟨?_, by simp [fidx, RT]⟩
    simp (maxSteps := 4000000) -implicitDefEqProofs [b96_0, ST, List.take, List.drop, fidx, RT]
    change _ = _
    kernel_rfl
  | cons y r =>
    have hi' := drop_lt hl
    have h1 : (0 ≤ (i : Int) ∧ (i : Int) < (l.length : Int)) := by omega
    have h2 := cl_at (k := .i64) hl
    have h4 := wrap_next hi' (show l.length ≤ 281474976710656 by omega)
    have h5 := fun sl up nx => hf y sl up nx
    rw [hl] at hs
    simp only [fidx] at hs
    cases hp : p y with
    | true =>
      rw [if_pos hp] at hs
      rw [← hs]
      refine .inr ⟨?_, by simp [RT]⟩
      simp (maxSteps := 4000000) -implicitDefEqProofs [b96_0, ST, List.take, List.drop, getAll, fromRo, h1, h2, h4, h5, hi', hp, RT]
      simp only [head, killSlots, Bool.false_eq_true, if_false, List.set, XS.mk.injEq, true_and]
      omega
    | false =>
      rw [if_neg (by simp [hp])] at hs
      refine .inl ⟨i + 1, ?_, by omega, hi', by rw [drop_next hl]; exact hs⟩
      simp (maxSteps := 4000000) -implicitDefEqProofs [b96_0, ST, List.take, List.drop, getAll, fromRo, h1, h2, h4, h5, hi', hp]
      change _ = _
      kernel_rfl
def dT (c : Nat) : Option Nat → Nat
  | none => 384
  | some _ => 960 + c
theorem t_IndexF (l : List Int) (caps : List Nat) (f : FuncId) (p : Int → Bool) (c : Nat) (hn : l.length ≤ 1048576) (sl : List SV) (m : Mem) (up : List SV) (nx : Nat) (hf : ∀ (y : Int) sl up nx, runThru (X tab) tab f (.v false [.int .i64 y] :: caps.map fun t => .v false [.pr t [] 0]) ⟨⟨sl, m, up⟩, nx⟩ = some (.v false [.bool (p y)], ⟨⟨sl, m, up⟩, nx + c⟩)) :
    runThru (X tab) tab 96 [.v false [.ro l.length (cl .i64 l)], .v false [.fn f caps]] ⟨⟨sl, m, up⟩, nx⟩ = some (.v false [.int .i64 (match fidx p 0 l with | some j => (j : Int) | none => -1)], ⟨⟨sl, m, up⟩, nx + dT c (fidx p 0 l)⟩) := by
  unfold runThru
  simp (maxSteps := 4000000) -implicitDefEqProofs [tab96, a96, List.take, List.drop]
  rw [loop_IndexT l caps f p c hn m (sl ++ up) (nx + 256) hf (by change _ = _; kernel_rfl)]
  cases fidx p 0 l with
  | none => simp (maxSteps := 4000000) -implicitDefEqProofs [RT, List.take, List.drop, resOf, resSV, Nat.add_assoc, dT]
  | some j => simp (maxSteps := 4000000) -implicitDefEqProofs [RT, List.take, List.drop, resOf, resSV, Nat.add_assoc, dT]
theorem r_ContainsFunc (l : List Int) (f : FuncId) (p : Int → Bool) (c : Nat) (hf : Looks f [] (fun _ => True) p c) (hn : l.length ≤ 1048576) :
    runRO (X tab) tab 75 [.v false [.ro l.length (cl .i64 l)], .v false [.fn f []]] = some (.v false [.bool (l.any p)], []) := by
  have h := r_IndexFunc l f p c hf hn
  have ht := fun sl up nx => t_IndexF l [] f p c hn sl (fun _ => none) up nx (fun y sl up nx => hf y sl _ up nx trivial)
  rw [← fidx_isSome (i := 0)]
  unfold runRO
  cases hp : fidx p 0 l with
  | none =>
    rw [hp] at h
    simp only [hp] at ht
    simp (maxSteps := 4000000) -implicitDefEqProofs [tab75, a75, List.take, List.drop, List.range, List.range.loop, memL, getAll, h, ht]
  | some j =>
    rw [hp] at h
    simp only [hp] at ht
    simp (maxSteps := 4000000) -implicitDefEqProofs [tab75, a75, List.take, List.drop, List.range, List.range.loop, memL, getAll, h, ht]
def imageOk (l : List Int) : Bool := decide (l.length = 8) && !(l.any fun n => !rng n 0 200)
theorem f_ImageOk : Looks 77 [] (fun _ => True) (fun n => !rng n 0 200) 320 := by
  intro y sl m up nx _
  unfold runThru
  simp (maxSteps := 4000000) -implicitDefEqProofs [tab77, a77, List.take, List.drop, List.range, List.range.loop, r_from, resOf, resSV]
theorem r_ImageOk (l : List Int) (hn : l.length ≤ 1048576) : runRO (X tab) tab 48 [.v false [.ro l.length (cl .i64 l)]] = some (.v false [.bool (imageOk l)], []) := by
  have h := r_ContainsFunc l _ _ _ f_ImageOk hn
  unfold runRO
  by_cases h8 : l.length = 8
  · have h8' : ((l.length : Int) == 8) = true := by rw [beq_iff_eq]; omega
    simp only [imageOk, h8, decide_true, Bool.true_and]
    generalize (l.any fun n => !rng n 0 200) = q at h
    rw [h8] at h
    simp (maxSteps := 4000000) -implicitDefEqProofs [tab48, a48, List.take, List.drop, List.range, List.range.loop, memL, h, h8']
  · have h8' : ((l.length : Int) == 8) = false := by rw [beq_eq_false_iff_ne]; omega
    simp (maxSteps := 4000000) -implicitDefEqProofs [tab48, a48, List.take, List.drop, List.range, List.range.loop, memL, h, h8', imageOk, h8]
def S_sImageOk (l : List Int) (i : Nat) : XS := ⟨⟨[.v false [.ro l.length (cl .i64 l)], .bad, .bad, .v false [.int .i64 (i)], .bad, .bad, .bad, .bad, .bad, .bad, .bad, .bad, .bad, .bad, .bad, .bad, .bad, .bad, .bad], memL [], []⟩, 0⟩
def R_sImageOk (l : List Int) (ok : Bool) : Option (AE × XS) :=
  if ok = true then some (.exit 0, ⟨⟨[.v false [.ro l.length (cl .i64 l)], .bad, .bad, .bad, .bad, .bad, .bad, .bad, .bad, .bad, .bad, .bad, .bad, .bad, .bad, .bad, .bad, .bad, .bad], memL [], []⟩, 0⟩) else some (.ret, ⟨⟨[.bad, .bad, .v false [.bool (false)], .bad, .bad, .bad, .bad, .bad, .bad, .bad, .bad, .bad, .bad, .bad, .bad, .bad, .bad, .bad, .bad], memL [], []⟩, 0⟩)
theorem loop_sImageOk (l : List Int) (hn : l.length ≤ 1048576) {x : XS} (hx : head true d39_0 x = S_sImageOk l 0) : X tab l39_0 x = R_sImageOk l (l.all fun n => rng n 0 200) := by
  refine loopX (σ := Nat) (S_sImageOk l) (fun i => l.length - i) (fun i => i ≤ l.length ∧ ((l.drop i).all fun n => rng n 0 200) = l.all fun n => rng n 0 200) _ (fun i ⟨hi, hs⟩ => ?_) 0 ⟨Nat.zero_le _, rfl⟩ x hx
  rw [← hs]
  cases hl : l.drop i with
  | nil =>
    obtain rfl := drop_end hl hi
    refine .inr ⟨?_, by simp [R_sImageOk]⟩
    simp (maxSteps := 4000000) -implicitDefEqProofs [b39_0, S_sImageOk, List.take, List.drop, R_sImageOk]
    change _ = _
    kernel_rfl
  | cons y r =>
    have hi' := drop_lt hl
    have h1 : (0 ≤ (i : Int) ∧ (i : Int) < (l.length : Int)) := by omega
    have h2 := cl_at (k := .i64) hl
    have h4 := wrap_next hi' (show l.length ≤ 281474976710656 by omega)
    have h5 := r_l1In y 0 200
    rw [List.all_cons]
    cases hp : rng y 0 200 with
    | false =>
      refine .inr ⟨?_, by simp [R_sImageOk]⟩
      simp (maxSteps := 4000000) -implicitDefEqProofs [b39_0, S_sImageOk, List.take, List.drop, List.range, List.range.loop, fromRo, h1, h2, h4, h5, hi', hp, R_sImageOk]
      change _ = _
      kernel_rfl
    | true =>
      refine .inl ⟨i + 1, ?_, by omega, hi', by rw [drop_next hl]; simp⟩
      simp (maxSteps := 4000000) -implicitDefEqProofs [b39_0, S_sImageOk, List.take, List.drop, List.range, List.range.loop, fromRo, h1, h2, h4, h5, hi', hp]
      change _ = _
      kernel_rfl
theorem r_sImageOk (l : List Int) (hn : l.length ≤ 1048576) : runRO (X tab) tab 39 [.v false [.ro l.length (cl .i64 l)]] = some (.v false [.bool (imageOk l)], []) := by
  have e : imageOk l = (decide (l.length = 8) && l.all fun n => rng n 0 200) := by
    simp only [imageOk, ← List.not_all_eq_any_not, Bool.not_not]
  unfold runRO
  simp (maxSteps := 4000000) -implicitDefEqProofs [tab39, a39, List.take, List.drop]
  rw [loop_sImageOk l hn (by change _ = _; kernel_rfl), e]
  cases (l.all fun n => rng n 0 200) with
  | false => simp (maxSteps := 4000000) -implicitDefEqProofs [R_sImageOk, List.take, List.drop, memL, List.range, List.range.loop]
  | true =>
    by_cases h8 : l.length = 8
    · have h8' : ((l.length : Int) == 8) = true := by rw [beq_iff_eq]; omega
      simp (maxSteps := 4000000) -implicitDefEqProofs [R_sImageOk, List.take, List.drop, memL, List.range, List.range.loop, h8, h8']
    · have h8' : ((l.length : Int) == 8) = false := by rw [beq_eq_false_iff_ne]; omega
      simp (maxSteps := 4000000) -implicitDefEqProofs [R_sImageOk, List.take, List.drop, memL, List.range, List.range.loop, h8, h8']
/-! Sums. -/
def sumStep (x c : Int) : Int := (IntKind.i64.wrap (x + IntKind.i64.wrap c)).tmod 65521
def sumStep2 (y x : Int) : Int := (IntKind.i64.wrap (y + x)).tmod 65521
def sumF : Int → Int → List Int → Int × Int
  | x, y, [] => (x, y)
  | x, y, c :: r => sumF (sumStep x c) (sumStep2 y (sumStep x c)) r
def sumOf (l : List Int) : Int := IntKind.i64.wrap (IntKind.i64.wrap ((sumF 1 0 l).2 * 65536) + (sumF 1 0 l).1)
def S_SumOf (l : List Int) (s : Nat × Int × Int) : XS := ⟨⟨[.bad, .bad, .bad, .v false [.int .i64 (s.2.1)], .v false [.int .i64 (s.2.2)], .bad, .bad, .v false [.ro l.length (cl .u8 l)], .v false [.int .i64 (l.length)], .v false [.int .i64 (s.1)], .bad, .bad, .bad, .bad, .bad, .bad, .bad, .bad, .bad, .bad, .bad, .bad, .bad, .bad, .bad, .bad, .bad], memL [], []⟩, 0⟩
def Z_SumOf (p : Int × Int) : XS := ⟨⟨[.bad, .bad, .bad, .v false [.int .i64 (p.1)], .v false [.int .i64 (p.2)], .bad, .bad, .bad, .bad, .bad, .bad, .bad, .bad, .bad, .bad, .bad, .bad, .bad, .bad, .bad, .bad, .bad, .bad, .bad, .bad, .bad, .bad], memL [], []⟩, 0⟩
theorem loop_SumOf (l : List Int) (hn : l.length ≤ 2147483647) {x : XS} (hx : head true d79_0 x = S_SumOf l (0, 1, 0)) : X tab l79_0 x = some (.exit 0, Z_SumOf (sumF 1 0 l)) := by
  refine loopX (σ := Nat × Int × Int) (S_SumOf l) (fun s => l.length - s.1) (fun s => s.1 ≤ l.length ∧ sumF s.2.1 s.2.2 (l.drop s.1) = sumF 1 0 l) _ (fun ⟨i, a, b⟩ ⟨hi, hs⟩ => ?_) (0, 1, 0) ⟨Nat.zero_le _, rfl⟩ x hx
  simp only at hi hs
  cases hl : l.drop i with
  | nil =>
    obtain rfl := drop_end hl hi
    rw [← hs, hl]
    refine .inr ⟨?_, by simp⟩
    simp (maxSteps := 4000000) -implicitDefEqProofs [b79_0, S_SumOf, List.take, List.drop, sumF]
    change _ = _
    kernel_rfl
  | cons y r =>
    have hi' := drop_lt hl
    have h1 : (0 ≤ (i : Int) ∧ (i : Int) < (l.length : Int)) := by omega
    have h2 := cl_at (k := .u8) hl
    have h4 := wrap_next hi' (show l.length ≤ 281474976710656 by omega)
    rw [hl] at hs
    refine .inl ⟨(i + 1, sumStep a y, sumStep2 b (sumStep a y)), ?_, by simp only; omega, hi', by simp only [drop_next hl]; exact hs⟩
    simp (maxSteps := 4000000) -implicitDefEqProofs [b79_0, S_SumOf, List.take, List.drop, fromRo, h1, h2, h4, hi', sumStep, sumStep2]
    change _ = _
    kernel_rfl
theorem r_SumOf (l : List Int) (hn : l.length ≤ 2147483647) : runRO (X tab) tab 79 [.v false [.ro l.length (cl .u8 l)]] = some (.v false [.int .i64 (sumOf l)], []) := by
  unfold runRO
  simp (maxSteps := 4000000) -implicitDefEqProofs [tab79, a79, List.take, List.drop]
  rw [loop_SumOf l hn (by change _ = _; kernel_rfl)]
  simp (maxSteps := 4000000) -implicitDefEqProofs [Z_SumOf, List.take, List.drop, memL, List.range, List.range.loop, sumOf]
theorem r_SumOf_nil : runRO (X tab) tab 79 [.v false [.nil]] = some (.v false [.int .i64 (sumOf [])], []) := runRO_mono (exec_le_X 60) (by kernel_rfl)
def S_sSumOf (l : List Int) (s : Nat × Int × Int) : XS := ⟨⟨[.v false [.ro l.length (cl .u8 l)], .bad, .bad, .v false [.int .i64 (s.2.1)], .v false [.int .i64 (s.2.2)], .v false [.int .i64 (s.1)], .bad, .bad, .bad, .bad, .bad, .bad, .bad, .bad, .bad, .bad, .bad, .bad, .bad, .bad, .bad, .bad, .bad, .bad, .bad, .bad, .bad, .bad], memL [], []⟩, 0⟩
def Z_sSumOf (p : Int × Int) : XS := ⟨⟨[.bad, .bad, .bad, .v false [.int .i64 (p.1)], .v false [.int .i64 (p.2)], .bad, .bad, .bad, .bad, .bad, .bad, .bad, .bad, .bad, .bad, .bad, .bad, .bad, .bad, .bad, .bad, .bad, .bad, .bad, .bad, .bad, .bad, .bad], memL [], []⟩, 0⟩
theorem loop_sSumOf (l : List Int) (hn : l.length ≤ 2147483647) {x : XS} (hx : head true d67_0 x = S_sSumOf l (0, 1, 0)) : X tab l67_0 x = some (.exit 0, Z_sSumOf (sumF 1 0 l)) := by
  refine loopX (σ := Nat × Int × Int) (S_sSumOf l) (fun s => l.length - s.1) (fun s => s.1 ≤ l.length ∧ sumF s.2.1 s.2.2 (l.drop s.1) = sumF 1 0 l) _ (fun ⟨i, a, b⟩ ⟨hi, hs⟩ => ?_) (0, 1, 0) ⟨Nat.zero_le _, rfl⟩ x hx
  simp only at hi hs
  cases hl : l.drop i with
  | nil =>
    obtain rfl := drop_end hl hi
    rw [← hs, hl]
    refine .inr ⟨?_, by simp⟩
    simp (maxSteps := 4000000) -implicitDefEqProofs [b67_0, S_sSumOf, List.take, List.drop, sumF]
    change _ = _
    kernel_rfl
  | cons y r =>
    have hi' := drop_lt hl
    have h1 : (0 ≤ (i : Int) ∧ (i : Int) < (l.length : Int)) := by omega
    have h2 := cl_at (k := .u8) hl
    have h4 := wrap_next hi' (show l.length ≤ 281474976710656 by omega)
    rw [hl] at hs
    refine .inl ⟨(i + 1, sumStep a y, sumStep2 b (sumStep a y)), ?_, by simp only; omega, hi', by simp only [drop_next hl]; exact hs⟩
    simp (maxSteps := 4000000) -implicitDefEqProofs [b67_0, S_sSumOf, List.take, List.drop, fromRo, h1, h2, h4, hi', sumStep, sumStep2]
    change _ = _
    kernel_rfl
theorem r_sSumOf (l : List Int) (hn : l.length ≤ 2147483647) : runRO (X tab) tab 67 [.v false [.ro l.length (cl .u8 l)]] = some (.v false [.int .i64 (sumOf l)], []) := by
  unfold runRO
  simp (maxSteps := 4000000) -implicitDefEqProofs [tab67, a67, List.take, List.drop]
  rw [loop_sSumOf l hn (by change _ = _; kernel_rfl)]
  simp (maxSteps := 4000000) -implicitDefEqProofs [Z_sSumOf, List.take, List.drop, memL, List.range, List.range.loop, sumOf]
/-! Numbers as bytes. -/
def initN (n : Nat) : List Int := if h : n > 127 then ((n % 128 + 128 : Nat) : Int) :: initN (n / 128) else []
termination_by n
def lastN (n : Nat) : Nat := if h : n > 127 then lastN (n / 128) else n
termination_by n
theorem initN_big {n : Nat} (h : n > 127) : initN n = ((n % 128 + 128 : Nat) : Int) :: initN (n / 128) := by rw [initN, dif_pos h]
theorem initN_small {n : Nat} (h : ¬ n > 127) : initN n = [] := by rw [initN, dif_neg h]
theorem lastN_big {n : Nat} (h : n > 127) : lastN n = lastN (n / 128) := by rw [lastN, dif_pos h]
theorem lastN_small {n : Nat} (h : ¬ n > 127) : lastN n = n := by rw [lastN, dif_neg h]
theorem initN_length : ∀ (k n : Nat), n < 128 ^ (k + 1) → (initN n).length ≤ k := by
  intro k
  induction k with
  | zero => intro n h; rw [initN_small (by omega)]; simp
  | succ k ih =>
    intro n h
    by_cases h1 : n > 127
    · rw [initN_big h1, List.length_cons]
      have := ih (n / 128) (by rw [Nat.div_lt_iff_lt_mul (by omega)]; rw [Nat.pow_succ] at h; exact h)
      omega
    · rw [initN_small h1]; simp
theorem initN_five {n : Nat} (h : n ≤ 2147483647) : (initN n).length ≤ 4 := initN_length 4 n (by omega)
theorem lastN_lt : ∀ (n : Nat), lastN n < 128 := by
  intro n
  induction n using Nat.strongRecOn with
  | _ n ih =>
    by_cases h : n > 127
    · rw [lastN_big h]; exact ih _ (by omega)
    · rw [lastN_small h]; omega
def putN (n : Nat) : List Int := initN n ++ [(lastN n : Int)]
def putNum (n : Int) : List Int := if rng n 0 2147483647 = true then putN n.toNat else []
theorem putN_five {n : Nat} (h : n ≤ 2147483647) : (putN n).length ≤ 5 := by have := initN_five h; simp [putN]; omega
theorem u8_id {n : Nat} (h : n < 256) : IntKind.u8.wrap (n : Int) = n := by simp only [IntKind.wrap, IntKind.bits, IntKind.signed]; simp; omega
def S_sPutNum (s : Nat × List Int) : XS := ⟨⟨[.v false [.int .i64 (s.1)], .bad, .bad, .v false [.sl 0 [] 0 s.2.length], .bad, .bad, .bad, .bad, .bad, .bad, .bad, .bad, .bad, .bad, .bad, .bad, .bad, .bad, .bad, .bad, .bad, .bad, .bad, .bad, .bad], memL [some (.row 1 (cl .u8 s.2))], []⟩, 1⟩
theorem loop_sPutNum (n : Nat) (hn : n ≤ 2147483647) {x : XS} (hx : head true d68_0 x = S_sPutNum (n, [])) : X tab l68_0 x = some (.exit 0, S_sPutNum (lastN n, initN n)) := by
  refine loopX (σ := Nat × List Int) S_sPutNum (fun s => s.1) (fun s => s.2 ++ initN s.1 = initN n ∧ lastN s.1 = lastN n ∧ s.1 ≤ n) _ (fun ⟨a, l⟩ ⟨h1, h2, h3⟩ => ?_) (n, []) ⟨rfl, rfl, Nat.le_refl _⟩ x hx
  simp only at h1 h2 h3
  have hl := initN_five hn
  rw [← h1, List.length_append] at hl
  by_cases h : a > 127
  · have h' : (127 : Int) < (a : Int) := by omega
    have h4 : IntKind.i64.wrap ((a : Int).tmod 128 + 128) = ((a % 128 + 128 : Nat) : Int) := by
      rw [Int.tmod_eq_emod_of_nonneg (by omega), wrap_id (by omega) (by omega)]; omega
    have h5 : IntKind.i64.wrap ((a : Int).tdiv 128) = ((a / 128 : Nat) : Int) := by
      rw [Int.tdiv_eq_ediv_of_nonneg (by omega), wrap_id (by omega) (by omega)]; omega
    have h5' : IntKind.i64.wrap ((a : Int) / 128) = ((a / 128 : Nat) : Int) := by
      rw [wrap_id (by omega) (by omega)]; omega
    have h6 : IntKind.u8.wrap ((a % 128 + 128 : Nat) : Int) = ((a % 128 + 128 : Nat) : Int) := u8_id (by omega)
    have h7 : l.length + 1 ≤ 140737488355328 := by omega
    refine .inl ⟨(a / 128, l ++ [((a % 128 + 128 : Nat) : Int)]), ?_, by simp only; omega, by simp only [List.append_assoc, List.singleton_append]; rw [← initN_big h]; exact h1, by simp only; rw [← lastN_big h]; exact h2, by simp only; omega⟩
    simp only [S_sPutNum, List.length_append, List.length_singleton, ← cl_app1]
    simp (maxSteps := 4000000) -implicitDefEqProofs [b68_0, List.take, List.drop, upd, rest, kill, mapMem, h', h4, h5, h5', h6, h7, cl_length, cl_flat, -Int.natCast_add, -Int.natCast_emod, -Int.natCast_ediv, -Int.ofNat_eq_natCast]
    change _ = _
    kernel_rfl
  · have h' : ¬ (127 : Int) < (a : Int) := by omega
    rw [initN_small h, List.append_nil] at h1
    rw [lastN_small h] at h2
    subst h2
    rw [← h1]
    refine .inr ⟨?_, by simp⟩
    simp (maxSteps := 4000000) -implicitDefEqProofs [b68_0, S_sPutNum, List.take, List.drop, h']
    change _ = _
    kernel_rfl
theorem r_sPutNum (n : Nat) (hn : n ≤ 2147483647) : runRO (X tab) tab 68 [.v false [.int .i64 n]] = some (.v false [.sl 0 [] 0 (putN n).length], [.row 1 (cl .u8 (putN n))]) := by
  have hl := initN_five hn
  have h1 : rng n 0 2147483647 = true := by rw [rng_iff]; omega
  have h2 : ¬ ((n : Int) < 0) := by omega
  have h3 : ¬ (2147483647 < (n : Int)) := by omega
  have h4 : IntKind.u8.wrap (lastN n : Int) = lastN n := u8_id (by have := lastN_lt n; omega)
  have h7 : (initN n).length + 1 ≤ 140737488355328 := by omega
  unfold runRO
  simp (maxSteps := 4000000) -implicitDefEqProofs [tab68, a68, List.take, List.drop, upd, rest, kill, mapMem, List.range, List.range.loop, r_l1In, h1, h2, h3]
  rw [loop_sPutNum n hn (by change _ = _; kernel_rfl)]
  simp (maxSteps := 4000000) -implicitDefEqProofs [S_sPutNum, List.take, List.drop, upd, rest, kill, mapMem, memL, List.range, List.range.loop, h4, h7, cl_length, cl_flat, putN]
  simp [cl]
theorem r_sPutNum_bad (n : Int) (hn : rng n 0 2147483647 = false) : runRO (X tab) tab 68 [.v false [.int .i64 n]] = some (.v false [.sl 0 [] 0 0], [.row 1 []]) := by
  have h1 := rng_not.1 hn
  unfold runRO
  by_cases h2 : n < 0
  · simp (maxSteps := 4000000) -implicitDefEqProofs [tab68, a68, List.take, List.drop, upd, rest, kill, mapMem, List.range, List.range.loop, memL, r_l1In, hn, h2]
  · have h3 : 2147483647 < n := by omega
    simp (maxSteps := 4000000) -implicitDefEqProofs [tab68, a68, List.take, List.drop, upd, rest, kill, mapMem, List.range, List.range.loop, memL, r_l1In, hn, h2, h3]
def S_PutNum (s : Nat × List Int) : XS := ⟨⟨[.v false [.int .i64 (s.1)], .bad, .bad, .v false [.sl 0 [] 0 s.2.length], .bad, .bad, .bad, .bad, .bad, .bad, .bad, .bad, .bad, .bad, .bad, .bad, .bad, .bad, .bad, .bad, .bad, .bad, .bad, .bad, .bad, .bad, .bad], memL [some (.row 1 (cl .u8 s.2))], []⟩, 1⟩
theorem loop_PutNum (n : Nat) (hn : n ≤ 2147483647) {x : XS} (hx : head true d80_0 x = S_PutNum (n, [])) : X tab l80_0 x = some (.exit 0, S_PutNum (lastN n, initN n)) := by
  refine loopX (σ := Nat × List Int) S_PutNum (fun s => s.1) (fun s => s.2 ++ initN s.1 = initN n ∧ lastN s.1 = lastN n ∧ s.1 ≤ n) _ (fun ⟨a, l⟩ ⟨h1, h2, h3⟩ => ?_) (n, []) ⟨rfl, rfl, Nat.le_refl _⟩ x hx
  simp only at h1 h2 h3
  have hl := initN_five hn
  rw [← h1, List.length_append] at hl
  by_cases h : a > 127
  · have h' : (127 : Int) < (a : Int) := by omega
    have h4 : IntKind.i64.wrap ((a : Int).tmod 128 + 128) = ((a % 128 + 128 : Nat) : Int) := by
      rw [Int.tmod_eq_emod_of_nonneg (by omega), wrap_id (by omega) (by omega)]; omega
    have h5 : IntKind.i64.wrap ((a : Int).tdiv 128) = ((a / 128 : Nat) : Int) := by
      rw [Int.tdiv_eq_ediv_of_nonneg (by omega), wrap_id (by omega) (by omega)]; omega
    have h5' : IntKind.i64.wrap ((a : Int) / 128) = ((a / 128 : Nat) : Int) := by
      rw [wrap_id (by omega) (by omega)]; omega
    have h6 : IntKind.u8.wrap ((a % 128 + 128 : Nat) : Int) = ((a % 128 + 128 : Nat) : Int) := u8_id (by omega)
    have h7 : l.length + 1 ≤ 140737488355328 := by omega
    refine .inl ⟨(a / 128, l ++ [((a % 128 + 128 : Nat) : Int)]), ?_, by simp only; omega, by simp only [List.append_assoc, List.singleton_append]; rw [← initN_big h]; exact h1, by simp only; rw [← lastN_big h]; exact h2, by simp only; omega⟩
    simp only [S_PutNum, List.length_append, List.length_singleton, ← cl_app1]
    simp (maxSteps := 4000000) -implicitDefEqProofs [b80_0, List.take, List.drop, upd, rest, kill, mapMem, h', h4, h5, h5', h6, h7, cl_length, cl_flat, -Int.natCast_add, -Int.natCast_emod, -Int.natCast_ediv, -Int.ofNat_eq_natCast]
    change _ = _
    kernel_rfl
  · have h' : ¬ (127 : Int) < (a : Int) := by omega
    rw [initN_small h, List.append_nil] at h1
    rw [lastN_small h] at h2
    subst h2
    rw [← h1]
    refine .inr ⟨?_, by simp⟩
    simp (maxSteps := 4000000) -implicitDefEqProofs [b80_0, S_PutNum, List.take, List.drop, h']
    change _ = _
    kernel_rfl
theorem r_PutNum (n : Nat) (hn : n ≤ 2147483647) : runRO (X tab) tab 80 [.v false [.int .i64 n]] = some (.v false [.sl 0 [] 0 (putN n).length], [.row 1 (cl .u8 (putN n))]) := by
  have hl := initN_five hn
  have h1 : rng n 0 2147483647 = true := by rw [rng_iff]; omega
  have h2 : ¬ ((n : Int) < 0) := by omega
  have h3 : ¬ (2147483647 < (n : Int)) := by omega
  have h4 : IntKind.u8.wrap (lastN n : Int) = lastN n := u8_id (by have := lastN_lt n; omega)
  have h7 : (initN n).length + 1 ≤ 140737488355328 := by omega
  unfold runRO
  simp (maxSteps := 4000000) -implicitDefEqProofs [tab80, a80, List.take, List.drop, upd, rest, kill, mapMem, List.range, List.range.loop,  h1, h2, h3]
  rw [loop_PutNum n hn (by change _ = _; kernel_rfl)]
  simp (maxSteps := 4000000) -implicitDefEqProofs [S_PutNum, List.take, List.drop, upd, rest, kill, mapMem, memL, List.range, List.range.loop, h4, h7, cl_length, cl_flat, putN]
  simp [cl]
theorem r_PutNum_bad (n : Int) (hn : rng n 0 2147483647 = false) : runRO (X tab) tab 80 [.v false [.int .i64 n]] = some (.v false [.nil], []) := by
  have h1 := rng_not.1 hn
  unfold runRO
  by_cases h2 : n < 0
  · simp (maxSteps := 4000000) -implicitDefEqProofs [tab80, a80, List.take, List.drop, upd, rest, kill, mapMem, List.range, List.range.loop, memL,  hn, h2]
  · have h3 : 2147483647 < n := by omega
    simp (maxSteps := 4000000) -implicitDefEqProofs [tab80, a80, List.take, List.drop, upd, rest, kill, mapMem, List.range, List.range.loop, memL,  hn, h2, h3]

def S_l2Has (l : List Int) (y : Int) (i : Nat) : XS := ⟨⟨[.v false [.ro l.length (cl .i64 l)], .v false [.int .i64 (y)], .bad, .bad, .bad, .v false [.int .i64 (i)], .bad, .bad, .bad, .bad, .bad, .bad, .bad, .bad, .bad, .bad, .bad, .bad], memL [], []⟩, 0⟩
def R_l2Has (b : Bool) : Option (AE × XS) := if b = true then some (.ret, ⟨⟨[.bad, .bad, .bad, .bad, .v false [.bool (true)], .bad, .bad, .bad, .bad, .bad, .bad, .bad, .bad, .bad, .bad, .bad, .bad, .bad], memL [], []⟩, 0⟩) else some (.exit 0, ⟨⟨[.bad, .bad, .bad, .bad, .bad, .bad, .bad, .bad, .bad, .bad, .bad, .bad, .bad, .bad, .bad, .bad, .bad, .bad], memL [], []⟩, 0⟩)
theorem loop_l2Has (l : List Int) (y : Int) (hn : l.length ≤ 1048576) {x : XS} (hx : head true d97_0 x = S_l2Has l y 0) : X tab l97_0 x = R_l2Has (decide (y ∈ l)) := by
  refine loopX (σ := Nat) (S_l2Has l y) (fun i => l.length - i) (fun i => i ≤ l.length ∧ (y ∈ l.drop i ↔ y ∈ l)) _ (fun i ⟨hi, hs⟩ => ?_) 0 ⟨Nat.zero_le _, by simp⟩ x hx
  cases hl : l.drop i with
  | nil =>
    have hb : decide (y ∈ l) = false := by rw [decide_eq_false_iff_not, ← hs, hl]; simp
    obtain rfl := drop_end hl hi
    rw [hb]
    refine .inr ⟨?_, by simp [R_l2Has]⟩
    simp (maxSteps := 4000000) -implicitDefEqProofs [b97_0, S_l2Has, List.take, List.drop, R_l2Has]
    change _ = _
    kernel_rfl
  | cons z r =>
    have hi' := drop_lt hl
    have h1 : (0 ≤ (i : Int) ∧ (i : Int) < (l.length : Int)) := by omega
    have h2 := cl_at (k := .i64) hl
    have h4 := wrap_next hi' (show l.length ≤ 281474976710656 by omega)
    cases hp : (z == y) with
    | true =>
      have : y = z := (beq_iff_eq.1 hp).symm
      subst this
      have hb : decide (y ∈ l) = true := by rw [decide_eq_true_eq, ← hs, hl]; simp
      rw [hb]
      refine .inr ⟨?_, by simp [R_l2Has]⟩
      simp (maxSteps := 4000000) -implicitDefEqProofs [b97_0, S_l2Has, List.take, List.drop, List.range, List.range.loop, fromRo, h1, h2, h4, hi', R_l2Has]
      change _ = _
      kernel_rfl
    | false =>
      have hne : ¬ z = y := beq_eq_false_iff_ne.1 hp
      refine .inl ⟨i + 1, ?_, by omega, hi', by rw [drop_next hl, ← hs, hl]; simp [show ¬ y = z from fun e => hne e.symm]⟩
      simp (maxSteps := 4000000) -implicitDefEqProofs [b97_0, S_l2Has, List.take, List.drop, List.range, List.range.loop, fromRo, h1, h2, h4, hi', hp]
      change _ = _
      kernel_rfl
theorem r_l2Has (l : List Int) (y : Int) (hn : l.length ≤ 1048576) : runRO (X tab) tab 97 [.v false [.ro l.length (cl .i64 l)], .v false [.int .i64 y]] = some (.v false [.bool (decide (y ∈ l))], []) := by
  unfold runRO
  simp (maxSteps := 4000000) -implicitDefEqProofs [tab97, a97, List.take, List.drop]
  rw [loop_l2Has l y hn (by change _ = _; kernel_rfl)]
  cases decide (y ∈ l) <;> simp (maxSteps := 4000000) -implicitDefEqProofs [R_l2Has, List.take, List.drop, memL, List.range, List.range.loop]
def S_Index (l : List Int) (y : Int) (i : Nat) : XS := ⟨⟨[.v false [.ro l.length (cl .i64 l)], .v false [.int .i64 (y)], .bad, .bad, .bad, .bad, .bad, .v false [.int .i64 (l.length)], .v false [.int .i64 (i)], .bad, .bad, .bad, .bad, .bad, .bad, .bad, .bad, .bad, .bad], memL [], []⟩, 0⟩
def R_Index : Option Nat → Option (AE × XS)
  | some j => some (.ret, ⟨⟨[.bad, .bad, .bad, .bad, .v false [.int .i64 (j)], .bad, .bad, .bad, .bad, .bad, .bad, .bad, .bad, .bad, .bad, .bad, .bad, .bad, .bad], memL [], []⟩, 0⟩)
  | none => some (.exit 0, ⟨⟨[.bad, .bad, .bad, .bad, .bad, .bad, .bad, .bad, .bad, .bad, .bad, .bad, .bad, .bad, .bad, .bad, .bad, .bad, .bad], memL [], []⟩, 0⟩)
theorem loop_Index (l : List Int) (y : Int) (hn : l.length ≤ 1048576) {x : XS} (hx : head true d116_0 x = S_Index l y 0) : X tab l116_0 x = R_Index (fidx (fun z => y == z) 0 l) := by
  refine loopX (σ := Nat) (S_Index l y) (fun i => l.length - i) (fun i => i ≤ l.length ∧ fidx (fun z => y == z) i (l.drop i) = fidx (fun z => y == z) 0 l) _ (fun i ⟨hi, hs⟩ => ?_) 0 ⟨Nat.zero_le _, by simp⟩ x hx
  rw [← hs]
  cases hl : l.drop i with
  | nil =>
    obtain rfl := drop_end hl hi
    refine .inr ⟨?_, by simp [R_Index, fidx]⟩
    simp (maxSteps := 4000000) -implicitDefEqProofs [b116_0, S_Index, List.take, List.drop, R_Index, fidx]
    change _ = _
    kernel_rfl
  | cons z r =>
    have hi' := drop_lt hl
    have h1 : (0 ≤ (i : Int) ∧ (i : Int) < (l.length : Int)) := by omega
    have h2 := cl_at (k := .i64) hl
    have h4 := wrap_next hi' (show l.length ≤ 281474976710656 by omega)
    cases hp : (y == z) with
    | true =>
      refine .inr ⟨?_, by simp [R_Index, fidx, hp]⟩
      simp (maxSteps := 4000000) -implicitDefEqProofs [b116_0, S_Index, List.take, List.drop, List.range, List.range.loop, fromRo, h1, h2, h4, hi', hp, R_Index, fidx]
      change _ = _
      kernel_rfl
    | false =>
      refine .inl ⟨i + 1, ?_, by omega, hi', by rw [drop_next hl]; simp [fidx, hp]⟩
      simp (maxSteps := 4000000) -implicitDefEqProofs [b116_0, S_Index, List.take, List.drop, List.range, List.range.loop, fromRo, h1, h2, h4, hi', hp]
      change _ = _
      kernel_rfl
theorem r_Index (l : List Int) (y : Int) (hn : l.length ≤ 1048576) : runRO (X tab) tab 116 [.v false [.ro l.length (cl .i64 l)], .v false [.int .i64 y]] = some (.v false [.int .i64 (match fidx (fun z => y == z) 0 l with | some j => (j : Int) | none => -1)], []) := by
  unfold runRO
  simp (maxSteps := 4000000) -implicitDefEqProofs [tab116, a116, List.take, List.drop]
  rw [loop_Index l y hn (by change _ = _; kernel_rfl)]
  cases fidx (fun z => y == z) 0 l <;> simp (maxSteps := 4000000) -implicitDefEqProofs [R_Index, List.take, List.drop, memL, List.range, List.range.loop]
theorem any_mem (l : List Int) (y : Int) : (l.any fun z => y == z) = decide (y ∈ l) := by
  induction l with
  | nil => rfl
  | cons x r ih =>
    rw [List.any_cons, ih]
    by_cases h : y = x <;> simp [h]
theorem r_Contains (l : List Int) (y : Int) (hn : l.length ≤ 1048576) : runRO (X tab) tab 111 [.v false [.ro l.length (cl .i64 l)], .v false [.int .i64 y]] = some (.v false [.bool (decide (y ∈ l))], []) := by
  have h := r_Index l y hn
  rw [← any_mem, ← fidx_isSome (i := 0)]
  unfold runRO
  cases hp : fidx (fun z => y == z) 0 l <;> rw [hp] at h <;> simp (maxSteps := 4000000) -implicitDefEqProofs [tab111, a111, List.take, List.drop, List.range, List.range.loop, memL, h]
def digestsOk (l : List Int) : Bool := decide (l.length = 8) && !(l.any fun n => decide (n < 0))
theorem f_DigestsOk : Looks 78 [] (fun _ => True) (fun n => decide (n < 0)) 256 := by
  intro y sl m up nx _
  unfold runThru
  simp (maxSteps := 4000000) -implicitDefEqProofs [tab78, a78, List.take, List.drop, List.range, List.range.loop, resOf, resSV]
theorem r_DigestsOk (l : List Int) (hn : l.length ≤ 1048576) : runRO (X tab) tab 49 [.v false [.ro l.length (cl .i64 l)]] = some (.v false [.bool (digestsOk l)], []) := by
  have h := r_ContainsFunc l _ _ _ f_DigestsOk hn
  unfold runRO
  by_cases h8 : l.length = 8
  · have h8' : ((l.length : Int) == 8) = true := by rw [beq_iff_eq]; omega
    simp only [digestsOk, h8, decide_true, Bool.true_and]
    generalize (l.any fun n => decide (n < 0)) = q at h
    rw [h8] at h
    simp (maxSteps := 4000000) -implicitDefEqProofs [tab49, a49, List.take, List.drop, List.range, List.range.loop, memL, h, h8']
  · have h8' : ((l.length : Int) == 8) = false := by rw [beq_eq_false_iff_ne]; omega
    simp (maxSteps := 4000000) -implicitDefEqProofs [tab49, a49, List.take, List.drop, List.range, List.range.loop, memL, h, h8', digestsOk, h8]
def S_sDigestsOk (l : List Int) (i : Nat) : XS := ⟨⟨[.v false [.ro l.length (cl .i64 l)], .bad, .bad, .v false [.int .i64 (i)], .bad, .bad, .bad, .bad, .bad, .bad, .bad, .bad, .bad, .bad, .bad, .bad, .bad, .bad], memL [], []⟩, 0⟩
def R_sDigestsOk (l : List Int) (bad : Bool) : Option (AE × XS) := if bad = true then some (.ret, ⟨⟨[.bad, .bad, .v false [.bool (false)], .bad, .bad, .bad, .bad, .bad, .bad, .bad, .bad, .bad, .bad, .bad, .bad, .bad, .bad, .bad], memL [], []⟩, 0⟩) else some (.exit 0, ⟨⟨[.v false [.ro l.length (cl .i64 l)], .bad, .bad, .bad, .bad, .bad, .bad, .bad, .bad, .bad, .bad, .bad, .bad, .bad, .bad, .bad, .bad, .bad], memL [], []⟩, 0⟩)
theorem loop_sDigestsOk (l : List Int) (hn : l.length ≤ 1048576) {x : XS} (hx : head true d40_0 x = S_sDigestsOk l 0) : X tab l40_0 x = R_sDigestsOk l (l.any fun n => decide (n < 0)) := by
  refine loopX (σ := Nat) (S_sDigestsOk l) (fun i => l.length - i) (fun i => i ≤ l.length ∧ ((l.drop i).any fun n => decide (n < 0)) = l.any fun n => decide (n < 0)) _ (fun i ⟨hi, hs⟩ => ?_) 0 ⟨Nat.zero_le _, rfl⟩ x hx
  rw [← hs]
  cases hl : l.drop i with
  | nil =>
    obtain rfl := drop_end hl hi
    refine .inr ⟨?_, by simp [R_sDigestsOk]⟩
    simp (maxSteps := 4000000) -implicitDefEqProofs [b40_0, S_sDigestsOk, List.take, List.drop, R_sDigestsOk]
    change _ = _
    kernel_rfl
  | cons y r =>
    have hi' := drop_lt hl
    have h1 : (0 ≤ (i : Int) ∧ (i : Int) < (l.length : Int)) := by omega
    have h2 := cl_at (k := .i64) hl
    have h4 := wrap_next hi' (show l.length ≤ 281474976710656 by omega)
    rw [List.any_cons]
    by_cases hp : y < 0
    · refine .inr ⟨?_, by simp [R_sDigestsOk, hp]⟩
      simp (maxSteps := 4000000) -implicitDefEqProofs [b40_0, S_sDigestsOk, List.take, List.drop, List.range, List.range.loop, fromRo, h1, h2, h4, hi', hp, R_sDigestsOk]
      change _ = _
      kernel_rfl
    · refine .inl ⟨i + 1, ?_, by omega, hi', by rw [drop_next hl]; simp [hp]⟩
      simp (maxSteps := 4000000) -implicitDefEqProofs [b40_0, S_sDigestsOk, List.take, List.drop, List.range, List.range.loop, fromRo, h1, h2, h4, hi', hp]
      change _ = _
      kernel_rfl
theorem r_sDigestsOk (l : List Int) (hn : l.length ≤ 1048576) : runRO (X tab) tab 40 [.v false [.ro l.length (cl .i64 l)]] = some (.v false [.bool (digestsOk l)], []) := by
  unfold runRO
  simp (maxSteps := 4000000) -implicitDefEqProofs [tab40, a40, List.take, List.drop]
  rw [loop_sDigestsOk l hn (by change _ = _; kernel_rfl)]
  unfold digestsOk
  cases (l.any fun n => decide (n < 0)) with
  | true => simp (maxSteps := 4000000) -implicitDefEqProofs [R_sDigestsOk, List.take, List.drop, memL, List.range, List.range.loop]
  | false =>
    by_cases h8 : l.length = 8
    · have h8' : ((l.length : Int) == 8) = true := by rw [beq_iff_eq]; omega
      simp (maxSteps := 4000000) -implicitDefEqProofs [R_sDigestsOk, List.take, List.drop, memL, List.range, List.range.loop, h8, h8']
    · have h8' : ((l.length : Int) == 8) = false := by rw [beq_eq_false_iff_ne]; omega
      simp (maxSteps := 4000000) -implicitDefEqProofs [R_sDigestsOk, List.take, List.drop, memL, List.range, List.range.loop, h8, h8']
def hotF (pre : List Int) : List Int → Bool
  | [] => true
  | y :: r => (rng y 0 3 && !decide (y ∈ pre)) && hotF (pre ++ [y]) r
def hotOk (l : List Int) : Bool := hotF [] l && decide (l.length ≤ 2)
theorem take_next {l : List Int} {i : Nat} {y : Int} {r : List Int} (h : l.drop i = y :: r) : l.take (i + 1) = l.take i ++ [y] := by
  have hi := drop_lt h
  have hx : l[i] = y := by
    have := List.drop_eq_getElem_cons hi
    rw [h] at this
    exact (List.cons.inj this).1.symm
  rw [← hx, List.take_append_getElem]

theorem imageOk_at {l : List Int} {i : Int} (h : imageOk l = true) (hi : rng i 0 7 = true) : ∃ y : Nat, ∃ r, l.drop i.toNat = (y : Int) :: r ∧ y ≤ 200 := by
  simp only [imageOk, Bool.and_eq_true, decide_eq_true_eq, Bool.not_eq_true', List.any_eq_false] at h
  have hi' := rng_iff.1 hi
  have hlt : i.toNat < l.length := by omega
  have hy := h.2 l[i.toNat] (List.getElem_mem hlt)
  have hy' : 0 ≤ l[i.toNat] ∧ l[i.toNat] ≤ 200 := by
    rw [← rng_iff]
    simpa using hy
  refine ⟨l[i.toNat].toNat, l.drop (i.toNat + 1), ?_, by omega⟩
  rw [List.drop_eq_getElem_cons hlt, Int.toNat_of_nonneg hy'.1]
def digest (l : List Int) (i : Int) : Int := if (imageOk l && rng i 0 7) = true then sumOf (putN (l.getD i.toNat 0).toNat) else 0
theorem r_sDigest (l : List Int) (hn : l.length ≤ 1048576) (i : Int) : runRO (X tab) tab 41 [.v false [.ro l.length (cl .i64 l)], .v false [.int .i64 i]] = some (.v false [.int .i64 (digest l i)], []) := by
  have h1 := r_sImageOk l hn
  have h2 := r_l1In i 0 7
  unfold runRO
  cases hI : imageOk l with
  | false =>
    rw [hI] at h1
    simp (maxSteps := 4000000) -implicitDefEqProofs [tab41, a41, List.take, List.drop, List.range, List.range.loop, memL, h1, digest, hI]
  | true =>
    rw [hI] at h1
    cases hB : rng i 0 7 with
    | false =>
      rw [hB] at h2
      simp (maxSteps := 4000000) -implicitDefEqProofs [tab41, a41, List.take, List.drop, List.range, List.range.loop, memL, h1, h2, digest, hI, hB]
    | true =>
      rw [hB] at h2
      obtain ⟨y, r, hd, hy⟩ := imageOk_at hI hB
      have hg : l.getD i.toNat 0 = (y : Int) := by
        rw [List.getD_eq_getElem?_getD]
        have := congrArg (fun q : List Int => q[0]?) hd
        simp only [List.getElem?_drop, Nat.add_zero] at this
        rw [this]; rfl
      have hi := rng_iff.1 hB
      have hlt := drop_lt hd
      have h8 : l.length = 8 := by
        simp only [imageOk, Bool.and_eq_true, decide_eq_true_eq] at hI
        exact hI.1
      have h3 : 0 ≤ i ∧ i < (l.length : Int) := by omega
      have h4 := cl_at (k := .i64) hd
      have h5 := r_sPutNum y (by omega)
      have h6 := r_sSumOf (putN y) (by have := putN_five (n := y) (by omega); omega)
      have e : digest l i = sumOf (putN y) := by
        unfold digest
        rw [hI, hB, hg]
        rfl
      rw [e]
      simp (maxSteps := 4000000) -implicitDefEqProofs [tab41, a41, List.take, List.drop, List.range, List.range.loop, memL, h1, h2, h3, h4, h5, h6, fromRo, cellsAt, cl_self, cl_length]
theorem r_Digest (l : List Int) (hn : l.length ≤ 1048576) (i : Int) : runRO (X tab) tab 51 [.v false [.ro l.length (cl .i64 l)], .v false [.int .i64 i]] = some (.v false [.int .i64 (digest l i)], []) := by
  have h1 := r_ImageOk l hn
  have h2 := r_isCell i
  unfold runRO
  cases hI : imageOk l with
  | false =>
    rw [hI] at h1
    simp (maxSteps := 4000000) -implicitDefEqProofs [tab51, a51, List.take, List.drop, List.range, List.range.loop, memL, h1, digest, hI]
  | true =>
    rw [hI] at h1
    cases hB : rng i 0 7 with
    | false =>
      rw [hB] at h2
      simp (maxSteps := 4000000) -implicitDefEqProofs [tab51, a51, List.take, List.drop, List.range, List.range.loop, memL, h1, h2, digest, hI, hB]
    | true =>
      rw [hB] at h2
      obtain ⟨y, r, hd, hy⟩ := imageOk_at hI hB
      have hg : l.getD i.toNat 0 = (y : Int) := by
        rw [List.getD_eq_getElem?_getD]
        have := congrArg (fun q : List Int => q[0]?) hd
        simp only [List.getElem?_drop, Nat.add_zero] at this
        rw [this]; rfl
      have hi := rng_iff.1 hB
      have hlt := drop_lt hd
      have h8 : l.length = 8 := by
        simp only [imageOk, Bool.and_eq_true, decide_eq_true_eq] at hI
        exact hI.1
      have h3 : 0 ≤ i ∧ i < (l.length : Int) := by omega
      have h4 := cl_at (k := .i64) hd
      have h5 := r_PutNum y (by omega)
      have h6 := r_SumOf (putN y) (by have := putN_five (n := y) (by omega); omega)
      have e : digest l i = sumOf (putN y) := by
        unfold digest
        rw [hI, hB, hg]
        rfl
      rw [e]
      simp (maxSteps := 4000000) -implicitDefEqProofs [tab51, a51, List.take, List.drop, List.range, List.range.loop, memL, h1, h2, h3, h4, h5, h6, fromRo, cellsAt, cl_self, cl_length]

def digF (l : List Int) (i : Nat) : List Int := (List.range i).map fun (j : Nat) => digest l j
theorem digF_succ (l : List Int) (i : Nat) : digF l (i + 1) = digF l i ++ [digest l i] := by simp [digF, List.range_succ]
theorem digF_length (l : List Int) (i : Nat) : (digF l i).length = i := by simp [digF]
def digests (l : List Int) : List Int := if imageOk l = true then digF l 8 else []
theorem imageOk_len {l : List Int} (h : imageOk l = true) : l.length = 8 := by
  simp only [imageOk, Bool.and_eq_true, decide_eq_true_eq] at h
  exact h.1
def S_sDigests (l : List Int) (i : Nat) : XS := ⟨⟨[.v false [.ro l.length (cl .i64 l)], .bad, .bad, .v false [.sl 0 [] 0 i], .v false [.int .i64 (i)], .bad, .bad, .bad, .bad, .bad, .bad, .bad, .bad, .bad, .bad, .bad, .bad, .bad, .bad, .bad, .bad], memL [some (.row 1 (cl .i64 (digF l i)))], []⟩, 1⟩
def Z_sDigests (l : List Int) : XS := ⟨⟨[.bad, .bad, .bad, .v false [.sl 0 [] 0 8], .bad, .bad, .bad, .bad, .bad, .bad, .bad, .bad, .bad, .bad, .bad, .bad, .bad, .bad, .bad, .bad, .bad], memL [some (.row 1 (cl .i64 (digF l 8)))], []⟩, 1⟩
theorem loop_sDigests (l : List Int) (hn : l.length ≤ 1048576) (hI : imageOk l = true) {x : XS} (hx : head true d20_0 x = S_sDigests l 0) : X tab l20_0 x = some (.exit 0, Z_sDigests l) := by
  have h9 := r_sImageOk l hn
  rw [hI] at h9
  refine loopN 8 (S_sDigests l) _ (by simp) (fun i hi => ?_) ?_ (Nat.zero_le _) hx
  · have h1 := r_sDigest l hn i
    have h2 : (i : Int) < 8 := by omega
    have h4 : IntKind.i64.wrap ((i : Int) + 1) = ((i + 1 : Nat) : Int) := by rw [wrap_id (by omega) (by omega)]; omega
    have h5 : (i + 1) * 8 ≤ 140737488355328 := by omega
    have h6 : (cl .i64 (digF l i)).length = i := by rw [cl_length, digF_length]
    simp only [S_sDigests, digF_succ, ← cl_app1]
    simp (maxSteps := 4000000) -implicitDefEqProofs [b20_0, List.take, List.drop, upd, rest, kill, mapMem, List.range, List.range.loop, h1, h2, h4, h5, h6, h9, cl_self, cl_length, cl_flat, -Int.natCast_add]
    change _ = _
    kernel_rfl
  · simp (maxSteps := 4000000) -implicitDefEqProofs [b20_0, S_sDigests, List.take, List.drop, upd, rest, kill, mapMem, List.range, List.range.loop, h9, Z_sDigests]
    change _ = _
    kernel_rfl
theorem r_sDigests (l : List Int) (hn : l.length ≤ 1048576) : runRO (X tab) tab 20 [.v false [.ro l.length (cl .i64 l)]] = some (.v false [.sl 0 [] 0 (digests l).length], [.row 1 (cl .i64 (digests l))]) := by
  have h1 := r_sImageOk l hn
  unfold runRO
  cases hI : imageOk l with
  | false =>
    rw [hI] at h1
    rw [show digests l = [] by unfold digests; rw [hI]; rfl]
    have hl : ∀ x, head true d20_0 x = ⟨⟨[.v false [.ro l.length (cl .i64 l)], .bad, .bad, .v false [.sl 0 [] 0 0], .v false [.int .i64 (0)], .bad, .bad, .bad, .bad, .bad, .bad, .bad, .bad, .bad, .bad, .bad, .bad, .bad, .bad, .bad, .bad], memL [some (.row 1 [])], []⟩, 1⟩ → X tab l20_0 x = some (.exit 0, ⟨⟨[.bad, .bad, .bad, .v false [.sl 0 [] 0 0], .bad, .bad, .bad, .bad, .bad, .bad, .bad, .bad, .bad, .bad, .bad, .bad, .bad, .bad, .bad, .bad, .bad], memL [some (.row 1 [])], []⟩, 1⟩) := by
      intro x hx
      refine loopN 0 (fun _ => ⟨⟨[.v false [.ro l.length (cl .i64 l)], .bad, .bad, .v false [.sl 0 [] 0 0], .v false [.int .i64 (0)], .bad, .bad, .bad, .bad, .bad, .bad, .bad, .bad, .bad, .bad, .bad, .bad, .bad, .bad, .bad, .bad], memL [some (.row 1 [])], []⟩, 1⟩) _ (by simp) (fun i hi => absurd hi (by omega)) ?_ (Nat.zero_le _) hx
      simp (maxSteps := 4000000) -implicitDefEqProofs [b20_0, List.take, List.drop, List.range, List.range.loop, upd, h1]
      change _ = _
      kernel_rfl
    simp (maxSteps := 4000000) -implicitDefEqProofs [tab20, a20, List.take, List.drop, upd, rest, kill, mapMem, List.range, List.range.loop]
    rw [hl _ (by change _ = _; kernel_rfl)]
    simp (maxSteps := 4000000) -implicitDefEqProofs [List.take, List.drop, upd, memL, List.range, List.range.loop, cl_nil]
  | true =>
    rw [hI] at h1
    rw [show digests l = digF l 8 by unfold digests; rw [hI]; rfl, digF_length]
    simp (maxSteps := 4000000) -implicitDefEqProofs [tab20, a20, List.take, List.drop, upd, rest, kill, mapMem, List.range, List.range.loop, h1]
    rw [loop_sDigests l hn hI (by change _ = _; kernel_rfl)]
    simp (maxSteps := 4000000) -implicitDefEqProofs [Z_sDigests, List.take, List.drop, upd, memL, List.range, List.range.loop]
def S_Digests (l : List Int) (i : Nat) : XS := ⟨⟨[.v false [.ro l.length (cl .i64 l)], .bad, .bad, .v false [.sl 0 [] 0 i], .bad, .bad, .bad, .bad, .bad, .bad, .bad, .v false [.int .i64 (l.length)], .v false [.int .i64 (i)], .bad, .bad, .bad, .bad, .bad, .bad, .bad, .bad, .bad, .bad], memL [some (.row 1 (cl .i64 (digF l i)))], []⟩, 1⟩
def Z_Digests (l : List Int) : XS := ⟨⟨[.bad, .bad, .bad, .v false [.sl 0 [] 0 8], .bad, .bad, .bad, .bad, .bad, .bad, .bad, .bad, .bad, .bad, .bad, .bad, .bad, .bad, .bad, .bad, .bad, .bad, .bad], memL [some (.row 1 (cl .i64 (digF l 8)))], []⟩, 1⟩
theorem loop_Digests (l : List Int) (hn : l.length ≤ 1048576) (hI : imageOk l = true) {x : XS} (hx : head true d28_0 x = S_Digests l 0) : X tab l28_0 x = some (.exit 0, Z_Digests l) := by
  have h9 : (l.length : Int) = 8 := by have := imageOk_len hI; omega
  skip
  refine loopN 8 (S_Digests l) _ (by simp) (fun i hi => ?_) ?_ (Nat.zero_le _) hx
  · have h1 := r_Digest l hn i
    have h2 : (i : Int) < 8 := by omega
    have h4 : IntKind.i64.wrap ((i : Int) + 1) = ((i + 1 : Nat) : Int) := by rw [wrap_id (by omega) (by omega)]; omega
    have h5 : (i + 1) * 8 ≤ 140737488355328 := by omega
    have h6 : (cl .i64 (digF l i)).length = i := by rw [cl_length, digF_length]
    simp only [S_Digests, digF_succ, ← cl_app1]
    simp (maxSteps := 4000000) -implicitDefEqProofs [b28_0, List.take, List.drop, upd, rest, kill, mapMem, List.range, List.range.loop, h1, h2, h4, h5, h6, h9, cl_self, cl_length, cl_flat, -Int.natCast_add]
    change _ = _
    kernel_rfl
  · simp (maxSteps := 4000000) -implicitDefEqProofs [b28_0, S_Digests, List.take, List.drop, upd, rest, kill, mapMem, List.range, List.range.loop, h9, Z_Digests]
    change _ = _
    kernel_rfl
theorem r_Digests (l : List Int) (hn : l.length ≤ 1048576) : runRO (X tab) tab 28 [.v false [.ro l.length (cl .i64 l)]] = some (.v false [.sl 0 [] 0 (digests l).length], [.row 1 (cl .i64 (digests l))]) := by
  have h1 := r_ImageOk l hn
  unfold runRO
  cases hI : imageOk l with
  | false =>
    rw [hI] at h1
    rw [show digests l = [] by unfold digests; rw [hI]; rfl]
    simp (maxSteps := 4000000) -implicitDefEqProofs [tab28, a28, List.take, List.drop, upd, rest, kill, mapMem, List.range, List.range.loop, memL, h1, cl_nil]
  | true =>
    rw [hI] at h1
    rw [show digests l = digF l 8 by unfold digests; rw [hI]; rfl, digF_length]
    simp (maxSteps := 4000000) -implicitDefEqProofs [tab28, a28, List.take, List.drop, upd, rest, kill, mapMem, List.range, List.range.loop, h1]
    rw [loop_Digests l hn hI (by change _ = _; kernel_rfl)]
    simp (maxSteps := 4000000) -implicitDefEqProofs [Z_Digests, List.take, List.drop, upd, memL, List.range, List.range.loop]
def difF (a b : List Int) : Nat → List Int
  | 0 => []
  | i + 1 => if (a.getD i 0 == b.getD i 0) = true then difF a b i else difF a b i ++ [(i : Int)]
theorem difF_length (a b : List Int) : ∀ i, (difF a b i).length ≤ i := by
  intro i
  induction i with
  | zero => simp [difF]
  | succ i ih =>
    simp only [difF]
    split
    · omega
    · simp; omega
theorem drop_getD {l : List Int} {i : Nat} (h : i < l.length) : l.drop i = l.getD i 0 :: l.drop (i + 1) := by
  rw [List.drop_eq_getElem_cons h]
  simp [h]
def S_Differ (a b : List Int) (i : Nat) : XS := ⟨⟨[.v false [.ro a.length (cl .i64 a)], .v false [.ro b.length (cl .i64 b)], .bad, .bad, .bad, .v false [.sl 0 [] 0 (difF a b i).length], .bad, .bad, .bad, .bad, .v false [.int .i64 (i)], .bad, .bad, .bad, .bad, .bad, .bad, .bad, .bad, .bad, .bad, .bad, .bad, .bad, .bad, .bad, .bad, .bad, .bad, .bad, .bad, .bad, .bad, .bad, .bad, .bad, .bad, .bad, .bad, .bad, .bad, .bad, .bad, .bad], memL [some (.row 1 (cl .i64 (difF a b i)))], []⟩, 1⟩
def Z_Differ (a b : List Int) : XS := ⟨⟨[.bad, .bad, .bad, .bad, .bad, .v false [.sl 0 [] 0 (difF a b 8).length], .bad, .bad, .bad, .bad, .bad, .bad, .bad, .bad, .bad, .bad, .bad, .bad, .bad, .bad, .bad, .bad, .bad, .bad, .bad, .bad, .bad, .bad, .bad, .bad, .bad, .bad, .bad, .bad, .bad, .bad, .bad, .bad, .bad, .bad, .bad, .bad, .bad, .bad], memL [some (.row 1 (cl .i64 (difF a b 8)))], []⟩, 1⟩
theorem loop_Differ (a b : List Int) (ha : a.length = 8) (hb : b.length = 8) {x : XS} (hx : head true d50_0 x = S_Differ a b 0) : X tab l50_0 x = some (.exit 0, Z_Differ a b) := by
  refine loopN 8 (S_Differ a b) _ (by simp) (fun i hi => ?_) ?_ (Nat.zero_le _) hx
  · have h1 := cl_at (k := .i64) (drop_getD (l := a) (i := i) (by omega))
    have h2 := cl_at (k := .i64) (drop_getD (l := b) (i := i) (by omega))
    have ha' : (i : Int) < (a.length : Int) := by omega
    have hb' : (i : Int) < (b.length : Int) := by omega
    have h3 : (i : Int) < 8 := by omega
    have h4 : IntKind.i64.wrap ((i : Int) + 1) = ((i + 1 : Nat) : Int) := by rw [wrap_id (by omega) (by omega)]; omega
    have h5 : ((difF a b i).length + 1) * 8 ≤ 140737488355328 := by have := difF_length a b i; omega
    have hf : ∀ (o : List (Option Ob)) (d : Nat), o.length ≤ d → freshB (memL o) d = true := fun o d h => freshB_memL h
    simp only [S_Differ, difF]
    cases hp : (a.getD i 0 == b.getD i 0) with
    | true =>
      generalize a.getD i 0 = p at hp h1
      generalize b.getD i 0 = q at hp h2
      simp only [if_true]
      simp (maxSteps := 4000000) -implicitDefEqProofs [b50_0, List.take, List.drop, upd, fromRo, ha', hb', h1, h2, h3, h4, hp, bne, -Int.natCast_add]
      change _ = _
      kernel_rfl
    | false =>
      generalize a.getD i 0 = p at hp h1
      generalize b.getD i 0 = q at hp h2
      simp only [Bool.false_eq_true, if_false, ← cl_app1, List.length_append, List.length_singleton]
      simp (maxSteps := 4000000) -implicitDefEqProofs [b50_0, List.take, List.drop, upd, rest, kill, mapMem, fromRo, ha', hb', h1, h2, h3, h4, h5, hp, bne, cl_length, -Int.natCast_add]
      change _ = _
      kernel_rfl
  · simp (maxSteps := 4000000) -implicitDefEqProofs [b50_0, S_Differ, List.take, List.drop, Z_Differ]
    change _ = _
    kernel_rfl
theorem r_Differ (a b : List Int) (ha : a.length = 8) (hb : b.length = 8) : runRO (X tab) tab 50 [.v false [.ro a.length (cl .i64 a)], .v false [.ro b.length (cl .i64 b)]] = some (.v false [.sl 0 [] 0 (difF a b 8).length], [.row 1 (cl .i64 (difF a b 8))]) := by
  unfold runRO
  simp (maxSteps := 4000000) -implicitDefEqProofs [tab50, a50, List.take, List.drop, upd, rest, kill, mapMem]
  rw [loop_Differ a b ha hb (by change _ = _; kernel_rfl)]
  simp (maxSteps := 4000000) -implicitDefEqProofs [Z_Differ, List.take, List.drop, upd, memL, List.range, List.range.loop]
theorem digF_at (l : List Int) (i : Nat) (h : i < 8) : (digF l 8).getD i 0 = digest l i := by
  simp [digF, h]
def S_sCompare (l b : List Int) (i : Nat) : XS := ⟨⟨[.v false [.ro l.length (cl .i64 l)], .v false [.ro b.length (cl .i64 b)], .bad, .bad, .bad, .bad, .v false [.sl 0 [] 0 (difF (digF l 8) b i).length], .v false [.int .i64 (i)], .bad, .bad, .bad, .bad, .bad, .bad, .bad, .bad, .bad, .bad, .bad, .bad, .bad, .bad, .bad, .bad, .bad, .bad, .bad, .bad, .bad, .bad, .bad, .bad, .bad, .bad, .bad], memL [some (.row 1 (cl .i64 (difF (digF l 8) b i)))], []⟩, 1⟩
def Z_sCompare (l b : List Int) : XS := ⟨⟨[.bad, .bad, .bad, .bad, .bad, .bad, .v false [.sl 0 [] 0 (difF (digF l 8) b 8).length], .bad, .bad, .bad, .bad, .bad, .bad, .bad, .bad, .bad, .bad, .bad, .bad, .bad, .bad, .bad, .bad, .bad, .bad, .bad, .bad, .bad, .bad, .bad, .bad, .bad, .bad, .bad, .bad], memL [some (.row 1 (cl .i64 (difF (digF l 8) b 8)))], []⟩, 1⟩
theorem loop_sCompare (l b : List Int) (hn : l.length ≤ 1048576) (hb : b.length = 8) {x : XS} (hx : head true d19_0 x = S_sCompare l b 0) : X tab l19_0 x = some (.exit 0, Z_sCompare l b) := by
  refine loopN 8 (S_sCompare l b) _ (by simp) (fun i hi => ?_) ?_ (Nat.zero_le _) hx
  · have h1 := r_sDigest l hn i
    rw [← digF_at l i hi] at h1
    have h2 := cl_at (k := .i64) (drop_getD (l := b) (i := i) (by omega))
    have hb' : (i : Int) < (b.length : Int) := by omega
    have h3 : (i : Int) < 8 := by omega
    have h4 : IntKind.i64.wrap ((i : Int) + 1) = ((i + 1 : Nat) : Int) := by rw [wrap_id (by omega) (by omega)]; omega
    have h5 : ((difF (digF l 8) b i).length + 1) * 8 ≤ 140737488355328 := by have := difF_length (digF l 8) b i; omega
    simp only [S_sCompare, difF]
    cases hp : ((digF l 8).getD i 0 == b.getD i 0) with
    | true =>
      generalize (digF l 8).getD i 0 = p at hp h1
      generalize b.getD i 0 = q at hp h2
      simp only [if_true]
      simp (maxSteps := 4000000) -implicitDefEqProofs [b19_0, List.take, List.drop, upd, List.range, List.range.loop, fromRo, hb', h1, h2, h3, h4, hp, bne, cl_self, -Int.natCast_add]
      change _ = _
      kernel_rfl
    | false =>
      generalize (digF l 8).getD i 0 = p at hp h1
      generalize b.getD i 0 = q at hp h2
      simp only [Bool.false_eq_true, if_false, ← cl_app1, List.length_append, List.length_singleton]
      simp (maxSteps := 4000000) -implicitDefEqProofs [b19_0, List.take, List.drop, upd, rest, kill, mapMem, List.range, List.range.loop, fromRo, hb', h1, h2, h3, h4, h5, hp, bne, cl_length, cl_self, -Int.natCast_add]
      change _ = _
      kernel_rfl
  · simp (maxSteps := 4000000) -implicitDefEqProofs [b19_0, S_sCompare, List.take, List.drop, Z_sCompare]
    change _ = _
    kernel_rfl
def cmpOk (l b : List Int) : Bool := imageOk l && digestsOk b
theorem digestsOk_len {l : List Int} (h : digestsOk l = true) : l.length = 8 := by
  simp only [digestsOk, Bool.and_eq_true, decide_eq_true_eq] at h
  exact h.1
theorem r_sCompare_bad (l b : List Int) (hn : l.length ≤ 1048576) (hb : b.length ≤ 1048576) (h : cmpOk l b = false) : runRO (X tab) tab 19 [.v false [.ro l.length (cl .i64 l)], .v false [.ro b.length (cl .i64 b)]] = some (.tup [(false, [.sl 0 [] 0 0]), (false, [.bool false])], [.row 1 []]) := by
  have h1 := r_sImageOk l hn
  have h2 := r_sDigestsOk b hb
  unfold runRO
  cases hI : imageOk l with
  | false =>
    rw [hI] at h1
    simp (maxSteps := 4000000) -implicitDefEqProofs [tab19, a19, List.take, List.drop, upd, rest, kill, mapMem, List.range, List.range.loop, memL, h1]
  | true =>
    rw [hI] at h1
    rw [cmpOk, hI, Bool.true_and] at h
    rw [h] at h2
    simp (maxSteps := 4000000) -implicitDefEqProofs [tab19, a19, List.take, List.drop, upd, rest, kill, mapMem, List.range, List.range.loop, memL, h1, h2]
theorem r_sCompare (l b : List Int) (hn : l.length ≤ 1048576) (hb : b.length ≤ 1048576) (h : cmpOk l b = true) : runRO (X tab) tab 19 [.v false [.ro l.length (cl .i64 l)], .v false [.ro b.length (cl .i64 b)]] = some (.tup [(false, [.sl 0 [] 0 (difF (digF l 8) b 8).length]), (false, [.bool true])], [.row 1 (cl .i64 (difF (digF l 8) b 8))]) := by
  have h1 := r_sImageOk l hn
  have h2 := r_sDigestsOk b hb
  simp only [cmpOk, Bool.and_eq_true] at h
  rw [h.1] at h1
  rw [h.2] at h2
  unfold runRO
  simp (maxSteps := 4000000) -implicitDefEqProofs [tab19, a19, List.take, List.drop, upd, rest, kill, mapMem, List.range, List.range.loop, h1, h2]
  rw [loop_sCompare l b hn (digestsOk_len h.2) (by change _ = _; kernel_rfl)]
  simp (maxSteps := 4000000) -implicitDefEqProofs [Z_sCompare, List.take, List.drop, upd, memL, List.range, List.range.loop]
theorem r_Compare_bad (l b : List Int) (hn : l.length ≤ 1048576) (hb : b.length ≤ 1048576) (h : cmpOk l b = false) : runRO (X tab) tab 27 [.v false [.ro l.length (cl .i64 l)], .v false [.ro b.length (cl .i64 b)]] = some (.tup [(false, [.nil]), (false, [.bool false])], []) := by
  have h1 := r_ImageOk l hn
  have h2 := r_DigestsOk b hb
  unfold runRO
  cases hI : imageOk l with
  | false =>
    rw [hI] at h1
    simp (maxSteps := 4000000) -implicitDefEqProofs [tab27, a27, List.take, List.drop, upd, rest, kill, mapMem, List.range, List.range.loop, memL, h1]
  | true =>
    rw [hI] at h1
    rw [cmpOk, hI, Bool.true_and] at h
    rw [h] at h2
    simp (maxSteps := 4000000) -implicitDefEqProofs [tab27, a27, List.take, List.drop, upd, rest, kill, mapMem, List.range, List.range.loop, memL, h1, h2]
theorem r_Compare (l b : List Int) (hn : l.length ≤ 1048576) (hb : b.length ≤ 1048576) (h : cmpOk l b = true) : runRO (X tab) tab 27 [.v false [.ro l.length (cl .i64 l)], .v false [.ro b.length (cl .i64 b)]] = some (.tup [(false, [.sl 0 [] 0 (difF (digF l 8) b 8).length]), (false, [.bool true])], [.row 1 (cl .i64 (difF (digF l 8) b 8))]) := by
  have h1 := r_ImageOk l hn
  have h2 := r_DigestsOk b hb
  have h3 := r_Digests l hn
  simp only [cmpOk, Bool.and_eq_true] at h
  rw [h.1] at h1
  rw [h.2] at h2
  rw [show digests l = digF l 8 by unfold digests; rw [h.1]; rfl] at h3
  have h4 := r_Differ (digF l 8) b (digF_length l 8) (digestsOk_len h.2)
  generalize difF (digF l 8) b 8 = c at h4
  have h5 := digF_length l 8
  generalize digF l 8 = d at h3 h4 h5
  unfold runRO
  simp (maxSteps := 4000000) -implicitDefEqProofs [tab27, a27, List.take, List.drop, upd, rest, kill, mapMem, List.range, List.range.loop, memL, h1, h2, h3, h4, cl_self, cl_length]
end Go.Proofs.YtbdokibepndibaaGreat.Eng.C
