/- Zo1, Zo2d, Zo2a, as one text. -/
import Derived.Test.YtbdokibepndibaaGreatCG9
import Derived.Test.YtbdokibepndibaaGreatCG8
namespace Go.Proofs.YtbdokibepndibaaGreat.Eng.C
set_option linter.unusedSimpArgs false
set_option linter.unusedVariables false
set_option maxHeartbeats 16000000
set_option maxRecDepth 100000
open Go.RowKit Go.Proofs
attribute [local simp] x_seq x_cond x_block x_region x_skip x_exit x_ret head_id runG runOps doOp wantB stepOp AO.eff pureOp St.get St.one St.num St.put St.optNum binA binInt gOp gOp0 gOpL gResL updO gRes gEff addObs_nil addObs_one freshB_memL freshB_none freshB_upd freshB_addMem freshB_addObs effOp2 effOp memL_app stoRow cellsAt toCells toCell scalar_int scalar_bool scalar_str scalar_sl updAt fromRo callRO addMem_nil roArgs roL roA srcCells A1.ownB addMem shift ren SV.map Ob.map Ob.noRo SV.noRo A1.noRo resOf resSV SV.ids A1.ids reach allObs pos St.canon A1.slB flat_int cl_flat' St.parts Eng.inB reps fillA newRowSt appSt oldOf

/-- In bounds, and more than the one ahead. -/
def incP (hi : Int) (l : List Int) (i : Nat) : Bool := rng (l.getD i 0) 1 hi && (decide (i = 0) || decide (l.getD (i - 1) 0 < l.getD i 0))
theorem r_isWrite (n : Int) : runRO (X tab) tab 95 [.v false [.int .i64 n]] = some (.v false [.bool (rng n 1 200)], []) := by
  unfold runRO
  simp (maxSteps := 4000000) -implicitDefEqProofs [tab95, a95, List.take, List.drop, List.range, List.range.loop, memL, r_from]
def S_Wait (n : PNode) (i : Nat) : XS := ⟨⟨[.bad, .v false [.pc (nodeC n)], .bad, .bad, .bad, .bad, .bad, .bad, .bad, .bad, .bad, .bad, .bad, .bad, .bad, .bad, .bad, .bad, .bad, .bad, .bad, .bad, .bad, .bad, .bad, .bad, .bad, .bad, .bad, .bad, .bad, .bad, .bad, .bad, .bad, .bad, .bad, .bad, .bad, .bad, .bad, .bad, .bad, .bad, .bad, .bad, .bad, .bad, .bad, .bad, .bad, .bad, .bad, .bad, .bad, .bad, .bad, .bad, .bad, .bad, .bad, .bad, .bad, .bad, .bad, .bad, .bad, .bad, .bad, .bad, .bad, .bad, .bad, .bad, .bad, .bad, .bad, .bad, .bad, .bad, .bad, .bad, .bad, .bad, .bad, .bad, .bad, .bad, .bad, .bad, .bad, .bad, .bad, .bad, .bad, .bad, .bad, .bad, .bad, .bad, .bad, .bad, .bad, .bad, .bad, .bad, .bad, .bad, .bad, .bad, .bad, .bad, .bad, .bad, .bad, .bad, .bad, .bad, .bad, .bad, .bad, .bad, .bad, .bad, .bad, .bad, .bad, .bad, .bad, .bad, .bad, .bad, .bad, .bad, .bad, .bad, .bad, .bad, .bad, .v false [.ro n.wait.length (cl .i64 n.wait)], .v false [.int .i64 (n.wait.length)], .v false [.int .i64 (i)], .bad, .bad, .bad, .bad, .bad, .bad, .bad, .bad, .bad, .bad, .bad, .bad, .bad, .bad, .bad, .bad, .bad, .bad, .bad, .bad, .bad, .bad], memL [], []⟩, 0⟩
theorem loop_Wait (n : PNode) (hn : n.wait.length ≤ 1048576) (hw : ∀ x ∈ n.wait, I64 x) {x : XS} (hx : head true d74_1 x = S_Wait n 0) : X tab l74_1 x = if allN n.wait.length (incP 200 n.wait) = true then some (.exit 2, ⟨⟨[.bad, .bad, .bad, .bad, .bad, .bad, .bad, .bad, .bad, .bad, .bad, .bad, .bad, .bad, .bad, .bad, .bad, .bad, .bad, .bad, .bad, .bad, .bad, .bad, .bad, .bad, .bad, .bad, .bad, .bad, .bad, .bad, .bad, .bad, .bad, .bad, .bad, .bad, .bad, .bad, .bad, .bad, .bad, .bad, .bad, .bad, .bad, .bad, .bad, .bad, .bad, .bad, .bad, .bad, .bad, .bad, .bad, .bad, .bad, .bad, .bad, .bad, .bad, .bad, .bad, .bad, .bad, .bad, .bad, .bad, .bad, .bad, .bad, .bad, .bad, .bad, .bad, .bad, .bad, .bad, .bad, .bad, .bad, .bad, .bad, .bad, .bad, .bad, .bad, .bad, .bad, .bad, .bad, .bad, .bad, .bad, .bad, .bad, .bad, .bad, .bad, .bad, .bad, .bad, .bad, .bad, .bad, .bad, .bad, .bad, .bad, .bad, .bad, .bad, .bad, .bad, .bad, .bad, .bad, .bad, .bad, .bad, .bad, .bad, .bad, .bad, .bad, .bad, .bad, .bad, .bad, .bad, .bad, .bad, .bad, .bad, .bad, .bad, .bad, .bad, .bad, .bad, .bad, .bad, .bad, .bad, .bad, .bad, .bad, .bad, .bad, .bad, .bad, .bad, .bad, .bad, .bad, .bad, .bad, .bad, .bad, .bad, .bad, .bad], memL [], []⟩, 0⟩) else some (.ret, ⟨⟨[.bad, .bad, .v false [.bool (false)], .bad, .bad, .bad, .bad, .bad, .bad, .bad, .bad, .bad, .bad, .bad, .bad, .bad, .bad, .bad, .bad, .bad, .bad, .bad, .bad, .bad, .bad, .bad, .bad, .bad, .bad, .bad, .bad, .bad, .bad, .bad, .bad, .bad, .bad, .bad, .bad, .bad, .bad, .bad, .bad, .bad, .bad, .bad, .bad, .bad, .bad, .bad, .bad, .bad, .bad, .bad, .bad, .bad, .bad, .bad, .bad, .bad, .bad, .bad, .bad, .bad, .bad, .bad, .bad, .bad, .bad, .bad, .bad, .bad, .bad, .bad, .bad, .bad, .bad, .bad, .bad, .bad, .bad, .bad, .bad, .bad, .bad, .bad, .bad, .bad, .bad, .bad, .bad, .bad, .bad, .bad, .bad, .bad, .bad, .bad, .bad, .bad, .bad, .bad, .bad, .bad, .bad, .bad, .bad, .bad, .bad, .bad, .bad, .bad, .bad, .bad, .bad, .bad, .bad, .bad, .bad, .bad, .bad, .bad, .bad, .bad, .bad, .bad, .bad, .bad, .bad, .bad, .bad, .bad, .bad, .bad, .bad, .bad, .bad, .bad, .bad, .bad, .bad, .bad, .bad, .bad, .bad, .bad, .bad, .bad, .bad, .bad, .bad, .bad, .bad, .bad, .bad, .bad, .bad, .bad, .bad, .bad, .bad, .bad, .bad, .bad], memL [], []⟩, 0⟩) := by
  refine loopAll n.wait.length (S_Wait n) _ _ _ (by simp) (by simp) (fun i hi hp _ => ?_) (fun i hi hp _ => ?_) (fun _ => ?_) hx
  · obtain ⟨y, hy⟩ : ∃ y, n.wait.getD i 0 = y := ⟨_, rfl⟩
    have hl := drop_getD' hi
    unfold incP at hp
    rw [hy] at hl hp
    have h1 : (0 ≤ (i : Int) ∧ (i : Int) < (n.wait.length : Int)) := by omega
    have h2 := cl_at (k := .i64) hl
    have h4 := wrap_next hi (show n.wait.length ≤ 281474976710656 by omega)
    have h5 := r_isWrite y
    simp only [Bool.and_eq_true, Bool.or_eq_true, decide_eq_true_eq] at hp
    rw [hp.1] at h5
    simp only [S_Wait, nodeC, intsC, intssC, bytesC, boolsC]
    by_cases hz : i = 0
    · have c0 : ¬ (0 : Int) < (i : Int) := by omega
      have c0' : ¬ 0 < i := by omega
      simp (maxSteps := 4000000) -implicitDefEqProofs [b74_1, List.take, List.drop, List.range, List.range.loop, fromRo, h1, h2, h4, h5, hi, c0, c0']
      change _ = _
      kernel_rfl
    · have c0 : (0 : Int) < (i : Int) := by omega
      have c0' : 0 < i := by omega
      obtain ⟨j, hj⟩ : ∃ j, j = i - 1 := ⟨_, rfl⟩
      have wj : IntKind.i64.wrap ((i : Int) - 1) = (j : Int) := by rw [wrap_id (by omega) (by omega)]; omega
      have h1j : (0 ≤ (j : Int) ∧ (j : Int) < (n.wait.length : Int)) := by omega
      have h2j := cl_at (k := .i64) (drop_getD' (l := n.wait) (i := j) (by omega))
      have hlt : n.wait.getD j 0 < y := by rw [hj]; exact hp.2.resolve_left hz
      generalize n.wait.getD j 0 = z at *
      have hyz : ¬ y ≤ z := by omega
      have hj2 : j < n.wait.length := by omega
      simp (maxSteps := 4000000) -implicitDefEqProofs [b74_1, List.take, List.drop, List.range, List.range.loop, fromRo, h1, h2, h4, h5, hi, c0, c0', wj, h1j, h2j, hj2, hyz]
      change _ = _
      kernel_rfl
  · obtain ⟨y, hy⟩ : ∃ y, n.wait.getD i 0 = y := ⟨_, rfl⟩
    have hl := drop_getD' hi
    unfold incP at hp
    rw [hy] at hl hp
    have h1 : (0 ≤ (i : Int) ∧ (i : Int) < (n.wait.length : Int)) := by omega
    have h2 := cl_at (k := .i64) hl
    have h4 := wrap_next hi (show n.wait.length ≤ 281474976710656 by omega)
    have h5 := r_isWrite y
    simp only [S_Wait, nodeC, intsC, intssC, bytesC, boolsC]
    cases hr : rng y 1 200 with
    | false =>
      rw [hr] at h5
      simp (maxSteps := 4000000) -implicitDefEqProofs [b74_1, List.take, List.drop, List.range, List.range.loop, fromRo, h1, h2, h4, h5, hi]
      change _ = _
      kernel_rfl
    | true =>
      rw [hr] at h5
      simp only [hr, Bool.true_and, Bool.or_eq_false_iff, decide_eq_false_iff_not] at hp
      have c0 : (0 : Int) < (i : Int) := by omega
      have c0' : 0 < i := by omega
      obtain ⟨j, hj⟩ : ∃ j, j = i - 1 := ⟨_, rfl⟩
      have wj : IntKind.i64.wrap ((i : Int) - 1) = (j : Int) := by rw [wrap_id (by omega) (by omega)]; omega
      have h1j : (0 ≤ (j : Int) ∧ (j : Int) < (n.wait.length : Int)) := by omega
      have h2j := cl_at (k := .i64) (drop_getD' (l := n.wait) (i := j) (by omega))
      have hlt : ¬ n.wait.getD j 0 < y := by rw [hj]; exact hp.2
      generalize n.wait.getD j 0 = z at *
      have hyz : y ≤ z := by omega
      have hj2 : j < n.wait.length := by omega
      simp (maxSteps := 4000000) -implicitDefEqProofs [b74_1, List.take, List.drop, List.range, List.range.loop, fromRo, h1, h2, h4, h5, hi, c0, c0', wj, h1j, h2j, hj2, hyz]
      change _ = _
      kernel_rfl
  · simp only [S_Wait, nodeC, intsC, intssC, bytesC, boolsC]
    simp (maxSteps := 4000000) -implicitDefEqProofs [b74_1, List.take, List.drop, fromRo]
    change _ = _
    kernel_rfl
def S_sWait (n : PNode) (i : Nat) : XS := ⟨⟨[.bad, .v false [.pc (nodeC n)], .bad, .v false [.int .i64 (i)], .bad, .bad, .bad, .bad, .bad, .bad, .bad, .bad, .bad, .bad, .bad, .bad, .bad, .bad, .bad, .bad, .bad, .bad, .bad, .bad, .bad, .bad, .bad, .bad, .bad, .bad, .bad, .bad, .bad, .bad, .bad, .bad, .bad, .bad, .bad, .bad, .bad, .bad, .bad, .bad, .bad, .bad, .bad, .bad, .bad, .bad, .bad, .bad, .bad, .bad, .bad, .bad, .bad, .bad, .bad, .bad, .bad, .bad, .bad, .bad, .bad, .bad, .bad, .bad, .bad, .bad, .bad, .bad, .bad, .bad, .bad, .bad, .bad, .bad, .bad, .bad, .bad, .bad, .bad, .bad, .bad, .bad, .bad, .bad, .bad, .bad, .bad, .bad, .bad, .bad, .bad, .bad, .bad, .bad, .bad], memL [], []⟩, 0⟩
theorem loop_sWait (n : PNode) (hn : n.wait.length ≤ 1048576) (hw : ∀ x ∈ n.wait, I64 x) {x : XS} (hx : head true d37_0 x = S_sWait n 0) : X tab l37_0 x = if allN n.wait.length (incP 200 n.wait) = true then some (.exit 0, ⟨⟨[.bad, .v false [.pc (nodeC n)], .bad, .bad, .bad, .bad, .bad, .bad, .bad, .bad, .bad, .bad, .bad, .bad, .bad, .bad, .bad, .bad, .bad, .bad, .bad, .bad, .bad, .bad, .bad, .bad, .bad, .bad, .bad, .bad, .bad, .bad, .bad, .bad, .bad, .bad, .bad, .bad, .bad, .bad, .bad, .bad, .bad, .bad, .bad, .bad, .bad, .bad, .bad, .bad, .bad, .bad, .bad, .bad, .bad, .bad, .bad, .bad, .bad, .bad, .bad, .bad, .bad, .bad, .bad, .bad, .bad, .bad, .bad, .bad, .bad, .bad, .bad, .bad, .bad, .bad, .bad, .bad, .bad, .bad, .bad, .bad, .bad, .bad, .bad, .bad, .bad, .bad, .bad, .bad, .bad, .bad, .bad, .bad, .bad, .bad, .bad, .bad, .bad], memL [], []⟩, 0⟩) else some (.ret, ⟨⟨[.bad, .bad, .v false [.bool (false)], .bad, .bad, .bad, .bad, .bad, .bad, .bad, .bad, .bad, .bad, .bad, .bad, .bad, .bad, .bad, .bad, .bad, .bad, .bad, .bad, .bad, .bad, .bad, .bad, .bad, .bad, .bad, .bad, .bad, .bad, .bad, .bad, .bad, .bad, .bad, .bad, .bad, .bad, .bad, .bad, .bad, .bad, .bad, .bad, .bad, .bad, .bad, .bad, .bad, .bad, .bad, .bad, .bad, .bad, .bad, .bad, .bad, .bad, .bad, .bad, .bad, .bad, .bad, .bad, .bad, .bad, .bad, .bad, .bad, .bad, .bad, .bad, .bad, .bad, .bad, .bad, .bad, .bad, .bad, .bad, .bad, .bad, .bad, .bad, .bad, .bad, .bad, .bad, .bad, .bad, .bad, .bad, .bad, .bad, .bad, .bad], memL [], []⟩, 0⟩) := by
  refine loopAll n.wait.length (S_sWait n) _ _ _ (by simp) (by simp) (fun i hi hp _ => ?_) (fun i hi hp _ => ?_) (fun _ => ?_) hx
  · obtain ⟨y, hy⟩ : ∃ y, n.wait.getD i 0 = y := ⟨_, rfl⟩
    have hl := drop_getD' hi
    unfold incP at hp
    rw [hy] at hl hp
    have h1 : (0 ≤ (i : Int) ∧ (i : Int) < (n.wait.length : Int)) := by omega
    have h2 := cl_at (k := .i64) hl
    have h4 := wrap_next hi (show n.wait.length ≤ 281474976710656 by omega)
    have h5 := r_l1In y 1 200
    simp only [Bool.and_eq_true, Bool.or_eq_true, decide_eq_true_eq] at hp
    rw [hp.1] at h5
    simp only [S_sWait, nodeC, intsC, intssC, bytesC, boolsC]
    by_cases hz : i = 0
    · have c0 : ¬ (0 : Int) < (i : Int) := by omega
      have c0' : ¬ 0 < i := by omega
      simp (maxSteps := 4000000) -implicitDefEqProofs [b37_0, List.take, List.drop, List.range, List.range.loop, fromRo, h1, h2, h4, h5, hi, c0, c0']
      change _ = _
      kernel_rfl
    · have c0 : (0 : Int) < (i : Int) := by omega
      have c0' : 0 < i := by omega
      obtain ⟨j, hj⟩ : ∃ j, j = i - 1 := ⟨_, rfl⟩
      have wj : IntKind.i64.wrap ((i : Int) - 1) = (j : Int) := by rw [wrap_id (by omega) (by omega)]; omega
      have h1j : (0 ≤ (j : Int) ∧ (j : Int) < (n.wait.length : Int)) := by omega
      have h2j := cl_at (k := .i64) (drop_getD' (l := n.wait) (i := j) (by omega))
      have hlt : n.wait.getD j 0 < y := by rw [hj]; exact hp.2.resolve_left hz
      generalize n.wait.getD j 0 = z at *
      have hyz : ¬ y ≤ z := by omega
      have hj2 : j < n.wait.length := by omega
      simp (maxSteps := 4000000) -implicitDefEqProofs [b37_0, List.take, List.drop, List.range, List.range.loop, fromRo, h1, h2, h4, h5, hi, c0, c0', wj, h1j, h2j, hj2, hyz]
      change _ = _
      kernel_rfl
  · obtain ⟨y, hy⟩ : ∃ y, n.wait.getD i 0 = y := ⟨_, rfl⟩
    have hl := drop_getD' hi
    unfold incP at hp
    rw [hy] at hl hp
    have h1 : (0 ≤ (i : Int) ∧ (i : Int) < (n.wait.length : Int)) := by omega
    have h2 := cl_at (k := .i64) hl
    have h4 := wrap_next hi (show n.wait.length ≤ 281474976710656 by omega)
    have h5 := r_l1In y 1 200
    simp only [S_sWait, nodeC, intsC, intssC, bytesC, boolsC]
    cases hr : rng y 1 200 with
    | false =>
      rw [hr] at h5
      simp (maxSteps := 4000000) -implicitDefEqProofs [b37_0, List.take, List.drop, List.range, List.range.loop, fromRo, h1, h2, h4, h5, hi]
      change _ = _
      kernel_rfl
    | true =>
      rw [hr] at h5
      simp only [hr, Bool.true_and, Bool.or_eq_false_iff, decide_eq_false_iff_not] at hp
      have c0 : (0 : Int) < (i : Int) := by omega
      have c0' : 0 < i := by omega
      obtain ⟨j, hj⟩ : ∃ j, j = i - 1 := ⟨_, rfl⟩
      have wj : IntKind.i64.wrap ((i : Int) - 1) = (j : Int) := by rw [wrap_id (by omega) (by omega)]; omega
      have h1j : (0 ≤ (j : Int) ∧ (j : Int) < (n.wait.length : Int)) := by omega
      have h2j := cl_at (k := .i64) (drop_getD' (l := n.wait) (i := j) (by omega))
      have hlt : ¬ n.wait.getD j 0 < y := by rw [hj]; exact hp.2
      generalize n.wait.getD j 0 = z at *
      have hyz : y ≤ z := by omega
      have hj2 : j < n.wait.length := by omega
      simp (maxSteps := 4000000) -implicitDefEqProofs [b37_0, List.take, List.drop, List.range, List.range.loop, fromRo, h1, h2, h4, h5, hi, c0, c0', wj, h1j, h2j, hj2, hyz]
      change _ = _
      kernel_rfl
  · simp only [S_sWait, nodeC, intsC, intssC, bytesC, boolsC]
    simp (maxSteps := 4000000) -implicitDefEqProofs [b37_0, List.take, List.drop, fromRo]
    change _ = _
    kernel_rfl

/-! What is heard and copied. -/
def linkP (n : PNode) (i : Nat) : Bool := !(n.conn.getD i false && !(n.up && !((i : Int) == n.id))) && !(n.copies.getD i false && !n.conn.getD i false) && !(decide (0 < (n.sync.getD i []).length) && !n.copies.getD i false)
def S_Link (n : PNode) (i : Nat) : XS := ⟨⟨[.bad, .v false [.pc (nodeC n)], .bad, .bad, .bad, .bad, .bad, .bad, .bad, .bad, .bad, .bad, .bad, .bad, .bad, .bad, .bad, .bad, .bad, .bad, .bad, .bad, .bad, .bad, .bad, .bad, .bad, .bad, .bad, .bad, .bad, .bad, .bad, .bad, .bad, .bad, .bad, .bad, .bad, .bad, .bad, .bad, .bad, .bad, .bad, .bad, .bad, .bad, .bad, .bad, .bad, .bad, .bad, .bad, .bad, .bad, .bad, .bad, .bad, .bad, .bad, .bad, .bad, .bad, .bad, .bad, .bad, .bad, .bad, .bad, .bad, .bad, .bad, .bad, .bad, .bad, .bad, .bad, .bad, .bad, .bad, .bad, .bad, .bad, .bad, .v false [.int .i64 (i)], .bad, .bad, .bad, .bad, .bad, .bad, .bad, .bad, .bad, .bad, .bad, .bad, .bad, .bad, .bad, .bad, .bad, .bad, .bad, .bad, .bad, .bad, .bad, .bad, .bad, .bad, .bad, .bad, .bad, .bad, .bad, .bad, .bad, .bad, .bad, .bad, .bad, .bad, .bad, .bad, .bad, .bad, .bad, .bad, .bad, .bad, .bad, .bad, .bad, .bad, .bad, .bad, .bad, .bad, .bad, .bad, .bad, .bad, .bad, .bad, .bad, .bad, .bad, .bad, .bad, .bad, .bad, .bad, .bad, .bad, .bad, .bad, .bad, .bad, .bad, .bad, .bad, .bad], memL [], []⟩, 0⟩

/-! What is heard and copied. -/
theorem step_Link_a (n : PNode) (hc : n.conn.length = 3) (hk : n.copies.length = 3) (hy : n.sync.length = 3) (i : Nat) (hi : i < 3) (hua : n.up = false) : (linkP n i = true → ∃ z, X tab b74_0 (S_Link n i) = some (.nrm, z) ∧ head true d74_0 z = S_Link n (i + 1)) ∧ (linkP n i = false → X tab b74_0 (S_Link n i) = some (.ret, ⟨⟨[.bad, .bad, .v false [.bool (false)], .bad, .bad, .bad, .bad, .bad, .bad, .bad, .bad, .bad, .bad, .bad, .bad, .bad, .bad, .bad, .bad, .bad, .bad, .bad, .bad, .bad, .bad, .bad, .bad, .bad, .bad, .bad, .bad, .bad, .bad, .bad, .bad, .bad, .bad, .bad, .bad, .bad, .bad, .bad, .bad, .bad, .bad, .bad, .bad, .bad, .bad, .bad, .bad, .bad, .bad, .bad, .bad, .bad, .bad, .bad, .bad, .bad, .bad, .bad, .bad, .bad, .bad, .bad, .bad, .bad, .bad, .bad, .bad, .bad, .bad, .bad, .bad, .bad, .bad, .bad, .bad, .bad, .bad, .bad, .bad, .bad, .bad, .bad, .bad, .bad, .bad, .bad, .bad, .bad, .bad, .bad, .bad, .bad, .bad, .bad, .bad, .bad, .bad, .bad, .bad, .bad, .bad, .bad, .bad, .bad, .bad, .bad, .bad, .bad, .bad, .bad, .bad, .bad, .bad, .bad, .bad, .bad, .bad, .bad, .bad, .bad, .bad, .bad, .bad, .bad, .bad, .bad, .bad, .bad, .bad, .bad, .bad, .bad, .bad, .bad, .bad, .bad, .bad, .bad, .bad, .bad, .bad, .bad, .bad, .bad, .bad, .bad, .bad, .bad, .bad, .bad, .bad, .bad, .bad, .bad, .bad, .bad, .bad, .bad, .bad, .bad], memL [], []⟩, 0⟩)) := by
  have d1 := cb_at (dropx_getD (l := n.conn) (i := i) false (by omega))
  have d2 := cb_at (dropx_getD (l := n.copies) (i := i) false (by omega))
  have d3 := intss_at (dropx_getD (l := n.sync) (i := i) [] (by omega))
  simp only [intsC] at d3
  have h1 : (0 ≤ (i : Int) ∧ (i : Int) < 3) := by omega
  have h4 := wrap_next hi (show 3 ≤ 281474976710656 by omega)
  have hi' : i < 3 := hi
  unfold linkP
  simp only [S_Link, nodeC, intsC, intssC, bytesC, boolsC, hc, hk, hy]
  generalize n.conn.getD i false = c at *
  generalize n.copies.getD i false = k at *
  generalize n.sync.getD i [] = s at *
  rw [hua]
  have e0 : ∀ b : Bool, ((0 : Int) < (s.length : Int)) = (0 < s.length) := fun _ => by apply propext; omega
  have e0 := e0 true
  cases c with
  | true =>
    refine ⟨fun hp => ?_, fun hp => ?_⟩ <;> first
    | (exfalso; simp at hp; done)
    | (simp (maxSteps := 4000000) -implicitDefEqProofs [b74_0, List.take, List.drop, List.range, List.range.loop, fromRo, bne, d1, d2, d3, h1, h4, hi', e0]
       change _ = _
       kernel_rfl)
  | false =>
    cases k with
    | true =>
      refine ⟨fun hp => ?_, fun hp => ?_⟩ <;> first
      | (exfalso; simp at hp; done)
      | (simp (maxSteps := 4000000) -implicitDefEqProofs [b74_0, List.take, List.drop, List.range, List.range.loop, fromRo, bne, d1, d2, d3, h1, h4, hi', e0]
         change _ = _
         kernel_rfl)
    | false =>
      by_cases hs : 0 < s.length
      · refine ⟨fun hp => ?_, fun hp => ?_⟩ <;> first
        | (exfalso; simp [hs] at hp; done)
        | (simp (maxSteps := 4000000) -implicitDefEqProofs [b74_0, List.take, List.drop, List.range, List.range.loop, fromRo, bne, d1, d2, d3, h1, h4, hi', e0, hs]
           change _ = _
           kernel_rfl)
      · refine ⟨fun hp => ?_, fun hp => ?_⟩ <;> first
        | (exfalso; simp [hs] at hp; done)
        | (simp (maxSteps := 4000000) -implicitDefEqProofs [b74_0, List.take, List.drop, List.range, List.range.loop, fromRo, bne, d1, d2, d3, h1, h4, hi', e0, hs]
           change _ = _
           kernel_rfl)
end Go.Proofs.YtbdokibepndibaaGreat.Eng.C
