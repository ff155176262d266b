/- Zr, Zs, Zt, Zu, as one text. -/
import Derived.Test.YtbdokibepndibaaGreatCG10
namespace Go.Proofs.YtbdokibepndibaaGreat.Eng.C
set_option linter.unusedSimpArgs false
set_option linter.unusedVariables false
set_option maxHeartbeats 16000000
set_option maxRecDepth 100000
open Go.RowKit Go.Proofs
attribute [local simp] x_seq x_cond x_block x_region x_skip x_exit x_ret head_id runG runOps doOp wantB stepOp AO.eff pureOp St.get St.one St.num St.put St.optNum binA binInt gOp gOp0 gOpL gResL updO gRes gEff addObs_nil addObs_one freshB_memL freshB_none freshB_upd freshB_addMem freshB_addObs effOp2 effOp memL_app stoRow cellsAt toCells toCell scalar_int scalar_bool scalar_str scalar_sl updAt fromRo callRO addMem_nil roArgs roL roA srcCells A1.ownB addMem shift ren SV.map Ob.map Ob.noRo SV.noRo A1.noRo resOf resSV SV.ids A1.ids reach allObs pos St.canon A1.slB flat_int cl_flat' St.parts Eng.inB reps fillA newRowSt appSt oldOf

/-- A world's own cells. -/
def worldC (w : PWorld) : List Cell := [.sl w.nodes.length (nodesC w.nodes), .sl w.net.length (wiresC w.net), .sl w.log.length (recsC w.log), .sl w.safe.length (cl .i64 w.safe), .int .i64 w.gen]
def recD : PRec := ⟨0, 0⟩
def logP (l : List PRec) (i : Nat) : Bool := rng (l.getD i recD).cell 0 7 && rng (l.getD i recD).up 0 i
theorem recsC_d {l : List PRec} {i : Nat} (h : i < l.length) : (recsC l).drop (i * 2) = .int .i64 (l.getD i recD).cell :: .int .i64 (l.getD i recD).up :: recsC (l.drop (i + 1)) := by
  have := recsC_at (dropx_getD recD h)
  simpa [recC] using this
/-! Safe writes. -/
def S_Safe (w : PWorld) (i : Nat) : XS := ⟨⟨[.bad, .v false [.pc (worldC w)], .bad, .bad, .bad, .bad, .bad, .bad, .bad, .bad, .bad, .bad, .bad, .bad, .bad, .bad, .bad, .bad, .bad, .bad, .bad, .bad, .bad, .bad, .bad, .bad, .bad, .bad, .bad, .bad, .bad, .bad, .bad, .bad, .bad, .bad, .bad, .bad, .bad, .bad, .bad, .bad, .bad, .bad, .bad, .bad, .bad, .bad, .bad, .bad, .bad, .bad, .bad, .bad, .bad, .bad, .bad, .bad, .bad, .bad, .bad, .bad, .bad, .bad, .bad, .bad, .bad, .bad, .bad, .bad, .bad, .bad, .bad, .bad, .bad, .bad, .bad, .bad, .bad, .bad, .bad, .bad, .bad, .bad, .bad, .bad, .bad, .bad, .bad, .bad, .bad, .bad, .bad, .bad, .bad, .bad, .v false [.ro w.safe.length (cl .i64 w.safe)], .v false [.int .i64 (w.safe.length)], .v false [.int .i64 (i)], .bad, .bad, .bad, .bad, .bad, .bad, .bad, .bad, .bad, .bad, .bad, .bad, .bad, .bad, .bad, .bad, .bad, .bad, .bad, .bad, .bad, .bad, .bad, .bad, .bad], memL [], []⟩, 0⟩
theorem loop_Safe (w : PWorld) (hn : w.safe.length ≤ 1048576) {x : XS} (hx : head true d25_2 x = S_Safe w 0) : X tab l25_2 x = if allN w.safe.length (incP w.log.length w.safe) = true then some (.exit 4, ⟨⟨[.bad, .bad, .bad, .bad, .bad, .bad, .bad, .bad, .bad, .bad, .bad, .bad, .bad, .bad, .bad, .bad, .bad, .bad, .bad, .bad, .bad, .bad, .bad, .bad, .bad, .bad, .bad, .bad, .bad, .bad, .bad, .bad, .bad, .bad, .bad, .bad, .bad, .bad, .bad, .bad, .bad, .bad, .bad, .bad, .bad, .bad, .bad, .bad, .bad, .bad, .bad, .bad, .bad, .bad, .bad, .bad, .bad, .bad, .bad, .bad, .bad, .bad, .bad, .bad, .bad, .bad, .bad, .bad, .bad, .bad, .bad, .bad, .bad, .bad, .bad, .bad, .bad, .bad, .bad, .bad, .bad, .bad, .bad, .bad, .bad, .bad, .bad, .bad, .bad, .bad, .bad, .bad, .bad, .bad, .bad, .bad, .bad, .bad, .bad, .bad, .bad, .bad, .bad, .bad, .bad, .bad, .bad, .bad, .bad, .bad, .bad, .bad, .bad, .bad, .bad, .bad, .bad, .bad, .bad, .bad, .bad, .bad, .bad, .bad], memL [], []⟩, 0⟩) else some (.ret, ⟨⟨[.bad, .bad, .v false [.bool (false)], .bad, .bad, .bad, .bad, .bad, .bad, .bad, .bad, .bad, .bad, .bad, .bad, .bad, .bad, .bad, .bad, .bad, .bad, .bad, .bad, .bad, .bad, .bad, .bad, .bad, .bad, .bad, .bad, .bad, .bad, .bad, .bad, .bad, .bad, .bad, .bad, .bad, .bad, .bad, .bad, .bad, .bad, .bad, .bad, .bad, .bad, .bad, .bad, .bad, .bad, .bad, .bad, .bad, .bad, .bad, .bad, .bad, .bad, .bad, .bad, .bad, .bad, .bad, .bad, .bad, .bad, .bad, .bad, .bad, .bad, .bad, .bad, .bad, .bad, .bad, .bad, .bad, .bad, .bad, .bad, .bad, .bad, .bad, .bad, .bad, .bad, .bad, .bad, .bad, .bad, .bad, .bad, .bad, .bad, .bad, .bad, .bad, .bad, .bad, .bad, .bad, .bad, .bad, .bad, .bad, .bad, .bad, .bad, .bad, .bad, .bad, .bad, .bad, .bad, .bad, .bad, .bad, .bad, .bad, .bad, .bad], memL [], []⟩, 0⟩) := by
  refine loopAll w.safe.length (S_Safe w) _ _ _ (by simp) (by simp) (fun i hi hp _ => ?_) (fun i hi hp _ => ?_) (fun _ => ?_) hx
  · obtain ⟨y, hy⟩ : ∃ y, w.safe.getD i 0 = y := ⟨_, rfl⟩
    have hl := drop_getD' hi
    unfold incP at hp
    rw [hy] at hl hp
    have h1 : (0 ≤ (i : Int) ∧ (i : Int) < (w.safe.length : Int)) := by omega
    have h2 := cl_at (k := .i64) hl
    have h4 := wrap_next hi (show w.safe.length ≤ 281474976710656 by omega)
    have h5 := r_from y 1 (w.log.length : Int)
    simp only [Bool.and_eq_true, Bool.or_eq_true, decide_eq_true_eq] at hp
    rw [hp.1] at h5
    simp only [S_Safe, worldC]
    by_cases hz : i = 0
    · have c0 : ¬ (0 : Int) < (i : Int) := by omega
      have c0' : ¬ 0 < i := by omega
      simp (maxSteps := 4000000) -implicitDefEqProofs [b25_2, List.take, List.drop, List.range, List.range.loop, fromRo, h1, h2, h4, h5, hi, c0, c0']
      change _ = _
      kernel_rfl
    · have c0 : (0 : Int) < (i : Int) := by omega
      have c0' : 0 < i := by omega
      obtain ⟨j, hj⟩ : ∃ j, j = i - 1 := ⟨_, rfl⟩
      have wj : IntKind.i64.wrap ((i : Int) - 1) = (j : Int) := by rw [wrap_id (by omega) (by omega)]; omega
      have h1j : (0 ≤ (j : Int) ∧ (j : Int) < (w.safe.length : Int)) := by omega
      have h2j := cl_at (k := .i64) (drop_getD' (l := w.safe) (i := j) (by omega))
      have hlt : w.safe.getD j 0 < y := by rw [hj]; exact hp.2.resolve_left hz
      generalize w.safe.getD j 0 = z at *
      have hyz : ¬ y ≤ z := by omega
      have hj2 : j < w.safe.length := by omega
      simp (maxSteps := 4000000) -implicitDefEqProofs [b25_2, List.take, List.drop, List.range, List.range.loop, fromRo, h1, h2, h4, h5, hi, c0, c0', wj, h1j, h2j, hj2, hyz]
      change _ = _
      kernel_rfl
  · obtain ⟨y, hy⟩ : ∃ y, w.safe.getD i 0 = y := ⟨_, rfl⟩
    have hl := drop_getD' hi
    unfold incP at hp
    rw [hy] at hl hp
    have h1 : (0 ≤ (i : Int) ∧ (i : Int) < (w.safe.length : Int)) := by omega
    have h2 := cl_at (k := .i64) hl
    have h4 := wrap_next hi (show w.safe.length ≤ 281474976710656 by omega)
    have h5 := r_from y 1 (w.log.length : Int)
    simp only [S_Safe, worldC]
    cases hr : rng y 1 (w.log.length : Int) with
    | false =>
      rw [hr] at h5
      simp (maxSteps := 4000000) -implicitDefEqProofs [b25_2, List.take, List.drop, List.range, List.range.loop, fromRo, h1, h2, h4, h5, hi]
      change _ = _
      kernel_rfl
    | true =>
      rw [hr] at h5
      simp only [hr, Bool.true_and, Bool.or_eq_false_iff, decide_eq_false_iff_not] at hp
      have c0 : (0 : Int) < (i : Int) := by omega
      have c0' : 0 < i := by omega
      obtain ⟨j, hj⟩ : ∃ j, j = i - 1 := ⟨_, rfl⟩
      have wj : IntKind.i64.wrap ((i : Int) - 1) = (j : Int) := by rw [wrap_id (by omega) (by omega)]; omega
      have h1j : (0 ≤ (j : Int) ∧ (j : Int) < (w.safe.length : Int)) := by omega
      have h2j := cl_at (k := .i64) (drop_getD' (l := w.safe) (i := j) (by omega))
      have hlt : ¬ w.safe.getD j 0 < y := by rw [hj]; exact hp.2
      generalize w.safe.getD j 0 = z at *
      have hyz : y ≤ z := by omega
      have hj2 : j < w.safe.length := by omega
      simp (maxSteps := 4000000) -implicitDefEqProofs [b25_2, List.take, List.drop, List.range, List.range.loop, fromRo, h1, h2, h4, h5, hi, c0, c0', wj, h1j, h2j, hj2, hyz]
      change _ = _
      kernel_rfl
  · simp only [S_Safe, worldC]
    simp (maxSteps := 4000000) -implicitDefEqProofs [b25_2, List.take, List.drop, fromRo]
    change _ = _
    kernel_rfl
def S_sSafe (w : PWorld) (i : Nat) : XS := ⟨⟨[.bad, .v false [.pc (worldC w)], .bad, .bad, .bad, .bad, .bad, .v false [.int .i64 (i)], .bad, .bad, .bad, .bad, .bad, .bad, .bad, .bad, .bad, .bad, .bad, .bad, .bad, .bad, .bad, .bad, .bad, .bad, .bad, .bad, .bad, .bad, .bad, .bad, .bad, .bad, .bad, .bad, .bad, .bad, .bad, .bad, .bad, .bad, .bad, .bad, .bad, .bad, .bad, .bad, .bad, .bad, .bad, .bad, .bad, .bad, .bad, .bad, .bad, .bad, .bad, .bad, .bad, .bad, .bad, .bad, .bad, .bad, .bad, .bad, .bad, .bad, .bad, .bad, .bad, .bad, .bad, .bad, .bad, .bad, .bad, .bad, .bad, .bad, .bad, .bad, .bad, .bad, .bad, .bad, .bad, .bad, .bad, .bad, .bad, .bad, .bad, .bad, .bad, .bad, .bad, .bad, .bad, .bad, .bad, .bad, .bad, .bad, .bad, .bad, .bad, .bad, .bad, .bad, .bad, .bad, .bad, .bad, .bad, .bad, .bad, .bad, .bad, .bad, .bad, .bad, .bad, .bad, .bad], memL [], []⟩, 0⟩
theorem loop_sSafe (w : PWorld) (hn : w.safe.length ≤ 1048576) {x : XS} (hx : head true d17_3 x = S_sSafe w 0) : X tab l17_3 x = if allN w.safe.length (incP w.log.length w.safe) = true then some (.exit 6, ⟨⟨[.bad, .v false [.pc (worldC w)], .bad, .bad, .bad, .bad, .bad, .bad, .bad, .bad, .bad, .bad, .bad, .bad, .bad, .bad, .bad, .bad, .bad, .bad, .bad, .bad, .bad, .bad, .bad, .bad, .bad, .bad, .bad, .bad, .bad, .bad, .bad, .bad, .bad, .bad, .bad, .bad, .bad, .bad, .bad, .bad, .bad, .bad, .bad, .bad, .bad, .bad, .bad, .bad, .bad, .bad, .bad, .bad, .bad, .bad, .bad, .bad, .bad, .bad, .bad, .bad, .bad, .bad, .bad, .bad, .bad, .bad, .bad, .bad, .bad, .bad, .bad, .bad, .bad, .bad, .bad, .bad, .bad, .bad, .bad, .bad, .bad, .bad, .bad, .bad, .bad, .bad, .bad, .bad, .bad, .bad, .bad, .bad, .bad, .bad, .bad, .bad, .bad, .bad, .bad, .bad, .bad, .bad, .bad, .bad, .bad, .bad, .bad, .bad, .bad, .bad, .bad, .bad, .bad, .bad, .bad, .bad, .bad, .bad, .bad, .bad, .bad, .bad, .bad, .bad, .bad], memL [], []⟩, 0⟩) else some (.ret, ⟨⟨[.bad, .bad, .v false [.bool (false)], .bad, .bad, .bad, .bad, .bad, .bad, .bad, .bad, .bad, .bad, .bad, .bad, .bad, .bad, .bad, .bad, .bad, .bad, .bad, .bad, .bad, .bad, .bad, .bad, .bad, .bad, .bad, .bad, .bad, .bad, .bad, .bad, .bad, .bad, .bad, .bad, .bad, .bad, .bad, .bad, .bad, .bad, .bad, .bad, .bad, .bad, .bad, .bad, .bad, .bad, .bad, .bad, .bad, .bad, .bad, .bad, .bad, .bad, .bad, .bad, .bad, .bad, .bad, .bad, .bad, .bad, .bad, .bad, .bad, .bad, .bad, .bad, .bad, .bad, .bad, .bad, .bad, .bad, .bad, .bad, .bad, .bad, .bad, .bad, .bad, .bad, .bad, .bad, .bad, .bad, .bad, .bad, .bad, .bad, .bad, .bad, .bad, .bad, .bad, .bad, .bad, .bad, .bad, .bad, .bad, .bad, .bad, .bad, .bad, .bad, .bad, .bad, .bad, .bad, .bad, .bad, .bad, .bad, .bad, .bad, .bad, .bad, .bad, .bad], memL [], []⟩, 0⟩) := by
  refine loopAll w.safe.length (S_sSafe w) _ _ _ (by simp) (by simp) (fun i hi hp _ => ?_) (fun i hi hp _ => ?_) (fun _ => ?_) hx
  · obtain ⟨y, hy⟩ : ∃ y, w.safe.getD i 0 = y := ⟨_, rfl⟩
    have hl := drop_getD' hi
    unfold incP at hp
    rw [hy] at hl hp
    have h1 : (0 ≤ (i : Int) ∧ (i : Int) < (w.safe.length : Int)) := by omega
    have h2 := cl_at (k := .i64) hl
    have h4 := wrap_next hi (show w.safe.length ≤ 281474976710656 by omega)
    have h5 := r_l1In y 1 (w.log.length : Int)
    simp only [Bool.and_eq_true, Bool.or_eq_true, decide_eq_true_eq] at hp
    rw [hp.1] at h5
    simp only [S_sSafe, worldC]
    by_cases hz : i = 0
    · have c0 : ¬ (0 : Int) < (i : Int) := by omega
      have c0' : ¬ 0 < i := by omega
      simp (maxSteps := 4000000) -implicitDefEqProofs [b17_3, List.take, List.drop, List.range, List.range.loop, fromRo, h1, h2, h4, h5, hi, c0, c0']
      change _ = _
      kernel_rfl
    · have c0 : (0 : Int) < (i : Int) := by omega
      have c0' : 0 < i := by omega
      obtain ⟨j, hj⟩ : ∃ j, j = i - 1 := ⟨_, rfl⟩
      have wj : IntKind.i64.wrap ((i : Int) - 1) = (j : Int) := by rw [wrap_id (by omega) (by omega)]; omega
      have h1j : (0 ≤ (j : Int) ∧ (j : Int) < (w.safe.length : Int)) := by omega
      have h2j := cl_at (k := .i64) (drop_getD' (l := w.safe) (i := j) (by omega))
      have hlt : w.safe.getD j 0 < y := by rw [hj]; exact hp.2.resolve_left hz
      generalize w.safe.getD j 0 = z at *
      have hyz : ¬ y ≤ z := by omega
      have hj2 : j < w.safe.length := by omega
      simp (maxSteps := 4000000) -implicitDefEqProofs [b17_3, List.take, List.drop, List.range, List.range.loop, fromRo, h1, h2, h4, h5, hi, c0, c0', wj, h1j, h2j, hj2, hyz]
      change _ = _
      kernel_rfl
  · obtain ⟨y, hy⟩ : ∃ y, w.safe.getD i 0 = y := ⟨_, rfl⟩
    have hl := drop_getD' hi
    unfold incP at hp
    rw [hy] at hl hp
    have h1 : (0 ≤ (i : Int) ∧ (i : Int) < (w.safe.length : Int)) := by omega
    have h2 := cl_at (k := .i64) hl
    have h4 := wrap_next hi (show w.safe.length ≤ 281474976710656 by omega)
    have h5 := r_l1In y 1 (w.log.length : Int)
    simp only [S_sSafe, worldC]
    cases hr : rng y 1 (w.log.length : Int) with
    | false =>
      rw [hr] at h5
      simp (maxSteps := 4000000) -implicitDefEqProofs [b17_3, List.take, List.drop, List.range, List.range.loop, fromRo, h1, h2, h4, h5, hi]
      change _ = _
      kernel_rfl
    | true =>
      rw [hr] at h5
      simp only [hr, Bool.true_and, Bool.or_eq_false_iff, decide_eq_false_iff_not] at hp
      have c0 : (0 : Int) < (i : Int) := by omega
      have c0' : 0 < i := by omega
      obtain ⟨j, hj⟩ : ∃ j, j = i - 1 := ⟨_, rfl⟩
      have wj : IntKind.i64.wrap ((i : Int) - 1) = (j : Int) := by rw [wrap_id (by omega) (by omega)]; omega
      have h1j : (0 ≤ (j : Int) ∧ (j : Int) < (w.safe.length : Int)) := by omega
      have h2j := cl_at (k := .i64) (drop_getD' (l := w.safe) (i := j) (by omega))
      have hlt : ¬ w.safe.getD j 0 < y := by rw [hj]; exact hp.2
      generalize w.safe.getD j 0 = z at *
      have hyz : y ≤ z := by omega
      have hj2 : j < w.safe.length := by omega
      simp (maxSteps := 4000000) -implicitDefEqProofs [b17_3, List.take, List.drop, List.range, List.range.loop, fromRo, h1, h2, h4, h5, hi, c0, c0', wj, h1j, h2j, hj2, hyz]
      change _ = _
      kernel_rfl
  · simp only [S_sSafe, worldC]
    simp (maxSteps := 4000000) -implicitDefEqProofs [b17_3, List.take, List.drop, fromRo]
    change _ = _
    kernel_rfl

/-! What was written. -/
def S_Log (w : PWorld) (i : Nat) : XS := ⟨⟨[.bad, .v false [.pc (worldC w)], .bad, .bad, .bad, .bad, .bad, .bad, .bad, .bad, .bad, .bad, .bad, .bad, .bad, .bad, .bad, .bad, .bad, .bad, .bad, .bad, .bad, .bad, .bad, .bad, .bad, .bad, .bad, .bad, .bad, .bad, .bad, .bad, .bad, .bad, .bad, .bad, .bad, .bad, .bad, .bad, .bad, .bad, .bad, .bad, .bad, .bad, .bad, .bad, .bad, .bad, .bad, .bad, .bad, .bad, .bad, .bad, .bad, .bad, .bad, .bad, .bad, .bad, .bad, .bad, .bad, .bad, .bad, .bad, .bad, .bad, .bad, .bad, .bad, .bad, .v false [.ro w.log.length (recsC w.log)], .v false [.int .i64 (w.log.length)], .v false [.int .i64 (i)], .bad, .bad, .bad, .bad, .bad, .bad, .bad, .bad, .bad, .bad, .bad, .bad, .bad, .bad, .bad, .bad, .bad, .bad, .bad, .bad, .bad, .bad, .bad, .bad, .bad, .bad, .bad, .bad, .bad, .bad, .bad, .bad, .bad, .bad, .bad, .bad, .bad, .bad, .bad, .bad, .bad, .bad, .bad, .bad, .bad], memL [], []⟩, 0⟩
theorem loop_Log (w : PWorld) (hn : w.log.length ≤ 1048576) {x : XS} (hx : head true d25_1 x = S_Log w 0) : X tab l25_1 x = if allN w.log.length (logP w.log) = true then some (.exit 2, ⟨⟨[.bad, .v false [.pc (worldC w)], .bad, .bad, .bad, .bad, .bad, .bad, .bad, .bad, .bad, .bad, .bad, .bad, .bad, .bad, .bad, .bad, .bad, .bad, .bad, .bad, .bad, .bad, .bad, .bad, .bad, .bad, .bad, .bad, .bad, .bad, .bad, .bad, .bad, .bad, .bad, .bad, .bad, .bad, .bad, .bad, .bad, .bad, .bad, .bad, .bad, .bad, .bad, .bad, .bad, .bad, .bad, .bad, .bad, .bad, .bad, .bad, .bad, .bad, .bad, .bad, .bad, .bad, .bad, .bad, .bad, .bad, .bad, .bad, .bad, .bad, .bad, .bad, .bad, .bad, .bad, .bad, .bad, .bad, .bad, .bad, .bad, .bad, .bad, .bad, .bad, .bad, .bad, .bad, .bad, .bad, .bad, .bad, .bad, .bad, .bad, .bad, .bad, .bad, .bad, .bad, .bad, .bad, .bad, .bad, .bad, .bad, .bad, .bad, .bad, .bad, .bad, .bad, .bad, .bad, .bad, .bad, .bad, .bad, .bad, .bad, .bad, .bad], memL [], []⟩, 0⟩) else some (.ret, ⟨⟨[.bad, .bad, .v false [.bool (false)], .bad, .bad, .bad, .bad, .bad, .bad, .bad, .bad, .bad, .bad, .bad, .bad, .bad, .bad, .bad, .bad, .bad, .bad, .bad, .bad, .bad, .bad, .bad, .bad, .bad, .bad, .bad, .bad, .bad, .bad, .bad, .bad, .bad, .bad, .bad, .bad, .bad, .bad, .bad, .bad, .bad, .bad, .bad, .bad, .bad, .bad, .bad, .bad, .bad, .bad, .bad, .bad, .bad, .bad, .bad, .bad, .bad, .bad, .bad, .bad, .bad, .bad, .bad, .bad, .bad, .bad, .bad, .bad, .bad, .bad, .bad, .bad, .bad, .bad, .bad, .bad, .bad, .bad, .bad, .bad, .bad, .bad, .bad, .bad, .bad, .bad, .bad, .bad, .bad, .bad, .bad, .bad, .bad, .bad, .bad, .bad, .bad, .bad, .bad, .bad, .bad, .bad, .bad, .bad, .bad, .bad, .bad, .bad, .bad, .bad, .bad, .bad, .bad, .bad, .bad, .bad, .bad, .bad, .bad, .bad, .bad], memL [], []⟩, 0⟩) := by
  have gen : ∀ i, i < w.log.length → (logP w.log i = true → ∃ z, X tab b25_1 (S_Log w i) = some (.nrm, z) ∧ head true d25_1 z = S_Log w (i + 1)) ∧ (logP w.log i = false → X tab b25_1 (S_Log w i) = some (.ret, ⟨⟨[.bad, .bad, .v false [.bool (false)], .bad, .bad, .bad, .bad, .bad, .bad, .bad, .bad, .bad, .bad, .bad, .bad, .bad, .bad, .bad, .bad, .bad, .bad, .bad, .bad, .bad, .bad, .bad, .bad, .bad, .bad, .bad, .bad, .bad, .bad, .bad, .bad, .bad, .bad, .bad, .bad, .bad, .bad, .bad, .bad, .bad, .bad, .bad, .bad, .bad, .bad, .bad, .bad, .bad, .bad, .bad, .bad, .bad, .bad, .bad, .bad, .bad, .bad, .bad, .bad, .bad, .bad, .bad, .bad, .bad, .bad, .bad, .bad, .bad, .bad, .bad, .bad, .bad, .bad, .bad, .bad, .bad, .bad, .bad, .bad, .bad, .bad, .bad, .bad, .bad, .bad, .bad, .bad, .bad, .bad, .bad, .bad, .bad, .bad, .bad, .bad, .bad, .bad, .bad, .bad, .bad, .bad, .bad, .bad, .bad, .bad, .bad, .bad, .bad, .bad, .bad, .bad, .bad, .bad, .bad, .bad, .bad, .bad, .bad, .bad, .bad], memL [], []⟩, 0⟩)) := by
    intro i hi
    have h2 := recsC_d hi
    unfold logP
    obtain ⟨c, hc⟩ : ∃ c, (w.log.getD i recD).cell = c := ⟨_, rfl⟩
    obtain ⟨u, hu⟩ : ∃ u, (w.log.getD i recD).up = u := ⟨_, rfl⟩
    rw [hc, hu] at h2 ⊢
    have h1 : (0 ≤ (i : Int) ∧ (i : Int) < (w.log.length : Int)) := by omega
    have h4 := wrap_next hi (show w.log.length ≤ 281474976710656 by omega)
    have h5 := r_isCell c
    have h6 := r_from u 0 (i : Int)
    simp only [S_Log, worldC]
    cases hr1 : rng c 0 7 with
    | false =>
      rw [hr1] at h5
      refine ⟨fun hp => by simp at hp, fun _ => ?_⟩
      simp (maxSteps := 4000000) -implicitDefEqProofs [b25_1, List.take, List.drop, upd, List.range, List.range.loop, spl, fromRo, h1, h2, h4, h5, hi]
      change _ = _
      kernel_rfl
    | true =>
      rw [hr1] at h5
      cases hr2 : rng u 0 (i : Int) with
      | false =>
        rw [hr2] at h6
        refine ⟨fun hp => by simp at hp, fun _ => ?_⟩
        simp (maxSteps := 4000000) -implicitDefEqProofs [b25_1, List.take, List.drop, upd, List.range, List.range.loop, spl, fromRo, h1, h2, h4, h5, h6, hi]
        change _ = _
        kernel_rfl
      | true =>
        rw [hr2] at h6
        refine ⟨fun _ => ?_, fun hp => by simp at hp⟩
        simp (maxSteps := 4000000) -implicitDefEqProofs [b25_1, List.take, List.drop, upd, List.range, List.range.loop, spl, fromRo, h1, h2, h4, h5, h6, hi]
        change _ = _
        kernel_rfl
  refine loopAll w.log.length (S_Log w) _ _ _ (by simp) (by simp) (fun i hi hp _ => (gen i hi).1 hp) (fun i hi hp _ => (gen i hi).2 hp) (fun _ => ?_) hx
  simp only [S_Log, worldC]
  simp (maxSteps := 4000000) -implicitDefEqProofs [b25_1, List.take, List.drop, fromRo]
  change _ = _
  kernel_rfl
def S_sLog (w : PWorld) (i : Nat) : XS := ⟨⟨[.bad, .v false [.pc (worldC w)], .bad, .bad, .bad, .bad, .v false [.int .i64 (i)], .bad, .bad, .bad, .bad, .bad, .bad, .bad, .bad, .bad, .bad, .bad, .bad, .bad, .bad, .bad, .bad, .bad, .bad, .bad, .bad, .bad, .bad, .bad, .bad, .bad, .bad, .bad, .bad, .bad, .bad, .bad, .bad, .bad, .bad, .bad, .bad, .bad, .bad, .bad, .bad, .bad, .bad, .bad, .bad, .bad, .bad, .bad, .bad, .bad, .bad, .bad, .bad, .bad, .bad, .bad, .bad, .bad, .bad, .bad, .bad, .bad, .bad, .bad, .bad, .bad, .bad, .bad, .bad, .bad, .bad, .bad, .bad, .bad, .bad, .bad, .bad, .bad, .bad, .bad, .bad, .bad, .bad, .bad, .bad, .bad, .bad, .bad, .bad, .bad, .bad, .bad, .bad, .bad, .bad, .bad, .bad, .bad, .bad, .bad, .bad, .bad, .bad, .bad, .bad, .bad, .bad, .bad, .bad, .bad, .bad, .bad, .bad, .bad, .bad, .bad, .bad, .bad, .bad, .bad, .bad], memL [], []⟩, 0⟩
theorem loop_sLog (w : PWorld) (hn : w.log.length ≤ 1048576) {x : XS} (hx : head true d17_2 x = S_sLog w 0) : X tab l17_2 x = if allN w.log.length (logP w.log) = true then some (.exit 4, ⟨⟨[.bad, .v false [.pc (worldC w)], .bad, .bad, .bad, .bad, .bad, .bad, .bad, .bad, .bad, .bad, .bad, .bad, .bad, .bad, .bad, .bad, .bad, .bad, .bad, .bad, .bad, .bad, .bad, .bad, .bad, .bad, .bad, .bad, .bad, .bad, .bad, .bad, .bad, .bad, .bad, .bad, .bad, .bad, .bad, .bad, .bad, .bad, .bad, .bad, .bad, .bad, .bad, .bad, .bad, .bad, .bad, .bad, .bad, .bad, .bad, .bad, .bad, .bad, .bad, .bad, .bad, .bad, .bad, .bad, .bad, .bad, .bad, .bad, .bad, .bad, .bad, .bad, .bad, .bad, .bad, .bad, .bad, .bad, .bad, .bad, .bad, .bad, .bad, .bad, .bad, .bad, .bad, .bad, .bad, .bad, .bad, .bad, .bad, .bad, .bad, .bad, .bad, .bad, .bad, .bad, .bad, .bad, .bad, .bad, .bad, .bad, .bad, .bad, .bad, .bad, .bad, .bad, .bad, .bad, .bad, .bad, .bad, .bad, .bad, .bad, .bad, .bad, .bad, .bad, .bad], memL [], []⟩, 0⟩) else some (.ret, ⟨⟨[.bad, .bad, .v false [.bool (false)], .bad, .bad, .bad, .bad, .bad, .bad, .bad, .bad, .bad, .bad, .bad, .bad, .bad, .bad, .bad, .bad, .bad, .bad, .bad, .bad, .bad, .bad, .bad, .bad, .bad, .bad, .bad, .bad, .bad, .bad, .bad, .bad, .bad, .bad, .bad, .bad, .bad, .bad, .bad, .bad, .bad, .bad, .bad, .bad, .bad, .bad, .bad, .bad, .bad, .bad, .bad, .bad, .bad, .bad, .bad, .bad, .bad, .bad, .bad, .bad, .bad, .bad, .bad, .bad, .bad, .bad, .bad, .bad, .bad, .bad, .bad, .bad, .bad, .bad, .bad, .bad, .bad, .bad, .bad, .bad, .bad, .bad, .bad, .bad, .bad, .bad, .bad, .bad, .bad, .bad, .bad, .bad, .bad, .bad, .bad, .bad, .bad, .bad, .bad, .bad, .bad, .bad, .bad, .bad, .bad, .bad, .bad, .bad, .bad, .bad, .bad, .bad, .bad, .bad, .bad, .bad, .bad, .bad, .bad, .bad, .bad, .bad, .bad, .bad], memL [], []⟩, 0⟩) := by
  have gen : ∀ i, i < w.log.length → (logP w.log i = true → ∃ z, X tab b17_2 (S_sLog w i) = some (.nrm, z) ∧ head true d17_2 z = S_sLog w (i + 1)) ∧ (logP w.log i = false → X tab b17_2 (S_sLog w i) = some (.ret, ⟨⟨[.bad, .bad, .v false [.bool (false)], .bad, .bad, .bad, .bad, .bad, .bad, .bad, .bad, .bad, .bad, .bad, .bad, .bad, .bad, .bad, .bad, .bad, .bad, .bad, .bad, .bad, .bad, .bad, .bad, .bad, .bad, .bad, .bad, .bad, .bad, .bad, .bad, .bad, .bad, .bad, .bad, .bad, .bad, .bad, .bad, .bad, .bad, .bad, .bad, .bad, .bad, .bad, .bad, .bad, .bad, .bad, .bad, .bad, .bad, .bad, .bad, .bad, .bad, .bad, .bad, .bad, .bad, .bad, .bad, .bad, .bad, .bad, .bad, .bad, .bad, .bad, .bad, .bad, .bad, .bad, .bad, .bad, .bad, .bad, .bad, .bad, .bad, .bad, .bad, .bad, .bad, .bad, .bad, .bad, .bad, .bad, .bad, .bad, .bad, .bad, .bad, .bad, .bad, .bad, .bad, .bad, .bad, .bad, .bad, .bad, .bad, .bad, .bad, .bad, .bad, .bad, .bad, .bad, .bad, .bad, .bad, .bad, .bad, .bad, .bad, .bad, .bad, .bad, .bad], memL [], []⟩, 0⟩)) := by
    intro i hi
    have h2 := recsC_d hi
    unfold logP
    obtain ⟨c, hc⟩ : ∃ c, (w.log.getD i recD).cell = c := ⟨_, rfl⟩
    obtain ⟨u, hu⟩ : ∃ u, (w.log.getD i recD).up = u := ⟨_, rfl⟩
    rw [hc, hu] at h2 ⊢
    have h1 : (0 ≤ (i : Int) ∧ (i : Int) < (w.log.length : Int)) := by omega
    have h4 := wrap_next hi (show w.log.length ≤ 281474976710656 by omega)
    have h5 := r_l1In c 0 7
    have h6 := r_l1In u 0 (i : Int)
    simp only [S_sLog, worldC]
    cases hr1 : rng c 0 7 with
    | false =>
      rw [hr1] at h5
      refine ⟨fun hp => by simp at hp, fun _ => ?_⟩
      simp (maxSteps := 4000000) -implicitDefEqProofs [b17_2, List.take, List.drop, upd, List.range, List.range.loop, spl, fromRo, h1, h2, h4, h5, hi]
      change _ = _
      kernel_rfl
    | true =>
      rw [hr1] at h5
      cases hr2 : rng u 0 (i : Int) with
      | false =>
        rw [hr2] at h6
        refine ⟨fun hp => by simp at hp, fun _ => ?_⟩
        simp (maxSteps := 4000000) -implicitDefEqProofs [b17_2, List.take, List.drop, upd, List.range, List.range.loop, spl, fromRo, h1, h2, h4, h5, h6, hi]
        change _ = _
        kernel_rfl
      | true =>
        rw [hr2] at h6
        refine ⟨fun _ => ?_, fun hp => by simp at hp⟩
        simp (maxSteps := 4000000) -implicitDefEqProofs [b17_2, List.take, List.drop, upd, List.range, List.range.loop, spl, fromRo, h1, h2, h4, h5, h6, hi]
        change _ = _
        kernel_rfl
  refine loopAll w.log.length (S_sLog w) _ _ _ (by simp) (by simp) (fun i hi hp _ => (gen i hi).1 hp) (fun i hi hp _ => (gen i hi).2 hp) (fun _ => ?_) hx
  simp only [S_sLog, worldC]
  simp (maxSteps := 4000000) -implicitDefEqProofs [b17_2, List.take, List.drop, fromRo]
  change _ = _
  kernel_rfl

def wireD : PWire := ⟨0, 0, []⟩
def nodeD : PNode := ⟨0, false, false, [], ⟨[], [], false, false, false, 0⟩, [], [], [], [], [], []⟩
def connOf (w : PWorld) (a b : Nat) : Bool := (w.nodes.getD a nodeD).conn.getD b false
def netP (w : PWorld) (i : Nat) : Bool := rng (w.net.getD i wireD).src 0 2 && rng (w.net.getD i wireD).dst 0 2 && !((w.net.getD i wireD).src == (w.net.getD i wireD).dst) && connOf w (w.net.getD i wireD).src.toNat (w.net.getD i wireD).dst.toNat && decide ((w.net.getD i wireD).bytes.length ≤ 400)
theorem wiresC_d {l : List PWire} {i : Nat} (h : i < l.length) : (wiresC l).drop (i * 3) = .int .i64 (l.getD i wireD).src :: .int .i64 (l.getD i wireD).dst :: .sl (l.getD i wireD).bytes.length (cl .u8 (l.getD i wireD).bytes) :: wiresC (l.drop (i + 1)) := by
  have := wiresC_at (dropx_getD wireD h)
  simpa [wireC, bytesC] using this
/-- A node's row of lines, where the nodes' row is read. -/
theorem nodesC_d {l : List PNode} {i : Nat} (h : i < l.length) : ∃ r, (nodesC l).drop (i * 16) = nodeC (l.getD i nodeD) ++ r := by
  have := nodesC_at (dropx_getD nodeD h)
  exact ⟨_, this⟩
def S_Net (w : PWorld) (i : Nat) : XS := ⟨⟨[.bad, .v false [.pc (worldC w)], .bad, .bad, .bad, .bad, .bad, .bad, .bad, .bad, .bad, .bad, .bad, .bad, .bad, .bad, .bad, .bad, .bad, .bad, .bad, .bad, .bad, .bad, .bad, .bad, .bad, .bad, .bad, .bad, .bad, .v false [.ro w.net.length (wiresC w.net)], .v false [.int .i64 (w.net.length)], .v false [.int .i64 (i)], .bad, .bad, .bad, .bad, .bad, .bad, .bad, .bad, .bad, .bad, .bad, .bad, .bad, .bad, .bad, .bad, .bad, .bad, .bad, .bad, .bad, .bad, .bad, .bad, .bad, .bad, .bad, .bad, .bad, .bad, .bad, .bad, .bad, .bad, .bad, .bad, .bad, .bad, .bad, .bad, .bad, .bad, .bad, .bad, .bad, .bad, .bad, .bad, .bad, .bad, .bad, .bad, .bad, .bad, .bad, .bad, .bad, .bad, .bad, .bad, .bad, .bad, .bad, .bad, .bad, .bad, .bad, .bad, .bad, .bad, .bad, .bad, .bad, .bad, .bad, .bad, .bad, .bad, .bad, .bad, .bad, .bad, .bad, .bad, .bad, .bad, .bad, .bad, .bad, .bad], memL [], []⟩, 0⟩
def S_sNet (w : PWorld) (i : Nat) : XS := ⟨⟨[.bad, .v false [.pc (worldC w)], .bad, .bad, .bad, .v false [.int .i64 (i)], .bad, .bad, .bad, .bad, .bad, .bad, .bad, .bad, .bad, .bad, .bad, .bad, .bad, .bad, .bad, .bad, .bad, .bad, .bad, .bad, .bad, .bad, .bad, .bad, .bad, .bad, .bad, .bad, .bad, .bad, .bad, .bad, .bad, .bad, .bad, .bad, .bad, .bad, .bad, .bad, .bad, .bad, .bad, .bad, .bad, .bad, .bad, .bad, .bad, .bad, .bad, .bad, .bad, .bad, .bad, .bad, .bad, .bad, .bad, .bad, .bad, .bad, .bad, .bad, .bad, .bad, .bad, .bad, .bad, .bad, .bad, .bad, .bad, .bad, .bad, .bad, .bad, .bad, .bad, .bad, .bad], memL [], []⟩, 0⟩
theorem r_isNodeW (n : Int) : runRO (X tab) tab 26 [.v false [.int .i64 n]] = some (.v false [.bool (rng n 0 2)], []) := by
  unfold runRO
  simp (maxSteps := 4000000) -implicitDefEqProofs [tab26, a26, List.take, List.drop, List.range, List.range.loop, memL, r_from]
theorem loop_Net (w : PWorld) (hn : w.net.length ≤ 1048576) (h3 : w.nodes.length = 3) (hc3 : ∀ i, i < 3 → (w.nodes.getD i nodeD).conn.length = 3) {x : XS} (hx : head true d25_0 x = S_Net w 0) : X tab l25_0 x = if allN w.net.length (netP w) = true then some (.exit 0, ⟨⟨[.bad, .v false [.pc (worldC w)], .bad, .bad, .bad, .bad, .bad, .bad, .bad, .bad, .bad, .bad, .bad, .bad, .bad, .bad, .bad, .bad, .bad, .bad, .bad, .bad, .bad, .bad, .bad, .bad, .bad, .bad, .bad, .bad, .bad, .bad, .bad, .bad, .bad, .bad, .bad, .bad, .bad, .bad, .bad, .bad, .bad, .bad, .bad, .bad, .bad, .bad, .bad, .bad, .bad, .bad, .bad, .bad, .bad, .bad, .bad, .bad, .bad, .bad, .bad, .bad, .bad, .bad, .bad, .bad, .bad, .bad, .bad, .bad, .bad, .bad, .bad, .bad, .bad, .bad, .bad, .bad, .bad, .bad, .bad, .bad, .bad, .bad, .bad, .bad, .bad, .bad, .bad, .bad, .bad, .bad, .bad, .bad, .bad, .bad, .bad, .bad, .bad, .bad, .bad, .bad, .bad, .bad, .bad, .bad, .bad, .bad, .bad, .bad, .bad, .bad, .bad, .bad, .bad, .bad, .bad, .bad, .bad, .bad, .bad, .bad, .bad, .bad], memL [], []⟩, 0⟩) else some (.ret, ⟨⟨[.bad, .bad, .v false [.bool (false)], .bad, .bad, .bad, .bad, .bad, .bad, .bad, .bad, .bad, .bad, .bad, .bad, .bad, .bad, .bad, .bad, .bad, .bad, .bad, .bad, .bad, .bad, .bad, .bad, .bad, .bad, .bad, .bad, .bad, .bad, .bad, .bad, .bad, .bad, .bad, .bad, .bad, .bad, .bad, .bad, .bad, .bad, .bad, .bad, .bad, .bad, .bad, .bad, .bad, .bad, .bad, .bad, .bad, .bad, .bad, .bad, .bad, .bad, .bad, .bad, .bad, .bad, .bad, .bad, .bad, .bad, .bad, .bad, .bad, .bad, .bad, .bad, .bad, .bad, .bad, .bad, .bad, .bad, .bad, .bad, .bad, .bad, .bad, .bad, .bad, .bad, .bad, .bad, .bad, .bad, .bad, .bad, .bad, .bad, .bad, .bad, .bad, .bad, .bad, .bad, .bad, .bad, .bad, .bad, .bad, .bad, .bad, .bad, .bad, .bad, .bad, .bad, .bad, .bad, .bad, .bad, .bad, .bad, .bad, .bad, .bad], memL [], []⟩, 0⟩) := by
  have gen : ∀ i, i < w.net.length → (netP w i = true → ∃ z, X tab b25_0 (S_Net w i) = some (.nrm, z) ∧ head true d25_0 z = S_Net w (i + 1)) ∧ (netP w i = false → X tab b25_0 (S_Net w i) = some (.ret, ⟨⟨[.bad, .bad, .v false [.bool (false)], .bad, .bad, .bad, .bad, .bad, .bad, .bad, .bad, .bad, .bad, .bad, .bad, .bad, .bad, .bad, .bad, .bad, .bad, .bad, .bad, .bad, .bad, .bad, .bad, .bad, .bad, .bad, .bad, .bad, .bad, .bad, .bad, .bad, .bad, .bad, .bad, .bad, .bad, .bad, .bad, .bad, .bad, .bad, .bad, .bad, .bad, .bad, .bad, .bad, .bad, .bad, .bad, .bad, .bad, .bad, .bad, .bad, .bad, .bad, .bad, .bad, .bad, .bad, .bad, .bad, .bad, .bad, .bad, .bad, .bad, .bad, .bad, .bad, .bad, .bad, .bad, .bad, .bad, .bad, .bad, .bad, .bad, .bad, .bad, .bad, .bad, .bad, .bad, .bad, .bad, .bad, .bad, .bad, .bad, .bad, .bad, .bad, .bad, .bad, .bad, .bad, .bad, .bad, .bad, .bad, .bad, .bad, .bad, .bad, .bad, .bad, .bad, .bad, .bad, .bad, .bad, .bad, .bad, .bad, .bad, .bad], memL [], []⟩, 0⟩)) := by
    intro i hi
    have h2 := wiresC_d hi
    unfold netP
    obtain ⟨a, ha⟩ : ∃ a, (w.net.getD i wireD).src = a := ⟨_, rfl⟩
    obtain ⟨b, hb⟩ : ∃ b, (w.net.getD i wireD).dst = b := ⟨_, rfl⟩
    obtain ⟨by_, hby⟩ : ∃ y, (w.net.getD i wireD).bytes = y := ⟨_, rfl⟩
    rw [ha, hb, hby] at h2 ⊢
    have h1 : (0 ≤ (i : Int) ∧ (i : Int) < (w.net.length : Int)) := by omega
    have h4 := wrap_next hi (show w.net.length ≤ 281474976710656 by omega)
    have h5 := r_isNodeW a
    have h6 := r_isNodeW b
    simp only [S_Net, worldC, h3]
    cases hr1 : rng a 0 2 with
    | false =>
      rw [hr1] at h5
      refine ⟨fun hp => by simp at hp, fun _ => ?_⟩
      simp (maxSteps := 4000000) -implicitDefEqProofs [b25_0, List.take, List.drop, upd, List.range, List.range.loop, spl, fromRo, h1, h2, h4, h5, hi]
      change _ = _
      kernel_rfl
    | true =>
      rw [hr1] at h5
      cases hr2 : rng b 0 2 with
      | false =>
        rw [hr2] at h6
        refine ⟨fun hp => by simp at hp, fun _ => ?_⟩
        simp (maxSteps := 4000000) -implicitDefEqProofs [b25_0, List.take, List.drop, upd, List.range, List.range.loop, spl, fromRo, h1, h2, h4, h5, h6, hi]
        change _ = _
        kernel_rfl
      | true =>
        rw [hr2] at h6
        have ra := rng_iff.1 hr1
        have rb := rng_iff.1 hr2
        obtain ⟨p, rfl⟩ : ∃ p : Nat, a = (p : Int) := ⟨a.toNat, by omega⟩
        obtain ⟨q, rfl⟩ : ∃ q : Nat, b = (q : Int) := ⟨b.toNat, by omega⟩
        cases hpq : ((p : Int) == (q : Int)) with
        | true =>
          refine ⟨fun hp => by simp at hp, fun _ => ?_⟩
          simp (maxSteps := 4000000) -implicitDefEqProofs [b25_0, List.take, List.drop, upd, List.range, List.range.loop, spl, fromRo, h1, h2, h4, h5, h6, hpq, hi]
          change _ = _
          kernel_rfl
        | false =>
          have hp3 : p < 3 := by omega
          have hq3 : q < 3 := by omega
          obtain ⟨rr, hd⟩ := nodesC_d (l := w.nodes) (i := p) (by omega)
          have hdc := cb_at (dropx_getD (l := (w.nodes.getD p nodeD).conn) (i := q) false (by rw [hc3 p hp3]; exact hq3))
          have hcl := hc3 p hp3
          have hco : connOf w (p : Int).toNat (q : Int).toNat = (w.nodes.getD p nodeD).conn.getD q false := rfl
          rw [hco]
          simp only [nodeC, boolsC, List.cons_append, List.nil_append] at hd
          rw [hcl] at hd
          generalize (w.nodes.getD p nodeD).conn.getD q false = cc at *
          generalize w.nodes.getD p nodeD = nd at *
          have i1 : (0 ≤ (p : Int) ∧ (p : Int) < 3) := by omega
          have i2 : (0 ≤ (q : Int) ∧ (q : Int) < 3) := by omega
          cases cc with
          | false =>
            refine ⟨fun hp => by simp at hp, fun _ => ?_⟩
            simp (maxSteps := 4000000) -implicitDefEqProofs [b25_0, List.take, List.drop, upd, List.range, List.range.loop, spl, fromRo, h1, h2, h4, h5, h6, hpq, hd, hdc, i1, i2, hp3, hq3, hi]
            change _ = _
            kernel_rfl
          | true =>
            by_cases hl : by_.length ≤ 400
            · have hl' : ¬ (400 : Int) < (by_.length : Int) := by omega
              have hl2 : ¬ 400 < by_.length := by omega
              refine ⟨fun _ => ?_, fun hp => by simp [hl] at hp⟩
              simp (maxSteps := 4000000) -implicitDefEqProofs [b25_0, List.take, List.drop, upd, List.range, List.range.loop, spl, fromRo, h1, h2, h4, h5, h6, hpq, hd, hdc, i1, i2, hp3, hq3, hl', hl2, hi]
              change _ = _
              kernel_rfl
            · have hl' : (400 : Int) < (by_.length : Int) := by omega
              have hl2 : 400 < by_.length := by omega
              refine ⟨fun hp => by simp [hl] at hp, fun _ => ?_⟩
              simp (maxSteps := 4000000) -implicitDefEqProofs [b25_0, List.take, List.drop, upd, List.range, List.range.loop, spl, fromRo, h1, h2, h4, h5, h6, hpq, hd, hdc, i1, i2, hp3, hq3, hl', hl2, hi]
              change _ = _
              kernel_rfl
  refine loopAll w.net.length (S_Net w) _ _ _ (by simp) (by simp) (fun i hi hp _ => (gen i hi).1 hp) (fun i hi hp _ => (gen i hi).2 hp) (fun _ => ?_) hx
  simp only [S_Net, worldC]
  simp (maxSteps := 4000000) -implicitDefEqProofs [b25_0, List.take, List.drop, fromRo]
  change _ = _
  kernel_rfl
theorem loop_sNet (w : PWorld) (hn : w.net.length ≤ 1048576) (h3 : w.nodes.length = 3) (hc3 : ∀ i, i < 3 → (w.nodes.getD i nodeD).conn.length = 3) {x : XS} (hx : head true d38_2 x = S_sNet w 0) : X tab l38_2 x = if allN w.net.length (netP w) = true then some (.exit 4, ⟨⟨[.bad, .v false [.pc (worldC w)], .bad, .bad, .bad, .bad, .bad, .bad, .bad, .bad, .bad, .bad, .bad, .bad, .bad, .bad, .bad, .bad, .bad, .bad, .bad, .bad, .bad, .bad, .bad, .bad, .bad, .bad, .bad, .bad, .bad, .bad, .bad, .bad, .bad, .bad, .bad, .bad, .bad, .bad, .bad, .bad, .bad, .bad, .bad, .bad, .bad, .bad, .bad, .bad, .bad, .bad, .bad, .bad, .bad, .bad, .bad, .bad, .bad, .bad, .bad, .bad, .bad, .bad, .bad, .bad, .bad, .bad, .bad, .bad, .bad, .bad, .bad, .bad, .bad, .bad, .bad, .bad, .bad, .bad, .bad, .bad, .bad, .bad, .bad, .bad, .bad], memL [], []⟩, 0⟩) else some (.ret, ⟨⟨[.bad, .bad, .v false [.bool (false)], .bad, .bad, .bad, .bad, .bad, .bad, .bad, .bad, .bad, .bad, .bad, .bad, .bad, .bad, .bad, .bad, .bad, .bad, .bad, .bad, .bad, .bad, .bad, .bad, .bad, .bad, .bad, .bad, .bad, .bad, .bad, .bad, .bad, .bad, .bad, .bad, .bad, .bad, .bad, .bad, .bad, .bad, .bad, .bad, .bad, .bad, .bad, .bad, .bad, .bad, .bad, .bad, .bad, .bad, .bad, .bad, .bad, .bad, .bad, .bad, .bad, .bad, .bad, .bad, .bad, .bad, .bad, .bad, .bad, .bad, .bad, .bad, .bad, .bad, .bad, .bad, .bad, .bad, .bad, .bad, .bad, .bad, .bad, .bad], memL [], []⟩, 0⟩) := by
  have gen : ∀ i, i < w.net.length → (netP w i = true → ∃ z, X tab b38_2 (S_sNet w i) = some (.nrm, z) ∧ head true d38_2 z = S_sNet w (i + 1)) ∧ (netP w i = false → X tab b38_2 (S_sNet w i) = some (.ret, ⟨⟨[.bad, .bad, .v false [.bool (false)], .bad, .bad, .bad, .bad, .bad, .bad, .bad, .bad, .bad, .bad, .bad, .bad, .bad, .bad, .bad, .bad, .bad, .bad, .bad, .bad, .bad, .bad, .bad, .bad, .bad, .bad, .bad, .bad, .bad, .bad, .bad, .bad, .bad, .bad, .bad, .bad, .bad, .bad, .bad, .bad, .bad, .bad, .bad, .bad, .bad, .bad, .bad, .bad, .bad, .bad, .bad, .bad, .bad, .bad, .bad, .bad, .bad, .bad, .bad, .bad, .bad, .bad, .bad, .bad, .bad, .bad, .bad, .bad, .bad, .bad, .bad, .bad, .bad, .bad, .bad, .bad, .bad, .bad, .bad, .bad, .bad, .bad, .bad, .bad], memL [], []⟩, 0⟩)) := by
    intro i hi
    have h2 := wiresC_d hi
    unfold netP
    obtain ⟨a, ha⟩ : ∃ a, (w.net.getD i wireD).src = a := ⟨_, rfl⟩
    obtain ⟨b, hb⟩ : ∃ b, (w.net.getD i wireD).dst = b := ⟨_, rfl⟩
    obtain ⟨by_, hby⟩ : ∃ y, (w.net.getD i wireD).bytes = y := ⟨_, rfl⟩
    rw [ha, hb, hby] at h2 ⊢
    have h1 : (0 ≤ (i : Int) ∧ (i : Int) < (w.net.length : Int)) := by omega
    have h4 := wrap_next hi (show w.net.length ≤ 281474976710656 by omega)
    have h5 := r_l1In a 0 2
    have h6 := r_l1In b 0 2
    simp only [S_sNet, worldC, h3]
    cases hr1 : rng a 0 2 with
    | false =>
      rw [hr1] at h5
      refine ⟨fun hp => by simp at hp, fun _ => ?_⟩
      simp (maxSteps := 4000000) -implicitDefEqProofs [b38_2, List.take, List.drop, upd, List.range, List.range.loop, spl, fromRo, h1, h2, h4, h5, hi]
      change _ = _
      kernel_rfl
    | true =>
      rw [hr1] at h5
      cases hr2 : rng b 0 2 with
      | false =>
        rw [hr2] at h6
        refine ⟨fun hp => by simp at hp, fun _ => ?_⟩
        simp (maxSteps := 4000000) -implicitDefEqProofs [b38_2, List.take, List.drop, upd, List.range, List.range.loop, spl, fromRo, h1, h2, h4, h5, h6, hi]
        change _ = _
        kernel_rfl
      | true =>
        rw [hr2] at h6
        have ra := rng_iff.1 hr1
        have rb := rng_iff.1 hr2
        obtain ⟨p, rfl⟩ : ∃ p : Nat, a = (p : Int) := ⟨a.toNat, by omega⟩
        obtain ⟨q, rfl⟩ : ∃ q : Nat, b = (q : Int) := ⟨b.toNat, by omega⟩
        cases hpq : ((p : Int) == (q : Int)) with
        | true =>
          refine ⟨fun hp => by simp at hp, fun _ => ?_⟩
          simp (maxSteps := 4000000) -implicitDefEqProofs [b38_2, List.take, List.drop, upd, List.range, List.range.loop, spl, fromRo, h1, h2, h4, h5, h6, hpq, hi]
          change _ = _
          kernel_rfl
        | false =>
          have hp3 : p < 3 := by omega
          have hq3 : q < 3 := by omega
          obtain ⟨rr, hd⟩ := nodesC_d (l := w.nodes) (i := p) (by omega)
          have hdc := cb_at (dropx_getD (l := (w.nodes.getD p nodeD).conn) (i := q) false (by rw [hc3 p hp3]; exact hq3))
          have hcl := hc3 p hp3
          have hco : connOf w (p : Int).toNat (q : Int).toNat = (w.nodes.getD p nodeD).conn.getD q false := rfl
          rw [hco]
          simp only [nodeC, boolsC, List.cons_append, List.nil_append] at hd
          rw [hcl] at hd
          generalize (w.nodes.getD p nodeD).conn.getD q false = cc at *
          generalize w.nodes.getD p nodeD = nd at *
          have i1 : (0 ≤ (p : Int) ∧ (p : Int) < 3) := by omega
          have i2 : (0 ≤ (q : Int) ∧ (q : Int) < 3) := by omega
          cases cc with
          | false =>
            refine ⟨fun hp => by simp at hp, fun _ => ?_⟩
            simp (maxSteps := 4000000) -implicitDefEqProofs [b38_2, List.take, List.drop, upd, List.range, List.range.loop, spl, fromRo, h1, h2, h4, h5, h6, hpq, hd, hdc, i1, i2, hp3, hq3, hi]
            change _ = _
            kernel_rfl
          | true =>
            by_cases hl : by_.length ≤ 400
            · have hl' : ¬ (400 : Int) < (by_.length : Int) := by omega
              have hl2 : ¬ 400 < by_.length := by omega
              refine ⟨fun _ => ?_, fun hp => by simp [hl] at hp⟩
              simp (maxSteps := 4000000) -implicitDefEqProofs [b38_2, List.take, List.drop, upd, List.range, List.range.loop, spl, fromRo, h1, h2, h4, h5, h6, hpq, hd, hdc, i1, i2, hp3, hq3, hl', hl2, hi]
              change _ = _
              kernel_rfl
            · have hl' : (400 : Int) < (by_.length : Int) := by omega
              have hl2 : 400 < by_.length := by omega
              refine ⟨fun hp => by simp [hl] at hp, fun _ => ?_⟩
              simp (maxSteps := 4000000) -implicitDefEqProofs [b38_2, List.take, List.drop, upd, List.range, List.range.loop, spl, fromRo, h1, h2, h4, h5, h6, hpq, hd, hdc, i1, i2, hp3, hq3, hl', hl2, hi]
              change _ = _
              kernel_rfl
  refine loopAll w.net.length (S_sNet w) _ _ _ (by simp) (by simp) (fun i hi hp _ => (gen i hi).1 hp) (fun i hi hp _ => (gen i hi).2 hp) (fun _ => ?_) hx
  simp only [S_sNet, worldC]
  simp (maxSteps := 4000000) -implicitDefEqProofs [b38_2, List.take, List.drop, fromRo]
  change _ = _
  kernel_rfl

/-! The reference's: both ends alike. -/
def S_sCon1 (w : PWorld) (i k : Nat) : XS := ⟨⟨[.bad, .v false [.pc (worldC w)], .bad, .v false [.int .i64 (i)], .v false [.int .i64 (k)], .bad, .bad, .bad, .bad, .bad, .bad, .bad, .bad, .bad, .bad, .bad, .bad, .bad, .bad, .bad, .bad, .bad, .bad, .bad, .bad, .bad, .bad, .bad, .bad, .bad, .bad, .bad, .bad, .bad, .bad, .bad, .bad, .bad, .bad, .bad, .bad, .bad, .bad, .bad, .bad, .bad, .bad, .bad, .bad, .bad, .bad, .bad, .bad, .bad, .bad, .bad, .bad, .bad, .bad, .bad, .bad, .bad, .bad, .bad, .bad, .bad, .bad, .bad, .bad, .bad, .bad, .bad, .bad, .bad, .bad, .bad, .bad, .bad, .bad, .bad, .bad, .bad, .bad, .bad, .bad, .bad, .bad], memL [], []⟩, 0⟩
theorem loop_sCon1 (w : PWorld) (h3 : w.nodes.length = 3) (hc3 : ∀ i, i < 3 → (w.nodes.getD i nodeD).conn.length = 3) (i : Nat) (hi : i < 3) {x : XS} (hx : head true d38_1 x = S_sCon1 w i 0) : X tab l38_1 x = if allN 3 (fun k => connOf w i k == connOf w k i) = true then some (.exit 2, ⟨⟨[.bad, .v false [.pc (worldC w)], .bad, .v false [.int .i64 (i)], .bad, .bad, .bad, .bad, .bad, .bad, .bad, .bad, .bad, .bad, .bad, .bad, .bad, .bad, .bad, .bad, .bad, .bad, .bad, .bad, .bad, .bad, .bad, .bad, .bad, .bad, .bad, .bad, .bad, .bad, .bad, .bad, .bad, .bad, .bad, .bad, .bad, .bad, .bad, .bad, .bad, .bad, .bad, .bad, .bad, .bad, .bad, .bad, .bad, .bad, .bad, .bad, .bad, .bad, .bad, .bad, .bad, .bad, .bad, .bad, .bad, .bad, .bad, .bad, .bad, .bad, .bad, .bad, .bad, .bad, .bad, .bad, .bad, .bad, .bad, .bad, .bad, .bad, .bad, .bad, .bad, .bad, .bad], memL [], []⟩, 0⟩) else some (.ret, ⟨⟨[.bad, .bad, .v false [.bool (false)], .bad, .bad, .bad, .bad, .bad, .bad, .bad, .bad, .bad, .bad, .bad, .bad, .bad, .bad, .bad, .bad, .bad, .bad, .bad, .bad, .bad, .bad, .bad, .bad, .bad, .bad, .bad, .bad, .bad, .bad, .bad, .bad, .bad, .bad, .bad, .bad, .bad, .bad, .bad, .bad, .bad, .bad, .bad, .bad, .bad, .bad, .bad, .bad, .bad, .bad, .bad, .bad, .bad, .bad, .bad, .bad, .bad, .bad, .bad, .bad, .bad, .bad, .bad, .bad, .bad, .bad, .bad, .bad, .bad, .bad, .bad, .bad, .bad, .bad, .bad, .bad, .bad, .bad, .bad, .bad, .bad, .bad, .bad, .bad], memL [], []⟩, 0⟩) := by
  have gen : ∀ k, k < 3 → ((connOf w i k == connOf w k i) = true → ∃ z, X tab b38_1 (S_sCon1 w i k) = some (.nrm, z) ∧ head true d38_1 z = S_sCon1 w i (k + 1)) ∧ ((connOf w i k == connOf w k i) = false → X tab b38_1 (S_sCon1 w i k) = some (.ret, ⟨⟨[.bad, .bad, .v false [.bool (false)], .bad, .bad, .bad, .bad, .bad, .bad, .bad, .bad, .bad, .bad, .bad, .bad, .bad, .bad, .bad, .bad, .bad, .bad, .bad, .bad, .bad, .bad, .bad, .bad, .bad, .bad, .bad, .bad, .bad, .bad, .bad, .bad, .bad, .bad, .bad, .bad, .bad, .bad, .bad, .bad, .bad, .bad, .bad, .bad, .bad, .bad, .bad, .bad, .bad, .bad, .bad, .bad, .bad, .bad, .bad, .bad, .bad, .bad, .bad, .bad, .bad, .bad, .bad, .bad, .bad, .bad, .bad, .bad, .bad, .bad, .bad, .bad, .bad, .bad, .bad, .bad, .bad, .bad, .bad, .bad, .bad, .bad, .bad, .bad], memL [], []⟩, 0⟩)) := by
    intro k hk
    have i1 : (0 ≤ (i : Int) ∧ (i : Int) < 3) := by omega
    have k1 : (0 ≤ (k : Int) ∧ (k : Int) < 3) := by omega
    have h4 := wrap_next hk (show 3 ≤ 281474976710656 by omega)
    obtain ⟨r1, d1⟩ := nodesC_d (l := w.nodes) (i := i) (by omega)
    obtain ⟨r2, d2⟩ := nodesC_d (l := w.nodes) (i := k) (by omega)
    have c1 := cb_at (dropx_getD (l := (w.nodes.getD i nodeD).conn) (i := k) false (by rw [hc3 i hi]; exact hk))
    have c2 := cb_at (dropx_getD (l := (w.nodes.getD k nodeD).conn) (i := i) false (by rw [hc3 k hk]; exact hi))
    have l1 := hc3 i hi
    have l2 := hc3 k hk
    simp only [nodeC, boolsC, List.cons_append, List.nil_append] at d1 d2
    rw [l1] at d1
    rw [l2] at d2
    unfold connOf
    simp only [S_sCon1, worldC, h3]
    generalize (w.nodes.getD i nodeD).conn.getD k false = p at *
    generalize (w.nodes.getD k nodeD).conn.getD i false = q at *
    generalize w.nodes.getD i nodeD = n1 at *
    generalize w.nodes.getD k nodeD = n2 at *
    cases p <;> cases q <;>
    (refine ⟨fun hp => ?_, fun hp => ?_⟩ <;> first
      | (exfalso; simp at hp; done)
      | (simp (maxSteps := 4000000) -implicitDefEqProofs [b38_1, List.take, List.drop, upd, List.range, List.range.loop, spl, fromRo, i1, k1, h4, d1, d2, c1, c2, hi, hk]
         change _ = _
         kernel_rfl))
  refine loopAll 3 (S_sCon1 w i) _ _ _ (by simp) (by simp) (fun k hk hp _ => (gen k hk).1 hp) (fun k hk hp _ => (gen k hk).2 hp) (fun _ => ?_) hx
  simp only [S_sCon1, worldC]
  simp (maxSteps := 4000000) -implicitDefEqProofs [b38_1, List.take, List.drop, fromRo]
  change _ = _
  kernel_rfl
def S_sCon0 (w : PWorld) (i : Nat) : XS := ⟨⟨[.bad, .v false [.pc (worldC w)], .bad, .v false [.int .i64 (i)], .bad, .bad, .bad, .bad, .bad, .bad, .bad, .bad, .bad, .bad, .bad, .bad, .bad, .bad, .bad, .bad, .bad, .bad, .bad, .bad, .bad, .bad, .bad, .bad, .bad, .bad, .bad, .bad, .bad, .bad, .bad, .bad, .bad, .bad, .bad, .bad, .bad, .bad, .bad, .bad, .bad, .bad, .bad, .bad, .bad, .bad, .bad, .bad, .bad, .bad, .bad, .bad, .bad, .bad, .bad, .bad, .bad, .bad, .bad, .bad, .bad, .bad, .bad, .bad, .bad, .bad, .bad, .bad, .bad, .bad, .bad, .bad, .bad, .bad, .bad, .bad, .bad, .bad, .bad, .bad, .bad, .bad, .bad], memL [], []⟩, 0⟩
def bothP (w : PWorld) (i : Nat) : Bool := allN 3 (fun k => connOf w i k == connOf w k i)
theorem loop_sCon0 (w : PWorld) (h3 : w.nodes.length = 3) (hc3 : ∀ i, i < 3 → (w.nodes.getD i nodeD).conn.length = 3) {x : XS} (hx : head true d38_0 x = S_sCon0 w 0) : X tab l38_0 x = if allN 3 (bothP w) = true then some (.exit 0, ⟨⟨[.bad, .v false [.pc (worldC w)], .bad, .bad, .bad, .bad, .bad, .bad, .bad, .bad, .bad, .bad, .bad, .bad, .bad, .bad, .bad, .bad, .bad, .bad, .bad, .bad, .bad, .bad, .bad, .bad, .bad, .bad, .bad, .bad, .bad, .bad, .bad, .bad, .bad, .bad, .bad, .bad, .bad, .bad, .bad, .bad, .bad, .bad, .bad, .bad, .bad, .bad, .bad, .bad, .bad, .bad, .bad, .bad, .bad, .bad, .bad, .bad, .bad, .bad, .bad, .bad, .bad, .bad, .bad, .bad, .bad, .bad, .bad, .bad, .bad, .bad, .bad, .bad, .bad, .bad, .bad, .bad, .bad, .bad, .bad, .bad, .bad, .bad, .bad, .bad, .bad], memL [], []⟩, 0⟩) else some (.ret, ⟨⟨[.bad, .bad, .v false [.bool (false)], .bad, .bad, .bad, .bad, .bad, .bad, .bad, .bad, .bad, .bad, .bad, .bad, .bad, .bad, .bad, .bad, .bad, .bad, .bad, .bad, .bad, .bad, .bad, .bad, .bad, .bad, .bad, .bad, .bad, .bad, .bad, .bad, .bad, .bad, .bad, .bad, .bad, .bad, .bad, .bad, .bad, .bad, .bad, .bad, .bad, .bad, .bad, .bad, .bad, .bad, .bad, .bad, .bad, .bad, .bad, .bad, .bad, .bad, .bad, .bad, .bad, .bad, .bad, .bad, .bad, .bad, .bad, .bad, .bad, .bad, .bad, .bad, .bad, .bad, .bad, .bad, .bad, .bad, .bad, .bad, .bad, .bad, .bad, .bad], memL [], []⟩, 0⟩) := by
  have gen : ∀ i, i < 3 → (bothP w i = true → ∃ z, X tab b38_0 (S_sCon0 w i) = some (.nrm, z) ∧ head true d38_0 z = S_sCon0 w (i + 1)) ∧ (bothP w i = false → X tab b38_0 (S_sCon0 w i) = some (.ret, ⟨⟨[.bad, .bad, .v false [.bool (false)], .bad, .bad, .bad, .bad, .bad, .bad, .bad, .bad, .bad, .bad, .bad, .bad, .bad, .bad, .bad, .bad, .bad, .bad, .bad, .bad, .bad, .bad, .bad, .bad, .bad, .bad, .bad, .bad, .bad, .bad, .bad, .bad, .bad, .bad, .bad, .bad, .bad, .bad, .bad, .bad, .bad, .bad, .bad, .bad, .bad, .bad, .bad, .bad, .bad, .bad, .bad, .bad, .bad, .bad, .bad, .bad, .bad, .bad, .bad, .bad, .bad, .bad, .bad, .bad, .bad, .bad, .bad, .bad, .bad, .bad, .bad, .bad, .bad, .bad, .bad, .bad, .bad, .bad, .bad, .bad, .bad, .bad, .bad, .bad], memL [], []⟩, 0⟩)) := by
    intro i hi
    have i1 : (i : Int) < 3 := by omega
    have h4 := wrap_next hi (show 3 ≤ 281474976710656 by omega)
    have hlp := fun {x} => loop_sCon1 w h3 hc3 i hi (x := x)
    have hS : S_sCon1 w i 0 = ⟨⟨[.bad, .v false [.pc (worldC w)], .bad, .v false [.int .i64 (i)], .v false [.int .i64 (0)], .bad, .bad, .bad, .bad, .bad, .bad, .bad, .bad, .bad, .bad, .bad, .bad, .bad, .bad, .bad, .bad, .bad, .bad, .bad, .bad, .bad, .bad, .bad, .bad, .bad, .bad, .bad, .bad, .bad, .bad, .bad, .bad, .bad, .bad, .bad, .bad, .bad, .bad, .bad, .bad, .bad, .bad, .bad, .bad, .bad, .bad, .bad, .bad, .bad, .bad, .bad, .bad, .bad, .bad, .bad, .bad, .bad, .bad, .bad, .bad, .bad, .bad, .bad, .bad, .bad, .bad, .bad, .bad, .bad, .bad, .bad, .bad, .bad, .bad, .bad, .bad, .bad, .bad, .bad, .bad, .bad, .bad], memL [], []⟩, 0⟩ := rfl
    unfold bothP
    simp only [S_sCon0, worldC] at hlp hS ⊢
    cases hb : allN 3 (fun k => connOf w i k == connOf w k i) with
    | true =>
      rw [hb] at hlp
      refine ⟨fun _ => ?_, fun hp => by cases hp⟩
      simp (maxSteps := 4000000) -implicitDefEqProofs [b38_0, List.take, List.drop, i1, h4, hi]
      rw [hlp (by rw [hS]; change _ = _; kernel_rfl)]
      simp (maxSteps := 4000000) -implicitDefEqProofs [List.take, List.drop, i1, h4, hi]
      change _ = _
      kernel_rfl
    | false =>
      rw [hb] at hlp
      refine ⟨fun hp => by (cases hp), fun _ => ?_⟩
      simp (maxSteps := 4000000) -implicitDefEqProofs [b38_0, List.take, List.drop, i1, h4, hi]
      rw [hlp (by rw [hS]; change _ = _; kernel_rfl)]
      simp (maxSteps := 4000000) -implicitDefEqProofs [List.take, List.drop]
  refine loopAll 3 (S_sCon0 w) _ _ _ (by simp) (by simp) (fun i hi hp _ => (gen i hi).1 hp) (fun i hi hp _ => (gen i hi).2 hp) (fun _ => ?_) hx
  simp only [S_sCon0, worldC]
  simp (maxSteps := 4000000) -implicitDefEqProofs [b38_0, List.take, List.drop, fromRo]
  change _ = _
  kernel_rfl
def linesOk (w : PWorld) : Bool := allN 3 (bothP w) && allN w.net.length (netP w) && decide (w.net.length ≤ 40)
theorem r_l12Lines (w : PWorld) (hn : w.net.length ≤ 1048576) (h3 : w.nodes.length = 3) (hc3 : ∀ i, i < 3 → (w.nodes.getD i nodeD).conn.length = 3) : runRO (X tab) tab 38 [.v true (worldA w)] = some (.v false [.bool (linesOk w)], []) := by
  have hl0 := fun {x} => loop_sCon0 w h3 hc3 (x := x)
  have hl2 := fun {x} => loop_sNet w hn h3 hc3 (x := x)
  have hS0 : S_sCon0 w 0 = ⟨⟨[.bad, .v false [.pc (worldC w)], .bad, .v false [.int .i64 (0)], .bad, .bad, .bad, .bad, .bad, .bad, .bad, .bad, .bad, .bad, .bad, .bad, .bad, .bad, .bad, .bad, .bad, .bad, .bad, .bad, .bad, .bad, .bad, .bad, .bad, .bad, .bad, .bad, .bad, .bad, .bad, .bad, .bad, .bad, .bad, .bad, .bad, .bad, .bad, .bad, .bad, .bad, .bad, .bad, .bad, .bad, .bad, .bad, .bad, .bad, .bad, .bad, .bad, .bad, .bad, .bad, .bad, .bad, .bad, .bad, .bad, .bad, .bad, .bad, .bad, .bad, .bad, .bad, .bad, .bad, .bad, .bad, .bad, .bad, .bad, .bad, .bad, .bad, .bad, .bad, .bad, .bad, .bad], memL [], []⟩, 0⟩ := rfl
  have hS2 : S_sNet w 0 = ⟨⟨[.bad, .v false [.pc (worldC w)], .bad, .bad, .bad, .v false [.int .i64 (0)], .bad, .bad, .bad, .bad, .bad, .bad, .bad, .bad, .bad, .bad, .bad, .bad, .bad, .bad, .bad, .bad, .bad, .bad, .bad, .bad, .bad, .bad, .bad, .bad, .bad, .bad, .bad, .bad, .bad, .bad, .bad, .bad, .bad, .bad, .bad, .bad, .bad, .bad, .bad, .bad, .bad, .bad, .bad, .bad, .bad, .bad, .bad, .bad, .bad, .bad, .bad, .bad, .bad, .bad, .bad, .bad, .bad, .bad, .bad, .bad, .bad, .bad, .bad, .bad, .bad, .bad, .bad, .bad, .bad, .bad, .bad, .bad, .bad, .bad, .bad, .bad, .bad, .bad, .bad, .bad, .bad], memL [], []⟩, 0⟩ := rfl
  simp only [worldC] at hl0 hl2 hS0 hS2
  unfold linesOk
  unfold runRO
  simp (maxSteps := 4000000) -implicitDefEqProofs [tab38, a38, List.take, List.drop, upd, rest, kill, mapMem, List.range, List.range.loop, roCells, worldA]
  rw [hl0 (by rw [hS0]; change _ = _; kernel_rfl)]
  cases allN 3 (bothP w) with
  | false => simp (maxSteps := 4000000) -implicitDefEqProofs [List.take, List.drop, memL, List.range, List.range.loop]
  | true =>
    simp (maxSteps := 4000000) -implicitDefEqProofs [List.take, List.drop]
    rw [hl2 (by rw [hS2]; change _ = _; kernel_rfl)]
    cases allN w.net.length (netP w) with
    | false => simp (maxSteps := 4000000) -implicitDefEqProofs [List.take, List.drop, memL, List.range, List.range.loop]
    | true =>
      by_cases h40 : w.net.length ≤ 40
      · have h40' : (w.net.length : Int) ≤ 40 := by omega
        simp (maxSteps := 4000000) -implicitDefEqProofs [List.take, List.drop, List.range, List.range.loop, memL, fromRo, h40, h40']
      · have h40' : ¬ (w.net.length : Int) ≤ 40 := by omega
        simp (maxSteps := 4000000) -implicitDefEqProofs [List.take, List.drop, List.range, List.range.loop, memL, fromRo, h40, h40']
end Go.Proofs.YtbdokibepndibaaGreat.Eng.C
