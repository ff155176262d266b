/- Prel, as one text. -/
import Derived.Test.YtbdokibepndibaaGreatTC
import Derived.Test.YtbdokibepndibaaGreatEng30
namespace Go.Proofs.YtbdokibepndibaaGreat.Eng.C
set_option linter.unusedSimpArgs false
set_option linter.unusedVariables false
set_option maxHeartbeats 16000000
set_option maxRecDepth 100000
open Go.RowKit Go.Proofs
attribute [local simp] x_seq x_cond x_block x_region x_skip x_exit x_ret head_id runG runOps doOp wantB stepOp AO.eff pureOp St.get St.one St.num St.put St.optNum binA binInt gOp gOp0 gOpL gResL updO gRes gEff addObs_nil addObs_one freshB_memL freshB_none freshB_upd freshB_addMem freshB_addObs effOp2 effOp memL_app stoRow cellsAt toCells toCell scalar_int scalar_bool scalar_str scalar_sl updAt fromRo callRO addMem_nil roArgs roL roA srcCells A1.ownB addMem shift ren SV.map Ob.map Ob.noRo SV.noRo A1.noRo resOf resSV SV.ids A1.ids reach allObs pos St.canon A1.slB flat_int cl_flat' St.parts Eng.inB reps fillA newRowSt appSt oldOf

theorem row_copy {k : IntKind} {l : List Int} {i : Nat} {x : Int} {r : List Int} (h : l.drop i = x :: r) : spl [Cell.int k x] i (cl k (l.take i ++ List.replicate (l.length - i) 0)) = cl k (l.take (i + 1) ++ List.replicate (l.length - (i + 1)) 0) := by
  have hi := drop_lt h
  rw [cl_spl (by simp; omega)]
  congr 1
  have hx : l[i] = x := by
    have := List.drop_eq_getElem_cons hi
    rw [h] at this
    exact (List.cons.inj this).1.symm
  have h1 : l.length - i = (l.length - (i + 1)) + 1 := by omega
  rw [← List.take_append_getElem hi, hx, h1, List.replicate_succ]
  have hl : (l.take i).length = i := by simp; omega
  rw [List.set_append_right _ _ (by omega), hl, Nat.sub_self, List.set_cons_zero]
  simp

/-! toIntS -/
def S_toIntS (l : List Int) (i : Nat) : XS := ⟨⟨[.v false [.ro l.length (cl .i64 l)], .bad, .bad, .v false [.sl 0 [] 0 l.length], .v false [.int .i64 (i)], .bad, .bad, .bad, .bad, .bad, .bad, .bad, .bad, .bad, .bad, .bad, .bad, .bad, .bad, .bad, .bad, .bad], memL [some (.row 1 (cl .i64 (l.take i ++ List.replicate (l.length - i) 0)))], []⟩, 1⟩
def Z_toIntS (l : List Int) : XS := ⟨⟨[.bad, .bad, .bad, .v false [.sl 0 [] 0 l.length], .bad, .bad, .bad, .bad, .bad, .bad, .bad, .bad, .bad, .bad, .bad, .bad, .bad, .bad, .bad, .bad, .bad, .bad], memL [some (.row 1 (cl .i64 l))], []⟩, 1⟩
theorem loop_toIntS (l : List Int) (hn : l.length ≤ 281474976710656) {x : XS} (hx : head true d24_0 x = S_toIntS l 0) : X tab l24_0 x = some (.exit 0, Z_toIntS l) := by
  refine loopN l.length (S_toIntS l) _ (by simp) (fun i hi => ?_) ?_ (Nat.zero_le _) hx
  · obtain ⟨y, r, hl⟩ : ∃ y r, l.drop i = y :: r := ⟨_, _, List.drop_eq_getElem_cons hi⟩
    have h1 : (0 ≤ (i : Int) ∧ (i : Int) < (l.length : Int)) := by omega
    have h2 := cl_at (k := .i64) hl
    have h3 : i + 1 ≤ (cl .i64 (l.take i ++ List.replicate (l.length - i) 0)).length := by rw [cl_length]; simp; omega
    have h4 : IntKind.i64.wrap ((i : Int) + 1) = ((i + 1 : Nat) : Int) := by rw [wrap_id (by omega) (by omega)]; omega
    simp (maxSteps := 4000000) -implicitDefEqProofs [b24_0, S_toIntS, List.take, List.drop, upd, h1, h2, h3, h4, hi, row_copy hl]
    change _ = _
    kernel_rfl
  · simp (maxSteps := 4000000) -implicitDefEqProofs [b24_0, S_toIntS, List.take, List.drop, upd, cl_nil]
    change _ = _
    kernel_rfl
theorem toIntS (l : List Int) (hn : l.length ≤ 1048576) : runRO (X tab) tab 24 [.v false [.ro l.length (cl .i64 l)]] = some (.v false [.sl 0 [] 0 l.length], [.row 1 (cl .i64 l)]) := by
  have h1 : 8 * (l.length : Int) ≤ 281474976710656 := by omega
  have h1' : (l.length : Int) ≤ 281474976710656 := by omega
  unfold runRO
  simp (maxSteps := 4000000) -implicitDefEqProofs [tab24, a24, List.take, List.drop, upd, h1, h1', cells_reps, newRowSt]
  rw [loop_toIntS l (by omega) (by
    change _ = _
    rw [show S_toIntS l 0 = ⟨⟨[.v false [.ro l.length (cl .i64 l)], .bad, .bad, .v false [.sl 0 [] 0 l.length], .v false [.int .i64 (0)], .bad, .bad, .bad, .bad, .bad, .bad, .bad, .bad, .bad, .bad, .bad, .bad, .bad, .bad, .bad, .bad, .bad], memL [some (.row 1 (cl .i64 (List.replicate l.length 0)))], []⟩, 1⟩ by simp [S_toIntS]]
    kernel_rfl)]
  simp (maxSteps := 4000000) -implicitDefEqProofs [Z_toIntS, List.take, List.drop, upd, memL, List.range, List.range.loop]

/-! eqIntS -/
def S_eqIntS (l : List Int) (i : Nat) : XS := ⟨⟨[.v false [.ro l.length (cl .i64 l)], .v false [.ro l.length (cl .i64 l)], .bad, .bad, .bad, .v false [.int .i64 (i)], .bad, .bad, .bad, .bad, .bad, .bad, .bad, .bad, .bad, .bad, .bad, .bad, .bad, .bad, .bad, .bad, .bad, .bad, .bad, .bad], memL [], []⟩, 0⟩
def Z_eqIntS : XS := ⟨⟨[.bad, .bad, .bad, .bad, .bad, .bad, .bad, .bad, .bad, .bad, .bad, .bad, .bad, .bad, .bad, .bad, .bad, .bad, .bad, .bad, .bad, .bad, .bad, .bad, .bad, .bad], memL [], []⟩, 0⟩
theorem loop_eqIntS (l : List Int) (hn : l.length ≤ 1048576) {x : XS} (hx : head true d8_0 x = S_eqIntS l 0) : X tab l8_0 x = some (.exit 0, Z_eqIntS) := by
  refine loopN l.length (S_eqIntS l) _ (by simp) (fun i hi => ?_) ?_ (Nat.zero_le _) hx
  · obtain ⟨y, r, hl⟩ : ∃ y r, l.drop i = y :: r := ⟨_, _, List.drop_eq_getElem_cons hi⟩
    have h1 : (0 ≤ (i : Int) ∧ (i : Int) < (l.length : Int)) := by omega
    have h2 := cl_at (k := .i64) hl
    have h4 : IntKind.i64.wrap ((i : Int) + 1) = ((i + 1 : Nat) : Int) := by rw [wrap_id (by omega) (by omega)]; omega
    simp (maxSteps := 4000000) -implicitDefEqProofs [b8_0, S_eqIntS, List.take, List.drop, fromRo, h1, h2, h4, hi]
    change _ = _
    kernel_rfl
  · simp (maxSteps := 4000000) -implicitDefEqProofs [b8_0, S_eqIntS, List.take, List.drop]
    change _ = _
    kernel_rfl
theorem eqIntS (l : List Int) (hn : l.length ≤ 1048576) : runRO (X tab) tab 8 [.v false [.ro l.length (cl .i64 l)], .v false [.ro l.length (cl .i64 l)]] = some (.v false [.bool true], []) := by
  unfold runRO
  simp (maxSteps := 4000000) -implicitDefEqProofs [tab8, a8, List.take, List.drop]
  rw [loop_eqIntS l hn (by change _ = _; kernel_rfl)]
  simp (maxSteps := 4000000) -implicitDefEqProofs [Z_eqIntS, List.take, List.drop, memL, List.range, List.range.loop]
theorem eqIntS_nil1 : runRO (X tab) tab 8 [.v false [.nil], .v false [.ro 0 []]] = some (.v false [.bool true], []) := runRO_mono (exec_le_X 60) (by kernel_rfl)
theorem eqIntS_nil2 : runRO (X tab) tab 8 [.v false [.nil], .v false [.nil]] = some (.v false [.bool true], []) := runRO_mono (exec_le_X 60) (by kernel_rfl)
theorem eqIntS_nil3 : runRO (X tab) tab 8 [.v false [.ro 0 []], .v false [.nil]] = some (.v false [.bool true], []) := runRO_mono (exec_le_X 60) (by kernel_rfl)
/-! markIntS -/
def S_markIntS (t n : Nat) (f : Nat → Int) (c0 : List Int) (k : Int) (m : Mem) (up : List SV) (nx : Nat) (i : Nat) : XS := ⟨⟨[.v false [.sl t [] 0 n], .v false [.int .i64 ((k + i))], .bad, .bad, .bad, .v false [.int .i64 (i)], .bad, .bad, .bad, .bad, .bad, .bad, .bad, .bad, .bad, .bad, .bad, .bad, .bad], upd m t (some (.row 1 (cl .i64 ((List.range i).map f ++ c0.drop i)))), up⟩, nx⟩
def Z_markIntS (t n : Nat) (f : Nat → Int) (k : Int) (m : Mem) (up : List SV) (nx : Nat) : XS := ⟨⟨[.bad, .v false [.int .i64 ((k + n))], .bad, .bad, .bad, .bad, .bad, .bad, .bad, .bad, .bad, .bad, .bad, .bad, .bad, .bad, .bad, .bad, .bad], upd m t (some (.row 1 (cl .i64 ((List.range n).map f)))), up⟩, nx + 256⟩
theorem loop_markIntS (t n : Nat) (f : Nat → Int) (c0 : List Int) (k : Int) (m : Mem) (up : List SV) (nx : Nat) (hc : c0.length = n) (hf : ∀ i, i < n → f i = IntKind.i64.wrap (k + i)) (hk : 0 ≤ k) (hk2 : k ≤ 1000000000) (hn : n ≤ 1048576) {x : XS} (hx : head false d11_0 x = S_markIntS t n f c0 k m up nx 0) : X tab l11_0 x = some (.exit 0, Z_markIntS t n f k m up nx) := by
  refine loopF n (S_markIntS t n f c0 k m up nx) _ (by simp) (fun i hi => ?_) ?_ (Nat.zero_le _) hx
  · have h1 : (0 ≤ (i : Int) ∧ (i : Int) < (n : Int)) := by omega
    have h4 : IntKind.i64.wrap ((i : Int) + 1) = ((i + 1 : Nat) : Int) := by rw [wrap_id (by omega) (by omega)]; omega
    have h5 : IntKind.i64.wrap (k + (i : Int) + 1) = k + ((i + 1 : Nat) : Int) := by rw [wrap_id (by omega) (by omega)]; omega
    have h6 : IntKind.i64.wrap (k + (i : Int)) = k + (i : Int) := by rw [wrap_id (by omega) (by omega)]
    have h7 := hf i hi
    have h8 : i + 1 ≤ (cl .i64 ((List.range i).map f ++ c0.drop i)).length := by rw [cl_length]; simp; omega
    have h9 : spl [Cell.int .i64 (f i)] i (cl .i64 ((List.range i).map f ++ c0.drop i)) = cl .i64 ((List.range (i + 1)).map f ++ c0.drop (i + 1)) := by
      rw [cl_spl (by simp; omega)]
      congr 1
      have hd := List.drop_eq_getElem_cons (show i < c0.length by omega)
      have e0 : i - ((List.range i).map f).length = 0 := by simp
      rw [List.set_append_right _ _ (by simp), e0, hd, List.set_cons_zero, List.range_succ, List.map_append, List.append_assoc]
      rfl
    try rw [h6] at h7
    simp only [h7] at h9
    simp (maxSteps := 4000000) -implicitDefEqProofs [b11_0, S_markIntS, List.take, List.drop, upd, h1, h4, h5, h6, h8, h9, hi]
    simp only [head, killSlots, Bool.false_eq_true, if_false, d11_0, List.set, XS.mk.injEq, St.mk.injEq, true_and, and_true]
    funext u
    simp only [upd]
    split <;> rfl
  · simp (maxSteps := 4000000) -implicitDefEqProofs [b11_0, S_markIntS, List.take, List.drop]
    rw [List.drop_eq_nil_of_le (by omega), List.append_nil]
    change _ = _
    kernel_rfl
/-- The marks that a row gets. -/
def marks_i64 (k : Int) (n : Nat) : List Int := (List.range n).map fun (i : Nat) => IntKind.i64.wrap (k + i)
theorem markIntS (t n : Nat) (c0 : List Int) (k : Int) (sl : List SV) (m : Mem) (up : List SV) (nx : Nat) (hm : m t = some (.row 1 (cl .i64 c0))) (hc : c0.length = n) (hk : 0 ≤ k) (hk2 : k ≤ 1000000000) (hn : n ≤ 1048576) :
    runThru (X tab) tab 11 [.v false [.sl t [] 0 n], .v false [.int .i64 k]] ⟨⟨sl, m, up⟩, nx⟩ = some (.v false [.int .i64 (k + n)], ⟨⟨sl, upd m t (some (.row 1 (cl .i64 (marks_i64 k n)))), up⟩, nx + 512⟩) := by
  unfold runThru
  simp (maxSteps := 4000000) -implicitDefEqProofs [tab11, a11, List.take, List.drop]
  rw [loop_markIntS t n (fun i => IntKind.i64.wrap (k + i)) c0 k m (sl ++ up) (nx + 128) hc (fun _ _ => rfl) hk hk2 hn (by
    simp only [S_markIntS, List.range_zero, List.map_nil, List.nil_append, List.drop_zero, upd_self hm, Int.ofNat_zero, Int.add_zero]
    rfl)]
  simp (maxSteps := 4000000) -implicitDefEqProofs [Z_markIntS, List.take, List.drop, resOf, resSV, marks_i64]
theorem markIntS_nil (k : Int) (sl : List SV) (m : Mem) (up : List SV) (nx : Nat) :
    runThru (X tab) tab 11 [.v false [.nil], .v false [.int .i64 k]] ⟨⟨sl, m, up⟩, nx⟩ = some (.v false [.int .i64 k], ⟨⟨sl, m, up⟩, nx + 512⟩) := by
  have hl : ∀ x, head false d11_0 x = ⟨⟨[.v false [.nil], .v false [.int .i64 (k)], .bad, .bad, .bad, .v false [.int .i64 (0)], .bad, .bad, .bad, .bad, .bad, .bad, .bad, .bad, .bad, .bad, .bad, .bad, .bad], m, sl ++ up⟩, nx + 128⟩ → X tab l11_0 x = some (.exit 0, ⟨⟨[.bad, .v false [.int .i64 (k)], .bad, .bad, .bad, .bad, .bad, .bad, .bad, .bad, .bad, .bad, .bad, .bad, .bad, .bad, .bad, .bad, .bad], m, sl ++ up⟩, nx + 384⟩) := by
    intro x hx
    refine loopF 0 (fun _ => ⟨⟨[.v false [.nil], .v false [.int .i64 (k)], .bad, .bad, .bad, .v false [.int .i64 (0)], .bad, .bad, .bad, .bad, .bad, .bad, .bad, .bad, .bad, .bad, .bad, .bad, .bad], m, sl ++ up⟩, nx + 128⟩) _ (by simp) (fun i hi => absurd hi (by omega)) ?_ (Nat.zero_le _) hx
    simp (maxSteps := 4000000) -implicitDefEqProofs [b11_0, List.take, List.drop]
    change _ = _
    kernel_rfl
  unfold runThru
  simp (maxSteps := 4000000) -implicitDefEqProofs [tab11, a11, List.take, List.drop]
  rw [hl _ (by change _ = _; kernel_rfl)]
  simp (maxSteps := 4000000) -implicitDefEqProofs [List.take, List.drop, resOf, resSV]
/-! heldIntS -/
def S_heldIntS (l : List Int) (k : Int) (i : Nat) : XS := ⟨⟨[.v false [.ro l.length (cl .i64 l)], .v false [.int .i64 ((k + i))], .bad, .bad, .bad, .v false [.int .i64 (i)], .bad, .bad, .bad, .bad, .bad, .bad, .bad, .bad, .bad, .bad, .bad, .bad, .bad, .bad, .bad], memL [], []⟩, 0⟩
def Z_heldIntS (k : Int) : XS := ⟨⟨[.bad, .v false [.int .i64 (k)], .bad, .bad, .bad, .bad, .bad, .bad, .bad, .bad, .bad, .bad, .bad, .bad, .bad, .bad, .bad, .bad, .bad, .bad, .bad], memL [], []⟩, 0⟩
theorem loop_heldIntS (n : Nat) (k : Int) (hk : 0 ≤ k) (hk2 : k ≤ 1000000000) (hn : n ≤ 1048576) {x : XS} (hx : head true d12_0 x = S_heldIntS (marks_i64 k n) k 0) : X tab l12_0 x = some (.exit 0, Z_heldIntS (k + n)) := by
  have hl0 : (marks_i64 k n).length = n := by simp [marks_i64]
  refine loopN n (S_heldIntS (marks_i64 k n) k) _ (by simp) (fun i hi => ?_) ?_ (Nat.zero_le _) hx
  · obtain ⟨y, r, hl⟩ : ∃ y r, (marks_i64 k n).drop i = y :: r := ⟨_, _, List.drop_eq_getElem_cons (by omega)⟩
    have hy : y = IntKind.i64.wrap (k + i) := by
      have := congrArg (fun q : List Int => q[0]?) hl
      simp [marks_i64, hi] at this
      exact this.symm
    subst hy
    have h1 : (0 ≤ (i : Int) ∧ (i : Int) < (n : Int)) := by omega
    have h2 := cl_at (k := .i64) hl
    have h4 : IntKind.i64.wrap ((i : Int) + 1) = ((i + 1 : Nat) : Int) := by rw [wrap_id (by omega) (by omega)]; omega
    have h5 : IntKind.i64.wrap (k + (i : Int) + 1) = k + ((i + 1 : Nat) : Int) := by rw [wrap_id (by omega) (by omega)]; omega
    have h6 : IntKind.i64.wrap (k + (i : Int)) = k + (i : Int) := by rw [wrap_id (by omega) (by omega)]
    try rw [h6] at h2
    simp (maxSteps := 4000000) -implicitDefEqProofs [b12_0, S_heldIntS, List.take, List.drop, fromRo, hl0, h1, h2, h4, h5, h6, hi]
    change _ = _
    kernel_rfl
  · simp (maxSteps := 4000000) -implicitDefEqProofs [b12_0, S_heldIntS, List.take, List.drop, hl0]
    change _ = _
    kernel_rfl
theorem heldIntS (n : Nat) (k : Int) (hk : 0 ≤ k) (hk2 : k ≤ 1000000000) (hn : n ≤ 1048576) : runRO (X tab) tab 12 [.v false [.ro n (cl .i64 (marks_i64 k n))], .v false [.int .i64 k]] = some (.v false [.int .i64 (k + n)], []) := by
  unfold runRO
  simp (maxSteps := 4000000) -implicitDefEqProofs [tab12, a12, List.take, List.drop]
  rw [loop_heldIntS n k hk hk2 hn (by
    have hl0 : (marks_i64 k n).length = n := by simp [marks_i64]
    change _ = _
    rw [show S_heldIntS (marks_i64 k n) k 0 = ⟨⟨[.v false [.ro n (cl .i64 (marks_i64 k n))], .v false [.int .i64 (k)], .bad, .bad, .bad, .v false [.int .i64 (0)], .bad, .bad, .bad, .bad, .bad, .bad, .bad, .bad, .bad, .bad, .bad, .bad, .bad, .bad, .bad], memL [], []⟩, 0⟩ by simp [S_heldIntS, hl0]]
    kernel_rfl)]
  simp (maxSteps := 4000000) -implicitDefEqProofs [Z_heldIntS, List.take, List.drop, memL, List.range, List.range.loop]
theorem heldIntS_nil (k : Int) : runRO (X tab) tab 12 [.v false [.nil], .v false [.int .i64 k]] = some (.v false [.int .i64 k], []) := runRO_mono (exec_le_X 60) (by kernel_rfl)
/-! toByteS -/
def S_toByteS (l : List Int) (i : Nat) : XS := ⟨⟨[.v false [.ro l.length (cl .u8 l)], .bad, .bad, .v false [.sl 0 [] 0 l.length], .v false [.int .i64 (i)], .bad, .bad, .bad, .bad, .bad, .bad, .bad, .bad, .bad, .bad, .bad, .bad, .bad, .bad, .bad, .bad, .bad], memL [some (.row 1 (cl .u8 (l.take i ++ List.replicate (l.length - i) 0)))], []⟩, 1⟩
def Z_toByteS (l : List Int) : XS := ⟨⟨[.bad, .bad, .bad, .v false [.sl 0 [] 0 l.length], .bad, .bad, .bad, .bad, .bad, .bad, .bad, .bad, .bad, .bad, .bad, .bad, .bad, .bad, .bad, .bad, .bad, .bad], memL [some (.row 1 (cl .u8 l))], []⟩, 1⟩
theorem loop_toByteS (l : List Int) (hn : l.length ≤ 281474976710656) {x : XS} (hx : head true d73_0 x = S_toByteS l 0) : X tab l73_0 x = some (.exit 0, Z_toByteS l) := by
  refine loopN l.length (S_toByteS l) _ (by simp) (fun i hi => ?_) ?_ (Nat.zero_le _) hx
  · obtain ⟨y, r, hl⟩ : ∃ y r, l.drop i = y :: r := ⟨_, _, List.drop_eq_getElem_cons hi⟩
    have h1 : (0 ≤ (i : Int) ∧ (i : Int) < (l.length : Int)) := by omega
    have h2 := cl_at (k := .u8) hl
    have h3 : i + 1 ≤ (cl .u8 (l.take i ++ List.replicate (l.length - i) 0)).length := by rw [cl_length]; simp; omega
    have h4 : IntKind.i64.wrap ((i : Int) + 1) = ((i + 1 : Nat) : Int) := by rw [wrap_id (by omega) (by omega)]; omega
    simp (maxSteps := 4000000) -implicitDefEqProofs [b73_0, S_toByteS, List.take, List.drop, upd, h1, h2, h3, h4, hi, row_copy hl]
    change _ = _
    kernel_rfl
  · simp (maxSteps := 4000000) -implicitDefEqProofs [b73_0, S_toByteS, List.take, List.drop, upd, cl_nil]
    change _ = _
    kernel_rfl
theorem toByteS (l : List Int) (hn : l.length ≤ 1048576) : runRO (X tab) tab 73 [.v false [.ro l.length (cl .u8 l)]] = some (.v false [.sl 0 [] 0 l.length], [.row 1 (cl .u8 l)]) := by
  have h1 : 8 * (l.length : Int) ≤ 281474976710656 := by omega
  have h1' : (l.length : Int) ≤ 281474976710656 := by omega
  unfold runRO
  simp (maxSteps := 4000000) -implicitDefEqProofs [tab73, a73, List.take, List.drop, upd, h1, h1', cells_reps, newRowSt]
  rw [loop_toByteS l (by omega) (by
    change _ = _
    rw [show S_toByteS l 0 = ⟨⟨[.v false [.ro l.length (cl .u8 l)], .bad, .bad, .v false [.sl 0 [] 0 l.length], .v false [.int .i64 (0)], .bad, .bad, .bad, .bad, .bad, .bad, .bad, .bad, .bad, .bad, .bad, .bad, .bad, .bad, .bad, .bad, .bad], memL [some (.row 1 (cl .u8 (List.replicate l.length 0)))], []⟩, 1⟩ by simp [S_toByteS]]
    kernel_rfl)]
  simp (maxSteps := 4000000) -implicitDefEqProofs [Z_toByteS, List.take, List.drop, upd, memL, List.range, List.range.loop]

/-! eqByteS -/
def S_eqByteS (l : List Int) (i : Nat) : XS := ⟨⟨[.v false [.ro l.length (cl .u8 l)], .v false [.ro l.length (cl .u8 l)], .bad, .bad, .bad, .v false [.int .i64 (i)], .bad, .bad, .bad, .bad, .bad, .bad, .bad, .bad, .bad, .bad, .bad, .bad, .bad, .bad, .bad, .bad, .bad, .bad, .bad, .bad], memL [], []⟩, 0⟩
def Z_eqByteS : XS := ⟨⟨[.bad, .bad, .bad, .bad, .bad, .bad, .bad, .bad, .bad, .bad, .bad, .bad, .bad, .bad, .bad, .bad, .bad, .bad, .bad, .bad, .bad, .bad, .bad, .bad, .bad, .bad], memL [], []⟩, 0⟩
theorem loop_eqByteS (l : List Int) (hn : l.length ≤ 1048576) {x : XS} (hx : head true d85_0 x = S_eqByteS l 0) : X tab l85_0 x = some (.exit 0, Z_eqByteS) := by
  refine loopN l.length (S_eqByteS l) _ (by simp) (fun i hi => ?_) ?_ (Nat.zero_le _) hx
  · obtain ⟨y, r, hl⟩ : ∃ y r, l.drop i = y :: r := ⟨_, _, List.drop_eq_getElem_cons hi⟩
    have h1 : (0 ≤ (i : Int) ∧ (i : Int) < (l.length : Int)) := by omega
    have h2 := cl_at (k := .u8) hl
    have h4 : IntKind.i64.wrap ((i : Int) + 1) = ((i + 1 : Nat) : Int) := by rw [wrap_id (by omega) (by omega)]; omega
    simp (maxSteps := 4000000) -implicitDefEqProofs [b85_0, S_eqByteS, List.take, List.drop, fromRo, h1, h2, h4, hi]
    change _ = _
    kernel_rfl
  · simp (maxSteps := 4000000) -implicitDefEqProofs [b85_0, S_eqByteS, List.take, List.drop]
    change _ = _
    kernel_rfl
theorem eqByteS (l : List Int) (hn : l.length ≤ 1048576) : runRO (X tab) tab 85 [.v false [.ro l.length (cl .u8 l)], .v false [.ro l.length (cl .u8 l)]] = some (.v false [.bool true], []) := by
  unfold runRO
  simp (maxSteps := 4000000) -implicitDefEqProofs [tab85, a85, List.take, List.drop]
  rw [loop_eqByteS l hn (by change _ = _; kernel_rfl)]
  simp (maxSteps := 4000000) -implicitDefEqProofs [Z_eqByteS, List.take, List.drop, memL, List.range, List.range.loop]
theorem eqByteS_nil1 : runRO (X tab) tab 85 [.v false [.nil], .v false [.ro 0 []]] = some (.v false [.bool true], []) := runRO_mono (exec_le_X 60) (by kernel_rfl)
theorem eqByteS_nil2 : runRO (X tab) tab 85 [.v false [.nil], .v false [.nil]] = some (.v false [.bool true], []) := runRO_mono (exec_le_X 60) (by kernel_rfl)
theorem eqByteS_nil3 : runRO (X tab) tab 85 [.v false [.ro 0 []], .v false [.nil]] = some (.v false [.bool true], []) := runRO_mono (exec_le_X 60) (by kernel_rfl)
/-! markByteS -/
def S_markByteS (t n : Nat) (f : Nat → Int) (c0 : List Int) (k : Int) (m : Mem) (up : List SV) (nx : Nat) (i : Nat) : XS := ⟨⟨[.v false [.sl t [] 0 n], .v false [.int .i64 ((k + i))], .bad, .bad, .bad, .v false [.int .i64 (i)], .bad, .bad, .bad, .bad, .bad, .bad, .bad, .bad, .bad, .bad, .bad, .bad, .bad, .bad], upd m t (some (.row 1 (cl .u8 ((List.range i).map f ++ c0.drop i)))), up⟩, nx⟩
def Z_markByteS (t n : Nat) (f : Nat → Int) (k : Int) (m : Mem) (up : List SV) (nx : Nat) : XS := ⟨⟨[.bad, .v false [.int .i64 ((k + n))], .bad, .bad, .bad, .bad, .bad, .bad, .bad, .bad, .bad, .bad, .bad, .bad, .bad, .bad, .bad, .bad, .bad, .bad], upd m t (some (.row 1 (cl .u8 ((List.range n).map f)))), up⟩, nx + 256⟩
theorem loop_markByteS (t n : Nat) (f : Nat → Int) (c0 : List Int) (k : Int) (m : Mem) (up : List SV) (nx : Nat) (hc : c0.length = n) (hf : ∀ i, i < n → f i = IntKind.u8.wrap (k + i)) (hk : 0 ≤ k) (hk2 : k ≤ 1000000000) (hn : n ≤ 1048576) {x : XS} (hx : head false d56_0 x = S_markByteS t n f c0 k m up nx 0) : X tab l56_0 x = some (.exit 0, Z_markByteS t n f k m up nx) := by
  refine loopF n (S_markByteS t n f c0 k m up nx) _ (by simp) (fun i hi => ?_) ?_ (Nat.zero_le _) hx
  · have h1 : (0 ≤ (i : Int) ∧ (i : Int) < (n : Int)) := by omega
    have h4 : IntKind.i64.wrap ((i : Int) + 1) = ((i + 1 : Nat) : Int) := by rw [wrap_id (by omega) (by omega)]; omega
    have h5 : IntKind.i64.wrap (k + (i : Int) + 1) = k + ((i + 1 : Nat) : Int) := by rw [wrap_id (by omega) (by omega)]; omega
    have h6 : IntKind.i64.wrap (k + (i : Int)) = k + (i : Int) := by rw [wrap_id (by omega) (by omega)]
    have h7 := hf i hi
    have h8 : i + 1 ≤ (cl .u8 ((List.range i).map f ++ c0.drop i)).length := by rw [cl_length]; simp; omega
    have h9 : spl [Cell.int .u8 (f i)] i (cl .u8 ((List.range i).map f ++ c0.drop i)) = cl .u8 ((List.range (i + 1)).map f ++ c0.drop (i + 1)) := by
      rw [cl_spl (by simp; omega)]
      congr 1
      have hd := List.drop_eq_getElem_cons (show i < c0.length by omega)
      have e0 : i - ((List.range i).map f).length = 0 := by simp
      rw [List.set_append_right _ _ (by simp), e0, hd, List.set_cons_zero, List.range_succ, List.map_append, List.append_assoc]
      rfl
    try rw [h6] at h7
    simp only [h7] at h9
    simp (maxSteps := 4000000) -implicitDefEqProofs [b56_0, S_markByteS, List.take, List.drop, upd, h1, h4, h5, h6, h8, h9, hi]
    simp only [head, killSlots, Bool.false_eq_true, if_false, d56_0, List.set, XS.mk.injEq, St.mk.injEq, true_and, and_true]
    funext u
    simp only [upd]
    split <;> rfl
  · simp (maxSteps := 4000000) -implicitDefEqProofs [b56_0, S_markByteS, List.take, List.drop]
    rw [List.drop_eq_nil_of_le (by omega), List.append_nil]
    change _ = _
    kernel_rfl
/-- The marks that a row gets. -/
def marks_u8 (k : Int) (n : Nat) : List Int := (List.range n).map fun (i : Nat) => IntKind.u8.wrap (k + i)
theorem markByteS (t n : Nat) (c0 : List Int) (k : Int) (sl : List SV) (m : Mem) (up : List SV) (nx : Nat) (hm : m t = some (.row 1 (cl .u8 c0))) (hc : c0.length = n) (hk : 0 ≤ k) (hk2 : k ≤ 1000000000) (hn : n ≤ 1048576) :
    runThru (X tab) tab 56 [.v false [.sl t [] 0 n], .v false [.int .i64 k]] ⟨⟨sl, m, up⟩, nx⟩ = some (.v false [.int .i64 (k + n)], ⟨⟨sl, upd m t (some (.row 1 (cl .u8 (marks_u8 k n)))), up⟩, nx + 512⟩) := by
  unfold runThru
  simp (maxSteps := 4000000) -implicitDefEqProofs [tab56, a56, List.take, List.drop]
  rw [loop_markByteS t n (fun i => IntKind.u8.wrap (k + i)) c0 k m (sl ++ up) (nx + 128) hc (fun _ _ => rfl) hk hk2 hn (by
    simp only [S_markByteS, List.range_zero, List.map_nil, List.nil_append, List.drop_zero, upd_self hm, Int.ofNat_zero, Int.add_zero]
    rfl)]
  simp (maxSteps := 4000000) -implicitDefEqProofs [Z_markByteS, List.take, List.drop, resOf, resSV, marks_u8]
theorem markByteS_nil (k : Int) (sl : List SV) (m : Mem) (up : List SV) (nx : Nat) :
    runThru (X tab) tab 56 [.v false [.nil], .v false [.int .i64 k]] ⟨⟨sl, m, up⟩, nx⟩ = some (.v false [.int .i64 k], ⟨⟨sl, m, up⟩, nx + 512⟩) := by
  have hl : ∀ x, head false d56_0 x = ⟨⟨[.v false [.nil], .v false [.int .i64 (k)], .bad, .bad, .bad, .v false [.int .i64 (0)], .bad, .bad, .bad, .bad, .bad, .bad, .bad, .bad, .bad, .bad, .bad, .bad, .bad, .bad], m, sl ++ up⟩, nx + 128⟩ → X tab l56_0 x = some (.exit 0, ⟨⟨[.bad, .v false [.int .i64 (k)], .bad, .bad, .bad, .bad, .bad, .bad, .bad, .bad, .bad, .bad, .bad, .bad, .bad, .bad, .bad, .bad, .bad, .bad], m, sl ++ up⟩, nx + 384⟩) := by
    intro x hx
    refine loopF 0 (fun _ => ⟨⟨[.v false [.nil], .v false [.int .i64 (k)], .bad, .bad, .bad, .v false [.int .i64 (0)], .bad, .bad, .bad, .bad, .bad, .bad, .bad, .bad, .bad, .bad, .bad, .bad, .bad, .bad], m, sl ++ up⟩, nx + 128⟩) _ (by simp) (fun i hi => absurd hi (by omega)) ?_ (Nat.zero_le _) hx
    simp (maxSteps := 4000000) -implicitDefEqProofs [b56_0, List.take, List.drop]
    change _ = _
    kernel_rfl
  unfold runThru
  simp (maxSteps := 4000000) -implicitDefEqProofs [tab56, a56, List.take, List.drop]
  rw [hl _ (by change _ = _; kernel_rfl)]
  simp (maxSteps := 4000000) -implicitDefEqProofs [List.take, List.drop, resOf, resSV]
end Go.Proofs.YtbdokibepndibaaGreat.Eng.C
