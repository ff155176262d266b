/- W5, W6, W7, W8, W9, as one text. -/
import Derived.Test.YtbdokibepndibaaGreatCG2
namespace Go.Proofs.YtbdokibepndibaaGreat.Eng.C
set_option linter.unusedSimpArgs false
set_option linter.unusedVariables false
set_option maxHeartbeats 16000000
set_option maxRecDepth 100000
open Go.RowKit Go.Proofs
attribute [local simp] x_seq x_cond x_block x_region x_skip x_exit x_ret head_id runG runOps doOp wantB stepOp AO.eff pureOp St.get St.one St.num St.put St.optNum binA binInt gOp gOp0 gOpL gResL updO gRes gEff addObs_nil addObs_one freshB_memL freshB_none freshB_upd freshB_addMem freshB_addObs effOp2 effOp memL_app stoRow cellsAt toCells toCell scalar_int scalar_bool scalar_str scalar_sl updAt fromRo callRO addMem_nil roArgs roL roA srcCells A1.ownB addMem shift ren SV.map Ob.map Ob.noRo SV.noRo A1.noRo resOf resSV SV.ids A1.ids reach allObs pos St.canon A1.slB flat_int cl_flat' St.parts Eng.inB reps fillA newRowSt appSt oldOf

theorem cellsAt_updAt {f : List Cell → List Cell} : ∀ {p : List Nat} {cs ns : List Cell}, cellsAt cs p = some ns → cellsAt (updAt f cs p) p = some (f ns) := by
  intro p
  induction p with
  | nil => intro cs ns h; cases h; rfl
  | cons i p ih =>
    intro cs ns h
    simp only [cellsAt] at h
    cases hi : cs[i]? with
    | none => rw [hi] at h; cases h
    | some c =>
      rw [hi] at h
      cases c with
      | sl n ms =>
        simp only at h
        have hlt := (List.getElem?_eq_some_iff.1 hi).1
        simp only [updAt, hi, cellsAt, List.getElem?_set_self hlt]
        exact ih h
      | _ => cases h
theorem updAt_updAt {f g : List Cell → List Cell} : ∀ {p : List Nat} {cs ns : List Cell}, cellsAt cs p = some ns → updAt g (updAt f cs p) p = updAt (fun x => g (f x)) cs p := by
  intro p
  induction p with
  | nil => intro cs ns h; rfl
  | cons i p ih =>
    intro cs ns h
    simp only [cellsAt] at h
    cases hi : cs[i]? with
    | none => rw [hi] at h; cases h
    | some c =>
      rw [hi] at h
      cases c with
      | sl n ms =>
        simp only at h
        have hlt := (List.getElem?_eq_some_iff.1 hi).1
        simp only [updAt, hi, List.getElem?_set_self hlt]
        rw [ih h, List.set_set]
      | _ => cases h
theorem updAt_self : ∀ {p : List Nat} {cs ns : List Cell}, cellsAt cs p = some ns → updAt (fun _ => ns) cs p = cs := by
  intro p
  induction p with
  | nil => intro cs ns h; cases h; rfl
  | cons i p ih =>
    intro cs ns h
    simp only [cellsAt] at h
    cases hi : cs[i]? with
    | none => rw [hi] at h; cases h
    | some c =>
      rw [hi] at h
      cases c with
      | sl n ms =>
        simp only at h
        obtain ⟨hlt, hc⟩ := List.getElem?_eq_some_iff.1 hi
        simp only [updAt, hi]
        rw [ih h, ← hc, List.set_getElem_self]
      | _ => cases h
/-- Marks. -/
def mcF (f : Int → Cell) (k : Int) (n : Nat) : List Cell := (List.range n).map fun (i : Nat) => f (k + i)
def mfI (k : Int) : Cell := .int .i64 k
def mfU (k : Int) : Cell := .int .u8 (IntKind.u8.wrap k)
def mfB (k : Int) : Cell := .bool (k.tmod 3 == 0)
theorem mcF_len {f : Int → Cell} {k : Int} {n : Nat} : (mcF f k n).length = n := by simp [mcF]
theorem mcF_next {f : Int → Cell} {k : Int} {i : Nat} {cs : List Cell} (h : i < cs.length) : spl [f (k + i)] i (mcF f k i ++ cs.drop i) = mcF f k (i + 1) ++ cs.drop (i + 1) := by
  unfold spl
  rw [List.take_append_of_le_length (by rw [mcF_len]; exact Nat.le_refl _), List.take_of_length_le (by rw [mcF_len]; exact Nat.le_refl _), List.drop_append, List.drop_of_length_le (by rw [mcF_len]; simp), mcF_len]
  have e : i + [f (k + ↑i)].length - i = 1 := by simp
  rw [e, List.drop_drop, List.nil_append]
  unfold mcF
  rw [List.range_succ, List.map_append]
  simp
def S_mkIntS (t z n : Nat) (p : List Nat) (cs c0 : List Cell) (k : Int) (m : Mem) (up : List SV) (nx : Nat) (i : Nat) : XS := ⟨⟨[.v false [.sl t p 0 n], .v false [.int .i64 ((k + i))], .bad, .bad, .bad, .v false [.int .i64 (i)], .bad, .bad, .bad, .bad, .bad, .bad, .bad, .bad, .bad, .bad, .bad, .bad, .bad], upd m t (some (.row z (updAt (fun _ => mcF mfI k i ++ c0.drop i) cs p))), up⟩, nx⟩
def Z_mkIntS (t z n : Nat) (p : List Nat) (cs : List Cell) (k : Int) (m : Mem) (up : List SV) (nx : Nat) : XS := ⟨⟨[.bad, .v false [.int .i64 ((k + n))], .bad, .bad, .bad, .bad, .bad, .bad, .bad, .bad, .bad, .bad, .bad, .bad, .bad, .bad, .bad, .bad, .bad], upd m t (some (.row z (updAt (fun _ => mcF mfI k n) cs p))), up⟩, nx + 256⟩
theorem loop_mkIntS (t z n : Nat) (p : List Nat) (cs c0 : List Cell) (k : Int) (m : Mem) (up : List SV) (nx : Nat) (hp : cellsAt cs p = some c0) (hc : c0.length = n) (hk : 0 ≤ k) (hk2 : k ≤ 1000000000) (hn : n ≤ 1048576) {x : XS} (hx : head false d11_0 x = S_mkIntS t z n p cs c0 k m up nx 0) : X tab l11_0 x = some (.exit 0, Z_mkIntS t z n p cs k m up nx) := by
  refine loopF n (S_mkIntS t z n p cs c0 k m up nx) _ (by simp) (fun i hi => ?_) ?_ (Nat.zero_le _) hx
  · have h1 : (0 ≤ (i : Int) ∧ (i : Int) < (n : Int)) := by omega
    have h4 : IntKind.i64.wrap ((i : Int) + 1) = ((i + 1 : Nat) : Int) := by rw [wrap_id (by omega) (by omega)]; omega
    have h5 : IntKind.i64.wrap (k + (i : Int) + 1) = k + ((i + 1 : Nat) : Int) := by rw [wrap_id (by omega) (by omega)]; omega
    have h6 : IntKind.i64.wrap (k + (i : Int)) = k + (i : Int) := by rw [wrap_id (by omega) (by omega)]
    have h7 : cellsAt (updAt (fun _ => mcF mfI k i ++ c0.drop i) cs p) p = some (mcF mfI k i ++ c0.drop i) := cellsAt_updAt hp
    have h8 : i + 1 ≤ (mcF mfI k i ++ c0.drop i).length := by rw [List.length_append, mcF_len, List.length_drop]; omega
    have h9 : updAt (spl [mfI (k + i)] i) (updAt (fun _ => mcF mfI k i ++ c0.drop i) cs p) p = updAt (fun _ => mcF mfI k (i + 1) ++ c0.drop (i + 1)) cs p := by
      rw [updAt_updAt hp, mcF_next (by omega)]
    simp only [S_mkIntS]
    simp only [mfI] at h9
    generalize updAt (fun _ => mcF mfI k (i + 1) ++ c0.drop (i + 1)) cs p = q' at *
    generalize updAt (fun _ => mcF mfI k i ++ c0.drop i) cs p = q at *
    generalize mcF mfI k i ++ c0.drop i = r at *
    simp (maxSteps := 4000000) -implicitDefEqProofs [b11_0, List.take, List.drop, effOp2, effOp, memL_app, stoRow, toCells, toCell, scalar_int, scalar_bool, upd, h1, h4, h5, h6, h7, h8, h9, hi, -Int.natCast_add]
    simp only [head, killSlots, Bool.false_eq_true, if_false, d11_0, List.set, XS.mk.injEq, St.mk.injEq, true_and, and_true]
    funext u
    simp only [upd]
    split <;> rfl
  · have e : mcF mfI k n ++ c0.drop n = mcF mfI k n := by rw [List.drop_eq_nil_of_le (by omega), List.append_nil]
    simp only [S_mkIntS, e]
    simp (maxSteps := 4000000) -implicitDefEqProofs [b11_0, List.take, List.drop]
    change _ = _
    kernel_rfl
theorem t_mkIntS (t z n : Nat) (p : List Nat) (cs c0 : List Cell) (k : Int) (sl : List SV) (m : Mem) (up : List SV) (nx : Nat) (hm : m t = some (.row z cs)) (hp : cellsAt cs p = some c0) (hc : c0.length = n) (hk : 0 ≤ k) (hk2 : k ≤ 1000000000) (hn : n ≤ 1048576) :
    runThru (X tab) tab 11 [.v false [.sl t p 0 n], .v false [.int .i64 k]] ⟨⟨sl, m, up⟩, nx⟩ = some (.v false [.int .i64 (k + n)], ⟨⟨sl, upd m t (some (.row z (updAt (fun _ => mcF mfI k n) cs p))), up⟩, nx + 512⟩) := by
  unfold runThru
  simp (maxSteps := 4000000) -implicitDefEqProofs [tab11, a11, List.take, List.drop]
  rw [loop_mkIntS t z n p cs c0 k m (sl ++ up) (nx + 128) hp hc hk hk2 hn (by
    have e : updAt (fun _ => mcF mfI k 0 ++ c0.drop 0) cs p = cs := by
      rw [show mcF mfI k 0 ++ c0.drop 0 = c0 from rfl]
      exact updAt_self hp
    simp only [S_mkIntS, e, upd_self hm, Int.ofNat_zero, Int.add_zero]
    rfl)]
  simp (maxSteps := 4000000) -implicitDefEqProofs [Z_mkIntS, List.take, List.drop, resOf, resSV]
def S_mkByteS (t z n : Nat) (p : List Nat) (cs c0 : List Cell) (k : Int) (m : Mem) (up : List SV) (nx : Nat) (i : Nat) : XS := ⟨⟨[.v false [.sl t p 0 n], .v false [.int .i64 ((k + i))], .bad, .bad, .bad, .v false [.int .i64 (i)], .bad, .bad, .bad, .bad, .bad, .bad, .bad, .bad, .bad, .bad, .bad, .bad, .bad, .bad], upd m t (some (.row z (updAt (fun _ => mcF mfU k i ++ c0.drop i) cs p))), up⟩, nx⟩
def Z_mkByteS (t z n : Nat) (p : List Nat) (cs : List Cell) (k : Int) (m : Mem) (up : List SV) (nx : Nat) : XS := ⟨⟨[.bad, .v false [.int .i64 ((k + n))], .bad, .bad, .bad, .bad, .bad, .bad, .bad, .bad, .bad, .bad, .bad, .bad, .bad, .bad, .bad, .bad, .bad, .bad], upd m t (some (.row z (updAt (fun _ => mcF mfU k n) cs p))), up⟩, nx + 256⟩
theorem loop_mkByteS (t z n : Nat) (p : List Nat) (cs c0 : List Cell) (k : Int) (m : Mem) (up : List SV) (nx : Nat) (hp : cellsAt cs p = some c0) (hc : c0.length = n) (hk : 0 ≤ k) (hk2 : k ≤ 1000000000) (hn : n ≤ 1048576) {x : XS} (hx : head false d56_0 x = S_mkByteS t z n p cs c0 k m up nx 0) : X tab l56_0 x = some (.exit 0, Z_mkByteS t z n p cs k m up nx) := by
  refine loopF n (S_mkByteS t z n p cs c0 k m up nx) _ (by simp) (fun i hi => ?_) ?_ (Nat.zero_le _) hx
  · have h1 : (0 ≤ (i : Int) ∧ (i : Int) < (n : Int)) := by omega
    have h4 : IntKind.i64.wrap ((i : Int) + 1) = ((i + 1 : Nat) : Int) := by rw [wrap_id (by omega) (by omega)]; omega
    have h5 : IntKind.i64.wrap (k + (i : Int) + 1) = k + ((i + 1 : Nat) : Int) := by rw [wrap_id (by omega) (by omega)]; omega
    have h6 : IntKind.i64.wrap (k + (i : Int)) = k + (i : Int) := by rw [wrap_id (by omega) (by omega)]
    have h7 : cellsAt (updAt (fun _ => mcF mfU k i ++ c0.drop i) cs p) p = some (mcF mfU k i ++ c0.drop i) := cellsAt_updAt hp
    have h8 : i + 1 ≤ (mcF mfU k i ++ c0.drop i).length := by rw [List.length_append, mcF_len, List.length_drop]; omega
    have h9 : updAt (spl [mfU (k + i)] i) (updAt (fun _ => mcF mfU k i ++ c0.drop i) cs p) p = updAt (fun _ => mcF mfU k (i + 1) ++ c0.drop (i + 1)) cs p := by
      rw [updAt_updAt hp, mcF_next (by omega)]
    simp only [S_mkByteS]
    simp only [mfU] at h9
    generalize updAt (fun _ => mcF mfU k (i + 1) ++ c0.drop (i + 1)) cs p = q' at *
    generalize updAt (fun _ => mcF mfU k i ++ c0.drop i) cs p = q at *
    generalize mcF mfU k i ++ c0.drop i = r at *
    simp (maxSteps := 4000000) -implicitDefEqProofs [b56_0, List.take, List.drop, effOp2, effOp, memL_app, stoRow, toCells, toCell, scalar_int, scalar_bool, upd, h1, h4, h5, h6, h7, h8, h9, hi, -Int.natCast_add]
    simp only [head, killSlots, Bool.false_eq_true, if_false, d56_0, List.set, XS.mk.injEq, St.mk.injEq, true_and, and_true]
    funext u
    simp only [upd]
    split <;> rfl
  · have e : mcF mfU k n ++ c0.drop n = mcF mfU k n := by rw [List.drop_eq_nil_of_le (by omega), List.append_nil]
    simp only [S_mkByteS, e]
    simp (maxSteps := 4000000) -implicitDefEqProofs [b56_0, List.take, List.drop]
    change _ = _
    kernel_rfl
theorem t_mkByteS (t z n : Nat) (p : List Nat) (cs c0 : List Cell) (k : Int) (sl : List SV) (m : Mem) (up : List SV) (nx : Nat) (hm : m t = some (.row z cs)) (hp : cellsAt cs p = some c0) (hc : c0.length = n) (hk : 0 ≤ k) (hk2 : k ≤ 1000000000) (hn : n ≤ 1048576) :
    runThru (X tab) tab 56 [.v false [.sl t p 0 n], .v false [.int .i64 k]] ⟨⟨sl, m, up⟩, nx⟩ = some (.v false [.int .i64 (k + n)], ⟨⟨sl, upd m t (some (.row z (updAt (fun _ => mcF mfU k n) cs p))), up⟩, nx + 512⟩) := by
  unfold runThru
  simp (maxSteps := 4000000) -implicitDefEqProofs [tab56, a56, List.take, List.drop]
  rw [loop_mkByteS t z n p cs c0 k m (sl ++ up) (nx + 128) hp hc hk hk2 hn (by
    have e : updAt (fun _ => mcF mfU k 0 ++ c0.drop 0) cs p = cs := by
      rw [show mcF mfU k 0 ++ c0.drop 0 = c0 from rfl]
      exact updAt_self hp
    simp only [S_mkByteS, e, upd_self hm, Int.ofNat_zero, Int.add_zero]
    rfl)]
  simp (maxSteps := 4000000) -implicitDefEqProofs [Z_mkByteS, List.take, List.drop, resOf, resSV]
def S_mkBoolS (t z n : Nat) (p : List Nat) (cs c0 : List Cell) (k : Int) (m : Mem) (up : List SV) (nx : Nat) (i : Nat) : XS := ⟨⟨[.v false [.sl t p 0 n], .v false [.int .i64 ((k + i))], .bad, .bad, .bad, .v false [.int .i64 (i)], .bad, .bad, .bad, .bad, .bad, .bad, .bad, .bad, .bad, .bad, .bad, .bad, .bad, .bad, .bad], upd m t (some (.row z (updAt (fun _ => mcF mfB k i ++ c0.drop i) cs p))), up⟩, nx⟩
def Z_mkBoolS (t z n : Nat) (p : List Nat) (cs : List Cell) (k : Int) (m : Mem) (up : List SV) (nx : Nat) : XS := ⟨⟨[.bad, .v false [.int .i64 ((k + n))], .bad, .bad, .bad, .bad, .bad, .bad, .bad, .bad, .bad, .bad, .bad, .bad, .bad, .bad, .bad, .bad, .bad, .bad, .bad], upd m t (some (.row z (updAt (fun _ => mcF mfB k n) cs p))), up⟩, nx + 256⟩
theorem loop_mkBoolS (t z n : Nat) (p : List Nat) (cs c0 : List Cell) (k : Int) (m : Mem) (up : List SV) (nx : Nat) (hp : cellsAt cs p = some c0) (hc : c0.length = n) (hk : 0 ≤ k) (hk2 : k ≤ 1000000000) (hn : n ≤ 1048576) {x : XS} (hx : head false d57_0 x = S_mkBoolS t z n p cs c0 k m up nx 0) : X tab l57_0 x = some (.exit 0, Z_mkBoolS t z n p cs k m up nx) := by
  refine loopF n (S_mkBoolS t z n p cs c0 k m up nx) _ (by simp) (fun i hi => ?_) ?_ (Nat.zero_le _) hx
  · have h1 : (0 ≤ (i : Int) ∧ (i : Int) < (n : Int)) := by omega
    have h4 : IntKind.i64.wrap ((i : Int) + 1) = ((i + 1 : Nat) : Int) := by rw [wrap_id (by omega) (by omega)]; omega
    have h5 : IntKind.i64.wrap (k + (i : Int) + 1) = k + ((i + 1 : Nat) : Int) := by rw [wrap_id (by omega) (by omega)]; omega
    have h6 : IntKind.i64.wrap (k + (i : Int)) = k + (i : Int) := by rw [wrap_id (by omega) (by omega)]
    have h7 : cellsAt (updAt (fun _ => mcF mfB k i ++ c0.drop i) cs p) p = some (mcF mfB k i ++ c0.drop i) := cellsAt_updAt hp
    have h8 : i + 1 ≤ (mcF mfB k i ++ c0.drop i).length := by rw [List.length_append, mcF_len, List.length_drop]; omega
    have h9 : updAt (spl [mfB (k + i)] i) (updAt (fun _ => mcF mfB k i ++ c0.drop i) cs p) p = updAt (fun _ => mcF mfB k (i + 1) ++ c0.drop (i + 1)) cs p := by
      rw [updAt_updAt hp, mcF_next (by omega)]
    simp only [S_mkBoolS]
    simp only [mfB] at h9
    generalize updAt (fun _ => mcF mfB k (i + 1) ++ c0.drop (i + 1)) cs p = q' at *
    generalize updAt (fun _ => mcF mfB k i ++ c0.drop i) cs p = q at *
    generalize mcF mfB k i ++ c0.drop i = r at *
    simp (maxSteps := 4000000) -implicitDefEqProofs [b57_0, List.take, List.drop, effOp2, effOp, memL_app, stoRow, toCells, toCell, scalar_int, scalar_bool, upd, h1, h4, h5, h6, h7, h8, h9, hi, -Int.natCast_add]
    simp only [head, killSlots, Bool.false_eq_true, if_false, d57_0, List.set, XS.mk.injEq, St.mk.injEq, true_and, and_true]
    funext u
    simp only [upd]
    split <;> rfl
  · have e : mcF mfB k n ++ c0.drop n = mcF mfB k n := by rw [List.drop_eq_nil_of_le (by omega), List.append_nil]
    simp only [S_mkBoolS, e]
    simp (maxSteps := 4000000) -implicitDefEqProofs [b57_0, List.take, List.drop]
    change _ = _
    kernel_rfl
theorem t_mkBoolS (t z n : Nat) (p : List Nat) (cs c0 : List Cell) (k : Int) (sl : List SV) (m : Mem) (up : List SV) (nx : Nat) (hm : m t = some (.row z cs)) (hp : cellsAt cs p = some c0) (hc : c0.length = n) (hk : 0 ≤ k) (hk2 : k ≤ 1000000000) (hn : n ≤ 1048576) :
    runThru (X tab) tab 57 [.v false [.sl t p 0 n], .v false [.int .i64 k]] ⟨⟨sl, m, up⟩, nx⟩ = some (.v false [.int .i64 (k + n)], ⟨⟨sl, upd m t (some (.row z (updAt (fun _ => mcF mfB k n) cs p))), up⟩, nx + 512⟩) := by
  unfold runThru
  simp (maxSteps := 4000000) -implicitDefEqProofs [tab57, a57, List.take, List.drop]
  rw [loop_mkBoolS t z n p cs c0 k m (sl ++ up) (nx + 128) hp hc hk hk2 hn (by
    have e : updAt (fun _ => mcF mfB k 0 ++ c0.drop 0) cs p = cs := by
      rw [show mcF mfB k 0 ++ c0.drop 0 = c0 from rfl]
      exact updAt_self hp
    simp only [S_mkBoolS, e, upd_self hm, Int.ofNat_zero, Int.add_zero]
    rfl)]
  simp (maxSteps := 4000000) -implicitDefEqProofs [Z_mkBoolS, List.take, List.drop, resOf, resSV]
/-! Marks in rows of rows. -/
theorem cellsAt_snoc {i n : Nat} {ms : List Cell} : ∀ {p : List Nat} {cs ns : List Cell}, cellsAt cs p = some ns → ns[i]? = some (.sl n ms) → cellsAt cs (p ++ [i]) = some ms := by
  intro p
  induction p with
  | nil => intro cs ns h hi; cases h; simp [cellsAt, hi]
  | cons j p ih =>
    intro cs ns h hi
    simp only [List.cons_append, cellsAt] at h ⊢
    cases hj : cs[j]? with
    | none => rw [hj] at h; cases h
    | some c =>
      rw [hj] at h
      cases c with
      | sl n' ms' => exact ih h hi
      | _ => cases h
theorem updAt_snoc {i n : Nat} {ms : List Cell} {f : List Cell → List Cell} : ∀ {p : List Nat} {cs ns : List Cell}, cellsAt cs p = some ns → ns[i]? = some (.sl n ms) → updAt f cs (p ++ [i]) = updAt (fun _ => ns.set i (.sl n (f ms))) cs p := by
  intro p
  induction p with
  | nil => intro cs ns h hi; cases h; simp [updAt, hi]
  | cons j p ih =>
    intro cs ns h hi
    simp only [cellsAt] at h
    simp only [List.cons_append, updAt]
    cases hj : cs[j]? with
    | none => simp [hj] at h
    | some c =>
      rw [hj] at h
      cases c with
      | sl n' ms' =>
        simp only
        rw [ih h hi]
      | _ => cases h
/-- The marks that rows of numbers get, and the next one. -/
def mkSS (k : Int) : List (List Int) → List Cell
  | [] => []
  | x :: r => .sl x.length (mcF mfI k x.length) :: mkSS (k + x.length) r
def kSS (k : Int) (l : List (List Int)) : Int := k + ((l.map List.length).sum : Nat)
theorem mkSS_app (k : Int) (l r : List (List Int)) : mkSS k (l ++ r) = mkSS k l ++ mkSS (kSS k l) r := by
  induction l generalizing k with
  | nil => simp [mkSS, kSS]
  | cons x l ih =>
    simp only [List.cons_append, mkSS, ih]
    congr 2
    simp only [kSS, List.map_cons, List.sum_cons]
    congr 1
    omega
theorem mkSS_len (k : Int) (l : List (List Int)) : (mkSS k l).length = l.length := by
  induction l generalizing k with
  | nil => rfl
  | cons x l ih => simp [mkSS, ih]
def S_mkSS (t z : Nat) (l : List (List Int)) (p : List Nat) (cs : List Cell) (k : Int) (m : Mem) (up : List SV) (nx : Nat) (i : Nat) : XS := ⟨⟨[.v false [.sl t p 0 l.length], .v false [.int .i64 ((kSS k (l.take i)))], .bad, .bad, .bad, .v false [.int .i64 (i)], .bad, .bad, .bad, .bad, .bad, .bad, .bad, .bad, .bad, .bad, .bad, .bad, .bad], upd m t (some (.row z (updAt (fun _ => mkSS k (l.take i) ++ (l.drop i).map intsC) cs p))), up⟩, nx⟩
def Z_mkSS (t z : Nat) (l : List (List Int)) (p : List Nat) (cs : List Cell) (k : Int) (m : Mem) (up : List SV) (nx : Nat) : XS := ⟨⟨[.bad, .v false [.int .i64 ((kSS k l))], .bad, .bad, .bad, .bad, .bad, .bad, .bad, .bad, .bad, .bad, .bad, .bad, .bad, .bad, .bad, .bad, .bad], upd m t (some (.row z (updAt (fun _ => mkSS k l) cs p))), up⟩, nx + 256⟩
theorem loop_mkSS (t z : Nat) (l : List (List Int)) (p : List Nat) (cs : List Cell) (k : Int) (m : Mem) (up : List SV) (nx : Nat) (hp : cellsAt cs p = some (l.map intsC)) (hk : 0 ≤ k) (hk2 : k + ((l.map List.length).sum : Nat) ≤ 1000000000) (hn : l.length ≤ 1048576) (hl : ∀ x ∈ l, x.length ≤ 1048576) {x : XS}
    (hx : head false d55_0 x = S_mkSS t z l p cs k m up nx 0) : X tab l55_0 x = some (.exit 0, Z_mkSS t z l p cs k m up nx) := by
  refine loopF l.length (S_mkSS t z l p cs k m up nx) _ (by simp) (fun i hi => ?_) ?_ (Nat.zero_le _) hx
  · obtain ⟨y, r, hd⟩ : ∃ y r, l.drop i = y :: r := ⟨_, _, List.drop_eq_getElem_cons hi⟩
    have hy : l[i]? = some y := by
      have := congrArg (fun q : List (List Int) => q[0]?) hd
      simpa using this
    have hyl := hl y (dropx_mem hd)
    have h1 : (0 ≤ (i : Int) ∧ (i : Int) < (l.length : Int)) := by omega
    have h4 : IntKind.i64.wrap ((i : Int) + 1) = ((i + 1 : Nat) : Int) := by rw [wrap_id (by omega) (by omega)]; omega
    have ht : l.take (i + 1) = l.take i ++ [y] := by rw [List.take_add_one, hy]; rfl
    have hsum : ((l.take i).map List.length).sum + y.length ≤ (l.map List.length).sum := by
      have e := List.take_append_drop i l
      rw [hd] at e
      conv => rhs; rw [← e]
      simp
    have hdn := dropx_next hd
    have hpl : (mkSS k (l.take i)).length = i := by rw [mkSS_len, List.length_take, Nat.min_eq_left (by omega)]
    have h7 : cellsAt (updAt (fun _ => mkSS k (l.take i) ++ (l.drop i).map intsC) cs p) p = some (mkSS k (l.take i) ++ (l.drop i).map intsC) := cellsAt_updAt hp
    have h8 : (mkSS k (l.take i) ++ (l.drop i).map intsC)[i]? = some (.sl y.length (cl .i64 y)) := by
      rw [List.getElem?_append_right (by omega), hpl, Nat.sub_self, hd]
      rfl
    have h9 := updAt_snoc (f := fun _ => mcF mfI (kSS k (l.take i)) y.length) h7 h8
    rw [updAt_updAt hp] at h9
    have h10 : (mkSS k (l.take i) ++ (l.drop i).map intsC).set i (.sl y.length (mcF mfI (kSS k (l.take i)) y.length)) = mkSS k (l.take (i + 1)) ++ (l.drop (i + 1)).map intsC := by
      rw [List.set_append_right _ _ (by omega), hpl, Nat.sub_self, hd, hdn, ht, mkSS_app, List.append_assoc]
      rfl
    rw [h10] at h9
    have h11 := cellsAt_snoc h7 h8
    have h12 : kSS k (l.take (i + 1)) = kSS k (l.take i) + y.length := by
      unfold kSS
      rw [ht]
      simp
      omega
    have hkk : 0 ≤ kSS k (l.take i) ∧ kSS k (l.take i) ≤ 1000000000 := by unfold kSS; omega
    have h13 : readOwn t p (mkSS k (l.take i) ++ (l.drop i).map intsC) i 1 = some [.sl t (p ++ [i]) 0 y.length] := by
      simp only [readOwn, h8, Option.map_some, fromOwn]
    simp only [S_mkSS, h12]
    generalize updAt (fun _ => mkSS k (l.take (i + 1)) ++ (l.drop (i + 1)).map intsC) cs p = q' at *
    generalize updAt (fun _ => mkSS k (l.take i) ++ (l.drop i).map intsC) cs p = q at *
    generalize mkSS k (l.take i) ++ (l.drop i).map intsC = rr at *
    generalize kSS k (l.take i) = kk at *
    have h14 := fun sl up nx => t_mkIntS t z y.length (p ++ [i]) q (cl .i64 y) kk sl (upd m t (some (.row z q))) up nx (by simp [upd]) h11 cl_length hkk.1 hkk.2 hyl
    rw [h9] at h14
    simp (maxSteps := 4000000) -implicitDefEqProofs [b55_0, List.take, List.drop, getAll, memL_app, upd, h1, h4, h7, h13, h14, hi, -Int.natCast_add]
    simp only [head, killSlots, Bool.false_eq_true, if_false, d55_0, List.set, XS.mk.injEq, St.mk.injEq, true_and, and_true]
    funext u
    simp only [upd]
    split <;> rfl
  · rw [show S_mkSS t z l p cs k m up nx l.length = ⟨⟨[.v false [.sl t p 0 l.length], .v false [.int .i64 ((kSS k l))], .bad, .bad, .bad, .v false [.int .i64 (l.length)], .bad, .bad, .bad, .bad, .bad, .bad, .bad, .bad, .bad, .bad, .bad, .bad, .bad], upd m t (some (.row z (updAt (fun _ => mkSS k l) cs p))), up⟩, nx⟩ by simp [S_mkSS]]
    simp (maxSteps := 4000000) -implicitDefEqProofs [b55_0, List.take, List.drop]
    change _ = _
    kernel_rfl
theorem t_mkSS (t z : Nat) (l : List (List Int)) (p : List Nat) (cs : List Cell) (k : Int) (sl : List SV) (m : Mem) (up : List SV) (nx : Nat) (hm : m t = some (.row z cs)) (hp : cellsAt cs p = some (l.map intsC)) (hk : 0 ≤ k) (hk2 : k + ((l.map List.length).sum : Nat) ≤ 1000000000) (hn : l.length ≤ 1048576) (hl : ∀ x ∈ l, x.length ≤ 1048576) :
    runThru (X tab) tab 55 [.v false [.sl t p 0 l.length], .v false [.int .i64 k]] ⟨⟨sl, m, up⟩, nx⟩ = some (.v false [.int .i64 (kSS k l)], ⟨⟨sl, upd m t (some (.row z (updAt (fun _ => mkSS k l) cs p))), up⟩, nx + 512⟩) := by
  unfold runThru
  simp (maxSteps := 4000000) -implicitDefEqProofs [tab55, a55, List.take, List.drop]
  rw [loop_mkSS t z l p cs k m (sl ++ up) (nx + 128) hp hk hk2 hn hl (by
    have e : updAt (fun _ => mkSS k (l.take 0) ++ (l.drop 0).map intsC) cs p = cs := by
      rw [show mkSS k (l.take 0) ++ (l.drop 0).map intsC = l.map intsC from rfl]
      exact updAt_self hp
    have e2 : kSS k (l.take 0) = k := by simp [kSS]
    simp only [S_mkSS, e, e2, upd_self hm, Int.ofNat_zero]
    rfl)]
  simp (maxSteps := 4000000) -implicitDefEqProofs [Z_mkSS, List.take, List.drop, resOf, resSV]

section
variable {α : Type}
/-- The cells of a row of structures that got marks. -/
def mkL (mk : Int → α → List Cell) (c : α → Nat) : Int → List α → List Cell
  | _, [] => []
  | k, x :: r => mk k x ++ mkL mk c (k + c x) r
def kL (c : α → Nat) (k : Int) (l : List α) : Int := k + ((l.map c).sum : Nat)
theorem mkL_app (mk : Int → α → List Cell) (c : α → Nat) (k : Int) (l r : List α) : mkL mk c k (l ++ r) = mkL mk c k l ++ mkL mk c (kL c k l) r := by
  induction l generalizing k with
  | nil => simp [mkL, kL]
  | cons x l ih =>
    simp only [List.cons_append, mkL, ih, List.append_assoc]
    congr 3
    simp only [kL, List.map_cons, List.sum_cons]
    omega
theorem mkL_len {mk : Int → α → List Cell} {c : α → Nat} {z : Nat} (hz : ∀ k x, (mk k x).length = z) (k : Int) (l : List α) : (mkL mk c k l).length = l.length * z := by
  induction l generalizing k with
  | nil => simp [mkL]
  | cons x l ih => rw [mkL, List.length_append, ih, hz, List.length_cons, Nat.succ_mul]; omega
/-- A row that is being marked, at i. -/
def mid (mk : Int → α → List Cell) (c : α → Nat) (lay : α → List Cell) (k : Int) (l : List α) (i : Nat) : List Cell := mkL mk c k (l.take i) ++ (l.drop i).flatMap lay
theorem mid_zero {mk : Int → α → List Cell} {c : α → Nat} {lay : α → List Cell} {k : Int} {l : List α} : mid mk c lay k l 0 = l.flatMap lay := by simp [mid, mkL]
theorem mid_all {mk : Int → α → List Cell} {c : α → Nat} {lay : α → List Cell} {k : Int} {l : List α} : mid mk c lay k l l.length = mkL mk c k l := by simp [mid]
theorem kL_zero {c : α → Nat} {k : Int} {l : List α} : kL c k (l.take 0) = k := by simp [kL]
theorem mid_at {mk : Int → α → List Cell} {c : α → Nat} {lay : α → List Cell} {k : Int} {l : List α} {i z : Nat} {x : α} {r : List α} (hz : ∀ k x, (mk k x).length = z) (h : l.drop i = x :: r) :
    ∃ A B, A.length = i * z ∧ mid mk c lay k l i = A ++ (lay x ++ B) ∧ mid mk c lay k l (i + 1) = A ++ (mk (kL c k (l.take i)) x ++ B) ∧ kL c k (l.take (i + 1)) = kL c k (l.take i) + c x ∧ kL c k (l.take i) + c x ≤ kL c k l ∧ k ≤ kL c k (l.take i) := by
  have hi := dropx_lt h
  have hx : l[i]? = some x := by
    have := congrArg (fun q : List α => q[0]?) h
    simpa using this
  have ht : l.take (i + 1) = l.take i ++ [x] := by rw [List.take_add_one, hx]; rfl
  have hk : kL c k (l.take (i + 1)) = kL c k (l.take i) + c x := by
    unfold kL
    rw [ht, List.map_append, List.sum_append]
    simp
    omega
  refine ⟨mkL mk c k (l.take i), r.flatMap lay, ?_, ?_, ?_, hk, ?_, ?_⟩
  · rw [mkL_len hz, List.length_take, Nat.min_eq_left (by omega)]
  · unfold mid; rw [h]; rfl
  · unfold mid
    rw [ht, mkL_app, dropx_next h, List.append_assoc]
    simp [mkL]
  · rw [← hk]
    unfold kL
    have e := List.take_append_drop (i + 1) l
    have : (l.map c).sum = ((l.take (i + 1)).map c).sum + ((l.drop (i + 1)).map c).sum := by
      conv => lhs; rw [← e]
      rw [List.map_append, List.sum_append]
    omega
  · unfold kL; omega
end
theorem row_st {A B C : List Cell} {a j : Nat} {c : Cell} (ha : A.length = a) (hj : j < C.length) : spl [c] (a + j) (A ++ (C ++ B)) = A ++ (C.set j c ++ B) := by
  unfold spl
  subst ha
  rw [List.take_append, List.take_of_length_le (by omega), Nat.add_sub_cancel_left, List.take_append_of_le_length (by omega), List.drop_append, List.drop_of_length_le (by simp only [List.length_singleton]; omega)]
  have e : A.length + j + [c].length - A.length = j + 1 := by simp only [List.length_singleton]; omega
  rw [e, List.drop_append_of_le_length (by omega), List.set_eq_take_append_cons_drop, if_pos hj]
  simp
theorem row_at {A B C : List Cell} {a j : Nat} (ha : A.length = a) (hj : j < C.length) : (A ++ (C ++ B))[a + j]? = C[j]? := by
  subst ha
  rw [List.getElem?_append_right (by omega), Nat.add_sub_cancel_left, List.getElem?_append_left hj]
theorem row_set {A B C : List Cell} {a j : Nat} {c : Cell} (ha : A.length = a) (hj : j < C.length) : (A ++ (C ++ B)).set (a + j) c = A ++ (C.set j c ++ B) := by
  subst ha
  rw [List.set_append_right _ _ (by omega), Nat.add_sub_cancel_left, List.set_append_left _ _ hj]
theorem row_len {A B C : List Cell} {a j : Nat} (ha : A.length = a) (hj : j < C.length) : a + j + 1 ≤ (A ++ (C ++ B)).length := by
  rw [List.length_append, List.length_append]; omega
theorem row_read {t : Nat} {R : List Cell} {a n : Nat} {ms : List Cell} (h : R[a]? = some (.sl n ms)) : readOwn t [] R a 1 = some [.sl t [a] 0 n] := by
  simp only [readOwn, h, Option.map_some, fromOwn, List.nil_append]
theorem row_cell {R : List Cell} {a n : Nat} {ms : List Cell} (h : R[a]? = some (.sl n ms)) : cellsAt R [a] = some ms := by simp [cellsAt, h]
theorem row_upd {R : List Cell} {a n : Nat} {ms : List Cell} {f : List Cell → List Cell} (h : R[a]? = some (.sl n ms)) : updAt f R [a] = R.set a (.sl n (f ms)) := by simp [updAt, h]
theorem upd_same (m : Mem) (t : Nat) (x : Option Ob) : upd m t x t = x := by simp [upd]
def mkRec (k : Int) (_ : PRec) : List Cell := [mfI k, mfI (k + 1)]
def cRec (_ : PRec) : Nat := 2
def S_mkRec (t : Nat) (l : List PRec) (k : Int) (m : Mem) (up : List SV) (nx : Nat) (i : Nat) : XS := ⟨⟨[.v false [.sl t [] 0 l.length], .v false [.int .i64 ((kL cRec k (l.take i)))], .bad, .bad, .bad, .v false [.int .i64 (i)], .bad, .bad, .bad, .bad, .bad, .bad, .bad, .bad, .bad, .bad, .bad, .bad, .bad, .bad, .bad, .bad, .bad, .bad, .bad, .bad, .bad], upd m t (some (.row 2 (mid mkRec cRec recC k l i))), up⟩, nx⟩
def Z_mkRec (t : Nat) (l : List PRec) (k : Int) (m : Mem) (up : List SV) (nx : Nat) : XS := ⟨⟨[.bad, .v false [.int .i64 ((kL cRec k l))], .bad, .bad, .bad, .bad, .bad, .bad, .bad, .bad, .bad, .bad, .bad, .bad, .bad, .bad, .bad, .bad, .bad, .bad, .bad, .bad, .bad, .bad, .bad, .bad, .bad], upd m t (some (.row 2 (mkL mkRec cRec k l))), up⟩, nx + 256⟩
theorem loop_mkRec (t : Nat) (l : List PRec) (k : Int) (m : Mem) (up : List SV) (nx : Nat) (hk : 0 ≤ k) (hk2 : kL cRec k l ≤ 1000000000) (hn : l.length ≤ 1048576) {x : XS} (hx : head false d34_0 x = S_mkRec t l k m up nx 0) : X tab l34_0 x = some (.exit 0, Z_mkRec t l k m up nx) := by
  refine loopF l.length (S_mkRec t l k m up nx) _ (by simp) (fun i hi => ?_) ?_ (Nat.zero_le _) hx
  · obtain ⟨y, r, hd⟩ : ∃ y r, l.drop i = y :: r := ⟨_, _, List.drop_eq_getElem_cons hi⟩
    obtain ⟨A, B, hA, h0, hN, hk', hkb, hka⟩ := mid_at (mk := mkRec) (c := cRec) (lay := recC) (k := k) (z := 2) (fun _ _ => rfl) hd
    have h1 : (0 ≤ (i : Int) ∧ (i : Int) < (l.length : Int)) := by omega
    have h4 : IntKind.i64.wrap ((i : Int) + 1) = ((i + 1 : Nat) : Int) := by rw [wrap_id (by omega) (by omega)]; omega
    simp only [S_mkRec, hN, h0, hk']
    simp only [cRec] at hkb ⊢
    generalize kL cRec k (l.take i) = k0 at *
    have w0 : IntKind.i64.wrap k0 = k0 := wrap_id (by omega) (by omega)
    have w1 : IntKind.i64.wrap (k0 + 1) = k0 + 1 := wrap_id (by omega) (by omega)
    have w2 : IntKind.i64.wrap (k0 + 1 + 1) = k0 + (2 : Nat) := by rw [wrap_id (by omega) (by omega)]; omega
    simp only [recC, mkRec, mfI]
    have e0 := row_st (A := A) (B := B) (C := [.int .i64 y.cell, .int .i64 y.up]) (j := 0) (c := .int .i64 k0) hA (by simp)
    have e1 := row_st (A := A) (B := B) (C := [.int .i64 k0, .int .i64 y.up]) (j := 1) (c := .int .i64 (k0 + 1)) hA (by simp)
    have n0 := row_len (A := A) (B := B) (C := [.int .i64 y.cell, .int .i64 y.up]) (j := 0) hA (by simp)
    have n1 := row_len (A := A) (B := B) (C := [.int .i64 k0, .int .i64 y.up]) (j := 1) hA (by simp)
    simp only [List.set_cons_zero, List.set_cons_succ, Nat.add_zero] at e0 e1 n0 n1
    generalize A ++ ([.int .i64 y.cell, .int .i64 y.up] ++ B) = R0 at *
    generalize A ++ ([.int .i64 k0, .int .i64 y.up] ++ B) = R1 at *
    generalize A ++ ([.int .i64 k0, .int .i64 (k0 + 1)] ++ B) = R2 at *
    generalize k0 + ((2 : Nat) : Int) = k2 at *
    simp (maxSteps := 4000000) -implicitDefEqProofs [b34_0, List.take, List.drop, effOp2, effOp, memL_app, stoRow, toCells, toCell, scalar_int, scalar_bool, cellsAt, updAt, upd_same, upd_upd, h1, h4, w0, w1, w2, e0, e1, n0, n1, hi, -Int.natCast_add]
    change _ = _
    kernel_rfl
  · simp only [S_mkRec, mid_all, List.take_length]
    simp (maxSteps := 4000000) -implicitDefEqProofs [b34_0, List.take, List.drop]
    change _ = _
    kernel_rfl
theorem t_mkRec (t : Nat) (l : List PRec) (k : Int) (sl : List SV) (m : Mem) (up : List SV) (nx : Nat) (hm : m t = some (.row 2 (recsC l))) (hk : 0 ≤ k) (hk2 : kL cRec k l ≤ 1000000000) (hn : l.length ≤ 1048576) :
    runThru (X tab) tab 34 [.v false [.sl t [] 0 l.length], .v false [.int .i64 k]] ⟨⟨sl, m, up⟩, nx⟩ = some (.v false [.int .i64 (kL cRec k l)], ⟨⟨sl, upd m t (some (.row 2 (mkL mkRec cRec k l))), up⟩, nx + 512⟩) := by
  unfold runThru
  simp (maxSteps := 4000000) -implicitDefEqProofs [tab34, a34, List.take, List.drop]
  rw [loop_mkRec t l k m (sl ++ up) (nx + 128) hk hk2 hn (by
    have e : mid mkRec cRec recC k l 0 = recsC l := mid_zero
    simp only [S_mkRec, e, kL_zero, upd_self hm, Int.ofNat_zero]
    change _ = _
    kernel_rfl)]
  simp (maxSteps := 4000000) -implicitDefEqProofs [Z_mkRec, List.take, List.drop, resOf, resSV]

def cN (n : PNode) : Nat := 3 + n.image.length + n.mt.gens.length + (n.mt.bits.map List.length).sum + 4 + n.sa.length + n.sb.length + n.conn.length + (n.sync.map List.length).sum + n.copies.length + n.wait.length
def kN0 (k0 : Int) (_ : PNode) : Int := k0
def kN1 (k0 : Int) (n : PNode) : Int := k0 + 1
def kN2 (k0 : Int) (n : PNode) : Int := (kN1 k0 n) + 1
def kN3 (k0 : Int) (n : PNode) : Int := (kN2 k0 n) + 1
def kN4 (k0 : Int) (n : PNode) : Int := (kN3 k0 n) + n.image.length
def kN5 (k0 : Int) (n : PNode) : Int := (kN4 k0 n) + n.mt.gens.length
def kN6 (k0 : Int) (n : PNode) : Int := kSS (kN5 k0 n) n.mt.bits
def kN7 (k0 : Int) (n : PNode) : Int := (kN6 k0 n) + 1
def kN8 (k0 : Int) (n : PNode) : Int := (kN7 k0 n) + 1
def kN9 (k0 : Int) (n : PNode) : Int := (kN8 k0 n) + 1
def kN10 (k0 : Int) (n : PNode) : Int := (kN9 k0 n) + 1
def kN11 (k0 : Int) (n : PNode) : Int := (kN10 k0 n) + n.sa.length
def kN12 (k0 : Int) (n : PNode) : Int := (kN11 k0 n) + n.sb.length
def kN13 (k0 : Int) (n : PNode) : Int := (kN12 k0 n) + n.conn.length
def kN14 (k0 : Int) (n : PNode) : Int := kSS (kN13 k0 n) n.sync
def kN15 (k0 : Int) (n : PNode) : Int := (kN14 k0 n) + n.copies.length
def kN16 (k0 : Int) (n : PNode) : Int := (kN15 k0 n) + n.wait.length
theorem mkN_next (k0 : Int) (n : PNode) : kN16 k0 n = k0 + cN n := by
  simp only [kN1, kN2, kN3, kN4, kN5, kN6, kN7, kN8, kN9, kN10, kN11, kN12, kN13, kN14, kN15, kN16, kSS, cN]
  omega
def mkRow0 (n : PNode) : List Cell := [.int .i64 n.id, .bool n.up, .bool n.prime, .sl n.image.length (cl .i64 n.image), .sl n.mt.gens.length (cl .i64 n.mt.gens), .sl n.mt.bits.length (n.mt.bits.map intsC), .bool n.mt.fine, .bool n.mt.old, .bool n.mt.hd, .int .i64 n.mt.last, .sl n.sa.length (cl .u8 n.sa), .sl n.sb.length (cl .u8 n.sb), .sl n.conn.length (cb n.conn), .sl n.sync.length (n.sync.map intsC), .sl n.copies.length (cb n.copies), .sl n.wait.length (cl .i64 n.wait)]
def mkRow1 (n : PNode) (k0 : Int) : List Cell := [mfI k0, .bool n.up, .bool n.prime, .sl n.image.length (cl .i64 n.image), .sl n.mt.gens.length (cl .i64 n.mt.gens), .sl n.mt.bits.length (n.mt.bits.map intsC), .bool n.mt.fine, .bool n.mt.old, .bool n.mt.hd, .int .i64 n.mt.last, .sl n.sa.length (cl .u8 n.sa), .sl n.sb.length (cl .u8 n.sb), .sl n.conn.length (cb n.conn), .sl n.sync.length (n.sync.map intsC), .sl n.copies.length (cb n.copies), .sl n.wait.length (cl .i64 n.wait)]
def mkRow2 (n : PNode) (k0 k1 : Int) : List Cell := [mfI k0, mfB k1, .bool n.prime, .sl n.image.length (cl .i64 n.image), .sl n.mt.gens.length (cl .i64 n.mt.gens), .sl n.mt.bits.length (n.mt.bits.map intsC), .bool n.mt.fine, .bool n.mt.old, .bool n.mt.hd, .int .i64 n.mt.last, .sl n.sa.length (cl .u8 n.sa), .sl n.sb.length (cl .u8 n.sb), .sl n.conn.length (cb n.conn), .sl n.sync.length (n.sync.map intsC), .sl n.copies.length (cb n.copies), .sl n.wait.length (cl .i64 n.wait)]
def mkRow3 (n : PNode) (k0 k1 k2 : Int) : List Cell := [mfI k0, mfB k1, mfB k2, .sl n.image.length (cl .i64 n.image), .sl n.mt.gens.length (cl .i64 n.mt.gens), .sl n.mt.bits.length (n.mt.bits.map intsC), .bool n.mt.fine, .bool n.mt.old, .bool n.mt.hd, .int .i64 n.mt.last, .sl n.sa.length (cl .u8 n.sa), .sl n.sb.length (cl .u8 n.sb), .sl n.conn.length (cb n.conn), .sl n.sync.length (n.sync.map intsC), .sl n.copies.length (cb n.copies), .sl n.wait.length (cl .i64 n.wait)]
def mkRow4 (n : PNode) (k0 k1 k2 k3 : Int) : List Cell := [mfI k0, mfB k1, mfB k2, .sl n.image.length (mcF mfI k3 n.image.length), .sl n.mt.gens.length (cl .i64 n.mt.gens), .sl n.mt.bits.length (n.mt.bits.map intsC), .bool n.mt.fine, .bool n.mt.old, .bool n.mt.hd, .int .i64 n.mt.last, .sl n.sa.length (cl .u8 n.sa), .sl n.sb.length (cl .u8 n.sb), .sl n.conn.length (cb n.conn), .sl n.sync.length (n.sync.map intsC), .sl n.copies.length (cb n.copies), .sl n.wait.length (cl .i64 n.wait)]
def mkRow5 (n : PNode) (k0 k1 k2 k3 k4 : Int) : List Cell := [mfI k0, mfB k1, mfB k2, .sl n.image.length (mcF mfI k3 n.image.length), .sl n.mt.gens.length (mcF mfI k4 n.mt.gens.length), .sl n.mt.bits.length (n.mt.bits.map intsC), .bool n.mt.fine, .bool n.mt.old, .bool n.mt.hd, .int .i64 n.mt.last, .sl n.sa.length (cl .u8 n.sa), .sl n.sb.length (cl .u8 n.sb), .sl n.conn.length (cb n.conn), .sl n.sync.length (n.sync.map intsC), .sl n.copies.length (cb n.copies), .sl n.wait.length (cl .i64 n.wait)]
def mkRow6 (n : PNode) (k0 k1 k2 k3 k4 k5 : Int) : List Cell := [mfI k0, mfB k1, mfB k2, .sl n.image.length (mcF mfI k3 n.image.length), .sl n.mt.gens.length (mcF mfI k4 n.mt.gens.length), .sl n.mt.bits.length (mkSS k5 n.mt.bits), .bool n.mt.fine, .bool n.mt.old, .bool n.mt.hd, .int .i64 n.mt.last, .sl n.sa.length (cl .u8 n.sa), .sl n.sb.length (cl .u8 n.sb), .sl n.conn.length (cb n.conn), .sl n.sync.length (n.sync.map intsC), .sl n.copies.length (cb n.copies), .sl n.wait.length (cl .i64 n.wait)]
def mkRow7 (n : PNode) (k0 k1 k2 k3 k4 k5 k6 : Int) : List Cell := [mfI k0, mfB k1, mfB k2, .sl n.image.length (mcF mfI k3 n.image.length), .sl n.mt.gens.length (mcF mfI k4 n.mt.gens.length), .sl n.mt.bits.length (mkSS k5 n.mt.bits), mfB k6, .bool n.mt.old, .bool n.mt.hd, .int .i64 n.mt.last, .sl n.sa.length (cl .u8 n.sa), .sl n.sb.length (cl .u8 n.sb), .sl n.conn.length (cb n.conn), .sl n.sync.length (n.sync.map intsC), .sl n.copies.length (cb n.copies), .sl n.wait.length (cl .i64 n.wait)]
def mkRow8 (n : PNode) (k0 k1 k2 k3 k4 k5 k6 k7 : Int) : List Cell := [mfI k0, mfB k1, mfB k2, .sl n.image.length (mcF mfI k3 n.image.length), .sl n.mt.gens.length (mcF mfI k4 n.mt.gens.length), .sl n.mt.bits.length (mkSS k5 n.mt.bits), mfB k6, mfB k7, .bool n.mt.hd, .int .i64 n.mt.last, .sl n.sa.length (cl .u8 n.sa), .sl n.sb.length (cl .u8 n.sb), .sl n.conn.length (cb n.conn), .sl n.sync.length (n.sync.map intsC), .sl n.copies.length (cb n.copies), .sl n.wait.length (cl .i64 n.wait)]
def mkRow9 (n : PNode) (k0 k1 k2 k3 k4 k5 k6 k7 k8 : Int) : List Cell := [mfI k0, mfB k1, mfB k2, .sl n.image.length (mcF mfI k3 n.image.length), .sl n.mt.gens.length (mcF mfI k4 n.mt.gens.length), .sl n.mt.bits.length (mkSS k5 n.mt.bits), mfB k6, mfB k7, mfB k8, .int .i64 n.mt.last, .sl n.sa.length (cl .u8 n.sa), .sl n.sb.length (cl .u8 n.sb), .sl n.conn.length (cb n.conn), .sl n.sync.length (n.sync.map intsC), .sl n.copies.length (cb n.copies), .sl n.wait.length (cl .i64 n.wait)]
def mkRow10 (n : PNode) (k0 k1 k2 k3 k4 k5 k6 k7 k8 k9 : Int) : List Cell := [mfI k0, mfB k1, mfB k2, .sl n.image.length (mcF mfI k3 n.image.length), .sl n.mt.gens.length (mcF mfI k4 n.mt.gens.length), .sl n.mt.bits.length (mkSS k5 n.mt.bits), mfB k6, mfB k7, mfB k8, mfI k9, .sl n.sa.length (cl .u8 n.sa), .sl n.sb.length (cl .u8 n.sb), .sl n.conn.length (cb n.conn), .sl n.sync.length (n.sync.map intsC), .sl n.copies.length (cb n.copies), .sl n.wait.length (cl .i64 n.wait)]
def mkRow11 (n : PNode) (k0 k1 k2 k3 k4 k5 k6 k7 k8 k9 k10 : Int) : List Cell := [mfI k0, mfB k1, mfB k2, .sl n.image.length (mcF mfI k3 n.image.length), .sl n.mt.gens.length (mcF mfI k4 n.mt.gens.length), .sl n.mt.bits.length (mkSS k5 n.mt.bits), mfB k6, mfB k7, mfB k8, mfI k9, .sl n.sa.length (mcF mfU k10 n.sa.length), .sl n.sb.length (cl .u8 n.sb), .sl n.conn.length (cb n.conn), .sl n.sync.length (n.sync.map intsC), .sl n.copies.length (cb n.copies), .sl n.wait.length (cl .i64 n.wait)]
def mkRow12 (n : PNode) (k0 k1 k2 k3 k4 k5 k6 k7 k8 k9 k10 k11 : Int) : List Cell := [mfI k0, mfB k1, mfB k2, .sl n.image.length (mcF mfI k3 n.image.length), .sl n.mt.gens.length (mcF mfI k4 n.mt.gens.length), .sl n.mt.bits.length (mkSS k5 n.mt.bits), mfB k6, mfB k7, mfB k8, mfI k9, .sl n.sa.length (mcF mfU k10 n.sa.length), .sl n.sb.length (mcF mfU k11 n.sb.length), .sl n.conn.length (cb n.conn), .sl n.sync.length (n.sync.map intsC), .sl n.copies.length (cb n.copies), .sl n.wait.length (cl .i64 n.wait)]
def mkRow13 (n : PNode) (k0 k1 k2 k3 k4 k5 k6 k7 k8 k9 k10 k11 k12 : Int) : List Cell := [mfI k0, mfB k1, mfB k2, .sl n.image.length (mcF mfI k3 n.image.length), .sl n.mt.gens.length (mcF mfI k4 n.mt.gens.length), .sl n.mt.bits.length (mkSS k5 n.mt.bits), mfB k6, mfB k7, mfB k8, mfI k9, .sl n.sa.length (mcF mfU k10 n.sa.length), .sl n.sb.length (mcF mfU k11 n.sb.length), .sl n.conn.length (mcF mfB k12 n.conn.length), .sl n.sync.length (n.sync.map intsC), .sl n.copies.length (cb n.copies), .sl n.wait.length (cl .i64 n.wait)]
def mkRow14 (n : PNode) (k0 k1 k2 k3 k4 k5 k6 k7 k8 k9 k10 k11 k12 k13 : Int) : List Cell := [mfI k0, mfB k1, mfB k2, .sl n.image.length (mcF mfI k3 n.image.length), .sl n.mt.gens.length (mcF mfI k4 n.mt.gens.length), .sl n.mt.bits.length (mkSS k5 n.mt.bits), mfB k6, mfB k7, mfB k8, mfI k9, .sl n.sa.length (mcF mfU k10 n.sa.length), .sl n.sb.length (mcF mfU k11 n.sb.length), .sl n.conn.length (mcF mfB k12 n.conn.length), .sl n.sync.length (mkSS k13 n.sync), .sl n.copies.length (cb n.copies), .sl n.wait.length (cl .i64 n.wait)]
def mkRow15 (n : PNode) (k0 k1 k2 k3 k4 k5 k6 k7 k8 k9 k10 k11 k12 k13 k14 : Int) : List Cell := [mfI k0, mfB k1, mfB k2, .sl n.image.length (mcF mfI k3 n.image.length), .sl n.mt.gens.length (mcF mfI k4 n.mt.gens.length), .sl n.mt.bits.length (mkSS k5 n.mt.bits), mfB k6, mfB k7, mfB k8, mfI k9, .sl n.sa.length (mcF mfU k10 n.sa.length), .sl n.sb.length (mcF mfU k11 n.sb.length), .sl n.conn.length (mcF mfB k12 n.conn.length), .sl n.sync.length (mkSS k13 n.sync), .sl n.copies.length (mcF mfB k14 n.copies.length), .sl n.wait.length (cl .i64 n.wait)]
def mkRow16 (n : PNode) (k0 k1 k2 k3 k4 k5 k6 k7 k8 k9 k10 k11 k12 k13 k14 k15 : Int) : List Cell := [mfI k0, mfB k1, mfB k2, .sl n.image.length (mcF mfI k3 n.image.length), .sl n.mt.gens.length (mcF mfI k4 n.mt.gens.length), .sl n.mt.bits.length (mkSS k5 n.mt.bits), mfB k6, mfB k7, mfB k8, mfI k9, .sl n.sa.length (mcF mfU k10 n.sa.length), .sl n.sb.length (mcF mfU k11 n.sb.length), .sl n.conn.length (mcF mfB k12 n.conn.length), .sl n.sync.length (mkSS k13 n.sync), .sl n.copies.length (mcF mfB k14 n.copies.length), .sl n.wait.length (mcF mfI k15 n.wait.length)]
def mkN (k0 : Int) (n : PNode) : List Cell := mkRow16 n k0 (kN1 k0 n) (kN2 k0 n) (kN3 k0 n) (kN4 k0 n) (kN5 k0 n) (kN6 k0 n) (kN7 k0 n) (kN8 k0 n) (kN9 k0 n) (kN10 k0 n) (kN11 k0 n) (kN12 k0 n) (kN13 k0 n) (kN14 k0 n) (kN15 k0 n)
theorem mkN_len (k : Int) (n : PNode) : (mkN k n).length = 16 := rfl
theorem step_mkN (t : Nat) (len i : Nat) (n : PNode) (A B : List Cell) (m : Mem) (up : List SV) (nx : Nat) (k0 k1 k2 k3 k4 k5 k6 k7 k8 k9 k10 k11 k12 k13 k14 k15 k16 : Int) (hA : A.length = i * 16) (sm : SmN n) (hi : i < len) (hlen : len ≤ 1048576) (hb : 0 ≤ k0) (hb2 : k16 ≤ 1000000000) (q0 : k1 = k0 + 1) (q1 : k2 = k1 + 1) (q2 : k3 = k2 + 1) (q3 : k4 = k3 + n.image.length) (q4 : k5 = k4 + n.mt.gens.length) (q5 : k6 = kSS k5 n.mt.bits) (q6 : k7 = k6 + 1) (q7 : k8 = k7 + 1) (q8 : k9 = k8 + 1) (q9 : k10 = k9 + 1) (q10 : k11 = k10 + n.sa.length) (q11 : k12 = k11 + n.sb.length) (q12 : k13 = k12 + n.conn.length) (q13 : k14 = kSS k13 n.sync) (q14 : k15 = k14 + n.copies.length) (q15 : k16 = k15 + n.wait.length) :
    ∃ z, X tab b32_0 ⟨⟨[.v false [.sl t [] 0 len], .v false [.int .i64 (k0)], .bad, .bad, .bad, .v false [.int .i64 (i)], .bad, .bad, .bad, .bad, .bad, .bad, .bad, .bad, .bad, .bad, .bad, .bad, .bad, .bad, .bad, .bad, .bad, .bad, .bad, .bad, .bad, .bad, .bad, .bad, .bad, .bad, .bad, .bad, .bad, .bad, .bad, .bad, .bad, .bad, .bad, .bad, .bad, .bad, .bad, .bad, .bad, .bad, .bad, .bad, .bad, .bad, .bad, .bad, .bad, .bad, .bad, .bad, .bad, .bad, .bad, .bad, .bad, .bad, .bad, .bad, .bad, .bad, .bad, .bad, .bad, .bad, .bad, .bad, .bad, .bad, .bad, .bad, .bad, .bad, .bad, .bad, .bad, .bad, .bad, .bad, .bad, .bad, .bad, .bad, .bad, .bad, .bad, .bad, .bad, .bad, .bad, .bad, .bad, .bad, .bad, .bad, .bad, .bad, .bad, .bad, .bad, .bad, .bad, .bad, .bad, .bad, .bad, .bad, .bad, .bad, .bad, .bad, .bad, .bad, .bad, .bad, .bad, .bad, .bad, .bad, .bad, .bad, .bad, .bad, .bad, .bad, .bad, .bad, .bad, .bad, .bad, .bad, .bad, .bad, .bad, .bad, .bad], upd m t (some (.row 16 (A ++ (mkRow0 n ++ B)))), up⟩, nx⟩ = some (.nrm, z) ∧ head false d32_0 ⟨z.st, nx⟩ = ⟨⟨[.v false [.sl t [] 0 len], .v false [.int .i64 (k16)], .bad, .bad, .bad, .v false [.int .i64 ((i + 1 : Nat))], .bad, .bad, .bad, .bad, .bad, .bad, .bad, .bad, .bad, .bad, .bad, .bad, .bad, .bad, .bad, .bad, .bad, .bad, .bad, .bad, .bad, .bad, .bad, .bad, .bad, .bad, .bad, .bad, .bad, .bad, .bad, .bad, .bad, .bad, .bad, .bad, .bad, .bad, .bad, .bad, .bad, .bad, .bad, .bad, .bad, .bad, .bad, .bad, .bad, .bad, .bad, .bad, .bad, .bad, .bad, .bad, .bad, .bad, .bad, .bad, .bad, .bad, .bad, .bad, .bad, .bad, .bad, .bad, .bad, .bad, .bad, .bad, .bad, .bad, .bad, .bad, .bad, .bad, .bad, .bad, .bad, .bad, .bad, .bad, .bad, .bad, .bad, .bad, .bad, .bad, .bad, .bad, .bad, .bad, .bad, .bad, .bad, .bad, .bad, .bad, .bad, .bad, .bad, .bad, .bad, .bad, .bad, .bad, .bad, .bad, .bad, .bad, .bad, .bad, .bad, .bad, .bad, .bad, .bad, .bad, .bad, .bad, .bad, .bad, .bad, .bad, .bad, .bad, .bad, .bad, .bad, .bad, .bad, .bad, .bad, .bad, .bad], upd m t (some (.row 16 (A ++ ((mkRow16 n k0 k1 k2 k3 k4 k5 k6 k7 k8 k9 k10 k11 k12 k13 k14 k15) ++ B)))), up⟩, nx⟩ := by
  have h1 : (0 ≤ (i : Int) ∧ (i : Int) < (len : Int)) := by omega
  have h4 : IntKind.i64.wrap ((i : Int) + 1) = ((i + 1 : Nat) : Int) := by rw [wrap_id (by omega) (by omega)]; omega
  simp only [kSS] at q5 q13
  have e0 : spl [.int .i64 k0] (i * 16) (A ++ ((mkRow0 n) ++ B)) = A ++ ((mkRow1 n k0) ++ B) := row_st (j := 0) hA (by simp [mkRow0])
  have n0 : i * 16 + 1 ≤ (A ++ ((mkRow0 n) ++ B)).length := row_len (j := 0) hA (by simp [mkRow0])
  have w0 : IntKind.i64.wrap (k0 + 1) = k1 := by rw [q0, wrap_id (by omega) (by omega)]
  have e1 : spl [.bool (k1.tmod 3 == 0)] (i * 16 + 1) (A ++ ((mkRow1 n k0) ++ B)) = A ++ ((mkRow2 n k0 k1) ++ B) := row_st (j := 1) hA (by simp [mkRow1])
  have n1 : i * 16 + 1 + 1 ≤ (A ++ ((mkRow1 n k0) ++ B)).length := row_len (j := 1) hA (by simp [mkRow1])
  have w1 : IntKind.i64.wrap (k1 + 1) = k2 := by rw [q1, wrap_id (by omega) (by omega)]
  have e2 : spl [.bool (k2.tmod 3 == 0)] (i * 16 + 2) (A ++ ((mkRow2 n k0 k1) ++ B)) = A ++ ((mkRow3 n k0 k1 k2) ++ B) := row_st (j := 2) hA (by simp [mkRow2])
  have n2 : i * 16 + 2 + 1 ≤ (A ++ ((mkRow2 n k0 k1) ++ B)).length := row_len (j := 2) hA (by simp [mkRow2])
  have w2 : IntKind.i64.wrap (k2 + 1) = k3 := by rw [q2, wrap_id (by omega) (by omega)]
  have a3 : (A ++ ((mkRow3 n k0 k1 k2) ++ B))[i * 16 + 3]? = some (.sl n.image.length (cl .i64 n.image)) := by rw [row_at (j := 3) hA (by simp [mkRow3])]; rfl
  have r3 := row_read (t := t) a3
  have c3 := fun sl up nx => t_mkIntS t 16 n.image.length [i * 16 + 3] (A ++ ((mkRow3 n k0 k1 k2) ++ B)) (cl .i64 n.image) k3 sl (upd m t (some (.row 16 (A ++ ((mkRow3 n k0 k1 k2) ++ B))))) up nx (upd_same _ _ _) (row_cell a3) cl_length (by omega) (by omega) sm.image
  rw [row_upd a3, row_set (j := 3) hA (by simp [mkRow3])] at c3
  have u3 : ((mkRow3 n k0 k1 k2)).set 3 (.sl n.image.length (mcF mfI k3 n.image.length)) = (mkRow4 n k0 k1 k2 k3) := rfl
  rw [u3, ← q3] at c3
  have a4 : (A ++ ((mkRow4 n k0 k1 k2 k3) ++ B))[i * 16 + 4]? = some (.sl n.mt.gens.length (cl .i64 n.mt.gens)) := by rw [row_at (j := 4) hA (by simp [mkRow4])]; rfl
  have r4 := row_read (t := t) a4
  have c4 := fun sl up nx => t_mkIntS t 16 n.mt.gens.length [i * 16 + 4] (A ++ ((mkRow4 n k0 k1 k2 k3) ++ B)) (cl .i64 n.mt.gens) k4 sl (upd m t (some (.row 16 (A ++ ((mkRow4 n k0 k1 k2 k3) ++ B))))) up nx (upd_same _ _ _) (row_cell a4) cl_length (by omega) (by omega) sm.gens
  rw [row_upd a4, row_set (j := 4) hA (by simp [mkRow4])] at c4
  have u4 : ((mkRow4 n k0 k1 k2 k3)).set 4 (.sl n.mt.gens.length (mcF mfI k4 n.mt.gens.length)) = (mkRow5 n k0 k1 k2 k3 k4) := rfl
  rw [u4, ← q4] at c4
  have a5 : (A ++ ((mkRow5 n k0 k1 k2 k3 k4) ++ B))[i * 16 + 5]? = some (.sl n.mt.bits.length (n.mt.bits.map intsC)) := by rw [row_at (j := 5) hA (by simp [mkRow5])]; rfl
  have r5 := row_read (t := t) a5
  have c5 := fun sl up nx => t_mkSS t 16 n.mt.bits [i * 16 + 5] (A ++ ((mkRow5 n k0 k1 k2 k3 k4) ++ B)) k5 sl (upd m t (some (.row 16 (A ++ ((mkRow5 n k0 k1 k2 k3 k4) ++ B))))) up nx (upd_same _ _ _) (row_cell a5) (by omega) (by omega) sm.bits sm.bit
  rw [row_upd a5, row_set (j := 5) hA (by simp [mkRow5])] at c5
  have u5 : ((mkRow5 n k0 k1 k2 k3 k4)).set 5 (.sl n.mt.bits.length (mkSS k5 n.mt.bits)) = (mkRow6 n k0 k1 k2 k3 k4 k5) := rfl
  rw [u5, show kSS k5 n.mt.bits = k6 by rw [q5]; rfl] at c5
  have e6 : spl [.bool (k6.tmod 3 == 0)] (i * 16 + 6) (A ++ ((mkRow6 n k0 k1 k2 k3 k4 k5) ++ B)) = A ++ ((mkRow7 n k0 k1 k2 k3 k4 k5 k6) ++ B) := row_st (j := 6) hA (by simp [mkRow6])
  have n6 : i * 16 + 6 + 1 ≤ (A ++ ((mkRow6 n k0 k1 k2 k3 k4 k5) ++ B)).length := row_len (j := 6) hA (by simp [mkRow6])
  have w6 : IntKind.i64.wrap (k6 + 1) = k7 := by rw [q6, wrap_id (by omega) (by omega)]
  have e7 : spl [.bool (k7.tmod 3 == 0)] (i * 16 + 7) (A ++ ((mkRow7 n k0 k1 k2 k3 k4 k5 k6) ++ B)) = A ++ ((mkRow8 n k0 k1 k2 k3 k4 k5 k6 k7) ++ B) := row_st (j := 7) hA (by simp [mkRow7])
  have n7 : i * 16 + 7 + 1 ≤ (A ++ ((mkRow7 n k0 k1 k2 k3 k4 k5 k6) ++ B)).length := row_len (j := 7) hA (by simp [mkRow7])
  have w7 : IntKind.i64.wrap (k7 + 1) = k8 := by rw [q7, wrap_id (by omega) (by omega)]
  have e8 : spl [.bool (k8.tmod 3 == 0)] (i * 16 + 8) (A ++ ((mkRow8 n k0 k1 k2 k3 k4 k5 k6 k7) ++ B)) = A ++ ((mkRow9 n k0 k1 k2 k3 k4 k5 k6 k7 k8) ++ B) := row_st (j := 8) hA (by simp [mkRow8])
  have n8 : i * 16 + 8 + 1 ≤ (A ++ ((mkRow8 n k0 k1 k2 k3 k4 k5 k6 k7) ++ B)).length := row_len (j := 8) hA (by simp [mkRow8])
  have w8 : IntKind.i64.wrap (k8 + 1) = k9 := by rw [q8, wrap_id (by omega) (by omega)]
  have e9 : spl [.int .i64 k9] (i * 16 + 9) (A ++ ((mkRow9 n k0 k1 k2 k3 k4 k5 k6 k7 k8) ++ B)) = A ++ ((mkRow10 n k0 k1 k2 k3 k4 k5 k6 k7 k8 k9) ++ B) := row_st (j := 9) hA (by simp [mkRow9])
  have n9 : i * 16 + 9 + 1 ≤ (A ++ ((mkRow9 n k0 k1 k2 k3 k4 k5 k6 k7 k8) ++ B)).length := row_len (j := 9) hA (by simp [mkRow9])
  have w9 : IntKind.i64.wrap (k9 + 1) = k10 := by rw [q9, wrap_id (by omega) (by omega)]
  have a10 : (A ++ ((mkRow10 n k0 k1 k2 k3 k4 k5 k6 k7 k8 k9) ++ B))[i * 16 + 10]? = some (.sl n.sa.length (cl .u8 n.sa)) := by rw [row_at (j := 10) hA (by simp [mkRow10])]; rfl
  have r10 := row_read (t := t) a10
  have c10 := fun sl up nx => t_mkByteS t 16 n.sa.length [i * 16 + 10] (A ++ ((mkRow10 n k0 k1 k2 k3 k4 k5 k6 k7 k8 k9) ++ B)) (cl .u8 n.sa) k10 sl (upd m t (some (.row 16 (A ++ ((mkRow10 n k0 k1 k2 k3 k4 k5 k6 k7 k8 k9) ++ B))))) up nx (upd_same _ _ _) (row_cell a10) cl_length (by omega) (by omega) sm.sa
  rw [row_upd a10, row_set (j := 10) hA (by simp [mkRow10])] at c10
  have u10 : ((mkRow10 n k0 k1 k2 k3 k4 k5 k6 k7 k8 k9)).set 10 (.sl n.sa.length (mcF mfU k10 n.sa.length)) = (mkRow11 n k0 k1 k2 k3 k4 k5 k6 k7 k8 k9 k10) := rfl
  rw [u10, ← q10] at c10
  have a11 : (A ++ ((mkRow11 n k0 k1 k2 k3 k4 k5 k6 k7 k8 k9 k10) ++ B))[i * 16 + 11]? = some (.sl n.sb.length (cl .u8 n.sb)) := by rw [row_at (j := 11) hA (by simp [mkRow11])]; rfl
  have r11 := row_read (t := t) a11
  have c11 := fun sl up nx => t_mkByteS t 16 n.sb.length [i * 16 + 11] (A ++ ((mkRow11 n k0 k1 k2 k3 k4 k5 k6 k7 k8 k9 k10) ++ B)) (cl .u8 n.sb) k11 sl (upd m t (some (.row 16 (A ++ ((mkRow11 n k0 k1 k2 k3 k4 k5 k6 k7 k8 k9 k10) ++ B))))) up nx (upd_same _ _ _) (row_cell a11) cl_length (by omega) (by omega) sm.sb
  rw [row_upd a11, row_set (j := 11) hA (by simp [mkRow11])] at c11
  have u11 : ((mkRow11 n k0 k1 k2 k3 k4 k5 k6 k7 k8 k9 k10)).set 11 (.sl n.sb.length (mcF mfU k11 n.sb.length)) = (mkRow12 n k0 k1 k2 k3 k4 k5 k6 k7 k8 k9 k10 k11) := rfl
  rw [u11, ← q11] at c11
  have a12 : (A ++ ((mkRow12 n k0 k1 k2 k3 k4 k5 k6 k7 k8 k9 k10 k11) ++ B))[i * 16 + 12]? = some (.sl n.conn.length (cb n.conn)) := by rw [row_at (j := 12) hA (by simp [mkRow12])]; rfl
  have r12 := row_read (t := t) a12
  have c12 := fun sl up nx => t_mkBoolS t 16 n.conn.length [i * 16 + 12] (A ++ ((mkRow12 n k0 k1 k2 k3 k4 k5 k6 k7 k8 k9 k10 k11) ++ B)) (cb n.conn) k12 sl (upd m t (some (.row 16 (A ++ ((mkRow12 n k0 k1 k2 k3 k4 k5 k6 k7 k8 k9 k10 k11) ++ B))))) up nx (upd_same _ _ _) (row_cell a12) (by simp [cb]) (by omega) (by omega) sm.conn
  rw [row_upd a12, row_set (j := 12) hA (by simp [mkRow12])] at c12
  have u12 : ((mkRow12 n k0 k1 k2 k3 k4 k5 k6 k7 k8 k9 k10 k11)).set 12 (.sl n.conn.length (mcF mfB k12 n.conn.length)) = (mkRow13 n k0 k1 k2 k3 k4 k5 k6 k7 k8 k9 k10 k11 k12) := rfl
  rw [u12, ← q12] at c12
  have a13 : (A ++ ((mkRow13 n k0 k1 k2 k3 k4 k5 k6 k7 k8 k9 k10 k11 k12) ++ B))[i * 16 + 13]? = some (.sl n.sync.length (n.sync.map intsC)) := by rw [row_at (j := 13) hA (by simp [mkRow13])]; rfl
  have r13 := row_read (t := t) a13
  have c13 := fun sl up nx => t_mkSS t 16 n.sync [i * 16 + 13] (A ++ ((mkRow13 n k0 k1 k2 k3 k4 k5 k6 k7 k8 k9 k10 k11 k12) ++ B)) k13 sl (upd m t (some (.row 16 (A ++ ((mkRow13 n k0 k1 k2 k3 k4 k5 k6 k7 k8 k9 k10 k11 k12) ++ B))))) up nx (upd_same _ _ _) (row_cell a13) (by omega) (by omega) sm.sync sm.syn
  rw [row_upd a13, row_set (j := 13) hA (by simp [mkRow13])] at c13
  have u13 : ((mkRow13 n k0 k1 k2 k3 k4 k5 k6 k7 k8 k9 k10 k11 k12)).set 13 (.sl n.sync.length (mkSS k13 n.sync)) = (mkRow14 n k0 k1 k2 k3 k4 k5 k6 k7 k8 k9 k10 k11 k12 k13) := rfl
  rw [u13, show kSS k13 n.sync = k14 by rw [q13]; rfl] at c13
  have a14 : (A ++ ((mkRow14 n k0 k1 k2 k3 k4 k5 k6 k7 k8 k9 k10 k11 k12 k13) ++ B))[i * 16 + 14]? = some (.sl n.copies.length (cb n.copies)) := by rw [row_at (j := 14) hA (by simp [mkRow14])]; rfl
  have r14 := row_read (t := t) a14
  have c14 := fun sl up nx => t_mkBoolS t 16 n.copies.length [i * 16 + 14] (A ++ ((mkRow14 n k0 k1 k2 k3 k4 k5 k6 k7 k8 k9 k10 k11 k12 k13) ++ B)) (cb n.copies) k14 sl (upd m t (some (.row 16 (A ++ ((mkRow14 n k0 k1 k2 k3 k4 k5 k6 k7 k8 k9 k10 k11 k12 k13) ++ B))))) up nx (upd_same _ _ _) (row_cell a14) (by simp [cb]) (by omega) (by omega) sm.copies
  rw [row_upd a14, row_set (j := 14) hA (by simp [mkRow14])] at c14
  have u14 : ((mkRow14 n k0 k1 k2 k3 k4 k5 k6 k7 k8 k9 k10 k11 k12 k13)).set 14 (.sl n.copies.length (mcF mfB k14 n.copies.length)) = (mkRow15 n k0 k1 k2 k3 k4 k5 k6 k7 k8 k9 k10 k11 k12 k13 k14) := rfl
  rw [u14, ← q14] at c14
  have a15 : (A ++ ((mkRow15 n k0 k1 k2 k3 k4 k5 k6 k7 k8 k9 k10 k11 k12 k13 k14) ++ B))[i * 16 + 15]? = some (.sl n.wait.length (cl .i64 n.wait)) := by rw [row_at (j := 15) hA (by simp [mkRow15])]; rfl
  have r15 := row_read (t := t) a15
  have c15 := fun sl up nx => t_mkIntS t 16 n.wait.length [i * 16 + 15] (A ++ ((mkRow15 n k0 k1 k2 k3 k4 k5 k6 k7 k8 k9 k10 k11 k12 k13 k14) ++ B)) (cl .i64 n.wait) k15 sl (upd m t (some (.row 16 (A ++ ((mkRow15 n k0 k1 k2 k3 k4 k5 k6 k7 k8 k9 k10 k11 k12 k13 k14) ++ B))))) up nx (upd_same _ _ _) (row_cell a15) cl_length (by omega) (by omega) sm.wait
  rw [row_upd a15, row_set (j := 15) hA (by simp [mkRow15])] at c15
  have u15 : ((mkRow15 n k0 k1 k2 k3 k4 k5 k6 k7 k8 k9 k10 k11 k12 k13 k14)).set 15 (.sl n.wait.length (mcF mfI k15 n.wait.length)) = (mkRow16 n k0 k1 k2 k3 k4 k5 k6 k7 k8 k9 k10 k11 k12 k13 k14 k15) := rfl
  rw [u15, ← q15] at c15
  generalize A ++ ((mkRow0 n) ++ B) = R0 at *
  generalize A ++ ((mkRow1 n k0) ++ B) = R1 at *
  generalize A ++ ((mkRow2 n k0 k1) ++ B) = R2 at *
  generalize A ++ ((mkRow3 n k0 k1 k2) ++ B) = R3 at *
  generalize A ++ ((mkRow4 n k0 k1 k2 k3) ++ B) = R4 at *
  generalize A ++ ((mkRow5 n k0 k1 k2 k3 k4) ++ B) = R5 at *
  generalize A ++ ((mkRow6 n k0 k1 k2 k3 k4 k5) ++ B) = R6 at *
  generalize A ++ ((mkRow7 n k0 k1 k2 k3 k4 k5 k6) ++ B) = R7 at *
  generalize A ++ ((mkRow8 n k0 k1 k2 k3 k4 k5 k6 k7) ++ B) = R8 at *
  generalize A ++ ((mkRow9 n k0 k1 k2 k3 k4 k5 k6 k7 k8) ++ B) = R9 at *
  generalize A ++ ((mkRow10 n k0 k1 k2 k3 k4 k5 k6 k7 k8 k9) ++ B) = R10 at *
  generalize A ++ ((mkRow11 n k0 k1 k2 k3 k4 k5 k6 k7 k8 k9 k10) ++ B) = R11 at *
  generalize A ++ ((mkRow12 n k0 k1 k2 k3 k4 k5 k6 k7 k8 k9 k10 k11) ++ B) = R12 at *
  generalize A ++ ((mkRow13 n k0 k1 k2 k3 k4 k5 k6 k7 k8 k9 k10 k11 k12) ++ B) = R13 at *
  generalize A ++ ((mkRow14 n k0 k1 k2 k3 k4 k5 k6 k7 k8 k9 k10 k11 k12 k13) ++ B) = R14 at *
  generalize A ++ ((mkRow15 n k0 k1 k2 k3 k4 k5 k6 k7 k8 k9 k10 k11 k12 k13 k14) ++ B) = R15 at *
  generalize A ++ ((mkRow16 n k0 k1 k2 k3 k4 k5 k6 k7 k8 k9 k10 k11 k12 k13 k14 k15) ++ B) = R16 at *
  clear a3 a4 a5 a10 a11 a12 a13 a14 a15 u3 u4 u5 u10 u11 u12 u13 u14 u15 q0 q1 q2 q3 q4 q5 q6 q7 q8 q9 q10 q11 q12 q13 q14 q15
  simp (maxSteps := 4000000) -implicitDefEqProofs [b32_0, List.take, List.drop, effOp2, effOp, memL_app, getAll, stoRow, toCells, toCell, scalar_int, scalar_bool, cellsAt, updAt, upd_same, upd_upd, h1, h4, hi, e0, n0, w0, e1, n1, w1, e2, n2, w2, r3, c3, r4, c4, r5, c5, e6, n6, w6, e7, n7, w7, e8, n8, w8, e9, n9, w9, r10, c10, r11, c11, r12, c12, r13, c13, r14, c14, r15, c15, -Int.natCast_add]
  change _ = _
  kernel_rfl
def S_mkN (t : Nat) (l : List PNode) (k : Int) (m : Mem) (up : List SV) (nx : Nat) (i : Nat) : XS := ⟨⟨[.v false [.sl t [] 0 l.length], .v false [.int .i64 ((kL cN k (l.take i)))], .bad, .bad, .bad, .v false [.int .i64 (i)], .bad, .bad, .bad, .bad, .bad, .bad, .bad, .bad, .bad, .bad, .bad, .bad, .bad, .bad, .bad, .bad, .bad, .bad, .bad, .bad, .bad, .bad, .bad, .bad, .bad, .bad, .bad, .bad, .bad, .bad, .bad, .bad, .bad, .bad, .bad, .bad, .bad, .bad, .bad, .bad, .bad, .bad, .bad, .bad, .bad, .bad, .bad, .bad, .bad, .bad, .bad, .bad, .bad, .bad, .bad, .bad, .bad, .bad, .bad, .bad, .bad, .bad, .bad, .bad, .bad, .bad, .bad, .bad, .bad, .bad, .bad, .bad, .bad, .bad, .bad, .bad, .bad, .bad, .bad, .bad, .bad, .bad, .bad, .bad, .bad, .bad, .bad, .bad, .bad, .bad, .bad, .bad, .bad, .bad, .bad, .bad, .bad, .bad, .bad, .bad, .bad, .bad, .bad, .bad, .bad, .bad, .bad, .bad, .bad, .bad, .bad, .bad, .bad, .bad, .bad, .bad, .bad, .bad, .bad, .bad, .bad, .bad, .bad, .bad, .bad, .bad, .bad, .bad, .bad, .bad, .bad, .bad, .bad, .bad, .bad, .bad, .bad], upd m t (some (.row 16 (mid mkN cN nodeC k l i))), up⟩, nx⟩
def Z_mkN (t : Nat) (l : List PNode) (k : Int) (m : Mem) (up : List SV) (nx : Nat) : XS := ⟨⟨[.bad, .v false [.int .i64 ((kL cN k l))], .bad, .bad, .bad, .bad, .bad, .bad, .bad, .bad, .bad, .bad, .bad, .bad, .bad, .bad, .bad, .bad, .bad, .bad, .bad, .bad, .bad, .bad, .bad, .bad, .bad, .bad, .bad, .bad, .bad, .bad, .bad, .bad, .bad, .bad, .bad, .bad, .bad, .bad, .bad, .bad, .bad, .bad, .bad, .bad, .bad, .bad, .bad, .bad, .bad, .bad, .bad, .bad, .bad, .bad, .bad, .bad, .bad, .bad, .bad, .bad, .bad, .bad, .bad, .bad, .bad, .bad, .bad, .bad, .bad, .bad, .bad, .bad, .bad, .bad, .bad, .bad, .bad, .bad, .bad, .bad, .bad, .bad, .bad, .bad, .bad, .bad, .bad, .bad, .bad, .bad, .bad, .bad, .bad, .bad, .bad, .bad, .bad, .bad, .bad, .bad, .bad, .bad, .bad, .bad, .bad, .bad, .bad, .bad, .bad, .bad, .bad, .bad, .bad, .bad, .bad, .bad, .bad, .bad, .bad, .bad, .bad, .bad, .bad, .bad, .bad, .bad, .bad, .bad, .bad, .bad, .bad, .bad, .bad, .bad, .bad, .bad, .bad, .bad, .bad, .bad, .bad], upd m t (some (.row 16 (mkL mkN cN k l))), up⟩, nx + 256⟩
theorem loop_mkN (t : Nat) (l : List PNode) (k : Int) (m : Mem) (up : List SV) (nx : Nat) (hk : 0 ≤ k) (hk2 : kL cN k l ≤ 1000000000) (hn : l.length ≤ 1048576) (hl : ∀ x ∈ l, SmN x) {x : XS} (hx : head false d32_0 x = S_mkN t l k m up nx 0) : X tab l32_0 x = some (.exit 0, Z_mkN t l k m up nx) := by
  refine loopF l.length (S_mkN t l k m up nx) _ (by simp) (fun i hi => ?_) ?_ (Nat.zero_le _) hx
  · obtain ⟨n, r, hd⟩ : ∃ y r, l.drop i = y :: r := ⟨_, _, List.drop_eq_getElem_cons hi⟩
    obtain ⟨A, B, hA, h0, hN, hk', hkb, hka⟩ := mid_at (mk := mkN) (c := cN) (lay := nodeC) (k := k) (z := 16) (fun _ _ => rfl) hd
    have sm := hl n (dropx_mem hd)
    have h1 : (0 ≤ (i : Int) ∧ (i : Int) < (l.length : Int)) := by omega
    have h4 : IntKind.i64.wrap ((i : Int) + 1) = ((i + 1 : Nat) : Int) := by rw [wrap_id (by omega) (by omega)]; omega
    simp only [S_mkN, hN, h0, hk']
    generalize kL cN k (l.take i) = k0 at *
    have h16 := mkN_next k0 n
    have := step_mkN t l.length i n A B m up nx k0 (kN1 k0 n) (kN2 k0 n) (kN3 k0 n) (kN4 k0 n) (kN5 k0 n) (kN6 k0 n) (kN7 k0 n) (kN8 k0 n) (kN9 k0 n) (kN10 k0 n) (kN11 k0 n) (kN12 k0 n) (kN13 k0 n) (kN14 k0 n) (kN15 k0 n) (kN16 k0 n) hA sm hi hn (by omega) (by rw [h16]; omega) rfl rfl rfl rfl rfl rfl rfl rfl rfl rfl rfl rfl rfl rfl rfl rfl
    rw [h16] at this
    exact this
  · simp only [S_mkN, mid_all, List.take_length]
    simp (maxSteps := 4000000) -implicitDefEqProofs [b32_0, List.take, List.drop]
    change _ = _
    kernel_rfl
theorem t_mkN (t : Nat) (l : List PNode) (k : Int) (sl : List SV) (m : Mem) (up : List SV) (nx : Nat) (hm : m t = some (.row 16 (nodesC l))) (hk : 0 ≤ k) (hk2 : kL cN k l ≤ 1000000000) (hn : l.length ≤ 1048576) (hl : ∀ x ∈ l, SmN x) :
    runThru (X tab) tab 32 [.v false [.sl t [] 0 l.length], .v false [.int .i64 k]] ⟨⟨sl, m, up⟩, nx⟩ = some (.v false [.int .i64 (kL cN k l)], ⟨⟨sl, upd m t (some (.row 16 (mkL mkN cN k l))), up⟩, nx + 512⟩) := by
  unfold runThru
  simp (maxSteps := 4000000) -implicitDefEqProofs [tab32, a32, List.take, List.drop]
  rw [loop_mkN t l k m (sl ++ up) (nx + 128) hk hk2 hn hl (by
    have e : mid mkN cN nodeC k l 0 = nodesC l := mid_zero
    simp only [S_mkN, e, kL_zero, upd_self hm, Int.ofNat_zero]
    change _ = _
    kernel_rfl)]
  simp (maxSteps := 4000000) -implicitDefEqProofs [Z_mkN, List.take, List.drop, resOf, resSV]

def mkWire (k : Int) (x : PWire) : List Cell := [mfI k, mfI (k + 1), .sl x.bytes.length (mcF mfU (k + 2) x.bytes.length)]
def cWire (x : PWire) : Nat := 2 + x.bytes.length
def S_mkWire (t : Nat) (l : List PWire) (k : Int) (m : Mem) (up : List SV) (nx : Nat) (i : Nat) : XS := ⟨⟨[.v false [.sl t [] 0 l.length], .v false [.int .i64 ((kL cWire k (l.take i)))], .bad, .bad, .bad, .v false [.int .i64 (i)], .bad, .bad, .bad, .bad, .bad, .bad, .bad, .bad, .bad, .bad, .bad, .bad, .bad, .bad, .bad, .bad, .bad, .bad, .bad, .bad, .bad, .bad, .bad, .bad, .bad, .bad, .bad, .bad], upd m t (some (.row 3 (mid mkWire cWire wireC k l i))), up⟩, nx⟩
def Z_mkWire (t : Nat) (l : List PWire) (k : Int) (m : Mem) (up : List SV) (nx : Nat) : XS := ⟨⟨[.bad, .v false [.int .i64 ((kL cWire k l))], .bad, .bad, .bad, .bad, .bad, .bad, .bad, .bad, .bad, .bad, .bad, .bad, .bad, .bad, .bad, .bad, .bad, .bad, .bad, .bad, .bad, .bad, .bad, .bad, .bad, .bad, .bad, .bad, .bad, .bad, .bad, .bad], upd m t (some (.row 3 (mkL mkWire cWire k l))), up⟩, nx + 256⟩
theorem loop_mkWire (t : Nat) (l : List PWire) (k : Int) (m : Mem) (up : List SV) (nx : Nat) (hk : 0 ≤ k) (hk2 : kL cWire k l ≤ 1000000000) (hn : l.length ≤ 1048576) (hl : ∀ x ∈ l, x.bytes.length ≤ 1048576) {x : XS} (hx : head false d33_0 x = S_mkWire t l k m up nx 0) : X tab l33_0 x = some (.exit 0, Z_mkWire t l k m up nx) := by
  refine loopF l.length (S_mkWire t l k m up nx) _ (by simp) (fun i hi => ?_) ?_ (Nat.zero_le _) hx
  · obtain ⟨y, r, hd⟩ : ∃ y r, l.drop i = y :: r := ⟨_, _, List.drop_eq_getElem_cons hi⟩
    obtain ⟨A, B, hA, h0, hN, hk', hkb, hka⟩ := mid_at (mk := mkWire) (c := cWire) (lay := wireC) (k := k) (z := 3) (fun _ _ => rfl) hd
    have hy := hl y (dropx_mem hd)
    have h1 : (0 ≤ (i : Int) ∧ (i : Int) < (l.length : Int)) := by omega
    have h4 : IntKind.i64.wrap ((i : Int) + 1) = ((i + 1 : Nat) : Int) := by rw [wrap_id (by omega) (by omega)]; omega
    simp only [S_mkWire, hN, h0, hk']
    simp only [cWire] at hkb ⊢
    generalize kL cWire k (l.take i) = k0 at *
    have w0 : IntKind.i64.wrap (k0 + 1) = k0 + 1 := wrap_id (by omega) (by omega)
    have w1 : IntKind.i64.wrap (k0 + 1 + 1) = k0 + 2 := by rw [wrap_id (by omega) (by omega)]; omega
    have w2 : k0 + 2 + (y.bytes.length : Int) = k0 + ((2 + y.bytes.length : Nat) : Int) := by omega
    simp only [wireC, bytesC, mkWire, mfI]
    have e0 := row_st (A := A) (B := B) (C := [.int .i64 y.src, .int .i64 y.dst, .sl y.bytes.length (cl .u8 y.bytes)]) (j := 0) (c := .int .i64 k0) hA (by simp)
    have e1 := row_st (A := A) (B := B) (C := [.int .i64 k0, .int .i64 y.dst, .sl y.bytes.length (cl .u8 y.bytes)]) (j := 1) (c := .int .i64 (k0 + 1)) hA (by simp)
    have n0 := row_len (A := A) (B := B) (C := [.int .i64 y.src, .int .i64 y.dst, .sl y.bytes.length (cl .u8 y.bytes)]) (j := 0) hA (by simp)
    have n1 := row_len (A := A) (B := B) (C := [.int .i64 k0, .int .i64 y.dst, .sl y.bytes.length (cl .u8 y.bytes)]) (j := 1) hA (by simp)
    have a2 : (A ++ ([.int .i64 k0, .int .i64 (k0 + 1), .sl y.bytes.length (cl .u8 y.bytes)] ++ B))[i * 3 + 2]? = some (.sl y.bytes.length (cl .u8 y.bytes)) := by rw [row_at (j := 2) hA (by simp)]; rfl
    have r2 := row_read (t := t) a2
    have c2 := fun sl up nx => t_mkByteS t 3 y.bytes.length [i * 3 + 2] (A ++ ([.int .i64 k0, .int .i64 (k0 + 1), .sl y.bytes.length (cl .u8 y.bytes)] ++ B)) (cl .u8 y.bytes) (k0 + 2) sl (upd m t (some (.row 3 (A ++ ([.int .i64 k0, .int .i64 (k0 + 1), .sl y.bytes.length (cl .u8 y.bytes)] ++ B))))) up nx (upd_same _ _ _) (row_cell a2) cl_length (by omega) (by omega) hy
    rw [row_upd a2, row_set (j := 2) hA (by simp), w2] at c2
    simp only [List.set_cons_zero, List.set_cons_succ, Nat.add_zero] at e0 e1 n0 n1 c2
    generalize A ++ ([.int .i64 y.src, .int .i64 y.dst, .sl y.bytes.length (cl .u8 y.bytes)] ++ B) = R0 at *
    generalize A ++ ([.int .i64 k0, .int .i64 y.dst, .sl y.bytes.length (cl .u8 y.bytes)] ++ B) = R1 at *
    generalize A ++ ([.int .i64 k0, .int .i64 (k0 + 1), .sl y.bytes.length (cl .u8 y.bytes)] ++ B) = R2 at *
    generalize A ++ ([.int .i64 k0, .int .i64 (k0 + 1), .sl y.bytes.length (mcF mfU (k0 + 2) y.bytes.length)] ++ B) = R3 at *
    generalize k0 + ((2 + y.bytes.length : Nat) : Int) = k3 at *
    generalize k0 + 2 = k2 at *
    simp (maxSteps := 4000000) -implicitDefEqProofs [b33_0, List.take, List.drop, effOp2, effOp, memL_app, getAll, stoRow, toCells, toCell, scalar_int, scalar_bool, cellsAt, updAt, upd_same, upd_upd, h1, h4, w0, w1, w2, e0, e1, n0, n1, r2, c2, hi, -Int.natCast_add]
    change _ = _
    kernel_rfl
  · simp only [S_mkWire, mid_all, List.take_length]
    simp (maxSteps := 4000000) -implicitDefEqProofs [b33_0, List.take, List.drop]
    change _ = _
    kernel_rfl
theorem t_mkWire (t : Nat) (l : List PWire) (k : Int) (sl : List SV) (m : Mem) (up : List SV) (nx : Nat) (hm : m t = some (.row 3 (wiresC l))) (hk : 0 ≤ k) (hk2 : kL cWire k l ≤ 1000000000) (hn : l.length ≤ 1048576) (hl : ∀ x ∈ l, x.bytes.length ≤ 1048576) :
    runThru (X tab) tab 33 [.v false [.sl t [] 0 l.length], .v false [.int .i64 k]] ⟨⟨sl, m, up⟩, nx⟩ = some (.v false [.int .i64 (kL cWire k l)], ⟨⟨sl, upd m t (some (.row 3 (mkL mkWire cWire k l))), up⟩, nx + 512⟩) := by
  unfold runThru
  simp (maxSteps := 4000000) -implicitDefEqProofs [tab33, a33, List.take, List.drop]
  rw [loop_mkWire t l k m (sl ++ up) (nx + 128) hk hk2 hn hl (by
    have e : mid mkWire cWire wireC k l 0 = wiresC l := mid_zero
    simp only [S_mkWire, e, kL_zero, upd_self hm, Int.ofNat_zero]
    change _ = _
    kernel_rfl)]
  simp (maxSteps := 4000000) -implicitDefEqProofs [Z_mkWire, List.take, List.drop, resOf, resSV]
/-! A world's marks. -/
def kW (k : Int) (w : PWorld) : Int := kL cRec (kL cWire (kL cN k w.nodes) w.net) w.log + w.safe.length
theorem kL_le {α : Type} (c : α → Nat) (k : Int) (l : List α) : k ≤ kL c k l := by unfold kL; omega
theorem sum_le {α : Type} {f g : α → Nat} {b : Nat} {l : List α} (h : ∀ x ∈ l, f x ≤ g x + b) : (l.map f).sum ≤ (l.map g).sum + l.length * b := by
  induction l with
  | nil => simp
  | cons x r ih =>
    have h1 := h x List.mem_cons_self
    have h2 := ih fun y hy => h y (List.mem_cons_of_mem _ hy)
    simp only [List.map_cons, List.sum_cons, List.length_cons, Nat.succ_mul]
    omega
theorem upd_ne {m : Mem} {t u : Nat} {x : Option Ob} (h : u ≠ t) : upd m t x u = m u := by simp [upd, h]
/-- The memory behind the marks of a world whose rows are tn, tx, tl, ts. -/
def memW (w : PWorld) (k : Int) (tn tx tl ts : Nat) (m : Mem) : Mem :=
  upd (upd (upd (upd m tn (some (.row 16 (mkL mkN cN k w.nodes)))) tx (some (.row 3 (mkL mkWire cWire (kL cN k w.nodes) w.net)))) tl (some (.row 2 (mkL mkRec cRec (kL cWire (kL cN k w.nodes) w.net) w.log)))) ts (some (.row 1 (mcF mfI (kL cRec (kL cWire (kL cN k w.nodes) w.net) w.log) w.safe.length)))
theorem t_markWorld (w : PWorld) (hs : SmW w) (k : Int) (hk : 0 ≤ k) (hkw : kW k w ≤ 1000000000) (tn tx tl ts : Nat) (g : A1) (sl : List SV) (m : Mem) (up : List SV) (nx : Nat) (hn : m tn = some (.row 16 (nodesC w.nodes))) (hx : m tx = some (.row 3 (wiresC w.net))) (hl : m tl = some (.row 2 (recsC w.log))) (hsa : m ts = some (.row 1 (cl .i64 w.safe)))
    (d1 : tn ≠ tx) (d2 : tn ≠ tl) (d3 : tn ≠ ts) (d4 : tx ≠ tl) (d5 : tx ≠ ts) (d6 : tl ≠ ts) (h0 : m nx = none) :
    runThru (X tab) tab 10 [.v true [.sl tn [] 0 w.nodes.length, .sl tx [] 0 w.net.length, .sl tl [] 0 w.log.length, .sl ts [] 0 w.safe.length, g], .v false [.int .i64 k]] ⟨⟨sl, m, up⟩, nx⟩ = some (.v false [.int .i64 (kW k w)], ⟨⟨sl, memW w k tn tx tl ts (upd m nx (some (.box [.sl tn [] 0 w.nodes.length, .sl tx [] 0 w.net.length, .sl tl [] 0 w.log.length, .sl ts [] 0 w.safe.length, g]))), up⟩, nx + 3584⟩) := by
  have b1 : nx ≠ tn := fun h => by rw [h, hn] at h0; cases h0
  have b2 : nx ≠ tx := fun h => by rw [h, hx] at h0; cases h0
  have b3 : nx ≠ tl := fun h => by rw [h, hl] at h0; cases h0
  have b4 : nx ≠ ts := fun h => by rw [h, hsa] at h0; cases h0
  have k1 := kL_le cN k w.nodes
  have k2 := kL_le cWire (kL cN k w.nodes) w.net
  have k3 := kL_le cRec (kL cWire (kL cN k w.nodes) w.net) w.log
  unfold kW memW
  unfold kW at hkw
  generalize hbx : some (Ob.box [A1.sl tn [] 0 w.nodes.length, .sl tx [] 0 w.net.length, .sl tl [] 0 w.log.length, .sl ts [] 0 w.safe.length, g]) = bx
  have c1 := fun sl up nz => t_mkN tn w.nodes k sl (upd m nx bx) up nz (by rw [upd_ne (Ne.symm b1), hn]) hk (by omega) hs.nodes hs.node
  generalize mkL mkN cN k w.nodes = r1 at *
  generalize kL cN k w.nodes = ka at *
  have c2 := fun sl up nz => t_mkWire tx w.net ka sl (upd (upd m nx bx) tn (some (.row 16 r1))) up nz (by rw [upd_ne (Ne.symm d1), upd_ne (Ne.symm b2), hx]) (by omega) (by omega) hs.net hs.wire
  generalize mkL mkWire cWire ka w.net = r2 at *
  generalize kL cWire ka w.net = kb at *
  have c3 := fun sl up nz => t_mkRec tl w.log kb sl (upd (upd (upd m nx bx) tn (some (.row 16 r1))) tx (some (.row 3 r2))) up nz (by rw [upd_ne (Ne.symm d4), upd_ne (Ne.symm d2), upd_ne (Ne.symm b3), hl]) (by omega) (by omega) hs.log
  generalize mkL mkRec cRec kb w.log = r3 at *
  generalize kL cRec kb w.log = kc at *
  have c4 := fun sl up nz => t_mkIntS ts 1 w.safe.length [] (cl .i64 w.safe) (cl .i64 w.safe) kc sl (upd (upd (upd (upd m nx bx) tn (some (.row 16 r1))) tx (some (.row 3 r2))) tl (some (.row 2 r3))) up nz (by rw [upd_ne (Ne.symm d6), upd_ne (Ne.symm d5), upd_ne (Ne.symm d3), upd_ne (Ne.symm b4), hsa]) rfl cl_length (by omega) (by omega) hs.safe
  simp only [updAt] at c4
  unfold runThru
  simp (maxSteps := 4000000) -implicitDefEqProofs [tab10, a10, List.take, List.drop, effOp2, effOp, memL_app, getAll, cellsAt, h0, hbx, upd_same, upd_ne, b1, b2, b3, b4, c1, c2, c3, c4]
  subst hbx
  simp (maxSteps := 4000000) -implicitDefEqProofs [tab10, a10, List.take, List.drop, effOp2, effOp, memL_app, getAll, cellsAt, upd_same, upd_ne, b1, b2, b3, b4, c1, c2, c3, c4, resOf, resSV]

theorem r_szWorld (x : PWorld) (hz : WfW x) (left : Int) (h0 : 0 ≤ left) (h1 : left ≤ 1048576) : runRO (X tab) tab 4 [.v true (worldA x), .v false [.int .i64 left]] = some (.v false [.int .i64 (szT left (x.nodes.length + (x.nodes.map totN).sum + (x.net.length + (x.net.map totX).sum + (x.log.length + (x.safe.length)))))], []) := by
  unfold runRO
  have q1 := r_szNodeS x.nodes hz.sN hz.szN (left) (by omega) (by omega)
  by_cases c1 : left < ((x.nodes.length + (x.nodes.map totN).sum : Nat) : Int)
  · rw [szT_neg c1] at q1
    rw [szT_neg (show left < ((x.nodes.length + (x.nodes.map totN).sum + (x.net.length + (x.net.map totX).sum + (x.log.length + (x.safe.length))) : Nat) : Int) by omega)]
    simp only [worldA] at *
    simp (maxSteps := 4000000) -implicitDefEqProofs [tab4, a4, List.take, List.drop, upd, List.range, List.range.loop, memL, q1, -Int.natCast_add]
  · rw [szT_pos c1] at q1
    have n1 : ¬ left - ((x.nodes.length + (x.nodes.map totN).sum : Nat) : Int) < 0 := by omega
    rw [← szT_add c1]
    have q2 := r_szWireS x.net hz.sX hz.szX (left - ((x.nodes.length + (x.nodes.map totN).sum : Nat) : Int)) (by omega) (by omega)
    by_cases c2 : left - ((x.nodes.length + (x.nodes.map totN).sum : Nat) : Int) < ((x.net.length + (x.net.map totX).sum : Nat) : Int)
    · rw [szT_neg c2] at q2
      rw [szT_neg (show left - ((x.nodes.length + (x.nodes.map totN).sum : Nat) : Int) < ((x.net.length + (x.net.map totX).sum + (x.log.length + (x.safe.length)) : Nat) : Int) by omega)]
      simp only [worldA] at *
      simp (maxSteps := 4000000) -implicitDefEqProofs [tab4, a4, List.take, List.drop, upd, List.range, List.range.loop, memL, q1, n1, q2, -Int.natCast_add]
    · rw [szT_pos c2] at q2
      have n2 : ¬ left - ((x.nodes.length + (x.nodes.map totN).sum : Nat) : Int) - ((x.net.length + (x.net.map totX).sum : Nat) : Int) < 0 := by omega
      rw [← szT_add c2]
      have q3 := r_szRecS x.log.length (recsC x.log) (left - ((x.nodes.length + (x.nodes.map totN).sum : Nat) : Int) - ((x.net.length + (x.net.map totX).sum : Nat) : Int)) (by omega) (by omega) (by have := hz.sL; simp only [Sz, maxLen] at this; omega)
      by_cases c3 : left - ((x.nodes.length + (x.nodes.map totN).sum : Nat) : Int) - ((x.net.length + (x.net.map totX).sum : Nat) : Int) < ((x.log.length : Nat) : Int)
      · rw [szT_neg c3] at q3
        rw [szT_neg (show left - ((x.nodes.length + (x.nodes.map totN).sum : Nat) : Int) - ((x.net.length + (x.net.map totX).sum : Nat) : Int) < ((x.log.length + (x.safe.length) : Nat) : Int) by omega)]
        simp only [worldA] at *
        simp (maxSteps := 4000000) -implicitDefEqProofs [tab4, a4, List.take, List.drop, upd, List.range, List.range.loop, memL, q1, n1, q2, n2, q3, -Int.natCast_add]
      · rw [szT_pos c3] at q3
        have n3 : ¬ left - ((x.nodes.length + (x.nodes.map totN).sum : Nat) : Int) - ((x.net.length + (x.net.map totX).sum : Nat) : Int) - ((x.log.length : Nat) : Int) < 0 := by omega
        rw [← szT_add c3]
        have q4 := r_szIntS x.safe.length (cl .i64 x.safe) (left - ((x.nodes.length + (x.nodes.map totN).sum : Nat) : Int) - ((x.net.length + (x.net.map totX).sum : Nat) : Int) - ((x.log.length : Nat) : Int)) (by omega) (by omega) (by have := hz.sS; simp only [Sz, maxLen] at this; omega)
        by_cases c4 : left - ((x.nodes.length + (x.nodes.map totN).sum : Nat) : Int) - ((x.net.length + (x.net.map totX).sum : Nat) : Int) - ((x.log.length : Nat) : Int) < ((x.safe.length : Nat) : Int)
        · rw [szT_neg c4] at q4
          rw [szT_neg (show left - ((x.nodes.length + (x.nodes.map totN).sum : Nat) : Int) - ((x.net.length + (x.net.map totX).sum : Nat) : Int) - ((x.log.length : Nat) : Int) < ((x.safe.length : Nat) : Int) by omega)]
          simp only [worldA] at *
          simp (maxSteps := 4000000) -implicitDefEqProofs [tab4, a4, List.take, List.drop, upd, List.range, List.range.loop, memL, q1, n1, q2, n2, q3, n3, q4, -Int.natCast_add]
        · rw [szT_pos c4] at q4
          have n4 : ¬ left - ((x.nodes.length + (x.nodes.map totN).sum : Nat) : Int) - ((x.net.length + (x.net.map totX).sum : Nat) : Int) - ((x.log.length : Nat) : Int) - ((x.safe.length : Nat) : Int) < 0 := by omega
          rw [szT_pos c4]
          simp only [worldA] at *
          simp (maxSteps := 4000000) -implicitDefEqProofs [tab4, a4, List.take, List.drop, upd, List.range, List.range.loop, memL, q1, n1, q2, n2, q3, n3, q4, n4, -Int.natCast_add]
end Go.Proofs.YtbdokibepndibaaGreat.Eng.C
