/- The laws' own functions over worlds, fifth part: marks, wherever the rows lie. -/
import Derived.Test.YtbdokibepndibaaBW4
namespace Go.Proofs.Ytbdokibepndibaa.Eng.B
set_option linter.unusedSimpArgs false
set_option linter.unusedVariables false
set_option maxHeartbeats 16000000
set_option maxRecDepth 100000
open Go.RowKit Go.Proofs

theorem cellsAt_updAt {f : List Cell → List Cell} : ∀ {p : List Nat} {cs ns : List Cell}, cellsAt cs p = some ns → cellsAt (updAt f cs p) p = some (f ns) := by
  intro p
  induction p with
  | nil => intro cs ns h; cases h; rfl
  | cons i p ih =>
    intro cs ns h
    simp only [cellsAt] at h
    cases hi : cs[i]? with
    | none => rw [hi] at h; cases h
    | some c =>
      rw [hi] at h
      cases c with
      | sl n ms =>
        simp only at h
        have hlt := (List.getElem?_eq_some_iff.1 hi).1
        simp only [updAt, hi, cellsAt, List.getElem?_set_self hlt]
        exact ih h
      | _ => cases h
theorem updAt_updAt {f g : List Cell → List Cell} : ∀ {p : List Nat} {cs ns : List Cell}, cellsAt cs p = some ns → updAt g (updAt f cs p) p = updAt (fun x => g (f x)) cs p := by
  intro p
  induction p with
  | nil => intro cs ns h; rfl
  | cons i p ih =>
    intro cs ns h
    simp only [cellsAt] at h
    cases hi : cs[i]? with
    | none => rw [hi] at h; cases h
    | some c =>
      rw [hi] at h
      cases c with
      | sl n ms =>
        simp only at h
        have hlt := (List.getElem?_eq_some_iff.1 hi).1
        simp only [updAt, hi, List.getElem?_set_self hlt]
        rw [ih h, List.set_set]
      | _ => cases h
theorem updAt_self : ∀ {p : List Nat} {cs ns : List Cell}, cellsAt cs p = some ns → updAt (fun _ => ns) cs p = cs := by
  intro p
  induction p with
  | nil => intro cs ns h; cases h; rfl
  | cons i p ih =>
    intro cs ns h
    simp only [cellsAt] at h
    cases hi : cs[i]? with
    | none => rw [hi] at h; cases h
    | some c =>
      rw [hi] at h
      cases c with
      | sl n ms =>
        simp only at h
        obtain ⟨hlt, hc⟩ := List.getElem?_eq_some_iff.1 hi
        simp only [updAt, hi]
        rw [ih h, ← hc, List.set_getElem_self]
      | _ => cases h
/-- Marks. -/
def mcF (f : Int → Cell) (k : Int) (n : Nat) : List Cell := (List.range n).map fun (i : Nat) => f (k + i)
def mfI (k : Int) : Cell := .int .i64 k
def mfU (k : Int) : Cell := .int .u8 (IntKind.u8.wrap k)
def mfB (k : Int) : Cell := .bool (k.tmod 3 == 0)
theorem mcF_len {f : Int → Cell} {k : Int} {n : Nat} : (mcF f k n).length = n := by simp [mcF]
theorem mcF_next {f : Int → Cell} {k : Int} {i : Nat} {cs : List Cell} (h : i < cs.length) : spl [f (k + i)] i (mcF f k i ++ cs.drop i) = mcF f k (i + 1) ++ cs.drop (i + 1) := by
  unfold spl
  rw [List.take_append_of_le_length (by rw [mcF_len]; exact Nat.le_refl _), List.take_of_length_le (by rw [mcF_len]; exact Nat.le_refl _), List.drop_append, List.drop_of_length_le (by rw [mcF_len]; simp), mcF_len]
  have e : i + [f (k + ↑i)].length - i = 1 := by simp
  rw [e, List.drop_drop, List.nil_append]
  unfold mcF
  rw [List.range_succ, List.map_append]
  simp
def S_mkIntS (t z n : Nat) (p : List Nat) (cs c0 : List Cell) (k : Int) (m : Mem) (up : List SV) (nx : Nat) (i : Nat) : XS := ⟨⟨[.v false [.sl t p 0 n], .v false [.int .i64 ((k + i))], .bad, .bad, .bad, .v false [.int .i64 (i)], .bad, .bad, .bad, .bad, .bad, .bad, .bad, .bad, .bad, .bad, .bad, .bad, .bad], upd m t (some (.row z (updAt (fun _ => mcF mfI k i ++ c0.drop i) cs p))), up⟩, nx⟩
def Z_mkIntS (t z n : Nat) (p : List Nat) (cs : List Cell) (k : Int) (m : Mem) (up : List SV) (nx : Nat) : XS := ⟨⟨[.bad, .v false [.int .i64 ((k + n))], .bad, .bad, .bad, .bad, .bad, .bad, .bad, .bad, .bad, .bad, .bad, .bad, .bad, .bad, .bad, .bad, .bad], upd m t (some (.row z (updAt (fun _ => mcF mfI k n) cs p))), up⟩, nx + 256⟩
theorem loop_mkIntS (t z n : Nat) (p : List Nat) (cs c0 : List Cell) (k : Int) (m : Mem) (up : List SV) (nx : Nat) (hp : cellsAt cs p = some c0) (hc : c0.length = n) (hk : 0 ≤ k) (hk2 : k ≤ 1000000000) (hn : n ≤ 1048576) {x : XS} (hx : head false d24_0 x = S_mkIntS t z n p cs c0 k m up nx 0) : X tab l24_0 x = some (.exit 0, Z_mkIntS t z n p cs k m up nx) := by
  refine loopF n (S_mkIntS t z n p cs c0 k m up nx) _ (by simp) (fun i hi => ?_) ?_ (Nat.zero_le _) hx
  · have h1 : (0 ≤ (i : Int) ∧ (i : Int) < (n : Int)) := by omega
    have h4 : IntKind.i64.wrap ((i : Int) + 1) = ((i + 1 : Nat) : Int) := by rw [wrap_id (by omega) (by omega)]; omega
    have h5 : IntKind.i64.wrap (k + (i : Int) + 1) = k + ((i + 1 : Nat) : Int) := by rw [wrap_id (by omega) (by omega)]; omega
    have h6 : IntKind.i64.wrap (k + (i : Int)) = k + (i : Int) := by rw [wrap_id (by omega) (by omega)]
    have h7 : cellsAt (updAt (fun _ => mcF mfI k i ++ c0.drop i) cs p) p = some (mcF mfI k i ++ c0.drop i) := cellsAt_updAt hp
    have h8 : i + 1 ≤ (mcF mfI k i ++ c0.drop i).length := by rw [List.length_append, mcF_len, List.length_drop]; omega
    have h9 : updAt (spl [mfI (k + i)] i) (updAt (fun _ => mcF mfI k i ++ c0.drop i) cs p) p = updAt (fun _ => mcF mfI k (i + 1) ++ c0.drop (i + 1)) cs p := by
      rw [updAt_updAt hp, mcF_next (by omega)]
    simp only [S_mkIntS]
    simp only [mfI] at h9
    generalize updAt (fun _ => mcF mfI k (i + 1) ++ c0.drop (i + 1)) cs p = q' at *
    generalize updAt (fun _ => mcF mfI k i ++ c0.drop i) cs p = q at *
    generalize mcF mfI k i ++ c0.drop i = r at *
    simp (maxSteps := 4000000) -implicitDefEqProofs [b24_0, x_seq, x_cond, x_block, x_region, x_skip, x_exit, x_ret, head_id, runG, runOps, doOp, wantB, stepOp, AO.eff, pureOp, St.get, St.one, St.num, St.put, St.optNum, binA, binInt, List.take, List.drop, effOp2, effOp, memL_app, stoRow, toCells, toCell, scalar_int, scalar_bool, upd, h1, h4, h5, h6, h7, h8, h9, hi, -Int.natCast_add]
    simp only [head, killSlots, Bool.false_eq_true, if_false, d24_0, List.set, XS.mk.injEq, St.mk.injEq, true_and, and_true]
    funext u
    simp only [upd]
    split <;> rfl
  · have e : mcF mfI k n ++ c0.drop n = mcF mfI k n := by rw [List.drop_eq_nil_of_le (by omega), List.append_nil]
    simp only [S_mkIntS, e]
    simp (maxSteps := 4000000) -implicitDefEqProofs [b24_0, x_seq, x_cond, x_block, x_region, x_skip, x_exit, x_ret, head_id, runG, runOps, doOp, wantB, stepOp, AO.eff, pureOp, St.get, St.one, St.num, St.put, St.optNum, binA, binInt, List.take, List.drop]
    change _ = _
    kernel_rfl
theorem t_mkIntS (t z n : Nat) (p : List Nat) (cs c0 : List Cell) (k : Int) (sl : List SV) (m : Mem) (up : List SV) (nx : Nat) (hm : m t = some (.row z cs)) (hp : cellsAt cs p = some c0) (hc : c0.length = n) (hk : 0 ≤ k) (hk2 : k ≤ 1000000000) (hn : n ≤ 1048576) :
    runThru (X tab) tab 24 [.v false [.sl t p 0 n], .v false [.int .i64 k]] ⟨⟨sl, m, up⟩, nx⟩ = some (.v false [.int .i64 (k + n)], ⟨⟨sl, upd m t (some (.row z (updAt (fun _ => mcF mfI k n) cs p))), up⟩, nx + 512⟩) := by
  unfold runThru
  simp (maxSteps := 4000000) -implicitDefEqProofs [tab24, a24, x_seq, x_cond, x_block, x_region, x_skip, x_exit, x_ret, head_id, runG, runOps, doOp, wantB, stepOp, AO.eff, pureOp, St.get, St.one, St.num, St.put, St.optNum, binA, binInt, List.take, List.drop]
  rw [loop_mkIntS t z n p cs c0 k m (sl ++ up) (nx + 128) hp hc hk hk2 hn (by
    have e : updAt (fun _ => mcF mfI k 0 ++ c0.drop 0) cs p = cs := by
      rw [show mcF mfI k 0 ++ c0.drop 0 = c0 from rfl]
      exact updAt_self hp
    simp only [S_mkIntS, e, upd_self hm, Int.ofNat_zero, Int.add_zero]
    rfl)]
  simp (maxSteps := 4000000) -implicitDefEqProofs [Z_mkIntS, x_seq, x_cond, x_block, x_region, x_skip, x_exit, x_ret, head_id, runG, runOps, doOp, wantB, stepOp, AO.eff, pureOp, St.get, St.one, St.num, St.put, St.optNum, binA, binInt, List.take, List.drop, resOf, resSV]
def S_mkByteS (t z n : Nat) (p : List Nat) (cs c0 : List Cell) (k : Int) (m : Mem) (up : List SV) (nx : Nat) (i : Nat) : XS := ⟨⟨[.v false [.sl t p 0 n], .v false [.int .i64 ((k + i))], .bad, .bad, .bad, .v false [.int .i64 (i)], .bad, .bad, .bad, .bad, .bad, .bad, .bad, .bad, .bad, .bad, .bad, .bad, .bad, .bad], upd m t (some (.row z (updAt (fun _ => mcF mfU k i ++ c0.drop i) cs p))), up⟩, nx⟩
def Z_mkByteS (t z n : Nat) (p : List Nat) (cs : List Cell) (k : Int) (m : Mem) (up : List SV) (nx : Nat) : XS := ⟨⟨[.bad, .v false [.int .i64 ((k + n))], .bad, .bad, .bad, .bad, .bad, .bad, .bad, .bad, .bad, .bad, .bad, .bad, .bad, .bad, .bad, .bad, .bad, .bad], upd m t (some (.row z (updAt (fun _ => mcF mfU k n) cs p))), up⟩, nx + 256⟩
theorem loop_mkByteS (t z n : Nat) (p : List Nat) (cs c0 : List Cell) (k : Int) (m : Mem) (up : List SV) (nx : Nat) (hp : cellsAt cs p = some c0) (hc : c0.length = n) (hk : 0 ≤ k) (hk2 : k ≤ 1000000000) (hn : n ≤ 1048576) {x : XS} (hx : head false d64_0 x = S_mkByteS t z n p cs c0 k m up nx 0) : X tab l64_0 x = some (.exit 0, Z_mkByteS t z n p cs k m up nx) := by
  refine loopF n (S_mkByteS t z n p cs c0 k m up nx) _ (by simp) (fun i hi => ?_) ?_ (Nat.zero_le _) hx
  · have h1 : (0 ≤ (i : Int) ∧ (i : Int) < (n : Int)) := by omega
    have h4 : IntKind.i64.wrap ((i : Int) + 1) = ((i + 1 : Nat) : Int) := by rw [wrap_id (by omega) (by omega)]; omega
    have h5 : IntKind.i64.wrap (k + (i : Int) + 1) = k + ((i + 1 : Nat) : Int) := by rw [wrap_id (by omega) (by omega)]; omega
    have h6 : IntKind.i64.wrap (k + (i : Int)) = k + (i : Int) := by rw [wrap_id (by omega) (by omega)]
    have h7 : cellsAt (updAt (fun _ => mcF mfU k i ++ c0.drop i) cs p) p = some (mcF mfU k i ++ c0.drop i) := cellsAt_updAt hp
    have h8 : i + 1 ≤ (mcF mfU k i ++ c0.drop i).length := by rw [List.length_append, mcF_len, List.length_drop]; omega
    have h9 : updAt (spl [mfU (k + i)] i) (updAt (fun _ => mcF mfU k i ++ c0.drop i) cs p) p = updAt (fun _ => mcF mfU k (i + 1) ++ c0.drop (i + 1)) cs p := by
      rw [updAt_updAt hp, mcF_next (by omega)]
    simp only [S_mkByteS]
    simp only [mfU] at h9
    generalize updAt (fun _ => mcF mfU k (i + 1) ++ c0.drop (i + 1)) cs p = q' at *
    generalize updAt (fun _ => mcF mfU k i ++ c0.drop i) cs p = q at *
    generalize mcF mfU k i ++ c0.drop i = r at *
    simp (maxSteps := 4000000) -implicitDefEqProofs [b64_0, x_seq, x_cond, x_block, x_region, x_skip, x_exit, x_ret, head_id, runG, runOps, doOp, wantB, stepOp, AO.eff, pureOp, St.get, St.one, St.num, St.put, St.optNum, binA, binInt, List.take, List.drop, effOp2, effOp, memL_app, stoRow, toCells, toCell, scalar_int, scalar_bool, upd, h1, h4, h5, h6, h7, h8, h9, hi, -Int.natCast_add]
    simp only [head, killSlots, Bool.false_eq_true, if_false, d64_0, List.set, XS.mk.injEq, St.mk.injEq, true_and, and_true]
    funext u
    simp only [upd]
    split <;> rfl
  · have e : mcF mfU k n ++ c0.drop n = mcF mfU k n := by rw [List.drop_eq_nil_of_le (by omega), List.append_nil]
    simp only [S_mkByteS, e]
    simp (maxSteps := 4000000) -implicitDefEqProofs [b64_0, x_seq, x_cond, x_block, x_region, x_skip, x_exit, x_ret, head_id, runG, runOps, doOp, wantB, stepOp, AO.eff, pureOp, St.get, St.one, St.num, St.put, St.optNum, binA, binInt, List.take, List.drop]
    change _ = _
    kernel_rfl
theorem t_mkByteS (t z n : Nat) (p : List Nat) (cs c0 : List Cell) (k : Int) (sl : List SV) (m : Mem) (up : List SV) (nx : Nat) (hm : m t = some (.row z cs)) (hp : cellsAt cs p = some c0) (hc : c0.length = n) (hk : 0 ≤ k) (hk2 : k ≤ 1000000000) (hn : n ≤ 1048576) :
    runThru (X tab) tab 64 [.v false [.sl t p 0 n], .v false [.int .i64 k]] ⟨⟨sl, m, up⟩, nx⟩ = some (.v false [.int .i64 (k + n)], ⟨⟨sl, upd m t (some (.row z (updAt (fun _ => mcF mfU k n) cs p))), up⟩, nx + 512⟩) := by
  unfold runThru
  simp (maxSteps := 4000000) -implicitDefEqProofs [tab64, a64, x_seq, x_cond, x_block, x_region, x_skip, x_exit, x_ret, head_id, runG, runOps, doOp, wantB, stepOp, AO.eff, pureOp, St.get, St.one, St.num, St.put, St.optNum, binA, binInt, List.take, List.drop]
  rw [loop_mkByteS t z n p cs c0 k m (sl ++ up) (nx + 128) hp hc hk hk2 hn (by
    have e : updAt (fun _ => mcF mfU k 0 ++ c0.drop 0) cs p = cs := by
      rw [show mcF mfU k 0 ++ c0.drop 0 = c0 from rfl]
      exact updAt_self hp
    simp only [S_mkByteS, e, upd_self hm, Int.ofNat_zero, Int.add_zero]
    rfl)]
  simp (maxSteps := 4000000) -implicitDefEqProofs [Z_mkByteS, x_seq, x_cond, x_block, x_region, x_skip, x_exit, x_ret, head_id, runG, runOps, doOp, wantB, stepOp, AO.eff, pureOp, St.get, St.one, St.num, St.put, St.optNum, binA, binInt, List.take, List.drop, resOf, resSV]
def S_mkBoolS (t z n : Nat) (p : List Nat) (cs c0 : List Cell) (k : Int) (m : Mem) (up : List SV) (nx : Nat) (i : Nat) : XS := ⟨⟨[.v false [.sl t p 0 n], .v false [.int .i64 ((k + i))], .bad, .bad, .bad, .v false [.int .i64 (i)], .bad, .bad, .bad, .bad, .bad, .bad, .bad, .bad, .bad, .bad, .bad, .bad, .bad, .bad, .bad], upd m t (some (.row z (updAt (fun _ => mcF mfB k i ++ c0.drop i) cs p))), up⟩, nx⟩
def Z_mkBoolS (t z n : Nat) (p : List Nat) (cs : List Cell) (k : Int) (m : Mem) (up : List SV) (nx : Nat) : XS := ⟨⟨[.bad, .v false [.int .i64 ((k + n))], .bad, .bad, .bad, .bad, .bad, .bad, .bad, .bad, .bad, .bad, .bad, .bad, .bad, .bad, .bad, .bad, .bad, .bad, .bad], upd m t (some (.row z (updAt (fun _ => mcF mfB k n) cs p))), up⟩, nx + 256⟩
theorem loop_mkBoolS (t z n : Nat) (p : List Nat) (cs c0 : List Cell) (k : Int) (m : Mem) (up : List SV) (nx : Nat) (hp : cellsAt cs p = some c0) (hc : c0.length = n) (hk : 0 ≤ k) (hk2 : k ≤ 1000000000) (hn : n ≤ 1048576) {x : XS} (hx : head false d65_0 x = S_mkBoolS t z n p cs c0 k m up nx 0) : X tab l65_0 x = some (.exit 0, Z_mkBoolS t z n p cs k m up nx) := by
  refine loopF n (S_mkBoolS t z n p cs c0 k m up nx) _ (by simp) (fun i hi => ?_) ?_ (Nat.zero_le _) hx
  · have h1 : (0 ≤ (i : Int) ∧ (i : Int) < (n : Int)) := by omega
    have h4 : IntKind.i64.wrap ((i : Int) + 1) = ((i + 1 : Nat) : Int) := by rw [wrap_id (by omega) (by omega)]; omega
    have h5 : IntKind.i64.wrap (k + (i : Int) + 1) = k + ((i + 1 : Nat) : Int) := by rw [wrap_id (by omega) (by omega)]; omega
    have h6 : IntKind.i64.wrap (k + (i : Int)) = k + (i : Int) := by rw [wrap_id (by omega) (by omega)]
    have h7 : cellsAt (updAt (fun _ => mcF mfB k i ++ c0.drop i) cs p) p = some (mcF mfB k i ++ c0.drop i) := cellsAt_updAt hp
    have h8 : i + 1 ≤ (mcF mfB k i ++ c0.drop i).length := by rw [List.length_append, mcF_len, List.length_drop]; omega
    have h9 : updAt (spl [mfB (k + i)] i) (updAt (fun _ => mcF mfB k i ++ c0.drop i) cs p) p = updAt (fun _ => mcF mfB k (i + 1) ++ c0.drop (i + 1)) cs p := by
      rw [updAt_updAt hp, mcF_next (by omega)]
    simp only [S_mkBoolS]
    simp only [mfB] at h9
    generalize updAt (fun _ => mcF mfB k (i + 1) ++ c0.drop (i + 1)) cs p = q' at *
    generalize updAt (fun _ => mcF mfB k i ++ c0.drop i) cs p = q at *
    generalize mcF mfB k i ++ c0.drop i = r at *
    simp (maxSteps := 4000000) -implicitDefEqProofs [b65_0, x_seq, x_cond, x_block, x_region, x_skip, x_exit, x_ret, head_id, runG, runOps, doOp, wantB, stepOp, AO.eff, pureOp, St.get, St.one, St.num, St.put, St.optNum, binA, binInt, List.take, List.drop, effOp2, effOp, memL_app, stoRow, toCells, toCell, scalar_int, scalar_bool, upd, h1, h4, h5, h6, h7, h8, h9, hi, -Int.natCast_add]
    simp only [head, killSlots, Bool.false_eq_true, if_false, d65_0, List.set, XS.mk.injEq, St.mk.injEq, true_and, and_true]
    funext u
    simp only [upd]
    split <;> rfl
  · have e : mcF mfB k n ++ c0.drop n = mcF mfB k n := by rw [List.drop_eq_nil_of_le (by omega), List.append_nil]
    simp only [S_mkBoolS, e]
    simp (maxSteps := 4000000) -implicitDefEqProofs [b65_0, x_seq, x_cond, x_block, x_region, x_skip, x_exit, x_ret, head_id, runG, runOps, doOp, wantB, stepOp, AO.eff, pureOp, St.get, St.one, St.num, St.put, St.optNum, binA, binInt, List.take, List.drop]
    change _ = _
    kernel_rfl
theorem t_mkBoolS (t z n : Nat) (p : List Nat) (cs c0 : List Cell) (k : Int) (sl : List SV) (m : Mem) (up : List SV) (nx : Nat) (hm : m t = some (.row z cs)) (hp : cellsAt cs p = some c0) (hc : c0.length = n) (hk : 0 ≤ k) (hk2 : k ≤ 1000000000) (hn : n ≤ 1048576) :
    runThru (X tab) tab 65 [.v false [.sl t p 0 n], .v false [.int .i64 k]] ⟨⟨sl, m, up⟩, nx⟩ = some (.v false [.int .i64 (k + n)], ⟨⟨sl, upd m t (some (.row z (updAt (fun _ => mcF mfB k n) cs p))), up⟩, nx + 512⟩) := by
  unfold runThru
  simp (maxSteps := 4000000) -implicitDefEqProofs [tab65, a65, x_seq, x_cond, x_block, x_region, x_skip, x_exit, x_ret, head_id, runG, runOps, doOp, wantB, stepOp, AO.eff, pureOp, St.get, St.one, St.num, St.put, St.optNum, binA, binInt, List.take, List.drop]
  rw [loop_mkBoolS t z n p cs c0 k m (sl ++ up) (nx + 128) hp hc hk hk2 hn (by
    have e : updAt (fun _ => mcF mfB k 0 ++ c0.drop 0) cs p = cs := by
      rw [show mcF mfB k 0 ++ c0.drop 0 = c0 from rfl]
      exact updAt_self hp
    simp only [S_mkBoolS, e, upd_self hm, Int.ofNat_zero, Int.add_zero]
    rfl)]
  simp (maxSteps := 4000000) -implicitDefEqProofs [Z_mkBoolS, x_seq, x_cond, x_block, x_region, x_skip, x_exit, x_ret, head_id, runG, runOps, doOp, wantB, stepOp, AO.eff, pureOp, St.get, St.one, St.num, St.put, St.optNum, binA, binInt, List.take, List.drop, resOf, resSV]
/-! Marks in rows of rows. -/
theorem cellsAt_snoc {i n : Nat} {ms : List Cell} : ∀ {p : List Nat} {cs ns : List Cell}, cellsAt cs p = some ns → ns[i]? = some (.sl n ms) → cellsAt cs (p ++ [i]) = some ms := by
  intro p
  induction p with
  | nil => intro cs ns h hi; cases h; simp [cellsAt, hi]
  | cons j p ih =>
    intro cs ns h hi
    simp only [List.cons_append, cellsAt] at h ⊢
    cases hj : cs[j]? with
    | none => rw [hj] at h; cases h
    | some c =>
      rw [hj] at h
      cases c with
      | sl n' ms' => exact ih h hi
      | _ => cases h
theorem updAt_snoc {i n : Nat} {ms : List Cell} {f : List Cell → List Cell} : ∀ {p : List Nat} {cs ns : List Cell}, cellsAt cs p = some ns → ns[i]? = some (.sl n ms) → updAt f cs (p ++ [i]) = updAt (fun _ => ns.set i (.sl n (f ms))) cs p := by
  intro p
  induction p with
  | nil => intro cs ns h hi; cases h; simp [updAt, hi]
  | cons j p ih =>
    intro cs ns h hi
    simp only [cellsAt] at h
    simp only [List.cons_append, updAt]
    cases hj : cs[j]? with
    | none => simp [hj] at h
    | some c =>
      rw [hj] at h
      cases c with
      | sl n' ms' =>
        simp only
        rw [ih h hi]
      | _ => cases h
/-- The marks that rows of numbers get, and the next one. -/
def mkSS (k : Int) : List (List Int) → List Cell
  | [] => []
  | x :: r => .sl x.length (mcF mfI k x.length) :: mkSS (k + x.length) r
def kSS (k : Int) (l : List (List Int)) : Int := k + ((l.map List.length).sum : Nat)
theorem mkSS_app (k : Int) (l r : List (List Int)) : mkSS k (l ++ r) = mkSS k l ++ mkSS (kSS k l) r := by
  induction l generalizing k with
  | nil => simp [mkSS, kSS]
  | cons x l ih =>
    simp only [List.cons_append, mkSS, ih]
    congr 2
    simp only [kSS, List.map_cons, List.sum_cons]
    congr 1
    omega
theorem mkSS_len (k : Int) (l : List (List Int)) : (mkSS k l).length = l.length := by
  induction l generalizing k with
  | nil => rfl
  | cons x l ih => simp [mkSS, ih]
def S_mkSS (t z : Nat) (l : List (List Int)) (p : List Nat) (cs : List Cell) (k : Int) (m : Mem) (up : List SV) (nx : Nat) (i : Nat) : XS := ⟨⟨[.v false [.sl t p 0 l.length], .v false [.int .i64 ((kSS k (l.take i)))], .bad, .bad, .bad, .v false [.int .i64 (i)], .bad, .bad, .bad, .bad, .bad, .bad, .bad, .bad, .bad, .bad, .bad, .bad, .bad], upd m t (some (.row z (updAt (fun _ => mkSS k (l.take i) ++ (l.drop i).map intsC) cs p))), up⟩, nx⟩
def Z_mkSS (t z : Nat) (l : List (List Int)) (p : List Nat) (cs : List Cell) (k : Int) (m : Mem) (up : List SV) (nx : Nat) : XS := ⟨⟨[.bad, .v false [.int .i64 ((kSS k l))], .bad, .bad, .bad, .bad, .bad, .bad, .bad, .bad, .bad, .bad, .bad, .bad, .bad, .bad, .bad, .bad, .bad], upd m t (some (.row z (updAt (fun _ => mkSS k l) cs p))), up⟩, nx + 256⟩
theorem loop_mkSS (t z : Nat) (l : List (List Int)) (p : List Nat) (cs : List Cell) (k : Int) (m : Mem) (up : List SV) (nx : Nat) (hp : cellsAt cs p = some (l.map intsC)) (hk : 0 ≤ k) (hk2 : k + ((l.map List.length).sum : Nat) ≤ 1000000000) (hn : l.length ≤ 1048576) (hl : ∀ x ∈ l, x.length ≤ 1048576) {x : XS}
    (hx : head false d63_0 x = S_mkSS t z l p cs k m up nx 0) : X tab l63_0 x = some (.exit 0, Z_mkSS t z l p cs k m up nx) := by
  refine loopF l.length (S_mkSS t z l p cs k m up nx) _ (by simp) (fun i hi => ?_) ?_ (Nat.zero_le _) hx
  · obtain ⟨y, r, hd⟩ : ∃ y r, l.drop i = y :: r := ⟨_, _, List.drop_eq_getElem_cons hi⟩
    have hy : l[i]? = some y := by
      have := congrArg (fun q : List (List Int) => q[0]?) hd
      simpa using this
    have hyl := hl y (dropx_mem hd)
    have h1 : (0 ≤ (i : Int) ∧ (i : Int) < (l.length : Int)) := by omega
    have h4 : IntKind.i64.wrap ((i : Int) + 1) = ((i + 1 : Nat) : Int) := by rw [wrap_id (by omega) (by omega)]; omega
    have ht : l.take (i + 1) = l.take i ++ [y] := by rw [List.take_add_one, hy]; rfl
    have hsum : ((l.take i).map List.length).sum + y.length ≤ (l.map List.length).sum := by
      have e := List.take_append_drop i l
      rw [hd] at e
      conv => rhs; rw [← e]
      simp
    have hdn := dropx_next hd
    have hpl : (mkSS k (l.take i)).length = i := by rw [mkSS_len, List.length_take, Nat.min_eq_left (by omega)]
    have h7 : cellsAt (updAt (fun _ => mkSS k (l.take i) ++ (l.drop i).map intsC) cs p) p = some (mkSS k (l.take i) ++ (l.drop i).map intsC) := cellsAt_updAt hp
    have h8 : (mkSS k (l.take i) ++ (l.drop i).map intsC)[i]? = some (.sl y.length (cl .i64 y)) := by
      rw [List.getElem?_append_right (by omega), hpl, Nat.sub_self, hd]
      rfl
    have h9 := updAt_snoc (f := fun _ => mcF mfI (kSS k (l.take i)) y.length) h7 h8
    rw [updAt_updAt hp] at h9
    have h10 : (mkSS k (l.take i) ++ (l.drop i).map intsC).set i (.sl y.length (mcF mfI (kSS k (l.take i)) y.length)) = mkSS k (l.take (i + 1)) ++ (l.drop (i + 1)).map intsC := by
      rw [List.set_append_right _ _ (by omega), hpl, Nat.sub_self, hd, hdn, ht, mkSS_app, List.append_assoc]
      rfl
    rw [h10] at h9
    have h11 := cellsAt_snoc h7 h8
    have h12 : kSS k (l.take (i + 1)) = kSS k (l.take i) + y.length := by
      unfold kSS
      rw [ht]
      simp
      omega
    have hkk : 0 ≤ kSS k (l.take i) ∧ kSS k (l.take i) ≤ 1000000000 := by unfold kSS; omega
    have h13 : readOwn t p (mkSS k (l.take i) ++ (l.drop i).map intsC) i 1 = some [.sl t (p ++ [i]) 0 y.length] := by
      simp only [readOwn, h8, Option.map_some, fromOwn]
    simp only [S_mkSS, h12]
    generalize updAt (fun _ => mkSS k (l.take (i + 1)) ++ (l.drop (i + 1)).map intsC) cs p = q' at *
    generalize updAt (fun _ => mkSS k (l.take i) ++ (l.drop i).map intsC) cs p = q at *
    generalize mkSS k (l.take i) ++ (l.drop i).map intsC = rr at *
    generalize kSS k (l.take i) = kk at *
    have h14 := fun sl up nx => t_mkIntS t z y.length (p ++ [i]) q (cl .i64 y) kk sl (upd m t (some (.row z q))) up nx (by simp [upd]) h11 cl_length hkk.1 hkk.2 hyl
    rw [h9] at h14
    simp (maxSteps := 4000000) -implicitDefEqProofs [b63_0, x_seq, x_cond, x_block, x_region, x_skip, x_exit, x_ret, head_id, runG, runOps, doOp, wantB, stepOp, AO.eff, pureOp, St.get, St.one, St.num, St.put, St.optNum, binA, binInt, List.take, List.drop, getAll, memL_app, upd, h1, h4, h7, h13, h14, hi, -Int.natCast_add]
    simp only [head, killSlots, Bool.false_eq_true, if_false, d63_0, List.set, XS.mk.injEq, St.mk.injEq, true_and, and_true]
    funext u
    simp only [upd]
    split <;> rfl
  · rw [show S_mkSS t z l p cs k m up nx l.length = ⟨⟨[.v false [.sl t p 0 l.length], .v false [.int .i64 ((kSS k l))], .bad, .bad, .bad, .v false [.int .i64 (l.length)], .bad, .bad, .bad, .bad, .bad, .bad, .bad, .bad, .bad, .bad, .bad, .bad, .bad], upd m t (some (.row z (updAt (fun _ => mkSS k l) cs p))), up⟩, nx⟩ by simp [S_mkSS]]
    simp (maxSteps := 4000000) -implicitDefEqProofs [b63_0, x_seq, x_cond, x_block, x_region, x_skip, x_exit, x_ret, head_id, runG, runOps, doOp, wantB, stepOp, AO.eff, pureOp, St.get, St.one, St.num, St.put, St.optNum, binA, binInt, List.take, List.drop]
    change _ = _
    kernel_rfl
theorem t_mkSS (t z : Nat) (l : List (List Int)) (p : List Nat) (cs : List Cell) (k : Int) (sl : List SV) (m : Mem) (up : List SV) (nx : Nat) (hm : m t = some (.row z cs)) (hp : cellsAt cs p = some (l.map intsC)) (hk : 0 ≤ k) (hk2 : k + ((l.map List.length).sum : Nat) ≤ 1000000000) (hn : l.length ≤ 1048576) (hl : ∀ x ∈ l, x.length ≤ 1048576) :
    runThru (X tab) tab 63 [.v false [.sl t p 0 l.length], .v false [.int .i64 k]] ⟨⟨sl, m, up⟩, nx⟩ = some (.v false [.int .i64 (kSS k l)], ⟨⟨sl, upd m t (some (.row z (updAt (fun _ => mkSS k l) cs p))), up⟩, nx + 512⟩) := by
  unfold runThru
  simp (maxSteps := 4000000) -implicitDefEqProofs [tab63, a63, x_seq, x_cond, x_block, x_region, x_skip, x_exit, x_ret, head_id, runG, runOps, doOp, wantB, stepOp, AO.eff, pureOp, St.get, St.one, St.num, St.put, St.optNum, binA, binInt, List.take, List.drop]
  rw [loop_mkSS t z l p cs k m (sl ++ up) (nx + 128) hp hk hk2 hn hl (by
    have e : updAt (fun _ => mkSS k (l.take 0) ++ (l.drop 0).map intsC) cs p = cs := by
      rw [show mkSS k (l.take 0) ++ (l.drop 0).map intsC = l.map intsC from rfl]
      exact updAt_self hp
    have e2 : kSS k (l.take 0) = k := by simp [kSS]
    simp only [S_mkSS, e, e2, upd_self hm, Int.ofNat_zero]
    rfl)]
  simp (maxSteps := 4000000) -implicitDefEqProofs [Z_mkSS, x_seq, x_cond, x_block, x_region, x_skip, x_exit, x_ret, head_id, runG, runOps, doOp, wantB, stepOp, AO.eff, pureOp, St.get, St.one, St.num, St.put, St.optNum, binA, binInt, List.take, List.drop, resOf, resSV]
end Go.Proofs.Ytbdokibepndibaa.Eng.B
