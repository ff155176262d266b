/- The laws' own functions over worlds, sixth part: marks in rows of structures. -/
import Derived.Test.YtbdokibepndibaaBW5
namespace Go.Proofs.Ytbdokibepndibaa.Eng.B
set_option linter.unusedSimpArgs false
set_option linter.unusedVariables false
set_option maxHeartbeats 16000000
set_option maxRecDepth 100000
open Go.RowKit Go.Proofs

section
variable {α : Type}
/-- The cells of a row of structures that got marks. -/
def mkL (mk : Int → α → List Cell) (c : α → Nat) : Int → List α → List Cell
  | _, [] => []
  | k, x :: r => mk k x ++ mkL mk c (k + c x) r
def kL (c : α → Nat) (k : Int) (l : List α) : Int := k + ((l.map c).sum : Nat)
theorem mkL_app (mk : Int → α → List Cell) (c : α → Nat) (k : Int) (l r : List α) : mkL mk c k (l ++ r) = mkL mk c k l ++ mkL mk c (kL c k l) r := by
  induction l generalizing k with
  | nil => simp [mkL, kL]
  | cons x l ih =>
    simp only [List.cons_append, mkL, ih, List.append_assoc]
    congr 3
    simp only [kL, List.map_cons, List.sum_cons]
    omega
theorem mkL_len {mk : Int → α → List Cell} {c : α → Nat} {z : Nat} (hz : ∀ k x, (mk k x).length = z) (k : Int) (l : List α) : (mkL mk c k l).length = l.length * z := by
  induction l generalizing k with
  | nil => simp [mkL]
  | cons x l ih => rw [mkL, List.length_append, ih, hz, List.length_cons, Nat.succ_mul]; omega
/-- A row that is being marked, at i. -/
def mid (mk : Int → α → List Cell) (c : α → Nat) (lay : α → List Cell) (k : Int) (l : List α) (i : Nat) : List Cell := mkL mk c k (l.take i) ++ (l.drop i).flatMap lay
theorem mid_zero {mk : Int → α → List Cell} {c : α → Nat} {lay : α → List Cell} {k : Int} {l : List α} : mid mk c lay k l 0 = l.flatMap lay := by simp [mid, mkL]
theorem mid_all {mk : Int → α → List Cell} {c : α → Nat} {lay : α → List Cell} {k : Int} {l : List α} : mid mk c lay k l l.length = mkL mk c k l := by simp [mid]
theorem kL_zero {c : α → Nat} {k : Int} {l : List α} : kL c k (l.take 0) = k := by simp [kL]
theorem mid_at {mk : Int → α → List Cell} {c : α → Nat} {lay : α → List Cell} {k : Int} {l : List α} {i z : Nat} {x : α} {r : List α} (hz : ∀ k x, (mk k x).length = z) (h : l.drop i = x :: r) :
    ∃ A B, A.length = i * z ∧ mid mk c lay k l i = A ++ (lay x ++ B) ∧ mid mk c lay k l (i + 1) = A ++ (mk (kL c k (l.take i)) x ++ B) ∧ kL c k (l.take (i + 1)) = kL c k (l.take i) + c x ∧ kL c k (l.take i) + c x ≤ kL c k l ∧ k ≤ kL c k (l.take i) := by
  have hi := dropx_lt h
  have hx : l[i]? = some x := by
    have := congrArg (fun q : List α => q[0]?) h
    simpa using this
  have ht : l.take (i + 1) = l.take i ++ [x] := by rw [List.take_add_one, hx]; rfl
  have hk : kL c k (l.take (i + 1)) = kL c k (l.take i) + c x := by
    unfold kL
    rw [ht, List.map_append, List.sum_append]
    simp
    omega
  refine ⟨mkL mk c k (l.take i), r.flatMap lay, ?_, ?_, ?_, hk, ?_, ?_⟩
  · rw [mkL_len hz, List.length_take, Nat.min_eq_left (by omega)]
  · unfold mid; rw [h]; rfl
  · unfold mid
    rw [ht, mkL_app, dropx_next h, List.append_assoc]
    simp [mkL]
  · rw [← hk]
    unfold kL
    have e := List.take_append_drop (i + 1) l
    have : (l.map c).sum = ((l.take (i + 1)).map c).sum + ((l.drop (i + 1)).map c).sum := by
      conv => lhs; rw [← e]
      rw [List.map_append, List.sum_append]
    omega
  · unfold kL; omega
end
theorem row_st {A B C : List Cell} {a j : Nat} {c : Cell} (ha : A.length = a) (hj : j < C.length) : spl [c] (a + j) (A ++ (C ++ B)) = A ++ (C.set j c ++ B) := by
  unfold spl
  subst ha
  rw [List.take_append, List.take_of_length_le (by omega), Nat.add_sub_cancel_left, List.take_append_of_le_length (by omega), List.drop_append, List.drop_of_length_le (by simp only [List.length_singleton]; omega)]
  have e : A.length + j + [c].length - A.length = j + 1 := by simp only [List.length_singleton]; omega
  rw [e, List.drop_append_of_le_length (by omega), List.set_eq_take_append_cons_drop, if_pos hj]
  simp
theorem row_at {A B C : List Cell} {a j : Nat} (ha : A.length = a) (hj : j < C.length) : (A ++ (C ++ B))[a + j]? = C[j]? := by
  subst ha
  rw [List.getElem?_append_right (by omega), Nat.add_sub_cancel_left, List.getElem?_append_left hj]
theorem row_set {A B C : List Cell} {a j : Nat} {c : Cell} (ha : A.length = a) (hj : j < C.length) : (A ++ (C ++ B)).set (a + j) c = A ++ (C.set j c ++ B) := by
  subst ha
  rw [List.set_append_right _ _ (by omega), Nat.add_sub_cancel_left, List.set_append_left _ _ hj]
theorem row_len {A B C : List Cell} {a j : Nat} (ha : A.length = a) (hj : j < C.length) : a + j + 1 ≤ (A ++ (C ++ B)).length := by
  rw [List.length_append, List.length_append]; omega
theorem row_read {t : Nat} {R : List Cell} {a n : Nat} {ms : List Cell} (h : R[a]? = some (.sl n ms)) : readOwn t [] R a 1 = some [.sl t [a] 0 n] := by
  simp only [readOwn, h, Option.map_some, fromOwn, List.nil_append]
theorem row_cell {R : List Cell} {a n : Nat} {ms : List Cell} (h : R[a]? = some (.sl n ms)) : cellsAt R [a] = some ms := by simp [cellsAt, h]
theorem row_upd {R : List Cell} {a n : Nat} {ms : List Cell} {f : List Cell → List Cell} (h : R[a]? = some (.sl n ms)) : updAt f R [a] = R.set a (.sl n (f ms)) := by simp [updAt, h]
theorem upd_same (m : Mem) (t : Nat) (x : Option Ob) : upd m t x t = x := by simp [upd]
def mkRec (k : Int) (_ : PRec) : List Cell := [mfI k, mfI (k + 1)]
def cRec (_ : PRec) : Nat := 2
def S_mkRec (t : Nat) (l : List PRec) (k : Int) (m : Mem) (up : List SV) (nx : Nat) (i : Nat) : XS := ⟨⟨[.v false [.sl t [] 0 l.length], .v false [.int .i64 ((kL cRec k (l.take i)))], .bad, .bad, .bad, .v false [.int .i64 (i)], .bad, .bad, .bad, .bad, .bad, .bad, .bad, .bad, .bad, .bad, .bad, .bad, .bad, .bad, .bad, .bad, .bad, .bad, .bad, .bad, .bad], upd m t (some (.row 2 (mid mkRec cRec recC k l i))), up⟩, nx⟩
def Z_mkRec (t : Nat) (l : List PRec) (k : Int) (m : Mem) (up : List SV) (nx : Nat) : XS := ⟨⟨[.bad, .v false [.int .i64 ((kL cRec k l))], .bad, .bad, .bad, .bad, .bad, .bad, .bad, .bad, .bad, .bad, .bad, .bad, .bad, .bad, .bad, .bad, .bad, .bad, .bad, .bad, .bad, .bad, .bad, .bad, .bad], upd m t (some (.row 2 (mkL mkRec cRec k l))), up⟩, nx + 256⟩
theorem loop_mkRec (t : Nat) (l : List PRec) (k : Int) (m : Mem) (up : List SV) (nx : Nat) (hk : 0 ≤ k) (hk2 : kL cRec k l ≤ 1000000000) (hn : l.length ≤ 1048576) {x : XS} (hx : head false d48_0 x = S_mkRec t l k m up nx 0) : X tab l48_0 x = some (.exit 0, Z_mkRec t l k m up nx) := by
  refine loopF l.length (S_mkRec t l k m up nx) _ (by simp) (fun i hi => ?_) ?_ (Nat.zero_le _) hx
  · obtain ⟨y, r, hd⟩ : ∃ y r, l.drop i = y :: r := ⟨_, _, List.drop_eq_getElem_cons hi⟩
    obtain ⟨A, B, hA, h0, hN, hk', hkb, hka⟩ := mid_at (mk := mkRec) (c := cRec) (lay := recC) (k := k) (z := 2) (fun _ _ => rfl) hd
    have h1 : (0 ≤ (i : Int) ∧ (i : Int) < (l.length : Int)) := by omega
    have h4 : IntKind.i64.wrap ((i : Int) + 1) = ((i + 1 : Nat) : Int) := by rw [wrap_id (by omega) (by omega)]; omega
    simp only [S_mkRec, hN, h0, hk']
    simp only [cRec] at hkb ⊢
    generalize kL cRec k (l.take i) = k0 at *
    have w0 : IntKind.i64.wrap k0 = k0 := wrap_id (by omega) (by omega)
    have w1 : IntKind.i64.wrap (k0 + 1) = k0 + 1 := wrap_id (by omega) (by omega)
    have w2 : IntKind.i64.wrap (k0 + 1 + 1) = k0 + (2 : Nat) := by rw [wrap_id (by omega) (by omega)]; omega
    simp only [recC, mkRec, mfI]
    have e0 := row_st (A := A) (B := B) (C := [.int .i64 y.cell, .int .i64 y.up]) (j := 0) (c := .int .i64 k0) hA (by simp)
    have e1 := row_st (A := A) (B := B) (C := [.int .i64 k0, .int .i64 y.up]) (j := 1) (c := .int .i64 (k0 + 1)) hA (by simp)
    have n0 := row_len (A := A) (B := B) (C := [.int .i64 y.cell, .int .i64 y.up]) (j := 0) hA (by simp)
    have n1 := row_len (A := A) (B := B) (C := [.int .i64 k0, .int .i64 y.up]) (j := 1) hA (by simp)
    simp only [List.set_cons_zero, List.set_cons_succ, Nat.add_zero] at e0 e1 n0 n1
    generalize A ++ ([.int .i64 y.cell, .int .i64 y.up] ++ B) = R0 at *
    generalize A ++ ([.int .i64 k0, .int .i64 y.up] ++ B) = R1 at *
    generalize A ++ ([.int .i64 k0, .int .i64 (k0 + 1)] ++ B) = R2 at *
    generalize k0 + ((2 : Nat) : Int) = k2 at *
    simp (maxSteps := 4000000) -implicitDefEqProofs [b48_0, x_seq, x_cond, x_block, x_region, x_skip, x_exit, x_ret, head_id, runG, runOps, doOp, wantB, stepOp, AO.eff, pureOp, St.get, St.one, St.num, St.put, St.optNum, binA, binInt, List.take, List.drop, effOp2, effOp, memL_app, stoRow, toCells, toCell, scalar_int, scalar_bool, cellsAt, updAt, upd_same, upd_upd, h1, h4, w0, w1, w2, e0, e1, n0, n1, hi, -Int.natCast_add]
    change _ = _
    kernel_rfl
  · simp only [S_mkRec, mid_all, List.take_length]
    simp (maxSteps := 4000000) -implicitDefEqProofs [b48_0, x_seq, x_cond, x_block, x_region, x_skip, x_exit, x_ret, head_id, runG, runOps, doOp, wantB, stepOp, AO.eff, pureOp, St.get, St.one, St.num, St.put, St.optNum, binA, binInt, List.take, List.drop]
    change _ = _
    kernel_rfl
theorem t_mkRec (t : Nat) (l : List PRec) (k : Int) (sl : List SV) (m : Mem) (up : List SV) (nx : Nat) (hm : m t = some (.row 2 (recsC l))) (hk : 0 ≤ k) (hk2 : kL cRec k l ≤ 1000000000) (hn : l.length ≤ 1048576) :
    runThru (X tab) tab 48 [.v false [.sl t [] 0 l.length], .v false [.int .i64 k]] ⟨⟨sl, m, up⟩, nx⟩ = some (.v false [.int .i64 (kL cRec k l)], ⟨⟨sl, upd m t (some (.row 2 (mkL mkRec cRec k l))), up⟩, nx + 512⟩) := by
  unfold runThru
  simp (maxSteps := 4000000) -implicitDefEqProofs [tab48, a48, x_seq, x_cond, x_block, x_region, x_skip, x_exit, x_ret, head_id, runG, runOps, doOp, wantB, stepOp, AO.eff, pureOp, St.get, St.one, St.num, St.put, St.optNum, binA, binInt, List.take, List.drop]
  rw [loop_mkRec t l k m (sl ++ up) (nx + 128) hk hk2 hn (by
    have e : mid mkRec cRec recC k l 0 = recsC l := mid_zero
    simp only [S_mkRec, e, kL_zero, upd_self hm, Int.ofNat_zero]
    change _ = _
    kernel_rfl)]
  simp (maxSteps := 4000000) -implicitDefEqProofs [Z_mkRec, x_seq, x_cond, x_block, x_region, x_skip, x_exit, x_ret, head_id, runG, runOps, doOp, wantB, stepOp, AO.eff, pureOp, St.get, St.one, St.num, St.put, St.optNum, binA, binInt, List.take, List.drop, resOf, resSV]
end Go.Proofs.Ytbdokibepndibaa.Eng.B
