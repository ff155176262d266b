/- Marking: a number put where it comes by its size; the marks of what is hot; the law HotMarks. -/
import Derived.Test.YtdagbeihjobmjaaRTouch
namespace Go.Proofs.Ytdagbeihjobmjaa.Eng.R
set_option linter.unusedSimpArgs false
set_option linter.unusedVariables false
set_option maxHeartbeats 8000000
set_option maxRecDepth 100000
open Go.RowKit Go.Proofs

def SJ (u : Nat) (f : FuncId) (l : List Int) (m : Mem) (up : List SV) (nx i : Nat) : XS := ⟨⟨[.v false [.ro l.length (cl .i64 l)], .v false [.fn f [u]], .bad, .bad, .bad, .bad, .bad, .v false [.int .i64 (l.length)], .v false [.int .i64 (i)], .bad, .bad, .bad, .bad, .bad, .bad, .bad, .bad, .bad, .bad], m, up⟩, nx⟩
theorem loop_IndexR (l : List Int) (u : Nat) (f : FuncId) (a : Int) (p : Int → Bool) (c : Nat) (hf : LooksC f u a p c) (hn : l.length ≤ 1048576) (m : Mem) (up : List SV) (nx : Nat) (hu : m u = some (.box [.int .i64 a])) {x : XS}
    (hx : head false d128_0 x = SJ u f l m up nx 0) : X tab l128_0 x = RI c m up nx (fidx p 0 l) := by
  refine loopXF (σ := Nat) (SJ u f l m up nx) (fun i => l.length - i) (fun i => i ≤ l.length ∧ fidx p i (l.drop i) = fidx p 0 l) _ (fun i ⟨hi, hs⟩ => ?_) 0 ⟨Nat.zero_le _, rfl⟩ x hx
  cases hl : l.drop i with
  | nil =>
    obtain rfl := drop_end hl hi
    rw [← hs, hl]
    refine .inr ⟨?_, by simp [fidx, RI]⟩
    simp (maxSteps := 4000000) -implicitDefEqProofs [b128_0, SJ, x_seq, x_cond, x_block, x_region, x_skip, x_exit, x_ret, head_id, runG, runOps, doOp, wantB, stepOp, AO.eff, pureOp, St.get, St.one, St.num, St.put, St.optNum, binA, binInt, List.take, List.drop, fidx, RI]
    change _ = _
    kernel_rfl
  | cons y r =>
    have hi' := drop_lt hl
    have h1 : (0 ≤ (i : Int) ∧ (i : Int) < (l.length : Int)) := by omega
    have h2 := cl_at (k := .i64) hl
    have h4 := wrap_next hi' (show l.length ≤ 281474976710656 by omega)
    have h5 := fun sl up nx => hf y sl m up nx hu
    rw [hl] at hs
    simp only [fidx] at hs
    cases hp : p y with
    | true =>
      rw [if_pos hp] at hs
      rw [← hs]
      refine .inr ⟨?_, by simp [RI]⟩
      simp (maxSteps := 4000000) -implicitDefEqProofs [b128_0, SJ, x_seq, x_cond, x_block, x_region, x_skip, x_exit, x_ret, head_id, runG, runOps, doOp, wantB, stepOp, AO.eff, pureOp, St.get, St.one, St.num, St.put, St.optNum, binA, binInt, List.take, List.drop, getAll, fromRo, h1, h2, h4, h5, hi', hp, RI]
      simp only [head, killSlots, Bool.false_eq_true, if_false, List.set, XS.mk.injEq, true_and]
      omega
    | false =>
      rw [if_neg (by simp [hp])] at hs
      refine .inl ⟨i + 1, ?_, by omega, hi', by rw [drop_next hl]; exact hs⟩
      simp (maxSteps := 4000000) -implicitDefEqProofs [b128_0, SJ, x_seq, x_cond, x_block, x_region, x_skip, x_exit, x_ret, head_id, runG, runOps, doOp, wantB, stepOp, AO.eff, pureOp, St.get, St.one, St.num, St.put, St.optNum, binA, binInt, List.take, List.drop, getAll, fromRo, h1, h2, h4, h5, hi', hp]
      change _ = _
      kernel_rfl
theorem t_IndexR (l : List Int) (u : Nat) (f : FuncId) (a : Int) (p : Int → Bool) (c : Nat) (hf : LooksC f u a p c) (hn : l.length ≤ 1048576) (sl : List SV) (m : Mem) (up : List SV) (nx : Nat) (hu : m u = some (.box [.int .i64 a])) :
    runThru (X tab) tab 128 [.v false [.ro l.length (cl .i64 l)], .v false [.fn f [u]]] ⟨⟨sl, m, up⟩, nx⟩ = some (.v false [.int .i64 (match fidx p 0 l with | some j => (j : Int) | none => -1)], ⟨⟨sl, m, up⟩, nx + dI c (fidx p 0 l)⟩) := by
  unfold runThru
  simp (maxSteps := 4000000) -implicitDefEqProofs [tab128, a128, x_seq, x_cond, x_block, x_region, x_skip, x_exit, x_ret, head_id, runG, runOps, doOp, wantB, stepOp, AO.eff, pureOp, St.get, St.one, St.num, St.put, St.optNum, binA, binInt, List.take, List.drop]
  rw [loop_IndexR l u f a p c hf hn m (sl ++ up) (nx + 256) hu (by change _ = _; kernel_rfl)]
  cases fidx p 0 l with
  | none => simp (maxSteps := 4000000) -implicitDefEqProofs [RI, x_seq, x_cond, x_block, x_region, x_skip, x_exit, x_ret, head_id, runG, runOps, doOp, wantB, stepOp, AO.eff, pureOp, St.get, St.one, St.num, St.put, St.optNum, binA, binInt, List.take, List.drop, resOf, resSV, Nat.add_assoc, dI]
  | some j => simp (maxSteps := 4000000) -implicitDefEqProofs [RI, x_seq, x_cond, x_block, x_region, x_skip, x_exit, x_ret, head_id, runG, runOps, doOp, wantB, stepOp, AO.eff, pureOp, St.get, St.one, St.num, St.put, St.optNum, binA, binInt, List.take, List.drop, resOf, resSV, Nat.add_assoc, dI]
theorem f_Insert (t : Nat) (a : Int) : LooksC 136 t a (fun y => decide (a < y)) 320 := by
  intro y sl m up nx hm
  unfold runThru
  simp (maxSteps := 4000000) -implicitDefEqProofs [tab136, a136, x_seq, x_cond, x_block, x_region, x_skip, x_exit, x_ret, head_id, runG, runOps, doOp, wantB, stepOp, AO.eff, pureOp, St.get, St.one, St.num, St.put, St.optNum, binA, binInt, List.take, List.drop, hm, resOf, resSV]
/-- Where a number comes. -/
def place (l : List Int) (n : Int) : Nat := match fidx (fun y => decide (n < y)) 0 l with | some j => j | none => l.length
def put1 (l : List Int) (n : Int) : List Int := l.take (place l n) ++ n :: l.drop (place l n)
def insF (l : List Int) (n : Int) : List Int := if n ∈ l then l else put1 l n
theorem fidx_le {p : Int → Bool} {l : List Int} : ∀ {i j : Nat}, fidx p i l = some j → j < i + l.length := by
  induction l with
  | nil => intro i j h; cases h
  | cons y r ih =>
    intro i j h
    simp only [fidx] at h
    split at h
    · cases h; simp
    · have := ih h; simp; omega
theorem place_le (l : List Int) (n : Int) : place l n ≤ l.length := by
  unfold place
  split
  · rename_i j hj; have := fidx_le hj; omega
  · exact Nat.le_refl _
theorem put1_length (l : List Int) (n : Int) : (put1 l n).length = l.length + 1 := by
  have := place_le l n
  simp [put1]
  omega
theorem r_inserted (l : List Int) (hn : l.length ≤ 1000000) (n : Int) (h : ¬ n ∈ l) : runRO (X tab) tab 133 [.v false [.ro l.length (cl .i64 l)], .v false [.int .i64 n]] = some (.v false [.sl 0 [] 0 (l.length + 1)], [.row 1 (cl .i64 (put1 l n))]) := by
  have hc := r_Contains l n (by omega)
  rw [decide_eq_false h] at hc
  have hk := place_le l n
  have c1 : ∀ a : Int, cl .i64 [a] = [.int .i64 a] := fun _ => rfl
  have hb : (l.length + 1) * 8 ≤ 140737488355328 := by omega
  have hcl : (cl .i64 l).length = l.length := cl_length
  have hput : ∀ k, (cl .i64 l).take k ++ (Cell.int .i64 n :: (cl .i64 l).drop k) = cl .i64 (l.take k ++ n :: l.drop k) := fun k => by rw [cl_take, cl_drop, ← cl_cons, cl_app]
  have hfl : (cl .i64 l).all Cell.flat = true := cl_flat
  have hx := fun u sl m up nx => t_IndexR l u 136 n (fun y => decide (n < y)) 320 (f_Insert u n) (by omega) sl m up nx
  unfold runRO
  by_cases he : l = []
  · subst he
    have h9 := r_CloneI_nil
    simp only [List.length_nil, cl_nil] at hc hx ⊢
    simp (maxSteps := 4000000) -implicitDefEqProofs [tab133, a133, x_seq, x_cond, x_block, x_region, x_skip, x_exit, x_ret, head_id, runG, runOps, doOp, wantB, stepOp, AO.eff, pureOp, St.get, St.one, St.num, St.put, St.optNum, binA, binInt, List.take, List.drop, effOp2, effOp, memL_app, stoRow, cellsAt, toCells, toCell, scalar_int, scalar_bool, scalar_str, scalar_sl, updAt, fromRo, upd, srcCells, A1.slB, flat_int, cl_flat', St.parts, Eng.inB, reps, fillA, newRowSt, appSt, oldOf, rest, kill, mapMem, SV.map, Ob.map, callRO, addMem_nil, roArgs, roL, roA, srcCells, A1.ownB, addMem, shift, ren, SV.map, Ob.map, Ob.noRo, SV.noRo, A1.noRo, List.range, List.range.loop, resOf, resSV, SV.map, SV.ids, A1.ids, reach, allObs, ren, pos, Ob.map, St.canon, memL, List.range, List.range.loop, getAll, hc, h9, hx, fidx, insOp, tab137, a137, insSt, put1, place, cl, St.boxes, boxOf, dI]
  · have h9 := r_CloneI l he (by omega)
    cases hf : fidx (fun y => decide (n < y)) 0 l with
    | none =>
      have hp : place l n = l.length := by unfold place; rw [hf]
      have hput' := hput l.length
      rw [hf] at hx
      unfold put1
      rw [hp]
      simp (maxSteps := 4000000) -implicitDefEqProofs [tab133, a133, x_seq, x_cond, x_block, x_region, x_skip, x_exit, x_ret, head_id, runG, runOps, doOp, wantB, stepOp, AO.eff, pureOp, St.get, St.one, St.num, St.put, St.optNum, binA, binInt, List.take, List.drop, effOp2, effOp, memL_app, stoRow, cellsAt, toCells, toCell, scalar_int, scalar_bool, scalar_str, scalar_sl, updAt, fromRo, upd, srcCells, A1.slB, flat_int, cl_flat', St.parts, Eng.inB, reps, fillA, newRowSt, appSt, oldOf, rest, kill, mapMem, SV.map, Ob.map, callRO, addMem_nil, roArgs, roL, roA, srcCells, A1.ownB, addMem, shift, ren, SV.map, Ob.map, Ob.noRo, SV.noRo, A1.noRo, List.range, List.range.loop, resOf, resSV, SV.map, SV.ids, A1.ids, reach, allObs, ren, pos, Ob.map, St.canon, memL, List.range, List.range.loop, getAll, hc, h9, hx, hf, insOp, tab137, a137, insSt, hp, hcl, hfl, hb, hput', cl_ex, St.boxes, boxOf, dI]
    | some j =>
      have hp : place l n = j := by unfold place; rw [hf]
      have hj := fidx_le hf
      have hj' : j ≤ l.length := by omega
      have hneg : ¬ (j : Int) < 0 := by omega
      have hput' := hput j
      rw [hf] at hx
      unfold put1
      rw [hp]
      simp (maxSteps := 4000000) -implicitDefEqProofs [tab133, a133, x_seq, x_cond, x_block, x_region, x_skip, x_exit, x_ret, head_id, runG, runOps, doOp, wantB, stepOp, AO.eff, pureOp, St.get, St.one, St.num, St.put, St.optNum, binA, binInt, List.take, List.drop, effOp2, effOp, memL_app, stoRow, cellsAt, toCells, toCell, scalar_int, scalar_bool, scalar_str, scalar_sl, updAt, fromRo, upd, srcCells, A1.slB, flat_int, cl_flat', St.parts, Eng.inB, reps, fillA, newRowSt, appSt, oldOf, rest, kill, mapMem, SV.map, Ob.map, callRO, addMem_nil, roArgs, roL, roA, srcCells, A1.ownB, addMem, shift, ren, SV.map, Ob.map, Ob.noRo, SV.noRo, A1.noRo, List.range, List.range.loop, resOf, resSV, SV.map, SV.ids, A1.ids, reach, allObs, ren, pos, Ob.map, St.canon, memL, List.range, List.range.loop, getAll, hc, h9, hx, hf, insOp, tab137, a137, insSt, hp, hcl, hfl, hb, hj', hneg, hput', cl_ex, St.boxes, boxOf, dI]
theorem r_Mark (l : List Int) (hn : l.length ≤ 1000000) (n : Int) (hr : rng n 0 7 = true) (h : ¬ n ∈ l) : runRO (X tab) tab 119 [.v false [.ro l.length (cl .i64 l)], .v false [.int .i64 n]] = some (.v false [.sl 0 [] 0 (l.length + 1)], [.row 1 (cl .i64 (put1 l n))]) := by
  have h1 := r_isCell n
  rw [hr] at h1
  have h2 := r_inserted l hn n h
  unfold runRO
  simp (maxSteps := 4000000) -implicitDefEqProofs [tab119, a119, x_seq, x_cond, x_block, x_region, x_skip, x_exit, x_ret, head_id, runG, runOps, doOp, wantB, stepOp, AO.eff, pureOp, St.get, St.one, St.num, St.put, St.optNum, binA, binInt, List.take, List.drop, callRO, addMem_nil, roArgs, roL, roA, srcCells, A1.ownB, addMem, shift, ren, SV.map, Ob.map, Ob.noRo, SV.noRo, A1.noRo, List.range, List.range.loop, resOf, resSV, SV.map, SV.ids, A1.ids, reach, allObs, ren, pos, Ob.map, St.canon, memL, List.range, List.range.loop, h1, h2]
/-- The cells of what is hot. -/
def hotM (l : List Int) : List Int := ((List.range 8).map fun (i : Nat) => (i : Int)).filter fun i => decide (extOf i ∈ l)
def hotC (l : List Int) : List Int := if hotOk l = true then hotM l else []
theorem hotOk_forms {l : List Int} (h : hotOk l = true) : l = [] ∨ (∃ a, (a = 0 ∨ a = 1 ∨ a = 2 ∨ a = 3) ∧ l = [a]) ∨ ∃ a b, (a = 0 ∨ a = 1 ∨ a = 2 ∨ a = 3) ∧ (b = 0 ∨ b = 1 ∨ b = 2 ∨ b = 3) ∧ a ≠ b ∧ l = [a, b] := by
  have h2 := hotOk_len h
  simp only [hotOk, Bool.and_eq_true] at h
  match l, h2, h.1 with
  | [], _, _ => exact .inl rfl
  | [a], _, h1 =>
    simp only [hotF, Bool.and_eq_true, Bool.and_true] at h1
    have := rng_iff.1 h1.1
    exact .inr (.inl ⟨a, by omega, rfl⟩)
  | [a, b], _, h1 =>
    simp only [hotF, Bool.and_eq_true, Bool.and_true, List.nil_append] at h1
    have r1 := rng_iff.1 h1.1.1
    have r2 := rng_iff.1 h1.2.1
    have r3 : b ≠ a := by simpa using h1.2.2
    exact .inr (.inr ⟨a, b, by omega, by omega, fun e => r3 e.symm, rfl⟩)
  | _ :: _ :: _ :: _, h, _ => simp at h
theorem mem_put1 {l : List Int} {n x : Int} : x ∈ put1 l n ↔ x = n ∨ x ∈ l := by
  unfold put1
  have h := List.take_append_drop (place l n) l
  constructor
  · intro hx
    simp only [List.mem_append, List.mem_cons] at hx
    rcases hx with hx | hx | hx
    · exact .inr (List.mem_of_mem_take hx)
    · exact .inl hx
    · exact .inr (List.mem_of_mem_drop hx)
  · intro hx
    simp only [List.mem_append, List.mem_cons]
    rcases hx with hx | hx
    · exact .inr (.inl hx)
    · rw [← h, List.mem_append] at hx
      rcases hx with hx | hx
      · exact .inl hx
      · exact .inr (.inr hx)
def mark2 (o : List Int) (e : Int) : List Int := put1 (put1 o (2 * e)) (2 * e + 1)
def outF (l : List Int) : List Int := l.foldl mark2 []
theorem outF_snoc (l : List Int) (e : Int) : outF (l ++ [e]) = mark2 (outF l) e := by simp [outF]
theorem mem_fold {x : Int} : ∀ (l o : List Int), x ∈ l.foldl mark2 o ↔ x ∈ o ∨ ∃ e ∈ l, x = 2 * e ∨ x = 2 * e + 1 := by
  intro l
  induction l with
  | nil => intro o; simp
  | cons y r ih =>
    intro o
    rw [List.foldl_cons, ih]
    simp only [mark2, mem_put1, List.mem_cons]
    constructor
    · rintro ((h | h | h) | ⟨e, he, h⟩)
      · exact .inr ⟨y, .inl rfl, .inr h⟩
      · exact .inr ⟨y, .inl rfl, .inl h⟩
      · exact .inl h
      · exact .inr ⟨e, .inr he, h⟩
    · rintro (h | ⟨e, rfl | he, h⟩)
      · exact .inl (.inr (.inr h))
      · rcases h with h | h
        · exact .inl (.inr (.inl h))
        · exact .inl (.inl h)
      · exact .inr ⟨e, he, h⟩
theorem outF_length : ∀ (l o : List Int), (l.foldl mark2 o).length = o.length + 2 * l.length := by
  intro l
  induction l with
  | nil => intro o; simp
  | cons y r ih => intro o; rw [List.foldl_cons, ih]; simp only [mark2, put1_length, List.length_cons]; omega
theorem hot_at {l : List Int} (h : hotOk l = true) {i : Nat} {y : Int} {r : List Int} (hd : l.drop i = y :: r) : (0 ≤ y ∧ y ≤ 3) ∧ ¬ y ∈ l.take i := by
  rcases hotOk_forms h with rfl | ⟨a, ha, rfl⟩ | ⟨a, b, ha, hb, hab, rfl⟩
  · simp at hd
  · match i, hd with
    | 0, hd =>
      simp at hd
      refine ⟨by omega, by simp⟩
    | i + 1, hd => simp at hd
  · match i, hd with
    | 0, hd =>
      simp at hd
      refine ⟨by omega, by simp⟩
    | 1, hd =>
      simp at hd
      refine ⟨by omega, ?_⟩
      simp
      omega
    | i + 2, hd => simp at hd
theorem outF_hot {l : List Int} (h : hotOk l = true) : outF l = hotM l := by
  rcases hotOk_forms h with rfl | ⟨a, ha, rfl⟩ | ⟨a, b, ha, hb, hab, rfl⟩
  · rfl
  · rcases ha with rfl | rfl | rfl | rfl <;> decide
  · rcases ha with rfl | rfl | rfl | rfl <;> rcases hb with rfl | rfl | rfl | rfl <;> first | exact absurd rfl hab | decide
def S_HotMarks (l : List Int) (i : Nat) : XS := ⟨⟨[.bad, .bad, .bad, .v false [.sl 0 [] 0 (outF (l.take i)).length], .bad, .bad, .bad, .bad, .bad, .bad, .bad, .v false [.ro l.length (cl .i64 l)], .v false [.int .i64 (l.length)], .v false [.int .i64 (i)], .bad, .bad, .bad, .bad, .bad, .bad, .bad, .bad, .bad, .bad, .bad, .bad, .bad], memL [some (.row 1 (cl .i64 (outF (l.take i))))], []⟩, 1⟩
def Z_HotMarks (l : List Int) : XS := ⟨⟨[.bad, .bad, .bad, .v false [.sl 0 [] 0 (outF l).length], .bad, .bad, .bad, .bad, .bad, .bad, .bad, .bad, .bad, .bad, .bad, .bad, .bad, .bad, .bad, .bad, .bad, .bad, .bad, .bad, .bad, .bad, .bad], memL [some (.row 1 (cl .i64 (outF l)))], []⟩, 1⟩
theorem loop_HotMarks (l : List Int) (hk : hotOk l = true) {x : XS} (hx : head true d64_0 x = S_HotMarks l 0) : X tab l64_0 x = some (.exit 0, Z_HotMarks l) := by
  have hl2 := hotOk_len hk
  refine loopN l.length (S_HotMarks l) _ (by simp) (fun i hi => ?_) ?_ (Nat.zero_le _) hx
  · obtain ⟨y, r, hd⟩ : ∃ y r, l.drop i = y :: r := ⟨_, _, List.drop_eq_getElem_cons hi⟩
    obtain ⟨hy, hny⟩ := hot_at hk hd
    have h1 : (0 ≤ (i : Int) ∧ (i : Int) < (l.length : Int)) := by omega
    have h2 := cl_at (k := .i64) hd
    have h4 : IntKind.i64.wrap ((i : Int) + 1) = ((i + 1 : Nat) : Int) := by rw [wrap_id (by omega) (by omega)]; omega
    have w1 : IntKind.i64.wrap (2 * y) = 2 * y := wrap_id (by omega) (by omega)
    have w2 : IntKind.i64.wrap (2 * y + 1) = 2 * y + 1 := wrap_id (by omega) (by omega)
    have hlen : (outF (l.take i)).length = 2 * (l.take i).length := by rw [outF, outF_length]; simp
    have hti : (l.take i).length ≤ 2 := by rw [List.length_take]; omega
    have n1 : ¬ 2 * y ∈ outF (l.take i) := by
      intro hm
      rw [outF, mem_fold] at hm
      rcases hm with hm | ⟨e, he, hm⟩
      · simp at hm
      · have : y = e := by omega
        exact hny (this ▸ he)
    have n2 : ¬ 2 * y + 1 ∈ put1 (outF (l.take i)) (2 * y) := by
      rw [mem_put1]
      rintro (hm | hm)
      · omega
      · rw [outF, mem_fold] at hm
        rcases hm with hm | ⟨e, he, hm⟩
        · simp at hm
        · have : y = e := by omega
          exact hny (this ▸ he)
    have g1 := r_Mark (outF (l.take i)) (by omega) (2 * y) (rng_iff.2 (by omega)) n1
    have g2 := r_Mark (put1 (outF (l.take i)) (2 * y)) (by rw [put1_length]; omega) (2 * y + 1) (rng_iff.2 (by omega)) n2
    have hs : outF (l.take (i + 1)) = put1 (put1 (outF (l.take i)) (2 * y)) (2 * y + 1) := by rw [take_next hd, outF_snoc]; rfl
    have k1 := put1_length (outF (l.take i)) (2 * y)
    have k2 := put1_length (put1 (outF (l.take i)) (2 * y)) (2 * y + 1)
    simp only [S_HotMarks, hs]
    generalize put1 (put1 (outF (l.take i)) (2 * y)) (2 * y + 1) = p2 at g2 k2 ⊢
    generalize put1 (outF (l.take i)) (2 * y) = p1 at g1 g2 k1 k2
    generalize outF (l.take i) = p0 at g1 k1 ⊢
    rw [← k1] at g1
    rw [← k2] at g2
    have u0 : (cl .i64 p0).take p0.length = cl .i64 p0 := cl_self
    have u1 : (cl .i64 p1).take p1.length = cl .i64 p1 := cl_self
    simp (maxSteps := 4000000) -implicitDefEqProofs [b64_0, x_seq, x_cond, x_block, x_region, x_skip, x_exit, x_ret, head_id, runG, runOps, doOp, wantB, stepOp, AO.eff, pureOp, St.get, St.one, St.num, St.put, St.optNum, binA, binInt, List.take, List.drop, callRO, addMem_nil, roArgs, roL, roA, srcCells, A1.ownB, addMem, shift, ren, SV.map, Ob.map, Ob.noRo, SV.noRo, A1.noRo, List.range, List.range.loop, fromRo, h1, h2, h4, w1, w2, g1, g2, u0, u1, cellsAt, memL_app, cl_length, hi]
    change _ = _
    kernel_rfl
  · simp only [S_HotMarks, List.take_length]
    simp (maxSteps := 4000000) -implicitDefEqProofs [b64_0, x_seq, x_cond, x_block, x_region, x_skip, x_exit, x_ret, head_id, runG, runOps, doOp, wantB, stepOp, AO.eff, pureOp, St.get, St.one, St.num, St.put, St.optNum, binA, binInt, List.take, List.drop, Z_HotMarks]
    change _ = _
    kernel_rfl
theorem r_HotMarks (l : List Int) (hn : l.length ≤ 1048576) : runRO (X tab) tab 64 [.v false [.ro l.length (cl .i64 l)]] = some (.v false [.sl 0 [] 0 (hotC l).length], [.row 1 (cl .i64 (hotC l))]) := by
  have h1 := r_HotOk l hn
  unfold runRO
  cases hk : hotOk l with
  | false =>
    rw [hk] at h1
    rw [show hotC l = [] by simp [hotC, hk]]
    simp (maxSteps := 4000000) -implicitDefEqProofs [tab64, a64, x_seq, x_cond, x_block, x_region, x_skip, x_exit, x_ret, head_id, runG, runOps, doOp, wantB, stepOp, AO.eff, pureOp, St.get, St.one, St.num, St.put, St.optNum, binA, binInt, List.take, List.drop, effOp2, effOp, memL_app, stoRow, cellsAt, toCells, toCell, scalar_int, scalar_bool, scalar_str, scalar_sl, updAt, fromRo, upd, srcCells, A1.slB, flat_int, cl_flat', St.parts, Eng.inB, reps, fillA, newRowSt, appSt, oldOf, rest, kill, mapMem, SV.map, Ob.map, callRO, addMem_nil, roArgs, roL, roA, srcCells, A1.ownB, addMem, shift, ren, SV.map, Ob.map, Ob.noRo, SV.noRo, A1.noRo, List.range, List.range.loop, resOf, resSV, SV.map, SV.ids, A1.ids, reach, allObs, ren, pos, Ob.map, St.canon, memL, List.range, List.range.loop, h1, cl_nil]
  | true =>
    rw [hk] at h1
    rw [show hotC l = outF l by rw [outF_hot hk]; simp [hotC, hk]]
    simp (maxSteps := 4000000) -implicitDefEqProofs [tab64, a64, x_seq, x_cond, x_block, x_region, x_skip, x_exit, x_ret, head_id, runG, runOps, doOp, wantB, stepOp, AO.eff, pureOp, St.get, St.one, St.num, St.put, St.optNum, binA, binInt, List.take, List.drop, effOp2, effOp, memL_app, stoRow, cellsAt, toCells, toCell, scalar_int, scalar_bool, scalar_str, scalar_sl, updAt, fromRo, upd, srcCells, A1.slB, flat_int, cl_flat', St.parts, Eng.inB, reps, fillA, newRowSt, appSt, oldOf, rest, kill, mapMem, SV.map, Ob.map, callRO, addMem_nil, roArgs, roL, roA, srcCells, A1.ownB, addMem, shift, ren, SV.map, Ob.map, Ob.noRo, SV.noRo, A1.noRo, List.range, List.range.loop, h1]
    rw [loop_HotMarks l hk (by change _ = _; kernel_rfl)]
    simp (maxSteps := 4000000) -implicitDefEqProofs [Z_HotMarks, x_seq, x_cond, x_block, x_region, x_skip, x_exit, x_ret, head_id, runG, runOps, doOp, wantB, stepOp, AO.eff, pureOp, St.get, St.one, St.num, St.put, St.optNum, binA, binInt, List.take, List.drop, effOp2, effOp, memL_app, stoRow, cellsAt, toCells, toCell, scalar_int, scalar_bool, scalar_str, scalar_sl, updAt, fromRo, upd, resOf, resSV, SV.map, SV.ids, A1.ids, reach, allObs, ren, pos, Ob.map, St.canon, memL, List.range, List.range.loop]
def fltM (l : List Int) (i : Nat) : List Int := ((List.range i).map fun (j : Nat) => (j : Int)).filter fun j => decide (extOf j ∈ l)
theorem fltM_succ (l : List Int) (i : Nat) : fltM l (i + 1) = if extOf (i : Int) ∈ l then fltM l i ++ [(i : Int)] else fltM l i := by
  simp only [fltM, List.range_succ, List.map_append, List.filter_append, List.map_cons, List.map_nil]
  by_cases h : extOf (i : Int) ∈ l <;> simp [h]
theorem fltM_length (l : List Int) (i : Nat) : (fltM l i).length ≤ i := Nat.le_trans (List.length_filter_le _ _) (by simp)
def S_sHotMarks (l : List Int) (i : Nat) : XS := ⟨⟨[.v false [.ro l.length (cl .i64 l)], .bad, .bad, .v false [.sl 0 [] 0 (fltM l i).length], .v false [.int .i64 (i)], .bad, .bad, .bad, .bad, .bad, .bad, .bad, .bad, .bad, .bad, .bad, .bad, .bad, .bad, .bad, .bad, .bad, .bad], memL [some (.row 1 (cl .i64 (fltM l i)))], []⟩, 1⟩
def Z_sHotMarks (c : List Int) : XS := ⟨⟨[.bad, .bad, .bad, .v false [.sl 0 [] 0 c.length], .bad, .bad, .bad, .bad, .bad, .bad, .bad, .bad, .bad, .bad, .bad, .bad, .bad, .bad, .bad, .bad, .bad, .bad, .bad], memL [some (.row 1 (cl .i64 c))], []⟩, 1⟩
theorem loop_sHotMarks (l : List Int) (hn : l.length ≤ 1048576) (hk : hotOk l = true) {x : XS} (hx : head true d65_0 x = S_sHotMarks l 0) : X tab l65_0 x = some (.exit 0, Z_sHotMarks (fltM l 8)) := by
  have h9 := r_sHotOk l hn
  rw [hk] at h9
  refine loopN 8 (S_sHotMarks l) _ (by simp) (fun i hi => ?_) ?_ (Nat.zero_le _) hx
  · have h1 : (i : Int) < 8 := by omega
    have h4 : IntKind.i64.wrap ((i : Int) + 1) = ((i + 1 : Nat) : Int) := by rw [wrap_id (by omega) (by omega)]; omega
    have h5 := r_sExtOf (i : Int)
    have h6 := r_l2Has l (extOf (i : Int)) hn
    have hfl := fltM_length l i
    have a1 : ((fltM l i).length + 1) * 8 ≤ 140737488355328 := by omega
    simp only [S_sHotMarks, fltM_succ]
    by_cases hm : extOf (i : Int) ∈ l
    · rw [decide_eq_true hm] at h6
      rw [if_pos hm]
      generalize fltM l i = c at a1
      have a2 : (cl .i64 c).length = c.length := cl_length
      simp (maxSteps := 4000000) -implicitDefEqProofs [b65_0, x_seq, x_cond, x_block, x_region, x_skip, x_exit, x_ret, head_id, runG, runOps, doOp, wantB, stepOp, AO.eff, pureOp, St.get, St.one, St.num, St.put, St.optNum, binA, binInt, List.take, List.drop, effOp2, effOp, memL_app, stoRow, cellsAt, toCells, toCell, scalar_int, scalar_bool, scalar_str, scalar_sl, updAt, fromRo, upd, srcCells, A1.slB, flat_int, cl_flat', St.parts, Eng.inB, reps, fillA, newRowSt, appSt, oldOf, rest, kill, mapMem, SV.map, Ob.map, callRO, addMem_nil, roArgs, roL, roA, srcCells, A1.ownB, addMem, shift, ren, SV.map, Ob.map, Ob.noRo, SV.noRo, A1.noRo, List.range, List.range.loop, h1, h4, h5, h6, h9, a1, a2, cl_app1, -Int.natCast_add]
      change _ = _
      kernel_rfl
    · rw [decide_eq_false hm] at h6
      rw [if_neg hm]
      generalize fltM l i = c at a1
      simp (maxSteps := 4000000) -implicitDefEqProofs [b65_0, x_seq, x_cond, x_block, x_region, x_skip, x_exit, x_ret, head_id, runG, runOps, doOp, wantB, stepOp, AO.eff, pureOp, St.get, St.one, St.num, St.put, St.optNum, binA, binInt, List.take, List.drop, effOp2, effOp, memL_app, stoRow, cellsAt, toCells, toCell, scalar_int, scalar_bool, scalar_str, scalar_sl, updAt, fromRo, upd, srcCells, A1.slB, flat_int, cl_flat', St.parts, Eng.inB, reps, fillA, newRowSt, appSt, oldOf, rest, kill, mapMem, SV.map, Ob.map, callRO, addMem_nil, roArgs, roL, roA, srcCells, A1.ownB, addMem, shift, ren, SV.map, Ob.map, Ob.noRo, SV.noRo, A1.noRo, List.range, List.range.loop, h1, h4, h5, h6, h9, -Int.natCast_add]
      change _ = _
      kernel_rfl
  · simp (maxSteps := 4000000) -implicitDefEqProofs [b65_0, S_sHotMarks, x_seq, x_cond, x_block, x_region, x_skip, x_exit, x_ret, head_id, runG, runOps, doOp, wantB, stepOp, AO.eff, pureOp, St.get, St.one, St.num, St.put, St.optNum, binA, binInt, List.take, List.drop, effOp2, effOp, memL_app, stoRow, cellsAt, toCells, toCell, scalar_int, scalar_bool, scalar_str, scalar_sl, updAt, fromRo, upd, srcCells, A1.slB, flat_int, cl_flat', St.parts, Eng.inB, reps, fillA, newRowSt, appSt, oldOf, rest, kill, mapMem, SV.map, Ob.map, callRO, addMem_nil, roArgs, roL, roA, srcCells, A1.ownB, addMem, shift, ren, SV.map, Ob.map, Ob.noRo, SV.noRo, A1.noRo, List.range, List.range.loop, h9, Z_sHotMarks]
    change _ = _
    kernel_rfl
theorem loop_sHotMarks_bad (l : List Int) (h9 : runRO (X tab) tab 63 [.v false [.ro l.length (cl .i64 l)]] = some (.v false [.bool false], [])) {x : XS} (hx : head true d65_0 x = S_sHotMarks l 0) : X tab l65_0 x = some (.exit 0, Z_sHotMarks []) := by
  refine loopN 0 (S_sHotMarks l) _ (by simp) (fun i hi => by omega) ?_ (Nat.le_refl 0) hx
  simp (maxSteps := 4000000) -implicitDefEqProofs [b65_0, S_sHotMarks, x_seq, x_cond, x_block, x_region, x_skip, x_exit, x_ret, head_id, runG, runOps, doOp, wantB, stepOp, AO.eff, pureOp, St.get, St.one, St.num, St.put, St.optNum, binA, binInt, List.take, List.drop, effOp2, effOp, memL_app, stoRow, cellsAt, toCells, toCell, scalar_int, scalar_bool, scalar_str, scalar_sl, updAt, fromRo, upd, srcCells, A1.slB, flat_int, cl_flat', St.parts, Eng.inB, reps, fillA, newRowSt, appSt, oldOf, rest, kill, mapMem, SV.map, Ob.map, callRO, addMem_nil, roArgs, roL, roA, srcCells, A1.ownB, addMem, shift, ren, SV.map, Ob.map, Ob.noRo, SV.noRo, A1.noRo, List.range, List.range.loop, h9, Z_sHotMarks, fltM]
  change _ = _
  kernel_rfl
theorem r_sHotMarks (l : List Int) (hn : l.length ≤ 1048576) : runRO (X tab) tab 65 [.v false [.ro l.length (cl .i64 l)]] = some (.v false [.sl 0 [] 0 (hotC l).length], [.row 1 (cl .i64 (hotC l))]) := by
  have h1 := r_sHotOk l hn
  unfold runRO
  cases hk : hotOk l with
  | false =>
    rw [hk] at h1
    rw [show hotC l = [] by simp [hotC, hk]]
    simp (maxSteps := 4000000) -implicitDefEqProofs [tab65, a65, x_seq, x_cond, x_block, x_region, x_skip, x_exit, x_ret, head_id, runG, runOps, doOp, wantB, stepOp, AO.eff, pureOp, St.get, St.one, St.num, St.put, St.optNum, binA, binInt, List.take, List.drop, effOp2, effOp, memL_app, stoRow, cellsAt, toCells, toCell, scalar_int, scalar_bool, scalar_str, scalar_sl, updAt, fromRo, upd, srcCells, A1.slB, flat_int, cl_flat', St.parts, Eng.inB, reps, fillA, newRowSt, appSt, oldOf, rest, kill, mapMem, SV.map, Ob.map]
    rw [loop_sHotMarks_bad l h1 (by change _ = _; kernel_rfl)]
    simp (maxSteps := 4000000) -implicitDefEqProofs [Z_sHotMarks, x_seq, x_cond, x_block, x_region, x_skip, x_exit, x_ret, head_id, runG, runOps, doOp, wantB, stepOp, AO.eff, pureOp, St.get, St.one, St.num, St.put, St.optNum, binA, binInt, List.take, List.drop, effOp2, effOp, memL_app, stoRow, cellsAt, toCells, toCell, scalar_int, scalar_bool, scalar_str, scalar_sl, updAt, fromRo, upd, resOf, resSV, SV.map, SV.ids, A1.ids, reach, allObs, ren, pos, Ob.map, St.canon, memL, List.range, List.range.loop, cl_nil]
  | true =>
    rw [show hotC l = fltM l 8 by simp [hotC, hk, fltM, hotM]]
    simp (maxSteps := 4000000) -implicitDefEqProofs [tab65, a65, x_seq, x_cond, x_block, x_region, x_skip, x_exit, x_ret, head_id, runG, runOps, doOp, wantB, stepOp, AO.eff, pureOp, St.get, St.one, St.num, St.put, St.optNum, binA, binInt, List.take, List.drop, effOp2, effOp, memL_app, stoRow, cellsAt, toCells, toCell, scalar_int, scalar_bool, scalar_str, scalar_sl, updAt, fromRo, upd, srcCells, A1.slB, flat_int, cl_flat', St.parts, Eng.inB, reps, fillA, newRowSt, appSt, oldOf, rest, kill, mapMem, SV.map, Ob.map]
    rw [loop_sHotMarks l hn hk (by change _ = _; kernel_rfl)]
    simp (maxSteps := 4000000) -implicitDefEqProofs [Z_sHotMarks, x_seq, x_cond, x_block, x_region, x_skip, x_exit, x_ret, head_id, runG, runOps, doOp, wantB, stepOp, AO.eff, pureOp, St.get, St.one, St.num, St.put, St.optNum, binA, binInt, List.take, List.drop, effOp2, effOp, memL_app, stoRow, cellsAt, toCells, toCell, scalar_int, scalar_bool, scalar_str, scalar_sl, updAt, fromRo, upd, resOf, resSV, SV.map, SV.ids, A1.ids, reach, allObs, ren, pos, Ob.map, St.canon, memL, List.range, List.range.loop]
end Go.Proofs.Ytdagbeihjobmjaa.Eng.R
