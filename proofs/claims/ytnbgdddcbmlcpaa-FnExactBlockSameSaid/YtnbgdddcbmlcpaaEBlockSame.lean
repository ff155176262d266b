/- The program's BlockSame answers as the reference's does: the law's own code, on the interpreter, for all rows of bytes. -/
import Derived.Test.YtnbgdddcbmlcpaaTBlockSame
import Derived.Test.YtnbgdddcbmlcpaaEng29
namespace Go.Proofs.Ytnbgdddcbmlcpaa.Eng.BlockSame
set_option linter.unusedSimpArgs false
open Go.RowKit Go.Proofs
section
variable {T : FuncId → Option AFun} {k : Nat} {x : XS}
theorem x_seq {a b : ACode} : exec T (k + 1) (.seq a b) x = match exec T k a x with | some (.nrm, y) => exec T k b y | r => r := by rw [exec]; rfl
theorem x_cond {c : AX} {a b : ACode} : exec T (k + 1) (.cond c a b) x = match x.st.one c with | some (.bool t) => if t = true then exec T k a x else exec T k b x | _ => none := by rw [exec]; rfl
theorem x_block {i : Nat} {b : ACode} : exec T (k + 1) (.block i b) x = match exec T k b x with | some (.exit j, y) => if j = i then some (.nrm, y) else some (.exit j, y) | r => r := by rw [exec]; rfl
end
def bods : ACode → ACode
  | .seq _ (.seq _ (.seq (.seq _ (.block _ b)) _)) => b
  | c => c
def inner : ACode → ACode
  | .loop _ _ b => b
  | c => c
def S18 (n : Nat) (cs : List Cell) (i : Int) (row : List Cell) : XS :=
  ⟨⟨[.v false [.ro n cs], .bad, .bad, .v false [.sl 0 [] 0 n], .v false [.int .i64 i], .bad, .bad, .bad, .bad, .bad, .bad, .bad, .bad, .bad, .bad, .bad, .bad, .bad, .bad, .bad, .bad, .bad], memL [some (.row 1 row)], []⟩, 1⟩
theorem head18 (n : Nat) (cs : List Cell) (i : Int) (row : List Cell) : head true [1, 2, 5, 6, 7, 8, 9, 10, 11, 12, 13, 14, 15, 16, 17, 18, 19, 20, 21] (S18 n cs i row) = S18 n cs i row := by
  kernel_rfl
theorem round18 (k n : Nat) (cs : List Cell) (i : Nat) (row : List Cell) (x : Int) (hi : i < n) (hc : cs.drop i = .int .u8 x :: cs.drop (i + 1)) (hr : row.length = n) :
    ∃ z, exec tab (k + 20) (inner (bods a18.body)) (S18 n cs i row) = some (.nrm, z) ∧ head true [1, 2, 5, 6, 7, 8, 9, 10, 11, 12, 13, 14, 15, 16, 17, 18, 19, 20, 21] z = S18 n cs (IntKind.i64.wrap ((i : Int) + 1)) (spl [.int .u8 x] i row) := by
  have h2 : (0 ≤ (i : Int) ∧ (i : Int) < (n : Int)) := by omega
  have h3 : i + 1 ≤ row.length := by omega
  simp [a18, bods, inner, S18, x_seq, x_cond, x_block, exec_region, exec_skip, exec_exit, runG, runOps, doOp, wantB, stepOp, AO.eff, pureOp, St.get, St.one, St.num, St.put, h2, hc, hi, h3, effOp2, effOp, memL, stoRow, cellsAt, toCells, toCell, A1.scalar, updAt, fromRo, binA, binInt]
  change _ = _
  kernel_rfl
theorem out18 (k n : Nat) (cs : List Cell) (row : List Cell) :
    ∃ z, exec tab (k + 20) (inner (bods a18.body)) (S18 n cs n row) = some (.exit 0, z) ∧ z.st.slots[3]? = some (.v false [.sl 0 [] 0 n]) ∧ z.st.mem 0 = some (.row 1 row) ∧ z.st.slots.length = 22 := by
  simp [a18, bods, inner, S18, x_seq, x_cond, x_block, exec_region, exec_skip, exec_exit, runG, runOps, doOp, wantB, stepOp, AO.eff, pureOp, St.get, St.one, St.num, St.put, binA, binInt, memL]
theorem toCells_reps {m : Mem} {a : A1} {c : Cell} (h : ∀ m, toCell m a = some (c, none)) (n : Nat) : toCells m (reps n [a]) = some (List.replicate n c, m, []) := by
  induction n with
  | zero => rfl
  | succ n ih => simp [reps, toCells, h, ih, List.replicate_succ]
def bs (l : List Int) : List Cell := l.map (Cell.int .u8)
theorem bs_drop {l : List Int} {i : Nat} (h : i < l.length) : (bs l).drop i = .int .u8 l[i] :: (bs l).drop (i + 1) := by
  unfold bs
  rw [← List.map_drop, ← List.map_drop, List.drop_eq_getElem_cons h]
  rfl
theorem wrap_i64 {i n : Nat} (h : i < n) (hn : n ≤ 281474976710656) : IntKind.i64.wrap ((i : Int) + 1) = ((i + 1 : Nat) : Int) := by
  rw [IntKind.wrap_i64]; omega
theorem spl_row {l : List Int} {i : Nat} (h : i < l.length) : spl [Cell.int .u8 l[i]] i (bs (l.take i ++ List.replicate (l.length - i) 0)) = bs (l.take (i + 1) ++ List.replicate (l.length - (i + 1)) 0) := by
  unfold spl bs
  rw [← List.take_append_getElem h]
  have h1 : l.length - i = (l.length - (i + 1)) + 1 := by omega
  rw [h1, List.replicate_succ]
  simp only [List.map_append, List.map_cons, List.map_nil]
  have hl : (List.map (Cell.int .u8) (l.take i)).length = i := by simp; omega
  rw [List.take_append_of_le_length (by omega), List.take_of_length_le (by omega), List.drop_append, hl]
  simp
  omega
theorem loop18 (l : List Int) (hn : l.length ≤ 281474976710656) : ∀ (d i : Nat), i ≤ l.length → l.length - i = d → ∀ x, head true [1, 2, 5, 6, 7, 8, 9, 10, 11, 12, 13, 14, 15, 16, 17, 18, 19, 20, 21] x = S18 l.length (bs l) i (bs (l.take i ++ List.replicate (l.length - i) 0)) →
    ∃ z, exec tab (d + 21) (bods a18.body) x = some (.exit 0, z) ∧ z.st.slots[3]? = some (.v false [.sl 0 [] 0 l.length]) ∧ z.st.mem 0 = some (.row 1 (bs l)) ∧ z.st.slots.length = 22 := by
  intro d
  induction d with
  | zero =>
    intro i hi hd x hx
    have : i = l.length := by omega
    subst this
    obtain ⟨z, h1, h2, h3, h4⟩ := out18 0 l.length (bs l) (bs (l.take l.length ++ List.replicate (l.length - l.length) 0))
    refine ⟨z, exec_loop_out (b := inner (bods a18.body)) hx h1 (by simp), h2, ?_, h4⟩
    rw [h3]
    simp
  | succ d ih =>
    intro i hi hd x hx
    obtain ⟨z, h1, h2⟩ := round18 (d + 1) l.length (bs l) i (bs (l.take i ++ List.replicate (l.length - i) 0)) l[i] (by omega) (bs_drop (by omega)) (by simp [bs]; omega)
    rw [wrap_i64 (n := l.length) (by omega) hn, spl_row (by omega)] at h2
    obtain ⟨z', k1, k2⟩ := ih (i + 1) (by omega) (by omega) z h2
    exact ⟨z', (exec_loop (b := inner (bods a18.body)) hx h1).trans k1, k2⟩
def X0 (l : List Int) : XS := ⟨⟨[.v false [.ro l.length (bs l)], .tup [], .v false [.nil], .v false [.sl 192 [] 0 l.length], .v false [.int .i64 0], .v false [.ro l.length (bs l)], .v false [.int .i64 l.length], .v false [.sl 192 [] 0 l.length], .tup [], .tup [], .tup [], .tup [], .tup [], .tup [], .tup [], .tup [], .tup [], .tup [], .tup [], .tup [], .tup [], .tup []],
  upd (fun _ => none) 192 (some (.row 1 (List.replicate l.length (.int .u8 0)))), []⟩, 384⟩
theorem toByteS (l : List Int) (hn : l.length ≤ 140737488351232) (k : Nat) : runRO (exec tab (l.length + 21 + k + 10)) tab 18 [.v false [.ro l.length (bs l)]] = some (.v false [.sl 0 [] 0 l.length], [.row 1 (bs l)]) := by
  have h1 : (l.length : Int) ≤ 281474976710656 := by omega
  have hl : ∀ j, exec tab (l.length + 21 + k + j) = exec tab (l.length + 21 + (k + j)) := fun j => by rw [Nat.add_assoc]
  simp [runRO, tab, a18, x_seq, x_cond, x_block, exec_region, exec_skip, exec_exit, exec_ret, runG, runOps, doOp, wantB, stepOp, AO.eff, pureOp, St.get, St.one, St.num, St.put, h1, effOp2, effOp, toCells_reps (a := .int .u8 0) (c := .int .u8 0) (fun _ => rfl), toCell, newRowSt]
  have hx : head true [1, 2, 5, 6, 7, 8, 9, 10, 11, 12, 13, 14, 15, 16, 17, 18, 19, 20, 21] (X0 l) = S18 l.length (bs l) 0 (bs (l.take 0 ++ List.replicate (l.length - 0) 0)) := by
    have e : bs (l.take 0 ++ List.replicate (l.length - 0) 0) = List.replicate l.length (Cell.int .u8 0) := by simp [bs]
    rw [e]
    change _ = _
    kernel_rfl
  obtain ⟨z, z1, z2, z3, z4⟩ := loop18 l (by omega) l.length 0 (by omega) (by omega) (X0 l) hx
  have z1' := exec_mono (show l.length + 21 ≤ l.length + 21 + k + 5 by omega) _ _ _ z1
  simp only [X0, bods, a18] at z1'
  rw [z1']
  obtain ⟨_, z5⟩ := List.getElem?_eq_some_iff.1 z2
  simp [z2, z3, z4, z5, resOf, resSV, SV.map, SV.ids, A1.ids, reach, allObs, St.canon, memL, ren, pos, List.range, List.range.loop, Ob.map]
theorem bs_nums (l : List Int) : numsOfCells (bs l) = some l := by
  induction l with
  | nil => rfl
  | cons x r ih => simp only [bs, List.map_cons, numsOfCells]; rw [show numsOfCells (List.map (Cell.int .u8) r) = some r from ih]; rfl
theorem bs_take (l : List Int) : (bs l).take l.length = bs l := by rw [List.take_of_length_le]; simp [bs]
theorem bs_length (l : List Int) : (bs l).length = l.length := by simp [bs]
theorem t17 (n : Nat) (cs : List Cell) (k : Nat) : runRO (exec tab (k + 5)) tab 17 [.v false [.ro n cs]] = some (.v false [.bool ((n : Int) == 8)], []) := by
  rfl
theorem t21 (l m : List Int) (k : Nat) : runRO (exec tab (k + 10)) tab 21 [.v false [.ro l.length (bs l)], .v false [.ro m.length (bs m)]] = some (.v false [.bool (((l.length : Int) == 8) && ((m.length : Int) == 8) && ((strOfNums l).toList == (strOfNums m).toList))], []) := by
  have e1 := fun j => t17 l.length (bs l) j
  have e2 := fun j => t17 m.length (bs m) j
  cases h1 : ((l.length : Int) == 8) <;> cases h2 : ((m.length : Int) == 8) <;> simp only [h1] at e1 <;> simp only [h2] at e2 <;> unfold runRO <;>
  simp [tab, a21, x_seq, x_cond, x_block, exec_region, exec_skip, exec_exit, exec_ret, runG, runOps, doOp, wantB, stepOp, AO.eff, pureOp, St.get, St.one, St.num, St.put, callRO, roArgs, roL, roA, e1, e2, srcCells, bs_nums, bs_take, bs_length, binA, binStr, A1.ownB, addMem, SV.map, ren, resOf, resSV, SV.ids, A1.ids, reach, allObs, h1, h2, List.range, List.range.loop]
theorem t19 (n : Nat) (cs : List Cell) (k : Nat) : runRO (exec tab (k + 5)) tab 19 [.v false [.ro n cs]] = some (.v false [.bool ((n : Int) == 8)], []) := by
  rfl
theorem t50 (l m : List Int) (k : Nat) : runRO (exec tab (k + 5)) tab 50 [.v false [.ro l.length (bs l)], .v false [.ro m.length (bs m)]] = some (.v false [.bool ((strOfNums l).toList == (strOfNums m).toList)], []) := by
  unfold runRO
  simp [tab, a50, x_seq, x_cond, x_block, exec_region, exec_skip, exec_exit, exec_ret, runG, runOps, doOp, wantB, stepOp, AO.eff, pureOp, St.get, St.one, St.num, St.put, srcCells, bs_nums, bs_take, bs_length, binA, binStr, SV.map, ren, resOf, resSV, SV.ids, A1.ids, reach, allObs, List.range, List.range.loop]
theorem t22 (l m : List Int) (k : Nat) : runRO (exec tab (k + 10)) tab 22 [.v false [.ro l.length (bs l)], .v false [.ro m.length (bs m)]] = some (.v false [.bool (((l.length : Int) == 8) && ((m.length : Int) == 8) && ((strOfNums l).toList == (strOfNums m).toList))], []) := by
  have e1 := fun j => t19 l.length (bs l) j
  have e2 := fun j => t19 m.length (bs m) j
  have e3 := fun j => t50 l m j
  cases h1 : ((l.length : Int) == 8) <;> cases h2 : ((m.length : Int) == 8) <;> simp only [h1] at e1 <;> simp only [h2] at e2 <;> unfold runRO <;>
  simp [tab, a22, x_seq, x_cond, x_block, exec_region, exec_skip, exec_exit, exec_ret, runG, runOps, doOp, wantB, stepOp, AO.eff, pureOp, St.get, St.one, St.num, St.put, callRO, roArgs, roL, roA, e1, e2, e3, srcCells, bs_nums, bs_take, bs_length, binA, binStr, A1.ownB, addMem, SV.map, ren, resOf, resSV, SV.ids, A1.ids, reach, allObs, h1, h2, List.range, List.range.loop]
def lp20 : ACode := match a20.body with
  | .seq _ (.seq _ (.seq (.seq _ (.block _ b)) _)) => b
  | c => c
def S20 (n : Nat) (cs : List Cell) (i : Int) : XS :=
  ⟨⟨[.v false [.ro n cs], .v false [.ro n cs], .bad, .bad, .bad, .v false [.int .i64 i], .bad, .bad, .bad, .bad, .bad, .bad, .bad, .bad, .bad, .bad, .bad, .bad, .bad, .bad, .bad, .bad, .bad, .bad, .bad, .bad], memL [], []⟩, 0⟩
theorem round20 (k n : Nat) (cs : List Cell) (i : Nat) (x : Int) (hi : i < n) (hc : cs.drop i = .int .u8 x :: cs.drop (i + 1)) :
    ∃ z, exec tab (k + 20) (inner lp20) (S20 n cs i) = some (.nrm, z) ∧ head true [2, 3, 4, 6, 7, 8, 9, 10, 11, 12, 13, 14, 15, 16, 17, 18, 19, 20, 21, 22, 23, 24, 25] z = S20 n cs (IntKind.i64.wrap ((i : Int) + 1)) := by
  have h2 : (0 ≤ (i : Int) ∧ (i : Int) < (n : Int)) := by omega
  have hf : ∀ d, freshB (memL []) d = true := fun d => by simp [freshB, memL]
  simp [lp20, a20, inner, S20, x_seq, x_cond, x_block, exec_region, exec_skip, exec_exit, runG, gOp, gRes, gEff, hf, addObs_nil, runOps, doOp, wantB, stepOp, AO.eff, pureOp, St.get, St.one, St.num, St.put, h2, hc, hi, fromRo, binA, binInt]
  change _ = _
  kernel_rfl
theorem out20 (k n : Nat) (cs : List Cell) :
    ∃ z, exec tab (k + 20) (inner lp20) (S20 n cs n) = some (.exit 0, z) ∧ z.st.slots.length = 26 := by
  simp [lp20, a20, inner, S20, x_seq, x_cond, x_block, exec_region, exec_skip, exec_exit, runG, runOps, doOp, wantB, stepOp, AO.eff, pureOp, St.get, St.one, St.num, St.put, binA, binInt]
theorem loop20 (l : List Int) (hn : l.length ≤ 281474976710656) : ∀ (d i : Nat), i ≤ l.length → l.length - i = d → ∀ x, head true [2, 3, 4, 6, 7, 8, 9, 10, 11, 12, 13, 14, 15, 16, 17, 18, 19, 20, 21, 22, 23, 24, 25] x = S20 l.length (bs l) i →
    ∃ z, exec tab (d + 21) lp20 x = some (.exit 0, z) ∧ z.st.slots.length = 26 := by
  intro d
  induction d with
  | zero =>
    intro i hi hd x hx
    have : i = l.length := by omega
    subst this
    obtain ⟨z, h1, h2⟩ := out20 0 l.length (bs l)
    exact ⟨z, exec_loop_out (b := inner lp20) hx h1 (by simp), h2⟩
  | succ d ih =>
    intro i hi hd x hx
    obtain ⟨z, h1, h2⟩ := round20 (d + 1) l.length (bs l) i l[i] (by omega) (bs_drop (by omega))
    rw [wrap_i64 (n := l.length) (by omega) hn] at h2
    obtain ⟨z', k1, k2⟩ := ih (i + 1) (by omega) (by omega) z h2
    exact ⟨z', (exec_loop (b := inner lp20) hx h1).trans k1, k2⟩
def X20 (l : List Int) : XS := ⟨⟨[.v false [.ro l.length (bs l)], .v false [.ro l.length (bs l)], .tup [], .tup [], .v false [.bool false], .v false [.int .i64 0], .v false [.ro l.length (bs l)], .v false [.int .i64 l.length], .v false [.ro l.length (bs l)], .v false [.int .i64 l.length], .v false [.bool false], .tup [], .tup [], .tup [], .tup [], .tup [], .tup [], .tup [], .tup [], .tup [], .tup [], .tup [], .tup [], .tup [], .tup [], .tup []],
  fun _ => none, []⟩, 448⟩
theorem eqByteS (l : List Int) (hn : l.length ≤ 140737488351232) (k : Nat) : runRO (exec tab (l.length + 21 + k + 10)) tab 20 [.v false [.ro l.length (bs l)], .v false [.ro l.length (bs l)]] = some (.v false [.bool true], []) := by
  unfold runRO
  simp [tab, a20, x_seq, x_cond, x_block, exec_region, exec_skip, exec_exit, exec_ret, runG, runOps, doOp, wantB, stepOp, AO.eff, pureOp, St.get, St.one, St.num, St.put, binA, binInt]
  have hx : head true [2, 3, 4, 6, 7, 8, 9, 10, 11, 12, 13, 14, 15, 16, 17, 18, 19, 20, 21, 22, 23, 24, 25] (X20 l) = S20 l.length (bs l) 0 := by
    change _ = _
    kernel_rfl
  obtain ⟨z, z1, z4⟩ := loop20 l (by omega) l.length 0 (by omega) (by omega) (X20 l) hx
  have z1' := exec_mono (show l.length + 21 ≤ l.length + 21 + k + 5 by omega) _ _ _ z1
  simp only [X20, lp20, a20] at z1'
  rw [z1']
  simp [z4, resOf, resSV, SV.map, SV.ids, A1.ids, reach, allObs, ren, List.range, List.range.loop]
theorem law (l m : List Int) (hl : l.length ≤ 140737488351232) (hm : m.length ≤ 140737488351232) : ∃ K, runRO (exec tab K) tab 5 [.v false [.ro l.length (bs l)], .v false [.ro m.length (bs m)]] = some (.v false [.bool true], []) := by
  obtain ⟨N, hN⟩ : ∃ N, l.length + m.length + 40 ≤ N := ⟨_, Nat.le_refl _⟩
  refine ⟨N + 60, ?_⟩
  have t1 : ∀ j, runRO (exec tab (N + j)) tab 18 [.v false [.ro l.length (bs l)]] = some (.v false [.sl 0 [] 0 l.length], [.row 1 (bs l)]) := fun j => runRO_mono (exec_mono (by omega)) (toByteS l hl 0)
  have t2 : ∀ j, runRO (exec tab (N + j)) tab 18 [.v false [.ro m.length (bs m)]] = some (.v false [.sl 0 [] 0 m.length], [.row 1 (bs m)]) := fun j => runRO_mono (exec_mono (by omega)) (toByteS m hm 0)
  have q1 : ∀ j, runRO (exec tab (N + j)) tab 20 [.v false [.ro l.length (bs l)], .v false [.ro l.length (bs l)]] = some (.v false [.bool true], []) := fun j => runRO_mono (exec_mono (by omega)) (eqByteS l hl 0)
  have q2 : ∀ j, runRO (exec tab (N + j)) tab 20 [.v false [.ro m.length (bs m)], .v false [.ro m.length (bs m)]] = some (.v false [.bool true], []) := fun j => runRO_mono (exec_mono (by omega)) (eqByteS m hm 0)
  have s1 := fun j => runRO_mono (exec_mono (show 0 + 10 ≤ N + j by omega)) (t21 l m 0)
  have s2 := fun j => runRO_mono (exec_mono (show 0 + 10 ≤ N + j by omega)) (t22 l m 0)
  generalize hb : (((l.length : Int) == 8) && ((m.length : Int) == 8) && ((strOfNums l).toList == (strOfNums m).toList)) = b at s1 s2
  unfold runRO
  by_cases h1 : (l.length : Int) > 1048576
  · simp [tab, a5, x_seq, x_cond, x_block, exec_region, exec_skip, exec_exit, exec_ret, runG, runOps, doOp, wantB, stepOp, AO.eff, pureOp, St.get, St.one, St.num, St.put, binA, binInt, h1, resOf, resSV, SV.map, SV.ids, A1.ids, reach, allObs, ren, List.range, List.range.loop]
  · by_cases h2 : (m.length : Int) > 1048576
    · simp [tab, a5, x_seq, x_cond, x_block, exec_region, exec_skip, exec_exit, exec_ret, runG, runOps, doOp, wantB, stepOp, AO.eff, pureOp, St.get, St.one, St.num, St.put, binA, binInt, h1, h2, resOf, resSV, SV.map, SV.ids, A1.ids, reach, allObs, ren, List.range, List.range.loop]
    · simp [tab, a5, x_seq, x_cond, x_block, exec_region, exec_skip, exec_exit, exec_ret, runG, runOps, doOp, wantB, stepOp, AO.eff, pureOp, St.get, St.one, St.num, St.put, binA, binInt, h1, h2, resOf, resSV, SV.map, SV.ids, A1.ids, reach, allObs, ren, List.range, List.range.loop, callRO, roArgs, roL, roA, t1, t2, q1, q2, s1, s2, srcCells, bs_take, bs_length, A1.ownB, addMem, shift, Ob.map, Ob.noRo, SV.noRo, A1.noRo, cellsAt]
theorem walk (a0 : Option Addr) (len0 cap0 : Nat) (z0 : List Int) (a1 : Option Addr) (len1 cap1 : Nat) (z1 : List Int) (w : World)
    (w0 : (a0 = none ∧ len0 = 0 ∧ cap0 = 0 ∧ z0 = []) ∨ ∃ x, a0 = some x ∧ len0 ≤ cap0 ∧ cap0 ≤ maxLen ∧ z0.length = cap0 ∧ (∀ i, i < z0.length → w.cell? (x.add i) = some (.int .u8 (z0.getD i 0))) ∧ ∀ n ∈ z0, (Lit.int .u8 n).wf = true) (y0 : len0 * 1 ≤ 140737488351232)
    (w1 : (a1 = none ∧ len1 = 0 ∧ cap1 = 0 ∧ z1 = []) ∨ ∃ x, a1 = some x ∧ len1 ≤ cap1 ∧ cap1 ≤ maxLen ∧ z1.length = cap1 ∧ (∀ i, i < z1.length → w.cell? (x.add i) = some (.int .u8 (z1.getD i 0))) ∧ ∀ n ∈ z1, (Lit.int .u8 n).wf = true) (y1 : len1 * 1 ≤ 140737488351232) :
    Calls Try.prog 5 #[.slice a0 len0 cap0, .slice a1 len1 cap1] w fun e w' => e = .returned (.bool true) ∧ Below w.heap.size w w' := by
  have e0 : (z0.take len0).length = len0 := by
    rcases w0 with ⟨_, rfl, _, rfl⟩ | ⟨_, _, h1, _, h2, _⟩
    · rfl
    · simp; omega
  have e1 : (z1.take len1).length = len1 := by
    rcases w1 with ⟨_, rfl, _, rfl⟩ | ⟨_, _, h1, _, h2, _⟩
    · rfl
    · simp; omega
  obtain ⟨K, h⟩ := law (z0.take len0) (z1.take len1) (by omega) (by omega)
  rw [e0, e1] at h
  exact top (by kernel_rfl) tabOk (.cons (ro_row w0) (.cons (ro_row w1) .nil)) h
end Go.Proofs.Ytnbgdddcbmlcpaa.Eng.BlockSame
