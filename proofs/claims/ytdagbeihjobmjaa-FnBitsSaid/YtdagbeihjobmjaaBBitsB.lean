/- Marks as bytes, written and read. -/
import Derived.Test.YtdagbeihjobmjaaBOfRuns
import Derived.Test.YtdagbeihjobmjaaBTurnOf
namespace Go.Proofs.Ytdagbeihjobmjaa.Eng.B
set_option linter.unusedSimpArgs false
set_option linter.unusedVariables false
set_option maxHeartbeats 8000000
set_option maxRecDepth 100000
open Go.RowKit Go.Proofs

/-- The marks' bytes, where they are in form. -/
def bitsB (m : List Int) : List Int := putN (runs m).length ++ putAll (runs m)
theorem runs_rng {m : List Int} (h : marksOk m = true) : ∀ x ∈ runs m, 0 ≤ x ∧ x ≤ 2147483647 := by
  intro x hx
  have := (runs_good m h).2 x hx
  omega
theorem runs_pos {m : List Int} (h : marksOk m = true) : 0 < (runs m).length := by
  unfold runs
  rw [if_pos h]
  simp
theorem putN_len9 {n : Nat} (h : n ≤ 127) : (putN n).length = 1 := by
  unfold putN
  rw [initN, lastN, dif_neg (by omega), dif_neg (by omega)]
  rfl
theorem putAll_len : ∀ (l : List Int), (∀ x ∈ l, 0 ≤ x ∧ x ≤ 8) → (putAll l).length = l.length := by
  intro l
  induction l with
  | nil => intro _; rfl
  | cons y r ih =>
    intro h
    have hy := h y (by simp)
    simp only [putAll, List.length_append, List.length_cons]
    rw [putN_len9 (by omega), ih fun x hx => h x (by simp [hx])]
    omega
theorem r_putList (l : List Int) (hl : l.length ≤ 9) (h0 : 0 < l.length) (h8 : ∀ x ∈ l, 0 ≤ x ∧ x ≤ 8) : runRO (X tab) tab 123 [.v false [.ro l.length (cl .i64 l)]] = some (.v false [.sl 0 [] 0 (putN l.length ++ putAll l).length], [.row 1 (cl .u8 (putN l.length ++ putAll l))]) := by
  have g1 := r_putNums [(l.length : Int)] (by simp) (by intro x hx; simp at hx; omega)
  have g2 := r_putNums l (by omega) (fun x hx => by have := h8 x hx; omega)
  have e1 : putAll [(l.length : Int)] = putN l.length := by simp [putAll]
  have c1 : ∀ a : Int, cl .i64 [a] = [.int .i64 a] := fun _ => rfl
  rw [e1, c1] at g1
  simp only [List.length_cons, List.length_nil, Nat.zero_add] at g1
  have p1 := putN_len9 (n := l.length) (by omega)
  have p2 := putAll_len l h8
  generalize putN l.length = a at g1 p1 ⊢
  generalize putAll l = b at g2 p2 ⊢
  have u1 : (cl .u8 b).take b.length = cl .u8 b := cl_self
  have a1 : a.length + b.length ≤ 140737488355328 := by omega
  have b0 : ¬ b.length = 0 := by omega
  have b0' : ¬ b = [] := fun e => b0 (by rw [e]; rfl)
  have u2 : (cl .i64 l).take l.length = cl .i64 l := cl_self
  unfold runRO
  simp (maxSteps := 4000000) -implicitDefEqProofs [tab123, a123, x_seq, x_cond, x_block, x_region, x_skip, x_exit, x_ret, head_id, runG, runOps, doOp, wantB, stepOp, AO.eff, pureOp, St.get, St.one, St.num, St.put, St.optNum, binA, binInt, List.take, List.drop, effOp2, effOp, memL_app, stoRow, cellsAt, toCells, toCell, scalar_int, scalar_bool, scalar_str, scalar_sl, updAt, fromRo, upd, srcCells, A1.slB, flat_int, cl_flat', St.parts, Eng.inB, reps, fillA, newRowSt, appSt, oldOf, rest, kill, mapMem, SV.map, Ob.map, callRO, addMem_nil, roArgs, roL, roA, srcCells, A1.ownB, addMem, shift, ren, SV.map, Ob.map, Ob.noRo, SV.noRo, A1.noRo, List.range, List.range.loop, resOf, resSV, SV.map, SV.ids, A1.ids, reach, allObs, ren, pos, Ob.map, St.canon, memL, List.range, List.range.loop, cellsAt, g1, g2, a1, b0, b0', u1, u2, cl_length, cl_app, cl_ex, -List.length_append]
  simp
theorem r_BitsBytes (m : List Int) (hm : m.length ≤ 1048576) (h : marksOk m = true) : runRO (X tab) tab 78 [.v false [.ro m.length (cl .i64 m)]] = some (.v false [.sl 0 [] 0 (bitsB m).length], [.row 1 (cl .u8 (bitsB m))]) := by
  have g1 := r_MarksOk m hm
  rw [h] at g1
  have g2 := r_Runs m hm
  have g3 := r_putList (runs m) (runs_len m) (runs_pos h) (runs_good m h).2
  have u1 : (cl .i64 (runs m)).take (runs m).length = cl .i64 (runs m) := cl_self
  unfold bitsB
  generalize putN (runs m).length ++ putAll (runs m) = z at g3 ⊢
  generalize runs m = r at g2 g3 u1
  unfold runRO
  simp (maxSteps := 4000000) -implicitDefEqProofs [tab78, a78, x_seq, x_cond, x_block, x_region, x_skip, x_exit, x_ret, head_id, runG, runOps, doOp, wantB, stepOp, AO.eff, pureOp, St.get, St.one, St.num, St.put, St.optNum, binA, binInt, List.take, List.drop, callRO, addMem_nil, roArgs, roL, roA, srcCells, A1.ownB, addMem, shift, ren, SV.map, Ob.map, Ob.noRo, SV.noRo, A1.noRo, List.range, List.range.loop, resOf, resSV, SV.map, SV.ids, A1.ids, reach, allObs, ren, pos, Ob.map, St.canon, memL, List.range, List.range.loop, cellsAt, g1, g2, g3, u1, cl_length]
def S_sBB (r z : List Int) (s : Nat × List Int) : XS := ⟨⟨[.bad, .bad, .bad, .v false [.sl 0 [] 0 r.length], .v false [.sl 1 [] 0 s.2.length], .v false [.int .i64 (s.1)], .bad, .bad, .bad, .bad, .bad, .bad, .bad, .bad, .bad, .bad, .bad, .bad, .bad, .bad, .bad, .bad, .bad, .bad, .bad, .bad, .bad, .bad, .bad], memL [some (.row 1 (cl .i64 r)), some (.row 1 (cl .u8 s.2))], []⟩, 2⟩
def Z_sBB (z : List Int) : XS := ⟨⟨[.bad, .bad, .bad, .bad, .v false [.sl 0 [] 0 z.length], .bad, .bad, .bad, .bad, .bad, .bad, .bad, .bad, .bad, .bad, .bad, .bad, .bad, .bad, .bad, .bad, .bad, .bad, .bad, .bad, .bad, .bad, .bad, .bad], memL [some (.row 1 (cl .u8 z))], []⟩, 1⟩
theorem loop_sBB (r z0 : List Int) (hl : r.length ≤ 9) (h8 : ∀ x ∈ r, 0 ≤ x ∧ x ≤ 8) (hz : z0.length ≤ 5) {x : XS} (hx : head true d83_0 x = S_sBB r z0 (0, z0)) : X tab l83_0 x = some (.exit 0, Z_sBB (z0 ++ putAll r)) := by
  refine loopX (σ := Nat × List Int) (S_sBB r z0) (fun s => r.length - s.1) (fun s => s.1 ≤ r.length ∧ s.2.length ≤ 5 + s.1 ∧ s.2 ++ putAll (r.drop s.1) = z0 ++ putAll r) _ (fun ⟨i, acc⟩ ⟨hi, hlen, hs⟩ => ?_) (0, z0) ⟨Nat.zero_le _, by simp; omega, rfl⟩ x hx
  simp only at hi hlen hs
  cases hd : r.drop i with
  | nil =>
    obtain rfl := drop_end hd hi
    rw [hd] at hs
    simp only [putAll, List.append_nil] at hs
    rw [← hs]
    refine .inr ⟨?_, by simp⟩
    simp (maxSteps := 4000000) -implicitDefEqProofs [b83_0, S_sBB, x_seq, x_cond, x_block, x_region, x_skip, x_exit, x_ret, head_id, runG, runOps, doOp, wantB, stepOp, AO.eff, pureOp, St.get, St.one, St.num, St.put, St.optNum, binA, binInt, List.take, List.drop, Z_sBB]
    change _ = _
    kernel_rfl
  | cons y q =>
    have hi' := drop_lt hd
    have hy := h8 y (List.mem_of_mem_drop (by rw [hd]; simp : y ∈ r.drop i))
    obtain ⟨n, rfl⟩ : ∃ n : Nat, y = n := ⟨y.toNat, by omega⟩
    have h1 : (0 ≤ (i : Int) ∧ (i : Int) < (r.length : Int)) := by omega
    have h2 := fun t => cl_read (k := .i64) hd t []
    have h4 := wrap_next hi' (show r.length ≤ 281474976710656 by omega)
    have g1 := r_sPutNum n (by omega)
    have p1 := putN_len9 (n := n) (by omega)
    rw [hd] at hs
    simp only [putAll, Int.toNat_natCast] at hs
    refine .inl ⟨(i + 1, acc ++ putN n), ?_, by simp only; omega, hi', by simp; omega, by rw [drop_next hd]; simp only [List.append_assoc]; exact hs⟩
    generalize putN n = c at g1 p1
    have u1 : (cl .u8 c).take c.length = cl .u8 c := cl_self
    have a1 : acc.length + c.length ≤ 140737488355328 := by omega
    have c0 : ¬ c.length = 0 := by omega
    have c0' : ¬ c = [] := fun e => c0 (by rw [e]; rfl)
    have a2 : (cl .u8 acc).length = acc.length := cl_length
    simp only [S_sBB, List.length_append, ← cl_app]
    simp (maxSteps := 4000000) -implicitDefEqProofs [b83_0, x_seq, x_cond, x_block, x_region, x_skip, x_exit, x_ret, head_id, runG, runOps, doOp, wantB, stepOp, AO.eff, pureOp, St.get, St.one, St.num, St.put, St.optNum, binA, binInt, List.take, List.drop, effOp2, effOp, memL_app, stoRow, cellsAt, toCells, toCell, scalar_int, scalar_bool, scalar_str, scalar_sl, updAt, fromRo, upd, srcCells, A1.slB, flat_int, cl_flat', St.parts, Eng.inB, reps, fillA, newRowSt, appSt, oldOf, rest, kill, mapMem, SV.map, Ob.map, callRO, addMem_nil, roArgs, roL, roA, srcCells, A1.ownB, addMem, shift, ren, SV.map, Ob.map, Ob.noRo, SV.noRo, A1.noRo, List.range, List.range.loop, cellsAt, memL_app, h1, h2, h4, g1, a1, a2, c0, c0', u1, hi', cl_length, cl_ex, -Int.natCast_add]
    change _ = _
    kernel_rfl
theorem r_sBitsBytes (m : List Int) (hm : m.length ≤ 1048576) (h : marksOk m = true) : runRO (X tab) tab 83 [.v false [.ro m.length (cl .i64 m)]] = some (.v false [.sl 0 [] 0 (bitsB m).length], [.row 1 (cl .u8 (bitsB m))]) := by
  have g2 := r_sRuns m hm
  have hl := runs_len m
  have hp := runs_pos h
  have g3 := r_sPutNum (runs m).length (by omega)
  have p1 := putN_len9 (n := (runs m).length) (by omega)
  have hlo := fun x hx => loop_sBB (runs m) (putN (runs m).length) hl (runs_good m h).2 (by omega) (x := x) hx
  unfold bitsB
  generalize putN (runs m).length = z0 at g3 p1 hlo ⊢
  generalize putAll (runs m) = z1 at hlo ⊢
  generalize runs m = r at g2 g3 hlo hp
  have hp' : ((r.length : Int) == 0) = false := by rw [beq_eq_false_iff_ne]; omega
  have hr0 : ¬ r = [] := fun e => by rw [e] at hp; simp at hp
  unfold runRO
  simp (maxSteps := 4000000) -implicitDefEqProofs [tab83, a83, x_seq, x_cond, x_block, x_region, x_skip, x_exit, x_ret, head_id, runG, runOps, doOp, wantB, stepOp, AO.eff, pureOp, St.get, St.one, St.num, St.put, St.optNum, binA, binInt, List.take, List.drop, callRO, addMem_nil, roArgs, roL, roA, srcCells, A1.ownB, addMem, shift, ren, SV.map, Ob.map, Ob.noRo, SV.noRo, A1.noRo, List.range, List.range.loop, g2, g3, hp', hr0]
  rw [hlo _ (by change _ = _; kernel_rfl)]
  simp (maxSteps := 4000000) -implicitDefEqProofs [Z_sBB, x_seq, x_cond, x_block, x_region, x_skip, x_exit, x_ret, head_id, runG, runOps, doOp, wantB, stepOp, AO.eff, pureOp, St.get, St.one, St.num, St.put, St.optNum, binA, binInt, List.take, List.drop, effOp2, effOp, memL_app, stoRow, cellsAt, toCells, toCell, scalar_int, scalar_bool, scalar_str, scalar_sl, updAt, fromRo, upd, resOf, resSV, SV.map, SV.ids, A1.ids, reach, allObs, ren, pos, Ob.map, St.canon, memL, List.range, List.range.loop]
end Go.Proofs.Ytdagbeihjobmjaa.Eng.B
