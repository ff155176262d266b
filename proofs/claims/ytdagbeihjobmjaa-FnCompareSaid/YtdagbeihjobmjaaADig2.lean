/- Digests of images, and what differs between an image and digests; the laws. -/
import Derived.Test.YtdagbeihjobmjaaADigest
import Derived.Test.YtdagbeihjobmjaaAHas
namespace Go.Proofs.Ytdagbeihjobmjaa.Eng.A
set_option linter.unusedSimpArgs false
set_option linter.unusedVariables false
set_option maxHeartbeats 8000000
set_option maxRecDepth 100000
open Go.RowKit Go.Proofs

def digF (l : List Int) (i : Nat) : List Int := (List.range i).map fun (j : Nat) => digest l j
theorem digF_succ (l : List Int) (i : Nat) : digF l (i + 1) = digF l i ++ [digest l i] := by simp [digF, List.range_succ]
theorem digF_length (l : List Int) (i : Nat) : (digF l i).length = i := by simp [digF]
def digests (l : List Int) : List Int := if imageOk l = true then digF l 8 else []
theorem imageOk_len {l : List Int} (h : imageOk l = true) : l.length = 8 := by
  simp only [imageOk, Bool.and_eq_true, decide_eq_true_eq] at h
  exact h.1
def S_sDigests (l : List Int) (i : Nat) : XS := ⟨⟨[.v false [.ro l.length (cl .i64 l)], .bad, .bad, .v false [.sl 0 [] 0 i], .v false [.int .i64 (i)], .bad, .bad, .bad, .bad, .bad, .bad, .bad, .bad, .bad, .bad, .bad, .bad, .bad, .bad, .bad, .bad], memL [some (.row 1 (cl .i64 (digF l i)))], []⟩, 1⟩
def Z_sDigests (l : List Int) : XS := ⟨⟨[.bad, .bad, .bad, .v false [.sl 0 [] 0 8], .bad, .bad, .bad, .bad, .bad, .bad, .bad, .bad, .bad, .bad, .bad, .bad, .bad, .bad, .bad, .bad, .bad], memL [some (.row 1 (cl .i64 (digF l 8)))], []⟩, 1⟩
theorem loop_sDigests (l : List Int) (hn : l.length ≤ 1048576) (hI : imageOk l = true) {x : XS} (hx : head true d23_0 x = S_sDigests l 0) : X tab l23_0 x = some (.exit 0, Z_sDigests l) := by
  have h9 := r_sImageOk l hn
  rw [hI] at h9
  refine loopN 8 (S_sDigests l) _ (by simp) (fun i hi => ?_) ?_ (Nat.zero_le _) hx
  · have h1 := r_sDigest l hn i
    have h2 : (i : Int) < 8 := by omega
    have h4 : IntKind.i64.wrap ((i : Int) + 1) = ((i + 1 : Nat) : Int) := by rw [wrap_id (by omega) (by omega)]; omega
    have h5 : (i + 1) * 8 ≤ 140737488355328 := by omega
    have h6 : (cl .i64 (digF l i)).length = i := by rw [cl_length, digF_length]
    simp only [S_sDigests, digF_succ, ← cl_app1]
    simp (maxSteps := 4000000) -implicitDefEqProofs [b23_0, x_seq, x_cond, x_block, x_region, x_skip, x_exit, x_ret, head_id, runG, runOps, doOp, wantB, stepOp, AO.eff, pureOp, St.get, St.one, St.num, St.put, St.optNum, binA, binInt, List.take, List.drop, effOp2, effOp, memL_app, stoRow, cellsAt, toCells, toCell, scalar_int, scalar_bool, scalar_str, scalar_sl, updAt, fromRo, upd, srcCells, A1.slB, flat_int, cl_flat', St.parts, Eng.inB, reps, fillA, newRowSt, appSt, oldOf, rest, kill, mapMem, SV.map, Ob.map, callRO, addMem_nil, roArgs, roL, roA, srcCells, A1.ownB, addMem, shift, ren, SV.map, Ob.map, Ob.noRo, SV.noRo, A1.noRo, List.range, List.range.loop, h1, h2, h4, h5, h6, h9, cl_self, cl_length, cl_flat, -Int.natCast_add]
    change _ = _
    kernel_rfl
  · simp (maxSteps := 4000000) -implicitDefEqProofs [b23_0, S_sDigests, x_seq, x_cond, x_block, x_region, x_skip, x_exit, x_ret, head_id, runG, runOps, doOp, wantB, stepOp, AO.eff, pureOp, St.get, St.one, St.num, St.put, St.optNum, binA, binInt, List.take, List.drop, effOp2, effOp, memL_app, stoRow, cellsAt, toCells, toCell, scalar_int, scalar_bool, scalar_str, scalar_sl, updAt, fromRo, upd, srcCells, A1.slB, flat_int, cl_flat', St.parts, Eng.inB, reps, fillA, newRowSt, appSt, oldOf, rest, kill, mapMem, SV.map, Ob.map, callRO, addMem_nil, roArgs, roL, roA, srcCells, A1.ownB, addMem, shift, ren, SV.map, Ob.map, Ob.noRo, SV.noRo, A1.noRo, List.range, List.range.loop, h9, Z_sDigests]
    change _ = _
    kernel_rfl
theorem r_sDigests (l : List Int) (hn : l.length ≤ 1048576) : runRO (X tab) tab 23 [.v false [.ro l.length (cl .i64 l)]] = some (.v false [.sl 0 [] 0 (digests l).length], [.row 1 (cl .i64 (digests l))]) := by
  have h1 := r_sImageOk l hn
  unfold runRO
  cases hI : imageOk l with
  | false =>
    rw [hI] at h1
    rw [show digests l = [] by unfold digests; rw [hI]; rfl]
    have hl : ∀ x, head true d23_0 x = ⟨⟨[.v false [.ro l.length (cl .i64 l)], .bad, .bad, .v false [.sl 0 [] 0 0], .v false [.int .i64 (0)], .bad, .bad, .bad, .bad, .bad, .bad, .bad, .bad, .bad, .bad, .bad, .bad, .bad, .bad, .bad, .bad], memL [some (.row 1 [])], []⟩, 1⟩ → X tab l23_0 x = some (.exit 0, ⟨⟨[.bad, .bad, .bad, .v false [.sl 0 [] 0 0], .bad, .bad, .bad, .bad, .bad, .bad, .bad, .bad, .bad, .bad, .bad, .bad, .bad, .bad, .bad, .bad, .bad], memL [some (.row 1 [])], []⟩, 1⟩) := by
      intro x hx
      refine loopN 0 (fun _ => ⟨⟨[.v false [.ro l.length (cl .i64 l)], .bad, .bad, .v false [.sl 0 [] 0 0], .v false [.int .i64 (0)], .bad, .bad, .bad, .bad, .bad, .bad, .bad, .bad, .bad, .bad, .bad, .bad, .bad, .bad, .bad, .bad], memL [some (.row 1 [])], []⟩, 1⟩) _ (by simp) (fun i hi => absurd hi (by omega)) ?_ (Nat.zero_le _) hx
      simp (maxSteps := 4000000) -implicitDefEqProofs [b23_0, x_seq, x_cond, x_block, x_region, x_skip, x_exit, x_ret, head_id, runG, runOps, doOp, wantB, stepOp, AO.eff, pureOp, St.get, St.one, St.num, St.put, St.optNum, binA, binInt, List.take, List.drop, callRO, addMem_nil, roArgs, roL, roA, srcCells, A1.ownB, addMem, shift, ren, SV.map, Ob.map, Ob.noRo, SV.noRo, A1.noRo, List.range, List.range.loop, effOp2, effOp, memL_app, stoRow, cellsAt, toCells, toCell, scalar_int, scalar_bool, scalar_str, scalar_sl, updAt, fromRo, upd, h1]
      change _ = _
      kernel_rfl
    simp (maxSteps := 4000000) -implicitDefEqProofs [tab23, a23, x_seq, x_cond, x_block, x_region, x_skip, x_exit, x_ret, head_id, runG, runOps, doOp, wantB, stepOp, AO.eff, pureOp, St.get, St.one, St.num, St.put, St.optNum, binA, binInt, List.take, List.drop, effOp2, effOp, memL_app, stoRow, cellsAt, toCells, toCell, scalar_int, scalar_bool, scalar_str, scalar_sl, updAt, fromRo, upd, srcCells, A1.slB, flat_int, cl_flat', St.parts, Eng.inB, reps, fillA, newRowSt, appSt, oldOf, rest, kill, mapMem, SV.map, Ob.map, callRO, addMem_nil, roArgs, roL, roA, srcCells, A1.ownB, addMem, shift, ren, SV.map, Ob.map, Ob.noRo, SV.noRo, A1.noRo, List.range, List.range.loop]
    rw [hl _ (by change _ = _; kernel_rfl)]
    simp (maxSteps := 4000000) -implicitDefEqProofs [x_seq, x_cond, x_block, x_region, x_skip, x_exit, x_ret, head_id, runG, runOps, doOp, wantB, stepOp, AO.eff, pureOp, St.get, St.one, St.num, St.put, St.optNum, binA, binInt, List.take, List.drop, effOp2, effOp, memL_app, stoRow, cellsAt, toCells, toCell, scalar_int, scalar_bool, scalar_str, scalar_sl, updAt, fromRo, upd, resOf, resSV, SV.map, SV.ids, A1.ids, reach, allObs, ren, pos, Ob.map, St.canon, memL, List.range, List.range.loop, cl_nil]
  | true =>
    rw [hI] at h1
    rw [show digests l = digF l 8 by unfold digests; rw [hI]; rfl, digF_length]
    simp (maxSteps := 4000000) -implicitDefEqProofs [tab23, a23, x_seq, x_cond, x_block, x_region, x_skip, x_exit, x_ret, head_id, runG, runOps, doOp, wantB, stepOp, AO.eff, pureOp, St.get, St.one, St.num, St.put, St.optNum, binA, binInt, List.take, List.drop, effOp2, effOp, memL_app, stoRow, cellsAt, toCells, toCell, scalar_int, scalar_bool, scalar_str, scalar_sl, updAt, fromRo, upd, srcCells, A1.slB, flat_int, cl_flat', St.parts, Eng.inB, reps, fillA, newRowSt, appSt, oldOf, rest, kill, mapMem, SV.map, Ob.map, callRO, addMem_nil, roArgs, roL, roA, srcCells, A1.ownB, addMem, shift, ren, SV.map, Ob.map, Ob.noRo, SV.noRo, A1.noRo, List.range, List.range.loop, h1]
    rw [loop_sDigests l hn hI (by change _ = _; kernel_rfl)]
    simp (maxSteps := 4000000) -implicitDefEqProofs [Z_sDigests, x_seq, x_cond, x_block, x_region, x_skip, x_exit, x_ret, head_id, runG, runOps, doOp, wantB, stepOp, AO.eff, pureOp, St.get, St.one, St.num, St.put, St.optNum, binA, binInt, List.take, List.drop, effOp2, effOp, memL_app, stoRow, cellsAt, toCells, toCell, scalar_int, scalar_bool, scalar_str, scalar_sl, updAt, fromRo, upd, resOf, resSV, SV.map, SV.ids, A1.ids, reach, allObs, ren, pos, Ob.map, St.canon, memL, List.range, List.range.loop]
def S_Digests (l : List Int) (i : Nat) : XS := ⟨⟨[.v false [.ro l.length (cl .i64 l)], .bad, .bad, .v false [.sl 0 [] 0 i], .bad, .bad, .bad, .bad, .bad, .bad, .bad, .v false [.int .i64 (l.length)], .v false [.int .i64 (i)], .bad, .bad, .bad, .bad, .bad, .bad, .bad, .bad, .bad, .bad], memL [some (.row 1 (cl .i64 (digF l i)))], []⟩, 1⟩
def Z_Digests (l : List Int) : XS := ⟨⟨[.bad, .bad, .bad, .v false [.sl 0 [] 0 8], .bad, .bad, .bad, .bad, .bad, .bad, .bad, .bad, .bad, .bad, .bad, .bad, .bad, .bad, .bad, .bad, .bad, .bad, .bad], memL [some (.row 1 (cl .i64 (digF l 8)))], []⟩, 1⟩
theorem loop_Digests (l : List Int) (hn : l.length ≤ 1048576) (hI : imageOk l = true) {x : XS} (hx : head true d19_0 x = S_Digests l 0) : X tab l19_0 x = some (.exit 0, Z_Digests l) := by
  have h9 : (l.length : Int) = 8 := by have := imageOk_len hI; omega
  skip
  refine loopN 8 (S_Digests l) _ (by simp) (fun i hi => ?_) ?_ (Nat.zero_le _) hx
  · have h1 := r_Digest l hn i
    have h2 : (i : Int) < 8 := by omega
    have h4 : IntKind.i64.wrap ((i : Int) + 1) = ((i + 1 : Nat) : Int) := by rw [wrap_id (by omega) (by omega)]; omega
    have h5 : (i + 1) * 8 ≤ 140737488355328 := by omega
    have h6 : (cl .i64 (digF l i)).length = i := by rw [cl_length, digF_length]
    simp only [S_Digests, digF_succ, ← cl_app1]
    simp (maxSteps := 4000000) -implicitDefEqProofs [b19_0, x_seq, x_cond, x_block, x_region, x_skip, x_exit, x_ret, head_id, runG, runOps, doOp, wantB, stepOp, AO.eff, pureOp, St.get, St.one, St.num, St.put, St.optNum, binA, binInt, List.take, List.drop, effOp2, effOp, memL_app, stoRow, cellsAt, toCells, toCell, scalar_int, scalar_bool, scalar_str, scalar_sl, updAt, fromRo, upd, srcCells, A1.slB, flat_int, cl_flat', St.parts, Eng.inB, reps, fillA, newRowSt, appSt, oldOf, rest, kill, mapMem, SV.map, Ob.map, callRO, addMem_nil, roArgs, roL, roA, srcCells, A1.ownB, addMem, shift, ren, SV.map, Ob.map, Ob.noRo, SV.noRo, A1.noRo, List.range, List.range.loop, h1, h2, h4, h5, h6, h9, cl_self, cl_length, cl_flat, -Int.natCast_add]
    change _ = _
    kernel_rfl
  · simp (maxSteps := 4000000) -implicitDefEqProofs [b19_0, S_Digests, x_seq, x_cond, x_block, x_region, x_skip, x_exit, x_ret, head_id, runG, runOps, doOp, wantB, stepOp, AO.eff, pureOp, St.get, St.one, St.num, St.put, St.optNum, binA, binInt, List.take, List.drop, effOp2, effOp, memL_app, stoRow, cellsAt, toCells, toCell, scalar_int, scalar_bool, scalar_str, scalar_sl, updAt, fromRo, upd, srcCells, A1.slB, flat_int, cl_flat', St.parts, Eng.inB, reps, fillA, newRowSt, appSt, oldOf, rest, kill, mapMem, SV.map, Ob.map, callRO, addMem_nil, roArgs, roL, roA, srcCells, A1.ownB, addMem, shift, ren, SV.map, Ob.map, Ob.noRo, SV.noRo, A1.noRo, List.range, List.range.loop, h9, Z_Digests]
    change _ = _
    kernel_rfl
theorem r_Digests (l : List Int) (hn : l.length ≤ 1048576) : runRO (X tab) tab 19 [.v false [.ro l.length (cl .i64 l)]] = some (.v false [.sl 0 [] 0 (digests l).length], [.row 1 (cl .i64 (digests l))]) := by
  have h1 := r_ImageOk l hn
  unfold runRO
  cases hI : imageOk l with
  | false =>
    rw [hI] at h1
    rw [show digests l = [] by unfold digests; rw [hI]; rfl]
    simp (maxSteps := 4000000) -implicitDefEqProofs [tab19, a19, x_seq, x_cond, x_block, x_region, x_skip, x_exit, x_ret, head_id, runG, runOps, doOp, wantB, stepOp, AO.eff, pureOp, St.get, St.one, St.num, St.put, St.optNum, binA, binInt, List.take, List.drop, effOp2, effOp, memL_app, stoRow, cellsAt, toCells, toCell, scalar_int, scalar_bool, scalar_str, scalar_sl, updAt, fromRo, upd, srcCells, A1.slB, flat_int, cl_flat', St.parts, Eng.inB, reps, fillA, newRowSt, appSt, oldOf, rest, kill, mapMem, SV.map, Ob.map, callRO, addMem_nil, roArgs, roL, roA, srcCells, A1.ownB, addMem, shift, ren, SV.map, Ob.map, Ob.noRo, SV.noRo, A1.noRo, List.range, List.range.loop, resOf, resSV, SV.map, SV.ids, A1.ids, reach, allObs, ren, pos, Ob.map, St.canon, memL, List.range, List.range.loop, h1, cl_nil]
  | true =>
    rw [hI] at h1
    rw [show digests l = digF l 8 by unfold digests; rw [hI]; rfl, digF_length]
    simp (maxSteps := 4000000) -implicitDefEqProofs [tab19, a19, x_seq, x_cond, x_block, x_region, x_skip, x_exit, x_ret, head_id, runG, runOps, doOp, wantB, stepOp, AO.eff, pureOp, St.get, St.one, St.num, St.put, St.optNum, binA, binInt, List.take, List.drop, effOp2, effOp, memL_app, stoRow, cellsAt, toCells, toCell, scalar_int, scalar_bool, scalar_str, scalar_sl, updAt, fromRo, upd, srcCells, A1.slB, flat_int, cl_flat', St.parts, Eng.inB, reps, fillA, newRowSt, appSt, oldOf, rest, kill, mapMem, SV.map, Ob.map, callRO, addMem_nil, roArgs, roL, roA, srcCells, A1.ownB, addMem, shift, ren, SV.map, Ob.map, Ob.noRo, SV.noRo, A1.noRo, List.range, List.range.loop, h1]
    rw [loop_Digests l hn hI (by change _ = _; kernel_rfl)]
    simp (maxSteps := 4000000) -implicitDefEqProofs [Z_Digests, x_seq, x_cond, x_block, x_region, x_skip, x_exit, x_ret, head_id, runG, runOps, doOp, wantB, stepOp, AO.eff, pureOp, St.get, St.one, St.num, St.put, St.optNum, binA, binInt, List.take, List.drop, effOp2, effOp, memL_app, stoRow, cellsAt, toCells, toCell, scalar_int, scalar_bool, scalar_str, scalar_sl, updAt, fromRo, upd, resOf, resSV, SV.map, SV.ids, A1.ids, reach, allObs, ren, pos, Ob.map, St.canon, memL, List.range, List.range.loop]
def difF (a b : List Int) : Nat → List Int
  | 0 => []
  | i + 1 => if (a.getD i 0 == b.getD i 0) = true then difF a b i else difF a b i ++ [(i : Int)]
theorem difF_length (a b : List Int) : ∀ i, (difF a b i).length ≤ i := by
  intro i
  induction i with
  | zero => simp [difF]
  | succ i ih =>
    simp only [difF]
    split
    · omega
    · simp; omega
theorem drop_getD {l : List Int} {i : Nat} (h : i < l.length) : l.drop i = l.getD i 0 :: l.drop (i + 1) := by
  rw [List.drop_eq_getElem_cons h]
  simp [h]
def S_Differ (a b : List Int) (i : Nat) : XS := ⟨⟨[.v false [.ro a.length (cl .i64 a)], .v false [.ro b.length (cl .i64 b)], .bad, .bad, .bad, .v false [.sl 0 [] 0 (difF a b i).length], .bad, .bad, .bad, .bad, .v false [.int .i64 (i)], .bad, .bad, .bad, .bad, .bad, .bad, .bad, .bad, .bad, .bad, .bad, .bad, .bad, .bad, .bad, .bad, .bad, .bad, .bad, .bad, .bad, .bad, .bad, .bad, .bad, .bad, .bad, .bad, .bad, .bad, .bad, .bad, .bad], memL [some (.row 1 (cl .i64 (difF a b i)))], []⟩, 1⟩
def Z_Differ (a b : List Int) : XS := ⟨⟨[.bad, .bad, .bad, .bad, .bad, .v false [.sl 0 [] 0 (difF a b 8).length], .bad, .bad, .bad, .bad, .bad, .bad, .bad, .bad, .bad, .bad, .bad, .bad, .bad, .bad, .bad, .bad, .bad, .bad, .bad, .bad, .bad, .bad, .bad, .bad, .bad, .bad, .bad, .bad, .bad, .bad, .bad, .bad, .bad, .bad, .bad, .bad, .bad, .bad], memL [some (.row 1 (cl .i64 (difF a b 8)))], []⟩, 1⟩
theorem loop_Differ (a b : List Int) (ha : a.length = 8) (hb : b.length = 8) {x : XS} (hx : head true d31_0 x = S_Differ a b 0) : X tab l31_0 x = some (.exit 0, Z_Differ a b) := by
  refine loopN 8 (S_Differ a b) _ (by simp) (fun i hi => ?_) ?_ (Nat.zero_le _) hx
  · have h1 := cl_at (k := .i64) (drop_getD (l := a) (i := i) (by omega))
    have h2 := cl_at (k := .i64) (drop_getD (l := b) (i := i) (by omega))
    have ha' : (i : Int) < (a.length : Int) := by omega
    have hb' : (i : Int) < (b.length : Int) := by omega
    have h3 : (i : Int) < 8 := by omega
    have h4 : IntKind.i64.wrap ((i : Int) + 1) = ((i + 1 : Nat) : Int) := by rw [wrap_id (by omega) (by omega)]; omega
    have h5 : ((difF a b i).length + 1) * 8 ≤ 140737488355328 := by have := difF_length a b i; omega
    have hf : ∀ (o : List (Option Ob)) (d : Nat), o.length ≤ d → freshB (memL o) d = true := fun o d h => freshB_memL h
    simp only [S_Differ, difF]
    cases hp : (a.getD i 0 == b.getD i 0) with
    | true =>
      generalize a.getD i 0 = p at hp h1
      generalize b.getD i 0 = q at hp h2
      simp only [if_true]
      simp (maxSteps := 4000000) -implicitDefEqProofs [b31_0, x_seq, x_cond, x_block, x_region, x_skip, x_exit, x_ret, head_id, runG, runOps, doOp, wantB, stepOp, AO.eff, pureOp, St.get, St.one, St.num, St.put, St.optNum, binA, binInt, List.take, List.drop, gOp, gRes, gEff, addObs_nil, addObs_one, freshB_memL, freshB_none, freshB_upd, freshB_addMem, freshB_addObs, effOp2, effOp, memL_app, stoRow, cellsAt, toCells, toCell, scalar_int, scalar_bool, scalar_str, scalar_sl, updAt, fromRo, upd, fromRo, ha', hb', h1, h2, h3, h4, hp, bne, -Int.natCast_add]
      change _ = _
      kernel_rfl
    | false =>
      generalize a.getD i 0 = p at hp h1
      generalize b.getD i 0 = q at hp h2
      simp only [Bool.false_eq_true, if_false, ← cl_app1, List.length_append, List.length_singleton]
      simp (maxSteps := 4000000) -implicitDefEqProofs [b31_0, x_seq, x_cond, x_block, x_region, x_skip, x_exit, x_ret, head_id, runG, runOps, doOp, wantB, stepOp, AO.eff, pureOp, St.get, St.one, St.num, St.put, St.optNum, binA, binInt, List.take, List.drop, gOp, gRes, gEff, addObs_nil, addObs_one, freshB_memL, freshB_none, freshB_upd, freshB_addMem, freshB_addObs, effOp2, effOp, memL_app, stoRow, cellsAt, toCells, toCell, scalar_int, scalar_bool, scalar_str, scalar_sl, updAt, fromRo, upd, srcCells, A1.slB, flat_int, cl_flat', St.parts, Eng.inB, reps, fillA, newRowSt, appSt, oldOf, rest, kill, mapMem, SV.map, Ob.map, fromRo, ha', hb', h1, h2, h3, h4, h5, hp, bne, cl_length, -Int.natCast_add]
      change _ = _
      kernel_rfl
  · simp (maxSteps := 4000000) -implicitDefEqProofs [b31_0, S_Differ, x_seq, x_cond, x_block, x_region, x_skip, x_exit, x_ret, head_id, runG, runOps, doOp, wantB, stepOp, AO.eff, pureOp, St.get, St.one, St.num, St.put, St.optNum, binA, binInt, List.take, List.drop, Z_Differ]
    change _ = _
    kernel_rfl
theorem r_Differ (a b : List Int) (ha : a.length = 8) (hb : b.length = 8) : runRO (X tab) tab 31 [.v false [.ro a.length (cl .i64 a)], .v false [.ro b.length (cl .i64 b)]] = some (.v false [.sl 0 [] 0 (difF a b 8).length], [.row 1 (cl .i64 (difF a b 8))]) := by
  unfold runRO
  simp (maxSteps := 4000000) -implicitDefEqProofs [tab31, a31, x_seq, x_cond, x_block, x_region, x_skip, x_exit, x_ret, head_id, runG, runOps, doOp, wantB, stepOp, AO.eff, pureOp, St.get, St.one, St.num, St.put, St.optNum, binA, binInt, List.take, List.drop, effOp2, effOp, memL_app, stoRow, cellsAt, toCells, toCell, scalar_int, scalar_bool, scalar_str, scalar_sl, updAt, fromRo, upd, srcCells, A1.slB, flat_int, cl_flat', St.parts, Eng.inB, reps, fillA, newRowSt, appSt, oldOf, rest, kill, mapMem, SV.map, Ob.map]
  rw [loop_Differ a b ha hb (by change _ = _; kernel_rfl)]
  simp (maxSteps := 4000000) -implicitDefEqProofs [Z_Differ, x_seq, x_cond, x_block, x_region, x_skip, x_exit, x_ret, head_id, runG, runOps, doOp, wantB, stepOp, AO.eff, pureOp, St.get, St.one, St.num, St.put, St.optNum, binA, binInt, List.take, List.drop, effOp2, effOp, memL_app, stoRow, cellsAt, toCells, toCell, scalar_int, scalar_bool, scalar_str, scalar_sl, updAt, fromRo, upd, resOf, resSV, SV.map, SV.ids, A1.ids, reach, allObs, ren, pos, Ob.map, St.canon, memL, List.range, List.range.loop]
theorem digF_at (l : List Int) (i : Nat) (h : i < 8) : (digF l 8).getD i 0 = digest l i := by
  simp [digF, h]
def S_sCompare (l b : List Int) (i : Nat) : XS := ⟨⟨[.v false [.ro l.length (cl .i64 l)], .v false [.ro b.length (cl .i64 b)], .bad, .bad, .bad, .bad, .v false [.sl 0 [] 0 (difF (digF l 8) b i).length], .v false [.int .i64 (i)], .bad, .bad, .bad, .bad, .bad, .bad, .bad, .bad, .bad, .bad, .bad, .bad, .bad, .bad, .bad, .bad, .bad, .bad, .bad, .bad, .bad, .bad, .bad, .bad, .bad, .bad, .bad], memL [some (.row 1 (cl .i64 (difF (digF l 8) b i)))], []⟩, 1⟩
def Z_sCompare (l b : List Int) : XS := ⟨⟨[.bad, .bad, .bad, .bad, .bad, .bad, .v false [.sl 0 [] 0 (difF (digF l 8) b 8).length], .bad, .bad, .bad, .bad, .bad, .bad, .bad, .bad, .bad, .bad, .bad, .bad, .bad, .bad, .bad, .bad, .bad, .bad, .bad, .bad, .bad, .bad, .bad, .bad, .bad, .bad, .bad, .bad], memL [some (.row 1 (cl .i64 (difF (digF l 8) b 8)))], []⟩, 1⟩
theorem loop_sCompare (l b : List Int) (hn : l.length ≤ 1048576) (hb : b.length = 8) {x : XS} (hx : head true d29_0 x = S_sCompare l b 0) : X tab l29_0 x = some (.exit 0, Z_sCompare l b) := by
  refine loopN 8 (S_sCompare l b) _ (by simp) (fun i hi => ?_) ?_ (Nat.zero_le _) hx
  · have h1 := r_sDigest l hn i
    rw [← digF_at l i hi] at h1
    have h2 := cl_at (k := .i64) (drop_getD (l := b) (i := i) (by omega))
    have hb' : (i : Int) < (b.length : Int) := by omega
    have h3 : (i : Int) < 8 := by omega
    have h4 : IntKind.i64.wrap ((i : Int) + 1) = ((i + 1 : Nat) : Int) := by rw [wrap_id (by omega) (by omega)]; omega
    have h5 : ((difF (digF l 8) b i).length + 1) * 8 ≤ 140737488355328 := by have := difF_length (digF l 8) b i; omega
    simp only [S_sCompare, difF]
    cases hp : ((digF l 8).getD i 0 == b.getD i 0) with
    | true =>
      generalize (digF l 8).getD i 0 = p at hp h1
      generalize b.getD i 0 = q at hp h2
      simp only [if_true]
      simp (maxSteps := 4000000) -implicitDefEqProofs [b29_0, x_seq, x_cond, x_block, x_region, x_skip, x_exit, x_ret, head_id, runG, runOps, doOp, wantB, stepOp, AO.eff, pureOp, St.get, St.one, St.num, St.put, St.optNum, binA, binInt, List.take, List.drop, gOp, gRes, gEff, addObs_nil, addObs_one, freshB_memL, freshB_none, freshB_upd, freshB_addMem, freshB_addObs, effOp2, effOp, memL_app, stoRow, cellsAt, toCells, toCell, scalar_int, scalar_bool, scalar_str, scalar_sl, updAt, fromRo, upd, callRO, addMem_nil, roArgs, roL, roA, srcCells, A1.ownB, addMem, shift, ren, SV.map, Ob.map, Ob.noRo, SV.noRo, A1.noRo, List.range, List.range.loop, fromRo, hb', h1, h2, h3, h4, hp, bne, cl_self, -Int.natCast_add]
      change _ = _
      kernel_rfl
    | false =>
      generalize (digF l 8).getD i 0 = p at hp h1
      generalize b.getD i 0 = q at hp h2
      simp only [Bool.false_eq_true, if_false, ← cl_app1, List.length_append, List.length_singleton]
      simp (maxSteps := 4000000) -implicitDefEqProofs [b29_0, x_seq, x_cond, x_block, x_region, x_skip, x_exit, x_ret, head_id, runG, runOps, doOp, wantB, stepOp, AO.eff, pureOp, St.get, St.one, St.num, St.put, St.optNum, binA, binInt, List.take, List.drop, gOp, gRes, gEff, addObs_nil, addObs_one, freshB_memL, freshB_none, freshB_upd, freshB_addMem, freshB_addObs, effOp2, effOp, memL_app, stoRow, cellsAt, toCells, toCell, scalar_int, scalar_bool, scalar_str, scalar_sl, updAt, fromRo, upd, srcCells, A1.slB, flat_int, cl_flat', St.parts, Eng.inB, reps, fillA, newRowSt, appSt, oldOf, rest, kill, mapMem, SV.map, Ob.map, callRO, addMem_nil, roArgs, roL, roA, srcCells, A1.ownB, addMem, shift, ren, SV.map, Ob.map, Ob.noRo, SV.noRo, A1.noRo, List.range, List.range.loop, fromRo, hb', h1, h2, h3, h4, h5, hp, bne, cl_length, cl_self, -Int.natCast_add]
      change _ = _
      kernel_rfl
  · simp (maxSteps := 4000000) -implicitDefEqProofs [b29_0, S_sCompare, x_seq, x_cond, x_block, x_region, x_skip, x_exit, x_ret, head_id, runG, runOps, doOp, wantB, stepOp, AO.eff, pureOp, St.get, St.one, St.num, St.put, St.optNum, binA, binInt, List.take, List.drop, Z_sCompare]
    change _ = _
    kernel_rfl
def cmpOk (l b : List Int) : Bool := imageOk l && digestsOk b
theorem digestsOk_len {l : List Int} (h : digestsOk l = true) : l.length = 8 := by
  simp only [digestsOk, Bool.and_eq_true, decide_eq_true_eq] at h
  exact h.1
theorem r_sCompare_bad (l b : List Int) (hn : l.length ≤ 1048576) (hb : b.length ≤ 1048576) (h : cmpOk l b = false) : runRO (X tab) tab 29 [.v false [.ro l.length (cl .i64 l)], .v false [.ro b.length (cl .i64 b)]] = some (.tup [(false, [.sl 0 [] 0 0]), (false, [.bool false])], [.row 1 []]) := by
  have h1 := r_sImageOk l hn
  have h2 := r_sDigestsOk b hb
  unfold runRO
  cases hI : imageOk l with
  | false =>
    rw [hI] at h1
    simp (maxSteps := 4000000) -implicitDefEqProofs [tab29, a29, x_seq, x_cond, x_block, x_region, x_skip, x_exit, x_ret, head_id, runG, runOps, doOp, wantB, stepOp, AO.eff, pureOp, St.get, St.one, St.num, St.put, St.optNum, binA, binInt, List.take, List.drop, effOp2, effOp, memL_app, stoRow, cellsAt, toCells, toCell, scalar_int, scalar_bool, scalar_str, scalar_sl, updAt, fromRo, upd, srcCells, A1.slB, flat_int, cl_flat', St.parts, Eng.inB, reps, fillA, newRowSt, appSt, oldOf, rest, kill, mapMem, SV.map, Ob.map, callRO, addMem_nil, roArgs, roL, roA, srcCells, A1.ownB, addMem, shift, ren, SV.map, Ob.map, Ob.noRo, SV.noRo, A1.noRo, List.range, List.range.loop, resOf, resSV, SV.map, SV.ids, A1.ids, reach, allObs, ren, pos, Ob.map, St.canon, memL, List.range, List.range.loop, h1]
  | true =>
    rw [hI] at h1
    rw [cmpOk, hI, Bool.true_and] at h
    rw [h] at h2
    simp (maxSteps := 4000000) -implicitDefEqProofs [tab29, a29, x_seq, x_cond, x_block, x_region, x_skip, x_exit, x_ret, head_id, runG, runOps, doOp, wantB, stepOp, AO.eff, pureOp, St.get, St.one, St.num, St.put, St.optNum, binA, binInt, List.take, List.drop, effOp2, effOp, memL_app, stoRow, cellsAt, toCells, toCell, scalar_int, scalar_bool, scalar_str, scalar_sl, updAt, fromRo, upd, srcCells, A1.slB, flat_int, cl_flat', St.parts, Eng.inB, reps, fillA, newRowSt, appSt, oldOf, rest, kill, mapMem, SV.map, Ob.map, callRO, addMem_nil, roArgs, roL, roA, srcCells, A1.ownB, addMem, shift, ren, SV.map, Ob.map, Ob.noRo, SV.noRo, A1.noRo, List.range, List.range.loop, resOf, resSV, SV.map, SV.ids, A1.ids, reach, allObs, ren, pos, Ob.map, St.canon, memL, List.range, List.range.loop, h1, h2]
theorem r_sCompare (l b : List Int) (hn : l.length ≤ 1048576) (hb : b.length ≤ 1048576) (h : cmpOk l b = true) : runRO (X tab) tab 29 [.v false [.ro l.length (cl .i64 l)], .v false [.ro b.length (cl .i64 b)]] = some (.tup [(false, [.sl 0 [] 0 (difF (digF l 8) b 8).length]), (false, [.bool true])], [.row 1 (cl .i64 (difF (digF l 8) b 8))]) := by
  have h1 := r_sImageOk l hn
  have h2 := r_sDigestsOk b hb
  simp only [cmpOk, Bool.and_eq_true] at h
  rw [h.1] at h1
  rw [h.2] at h2
  unfold runRO
  simp (maxSteps := 4000000) -implicitDefEqProofs [tab29, a29, x_seq, x_cond, x_block, x_region, x_skip, x_exit, x_ret, head_id, runG, runOps, doOp, wantB, stepOp, AO.eff, pureOp, St.get, St.one, St.num, St.put, St.optNum, binA, binInt, List.take, List.drop, effOp2, effOp, memL_app, stoRow, cellsAt, toCells, toCell, scalar_int, scalar_bool, scalar_str, scalar_sl, updAt, fromRo, upd, srcCells, A1.slB, flat_int, cl_flat', St.parts, Eng.inB, reps, fillA, newRowSt, appSt, oldOf, rest, kill, mapMem, SV.map, Ob.map, callRO, addMem_nil, roArgs, roL, roA, srcCells, A1.ownB, addMem, shift, ren, SV.map, Ob.map, Ob.noRo, SV.noRo, A1.noRo, List.range, List.range.loop, h1, h2]
  rw [loop_sCompare l b hn (digestsOk_len h.2) (by change _ = _; kernel_rfl)]
  simp (maxSteps := 4000000) -implicitDefEqProofs [Z_sCompare, x_seq, x_cond, x_block, x_region, x_skip, x_exit, x_ret, head_id, runG, runOps, doOp, wantB, stepOp, AO.eff, pureOp, St.get, St.one, St.num, St.put, St.optNum, binA, binInt, List.take, List.drop, effOp2, effOp, memL_app, stoRow, cellsAt, toCells, toCell, scalar_int, scalar_bool, scalar_str, scalar_sl, updAt, fromRo, upd, resOf, resSV, SV.map, SV.ids, A1.ids, reach, allObs, ren, pos, Ob.map, St.canon, memL, List.range, List.range.loop]
theorem r_Compare_bad (l b : List Int) (hn : l.length ≤ 1048576) (hb : b.length ≤ 1048576) (h : cmpOk l b = false) : runRO (X tab) tab 28 [.v false [.ro l.length (cl .i64 l)], .v false [.ro b.length (cl .i64 b)]] = some (.tup [(false, [.nil]), (false, [.bool false])], []) := by
  have h1 := r_ImageOk l hn
  have h2 := r_DigestsOk b hb
  unfold runRO
  cases hI : imageOk l with
  | false =>
    rw [hI] at h1
    simp (maxSteps := 4000000) -implicitDefEqProofs [tab28, a28, x_seq, x_cond, x_block, x_region, x_skip, x_exit, x_ret, head_id, runG, runOps, doOp, wantB, stepOp, AO.eff, pureOp, St.get, St.one, St.num, St.put, St.optNum, binA, binInt, List.take, List.drop, effOp2, effOp, memL_app, stoRow, cellsAt, toCells, toCell, scalar_int, scalar_bool, scalar_str, scalar_sl, updAt, fromRo, upd, srcCells, A1.slB, flat_int, cl_flat', St.parts, Eng.inB, reps, fillA, newRowSt, appSt, oldOf, rest, kill, mapMem, SV.map, Ob.map, callRO, addMem_nil, roArgs, roL, roA, srcCells, A1.ownB, addMem, shift, ren, SV.map, Ob.map, Ob.noRo, SV.noRo, A1.noRo, List.range, List.range.loop, resOf, resSV, SV.map, SV.ids, A1.ids, reach, allObs, ren, pos, Ob.map, St.canon, memL, List.range, List.range.loop, h1]
  | true =>
    rw [hI] at h1
    rw [cmpOk, hI, Bool.true_and] at h
    rw [h] at h2
    simp (maxSteps := 4000000) -implicitDefEqProofs [tab28, a28, x_seq, x_cond, x_block, x_region, x_skip, x_exit, x_ret, head_id, runG, runOps, doOp, wantB, stepOp, AO.eff, pureOp, St.get, St.one, St.num, St.put, St.optNum, binA, binInt, List.take, List.drop, effOp2, effOp, memL_app, stoRow, cellsAt, toCells, toCell, scalar_int, scalar_bool, scalar_str, scalar_sl, updAt, fromRo, upd, srcCells, A1.slB, flat_int, cl_flat', St.parts, Eng.inB, reps, fillA, newRowSt, appSt, oldOf, rest, kill, mapMem, SV.map, Ob.map, callRO, addMem_nil, roArgs, roL, roA, srcCells, A1.ownB, addMem, shift, ren, SV.map, Ob.map, Ob.noRo, SV.noRo, A1.noRo, List.range, List.range.loop, resOf, resSV, SV.map, SV.ids, A1.ids, reach, allObs, ren, pos, Ob.map, St.canon, memL, List.range, List.range.loop, h1, h2]
theorem r_Compare (l b : List Int) (hn : l.length ≤ 1048576) (hb : b.length ≤ 1048576) (h : cmpOk l b = true) : runRO (X tab) tab 28 [.v false [.ro l.length (cl .i64 l)], .v false [.ro b.length (cl .i64 b)]] = some (.tup [(false, [.sl 0 [] 0 (difF (digF l 8) b 8).length]), (false, [.bool true])], [.row 1 (cl .i64 (difF (digF l 8) b 8))]) := by
  have h1 := r_ImageOk l hn
  have h2 := r_DigestsOk b hb
  have h3 := r_Digests l hn
  simp only [cmpOk, Bool.and_eq_true] at h
  rw [h.1] at h1
  rw [h.2] at h2
  rw [show digests l = digF l 8 by unfold digests; rw [h.1]; rfl] at h3
  have h4 := r_Differ (digF l 8) b (digF_length l 8) (digestsOk_len h.2)
  generalize difF (digF l 8) b 8 = c at h4
  have h5 := digF_length l 8
  generalize digF l 8 = d at h3 h4 h5
  unfold runRO
  simp (maxSteps := 4000000) -implicitDefEqProofs [tab28, a28, x_seq, x_cond, x_block, x_region, x_skip, x_exit, x_ret, head_id, runG, runOps, doOp, wantB, stepOp, AO.eff, pureOp, St.get, St.one, St.num, St.put, St.optNum, binA, binInt, List.take, List.drop, effOp2, effOp, memL_app, stoRow, cellsAt, toCells, toCell, scalar_int, scalar_bool, scalar_str, scalar_sl, updAt, fromRo, upd, srcCells, A1.slB, flat_int, cl_flat', St.parts, Eng.inB, reps, fillA, newRowSt, appSt, oldOf, rest, kill, mapMem, SV.map, Ob.map, callRO, addMem_nil, roArgs, roL, roA, srcCells, A1.ownB, addMem, shift, ren, SV.map, Ob.map, Ob.noRo, SV.noRo, A1.noRo, List.range, List.range.loop, resOf, resSV, SV.map, SV.ids, A1.ids, reach, allObs, ren, pos, Ob.map, St.canon, memL, List.range, List.range.loop, h1, h2, h3, h4, cl_self, cl_length]
end Go.Proofs.Ytdagbeihjobmjaa.Eng.A
