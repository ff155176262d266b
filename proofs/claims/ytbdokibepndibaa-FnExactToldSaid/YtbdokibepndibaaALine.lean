/- Depth, Within, Common, Told: the program's and the reference's. -/
import Derived.Test.YtbdokibepndibaaACh
namespace Go.Proofs.Ytbdokibepndibaa.Eng.A
set_option linter.unusedSimpArgs false
set_option linter.unusedVariables false
set_option maxHeartbeats 16000000
set_option maxRecDepth 100000
open Go.RowKit Go.Proofs

theorem nodesC_self (l : List PNode) : (nodesC l).take (l.length * 16) = nodesC l := by rw [← nodesC_len, List.take_length]
theorem wiresC_self (l : List PWire) : (wiresC l).take (l.length * 3) = wiresC l := by rw [← wiresC_len, List.take_length]
theorem recsC_self (l : List PRec) : (recsC l).take (l.length * 2) = recsC l := by rw [← recsC_len, List.take_length]
theorem addObs_app {m : Mem} {d u : Nat} {obs : List Ob} : addObs m d obs u = if d ≤ u ∧ u < d + obs.length then obs[u - d]? else m u := rfl
def depth (w : PWorld) (n : Int) : Int := (chain w.log n).length
theorem depth_bound (w : PWorld) (hs : SmW w) (n : Int) : 0 ≤ depth w n ∧ depth w n ≤ 1048576 := by
  have := chain_le w.log n
  have := hs.log
  unfold depth
  omega
theorem r_Depth (w : PWorld) (hw : WfW w) (hs : SmW w) (n : Int) (hn : I64 n) : runRO (X tab) tab 12 [.v true (worldA w), .v false [.int .i64 n]] = some (.v false [.int .i64 (depth w n)], []) := by
  have q1 := r_Chain w hw hs n hn
  simp only [worldA] at q1
  unfold runRO depth
  simp (maxSteps := 4000000) -implicitDefEqProofs [tab12, a12, x_seq, x_cond, x_block, x_region, x_skip, x_exit, x_ret, head_id, runG, runOps, doOp, wantB, stepOp, AO.eff, pureOp, St.get, St.one, St.num, St.put, St.optNum, binA, binInt, List.take, List.drop, effOp2, effOp, memL_app, stoRow, cellsAt, toCells, toCell, scalar_int, scalar_bool, scalar_str, scalar_sl, updAt, fromRo, upd, callRO, addMem_nil, roArgs, roL, roA, srcCells, A1.ownB, addMem, shift, ren, SV.map, Ob.map, Ob.noRo, SV.noRo, A1.noRo, List.range, List.range.loop, resOf, resSV, SV.map, SV.ids, A1.ids, reach, allObs, ren, pos, Ob.map, St.canon, memL, List.range, List.range.loop, worldA, q1]
theorem r_sDepth (w : PWorld) (hw : WfW w) (hs : SmW w) (n : Int) (hn : I64 n) : runRO (X tab) tab 10 [.v true (worldA w), .v false [.int .i64 n]] = some (.v false [.int .i64 (depth w n)], []) := by
  have q1 := r_sChain w hw hs n hn
  simp only [worldA] at q1
  unfold runRO depth
  simp (maxSteps := 4000000) -implicitDefEqProofs [tab10, a10, x_seq, x_cond, x_block, x_region, x_skip, x_exit, x_ret, head_id, runG, runOps, doOp, wantB, stepOp, AO.eff, pureOp, St.get, St.one, St.num, St.put, St.optNum, binA, binInt, List.take, List.drop, effOp2, effOp, memL_app, stoRow, cellsAt, toCells, toCell, scalar_int, scalar_bool, scalar_str, scalar_sl, updAt, fromRo, upd, callRO, addMem_nil, roArgs, roL, roA, srcCells, A1.ownB, addMem, shift, ren, SV.map, Ob.map, Ob.noRo, SV.noRo, A1.noRo, List.range, List.range.loop, resOf, resSV, SV.map, SV.ids, A1.ids, reach, allObs, ren, pos, Ob.map, St.canon, memL, List.range, List.range.loop, worldA, q1]
theorem r_Within (w : PWorld) (hw : WfW w) (hs : SmW w) (n m : Int) (hm : I64 m) : runRO (X tab) tab 15 [.v true (worldA w), .v false [.int .i64 n], .v false [.int .i64 m]] = some (.v false [.bool (decide (n ∈ chain w.log m))], []) := by
  have q1 := r_Chain w hw hs m hm
  have hle := chain_le w.log m
  have hlog := hs.log
  have q2 := r_Contains (chain w.log m) n (by omega)
  have q3 : (cl .i64 (chain w.log m)).take (chain w.log m).length = cl .i64 (chain w.log m) := cl_self
  have q4 : (cl .i64 (chain w.log m)).length = (chain w.log m).length := cl_length
  generalize chain w.log m = L at *
  simp only [worldA] at q1
  unfold runRO
  simp (maxSteps := 4000000) -implicitDefEqProofs [tab15, a15, x_seq, x_cond, x_block, x_region, x_skip, x_exit, x_ret, head_id, runG, runOps, doOp, wantB, stepOp, AO.eff, pureOp, St.get, St.one, St.num, St.put, St.optNum, binA, binInt, List.take, List.drop, effOp2, effOp, memL_app, stoRow, cellsAt, toCells, toCell, scalar_int, scalar_bool, scalar_str, scalar_sl, updAt, fromRo, upd, callRO, addMem_nil, roArgs, roL, roA, srcCells, A1.ownB, addMem, shift, ren, SV.map, Ob.map, Ob.noRo, SV.noRo, A1.noRo, List.range, List.range.loop, resOf, resSV, SV.map, SV.ids, A1.ids, reach, allObs, ren, pos, Ob.map, St.canon, memL, List.range, List.range.loop, cellsAt, worldA, q1, q2, q3, q4]
theorem r_sWithin (w : PWorld) (hw : WfW w) (hs : SmW w) (n m : Int) (hm : I64 m) : runRO (X tab) tab 14 [.v true (worldA w), .v false [.int .i64 n], .v false [.int .i64 m]] = some (.v false [.bool (decide (n ∈ chain w.log m))], []) := by
  have q1 := r_sChain w hw hs m hm
  have hle := chain_le w.log m
  have hlog := hs.log
  have q2 := r_l2Has (chain w.log m) n (by omega)
  have q3 : (cl .i64 (chain w.log m)).take (chain w.log m).length = cl .i64 (chain w.log m) := cl_self
  have q4 : (cl .i64 (chain w.log m)).length = (chain w.log m).length := cl_length
  generalize chain w.log m = L at *
  simp only [worldA] at q1
  unfold runRO
  simp (maxSteps := 4000000) -implicitDefEqProofs [tab14, a14, x_seq, x_cond, x_block, x_region, x_skip, x_exit, x_ret, head_id, runG, runOps, doOp, wantB, stepOp, AO.eff, pureOp, St.get, St.one, St.num, St.put, St.optNum, binA, binInt, List.take, List.drop, effOp2, effOp, memL_app, stoRow, cellsAt, toCells, toCell, scalar_int, scalar_bool, scalar_str, scalar_sl, updAt, fromRo, upd, callRO, addMem_nil, roArgs, roL, roA, srcCells, A1.ownB, addMem, shift, ren, SV.map, Ob.map, Ob.noRo, SV.noRo, A1.noRo, List.range, List.range.loop, resOf, resSV, SV.map, SV.ids, A1.ids, reach, allObs, ren, pos, Ob.map, St.canon, memL, List.range, List.range.loop, cellsAt, worldA, q1, q2, q3, q4]
/-- The last one of a list that is in another one. -/
def cmF (B : List Int) (A : List Int) : Int := A.foldl (fun o x => if x ∈ B then x else o) 0
theorem cmF_next {B A : List Int} {i : Nat} {y : Int} (h : A[i]? = some y) : cmF B (A.take (i + 1)) = if y ∈ B then y else cmF B (A.take i) := by
  unfold cmF
  rw [List.take_add_one, h, List.foldl_append]
  rfl
def S_sCommon (w : PWorld) (A : List Int) (b : Int) (i : Nat) (o : Int) : XS := ⟨⟨[.bad, .bad, .v false [.int .i64 (b)], .v false [.pr 0 [] 0], .bad, .bad, .bad, .v false [.sl 1 [] 0 A.length], .v false [.int .i64 (o)], .v false [.int .i64 (i)], .bad, .bad, .bad, .bad, .bad, .bad, .bad, .bad, .bad, .bad, .bad, .bad, .bad, .bad, .bad, .bad, .bad, .bad, .bad, .bad, .bad], memL [some (.box (worldA w)), some (.row 1 (cl .i64 A))], []⟩, 2⟩
def R_sCommon (o : Int) : Option (AE × XS) := some (.exit 0, ⟨⟨[.bad, .bad, .bad, .bad, .bad, .bad, .bad, .bad, .v false [.int .i64 (o)], .bad, .bad, .bad, .bad, .bad, .bad, .bad, .bad, .bad, .bad, .bad, .bad, .bad, .bad, .bad, .bad, .bad, .bad, .bad, .bad, .bad, .bad], memL [], []⟩, 0⟩)
theorem loop_sCommon (w : PWorld) (hw : WfW w) (hs : SmW w) (A : List Int) (hA : A.length ≤ 1048576) (b : Int) (hb : I64 b) {x : XS} (hx : head true d18_0 x = S_sCommon w A b 0 0) : X tab l18_0 x = R_sCommon (cmF (chain w.log b) A) := by
  refine loopN A.length (fun i => S_sCommon w A b i (cmF (chain w.log b) (A.take i))) _ (by simp [R_sCommon]) (fun i hi => ?_) ?_ (Nat.zero_le _) hx
  · obtain ⟨y, r, hl⟩ : ∃ y r, A.drop i = y :: r := ⟨_, _, List.drop_eq_getElem_cons hi⟩
    have hy : A[i]? = some y := by
      have := congrArg (fun q : List Int => q[0]?) hl
      simpa using this
    have h1 : (0 ≤ (i : Int) ∧ (i : Int) < (A.length : Int)) := by omega
    have h2 := cl_read (k := .i64) hl 1 []
    have h4 : IntKind.i64.wrap ((i : Int) + 1) = ((i + 1 : Nat) : Int) := by rw [wrap_id (by omega) (by omega)]; omega
    have h5 := r_sWithin w hw hs y b hb
    simp only [worldA] at h5
    simp only [cmF_next hy, S_sCommon, worldA]
    generalize cmF (chain w.log b) (A.take i) = o
    by_cases hm : y ∈ chain w.log b
    · rw [decide_eq_true hm] at h5
      rw [if_pos hm]
      simp (maxSteps := 4000000) -implicitDefEqProofs [b18_0, x_seq, x_cond, x_block, x_region, x_skip, x_exit, x_ret, head_id, runG, runOps, doOp, wantB, stepOp, AO.eff, pureOp, St.get, St.one, St.num, St.put, St.optNum, binA, binInt, List.take, List.drop, gOp, gOp0, gOpL, gResL, updO, gRes, gEff, addObs_nil, addObs_one, freshB_memL, freshB_none, freshB_upd, freshB_addMem, freshB_addObs, callRO, addMem_nil, roArgs, roL, roA, srcCells, A1.ownB, addMem, shift, ren, SV.map, Ob.map, Ob.noRo, SV.noRo, A1.noRo, List.range, List.range.loop, effOp2, effOp, memL_app, stoRow, cellsAt, toCells, toCell, scalar_int, scalar_bool, scalar_str, scalar_sl, updAt, fromRo, upd, h1, h2, h4, h5, hi, -Int.natCast_add]
      change _ = _
      kernel_rfl
    · rw [decide_eq_false hm] at h5
      rw [if_neg hm]
      simp (maxSteps := 4000000) -implicitDefEqProofs [b18_0, x_seq, x_cond, x_block, x_region, x_skip, x_exit, x_ret, head_id, runG, runOps, doOp, wantB, stepOp, AO.eff, pureOp, St.get, St.one, St.num, St.put, St.optNum, binA, binInt, List.take, List.drop, gOp, gOp0, gOpL, gResL, updO, gRes, gEff, addObs_nil, addObs_one, freshB_memL, freshB_none, freshB_upd, freshB_addMem, freshB_addObs, callRO, addMem_nil, roArgs, roL, roA, srcCells, A1.ownB, addMem, shift, ren, SV.map, Ob.map, Ob.noRo, SV.noRo, A1.noRo, List.range, List.range.loop, effOp2, effOp, memL_app, stoRow, cellsAt, toCells, toCell, scalar_int, scalar_bool, scalar_str, scalar_sl, updAt, fromRo, upd, h1, h2, h4, h5, hi, -Int.natCast_add]
      change _ = _
      kernel_rfl
  · rw [List.take_length]
    simp (maxSteps := 4000000) -implicitDefEqProofs [b18_0, S_sCommon, worldA, x_seq, x_cond, x_block, x_region, x_skip, x_exit, x_ret, head_id, runG, runOps, doOp, wantB, stepOp, AO.eff, pureOp, St.get, St.one, St.num, St.put, St.optNum, binA, binInt, List.take, List.drop, R_sCommon]
    change _ = _
    kernel_rfl
theorem r_sCommon (w : PWorld) (hw : WfW w) (hs : SmW w) (a b : Int) (ha : I64 a) (hb : I64 b) : runRO (X tab) tab 18 [.v true (worldA w), .v false [.int .i64 a], .v false [.int .i64 b]] = some (.v false [.int .i64 (cmF (chain w.log b) (chain w.log a))], []) := by
  have q1 := r_sChain w hw hs a ha
  have hle := chain_le w.log a
  have hlog := hs.log
  have hlp := fun {x} => loop_sCommon w hw hs (chain w.log a) (by omega) b hb (x := x)
  generalize chain w.log a = A at *
  simp only [worldA] at q1
  unfold runRO
  simp (maxSteps := 4000000) -implicitDefEqProofs [tab18, a18, x_seq, x_cond, x_block, x_region, x_skip, x_exit, x_ret, head_id, runG, runOps, doOp, wantB, stepOp, AO.eff, pureOp, St.get, St.one, St.num, St.put, St.optNum, binA, binInt, List.take, List.drop, effOp2, effOp, memL_app, stoRow, cellsAt, toCells, toCell, scalar_int, scalar_bool, scalar_str, scalar_sl, updAt, fromRo, upd, callRO, addMem_nil, roArgs, roL, roA, srcCells, A1.ownB, addMem, shift, ren, SV.map, Ob.map, Ob.noRo, SV.noRo, A1.noRo, List.range, List.range.loop, worldA, q1]
  rw [hlp (by change _ = _; kernel_rfl)]
  simp (maxSteps := 4000000) -implicitDefEqProofs [R_sCommon, x_seq, x_cond, x_block, x_region, x_skip, x_exit, x_ret, head_id, runG, runOps, doOp, wantB, stepOp, AO.eff, pureOp, St.get, St.one, St.num, St.put, St.optNum, binA, binInt, List.take, List.drop, resOf, resSV, SV.map, SV.ids, A1.ids, reach, allObs, ren, pos, Ob.map, St.canon, memL, List.range, List.range.loop]
def S_Common (B A : List Int) (i : Nat) (o : Int) : XS := ⟨⟨[.bad, .bad, .bad, .bad, .bad, .bad, .bad, .v false [.sl 0 [] 0 B.length], .v false [.int .i64 (o)], .bad, .bad, .bad, .bad, .bad, .bad, .bad, .v false [.sl 1 [] 0 A.length], .v false [.int .i64 (A.length)], .v false [.int .i64 (i)], .bad, .bad, .bad, .bad, .bad, .bad, .bad, .bad, .bad], memL [some (.row 1 (cl .i64 B)), some (.row 1 (cl .i64 A))], []⟩, 2⟩
def R_Common (o : Int) : Option (AE × XS) := some (.exit 0, ⟨⟨[.bad, .bad, .bad, .bad, .bad, .bad, .bad, .bad, .v false [.int .i64 (o)], .bad, .bad, .bad, .bad, .bad, .bad, .bad, .bad, .bad, .bad, .bad, .bad, .bad, .bad, .bad, .bad, .bad, .bad, .bad], memL [], []⟩, 0⟩)
theorem loop_Common (B A : List Int) (hA : A.length ≤ 1048576) (hB : B.length ≤ 1048576) {x : XS} (hx : head true d19_0 x = S_Common B A 0 0) : X tab l19_0 x = R_Common (cmF B A) := by
  refine loopN A.length (fun i => S_Common B A i (cmF B (A.take i))) _ (by simp [R_Common]) (fun i hi => ?_) ?_ (Nat.zero_le _) hx
  · obtain ⟨y, r, hl⟩ : ∃ y r, A.drop i = y :: r := ⟨_, _, List.drop_eq_getElem_cons hi⟩
    have hy : A[i]? = some y := by
      have := congrArg (fun q : List Int => q[0]?) hl
      simpa using this
    have h1 : (0 ≤ (i : Int) ∧ (i : Int) < (A.length : Int)) := by omega
    have h2 := cl_read (k := .i64) hl 1 []
    have h4 : IntKind.i64.wrap ((i : Int) + 1) = ((i + 1 : Nat) : Int) := by rw [wrap_id (by omega) (by omega)]; omega
    have h5 := r_Contains B y hB
    have h6 : (cl .i64 B).take B.length = cl .i64 B := cl_self
    have h7 : (cl .i64 B).length = B.length := cl_length
    simp only [cmF_next hy, S_Common]
    generalize cmF B (A.take i) = o
    by_cases hm : y ∈ B
    · rw [decide_eq_true hm] at h5
      rw [if_pos hm]
      simp (maxSteps := 4000000) -implicitDefEqProofs [b19_0, x_seq, x_cond, x_block, x_region, x_skip, x_exit, x_ret, head_id, runG, runOps, doOp, wantB, stepOp, AO.eff, pureOp, St.get, St.one, St.num, St.put, St.optNum, binA, binInt, List.take, List.drop, callRO, addMem_nil, roArgs, roL, roA, srcCells, A1.ownB, addMem, shift, ren, SV.map, Ob.map, Ob.noRo, SV.noRo, A1.noRo, List.range, List.range.loop, effOp2, effOp, memL_app, stoRow, cellsAt, toCells, toCell, scalar_int, scalar_bool, scalar_str, scalar_sl, updAt, fromRo, upd, h1, h2, h4, h5, h6, h7, hi, -Int.natCast_add]
      change _ = _
      kernel_rfl
    · rw [decide_eq_false hm] at h5
      rw [if_neg hm]
      simp (maxSteps := 4000000) -implicitDefEqProofs [b19_0, x_seq, x_cond, x_block, x_region, x_skip, x_exit, x_ret, head_id, runG, runOps, doOp, wantB, stepOp, AO.eff, pureOp, St.get, St.one, St.num, St.put, St.optNum, binA, binInt, List.take, List.drop, callRO, addMem_nil, roArgs, roL, roA, srcCells, A1.ownB, addMem, shift, ren, SV.map, Ob.map, Ob.noRo, SV.noRo, A1.noRo, List.range, List.range.loop, effOp2, effOp, memL_app, stoRow, cellsAt, toCells, toCell, scalar_int, scalar_bool, scalar_str, scalar_sl, updAt, fromRo, upd, h1, h2, h4, h5, h6, h7, hi, -Int.natCast_add]
      change _ = _
      kernel_rfl
  · rw [List.take_length]
    simp (maxSteps := 4000000) -implicitDefEqProofs [b19_0, S_Common, x_seq, x_cond, x_block, x_region, x_skip, x_exit, x_ret, head_id, runG, runOps, doOp, wantB, stepOp, AO.eff, pureOp, St.get, St.one, St.num, St.put, St.optNum, binA, binInt, List.take, List.drop, R_Common]
    change _ = _
    kernel_rfl
theorem r_Common (w : PWorld) (hw : WfW w) (hs : SmW w) (a b : Int) (ha : I64 a) (hb : I64 b) : runRO (X tab) tab 19 [.v true (worldA w), .v false [.int .i64 a], .v false [.int .i64 b]] = some (.v false [.int .i64 (cmF (chain w.log b) (chain w.log a))], []) := by
  have q1 := r_Chain w hw hs a ha
  have q2 := r_Chain w hw hs b hb
  have hle := chain_le w.log a
  have hle2 := chain_le w.log b
  have hlog := hs.log
  have hlp := fun {x} => loop_Common (chain w.log b) (chain w.log a) (by omega) (by omega) (x := x)
  generalize chain w.log a = A at *
  generalize chain w.log b = B at *
  simp only [worldA] at q1 q2
  unfold runRO
  simp (maxSteps := 4000000) -implicitDefEqProofs [tab19, a19, x_seq, x_cond, x_block, x_region, x_skip, x_exit, x_ret, head_id, runG, runOps, doOp, wantB, stepOp, AO.eff, pureOp, St.get, St.one, St.num, St.put, St.optNum, binA, binInt, List.take, List.drop, effOp2, effOp, memL_app, stoRow, cellsAt, toCells, toCell, scalar_int, scalar_bool, scalar_str, scalar_sl, updAt, fromRo, upd, callRO, addMem_nil, roArgs, roL, roA, srcCells, A1.ownB, addMem, shift, ren, SV.map, Ob.map, Ob.noRo, SV.noRo, A1.noRo, List.range, List.range.loop, worldA, q1, q2]
  rw [hlp (by change _ = _; kernel_rfl)]
  simp (maxSteps := 4000000) -implicitDefEqProofs [R_Common, x_seq, x_cond, x_block, x_region, x_skip, x_exit, x_ret, head_id, runG, runOps, doOp, wantB, stepOp, AO.eff, pureOp, St.get, St.one, St.num, St.put, St.optNum, binA, binInt, List.take, List.drop, resOf, resSV, SV.map, SV.ids, A1.ids, reach, allObs, ren, pos, Ob.map, St.canon, memL, List.range, List.range.loop]
def toldF (w : PWorld) (l : List Int) : Int := l.foldl (fun o x => if o > depth w x then o else depth w x) 0
theorem toldF_next {w : PWorld} {A : List Int} {i : Nat} {y : Int} (h : A[i]? = some y) : toldF w (A.take (i + 1)) = if toldF w (A.take i) > depth w y then toldF w (A.take i) else depth w y := by
  unfold toldF
  rw [List.take_add_one, h, List.foldl_append]
  rfl
theorem r_l1Max (a b : Int) : runRO (X tab) tab 43 [.v false [.int .i64 a], .v false [.int .i64 b]] = some (.v false [.int .i64 (if a > b then a else b)], []) := by
  unfold runRO
  by_cases h : b < a
  · simp (maxSteps := 4000000) -implicitDefEqProofs [tab43, a43, x_seq, x_cond, x_block, x_region, x_skip, x_exit, x_ret, head_id, runG, runOps, doOp, wantB, stepOp, AO.eff, pureOp, St.get, St.one, St.num, St.put, St.optNum, binA, binInt, List.take, List.drop, resOf, resSV, SV.map, SV.ids, A1.ids, reach, allObs, ren, pos, Ob.map, St.canon, memL, List.range, List.range.loop, h]
  · simp (maxSteps := 4000000) -implicitDefEqProofs [tab43, a43, x_seq, x_cond, x_block, x_region, x_skip, x_exit, x_ret, head_id, runG, runOps, doOp, wantB, stepOp, AO.eff, pureOp, St.get, St.one, St.num, St.put, St.optNum, binA, binInt, List.take, List.drop, resOf, resSV, SV.map, SV.ids, A1.ids, reach, allObs, ren, pos, Ob.map, St.canon, memL, List.range, List.range.loop, h]
def S_sTold (w : PWorld) (i : Nat) (o : Int) : XS := ⟨⟨[.bad, .v false [.pr 0 [] 0], .bad, .v false [.int .i64 (o)], .v false [.int .i64 (i)], .bad, .bad, .bad, .bad, .bad, .bad, .bad, .bad, .bad, .bad, .bad, .bad, .bad, .bad, .bad, .bad, .bad], memL [some (.box (worldA w))], []⟩, 1⟩
def R_sTold (o : Int) : Option (AE × XS) := some (.exit 0, ⟨⟨[.bad, .bad, .bad, .v false [.int .i64 (o)], .bad, .bad, .bad, .bad, .bad, .bad, .bad, .bad, .bad, .bad, .bad, .bad, .bad, .bad, .bad, .bad, .bad, .bad], memL [], []⟩, 0⟩)
theorem loop_sTold (w : PWorld) (hw : WfW w) (hs : SmW w) {x : XS} (hx : head true d16_0 x = S_sTold w 0 0) : X tab l16_0 x = R_sTold (toldF w w.safe) := by
  have hA := hs.safe
  refine loopN w.safe.length (fun i => S_sTold w i (toldF w (w.safe.take i))) _ (by simp [R_sTold]) (fun i hi => ?_) ?_ (Nat.zero_le _) hx
  · obtain ⟨y, r, hl⟩ : ∃ y r, w.safe.drop i = y :: r := ⟨_, _, List.drop_eq_getElem_cons hi⟩
    have hy : w.safe[i]? = some y := by
      have := congrArg (fun q : List Int => q[0]?) hl
      simpa using this
    have h1 : (0 ≤ (i : Int) ∧ (i : Int) < (w.safe.length : Int)) := by omega
    have h2 := cl_at (k := .i64) hl
    have h4 : IntKind.i64.wrap ((i : Int) + 1) = ((i + 1 : Nat) : Int) := by rw [wrap_id (by omega) (by omega)]; omega
    have h5 := r_sDepth w hw hs y (hw.safe y (dropx_mem hl))
    have h6 := r_l1Max (toldF w (w.safe.take i)) (depth w y)
    simp only [worldA] at h5
    simp only [toldF_next hy, S_sTold, worldA]
    generalize toldF w (w.safe.take i) = o at *
    generalize (if o > depth w y then o else depth w y) = o' at *
    generalize depth w y = dd at *
    simp (maxSteps := 4000000) -implicitDefEqProofs [b16_0, x_seq, x_cond, x_block, x_region, x_skip, x_exit, x_ret, head_id, runG, runOps, doOp, wantB, stepOp, AO.eff, pureOp, St.get, St.one, St.num, St.put, St.optNum, binA, binInt, List.take, List.drop, gOp, gOp0, gOpL, gResL, updO, gRes, gEff, addObs_nil, addObs_one, freshB_memL, freshB_none, freshB_upd, freshB_addMem, freshB_addObs, callRO, addMem_nil, roArgs, roL, roA, srcCells, A1.ownB, addMem, shift, ren, SV.map, Ob.map, Ob.noRo, SV.noRo, A1.noRo, List.range, List.range.loop, effOp2, effOp, memL_app, stoRow, cellsAt, toCells, toCell, scalar_int, scalar_bool, scalar_str, scalar_sl, updAt, fromRo, upd, fromRo, h1, h2, h4, h5, h6, hi, -Int.natCast_add]
    change _ = _
    kernel_rfl
  · rw [List.take_length]
    simp (maxSteps := 4000000) -implicitDefEqProofs [b16_0, S_sTold, worldA, x_seq, x_cond, x_block, x_region, x_skip, x_exit, x_ret, head_id, runG, runOps, doOp, wantB, stepOp, AO.eff, pureOp, St.get, St.one, St.num, St.put, St.optNum, binA, binInt, List.take, List.drop, effOp2, effOp, memL_app, stoRow, cellsAt, toCells, toCell, scalar_int, scalar_bool, scalar_str, scalar_sl, updAt, fromRo, upd, R_sTold]
    change _ = _
    kernel_rfl
theorem r_sTold (w : PWorld) (hw : WfW w) (hs : SmW w) : runRO (X tab) tab 16 [.v true (worldA w)] = some (.v false [.int .i64 (toldF w w.safe)], []) := by
  have hlp := fun {x} => loop_sTold w hw hs (x := x)
  unfold runRO
  simp (maxSteps := 4000000) -implicitDefEqProofs [tab16, a16, x_seq, x_cond, x_block, x_region, x_skip, x_exit, x_ret, head_id, runG, runOps, doOp, wantB, stepOp, AO.eff, pureOp, St.get, St.one, St.num, St.put, St.optNum, binA, binInt, List.take, List.drop, effOp2, effOp, memL_app, stoRow, cellsAt, toCells, toCell, scalar_int, scalar_bool, scalar_str, scalar_sl, updAt, fromRo, upd, callRO, addMem_nil, roArgs, roL, roA, srcCells, A1.ownB, addMem, shift, ren, SV.map, Ob.map, Ob.noRo, SV.noRo, A1.noRo, List.range, List.range.loop, worldA]
  rw [hlp (by change _ = _; kernel_rfl)]
  simp (maxSteps := 4000000) -implicitDefEqProofs [R_sTold, x_seq, x_cond, x_block, x_region, x_skip, x_exit, x_ret, head_id, runG, runOps, doOp, wantB, stepOp, AO.eff, pureOp, St.get, St.one, St.num, St.put, St.optNum, binA, binInt, List.take, List.drop, resOf, resSV, SV.map, SV.ids, A1.ids, reach, allObs, ren, pos, Ob.map, St.canon, memL, List.range, List.range.loop]
def S_Told (w : PWorld) (i : Nat) (o : Int) : XS := ⟨⟨[.bad, .v false [.pr 0 [] 0], .bad, .v false [.int .i64 (o)], .bad, .bad, .bad, .v false [.ro w.safe.length (cl .i64 w.safe)], .v false [.int .i64 (w.safe.length)], .v false [.int .i64 (i)], .bad, .bad, .bad, .bad, .bad, .bad, .bad, .bad, .bad, .bad], memL [some (.box (worldA w))], []⟩, 1⟩
def R_Told (o : Int) : Option (AE × XS) := some (.exit 0, ⟨⟨[.bad, .bad, .bad, .v false [.int .i64 (o)], .bad, .bad, .bad, .bad, .bad, .bad, .bad, .bad, .bad, .bad, .bad, .bad, .bad, .bad, .bad, .bad], memL [], []⟩, 0⟩)
theorem loop_Told (w : PWorld) (hw : WfW w) (hs : SmW w) {x : XS} (hx : head true d17_0 x = S_Told w 0 0) : X tab l17_0 x = R_Told (toldF w w.safe) := by
  have hA := hs.safe
  refine loopN w.safe.length (fun i => S_Told w i (toldF w (w.safe.take i))) _ (by simp [R_Told]) (fun i hi => ?_) ?_ (Nat.zero_le _) hx
  · obtain ⟨y, r, hl⟩ : ∃ y r, w.safe.drop i = y :: r := ⟨_, _, List.drop_eq_getElem_cons hi⟩
    have hy : w.safe[i]? = some y := by
      have := congrArg (fun q : List Int => q[0]?) hl
      simpa using this
    have h1 : (0 ≤ (i : Int) ∧ (i : Int) < (w.safe.length : Int)) := by omega
    have h2 := cl_at (k := .i64) hl
    have h4 : IntKind.i64.wrap ((i : Int) + 1) = ((i + 1 : Nat) : Int) := by rw [wrap_id (by omega) (by omega)]; omega
    have h5 := r_Depth w hw hs y (hw.safe y (dropx_mem hl))
    simp only [worldA] at h5
    simp only [toldF_next hy, S_Told, worldA]
    generalize toldF w (w.safe.take i) = o at *
    generalize depth w y = dd at *
    have h7 : (if dd > o then dd else o) = (if o > dd then o else dd) := by
      by_cases ha : dd > o
      · rw [if_pos ha, if_neg (by omega)]
      · by_cases hb : o > dd
        · rw [if_neg ha, if_pos hb]
        · rw [if_neg ha, if_neg hb]; omega
    rw [← h7]
    simp (maxSteps := 4000000) -implicitDefEqProofs [b17_0, x_seq, x_cond, x_block, x_region, x_skip, x_exit, x_ret, head_id, runG, runOps, doOp, wantB, stepOp, AO.eff, pureOp, St.get, St.one, St.num, St.put, St.optNum, binA, binInt, List.take, List.drop, callRO, addMem_nil, roArgs, roL, roA, srcCells, A1.ownB, addMem, shift, ren, SV.map, Ob.map, Ob.noRo, SV.noRo, A1.noRo, List.range, List.range.loop, effOp2, effOp, memL_app, stoRow, cellsAt, toCells, toCell, scalar_int, scalar_bool, scalar_str, scalar_sl, updAt, fromRo, upd, fromRo, h1, h2, h4, h5, hi, -Int.natCast_add]
    change _ = _
    kernel_rfl
  · rw [List.take_length]
    simp (maxSteps := 4000000) -implicitDefEqProofs [b17_0, S_Told, worldA, x_seq, x_cond, x_block, x_region, x_skip, x_exit, x_ret, head_id, runG, runOps, doOp, wantB, stepOp, AO.eff, pureOp, St.get, St.one, St.num, St.put, St.optNum, binA, binInt, List.take, List.drop, R_Told]
    change _ = _
    kernel_rfl
theorem r_Told (w : PWorld) (hw : WfW w) (hs : SmW w) : runRO (X tab) tab 17 [.v true (worldA w)] = some (.v false [.int .i64 (toldF w w.safe)], []) := by
  have hlp := fun {x} => loop_Told w hw hs (x := x)
  unfold runRO
  simp (maxSteps := 4000000) -implicitDefEqProofs [tab17, a17, x_seq, x_cond, x_block, x_region, x_skip, x_exit, x_ret, head_id, runG, runOps, doOp, wantB, stepOp, AO.eff, pureOp, St.get, St.one, St.num, St.put, St.optNum, binA, binInt, List.take, List.drop, effOp2, effOp, memL_app, stoRow, cellsAt, toCells, toCell, scalar_int, scalar_bool, scalar_str, scalar_sl, updAt, fromRo, upd, callRO, addMem_nil, roArgs, roL, roA, srcCells, A1.ownB, addMem, shift, ren, SV.map, Ob.map, Ob.noRo, SV.noRo, A1.noRo, List.range, List.range.loop, worldA]
  rw [hlp (by change _ = _; kernel_rfl)]
  simp (maxSteps := 4000000) -implicitDefEqProofs [R_Told, x_seq, x_cond, x_block, x_region, x_skip, x_exit, x_ret, head_id, runG, runOps, doOp, wantB, stepOp, AO.eff, pureOp, St.get, St.one, St.num, St.put, St.optNum, binA, binInt, List.take, List.drop, resOf, resSV, SV.map, SV.ids, A1.ids, reach, allObs, ren, pos, Ob.map, St.canon, memL, List.range, List.range.loop]
/-! The laws. -/
theorem law_FnExactDepth (w : PWorld) (hw : WfW w) (n : Int) (hn : I64 n) : runRO (X tab) tab 3 [.v true (worldA w), .v false [.int .i64 n]] = some (.v false [.bool true], []) := by
  have q0 : runRO (X tab) tab 9 [.v true (worldA w), .v false [.int .i64 1048576]] = some (.v false [.int .i64 (szT 1048576 (totW w))], []) := r_szWorld w hw 1048576 (by omega) (by omega)
  by_cases ht : (1048576 : Int) < (totW w : Int)
  · rw [szT_neg ht] at q0
    simp only [worldA] at q0
    unfold runRO
    simp (maxSteps := 4000000) -implicitDefEqProofs [tab3, a3, x_seq, x_cond, x_block, x_region, x_skip, x_exit, x_ret, head_id, runG, runOps, doOp, wantB, stepOp, AO.eff, pureOp, St.get, St.one, St.num, St.put, St.optNum, binA, binInt, List.take, List.drop, effOp2, effOp, memL_app, stoRow, cellsAt, toCells, toCell, scalar_int, scalar_bool, scalar_str, scalar_sl, updAt, fromRo, upd, callRO, addMem_nil, roArgs, roL, roA, srcCells, A1.ownB, addMem, shift, ren, SV.map, Ob.map, Ob.noRo, SV.noRo, A1.noRo, List.range, List.range.loop, resOf, resSV, SV.map, SV.ids, A1.ids, reach, allObs, ren, pos, Ob.map, St.canon, memL, List.range, List.range.loop, worldA, q0]
  · rw [szT_pos ht] at q0
    have hs := smW w (by omega)
    have q1 := r_toWorld w hs
    have g1 := r_sDepth w hw hs n hn
    have g2 := r_Depth w hw hs n hn
    have q2 := r_eqWorld w hs
    have h0 : ¬ (1048576 : Int) - (totW w : Int) < 0 := by omega
    have t1 := nodesC_self w.nodes
    have t2 := wiresC_self w.net
    have t3 := recsC_self w.log
    have t4 : (cl .i64 w.safe).take w.safe.length = cl .i64 w.safe := cl_self
    have l1 := nodesC_len w.nodes
    have l2 := wiresC_len w.net
    have l3 := recsC_len w.log
    have l4 : (cl .i64 w.safe).length = w.safe.length := cl_length
    generalize depth w n = v at *
    generalize (1048576 : Int) - (totW w : Int) = left at *
    simp only [worldA, worldR, worldO] at q0 q1 q2 g1 g2
    unfold runRO
    simp (maxSteps := 4000000) -implicitDefEqProofs [tab3, a3, x_seq, x_cond, x_block, x_region, x_skip, x_exit, x_ret, head_id, runG, runOps, doOp, wantB, stepOp, AO.eff, pureOp, St.get, St.one, St.num, St.put, St.optNum, binA, binInt, List.take, List.drop, effOp2, effOp, memL_app, stoRow, cellsAt, toCells, toCell, scalar_int, scalar_bool, scalar_str, scalar_sl, updAt, fromRo, upd, gOp, gOp0, gOpL, gResL, updO, gRes, gEff, addObs_nil, addObs_one, freshB_memL, freshB_none, freshB_upd, freshB_addMem, freshB_addObs, callRO, addMem_nil, roArgs, roL, roA, srcCells, A1.ownB, addMem, shift, ren, SV.map, Ob.map, Ob.noRo, SV.noRo, A1.noRo, List.range, List.range.loop, resOf, resSV, SV.map, SV.ids, A1.ids, reach, allObs, ren, pos, Ob.map, St.canon, memL, List.range, List.range.loop, addObs_app, spl, cellsAt, worldA, q0, q1, q2, g1, g2, h0, t1, t2, t3, t4, l1, l2, l3, l4]
theorem law_FnExactWithin (w : PWorld) (hw : WfW w) (n : Int) (hn : I64 n) (m : Int) (hm : I64 m) : runRO (X tab) tab 4 [.v true (worldA w), .v false [.int .i64 n], .v false [.int .i64 m]] = some (.v false [.bool true], []) := by
  have q0 : runRO (X tab) tab 9 [.v true (worldA w), .v false [.int .i64 1048576]] = some (.v false [.int .i64 (szT 1048576 (totW w))], []) := r_szWorld w hw 1048576 (by omega) (by omega)
  by_cases ht : (1048576 : Int) < (totW w : Int)
  · rw [szT_neg ht] at q0
    simp only [worldA] at q0
    unfold runRO
    simp (maxSteps := 4000000) -implicitDefEqProofs [tab4, a4, x_seq, x_cond, x_block, x_region, x_skip, x_exit, x_ret, head_id, runG, runOps, doOp, wantB, stepOp, AO.eff, pureOp, St.get, St.one, St.num, St.put, St.optNum, binA, binInt, List.take, List.drop, effOp2, effOp, memL_app, stoRow, cellsAt, toCells, toCell, scalar_int, scalar_bool, scalar_str, scalar_sl, updAt, fromRo, upd, callRO, addMem_nil, roArgs, roL, roA, srcCells, A1.ownB, addMem, shift, ren, SV.map, Ob.map, Ob.noRo, SV.noRo, A1.noRo, List.range, List.range.loop, resOf, resSV, SV.map, SV.ids, A1.ids, reach, allObs, ren, pos, Ob.map, St.canon, memL, List.range, List.range.loop, worldA, q0]
  · rw [szT_pos ht] at q0
    have hs := smW w (by omega)
    have q1 := r_toWorld w hs
    have g1 := r_sWithin w hw hs n m hm
    have g2 := r_Within w hw hs n m hm
    have q2 := r_eqWorld w hs
    have h0 : ¬ (1048576 : Int) - (totW w : Int) < 0 := by omega
    have t1 := nodesC_self w.nodes
    have t2 := wiresC_self w.net
    have t3 := recsC_self w.log
    have t4 : (cl .i64 w.safe).take w.safe.length = cl .i64 w.safe := cl_self
    have l1 := nodesC_len w.nodes
    have l2 := wiresC_len w.net
    have l3 := recsC_len w.log
    have l4 : (cl .i64 w.safe).length = w.safe.length := cl_length
    generalize decide (n ∈ chain w.log m) = v at *
    generalize (1048576 : Int) - (totW w : Int) = left at *
    simp only [worldA, worldR, worldO] at q0 q1 q2 g1 g2
    unfold runRO
    simp (maxSteps := 4000000) -implicitDefEqProofs [tab4, a4, x_seq, x_cond, x_block, x_region, x_skip, x_exit, x_ret, head_id, runG, runOps, doOp, wantB, stepOp, AO.eff, pureOp, St.get, St.one, St.num, St.put, St.optNum, binA, binInt, List.take, List.drop, effOp2, effOp, memL_app, stoRow, cellsAt, toCells, toCell, scalar_int, scalar_bool, scalar_str, scalar_sl, updAt, fromRo, upd, gOp, gOp0, gOpL, gResL, updO, gRes, gEff, addObs_nil, addObs_one, freshB_memL, freshB_none, freshB_upd, freshB_addMem, freshB_addObs, callRO, addMem_nil, roArgs, roL, roA, srcCells, A1.ownB, addMem, shift, ren, SV.map, Ob.map, Ob.noRo, SV.noRo, A1.noRo, List.range, List.range.loop, resOf, resSV, SV.map, SV.ids, A1.ids, reach, allObs, ren, pos, Ob.map, St.canon, memL, List.range, List.range.loop, addObs_app, spl, cellsAt, worldA, q0, q1, q2, g1, g2, h0, t1, t2, t3, t4, l1, l2, l3, l4]
theorem law_FnExactCommon (w : PWorld) (hw : WfW w) (n : Int) (hn : I64 n) (m : Int) (hm : I64 m) : runRO (X tab) tab 6 [.v true (worldA w), .v false [.int .i64 n], .v false [.int .i64 m]] = some (.v false [.bool true], []) := by
  have q0 : runRO (X tab) tab 9 [.v true (worldA w), .v false [.int .i64 1048576]] = some (.v false [.int .i64 (szT 1048576 (totW w))], []) := r_szWorld w hw 1048576 (by omega) (by omega)
  by_cases ht : (1048576 : Int) < (totW w : Int)
  · rw [szT_neg ht] at q0
    simp only [worldA] at q0
    unfold runRO
    simp (maxSteps := 4000000) -implicitDefEqProofs [tab6, a6, x_seq, x_cond, x_block, x_region, x_skip, x_exit, x_ret, head_id, runG, runOps, doOp, wantB, stepOp, AO.eff, pureOp, St.get, St.one, St.num, St.put, St.optNum, binA, binInt, List.take, List.drop, effOp2, effOp, memL_app, stoRow, cellsAt, toCells, toCell, scalar_int, scalar_bool, scalar_str, scalar_sl, updAt, fromRo, upd, callRO, addMem_nil, roArgs, roL, roA, srcCells, A1.ownB, addMem, shift, ren, SV.map, Ob.map, Ob.noRo, SV.noRo, A1.noRo, List.range, List.range.loop, resOf, resSV, SV.map, SV.ids, A1.ids, reach, allObs, ren, pos, Ob.map, St.canon, memL, List.range, List.range.loop, worldA, q0]
  · rw [szT_pos ht] at q0
    have hs := smW w (by omega)
    have q1 := r_toWorld w hs
    have g1 := r_sCommon w hw hs n m hn hm
    have g2 := r_Common w hw hs n m hn hm
    have q2 := r_eqWorld w hs
    have h0 : ¬ (1048576 : Int) - (totW w : Int) < 0 := by omega
    have t1 := nodesC_self w.nodes
    have t2 := wiresC_self w.net
    have t3 := recsC_self w.log
    have t4 : (cl .i64 w.safe).take w.safe.length = cl .i64 w.safe := cl_self
    have l1 := nodesC_len w.nodes
    have l2 := wiresC_len w.net
    have l3 := recsC_len w.log
    have l4 : (cl .i64 w.safe).length = w.safe.length := cl_length
    generalize cmF (chain w.log m) (chain w.log n) = v at *
    generalize (1048576 : Int) - (totW w : Int) = left at *
    simp only [worldA, worldR, worldO] at q0 q1 q2 g1 g2
    unfold runRO
    simp (maxSteps := 4000000) -implicitDefEqProofs [tab6, a6, x_seq, x_cond, x_block, x_region, x_skip, x_exit, x_ret, head_id, runG, runOps, doOp, wantB, stepOp, AO.eff, pureOp, St.get, St.one, St.num, St.put, St.optNum, binA, binInt, List.take, List.drop, effOp2, effOp, memL_app, stoRow, cellsAt, toCells, toCell, scalar_int, scalar_bool, scalar_str, scalar_sl, updAt, fromRo, upd, gOp, gOp0, gOpL, gResL, updO, gRes, gEff, addObs_nil, addObs_one, freshB_memL, freshB_none, freshB_upd, freshB_addMem, freshB_addObs, callRO, addMem_nil, roArgs, roL, roA, srcCells, A1.ownB, addMem, shift, ren, SV.map, Ob.map, Ob.noRo, SV.noRo, A1.noRo, List.range, List.range.loop, resOf, resSV, SV.map, SV.ids, A1.ids, reach, allObs, ren, pos, Ob.map, St.canon, memL, List.range, List.range.loop, addObs_app, spl, cellsAt, worldA, q0, q1, q2, g1, g2, h0, t1, t2, t3, t4, l1, l2, l3, l4]
theorem law_FnExactTold (w : PWorld) (hw : WfW w)  : runRO (X tab) tab 5 [.v true (worldA w)] = some (.v false [.bool true], []) := by
  have q0 : runRO (X tab) tab 9 [.v true (worldA w), .v false [.int .i64 1048576]] = some (.v false [.int .i64 (szT 1048576 (totW w))], []) := r_szWorld w hw 1048576 (by omega) (by omega)
  by_cases ht : (1048576 : Int) < (totW w : Int)
  · rw [szT_neg ht] at q0
    simp only [worldA] at q0
    unfold runRO
    simp (maxSteps := 4000000) -implicitDefEqProofs [tab5, a5, x_seq, x_cond, x_block, x_region, x_skip, x_exit, x_ret, head_id, runG, runOps, doOp, wantB, stepOp, AO.eff, pureOp, St.get, St.one, St.num, St.put, St.optNum, binA, binInt, List.take, List.drop, effOp2, effOp, memL_app, stoRow, cellsAt, toCells, toCell, scalar_int, scalar_bool, scalar_str, scalar_sl, updAt, fromRo, upd, callRO, addMem_nil, roArgs, roL, roA, srcCells, A1.ownB, addMem, shift, ren, SV.map, Ob.map, Ob.noRo, SV.noRo, A1.noRo, List.range, List.range.loop, resOf, resSV, SV.map, SV.ids, A1.ids, reach, allObs, ren, pos, Ob.map, St.canon, memL, List.range, List.range.loop, worldA, q0]
  · rw [szT_pos ht] at q0
    have hs := smW w (by omega)
    have q1 := r_toWorld w hs
    have g1 := r_sTold w hw hs
    have g2 := r_Told w hw hs
    have q2 := r_eqWorld w hs
    have h0 : ¬ (1048576 : Int) - (totW w : Int) < 0 := by omega
    have t1 := nodesC_self w.nodes
    have t2 := wiresC_self w.net
    have t3 := recsC_self w.log
    have t4 : (cl .i64 w.safe).take w.safe.length = cl .i64 w.safe := cl_self
    have l1 := nodesC_len w.nodes
    have l2 := wiresC_len w.net
    have l3 := recsC_len w.log
    have l4 : (cl .i64 w.safe).length = w.safe.length := cl_length
    generalize toldF w w.safe = v at *
    generalize (1048576 : Int) - (totW w : Int) = left at *
    simp only [worldA, worldR, worldO] at q0 q1 q2 g1 g2
    unfold runRO
    simp (maxSteps := 4000000) -implicitDefEqProofs [tab5, a5, x_seq, x_cond, x_block, x_region, x_skip, x_exit, x_ret, head_id, runG, runOps, doOp, wantB, stepOp, AO.eff, pureOp, St.get, St.one, St.num, St.put, St.optNum, binA, binInt, List.take, List.drop, effOp2, effOp, memL_app, stoRow, cellsAt, toCells, toCell, scalar_int, scalar_bool, scalar_str, scalar_sl, updAt, fromRo, upd, gOp, gOp0, gOpL, gResL, updO, gRes, gEff, addObs_nil, addObs_one, freshB_memL, freshB_none, freshB_upd, freshB_addMem, freshB_addObs, callRO, addMem_nil, roArgs, roL, roA, srcCells, A1.ownB, addMem, shift, ren, SV.map, Ob.map, Ob.noRo, SV.noRo, A1.noRo, List.range, List.range.loop, resOf, resSV, SV.map, SV.ids, A1.ids, reach, allObs, ren, pos, Ob.map, St.canon, memL, List.range, List.range.loop, addObs_app, spl, cellsAt, worldA, q0, q1, q2, g1, g2, h0, t1, t2, t3, t4, l1, l2, l3, l4]
end Go.Proofs.Ytbdokibepndibaa.Eng.A
