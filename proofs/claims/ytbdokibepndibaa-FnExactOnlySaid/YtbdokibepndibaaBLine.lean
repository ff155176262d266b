/- Depth, Within, Common, Told: the program's and the reference's. -/
import Derived.Test.YtbdokibepndibaaBCh
namespace Go.Proofs.Ytbdokibepndibaa.Eng.B
set_option linter.unusedSimpArgs false
set_option linter.unusedVariables false
set_option maxHeartbeats 16000000
set_option maxRecDepth 100000
open Go.RowKit Go.Proofs

theorem nodesC_self (l : List PNode) : (nodesC l).take (l.length * 16) = nodesC l := by rw [← nodesC_len, List.take_length]
theorem wiresC_self (l : List PWire) : (wiresC l).take (l.length * 3) = wiresC l := by rw [← wiresC_len, List.take_length]
theorem recsC_self (l : List PRec) : (recsC l).take (l.length * 2) = recsC l := by rw [← recsC_len, List.take_length]
theorem addObs_app {m : Mem} {d u : Nat} {obs : List Ob} : addObs m d obs u = if d ≤ u ∧ u < d + obs.length then obs[u - d]? else m u := rfl
def depth (w : PWorld) (n : Int) : Int := (chain w.log n).length
theorem depth_bound (w : PWorld) (hs : SmW w) (n : Int) : 0 ≤ depth w n ∧ depth w n ≤ 1048576 := by
  have := chain_le w.log n
  have := hs.log
  unfold depth
  omega
theorem r_sWithin (w : PWorld) (hw : WfW w) (hs : SmW w) (n m : Int) (hm : I64 m) : runRO (X tab) tab 14 [.v true (worldA w), .v false [.int .i64 n], .v false [.int .i64 m]] = some (.v false [.bool (decide (n ∈ chain w.log m))], []) := by
  have q1 := r_sChain w hw hs m hm
  have hle := chain_le w.log m
  have hlog := hs.log
  have q2 := r_l2Has (chain w.log m) n (by omega)
  have q3 : (cl .i64 (chain w.log m)).take (chain w.log m).length = cl .i64 (chain w.log m) := cl_self
  have q4 : (cl .i64 (chain w.log m)).length = (chain w.log m).length := cl_length
  generalize chain w.log m = L at *
  simp only [worldA] at q1
  unfold runRO
  simp (maxSteps := 4000000) -implicitDefEqProofs [tab14, a14, x_seq, x_cond, x_block, x_region, x_skip, x_exit, x_ret, head_id, runG, runOps, doOp, wantB, stepOp, AO.eff, pureOp, St.get, St.one, St.num, St.put, St.optNum, binA, binInt, List.take, List.drop, effOp2, effOp, memL_app, stoRow, cellsAt, toCells, toCell, scalar_int, scalar_bool, scalar_str, scalar_sl, updAt, fromRo, upd, callRO, addMem_nil, roArgs, roL, roA, srcCells, A1.ownB, addMem, shift, ren, SV.map, Ob.map, Ob.noRo, SV.noRo, A1.noRo, List.range, List.range.loop, resOf, resSV, SV.map, SV.ids, A1.ids, reach, allObs, ren, pos, Ob.map, St.canon, memL, List.range, List.range.loop, cellsAt, worldA, q1, q2, q3, q4]
/-- The last one of a list that is in another one. -/
def cmF (B : List Int) (A : List Int) : Int := A.foldl (fun o x => if x ∈ B then x else o) 0
theorem cmF_next {B A : List Int} {i : Nat} {y : Int} (h : A[i]? = some y) : cmF B (A.take (i + 1)) = if y ∈ B then y else cmF B (A.take i) := by
  unfold cmF
  rw [List.take_add_one, h, List.foldl_append]
  rfl
def toldF (w : PWorld) (l : List Int) : Int := l.foldl (fun o x => if o > depth w x then o else depth w x) 0
theorem toldF_next {w : PWorld} {A : List Int} {i : Nat} {y : Int} (h : A[i]? = some y) : toldF w (A.take (i + 1)) = if toldF w (A.take i) > depth w y then toldF w (A.take i) else depth w y := by
  unfold toldF
  rw [List.take_add_one, h, List.foldl_append]
  rfl
/-! The laws. -/
end Go.Proofs.Ytbdokibepndibaa.Eng.B
