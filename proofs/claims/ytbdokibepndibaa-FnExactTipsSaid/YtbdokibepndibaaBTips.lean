/- Tips: the program's and the reference's. -/
import Derived.Test.YtbdokibepndibaaBLine
import Derived.Test.YtbdokibepndibaaBW8
namespace Go.Proofs.Ytbdokibepndibaa.Eng.B
set_option linter.unusedSimpArgs false
set_option linter.unusedVariables false
set_option maxHeartbeats 16000000
set_option maxRecDepth 100000
open Go.RowKit Go.Proofs

def usedB (log : List PRec) (n : Int) : Bool := log.any fun r => r.up == n
def tipsTo (log : List PRec) (k : Nat) : List Int := ((List.range k).map fun (i : Nat) => (i : Int) + 1).filter fun n => !usedB log n
def tips (log : List PRec) : List Int := tipsTo log log.length
theorem tips_next (log : List PRec) (k : Nat) : tipsTo log (k + 1) = if usedB log ((k : Int) + 1) = true then tipsTo log k else tipsTo log k ++ [(k : Int) + 1] := by
  unfold tipsTo
  rw [List.range_succ, List.map_append, List.filter_append]
  cases h : usedB log ((k : Int) + 1) <;> simp [h]
theorem tips_le (log : List PRec) (k : Nat) : (tipsTo log k).length ≤ k := by
  unfold tipsTo
  refine Nat.le_trans (List.length_filter_le _ _) ?_
  simp
/-! The reference's. -/
def S_sTips1 (w : PWorld) (n : Int) (out : List Int) (i : Nat) (b : Bool) : XS := ⟨⟨[.bad, .v false [.pr 0 [] 0], .bad, .v false [.sl 1 [] 0 out.length], .v false [.int .i64 (n)], .v false [.bool (b)], .v false [.int .i64 (i)], .bad, .bad, .bad, .bad, .bad, .bad, .bad, .bad, .bad, .bad, .bad, .bad, .bad, .bad, .bad, .bad, .bad, .bad, .bad, .bad, .bad, .bad, .bad, .bad, .bad, .bad, .bad, .bad, .bad, .bad, .bad, .bad, .bad], memL [some (.box (worldA w)), some (.row 1 (cl .i64 out))], []⟩, 2⟩
def R_sTips1 (w : PWorld) (n : Int) (out : List Int) : Option (AE × XS) := some (.exit 2, ⟨⟨[.bad, .v false [.pr 0 [] 0], .bad, .v false [.sl 1 [] 0 out.length], .v false [.int .i64 (n)], .v false [.bool ((usedB w.log n))], .bad, .bad, .bad, .bad, .bad, .bad, .bad, .bad, .bad, .bad, .bad, .bad, .bad, .bad, .bad, .bad, .bad, .bad, .bad, .bad, .bad, .bad, .bad, .bad, .bad, .bad, .bad, .bad, .bad, .bad, .bad, .bad, .bad, .bad], memL [some (.box (worldA w)), some (.row 1 (cl .i64 out))], []⟩, 2⟩)
theorem loop_sTips1 (w : PWorld) (hs : SmW w) (n : Int) (out : List Int) {x : XS} (hx : head true d20_1 x = S_sTips1 w n out 0 false) : X tab l20_1 x = R_sTips1 w n out := by
  have hlog := hs.log
  refine loopN w.log.length (fun i => S_sTips1 w n out i ((w.log.take i).any fun r => r.up == n)) _ (by simp [R_sTips1]) (fun i hi => ?_) ?_ (Nat.zero_le _) hx
  · obtain ⟨y, r, hl⟩ : ∃ y r, w.log.drop i = y :: r := ⟨_, _, List.drop_eq_getElem_cons hi⟩
    have hy : w.log[i]? = some y := by
      have := congrArg (fun q : List PRec => q[0]?) hl
      simpa using this
    have h1 : (0 ≤ (i : Int) ∧ (i : Int) < (w.log.length : Int)) := by omega
    have h2 := recsC_at hl
    simp only [recC, List.cons_append, List.nil_append] at h2
    have h4 : IntKind.i64.wrap ((i : Int) + 1) = ((i + 1 : Nat) : Int) := by rw [wrap_id (by omega) (by omega)]; omega
    have hn : ((w.log.take (i + 1)).any fun r => r.up == n) = (((w.log.take i).any fun r => r.up == n) || (y.up == n)) := by
      rw [List.take_add_one, hy, List.any_append]
      simp
    simp only [hn, S_sTips1, worldA]
    cases ((w.log.take i).any fun r => r.up == n) with
    | true =>
      simp (maxSteps := 4000000) -implicitDefEqProofs [b20_1, x_seq, x_cond, x_block, x_region, x_skip, x_exit, x_ret, head_id, runG, runOps, doOp, wantB, stepOp, AO.eff, pureOp, St.get, St.one, St.num, St.put, St.optNum, binA, binInt, List.take, List.drop, effOp2, effOp, memL_app, stoRow, cellsAt, toCells, toCell, scalar_int, scalar_bool, scalar_str, scalar_sl, updAt, fromRo, upd, fromRo, h1, h2, h4, hi, -Int.natCast_add]
      change _ = _
      kernel_rfl
    | false =>
      simp (maxSteps := 4000000) -implicitDefEqProofs [b20_1, x_seq, x_cond, x_block, x_region, x_skip, x_exit, x_ret, head_id, runG, runOps, doOp, wantB, stepOp, AO.eff, pureOp, St.get, St.one, St.num, St.put, St.optNum, binA, binInt, List.take, List.drop, effOp2, effOp, memL_app, stoRow, cellsAt, toCells, toCell, scalar_int, scalar_bool, scalar_str, scalar_sl, updAt, fromRo, upd, fromRo, h1, h2, h4, hi, -Int.natCast_add]
      change _ = _
      kernel_rfl
  · rw [List.take_length]
    simp (maxSteps := 4000000) -implicitDefEqProofs [b20_1, S_sTips1, worldA, x_seq, x_cond, x_block, x_region, x_skip, x_exit, x_ret, head_id, runG, runOps, doOp, wantB, stepOp, AO.eff, pureOp, St.get, St.one, St.num, St.put, St.optNum, binA, binInt, List.take, List.drop, effOp2, effOp, memL_app, stoRow, cellsAt, toCells, toCell, scalar_int, scalar_bool, scalar_str, scalar_sl, updAt, fromRo, upd, R_sTips1, usedB]
    change _ = _
    kernel_rfl
def S_sTips (w : PWorld) (i : Nat) : XS := ⟨⟨[.bad, .v false [.pr 0 [] 0], .bad, .v false [.sl 1 [] 0 (tipsTo w.log i).length], .v false [.int .i64 ((i : Int) + 1)], .bad, .bad, .bad, .bad, .bad, .bad, .bad, .bad, .bad, .bad, .bad, .bad, .bad, .bad, .bad, .bad, .bad, .bad, .bad, .bad, .bad, .bad, .bad, .bad, .bad, .bad, .bad, .bad, .bad, .bad, .bad, .bad, .bad, .bad, .bad], memL [some (.box (worldA w)), some (.row 1 (cl .i64 (tipsTo w.log i)))], []⟩, 2⟩
def R_sTips (l : List Int) : Option (AE × XS) := some (.exit 0, ⟨⟨[.bad, .bad, .bad, .v false [.sl 0 [] 0 l.length], .bad, .bad, .bad, .bad, .bad, .bad, .bad, .bad, .bad, .bad, .bad, .bad, .bad, .bad, .bad, .bad, .bad, .bad, .bad, .bad, .bad, .bad, .bad, .bad, .bad, .bad, .bad, .bad, .bad, .bad, .bad, .bad, .bad, .bad, .bad, .bad], memL [some (.row 1 (cl .i64 l))], []⟩, 1⟩)
theorem loop_sTips (w : PWorld) (hs : SmW w) {x : XS} (hx : head true d20_0 x = S_sTips w 0) : X tab l20_0 x = R_sTips (tips w.log) := by
  have hlog := hs.log
  refine loopN w.log.length (S_sTips w) _ (by simp [R_sTips]) (fun i hi => ?_) ?_ (Nat.zero_le _) hx
  · have h1 : (i : Int) + 1 ≤ (w.log.length : Int) := by omega
    have h4 : IntKind.i64.wrap ((i : Int) + 1 + 1) = ((i + 1 : Nat) : Int) + 1 := by rw [wrap_id (by omega) (by omega)]; omega
    have hlp := fun {x} => loop_sTips1 w hs ((i : Int) + 1) (tipsTo w.log i) (x := x)
    have hle := tips_le w.log i
    have hc : (cl .i64 (tipsTo w.log i)).length = (tipsTo w.log i).length := cl_length
    have h5 : ((tipsTo w.log i).length + 1) * 8 ≤ 140737488355328 := by omega
    simp only [S_sTips, tips_next, worldA]
    generalize tipsTo w.log i = out at *
    have hS : S_sTips1 w ((i : Int) + 1) out 0 false = ⟨⟨[.bad, .v false [.pr 0 [] 0], .bad, .v false [.sl 1 [] 0 out.length], .v false [.int .i64 ((i : Int) + 1)], .v false [.bool (false)], .v false [.int .i64 (0)], .bad, .bad, .bad, .bad, .bad, .bad, .bad, .bad, .bad, .bad, .bad, .bad, .bad, .bad, .bad, .bad, .bad, .bad, .bad, .bad, .bad, .bad, .bad, .bad, .bad, .bad, .bad, .bad, .bad, .bad, .bad, .bad, .bad], memL [some (.box (worldA w)), some (.row 1 (cl .i64 out))], []⟩, 2⟩ := rfl
    simp only [worldA] at hS
    simp (maxSteps := 4000000) -implicitDefEqProofs [b20_0, x_seq, x_cond, x_block, x_region, x_skip, x_exit, x_ret, head_id, runG, runOps, doOp, wantB, stepOp, AO.eff, pureOp, St.get, St.one, St.num, St.put, St.optNum, binA, binInt, List.take, List.drop, effOp2, effOp, memL_app, stoRow, cellsAt, toCells, toCell, scalar_int, scalar_bool, scalar_str, scalar_sl, updAt, fromRo, upd, h1, h4, hi, -Int.natCast_add]
    rw [hlp (by rw [hS]; change _ = _; kernel_rfl)]
    simp only [R_sTips1, worldA]
    cases hu : usedB w.log ((i : Int) + 1) with
    | true =>
      simp (maxSteps := 4000000) -implicitDefEqProofs [b20_0, x_seq, x_cond, x_block, x_region, x_skip, x_exit, x_ret, head_id, runG, runOps, doOp, wantB, stepOp, AO.eff, pureOp, St.get, St.one, St.num, St.put, St.optNum, binA, binInt, List.take, List.drop, effOp2, effOp, memL_app, stoRow, cellsAt, toCells, toCell, scalar_int, scalar_bool, scalar_str, scalar_sl, updAt, fromRo, upd, h1, h4, hi, -Int.natCast_add]
      change _ = _
      kernel_rfl
    | false =>
      simp only [Bool.false_eq_true, if_false, List.length_append, List.length_singleton, ← cl_app1]
      simp (maxSteps := 4000000) -implicitDefEqProofs [b20_0, x_seq, x_cond, x_block, x_region, x_skip, x_exit, x_ret, head_id, runG, runOps, doOp, wantB, stepOp, AO.eff, pureOp, St.get, St.one, St.num, St.put, St.optNum, binA, binInt, List.take, List.drop, effOp2, effOp, memL_app, stoRow, cellsAt, toCells, toCell, scalar_int, scalar_bool, scalar_str, scalar_sl, updAt, fromRo, upd, srcCells, A1.slB, flat_int, cl_flat', St.parts, Eng.inB, reps, fillA, newRowSt, appSt, oldOf, rest, kill, mapMem, SV.map, Ob.map, h1, h4, h5, hc, hi, -Int.natCast_add]
      change _ = _
      kernel_rfl
  · have h1 : ¬ (w.log.length : Int) + 1 ≤ (w.log.length : Int) := by omega
    simp only [S_sTips, worldA, tips]
    generalize tipsTo w.log w.log.length = out at *
    simp (maxSteps := 4000000) -implicitDefEqProofs [b20_0, x_seq, x_cond, x_block, x_region, x_skip, x_exit, x_ret, head_id, runG, runOps, doOp, wantB, stepOp, AO.eff, pureOp, St.get, St.one, St.num, St.put, St.optNum, binA, binInt, List.take, List.drop, effOp2, effOp, memL_app, stoRow, cellsAt, toCells, toCell, scalar_int, scalar_bool, scalar_str, scalar_sl, updAt, fromRo, upd, R_sTips, h1]
    change _ = _
    kernel_rfl
theorem r_sTips (w : PWorld) (hs : SmW w) : runRO (X tab) tab 20 [.v true (worldA w)] = some (.v false [.sl 0 [] 0 (tips w.log).length], [.row 1 (cl .i64 (tips w.log))]) := by
  have hS : S_sTips w 0 = ⟨⟨[.bad, .v false [.pr 0 [] 0], .bad, .v false [.sl 1 [] 0 0], .v false [.int .i64 (1)], .bad, .bad, .bad, .bad, .bad, .bad, .bad, .bad, .bad, .bad, .bad, .bad, .bad, .bad, .bad, .bad, .bad, .bad, .bad, .bad, .bad, .bad, .bad, .bad, .bad, .bad, .bad, .bad, .bad, .bad, .bad, .bad, .bad, .bad, .bad], memL [some (.box (worldA w)), some (.row 1 [])], []⟩, 2⟩ := rfl
  unfold runRO
  simp (maxSteps := 4000000) -implicitDefEqProofs [tab20, a20, x_seq, x_cond, x_block, x_region, x_skip, x_exit, x_ret, head_id, runG, runOps, doOp, wantB, stepOp, AO.eff, pureOp, St.get, St.one, St.num, St.put, St.optNum, binA, binInt, List.take, List.drop, effOp2, effOp, memL_app, stoRow, cellsAt, toCells, toCell, scalar_int, scalar_bool, scalar_str, scalar_sl, updAt, fromRo, upd, srcCells, A1.slB, flat_int, cl_flat', St.parts, Eng.inB, reps, fillA, newRowSt, appSt, oldOf, rest, kill, mapMem, SV.map, Ob.map]
  rw [loop_sTips w hs (by
    rw [hS]
    change _ = _
    kernel_rfl)]
  simp (maxSteps := 4000000) -implicitDefEqProofs [R_sTips, x_seq, x_cond, x_block, x_region, x_skip, x_exit, x_ret, head_id, runG, runOps, doOp, wantB, stepOp, AO.eff, pureOp, St.get, St.one, St.num, St.put, St.optNum, binA, binInt, List.take, List.drop, resOf, resSV, SV.map, SV.ids, A1.ids, reach, allObs, ren, pos, Ob.map, St.canon, memL, List.range, List.range.loop]
/-! The program's. -/
theorem f_Tips (u : Nat) (n : Int) (x : PRec) (sl : List SV) (m : Mem) (up : List SV) (nx : Nat) (hm : m u = some (.box [.int .i64 n])) :
    runThru (X tab) tab 45 [.v true [.int .i64 x.cell, .int .i64 x.up], .v false [.pr u [] 0]] ⟨⟨sl, m, up⟩, nx⟩ = some (.v false [.bool (x.up == n)], ⟨⟨sl, m, up⟩, nx + 448⟩) := by
  unfold runThru
  simp (maxSteps := 4000000) -implicitDefEqProofs [tab45, a45, x_seq, x_cond, x_block, x_region, x_skip, x_exit, x_ret, head_id, runG, runOps, doOp, wantB, stepOp, AO.eff, pureOp, St.get, St.one, St.num, St.put, St.optNum, binA, binInt, List.take, List.drop, effOp2, effOp, roCells, fromRo, hm, resOf, resSV]
/-- The first of a row of structures that is p. -/
def fidR (p : PRec → Bool) : Nat → List PRec → Option Nat
  | _, [] => none
  | i, y :: r => if p y = true then some i else fidR p (i + 1) r
theorem fidR_none {p : PRec → Bool} : ∀ {l : List PRec} {i : Nat}, (fidR p i l).isSome = l.any p := by
  intro l
  induction l with
  | nil => intro i; rfl
  | cons y r ih =>
    intro i
    simp only [fidR, List.any_cons]
    cases hp : p y with
    | true => simp
    | false => simp [ih]
def SR (u : Nat) (f : FuncId) (l : List PRec) (m : Mem) (up : List SV) (nx i : Nat) : XS := ⟨⟨[.v false [.ro l.length (recsC l)], .v false [.fn f [u]], .bad, .bad, .bad, .bad, .bad, .v false [.int .i64 (l.length)], .v false [.int .i64 (i)], .bad, .bad, .bad, .bad, .bad, .bad, .bad, .bad, .bad, .bad], m, up⟩, nx⟩
def RR (m : Mem) (up : List SV) (nx : Nat) (c : Nat) : Option Nat → Option (AE × XS)
  | none => some (.exit 0, ⟨⟨[.bad, .bad, .bad, .bad, .bad, .bad, .bad, .bad, .bad, .bad, .bad, .bad, .bad, .bad, .bad, .bad, .bad, .bad, .bad], m, up⟩, nx + 64⟩)
  | some j => some (.ret, ⟨⟨[.bad, .bad, .bad, .bad, .v false [.int .i64 (j)], .bad, .bad, .bad, .bad, .bad, .bad, .bad, .bad, .bad, .bad, .bad, .bad, .bad, .bad], m, up⟩, nx + 704 + c⟩)
theorem loop_IndexR (l : List PRec) (u : Nat) (f : FuncId) (p : PRec → Bool) (c : Nat) (hn : l.length ≤ 1048576) (m : Mem) (up : List SV) (nx : Nat) (hf : ∀ (y : PRec) sl up nx, runThru (X tab) tab f [.v true [.int .i64 y.cell, .int .i64 y.up], .v false [.pr u [] 0]] ⟨⟨sl, m, up⟩, nx⟩ = some (.v false [.bool (p y)], ⟨⟨sl, m, up⟩, nx + c⟩)) {x : XS}
    (hx : head false d62_0 x = SR u f l m up nx 0) : X tab l62_0 x = RR m up nx c (fidR p 0 l) := by
  refine loopXF (σ := Nat) (SR u f l m up nx) (fun i => l.length - i) (fun i => i ≤ l.length ∧ fidR p i (l.drop i) = fidR p 0 l) _ (fun i ⟨hi, hs⟩ => ?_) 0 ⟨Nat.zero_le _, rfl⟩ x hx
  cases hl : l.drop i with
  | nil =>
    have hi2 : i = l.length := by
      have := congrArg List.length hl
      simp at this
      omega
    subst hi2
    rw [← hs, hl]
    refine .inr ⟨?_, by simp [fidR, RR]⟩
    simp (maxSteps := 4000000) -implicitDefEqProofs [b62_0, SR, x_seq, x_cond, x_block, x_region, x_skip, x_exit, x_ret, head_id, runG, runOps, doOp, wantB, stepOp, AO.eff, pureOp, St.get, St.one, St.num, St.put, St.optNum, binA, binInt, List.take, List.drop, fidR, RR]
    change _ = _
    kernel_rfl
  | cons y r =>
    have hi' := dropx_lt hl
    have h1 : (0 ≤ (i : Int) ∧ (i : Int) < (l.length : Int)) := by omega
    have h2 := recsC_at hl
    simp only [recC, List.cons_append, List.nil_append] at h2
    have h4 := wrap_next hi' (show l.length ≤ 281474976710656 by omega)
    have h5 := fun sl up nx => hf y sl up nx
    rw [hl] at hs
    simp only [fidR] at hs
    cases hp : p y with
    | true =>
      rw [if_pos hp] at hs
      rw [← hs]
      refine .inr ⟨?_, by simp [RR]⟩
      simp (maxSteps := 4000000) -implicitDefEqProofs [b62_0, SR, x_seq, x_cond, x_block, x_region, x_skip, x_exit, x_ret, head_id, runG, runOps, doOp, wantB, stepOp, AO.eff, pureOp, St.get, St.one, St.num, St.put, St.optNum, binA, binInt, List.take, List.drop, getAll, fromRo, h1, h2, h4, h5, hi', hp, RR]
      simp only [head, killSlots, Bool.false_eq_true, if_false, List.set, XS.mk.injEq, true_and]
      omega
    | false =>
      rw [if_neg (by simp [hp])] at hs
      refine .inl ⟨i + 1, ?_, by omega, hi', by rw [dropx_next hl]; exact hs⟩
      simp (maxSteps := 4000000) -implicitDefEqProofs [b62_0, SR, x_seq, x_cond, x_block, x_region, x_skip, x_exit, x_ret, head_id, runG, runOps, doOp, wantB, stepOp, AO.eff, pureOp, St.get, St.one, St.num, St.put, St.optNum, binA, binInt, List.take, List.drop, getAll, fromRo, h1, h2, h4, h5, hi', hp]
      change _ = _
      kernel_rfl
def dR (c : Nat) : Option Nat → Nat
  | none => 384
  | some _ => 960 + c
theorem t_ContainsR (l : List PRec) (u : Nat) (f : FuncId) (p : PRec → Bool) (c : Nat) (hn : l.length ≤ 1048576) (sl : List SV) (m : Mem) (up : List SV) (nx : Nat) (hf : ∀ (y : PRec) sl up nx, runThru (X tab) tab f [.v true [.int .i64 y.cell, .int .i64 y.up], .v false [.pr u [] 0]] ⟨⟨sl, m, up⟩, nx⟩ = some (.v false [.bool (p y)], ⟨⟨sl, m, up⟩, nx + c⟩)) :
    runThru (X tab) tab 44 [.v false [.ro l.length (recsC l)], .v false [.fn f [u]]] ⟨⟨sl, m, up⟩, nx⟩ = some (.v false [.bool (l.any p)], ⟨⟨sl, m, up⟩, nx + 384 + dR c (fidR p 0 l)⟩) := by
  have h1 : ∀ sl up nx, runThru (X tab) tab 62 [.v false [.ro l.length (recsC l)], .v false [.fn f [u]]] ⟨⟨sl, m, up⟩, nx⟩ = some (.v false [.int .i64 (match fidR p 0 l with | some j => (j : Int) | none => -1)], ⟨⟨sl, m, up⟩, nx + dR c (fidR p 0 l)⟩) := by
    intro sl up nx
    unfold runThru
    simp (maxSteps := 4000000) -implicitDefEqProofs [tab62, a62, x_seq, x_cond, x_block, x_region, x_skip, x_exit, x_ret, head_id, runG, runOps, doOp, wantB, stepOp, AO.eff, pureOp, St.get, St.one, St.num, St.put, St.optNum, binA, binInt, List.take, List.drop]
    rw [loop_IndexR l u f p c hn m (sl ++ up) (nx + 256) hf (by change _ = _; kernel_rfl)]
    cases fidR p 0 l with
    | none => simp (maxSteps := 4000000) -implicitDefEqProofs [RR, x_seq, x_cond, x_block, x_region, x_skip, x_exit, x_ret, head_id, runG, runOps, doOp, wantB, stepOp, AO.eff, pureOp, St.get, St.one, St.num, St.put, St.optNum, binA, binInt, List.take, List.drop, resOf, resSV, Nat.add_assoc, dR]
    | some j => simp (maxSteps := 4000000) -implicitDefEqProofs [RR, x_seq, x_cond, x_block, x_region, x_skip, x_exit, x_ret, head_id, runG, runOps, doOp, wantB, stepOp, AO.eff, pureOp, St.get, St.one, St.num, St.put, St.optNum, binA, binInt, List.take, List.drop, resOf, resSV, Nat.add_assoc, dR]
  have hs := fidR_none (p := p) (l := l) (i := 0)
  generalize fidR p 0 l = q at *
  rw [← hs]
  unfold runThru
  cases q with
  | none =>
    simp (maxSteps := 4000000) -implicitDefEqProofs [tab44, a44, x_seq, x_cond, x_block, x_region, x_skip, x_exit, x_ret, head_id, runG, runOps, doOp, wantB, stepOp, AO.eff, pureOp, St.get, St.one, St.num, St.put, St.optNum, binA, binInt, List.take, List.drop, getAll, h1, resOf, resSV, Nat.add_assoc, dR]
  | some j =>
    have hj : (0 : Int) ≤ (j : Int) := by omega
    simp (maxSteps := 4000000) -implicitDefEqProofs [tab44, a44, x_seq, x_cond, x_block, x_region, x_skip, x_exit, x_ret, head_id, runG, runOps, doOp, wantB, stepOp, AO.eff, pureOp, St.get, St.one, St.num, St.put, St.optNum, binA, binInt, List.take, List.drop, getAll, h1, hj, resOf, resSV, Nat.add_assoc, dR]
def S_Tips (w : PWorld) (i : Nat) : XS := ⟨⟨[.bad, .v false [.pr 0 [] 0], .bad, .v false [.sl 1 [] 0 (tipsTo w.log i).length], .v false [.pr 2 [] 0], .bad, .bad, .bad, .bad, .bad, .bad, .bad, .bad, .bad, .bad, .bad, .bad, .bad, .bad, .bad, .bad, .bad, .bad, .bad], memL [some (.box (worldA w)), some (.row 1 (cl .i64 (tipsTo w.log i))), some (.box [.int .i64 ((i : Int) + 1)])], []⟩, 3⟩
def R_Tips (l : List Int) : Option (AE × XS) := some (.exit 0, ⟨⟨[.bad, .bad, .bad, .v false [.sl 0 [] 0 l.length], .bad, .bad, .bad, .bad, .bad, .bad, .bad, .bad, .bad, .bad, .bad, .bad, .bad, .bad, .bad, .bad, .bad, .bad, .bad, .bad], memL [some (.row 1 (cl .i64 l))], []⟩, 1⟩)
theorem loop_Tips (w : PWorld) (hs : SmW w) {x : XS} (hx : head true d21_0 x = S_Tips w 0) : X tab l21_0 x = R_Tips (tips w.log) := by
  have hlog := hs.log
  refine loopN w.log.length (S_Tips w) _ (by simp [R_Tips]) (fun i hi => ?_) ?_ (Nat.zero_le _) hx
  · have h1 : (i : Int) + 1 ≤ (w.log.length : Int) := by omega
    have h4 : IntKind.i64.wrap ((i : Int) + 1 + 1) = ((i + 1 : Nat) : Int) + 1 := by rw [wrap_id (by omega) (by omega)]; omega
    have hle := tips_le w.log i
    have hc : (cl .i64 (tipsTo w.log i)).length = (tipsTo w.log i).length := cl_length
    have h5 : ((tipsTo w.log i).length + 1) * 8 ≤ 140737488355328 := by omega
    simp only [S_Tips, tips_next, worldA]
    generalize tipsTo w.log i = out at *
    have hq := fun sl up nx => t_ContainsR w.log 2 45 (fun r => r.up == (i : Int) + 1) 448 (by omega) sl (memL [some (.box (worldA w)), some (.row 1 (cl .i64 out)), some (.box [.int .i64 ((i : Int) + 1)])]) up nx (fun y sl up nx => f_Tips 2 ((i : Int) + 1) y sl _ up nx rfl)
    simp only [worldA] at hq
    have hu : (w.log.any fun r => r.up == (i : Int) + 1) = usedB w.log ((i : Int) + 1) := rfl
    rw [hu] at hq
    have hs := fidR_none (p := fun r => r.up == (i : Int) + 1) (l := w.log) (i := 0)
    rw [hu] at hs
    clear hu
    generalize fidR (fun r => r.up == (i : Int) + 1) 0 w.log = fi at *
    cases fi with
    | some j =>
      rw [← hs]
      rw [← hs] at hq
      simp only [dR, Option.isSome] at hq
      simp (maxSteps := 4000000) -implicitDefEqProofs [b21_0, x_seq, x_cond, x_block, x_region, x_skip, x_exit, x_ret, head_id, runG, runOps, doOp, wantB, stepOp, AO.eff, pureOp, St.get, St.one, St.num, St.put, St.optNum, binA, binInt, List.take, List.drop, effOp2, effOp, memL_app, stoRow, cellsAt, toCells, toCell, scalar_int, scalar_bool, scalar_str, scalar_sl, updAt, fromRo, upd, spl, getAll, St.boxes, boxOf, h1, h4, hq, hi, -Int.natCast_add]
      change _ = _
      kernel_rfl
    | none =>
      rw [← hs]
      rw [← hs] at hq
      simp only [dR, Option.isSome] at hq
      simp only [Option.isSome, Bool.false_eq_true, if_false, List.length_append, List.length_singleton, ← cl_app1]
      simp (maxSteps := 4000000) -implicitDefEqProofs [b21_0, x_seq, x_cond, x_block, x_region, x_skip, x_exit, x_ret, head_id, runG, runOps, doOp, wantB, stepOp, AO.eff, pureOp, St.get, St.one, St.num, St.put, St.optNum, binA, binInt, List.take, List.drop, effOp2, effOp, memL_app, stoRow, cellsAt, toCells, toCell, scalar_int, scalar_bool, scalar_str, scalar_sl, updAt, fromRo, upd, srcCells, A1.slB, flat_int, cl_flat', St.parts, Eng.inB, reps, fillA, newRowSt, appSt, oldOf, rest, kill, mapMem, SV.map, Ob.map, spl, getAll, St.boxes, boxOf, h1, h4, h5, hc, hq, hi, -Int.natCast_add]
      change _ = _
      kernel_rfl
  · have h1 : ¬ (w.log.length : Int) + 1 ≤ (w.log.length : Int) := by omega
    simp only [S_Tips, worldA, tips]
    generalize tipsTo w.log w.log.length = out at *
    simp (maxSteps := 4000000) -implicitDefEqProofs [b21_0, x_seq, x_cond, x_block, x_region, x_skip, x_exit, x_ret, head_id, runG, runOps, doOp, wantB, stepOp, AO.eff, pureOp, St.get, St.one, St.num, St.put, St.optNum, binA, binInt, List.take, List.drop, effOp2, effOp, memL_app, stoRow, cellsAt, toCells, toCell, scalar_int, scalar_bool, scalar_str, scalar_sl, updAt, fromRo, upd, R_Tips, h1]
    change _ = _
    kernel_rfl
theorem r_Tips (w : PWorld) (hs : SmW w) : runRO (X tab) tab 21 [.v true (worldA w)] = some (.v false [.sl 0 [] 0 (tips w.log).length], [.row 1 (cl .i64 (tips w.log))]) := by
  have hS : S_Tips w 0 = ⟨⟨[.bad, .v false [.pr 0 [] 0], .bad, .v false [.sl 1 [] 0 0], .v false [.pr 2 [] 0], .bad, .bad, .bad, .bad, .bad, .bad, .bad, .bad, .bad, .bad, .bad, .bad, .bad, .bad, .bad, .bad, .bad, .bad, .bad], memL [some (.box (worldA w)), some (.row 1 []), some (.box [.int .i64 1])], []⟩, 3⟩ := rfl
  unfold runRO
  simp (maxSteps := 4000000) -implicitDefEqProofs [tab21, a21, x_seq, x_cond, x_block, x_region, x_skip, x_exit, x_ret, head_id, runG, runOps, doOp, wantB, stepOp, AO.eff, pureOp, St.get, St.one, St.num, St.put, St.optNum, binA, binInt, List.take, List.drop, effOp2, effOp, memL_app, stoRow, cellsAt, toCells, toCell, scalar_int, scalar_bool, scalar_str, scalar_sl, updAt, fromRo, upd, srcCells, A1.slB, flat_int, cl_flat', St.parts, Eng.inB, reps, fillA, newRowSt, appSt, oldOf, rest, kill, mapMem, SV.map, Ob.map, spl]
  rw [loop_Tips w hs (by
    rw [hS]
    change _ = _
    kernel_rfl)]
  simp (maxSteps := 4000000) -implicitDefEqProofs [R_Tips, x_seq, x_cond, x_block, x_region, x_skip, x_exit, x_ret, head_id, runG, runOps, doOp, wantB, stepOp, AO.eff, pureOp, St.get, St.one, St.num, St.put, St.optNum, binA, binInt, List.take, List.drop, resOf, resSV, SV.map, SV.ids, A1.ids, reach, allObs, ren, pos, Ob.map, St.canon, memL, List.range, List.range.loop]
end Go.Proofs.Ytbdokibepndibaa.Eng.B
