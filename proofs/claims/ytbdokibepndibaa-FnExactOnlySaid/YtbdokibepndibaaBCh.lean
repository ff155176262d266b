/- Chains of writes. -/
import Derived.Test.YtbdokibepndibaaBW4
import Derived.Test.YtbdokibepndibaaBHas
namespace Go.Proofs.Ytbdokibepndibaa.Eng.B
set_option linter.unusedSimpArgs false
set_option linter.unusedVariables false
set_option maxHeartbeats 16000000
set_option maxRecDepth 100000
open Go.RowKit Go.Proofs

/-- The write ahead of one. -/
def upOf (log : List PRec) (n : Int) : Int := match log[(n - 1).toNat]? with | some r => r.up | none => 0
/-- A write, and those ahead of it, from the last one on. -/
def dch (log : List PRec) : Nat → Int → List Int
  | 0, _ => []
  | k + 1, n => if 1 ≤ n ∧ n ≤ (log.length : Int) then n :: (if upOf log n < n then dch log k (upOf log n) else []) else []
theorem dch_fuel (log : List PRec) : ∀ (k : Nat) (n : Int), n.toNat ≤ k → dch log k n = dch log n.toNat n := by
  intro k
  induction k using Nat.strongRecOn with
  | _ k ih =>
    intro n hn
    cases k with
    | zero => have : n.toNat = 0 := by omega
              rw [this]
    | succ k =>
      by_cases h : 1 ≤ n ∧ n ≤ (log.length : Int)
      · obtain ⟨j, hj⟩ : ∃ j, n.toNat = j + 1 := ⟨n.toNat - 1, by omega⟩
        rw [hj]
        simp only [dch, if_pos h]
        by_cases h2 : upOf log n < n
        · rw [if_pos h2, if_pos h2, ih k (by omega) _ (by omega)]
          rcases Nat.lt_or_ge j k with h3 | h3
          · rw [ih j (by omega) _ (by omega)]
          · obtain rfl : j = k := by omega
            rw [ih j (by omega) _ (by omega)]
        · rw [if_neg h2, if_neg h2]
      · cases hm : n.toNat with
        | zero => simp only [dch, if_neg h]
        | succ m => simp only [dch, if_neg h]
def ch (log : List PRec) (n : Int) : List Int := dch log n.toNat n
theorem ch_in {log : List PRec} {n : Int} (h : 1 ≤ n ∧ n ≤ (log.length : Int)) : ch log n = n :: (if upOf log n < n then ch log (upOf log n) else []) := by
  unfold ch
  obtain ⟨j, hj⟩ : ∃ j, n.toNat = j + 1 := ⟨n.toNat - 1, by omega⟩
  rw [hj]
  simp only [dch, if_pos h]
  by_cases h2 : upOf log n < n
  · rw [if_pos h2, if_pos h2, dch_fuel log j _ (by omega)]
  · rw [if_neg h2, if_neg h2]
theorem ch_out {log : List PRec} {n : Int} (h : ¬ (1 ≤ n ∧ n ≤ (log.length : Int))) : ch log n = [] := by
  unfold ch
  cases hm : n.toNat with
  | zero => rfl
  | succ m => simp only [dch, if_neg h]
theorem ch_len (log : List PRec) : ∀ (k : Nat) (n : Int), n.toNat ≤ k → (ch log n).length ≤ n.toNat := by
  intro k
  induction k with
  | zero => intro n hn; rw [ch_out (by omega)]; simp
  | succ k ih =>
    intro n hn
    by_cases h : 1 ≤ n ∧ n ≤ (log.length : Int)
    · rw [ch_in h]
      by_cases h2 : upOf log n < n
      · rw [if_pos h2, List.length_cons]
        have := ih (upOf log n) (by omega)
        omega
      · rw [if_neg h2]
        simp
        omega
    · rw [ch_out h]
      simp
theorem ch_le (log : List PRec) (n : Int) : (ch log n).length ≤ log.length := by
  by_cases h : 1 ≤ n ∧ n ≤ (log.length : Int)
  · have := ch_len log n.toNat n (Nat.le_refl _)
    omega
  · rw [ch_out h]
    simp
theorem cl_rev {k : IntKind} {l : List Int} : (cl k l).reverse = cl k l.reverse := by simp [cl, List.map_reverse]
def chain (log : List PRec) (n : Int) : List Int := (ch log n).reverse
theorem chain_le (log : List PRec) (n : Int) : (chain log n).length ≤ log.length := by
  unfold chain
  rw [List.length_reverse]
  exact ch_le log n
theorem rec_at {log : List PRec} {j : Nat} (h : j < log.length) : ∃ x r, log.drop j = x :: r ∧ upOf log ((j : Int) + 1) = x.up ∧ x ∈ log := by
  refine ⟨_, _, List.drop_eq_getElem_cons h, ?_, by simp⟩
  unfold upOf
  have : ((j : Int) + 1 - 1).toNat = j := by omega
  rw [this]
  simp [h]
/-! The reference's. -/
def S_sChain (w : PWorld) (s : Int × List Int) : XS := ⟨⟨[.bad, .v false [.int .i64 (s.1)], .v false [.pr 0 [] 0], .bad, .bad, .v false [.sl 1 [] 0 s.2.length], .bad, .bad, .bad, .bad, .bad, .bad, .bad, .bad, .bad, .bad, .bad, .bad, .bad, .bad, .bad, .bad, .bad, .bad, .bad, .bad, .bad, .bad, .bad, .bad, .bad, .bad, .bad, .bad, .bad, .bad, .bad], memL [some (.box (worldA w)), some (.row 1 (cl .i64 s.2))], []⟩, 2⟩
def R_sChain (l : List Int) : Option (AE × XS) := some (.exit 0, ⟨⟨[.bad, .bad, .bad, .bad, .bad, .v false [.sl 0 [] 0 l.length], .bad, .bad, .bad, .bad, .bad, .bad, .bad, .bad, .bad, .bad, .bad, .bad, .bad, .bad, .bad, .bad, .bad, .bad, .bad, .bad, .bad, .bad, .bad, .bad, .bad, .bad, .bad, .bad, .bad, .bad, .bad], memL [some (.row 1 (cl .i64 l))], []⟩, 1⟩)
theorem loop_sChain (w : PWorld) (hw : WfW w) (hs : SmW w) (n0 : Int) (hn0 : I64 n0) {x : XS} (hx : head true d32_0 x = S_sChain w (n0, [])) : X tab l32_0 x = R_sChain (chain w.log n0) := by
  refine loopX (σ := Int × List Int) (S_sChain w) (fun s => s.1.toNat) (fun s => I64 s.1 ∧ (s.1 ≤ (w.log.length : Int) → 1 ≤ s.1 → s.2.length + s.1.toNat ≤ 1048576) ∧ s.2.length ≤ 1048576 ∧ (ch w.log s.1).reverse ++ s.2 = chain w.log n0) _ (fun ⟨n, out⟩ ⟨hn, hb, hb2, hg⟩ => ?_) (n0, [])
    ⟨hn0, fun h1 h2 => by have := hs.log; simp only [List.length_nil]; omega, by simp, by simp [chain]⟩ x hx
  simp only at hn hb hb2 hg
  have hlog := hs.log
  by_cases hr : 1 ≤ n ∧ n ≤ (w.log.length : Int)
  · obtain ⟨j, rfl⟩ : ∃ j : Nat, n = (j : Int) + 1 := ⟨(n - 1).toNat, by omega⟩
    obtain ⟨y, r, hd, hu, hy⟩ := rec_at (log := w.log) (j := j) (by omega)
    have hyw := (hw.log y hy).2
    have hbb := hb hr.2 hr.1
    have q0 : (0 : Int) < (j : Int) + 1 := by omega
    have q1 : (0 ≤ (j : Int) ∧ (j : Int) < (w.log.length : Int)) := by omega
    have q2 := recsC_at hd
    simp only [recC, List.cons_append, List.nil_append] at q2
    have q3 : IntKind.i64.wrap ((j : Int) + 1 - 1) = (j : Int) := by rw [wrap_id (by omega) (by omega)]; omega
    have q4 := hr.2
    have q3' : IntKind.i64.wrap (j : Int) = (j : Int) := wrap_id (by omega) (by omega)
    have q5 : (1 + out.length) * 8 ≤ 140737488355328 := by omega
    have q6 : (cl .i64 out).length = out.length := cl_length
    have q7 : (cl .i64 out).take out.length = cl .i64 out := cl_self
    have q8 : cl .i64 (((j : Int) + 1) :: out) = .int .i64 ((j : Int) + 1) :: cl .i64 out := cl_cons
    have q9 : out.length + 1 = 1 + out.length := by omega
    rw [ch_in hr, hu] at hg
    have hlt : j < w.log.length := by omega
    by_cases hup : y.up < (j : Int) + 1
    · have hup' : ¬ (j : Int) + 1 ≤ y.up := by omega
      rw [if_pos hup] at hg
      refine .inl ⟨(y.up, ((j : Int) + 1) :: out), ?_, by simp only; omega, hyw, fun h1 h2 => by simp only [List.length_cons]; omega, by simp only [List.length_cons]; omega, by rw [← hg]; simp⟩
      simp only [S_sChain, worldA, List.length_cons, q8, q9]
      by_cases h0 : out = []
      · subst h0
        simp (maxSteps := 4000000) -implicitDefEqProofs [b32_0, x_seq, x_cond, x_block, x_region, x_skip, x_exit, x_ret, head_id, runG, runOps, doOp, wantB, stepOp, AO.eff, pureOp, St.get, St.one, St.num, St.put, St.optNum, binA, binInt, List.take, List.drop, callRO, addMem_nil, roArgs, roL, roA, srcCells, A1.ownB, addMem, shift, ren, SV.map, Ob.map, Ob.noRo, SV.noRo, A1.noRo, List.range, List.range.loop, effOp2, effOp, memL_app, stoRow, cellsAt, toCells, toCell, scalar_int, scalar_bool, scalar_str, scalar_sl, updAt, fromRo, upd, srcCells, A1.slB, flat_int, cl_flat', St.parts, Eng.inB, reps, fillA, newRowSt, appSt, oldOf, rest, kill, mapMem, SV.map, Ob.map, fromRo, q0, q1, q2, q3, q3', q4, hup, hup', hlt, cl_nil, -Int.natCast_add]
        change _ = _
        kernel_rfl
      · have h1 : ¬ out.length = 0 := fun e => h0 (List.eq_nil_of_length_eq_zero e)
        simp (maxSteps := 4000000) -implicitDefEqProofs [b32_0, x_seq, x_cond, x_block, x_region, x_skip, x_exit, x_ret, head_id, runG, runOps, doOp, wantB, stepOp, AO.eff, pureOp, St.get, St.one, St.num, St.put, St.optNum, binA, binInt, List.take, List.drop, callRO, addMem_nil, roArgs, roL, roA, srcCells, A1.ownB, addMem, shift, ren, SV.map, Ob.map, Ob.noRo, SV.noRo, A1.noRo, List.range, List.range.loop, effOp2, effOp, memL_app, stoRow, cellsAt, toCells, toCell, scalar_int, scalar_bool, scalar_str, scalar_sl, updAt, fromRo, upd, srcCells, A1.slB, flat_int, cl_flat', St.parts, Eng.inB, reps, fillA, newRowSt, appSt, oldOf, rest, kill, mapMem, SV.map, Ob.map, fromRo, q0, q1, q2, q3, q3', q4, q5, q6, q7, hup, hup', hlt, h0, h1, -Int.natCast_add]
        change _ = _
        kernel_rfl
    · have hup' : (j : Int) + 1 ≤ y.up := by omega
      rw [if_neg hup] at hg
      refine .inr ⟨?_, by simp [R_sChain]⟩
      rw [← hg]
      simp only [S_sChain, worldA, R_sChain, List.reverse_cons, List.reverse_nil, List.nil_append, List.cons_append, List.length_cons, q8, q9]
      by_cases h0 : out = []
      · subst h0
        simp (maxSteps := 4000000) -implicitDefEqProofs [b32_0, x_seq, x_cond, x_block, x_region, x_skip, x_exit, x_ret, head_id, runG, runOps, doOp, wantB, stepOp, AO.eff, pureOp, St.get, St.one, St.num, St.put, St.optNum, binA, binInt, List.take, List.drop, callRO, addMem_nil, roArgs, roL, roA, srcCells, A1.ownB, addMem, shift, ren, SV.map, Ob.map, Ob.noRo, SV.noRo, A1.noRo, List.range, List.range.loop, effOp2, effOp, memL_app, stoRow, cellsAt, toCells, toCell, scalar_int, scalar_bool, scalar_str, scalar_sl, updAt, fromRo, upd, srcCells, A1.slB, flat_int, cl_flat', St.parts, Eng.inB, reps, fillA, newRowSt, appSt, oldOf, rest, kill, mapMem, SV.map, Ob.map, fromRo, q0, q1, q2, q3, q3', q4, hup, hup', hlt, cl_nil, -Int.natCast_add]
        change _ = _
        kernel_rfl
      · have h1 : ¬ out.length = 0 := fun e => h0 (List.eq_nil_of_length_eq_zero e)
        simp (maxSteps := 4000000) -implicitDefEqProofs [b32_0, x_seq, x_cond, x_block, x_region, x_skip, x_exit, x_ret, head_id, runG, runOps, doOp, wantB, stepOp, AO.eff, pureOp, St.get, St.one, St.num, St.put, St.optNum, binA, binInt, List.take, List.drop, callRO, addMem_nil, roArgs, roL, roA, srcCells, A1.ownB, addMem, shift, ren, SV.map, Ob.map, Ob.noRo, SV.noRo, A1.noRo, List.range, List.range.loop, effOp2, effOp, memL_app, stoRow, cellsAt, toCells, toCell, scalar_int, scalar_bool, scalar_str, scalar_sl, updAt, fromRo, upd, srcCells, A1.slB, flat_int, cl_flat', St.parts, Eng.inB, reps, fillA, newRowSt, appSt, oldOf, rest, kill, mapMem, SV.map, Ob.map, fromRo, q0, q1, q2, q3, q3', q4, q5, q6, q7, hup, hup', hlt, h0, h1, -Int.natCast_add]
        change _ = _
        kernel_rfl
  · rw [ch_out hr] at hg
    simp only [List.reverse_nil, List.nil_append] at hg
    refine .inr ⟨?_, by simp [R_sChain]⟩
    rw [← hg]
    by_cases hp : 0 < n
    · have hq : ¬ n ≤ (w.log.length : Int) := by omega
      simp only [S_sChain, worldA, R_sChain]
      simp (maxSteps := 4000000) -implicitDefEqProofs [b32_0, x_seq, x_cond, x_block, x_region, x_skip, x_exit, x_ret, head_id, runG, runOps, doOp, wantB, stepOp, AO.eff, pureOp, St.get, St.one, St.num, St.put, St.optNum, binA, binInt, List.take, List.drop, effOp2, effOp, memL_app, stoRow, cellsAt, toCells, toCell, scalar_int, scalar_bool, scalar_str, scalar_sl, updAt, fromRo, upd, hp, hq]
      change _ = _
      kernel_rfl
    · simp only [S_sChain, worldA, R_sChain]
      simp (maxSteps := 4000000) -implicitDefEqProofs [b32_0, x_seq, x_cond, x_block, x_region, x_skip, x_exit, x_ret, head_id, runG, runOps, doOp, wantB, stepOp, AO.eff, pureOp, St.get, St.one, St.num, St.put, St.optNum, binA, binInt, List.take, List.drop, effOp2, effOp, memL_app, stoRow, cellsAt, toCells, toCell, scalar_int, scalar_bool, scalar_str, scalar_sl, updAt, fromRo, upd, hp]
      change _ = _
      kernel_rfl
theorem r_sChain (w : PWorld) (hw : WfW w) (hs : SmW w) (n : Int) (hn : I64 n) : runRO (X tab) tab 32 [.v true (worldA w), .v false [.int .i64 n]] = some (.v false [.sl 0 [] 0 (chain w.log n).length], [.row 1 (cl .i64 (chain w.log n))]) := by
  unfold runRO
  simp (maxSteps := 4000000) -implicitDefEqProofs [tab32, a32, x_seq, x_cond, x_block, x_region, x_skip, x_exit, x_ret, head_id, runG, runOps, doOp, wantB, stepOp, AO.eff, pureOp, St.get, St.one, St.num, St.put, St.optNum, binA, binInt, List.take, List.drop, effOp2, effOp, memL_app, stoRow, cellsAt, toCells, toCell, scalar_int, scalar_bool, scalar_str, scalar_sl, updAt, fromRo, upd, srcCells, A1.slB, flat_int, cl_flat', St.parts, Eng.inB, reps, fillA, newRowSt, appSt, oldOf, rest, kill, mapMem, SV.map, Ob.map]
  rw [loop_sChain w hw hs n hn (by change _ = _; kernel_rfl)]
  simp (maxSteps := 4000000) -implicitDefEqProofs [R_sChain, x_seq, x_cond, x_block, x_region, x_skip, x_exit, x_ret, head_id, runG, runOps, doOp, wantB, stepOp, AO.eff, pureOp, St.get, St.one, St.num, St.put, St.optNum, binA, binInt, List.take, List.drop, resOf, resSV, SV.map, SV.ids, A1.ids, reach, allObs, ren, pos, Ob.map, St.canon, memL, List.range, List.range.loop]
/-! The program's. -/
def S_Chain (w : PWorld) (s : Int × List Int) : XS := ⟨⟨[.bad, .v false [.int .i64 (s.1)], .v false [.pr 0 [] 0], .bad, .bad, .v false [.sl 1 [] 0 s.2.length], .bad, .bad, .bad, .bad, .bad, .bad, .bad, .bad, .bad, .bad, .bad, .bad, .bad, .bad, .bad, .bad, .bad, .bad, .bad, .bad, .bad, .bad, .bad, .bad, .bad, .bad, .bad, .bad, .bad], memL [some (.box (worldA w)), some (.row 1 (cl .i64 s.2))], []⟩, 2⟩
def R_Chain (l : List Int) : Option (AE × XS) := some (.exit 0, ⟨⟨[.bad, .bad, .bad, .bad, .bad, .v false [.sl 0 [] 0 l.length], .bad, .bad, .bad, .bad, .bad, .bad, .bad, .bad, .bad, .bad, .bad, .bad, .bad, .bad, .bad, .bad, .bad, .bad, .bad, .bad, .bad, .bad, .bad, .bad, .bad, .bad, .bad, .bad, .bad], memL [some (.row 1 (cl .i64 l))], []⟩, 1⟩)
theorem loop_Chain (w : PWorld) (hw : WfW w) (hs : SmW w) (n0 : Int) (h0 : 1 ≤ n0 ∧ n0 ≤ (w.log.length : Int)) {x : XS} (hx : head true d37_0 x = S_Chain w (n0, [])) : X tab l37_0 x = R_Chain (ch w.log n0) := by
  refine loopX (σ := Int × List Int) (S_Chain w) (fun s => s.1.toNat) (fun s => (1 ≤ s.1 ∧ s.1 ≤ (w.log.length : Int)) ∧ s.2.length + s.1.toNat ≤ 1048576 ∧ s.2 ++ ch w.log s.1 = ch w.log n0) _ (fun ⟨n, out⟩ ⟨hr, hbb, hg⟩ => ?_) (n0, [])
    ⟨h0, by have := hs.log; simp only [List.length_nil]; omega, by simp⟩ x hx
  simp only at hr hbb hg
  have hlog := hs.log
  obtain ⟨j, rfl⟩ : ∃ j : Nat, n = (j : Int) + 1 := ⟨(n - 1).toNat, by omega⟩
  obtain ⟨y, r, hd, hu, hy⟩ := rec_at (log := w.log) (j := j) (by omega)
  have hyw := (hw.log y hy).2
  have q1 : (0 ≤ (j : Int) ∧ (j : Int) < (w.log.length : Int)) := by omega
  have q2 := recsC_at hd
  simp only [recC, List.cons_append, List.nil_append] at q2
  have q3 : IntKind.i64.wrap ((j : Int) + 1 - 1) = (j : Int) := by rw [wrap_id (by omega) (by omega)]; omega
  have q3' : IntKind.i64.wrap (j : Int) = (j : Int) := wrap_id (by omega) (by omega)
  have q5 : (out.length + 1) * 8 ≤ 140737488355328 := by omega
  have q6 : (cl .i64 out).length = out.length := cl_length
  have hlt : j < w.log.length := by omega
  have q8 := r_from y.up 1 (j : Int)
  rw [ch_in hr, hu] at hg
  by_cases hup : 1 ≤ y.up ∧ y.up ≤ (j : Int)
  · rw [rng_iff.2 hup] at q8
    rw [if_pos (by omega)] at hg
    refine .inl ⟨(y.up, out ++ [(j : Int) + 1]), ?_, by simp only; omega, ⟨hup.1, by omega⟩, by simp only [List.length_append, List.length_singleton]; omega, by rw [← hg]; simp⟩
    simp only [S_Chain, worldA, List.length_append, List.length_singleton, ← cl_app1]
    simp (maxSteps := 4000000) -implicitDefEqProofs [b37_0, x_seq, x_cond, x_block, x_region, x_skip, x_exit, x_ret, head_id, runG, runOps, doOp, wantB, stepOp, AO.eff, pureOp, St.get, St.one, St.num, St.put, St.optNum, binA, binInt, List.take, List.drop, callRO, addMem_nil, roArgs, roL, roA, srcCells, A1.ownB, addMem, shift, ren, SV.map, Ob.map, Ob.noRo, SV.noRo, A1.noRo, List.range, List.range.loop, effOp2, effOp, memL_app, stoRow, cellsAt, toCells, toCell, scalar_int, scalar_bool, scalar_str, scalar_sl, updAt, fromRo, upd, srcCells, A1.slB, flat_int, cl_flat', St.parts, Eng.inB, reps, fillA, newRowSt, appSt, oldOf, rest, kill, mapMem, SV.map, Ob.map, fromRo, q1, q2, q3, q3', q5, q6, q8, hlt, -Int.natCast_add]
    change _ = _
    kernel_rfl
  · have hq : rng y.up 1 (j : Int) = false := by
      cases h : rng y.up 1 (j : Int) with
      | false => rfl
      | true => exact absurd (rng_iff.1 h) hup
    rw [hq] at q8
    have he : (if y.up < (j : Int) + 1 then ch w.log y.up else []) = [] := by
      split
      · exact ch_out (by omega)
      · rfl
    rw [he] at hg
    refine .inr ⟨?_, by simp [R_Chain]⟩
    rw [← hg]
    simp only [S_Chain, worldA, R_Chain, List.length_append, List.length_singleton, ← cl_app1]
    simp (maxSteps := 4000000) -implicitDefEqProofs [b37_0, x_seq, x_cond, x_block, x_region, x_skip, x_exit, x_ret, head_id, runG, runOps, doOp, wantB, stepOp, AO.eff, pureOp, St.get, St.one, St.num, St.put, St.optNum, binA, binInt, List.take, List.drop, callRO, addMem_nil, roArgs, roL, roA, srcCells, A1.ownB, addMem, shift, ren, SV.map, Ob.map, Ob.noRo, SV.noRo, A1.noRo, List.range, List.range.loop, effOp2, effOp, memL_app, stoRow, cellsAt, toCells, toCell, scalar_int, scalar_bool, scalar_str, scalar_sl, updAt, fromRo, upd, srcCells, A1.slB, flat_int, cl_flat', St.parts, Eng.inB, reps, fillA, newRowSt, appSt, oldOf, rest, kill, mapMem, SV.map, Ob.map, fromRo, q1, q2, q3, q3', q5, q6, q8, hlt, -Int.natCast_add]
    change _ = _
    kernel_rfl
theorem r_Chain (w : PWorld) (hw : WfW w) (hs : SmW w) (n : Int) (hn : I64 n) : runRO (X tab) tab 37 [.v true (worldA w), .v false [.int .i64 n]] = some (.v false [.sl 0 [] 0 (chain w.log n).length], [.row 1 (cl .i64 (chain w.log n))]) := by
  have q1 := r_from n 1 (w.log.length : Int)
  by_cases hr : 1 ≤ n ∧ n ≤ (w.log.length : Int)
  · rw [rng_iff.2 hr] at q1
    have hle := ch_le w.log n
    have hlog := hs.log
    have q2 : (cl .i64 (ch w.log n)).length = (ch w.log n).length := cl_length
    have q3 : (ch w.log n).length ≤ 9223372036854775807 := by omega
    have hlp := fun {x} => loop_Chain w hw hs n hr (x := x)
    unfold chain
    rw [List.length_reverse]
    generalize ch w.log n = L at *
    have q4 : (cl .i64 L).reverse = cl .i64 L.reverse := cl_rev
    unfold runRO
    simp (maxSteps := 4000000) -implicitDefEqProofs [tab37, a37, x_seq, x_cond, x_block, x_region, x_skip, x_exit, x_ret, head_id, runG, runOps, doOp, wantB, stepOp, AO.eff, pureOp, St.get, St.one, St.num, St.put, St.optNum, binA, binInt, List.take, List.drop, effOp2, effOp, memL_app, stoRow, cellsAt, toCells, toCell, scalar_int, scalar_bool, scalar_str, scalar_sl, updAt, fromRo, upd, srcCells, A1.slB, flat_int, cl_flat', St.parts, Eng.inB, reps, fillA, newRowSt, appSt, oldOf, rest, kill, mapMem, SV.map, Ob.map, callRO, addMem_nil, roArgs, roL, roA, srcCells, A1.ownB, addMem, shift, ren, SV.map, Ob.map, Ob.noRo, SV.noRo, A1.noRo, List.range, List.range.loop, worldA, q1]
    rw [hlp (by change _ = _; kernel_rfl)]
    simp (maxSteps := 4000000) -implicitDefEqProofs [R_Chain, x_seq, x_cond, x_block, x_region, x_skip, x_exit, x_ret, head_id, runG, runOps, doOp, wantB, stepOp, AO.eff, pureOp, St.get, St.one, St.num, St.put, St.optNum, binA, binInt, List.take, List.drop, callRO, addMem_nil, roArgs, roL, roA, srcCells, A1.ownB, addMem, shift, ren, SV.map, Ob.map, Ob.noRo, SV.noRo, A1.noRo, List.range, List.range.loop, effOp2, effOp, memL_app, stoRow, cellsAt, toCells, toCell, scalar_int, scalar_bool, scalar_str, scalar_sl, updAt, fromRo, upd, resOf, resSV, SV.map, SV.ids, A1.ids, reach, allObs, ren, pos, Ob.map, St.canon, memL, List.range, List.range.loop, rvsOp, tab57, a57, rvsSt, q2, q3, q4, cl_flat']
  · have hq : rng n 1 (w.log.length : Int) = false := by
      cases h : rng n 1 (w.log.length : Int) with
      | false => rfl
      | true => exact absurd (rng_iff.1 h) hr
    rw [hq] at q1
    unfold chain
    rw [ch_out hr]
    unfold runRO
    simp (maxSteps := 4000000) -implicitDefEqProofs [tab37, a37, x_seq, x_cond, x_block, x_region, x_skip, x_exit, x_ret, head_id, runG, runOps, doOp, wantB, stepOp, AO.eff, pureOp, St.get, St.one, St.num, St.put, St.optNum, binA, binInt, List.take, List.drop, effOp2, effOp, memL_app, stoRow, cellsAt, toCells, toCell, scalar_int, scalar_bool, scalar_str, scalar_sl, updAt, fromRo, upd, srcCells, A1.slB, flat_int, cl_flat', St.parts, Eng.inB, reps, fillA, newRowSt, appSt, oldOf, rest, kill, mapMem, SV.map, Ob.map, callRO, addMem_nil, roArgs, roL, roA, srcCells, A1.ownB, addMem, shift, ren, SV.map, Ob.map, Ob.noRo, SV.noRo, A1.noRo, List.range, List.range.loop, resOf, resSV, SV.map, SV.ids, A1.ids, reach, allObs, ren, pos, Ob.map, St.canon, memL, List.range, List.range.loop, worldA, q1, cl_nil]
end Go.Proofs.Ytbdokibepndibaa.Eng.B
