/- Runs of drawn marks are all cells; marked ones and others are all: the law. -/
import Derived.Test.YtdagbeihjobmjaaRUnion
import Derived.Test.YtdagbeihjobmjaaRDrawM
import Derived.Test.YtdagbeihjobmjaaRSameG
namespace Go.Proofs.Ytdagbeihjobmjaa.Eng.R
set_option linter.unusedSimpArgs false
set_option linter.unusedVariables false
set_option maxHeartbeats 8000000
set_option maxRecDepth 100000
open Go.RowKit Go.Proofs

/-- Ascending, from k on, up to 7. -/
def asc : Int → List Int → Bool
  | _, [] => true
  | k, x :: r => decide (k ≤ x ∧ x ≤ 7) && asc (x + 1) r
theorem mkF_asc : ∀ (l : List Int) (p : Int), mkF (some p) l = true → 0 ≤ p → asc (p + 1) l = true := by
  intro l
  induction l with
  | nil => intro _ _ _; rfl
  | cons x r ih =>
    intro p h hp
    simp only [mkF, Bool.and_eq_true, rng_iff, Bool.not_eq_true', decide_eq_false_iff_not] at h
    simp only [asc, Bool.and_eq_true, decide_eq_true_eq]
    exact ⟨by omega, ih x h.2 (by omega)⟩
theorem marks_asc (l : List Int) (h : marksOk l = true) : asc 0 l = true := by
  cases l with
  | nil => rfl
  | cons x r =>
    simp only [marksOk, mkF, Bool.and_eq_true, rng_iff, decide_eq_true_eq] at h
    simp only [asc, Bool.and_eq_true, decide_eq_true_eq]
    exact ⟨by omega, mkF_asc r x h.2 (by omega)⟩
def selF : Int → List Bool → List Int
  | _, [] => []
  | k, true :: r => k :: selF (k + 1) r
  | k, false :: r => selF (k + 1) r
theorem asc_sel : ∀ (n : Nat) (k : Int) (l : List Int), k = 8 - (n : Int) → asc k l = true → ∃ bs : List Bool, bs.length = n ∧ l = selF k bs := by
  intro n
  induction n with
  | zero =>
    intro k l hk h
    cases l with
    | nil => exact ⟨[], rfl, rfl⟩
    | cons x r =>
      simp only [asc, Bool.and_eq_true, decide_eq_true_eq] at h
      omega
  | succ n ih =>
    intro k l hk h
    cases l with
    | nil =>
      obtain ⟨bs, h1, h2⟩ := ih (k + 1) [] (by omega) rfl
      exact ⟨false :: bs, by simp [h1], h2⟩
    | cons x r =>
      simp only [asc, Bool.and_eq_true, decide_eq_true_eq] at h
      by_cases hx : x = k
      · subst hx
        obtain ⟨bs, h1, h2⟩ := ih (x + 1) r (by omega) h.2
        exact ⟨true :: bs, by simp [h1], by rw [h2]; rfl⟩
      · obtain ⟨bs, h1, h2⟩ := ih (k + 1) (x :: r) (by omega) (by
          simp only [asc, Bool.and_eq_true, decide_eq_true_eq]
          exact ⟨by omega, h.2⟩)
        exact ⟨false :: bs, by simp [h1], h2⟩
/-- What is so of marks. -/
def factsB (m : List Int) : Bool :=
  (runs m).all (fun x => decide (0 ≤ x ∧ x ≤ 8)) && decide ((runs m).sum = 8) && decide ((runs m).length ≤ 9) && decide (m.length + (oS m 8).length = 8) && decide ((m ++ oS m 8).Nodup) && (m ++ oS m 8).all (fun x => rng x 0 7) && decide (oS (oS m 8) 8 = m)
theorem facts_all : ∀ b0 b1 b2 b3 b4 b5 b6 b7 : Bool, factsB (selF 0 [b0, b1, b2, b3, b4, b5, b6, b7]) = true := by decide +kernel
theorem marks_facts (m : List Int) (h : marksOk m = true) : factsB m = true := by
  obtain ⟨bs, h1, rfl⟩ := asc_sel 8 0 m (by omega) (marks_asc m h)
  match bs, h1 with
  | [b0, b1, b2, b3, b4, b5, b6, b7], _ => exact facts_all b0 b1 b2 b3 b4 b5 b6 b7
theorem sum_bound : ∀ (l : List Int), (∀ x ∈ l, 0 ≤ x ∧ x ≤ 8) → 0 ≤ l.sum ∧ l.sum ≤ 8 * (l.length : Int) := by
  intro l
  induction l with
  | nil => simp
  | cons x r ih =>
    intro h
    have h1 := h x (List.mem_cons_self ..)
    have h2 := ih fun y hy => h y (List.mem_cons_of_mem _ hy)
    rw [List.sum_cons, List.length_cons]
    omega
def S_RA (m rs o : List Int) (i : Nat) (n : Int) : XS := ⟨⟨[.bad, .bad, .bad, .v false [.sl 0 [] 0 m.length], .v false [.sl 1 [] 0 rs.length], .v false [.sl 2 [] 0 o.length], .bad, .v false [.int .i64 (n)], .v false [.int .i64 (i)], .bad, .bad, .bad, .bad, .bad, .bad, .bad, .bad, .bad, .bad, .bad, .bad, .bad, .bad, .bad, .bad, .bad, .bad, .bad, .bad, .bad, .bad, .bad, .bad, .bad, .bad, .bad, .bad, .bad, .bad, .bad, .bad, .bad, .bad, .bad, .bad, .bad, .bad, .bad, .bad, .bad, .bad, .bad, .bad, .bad, .bad, .bad, .bad, .bad, .bad, .bad, .bad, .bad, .bad, .bad, .bad, .bad, .bad, .bad, .bad, .bad, .bad, .bad, .bad, .bad, .bad, .bad, .bad, .bad, .bad, .bad, .bad, .bad, .bad, .bad, .bad, .bad, .bad, .bad, .bad], memL [some (.row 1 (cl .i64 m)), some (.row 1 (cl .i64 rs)), some (.row 1 (cl .i64 o))], []⟩, 3⟩
def Z_RA (m o : List Int) (n : Int) : XS := ⟨⟨[.bad, .bad, .bad, .v false [.sl 0 [] 0 m.length], .bad, .v false [.sl 1 [] 0 o.length], .bad, .v false [.int .i64 (n)], .bad, .bad, .bad, .bad, .bad, .bad, .bad, .bad, .bad, .bad, .bad, .bad, .bad, .bad, .bad, .bad, .bad, .bad, .bad, .bad, .bad, .bad, .bad, .bad, .bad, .bad, .bad, .bad, .bad, .bad, .bad, .bad, .bad, .bad, .bad, .bad, .bad, .bad, .bad, .bad, .bad, .bad, .bad, .bad, .bad, .bad, .bad, .bad, .bad, .bad, .bad, .bad, .bad, .bad, .bad, .bad, .bad, .bad, .bad, .bad, .bad, .bad, .bad, .bad, .bad, .bad, .bad, .bad, .bad, .bad, .bad, .bad, .bad, .bad, .bad, .bad, .bad, .bad, .bad, .bad, .bad], memL [some (.row 1 (cl .i64 m)), some (.row 1 (cl .i64 o))], []⟩, 2⟩
theorem loop_RA (m rs o : List Int) (hr : rs.length ≤ 9) (hb : ∀ x ∈ rs, 0 ≤ x ∧ x ≤ 8) {x : XS} (hx : head true d12_0 x = S_RA m rs o 0 0) : X tab l12_0 x = some (.exit 0, Z_RA m o rs.sum) := by
  refine loopN rs.length (fun i => S_RA m rs o i (rs.take i).sum) _ (by simp) (fun i hi => ?_) ?_ (Nat.zero_le _) hx
  · obtain ⟨y, r, hl⟩ : ∃ y r, rs.drop i = y :: r := ⟨_, _, List.drop_eq_getElem_cons hi⟩
    have hci : rs[i]? = some y := by
      have := congrArg (fun q : List Int => q[0]?) hl
      simpa using this
    have hy := hb y (List.mem_of_getElem? hci)
    have ht : (rs.take (i + 1)).sum = (rs.take i).sum + y := by
      rw [List.take_add_one, hci, List.sum_append]
      simp
    have hs := sum_bound (rs.take i) fun x hx => hb x (List.mem_of_mem_take hx)
    have hl2 : (rs.take i).length ≤ 9 := by rw [List.length_take]; omega
    have h1 : (0 ≤ (i : Int) ∧ (i : Int) < (rs.length : Int)) := by omega
    have h2 := cl_read (k := .i64) hl 1 []
    have h3 : (i : Int) < (rs.length : Int) := by omega
    have h4 : IntKind.i64.wrap ((i : Int) + 1) = ((i + 1 : Nat) : Int) := by rw [wrap_id (by omega) (by omega)]; omega
    have h5 : IntKind.i64.wrap ((rs.take i).sum + y) = (rs.take i).sum + y := wrap_id (by omega) (by omega)
    simp only [ht, S_RA]
    generalize (rs.take i).sum = n at *
    simp (maxSteps := 4000000) -implicitDefEqProofs [b12_0, x_seq, x_cond, x_block, x_region, x_skip, x_exit, x_ret, head_id, runG, runOps, doOp, wantB, stepOp, AO.eff, pureOp, St.get, St.one, St.num, St.put, St.optNum, binA, binInt, List.take, List.drop, cellsAt, memL_app, h1, h2, h3, h4, h5, -Int.natCast_add]
    change _ = _
    kernel_rfl
  · rw [List.take_length]
    simp (maxSteps := 4000000) -implicitDefEqProofs [b12_0, S_RA, x_seq, x_cond, x_block, x_region, x_skip, x_exit, x_ret, head_id, runG, runOps, doOp, wantB, stepOp, AO.eff, pureOp, St.get, St.one, St.num, St.put, St.optNum, binA, binInt, List.take, List.drop, Z_RA]
    change _ = _
    kernel_rfl
theorem law_FnRunsAll (l : List Int) (hn : l.length ≤ 140737488351232) (hw : ∀ x ∈ l, (Lit.int .u8 x).wf = true) :
    runRO (X tab) tab 12 [.v false [.ro l.length (cl .u8 l)]] = some (.v false [.bool true], []) := by
  have hb := r_big l
  by_cases h1 : (1048576 : Int) < (l.length : Int)
  · rw [decide_eq_true h1] at hb
    unfold runRO
    simp (maxSteps := 4000000) -implicitDefEqProofs [tab12, a12, x_seq, x_cond, x_block, x_region, x_skip, x_exit, x_ret, head_id, runG, runOps, doOp, wantB, stepOp, AO.eff, pureOp, St.get, St.one, St.num, St.put, St.optNum, binA, binInt, List.take, List.drop, callRO, addMem_nil, roArgs, roL, roA, srcCells, A1.ownB, addMem, shift, ren, SV.map, Ob.map, Ob.noRo, SV.noRo, A1.noRo, List.range, List.range.loop, resOf, resSV, SV.map, SV.ids, A1.ids, reach, allObs, ren, pos, Ob.map, St.canon, memL, List.range, List.range.loop, hb]
  · rw [decide_eq_false h1] at hb
    have hl : l.length ≤ 1048576 := by omega
    obtain ⟨m, hm, e0⟩ := r_DrawRuns l hl
    obtain ⟨k, hk, e1⟩ := r_DrawMany l hl
    have hrl : (runs m).length ≤ 9 := by
      unfold runs
      split
      · rw [List.length_append, List.length_singleton]
        have := (rS_bound m 8).1
        omega
      · simp
    have hol := oS_bound m 8
    have g1 := r_Runs m (by omega)
    have g2 := r_sRuns m (by omega)
    have o1 := r_Others m (by omega)
    have o2 := r_sOthers m (by omega)
    have k1 := r_Many k (by omega)
    have k2 := r_sMany k (by omega)
    have k3 := r_Many m (by omega)
    have mk := r_MarksOk m (by omega)
    have c1 := r_sameInts (runs m) (by omega)
    have c2 := r_sameInts (oS m 8) (by omega)
    have v1 : (cl .i64 m).take m.length = cl .i64 m := cl_self
    have v2 : (cl .i64 k).take k.length = cl .i64 k := cl_self
    have v3 : (cl .i64 (runs m)).take (runs m).length = cl .i64 (runs m) := cl_self
    have v4 : (cl .i64 (oS m 8)).take (oS m 8).length = cl .i64 (oS m 8) := cl_self
    cases hmk : marksOk m with
    | false =>
      have r0 : runs m = [] := by unfold runs; rw [if_neg (by simp [hmk])]
      have o0 : oS m 8 = [] := oS_none m hmk 8
      have m0 : many m = 0 := by unfold many; rw [if_neg (by simp [hmk])]
      rw [r0, List.length_nil, cl_nil] at g1 g2 c1
      rw [o0, List.length_nil, cl_nil] at o1 o2 c2
      rw [m0] at k3
      rw [hmk] at mk
      unfold runRO
      simp (maxSteps := 4000000) -implicitDefEqProofs [tab12, a12, x_seq, x_cond, x_block, x_region, x_skip, x_exit, x_ret, head_id, runG, runOps, doOp, wantB, stepOp, AO.eff, pureOp, St.get, St.one, St.num, St.put, St.optNum, binA, binInt, List.take, List.drop, callRO, addMem_nil, roArgs, roL, roA, srcCells, A1.ownB, addMem, shift, ren, SV.map, Ob.map, Ob.noRo, SV.noRo, A1.noRo, List.range, List.range.loop, resOf, resSV, SV.map, SV.ids, A1.ids, reach, allObs, ren, pos, Ob.map, St.canon, memL, List.range, List.range.loop, cellsAt, hb, e0, e1, g1, g2, o1, o2, k1, k2, k3, mk, c1, c2, v1, v2, cl_length]
    | true =>
      have hf := marks_facts m hmk
      simp only [factsB, Bool.and_eq_true, decide_eq_true_eq, List.all_eq_true] at hf
      obtain ⟨⟨⟨⟨⟨⟨f1, f2⟩, f3⟩, f4⟩, f5⟩, f6⟩, f7⟩ := hf
      have m0 : many m = (m.length : Int) := by unfold many; rw [if_pos hmk]
      have u1 := r_Union m (oS m 8) (by omega) (by omega) (by omega) f5 f6
      have ul : (uF (m ++ oS m 8)).length = 8 := by
        have := uF_len (m ++ oS m 8) []
        unfold uF
        rw [this, List.length_append]
        simp
        omega
      have o3 := r_Others (oS m 8) (by omega)
      have c3 := r_sameInts m (by omega)
      rw [f7] at o3
      rw [ul] at u1
      rw [m0] at k3
      rw [hmk] at mk
      have lp := fun {x} => loop_RA m (runs m) (oS m 8) hrl f1 (x := x)
      rw [f2] at lp
      generalize uF (m ++ oS m 8) = U at u1
      generalize oS m 8 = o at *
      generalize runs m = rs at *
      have w8 : IntKind.i64.wrap ((m.length : Int) + (o.length : Int)) = 8 := by rw [wrap_id (by omega) (by omega)]; omega
      unfold runRO
      simp (maxSteps := 4000000) -implicitDefEqProofs [tab12, a12, x_seq, x_cond, x_block, x_region, x_skip, x_exit, x_ret, head_id, runG, runOps, doOp, wantB, stepOp, AO.eff, pureOp, St.get, St.one, St.num, St.put, St.optNum, binA, binInt, List.take, List.drop, callRO, addMem_nil, roArgs, roL, roA, srcCells, A1.ownB, addMem, shift, ren, SV.map, Ob.map, Ob.noRo, SV.noRo, A1.noRo, List.range, List.range.loop, cellsAt, hb, e0, e1, g1, g2, o1, o2, k1, k2, mk, c1, c2, v1, v2, v3, v4, cl_length]
      rw [lp (by change _ = _; kernel_rfl)]
      simp (maxSteps := 4000000) -implicitDefEqProofs [Z_RA, x_seq, x_cond, x_block, x_region, x_skip, x_exit, x_ret, head_id, runG, runOps, doOp, wantB, stepOp, AO.eff, pureOp, St.get, St.one, St.num, St.put, St.optNum, binA, binInt, List.take, List.drop, callRO, addMem_nil, roArgs, roL, roA, srcCells, A1.ownB, addMem, shift, ren, SV.map, Ob.map, Ob.noRo, SV.noRo, A1.noRo, List.range, List.range.loop, resOf, resSV, SV.map, SV.ids, A1.ids, reach, allObs, ren, pos, Ob.map, St.canon, memL, List.range, List.range.loop, cellsAt, o3, c3, u1, k3, w8, v1, v4, cl_length]
end Go.Proofs.Ytdagbeihjobmjaa.Eng.R
