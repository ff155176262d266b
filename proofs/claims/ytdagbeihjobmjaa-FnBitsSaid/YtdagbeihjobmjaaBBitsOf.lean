/- Marks read from bytes, as the program and the reference read them; the law. -/
import Derived.Test.YtdagbeihjobmjaaBBitsB
import Derived.Test.YtdagbeihjobmjaaBDraw
namespace Go.Proofs.Ytdagbeihjobmjaa.Eng.B
set_option linter.unusedSimpArgs false
set_option linter.unusedVariables false
set_option maxHeartbeats 8000000
set_option maxRecDepth 100000
open Go.RowKit Go.Proofs

/-- So many numbers, read one behind the other, as long as they can be read. -/
def rdF (b : List Int) : Nat → Nat → List Int × Bool × Nat
  | 0, i => ([], true, i)
  | c + 1, i => match getNum b i with
    | none => ([0], false, 0)
    | some (x, k) => ((x : Int) :: (rdF b c k).1, (rdF b c k).2)
theorem rdF_len (b : List Int) : ∀ (c i : Nat), (rdF b c i).1.length ≤ c ∧ ((rdF b c i).2.1 = true → (rdF b c i).1.length = c) ∧ (i ≤ b.length → (rdF b c i).1.length ≤ b.length - i + 1) := by
  intro c
  induction c with
  | zero => intro i; simp [rdF]
  | succ c ih =>
    intro i
    simp only [rdF]
    cases hg : getNum b (i : Int) with
    | none => simp
    | some p =>
      obtain ⟨x, k⟩ := p
      have hb := getNum_bound hg
      obtain ⟨h1, h2, h3⟩ := ih k
      refine ⟨by simp only [List.length_cons]; omega, fun h => by simp only [List.length_cons]; rw [h2 h], fun hi => ?_⟩
      have := h3 hb.2.2.1
      simp only [List.length_cons]
      omega
def listF (b : List Int) : List Int × Bool × Nat := match getNum b (0 : Nat) with | none => ([], false, 0) | some (n, k) => rdF b n k
def sListF (b : List Int) : List Int × Bool × Nat := match getNum b (0 : Nat) with | none => ([], false, 0) | some (n, k) => rdF b (min n 10) k
theorem listF_len (b : List Int) : (listF b).1.length ≤ b.length ∧ (sListF b).1.length ≤ 10 := by
  unfold listF sListF
  cases hg : getNum b ((0 : Nat) : Int) with
  | none => simp
  | some p =>
    obtain ⟨n, k⟩ := p
    have hb := getNum_bound hg
    have h1 := (rdF_len b n k).2.2 hb.2.2.1
    have h2 := (rdF_len b (min n 10) k).1
    simp only
    omega
theorem ofRuns_true {l : List Int} (h : (ofRuns l).2 = true) : marksOk (ofRuns l).1 = true ∧ runs (ofRuns l).1 = l := by
  unfold ofRuns at h ⊢
  split at h
  · rename_i hr
    rw [if_pos hr]
    refine ⟨?_, hr⟩
    cases hm : marksOk (spSt l l.length).1 with
    | true => rfl
    | false =>
      have he : runs (spSt l l.length).1 = [] := by simp [runs, hm]
      rw [he] at hr
      subst hr
      simp [spSt, marksOk, mkF] at hm
  · cases h
/-- Both read the same, or neither reads what is in form. -/
theorem lists_same (b : List Int) : ((listF b).2.1 && (ofRuns (listF b).1).2) = ((sListF b).2.1 && (ofRuns (sListF b).1).2) ∧ (((listF b).2.1 && (ofRuns (listF b).1).2) = true → (listF b).1 = (sListF b).1) := by
  unfold listF sListF
  cases hg : getNum b ((0 : Nat) : Int) with
  | none => simp
  | some p =>
    obtain ⟨n, k⟩ := p
    simp only
    by_cases h10 : n ≤ 10
    · rw [Nat.min_eq_left h10]
      exact ⟨rfl, fun _ => rfl⟩
    · have hm : min n 10 = 10 := by omega
      have long : ∀ c, 10 ≤ c → ((rdF b c k).2.1 && (ofRuns (rdF b c k).1).2) = false := by
        intro c hc
        cases h1 : (rdF b c k).2.1 with
        | false => rfl
        | true =>
          have hl := (rdF_len b c k).2.1 h1
          cases h2 : (ofRuns (rdF b c k).1).2 with
          | false => rfl
          | true =>
            have hr := (ofRuns_true h2).2
            have := runs_len (ofRuns (rdF b c k).1).1
            rw [hr] at this
            omega
      rw [hm, long n (by omega), long 10 (by omega)]
      exact ⟨rfl, fun h => by cases h⟩
def bitsOk (b : List Int) : Bool := ((listF b).2.1 && (ofRuns (listF b).1).2) && eqB (bitsB (ofRuns (listF b).1).1) b
/-! The program's list. -/
def S_list (b : List Int) (n : Nat) (s : Nat × List Int × Nat × Bool) : XS := ⟨⟨[.v false [.pr 0 [] 0], .bad, .bad, .v false [.sl 1 [] 0 s.2.1.length], .v false [.int .i64 (n)], .v false [.int .i64 (s.1)], .bad, .bad, .bad, .bad, .bad, .bad, .bad, .bad, .bad, .bad, .bad, .bad, .bad, .bad, .bad, .bad, .bad, .bad, .bad, .bad, .bad, .bad], memL [some (.box [.ro b.length (cl .u8 b), .int .i64 s.2.2.1, .bool s.2.2.2]), some (.row 1 (cl .i64 s.2.1))], [.v false [.pr 0 [] 0]]⟩, 2⟩
def Z_list (b L : List Int) (ok : Bool) (i : Nat) : XS := ⟨⟨[.bad, .bad, .bad, .v false [.sl 0 [] 0 L.length], .bad, .bad, .bad, .bad, .bad, .bad, .bad, .bad, .bad, .bad, .bad, .bad, .bad, .bad, .bad, .bad, .bad, .bad, .bad, .bad, .bad, .bad, .bad, .bad], memL [some (.row 1 (cl .i64 L)), some (.box [.ro b.length (cl .u8 b), .int .i64 i, .bool ok])], [.v false [.pr 1 [] 0]]⟩, 2⟩
theorem loop_list (b : List Int) (hB : Bytes b) (hn : b.length ≤ 1048576) (n k : Nat) (hN : n ≤ 2147483647) {x : XS} (hx : head true d115_0 x = S_list b n (0, [], k, true)) (hk : k ≤ b.length) :
    X tab l115_0 x = some (.exit 0, Z_list b (rdF b n k).1 (rdF b n k).2.1 (rdF b n k).2.2) := by
  refine loopX (σ := Nat × List Int × Nat × Bool) (S_list b n) (fun s => n - s.1 + (if s.2.2.2 = true then 1 else 0)) (fun s => s.1 ≤ n ∧ s.2.1.length ≤ s.1 ∧ s.2.2.1 ≤ b.length ∧ (if s.2.2.2 = true then (s.2.1 ++ (rdF b (n - s.1) s.2.2.1).1 = (rdF b n k).1 ∧ (rdF b (n - s.1) s.2.2.1).2 = (rdF b n k).2) else (s.2.1 = (rdF b n k).1 ∧ (rdF b n k).2 = (false, s.2.2.1)))) _ (fun ⟨j, acc, i, ok⟩ ⟨hj, hlen, hi, hs⟩ => ?_) (0, [], k, true) ⟨Nat.zero_le _, by simp, hk, by simp⟩ x hx
  simp only at hj hlen hi hs
  cases ok with
  | false =>
    simp only [Bool.false_eq_true, if_false] at hs
    rw [← hs.1, hs.2]
    refine .inr ⟨?_, by simp⟩
    by_cases hjn : (j : Int) < (n : Int) <;>
    · simp (maxSteps := 4000000) -implicitDefEqProofs [b115_0, S_list, x_seq, x_cond, x_block, x_region, x_skip, x_exit, x_ret, head_id, runG, runOps, doOp, wantB, stepOp, AO.eff, pureOp, St.get, St.one, St.num, St.put, St.optNum, binA, binInt, List.take, List.drop, gOp, gOp0, gOpL, gResL, updO, gRes, gEff, addObs_nil, addObs_one, freshB_memL, freshB_none, freshB_upd, freshB_addMem, freshB_addObs, effOp2, effOp, memL_app, stoRow, cellsAt, toCells, toCell, scalar_int, scalar_bool, scalar_str, scalar_sl, updAt, fromRo, upd, hjn, Z_list]
      change _ = _
      kernel_rfl
  | true =>
    simp only [if_true] at hs
    by_cases hjn : j < n
    · have h1 : (j : Int) < (n : Int) := by omega
      have h4 := wrap_next hjn (show n ≤ 281474976710656 by omega)
      have a1 : (acc.length + 1) * 8 ≤ 140737488355328 := by omega
      have a2 : (cl .i64 acc).length = acc.length := cl_length
      obtain ⟨c, hc⟩ : ∃ c, n - j = c + 1 := ⟨n - j - 1, by omega⟩
      have hc' : n - (j + 1) = c := by omega
      have hnum := fun sl up nx (h : 2 ≤ nx) => t_num 0 b hB hn (i : Int) (by omega) sl (memL [some (.box [.ro b.length (cl .u8 b), .int .i64 i, .bool true]), some (.row 1 (cl .i64 acc))]) up nx rfl (fun q => freshB_memL (by simp; omega))
      rw [hc] at hs
      simp only [rdF] at hs
      cases hg : getNum b (i : Int) with
      | none =>
        rw [hg] at hs hnum
        simp only at hs hnum
        refine .inl ⟨(j + 1, acc ++ [0], 0, false), ?_, by simp only; simp; omega, by simp only; omega, by simp; omega, by simp, ?_⟩
        · simp only [S_list, List.length_append, List.length_singleton]
          simp (maxSteps := 4000000) -implicitDefEqProofs [b115_0, x_seq, x_cond, x_block, x_region, x_skip, x_exit, x_ret, head_id, runG, runOps, doOp, wantB, stepOp, AO.eff, pureOp, St.get, St.one, St.num, St.put, St.optNum, binA, binInt, List.take, List.drop, gOp, gOp0, gOpL, gResL, updO, gRes, gEff, addObs_nil, addObs_one, freshB_memL, freshB_none, freshB_upd, freshB_addMem, freshB_addObs, effOp2, effOp, memL_app, stoRow, cellsAt, toCells, toCell, scalar_int, scalar_bool, scalar_str, scalar_sl, updAt, fromRo, upd, srcCells, A1.slB, flat_int, cl_flat', St.parts, Eng.inB, reps, fillA, newRowSt, appSt, oldOf, rest, kill, mapMem, SV.map, Ob.map, getAll, h1, h4, hnum, a1, a2, cl_app1]
          change _ = _
          kernel_rfl
        · simp only [Bool.false_eq_true, if_false]
          exact ⟨hs.1, hs.2.symm⟩
      | some p =>
        obtain ⟨x, q⟩ := p
        have hb := getNum_bound hg
        rw [hg] at hs hnum
        simp only at hs hnum
        refine .inl ⟨(j + 1, acc ++ [(x : Int)], q, true), ?_, by simp only [if_true]; omega, by simp only; omega, by simp; omega, by simp only; omega, ?_⟩
        · simp only [S_list, List.length_append, List.length_singleton]
          simp (maxSteps := 4000000) -implicitDefEqProofs [b115_0, x_seq, x_cond, x_block, x_region, x_skip, x_exit, x_ret, head_id, runG, runOps, doOp, wantB, stepOp, AO.eff, pureOp, St.get, St.one, St.num, St.put, St.optNum, binA, binInt, List.take, List.drop, gOp, gOp0, gOpL, gResL, updO, gRes, gEff, addObs_nil, addObs_one, freshB_memL, freshB_none, freshB_upd, freshB_addMem, freshB_addObs, effOp2, effOp, memL_app, stoRow, cellsAt, toCells, toCell, scalar_int, scalar_bool, scalar_str, scalar_sl, updAt, fromRo, upd, srcCells, A1.slB, flat_int, cl_flat', St.parts, Eng.inB, reps, fillA, newRowSt, appSt, oldOf, rest, kill, mapMem, SV.map, Ob.map, getAll, h1, h4, hnum, a1, a2, cl_app1]
          change _ = _
          kernel_rfl
        · simp only [if_true, hc', List.append_assoc, List.singleton_append]
          exact hs
    · obtain rfl : j = n := by omega
      rw [Nat.sub_self] at hs
      simp only [rdF, List.append_nil] at hs
      rw [← hs.1, ← hs.2]
      refine .inr ⟨?_, by simp⟩
      simp (maxSteps := 4000000) -implicitDefEqProofs [b115_0, S_list, x_seq, x_cond, x_block, x_region, x_skip, x_exit, x_ret, head_id, runG, runOps, doOp, wantB, stepOp, AO.eff, pureOp, St.get, St.one, St.num, St.put, St.optNum, binA, binInt, List.take, List.drop, gOp, gOp0, gOpL, gResL, updO, gRes, gEff, addObs_nil, addObs_one, freshB_memL, freshB_none, freshB_upd, freshB_addMem, freshB_addObs, effOp2, effOp, memL_app, stoRow, cellsAt, toCells, toCell, scalar_int, scalar_bool, scalar_str, scalar_sl, updAt, fromRo, upd, Z_list]
      change _ = _
      kernel_rfl
theorem r_list (b : List Int) (hB : Bytes b) (hn : b.length ≤ 1048576) : runLend (X tab) tab 115 [.ro b.length (cl .u8 b), .int .i64 0, .bool true] [] =
    some (.v false [.sl 0 [] 0 (listF b).1.length], [.ro b.length (cl .u8 b), .int .i64 (listF b).2.2, .bool (listF b).2.1], [.row 1 (cl .i64 (listF b).1)]) := by
  have hnum := fun sl up nx (h : 66 ≤ nx) => t_num 0 b hB hn ((0 : Nat) : Int) (by omega) sl (upd (memL [some (.box [.ro b.length (cl .u8 b), .int .i64 0, .bool true])]) 65 (some (.row 1 []))) up nx rfl (fun q => by rw [freshB_upd (.inl (by omega)), freshB_memL (by simp; omega)])
  unfold listF
  cases hg : getNum b ((0 : Nat) : Int) with
  | none =>
    rw [hg] at hnum
    simp only at hnum ⊢
    have hl : ∀ x, head true d115_0 x = ⟨⟨[.v false [.pr 0 [] 0], .bad, .bad, .v false [.sl 1 [] 0 0], .v false [.int .i64 (0)], .v false [.int .i64 (0)], .bad, .bad, .bad, .bad, .bad, .bad, .bad, .bad, .bad, .bad, .bad, .bad, .bad, .bad, .bad, .bad, .bad, .bad, .bad, .bad, .bad, .bad], memL [some (.box [.ro b.length (cl .u8 b), .int .i64 0, .bool false]), some (.row 1 [])], [.v false [.pr 0 [] 0]]⟩, 2⟩ → X tab l115_0 x = some (.exit 0, Z_list b [] false 0) := by
      intro x hx
      refine loopN 0 (fun _ => ⟨⟨[.v false [.pr 0 [] 0], .bad, .bad, .v false [.sl 1 [] 0 0], .v false [.int .i64 (0)], .v false [.int .i64 (0)], .bad, .bad, .bad, .bad, .bad, .bad, .bad, .bad, .bad, .bad, .bad, .bad, .bad, .bad, .bad, .bad, .bad, .bad, .bad, .bad, .bad, .bad], memL [some (.box [.ro b.length (cl .u8 b), .int .i64 0, .bool false]), some (.row 1 [])], [.v false [.pr 0 [] 0]]⟩, 2⟩) _ (by simp) (fun i hi => by omega) ?_ (Nat.le_refl 0) hx
      simp (maxSteps := 4000000) -implicitDefEqProofs [b115_0, x_seq, x_cond, x_block, x_region, x_skip, x_exit, x_ret, head_id, runG, runOps, doOp, wantB, stepOp, AO.eff, pureOp, St.get, St.one, St.num, St.put, St.optNum, binA, binInt, List.take, List.drop, gOp, gOp0, gOpL, gResL, updO, gRes, gEff, addObs_nil, addObs_one, freshB_memL, freshB_none, freshB_upd, freshB_addMem, freshB_addObs, effOp2, effOp, memL_app, stoRow, cellsAt, toCells, toCell, scalar_int, scalar_bool, scalar_str, scalar_sl, updAt, fromRo, upd, Z_list]
      change _ = _
      kernel_rfl
    unfold runLend
    simp (maxSteps := 4000000) -implicitDefEqProofs [tab115, a115, lendEnd, x_seq, x_cond, x_block, x_region, x_skip, x_exit, x_ret, head_id, runG, runOps, doOp, wantB, stepOp, AO.eff, pureOp, St.get, St.one, St.num, St.put, St.optNum, binA, binInt, List.take, List.drop, effOp2, effOp, memL_app, stoRow, cellsAt, toCells, toCell, scalar_int, scalar_bool, scalar_str, scalar_sl, updAt, fromRo, upd, srcCells, A1.slB, flat_int, cl_flat', St.parts, Eng.inB, reps, fillA, newRowSt, appSt, oldOf, rest, kill, mapMem, SV.map, Ob.map, getAll, hnum]
    rw [hl _ (by change _ = _; kernel_rfl)]
    simp (maxSteps := 4000000) -implicitDefEqProofs [Z_list, x_seq, x_cond, x_block, x_region, x_skip, x_exit, x_ret, head_id, runG, runOps, doOp, wantB, stepOp, AO.eff, pureOp, St.get, St.one, St.num, St.put, St.optNum, binA, binInt, List.take, List.drop, effOp2, effOp, memL_app, stoRow, cellsAt, toCells, toCell, scalar_int, scalar_bool, scalar_str, scalar_sl, updAt, fromRo, upd, resOf, resSV, SV.map, SV.ids, A1.ids, reach, allObs, ren, pos, Ob.map, St.canon, memL, List.range, List.range.loop, cl_nil]
  | some p =>
    obtain ⟨n, k⟩ := p
    have hb := getNum_bound hg
    rw [hg] at hnum
    simp only at hnum ⊢
    have hlo := fun x hx => loop_list b hB hn n k hb.2.2.2.1 (x := x) hx hb.2.2.1
    generalize rdF b n k = res at hlo ⊢
    obtain ⟨L, ok, i⟩ := res
    unfold runLend
    simp (maxSteps := 4000000) -implicitDefEqProofs [tab115, a115, lendEnd, x_seq, x_cond, x_block, x_region, x_skip, x_exit, x_ret, head_id, runG, runOps, doOp, wantB, stepOp, AO.eff, pureOp, St.get, St.one, St.num, St.put, St.optNum, binA, binInt, List.take, List.drop, effOp2, effOp, memL_app, stoRow, cellsAt, toCells, toCell, scalar_int, scalar_bool, scalar_str, scalar_sl, updAt, fromRo, upd, srcCells, A1.slB, flat_int, cl_flat', St.parts, Eng.inB, reps, fillA, newRowSt, appSt, oldOf, rest, kill, mapMem, SV.map, Ob.map, getAll, hnum]
    rw [hlo _ (by change _ = _; kernel_rfl)]
    simp (maxSteps := 4000000) -implicitDefEqProofs [Z_list, x_seq, x_cond, x_block, x_region, x_skip, x_exit, x_ret, head_id, runG, runOps, doOp, wantB, stepOp, AO.eff, pureOp, St.get, St.one, St.num, St.put, St.optNum, binA, binInt, List.take, List.drop, effOp2, effOp, memL_app, stoRow, cellsAt, toCells, toCell, scalar_int, scalar_bool, scalar_str, scalar_sl, updAt, fromRo, upd, resOf, resSV, SV.map, SV.ids, A1.ids, reach, allObs, ren, pos, Ob.map, St.canon, memL, List.range, List.range.loop]
theorem r_BitsOf (b : List Int) (hB : Bytes b) (hn : b.length ≤ 1048576) : runRO (X tab) tab 53 [.v false [.ro b.length (cl .u8 b)]] =
    if bitsOk b = true then some (.tup [(false, [.sl 0 [] 0 (ofRuns (listF b).1).1.length]), (false, [.bool true])], [.row 1 (cl .i64 (ofRuns (listF b).1).1)]) else some (.tup [(false, [.nil]), (false, [.bool false])], []) := by
  have g1 := r_list b hB hn
  have hll := (listF_len b).1
  have g2 := r_OfRuns (listF b).1 (by omega)
  have hml := ofRuns_len (listF b).1
  have u1 : (cl .i64 (listF b).1).take (listF b).1.length = cl .i64 (listF b).1 := cl_self
  have hb : bitsOk b = (((listF b).2.1 && (ofRuns (listF b).1).2) && eqB (bitsB (ofRuns (listF b).1).1) b) := rfl
  have hmk : (ofRuns (listF b).1).2 = true → marksOk (ofRuns (listF b).1).1 = true := fun h => (ofRuns_true h).1
  rw [hb]
  generalize hres : listF b = res at *
  obtain ⟨L, ok, at_⟩ := res
  simp only at g1 g2 hml u1 hmk ⊢
  generalize ofRuns L = mr at *
  obtain ⟨m, fine⟩ := mr
  simp only at g2 hml hmk ⊢
  unfold runRO
  cases ok with
  | false =>
    cases fine with
    | false =>
      simp only [Bool.false_eq_true, if_false] at g2
      simp (maxSteps := 4000000) -implicitDefEqProofs [tab53, a53, x_seq, x_cond, x_block, x_region, x_skip, x_exit, x_ret, head_id, runG, runOps, doOp, wantB, stepOp, AO.eff, pureOp, St.get, St.one, St.num, St.put, St.optNum, binA, binInt, List.take, List.drop, effOp2, effOp, memL_app, stoRow, cellsAt, toCells, toCell, scalar_int, scalar_bool, scalar_str, scalar_sl, updAt, fromRo, upd, srcCells, A1.slB, flat_int, cl_flat', St.parts, Eng.inB, reps, fillA, newRowSt, appSt, oldOf, rest, kill, mapMem, SV.map, Ob.map, callRO, addMem_nil, roArgs, roL, roA, srcCells, A1.ownB, addMem, shift, ren, SV.map, Ob.map, Ob.noRo, SV.noRo, A1.noRo, List.range, List.range.loop, callLend, lendBox, A1.ids, roArgs, roL, roA, A1.ownB, addMem_nil, List.range, List.range.loop, SV.map, ren, shift, upd, memL_app, resOf, resSV, SV.map, SV.ids, A1.ids, reach, allObs, ren, pos, Ob.map, St.canon, memL, List.range, List.range.loop, cellsAt, spl, g1, g2, u1, cl_length]
    | true =>
      simp only [if_true] at g2
      simp (maxSteps := 4000000) -implicitDefEqProofs [tab53, a53, x_seq, x_cond, x_block, x_region, x_skip, x_exit, x_ret, head_id, runG, runOps, doOp, wantB, stepOp, AO.eff, pureOp, St.get, St.one, St.num, St.put, St.optNum, binA, binInt, List.take, List.drop, effOp2, effOp, memL_app, stoRow, cellsAt, toCells, toCell, scalar_int, scalar_bool, scalar_str, scalar_sl, updAt, fromRo, upd, srcCells, A1.slB, flat_int, cl_flat', St.parts, Eng.inB, reps, fillA, newRowSt, appSt, oldOf, rest, kill, mapMem, SV.map, Ob.map, callRO, addMem_nil, roArgs, roL, roA, srcCells, A1.ownB, addMem, shift, ren, SV.map, Ob.map, Ob.noRo, SV.noRo, A1.noRo, List.range, List.range.loop, callLend, lendBox, A1.ids, roArgs, roL, roA, A1.ownB, addMem_nil, List.range, List.range.loop, SV.map, ren, shift, upd, memL_app, resOf, resSV, SV.map, SV.ids, A1.ids, reach, allObs, ren, pos, Ob.map, St.canon, memL, List.range, List.range.loop, cellsAt, spl, g1, g2, u1, cl_length]
  | true =>
    cases fine with
    | false =>
      simp only [Bool.false_eq_true, if_false] at g2
      simp (maxSteps := 4000000) -implicitDefEqProofs [tab53, a53, x_seq, x_cond, x_block, x_region, x_skip, x_exit, x_ret, head_id, runG, runOps, doOp, wantB, stepOp, AO.eff, pureOp, St.get, St.one, St.num, St.put, St.optNum, binA, binInt, List.take, List.drop, effOp2, effOp, memL_app, stoRow, cellsAt, toCells, toCell, scalar_int, scalar_bool, scalar_str, scalar_sl, updAt, fromRo, upd, srcCells, A1.slB, flat_int, cl_flat', St.parts, Eng.inB, reps, fillA, newRowSt, appSt, oldOf, rest, kill, mapMem, SV.map, Ob.map, callRO, addMem_nil, roArgs, roL, roA, srcCells, A1.ownB, addMem, shift, ren, SV.map, Ob.map, Ob.noRo, SV.noRo, A1.noRo, List.range, List.range.loop, callLend, lendBox, A1.ids, roArgs, roL, roA, A1.ownB, addMem_nil, List.range, List.range.loop, SV.map, ren, shift, upd, memL_app, resOf, resSV, SV.map, SV.ids, A1.ids, reach, allObs, ren, pos, Ob.map, St.canon, memL, List.range, List.range.loop, cellsAt, spl, g1, g2, u1, cl_length]
    | true =>
      simp only [if_true] at g2
      have g3 := r_BitsBytes m (by omega) (hmk rfl)
      have g4 := r_BytesEqual (bitsB m) b
      have u2 : (cl .i64 m).take m.length = cl .i64 m := cl_self
      have u3 : (cl .u8 (bitsB m)).take (bitsB m).length = cl .u8 (bitsB m) := cl_self
      generalize bitsB m = z at g3 g4 u3 ⊢
      cases hq : eqB z b with
      | false =>
        rw [hq] at g4
        simp (maxSteps := 4000000) -implicitDefEqProofs [tab53, a53, x_seq, x_cond, x_block, x_region, x_skip, x_exit, x_ret, head_id, runG, runOps, doOp, wantB, stepOp, AO.eff, pureOp, St.get, St.one, St.num, St.put, St.optNum, binA, binInt, List.take, List.drop, effOp2, effOp, memL_app, stoRow, cellsAt, toCells, toCell, scalar_int, scalar_bool, scalar_str, scalar_sl, updAt, fromRo, upd, srcCells, A1.slB, flat_int, cl_flat', St.parts, Eng.inB, reps, fillA, newRowSt, appSt, oldOf, rest, kill, mapMem, SV.map, Ob.map, callRO, addMem_nil, roArgs, roL, roA, srcCells, A1.ownB, addMem, shift, ren, SV.map, Ob.map, Ob.noRo, SV.noRo, A1.noRo, List.range, List.range.loop, callLend, lendBox, A1.ids, roArgs, roL, roA, A1.ownB, addMem_nil, List.range, List.range.loop, SV.map, ren, shift, upd, memL_app, resOf, resSV, SV.map, SV.ids, A1.ids, reach, allObs, ren, pos, Ob.map, St.canon, memL, List.range, List.range.loop, cellsAt, spl, g1, g2, g3, g4, u1, u2, u3, cl_length]
      | true =>
        rw [hq] at g4
        simp (maxSteps := 4000000) -implicitDefEqProofs [tab53, a53, x_seq, x_cond, x_block, x_region, x_skip, x_exit, x_ret, head_id, runG, runOps, doOp, wantB, stepOp, AO.eff, pureOp, St.get, St.one, St.num, St.put, St.optNum, binA, binInt, List.take, List.drop, effOp2, effOp, memL_app, stoRow, cellsAt, toCells, toCell, scalar_int, scalar_bool, scalar_str, scalar_sl, updAt, fromRo, upd, srcCells, A1.slB, flat_int, cl_flat', St.parts, Eng.inB, reps, fillA, newRowSt, appSt, oldOf, rest, kill, mapMem, SV.map, Ob.map, callRO, addMem_nil, roArgs, roL, roA, srcCells, A1.ownB, addMem, shift, ren, SV.map, Ob.map, Ob.noRo, SV.noRo, A1.noRo, List.range, List.range.loop, callLend, lendBox, A1.ids, roArgs, roL, roA, A1.ownB, addMem_nil, List.range, List.range.loop, SV.map, ren, shift, upd, memL_app, resOf, resSV, SV.map, SV.ids, A1.ids, reach, allObs, ren, pos, Ob.map, St.canon, memL, List.range, List.range.loop, cellsAt, spl, g1, g2, g3, g4, u1, u2, u3, cl_length]
/-! The reference's. -/
def S_sBitsOf (b : List Int) (n : Int) (s : Nat × List Int × Nat × Bool) : XS := ⟨⟨[.v false [.ro b.length (cl .u8 b)], .bad, .bad, .bad, .v false [.int .i64 (n)], .v false [.int .i64 (s.2.2.1)], .v false [.bool (s.2.2.2)], .v false [.sl 0 [] 0 s.2.1.length], .v false [.int .i64 (s.1)], .bad, .bad, .bad, .bad, .bad, .bad, .bad, .bad, .bad, .bad, .bad, .bad, .bad, .bad, .bad, .bad, .bad, .bad, .bad, .bad, .bad, .bad, .bad, .bad, .bad, .bad, .bad, .bad, .bad, .bad, .bad, .bad, .bad, .bad, .bad, .bad, .bad, .bad, .bad, .bad, .bad, .bad, .bad, .bad, .bad, .bad, .bad, .bad, .bad, .bad, .bad, .bad, .bad, .bad, .bad], memL [some (.row 1 (cl .i64 s.2.1))], []⟩, 1⟩
def Z_sBitsOf (b L : List Int) (ok : Bool) : XS := ⟨⟨[.v false [.ro b.length (cl .u8 b)], .bad, .bad, .bad, .bad, .bad, .v false [.bool (ok)], .v false [.sl 0 [] 0 L.length], .bad, .bad, .bad, .bad, .bad, .bad, .bad, .bad, .bad, .bad, .bad, .bad, .bad, .bad, .bad, .bad, .bad, .bad, .bad, .bad, .bad, .bad, .bad, .bad, .bad, .bad, .bad, .bad, .bad, .bad, .bad, .bad, .bad, .bad, .bad, .bad, .bad, .bad, .bad, .bad, .bad, .bad, .bad, .bad, .bad, .bad, .bad, .bad, .bad, .bad, .bad, .bad, .bad, .bad, .bad, .bad], memL [some (.row 1 (cl .i64 L))], []⟩, 1⟩
theorem loop_sBitsOf (b : List Int) (hB : Bytes b) (hn : b.length ≤ 1048576) (n k : Nat) {x : XS} (hx : head true d52_0 x = S_sBitsOf b n (0, [], k, true)) (hk : k ≤ b.length) :
    X tab l52_0 x = some (.exit 0, Z_sBitsOf b (rdF b (min n 10) k).1 (rdF b (min n 10) k).2.1) := by
  have h5 := r_l1Min (n : Int) 10
  have hmin : (if (n : Int) < 10 then (n : Int) else 10) = ((min n 10 : Nat) : Int) := by split <;> omega
  rw [hmin] at h5
  generalize hN : min n 10 = N at *
  have hN10 : N ≤ 10 := by omega
  refine loopX (σ := Nat × List Int × Nat × Bool) (S_sBitsOf b n) (fun s => N - s.1 + (if s.2.2.2 = true then 1 else 0)) (fun s => s.1 ≤ N ∧ s.2.1.length ≤ s.1 ∧ s.2.2.1 ≤ b.length ∧ (if s.2.2.2 = true then (s.2.1 ++ (rdF b (N - s.1) s.2.2.1).1 = (rdF b N k).1 ∧ (rdF b (N - s.1) s.2.2.1).2 = (rdF b N k).2) else (s.2.1 = (rdF b N k).1 ∧ (rdF b N k).2 = (false, s.2.2.1)))) _ (fun ⟨j, acc, i, ok⟩ ⟨hj, hlen, hi, hs⟩ => ?_) (0, [], k, true) ⟨Nat.zero_le _, by simp, hk, by simp⟩ x hx
  simp only at hj hlen hi hs
  cases ok with
  | false =>
    simp only [Bool.false_eq_true, if_false] at hs
    rw [← hs.1, hs.2]
    refine .inr ⟨?_, by simp⟩
    by_cases hjn : (j : Int) < (N : Int) <;>
    · simp (maxSteps := 4000000) -implicitDefEqProofs [b52_0, S_sBitsOf, x_seq, x_cond, x_block, x_region, x_skip, x_exit, x_ret, head_id, runG, runOps, doOp, wantB, stepOp, AO.eff, pureOp, St.get, St.one, St.num, St.put, St.optNum, binA, binInt, List.take, List.drop, callRO, addMem_nil, roArgs, roL, roA, srcCells, A1.ownB, addMem, shift, ren, SV.map, Ob.map, Ob.noRo, SV.noRo, A1.noRo, List.range, List.range.loop, h5, hjn, Z_sBitsOf]
      change _ = _
      kernel_rfl
  | true =>
    simp only [if_true] at hs
    by_cases hjn : j < N
    · have h1 : (j : Int) < (N : Int) := by omega
      have h4 := wrap_next hjn (show N ≤ 281474976710656 by omega)
      have a1 : (acc.length + 1) * 8 ≤ 140737488355328 := by omega
      have a2 : (cl .i64 acc).length = acc.length := cl_length
      obtain ⟨c, hc⟩ : ∃ c, N - j = c + 1 := ⟨N - j - 1, by omega⟩
      have hc' : N - (j + 1) = c := by omega
      have hg0 := r_sGetNum b hB hn (i : Int) (by omega)
      rw [hc] at hs
      simp only [rdF] at hs
      cases hg : getNum b (i : Int) with
      | none =>
        rw [hg] at hs hg0
        simp only [getSV] at hs hg0
        refine .inl ⟨(j + 1, acc ++ [0], 0, false), ?_, by simp only; simp; omega, by simp only; omega, by simp; omega, by simp, ?_⟩
        · simp only [S_sBitsOf, List.length_append, List.length_singleton]
          simp (maxSteps := 4000000) -implicitDefEqProofs [b52_0, x_seq, x_cond, x_block, x_region, x_skip, x_exit, x_ret, head_id, runG, runOps, doOp, wantB, stepOp, AO.eff, pureOp, St.get, St.one, St.num, St.put, St.optNum, binA, binInt, List.take, List.drop, effOp2, effOp, memL_app, stoRow, cellsAt, toCells, toCell, scalar_int, scalar_bool, scalar_str, scalar_sl, updAt, fromRo, upd, srcCells, A1.slB, flat_int, cl_flat', St.parts, Eng.inB, reps, fillA, newRowSt, appSt, oldOf, rest, kill, mapMem, SV.map, Ob.map, callRO, addMem_nil, roArgs, roL, roA, srcCells, A1.ownB, addMem, shift, ren, SV.map, Ob.map, Ob.noRo, SV.noRo, A1.noRo, List.range, List.range.loop, h1, h4, h5, hg0, a1, a2, cl_app1]
          change _ = _
          kernel_rfl
        · simp only [Bool.false_eq_true, if_false]
          exact ⟨hs.1, hs.2.symm⟩
      | some p =>
        obtain ⟨x, q⟩ := p
        have hb := getNum_bound hg
        rw [hg] at hs hg0
        simp only [getSV] at hs hg0
        refine .inl ⟨(j + 1, acc ++ [(x : Int)], q, true), ?_, by simp only [if_true]; omega, by simp only; omega, by simp; omega, by simp only; omega, ?_⟩
        · simp only [S_sBitsOf, List.length_append, List.length_singleton]
          simp (maxSteps := 4000000) -implicitDefEqProofs [b52_0, x_seq, x_cond, x_block, x_region, x_skip, x_exit, x_ret, head_id, runG, runOps, doOp, wantB, stepOp, AO.eff, pureOp, St.get, St.one, St.num, St.put, St.optNum, binA, binInt, List.take, List.drop, effOp2, effOp, memL_app, stoRow, cellsAt, toCells, toCell, scalar_int, scalar_bool, scalar_str, scalar_sl, updAt, fromRo, upd, srcCells, A1.slB, flat_int, cl_flat', St.parts, Eng.inB, reps, fillA, newRowSt, appSt, oldOf, rest, kill, mapMem, SV.map, Ob.map, callRO, addMem_nil, roArgs, roL, roA, srcCells, A1.ownB, addMem, shift, ren, SV.map, Ob.map, Ob.noRo, SV.noRo, A1.noRo, List.range, List.range.loop, h1, h4, h5, hg0, a1, a2, cl_app1]
          change _ = _
          kernel_rfl
        · simp only [if_true, hc', List.append_assoc, List.singleton_append]
          exact hs
    · obtain rfl : j = N := by omega
      rw [Nat.sub_self] at hs
      simp only [rdF, List.append_nil] at hs
      rw [← hs.1, ← hs.2]
      refine .inr ⟨?_, by simp⟩
      simp (maxSteps := 4000000) -implicitDefEqProofs [b52_0, S_sBitsOf, x_seq, x_cond, x_block, x_region, x_skip, x_exit, x_ret, head_id, runG, runOps, doOp, wantB, stepOp, AO.eff, pureOp, St.get, St.one, St.num, St.put, St.optNum, binA, binInt, List.take, List.drop, callRO, addMem_nil, roArgs, roL, roA, srcCells, A1.ownB, addMem, shift, ren, SV.map, Ob.map, Ob.noRo, SV.noRo, A1.noRo, List.range, List.range.loop, h5, Z_sBitsOf]
      change _ = _
      kernel_rfl
theorem r_sBitsOf (b : List Int) (hB : Bytes b) (hn : b.length ≤ 1048576) : runRO (X tab) tab 52 [.v false [.ro b.length (cl .u8 b)]] =
    if bitsOk b = true then some (.tup [(false, [.sl 0 [] 0 (ofRuns (listF b).1).1.length]), (false, [.bool true])], [.row 1 (cl .i64 (ofRuns (listF b).1).1)]) else some (.tup [(false, [.sl 0 [] 0 0]), (false, [.bool false])], [.row 1 []]) := by
  obtain ⟨k1, k2⟩ := lists_same b
  have hb : bitsOk b = (((sListF b).2.1 && (ofRuns (sListF b).1).2) && eqB (bitsB (ofRuns (sListF b).1).1) b) := by
    unfold bitsOk
    cases hq : ((listF b).2.1 && (ofRuns (listF b).1).2) with
    | false => rw [← k1, hq]; rfl
    | true => rw [← k1, hq, k2 hq]
  have hm : bitsOk b = true → (ofRuns (listF b).1).1 = (ofRuns (sListF b).1).1 := by
    intro h
    unfold bitsOk at h
    rw [Bool.and_eq_true] at h
    rw [k2 h.1]
  have hgoal : (if bitsOk b = true then some (SV.tup [(false, [A1.sl 0 [] 0 (ofRuns (listF b).1).1.length]), (false, [A1.bool true])], [Ob.row 1 (cl .i64 (ofRuns (listF b).1).1)]) else some (SV.tup [(false, [A1.sl 0 [] 0 0]), (false, [A1.bool false])], [Ob.row 1 []])) =
      (if bitsOk b = true then some (SV.tup [(false, [A1.sl 0 [] 0 (ofRuns (sListF b).1).1.length]), (false, [A1.bool true])], [Ob.row 1 (cl .i64 (ofRuns (sListF b).1).1)]) else some (SV.tup [(false, [A1.sl 0 [] 0 0]), (false, [A1.bool false])], [Ob.row 1 []])) := by
    by_cases h : bitsOk b = true
    · rw [if_pos h, if_pos h, hm h]
    · rw [if_neg h, if_neg h]
  rw [hgoal, hb]
  clear hgoal hm hb k1 k2
  have hll := (listF_len b).2
  have g2 := r_sOfRuns (sListF b).1 (by omega)
  have hml := ofRuns_len (sListF b).1
  have hmk : (ofRuns (sListF b).1).2 = true → marksOk (ofRuns (sListF b).1).1 = true := fun h => (ofRuns_true h).1
  have u1 : (cl .i64 (sListF b).1).take (sListF b).1.length = cl .i64 (sListF b).1 := cl_self
  have g1 := r_sGetNum b hB hn ((0 : Nat) : Int) (by omega)
  have v1 : (cl .u8 b).take b.length = cl .u8 b := cl_self
  -- the loop, in both ways
  have loop : ∃ (n k : Nat) (ok0 : Bool), getSV (getNum b ((0 : Nat) : Int)) = .tup [(false, [.int .i64 n]), (false, [.int .i64 k]), (false, [.bool ok0])] ∧
      ∀ x, head true d52_0 x = S_sBitsOf b n (0, [], k, ok0) → X tab l52_0 x = some (.exit 0, Z_sBitsOf b (sListF b).1 (sListF b).2.1) := by
    unfold sListF
    cases hg : getNum b ((0 : Nat) : Int) with
    | none =>
      refine ⟨0, 0, false, rfl, fun x hx => ?_⟩
      have h5 := r_l1Min 0 10
      refine loopN 0 (fun _ => S_sBitsOf b ((0 : Nat) : Int) (0, [], 0, false)) _ (by simp) (fun i hi => by omega) ?_ (Nat.le_refl 0) hx
      simp only [Int.reduceLT, if_true] at h5
      simp (maxSteps := 4000000) -implicitDefEqProofs [b52_0, S_sBitsOf, x_seq, x_cond, x_block, x_region, x_skip, x_exit, x_ret, head_id, runG, runOps, doOp, wantB, stepOp, AO.eff, pureOp, St.get, St.one, St.num, St.put, St.optNum, binA, binInt, List.take, List.drop, callRO, addMem_nil, roArgs, roL, roA, srcCells, A1.ownB, addMem, shift, ren, SV.map, Ob.map, Ob.noRo, SV.noRo, A1.noRo, List.range, List.range.loop, h5, Z_sBitsOf]
      change _ = _
      kernel_rfl
    | some p =>
      obtain ⟨n, k⟩ := p
      have hb := getNum_bound hg
      exact ⟨n, k, true, rfl, fun x hx => loop_sBitsOf b hB hn n k hx hb.2.2.1⟩
  obtain ⟨n0, i0, ok0, hsv, hlo⟩ := loop
  rw [hsv] at g1
  generalize sListF b = res at *
  obtain ⟨L, ok, at_⟩ := res
  simp only at g2 hml u1 hmk hlo ⊢
  generalize ofRuns L = mr at *
  obtain ⟨m, fine⟩ := mr
  simp only at g2 hml hmk ⊢
  simp only [Int.ofNat_zero] at g1
  unfold runRO
  cases ok with
  | false =>
    simp (maxSteps := 4000000) -implicitDefEqProofs [tab52, a52, x_seq, x_cond, x_block, x_region, x_skip, x_exit, x_ret, head_id, runG, runOps, doOp, wantB, stepOp, AO.eff, pureOp, St.get, St.one, St.num, St.put, St.optNum, binA, binInt, List.take, List.drop, effOp2, effOp, memL_app, stoRow, cellsAt, toCells, toCell, scalar_int, scalar_bool, scalar_str, scalar_sl, updAt, fromRo, upd, srcCells, A1.slB, flat_int, cl_flat', St.parts, Eng.inB, reps, fillA, newRowSt, appSt, oldOf, rest, kill, mapMem, SV.map, Ob.map, callRO, addMem_nil, roArgs, roL, roA, srcCells, A1.ownB, addMem, shift, ren, SV.map, Ob.map, Ob.noRo, SV.noRo, A1.noRo, List.range, List.range.loop, g1]
    rw [hlo _ (by change _ = _; kernel_rfl)]
    cases fine <;> simp (maxSteps := 4000000) -implicitDefEqProofs [Z_sBitsOf, x_seq, x_cond, x_block, x_region, x_skip, x_exit, x_ret, head_id, runG, runOps, doOp, wantB, stepOp, AO.eff, pureOp, St.get, St.one, St.num, St.put, St.optNum, binA, binInt, List.take, List.drop, gOp, gOp0, gOpL, gResL, updO, gRes, gEff, addObs_nil, addObs_one, freshB_memL, freshB_none, freshB_upd, freshB_addMem, freshB_addObs, effOp2, effOp, memL_app, stoRow, cellsAt, toCells, toCell, scalar_int, scalar_bool, scalar_str, scalar_sl, updAt, fromRo, upd, srcCells, A1.slB, flat_int, cl_flat', St.parts, Eng.inB, reps, fillA, newRowSt, appSt, oldOf, rest, kill, mapMem, SV.map, Ob.map, callRO, addMem_nil, roArgs, roL, roA, srcCells, A1.ownB, addMem, shift, ren, SV.map, Ob.map, Ob.noRo, SV.noRo, A1.noRo, List.range, List.range.loop, resOf, resSV, SV.map, SV.ids, A1.ids, reach, allObs, ren, pos, Ob.map, St.canon, memL, List.range, List.range.loop, cellsAt, memL_app, g2, u1, cl_length]
  | true =>
    cases fine with
    | false =>
      simp (maxSteps := 4000000) -implicitDefEqProofs [tab52, a52, x_seq, x_cond, x_block, x_region, x_skip, x_exit, x_ret, head_id, runG, runOps, doOp, wantB, stepOp, AO.eff, pureOp, St.get, St.one, St.num, St.put, St.optNum, binA, binInt, List.take, List.drop, effOp2, effOp, memL_app, stoRow, cellsAt, toCells, toCell, scalar_int, scalar_bool, scalar_str, scalar_sl, updAt, fromRo, upd, srcCells, A1.slB, flat_int, cl_flat', St.parts, Eng.inB, reps, fillA, newRowSt, appSt, oldOf, rest, kill, mapMem, SV.map, Ob.map, callRO, addMem_nil, roArgs, roL, roA, srcCells, A1.ownB, addMem, shift, ren, SV.map, Ob.map, Ob.noRo, SV.noRo, A1.noRo, List.range, List.range.loop, g1]
      rw [hlo _ (by change _ = _; kernel_rfl)]
      simp (maxSteps := 4000000) -implicitDefEqProofs [Z_sBitsOf, x_seq, x_cond, x_block, x_region, x_skip, x_exit, x_ret, head_id, runG, runOps, doOp, wantB, stepOp, AO.eff, pureOp, St.get, St.one, St.num, St.put, St.optNum, binA, binInt, List.take, List.drop, gOp, gOp0, gOpL, gResL, updO, gRes, gEff, addObs_nil, addObs_one, freshB_memL, freshB_none, freshB_upd, freshB_addMem, freshB_addObs, effOp2, effOp, memL_app, stoRow, cellsAt, toCells, toCell, scalar_int, scalar_bool, scalar_str, scalar_sl, updAt, fromRo, upd, srcCells, A1.slB, flat_int, cl_flat', St.parts, Eng.inB, reps, fillA, newRowSt, appSt, oldOf, rest, kill, mapMem, SV.map, Ob.map, callRO, addMem_nil, roArgs, roL, roA, srcCells, A1.ownB, addMem, shift, ren, SV.map, Ob.map, Ob.noRo, SV.noRo, A1.noRo, List.range, List.range.loop, resOf, resSV, SV.map, SV.ids, A1.ids, reach, allObs, ren, pos, Ob.map, St.canon, memL, List.range, List.range.loop, cellsAt, memL_app, g2, u1, cl_length]
    | true =>
      have g3 := r_sBitsBytes m (by omega) (hmk rfl)
      have u2 : (cl .i64 m).take m.length = cl .i64 m := cl_self
      have u3 : (cl .u8 (bitsB m)).take (bitsB m).length = cl .u8 (bitsB m) := cl_self
      generalize bitsB m = z at g3 u3 ⊢
      cases hq : eqB z b <;>
      · have hq' := hq
        unfold eqB at hq'
        simp (maxSteps := 4000000) -implicitDefEqProofs [tab52, a52, x_seq, x_cond, x_block, x_region, x_skip, x_exit, x_ret, head_id, runG, runOps, doOp, wantB, stepOp, AO.eff, pureOp, St.get, St.one, St.num, St.put, St.optNum, binA, binInt, List.take, List.drop, effOp2, effOp, memL_app, stoRow, cellsAt, toCells, toCell, scalar_int, scalar_bool, scalar_str, scalar_sl, updAt, fromRo, upd, srcCells, A1.slB, flat_int, cl_flat', St.parts, Eng.inB, reps, fillA, newRowSt, appSt, oldOf, rest, kill, mapMem, SV.map, Ob.map, callRO, addMem_nil, roArgs, roL, roA, srcCells, A1.ownB, addMem, shift, ren, SV.map, Ob.map, Ob.noRo, SV.noRo, A1.noRo, List.range, List.range.loop, g1]
        rw [hlo _ (by change _ = _; kernel_rfl)]
        simp (maxSteps := 4000000) -implicitDefEqProofs [Z_sBitsOf, x_seq, x_cond, x_block, x_region, x_skip, x_exit, x_ret, head_id, runG, runOps, doOp, wantB, stepOp, AO.eff, pureOp, St.get, St.one, St.num, St.put, St.optNum, binA, binInt, List.take, List.drop, gOp, gOp0, gOpL, gResL, updO, gRes, gEff, addObs_nil, addObs_one, freshB_memL, freshB_none, freshB_upd, freshB_addMem, freshB_addObs, effOp2, effOp, memL_app, stoRow, cellsAt, toCells, toCell, scalar_int, scalar_bool, scalar_str, scalar_sl, updAt, fromRo, upd, srcCells, A1.slB, flat_int, cl_flat', St.parts, Eng.inB, reps, fillA, newRowSt, appSt, oldOf, rest, kill, mapMem, SV.map, Ob.map, callRO, addMem_nil, roArgs, roL, roA, srcCells, A1.ownB, addMem, shift, ren, SV.map, Ob.map, Ob.noRo, SV.noRo, A1.noRo, List.range, List.range.loop, resOf, resSV, SV.map, SV.ids, A1.ids, reach, allObs, ren, pos, Ob.map, St.canon, memL, List.range, List.range.loop, cellsAt, memL_app, binStr, g2, g3, u1, u2, u3, v1, cl_nums, cl_length, hq']
end Go.Proofs.Ytdagbeihjobmjaa.Eng.B
