/- A turn read from bytes, as the program and the reference read it; the law. -/
import Derived.Test.YtdagbeihjobmjaaBTurn
namespace Go.Proofs.Ytdagbeihjobmjaa.Eng.B
set_option linter.unusedSimpArgs false
set_option linter.unusedVariables false
set_option maxHeartbeats 16000000
set_option maxRecDepth 100000
open Go.RowKit Go.Proofs

/-- Are two rows of bytes the same? -/
def eqB (l m : List Int) : Bool := (strOfNums l).toList == (strOfNums m).toList
theorem r_BytesEqual (l m : List Int) : runRO (X tab) tab 116 [.v false [.ro l.length (cl .u8 l)], .v false [.ro m.length (cl .u8 m)]] = some (.v false [.bool (eqB l m)], []) := by
  unfold runRO
  simp (maxSteps := 4000000) -implicitDefEqProofs [tab116, a116, x_seq, x_cond, x_block, x_region, x_skip, x_exit, x_ret, head_id, runG, runOps, doOp, wantB, stepOp, AO.eff, pureOp, St.get, St.one, St.num, St.put, St.optNum, binA, binInt, List.take, List.drop, callRO, addMem_nil, roArgs, roL, roA, srcCells, A1.ownB, addMem, shift, ren, SV.map, Ob.map, Ob.noRo, SV.noRo, A1.noRo, List.range, List.range.loop, resOf, resSV, SV.map, SV.ids, A1.ids, reach, allObs, ren, pos, Ob.map, St.canon, memL, List.range, List.range.loop, binStr, cl_self, cl_length, cl_nums, eqB]
def hasPre (l m : List Int) : Bool := decide (m.length ≤ l.length) && eqB (l.take m.length) m
theorem r_HasPrefix (l m : List Int) : runRO (X tab) tab 110 [.v false [.ro l.length (cl .u8 l)], .v false [.ro m.length (cl .u8 m)]] = some (.v false [.bool (hasPre l m)], []) := by
  unfold runRO hasPre
  by_cases h : m.length ≤ l.length
  · have h1 : (m.length : Int) ≤ (l.length : Int) := by omega
    have h2 := r_BytesEqual (l.take m.length) m
    rw [List.length_take, Nat.min_eq_left h, ← cl_take] at h2
    simp (maxSteps := 4000000) -implicitDefEqProofs [tab110, a110, x_seq, x_cond, x_block, x_region, x_skip, x_exit, x_ret, head_id, runG, runOps, doOp, wantB, stepOp, AO.eff, pureOp, St.get, St.one, St.num, St.put, St.optNum, binA, binInt, List.take, List.drop, callRO, addMem_nil, roArgs, roL, roA, srcCells, A1.ownB, addMem, shift, ren, SV.map, Ob.map, Ob.noRo, SV.noRo, A1.noRo, List.range, List.range.loop, resOf, resSV, SV.map, SV.ids, A1.ids, reach, allObs, ren, pos, Ob.map, St.canon, memL, List.range, List.range.loop, cutB, h, h1, h2]
  · have h1 : ¬ (m.length : Int) ≤ (l.length : Int) := by omega
    simp (maxSteps := 4000000) -implicitDefEqProofs [tab110, a110, x_seq, x_cond, x_block, x_region, x_skip, x_exit, x_ret, head_id, runG, runOps, doOp, wantB, stepOp, AO.eff, pureOp, St.get, St.one, St.num, St.put, St.optNum, binA, binInt, List.take, List.drop, callRO, addMem_nil, roArgs, roL, roA, srcCells, A1.ownB, addMem, shift, ren, SV.map, Ob.map, Ob.noRo, SV.noRo, A1.noRo, List.range, List.range.loop, resOf, resSV, SV.map, SV.ids, A1.ids, reach, allObs, ren, pos, Ob.map, St.canon, memL, List.range, List.range.loop, h, h1]
theorem t_num_no (t : Nat) (ax : A1) (i : Int) (sl : List SV) (m : Mem) (up : List SV) (nx : Nat) (hm : m t = some (.box [ax, .int .i64 i, .bool false])) :
    runThru (X tab) tab 109 [.v false [.pr t [] 0]] ⟨⟨sl, m, up⟩, nx⟩ = some (.v false [.int .i64 0], ⟨⟨sl, m, up⟩, nx + 448⟩) := by
  unfold runThru
  simp (maxSteps := 4000000) -implicitDefEqProofs [tab109, a109, x_seq, x_cond, x_block, x_region, x_skip, x_exit, x_ret, head_id, runG, runOps, doOp, wantB, stepOp, AO.eff, pureOp, St.get, St.one, St.num, St.put, St.optNum, binA, binInt, List.take, List.drop, hm, resOf, resSV]
theorem t_num (t : Nat) (b : List Int) (hB : Bytes b) (hn : b.length ≤ 1048576) (i : Int) (hi : i ≤ 9223372036854775807) (sl : List SV) (m : Mem) (up : List SV) (nx : Nat) (hm : m t = some (.box [.ro b.length (cl .u8 b), .int .i64 i, .bool true]))
    (hf : ∀ j, freshB m (nx + j) = true) :
    runThru (X tab) tab 109 [.v false [.pr t [] 0]] ⟨⟨sl, m, up⟩, nx⟩ = (match getNum b i with
      | some (n, j) => some (.v false [.int .i64 n], ⟨⟨sl, upd m t (some (.box [.ro b.length (cl .u8 b), .int .i64 j, .bool true])), up⟩, nx + 2176⟩)
      | none => some (.v false [.int .i64 0], ⟨⟨sl, upd m t (some (.box [.ro b.length (cl .u8 b), .int .i64 0, .bool false])), up⟩, nx + 2176⟩)) := by
  have hg := r_GetNum b hB hn i hi
  unfold runThru
  cases h : getNum b i with
  | none =>
    rw [h] at hg
    simp only [getSV] at hg
    simp (maxSteps := 4000000) -implicitDefEqProofs [tab109, a109, x_seq, x_cond, x_block, x_region, x_skip, x_exit, x_ret, head_id, runG, runOps, doOp, wantB, stepOp, AO.eff, pureOp, St.get, St.one, St.num, St.put, St.optNum, binA, binInt, List.take, List.drop, gOp, gOp0, gOpL, gResL, updO, gRes, gEff, addObs_nil, addObs_one, freshB_memL, freshB_none, freshB_upd, freshB_addMem, freshB_addObs, effOp2, effOp, memL_app, stoRow, cellsAt, toCells, toCell, scalar_int, scalar_bool, scalar_str, scalar_sl, updAt, fromRo, upd, callRO, addMem_nil, roArgs, roL, roA, srcCells, A1.ownB, addMem, shift, ren, SV.map, Ob.map, Ob.noRo, SV.noRo, A1.noRo, List.range, List.range.loop, hm, hf, hg, spl, upd_upd, Nat.add_assoc, resOf, resSV]
  | some p =>
    obtain ⟨n, j⟩ := p
    rw [h] at hg
    simp only [getSV] at hg
    simp (maxSteps := 4000000) -implicitDefEqProofs [tab109, a109, x_seq, x_cond, x_block, x_region, x_skip, x_exit, x_ret, head_id, runG, runOps, doOp, wantB, stepOp, AO.eff, pureOp, St.get, St.one, St.num, St.put, St.optNum, binA, binInt, List.take, List.drop, gOp, gOp0, gOpL, gResL, updO, gRes, gEff, addObs_nil, addObs_one, freshB_memL, freshB_none, freshB_upd, freshB_addMem, freshB_addObs, effOp2, effOp, memL_app, stoRow, cellsAt, toCells, toCell, scalar_int, scalar_bool, scalar_str, scalar_sl, updAt, fromRo, upd, callRO, addMem_nil, roArgs, roL, roA, srcCells, A1.ownB, addMem, shift, ren, SV.map, Ob.map, Ob.noRo, SV.noRo, A1.noRo, List.range, List.range.loop, hm, hf, hg, spl, upd_upd, Nat.add_assoc, resOf, resSV]
theorem getF_bound : ∀ (l : List Int) (i n : Nat) {q j : Nat}, getF i n l = some (q, j) → i < j ∧ j ≤ i + l.length ∧ q ≤ 2147483647 := by
  intro l
  induction l with
  | nil => intro i n q j h; cases h
  | cons x r ih =>
    intro i n q j h
    simp only [getF] at h
    split at h
    · split at h
      · split at h
        · cases h
        · rename_i hh
          simp only [Option.some.injEq, Prod.mk.injEq] at h
          simp only [List.length_cons]
          omega
      · have := ih _ _ h
        simp only [List.length_cons]
        omega
    · cases h
theorem getNum_bound {b : List Int} {i : Int} {n j : Nat} (h : getNum b i = some (n, j)) : 0 ≤ i ∧ i < b.length ∧ j ≤ b.length ∧ n ≤ 2147483647 ∧ i < j := by
  unfold getNum at h
  split at h
  · cases h
  · obtain ⟨⟨q, k⟩, h1, h2⟩ := Option.map_eq_some_iff.1 h
    simp only [Prod.mk.injEq] at h2
    have := getF_bound _ _ _ h1
    simp at this
    omega
theorem t_numX (t : Nat) (b : List Int) (hB : Bytes b) (hn : b.length ≤ 1048576) (i : Int) (hi : i ≤ 9223372036854775807) (sl : List SV) (up : List SV) (nx : Nat) (h : t < nx) :
    runThru (X tab) tab 109 [.v false [.pr t [] 0]] ⟨⟨sl, upd (fun _ => none) t (some (.box [.ro b.length (cl .u8 b), .int .i64 i, .bool true])), up⟩, nx⟩ = (match getNum b i with
      | some (n, j) => some (.v false [.int .i64 n], ⟨⟨sl, upd (fun _ => none) t (some (.box [.ro b.length (cl .u8 b), .int .i64 j, .bool true])), up⟩, nx + 2176⟩)
      | none => some (.v false [.int .i64 0], ⟨⟨sl, upd (fun _ => none) t (some (.box [.ro b.length (cl .u8 b), .int .i64 0, .bool false])), up⟩, nx + 2176⟩)) := by
  have hm : upd (fun _ => none) t (some (.box [.ro b.length (cl .u8 b), .int .i64 i, .bool true])) t = some (.box [.ro b.length (cl .u8 b), .int .i64 i, .bool true]) := by simp [upd]
  rw [t_num t b hB hn i hi sl _ up nx hm (fun j => by rw [freshB_upd (.inl (by omega)), freshB_none])]
  cases getNum b i with
  | none => simp only [upd_upd]
  | some p => simp only [upd_upd]
theorem t_numX_no (t : Nat) (ax : A1) (i : Int) (sl up : List SV) (nx : Nat) :
    runThru (X tab) tab 109 [.v false [.pr t [] 0]] ⟨⟨sl, upd (fun _ => none) t (some (.box [ax, .int .i64 i, .bool false])), up⟩, nx⟩ = some (.v false [.int .i64 0], ⟨⟨sl, upd (fun _ => none) t (some (.box [ax, .int .i64 i, .bool false])), up⟩, nx + 448⟩) :=
  t_num_no t ax i sl _ up nx (by simp [upd])
/-- What a turn is read as. -/
def turnOf (b : List Int) (i : Int) : Option (Nat × Nat × Nat × List Int) :=
  match getNum b i with
  | none => none
  | some (n, k) => match getNum b k with
    | none => none
    | some (a, j) => match getNum b j with
      | none => none
      | some (c, _) => if (turnOk a (c - 1) n && hasPre (b.drop i.toNat) (turnB a (c - 1) n)) = true then some (n, a, c, turnB a (c - 1) n) else none
def turnSV (i : Int) : Option (Nat × Nat × Nat × List Int) → SV
  | none => .tup [(false, [.int .i64 0]), (false, [.int .i64 0]), (false, [.int .i64 0]), (false, [.int .i64 0]), (false, [.bool false])]
  | some (n, a, c, T) => .tup [(false, [.int .i64 a]), (false, [.int .i64 ((c : Int) - 1)]), (false, [.int .i64 n]), (false, [.int .i64 (i + T.length)]), (false, [.bool true])]
theorem r_TurnOf (b : List Int) (hB : Bytes b) (hn : b.length ≤ 1048576) (i : Int) (hi : i ≤ 9223372036854775807) : runRO (X tab) tab 39 [.v false [.ro b.length (cl .u8 b)], .v false [.int .i64 i]] = some (turnSV i (turnOf b i), []) := by
  have t1 := fun t sl up nx h => t_numX t b hB hn i hi sl up nx h
  have w1 : IntKind.i64.wrap (-1) = -1 := wrap_id (by omega) (by omega)
  unfold runRO
  cases g1 : getNum b i with
  | none =>
    simp only [g1] at t1
    have tb := r_TurnBytes_bad 0 (-1) 0 (by decide)
    rw [show turnOf b i = none by simp [turnOf, g1]]
    simp (maxSteps := 4000000) -implicitDefEqProofs [tab39, a39, x_seq, x_cond, x_block, x_region, x_skip, x_exit, x_ret, head_id, runG, runOps, doOp, wantB, stepOp, AO.eff, pureOp, St.get, St.one, St.num, St.put, St.optNum, binA, binInt, List.take, List.drop, effOp2, effOp, memL_app, stoRow, cellsAt, toCells, toCell, scalar_int, scalar_bool, scalar_str, scalar_sl, updAt, fromRo, upd, srcCells, A1.slB, flat_int, cl_flat', St.parts, Eng.inB, reps, fillA, newRowSt, appSt, oldOf, rest, kill, mapMem, SV.map, Ob.map, callRO, addMem_nil, roArgs, roL, roA, srcCells, A1.ownB, addMem, shift, ren, SV.map, Ob.map, Ob.noRo, SV.noRo, A1.noRo, List.range, List.range.loop, resOf, resSV, SV.map, SV.ids, A1.ids, reach, allObs, ren, pos, Ob.map, St.canon, memL, List.range, List.range.loop, getAll, t1, t_numX_no, w1, tb, turnSV]
  | some p =>
    obtain ⟨n, k⟩ := p
    obtain ⟨_, _, hk, _, _⟩ := getNum_bound g1
    simp only [g1] at t1
    have t2 := fun t sl up nx h => t_numX t b hB hn k (by omega) sl up nx h
    cases g2 : getNum b k with
    | none =>
      simp only [g2] at t2
      rw [show turnOf b i = none by simp [turnOf, g1, g2]]
      cases hok : turnOk 0 (-1) n with
      | false =>
        have tb := r_TurnBytes_bad 0 (-1) n hok
        simp (maxSteps := 4000000) -implicitDefEqProofs [tab39, a39, x_seq, x_cond, x_block, x_region, x_skip, x_exit, x_ret, head_id, runG, runOps, doOp, wantB, stepOp, AO.eff, pureOp, St.get, St.one, St.num, St.put, St.optNum, binA, binInt, List.take, List.drop, effOp2, effOp, memL_app, stoRow, cellsAt, toCells, toCell, scalar_int, scalar_bool, scalar_str, scalar_sl, updAt, fromRo, upd, srcCells, A1.slB, flat_int, cl_flat', St.parts, Eng.inB, reps, fillA, newRowSt, appSt, oldOf, rest, kill, mapMem, SV.map, Ob.map, callRO, addMem_nil, roArgs, roL, roA, srcCells, A1.ownB, addMem, shift, ren, SV.map, Ob.map, Ob.noRo, SV.noRo, A1.noRo, List.range, List.range.loop, resOf, resSV, SV.map, SV.ids, A1.ids, reach, allObs, ren, pos, Ob.map, St.canon, memL, List.range, List.range.loop, getAll, t1, t2, t_numX_no, w1, tb, turnSV]
      | true =>
        have tb := r_TurnBytes 0 (-1) n hok
        simp (maxSteps := 4000000) -implicitDefEqProofs [tab39, a39, x_seq, x_cond, x_block, x_region, x_skip, x_exit, x_ret, head_id, runG, runOps, doOp, wantB, stepOp, AO.eff, pureOp, St.get, St.one, St.num, St.put, St.optNum, binA, binInt, List.take, List.drop, effOp2, effOp, memL_app, stoRow, cellsAt, toCells, toCell, scalar_int, scalar_bool, scalar_str, scalar_sl, updAt, fromRo, upd, srcCells, A1.slB, flat_int, cl_flat', St.parts, Eng.inB, reps, fillA, newRowSt, appSt, oldOf, rest, kill, mapMem, SV.map, Ob.map, callRO, addMem_nil, roArgs, roL, roA, srcCells, A1.ownB, addMem, shift, ren, SV.map, Ob.map, Ob.noRo, SV.noRo, A1.noRo, List.range, List.range.loop, resOf, resSV, SV.map, SV.ids, A1.ids, reach, allObs, ren, pos, Ob.map, St.canon, memL, List.range, List.range.loop, getAll, t1, t2, t_numX_no, w1, tb, turnSV]
    | some p =>
      obtain ⟨a, j⟩ := p
      obtain ⟨_, _, hj, _, _⟩ := getNum_bound g2
      simp only [g2] at t2
      have t3 := fun t sl up nx h => t_numX t b hB hn j (by omega) sl up nx h
      cases g3 : getNum b j with
      | none =>
        simp only [g3] at t3
        rw [show turnOf b i = none by simp [turnOf, g1, g2, g3]]
        cases hok : turnOk a (-1) n with
        | false =>
          have tb := r_TurnBytes_bad a (-1) n hok
          simp (maxSteps := 4000000) -implicitDefEqProofs [tab39, a39, x_seq, x_cond, x_block, x_region, x_skip, x_exit, x_ret, head_id, runG, runOps, doOp, wantB, stepOp, AO.eff, pureOp, St.get, St.one, St.num, St.put, St.optNum, binA, binInt, List.take, List.drop, effOp2, effOp, memL_app, stoRow, cellsAt, toCells, toCell, scalar_int, scalar_bool, scalar_str, scalar_sl, updAt, fromRo, upd, srcCells, A1.slB, flat_int, cl_flat', St.parts, Eng.inB, reps, fillA, newRowSt, appSt, oldOf, rest, kill, mapMem, SV.map, Ob.map, callRO, addMem_nil, roArgs, roL, roA, srcCells, A1.ownB, addMem, shift, ren, SV.map, Ob.map, Ob.noRo, SV.noRo, A1.noRo, List.range, List.range.loop, resOf, resSV, SV.map, SV.ids, A1.ids, reach, allObs, ren, pos, Ob.map, St.canon, memL, List.range, List.range.loop, getAll, t1, t2, t3, t_numX_no, w1, tb, turnSV]
        | true =>
          have tb := r_TurnBytes a (-1) n hok
          simp (maxSteps := 4000000) -implicitDefEqProofs [tab39, a39, x_seq, x_cond, x_block, x_region, x_skip, x_exit, x_ret, head_id, runG, runOps, doOp, wantB, stepOp, AO.eff, pureOp, St.get, St.one, St.num, St.put, St.optNum, binA, binInt, List.take, List.drop, effOp2, effOp, memL_app, stoRow, cellsAt, toCells, toCell, scalar_int, scalar_bool, scalar_str, scalar_sl, updAt, fromRo, upd, srcCells, A1.slB, flat_int, cl_flat', St.parts, Eng.inB, reps, fillA, newRowSt, appSt, oldOf, rest, kill, mapMem, SV.map, Ob.map, callRO, addMem_nil, roArgs, roL, roA, srcCells, A1.ownB, addMem, shift, ren, SV.map, Ob.map, Ob.noRo, SV.noRo, A1.noRo, List.range, List.range.loop, resOf, resSV, SV.map, SV.ids, A1.ids, reach, allObs, ren, pos, Ob.map, St.canon, memL, List.range, List.range.loop, getAll, t1, t2, t3, t_numX_no, w1, tb, turnSV]
      | some p =>
        obtain ⟨c, e⟩ := p
        obtain ⟨_, _, _, hc, _⟩ := getNum_bound g3
        simp only [g3] at t3
        have w2 : IntKind.i64.wrap ((c : Int) - 1) = (c : Int) - 1 := wrap_id (by omega) (by omega)
        cases hok : turnOk a ((c : Int) - 1) n with
        | false =>
          have tb := r_TurnBytes_bad a ((c : Int) - 1) n hok
          rw [show turnOf b i = none by simp [turnOf, g1, g2, g3, hok]]
          simp (maxSteps := 4000000) -implicitDefEqProofs [tab39, a39, x_seq, x_cond, x_block, x_region, x_skip, x_exit, x_ret, head_id, runG, runOps, doOp, wantB, stepOp, AO.eff, pureOp, St.get, St.one, St.num, St.put, St.optNum, binA, binInt, List.take, List.drop, effOp2, effOp, memL_app, stoRow, cellsAt, toCells, toCell, scalar_int, scalar_bool, scalar_str, scalar_sl, updAt, fromRo, upd, srcCells, A1.slB, flat_int, cl_flat', St.parts, Eng.inB, reps, fillA, newRowSt, appSt, oldOf, rest, kill, mapMem, SV.map, Ob.map, callRO, addMem_nil, roArgs, roL, roA, srcCells, A1.ownB, addMem, shift, ren, SV.map, Ob.map, Ob.noRo, SV.noRo, A1.noRo, List.range, List.range.loop, resOf, resSV, SV.map, SV.ids, A1.ids, reach, allObs, ren, pos, Ob.map, St.canon, memL, List.range, List.range.loop, getAll, t1, t2, t3, w2, tb, turnSV]
        | true =>
          have tb := r_TurnBytes a ((c : Int) - 1) n hok
          have hT := turnB_length hok
          have hT0 : (((turnB a ((c : Int) - 1) n).length : Int) == 0) = false := by rw [beq_eq_false_iff_ne]; simp [turnB, fourN]; omega
          have hp := r_HasPrefix (b.drop i.toNat) (turnB a ((c : Int) - 1) n)
          have eT : turnOf b i = if hasPre (b.drop i.toNat) (turnB a ((c : Int) - 1) n) = true then some (n, a, c, turnB a ((c : Int) - 1) n) else none := by simp [turnOf, g1, g2, g3, hok]
          rw [eT]
          generalize turnB a ((c : Int) - 1) n = T at *
          rw [List.length_drop, ← cl_drop] at hp
          have c1 : 0 ≤ i ∧ i ≤ (b.length : Int) := by omega
          have c2 : (List.drop i.toNat (cl .u8 b)).take (b.length - i.toNat) = List.drop i.toNat (cl .u8 b) := by rw [List.take_of_length_le]; simp [cl_length]
          have w3 : IntKind.i64.wrap (i + (T.length : Int)) = i + (T.length : Int) := wrap_id (by omega) (by omega)
          cases hh : hasPre (b.drop i.toNat) T with
          | false =>
            rw [hh] at hp
            simp only [Bool.false_eq_true, if_false, if_true]
            simp (maxSteps := 4000000) -implicitDefEqProofs [tab39, a39, x_seq, x_cond, x_block, x_region, x_skip, x_exit, x_ret, head_id, runG, runOps, doOp, wantB, stepOp, AO.eff, pureOp, St.get, St.one, St.num, St.put, St.optNum, binA, binInt, List.take, List.drop, effOp2, effOp, memL_app, stoRow, cellsAt, toCells, toCell, scalar_int, scalar_bool, scalar_str, scalar_sl, updAt, fromRo, upd, srcCells, A1.slB, flat_int, cl_flat', St.parts, Eng.inB, reps, fillA, newRowSt, appSt, oldOf, rest, kill, mapMem, SV.map, Ob.map, callRO, addMem_nil, roArgs, roL, roA, srcCells, A1.ownB, addMem, shift, ren, SV.map, Ob.map, Ob.noRo, SV.noRo, A1.noRo, List.range, List.range.loop, resOf, resSV, SV.map, SV.ids, A1.ids, reach, allObs, ren, pos, Ob.map, St.canon, memL, List.range, List.range.loop, cutB, getAll, t1, t2, t3, w2, w3, c1, c2, tb, hp, hT0, cl_self, cl_length, turnSV]
          | true =>
            rw [hh] at hp
            simp only [Bool.false_eq_true, if_false, if_true]
            simp (maxSteps := 4000000) -implicitDefEqProofs [tab39, a39, x_seq, x_cond, x_block, x_region, x_skip, x_exit, x_ret, head_id, runG, runOps, doOp, wantB, stepOp, AO.eff, pureOp, St.get, St.one, St.num, St.put, St.optNum, binA, binInt, List.take, List.drop, effOp2, effOp, memL_app, stoRow, cellsAt, toCells, toCell, scalar_int, scalar_bool, scalar_str, scalar_sl, updAt, fromRo, upd, srcCells, A1.slB, flat_int, cl_flat', St.parts, Eng.inB, reps, fillA, newRowSt, appSt, oldOf, rest, kill, mapMem, SV.map, Ob.map, callRO, addMem_nil, roArgs, roL, roA, srcCells, A1.ownB, addMem, shift, ren, SV.map, Ob.map, Ob.noRo, SV.noRo, A1.noRo, List.range, List.range.loop, resOf, resSV, SV.map, SV.ids, A1.ids, reach, allObs, ren, pos, Ob.map, St.canon, memL, List.range, List.range.loop, cutB, getAll, t1, t2, t3, w2, w3, c1, c2, tb, hp, hT0, cl_self, cl_length, turnSV]
theorem r_sTurnOf (b : List Int) (hB : Bytes b) (hn : b.length ≤ 1048576) (i : Int) (hi : i ≤ 9223372036854775807) : runRO (X tab) tab 40 [.v false [.ro b.length (cl .u8 b)], .v false [.int .i64 i]] = some (turnSV i (turnOf b i), []) := by
  have t1 := r_sGetNum b hB hn i hi
  have t0 := r_sGetNum b hB hn 0 (by omega)
  unfold runRO
  cases g1 : getNum b i with
  | none =>
    rw [show turnOf b i = none by simp [turnOf, g1]]
    rw [g1] at t1
    simp only [getSV] at t1
    cases g0 : getNum b 0 with
    | none =>
      rw [g0] at t0
      simp only [getSV] at t0
      simp (maxSteps := 4000000) -implicitDefEqProofs [tab40, a40, x_seq, x_cond, x_block, x_region, x_skip, x_exit, x_ret, head_id, runG, runOps, doOp, wantB, stepOp, AO.eff, pureOp, St.get, St.one, St.num, St.put, St.optNum, binA, binInt, List.take, List.drop, callRO, addMem_nil, roArgs, roL, roA, srcCells, A1.ownB, addMem, shift, ren, SV.map, Ob.map, Ob.noRo, SV.noRo, A1.noRo, List.range, List.range.loop, resOf, resSV, SV.map, SV.ids, A1.ids, reach, allObs, ren, pos, Ob.map, St.canon, memL, List.range, List.range.loop, t1, t0, turnSV]
    | some p =>
      obtain ⟨n, k⟩ := p
      rw [g0] at t0
      simp only [getSV] at t0
      obtain ⟨_, _, hk, _, _⟩ := getNum_bound g0
      have t2 := r_sGetNum b hB hn k (by omega)
      cases g2 : getNum b k with
      | none =>
        rw [g2] at t2
        simp only [getSV] at t2
        simp (maxSteps := 4000000) -implicitDefEqProofs [tab40, a40, x_seq, x_cond, x_block, x_region, x_skip, x_exit, x_ret, head_id, runG, runOps, doOp, wantB, stepOp, AO.eff, pureOp, St.get, St.one, St.num, St.put, St.optNum, binA, binInt, List.take, List.drop, callRO, addMem_nil, roArgs, roL, roA, srcCells, A1.ownB, addMem, shift, ren, SV.map, Ob.map, Ob.noRo, SV.noRo, A1.noRo, List.range, List.range.loop, resOf, resSV, SV.map, SV.ids, A1.ids, reach, allObs, ren, pos, Ob.map, St.canon, memL, List.range, List.range.loop, t1, t0, t2, turnSV]
      | some p =>
        obtain ⟨a, j⟩ := p
        rw [g2] at t2
        simp only [getSV] at t2
        simp (maxSteps := 4000000) -implicitDefEqProofs [tab40, a40, x_seq, x_cond, x_block, x_region, x_skip, x_exit, x_ret, head_id, runG, runOps, doOp, wantB, stepOp, AO.eff, pureOp, St.get, St.one, St.num, St.put, St.optNum, binA, binInt, List.take, List.drop, callRO, addMem_nil, roArgs, roL, roA, srcCells, A1.ownB, addMem, shift, ren, SV.map, Ob.map, Ob.noRo, SV.noRo, A1.noRo, List.range, List.range.loop, resOf, resSV, SV.map, SV.ids, A1.ids, reach, allObs, ren, pos, Ob.map, St.canon, memL, List.range, List.range.loop, t1, t0, t2, turnSV]
  | some p =>
    obtain ⟨n, k⟩ := p
    obtain ⟨_, _, hk, _, _⟩ := getNum_bound g1
    rw [g1] at t1
    simp only [getSV] at t1
    have t2 := r_sGetNum b hB hn k (by omega)
    cases g2 : getNum b k with
    | none =>
      rw [show turnOf b i = none by simp [turnOf, g1, g2]]
      rw [g2] at t2
      simp only [getSV] at t2
      cases g0 : getNum b 0 with
      | none =>
        rw [g0] at t0
        simp only [getSV] at t0
        simp (maxSteps := 4000000) -implicitDefEqProofs [tab40, a40, x_seq, x_cond, x_block, x_region, x_skip, x_exit, x_ret, head_id, runG, runOps, doOp, wantB, stepOp, AO.eff, pureOp, St.get, St.one, St.num, St.put, St.optNum, binA, binInt, List.take, List.drop, callRO, addMem_nil, roArgs, roL, roA, srcCells, A1.ownB, addMem, shift, ren, SV.map, Ob.map, Ob.noRo, SV.noRo, A1.noRo, List.range, List.range.loop, resOf, resSV, SV.map, SV.ids, A1.ids, reach, allObs, ren, pos, Ob.map, St.canon, memL, List.range, List.range.loop, t1, t0, t2, turnSV]
      | some p =>
        obtain ⟨n', k'⟩ := p
        rw [g0] at t0
        simp only [getSV] at t0
        simp (maxSteps := 4000000) -implicitDefEqProofs [tab40, a40, x_seq, x_cond, x_block, x_region, x_skip, x_exit, x_ret, head_id, runG, runOps, doOp, wantB, stepOp, AO.eff, pureOp, St.get, St.one, St.num, St.put, St.optNum, binA, binInt, List.take, List.drop, callRO, addMem_nil, roArgs, roL, roA, srcCells, A1.ownB, addMem, shift, ren, SV.map, Ob.map, Ob.noRo, SV.noRo, A1.noRo, List.range, List.range.loop, resOf, resSV, SV.map, SV.ids, A1.ids, reach, allObs, ren, pos, Ob.map, St.canon, memL, List.range, List.range.loop, t1, t0, t2, turnSV]
    | some p =>
      obtain ⟨a, j⟩ := p
      obtain ⟨_, _, hj, _, _⟩ := getNum_bound g2
      rw [g2] at t2
      simp only [getSV] at t2
      have t3 := r_sGetNum b hB hn j (by omega)
      cases g3 : getNum b j with
      | none =>
        rw [show turnOf b i = none by simp [turnOf, g1, g2, g3]]
        rw [g3] at t3
        simp only [getSV] at t3
        simp (maxSteps := 4000000) -implicitDefEqProofs [tab40, a40, x_seq, x_cond, x_block, x_region, x_skip, x_exit, x_ret, head_id, runG, runOps, doOp, wantB, stepOp, AO.eff, pureOp, St.get, St.one, St.num, St.put, St.optNum, binA, binInt, List.take, List.drop, callRO, addMem_nil, roArgs, roL, roA, srcCells, A1.ownB, addMem, shift, ren, SV.map, Ob.map, Ob.noRo, SV.noRo, A1.noRo, List.range, List.range.loop, resOf, resSV, SV.map, SV.ids, A1.ids, reach, allObs, ren, pos, Ob.map, St.canon, memL, List.range, List.range.loop, t1, t2, t3, turnSV]
      | some p =>
        obtain ⟨c, e⟩ := p
        obtain ⟨_, _, he, hc, _⟩ := getNum_bound g3
        rw [g3] at t3
        simp only [getSV] at t3
        have w2 : IntKind.i64.wrap ((c : Int) - 1) = (c : Int) - 1 := wrap_id (by omega) (by omega)
        cases hok : turnOk a ((c : Int) - 1) n with
        | false =>
          have tb := r_sTurnBytes_bad a ((c : Int) - 1) n hok
          rw [show turnOf b i = none by simp [turnOf, g1, g2, g3, hok]]
          simp (maxSteps := 4000000) -implicitDefEqProofs [tab40, a40, x_seq, x_cond, x_block, x_region, x_skip, x_exit, x_ret, head_id, runG, runOps, doOp, wantB, stepOp, AO.eff, pureOp, St.get, St.one, St.num, St.put, St.optNum, binA, binInt, List.take, List.drop, gOp, gOp0, gOpL, gResL, updO, gRes, gEff, addObs_nil, addObs_one, freshB_memL, freshB_none, freshB_upd, freshB_addMem, freshB_addObs, callRO, addMem_nil, roArgs, roL, roA, srcCells, A1.ownB, addMem, shift, ren, SV.map, Ob.map, Ob.noRo, SV.noRo, A1.noRo, List.range, List.range.loop, resOf, resSV, SV.map, SV.ids, A1.ids, reach, allObs, ren, pos, Ob.map, St.canon, memL, List.range, List.range.loop, t1, t2, t3, w2, tb, turnSV]
        | true =>
          have tb := r_sTurnBytes a ((c : Int) - 1) n hok
          have hT := turnB_length hok
          have hT0 : (((turnB a ((c : Int) - 1) n).length : Int) == 0) = false := by rw [beq_eq_false_iff_ne]; simp [turnB, fourN]; omega
          have eT : turnOf b i = if hasPre (b.drop i.toNat) (turnB a ((c : Int) - 1) n) = true then some (n, a, c, turnB a ((c : Int) - 1) n) else none := by simp [turnOf, g1, g2, g3, hok]
          rw [eT]
          generalize turnB a ((c : Int) - 1) n = T at *
          have w3 : IntKind.i64.wrap (i + (T.length : Int)) = i + (T.length : Int) := wrap_id (by omega) (by omega)
          have w4 : IntKind.i64.wrap ((b.length : Int) - i) = (b.length : Int) - i := wrap_id (by omega) (by omega)
          have c0 : ¬ (b.length : Int) < (e : Int) := by omega
          by_cases hle : (b.length : Int) - i < (T.length : Int)
          · rw [if_neg (by simp [hasPre]; intro h; omega)]
            simp (maxSteps := 4000000) -implicitDefEqProofs [tab40, a40, x_seq, x_cond, x_block, x_region, x_skip, x_exit, x_ret, head_id, runG, runOps, doOp, wantB, stepOp, AO.eff, pureOp, St.get, St.one, St.num, St.put, St.optNum, binA, binInt, List.take, List.drop, gOp, gOp0, gOpL, gResL, updO, gRes, gEff, addObs_nil, addObs_one, freshB_memL, freshB_none, freshB_upd, freshB_addMem, freshB_addObs, callRO, addMem_nil, roArgs, roL, roA, srcCells, A1.ownB, addMem, shift, ren, SV.map, Ob.map, Ob.noRo, SV.noRo, A1.noRo, List.range, List.range.loop, resOf, resSV, SV.map, SV.ids, A1.ids, reach, allObs, ren, pos, Ob.map, St.canon, memL, List.range, List.range.loop, t1, t2, t3, w2, w3, w4, tb, hT0, hle, turnSV]
          · have c1 : 0 ≤ i ∧ i ≤ i + (T.length : Int) ∧ i + (T.length : Int) ≤ (b.length : Int) := by omega
            have c2 : (i + (T.length : Int)).toNat - i.toNat = T.length := by omega
            have c3 : ((cl .u8 b).drop i.toNat).take T.length = cl .u8 ((b.drop i.toNat).take T.length) := by rw [cl_drop, cl_take]
            have c4 : (((b.drop i.toNat).take T.length).length) = T.length := by simp; omega
            have c5 : (cl .u8 ((b.drop i.toNat).take T.length)).length = T.length := by rw [cl_length, c4]
            have c6 : (cl .u8 ((b.drop i.toNat).take T.length)).take T.length = cl .u8 ((b.drop i.toNat).take T.length) := by have e := cl_self (k := .u8) (l := (b.drop i.toNat).take T.length); rw [c4] at e; exact e
            have hpe : hasPre (b.drop i.toNat) T = eqB ((b.drop i.toNat).take T.length) T := by
              unfold hasPre
              rw [show decide (T.length ≤ (b.drop i.toNat).length) = true by simp; omega, Bool.true_and]
            rw [hpe]
            have hq : ((strOfNums ((b.drop i.toNat).take T.length)).toList == (strOfNums T).toList) = eqB ((b.drop i.toNat).take T.length) T := rfl
            generalize (b.drop i.toNat).take T.length = U at *
            cases hh : eqB U T with
            | false =>
              rw [hh] at hq
              simp (maxSteps := 4000000) -implicitDefEqProofs [tab40, a40, x_seq, x_cond, x_block, x_region, x_skip, x_exit, x_ret, head_id, runG, runOps, doOp, wantB, stepOp, AO.eff, pureOp, St.get, St.one, St.num, St.put, St.optNum, binA, binInt, List.take, List.drop, gOp, gOp0, gOpL, gResL, updO, gRes, gEff, addObs_nil, addObs_one, freshB_memL, freshB_none, freshB_upd, freshB_addMem, freshB_addObs, callRO, addMem_nil, roArgs, roL, roA, srcCells, A1.ownB, addMem, shift, ren, SV.map, Ob.map, Ob.noRo, SV.noRo, A1.noRo, List.range, List.range.loop, resOf, resSV, SV.map, SV.ids, A1.ids, reach, allObs, ren, pos, Ob.map, St.canon, memL, List.range, List.range.loop, binStr, bne, cutB, cellsAt, t1, t2, t3, w2, w3, w4, c0, c1, c2, c3, c5, c6, tb, hq, hT0, hle, cl_nums, cl_self, cl_length, turnSV]
            | true =>
              rw [hh] at hq
              simp (maxSteps := 4000000) -implicitDefEqProofs [tab40, a40, x_seq, x_cond, x_block, x_region, x_skip, x_exit, x_ret, head_id, runG, runOps, doOp, wantB, stepOp, AO.eff, pureOp, St.get, St.one, St.num, St.put, St.optNum, binA, binInt, List.take, List.drop, gOp, gOp0, gOpL, gResL, updO, gRes, gEff, addObs_nil, addObs_one, freshB_memL, freshB_none, freshB_upd, freshB_addMem, freshB_addObs, callRO, addMem_nil, roArgs, roL, roA, srcCells, A1.ownB, addMem, shift, ren, SV.map, Ob.map, Ob.noRo, SV.noRo, A1.noRo, List.range, List.range.loop, resOf, resSV, SV.map, SV.ids, A1.ids, reach, allObs, ren, pos, Ob.map, St.canon, memL, List.range, List.range.loop, binStr, bne, cutB, cellsAt, t1, t2, t3, w2, w3, w4, c0, c1, c2, c3, c5, c6, tb, hq, hT0, hle, cl_nums, cl_self, cl_length, turnSV]
theorem bytes_wf {b : List Int} (h : ∀ x ∈ b, (Lit.int .u8 x).wf = true) : Bytes b := by
  intro x hx
  have := h x hx
  have e1 : IntKind.u8.min = 0 := rfl
  have e2 : IntKind.u8.max = 255 := rfl
  simp [Lit.wf, e1, e2] at this
  exact this
end Go.Proofs.Ytdagbeihjobmjaa.Eng.B
