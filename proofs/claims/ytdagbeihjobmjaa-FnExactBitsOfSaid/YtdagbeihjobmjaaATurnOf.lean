/- A turn read from bytes, as the program and the reference read it; the law. -/
import Derived.Test.YtdagbeihjobmjaaATurn
namespace Go.Proofs.Ytdagbeihjobmjaa.Eng.A
set_option linter.unusedSimpArgs false
set_option linter.unusedVariables false
set_option maxHeartbeats 16000000
set_option maxRecDepth 100000
open Go.RowKit Go.Proofs

/-- Are two rows of bytes the same? -/
def eqB (l m : List Int) : Bool := (strOfNums l).toList == (strOfNums m).toList
theorem r_BytesEqual (l m : List Int) : runRO (X tab) tab 116 [.v false [.ro l.length (cl .u8 l)], .v false [.ro m.length (cl .u8 m)]] = some (.v false [.bool (eqB l m)], []) := by
  unfold runRO
  simp (maxSteps := 4000000) -implicitDefEqProofs [tab116, a116, x_seq, x_cond, x_block, x_region, x_skip, x_exit, x_ret, head_id, runG, runOps, doOp, wantB, stepOp, AO.eff, pureOp, St.get, St.one, St.num, St.put, St.optNum, binA, binInt, List.take, List.drop, callRO, addMem_nil, roArgs, roL, roA, srcCells, A1.ownB, addMem, shift, ren, SV.map, Ob.map, Ob.noRo, SV.noRo, A1.noRo, List.range, List.range.loop, resOf, resSV, SV.map, SV.ids, A1.ids, reach, allObs, ren, pos, Ob.map, St.canon, memL, List.range, List.range.loop, binStr, cl_self, cl_length, cl_nums, eqB]
def hasPre (l m : List Int) : Bool := decide (m.length ≤ l.length) && eqB (l.take m.length) m
theorem t_num_no (t : Nat) (ax : A1) (i : Int) (sl : List SV) (m : Mem) (up : List SV) (nx : Nat) (hm : m t = some (.box [ax, .int .i64 i, .bool false])) :
    runThru (X tab) tab 109 [.v false [.pr t [] 0]] ⟨⟨sl, m, up⟩, nx⟩ = some (.v false [.int .i64 0], ⟨⟨sl, m, up⟩, nx + 448⟩) := by
  unfold runThru
  simp (maxSteps := 4000000) -implicitDefEqProofs [tab109, a109, x_seq, x_cond, x_block, x_region, x_skip, x_exit, x_ret, head_id, runG, runOps, doOp, wantB, stepOp, AO.eff, pureOp, St.get, St.one, St.num, St.put, St.optNum, binA, binInt, List.take, List.drop, hm, resOf, resSV]
theorem t_num (t : Nat) (b : List Int) (hB : Bytes b) (hn : b.length ≤ 1048576) (i : Int) (hi : i ≤ 9223372036854775807) (sl : List SV) (m : Mem) (up : List SV) (nx : Nat) (hm : m t = some (.box [.ro b.length (cl .u8 b), .int .i64 i, .bool true]))
    (hf : ∀ j, freshB m (nx + j) = true) :
    runThru (X tab) tab 109 [.v false [.pr t [] 0]] ⟨⟨sl, m, up⟩, nx⟩ = (match getNum b i with
      | some (n, j) => some (.v false [.int .i64 n], ⟨⟨sl, upd m t (some (.box [.ro b.length (cl .u8 b), .int .i64 j, .bool true])), up⟩, nx + 2176⟩)
      | none => some (.v false [.int .i64 0], ⟨⟨sl, upd m t (some (.box [.ro b.length (cl .u8 b), .int .i64 0, .bool false])), up⟩, nx + 2176⟩)) := by
  have hg := r_GetNum b hB hn i hi
  unfold runThru
  cases h : getNum b i with
  | none =>
    rw [h] at hg
    simp only [getSV] at hg
    simp (maxSteps := 4000000) -implicitDefEqProofs [tab109, a109, x_seq, x_cond, x_block, x_region, x_skip, x_exit, x_ret, head_id, runG, runOps, doOp, wantB, stepOp, AO.eff, pureOp, St.get, St.one, St.num, St.put, St.optNum, binA, binInt, List.take, List.drop, gOp, gRes, gEff, addObs_nil, addObs_one, freshB_memL, freshB_none, freshB_upd, freshB_addMem, freshB_addObs, effOp2, effOp, memL_app, stoRow, cellsAt, toCells, toCell, scalar_int, scalar_bool, scalar_str, scalar_sl, updAt, fromRo, upd, callRO, addMem_nil, roArgs, roL, roA, srcCells, A1.ownB, addMem, shift, ren, SV.map, Ob.map, Ob.noRo, SV.noRo, A1.noRo, List.range, List.range.loop, hm, hf, hg, spl, upd_upd, Nat.add_assoc, resOf, resSV]
  | some p =>
    obtain ⟨n, j⟩ := p
    rw [h] at hg
    simp only [getSV] at hg
    simp (maxSteps := 4000000) -implicitDefEqProofs [tab109, a109, x_seq, x_cond, x_block, x_region, x_skip, x_exit, x_ret, head_id, runG, runOps, doOp, wantB, stepOp, AO.eff, pureOp, St.get, St.one, St.num, St.put, St.optNum, binA, binInt, List.take, List.drop, gOp, gRes, gEff, addObs_nil, addObs_one, freshB_memL, freshB_none, freshB_upd, freshB_addMem, freshB_addObs, effOp2, effOp, memL_app, stoRow, cellsAt, toCells, toCell, scalar_int, scalar_bool, scalar_str, scalar_sl, updAt, fromRo, upd, callRO, addMem_nil, roArgs, roL, roA, srcCells, A1.ownB, addMem, shift, ren, SV.map, Ob.map, Ob.noRo, SV.noRo, A1.noRo, List.range, List.range.loop, hm, hf, hg, spl, upd_upd, Nat.add_assoc, resOf, resSV]
theorem getF_bound : ∀ (l : List Int) (i n : Nat) {q j : Nat}, getF i n l = some (q, j) → i < j ∧ j ≤ i + l.length ∧ q ≤ 2147483647 := by
  intro l
  induction l with
  | nil => intro i n q j h; cases h
  | cons x r ih =>
    intro i n q j h
    simp only [getF] at h
    split at h
    · split at h
      · split at h
        · cases h
        · rename_i hh
          simp only [Option.some.injEq, Prod.mk.injEq] at h
          simp only [List.length_cons]
          omega
      · have := ih _ _ h
        simp only [List.length_cons]
        omega
    · cases h
theorem getNum_bound {b : List Int} {i : Int} {n j : Nat} (h : getNum b i = some (n, j)) : 0 ≤ i ∧ i < b.length ∧ j ≤ b.length ∧ n ≤ 2147483647 ∧ i < j := by
  unfold getNum at h
  split at h
  · cases h
  · obtain ⟨⟨q, k⟩, h1, h2⟩ := Option.map_eq_some_iff.1 h
    simp only [Prod.mk.injEq] at h2
    have := getF_bound _ _ _ h1
    simp at this
    omega
theorem t_numX (t : Nat) (b : List Int) (hB : Bytes b) (hn : b.length ≤ 1048576) (i : Int) (hi : i ≤ 9223372036854775807) (sl : List SV) (up : List SV) (nx : Nat) (h : t < nx) :
    runThru (X tab) tab 109 [.v false [.pr t [] 0]] ⟨⟨sl, upd (fun _ => none) t (some (.box [.ro b.length (cl .u8 b), .int .i64 i, .bool true])), up⟩, nx⟩ = (match getNum b i with
      | some (n, j) => some (.v false [.int .i64 n], ⟨⟨sl, upd (fun _ => none) t (some (.box [.ro b.length (cl .u8 b), .int .i64 j, .bool true])), up⟩, nx + 2176⟩)
      | none => some (.v false [.int .i64 0], ⟨⟨sl, upd (fun _ => none) t (some (.box [.ro b.length (cl .u8 b), .int .i64 0, .bool false])), up⟩, nx + 2176⟩)) := by
  have hm : upd (fun _ => none) t (some (.box [.ro b.length (cl .u8 b), .int .i64 i, .bool true])) t = some (.box [.ro b.length (cl .u8 b), .int .i64 i, .bool true]) := by simp [upd]
  rw [t_num t b hB hn i hi sl _ up nx hm (fun j => by rw [freshB_upd (.inl (by omega)), freshB_none])]
  cases getNum b i with
  | none => simp only [upd_upd]
  | some p => simp only [upd_upd]
theorem t_numX_no (t : Nat) (ax : A1) (i : Int) (sl up : List SV) (nx : Nat) :
    runThru (X tab) tab 109 [.v false [.pr t [] 0]] ⟨⟨sl, upd (fun _ => none) t (some (.box [ax, .int .i64 i, .bool false])), up⟩, nx⟩ = some (.v false [.int .i64 0], ⟨⟨sl, upd (fun _ => none) t (some (.box [ax, .int .i64 i, .bool false])), up⟩, nx + 448⟩) :=
  t_num_no t ax i sl _ up nx (by simp [upd])
/-- What a turn is read as. -/
def turnOf (b : List Int) (i : Int) : Option (Nat × Nat × Nat × List Int) :=
  match getNum b i with
  | none => none
  | some (n, k) => match getNum b k with
    | none => none
    | some (a, j) => match getNum b j with
      | none => none
      | some (c, _) => if (turnOk a (c - 1) n && hasPre (b.drop i.toNat) (turnB a (c - 1) n)) = true then some (n, a, c, turnB a (c - 1) n) else none
def turnSV (i : Int) : Option (Nat × Nat × Nat × List Int) → SV
  | none => .tup [(false, [.int .i64 0]), (false, [.int .i64 0]), (false, [.int .i64 0]), (false, [.int .i64 0]), (false, [.bool false])]
  | some (n, a, c, T) => .tup [(false, [.int .i64 a]), (false, [.int .i64 ((c : Int) - 1)]), (false, [.int .i64 n]), (false, [.int .i64 (i + T.length)]), (false, [.bool true])]
theorem bytes_wf {b : List Int} (h : ∀ x ∈ b, (Lit.int .u8 x).wf = true) : Bytes b := by
  intro x hx
  have := h x hx
  have e1 : IntKind.u8.min = 0 := rfl
  have e2 : IntKind.u8.max = 255 := rfl
  simp [Lit.wf, e1, e2] at this
  exact this
end Go.Proofs.Ytdagbeihjobmjaa.Eng.A
