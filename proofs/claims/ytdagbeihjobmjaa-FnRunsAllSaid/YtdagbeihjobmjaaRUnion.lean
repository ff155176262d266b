/- Marks put together, of lists whose numbers are all unlike. -/
import Derived.Test.YtdagbeihjobmjaaRAll
namespace Go.Proofs.Ytdagbeihjobmjaa.Eng.R
set_option linter.unusedSimpArgs false
set_option linter.unusedVariables false
set_option maxHeartbeats 8000000
set_option maxRecDepth 100000
open Go.RowKit Go.Proofs

theorem put1_len (l : List Int) (n : Int) : (put1 l n).length = l.length + 1 := by
  unfold put1
  simp only [List.length_append, List.length_take, List.length_cons, List.length_drop]
  omega
theorem put1_mem (l : List Int) (n x : Int) : x ∈ put1 l n ↔ x = n ∨ x ∈ l := by
  unfold put1
  conv => rhs; rw [← List.take_append_drop (place l n) l]
  simp only [List.mem_append, List.mem_cons]
  constructor
  · rintro (h | h | h)
    · exact .inr (.inl h)
    · exact .inl h
    · exact .inr (.inr h)
  · rintro (h | h | h)
    · exact .inr (.inl h)
    · exact .inl h
    · exact .inr (.inr h)
def uF (c : List Int) : List Int := c.foldl put1 []
theorem uF_len (c : List Int) : ∀ l : List Int, (c.foldl put1 l).length = l.length + c.length := by
  induction c with
  | nil => simp
  | cons x r ih => intro l; rw [List.foldl_cons, ih, put1_len, List.length_cons]; omega
theorem uF_mem (c : List Int) : ∀ (l : List Int) (x : Int), x ∈ c.foldl put1 l ↔ x ∈ l ∨ x ∈ c := by
  induction c with
  | nil => simp
  | cons y r ih =>
    intro l x
    rw [List.foldl_cons, ih, put1_mem, List.mem_cons]
    constructor
    · rintro ((h | h) | h)
      · exact .inr (.inl h)
      · exact .inl h
      · exact .inr (.inr h)
    · rintro (h | h | h)
      · exact .inl (.inr h)
      · exact .inl (.inl h)
      · exact .inr h
def S_Union (c : List Int) (i : Nat) (p : List Int) : XS := ⟨⟨[.bad, .bad, .bad, .bad, .bad, .v false [.sl 0 [] 0 p.length], .bad, .bad, .bad, .bad, .bad, .bad, .v false [.sl 1 [] 0 c.length], .v false [.int .i64 (c.length)], .v false [.int .i64 (i)], .bad, .bad, .bad, .bad, .bad, .bad, .bad, .bad], memL [some (.row 1 (cl .i64 p)), some (.row 1 (cl .i64 c))], []⟩, 2⟩
def Z_Union (p : List Int) : XS := ⟨⟨[.bad, .bad, .bad, .bad, .bad, .v false [.sl 0 [] 0 p.length], .bad, .bad, .bad, .bad, .bad, .bad, .bad, .bad, .bad, .bad, .bad, .bad, .bad, .bad, .bad, .bad, .bad], memL [some (.row 1 (cl .i64 p))], []⟩, 1⟩
theorem loop_Union (c : List Int) (hc : c.length ≤ 1000) (hnd : c.Nodup) (hr : ∀ x ∈ c, rng x 0 7 = true) {x : XS} (hx : head true d76_0 x = S_Union c 0 []) : X tab l76_0 x = some (.exit 0, Z_Union (uF c)) := by
  refine loopN c.length (fun i => S_Union c i (uF (c.take i))) _ (by simp) (fun i hi => ?_) ?_ (Nat.zero_le _) hx
  · obtain ⟨y, r, hl⟩ : ∃ y r, c.drop i = y :: r := ⟨_, _, List.drop_eq_getElem_cons hi⟩
    have hy : y ∈ c := List.mem_of_mem_drop (by rw [hl]; exact List.mem_cons_self ..)
    have hci : c[i]? = some y := by
      have := congrArg (fun q : List Int => q[0]?) hl
      simpa using this
    have ht : c.take (i + 1) = c.take i ++ [y] := by
      rw [List.take_add_one, hci]
      rfl
    have hny : ¬ y ∈ uF (c.take i) := by
      intro hm
      have hm' := (uF_mem (c.take i) [] y).1 hm
      simp only [List.not_mem_nil, false_or] at hm'
      have e := List.take_append_drop i c
      rw [hl] at e
      rw [← e, List.nodup_append] at hnd
      exact hnd.2.2 y hm' y (List.mem_cons_self ..) rfl
    have h1 : (0 ≤ (i : Int) ∧ (i : Int) < (c.length : Int)) := by omega
    have h2 := cl_read (k := .i64) hl 1 []
    have h3 : (i : Int) < (c.length : Int) := by omega
    have h4 : IntKind.i64.wrap ((i : Int) + 1) = ((i + 1 : Nat) : Int) := by rw [wrap_id (by omega) (by omega)]; omega
    have hul : (uF (c.take i)).length ≤ 1000 := by
      have := uF_len (c.take i) []
      unfold uF
      rw [this, List.length_take]
      simp
      omega
    have h5 := r_Mark (uF (c.take i)) (by omega) y (hr y hy) hny
    have e1 : uF (c.take (i + 1)) = put1 (uF (c.take i)) y := by rw [ht]; unfold uF; rw [List.foldl_append]; rfl
    have e2 : (put1 (uF (c.take i)) y).length = (uF (c.take i)).length + 1 := put1_len _ _
    simp only [e1, S_Union, e2]
    generalize uF (c.take i) = p at *
    simp (maxSteps := 4000000) -implicitDefEqProofs [b76_0, x_seq, x_cond, x_block, x_region, x_skip, x_exit, x_ret, head_id, runG, runOps, doOp, wantB, stepOp, AO.eff, pureOp, St.get, St.one, St.num, St.put, St.optNum, binA, binInt, List.take, List.drop, callRO, addMem_nil, roArgs, roL, roA, srcCells, A1.ownB, addMem, shift, ren, SV.map, Ob.map, Ob.noRo, SV.noRo, A1.noRo, List.range, List.range.loop, cellsAt, memL_app, h1, h2, h3, h4, h5, cl_self, cl_length, -Int.natCast_add]
    change _ = _
    kernel_rfl
  · rw [List.take_length]
    simp (maxSteps := 4000000) -implicitDefEqProofs [b76_0, S_Union, x_seq, x_cond, x_block, x_region, x_skip, x_exit, x_ret, head_id, runG, runOps, doOp, wantB, stepOp, AO.eff, pureOp, St.get, St.one, St.num, St.put, St.optNum, binA, binInt, List.take, List.drop, Z_Union]
    change _ = _
    kernel_rfl
theorem r_Union (a b : List Int) (ha : a.length ≤ 100) (hb : b.length ≤ 100) (h0 : 0 < a.length + b.length) (hnd : (a ++ b).Nodup) (hr : ∀ x ∈ a ++ b, rng x 0 7 = true) :
    runRO (X tab) tab 76 [.v false [.ro a.length (cl .i64 a)], .v false [.ro b.length (cl .i64 b)]] = some (.v false [.sl 0 [] 0 (uF (a ++ b)).length], [.row 1 (cl .i64 (uF (a ++ b)))]) := by
  have h1 := r_Concat a b (by omega) (by omega) h0
  have h2 := fun {x} => loop_Union (a ++ b) (by rw [List.length_append]; omega) hnd hr (x := x)
  unfold two at h1
  generalize a ++ b = c at h1 h2
  unfold runRO
  simp (maxSteps := 4000000) -implicitDefEqProofs [tab76, a76, x_seq, x_cond, x_block, x_region, x_skip, x_exit, x_ret, head_id, runG, runOps, doOp, wantB, stepOp, AO.eff, pureOp, St.get, St.one, St.num, St.put, St.optNum, binA, binInt, List.take, List.drop, callRO, addMem_nil, roArgs, roL, roA, srcCells, A1.ownB, addMem, shift, ren, SV.map, Ob.map, Ob.noRo, SV.noRo, A1.noRo, List.range, List.range.loop, effOp2, effOp, memL_app, stoRow, cellsAt, toCells, toCell, scalar_int, scalar_bool, scalar_str, scalar_sl, updAt, fromRo, upd, srcCells, A1.slB, flat_int, cl_flat', St.parts, Eng.inB, reps, fillA, newRowSt, appSt, oldOf, rest, kill, mapMem, SV.map, Ob.map, roCells, h1]
  rw [h2 (by change _ = _; kernel_rfl)]
  simp (maxSteps := 4000000) -implicitDefEqProofs [Z_Union, x_seq, x_cond, x_block, x_region, x_skip, x_exit, x_ret, head_id, runG, runOps, doOp, wantB, stepOp, AO.eff, pureOp, St.get, St.one, St.num, St.put, St.optNum, binA, binInt, List.take, List.drop, callRO, addMem_nil, roArgs, roL, roA, srcCells, A1.ownB, addMem, shift, ren, SV.map, Ob.map, Ob.noRo, SV.noRo, A1.noRo, List.range, List.range.loop, resOf, resSV, SV.map, SV.ids, A1.ids, reach, allObs, ren, pos, Ob.map, St.canon, memL, List.range, List.range.loop]
end Go.Proofs.Ytdagbeihjobmjaa.Eng.R
