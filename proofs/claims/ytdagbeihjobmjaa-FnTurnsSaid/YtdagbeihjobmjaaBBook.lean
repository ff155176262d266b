/- The book of touches, as the program and the reference write it; the law. -/
import Derived.Test.YtdagbeihjobmjaaBTouch
import Derived.Test.YtdagbeihjobmjaaBTurn
namespace Go.Proofs.Ytdagbeihjobmjaa.Eng.B
set_option linter.unusedSimpArgs false
set_option linter.unusedVariables false
set_option maxHeartbeats 16000000
set_option maxRecDepth 100000
open Go.RowKit Go.Proofs

def turnR (a o n : Int) : List Int := if turnOk a o n = true then turnB a o n else []
def bookStep (s : List Int × List Int × Nat) (c : Int) : List Int × List Int × Nat :=
  if extOf c < 0 then s
  else if extOf c ∈ s.2.1 then (s.1, (touchAll s.2.1 c).take 2, s.2.2)
  else (s.1 ++ turnR (extOf c) (touchX (touchAll s.2.1 c)) s.2.2, (touchAll s.2.1 c).take 2, s.2.2 + 1)
def bookF (s : List Int × List Int × Nat) : List Int → List Int × List Int × Nat
  | [] => s
  | c :: r => bookF (bookStep s c) r
theorem extOf_rng {c : Int} (h : ¬ extOf c < 0) : 0 ≤ extOf c ∧ extOf c ≤ 3 := by
  unfold extOf at h ⊢
  split
  · rename_i hr
    have := rng_iff.1 hr
    omega
  · rename_i hr
    rw [if_neg hr] at h
    omega
theorem hotOk_touch {l : List Int} {c : Int} (h : hotOk l = true) (hc : ¬ extOf c < 0) : hotOk ((touchAll l c).take 2) = true := by
  have he := extOf_rng hc
  have hlen := hotOk_len h
  unfold touchAll
  generalize extOf c = e at *
  have hr : rng e 0 3 = true := rng_iff.2 he
  match l, hlen with
  | [], _ => simp [without, hotOk, hotF, hr]
  | [p], _ =>
    simp only [hotOk, hotF, Bool.and_eq_true] at h
    have hp := h.1.1.1
    by_cases hpe : p = e
    · subst hpe; simp [without, hotOk, hotF, hp]
    · have : (p == e) = false := beq_eq_false_iff_ne.2 hpe
      simp [without, this, hotOk, hotF, hr, hp, hpe]
  | [p, q], _ =>
    simp only [hotOk, hotF, Bool.and_eq_true] at h
    have hp := h.1.1.1
    have hq := h.1.2.1.1
    by_cases hpe : p = e
    · subst hpe
      by_cases hqe : q = p
      · subst hqe; simp [without, hotOk, hotF, hp]
      · have : (q == p) = false := beq_eq_false_iff_ne.2 hqe
        simp [without, this, hotOk, hotF, hp, hq, hqe]
    · have h1 : (p == e) = false := beq_eq_false_iff_ne.2 hpe
      simp [without, h1, hotOk, hotF, hr, hp, hpe]
def BI (cells : List Int) (s : Nat × List Int × List Int × List Int × Nat) : Prop :=
  s.1 ≤ cells.length ∧ hotOk s.2.2.1 = true ∧ 1 ≤ s.2.2.2.2 ∧ s.2.2.2.2 ≤ s.1 + 1 ∧ s.2.1.length ≤ 19 * min (s.2.2.2.2 - 1) 9999 ∧ bookF (s.2.1, s.2.2.1, s.2.2.2.2) (cells.drop s.1) = bookF ([], [], 1) cells
theorem turnR_length (a o : Int) (n : Nat) (hn : 1 ≤ n) : (turnR a o n).length ≤ 19 * (min n 9999 - min (n - 1) 9999) := by
  unfold turnR
  split
  · rename_i h
    have h1 := turnB_length h
    have h2 := turn_facts h
    omega
  · simp
/-- What a round leaves true. -/
theorem BI_next {cells : List Int} {i n : Nat} {b hot tail tail' : List Int} {y : Int} {r : List Int} (h : BI cells (i, b, hot, tail, n)) (hd : cells.drop i = y :: r) (s : List Int × List Int × Nat) (hs : bookStep (b, hot, n) y = s) :
    BI cells (i + 1, s.1, s.2.1, tail', s.2.2) := by
  obtain ⟨h1, h2, h3, h4, h5, h6⟩ := h
  simp only at h1 h2 h3 h4 h5 h6
  have hi := drop_lt hd
  rw [hd, bookF, hs] at h6
  by_cases he : extOf y < 0
  · have : s = (b, hot, n) := by rw [← hs]; simp [bookStep, he]
    subst this
    exact ⟨hi, h2, h3, by simp only; omega, h5, by simp only [drop_next hd]; exact h6⟩
  · by_cases hm : extOf y ∈ hot
    · have : s = (b, (touchAll hot y).take 2, n) := by rw [← hs]; simp [bookStep, he, hm]
      subst this
      exact ⟨hi, hotOk_touch h2 he, h3, by simp only; omega, h5, by simp only [drop_next hd]; exact h6⟩
    · have : s = (b ++ turnR (extOf y) (touchX (touchAll hot y)) n, (touchAll hot y).take 2, n + 1) := by rw [← hs]; simp [bookStep, he, hm]
      subst this
      have hT := turnR_length (extOf y) (touchX (touchAll hot y)) n h3
      exact ⟨hi, hotOk_touch h2 he, by simp only; omega, by simp only; omega, by simp only [List.length_append]; omega, by simp only [drop_next hd]; exact h6⟩
def S_HotBook (l : List Int) (s : Nat × List Int × List Int × List Int × Nat) : XS := ⟨⟨[.bad, .bad, .bad, .v false [.sl 0 [] 0 s.2.1.length], .v false [.sl 1 [] 0 s.2.2.1.length], .v false [.int .i64 (s.2.2.2.2)], .bad, .bad, .bad, .bad, .bad, .bad, .v false [.ro l.length (cl .i64 l)], .v false [.int .i64 (l.length)], .v false [.int .i64 (s.1)], .bad, .bad, .bad, .bad, .bad, .bad, .bad, .bad, .bad, .bad, .bad, .bad, .bad, .bad, .bad, .bad, .bad, .bad, .bad, .bad, .bad, .bad, .bad, .bad, .bad, .bad, .bad, .bad, .bad], memL [some (.row 1 (cl .u8 s.2.1)), some (.row 1 (cl .i64 (s.2.2.1 ++ s.2.2.2.1)))], []⟩, 2⟩
def Z_HotBook (b : List Int) : XS := ⟨⟨[.bad, .bad, .bad, .v false [.sl 0 [] 0 b.length], .bad, .bad, .bad, .bad, .bad, .bad, .bad, .bad, .bad, .bad, .bad, .bad, .bad, .bad, .bad, .bad, .bad, .bad, .bad, .bad, .bad, .bad, .bad, .bad, .bad, .bad, .bad, .bad, .bad, .bad, .bad, .bad, .bad, .bad, .bad, .bad, .bad, .bad, .bad, .bad], memL [some (.row 1 (cl .u8 b))], []⟩, 1⟩
theorem loop_HotBook (l : List Int) (hn : l.length ≤ 1048576) {x : XS} (hx : head true d33_0 x = S_HotBook l (0, [], [], [], 1)) : X tab l33_0 x = some (.exit 0, Z_HotBook (bookF ([], [], 1) l).1) := by
  refine loopX (σ := Nat × List Int × List Int × List Int × Nat) (S_HotBook l) (fun s => l.length - s.1) (BI l) _ (fun ⟨i, b, hot, tail, n⟩ hI => ?_) (0, [], [], [], 1) ⟨Nat.zero_le _, rfl, by simp, by simp, by simp, rfl⟩ x hx
  have hI' := hI
  obtain ⟨hi, hh, hn1, hn2, hbl, hs⟩ := hI'
  simp only at hi hh hn1 hn2 hbl hs
  cases hd : l.drop i with
  | nil =>
    obtain rfl := drop_end hd hi
    rw [hd, bookF] at hs
    rw [← hs]
    refine .inr ⟨?_, by simp⟩
    simp (maxSteps := 4000000) -implicitDefEqProofs [b33_0, S_HotBook, x_seq, x_cond, x_block, x_region, x_skip, x_exit, x_ret, head_id, runG, runOps, doOp, wantB, stepOp, AO.eff, pureOp, St.get, St.one, St.num, St.put, St.optNum, binA, binInt, List.take, List.drop, Z_HotBook]
    change _ = _
    kernel_rfl
  | cons y r =>
    have hi' := drop_lt hd
    have h1 : (0 ≤ (i : Int) ∧ (i : Int) < (l.length : Int)) := by omega
    have h2 := cl_at (k := .i64) hd
    have h4 := wrap_next hi' (show l.length ≤ 281474976710656 by omega)
    have h5 := r_ExtOf y
    have e5 : (cl .i64 (hot ++ tail)).take hot.length = cl .i64 hot := by rw [cl_take]; simp
    have e6 : hot.length ≤ (cl .i64 (hot ++ tail)).length := by rw [cl_length]; simp
    have e6' : hot.length ≤ (hot ++ tail).length := by simp
    by_cases he : extOf y < 0
    · refine .inl ⟨(i + 1, b, hot, tail, n), ?_, by simp only; omega, BI_next hI hd (b, hot, n) (by simp [bookStep, he])⟩
      simp only [S_HotBook]
      simp (maxSteps := 4000000) -implicitDefEqProofs [b33_0, x_seq, x_cond, x_block, x_region, x_skip, x_exit, x_ret, head_id, runG, runOps, doOp, wantB, stepOp, AO.eff, pureOp, St.get, St.one, St.num, St.put, St.optNum, binA, binInt, List.take, List.drop, callRO, addMem_nil, roArgs, roL, roA, srcCells, A1.ownB, addMem, shift, ren, SV.map, Ob.map, Ob.noRo, SV.noRo, A1.noRo, List.range, List.range.loop, fromRo, h1, h2, h4, h5, hi', he, -Int.natCast_add]
      change _ = _
      kernel_rfl
    · have hok : touchOk hot y = true := by
        simp only [touchOk, hh, Bool.true_and, decide_eq_true_eq]
        omega
      obtain ⟨tl, h6⟩ := r_Touch hot y hok
      have h7 := r_Contains hot (extOf y) (by have := hotOk_len hh; omega)
      by_cases hm : extOf y ∈ hot
      · rw [decide_eq_true hm] at h7
        refine .inl ⟨(i + 1, b, (touchAll hot y).take 2, tl, n), ?_, by simp only; omega, BI_next hI hd (b, (touchAll hot y).take 2, n) (by simp [bookStep, he, hm])⟩
        simp only [S_HotBook]
        generalize (touchAll hot y).take 2 = R2 at *
        generalize touchX (touchAll hot y) = o at *
        generalize extOf y = e at *
        generalize hot ++ tail = W at *
        generalize R2 ++ tl = W2 at *
        simp (maxSteps := 4000000) -implicitDefEqProofs [b33_0, x_seq, x_cond, x_block, x_region, x_skip, x_exit, x_ret, head_id, runG, runOps, doOp, wantB, stepOp, AO.eff, pureOp, St.get, St.one, St.num, St.put, St.optNum, binA, binInt, List.take, List.drop, callRO, addMem_nil, roArgs, roL, roA, srcCells, A1.ownB, addMem, shift, ren, SV.map, Ob.map, Ob.noRo, SV.noRo, A1.noRo, List.range, List.range.loop, fromRo, cellsAt, e5, e6, e6', memL_app, h1, h2, h4, h5, h6, h7, hi', he, -Int.natCast_add]
        change _ = _
        kernel_rfl
      · rw [decide_eq_false hm] at h7
        have w1 : IntKind.i64.wrap ((n : Int) + 1) = ((n + 1 : Nat) : Int) := by rw [wrap_id (by omega) (by omega)]; omega
        have hbs : bookStep (b, hot, n) y = (b ++ turnR (extOf y) (touchX (touchAll hot y)) n, (touchAll hot y).take 2, n + 1) := by simp [bookStep, he, hm]
        cases hok : turnOk (extOf y) (touchX (touchAll hot y)) n with
        | false =>
          have tb := r_TurnBytes_bad _ _ _ hok
          have hr : turnR (extOf y) (touchX (touchAll hot y)) n = [] := by unfold turnR; rw [hok]; rfl
          rw [hr, List.append_nil] at hbs
          refine .inl ⟨(i + 1, b, (touchAll hot y).take 2, tl, n + 1), ?_, by simp only; omega, BI_next hI hd _ hbs⟩
          simp only [S_HotBook]
          generalize (touchAll hot y).take 2 = R2 at *
          generalize touchX (touchAll hot y) = o at *
          generalize extOf y = e at *
          generalize hot ++ tail = W at *
          generalize R2 ++ tl = W2 at *
          simp (maxSteps := 4000000) -implicitDefEqProofs [b33_0, x_seq, x_cond, x_block, x_region, x_skip, x_exit, x_ret, head_id, runG, runOps, doOp, wantB, stepOp, AO.eff, pureOp, St.get, St.one, St.num, St.put, St.optNum, binA, binInt, List.take, List.drop, callRO, addMem_nil, roArgs, roL, roA, srcCells, A1.ownB, addMem, shift, ren, SV.map, Ob.map, Ob.noRo, SV.noRo, A1.noRo, List.range, List.range.loop, effOp2, effOp, memL_app, stoRow, cellsAt, toCells, toCell, scalar_int, scalar_bool, scalar_str, scalar_sl, updAt, fromRo, upd, srcCells, A1.slB, flat_int, cl_flat', St.parts, Eng.inB, reps, fillA, newRowSt, appSt, oldOf, rest, kill, mapMem, SV.map, Ob.map, fromRo, cellsAt, e5, e6, e6', memL_app, h1, h2, h4, h5, h6, h7, tb, w1, hi', he, -Int.natCast_add]
          change _ = _
          kernel_rfl
        | true =>
          have tb := r_TurnBytes _ _ _ hok
          have hr : turnR (extOf y) (touchX (touchAll hot y)) n = turnB (extOf y) (touchX (touchAll hot y)) n := by unfold turnR; rw [hok]; rfl
          rw [hr] at hbs
          have hT := turnB_length hok
          have hT0 : ¬ (turnB (extOf y) (touchX (touchAll hot y)) n).length = 0 := by simp [turnB, fourN]
          refine .inl ⟨(i + 1, b ++ turnB (extOf y) (touchX (touchAll hot y)) n, (touchAll hot y).take 2, tl, n + 1), ?_, by simp only; omega, BI_next hI hd _ hbs⟩
          simp only [S_HotBook]
          generalize turnB (extOf y) (touchX (touchAll hot y)) n = T at *
          generalize (touchAll hot y).take 2 = R2 at *
          generalize touchX (touchAll hot y) = o at *
          generalize extOf y = e at *
          generalize hot ++ tail = W at *
          generalize R2 ++ tl = W2 at *
          have hT0' : T ≠ [] := fun e => hT0 (by rw [e]; rfl)
          simp only [List.length_append, ← cl_app]
          have hT1 : b.length + T.length ≤ 140737488355328 := by omega
          simp (maxSteps := 4000000) -implicitDefEqProofs [b33_0, x_seq, x_cond, x_block, x_region, x_skip, x_exit, x_ret, head_id, runG, runOps, doOp, wantB, stepOp, AO.eff, pureOp, St.get, St.one, St.num, St.put, St.optNum, binA, binInt, List.take, List.drop, callRO, addMem_nil, roArgs, roL, roA, srcCells, A1.ownB, addMem, shift, ren, SV.map, Ob.map, Ob.noRo, SV.noRo, A1.noRo, List.range, List.range.loop, effOp2, effOp, memL_app, stoRow, cellsAt, toCells, toCell, scalar_int, scalar_bool, scalar_str, scalar_sl, updAt, fromRo, upd, srcCells, A1.slB, flat_int, cl_flat', St.parts, Eng.inB, reps, fillA, newRowSt, appSt, oldOf, rest, kill, mapMem, SV.map, Ob.map, fromRo, cellsAt, e5, e6, e6', memL_app, h1, h2, h4, h5, h6, h7, tb, w1, hT0, hT0', hT1, hi', he, cl_self, cl_length, cl_flat, -Int.natCast_add]
          change _ = _
          kernel_rfl
theorem r_HotBook (l : List Int) (hn : l.length ≤ 1048576) : runRO (X tab) tab 33 [.v false [.ro l.length (cl .i64 l)]] = some (.v false [.sl 0 [] 0 (bookF ([], [], 1) l).1.length], [.row 1 (cl .u8 (bookF ([], [], 1) l).1)]) := by
  unfold runRO
  simp (maxSteps := 4000000) -implicitDefEqProofs [tab33, a33, x_seq, x_cond, x_block, x_region, x_skip, x_exit, x_ret, head_id, runG, runOps, doOp, wantB, stepOp, AO.eff, pureOp, St.get, St.one, St.num, St.put, St.optNum, binA, binInt, List.take, List.drop, effOp2, effOp, memL_app, stoRow, cellsAt, toCells, toCell, scalar_int, scalar_bool, scalar_str, scalar_sl, updAt, fromRo, upd, srcCells, A1.slB, flat_int, cl_flat', St.parts, Eng.inB, reps, fillA, newRowSt, appSt, oldOf, rest, kill, mapMem, SV.map, Ob.map]
  rw [loop_HotBook l hn (by change _ = _; kernel_rfl)]
  simp (maxSteps := 4000000) -implicitDefEqProofs [Z_HotBook, x_seq, x_cond, x_block, x_region, x_skip, x_exit, x_ret, head_id, runG, runOps, doOp, wantB, stepOp, AO.eff, pureOp, St.get, St.one, St.num, St.put, St.optNum, binA, binInt, List.take, List.drop, effOp2, effOp, memL_app, stoRow, cellsAt, toCells, toCell, scalar_int, scalar_bool, scalar_str, scalar_sl, updAt, fromRo, upd, resOf, resSV, SV.map, SV.ids, A1.ids, reach, allObs, ren, pos, Ob.map, St.canon, memL, List.range, List.range.loop]
def S_sHotBook (l : List Int) (s : Nat × List Int × List Int × Nat) : XS := ⟨⟨[.v false [.ro l.length (cl .i64 l)], .bad, .bad, .v false [.sl 0 [] 0 s.2.1.length], .v false [.sl 1 [] 0 s.2.2.1.length], .v false [.int .i64 (s.2.2.2)], .v false [.int .i64 (s.1)], .bad, .bad, .bad, .bad, .bad, .bad, .bad, .bad, .bad, .bad, .bad, .bad, .bad, .bad, .bad, .bad, .bad, .bad, .bad, .bad, .bad, .bad, .bad, .bad, .bad, .bad, .bad, .bad, .bad, .bad, .bad, .bad, .bad, .bad, .bad, .bad, .bad, .bad, .bad, .bad, .bad, .bad, .bad, .bad, .bad], memL [some (.row 1 (cl .u8 s.2.1)), some (.row 1 (cl .i64 s.2.2.1))], []⟩, 2⟩
def Z_sHotBook (b : List Int) : XS := ⟨⟨[.bad, .bad, .bad, .v false [.sl 0 [] 0 b.length], .bad, .bad, .bad, .bad, .bad, .bad, .bad, .bad, .bad, .bad, .bad, .bad, .bad, .bad, .bad, .bad, .bad, .bad, .bad, .bad, .bad, .bad, .bad, .bad, .bad, .bad, .bad, .bad, .bad, .bad, .bad, .bad, .bad, .bad, .bad, .bad, .bad, .bad, .bad, .bad, .bad, .bad, .bad, .bad, .bad, .bad, .bad, .bad], memL [some (.row 1 (cl .u8 b))], []⟩, 1⟩
theorem loop_sHotBook (l : List Int) (hn : l.length ≤ 1048576) {x : XS} (hx : head true d35_0 x = S_sHotBook l (0, [], [], 1)) : X tab l35_0 x = some (.exit 0, Z_sHotBook (bookF ([], [], 1) l).1) := by
  refine loopX (σ := Nat × List Int × List Int × Nat) (S_sHotBook l) (fun s => l.length - s.1) (fun s => BI l (s.1, s.2.1, s.2.2.1, [], s.2.2.2)) _ (fun ⟨i, b, hot, n⟩ hI => ?_) (0, [], [], 1) ⟨Nat.zero_le _, rfl, by simp, by simp, by simp, rfl⟩ x hx
  simp only at hI
  have hI' := hI
  obtain ⟨hi, hh, hn1, hn2, hbl, hs⟩ := hI'
  simp only at hi hh hn1 hn2 hbl hs
  cases hd : l.drop i with
  | nil =>
    obtain rfl := drop_end hd hi
    rw [hd, bookF] at hs
    rw [← hs]
    refine .inr ⟨?_, by simp⟩
    simp (maxSteps := 4000000) -implicitDefEqProofs [b35_0, S_sHotBook, x_seq, x_cond, x_block, x_region, x_skip, x_exit, x_ret, head_id, runG, runOps, doOp, wantB, stepOp, AO.eff, pureOp, St.get, St.one, St.num, St.put, St.optNum, binA, binInt, List.take, List.drop, Z_sHotBook]
    change _ = _
    kernel_rfl
  | cons y r =>
    have hi' := drop_lt hd
    have h1 : (0 ≤ (i : Int) ∧ (i : Int) < (l.length : Int)) := by omega
    have h2 := cl_at (k := .i64) hd
    have h4 := wrap_next hi' (show l.length ≤ 281474976710656 by omega)
    have h5 := r_sExtOf y
    have hl2 := hotOk_len hh
    have h7 := r_l2Has hot (extOf y) (by omega)
    by_cases he : extOf y < 0
    · have hge : ¬ 0 ≤ extOf y := by omega
      have hok : touchOk hot y = false := by
        simp only [touchOk, hh, Bool.true_and, decide_eq_false_iff_not]
        omega
      have h6 := r_sTouch_bad hot (by omega) y hok
      refine .inl ⟨(i + 1, b, hot, n), ?_, by simp only; omega, BI_next (tail' := []) hI hd (b, hot, n) (by simp [bookStep, he])⟩
      simp only [S_sHotBook]
      generalize extOf y = e at *
      cases hb : decide (e ∈ hot) <;> rw [hb] at h7 <;>
      · simp (maxSteps := 4000000) -implicitDefEqProofs [b35_0, x_seq, x_cond, x_block, x_region, x_skip, x_exit, x_ret, head_id, runG, runOps, doOp, wantB, stepOp, AO.eff, pureOp, St.get, St.one, St.num, St.put, St.optNum, binA, binInt, List.take, List.drop, callRO, addMem_nil, roArgs, roL, roA, srcCells, A1.ownB, addMem, shift, ren, SV.map, Ob.map, Ob.noRo, SV.noRo, A1.noRo, List.range, List.range.loop, fromRo, cellsAt, memL_app, h1, h2, h4, h5, h6, h7, hi', hge, cl_self, cl_length, -Int.natCast_add]
        change _ = _
        kernel_rfl
    · have hge : 0 ≤ extOf y := by omega
      have hok : touchOk hot y = true := by
        simp only [touchOk, hh, Bool.true_and, decide_eq_true_eq]
        omega
      have h6 := r_sTouch hot y hok
      by_cases hm : extOf y ∈ hot
      · rw [decide_eq_true hm] at h7
        refine .inl ⟨(i + 1, b, (touchAll hot y).take 2, n), ?_, by simp only; omega, BI_next (tail' := []) hI hd (b, (touchAll hot y).take 2, n) (by simp [bookStep, he, hm])⟩
        simp only [S_sHotBook]
        generalize (touchAll hot y).take 2 = R2 at *
        generalize touchX (touchAll hot y) = o at *
        generalize extOf y = e at *
        simp (maxSteps := 4000000) -implicitDefEqProofs [b35_0, x_seq, x_cond, x_block, x_region, x_skip, x_exit, x_ret, head_id, runG, runOps, doOp, wantB, stepOp, AO.eff, pureOp, St.get, St.one, St.num, St.put, St.optNum, binA, binInt, List.take, List.drop, callRO, addMem_nil, roArgs, roL, roA, srcCells, A1.ownB, addMem, shift, ren, SV.map, Ob.map, Ob.noRo, SV.noRo, A1.noRo, List.range, List.range.loop, fromRo, cellsAt, memL_app, h1, h2, h4, h5, h6, h7, hi', hge, cl_self, cl_length, -Int.natCast_add]
        change _ = _
        kernel_rfl
      · rw [decide_eq_false hm] at h7
        have w1 : IntKind.i64.wrap ((n : Int) + 1) = ((n + 1 : Nat) : Int) := by rw [wrap_id (by omega) (by omega)]; omega
        have hbs : bookStep (b, hot, n) y = (b ++ turnR (extOf y) (touchX (touchAll hot y)) n, (touchAll hot y).take 2, n + 1) := by simp [bookStep, he, hm]
        cases hok : turnOk (extOf y) (touchX (touchAll hot y)) n with
        | false =>
          have tb := r_sTurnBytes_bad _ _ _ hok
          have hr : turnR (extOf y) (touchX (touchAll hot y)) n = [] := by unfold turnR; rw [hok]; rfl
          rw [hr, List.append_nil] at hbs
          refine .inl ⟨(i + 1, b, (touchAll hot y).take 2, n + 1), ?_, by simp only; omega, BI_next (tail' := []) hI hd _ hbs⟩
          simp only [S_sHotBook]
          generalize (touchAll hot y).take 2 = R2 at *
          generalize touchX (touchAll hot y) = o at *
          generalize extOf y = e at *
          simp (maxSteps := 4000000) -implicitDefEqProofs [b35_0, x_seq, x_cond, x_block, x_region, x_skip, x_exit, x_ret, head_id, runG, runOps, doOp, wantB, stepOp, AO.eff, pureOp, St.get, St.one, St.num, St.put, St.optNum, binA, binInt, List.take, List.drop, callRO, addMem_nil, roArgs, roL, roA, srcCells, A1.ownB, addMem, shift, ren, SV.map, Ob.map, Ob.noRo, SV.noRo, A1.noRo, List.range, List.range.loop, effOp2, effOp, memL_app, stoRow, cellsAt, toCells, toCell, scalar_int, scalar_bool, scalar_str, scalar_sl, updAt, fromRo, upd, srcCells, A1.slB, flat_int, cl_flat', St.parts, Eng.inB, reps, fillA, newRowSt, appSt, oldOf, rest, kill, mapMem, SV.map, Ob.map, fromRo, cellsAt, memL_app, h1, h2, h4, h5, h6, h7, tb, w1, hi', hge, cl_self, cl_length, -Int.natCast_add]
          change _ = _
          kernel_rfl
        | true =>
          have tb := r_sTurnBytes _ _ _ hok
          have hr : turnR (extOf y) (touchX (touchAll hot y)) n = turnB (extOf y) (touchX (touchAll hot y)) n := by unfold turnR; rw [hok]; rfl
          rw [hr] at hbs
          have hT := turnB_length hok
          have hT0 : ¬ (turnB (extOf y) (touchX (touchAll hot y)) n).length = 0 := by simp [turnB, fourN]
          refine .inl ⟨(i + 1, b ++ turnB (extOf y) (touchX (touchAll hot y)) n, (touchAll hot y).take 2, n + 1), ?_, by simp only; omega, BI_next (tail' := []) hI hd _ hbs⟩
          simp only [S_sHotBook]
          generalize turnB (extOf y) (touchX (touchAll hot y)) n = T at *
          generalize (touchAll hot y).take 2 = R2 at *
          generalize touchX (touchAll hot y) = o at *
          generalize extOf y = e at *
          have hT0' : T ≠ [] := fun e => hT0 (by rw [e]; rfl)
          simp only [List.length_append, ← cl_app]
          have hT1 : b.length + T.length ≤ 140737488355328 := by omega
          simp (maxSteps := 4000000) -implicitDefEqProofs [b35_0, x_seq, x_cond, x_block, x_region, x_skip, x_exit, x_ret, head_id, runG, runOps, doOp, wantB, stepOp, AO.eff, pureOp, St.get, St.one, St.num, St.put, St.optNum, binA, binInt, List.take, List.drop, callRO, addMem_nil, roArgs, roL, roA, srcCells, A1.ownB, addMem, shift, ren, SV.map, Ob.map, Ob.noRo, SV.noRo, A1.noRo, List.range, List.range.loop, effOp2, effOp, memL_app, stoRow, cellsAt, toCells, toCell, scalar_int, scalar_bool, scalar_str, scalar_sl, updAt, fromRo, upd, srcCells, A1.slB, flat_int, cl_flat', St.parts, Eng.inB, reps, fillA, newRowSt, appSt, oldOf, rest, kill, mapMem, SV.map, Ob.map, fromRo, cellsAt, memL_app, h1, h2, h4, h5, h6, h7, tb, w1, hT0, hT0', hT1, hi', hge, cl_self, cl_length, cl_flat, -Int.natCast_add]
          change _ = _
          kernel_rfl
theorem r_sHotBook (l : List Int) (hn : l.length ≤ 1048576) : runRO (X tab) tab 35 [.v false [.ro l.length (cl .i64 l)]] = some (.v false [.sl 0 [] 0 (bookF ([], [], 1) l).1.length], [.row 1 (cl .u8 (bookF ([], [], 1) l).1)]) := by
  unfold runRO
  simp (maxSteps := 4000000) -implicitDefEqProofs [tab35, a35, x_seq, x_cond, x_block, x_region, x_skip, x_exit, x_ret, head_id, runG, runOps, doOp, wantB, stepOp, AO.eff, pureOp, St.get, St.one, St.num, St.put, St.optNum, binA, binInt, List.take, List.drop, effOp2, effOp, memL_app, stoRow, cellsAt, toCells, toCell, scalar_int, scalar_bool, scalar_str, scalar_sl, updAt, fromRo, upd, srcCells, A1.slB, flat_int, cl_flat', St.parts, Eng.inB, reps, fillA, newRowSt, appSt, oldOf, rest, kill, mapMem, SV.map, Ob.map]
  rw [loop_sHotBook l hn (by change _ = _; kernel_rfl)]
  simp (maxSteps := 4000000) -implicitDefEqProofs [Z_sHotBook, x_seq, x_cond, x_block, x_region, x_skip, x_exit, x_ret, head_id, runG, runOps, doOp, wantB, stepOp, AO.eff, pureOp, St.get, St.one, St.num, St.put, St.optNum, binA, binInt, List.take, List.drop, effOp2, effOp, memL_app, stoRow, cellsAt, toCells, toCell, scalar_int, scalar_bool, scalar_str, scalar_sl, updAt, fromRo, upd, resOf, resSV, SV.map, SV.ids, A1.ids, reach, allObs, ren, pos, Ob.map, St.canon, memL, List.range, List.range.loop]
theorem book_length : ∀ (r : List Int) (s : List Int × List Int × Nat), 1 ≤ s.2.2 → s.1.length ≤ 19 * min (s.2.2 - 1) 9999 → (bookF s r).1.length ≤ 189981 := by
  intro r
  induction r with
  | nil => intro s h1 h2; simp only [bookF]; omega
  | cons c r ih =>
    intro s h1 h2
    simp only [bookF]
    by_cases he : extOf c < 0
    · rw [show bookStep s c = s by simp [bookStep, he]]
      exact ih s h1 h2
    · by_cases hm : extOf c ∈ s.2.1
      · refine ih _ ?_ ?_ <;> simp only [bookStep, if_neg he, if_pos hm] <;> assumption
      · have hT := turnR_length (extOf c) (touchX (touchAll s.2.1 c)) s.2.2 h1
        refine ih _ ?_ ?_ <;> simp only [bookStep, if_neg he, if_neg hm, List.length_append] <;> omega
end Go.Proofs.Ytdagbeihjobmjaa.Eng.B
