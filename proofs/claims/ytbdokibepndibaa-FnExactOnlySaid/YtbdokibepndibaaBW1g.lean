/- The laws' own functions over worlds, first part: sizes. -/
import Derived.Test.YtbdokibepndibaaBPrel
import Derived.Test.YtbdokibepndibaaEngP
namespace Go.Proofs.Ytbdokibepndibaa.Eng.B
set_option linter.unusedSimpArgs false
set_option linter.unusedVariables false
set_option maxHeartbeats 8000000
set_option maxRecDepth 100000
open Go.RowKit Go.Proofs

/-- What is left, when n are taken; -1 where there are not as many. -/
def szT (left : Int) (n : Nat) : Int := if left < (n : Int) then -1 else left - (n : Int)
theorem szT_add {left : Int} {a b : Nat} (h : ¬ left < (a : Int)) : szT (left - (a : Int)) b = szT left (a + b) := by
  unfold szT
  have e : (left - (a : Int) < (b : Int)) ↔ (left < ((a + b : Nat) : Int)) := by omega
  by_cases h1 : left - (a : Int) < (b : Int)
  · rw [if_pos h1, if_pos (e.1 h1)]
  · rw [if_neg h1, if_neg (fun h => h1 (e.2 h))]
    omega
theorem szT_neg {left : Int} {a : Nat} (h : left < (a : Int)) : szT left a = -1 := if_pos h
theorem szT_pos {left : Int} {a : Nat} (h : ¬ left < (a : Int)) : szT left a = left - (a : Int) := if_neg h
theorem r_szIntS (n : Nat) (cs : List Cell) (left : Int) (h0 : 0 ≤ left) (h1 : left ≤ 1048576) (hn : n ≤ 9223372036854775807) : runRO (X tab) tab 31 [.v false [.ro n cs], .v false [.int .i64 left]] = some (.v false [.int .i64 (szT left n)], []) := by
  have h2 : IntKind.i64.wrap (left - (n : Int)) = left - (n : Int) := wrap_id (by omega) (by omega)
  unfold runRO
  by_cases h : left < (n : Int)
  · have h3 : left - (n : Int) < 0 := by omega
    rw [szT_neg h]
    simp (maxSteps := 4000000) -implicitDefEqProofs [tab31, a31, x_seq, x_cond, x_block, x_region, x_skip, x_exit, x_ret, head_id, runG, runOps, doOp, wantB, stepOp, AO.eff, pureOp, St.get, St.one, St.num, St.put, St.optNum, binA, binInt, List.take, List.drop, resOf, resSV, SV.map, SV.ids, A1.ids, reach, allObs, ren, pos, Ob.map, St.canon, memL, List.range, List.range.loop, h2, h3]
  · have h3 : ¬ left - (n : Int) < 0 := by omega
    rw [szT_pos h]
    simp (maxSteps := 4000000) -implicitDefEqProofs [tab31, a31, x_seq, x_cond, x_block, x_region, x_skip, x_exit, x_ret, head_id, runG, runOps, doOp, wantB, stepOp, AO.eff, pureOp, St.get, St.one, St.num, St.put, St.optNum, binA, binInt, List.take, List.drop, resOf, resSV, SV.map, SV.ids, A1.ids, reach, allObs, ren, pos, Ob.map, St.canon, memL, List.range, List.range.loop, h2, h3]
theorem r_szByteS (n : Nat) (cs : List Cell) (left : Int) (h0 : 0 ≤ left) (h1 : left ≤ 1048576) (hn : n ≤ 9223372036854775807) : runRO (X tab) tab 71 [.v false [.ro n cs], .v false [.int .i64 left]] = some (.v false [.int .i64 (szT left n)], []) := by
  have h2 : IntKind.i64.wrap (left - (n : Int)) = left - (n : Int) := wrap_id (by omega) (by omega)
  unfold runRO
  by_cases h : left < (n : Int)
  · have h3 : left - (n : Int) < 0 := by omega
    rw [szT_neg h]
    simp (maxSteps := 4000000) -implicitDefEqProofs [tab71, a71, x_seq, x_cond, x_block, x_region, x_skip, x_exit, x_ret, head_id, runG, runOps, doOp, wantB, stepOp, AO.eff, pureOp, St.get, St.one, St.num, St.put, St.optNum, binA, binInt, List.take, List.drop, resOf, resSV, SV.map, SV.ids, A1.ids, reach, allObs, ren, pos, Ob.map, St.canon, memL, List.range, List.range.loop, h2, h3]
  · have h3 : ¬ left - (n : Int) < 0 := by omega
    rw [szT_pos h]
    simp (maxSteps := 4000000) -implicitDefEqProofs [tab71, a71, x_seq, x_cond, x_block, x_region, x_skip, x_exit, x_ret, head_id, runG, runOps, doOp, wantB, stepOp, AO.eff, pureOp, St.get, St.one, St.num, St.put, St.optNum, binA, binInt, List.take, List.drop, resOf, resSV, SV.map, SV.ids, A1.ids, reach, allObs, ren, pos, Ob.map, St.canon, memL, List.range, List.range.loop, h2, h3]
theorem r_szBoolS (n : Nat) (cs : List Cell) (left : Int) (h0 : 0 ≤ left) (h1 : left ≤ 1048576) (hn : n ≤ 9223372036854775807) : runRO (X tab) tab 69 [.v false [.ro n cs], .v false [.int .i64 left]] = some (.v false [.int .i64 (szT left n)], []) := by
  have h2 : IntKind.i64.wrap (left - (n : Int)) = left - (n : Int) := wrap_id (by omega) (by omega)
  unfold runRO
  by_cases h : left < (n : Int)
  · have h3 : left - (n : Int) < 0 := by omega
    rw [szT_neg h]
    simp (maxSteps := 4000000) -implicitDefEqProofs [tab69, a69, x_seq, x_cond, x_block, x_region, x_skip, x_exit, x_ret, head_id, runG, runOps, doOp, wantB, stepOp, AO.eff, pureOp, St.get, St.one, St.num, St.put, St.optNum, binA, binInt, List.take, List.drop, resOf, resSV, SV.map, SV.ids, A1.ids, reach, allObs, ren, pos, Ob.map, St.canon, memL, List.range, List.range.loop, h2, h3]
  · have h3 : ¬ left - (n : Int) < 0 := by omega
    rw [szT_pos h]
    simp (maxSteps := 4000000) -implicitDefEqProofs [tab69, a69, x_seq, x_cond, x_block, x_region, x_skip, x_exit, x_ret, head_id, runG, runOps, doOp, wantB, stepOp, AO.eff, pureOp, St.get, St.one, St.num, St.put, St.optNum, binA, binInt, List.take, List.drop, resOf, resSV, SV.map, SV.ids, A1.ids, reach, allObs, ren, pos, Ob.map, St.canon, memL, List.range, List.range.loop, h2, h3]
theorem r_szRecS (n : Nat) (cs : List Cell) (left : Int) (h0 : 0 ≤ left) (h1 : left ≤ 1048576) (hn : n ≤ 9223372036854775807) : runRO (X tab) tab 30 [.v false [.ro n cs], .v false [.int .i64 left]] = some (.v false [.int .i64 (szT left n)], []) := by
  have h2 : IntKind.i64.wrap (left - (n : Int)) = left - (n : Int) := wrap_id (by omega) (by omega)
  unfold runRO
  by_cases h : left < (n : Int)
  · have h3 : left - (n : Int) < 0 := by omega
    rw [szT_neg h]
    simp (maxSteps := 4000000) -implicitDefEqProofs [tab30, a30, x_seq, x_cond, x_block, x_region, x_skip, x_exit, x_ret, head_id, runG, runOps, doOp, wantB, stepOp, AO.eff, pureOp, St.get, St.one, St.num, St.put, St.optNum, binA, binInt, List.take, List.drop, resOf, resSV, SV.map, SV.ids, A1.ids, reach, allObs, ren, pos, Ob.map, St.canon, memL, List.range, List.range.loop, h2, h3]
  · have h3 : ¬ left - (n : Int) < 0 := by omega
    rw [szT_pos h]
    simp (maxSteps := 4000000) -implicitDefEqProofs [tab30, a30, x_seq, x_cond, x_block, x_region, x_skip, x_exit, x_ret, head_id, runG, runOps, doOp, wantB, stepOp, AO.eff, pureOp, St.get, St.one, St.num, St.put, St.optNum, binA, binInt, List.take, List.drop, resOf, resSV, SV.map, SV.ids, A1.ids, reach, allObs, ren, pos, Ob.map, St.canon, memL, List.range, List.range.loop, h2, h3]
def SzM (m : PMeta) : Prop := Sz m.gens ∧ Sz m.bits ∧ ∀ l ∈ m.bits, Sz l
def SzP (n : PNode) : Prop := Sz n.sa ∧ Sz n.sb
def SzX (x : PWire) : Prop := Sz x.bytes
def slotsA (n : PNode) : List A1 := [.ro n.sa.length (cl .u8 n.sa), .ro n.sb.length (cl .u8 n.sb)]
/-! The cells of a struct, as a variable holds them. -/
def metaA (m : PMeta) : List A1 := [.ro m.gens.length (cl .i64 m.gens), .ro m.bits.length (m.bits.map intsC), .bool m.fine, .bool m.old, .bool m.hd, .int .i64 m.last]
def nodeA (n : PNode) : List A1 :=
  [.int .i64 n.id, .bool n.up, .bool n.prime, .ro n.image.length (cl .i64 n.image), .ro n.mt.gens.length (cl .i64 n.mt.gens), .ro n.mt.bits.length (n.mt.bits.map intsC), .bool n.mt.fine, .bool n.mt.old, .bool n.mt.hd, .int .i64 n.mt.last,
    .ro n.sa.length (cl .u8 n.sa), .ro n.sb.length (cl .u8 n.sb), .ro n.conn.length (cb n.conn), .ro n.sync.length (n.sync.map intsC), .ro n.copies.length (cb n.copies), .ro n.wait.length (cl .i64 n.wait)]
def wireA (x : PWire) : List A1 := [.int .i64 x.src, .int .i64 x.dst, .ro x.bytes.length (cl .u8 x.bytes)]
def recA (r : PRec) : List A1 := [.int .i64 r.cell, .int .i64 r.up]
theorem nodesC_at {l : List PNode} {i : Nat} {x : PNode} {r : List PNode} (h : l.drop i = x :: r) : (nodesC l).drop (i * 16) = nodeC x ++ nodesC r := by
  induction l generalizing i with
  | nil => simp at h
  | cons y l ih =>
    cases i with
    | zero => simp at h; obtain ⟨rfl, rfl⟩ := h; simp [nodesC, List.flatMap_cons]
    | succ i =>
      rw [List.drop_succ_cons] at h
      rw [← ih h]
      have e : nodesC (y :: l) = nodeC y ++ nodesC l := by simp [nodesC, List.flatMap_cons]
      rw [e, List.drop_append, List.drop_of_length_le (by simp [nodeC]; omega)]
      simp [nodeC, Nat.succ_mul]
theorem wiresC_at {l : List PWire} {i : Nat} {x : PWire} {r : List PWire} (h : l.drop i = x :: r) : (wiresC l).drop (i * 3) = wireC x ++ wiresC r := by
  induction l generalizing i with
  | nil => simp at h
  | cons y l ih =>
    cases i with
    | zero => simp at h; obtain ⟨rfl, rfl⟩ := h; simp [wiresC, List.flatMap_cons]
    | succ i =>
      rw [List.drop_succ_cons] at h
      rw [← ih h]
      have e : wiresC (y :: l) = wireC y ++ wiresC l := by simp [wiresC, List.flatMap_cons]
      rw [e, List.drop_append, List.drop_of_length_le (by simp [wireC]; omega)]
      simp [wireC, Nat.succ_mul]
theorem recsC_at {l : List PRec} {i : Nat} {x : PRec} {r : List PRec} (h : l.drop i = x :: r) : (recsC l).drop (i * 2) = recC x ++ recsC r := by
  induction l generalizing i with
  | nil => simp at h
  | cons y l ih =>
    cases i with
    | zero => simp at h; obtain ⟨rfl, rfl⟩ := h; simp [recsC, List.flatMap_cons]
    | succ i =>
      rw [List.drop_succ_cons] at h
      rw [← ih h]
      have e : recsC (y :: l) = recC y ++ recsC l := by simp [recsC, List.flatMap_cons]
      rw [e, List.drop_append, List.drop_of_length_le (by simp [recC]; omega)]
      simp [recC, Nat.succ_mul]
theorem intss_at {l : List (List Int)} {i : Nat} {x : List Int} {r : List (List Int)} (h : l.drop i = x :: r) : (l.map intsC).drop i = intsC x :: r.map intsC := by
  rw [← List.map_drop, h]
  rfl
theorem nodesC_len (l : List PNode) : (nodesC l).length = l.length * 16 := by
  induction l with
  | nil => rfl
  | cons y l ih => simp only [nodesC, List.flatMap_cons, List.length_append] at ih ⊢; rw [ih]; simp [nodeC]; omega
theorem wiresC_len (l : List PWire) : (wiresC l).length = l.length * 3 := by
  induction l with
  | nil => rfl
  | cons y l ih => simp only [wiresC, List.flatMap_cons, List.length_append] at ih ⊢; rw [ih]; simp [wireC]; omega
theorem recsC_len (l : List PRec) : (recsC l).length = l.length * 2 := by
  induction l with
  | nil => rfl
  | cons y l ih => simp only [recsC, List.flatMap_cons, List.length_append] at ih ⊢; rw [ih]; simp [recC]; omega
theorem dropx_lt {α : Type} {l : List α} {i : Nat} {x : α} {r : List α} (h : l.drop i = x :: r) : i < l.length := by
  rcases Nat.lt_or_ge i l.length with h1 | h1
  · exact h1
  · rw [List.drop_eq_nil_of_le h1] at h; cases h
theorem dropx_next {α : Type} {l : List α} {i : Nat} {x : α} {r : List α} (h : l.drop i = x :: r) : l.drop (i + 1) = r := by rw [← List.tail_drop, h]; rfl
theorem dropx_end {α : Type} {l : List α} {i : Nat} (h : l.drop i = []) (hi : i ≤ l.length) : i = l.length := by
  have := congrArg List.length h
  simp at this
  omega
theorem dropx_mem {α : Type} {l : List α} {i : Nat} {x : α} {r : List α} (h : l.drop i = x :: r) : x ∈ l := List.mem_of_mem_drop (by rw [h]; exact List.mem_cons_self ..)
/-- How many numbers, bytes and so on. -/
def totS (l : List (List Int)) : Nat := l.length + (l.map List.length).sum
def totM (m : PMeta) : Nat := m.gens.length + totS m.bits
def totN (n : PNode) : Nat := n.image.length + (n.mt.gens.length + (n.mt.bits.length + (n.mt.bits.map List.length).sum) + (n.sa.length + n.sb.length + (n.conn.length + (n.sync.length + (n.sync.map List.length).sum + (n.copies.length + n.wait.length)))))
def totX (x : PWire) : Nat := x.bytes.length
def totW (w : PWorld) : Nat := (w.nodes.length + (w.nodes.map totN).sum) + ((w.net.length + (w.net.map totX).sum) + (w.log.length + w.safe.length))
theorem sum_drop {α : Type} {f : α → Nat} {l : List α} {i : Nat} {x : α} {r : List α} (h : l.drop i = x :: r) : ((l.drop i).map f).sum = f x + ((l.drop (i + 1)).map f).sum := by
  rw [dropx_next h, h]
  simp
def S_szIntSS (l : List (List Int)) (left : Int) (i : Nat) : XS := ⟨⟨[.v false [.ro l.length (l.map intsC)], .v false [.int .i64 (left)], .bad, .bad, .bad, .v false [.int .i64 (i)], .bad, .bad, .bad, .bad, .bad, .bad, .bad, .bad, .bad, .bad, .bad, .bad, .bad, .bad, .bad, .bad, .bad, .bad, .bad, .bad, .bad], memL [], []⟩, 0⟩
def R_szIntSS (left : Int) (n : Nat) : Option (AE × XS) := if left < (n : Int) then some (.ret, ⟨⟨[.bad, .bad, .bad, .bad, .v false [.int .i64 ((-1))], .bad, .bad, .bad, .bad, .bad, .bad, .bad, .bad, .bad, .bad, .bad, .bad, .bad, .bad, .bad, .bad, .bad, .bad, .bad, .bad, .bad, .bad], memL [], []⟩, 0⟩) else some (.exit 0, ⟨⟨[.bad, .v false [.int .i64 ((left - (n : Int)))], .bad, .bad, .bad, .bad, .bad, .bad, .bad, .bad, .bad, .bad, .bad, .bad, .bad, .bad, .bad, .bad, .bad, .bad, .bad, .bad, .bad, .bad, .bad, .bad, .bad], memL [], []⟩, 0⟩)
theorem loop_szIntSS (l : List (List Int)) (hz : ∀ x ∈ l, Sz x) (hn : l.length ≤ 1048576) (left0 : Int) (h1 : left0 ≤ 1048576) (h0 : 0 ≤ left0) {x : XS} (hx : head true d70_0 x = S_szIntSS l left0 0) : X tab l70_0 x = R_szIntSS left0 (l.map List.length).sum := by
  refine loopX (σ := Nat × Int) (fun s => S_szIntSS l s.2 s.1) (fun s => l.length - s.1) (fun s => s.1 ≤ l.length ∧ 0 ≤ s.2 ∧ s.2 ≤ 1048576 ∧ R_szIntSS s.2 ((l.drop s.1).map List.length).sum = R_szIntSS left0 (l.map List.length).sum) _ (fun ⟨i, left⟩ ⟨hi, hl0, hl1, hs⟩ => ?_) (0, left0) ⟨Nat.zero_le _, h0, h1, rfl⟩ x hx
  simp only at hi hl0 hl1 hs
  rw [← hs]
  cases hl : l.drop i with
  | nil =>
    obtain rfl := dropx_end hl hi
    refine .inr ⟨?_, ?_⟩
    · simp (maxSteps := 4000000) -implicitDefEqProofs [b70_0, S_szIntSS, x_seq, x_cond, x_block, x_region, x_skip, x_exit, x_ret, head_id, runG, runOps, doOp, wantB, stepOp, AO.eff, pureOp, St.get, St.one, St.num, St.put, St.optNum, binA, binInt, List.take, List.drop, R_szIntSS, hl0]
      rw [if_neg (by omega)]
      change _ = _
      kernel_rfl
    · simp only [List.map_nil, List.sum_nil, R_szIntSS]; rw [if_neg (by simpa using hl0)]; intro z hz; cases hz
  | cons y r =>
    have hi' := dropx_lt hl
    have q1 : (0 ≤ (i : Int) ∧ (i : Int) < (l.length : Int)) := by omega
    have q2 := intss_at hl
    have q4 : IntKind.i64.wrap ((i : Int) + 1) = ((i + 1 : Nat) : Int) := by rw [wrap_id (by omega) (by omega)]; omega
    have q5 := (fun (x : List Int) (hx : Sz x) => r_szIntS x.length (cl .i64 x) left hl0 hl1 (by simp only [Sz, maxLen] at hx; omega)) y (hz y (dropx_mem hl))
    have q6 := sum_drop (f := List.length) hl
    rw [← hl, q6]
    simp only [intsC, List.cons_append, List.nil_append] at q2 q5
    by_cases hlt : left < ((List.length y : Nat) : Int)
    · rw [szT_neg hlt] at q5
      refine .inr ⟨?_, ?_⟩
      · simp (maxSteps := 4000000) -implicitDefEqProofs [b70_0, S_szIntSS, x_seq, x_cond, x_block, x_region, x_skip, x_exit, x_ret, head_id, runG, runOps, doOp, wantB, stepOp, AO.eff, pureOp, St.get, St.one, St.num, St.put, St.optNum, binA, binInt, List.take, List.drop, callRO, addMem_nil, roArgs, roL, roA, srcCells, A1.ownB, addMem, shift, ren, SV.map, Ob.map, Ob.noRo, SV.noRo, A1.noRo, List.range, List.range.loop, fromRo, q1, q2, q5, hi', R_szIntSS]
        rw [if_pos (by omega)]
        change _ = _
        kernel_rfl
      · simp only [R_szIntSS]; rw [if_pos (by omega)]; intro z hz; cases hz
    · rw [szT_pos hlt] at q5
      have q7 : ¬ left - ((List.length y : Nat) : Int) < 0 := by omega
      refine .inl ⟨(i + 1, left - ((List.length y : Nat) : Int)), ?_, by simp only; omega, by simp only; omega, by simp only; omega, by simp only; omega, ?_⟩
      · generalize List.length y = tt at *
        simp (maxSteps := 4000000) -implicitDefEqProofs [b70_0, S_szIntSS, x_seq, x_cond, x_block, x_region, x_skip, x_exit, x_ret, head_id, runG, runOps, doOp, wantB, stepOp, AO.eff, pureOp, St.get, St.one, St.num, St.put, St.optNum, binA, binInt, List.take, List.drop, callRO, addMem_nil, roArgs, roL, roA, srcCells, A1.ownB, addMem, shift, ren, SV.map, Ob.map, Ob.noRo, SV.noRo, A1.noRo, List.range, List.range.loop, fromRo, q1, q2, q4, q5, q7, hi', -Int.natCast_add]
        change _ = _
        kernel_rfl
      · simp only [R_szIntSS]
        generalize ((l.drop (i + 1)).map List.length).sum = u
        by_cases hu : left < ((List.length y + u : Nat) : Int)
        · rw [if_pos hu, if_pos (by omega)]
        · rw [if_neg hu, if_neg (by omega)]
          rw [show left - ((List.length y : Nat) : Int) - (u : Int) = left - ((List.length y + u : Nat) : Int) by omega]
theorem r_szIntSS (l : List (List Int)) (hs : Sz l) (hz : ∀ x ∈ l, Sz x) (left : Int) (h0 : 0 ≤ left) (h1 : left ≤ 1048576) : runRO (X tab) tab 70 [.v false [.ro l.length (l.map intsC)], .v false [.int .i64 left]] = some (.v false [.int .i64 (szT left (l.length + (l.map List.length).sum))], []) := by
  simp only [Sz, maxLen] at hs
  have h2 : IntKind.i64.wrap (left - (l.length : Int)) = left - (l.length : Int) := wrap_id (by omega) (by omega)
  unfold runRO
  by_cases h : left < (l.length : Int)
  · have h3 : left - (l.length : Int) < 0 := by omega
    rw [szT_neg (by omega)]
    simp (maxSteps := 4000000) -implicitDefEqProofs [tab70, a70, x_seq, x_cond, x_block, x_region, x_skip, x_exit, x_ret, head_id, runG, runOps, doOp, wantB, stepOp, AO.eff, pureOp, St.get, St.one, St.num, St.put, St.optNum, binA, binInt, List.take, List.drop, resOf, resSV, SV.map, SV.ids, A1.ids, reach, allObs, ren, pos, Ob.map, St.canon, memL, List.range, List.range.loop, h2, h3]
  · have h3 : ¬ left - (l.length : Int) < 0 := by omega
    simp (maxSteps := 4000000) -implicitDefEqProofs [tab70, a70, x_seq, x_cond, x_block, x_region, x_skip, x_exit, x_ret, head_id, runG, runOps, doOp, wantB, stepOp, AO.eff, pureOp, St.get, St.one, St.num, St.put, St.optNum, binA, binInt, List.take, List.drop, h2, h3]
    rw [loop_szIntSS l hz (by omega) (left - (l.length : Int)) (by omega) (by omega) (by change _ = _; kernel_rfl)]
    rw [← szT_add h]
    generalize (l.map List.length).sum = u
    by_cases hu : left - (l.length : Int) < (u : Int)
    · rw [szT_neg hu]
      simp only [R_szIntSS, if_pos hu]
      simp (maxSteps := 4000000) -implicitDefEqProofs [x_seq, x_cond, x_block, x_region, x_skip, x_exit, x_ret, head_id, runG, runOps, doOp, wantB, stepOp, AO.eff, pureOp, St.get, St.one, St.num, St.put, St.optNum, binA, binInt, List.take, List.drop, resOf, resSV, SV.map, SV.ids, A1.ids, reach, allObs, ren, pos, Ob.map, St.canon, memL, List.range, List.range.loop]
    · rw [szT_pos hu]
      simp only [R_szIntSS, if_neg hu]
      simp (maxSteps := 4000000) -implicitDefEqProofs [x_seq, x_cond, x_block, x_region, x_skip, x_exit, x_ret, head_id, runG, runOps, doOp, wantB, stepOp, AO.eff, pureOp, St.get, St.one, St.num, St.put, St.optNum, binA, binInt, List.take, List.drop, resOf, resSV, SV.map, SV.ids, A1.ids, reach, allObs, ren, pos, Ob.map, St.canon, memL, List.range, List.range.loop]
theorem sz_le {α : Type} {l : List α} (h : l.length ≤ 2 ^ 63 - 1) : l.length ≤ 9223372036854775807 := by omega
theorem r_szMeta (x : PMeta) (hz : SzM x) (left : Int) (h0 : 0 ≤ left) (h1 : left ≤ 1048576) : runRO (X tab) tab 67 [.v true (metaA x), .v false [.int .i64 left]] = some (.v false [.int .i64 (szT left (x.gens.length + (x.bits.length + (x.bits.map List.length).sum)))], []) := by
  obtain ⟨z1, z2, z3⟩ := hz
  unfold runRO
  simp only [Sz, maxLen] at z1 z2 z3
  have q1 := r_szIntS x.gens.length (cl .i64 x.gens) (left) (by omega) (by omega) (by omega)
  by_cases c1 : left < ((x.gens.length : Nat) : Int)
  · rw [szT_neg c1] at q1
    rw [szT_neg (show left < ((x.gens.length + (x.bits.length + (x.bits.map List.length).sum) : Nat) : Int) by omega)]
    simp only [metaA] at *
    simp (maxSteps := 4000000) -implicitDefEqProofs [tab67, a67, x_seq, x_cond, x_block, x_region, x_skip, x_exit, x_ret, head_id, runG, runOps, doOp, wantB, stepOp, AO.eff, pureOp, St.get, St.one, St.num, St.put, St.optNum, binA, binInt, List.take, List.drop, effOp2, effOp, memL_app, stoRow, cellsAt, toCells, toCell, scalar_int, scalar_bool, scalar_str, scalar_sl, updAt, fromRo, upd, callRO, addMem_nil, roArgs, roL, roA, srcCells, A1.ownB, addMem, shift, ren, SV.map, Ob.map, Ob.noRo, SV.noRo, A1.noRo, List.range, List.range.loop, resOf, resSV, SV.map, SV.ids, A1.ids, reach, allObs, ren, pos, Ob.map, St.canon, memL, List.range, List.range.loop, q1, -Int.natCast_add]
  · rw [szT_pos c1] at q1
    have n1 : ¬ left - ((x.gens.length : Nat) : Int) < 0 := by omega
    rw [← szT_add c1]
    have q2 := r_szIntSS x.bits (by simpa only [Sz, maxLen] using z2) (by simpa only [Sz, maxLen] using z3) (left - ((x.gens.length : Nat) : Int)) (by omega) (by omega)
    by_cases c2 : left - ((x.gens.length : Nat) : Int) < ((x.bits.length + (x.bits.map List.length).sum : Nat) : Int)
    · rw [szT_neg c2] at q2
      rw [szT_neg (show left - ((x.gens.length : Nat) : Int) < ((x.bits.length + (x.bits.map List.length).sum : Nat) : Int) by omega)]
      simp only [metaA] at *
      simp (maxSteps := 4000000) -implicitDefEqProofs [tab67, a67, x_seq, x_cond, x_block, x_region, x_skip, x_exit, x_ret, head_id, runG, runOps, doOp, wantB, stepOp, AO.eff, pureOp, St.get, St.one, St.num, St.put, St.optNum, binA, binInt, List.take, List.drop, effOp2, effOp, memL_app, stoRow, cellsAt, toCells, toCell, scalar_int, scalar_bool, scalar_str, scalar_sl, updAt, fromRo, upd, callRO, addMem_nil, roArgs, roL, roA, srcCells, A1.ownB, addMem, shift, ren, SV.map, Ob.map, Ob.noRo, SV.noRo, A1.noRo, List.range, List.range.loop, resOf, resSV, SV.map, SV.ids, A1.ids, reach, allObs, ren, pos, Ob.map, St.canon, memL, List.range, List.range.loop, q1, n1, q2, -Int.natCast_add]
    · rw [szT_pos c2] at q2
      have n2 : ¬ left - ((x.gens.length : Nat) : Int) - ((x.bits.length + (x.bits.map List.length).sum : Nat) : Int) < 0 := by omega
      rw [szT_pos c2]
      simp only [metaA] at *
      simp (maxSteps := 4000000) -implicitDefEqProofs [tab67, a67, x_seq, x_cond, x_block, x_region, x_skip, x_exit, x_ret, head_id, runG, runOps, doOp, wantB, stepOp, AO.eff, pureOp, St.get, St.one, St.num, St.put, St.optNum, binA, binInt, List.take, List.drop, effOp2, effOp, memL_app, stoRow, cellsAt, toCells, toCell, scalar_int, scalar_bool, scalar_str, scalar_sl, updAt, fromRo, upd, callRO, addMem_nil, roArgs, roL, roA, srcCells, A1.ownB, addMem, shift, ren, SV.map, Ob.map, Ob.noRo, SV.noRo, A1.noRo, List.range, List.range.loop, resOf, resSV, SV.map, SV.ids, A1.ids, reach, allObs, ren, pos, Ob.map, St.canon, memL, List.range, List.range.loop, q1, n1, q2, n2, -Int.natCast_add]
theorem r_szSlots (x : (PNode)) (hz : SzP x) (left : Int) (h0 : 0 ≤ left) (h1 : left ≤ 1048576) : runRO (X tab) tab 68 [.v true (slotsA x), .v false [.int .i64 left]] = some (.v false [.int .i64 (szT left (x.sa.length + (x.sb.length)))], []) := by
  obtain ⟨z1, z2⟩ := hz
  unfold runRO
  simp only [Sz, maxLen] at z1 z2
  have q1 := r_szByteS x.sa.length (cl .u8 x.sa) (left) (by omega) (by omega) (by omega)
  by_cases c1 : left < ((x.sa.length : Nat) : Int)
  · rw [szT_neg c1] at q1
    rw [szT_neg (show left < ((x.sa.length + (x.sb.length) : Nat) : Int) by omega)]
    simp only [slotsA] at *
    simp (maxSteps := 4000000) -implicitDefEqProofs [tab68, a68, x_seq, x_cond, x_block, x_region, x_skip, x_exit, x_ret, head_id, runG, runOps, doOp, wantB, stepOp, AO.eff, pureOp, St.get, St.one, St.num, St.put, St.optNum, binA, binInt, List.take, List.drop, effOp2, effOp, memL_app, stoRow, cellsAt, toCells, toCell, scalar_int, scalar_bool, scalar_str, scalar_sl, updAt, fromRo, upd, callRO, addMem_nil, roArgs, roL, roA, srcCells, A1.ownB, addMem, shift, ren, SV.map, Ob.map, Ob.noRo, SV.noRo, A1.noRo, List.range, List.range.loop, resOf, resSV, SV.map, SV.ids, A1.ids, reach, allObs, ren, pos, Ob.map, St.canon, memL, List.range, List.range.loop, q1, -Int.natCast_add]
  · rw [szT_pos c1] at q1
    have n1 : ¬ left - ((x.sa.length : Nat) : Int) < 0 := by omega
    rw [← szT_add c1]
    have q2 := r_szByteS x.sb.length (cl .u8 x.sb) (left - ((x.sa.length : Nat) : Int)) (by omega) (by omega) (by omega)
    by_cases c2 : left - ((x.sa.length : Nat) : Int) < ((x.sb.length : Nat) : Int)
    · rw [szT_neg c2] at q2
      rw [szT_neg (show left - ((x.sa.length : Nat) : Int) < ((x.sb.length : Nat) : Int) by omega)]
      simp only [slotsA] at *
      simp (maxSteps := 4000000) -implicitDefEqProofs [tab68, a68, x_seq, x_cond, x_block, x_region, x_skip, x_exit, x_ret, head_id, runG, runOps, doOp, wantB, stepOp, AO.eff, pureOp, St.get, St.one, St.num, St.put, St.optNum, binA, binInt, List.take, List.drop, effOp2, effOp, memL_app, stoRow, cellsAt, toCells, toCell, scalar_int, scalar_bool, scalar_str, scalar_sl, updAt, fromRo, upd, callRO, addMem_nil, roArgs, roL, roA, srcCells, A1.ownB, addMem, shift, ren, SV.map, Ob.map, Ob.noRo, SV.noRo, A1.noRo, List.range, List.range.loop, resOf, resSV, SV.map, SV.ids, A1.ids, reach, allObs, ren, pos, Ob.map, St.canon, memL, List.range, List.range.loop, q1, n1, q2, -Int.natCast_add]
    · rw [szT_pos c2] at q2
      have n2 : ¬ left - ((x.sa.length : Nat) : Int) - ((x.sb.length : Nat) : Int) < 0 := by omega
      rw [szT_pos c2]
      simp only [slotsA] at *
      simp (maxSteps := 4000000) -implicitDefEqProofs [tab68, a68, x_seq, x_cond, x_block, x_region, x_skip, x_exit, x_ret, head_id, runG, runOps, doOp, wantB, stepOp, AO.eff, pureOp, St.get, St.one, St.num, St.put, St.optNum, binA, binInt, List.take, List.drop, effOp2, effOp, memL_app, stoRow, cellsAt, toCells, toCell, scalar_int, scalar_bool, scalar_str, scalar_sl, updAt, fromRo, upd, callRO, addMem_nil, roArgs, roL, roA, srcCells, A1.ownB, addMem, shift, ren, SV.map, Ob.map, Ob.noRo, SV.noRo, A1.noRo, List.range, List.range.loop, resOf, resSV, SV.map, SV.ids, A1.ids, reach, allObs, ren, pos, Ob.map, St.canon, memL, List.range, List.range.loop, q1, n1, q2, n2, -Int.natCast_add]
theorem r_szNode (x : PNode) (hz : SzN x) (left : Int) (h0 : 0 ≤ left) (h1 : left ≤ 1048576) : runRO (X tab) tab 51 [.v true (nodeA x), .v false [.int .i64 left]] = some (.v false [.int .i64 (szT left (x.image.length + (x.mt.gens.length + (x.mt.bits.length + (x.mt.bits.map List.length).sum) + (x.sa.length + x.sb.length + (x.conn.length + (x.sync.length + (x.sync.map List.length).sum + (x.copies.length + (x.wait.length))))))))], []) := by
  obtain ⟨z1, z2, z3, z4, z5, z6, z7, z8, z9, z10, z11⟩ := hz
  unfold runRO
  simp only [Sz, maxLen] at z1 z2 z3 z4 z5 z6 z7 z8 z9 z10 z11
  have q1 := r_szIntS x.image.length (cl .i64 x.image) (left) (by omega) (by omega) (by omega)
  by_cases c1 : left < ((x.image.length : Nat) : Int)
  · rw [szT_neg c1] at q1
    rw [szT_neg (show left < ((x.image.length + (x.mt.gens.length + (x.mt.bits.length + (x.mt.bits.map List.length).sum) + (x.sa.length + x.sb.length + (x.conn.length + (x.sync.length + (x.sync.map List.length).sum + (x.copies.length + (x.wait.length)))))) : Nat) : Int) by omega)]
    simp only [nodeA, metaA, slotsA] at *
    simp (maxSteps := 4000000) -implicitDefEqProofs [tab51, a51, x_seq, x_cond, x_block, x_region, x_skip, x_exit, x_ret, head_id, runG, runOps, doOp, wantB, stepOp, AO.eff, pureOp, St.get, St.one, St.num, St.put, St.optNum, binA, binInt, List.take, List.drop, effOp2, effOp, memL_app, stoRow, cellsAt, toCells, toCell, scalar_int, scalar_bool, scalar_str, scalar_sl, updAt, fromRo, upd, callRO, addMem_nil, roArgs, roL, roA, srcCells, A1.ownB, addMem, shift, ren, SV.map, Ob.map, Ob.noRo, SV.noRo, A1.noRo, List.range, List.range.loop, resOf, resSV, SV.map, SV.ids, A1.ids, reach, allObs, ren, pos, Ob.map, St.canon, memL, List.range, List.range.loop, q1, -Int.natCast_add]
  · rw [szT_pos c1] at q1
    have n1 : ¬ left - ((x.image.length : Nat) : Int) < 0 := by omega
    rw [← szT_add c1]
    have q2 := r_szMeta x.mt ⟨by simpa only [Sz, maxLen] using z2, by simpa only [Sz, maxLen] using z3, by simpa only [Sz, maxLen] using z4⟩ (left - ((x.image.length : Nat) : Int)) (by omega) (by omega)
    by_cases c2 : left - ((x.image.length : Nat) : Int) < ((x.mt.gens.length + (x.mt.bits.length + (x.mt.bits.map List.length).sum) : Nat) : Int)
    · rw [szT_neg c2] at q2
      rw [szT_neg (show left - ((x.image.length : Nat) : Int) < ((x.mt.gens.length + (x.mt.bits.length + (x.mt.bits.map List.length).sum) + (x.sa.length + x.sb.length + (x.conn.length + (x.sync.length + (x.sync.map List.length).sum + (x.copies.length + (x.wait.length))))) : Nat) : Int) by omega)]
      simp only [nodeA, metaA, slotsA] at *
      simp (maxSteps := 4000000) -implicitDefEqProofs [tab51, a51, x_seq, x_cond, x_block, x_region, x_skip, x_exit, x_ret, head_id, runG, runOps, doOp, wantB, stepOp, AO.eff, pureOp, St.get, St.one, St.num, St.put, St.optNum, binA, binInt, List.take, List.drop, effOp2, effOp, memL_app, stoRow, cellsAt, toCells, toCell, scalar_int, scalar_bool, scalar_str, scalar_sl, updAt, fromRo, upd, callRO, addMem_nil, roArgs, roL, roA, srcCells, A1.ownB, addMem, shift, ren, SV.map, Ob.map, Ob.noRo, SV.noRo, A1.noRo, List.range, List.range.loop, resOf, resSV, SV.map, SV.ids, A1.ids, reach, allObs, ren, pos, Ob.map, St.canon, memL, List.range, List.range.loop, q1, n1, q2, -Int.natCast_add]
    · rw [szT_pos c2] at q2
      have n2 : ¬ left - ((x.image.length : Nat) : Int) - ((x.mt.gens.length + (x.mt.bits.length + (x.mt.bits.map List.length).sum) : Nat) : Int) < 0 := by omega
      rw [← szT_add c2]
      have q3 := r_szSlots x ⟨by simpa only [Sz, maxLen] using z5, by simpa only [Sz, maxLen] using z6⟩ (left - ((x.image.length : Nat) : Int) - ((x.mt.gens.length + (x.mt.bits.length + (x.mt.bits.map List.length).sum) : Nat) : Int)) (by omega) (by omega)
      by_cases c3 : left - ((x.image.length : Nat) : Int) - ((x.mt.gens.length + (x.mt.bits.length + (x.mt.bits.map List.length).sum) : Nat) : Int) < ((x.sa.length + x.sb.length : Nat) : Int)
      · rw [szT_neg c3] at q3
        rw [szT_neg (show left - ((x.image.length : Nat) : Int) - ((x.mt.gens.length + (x.mt.bits.length + (x.mt.bits.map List.length).sum) : Nat) : Int) < ((x.sa.length + x.sb.length + (x.conn.length + (x.sync.length + (x.sync.map List.length).sum + (x.copies.length + (x.wait.length)))) : Nat) : Int) by omega)]
        simp only [nodeA, metaA, slotsA] at *
        simp (maxSteps := 4000000) -implicitDefEqProofs [tab51, a51, x_seq, x_cond, x_block, x_region, x_skip, x_exit, x_ret, head_id, runG, runOps, doOp, wantB, stepOp, AO.eff, pureOp, St.get, St.one, St.num, St.put, St.optNum, binA, binInt, List.take, List.drop, effOp2, effOp, memL_app, stoRow, cellsAt, toCells, toCell, scalar_int, scalar_bool, scalar_str, scalar_sl, updAt, fromRo, upd, callRO, addMem_nil, roArgs, roL, roA, srcCells, A1.ownB, addMem, shift, ren, SV.map, Ob.map, Ob.noRo, SV.noRo, A1.noRo, List.range, List.range.loop, resOf, resSV, SV.map, SV.ids, A1.ids, reach, allObs, ren, pos, Ob.map, St.canon, memL, List.range, List.range.loop, q1, n1, q2, n2, q3, -Int.natCast_add]
      · rw [szT_pos c3] at q3
        have n3 : ¬ left - ((x.image.length : Nat) : Int) - ((x.mt.gens.length + (x.mt.bits.length + (x.mt.bits.map List.length).sum) : Nat) : Int) - ((x.sa.length + x.sb.length : Nat) : Int) < 0 := by omega
        rw [← szT_add c3]
        have q4 := r_szBoolS x.conn.length (cb x.conn) (left - ((x.image.length : Nat) : Int) - ((x.mt.gens.length + (x.mt.bits.length + (x.mt.bits.map List.length).sum) : Nat) : Int) - ((x.sa.length + x.sb.length : Nat) : Int)) (by omega) (by omega) (by omega)
        by_cases c4 : left - ((x.image.length : Nat) : Int) - ((x.mt.gens.length + (x.mt.bits.length + (x.mt.bits.map List.length).sum) : Nat) : Int) - ((x.sa.length + x.sb.length : Nat) : Int) < ((x.conn.length : Nat) : Int)
        · rw [szT_neg c4] at q4
          rw [szT_neg (show left - ((x.image.length : Nat) : Int) - ((x.mt.gens.length + (x.mt.bits.length + (x.mt.bits.map List.length).sum) : Nat) : Int) - ((x.sa.length + x.sb.length : Nat) : Int) < ((x.conn.length + (x.sync.length + (x.sync.map List.length).sum + (x.copies.length + (x.wait.length))) : Nat) : Int) by omega)]
          simp only [nodeA, metaA, slotsA] at *
          simp (maxSteps := 4000000) -implicitDefEqProofs [tab51, a51, x_seq, x_cond, x_block, x_region, x_skip, x_exit, x_ret, head_id, runG, runOps, doOp, wantB, stepOp, AO.eff, pureOp, St.get, St.one, St.num, St.put, St.optNum, binA, binInt, List.take, List.drop, effOp2, effOp, memL_app, stoRow, cellsAt, toCells, toCell, scalar_int, scalar_bool, scalar_str, scalar_sl, updAt, fromRo, upd, callRO, addMem_nil, roArgs, roL, roA, srcCells, A1.ownB, addMem, shift, ren, SV.map, Ob.map, Ob.noRo, SV.noRo, A1.noRo, List.range, List.range.loop, resOf, resSV, SV.map, SV.ids, A1.ids, reach, allObs, ren, pos, Ob.map, St.canon, memL, List.range, List.range.loop, q1, n1, q2, n2, q3, n3, q4, -Int.natCast_add]
        · rw [szT_pos c4] at q4
          have n4 : ¬ left - ((x.image.length : Nat) : Int) - ((x.mt.gens.length + (x.mt.bits.length + (x.mt.bits.map List.length).sum) : Nat) : Int) - ((x.sa.length + x.sb.length : Nat) : Int) - ((x.conn.length : Nat) : Int) < 0 := by omega
          rw [← szT_add c4]
          have q5 := r_szIntSS x.sync (by simpa only [Sz, maxLen] using z8) (by simpa only [Sz, maxLen] using z9) (left - ((x.image.length : Nat) : Int) - ((x.mt.gens.length + (x.mt.bits.length + (x.mt.bits.map List.length).sum) : Nat) : Int) - ((x.sa.length + x.sb.length : Nat) : Int) - ((x.conn.length : Nat) : Int)) (by omega) (by omega)
          by_cases c5 : left - ((x.image.length : Nat) : Int) - ((x.mt.gens.length + (x.mt.bits.length + (x.mt.bits.map List.length).sum) : Nat) : Int) - ((x.sa.length + x.sb.length : Nat) : Int) - ((x.conn.length : Nat) : Int) < ((x.sync.length + (x.sync.map List.length).sum : Nat) : Int)
          · rw [szT_neg c5] at q5
            rw [szT_neg (show left - ((x.image.length : Nat) : Int) - ((x.mt.gens.length + (x.mt.bits.length + (x.mt.bits.map List.length).sum) : Nat) : Int) - ((x.sa.length + x.sb.length : Nat) : Int) - ((x.conn.length : Nat) : Int) < ((x.sync.length + (x.sync.map List.length).sum + (x.copies.length + (x.wait.length)) : Nat) : Int) by omega)]
            simp only [nodeA, metaA, slotsA] at *
            simp (maxSteps := 4000000) -implicitDefEqProofs [tab51, a51, x_seq, x_cond, x_block, x_region, x_skip, x_exit, x_ret, head_id, runG, runOps, doOp, wantB, stepOp, AO.eff, pureOp, St.get, St.one, St.num, St.put, St.optNum, binA, binInt, List.take, List.drop, effOp2, effOp, memL_app, stoRow, cellsAt, toCells, toCell, scalar_int, scalar_bool, scalar_str, scalar_sl, updAt, fromRo, upd, callRO, addMem_nil, roArgs, roL, roA, srcCells, A1.ownB, addMem, shift, ren, SV.map, Ob.map, Ob.noRo, SV.noRo, A1.noRo, List.range, List.range.loop, resOf, resSV, SV.map, SV.ids, A1.ids, reach, allObs, ren, pos, Ob.map, St.canon, memL, List.range, List.range.loop, q1, n1, q2, n2, q3, n3, q4, n4, q5, -Int.natCast_add]
          · rw [szT_pos c5] at q5
            have n5 : ¬ left - ((x.image.length : Nat) : Int) - ((x.mt.gens.length + (x.mt.bits.length + (x.mt.bits.map List.length).sum) : Nat) : Int) - ((x.sa.length + x.sb.length : Nat) : Int) - ((x.conn.length : Nat) : Int) - ((x.sync.length + (x.sync.map List.length).sum : Nat) : Int) < 0 := by omega
            rw [← szT_add c5]
            have q6 := r_szBoolS x.copies.length (cb x.copies) (left - ((x.image.length : Nat) : Int) - ((x.mt.gens.length + (x.mt.bits.length + (x.mt.bits.map List.length).sum) : Nat) : Int) - ((x.sa.length + x.sb.length : Nat) : Int) - ((x.conn.length : Nat) : Int) - ((x.sync.length + (x.sync.map List.length).sum : Nat) : Int)) (by omega) (by omega) (by omega)
            by_cases c6 : left - ((x.image.length : Nat) : Int) - ((x.mt.gens.length + (x.mt.bits.length + (x.mt.bits.map List.length).sum) : Nat) : Int) - ((x.sa.length + x.sb.length : Nat) : Int) - ((x.conn.length : Nat) : Int) - ((x.sync.length + (x.sync.map List.length).sum : Nat) : Int) < ((x.copies.length : Nat) : Int)
            · rw [szT_neg c6] at q6
              rw [szT_neg (show left - ((x.image.length : Nat) : Int) - ((x.mt.gens.length + (x.mt.bits.length + (x.mt.bits.map List.length).sum) : Nat) : Int) - ((x.sa.length + x.sb.length : Nat) : Int) - ((x.conn.length : Nat) : Int) - ((x.sync.length + (x.sync.map List.length).sum : Nat) : Int) < ((x.copies.length + (x.wait.length) : Nat) : Int) by omega)]
              simp only [nodeA, metaA, slotsA] at *
              simp (maxSteps := 4000000) -implicitDefEqProofs [tab51, a51, x_seq, x_cond, x_block, x_region, x_skip, x_exit, x_ret, head_id, runG, runOps, doOp, wantB, stepOp, AO.eff, pureOp, St.get, St.one, St.num, St.put, St.optNum, binA, binInt, List.take, List.drop, effOp2, effOp, memL_app, stoRow, cellsAt, toCells, toCell, scalar_int, scalar_bool, scalar_str, scalar_sl, updAt, fromRo, upd, callRO, addMem_nil, roArgs, roL, roA, srcCells, A1.ownB, addMem, shift, ren, SV.map, Ob.map, Ob.noRo, SV.noRo, A1.noRo, List.range, List.range.loop, resOf, resSV, SV.map, SV.ids, A1.ids, reach, allObs, ren, pos, Ob.map, St.canon, memL, List.range, List.range.loop, q1, n1, q2, n2, q3, n3, q4, n4, q5, n5, q6, -Int.natCast_add]
            · rw [szT_pos c6] at q6
              have n6 : ¬ left - ((x.image.length : Nat) : Int) - ((x.mt.gens.length + (x.mt.bits.length + (x.mt.bits.map List.length).sum) : Nat) : Int) - ((x.sa.length + x.sb.length : Nat) : Int) - ((x.conn.length : Nat) : Int) - ((x.sync.length + (x.sync.map List.length).sum : Nat) : Int) - ((x.copies.length : Nat) : Int) < 0 := by omega
              rw [← szT_add c6]
              have q7 := r_szIntS x.wait.length (cl .i64 x.wait) (left - ((x.image.length : Nat) : Int) - ((x.mt.gens.length + (x.mt.bits.length + (x.mt.bits.map List.length).sum) : Nat) : Int) - ((x.sa.length + x.sb.length : Nat) : Int) - ((x.conn.length : Nat) : Int) - ((x.sync.length + (x.sync.map List.length).sum : Nat) : Int) - ((x.copies.length : Nat) : Int)) (by omega) (by omega) (by omega)
              by_cases c7 : left - ((x.image.length : Nat) : Int) - ((x.mt.gens.length + (x.mt.bits.length + (x.mt.bits.map List.length).sum) : Nat) : Int) - ((x.sa.length + x.sb.length : Nat) : Int) - ((x.conn.length : Nat) : Int) - ((x.sync.length + (x.sync.map List.length).sum : Nat) : Int) - ((x.copies.length : Nat) : Int) < ((x.wait.length : Nat) : Int)
              · rw [szT_neg c7] at q7
                rw [szT_neg (show left - ((x.image.length : Nat) : Int) - ((x.mt.gens.length + (x.mt.bits.length + (x.mt.bits.map List.length).sum) : Nat) : Int) - ((x.sa.length + x.sb.length : Nat) : Int) - ((x.conn.length : Nat) : Int) - ((x.sync.length + (x.sync.map List.length).sum : Nat) : Int) - ((x.copies.length : Nat) : Int) < ((x.wait.length : Nat) : Int) by omega)]
                simp only [nodeA, metaA, slotsA] at *
                simp (maxSteps := 4000000) -implicitDefEqProofs [tab51, a51, x_seq, x_cond, x_block, x_region, x_skip, x_exit, x_ret, head_id, runG, runOps, doOp, wantB, stepOp, AO.eff, pureOp, St.get, St.one, St.num, St.put, St.optNum, binA, binInt, List.take, List.drop, effOp2, effOp, memL_app, stoRow, cellsAt, toCells, toCell, scalar_int, scalar_bool, scalar_str, scalar_sl, updAt, fromRo, upd, callRO, addMem_nil, roArgs, roL, roA, srcCells, A1.ownB, addMem, shift, ren, SV.map, Ob.map, Ob.noRo, SV.noRo, A1.noRo, List.range, List.range.loop, resOf, resSV, SV.map, SV.ids, A1.ids, reach, allObs, ren, pos, Ob.map, St.canon, memL, List.range, List.range.loop, q1, n1, q2, n2, q3, n3, q4, n4, q5, n5, q6, n6, q7, -Int.natCast_add]
              · rw [szT_pos c7] at q7
                have n7 : ¬ left - ((x.image.length : Nat) : Int) - ((x.mt.gens.length + (x.mt.bits.length + (x.mt.bits.map List.length).sum) : Nat) : Int) - ((x.sa.length + x.sb.length : Nat) : Int) - ((x.conn.length : Nat) : Int) - ((x.sync.length + (x.sync.map List.length).sum : Nat) : Int) - ((x.copies.length : Nat) : Int) - ((x.wait.length : Nat) : Int) < 0 := by omega
                rw [szT_pos c7]
                simp only [nodeA, metaA, slotsA] at *
                simp (maxSteps := 4000000) -implicitDefEqProofs [tab51, a51, x_seq, x_cond, x_block, x_region, x_skip, x_exit, x_ret, head_id, runG, runOps, doOp, wantB, stepOp, AO.eff, pureOp, St.get, St.one, St.num, St.put, St.optNum, binA, binInt, List.take, List.drop, effOp2, effOp, memL_app, stoRow, cellsAt, toCells, toCell, scalar_int, scalar_bool, scalar_str, scalar_sl, updAt, fromRo, upd, callRO, addMem_nil, roArgs, roL, roA, srcCells, A1.ownB, addMem, shift, ren, SV.map, Ob.map, Ob.noRo, SV.noRo, A1.noRo, List.range, List.range.loop, resOf, resSV, SV.map, SV.ids, A1.ids, reach, allObs, ren, pos, Ob.map, St.canon, memL, List.range, List.range.loop, q1, n1, q2, n2, q3, n3, q4, n4, q5, n5, q6, n6, q7, n7, -Int.natCast_add]
theorem r_szWire (x : PWire) (hz : SzX x) (left : Int) (h0 : 0 ≤ left) (h1 : left ≤ 1048576) : runRO (X tab) tab 52 [.v true (wireA x), .v false [.int .i64 left]] = some (.v false [.int .i64 (szT left (x.bytes.length))], []) := by
  have z1 : Sz x.bytes := hz
  unfold runRO
  simp only [Sz, maxLen] at z1
  have q1 := r_szByteS x.bytes.length (cl .u8 x.bytes) (left) (by omega) (by omega) (by omega)
  by_cases c1 : left < ((x.bytes.length : Nat) : Int)
  · rw [szT_neg c1] at q1
    rw [szT_neg (show left < ((x.bytes.length : Nat) : Int) by omega)]
    simp only [wireA] at *
    simp (maxSteps := 4000000) -implicitDefEqProofs [tab52, a52, x_seq, x_cond, x_block, x_region, x_skip, x_exit, x_ret, head_id, runG, runOps, doOp, wantB, stepOp, AO.eff, pureOp, St.get, St.one, St.num, St.put, St.optNum, binA, binInt, List.take, List.drop, effOp2, effOp, memL_app, stoRow, cellsAt, toCells, toCell, scalar_int, scalar_bool, scalar_str, scalar_sl, updAt, fromRo, upd, callRO, addMem_nil, roArgs, roL, roA, srcCells, A1.ownB, addMem, shift, ren, SV.map, Ob.map, Ob.noRo, SV.noRo, A1.noRo, List.range, List.range.loop, resOf, resSV, SV.map, SV.ids, A1.ids, reach, allObs, ren, pos, Ob.map, St.canon, memL, List.range, List.range.loop, q1, -Int.natCast_add]
  · rw [szT_pos c1] at q1
    have n1 : ¬ left - ((x.bytes.length : Nat) : Int) < 0 := by omega
    rw [szT_pos c1]
    simp only [wireA] at *
    simp (maxSteps := 4000000) -implicitDefEqProofs [tab52, a52, x_seq, x_cond, x_block, x_region, x_skip, x_exit, x_ret, head_id, runG, runOps, doOp, wantB, stepOp, AO.eff, pureOp, St.get, St.one, St.num, St.put, St.optNum, binA, binInt, List.take, List.drop, effOp2, effOp, memL_app, stoRow, cellsAt, toCells, toCell, scalar_int, scalar_bool, scalar_str, scalar_sl, updAt, fromRo, upd, callRO, addMem_nil, roArgs, roL, roA, srcCells, A1.ownB, addMem, shift, ren, SV.map, Ob.map, Ob.noRo, SV.noRo, A1.noRo, List.range, List.range.loop, resOf, resSV, SV.map, SV.ids, A1.ids, reach, allObs, ren, pos, Ob.map, St.canon, memL, List.range, List.range.loop, q1, n1, -Int.natCast_add]
def S_szWireS (l : List (PWire)) (left : Int) (i : Nat) : XS := ⟨⟨[.v false [.ro l.length (wiresC l)], .v false [.int .i64 (left)], .bad, .bad, .bad, .v false [.int .i64 (i)], .bad, .bad, .bad, .bad, .bad, .bad, .bad, .bad, .bad, .bad, .bad, .bad, .bad, .bad, .bad, .bad, .bad, .bad, .bad, .bad, .bad], memL [], []⟩, 0⟩
def R_szWireS (left : Int) (n : Nat) : Option (AE × XS) := if left < (n : Int) then some (.ret, ⟨⟨[.bad, .bad, .bad, .bad, .v false [.int .i64 ((-1))], .bad, .bad, .bad, .bad, .bad, .bad, .bad, .bad, .bad, .bad, .bad, .bad, .bad, .bad, .bad, .bad, .bad, .bad, .bad, .bad, .bad, .bad], memL [], []⟩, 0⟩) else some (.exit 0, ⟨⟨[.bad, .v false [.int .i64 ((left - (n : Int)))], .bad, .bad, .bad, .bad, .bad, .bad, .bad, .bad, .bad, .bad, .bad, .bad, .bad, .bad, .bad, .bad, .bad, .bad, .bad, .bad, .bad, .bad, .bad, .bad, .bad], memL [], []⟩, 0⟩)
theorem loop_szWireS (l : List (PWire)) (hz : ∀ x ∈ l, Sz x.bytes) (hn : l.length ≤ 1048576) (left0 : Int) (h1 : left0 ≤ 1048576) (h0 : 0 ≤ left0) {x : XS} (hx : head true d29_0 x = S_szWireS l left0 0) : X tab l29_0 x = R_szWireS left0 (l.map totX).sum := by
  refine loopX (σ := Nat × Int) (fun s => S_szWireS l s.2 s.1) (fun s => l.length - s.1) (fun s => s.1 ≤ l.length ∧ 0 ≤ s.2 ∧ s.2 ≤ 1048576 ∧ R_szWireS s.2 ((l.drop s.1).map totX).sum = R_szWireS left0 (l.map totX).sum) _ (fun ⟨i, left⟩ ⟨hi, hl0, hl1, hs⟩ => ?_) (0, left0) ⟨Nat.zero_le _, h0, h1, rfl⟩ x hx
  simp only at hi hl0 hl1 hs
  rw [← hs]
  cases hl : l.drop i with
  | nil =>
    obtain rfl := dropx_end hl hi
    refine .inr ⟨?_, ?_⟩
    · simp (maxSteps := 4000000) -implicitDefEqProofs [b29_0, S_szWireS, x_seq, x_cond, x_block, x_region, x_skip, x_exit, x_ret, head_id, runG, runOps, doOp, wantB, stepOp, AO.eff, pureOp, St.get, St.one, St.num, St.put, St.optNum, binA, binInt, List.take, List.drop, R_szWireS, hl0]
      rw [if_neg (by omega)]
      change _ = _
      kernel_rfl
    · simp only [List.map_nil, List.sum_nil, R_szWireS]; rw [if_neg (by simpa using hl0)]; intro z hz; cases hz
  | cons y r =>
    have hi' := dropx_lt hl
    have q1 : (0 ≤ (i : Int) ∧ (i : Int) < (l.length : Int)) := by omega
    have q2 := wiresC_at hl
    have q4 : IntKind.i64.wrap ((i : Int) + 1) = ((i + 1 : Nat) : Int) := by rw [wrap_id (by omega) (by omega)]; omega
    have q5 := (fun (x : PWire) (hx : Sz x.bytes) => show runRO (X tab) tab 52 [.v true (wireA x), .v false [.int .i64 left]] = some (.v false [.int .i64 (szT left (totX x))], []) from r_szWire x hx left hl0 hl1) y (hz y (dropx_mem hl))
    have q6 := sum_drop (f := totX) hl
    rw [← hl, q6]
    simp only [wireA, wireC, bytesC, List.cons_append, List.nil_append] at q2 q5
    by_cases hlt : left < ((totX y : Nat) : Int)
    · rw [szT_neg hlt] at q5
      refine .inr ⟨?_, ?_⟩
      · simp (maxSteps := 4000000) -implicitDefEqProofs [b29_0, S_szWireS, x_seq, x_cond, x_block, x_region, x_skip, x_exit, x_ret, head_id, runG, runOps, doOp, wantB, stepOp, AO.eff, pureOp, St.get, St.one, St.num, St.put, St.optNum, binA, binInt, List.take, List.drop, callRO, addMem_nil, roArgs, roL, roA, srcCells, A1.ownB, addMem, shift, ren, SV.map, Ob.map, Ob.noRo, SV.noRo, A1.noRo, List.range, List.range.loop, fromRo, q1, q2, q5, hi', R_szWireS]
        rw [if_pos (by omega)]
        change _ = _
        kernel_rfl
      · simp only [R_szWireS]; rw [if_pos (by omega)]; intro z hz; cases hz
    · rw [szT_pos hlt] at q5
      have q7 : ¬ left - ((totX y : Nat) : Int) < 0 := by omega
      refine .inl ⟨(i + 1, left - ((totX y : Nat) : Int)), ?_, by simp only; omega, by simp only; omega, by simp only; omega, by simp only; omega, ?_⟩
      · generalize totX y = tt at *
        simp (maxSteps := 4000000) -implicitDefEqProofs [b29_0, S_szWireS, x_seq, x_cond, x_block, x_region, x_skip, x_exit, x_ret, head_id, runG, runOps, doOp, wantB, stepOp, AO.eff, pureOp, St.get, St.one, St.num, St.put, St.optNum, binA, binInt, List.take, List.drop, callRO, addMem_nil, roArgs, roL, roA, srcCells, A1.ownB, addMem, shift, ren, SV.map, Ob.map, Ob.noRo, SV.noRo, A1.noRo, List.range, List.range.loop, fromRo, q1, q2, q4, q5, q7, hi', -Int.natCast_add]
        change _ = _
        kernel_rfl
      · simp only [R_szWireS]
        generalize ((l.drop (i + 1)).map totX).sum = u
        by_cases hu : left < ((totX y + u : Nat) : Int)
        · rw [if_pos hu, if_pos (by omega)]
        · rw [if_neg hu, if_neg (by omega)]
          rw [show left - ((totX y : Nat) : Int) - (u : Int) = left - ((totX y + u : Nat) : Int) by omega]
theorem r_szWireS (l : List (PWire)) (hs : Sz l) (hz : ∀ x ∈ l, Sz x.bytes) (left : Int) (h0 : 0 ≤ left) (h1 : left ≤ 1048576) : runRO (X tab) tab 29 [.v false [.ro l.length (wiresC l)], .v false [.int .i64 left]] = some (.v false [.int .i64 (szT left (l.length + (l.map totX).sum))], []) := by
  simp only [Sz, maxLen] at hs
  have h2 : IntKind.i64.wrap (left - (l.length : Int)) = left - (l.length : Int) := wrap_id (by omega) (by omega)
  unfold runRO
  by_cases h : left < (l.length : Int)
  · have h3 : left - (l.length : Int) < 0 := by omega
    rw [szT_neg (by omega)]
    simp (maxSteps := 4000000) -implicitDefEqProofs [tab29, a29, x_seq, x_cond, x_block, x_region, x_skip, x_exit, x_ret, head_id, runG, runOps, doOp, wantB, stepOp, AO.eff, pureOp, St.get, St.one, St.num, St.put, St.optNum, binA, binInt, List.take, List.drop, resOf, resSV, SV.map, SV.ids, A1.ids, reach, allObs, ren, pos, Ob.map, St.canon, memL, List.range, List.range.loop, h2, h3]
  · have h3 : ¬ left - (l.length : Int) < 0 := by omega
    simp (maxSteps := 4000000) -implicitDefEqProofs [tab29, a29, x_seq, x_cond, x_block, x_region, x_skip, x_exit, x_ret, head_id, runG, runOps, doOp, wantB, stepOp, AO.eff, pureOp, St.get, St.one, St.num, St.put, St.optNum, binA, binInt, List.take, List.drop, h2, h3]
    rw [loop_szWireS l hz (by omega) (left - (l.length : Int)) (by omega) (by omega) (by change _ = _; kernel_rfl)]
    rw [← szT_add h]
    generalize (l.map totX).sum = u
    by_cases hu : left - (l.length : Int) < (u : Int)
    · rw [szT_neg hu]
      simp only [R_szWireS, if_pos hu]
      simp (maxSteps := 4000000) -implicitDefEqProofs [x_seq, x_cond, x_block, x_region, x_skip, x_exit, x_ret, head_id, runG, runOps, doOp, wantB, stepOp, AO.eff, pureOp, St.get, St.one, St.num, St.put, St.optNum, binA, binInt, List.take, List.drop, resOf, resSV, SV.map, SV.ids, A1.ids, reach, allObs, ren, pos, Ob.map, St.canon, memL, List.range, List.range.loop]
    · rw [szT_pos hu]
      simp only [R_szWireS, if_neg hu]
      simp (maxSteps := 4000000) -implicitDefEqProofs [x_seq, x_cond, x_block, x_region, x_skip, x_exit, x_ret, head_id, runG, runOps, doOp, wantB, stepOp, AO.eff, pureOp, St.get, St.one, St.num, St.put, St.optNum, binA, binInt, List.take, List.drop, resOf, resSV, SV.map, SV.ids, A1.ids, reach, allObs, ren, pos, Ob.map, St.canon, memL, List.range, List.range.loop]
def S_szNodeS (l : List (PNode)) (left : Int) (i : Nat) : XS := ⟨⟨[.v false [.ro l.length (nodesC l)], .v false [.int .i64 (left)], .bad, .bad, .bad, .v false [.int .i64 (i)], .bad, .bad, .bad, .bad, .bad, .bad, .bad, .bad, .bad, .bad, .bad, .bad, .bad, .bad, .bad, .bad, .bad, .bad, .bad, .bad, .bad], memL [], []⟩, 0⟩
def R_szNodeS (left : Int) (n : Nat) : Option (AE × XS) := if left < (n : Int) then some (.ret, ⟨⟨[.bad, .bad, .bad, .bad, .v false [.int .i64 ((-1))], .bad, .bad, .bad, .bad, .bad, .bad, .bad, .bad, .bad, .bad, .bad, .bad, .bad, .bad, .bad, .bad, .bad, .bad, .bad, .bad, .bad, .bad], memL [], []⟩, 0⟩) else some (.exit 0, ⟨⟨[.bad, .v false [.int .i64 ((left - (n : Int)))], .bad, .bad, .bad, .bad, .bad, .bad, .bad, .bad, .bad, .bad, .bad, .bad, .bad, .bad, .bad, .bad, .bad, .bad, .bad, .bad, .bad, .bad, .bad, .bad, .bad], memL [], []⟩, 0⟩)
theorem loop_szNodeS (l : List (PNode)) (hz : ∀ x ∈ l, SzN x) (hn : l.length ≤ 1048576) (left0 : Int) (h1 : left0 ≤ 1048576) (h0 : 0 ≤ left0) {x : XS} (hx : head true d28_0 x = S_szNodeS l left0 0) : X tab l28_0 x = R_szNodeS left0 (l.map totN).sum := by
  refine loopX (σ := Nat × Int) (fun s => S_szNodeS l s.2 s.1) (fun s => l.length - s.1) (fun s => s.1 ≤ l.length ∧ 0 ≤ s.2 ∧ s.2 ≤ 1048576 ∧ R_szNodeS s.2 ((l.drop s.1).map totN).sum = R_szNodeS left0 (l.map totN).sum) _ (fun ⟨i, left⟩ ⟨hi, hl0, hl1, hs⟩ => ?_) (0, left0) ⟨Nat.zero_le _, h0, h1, rfl⟩ x hx
  simp only at hi hl0 hl1 hs
  rw [← hs]
  cases hl : l.drop i with
  | nil =>
    obtain rfl := dropx_end hl hi
    refine .inr ⟨?_, ?_⟩
    · simp (maxSteps := 4000000) -implicitDefEqProofs [b28_0, S_szNodeS, x_seq, x_cond, x_block, x_region, x_skip, x_exit, x_ret, head_id, runG, runOps, doOp, wantB, stepOp, AO.eff, pureOp, St.get, St.one, St.num, St.put, St.optNum, binA, binInt, List.take, List.drop, R_szNodeS, hl0]
      rw [if_neg (by omega)]
      change _ = _
      kernel_rfl
    · simp only [List.map_nil, List.sum_nil, R_szNodeS]; rw [if_neg (by simpa using hl0)]; intro z hz; cases hz
  | cons y r =>
    have hi' := dropx_lt hl
    have q1 : (0 ≤ (i : Int) ∧ (i : Int) < (l.length : Int)) := by omega
    have q2 := nodesC_at hl
    have q4 : IntKind.i64.wrap ((i : Int) + 1) = ((i + 1 : Nat) : Int) := by rw [wrap_id (by omega) (by omega)]; omega
    have q5 := (fun (x : PNode) (hx : SzN x) => show runRO (X tab) tab 51 [.v true (nodeA x), .v false [.int .i64 left]] = some (.v false [.int .i64 (szT left (totN x))], []) from r_szNode x hx left hl0 hl1) y (hz y (dropx_mem hl))
    have q6 := sum_drop (f := totN) hl
    rw [← hl, q6]
    simp only [nodeA, nodeC, intsC, intssC, bytesC, boolsC, List.cons_append, List.nil_append] at q2 q5
    by_cases hlt : left < ((totN y : Nat) : Int)
    · rw [szT_neg hlt] at q5
      refine .inr ⟨?_, ?_⟩
      · simp (maxSteps := 4000000) -implicitDefEqProofs [b28_0, S_szNodeS, x_seq, x_cond, x_block, x_region, x_skip, x_exit, x_ret, head_id, runG, runOps, doOp, wantB, stepOp, AO.eff, pureOp, St.get, St.one, St.num, St.put, St.optNum, binA, binInt, List.take, List.drop, callRO, addMem_nil, roArgs, roL, roA, srcCells, A1.ownB, addMem, shift, ren, SV.map, Ob.map, Ob.noRo, SV.noRo, A1.noRo, List.range, List.range.loop, fromRo, q1, q2, q5, hi', R_szNodeS]
        rw [if_pos (by omega)]
        change _ = _
        kernel_rfl
      · simp only [R_szNodeS]; rw [if_pos (by omega)]; intro z hz; cases hz
    · rw [szT_pos hlt] at q5
      have q7 : ¬ left - ((totN y : Nat) : Int) < 0 := by omega
      refine .inl ⟨(i + 1, left - ((totN y : Nat) : Int)), ?_, by simp only; omega, by simp only; omega, by simp only; omega, by simp only; omega, ?_⟩
      · generalize totN y = tt at *
        simp (maxSteps := 4000000) -implicitDefEqProofs [b28_0, S_szNodeS, x_seq, x_cond, x_block, x_region, x_skip, x_exit, x_ret, head_id, runG, runOps, doOp, wantB, stepOp, AO.eff, pureOp, St.get, St.one, St.num, St.put, St.optNum, binA, binInt, List.take, List.drop, callRO, addMem_nil, roArgs, roL, roA, srcCells, A1.ownB, addMem, shift, ren, SV.map, Ob.map, Ob.noRo, SV.noRo, A1.noRo, List.range, List.range.loop, fromRo, q1, q2, q4, q5, q7, hi', -Int.natCast_add]
        change _ = _
        kernel_rfl
      · simp only [R_szNodeS]
        generalize ((l.drop (i + 1)).map totN).sum = u
        by_cases hu : left < ((totN y + u : Nat) : Int)
        · rw [if_pos hu, if_pos (by omega)]
        · rw [if_neg hu, if_neg (by omega)]
          rw [show left - ((totN y : Nat) : Int) - (u : Int) = left - ((totN y + u : Nat) : Int) by omega]
theorem r_szNodeS (l : List (PNode)) (hs : Sz l) (hz : ∀ x ∈ l, SzN x) (left : Int) (h0 : 0 ≤ left) (h1 : left ≤ 1048576) : runRO (X tab) tab 28 [.v false [.ro l.length (nodesC l)], .v false [.int .i64 left]] = some (.v false [.int .i64 (szT left (l.length + (l.map totN).sum))], []) := by
  simp only [Sz, maxLen] at hs
  have h2 : IntKind.i64.wrap (left - (l.length : Int)) = left - (l.length : Int) := wrap_id (by omega) (by omega)
  unfold runRO
  by_cases h : left < (l.length : Int)
  · have h3 : left - (l.length : Int) < 0 := by omega
    rw [szT_neg (by omega)]
    simp (maxSteps := 4000000) -implicitDefEqProofs [tab28, a28, x_seq, x_cond, x_block, x_region, x_skip, x_exit, x_ret, head_id, runG, runOps, doOp, wantB, stepOp, AO.eff, pureOp, St.get, St.one, St.num, St.put, St.optNum, binA, binInt, List.take, List.drop, resOf, resSV, SV.map, SV.ids, A1.ids, reach, allObs, ren, pos, Ob.map, St.canon, memL, List.range, List.range.loop, h2, h3]
  · have h3 : ¬ left - (l.length : Int) < 0 := by omega
    simp (maxSteps := 4000000) -implicitDefEqProofs [tab28, a28, x_seq, x_cond, x_block, x_region, x_skip, x_exit, x_ret, head_id, runG, runOps, doOp, wantB, stepOp, AO.eff, pureOp, St.get, St.one, St.num, St.put, St.optNum, binA, binInt, List.take, List.drop, h2, h3]
    rw [loop_szNodeS l hz (by omega) (left - (l.length : Int)) (by omega) (by omega) (by change _ = _; kernel_rfl)]
    rw [← szT_add h]
    generalize (l.map totN).sum = u
    by_cases hu : left - (l.length : Int) < (u : Int)
    · rw [szT_neg hu]
      simp only [R_szNodeS, if_pos hu]
      simp (maxSteps := 4000000) -implicitDefEqProofs [x_seq, x_cond, x_block, x_region, x_skip, x_exit, x_ret, head_id, runG, runOps, doOp, wantB, stepOp, AO.eff, pureOp, St.get, St.one, St.num, St.put, St.optNum, binA, binInt, List.take, List.drop, resOf, resSV, SV.map, SV.ids, A1.ids, reach, allObs, ren, pos, Ob.map, St.canon, memL, List.range, List.range.loop]
    · rw [szT_pos hu]
      simp only [R_szNodeS, if_neg hu]
      simp (maxSteps := 4000000) -implicitDefEqProofs [x_seq, x_cond, x_block, x_region, x_skip, x_exit, x_ret, head_id, runG, runOps, doOp, wantB, stepOp, AO.eff, pureOp, St.get, St.one, St.num, St.put, St.optNum, binA, binInt, List.take, List.drop, resOf, resSV, SV.map, SV.ids, A1.ids, reach, allObs, ren, pos, Ob.map, St.canon, memL, List.range, List.range.loop]
end Go.Proofs.Ytbdokibepndibaa.Eng.B
