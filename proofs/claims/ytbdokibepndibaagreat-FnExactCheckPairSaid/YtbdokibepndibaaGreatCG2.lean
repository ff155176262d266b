/- W1g, W2, W3, W4, as one text. -/
import Derived.Test.YtbdokibepndibaaGreatCG1
import Derived.Test.YtbdokibepndibaaGreatEngP
namespace Go.Proofs.YtbdokibepndibaaGreat.Eng.C
set_option linter.unusedSimpArgs false
set_option linter.unusedVariables false
set_option maxHeartbeats 16000000
set_option maxRecDepth 100000
open Go.RowKit Go.Proofs
attribute [local simp] x_seq x_cond x_block x_region x_skip x_exit x_ret head_id runG runOps doOp wantB stepOp AO.eff pureOp St.get St.one St.num St.put St.optNum binA binInt gOp gOp0 gOpL gResL updO gRes gEff addObs_nil addObs_one freshB_memL freshB_none freshB_upd freshB_addMem freshB_addObs effOp2 effOp memL_app stoRow cellsAt toCells toCell scalar_int scalar_bool scalar_str scalar_sl updAt fromRo callRO addMem_nil roArgs roL roA srcCells A1.ownB addMem shift ren SV.map Ob.map Ob.noRo SV.noRo A1.noRo resOf resSV SV.ids A1.ids reach allObs pos St.canon A1.slB flat_int cl_flat' St.parts Eng.inB reps fillA newRowSt appSt oldOf

/-- What is left, when n are taken; -1 where there are not as many. -/
def szT (left : Int) (n : Nat) : Int := if left < (n : Int) then -1 else left - (n : Int)
theorem szT_add {left : Int} {a b : Nat} (h : ¬ left < (a : Int)) : szT (left - (a : Int)) b = szT left (a + b) := by
  unfold szT
  have e : (left - (a : Int) < (b : Int)) ↔ (left < ((a + b : Nat) : Int)) := by omega
  by_cases h1 : left - (a : Int) < (b : Int)
  · rw [if_pos h1, if_pos (e.1 h1)]
  · rw [if_neg h1, if_neg (fun h => h1 (e.2 h))]
    omega
theorem szT_neg {left : Int} {a : Nat} (h : left < (a : Int)) : szT left a = -1 := if_pos h
theorem szT_pos {left : Int} {a : Nat} (h : ¬ left < (a : Int)) : szT left a = left - (a : Int) := if_neg h
theorem r_szIntS (n : Nat) (cs : List Cell) (left : Int) (h0 : 0 ≤ left) (h1 : left ≤ 1048576) (hn : n ≤ 9223372036854775807) : runRO (X tab) tab 16 [.v false [.ro n cs], .v false [.int .i64 left]] = some (.v false [.int .i64 (szT left n)], []) := by
  have h2 : IntKind.i64.wrap (left - (n : Int)) = left - (n : Int) := wrap_id (by omega) (by omega)
  unfold runRO
  by_cases h : left < (n : Int)
  · have h3 : left - (n : Int) < 0 := by omega
    rw [szT_neg h]
    simp (maxSteps := 4000000) -implicitDefEqProofs [tab16, a16, List.take, List.drop, memL, List.range, List.range.loop, h2, h3]
  · have h3 : ¬ left - (n : Int) < 0 := by omega
    rw [szT_pos h]
    simp (maxSteps := 4000000) -implicitDefEqProofs [tab16, a16, List.take, List.drop, memL, List.range, List.range.loop, h2, h3]
theorem r_szByteS (n : Nat) (cs : List Cell) (left : Int) (h0 : 0 ≤ left) (h1 : left ≤ 1048576) (hn : n ≤ 9223372036854775807) : runRO (X tab) tab 62 [.v false [.ro n cs], .v false [.int .i64 left]] = some (.v false [.int .i64 (szT left n)], []) := by
  have h2 : IntKind.i64.wrap (left - (n : Int)) = left - (n : Int) := wrap_id (by omega) (by omega)
  unfold runRO
  by_cases h : left < (n : Int)
  · have h3 : left - (n : Int) < 0 := by omega
    rw [szT_neg h]
    simp (maxSteps := 4000000) -implicitDefEqProofs [tab62, a62, List.take, List.drop, memL, List.range, List.range.loop, h2, h3]
  · have h3 : ¬ left - (n : Int) < 0 := by omega
    rw [szT_pos h]
    simp (maxSteps := 4000000) -implicitDefEqProofs [tab62, a62, List.take, List.drop, memL, List.range, List.range.loop, h2, h3]
theorem r_szBoolS (n : Nat) (cs : List Cell) (left : Int) (h0 : 0 ≤ left) (h1 : left ≤ 1048576) (hn : n ≤ 9223372036854775807) : runRO (X tab) tab 60 [.v false [.ro n cs], .v false [.int .i64 left]] = some (.v false [.int .i64 (szT left n)], []) := by
  have h2 : IntKind.i64.wrap (left - (n : Int)) = left - (n : Int) := wrap_id (by omega) (by omega)
  unfold runRO
  by_cases h : left < (n : Int)
  · have h3 : left - (n : Int) < 0 := by omega
    rw [szT_neg h]
    simp (maxSteps := 4000000) -implicitDefEqProofs [tab60, a60, List.take, List.drop, memL, List.range, List.range.loop, h2, h3]
  · have h3 : ¬ left - (n : Int) < 0 := by omega
    rw [szT_pos h]
    simp (maxSteps := 4000000) -implicitDefEqProofs [tab60, a60, List.take, List.drop, memL, List.range, List.range.loop, h2, h3]
theorem r_szRecS (n : Nat) (cs : List Cell) (left : Int) (h0 : 0 ≤ left) (h1 : left ≤ 1048576) (hn : n ≤ 9223372036854775807) : runRO (X tab) tab 15 [.v false [.ro n cs], .v false [.int .i64 left]] = some (.v false [.int .i64 (szT left n)], []) := by
  have h2 : IntKind.i64.wrap (left - (n : Int)) = left - (n : Int) := wrap_id (by omega) (by omega)
  unfold runRO
  by_cases h : left < (n : Int)
  · have h3 : left - (n : Int) < 0 := by omega
    rw [szT_neg h]
    simp (maxSteps := 4000000) -implicitDefEqProofs [tab15, a15, List.take, List.drop, memL, List.range, List.range.loop, h2, h3]
  · have h3 : ¬ left - (n : Int) < 0 := by omega
    rw [szT_pos h]
    simp (maxSteps := 4000000) -implicitDefEqProofs [tab15, a15, List.take, List.drop, memL, List.range, List.range.loop, h2, h3]
def SzM (m : PMeta) : Prop := Sz m.gens ∧ Sz m.bits ∧ ∀ l ∈ m.bits, Sz l
def SzP (n : PNode) : Prop := Sz n.sa ∧ Sz n.sb
def SzX (x : PWire) : Prop := Sz x.bytes
def slotsA (n : PNode) : List A1 := [.ro n.sa.length (cl .u8 n.sa), .ro n.sb.length (cl .u8 n.sb)]
/-! The cells of a struct, as a variable holds them. -/
def metaA (m : PMeta) : List A1 := [.ro m.gens.length (cl .i64 m.gens), .ro m.bits.length (m.bits.map intsC), .bool m.fine, .bool m.old, .bool m.hd, .int .i64 m.last]
def nodeA (n : PNode) : List A1 :=
  [.int .i64 n.id, .bool n.up, .bool n.prime, .ro n.image.length (cl .i64 n.image), .ro n.mt.gens.length (cl .i64 n.mt.gens), .ro n.mt.bits.length (n.mt.bits.map intsC), .bool n.mt.fine, .bool n.mt.old, .bool n.mt.hd, .int .i64 n.mt.last,
    .ro n.sa.length (cl .u8 n.sa), .ro n.sb.length (cl .u8 n.sb), .ro n.conn.length (cb n.conn), .ro n.sync.length (n.sync.map intsC), .ro n.copies.length (cb n.copies), .ro n.wait.length (cl .i64 n.wait)]
def wireA (x : PWire) : List A1 := [.int .i64 x.src, .int .i64 x.dst, .ro x.bytes.length (cl .u8 x.bytes)]
def recA (r : PRec) : List A1 := [.int .i64 r.cell, .int .i64 r.up]
theorem nodesC_at {l : List PNode} {i : Nat} {x : PNode} {r : List PNode} (h : l.drop i = x :: r) : (nodesC l).drop (i * 16) = nodeC x ++ nodesC r := by
  induction l generalizing i with
  | nil => simp at h
  | cons y l ih =>
    cases i with
    | zero => simp at h; obtain ⟨rfl, rfl⟩ := h; simp [nodesC, List.flatMap_cons]
    | succ i =>
      rw [List.drop_succ_cons] at h
      rw [← ih h]
      have e : nodesC (y :: l) = nodeC y ++ nodesC l := by simp [nodesC, List.flatMap_cons]
      rw [e, List.drop_append, List.drop_of_length_le (by simp [nodeC]; omega)]
      simp [nodeC, Nat.succ_mul]
theorem wiresC_at {l : List PWire} {i : Nat} {x : PWire} {r : List PWire} (h : l.drop i = x :: r) : (wiresC l).drop (i * 3) = wireC x ++ wiresC r := by
  induction l generalizing i with
  | nil => simp at h
  | cons y l ih =>
    cases i with
    | zero => simp at h; obtain ⟨rfl, rfl⟩ := h; simp [wiresC, List.flatMap_cons]
    | succ i =>
      rw [List.drop_succ_cons] at h
      rw [← ih h]
      have e : wiresC (y :: l) = wireC y ++ wiresC l := by simp [wiresC, List.flatMap_cons]
      rw [e, List.drop_append, List.drop_of_length_le (by simp [wireC]; omega)]
      simp [wireC, Nat.succ_mul]
theorem recsC_at {l : List PRec} {i : Nat} {x : PRec} {r : List PRec} (h : l.drop i = x :: r) : (recsC l).drop (i * 2) = recC x ++ recsC r := by
  induction l generalizing i with
  | nil => simp at h
  | cons y l ih =>
    cases i with
    | zero => simp at h; obtain ⟨rfl, rfl⟩ := h; simp [recsC, List.flatMap_cons]
    | succ i =>
      rw [List.drop_succ_cons] at h
      rw [← ih h]
      have e : recsC (y :: l) = recC y ++ recsC l := by simp [recsC, List.flatMap_cons]
      rw [e, List.drop_append, List.drop_of_length_le (by simp [recC]; omega)]
      simp [recC, Nat.succ_mul]
theorem intss_at {l : List (List Int)} {i : Nat} {x : List Int} {r : List (List Int)} (h : l.drop i = x :: r) : (l.map intsC).drop i = intsC x :: r.map intsC := by
  rw [← List.map_drop, h]
  rfl
theorem nodesC_len (l : List PNode) : (nodesC l).length = l.length * 16 := by
  induction l with
  | nil => rfl
  | cons y l ih => simp only [nodesC, List.flatMap_cons, List.length_append] at ih ⊢; rw [ih]; simp [nodeC]; omega
theorem wiresC_len (l : List PWire) : (wiresC l).length = l.length * 3 := by
  induction l with
  | nil => rfl
  | cons y l ih => simp only [wiresC, List.flatMap_cons, List.length_append] at ih ⊢; rw [ih]; simp [wireC]; omega
theorem recsC_len (l : List PRec) : (recsC l).length = l.length * 2 := by
  induction l with
  | nil => rfl
  | cons y l ih => simp only [recsC, List.flatMap_cons, List.length_append] at ih ⊢; rw [ih]; simp [recC]; omega
theorem dropx_lt {α : Type} {l : List α} {i : Nat} {x : α} {r : List α} (h : l.drop i = x :: r) : i < l.length := by
  rcases Nat.lt_or_ge i l.length with h1 | h1
  · exact h1
  · rw [List.drop_eq_nil_of_le h1] at h; cases h
theorem dropx_next {α : Type} {l : List α} {i : Nat} {x : α} {r : List α} (h : l.drop i = x :: r) : l.drop (i + 1) = r := by rw [← List.tail_drop, h]; rfl
theorem dropx_end {α : Type} {l : List α} {i : Nat} (h : l.drop i = []) (hi : i ≤ l.length) : i = l.length := by
  have := congrArg List.length h
  simp at this
  omega
theorem dropx_mem {α : Type} {l : List α} {i : Nat} {x : α} {r : List α} (h : l.drop i = x :: r) : x ∈ l := List.mem_of_mem_drop (by rw [h]; exact List.mem_cons_self ..)
/-- How many numbers, bytes and so on. -/
def totS (l : List (List Int)) : Nat := l.length + (l.map List.length).sum
def totM (m : PMeta) : Nat := m.gens.length + totS m.bits
def totN (n : PNode) : Nat := n.image.length + (n.mt.gens.length + (n.mt.bits.length + (n.mt.bits.map List.length).sum) + (n.sa.length + n.sb.length + (n.conn.length + (n.sync.length + (n.sync.map List.length).sum + (n.copies.length + n.wait.length)))))
def totX (x : PWire) : Nat := x.bytes.length
def totW (w : PWorld) : Nat := (w.nodes.length + (w.nodes.map totN).sum) + ((w.net.length + (w.net.map totX).sum) + (w.log.length + w.safe.length))
theorem sum_drop {α : Type} {f : α → Nat} {l : List α} {i : Nat} {x : α} {r : List α} (h : l.drop i = x :: r) : ((l.drop i).map f).sum = f x + ((l.drop (i + 1)).map f).sum := by
  rw [dropx_next h, h]
  simp
def S_szIntSS (l : List (List Int)) (left : Int) (i : Nat) : XS := ⟨⟨[.v false [.ro l.length (l.map intsC)], .v false [.int .i64 (left)], .bad, .bad, .bad, .v false [.int .i64 (i)], .bad, .bad, .bad, .bad, .bad, .bad, .bad, .bad, .bad, .bad, .bad, .bad, .bad, .bad, .bad, .bad, .bad, .bad, .bad, .bad, .bad], memL [], []⟩, 0⟩
def R_szIntSS (left : Int) (n : Nat) : Option (AE × XS) := if left < (n : Int) then some (.ret, ⟨⟨[.bad, .bad, .bad, .bad, .v false [.int .i64 ((-1))], .bad, .bad, .bad, .bad, .bad, .bad, .bad, .bad, .bad, .bad, .bad, .bad, .bad, .bad, .bad, .bad, .bad, .bad, .bad, .bad, .bad, .bad], memL [], []⟩, 0⟩) else some (.exit 0, ⟨⟨[.bad, .v false [.int .i64 ((left - (n : Int)))], .bad, .bad, .bad, .bad, .bad, .bad, .bad, .bad, .bad, .bad, .bad, .bad, .bad, .bad, .bad, .bad, .bad, .bad, .bad, .bad, .bad, .bad, .bad, .bad, .bad], memL [], []⟩, 0⟩)
theorem loop_szIntSS (l : List (List Int)) (hz : ∀ x ∈ l, Sz x) (hn : l.length ≤ 1048576) (left0 : Int) (h1 : left0 ≤ 1048576) (h0 : 0 ≤ left0) {x : XS} (hx : head true d61_0 x = S_szIntSS l left0 0) : X tab l61_0 x = R_szIntSS left0 (l.map List.length).sum := by
  refine loopX (σ := Nat × Int) (fun s => S_szIntSS l s.2 s.1) (fun s => l.length - s.1) (fun s => s.1 ≤ l.length ∧ 0 ≤ s.2 ∧ s.2 ≤ 1048576 ∧ R_szIntSS s.2 ((l.drop s.1).map List.length).sum = R_szIntSS left0 (l.map List.length).sum) _ (fun ⟨i, left⟩ ⟨hi, hl0, hl1, hs⟩ => ?_) (0, left0) ⟨Nat.zero_le _, h0, h1, rfl⟩ x hx
  simp only at hi hl0 hl1 hs
  rw [← hs]
  cases hl : l.drop i with
  | nil =>
    obtain rfl := dropx_end hl hi
    refine .inr ⟨?_, ?_⟩
    · simp (maxSteps := 4000000) -implicitDefEqProofs [b61_0, S_szIntSS, List.take, List.drop, R_szIntSS, hl0]
      rw [if_neg (by omega)]
      change _ = _
      kernel_rfl
    · simp only [List.map_nil, List.sum_nil, R_szIntSS]; rw [if_neg (by simpa using hl0)]; intro z hz; cases hz
  | cons y r =>
    have hi' := dropx_lt hl
    have q1 : (0 ≤ (i : Int) ∧ (i : Int) < (l.length : Int)) := by omega
    have q2 := intss_at hl
    have q4 : IntKind.i64.wrap ((i : Int) + 1) = ((i + 1 : Nat) : Int) := by rw [wrap_id (by omega) (by omega)]; omega
    have q5 := (fun (x : List Int) (hx : Sz x) => r_szIntS x.length (cl .i64 x) left hl0 hl1 (by simp only [Sz, maxLen] at hx; omega)) y (hz y (dropx_mem hl))
    have q6 := sum_drop (f := List.length) hl
    rw [← hl, q6]
    simp only [intsC, List.cons_append, List.nil_append] at q2 q5
    by_cases hlt : left < ((List.length y : Nat) : Int)
    · rw [szT_neg hlt] at q5
      refine .inr ⟨?_, ?_⟩
      · simp (maxSteps := 4000000) -implicitDefEqProofs [b61_0, S_szIntSS, List.take, List.drop, List.range, List.range.loop, fromRo, q1, q2, q5, hi', R_szIntSS]
        rw [if_pos (by omega)]
        change _ = _
        kernel_rfl
      · simp only [R_szIntSS]; rw [if_pos (by omega)]; intro z hz; cases hz
    · rw [szT_pos hlt] at q5
      have q7 : ¬ left - ((List.length y : Nat) : Int) < 0 := by omega
      refine .inl ⟨(i + 1, left - ((List.length y : Nat) : Int)), ?_, by simp only; omega, by simp only; omega, by simp only; omega, by simp only; omega, ?_⟩
      · generalize List.length y = tt at *
        simp (maxSteps := 4000000) -implicitDefEqProofs [b61_0, S_szIntSS, List.take, List.drop, List.range, List.range.loop, fromRo, q1, q2, q4, q5, q7, hi', -Int.natCast_add]
        change _ = _
        kernel_rfl
      · simp only [R_szIntSS]
        generalize ((l.drop (i + 1)).map List.length).sum = u
        by_cases hu : left < ((List.length y + u : Nat) : Int)
        · rw [if_pos hu, if_pos (by omega)]
        · rw [if_neg hu, if_neg (by omega)]
          rw [show left - ((List.length y : Nat) : Int) - (u : Int) = left - ((List.length y + u : Nat) : Int) by omega]
theorem r_szIntSS (l : List (List Int)) (hs : Sz l) (hz : ∀ x ∈ l, Sz x) (left : Int) (h0 : 0 ≤ left) (h1 : left ≤ 1048576) : runRO (X tab) tab 61 [.v false [.ro l.length (l.map intsC)], .v false [.int .i64 left]] = some (.v false [.int .i64 (szT left (l.length + (l.map List.length).sum))], []) := by
  simp only [Sz, maxLen] at hs
  have h2 : IntKind.i64.wrap (left - (l.length : Int)) = left - (l.length : Int) := wrap_id (by omega) (by omega)
  unfold runRO
  by_cases h : left < (l.length : Int)
  · have h3 : left - (l.length : Int) < 0 := by omega
    rw [szT_neg (by omega)]
    simp (maxSteps := 4000000) -implicitDefEqProofs [tab61, a61, List.take, List.drop, memL, List.range, List.range.loop, h2, h3]
  · have h3 : ¬ left - (l.length : Int) < 0 := by omega
    simp (maxSteps := 4000000) -implicitDefEqProofs [tab61, a61, List.take, List.drop, h2, h3]
    rw [loop_szIntSS l hz (by omega) (left - (l.length : Int)) (by omega) (by omega) (by change _ = _; kernel_rfl)]
    rw [← szT_add h]
    generalize (l.map List.length).sum = u
    by_cases hu : left - (l.length : Int) < (u : Int)
    · rw [szT_neg hu]
      simp only [R_szIntSS, if_pos hu]
      simp (maxSteps := 4000000) -implicitDefEqProofs [List.take, List.drop, memL, List.range, List.range.loop]
    · rw [szT_pos hu]
      simp only [R_szIntSS, if_neg hu]
      simp (maxSteps := 4000000) -implicitDefEqProofs [List.take, List.drop, memL, List.range, List.range.loop]
theorem sz_le {α : Type} {l : List α} (h : l.length ≤ 2 ^ 63 - 1) : l.length ≤ 9223372036854775807 := by omega
theorem r_szMeta (x : PMeta) (hz : SzM x) (left : Int) (h0 : 0 ≤ left) (h1 : left ≤ 1048576) : runRO (X tab) tab 58 [.v true (metaA x), .v false [.int .i64 left]] = some (.v false [.int .i64 (szT left (x.gens.length + (x.bits.length + (x.bits.map List.length).sum)))], []) := by
  obtain ⟨z1, z2, z3⟩ := hz
  unfold runRO
  simp only [Sz, maxLen] at z1 z2 z3
  have q1 := r_szIntS x.gens.length (cl .i64 x.gens) (left) (by omega) (by omega) (by omega)
  by_cases c1 : left < ((x.gens.length : Nat) : Int)
  · rw [szT_neg c1] at q1
    rw [szT_neg (show left < ((x.gens.length + (x.bits.length + (x.bits.map List.length).sum) : Nat) : Int) by omega)]
    simp only [metaA] at *
    simp (maxSteps := 4000000) -implicitDefEqProofs [tab58, a58, List.take, List.drop, upd, List.range, List.range.loop, memL, q1, -Int.natCast_add]
  · rw [szT_pos c1] at q1
    have n1 : ¬ left - ((x.gens.length : Nat) : Int) < 0 := by omega
    rw [← szT_add c1]
    have q2 := r_szIntSS x.bits (by simpa only [Sz, maxLen] using z2) (by simpa only [Sz, maxLen] using z3) (left - ((x.gens.length : Nat) : Int)) (by omega) (by omega)
    by_cases c2 : left - ((x.gens.length : Nat) : Int) < ((x.bits.length + (x.bits.map List.length).sum : Nat) : Int)
    · rw [szT_neg c2] at q2
      rw [szT_neg (show left - ((x.gens.length : Nat) : Int) < ((x.bits.length + (x.bits.map List.length).sum : Nat) : Int) by omega)]
      simp only [metaA] at *
      simp (maxSteps := 4000000) -implicitDefEqProofs [tab58, a58, List.take, List.drop, upd, List.range, List.range.loop, memL, q1, n1, q2, -Int.natCast_add]
    · rw [szT_pos c2] at q2
      have n2 : ¬ left - ((x.gens.length : Nat) : Int) - ((x.bits.length + (x.bits.map List.length).sum : Nat) : Int) < 0 := by omega
      rw [szT_pos c2]
      simp only [metaA] at *
      simp (maxSteps := 4000000) -implicitDefEqProofs [tab58, a58, List.take, List.drop, upd, List.range, List.range.loop, memL, q1, n1, q2, n2, -Int.natCast_add]
theorem r_szSlots (x : (PNode)) (hz : SzP x) (left : Int) (h0 : 0 ≤ left) (h1 : left ≤ 1048576) : runRO (X tab) tab 59 [.v true (slotsA x), .v false [.int .i64 left]] = some (.v false [.int .i64 (szT left (x.sa.length + (x.sb.length)))], []) := by
  obtain ⟨z1, z2⟩ := hz
  unfold runRO
  simp only [Sz, maxLen] at z1 z2
  have q1 := r_szByteS x.sa.length (cl .u8 x.sa) (left) (by omega) (by omega) (by omega)
  by_cases c1 : left < ((x.sa.length : Nat) : Int)
  · rw [szT_neg c1] at q1
    rw [szT_neg (show left < ((x.sa.length + (x.sb.length) : Nat) : Int) by omega)]
    simp only [slotsA] at *
    simp (maxSteps := 4000000) -implicitDefEqProofs [tab59, a59, List.take, List.drop, upd, List.range, List.range.loop, memL, q1, -Int.natCast_add]
  · rw [szT_pos c1] at q1
    have n1 : ¬ left - ((x.sa.length : Nat) : Int) < 0 := by omega
    rw [← szT_add c1]
    have q2 := r_szByteS x.sb.length (cl .u8 x.sb) (left - ((x.sa.length : Nat) : Int)) (by omega) (by omega) (by omega)
    by_cases c2 : left - ((x.sa.length : Nat) : Int) < ((x.sb.length : Nat) : Int)
    · rw [szT_neg c2] at q2
      rw [szT_neg (show left - ((x.sa.length : Nat) : Int) < ((x.sb.length : Nat) : Int) by omega)]
      simp only [slotsA] at *
      simp (maxSteps := 4000000) -implicitDefEqProofs [tab59, a59, List.take, List.drop, upd, List.range, List.range.loop, memL, q1, n1, q2, -Int.natCast_add]
    · rw [szT_pos c2] at q2
      have n2 : ¬ left - ((x.sa.length : Nat) : Int) - ((x.sb.length : Nat) : Int) < 0 := by omega
      rw [szT_pos c2]
      simp only [slotsA] at *
      simp (maxSteps := 4000000) -implicitDefEqProofs [tab59, a59, List.take, List.drop, upd, List.range, List.range.loop, memL, q1, n1, q2, n2, -Int.natCast_add]
theorem r_szNode (x : PNode) (hz : SzN x) (left : Int) (h0 : 0 ≤ left) (h1 : left ≤ 1048576) : runRO (X tab) tab 35 [.v true (nodeA x), .v false [.int .i64 left]] = some (.v false [.int .i64 (szT left (x.image.length + (x.mt.gens.length + (x.mt.bits.length + (x.mt.bits.map List.length).sum) + (x.sa.length + x.sb.length + (x.conn.length + (x.sync.length + (x.sync.map List.length).sum + (x.copies.length + (x.wait.length))))))))], []) := by
  obtain ⟨z1, z2, z3, z4, z5, z6, z7, z8, z9, z10, z11⟩ := hz
  unfold runRO
  simp only [Sz, maxLen] at z1 z2 z3 z4 z5 z6 z7 z8 z9 z10 z11
  have q1 := r_szIntS x.image.length (cl .i64 x.image) (left) (by omega) (by omega) (by omega)
  by_cases c1 : left < ((x.image.length : Nat) : Int)
  · rw [szT_neg c1] at q1
    rw [szT_neg (show left < ((x.image.length + (x.mt.gens.length + (x.mt.bits.length + (x.mt.bits.map List.length).sum) + (x.sa.length + x.sb.length + (x.conn.length + (x.sync.length + (x.sync.map List.length).sum + (x.copies.length + (x.wait.length)))))) : Nat) : Int) by omega)]
    simp only [nodeA, metaA, slotsA] at *
    simp (maxSteps := 4000000) -implicitDefEqProofs [tab35, a35, List.take, List.drop, upd, List.range, List.range.loop, memL, q1, -Int.natCast_add]
  · rw [szT_pos c1] at q1
    have n1 : ¬ left - ((x.image.length : Nat) : Int) < 0 := by omega
    rw [← szT_add c1]
    have q2 := r_szMeta x.mt ⟨by simpa only [Sz, maxLen] using z2, by simpa only [Sz, maxLen] using z3, by simpa only [Sz, maxLen] using z4⟩ (left - ((x.image.length : Nat) : Int)) (by omega) (by omega)
    by_cases c2 : left - ((x.image.length : Nat) : Int) < ((x.mt.gens.length + (x.mt.bits.length + (x.mt.bits.map List.length).sum) : Nat) : Int)
    · rw [szT_neg c2] at q2
      rw [szT_neg (show left - ((x.image.length : Nat) : Int) < ((x.mt.gens.length + (x.mt.bits.length + (x.mt.bits.map List.length).sum) + (x.sa.length + x.sb.length + (x.conn.length + (x.sync.length + (x.sync.map List.length).sum + (x.copies.length + (x.wait.length))))) : Nat) : Int) by omega)]
      simp only [nodeA, metaA, slotsA] at *
      simp (maxSteps := 4000000) -implicitDefEqProofs [tab35, a35, List.take, List.drop, upd, List.range, List.range.loop, memL, q1, n1, q2, -Int.natCast_add]
    · rw [szT_pos c2] at q2
      have n2 : ¬ left - ((x.image.length : Nat) : Int) - ((x.mt.gens.length + (x.mt.bits.length + (x.mt.bits.map List.length).sum) : Nat) : Int) < 0 := by omega
      rw [← szT_add c2]
      have q3 := r_szSlots x ⟨by simpa only [Sz, maxLen] using z5, by simpa only [Sz, maxLen] using z6⟩ (left - ((x.image.length : Nat) : Int) - ((x.mt.gens.length + (x.mt.bits.length + (x.mt.bits.map List.length).sum) : Nat) : Int)) (by omega) (by omega)
      by_cases c3 : left - ((x.image.length : Nat) : Int) - ((x.mt.gens.length + (x.mt.bits.length + (x.mt.bits.map List.length).sum) : Nat) : Int) < ((x.sa.length + x.sb.length : Nat) : Int)
      · rw [szT_neg c3] at q3
        rw [szT_neg (show left - ((x.image.length : Nat) : Int) - ((x.mt.gens.length + (x.mt.bits.length + (x.mt.bits.map List.length).sum) : Nat) : Int) < ((x.sa.length + x.sb.length + (x.conn.length + (x.sync.length + (x.sync.map List.length).sum + (x.copies.length + (x.wait.length)))) : Nat) : Int) by omega)]
        simp only [nodeA, metaA, slotsA] at *
        simp (maxSteps := 4000000) -implicitDefEqProofs [tab35, a35, List.take, List.drop, upd, List.range, List.range.loop, memL, q1, n1, q2, n2, q3, -Int.natCast_add]
      · rw [szT_pos c3] at q3
        have n3 : ¬ left - ((x.image.length : Nat) : Int) - ((x.mt.gens.length + (x.mt.bits.length + (x.mt.bits.map List.length).sum) : Nat) : Int) - ((x.sa.length + x.sb.length : Nat) : Int) < 0 := by omega
        rw [← szT_add c3]
        have q4 := r_szBoolS x.conn.length (cb x.conn) (left - ((x.image.length : Nat) : Int) - ((x.mt.gens.length + (x.mt.bits.length + (x.mt.bits.map List.length).sum) : Nat) : Int) - ((x.sa.length + x.sb.length : Nat) : Int)) (by omega) (by omega) (by omega)
        by_cases c4 : left - ((x.image.length : Nat) : Int) - ((x.mt.gens.length + (x.mt.bits.length + (x.mt.bits.map List.length).sum) : Nat) : Int) - ((x.sa.length + x.sb.length : Nat) : Int) < ((x.conn.length : Nat) : Int)
        · rw [szT_neg c4] at q4
          rw [szT_neg (show left - ((x.image.length : Nat) : Int) - ((x.mt.gens.length + (x.mt.bits.length + (x.mt.bits.map List.length).sum) : Nat) : Int) - ((x.sa.length + x.sb.length : Nat) : Int) < ((x.conn.length + (x.sync.length + (x.sync.map List.length).sum + (x.copies.length + (x.wait.length))) : Nat) : Int) by omega)]
          simp only [nodeA, metaA, slotsA] at *
          simp (maxSteps := 4000000) -implicitDefEqProofs [tab35, a35, List.take, List.drop, upd, List.range, List.range.loop, memL, q1, n1, q2, n2, q3, n3, q4, -Int.natCast_add]
        · rw [szT_pos c4] at q4
          have n4 : ¬ left - ((x.image.length : Nat) : Int) - ((x.mt.gens.length + (x.mt.bits.length + (x.mt.bits.map List.length).sum) : Nat) : Int) - ((x.sa.length + x.sb.length : Nat) : Int) - ((x.conn.length : Nat) : Int) < 0 := by omega
          rw [← szT_add c4]
          have q5 := r_szIntSS x.sync (by simpa only [Sz, maxLen] using z8) (by simpa only [Sz, maxLen] using z9) (left - ((x.image.length : Nat) : Int) - ((x.mt.gens.length + (x.mt.bits.length + (x.mt.bits.map List.length).sum) : Nat) : Int) - ((x.sa.length + x.sb.length : Nat) : Int) - ((x.conn.length : Nat) : Int)) (by omega) (by omega)
          by_cases c5 : left - ((x.image.length : Nat) : Int) - ((x.mt.gens.length + (x.mt.bits.length + (x.mt.bits.map List.length).sum) : Nat) : Int) - ((x.sa.length + x.sb.length : Nat) : Int) - ((x.conn.length : Nat) : Int) < ((x.sync.length + (x.sync.map List.length).sum : Nat) : Int)
          · rw [szT_neg c5] at q5
            rw [szT_neg (show left - ((x.image.length : Nat) : Int) - ((x.mt.gens.length + (x.mt.bits.length + (x.mt.bits.map List.length).sum) : Nat) : Int) - ((x.sa.length + x.sb.length : Nat) : Int) - ((x.conn.length : Nat) : Int) < ((x.sync.length + (x.sync.map List.length).sum + (x.copies.length + (x.wait.length)) : Nat) : Int) by omega)]
            simp only [nodeA, metaA, slotsA] at *
            simp (maxSteps := 4000000) -implicitDefEqProofs [tab35, a35, List.take, List.drop, upd, List.range, List.range.loop, memL, q1, n1, q2, n2, q3, n3, q4, n4, q5, -Int.natCast_add]
          · rw [szT_pos c5] at q5
            have n5 : ¬ left - ((x.image.length : Nat) : Int) - ((x.mt.gens.length + (x.mt.bits.length + (x.mt.bits.map List.length).sum) : Nat) : Int) - ((x.sa.length + x.sb.length : Nat) : Int) - ((x.conn.length : Nat) : Int) - ((x.sync.length + (x.sync.map List.length).sum : Nat) : Int) < 0 := by omega
            rw [← szT_add c5]
            have q6 := r_szBoolS x.copies.length (cb x.copies) (left - ((x.image.length : Nat) : Int) - ((x.mt.gens.length + (x.mt.bits.length + (x.mt.bits.map List.length).sum) : Nat) : Int) - ((x.sa.length + x.sb.length : Nat) : Int) - ((x.conn.length : Nat) : Int) - ((x.sync.length + (x.sync.map List.length).sum : Nat) : Int)) (by omega) (by omega) (by omega)
            by_cases c6 : left - ((x.image.length : Nat) : Int) - ((x.mt.gens.length + (x.mt.bits.length + (x.mt.bits.map List.length).sum) : Nat) : Int) - ((x.sa.length + x.sb.length : Nat) : Int) - ((x.conn.length : Nat) : Int) - ((x.sync.length + (x.sync.map List.length).sum : Nat) : Int) < ((x.copies.length : Nat) : Int)
            · rw [szT_neg c6] at q6
              rw [szT_neg (show left - ((x.image.length : Nat) : Int) - ((x.mt.gens.length + (x.mt.bits.length + (x.mt.bits.map List.length).sum) : Nat) : Int) - ((x.sa.length + x.sb.length : Nat) : Int) - ((x.conn.length : Nat) : Int) - ((x.sync.length + (x.sync.map List.length).sum : Nat) : Int) < ((x.copies.length + (x.wait.length) : Nat) : Int) by omega)]
              simp only [nodeA, metaA, slotsA] at *
              simp (maxSteps := 4000000) -implicitDefEqProofs [tab35, a35, List.take, List.drop, upd, List.range, List.range.loop, memL, q1, n1, q2, n2, q3, n3, q4, n4, q5, n5, q6, -Int.natCast_add]
            · rw [szT_pos c6] at q6
              have n6 : ¬ left - ((x.image.length : Nat) : Int) - ((x.mt.gens.length + (x.mt.bits.length + (x.mt.bits.map List.length).sum) : Nat) : Int) - ((x.sa.length + x.sb.length : Nat) : Int) - ((x.conn.length : Nat) : Int) - ((x.sync.length + (x.sync.map List.length).sum : Nat) : Int) - ((x.copies.length : Nat) : Int) < 0 := by omega
              rw [← szT_add c6]
              have q7 := r_szIntS x.wait.length (cl .i64 x.wait) (left - ((x.image.length : Nat) : Int) - ((x.mt.gens.length + (x.mt.bits.length + (x.mt.bits.map List.length).sum) : Nat) : Int) - ((x.sa.length + x.sb.length : Nat) : Int) - ((x.conn.length : Nat) : Int) - ((x.sync.length + (x.sync.map List.length).sum : Nat) : Int) - ((x.copies.length : Nat) : Int)) (by omega) (by omega) (by omega)
              by_cases c7 : left - ((x.image.length : Nat) : Int) - ((x.mt.gens.length + (x.mt.bits.length + (x.mt.bits.map List.length).sum) : Nat) : Int) - ((x.sa.length + x.sb.length : Nat) : Int) - ((x.conn.length : Nat) : Int) - ((x.sync.length + (x.sync.map List.length).sum : Nat) : Int) - ((x.copies.length : Nat) : Int) < ((x.wait.length : Nat) : Int)
              · rw [szT_neg c7] at q7
                rw [szT_neg (show left - ((x.image.length : Nat) : Int) - ((x.mt.gens.length + (x.mt.bits.length + (x.mt.bits.map List.length).sum) : Nat) : Int) - ((x.sa.length + x.sb.length : Nat) : Int) - ((x.conn.length : Nat) : Int) - ((x.sync.length + (x.sync.map List.length).sum : Nat) : Int) - ((x.copies.length : Nat) : Int) < ((x.wait.length : Nat) : Int) by omega)]
                simp only [nodeA, metaA, slotsA] at *
                simp (maxSteps := 4000000) -implicitDefEqProofs [tab35, a35, List.take, List.drop, upd, List.range, List.range.loop, memL, q1, n1, q2, n2, q3, n3, q4, n4, q5, n5, q6, n6, q7, -Int.natCast_add]
              · rw [szT_pos c7] at q7
                have n7 : ¬ left - ((x.image.length : Nat) : Int) - ((x.mt.gens.length + (x.mt.bits.length + (x.mt.bits.map List.length).sum) : Nat) : Int) - ((x.sa.length + x.sb.length : Nat) : Int) - ((x.conn.length : Nat) : Int) - ((x.sync.length + (x.sync.map List.length).sum : Nat) : Int) - ((x.copies.length : Nat) : Int) - ((x.wait.length : Nat) : Int) < 0 := by omega
                rw [szT_pos c7]
                simp only [nodeA, metaA, slotsA] at *
                simp (maxSteps := 4000000) -implicitDefEqProofs [tab35, a35, List.take, List.drop, upd, List.range, List.range.loop, memL, q1, n1, q2, n2, q3, n3, q4, n4, q5, n5, q6, n6, q7, n7, -Int.natCast_add]
theorem r_szWire (x : PWire) (hz : SzX x) (left : Int) (h0 : 0 ≤ left) (h1 : left ≤ 1048576) : runRO (X tab) tab 36 [.v true (wireA x), .v false [.int .i64 left]] = some (.v false [.int .i64 (szT left (x.bytes.length))], []) := by
  have z1 : Sz x.bytes := hz
  unfold runRO
  simp only [Sz, maxLen] at z1
  have q1 := r_szByteS x.bytes.length (cl .u8 x.bytes) (left) (by omega) (by omega) (by omega)
  by_cases c1 : left < ((x.bytes.length : Nat) : Int)
  · rw [szT_neg c1] at q1
    rw [szT_neg (show left < ((x.bytes.length : Nat) : Int) by omega)]
    simp only [wireA] at *
    simp (maxSteps := 4000000) -implicitDefEqProofs [tab36, a36, List.take, List.drop, upd, List.range, List.range.loop, memL, q1, -Int.natCast_add]
  · rw [szT_pos c1] at q1
    have n1 : ¬ left - ((x.bytes.length : Nat) : Int) < 0 := by omega
    rw [szT_pos c1]
    simp only [wireA] at *
    simp (maxSteps := 4000000) -implicitDefEqProofs [tab36, a36, List.take, List.drop, upd, List.range, List.range.loop, memL, q1, n1, -Int.natCast_add]
def S_szWireS (l : List (PWire)) (left : Int) (i : Nat) : XS := ⟨⟨[.v false [.ro l.length (wiresC l)], .v false [.int .i64 (left)], .bad, .bad, .bad, .v false [.int .i64 (i)], .bad, .bad, .bad, .bad, .bad, .bad, .bad, .bad, .bad, .bad, .bad, .bad, .bad, .bad, .bad, .bad, .bad, .bad, .bad, .bad, .bad], memL [], []⟩, 0⟩
def R_szWireS (left : Int) (n : Nat) : Option (AE × XS) := if left < (n : Int) then some (.ret, ⟨⟨[.bad, .bad, .bad, .bad, .v false [.int .i64 ((-1))], .bad, .bad, .bad, .bad, .bad, .bad, .bad, .bad, .bad, .bad, .bad, .bad, .bad, .bad, .bad, .bad, .bad, .bad, .bad, .bad, .bad, .bad], memL [], []⟩, 0⟩) else some (.exit 0, ⟨⟨[.bad, .v false [.int .i64 ((left - (n : Int)))], .bad, .bad, .bad, .bad, .bad, .bad, .bad, .bad, .bad, .bad, .bad, .bad, .bad, .bad, .bad, .bad, .bad, .bad, .bad, .bad, .bad, .bad, .bad, .bad, .bad], memL [], []⟩, 0⟩)
theorem loop_szWireS (l : List (PWire)) (hz : ∀ x ∈ l, Sz x.bytes) (hn : l.length ≤ 1048576) (left0 : Int) (h1 : left0 ≤ 1048576) (h0 : 0 ≤ left0) {x : XS} (hx : head true d14_0 x = S_szWireS l left0 0) : X tab l14_0 x = R_szWireS left0 (l.map totX).sum := by
  refine loopX (σ := Nat × Int) (fun s => S_szWireS l s.2 s.1) (fun s => l.length - s.1) (fun s => s.1 ≤ l.length ∧ 0 ≤ s.2 ∧ s.2 ≤ 1048576 ∧ R_szWireS s.2 ((l.drop s.1).map totX).sum = R_szWireS left0 (l.map totX).sum) _ (fun ⟨i, left⟩ ⟨hi, hl0, hl1, hs⟩ => ?_) (0, left0) ⟨Nat.zero_le _, h0, h1, rfl⟩ x hx
  simp only at hi hl0 hl1 hs
  rw [← hs]
  cases hl : l.drop i with
  | nil =>
    obtain rfl := dropx_end hl hi
    refine .inr ⟨?_, ?_⟩
    · simp (maxSteps := 4000000) -implicitDefEqProofs [b14_0, S_szWireS, List.take, List.drop, R_szWireS, hl0]
      rw [if_neg (by omega)]
      change _ = _
      kernel_rfl
    · simp only [List.map_nil, List.sum_nil, R_szWireS]; rw [if_neg (by simpa using hl0)]; intro z hz; cases hz
  | cons y r =>
    have hi' := dropx_lt hl
    have q1 : (0 ≤ (i : Int) ∧ (i : Int) < (l.length : Int)) := by omega
    have q2 := wiresC_at hl
    have q4 : IntKind.i64.wrap ((i : Int) + 1) = ((i + 1 : Nat) : Int) := by rw [wrap_id (by omega) (by omega)]; omega
    have q5 := (fun (x : PWire) (hx : Sz x.bytes) => show runRO (X tab) tab 36 [.v true (wireA x), .v false [.int .i64 left]] = some (.v false [.int .i64 (szT left (totX x))], []) from r_szWire x hx left hl0 hl1) y (hz y (dropx_mem hl))
    have q6 := sum_drop (f := totX) hl
    rw [← hl, q6]
    simp only [wireA, wireC, bytesC, List.cons_append, List.nil_append] at q2 q5
    by_cases hlt : left < ((totX y : Nat) : Int)
    · rw [szT_neg hlt] at q5
      refine .inr ⟨?_, ?_⟩
      · simp (maxSteps := 4000000) -implicitDefEqProofs [b14_0, S_szWireS, List.take, List.drop, List.range, List.range.loop, fromRo, q1, q2, q5, hi', R_szWireS]
        rw [if_pos (by omega)]
        change _ = _
        kernel_rfl
      · simp only [R_szWireS]; rw [if_pos (by omega)]; intro z hz; cases hz
    · rw [szT_pos hlt] at q5
      have q7 : ¬ left - ((totX y : Nat) : Int) < 0 := by omega
      refine .inl ⟨(i + 1, left - ((totX y : Nat) : Int)), ?_, by simp only; omega, by simp only; omega, by simp only; omega, by simp only; omega, ?_⟩
      · generalize totX y = tt at *
        simp (maxSteps := 4000000) -implicitDefEqProofs [b14_0, S_szWireS, List.take, List.drop, List.range, List.range.loop, fromRo, q1, q2, q4, q5, q7, hi', -Int.natCast_add]
        change _ = _
        kernel_rfl
      · simp only [R_szWireS]
        generalize ((l.drop (i + 1)).map totX).sum = u
        by_cases hu : left < ((totX y + u : Nat) : Int)
        · rw [if_pos hu, if_pos (by omega)]
        · rw [if_neg hu, if_neg (by omega)]
          rw [show left - ((totX y : Nat) : Int) - (u : Int) = left - ((totX y + u : Nat) : Int) by omega]
theorem r_szWireS (l : List (PWire)) (hs : Sz l) (hz : ∀ x ∈ l, Sz x.bytes) (left : Int) (h0 : 0 ≤ left) (h1 : left ≤ 1048576) : runRO (X tab) tab 14 [.v false [.ro l.length (wiresC l)], .v false [.int .i64 left]] = some (.v false [.int .i64 (szT left (l.length + (l.map totX).sum))], []) := by
  simp only [Sz, maxLen] at hs
  have h2 : IntKind.i64.wrap (left - (l.length : Int)) = left - (l.length : Int) := wrap_id (by omega) (by omega)
  unfold runRO
  by_cases h : left < (l.length : Int)
  · have h3 : left - (l.length : Int) < 0 := by omega
    rw [szT_neg (by omega)]
    simp (maxSteps := 4000000) -implicitDefEqProofs [tab14, a14, List.take, List.drop, memL, List.range, List.range.loop, h2, h3]
  · have h3 : ¬ left - (l.length : Int) < 0 := by omega
    simp (maxSteps := 4000000) -implicitDefEqProofs [tab14, a14, List.take, List.drop, h2, h3]
    rw [loop_szWireS l hz (by omega) (left - (l.length : Int)) (by omega) (by omega) (by change _ = _; kernel_rfl)]
    rw [← szT_add h]
    generalize (l.map totX).sum = u
    by_cases hu : left - (l.length : Int) < (u : Int)
    · rw [szT_neg hu]
      simp only [R_szWireS, if_pos hu]
      simp (maxSteps := 4000000) -implicitDefEqProofs [List.take, List.drop, memL, List.range, List.range.loop]
    · rw [szT_pos hu]
      simp only [R_szWireS, if_neg hu]
      simp (maxSteps := 4000000) -implicitDefEqProofs [List.take, List.drop, memL, List.range, List.range.loop]
def S_szNodeS (l : List (PNode)) (left : Int) (i : Nat) : XS := ⟨⟨[.v false [.ro l.length (nodesC l)], .v false [.int .i64 (left)], .bad, .bad, .bad, .v false [.int .i64 (i)], .bad, .bad, .bad, .bad, .bad, .bad, .bad, .bad, .bad, .bad, .bad, .bad, .bad, .bad, .bad, .bad, .bad, .bad, .bad, .bad, .bad], memL [], []⟩, 0⟩
def R_szNodeS (left : Int) (n : Nat) : Option (AE × XS) := if left < (n : Int) then some (.ret, ⟨⟨[.bad, .bad, .bad, .bad, .v false [.int .i64 ((-1))], .bad, .bad, .bad, .bad, .bad, .bad, .bad, .bad, .bad, .bad, .bad, .bad, .bad, .bad, .bad, .bad, .bad, .bad, .bad, .bad, .bad, .bad], memL [], []⟩, 0⟩) else some (.exit 0, ⟨⟨[.bad, .v false [.int .i64 ((left - (n : Int)))], .bad, .bad, .bad, .bad, .bad, .bad, .bad, .bad, .bad, .bad, .bad, .bad, .bad, .bad, .bad, .bad, .bad, .bad, .bad, .bad, .bad, .bad, .bad, .bad, .bad], memL [], []⟩, 0⟩)
theorem loop_szNodeS (l : List (PNode)) (hz : ∀ x ∈ l, SzN x) (hn : l.length ≤ 1048576) (left0 : Int) (h1 : left0 ≤ 1048576) (h0 : 0 ≤ left0) {x : XS} (hx : head true d13_0 x = S_szNodeS l left0 0) : X tab l13_0 x = R_szNodeS left0 (l.map totN).sum := by
  refine loopX (σ := Nat × Int) (fun s => S_szNodeS l s.2 s.1) (fun s => l.length - s.1) (fun s => s.1 ≤ l.length ∧ 0 ≤ s.2 ∧ s.2 ≤ 1048576 ∧ R_szNodeS s.2 ((l.drop s.1).map totN).sum = R_szNodeS left0 (l.map totN).sum) _ (fun ⟨i, left⟩ ⟨hi, hl0, hl1, hs⟩ => ?_) (0, left0) ⟨Nat.zero_le _, h0, h1, rfl⟩ x hx
  simp only at hi hl0 hl1 hs
  rw [← hs]
  cases hl : l.drop i with
  | nil =>
    obtain rfl := dropx_end hl hi
    refine .inr ⟨?_, ?_⟩
    · simp (maxSteps := 4000000) -implicitDefEqProofs [b13_0, S_szNodeS, List.take, List.drop, R_szNodeS, hl0]
      rw [if_neg (by omega)]
      change _ = _
      kernel_rfl
    · simp only [List.map_nil, List.sum_nil, R_szNodeS]; rw [if_neg (by simpa using hl0)]; intro z hz; cases hz
  | cons y r =>
    have hi' := dropx_lt hl
    have q1 : (0 ≤ (i : Int) ∧ (i : Int) < (l.length : Int)) := by omega
    have q2 := nodesC_at hl
    have q4 : IntKind.i64.wrap ((i : Int) + 1) = ((i + 1 : Nat) : Int) := by rw [wrap_id (by omega) (by omega)]; omega
    have q5 := (fun (x : PNode) (hx : SzN x) => show runRO (X tab) tab 35 [.v true (nodeA x), .v false [.int .i64 left]] = some (.v false [.int .i64 (szT left (totN x))], []) from r_szNode x hx left hl0 hl1) y (hz y (dropx_mem hl))
    have q6 := sum_drop (f := totN) hl
    rw [← hl, q6]
    simp only [nodeA, nodeC, intsC, intssC, bytesC, boolsC, List.cons_append, List.nil_append] at q2 q5
    by_cases hlt : left < ((totN y : Nat) : Int)
    · rw [szT_neg hlt] at q5
      refine .inr ⟨?_, ?_⟩
      · simp (maxSteps := 4000000) -implicitDefEqProofs [b13_0, S_szNodeS, List.take, List.drop, List.range, List.range.loop, fromRo, q1, q2, q5, hi', R_szNodeS]
        rw [if_pos (by omega)]
        change _ = _
        kernel_rfl
      · simp only [R_szNodeS]; rw [if_pos (by omega)]; intro z hz; cases hz
    · rw [szT_pos hlt] at q5
      have q7 : ¬ left - ((totN y : Nat) : Int) < 0 := by omega
      refine .inl ⟨(i + 1, left - ((totN y : Nat) : Int)), ?_, by simp only; omega, by simp only; omega, by simp only; omega, by simp only; omega, ?_⟩
      · generalize totN y = tt at *
        simp (maxSteps := 4000000) -implicitDefEqProofs [b13_0, S_szNodeS, List.take, List.drop, List.range, List.range.loop, fromRo, q1, q2, q4, q5, q7, hi', -Int.natCast_add]
        change _ = _
        kernel_rfl
      · simp only [R_szNodeS]
        generalize ((l.drop (i + 1)).map totN).sum = u
        by_cases hu : left < ((totN y + u : Nat) : Int)
        · rw [if_pos hu, if_pos (by omega)]
        · rw [if_neg hu, if_neg (by omega)]
          rw [show left - ((totN y : Nat) : Int) - (u : Int) = left - ((totN y + u : Nat) : Int) by omega]
theorem r_szNodeS (l : List (PNode)) (hs : Sz l) (hz : ∀ x ∈ l, SzN x) (left : Int) (h0 : 0 ≤ left) (h1 : left ≤ 1048576) : runRO (X tab) tab 13 [.v false [.ro l.length (nodesC l)], .v false [.int .i64 left]] = some (.v false [.int .i64 (szT left (l.length + (l.map totN).sum))], []) := by
  simp only [Sz, maxLen] at hs
  have h2 : IntKind.i64.wrap (left - (l.length : Int)) = left - (l.length : Int) := wrap_id (by omega) (by omega)
  unfold runRO
  by_cases h : left < (l.length : Int)
  · have h3 : left - (l.length : Int) < 0 := by omega
    rw [szT_neg (by omega)]
    simp (maxSteps := 4000000) -implicitDefEqProofs [tab13, a13, List.take, List.drop, memL, List.range, List.range.loop, h2, h3]
  · have h3 : ¬ left - (l.length : Int) < 0 := by omega
    simp (maxSteps := 4000000) -implicitDefEqProofs [tab13, a13, List.take, List.drop, h2, h3]
    rw [loop_szNodeS l hz (by omega) (left - (l.length : Int)) (by omega) (by omega) (by change _ = _; kernel_rfl)]
    rw [← szT_add h]
    generalize (l.map totN).sum = u
    by_cases hu : left - (l.length : Int) < (u : Int)
    · rw [szT_neg hu]
      simp only [R_szNodeS, if_pos hu]
      simp (maxSteps := 4000000) -implicitDefEqProofs [List.take, List.drop, memL, List.range, List.range.loop]
    · rw [szT_pos hu]
      simp only [R_szNodeS, if_neg hu]
      simp (maxSteps := 4000000) -implicitDefEqProofs [List.take, List.drop, memL, List.range, List.range.loop]

/-- A row that is copied, at i. -/
def part {α : Type} (lay : α → List Cell) (zc : List Cell) (l : List α) (i : Nat) : List Cell := (l.take i).flatMap lay ++ (List.replicate (l.length - i) zc).flatten
section
variable {α : Type} {lay : α → List Cell} {zc : List Cell} {z : Nat} {l : List α} {i : Nat}
theorem flatMap_len (hz : ∀ x, (lay x).length = z) : ∀ l : List α, (l.flatMap lay).length = l.length * z := by
  intro l
  induction l with
  | nil => simp
  | cons x r ih => rw [List.flatMap_cons, List.length_append, ih, hz, List.length_cons, Nat.succ_mul]; omega
theorem part_len (hz : ∀ x, (lay x).length = z) (hzc : zc.length = z) (hi : i ≤ l.length) : (part lay zc l i).length = l.length * z := by
  unfold part
  rw [List.length_append, flatMap_len hz, List.length_take, List.length_flatten, List.map_replicate, List.sum_replicate_nat, hzc, Nat.min_eq_left hi, ← Nat.add_mul]
  congr 1
  omega
theorem part_zero : part lay zc l 0 = (List.replicate l.length zc).flatten := by simp [part]
theorem part_all : part lay zc l l.length = l.flatMap lay := by simp [part]
theorem part_next (hz : ∀ x, (lay x).length = z) (hzc : zc.length = z) {x : α} {r : List α} (h : l.drop i = x :: r) : spl (lay x) (i * z) (part lay zc l i) = part lay zc l (i + 1) := by
  have hi := dropx_lt h
  have hx : l[i]? = some x := by
    have := congrArg (fun q : List α => q[0]?) h
    simpa using this
  have h1 : l.length - i = (l.length - (i + 1)) + 1 := by omega
  have hl : ((l.take i).flatMap lay).length = i * z := by rw [flatMap_len hz, List.length_take, Nat.min_eq_left (by omega)]
  unfold part spl
  rw [h1, List.replicate_succ, List.flatten_cons, List.take_append_of_le_length (by omega), List.take_of_length_le (by omega), List.take_add_one, hx, List.flatMap_append]
  rw [List.drop_append, List.drop_of_length_le (by omega), hl, Nat.add_sub_cancel_left, hz, List.nil_append, List.drop_append, List.drop_of_length_le (by omega), hzc, Nat.sub_self, List.drop_zero]
  simp
theorem cells_reps' {m : Mem} {zero : List A1} {zc : List Cell} (h : ∀ (r : List A1) (cs : List Cell), toCells m r = some (cs, m, []) → toCells m (zero ++ r) = some (zc ++ cs, m, [])) (n : Nat) : toCells m (reps n zero) = some ((List.replicate n zc).flatten, m, []) := by
  induction n with
  | zero => rfl
  | succ n ih => simp only [reps, List.replicate_succ, List.flatten_cons]; exact h _ _ ih
end
def layB (b : Bool) : List Cell := [.bool b]
def layI (l : List Int) : List Cell := [intsC l]
theorem cb_lay (l : List Bool) : l.flatMap layB = cb l := flat1 l
theorem layI_map (l : List (List Int)) : l.flatMap layI = l.map intsC := flat1 l
def zeroI : List Cell := [.sl 0 []]
def zeroX : List Cell := [.int .i64 0, .int .i64 0, .sl 0 []]
def zeroR : List Cell := [.int .i64 0, .int .i64 0]
def zeroN : List Cell := [.int .i64 0, .bool false, .bool false, .sl 0 [], .sl 0 [], .sl 0 [], .bool false, .bool false, .bool false, .int .i64 0, .sl 0 [], .sl 0 [], .sl 0 [], .sl 0 [], .sl 0 [], .sl 0 []]
theorem cb_at {l : List Bool} {i : Nat} {x : Bool} {r : List Bool} (h : l.drop i = x :: r) : (cb l).drop i = .bool x :: cb r := by
  unfold cb
  rw [← List.map_drop, h]
  rfl
/-! toBoolS -/
def S_toBoolS (l : List Bool) (i : Nat) : XS := ⟨⟨[.v false [.ro l.length (cb l)], .bad, .bad, .v false [.sl 0 [] 0 l.length], .v false [.int .i64 (i)], .bad, .bad, .bad, .bad, .bad, .bad, .bad, .bad, .bad, .bad, .bad, .bad, .bad, .bad, .bad, .bad, .bad], memL [some (.row 1 (part layB [.bool false] l i))], []⟩, 1⟩
def Z_toBoolS (l : List Bool) : XS := ⟨⟨[.bad, .bad, .bad, .v false [.sl 0 [] 0 l.length], .bad, .bad, .bad, .bad, .bad, .bad, .bad, .bad, .bad, .bad, .bad, .bad, .bad, .bad, .bad, .bad, .bad, .bad], memL [some (.row 1 (cb l))], []⟩, 1⟩
theorem loop_toBoolS (l : List Bool) (hn : l.length ≤ 1048576) {x : XS} (hx : head true d71_0 x = S_toBoolS l 0) : X tab l71_0 x = some (.exit 0, Z_toBoolS l) := by
  refine loopN l.length (S_toBoolS l) _ (by simp) (fun i hi => ?_) ?_ (Nat.zero_le _) hx
  · obtain ⟨y, r, hl⟩ : ∃ y r, l.drop i = y :: r := ⟨_, _, List.drop_eq_getElem_cons hi⟩
    have h1 : (0 ≤ (i : Int) ∧ (i : Int) < (l.length : Int)) := by omega
    have h2 := cb_at hl
    have h3 : i + 1 ≤ (part layB [.bool false] l i).length := by rw [part_len (z := 1) (fun _ => rfl) rfl (by omega)]; omega
    have h4 : IntKind.i64.wrap ((i : Int) + 1) = ((i + 1 : Nat) : Int) := by rw [wrap_id (by omega) (by omega)]; omega
    have h5 := part_next (lay := layB) (zc := [.bool false]) (z := 1) (fun _ => rfl) rfl hl
    rw [Nat.mul_one] at h5
    simp only [layB] at h5
    simp only [S_toBoolS]
    generalize part layB [.bool false] l i = p at *
    simp (maxSteps := 4000000) -implicitDefEqProofs [b71_0, List.take, List.drop, upd, h1, h2, h3, h4, h5, hi, -Int.natCast_add]
    change _ = _
    kernel_rfl
  · simp only [S_toBoolS, part_all, cb_lay]
    simp (maxSteps := 4000000) -implicitDefEqProofs [b71_0, List.take, List.drop, upd, Z_toBoolS]
    change _ = _
    kernel_rfl
theorem r_toBoolS (l : List Bool) (hn : l.length ≤ 1048576) : runRO (X tab) tab 71 [.v false [.ro l.length (cb l)]] = some (.v false [.sl 0 [] 0 l.length], [.row 1 (cb l)]) := by
  have h1 : (l.length : Int) ≤ 281474976710656 := by omega
  have hc := cells_reps' (m := fun _ => none) (zero := [.bool false]) (zc := [.bool false]) (fun r cs h => by simp only [List.cons_append, List.nil_append, toCells, toCell, h]; rfl) l.length
  have hS : S_toBoolS l 0 = ⟨⟨[.v false [.ro l.length (cb l)], .bad, .bad, .v false [.sl 0 [] 0 l.length], .v false [.int .i64 (0)], .bad, .bad, .bad, .bad, .bad, .bad, .bad, .bad, .bad, .bad, .bad, .bad, .bad, .bad, .bad, .bad, .bad], memL [some (.row 1 (List.replicate l.length (Cell.bool false)))], []⟩, 1⟩ := by simp [S_toBoolS, part_zero]
  unfold runRO
  simp (maxSteps := 4000000) -implicitDefEqProofs [tab71, a71, List.take, List.drop, upd, h1, hc, newRowSt]
  rw [loop_toBoolS l (by omega) (by
    change _ = _
    rw [hS]
    kernel_rfl)]
  simp (maxSteps := 4000000) -implicitDefEqProofs [Z_toBoolS, List.take, List.drop, upd, memL, List.range, List.range.loop]
/-! Rows of what has rows of its own. -/
theorem r_toRec (x : PRec) : runRO (X tab) tab 44 [.v true (recA x)] = some (.v true [.int .i64 x.cell, .int .i64 x.up], []) := by
  unfold runRO
  simp only [recA]
  simp (maxSteps := 4000000) -implicitDefEqProofs [tab44, a44, List.take, List.drop, upd, memL, List.range, List.range.loop, spl]
theorem r_toWire (x : PWire) (hx : x.bytes.length ≤ 1048576) : runRO (X tab) tab 43 [.v true (wireA x)] = some (.v true [.int .i64 x.src, .int .i64 x.dst, .sl 0 [] 0 x.bytes.length], [.row 1 (cl .u8 x.bytes)]) := by
  have h1 := toByteS x.bytes hx
  unfold runRO
  simp only [wireA]
  simp (maxSteps := 4000000) -implicitDefEqProofs [tab43, a43, List.take, List.drop, upd, List.range, List.range.loop, memL, h1, spl]
def S_toIntSS (l : List (List Int)) (i : Nat) : XS := ⟨⟨[.v false [.ro l.length (l.map intsC)], .bad, .bad, .v false [.sl 0 [] 0 l.length], .v false [.int .i64 (i)], .bad, .bad, .bad, .bad, .bad, .bad, .bad, .bad, .bad, .bad, .bad, .bad, .bad, .bad, .bad, .bad, .bad, .bad], memL [some (.row 1 (part layI zeroI l i))], []⟩, 1⟩
def Z_toIntSS (l : List (List Int)) : XS := ⟨⟨[.bad, .bad, .bad, .v false [.sl 0 [] 0 l.length], .bad, .bad, .bad, .bad, .bad, .bad, .bad, .bad, .bad, .bad, .bad, .bad, .bad, .bad, .bad, .bad, .bad, .bad, .bad], memL [some (.row 1 (l.map intsC))], []⟩, 1⟩
theorem loop_toIntSS (l : List (List Int)) (hn : l.length ≤ 1048576) (he : ∀ y ∈ l, y.length ≤ 1048576) {x : XS} (hx : head true d72_0 x = S_toIntSS l 0) : X tab l72_0 x = some (.exit 0, Z_toIntSS l) := by
  refine loopN l.length (S_toIntSS l) _ (by simp) (fun i hi => ?_) ?_ (Nat.zero_le _) hx
  · obtain ⟨y, r, hl⟩ : ∃ y r, l.drop i = y :: r := ⟨_, _, List.drop_eq_getElem_cons hi⟩
    have h1 : (0 ≤ (i : Int) ∧ (i : Int) < (l.length : Int)) := by omega
    have h2 := intss_at hl
    have h3 : i * 1 + 1 ≤ (part layI zeroI l i).length := by rw [part_len (z := 1) (fun _ => rfl) rfl (by omega)]; omega
    have h4 : IntKind.i64.wrap ((i : Int) + 1) = ((i + 1 : Nat) : Int) := by rw [wrap_id (by omega) (by omega)]; omega
    have h5 := part_next (lay := layI) (zc := zeroI) (z := 1) (fun _ => rfl) rfl hl
    have h6 := toIntS y (he y (dropx_mem hl))
    try simp only [Nat.mul_one] at h3 h5
    simp only [layI, intsC, List.cons_append, List.nil_append] at h2 h5 h6
    simp only [S_toIntSS]
    generalize part layI zeroI l i = p at *
    generalize part layI zeroI l (i + 1) = p' at *
    simp (maxSteps := 4000000) -implicitDefEqProofs [b72_0, List.take, List.drop, upd, List.range, List.range.loop, fromRo, h1, h2, h3, h4, h5, h6, hi, cutoff, kill, Eng.thru, mapMem, -Int.natCast_add]
    change _ = _
    kernel_rfl
  · simp only [S_toIntSS, part_all, layI_map]
    simp (maxSteps := 4000000) -implicitDefEqProofs [b72_0, List.take, List.drop, upd, Z_toIntSS]
    change _ = _
    kernel_rfl
theorem r_toIntSS (l : List (List Int)) (hn : l.length ≤ 1048576) (he : ∀ y ∈ l, y.length ≤ 1048576) : runRO (X tab) tab 72 [.v false [.ro l.length (l.map intsC)]] = some (.v false [.sl 0 [] 0 l.length], [.row 1 (l.map intsC)]) := by
  have h1 : 24 * (l.length : Int) ≤ 281474976710656 := by omega
  have hc := cells_reps' (m := fun _ => none) (zero := [.nil]) (zc := zeroI) (fun r cs h => by simp only [List.cons_append, List.nil_append, toCells, toCell, h]; rfl) l.length
  have hS : S_toIntSS l 0 = ⟨⟨[.v false [.ro l.length (l.map intsC)], .bad, .bad, .v false [.sl 0 [] 0 l.length], .v false [.int .i64 (0)], .bad, .bad, .bad, .bad, .bad, .bad, .bad, .bad, .bad, .bad, .bad, .bad, .bad, .bad, .bad, .bad, .bad, .bad], memL [some (.row 1 (List.replicate l.length zeroI).flatten)], []⟩, 1⟩ := by simp [S_toIntSS, part_zero]
  generalize hfl : (List.replicate l.length zeroI).flatten = fl at *
  unfold runRO
  simp (maxSteps := 4000000) -implicitDefEqProofs [tab72, a72, List.take, List.drop, upd, h1, hc, newRowSt]
  rw [loop_toIntSS l hn he (by
    change _ = _
    rw [hS]
    kernel_rfl)]
  simp (maxSteps := 4000000) -implicitDefEqProofs [Z_toIntSS, List.take, List.drop, upd, memL, List.range, List.range.loop]
def S_toWireS (l : List (PWire)) (i : Nat) : XS := ⟨⟨[.v false [.ro l.length (wiresC l)], .bad, .bad, .v false [.sl 0 [] 0 l.length], .v false [.int .i64 (i)], .bad, .bad, .bad, .bad, .bad, .bad, .bad, .bad, .bad, .bad, .bad, .bad, .bad, .bad, .bad, .bad, .bad, .bad], memL [some (.row 3 (part wireC zeroX l i))], []⟩, 1⟩
def Z_toWireS (l : List (PWire)) : XS := ⟨⟨[.bad, .bad, .bad, .v false [.sl 0 [] 0 l.length], .bad, .bad, .bad, .bad, .bad, .bad, .bad, .bad, .bad, .bad, .bad, .bad, .bad, .bad, .bad, .bad, .bad, .bad, .bad], memL [some (.row 3 (wiresC l))], []⟩, 1⟩
theorem loop_toWireS (l : List (PWire)) (hn : l.length ≤ 1048576) (he : ∀ y ∈ l, y.bytes.length ≤ 1048576) {x : XS} (hx : head true d22_0 x = S_toWireS l 0) : X tab l22_0 x = some (.exit 0, Z_toWireS l) := by
  refine loopN l.length (S_toWireS l) _ (by simp) (fun i hi => ?_) ?_ (Nat.zero_le _) hx
  · obtain ⟨y, r, hl⟩ : ∃ y r, l.drop i = y :: r := ⟨_, _, List.drop_eq_getElem_cons hi⟩
    have h1 : (0 ≤ (i : Int) ∧ (i : Int) < (l.length : Int)) := by omega
    have h2 := wiresC_at hl
    have h3 : i * 3 + 3 ≤ (part wireC zeroX l i).length := by rw [part_len (z := 3) (fun _ => rfl) rfl (by omega)]; omega
    have h4 : IntKind.i64.wrap ((i : Int) + 1) = ((i + 1 : Nat) : Int) := by rw [wrap_id (by omega) (by omega)]; omega
    have h5 := part_next (lay := wireC) (zc := zeroX) (z := 3) (fun _ => rfl) rfl hl
    have h6 := r_toWire y (he y (dropx_mem hl))
    try simp only [Nat.mul_one] at h3 h5
    simp only [wireC, bytesC, wireA, List.cons_append, List.nil_append] at h2 h5 h6
    simp only [S_toWireS]
    generalize part wireC zeroX l i = p at *
    generalize part wireC zeroX l (i + 1) = p' at *
    simp (maxSteps := 4000000) -implicitDefEqProofs [b22_0, List.take, List.drop, upd, List.range, List.range.loop, fromRo, h1, h2, h3, h4, h5, h6, hi, cutoff, kill, Eng.thru, mapMem, -Int.natCast_add]
    change _ = _
    kernel_rfl
  · simp only [S_toWireS, part_all, wiresC]
    simp (maxSteps := 4000000) -implicitDefEqProofs [b22_0, List.take, List.drop, upd, Z_toWireS]
    change _ = _
    kernel_rfl
theorem r_toWireS (l : List (PWire)) (hn : l.length ≤ 1048576) (he : ∀ y ∈ l, y.bytes.length ≤ 1048576) : runRO (X tab) tab 22 [.v false [.ro l.length (wiresC l)]] = some (.v false [.sl 0 [] 0 l.length], [.row 3 (wiresC l)]) := by
  have h1 : 40 * (l.length : Int) ≤ 281474976710656 := by omega
  have hc := cells_reps' (m := fun _ => none) (zero := [.int .i64 0, .int .i64 0, .nil]) (zc := zeroX) (fun r cs h => by simp only [List.cons_append, List.nil_append, toCells, toCell, h]; rfl) l.length
  have hS : S_toWireS l 0 = ⟨⟨[.v false [.ro l.length (wiresC l)], .bad, .bad, .v false [.sl 0 [] 0 l.length], .v false [.int .i64 (0)], .bad, .bad, .bad, .bad, .bad, .bad, .bad, .bad, .bad, .bad, .bad, .bad, .bad, .bad, .bad, .bad, .bad, .bad], memL [some (.row 3 (List.replicate l.length zeroX).flatten)], []⟩, 1⟩ := by simp [S_toWireS, part_zero]
  generalize hfl : (List.replicate l.length zeroX).flatten = fl at *
  unfold runRO
  simp (maxSteps := 4000000) -implicitDefEqProofs [tab22, a22, List.take, List.drop, upd, h1, hc, newRowSt]
  rw [loop_toWireS l hn he (by
    change _ = _
    rw [hS]
    kernel_rfl)]
  simp (maxSteps := 4000000) -implicitDefEqProofs [Z_toWireS, List.take, List.drop, upd, memL, List.range, List.range.loop]

theorem mem_le_sum {α : Type} {f : α → Nat} {l : List α} {x : α} (h : x ∈ l) : f x ≤ (l.map f).sum := by
  induction l with
  | nil => cases h
  | cons y r ih =>
    rw [List.map_cons, List.sum_cons]
    rcases List.mem_cons.1 h with rfl | h
    · omega
    · have := ih h; omega
/-- Of no more than the laws allow. -/
structure SmN (n : PNode) : Prop where
  image : n.image.length ≤ 1048576
  gens : n.mt.gens.length ≤ 1048576
  bits : n.mt.bits.length ≤ 1048576
  bit : ∀ l ∈ n.mt.bits, l.length ≤ 1048576
  sa : n.sa.length ≤ 1048576
  sb : n.sb.length ≤ 1048576
  conn : n.conn.length ≤ 1048576
  sync : n.sync.length ≤ 1048576
  syn : ∀ l ∈ n.sync, l.length ≤ 1048576
  copies : n.copies.length ≤ 1048576
  wait : n.wait.length ≤ 1048576
theorem smN (n : PNode) (h : totN n ≤ 1048576) : SmN n := by
  unfold totN at h
  exact ⟨by omega, by omega, by omega, fun l hl => by have := mem_le_sum (f := List.length) hl; omega, by omega, by omega, by omega, by omega, fun l hl => by have := mem_le_sum (f := List.length) hl; omega, by omega, by omega⟩
structure SmW (w : PWorld) : Prop where
  nodes : w.nodes.length ≤ 1048576
  node : ∀ n ∈ w.nodes, SmN n
  net : w.net.length ≤ 1048576
  wire : ∀ x ∈ w.net, x.bytes.length ≤ 1048576
  log : w.log.length ≤ 1048576
  safe : w.safe.length ≤ 1048576
theorem smW (w : PWorld) (h : totW w ≤ 1048576) : SmW w := by
  unfold totW at h
  exact ⟨by omega, fun n hn => smN n (by have := mem_le_sum (f := totN) hn; omega), by omega, fun x hx => by have h1 := mem_le_sum (f := totX) hx; have h2 : totX x = x.bytes.length := rfl; omega, by omega, by omega⟩
theorem r_toRec' (x : PRec) (_ : True) : runRO (X tab) tab 44 [.v true (recA x)] = some (.v true [.int .i64 x.cell, .int .i64 x.up], []) := r_toRec x
theorem r_toMeta (m : PMeta) (h1 : m.gens.length ≤ 1048576) (h2 : m.bits.length ≤ 1048576) (h3 : ∀ l ∈ m.bits, l.length ≤ 1048576) : runRO (X tab) tab 69 [.v true (metaA m)] = some (.v true [.sl 0 [] 0 m.gens.length, .sl 1 [] 0 m.bits.length, .bool m.fine, .bool m.old, .bool m.hd, .int .i64 m.last], [.row 1 (cl .i64 m.gens), .row 1 (m.bits.map intsC)]) := by
  have q1 := toIntS m.gens h1
  have q2 := r_toIntSS m.bits h2 h3
  unfold runRO
  simp only [metaA]
  simp (maxSteps := 4000000) -implicitDefEqProofs [tab69, a69, List.take, List.drop, upd, List.range, List.range.loop, memL, q1, q2, spl]
theorem r_toSlots (n : PNode) (h1 : n.sa.length ≤ 1048576) (h2 : n.sb.length ≤ 1048576) : runRO (X tab) tab 70 [.v true (slotsA n)] = some (.v true [.sl 0 [] 0 n.sa.length, .sl 1 [] 0 n.sb.length], [.row 1 (cl .u8 n.sa), .row 1 (cl .u8 n.sb)]) := by
  have q1 := toByteS n.sa h1
  have q2 := toByteS n.sb h2
  unfold runRO
  simp only [slotsA]
  simp (maxSteps := 4000000) -implicitDefEqProofs [tab70, a70, List.take, List.drop, upd, List.range, List.range.loop, memL, q1, q2, spl]
def nodeR (n : PNode) : List A1 :=
  [.int .i64 n.id, .bool n.up, .bool n.prime, .sl 0 [] 0 n.image.length, .sl 1 [] 0 n.mt.gens.length, .sl 2 [] 0 n.mt.bits.length, .bool n.mt.fine, .bool n.mt.old, .bool n.mt.hd, .int .i64 n.mt.last,
    .sl 3 [] 0 n.sa.length, .sl 4 [] 0 n.sb.length, .sl 5 [] 0 n.conn.length, .sl 6 [] 0 n.sync.length, .sl 7 [] 0 n.copies.length, .sl 8 [] 0 n.wait.length]
def nodeO (n : PNode) : List Ob :=
  [.row 1 (cl .i64 n.image), .row 1 (cl .i64 n.mt.gens), .row 1 (n.mt.bits.map intsC), .row 1 (cl .u8 n.sa), .row 1 (cl .u8 n.sb), .row 1 (cb n.conn), .row 1 (n.sync.map intsC), .row 1 (cb n.copies), .row 1 (cl .i64 n.wait)]
theorem r_toNode (n : PNode) (h : SmN n) : runRO (X tab) tab 42 [.v true (nodeA n)] = some (.v true (nodeR n), nodeO n) := by
  have q1 := toIntS n.image h.image
  have q2 := r_toMeta n.mt h.gens h.bits h.bit
  have q3 := r_toSlots n h.sa h.sb
  have q4 := r_toBoolS n.conn h.conn
  have q5 := r_toIntSS n.sync h.sync h.syn
  have q6 := r_toBoolS n.copies h.copies
  have q7 := toIntS n.wait h.wait
  simp only [metaA, slotsA] at q2 q3
  unfold runRO
  simp only [nodeA, nodeR, nodeO]
  simp (maxSteps := 4000000) -implicitDefEqProofs [tab42, a42, List.take, List.drop, upd, List.range, List.range.loop, memL, q1, q2, q3, q4, q5, q6, q7, spl]
def S_toRecS (l : List (PRec)) (i : Nat) : XS := ⟨⟨[.v false [.ro l.length (recsC l)], .bad, .bad, .v false [.sl 0 [] 0 l.length], .v false [.int .i64 (i)], .bad, .bad, .bad, .bad, .bad, .bad, .bad, .bad, .bad, .bad, .bad, .bad, .bad, .bad, .bad, .bad, .bad, .bad], memL [some (.row 2 (part recC zeroR l i))], []⟩, 1⟩
def Z_toRecS (l : List (PRec)) : XS := ⟨⟨[.bad, .bad, .bad, .v false [.sl 0 [] 0 l.length], .bad, .bad, .bad, .bad, .bad, .bad, .bad, .bad, .bad, .bad, .bad, .bad, .bad, .bad, .bad, .bad, .bad, .bad, .bad], memL [some (.row 2 (recsC l))], []⟩, 1⟩
theorem loop_toRecS (l : List (PRec)) (hn : l.length ≤ 1048576) (he : ∀ y ∈ l, True) {x : XS} (hx : head true d23_0 x = S_toRecS l 0) : X tab l23_0 x = some (.exit 0, Z_toRecS l) := by
  refine loopN l.length (S_toRecS l) _ (by simp) (fun i hi => ?_) ?_ (Nat.zero_le _) hx
  · obtain ⟨y, r, hl⟩ : ∃ y r, l.drop i = y :: r := ⟨_, _, List.drop_eq_getElem_cons hi⟩
    have h1 : (0 ≤ (i : Int) ∧ (i : Int) < (l.length : Int)) := by omega
    have h2 := recsC_at hl
    have h3 : i * 2 + 2 ≤ (part recC zeroR l i).length := by rw [part_len (z := 2) (fun _ => rfl) rfl (by omega)]; omega
    have h4 : IntKind.i64.wrap ((i : Int) + 1) = ((i + 1 : Nat) : Int) := by rw [wrap_id (by omega) (by omega)]; omega
    have h5 := part_next (lay := recC) (zc := zeroR) (z := 2) (fun _ => rfl) rfl hl
    have h6 := r_toRec' y (he y (dropx_mem hl))
    simp only [recC, recA, List.cons_append, List.nil_append] at h2 h5 h6
    simp only [S_toRecS]
    generalize part recC zeroR l i = p at *
    generalize part recC zeroR l (i + 1) = p' at *
    simp (maxSteps := 4000000) -implicitDefEqProofs [b23_0, List.take, List.drop, upd, List.range, List.range.loop, fromRo, h1, h2, h3, h4, h5, h6, hi, cutoff, -Int.natCast_add]
    change _ = _
    kernel_rfl
  · simp only [S_toRecS, part_all, recsC]
    simp (maxSteps := 4000000) -implicitDefEqProofs [b23_0, List.take, List.drop, upd, Z_toRecS]
    change _ = _
    kernel_rfl
theorem r_toRecS (l : List (PRec)) (hn : l.length ≤ 1048576) (he : ∀ y ∈ l, True) : runRO (X tab) tab 23 [.v false [.ro l.length (recsC l)]] = some (.v false [.sl 0 [] 0 l.length], [.row 2 (recsC l)]) := by
  have h1 : 16 * (l.length : Int) ≤ 281474976710656 := by omega
  have hc := cells_reps' (m := fun _ => none) (zero := [.int .i64 0, .int .i64 0]) (zc := zeroR) (fun r cs h => by simp only [List.cons_append, List.nil_append, toCells, toCell, h]; rfl) l.length
  have hS : S_toRecS l 0 = ⟨⟨[.v false [.ro l.length (recsC l)], .bad, .bad, .v false [.sl 0 [] 0 l.length], .v false [.int .i64 (0)], .bad, .bad, .bad, .bad, .bad, .bad, .bad, .bad, .bad, .bad, .bad, .bad, .bad, .bad, .bad, .bad, .bad, .bad], memL [some (.row 2 (List.replicate l.length zeroR).flatten)], []⟩, 1⟩ := by simp [S_toRecS, part_zero]
  generalize hfl : (List.replicate l.length zeroR).flatten = fl at *
  unfold runRO
  simp (maxSteps := 4000000) -implicitDefEqProofs [tab23, a23, List.take, List.drop, upd, h1, hc, newRowSt]
  rw [loop_toRecS l hn he (by
    change _ = _
    rw [hS]
    kernel_rfl)]
  simp (maxSteps := 4000000) -implicitDefEqProofs [Z_toRecS, List.take, List.drop, upd, memL, List.range, List.range.loop]
def S_toNodeS (l : List (PNode)) (i : Nat) : XS := ⟨⟨[.v false [.ro l.length (nodesC l)], .bad, .bad, .v false [.sl 0 [] 0 l.length], .v false [.int .i64 (i)], .bad, .bad, .bad, .bad, .bad, .bad, .bad, .bad, .bad, .bad, .bad, .bad, .bad, .bad, .bad, .bad, .bad, .bad], memL [some (.row 16 (part nodeC zeroN l i))], []⟩, 1⟩
def Z_toNodeS (l : List (PNode)) : XS := ⟨⟨[.bad, .bad, .bad, .v false [.sl 0 [] 0 l.length], .bad, .bad, .bad, .bad, .bad, .bad, .bad, .bad, .bad, .bad, .bad, .bad, .bad, .bad, .bad, .bad, .bad, .bad, .bad], memL [some (.row 16 (nodesC l))], []⟩, 1⟩
theorem loop_toNodeS (l : List (PNode)) (hn : l.length ≤ 1048576) (he : ∀ y ∈ l, SmN y) {x : XS} (hx : head true d21_0 x = S_toNodeS l 0) : X tab l21_0 x = some (.exit 0, Z_toNodeS l) := by
  refine loopN l.length (S_toNodeS l) _ (by simp) (fun i hi => ?_) ?_ (Nat.zero_le _) hx
  · obtain ⟨y, r, hl⟩ : ∃ y r, l.drop i = y :: r := ⟨_, _, List.drop_eq_getElem_cons hi⟩
    have h1 : (0 ≤ (i : Int) ∧ (i : Int) < (l.length : Int)) := by omega
    have h2 := nodesC_at hl
    have h3 : i * 16 + 16 ≤ (part nodeC zeroN l i).length := by rw [part_len (z := 16) (fun _ => rfl) rfl (by omega)]; omega
    have h4 : IntKind.i64.wrap ((i : Int) + 1) = ((i + 1 : Nat) : Int) := by rw [wrap_id (by omega) (by omega)]; omega
    have h5 := part_next (lay := nodeC) (zc := zeroN) (z := 16) (fun _ => rfl) rfl hl
    have h6 := r_toNode y (he y (dropx_mem hl))
    simp only [nodeC, nodeA, nodeR, nodeO, intsC, intssC, bytesC, boolsC, List.cons_append, List.nil_append] at h2 h5 h6
    simp only [S_toNodeS]
    generalize part nodeC zeroN l i = p at *
    generalize part nodeC zeroN l (i + 1) = p' at *
    simp (maxSteps := 4000000) -implicitDefEqProofs [b21_0, List.take, List.drop, upd, List.range, List.range.loop, fromRo, h1, h2, h3, h4, h5, h6, hi, cutoff, kill, Eng.thru, mapMem, -Int.natCast_add]
    change _ = _
    kernel_rfl
  · simp only [S_toNodeS, part_all, nodesC]
    simp (maxSteps := 4000000) -implicitDefEqProofs [b21_0, List.take, List.drop, upd, Z_toNodeS]
    change _ = _
    kernel_rfl
theorem r_toNodeS (l : List (PNode)) (hn : l.length ≤ 1048576) (he : ∀ y ∈ l, SmN y) : runRO (X tab) tab 21 [.v false [.ro l.length (nodesC l)]] = some (.v false [.sl 0 [] 0 l.length], [.row 16 (nodesC l)]) := by
  have h1 : 248 * (l.length : Int) ≤ 281474976710656 := by omega
  have hc := cells_reps' (m := fun _ => none) (zero := [.int .i64 0, .bool false, .bool false, .nil, .nil, .nil, .bool false, .bool false, .bool false, .int .i64 0, .nil, .nil, .nil, .nil, .nil, .nil]) (zc := zeroN) (fun r cs h => by simp only [List.cons_append, List.nil_append, toCells, toCell, h]; rfl) l.length
  have hS : S_toNodeS l 0 = ⟨⟨[.v false [.ro l.length (nodesC l)], .bad, .bad, .v false [.sl 0 [] 0 l.length], .v false [.int .i64 (0)], .bad, .bad, .bad, .bad, .bad, .bad, .bad, .bad, .bad, .bad, .bad, .bad, .bad, .bad, .bad, .bad, .bad, .bad], memL [some (.row 16 (List.replicate l.length zeroN).flatten)], []⟩, 1⟩ := by simp [S_toNodeS, part_zero]
  generalize hfl : (List.replicate l.length zeroN).flatten = fl at *
  unfold runRO
  simp (maxSteps := 4000000) -implicitDefEqProofs [tab21, a21, List.take, List.drop, upd, h1, hc, newRowSt]
  rw [loop_toNodeS l hn he (by
    change _ = _
    rw [hS]
    kernel_rfl)]
  simp (maxSteps := 4000000) -implicitDefEqProofs [Z_toNodeS, List.take, List.drop, upd, memL, List.range, List.range.loop]
def worldR (w : PWorld) : List A1 := [.sl 0 [] 0 w.nodes.length, .sl 1 [] 0 w.net.length, .sl 2 [] 0 w.log.length, .sl 3 [] 0 w.safe.length, .int .i64 w.gen]
def worldO (w : PWorld) : List Ob := [.row 16 (nodesC w.nodes), .row 3 (wiresC w.net), .row 2 (recsC w.log), .row 1 (cl .i64 w.safe)]
theorem r_toWorld (w : PWorld) (h : SmW w) : runRO (X tab) tab 6 [.v true (worldA w)] = some (.v true (worldR w), worldO w) := by
  have q1 := r_toNodeS w.nodes h.nodes h.node
  have q2 := r_toWireS w.net h.net h.wire
  have q3 := r_toRecS w.log h.log (fun _ _ => trivial)
  have q4 := toIntS w.safe h.safe
  unfold runRO
  simp only [worldA, worldR, worldO]
  simp (maxSteps := 4000000) -implicitDefEqProofs [tab6, a6, List.take, List.drop, upd, List.range, List.range.loop, memL, q1, q2, q3, q4, spl]

def EqL {α : Type} (f : FuncId) (lay : List α → List Cell) (l : List α) : Prop :=
  runRO (X tab) tab f [.v false [.ro l.length (lay l)], .v false [.ro l.length (lay l)]] = some (.v false [.bool true], [])
theorem r_eqRec (x : PRec) (_ : True) : runRO (X tab) tab 54 [.v true (recA x), .v true (recA x)] = some (.v false [.bool true], []) := by
  unfold runRO
  simp only [recA]
  simp (maxSteps := 4000000) -implicitDefEqProofs [tab54, a54, List.take, List.drop, upd, memL, List.range, List.range.loop]
theorem r_eqWire (x : PWire) (hx : x.bytes.length ≤ 1048576) : runRO (X tab) tab 53 [.v true (wireA x), .v true (wireA x)] = some (.v false [.bool true], []) := by
  have q1 := eqByteS x.bytes hx
  unfold runRO
  simp only [wireA]
  simp (maxSteps := 4000000) -implicitDefEqProofs [tab53, a53, List.take, List.drop, upd, List.range, List.range.loop, memL, q1]
def S_eqBoolS (l : List (Bool)) (i : Nat) : XS := ⟨⟨[.v false [.ro l.length (cb l)], .v false [.ro l.length (cb l)], .bad, .bad, .bad, .v false [.int .i64 (i)], .bad, .bad, .bad, .bad, .bad, .bad, .bad, .bad, .bad, .bad, .bad, .bad, .bad, .bad, .bad, .bad, .bad, .bad, .bad, .bad], memL [], []⟩, 0⟩
def Z_eqBoolS : XS := ⟨⟨[.bad, .bad, .bad, .bad, .bad, .bad, .bad, .bad, .bad, .bad, .bad, .bad, .bad, .bad, .bad, .bad, .bad, .bad, .bad, .bad, .bad, .bad, .bad, .bad, .bad, .bad], memL [], []⟩, 0⟩
theorem loop_eqBoolS (l : List (Bool)) (hn : l.length ≤ 1048576) (he : ∀ y ∈ l, True) {x : XS} (hx : head true d83_0 x = S_eqBoolS l 0) : X tab l83_0 x = some (.exit 0, Z_eqBoolS) := by
  refine loopN l.length (S_eqBoolS l) _ (by simp) (fun i hi => ?_) ?_ (Nat.zero_le _) hx
  · obtain ⟨y, r, hl⟩ : ∃ y r, l.drop i = y :: r := ⟨_, _, List.drop_eq_getElem_cons hi⟩
    have h1 : (0 ≤ (i : Int) ∧ (i : Int) < (l.length : Int)) := by omega
    have h2 := cb_at hl
    have h4 : IntKind.i64.wrap ((i : Int) + 1) = ((i + 1 : Nat) : Int) := by rw [wrap_id (by omega) (by omega)]; omega
    have h6 := trivial
    try simp only [cb_at, List.cons_append, List.nil_append] at h2 h6
    simp only [S_eqBoolS]
    simp (maxSteps := 4000000) -implicitDefEqProofs [b83_0, List.take, List.drop, List.range, List.range.loop, fromRo, h1, h2, h4, h6, hi, -Int.natCast_add]
    change _ = _
    kernel_rfl
  · simp (maxSteps := 4000000) -implicitDefEqProofs [b83_0, S_eqBoolS, List.take, List.drop]
    change _ = _
    kernel_rfl
theorem r_eqBoolS (l : List (Bool)) (hn : l.length ≤ 1048576) (he : ∀ y ∈ l, True) : runRO (X tab) tab 83 [.v false [.ro l.length (cb l)], .v false [.ro l.length (cb l)]] = some (.v false [.bool true], []) := by
  unfold runRO
  simp (maxSteps := 4000000) -implicitDefEqProofs [tab83, a83, List.take, List.drop]
  rw [loop_eqBoolS l hn he (by change _ = _; kernel_rfl)]
  simp (maxSteps := 4000000) -implicitDefEqProofs [Z_eqBoolS, List.take, List.drop, memL, List.range, List.range.loop]
def S_eqIntSS (l : List (List Int)) (i : Nat) : XS := ⟨⟨[.v false [.ro l.length (l.map intsC)], .v false [.ro l.length (l.map intsC)], .bad, .bad, .bad, .v false [.int .i64 (i)], .bad, .bad, .bad, .bad, .bad, .bad, .bad, .bad, .bad, .bad, .bad, .bad, .bad, .bad, .bad, .bad, .bad, .bad, .bad, .bad, .bad], memL [], []⟩, 0⟩
def Z_eqIntSS : XS := ⟨⟨[.bad, .bad, .bad, .bad, .bad, .bad, .bad, .bad, .bad, .bad, .bad, .bad, .bad, .bad, .bad, .bad, .bad, .bad, .bad, .bad, .bad, .bad, .bad, .bad, .bad, .bad, .bad], memL [], []⟩, 0⟩
theorem loop_eqIntSS (l : List (List Int)) (hn : l.length ≤ 1048576) (he : ∀ y ∈ l, y.length ≤ 1048576) {x : XS} (hx : head true d84_0 x = S_eqIntSS l 0) : X tab l84_0 x = some (.exit 0, Z_eqIntSS) := by
  refine loopN l.length (S_eqIntSS l) _ (by simp) (fun i hi => ?_) ?_ (Nat.zero_le _) hx
  · obtain ⟨y, r, hl⟩ : ∃ y r, l.drop i = y :: r := ⟨_, _, List.drop_eq_getElem_cons hi⟩
    have h1 : (0 ≤ (i : Int) ∧ (i : Int) < (l.length : Int)) := by omega
    have h2 := intss_at hl
    have h4 : IntKind.i64.wrap ((i : Int) + 1) = ((i + 1 : Nat) : Int) := by rw [wrap_id (by omega) (by omega)]; omega
    have h6 := eqIntS y (he y (dropx_mem hl))
    try simp only [intsC, List.cons_append, List.nil_append] at h2 h6
    simp only [S_eqIntSS]
    simp (maxSteps := 4000000) -implicitDefEqProofs [b84_0, List.take, List.drop, List.range, List.range.loop, fromRo, h1, h2, h4, h6, hi, -Int.natCast_add]
    change _ = _
    kernel_rfl
  · simp (maxSteps := 4000000) -implicitDefEqProofs [b84_0, S_eqIntSS, List.take, List.drop]
    change _ = _
    kernel_rfl
theorem r_eqIntSS (l : List (List Int)) (hn : l.length ≤ 1048576) (he : ∀ y ∈ l, y.length ≤ 1048576) : runRO (X tab) tab 84 [.v false [.ro l.length (l.map intsC)], .v false [.ro l.length (l.map intsC)]] = some (.v false [.bool true], []) := by
  unfold runRO
  simp (maxSteps := 4000000) -implicitDefEqProofs [tab84, a84, List.take, List.drop]
  rw [loop_eqIntSS l hn he (by change _ = _; kernel_rfl)]
  simp (maxSteps := 4000000) -implicitDefEqProofs [Z_eqIntSS, List.take, List.drop, memL, List.range, List.range.loop]
def S_eqRecS (l : List (PRec)) (i : Nat) : XS := ⟨⟨[.v false [.ro l.length (recsC l)], .v false [.ro l.length (recsC l)], .bad, .bad, .bad, .v false [.int .i64 (i)], .bad, .bad, .bad, .bad, .bad, .bad, .bad, .bad, .bad, .bad, .bad, .bad, .bad, .bad, .bad, .bad, .bad, .bad, .bad, .bad, .bad], memL [], []⟩, 0⟩
def Z_eqRecS : XS := ⟨⟨[.bad, .bad, .bad, .bad, .bad, .bad, .bad, .bad, .bad, .bad, .bad, .bad, .bad, .bad, .bad, .bad, .bad, .bad, .bad, .bad, .bad, .bad, .bad, .bad, .bad, .bad, .bad], memL [], []⟩, 0⟩
theorem loop_eqRecS (l : List (PRec)) (hn : l.length ≤ 1048576) (he : ∀ y ∈ l, True) {x : XS} (hx : head true d31_0 x = S_eqRecS l 0) : X tab l31_0 x = some (.exit 0, Z_eqRecS) := by
  refine loopN l.length (S_eqRecS l) _ (by simp) (fun i hi => ?_) ?_ (Nat.zero_le _) hx
  · obtain ⟨y, r, hl⟩ : ∃ y r, l.drop i = y :: r := ⟨_, _, List.drop_eq_getElem_cons hi⟩
    have h1 : (0 ≤ (i : Int) ∧ (i : Int) < (l.length : Int)) := by omega
    have h2 := recsC_at hl
    have h4 : IntKind.i64.wrap ((i : Int) + 1) = ((i + 1 : Nat) : Int) := by rw [wrap_id (by omega) (by omega)]; omega
    have h6 := r_eqRec y (he y (dropx_mem hl))
    try simp only [recC, recA, List.cons_append, List.nil_append] at h2 h6
    simp only [S_eqRecS]
    simp (maxSteps := 4000000) -implicitDefEqProofs [b31_0, List.take, List.drop, List.range, List.range.loop, fromRo, h1, h2, h4, h6, hi, -Int.natCast_add]
    change _ = _
    kernel_rfl
  · simp (maxSteps := 4000000) -implicitDefEqProofs [b31_0, S_eqRecS, List.take, List.drop]
    change _ = _
    kernel_rfl
theorem r_eqRecS (l : List (PRec)) (hn : l.length ≤ 1048576) (he : ∀ y ∈ l, True) : runRO (X tab) tab 31 [.v false [.ro l.length (recsC l)], .v false [.ro l.length (recsC l)]] = some (.v false [.bool true], []) := by
  unfold runRO
  simp (maxSteps := 4000000) -implicitDefEqProofs [tab31, a31, List.take, List.drop]
  rw [loop_eqRecS l hn he (by change _ = _; kernel_rfl)]
  simp (maxSteps := 4000000) -implicitDefEqProofs [Z_eqRecS, List.take, List.drop, memL, List.range, List.range.loop]
def S_eqWireS (l : List (PWire)) (i : Nat) : XS := ⟨⟨[.v false [.ro l.length (wiresC l)], .v false [.ro l.length (wiresC l)], .bad, .bad, .bad, .v false [.int .i64 (i)], .bad, .bad, .bad, .bad, .bad, .bad, .bad, .bad, .bad, .bad, .bad, .bad, .bad, .bad, .bad, .bad, .bad, .bad, .bad, .bad, .bad], memL [], []⟩, 0⟩
def Z_eqWireS : XS := ⟨⟨[.bad, .bad, .bad, .bad, .bad, .bad, .bad, .bad, .bad, .bad, .bad, .bad, .bad, .bad, .bad, .bad, .bad, .bad, .bad, .bad, .bad, .bad, .bad, .bad, .bad, .bad, .bad], memL [], []⟩, 0⟩
theorem loop_eqWireS (l : List (PWire)) (hn : l.length ≤ 1048576) (he : ∀ y ∈ l, y.bytes.length ≤ 1048576) {x : XS} (hx : head true d30_0 x = S_eqWireS l 0) : X tab l30_0 x = some (.exit 0, Z_eqWireS) := by
  refine loopN l.length (S_eqWireS l) _ (by simp) (fun i hi => ?_) ?_ (Nat.zero_le _) hx
  · obtain ⟨y, r, hl⟩ : ∃ y r, l.drop i = y :: r := ⟨_, _, List.drop_eq_getElem_cons hi⟩
    have h1 : (0 ≤ (i : Int) ∧ (i : Int) < (l.length : Int)) := by omega
    have h2 := wiresC_at hl
    have h4 : IntKind.i64.wrap ((i : Int) + 1) = ((i + 1 : Nat) : Int) := by rw [wrap_id (by omega) (by omega)]; omega
    have h6 := r_eqWire y (he y (dropx_mem hl))
    try simp only [wireC, wireA, bytesC, List.cons_append, List.nil_append] at h2 h6
    simp only [S_eqWireS]
    simp (maxSteps := 4000000) -implicitDefEqProofs [b30_0, List.take, List.drop, List.range, List.range.loop, fromRo, h1, h2, h4, h6, hi, -Int.natCast_add]
    change _ = _
    kernel_rfl
  · simp (maxSteps := 4000000) -implicitDefEqProofs [b30_0, S_eqWireS, List.take, List.drop]
    change _ = _
    kernel_rfl
theorem r_eqWireS (l : List (PWire)) (hn : l.length ≤ 1048576) (he : ∀ y ∈ l, y.bytes.length ≤ 1048576) : runRO (X tab) tab 30 [.v false [.ro l.length (wiresC l)], .v false [.ro l.length (wiresC l)]] = some (.v false [.bool true], []) := by
  unfold runRO
  simp (maxSteps := 4000000) -implicitDefEqProofs [tab30, a30, List.take, List.drop]
  rw [loop_eqWireS l hn he (by change _ = _; kernel_rfl)]
  simp (maxSteps := 4000000) -implicitDefEqProofs [Z_eqWireS, List.take, List.drop, memL, List.range, List.range.loop]
theorem r_eqMeta (m : PMeta) (h1 : m.gens.length ≤ 1048576) (h2 : m.bits.length ≤ 1048576) (h3 : ∀ l ∈ m.bits, l.length ≤ 1048576) : runRO (X tab) tab 81 [.v true (metaA m), .v true (metaA m)] = some (.v false [.bool true], []) := by
  have q1 := eqIntS m.gens h1
  have q2 := r_eqIntSS m.bits h2 h3
  unfold runRO
  simp only [metaA]
  simp (maxSteps := 4000000) -implicitDefEqProofs [tab81, a81, List.take, List.drop, upd, List.range, List.range.loop, memL, q1, q2]
theorem r_eqSlots (n : PNode) (h1 : n.sa.length ≤ 1048576) (h2 : n.sb.length ≤ 1048576) : runRO (X tab) tab 82 [.v true (slotsA n), .v true (slotsA n)] = some (.v false [.bool true], []) := by
  have q1 := eqByteS n.sa h1
  have q2 := eqByteS n.sb h2
  unfold runRO
  simp only [slotsA]
  simp (maxSteps := 4000000) -implicitDefEqProofs [tab82, a82, List.take, List.drop, upd, List.range, List.range.loop, memL, q1, q2]
theorem r_eqNode (n : PNode) (h : SmN n) : runRO (X tab) tab 52 [.v true (nodeA n), .v true (nodeA n)] = some (.v false [.bool true], []) := by
  have q1 := eqIntS n.image h.image
  have q2 := r_eqMeta n.mt h.gens h.bits h.bit
  have q3 := r_eqSlots n h.sa h.sb
  have q4 := r_eqBoolS n.conn h.conn (fun _ _ => trivial)
  have q5 := r_eqIntSS n.sync h.sync h.syn
  have q6 := r_eqBoolS n.copies h.copies (fun _ _ => trivial)
  have q7 := eqIntS n.wait h.wait
  simp only [metaA, slotsA] at q2 q3
  unfold runRO
  simp only [nodeA]
  simp (maxSteps := 4000000) -implicitDefEqProofs [tab52, a52, List.take, List.drop, upd, List.range, List.range.loop, memL, q1, q2, q3, q4, q5, q6, q7]
def S_eqNodeS (l : List (PNode)) (i : Nat) : XS := ⟨⟨[.v false [.ro l.length (nodesC l)], .v false [.ro l.length (nodesC l)], .bad, .bad, .bad, .v false [.int .i64 (i)], .bad, .bad, .bad, .bad, .bad, .bad, .bad, .bad, .bad, .bad, .bad, .bad, .bad, .bad, .bad, .bad, .bad, .bad, .bad, .bad, .bad], memL [], []⟩, 0⟩
def Z_eqNodeS : XS := ⟨⟨[.bad, .bad, .bad, .bad, .bad, .bad, .bad, .bad, .bad, .bad, .bad, .bad, .bad, .bad, .bad, .bad, .bad, .bad, .bad, .bad, .bad, .bad, .bad, .bad, .bad, .bad, .bad], memL [], []⟩, 0⟩
theorem loop_eqNodeS (l : List (PNode)) (hn : l.length ≤ 1048576) (he : ∀ y ∈ l, SmN y) {x : XS} (hx : head true d29_0 x = S_eqNodeS l 0) : X tab l29_0 x = some (.exit 0, Z_eqNodeS) := by
  refine loopN l.length (S_eqNodeS l) _ (by simp) (fun i hi => ?_) ?_ (Nat.zero_le _) hx
  · obtain ⟨y, r, hl⟩ : ∃ y r, l.drop i = y :: r := ⟨_, _, List.drop_eq_getElem_cons hi⟩
    have h1 : (0 ≤ (i : Int) ∧ (i : Int) < (l.length : Int)) := by omega
    have h2 := nodesC_at hl
    have h4 : IntKind.i64.wrap ((i : Int) + 1) = ((i + 1 : Nat) : Int) := by rw [wrap_id (by omega) (by omega)]; omega
    have h6 := r_eqNode y (he y (dropx_mem hl))
    try simp only [nodeC, nodeA, intsC, intssC, bytesC, boolsC, List.cons_append, List.nil_append] at h2 h6
    simp only [S_eqNodeS]
    simp (maxSteps := 4000000) -implicitDefEqProofs [b29_0, List.take, List.drop, List.range, List.range.loop, fromRo, h1, h2, h4, h6, hi, -Int.natCast_add]
    change _ = _
    kernel_rfl
  · simp (maxSteps := 4000000) -implicitDefEqProofs [b29_0, S_eqNodeS, List.take, List.drop]
    change _ = _
    kernel_rfl
theorem r_eqNodeS (l : List (PNode)) (hn : l.length ≤ 1048576) (he : ∀ y ∈ l, SmN y) : runRO (X tab) tab 29 [.v false [.ro l.length (nodesC l)], .v false [.ro l.length (nodesC l)]] = some (.v false [.bool true], []) := by
  unfold runRO
  simp (maxSteps := 4000000) -implicitDefEqProofs [tab29, a29, List.take, List.drop]
  rw [loop_eqNodeS l hn he (by change _ = _; kernel_rfl)]
  simp (maxSteps := 4000000) -implicitDefEqProofs [Z_eqNodeS, List.take, List.drop, memL, List.range, List.range.loop]
theorem r_eqWorld (w : PWorld) (h : SmW w) : runRO (X tab) tab 9 [.v true (worldA w), .v true (worldA w)] = some (.v false [.bool true], []) := by
  have q1 := r_eqNodeS w.nodes h.nodes h.node
  have q2 := r_eqWireS w.net h.net h.wire
  have q3 := r_eqRecS w.log h.log (fun _ _ => trivial)
  have q4 := eqIntS w.safe h.safe
  unfold runRO
  simp only [worldA]
  simp (maxSteps := 4000000) -implicitDefEqProofs [tab9, a9, List.take, List.drop, upd, List.range, List.range.loop, memL, q1, q2, q3, q4]
end Go.Proofs.YtbdokibepndibaaGreat.Eng.C
