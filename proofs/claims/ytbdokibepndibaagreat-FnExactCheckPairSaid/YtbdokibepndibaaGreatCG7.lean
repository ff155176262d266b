/- Zd, Ze, Zg, Zh, as one text. -/
import Derived.Test.YtbdokibepndibaaGreatCG6
import Derived.Test.YtbdokibepndibaaGreatCG5
namespace Go.Proofs.YtbdokibepndibaaGreat.Eng.C
set_option linter.unusedSimpArgs false
set_option linter.unusedVariables false
set_option maxHeartbeats 16000000
set_option maxRecDepth 100000
open Go.RowKit Go.Proofs
attribute [local simp] x_seq x_cond x_block x_region x_skip x_exit x_ret head_id runG runOps doOp wantB stepOp AO.eff pureOp St.get St.one St.num St.put St.optNum binA binInt gOp gOp0 gOpL gResL updO gRes gEff addObs_nil addObs_one freshB_memL freshB_none freshB_upd freshB_addMem freshB_addObs effOp2 effOp memL_app stoRow cellsAt toCells toCell scalar_int scalar_bool scalar_str scalar_sl updAt fromRo callRO addMem_nil roArgs roL roA srcCells A1.ownB addMem shift ren SV.map Ob.map Ob.noRo SV.noRo A1.noRo resOf resSV SV.ids A1.ids reach allObs pos St.canon A1.slB flat_int cl_flat' St.parts Eng.inB reps fillA newRowSt appSt oldOf

theorem mkF_bound : ∀ (l : List Int) (p : Option Int), mkF p l = true → (∀ x ∈ l, 0 ≤ x ∧ x ≤ 7) ∧ (match p with | none => l.length ≤ 8 | some q => 0 ≤ q → q ≤ 7 → (l.length : Int) ≤ 7 - q) := by
  intro l
  induction l with
  | nil => intro p _; cases p <;> simp
  | cons y r ih =>
    intro p h
    cases p with
    | none =>
      simp only [mkF, Bool.and_eq_true] at h
      have hy := rng_iff.1 h.1
      obtain ⟨h1, h2⟩ := ih _ h.2
      have := h2 hy.1 hy.2
      refine ⟨fun x hx => ?_, by simp only [List.length_cons]; omega⟩
      rcases List.mem_cons.1 hx with rfl | hx
      · exact hy
      · exact h1 x hx
    | some q =>
      simp only [mkF, Bool.and_eq_true, Bool.not_eq_true', decide_eq_false_iff_not] at h
      have hy := rng_iff.1 h.1.1
      obtain ⟨h1, h2⟩ := ih _ h.2
      have := h2 hy.1 hy.2
      refine ⟨fun x hx => ?_, fun _ _ => by simp only [List.length_cons]; omega⟩
      rcases List.mem_cons.1 hx with rfl | hx
      · exact hy
      · exact h1 x hx
theorem marksOk_bound {l : List Int} (h : marksOk l = true) : (∀ x ∈ l, 0 ≤ x ∧ x ≤ 7) ∧ l.length ≤ 8 := mkF_bound l none h
theorem gensOk_bound {l : List Int} (h : gensOk l = true) : (∀ x ∈ l, 1 ≤ x ∧ x ≤ 100000) ∧ l.length ≤ 12 := by
  simp only [gensOk, Bool.and_eq_true, decide_eq_true_eq] at h
  refine ⟨fun x hx => ?_, h.2⟩
  obtain ⟨i, hi, rfl⟩ := List.getElem_of_mem hx
  have := allN_iff.1 h.1 i hi
  simp only [gensP, Bool.and_eq_true] at this
  have hr := rng_iff.1 this.1
  rw [List.getD_eq_getElem?_getD, List.getElem?_eq_getElem hi] at hr
  exact hr
/-- What a meta that is right is. -/
structure OkM (m : PMeta) : Prop where
  gens : ∀ x ∈ m.gens, 1 ≤ x ∧ x ≤ 100000
  glen : m.gens.length ≤ 12
  gpos : 0 < m.gens.length
  blen : m.bits.length = 3
  bit : ∀ l ∈ m.bits, (∀ x ∈ l, 0 ≤ x ∧ x ≤ 7) ∧ l.length ≤ 8
  last : 0 ≤ m.last ∧ m.last ≤ 200
theorem okM {m : PMeta} (h : metaOk m = true) : OkM m := by
  simp only [metaOk, marksAll, Bool.and_eq_true, decide_eq_true_eq] at h
  obtain ⟨⟨⟨⟨h1, h2⟩, h3⟩, h4⟩, _⟩ := h
  have hg := gensOk_bound h1
  exact ⟨hg.1, hg.2, h2, h3.1, fun l hl => marksOk_bound (List.all_eq_true.1 h3.2 l hl), rng_iff.1 h4⟩
theorem OkM.sm {m : PMeta} (h : OkM m) : SmM m := ⟨by have := h.glen; omega, by have := h.blen; omega, fun l hl => by have := (h.bit l hl).2; omega⟩
def listB (l : List Int) : List Int := putAll ((l.length : Int) :: l)
def flagsI (m : PMeta) : Int := (if m.fine = true then 1 else 0) + (if m.old = true then 2 else 0) + (if m.hd = true then 4 else 0)
def metaB (m : PMeta) : List Int := listB m.gens ++ m.bits.flatMap listB ++ putAll [flagsI m, m.last]
theorem putAll_app (a b : List Int) : putAll (a ++ b) = putAll a ++ putAll b := by
  induction a with
  | nil => rfl
  | cons x r ih => simp [putAll, ih]
theorem putAll_len {l : List Int} (h : ∀ x ∈ l, 0 ≤ x ∧ x ≤ 2147483647) : (putAll l).length ≤ 5 * l.length := by
  induction l with
  | nil => simp [putAll]
  | cons x r ih =>
    have h1 := ih fun y hy => h y (List.mem_cons_of_mem _ hy)
    have h2 := h x List.mem_cons_self
    have h3 := putN_five (n := x.toNat) (by omega)
    simp only [putAll, List.length_append, List.length_cons]
    omega
theorem putAll_ne (x : Int) (r : List Int) : putAll (x :: r) ≠ [] := by simp [putAll, putN]
theorem listB_len {l : List Int} (h : ∀ x ∈ l, 0 ≤ x ∧ x ≤ 2147483647) (hl : l.length ≤ 1048576) : (listB l).length ≤ 5 * (l.length + 1) := by
  unfold listB
  have := putAll_len (l := (l.length : Int) :: l) (fun x hx => by
    rcases List.mem_cons.1 hx with rfl | hx
    · omega
    · exact h x hx)
  simpa using this
theorem putAll_bytes (l : List Int) : Bytes (putAll l) := by
  induction l with
  | nil => intro x hx; cases hx
  | cons x r ih => exact (putN_bytes _).app ih
theorem metaB_bytes (m : PMeta) : Bytes (metaB m) := by
  refine Bytes.app (Bytes.app (putAll_bytes _) ?_) (putAll_bytes _)
  intro x hx
  obtain ⟨l, _, h⟩ := List.mem_flatMap.1 hx
  exact putAll_bytes _ x h
theorem r_putList (l : List Int) (hl : l.length ≤ 1048576) (hr : ∀ x ∈ l, 0 ≤ x ∧ x ≤ 2147483647) : runRO (X tab) tab 125 [.v false [.ro l.length (cl .i64 l)]] = some (.v false [.sl 0 [] 0 (listB l).length], [.row 1 (cl .u8 (listB l))]) := by
  have h1 := r_putNums [(l.length : Int)] (by simp) (by intro x hx; simp at hx; omega)
  have h2 := r_putNums l hl hr
  have b1 := putAll_len (l := [(l.length : Int)]) (by intro x hx; simp at hx; omega)
  have b2 := putAll_len hr
  have e : listB l = putAll [(l.length : Int)] ++ putAll l := by
    unfold listB
    rw [show (l.length : Int) :: l = [(l.length : Int)] ++ l from rfl, putAll_app]
  rw [e, List.length_append, ← cl_app]
  simp only [cl, List.map_cons, List.map_nil, List.length_cons, List.length_nil] at h1
  rw [show List.map (Cell.int .u8) (putAll [(l.length : Int)]) = cl .u8 (putAll [(l.length : Int)]) from rfl] at h1
  have b3 : (putAll [(l.length : Int)]).length + (putAll l).length ≤ 140737488355328 := by simp only [List.length_cons, List.length_nil] at b1; omega
  generalize putAll [(l.length : Int)] = A at *
  generalize putAll l = B at *
  unfold runRO
  by_cases hB : B = []
  · subst hB
    simp (maxSteps := 4000000) -implicitDefEqProofs [tab125, a125, List.take, List.drop, upd, rest, kill, mapMem, List.range, List.range.loop, memL, h1, h2, cl_nil]
  · have hB' : ¬ B.length = 0 := fun e => hB (List.eq_nil_of_length_eq_zero e)
    simp (maxSteps := 4000000) -implicitDefEqProofs [tab125, a125, List.take, List.drop, upd, rest, kill, mapMem, List.range, List.range.loop, memL, h1, h2, b3, hB, hB', cl_self, cl_length, cl_flat]
theorem r_flag (b : Bool) (n : Int) : runRO (X tab) tab 127 [.v false [.bool b], .v false [.int .i64 n]] = some (.v false [.int .i64 (if b = true then n else 0)], []) := by
  unfold runRO
  cases b <;> simp (maxSteps := 4000000) -implicitDefEqProofs [tab127, a127, List.take, List.drop, memL, List.range, List.range.loop]
theorem r_l1Bit (b : Bool) : runRO (X tab) tab 115 [.v false [.bool b]] = some (.v false [.int .i64 (if b = true then 1 else 0)], []) := by
  unfold runRO
  cases b <;> simp (maxSteps := 4000000) -implicitDefEqProofs [tab115, a115, List.take, List.drop, memL, List.range, List.range.loop]
theorem flat_next {α : Type} {f : α → List Int} {l : List α} {i : Nat} {y : α} {r : List α} (h : l.drop i = y :: r) : (l.take (i + 1)).flatMap f = (l.take i).flatMap f ++ f y := by
  have hx : l[i]? = some y := by
    have := congrArg (fun q : List α => q[0]?) h
    simpa using this
  rw [List.take_add_one, hx, List.flatMap_append]
  simp
/-! The program's. -/
def S_MB (m : PMeta) (i : Nat) : XS := ⟨⟨[.bad, .v false [.pc (metaC m)], .bad, .v false [.sl 0 [] 0 (listB m.gens ++ (m.bits.take i).flatMap listB).length], .bad, .bad, .bad, .bad, .bad, .bad, .bad, .bad, .bad, .v false [.ro m.bits.length (m.bits.map intsC)], .v false [.int .i64 (m.bits.length)], .v false [.int .i64 (i)], .bad, .bad, .bad, .bad, .bad, .bad, .bad, .bad, .bad, .bad, .bad, .bad, .bad, .bad, .bad, .bad, .bad, .bad, .bad, .bad, .bad, .bad, .bad, .bad, .bad], memL [some (.row 1 (cl .u8 (listB m.gens ++ (m.bits.take i).flatMap listB)))], []⟩, 1⟩
def Z_MB (m : PMeta) : XS := ⟨⟨[.bad, .v false [.pc (metaC m)], .bad, .v false [.sl 0 [] 0 (listB m.gens ++ m.bits.flatMap listB).length], .bad, .bad, .bad, .bad, .bad, .bad, .bad, .bad, .bad, .bad, .bad, .bad, .bad, .bad, .bad, .bad, .bad, .bad, .bad, .bad, .bad, .bad, .bad, .bad, .bad, .bad, .bad, .bad, .bad, .bad, .bad, .bad, .bad, .bad, .bad, .bad, .bad], memL [some (.row 1 (cl .u8 (listB m.gens ++ m.bits.flatMap listB)))], []⟩, 1⟩
theorem loop_MB (m : PMeta) (h : OkM m) {x : XS} (hx : head true d122_0 x = S_MB m 0) : X tab l122_0 x = some (.exit 0, Z_MB m) := by
  have hb := h.blen
  refine loopN m.bits.length (S_MB m) _ (by simp) (fun i hi => ?_) ?_ (Nat.zero_le _) hx
  · obtain ⟨y, r, hl⟩ : ∃ y r, m.bits.drop i = y :: r := ⟨_, _, List.drop_eq_getElem_cons hi⟩
    have hy := h.bit y (dropx_mem hl)
    have h1 : (0 ≤ (i : Int) ∧ (i : Int) < (m.bits.length : Int)) := by omega
    have h2 := intss_at hl
    have h4 := wrap_next hi (show m.bits.length ≤ 281474976710656 by omega)
    have hr : ∀ x ∈ y, 0 ≤ x ∧ x ≤ 2147483647 := fun x hx => by have := hy.1 x hx; omega
    have h5 := r_putList y (by have := hy.2; omega) hr
    have b5 := listB_len hr (by have := hy.2; omega)
    have hg : ∀ x ∈ m.gens, 0 ≤ x ∧ x ≤ 2147483647 := fun x hx => by have := h.gens x hx; omega
    have b6 := listB_len hg (by have := h.glen; omega)
    have b7 : ((m.bits.take i).flatMap listB).length ≤ 45 * i := by
      clear h1 h2 h4 hl h5 b5 hy hr
      induction i with
      | zero => simp
      | succ i ih =>
        have hi2 : i < m.bits.length := by omega
        obtain ⟨y, r, hl⟩ : ∃ y r, m.bits.drop i = y :: r := ⟨_, _, List.drop_eq_getElem_cons hi2⟩
        have hy := h.bit y (dropx_mem hl)
        have b5 := listB_len (l := y) (fun x hx => by have := hy.1 x hx; omega) (by have := hy.2; omega)
        have := ih hi2
        rw [flat_next hl, List.length_append]
        have := hy.2
        omega
    have hne : listB y ≠ [] := putAll_ne _ _
    have hne' : ¬ (listB y).length = 0 := fun e => hne (List.eq_nil_of_length_eq_zero e)
    have hgl := h.glen
    have hyl := hy.2
    simp only [S_MB, flat_next hl, ← List.append_assoc, metaC]
    have b8 : (listB m.gens ++ (m.bits.take i).flatMap listB).length + (listB y).length ≤ 140737488355328 := by rw [List.length_append]; omega
    rw [List.length_append (bs := listB y), ← cl_app (r := listB y)]
    generalize listB m.gens ++ (m.bits.take i).flatMap listB = acc at *
    generalize listB y = c at *
    simp only [intsC] at h2
    simp only [intsC, intssC]
    simp (maxSteps := 4000000) -implicitDefEqProofs [b122_0, List.take, List.drop, upd, rest, kill, mapMem, List.range, List.range.loop, fromRo, h1, h2, h4, h5, b8, hne, hne', hi, cl_self, cl_length, cl_flat, -Int.natCast_add]
    change _ = _
    kernel_rfl
  · simp only [S_MB, Z_MB, List.take_length, metaC]
    generalize listB m.gens ++ m.bits.flatMap listB = acc at *
    simp only [intsC, intssC]
    simp (maxSteps := 4000000) -implicitDefEqProofs [b122_0, List.take, List.drop]
    change _ = _
    kernel_rfl
theorem metaB_len {m : PMeta} (h : OkM m) : (listB m.gens).length ≤ 65 ∧ (m.bits.flatMap listB).length ≤ 135 ∧ (putAll [flagsI m, m.last]).length ≤ 10 ∧ 0 ≤ flagsI m ∧ flagsI m ≤ 7 := by
  have hg : ∀ x ∈ m.gens, 0 ≤ x ∧ x ≤ 2147483647 := fun x hx => by have := h.gens x hx; omega
  have b6 := listB_len hg (by have := h.glen; omega)
  have hgl := h.glen
  have hf : 0 ≤ flagsI m ∧ flagsI m ≤ 7 := by unfold flagsI; split <;> split <;> split <;> omega
  have hl := h.last
  refine ⟨by omega, ?_, ?_, hf.1, hf.2⟩
  · have : ∀ (l : List (List Int)), (∀ y ∈ l, (∀ x ∈ y, 0 ≤ x ∧ x ≤ 7) ∧ y.length ≤ 8) → (l.flatMap listB).length ≤ 45 * l.length := by
      intro l
      induction l with
      | nil => simp
      | cons y r ih =>
        intro hl
        have hy := hl y List.mem_cons_self
        have b5 := listB_len (l := y) (fun x hx => by have := hy.1 x hx; omega) (by have := hy.2; omega)
        have := ih fun z hz => hl z (List.mem_cons_of_mem _ hz)
        have := hy.2
        rw [List.flatMap_cons, List.length_append, List.length_cons]
        omega
    have := this m.bits h.bit
    rw [h.blen] at this
    omega
  · have := putAll_len (l := [flagsI m, m.last]) (by intro x hx; simp at hx; omega)
    simpa using this
theorem r_MetaBytes (m : PMeta) (h : metaOk m = true) : runRO (X tab) tab 122 [.v true (metaA m)] = some (.v false [.sl 0 [] 0 (metaB m).length], [.row 1 (cl .u8 (metaB m))]) := by
  have ho := okM h
  have q1 := r_MetaOk m ho.sm
  rw [h] at q1
  have hg : ∀ x ∈ m.gens, 0 ≤ x ∧ x ≤ 2147483647 := fun x hx => by have := ho.gens x hx; omega
  have q2 := r_putList m.gens (by have := ho.glen; omega) hg
  have q3 := r_flag m.fine 1
  have q4 := r_flag m.old 2
  have q5 := r_flag m.hd 4
  obtain ⟨b1, b2, b3, b4, b5⟩ := metaB_len ho
  have hl := ho.last
  have q6 := r_putNums [flagsI m, m.last] (by simp) (by intro x hx; simp at hx; omega)
  have hlo := fun {x} => loop_MB m ho (x := x)
  have hS : S_MB m 0 = ⟨⟨[.bad, .v false [.pc (metaC m)], .bad, .v false [.sl 0 [] 0 (listB m.gens).length], .bad, .bad, .bad, .bad, .bad, .bad, .bad, .bad, .bad, .v false [.ro m.bits.length (m.bits.map intsC)], .v false [.int .i64 (m.bits.length)], .v false [.int .i64 (0)], .bad, .bad, .bad, .bad, .bad, .bad, .bad, .bad, .bad, .bad, .bad, .bad, .bad, .bad, .bad, .bad, .bad, .bad, .bad, .bad, .bad, .bad, .bad, .bad, .bad], memL [some (.row 1 (cl .u8 (listB m.gens)))], []⟩, 1⟩ := by simp [S_MB]
  have e : flagsI m = (if m.fine = true then (1 : Int) else 0) + (if m.old = true then (2 : Int) else 0) + (if m.hd = true then (4 : Int) else 0) := rfl
  unfold metaB
  have hne : putAll [flagsI m, m.last] ≠ [] := putAll_ne _ _
  have hne' : ¬ (putAll [flagsI m, m.last]).length = 0 := fun e => hne (List.eq_nil_of_length_eq_zero e)
  simp only [Z_MB] at hlo
  have b6 : (listB m.gens ++ m.bits.flatMap listB).length + (putAll [flagsI m, m.last]).length ≤ 140737488355328 := by rw [List.length_append]; omega
  rw [List.length_append (bs := putAll [flagsI m, m.last]), ← cl_app (r := putAll [flagsI m, m.last])]
  simp only [cl, List.map_cons, List.map_nil, List.length_cons, List.length_nil] at q6
  rw [show List.map (Cell.int .u8) (putAll [flagsI m, m.last]) = cl .u8 (putAll [flagsI m, m.last]) from rfl] at q6
  generalize putAll [flagsI m, m.last] = C at *
  generalize listB m.gens ++ m.bits.flatMap listB = B at *
  generalize listB m.gens = A at *
  have w1 : IntKind.i64.wrap ((if m.fine = true then (1 : Int) else 0) + (if m.old = true then (2 : Int) else 0)) = (if m.fine = true then (1 : Int) else 0) + (if m.old = true then (2 : Int) else 0) := wrap_id (by split <;> split <;> omega) (by split <;> split <;> omega)
  have w2 : IntKind.i64.wrap ((if m.fine = true then (1 : Int) else 0) + (if m.old = true then (2 : Int) else 0) + (if m.hd = true then (4 : Int) else 0)) = flagsI m := by rw [← e, wrap_id (by omega) (by omega)]
  clear e
  generalize (if m.fine = true then (1 : Int) else 0) = f1 at *
  generalize (if m.old = true then (2 : Int) else 0) = f2 at *
  generalize (if m.hd = true then (4 : Int) else 0) = f3 at *
  generalize flagsI m = fl at *
  simp only [metaC, intsC, intssC] at hlo hS
  simp only [metaA] at q1
  unfold runRO
  simp (maxSteps := 4000000) -implicitDefEqProofs [tab122, a122, List.take, List.drop, upd, List.range, List.range.loop, roCells, fromRo, metaA, q1, q2]
  rw [hlo (by rw [hS]; change _ = _; kernel_rfl)]
  simp (maxSteps := 4000000) -implicitDefEqProofs [List.take, List.drop, upd, rest, kill, mapMem, List.range, List.range.loop, memL, roCells, fromRo, q3, q4, q5, q6, w1, w2, b6, hne, hne', cl_self, cl_length, cl_flat]
theorem r_MetaBytes_bad (m : PMeta) (hm : SmM m) (h : metaOk m = false) : runRO (X tab) tab 122 [.v true (metaA m)] = some (.v false [.nil], []) := by
  have q1 := r_MetaOk m hm
  rw [h] at q1
  simp only [metaA] at q1
  unfold runRO
  simp (maxSteps := 4000000) -implicitDefEqProofs [tab122, a122, List.take, List.drop, upd, List.range, List.range.loop, memL, roCells, fromRo, metaA, q1]

theorem putAll_next {l : List Int} {i : Nat} {y : Int} {r : List Int} (h : l.drop i = y :: r) : putAll (l.take (i + 1)) = putAll (l.take i) ++ putN y.toNat := by
  have hx : l[i]? = some y := by
    have := congrArg (fun q : List Int => q[0]?) h
    simpa using this
  rw [List.take_add_one, hx, putAll_app]
  simp [putAll]
theorem putAll_take_len {l : List Int} (h : ∀ x ∈ l, 0 ≤ x ∧ x ≤ 2147483647) (i : Nat) : (putAll (l.take i)).length ≤ 5 * i := by
  refine Nat.le_trans (putAll_len fun x hx => h x (List.mem_of_mem_take hx)) ?_
  have := List.length_take_le i l
  omega
theorem putN_ne (n : Nat) : putN n ≠ [] := by simp [putN]
/-! Generations. -/
def S_sMB0 (m : PMeta) (i : Nat) : XS := ⟨⟨[.bad, .v false [.pc (metaC m)], .bad, .v false [.sl 0 [] 0 (putN m.gens.length ++ putAll (m.gens.take i)).length], .v false [.int .i64 (i)], .bad, .bad, .bad, .bad, .bad, .bad, .bad, .bad, .bad, .bad, .bad, .bad, .bad, .bad, .bad, .bad, .bad, .bad, .bad, .bad, .bad, .bad, .bad, .bad, .bad, .bad, .bad, .bad, .bad, .bad, .bad, .bad, .bad, .bad, .bad, .bad, .bad, .bad, .bad, .bad, .bad, .bad, .bad, .bad, .bad, .bad, .bad, .bad, .bad, .bad, .bad, .bad, .bad, .bad, .bad, .bad, .bad, .bad, .bad, .bad, .bad, .bad, .bad, .bad, .bad, .bad, .bad, .bad, .bad, .bad, .bad, .bad, .bad, .bad, .bad, .bad, .bad, .bad, .bad, .bad], memL [some (.row 1 (cl .u8 (putN m.gens.length ++ putAll (m.gens.take i))))], []⟩, 1⟩
def Z_sMB0 (m : PMeta) : XS := ⟨⟨[.bad, .v false [.pc (metaC m)], .bad, .v false [.sl 0 [] 0 (listB m.gens).length], .bad, .bad, .bad, .bad, .bad, .bad, .bad, .bad, .bad, .bad, .bad, .bad, .bad, .bad, .bad, .bad, .bad, .bad, .bad, .bad, .bad, .bad, .bad, .bad, .bad, .bad, .bad, .bad, .bad, .bad, .bad, .bad, .bad, .bad, .bad, .bad, .bad, .bad, .bad, .bad, .bad, .bad, .bad, .bad, .bad, .bad, .bad, .bad, .bad, .bad, .bad, .bad, .bad, .bad, .bad, .bad, .bad, .bad, .bad, .bad, .bad, .bad, .bad, .bad, .bad, .bad, .bad, .bad, .bad, .bad, .bad, .bad, .bad, .bad, .bad, .bad, .bad, .bad, .bad, .bad, .bad], memL [some (.row 1 (cl .u8 (listB m.gens)))], []⟩, 1⟩
theorem loop_sMB0 (m : PMeta) (h : OkM m) {x : XS} (hx : head true d109_0 x = S_sMB0 m 0) : X tab l109_0 x = some (.exit 0, Z_sMB0 m) := by
  have hb := h.glen
  have hg : ∀ x ∈ m.gens, 0 ≤ x ∧ x ≤ 2147483647 := fun x hx => by have := h.gens x hx; omega
  refine loopN m.gens.length (S_sMB0 m) _ (by simp) (fun i hi => ?_) ?_ (Nat.zero_le _) hx
  · obtain ⟨y, r, hl⟩ : ∃ y r, m.gens.drop i = y :: r := ⟨_, _, List.drop_eq_getElem_cons hi⟩
    have hy := hg y (dropx_mem hl)
    have h1 : (0 ≤ (i : Int) ∧ (i : Int) < (m.gens.length : Int)) := by omega
    have h2 := cl_at (k := .i64) hl
    have h4 := wrap_next hi (show m.gens.length ≤ 281474976710656 by omega)
    have h5 := r_sPutNum y.toNat (by omega)
    rw [Int.toNat_of_nonneg hy.1] at h5
    have b5 := putN_five (n := y.toNat) (by omega)
    have b6 := putN_five (n := m.gens.length) (by omega)
    have b7 := putAll_take_len hg i
    have hne : putN y.toNat ≠ [] := putN_ne _
    have hne' : ¬ (putN y.toNat).length = 0 := fun e => hne (List.eq_nil_of_length_eq_zero e)
    simp only [S_sMB0, putAll_next hl, ← List.append_assoc, metaC]
    have b8 : (putN m.gens.length ++ putAll (m.gens.take i)).length + (putN y.toNat).length ≤ 140737488355328 := by rw [List.length_append]; omega
    rw [List.length_append (bs := putN y.toNat), ← cl_app (r := putN y.toNat)]
    generalize putN m.gens.length ++ putAll (m.gens.take i) = acc at *
    generalize putN y.toNat = c at *
    simp only [intsC, intssC]
    simp (maxSteps := 4000000) -implicitDefEqProofs [b109_0, List.take, List.drop, upd, rest, kill, mapMem, List.range, List.range.loop, fromRo, h1, h2, h4, h5, b8, hne, hne', hi, cl_self, cl_length, cl_flat, -Int.natCast_add]
    change _ = _
    kernel_rfl
  · have e : putN m.gens.length ++ putAll (m.gens.take m.gens.length) = listB m.gens := by rw [List.take_length]; simp [listB, putAll]
    simp only [S_sMB0, Z_sMB0, e, metaC]
    generalize listB m.gens = acc at *
    simp only [intsC, intssC]
    simp (maxSteps := 4000000) -implicitDefEqProofs [b109_0, List.take, List.drop, fromRo]
    change _ = _
    kernel_rfl
/-! One list of marks. -/
def S_sMB2 (m : PMeta) (k : Nat) (y A : List Int) (i : Nat) : XS := ⟨⟨[.bad, .v false [.pc (metaC m)], .bad, .v false [.sl 0 [] 0 (A ++ putAll (y.take i)).length], .bad, .v false [.int .i64 (k)], .v false [.int .i64 (i)], .bad, .bad, .bad, .bad, .bad, .bad, .bad, .bad, .bad, .bad, .bad, .bad, .bad, .bad, .bad, .bad, .bad, .bad, .bad, .bad, .bad, .bad, .bad, .bad, .bad, .bad, .bad, .bad, .bad, .bad, .bad, .bad, .bad, .bad, .bad, .bad, .bad, .bad, .bad, .bad, .bad, .bad, .bad, .bad, .bad, .bad, .bad, .bad, .bad, .bad, .bad, .bad, .bad, .bad, .bad, .bad, .bad, .bad, .bad, .bad, .bad, .bad, .bad, .bad, .bad, .bad, .bad, .bad, .bad, .bad, .bad, .bad, .bad, .bad, .bad, .bad, .bad, .bad], memL [some (.row 1 (cl .u8 (A ++ putAll (y.take i))))], []⟩, 1⟩
def Z_sMB2 (m : PMeta) (k : Nat) (y A : List Int) : XS := ⟨⟨[.bad, .v false [.pc (metaC m)], .bad, .v false [.sl 0 [] 0 (A ++ putAll y).length], .bad, .v false [.int .i64 (k)], .bad, .bad, .bad, .bad, .bad, .bad, .bad, .bad, .bad, .bad, .bad, .bad, .bad, .bad, .bad, .bad, .bad, .bad, .bad, .bad, .bad, .bad, .bad, .bad, .bad, .bad, .bad, .bad, .bad, .bad, .bad, .bad, .bad, .bad, .bad, .bad, .bad, .bad, .bad, .bad, .bad, .bad, .bad, .bad, .bad, .bad, .bad, .bad, .bad, .bad, .bad, .bad, .bad, .bad, .bad, .bad, .bad, .bad, .bad, .bad, .bad, .bad, .bad, .bad, .bad, .bad, .bad, .bad, .bad, .bad, .bad, .bad, .bad, .bad, .bad, .bad, .bad, .bad, .bad], memL [some (.row 1 (cl .u8 (A ++ putAll y)))], []⟩, 1⟩
theorem loop_sMB2 (m : PMeta) (h : OkM m) (k : Nat) (y : List Int) (rr : List (List Int)) (hk : m.bits.drop k = y :: rr) (A : List Int) (hA : A.length ≤ 1000) {x : XS} (hx : head true d109_2 x = S_sMB2 m k y A 0) : X tab l109_2 x = some (.exit 4, Z_sMB2 m k y A) := by
  have hb := h.blen
  have hklt := dropx_lt hk
  have hy := h.bit y (dropx_mem hk)
  have hy2 := hy.2
  have hg : ∀ x ∈ y, 0 ≤ x ∧ x ≤ 2147483647 := fun x hx => by have := hy.1 x hx; omega
  have k1 : (0 ≤ (k : Int) ∧ (k : Int) < (m.bits.length : Int)) := by omega
  have k2 := intss_at hk
  simp only [intsC] at k2
  refine loopN y.length (S_sMB2 m k y A) _ (by simp) (fun i hi => ?_) ?_ (Nat.zero_le _) hx
  · obtain ⟨z, r, hl⟩ : ∃ z r, y.drop i = z :: r := ⟨_, _, List.drop_eq_getElem_cons hi⟩
    have hz := hg z (dropx_mem hl)
    have h1 : (0 ≤ (i : Int) ∧ (i : Int) < (y.length : Int)) := by omega
    have h2 := cl_at (k := .i64) hl
    have h4 := wrap_next hi (show y.length ≤ 281474976710656 by omega)
    have h5 := r_sPutNum z.toNat (by omega)
    rw [Int.toNat_of_nonneg hz.1] at h5
    have b5 := putN_five (n := z.toNat) (by omega)
    have b7 := putAll_take_len hg i
    have hne : putN z.toNat ≠ [] := putN_ne _
    have hne' : ¬ (putN z.toNat).length = 0 := fun e => hne (List.eq_nil_of_length_eq_zero e)
    simp only [S_sMB2, putAll_next hl, ← List.append_assoc, metaC]
    have b8 : (A ++ putAll (y.take i)).length + (putN z.toNat).length ≤ 140737488355328 := by rw [List.length_append]; omega
    rw [List.length_append (bs := putN z.toNat), ← cl_app (r := putN z.toNat)]
    generalize A ++ putAll (y.take i) = acc at *
    generalize putN z.toNat = c at *
    simp only [intsC, intssC]
    simp (maxSteps := 4000000) -implicitDefEqProofs [b109_2, List.take, List.drop, upd, rest, kill, mapMem, List.range, List.range.loop, fromRo, k1, k2, hklt, h1, h2, h4, h5, b8, hne, hne', hi, cl_self, cl_length, cl_flat, -Int.natCast_add]
    change _ = _
    kernel_rfl
  · simp only [S_sMB2, Z_sMB2, List.take_length, metaC]
    generalize A ++ putAll y = acc at *
    simp only [intsC, intssC]
    simp (maxSteps := 4000000) -implicitDefEqProofs [b109_2, List.take, List.drop, fromRo, k1, k2, hklt]
    change _ = _
    kernel_rfl
/-! All three. -/
def S_sMB1 (m : PMeta) (i : Nat) : XS := ⟨⟨[.bad, .v false [.pc (metaC m)], .bad, .v false [.sl 0 [] 0 (listB m.gens ++ (m.bits.take i).flatMap listB).length], .bad, .v false [.int .i64 (i)], .bad, .bad, .bad, .bad, .bad, .bad, .bad, .bad, .bad, .bad, .bad, .bad, .bad, .bad, .bad, .bad, .bad, .bad, .bad, .bad, .bad, .bad, .bad, .bad, .bad, .bad, .bad, .bad, .bad, .bad, .bad, .bad, .bad, .bad, .bad, .bad, .bad, .bad, .bad, .bad, .bad, .bad, .bad, .bad, .bad, .bad, .bad, .bad, .bad, .bad, .bad, .bad, .bad, .bad, .bad, .bad, .bad, .bad, .bad, .bad, .bad, .bad, .bad, .bad, .bad, .bad, .bad, .bad, .bad, .bad, .bad, .bad, .bad, .bad, .bad, .bad, .bad, .bad, .bad], memL [some (.row 1 (cl .u8 (listB m.gens ++ (m.bits.take i).flatMap listB)))], []⟩, 1⟩
def Z_sMB1 (m : PMeta) : XS := ⟨⟨[.bad, .v false [.pc (metaC m)], .bad, .v false [.sl 0 [] 0 (listB m.gens ++ m.bits.flatMap listB).length], .bad, .bad, .bad, .bad, .bad, .bad, .bad, .bad, .bad, .bad, .bad, .bad, .bad, .bad, .bad, .bad, .bad, .bad, .bad, .bad, .bad, .bad, .bad, .bad, .bad, .bad, .bad, .bad, .bad, .bad, .bad, .bad, .bad, .bad, .bad, .bad, .bad, .bad, .bad, .bad, .bad, .bad, .bad, .bad, .bad, .bad, .bad, .bad, .bad, .bad, .bad, .bad, .bad, .bad, .bad, .bad, .bad, .bad, .bad, .bad, .bad, .bad, .bad, .bad, .bad, .bad, .bad, .bad, .bad, .bad, .bad, .bad, .bad, .bad, .bad, .bad, .bad, .bad, .bad, .bad, .bad], memL [some (.row 1 (cl .u8 (listB m.gens ++ m.bits.flatMap listB)))], []⟩, 1⟩
theorem loop_sMB1 (m : PMeta) (h : OkM m) {x : XS} (hx : head true d109_1 x = S_sMB1 m 0) : X tab l109_1 x = some (.exit 2, Z_sMB1 m) := by
  have hb := h.blen
  have hgl := metaB_len h
  refine loopN 3 (S_sMB1 m) _ (by simp) (fun i hi => ?_) ?_ (Nat.zero_le _) hx
  · obtain ⟨y, r, hl⟩ : ∃ y r, m.bits.drop i = y :: r := ⟨_, _, List.drop_eq_getElem_cons (by omega)⟩
    have hy := h.bit y (dropx_mem hl)
    have hy2 := hy.2
    have h0 : (i : Int) < 3 := by omega
    have hi2 : i < m.bits.length := by omega
    have h1 : (0 ≤ (i : Int) ∧ (i : Int) < (m.bits.length : Int)) := by omega
    have h2 := intss_at hl
    have h4 := wrap_next hi (show 3 ≤ 281474976710656 by omega)
    have h5 := r_sPutNum y.length (by omega)
    have b5 := putN_five (n := y.length) (by omega)
    have b7 : ((m.bits.take i).flatMap listB).length ≤ 135 := by
      have e : m.bits.flatMap listB = (m.bits.take i).flatMap listB ++ (m.bits.drop i).flatMap listB := by rw [← List.flatMap_append, List.take_append_drop]
      have := hgl.2.1
      rw [e, List.length_append] at this
      omega
    have hne : putN y.length ≠ [] := putN_ne _
    have hne' : ¬ (putN y.length).length = 0 := fun e => hne (List.eq_nil_of_length_eq_zero e)
    have e : listB y = putN y.length ++ putAll y := by simp [listB, putAll]
    simp only [S_sMB1, flat_next hl, e, ← List.append_assoc, metaC]
    have b9 : (listB m.gens ++ (m.bits.take i).flatMap listB).length ≤ 500 := by rw [List.length_append]; omega
    generalize listB m.gens ++ (m.bits.take i).flatMap listB = acc at *
    have b8 : acc.length + (putN y.length).length ≤ 140737488355328 := by omega
    have hlp := fun {x} => loop_sMB2 m h i y r hl (acc ++ putN y.length) (by rw [List.length_append]; omega) (x := x)
    have hS : S_sMB2 m i y (acc ++ putN y.length) 0 = ⟨⟨[.bad, .v false [.pc (metaC m)], .bad, .v false [.sl 0 [] 0 (acc.length + (putN y.length).length)], .bad, .v false [.int .i64 (i)], .v false [.int .i64 (0)], .bad, .bad, .bad, .bad, .bad, .bad, .bad, .bad, .bad, .bad, .bad, .bad, .bad, .bad, .bad, .bad, .bad, .bad, .bad, .bad, .bad, .bad, .bad, .bad, .bad, .bad, .bad, .bad, .bad, .bad, .bad, .bad, .bad, .bad, .bad, .bad, .bad, .bad, .bad, .bad, .bad, .bad, .bad, .bad, .bad, .bad, .bad, .bad, .bad, .bad, .bad, .bad, .bad, .bad, .bad, .bad, .bad, .bad, .bad, .bad, .bad, .bad, .bad, .bad, .bad, .bad, .bad, .bad, .bad, .bad, .bad, .bad, .bad, .bad, .bad, .bad, .bad, .bad], memL [some (.row 1 (cl .u8 acc ++ cl .u8 (putN y.length)))], []⟩, 1⟩ := by simp [S_sMB2, putAll, cl_app]
    simp only [Z_sMB2] at hlp
    generalize acc ++ putN y.length ++ putAll y = out at *
    generalize putN y.length = c at *
    simp only [intsC] at h2
    simp only [metaC, intsC, intssC] at hlp hS
    simp only [intsC, intssC]
    simp (maxSteps := 4000000) -implicitDefEqProofs [b109_1, List.take, List.drop, upd, rest, kill, mapMem, List.range, List.range.loop, fromRo, h0, h1, h2, h4, h5, b8, hne, hne', hi, hi2, cl_self, cl_length, cl_flat, -Int.natCast_add]
    rw [hlp (by rw [hS]; change _ = _; kernel_rfl)]
    simp (maxSteps := 4000000) -implicitDefEqProofs [List.take, List.drop, h4, -Int.natCast_add]
    change _ = _
    kernel_rfl
  · have e : m.bits.take 3 = m.bits := by rw [← hb, List.take_length]
    simp only [S_sMB1, Z_sMB1, e, metaC]
    generalize listB m.gens ++ m.bits.flatMap listB = acc at *
    simp only [intsC, intssC]
    simp (maxSteps := 4000000) -implicitDefEqProofs [b109_1, List.take, List.drop]
    change _ = _
    kernel_rfl
theorem r_sMetaBytes (m : PMeta) (h : metaOk m = true) : runRO (X tab) tab 109 [.v true (metaA m)] = some (.v false [.sl 0 [] 0 (metaB m).length], [.row 1 (cl .u8 (metaB m))]) := by
  have ho := okM h
  have q1 := r_sMetaOk m ho.sm
  rw [h] at q1
  have hgl := ho.glen
  have q2 := r_sPutNum m.gens.length (by omega)
  have q3 := r_l1Bit m.fine
  have q4 := r_l1Bit m.old
  have q5 := r_l1Bit m.hd
  obtain ⟨b1, b2, b3, b4, b5⟩ := metaB_len ho
  have hl := ho.last
  have q6 := r_sPutNum (flagsI m).toNat (by omega)
  have q7 := r_sPutNum m.last.toNat (by omega)
  rw [Int.toNat_of_nonneg (by omega)] at q6 q7
  have p6 := putN_five (n := (flagsI m).toNat) (by omega)
  have p7 := putN_five (n := m.last.toNat) (by omega)
  have hl0 := fun {x} => loop_sMB0 m ho (x := x)
  have hl1 := fun {x} => loop_sMB1 m ho (x := x)
  have hS0 : S_sMB0 m 0 = ⟨⟨[.bad, .v false [.pc (metaC m)], .bad, .v false [.sl 0 [] 0 (putN m.gens.length).length], .v false [.int .i64 (0)], .bad, .bad, .bad, .bad, .bad, .bad, .bad, .bad, .bad, .bad, .bad, .bad, .bad, .bad, .bad, .bad, .bad, .bad, .bad, .bad, .bad, .bad, .bad, .bad, .bad, .bad, .bad, .bad, .bad, .bad, .bad, .bad, .bad, .bad, .bad, .bad, .bad, .bad, .bad, .bad, .bad, .bad, .bad, .bad, .bad, .bad, .bad, .bad, .bad, .bad, .bad, .bad, .bad, .bad, .bad, .bad, .bad, .bad, .bad, .bad, .bad, .bad, .bad, .bad, .bad, .bad, .bad, .bad, .bad, .bad, .bad, .bad, .bad, .bad, .bad, .bad, .bad, .bad, .bad, .bad], memL [some (.row 1 (cl .u8 (putN m.gens.length)))], []⟩, 1⟩ := by simp [S_sMB0, putAll]
  have hS1 : S_sMB1 m 0 = ⟨⟨[.bad, .v false [.pc (metaC m)], .bad, .v false [.sl 0 [] 0 (listB m.gens).length], .bad, .v false [.int .i64 (0)], .bad, .bad, .bad, .bad, .bad, .bad, .bad, .bad, .bad, .bad, .bad, .bad, .bad, .bad, .bad, .bad, .bad, .bad, .bad, .bad, .bad, .bad, .bad, .bad, .bad, .bad, .bad, .bad, .bad, .bad, .bad, .bad, .bad, .bad, .bad, .bad, .bad, .bad, .bad, .bad, .bad, .bad, .bad, .bad, .bad, .bad, .bad, .bad, .bad, .bad, .bad, .bad, .bad, .bad, .bad, .bad, .bad, .bad, .bad, .bad, .bad, .bad, .bad, .bad, .bad, .bad, .bad, .bad, .bad, .bad, .bad, .bad, .bad, .bad, .bad, .bad, .bad, .bad, .bad], memL [some (.row 1 (cl .u8 (listB m.gens)))], []⟩, 1⟩ := by simp [S_sMB1]
  have e : flagsI m = (if m.fine = true then (1 : Int) else 0) + (if m.old = true then (2 : Int) else 0) + (if m.hd = true then (4 : Int) else 0) := rfl
  have eF : metaB m = listB m.gens ++ m.bits.flatMap listB ++ putN (flagsI m).toNat ++ putN m.last.toNat := by simp [metaB, putAll]
  rw [eF]
  have n6 : putN (flagsI m).toNat ≠ [] := putN_ne _
  have n6' : ¬ (putN (flagsI m).toNat).length = 0 := fun e => n6 (List.eq_nil_of_length_eq_zero e)
  have n7 : putN m.last.toNat ≠ [] := putN_ne _
  have n7' : ¬ (putN m.last.toNat).length = 0 := fun e => n7 (List.eq_nil_of_length_eq_zero e)
  simp only [Z_sMB0] at hl0
  simp only [Z_sMB1] at hl1
  have b6 : (listB m.gens ++ m.bits.flatMap listB).length + (putN (flagsI m).toNat).length ≤ 140737488355328 := by rw [List.length_append]; omega
  have b7 : (listB m.gens ++ m.bits.flatMap listB).length + (putN (flagsI m).toNat).length + (putN m.last.toNat).length ≤ 140737488355328 := by rw [List.length_append]; omega
  rw [List.length_append (bs := putN m.last.toNat), List.length_append (bs := putN (flagsI m).toNat), ← cl_app (r := putN m.last.toNat), ← cl_app (r := putN (flagsI m).toNat)]
  generalize putN m.last.toNat = D at *
  generalize putN (flagsI m).toNat = C at *
  generalize listB m.gens ++ m.bits.flatMap listB = B at *
  generalize listB m.gens = A at *
  generalize putN m.gens.length = A0 at *
  have i0 : ∀ b : Bool, 0 ≤ (if b = true then (1 : Int) else 0) ∧ (if b = true then (1 : Int) else 0) ≤ 1 := fun b => by cases b <;> simp
  have e2 : (if m.old = true then (2 : Int) else 0) = 2 * (if m.old = true then (1 : Int) else 0) := by split <;> rfl
  have e4 : (if m.hd = true then (4 : Int) else 0) = 4 * (if m.hd = true then (1 : Int) else 0) := by split <;> rfl
  rw [e2, e4] at e
  have i1 := i0 m.fine
  have i2 := i0 m.old
  have i3 := i0 m.hd
  clear e2 e4 i0
  generalize (if m.fine = true then (1 : Int) else 0) = f1 at *
  generalize (if m.old = true then (1 : Int) else 0) = f2 at *
  generalize (if m.hd = true then (1 : Int) else 0) = f3 at *
  have w1 : IntKind.i64.wrap (2 * f2) = 2 * f2 := wrap_id (by omega) (by omega)
  have w2 : IntKind.i64.wrap (4 * f3) = 4 * f3 := wrap_id (by omega) (by omega)
  have w3 : IntKind.i64.wrap (f1 + 2 * f2) = f1 + 2 * f2 := wrap_id (by omega) (by omega)
  have w4 : IntKind.i64.wrap (f1 + 2 * f2 + 4 * f3) = flagsI m := by rw [e, wrap_id (by omega) (by omega)]
  clear e
  generalize flagsI m = fl at *
  simp only [metaC, intsC, intssC] at hl0 hl1 hS0 hS1
  simp only [metaA] at q1
  unfold runRO
  simp (maxSteps := 4000000) -implicitDefEqProofs [tab109, a109, List.take, List.drop, upd, List.range, List.range.loop, roCells, fromRo, metaA, q1, q2]
  rw [hl0 (by rw [hS0]; change _ = _; kernel_rfl)]
  simp (maxSteps := 4000000) -implicitDefEqProofs [List.take, List.drop, upd]
  rw [hl1 (by rw [hS1]; change _ = _; kernel_rfl)]
  simp (maxSteps := 4000000) -implicitDefEqProofs [List.take, List.drop, upd, rest, kill, mapMem, List.range, List.range.loop, memL, roCells, fromRo, q3, q4, q5, q6, q7, w1, w2, w3, w4, b6, b7, n6, n6', n7, n7', cl_self, cl_length, cl_flat]
theorem r_sMetaBytes_bad (m : PMeta) (hm : SmM m) (h : metaOk m = false) : runRO (X tab) tab 109 [.v true (metaA m)] = some (.v false [.sl 0 [] 0 0], [.row 1 []]) := by
  have q1 := r_sMetaOk m hm
  rw [h] at q1
  simp only [metaA] at q1
  unfold runRO
  simp (maxSteps := 4000000) -implicitDefEqProofs [tab109, a109, List.take, List.drop, upd, rest, kill, mapMem, List.range, List.range.loop, memL, roCells, fromRo, metaA, q1]

theorem ba_toList (a : ByteArray) : a.toList = a.data.toList := by
  have hs : a.data.toList.length = a.size := Array.length_toList
  have key : ∀ (n i : Nat) (r : List UInt8), a.size - i = n → ByteArray.toList.loop a i r = r.reverse ++ a.data.toList.drop i := by
    intro n
    induction n with
    | zero =>
      intro i r h
      rw [ByteArray.toList.loop, if_neg (by omega), List.drop_of_length_le (by omega), List.append_nil]
    | succ n ih =>
      intro i r h
      rw [ByteArray.toList.loop, if_pos (by omega), ih _ _ (by omega), List.reverse_cons, List.append_assoc, List.drop_eq_getElem_cons (i := i) (by omega)]
      have : a.get! i = a.data.toList[i]'(by omega) := by
        show a.data[i]! = _
        rw [getElem!_pos a.data i (by have : a.data.size = a.size := rfl; omega)]
        rfl
      rw [this]
      rfl
  have := key _ 0 [] rfl
  rw [List.reverse_nil, List.nil_append, List.drop_zero] at this
  exact this
theorem eqB_iff {l m : List Int} (hl : Bytes l) (hm : Bytes m) : eqB l m = true ↔ l = m := by
  unfold eqB
  rw [ba_toList, ba_toList]
  constructor
  · intro h
    have h := eq_of_beq h
    simp only [strOfNums] at h
    have : ∀ (l m : List Int), Bytes l → Bytes m → (l.map fun n => UInt8.ofNat n.toNat) = (m.map fun n => UInt8.ofNat n.toNat) → l = m := by
      intro l
      induction l with
      | nil => intro m _ _ h; cases m with | nil => rfl | cons _ _ => cases h
      | cons x r ih =>
        intro m h1 h2 h
        cases m with
        | nil => cases h
        | cons y q =>
          simp only [List.map_cons, List.cons.injEq] at h
          have hx := h1 x List.mem_cons_self
          have hy := h2 y List.mem_cons_self
          have h3 := congrArg UInt8.toNat h.1
          simp only [UInt8.toNat_ofNat'] at h3
          rw [ih q (fun z hz => h1 z (List.mem_cons_of_mem _ hz)) (fun z hz => h2 z (List.mem_cons_of_mem _ hz)) h.2]
          congr 1
          omega
    exact this l m hl hm h
  · rintro rfl
    exact beq_self_eq_true _
def flN (f : Nat) (n : Int) : Int := IntKind.i64.wrap (((BitVec.ofInt IntKind.i64.bits (f : Int)) &&& (BitVec.ofInt IntKind.i64.bits n)).toNat : Int)
def metaRd (z : Nat → Nat) (b : List Int) : PMeta × Bool :=
  let g := listZ z b (0, true)
  let l1 := listZ z b g.2
  let l2 := listZ z b l1.2
  let l3 := listZ z b l2.2
  let f := numZ z b l3.2
  let t := numZ z b f.2
  (⟨g.1, [l1.1, l2.1, l3.1], !(flN f.1 1 == 0), !(flN f.1 2 == 0), !(flN f.1 4 == 0), t.1⟩, t.2.2)
theorem metaRd_alike (z z' : Nat → Nat) (b : List Int) : metaRd z b = metaRd z' b := by
  unfold metaRd
  obtain ⟨a1, b1⟩ := listZ_alike (z := z) (z' := z') (b := b) (s := (0, true)) (s' := (0, true)) ⟨rfl, fun _ => rfl⟩
  obtain ⟨a2, b2⟩ := listZ_alike (z := z) (z' := z') (b := b) b1
  obtain ⟨a3, b3⟩ := listZ_alike (z := z) (z' := z') (b := b) b2
  obtain ⟨a4, b4⟩ := listZ_alike (z := z) (z' := z') (b := b) b3
  obtain ⟨a5, b5⟩ := numZ_alike (z := z) (z' := z') (b := b) b4
  obtain ⟨a6, b6⟩ := numZ_alike (z := z) (z' := z') (b := b) b5
  simp only [a1, a2, a3, a4, a5, a6, b6.1]
def metaOf (b : List Int) : Option PMeta := if ((metaRd z0 b).2 && metaOk (metaRd z0 b).1 && eqB (metaB (metaRd z0 b).1) b) = true then some (metaRd z0 b).1 else none
def zeroM : List A1 := [.nil, .nil, .bool false, .bool false, .bool false, .int .i64 0]
def metaS (m : PMeta) : List A1 := [.sl 0 [] 0 m.gens.length, .sl 1 [] 0 m.bits.length, .bool m.fine, .bool m.old, .bool m.hd, .int .i64 m.last]
def metaO (m : PMeta) : List Ob := [.row 1 (cl .i64 m.gens), .row 1 (m.bits.map intsC)]
def metaSV : Option PMeta → SV × List Ob
  | some m => (.tup [(true, metaS m), (false, [.bool true])], metaO m)
  | none => (.tup [(true, zeroM), (false, [.bool false])], [])
theorem metaB_ne (m : PMeta) : metaB m ≠ [] := by
  unfold metaB
  intro h
  rw [List.append_eq_nil_iff, List.append_eq_nil_iff] at h
  exact putAll_ne _ _ h.1.1
/-! impl.MetaOf -/
def S_MO (b g L1 L2 L3 : List Int) (s0 s1 s2 s3 : Nat × Bool) : Nat → XS
  | 0 => ⟨⟨[.v false [.ro b.length (cl .u8 b)], .bad, .v false [.pr 0 [] 0], .bad, .v false [.pr 1 [] 0], .v false [.pr 2 [] 0], .bad, .bad, .bad, .bad, .bad, .bad, .bad, .bad, .bad, .bad, .v false [.int .i64 (0)], .bad, .bad, .bad, .bad, .bad, .bad, .bad, .bad, .bad, .bad, .bad, .bad, .bad, .bad, .bad, .bad, .bad, .bad, .bad, .bad, .bad, .bad, .bad, .bad, .bad, .bad, .bad, .bad, .bad, .bad, .bad, .bad, .bad, .bad, .bad, .bad, .bad, .bad, .bad, .bad, .bad, .bad, .bad, .bad, .bad, .bad, .bad], memL [some (.box [.nil, .nil, .bool false, .bool false, .bool false, .int .i64 0]), some (.box [.ro b.length (cl .u8 b), .int .i64 s0.1, .bool s0.2]), some (.box [.sl 3 [] 0 g.length, .nil, .bool false, .bool false, .bool false, .int .i64 0]), some (.row 1 (cl .i64 g))], []⟩, 4⟩
  | 1 => ⟨⟨[.v false [.ro b.length (cl .u8 b)], .bad, .v false [.pr 0 [] 0], .bad, .v false [.pr 1 [] 0], .v false [.pr 2 [] 0], .bad, .bad, .bad, .bad, .bad, .bad, .bad, .bad, .bad, .bad, .v false [.int .i64 (1)], .bad, .bad, .bad, .bad, .bad, .bad, .bad, .bad, .bad, .bad, .bad, .bad, .bad, .bad, .bad, .bad, .bad, .bad, .bad, .bad, .bad, .bad, .bad, .bad, .bad, .bad, .bad, .bad, .bad, .bad, .bad, .bad, .bad, .bad, .bad, .bad, .bad, .bad, .bad, .bad, .bad, .bad, .bad, .bad, .bad, .bad, .bad], memL [some (.box [.nil, .nil, .bool false, .bool false, .bool false, .int .i64 0]), some (.box [.ro b.length (cl .u8 b), .int .i64 s1.1, .bool s1.2]), some (.box [.sl 3 [] 0 g.length, .sl 4 [] 0 1, .bool false, .bool false, .bool false, .int .i64 0]), some (.row 1 (cl .i64 g)), some (.row 1 [.sl L1.length (cl .i64 L1)])], []⟩, 5⟩
  | 2 => ⟨⟨[.v false [.ro b.length (cl .u8 b)], .bad, .v false [.pr 0 [] 0], .bad, .v false [.pr 1 [] 0], .v false [.pr 2 [] 0], .bad, .bad, .bad, .bad, .bad, .bad, .bad, .bad, .bad, .bad, .v false [.int .i64 (2)], .bad, .bad, .bad, .bad, .bad, .bad, .bad, .bad, .bad, .bad, .bad, .bad, .bad, .bad, .bad, .bad, .bad, .bad, .bad, .bad, .bad, .bad, .bad, .bad, .bad, .bad, .bad, .bad, .bad, .bad, .bad, .bad, .bad, .bad, .bad, .bad, .bad, .bad, .bad, .bad, .bad, .bad, .bad, .bad, .bad, .bad, .bad], memL [some (.box [.nil, .nil, .bool false, .bool false, .bool false, .int .i64 0]), some (.box [.ro b.length (cl .u8 b), .int .i64 s2.1, .bool s2.2]), some (.box [.sl 3 [] 0 g.length, .sl 4 [] 0 2, .bool false, .bool false, .bool false, .int .i64 0]), some (.row 1 (cl .i64 g)), some (.row 1 [.sl L1.length (cl .i64 L1), .sl L2.length (cl .i64 L2)])], []⟩, 5⟩
  | _ => ⟨⟨[.v false [.ro b.length (cl .u8 b)], .bad, .v false [.pr 0 [] 0], .bad, .v false [.pr 1 [] 0], .v false [.pr 2 [] 0], .bad, .bad, .bad, .bad, .bad, .bad, .bad, .bad, .bad, .bad, .v false [.int .i64 (3)], .bad, .bad, .bad, .bad, .bad, .bad, .bad, .bad, .bad, .bad, .bad, .bad, .bad, .bad, .bad, .bad, .bad, .bad, .bad, .bad, .bad, .bad, .bad, .bad, .bad, .bad, .bad, .bad, .bad, .bad, .bad, .bad, .bad, .bad, .bad, .bad, .bad, .bad, .bad, .bad, .bad, .bad, .bad, .bad, .bad, .bad, .bad], memL [some (.box [.nil, .nil, .bool false, .bool false, .bool false, .int .i64 0]), some (.box [.ro b.length (cl .u8 b), .int .i64 s3.1, .bool s3.2]), some (.box [.sl 3 [] 0 g.length, .sl 4 [] 0 3, .bool false, .bool false, .bool false, .int .i64 0]), some (.row 1 (cl .i64 g)), some (.row 1 [.sl L1.length (cl .i64 L1), .sl L2.length (cl .i64 L2), .sl L3.length (cl .i64 L3)])], []⟩, 5⟩
def Z_MO (b g L1 L2 L3 : List Int) (s3 : Nat × Bool) : XS := ⟨⟨[.v false [.ro b.length (cl .u8 b)], .bad, .v false [.pr 0 [] 0], .bad, .v false [.pr 1 [] 0], .v false [.pr 2 [] 0], .bad, .bad, .bad, .bad, .bad, .bad, .bad, .bad, .bad, .bad, .bad, .bad, .bad, .bad, .bad, .bad, .bad, .bad, .bad, .bad, .bad, .bad, .bad, .bad, .bad, .bad, .bad, .bad, .bad, .bad, .bad, .bad, .bad, .bad, .bad, .bad, .bad, .bad, .bad, .bad, .bad, .bad, .bad, .bad, .bad, .bad, .bad, .bad, .bad, .bad, .bad, .bad, .bad, .bad, .bad, .bad, .bad, .bad], memL [some (.box [.nil, .nil, .bool false, .bool false, .bool false, .int .i64 0]), some (.box [.ro b.length (cl .u8 b), .int .i64 s3.1, .bool s3.2]), some (.box [.sl 3 [] 0 g.length, .sl 4 [] 0 3, .bool false, .bool false, .bool false, .int .i64 0]), some (.row 1 (cl .i64 g)), some (.row 1 [.sl L1.length (cl .i64 L1), .sl L2.length (cl .i64 L2), .sl L3.length (cl .i64 L3)])], []⟩, 5⟩
theorem loop_MO (b : List Int) (hB : Bytes b) (hn : b.length ≤ 1000) (g L1 L2 L3 : List Int) (s0 s1 s2 s3 : Nat × Bool) (hs0 : Ins b s0) (e1 : listZ z0 b s0 = (L1, s1)) (e2 : listZ z0 b s1 = (L2, s2)) (e3 : listZ z0 b s2 = (L3, s3)) {x : XS} (hx : head true d117_0 x = S_MO b g L1 L2 L3 s0 s1 s2 s3 0) : X tab l117_0 x = some (.exit 0, Z_MO b g L1 L2 L3 s3) := by
  have hz : ∀ i, z0 i ≤ i := fun i => Nat.zero_le _
  have hs1 : Ins b s1 := by have := (listZ_ins hz hs0).1; rwa [e1] at this
  have hs2 : Ins b s2 := by have := (listZ_ins hz hs1).1; rwa [e2] at this
  have q1 := r_lst b hB (by omega) s0 hs0
  have q2 := r_lst b hB (by omega) s1 hs1
  have q3 := r_lst b hB (by omega) s2 hs2
  rw [e1] at q1
  rw [e2] at q2
  rw [e3] at q3
  simp only at q1 q2 q3
  refine loopN 3 (S_MO b g L1 L2 L3 s0 s1 s2 s3) _ (by simp) (fun i hi => ?_) ?_ (Nat.zero_le _) hx
  · have h4 := wrap_next hi (show 3 ≤ 281474976710656 by omega)
    match i, hi with
    | 0, _ =>
      simp only [S_MO]
      simp (maxSteps := 4000000) -implicitDefEqProofs [b117_0, List.take, List.drop, upd, rest, kill, mapMem, callLend, lendBox, A1.ids, roArgs, roL, roA, A1.ownB, addMem_nil, List.range, List.range.loop, SV.map, ren, shift, upd, memL_app, addMem, Ob.map, Cell.flat, spl, q1, cl_length, cl_self, cl_flat, IntKind.wrap, IntKind.bits, IntKind.signed]
      change _ = _
      kernel_rfl
    | 1, _ =>
      simp only [S_MO]
      simp (maxSteps := 4000000) -implicitDefEqProofs [b117_0, List.take, List.drop, upd, rest, kill, mapMem, callLend, lendBox, A1.ids, roArgs, roL, roA, A1.ownB, addMem_nil, List.range, List.range.loop, SV.map, ren, shift, upd, memL_app, addMem, Ob.map, Cell.flat, spl, q2, cl_length, cl_self, cl_flat, IntKind.wrap, IntKind.bits, IntKind.signed]
      change _ = _
      kernel_rfl
    | 2, _ =>
      simp only [S_MO]
      simp (maxSteps := 4000000) -implicitDefEqProofs [b117_0, List.take, List.drop, upd, rest, kill, mapMem, callLend, lendBox, A1.ids, roArgs, roL, roA, A1.ownB, addMem_nil, List.range, List.range.loop, SV.map, ren, shift, upd, memL_app, addMem, Ob.map, Cell.flat, spl, q3, cl_length, cl_self, cl_flat, IntKind.wrap, IntKind.bits, IntKind.signed]
      change _ = _
      kernel_rfl
  · simp only [S_MO, Z_MO]
    simp (maxSteps := 4000000) -implicitDefEqProofs [b117_0, List.take, List.drop]
    change _ = _
    kernel_rfl
/-! spec.MetaOf -/
def S_sMO (b g L1 L2 L3 : List Int) (s0 s1 s2 s3 : Nat × Bool) : Nat → XS
  | 0 => ⟨⟨[.v false [.ro b.length (cl .u8 b)], .bad, .v false [.pr 0 [] 0], .bad, .v false [.pr 1 [] 0], .v false [.pr 2 [] 0], .v false [.int .i64 (0)], .bad, .bad, .bad, .bad, .bad, .bad, .bad, .bad, .bad, .bad, .bad, .bad, .bad, .bad, .bad, .bad, .bad, .bad, .bad, .bad, .bad, .bad, .bad, .bad, .bad, .bad, .bad, .bad, .bad, .bad, .bad, .bad, .bad, .bad, .bad, .bad, .bad, .bad, .bad, .bad, .bad, .bad, .bad, .bad, .bad, .bad, .bad, .bad, .bad, .bad, .bad, .bad, .bad, .bad, .bad, .bad, .bad, .bad], memL [some (.box [.nil, .nil, .bool false, .bool false, .bool false, .int .i64 0]), some (.box [.ro b.length (cl .u8 b), .int .i64 s0.1, .bool s0.2]), some (.box [.sl 3 [] 0 g.length, .nil, .bool false, .bool false, .bool false, .int .i64 0]), some (.row 1 (cl .i64 g))], []⟩, 4⟩
  | 1 => ⟨⟨[.v false [.ro b.length (cl .u8 b)], .bad, .v false [.pr 0 [] 0], .bad, .v false [.pr 1 [] 0], .v false [.pr 2 [] 0], .v false [.int .i64 (1)], .bad, .bad, .bad, .bad, .bad, .bad, .bad, .bad, .bad, .bad, .bad, .bad, .bad, .bad, .bad, .bad, .bad, .bad, .bad, .bad, .bad, .bad, .bad, .bad, .bad, .bad, .bad, .bad, .bad, .bad, .bad, .bad, .bad, .bad, .bad, .bad, .bad, .bad, .bad, .bad, .bad, .bad, .bad, .bad, .bad, .bad, .bad, .bad, .bad, .bad, .bad, .bad, .bad, .bad, .bad, .bad, .bad, .bad], memL [some (.box [.nil, .nil, .bool false, .bool false, .bool false, .int .i64 0]), some (.box [.ro b.length (cl .u8 b), .int .i64 s1.1, .bool s1.2]), some (.box [.sl 3 [] 0 g.length, .sl 4 [] 0 1, .bool false, .bool false, .bool false, .int .i64 0]), some (.row 1 (cl .i64 g)), some (.row 1 [.sl L1.length (cl .i64 L1)])], []⟩, 5⟩
  | 2 => ⟨⟨[.v false [.ro b.length (cl .u8 b)], .bad, .v false [.pr 0 [] 0], .bad, .v false [.pr 1 [] 0], .v false [.pr 2 [] 0], .v false [.int .i64 (2)], .bad, .bad, .bad, .bad, .bad, .bad, .bad, .bad, .bad, .bad, .bad, .bad, .bad, .bad, .bad, .bad, .bad, .bad, .bad, .bad, .bad, .bad, .bad, .bad, .bad, .bad, .bad, .bad, .bad, .bad, .bad, .bad, .bad, .bad, .bad, .bad, .bad, .bad, .bad, .bad, .bad, .bad, .bad, .bad, .bad, .bad, .bad, .bad, .bad, .bad, .bad, .bad, .bad, .bad, .bad, .bad, .bad, .bad], memL [some (.box [.nil, .nil, .bool false, .bool false, .bool false, .int .i64 0]), some (.box [.ro b.length (cl .u8 b), .int .i64 s2.1, .bool s2.2]), some (.box [.sl 3 [] 0 g.length, .sl 4 [] 0 2, .bool false, .bool false, .bool false, .int .i64 0]), some (.row 1 (cl .i64 g)), some (.row 1 [.sl L1.length (cl .i64 L1), .sl L2.length (cl .i64 L2)])], []⟩, 5⟩
  | _ => ⟨⟨[.v false [.ro b.length (cl .u8 b)], .bad, .v false [.pr 0 [] 0], .bad, .v false [.pr 1 [] 0], .v false [.pr 2 [] 0], .v false [.int .i64 (3)], .bad, .bad, .bad, .bad, .bad, .bad, .bad, .bad, .bad, .bad, .bad, .bad, .bad, .bad, .bad, .bad, .bad, .bad, .bad, .bad, .bad, .bad, .bad, .bad, .bad, .bad, .bad, .bad, .bad, .bad, .bad, .bad, .bad, .bad, .bad, .bad, .bad, .bad, .bad, .bad, .bad, .bad, .bad, .bad, .bad, .bad, .bad, .bad, .bad, .bad, .bad, .bad, .bad, .bad, .bad, .bad, .bad, .bad], memL [some (.box [.nil, .nil, .bool false, .bool false, .bool false, .int .i64 0]), some (.box [.ro b.length (cl .u8 b), .int .i64 s3.1, .bool s3.2]), some (.box [.sl 3 [] 0 g.length, .sl 4 [] 0 3, .bool false, .bool false, .bool false, .int .i64 0]), some (.row 1 (cl .i64 g)), some (.row 1 [.sl L1.length (cl .i64 L1), .sl L2.length (cl .i64 L2), .sl L3.length (cl .i64 L3)])], []⟩, 5⟩
def Z_sMO (b g L1 L2 L3 : List Int) (s3 : Nat × Bool) : XS := ⟨⟨[.v false [.ro b.length (cl .u8 b)], .bad, .v false [.pr 0 [] 0], .bad, .v false [.pr 1 [] 0], .v false [.pr 2 [] 0], .bad, .bad, .bad, .bad, .bad, .bad, .bad, .bad, .bad, .bad, .bad, .bad, .bad, .bad, .bad, .bad, .bad, .bad, .bad, .bad, .bad, .bad, .bad, .bad, .bad, .bad, .bad, .bad, .bad, .bad, .bad, .bad, .bad, .bad, .bad, .bad, .bad, .bad, .bad, .bad, .bad, .bad, .bad, .bad, .bad, .bad, .bad, .bad, .bad, .bad, .bad, .bad, .bad, .bad, .bad, .bad, .bad, .bad, .bad], memL [some (.box [.nil, .nil, .bool false, .bool false, .bool false, .int .i64 0]), some (.box [.ro b.length (cl .u8 b), .int .i64 s3.1, .bool s3.2]), some (.box [.sl 3 [] 0 g.length, .sl 4 [] 0 3, .bool false, .bool false, .bool false, .int .i64 0]), some (.row 1 (cl .i64 g)), some (.row 1 [.sl L1.length (cl .i64 L1), .sl L2.length (cl .i64 L2), .sl L3.length (cl .i64 L3)])], []⟩, 5⟩
theorem loop_sMO (b : List Int) (hB : Bytes b) (hn : b.length ≤ 1000) (g L1 L2 L3 : List Int) (s0 s1 s2 s3 : Nat × Bool) (hs0 : Ins b s0) (e1 : listZ zI b s0 = (L1, s1)) (e2 : listZ zI b s1 = (L2, s2)) (e3 : listZ zI b s2 = (L3, s3)) {x : XS} (hx : head true d98_0 x = S_sMO b g L1 L2 L3 s0 s1 s2 s3 0) : X tab l98_0 x = some (.exit 0, Z_sMO b g L1 L2 L3 s3) := by
  have hz : ∀ i, zI i ≤ i := fun i => Nat.le_refl _
  have hs1 : Ins b s1 := by have := (listZ_ins hz hs0).1; rwa [e1] at this
  have hs2 : Ins b s2 := by have := (listZ_ins hz hs1).1; rwa [e2] at this
  have q1 := r_sLst b hB (by omega) s0 hs0
  have q2 := r_sLst b hB (by omega) s1 hs1
  have q3 := r_sLst b hB (by omega) s2 hs2
  rw [e1] at q1
  rw [e2] at q2
  rw [e3] at q3
  simp only at q1 q2 q3
  refine loopN 3 (S_sMO b g L1 L2 L3 s0 s1 s2 s3) _ (by simp) (fun i hi => ?_) ?_ (Nat.zero_le _) hx
  · have h4 := wrap_next hi (show 3 ≤ 281474976710656 by omega)
    match i, hi with
    | 0, _ =>
      simp only [S_sMO]
      simp (maxSteps := 4000000) -implicitDefEqProofs [b98_0, List.take, List.drop, upd, rest, kill, mapMem, callLend, lendBox, A1.ids, roArgs, roL, roA, A1.ownB, addMem_nil, List.range, List.range.loop, SV.map, ren, shift, upd, memL_app, addMem, Ob.map, Cell.flat, spl, q1, cl_length, cl_self, cl_flat, IntKind.wrap, IntKind.bits, IntKind.signed]
      change _ = _
      kernel_rfl
    | 1, _ =>
      simp only [S_sMO]
      simp (maxSteps := 4000000) -implicitDefEqProofs [b98_0, List.take, List.drop, upd, rest, kill, mapMem, callLend, lendBox, A1.ids, roArgs, roL, roA, A1.ownB, addMem_nil, List.range, List.range.loop, SV.map, ren, shift, upd, memL_app, addMem, Ob.map, Cell.flat, spl, q2, cl_length, cl_self, cl_flat, IntKind.wrap, IntKind.bits, IntKind.signed]
      change _ = _
      kernel_rfl
    | 2, _ =>
      simp only [S_sMO]
      simp (maxSteps := 4000000) -implicitDefEqProofs [b98_0, List.take, List.drop, upd, rest, kill, mapMem, callLend, lendBox, A1.ids, roArgs, roL, roA, A1.ownB, addMem_nil, List.range, List.range.loop, SV.map, ren, shift, upd, memL_app, addMem, Ob.map, Cell.flat, spl, q3, cl_length, cl_self, cl_flat, IntKind.wrap, IntKind.bits, IntKind.signed]
      change _ = _
      kernel_rfl
  · simp only [S_sMO, Z_sMO]
    simp (maxSteps := 4000000) -implicitDefEqProofs [b98_0, List.take, List.drop]
    change _ = _
    kernel_rfl

theorem metaOf_some {b : List Int} {m : PMeta} {ok : Bool} (hm : metaRd z0 b = (m, ok)) : metaOf b = if (ok && metaOk m && eqB (metaB m) b) = true then some m else none := by
  unfold metaOf
  rw [hm]
theorem r_MetaOf (b : List Int) (hB : Bytes b) (hn : b.length ≤ 1000) : runRO (X tab) tab 117 [.v false [.ro b.length (cl .u8 b)]] = some (metaSV (metaOf b)) := by
  have hz : ∀ i, z0 i ≤ i := fun i => Nat.zero_le _
  obtain ⟨⟨m, ok⟩, hm⟩ : ∃ r, metaRd z0 b = r := ⟨_, rfl⟩
  rw [metaOf_some hm, metaRd_alike z0 z0 b] at *
  have i0 : Ins b (0, true) := Nat.zero_le _
  have q0 := r_lst b hB (by omega) (0, true) i0
  obtain ⟨i1, n1, v1⟩ := listZ_ins hz i0
  unfold metaRd at hm
  obtain ⟨⟨g, s0⟩, e0⟩ : ∃ r, listZ z0 b (0, true) = r := ⟨_, rfl⟩
  rw [e0] at q0 i1 n1 v1 hm
  simp only at i1 n1 v1 hm
  simp only [Int.ofNat_zero] at q0
  obtain ⟨i2, n2, v2⟩ := listZ_ins hz i1
  obtain ⟨⟨L1, s1⟩, e1⟩ : ∃ r, listZ z0 b s0 = r := ⟨_, rfl⟩
  rw [e1] at i2 n2 v2 hm
  simp only at i2 n2 v2 hm
  obtain ⟨i3, n3, v3⟩ := listZ_ins hz i2
  obtain ⟨⟨L2, s2⟩, e2⟩ : ∃ r, listZ z0 b s1 = r := ⟨_, rfl⟩
  rw [e2] at i3 n3 v3 hm
  simp only at i3 n3 v3 hm
  obtain ⟨i4, n4, v4⟩ := listZ_ins hz i3
  obtain ⟨⟨L3, s3⟩, e3⟩ : ∃ r, listZ z0 b s2 = r := ⟨_, rfl⟩
  rw [e3] at i4 n4 v4 hm
  simp only at i4 n4 v4 hm
  have hlo := fun {x} => loop_MO b hB hn g L1 L2 L3 s0 s1 s2 s3 i1 e1 e2 e3 (x := x)
  obtain ⟨i5, _, v5⟩ := numZ_ins hz i4
  obtain ⟨_, _, v6⟩ := numZ_ins hz i5
  have t1 := fun sl up nx (hnx : 5 ≤ nx) => t_numZ' 1 b hB (by omega) s3 i4 sl (memL [some (.box [.nil, .nil, .bool false, .bool false, .bool false, .int .i64 0]), some (.box [.ro b.length (cl .u8 b), .int .i64 s3.1, .bool s3.2]), some (.box [.sl 3 [] 0 g.length, .sl 4 [] 0 3, .bool false, .bool false, .bool false, .int .i64 0]), some (.row 1 (cl .i64 g)), some (.row 1 [.sl L1.length (cl .i64 L1), .sl L2.length (cl .i64 L2), .sl L3.length (cl .i64 L3)])]) up nx rfl (fun q => freshB_memL (by simp; omega))
  obtain ⟨⟨f, s4⟩, e4⟩ : ∃ r, numZ z0 b s3 = r := ⟨_, rfl⟩
  rw [e4] at t1 i5 hm v5 v6
  simp only at t1 i5 hm v5 v6
  have t2 := fun sl up nx (hnx : 5 ≤ nx) => t_numZ' 1 b hB (by omega) s4 i5 sl (upd (memL [some (.box [.nil, .nil, .bool false, .bool false, .bool false, .int .i64 0]), some (.box [.ro b.length (cl .u8 b), .int .i64 s3.1, .bool s3.2]), some (.box [.sl 3 [] 0 g.length, .sl 4 [] 0 3, .bool false, .bool false, .bool false, .int .i64 0]), some (.row 1 (cl .i64 g)), some (.row 1 [.sl L1.length (cl .i64 L1), .sl L2.length (cl .i64 L2), .sl L3.length (cl .i64 L3)])]) 1 (some (.box [.ro b.length (cl .u8 b), .int .i64 s4.1, .bool s4.2]))) up nx (by simp [upd, rdA]) (fun q => by rw [freshB_upd (.inl (by omega)), freshB_memL (by simp; omega)])
  obtain ⟨⟨t, s5⟩, e5⟩ : ∃ r, numZ z0 b s4 = r := ⟨_, rfl⟩
  rw [e5] at t2 hm v6
  simp only at t2 hm v6
  simp only [Prod.mk.injEq] at hm
  obtain ⟨hm, hok⟩ := hm
  obtain ⟨x1, a1⟩ : ∃ x, IntKind.i64.wrap (((BitVec.ofInt IntKind.i64.bits (f : Int)) &&& (BitVec.ofInt IntKind.i64.bits 1)).toNat : Int) = x := ⟨_, rfl⟩
  obtain ⟨x2, a2⟩ : ∃ x, IntKind.i64.wrap (((BitVec.ofInt IntKind.i64.bits (f : Int)) &&& (BitVec.ofInt IntKind.i64.bits 2)).toNat : Int) = x := ⟨_, rfl⟩
  obtain ⟨x4, a4⟩ : ∃ x, IntKind.i64.wrap (((BitVec.ofInt IntKind.i64.bits (f : Int)) &&& (BitVec.ofInt IntKind.i64.bits 4)).toNat : Int) = x := ⟨_, rfl⟩
  simp only [flN, a1, a2, a4] at hm
  have sm : SmM m := by rw [← hm]; exact ⟨by simp only; omega, by simp, fun l hl => by simp at hl; rcases hl with rfl | rfl | rfl <;> omega⟩
  have hne := metaB_ne m
  have hnl : ¬ (metaB m).length = 0 := fun e => hne (List.eq_nil_of_length_eq_zero e)
  have hS : S_MO b g L1 L2 L3 s0 s1 s2 s3 0 = ⟨⟨[.v false [.ro b.length (cl .u8 b)], .bad, .v false [.pr 0 [] 0], .bad, .v false [.pr 1 [] 0], .v false [.pr 2 [] 0], .bad, .bad, .bad, .bad, .bad, .bad, .bad, .bad, .bad, .bad, .v false [.int .i64 (0)], .bad, .bad, .bad, .bad, .bad, .bad, .bad, .bad, .bad, .bad, .bad, .bad, .bad, .bad, .bad, .bad, .bad, .bad, .bad, .bad, .bad, .bad, .bad, .bad, .bad, .bad, .bad, .bad, .bad, .bad, .bad, .bad, .bad, .bad, .bad, .bad, .bad, .bad, .bad, .bad, .bad, .bad, .bad, .bad, .bad, .bad, .bad], memL [some (.box [.nil, .nil, .bool false, .bool false, .bool false, .int .i64 0]), some (.box [.ro b.length (cl .u8 b), .int .i64 s0.1, .bool s0.2]), some (.box [.sl 3 [] 0 g.length, .nil, .bool false, .bool false, .bool false, .int .i64 0]), some (.row 1 (cl .i64 g))], []⟩, 4⟩ := rfl
  try simp only [rdA] at t1 t2
  have e6 : ∀ x : Int, (!(x == 0)) = (x != 0) := fun _ => rfl
  generalize hR : some (metaSV (if (ok && metaOk m && eqB (metaB m) b) = true then some m else none)) = R
  unfold runRO
  simp (maxSteps := 4000000) -implicitDefEqProofs [tab117, a117, List.take, List.drop, upd, rest, kill, mapMem, callLend, lendBox, A1.ids, roArgs, roL, roA, A1.ownB, addMem_nil, List.range, List.range.loop, SV.map, ren, shift, upd, memL_app, addMem, Ob.map, spl, q0, -BitVec.toNat_and, -BitVec.ofInt_natCast, -BitVec.toNat_ofInt, -BitVec.ofInt_ofNat, -BitVec.reduceOfInt, -Int.natCast_add]
  rw [hlo (by rw [hS]; change _ = _; kernel_rfl)]
  simp only [Z_MO]
  clear hlo hS q0
  obtain ⟨j3, k3⟩ := s3
  obtain ⟨j4, k4⟩ := s4
  obtain ⟨j5, k5⟩ := s5
  try simp only at t1 t2 hok
  have v5 : k4 = true → k3 = true := fun h => (v5 h).1
  have v6 : k5 = true → k4 = true := fun h => (v6 h).1
  clear e0 e1 e2 e3 e4 e5 i0 i1 i2 i3 i4 i5 n1 n2 n3 n4 v1 v2 v3 v4
  subst hok
  have hA : metaA m = [.ro g.length (cl .i64 g), .ro 3 [.sl L1.length (cl .i64 L1), .sl L2.length (cl .i64 L2), .sl L3.length (cl .i64 L3)], .bool (x1 != 0), .bool (x2 != 0), .bool (x4 != 0), .int .i64 (t : Int)] := by rw [← hm]; rfl
  cases hmo : metaOk m with
  | false =>
    rw [hmo] at hR
    have hR2 : R = some (metaSV none) := by rw [← hR]; simp
    rw [hR2]
    clear hR hR2
    have q7 := r_MetaBytes_bad m sm hmo
    rw [hA] at q7
    clear hm sm hne hnl hmo
    cases k3 with
    | false =>
      have hk4 : k4 = false := by cases k4 with | false => rfl | true => exact absurd (v5 rfl) (by simp)
      subst hk4
      have hk5 : k5 = false := by cases k5 with | false => rfl | true => exact absurd (v6 rfl) (by simp)
      subst hk5
      simp only [numC, if_true, Bool.false_eq_true, if_false] at t1 t2
      simp (maxSteps := 4000000) -implicitDefEqProofs [List.take, List.drop, upd, rest, kill, mapMem, List.range, List.range.loop, callLend, lendBox, A1.ids, roArgs, roL, roA, A1.ownB, addMem_nil, SV.map, ren, shift, upd, memL_app, memL, List.range, List.range.loop, addMem, addObs, Ob.map, spl, getAll, roCells, fromRo, numC, binStr, cl_self, cl_length, cl_nums, metaSV, metaS, metaO, zeroM, intsC, t1, t2, a1, a2, a4, e6, q7, -BitVec.toNat_and, -BitVec.ofInt_natCast, -BitVec.toNat_ofInt, -BitVec.ofInt_ofNat, -BitVec.reduceOfInt, -Int.natCast_add]
    | true =>
      cases k4 with
      | false =>
        have hk5 : k5 = false := by cases k5 with | false => rfl | true => exact absurd (v6 rfl) (by simp)
        subst hk5
        simp only [numC, if_true, Bool.false_eq_true, if_false] at t1 t2
        simp (maxSteps := 4000000) -implicitDefEqProofs [List.take, List.drop, upd, rest, kill, mapMem, List.range, List.range.loop, callLend, lendBox, A1.ids, roArgs, roL, roA, A1.ownB, addMem_nil, SV.map, ren, shift, upd, memL_app, memL, List.range, List.range.loop, addMem, addObs, Ob.map, spl, getAll, roCells, fromRo, numC, binStr, cl_self, cl_length, cl_nums, metaSV, metaS, metaO, zeroM, intsC, t1, t2, a1, a2, a4, e6, q7, -BitVec.toNat_and, -BitVec.ofInt_natCast, -BitVec.toNat_ofInt, -BitVec.ofInt_ofNat, -BitVec.reduceOfInt, -Int.natCast_add]
      | true =>
        simp only [numC, if_true, Bool.false_eq_true, if_false] at t1 t2
        cases k5 with
        | false =>
          simp (maxSteps := 4000000) -implicitDefEqProofs [List.take, List.drop, upd, rest, kill, mapMem, List.range, List.range.loop, callLend, lendBox, A1.ids, roArgs, roL, roA, A1.ownB, addMem_nil, SV.map, ren, shift, upd, memL_app, memL, List.range, List.range.loop, addMem, addObs, Ob.map, spl, getAll, roCells, fromRo, numC, binStr, cl_self, cl_length, cl_nums, metaSV, metaS, metaO, zeroM, intsC, t1, t2, a1, a2, a4, e6, q7, -BitVec.toNat_and, -BitVec.ofInt_natCast, -BitVec.toNat_ofInt, -BitVec.ofInt_ofNat, -BitVec.reduceOfInt, -Int.natCast_add]
        | true =>
          simp (maxSteps := 4000000) -implicitDefEqProofs [List.take, List.drop, upd, rest, kill, mapMem, List.range, List.range.loop, callLend, lendBox, A1.ids, roArgs, roL, roA, A1.ownB, addMem_nil, SV.map, ren, shift, upd, memL_app, memL, List.range, List.range.loop, addMem, addObs, Ob.map, spl, getAll, roCells, fromRo, numC, binStr, cl_self, cl_length, cl_nums, metaSV, metaS, metaO, zeroM, intsC, t1, t2, a1, a2, a4, e6, q7, -BitVec.toNat_and, -BitVec.ofInt_natCast, -BitVec.toNat_ofInt, -BitVec.ofInt_ofNat, -BitVec.reduceOfInt, -Int.natCast_add]
  | true =>
    rw [hmo] at hR
    have q7 := r_MetaBytes m hmo
    rw [hA] at q7
    have z1 : (cl .u8 (metaB m)).take (metaB m).length = cl .u8 (metaB m) := cl_self
    have z2 : (cl .u8 (metaB m)).length = (metaB m).length := cl_length
    have z3 : (((metaB m).length : Int) == 0) = false := by rw [beq_eq_false_iff_ne]; omega
    have z4 : (((metaB m).length : Int) != 0) = true := by rw [bne, z3]; rfl
    have q8 := r_BytesEqual (metaB m) b
    generalize eqB (metaB m) b = eb at *
    generalize metaB m = MB at *
    cases k3 with
    | false =>
      have hk4 : k4 = false := by cases k4 with | false => rfl | true => exact absurd (v5 rfl) (by simp)
      subst hk4
      have hk5 : k5 = false := by cases k5 with | false => rfl | true => exact absurd (v6 rfl) (by simp)
      subst hk5
      simp only [numC, if_true, Bool.false_eq_true, if_false] at t1 t2
      have hR2 : R = some (metaSV none) := by rw [← hR]; simp
      rw [hR2]
      clear hR hR2
      simp (maxSteps := 4000000) -implicitDefEqProofs [List.take, List.drop, upd, rest, kill, mapMem, List.range, List.range.loop, callLend, lendBox, A1.ids, roArgs, roL, roA, A1.ownB, addMem_nil, SV.map, ren, shift, upd, memL_app, memL, List.range, List.range.loop, addMem, addObs, Ob.map, spl, getAll, roCells, fromRo, numC, binStr, cl_self, cl_length, cl_nums, metaSV, metaS, metaO, zeroM, intsC, t1, t2, a1, a2, a4, e6, q7, q8, z1, z2, z3, z4, hne, hnl, -BitVec.toNat_and, -BitVec.ofInt_natCast, -BitVec.toNat_ofInt, -BitVec.ofInt_ofNat, -BitVec.reduceOfInt, -Int.natCast_add]
    | true =>
      cases k4 with
      | false =>
        have hk5 : k5 = false := by cases k5 with | false => rfl | true => exact absurd (v6 rfl) (by simp)
        subst hk5
        simp only [numC, if_true, Bool.false_eq_true, if_false] at t1 t2
        have hR2 : R = some (metaSV none) := by rw [← hR]; simp
        rw [hR2]
        clear hR hR2
        simp (maxSteps := 4000000) -implicitDefEqProofs [List.take, List.drop, upd, rest, kill, mapMem, List.range, List.range.loop, callLend, lendBox, A1.ids, roArgs, roL, roA, A1.ownB, addMem_nil, SV.map, ren, shift, upd, memL_app, memL, List.range, List.range.loop, addMem, addObs, Ob.map, spl, getAll, roCells, fromRo, numC, binStr, cl_self, cl_length, cl_nums, metaSV, metaS, metaO, zeroM, intsC, t1, t2, a1, a2, a4, e6, q7, q8, z1, z2, z3, z4, hne, hnl, -BitVec.toNat_and, -BitVec.ofInt_natCast, -BitVec.toNat_ofInt, -BitVec.ofInt_ofNat, -BitVec.reduceOfInt, -Int.natCast_add]
      | true =>
        simp only [numC, if_true, Bool.false_eq_true, if_false] at t1 t2
        cases k5 with
        | false =>
          have hR2 : R = some (metaSV none) := by rw [← hR]; simp
          rw [hR2]
          clear hR hR2
          simp (maxSteps := 4000000) -implicitDefEqProofs [List.take, List.drop, upd, rest, kill, mapMem, List.range, List.range.loop, callLend, lendBox, A1.ids, roArgs, roL, roA, A1.ownB, addMem_nil, SV.map, ren, shift, upd, memL_app, memL, List.range, List.range.loop, addMem, addObs, Ob.map, spl, getAll, roCells, fromRo, numC, binStr, cl_self, cl_length, cl_nums, metaSV, metaS, metaO, zeroM, intsC, t1, t2, a1, a2, a4, e6, q7, q8, z1, z2, z3, z4, hne, hnl, -BitVec.toNat_and, -BitVec.ofInt_natCast, -BitVec.toNat_ofInt, -BitVec.ofInt_ofNat, -BitVec.reduceOfInt, -Int.natCast_add]
        | true =>
          rw [← hR, ← hm]
          cases eb with
          | false =>
            simp (maxSteps := 4000000) -implicitDefEqProofs [List.take, List.drop, upd, rest, kill, mapMem, List.range, List.range.loop, callLend, lendBox, A1.ids, roArgs, roL, roA, A1.ownB, addMem_nil, SV.map, ren, shift, upd, memL_app, memL, List.range, List.range.loop, addMem, addObs, Ob.map, spl, getAll, roCells, fromRo, numC, binStr, cl_self, cl_length, cl_nums, metaSV, metaS, metaO, zeroM, intsC, t1, t2, a1, a2, a4, e6, q7, q8, z1, z2, z3, z4, hne, hnl, -BitVec.toNat_and, -BitVec.ofInt_natCast, -BitVec.toNat_ofInt, -BitVec.ofInt_ofNat, -BitVec.reduceOfInt, -Int.natCast_add]
          | true =>
            simp (maxSteps := 4000000) -implicitDefEqProofs [List.take, List.drop, upd, rest, kill, mapMem, List.range, List.range.loop, callLend, lendBox, A1.ids, roArgs, roL, roA, A1.ownB, addMem_nil, SV.map, ren, shift, upd, memL_app, memL, List.range, List.range.loop, addMem, addObs, Ob.map, spl, getAll, roCells, fromRo, numC, binStr, cl_self, cl_length, cl_nums, metaSV, metaS, metaO, zeroM, intsC, t1, t2, a1, a2, a4, e6, q7, q8, z1, z2, z3, z4, hne, hnl, -BitVec.toNat_and, -BitVec.ofInt_natCast, -BitVec.toNat_ofInt, -BitVec.ofInt_ofNat, -BitVec.reduceOfInt, -Int.natCast_add]
end Go.Proofs.YtbdokibepndibaaGreat.Eng.C
