/- An interpreter of the model's code over tagged trees, first part: the trees, and what it is that memory holds them. -/
import Derived.Calls
import Derived.Below
import Derived.Orders
namespace Go.Proofs.YtbdokibepndibaaGreat.Eng
open Go.RowKit

/-- What a cell holds, with all that it leads to. -/
inductive Cell where
  | int (k : IntKind) (n : Int)
  | bool (b : Bool)
  | str (s : ByteArray)
  | sl (n : Nat) (cs : List Cell)

/-- A block's cells from o on are xs. -/
def Blk (own : Bool) (w : World) (g o : Nat) (xs : List Value) : Prop :=
  ∃ arr e fr, w.heap[g]? = some (.cells arr e fr) ∧ (own = true → fr = (0, 0)) ∧ ∀ j x, xs[j]? = some x → arr[o + j]? = some x

inductive HoldsL (own : Bool) (w : World) : List Cell → List Value → List Nat → Prop
  | nil : HoldsL own w [] [] []
  | int {k n cs vs fp} : HoldsL own w cs vs fp → HoldsL own w (.int k n :: cs) (.int k n :: vs) fp
  | bool {b cs vs fp} : HoldsL own w cs vs fp → HoldsL own w (.bool b :: cs) (.bool b :: vs) fp
  | str {s cs vs fp} : HoldsL own w cs vs fp → HoldsL own w (.str s :: cs) (.string s :: vs) fp
  | sl0 {A c n cs vs fp} : (n ≤ c ∧ (A = none → c = 0)) → HoldsL own w cs vs fp → HoldsL own w (.sl n [] :: cs) (.slice A n c :: vs) fp
  | sl {g o c n ns xs fp1 cs vs fp} : ns ≠ [] → n ≤ c → Blk own w g o xs → HoldsL own w ns xs fp1 → HoldsL own w cs vs fp →
      HoldsL own w (.sl n ns :: cs) (.slice (some ⟨g, o, none⟩) n c :: vs) (g :: (fp1 ++ fp))

theorem Blk.frame {own : Bool} {w w' : World} {g o : Nat} {xs : List Value} (h : Blk own w g o xs) (hg : w'.heap[g]? = w.heap[g]?) : Blk own w' g o xs := by
  obtain ⟨arr, e, fr, h1, h2, h3⟩ := h
  exact ⟨arr, e, fr, hg.trans h1, h2, h3⟩

theorem HoldsL.frame {own : Bool} {w w' : World} {cs : List Cell} {vs : List Value} {fp : List Nat} (h : HoldsL own w cs vs fp) :
    (∀ g ∈ fp, w'.heap[g]? = w.heap[g]?) → HoldsL own w' cs vs fp := by
  induction h with
  | nil => exact fun _ => .nil
  | int _ ih => exact fun hf => .int (ih hf)
  | bool _ ih => exact fun hf => .bool (ih hf)
  | str _ ih => exact fun hf => .str (ih hf)
  | sl0 hn _ ih => exact fun hf => .sl0 hn (ih hf)
  | sl h0 hn hb _ _ ih1 ih2 =>
    intro hf
    exact .sl h0 hn (hb.frame (hf _ (by simp))) (ih1 fun g hg => hf g (by simp [hg])) (ih2 fun g hg => hf g (by simp [hg]))

theorem Blk.ro {own : Bool} {w : World} {g o : Nat} {xs : List Value} (h : Blk own w g o xs) : Blk false w g o xs := by
  obtain ⟨arr, e, fr, h1, h2, h3⟩ := h
  exact ⟨arr, e, fr, h1, fun h => by simp at h, h3⟩

theorem HoldsL.ro {own : Bool} {w : World} {cs : List Cell} {vs : List Value} {fp : List Nat} (h : HoldsL own w cs vs fp) : HoldsL false w cs vs fp := by
  induction h with
  | nil => exact .nil
  | int _ ih => exact .int ih
  | bool _ ih => exact .bool ih
  | str _ ih => exact .str ih
  | sl0 hn _ ih => exact .sl0 hn ih
  | sl h0 hn hb _ _ ih1 ih2 => exact .sl h0 hn hb.ro ih1 ih2

theorem HoldsL.len {own : Bool} {w : World} {cs : List Cell} {vs : List Value} {fp : List Nat} (h : HoldsL own w cs vs fp) : vs.length = cs.length := by
  induction h <;> simp_all

theorem HoldsL.lt {own : Bool} {w : World} {cs : List Cell} {vs : List Value} {fp : List Nat} (h : HoldsL own w cs vs fp) : ∀ g ∈ fp, g < w.heap.size := by
  induction h with
  | nil => simp
  | int _ ih => exact ih
  | bool _ ih => exact ih
  | str _ ih => exact ih
  | sl0 _ _ ih => exact ih
  | sl h0 hn hb _ _ ih1 ih2 =>
    intro g hg
    simp only [List.mem_cons, List.mem_append] at hg
    rcases hg with rfl | hg | hg
    · obtain ⟨arr, e, fr, h1, _⟩ := hb
      exact (Array.getElem?_eq_some_iff.1 h1).1
    · exact ih1 g hg
    · exact ih2 g hg

theorem HoldsL.append {own : Bool} {w : World} {cs : List Cell} {vs : List Value} {fp : List Nat} {cs2 : List Cell} {vs2 : List Value} {fp2 : List Nat}
    (h : HoldsL own w cs vs fp) (h2 : HoldsL own w cs2 vs2 fp2) : HoldsL own w (cs ++ cs2) (vs ++ vs2) (fp ++ fp2) := by
  induction h with
  | nil => exact h2
  | int _ ih => exact .int ih
  | bool _ ih => exact .bool ih
  | str _ ih => exact .str ih
  | sl0 hn _ ih => exact .sl0 hn ih
  | sl h0 hn hb h1 _ ih1 ih2 =>
    simp only [List.cons_append, List.append_assoc]
    exact .sl h0 hn hb h1 ih2

/-- A row taken apart. -/
theorem HoldsL.split {own : Bool} {w : World} {cs2 : List Cell} : ∀ {cs1 : List Cell} {vs : List Value} {fp : List Nat}, HoldsL own w (cs1 ++ cs2) vs fp →
    ∃ vs1 vs2 fp1 fp2, vs = vs1 ++ vs2 ∧ fp = fp1 ++ fp2 ∧ HoldsL own w cs1 vs1 fp1 ∧ HoldsL own w cs2 vs2 fp2 := by
  intro cs1
  induction cs1 with
  | nil => exact fun {vs fp} h => ⟨[], vs, [], fp, rfl, rfl, .nil, h⟩
  | cons c cs1 ih =>
    intro vs fp h
    cases h with
    | int h => obtain ⟨v1, v2, f1, f2, rfl, rfl, a, b⟩ := ih h; exact ⟨_ :: v1, v2, f1, f2, rfl, rfl, .int a, b⟩
    | bool h => obtain ⟨v1, v2, f1, f2, rfl, rfl, a, b⟩ := ih h; exact ⟨_ :: v1, v2, f1, f2, rfl, rfl, .bool a, b⟩
    | str h => obtain ⟨v1, v2, f1, f2, rfl, rfl, a, b⟩ := ih h; exact ⟨_ :: v1, v2, f1, f2, rfl, rfl, .str a, b⟩
    | sl0 hn h => obtain ⟨v1, v2, f1, f2, rfl, rfl, a, b⟩ := ih h; exact ⟨_ :: v1, v2, f1, f2, rfl, rfl, .sl0 hn a, b⟩
    | sl h0 hn hb h1 h => obtain ⟨v1, v2, f1, f2, rfl, rfl, a, b⟩ := ih h; exact ⟨_ :: v1, v2, _ :: (_ ++ f1), f2, rfl, by simp, .sl h0 hn hb h1 a, b⟩

theorem HoldsL.drop {own : Bool} {w : World} {cs : List Cell} {vs : List Value} {fp : List Nat} (h : HoldsL own w cs vs fp) (k : Nat) :
    ∃ fp', HoldsL own w (cs.drop k) (vs.drop k) fp' ∧ fp'.Sublist fp := by
  rw [← List.take_append_drop k cs] at h
  obtain ⟨v1, v2, f1, f2, rfl, rfl, a, b⟩ := h.split
  refine ⟨f2, ?_, List.sublist_append_right _ _⟩
  have l1 := a.len
  have l2 := b.len
  rw [List.length_take] at l1
  rw [List.length_drop] at l2
  by_cases hk : k ≤ cs.length
  · rw [List.drop_left' (by omega)]
    exact b
  · rw [List.drop_eq_nil_of_le (by omega)] at b ⊢
    have : v2 = [] := List.eq_nil_of_length_eq_zero (by omega)
    subst this
    rw [List.append_nil, List.drop_eq_nil_of_le (by omega)]
    exact b
theorem HoldsL.take {own : Bool} {w : World} {cs : List Cell} {vs : List Value} {fp : List Nat} (h : HoldsL own w cs vs fp) (k : Nat) :
    ∃ fp', HoldsL own w (cs.take k) (vs.take k) fp' ∧ fp'.Sublist fp := by
  rw [← List.take_append_drop k cs] at h
  obtain ⟨v1, v2, f1, f2, rfl, rfl, a, b⟩ := h.split
  refine ⟨f1, ?_, List.sublist_append_left _ _⟩
  have l1 := a.len
  have l2 := b.len
  rw [List.length_take] at l1
  rw [List.length_drop] at l2
  by_cases hk : k ≤ cs.length
  · have e1 : (v1 ++ v2).take k = v1 := by rw [List.take_append_of_le_length (by omega), List.take_of_length_le (by omega)]
    rw [e1]
    exact a
  · have : v2 = [] := List.eq_nil_of_length_eq_zero (by omega)
    subst this
    rw [List.append_nil, List.take_of_length_le (show v1.length ≤ k by omega)]
    exact a

/-- One cell out of a row. -/
theorem HoldsL.at_ {own : Bool} {w : World} {cs : List Cell} {vs : List Value} {fp : List Nat} (h : HoldsL own w cs vs fp) {i : Nat} {c : Cell} (hi : cs[i]? = some c) :
    ∃ v fp1 fpA fpB, vs[i]? = some v ∧ HoldsL own w [c] [v] fp1 ∧ fp = fpA ++ fp1 ++ fpB ∧ HoldsL own w (cs.take i) (vs.take i) fpA ∧ HoldsL own w (cs.drop (i + 1)) (vs.drop (i + 1)) fpB := by
  obtain ⟨hlt, hc⟩ := List.getElem?_eq_some_iff.1 hi
  have e : cs = cs.take i ++ ([c] ++ cs.drop (i + 1)) := by
    have h1 := List.take_append_drop i cs
    rw [List.drop_eq_getElem_cons hlt, hc] at h1
    exact h1.symm
  rw [e] at h
  obtain ⟨v1, v2, f1, f2, rfl, rfl, a, b⟩ := h.split
  obtain ⟨v3, v4, f3, f4, rfl, rfl, c', d⟩ := b.split
  have l1 : v1.length = i := by rw [a.len]; simp; omega
  have l3 : v3.length = 1 := by rw [c'.len]; rfl
  obtain ⟨v, rfl⟩ : ∃ v, v3 = [v] := by
    match v3, l3 with
    | [v], _ => exact ⟨v, rfl⟩
  refine ⟨v, f3, f1, f4, ?_, c', by simp, ?_, ?_⟩
  · rw [List.getElem?_append_right (by omega)]; simp [l1]
  · have e1 : (v1 ++ ([v] ++ v4)).take i = v1 := by rw [List.take_append_of_le_length (by omega), List.take_of_length_le (by omega)]
    rw [e1]; exact a
  · have e2 : (v1 ++ ([v] ++ v4)).drop (i + 1) = v4 := by
      rw [List.drop_append, List.drop_of_length_le (by omega : v1.length ≤ i + 1), l1]
      simp
    rw [e2]; exact d

/-- A row with one cell turned. -/
theorem HoldsL.set {own : Bool} {w : World} {cs : List Cell} {vs : List Value} {fpA fp1 fpB : List Nat} {i : Nat} {c : Cell} {v : Value}
    (hi : i < cs.length) (hl : vs.length = cs.length) (hA : HoldsL own w (cs.take i) (vs.take i) fpA) (hB : HoldsL own w (cs.drop (i + 1)) (vs.drop (i + 1)) fpB) (h1 : HoldsL own w [c] [v] fp1) :
    HoldsL own w (cs.set i c) (vs.set i v) (fpA ++ fp1 ++ fpB) := by
  rw [List.set_eq_take_append_cons_drop, if_pos hi, List.set_eq_take_append_cons_drop, if_pos (by omega)]
  have := (hA.append h1).append hB
  simpa using this

/-- The cells at the end of a way through slices. -/
def cellsAt : List Cell → List Nat → Option (List Cell)
  | cs, [] => some cs
  | cs, i :: p => match cs[i]? with
    | some (.sl _ ns) => cellsAt ns p
    | _ => none
/-- The cells with those at the end of a way turned. -/
def updAt (f : List Cell → List Cell) : List Cell → List Nat → List Cell
  | cs, [] => f cs
  | cs, i :: p => match cs[i]? with
    | some (.sl n ns) => cs.set i (.sl n (updAt f ns p))
    | _ => cs
def locate (w : World) : Nat → Nat → List Nat → Option (Nat × Nat)
  | g, o, [] => some (g, o)
  | g, o, i :: p => match w.cell? ⟨g, o + i, none⟩ with
    | some (.slice (some a) _ _) => locate w a.block a.off p
    | _ => none

theorem Blk.cell {own : Bool} {w : World} {g o : Nat} {xs : List Value} (h : Blk own w g o xs) {j : Nat} {x : Value} (hx : xs[j]? = some x) : w.cell? ⟨g, o + j, none⟩ = some x := by
  obtain ⟨arr, e, fr, h1, _, h3⟩ := h
  simp [World.cell?, h1, h3 j x hx]

theorem locate_holds {own : Bool} {w : World} : ∀ {p : List Nat} {cs : List Cell} {vs : List Value} {fp : List Nat} {g o : Nat} {ns : List Cell}, HoldsL own w cs vs fp → Blk own w g o vs → cellsAt cs p = some ns → (ns ≠ [] ∨ p = []) →
    ∃ g' o' vs' fp', locate w g o p = some (g', o') ∧ Blk own w g' o' vs' ∧ HoldsL own w ns vs' fp' ∧ (∀ x ∈ g' :: fp', x ∈ g :: fp) := by
  intro p
  induction p with
  | nil =>
    intro cs vs fp g o ns h hb hc _
    cases hc
    exact ⟨g, o, vs, fp, rfl, hb, h, fun _ hx => hx⟩
  | cons i p ih =>
    intro cs vs fp g o ns h hb hc hn
    simp only [cellsAt] at hc
    cases hi : cs[i]? with
    | none => rw [hi] at hc; cases hc
    | some c =>
      rw [hi] at hc
      cases c with
      | sl n ms =>
        simp only at hc
        obtain ⟨v, f1, fA, fB, hv, h1, rfl, _, _⟩ := h.at_ hi
        cases h1 with
        | sl0 hn' h' =>
          exfalso
          cases p with
          | nil => simp [cellsAt] at hc; subst hc; rcases hn with hn | hn <;> simp at hn
          | cons j p => simp [cellsAt] at hc
        | sl h0 hn' hb' h1' h2' =>
          obtain ⟨g', o', vs', fp', hl, hb2, hh, hsub⟩ := ih h1' hb' hc (by
            rcases hn with hn | hn
            · exact .inl hn
            · simp at hn)
          refine ⟨g', o', vs', fp', ?_, hb2, hh, ?_⟩
          · simp only [locate, hb.cell hv]
            exact hl
          · intro x hx
            have := hsub x hx
            simp at this ⊢
            rcases this with rfl | h
            · simp
            · simp [h]
      | _ => cases hc

theorem heap_setCell_ne {w : World} {a : Addr} {v : Value} {g : Nat} (h : g ≠ a.block) : (w.setCell a v).heap[g]? = w.heap[g]? := by
  simp only [World.setCell, Array.getElem?_modify]
  rw [if_neg (fun e => h e.symm)]

theorem Blk.set {w : World} {g o : Nat} {xs : List Value} (h : Blk true w g o xs) (j : Nat) (v : Value) (hj : j < xs.length) : Blk true (w.setCell ⟨g, o + j, none⟩ v) g o (xs.set j v) := by
  obtain ⟨arr, e, fr, h1, h2, h3⟩ := h
  refine ⟨arr.setIfInBounds (o + j) v, e, fr, ?_, h2, ?_⟩
  · simp [World.setCell, Array.getElem?_modify, h1]
  · intro k x hk
    rw [Array.getElem?_setIfInBounds]
    by_cases hjk : j = k
    · subst hjk
      rw [List.getElem?_set_self hj] at hk
      have hx := h3 j xs[j] (by simp [hj])
      have := (Array.getElem?_eq_some_iff.1 hx).1
      simp [this, hk]
    · rw [List.getElem?_set_ne hjk] at hk
      rw [if_neg (by omega)]
      exact h3 k x hk

/-- A cell written at the end of a way. -/
theorem write_at {w : World} {c : Cell} {v : Value} {f1 : List Nat} {j : Nat} : ∀ {p : List Nat} {cs : List Cell} {vs : List Value} {fp : List Nat} {g o g' o' : Nat} {ns : List Cell},
    HoldsL true w cs vs fp → Blk true w g o vs → (g :: fp).Nodup → cellsAt cs p = some ns → j < ns.length → locate w g o p = some (g', o') →
    HoldsL true w [c] [v] f1 → f1.Nodup → (∀ x ∈ f1, x ∉ g :: fp) →
    ∃ vs' fp', HoldsL true (w.setCell ⟨g', o' + j, none⟩ v) (updAt (fun l => l.set j c) cs p) vs' fp' ∧ Blk true (w.setCell ⟨g', o' + j, none⟩ v) g o vs' ∧ (g :: fp').Nodup ∧
      (∀ x ∈ fp', x ∈ fp ∨ x ∈ f1) ∧ g' ∈ g :: fp ∧ vs'.length = vs.length := by
  intro p
  induction p with
  | nil =>
    intro cs vs fp g o g' o' ns h hb hnd hc hj hl h1 hn1 hd
    cases hc
    simp only [locate, Option.some.injEq, Prod.mk.injEq] at hl
    obtain ⟨rfl, rfl⟩ := hl
    obtain ⟨hlt, cj⟩ : ∃ c0, cs[j]? = some c0 := ⟨cs[j], by simp [hj]⟩
    obtain ⟨v0, f0, fA, fB, hv, _, rfl, hA, hB⟩ := h.at_ cj
    rw [List.nodup_cons] at hnd
    have hfr : ∀ x, x ∈ fA ∨ x ∈ f1 ∨ x ∈ fB → (w.setCell ⟨g, o + j, none⟩ v).heap[x]? = w.heap[x]? := by
      intro x hx
      apply heap_setCell_ne
      rintro rfl
      rcases hx with hx | hx | hx
      · exact hnd.1 (by simp [hx])
      · exact hd _ hx (by simp)
      · exact hnd.1 (by simp [hx])
    refine ⟨vs.set j v, fA ++ f1 ++ fB, ?_, hb.set j v (by rw [h.len]; exact hj), ?_, ?_, by simp, by simp⟩
    · exact HoldsL.set hj h.len (hA.frame fun x hx => hfr x (.inl hx)) (hB.frame fun x hx => hfr x (.inr (.inr hx))) (h1.frame fun x hx => hfr x (.inr (.inl hx)))
    · have hnd2 := hnd.2
      rw [List.nodup_append, List.nodup_append] at hnd2
      obtain ⟨⟨na, n0, d0⟩, nb, d1⟩ := hnd2
      rw [List.nodup_cons, List.nodup_append, List.nodup_append]
      refine ⟨?_, ⟨na, hn1, ?_⟩, nb, ?_⟩
      · intro hg
        simp only [List.mem_append] at hg
        rcases hg with (hg | hg) | hg
        · exact hnd.1 (by simp [hg])
        · exact hd _ hg (by simp)
        · exact hnd.1 (by simp [hg])
      · rintro a ha b hb' rfl
        exact hd a hb' (by simp [ha])
      · rintro a ha b hb' rfl
        simp only [List.mem_append] at ha
        rcases ha with ha | ha
        · exact d1 a (by simp [ha]) a hb' rfl
        · exact hd a ha (by simp [hb'])
    · intro x hx
      simp only [List.mem_append] at hx ⊢
      rcases hx with (hx | hx) | hx
      · simp [hx]
      · simp [hx]
      · simp [hx]
  | cons i p ih =>
    intro cs vs fp g o g' o' ns h hb hnd hc hj hl h1 hn1 hd
    simp only [cellsAt] at hc
    cases hi : cs[i]? with
    | none => rw [hi] at hc; cases hc
    | some c0 =>
      rw [hi] at hc
      cases c0 with
      | sl n ms =>
        simp only at hc
        obtain ⟨v0, f0, fA, fB, hv, h0, rfl, hA, hB⟩ := h.at_ hi
        cases h0 with
        | sl0 hn' h' =>
          exfalso
          cases p with
          | nil => simp [cellsAt] at hc; subst hc; simp at hj
          | cons j p => simp [cellsAt] at hc
        | @sl g2 o2 c2 _ _ xs fq _ _ fr hne hn' hb' h1' h2' =>
          cases h2'
          simp only [locate, hb.cell hv] at hl
          have hilt := (List.getElem?_eq_some_iff.1 hi).1
          rw [List.nodup_cons] at hnd
          have hnd2 := hnd.2
          rw [List.nodup_append, List.nodup_append] at hnd2
          obtain ⟨⟨na, n0, d0⟩, nb, d1⟩ := hnd2
          have n0' : (g2 :: fq).Nodup := by simpa using n0
          obtain ⟨vs2, fq2, k1, k2, k3, k4, k5, k6⟩ := ih h1' hb' n0' hc hj hl h1 hn1 (fun x hx hx' => hd x hx (by
            simp only [List.mem_cons] at hx' ⊢
            rcases hx' with rfl | hx'
            · simp
            · simp [hx']))
          have hg'in : g' ∈ g :: (fA ++ g2 :: (fq ++ []) ++ fB) := by
            simp only [List.mem_cons] at k5
            rcases k5 with rfl | k5
            · simp
            · simp [k5]
          have hgne : ∀ x, x ∈ fA ∨ x ∈ fB ∨ x = g → (w.setCell ⟨g', o' + j, none⟩ v).heap[x]? = w.heap[x]? := by
            intro x hx
            apply heap_setCell_ne
            rintro rfl
            have k5' : x ∈ g2 :: (fq ++ []) := by simpa using k5
            rcases hx with hx | hx | rfl
            · exact d0 x hx x k5' rfl
            · exact d1 x (List.mem_append.2 (.inr k5')) x hx rfl
            · exact hnd.1 (List.mem_append.2 (.inl (List.mem_append.2 (.inr k5'))))
          have hset : vs.set i (.slice (some ⟨g2, o2, none⟩) n c2) = vs := by
            apply List.ext_getElem?
            intro k
            by_cases hk : i = k
            · subst hk
              rw [List.getElem?_set_self (by rw [h.len]; exact hilt), hv]
            · rw [List.getElem?_set_ne hk]
          have hne2 : updAt (fun l => l.set j c) ms p ≠ [] := by
            intro he
            have l1 := k1.len
            rw [he] at l1
            have l2 := h1'.len
            have : vs2.length = 0 := by simpa using l1
            rw [k6] at this
            rw [this] at l2
            exact hne (List.eq_nil_of_length_eq_zero l2.symm)
          refine ⟨vs, fA ++ (g2 :: (fq2 ++ [])) ++ fB, ?_, hb.frame (hgne g (.inr (.inr rfl))), ?_, ?_, hg'in, rfl⟩
          · simp only [updAt, hi]
            have := HoldsL.set (own := true) (w := w.setCell ⟨g', o' + j, none⟩ v) (c := .sl n (updAt (fun l => l.set j c) ms p)) (v := .slice (some ⟨g2, o2, none⟩) n c2) hilt h.len
              (hA.frame fun x hx => hgne x (.inl hx)) (hB.frame fun x hx => hgne x (.inr (.inl hx))) (.sl hne2 hn' k2 k1 .nil)
            rw [hset] at this
            exact this
          · have k3' : (g2 :: (fq2 ++ [])).Nodup := by simpa using k3
            have hin : ∀ x ∈ g2 :: (fq2 ++ []), x ∈ g2 :: (fq ++ []) ∨ x ∈ f1 := by
              intro x hx
              simp only [List.mem_cons, List.append_nil] at hx ⊢
              rcases hx with rfl | hx
              · simp
              · rcases k4 x hx with hx | hx
                · simp [hx]
                · simp [hx]
            rw [List.nodup_cons, List.nodup_append, List.nodup_append]
            refine ⟨?_, ⟨na, k3', ?_⟩, nb, ?_⟩
            · intro hg
              simp only [List.mem_append] at hg
              rcases hg with (hg | hg) | hg
              · exact hnd.1 (List.mem_append.2 (.inl (List.mem_append.2 (.inl hg))))
              · rcases hin g hg with hg | hg
                · exact hnd.1 (List.mem_append.2 (.inl (List.mem_append.2 (.inr hg))))
                · exact hd g hg (by simp)
              · exact hnd.1 (List.mem_append.2 (.inr hg))
            · rintro a ha b hb' rfl
              rcases hin a hb' with hg | hg
              · exact d0 a ha a hg rfl
              · exact hd a hg (List.mem_cons_of_mem _ (List.mem_append.2 (.inl (List.mem_append.2 (.inl ha)))))
            · rintro a ha b hb' rfl
              simp only [List.mem_append] at ha
              rcases ha with ha | ha
              · exact d1 a (List.mem_append.2 (.inl ha)) a hb' rfl
              · rcases hin a ha with hg | hg
                · exact d1 a (List.mem_append.2 (.inr hg)) a hb' rfl
                · exact hd a hg (List.mem_cons_of_mem _ (List.mem_append.2 (.inr hb')))
          · intro x hx
            simp only [List.mem_append, List.mem_cons, List.append_nil] at hx ⊢
            rcases hx with (hx | rfl | hx) | hx
            · simp [hx]
            · simp
            · rcases k4 x hx with hx | hx
              · simp [hx]
              · simp [hx]
            · simp [hx]
      | _ => cases hc
end Go.Proofs.YtbdokibepndibaaGreat.Eng
