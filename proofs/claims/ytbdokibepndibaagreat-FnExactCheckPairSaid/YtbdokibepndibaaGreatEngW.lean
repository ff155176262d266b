/- An interpreter of the model's code over tagged trees: arguments that are structs and slices of these, as trees. -/
import Derived.Test.YtbdokibepndibaaGreatEng27
import Derived.ChangeArms
import Derived.ChangeSlices
namespace Go.Proofs.YtbdokibepndibaaGreat.Eng
open Go.RowKit

/-- What one cell of a type may hold. -/
inductive Ty where
  | int (k : IntKind)
  | bool
  | str
  | sl (e : List Ty)
/-- The cells of a struct's fields, one behind the other. -/
def tysF (P : Program) (rec : TypeId → Option (List Ty)) : Nat → List Field → Option (List Ty)
  | _, [] => some []
  | o, f :: r =>
    if f.offset = o then
      match rec f.type with
      | some l => if l.length = P.cellsOf f.type then (tysF P rec (o + l.length) r).map (l ++ ·) else none
      | none => none
    else none
def tysOf (P : Program) : Nat → TypeId → Option (List Ty)
  | 0, _ => none
  | n + 1, t =>
    match P.underlying t with
    | some .bool => some [.bool]
    | some (.int k) => some [.int k]
    | some .string => some [.str]
    | some (.slice e) => (tysOf P n e).bind fun l => if l.length = P.cellsOf e ∧ 0 < l.length then some [.sl l] else none
    | some (.struct fs) => (tysF P (tysOf P n) 0 fs.toList).bind fun l => if l.length = P.cellsOf t then some l else none
    | _ => none
/-- Cells as their types want them. -/
inductive Okc : List Ty → List Cell → Prop
  | nil : Okc [] []
  | int {k n ts cs} : (Lit.int k n).wf = true → Okc ts cs → Okc (.int k :: ts) (.int k n :: cs)
  | bool {b ts cs} : Okc ts cs → Okc (.bool :: ts) (.bool b :: cs)
  | str {s ts cs} : s.size ≤ maxLen → Okc ts cs → Okc (.str :: ts) (.str s :: cs)
  | sl {e : List Ty} {css : List (List Cell)} {ts cs} : css.length ≤ maxLen → (∀ c ∈ css, Okc e c) → Okc ts cs → Okc (.sl e :: ts) (.sl css.length css.flatten :: cs)
theorem Okc.append {ts us : List Ty} {cs ds : List Cell} (h : Okc ts cs) (k : Okc us ds) : Okc (ts ++ us) (cs ++ ds) := by
  induction h with
  | nil => exact k
  | int h0 _ ih => exact .int h0 ih
  | bool _ ih => exact .bool ih
  | str h0 _ ih => exact .str h0 ih
  | sl h0 h1 _ _ ih => exact .sl h0 h1 ih
theorem Okc.len {ts : List Ty} {cs : List Cell} (h : Okc ts cs) : cs.length = ts.length := by
  induction h <;> simp_all
section
variable {H : Type} {enc : TypeId × Value → H} {P : Program} {w : World} {base : Nat} {spare : Nat → Bool} {held : Bool}
theorem blk_of_cells {a : Addr} {vs : List Value} (hne : vs ≠ []) (h : ∀ j v, vs[j]? = some v → w.cell? (a.add j) = some v) : ∃ g o, a = ⟨g, o, none⟩ ∧ Blk false w g o vs := by
  obtain ⟨g, q, sp⟩ := a
  have hc : ∃ v, w.cell? ((⟨g, q, sp⟩ : Addr).add 0) = some v := by
    cases vs with
    | nil => exact absurd rfl hne
    | cons v r => exact ⟨v, h 0 v rfl⟩
  obtain ⟨v0, hc⟩ := hc
  cases sp with
  | some s =>
    exfalso
    simp only [World.cell?, Addr.add] at hc
    split at hc
    · split at hc <;> simp_all
    · cases hc
  | none =>
    refine ⟨g, q, rfl, ?_⟩
    cases hg : w.heap[g]? with
    | none => rw [add_ad] at hc; simp [World.cell?, hg] at hc
    | some x =>
      cases x with
      | cells arr e fr =>
        refine ⟨arr, e, fr, hg, (fun hh => by cases hh), fun j x hx => ?_⟩
        have := h j x hx
        rw [add_ad] at this
        simpa [World.cell?, hg] using this
      | _ => rw [add_ad] at hc; simp [World.cell?, hg] at hc
theorem add_add' (a : Addr) (i j : Nat) (v : Value) (h : w.cell? ((a.add i).add j) = some v) : w.cell? (a.add (i + j)) = some v := by
  have : (a.add i).add j = a.add (i + j) := by
    obtain ⟨g, q, sp⟩ := a
    by_cases hi : i = 0 <;> by_cases hj : j = 0 <;> simp [Addr.add, hi, hj, Nat.add_assoc]
  rwa [this] at h
theorem tysF_holds {n : Nat} {rec : TypeId → Option (List Ty)} {cs : List Value}
    (hrec : ∀ {t ts} {c : List Value} {x : DataW H × List MemPlace}, rec t = some ts → DataW.trod enc P w base spare held n t c = some x → ∃ ccs fp, Okc ts ccs ∧ HoldsL false w ccs c fp) :
    ∀ {l : List Field} {o : Nat} {ts : List Ty}, tysF P rec o l = some ts → (∀ f ∈ l, ∃ x, DataW.trod enc P w base spare held n f.type ((cs.drop f.offset).take (P.cellsOf f.type)) = some x) → o + ts.length = cs.length →
      ∃ ccs fp, Okc ts ccs ∧ HoldsL false w ccs (cs.drop o) fp := by
  intro l
  induction l with
  | nil =>
    intro o ts h _ hl
    simp only [tysF, Option.some.injEq] at h
    subst h
    rw [List.drop_eq_nil_of_le (by simp at hl; omega)]
    exact ⟨[], [], .nil, .nil⟩
  | cons f r ih =>
    intro o ts h hf hl
    simp only [tysF] at h
    split at h
    · rename_i ho
      subst ho
      split at h
      · rename_i l0 hl0
        split at h
        · rename_i hlen
          obtain ⟨ts', h', rfl⟩ := Option.map_eq_some_iff.1 h
          rw [List.length_append] at hl
          obtain ⟨c1, f1, k1, k2⟩ := ih h' (fun f' hf' => hf f' (List.mem_cons_of_mem _ hf')) (by omega)
          obtain ⟨x, hx⟩ := hf f (List.mem_cons_self ..)
          obtain ⟨c0, f0, q1, q2⟩ := hrec hl0 hx
          refine ⟨c0 ++ c1, f0 ++ f1, q1.append k1, ?_⟩
          have := q2.append k2
          rwa [← hlen, ← List.drop_drop, List.take_append_drop] at this
        · cases h
      · cases h
    · cases h
/-- An argument's cells are a tree. -/
theorem trod_tree : ∀ (m : Nat) {t : TypeId} {ts : List Ty}, tysOf P m t = some ts → ∀ {fuel : Nat} {cs : List Value} {x : DataW H × List MemPlace}, DataW.trod enc P w base spare held fuel t cs = some x →
    ∃ ccs fp, Okc ts ccs ∧ HoldsL false w ccs cs fp := by
  intro m
  induction m with
  | zero => intro t ts h; cases h
  | succ m ih =>
    intro t ts h fuel cs x hx
    simp only [tysOf] at h
    split at h
    · rename_i ht
      cases h
      obtain ⟨b, rfl, _⟩ := DataW.trod_bool ht hx
      exact ⟨_, _, .bool .nil, .bool .nil⟩
    · rename_i k ht
      cases h
      obtain ⟨n, rfl, _, hw⟩ := DataW.trod_int ht hx
      exact ⟨_, _, .int hw .nil, .int .nil⟩
    · rename_i ht
      cases h
      obtain ⟨s, rfl, _, hs⟩ := DataW.trod_string ht hx
      exact ⟨_, _, .str hs .nil, .str .nil⟩
    · rename_i e ht
      obtain ⟨l, hl, h⟩ := Option.bind_eq_some_iff.1 h
      split at h <;> cases h
      rename_i hlen
      rcases DataW.trod_slice ht hx with ⟨rfl, _⟩ | ⟨a, len, cap, elems, rest, n, _, rfl, _, _, hlc, hcm, hel, hget, _⟩
      · exact ⟨[.sl 0 []], [], .sl (css := []) (by simp) (by simp) .nil, .sl0 ⟨Nat.le_refl _, fun _ => rfl⟩ .nil⟩
      · have key : ∀ k, k ≤ len → ∃ (css : List (List Cell)) (vs : List Value) (fp : List Nat), css.length = k ∧ (∀ c ∈ css, Okc l c) ∧ HoldsL false w css.flatten vs fp ∧ vs.length = k * P.cellsOf e ∧ ∀ j v, vs[j]? = some v → w.cell? (a.add j) = some v := by
          intro k
          induction k with
          | zero => exact fun _ => ⟨[], [], [], rfl, by simp, .nil, by simp, by simp⟩
          | succ k ihk =>
            intro hk
            obtain ⟨css, vs, fp, h1, h2, h3, h4, h5⟩ := ihk (by omega)
            have hg := hget k (by omega)
            obtain ⟨y, hy⟩ : ∃ y, elems[k]? = some y := ⟨elems[k], by simp⟩
            rw [hy] at hg
            obtain ⟨vk, hv, hty⟩ := Option.bind_eq_some_iff.1 hg
            obtain ⟨ck, fk, q1, q2⟩ := ih hl hty
            have hvl : vk.length = P.cellsOf e := by rw [q2.len, q1.len]; exact hlen.1
            refine ⟨css ++ [ck], vs ++ vk, fp ++ fk, by simp [h1], ?_, ?_, ?_, ?_⟩
            · intro c hc
              simp only [List.mem_append, List.mem_singleton] at hc
              rcases hc with hc | rfl
              · exact h2 c hc
              · exact q1
            · rw [List.flatten_append]
              simpa using h3.append q2
            · rw [List.length_append, h4, hvl, Nat.succ_mul]
            · intro j v hj
              by_cases hjl : j < vs.length
              · rw [List.getElem?_append_left hjl] at hj
                exact h5 j v hj
              · rw [List.getElem?_append_right (by omega)] at hj
                have hjk := (List.getElem?_eq_some_iff.1 hj).1
                have := (World.cells?_some hv).2.2 (j - vs.length) (by omega)
                rw [hj] at this
                have := add_add' a _ _ v this
                rwa [show k * P.cellsOf e + (j - vs.length) = j by omega] at this
        obtain ⟨css, vs, fp, h1, h2, h3, h4, h5⟩ := key len (Nat.le_refl _)
        subst h1
        by_cases hn : css.flatten = []
        · refine ⟨[.sl css.length css.flatten], [], .sl (by omega) h2 .nil, ?_⟩
          rw [hn]
          exact .sl0 ⟨hlc, fun h => by cases h⟩ .nil
        · have hvn : vs ≠ [] := by
            rintro rfl
            have := h3.len
            exact hn (List.eq_nil_of_length_eq_zero this.symm)
          obtain ⟨g, o, rfl, hb⟩ := blk_of_cells hvn h5
          refine ⟨[.sl css.length css.flatten], _, .sl (by omega) h2 .nil, .sl hn hlc hb h3 .nil⟩
    · rename_i fs ht
      obtain ⟨l, hl, h⟩ := Option.bind_eq_some_iff.1 h
      split at h <;> cases h
      rename_i hlen
      obtain ⟨xs, n, _, _, hcl, hxl, hget⟩ := DataW.trod_struct ht hx
      have := tysF_holds (H := H) (enc := enc) (base := base) (spare := spare) (held := held) (n := n) (cs := cs) (fun {t ts c x} h1 h2 => ih h1 h2) hl (fun f hf => ?_) (by omega)
      · simpa using this
      · obtain ⟨i, hi⟩ := List.getElem?_of_mem hf
        have hi' : fs[i]? = some f := by simpa using hi
        have hlt := (Array.getElem?_eq_some_iff.1 hi').1
        exact ⟨xs[i], by rw [hget i f hi']; simp⟩
    · cases h
/-- The cells of a tree that is only read, as a struct's. -/
theorem ro_cells {G : Gh} {m : Mem} (hR : ∀ g, g < w.heap.size → G.R g) {cs : List Cell} {vs : List Value} {fp : List Nat} (h : HoldsL false w cs vs fp) : All2 (A1Rel G m w) (cs.map fromRo) vs := by
  induction h with
  | nil => exact .nil
  | int _ ih => exact .cons rfl ih
  | bool _ ih => exact .cons rfl ih
  | str _ ih => exact .cons rfl ih
  | sl0 hn _ ih => exact .cons ⟨_, _, rfl, hn, .inl rfl⟩ ih
  | @sl g o c n ns xs fp1 cs vs fp h0 hn hb h1 _ ih1 ih2 =>
    refine .cons ⟨_, _, rfl, ⟨hn, fun h => by cases h⟩, .inr ⟨g, o, xs, fp1, rfl, hb, h1, fun y hy => hR y ?_⟩⟩ ih2
    simp only [List.mem_cons] at hy
    rcases hy with rfl | hy
    · exact hb.lt
    · exact h1.lt y hy
/-- A list of cells, each what some function lays of something. -/
theorem okc_all {α : Type} {e : List Ty} {lay : α → List Cell} {p : α → Prop} (h : ∀ c, Okc e c → ∃ x, c = lay x ∧ p x) : ∀ {css : List (List Cell)}, (∀ c ∈ css, Okc e c) → ∃ xs : List α, css = xs.map lay ∧ ∀ x ∈ xs, p x := by
  intro css
  induction css with
  | nil => exact fun _ => ⟨[], rfl, by simp⟩
  | cons c r ih =>
    intro hc
    obtain ⟨x, rfl, hx⟩ := h c (hc c (List.mem_cons_self ..))
    obtain ⟨xs, rfl, hxs⟩ := ih fun c hc' => hc c (List.mem_cons_of_mem _ hc')
    exact ⟨x :: xs, rfl, fun y hy => by
      rcases List.mem_cons.1 hy with rfl | hy
      · exact hx
      · exact hxs y hy⟩
end
end Go.Proofs.YtbdokibepndibaaGreat.Eng
