/- An interpreter of the model's code over tagged trees, second part: its states, and how they stand to the model's. -/
import Derived.Test.YtbdokibepndibaaGreatEng1
namespace Go.Proofs.YtbdokibepndibaaGreat.Eng
open Go.RowKit

/-- What one cell of a variable holds: a slice or an address leads by a row's number and a way into it. -/
inductive A1 where
  | int (k : IntKind) (n : Int)
  | bool (b : Bool)
  | str (s : ByteArray)
  | nil
  | sl (t : Nat) (p : List Nat) (off n : Nat)
  | ro (n : Nat) (cs : List Cell)
  | pr (t : Nat) (p : List Nat) (off : Nat)
  | pc (cs : List Cell)
  | rx (n : Nat) (cs : List Cell)
  | fn (f : FuncId) (caps : List Nat)
  | bad
inductive SV where
  | v (ag : Bool) (as_ : List A1)
  | tup (vs : List (Bool × List A1))
  | bad
inductive Ob where
  | row (sz : Nat) (cs : List Cell)
  | box (as_ : List A1)
structure St where
  slots : List SV
  mem : Nat → Option Ob
  up : List SV
structure Gh where
  b : Nat → Nat
  o : Nat → Nat
  fp : Nat → List Nat
  R : Nat → Prop

def RoAt (R : Nat → Prop) (w : World) (A : Option Addr) (cs : List Cell) : Prop :=
  cs = [] ∨ ∃ g o vs fp, A = some ⟨g, o, none⟩ ∧ Blk false w g o vs ∧ HoldsL false w cs vs fp ∧ ∀ x ∈ g :: fp, R x

/-- Where the way from a row leads. -/
def At (G : Gh) (m : Nat → Option Ob) (w : World) (t : Nat) (p : List Nat) (off : Nat) (A : Option Addr) : Prop :=
  ∃ sz cs, m t = some (.row sz cs) ∧ ∀ ns, cellsAt cs p = some ns → ns ≠ [] ∨ p = [] → ∃ g o, locate w (G.b t) (G.o t) p = some (g, o) ∧ A = some ⟨g, o + off, none⟩

def A1Rel (G : Gh) (m : Nat → Option Ob) (w : World) : A1 → Value → Prop
  | .int k n, v => v = .int k n
  | .bool b, v => v = .bool b
  | .str s, v => v = .string s
  | .nil, v => ∃ A, v = .slice A 0 0
  | .sl t p off n, v => ∃ A c, v = .slice A n c ∧ (n ≤ c ∧ (A = none → c = 0)) ∧ (∃ sz cs, m t = some (.row sz cs) ∧ (p = [] → cs.length ≤ off + c * sz)) ∧ (c = 0 ∨ At G m w t p off A) ∧
      (p = [] → ∀ sz cs, m t = some (.row sz cs) → c ≠ 0 → ∃ arr e fr, w.heap[G.b t]? = some (.cells arr e fr) ∧ G.o t + off + c * sz ≤ arr.size ∧ c ≤ 9223372036854775807)
  | .ro n cs, v => ∃ A c, v = .slice A n c ∧ (n ≤ c ∧ (A = none → c = 0)) ∧ RoAt G.R w A cs
  | .pr t p off, v => ∃ A, v = .pointer (some A) ∧ ((At G m w t p off (some A)) ∨ (∃ as_, m t = some (.box as_) ∧ p = [] ∧ A = ⟨G.b t, off, none⟩))
  | .pc cs, v => ∃ A, v = .pointer (some A) ∧ RoAt G.R w (some A) cs
  | .rx n cs, v => ∃ A, v = .slice A n n ∧ (A = none → n = 0) ∧ RoAt G.R w A cs
  | .fn f caps, v => v = .func (.func f) #[] (caps.map fun t => Value.pointer (some ⟨G.b t, 0, none⟩)).toArray ∧ ∀ t ∈ caps, ∃ as_, m t = some (.box as_)
  | .bad, v => v.oneCell' = true

/-- Two lists, place by place. -/
def All2 {α β : Type} (r : α → β → Prop) (as_ : List α) (bs : List β) : Prop :=
  as_.length = bs.length ∧ ∀ (i : Nat) (a : α) (b : β), as_[i]? = some a → bs[i]? = some b → r a b

def VRel (G : Gh) (m : Nat → Option Ob) (w : World) : Bool → List A1 → Value → Prop
  | false, as_, v => ∃ a, as_ = [a] ∧ A1Rel G m w a v
  | true, as_, v => ∃ vs, v = .agg vs.toArray ∧ All2 (A1Rel G m w) as_ vs

def SRel (G : Gh) (m : Nat → Option Ob) (w : World) : SV → Value → Prop
  | .v ag as_, v => VRel G m w ag as_ v
  | .tup vs, v => ∃ xs, v = .tuple xs.toArray ∧ All2 (fun (p : Bool × List A1) x => VRel G m w p.1 p.2 x) vs xs
  | .bad, _ => True

def ObRel (G : Gh) (m : Nat → Option Ob) (w : World) (t : Nat) : Ob → Prop
  | .row sz cs => 0 < sz ∧ ∃ vs fp, HoldsL true w cs vs fp ∧ Blk true w (G.b t) (G.o t) vs ∧ G.fp t = G.b t :: fp
  | .box as_ => ∃ vs arr e, w.heap[G.b t]? = some (.cells arr e (0, 0)) ∧ arr = vs.toArray ∧ All2 (A1Rel G m w) as_ vs ∧ G.fp t = [G.b t]

/-- All else that memory bears: rows and variables apart from each other, and from what is only read. -/
structure Inv (G : Gh) (m : Nat → Option Ob) (w : World) : Prop where
  ob : ∀ t x, m t = some x → ObRel G m w t x
  nd : ∀ t x, m t = some x → (G.fp t).Nodup
  apart : ∀ t t' x x', m t = some x → m t' = some x' → t ≠ t' → ∀ g ∈ G.fp t, g ∉ G.fp t'
  ro : ∀ t x, m t = some x → ∀ g ∈ G.fp t, ¬ G.R g
  lt : ∀ g, G.R g → g < w.heap.size

/-- What the call may have written: blocks of F, and new ones. -/
structure Fr (F : Nat → Prop) (w0 w : World) : Prop where
  os : w.os = w0.os
  tape : w.tape = w0.tape
  output : w.output = w0.output
  size : w0.heap.size ≤ w.heap.size
  block : ∀ g, g < w0.heap.size → ¬ F g → w.heap[g]? = w0.heap[g]?

/-- The blocks that a call may write on besides its own, and the values of those that wait for it. -/
structure Own where
  dom : Nat → Prop
  X : List Value
  R : Nat → Prop
instance : CoeFun Own (fun _ => Nat → Prop) := ⟨Own.dom⟩
structure Rel (F : Own) (w0 : World) (G : Gh) (s : St) (a : Act) (w : World) : Prop where
  defers : a.defers = []
  slots : All2 (SRel G s.mem w) s.slots a.tmps.toList
  up : All2 (SRel G s.mem w) s.up F.X
  rr : ∀ g, G.R g → F.R g ∨ w0.heap.size ≤ g
  inv : Inv G s.mem w
  fr : Fr F.dom w0 w
  own : ∀ t x, s.mem t = some x → ∀ g ∈ G.fp t, F g ∨ w0.heap.size ≤ g

theorem All2.nth {α β : Type} {r : α → β → Prop} {as_ : List α} {bs : List β} (h : All2 r as_ bs) {i : Nat} {a : α} (ha : as_[i]? = some a) : ∃ b, bs[i]? = some b ∧ r a b := by
  have hlt := (List.getElem?_eq_some_iff.1 ha).1
  have hb : bs[i]? = some (bs[i]'(by have := h.1; omega)) := by simp
  exact ⟨_, hb, h.2 i _ _ ha hb⟩
theorem All2.set {α β : Type} {r : α → β → Prop} {as_ : List α} {bs : List β} (h : All2 r as_ bs) (i : Nat) {a : α} {b : β} (hab : r a b) : All2 r (as_.set i a) (bs.set i b) := by
  refine ⟨by simp [h.1], fun j x y hx hy => ?_⟩
  by_cases hij : i = j
  · subst hij
    have hlt : i < as_.length := by have := (List.getElem?_eq_some_iff.1 hx).1; simpa using this
    rw [List.getElem?_set_self hlt] at hx
    rw [List.getElem?_set_self (by have := h.1; omega)] at hy
    cases hx; cases hy; exact hab
  · rw [List.getElem?_set_ne hij] at hx hy
    exact h.2 j x y hx hy
theorem All2.imp {α β : Type} {r r' : α → β → Prop} {as_ : List α} {bs : List β} (h : All2 r as_ bs) (k : ∀ a b, r a b → r' a b) : All2 r' as_ bs :=
  ⟨h.1, fun i a b ha hb => k a b (h.2 i a b ha hb)⟩
theorem All2.mapL {α α' β : Type} {r : α → β → Prop} {r' : α' → β → Prop} {f : α → α'} {as_ : List α} {bs : List β} (h : All2 r as_ bs) (k : ∀ a b, r a b → r' (f a) b) : All2 r' (as_.map f) bs := by
  refine ⟨by simp [h.1], fun i a b ha hb => ?_⟩
  rw [List.getElem?_map] at ha
  cases hx : as_[i]? with
  | none => rw [hx] at ha; cases ha
  | some x => rw [hx] at ha; cases ha; exact k _ _ (h.2 i x b hx hb)
theorem All2.nil {α β : Type} {r : α → β → Prop} : All2 r [] [] := ⟨rfl, fun i a b ha => by simp at ha⟩
theorem All2.cons {α β : Type} {r : α → β → Prop} {a : α} {b : β} {as_ : List α} {bs : List β} (h : r a b) (t : All2 r as_ bs) : All2 r (a :: as_) (b :: bs) := by
  refine ⟨by simp [t.1], fun i x y hx hy => ?_⟩
  cases i with
  | zero => simp at hx hy; subst hx; subst hy; exact h
  | succ i => simp at hx hy; exact t.2 i x y hx hy
theorem All2.append {α β : Type} {r : α → β → Prop} {as_ cs : List α} {bs ds : List β} (h : All2 r as_ bs) (k : All2 r cs ds) : All2 r (as_ ++ cs) (bs ++ ds) := by
  refine ⟨by simp [h.1, k.1], fun i x y hx hy => ?_⟩
  by_cases hi : i < as_.length
  · rw [List.getElem?_append_left hi] at hx
    rw [List.getElem?_append_left (by have := h.1; omega)] at hy
    exact h.2 i x y hx hy
  · rw [List.getElem?_append_right (by omega)] at hx
    rw [List.getElem?_append_right (by have := h.1; omega)] at hy
    rw [h.1] at hx
    exact k.2 _ x y hx hy
theorem All2.take {α β : Type} {r : α → β → Prop} {as_ : List α} {bs : List β} (h : All2 r as_ bs) (n : Nat) : All2 r (as_.take n) (bs.take n) := by
  refine ⟨by simp [h.1], fun i x y hx hy => ?_⟩
  rw [List.getElem?_take] at hx hy
  split at hx
  · rename_i hi; rw [if_pos hi] at hy; exact h.2 i x y hx hy
  · cases hx
theorem All2.drop {α β : Type} {r : α → β → Prop} {as_ : List α} {bs : List β} (h : All2 r as_ bs) (n : Nat) : All2 r (as_.drop n) (bs.drop n) := by
  refine ⟨by simp [h.1], fun i x y hx hy => ?_⟩
  rw [List.getElem?_drop] at hx hy
  exact h.2 _ x y hx hy

/-! What stands is left standing where memory only grows. -/
/-- Nothing that was there has turned. -/
def Grows (w w' : World) : Prop := ∀ g, g < w.heap.size → w'.heap[g]? = w.heap[g]?
theorem Grows.refl (w : World) : Grows w w := fun _ _ => rfl
theorem Grows.cell {w w' : World} (h : Grows w w') {a : Addr} {v : Value} (hv : w.cell? a = some v) : w'.cell? a = some v := by
  have hlt : a.block < w.heap.size := by
    unfold World.cell? at hv
    cases hb : w.heap[a.block]? with
    | none => rw [hb] at hv; cases hv
    | some x => exact (Array.getElem?_eq_some_iff.1 hb).1
  unfold World.cell? at hv ⊢
  rw [h _ hlt]
  exact hv
theorem locate_mono {w w' : World} (h : ∀ (a : Addr) v, w.cell? a = some v → w'.cell? a = some v) : ∀ {p : List Nat} {g o : Nat} {r : Nat × Nat}, locate w g o p = some r → locate w' g o p = some r := by
  intro p
  induction p with
  | nil => exact fun h => h
  | cons i p ih =>
    intro g o r hl
    simp only [locate] at hl ⊢
    cases hc : w.cell? ⟨g, o + i, none⟩ with
    | none => rw [hc] at hl; cases hl
    | some v =>
      rw [hc] at hl
      rw [h _ _ hc]
      cases v with
      | slice A n c =>
        cases A with
        | none => cases hl
        | some a => exact ih hl
      | _ => cases hl
theorem At.grows {G : Gh} {m : Nat → Option Ob} {w w' : World} (hg : Grows w w') {t : Nat} {p : List Nat} {off : Nat} {A : Option Addr} (h : At G m w t p off A) : At G m w' t p off A := by
  obtain ⟨sz, cs, hm, h⟩ := h
  refine ⟨sz, cs, hm, fun ns hn hne => ?_⟩
  obtain ⟨g, o, hl, hA⟩ := h ns hn hne
  exact ⟨g, o, locate_mono (fun a v => hg.cell) hl, hA⟩
theorem Blk.lt {own : Bool} {w : World} {g o : Nat} {xs : List Value} (h : Blk own w g o xs) : g < w.heap.size := by
  obtain ⟨arr, e, fr, h1, _⟩ := h
  exact (Array.getElem?_eq_some_iff.1 h1).1
theorem RoAt.frame {R R' : Nat → Prop} {w w' : World} {A : Option Addr} {cs : List Cell} (h : RoAt R w A cs) (hR : ∀ g, R g → R' g) (hw : ∀ g, R g → w'.heap[g]? = w.heap[g]?) : RoAt R' w' A cs := by
  rcases h with h | ⟨g, o, vs, fp, rfl, hb, hh, hr⟩
  · exact .inl h
  · exact .inr ⟨g, o, vs, fp, rfl, hb.frame (hw _ (hr _ (by simp))), hh.frame fun x hx => hw _ (hr _ (by simp [hx])), fun x hx => hR _ (hr x hx)⟩

theorem A1Rel.grows {G : Gh} {m : Nat → Option Ob} {w w' : World} (hg : Grows w w') (hR : ∀ g, G.R g → g < w.heap.size) {a : A1} {v : Value} (h : A1Rel G m w a v) : A1Rel G m w' a v := by
  cases a with
  | sl t p off n =>
    obtain ⟨A, c, rfl, hn, h1, h2, h3⟩ := h
    refine ⟨A, c, rfl, hn, h1, h2.imp id (fun h => h.grows hg), fun hp sz cs hm hc => ?_⟩
    obtain ⟨arr, e, fr, k1, k2⟩ := h3 hp sz cs hm hc
    exact ⟨arr, e, fr, (hg _ (Array.getElem?_eq_some_iff.1 k1).1).trans k1, k2⟩
  | ro n cs =>
    obtain ⟨A, c, rfl, hn, h⟩ := h
    exact ⟨A, c, rfl, hn, h.frame (fun _ h => h) fun g hr => hg g (hR g hr)⟩
  | pr t p off =>
    obtain ⟨A, rfl, h⟩ := h
    exact ⟨A, rfl, h.imp (fun h => h.grows hg) id⟩
  | pc cs =>
    obtain ⟨A, rfl, h⟩ := h
    exact ⟨A, rfl, h.frame (fun _ h => h) fun g hr => hg g (hR g hr)⟩
  | rx n cs =>
    obtain ⟨A, rfl, hn, h⟩ := h
    exact ⟨A, rfl, hn, h.frame (fun _ h => h) fun g hr => hg g (hR g hr)⟩
  | _ => exact h
theorem VRel.imp {G G' : Gh} {m m' : Nat → Option Ob} {w w' : World} (k : ∀ a v, A1Rel G m w a v → A1Rel G' m' w' a v) {ag : Bool} {as_ : List A1} {v : Value} (h : VRel G m w ag as_ v) : VRel G' m' w' ag as_ v := by
  cases ag with
  | false => obtain ⟨a, rfl, h⟩ := h; exact ⟨a, rfl, k _ _ h⟩
  | true => obtain ⟨vs, rfl, h⟩ := h; exact ⟨vs, rfl, h.imp k⟩
theorem SRel.imp {G G' : Gh} {m m' : Nat → Option Ob} {w w' : World} (k : ∀ a v, A1Rel G m w a v → A1Rel G' m' w' a v) {s : SV} {v : Value} (h : SRel G m w s v) : SRel G' m' w' s v := by
  cases s with
  | v ag as_ => exact VRel.imp k h
  | tup vs => obtain ⟨xs, rfl, h⟩ := h; exact ⟨xs, rfl, h.imp fun p x => VRel.imp k⟩
  | bad => trivial
theorem ObRel.grows {G : Gh} {m : Nat → Option Ob} {w w' : World} (hg : Grows w w') (hR : ∀ g, G.R g → g < w.heap.size) {t : Nat} {x : Ob} (h : ObRel G m w t x) : ObRel G m w' t x := by
  cases x with
  | row sz cs =>
    obtain ⟨h0, vs, fp, h1, h2, h3⟩ := h
    exact ⟨h0, vs, fp, h1.frame fun g hx => hg g (h1.lt g hx), h2.frame (hg _ h2.lt), h3⟩
  | box as_ =>
    obtain ⟨vs, arr, e, h1, h2, h3, h4⟩ := h
    exact ⟨vs, arr, e, (hg _ (Array.getElem?_eq_some_iff.1 h1).1).trans h1, h2, h3.imp fun a v => A1Rel.grows hg hR, h4⟩
theorem Inv.grows {G : Gh} {m : Nat → Option Ob} {w w' : World} (hg : Grows w w') (hs : w.heap.size ≤ w'.heap.size) (h : Inv G m w) : Inv G m w' :=
  ⟨fun t x hx => (h.ob t x hx).grows hg h.lt, h.nd, h.apart, h.ro, fun g hg' => Nat.lt_of_lt_of_le (h.lt g hg') hs⟩
end Go.Proofs.YtbdokibepndibaaGreat.Eng
