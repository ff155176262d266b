/- An interpreter of the model's code over tagged trees, twenty-seventh part: a law's call, from its arguments on. -/
import Derived.Test.YtbdokibepndibaaGreatEng26
import Derived.Below
namespace Go.Proofs.YtbdokibepndibaaGreat.Eng
open Go.RowKit

/-- The ghost of a call's beginning: all that is there is only read. -/
def startG (w : World) : Gh := ⟨fun _ => 0, fun _ => 0, fun _ => [], fun g => g < w.heap.size⟩
section
variable {P : Program} {T : FuncId → Option AFun} {w : World}
theorem ren_bool {ρ : Nat → Option Nat} {x : A1} {b : Bool} (h : ren ρ x = .bool b) : x = .bool b := by
  cases x with
  | sl t p off n => simp only [ren] at h; split at h <;> cases h
  | pr t p off => simp only [ren] at h; split at h <;> cases h
  | fn f caps => simp only [ren] at h; split at h <;> cases h
  | bool c => exact h
  | _ => cases h
theorem top (hm : P.follows .mixedOrders = true) (HT : TabOk P T) {f : FuncId} {vs : List SV} {xs : Array Value} {k : Nat} (hargs : All2 (SRel (startG w) (fun _ => none) w) vs xs.toList) {obs : List Ob} (h : runRO (exec T k) T f vs = some (.v false [.bool true], obs)) :
    Calls P f xs w fun e w' => e = .returned (.bool true) ∧ Below w.heap.size w w' := by
  unfold runRO at h
  split at h
  · rename_i af haf
    obtain ⟨_, fn, c, h1, h2, h3, h4, h5, h6⟩ := HT f af haf
    split at h
    · rename_i hlen
      have hent := entry_rel (w0 := w) (n := af.n) (Fc := ⟨fun _ => False, [], fun g => g < w.heap.size⟩) (G := startG w) (m := fun _ => none) (up := []) (xs := xs.toList) hargs .nil (fun _ h => .inl h)
        ⟨fun t x hx => (by cases hx), fun t x hx => (by cases hx), fun t t' x x' hx => (by cases hx), fun t x hx => (by cases hx), fun _ h => h⟩ ⟨rfl, rfl, rfl, Nat.le_refl _, fun _ _ _ => rfl⟩ (fun t x hx => by cases hx) hlen
      have fin : ∀ e z l, exec T k af.body ⟨⟨vs ++ List.replicate (af.n - vs.length) (.tup []), fun _ => none, []⟩, 0⟩ = some (e, z) → (∀ i, e ≠ .exit i) → resOf z.st af.res = some l →
          resSV l = .v false [.bool true] → Calls P f xs w fun e w' => e = .returned (.bool true) ∧ Below w.heap.size w w' := by
        intro e z l hex hne hres hsv
        refine calls_of_wp h1 h2 ?_
        rw [h4]
        refine wp_mono (exec_ok hm HT k hex h6 hent) fun x a' w' ⟨hx, G1, hrel⟩ => ?_
        obtain ⟨v, hrv, hsr⟩ := results_ok (P := P) hrel h5 hres
        rw [hsv] at hsr
        obtain ⟨y, e1, hy⟩ := hsr
        cases e1
        simp only [A1Rel] at hy
        subst hy
        have hb : Below w.heap.size w w' := ⟨hrel.fr.os, hrel.fr.tape, hrel.fr.output, hrel.fr.size, fun g hg => hrel.fr.block g hg (fun h => h)⟩
        cases e with
        | exit i => exact absurd rfl (hne i)
        | nrm =>
          cases x <;> simp only [ERel] at hx
          exact ⟨hrel.defers, _, hrv, rfl, hb⟩
        | ret =>
          cases x <;> simp only [ERel] at hx
          exact ⟨hrel.defers, _, hrv, rfl, hb⟩
      split at h
      · cases h
      · rename_i e z hne hex
        split at h
        · rename_i l hl
          obtain ⟨q, _, he⟩ := Option.map_eq_some_iff.1 h
          simp only [Prod.mk.injEq] at he
          refine fin e z l hex (fun i hi => by subst hi; exact hne i rfl) hl ?_
          obtain ⟨he, _⟩ := he
          cases hsv : resSV l with
          | v ag as_ =>
            rw [hsv] at he
            simp only [SV.map, SV.v.injEq] at he
            obtain ⟨rfl, he⟩ := he
            cases as_ with
            | nil => simp at he
            | cons x r =>
              cases r with
              | nil => simp at he; rw [ren_bool he]
              | cons _ _ => simp at he
          | tup _ => rw [hsv] at he; simp [SV.map] at he
          | bad => rw [hsv] at he; simp [SV.map] at he
        · cases h
      · cases h
    · cases h
  · cases h
theorem ints_hold {k : IntKind} (l : List Int) : HoldsL false w (l.map (Cell.int k)) (l.map (Value.int k)) [] := by
  induction l with
  | nil => exact .nil
  | cons x r ih => exact .int ih
/-- A row of numbers, handed in. -/
theorem ro_row {m : Mem} {k : IntKind} {a : Option Addr} {len cap : Nat} {zs : List Int}
    (h : (a = none ∧ len = 0 ∧ cap = 0 ∧ zs = []) ∨ ∃ x, a = some x ∧ len ≤ cap ∧ cap ≤ maxLen ∧ zs.length = cap ∧ (∀ i, i < zs.length → w.cell? (x.add i) = some (.int k (zs.getD i 0))) ∧ ∀ n ∈ zs, (Lit.int k n).wf = true) :
    SRel (startG w) m w (.v false [.ro len ((zs.take len).map (Cell.int k))]) (.slice a len cap) := by
  refine ⟨_, rfl, a, cap, rfl, ?_, ?_⟩
  · rcases h with ⟨rfl, rfl, rfl, rfl⟩ | ⟨x, rfl, h1, _⟩
    · exact ⟨Nat.le_refl _, fun _ => rfl⟩
    · exact ⟨h1, fun h => by cases h⟩
  · rcases h with ⟨rfl, rfl, rfl, rfl⟩ | ⟨x, rfl, h1, _, h2, h3, _⟩
    · exact .inl rfl
    · by_cases he : zs.take len = []
      · exact .inl (by rw [he]; rfl)
      · have hne : 0 < zs.length := by
          rcases Nat.eq_zero_or_pos zs.length with h0 | h0
          · have : zs = [] := List.eq_nil_of_length_eq_zero h0
            subst this
            simp at he
          · exact h0
        obtain ⟨g, q, sp⟩ := x
        have hc := h3 0 hne
        cases sp with
        | some s =>
          exfalso
          simp only [World.cell?, Addr.add] at hc
          split at hc
          · split at hc <;> simp_all
          · cases hc
        | none =>
          have hb : ∃ arr e fr, w.heap[g]? = some (.cells arr e fr) ∧ ∀ i, i < zs.length → arr[q + i]? = some (.int k (zs.getD i 0)) := by
            cases hg : w.heap[g]? with
            | none =>
              rw [add_ad] at hc
              simp [World.cell?, hg] at hc
            | some x =>
              cases x with
              | cells arr e fr =>
                refine ⟨arr, e, fr, rfl, fun i hi => ?_⟩
                have := h3 i hi
                rw [add_ad] at this
                simpa [World.cell?, hg] using this
              | _ =>
                rw [add_ad] at hc
                simp [World.cell?, hg] at hc
          obtain ⟨arr, e, fr, hg, hcell⟩ := hb
          refine .inr ⟨g, q, (zs.take len).map (Value.int k), [], rfl, ⟨arr, e, fr, hg, fun h => (by cases h), fun j x hx => ?_⟩, ints_hold _, fun x hx => ?_⟩
          · rw [List.getElem?_map, List.getElem?_take] at hx
            split at hx
            · obtain ⟨n, hn, rfl⟩ := Option.map_eq_some_iff.1 hx
              have hlt := (List.getElem?_eq_some_iff.1 hn).1
              rw [hcell j hlt]
              simp [List.getD, hn]
            · cases hx
          · simp at hx
            subst hx
            exact (Array.getElem?_eq_some_iff.1 hg).1
end
end Go.Proofs.YtbdokibepndibaaGreat.Eng
