/- An interpreter of the model's code over tagged trees: the library's Reverse, by the shelf's contract. -/
import Derived.Test.YtbdokibepndibaaGreatEngG
import Derived.Shelf.SlicesE.Reverse
namespace Go.Proofs.YtbdokibepndibaaGreat.Eng
open Go.RowKit Go.Shelf

/-- The function is the library's Reverse, of elements of one cell. -/
def Rvs (P : Program) (f : FuncId) : Prop := ∃ ρ : Ren, SlLaysE.n35 P ρ ∧ ρ.f 35 = f
def rvsSt (s : St) (ax : A1) : Option (SV × St) :=
  match ax with
  | .nil => some (.tup [], s)
  | .sl t [] 0 n =>
    match s.mem t with
    | some (.row z cs) => if z = 1 ∧ cs.length = n ∧ n ≤ 9223372036854775807 ∧ cs.all Cell.flat = true then some (.tup [], ⟨s.slots, upd s.mem t (some (.row z cs.reverse)), s.up⟩) else none
    | _ => none
  | _ => none
/-- A value of one cell. -/
abbrev One := { v : Value // v.oneCell' = true }
instance : Inhabited One := ⟨⟨.bool false, rfl⟩⟩
section
variable {P : Program} {F : Own} {w0 : World} {G : Gh} {s s' : St} {a : Act} {w : World} {sv : SV}
theorem holds_rev {w : World} {cs : List Cell} {vs : List Value} {fp : List Nat} (h : HoldsL true w cs vs fp) (hf : cs.all Cell.flat = true) : HoldsL true w cs.reverse vs.reverse [] := by
  induction h with
  | nil => exact .nil
  | int _ ih => rw [List.reverse_cons, List.reverse_cons]; exact (ih (by simpa [Cell.flat] using hf)).append (.int .nil)
  | bool _ ih => rw [List.reverse_cons, List.reverse_cons]; exact (ih (by simpa [Cell.flat] using hf)).append (.bool .nil)
  | str _ ih => rw [List.reverse_cons, List.reverse_cons]; exact (ih (by simpa [Cell.flat] using hf)).append (.str .nil)
  | sl0 _ _ _ => simp [Cell.flat] at hf
  | sl _ _ _ _ _ _ _ => simp [Cell.flat] at hf
theorem rev_wr {g q : Nat} {arr : Array Value} {e : TypeId} {zs : List One} {k : Nat} (hg : w.heap[g]? = some (.cells arr e (0, 0))) (hq : q + zs.length ≤ arr.size) :
    Wr w (Go.Sort.putRow Subtype.val (Go.Sort.ahead w k) g q zs.reverse.toArray) g q (zs.map Subtype.val).reverse := by
  have hheap : ∀ x, (Go.Sort.putRow (α := One) Subtype.val (Go.Sort.ahead w k) g q zs.reverse.toArray).heap[x]? = if g = x then (w.heap[x]?).map (Go.Sort.onCells (Go.Sort.putCells Subtype.val q zs.reverse.toArray)) else w.heap[x]? := by
    intro x
    simp only [Go.Sort.putRow, Go.Sort.mapBlock, Go.Sort.ahead, Array.getElem?_modify]
  refine ⟨rfl, rfl, rfl, by simp [Go.Sort.putRow, Go.Sort.mapBlock, Go.Sort.ahead], ⟨arr, Go.Sort.putCells Subtype.val q zs.reverse.toArray arr, e, e, hg, ?_, ?_, ?_, ?_⟩, fun x hx => ?_⟩
  · rw [hheap, if_pos rfl, hg]
    rfl
  · simp [Go.Sort.putCells]
  · intro i hi
    simp only [Go.Sort.putCells, Array.getElem?_mapIdx, List.size_toArray, List.length_reverse]
    simp only [List.length_reverse, List.length_map] at hi
    cases ha : arr[i]? with
    | none => rfl
    | some v => simp only [Option.map_some]; rw [if_neg (by omega)]
  · intro j x hx
    have hj := (List.getElem?_eq_some_iff.1 hx).1
    simp only [List.length_reverse, List.length_map] at hj
    simp only [Go.Sort.putCells, Array.getElem?_mapIdx, List.size_toArray, List.length_reverse]
    rw [Array.getElem?_eq_getElem (by omega)]
    simp only [Option.map_some]
    rw [if_pos (by omega)]
    rw [← List.map_reverse, List.getElem?_map] at hx
    obtain ⟨y, hy, rfl⟩ := Option.map_eq_some_iff.1 hx
    have : q + j - q = j := by omega
    rw [this]
    congr 1
    rw [getElem!_pos _ j (by simpa using hj)]
    have := (List.getElem?_eq_some_iff.1 hy).2
    simp [this]
  · rw [hheap, if_neg (fun h => hx h.symm)]
theorem rvs_ok {f : FuncId} (hI : Rvs P f) (h : Rel F w0 G s a w) {ax : A1} {vx : Value} (hx : A1Rel G s.mem w ax vx) (hv : rvsSt s ax = some (sv, s')) :
    Calls P f #[vx] w fun e w' => match e with | .returned v => ∃ G', Rel F w0 G' s' a w' ∧ SRel G' s'.mem w' sv v | _ => False := by
  obtain ⟨ρ, L, rfl⟩ := hI
  unfold rvsSt at hv
  split at hv
  · cases hv
    obtain ⟨A, rfl⟩ := hx
    refine (AnyE.slices_Reverse_empty L A 0 w).mono fun e w' he => ?_
    obtain ⟨rfl, rfl⟩ := he
    exact ⟨G, h, [], rfl, .nil⟩
  · rename_i t n
    split at hv
    · rename_i z cs hm
      split at hv
      · rename_i hc
        obtain ⟨rfl, hlen, hmx, hflat⟩ := hc
        cases hv
        obtain ⟨A, c, rfl, hn, _, hat, _⟩ := hx
        by_cases h0 : n = 0
        · subst h0
          obtain rfl : cs = [] := List.eq_nil_of_length_eq_zero hlen
          refine (AnyE.slices_Reverse_empty L A c w).mono fun e w' he => ?_
          obtain ⟨rfl, rfl⟩ := he
          refine ⟨G, ?_, [], rfl, .nil⟩
          have : (⟨s.slots, upd s.mem t (some (.row 1 ([] : List Cell).reverse)), s.up⟩ : St) = s := by
            have e : upd s.mem t (some (.row 1 ([] : List Cell).reverse)) = s.mem := by
              funext k
              simp only [upd]
              split
              · rename_i hk; subst hk; exact hm.symm
              · rfl
            rw [e]
          rw [this]
          exact h
        · have hc0 : c ≠ 0 := by have := hn.1; omega
          obtain ⟨z', q', hz, hA⟩ := hat.resolve_left hc0
          rw [hm] at hz
          cases hz
          have hne : cs ≠ [] := fun e => by rw [e] at hlen; simp at hlen; omega
          obtain ⟨g, o, hl, e1⟩ := hA cs rfl (.inr rfl)
          simp only [locate, Option.some.injEq, Prod.mk.injEq] at hl
          obtain ⟨rfl, rfl⟩ := hl
          subst e1
          obtain ⟨hsz, vs, fp, k1, ⟨arr, e, fr, b1, b2, b3⟩, k3⟩ := h.inv.ob _ _ hm
          obtain rfl := b2 rfl
          have hone := k1.one
          have hvl := k1.len
          let zs : List One := vs.pmap Subtype.mk hone
          have hzv : zs.map Subtype.val = vs := by simp [zs, List.map_pmap]
          have hzl : zs.length = n := by simp [zs]; omega
          have hend : G.o t + zs.length ≤ arr.size := by
            have hx : vs[n - 1]? = some (vs[n - 1]'(by omega)) := by simp
            have := b3 _ _ hx
            have := (Array.getElem?_eq_some_iff.1 this).1
            omega
          have hH : Go.Sort.Holds (α := One) Subtype.val w (G.b t) (G.o t) zs.toArray := by
            intro j hj
            simp only [List.size_toArray] at hj
            refine ⟨?_, by simp [World.frozen?, b1]⟩
            have hvj : vs[j]? = some (zs.toArray[j]!).val := by
              rw [getElem!_pos _ j (by simpa using hj)]
              rw [← hzv, List.getElem?_map]
              simp [hj]
            simp [World.cell?, b1, b3 j _ hvj]
          have hrev := AnyE.slices_Reverse (α := One) L Subtype.val (fun x => x.property) (G.b t) (G.o t) c zs w hH (by omega)
          rw [hzl] at hrev
          rw [show G.o t + 0 = G.o t from rfl]
          refine hrev.mono fun e' w' he => ?_
          obtain ⟨rfl, k, rfl⟩ := he
          have hw := rev_wr (w := w) (k := k) (zs := zs) b1 hend
          rw [hzv] at hw
          obtain ⟨G', r1, _⟩ := h.store (fx := id) (j := 0) (p := []) (ns := cs) (ncs := cs.reverse) (nvs := vs.reverse) (ts := []) (f1 := []) hm rfl hne (by simp) rfl (by simpa using hw) (holds_rev k1 hflat) (by simp) (by simp) (by simp) (by simp)
            (fun x => .inr ⟨rfl, by simp, .inr (fun c hc => by rw [List.all_eq_true] at hflat; exact hflat c (List.mem_reverse.1 hc))⟩)
          rw [slots_id, slots_id, mem_id_rest] at r1
          have hs : updAt (spl cs.reverse 0) cs [] = cs.reverse := by simp [updAt, spl]
          rw [hs] at r1
          exact ⟨G', r1, [], rfl, .nil⟩
      · cases hv
    · cases hv
  · cases hv
end
end Go.Proofs.YtbdokibepndibaaGreat.Eng
