/- An interpreter of the model's code over tagged trees, ninth part: rows written in place. -/
import Derived.Test.YtbdokibepndibaaGreatEng8
namespace Go.Proofs.YtbdokibepndibaaGreat.Eng
open Go.RowKit

theorem locate_frame {own : Bool} {w w' : World} : ∀ {p : List Nat} {cs : List Cell} {vs : List Value} {fp : List Nat} {g o : Nat} {ns : List Cell}, HoldsL own w cs vs fp → Blk own w g o vs → cellsAt cs p = some ns → (ns ≠ [] ∨ p = []) →
    (∀ x ∈ g :: fp, w'.heap[x]? = w.heap[x]?) → locate w' g o p = locate w g o p := by
  intro p
  induction p with
  | nil => intros; rfl
  | cons i p ih =>
    intro cs vs fp g o ns h hb hc hn hf
    simp only [cellsAt] at hc
    cases hi : cs[i]? with
    | none => rw [hi] at hc; cases hc
    | some c =>
      rw [hi] at hc
      cases c with
      | sl n ms =>
        simp only at hc
        obtain ⟨v, f1, fA, fB, hv, h1, rfl, _, _⟩ := h.at_ hi
        cases h1 with
        | sl0 hn' h' =>
          exfalso
          cases p with
          | nil => simp [cellsAt] at hc; subst hc; rcases hn with hn | hn <;> simp at hn
          | cons j p => simp [cellsAt] at hc
        | sl h0 hn' hb' h1' h2' =>
          have hb2 := hb.frame (hf g (by simp))
          simp only [locate, hb.cell hv, hb2.cell hv]
          exact ih h1' hb' hc (by
            rcases hn with hn | hn
            · exact .inl hn
            · simp at hn) (fun x hx => hf x (by
              simp only [List.mem_cons, List.mem_append] at hx ⊢
              rcases hx with rfl | hx
              · simp
              · simp [hx]))
      | _ => cases hc

section
variable {P : Program} {F : Own} {w0 : World} {G G' : Gh} {s : St} {a : Act} {w w' : World} {sv : SV} {o : Oper} {m m' : Mem}
/-- What is told of a value stands where the blocks that it leads to stand. -/
theorem A1Rel.frame (hinv : Inv G m w) {x : A1} {v : Value} (h : A1Rel G m w x v) (hf : ∀ t ∈ x.ids, ∀ g ∈ G.fp t, w'.heap[g]? = w.heap[g]?) (hR : ∀ g, G.R g → w'.heap[g]? = w.heap[g]?) : A1Rel G m w' x v := by
  have hat : ∀ t p off A, t ∈ x.ids → At G m w t p off A → At G m w' t p off A := by
    rintro t p off A ht ⟨sz, cs, hm, hn⟩
    refine ⟨sz, cs, hm, fun ns hns hne => ?_⟩
    obtain ⟨g, q, hl, hA⟩ := hn ns hns hne
    obtain ⟨_, vs, fp, k1, k2, k3⟩ := hinv.ob _ _ hm
    refine ⟨g, q, ?_, hA⟩
    rw [locate_frame k1 k2 hns hne (fun y hy => hf t ht y (by rw [k3]; exact hy))]
    exact hl
  cases x with
  | sl t p off n =>
    obtain ⟨A, c, rfl, hn, ⟨sz, cs, hm, hcov⟩, h2, h3⟩ := h
    refine ⟨A, c, rfl, hn, ⟨sz, cs, hm, hcov⟩, h2.imp id (hat t p off A (by simp [A1.ids])), fun hp sz1 cs1 hm1 hc => ?_⟩
    obtain ⟨arr, e, fr, k1, k2⟩ := h3 hp sz1 cs1 hm1 hc
    obtain ⟨_, vs, fp, _, _, q3⟩ := hinv.ob _ _ hm
    exact ⟨arr, e, fr, (hf t (by simp [A1.ids]) _ (by rw [q3]; simp)).trans k1, k2⟩
  | ro n cs =>
    obtain ⟨A, c, rfl, hn, h⟩ := h
    exact ⟨A, c, rfl, hn, RoAt.frame h (fun _ h => h) hR⟩
  | pr t p off =>
    obtain ⟨A, rfl, h⟩ := h
    exact ⟨A, rfl, h.imp (hat t p off _ (by simp [A1.ids])) id⟩
  | pc cs =>
    obtain ⟨A, rfl, h⟩ := h
    exact ⟨A, rfl, RoAt.frame h (fun _ h => h) hR⟩
  | rx n cs =>
    obtain ⟨A, rfl, hn, h⟩ := h
    exact ⟨A, rfl, hn, RoAt.frame h (fun _ h => h) hR⟩
  | _ => exact h
theorem A1Rel.dom {x : A1} {v : Value} (h : A1Rel G m w x v) : ∀ t ∈ x.ids, ∃ z, m t = some z := by
  intro t ht
  cases x with
  | sl u p off n =>
    obtain ⟨A, c, _, _, ⟨sz, cs, hm, _⟩, _⟩ := h
    simp [A1.ids] at ht; subst ht; exact ⟨_, hm⟩
  | pr u p off =>
    obtain ⟨A, _, h⟩ := h
    simp [A1.ids] at ht; subst ht
    rcases h with ⟨sz, cs, hm, _⟩ | ⟨as_, hm, _⟩
    · exact ⟨_, hm⟩
    · exact ⟨_, hm⟩
  | fn f caps =>
    obtain ⟨_, h⟩ := h
    obtain ⟨as_, hm⟩ := h t ht
    exact ⟨_, hm⟩
  | _ => simp [A1.ids] at ht

theorem kill_ids {ts : List Nat} {x : A1} : ∀ t ∈ (kill ts x).ids, t ∉ ts ∧ t ∈ x.ids := by
  intro t ht
  cases x with
  | sl u p off n =>
    simp only [kill] at ht
    split at ht
    · simp [A1.ids] at ht
    · rename_i hu; simp [A1.ids] at ht; subst ht; exact ⟨by simpa using hu, by simp [A1.ids]⟩
  | pr u p off =>
    simp only [kill] at ht
    split at ht
    · simp [A1.ids] at ht
    · rename_i hu; simp [A1.ids] at ht; subst ht; exact ⟨by simpa using hu, by simp [A1.ids]⟩
  | fn f caps =>
    simp only [kill] at ht
    split at ht
    · simp [A1.ids] at ht
    · rename_i hu
      simp only [List.any_eq_true, not_exists, not_and, Bool.not_eq_true] at hu
      simp only [A1.ids] at ht
      exact ⟨by have := hu t ht; simpa using this, ht⟩
  | _ => simp [kill, A1.ids] at ht

/-- Rows gone, and out of their blocks (written on, as may be) one new row: all else stands. -/
theorem Rel.renew (h : Rel F w0 G s a w) {ts : List Nat} {d b q : Nat} {x : Ob} {fp : List Nat} (hd : s.mem d = none) (hnd : fp.Nodup)
    (hfp : ∀ y ∈ fp, ∃ t ∈ ts, y ∈ G.fp t) (hts : ∀ t ∈ ts, ∃ y, s.mem t = some y)
    (hos : w'.os = w.os) (htape : w'.tape = w.tape) (hout : w'.output = w.output) (hsize : w.heap.size ≤ w'.heap.size)
    (hw : ∀ g, g < w.heap.size → (∀ t ∈ ts, g ∉ G.fp t) → w'.heap[g]? = w.heap[g]?)
    (hx : ObRel (G.put d b q fp) (upd (rest ts s.mem) d (some x)) w' d x) :
    Rel F w0 (G.put d b q fp) ⟨s.slots.map (SV.map (kill ts)), upd (rest ts s.mem) d (some x), s.up.map (SV.map (kill ts))⟩ a w' := by
  have hR : ∀ g, G.R g → w'.heap[g]? = w.heap[g]? := by
    intro g hg
    refine hw g (h.inv.lt g hg) fun t ht hgt => ?_
    obtain ⟨z, hz⟩ := hts t ht
    exact h.inv.ro t z hz g hgt hg
  have hkeep : ∀ t z, t ∉ ts → s.mem t = some z → ∀ g ∈ G.fp t, w'.heap[g]? = w.heap[g]? := by
    intro t z ht hz g hg
    refine hw g ((h.inv.ob t z hz).lt g hg) fun u hu hgu => ?_
    obtain ⟨y, hy⟩ := hts u hu
    exact h.inv.apart u t y z hy hz (fun e => ht (e ▸ hu)) g hgu hg
  have conv : ∀ y v, A1Rel G s.mem w y v → A1Rel (G.put d b q fp) (upd (rest ts s.mem) d (some x)) w' (kill ts y) v := by
    intro y v hy
    have h1 : A1Rel G s.mem w (kill ts y) v := by
      refine hy.kill (fun t ht z hz => ⟨rfl, rfl, z, hz, ?_⟩) (fun _ h => h)
      cases z
      · exact ⟨rfl, rfl⟩
      · exact trivial
    have h2 : A1Rel G s.mem w' (kill ts y) v := h1.frame h.inv (fun t ht g hg => by
      obtain ⟨k1, _⟩ := kill_ids t ht
      obtain ⟨z, hz⟩ := h1.dom t ht
      exact hkeep t z k1 hz g hg) hR
    refine h2.congr (fun t ht z hz => ?_) (fun _ h => h)
    obtain ⟨k1, _⟩ := kill_ids t ht
    have htd : t ≠ d := by rintro rfl; rw [hd] at hz; cases hz
    exact ⟨by simp [Gh.put, htd], by simp [Gh.put, htd], z.map (kill ts), by simp [upd, htd, rest_of k1 hz], like_map _ _⟩
  have get : ∀ t y, upd (rest ts s.mem) d (some x) t = some y → (t = d ∧ y = x) ∨ (t ≠ d ∧ t ∉ ts ∧ ∃ z, s.mem t = some z ∧ y = z.map (kill ts)) := by
    intro t y hy
    unfold upd at hy
    split at hy
    · rename_i htd; cases hy; exact .inl ⟨htd, rfl⟩
    · rename_i htd; obtain ⟨k1, k2⟩ := rest_some hy; exact .inr ⟨htd, k1, k2⟩
  have fpd : (G.put d b q fp).fp d = fp := by simp [Gh.put]
  have fpo : ∀ t, t ≠ d → (G.put d b q fp).fp t = G.fp t := fun t ht => by simp [Gh.put, ht]
  refine ⟨h.defers, h.slots.mapL (fun s v hs => SRel.mapA conv hs), h.up.mapL (fun s v hs => SRel.mapA conv hs), h.rr, ⟨?_, ?_, ?_, ?_, ?_⟩, ?_, ?_⟩
  · intro t y hy
    rcases get t y hy with ⟨rfl, rfl⟩ | ⟨htd, hts', z, hz, rfl⟩
    · exact hx
    · have hob := h.inv.ob t z hz
      have hk := hkeep t z hts' hz
      cases z with
      | row sz cs =>
        obtain ⟨h0, vs, fq, h1, h2, h3⟩ := hob
        refine ⟨h0, vs, fq, h1.frame fun g hx => hk g (by rw [h3]; simp [hx]), ?_, ?_⟩
        · simp only [Gh.put, if_neg htd]; exact h2.frame (hk _ (by rw [h3]; simp))
        · rw [fpo t htd, h3]; simp [Gh.put, htd]
      | box as_ =>
        obtain ⟨vs, ar, e, h1, h2, h3, h4⟩ := hob
        refine ⟨vs, ar, e, ?_, h2, h3.mapL conv, ?_⟩
        · simp only [Gh.put, if_neg htd]; exact (hk _ (by rw [h4]; simp)).trans h1
        · rw [fpo t htd, h4]; simp [Gh.put, htd]
  · intro t y hy
    rcases get t y hy with ⟨rfl, rfl⟩ | ⟨htd, hts', z, hz, rfl⟩
    · rw [fpd]; exact hnd
    · rw [fpo t htd]; exact h.inv.nd t z hz
  · intro t t' y y' hy hy' hne g hgt
    rcases get t y hy with ⟨rfl, rfl⟩ | ⟨htd, hts', z, hz, rfl⟩
    · rcases get t' y' hy' with ⟨rfl, rfl⟩ | ⟨htd', hts'', z', hz', rfl⟩
      · exact absurd rfl hne
      · rw [fpo t' htd']
        rw [fpd] at hgt
        obtain ⟨u, hu, hgu⟩ := hfp g hgt
        obtain ⟨r, hr⟩ := hts u hu
        exact h.inv.apart u t' r z' hr hz' (fun e => hts'' (e ▸ hu)) g hgu
    · rw [fpo t htd] at hgt
      rcases get t' y' hy' with ⟨rfl, rfl⟩ | ⟨htd', hts'', z', hz', rfl⟩
      · rw [fpd]
        intro hin
        obtain ⟨u, hu, hgu⟩ := hfp g hin
        obtain ⟨r, hr⟩ := hts u hu
        exact h.inv.apart t u z r hz hr (fun e => hts' (e ▸ hu)) g hgt hgu
      · rw [fpo t' htd']
        exact h.inv.apart t t' z z' hz hz' hne g hgt
  · intro t y hy g hgt
    rcases get t y hy with ⟨rfl, rfl⟩ | ⟨htd, hts', z, hz, rfl⟩
    · rw [fpd] at hgt
      obtain ⟨u, hu, hgu⟩ := hfp g hgt
      obtain ⟨r, hr⟩ := hts u hu
      exact h.inv.ro u r hr g hgu
    · rw [fpo t htd] at hgt
      exact h.inv.ro t z hz g hgt
  · intro g hr
    exact Nat.lt_of_lt_of_le (h.inv.lt g hr) hsize
  · refine ⟨hos.trans h.fr.os, htape.trans h.fr.tape, hout.trans h.fr.output, Nat.le_trans h.fr.size hsize, fun g hg' hF => ?_⟩
    have hlt : g < w.heap.size := Nat.lt_of_lt_of_le hg' h.fr.size
    rw [hw g hlt fun t ht hgt => ?_]
    · exact h.fr.block g hg' hF
    · obtain ⟨z, hz⟩ := hts t ht
      rcases h.own t z hz g hgt with k | k
      · exact hF k
      · omega
  · intro t y hy g hgt
    rcases get t y hy with ⟨rfl, rfl⟩ | ⟨htd, hts', z, hz, rfl⟩
    · rw [fpd] at hgt
      obtain ⟨u, hu, hgu⟩ := hfp g hgt
      obtain ⟨r, hr⟩ := hts u hu
      exact h.own u r hr g hgu
    · rw [fpo t htd] at hgt
      exact h.own t z hz g hgt
end
end Go.Proofs.YtbdokibepndibaaGreat.Eng
