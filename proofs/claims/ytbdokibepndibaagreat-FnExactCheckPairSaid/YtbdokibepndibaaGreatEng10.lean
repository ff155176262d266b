/- An interpreter of the model's code over tagged trees, tenth part: cells written at the end of a way. -/
import Derived.Test.YtbdokibepndibaaGreatEng9
namespace Go.Proofs.YtbdokibepndibaaGreat.Eng
open Go.RowKit

def spl {α : Type} (ns : List α) (j : Nat) (l : List α) : List α := l.take j ++ ns ++ l.drop (j + ns.length)
theorem spl_length {α : Type} {ns : List α} {j : Nat} {l : List α} (h : j + ns.length ≤ l.length) : (spl ns j l).length = l.length := by simp [spl]; omega
theorem spl_in {α : Type} {ns : List α} {j : Nat} {l : List α} (h : j + ns.length ≤ l.length) {i : Nat} (hi : i < ns.length) : (spl ns j l)[j + i]? = ns[i]? := by
  unfold spl
  rw [List.append_assoc, List.getElem?_append_right (by simp; omega), List.getElem?_append_left (by simp; omega)]
  congr 1
  simp
  omega
theorem spl_out {α : Type} {ns : List α} {j : Nat} {l : List α} (h : j + ns.length ≤ l.length) {i : Nat} (hi : i < j ∨ j + ns.length ≤ i) : (spl ns j l)[i]? = l[i]? := by
  unfold spl
  rcases hi with hi | hi
  · rw [List.append_assoc, List.getElem?_append_left (by simp; omega), List.getElem?_take, if_pos hi]
  · rw [List.getElem?_append_right (by simp; omega), List.getElem?_drop]
    congr 1
    simp
    omega

/-- One block written, from cell k on. -/
structure Wr (w w' : World) (g k : Nat) (vs : List Value) : Prop where
  os : w'.os = w.os
  tape : w'.tape = w.tape
  output : w'.output = w.output
  size : w'.heap.size = w.heap.size
  row : ∃ arr arr' e e2, w.heap[g]? = some (.cells arr e (0, 0)) ∧ w'.heap[g]? = some (.cells arr' e2 (0, 0)) ∧ arr'.size = arr.size ∧ (∀ i, i < k ∨ k + vs.length ≤ i → arr'[i]? = arr[i]?) ∧
    ∀ (j : Nat) (x : Value), vs[j]? = some x → arr'[k + j]? = some x
  other : ∀ x, x ≠ g → w'.heap[x]? = w.heap[x]?
theorem Blk.wr {w w' : World} {g o j : Nat} {xs vs : List Value} (h : Blk true w g o xs) (hw : Wr w w' g (o + j) vs) (hj : j + vs.length ≤ xs.length) : Blk true w' g o (spl vs j xs) := by
  obtain ⟨arr, e, fr, h1, h2, h3⟩ := h
  obtain ⟨ar, ar', e', e2, k1, k2, k3, k4, k5⟩ := hw.row
  rw [h1] at k1
  cases k1
  refine ⟨ar', e2, (0, 0), k2, fun _ => rfl, fun i x hx => ?_⟩
  by_cases hi : i < j ∨ j + vs.length ≤ i
  · rw [spl_out hj hi] at hx
    rw [k4 _ (by omega)]
    exact h3 i x hx
  · obtain ⟨i', rfl⟩ : ∃ i', i = j + i' := ⟨i - j, by omega⟩
    rw [spl_in hj (by omega)] at hx
    have := k5 i' x hx
    rwa [Nat.add_assoc] at this
/-- A row taken apart at two places. -/
theorem HoldsL.cut {own : Bool} {w : World} {cs : List Cell} {vs : List Value} {fp : List Nat} (h : HoldsL own w cs vs fp) (j k : Nat) (hj : j + k ≤ cs.length) :
    ∃ fA f1 fB, HoldsL own w (cs.take j) (vs.take j) fA ∧ HoldsL own w (cs.drop (j + k)) (vs.drop (j + k)) fB ∧ fp = fA ++ f1 ++ fB := by
  have e : cs = cs.take j ++ ((cs.drop j).take k ++ cs.drop (j + k)) := by
    rw [← List.drop_drop, List.take_append_drop, List.take_append_drop]
  have hl := h.len
  rw [e] at h
  obtain ⟨v1, v2, f1, f2, rfl, rfl, a, b⟩ := h.split
  obtain ⟨v3, v4, f3, f4, rfl, rfl, c, d⟩ := b.split
  have l1 := a.len
  have l3 := c.len
  have l4 := d.len
  simp only [List.length_take, List.length_drop, List.length_append] at l1 l3 l4 hl
  refine ⟨f1, f3, f4, ?_, ?_, by simp⟩
  · have e1 : (v1 ++ (v3 ++ v4)).take j = v1 := by rw [List.take_append_of_le_length (by omega), List.take_of_length_le (by omega)]
    rw [e1]; exact a
  · have e2 : (v1 ++ (v3 ++ v4)).drop (j + k) = v4 := by
      have hL : (v1 ++ v3).length = j + k := by simp; omega
      rw [← List.append_assoc]
      exact List.drop_left' hL
    rw [e2]; exact d

theorem cellsAt_upd {f : List Cell → List Cell} : ∀ {p : List Nat} {cs ns : List Cell}, cellsAt cs p = some ns → cellsAt (updAt f cs p) p = some (f ns) := by
  intro p
  induction p with
  | nil => intro cs ns h; cases h; rfl
  | cons i p ih =>
    intro cs ns h
    simp only [cellsAt] at h
    cases hi : cs[i]? with
    | none => rw [hi] at h; cases h
    | some c =>
      rw [hi] at h
      cases c with
      | sl n ms =>
        have hlt := (List.getElem?_eq_some_iff.1 hi).1
        simp only [updAt, hi, cellsAt, List.getElem?_set_self hlt]
        exact ih h
      | _ => cases h

theorem write_many {w w' : World} {ncs : List Cell} {nvs : List Value} {f1 : List Nat} {j : Nat} : ∀ {p : List Nat} {cs : List Cell} {vs : List Value} {fp : List Nat} {g o g' o' : Nat} {ns : List Cell},
    HoldsL true w cs vs fp → Blk true w g o vs → (g :: fp).Nodup → cellsAt cs p = some ns → ns ≠ [] → j + ncs.length ≤ ns.length → locate w g o p = some (g', o') → Wr w w' g' (o' + j) nvs →
    HoldsL true w ncs nvs f1 → f1.Nodup → (∀ x ∈ f1, x ∉ g :: fp) →
    ∃ vs' fp', HoldsL true w' (updAt (spl ncs j) cs p) vs' fp' ∧ Blk true w' g o vs' ∧ (g :: fp').Nodup ∧ (∀ x ∈ fp', x ∈ fp ∨ x ∈ f1) ∧ g' ∈ g :: fp ∧ vs'.length = vs.length := by
  intro p
  induction p with
  | nil =>
    intro cs vs fp g o g' o' ns h hb hnd hc hne hj hl hw h1 hn1 hd
    cases hc
    simp only [locate, Option.some.injEq, Prod.mk.injEq] at hl
    obtain ⟨rfl, rfl⟩ := hl
    obtain ⟨fA, f0, fB, hA, hB, rfl⟩ := h.cut j ncs.length hj
    have hnl := h1.len
    have hvl := h.len
    rw [List.nodup_cons] at hnd
    have hfr : ∀ x, x ∈ fA ∨ x ∈ f1 ∨ x ∈ fB → w'.heap[x]? = w.heap[x]? := by
      intro x hx
      apply hw.other
      rintro rfl
      rcases hx with hx | hx | hx
      · exact hnd.1 (by simp [hx])
      · exact hd _ hx (by simp)
      · exact hnd.1 (by simp [hx])
    refine ⟨spl nvs j vs, fA ++ f1 ++ fB, ?_, hb.wr hw (by omega), ?_, ?_, by simp, spl_length (by omega)⟩
    · have := ((hA.frame fun x hx => hfr x (.inl hx)).append (h1.frame fun x hx => hfr x (.inr (.inl hx)))).append (hB.frame fun x hx => hfr x (.inr (.inr hx)))
      simp only [updAt, spl]
      rw [hnl]
      exact this
    · have hnd2 := hnd.2
      rw [List.nodup_append, List.nodup_append] at hnd2
      obtain ⟨⟨na, n0, d0⟩, nb, d1⟩ := hnd2
      rw [List.nodup_cons, List.nodup_append, List.nodup_append]
      refine ⟨?_, ⟨na, hn1, ?_⟩, nb, ?_⟩
      · intro hg
        simp only [List.mem_append] at hg
        rcases hg with (hg | hg) | hg
        · exact hnd.1 (by simp [hg])
        · exact hd _ hg (by simp)
        · exact hnd.1 (by simp [hg])
      · rintro a ha b hb' rfl
        exact hd a hb' (by simp [ha])
      · rintro a ha b hb' rfl
        simp only [List.mem_append] at ha
        rcases ha with ha | ha
        · exact d1 a (by simp [ha]) a hb' rfl
        · exact hd a ha (by simp [hb'])
    · intro x hx
      simp only [List.mem_append] at hx ⊢
      rcases hx with (hx | hx) | hx
      · simp [hx]
      · simp [hx]
      · simp [hx]
  | cons i p ih =>
    intro cs vs fp g o g' o' ns h hb hnd hc hne hj hl hw h1 hn1 hd
    simp only [cellsAt] at hc
    cases hi : cs[i]? with
    | none => rw [hi] at hc; cases hc
    | some c0 =>
      rw [hi] at hc
      cases c0 with
      | sl n ms =>
        simp only at hc
        obtain ⟨v0, f0, fA, fB, hv, h0, rfl, hA, hB⟩ := h.at_ hi
        cases h0 with
        | sl0 hn' h' =>
          exfalso
          cases p with
          | nil => simp [cellsAt] at hc; exact hne hc
          | cons j p => simp [cellsAt] at hc
        | @sl g2 o2 c2 _ _ xs fq _ _ fr hne' hn' hb' h1' h2' =>
          cases h2'
          simp only [locate, hb.cell hv] at hl
          have hilt := (List.getElem?_eq_some_iff.1 hi).1
          rw [List.nodup_cons] at hnd
          have hnd2 := hnd.2
          rw [List.nodup_append, List.nodup_append] at hnd2
          obtain ⟨⟨na, n0, d0⟩, nb, d1⟩ := hnd2
          have n0' : (g2 :: fq).Nodup := by simpa using n0
          obtain ⟨vs2, fq2, k1, k2, k3, k4, k5, k6⟩ := ih h1' hb' n0' hc hne hj hl hw h1 hn1 (fun x hx hx' => hd x hx (by
            simp only [List.mem_cons] at hx' ⊢
            rcases hx' with rfl | hx'
            · simp
            · simp [hx']))
          have hg'in : g' ∈ g :: (fA ++ g2 :: (fq ++ []) ++ fB) := by
            simp only [List.mem_cons] at k5
            rcases k5 with rfl | k5
            · simp
            · simp [k5]
          have hgne : ∀ x, x ∈ fA ∨ x ∈ fB ∨ x = g → w'.heap[x]? = w.heap[x]? := by
            intro x hx
            apply hw.other
            rintro rfl
            have k5' : x ∈ g2 :: (fq ++ []) := by simpa using k5
            rcases hx with hx | hx | rfl
            · exact d0 x hx x k5' rfl
            · exact d1 x (List.mem_append.2 (.inr k5')) x hx rfl
            · exact hnd.1 (List.mem_append.2 (.inl (List.mem_append.2 (.inr k5'))))
          have hset : vs.set i (.slice (some ⟨g2, o2, none⟩) n c2) = vs := by
            apply List.ext_getElem?
            intro k
            by_cases hk : i = k
            · subst hk
              rw [List.getElem?_set_self (by rw [h.len]; exact hilt), hv]
            · rw [List.getElem?_set_ne hk]
          have hne2 : updAt (spl ncs j) ms p ≠ [] := by
            intro he
            have l1 := k1.len
            rw [he] at l1
            have l2 := h1'.len
            have : vs2.length = 0 := by simpa using l1
            rw [k6] at this
            rw [this] at l2
            exact hne' (List.eq_nil_of_length_eq_zero l2.symm)
          refine ⟨vs, fA ++ (g2 :: (fq2 ++ [])) ++ fB, ?_, hb.frame (hgne g (.inr (.inr rfl))), ?_, ?_, hg'in, rfl⟩
          · simp only [updAt, hi]
            have := HoldsL.set (own := true) (w := w') (c := .sl n (updAt (spl ncs j) ms p)) (v := .slice (some ⟨g2, o2, none⟩) n c2) hilt h.len
              (hA.frame fun x hx => hgne x (.inl hx)) (hB.frame fun x hx => hgne x (.inr (.inl hx))) (.sl hne2 hn' k2 k1 .nil)
            rw [hset] at this
            exact this
          · have k3' : (g2 :: (fq2 ++ [])).Nodup := by simpa using k3
            have hin : ∀ x ∈ g2 :: (fq2 ++ []), x ∈ g2 :: (fq ++ []) ∨ x ∈ f1 := by
              intro x hx
              simp only [List.mem_cons, List.append_nil] at hx ⊢
              rcases hx with rfl | hx
              · simp
              · rcases k4 x hx with hx | hx
                · simp [hx]
                · simp [hx]
            rw [List.nodup_cons, List.nodup_append, List.nodup_append]
            refine ⟨?_, ⟨na, k3', ?_⟩, nb, ?_⟩
            · intro hg
              simp only [List.mem_append] at hg
              rcases hg with (hg | hg) | hg
              · exact hnd.1 (List.mem_append.2 (.inl (List.mem_append.2 (.inl hg))))
              · rcases hin g hg with hg | hg
                · exact hnd.1 (List.mem_append.2 (.inl (List.mem_append.2 (.inr hg))))
                · exact hd g hg (by simp)
              · exact hnd.1 (List.mem_append.2 (.inr hg))
            · rintro a ha b hb' rfl
              rcases hin a hb' with hg | hg
              · exact d0 a ha a hg rfl
              · exact hd a hg (List.mem_cons_of_mem _ (List.mem_append.2 (.inl (List.mem_append.2 (.inl ha)))))
            · rintro a ha b hb' rfl
              simp only [List.mem_append] at ha
              rcases ha with ha | ha
              · exact d1 a (List.mem_append.2 (.inl ha)) a hb' rfl
              · rcases hin a ha with hg | hg
                · exact d1 a (List.mem_append.2 (.inr hg)) a hb' rfl
                · exact hd a hg (List.mem_cons_of_mem _ (List.mem_append.2 (.inr hb')))
          · intro x hx
            simp only [List.mem_append, List.mem_cons, List.append_nil] at hx ⊢
            rcases hx with (hx | rfl | hx) | hx
            · simp [hx]
            · simp
            · rcases k4 x hx with hx | hx
              · simp [hx]
              · simp [hx]
            · simp [hx]
      | _ => cases hc

/-- What a row leads to is told by its cells and values. -/
theorem holds_same {own : Bool} {w : World} {cs : List Cell} {vs : List Value} {f f' : List Nat} (h : HoldsL own w cs vs f) (h' : HoldsL own w cs vs f') : f = f' := by
  induction h generalizing f' with
  | nil => cases h'; rfl
  | int _ ih => cases h' with | int h' => exact ih h'
  | bool _ ih => cases h' with | bool h' => exact ih h'
  | str _ ih => cases h' with | str h' => exact ih h'
  | sl0 _ _ ih =>
    cases h' with
    | sl0 _ h' => exact ih h'
    | sl h0 => exact absurd rfl h0
  | @sl g o c n ns xs fp1 cs vs fp h0 hn hb h1 h2 ih1 ih2 =>
    cases h' with
    | sl0 _ h' => exact absurd rfl h0
    | @sl _ _ _ _ _ xs' fp1' _ _ fp' _ _ hb' h1' h2' =>
      have hx : xs = xs' := by
        obtain ⟨arr, e, fr, k1, _, k3⟩ := hb
        obtain ⟨arr', e', fr', k1', _, k3'⟩ := hb'
        rw [k1] at k1'
        cases k1'
        have hl := h1.len
        have hl' := h1'.len
        apply List.ext_getElem?
        intro i
        by_cases hi : i < xs.length
        · have a1 := k3 i xs[i] (by simp)
          have a2 := k3' i (xs'[i]'(by omega)) (by simp)
          have e2 := Option.some.inj (a1.symm.trans a2)
          rw [List.getElem?_eq_getElem hi, List.getElem?_eq_getElem (by omega : i < xs'.length), e2]
        · rw [List.getElem?_eq_none (by omega), List.getElem?_eq_none (by omega)]
      subst hx
      rw [ih1 h1', ih2 h2']

/-- Does a way lead through the cells j .. j + k - 1 at the end of way p? -/
def thru (j k : Nat) : List Nat → List Nat → Option Nat
  | [], i :: _ => some i
  | i :: p, i' :: q => if i = i' then thru j k p q else none
  | _, [] => none
def Thru (j k : Nat) (p q : List Nat) : Prop := ∃ i, thru j k p q = some i ∧ j ≤ i ∧ i < j + k
/-- A way that does not lead through what was written leads where it led. -/
theorem write_keeps {w w' : World} {ncs : List Cell} {nvs : List Value} {j : Nat} (hnl : nvs.length = ncs.length) : ∀ {p : List Nat} {cs : List Cell} {vs : List Value} {fp : List Nat} {g o g' o' : Nat} {ns : List Cell} {q : List Nat} {ms' : List Cell},
    HoldsL true w cs vs fp → Blk true w g o vs → (g :: fp).Nodup → cellsAt cs p = some ns → ns ≠ [] → j + ncs.length ≤ ns.length → locate w g o p = some (g', o') → Wr w w' g' (o' + j) nvs →
    ¬ Thru j ncs.length p q → cellsAt (updAt (spl ncs j) cs p) q = some ms' → (ms' ≠ [] ∨ q = []) →
    ∃ ms, cellsAt cs q = some ms ∧ (ms ≠ [] ∨ q = []) ∧ ms'.length = ms.length ∧ locate w' g o q = locate w g o q := by
  intro p
  induction p with
  | nil =>
    intro cs vs fp g o g' o' ns q ms' h hb hnd hc hne hj hl hw hthru hms hms'
    cases hc
    simp only [locate, Option.some.injEq, Prod.mk.injEq] at hl
    obtain ⟨rfl, rfl⟩ := hl
    cases q with
    | nil =>
      simp only [updAt, cellsAt, Option.some.injEq] at hms
      subst hms
      exact ⟨cs, rfl, .inr rfl, spl_length hj, rfl⟩
    | cons i q =>
      have hi : i < j ∨ j + ncs.length ≤ i := by
        by_cases hi : i < j ∨ j + ncs.length ≤ i
        · exact hi
        · exact absurd ⟨i, rfl, by omega, by omega⟩ hthru
      have e : cellsAt (updAt (spl ncs j) cs []) (i :: q) = cellsAt cs (i :: q) := by
        simp only [updAt, cellsAt]
        rw [spl_out hj hi]
      rw [e] at hms
      refine ⟨ms', hms, hms', rfl, ?_⟩
      simp only [cellsAt] at hms
      cases hci : cs[i]? with
      | none => rw [hci] at hms; cases hms
      | some c =>
        rw [hci] at hms
        cases c with
        | sl n ms =>
          simp only at hms
          obtain ⟨v, f1, fA, fB, hv, h1, rfl, _, _⟩ := h.at_ hci
          have hvl := h.len
          have hb' := hb.wr hw (by omega)
          have hv' : (spl nvs j vs)[i]? = some v := by rw [spl_out (by omega) (by omega)]; exact hv
          simp only [locate, hb.cell hv, hb'.cell hv']
          cases h1 with
          | sl0 hn' h' =>
            exfalso
            cases q with
            | nil => simp [cellsAt] at hms; subst hms; rcases hms' with hms' | hms' <;> simp at hms'
            | cons j p => simp [cellsAt] at hms
          | sl h0 hn' hb2 h1' h2' =>
            rw [List.nodup_cons] at hnd
            refine locate_frame h1' hb2 hms (by
              rcases hms' with hms' | hms'
              · exact .inl hms'
              · simp at hms') fun x hx => hw.other x ?_
            rintro rfl
            refine hnd.1 ?_
            simp only [List.mem_append, List.mem_cons] at hx ⊢
            rcases hx with hx | hx
            · simp [hx]
            · simp [hx]
        | _ => cases hms
  | cons i p ih =>
    intro cs vs fp g o g' o' ns q ms' h hb hnd hc hne hj hl hw hthru hms hms'
    simp only [cellsAt] at hc
    cases hi : cs[i]? with
    | none => rw [hi] at hc; cases hc
    | some c0 =>
      rw [hi] at hc
      cases c0 with
      | sl n ms =>
        simp only at hc
        have hilt := (List.getElem?_eq_some_iff.1 hi).1
        obtain ⟨v0, f0, fA, fB, hv, h0, rfl, hA, hB⟩ := h.at_ hi
        cases h0 with
        | sl0 hn' h' =>
          exfalso
          cases p with
          | nil => simp [cellsAt] at hc; exact hne hc
          | cons j p => simp [cellsAt] at hc
        | @sl g2 o2 c2 _ _ xs fq _ _ fr hne' hn' hb' h1' h2' =>
          cases h2'
          simp only [locate, hb.cell hv] at hl
          rw [List.nodup_cons] at hnd
          have hnd2 := hnd.2
          rw [List.nodup_append, List.nodup_append] at hnd2
          obtain ⟨⟨na, n0, d0⟩, nb, d1⟩ := hnd2
          have n0' : (g2 :: fq).Nodup := by simpa using n0
          obtain ⟨g3, o3, vs3, fp3, hl3, _, _, hsub3⟩ := locate_holds h1' hb' hc (.inl hne)
          rw [hl] at hl3
          cases hl3
          have k5' : g' ∈ g2 :: (fq ++ []) := by simpa using hsub3 g' (by simp)
          have hgne : ∀ x, x ∈ fA ∨ x ∈ fB ∨ x = g → w'.heap[x]? = w.heap[x]? := by
            intro x hx
            apply hw.other
            rintro rfl
            rcases hx with hx | hx | rfl
            · exact d0 x hx x k5' rfl
            · exact d1 x (List.mem_append.2 (.inr k5')) x hx rfl
            · exact hnd.1 (List.mem_append.2 (.inl (List.mem_append.2 (.inr k5'))))
          have hbw := hb.frame (hgne g (.inr (.inr rfl)))
          cases q with
          | nil =>
            simp only [cellsAt, Option.some.injEq] at hms
            subst hms
            refine ⟨cs, rfl, .inr rfl, ?_, rfl⟩
            simp only [updAt, hi]
            simp
          | cons i' q =>
            simp only [updAt, hi, cellsAt] at hms
            by_cases hii : i = i'
            · subst hii
              rw [List.getElem?_set_self hilt] at hms
              simp only at hms
              have hth : ¬ Thru j ncs.length p q := by
                rintro ⟨y, hy, k⟩
                exact hthru ⟨y, by simp [thru, hy], k⟩
              by_cases hmq : ms' ≠ [] ∨ q = []
              · obtain ⟨ms2, q1, q2, q3, q4⟩ := ih h1' hb' n0' hc hne hj hl hw hth hms hmq
                refine ⟨ms2, by simp only [cellsAt, hi]; exact q1, ?_, q3, ?_⟩
                · rcases hms' with hms' | hms'
                  · refine .inl ?_
                    rintro rfl
                    simp at q3
                    exact hms' q3
                  · simp at hms'
                · simp only [locate, hb.cell hv, hbw.cell hv]
                  exact q4
              · rcases hms' with hms' | hms'
                · exact absurd (.inl hms') hmq
                · simp at hms'
            · rw [List.getElem?_set_ne hii] at hms
              refine ⟨ms', by simp only [cellsAt]; exact hms, hms', rfl, ?_⟩
              cases hci : cs[i']? with
              | none => rw [hci] at hms; cases hms
              | some c =>
                rw [hci] at hms
                cases c with
                | sl n1 ms1 =>
                  simp only at hms
                  obtain ⟨v, f1, fC, fD, hv1, h11, hfp, _, _⟩ := h.at_ hci
                  simp only [locate, hb.cell hv1, hbw.cell hv1]
                  cases h11 with
                  | sl0 hn' h' =>
                    exfalso
                    cases q with
                    | nil => simp [cellsAt] at hms; subst hms; rcases hms' with hms' | hms' <;> simp at hms'
                    | cons j p => simp [cellsAt] at hms
                  | @sl g4 o4 c4 _ _ xs4 fq4 _ _ _ h0 hn' hb2 h1'' h2' =>
                    cases h2'
                    have hin : ∀ x ∈ g4 :: fq4, x ∈ fA ∨ x ∈ fB := by
                      -- the cell i' lies on one side of the cell i
                      rcases Nat.lt_or_gt_of_ne hii with hlt | hgt
                      · have hd := hB.at_ (i := i' - (i + 1)) (c := .sl n1 ms1) (by rw [List.getElem?_drop]; rw [show i + 1 + (i' - (i + 1)) = i' by omega]; exact hci)
                        obtain ⟨v', f1', _, _, hv', h1v, rfl, _, _⟩ := hd
                        rw [List.getElem?_drop, show i + 1 + (i' - (i + 1)) = i' by omega, hv1] at hv'
                        cases hv'
                        have hsame : HoldsL true w [.sl n1 ms1] [.slice (some ⟨g4, o4, none⟩) n1 c4] f1' := h1v
                        intro x hx
                        refine .inr ?_
                        have := holds_same hsame (.sl h0 hn' hb2 h1'' .nil)
                        rw [this]
                        simp only [List.mem_append, List.append_nil]
                        exact .inl (.inr hx)
                      · have hd := hA.at_ (i := i') (c := .sl n1 ms1) (by rw [List.getElem?_take, if_pos hgt]; exact hci)
                        obtain ⟨v', f1', _, _, hv', h1v, rfl, _, _⟩ := hd
                        rw [List.getElem?_take, if_pos hgt, hv1] at hv'
                        cases hv'
                        intro x hx
                        refine .inl ?_
                        have := holds_same h1v (.sl h0 hn' hb2 h1'' .nil)
                        rw [this]
                        simp only [List.mem_append, List.append_nil]
                        exact .inl (.inr hx)
                    refine locate_frame h1'' hb2 hms (by
                      rcases hms' with hms' | hms'
                      · exact .inl hms'
                      · simp at hms') fun x hx => hgne x ?_
                    rcases hin x hx with hx | hx
                    · exact .inl hx
                    · exact .inr (.inl hx)
                | _ => cases hms
      | _ => cases hc
end Go.Proofs.YtbdokibepndibaaGreat.Eng
