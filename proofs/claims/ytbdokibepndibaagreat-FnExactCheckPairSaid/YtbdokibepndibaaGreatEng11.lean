/- An interpreter of the model's code over tagged trees, eleventh part: a store into a row, a store into a variable. -/
import Derived.Test.YtbdokibepndibaaGreatEng10
namespace Go.Proofs.YtbdokibepndibaaGreat.Eng
open Go.RowKit

/-- What leads through cells that are written over leads nowhere more. -/
def cutoff (t : Nat) (p : List Nat) (j k : Nat) : A1 → A1
  | .sl u q o n => if u = t then (match thru j k p q with | some i => if j ≤ i ∧ i < j + k then .bad else .sl u q o n | none => .sl u q o n) else .sl u q o n
  | .pr u q o => if u = t then (match thru j k p q with | some i => if j ≤ i ∧ i < j + k then .bad else .pr u q o | none => .pr u q o) else .pr u q o
  | a => a
def A1.via (t : Nat) (j k : Nat) (p : List Nat) : A1 → Prop
  | .sl u q _ _ => u = t ∧ Thru j k p q
  | .pr u q _ => u = t ∧ Thru j k p q
  | _ => False
theorem cutoff_cases (t : Nat) (p : List Nat) (j k : Nat) (x : A1) : cutoff t p j k x = .bad ∨ (cutoff t p j k x = x ∧ ¬ x.via t j k p) := by
  cases x with
  | sl u q o n =>
    simp only [cutoff, A1.via]
    split
    · rename_i hu
      split
      · rename_i i hi
        split
        · exact .inl rfl
        · rename_i hr
          refine .inr ⟨rfl, ?_⟩
          rintro ⟨_, i', hi', h1, h2⟩
          rw [hi] at hi'
          cases hi'
          exact hr ⟨h1, h2⟩
      · rename_i hi
        refine .inr ⟨rfl, ?_⟩
        rintro ⟨_, i', hi', _⟩
        rw [hi] at hi'
        cases hi'
    · rename_i hu
      exact .inr ⟨rfl, fun h => hu h.1⟩
  | pr u q o =>
    simp only [cutoff, A1.via]
    split
    · rename_i hu
      split
      · rename_i i hi
        split
        · exact .inl rfl
        · rename_i hr
          refine .inr ⟨rfl, ?_⟩
          rintro ⟨_, i', hi', h1, h2⟩
          rw [hi] at hi'
          cases hi'
          exact hr ⟨h1, h2⟩
      · rename_i hi
        refine .inr ⟨rfl, ?_⟩
        rintro ⟨_, i', hi', _⟩
        rw [hi] at hi'
        cases hi'
    · rename_i hu
      exact .inr ⟨rfl, fun h => hu h.1⟩
  | _ => exact .inr ⟨rfl, fun h => h⟩
theorem kill_cases (ts : List Nat) (x : A1) : kill ts x = .bad ∨ (kill ts x = x ∧ ∀ t ∈ x.ids, t ∉ ts) := by
  cases x with
  | sl u q o n =>
    simp only [kill]
    split
    · exact .inl rfl
    · rename_i h; exact .inr ⟨rfl, fun t ht => by simp [A1.ids] at ht; subst ht; simpa using h⟩
  | pr u q o =>
    simp only [kill]
    split
    · exact .inl rfl
    · rename_i h; exact .inr ⟨rfl, fun t ht => by simp [A1.ids] at ht; subst ht; simpa using h⟩
  | fn f caps =>
    simp only [kill]
    split
    · exact .inl rfl
    · rename_i h
      simp only [List.any_eq_true, not_exists, not_and, Bool.not_eq_true] at h
      exact .inr ⟨rfl, fun t ht => by have := h t ht; simpa using this⟩
  | _ => exact .inr ⟨rfl, fun t ht => by simp [A1.ids] at ht⟩

/-- A way through cells that lead nowhere leads nowhere. -/
theorem thru_flat {ncs : List Cell} {j : Nat} (hfl : ∀ c ∈ ncs, c.flat = true) : ∀ {p : List Nat} {cs ns : List Cell} {q : List Nat}, cellsAt cs p = some ns → j + ncs.length ≤ ns.length → Thru j ncs.length p q → cellsAt (updAt (spl ncs j) cs p) q = none := by
  intro p
  induction p with
  | nil =>
    intro cs ns q hc hj ⟨i, hi, h1, h2⟩
    cases hc
    cases q with
    | nil => simp [thru] at hi
    | cons i' q =>
      simp only [thru, Option.some.injEq] at hi
      subst hi
      simp only [updAt, cellsAt]
      obtain ⟨k, rfl⟩ : ∃ k, i' = j + k := ⟨i' - j, by omega⟩
      rw [spl_in hj (by omega)]
      have hk : k < ncs.length := by omega
      have hf := hfl ncs[k] (List.getElem_mem hk)
      rw [List.getElem?_eq_getElem hk]
      cases hcc : ncs[k] with
      | sl n ms => rw [hcc] at hf; cases hf
      | _ => rfl
  | cons i0 p ih =>
    intro cs ns q hc hj ⟨i, hi, h1, h2⟩
    simp only [cellsAt] at hc
    cases hi0 : cs[i0]? with
    | none => rw [hi0] at hc; cases hc
    | some c0 =>
      rw [hi0] at hc
      cases c0 with
      | sl n ms =>
        have hlt := (List.getElem?_eq_some_iff.1 hi0).1
        cases q with
        | nil => simp [thru] at hi
        | cons i' q =>
          simp only [thru] at hi
          split at hi
          · rename_i hii
            subst hii
            simp only [updAt, hi0, cellsAt, List.getElem?_set_self hlt]
            exact ih hc hj ⟨i, hi, h1, h2⟩
          · cases hi
      | _ => cases hc

section
variable {P : Program} {F : Own} {w0 : World} {G G' : Gh} {s : St} {a : Act} {w w' : World} {sv : SV} {o : Oper} {m m' : Mem}
/-- Cells of a row written. -/
theorem Rel.store (h : Rel F w0 G s a w) {t sz j g' o' : Nat} {cs ns ncs : List Cell} {p : List Nat} {nvs : List Value} {f1 ts : List Nat} (hm : s.mem t = some (.row sz cs)) (hc : cellsAt cs p = some ns) (hne : ns ≠ [])
    (hj : j + ncs.length ≤ ns.length) (hl : locate w (G.b t) (G.o t) p = some (g', o')) (hw : Wr w w' g' (o' + j) nvs) (hh : HoldsL true w ncs nvs f1) (hnd1 : f1.Nodup)
    (hf1 : ∀ x ∈ f1, ∃ u ∈ ts, x ∈ G.fp u) (hts : ∀ u ∈ ts, ∃ y, s.mem u = some y) (htt : t ∉ ts) {fx : A1 → A1}
    (hfx : ∀ x, fx x = .bad ∨ (fx x = x ∧ (∀ u ∈ x.ids, u ∉ ts) ∧ (¬ x.via t j ncs.length p ∨ ∀ c ∈ ncs, c.flat = true))) :
    ∃ G', Rel F w0 G' ⟨s.slots.map (SV.map fx), upd (mapMem fx fun k => if k ∈ ts then none else s.mem k) t (some (.row sz (updAt (spl ncs j) cs p))), s.up.map (SV.map fx)⟩ a w' ∧ G'.b = G.b ∧ G'.o = G.o ∧ G'.R = G.R := by
  obtain ⟨hsz, vs, fp, k1, k2, k3⟩ := h.inv.ob _ _ hm
  have hndt := h.inv.nd _ _ hm
  rw [k3] at hndt
  have hf1' : ∀ x ∈ f1, x ∉ G.b t :: fp := by
    intro x hx hx'
    obtain ⟨u, hu, hxu⟩ := hf1 x hx
    obtain ⟨y, hy⟩ := hts u hu
    rw [← k3] at hx'
    exact h.inv.apart t u _ _ hm hy (fun e => htt (e ▸ hu)) x hx' hxu
  obtain ⟨vs', fp', q1, q2, q3, q4, q5, q6⟩ := write_many k1 k2 hndt hc hne hj hl hw hh hnd1 hf1'
  have hg't : g' ∈ G.fp t := by rw [k3]; exact q5
  -- blocks that stand
  have keep : ∀ u y, u ≠ t → s.mem u = some y → ∀ g ∈ G.fp u, w'.heap[g]? = w.heap[g]? := by
    intro u y hut hu g hg
    apply hw.other
    rintro rfl
    exact h.inv.apart u t y _ hu hm hut g hg hg't
  have keepR : ∀ g, G.R g → w'.heap[g]? = w.heap[g]? := by
    intro g hg
    apply hw.other
    rintro rfl
    exact h.inv.ro t _ hm g hg't hg
  refine ⟨{ b := G.b, o := G.o, fp := fun u => if u = t then G.b t :: fp' else G.fp u, R := G.R }, ?_, rfl, rfl, rfl⟩
  -- values
  have memu : ∀ u y, u ≠ t → u ∉ ts → s.mem u = some y → upd (mapMem fx fun k => if k ∈ ts then none else s.mem k) t (some (.row sz (updAt (spl ncs j) cs p))) u = some (y.map fx) := by
    intro u y hut huts hu
    simp [upd, hut, mapMem, huts, hu]
  have hbl : ∀ (arr : Array Value) e fr, w.heap[G.b t]? = some (.cells arr e fr) → ∃ arr' e' fr', w'.heap[G.b t]? = some (.cells arr' e' fr') ∧ arr'.size = arr.size := by
    intro arr e fr hb
    by_cases hgb : G.b t = g'
    · obtain ⟨ar, ar', e', e2, z1, z2, z3, _⟩ := hw.row
      rw [hgb, z1] at hb
      cases hb
      exact ⟨ar', _, (0, 0), by rw [hgb]; exact z2, z3⟩
    · exact ⟨arr, e, fr, (hw.other _ hgb).trans hb, rfl⟩
  have hcl : (updAt (spl ncs j) cs p).length = cs.length := by
    have e1 := q1.len
    have e2 := k1.len
    omega
  have hat : ∀ q off A, (¬ Thru j ncs.length p q ∨ ∀ c ∈ ncs, c.flat = true) → At G s.mem w t q off A →
      At { b := G.b, o := G.o, fp := fun u => if u = t then G.b t :: fp' else G.fp u, R := G.R } (upd (mapMem fx fun k => if k ∈ ts then none else s.mem k) t (some (.row sz (updAt (spl ncs j) cs p)))) w' t q off A := by
    rintro q off A hq ⟨z, ds, hz, hn⟩
    rw [hm] at hz
    cases hz
    refine ⟨sz, updAt (spl ncs j) cs p, by simp [upd], fun ms' hms' hne' => ?_⟩
    by_cases hth : Thru j ncs.length p q
    · rcases hq with hq | hq
      · exact absurd hth hq
      · rw [thru_flat hq hc hj hth] at hms'; cases hms'
    · obtain ⟨ms, r1, r2, r3, r4⟩ := write_keeps hh.len k1 k2 hndt hc hne hj hl hw hth hms' hne'
      obtain ⟨g, oo, hl1, hA⟩ := hn ms r1 r2
      exact ⟨g, oo, by simp only; rw [r4]; exact hl1, hA⟩
  have conv : ∀ x v, A1Rel G s.mem w x v → A1Rel { b := G.b, o := G.o, fp := fun u => if u = t then G.b t :: fp' else G.fp u, R := G.R } (upd (mapMem fx fun k => if k ∈ ts then none else s.mem k) t (some (.row sz (updAt (spl ncs j) cs p)))) w' (fx x) v := by
    intro x v hx
    rcases hfx x with e | ⟨e, hids, hvia⟩
    · rw [e]; exact hx.one
    · rw [e]
      by_cases htx : t ∈ x.ids
      · cases x with
        | sl u q off n =>
          simp [A1.ids] at htx
          subst htx
          have hvia' : ¬ Thru j ncs.length p q ∨ ∀ c ∈ ncs, c.flat = true := hvia.imp (fun hv hth => hv ⟨rfl, hth⟩) id
          obtain ⟨A, c, rfl, hn, ⟨z, ds, hz, hcov⟩, h2, h3⟩ := hx
          rw [hm] at hz
          cases hz
          refine ⟨A, c, rfl, hn, ⟨sz, updAt (spl ncs j) cs p, by simp [upd], fun hp => by rw [hcl]; exact hcov hp⟩, h2.imp id (hat q off A hvia'), fun hp sz1 cs1 hm1 hc1 => ?_⟩
          simp [upd] at hm1
          obtain ⟨rfl, rfl⟩ := hm1
          obtain ⟨arr, e, fr, z1, z2⟩ := h3 hp sz cs hm hc1
          obtain ⟨arr', e', fr', y1, y2⟩ := hbl arr e fr z1
          exact ⟨arr', e', fr', y1, by rw [y2]; exact z2⟩
        | pr u q off =>
          simp [A1.ids] at htx
          subst htx
          have hvia' : ¬ Thru j ncs.length p q ∨ ∀ c ∈ ncs, c.flat = true := hvia.imp (fun hv hth => hv ⟨rfl, hth⟩) id
          obtain ⟨A, rfl, hx⟩ := hx
          rcases hx with hx | ⟨as_, hz, _⟩
          · exact ⟨A, rfl, .inl (hat q off _ hvia' hx)⟩
          · rw [hm] at hz; cases hz
        | fn f caps =>
          obtain ⟨_, hx⟩ := hx
          obtain ⟨as_, hz⟩ := hx t htx
          rw [hm] at hz; cases hz
        | _ => simp [A1.ids] at htx
      · have h2 : A1Rel G s.mem w' x v := hx.frame h.inv (fun u hu g hg => by
          obtain ⟨y, hy⟩ := hx.dom u hu
          exact keep u y (fun e => htx (e ▸ hu)) hy g hg) keepR
        refine h2.congr (fun u hu y hy => ⟨rfl, rfl, y.map fx, memu u y (fun e => htx (e ▸ hu)) (hids u hu) hy, like_map _ _⟩) (fun _ h => h)
  have get : ∀ u y, upd (mapMem fx fun k => if k ∈ ts then none else s.mem k) t (some (.row sz (updAt (spl ncs j) cs p))) u = some y → (u = t ∧ y = .row sz (updAt (spl ncs j) cs p)) ∨ (u ≠ t ∧ u ∉ ts ∧ ∃ z, s.mem u = some z ∧ y = z.map fx) := by
    intro u y hy
    unfold upd at hy
    split at hy
    · rename_i hut; cases hy; exact .inl ⟨hut, rfl⟩
    · rename_i hut
      simp only [mapMem] at hy
      split at hy
      · cases hy
      · rename_i huts
        obtain ⟨z, hz, rfl⟩ := Option.map_eq_some_iff.1 hy
        exact .inr ⟨hut, huts, z, hz, rfl⟩
  have hin : ∀ x ∈ G.b t :: fp', x ∈ G.fp t ∨ ∃ u ∈ ts, x ∈ G.fp u := by
    intro x hx
    simp only [List.mem_cons] at hx
    rcases hx with rfl | hx
    · exact .inl (by rw [k3]; simp)
    · rcases q4 x hx with hx | hx
      · exact .inl (by rw [k3]; simp [hx])
      · exact .inr (hf1 x hx)
  have apt : ∀ u y, u ≠ t → u ∉ ts → s.mem u = some y → ∀ x ∈ G.b t :: fp', x ∉ G.fp u := by
    intro u y hut huts hu x hx hxu
    rcases hin x hx with hx | ⟨z, hz, hx⟩
    · exact h.inv.apart t u _ _ hm hu (fun e => hut e.symm) x hx hxu
    · obtain ⟨q, hq⟩ := hts z hz
      exact h.inv.apart z u _ _ hq hu (fun e => huts (e ▸ hz)) x hx hxu
  refine ⟨h.defers, h.slots.mapL (fun s v hs => SRel.mapA conv hs), h.up.mapL (fun s v hs => SRel.mapA conv hs), h.rr, ⟨?_, ?_, ?_, ?_, ?_⟩, ?_, ?_⟩
  · intro u y hy
    rcases get u y hy with ⟨rfl, rfl⟩ | ⟨hut, huts, z, hz, rfl⟩
    · exact ⟨hsz, vs', fp', q1, q2, by simp⟩
    · have hob := h.inv.ob u z hz
      have hk := keep u z hut hz
      cases z with
      | row sz' cs' =>
        obtain ⟨h0, vs1, fq, h1, h2, h3⟩ := hob
        exact ⟨h0, vs1, fq, h1.frame fun g hx => hk g (by rw [h3]; simp [hx]), h2.frame (hk _ (by rw [h3]; simp)), by simp [hut, h3]⟩
      | box as_ =>
        obtain ⟨vs1, ar, e, h1, h2, h3, h4⟩ := hob
        exact ⟨vs1, ar, e, (hk _ (by rw [h4]; simp)).trans h1, h2, h3.mapL conv, by simp [hut, h4]⟩
  · intro u y hy
    rcases get u y hy with ⟨rfl, rfl⟩ | ⟨hut, huts, z, hz, rfl⟩
    · simpa using q3
    · simp only [if_neg hut]; exact h.inv.nd u z hz
  · intro u u' y y' hy hy' hne' g hg
    rcases get u y hy with ⟨rfl, rfl⟩ | ⟨hut, huts, z, hz, rfl⟩
    · rcases get u' y' hy' with ⟨rfl, rfl⟩ | ⟨hut', huts', z', hz', rfl⟩
      · exact absurd rfl hne'
      · simp only [if_true] at hg
        simp only [if_neg hut']
        exact apt u' z' hut' huts' hz' g hg
    · simp only [if_neg hut] at hg
      rcases get u' y' hy' with ⟨rfl, rfl⟩ | ⟨hut', huts', z', hz', rfl⟩
      · simp only [if_true]
        exact fun hin' => apt u z hut huts hz g hin' hg
      · simp only [if_neg hut']
        exact h.inv.apart u u' z z' hz hz' hne' g hg
  · intro u y hy g hg
    rcases get u y hy with ⟨rfl, rfl⟩ | ⟨hut, huts, z, hz, rfl⟩
    · simp only [if_true] at hg
      rcases hin g hg with hg | ⟨v, hv, hg⟩
      · exact h.inv.ro _ _ hm g hg
      · obtain ⟨q, hq⟩ := hts v hv
        exact h.inv.ro _ _ hq g hg
    · simp only [if_neg hut] at hg
      exact h.inv.ro u z hz g hg
  · intro g hg
    rw [hw.size]
    exact h.inv.lt g hg
  · refine ⟨hw.os.trans h.fr.os, hw.tape.trans h.fr.tape, hw.output.trans h.fr.output, by rw [hw.size]; exact h.fr.size, fun g hg hF => ?_⟩
    rw [hw.other g fun e => ?_]
    · exact h.fr.block g hg hF
    · subst e
      rcases h.own _ _ hm g hg't with k | k
      · exact hF k
      · omega
  · intro u y hy g hg
    rcases get u y hy with ⟨rfl, rfl⟩ | ⟨hut, huts, z, hz, rfl⟩
    · simp only [if_true] at hg
      rcases hin g hg with hg | ⟨v, hv, hg⟩
      · exact h.own _ _ hm g hg
      · obtain ⟨q, hq⟩ := hts v hv
        exact h.own _ _ hq g hg
    · simp only [if_neg hut] at hg
      exact h.own u z hz g hg
/-- Cells of a variable written. -/
theorem Rel.storeBox (h : Rel F w0 G s a w) {t j : Nat} {as_ bs : List A1} {nvs : List Value} (hm : s.mem t = some (.box as_)) (hj : j + bs.length ≤ as_.length) (hw : Wr w w' (G.b t) j nvs) (hr : All2 (A1Rel G s.mem w) bs nvs) :
    Rel F w0 G ⟨s.slots, upd s.mem t (some (.box (spl bs j as_))), s.up⟩ a w' ∧ ∀ x v, A1Rel G s.mem w x v → A1Rel G (upd s.mem t (some (.box (spl bs j as_)))) w' x v := by
  obtain ⟨vs, arr, e, k1, k2, k3, k4⟩ := h.inv.ob _ _ hm
  have keep : ∀ u y, u ≠ t → s.mem u = some y → ∀ g ∈ G.fp u, w'.heap[g]? = w.heap[g]? := by
    intro u y hut hu g hg
    apply hw.other
    rintro rfl
    exact h.inv.apart u t y _ hu hm hut _ hg (by rw [k4]; simp)
  have keepR : ∀ g, G.R g → w'.heap[g]? = w.heap[g]? := by
    intro g hg
    apply hw.other
    rintro rfl
    exact h.inv.ro t _ hm _ (by rw [k4]; simp) hg
  have memt : ∀ u y, s.mem u = some y → ∃ z, upd s.mem t (some (.box (spl bs j as_))) u = some z ∧ Ob.like y z := by
    intro u y hu
    by_cases hut : u = t
    · subst hut
      rw [hm] at hu
      cases hu
      exact ⟨.box (spl bs j as_), by simp [upd], trivial⟩
    · refine ⟨y, by simp [upd, hut, hu], ?_⟩
      cases y
      · exact ⟨rfl, rfl⟩
      · exact trivial
  have conv : ∀ x v, A1Rel G s.mem w x v → A1Rel G (upd s.mem t (some (.box (spl bs j as_)))) w' x v := by
    intro x v hx
    have h2 : A1Rel G s.mem w' x v := by
      by_cases htx : t ∈ x.ids
      · cases x with
        | sl u q off n =>
          simp [A1.ids] at htx
          subst htx
          obtain ⟨A, c, _, _, ⟨z, ds, hz, _⟩, _⟩ := hx
          rw [hm] at hz; cases hz
        | pr u q off =>
          simp [A1.ids] at htx
          subst htx
          obtain ⟨A, rfl, hx⟩ := hx
          rcases hx with ⟨z, ds, hz, _⟩ | hx
          · rw [hm] at hz; cases hz
          · exact ⟨A, rfl, .inr hx⟩
        | fn f caps => exact hx
        | _ => simp [A1.ids] at htx
      · exact hx.frame h.inv (fun u hu g hg => by
          obtain ⟨y, hy⟩ := hx.dom u hu
          exact keep u y (fun e => htx (e ▸ hu)) hy g hg) keepR
    exact h2.congr (fun u hu y hy => ⟨rfl, rfl, memt u y hy⟩) (fun _ h => h)
  have get : ∀ u y, upd s.mem t (some (.box (spl bs j as_))) u = some y → (u = t ∧ y = .box (spl bs j as_)) ∨ (u ≠ t ∧ s.mem u = some y) := by
    intro u y hy
    unfold upd at hy
    split at hy
    · rename_i hut; cases hy; exact .inl ⟨hut, rfl⟩
    · rename_i hut; exact .inr ⟨hut, hy⟩
  have domOf : ∀ u y, upd s.mem t (some (.box (spl bs j as_))) u = some y → ∃ z, s.mem u = some z := by
    intro u y hy
    rcases get u y hy with ⟨rfl, rfl⟩ | ⟨_, hu⟩
    · exact ⟨_, hm⟩
    · exact ⟨_, hu⟩
  have hnl := hr.1
  have hal := k3.1
  refine ⟨?_, conv⟩
  refine ⟨h.defers, h.slots.imp (fun s v hs => SRel.imp conv hs), h.up.imp (fun s v hs => SRel.imp conv hs), h.rr, ⟨?_, ?_, ?_, ?_, ?_⟩, ?_, ?_⟩
  · intro u y hy
    rcases get u y hy with ⟨rfl, rfl⟩ | ⟨hut, hu⟩
    · obtain ⟨ar, ar', e', e2, z1, z2, z3, z4, z5⟩ := hw.row
      rw [k1] at z1
      cases z1
      refine ⟨spl nvs j vs, ar', _, z2, ?_, ?_, k4⟩
      · apply Array.ext'
        apply List.ext_getElem?
        intro i
        have hvl : vs.length = arr.size := by rw [k2]; simp
        by_cases hi : i < j ∨ j + nvs.length ≤ i
        · have e1 : (spl nvs j vs)[i]? = vs[i]? := spl_out (by omega) hi
          rw [Array.getElem?_toList, z4 i hi, k2]
          simp [e1]
        · obtain ⟨i', rfl⟩ : ∃ i', i = j + i' := ⟨i - j, by omega⟩
          have hi' : i' < nvs.length := by omega
          have e1 : (spl nvs j vs)[j + i']? = nvs[i']? := spl_in (by omega) hi'
          rw [Array.getElem?_toList, z5 i' nvs[i'] (by simp)]
          simp [e1, hi']
      · have := ((k3.imp conv).take j).append (hr.imp conv) |>.append ((k3.imp conv).drop (j + bs.length))
        simp only [spl]
        rw [← hnl]
        exact this
    · have hob := h.inv.ob u y hu
      have hk := keep u y hut hu
      cases y with
      | row sz' cs' =>
        obtain ⟨h0, vs1, fq, h1, h2, h3⟩ := hob
        exact ⟨h0, vs1, fq, h1.frame fun g hx => hk g (by rw [h3]; simp [hx]), h2.frame (hk _ (by rw [h3]; simp)), h3⟩
      | box as2 =>
        obtain ⟨vs1, ar, e, h1, h2, h3, h4⟩ := hob
        exact ⟨vs1, ar, e, (hk _ (by rw [h4]; simp)).trans h1, h2, h3.imp conv, h4⟩
  · intro u y hy; obtain ⟨z, hz⟩ := domOf u y hy; exact h.inv.nd u z hz
  · intro u u' y y' hy hy' hne g hg
    obtain ⟨z, hz⟩ := domOf u y hy
    obtain ⟨z', hz'⟩ := domOf u' y' hy'
    exact h.inv.apart u u' z z' hz hz' hne g hg
  · intro u y hy g hg; obtain ⟨z, hz⟩ := domOf u y hy; exact h.inv.ro u z hz g hg
  · intro g hg; rw [hw.size]; exact h.inv.lt g hg
  · refine ⟨hw.os.trans h.fr.os, hw.tape.trans h.fr.tape, hw.output.trans h.fr.output, by rw [hw.size]; exact h.fr.size, fun g hg hF => ?_⟩
    rw [hw.other g fun e => ?_]
    · exact h.fr.block g hg hF
    · subst e
      rcases h.own _ _ hm (G.b t) (by rw [k4]; simp) with k | k
      · exact hF k
      · omega
  · intro u y hy g hg; obtain ⟨z, hz⟩ := domOf u y hy; exact h.own u z hz g hg
end
end Go.Proofs.YtbdokibepndibaaGreat.Eng
