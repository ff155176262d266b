/- An interpreter of the model's code over tagged trees, eighth part: a new row, a new variable. -/
import Derived.Test.YtbdokibepndibaaGreatEng7
namespace Go.Proofs.YtbdokibepndibaaGreat.Eng
open Go.RowKit

theorem kill_nil (x : A1) : kill [] x = x := by
  cases x with
  | fn f caps =>
    simp only [kill]
    rw [if_neg]
    simp
  | _ => rfl
theorem kill_nil' : kill [] = id := funext kill_nil
theorem Ob.map_id (x : Ob) : x.map id = x := by cases x <;> simp [Ob.map]
theorem SV.map_id (x : SV) : x.map id = x := by cases x <;> simp [SV.map]
theorem mapMem_id (m : Mem) : mapMem id m = m := by
  funext k
  simp only [mapMem]
  cases m k with
  | none => rfl
  | some x => simp [Ob.map_id]

/-- A block laid behind all others. -/
structure Pushed (w w' : World) (arr : Array Value) : Prop where
  os : w'.os = w.os
  tape : w'.tape = w.tape
  output : w'.output = w.output
  heap : ∃ e, w'.heap = w.heap.push (.cells arr e (0, 0))
theorem Pushed.grows {w w' : World} {arr : Array Value} (h : Pushed w w' arr) : Grows w w' := by
  obtain ⟨e, he⟩ := h.heap
  intro g hg
  rw [he, Array.getElem?_push, if_neg (by omega)]
theorem Pushed.size {w w' : World} {arr : Array Value} (h : Pushed w w' arr) : w'.heap.size = w.heap.size + 1 := by
  obtain ⟨e, he⟩ := h.heap
  rw [he]; simp
theorem Pushed.new {w w' : World} {arr : Array Value} (h : Pushed w w' arr) : ∃ e, w'.heap[w.heap.size]? = some (.cells arr e (0, 0)) := by
  obtain ⟨e, he⟩ := h.heap
  exact ⟨e, by rw [he]; simp⟩

def Gh.put (G : Gh) (d b o : Nat) (fp : List Nat) : Gh :=
  { b := fun t => if t = d then b else G.b t, o := fun t => if t = d then o else G.o t, fp := fun t => if t = d then fp else G.fp t, R := G.R }

section
variable {P : Program} {F : Own} {w0 : World} {G G' : Gh} {s : St} {a : Act} {w w' : World} {sv : SV} {o : Oper} {m m' : Mem}
theorem ObRel.lt {t : Nat} {x : Ob} (h : ObRel G m w t x) : ∀ g ∈ G.fp t, g < w.heap.size := by
  intro g hg
  cases x with
  | row sz cs =>
    obtain ⟨_, vs, fp, h1, h2, h3⟩ := h
    rw [h3] at hg
    simp only [List.mem_cons] at hg
    rcases hg with rfl | hg
    · exact h2.lt
    · exact h1.lt g hg
  | box as_ =>
    obtain ⟨vs, arr, e, h1, _, _, h4⟩ := h
    rw [h4] at hg
    simp only [List.mem_singleton] at hg
    subst hg
    exact (Array.getElem?_eq_some_iff.1 h1).1

/-- What is left of the rows when those of ts have gone elsewhere. -/
def rest (ts : List Nat) (m : Mem) : Mem := mapMem (kill ts) fun k => if k ∈ ts then none else m k
theorem rest_some {ts : List Nat} {t : Nat} {x : Ob} (h : rest ts m t = some x) : t ∉ ts ∧ ∃ y, m t = some y ∧ x = y.map (kill ts) := by
  simp only [rest, mapMem] at h
  split at h
  · cases h
  · rename_i ht
    obtain ⟨y, hy, rfl⟩ := Option.map_eq_some_iff.1 h
    exact ⟨ht, y, hy, rfl⟩
theorem rest_of {ts : List Nat} {t : Nat} {y : Ob} (ht : t ∉ ts) (h : m t = some y) : rest ts m t = some (y.map (kill ts)) := by
  simp [rest, mapMem, ht, h]
theorem like_map (x : Ob) (f : A1 → A1) : Ob.like x (x.map f) := by
  cases x
  · exact ⟨rfl, rfl⟩
  · exact trivial
/-- One more row or variable, others gone into it: all that stays stands. -/
theorem Rel.new (h : Rel F w0 G s a w) {ts : List Nat} {d : Nat} {x : Ob} {arr : Array Value} {fp : List Nat} (hd : s.mem d = none) (hp : Pushed w w' arr) (hnd : fp.Nodup)
    (hfp : ∀ y ∈ fp, ∃ t ∈ ts, y ∈ G.fp t) (hts : ∀ t ∈ ts, ∃ y, s.mem t = some y)
    (hx : ∀ m', m' = upd (rest ts s.mem) d (some x) → ObRel (G.put d w.heap.size 0 (w.heap.size :: fp)) m' w' d x) :
    Rel F w0 (G.put d w.heap.size 0 (w.heap.size :: fp)) ⟨s.slots.map (SV.map (kill ts)), upd (rest ts s.mem) d (some x), s.up.map (SV.map (kill ts))⟩ a w' := by
  have hg := hp.grows
  have hsz := hp.size
  have conv : ∀ y v, A1Rel G s.mem w y v → A1Rel (G.put d w.heap.size 0 (w.heap.size :: fp)) (upd (rest ts s.mem) d (some x)) w' (kill ts y) v := by
    intro y v hy
    have : A1Rel (G.put d w.heap.size 0 (w.heap.size :: fp)) (upd (rest ts s.mem) d (some x)) w (kill ts y) v := by
      refine hy.kill (fun t ht z hz => ?_) (fun _ h => h)
      have htd : t ≠ d := by rintro rfl; rw [hd] at hz; cases hz
      exact ⟨by simp [Gh.put, htd], by simp [Gh.put, htd], z.map (kill ts), by simp [upd, htd, rest_of ht hz], like_map _ _⟩
    exact this.grows hg (by exact h.inv.lt)
  have get : ∀ t y, upd (rest ts s.mem) d (some x) t = some y → (t = d ∧ y = x) ∨ (t ≠ d ∧ t ∉ ts ∧ ∃ z, s.mem t = some z ∧ y = z.map (kill ts)) := by
    intro t y hy
    unfold upd at hy
    split at hy
    · rename_i htd; cases hy; exact .inl ⟨htd, rfl⟩
    · rename_i htd; obtain ⟨k1, k2⟩ := rest_some hy; exact .inr ⟨htd, k1, k2⟩
  have fpd : (G.put d w.heap.size 0 (w.heap.size :: fp)).fp d = w.heap.size :: fp := by simp [Gh.put]
  have fpo : ∀ t, t ≠ d → (G.put d w.heap.size 0 (w.heap.size :: fp)).fp t = G.fp t := fun t ht => by simp [Gh.put, ht]
  have fplt : ∀ y ∈ fp, y < w.heap.size := by
    intro y hy
    obtain ⟨t, ht, hyt⟩ := hfp y hy
    obtain ⟨z, hz⟩ := hts t ht
    exact (h.inv.ob t z hz).lt y hyt
  refine ⟨h.defers, h.slots.mapL (fun s v hs => SRel.mapA conv hs), h.up.mapL (fun s v hs => SRel.mapA conv hs), h.rr, ?_, ?_, ?_⟩
  · refine ⟨?_, ?_, ?_, ?_, ?_⟩
    · intro t y hy
      rcases get t y hy with ⟨rfl, rfl⟩ | ⟨htd, hts', z, hz, rfl⟩
      · exact hx _ rfl
      · have hob := h.inv.ob t z hz
        cases z with
        | row sz cs =>
          obtain ⟨h0, vs, fq, h1, h2, h3⟩ := hob
          refine ⟨h0, vs, fq, h1.frame fun g hx => hg g (h1.lt g hx), ?_, ?_⟩
          · simp only [Gh.put, if_neg htd]; exact h2.frame (hg _ h2.lt)
          · rw [fpo t htd, h3]; simp [Gh.put, htd]
        | box as_ =>
          obtain ⟨vs, ar, e, h1, h2, h3, h4⟩ := hob
          refine ⟨vs, ar, e, ?_, h2, h3.mapL conv, ?_⟩
          · simp only [Gh.put, if_neg htd]; exact (hg _ (Array.getElem?_eq_some_iff.1 h1).1).trans h1
          · rw [fpo t htd, h4]; simp [Gh.put, htd]
    · intro t y hy
      rcases get t y hy with ⟨rfl, rfl⟩ | ⟨htd, hts', z, hz, rfl⟩
      · rw [fpd, List.nodup_cons]
        exact ⟨fun hin => absurd (fplt _ hin) (Nat.lt_irrefl _), hnd⟩
      · rw [fpo t htd]; exact h.inv.nd t z hz
    · intro t t' y y' hy hy' hne g hgt
      rcases get t y hy with ⟨rfl, rfl⟩ | ⟨htd, hts', z, hz, rfl⟩
      · rcases get t' y' hy' with ⟨rfl, rfl⟩ | ⟨htd', hts'', z', hz', rfl⟩
        · exact absurd rfl hne
        · rw [fpo t' htd']
          rw [fpd] at hgt
          simp only [List.mem_cons] at hgt
          rcases hgt with rfl | hgt
          · exact fun hin => absurd ((h.inv.ob t' z' hz').lt _ hin) (Nat.lt_irrefl _)
          · obtain ⟨u, hu, hgu⟩ := hfp g hgt
            obtain ⟨q, hq⟩ := hts u hu
            exact h.inv.apart u t' q z' hq hz' (fun e => hts'' (e ▸ hu)) g hgu
      · rw [fpo t htd] at hgt
        rcases get t' y' hy' with ⟨rfl, rfl⟩ | ⟨htd', hts'', z', hz', rfl⟩
        · rw [fpd]
          intro hin
          simp only [List.mem_cons] at hin
          rcases hin with rfl | hin
          · exact absurd ((h.inv.ob t z hz).lt _ hgt) (Nat.lt_irrefl _)
          · obtain ⟨u, hu, hgu⟩ := hfp g hin
            obtain ⟨q, hq⟩ := hts u hu
            exact h.inv.apart t u z q hz hq (fun e => hts' (e ▸ hu)) g hgt hgu
        · rw [fpo t' htd']
          exact h.inv.apart t t' z z' hz hz' hne g hgt
    · intro t y hy g hgt
      rcases get t y hy with ⟨rfl, rfl⟩ | ⟨htd, hts', z, hz, rfl⟩
      · rw [fpd] at hgt
        simp only [List.mem_cons] at hgt
        rcases hgt with rfl | hgt
        · exact fun hr => absurd (h.inv.lt _ hr) (Nat.lt_irrefl _)
        · obtain ⟨u, hu, hgu⟩ := hfp g hgt
          obtain ⟨q, hq⟩ := hts u hu
          exact h.inv.ro u q hq g hgu
      · rw [fpo t htd] at hgt
        exact h.inv.ro t z hz g hgt
    · intro g hr
      have := h.inv.lt g hr
      omega
  · refine ⟨hp.os.trans h.fr.os, hp.tape.trans h.fr.tape, hp.output.trans h.fr.output, by have := h.fr.size; omega, fun g hg' hF => ?_⟩
    rw [hg g (by have := h.fr.size; omega)]
    exact h.fr.block g hg' hF
  · intro t y hy g hgt
    rcases get t y hy with ⟨rfl, rfl⟩ | ⟨htd, hts', z, hz, rfl⟩
    · rw [fpd] at hgt
      simp only [List.mem_cons] at hgt
      rcases hgt with rfl | hgt
      · exact .inr h.fr.size
      · obtain ⟨u, hu, hgu⟩ := hfp g hgt
        obtain ⟨q, hq⟩ := hts u hu
        exact h.own u q hq g hgu
    · rw [fpo t htd] at hgt
      exact h.own t z hz g hgt
/-- A new row. -/
theorem Rel.newRow (h : Rel F w0 G s a w) {ts : List Nat} {d sz : Nat} {cs : List Cell} {vs : List Value} {arr : Array Value} {fp : List Nat} (hd : s.mem d = none) (hp : Pushed w w' arr) (hsz : 0 < sz)
    (hh : HoldsL true w cs vs fp) (hnd : fp.Nodup) (hfp : ∀ y ∈ fp, ∃ t ∈ ts, y ∈ G.fp t) (hts : ∀ t ∈ ts, ∃ y, s.mem t = some y) (ha : ∀ (j : Nat) (x : Value), vs[j]? = some x → arr[j]? = some x)
    {n c : Nat} (hn : n ≤ c) (hc1 : cs.length ≤ c * sz) (hc2 : c * sz ≤ arr.size) (hcm : c ≤ 9223372036854775807) :
    Rel F w0 (G.put d w.heap.size 0 (w.heap.size :: fp)) ⟨s.slots.map (SV.map (kill ts)), upd (rest ts s.mem) d (some (.row sz cs)), s.up.map (SV.map (kill ts))⟩ a w' ∧
    A1Rel (G.put d w.heap.size 0 (w.heap.size :: fp)) (upd (rest ts s.mem) d (some (.row sz cs))) w' (.sl d [] 0 n) (.slice (some ⟨w.heap.size, 0, none⟩) n c) := by
  obtain ⟨e, he⟩ := hp.new
  refine ⟨h.new hd hp hnd hfp hts fun m' hm' => ⟨hsz, vs, fp, hh.frame fun g hg => hp.grows g (hh.lt g hg), ?_, by simp [Gh.put]⟩, ?_⟩
  · simp only [Gh.put, if_true]
    exact ⟨arr, e, (0, 0), he, fun _ => rfl, fun j x hx => by rw [Nat.zero_add]; exact ha j x hx⟩
  · refine ⟨_, c, rfl, ⟨hn, fun h => by cases h⟩, ⟨sz, cs, by simp [upd], fun _ => by omega⟩, .inr ⟨sz, cs, by simp [upd], fun ns _ _ => ⟨w.heap.size, 0, by simp [locate, Gh.put], by simp⟩⟩, fun _ sz1 cs1 hm1 _ => ?_⟩
    simp [upd] at hm1
    obtain ⟨rfl, rfl⟩ := hm1
    exact ⟨arr, e, (0, 0), by simp [Gh.put, he], by simp [Gh.put]; omega, hcm⟩
/-- A new variable. -/
theorem Rel.newBox (h : Rel F w0 G s a w) {d : Nat} {as_ : List A1} {vs : List Value} (hd : s.mem d = none) (hp : Pushed w w' vs.toArray) (hr : All2 (A1Rel G s.mem w) as_ vs) :
    Rel F w0 (G.put d w.heap.size 0 [w.heap.size]) ⟨s.slots, upd s.mem d (some (.box as_)), s.up⟩ a w' ∧
    A1Rel (G.put d w.heap.size 0 [w.heap.size]) (upd s.mem d (some (.box as_))) w' (.pr d [] 0) (.pointer (some ⟨w.heap.size, 0, none⟩)) := by
  obtain ⟨e, he⟩ := hp.new
  have e1 : rest [] s.mem = s.mem := by
    simp only [rest, kill_nil']
    rw [mapMem_id]
    simp
  have e2 : s.slots.map (SV.map (kill [])) = s.slots := by
    rw [kill_nil', show SV.map id = id from funext SV.map_id]
    simp
  have e3 : s.up.map (SV.map (kill [])) = s.up := by
    rw [kill_nil', show SV.map id = id from funext SV.map_id]
    simp
  have := h.new (ts := []) (d := d) (x := .box as_) (arr := vs.toArray) (fp := []) (w' := w') hd hp (by simp) (by simp) (by simp) (fun m' hm' => by
    refine ⟨vs, vs.toArray, e, by simp [Gh.put, he], rfl, hr.imp fun x v hx => ?_, by simp [Gh.put]⟩
    have : A1Rel (G.put d w.heap.size 0 [w.heap.size]) m' w x v := by
      refine hx.congr (fun t _ z hz => ?_) (fun _ h => h)
      have htd : t ≠ d := by rintro rfl; rw [hd] at hz; cases hz
      refine ⟨by simp [Gh.put, htd], by simp [Gh.put, htd], z, ?_, ?_⟩
      · rw [hm', e1]; simp [upd, htd, hz]
      · cases z
        · exact ⟨rfl, rfl⟩
        · exact trivial
    exact this.grows hp.grows (by exact h.inv.lt))
  rw [e1, e2, e3] at this
  refine ⟨this, _, rfl, .inr ⟨as_, by simp [upd], rfl, by simp [Gh.put]⟩⟩
end
end Go.Proofs.YtbdokibepndibaaGreat.Eng
