/- An interpreter of the model's code over tagged trees, seventh part: rows that go into others, new rows. -/
import Derived.Test.YtbdokibepndibaaGreatEng6
namespace Go.Proofs.YtbdokibepndibaaGreat.Eng
open Go.RowKit

def A1.ids : A1 → List Nat
  | .sl t _ _ _ => [t]
  | .pr t _ _ => [t]
  | .fn _ caps => caps
  | _ => []
/-- One row is the other; a variable is a variable. -/
def Ob.like : Ob → Ob → Prop
  | .row sz cs, .row sz' cs' => sz = sz' ∧ cs = cs'
  | .box _, .box _ => True
  | _, _ => False
section
variable {P : Program} {F : Own} {w0 : World} {G G' : Gh} {s : St} {a : Act} {w : World} {sv : SV} {o : Oper} {m m' : Mem}
theorem like_row {sz : Nat} {cs : List Cell} {y : Ob} (h : Ob.like (.row sz cs) y) : y = .row sz cs := by
  cases y with
  | row sz' cs' => obtain ⟨rfl, rfl⟩ := h; rfl
  | box _ => cases h
theorem like_box {as_ : List A1} {y : Ob} (h : Ob.like (.box as_) y) : ∃ bs, y = .box bs := by
  cases y with
  | row _ _ => cases h
  | box bs => exact ⟨bs, rfl⟩
theorem A1Rel.congr {x : A1} {v : Value} (h : A1Rel G m w x v) (hG : ∀ t ∈ x.ids, ∀ z, m t = some z → G'.b t = G.b t ∧ G'.o t = G.o t ∧ ∃ y, m' t = some y ∧ Ob.like z y) (hR : ∀ g, G.R g → G'.R g) : A1Rel G' m' w x v := by
  have hat : ∀ t p off A, t ∈ x.ids → At G m w t p off A → At G' m' w t p off A := by
    rintro t p off A ht ⟨sz, cs, hm, hn⟩
    obtain ⟨e1, e2, y, hy, hl⟩ := hG t ht _ hm
    obtain rfl := like_row hl
    refine ⟨sz, cs, hy, fun ns hns hne => ?_⟩
    rw [e1, e2]
    exact hn ns hns hne
  cases x with
  | sl t p off n =>
    obtain ⟨A, c, rfl, hn, ⟨sz, cs, hm, hcov⟩, h2, h3⟩ := h
    obtain ⟨e1, e2, y, hy, hl⟩ := hG t (by simp [A1.ids]) _ hm
    obtain rfl := like_row hl
    refine ⟨A, c, rfl, hn, ⟨sz, cs, hy, hcov⟩, h2.imp id (hat t p off A (by simp [A1.ids])), fun hp sz1 cs1 hm1 hc => ?_⟩
    rw [hy] at hm1
    cases hm1
    rw [e1, e2]
    exact h3 hp sz cs hm hc
  | ro n cs =>
    obtain ⟨A, c, rfl, hn, h⟩ := h
    exact ⟨A, c, rfl, hn, h.frame hR fun _ _ => rfl⟩
  | pr t p off =>
    obtain ⟨A, rfl, h⟩ := h
    refine ⟨A, rfl, ?_⟩
    rcases h with h | ⟨as_, hm, hp, hA⟩
    · exact .inl (hat t p off _ (by simp [A1.ids]) h)
    · obtain ⟨e1, e2, y, hy, hl⟩ := hG t (by simp [A1.ids]) _ hm
      obtain ⟨bs, rfl⟩ := like_box hl
      exact .inr ⟨bs, hy, hp, by rw [e1]; exact hA⟩
  | pc cs =>
    obtain ⟨A, rfl, h⟩ := h
    exact ⟨A, rfl, h.frame hR fun _ _ => rfl⟩
  | rx n cs =>
    obtain ⟨A, rfl, hn, h⟩ := h
    exact ⟨A, rfl, hn, h.frame hR fun _ _ => rfl⟩
  | fn f caps =>
    obtain ⟨rfl, h⟩ := h
    refine ⟨?_, fun t ht => ?_⟩
    · congr 2
      apply List.map_congr_left
      intro t ht
      obtain ⟨as_, hm⟩ := h t ht
      obtain ⟨e1, _⟩ := hG t ht _ hm
      rw [e1]
    · obtain ⟨as_, hm⟩ := h t ht
      obtain ⟨_, _, y, hy, hl⟩ := hG t ht _ hm
      obtain ⟨bs, rfl⟩ := like_box hl
      exact ⟨bs, hy⟩
  | _ => exact h
theorem A1Rel.kill {ts : List Nat} {x : A1} {v : Value} (h : A1Rel G m w x v) (hG : ∀ t, t ∉ ts → ∀ z, m t = some z → G'.b t = G.b t ∧ G'.o t = G.o t ∧ ∃ y, m' t = some y ∧ Ob.like z y) (hR : ∀ g, G.R g → G'.R g) :
    A1Rel G' m' w (kill ts x) v := by
  have hone := h.one
  cases x with
  | sl t p off n =>
    simp only [Eng.kill]
    split
    · exact hone
    · rename_i ht
      exact h.congr (fun u hu z hz => hG u (by simp [A1.ids] at hu; subst hu; simpa using ht) z hz) hR
  | pr t p off =>
    simp only [Eng.kill]
    split
    · exact hone
    · rename_i ht
      exact h.congr (fun u hu z hz => hG u (by simp [A1.ids] at hu; subst hu; simpa using ht) z hz) hR
  | fn f caps =>
    simp only [Eng.kill]
    split
    · exact hone
    · rename_i ht
      simp only [List.any_eq_true, not_exists, not_and, Bool.not_eq_true] at ht
      exact h.congr (fun u hu z hz => hG u (by have := ht u hu; simpa using this) z hz) hR
  | _ => exact h.congr (fun u hu => by simp [A1.ids] at hu) hR
theorem VRel.mapA {w' : World} {f : A1 → A1} (k : ∀ x v, A1Rel G m w x v → A1Rel G' m' w' (f x) v) {ag : Bool} {as_ : List A1} {v : Value} (h : VRel G m w ag as_ v) : VRel G' m' w' ag (as_.map f) v := by
  cases ag with
  | false => obtain ⟨x, rfl, hx⟩ := h; exact ⟨f x, rfl, k _ _ hx⟩
  | true => obtain ⟨vs, rfl, hx⟩ := h; exact ⟨vs, rfl, hx.mapL k⟩
theorem SRel.mapA {w' : World} {f : A1 → A1} (k : ∀ x v, A1Rel G m w x v → A1Rel G' m' w' (f x) v) {s : SV} {v : Value} (h : SRel G m w s v) : SRel G' m' w' (s.map f) v := by
  cases s with
  | v ag as_ => exact VRel.mapA k h
  | tup vs => obtain ⟨xs, rfl, hx⟩ := h; exact ⟨xs, rfl, hx.mapL fun p x hp => VRel.mapA k hp⟩
  | bad => trivial

theorem toCells_rel (hinv : Inv G m w) : ∀ {as_ : List A1} {vs : List Value} {m1 m2 : Mem} {cs : List Cell} {ts : List Nat}, All2 (A1Rel G m w) as_ vs → (∀ t x, m1 t = some x → m t = some x) → toCells m1 as_ = some (cs, m2, ts) →
    ∃ fp, HoldsL true w cs vs fp ∧ fp.Nodup ∧ (∀ x ∈ fp, ∃ t ∈ ts, x ∈ G.fp t) ∧ (∀ t, m2 t = if t ∈ ts then none else m1 t) ∧ (∀ t ∈ ts, ∃ x, m1 t = some x) := by
  intro as_
  induction as_ with
  | nil =>
    intro vs m1 m2 cs ts h hm ht
    have : vs = [] := List.eq_nil_of_length_eq_zero h.1.symm
    subst this
    simp only [toCells, Option.some.injEq, Prod.mk.injEq] at ht
    obtain ⟨rfl, rfl, rfl⟩ := ht
    exact ⟨[], .nil, by simp, by simp, by simp, by simp⟩
  | cons x as_ ih =>
    intro vs m1 m2 cs ts h hm ht
    cases vs with
    | nil => simp [All2] at h
    | cons v vs =>
      have h1 := h.2 0 _ _ rfl rfl
      have ht' : All2 (A1Rel G m w) as_ vs := ⟨by have := h.1; simpa using this, fun j a b ha hb => h.2 (j + 1) a b (by simpa using ha) (by simpa using hb)⟩
      -- a cell that leads nowhere
      have plain : ∀ c, toCell m1 x = some (c, none) → (∀ {ds us fp}, HoldsL true w ds us fp → HoldsL true w (c :: ds) (v :: us) fp) →
          ∃ fp, HoldsL true w cs (v :: vs) fp ∧ fp.Nodup ∧ (∀ x ∈ fp, ∃ t ∈ ts, x ∈ G.fp t) ∧ (∀ t, m2 t = if t ∈ ts then none else m1 t) ∧ (∀ t ∈ ts, ∃ x, m1 t = some x) := by
        intro c hc hcons
        simp only [toCells, hc] at ht
        obtain ⟨⟨cs', m', ts'⟩, hr, he⟩ := Option.map_eq_some_iff.1 ht
        simp only [Prod.mk.injEq] at he
        obtain ⟨rfl, rfl, rfl⟩ := he
        obtain ⟨fp, k1, k2, k3, k4, k5⟩ := ih ht' hm hr
        exact ⟨fp, hcons k1, k2, k3, k4, k5⟩
      cases x with
      | int k n => simp only [A1Rel] at h1; subst h1; exact plain _ rfl fun h => .int h
      | bool b => simp only [A1Rel] at h1; subst h1; exact plain _ rfl fun h => .bool h
      | str b => simp only [A1Rel] at h1; subst h1; exact plain _ rfl fun h => .str h
      | nil => obtain ⟨A, rfl⟩ := h1; exact plain _ rfl fun h => .sl0 ⟨Nat.le_refl _, fun _ => rfl⟩ h
      | ro n ds =>
        obtain ⟨A, c, rfl, hn, _⟩ := h1
        cases ds with
        | nil =>
          by_cases hn0 : n = 0
          · subst hn0; exact plain _ (by simp [toCell]) fun h => .sl0 hn h
          · simp [toCells, toCell, hn0] at ht
        | cons _ _ => simp [toCells, toCell] at ht
      | sl t p off n =>
        cases p with
        | cons _ _ => simp [toCells, toCell] at ht
        | nil =>
          obtain ⟨A, c, rfl, hn, ⟨sz, ds, hmt, hcov⟩, hat, _⟩ := h1
          cases hm1 : m1 t with
          | none => simp [toCells, toCell, hm1] at ht
          | some ob =>
            have hob := hm t ob hm1
            rw [hmt] at hob
            cases hob
            simp only [toCells, toCell, hm1] at ht
            obtain ⟨⟨cs', m', ts'⟩, hr, he⟩ := Option.map_eq_some_iff.1 ht
            simp only [Prod.mk.injEq] at he
            obtain ⟨rfl, rfl, rfl⟩ := he
            have hm' : ∀ u x, upd m1 t none u = some x → m u = some x := by
              intro u x hu
              unfold upd at hu
              split at hu
              · cases hu
              · exact hm u x hu
            obtain ⟨fp, k1, k2, k3, k4, k5⟩ := ih ht' hm' hr
            have htn : t ∉ ts' := by
              intro hin
              obtain ⟨x, hx⟩ := k5 t hin
              simp [upd] at hx
            have k4' : ∀ u, m' u = if u ∈ t :: ts' then none else m1 u := by
              intro u
              rw [k4 u]
              by_cases hut : u = t
              · subst hut; simp [upd]
              · by_cases hu : u ∈ ts' <;> simp [hu, hut, upd]
            have k5' : ∀ u ∈ t :: ts', ∃ x, m1 u = some x := by
              intro u hu
              simp only [List.mem_cons] at hu
              rcases hu with rfl | hu
              · exact ⟨_, hm1⟩
              · obtain ⟨x, hx⟩ := k5 u hu
                unfold upd at hx
                split at hx
                · cases hx
                · exact ⟨x, hx⟩
            obtain ⟨hp, vs0, fp0, q1, q2, q3⟩ := hinv.ob _ _ hmt
            by_cases hd : ds.drop off = []
            · rw [hd]
              exact ⟨fp, .sl0 hn k1, k2, fun x hx => by obtain ⟨u, hu, hg⟩ := k3 x hx; exact ⟨u, by simp [hu], hg⟩, k4', k5'⟩
            · have hlen : off < ds.length := by
                rcases Nat.lt_or_ge off ds.length with h | h
                · exact h
                · exact absurd (List.drop_eq_nil_of_le h) hd
              rcases hat with rfl | ⟨z, q, hz, hat⟩
              · have := hcov rfl
                omega
              · rw [hmt] at hz
                cases hz
                obtain ⟨g, oo, hl1, rfl⟩ := hat ds rfl (.inr rfl)
                simp only [locate, Option.some.injEq, Prod.mk.injEq] at hl1
                obtain ⟨rfl, rfl⟩ := hl1
                obtain ⟨f1, d1, s1⟩ := q1.drop off
                have hnd := hinv.nd _ _ hmt
                rw [q3] at hnd
                refine ⟨G.b t :: (f1 ++ fp), .sl hd hn.1 (q2.drop off) d1 k1, ?_, ?_, k4', k5'⟩
                · rw [List.nodup_cons, List.nodup_append]
                  rw [List.nodup_cons] at hnd
                  have hout : ∀ x, x ∈ G.fp t → x ∉ fp := by
                    intro x hx hx'
                    obtain ⟨u, hu, hg⟩ := k3 x hx'
                    obtain ⟨y, hy⟩ := k5' u (by simp [hu])
                    exact hinv.apart t u _ _ hmt (hm u y hy) (fun e => htn (e ▸ hu)) x hx hg
                  refine ⟨?_, s1.nodup hnd.2, k2, ?_⟩
                  · intro hin
                    rw [List.mem_append] at hin
                    rcases hin with hin | hin
                    · exact hnd.1 (s1.mem hin)
                    · exact hout _ (by rw [q3]; simp) hin
                  · rintro x hx y hy rfl
                    exact hout x (by rw [q3]; simp [s1.mem hx]) hy
                · intro x hx
                  simp only [List.mem_cons, List.mem_append] at hx
                  rcases hx with rfl | hx | hx
                  · exact ⟨t, by simp, by rw [q3]; simp⟩
                  · exact ⟨t, by simp, by rw [q3]; simp [s1.mem hx]⟩
                  · obtain ⟨u, hu, hg⟩ := k3 x hx
                    exact ⟨u, by simp [hu], hg⟩
      | _ => simp [toCells, toCell] at ht
end
end Go.Proofs.YtbdokibepndibaaGreat.Eng
