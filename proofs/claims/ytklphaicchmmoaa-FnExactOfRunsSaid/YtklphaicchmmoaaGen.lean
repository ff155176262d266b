/- Loops over lists of whole numbers, as the printed functions go round them: what each comes to, from some number of rounds on. -/
import Derived.Test.YtklphaicchmmoaaWWords
import Derived.Test.YtklphaicchmmoaaWSized
namespace Go.Proofs.Ytklphaicchmmoaa.Gen
open Go.RowKit Go.Proofs.YtklphaicchmmoaaW.PrintWords

theorem wrap_id {n : Int} (h0 : -9223372036854775808 ≤ n) (h1 : n ≤ 9223372036854775807) : wrap64 n = n := by unfold wrap64; omega
theorem wf64 {x : Int} (h : (Lit.int .i64 x).wf = true) : -9223372036854775808 ≤ x ∧ x ≤ 9223372036854775807 := by
  simp [Lit.wf, IntKind.min, IntKind.max, IntKind.signed, IntKind.bits] at h
  omega
theorem wfu8 {x : Int} (h : (Lit.int .u8 x).wf = true) : 0 ≤ x ∧ x ≤ 255 := by
  simp [Lit.wf, IntKind.min, IntKind.max, IntKind.signed, IntKind.bits] at h
  omega
theorem rd_nat (xs : List Int) (i : Nat) : rd xs (i : Int) = xs.getD i 0 := by simp [rd]
theorem rd_get {xs : List Int} {i : Nat} (h : i < xs.length) : rd xs (i : Int) = xs[i] := by simp [rd, h]
theorem Ev.pos {α : Type} {c : Prop} [Decidable c] {g f : Nat → Option α} {r : α} (hc : c) (h : Ev g r) : Ev (fun n => if c then g n else f n) r :=
  Ev.congr (fun _ => if_pos hc) h
theorem Ev.neg {α : Type} {c : Prop} [Decidable c] {g f : Nat → Option α} {r : α} (hc : ¬ c) (h : Ev f r) : Ev (fun n => if c then g n else f n) r :=
  Ev.congr (fun _ => if_neg hc) h
theorem Ev.some {α : Type} {a r : α} (h : a = r) : Ev (fun _ => some a) r := h ▸ Ev.now a

/-- A copy, number by number, into zeros. -/
theorem copy_ev {F : Nat → List Int → List Int → Int → Option (List Int)}
    (hF : ∀ k x0 x3 x4, F (k + 1) x0 x3 x4 = if x4 < (x0.length : Int) then (if 0 ≤ x4 then (if x4 < (x3.length : Int) then (F k x0 (x3.set (x4 : Int).toNat (rd x0 x4)) (wrap64 (x4 + 1))) else (none)) else (none)) else (some x3))
    (l : List Int) (hl : l.length ≤ 281474976710656) : Ev (fun k => F k l (List.replicate l.length 0) 0) l := by
  have key : ∀ (d i : Nat) (hi : i ≤ l.length) (hd : l.length - i = d), Ev (fun k => F k l (l.take i ++ List.replicate (l.length - i) 0) (i : Int)) l := by
    intro d
    induction d with
    | zero =>
      intro i hi hd
      refine Ev.step (fun k => hF k _ _ _) ?_
      refine Ev.neg (by omega) (Ev.some ?_)
      have : i = l.length := by omega
      subst this
      simp
    | succ d ih =>
      intro i hi hd
      refine Ev.step (fun k => hF k _ _ _) ?_
      refine Ev.pos (by omega) (Ev.pos (by omega) (Ev.pos (by simp; omega) ?_))
      rw [wrap_id (by omega) (by omega), rd_get (by omega)]
      have e : (l.take i ++ List.replicate (l.length - i) 0).set (i : Int).toNat l[i] = l.take (i + 1) ++ List.replicate (l.length - (i + 1)) 0 := by
        rw [Int.toNat_natCast, List.set_append_right _ _ (by simp; omega), List.length_take, Nat.min_eq_left hi, Nat.sub_self, show l.length - i = (l.length - (i + 1)) + 1 by omega, List.replicate_succ, List.set_cons_zero]
        have h2 := List.take_append_getElem (by omega : i < l.length)
        rw [← h2, List.append_assoc]
        rfl
      rw [e]
      exact ih (i + 1) (by omega) (by omega)
  have := key l.length 0 (by omega) (by omega)
  simpa using this

/-- Two rows held against each other, number by number. -/
theorem eq_ev {F : Nat → List Int → List Int → Int → Option Bool}
    (hF : ∀ k x0 x1 x5, F (k + 1) x0 x1 x5 = if x5 < (x0.length : Int) then (if 0 ≤ x5 then (if x5 < (x1.length : Int) then (if (rd x0 x5) = (rd x1 x5) then (F k x0 x1 (wrap64 (x5 + 1))) else (some false)) else (none)) else (none)) else (some true))
    (a b : List Int) (hab : a.length = b.length) (hl : a.length ≤ 281474976710656) : Ev (fun k => F k a b 0) (decide (a = b)) := by
  have key : ∀ (d i : Nat) (hi : i ≤ a.length) (hd : a.length - i = d) (hp : a.take i = b.take i), Ev (fun k => F k a b (i : Int)) (decide (a = b)) := by
    intro d
    induction d with
    | zero =>
      intro i hi hd hp
      refine Ev.step (fun k => hF k _ _ _) ?_
      refine Ev.neg (by omega) (Ev.some ?_)
      have : i = a.length := by omega
      subst this
      rw [List.take_length, hab, List.take_length] at hp
      simp [hp]
    | succ d ih =>
      intro i hi hd hp
      refine Ev.step (fun k => hF k _ _ _) ?_
      refine Ev.pos (by omega) (Ev.pos (by omega) (Ev.pos (by omega) ?_))
      rw [wrap_id (by omega) (by omega), rd_get (by omega), rd_get (by omega)]
      by_cases h : a[i] = b[i]
      · refine Ev.pos h (ih (i + 1) (by omega) (by omega) ?_)
        rw [← List.take_append_getElem (by omega : i < a.length), ← List.take_append_getElem (by omega : i < b.length), hp, h]
      · refine Ev.neg h (Ev.some ?_)
        symm
        apply decide_eq_false
        rintro rfl
        exact h rfl
  exact key a.length 0 (by omega) (by omega) (by simp)

/-- Is a number in a row? -/
theorem has_ev {F : Nat → List Int → Int → Int → Option Bool}
    (hF : ∀ k x0 x1 x5, F (k + 1) x0 x1 x5 = if x5 < (x0.length : Int) then (if 0 ≤ x5 then (if (rd x0 x5) = x1 then (some true) else (F k x0 x1 (wrap64 (x5 + 1)))) else (none)) else (some false))
    (a : List Int) (n : Int) (hl : a.length ≤ 281474976710656) : Ev (fun k => F k a n 0) (a.contains n) := by
  have key : ∀ (d i : Nat) (hi : i ≤ a.length) (hd : a.length - i = d), Ev (fun k => F k a n (i : Int)) ((a.drop i).contains n) := by
    intro d
    induction d with
    | zero =>
      intro i hi hd
      refine Ev.step (fun k => hF k _ _ _) ?_
      refine Ev.neg (by omega) (Ev.some ?_)
      rw [List.drop_eq_nil_of_le (by omega)]
      rfl
    | succ d ih =>
      intro i hi hd
      refine Ev.step (fun k => hF k _ _ _) ?_
      refine Ev.pos (by omega) (Ev.pos (by omega) ?_)
      rw [wrap_id (by omega) (by omega), rd_get (by omega), List.drop_eq_getElem_cons (by omega : i < a.length), List.contains_cons]
      by_cases h : a[i] = n
      · refine Ev.pos h (Ev.some ?_)
        simp [h]
      · refine Ev.neg h ?_
        have hb : (n == a[i]) = false := by simp; exact fun e => h e.symm
        rw [hb, Bool.false_or]
        exact ih (i + 1) (by omega) (by omega)
  exact key a.length 0 (by omega) (by omega)

/-- The index of a number in a row, or -1: go's own slices.Index. -/
theorem index_ev {F : Nat → List Int → Int → Int → Int → Option Int}
    (hF : ∀ k x0 x1 x7 x8, F (k + 1) x0 x1 x7 x8 = if x8 < x7 then (if 0 ≤ x8 then (if x8 < (x0.length : Int) then (if x1 = (rd x0 x8) then (some x8) else (F k x0 x1 x7 (wrap64 (x8 + 1)))) else (none)) else (none)) else (some (-1)))
    (a : List Int) (n : Int) (hl : a.length ≤ 281474976710656) : ∃ r : Int, Ev (fun k => F k a n (a.length : Int) 0) r ∧ decide (r ≥ 0) = a.contains n := by
  have key : ∀ (d i : Nat) (hi : i ≤ a.length) (hd : a.length - i = d), ∃ r : Int, Ev (fun k => F k a n (a.length : Int) (i : Int)) r ∧ decide (r ≥ 0) = (a.drop i).contains n := by
    intro d
    induction d with
    | zero =>
      intro i hi hd
      refine ⟨-1, Ev.step (fun k => hF k _ _ _ _) (Ev.neg (by omega) (Ev.some rfl)), ?_⟩
      rw [List.drop_eq_nil_of_le (by omega)]
      rfl
    | succ d ih =>
      intro i hi hd
      rw [List.drop_eq_getElem_cons (by omega : i < a.length), List.contains_cons]
      by_cases h : n = a[i]
      · refine ⟨(i : Int), Ev.step (fun k => hF k _ _ _ _) (Ev.pos (by omega) (Ev.pos (by omega) (Ev.pos (by omega) ?_))), ?_⟩
        · rw [rd_get (by omega)]
          exact Ev.pos h (Ev.some rfl)
        · simp [h]
      · obtain ⟨r, hr, he⟩ := ih (i + 1) (by omega) (by omega)
        refine ⟨r, Ev.step (fun k => hF k _ _ _ _) (Ev.pos (by omega) (Ev.pos (by omega) (Ev.pos (by omega) ?_))), ?_⟩
        · rw [wrap_id (by omega) (by omega), rd_get (by omega)]
          exact Ev.neg h hr
        · have hb : (n == a[i]) = false := by simp; exact h
          rw [hb, Bool.false_or]
          exact he
  exact key a.length 0 (by omega) (by omega)

def marks (m : Int → Int) (k : Int) : Nat → List Int
  | 0 => []
  | n + 1 => m k :: marks m (k + 1) n
theorem marks_length (m : Int → Int) (k : Int) (n : Nat) : (marks m k n).length = n := by
  induction n generalizing k with
  | zero => rfl
  | succ n ih => simp [marks, ih]
theorem marks_get (m : Int → Int) (k : Int) (n i : Nat) (h : i < (marks m k n).length) : (marks m k n)[i] = m (k + i) := by
  induction n generalizing k i with
  | zero => simp [marks] at h
  | succ n ih =>
    cases i with
    | zero => simp [marks]
    | succ i =>
      simp only [marks, List.getElem_cons_succ]
      rw [ih]
      congr 1
      omega
theorem marks_take (m : Int → Int) (k : Int) (n i : Nat) (h : i < n) : (marks m k n).take (i + 1) = (marks m k n).take i ++ [m (k + i)] := by
  rw [← List.take_append_getElem (by rw [marks_length]; exact h), marks_get]

/-- Each number of a row written over by the next count. -/
theorem mark_ev {m : Int → Int} {F : Nat → List Int → Int → Int → Option (Int × List Int)}
    (hF : ∀ k x0 x1 x5, F (k + 1) x0 x1 x5 = if x5 < (x0.length : Int) then (if 0 ≤ x5 then (F k (x0.set (x5 : Int).toNat (m x1)) (wrap64 (x1 + 1)) (wrap64 (x5 + 1))) else (none)) else (some (x1, x0)))
    (a : List Int) (n : Int) (hn : 0 ≤ n) (hl : n + a.length ≤ 9223372036854775806) : Ev (fun k => F k a n 0) (n + a.length, marks m n a.length) := by
  have key : ∀ (d i : Nat) (hi : i ≤ a.length) (hd : a.length - i = d), Ev (fun k => F k ((marks m n a.length).take i ++ a.drop i) (n + i) (i : Int)) (n + a.length, marks m n a.length) := by
    intro d
    induction d with
    | zero =>
      intro i hi hd
      have : i = a.length := by omega
      subst this
      refine Ev.step (fun k => hF k _ _ _) ?_
      refine Ev.neg (by simp [marks_length]) (Ev.some ?_)
      rw [List.drop_length, List.append_nil, List.take_of_length_le (by rw [marks_length]; omega)]
    | succ d ih =>
      intro i hi hd
      refine Ev.step (fun k => hF k _ _ _) ?_
      refine Ev.pos (by simp [marks_length]; omega) (Ev.pos (by omega) ?_)
      rw [wrap_id (by omega) (by omega), wrap_id (by omega) (by omega)]
      have e : ((marks m n a.length).take i ++ a.drop i).set (i : Int).toNat (m (n + i)) = (marks m n a.length).take (i + 1) ++ a.drop (i + 1) := by
        rw [Int.toNat_natCast, List.set_append_right _ _ (by simp [marks_length]; omega), List.length_take, marks_length, Nat.min_eq_left hi, Nat.sub_self, List.drop_eq_getElem_cons (by omega : i < a.length), List.set_cons_zero, marks_take _ _ _ _ (by omega)]
        simp
      rw [e]
      have := ih (i + 1) (by omega) (by omega)
      rw [show n + ((i + 1 : Nat) : Int) = n + i + 1 by omega] at this
      exact this
  have := key a.length 0 (by omega) (by omega)
  simpa using this

/-- Is each number of a row what the count says? -/
theorem held_ev {m : Int → Int} {F : Nat → List Int → Int → Int → Option Int}
    (hF : ∀ k x0 x1 x5, F (k + 1) x0 x1 x5 = if x5 < (x0.length : Int) then (if 0 ≤ x5 then (if (rd x0 x5) = (m x1) then (F k x0 (wrap64 (x1 + 1)) (wrap64 (x5 + 1))) else (some (-1))) else (none)) else (some x1))
    (N : Nat) (n : Int) (hn : 0 ≤ n) (hl : n + N ≤ 9223372036854775806) : Ev (fun k => F k (marks m n N) n 0) (n + N) := by
  have key : ∀ (d i : Nat) (hi : i ≤ N) (hd : N - i = d), Ev (fun k => F k (marks m n N) (n + i) (i : Int)) (n + N) := by
    intro d
    induction d with
    | zero =>
      intro i hi hd
      have : i = N := by omega
      subst this
      refine Ev.step (fun k => hF k _ _ _) ?_
      exact Ev.neg (by simp [marks_length]) (Ev.some rfl)
    | succ d ih =>
      intro i hi hd
      refine Ev.step (fun k => hF k _ _ _) ?_
      refine Ev.pos (by rw [marks_length]; omega) (Ev.pos (by omega) ?_)
      rw [rd_get (by rw [marks_length]; omega), marks_get]
      refine Ev.pos rfl ?_
      rw [wrap_id (by omega) (by omega), wrap_id (by omega) (by omega)]
      have := ih (i + 1) (by omega) (by omega)
      rw [show n + ((i + 1 : Nat) : Int) = n + i + 1 by omega] at this
      exact this
  have := key N 0 (by omega) (by omega)
  simpa using this
/-- A loop that goes on while each index passes. -/
theorem all_ev {G : Nat → Int → Option Bool} {n : Nat} {p : Nat → Bool} {b : Bool} (hend : Ev (fun k => G k (n : Int)) b)
    (hno : ∀ i, i < n → p i = false → Ev (fun k => G k (i : Int)) false)
    (hyes : ∀ i, i < n → p i = true → ∀ r, Ev (fun k => G k ((i + 1 : Nat) : Int)) r → Ev (fun k => G k (i : Int)) r) : Ev (fun k => G k 0) ((List.range n).all p && b) := by
  have key : ∀ (d i : Nat), i ≤ n → n - i = d → Ev (fun k => G k (i : Int)) ((List.range' i d).all p && b) := by
    intro d
    induction d with
    | zero =>
      intro i hi hd
      have : i = n := by omega
      subst this
      simpa using hend
    | succ d ih =>
      intro i hi hd
      rw [List.range'_succ, List.all_cons]
      cases hp : p i with
      | false => simpa using hno i (by omega) hp
      | true =>
        rw [Bool.true_and]
        exact hyes i (by omega) hp _ (ih (i + 1) (by omega) (by omega))
  have := key n 0 (by omega) (by omega)
  rw [List.range_eq_range']
  simpa using this
/-- A loop that bears a state. -/
theorem fold_ev {S R : Type} {G : Nat → S → Int → Option R} {n : Nat} {st : Nat → S} {r : R} (hend : Ev (fun k => G k (st n) (n : Int)) r)
    (hstep : ∀ i, i < n → ∀ r, Ev (fun k => G k (st (i + 1)) ((i + 1 : Nat) : Int)) r → Ev (fun k => G k (st i) (i : Int)) r) : Ev (fun k => G k (st 0) 0) r := by
  have key : ∀ (d i : Nat), i ≤ n → n - i = d → Ev (fun k => G k (st i) (i : Int)) r := by
    intro d
    induction d with
    | zero =>
      intro i hi hd
      have : i = n := by omega
      subst this
      exact hend
    | succ d ih =>
      intro i hi hd
      exact hstep i (by omega) _ (ih (i + 1) (by omega) (by omega))
  exact key n 0 (by omega) (by omega)
theorem wrap_succ {i n : Nat} (h : i < n) (hn : n ≤ 281474976710656) : wrap64 ((i : Int) + 1) = ((i + 1 : Nat) : Int) := by unfold wrap64; omega
theorem wrap_pred {i n : Nat} (h : i < n) (hn : n ≤ 281474976710656) (h0 : 0 < i) : wrap64 ((i : Int) - 1) = ((i - 1 : Nat) : Int) := by unfold wrap64; omega
end Go.Proofs.Ytklphaicchmmoaa.Gen

namespace Go.Proofs.Ytklphaicchmmoaa.PrintWords
open Go.ChangeShapes Go.WideShapes
/-- The print's own lemma, under the name by which its rows call it. -/
theorem sized_ints {H : Type} {enc : TypeId × Value → H} {P : Program} {W : World} {base : Nat} {spare : Nat → Bool} {held : Bool} {t e : TypeId} {k : IntKind} {a : Option Addr} {len cap : Nat} {d : DataW H} {ps : List MemPlace} {ts : List TypeId} {ds : List (DataW H)} {j : Nat}
    (hsz : (DataW.weightsEach P ts ds).all (· ≤ reachBytes) = true) (ht : ts[j]? = some t) (hd : ds[j]? = some d) (hu : P.underlying t = some (.slice e)) (he : P.underlying e = some (.int k)) (hc : P.cellsOf e = 1) {B : Nat} (hB : P.bytesOf e = B)
    (h : DataW.Trod enc P W base spare held t (.slice a len cap) d ps) : len * B ≤ 140737488351232 :=
  Go.Proofs.YtklphaicchmmoaaW.PrintWords.sized_ints hsz ht hd hu he hc hB h
end Go.Proofs.Ytklphaicchmmoaa.PrintWords
