/- Marks, their runs and their bytes: read as they were. Plain. -/
import Derived.Test.YtdagbeihjobmjaaBBitsOf
namespace Go.Proofs.Ytdagbeihjobmjaa.Eng.B
set_option linter.unusedSimpArgs false
set_option linter.unusedVariables false
set_option maxHeartbeats 8000000
set_option maxRecDepth 100000
open Go.RowKit Go.Proofs

/-- All marks from a cell on. -/
def subsF : Nat → Int → List (List Int)
  | 0, _ => [[]]
  | f + 1, lo => subsF f (lo + 1) ++ (subsF f (lo + 1)).map (lo :: ·)
theorem mem_subsF : ∀ (f : Nat) (lo : Int) (m : List Int), lo + f = 8 → mkF (some (lo - 1)) m = true → m ∈ subsF f lo := by
  intro f
  induction f with
  | zero =>
    intro lo m hlo hm
    cases m with
    | nil => simp [subsF]
    | cons y r =>
      simp only [mkF, Bool.and_eq_true, Bool.not_eq_true', decide_eq_false_iff_not, rng_iff] at hm
      omega
  | succ f ih =>
    intro lo m hlo hm
    simp only [subsF, List.mem_append, List.mem_map]
    cases m with
    | nil => exact .inl (ih (lo + 1) [] (by omega) rfl)
    | cons y r =>
      have hm0 := hm
      simp only [mkF, Bool.and_eq_true, Bool.not_eq_true', decide_eq_false_iff_not, rng_iff] at hm
      by_cases hy : y = lo
      · subst hy
        exact .inr ⟨r, ih (y + 1) r (by omega) (by rw [show y + 1 - 1 = y by omega]; exact hm.2), rfl⟩
      · refine .inl (ih (lo + 1) (y :: r) (by omega) ?_)
        simp only [mkF, Bool.and_eq_true, Bool.not_eq_true', decide_eq_false_iff_not, rng_iff]
        exact ⟨⟨hm.1.1, by omega⟩, hm.2⟩
theorem mem_all {m : List Int} (h : marksOk m = true) : m ∈ subsF 8 0 := by
  refine mem_subsF 8 0 m (by omega) ?_
  unfold marksOk at h
  cases m with
  | nil => rfl
  | cons y r =>
    simp only [mkF, Bool.and_eq_true, rng_iff] at h
    simp only [mkF, Bool.and_eq_true, Bool.not_eq_true', decide_eq_false_iff_not, rng_iff]
    exact ⟨⟨h.1, by omega⟩, h.2⟩
theorem ofRuns_runs {m : List Int} (h : marksOk m = true) : ofRuns (runs m) = (m, true) := by
  have : ∀ m ∈ subsF 8 0, ofRuns (runs m) = (m, true) := by decide +kernel
  exact this m (mem_all h)
theorem putN_one {n : Nat} (h : n ≤ 127) : putN n = [(n : Int)] := by
  unfold putN
  rw [initN_small (by omega), lastN_small (by omega)]
  rfl
theorem putAll_one : ∀ (l : List Int), (∀ x ∈ l, 0 ≤ x ∧ x ≤ 8) → putAll l = l := by
  intro l
  induction l with
  | nil => intro _; rfl
  | cons y r ih =>
    intro h
    have hy := h y (by simp)
    rw [putAll, ih fun x hx => h x (by simp [hx]), putN_one (by omega)]
    simp only [List.cons_append, List.nil_append, List.cons.injEq, and_true]
    omega
theorem bitsB_eq {m : List Int} (h : marksOk m = true) : bitsB m = ((runs m).length : Int) :: runs m := by
  unfold bitsB
  rw [putAll_one _ (runs_good m h).2, putN_one (by have := runs_len m; omega)]
  rfl
theorem getF_one' (x : Nat) (hx : x ≤ 127) (r : List Int) : getF 0 0 ((x : Int) :: r) = some (x, 1) := by
  have h1 : x % 128 = x := by omega
  have h2 : x < 128 := by omega
  simp [getF, h1, h2]
  omega
theorem getNum_at' (D : List Int) (i x : Nat) (r : List Int) (h : D.drop i = (x : Int) :: r) (hx : x ≤ 127) : getNum D (i : Int) = some (x, i + 1) := by
  unfold getNum
  rw [if_neg (by omega), Int.toNat_natCast, h, getF_one' x hx]
  rfl
theorem getNum_end' (D : List Int) (i : Nat) (h : D.drop i = []) : getNum D (i : Int) = none := by
  unfold getNum
  rw [if_neg (by omega), Int.toNat_natCast, h]
  rfl
theorem rdF_small : ∀ (l : List Int) (D : List Int) (i c : Nat), D.drop i = l → (∀ x ∈ l, 0 ≤ x ∧ x ≤ 127) → (c = l.length → (rdF D c i).1 = l ∧ (rdF D c i).2.1 = true) ∧ (l.length < c → (rdF D c i).2.1 = false) := by
  intro l
  induction l with
  | nil =>
    intro D i c hd _
    refine ⟨fun h => (by subst h; exact ⟨rfl, rfl⟩), fun h => ?_⟩
    obtain ⟨c, rfl⟩ : ∃ c', c = c' + 1 := ⟨c - 1, by simp at h; omega⟩
    simp only [rdF]
    rw [getNum_end' D i hd]
  | cons y r ih =>
    intro D i c hd hl
    have hy := hl y (by simp)
    obtain ⟨x, rfl⟩ : ∃ x : Nat, y = x := ⟨y.toNat, by omega⟩
    have hd2 : D.drop (i + 1) = r := drop_next hd
    have key : ∀ c, rdF D (c + 1) i = ((x : Int) :: (rdF D c (i + 1)).1, (rdF D c (i + 1)).2) := fun c => by
      simp only [rdF]
      rw [getNum_at' D i x r hd (by omega)]
    refine ⟨fun h => ?_, fun h => ?_⟩
    · subst h
      rw [List.length_cons, key]
      obtain ⟨k1, k2⟩ := (ih D (i + 1) r.length hd2 fun z hz => hl z (by simp [hz])).1 rfl
      exact ⟨by simp only [k1], k2⟩
    · obtain ⟨c, rfl⟩ : ∃ c', c = c' + 1 := ⟨c - 1, by simp at h; omega⟩
      rw [key]
      exact (ih D (i + 1) c hd2 fun z hz => hl z (by simp [hz])).2 (by simp at h; omega)
theorem eqB_refl (b : List Int) : eqB b b = true := by simp [eqB]
/-- What is written of marks is read as it was; without its last byte it is read no more. -/
theorem bits_read {m : List Int} (h : marksOk m = true) : bitsOk (bitsB m) = true ∧ (ofRuns (listF (bitsB m)).1).1 = m ∧ bitsOk ((bitsB m).take ((bitsB m).length - 1)) = false ∧ Bytes (bitsB m) ∧ 2 ≤ (bitsB m).length ∧ (bitsB m).length ≤ 10 := by
  have hg := (runs_good m h).2
  have hl := runs_len m
  have hp := runs_pos h
  have e := bitsB_eq h
  have hr := ofRuns_runs h
  generalize hR : runs m = r at hg hl hp e hr
  have hsm : ∀ x ∈ r, 0 ≤ x ∧ x ≤ 127 := fun x hx => by have := hg x hx; omega
  have g0 := getNum_at' (bitsB m) 0 r.length r (by rw [e]; rfl) (by omega)
  have g1 := (rdF_small r (bitsB m) 1 r.length (by rw [e]; rfl) hsm).1 rfl
  have hL : (listF (bitsB m)).1 = r ∧ (listF (bitsB m)).2.1 = true := by
    unfold listF
    rw [g0]
    exact g1
  refine ⟨?_, ?_, ?_, ?_, ?_, ?_⟩
  · unfold bitsOk
    rw [hL.1, hL.2, hr]
    simp only [Bool.true_and]
    exact eqB_refl _
  · rw [hL.1, hr]
  · have hD : (bitsB m).take ((bitsB m).length - 1) = (r.length : Int) :: r.take (r.length - 1) := by
      rw [e]
      obtain ⟨k, hk⟩ : ∃ k, r.length = k + 1 := ⟨r.length - 1, by omega⟩
      simp only [List.length_cons, Nat.add_sub_cancel, hk, List.take_succ_cons]
    rw [hD]
    have g2 := getNum_at' ((r.length : Int) :: r.take (r.length - 1)) 0 r.length (r.take (r.length - 1)) rfl (by omega)
    have g3 := (rdF_small (r.take (r.length - 1)) ((r.length : Int) :: r.take (r.length - 1)) 1 r.length rfl (fun x hx => hsm x (List.mem_of_mem_take hx))).2 (by rw [List.length_take]; omega)
    have : (listF ((r.length : Int) :: r.take (r.length - 1))).2.1 = false := by
      unfold listF
      rw [g2]
      exact g3
    unfold bitsOk
    rw [this]
    rfl
  · rw [e]
    intro x hx
    simp only [List.mem_cons] at hx
    rcases hx with rfl | hx
    · omega
    · have := hg x hx; omega
  · rw [e, List.length_cons]; omega
  · rw [e, List.length_cons]; omega
end Go.Proofs.Ytdagbeihjobmjaa.Eng.B
