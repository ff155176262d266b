/- The book of touches, torn: what is read of it was hot behind one of them. The plain law. -/
import Derived.Test.YtdagbeihjobmjaaBReplay
import Derived.Test.YtdagbeihjobmjaaBBook
import Derived.Test.YtdagbeihjobmjaaBMark
namespace Go.Proofs.Ytdagbeihjobmjaa.Eng.B
set_option linter.unusedSimpArgs false
set_option linter.unusedVariables false
set_option maxHeartbeats 8000000
set_option maxRecDepth 100000
open Go.RowKit Go.Proofs

theorem bookF_app' (s : List Int × List Int × Nat) (a b : List Int) : bookF s (a ++ b) = bookF (bookF s a) b := by
  induction a generalizing s with
  | nil => rfl
  | cons x r ih => simp only [List.cons_append, bookF]; exact ih _
theorem bookF_ext' : ∀ (b : List Int) (s : List Int × List Int × Nat), ∃ t, (bookF s b).1 = s.1 ++ t := by
  intro b
  induction b with
  | nil => exact fun s => ⟨[], by simp [bookF]⟩
  | cons x r ih =>
    intro s
    obtain ⟨t, ht⟩ := ih (bookStep s x)
    simp only [bookF, ht]
    by_cases h1 : extOf x < 0
    · exact ⟨t, by simp [bookStep, h1]⟩
    · by_cases h2 : extOf x ∈ s.2.1
      · exact ⟨t, by simp [bookStep, h1, h2]⟩
      · exact ⟨turnR (extOf x) (touchX (touchAll s.2.1 x)) s.2.2 ++ t, by simp [bookStep, h1, h2]⟩
theorem turnOf_drop (b : List Int) (i : Nat) : turnOf b i = turnOf (b.drop i) (0 : Nat) := by
  have e : ∀ j : Nat, getNum b ((i + j : Nat) : Int) = (getNum (b.drop i) (j : Int)).map fun p => (p.1, i + p.2) := by
    intro j
    unfold getNum
    rw [if_neg (by omega), if_neg (by omega), Int.toNat_natCast, Int.toNat_natCast, List.drop_drop]
    cases getF 0 0 (b.drop (i + j)) with
    | none => rfl
    | some p => simp [Nat.add_assoc]
  have e0 := e 0
  simp only [Nat.add_zero] at e0
  unfold turnOf
  rw [e0]
  cases hg : getNum (b.drop i) ((0 : Nat) : Int) with
  | none => rfl
  | some p =>
    obtain ⟨n, k⟩ := p
    simp only [Option.map_some]
    rw [e k]
    cases hg2 : getNum (b.drop i) (k : Int) with
    | none => rfl
    | some p =>
      obtain ⟨a, j⟩ := p
      simp only [Option.map_some]
      rw [e j]
      cases hg3 : getNum (b.drop i) (j : Int) with
      | none => rfl
      | some p =>
        obtain ⟨c, q⟩ := p
        simp only [Option.map_some, Int.toNat_natCast, List.drop_zero]
theorem turnB_short {a o n : Nat} (ha : a ≤ 3) (ho : o ≤ 4) (hn : n ≤ 127) : ∃ f0 f1 f2 f3 : Int, turnB a ((o : Int) - 1) n = [(n : Int), (a : Int), (o : Int), f0, f1, f2, f3] := by
  have e1 : putN n = [(n : Int)] := by
    unfold putN
    rw [initN, lastN, dif_neg (by omega), dif_neg (by omega)]
    rfl
  have e2 : putN a = [(a : Int)] := by
    unfold putN
    rw [initN, lastN, dif_neg (by omega), dif_neg (by omega)]
    rfl
  have e3 : putN o = [(o : Int)] := by
    unfold putN
    rw [initN, lastN, dif_neg (by omega), dif_neg (by omega)]
    rfl
  have e4 : ((o : Int) - 1 + 1).toNat = o := by omega
  have e5 : ∀ s : Nat, ∃ f0 f1 f2 f3 : Int, turnP (a : Int) ((o : Int) - 1) (n : Int) ++ fourN s = [(n : Int), (a : Int), (o : Int), f0, f1, f2, f3] := by
    intro s
    unfold turnP fourN
    rw [Int.toNat_natCast, Int.toNat_natCast, e4, e1, e2, e3]
    exact ⟨_, _, _, _, rfl⟩
  exact e5 _
theorem getF_one (x : Nat) (hx : x ≤ 127) (r : List Int) : getF 0 0 ((x : Int) :: r) = some (x, 1) := by
  have h1 : x % 128 = x := by omega
  have h2 : x < 128 := by omega
  simp [getF, h1, h2]
  omega
theorem getNum_at (D : List Int) (i x : Nat) (r : List Int) (h : D.drop i = (x : Int) :: r) (hx : x ≤ 127) : getNum D (i : Int) = some (x, i + 1) := by
  unfold getNum
  rw [if_neg (by omega), Int.toNat_natCast, h, getF_one x hx]
  rfl
theorem getNum_end (D : List Int) (i : Nat) (h : D.drop i = []) : getNum D (i : Int) = none := by
  unfold getNum
  rw [if_neg (by omega), Int.toNat_natCast, h]
  rfl
theorem turnOf_whole {a o n : Nat} (ha : a ≤ 3) (ho : o ≤ 4) (hn : n ≤ 127) (hok : turnOk a ((o : Int) - 1) n = true) (rest : List Int) :
    turnOf (turnB a ((o : Int) - 1) n ++ rest) (0 : Nat) = some (n, a, o, turnB a ((o : Int) - 1) n) := by
  obtain ⟨f0, f1, f2, f3, hT⟩ := turnB_short ha ho hn
  have g1 := getNum_at (turnB a ((o : Int) - 1) n ++ rest) 0 n ([(a : Int), (o : Int), f0, f1, f2, f3] ++ rest) (by rw [hT]; rfl) hn
  have g2 := getNum_at (turnB a ((o : Int) - 1) n ++ rest) 1 a ([(o : Int), f0, f1, f2, f3] ++ rest) (by rw [hT]; rfl) (by omega)
  have g3 := getNum_at (turnB a ((o : Int) - 1) n ++ rest) 2 o ([f0, f1, f2, f3] ++ rest) (by rw [hT]; rfl) (by omega)
  have hp : hasPre (turnB a ((o : Int) - 1) n ++ rest) (turnB a ((o : Int) - 1) n) = true := by
    simp only [hasPre, List.length_append, List.take_left, Bool.and_eq_true, decide_eq_true_eq]
    exact ⟨Nat.le_add_right _ _, by simp [eqB]⟩
  unfold turnOf
  rw [g1]
  simp only [Nat.zero_add]
  rw [g2]
  simp only [Nat.reduceAdd]
  rw [g3]
  simp only [Int.toNat_natCast, List.drop_zero, hok, hp, Bool.and_self, if_true]
theorem turnOf_cut {a o n : Nat} (ha : a ≤ 3) (ho : o ≤ 4) (hn : n ≤ 127) (q : Nat) (hq : q < 7) : turnOf ((turnB a ((o : Int) - 1) n).take q) (0 : Nat) = none := by
  obtain ⟨f0, f1, f2, f3, hT⟩ := turnB_short ha ho hn
  have hlen : (turnB a ((o : Int) - 1) n).length = 7 := by rw [hT]; rfl
  generalize hD : (turnB a ((o : Int) - 1) n).take q = D
  have hDl : D.length = q := by rw [← hD, List.length_take, hlen]; omega
  unfold turnOf
  by_cases h0 : q = 0
  · rw [getNum_end D 0 (List.eq_nil_of_length_eq_zero (by rw [List.drop_zero]; omega))]
  · obtain ⟨r0, hr0⟩ : ∃ r, D.drop 0 = (n : Int) :: r := ⟨D.drop 1, by
      obtain ⟨q', rfl⟩ : ∃ q', q = q' + 1 := ⟨q - 1, by omega⟩
      rw [← hD, hT]; rfl⟩
    rw [getNum_at D 0 n r0 hr0 hn]
    simp only [Nat.zero_add]
    by_cases h1 : q = 1
    · rw [getNum_end D 1 (List.drop_eq_nil_of_le (by omega))]
    · obtain ⟨r1, hr1⟩ : ∃ r, D.drop 1 = (a : Int) :: r := ⟨D.drop 2, by
        obtain ⟨q', rfl⟩ : ∃ q', q = q' + 2 := ⟨q - 2, by omega⟩
        rw [← hD, hT]; rfl⟩
      rw [getNum_at D 1 a r1 hr1 (by omega)]
      simp only [Nat.reduceAdd]
      by_cases h2 : q = 2
      · rw [getNum_end D 2 (List.drop_eq_nil_of_le (by omega))]
      · obtain ⟨r2, hr2⟩ : ∃ r, D.drop 2 = (o : Int) :: r := ⟨D.drop 3, by
          obtain ⟨q', rfl⟩ : ∃ q', q = q' + 3 := ⟨q - 3, by omega⟩
          rw [← hD, hT]; rfl⟩
        rw [getNum_at D 2 o r2 hr2 (by omega)]
        have hp : hasPre (D.drop (Int.toNat ((0 : Nat) : Int))) (turnB a ((o : Int) - 1) n) = false := by
          simp only [Int.toNat_natCast, List.drop_zero, hasPre, hlen, hDl, Bool.and_eq_false_iff, decide_eq_false_iff_not]
          exact .inl (by omega)
        simp only [hp, Bool.and_false, Bool.false_eq_true, if_false]
theorem turnOf_empty : turnOf [] (0 : Nat) = none := by
  unfold turnOf
  rw [getNum_end [] 0 rfl]
/-- What is read and what is hot are the same, whichever is ahead. -/
def Sync (hotR hot : List Int) : Prop := hotR = hot ∨ hotR = hot.reverse
theorem Sync.c {hotR hot : List Int} (h : Sync hotR hot) (hk : hotOk hot = true) : hotC hotR = hotC hot := by
  rcases h with rfl | rfl
  · rfl
  · rcases hotOk_forms hk with rfl | ⟨a, ha, rfl⟩ | ⟨a, b, ha, hb, hab, rfl⟩
    · rfl
    · rfl
    · rcases ha with rfl | rfl | rfl | rfl <;> rcases hb with rfl | rfl | rfl | rfl <;> first | exact absurd rfl hab | decide
theorem touch_in {hot : List Int} (hk : hotOk hot = true) {hotR : List Int} (hs : Sync hotR hot) {c : Int} (he : extOf c ∈ hot) : Sync hotR ((touchAll hot c).take 2) := by
  unfold touchAll
  generalize extOf c = e at he
  rcases hotOk_forms hk with rfl | ⟨a, ha, rfl⟩ | ⟨a, b, ha, hb, hab, rfl⟩
  · simp at he
  · simp at he
    subst he
    have : without [e] e = [] := by simp [without]
    rw [this]
    exact hs
  · simp at he
    rcases he with rfl | rfl
    · have h1 : (b == e) = false := beq_eq_false_iff_ne.2 (fun h => hab h.symm)
      have : without [e, b] e = [b] := by simp [without, h1]
      rw [this]
      exact hs
    · have h1 : (a == e) = false := beq_eq_false_iff_ne.2 hab
      have : without [a, e] e = [a] := by simp [without, h1]
      rw [this]
      rcases hs with rfl | rfl
      · exact .inr rfl
      · exact .inl rfl
theorem touch_out {hot : List Int} (hk : hotOk hot = true) {hotR : List Int} (hs : Sync hotR hot) {c : Int} (hc : ¬ extOf c < 0) (he : ¬ extOf c ∈ hot) :
    ∃ o : Nat, o ≤ 4 ∧ touchX (touchAll hot c) = (o : Int) - 1 ∧ extOf c ≠ (o : Int) - 1 ∧ ¬ extOf c ∈ hotR ∧ (touchAll hot c).take 2 = extOf c :: without hotR ((o : Int) - 1) ∧ (hotR.length = 2 → (o : Int) - 1 ∈ hotR) ∧ (¬ hotR.length = 2 → (o : Int) - 1 = -1) := by
  have hr := extOf_rng hc
  unfold touchAll touchX
  generalize extOf c = e at he hr
  rcases hotOk_forms hk with rfl | ⟨a, ha, rfl⟩ | ⟨a, b, ha, hb, hab, rfl⟩
  · have : hotR = [] := by rcases hs with rfl | rfl <;> rfl
    subst this
    exact ⟨0, by omega, by simp [without], by simp; omega, by simp, by simp [without], by simp, by simp⟩
  · have : hotR = [a] := by rcases hs with rfl | rfl <;> rfl
    subst this
    have h0 : ¬ a = e := fun h => he (by simp [h])
    have h1 : (a == e) = false := beq_eq_false_iff_ne.2 h0
    have h2 : (a == -1) = false := beq_eq_false_iff_ne.2 (by omega)
    exact ⟨0, by omega, by simp [without, h1], by simp; omega, by simpa using fun h => h0 h.symm, by simp [without, h1, h2], by simp, by simp⟩
  · have h0 : ¬ a = e := fun h => he (by simp [h])
    have h0' : ¬ b = e := fun h => he (by simp [h])
    have h1 : (a == e) = false := beq_eq_false_iff_ne.2 h0
    have h2 : (b == e) = false := beq_eq_false_iff_ne.2 h0'
    have h3 : (a == b) = false := beq_eq_false_iff_ne.2 hab
    obtain ⟨o, ho⟩ : ∃ o : Nat, (o : Int) - 1 = b := ⟨(b + 1).toNat, by omega⟩
    refine ⟨o, by omega, ?_⟩
    rw [ho]
    rcases hs with rfl | rfl
    · exact ⟨by simp [without, h1, h2], fun h => h0' h.symm, by simp; exact ⟨fun h => h0 h.symm, fun h => h0' h.symm⟩, by simp [without, h1, h2, h3], by simp, by simp⟩
    · exact ⟨by simp [without, h1, h2], fun h => h0' h.symm, by simp; exact ⟨fun h => h0' h.symm, fun h => h0 h.symm⟩, by simp [without, h1, h2, h3], by simp, by simp⟩
theorem repF_stop {b hot : List Int} {i k f : Nat} (h : turnOf (b.drop i) (0 : Nat) = none) (hf : 0 < f) : repF b f hot i k = (hot, i) := by
  obtain ⟨f, rfl⟩ : ∃ f', f = f' + 1 := ⟨f - 1, by omega⟩
  simp only [repF, repNext, turnOf_drop b i, h]
theorem repF_step {b hot hot' : List Int} {i n a o f : Nat} (ho4 : o ≤ 4) (ha : a ≤ 3) (hn : n ≤ 127) (hok : turnOk a ((o : Int) - 1) n = true) {rest : List Int} (hd : b.drop i = turnB a ((o : Int) - 1) n ++ rest) (h1 : ¬ (a : Int) ∈ hot)
    (h2 : hot.length = 2 → (o : Int) - 1 ∈ hot) (h3 : ¬ hot.length = 2 → (o : Int) - 1 = -1) (he : hot' = (a : Int) :: without hot ((o : Int) - 1)) : repF b (f + 1) hot i n = repF b f hot' (i + 7) (n + 1) := by
  obtain ⟨f0, f1, f2, f3, hT⟩ := turnB_short ha ho4 hn
  have hlen : (turnB a ((o : Int) - 1) n).length = 7 := by rw [hT]; rfl
  have ht : turnOf b (i : Nat) = some (n, a, o, turnB a ((o : Int) - 1) n) := by rw [turnOf_drop, hd]; exact turnOf_whole ha ho4 hn hok rest
  have hx : repNext b hot i n = some (hot', i + 7) := by
    unfold repNext
    rw [ht]
    simp only [if_true, if_neg h1, hlen]
    by_cases hl : hot.length = 2
    · rw [if_pos hl, if_pos (h2 hl), he]
    · rw [if_neg hl, if_pos (h3 hl), he]
  simp only [repF, hx]
theorem torn_gen : ∀ (r B hot : List Int) (n : Nat) (hotR : List Int) (p f : Nat), hotOk hot = true → Sync hotR hot → 1 ≤ n → n + r.length ≤ 127 → B.length ≤ p →
    ((bookF (B, hot, n) r).1.take p).length < B.length + 7 * f →
    (∃ j, j ≤ r.length ∧ Sync (repF ((bookF (B, hot, n) r).1.take p) f hotR B.length n).1 (bookF (B, hot, n) (r.take j)).2.1 ∧ hotOk (bookF (B, hot, n) (r.take j)).2.1 = true) ∧
    B.length ≤ (repF ((bookF (B, hot, n) r).1.take p) f hotR B.length n).2 ∧
    (repF ((bookF (B, hot, n) r).1.take p) f hotR B.length n).2 ≤ ((bookF (B, hot, n) r).1.take p).length ∧
    ∀ f', (repF ((bookF (B, hot, n) r).1.take p) f hotR B.length n).2 < B.length + 7 * f' →
      repF (((bookF (B, hot, n) r).1.take p).take (repF ((bookF (B, hot, n) r).1.take p) f hotR B.length n).2) f' hotR B.length n = repF ((bookF (B, hot, n) r).1.take p) f hotR B.length n := by
  intro r
  induction r with
  | nil =>
    intro B hot n hotR p f hk hs hn hr hB hf
    have hb : (bookF (B, hot, n) []).1.take p = B := by simp only [bookF]; exact List.take_of_length_le hB
    rw [hb] at hf ⊢
    have h0 : repF B f hotR B.length n = (hotR, B.length) := repF_stop (by rw [List.drop_length]; exact turnOf_empty) (by omega)
    rw [h0]
    refine ⟨⟨0, Nat.le_refl _, hs, hk⟩, Nat.le_refl _, Nat.le_refl _, fun f' hf' => ?_⟩
    simp only at hf' ⊢
    rw [List.take_length]
    exact repF_stop (by rw [List.drop_length]; exact turnOf_empty) (by omega)
  | cons c r ih =>
    intro B hot n hotR p f hk hs hn hr hB hf
    simp only [List.length_cons] at hr
    by_cases hc : extOf c < 0
    · have hst : bookStep (B, hot, n) c = (B, hot, n) := by simp [bookStep, hc]
      simp only [bookF, hst] at hf ⊢
      obtain ⟨⟨j, h1, h2, h2'⟩, h3⟩ := ih B hot n hotR p f hk hs hn (by omega) hB hf
      refine ⟨⟨j + 1, by simp; omega, ?_, ?_⟩, h3⟩
      · simpa only [List.take_succ_cons, bookF, hst] using h2
      · simpa only [List.take_succ_cons, bookF, hst] using h2'
    · by_cases hm : extOf c ∈ hot
      · have hst : bookStep (B, hot, n) c = (B, (touchAll hot c).take 2, n) := by simp [bookStep, hc, hm]
        simp only [bookF, hst] at hf ⊢
        obtain ⟨⟨j, h1, h2, h2'⟩, h3⟩ := ih B _ n hotR p f (hotOk_touch hk hc) (touch_in hk hs hm) hn (by omega) hB hf
        refine ⟨⟨j + 1, by simp; omega, ?_, ?_⟩, h3⟩
        · simpa only [List.take_succ_cons, bookF, hst] using h2
        · simpa only [List.take_succ_cons, bookF, hst] using h2'
      · obtain ⟨o, ho4, hox, hoe, hne, htk, ho2, ho3⟩ := touch_out hk hs hc hm
        have her := extOf_rng hc
        obtain ⟨a, ha⟩ : ∃ a : Nat, extOf c = a := ⟨(extOf c).toNat, by omega⟩
        have ha3 : a ≤ 3 := by omega
        have hok : turnOk a ((o : Int) - 1) n = true := by
          simp only [turnOk, Bool.and_eq_true, Bool.not_eq_true', beq_eq_false_iff_ne]
          exact ⟨⟨⟨rng_iff.2 (by omega), rng_iff.2 (by omega)⟩, by rw [← ha]; exact hoe⟩, rng_iff.2 (by omega)⟩
        obtain ⟨f0, f1, f2, f3, hT⟩ := turnB_short ha3 ho4 (show n ≤ 127 by omega)
        have hlen : (turnB a ((o : Int) - 1) n).length = 7 := by rw [hT]; rfl
        have hst : bookStep (B, hot, n) c = (B ++ turnB a ((o : Int) - 1) n, (touchAll hot c).take 2, n + 1) := by
          have hc' := hc
          have hm' := hm
          rw [ha] at hc' hm'
          simp only [bookStep, ha, if_neg hc', if_neg hm', hox, turnR, hok, if_true]
        obtain ⟨t, ht⟩ := bookF_ext' r (B ++ turnB a ((o : Int) - 1) n, (touchAll hot c).take 2, n + 1)
        have hk2 := hotOk_touch hk hc
        rw [ha] at htk hne
        simp only [bookF, hst] at hf ⊢
        by_cases hp : B.length + 7 ≤ p
        · have hBl : (B ++ turnB a ((o : Int) - 1) n).length = B.length + 7 := by rw [List.length_append, hlen]
          have hfull : (bookF (B ++ turnB a ((o : Int) - 1) n, (touchAll hot c).take 2, n + 1) r).1.take p = (B ++ turnB a ((o : Int) - 1) n) ++ t.take (p - (B.length + 7)) := by
            rw [ht]
            simp only
            rw [List.take_append, hBl, List.take_of_length_le (by omega)]
          have hf0 : 0 < f := by
            rw [hfull, List.length_append, hBl] at hf
            omega
          obtain ⟨f', rfl⟩ : ∃ f', f = f' + 1 := ⟨f - 1, by omega⟩
          have hstep : ∀ (b' : List Int) (g : Nat) (rest : List Int), b'.drop B.length = turnB a ((o : Int) - 1) n ++ rest → repF b' (g + 1) hotR B.length n = repF b' g ((touchAll hot c).take 2) (B.length + 7) (n + 1) :=
            fun b' g rest hd => repF_step ho4 ha3 (by omega) hok hd hne ho2 ho3 htk
          obtain ⟨⟨j, h1, h2, h2'⟩, h3, h4, h5⟩ := ih (B ++ turnB a ((o : Int) - 1) n) _ (n + 1) ((touchAll hot c).take 2) p f' hk2 (.inl rfl) (by omega) (by omega) (by omega) (by rw [hBl]; omega)
          have hd1 : ((bookF (B ++ turnB a ((o : Int) - 1) n, (touchAll hot c).take 2, n + 1) r).1.take p).drop B.length = turnB a ((o : Int) - 1) n ++ t.take (p - (B.length + 7)) := by
            rw [hfull, List.append_assoc, List.drop_left]
          rw [hstep _ _ _ hd1]
          rw [hBl] at h2 h3 h4 h5
          generalize hb' : (bookF (B ++ turnB a ((o : Int) - 1) n, (touchAll hot c).take 2, n + 1) r).1.take p = b' at *
          generalize hres : repF b' f' ((touchAll hot c).take 2) (B.length + 7) (n + 1) = res at *
          refine ⟨⟨j + 1, by simp; omega, ?_, ?_⟩, by omega, h4, fun g hg => ?_⟩
          · simpa only [List.take_succ_cons, bookF, hst] using h2
          · simpa only [List.take_succ_cons, bookF, hst] using h2'
          · obtain ⟨g', rfl⟩ : ∃ g', g = g' + 1 := ⟨g - 1, by omega⟩
            have hd2 : (b'.take res.2).drop B.length = turnB a ((o : Int) - 1) n ++ (t.take (p - (B.length + 7))).take (res.2 - (B.length + 7)) := by
              rw [List.drop_take, hd1, List.take_append, hlen, List.take_of_length_le (by omega)]
              congr 2
            rw [hstep _ _ _ hd2]
            exact h5 g' (by omega)
        · have hBT : (bookF (B ++ turnB a ((o : Int) - 1) n, (touchAll hot c).take 2, n + 1) r).1.take p = B ++ (turnB a ((o : Int) - 1) n).take (p - B.length) := by
            rw [ht]
            simp only
            rw [List.append_assoc, List.take_append, List.take_of_length_le hB, List.take_append_of_le_length (by omega)]
          rw [hBT] at hf ⊢
          have hf0 : 0 < f := by
            rw [List.length_append] at hf
            omega
          have hstop : repF (B ++ (turnB a ((o : Int) - 1) n).take (p - B.length)) f hotR B.length n = (hotR, B.length) := repF_stop (by rw [List.drop_left]; exact turnOf_cut ha3 ho4 (by omega) _ (by omega)) hf0
          rw [hstop]
          refine ⟨⟨0, by omega, hs, hk⟩, Nat.le_refl _, by simp, fun g hg => ?_⟩
          simp only at hg ⊢
          rw [List.take_left]
          exact repF_stop (by rw [List.drop_length]; exact turnOf_empty) (by omega)
end Go.Proofs.Ytdagbeihjobmjaa.Eng.B
