/- The program's BitsBytes answers as the reference's BitsBytes does, for every list, with memory of its own, and leaves the list as it was. -/
import Derived.Test.YtklphaicchmmoaaPFnExactBitsBytesx4
import Derived.Test.YtklphaicchmmoaaGen
namespace Go.Proofs.Ytklphaicchmmoaa.Pure
open Go.RowKit Go.Proofs.Ytklphaicchmmoaa.PFnExactBitsBytes Go.Proofs.YtklphaicchmmoaaW.PrintWords Go.Proofs.YtklphaicchmmoaaW.PrintLast Go.Proofs.Ytklphaicchmmoaa.Gen
set_option linter.unusedVariables false
theorem toIntS_ev (l : List Int) (hl : l.length ≤ 35184372088832) : Ev (fun k => laws_toIntS.f k l) l := by
  refine Ev.pos (by omega) (Ev.pos (by omega) ?_)
  rw [Int.toNat_natCast]
  exact copy_ev (fun _ _ _ _ => rfl) l (by omega)
theorem eqIntS_ev (a b : List Int) (hl : a.length ≤ 35184372088832) : Ev (fun k => laws_eqIntS.f k a b) (decide (a = b)) := by
  by_cases h : a.length = b.length
  · exact Ev.pos (by omega) (eq_ev (fun _ _ _ _ => rfl) a b h (by omega))
  · refine Ev.neg (by omega) (Ev.some ?_)
    symm
    apply decide_eq_false
    rintro rfl
    exact h rfl
theorem eqByteS_ev (a b : List Int) (hl : a.length ≤ 35184372088832) : Ev (fun k => laws_eqByteS.f k a b) (decide (a = b)) := by
  by_cases h : a.length = b.length
  · exact Ev.pos (by omega) (eq_ev (fun _ _ _ _ => rfl) a b h (by omega))
  · refine Ev.neg (by omega) (Ev.some ?_)
    symm
    apply decide_eq_false
    rintro rfl
    exact h rfl
theorem markIntS_ev (a : List Int) (n : Int) (hn : 0 ≤ n) (hl : n + a.length ≤ 9223372036854775806) : Ev (fun k => laws_markIntS.f k a n) (n + a.length, marks id n a.length) :=
  mark_ev (m := id) (fun _ _ _ _ => rfl) a n hn hl
theorem markByteS_ev (a : List Int) (n : Int) (hn : 0 ≤ n) (hl : n + a.length ≤ 9223372036854775806) : Ev (fun k => laws_markByteS.f k a n) (n + a.length, marks (· % 256) n a.length) :=
  mark_ev (m := (· % 256)) (fun _ _ _ _ => rfl) a n hn hl
theorem heldByteS_ev (N : Nat) (n : Int) (hn : 0 ≤ n) (hl : n + N ≤ 9223372036854775806) : Ev (fun k => laws_heldByteS.f k (marks (· % 256) n N) n) (n + N) :=
  held_ev (m := (· % 256)) (fun _ _ _ _ => rfl) N n hn hl
theorem l1In_is (a b c : Int) : spec_l1In.f a b c = some (decide (b ≤ a ∧ a ≤ c)) := by
  unfold spec_l1In.f
  by_cases h : a ≥ b
  · rw [if_pos h]; simp [show b ≤ a from h]
  · rw [if_neg h]; simp [show ¬ b ≤ a from h]
theorem from_is (a b c : Int) : impl_from.f a b c = some (decide (b ≤ a ∧ a ≤ c)) := by
  unfold impl_from.f
  by_cases h : a ≥ b
  · rw [if_pos h]; simp [show b ≤ a from h]
  · rw [if_neg h]; simp [show ¬ b ≤ a from h]
theorem isCell_is (a : Int) : impl_isCell.f a = some (decide (0 ≤ a ∧ a ≤ 7)) := by unfold impl_isCell.f; rw [from_is]; rfl
def mk1 (l : List Int) (i : Nat) : Bool := decide (0 ≤ l.getD i 0 ∧ l.getD i 0 ≤ 7) && (decide (i = 0) || !decide (l.getD (i - 1) 0 ≥ l.getD i 0))
def marksOk (l : List Int) : Bool := (List.range l.length).all (mk1 l)
theorem sMarksOk_ev (l : List Int) (hl : l.length ≤ 35184372088832) : Ev (fun k => spec_MarksOk.f k l) (marksOk l) := by
  have h := all_ev (G := fun k i => spec_MarksOk.l0 k l i) (n := l.length) (p := mk1 l) (b := true) ?_ ?_ ?_
  · rw [Bool.and_true] at h; exact h
  · exact Ev.step (fun k => rfl) (Ev.neg (by omega) (Ev.some rfl))
  · intro i hi hp
    refine Ev.step (fun k => rfl) (Ev.pos (by omega) (Ev.pos (by omega) ?_))
    rw [l1In_is, rd_nat]
    simp only [Option.bind_some]
    unfold mk1 at hp
    cases h : decide (0 ≤ l.getD i 0 ∧ l.getD i 0 ≤ 7) with
    | false => exact Ev.neg (by simp) (Ev.some rfl)
    | true =>
      rw [h, Bool.true_and, Bool.or_eq_false_iff] at hp
      have h0 : i ≠ 0 := by simpa using hp.1
      refine Ev.pos rfl (Ev.pos (by omega) ?_)
      rw [wrap_pred hi (by omega) (by omega), rd_nat]
      exact Ev.pos (by omega) (Ev.pos (by omega) (Ev.pos (by simpa using hp.2) (Ev.some rfl)))
  · intro i hi hp r hr
    refine Ev.step (fun k => rfl) (Ev.pos (by omega) (Ev.pos (by omega) ?_))
    rw [l1In_is, rd_nat]
    simp only [Option.bind_some]
    unfold mk1 at hp
    rw [Bool.and_eq_true, Bool.or_eq_true] at hp
    rw [hp.1, wrap_succ hi (by omega)]
    refine Ev.pos rfl ?_
    by_cases h0 : i = 0
    · exact Ev.neg (by omega) hr
    · rw [wrap_pred hi (by omega) (by omega), rd_nat]
      exact Ev.pos (by omega) (Ev.pos (by omega) (Ev.pos (by omega) (Ev.neg (by simpa [h0] using hp.2) hr)))
theorem iMarksOk_ev (l : List Int) (hl : l.length ≤ 35184372088832) : Ev (fun k => impl_MarksOk.f k l) (marksOk l) := by
  have h := all_ev (G := fun k i => impl_MarksOk.l0 k l l (l.length : Int) i) (n := l.length) (p := mk1 l) (b := true) ?_ ?_ ?_
  · rw [Bool.and_true] at h; exact h
  · exact Ev.step (fun k => rfl) (Ev.neg (by omega) (Ev.some rfl))
  · intro i hi hp
    refine Ev.step (fun k => rfl) (Ev.pos (by omega) (Ev.pos (by omega) (Ev.pos (by omega) ?_)))
    rw [isCell_is, rd_nat]
    simp only [Option.bind_some]
    unfold mk1 at hp
    cases h : decide (0 ≤ l.getD i 0 ∧ l.getD i 0 ≤ 7) with
    | false => exact Ev.neg (by simp) (Ev.some rfl)
    | true =>
      rw [h, Bool.true_and, Bool.or_eq_false_iff] at hp
      have h0 : i ≠ 0 := by simpa using hp.1
      refine Ev.pos rfl (Ev.pos (by omega) ?_)
      rw [wrap_pred hi (by omega) (by omega), rd_nat]
      exact Ev.pos (by omega) (Ev.pos (by omega) (Ev.pos (by simpa using hp.2) (Ev.some rfl)))
  · intro i hi hp r hr
    refine Ev.step (fun k => rfl) (Ev.pos (by omega) (Ev.pos (by omega) (Ev.pos (by omega) ?_)))
    rw [isCell_is, rd_nat]
    simp only [Option.bind_some]
    unfold mk1 at hp
    rw [Bool.and_eq_true, Bool.or_eq_true] at hp
    rw [hp.1, wrap_succ hi (by omega)]
    refine Ev.pos rfl ?_
    by_cases h0 : i = 0
    · exact Ev.neg (by omega) hr
    · rw [wrap_pred hi (by omega) (by omega), rd_nat]
      exact Ev.pos (by omega) (Ev.pos (by omega) (Ev.pos (by omega) (Ev.neg (by simpa [h0] using hp.2) hr)))
theorem l2Has_ev (a : List Int) (n : Int) (hl : a.length ≤ 281474976710656) : Ev (fun k => spec_l2Has.f k a n) (a.contains n) := has_ev (fun _ _ _ _ => rfl) a n hl
theorem contains_ev (a : List Int) (n : Int) (hl : a.length ≤ 281474976710656) : Ev (fun k => slices_Contains_int_int.f k a n) (a.contains n) := by
  obtain ⟨r, hr, he⟩ := index_ev (F := slices_Index_int_int.l0) (fun _ _ _ _ _ => rfl) a n hl
  exact Ev.bind hr (Ev.some he)
def runStep (l : List Int) (s : List Int × Bool × Int) (i : Nat) : List Int × Bool × Int :=
  if (l.contains (i : Int) != s.2.1) = true then (s.1 ++ [s.2.2], !s.2.1, 0 + 1) else (s.1, s.2.1, wrap64 (s.2.2 + 1))
def runSt (l : List Int) : Nat → List Int × Bool × Int
  | 0 => ([], false, 0)
  | i + 1 => runStep l (runSt l i) i
theorem runSt_len (l : List Int) (i : Nat) : (runSt l i).1.length ≤ i := by
  induction i with
  | zero => simp [runSt]
  | succ i ih =>
    simp only [runSt, runStep]
    split
    · simp; omega
    · simp; omega
def runsOf (l : List Int) : List Int := if marksOk l = true then (runSt l 8).1 ++ [(runSt l 8).2.2] else []
theorem runsOf_len (l : List Int) : (runsOf l).length ≤ 9 := by
  unfold runsOf
  have := runSt_len l 8
  split
  · simp; omega
  · simp
theorem sRuns_ev (l : List Int) (hl : l.length ≤ 35184372088832) : Ev (fun k => spec_Runs.f k l) (runsOf l) := by
  refine Ev.bind (Ev.now _) (Ev.bind (sMarksOk_ev l hl) ?_)
  unfold runsOf
  cases marksOk l
  · exact Ev.neg (by simp) (Ev.some (by simp))
  · refine Ev.pos rfl ?_
    refine fold_ev (G := fun k (s : List Int × Bool × Int) i => spec_Runs.l0 k l s.1 s.2.1 s.2.2 i) (n := 8) (st := runSt l) ?_ ?_
    · have := runSt_len l 8
      refine Ev.step (fun k => rfl) (Ev.neg (by omega) (Ev.pos (by omega) (Ev.some (by simp))))
    · intro i hi r hr
      have h8 := runSt_len l i
      refine Ev.step (fun k => rfl) (Ev.pos (by omega) (Ev.bind (l2Has_ev l i (by omega)) ?_))
      rw [wrap_succ hi (by omega)]
      simp only [runSt, runStep] at hr
      by_cases h : (l.contains (i : Int) != (runSt l i).2.1) = true
      · rw [if_pos h] at hr
        exact Ev.pos h (Ev.pos (by omega) hr)
      · rw [if_neg h] at hr
        exact Ev.neg h hr
theorem iRuns_ev (l : List Int) (hl : l.length ≤ 35184372088832) : Ev (fun k => impl_Runs.f k l) (runsOf l) := by
  refine Ev.bind (Ev.now _) (Ev.bind (iMarksOk_ev l hl) ?_)
  unfold runsOf
  cases marksOk l
  · exact Ev.neg (by simp) (Ev.some (by simp))
  · refine Ev.pos rfl ?_
    refine fold_ev (G := fun k (s : List Int × Bool × Int) i => impl_Runs.l0 k l s.1 s.2.1 s.2.2 i) (n := 8) (st := runSt l) ?_ ?_
    · have := runSt_len l 8
      refine Ev.step (fun k => rfl) (Ev.neg (by omega) (Ev.pos (by omega) (Ev.some (by simp))))
    · intro i hi r hr
      have h8 := runSt_len l i
      refine Ev.step (fun k => rfl) (Ev.pos (by omega) (Ev.bind (contains_ev l i (by omega)) ?_))
      rw [wrap_succ hi (by omega)]
      simp only [runSt, runStep] at hr
      by_cases h : (l.contains (i : Int) != (runSt l i).2.1) = true
      · rw [if_pos h] at hr
        exact Ev.pos h (Ev.pos (by omega) hr)
      · rw [if_neg h] at hr
        exact Ev.neg h hr
/-- A number in steps of seven bits. -/
def putGo : Nat → Int → List Int
  | 0, _ => []
  | f + 1, n => if n > 127 then (wrap64 (Int.tmod n 128 + 128)) % 256 :: putGo f (wrap64 (Int.tdiv n 128)) else [n % 256]
def putNum (n : Int) : List Int := if 0 ≤ n ∧ n ≤ 2147483647 then putGo 5 n else []
theorem putGo_len (f : Nat) (n : Int) : (putGo f n).length ≤ f := by
  induction f generalizing n with
  | zero => simp [putGo]
  | succ f ih =>
    simp only [putGo]
    split
    · have := ih (wrap64 (Int.tdiv n 128))
      simp; omega
    · simp
theorem putNum_len (n : Int) : (putNum n).length ≤ 5 := by
  unfold putNum
  split
  · exact putGo_len 5 n
  · simp
theorem put_ev {F : Nat → Int → List Int → Option (List Int)}
    (hF : ∀ k x0 x3, F (k + 1) x0 x3 = if x0 > 127 then (if x3.length < 140737488355328 then (F k (wrap64 (Int.tdiv x0 128)) (x3 ++ [(wrap64 ((Int.tmod x0 128) + 128)) % 256])) else (none)) else (if x3.length < 140737488355328 then (some (x3 ++ [(x0) % 256])) else (none)))
    (f : Nat) (n : Int) (acc : List Int) (h0 : 0 ≤ n) (h1 : n < 128 ^ (f + 1)) (h2 : n ≤ 2147483647) (ha : acc.length + f + 1 < 140737488355328) : Ev (fun k => F k n acc) (acc ++ putGo (f + 1) n) := by
  induction f generalizing n acc with
  | zero =>
    have : ¬ n > 127 := by omega
    simp only [putGo, if_neg this]
    exact Ev.step (fun k => hF k _ _) (Ev.neg this (Ev.pos (by omega) (Ev.now _)))
  | succ f ih =>
    by_cases h : n > 127
    · simp only [putGo, if_pos h]
      refine Ev.step (fun k => hF k _ _) (Ev.pos h (Ev.pos (by omega) ?_))
      have e : wrap64 (Int.tdiv n 128) = n / 128 := by
        rw [Int.tdiv_eq_ediv_of_nonneg h0]
        unfold wrap64
        omega
      rw [e]
      have hp : (128 : Int) ^ (f + 1 + 1) = 128 ^ (f + 1) * 128 := Int.pow_succ ..
      have := ih (n / 128) (acc ++ [(wrap64 ((Int.tmod n 128) + 128)) % 256]) (by omega) (by omega) (by omega) (by simp; omega)
      simpa [putGo] using this
    · simp only [putGo, if_neg h]
      exact Ev.step (fun k => hF k _ _) (Ev.neg h (Ev.pos (by omega) (Ev.now _)))
theorem sPutNum_ev (n : Int) : Ev (fun k => spec_PutNum.f k n) (putNum n) := by
  refine Ev.bind (Ev.now _) ?_
  rw [l1In_is]
  simp only [Option.bind_some]
  unfold putNum
  by_cases h : 0 ≤ n ∧ n ≤ 2147483647
  · rw [if_pos h]
    refine Ev.pos (by simpa using h) ?_
    have := put_ev (F := spec_PutNum.l0) (fun _ _ _ => rfl) 4 n [] h.1 (by omega) h.2 (by simp)
    simpa using this
  · rw [if_neg h]
    exact Ev.neg (by simpa using h) (Ev.now _)
theorem iPutNum_ev (n : Int) : Ev (fun k => impl_PutNum.f k n) (putNum n) := by
  unfold putNum
  by_cases h : 0 ≤ n ∧ n ≤ 2147483647
  · rw [if_pos h]
    refine Ev.neg (by omega) ?_
    refine Ev.step (fun k => impl_PutNum.j0.eq_2 ..) (Ev.neg (by simp; omega) ?_)
    have := put_ev (F := impl_PutNum.l0) (fun _ _ _ => rfl) 4 n [] h.1 (by omega) h.2 (by simp)
    simpa using this
  · rw [if_neg h]
    by_cases h0 : n < 0
    · exact Ev.pos h0 (Ev.step (fun k => impl_PutNum.j0.eq_2 ..) (Ev.pos rfl (Ev.now _)))
    · exact Ev.neg h0 (Ev.step (fun k => impl_PutNum.j0.eq_2 ..) (Ev.pos (by simp; omega) (Ev.now _)))
def putNums (l : List Int) : List Int := l.flatMap putNum
theorem putNums_len (l : List Int) : (putNums l).length ≤ 5 * l.length := by
  unfold putNums
  induction l with
  | nil => simp
  | cons a l ih =>
    have := putNum_len a
    simp only [List.flatMap_cons, List.length_append, List.length_cons]
    omega
theorem putNums_take (l : List Int) (i : Nat) (h : i < l.length) : putNums (l.take (i + 1)) = putNums (l.take i) ++ putNum l[i] := by
  unfold putNums
  rw [← List.take_append_getElem h, List.flatMap_append]
  simp
theorem iPutNums_ev (l : List Int) (hl : l.length ≤ 1048576) : Ev (fun k => impl_putNums.f k l) (putNums l) := by
  refine fold_ev (G := fun k (s : List Int) i => impl_putNums.l0 k s l (l.length : Int) i) (n := l.length) (st := fun i => putNums (l.take i)) ?_ ?_
  · refine Ev.step (fun k => rfl) (Ev.neg (by omega) (Ev.some ?_))
    simp only [List.take_length]
  · intro i hi r hr
    refine Ev.step (fun k => rfl) (Ev.pos (by omega) (Ev.pos (by omega) (Ev.pos (by omega) (Ev.bind (iPutNum_ev _) ?_))))
    rw [rd_get hi]
    have h1 := putNums_len (l.take i)
    have h2 := putNum_len l[i]
    have h3 : (l.take i).length ≤ l.length := by rw [List.length_take]; omega
    refine Ev.pos (by omega) ?_
    rw [wrap_succ hi (by omega)]
    rw [putNums_take l i hi] at hr
    exact hr
def bitsBytes (l : List Int) : List Int := if marksOk l = true then putNum ((runsOf l).length : Int) ++ putNums (runsOf l) else []
theorem bitsBytes_len (l : List Int) : (bitsBytes l).length ≤ 50 := by
  unfold bitsBytes
  have h1 := putNum_len ((runsOf l).length : Int)
  have h2 := putNums_len (runsOf l)
  have h3 := runsOf_len l
  split
  · simp; omega
  · simp
theorem sBitsBytes_ev (l : List Int) (hl : l.length ≤ 35184372088832) : Ev (fun k => spec_BitsBytes.f k l) (bitsBytes l) := by
  refine Ev.bind (sRuns_ev l hl) ?_
  have h1 := putNum_len ((runsOf l).length : Int)
  have h3 := runsOf_len l
  unfold bitsBytes
  by_cases h : marksOk l = true
  · rw [if_pos h]
    have hp : (runsOf l).length ≠ 0 := by simp [runsOf, h]
    refine Ev.neg (by omega) (Ev.bind (sPutNum_ev _) ?_)
    suffices hk : Ev (fun k => spec_BitsBytes.l0 k (runsOf l) (putNum ((runsOf l).length : Int) ++ putNums ((runsOf l).take 0)) 0) (putNum ((runsOf l).length : Int) ++ putNums (runsOf l)) by
      simpa [putNums] using hk
    refine fold_ev (G := fun k (s : List Int) i => spec_BitsBytes.l0 k (runsOf l) s i) (n := (runsOf l).length) (st := fun i => putNum ((runsOf l).length : Int) ++ putNums ((runsOf l).take i)) ?_ ?_
    · refine Ev.step (fun k => rfl) (Ev.neg (by omega) (Ev.some ?_))
      simp only [List.take_length]
    · intro i hi r hr
      refine Ev.step (fun k => rfl) (Ev.pos (by omega) (Ev.pos (by omega) (Ev.bind (sPutNum_ev _) ?_)))
      rw [rd_get hi]
      have h4 := putNums_len ((runsOf l).take i)
      have h5 := putNum_len (runsOf l)[i]
      have h6 : ((runsOf l).take i).length ≤ (runsOf l).length := by rw [List.length_take]; omega
      refine Ev.pos (by simp; omega) ?_
      rw [wrap_succ hi (by omega)]
      rw [putNums_take _ i hi, ← List.append_assoc] at hr
      exact hr
  · have hp : (runsOf l) = [] := by simp [runsOf, h]
    rw [if_neg h, hp]
    exact Ev.pos (by simp) (Ev.now _)
theorem iBitsBytes_ev (l : List Int) (hl : l.length ≤ 35184372088832) : Ev (fun k => impl_BitsBytes.f k l) (bitsBytes l) := by
  refine Ev.bind (iMarksOk_ev l hl) ?_
  have h3 := runsOf_len l
  have h4 := putNums_len (runsOf l)
  have h5 := putNums_len [((runsOf l).length : Int)]
  unfold bitsBytes
  by_cases h : marksOk l = true
  · rw [if_pos h]
    refine Ev.pos h (Ev.bind (iRuns_ev l hl) (Ev.bind (a := putNum ((runsOf l).length : Int) ++ putNums (runsOf l)) ?_ (Ev.now _)))
    refine Ev.bind (iPutNums_ev _ (by simp)) (Ev.bind (iPutNums_ev _ (by omega)) (Ev.pos (by simp at h5; omega) (Ev.some (by simp [putNums]))))
  · rw [if_neg h]
    exact Ev.neg h (Ev.now _)
theorem FnExactBitsBytes : laws_FnExactBitsBytes.Pure := by
  intro l _ _ _
  refine Ev.rounds ?_
  by_cases hb : (l.length : Int) > 1048576
  · exact Ev.pos hb (Ev.some rfl)
  have h := toIntS_ev l (by omega)
  have hs := sBitsBytes_ev l (by omega)
  have hi := iBitsBytes_ev l (by omega)
  have hL := bitsBytes_len l
  have e := eqByteS_ev (bitsBytes l) (bitsBytes l) (by omega)
  have m := markByteS_ev (bitsBytes l) 1 (by omega) (by omega)
  have hd := heldByteS_ev (bitsBytes l).length 1 (by omega) (by omega)
  refine Ev.neg hb (Ev.bind h (Ev.bind hs (Ev.bind h (Ev.bind hi (Ev.bind e (Ev.pos (by simp) (Ev.bind h (Ev.bind (eqIntS_ev l l (by omega)) (Ev.pos (by simp) (Ev.bind (markIntS_ev l 1 (by omega) (by omega)) (Ev.neg (by simp; omega) (Ev.bind e ?_))))))))))))
  refine Ev.step (fun k => rfl) (Ev.neg (by simp) (Ev.bind m (Ev.bind hd (Ev.neg (by omega) (Ev.pos rfl (Ev.bind h (Ev.bind hi (Ev.bind e (Ev.pos (by simp) (Ev.bind hd (Ev.neg (by omega) (Ev.pos rfl (Ev.some rfl)))))))))))))
end Go.Proofs.Ytklphaicchmmoaa.Pure
