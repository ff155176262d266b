/- The program's TurnBytes answers as the reference's TurnBytes does, for all numbers, with memory of its own. -/
import Derived.Test.YtklphaicchmmoaaPFnExactTurnBytesx2
import Derived.Test.YtklphaicchmmoaaGen
namespace Go.Proofs.Ytklphaicchmmoaa.Pure
open Go.RowKit Go.Proofs.Ytklphaicchmmoaa.PFnExactTurnBytes Go.Proofs.YtklphaicchmmoaaW.PrintWords Go.Proofs.YtklphaicchmmoaaW.PrintLast Go.Proofs.Ytklphaicchmmoaa.Gen
set_option linter.unusedVariables false
theorem eqByteS_ev (a b : List Int) (hl : a.length ≤ 35184372088832) : Ev (fun k => laws_eqByteS.f k a b) (decide (a = b)) := by
  by_cases h : a.length = b.length
  · exact Ev.pos (by omega) (eq_ev (fun _ _ _ _ => rfl) a b h (by omega))
  · refine Ev.neg (by omega) (Ev.some ?_)
    symm
    apply decide_eq_false
    rintro rfl
    exact h rfl
theorem markByteS_ev (a : List Int) (n : Int) (hn : 0 ≤ n) (hl : n + a.length ≤ 9223372036854775806) : Ev (fun k => laws_markByteS.f k a n) (n + a.length, marks (· % 256) n a.length) :=
  mark_ev (m := (· % 256)) (fun _ _ _ _ => rfl) a n hn hl
theorem heldByteS_ev (N : Nat) (n : Int) (hn : 0 ≤ n) (hl : n + N ≤ 9223372036854775806) : Ev (fun k => laws_heldByteS.f k (marks (· % 256) n N) n) (n + N) :=
  held_ev (m := (· % 256)) (fun _ _ _ _ => rfl) N n hn hl
theorem l1In_is (a b c : Int) : spec_l1In.f a b c = some (decide (b ≤ a ∧ a ≤ c)) := by
  unfold spec_l1In.f
  by_cases h : a ≥ b
  · rw [if_pos h]; simp [show b ≤ a from h]
  · rw [if_neg h]; simp [show ¬ b ≤ a from h]
theorem from_is (a b c : Int) : impl_from.f a b c = some (decide (b ≤ a ∧ a ≤ c)) := by
  unfold impl_from.f
  by_cases h : a ≥ b
  · rw [if_pos h]; simp [show b ≤ a from h]
  · rw [if_neg h]; simp [show ¬ b ≤ a from h]
theorem isExt_is (a : Int) : impl_isExt.f a = some (decide (0 ≤ a ∧ a ≤ 3)) := by unfold impl_isExt.f; rw [from_is]; rfl
def sumStep (s : Int × Int) (b : Int) : Int × Int := (Int.tmod (wrap64 (s.1 + wrap64 b)) 65521, Int.tmod (wrap64 (s.2 + Int.tmod (wrap64 (s.1 + wrap64 b)) 65521)) 65521)
def sumOf (l : List Int) : Int := let s := l.foldl sumStep (1, 0); wrap64 (wrap64 (s.2 * 65536) + s.1)
theorem sSumOf_ev (l : List Int) (hl : l.length ≤ 281474976710656) : Ev (fun k => spec_SumOf.f k l) (sumOf l) := by
  refine fold_ev (G := fun k (s : Int × Int) i => spec_SumOf.l0 k l s.1 s.2 i) (n := l.length) (st := fun i => (l.take i).foldl sumStep (1, 0)) ?_ ?_
  · refine Ev.step (fun k => rfl) (Ev.neg (by omega) (Ev.some ?_))
    simp only [List.take_length]
    rfl
  · intro i hi r hr
    refine Ev.step (fun k => rfl) (Ev.pos (by omega) (Ev.pos (by omega) ?_))
    rw [wrap_succ hi hl, rd_get hi]
    rw [← List.take_append_getElem hi, List.foldl_append] at hr
    exact hr
theorem iSumOf_ev (l : List Int) (hl : l.length ≤ 281474976710656) : Ev (fun k => impl_SumOf.f k l) (sumOf l) := by
  refine fold_ev (G := fun k (s : Int × Int) i => impl_SumOf.l0 k s.1 s.2 l (l.length : Int) i) (n := l.length) (st := fun i => (l.take i).foldl sumStep (1, 0)) ?_ ?_
  · refine Ev.step (fun k => rfl) (Ev.neg (by omega) (Ev.some ?_))
    simp only [List.take_length]
    rfl
  · intro i hi r hr
    refine Ev.step (fun k => rfl) (Ev.pos (by omega) (Ev.pos (by omega) (Ev.pos (by omega) ?_)))
    rw [wrap_succ hi hl, rd_get hi]
    rw [← List.take_append_getElem hi, List.foldl_append] at hr
    exact hr
/-- A number in steps of seven bits. -/
def putGo : Nat → Int → List Int
  | 0, _ => []
  | f + 1, n => if n > 127 then (wrap64 (Int.tmod n 128 + 128)) % 256 :: putGo f (wrap64 (Int.tdiv n 128)) else [n % 256]
def putNum (n : Int) : List Int := if 0 ≤ n ∧ n ≤ 2147483647 then putGo 5 n else []
theorem putGo_len (f : Nat) (n : Int) : (putGo f n).length ≤ f := by
  induction f generalizing n with
  | zero => simp [putGo]
  | succ f ih =>
    simp only [putGo]
    split
    · have := ih (wrap64 (Int.tdiv n 128))
      simp; omega
    · simp
theorem putNum_len (n : Int) : (putNum n).length ≤ 5 := by
  unfold putNum
  split
  · exact putGo_len 5 n
  · simp
theorem put_ev {F : Nat → Int → List Int → Option (List Int)}
    (hF : ∀ k x0 x3, F (k + 1) x0 x3 = if x0 > 127 then (if x3.length < 140737488355328 then (F k (wrap64 (Int.tdiv x0 128)) (x3 ++ [(wrap64 ((Int.tmod x0 128) + 128)) % 256])) else (none)) else (if x3.length < 140737488355328 then (some (x3 ++ [(x0) % 256])) else (none)))
    (f : Nat) (n : Int) (acc : List Int) (h0 : 0 ≤ n) (h1 : n < 128 ^ (f + 1)) (h2 : n ≤ 2147483647) (ha : acc.length + f + 1 < 140737488355328) : Ev (fun k => F k n acc) (acc ++ putGo (f + 1) n) := by
  induction f generalizing n acc with
  | zero =>
    have : ¬ n > 127 := by omega
    simp only [putGo, if_neg this]
    exact Ev.step (fun k => hF k _ _) (Ev.neg this (Ev.pos (by omega) (Ev.now _)))
  | succ f ih =>
    by_cases h : n > 127
    · simp only [putGo, if_pos h]
      refine Ev.step (fun k => hF k _ _) (Ev.pos h (Ev.pos (by omega) ?_))
      have e : wrap64 (Int.tdiv n 128) = n / 128 := by
        rw [Int.tdiv_eq_ediv_of_nonneg h0]
        unfold wrap64
        omega
      rw [e]
      have hp : (128 : Int) ^ (f + 1 + 1) = 128 ^ (f + 1) * 128 := Int.pow_succ ..
      have := ih (n / 128) (acc ++ [(wrap64 ((Int.tmod n 128) + 128)) % 256]) (by omega) (by omega) (by omega) (by simp; omega)
      simpa [putGo] using this
    · simp only [putGo, if_neg h]
      exact Ev.step (fun k => hF k _ _) (Ev.neg h (Ev.pos (by omega) (Ev.now _)))
theorem sPutNum_ev (n : Int) : Ev (fun k => spec_PutNum.f k n) (putNum n) := by
  refine Ev.bind (Ev.now _) ?_
  rw [l1In_is]
  simp only [Option.bind_some]
  unfold putNum
  by_cases h : 0 ≤ n ∧ n ≤ 2147483647
  · rw [if_pos h]
    refine Ev.pos (by simpa using h) ?_
    have := put_ev (F := spec_PutNum.l0) (fun _ _ _ => rfl) 4 n [] h.1 (by omega) h.2 (by simp)
    simpa using this
  · rw [if_neg h]
    exact Ev.neg (by simpa using h) (Ev.now _)
theorem iPutNum_ev (n : Int) : Ev (fun k => impl_PutNum.f k n) (putNum n) := by
  unfold putNum
  by_cases h : 0 ≤ n ∧ n ≤ 2147483647
  · rw [if_pos h]
    refine Ev.neg (by omega) ?_
    refine Ev.step (fun k => impl_PutNum.j0.eq_2 ..) (Ev.neg (by simp; omega) ?_)
    have := put_ev (F := impl_PutNum.l0) (fun _ _ _ => rfl) 4 n [] h.1 (by omega) h.2 (by simp)
    simpa using this
  · rw [if_neg h]
    by_cases h0 : n < 0
    · exact Ev.pos h0 (Ev.step (fun k => impl_PutNum.j0.eq_2 ..) (Ev.pos rfl (Ev.now _)))
    · exact Ev.neg h0 (Ev.step (fun k => impl_PutNum.j0.eq_2 ..) (Ev.pos (by simp; omega) (Ev.now _)))
def putNums (l : List Int) : List Int := l.flatMap putNum
theorem putNums_len (l : List Int) : (putNums l).length ≤ 5 * l.length := by
  unfold putNums
  induction l with
  | nil => simp
  | cons a l ih =>
    have := putNum_len a
    simp only [List.flatMap_cons, List.length_append, List.length_cons]
    omega
theorem putNums_take (l : List Int) (i : Nat) (h : i < l.length) : putNums (l.take (i + 1)) = putNums (l.take i) ++ putNum l[i] := by
  unfold putNums
  rw [← List.take_append_getElem h, List.flatMap_append]
  simp
theorem iPutNums_ev (l : List Int) (hl : l.length ≤ 1048576) : Ev (fun k => impl_putNums.f k l) (putNums l) := by
  refine fold_ev (G := fun k (s : List Int) i => impl_putNums.l0 k s l (l.length : Int) i) (n := l.length) (st := fun i => putNums (l.take i)) ?_ ?_
  · refine Ev.step (fun k => rfl) (Ev.neg (by omega) (Ev.some ?_))
    simp only [List.take_length]
  · intro i hi r hr
    refine Ev.step (fun k => rfl) (Ev.pos (by omega) (Ev.pos (by omega) (Ev.pos (by omega) (Ev.bind (iPutNum_ev _) ?_))))
    rw [rd_get hi]
    have h1 := putNums_len (l.take i)
    have h2 := putNum_len l[i]
    have h3 : (l.take i).length ≤ l.length := by rw [List.length_take]; omega
    refine Ev.pos (by omega) ?_
    rw [wrap_succ hi (by omega)]
    rw [putNums_take l i hi] at hr
    exact hr
def turnOk (a b c : Int) : Bool := decide (0 ≤ a ∧ a ≤ 3) && (decide (-1 ≤ b ∧ b ≤ 3) && (!decide (a = b) && decide (1 ≤ c ∧ c ≤ 9999)))
def foursOf (a : Int) : List Int := [(a) % 256, (a / 256) % 256, (a / 65536) % 256, (a / 16777216) % 256]
def turnBytes (a b c : Int) : List Int := if turnOk a b c = true then putNums [c, a, wrap64 (b + 1)] ++ foursOf (sumOf (putNums [c, a, wrap64 (b + 1)])) else []
theorem and255 (n : Int) : (Go.bits .and .i64 n 255) % 256 = n % 256 := by
  have h127 : (BitVec.ofInt 64 255).toNat = 2 ^ 8 - 1 := by decide
  have key : (BitVec.ofInt 64 n &&& BitVec.ofInt 64 255).toNat = (n % ((2 ^ 64 : Nat) : Int)).toNat % 2 ^ 8 := by
    rw [BitVec.toNat_and, BitVec.toNat_ofInt, h127, Nat.and_two_pow_sub_one_eq_mod]
  have e : Go.bits .and .i64 n 255 = n % 256 := by
    show IntKind.i64.wrap ((BitVec.ofInt 64 n &&& BitVec.ofInt 64 255).toNat : Nat) = n % 256
    rw [key]
    simp [IntKind.wrap, IntKind.bits, IntKind.signed]
    split <;> omega
  rw [e]
  omega
theorem l4Sum_is (a : Int) : spec_l4Sum.f a = some (foursOf a) := by
  unfold spec_l4Sum.f foursOf
  rw [and255, and255, and255, and255]
theorem four_is (a : Int) : impl_four.f a = some (foursOf a) := rfl
theorem turnBytes_len (a b c : Int) : (turnBytes a b c).length ≤ 19 := by
  unfold turnBytes
  have := putNums_len [c, a, wrap64 (b + 1)]
  split
  · simp [foursOf] at this ⊢; omega
  · simp
theorem sTurnBytes_ev (a b c : Int) : Ev (fun k => spec_TurnBytes.f k a b c) (turnBytes a b c) := by
  have bad : turnOk a b c = false → Ev (fun k => spec_TurnBytes.j0 k a b c true) (turnBytes a b c) := fun h => by
    unfold turnBytes
    rw [h]
    exact Ev.step (fun k => spec_TurnBytes.j0.eq_2 ..) (Ev.pos rfl (Ev.some (by simp)))
  unfold spec_TurnBytes.f
  rw [l1In_is, l1In_is, l1In_is]
  simp only [Option.bind_some]
  by_cases h1 : 0 ≤ a ∧ a ≤ 3
  · refine Ev.pos (by simpa using h1) ?_
    by_cases h2 : -1 ≤ b ∧ b ≤ 3
    · refine Ev.pos (by simpa using h2) ?_
      by_cases h3 : a = b
      · exact Ev.pos h3 (bad (by simp [turnOk, h3]))
      · refine Ev.neg h3 ?_
        by_cases h4 : 1 ≤ c ∧ c ≤ 9999
        · have hok : turnOk a b c = true := by simp [turnOk, h1, h2, h3, h4]
          rw [decide_eq_true h4]
          refine Ev.step (fun k => spec_TurnBytes.j0.eq_2 ..) (Ev.neg (by simp) ?_)
          unfold turnBytes
          rw [if_pos hok]
          have l1 := putNum_len c
          have l2 := putNum_len a
          have l3 := putNum_len (wrap64 (b + 1))
          refine Ev.bind (sPutNum_ev _) (Ev.bind (sPutNum_ev _) (Ev.pos (by omega) (Ev.bind (Ev.now _) (Ev.bind (sPutNum_ev _) (Ev.pos (by simp; omega) (Ev.bind (Ev.now _) ?_))))))
          have e : putNum c ++ putNum a ++ putNum (wrap64 (b + 1)) = putNums [c, a, wrap64 (b + 1)] := by simp [putNums]
          rw [e]
          have hL := putNums_len [c, a, wrap64 (b + 1)]
          simp at hL
          refine Ev.bind (sSumOf_ev _ (by omega)) ?_
          rw [l4Sum_is]
          simp only [Option.bind_some]
          exact Ev.pos (by simp [foursOf]; omega) (Ev.now _)
        · rw [decide_eq_false h4]
          exact bad (by simp [turnOk, h4])
    · exact Ev.neg (by simpa using h2) (bad (by simp [turnOk, h2]))
  · exact Ev.neg (by simpa using h1) (bad (by simp [turnOk, h1]))
theorem iTurnBytes_ev (a b c : Int) : Ev (fun k => impl_TurnBytes.f k a b c) (turnBytes a b c) := by
  have bad : turnOk a b c = false → Ev (fun k => impl_TurnBytes.j0 k a b c true) (turnBytes a b c) := fun h => by
    unfold turnBytes
    rw [h]
    exact Ev.step (fun k => impl_TurnBytes.j0.eq_2 ..) (Ev.pos rfl (Ev.some (by simp)))
  unfold impl_TurnBytes.f
  rw [isExt_is, from_is, from_is]
  simp only [Option.bind_some]
  by_cases h1 : 0 ≤ a ∧ a ≤ 3
  · refine Ev.pos (by simpa using h1) ?_
    by_cases h2 : -1 ≤ b ∧ b ≤ 3
    · refine Ev.pos (by simpa using h2) ?_
      by_cases h3 : a = b
      · exact Ev.pos h3 (bad (by simp [turnOk, h3]))
      · refine Ev.neg h3 ?_
        by_cases h4 : 1 ≤ c ∧ c ≤ 9999
        · have hok : turnOk a b c = true := by simp [turnOk, h1, h2, h3, h4]
          rw [decide_eq_true h4]
          refine Ev.step (fun k => impl_TurnBytes.j0.eq_2 ..) (Ev.neg (by simp) ?_)
          unfold turnBytes
          rw [if_pos hok]
          have hL := putNums_len [c, a, wrap64 (b + 1)]
          simp at hL
          refine Ev.bind (iPutNums_ev _ (by simp)) (Ev.bind (iSumOf_ev _ (by omega)) ?_)
          rw [four_is]
          simp only [Option.bind_some]
          exact Ev.pos (by simp [foursOf]; omega) (Ev.now _)
        · rw [decide_eq_false h4]
          exact bad (by simp [turnOk, h4])
    · exact Ev.neg (by simpa using h2) (bad (by simp [turnOk, h2]))
  · exact Ev.neg (by simpa using h1) (bad (by simp [turnOk, h1]))
theorem FnExactTurnBytes : laws_FnExactTurnBytes.Pure := by
  intro a b c _ _ _
  refine Ev.rounds ?_
  have hs := sTurnBytes_ev a b c
  have hi := iTurnBytes_ev a b c
  have hL := turnBytes_len a b c
  have e := eqByteS_ev (turnBytes a b c) (turnBytes a b c) (by omega)
  have m := markByteS_ev (turnBytes a b c) 1 (by omega) (by omega)
  have hd := heldByteS_ev (turnBytes a b c).length 1 (by omega) (by omega)
  exact Ev.bind hs (Ev.bind hi (Ev.bind e (Ev.pos (by simp) (Ev.bind m (Ev.bind hd (Ev.neg (by omega) (Ev.pos rfl (Ev.bind hi (Ev.bind e (Ev.pos (by simp) (Ev.bind hd (Ev.neg (by omega) (Ev.pos rfl (Ev.some rfl))))))))))))))
end Go.Proofs.Ytklphaicchmmoaa.Pure
