/- An interpreter of the model's code over tagged trees, twenty-sixth part: what it answers, the machine's call answers. -/
import Derived.Test.YtnbgdddcbmlcpaaEng25
namespace Go.Proofs.Ytnbgdddcbmlcpaa.Eng
open Go.RowKit

def exec (T : FuncId → Option AFun) : Nat → Ex
  | 0, _, _ => none
  | k + 1, c, x =>
    match c with
    | .skip => some (.nrm, x)
    | .region _ n ops => (runG (exec T k) T (ops.take n) x.nx x.st).bind fun s => (runOps (exec T k) T (ops.drop n) (x.nx + 64 * n) ⟨s, x.nx + 64 * ops.length⟩).map fun y => (.nrm, y)
    | .seq a b =>
      match exec T k a x with
      | some (.nrm, y) => exec T k b y
      | r => r
    | .cond c a b =>
      match x.st.one c with
      | some (.bool t) => if t = true then exec T k a x else exec T k b x
      | _ => none
    | .block id b =>
      match exec T k b x with
      | some (.exit i, y) => if i = id then some (.nrm, y) else some (.exit i, y)
      | r => r
    | .loop ag dead b =>
      let y := head ag dead x
      match exec T k b y with
      | some (.nrm, z) => exec T k (.loop ag dead b) (if ag then z else ⟨z.st, y.nx⟩)
      | r => r
    | .exit id => some (.exit id, x)
    | .ret => some (.ret, x)

def chkCode (P : Program) : Code → ACode → Bool
  | .skip, .skip => true
  | .region _ ops false, .region false n q => n == 0 && chkOps P ops ops.toList q
  | .region _ ops true, .region true n q => chkOps P ops ops.toList q && drawB ops q n
  | .seq a b, .seq a' b' => chkCode P a a' && chkCode P b b'
  | .cond c a b, .cond c' a' b' => axB c c' && chkCode P a a' && chkCode P b b'
  | .block i b, .block i' b' => i == i' && chkCode P b b'
  | .loop b, .loop _ _ b' => chkCode P b b'
  | .exit i, .exit i' => i == i'
  | .ret, .ret => true
  | _, _ => false
/-- The table is what the program is. -/
def TabOk (P : Program) (T : FuncId → Option AFun) : Prop :=
  ∀ f af, T f = some af → ∃ fn c, P.funcs[f]? = some fn ∧ fn.body = some c ∧ fn.name ≠ "runtime.NumGoroutine" ∧ fn.ntmps = af.n ∧ chkRes P fn.results.toList af.res = true ∧ chkCode P c af.body = true

section
variable {P : Program} {T : FuncId → Option AFun}
theorem After.mono {F : Own} {w0 : World} {e : AE} {s : St} {Q : Exit → Act → World → Prop} (h : ∀ x a w G, ERel e x → Rel F w0 G s a w → Q x a w) : ∀ x a w, After F w0 e s x a w → Q x a w :=
  fun x a w ⟨h1, G, h2⟩ => h x a w G h1 h2
theorem exec_ok (hm : P.follows .mixedOrders = true) (HT : TabOk P T) : ∀ (k : Nat) {c : Code} {ac : ACode} {x y : XS} {e : AE} {F : Own} {w0 : World} {G : Gh} {a : Act} {w : World},
    exec T k ac x = some (e, y) → chkCode P c ac = true → Rel F w0 G x.st a w → c.wp P (After F w0 e y.st) a w := by
  intro k0
  induction k0 using Nat.strongRecOn with
  | _ k0 IH =>
  cases k0 with
  | zero => intro c ac x y e F w0 G a w h; cases h
  | succ k =>
    intro c ac x y e F w0 G a w h hc hr
    have ih := @IH k (Nat.lt_succ_self k)
    have hT : ∀ f af, T f = some af → FunOk P (exec T k) f af := by
      intro f af haf
      obtain ⟨fn, c, h1, h2, h3, h4, h5, h6⟩ := HT f af haf
      exact ⟨fn, c, h1, h2, h3, h4, h5, fun x e y F w0 G a w hex hrel => ih hex h6 hrel⟩
    cases ac with
    | skip =>
      cases c <;> simp only [chkCode] at hc <;> (try cases hc)
      simp only [exec, Option.some.injEq, Prod.mk.injEq] at h
      obtain ⟨rfl, rfl⟩ := h
      exact wp_skip ⟨trivial, G, hr⟩
    | region dr n q =>
      simp only [exec] at h
      obtain ⟨s1, hs1, h⟩ := Option.bind_eq_some_iff.1 h
      obtain ⟨z, hz, he⟩ := Option.map_eq_some_iff.1 h
      simp only [Prod.mk.injEq] at he
      obtain ⟨rfl, rfl⟩ := he
      cases c with
      | region i ops d =>
        cases d <;> cases dr <;> simp only [chkCode, Bool.and_eq_true, beq_iff_eq] at hc <;> (try cases hc)
        · rename_i hn hc
          subst hn
          simp only [List.take_zero, runG, Option.some.injEq] at hs1
          subst hs1
          simp only [List.drop_zero] at hz
          refine wp_region ?_
          rw [List.range_eq_range']
          have := runOps_ok (ops := ops) (Q := After F w0 .nrm z.st) hT ops.toList (k := 0) (fun j => by simp) hc hz hr (fun a' w' G' h => ⟨trivial, G', h⟩)
          simpa using this
        · rename_i hc hB
          exact draw_ok hm hT hc hB hs1 hz hr fun a' w' G' h => ⟨trivial, G', h⟩
      | _ => simp [chkCode] at hc
    | seq a1 b1 =>
      cases c with
      | seq a2 b2 =>
        simp only [chkCode, Bool.and_eq_true] at hc
        simp only [exec] at h
        refine wp_seq ?_
        split at h
        · rename_i z hz
          refine wp_mono (ih hz hc.1 hr) (After.mono fun x a w G hx hrel => ?_)
          cases x <;> simp only [ERel] at hx
          exact ih h hc.2 hrel
        · rename_i hne
          cases hz : exec T k a1 x with
          | none => rw [hz] at h; cases h
          | some p =>
            obtain ⟨e1, z⟩ := p
            rw [hz] at h
            cases h
            refine wp_mono (ih hz hc.1 hr) (After.mono fun x a w G hx hrel => ?_)
            cases e with
            | nrm => exact absurd hz (hne y)
            | exit i => cases x <;> simp only [ERel] at hx; exact ⟨hx, G, hrel⟩
            | ret => cases x <;> simp only [ERel] at hx; exact ⟨trivial, G, hrel⟩
      | _ => simp [chkCode] at hc
    | cond c1 a1 b1 =>
      cases c with
      | cond c2 a2 b2 =>
        simp only [chkCode, Bool.and_eq_true] at hc
        simp only [exec] at h
        split at h
        · rename_i t ht
          have hv := eval_one hr hc.1.1 ht
          refine wp_cond (t := t) hv ?_
          cases t with
          | true => exact ih h hc.1.2 hr
          | false => exact ih h hc.2 hr
        · cases h
      | _ => simp [chkCode] at hc
    | block i b1 =>
      cases c with
      | block i2 b2 =>
        simp only [chkCode, Bool.and_eq_true, beq_iff_eq] at hc
        obtain ⟨rfl, hc⟩ := hc
        simp only [exec] at h
        refine wp_block ?_
        split at h
        · rename_i j z hz
          refine wp_mono (ih hz hc hr) (After.mono fun x a w G hx hrel => ?_)
          cases x <;> simp only [ERel] at hx
          subst hx
          simp only [Exit.inBlock]
          split at h
          · rename_i hj
            cases h
            rw [if_pos hj]
            exact ⟨trivial, G, hrel⟩
          · rename_i hj
            cases h
            rw [if_neg hj]
            exact ⟨rfl, G, hrel⟩
        · rename_i hne
          refine wp_mono (ih h hc hr) (After.mono fun x a w G hx hrel => ?_)
          cases e with
          | nrm => cases x <;> simp only [ERel] at hx; exact ⟨trivial, G, hrel⟩
          | exit j => exact absurd h (hne j y)
          | ret => cases x <;> simp only [ERel] at hx; exact ⟨trivial, G, hrel⟩
      | _ => simp [chkCode] at hc
    | loop ag dead b1 =>
      cases c with
      | loop b2 =>
        simp only [chkCode] at hc
        -- rounds, by the fuel
        have key : ∀ (j : Nat), j ≤ k + 1 → ∀ {x : XS} {G : Gh} {a : Act} {w : World}, exec T j (.loop ag dead b1) x = some (e, y) → Rel F w0 G x.st a w → Code.rounds P b2 (After F w0 e y.st) j a w := by
          intro j
          induction j with
          | zero => intro _ x G a w h; cases h
          | succ j ihj =>
            intro hj x G a w h hr
            simp only [exec] at h
            obtain ⟨G1, hh⟩ := head_ok hr ag dead
            rw [rounds_succ]
            split at h
            · rename_i z hz
              refine wp_mono (IH j (by omega) hz hc hh) (After.mono fun x a w G hx hrel => ?_)
              cases x <;> simp only [ERel] at hx
              exact ihj (by omega) h (by cases ag <;> exact hrel)
            · rename_i hne
              refine wp_mono (IH j (by omega) h hc hh) (After.mono fun x a w G hx hrel => ?_)
              cases e with
              | nrm => exact absurd h (hne y)
              | exit i => cases x <;> simp only [ERel] at hx; exact ⟨hx, G, hrel⟩
              | ret => cases x <;> simp only [ERel] at hx; exact ⟨trivial, G, hrel⟩
        exact wp_loop_rounds (k + 1) (key (k + 1) (Nat.le_refl _) h hr)
      | _ => simp [chkCode] at hc
    | exit i =>
      cases c with
      | exit i2 =>
        simp only [chkCode, beq_iff_eq] at hc
        subst hc
        simp only [exec, Option.some.injEq, Prod.mk.injEq] at h
        obtain ⟨rfl, rfl⟩ := h
        exact wp_exit ⟨rfl, G, hr⟩
      | _ => simp [chkCode] at hc
    | ret =>
      cases c <;> simp only [chkCode] at hc <;> (try cases hc)
      simp only [exec, Option.some.injEq, Prod.mk.injEq] at h
      obtain ⟨rfl, rfl⟩ := h
      exact wp_ret ⟨trivial, G, hr⟩
end
end Go.Proofs.Ytnbgdddcbmlcpaa.Eng
