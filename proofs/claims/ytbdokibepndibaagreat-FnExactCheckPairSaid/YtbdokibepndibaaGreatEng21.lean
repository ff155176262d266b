/- An interpreter of the model's code over tagged trees, twenty-first part: operations one behind the other; ways and loops. -/
import Derived.Test.YtbdokibepndibaaGreatEng20
import Derived.LoopN
namespace Go.Proofs.YtbdokibepndibaaGreat.Eng
open Go.RowKit

section
variable {P : Program} {F : Own} {w0 : World} {G G' : Gh} {s s' : St} {a : Act} {w w' : World} {sv : SV} {o : Oper} {d : Nat} {m m' : Mem} {T : FuncId → Option AFun} {ex : Ex}
theorem calleeB_spec {c : Call} {f : FuncId} (h : calleeB c f = true) : c.callee = .value (.func f) := by
  unfold calleeB at h
  split at h
  · rename_i g hg; simp at h; subst h; exact hg
  · cases h
theorem doAct_ok (hT : ∀ f af, T f = some af → FunOk P ex f af) {ops : Array Oper} {ao : AOp} {x y : XS} {i : Nat} (h : Rel F w0 G x.st a w) (ho : ops[i]? = some o) (hd : o.dst = ao.dst) (hg : guardB ops o.guard ao.guard = true) (hc : chkAct P o.op ao.act = true)
    (hv : doOp ex T ao d x = some y) {K : Act → World → Prop} {Q : Exit → Act → World → Prop} (hK : ∀ a' w' G', Rel F w0 G' y.st a' w' → K a' w') : wpOp P ops Q i K a w := by
  unfold wpOp
  simp only [ho]
  unfold doOp at hv
  split at hv
  · cases hv
  · rename_i hw
    cases hv
    rw [want_ok h hg hw]
    simp only [Bool.false_eq_true, if_false]
    exact hK _ _ _ (by rw [hd]; exact h.put undef_rel _)
  · rename_i hw
    rw [want_ok h hg hw]
    simp only [if_true]
    left
    split at hv
    · -- on trees
      rename_i f args hact
      rw [hact] at hc
      obtain ⟨⟨sv, s'⟩, hr, he⟩ := Option.map_eq_some_iff.1 hv
      cases he
      cases hop : o.op with
      | call c =>
        rw [hop] at hc
        simp only [chkAct, Bool.and_eq_true] at hc
        obtain ⟨⟨fn, cd, k1, k2, k3⟩, hb⟩ := ro_ok hT h hc.2 hr
        refine hb.upon (by simpa using call_run (caps := #[]) hop (calleeB_spec hc.1) rfl k1 k2 k3) fun v w' ⟨G', hrel, hs⟩ => ?_
        exact hK _ _ _ (by rw [hd]; exact hrel.put hs _)
      | _ => rw [hop] at hc; simp [chkAct] at hc
    · rename_i f c0 args hact
      rw [hact] at hc
      obtain ⟨⟨sv, s'⟩, hr, he⟩ := Option.map_eq_some_iff.1 hv
      cases he
      cases hop : o.op with
      | call c =>
        rw [hop] at hc
        simp only [chkAct, Bool.and_eq_true] at hc
        obtain ⟨⟨fn, cd, k1, k2, k3⟩, hb⟩ := lend_ok hT h hc.2 hr
        refine hb.upon (by simpa using call_run (caps := #[]) hop (calleeB_spec hc.1) rfl k1 k2 k3) fun v w' ⟨G', hrel, hs⟩ => ?_
        exact hK _ _ _ (by rw [hd]; exact hrel.put hs _)
      | _ => rw [hop] at hc; simp [chkAct] at hc
    · rename_i f x0 i0 v0 hact
      rw [hact] at hc
      obtain ⟨⟨sv, s'⟩, hr, he⟩ := Option.map_eq_some_iff.1 hv
      cases he
      unfold insOp at hr
      split at hr
      · rename_i af haf
        split at hr
        · rename_i hbody
          split at hr
          · rename_i ax k ay h1 h2 h3
            obtain ⟨hI, fn, cd, k1, k2, k3, _⟩ := hT f af haf
            cases hop : o.op with
            | call c =>
              rw [hop] at hc
              simp only [chkAct, Bool.and_eq_true] at hc
              obtain ⟨hcal, hax⟩ := hc
              obtain ⟨y1, y2, y3, hys, b1, b2, b3⟩ : ∃ y1 y2 y3, c.args.toList = [y1, y2, y3] ∧ axB y1 x0 = true ∧ axB y2 i0 = true ∧ axB y3 v0 = true := by
                cases hl : c.args.toList with
                | nil => rw [hl] at hax; simp [axsB] at hax
                | cons y1 r =>
                  cases r with
                  | nil => rw [hl] at hax; simp [axsB] at hax
                  | cons y2 r =>
                    cases r with
                    | nil => rw [hl] at hax; simp [axsB] at hax
                    | cons y3 r =>
                      cases r with
                      | cons _ _ => rw [hl] at hax; simp [axsB] at hax
                      | nil =>
                        rw [hl] at hax
                        simp only [axsB, Bool.and_true, Bool.and_eq_true] at hax
                        exact ⟨y1, y2, y3, rfl, hax.1, hax.2.1, hax.2.2⟩
              have e2 : a.eval y2 = .int .i64 k := eval_one h b2 h2
              have hargs : c.args.map a.eval = #[a.eval y1, .int .i64 k, a.eval y3] := by
                rw [← Array.toArray_toList (xs := c.args), hys, ← e2]
                simp
              have hcalls := ins_ok (by rw [hbody] at hI; exact hI) h (eval_one h b1 h1) (eval_one h b3 h3) hr
              have hback : Back P f (c.args.map a.eval) w fun v w' => ∃ G', Rel F w0 G' s' a w' ∧ SRel G' s'.mem w' sv v := by
                rw [hargs]
                refine hcalls.mono fun e w' he => ?_
                cases e <;> exact he
              refine hback.upon (by simpa using call_run (caps := #[]) hop (calleeB_spec hcal) rfl k1 k2 k3) fun v w' ⟨G', hrel, hs⟩ => ?_
              exact hK _ _ _ (by rw [hd]; exact hrel.put hs _)
            | _ => rw [hop] at hc; simp [chkAct] at hc
          · cases hr
        · cases hr
      · cases hr
    · rename_i f x0 n0 hact
      rw [hact] at hc
      obtain ⟨⟨sv, s'⟩, hr, he⟩ := Option.map_eq_some_iff.1 hv
      cases he
      unfold grwOp at hr
      split at hr
      · rename_i af haf
        split at hr
        · rename_i sz bytes hbody
          split at hr
          · rename_i ax k h1 h2
            obtain ⟨hI, fn, cd, k1, k2, k3, _⟩ := hT f af haf
            cases hop : o.op with
            | call c =>
              rw [hop] at hc
              simp only [chkAct, Bool.and_eq_true] at hc
              obtain ⟨hcal, hax⟩ := hc
              obtain ⟨y1, y2, hys, b1, b2⟩ : ∃ y1 y2, c.args.toList = [y1, y2] ∧ axB y1 x0 = true ∧ axB y2 n0 = true := by
                cases hl : c.args.toList with
                | nil => rw [hl] at hax; simp [axsB] at hax
                | cons y1 r =>
                  cases r with
                  | nil => rw [hl] at hax; simp [axsB] at hax
                  | cons y2 r =>
                    cases r with
                    | cons _ _ => rw [hl] at hax; simp [axsB] at hax
                    | nil =>
                      rw [hl] at hax
                      simp only [axsB, Bool.and_true, Bool.and_eq_true] at hax
                      exact ⟨y1, y2, rfl, hax.1, hax.2⟩
              have e2 : a.eval y2 = .int .i64 k := eval_one h b2 h2
              have hargs : c.args.map a.eval = #[a.eval y1, .int .i64 k] := by
                rw [← Array.toArray_toList (xs := c.args), hys, ← e2]
                simp
              have hcalls := grw_ok (by rw [hbody] at hI; exact hI) h (eval_one h b1 h1) hr
              have hback : Back P f (c.args.map a.eval) w fun v w' => ∃ G', Rel F w0 G' s' a w' ∧ SRel G' s'.mem w' sv v := by
                rw [hargs]
                refine hcalls.mono fun e w' he => ?_
                cases e <;> exact he
              refine hback.upon (by simpa using call_run (caps := #[]) hop (calleeB_spec hcal) rfl k1 k2 k3) fun v w' ⟨G', hrel, hs⟩ => ?_
              exact hK _ _ _ (by rw [hd]; exact hrel.put hs _)
            | _ => rw [hop] at hc; simp [chkAct] at hc
          · cases hr
        · cases hr
      · cases hr
    · rename_i f x0 hact
      rw [hact] at hc
      obtain ⟨⟨sv, s'⟩, hr, he⟩ := Option.map_eq_some_iff.1 hv
      cases he
      unfold rvsOp at hr
      split at hr
      · rename_i af haf
        split at hr
        · rename_i hbody
          split at hr
          · rename_i ax h1
            obtain ⟨hI, fn, cd, k1, k2, k3, _⟩ := hT f af haf
            cases hop : o.op with
            | call c =>
              rw [hop] at hc
              simp only [chkAct, Bool.and_eq_true] at hc
              obtain ⟨hcal, hax⟩ := hc
              obtain ⟨y1, hys, b1⟩ : ∃ y1, c.args.toList = [y1] ∧ axB y1 x0 = true := by
                cases hl : c.args.toList with
                | nil => rw [hl] at hax; simp [axsB] at hax
                | cons y1 r =>
                  cases r with
                  | cons _ _ => rw [hl] at hax; simp [axsB] at hax
                  | nil =>
                    rw [hl] at hax
                    simp only [axsB, Bool.and_true] at hax
                    exact ⟨y1, rfl, hax⟩
              have hargs : c.args.map a.eval = #[a.eval y1] := by
                rw [← Array.toArray_toList (xs := c.args), hys]
                simp
              have hcalls := rvs_ok (by rw [hbody] at hI; exact hI) h (eval_one h b1 h1) hr
              have hback : Back P f (c.args.map a.eval) w fun v w' => ∃ G', Rel F w0 G' s' a w' ∧ SRel G' s'.mem w' sv v := by
                rw [hargs]
                refine hcalls.mono fun e w' he => ?_
                cases e <;> exact he
              refine hback.upon (by simpa using call_run (caps := #[]) hop (calleeB_spec hcal) rfl k1 k2 k3) fun v w' ⟨G', hrel, hs⟩ => ?_
              exact hK _ _ _ (by rw [hd]; exact hrel.put hs _)
            | _ => rw [hop] at hc; simp [chkAct] at hc
          · cases hr
        · cases hr
      · cases hr
    · rename_i f args hact
      rw [hact] at hc
      obtain ⟨vs, hvs, hv⟩ := Option.bind_eq_some_iff.1 hv
      obtain ⟨⟨sv, z⟩, hr, he⟩ := Option.map_eq_some_iff.1 hv
      cases he
      cases hop : o.op with
      | call c =>
        rw [hop] at hc
        simp only [chkAct, Bool.and_eq_true] at hc
        obtain ⟨⟨fn, cd, k1, k2, k3⟩, hb⟩ := thru_ok (xs := c.args.map a.eval) hT h (by simpa using getAll_rel h hc.2 hvs) hr
        refine hb.upon (by simpa using call_run (caps := #[]) hop (calleeB_spec hc.1) rfl k1 k2 k3) fun v w' ⟨G', hrel, hs⟩ => ?_
        exact hK _ _ _ (by rw [hd]; exact hrel.put hs _)
      | _ => rw [hop] at hc; simp [chkAct] at hc
    · rename_i g args hact
      rw [hact] at hc
      split at hv
      · rename_i f caps vs hone hvs
        obtain ⟨⟨sv, z⟩, hr, he⟩ := Option.map_eq_some_iff.1 hv
        cases he
        cases hop : o.op with
        | call c =>
          rw [hop] at hc
          simp only [chkAct, Bool.and_eq_true] at hc
          obtain ⟨hcal, hargs⟩ := hc
          split at hcal
          · rename_i fop hfop
            obtain ⟨hf, hcaps⟩ := eval_one h hcal hone
            have hall : All2 (SRel G x.st.mem w) (vs ++ caps.map fun t => .v false [.pr t [] 0]) (c.args.map a.eval ++ (caps.map fun t => Value.pointer (some ⟨G.b t, 0, none⟩)).toArray).toList := by
              have h1 : All2 (SRel G x.st.mem w) vs (c.args.map a.eval).toList := by simpa using getAll_rel h hargs hvs
              rw [Array.toList_append]
              refine h1.append ⟨by simp, fun i x v hx hv => ?_⟩
              simp only [List.getElem?_map, Option.map_eq_some_iff] at hx hv
              obtain ⟨t, ht, rfl⟩ := hx
              obtain ⟨t', ht', rfl⟩ := hv
              rw [ht] at ht'
              cases ht'
              obtain ⟨as_, hm⟩ := hcaps t (List.mem_of_getElem? ht)
              exact ⟨_, rfl, _, rfl, .inr ⟨as_, hm, rfl, rfl⟩⟩
            obtain ⟨⟨fn, cd, k1, k2, k3⟩, hb⟩ := thru_ok hT h hall hr
            refine hb.upon (call_run hop hfop hf k1 k2 k3) fun v w' ⟨G', hrel, hs⟩ => ?_
            exact hK _ _ _ (by rw [hd]; exact hrel.put hs _)
          · cases hcal
        | _ => rw [hop] at hc; simp [chkAct] at hc
      · cases hv
    · rename_i hn1 hn0 hn9 hn8 hn7 hn2 hn3
      obtain ⟨⟨sv, s'⟩, hr, he⟩ := Option.map_eq_some_iff.1 hv
      cases he
      have hc' : chkOp P o.op ao.act = true := by
        cases hact : ao.act <;> rw [hact] at hc <;> first | exact hc | exact absurd hact (hn1 _ _) | exact absurd hact (hn0 _ _ _) | exact absurd hact (hn9 _ _ _ _) | exact absurd hact (hn8 _ _ _) | exact absurd hact (hn7 _ _) | exact absurd hact (hn2 _ _) | exact absurd hact (hn3 _ _)
      exact (step_ok h hc' hr).upon _ hd hK
theorem runOps_ok (hT : ∀ f af, T f = some af → FunOk P ex f af) {ops : Array Oper} {Q : Exit → Act → World → Prop} : ∀ (l : List Oper) {q : List AOp} {k d : Nat} {x y : XS} {G : Gh} {a : Act} {w : World}, (∀ j, l[j]? = ops[k + j]?) → chkOps P ops l q = true →
    runOps ex T q d x = some y → Rel F w0 G x.st a w → (∀ a' w' G', Rel F w0 G' y.st a' w' → Q .normal a' w') → wpOps P ops Q (List.range' k l.length) a w := by
  intro l
  induction l with
  | nil =>
    intro q k d x y G a w hl hc hv h hQ
    cases q with
    | nil => simp only [runOps, Option.some.injEq] at hv; subst hv; exact hQ _ _ _ h
    | cons _ _ => simp [chkOps] at hc
  | cons o r ih =>
    intro q k d x y G a w hl hc hv h hQ
    cases q with
    | nil => simp [chkOps] at hc
    | cons ao q =>
      simp only [chkOps, Bool.and_eq_true, beq_iff_eq] at hc
      obtain ⟨⟨⟨hd, hg⟩, ha⟩, hc⟩ := hc
      simp only [runOps] at hv
      obtain ⟨z, hz, hv⟩ := Option.bind_eq_some_iff.1 hv
      rw [List.length_cons, List.range'_succ, wpOps_cons]
      have h0 : ops[k]? = some o := by simpa using (hl 0).symm
      refine doAct_ok hT h h0 hd hg ha hz fun a' w' G' hrel => ?_
      exact ih (fun j => by have := hl (j + 1); simpa [Nat.add_assoc, Nat.add_comm 1 j] using this) hc hv hrel hQ
theorem killSlots_rel : ∀ {dead : List Nat} {l : List SV} {vs : List Value}, All2 (SRel G m w) l vs → All2 (SRel G m w) (killSlots dead l) vs := by
  intro dead
  induction dead with
  | nil => intro l vs h; exact h
  | cons i r ih =>
    intro l vs h
    simp only [killSlots]
    refine ih ⟨by simp [h.1], fun j x v hx hv => ?_⟩
    by_cases hij : i = j
    · subst hij
      have hlt : i < l.length := by have := (List.getElem?_eq_some_iff.1 hx).1; simpa using this
      rw [List.getElem?_set_self hlt] at hx
      cases hx
      trivial
    · rw [List.getElem?_set_ne hij] at hx
      exact h.2 j x v hx hv
theorem head_ok {x : XS} (h : Rel F w0 G x.st a w) (ag : Bool) (dead : List Nat) : ∃ G', Rel F w0 G' (head ag dead x).st a w := by
  have h1 : Rel F w0 G ⟨killSlots dead x.st.slots, x.st.mem, x.st.up⟩ a w := ⟨h.defers, killSlots_rel h.slots, h.up, h.rr, h.inv, h.fr, h.own⟩
  unfold head
  cases ag with
  | false => exact ⟨G, h1⟩
  | true =>
    obtain ⟨G', k, _⟩ := h1.canon (reach_nodup (m := x.st.mem) (k := 64) (l := (killSlots dead x.st.slots ++ x.st.up).flatMap SV.ids) (seen := []) (by simp))
    exact ⟨G', k⟩
end
end Go.Proofs.YtbdokibepndibaaGreat.Eng
