/- An interpreter of the model's code over tagged trees, twenty-sixth part: what it answers, the machine's call answers. -/
import Derived.Test.YtbdokibepndibaaGreatEng25
namespace Go.Proofs.YtbdokibepndibaaGreat.Eng
open Go.RowKit

/-- The library's Clone of a slice whose cells lead nowhere: of an empty one the copy has no room. -/
def cloneX (x : XS) (sz bytes : Nat) : Option XS :=
  match x.st.slots with
  | [.v false [ax], q1, _, _, _, _, _, _] =>
    match srcCells x.st.mem sz ax with
    | some (m, ycs) =>
      if m = 0 then some ⟨⟨[.v false [ax], q1, .v false [.nil], .bad, .bad, .bad, .bad, .bad], x.st.mem, x.st.up⟩, x.nx + 64⟩
      else if m * bytes ≤ 140737488355328 ∧ ycs.all Cell.flat = true ∧ (x.st.mem x.nx).isNone = true then
        some ⟨⟨[.v false [ax], q1, .v false [.sl x.nx [] 0 m], .bad, .bad, .bad, .bad, .bad], upd x.st.mem x.nx (some (.row sz ycs)), x.st.up⟩, x.nx + 64⟩
      else none
    | none => none
  | _ => none
def exec (T : FuncId → Option AFun) : Nat → Ex
  | 0, _, _ => none
  | k + 1, c, x =>
    match c with
    | .skip => some (.nrm, x)
    | .region _ n ops => (runG (exec T k) T (ops.take n) x.nx x.st).bind fun s => (runOps (exec T k) T (ops.drop n) (x.nx + 64 * n) ⟨s, x.nx + 64 * ops.length⟩).map fun y => (.nrm, y)
    | .seq a b =>
      match exec T k a x with
      | some (.nrm, y) => exec T k b y
      | r => r
    | .cond c a b =>
      match x.st.one c with
      | some (.bool t) => if t = true then exec T k a x else exec T k b x
      | _ => none
    | .block id b =>
      match exec T k b x with
      | some (.exit i, y) => if i = id then some (.nrm, y) else some (.exit i, y)
      | r => r
    | .loop ag dead b =>
      let y := head ag dead x
      match exec T k b y with
      | some (.nrm, z) => exec T k (.loop ag dead b) (if ag then z else ⟨z.st, y.nx⟩)
      | r => r
    | .exit id ag dead => some (.exit id, head ag dead x)
    | .ret ag dead => some (.ret, head ag dead x)
    | .clone sz bytes => (cloneX x sz bytes).map fun y => (.ret, y)
    | .ins => none
    | .grw _ _ => none
    | .rvs => none

def mvB (o : Oper) (d : Nat) (x : AX) : Bool :=
  o.dst == some d && o.guard.isNone && (match o.op with | .move y => axB y x | .assign y => axB y x | _ => false)
def nilB : Operand → Bool
  | .const (.slice none 0 0) => true
  | _ => false
def nilqB (P : Program) (o : Oper) : Bool :=
  o.dst == some 4 && o.guard.isNone && (match o.op with | .binOp .eql t (.tmp 3) y _ => nilB y && tyB P t (fun d => match d with | .slice _ => true | _ => false) | _ => false)
def lit0B (P : Program) (o : Oper) : Bool :=
  o.dst == some 5 && o.guard.isNone && (match o.op with | .buildSlice t 0 ps => ps.toList.isEmpty && tyB P t (fun d => match d with | .slice e => (P.info? e).isSome | _ => false) | _ => false)
def appB (P : Program) (o : Oper) (sz bytes : Nat) : Bool :=
  o.dst == some 7 && o.guard.isNone && effChk2 P o.op (.app sz bytes (.s 5) (.s 6))
/-- The library's Clone, as it is translated. -/
def cloneB (P : Program) (sz bytes : Nat) : Code → Bool
  | .seq (.region _ r1 false) (.seq (.seq (.region _ r2 false) (.cond (.tmp 4) (.seq (.region _ r4 false) .ret) .skip)) (.seq (.region _ r3 false) .ret)) =>
    (match r1.toList with | [o] => mvB o 2 (.c .nil) | _ => false) && (match r4.toList with | [o] => mvB o 2 (.c .nil) | _ => false) && (match r2.toList with | [o, q] => mvB o 3 (.s 0) && nilqB P q | _ => false) &&
      (match r3.toList with | [o, q, u, v] => lit0B P o && mvB q 6 (.s 0) && appB P u sz bytes && mvB v 2 (.s 7) | _ => false)
  | _ => false
def chkCode (P : Program) : Code → ACode → Bool
  | .skip, .skip => true
  | .region _ ops false, .region false n q => n == 0 && chkOps P ops ops.toList q
  | .region _ ops true, .region true n q => chkOps P ops ops.toList q && drawB ops q n
  | .seq a b, .seq a' b' => chkCode P a a' && chkCode P b b'
  | .cond c a b, .cond c' a' b' => axB c c' && chkCode P a a' && chkCode P b b'
  | .block i b, .block i' b' => i == i' && chkCode P b b'
  | .loop b, .loop _ _ b' => chkCode P b b'
  | .exit i, .exit i' _ _ => i == i'
  | .ret, .ret _ _ => true
  | c, .clone sz bytes => cloneB P sz bytes c
  | _, .ins => true
  | _, .grw _ _ => true
  | _, .rvs => true
  | _, _ => false
/-- The table is what the program is. -/
def TabOk (P : Program) (T : FuncId → Option AFun) : Prop :=
  ∀ f af, T f = some af → Node P f af.body ∧ ∃ fn c, P.funcs[f]? = some fn ∧ fn.body = some c ∧ fn.name ≠ "runtime.NumGoroutine" ∧ fn.ntmps = af.n ∧ chkRes P fn.results.toList af.res = true ∧ chkCode P c af.body = true

section
variable {P : Program} {T : FuncId → Option AFun}
theorem After.mono {F : Own} {w0 : World} {e : AE} {s : St} {Q : Exit → Act → World → Prop} (h : ∀ x a w G, ERel e x → Rel F w0 G s a w → Q x a w) : ∀ x a w, After F w0 e s x a w → Q x a w :=
  fun x a w ⟨h1, G, h2⟩ => h x a w G h1 h2
/-- A slot of which nothing is known may hold anything. -/
theorem Rel.any {F : Own} {w0 w : World} {G : Gh} {s : St} {a : Act} {i : Nat} (h : Rel F w0 G s a w) (hi : s.slots[i]? = some .bad) (v : Value) : Rel F w0 G s (a.put (some i) v) w := by
  have hs : s.put (some i) .bad = s := by
    obtain ⟨sl, m, u⟩ := s
    obtain ⟨hlt, he⟩ := List.getElem?_eq_some_iff.1 hi
    have e : sl.set i SV.bad = sl := by rw [← he]; exact List.set_getElem_self hlt
    simp only [St.put, e]
  have := h.put (v := v) (sv := .bad) trivial (some i)
  rwa [hs] at this
theorem mvB_run {o : Oper} {d : Nat} {x : AX} (h : mvB o d x = true) (a : Act) (w : World) : ∃ y, axB y x = true ∧ (execOp a.eval o).run P w = .ok (.value (a.eval y)) w ∧ o.dst = some d ∧ o.guard = none := by
  unfold mvB at h
  simp only [Bool.and_eq_true, beq_iff_eq, Option.isNone_iff_eq_none] at h
  obtain ⟨⟨h1, h2⟩, h3⟩ := h
  cases ho : o.op with
  | move y => rw [ho] at h3; exact ⟨y, h3, by simp [execOp, ho], h1, h2⟩
  | assign y => rw [ho] at h3; exact ⟨y, h3, by simp [execOp, ho], h1, h2⟩
  | _ => rw [ho] at h3; cases h3
theorem wpOps_run {ops : Array Oper} {Q : Exit → Act → World → Prop} {i : Nat} {r : List Nat} {o : Oper} {a : Act} {w w' : World} {v : Value} (h : ops[i]? = some o) (hg : o.guard = none) (hr : (execOp a.eval o).run P w = .ok (.value v) w') (hk : wpOps P ops Q r (a.put o.dst v) w') : wpOps P ops Q (i :: r) a w := by
  rw [wpOps_cons]
  unfold wpOp
  simp only [h]
  rw [if_pos (by simp [Region.wanted, hg])]
  left
  unfold Oper.wp
  rw [hr]
  exact hk
theorem run_equalIn_nil {t e : TypeId} {A : Option Addr} {m c : Nat} {w : World} (d : Nat) (ht : P.underlying t = some (.slice e)) : (Op.equalIn (d + 1) t (.slice A m c) (.slice none 0 0)).run P w = .ok A.isNone w := by
  cases A <;> simp only [Op.equalIn, Sem.run_bind, run_underlying ht, Result.andThen_ok, Sem.run_pure, Option.isNone]
theorem run_equal_nil {t e : TypeId} {A : Option Addr} {m c : Nat} {w : World} (ht : P.underlying t = some (.slice e)) : (Op.equal t (.slice A m c) (.slice none 0 0)).run P w = .ok A.isNone w := run_equalIn_nil 9999 ht
theorem clone_ok {c : Code} {sz bytes : Nat} {x y : XS} {F : Own} {w0 : World} {G : Gh} {a : Act} {w : World} (hx : cloneX x sz bytes = some y) (hc : cloneB P sz bytes c = true) (hr : Rel F w0 G x.st a w) : c.wp P (After F w0 .ret y.st) a w := by
  unfold cloneB at hc
  split at hc
  · rename_i i1 r1 i2 r2 i4 r4 i3 r3
    simp only [Bool.and_eq_true] at hc
    obtain ⟨⟨⟨c1, c4⟩, c2⟩, c3⟩ := hc
    split at c1 <;> try cases c1
    rename_i o1 e1
    split at c4 <;> try cases c4
    rename_i o4 e4
    split at c2 <;> try cases c2
    rename_i o2 q2 e2
    split at c3 <;> try cases c3
    rename_i o3 q3 u3 v3 e3
    simp only [Bool.and_eq_true] at c2 c3
    obtain ⟨c2a, c2b⟩ := c2
    obtain ⟨⟨⟨c3a, c3b⟩, c3c⟩, c3d⟩ := c3
    obtain rfl : r1 = #[o1] := by rw [← Array.toArray_toList (xs := r1), e1]
    obtain rfl : r4 = #[o4] := by rw [← Array.toArray_toList (xs := r4), e4]
    obtain rfl : r2 = #[o2, q2] := by rw [← Array.toArray_toList (xs := r2), e2]
    obtain rfl : r3 = #[o3, q3, u3, v3] := by rw [← Array.toArray_toList (xs := r3), e3]
    unfold cloneX at hx
    split at hx
    · rename_i ax q1 p2 p3 p4 p5 p6 p7 hsl
      obtain ⟨⟨xsl, mem, up⟩, nx⟩ := x
      simp only at hsl hx hr
      subst hsl
      split at hx
      · rename_i m ycs hsrc
        have h0 : Rel F w0 G ⟨[.v false [ax], q1, .bad, .bad, .bad, .bad, .bad, .bad], mem, up⟩ a w :=
          ⟨hr.defers, killSlots_rel (dead := [2, 3, 4, 5, 6, 7]) hr.slots, hr.up, hr.rr, hr.inv, hr.fr, hr.own⟩
        obtain ⟨y1, _, k1, d1, g1⟩ := mvB_run (P := P) c1 a w
        refine wp_seq (wp_region ?_)
        refine wpOps_run (o := o1) rfl g1 k1 ?_
        rw [d1]
        have h1 := h0.any (i := 2) rfl (a.eval y1)
        generalize a.put (some 2) (a.eval y1) = a1 at h1
        simp only [wpOps, Exit.then]
        refine wp_seq (wp_seq (wp_region ?_))
        obtain ⟨y2, b2, k2, d2, g2⟩ := mvB_run (P := P) c2a a1 w
        refine wpOps_run (o := o2) rfl g2 k2 ?_
        rw [d2]
        have r2 : A1Rel G mem w ax (a1.eval y2) := eval_one h1 b2 rfl
        have h2 := h1.put (v := a1.eval y2) (sv := .v false [ax]) ⟨_, rfl, r2⟩ (some 3)
        generalize a1.put (some 3) (a1.eval y2) = a2 at h2
        unfold nilqB at c2b
        simp only [Bool.and_eq_true, beq_iff_eq, Option.isNone_iff_eq_none] at c2b
        obtain ⟨⟨dq, gq⟩, c2b⟩ := c2b
        have r3 : A1Rel G mem w ax (a2.eval (.tmp 3)) := eval_one (x := .tmp 3) (y := .s 3) h2 (by simp [axB]) rfl
        obtain ⟨A, c, news, fpn, ey, hkc, hA', hyl, hyh, hyb⟩ := src_rel h2 r3 hsrc
        have kq : (execOp a2.eval q2).run P w = .ok (.value (.bool A.isNone)) w := by
          split at c2b
          · rename_i t y ty hop
            simp only [Bool.and_eq_true] at c2b
            obtain ⟨ny, ht⟩ := c2b
            obtain ⟨d, hd, hdb⟩ := tyB_spec ht
            cases d <;> simp at hdb
            have ny' : y = .const (.slice none 0 0) := by
              unfold nilB at ny
              split at ny
              · rfl
              · cases ny
            subst ny'
            have e0 : a2.eval (.const (.slice none 0 0)) = .slice none 0 0 := rfl
            have he : (Op.equal t (.slice A m c) (.slice none 0 0)).run P w = .ok A.isNone w := by
              exact run_equal_nil hd
            simp only [execOp, hop, ey, e0, eqGuard, binOp, Sem.run_bind, Bool.not_true, Bool.false_eq_true, if_false, Sem.run_pure, Result.andThen_ok, he]
          · cases c2b
        refine wpOps_run (o := q2) rfl gq kq ?_
        rw [dq]
        have h3 := h2.put (v := .bool A.isNone) (sv := .v false [.bool A.isNone]) ⟨_, rfl, rfl⟩ (some 4)
        generalize a2.put (some 4) (.bool A.isNone) = a3 at h3
        simp only [wpOps, Exit.then]
        have r4 : a3.eval (.tmp 4) = .bool A.isNone := eval_one (x := .tmp 4) (y := .s 4) h3 (by simp [axB]) rfl
        refine wp_cond r4 ?_
        cases A with
        | none =>
          have hc0 := hA' rfl
          obtain rfl : m = 0 := by omega
          simp only [if_true, Option.some.injEq] at hx
          subst hx
          simp only [Option.isNone_none, if_true]
          refine wp_seq (wp_region ?_)
          obtain ⟨y5, b5, k5, d5, g5⟩ := mvB_run (P := P) c4 a3 w
          refine wpOps_run (o := o4) rfl g5 k5 ?_
          rw [d5]
          have r5 : A1Rel G mem w .nil (a3.eval y5) := eval_one h3 b5 rfl
          have h5 := h3.put (v := a3.eval y5) (sv := .v false [.nil]) ⟨_, rfl, r5⟩ (some 2)
          simp only [wpOps, Exit.then]
          exact wp_ret ⟨trivial, G, h5.defers, killSlots_rel (dead := [3, 4, 5, 6, 7]) h5.slots, h5.up, h5.rr, h5.inv, h5.fr, h5.own⟩
        | some A =>
          simp only [Option.isNone_some, Bool.false_eq_true, if_false]
          refine wp_skip ?_
          simp only [Exit.then]
          refine wp_seq (wp_region ?_)
          unfold lit0B at c3a
          simp only [Bool.and_eq_true, beq_iff_eq, Option.isNone_iff_eq_none] at c3a
          obtain ⟨⟨dl, gl⟩, c3a⟩ := c3a
          obtain ⟨arr, w', hp, kl⟩ : ∃ arr w', Pushed w w' arr ∧ (execOp a3.eval o3).run P w = .ok (.value (.slice (some ⟨w.heap.size, 0, none⟩) 0 0)) w' := by
            split at c3a
            · rename_i t ps hop
              simp only [Bool.and_eq_true, List.isEmpty_iff] at c3a
              obtain ⟨hps, ht⟩ := c3a
              obtain ⟨d, hd, hdb⟩ := tyB_spec ht
              cases d <;> simp at hdb
              rename_i e
              obtain ⟨i, hi⟩ : ∃ i, P.info? e = some i := Option.isSome_iff_exists.1 hdb
              obtain rfl : ps = #[] := by rw [← Array.toArray_toList (xs := ps), hps]
              have hsize : (sizeOf e).run P w = .ok i.size w := by simp [sizeOf, typeInfo, hi]
              refine ⟨#[], _, pushed_push w #[] e, ?_⟩
              have hfill : ∀ f : Nat → Option (Nat × Nat), Instr.fill f #[] [] = some #[] := fun f => by simp [Instr.fill]
              have hmap : ∀ g : Nat → Value, (Array.range 0).map g = #[] := fun g => by simp
              simp only [execOp, hop, Instr.buildSlice, Sem.run_bind, run_underlying hd, Result.andThen_ok, hsize, Nat.zero_mul, if_true, Sem.run_pure, hmap]
              rw [if_neg (by omega)]
              simp only [Sem.run_pure, Result.andThen_ok, Array.map_empty, hfill]
              rfl
            · cases c3a
          refine wpOps_run (o := o3) rfl gl kl ?_
          rw [dl]
          have h4 := (h3.pushed hp).put (v := .slice (some ⟨w.heap.size, 0, none⟩) 0 0) (sv := .v false [.nil]) ⟨_, rfl, _, rfl⟩ (some 5)
          generalize a3.put (some 5) (.slice (some ⟨w.heap.size, 0, none⟩) 0 0) = a4 at h4
          obtain ⟨y6, b6, k6, d6, g6⟩ := mvB_run (P := P) c3b a4 w'
          refine wpOps_run (o := q3) rfl g6 k6 ?_
          rw [d6]
          have r6 : A1Rel G mem w' ax (a4.eval y6) := eval_one h4 b6 rfl
          have h6 := h4.put (v := a4.eval y6) (sv := .v false [ax]) ⟨_, rfl, r6⟩ (some 6)
          generalize a4.put (some 6) (a4.eval y6) = a6 at h6
          unfold appB at c3c
          simp only [Bool.and_eq_true, beq_iff_eq, Option.isNone_iff_eq_none] at c3c
          obtain ⟨⟨du, gu⟩, c3c⟩ := c3c
          have tail : ∀ (r : A1) (mm : Mem) (a' : Act) (w1 : World) (G1 : Gh), Rel F w0 G1 ⟨[.v false [ax], q1, .bad, .v false [ax], .v false [.bool false], .v false [.nil], .v false [ax], .v false [r]], mm, up⟩ a' w1 →
              y = ⟨⟨[.v false [ax], q1, .v false [r], .bad, .bad, .bad, .bad, .bad], mm, up⟩, nx + 64⟩ → wpOps P #[o3, q3, u3, v3] (Exit.then (Code.ret.wp P (After F w0 .ret y.st)) (After F w0 .ret y.st)) [3] a' w1 := by
            intro r mm a' w1 G1 hrel hy
            obtain ⟨y7, b7, k7, d7, g7⟩ := mvB_run (P := P) c3d a' w1
            refine wpOps_run (o := v3) rfl g7 k7 ?_
            rw [d7]
            have r7 : A1Rel G1 mm w1 r (a'.eval y7) := eval_one hrel b7 rfl
            have h7 := hrel.put (v := a'.eval y7) (sv := .v false [r]) ⟨_, rfl, r7⟩ (some 2)
            simp only [wpOps, Exit.then]
            subst hy
            exact wp_ret ⟨trivial, G1, h7.defers, killSlots_rel (dead := [3, 4, 5, 6, 7]) h7.slots, h7.up, h7.rr, h7.inv, h7.fr, h7.own⟩
          change wpOps P #[o3, q3, u3, v3] _ [2, 3] a6 w'
          rw [wpOps_cons]
          unfold wpOp
          change if Region.wanted u3 _ = true then _ else _
          rw [if_pos (by simp [Region.wanted, gu])]
          left
          split at hx
          · rename_i hm0
            subst hm0
            cases hx
            have happ : effOp2 ⟨[.v false [ax], q1, .bad, .v false [ax], .v false [.bool false], .v false [.nil], .v false [ax], .bad], mem, up⟩ nx (.app sz bytes (.s 5) (.s 6)) = some (.v false [.nil], ⟨[.v false [ax], q1, .bad, .v false [ax], .v false [.bool false], .v false [.nil], .v false [ax], .bad], mem, up⟩) := by
              simp [effOp2, St.one, St.get, appSt, hsrc, A1.slB]
            exact (eff_app h6 c3c happ).upon _ du fun a' w1 G1 hrel => tail .nil mem a' w1 G1 hrel rfl
          · rename_i hm0
            split at hx
            · rename_i hb
              cases hx
              have hnx : mem nx = none := by simpa using hb.2.2
              have happ : effOp2 ⟨[.v false [ax], q1, .bad, .v false [ax], .v false [.bool false], .v false [.nil], .v false [ax], .bad], mem, up⟩ nx (.app sz bytes (.s 5) (.s 6)) = some (.v false [.sl nx [] 0 m], ⟨[.v false [ax], q1, .bad, .v false [ax], .v false [.bool false], .v false [.nil], .v false [ax], .bad], upd mem nx (some (.row sz ycs)), up⟩) := by
                simp only [effOp2, St.one, St.get, List.getElem?_cons_succ, List.getElem?_cons_zero, appSt, hsrc, if_neg hm0, oldOf, Nat.zero_add, if_pos hb.1, if_pos hb.2.1, newRowSt, hnx, List.isEmpty_nil, if_true, List.nil_append]
              exact (eff_app h6 c3c happ).upon _ du fun a' w1 G1 hrel => tail _ _ a' w1 G1 hrel rfl
            · cases hx
      · cases hx
    · cases hx
  · cases hc
theorem exec_ok (hm : P.follows .mixedOrders = true) (HT : TabOk P T) : ∀ (k : Nat) {c : Code} {ac : ACode} {x y : XS} {e : AE} {F : Own} {w0 : World} {G : Gh} {a : Act} {w : World},
    exec T k ac x = some (e, y) → chkCode P c ac = true → Rel F w0 G x.st a w → c.wp P (After F w0 e y.st) a w := by
  intro k0
  induction k0 using Nat.strongRecOn with
  | _ k0 IH =>
  cases k0 with
  | zero => intro c ac x y e F w0 G a w h; cases h
  | succ k =>
    intro c ac x y e F w0 G a w h hc hr
    have ih := @IH k (Nat.lt_succ_self k)
    have hT : ∀ f af, T f = some af → FunOk P (exec T k) f af := by
      intro f af haf
      obtain ⟨hI, fn, c, h1, h2, h3, h4, h5, h6⟩ := HT f af haf
      exact ⟨hI, fn, c, h1, h2, h3, h4, h5, fun x e y F w0 G a w hex hrel => ih hex h6 hrel⟩
    cases ac with
    | skip =>
      cases c <;> simp only [chkCode] at hc <;> (try cases hc)
      simp only [exec, Option.some.injEq, Prod.mk.injEq] at h
      obtain ⟨rfl, rfl⟩ := h
      exact wp_skip ⟨trivial, G, hr⟩
    | region dr n q =>
      simp only [exec] at h
      obtain ⟨s1, hs1, h⟩ := Option.bind_eq_some_iff.1 h
      obtain ⟨z, hz, he⟩ := Option.map_eq_some_iff.1 h
      simp only [Prod.mk.injEq] at he
      obtain ⟨rfl, rfl⟩ := he
      cases c with
      | region i ops d =>
        cases d <;> cases dr <;> simp only [chkCode, Bool.and_eq_true, beq_iff_eq] at hc <;> (try cases hc)
        · rename_i hn hc
          subst hn
          simp only [List.take_zero, runG, Option.some.injEq] at hs1
          subst hs1
          simp only [List.drop_zero] at hz
          refine wp_region ?_
          rw [List.range_eq_range']
          have := runOps_ok (ops := ops) (Q := After F w0 .nrm z.st) hT ops.toList (k := 0) (fun j => by simp) hc hz hr (fun a' w' G' h => ⟨trivial, G', h⟩)
          simpa using this
        · rename_i hc hB
          exact draw_ok hm hT hc hB hs1 hz hr fun a' w' G' h => ⟨trivial, G', h⟩
      | _ => simp [chkCode] at hc
    | seq a1 b1 =>
      cases c with
      | seq a2 b2 =>
        simp only [chkCode, Bool.and_eq_true] at hc
        simp only [exec] at h
        refine wp_seq ?_
        split at h
        · rename_i z hz
          refine wp_mono (ih hz hc.1 hr) (After.mono fun x a w G hx hrel => ?_)
          cases x <;> simp only [ERel] at hx
          exact ih h hc.2 hrel
        · rename_i hne
          cases hz : exec T k a1 x with
          | none => rw [hz] at h; cases h
          | some p =>
            obtain ⟨e1, z⟩ := p
            rw [hz] at h
            cases h
            refine wp_mono (ih hz hc.1 hr) (After.mono fun x a w G hx hrel => ?_)
            cases e with
            | nrm => exact absurd hz (hne y)
            | exit i => cases x <;> simp only [ERel] at hx; exact ⟨hx, G, hrel⟩
            | ret => cases x <;> simp only [ERel] at hx; exact ⟨trivial, G, hrel⟩
      | _ => simp [chkCode] at hc
    | cond c1 a1 b1 =>
      cases c with
      | cond c2 a2 b2 =>
        simp only [chkCode, Bool.and_eq_true] at hc
        simp only [exec] at h
        split at h
        · rename_i t ht
          have hv := eval_one hr hc.1.1 ht
          refine wp_cond (t := t) hv ?_
          cases t with
          | true => exact ih h hc.1.2 hr
          | false => exact ih h hc.2 hr
        · cases h
      | _ => simp [chkCode] at hc
    | block i b1 =>
      cases c with
      | block i2 b2 =>
        simp only [chkCode, Bool.and_eq_true, beq_iff_eq] at hc
        obtain ⟨rfl, hc⟩ := hc
        simp only [exec] at h
        refine wp_block ?_
        split at h
        · rename_i j z hz
          refine wp_mono (ih hz hc hr) (After.mono fun x a w G hx hrel => ?_)
          cases x <;> simp only [ERel] at hx
          subst hx
          simp only [Exit.inBlock]
          split at h
          · rename_i hj
            cases h
            rw [if_pos hj]
            exact ⟨trivial, G, hrel⟩
          · rename_i hj
            cases h
            rw [if_neg hj]
            exact ⟨rfl, G, hrel⟩
        · rename_i hne
          refine wp_mono (ih h hc hr) (After.mono fun x a w G hx hrel => ?_)
          cases e with
          | nrm => cases x <;> simp only [ERel] at hx; exact ⟨trivial, G, hrel⟩
          | exit j => exact absurd h (hne j y)
          | ret => cases x <;> simp only [ERel] at hx; exact ⟨trivial, G, hrel⟩
      | _ => simp [chkCode] at hc
    | loop ag dead b1 =>
      cases c with
      | loop b2 =>
        simp only [chkCode] at hc
        -- rounds, by the fuel
        have key : ∀ (j : Nat), j ≤ k + 1 → ∀ {x : XS} {G : Gh} {a : Act} {w : World}, exec T j (.loop ag dead b1) x = some (e, y) → Rel F w0 G x.st a w → Code.rounds P b2 (After F w0 e y.st) j a w := by
          intro j
          induction j with
          | zero => intro _ x G a w h; cases h
          | succ j ihj =>
            intro hj x G a w h hr
            simp only [exec] at h
            obtain ⟨G1, hh⟩ := head_ok hr ag dead
            rw [rounds_succ]
            split at h
            · rename_i z hz
              refine wp_mono (IH j (by omega) hz hc hh) (After.mono fun x a w G hx hrel => ?_)
              cases x <;> simp only [ERel] at hx
              exact ihj (by omega) h (by cases ag <;> exact hrel)
            · rename_i hne
              refine wp_mono (IH j (by omega) h hc hh) (After.mono fun x a w G hx hrel => ?_)
              cases e with
              | nrm => exact absurd h (hne y)
              | exit i => cases x <;> simp only [ERel] at hx; exact ⟨hx, G, hrel⟩
              | ret => cases x <;> simp only [ERel] at hx; exact ⟨trivial, G, hrel⟩
        exact wp_loop_rounds (k + 1) (key (k + 1) (Nat.le_refl _) h hr)
      | _ => simp [chkCode] at hc
    | exit i ag dead =>
      cases c with
      | exit i2 =>
        simp only [chkCode, beq_iff_eq] at hc
        subst hc
        simp only [exec, Option.some.injEq, Prod.mk.injEq] at h
        obtain ⟨rfl, rfl⟩ := h
        obtain ⟨G1, hh⟩ := head_ok hr ag dead
        exact wp_exit ⟨rfl, G1, hh⟩
      | _ => simp [chkCode] at hc
    | ins => simp only [exec] at h; cases h
    | grw sz bytes => simp only [exec] at h; cases h
    | rvs => simp only [exec] at h; cases h
    | clone sz bytes =>
      simp only [exec] at h
      obtain ⟨z, hz, he⟩ := Option.map_eq_some_iff.1 h
      cases he
      have hc' : cloneB P sz bytes c = true := by
        cases c with
        | region i ops d => cases d <;> exact hc
        | _ => exact hc
      exact clone_ok hz hc' hr
    | ret ag dead =>
      cases c <;> simp only [chkCode] at hc <;> (try cases hc)
      simp only [exec, Option.some.injEq, Prod.mk.injEq] at h
      obtain ⟨rfl, rfl⟩ := h
      obtain ⟨G1, hh⟩ := head_ok hr ag dead
      exact wp_ret ⟨trivial, G1, hh⟩
end
end Go.Proofs.YtbdokibepndibaaGreat.Eng
