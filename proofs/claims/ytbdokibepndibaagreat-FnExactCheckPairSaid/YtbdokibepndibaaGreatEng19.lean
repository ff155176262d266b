/- An interpreter of the model's code over tagged trees, nineteenth part: what is checked of a function's code; calls are carried out. -/
import Derived.Test.YtbdokibepndibaaGreatEng18
namespace Go.Proofs.YtbdokibepndibaaGreat.Eng
open Go.RowKit

def calleeB (c : Call) (f : FuncId) : Bool :=
  match c.callee with
  | .value (.func g) => g == f
  | _ => false
def chkAct (P : Program) (op : Op) : AO → Bool
  | .call f args => (match op with | .call c => calleeB c f && axsB c.args.toList (args.map (·.1)) | _ => false)
  | .thru f args => (match op with | .call c => calleeB c f && axsB c.args.toList args | _ => false)
  | .callv g args => (match op with | .call c => (match c.callee with | .value x => axB x g | _ => false) && axsB c.args.toList args | _ => false)
  | .lend f x args => (match op with | .call c => calleeB c f && axsB c.args.toList (x :: args.map (·.1)) | _ => false)
  | .ins f x i v => (match op with | .call c => calleeB c f && axsB c.args.toList [x, i, v] | _ => false)
  | .rvs f x => (match op with | .call c => calleeB c f && axsB c.args.toList [x] | _ => false)
  | .grw f x n => (match op with | .call c => calleeB c f && axsB c.args.toList [x, n] | _ => false)
  | ao => chkOp P op ao
def chkOps (P : Program) (all : Array Oper) : List Oper → List AOp → Bool
  | [], [] => true
  | o :: r, ao :: q => o.dst == ao.dst && guardB all o.guard ao.guard && chkAct P o.op ao.act && chkOps P all r q
  | _, _ => false
def chkRes (P : Program) : List ResultVar → List ARes → Bool
  | [], [] => true
  | .tmp t :: r, .tmp u :: q => t == u && chkRes P r q
  | .cell t ty :: r, .cell u sz ag :: q => t == u && formB P ty sz ag && chkRes P r q
  | _, _ => false

section
variable {P : Program} {F : Own} {w0 : World} {G G' : Gh} {s s' : St} {a : Act} {w w' : World} {sv : SV} {o : Oper} {d : Nat} {m m' : Mem} {T : FuncId → Option AFun} {ex : Ex}
theorem call_run {c : Call} {fop : Operand} {f : FuncId} {fn : Func} {cd : Code} {caps : Array Value} (ho : o.op = .call c) (hcal : c.callee = .value fop) (hf : a.eval fop = .func (.func f) #[] caps) (hfn : P.funcs[f]? = some fn) (hb : fn.body = some cd)
    (hname : fn.name ≠ "runtime.NumGoroutine") : (execOp a.eval o).run P w = .ok (.enter f (c.args.map a.eval ++ caps)) w := by
  simp [execOp, ho, resolve, hcal, Deferred.ofValue, hf, invoke, callFunc, hfn, hb, hname]
/-- What a call comes to, where it comes back with a value. -/
def Back (P : Program) (f : FuncId) (args : Array Value) (w : World) (R : Value → World → Prop) : Prop :=
  Calls P f args w fun e w' => match e with | .returned v => R v w' | _ => False
theorem Back.upon {f : FuncId} {args : Array Value} {R : Value → World → Prop} (h : Back P f args w R) {K : Act → World → Prop} {Q : Exit → Act → World → Prop} (hr : (execOp a.eval o).run P w = .ok (.enter f args) w) (hk : ∀ v w', R v w' → K (a.put o.dst v) w') :
    o.wp P a w K Q := by
  unfold Oper.wp
  rw [hr, Oper.upon_enter]
  refine Calls.mono h fun e w' he => ?_
  cases e with
  | returned v => exact hk v w' he
  | _ => exact he.elim
theorem Done.upon {sv : SV} (h : Done P F w0 o a w sv s') {K : Act → World → Prop} {Q : Exit → Act → World → Prop} (dst : Option Nat) (hd : o.dst = dst) (hk : ∀ a' w' G', Rel F w0 G' (s'.put dst sv) a' w' → K a' w') : o.wp P a w K Q := by
  obtain ⟨r, v, w', G', hr, hv, hrel, hs⟩ := h
  unfold Oper.wp
  rw [hr]
  subst hd
  rcases hv with rfl | ⟨rfl, rfl⟩
  · rw [Oper.upon_value]; exact hk _ _ _ (hrel.put hs _)
  · rw [Oper.upon_skip]; exact hk _ _ _ (hrel.put hs _)
theorem getAll_rel (h : Rel F w0 G s a w) : ∀ {xs : List Operand} {ys : List AX} {vs : List SV}, axsB xs ys = true → getAll s ys = some vs → All2 (SRel G s.mem w) vs (xs.map a.eval) := by
  intro xs
  induction xs with
  | nil =>
    intro ys vs hc hg
    cases ys with
    | nil => simp only [getAll, Option.some.injEq] at hg; subst hg; exact .nil
    | cons y r => simp [axsB] at hc
  | cons x r ih =>
    intro ys vs hc hg
    cases ys with
    | nil => simp [axsB] at hc
    | cons y q =>
      simp only [axsB, Bool.and_eq_true] at hc
      simp only [getAll] at hg
      split at hg <;> cases hg
      rename_i v u hv hu
      exact .cons (eval_get h hc.1 hv) (ih hc.2 hu)
theorem ld_ptr {x' : Operand} {sz : Nat} {ag : Bool} {x : AX} (h : Rel F w0 G s a w) (hx : axB x' x = true) (hv : pureOp s (.ld sz ag x) = some sv) : ∃ A, a.eval x' = .pointer (some A) := by
  simp only [pureOp] at hv
  split at hv
  · rename_i t p off hone
    obtain ⟨A, hA, _⟩ := eval_one h hx hone
    exact ⟨A, hA⟩
  · rename_i cs hone
    obtain ⟨A, hA, _⟩ := eval_one h hx hone
    exact ⟨A, hA⟩
  · cases hv
def resultOf (a : Act) : ResultVar → Sem Value
  | .tmp t => pure (a.tmps.getD t undef)
  | .cell x t => do loadVar t (← asAddr (a.tmps.getD x undef))
/-- What a function gives back. -/
theorem res_ok (h : Rel F w0 G s a w) : ∀ {rs : List ResultVar} {qs : List ARes} {l : List (Bool × List A1)}, chkRes P rs qs = true → resOf s qs = some l →
    ∃ vs : List Value, (rs.mapM (resultOf a)).run P w = .ok vs w ∧ All2 (fun (p : Bool × List A1) v => VRel G s.mem w p.1 p.2 v) l vs := by
  intro rs
  induction rs with
  | nil =>
    intro qs l hc hr
    cases qs with
    | nil => simp only [resOf, Option.some.injEq] at hr; subst hr; exact ⟨[], by simp, .nil⟩
    | cons q r => simp [chkRes] at hc
  | cons x r ih =>
    intro qs l hc hr
    cases qs with
    | nil => cases x <;> simp [chkRes] at hc
    | cons q qr =>
      cases x with
      | tmp t =>
        cases q with
        | tmp u =>
          simp only [chkRes, Bool.and_eq_true, beq_iff_eq] at hc
          obtain ⟨rfl, hc⟩ := hc
          simp only [resOf] at hr
          split at hr <;> cases hr
          rename_i ag as_ l' hs hl
          obtain ⟨vs, k1, k2⟩ := ih hc hl
          obtain ⟨v, hv, hrel⟩ := h.slots.nth hs
          refine ⟨v :: vs, ?_, .cons hrel k2⟩
          have e : a.tmps.getD t undef = v := by
            rw [Array.getD_eq_getD_getElem?, ← Array.getElem?_toList, hv]; rfl
          rw [List.mapM_cons]
          simp only [resultOf, Sem.run_bind, Sem.run_pure, Result.andThen_ok, k1, e]
        | cell u sz ag => simp [chkRes] at hc
      | cell t ty =>
        cases q with
        | tmp u => simp [chkRes] at hc
        | cell u sz ag =>
          simp only [chkRes, Bool.and_eq_true, beq_iff_eq] at hc
          obtain ⟨⟨rfl, hf⟩, hc⟩ := hc
          simp only [resOf] at hr
          split at hr <;> cases hr
          rename_i ag' as_ l' hs hl
          obtain ⟨vs, k1, k2⟩ := ih hc hl
          obtain ⟨v, hv, hrel⟩ := ok_ld (P := P) (o := { dst := none, op := .load ty (.tmp t), type := 0, pos := "", after := #[], guard := none }) h (by simp [pureChk, hf, axB]) hs
          refine ⟨v :: vs, ?_, .cons hrel k2⟩
          obtain ⟨A, hA⟩ := ld_ptr (x' := .tmp t) h (by simp [axB]) hs
          have hA' : a.tmps.getD t undef = .pointer (some A) := hA
          simp only [execOp, Instr.loadAt, hA, Instr.sureAddr, Sem.run_bind, Sem.run_pure, Result.andThen_ok] at hv
          have hv' : (loadVar ty A).run P w = .ok v w := by
            cases hq : (loadVar ty A).run P w with
            | ok u w2 =>
              rw [hq] at hv
              simp only [Result.andThen_ok] at hv
              cases hv
              rfl
            | halt u w2 => rw [hq] at hv; cases hv
          rw [List.mapM_cons]
          simp only [resultOf, Sem.run_bind, Sem.run_pure, Result.andThen_ok, hA', show asAddr (.pointer (some A)) = pure A from rfl, hv', k1]
end
end Go.Proofs.YtbdokibepndibaaGreat.Eng
