/- An interpreter of the model's code over tagged trees, eighteenth part: regions, ways, loops, calls. -/
import Derived.Test.YtbdokibepndibaaGreatEng17
namespace Go.Proofs.YtbdokibepndibaaGreat.Eng
open Go.RowKit

inductive ACode where
  | skip
  | region (draw : Bool) (n : Nat) (ops : List AOp)
  | seq (a b : ACode)
  | cond (c : AX) (t e : ACode)
  | block (id : Nat) (b : ACode)
  | loop (again : Bool) (dead : List Nat) (b : ACode)
  | exit (id : Nat) (again : Bool) (dead : List Nat)
  | ret (again : Bool) (dead : List Nat)
  | clone (sz bytes : Nat)
  | ins
  | grw (sz bytes : Nat)
  | rvs
inductive AE where
  | nrm
  | exit (id : Nat)
  | ret
inductive ARes where
  | tmp (t : Nat)
  | cell (t sz : Nat) (ag : Bool)
structure AFun where
  n : Nat
  res : List ARes
  body : ACode
structure XS where
  st : St
  nx : Nat
abbrev Ex := ACode → XS → Option (AE × XS)

def SV.ids : SV → List Nat
  | .v _ as_ => as_.flatMap A1.ids
  | .tup vs => vs.flatMap fun p => p.2.flatMap A1.ids
  | .bad => []
/-- All that something leads to, in the order in which it is come upon. -/
def reach (m : Mem) : Nat → List Nat → List Nat → List Nat
  | 0, _, seen => seen
  | _, [], seen => seen
  | k + 1, t :: r, seen =>
    if seen.contains t then reach m k r seen
    else match m t with
      | some (.box as_) => reach m k (as_.flatMap A1.ids ++ r) (seen ++ [t])
      | some (.row _ _) => reach m k r (seen ++ [t])
      | none => reach m k r seen
theorem reach_nodup {m : Mem} {k : Nat} {l seen : List Nat} (h : seen.Nodup) : (reach m k l seen).Nodup := by
  induction k generalizing l seen with
  | zero => simpa [reach] using h
  | succ k ih =>
    cases l with
    | nil => simpa [reach] using h
    | cons t r =>
      simp only [reach]
      split
      · exact ih h
      · rename_i hc
        have h2 : (seen ++ [t]).Nodup := by
          rw [List.nodup_append]
          refine ⟨h, by simp, fun x hx y hy e => ?_⟩
          simp at hy
          subst hy
          subst e
          simp at hc
          exact hc hx
        split
        · exact ih h2
        · exact ih h2
        · exact ih h
def killSlots : List Nat → List SV → List SV
  | [], l => l
  | i :: r, l => killSlots r (l.set i .bad)
/-- The state at a loop's head: what is dead is out, and what lives has the first names. -/
def head (again : Bool) (dead : List Nat) (x : XS) : XS :=
  let s : St := ⟨killSlots dead x.st.slots, x.st.mem, x.st.up⟩
  if again then
    let ts := reach s.mem 64 ((s.slots ++ s.up).flatMap SV.ids) []
    ⟨s.canon ts, ts.length⟩
  else ⟨s, x.nx⟩
def resOf (s : St) : List ARes → Option (List (Bool × List A1))
  | [] => some []
  | .tmp t :: r => match s.slots[t]?, resOf s r with
    | some (.v ag as_), some q => some ((ag, as_) :: q)
    | _, _ => none
  | .cell t sz ag :: r => match pureOp s (.ld sz ag (.s t)), resOf s r with
    | some (.v ag as_), some q => some ((ag, as_) :: q)
    | _, _ => none
def resSV : List (Bool × List A1) → SV
  | [p] => .v p.1 p.2
  | l => .tup l
def allObs (m : Mem) : List Nat → Option (List Ob)
  | [] => some []
  | t :: r => match m t, allObs m r with
    | some x, some q => some (x :: q)
    | _, _ => none
def roA (m : Mem) (sz : Nat) : A1 → Option A1
  | .sl t p off n => (srcCells m sz (.sl t p off n)).map fun x => .ro x.1 x.2
  | .pr _ _ _ => none
  | .rx n cs => some (.ro n cs)
  | .fn f caps => if caps.isEmpty then some (.fn f []) else none
  | a => some a
def roL (m : Mem) : List A1 → List Nat → Option (List A1)
  | [], _ => some []
  | a :: r, z :: zs => match roA m z a, roL m r zs with
    | some b, some q => some (b :: q)
    | _, _ => none
  | _, [] => none
def A1.ownB : A1 → Bool
  | .sl _ _ _ _ => true
  | _ => false
def roArgs (s : St) : List (AX × List Nat) → Option (List SV × Bool)
  | [] => some ([], true)
  | (x, zs) :: r => match s.get x, roArgs s r with
    | some (.v ag as_), some (q, c) => (roL s.mem as_ zs).map fun bs => (.v ag bs :: q, c && !(as_.any A1.ownB))
    | _, _ => none
def SV.noRo : SV → Bool
  | .v _ as_ => as_.all A1.noRo
  | .tup vs => vs.all fun p => p.2.all A1.noRo
  | .bad => true
def Ob.noRo : Ob → Bool
  | .row _ _ => true
  | .box as_ => as_.all A1.noRo
/-- A function on trees: what it gives back, and the rows and variables that this leads to, by their names 0, 1, .. -/
def runRO (ex : Ex) (T : FuncId → Option AFun) (f : FuncId) (args : List SV) : Option (SV × List Ob) :=
  match T f with
  | some af =>
    if args.length ≤ af.n then
      match ex af.body ⟨⟨args ++ List.replicate (af.n - args.length) (.tup []), fun _ => none, []⟩, 0⟩ with
      | some (.exit _, _) => none
      | some (_, x) =>
        match resOf x.st af.res with
        | some l =>
          let ts := reach x.st.mem 64 (SV.ids (resSV l)) []
          (allObs (x.st.canon ts).mem (List.range ts.length)).map fun obs => ((resSV l).map (ren (pos ts)), obs)
        | none => none
      | none => none
    else none
  | none => none
def callRO (ex : Ex) (T : FuncId → Option AFun) (f : FuncId) (args : List (AX × List Nat)) (d : Nat) (s : St) : Option (SV × St) :=
  match roArgs s args with
  | some (vs, clean) =>
    match runRO ex T f vs with
    | some (sv, obs) =>
      if (clean || (obs.all Ob.noRo && sv.noRo)) && (List.range obs.length).all (fun i => (s.mem (d + i)).isNone) then
        some (sv.map (ren (shift d obs.length)), ⟨s.slots, addMem s.mem d obs, s.up⟩)
      else none
    | none => none
  | none => none
def getAll (s : St) : List AX → Option (List SV)
  | [] => some []
  | x :: r => match s.get x, getAll s r with
    | some v, some q => some (v :: q)
    | _, _ => none
/-- A variable that a call is lent: what it holds leads to nothing that is the caller's own. -/
def lendBox (s : St) (x : AX) : Option (Nat × List A1) :=
  match s.one x with
  | some (.pr t [] 0) =>
    match s.mem t with
    | some (.box as_) => if as_.all (fun a => a.ids.isEmpty) = true then some (t, as_) else none
    | _ => none
  | _ => none
def lendEnd (s : St) (res : List ARes) : Option (SV × List A1 × List Ob) :=
  match resOf s res, s.up with
  | some l, [.v false [.pr t [] 0]] =>
    match s.mem t with
    | some (.box bs) =>
      let ts := reach s.mem 64 (SV.ids (resSV l)) []
      if bs.all (fun a => a.ids.isEmpty) = true ∧ ts.contains t = false then
        (allObs (s.canon ts).mem (List.range ts.length)).map fun obs => ((resSV l).map (ren (pos ts)), bs, obs)
      else none
    | _ => none
  | _, _ => none
/-- A function on trees that is lent one variable: what it gives back, and what the variable then holds. -/
def runLend (ex : Ex) (T : FuncId → Option AFun) (f : FuncId) (as_ : List A1) (args : List SV) : Option (SV × List A1 × List Ob) :=
  match T f with
  | some af =>
    if args.length + 1 ≤ af.n then
      match ex af.body ⟨⟨(.v false [.pr 0 [] 0] :: args) ++ List.replicate (af.n - (args.length + 1)) (.tup []), memL [some (.box as_)], [.v false [.pr 0 [] 0]]⟩, 1⟩ with
      | some (.exit _, _) => none
      | some (_, x) => lendEnd x.st af.res
      | none => none
    else none
  | none => none
def callLend (ex : Ex) (T : FuncId → Option AFun) (f : FuncId) (x : AX) (args : List (AX × List Nat)) (d : Nat) (s : St) : Option (SV × St) :=
  match lendBox s x, roArgs s args with
  | some (t, as_), some (vs, true) =>
    match runLend ex T f as_ vs with
    | some (sv, bs, obs) =>
      if bs.length = as_.length ∧ (List.range obs.length).all (fun i => (s.mem (d + i)).isNone) = true then
        some (sv.map (ren (shift d obs.length)), ⟨s.slots, upd (addMem s.mem d obs) t (some (.box bs)), s.up⟩)
      else none
    | none => none
  | _, _ => none
/-- The library's Insert. -/
def insOp (T : FuncId → Option AFun) (f : FuncId) (x i v : AX) (d : Nat) (s : St) : Option (SV × St) :=
  match T f with
  | some af =>
    match af.body with
    | .ins =>
      match s.one x, s.one i, s.one v with
      | some ax, some (.int .i64 k), some ay => insSt s d ax k ay
      | _, _, _ => none
    | _ => none
  | none => none
/-- The library's Grow. -/
def grwOp (T : FuncId → Option AFun) (f : FuncId) (x n : AX) (d : Nat) (s : St) : Option (SV × St) :=
  match T f with
  | some af =>
    match af.body with
    | .grw sz bytes =>
      match s.one x, s.one n with
      | some ax, some (.int .i64 k) => grwSt s d sz bytes ax k
      | _, _ => none
    | _ => none
  | none => none
/-- The library's Reverse. -/
def rvsOp (T : FuncId → Option AFun) (f : FuncId) (x : AX) (s : St) : Option (SV × St) :=
  match T f with
  | some af =>
    match af.body with
    | .rvs =>
      match s.one x with
      | some ax => rvsSt s ax
      | _ => none
    | _ => none
  | none => none
/-- A call that sees the caller's memory. -/
def runThru (ex : Ex) (T : FuncId → Option AFun) (f : FuncId) (args : List SV) (x : XS) : Option (SV × XS) :=
  match T f with
  | some af =>
    if args.length ≤ af.n then
      match ex af.body ⟨⟨args ++ List.replicate (af.n - args.length) (.tup []), x.st.mem, x.st.slots ++ x.st.up⟩, x.nx⟩ with
      | some (.exit _, _) => none
      | some (_, y) => (resOf y.st af.res).map fun l => (resSV l, ⟨⟨y.st.up.take x.st.slots.length, y.st.mem, y.st.up.drop x.st.slots.length⟩, y.nx⟩)
      | none => none
    else none
  | none => none
def doOp (ex : Ex) (T : FuncId → Option AFun) (o : AOp) (d : Nat) (x : XS) : Option XS :=
  match wantB x.st o.guard with
  | none => none
  | some false => some ⟨x.st.put o.dst (.tup []), x.nx⟩
  | some true =>
    match o.act with
    | .call f args => (callRO ex T f args d x.st).map fun r => ⟨r.2.put o.dst r.1, x.nx⟩
    | .lend f c args => (callLend ex T f c args d x.st).map fun r => ⟨r.2.put o.dst r.1, x.nx⟩
    | .ins f c i v => (insOp T f c i v d x.st).map fun r => ⟨r.2.put o.dst r.1, x.nx⟩
    | .grw f c n => (grwOp T f c n d x.st).map fun r => ⟨r.2.put o.dst r.1, x.nx⟩
    | .rvs f c => (rvsOp T f c x.st).map fun r => ⟨r.2.put o.dst r.1, x.nx⟩
    | .thru f args => (getAll x.st args).bind fun vs => (runThru ex T f vs x).map fun r => ⟨r.2.st.put o.dst r.1, r.2.nx⟩
    | .callv g args =>
      match x.st.one g, getAll x.st args with
      | some (.fn f caps), some vs => (runThru ex T f (vs ++ caps.map fun t => .v false [.pr t [] 0]) x).map fun r => ⟨r.2.st.put o.dst r.1, r.2.nx⟩
      | _, _ => none
    | ao => (stepOp x.st d ao).map fun r => ⟨r.2.put o.dst r.1, x.nx⟩
def runOps (ex : Ex) (T : FuncId → Option AFun) : List AOp → Nat → XS → Option XS
  | [], _, x => some x
  | o :: r, d, x => (doOp ex T o d x).bind (runOps ex T r (d + 64))
end Go.Proofs.YtbdokibepndibaaGreat.Eng
