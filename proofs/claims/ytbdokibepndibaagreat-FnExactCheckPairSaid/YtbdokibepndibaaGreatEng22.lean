/- An interpreter of the model's code over tagged trees, twenty-second part: operations that only read, or make what is new; what they look at. -/
import Derived.Test.YtbdokibepndibaaGreatEng21
import Derived.StillTail
namespace Go.Proofs.YtbdokibepndibaaGreat.Eng
open Go.RowKit

def AO.rd : AO → List AX
  | .mv x | .slz x | .un _ x | .conv _ x | .b2s x | .i2s x | .fld _ _ _ x | .fa _ x | .ld _ _ x | .box _ x | .bxr _ x | .nck x | .ext x _ | .len x | .slen x | .mks _ _ _ x => [x]
  | .bin _ x y | .beq _ x y | .idx x y | .aidx _ _ _ x y | .ia _ x y | .iaa _ _ x y | .app _ _ x y | .apx _ _ x y | .mm _ x y => [x, y]
  | .pick c x y => [c, x, y]
  | .bld _ ps => ps.map (·.2.2)
  | .lit _ _ _ ps => ps.map (·.2.2)
  | .litr _ _ _ ps => ps.map (·.2.2)
  | .lend _ x args => x :: args.map (·.1)
  | .slc _ x lo hi => x :: (lo.toList ++ hi.toList)
  | .sslc x lo hi => x :: (lo.toList ++ hi.toList)
  | .mf _ caps => caps
  | .call _ args => args.map (·.1)
  | _ => []
def addObs (m : Mem) (d : Nat) (obs : List Ob) : Mem := fun u => if d ≤ u ∧ u < d + obs.length then obs[u - d]? else m u
/-- What an operation yields that turns nothing: a value, and rows and variables anew. -/
def gEff (ex : Ex) (T : FuncId → Option AFun) (s : St) (d : Nat) : AO → Option (SV × List Ob)
  | .call f args =>
    match roArgs s args with
    | some (vs, clean) =>
      match runRO ex T f vs with
      | some (sv, obs) => if clean || (obs.all Ob.noRo && sv.noRo) then some (sv.map (ren (shift d obs.length)), obs.map (Ob.map (ren (shift d obs.length)))) else none
      | none => none
    | none => none
  | .box _ x => match s.get x with | some (.v _ as_) => some (.v false [.pr d [] 0], [.box as_]) | _ => none
  | .bxr _ x => match s.get x with | some (.v _ as_) => (roCells as_).map fun cs => (.v false [.pc cs], []) | _ => none
  | .alc zero => some (.v false [.pr d [] 0], [.box zero])
  | .lit sz zero len parts =>
    (s.parts parts).bind fun ps =>
      if inB (reps len zero).length ps = true ∧ (zero.all fun x => x.ids.isEmpty) = true then
        match toCells s.mem (fillA (reps len zero) ps) with
        | some (cs, _, []) => some (.v false [.sl d [] 0 len], [.row sz cs])
        | _ => none
      else none
  | .lit0 => some (.v false [.nil], [])
  | .litr _ zero len parts =>
    (s.parts parts).bind fun ps =>
      if inB (reps len zero).length ps = true then
        (roCells (fillA (reps len zero) ps)).map fun cs => (.v false [.rx len cs], [])
      else none
  | .apx sz bytes x y =>
    match s.one x, s.one y with
    | some (.rx n cs), some ay =>
      match srcCells s.mem sz ay with
      | some (m, ycs) =>
        if m = 0 then some (.v false [.rx n cs], [])
        else if cs.length = n * sz ∧ n ≠ 0 ∧ (n + m) * bytes ≤ 140737488355328 ∧ cs.all Cell.flat = true ∧ ycs.all Cell.flat = true then some (.v false [.sl d [] 0 (n + m)], [.row sz (cs ++ ycs)])
        else none
      | none => none
    | _, _ => none
  | .mks sz bytes zero n =>
    match s.num n with
    | some k =>
      if 0 ≤ k ∧ bytes * k ≤ 281474976710656 then
        match toCells (fun _ => none) (reps k.toNat zero) with
        | some (cs, _, []) => some (.v false [.sl d [] 0 k.toNat], [.row sz cs])
        | _ => none
      else none
    | none => none
  | .app sz bytes x y =>
    match s.one x, s.one y with
    | some .nil, some ay =>
      match srcCells s.mem sz ay with
      | some (m, ycs) => if m = 0 then some (.v false [.nil], []) else if m * bytes ≤ 140737488355328 ∧ ycs.all Cell.flat = true then some (.v false [.sl d [] 0 m], [.row sz ycs]) else none
      | none => none
    | _, _ => none
  | .thru _ _ | .callv _ _ | .lend _ _ _ | .ins _ _ _ _ | .grw _ _ _ | .rvs _ _ => none
  | ao => if ao.eff then none else (pureOp s ao).map fun v => (v, [])
def freshB (m : Mem) (d : Nat) : Bool := (List.range 64).all fun i => (m (d + i)).isNone
def gRes (ex : Ex) (T : FuncId → Option AFun) (o : AOp) (d : Nat) (s : St) : Option (SV × List Ob) :=
  match wantB s o.guard with
  | none => none
  | some false => some (.tup [], [])
  | some true =>
    match gEff ex T s d o.act with
    | some r => if r.2.length ≤ 64 ∧ freshB s.mem d = true then some r else none
    | none => none
def gOp0 (ex : Ex) (T : FuncId → Option AFun) (o : AOp) (d : Nat) (s : St) : Option St :=
  (gRes ex T o d s).map fun r => (⟨s.slots, addObs s.mem d r.2, s.up⟩ : St).put o.dst r.1
/-- A variable lent: what is given back, the variable, and what it then holds. -/
def gLend (ex : Ex) (T : FuncId → Option AFun) (s : St) (f : FuncId) (x : AX) (args : List (AX × List Nat)) : Option (SV × Nat × List A1) :=
  match lendBox s x, roArgs s args with
  | some (t, as_), some (vs, true) =>
    match runLend ex T f as_ vs with
    | some (sv, bs, []) => if bs.length = as_.length then some (sv.map (ren (shift 0 0)), t, bs) else none
    | _ => none
  | _, _ => none
def gResL (ex : Ex) (T : FuncId → Option AFun) (f : FuncId) (x : AX) (args : List (AX × List Nat)) (o : AOp) (s : St) : Option (SV × Option (Nat × List A1)) :=
  match wantB s o.guard with
  | none => none
  | some false => some (.tup [], none)
  | some true => (gLend ex T s f x args).map fun r => (r.1, some r.2)
def updO (m : Mem) : Option (Nat × List A1) → Mem
  | none => m
  | some (t, bs) => upd m t (some (.box bs))
def gOpL (ex : Ex) (T : FuncId → Option AFun) (f : FuncId) (x : AX) (args : List (AX × List Nat)) (o : AOp) (s : St) : Option St :=
  (gResL ex T f x args o s).map fun r => (⟨s.slots, updO s.mem r.2, s.up⟩ : St).put o.dst r.1
def gOp (ex : Ex) (T : FuncId → Option AFun) (o : AOp) (d : Nat) (s : St) : Option St :=
  match o.act with
  | .lend f x args => gOpL ex T f x args o s
  | _ => gOp0 ex T o d s

section
variable {P : Program} {F : Own} {w0 : World} {G G' : Gh} {s s' : St} {a : Act} {w w' : World} {sv : SV} {o : Oper} {d : Nat} {m m' : Mem} {T : FuncId → Option AFun} {ex : Ex}
theorem addObs_nil : addObs m d [] = m := by
  funext u
  simp only [addObs, List.length_nil]
  rw [if_neg (by omega)]
theorem addObs_one {x : Ob} : addObs m d [x] = upd m d (some x) := by
  funext u
  simp only [addObs, upd, List.length_singleton]
  by_cases h : u = d
  · subst h; simp
  · rw [if_neg h, if_neg (by omega)]
theorem freshB_spec (h : freshB m d = true) {i : Nat} (hi : i < 64) : m (d + i) = none := by
  have := List.all_eq_true.1 h i (by simp [hi])
  simpa using this
theorem toCells_scal {m m' : Mem} : ∀ {as_ : List A1} {cs : List Cell} {q : Mem} {ts : List Nat}, toCells m as_ = some (cs, q, ts) → ts = [] → ∃ q', toCells m' as_ = some (cs, q', []) := by
  intro as_
  induction as_ generalizing m m' with
  | nil => intro cs q ts h ht; simp only [toCells, Option.some.injEq, Prod.mk.injEq] at h; obtain ⟨rfl, _, _⟩ := h; exact ⟨m', rfl⟩
  | cons x r ih =>
    intro cs q ts h ht
    simp only [toCells] at h
    split at h
    · rename_i c hc
      obtain ⟨⟨cs1, q1, ts1⟩, h1, he⟩ := Option.map_eq_some_iff.1 h
      simp only [Prod.mk.injEq] at he
      obtain ⟨rfl, rfl, rfl⟩ := he
      obtain ⟨q', hq'⟩ := ih (m' := m') h1 ht
      have hc' : toCell m' x = some (c, none) := by
        cases x with
        | sl t p off n =>
          cases p with
          | nil => simp only [toCell] at hc; split at hc <;> simp at hc
          | cons _ _ => simp [toCell] at hc
        | ro n cs => cases cs <;> exact hc
        | _ => exact hc
      exact ⟨q', by simp only [toCells, hc', hq', Option.map_some]⟩
    · rename_i c t hc
      obtain ⟨⟨cs1, q1, ts1⟩, h1, he⟩ := Option.map_eq_some_iff.1 h
      simp only [Prod.mk.injEq] at he
      obtain ⟨_, _, rfl⟩ := he
      cases ht
    · cases h
/-- It is what the operation does. -/
theorem gOp0_do {o : AOp} {nx : Nat} (h : gOp0 ex T o d s = some s') : doOp ex T o d ⟨s, nx⟩ = some ⟨s', nx⟩ := by
  unfold gOp0 at h
  obtain ⟨⟨sv, obs⟩, hr, he⟩ := Option.map_eq_some_iff.1 h
  unfold gRes at hr
  unfold doOp
  simp only
  split at hr
  · cases hr
  · rename_i hw
    cases hr
    rw [hw]
    simp only [addObs_nil] at he
    rw [← he]
  · rename_i hw
    rw [hw]
    simp only
    split at hr
    · rename_i r hg
      split at hr
      · rename_i hck
        cases hr
        obtain ⟨hlen, hfr⟩ := hck
        simp only at hlen he
        have hd : s.mem d = none := by have := freshB_spec hfr (i := 0) (by omega); simpa using this
        subst he
        cases hact : o.act with
        | call f args =>
          rw [hact] at hg
          simp only [gEff] at hg
          simp only [callRO]
          split at hg
          · rename_i vs clean hra
            split at hg
            · rename_i sv0 obs0 hrun
              split at hg <;> cases hg
              rename_i hcl
              have hall : (List.range obs0.length).all (fun i => (s.mem (d + i)).isNone) = true := by
                rw [List.all_eq_true]
                intro i hi
                simp only [List.length_map] at hlen
                rw [freshB_spec hfr (by have := List.mem_range.1 hi; omega)]
                rfl
              rw [hra]
              simp only
              rw [hrun]
              simp only [hcl, hall, Bool.and_self, if_true, Option.map_some]
              congr 2
              have : addMem s.mem d obs0 = addObs s.mem d (obs0.map (Ob.map (ren (shift d obs0.length)))) := by
                funext u
                simp only [addMem, addObs, List.length_map, List.getElem?_map]
              rw [this]
            · cases hg
          · cases hg
        | box sz x =>
          rw [hact] at hg
          simp only [gEff] at hg
          split at hg <;> cases hg
          rename_i ag as_ hx
          simp only [stepOp, AO.eff, if_true, effOp2, effOp, hx, hd, Option.map_some, addObs_one]
        | bxr sz x =>
          rw [hact] at hg
          simp only [gEff] at hg
          split at hg
          · rename_i ag as_ hx
            obtain ⟨cs, hcs, he⟩ := Option.map_eq_some_iff.1 hg
            cases he
            simp only [stepOp, AO.eff, if_true, effOp2, effOp, hx, hcs, Option.map_some, addObs_nil]
          · cases hg
        | alc zero =>
          rw [hact] at hg
          simp only [gEff] at hg
          cases hg
          simp only [stepOp, AO.eff, if_true, effOp2, effOp, hd, Option.map_some, addObs_one]
        | lit sz zero len parts =>
          rw [hact] at hg
          simp only [gEff] at hg
          obtain ⟨ps, hps, hg⟩ := Option.bind_eq_some_iff.1 hg
          split at hg
          · rename_i hin
            split at hg <;> cases hg
            rename_i cs q hcs
            simp only [stepOp, AO.eff, if_true, effOp2, effOp, hps, Option.bind_some, hin.1, hcs, newRowSt, hd, List.isEmpty_nil, Option.map_some, addObs_one]
          · cases hg
        | litr sz zero len parts =>
          rw [hact] at hg
          simp only [gEff] at hg
          obtain ⟨ps, hps, hg⟩ := Option.bind_eq_some_iff.1 hg
          split at hg
          · rename_i hin
            obtain ⟨cs, hcs, he⟩ := Option.map_eq_some_iff.1 hg
            cases he
            simp only [stepOp, AO.eff, if_true, effOp2, effOp, hps, Option.bind_some, hin, hcs, Option.map_some, addObs_nil]
          · cases hg
        | apx sz bytes x y =>
          rw [hact] at hg
          simp only [gEff] at hg
          split at hg
          · rename_i n cs ay hx hy
            split at hg
            · rename_i k ycs hsrc
              split at hg
              · rename_i hk
                cases hg
                simp only [stepOp, AO.eff, if_true, effOp2, hx, hy, hsrc, if_pos hk, Option.map_some, addObs_nil]
              · rename_i hk
                split at hg <;> cases hg
                rename_i hb
                simp only [stepOp, AO.eff, if_true, effOp2, hx, hy, hsrc, if_neg hk, if_pos hb, newRowSt, hd, List.isEmpty_nil, Option.map_some, addObs_one]
            · cases hg
          · cases hg
        | lit0 =>
          rw [hact] at hg
          simp only [gEff] at hg
          cases hg
          simp only [stepOp, AO.eff, if_true, effOp2, effOp, Option.map_some, addObs_nil]
        | mks sz bytes zero n =>
          rw [hact] at hg
          simp only [gEff] at hg
          split at hg
          · rename_i k hk
            split at hg
            · rename_i hb
              split at hg <;> cases hg
              rename_i cs q hcs
              obtain ⟨q', hq'⟩ := toCells_scal (m' := s.mem) hcs rfl
              simp only [stepOp, AO.eff, if_true, effOp2, effOp, hk, if_pos hb, hq', newRowSt, hd, List.isEmpty_nil, Option.map_some, addObs_one]
            · cases hg
          · cases hg
        | app sz bytes x y =>
          rw [hact] at hg
          simp only [gEff] at hg
          split at hg
          · rename_i ay hx hy
            split at hg
            · rename_i k ycs hsrc
              split at hg
              · rename_i hk
                cases hg
                simp only [stepOp, AO.eff, if_true, effOp2, hx, hy, appSt, hsrc, if_pos hk, A1.slB, Option.map_some, addObs_nil]
              · rename_i hk
                split at hg <;> cases hg
                rename_i hb
                simp only [stepOp, AO.eff, if_true, effOp2, hx, hy, appSt, hsrc, if_neg hk, oldOf, Nat.zero_add, if_pos hb.1, hb.2, List.nil_append, newRowSt, hd, List.isEmpty_nil, Option.map_some, addObs_one]
            · cases hg
          · cases hg
        | thru f xs => rw [hact] at hg; simp [gEff] at hg
        | callv g xs => rw [hact] at hg; simp [gEff] at hg
        | lend f x xs => rw [hact] at hg; simp [gEff] at hg
        | ins f x i v => rw [hact] at hg; simp [gEff] at hg
        | grw f x n => rw [hact] at hg; simp [gEff] at hg
        | rvs f x => rw [hact] at hg; simp [gEff] at hg
        | apm sz b z x n => rw [hact] at hg; simp [gEff, AO.eff] at hg
        | sto sz x v => rw [hact] at hg; simp [gEff, AO.eff] at hg
        | cpy sz x y => rw [hact] at hg; simp [gEff, AO.eff] at hg
        | clr sz z x => rw [hact] at hg; simp [gEff, AO.eff] at hg
        | _ =>
          rw [hact] at hg
          simp only [gEff, AO.eff, Bool.false_eq_true, if_false] at hg
          obtain ⟨v, hv, e⟩ := Option.map_eq_some_iff.1 hg
          cases e
          simp only [stepOp, AO.eff, Bool.false_eq_true, if_false, hv, Option.map_some, addObs_nil]
      · cases hr
    · cases hr
theorem gOp_do {o : AOp} {nx : Nat} (h : gOp ex T o d s = some s') : doOp ex T o d ⟨s, nx⟩ = some ⟨s', nx⟩ := by
  unfold gOp at h
  split at h
  · rename_i f x args hact
    unfold gOpL at h
    unfold doOp
    simp only
    obtain ⟨⟨sv1, q⟩, hL, rfl⟩ := Option.map_eq_some_iff.1 h
    clear h
    unfold gResL at hL
    split at hL
    · cases hL
    · rename_i hw
      cases hL
      rw [hw]
      rfl
    · rename_i hw
      rw [hw]
      simp only [hact]
      obtain ⟨⟨sv, t, bs⟩, hg, he⟩ := Option.map_eq_some_iff.1 hL
      simp only [Prod.mk.injEq] at he
      obtain ⟨rfl, rfl⟩ := he
      simp only [updO]
      unfold gLend at hg
      unfold callLend
      split at hg
      · rename_i t0 as_ vs hb hra
        rw [hb, hra]
        simp only
        split at hg
        · rename_i sv0 bs0 hrun
          rw [hrun]
          split at hg <;> cases hg
          rename_i hl
          simp only [List.length_nil, List.range_zero, List.all_nil, hl, and_self, if_true, Option.map_some]
          have e1 : addMem s.mem d [] = s.mem := by
            funext u
            simp only [addMem, List.length_nil]
            rw [if_neg (by omega)]
          have e2 : shift d 0 = shift 0 0 := by
            funext u
            simp [shift]
          rw [e1, e2]
        · cases hg
      · cases hg
  · exact gOp0_do h
end
end Go.Proofs.YtbdokibepndibaaGreat.Eng
