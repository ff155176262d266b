/- An interpreter of the model's code over tagged trees, sixteenth part: any operation that is no call. -/
import Derived.Test.YtbdokibepndibaaGreatEngM
namespace Go.Proofs.YtbdokibepndibaaGreat.Eng
open Go.RowKit

def AO.eff : AO → Bool
  | .box _ _ | .bxr _ _ | .alc _ | .lit _ _ _ _ | .litr _ _ _ _ | .lit0 | .mks _ _ _ _ | .sto _ _ _ | .app _ _ _ _ | .apx _ _ _ _ | .apm _ _ _ _ _ | .cpy _ _ _ | .clr _ _ _ => true
  | _ => false
/-- One operation: what it yields, and the state behind it. Rows and variables that it makes have the name d. -/
def stepOp (s : St) (d : Nat) (ao : AO) : Option (SV × St) :=
  if ao.eff then effOp2 s d ao else (pureOp s ao).map fun v => (v, s)
def chkOp (P : Program) (op : Op) : AO → Bool
  | .bld zero qs => (match op with | .build t parts => bldChk P t parts.toList zero qs | _ => false)
  | .apps _ _ => true
  | ao => if ao.eff then effChk2 P op ao else pureChk P op ao

section
variable {P : Program} {F : Own} {w0 : World} {G G' : Gh} {s s' : St} {a : Act} {w w' : World} {sv : SV} {o : Oper} {d : Nat}
theorem ok_bld {zero : List A1} {qs : List (Nat × Nat × AX)} (h : Rel F w0 G s a w) (hc : chkOp P o.op (.bld zero qs) = true) (hv : pureOp s (.bld zero qs) = some sv) :
    ∃ v, (execOp a.eval o).run P w = .ok (.value v) w ∧ SRel G s.mem w sv v := by
  cases ho : o.op with
  | build t parts =>
    rw [ho] at hc
    simp only [chkOp] at hc
    simp only [pureOp] at hv
    obtain ⟨ps, hps, hv⟩ := Option.bind_eq_some_iff.1 hv
    split at hv <;> cases hv
    rename_i hin
    obtain ⟨cs, k1, k2⟩ := bld_run (G := G) (w := w) h hc hps hin
    exact ⟨.agg cs, by simp only [execOp, ho, Sem.run_bind, k1, Result.andThen_ok, Sem.run_pure], cs.toList, by simp, k2⟩
  | _ => rw [ho] at hc; simp [chkOp] at hc
theorem pure_ok {ao : AO} (h : Rel F w0 G s a w) (he : ao.eff = false) (hc : chkOp P o.op ao = true) (hv : pureOp s ao = some sv) :
    ∃ v, (execOp a.eval o).run P w = .ok (.value v) w ∧ SRel G s.mem w sv v := by
  cases ao with
  | mv x => exact ok_mv h hc hv
  | bin op x y => exact ok_bin h hc hv
  | beq n x y => exact ok_beq h hc hv
  | un op x => exact ok_un h hc hv
  | conv k x => exact ok_conv h hc hv
  | b2s x => exact ok_b2s h hc hv
  | i2s x => exact ok_i2s h hc hv
  | pick c x y => exact ok_pick h hc hv
  | fld off sz ag x => exact ok_fld h hc hv
  | bld zero ps => exact ok_bld h hc hv
  | slc sz x lo hi => exact ok_slc h hc hv
  | slz x => exact ok_slz h hc hv
  | sslc x lo hi => exact ok_sslc h hc hv
  | idx x i => exact ok_idx h hc hv
  | aidx len sz ag x i => exact ok_aidx h hc hv
  | ia sz x i => exact ok_ia h hc hv
  | iaa sz len x i => exact ok_iaa h hc hv
  | fa off x => exact ok_fa h hc hv
  | ld sz ag x => exact ok_ld h hc hv
  | nck x => exact ok_nck h hc hv
  | ext x i => exact ok_ext h hc hv
  | mf f caps => exact ok_mf h hc hv
  | len x => exact ok_len h hc hv
  | slen x => exact ok_slen h hc hv
  | mm mx x y => exact ok_mm h hc hv
  | apps x y => cases hv
  | call f xs => cases hv
  | thru f xs => cases hv
  | callv x xs => cases hv
  | lend f x xs => cases hv
  | ins f x i v => cases hv
  | grw f x n => cases hv
  | rvs f x => cases hv
  | _ => simp [AO.eff] at he
theorem step_ok {ao : AO} (h : Rel F w0 G s a w) (hc : chkOp P o.op ao = true) (hv : stepOp s d ao = some (sv, s')) : Done P F w0 o a w sv s' := by
  unfold stepOp at hv
  split at hv
  · rename_i he
    cases ao with
    | box sz x =>
      have hc' : effChk P o.op (.box sz x) = true := by
        rw [← hc]
        cases o.op <;> rfl
      exact eff_box h hc' hv
    | bxr sz x =>
      have hc' : effChk P o.op (.bxr sz x) = true := by
        rw [← hc]
        cases o.op <;> rfl
      exact eff_bxr (d := d) h hc' hv
    | alc zero =>
      have hc' : effChk P o.op (.alc zero) = true := by
        rw [← hc]
        cases o.op <;> rfl
      exact eff_alc h hc' hv
    | lit sz zero len ps =>
      have hc' : effChk P o.op (.lit sz zero len ps) = true := by
        rw [← hc]
        cases o.op <;> rfl
      exact eff_lit h hc' hv
    | litr sz zero len ps =>
      have hc' : effChk P o.op (.litr sz zero len ps) = true := by
        rw [← hc]
        cases o.op <;> rfl
      exact eff_litr (d := d) h hc' hv
    | lit0 =>
      have hc' : effChk P o.op .lit0 = true := by
        rw [← hc]
        cases o.op <;> rfl
      exact eff_lit0 (d := d) h hc' hv
    | mks sz b zero n =>
      have hc' : effChk P o.op (.mks sz b zero n) = true := by
        rw [← hc]
        cases o.op <;> rfl
      exact eff_mks h hc' hv
    | sto sz x v =>
      have hc' : effChk P o.op (.sto sz x v) = true := by
        rw [← hc]
        cases o.op <;> rfl
      exact eff_sto (d := d) h hc' hv
    | app sz b x y => exact eff_app h hc hv
    | apx sz b x y => exact eff_apx h hc hv
    | apm sz b zero x n => exact eff_apm h hc hv
    | cpy sz x y => exact eff_cpy h hc hv
    | clr sz zero x => exact eff_clr h hc hv
    | _ => simp [AO.eff] at he
  · rename_i he
    obtain ⟨v, hp, e⟩ := Option.map_eq_some_iff.1 hv
    cases e
    obtain ⟨v', h1, h2⟩ := pure_ok h (by simpa using he) hc hp
    exact ⟨_, v', w, G, h1, .inl rfl, h, h2⟩
/-- What is yielded, put into its place. -/
def St.put (s : St) (dst : Option Nat) (v : SV) : St := ⟨match dst with | some d => s.slots.set d v | none => s.slots, s.mem, s.up⟩
theorem Rel.put (h : Rel F w0 G s a w) {v : Value} (hv : SRel G s.mem w sv v) (dst : Option Nat) : Rel F w0 G (s.put dst sv) (a.put dst v) w := by
  cases dst with
  | none => exact h
  | some d =>
    refine ⟨h.defers, ?_, h.up, h.rr, h.inv, h.fr, h.own⟩
    simp only [St.put, Act.put, Array.toList_setIfInBounds]
    exact h.slots.set d hv
/-- Is the operation wanted? -/
def wantB (s : St) : Option (Nat × Bool) → Option Bool
  | none => some true
  | some (g, want) =>
    match s.slots[g]? with
    | some (.v false [.bool b]) => some (b == want)
    | some (.tup []) => some false
    | _ => none
def guardB (ops : Array Oper) (g : Option (Nat × Bool)) (ag : Option (Nat × Bool)) : Bool :=
  match g, ag with
  | none, none => true
  | some (j, want), some (t, want') => want == want' && (match ops[j]? with | some o => o.dst == some t | none => false)
  | _, _ => false
theorem want_ok {ops : Array Oper} {ag : Option (Nat × Bool)} {b : Bool} (h : Rel F w0 G s a w) (hg : guardB ops o.guard ag = true) (hw : wantB s ag = some b) : Region.wanted o (yielded ops a.tmps) = b := by
  unfold guardB at hg
  split at hg
  · rename_i h1
    simp only [wantB, Option.some.injEq] at hw
    subst hw
    simp [Region.wanted, h1]
  · rename_i j want t want' h1
    simp only [Bool.and_eq_true, beq_iff_eq] at hg
    obtain ⟨rfl, hg⟩ := hg
    split at hg
    · rename_i oj hj
      have hd : oj.dst = some t := by simpa using hg
      simp only [Region.wanted, h1, yielded, hj, Option.bind_some, hd]
      simp only [wantB] at hw
      split at hw
      · rename_i b' hs
        cases hw
        obtain ⟨v, hv, hr⟩ := h.slots.nth hs
        obtain ⟨x, e, hx⟩ := hr
        cases e
        rw [← Array.getElem?_toList, hv]
        simp only [A1Rel] at hx
        subst hx
        rfl
      · rename_i hs
        cases hw
        obtain ⟨v, hv, hr⟩ := h.slots.nth hs
        obtain ⟨xs, rfl, _⟩ := hr
        rw [← Array.getElem?_toList, hv]
        rfl
      · cases hw
    · cases hg
  · cases hg
end
end Go.Proofs.YtbdokibepndibaaGreat.Eng
