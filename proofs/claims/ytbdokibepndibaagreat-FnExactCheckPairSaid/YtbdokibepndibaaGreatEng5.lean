/- An interpreter of the model's code over tagged trees, fifth part: the model does the same where no memory turns. -/
import Derived.Test.YtbdokibepndibaaGreatEng4
namespace Go.Proofs.YtbdokibepndibaaGreat.Eng
open Go.RowKit

def aggD : TypeDesc → Bool
  | .struct _ | .array _ _ => true
  | _ => false
def tyB (P : Program) (t : TypeId) (f : TypeDesc → Bool) : Bool :=
  match P.underlying t with
  | some d => f d
  | none => false
def sizeB (P : Program) (t : TypeId) (sz : Nat) : Bool :=
  match P.info? t with
  | some i => i.size == sz
  | none => false
/-- A type's cells, and whether it is a struct or an array. -/
def formB (P : Program) (t : TypeId) (sz : Nat) (ag : Bool) : Bool := tyB P t (fun d => aggD d == ag) && sizeB P t sz && (ag || sz == 1)
def axsB : List Operand → List AX → Bool
  | [], [] => true
  | x :: r, y :: q => axB x y && axsB r q
  | _, _ => false
def optB : Option Operand → Option AX → Bool
  | none, none => true
  | some x, some y => axB x y
  | _, _ => false
def isIntD (k : IntKind) : TypeDesc → Bool
  | .int j => j == k
  | _ => false

def bCall (c : Call) : Option (Builtin × List Operand × List TypeId) :=
  match c.callee with
  | .builtin b => some (b, c.args.toList, c.argTypes.toList)
  | _ => none
theorem bCall_spec {c : Call} {b : Builtin} {xs : List Operand} {ts : List TypeId} (h : bCall c = some (b, xs, ts)) : c = ⟨.builtin b, xs.toArray, ts.toArray⟩ := by
  obtain ⟨cal, as_, tt⟩ := c
  unfold bCall at h
  cases cal <;> simp at h
  obtain ⟨rfl, rfl, rfl⟩ := h
  simp

def pureChk (P : Program) : Op → AO → Bool
  | .move x, .mv y => axB x y
  | .assign x, .mv y => axB x y
  | .binOp op _ x y _, .bin op' x' y' => op == op' && axB x x' && axB y y'
  | .binOp op t x y _, .beq neq x' y' => op == (if neq then .neq else .eql) && tyB P t (fun d => match d with | .bool => true | _ => false) && axB x x' && axB y y'
  | .unOp op _ x, .un op' y => op == op' && axB x y
  | .convert src dst x, .conv k y => tyB P src (fun _ => true) && tyB P dst (isIntD k) && axB x y
  | .convert src dst x, .i2s y => tyB P src (fun _ => true) && tyB P dst (fun d => match d with | .string => true | _ => false) && axB x y
  | .convert src dst x, .b2s y => tyB P src (fun d => match d with | .slice e => tyB P e (isIntD .u8) | _ => false) && tyB P dst (fun d => match d with | .string => true | _ => false) && axB x y
  | .pick c a b, .pick c' a' b' => axB c c' && axB a a' && axB b b'
  | .field t x f, .fld off sz ag y => tyB P t (fun d => match d with | .struct fs => (match fs[f]? with | some fd => fd.offset == off && formB P fd.type sz ag | none => false) | _ => false) && axB x y
  | .slice t x lo hi none, .slc sz y lo' hi' => tyB P t (fun d => match d with | .slice e => sizeB P e sz | _ => false) && axB x y && optB lo lo' && optB hi hi'
  | .slice t x lo hi mx, .slz y => tyB P t (fun d => match d with | .slice e => (match P.info? e with | some _ => true | none => false) | _ => false) && axB x y && (match lo, hi, mx with | none, some h, some m => axB h (.c (.int .i64 0)) && axB m (.c (.int .i64 0)) | _, _, _ => false)
  | .slice t x lo hi none, .sslc y lo' hi' => tyB P t (fun d => match d with | .string => true | _ => false) && axB x y && optB lo lo' && optB hi hi'
  | .index t x i, .idx y j => tyB P t (fun d => match d with | .string => true | _ => false) && axB x y && axB i j
  | .index t x i, .aidx len sz ag y j => tyB P t (fun d => match d with | .array n e => n == len && formB P e sz ag | _ => false) && axB x y && axB i j
  | .indexAddr t x i, .ia sz y j => tyB P t (fun d => match d with | .slice e => sizeB P e sz | _ => false) && axB x y && axB i j
  | .indexAddr t x i, .iaa sz len y j => tyB P t (fun d => match d with | .array n e => n == len && sizeB P e sz | _ => false) && axB x y && axB i j
  | .fieldAddr t x f, .fa off y => tyB P t (fun d => match d with | .struct fs => (match fs[f]? with | some fd => fd.offset == off && (match P.info? fd.type with | some i => i.size != 0 | none => false) | none => false) | _ => false) && axB x y
  | .load t x, .ld sz ag y => formB P t sz ag && axB x y
  | .nilCheck x, .nck y => axB x y
  | .extract x i, .ext y j => i == j && axB x y
  | .makeFunc (.func f) first caps, .mf g ys => f == g && first.toList.isEmpty && axsB caps.toList ys
  | .call c, .len y => (match bCall c with
    | some (.len, [x], [t]) => axB x y && tyB P t (fun d => match d with | .slice _ => true | _ => false)
    | _ => false)
  | .call c, .slen y => (match bCall c with
    | some (.len, [x], [t]) => axB x y && tyB P t (fun d => match d with | .string => true | _ => false)
    | _ => false)
  | .call c, .mm mx y z => (match bCall c with
    | some (.max, [p, q], _) => mx && axB p y && axB q z
    | some (.min, [p, q], _) => !mx && axB p y && axB q z
    | _ => false)
  | _, _ => false

section
variable {P : Program} {F : Own} {w0 : World} {G : Gh} {s : St} {a : Act} {w : World} {sv : SV} {o : Oper}
theorem tyB_spec {t : TypeId} {f : TypeDesc → Bool} (h : tyB P t f = true) : ∃ d, P.underlying t = some d ∧ f d = true := by
  unfold tyB at h
  split at h
  · exact ⟨_, ‹_›, h⟩
  · cases h
theorem sizeB_spec {t : TypeId} {sz : Nat} (h : sizeB P t sz = true) : ∃ i, P.info? t = some i ∧ i.size = sz := by
  unfold sizeB at h
  split at h
  · exact ⟨_, ‹_›, by simpa using h⟩
  · cases h
theorem run_sizeOf {t : TypeId} {sz : Nat} (h : sizeB P t sz = true) (w : World) : (sizeOf t).run P w = .ok sz w := by
  obtain ⟨i, hi, rfl⟩ := sizeB_spec h
  simp [sizeOf, typeInfo, hi]
theorem run_isAgg {t : TypeId} {ag : Bool} (h : tyB P t (fun d => aggD d == ag) = true) (w : World) : (isAgg t).run P w = .ok ag w := by
  obtain ⟨d, hd, hag⟩ := tyB_spec h
  simp at hag
  subst hag
  simp only [isAgg, Sem.run_bind, run_underlying hd, Result.andThen_ok]
  cases d <;> rfl
theorem ok_mv {x : AX} (h : Rel F w0 G s a w) (hc : pureChk P o.op (.mv x) = true) (hv : pureOp s (.mv x) = some sv) :
    ∃ v, (execOp a.eval o).run P w = .ok (.value v) w ∧ SRel G s.mem w sv v := by
  cases ho : o.op <;> rw [ho] at hc <;> simp only [pureChk] at hc <;> (try cases hc)
  · exact ⟨_, by simp [execOp, ho], eval_get h hc hv⟩
  · exact ⟨_, by simp [execOp, ho], eval_get h hc hv⟩

theorem binInt_run {op : BinOp} {t : TypeId} {k : IntKind} {x y : Int} {r : A1} (h : binInt op k x y = some r) : ∃ v, (binOp op t (.int k x) (.int k y)).run P w = .ok v w ∧ A1Rel G s.mem w r v := by
  cases op <;> simp only [binInt] at h <;> (try cases h)
  case quo => split at h <;> cases h; rename_i hy; exact ⟨_, by simp [binOp, Op.intDiv, hy], rfl⟩
  case rem => split at h <;> cases h; rename_i hy; exact ⟨_, by simp [binOp, Op.intDiv, hy], rfl⟩
  all_goals exact ⟨_, by simp [binOp, Op.intArith, Op.intBits, Op.intCmp], rfl⟩
theorem bin_run {op : BinOp} {t : TypeId} {x y : A1} {vx vy : Value} {r : A1} (hx : A1Rel G s.mem w x vx) (hy : A1Rel G s.mem w y vy) (h : binA op x y = some r) :
    ∃ v, (binOp op t vx vy).run P w = .ok v w ∧ A1Rel G s.mem w r v := by
  unfold binA at h
  split at h
  · cases hx; cases hy
    split at h
    · split at h <;> cases h
      rename_i hb
      exact ⟨_, by simp [binOp, Op.shift, hb], rfl⟩
    · split at h <;> cases h
      rename_i hb
      exact ⟨_, by simp [binOp, Op.shift, hb], rfl⟩
    · split at h
      · rename_i hk
        subst hk
        exact binInt_run h
      · cases h
  · cases hx; cases hy
    cases op <;> simp only [binStr] at h <;> (try cases h)
    case add =>
      split at h <;> cases h
      rename_i hb
      refine ⟨_, ?_, rfl⟩
      simp only [binOp, Op.stringOp]
      rw [if_neg (by simp [IntKind.max, IntKind.signed, IntKind.bits]; omega)]
      rfl
    all_goals exact ⟨_, by simp [binOp, Op.stringOp], rfl⟩
  · cases h
theorem eqGuard_run {op : BinOp} {t : TypeId} {x y : Operand} {u v : A1} {vx vy : Value} {r : A1} (hx : A1Rel G s.mem w u vx) (hy : A1Rel G s.mem w v vy) (h : binA op u v = some r) : (eqGuard op t x y vx vy).run P w = .ok () w := by
  unfold binA at h
  split at h
  · cases hx; cases hy
    unfold eqGuard
    split <;> rfl
  · cases hx; cases hy
    unfold eqGuard
    split <;> rfl
  · cases h
theorem ok_bin {op : BinOp} {x y : AX} (h : Rel F w0 G s a w) (hc : pureChk P o.op (.bin op x y) = true) (hv : pureOp s (.bin op x y) = some sv) :
    ∃ v, (execOp a.eval o).run P w = .ok (.value v) w ∧ SRel G s.mem w sv v := by
  cases ho : o.op with
  | binOp op' t x' y' ty =>
    rw [ho] at hc
    simp only [pureChk, Bool.and_eq_true, beq_iff_eq] at hc
    obtain ⟨⟨rfl, h1⟩, h2⟩ := hc
    simp only [pureOp] at hv
    split at hv
    · rename_i u v hu hw
      obtain ⟨r, hr, rfl⟩ := Option.map_eq_some_iff.1 hv
      have r1 := eval_one h h1 hu
      have r2 := eval_one h h2 hw
      obtain ⟨v, hrun, hrel⟩ := bin_run (P := P) (t := t) r1 r2 hr
      refine ⟨v, ?_, r, rfl, hrel⟩
      simp only [execOp, ho, Sem.run_bind, eqGuard_run r1 r2 hr, Result.andThen_ok, hrun, Sem.run_pure]
    · cases hv
  | _ => rw [ho] at hc; simp [pureChk] at hc
theorem run_equalIn_bool {t : TypeId} (d : Nat) (x y : Bool) (ht : P.underlying t = some .bool) : (Op.equalIn (d + 1) t (.bool x) (.bool y)).run P w = .ok (x == y) w := by
  simp only [Op.equalIn, Sem.run_bind, run_underlying ht, Result.andThen_ok, Sem.run_pure]
theorem run_equal_bool {t : TypeId} (x y : Bool) (ht : P.underlying t = some .bool) : (Op.equal t (.bool x) (.bool y)).run P w = .ok (x == y) w := run_equalIn_bool 9999 x y ht
theorem ok_beq {neq : Bool} {x y : AX} (h : Rel F w0 G s a w) (hc : pureChk P o.op (.beq neq x y) = true) (hv : pureOp s (.beq neq x y) = some sv) :
    ∃ v, (execOp a.eval o).run P w = .ok (.value v) w ∧ SRel G s.mem w sv v := by
  cases ho : o.op with
  | binOp op' t x' y' ty =>
    rw [ho] at hc
    simp only [pureChk, Bool.and_eq_true, beq_iff_eq] at hc
    obtain ⟨⟨⟨rfl, ht⟩, h1⟩, h2⟩ := hc
    obtain ⟨d, hd, hdb⟩ := tyB_spec ht
    cases d <;> simp at hdb
    simp only [pureOp] at hv
    split at hv
    · rename_i u v hu hw
      cases hv
      have r1 := eval_one h h1 hu
      have r2 := eval_one h h2 hw
      simp only [A1Rel] at r1 r2
      refine ⟨_, ?_, _, rfl, rfl⟩
      cases neq
      · simp only [execOp, ho, r1, r2, eqGuard, binOp, Sem.run_bind, run_equal_bool _ _ hd, Result.andThen_ok, Sem.run_pure, Bool.false_eq_true, if_false]
        rfl
      · simp only [execOp, ho, r1, r2, eqGuard, binOp, Sem.run_bind, run_equal_bool _ _ hd, Result.andThen_ok, Sem.run_pure, if_true]
        rfl
    · cases hv
  | _ => rw [ho] at hc; simp [pureChk] at hc
theorem ok_un {op : UnOp} {x : AX} (h : Rel F w0 G s a w) (hc : pureChk P o.op (.un op x) = true) (hv : pureOp s (.un op x) = some sv) :
    ∃ v, (execOp a.eval o).run P w = .ok (.value v) w ∧ SRel G s.mem w sv v := by
  cases ho : o.op with
  | unOp op' t x' =>
    rw [ho] at hc
    simp only [pureChk, Bool.and_eq_true, beq_iff_eq] at hc
    obtain ⟨rfl, h1⟩ := hc
    cases op' <;> simp only [pureOp] at hv <;> (try cases hv)
    · split at hv <;> cases hv
      have r1 := eval_one h h1 ‹_›
      simp only [A1Rel] at r1
      exact ⟨_, by simp [execOp, ho, r1, Op.unary, Op.intArith], _, rfl, rfl⟩
    · split at hv <;> cases hv
      have r1 := eval_one h h1 ‹_›
      simp only [A1Rel] at r1
      exact ⟨_, by simp [execOp, ho, r1, Op.unary], _, rfl, rfl⟩
  | _ => rw [ho] at hc; simp [pureChk] at hc
theorem ok_conv {k : IntKind} {x : AX} (h : Rel F w0 G s a w) (hc : pureChk P o.op (.conv k x) = true) (hv : pureOp s (.conv k x) = some sv) :
    ∃ v, (execOp a.eval o).run P w = .ok (.value v) w ∧ SRel G s.mem w sv v := by
  cases ho : o.op with
  | convert src dst x' =>
    rw [ho] at hc
    simp only [pureChk, Bool.and_eq_true] at hc
    obtain ⟨⟨hs, hd⟩, h1⟩ := hc
    obtain ⟨d1, hd1, _⟩ := tyB_spec hs
    obtain ⟨d, ed, hdb⟩ := tyB_spec hd
    cases d <;> simp [isIntD] at hdb
    subst hdb
    simp only [pureOp] at hv
    obtain ⟨n, hn, rfl⟩ := Option.map_eq_some_iff.1 hv
    obtain ⟨j, hj⟩ := eval_num h h1 hn
    refine ⟨_, ?_, _, rfl, rfl⟩
    simp [execOp, ho, hj, convert, run_underlying hd1, run_underlying ed, Conv.intToInt]
  | _ => rw [ho] at hc; simp [pureChk] at hc
theorem ok_i2s {x : AX} (h : Rel F w0 G s a w) (hc : pureChk P o.op (.i2s x) = true) (hv : pureOp s (.i2s x) = some sv) :
    ∃ v, (execOp a.eval o).run P w = .ok (.value v) w ∧ SRel G s.mem w sv v := by
  cases ho : o.op with
  | convert src dst x' =>
    rw [ho] at hc
    simp only [pureChk, Bool.and_eq_true] at hc
    obtain ⟨⟨hs, hd⟩, h1⟩ := hc
    obtain ⟨d1, hd1, _⟩ := tyB_spec hs
    obtain ⟨d, ed, hdb⟩ := tyB_spec hd
    cases d <;> simp at hdb
    simp only [pureOp] at hv
    obtain ⟨n, hn, rfl⟩ := Option.map_eq_some_iff.1 hv
    obtain ⟨j, hj⟩ := eval_num h h1 hn
    refine ⟨_, ?_, _, rfl, rfl⟩
    simp [execOp, ho, hj, convert, run_underlying hd1, run_underlying ed, Conv.intToString]
  | _ => rw [ho] at hc; simp [pureChk] at hc
theorem ok_pick {c x y : AX} (h : Rel F w0 G s a w) (hc : pureChk P o.op (.pick c x y) = true) (hv : pureOp s (.pick c x y) = some sv) :
    ∃ v, (execOp a.eval o).run P w = .ok (.value v) w ∧ SRel G s.mem w sv v := by
  cases ho : o.op with
  | pick c' x' y' =>
    rw [ho] at hc
    simp only [pureChk, Bool.and_eq_true] at hc
    obtain ⟨⟨h0, h1⟩, h2⟩ := hc
    simp only [pureOp] at hv
    split at hv
    · rename_i t ht
      have r0 := eval_one h h0 ht
      simp only [A1Rel] at r0
      cases t
      · exact ⟨_, by simp [execOp, ho, r0, asBool], eval_get h h2 hv⟩
      · exact ⟨_, by simp [execOp, ho, r0, asBool], eval_get h h1 hv⟩
    · cases hv
  | _ => rw [ho] at hc; simp [pureChk] at hc
theorem ok_nck {x : AX} (h : Rel F w0 G s a w) (hc : pureChk P o.op (.nck x) = true) (hv : pureOp s (.nck x) = some sv) :
    ∃ v, (execOp a.eval o).run P w = .ok (.value v) w ∧ SRel G s.mem w sv v := by
  cases ho : o.op with
  | nilCheck x' =>
    rw [ho] at hc
    simp only [pureChk] at hc
    simp only [pureOp] at hv
    split at hv <;> cases hv
    have r := eval_one h hc ‹_›
    have r' := r
    obtain ⟨A, hA, _⟩ := r
    exact ⟨_, by simp [execOp, ho, hA], _, rfl, hA ▸ r'⟩
  | _ => rw [ho] at hc; simp [pureChk] at hc
theorem ok_ext {x : AX} {i : Nat} (h : Rel F w0 G s a w) (hc : pureChk P o.op (.ext x i) = true) (hv : pureOp s (.ext x i) = some sv) :
    ∃ v, (execOp a.eval o).run P w = .ok (.value v) w ∧ SRel G s.mem w sv v := by
  cases ho : o.op with
  | extract x' i' =>
    rw [ho] at hc
    simp only [pureChk, Bool.and_eq_true, beq_iff_eq] at hc
    obtain ⟨rfl, h1⟩ := hc
    simp only [pureOp] at hv
    split at hv
    · rename_i vs hvs
      obtain ⟨p, hp, rfl⟩ := Option.map_eq_some_iff.1 hv
      obtain ⟨xs, hx, hr⟩ := eval_get h h1 hvs
      obtain ⟨v, hv1, hv2⟩ := hr.nth hp
      exact ⟨v, by simp [execOp, ho, hx, Instr.extract, hv1], hv2⟩
    · cases hv
  | _ => rw [ho] at hc; simp [pureChk] at hc
theorem ok_len {x : AX} (h : Rel F w0 G s a w) (hc : pureChk P o.op (.len x) = true) (hv : pureOp s (.len x) = some sv) :
    ∃ v, (execOp a.eval o).run P w = .ok (.value v) w ∧ SRel G s.mem w sv v := by
  cases ho : o.op with
  | call c =>
    rw [ho] at hc
    simp only [pureChk] at hc
    split at hc
    · rename_i x' t hb
      obtain rfl := bCall_spec hb
      simp only [Bool.and_eq_true] at hc
      obtain ⟨h1, h2⟩ := hc
      obtain ⟨d, hd, hdb⟩ := tyB_spec h2
      cases d <;> simp at hdb
      simp only [pureOp] at hv
      have key : ∀ A k c, a.eval x' = .slice A k c → (execOp a.eval o).run P w = .ok (.value (.int .i64 k)) w := by
        intro A k c hv
        simp [execOp, ho, resolve, invoke, builtin, Builtin.len_, hv, run_underlying hd, goInt]
      split at hv <;> cases hv
      · obtain ⟨A, c, hA, _⟩ := eval_one h h1 ‹_›
        exact ⟨_, key _ _ _ hA, _, rfl, rfl⟩
      · obtain ⟨A, c, hA, _⟩ := eval_one h h1 ‹_›
        exact ⟨_, key _ _ _ hA, _, rfl, rfl⟩
      · obtain ⟨A, r⟩ := eval_one h h1 ‹_›
        exact ⟨_, key _ _ _ r, _, rfl, rfl⟩
    · cases hc
  | _ => rw [ho] at hc; simp [pureChk] at hc
theorem ok_slen {x : AX} (h : Rel F w0 G s a w) (hc : pureChk P o.op (.slen x) = true) (hv : pureOp s (.slen x) = some sv) :
    ∃ v, (execOp a.eval o).run P w = .ok (.value v) w ∧ SRel G s.mem w sv v := by
  cases ho : o.op with
  | call c =>
    rw [ho] at hc
    simp only [pureChk] at hc
    split at hc
    · rename_i x' t hb
      obtain rfl := bCall_spec hb
      simp only [Bool.and_eq_true] at hc
      obtain ⟨h1, h2⟩ := hc
      obtain ⟨d, hd, hdb⟩ := tyB_spec h2
      cases d <;> simp at hdb
      simp only [pureOp] at hv
      split at hv <;> cases hv
      have r := eval_one h h1 ‹_›
      simp only [A1Rel] at r
      exact ⟨_, by simp [execOp, ho, resolve, invoke, builtin, Builtin.len_, r, run_underlying hd, goInt], _, rfl, rfl⟩
    · cases hc
  | _ => rw [ho] at hc; simp [pureChk] at hc
theorem ok_mm {mx : Bool} {x y : AX} (h : Rel F w0 G s a w) (hc : pureChk P o.op (.mm mx x y) = true) (hv : pureOp s (.mm mx x y) = some sv) :
    ∃ v, (execOp a.eval o).run P w = .ok (.value v) w ∧ SRel G s.mem w sv v := by
  cases ho : o.op with
  | call c =>
    rw [ho] at hc
    simp only [pureChk] at hc
    simp only [pureOp] at hv
    split at hv
    · rename_i k p k' q hp hq
      split at hv <;> cases hv
      rename_i hk
      subst hk
      split at hc
      · rename_i x' y' ts hb
        obtain rfl := bCall_spec hb
        simp only [Bool.and_eq_true] at hc
        obtain ⟨⟨rfl, h1⟩, h2⟩ := hc
        have r1 := eval_one h h1 hp
        have r2 := eval_one h h2 hq
        simp only [A1Rel] at r1 r2
        exact ⟨_, by simp [execOp, ho, resolve, invoke, builtin, Builtin.max_, Builtin.max2, r1, r2], _, rfl, rfl⟩
      · rename_i x' y' ts hb
        obtain rfl := bCall_spec hb
        simp only [Bool.and_eq_true, Bool.not_eq_true'] at hc
        obtain ⟨⟨rfl, h1⟩, h2⟩ := hc
        have r1 := eval_one h h1 hp
        have r2 := eval_one h h2 hq
        simp only [A1Rel] at r1 r2
        exact ⟨_, by simp [execOp, ho, resolve, invoke, builtin, Builtin.min_, Builtin.min2, r1, r2], _, rfl, rfl⟩
      · cases hc
    · cases hv
  | _ => rw [ho] at hc; simp [pureChk] at hc
theorem ok_fld {off sz : Nat} {ag : Bool} {x : AX} (h : Rel F w0 G s a w) (hc : pureChk P o.op (.fld off sz ag x) = true) (hv : pureOp s (.fld off sz ag x) = some sv) :
    ∃ v, (execOp a.eval o).run P w = .ok (.value v) w ∧ SRel G s.mem w sv v := by
  cases ho : o.op with
  | field t x' f =>
    rw [ho] at hc
    simp only [pureChk, Bool.and_eq_true] at hc
    obtain ⟨ht, h1⟩ := hc
    obtain ⟨d, hd, hdb⟩ := tyB_spec ht
    cases d <;> simp at hdb
    rename_i fs
    cases hf : fs[f]? with
    | none => rw [hf] at hdb; simp at hdb
    | some fd =>
      rw [hf] at hdb
      simp only [Bool.and_eq_true, beq_iff_eq, formB] at hdb
      obtain ⟨rfl, ⟨ha, hs⟩, hag⟩ := hdb
      simp only [pureOp] at hv
      split at hv
      · rename_i as_ has
        split at hv <;> cases hv
        rename_i hlen
        obtain ⟨vs, hx, hr⟩ := eval_get h h1 has
        have hrun : (execOp a.eval o).run P w = ((part fd.type vs.toArray fd.offset).run P w).andThen fun v w => .ok (.value v) w := by
          simp [execOp, ho, Instr.field, run_underlying hd, hf, hx, asAgg]
        have hl := hr.1
        cases ag with
        | true =>
          refine ⟨.agg ((vs.drop fd.offset).take sz).toArray, ?_, _, rfl, (hr.drop _).take _⟩
          rw [hrun]
          simp only [part, Sem.run_bind, run_isAgg ha, Result.andThen_ok, if_true, run_sizeOf hs, Sem.run_pure]
          congr 3
          simp
        | false =>
          obtain rfl : sz = 1 := by simpa using hag
          have hlt : fd.offset < as_.length := by omega
          have hb : vs[fd.offset]? = some (vs[fd.offset]'(by omega)) := by simp
          refine ⟨vs[fd.offset]'(by omega), ?_, as_[fd.offset], ?_, hr.2 _ _ _ (by simp [hlt]) hb⟩
          · rw [hrun]
            simp [part, run_isAgg ha, show fd.offset < vs.length by omega]
          · rw [List.drop_eq_getElem_cons hlt]; rfl
      · cases hv
  | _ => rw [ho] at hc; simp [pureChk] at hc
theorem ok_idx {x i : AX} (h : Rel F w0 G s a w) (hc : pureChk P o.op (.idx x i) = true) (hv : pureOp s (.idx x i) = some sv) :
    ∃ v, (execOp a.eval o).run P w = .ok (.value v) w ∧ SRel G s.mem w sv v := by
  cases ho : o.op with
  | index t x' i' =>
    rw [ho] at hc
    simp only [pureChk, Bool.and_eq_true] at hc
    obtain ⟨⟨ht, h1⟩, h2⟩ := hc
    obtain ⟨d, hd, hdb⟩ := tyB_spec ht
    cases d <;> simp at hdb
    simp only [pureOp] at hv
    split at hv
    · rename_i b i hb hi
      split at hv
      · rename_i h0
        obtain ⟨c, hcb, rfl⟩ := Option.map_eq_some_iff.1 hv
        have r1 := eval_one h h1 hb
        obtain ⟨k, r2⟩ := eval_num h h2 hi
        simp only [A1Rel] at r1
        exact ⟨_, by simp [execOp, ho, Instr.index, run_underlying hd, r1, r2, asIntOf, h0, hcb], _, rfl, rfl⟩
      · cases hv
    · cases hv
  | _ => rw [ho] at hc; simp [pureChk] at hc
theorem ok_aidx {len sz : Nat} {ag : Bool} {x i : AX} (h : Rel F w0 G s a w) (hc : pureChk P o.op (.aidx len sz ag x i) = true) (hv : pureOp s (.aidx len sz ag x i) = some sv) :
    ∃ v, (execOp a.eval o).run P w = .ok (.value v) w ∧ SRel G s.mem w sv v := by
  cases ho : o.op with
  | index t x' i' =>
    rw [ho] at hc
    simp only [pureChk, Bool.and_eq_true] at hc
    obtain ⟨⟨ht, h1⟩, h2⟩ := hc
    obtain ⟨d, hd, hdb⟩ := tyB_spec ht
    cases d <;> simp at hdb
    rename_i n e
    obtain ⟨rfl, hform⟩ := hdb
    simp only [formB, Bool.and_eq_true] at hform
    obtain ⟨⟨ha, hs⟩, hag⟩ := hform
    simp only [pureOp] at hv
    split at hv
    · rename_i as_ i has hi
      split at hv <;> cases hv
      rename_i hlen
      obtain ⟨vs, hx, hr⟩ := eval_get h h1 has
      obtain ⟨k, r2⟩ := eval_num h h2 hi
      have hl := hr.1
      have hrun : (execOp a.eval o).run P w = ((part e vs.toArray (i.toNat * sz)).run P w).andThen fun v w => .ok (.value v) w := by
        simp [execOp, ho, Instr.index, run_underlying hd, hx, r2, asIntOf, hlen.1, hlen.2.1, run_sizeOf hs]
      cases ag with
      | true =>
        refine ⟨.agg ((vs.drop (i.toNat * sz)).take sz).toArray, ?_, _, rfl, (hr.drop _).take _⟩
        rw [hrun]
        simp only [part, Sem.run_bind, run_isAgg ha, Result.andThen_ok, if_true, run_sizeOf hs, Sem.run_pure]
        congr 3
        simp
      | false =>
        obtain rfl : sz = 1 := by simpa using hag
        have hlt : i.toNat * 1 < as_.length := by omega
        have hb : vs[i.toNat * 1]? = some (vs[i.toNat * 1]'(by omega)) := by simp
        refine ⟨vs[i.toNat * 1]'(by omega), ?_, as_[i.toNat * 1], ?_, hr.2 _ _ _ (by simp) hb⟩
        · rw [hrun]
          simp [part, run_isAgg ha, show i.toNat < vs.length by omega]
        · rw [List.drop_eq_getElem_cons hlt]; rfl
    · cases hv
  | _ => rw [ho] at hc; simp [pureChk] at hc
theorem eval_opt (h : Rel F w0 G s a w) {x : Option Operand} {y : Option AX} (hx : optB x y = true) {n : Option Int} (hv : s.optNum y = some n) :
    (n = none ∧ x = none) ∨ ∃ m k z, n = some m ∧ x = some z ∧ a.eval z = .int k m := by
  unfold optB at hx
  split at hx
  · simp [St.optNum] at hv; exact .inl ⟨hv.symm, rfl⟩
  · simp only [St.optNum] at hv
    obtain ⟨m, hm, rfl⟩ := Option.map_eq_some_iff.1 hv
    obtain ⟨k, hk⟩ := eval_num h hx hm
    exact .inr ⟨m, k, _, rfl, rfl, hk⟩
  · cases hx
theorem run_bound {v : Value} {k : IntKind} {n : Int} {y : Nat} {c : BoundsCode} (hv : v = .int k n) (h0 : 0 ≤ n) (h1 : n ≤ y) : (Instr.sliceBound v y c).run P w = .ok n.toNat w := by
  subst hv
  simp [Instr.sliceBound, asIntOf, h0, h1]
theorem run_bounds (h : Rel F w0 G s a w) {isS : Bool} {lo hi : Option Operand} {lo' hi' : Option AX} (h1 : optB lo lo' = true) (h2 : optB hi hi' = true) {l u : Option Int} (e1 : s.optNum lo' = some l) (e2 : s.optNum hi' = some u)
    {n c : Nat} {b : Nat × Nat} (hb : cutB n l u = some b) (hn : n ≤ c) : (Instr.sliceBounds isS n c (lo.map a.eval) (hi.map a.eval) none).run P w = .ok (b.1, b.2, c) w ∧ b.1 ≤ b.2 ∧ b.2 ≤ n := by
  unfold cutB at hb
  simp only at hb
  split at hb <;> cases hb
  rename_i hb
  rcases eval_opt h h1 e1 with ⟨rfl, rfl⟩ | ⟨m, k, z, rfl, rfl, hz⟩ <;> rcases eval_opt h h2 e2 with ⟨rfl, rfl⟩ | ⟨m2, k2, z2, rfl, rfl, hz2⟩
  · simp [Instr.sliceBounds]
  · simp at hb
    simp [Instr.sliceBounds, run_bound hz2 hb.1 (show m2 ≤ (c : Int) by omega)]
    omega
  · simp at hb
    simp [Instr.sliceBounds, run_bound hz hb.1 hb.2]
    omega
  · simp at hb
    have e : ((m2.toNat : Nat) : Int) = m2 := by omega
    simp [Instr.sliceBounds, run_bound hz2 (by omega) (show m2 ≤ (c : Int) by omega), run_bound (y := m2.toNat) hz hb.1 (by omega)]
    omega
theorem ok_sslc {x : AX} {lo hi : Option AX} (h : Rel F w0 G s a w) (hc : pureChk P o.op (.sslc x lo hi) = true) (hv : pureOp s (.sslc x lo hi) = some sv) :
    ∃ v, (execOp a.eval o).run P w = .ok (.value v) w ∧ SRel G s.mem w sv v := by
  cases ho : o.op with
  | slice t x' lo' hi' mx =>
    rw [ho] at hc
    cases mx with
    | some _ => simp [pureChk] at hc
    | none =>
    simp only [pureChk, Bool.and_eq_true] at hc
    obtain ⟨⟨⟨ht, h1⟩, h2⟩, h3⟩ := hc
    obtain ⟨d, hd, hdb⟩ := tyB_spec ht
    cases d <;> simp at hdb
    simp only [pureOp] at hv
    split at hv
    · rename_i b l u hb hl hu
      obtain ⟨c, hcut, rfl⟩ := Option.map_eq_some_iff.1 hv
      have r1 := eval_one h h1 hb
      simp only [A1Rel] at r1
      obtain ⟨hrun, _, _⟩ := run_bounds (P := P) (isS := false) h h2 h3 hl hu hcut (Nat.le_refl _)
      exact ⟨_, by simp [execOp, ho, Instr.sliceAt, Instr.slice, run_underlying hd, r1, hrun], _, rfl, rfl⟩
    · cases hv
  | _ => rw [ho] at hc; simp [pureChk] at hc
theorem add_ad (g o n : Nat) : (⟨g, o, none⟩ : Addr).add n = ⟨g, o + n, none⟩ := by
  unfold Addr.add
  split
  · rename_i h; subst h; rfl
  · rfl
theorem Blk.drop {own : Bool} {w : World} {g o : Nat} {xs : List Value} (h : Blk own w g o xs) (k : Nat) : Blk own w g (o + k) (xs.drop k) := by
  obtain ⟨arr, e, fr, h1, h2, h3⟩ := h
  refine ⟨arr, e, fr, h1, h2, fun j x hx => ?_⟩
  rw [List.getElem?_drop] at hx
  have := h3 _ _ hx
  rwa [Nat.add_assoc]
theorem Blk.take {own : Bool} {w : World} {g o : Nat} {xs : List Value} (h : Blk own w g o xs) (k : Nat) : Blk own w g o (xs.take k) := by
  obtain ⟨arr, e, fr, h1, h2, h3⟩ := h
  refine ⟨arr, e, fr, h1, h2, fun j x hx => ?_⟩
  rw [List.getElem?_take] at hx
  split at hx
  · exact h3 _ _ hx
  · cases hx
theorem ok_slc {sz : Nat} {x : AX} {lo hi : Option AX} (h : Rel F w0 G s a w) (hc : pureChk P o.op (.slc sz x lo hi) = true) (hv : pureOp s (.slc sz x lo hi) = some sv) :
    ∃ v, (execOp a.eval o).run P w = .ok (.value v) w ∧ SRel G s.mem w sv v := by
  cases ho : o.op with
  | slice t x' lo' hi' mx =>
    rw [ho] at hc
    cases mx with
    | some _ => simp [pureChk] at hc
    | none =>
    simp only [pureChk, Bool.and_eq_true] at hc
    obtain ⟨⟨⟨ht, h1⟩, h2⟩, h3⟩ := hc
    obtain ⟨d, hd, hdb⟩ := tyB_spec ht
    cases d <;> simp at hdb
    rename_i e
    have key : ∀ A n c (b : Nat × Nat) l u, a.eval x' = .slice A n c → n ≤ c → s.optNum lo = some l → s.optNum hi = some u → cutB n l u = some b →
        (execOp a.eval o).run P w = .ok (.value (.slice (if c = b.1 then A else A.map (·.add (b.1 * sz))) (b.2 - b.1) (c - b.1))) w ∧ b.1 ≤ b.2 ∧ b.2 ≤ n := by
      intro A n c b l u hx hn hl hu hcut
      obtain ⟨hrun, k1, k2⟩ := run_bounds (P := P) (isS := true) h h2 h3 hl hu hcut hn
      refine ⟨?_, k1, k2⟩
      simp [execOp, ho, Instr.sliceAt, Instr.slice, run_underlying hd, hx, hrun, run_sizeOf hdb]
    simp only [pureOp] at hv
    split at hv
    · rename_i t p off n l u hb hl hu
      split at hv
      · rename_i hsz
        obtain ⟨b, hcut, rfl⟩ := Option.map_eq_some_iff.1 hv
        obtain ⟨A, c, hA, hn, ⟨sz0, cs0, hm, hcov⟩, hat, hbl⟩ := eval_one h h1 hb
        obtain ⟨hrun, k1, k2⟩ := key A n c b l u hA hn.1 hl hu hcut
        have hsz' : p = [] → sz0 = sz := by
          rintro rfl
          simp only [szOk, hm] at hsz
          simpa using hsz
        have hnone : (if c = b.1 then A else A.map (·.add (b.1 * sz))) = none → c - b.1 = 0 := by
          split
          · omega
          · intro hA'; cases A with
            | none => have := hn.2 rfl; omega
            | some _ => simp at hA'
        refine ⟨_, hrun, _, rfl, _, _, rfl, ⟨by omega, hnone⟩, ⟨sz0, cs0, hm, fun hp => ?_⟩, ?_, fun hp sz1 cs1 hm1 hc1 => ?_⟩
        · have := hcov hp
          obtain rfl := hsz' hp
          have e : b.1 * sz0 + (c - b.1) * sz0 = c * sz0 := by rw [← Nat.add_mul]; congr 1; omega
          omega
        · by_cases hcl : c = b.1
          · exact .inl (by omega)
          · rw [if_neg hcl]
            rcases hat with hat | ⟨z, q, hz, hat⟩
            · omega
            · refine .inr ⟨z, q, hz, fun ns hns hne => ?_⟩
              obtain ⟨g, oo, hl1, rfl⟩ := hat ns hns hne
              exact ⟨g, oo, hl1, by rw [Option.map_some, add_ad, Nat.add_assoc]⟩
        · rw [hm] at hm1
          cases hm1
          obtain rfl := hsz' hp
          obtain ⟨arr, e', fr, q1, q2⟩ := hbl hp sz0 cs0 hm (by omega)
          refine ⟨arr, e', fr, q1, ?_⟩
          have e : b.1 * sz0 + (c - b.1) * sz0 = c * sz0 := by rw [← Nat.add_mul]; congr 1; omega
          omega
      · cases hv
    · rename_i n cs l u hb hl hu
      obtain ⟨b, hcut, rfl⟩ := Option.map_eq_some_iff.1 hv
      obtain ⟨A, c, hA, hn, hro⟩ := eval_one h h1 hb
      obtain ⟨hrun, k1, k2⟩ := key A n c b l u hA hn.1 hl hu hcut
      have hnone : (if c = b.1 then A else A.map (·.add (b.1 * sz))) = none → c - b.1 = 0 := by
        split
        · omega
        · intro hA'; cases A with
          | none => have := hn.2 rfl; omega
          | some _ => simp at hA'
      refine ⟨_, hrun, _, rfl, _, _, rfl, ⟨by omega, hnone⟩, ?_⟩
      rcases hro with rfl | ⟨g, q, vs, fp, rfl, kb, kh, kr⟩
      · exact .inl (by simp)
      · by_cases hcl : c = b.1
        · exact .inl (by rw [show b.2 - b.1 = 0 by omega]; simp)
        · rw [if_neg hcl, Option.map_some, add_ad]
          obtain ⟨f1, d1, s1⟩ := kh.drop (b.1 * sz)
          obtain ⟨f2, d2, s2⟩ := d1.take ((b.2 - b.1) * sz)
          refine .inr ⟨g, q + b.1 * sz, _, f2, rfl, ?_, d2, ?_⟩
          · exact (kb.drop _).take _
          · intro x hx
            simp only [List.mem_cons] at hx
            rcases hx with rfl | hx
            · exact kr _ (by simp)
            · exact kr _ (by simp [s1.mem (s2.mem hx)])
    · rename_i l u hb hl hu
      obtain ⟨b, hcut, rfl⟩ := Option.map_eq_some_iff.1 hv
      obtain ⟨A, r⟩ := eval_one h h1 hb
      obtain ⟨hrun, k1, k2⟩ := key A 0 0 b l u r (Nat.le_refl _) hl hu hcut
      have e1 : b.1 = 0 := by omega
      have e2 : b.2 = 0 := by omega
      rw [e1, e2] at hrun
      exact ⟨_, hrun, _, rfl, _, rfl⟩
    · cases hv
  | _ => rw [ho] at hc; simp [pureChk] at hc
theorem ok_ia {sz : Nat} {x i : AX} (h : Rel F w0 G s a w) (hc : pureChk P o.op (.ia sz x i) = true) (hv : pureOp s (.ia sz x i) = some sv) :
    ∃ v, (execOp a.eval o).run P w = .ok (.value v) w ∧ SRel G s.mem w sv v := by
  cases ho : o.op with
  | indexAddr t x' i' =>
    rw [ho] at hc
    simp only [pureChk, Bool.and_eq_true] at hc
    obtain ⟨⟨ht, h1⟩, h2⟩ := hc
    obtain ⟨d, hd, hdb⟩ := tyB_spec ht
    cases d <;> simp at hdb
    rename_i e
    simp only [pureOp] at hv
    split at hv
    · rename_i t p off n i' hb hi
      split at hv <;> cases hv
      rename_i hin
      obtain ⟨A, c, hA, hn, ⟨sz0, cs0, hm, hcov⟩, hat, hbl⟩ := eval_one h h1 hb
      obtain ⟨k, r2⟩ := eval_num h h2 hi
      cases A with
      | none => have := hn.2 rfl; omega
      | some A =>
        rcases hat with hat | ⟨z, q, hz, hat⟩
        · omega
        · refine ⟨.pointer (some (A.add (i'.toNat * sz))), by simp [execOp, ho, Instr.indexAt, run_underlying hd, hA, r2, asIntOf, hin.1, hin.2, run_sizeOf hdb], _, rfl, _, rfl, .inl ⟨z, q, hz, fun ns hns hne => ?_⟩⟩
          obtain ⟨g, oo, hl1, e1⟩ := hat ns hns hne
          cases e1
          exact ⟨g, oo, hl1, by rw [add_ad, Nat.add_assoc]⟩
    · rename_i n cs i' hb hi
      split at hv <;> cases hv
      rename_i hin
      obtain ⟨A, c, hA, hn, hro⟩ := eval_one h h1 hb
      obtain ⟨k, r2⟩ := eval_num h h2 hi
      cases A with
      | none => have := hn.2 rfl; omega
      | some A =>
        refine ⟨.pointer (some (A.add (i'.toNat * sz))), by simp [execOp, ho, Instr.indexAt, run_underlying hd, hA, r2, asIntOf, hin.1, hin.2, run_sizeOf hdb], _, rfl, _, rfl, ?_⟩
        rcases hro with rfl | ⟨g, q, vs, fp, e1, kb, kh, kr⟩
        · exact .inl (by simp)
        · cases e1
          rw [add_ad]
          obtain ⟨f1, d1, s1⟩ := kh.drop (i'.toNat * sz)
          refine .inr ⟨g, q + i'.toNat * sz, _, f1, rfl, kb.drop _, d1, ?_⟩
          intro x hx
          simp only [List.mem_cons] at hx
          rcases hx with rfl | hx
          · exact kr _ (by simp)
          · exact kr _ (by simp [s1.mem hx])
    · cases hv
  | _ => rw [ho] at hc; simp [pureChk] at hc
theorem ok_iaa {sz len : Nat} {x i : AX} (h : Rel F w0 G s a w) (hc : pureChk P o.op (.iaa sz len x i) = true) (hv : pureOp s (.iaa sz len x i) = some sv) :
    ∃ v, (execOp a.eval o).run P w = .ok (.value v) w ∧ SRel G s.mem w sv v := by
  cases ho : o.op with
  | indexAddr t x' i' =>
    rw [ho] at hc
    simp only [pureChk, Bool.and_eq_true] at hc
    obtain ⟨⟨ht, h1⟩, h2⟩ := hc
    obtain ⟨d, hd, hdb⟩ := tyB_spec ht
    cases d <;> simp at hdb
    rename_i n e
    obtain ⟨rfl, hdb⟩ := hdb
    simp only [pureOp] at hv
    split at hv
    · rename_i t p off i' hb hi
      split at hv <;> cases hv
      rename_i hin
      obtain ⟨A, hA, hat⟩ := eval_one h h1 hb
      obtain ⟨k, r2⟩ := eval_num h h2 hi
      refine ⟨.pointer (some (A.add (i'.toNat * sz))), by simp [execOp, ho, Instr.indexAt, Instr.sureAddr, run_underlying hd, hA, r2, asIntOf, hin.1, hin.2, run_sizeOf hdb], _, rfl, _, rfl, ?_⟩
      rcases hat with ⟨z, q, hz, hat⟩ | ⟨as_, hz, rfl, rfl⟩
      · refine .inl ⟨z, q, hz, fun ns hns hne => ?_⟩
        obtain ⟨g, oo, hl1, e1⟩ := hat ns hns hne
        cases e1
        exact ⟨g, oo, hl1, by rw [add_ad, Nat.add_assoc]⟩
      · exact .inr ⟨as_, hz, rfl, by rw [add_ad]⟩
    · cases hv
  | _ => rw [ho] at hc; simp [pureChk] at hc
theorem ok_fa {off : Nat} {x : AX} (h : Rel F w0 G s a w) (hc : pureChk P o.op (.fa off x) = true) (hv : pureOp s (.fa off x) = some sv) :
    ∃ v, (execOp a.eval o).run P w = .ok (.value v) w ∧ SRel G s.mem w sv v := by
  cases ho : o.op with
  | fieldAddr t x' f =>
    rw [ho] at hc
    simp only [pureChk, Bool.and_eq_true] at hc
    obtain ⟨ht, h1⟩ := hc
    obtain ⟨d, hd, hdb⟩ := tyB_spec ht
    cases d <;> simp at hdb
    rename_i fs
    cases hf : fs[f]? with
    | none => rw [hf] at hdb; simp at hdb
    | some fd =>
      rw [hf] at hdb
      simp only [Bool.and_eq_true, beq_iff_eq] at hdb
      obtain ⟨rfl, hs⟩ := hdb
      have hrun : ∀ A, a.eval x' = .pointer (some A) → (execOp a.eval o).run P w = .ok (.value (.pointer (some (A.add fd.offset)))) w := by
        intro A hA
        cases hi : P.info? fd.type with
        | none => rw [hi] at hs; simp at hs
        | some i =>
          rw [hi] at hs
          have hne : i.size ≠ 0 := by simpa using hs
          simp [execOp, ho, Instr.fieldAt, Instr.sureAddr, run_underlying hd, hA, hf, fieldPlace, sizeOf, typeInfo, hi, hne]
      simp only [pureOp] at hv
      split at hv <;> cases hv
      · obtain ⟨A, hA, hat⟩ := eval_one h h1 ‹_›
        refine ⟨_, hrun A hA, _, rfl, _, rfl, ?_⟩
        rcases hat with ⟨z, q, hz, hat⟩ | ⟨as_, hz, rfl, rfl⟩
        · refine .inl ⟨z, q, hz, fun ns hns hne => ?_⟩
          obtain ⟨g, oo, hl1, e1⟩ := hat ns hns hne
          cases e1
          exact ⟨g, oo, hl1, by rw [add_ad, Nat.add_assoc]⟩
        · exact .inr ⟨as_, hz, rfl, by rw [add_ad]⟩
      · obtain ⟨A, hA, hro⟩ := eval_one h h1 ‹_›
        refine ⟨_, hrun A hA, _, rfl, _, rfl, ?_⟩
        rcases hro with rfl | ⟨g, q, vs, fp, e1, kb, kh, kr⟩
        · exact .inl (by simp)
        · cases e1
          rw [add_ad]
          obtain ⟨f1, d1, s1⟩ := kh.drop fd.offset
          refine .inr ⟨g, q + fd.offset, _, f1, rfl, kb.drop _, d1, ?_⟩
          intro x hx
          simp only [List.mem_cons] at hx
          rcases hx with rfl | hx
          · exact kr _ (by simp)
          · exact kr _ (by simp [s1.mem hx])
  | _ => rw [ho] at hc; simp [pureChk] at hc
end
end Go.Proofs.YtbdokibepndibaaGreat.Eng
