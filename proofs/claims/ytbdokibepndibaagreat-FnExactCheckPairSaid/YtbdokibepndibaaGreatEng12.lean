/- An interpreter of the model's code over tagged trees, twelfth part: operations that turn memory. -/
import Derived.Test.YtbdokibepndibaaGreatEng11
import Derived.Laws.CopyRow
import Derived.Laws.Append
namespace Go.Proofs.YtbdokibepndibaaGreat.Eng
open Go.RowKit

def A1.scalar : A1 → Bool
  | .int _ _ | .bool _ | .str _ => true
  | _ => false
/-- A store into a row: what it makes of the state. -/
def stoRow (s : St) (t : Nat) (p : List Nat) (off : Nat) (as_ : List A1) : Option St :=
  match s.mem t with
  | some (.row z cs) =>
    match cellsAt cs p with
    | some ns =>
      if off + as_.length ≤ ns.length ∧ 0 < as_.length then
        match toCells s.mem as_ with
        | some (ncs, _, ts) =>
          if t ∈ ts then none else
          if as_.all A1.scalar then some ⟨s.slots, upd s.mem t (some (.row z (updAt (spl ncs off) cs p))), s.up⟩
          else
            let fx := fun x => kill ts (cutoff t p off as_.length x)
            some ⟨s.slots.map (SV.map fx), upd (mapMem fx fun k => if k ∈ ts then none else s.mem k) t (some (.row z (updAt (spl ncs off) cs p))), s.up.map (SV.map fx)⟩
        | none => none
      else none
    | none => none
  | _ => none
/-- A new row, out of cells; rows of ts have gone into it. -/
def newRowSt (s : St) (d sz n : Nat) (cs : List Cell) (ts : List Nat) : Option (SV × St) :=
  match s.mem d with
  | some _ => none
  | none =>
    if ts.isEmpty then some (.v false [.sl d [] 0 n], ⟨s.slots, upd s.mem d (some (.row sz cs)), s.up⟩)
    else some (.v false [.sl d [] 0 n], ⟨s.slots.map (SV.map (kill ts)), upd (rest ts s.mem) d (some (.row sz cs)), s.up.map (SV.map (kill ts))⟩)
def effOp (s : St) (d : Nat) : AO → Option (SV × St)
  | .box _ x =>
    match s.get x, s.mem d with
    | some (.v _ as_), none => some (.v false [.pr d [] 0], ⟨s.slots, upd s.mem d (some (.box as_)), s.up⟩)
    | _, _ => none
  | .bxr _ x =>
    match s.get x with
    | some (.v _ as_) => (roCells as_).map fun cs => (.v false [.pc cs], s)
    | _ => none
  | .alc zero =>
    match s.mem d with
    | none => some (.v false [.pr d [] 0], ⟨s.slots, upd s.mem d (some (.box zero)), s.up⟩)
    | _ => none
  | .lit sz zero len parts =>
    (s.parts parts).bind fun ps =>
      if inB (reps len zero).length ps = true then
        match toCells s.mem (fillA (reps len zero) ps) with
        | some (cs, _, ts) => newRowSt s d sz len cs ts
        | none => none
      else none
  | .lit0 => some (.v false [.nil], s)
  | .litr _ zero len parts =>
    (s.parts parts).bind fun ps =>
      if inB (reps len zero).length ps = true then
        (roCells (fillA (reps len zero) ps)).map fun cs => (.v false [.rx len cs], s)
      else none
  | .mks sz bytes zero n =>
    match s.num n with
    | some k =>
      if 0 ≤ k ∧ bytes * k ≤ 281474976710656 then
        match toCells s.mem (reps k.toNat zero) with
        | some (cs, _, ts) => newRowSt s d sz k.toNat cs ts
        | none => none
      else none
    | none => none
  | .sto sz x v =>
    match s.one x, s.get v with
    | some (.pr t p off), some (.v _ as_) =>
      if as_.length = sz then
        match s.mem t with
        | some (.box bs) => if p.isEmpty = true ∧ off + sz ≤ bs.length then some (.bad, ⟨s.slots, upd s.mem t (some (.box (spl as_ off bs))), s.up⟩) else none
        | _ => (stoRow s t p off as_).map fun s' => (.bad, s')
      else none
    | _, _ => none
  | _ => none

section
variable {P : Program} {F : Own} {w0 : World} {G G' : Gh} {s s' : St} {a : Act} {w w' : World} {sv : SV} {o : Oper} {m m' : Mem} {d : Nat}
theorem setRow_get {w : World} {g : Nat} {c : Array Value} {x : Nat} (h : x ≠ g) : (w.setRow g c).heap[x]? = w.heap[x]? := by
  simp only [World.setRow, Array.getElem?_modify]
  rw [if_neg (fun e => h e.symm)]
theorem storeCells_wr {g k : Nat} {vs : List Value} {arr : Array Value} {e : TypeId} (hg : w.heap[g]? = some (.cells arr e (0, 0))) (hk : k + vs.length ≤ arr.size) (h1 : ∀ v ∈ vs, v.oneCell' = true) :
    ∃ w', (storeCells ⟨g, k, none⟩ vs).run P w = .ok () w' ∧ Wr w w' g k vs := by
  have hr := run_storeCells_at P g k e vs 0 arr w hg (by simpa using hk) h1
  simp only [Nat.add_zero] at hr
  refine ⟨_, hr, rfl, rfl, rfl, by simp [World.setRow], ⟨arr, _, e, e, hg, setRow_heap w g arr _ e _ hg, by simp; omega, ?_, ?_⟩, fun x hx => setRow_get hx⟩
  · intro i hi
    have := spl_out (ns := vs) (j := k) (l := arr.toList) (by simpa using hk) (i := i) hi
    simp only [spl] at this
    simpa using this
  · intro j x hx
    have hj := (List.getElem?_eq_some_iff.1 hx).1
    have := spl_in (ns := vs) (j := k) (l := arr.toList) (by simpa using hk) hj
    simp only [spl, hx] at this
    simpa using this
theorem pushed_push (w : World) (arr : Array Value) (e : TypeId) : Pushed w { w with heap := w.heap.push (.cells arr e) } arr := ⟨rfl, rfl, rfl, e, rfl⟩
theorem rest_nil (m : Mem) : rest [] m = m := by
  simp only [rest, kill_nil']
  rw [mapMem_id]
  simp
theorem map_kill_nil (l : List SV) : l.map (SV.map (kill [])) = l := by
  rw [kill_nil', show SV.map id = id from funext SV.map_id]
  simp
/-- A new row, as the interpreter lays it. -/
theorem newRowSt_ok (h : Rel F w0 G s a w) {sz n c : Nat} {cs : List Cell} {vs : List Value} {ts fp : List Nat} {arr : Array Value} (hv : newRowSt s d sz n cs ts = some (sv, s')) (hp : Pushed w w' arr) (hsz : 0 < sz)
    (hh : HoldsL true w cs vs fp) (hnd : fp.Nodup) (hfp : ∀ y ∈ fp, ∃ t ∈ ts, y ∈ G.fp t) (hts : ∀ t ∈ ts, ∃ y, s.mem t = some y) (ha : ∀ (j : Nat) (x : Value), vs[j]? = some x → arr[j]? = some x)
    (hn : n ≤ c) (hc1 : cs.length ≤ c * sz) (hc2 : c * sz ≤ arr.size) (hcm : c ≤ 9223372036854775807) : ∃ G', Rel F w0 G' s' a w' ∧ SRel G' s'.mem w' sv (.slice (some ⟨w.heap.size, 0, none⟩) n c) := by
  unfold newRowSt at hv
  split at hv
  · cases hv
  · rename_i hd
    obtain ⟨k1, k2⟩ := h.newRow (ts := ts) hd hp hsz hh hnd hfp hts ha hn hc1 hc2 hcm
    split at hv
    · rename_i he
      have : ts = [] := by simpa using he
      subst this
      cases hv
      rw [rest_nil] at k1 k2
      rw [map_kill_nil, map_kill_nil] at k1
      exact ⟨_, k1, _, rfl, k2⟩
    · cases hv
      exact ⟨_, k1, _, rfl, k2⟩
theorem reps_length (n : Nat) (z : List A1) : (reps n z).length = n * z.length := by
  induction n with
  | zero => simp [reps]
  | succ n ih => simp [reps, ih, Nat.add_mul]; omega
theorem reps_get {z : List A1} {n i : Nat} (hi : i < n * z.length) : (reps n z)[i]? = z[i % z.length]? := by
  induction n generalizing i with
  | zero => simp at hi
  | succ n ih =>
    simp only [reps]
    by_cases h : i < z.length
    · rw [List.getElem?_append_left h, Nat.mod_eq_of_lt h]
    · have hi' := hi
      rw [Nat.succ_mul] at hi'
      rw [List.getElem?_append_right (by omega), ih (by omega), Nat.mod_eq_sub_mod (show i ≥ z.length by omega)]
theorem reps_rel {z : List A1} {zs : Array Value} (h : All2 (A1Rel G m w) z zs.toList) (n : Nat) : All2 (A1Rel G m w) (reps n z) ((Array.range (n * z.length)).map (zs[· % zs.size]!)).toList := by
  have hl : zs.size = z.length := by have := h.1; simpa using this.symm
  refine ⟨by simp [reps_length], fun i x v hx hv => ?_⟩
  have hlt : i < n * z.length := by have := (List.getElem?_eq_some_iff.1 hx).1; rwa [reps_length] at this
  rw [reps_get hlt] at hx
  have hp : 0 < z.length := by
    rcases Nat.eq_zero_or_pos z.length with h0 | h0
    · rw [h0] at hlt; simp at hlt
    · exact h0
  have hm : i % zs.size < zs.size := by rw [hl]; exact Nat.mod_lt _ hp
  refine h.2 (i % z.length) x v hx ?_
  rw [Array.getElem?_toList] at hv
  rw [Array.getElem?_toList]
  have e : ((Array.range (n * z.length)).map (zs[· % zs.size]!))[i]? = some (zs[i % zs.size]!) := by simp [hlt]
  rw [e] at hv
  cases hv
  rw [← hl]
  simp [hm]

def zeroB (P : Program) (e : TypeId) (zero : List A1) : Bool :=
  match P.info? e with
  | some i => (match i.zero with | some z => zerosB z.cells.toList zero && i.size == zero.length | none => false)
  | none => false
theorem zeroB_spec {e : TypeId} {zero : List A1} (h : zeroB P e zero = true) : ∃ i z, P.info? e = some i ∧ i.zero = some z ∧ zerosB z.cells.toList zero = true ∧ i.size = zero.length := by
  unfold zeroB at h
  split at h
  · rename_i i hi
    split at h
    · rename_i z hz
      simp only [Bool.and_eq_true, beq_iff_eq] at h
      exact ⟨i, z, hi, hz, h.1, h.2⟩
    · cases h
  · cases h
def effChk (P : Program) : Op → AO → Bool
  | .box _ x, .box _ y => axB x y
  | .box _ x, .bxr _ y => axB x y
  | .alloc e, .alc zero => zeroB P e zero
  | .buildSlice t len parts, .lit sz zero len' qs => len == len' && tyB P t (fun d => match d with | .slice e => zeroB P e zero | _ => false) && zero.length == sz && decide (0 < sz ∧ len * sz ≤ 16777216) && partsB (fun i => some (i * sz, sz)) parts.toList qs
  | .buildSlice t len parts, .litr sz zero len' qs => len == len' && tyB P t (fun d => match d with | .slice e => zeroB P e zero | _ => false) && zero.length == sz && decide (0 < sz ∧ len * sz ≤ 16777216) && partsB (fun i => some (i * sz, sz)) parts.toList qs
  | .buildSlice t 0 parts, .lit0 => parts.toList.isEmpty && tyB P t (fun d => match d with | .slice e => (P.info? e).isSome | _ => false)
  | .makeSlice t l c, .mks sz bytes zero n => tyB P t (fun d => match d with | .slice e => zeroB P e zero && (match P.info? e with | some i => i.bytes == bytes | none => false) | _ => false) && zero.length == sz && decide (0 < sz ∧ 0 < bytes) && axB l n && axB c n
  | .store t x v, .sto sz y u => sizeB P t sz && axB x y && axB v u
  | _, _ => false
/-- One operation, carried out: a value, or none. -/
def Done (P : Program) (F : Own) (w0 : World) (o : Oper) (a : Act) (w : World) (sv : SV) (s' : St) : Prop :=
  ∃ r v w' G', (execOp a.eval o).run P w = .ok r w' ∧ (r = .value v ∨ (r = .skip ∧ v = undef)) ∧ Rel F w0 G' s' a w' ∧ SRel G' s'.mem w' sv v
theorem Rel.pushed {F : Own} {w0 w w' : World} {G : Gh} {s : St} {a : Act} {arr : Array Value} (h : Rel F w0 G s a w) (hp : Pushed w w' arr) : Rel F w0 G s a w' := by
  have hg := hp.grows
  have hs : w.heap.size ≤ w'.heap.size := by have := hp.size; omega
  refine ⟨h.defers, h.slots.imp fun x v => SRel.imp fun _ _ => A1Rel.grows hg h.inv.lt, h.up.imp fun x v => SRel.imp fun _ _ => A1Rel.grows hg h.inv.lt, h.rr, h.inv.grows hg hs, ⟨hp.os.trans h.fr.os, hp.tape.trans h.fr.tape, hp.output.trans h.fr.output, Nat.le_trans h.fr.size hs, fun g hlt hF => ?_⟩, h.own⟩
  rw [hg g (Nat.lt_of_lt_of_le hlt h.fr.size)]
  exact h.fr.block g hlt hF
theorem eff_lit0 (h : Rel F w0 G s a w) (hc : effChk P o.op .lit0 = true) (hv : effOp s d .lit0 = some (sv, s')) : Done P F w0 o a w sv s' := by
  cases ho : o.op with
  | buildSlice t len ps =>
    rw [ho] at hc
    cases len with
    | succ n => simp [effChk] at hc
    | zero =>
    simp only [effChk, Bool.and_eq_true, List.isEmpty_iff] at hc
    obtain ⟨hps, ht⟩ := hc
    simp only [effOp, Option.some.injEq, Prod.mk.injEq] at hv
    obtain ⟨rfl, rfl⟩ := hv
    obtain ⟨dd, hd, hdb⟩ := tyB_spec ht
    cases dd <;> simp at hdb
    rename_i e
    obtain ⟨i, hi⟩ : ∃ i, P.info? e = some i := Option.isSome_iff_exists.1 hdb
    obtain rfl : ps = #[] := by rw [← Array.toArray_toList (xs := ps), hps]
    have hsize : (sizeOf e).run P w = .ok i.size w := by simp [sizeOf, typeInfo, hi]
    have hp := pushed_push w #[] e
    refine ⟨_, .slice (some ⟨w.heap.size, 0, none⟩) 0 0, _, G, ?_, .inl rfl, h.pushed hp, ⟨_, rfl, _, rfl⟩⟩
    have hfill : ∀ f : Nat → Option (Nat × Nat), Instr.fill f #[] [] = some #[] := fun f => by simp [Instr.fill]
    have hmap : ∀ g : Nat → Value, (Array.range 0).map g = #[] := fun g => by simp
    simp only [execOp, ho, Instr.buildSlice, Sem.run_bind, run_underlying hd, Result.andThen_ok, hsize, Nat.zero_mul, if_true, Sem.run_pure, hmap]
    rw [if_neg (by omega)]
    simp only [Sem.run_pure, Result.andThen_ok, Array.map_empty, hfill]
    rfl
  | _ => rw [ho] at hc; simp [effChk] at hc
theorem eff_box {sz : Nat} {x : AX} (h : Rel F w0 G s a w) (hc : effChk P o.op (.box sz x) = true) (hv : effOp s d (.box sz x) = some (sv, s')) : Done P F w0 o a w sv s' := by
  cases ho : o.op with
  | box e x' =>
    rw [ho] at hc
    simp only [effChk] at hc
    simp only [effOp] at hv
    split at hv
    · rename_i ag as_ hx hd
      cases hv
      have hr := VRel.cells (eval_get h hc hx)
      have hp : Pushed w { w with heap := w.heap.push (.cells (a.eval x').cells e) } (a.eval x').cells.toList.toArray := by
        rw [Array.toArray_toList]; exact pushed_push _ _ _
      obtain ⟨k1, k2⟩ := h.newBox hd hp hr
      exact ⟨_, _, _, _, by simp [execOp, ho, Instr.box, newVar, newRow], .inl rfl, k1, _, rfl, k2⟩
    · cases hv
  | _ => rw [ho] at hc; simp [effChk] at hc
theorem eff_alc {zero : List A1} (h : Rel F w0 G s a w) (hc : effChk P o.op (.alc zero) = true) (hv : effOp s d (.alc zero) = some (sv, s')) : Done P F w0 o a w sv s' := by
  cases ho : o.op with
  | alloc e =>
    rw [ho] at hc
    simp only [effChk] at hc
    obtain ⟨i, z, hi, hz, hzr, _⟩ := zeroB_spec hc
    simp only [effOp] at hv
    split at hv
    · rename_i hd
      cases hv
      have hr := zerosB_rel (G := G) (s := s) (w := w) hzr
      have hp : Pushed w { w with heap := w.heap.push (.cells z.cells e) } z.cells.toList.toArray := by
        rw [Array.toArray_toList]; exact pushed_push _ _ _
      obtain ⟨k1, k2⟩ := h.newBox hd hp hr
      exact ⟨_, _, _, _, by simp [execOp, ho, Instr.alloc, zeroValue, typeInfo, hi, hz, newVar, newRow], .inl rfl, k1, _, rfl, k2⟩
    · cases hv
  | _ => rw [ho] at hc; simp [effChk] at hc
theorem eff_lit {sz len : Nat} {zero : List A1} {parts : List (Nat × Nat × AX)} (h : Rel F w0 G s a w) (hc : effChk P o.op (.lit sz zero len parts) = true) (hv : effOp s d (.lit sz zero len parts) = some (sv, s')) : Done P F w0 o a w sv s' := by
  cases ho : o.op with
  | buildSlice t len' ps' =>
    rw [ho] at hc
    simp only [effChk, Bool.and_eq_true, beq_iff_eq, decide_eq_true_eq] at hc
    obtain ⟨⟨⟨⟨rfl, ht⟩, rfl⟩, hsz⟩, hp⟩ := hc
    obtain ⟨dd, hd, hdb⟩ := tyB_spec ht
    cases dd <;> simp at hdb
    rename_i e
    obtain ⟨i, z, hi, hz, hzr, hzl⟩ := zeroB_spec hdb
    simp only [effOp] at hv
    obtain ⟨ps, hps, hv⟩ := Option.bind_eq_some_iff.1 hv
    split at hv
    · rename_i hin
      split at hv
      · rename_i cs m2 ts hcs
        have hrel := zerosB_rel (G := G) (s := s) (w := w) hzr
        have hzsz : z.cells.size = zero.length := by have := hrel.1; simpa using this.symm
        have hreps := reps_rel hrel len'
        obtain ⟨cs', k1, k2⟩ := fill_rel (parts_rel h hp hps) hreps (fillA_length hin) (inB_spec hin)
        obtain ⟨fp, q1, q2, q3, q4, q5⟩ := toCells_rel h.inv k2 (fun _ _ hh => hh) hcs
        have hcl : cs.length = len' * zero.length := by
          have e1 := q1.len
          have e2 := k2.1
          rw [fillA_length hin, reps_length] at e2
          omega
        have hcs' : cs'.size = len' * zero.length := by have := q1.len; simp at this; omega
        obtain ⟨G', r1, r2⟩ := newRowSt_ok (c := len') h hv (pushed_push w cs' e) hsz.1 q1 q2 q3 q5 (fun j x hx => by rwa [Array.getElem?_toList] at hx) (Nat.le_refl _) (by omega) (by omega) (by have := Nat.le_mul_of_pos_right len' hsz.1; omega)
        refine ⟨_, _, _, G', ?_, .inl rfl, r1, r2⟩
        have hmap : (ps'.map fun p => (p.1, a.eval p.2)).toList = ps'.toList.map fun p => (p.1, a.eval p.2) := by simp
        have hsize : (sizeOf e).run P w = .ok zero.length w := by simp [sizeOf, typeInfo, hi, hzl]
        have hzero : (zeroValue e).run P w = .ok z w := by simp [zeroValue, typeInfo, hi, hz]
        have hlim : ¬ (len' * zero.length > 2 ^ 24) := by omega
        simp only [execOp, ho, Instr.buildSlice, Sem.run_bind, run_underlying hd, Result.andThen_ok, hsize]
        rw [if_neg hlim]
        by_cases h0 : len' * zero.length = 0
        · rw [h0] at k1
          simp only [h0, if_true, Sem.run_pure, Result.andThen_ok, hmap, Sem.run_bind]
          rw [show (Array.range 0).map ((#[] : Array Value)[· % (#[] : Array Value).size]!) = (Array.range 0).map (z.cells[· % z.cells.size]!) by simp, k1]
          rfl
        · rw [if_neg h0]
          simp only [Sem.run_bind, hzero, Sem.run_pure, Result.andThen_ok, hmap, k1]
          rfl
      · cases hv
    · cases hv
  | _ => rw [ho] at hc; simp [effChk] at hc
theorem roCells_rel : ∀ {as_ : List A1} {vs : List Value} {cs : List Cell}, All2 (A1Rel G m w) as_ vs → roCells as_ = some cs → ∃ fp, HoldsL false w cs vs fp ∧ ∀ x ∈ fp, G.R x := by
  intro as_
  induction as_ with
  | nil =>
    intro vs cs h hc
    have : vs = [] := List.eq_nil_of_length_eq_zero h.1.symm
    subst this
    simp only [roCells, Option.some.injEq] at hc
    subst hc
    exact ⟨[], .nil, by simp⟩
  | cons x as_ ih =>
    intro vs cs h hc
    cases vs with
    | nil => simp [All2] at h
    | cons v vs =>
      have h1 := h.2 0 _ _ rfl rfl
      have ht' : All2 (A1Rel G m w) as_ vs := ⟨by have := h.1; simpa using this, fun j a b ha hb => h.2 (j + 1) a b (by simpa using ha) (by simpa using hb)⟩
      simp only [roCells] at hc
      split at hc <;> cases hc
      rename_i c cs' hx hr
      obtain ⟨fp, k1, k2⟩ := ih ht' hr
      cases x with
      | int k n => simp only [A1Rel] at h1; subst h1; cases hx; exact ⟨fp, .int k1, k2⟩
      | bool b => simp only [A1Rel] at h1; subst h1; cases hx; exact ⟨fp, .bool k1, k2⟩
      | str b => simp only [A1Rel] at h1; subst h1; cases hx; exact ⟨fp, .str k1, k2⟩
      | nil => obtain ⟨A, rfl⟩ := h1; cases hx; exact ⟨fp, .sl0 ⟨Nat.le_refl _, fun _ => rfl⟩ k1, k2⟩
      | ro n ds =>
        obtain ⟨A, c', rfl, hn, hro⟩ := h1
        cases hx
        by_cases he : ds = []
        · subst he; exact ⟨fp, .sl0 hn k1, k2⟩
        · rcases hro with hro | ⟨g, o, us, fq, rfl, hb, hh, hr'⟩
          · exact absurd hro he
          · refine ⟨_, .sl he hn.1 hb hh k1, fun y hy => ?_⟩
            simp only [List.mem_cons, List.mem_append] at hy
            rcases hy with rfl | hy | hy
            · exact hr' _ (by simp)
            · exact hr' _ (by simp [hy])
            · exact k2 _ hy
      | _ => cases hx
/-- More of what the call has made is only read from now on. -/
theorem Rel.growR (h : Rel F w0 G s a w) {S : Nat → Prop} (hS : ∀ g, S g → w0.heap.size ≤ g ∧ g < w.heap.size ∧ ∀ t x, s.mem t = some x → g ∉ G.fp t) :
    Rel F w0 ⟨G.b, G.o, G.fp, fun g => G.R g ∨ S g⟩ s a w ∧ ∀ x v, A1Rel G s.mem w x v → A1Rel ⟨G.b, G.o, G.fp, fun g => G.R g ∨ S g⟩ s.mem w x v := by
  have conv : ∀ x v, A1Rel G s.mem w x v → A1Rel ⟨G.b, G.o, G.fp, fun g => G.R g ∨ S g⟩ s.mem w x v := fun x v hx => hx.congr (fun t _ z hz => ⟨rfl, rfl, z, hz, by cases z <;> first | exact ⟨rfl, rfl⟩ | trivial⟩) fun _ h => .inl h
  refine ⟨⟨h.defers, h.slots.imp fun _ _ => SRel.imp conv, h.up.imp fun _ _ => SRel.imp conv, fun g hg => hg.elim (h.rr g) (fun hg => .inr (hS g hg).1), ⟨?_, h.inv.nd, h.inv.apart, fun t x hx g hg hr => ?_, fun g hg => hg.elim (h.inv.lt g) fun hg => (hS g hg).2.1⟩, h.fr, h.own⟩, conv⟩
  · intro t x hx
    have := h.inv.ob t x hx
    cases x with
    | row sz cs => exact this
    | box as_ =>
      obtain ⟨vs, arr, e, k1, k2, k3, k4⟩ := this
      exact ⟨vs, arr, e, k1, k2, k3.imp conv, k4⟩
  · rcases hr with hr | hr
    · exact h.inv.ro t x hx g hg hr
    · exact (hS g hr).2.2 t x hx hg
theorem eff_litr {sz len : Nat} {zero : List A1} {parts : List (Nat × Nat × AX)} (h : Rel F w0 G s a w) (hc : effChk P o.op (.litr sz zero len parts) = true) (hv : effOp s d (.litr sz zero len parts) = some (sv, s')) : Done P F w0 o a w sv s' := by
  cases ho : o.op with
  | buildSlice t len' ps' =>
    rw [ho] at hc
    simp only [effChk, Bool.and_eq_true, beq_iff_eq, decide_eq_true_eq] at hc
    obtain ⟨⟨⟨⟨rfl, ht⟩, rfl⟩, hsz⟩, hp⟩ := hc
    obtain ⟨dd, hd, hdb⟩ := tyB_spec ht
    cases dd <;> simp at hdb
    rename_i e
    obtain ⟨i, z, hi, hz, hzr, hzl⟩ := zeroB_spec hdb
    simp only [effOp] at hv
    obtain ⟨ps, hps, hv⟩ := Option.bind_eq_some_iff.1 hv
    split at hv
    · rename_i hin
      obtain ⟨cs, hcs, he⟩ := Option.map_eq_some_iff.1 hv
      simp only [Prod.mk.injEq] at he
      obtain ⟨rfl, rfl⟩ := he
      have hrel := zerosB_rel (G := G) (s := s) (w := w) hzr
      have hzsz : z.cells.size = zero.length := by have := hrel.1; simpa using this.symm
      have hreps := reps_rel hrel len'
      obtain ⟨cs', k1, k2⟩ := fill_rel (parts_rel h hp hps) hreps (fillA_length hin) (inB_spec hin)
      obtain ⟨fp, q1, q2⟩ := roCells_rel k2 hcs
      have hp' := pushed_push w cs' e
      have h1 := h.pushed hp'
      obtain ⟨r1, r2⟩ := h1.growR (S := fun g => g = w.heap.size) (fun g hg => by
        subst hg
        refine ⟨h.fr.size, by have := hp'.size; omega, fun t x hx hin => ?_⟩
        exact absurd ((h.inv.ob t x hx).lt _ hin) (Nat.lt_irrefl _))
      refine ⟨_, .slice (some ⟨w.heap.size, 0, none⟩) len' len', _, _, ?_, .inl rfl, r1, ?_⟩
      case refine_2 =>
        refine ⟨_, rfl, _, rfl, (fun h => by cases h), .inr ⟨w.heap.size, 0, cs'.toList, fp, rfl, ?_, ?_, ?_⟩⟩
        · refine ⟨cs', e, (0, 0), by simp, (fun h => by cases h), fun j x hx => ?_⟩
          rw [Array.getElem?_toList] at hx
          simpa using hx
        · exact q1.frame fun g hg => hp'.grows g (h.inv.lt g (q2 g hg))
        · intro x hx
          simp only [List.mem_cons] at hx
          rcases hx with rfl | hx
          · exact .inr rfl
          · exact .inl (q2 x hx)
      have hmap : (ps'.map fun p => (p.1, a.eval p.2)).toList = ps'.toList.map fun p => (p.1, a.eval p.2) := by simp
      have hsize : (sizeOf e).run P w = .ok zero.length w := by simp [sizeOf, typeInfo, hi, hzl]
      have hzero : (zeroValue e).run P w = .ok z w := by simp [zeroValue, typeInfo, hi, hz]
      have hlim : ¬ (len' * zero.length > 2 ^ 24) := by omega
      simp only [execOp, ho, Instr.buildSlice, Sem.run_bind, run_underlying hd, Result.andThen_ok, hsize]
      rw [if_neg hlim]
      by_cases h0 : len' * zero.length = 0
      · rw [h0] at k1
        simp only [h0, if_true, Sem.run_pure, Result.andThen_ok, hmap, Sem.run_bind]
        rw [show (Array.range 0).map ((#[] : Array Value)[· % (#[] : Array Value).size]!) = (Array.range 0).map (z.cells[· % z.cells.size]!) by simp, k1]
        rfl
      · rw [if_neg h0]
        simp only [Sem.run_bind, hzero, Sem.run_pure, Result.andThen_ok, hmap, k1]
        rfl
    · cases hv
  | _ => rw [ho] at hc; simp [effChk] at hc
theorem eff_bxr {sz : Nat} {x : AX} (h : Rel F w0 G s a w) (hc : effChk P o.op (.bxr sz x) = true) (hv : effOp s d (.bxr sz x) = some (sv, s')) : Done P F w0 o a w sv s' := by
  cases ho : o.op with
  | box e x' =>
    rw [ho] at hc
    simp only [effChk] at hc
    simp only [effOp] at hv
    split at hv
    · rename_i ag as_ hx
      obtain ⟨cs, hcs, he⟩ := Option.map_eq_some_iff.1 hv
      simp only [Prod.mk.injEq] at he
      obtain ⟨rfl, rfl⟩ := he
      have hr := VRel.cells (eval_get h hc hx)
      obtain ⟨fp, q1, q2⟩ := roCells_rel hr hcs
      have hp : Pushed w { w with heap := w.heap.push (.cells (a.eval x').cells e) } (a.eval x').cells := pushed_push _ _ _
      have h1 := h.pushed hp
      obtain ⟨r1, r2⟩ := h1.growR (S := fun g => g = w.heap.size) (fun g hg => by
        subst hg
        refine ⟨h.fr.size, by have := hp.size; omega, fun t x hx hin => ?_⟩
        exact absurd ((h.inv.ob t x hx).lt _ hin) (Nat.lt_irrefl _))
      refine ⟨_, .pointer (some ⟨w.heap.size, 0, none⟩), _, _, by simp [execOp, ho, Instr.box, newVar, newRow], .inl rfl, r1, _, rfl, _, rfl, .inr ⟨w.heap.size, 0, (a.eval x').cells.toList, fp, rfl, ?_, ?_, ?_⟩⟩
      · refine ⟨(a.eval x').cells, e, (0, 0), by simp, (fun h => by cases h), fun j x hx => ?_⟩
        rw [Array.getElem?_toList] at hx
        simpa using hx
      · exact q1.frame fun g hg => hp.grows g (h.inv.lt g (q2 g hg))
      · intro x hx
        simp only [List.mem_cons] at hx
        rcases hx with rfl | hx
        · exact .inr rfl
        · exact .inl (q2 x hx)
    · cases hv
  | _ => rw [ho] at hc; simp [effChk] at hc
theorem eff_mks {sz bytes : Nat} {zero : List A1} {n : AX} (h : Rel F w0 G s a w) (hc : effChk P o.op (.mks sz bytes zero n) = true) (hv : effOp s d (.mks sz bytes zero n) = some (sv, s')) : Done P F w0 o a w sv s' := by
  cases ho : o.op with
  | makeSlice t l c =>
    rw [ho] at hc
    simp only [effChk, Bool.and_eq_true, beq_iff_eq, decide_eq_true_eq] at hc
    obtain ⟨⟨⟨⟨ht, rfl⟩, hsz⟩, h1⟩, h2⟩ := hc
    obtain ⟨dd, hd, hdb⟩ := tyB_spec ht
    cases dd <;> simp at hdb
    rename_i e
    obtain ⟨hze, hby⟩ := hdb
    obtain ⟨i, z, hi, hz, hzr, hzl⟩ := zeroB_spec hze
    rw [hi] at hby
    simp only [beq_iff_eq] at hby
    simp only [effOp] at hv
    split at hv
    · rename_i k hk
      split at hv
      · rename_i hb
        split at hv
        · rename_i cs m2 ts hcs
          have hrel := zerosB_rel (G := G) (s := s) (w := w) hzr
          have hzsz : z.cells.size = zero.length := by have := hrel.1; simpa using this.symm
          have hreps := reps_rel hrel k.toNat
          obtain ⟨fp, q1, q2, q3, q4, q5⟩ := toCells_rel h.inv hreps (fun _ _ hh => hh) hcs
          have hcl : cs.length = k.toNat * zero.length := by
            have e1 := q1.len
            simp at e1
            omega
          have hk48 : k ≤ 281474976710656 := by
            have : (1 : Int) * k ≤ bytes * k := Int.mul_le_mul_of_nonneg_right (by omega) hb.1
            omega
          obtain ⟨G', r1, r2⟩ := newRowSt_ok (c := k.toNat) h hv (pushed_push w ((Array.range (k.toNat * zero.length)).map (z.cells[· % z.cells.size]!)) e) hsz.1 q1 q2 q3 q5 (fun j x hx => by rwa [Array.getElem?_toList] at hx) (Nat.le_refl _) (by omega) (by simp) (by omega)
          obtain ⟨j1, e1⟩ := eval_num h h1 hk
          obtain ⟨j2, e2⟩ := eval_num h h2 hk
          refine ⟨_, _, _, G', ?_, .inl rfl, r1, r2⟩
          have hsize : (sizeOf e).run P w = .ok zero.length w := by simp [sizeOf, typeInfo, hi, hzl]
          have hzero : (zeroValue e).run P w = .ok z w := by simp [zeroValue, typeInfo, hi, hz]
          have hwrap : IntKind.i64.wrap k = k := by
            rw [IntKind.wrap_i64]
            omega
          have htl : (typeInfo e).run P w = .ok i w := by simp [typeInfo, hi]
          have hlarge : (decide (k < 0) || decide ((i.bytes : Int) * k > 2 ^ 48)) = false := by
            rw [hby]
            simp
            omega
          simp only [execOp, ho, Instr.makeSlice, Sem.run_bind, run_underlying hd, Result.andThen_ok, e1, e2, asInt, asIntOf, Sem.run_pure, hwrap, htl]
          rw [if_neg (by simp [hby]; omega)]
          simp only [Sem.run_bind, run_askRoom, Result.andThen_ok, hsize]
          by_cases h0 : k.toNat * zero.length = 0
          · rw [if_pos h0]
            simp only [Sem.run_bind, Sem.run_pure, Result.andThen_ok, newRow, run_newObj]
            rw [h0, show Array.range 0 = #[] from rfl]
            simp
          · rw [if_neg h0]
            simp only [Sem.run_bind, hzero, Sem.run_pure, Result.andThen_ok, newRow, run_newObj]
        · cases hv
      · cases hv
    · cases hv
  | _ => rw [ho] at hc; simp [effChk] at hc
theorem scalar_flat {as_ : List A1} {m1 m2 : Mem} {cs : List Cell} {ts : List Nat} (ha : as_.all A1.scalar = true) : toCells m1 as_ = some (cs, m2, ts) → ts = [] ∧ ∀ c ∈ cs, c.flat = true := by
  induction as_ generalizing cs ts m2 with
  | nil => intro h; simp only [toCells, Option.some.injEq, Prod.mk.injEq] at h; obtain ⟨rfl, rfl, rfl⟩ := h; simp
  | cons x r ih =>
    simp only [List.all_cons, Bool.and_eq_true] at ha
    intro h
    have key : ∀ c, toCell m1 x = some (c, none) → c.flat = true → ts = [] ∧ ∀ c ∈ cs, c.flat = true := by
      intro c hc hf
      simp only [toCells, hc] at h
      obtain ⟨⟨cs', m', ts'⟩, hr, he⟩ := Option.map_eq_some_iff.1 h
      simp only [Prod.mk.injEq] at he
      obtain ⟨rfl, rfl, rfl⟩ := he
      obtain ⟨k1, k2⟩ := ih ha.2 hr
      refine ⟨k1, fun c' hc' => ?_⟩
      simp only [List.mem_cons] at hc'
      rcases hc' with rfl | hc'
      · exact hf
      · exact k2 c' hc'
    cases x with
    | int k n => exact key _ rfl rfl
    | bool b => exact key _ rfl rfl
    | str b => exact key _ rfl rfl
    | _ => simp [A1.scalar] at ha
theorem mem_id_rest (m : Mem) : (mapMem id fun k => if k ∈ ([] : List Nat) then none else m k) = m := by
  rw [mapMem_id]; simp
theorem slots_id (l : List SV) : l.map (SV.map id) = l := by
  rw [show SV.map id = id from funext SV.map_id]; simp
/-- A store into a row, carried out. -/
theorem stoRow_ok (h : Rel F w0 G s a w) {t off : Nat} {p : List Nat} {as_ : List A1} {vs : List Value} {A : Addr} (hat : At G s.mem w t p off (some A)) (hr : All2 (A1Rel G s.mem w) as_ vs) (hv : stoRow s t p off as_ = some s') :
    ∃ w' G', (storeCells A vs).run P w = .ok () w' ∧ Rel F w0 G' s' a w' := by
  unfold stoRow at hv
  split at hv
  · rename_i z cs hm
    split at hv
    · rename_i ns hns
      split at hv
      · rename_i hlen
        split at hv
        · rename_i ncs m2 ts hcs
          split at hv
          · cases hv
          · rename_i htt
            have hne : ns ≠ [] := by rintro rfl; simp at hlen; obtain ⟨⟨_, hh⟩, hh2⟩ := hlen; rw [hh] at hh2; simp at hh2
            obtain ⟨z', q, hz, hn⟩ := hat
            rw [hm] at hz
            cases hz
            obtain ⟨g, oo, hl, e1⟩ := hn ns hns (.inl hne)
            cases e1
            obtain ⟨hsz, vs0, fp0, k1, k2, k3⟩ := h.inv.ob _ _ hm
            obtain ⟨g', o', vs', fp', hl2, kb, kh, _⟩ := locate_holds k1 k2 hns (.inl hne)
            rw [hl] at hl2
            cases hl2
            obtain ⟨f1, q1, q2, q3, q4, q5⟩ := toCells_rel h.inv hr (fun _ _ hh => hh) hcs
            obtain ⟨arr, e, fr, z1, z2, z3⟩ := kb
            have z2' := z2 rfl
            subst z2'
            have hvl := kh.len
            have hnl := q1.len
            have hal := hr.1
            have hend : oo + off + vs.length ≤ arr.size := by
              have hx : vs'[off + vs.length - 1]? = some (vs'[off + vs.length - 1]'(by omega)) := by simp
              have := z3 _ _ hx
              have := (Array.getElem?_eq_some_iff.1 this).1
              omega
            obtain ⟨w', hrun, hwr⟩ := storeCells_wr (P := P) (g := g) (k := oo + off) (vs := vs) z1 hend (fun v hv => by
              obtain ⟨i, hi⟩ := List.getElem?_of_mem hv
              have hlt := (List.getElem?_eq_some_iff.1 hi).1
              exact (hr.2 i _ v (show as_[i]? = some (as_[i]'(by omega)) by simp) hi).one)
            split at hv
            · rename_i hsc
              cases hv
              obtain ⟨rfl, hfl⟩ := scalar_flat hsc hcs
              obtain ⟨G', r1, _⟩ := h.store (fx := id) hm hns hne (by omega) hl hwr q1 q2 q3 q5 htt (fun x => .inr ⟨rfl, by simp, .inr hfl⟩)
              rw [slots_id, slots_id, mem_id_rest] at r1
              exact ⟨w', G', hrun, r1⟩
            · cases hv
              have hk : ncs.length = as_.length := by omega
              obtain ⟨G', r1, _⟩ := h.store (fx := fun x => kill ts (cutoff t p off as_.length x)) hm hns hne (by omega) hl hwr q1 q2 q3 q5 htt (fun x => by
                rcases cutoff_cases t p off as_.length x with e | ⟨e, hvia⟩
                · left; simp only [e]; rfl
                · simp only [e]
                  rcases kill_cases ts x with e2 | ⟨e2, hids⟩
                  · exact .inl e2
                  · exact .inr ⟨e2, hids, .inl (by rw [hk]; exact hvia)⟩)
              exact ⟨w', G', hrun, r1⟩
        · cases hv
      · cases hv
    · cases hv
  · cases hv
theorem eff_sto {sz : Nat} {x v : AX} (h : Rel F w0 G s a w) (hc : effChk P o.op (.sto sz x v) = true) (hv : effOp s d (.sto sz x v) = some (sv, s')) : Done P F w0 o a w sv s' := by
  cases ho : o.op with
  | store t x' v' =>
    rw [ho] at hc
    simp only [effChk, Bool.and_eq_true] at hc
    obtain ⟨⟨hs, h1⟩, h2⟩ := hc
    simp only [effOp] at hv
    split at hv
    · rename_i t' p off ag as_ hx hu
      split at hv
      · rename_i hlen
        have hr := VRel.cells (eval_get h h2 hu)
        obtain ⟨A, hA, hat⟩ := eval_one h h1 hx
        have hcs : (a.eval v').cells.size = sz := by have := hr.1; simp at this; omega
        have fin : ∀ w' G' s2, (storeCells A (a.eval v').cells.toList).run P w = .ok () w' → Rel F w0 G' s2 a w' → Done P F w0 o a w .bad s2 := by
          intro w' G' s2 hrun hrel
          refine ⟨.skip, undef, w', G', ?_, .inr ⟨rfl, rfl⟩, hrel, trivial⟩
          simp only [execOp, ho, Instr.storeAt, Instr.sureAddr, hA, storeVar, Sem.run_bind, Sem.run_pure, Result.andThen_ok, run_sizeOf hs]
          rw [if_neg (by simp [hcs])]
          simp only [hrun, Result.andThen_ok]
        split at hv
        · rename_i bs hm
          split at hv <;> cases hv
          rename_i hb
          rcases hat with ⟨z, q, hz, _⟩ | ⟨as2, hz, _, rfl⟩
          · rw [hm] at hz; cases hz
          · obtain ⟨vs, arr, e, k1, k2, k3, k4⟩ := h.inv.ob _ _ hm
            have hal : arr.size = bs.length := by rw [k2]; have := k3.1; simpa using this.symm
            obtain ⟨w', hrun, hwr⟩ := storeCells_wr (P := P) (g := G.b t') (k := off) (vs := (a.eval v').cells.toList) k1 (by simp; omega) (fun v hv => by
              obtain ⟨i, hi⟩ := List.getElem?_of_mem hv
              have hlt := (List.getElem?_eq_some_iff.1 hi).1
              exact (hr.2 i _ v (show as_[i]? = some (as_[i]'(by have := hr.1; omega)) by simp) hi).one)
            exact fin w' G _ hrun (h.storeBox hm (by omega) hwr hr).1
        · rename_i hnb
          obtain ⟨s2, hs2, he⟩ := Option.map_eq_some_iff.1 hv
          cases he
          rcases hat with hat | ⟨as2, hz, _⟩
          · obtain ⟨w', G', hrun, hrel⟩ := stoRow_ok (P := P) h hat hr hs2
            exact fin w' G' _ hrun hrel
          · exact absurd hz (hnb as2)
      · cases hv
    · cases hv
  | _ => rw [ho] at hc; simp [effChk] at hc
end
end Go.Proofs.YtbdokibepndibaaGreat.Eng
