/- An interpreter of the model's code over tagged trees, sixth part: reading memory, building values. -/
import Derived.Test.YtbdokibepndibaaGreatEng5
namespace Go.Proofs.YtbdokibepndibaaGreat.Eng
open Go.RowKit

theorem cellsAt_snoc {i : Nat} : ∀ {p : List Nat} {cs : List Cell} {ns : List Cell}, cellsAt cs p = some ns →
    cellsAt cs (p ++ [i]) = (match ns[i]? with | some (.sl _ ms) => some ms | _ => none) := by
  intro p
  induction p with
  | nil =>
    intro cs ns h
    cases h
    simp only [List.nil_append, cellsAt]
    cases cs[i]? with
    | none => rfl
    | some c => cases c <;> rfl
  | cons j p ih =>
    intro cs ns h
    simp only [List.cons_append, cellsAt] at h ⊢
    cases hj : cs[j]? with
    | none => rw [hj] at h; cases h
    | some c =>
      rw [hj] at h
      cases c with
      | sl n ms => exact ih h
      | _ => cases h
theorem locate_snoc {w : World} {i : Nat} : ∀ {p : List Nat} {g o g1 o1 : Nat}, locate w g o p = some (g1, o1) →
    locate w g o (p ++ [i]) = (match w.cell? ⟨g1, o1 + i, none⟩ with | some (.slice (some a) _ _) => some (a.block, a.off) | _ => none) := by
  intro p
  induction p with
  | nil =>
    intro g o g1 o1 h
    cases h
    simp only [List.nil_append, locate]
    cases w.cell? ⟨g, o + i, none⟩ with
    | none => rfl
    | some v =>
      cases v with
      | slice A n c => cases A <;> rfl
      | _ => rfl
  | cons j p ih =>
    intro g o g1 o1 h
    simp only [List.cons_append, locate] at h ⊢
    cases hj : w.cell? ⟨g, o + j, none⟩ with
    | none => rw [hj] at h; cases h
    | some v =>
      rw [hj] at h
      cases v with
      | slice A n c =>
        cases A with
        | none => cases h
        | some a => exact ih h
      | _ => cases h

section
variable {P : Program} {F : Own} {w0 : World} {G : Gh} {s : St} {a : Act} {w : World} {sv : SV} {o : Oper} {m : Mem}
theorem cell_own {t : Nat} {p : List Nat} {sz : Nat} {cs ns : List Cell} {vs : List Value} {fp : List Nat} {g q i : Nat} {c : Cell} (hm : m t = some (.row sz cs)) (hc : cellsAt cs p = some ns)
    (hl : locate w (G.b t) (G.o t) p = some (g, q)) (hb : Blk true w g q vs) (hh : HoldsL true w ns vs fp) (hi : ns[i]? = some c) : ∃ v, vs[i]? = some v ∧ A1Rel G m w (fromOwn t p i c) v := by
  obtain ⟨v, f1, fA, fB, hv, h1, _, _, _⟩ := hh.at_ hi
  refine ⟨v, hv, ?_⟩
  cases h1 with
  | int => rfl
  | bool => rfl
  | str => rfl
  | @sl0 A c' n _ _ _ hn _ =>
    refine ⟨A, c', rfl, hn, ⟨sz, cs, hm, fun hp => by simp at hp⟩, .inr ⟨sz, cs, hm, fun ms hms hne => ?_⟩, fun hp => by simp at hp⟩
    rw [cellsAt_snoc hc, hi] at hms
    cases hms
    simp at hne
  | @sl g' o' c' n ms xs fq _ _ _ hne hn hb' hh' _ =>
    refine ⟨_, c', rfl, ⟨hn, fun h => by cases h⟩, ⟨sz, cs, hm, fun hp => by simp at hp⟩, .inr ⟨sz, cs, hm, fun ms' hms _ => ?_⟩, fun hp => by simp at hp⟩
    refine ⟨g', o', ?_, by simp⟩
    rw [locate_snoc hl, hb.cell hv]
theorem cell_ro {cs : List Cell} {vs : List Value} {fp : List Nat} {i : Nat} {c : Cell} (hh : HoldsL false w cs vs fp) (hr : ∀ x ∈ fp, G.R x) (hi : cs[i]? = some c) : ∃ v, vs[i]? = some v ∧ A1Rel G m w (fromRo c) v := by
  obtain ⟨v, f1, fA, fB, hv, h1, hfp, _, _⟩ := hh.at_ hi
  refine ⟨v, hv, ?_⟩
  cases h1 with
  | int => rfl
  | bool => rfl
  | str => rfl
  | @sl0 A c' n _ _ _ hn _ => exact ⟨A, c', rfl, hn, .inl rfl⟩
  | @sl g' o' c' n ms xs fq _ _ _ hne hn hb' hh' h2 =>
    cases h2
    refine ⟨_, c', rfl, ⟨hn, fun h => by cases h⟩, .inr ⟨g', o', xs, fq, rfl, hb', hh', fun x hx => hr x ?_⟩⟩
    rw [hfp]
    simp only [List.mem_cons, List.mem_append, List.append_nil] at hx ⊢
    rcases hx with rfl | hx
    · simp
    · simp [hx]
theorem readOwn_rel {t : Nat} {p : List Nat} {sz : Nat} {cs ns : List Cell} {vs : List Value} {fp : List Nat} {g q : Nat} (hm : m t = some (.row sz cs)) (hc : cellsAt cs p = some ns)
    (hl : locate w (G.b t) (G.o t) p = some (g, q)) (hb : Blk true w g q vs) (hh : HoldsL true w ns vs fp) : ∀ {k off : Nat} {as_ : List A1}, readOwn t p ns off k = some as_ →
      All2 (A1Rel G m w) as_ ((vs.drop off).take k) ∧ as_.length = k := by
  intro k
  induction k with
  | zero => intro off as_ h; simp only [readOwn, Option.some.injEq] at h; subst h; exact ⟨by simpa using All2.nil, rfl⟩
  | succ k ih =>
    intro off as_ h
    simp only [readOwn] at h
    cases hi : ns[off]? with
    | none => rw [hi] at h; cases h
    | some c =>
      rw [hi] at h
      obtain ⟨r, hr, rfl⟩ := Option.map_eq_some_iff.1 h
      obtain ⟨v, hv, hrel⟩ := cell_own (G := G) hm hc hl hb hh hi
      obtain ⟨k1, k2⟩ := ih hr
      have hlt := (List.getElem?_eq_some_iff.1 hv).1
      have e : (vs.drop off).take (k + 1) = v :: (vs.drop (off + 1)).take k := by
        rw [List.drop_eq_getElem_cons hlt, List.take_succ_cons]
        congr 1
        exact (List.getElem?_eq_some_iff.1 hv).2
      rw [e]
      exact ⟨All2.cons hrel k1, by simp [k2]⟩
/-- A load, out of cells that are known. -/
theorem load_run {t : TypeId} {sz : Nat} {ag : Bool} (hf : formB P t sz ag = true) {g q : Nat} {vs : List Value} (hv : ∀ j x, vs[j]? = some x → w.cell? ⟨g, q + j, none⟩ = some x) {as_ : List A1}
    (hr : All2 (A1Rel G m w) as_ vs) (hl : as_.length = sz) : ∃ v, (loadVar t ⟨g, q, none⟩).run P w = .ok v w ∧ VRel G m w ag as_ v := by
  simp only [formB, Bool.and_eq_true] at hf
  obtain ⟨⟨ha, hs⟩, hag⟩ := hf
  cases ag with
  | true =>
    refine ⟨.agg vs.toArray, ?_, vs, rfl, hr⟩
    simp only [loadVar, Sem.run_bind, run_isAgg ha, Result.andThen_ok, if_true, run_sizeOf hs]
    have hl2 : vs.length = sz := by rw [← hr.1, hl]
    rw [← hl2, run_loadCells_list w ⟨g, q, none⟩ vs (fun j v hj => by rw [add_ad]; exact hv j v hj)]
    rfl
  | false =>
    have e1 : sz = 1 := by simpa using hag
    rw [e1] at hl
    obtain ⟨x, rfl⟩ : ∃ x, as_ = [x] := by
      match as_, hl with
      | [x], _ => exact ⟨x, rfl⟩
    obtain ⟨v, hv1, hv2⟩ := hr.nth (i := 0) (a := x) rfl
    refine ⟨v, ?_, x, rfl, hv2⟩
    have := hv 0 v hv1
    simp only [loadVar, Sem.run_bind, run_isAgg ha, Result.andThen_ok]
    simp [show w.cell? ⟨g, q, none⟩ = some v from this]
theorem ok_ld {sz : Nat} {ag : Bool} {x : AX} (h : Rel F w0 G s a w) (hc : pureChk P o.op (.ld sz ag x) = true) (hv : pureOp s (.ld sz ag x) = some sv) :
    ∃ v, (execOp a.eval o).run P w = .ok (.value v) w ∧ SRel G s.mem w sv v := by
  cases ho : o.op with
  | load t x' =>
    rw [ho] at hc
    simp only [pureChk, Bool.and_eq_true] at hc
    obtain ⟨hf, h1⟩ := hc
    have hrun : ∀ A, a.eval x' = .pointer (some A) → (execOp a.eval o).run P w = ((loadVar t A).run P w).andThen fun v w => .ok (.value v) w := by
      intro A hA
      simp [execOp, ho, Instr.loadAt, Instr.sureAddr, hA]
    have fin : ∀ (A : Addr) (as_ : List A1), a.eval x' = .pointer (some A) → (∃ v, (loadVar t A).run P w = .ok v w ∧ VRel G s.mem w ag as_ v) →
        ∃ v, (execOp a.eval o).run P w = .ok (.value v) w ∧ SRel G s.mem w (.v ag as_) v := by
      rintro A as_ hA ⟨v, hv1, hv2⟩
      exact ⟨v, by rw [hrun A hA, hv1]; rfl, hv2⟩
    simp only [pureOp] at hv
    split at hv
    · rename_i t' p off hx
      obtain ⟨A, hA, hat⟩ := eval_one h h1 hx
      split at hv
      · rename_i sz' cs hm
        split at hv
        · rename_i ns hns
          obtain ⟨as_, has, rfl⟩ := Option.map_eq_some_iff.1 hv
          have hob := h.inv.ob _ _ hm
          obtain ⟨hp, vs0, fp0, k1, k2, k3⟩ := hob
          by_cases hz : sz = 0
          · subst hz
            simp only [readOwn, Option.some.injEq] at has
            subst has
            refine fin A [] hA ?_
            obtain ⟨g, q, sp⟩ := A
            simp only [formB, Bool.and_eq_true] at hf
            obtain ⟨⟨ha, hs⟩, hag⟩ := hf
            cases ag with
            | false => simp at hag
            | true =>
              refine ⟨.agg #[], ?_, [], rfl, All2.nil⟩
              simp [loadVar, run_isAgg ha, run_sizeOf hs, loadCells, loadCellsFrom]
          · have hne : ns ≠ [] := by
              rintro rfl
              obtain ⟨k, rfl⟩ : ∃ k, sz = k + 1 := ⟨sz - 1, by omega⟩
              simp [readOwn] at has
            rcases hat with ⟨z, q, hz', hat⟩ | ⟨as', hz', _, _⟩
            · rw [hm] at hz'
              cases hz'
              obtain ⟨g, oo, hl1, e1⟩ := hat ns hns (.inl hne)
              cases e1
              obtain ⟨g', o', vs', fp', hl2, kb, kh, _⟩ := locate_holds k1 k2 hns (.inl hne)
              rw [hl1] at hl2
              cases hl2
              obtain ⟨r1, r2⟩ := readOwn_rel (G := G) hm hns hl1 kb kh has
              refine fin _ as_ hA (load_run hf (vs := (vs'.drop off).take sz) ?_ r1 r2)
              intro j v hj
              rw [List.getElem?_take] at hj
              split at hj
              · rw [List.getElem?_drop] at hj
                rw [Nat.add_assoc]
                exact kb.cell hj
              · cases hj
            · rw [hm] at hz'; cases hz'
        · cases hv
      · rename_i as' hm
        split at hv <;> cases hv
        rename_i hlen
        obtain ⟨vs, arr, e, k1, k2, k3, k4⟩ := h.inv.ob _ _ hm
        rcases hat with ⟨z, q, hz', hat⟩ | ⟨as2, hz', _, rfl⟩
        · rw [hm] at hz'; cases hz'
        · have hl3 := k3.1
          refine fin _ _ hA (load_run hf (vs := (vs.drop off).take sz) ?_ ((k3.drop off).take sz) (by simp; omega))
          intro j v hj
          rw [List.getElem?_take] at hj
          split at hj
          · rw [List.getElem?_drop] at hj
            simp [World.cell?, k1, k2, hj]
          · cases hj
      · cases hv
    · rename_i cs hx
      obtain ⟨A, hA, hro⟩ := eval_one h h1 hx
      split at hv <;> cases hv
      rename_i hlen
      rcases hro with rfl | ⟨g, q, vs, fp, e1, kb, kh, kr⟩
      · obtain rfl : sz = 0 := by simpa using hlen
        refine fin A _ hA ?_
        simp only [formB, Bool.and_eq_true] at hf
        obtain ⟨⟨ha, hs⟩, hag⟩ := hf
        cases ag with
        | false => simp at hag
        | true =>
          refine ⟨.agg #[], ?_, [], rfl, by simpa using All2.nil⟩
          simp [loadVar, run_isAgg ha, run_sizeOf hs, loadCells, loadCellsFrom]
      · cases e1
        have hl := kh.len
        refine fin _ _ hA (load_run hf (vs := vs.take sz) ?_ ?_ (by simp; omega))
        · intro j v hj
          rw [List.getElem?_take] at hj
          split at hj
          · exact kb.cell hj
          · cases hj
        · refine ⟨by simp; omega, fun i x y hx hy => ?_⟩
          rw [List.getElem?_map] at hx
          cases hc : (cs.take sz)[i]? with
          | none => rw [hc] at hx; cases hx
          | some c =>
            rw [hc] at hx
            cases hx
            rw [List.getElem?_take] at hc hy
            split at hc
            · rename_i hi
              rw [if_pos hi] at hy
              obtain ⟨v, hv1, hv2⟩ := cell_ro (G := G) (m := s.mem) kh (fun x hx => kr x (by simp [hx])) hc
              rw [hy] at hv1
              cases hv1
              exact hv2
            · cases hc
    · cases hv
  | _ => rw [ho] at hc; simp [pureChk] at hc
theorem src_rel (h : Rel F w0 G s a w) {x : A1} {v : Value} {sz n : Nat} {cs : List Cell} (hx : A1Rel G s.mem w x v) (hs : srcCells s.mem sz x = some (n, cs)) :
    ∃ A c vs fp, v = .slice A n c ∧ n ≤ c ∧ (A = none → c = 0) ∧ cs.length = n * sz ∧ HoldsL false w cs vs fp ∧ (cs ≠ [] → ∃ g q, A = some ⟨g, q, none⟩ ∧ Blk false w g q vs) := by
  cases x with
  | nil =>
    simp only [srcCells, Option.some.injEq, Prod.mk.injEq] at hs
    obtain ⟨rfl, rfl⟩ := hs
    obtain ⟨A, rfl⟩ := hx
    exact ⟨A, 0, [], [], rfl, Nat.le_refl _, fun _ => rfl, by simp, .nil, fun h => absurd rfl h⟩
  | ro k ds =>
    obtain ⟨A, c, rfl, hn, hro⟩ := hx
    simp only [srcCells] at hs
    split at hs <;> cases hs
    rename_i hk
    rcases hro with rfl | ⟨g, q, vs, fp, rfl, kb, kh, kr⟩
    · exact ⟨A, c, [], [], rfl, hn.1, hn.2, by simp at hk ⊢; exact hk.symm, by simpa using HoldsL.nil, fun h => absurd (by simp) h⟩
    · obtain ⟨f', h', _⟩ := kh.take (n * sz)
      exact ⟨_, c, _, f', rfl, hn.1, hn.2, by simp; omega, h', fun _ => ⟨g, q, rfl, kb.take _⟩⟩
  | rx k ds =>
    obtain ⟨A, rfl, hn, hro⟩ := hx
    simp only [srcCells] at hs
    split at hs <;> cases hs
    rename_i hk
    rcases hro with rfl | ⟨g, q, vs, fp, rfl, kb, kh, kr⟩
    · exact ⟨A, _, [], [], rfl, Nat.le_refl _, hn, by simp at hk ⊢; exact hk.symm, by simpa using HoldsL.nil, fun h => absurd (by simp) h⟩
    · obtain ⟨f', h', _⟩ := kh.take (n * sz)
      exact ⟨_, _, _, f', rfl, Nat.le_refl _, hn, by simp; omega, h', fun _ => ⟨g, q, rfl, kb.take _⟩⟩
  | sl t p off k =>
    obtain ⟨A, c, rfl, hn, ⟨sz0, cs0, hm, hcov⟩, hat, hbl⟩ := hx
    simp only [srcCells, hm] at hs
    split at hs
    · rename_i ns hns
      split at hs <;> cases hs
      rename_i hk
      obtain ⟨hp, vs0, fp0, k1, k2, k3⟩ := h.inv.ob _ _ hm
      by_cases he : (ns.drop off).take (n * sz) = []
      · have hl : ((ns.drop off).take (n * sz)).length = 0 := by rw [he]; rfl
        simp at hl
        exact ⟨A, c, [], [], rfl, hn.1, hn.2, by simp; omega, by rw [he]; exact .nil, fun h => absurd he h⟩
      · have hne : ns ≠ [] := by rintro rfl; simp at he
        have hc0 : c ≠ 0 := by
          rintro rfl
          have : n = 0 := by omega
          subst this
          simp at he
        rcases hat with hat | ⟨z, q, hz, hat⟩
        · exact absurd hat hc0
        · rw [hm] at hz
          cases hz
          obtain ⟨g, oo, hl1, rfl⟩ := hat ns hns (.inl hne)
          obtain ⟨g', o', vs', fp', hl2, kb, kh, _⟩ := locate_holds k1 k2 hns (.inl hne)
          rw [hl1] at hl2
          cases hl2
          obtain ⟨f1, d1, _⟩ := kh.drop off
          obtain ⟨f2, d2, _⟩ := d1.take (n * sz)
          exact ⟨_, c, _, f2, rfl, hn.1, hn.2, by simp; omega, d2.ro, fun _ => ⟨g, oo + off, rfl, ((kb.drop off).take _).ro⟩⟩
    · cases hs
  | _ => simp [srcCells] at hs
theorem nums_vals {cs : List Cell} {vs : List Value} {fp : List Nat} {own : Bool} (h : HoldsL own w cs vs fp) : ∀ {xs : List Int}, numsOfCells cs = some xs → vs = xs.map (Value.int .u8) := by
  induction h with
  | nil => intro xs h; simp only [numsOfCells, Option.some.injEq] at h; subst h; rfl
  | @int k n _ _ _ _ ih =>
    intro xs h
    cases k <;> simp only [numsOfCells] at h <;> (try cases h)
    obtain ⟨r, hr, rfl⟩ := Option.map_eq_some_iff.1 h
    rw [ih hr]; rfl
  | _ => intro xs h; simp [numsOfCells] at h
theorem src_load {n sz : Nat} {cs : List Cell} {vs : List Value} {fp : List Nat} {A : Option Addr} (hh : HoldsL false w cs vs fp) (hb : cs ≠ [] → ∃ g q, A = some ⟨g, q, none⟩ ∧ Blk false w g q vs) (hl : cs.length = n * sz)
    {ad : Addr} (hA : A = some ad) : (loadCells ad (n * sz)).run P w = .ok vs.toArray w := by
  have hvl := hh.len
  by_cases he : cs = []
  · subst he
    obtain rfl : vs = [] := List.eq_nil_of_length_eq_zero (by simpa using hvl)
    have : n * sz = 0 := by simpa using hl.symm
    rw [this]
    simp [loadCells, loadCellsFrom]
  · obtain ⟨g, q, e1, kb⟩ := hb he
    rw [hA] at e1
    cases e1
    rw [← hl, ← hvl]
    exact run_loadCells_list w _ vs fun j v hj => by rw [add_ad]; exact kb.cell hj
theorem ok_b2s {x : AX} (h : Rel F w0 G s a w) (hc : pureChk P o.op (.b2s x) = true) (hv : pureOp s (.b2s x) = some sv) :
    ∃ v, (execOp a.eval o).run P w = .ok (.value v) w ∧ SRel G s.mem w sv v := by
  cases ho : o.op with
  | convert src dst x' =>
    rw [ho] at hc
    simp only [pureChk, Bool.and_eq_true] at hc
    obtain ⟨⟨hs, hd⟩, h1⟩ := hc
    obtain ⟨d1, ed1, hb1⟩ := tyB_spec hs
    cases d1 <;> simp at hb1
    rename_i e
    obtain ⟨d2, ed2, hb2⟩ := tyB_spec hb1
    cases d2 <;> simp [isIntD] at hb2
    subst hb2
    obtain ⟨d, ed, hdb⟩ := tyB_spec hd
    cases d <;> simp at hdb
    simp only [pureOp] at hv
    split at hv
    · rename_i xa hxa
      split at hv
      · rename_i n cs hsrc
        obtain ⟨l, hl, rfl⟩ := Option.map_eq_some_iff.1 hv
        obtain ⟨A, c, vs, fp, e1, k1, k2, k3, k4, k5⟩ := src_rel h (eval_one h h1 hxa) hsrc
        refine ⟨_, ?_, _, rfl, rfl⟩
        have hvals := nums_vals k4 hl
        have hrun : (Conv.bytesToString (.slice A n c)).run P w = .ok (.string (strOfNums l)) w := by
          cases A with
          | none =>
            have : n = 0 := by have := k2 rfl; omega
            subst this
            have : cs = [] := List.eq_nil_of_length_eq_zero (by simpa using k3)
            subst this
            simp only [numsOfCells, Option.some.injEq] at hl
            subst hl
            rfl
          | some ad =>
            have := src_load (P := P) (n := n) (sz := 1) k4 k5 (by simpa using k3) rfl
            rw [Nat.mul_one, hvals] at this
            rw [run_bytesToString w ad n c l this, foldl_push_bytes]
            simp [strOfNums, ByteArray.empty, ByteArray.emptyWithCapacity]
            rfl
        simp only [execOp, ho, convert, e1, Sem.run_bind, run_underlying ed1, run_underlying ed, run_underlying ed2, Result.andThen_ok, hrun, Sem.run_pure]
      · cases hv
    · cases hv
  | _ => rw [ho] at hc; simp [pureChk] at hc
theorem boxes_rel (h : Rel F w0 G s a w) : ∀ {xs : List Operand} {ys : List AX} {ts : List Nat}, axsB xs ys = true → s.boxes ys = some ts →
    xs.map a.eval = ts.map (fun t => Value.pointer (some ⟨G.b t, 0, none⟩)) ∧ ∀ t ∈ ts, ∃ as_, s.mem t = some (.box as_) := by
  intro xs
  induction xs with
  | nil =>
    intro ys ts hx hb
    cases ys with
    | nil => simp only [St.boxes, Option.some.injEq] at hb; subst hb; exact ⟨rfl, by simp⟩
    | cons _ _ => simp [axsB] at hx
  | cons x xs ih =>
    intro ys ts hx hb
    cases ys with
    | nil => simp [axsB] at hx
    | cons y ys =>
      simp only [axsB, Bool.and_eq_true] at hx
      simp only [St.boxes] at hb
      split at hb
      · rename_i t ht
        obtain ⟨r, hr, rfl⟩ := Option.map_eq_some_iff.1 hb
        obtain ⟨k1, k2⟩ := ih hx.2 hr
        unfold boxOf at ht
        split at ht
        · rename_i t' hone
          split at ht <;> cases ht
          rename_i as_ hm
          obtain ⟨A, hA, hat⟩ := eval_one h hx.1 hone
          rcases hat with ⟨z, q, hz, _⟩ | ⟨_, _, _, rfl⟩
          · rw [hm] at hz; cases hz
          · refine ⟨by rw [List.map_cons, List.map_cons, k1, hA], fun u hu => ?_⟩
            simp only [List.mem_cons] at hu
            rcases hu with rfl | hu
            · exact ⟨_, hm⟩
            · exact k2 u hu
        · cases ht
      · cases hb
theorem ok_mf {f : FuncId} {caps : List AX} (h : Rel F w0 G s a w) (hc : pureChk P o.op (.mf f caps) = true) (hv : pureOp s (.mf f caps) = some sv) :
    ∃ v, (execOp a.eval o).run P w = .ok (.value v) w ∧ SRel G s.mem w sv v := by
  cases ho : o.op with
  | makeFunc fn first cap =>
    rw [ho] at hc
    cases fn with
    | func f' =>
      simp only [pureChk, Bool.and_eq_true, beq_iff_eq] at hc
      obtain ⟨⟨rfl, h1⟩, h2⟩ := hc
      simp only [pureOp] at hv
      obtain ⟨ts, hts, rfl⟩ := Option.map_eq_some_iff.1 hv
      obtain ⟨k1, k2⟩ := boxes_rel h h2 hts
      have hf : first = #[] := by
        rw [← Array.toArray_toList (xs := first), List.isEmpty_iff.1 h1]
      refine ⟨.func (.func f') (first.map a.eval) (cap.map a.eval), by simp only [execOp, ho, Instr.makeFunc, Sem.run_bind, Sem.run_pure, Result.andThen_ok], _, rfl, ?_, k2⟩
      rw [hf, ← k1]
      congr 1
      all_goals (apply Array.ext'; simp)
    | _ => simp [pureChk] at hc
  | _ => rw [ho] at hc; simp [pureChk] at hc
theorem A1Rel.one {x : A1} {v : Value} (h : A1Rel G m w x v) : v.oneCell' = true := by
  cases x with
  | sl t p off n => obtain ⟨A, c, rfl, _⟩ := h; rfl
  | ro n cs => obtain ⟨A, c, rfl, _⟩ := h; rfl
  | pr t p off => obtain ⟨A, rfl, _⟩ := h; rfl
  | pc cs => obtain ⟨A, rfl, _⟩ := h; rfl
  | rx n cs => obtain ⟨A, rfl, _⟩ := h; rfl
  | fn f caps => obtain ⟨rfl, _⟩ := h; rfl
  | bad => exact h
  | nil => obtain ⟨A, rfl⟩ := h; rfl
  | _ => cases h; rfl
theorem one_cells {v : Value} (h : v.oneCell' = true) : v.cells = #[v] := by
  cases v <;> first | rfl | (simp [Value.oneCell'] at h)
theorem VRel.cells {ag : Bool} {as_ : List A1} {v : Value} (h : VRel G m w ag as_ v) : All2 (A1Rel G m w) as_ v.cells.toList := by
  cases ag with
  | false =>
    obtain ⟨x, rfl, hx⟩ := h
    rw [one_cells hx.one]
    exact All2.cons hx All2.nil
  | true =>
    obtain ⟨vs, rfl, hx⟩ := h
    exact hx
theorem fold_set : ∀ (xs : List Value) (k off : Nat) (cs : Array Value), off + k + xs.length ≤ cs.size →
    ((xs.zipIdx k).foldl (fun (cs : Array Value) (p : Value × Nat) => cs.setIfInBounds (off + p.2) p.1) cs).toList = cs.toList.take (off + k) ++ xs ++ cs.toList.drop (off + k + xs.length) := by
  intro xs
  induction xs with
  | nil => intro k off cs h; simp
  | cons x xs ih =>
    intro k off cs h
    simp only [List.length_cons] at h
    rw [List.zipIdx_cons, List.foldl_cons, ih (k + 1) off _ (by simp; omega)]
    have hlt : off + k < cs.toList.length := by simp; omega
    simp only [Array.toList_setIfInBounds]
    have e1 : (cs.toList.set (off + k) x).take (off + (k + 1)) = cs.toList.take (off + k) ++ [x] := by
      rw [show off + (k + 1) = off + k + 1 by omega, ← List.take_append_getElem (by simpa using hlt)]
      simp [List.take_set_of_le]
    have e2 : (cs.toList.set (off + k) x).drop (off + (k + 1) + xs.length) = cs.toList.drop (off + k + (xs.length + 1)) := by
      rw [List.drop_set_of_lt (by omega)]
      congr 1
      omega
    rw [e1, e2]
    simp
/-- Parts laid over cells, as the model lays them and as the interpreter does. -/
theorem fill_rel {place : Nat → Option (Nat × Nat)} : ∀ {xs : List (Nat × Value)} {ps : List (Nat × List A1)} {zs : List A1} {cs : Array Value},
    All2 (fun (x : Nat × Value) (p : Nat × List A1) => (∃ sz, place x.1 = some (p.1, sz) ∧ p.2.length = sz) ∧ All2 (A1Rel G m w) p.2 x.2.cells.toList) xs ps →
    All2 (A1Rel G m w) zs cs.toList → (fillA zs ps).length = zs.length → (∀ p ∈ ps, p.1 + p.2.length ≤ zs.length) →
    ∃ cs', Instr.fill place cs xs = some cs' ∧ All2 (A1Rel G m w) (fillA zs ps) cs'.toList := by
  intro xs
  induction xs with
  | nil =>
    intro ps zs cs h hz _ _
    have : ps = [] := List.eq_nil_of_length_eq_zero h.1.symm
    subst this
    exact ⟨cs, rfl, hz⟩
  | cons x xs ih =>
    intro ps zs cs h hz hl hb
    cases ps with
    | nil => simp [All2] at h
    | cons p ps =>
      obtain ⟨i, v⟩ := x
      obtain ⟨off, as_⟩ := p
      obtain ⟨⟨sz, hp, hsz⟩, hr⟩ := h.2 0 _ _ rfl rfl
      have ht : All2 (fun (x : Nat × Value) (p : Nat × List A1) => (∃ sz, place x.1 = some (p.1, sz) ∧ p.2.length = sz) ∧ All2 (A1Rel G m w) p.2 x.2.cells.toList) xs ps :=
        ⟨by have := h.1; simpa using this, fun j a b ha hb => h.2 (j + 1) a b (by simpa using ha) (by simpa using hb)⟩
      have h1 := hb (off, as_) (by simp)
      simp only at h1 hp hsz hr
      have hvl : v.cells.size = as_.length := by rw [hr.1]; simp
      have hzl := hz.1
      simp only [Array.length_toList] at hzl
      have hcs := fold_set v.cells.toList 0 off cs (by simp; omega)
      have hnew : All2 (A1Rel G m w) (zs.take off ++ as_ ++ zs.drop (off + as_.length)) (v.cells.toList.zipIdx.foldl (fun (cs : Array Value) (p : Value × Nat) => cs.setIfInBounds (off + p.2) p.1) cs).toList := by
        rw [hcs]
        have := ((hz.take off).append hr).append (hz.drop (off + as_.length))
        simpa [hvl] using this
      obtain ⟨cs', k1, k2⟩ := ih ht hnew (by simp only [fillA] at hl; rw [hl]; simp; omega) (fun q hq => by
        have := hb q (by simp [hq])
        simp
        omega)
      refine ⟨cs', ?_, by simpa only [fillA] using k2⟩
      simp only [Instr.fill, hp]
      rw [if_neg (by simp; omega)]
      rw [← k1]
      congr 1
      rw [← Array.foldl_toList]
      simp
def zerosB : List Value → List A1 → Bool
  | [], [] => true
  | v :: vs, z :: zs => constB v z && zerosB vs zs
  | _, _ => false
theorem zerosB_rel : ∀ {vs : List Value} {zs : List A1}, zerosB vs zs = true → All2 (A1Rel G s.mem w) zs vs := by
  intro vs
  induction vs with
  | nil => intro zs h; cases zs with
    | nil => exact All2.nil
    | cons _ _ => simp [zerosB] at h
  | cons v vs ih => intro zs h; cases zs with
    | nil => simp [zerosB] at h
    | cons z zs =>
      simp only [zerosB, Bool.and_eq_true] at h
      exact All2.cons (constB_rel h.1) (ih h.2)
def partsB (f : Nat → Option (Nat × Nat)) : List (Nat × Operand) → List (Nat × Nat × AX) → Bool
  | [], [] => true
  | (i, x) :: r, (off, sz, y) :: q => f i == some (off, sz) && axB x y && partsB f r q
  | _, _ => false
theorem parts_rel (h : Rel F w0 G s a w) {f : Nat → Option (Nat × Nat)} : ∀ {xs : List (Nat × Operand)} {qs : List (Nat × Nat × AX)} {ps : List (Nat × List A1)}, partsB f xs qs = true → s.parts qs = some ps →
    All2 (fun (x : Nat × Value) (p : Nat × List A1) => (∃ sz, f x.1 = some (p.1, sz) ∧ p.2.length = sz) ∧ All2 (A1Rel G s.mem w) p.2 x.2.cells.toList) (xs.map fun p => (p.1, a.eval p.2)) ps := by
  intro xs
  induction xs with
  | nil =>
    intro qs ps hp hs
    cases qs with
    | nil => simp only [St.parts, Option.some.injEq] at hs; subst hs; exact All2.nil
    | cons _ _ => simp [partsB] at hp
  | cons x xs ih =>
    intro qs ps hp hs
    obtain ⟨i, x⟩ := x
    cases qs with
    | nil => simp [partsB] at hp
    | cons q qs =>
      obtain ⟨off, sz, y⟩ := q
      simp only [partsB, Bool.and_eq_true, beq_iff_eq] at hp
      simp only [St.parts] at hs
      split at hs
      · rename_i ag as_ hget
        split at hs
        · rename_i hl
          obtain ⟨r, hr, rfl⟩ := Option.map_eq_some_iff.1 hs
          exact All2.cons ⟨⟨sz, hp.1.1, hl⟩, VRel.cells (eval_get h hp.1.2 hget)⟩ (ih hp.2 hr)
        · cases hs
      · cases hs
end
theorem inB_spec {n : Nat} {ps : List (Nat × List A1)} (h : inB n ps = true) : ∀ p ∈ ps, p.1 + p.2.length ≤ n := by
  induction ps with
  | nil => simp
  | cons q ps ih =>
    obtain ⟨off, as_⟩ := q
    simp only [inB, Bool.and_eq_true, decide_eq_true_eq] at h
    intro p hp
    simp only [List.mem_cons] at hp
    rcases hp with rfl | hp
    · exact h.1
    · exact ih h.2 p hp
theorem fillA_length : ∀ {ps : List (Nat × List A1)} {zs : List A1}, inB zs.length ps = true → (fillA zs ps).length = zs.length := by
  intro ps
  induction ps with
  | nil => intro zs _; rfl
  | cons q ps ih =>
    obtain ⟨off, as_⟩ := q
    intro zs h
    simp only [inB, Bool.and_eq_true, decide_eq_true_eq] at h
    have e : (zs.take off ++ as_ ++ zs.drop (off + as_.length)).length = zs.length := by simp; omega
    simp only [fillA]
    rw [ih (by rw [e]; exact h.2), e]
section
variable {P : Program} {F : Own} {w0 : World} {G : Gh} {s : St} {a : Act} {w : World} {sv : SV} {o : Oper} {m : Mem}
/-- A build: the zero value's cells, and where each part lies. -/
def bldChk (P : Program) (t : TypeId) (parts : List (Nat × Operand)) (zero : List A1) (qs : List (Nat × Nat × AX)) : Bool :=
  (match P.info? t with
   | some i => (match i.zero with | some z => zerosB z.cells.toList zero | none => false)
   | none => false) &&
  tyB P t (fun d => match d with
    | .struct fs => (fs.toList.all fun fd => (P.info? fd.type).isSome) && partsB (fun i => (fs[i]?).bind fun fd => (P.info? fd.type).map fun i => (fd.offset, i.size)) parts qs
    | .array _ e => (match P.info? e with | some i => partsB (fun j => some (j * i.size, i.size)) parts qs | none => false)
    | _ => false)
theorem mapM_places {fs : List Field} (h : (fs.all fun fd => (P.info? fd.type).isSome) = true) (w : World) :
    (fs.mapM (fun f => (do pure (f.offset, ← sizeOf f.type) : Sem (Nat × Nat)))).run P w = .ok (fs.map fun fd => (fd.offset, ((P.info? fd.type).map (·.size)).getD 0)) w := by
  induction fs with
  | nil => rfl
  | cons f fs ih =>
    simp only [List.all_cons, Bool.and_eq_true] at h
    obtain ⟨i, hi⟩ := Option.isSome_iff_exists.1 h.1
    have hsz : (sizeOf f.type).run P w = .ok i.size w := by simp [sizeOf, typeInfo, hi]
    simp only [List.mapM_cons, Sem.run_bind, List.map_cons, hsz, Result.andThen_ok, Sem.run_pure, ih h.2, hi, Option.map_some, Option.getD_some]
theorem bld_run (h : Rel F w0 G s a w) {t : TypeId} {parts : Array (Nat × Operand)} {zero : List A1} {qs : List (Nat × Nat × AX)} {ps : List (Nat × List A1)} (hc : bldChk P t parts.toList zero qs = true)
    (hp : s.parts qs = some ps) (hin : inB zero.length ps = true) :
    ∃ cs, (Instr.build t (parts.map fun p => (p.1, a.eval p.2))).run P w = .ok (.agg cs) w ∧ All2 (A1Rel G s.mem w) (fillA zero ps) cs.toList := by
  simp only [bldChk, Bool.and_eq_true] at hc
  obtain ⟨hz, ht⟩ := hc
  obtain ⟨d, hd, hdb⟩ := tyB_spec ht
  cases hi : P.info? t with
  | none => rw [hi] at hz; simp at hz
  | some ti =>
    rw [hi] at hz
    simp only at hz
    cases hzv : ti.zero with
    | none => rw [hzv] at hz; simp at hz
    | some z =>
      rw [hzv] at hz
      simp only at hz
      have hzr : (zeroValue t).run P w = .ok z w := by simp [zeroValue, typeInfo, hi, hzv]
      have hrel := zerosB_rel (G := G) (s := s) (w := w) hz
      have hmap : (parts.map fun p => (p.1, a.eval p.2)).toList = parts.toList.map fun p => (p.1, a.eval p.2) := by simp
      cases d <;> simp only [Bool.and_eq_true] at hdb <;> (try cases hdb)
      · rename_i n e
        cases he : P.info? e with
        | none => rw [he] at hdb; simp at hdb
        | some ei =>
          rw [he] at hdb
          simp only at hdb
          obtain ⟨cs', k1, k2⟩ := fill_rel (parts_rel h hdb hp) hrel (fillA_length hin) (inB_spec hin)
          refine ⟨cs', ?_, k2⟩
          have hsz : (sizeOf e).run P w = .ok ei.size w := by simp [sizeOf, typeInfo, he]
          simp only [Instr.build, Sem.run_bind, hzr, Result.andThen_ok, run_underlying hd, hsz, hmap, k1]
          rfl
      · rename_i fs h1 h2
        obtain ⟨cs', k1, k2⟩ := fill_rel (parts_rel h h2 hp) hrel (fillA_length hin) (inB_spec hin)
        refine ⟨cs', ?_, k2⟩
        have hpl : (fs.mapM (fun f => (do pure (f.offset, ← sizeOf f.type) : Sem (Nat × Nat)))).run P w = .ok (fs.toList.map fun fd => (fd.offset, ((P.info? fd.type).map (·.size)).getD 0)).toArray w := by
          rw [Array.mapM_eq_mapM_toList]
          simp only [Sem.run_map, mapM_places h1, Result.andThen_ok]
        have hpe : (fun (i : Nat) => ((fs.toList.map fun (fd : Field) => (fd.offset, ((P.info? fd.type).map (·.size)).getD 0)).toArray)[i]?) = (fun (i : Nat) => (fs[i]?).bind fun (fd : Field) => (P.info? fd.type).map fun i => (fd.offset, i.size)) := by
          funext i
          cases hf : fs[i]? with
          | none => simp [hf]
          | some fd =>
            have hmem : fd ∈ fs.toList := by
              rw [← Array.getElem?_toList] at hf
              exact List.mem_of_getElem? hf
            have := List.all_eq_true.1 h1 fd hmem
            obtain ⟨ii, hii⟩ := Option.isSome_iff_exists.1 this
            simp [hf, hii]
        simp only [Instr.build, Sem.run_bind, hzr, Result.andThen_ok, run_underlying hd, hpl, hmap, hpe, k1]
        rfl
end
section
variable {P : Program} {F : Own} {w0 : World} {G : Gh} {s : St} {a : Act} {w : World} {sv : SV} {o : Oper}
theorem ok_slz {x : AX} (h : Rel F w0 G s a w) (hc : pureChk P o.op (.slz x) = true) (hv : pureOp s (.slz x) = some sv) :
    ∃ v, (execOp a.eval o).run P w = .ok (.value v) w ∧ SRel G s.mem w sv v := by
  cases ho : o.op with
  | slice t x' lo hi mx =>
    rw [ho] at hc
    simp only [pureChk, Bool.and_eq_true] at hc
    obtain ⟨⟨ht, h1⟩, h2⟩ := hc
    obtain ⟨d, hd, hdb⟩ := tyB_spec ht
    cases d <;> simp at hdb
    rename_i e
    split at h2
    · rename_i h' m'
      simp only [Bool.and_eq_true] at h2
      have e1 : a.eval h' = .int .i64 0 := eval_one (v := .int .i64 0) h h2.1 rfl
      have e2 : a.eval m' = .int .i64 0 := eval_one (v := .int .i64 0) h h2.2 rfl
      obtain ⟨i, hi⟩ : ∃ i, P.info? e = some i := by
        cases hP : P.info? e with
        | none => rw [hP] at hdb; simp at hdb
        | some i => exact ⟨i, rfl⟩
      have key : ∀ A n c, a.eval x' = .slice A n c → (execOp a.eval o).run P w = .ok (.value (.slice A 0 0)) w := by
        intro A n c hx
        have b1 := run_bound (P := P) (w := w) (v := .int .i64 0) (y := c) (c := .slice3Acap) rfl (Int.le_refl _) (by omega)
        have b2 := run_bound (P := P) (w := w) (v := .int .i64 0) (y := 0) (c := .slice3B) rfl (Int.le_refl _) (by omega)
        simp [execOp, ho, Instr.sliceAt, Instr.slice, Instr.sliceBounds, run_underlying hd, hx, e1, e2, b1, b2, sizeOf, typeInfo, hi]
      simp only [pureOp] at hv
      split at hv
      · rename_i hb
        cases hv
        obtain ⟨A, c, hA, _⟩ := eval_one h h1 hb
        exact ⟨_, key _ _ _ hA, _, rfl, A, rfl⟩
      · rename_i hb
        cases hv
        obtain ⟨A, c, hA, _⟩ := eval_one h h1 hb
        exact ⟨_, key _ _ _ hA, _, rfl, A, rfl⟩
      · rename_i hb
        cases hv
        obtain ⟨A, hA⟩ := eval_one h h1 hb
        exact ⟨_, key _ _ _ hA, _, rfl, A, rfl⟩
      · cases hv
    · cases h2
  | _ => rw [ho] at hc; simp [pureChk] at hc
end
end Go.Proofs.YtbdokibepndibaaGreat.Eng
