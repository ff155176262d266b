/- An interpreter of the model's code over tagged trees, thirteenth part: append, copy, clear. -/
import Derived.Test.YtbdokibepndibaaGreatEng12
import Derived.Laws.AppendOwn
namespace Go.Proofs.YtbdokibepndibaaGreat.Eng
open Go.RowKit

def A1.slB : A1 → Bool
  | .nil | .sl _ _ _ _ | .ro _ _ => true
  | _ => false
/-- A row that is full: how many elements, its cells, its name. -/
def oldOf (m : Mem) (sz : Nat) : A1 → Option (Nat × List Cell × List Nat)
  | .nil => some (0, [], [])
  | .sl t [] 0 n =>
    match m t with
    | some (.row z cs) => if z = sz ∧ cs.length = n * sz then some (n, cs, [t]) else none
    | _ => none
  | _ => none
def appSt (s : St) (d sz bytes : Nat) (ax ay : A1) : Option (SV × St) :=
  match srcCells s.mem sz ay with
  | some (m, ycs) =>
    if m = 0 then (if ax.slB = true then some (.v false [ax], s) else none)
    else
      match oldOf s.mem sz ax with
      | some (n, cs, ts) =>
        if (n + m) * bytes ≤ 140737488355328 then
          if ycs.all Cell.flat = true then newRowSt s d sz (n + m) (cs ++ ycs) ts
          else
            match oldOf s.mem sz ay with
            | some (_, cs', [t']) => if t' ∉ ts then newRowSt s d sz (n + m) (cs ++ cs') (t' :: ts) else none
            | _ => none
        else none
      | none => none
  | none => none
def cpySt (s : St) (sz : Nat) (ax ay : A1) : Option (SV × St) :=
  match srcCells s.mem sz ay, ax with
  | some (m, ycs), .sl t p off n =>
    if Nat.min m n = 0 then some (.v false [.int .i64 0], s)
    else if ycs.all Cell.flat = true then (stoRow s t p off ((ycs.take (Nat.min m n * sz)).map fromRo)).map fun s' => (.v false [.int .i64 (Nat.min m n : Nat)], s')
    else none
  | _, _ => none
def clrSt (s : St) (zero : List A1) : A1 → Option (SV × St)
  | .sl t p off n => if n = 0 then some (.tup [], s) else (stoRow s t p off (reps n zero)).map fun s' => (.tup [], s')
  | .nil => some (.tup [], s)
  | _ => none
/-- So many zeros behind a row. -/
def apmSt (s : St) (d sz bytes : Nat) (zero : List A1) (ax : A1) (k : Int) : Option (SV × St) :=
  if 0 ≤ k ∧ k ≤ 140737488355328 then
    if k = 0 then (if ax.slB = true then some (.v false [ax], s) else none)
    else
      match oldOf s.mem sz ax with
      | some (n, cs, ts) =>
        if (n + k.toNat) * bytes ≤ 140737488355328 then
          match toCells (fun _ => none) (reps k.toNat zero) with
          | some (ycs, _, []) => newRowSt s d sz (n + k.toNat) (cs ++ ycs) ts
          | _ => none
        else none
      | none => none
  else none
def effOp2 (s : St) (d : Nat) : AO → Option (SV × St)
  | .apm sz bytes zero x n =>
    match s.one x, s.one n with
    | some ax, some (.int _ k) => apmSt s d sz bytes zero ax k
    | _, _ => none
  | .app sz bytes x y =>
    match s.one x, s.one y with
    | some ax, some ay => appSt s d sz bytes ax ay
    | _, _ => none
  | .apx sz bytes x y =>
    match s.one x, s.one y with
    | some (.rx n cs), some ay =>
      match srcCells s.mem sz ay with
      | some (m, ycs) =>
        if m = 0 then some (.v false [.rx n cs], s)
        else if cs.length = n * sz ∧ n ≠ 0 ∧ (n + m) * bytes ≤ 140737488355328 ∧ cs.all Cell.flat = true ∧ ycs.all Cell.flat = true then newRowSt s d sz (n + m) (cs ++ ycs) []
        else none
      | none => none
    | _, _ => none
  | .cpy sz x y =>
    match s.one x, s.one y with
    | some ax, some ay => cpySt s sz ax ay
    | _, _ => none
  | .clr _ zero x =>
    match s.one x with
    | some ax => clrSt s zero ax
    | _ => none
  | o => effOp s d o
def infoB (P : Program) (e : TypeId) (sz bytes : Nat) : Bool :=
  match P.info? e with
  | some i => i.size == sz && i.bytes == bytes && (match i.zero with | some z => z.cells.size == sz | none => false)
  | none => false
theorem infoB_spec {P : Program} {e : TypeId} {sz bytes : Nat} (h : infoB P e sz bytes = true) : ∃ i z, P.info? e = some i ∧ i.zero = some z ∧ i.size = sz ∧ i.bytes = bytes ∧ z.cells.size = sz := by
  unfold infoB at h
  split at h
  · rename_i i hi
    split at h
    · rename_i z hz
      simp only [Bool.and_eq_true, beq_iff_eq] at h
      exact ⟨i, z, hi, hz, h.1.1, h.1.2, h.2⟩
    · simp at h
  · cases h
def effChk2 (P : Program) : Op → AO → Bool
  | .call c, .app sz bytes x y => (match bCall c with
    | some (.append, [p, q], [t, u]) => t == u && tyB P t (fun d => match d with | .slice e => infoB P e sz bytes | _ => false) && decide (0 < sz ∧ 0 < bytes) && axB p x && axB q y
    | _ => false)
  | .call c, .apx sz bytes x y => (match bCall c with
    | some (.append, [p, q], [t, u]) => t == u && tyB P t (fun d => match d with | .slice e => infoB P e sz bytes | _ => false) && decide (0 < sz ∧ 0 < bytes) && axB p x && axB q y
    | _ => false)
  | .call c, .apm sz bytes zero x y => (match bCall c with
    | some (.append, [p, q], [t, u]) => tyB P t (fun d => match d with | .slice e => infoB P e sz bytes && zeroB P e zero | _ => false) && tyB P u (fun d => match d with | .int _ => true | _ => false) && zero.length == sz && decide (0 < sz ∧ 0 < bytes) && axB p x && axB q y
    | _ => false)
  | .call c, .cpy sz x y => (match bCall c with
    | some (.copy, [p, q], [t, _]) => tyB P t (fun d => match d with | .slice e => sizeB P e sz | _ => false) && decide (0 < sz) && axB p x && axB q y
    | _ => false)
  | .call c, .clr sz zero x => (match bCall c with
    | some (.clear, [p], [t]) => tyB P t (fun d => match d with | .slice e => zeroB P e zero | _ => false) && zero.length == sz && decide (0 < sz) && axB p x
    | _ => false)
  | o, ao => effChk P o ao

section
variable {P : Program} {F : Own} {w0 : World} {G G' : Gh} {s s' : St} {a : Act} {w w' : World} {sv : SV} {o : Oper} {m m' : Mem} {d : Nat}
theorem flat_own {cs : List Cell} {vs : List Value} {fp : List Nat} {own : Bool} (h : HoldsL own w cs vs fp) (hf : cs.all Cell.flat = true) : HoldsL true w cs vs [] := by
  induction h with
  | nil => exact .nil
  | int _ ih => exact .int (ih (by simpa [Cell.flat] using hf))
  | bool _ ih => exact .bool (ih (by simpa [Cell.flat] using hf))
  | str _ ih => exact .str (ih (by simpa [Cell.flat] using hf))
  | sl0 _ _ _ => simp [Cell.flat] at hf
  | sl _ _ _ _ _ _ _ => simp [Cell.flat] at hf
theorem HoldsL.one {own : Bool} {cs : List Cell} {vs : List Value} {fp : List Nat} (h : HoldsL own w cs vs fp) : ∀ v ∈ vs, v.oneCell' = true := by
  induction h with
  | nil => simp
  | _ => simp_all [Value.oneCell']
theorem flat_rel {cs : List Cell} {vs : List Value} {fp : List Nat} {own : Bool} (h : HoldsL own w cs vs fp) (hf : cs.all Cell.flat = true) : All2 (A1Rel G m w) (cs.map fromRo) vs := by
  induction h with
  | nil => exact .nil
  | int _ ih => exact .cons rfl (ih (by simpa [Cell.flat] using hf))
  | bool _ ih => exact .cons rfl (ih (by simpa [Cell.flat] using hf))
  | str _ ih => exact .cons rfl (ih (by simpa [Cell.flat] using hf))
  | sl0 _ _ _ => simp [Cell.flat] at hf
  | sl _ _ _ _ _ _ _ => simp [Cell.flat] at hf
/-- A row that is written on within its block is a row still, under a new name. -/
theorem renewRow_ok (h : Rel F w0 G s a w) {sz n c t k : Nat} {cs ycs : List Cell} {nvs : List Value} {ts fpy : List Nat} (hm : s.mem t = some (.row sz cs)) (hv : newRowSt s d sz k (cs ++ ycs) ts = some (sv, s')) (hcl : cs.length = n * sz)
    (hw : Wr w w' (G.b t) (G.o t + n * sz) nvs) (hy : HoldsL true w ycs nvs fpy) (hnd : fpy.Nodup) (hfp : ∀ y ∈ fpy, ∃ u ∈ ts, u ≠ t ∧ y ∈ G.fp u) (hts : ∀ u ∈ ts, ∃ y, s.mem u = some y) (htt : t ∈ ts)
    (hkc : k ≤ c) (hk : ycs.length + n * sz = k * sz) (har : ∃ arr e fr, w.heap[G.b t]? = some (.cells arr e fr) ∧ G.o t + c * sz ≤ arr.size ∧ c ≤ 9223372036854775807) :
    ∃ G', Rel F w0 G' s' a w' ∧ SRel G' s'.mem w' sv (.slice (some ⟨G.b t, G.o t, none⟩) k c) := by
  unfold newRowSt at hv
  split at hv
  · cases hv
  · rename_i hd
    split at hv
    · rename_i he
      have : ts = [] := by simpa using he
      subst this
      simp at htt
    · cases hv
      obtain ⟨hsz, vs, fp, k1, k2, k3⟩ := h.inv.ob _ _ hm
      have hnt := h.inv.nd _ _ hm
      rw [k3] at hnt
      have hyt : ∀ x ∈ fpy, x ∉ G.b t :: fp := by
        intro x hx hx'
        obtain ⟨u, hu, hut, hxu⟩ := hfp x hx
        obtain ⟨y, hy⟩ := hts u hu
        rw [← k3] at hx'
        exact h.inv.apart t u _ _ hm hy (fun e => hut e.symm) x hx' hxu
      have hdt : t ≠ d := by rintro rfl; rw [hd] at hm; cases hm
      have hvl := k1.len
      have hnl := hy.len
      obtain ⟨ar, ar', e', e2, z1, z2, z3, z4, z5⟩ := hw.row
      have hfr1 : ∀ g ∈ fp, w'.heap[g]? = w.heap[g]? := fun g hg => hw.other g (by rintro rfl; simp at hnt; exact hnt.1 hg)
      have hfr2 : ∀ g ∈ fpy, w'.heap[g]? = w.heap[g]? := fun g hg => hw.other g (by rintro rfl; exact hyt _ hg (by simp))
      have hob : ObRel (G.put d (G.b t) (G.o t) (G.b t :: (fp ++ fpy))) (upd (rest ts s.mem) d (some (.row sz (cs ++ ycs)))) w' d (.row sz (cs ++ ycs)) := by
        refine ⟨hsz, vs ++ nvs, fp ++ fpy, (k1.frame hfr1).append (hy.frame hfr2), ?_, by simp [Gh.put]⟩
        simp only [Gh.put, if_true]
        refine ⟨ar', e2, (0, 0), z2, fun _ => rfl, fun j x hx => ?_⟩
        obtain ⟨arr0, e0, fr0, y1, y2, y3⟩ := k2
        rw [z1] at y1
        cases y1
        by_cases hj : j < vs.length
        · rw [List.getElem?_append_left hj] at hx
          rw [z4 _ (by omega)]
          exact y3 j x hx
        · rw [List.getElem?_append_right (by omega)] at hx
          have := z5 _ x hx
          rw [show G.o t + j = G.o t + n * sz + (j - vs.length) by omega]
          exact this
      have r := h.renew (d := d) (b := G.b t) (q := G.o t) (ts := ts) (x := .row sz (cs ++ ycs)) (fp := G.b t :: (fp ++ fpy)) hd ?_ ?_ hts hw.os hw.tape hw.output (by rw [hw.size]; exact Nat.le_refl _) ?_ hob
      · refine ⟨_, r, _, rfl, ?_⟩
        obtain ⟨arr, e, fr, q1, q2, q3⟩ := har
        rw [z1] at q1
        cases q1
        have hlen : (cs ++ ycs).length ≤ 0 + c * sz := by
          rw [List.length_append]
          have := Nat.mul_le_mul_right sz hkc
          omega
        refine ⟨_, c, rfl, ⟨hkc, fun h => by cases h⟩, ⟨sz, cs ++ ycs, by simp [upd], fun _ => hlen⟩, .inr ⟨sz, cs ++ ycs, by simp [upd], fun ns _ _ => ⟨G.b t, G.o t, by simp [locate, Gh.put], by simp⟩⟩, fun _ sz1 cs1 hm1 _ => ?_⟩
        simp [upd] at hm1
        obtain ⟨rfl, rfl⟩ := hm1
        exact ⟨ar', e2, (0, 0), by simpa [Gh.put] using z2, by simp [Gh.put]; omega, q3⟩
      · simp only [List.nodup_cons, List.mem_append, List.nodup_append] at hnt ⊢
        refine ⟨fun hx => ?_, hnt.2, hnd, fun x hx y hy e => ?_⟩
        · rcases hx with hx | hx
          · exact hnt.1 hx
          · exact hyt _ hx (by simp)
        · subst e
          exact hyt _ hy (by simp [hx])
      · intro y hy
        simp only [List.mem_cons, List.mem_append] at hy
        rcases hy with rfl | hy | hy
        · exact ⟨t, htt, by rw [k3]; simp⟩
        · exact ⟨t, htt, by rw [k3]; simp [hy]⟩
        · obtain ⟨u, hu, _, hyu⟩ := hfp y hy
          exact ⟨u, hu, hyu⟩
      · intro g hg hnot
        apply hw.other
        rintro rfl
        exact hnot t htt (by rw [k3]; simp)
end
end Go.Proofs.YtbdokibepndibaaGreat.Eng
