/- An interpreter of the model's code over tagged trees: the library's Insert of numbers, by the proved roads of the shelf. -/
import Derived.Test.YtbdokibepndibaaGreatEng16
import Derived.Shelf.Spec.SlicesInsertGrow
namespace Go.Proofs.YtbdokibepndibaaGreat.Eng
open Go.RowKit Go.Shelf

/-- The function is the library's Insert of numbers. -/
def Ins (P : Program) (f : FuncId) : Prop := ∃ ρ : Ren, Lays2.n21 P ρ ∧ ρ.f 21 = f
def insSt (s : St) (d : Nat) (ax : A1) (k : Int) (ay : A1) : Option (SV × St) :=
  match oldOf s.mem 1 ax, srcCells s.mem 1 ay, ay with
  | some (n, cs, ts), some (m, ycs), .sl u [] _ _ =>
    if 0 < m ∧ ts.contains u = false ∧ 0 ≤ k ∧ k.toNat ≤ n ∧ (n + m) * 8 ≤ 140737488355328 ∧ cs.all Cell.flat = true ∧ ycs.all Cell.flat = true then
      newRowSt s d 1 (n + m) (cs.take k.toNat ++ (ycs ++ cs.drop k.toNat)) ts
    else none
  | _, _, _ => none

section
variable {P : Program} {F : Own} {w0 : World} {G G' : Gh} {s s' : St} {a : Act} {w w' : World} {sv : SV} {o : Oper} {m m' : Mem} {d : Nat}
theorem setCells_wr {g : Nat} : ∀ (vs : List Value) (k : Nat) (w : World) {arr : Array Value} {e : TypeId}, w.heap[g]? = some (.cells arr e (0, 0)) → k + vs.length ≤ arr.size → Wr w (w.setCells g k vs) g k vs := by
  intro vs
  induction vs with
  | nil =>
    intro k w arr e hg hk
    exact ⟨rfl, rfl, rfl, rfl, ⟨arr, arr, e, e, hg, hg, rfl, fun _ _ => rfl, fun j x hx => by simp at hx⟩, fun _ _ => rfl⟩
  | cons v r ih =>
    intro k w arr e hg hk
    have hg1 : (w.setCell ⟨g, k, none⟩ v).heap[g]? = some (.cells (arr.setIfInBounds k v) e (0, 0)) := by simp [World.setCell, Array.getElem?_modify, hg]
    simp only [List.length_cons] at hk
    have hw := ih (k + 1) (w.setCell ⟨g, k, none⟩ v) hg1 (by simp; omega)
    obtain ⟨arr1, arr2, e1, e2, k1, k2, k3, k4, k5⟩ := hw.row
    rw [hg1] at k1
    cases k1
    refine ⟨hw.os, hw.tape, hw.output, hw.size.trans (by simp [World.setCell]), ⟨arr, arr2, e, e2, hg, k2, by rw [k3]; simp, fun i hi => ?_, fun j x hx => ?_⟩, fun x hx => (hw.other x hx).trans (heap_setCell_ne hx)⟩
    · simp only [List.length_cons] at hi
      rw [k4 i (by omega), Array.getElem?_setIfInBounds, if_neg (by omega)]
    · cases j with
      | zero =>
        simp only [List.getElem?_cons_zero, Option.some.injEq] at hx
        subst hx
        rw [k4 _ (by omega), Nat.add_zero, Array.getElem?_setIfInBounds, if_pos rfl, if_pos (by omega)]
      | succ j =>
        have := k5 j x (by simpa using hx)
        rw [show k + (j + 1) = k + 1 + j by omega]
        exact this
theorem ins_cells {olds news : List Value} {i n k off : Nat} {arr : Array Value} (hn : olds.length = n) (hk : news.length = k) (hi : i ≤ n) (h1 : ∀ j x, olds[j]? = some x → j < i → arr[off + j]? = some x)
    (h2 : ∀ j x, news[j]? = some x → arr[off + i + j]? = some x) (h3 : ∀ j x, (olds.drop i)[j]? = some x → arr[off + (i + k) + j]? = some x) :
    ∀ j x, (olds.take i ++ (news ++ olds.drop i))[j]? = some x → arr[off + j]? = some x := by
  intro j x hx
  by_cases hj : j < i
  · rw [List.getElem?_append_left (by simp; omega), List.getElem?_take, if_pos hj] at hx
    exact h1 j x hx hj
  · rw [List.getElem?_append_right (by simp; omega)] at hx
    have hl : (olds.take i).length = i := by simp; omega
    rw [hl] at hx
    by_cases hj2 : j < i + k
    · rw [List.getElem?_append_left (by omega)] at hx
      have := h2 _ x hx
      rw [show off + j = off + i + (j - i) by omega]
      exact this
    · rw [List.getElem?_append_right (by omega)] at hx
      have := h3 _ x hx
      rw [show off + j = off + (i + k) + (j - i - news.length) by omega]
      exact this
/-- A row that is written anew within its block. -/
theorem inplace_ok (h : Rel F w0 G s a w) {c t k : Nat} {cs ncs : List Cell} {nvs : List Value} (hm : s.mem t = some (.row 1 cs)) (hv : newRowSt s d 1 k ncs [t] = some (sv, s'))
    (hos : w'.os = w.os) (htape : w'.tape = w.tape) (hout : w'.output = w.output) (hsize : w'.heap.size = w.heap.size) (hother : ∀ x, x ≠ G.b t → w'.heap[x]? = w.heap[x]?)
    (harr : ∃ arr e, w'.heap[G.b t]? = some (.cells arr e (0, 0)) ∧ G.o t + c ≤ arr.size ∧ ∀ j x, nvs[j]? = some x → arr[G.o t + j]? = some x) (hh : HoldsL true w ncs nvs [])
    (hkc : k ≤ c) (hlen : ncs.length = k) (hcm : c ≤ 9223372036854775807) :
    ∃ G', Rel F w0 G' s' a w' ∧ SRel G' s'.mem w' sv (.slice (some ⟨G.b t, G.o t, none⟩) k c) := by
  unfold newRowSt at hv
  split at hv
  · cases hv
  · rename_i hd
    simp only [List.isEmpty_cons, Bool.false_eq_true, if_false, Option.some.injEq, Prod.mk.injEq] at hv
    obtain ⟨rfl, rfl⟩ := hv
    obtain ⟨hsz, vs, fp, k1, k2, k3⟩ := h.inv.ob _ _ hm
    obtain ⟨arr, e, q1, q2, q3⟩ := harr
    have hob : ObRel (G.put d (G.b t) (G.o t) [G.b t]) (upd (rest [t] s.mem) d (some (.row 1 ncs))) w' d (.row 1 ncs) := by
      refine ⟨by decide, nvs, [], hh.frame (by simp), ?_, by simp [Gh.put]⟩
      simp only [Gh.put, if_true]
      exact ⟨arr, e, (0, 0), q1, fun _ => rfl, q3⟩
    have r := h.renew (d := d) (b := G.b t) (q := G.o t) (ts := [t]) (x := .row 1 ncs) (fp := [G.b t]) hd (by simp) (fun y hy => ⟨t, by simp, by rw [k3]; simp at hy; simp [hy]⟩) (fun u hu => by simp at hu; subst hu; exact ⟨_, hm⟩)
      hos htape hout (by rw [hsize]; exact Nat.le_refl _) (fun g hg hnot => hother g (by rintro rfl; exact hnot t (by simp) (by rw [k3]; simp))) hob
    refine ⟨_, r, _, rfl, ?_⟩
    refine ⟨_, c, rfl, ⟨hkc, fun h => by cases h⟩, ⟨1, ncs, by simp [upd], fun _ => by omega⟩, .inr ⟨1, ncs, by simp [upd], fun ns _ _ => ⟨G.b t, G.o t, by simp [locate, Gh.put], by simp⟩⟩, fun _ sz1 cs1 hm1 _ => ?_⟩
    simp [upd] at hm1
    obtain ⟨rfl, rfl⟩ := hm1
    exact ⟨arr, e, (0, 0), by simpa [Gh.put] using q1, by simp [Gh.put]; omega, hcm⟩
theorem pushed_of {arr : Array Value} {e : TypeId} (hos : w'.os = w.os) (htape : w'.tape = w.tape) (hout : w'.output = w.output) (hsize : w'.heap.size = w.heap.size + 1) (hold : ∀ g, g < w.heap.size → w'.heap[g]? = w.heap[g]?)
    (hnew : w'.heap[w.heap.size]? = some (.cells arr e (0, 0))) : Pushed w w' arr := by
  refine ⟨hos, htape, hout, e, ?_⟩
  apply Array.ext_getElem?
  intro g
  rw [Array.getElem?_push]
  split
  · rename_i hg; subst hg; exact hnew
  · rename_i hg
    by_cases hlt : g < w.heap.size
    · exact hold g hlt
    · rw [Array.getElem?_eq_none (by omega), Array.getElem?_eq_none (by omega)]
theorem ins_ok {f : FuncId} (hI : Ins P f) (h : Rel F w0 G s a w) {ax ay : A1} {k : Int} {vx vy : Value} (hx : A1Rel G s.mem w ax vx) (hy : A1Rel G s.mem w ay vy) (hv : insSt s d ax k ay = some (sv, s')) :
    Calls P f #[vx, .int .i64 k, vy] w fun e w' => match e with | .returned v => ∃ G', Rel F w0 G' s' a w' ∧ SRel G' s'.mem w' sv v | _ => False := by
  obtain ⟨ρ, L, rfl⟩ := hI
  unfold insSt at hv
  split at hv
  · rename_i n cs ts k' ycs u off k'' hold hsrc
    split at hv
    · rename_i hcond
      obtain ⟨hm0, hut, hk0, hkn, hb, hf1, hf2⟩ := hcond
      obtain ⟨i, rfl⟩ : ∃ i : Nat, k = i := ⟨k.toNat, by omega⟩
      rw [Int.toNat_natCast] at hkn hv
      obtain ⟨A, c, olds, fp, rfl, hn, hA, hcl, hoh, hnd, hfp, hts, hcc⟩ := old_rel h hx hold
      obtain ⟨A', c', news, fpn, ey, hkc, hA', hyl, hyh, hyb⟩ := src_rel h hy hsrc
      have hne : ycs ≠ [] := by
        rintro rfl
        simp at hyl
        omega
      obtain ⟨g, q, rfl, hyblk⟩ := hyb hne
      obtain ⟨Au, cu, eu1, _, ⟨szu, csu, hmu, _⟩, hatu, _⟩ := hy
      rw [ey] at eu1
      cases eu1
      subst ey
      have hc0 : c' ≠ 0 := by omega
      obtain ⟨szu', csu', hmu', hAt⟩ := hatu.resolve_left hc0
      rw [hmu] at hmu'
      cases hmu'
      obtain ⟨gu, ou, hlu, hAu⟩ := hAt csu rfl (.inr rfl)
      simp only [locate, Option.some.injEq, Prod.mk.injEq] at hlu
      obtain ⟨rfl, rfl⟩ := hlu
      have hgu : g = G.b u := by have := congrArg (fun x => (x.getD default).block) hAu; simpa using this
      obtain ⟨_, vsu, fpu, _, ⟨arru, eu, fru, p1, p2, p3⟩, p4⟩ := h.inv.ob _ _ hmu
      have := p2 rfl
      subst this
      rw [← hgu] at p1
      have hoh' := flat_own hoh hf1
      have hyh' := flat_own hyh hf2
      have hol := hoh.len
      have hnl := hyh.len
      rw [Nat.mul_one] at hcl hyl
      have hvs : ∀ j v, news[j]? = some v → w.cell? ⟨g, q + j, none⟩ = some v := fun j v hj => hyblk.cell hj
      have hsa : w.shape? g = some (eu, arru.size) := by simp [World.shape?, p1]
      have hfa : ∀ x, w.frozen? ⟨g, x, none⟩ = false := fun x => by simp [World.frozen?, p1]
      have hnew : HoldsL true w (cs.take i ++ (ycs ++ cs.drop i)) (olds.take i ++ (news ++ olds.drop i)) [] := by
        have ht : HoldsL true w (cs.take i) (olds.take i) [] := by
          obtain ⟨f1, h1, h2⟩ := hoh'.take i
          have : f1 = [] := List.sublist_nil.1 h2
          rwa [this] at h1
        have hd' : HoldsL true w (cs.drop i) (olds.drop i) [] := by
          obtain ⟨f1, h1, h2⟩ := hoh'.drop i
          have : f1 = [] := List.sublist_nil.1 h2
          rwa [this] at h1
        exact ht.append (hyh'.append hd')
      have hlen : (cs.take i ++ (ycs ++ cs.drop i)).length = n + k' := by
        simp only [List.length_append, List.length_take, List.length_drop]
        omega
      have hdl : (olds.drop i).length = n - i := by rw [List.length_drop]; omega
      by_cases hroom : n + k' ≤ c
      · -- there is room
        obtain ⟨t, rfl, hm, rfl, ⟨arrt, et, frt, b1, b2, b3⟩, arr, e0, fr, q1, q2, q3⟩ := hcc (by omega)
        clear hcc
        have := b2 rfl
        subst this
        rw [b1] at q1
        cases q1
        rw [Nat.mul_one] at q2
        have htu : u ≠ t := by
          rintro rfl
          simp at hut
        have hgt : g ≠ G.b t := by
          intro e
          have := h.inv.apart u t _ _ hmu hm htu g (by rw [p4, hgu]; simp)
          obtain ⟨_, _, _, _, _, r3⟩ := h.inv.ob _ _ hm
          rw [r3, e] at this
          simp at this
        have hcs : ∀ j v, olds[j]? = some v → w.cell? ⟨G.b t, G.o t + j, none⟩ = some v := fun j v hj => by simp [World.cell?, b1, b3 j v hj]
        have hsp : ∀ j, j < n + k' → (w.cell? ⟨G.b t, G.o t + j, none⟩).isSome = true := fun j hj => by
          simp only [World.cell?, b1]
          rw [Array.getElem?_eq_getElem (by omega)]
          rfl
        have hfz : ∀ x, w.frozen? ⟨G.b t, x, none⟩ = false := fun x => by simp [World.frozen?, b1]
        by_cases hin : i < n
        · refine (Any2.slices_Insert_int_shift L (G.b t) (G.o t) n c i g q k' c' olds news w hin hm0 hroom q3 hgt (by omega) (by omega) hcs hsp (fun j _ => hfz _) hvs hoh.one hyh.one eu et arru.size arrt.size hsa (by simp [World.shape?, b1]) (by omega) (hfa _) (hfa _)).mono fun e w' he => ?_
          obtain ⟨rfl, rfl⟩ := he
          have w1 := setCells_wr (olds.drop i) (G.o t + (i + k')) w.drew b1 (by omega)
          obtain ⟨x1, x2, y1, y2, z1, z2, z3, z4, z5⟩ := w1.row
          have hz1 : w.heap[G.b t]? = some (.cells x1 y1 (0, 0)) := z1
          rw [b1] at hz1
          cases hz1
          have w2 := setCells_wr news (G.o t + i) (w.drew.setCells (G.b t) (G.o t + (i + k')) (olds.drop i)) z2 (by omega)
          obtain ⟨x3, x4, y3, y4, r1, r2, r3, r4, r5⟩ := w2.row
          rw [z2] at r1
          cases r1
          refine inplace_ok h hm hv (w2.os.trans w1.os) (w2.tape.trans w1.tape) (w2.output.trans w1.output) (w2.size.trans w1.size) (fun x hx => (w2.other x hx).trans (w1.other x hx)) ⟨x4, y4, r2, by omega, ?_⟩ hnew hroom hlen q3
          refine ins_cells (n := n) (k := k') (by omega) (by omega) hkn (fun j x hx hj => ?_) (fun j x hx => r5 j x hx) (fun j x hx => ?_)
          · rw [r4 _ (by omega), z4 _ (by omega)]
            exact b3 j x hx
          · have hjl := (List.getElem?_eq_some_iff.1 hx).1
            rw [r4 _ (by omega)]
            exact z5 j x hx
        · obtain rfl : i = n := by omega
          refine (Any2.slices_Insert_int_end_room L (G.b t) (G.o t) i c g q k' c' news w hm0 hroom q3 (by omega) (fun j hj => by rw [Nat.add_assoc]; exact hsp _ (by omega)) (fun j hj => hfz _) hvs hyh.one).mono fun e w' he => ?_
          obtain ⟨rfl, rfl⟩ := he
          have w2 := setCells_wr news (G.o t + i) w b1 (by omega)
          obtain ⟨x3, x4, y3, y4, r1, r2, r3, r4, r5⟩ := w2.row
          rw [b1] at r1
          cases r1
          refine inplace_ok h hm hv w2.os w2.tape w2.output w2.size w2.other ⟨x4, y4, r2, by omega, ?_⟩ hnew hroom hlen q3
          refine ins_cells (n := i) (k := k') (by omega) (by omega) hkn (fun j x hx hj => ?_) (fun j x hx => r5 j x hx) (fun j x hx => ?_)
          · rw [r4 _ (by omega)]
            exact b3 j x hx
          · have hjl := (List.getElem?_eq_some_iff.1 hx).1
            omega
      · -- a new row
        have hroom' : c < n + k' := by omega
        have hge := grownCap_ge w (n + k') c (ρ.t 3)
        have hmx := grownCap_le_maxLen w (n + k') c (ρ.t 3) (by unfold maxLen; omega)
        unfold maxLen at hmx
        have hndn : ([] : List Nat).Nodup := by simp
        have hcs : ∀ b, A = some b → ∀ j v, olds[j]? = some v → w.cell? (b.add j) = some v := by
          rintro b rfl j v hj
          have hlt := (List.getElem?_eq_some_iff.1 hj).1
          obtain ⟨t0, rfl, hm, e1, hblk, _⟩ := hcc (by omega)
          cases e1
          rw [add_ad]
          exact hblk.cell hj
        by_cases hin : i < n
        · obtain ⟨t, rfl, hm, rfl, _, _⟩ := hcc (by omega)
          clear hcc
          refine (Any2.slices_Insert_int_grow L (G.b t) (G.o t) n c i g q k' c' olds news w hin hm0 hn hroom' hb (by omega) (by omega) (fun j v hj => by have := hcs _ rfl j v hj; rwa [add_ad] at this) hvs hoh.one hyh.one).mono fun e w' he => ?_
          obtain ⟨rfl, rfl⟩ := he
          generalize hgc : grownCap w (n + k') c (ρ.t 3) = gc at hge hmx ⊢
          generalize hrow : (olds.take i).toArray ++ Builtin.zeroCells (Value.int .i64 0).cells (n + k' - i) ++ Builtin.zeroCells (Value.int .i64 0).cells (gc - (n + k')) = row
          have hrs : row.size = gc := by
            rw [← hrow]
            simp only [Array.size_append, List.size_toArray, List.length_take, size_zeroCells]
            have : (Value.int IntKind.i64 0).cells.size = 1 := rfl
            rw [this]
            omega
          have hpush : (w.alloc (.cells row (ρ.t 3))).drew.heap[w.heap.size]? = some (.cells row (ρ.t 3) (0, 0)) := by change (w.heap.push (.cells row (ρ.t 3) (0, 0)))[w.heap.size]? = _; simp
          have w1 := setCells_wr news i (w.alloc (.cells row (ρ.t 3))).drew hpush (by omega)
          obtain ⟨x1, x2, y1, y2, z1, z2, z3, z4, z5⟩ := w1.row
          rw [hpush] at z1
          cases z1
          have w2 := setCells_wr (olds.drop i) (i + k') (((w.alloc (.cells row (ρ.t 3))).drew.setCells w.heap.size i news).drew) z2 (by omega)
          obtain ⟨x3, x4, y3, y4, r1, r2, r3, r4, r5⟩ := w2.row
          have r1' : ((w.alloc (.cells row (ρ.t 3))).drew.setCells w.heap.size i news).heap[w.heap.size]? = some (.cells x3 y3 (0, 0)) := r1
          rw [z2] at r1'
          cases r1'
          have hother : ∀ x, x < w.heap.size → (((w.alloc (.cells row (ρ.t 3))).drew.setCells w.heap.size i news).drew.setCells w.heap.size (i + k') (olds.drop i)).heap[x]? = w.heap[x]? := by
            intro x hx
            refine ((w2.other x (by omega)).trans (w1.other x (by omega))).trans ?_
            simp only [World.alloc, World.drew, Array.getElem?_push]
            rw [if_neg (by omega)]
          have hp := pushed_of (w := w) (arr := x4) (e := y4) (w2.os.trans w1.os) (w2.tape.trans w1.tape) (w2.output.trans w1.output) ((w2.size.trans w1.size).trans (by change (w.heap.push (.cells row (ρ.t 3) (0, 0))).size = _; simp)) hother r2
          refine newRowSt_ok h hv hp (by decide) hnew hndn (by simp) hts ?_ hge (by omega) (by omega) hmx
          have := ins_cells (off := 0) (arr := x4) (olds := olds) (news := news) (i := i) (n := n) (k := k') (by omega) (by omega) hkn (fun j x hx hj => ?_) (fun j x hx => ?_) (fun j x hx => ?_)
          · intro j x hx
            have := this j x hx
            rwa [Nat.zero_add] at this
          · rw [Nat.zero_add, r4 _ (by omega), z4 _ (by omega), ← hrow, Array.append_assoc, Array.getElem?_append_left (by simp; omega)]
            simp only [List.getElem?_toArray, List.getElem?_take]
            rw [if_pos hj]
            exact hx
          · have hjl := (List.getElem?_eq_some_iff.1 hx).1
            rw [Nat.zero_add, r4 _ (by omega)]
            exact z5 j x hx
          · rw [Nat.zero_add]
            exact r5 j x hx
        · clear hcc
          obtain rfl : i = n := by omega
          refine (Any2.slices_Insert_int_end_grow L A i c g q k' c' olds news w hm0 hn hroom' hb (by omega) (by omega) (fun e => by have := hA e; omega) hcs hvs hyh.one).mono fun e w' he => ?_
          obtain ⟨rfl, rfl⟩ := he
          generalize hgc : grownCap w (i + k') c (ρ.t 3) = gc at hge hmx ⊢
          refine newRowSt_ok h hv ⟨rfl, rfl, rfl, ρ.t 3, rfl⟩ (by decide) hnew hndn (by simp) hts ?_ hge (by omega) ?_ hmx
          · intro j x hx
            rw [List.take_of_length_le (by omega), List.drop_eq_nil_of_le (by omega), List.append_nil] at hx
            have hjl := (List.getElem?_eq_some_iff.1 hx).1
            rw [Array.getElem?_append_left (by simpa using hjl)]
            simpa using hx
          · simp only [Array.size_append, List.size_toArray, List.length_append, size_zeroCells]
            have : (Value.int IntKind.i64 0).cells.size = 1 := rfl
            rw [this]
            omega
    · cases hv
  · cases hv
end
end Go.Proofs.YtbdokibepndibaaGreat.Eng
