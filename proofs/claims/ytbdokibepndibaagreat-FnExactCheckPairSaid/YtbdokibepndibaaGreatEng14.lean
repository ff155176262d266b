/- An interpreter of the model's code over tagged trees, fourteenth part: the model appends, copies and clears alike. -/
import Derived.Test.YtbdokibepndibaaGreatEng13
namespace Go.Proofs.YtbdokibepndibaaGreat.Eng
open Go.RowKit

section
variable {P : Program} {F : Own} {w0 : World} {G G' : Gh} {s s' : St} {a : Act} {w w' : World} {sv : SV} {o : Oper} {m m' : Mem} {d : Nat}
theorem app_zero {t ty e : TypeId} {i : TypeInfo} (ht : P.underlying t = some (.slice e)) (hi : P.info? e = some i) {A A' : Option Addr} {n c c' : Nat} (hn : n ≤ c) :
    (Builtin.append_ #[t, t] ty #[.slice A n c, .slice A' 0 c']).run P w = .ok (.slice A n c) w := by
  have hf : (Builtin.firstCells i.size 0 (.slice A' 0 c')).run P w = .ok #[] w := by
    cases A' <;> simp [Builtin.firstCells, loadCells, loadCellsFrom]
  cases A <;> simp [Builtin.append_, run_underlying ht, sizeOf, typeInfo, hi, Builtin.lenOf, hn, hf, storeCells]
theorem app_room {t ty e e' : TypeId} {i : TypeInfo} (ht : P.underlying t = some (.slice e)) (hi : P.info? e = some i) {g q n c k c' : Nat} {ad : Addr} {news : List Value} {arr : Array Value}
    (hg : w.heap[g]? = some (.cells arr e' (0, 0))) (hfit : q + n * i.size + news.length ≤ arr.size) (hl : news.length = k * i.size) (hnews : ∀ j v, news[j]? = some v → w.cell? (ad.add j) = some v) (h1 : ∀ v ∈ news, v.oneCell' = true) (hroom : n + k ≤ c) :
    ∃ w', (Builtin.append_ #[t, t] ty #[.slice (some ⟨g, q, none⟩) n c, .slice (some ad) k c']).run P w = .ok (.slice (some ⟨g, q, none⟩) (n + k) c) w' ∧ Wr w w' g (q + n * i.size) news := by
  have hf := run_firstCells_some (P := P) w i.size k ad k c' news hl hnews
  obtain ⟨w', hst, hwr⟩ := storeCells_wr (P := P) (k := q + n * i.size) hg hfit h1
  refine ⟨w', ?_, hwr⟩
  simp [Builtin.append_, run_underlying ht, sizeOf, typeInfo, hi, Builtin.lenOf, hroom, hf, Addr.add_lit, hst]
/-- What is known of a full row, or of none. -/
theorem old_rel (h : Rel F w0 G s a w) {x : A1} {v : Value} {sz n : Nat} {cs : List Cell} {ts : List Nat} (hx : A1Rel G s.mem w x v) (ho : oldOf s.mem sz x = some (n, cs, ts)) :
    ∃ A c vs fp, v = .slice A n c ∧ n ≤ c ∧ (A = none → c = 0) ∧ cs.length = n * sz ∧ HoldsL true w cs vs fp ∧ fp.Nodup ∧ (∀ y ∈ fp, ∃ u ∈ ts, y ∈ G.fp u) ∧ (∀ u ∈ ts, ∃ y, s.mem u = some y) ∧
      (c ≠ 0 → ∃ t, ts = [t] ∧ s.mem t = some (.row sz cs) ∧ A = some ⟨G.b t, G.o t, none⟩ ∧ Blk true w (G.b t) (G.o t) vs ∧ ∃ arr e fr, w.heap[G.b t]? = some (.cells arr e fr) ∧ G.o t + c * sz ≤ arr.size ∧ c ≤ 9223372036854775807) := by
  unfold oldOf at ho
  split at ho
  · cases ho
    obtain ⟨A, rfl⟩ := hx
    exact ⟨A, 0, [], [], rfl, Nat.le_refl _, fun _ => rfl, by simp, .nil, by simp, by simp, by simp, fun h => absurd rfl h⟩
  · rename_i t n'
    split at ho
    · rename_i z cs' hm
      split at ho
      · rename_i hz
        obtain ⟨rfl, hl⟩ := hz
        cases ho
        obtain ⟨A, c, rfl, hn, _, h2, h3⟩ := hx
        obtain ⟨hp, vs, fp, k1, k2, k3⟩ := h.inv.ob _ _ hm
        have hnd := h.inv.nd _ _ hm
        rw [k3] at hnd
        refine ⟨A, c, vs, fp, rfl, hn.1, hn.2, hl, k1, (List.nodup_cons.1 hnd).2, fun y hy => ⟨t, by simp, by rw [k3]; simp [hy]⟩, fun u hu => ?_, fun hc => ?_⟩
        · simp at hu; subst hu; exact ⟨_, hm⟩
        · refine ⟨t, rfl, hm, ?_, k2, ?_⟩
          · rcases h2 with h2 | ⟨z, q, hz, hat⟩
            · exact absurd h2 hc
            · rw [hm] at hz
              cases hz
              obtain ⟨g, oo, hl1, rfl⟩ := hat cs rfl (.inr rfl)
              simp only [locate, Option.some.injEq, Prod.mk.injEq] at hl1
              obtain ⟨rfl, rfl⟩ := hl1
              rfl
          · obtain ⟨arr, e, fr, q1, q2⟩ := h3 rfl _ _ hm hc
            exact ⟨arr, e, fr, q1, by omega, q2.2⟩
      · cases ho
    · cases ho
  · cases ho
theorem app_core (h : Rel F w0 G s a w) {t ty e : TypeId} {i : TypeInfo} {z : Value} {n c k c' : Nat} {A : Option Addr} {ad : Addr} {cs ycs : List Cell} {olds news : List Value} {ts ts' fp fpy : List Nat}
    (ht : P.underlying t = some (.slice e)) (hi : P.info? e = some i) (hz : i.zero = some z) (hzs : z.cells.size = i.size) (hsz : 0 < i.size) (hby : 0 < i.bytes) (hk : k ≠ 0)
    (hn : n ≤ c) (hA : A = none → c = 0) (hcl : cs.length = n * i.size) (ho : HoldsL true w cs olds fp) (hnd : fp.Nodup) (hfp : ∀ y ∈ fp, ∃ u ∈ ts, y ∈ G.fp u) (hts : ∀ u ∈ ts, ∃ y, s.mem u = some y)
    (hc : c ≠ 0 → ∃ t, ts = [t] ∧ s.mem t = some (.row i.size cs) ∧ A = some ⟨G.b t, G.o t, none⟩ ∧ Blk true w (G.b t) (G.o t) olds ∧ ∃ arr e fr, w.heap[G.b t]? = some (.cells arr e fr) ∧ G.o t + c * i.size ≤ arr.size ∧ c ≤ 9223372036854775807)
    (hyl : ycs.length = k * i.size) (hy : HoldsL true w ycs news fpy) (hndy : fpy.Nodup) (hfpy : ∀ y ∈ fpy, ∃ u ∈ ts', u ∉ ts ∧ y ∈ G.fp u) (hts' : ∀ u ∈ ts', ∃ y, s.mem u = some y) (hsub : ∀ u ∈ ts, u ∈ ts')
    (hnews : ∀ j v, news[j]? = some v → w.cell? (ad.add j) = some v) (hb : (n + k) * i.bytes ≤ 140737488355328) (hv : newRowSt s d i.size (n + k) (cs ++ ycs) ts' = some (sv, s')) :
    ∃ v w' G', (Builtin.append_ #[t, t] ty #[.slice A n c, .slice (some ad) k c']).run P w = .ok v w' ∧ Rel F w0 G' s' a w' ∧ SRel G' s'.mem w' sv v := by
  have hol := ho.len
  have hnl := hy.len
  have hkm : (n + k) * i.size = n * i.size + k * i.size := Nat.add_mul _ _ _
  have hnk : n + k ≤ 140737488355328 := Nat.le_trans (Nat.le_mul_of_pos_right _ hby) hb
  by_cases hroom : n + k ≤ c
  · have hc0 : c ≠ 0 := by omega
    obtain ⟨t0, rfl, hm, rfl, hblk, arr, e0, fr, q1, q2⟩ := hc hc0
    obtain ⟨arr', e1, fr', r1, r2, r3⟩ := hblk
    rw [q1] at r1
    cases r1
    have := r2 rfl
    subst this
    have hmul : (n + k) * i.size ≤ c * i.size := Nat.mul_le_mul_right _ hroom
    obtain ⟨w', hrun, hwr⟩ := app_room (P := P) (ty := ty) (g := G.b t0) (q := G.o t0) (n := n) (k := k) (c := c) (c' := c') (news := news) ht hi q1 (by omega) (by omega) hnews hy.one hroom
    obtain ⟨G', k1, k2⟩ := renewRow_ok h hm hv hcl hwr hy hndy (fun y hy => by
      obtain ⟨u, hu, hut, hyu⟩ := hfpy y hy
      exact ⟨u, hu, by simpa using hut, hyu⟩) hts' (hsub _ (by simp)) hroom (by omega) ⟨arr, e0, _, q1, q2⟩
    exact ⟨_, w', G', hrun, k1, k2⟩
  · -- a block of its own
    have fin : ∀ old, ∃ G', Rel F w0 G' s' a (w.drew.alloc (.cells (olds.toArray ++ news.toArray ++ Builtin.zeroCells z.cells (grownCap w (n + k) old e - (n + k))) e)) ∧
        SRel G' s'.mem (w.drew.alloc (.cells (olds.toArray ++ news.toArray ++ Builtin.zeroCells z.cells (grownCap w (n + k) old e - (n + k))) e)) sv (.slice (some ⟨w.heap.size, 0, none⟩) (n + k) (grownCap w (n + k) old e)) := by
      intro old
      have hge := grownCap_ge w (n + k) old e
      have hmul : (n + k) * i.size ≤ grownCap w (n + k) old e * i.size := Nat.mul_le_mul_right _ hge
      have hsub2 : (grownCap w (n + k) old e - (n + k)) * i.size = grownCap w (n + k) old e * i.size - (n + k) * i.size := Nat.sub_mul _ _ _
      refine newRowSt_ok (vs := olds ++ news) (fp := fp ++ fpy) h hv ⟨rfl, rfl, rfl, e, rfl⟩ hsz (ho.append hy) ?_ ?_ hts' ?_ hge ?_ ?_ (by have := grownCap_le_maxLen w (n + k) old e (by unfold maxLen; omega); unfold maxLen at this; exact this)
      · rw [List.nodup_append]
        refine ⟨hnd, hndy, fun x hx y hy e => ?_⟩
        subst e
        obtain ⟨u, hu, hxu⟩ := hfp x hx
        obtain ⟨v, hv, hvt, hxv⟩ := hfpy x hy
        obtain ⟨yu, hyu⟩ := hts u hu
        obtain ⟨yv, hyv⟩ := hts' v hv
        exact h.inv.apart u v yu yv hyu hyv (fun e => hvt (e ▸ hu)) x hxu hxv
      · intro y hy
        rw [List.mem_append] at hy
        rcases hy with hy | hy
        · obtain ⟨u, hu, hyu⟩ := hfp y hy
          exact ⟨u, hsub u hu, hyu⟩
        · obtain ⟨u, hu, _, hyu⟩ := hfpy y hy
          exact ⟨u, hu, hyu⟩
      · intro j x hx
        rw [← Array.getElem?_toList]
        simp only [Array.toList_append, List.getElem?_append]
        have hlt := (List.getElem?_eq_some_iff.1 hx).1
        rw [if_pos (by simpa using hlt)]
        rw [List.getElem?_append] at hx
        exact hx
      · rw [List.length_append]; omega
      · simp only [Array.size_append, List.size_toArray, size_zeroCells, hzs]; omega
    cases A with
    | none =>
      have hc0 := hA rfl
      subst hc0
      have hn0 : n = 0 := by omega
      subst hn0
      have ho0 : olds = [] := List.eq_nil_of_length_eq_zero (by simp at hcl; rw [hol, hcl]; rfl)
      subst ho0
      have hr := run_append_nil (P := P) w t ty e i z ht hi hz ad k c' news (by omega) hnews (by omega) (by omega) (by simp only [Nat.zero_add] at hb; omega)
      obtain ⟨G', k1, k2⟩ := fin 0
      simp only [Nat.zero_add, Array.empty_append] at k1 k2
      exact ⟨_, _, G', hr, k1, k2⟩
    | some b =>
      have holds : ∀ j v, olds[j]? = some v → w.cell? (b.add j) = some v := by
        intro j v hj
        have hlt := (List.getElem?_eq_some_iff.1 hj).1
        have hc0 : c ≠ 0 := by
          rintro rfl
          have : n = 0 := by omega
          subst this
          rw [Nat.zero_mul] at hcl
          omega
        obtain ⟨t0, rfl, hm, e1, hblk, _⟩ := hc hc0
        cases e1
        rw [add_ad]
        exact hblk.cell hj
      have hr := run_append_grow (P := P) w t ty e i z ht hi hz b n c olds (by omega) holds ad k c' news (by omega) hnews (by omega) (by omega) (growslice_fits (by omega) hb)
      obtain ⟨G', k1, k2⟩ := fin c
      exact ⟨_, _, G', hr, k1, k2⟩
theorem eff_app {sz bytes : Nat} {x y : AX} (h : Rel F w0 G s a w) (hc : effChk2 P o.op (.app sz bytes x y) = true) (hv : effOp2 s d (.app sz bytes x y) = some (sv, s')) : Done P F w0 o a w sv s' := by
  cases ho : o.op with
  | call c =>
    rw [ho] at hc
    simp only [effChk2] at hc
    split at hc
    · rename_i p q t u hb
      obtain rfl := bCall_spec hb
      simp only [Bool.and_eq_true, beq_iff_eq, decide_eq_true_eq] at hc
      obtain ⟨⟨⟨⟨rfl, ht⟩, hsz, hbz⟩, h1⟩, h2⟩ := hc
      obtain ⟨dd, hd, hdb⟩ := tyB_spec ht
      cases dd <;> simp at hdb
      rename_i e
      obtain ⟨i, z, hi, hz, rfl, rfl, hzs⟩ := infoB_spec hdb
      have key : ∀ v w', (∀ ty, (Builtin.append_ #[t, t] ty #[a.eval p, a.eval q]).run P w = .ok v w') → (execOp a.eval o).run P w = .ok (.value v) w' := by
        intro v w' hr
        simp [execOp, ho, resolve, invoke, builtin, hr]
      simp only [effOp2] at hv
      split at hv
      · rename_i ax ay hax hay
        have hx := eval_one h h1 hax
        have hy := eval_one h h2 hay
        unfold appSt at hv
        split at hv
        · rename_i k ycs hsrc
          obtain ⟨A', c', news, fpn, ey, hkc, hA', hyl, hyh, hyb⟩ := src_rel h hy hsrc
          split at hv
          · rename_i hk0
            subst hk0
            split at hv
            · rename_i hsl
              cases hv
              have hsh : ∃ A n c, a.eval p = .slice A n c ∧ n ≤ c := by
                cases ax <;> simp [A1.slB] at hsl
                · obtain ⟨A, e1⟩ := hx; exact ⟨A, _, _, e1, Nat.le_refl _⟩
                · obtain ⟨A, c, e1, e2, _⟩ := hx; exact ⟨A, _, c, e1, e2.1⟩
                · obtain ⟨A, c, e1, e2, _⟩ := hx; exact ⟨A, _, c, e1, e2.1⟩
              obtain ⟨A, n, c, e1, e2⟩ := hsh
              rw [e1] at hx
              exact ⟨_, _, _, G, key _ _ (fun ty => by rw [e1, ey]; exact app_zero hd hi e2), .inl rfl, h, _, rfl, hx⟩
            · cases hv
          · rename_i hk0
            split at hv
            · rename_i n cs ts hold
              obtain ⟨A, c, olds, fp, ex, hn, hA, hcl, hoh, hnd, hfp, hts, hcc⟩ := old_rel h hx hold
              have hne : ycs ≠ [] := by
                rintro rfl
                have : k * i.size ≠ 0 := Nat.mul_ne_zero hk0 (by omega)
                simp at hyl
                omega
              obtain ⟨g, q', rfl, hyblk⟩ := hyb hne
              split at hv
              · rename_i hbb
                split at hv
                · rename_i hflat
                  have hyo := flat_own hyh hflat
                  obtain ⟨v, w', G', r1, r2, r3⟩ := app_core (ty := 0) (c' := c') (ts' := ts) h hd hi hz hzs hsz hbz hk0 hn hA hcl hoh hnd hfp hts hcc hyl hyo (by simp) (by simp) hts (fun _ h => h) (fun j v hj => by rw [add_ad]; exact hyblk.cell hj) hbb hv
                  exact ⟨_, v, w', G', key _ _ (fun ty => by rw [ex, ey]; exact r1), .inl rfl, r2, r3⟩
                · split at hv
                  · rename_i n2 cs2 t2 hold2
                    split at hv
                    · rename_i htt
                      obtain ⟨A2, c2, news2, fp2, ex2, hn2, hA2, hcl2, hoh2, hnd2, hfp2, hts2, hcc2⟩ := old_rel h hy hold2
                      rw [ey] at ex2
                      cases ex2
                      have hc2 : c' ≠ 0 := Nat.ne_of_gt (Nat.lt_of_lt_of_le (Nat.pos_of_ne_zero hk0) hkc)
                      obtain ⟨t3, e3, hm3, e4, hblk3, _⟩ := hcc2 hc2
                      cases e4
                      obtain ⟨v, w', G', r1, r2, r3⟩ := app_core (ty := 0) (c' := c') (ts' := t2 :: ts) h hd hi hz hzs hsz hbz hk0 hn hA hcl hoh hnd hfp hts hcc hcl2 hoh2 hnd2 (fun y hy => by
                        obtain ⟨u, hu, hyu⟩ := hfp2 y hy
                        simp only [List.mem_singleton] at hu
                        subst hu
                        exact ⟨u, by simp, htt, hyu⟩) (fun u hu => by
                        simp only [List.mem_cons] at hu
                        rcases hu with rfl | hu
                        · exact hts2 _ (by simp)
                        · exact hts u hu) (fun u hu => by simp [hu]) (fun j v hj => by rw [add_ad]; exact hblk3.cell hj) hbb hv
                      exact ⟨_, v, w', G', key _ _ (fun ty => by rw [ex, ey]; exact r1), .inl rfl, r2, r3⟩
                    · cases hv
                  · cases hv
              · cases hv
            · cases hv
        · cases hv
      · cases hv
    · cases hc
  | _ => rw [ho] at hc; simp [effChk2, effChk] at hc
theorem eff_apx {sz bytes : Nat} {x y : AX} (h : Rel F w0 G s a w) (hc : effChk2 P o.op (.apx sz bytes x y) = true) (hv : effOp2 s d (.apx sz bytes x y) = some (sv, s')) : Done P F w0 o a w sv s' := by
  cases ho : o.op with
  | call c =>
    rw [ho] at hc
    simp only [effChk2] at hc
    split at hc
    · rename_i p q t u hb
      obtain rfl := bCall_spec hb
      simp only [Bool.and_eq_true, beq_iff_eq, decide_eq_true_eq] at hc
      obtain ⟨⟨⟨⟨rfl, ht⟩, hsz, hbz⟩, h1⟩, h2⟩ := hc
      obtain ⟨dd, hd, hdb⟩ := tyB_spec ht
      cases dd <;> simp at hdb
      rename_i e
      obtain ⟨i, z, hi, hz, rfl, rfl, hzs⟩ := infoB_spec hdb
      have key : ∀ v w', (∀ ty, (Builtin.append_ #[t, t] ty #[a.eval p, a.eval q]).run P w = .ok v w') → (execOp a.eval o).run P w = .ok (.value v) w' := by
        intro v w' hr
        simp [execOp, ho, resolve, invoke, builtin, hr]
      simp only [effOp2] at hv
      split at hv
      · rename_i n cs ay hax hay
        have hx := eval_one h h1 hax
        have hy := eval_one h h2 hay
        split at hv
        · rename_i k ycs hsrc
          obtain ⟨A', c', news, fpn, ey, hkc, hA', hyl, hyh, hyb⟩ := src_rel h hy hsrc
          obtain ⟨A, ex, hA, hro⟩ := hx
          split at hv
          · rename_i hk0
            subst hk0
            cases hv
            exact ⟨_, _, _, G, key _ _ (fun ty => by rw [ex, ey]; exact app_zero hd hi (Nat.le_refl _)), .inl rfl, h, _, rfl, A, rfl, hA, hro⟩
          · rename_i hk0
            split at hv
            · rename_i hcond
              obtain ⟨hcl, hn0, hbb, hfl1, hfl2⟩ := hcond
              have hne : ycs ≠ [] := by
                rintro rfl
                have : k * i.size ≠ 0 := Nat.mul_ne_zero hk0 (by omega)
                simp at hyl
                omega
              have hne1 : cs ≠ [] := by
                rintro rfl
                have : n * i.size ≠ 0 := Nat.mul_ne_zero hn0 (by omega)
                simp at hcl
                omega
              obtain ⟨g, q', rfl, hyblk⟩ := hyb hne
              rcases hro with hro | ⟨g0, o0, olds, fp0, rfl, hb0, hh0, _⟩
              · exact absurd hro hne1
              · have hnk : n + k ≤ 140737488355328 := Nat.le_trans (Nat.le_mul_of_pos_right _ hbz) hbb
                have hol := hh0.len
                have hnl := hyh.len
                have hkm : (n + k) * i.size = n * i.size + k * i.size := Nat.add_mul _ _ _
                have hr := run_append_grow (P := P) w t 0 e i z hd hi hz ⟨g0, o0, none⟩ n n olds (by omega) (fun j v hj => by rw [add_ad]; exact hb0.cell hj) ⟨g, q', none⟩ k c' news (by omega) (fun j v hj => by rw [add_ad]; exact hyblk.cell hj) (by omega) (by omega) (growslice_fits (by omega) hbb)
                have hge := grownCap_ge w (n + k) n e
                have hmul : (n + k) * i.size ≤ grownCap w (n + k) n e * i.size := Nat.mul_le_mul_right _ hge
                have hsub2 : (grownCap w (n + k) n e - (n + k)) * i.size = grownCap w (n + k) n e * i.size - (n + k) * i.size := Nat.sub_mul _ _ _
                obtain ⟨G', r1, r2⟩ := newRowSt_ok (w' := w.drew.alloc (.cells (olds.toArray ++ news.toArray ++ Builtin.zeroCells z.cells (grownCap w (n + k) n e - (n + k))) e)) (vs := olds ++ news) (fp := []) (c := grownCap w (n + k) n e) h hv ⟨rfl, rfl, rfl, e, rfl⟩ hsz ((flat_own hh0 hfl1).append (flat_own hyh hfl2)) (by simp) (by simp) (by simp)
                  (fun j x hx => by
                    rw [← Array.getElem?_toList]
                    simp only [Array.toList_append, List.getElem?_append]
                    have hlt := (List.getElem?_eq_some_iff.1 hx).1
                    rw [if_pos (by simpa using hlt)]
                    rw [List.getElem?_append] at hx
                    exact hx) hge (by rw [List.length_append]; omega) (by simp only [Array.size_append, List.size_toArray, size_zeroCells, hzs]; omega) (by have := grownCap_le_maxLen w (n + k) n e (by unfold maxLen; omega); unfold maxLen at this; exact this)
                exact ⟨_, _, _, G', key _ _ (fun ty => by rw [ex, ey]; exact hr), .inl rfl, r1, r2⟩
            · cases hv
        · cases hv
      · cases hv
    · cases hc
  | _ => rw [ho] at hc; simp [effChk2, effChk] at hc
end
end Go.Proofs.YtbdokibepndibaaGreat.Eng
