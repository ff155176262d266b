/- An interpreter of the model's code over tagged trees: zeros are put behind a row (append of make). -/
import Derived.Test.YtbdokibepndibaaGreatEng15
import Derived.Lib.AppendZerosOnto
namespace Go.Proofs.YtbdokibepndibaaGreat.Eng
open Go.RowKit

section
variable {P : Program} {F : Own} {w0 : World} {G G' : Gh} {s s' : St} {a : Act} {w w' : World} {sv : SV} {o : Oper} {m m' : Mem} {d : Nat}
theorem apm_zero {t tn ty e : TypeId} {kq kn : IntKind} {i : TypeInfo} (ht : P.underlying t = some (.slice e)) (htn : P.underlying tn = some (.int kn)) (hi : P.info? e = some i) {A : Option Addr} {n c : Nat} (hn : n ≤ c) :
    (Builtin.append_ #[t, tn] ty #[.slice A n c, .int kq 0]).run P w = .ok (.slice A n c) w := by
  have hw : IntKind.i64.wrap (0 : Int) = 0 := by rw [IntKind.wrap_i64]; omega
  cases A <;> simp [Builtin.append_, run_underlying ht, run_underlying htn, sizeOf, typeInfo, hi, asInt, asIntOf, hw, hn, storeCells]
theorem apm_room {t tn ty e e' : TypeId} {kq kn : IntKind} {i : TypeInfo} {z : Value} (ht : P.underlying t = some (.slice e)) (htn : P.underlying tn = some (.int kn)) (hi : P.info? e = some i) (hz : i.zero = some z) {g q n c k : Nat} {arr : Array Value}
    (hg : w.heap[g]? = some (.cells arr e' (0, 0))) (hfit : q + n * i.size + (Builtin.zeroCells z.cells k).toList.length ≤ arr.size) (h1 : ∀ v ∈ (Builtin.zeroCells z.cells k).toList, v.oneCell' = true) (hroom : n + k ≤ c) (hk : k ≠ 0) (hs : 0 < i.size) (hkb : (k : Int) ≤ 140737488355328) (hb : k * i.bytes ≤ 140737488355328) :
    ∃ w', (Builtin.append_ #[t, tn] ty #[.slice (some ⟨g, q, none⟩) n c, .int kq k]).run P w = .ok (.slice (some ⟨g, q, none⟩) (n + k) c) w' ∧ Wr w w' g (q + n * i.size) (Builtin.zeroCells z.cells k).toList := by
  obtain ⟨w', hst, hwr⟩ := storeCells_wr (P := P) (k := q + n * i.size) hg hfit h1
  refine ⟨w', ?_, hwr⟩
  have hw : IntKind.i64.wrap (k : Int) = k := by rw [IntKind.wrap_i64]; omega
  have h48i : ¬ (281474976710656 < (k : Int) * (i.bytes : Int)) := by
    rw [← Int.natCast_mul]
    omega
  have hneg : ¬ ((k : Int) < 0) := by omega
  have hns : ¬ (k * i.size = 0) := Nat.mul_ne_zero hk (by omega)
  simp [Builtin.append_, run_underlying ht, run_underlying htn, sizeOf, typeInfo, zeroValue, hi, hz, asInt, asIntOf, hw, hneg, hns, h48i, hroom, Addr.add_lit, hst]
theorem apm_core (h : Rel F w0 G s a w) {t tn ty e : TypeId} {kq kn : IntKind} {i : TypeInfo} {z : Value} {n c k : Nat} {A : Option Addr} {cs ycs : List Cell} {olds : List Value} {ts fp fpy : List Nat}
    (ht : P.underlying t = some (.slice e)) (htn : P.underlying tn = some (.int kn)) (hi : P.info? e = some i) (hz : i.zero = some z) (hzs : z.cells.size = i.size) (hsz : 0 < i.size) (hby : 0 < i.bytes) (hk : k ≠ 0)
    (hn : n ≤ c) (hA : A = none → c = 0) (hcl : cs.length = n * i.size) (ho : HoldsL true w cs olds fp) (hnd : fp.Nodup) (hfp : ∀ y ∈ fp, ∃ u ∈ ts, y ∈ G.fp u) (hts : ∀ u ∈ ts, ∃ y, s.mem u = some y)
    (hc : c ≠ 0 → ∃ t, ts = [t] ∧ s.mem t = some (.row i.size cs) ∧ A = some ⟨G.b t, G.o t, none⟩ ∧ Blk true w (G.b t) (G.o t) olds ∧ ∃ arr e fr, w.heap[G.b t]? = some (.cells arr e fr) ∧ G.o t + c * i.size ≤ arr.size ∧ c ≤ 9223372036854775807)
    (hyl : ycs.length = k * i.size) (hy : HoldsL true w ycs (Builtin.zeroCells z.cells k).toList fpy) (hfpy : fpy = [])
    (hb : (n + k) * i.bytes ≤ 140737488355328) (hv : newRowSt s d i.size (n + k) (cs ++ ycs) ts = some (sv, s')) :
    ∃ v w' G', (Builtin.append_ #[t, tn] ty #[.slice A n c, .int kq k]).run P w = .ok v w' ∧ Rel F w0 G' s' a w' ∧ SRel G' s'.mem w' sv v := by
  subst hfpy
  have hol := ho.len
  have hnl := hy.len
  have hkm : (n + k) * i.size = n * i.size + k * i.size := Nat.add_mul _ _ _
  have hnk : n + k ≤ 140737488355328 := Nat.le_trans (Nat.le_mul_of_pos_right _ hby) hb
  have hkb : k * i.bytes ≤ 140737488355328 := Nat.le_trans (Nat.mul_le_mul_right _ (by omega)) hb
  by_cases hroom : n + k ≤ c
  · have hc0 : c ≠ 0 := by omega
    obtain ⟨t0, rfl, hm, rfl, hblk, arr, e0, fr, q1, q2⟩ := hc hc0
    obtain ⟨arr', e1, fr', r1, r2, r3⟩ := hblk
    rw [q1] at r1
    cases r1
    have := r2 rfl
    subst this
    have hmul : (n + k) * i.size ≤ c * i.size := Nat.mul_le_mul_right _ hroom
    obtain ⟨w', hrun, hwr⟩ := apm_room (P := P) (ty := ty) (kq := kq) (g := G.b t0) (q := G.o t0) (n := n) (k := k) (c := c) ht htn hi hz q1 (by omega) hy.one hroom hk hsz (by omega) hkb
    obtain ⟨G', k1, k2⟩ := renewRow_ok h hm hv hcl hwr hy (by simp) (by simp) hts (by simp) hroom (by omega) ⟨arr, e0, _, q1, q2⟩
    exact ⟨_, w', G', hrun, k1, k2⟩
  · have hge := grownCap_ge w (n + k) c e
    have hmul : (n + k) * i.size ≤ grownCap w (n + k) c e * i.size := Nat.mul_le_mul_right _ hge
    have hsub2 : (grownCap w (n + k) c e - (n + k)) * i.size = grownCap w (n + k) c e * i.size - (n + k) * i.size := Nat.sub_mul _ _ _
    have hold : (Builtin.firstCells i.size n (.slice A n c)).run P w.drew = .ok olds.toArray w.drew := by
      cases A with
      | none =>
        have hc0 := hA rfl
        subst hc0
        have hn0 : n = 0 := by omega
        subst hn0
        have ho0 : olds = [] := List.eq_nil_of_length_eq_zero (by simp at hcl; rw [hol, hcl]; rfl)
        subst ho0
        simp [Builtin.firstCells]
      | some b =>
        refine run_firstCells_some (P := P) w.drew i.size n b n c olds (by omega) fun j v hj => ?_
        have hlt := (List.getElem?_eq_some_iff.1 hj).1
        have hc0 : c ≠ 0 := by
          rintro rfl
          have : n = 0 := by omega
          subst this
          rw [Nat.zero_mul] at hcl
          omega
        obtain ⟨t0, rfl, hm, e1, hblk, _⟩ := hc hc0
        cases e1
        rw [add_ad]
        have := hblk.cell hj
        simpa using this
    have hr := Lib.run_append_grow_zeros (P := P) w t tn ty e i z kq kn ht htn hi hz A n c olds hold k (by omega) hsz (by omega) (by omega) (by omega) (growslice_fits (by omega) hb)
    obtain ⟨G', k1, k2⟩ := newRowSt_ok (w' := w.drew.alloc (.cells (olds.toArray ++ Builtin.zeroCells z.cells k ++ Builtin.zeroCells z.cells (grownCap w (n + k) c e - (n + k))) e)) (vs := olds ++ (Builtin.zeroCells z.cells k).toList) (fp := fp ++ []) (c := grownCap w (n + k) c e) h hv ⟨rfl, rfl, rfl, e, rfl⟩ hsz (ho.append hy) (by simpa using hnd) (fun y hy => by simp only [List.append_nil] at hy; exact hfp y hy) hts (fun j x hx => by
      rw [← Array.getElem?_toList]
      simp only [Array.toList_append, List.getElem?_append]
      have hlt := (List.getElem?_eq_some_iff.1 hx).1
      rw [if_pos (by simpa using hlt)]
      rw [List.getElem?_append] at hx
      exact hx) hge (by rw [List.length_append]; omega) (by simp only [Array.size_append, List.size_toArray, size_zeroCells, hzs]; omega) (by have := grownCap_le_maxLen w (n + k) c e (by unfold maxLen; omega); unfold maxLen at this; exact this)
    exact ⟨_, _, G', hr, k1, k2⟩
theorem eff_apm {sz bytes : Nat} {zero : List A1} {x y : AX} (h : Rel F w0 G s a w) (hc : effChk2 P o.op (.apm sz bytes zero x y) = true) (hv : effOp2 s d (.apm sz bytes zero x y) = some (sv, s')) : Done P F w0 o a w sv s' := by
  cases ho : o.op with
  | call c =>
    rw [ho] at hc
    simp only [effChk2] at hc
    split at hc
    · rename_i p q t u hb
      obtain rfl := bCall_spec hb
      simp only [Bool.and_eq_true, beq_iff_eq, decide_eq_true_eq] at hc
      obtain ⟨⟨⟨⟨⟨ht, hu⟩, hzl0⟩, hsz, hbz⟩, h1⟩, h2⟩ := hc
      obtain ⟨dd, hd, hdb⟩ := tyB_spec ht
      cases dd <;> simp at hdb
      rename_i e
      obtain ⟨hdb1, hdb2⟩ := hdb
      obtain ⟨i, z, hi, hz, rfl, rfl, hzs⟩ := infoB_spec hdb1
      obtain ⟨i2, z2, hi2, hz2, hzr, hzl⟩ := zeroB_spec hdb2
      rw [hi] at hi2
      cases hi2
      rw [hz] at hz2
      cases hz2
      obtain ⟨du, hdu, hdub⟩ := tyB_spec hu
      cases du <;> simp at hdub
      rename_i kn
      have key : ∀ v w', (∀ ty, (Builtin.append_ #[t, u] ty #[a.eval p, a.eval q]).run P w = .ok v w') → (execOp a.eval o).run P w = .ok (.value v) w' := by
        intro v w' hr
        simp [execOp, ho, resolve, invoke, builtin, hr]
      simp only [effOp2] at hv
      split at hv
      · rename_i ax kq k hax hay
        have hx := eval_one h h1 hax
        have hy := eval_one h h2 hay
        have ey : a.eval q = .int kq k := hy
        unfold apmSt at hv
        split at hv
        · rename_i hkr
          split at hv
          · rename_i hk0
            subst hk0
            split at hv
            · rename_i hsl
              cases hv
              have hsh : ∃ A n c, a.eval p = .slice A n c ∧ n ≤ c := by
                cases ax <;> simp [A1.slB] at hsl
                · obtain ⟨A, e1⟩ := hx; exact ⟨A, _, _, e1, Nat.le_refl _⟩
                · obtain ⟨A, c, e1, e2, _⟩ := hx; exact ⟨A, _, c, e1, e2.1⟩
                · obtain ⟨A, c, e1, e2, _⟩ := hx; exact ⟨A, _, c, e1, e2.1⟩
              obtain ⟨A, n, c, e1, e2⟩ := hsh
              rw [e1] at hx
              exact ⟨_, _, _, G, key _ _ (fun ty => by rw [e1, ey]; exact apm_zero hd hdu hi e2), .inl rfl, h, _, rfl, hx⟩
            · cases hv
          · rename_i hk0
            split at hv
            · rename_i n cs ts hold
              obtain ⟨A, c, olds, fp, ex, hn, hA, hcl, hoh, hnd, hfp, hts, hcc⟩ := old_rel h hx hold
              split at hv
              · rename_i hbb
                split at hv
                · rename_i ycs m2 hcs
                  obtain ⟨k', rfl⟩ : ∃ k' : Nat, k = (k' : Int) := ⟨k.toNat, by omega⟩
                  have hrel := zerosB_rel (G := G) (s := s) (w := w) hzr
                  have hreps := reps_rel hrel k'
                  have he : ((Array.range (k' * zero.length)).map (z.cells[· % z.cells.size]!)) = Builtin.zeroCells z.cells k' := by
                    unfold Builtin.zeroCells
                    rw [hzs, hzl]
                  rw [he] at hreps
                  simp only [Int.toNat_natCast] at hcs hbb hv
                  obtain ⟨fpy, q1, q2, q3, q4, q5⟩ := toCells_rel h.inv hreps (fun _ _ hh => by cases hh) hcs
                  have hfe : fpy = [] := by
                    cases fpy with
                    | nil => rfl
                    | cons y r => obtain ⟨t, ht, _⟩ := q3 y (by simp); cases ht
                  have hycl : ycs.length = k' * i.size := by
                    have e1 := q1.len
                    simp only [Array.length_toList, size_zeroCells, hzs] at e1
                    exact e1.symm
                  obtain ⟨v, w', G', r1, r2, r3⟩ := apm_core (ty := 0) (kq := kq) h hd hdu hi hz hzs hsz hbz (by omega) hn hA hcl hoh hnd hfp hts hcc hycl q1 hfe hbb hv
                  exact ⟨_, v, w', G', key _ _ (fun ty => by rw [ex, ey]; exact r1), .inl rfl, r2, r3⟩
                · cases hv
              · cases hv
            · cases hv
        · cases hv
      · cases hv
    · cases hc
  | _ => rw [ho] at hc; simp [effChk2, effChk] at hc
end
end Go.Proofs.YtbdokibepndibaaGreat.Eng
