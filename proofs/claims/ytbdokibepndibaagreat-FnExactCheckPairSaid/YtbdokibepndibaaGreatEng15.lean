/- An interpreter of the model's code over tagged trees, fifteenth part: copy and clear; all operations that turn memory. -/
import Derived.Test.YtbdokibepndibaaGreatEng14
namespace Go.Proofs.YtbdokibepndibaaGreat.Eng
open Go.RowKit

section
variable {P : Program} {F : Own} {w0 : World} {G G' : Gh} {s s' : St} {a : Act} {w w' : World} {sv : SV} {o : Oper} {m m' : Mem} {d : Nat}
theorem eff_cpy {sz : Nat} {x y : AX} (h : Rel F w0 G s a w) (hc : effChk2 P o.op (.cpy sz x y) = true) (hv : effOp2 s d (.cpy sz x y) = some (sv, s')) : Done P F w0 o a w sv s' := by
  cases ho : o.op with
  | call c =>
    rw [ho] at hc
    simp only [effChk2] at hc
    split at hc
    · rename_i p q t u hb
      obtain rfl := bCall_spec hb
      simp only [Bool.and_eq_true, decide_eq_true_eq] at hc
      obtain ⟨⟨⟨ht, hsz⟩, h1⟩, h2⟩ := hc
      obtain ⟨dd, hd, hdb⟩ := tyB_spec ht
      cases dd <;> simp at hdb
      rename_i e
      have hse := run_sizeOf hdb w
      have key : ∀ v w', (∀ ty, (Builtin.copy_ #[t, u] ty #[a.eval p, a.eval q]).run P w = .ok v w') → (execOp a.eval o).run P w = .ok (.value v) w' := by
        intro v w' hr
        simp [execOp, ho, resolve, invoke, builtin, hr]
      simp only [effOp2] at hv
      split at hv
      · rename_i ax ay hax hay
        have hx := eval_one h h1 hax
        have hy := eval_one h h2 hay
        unfold cpySt at hv
        split at hv
        · rename_i k ycs t' p' off n hsrc
          obtain ⟨A', c', news, fpn, ey, hkc, hA', hyl, hyh, hyb⟩ := src_rel h hy hsrc
          obtain ⟨A, c, ex, hn, hrow, hat, _⟩ := hx
          have hnl := hyh.len
          split at hv
          · rename_i hk0
            cases hv
            refine ⟨_, _, _, G, key _ _ (fun ty => ?_), .inl rfl, h, _, rfl, rfl⟩
            have hf : (Builtin.firstCells sz 0 (.slice A' k c')).run P w = .ok #[] w := by
              cases A' <;> simp [Builtin.firstCells, loadCells, loadCellsFrom]
            rw [ex, ey]
            cases A <;> simp [Builtin.copy_, run_underlying hd, Builtin.lenOf, hk0, hse, hf, storeCells, goInt]
          · rename_i hk0
            split at hv
            · rename_i hflat
              obtain ⟨s2, hs2, he⟩ := Option.map_eq_some_iff.1 hv
              cases he
              have hmin1 : Nat.min k n ≤ k := Nat.min_le_left _ _
              have hmin2 : Nat.min k n ≤ n := Nat.min_le_right _ _
              have hmul : Nat.min k n * sz ≤ k * sz := Nat.mul_le_mul_right _ hmin1
              obtain ⟨f1, hyt, _⟩ := hyh.take (Nat.min k n * sz)
              have hflt : (ycs.take (Nat.min k n * sz)).all Cell.flat = true := by
                rw [List.all_eq_true] at hflat ⊢
                exact fun c hc => hflat c (List.mem_of_mem_take hc)
              have hr := flat_rel (G := G) (m := s.mem) hyt hflt
              have hc0 : c ≠ 0 := by
                have := hn.1
                omega
              cases A with
              | none => exact absurd (hn.2 rfl) hc0
              | some A =>
                obtain ⟨w', G', hrun, hrel⟩ := stoRow_ok (P := P) h (hat.resolve_left hc0) hr hs2
                have hne : ycs ≠ [] := by
                  rintro rfl
                  have : k * sz ≠ 0 := Nat.mul_ne_zero (by omega) (by omega)
                  simp at hyl
                  omega
                obtain ⟨g, q', rfl, hyblk⟩ := hyb hne
                refine ⟨_, _, w', G', key _ _ (fun ty => ?_), .inl rfl, hrel, _, rfl, rfl⟩
                have hf : (Builtin.firstCells sz (Nat.min k n) (.slice (some ⟨g, q', none⟩) k c')).run P w = .ok (news.take (Nat.min k n * sz)).toArray w :=
                  run_firstCells_some w sz _ _ _ _ _ (by simp; omega) (fun j v hj => by rw [add_ad]; exact (hyblk.take _).cell hj)
                rw [ex, ey]
                simp only [Builtin.copy_, run_underlying hd, Builtin.lenOf, hse, hf, goInt, Sem.run_bind, Sem.run_pure, Result.andThen_ok, List.getElem?_toArray, List.getElem?_cons_zero, List.getElem?_cons_succ, hrun]
            · cases hv
        · cases hv
      · cases hv
    · cases hc
  | _ => rw [ho] at hc; simp [effChk2, effChk] at hc
theorem eff_clr {sz : Nat} {zero : List A1} {x : AX} (h : Rel F w0 G s a w) (hc : effChk2 P o.op (.clr sz zero x) = true) (hv : effOp2 s d (.clr sz zero x) = some (sv, s')) : Done P F w0 o a w sv s' := by
  cases ho : o.op with
  | call c =>
    rw [ho] at hc
    simp only [effChk2] at hc
    split at hc
    · rename_i p t hb
      obtain rfl := bCall_spec hb
      simp only [Bool.and_eq_true, decide_eq_true_eq, beq_iff_eq] at hc
      obtain ⟨⟨⟨ht, rfl⟩, hsz⟩, h1⟩ := hc
      obtain ⟨dd, hd, hdb⟩ := tyB_spec ht
      cases dd <;> simp at hdb
      rename_i e
      obtain ⟨i, z, hi, hz, hzr, hzl⟩ := zeroB_spec hdb
      have key : ∀ v w', (∀ ty, (Builtin.clear_ #[t] ty #[a.eval p]).run P w = .ok v w') → (execOp a.eval o).run P w = .ok (.value v) w' := by
        intro v w' hr
        simp [execOp, ho, resolve, invoke, builtin, hr]
      simp only [effOp2] at hv
      split at hv
      · rename_i ax hax
        have hx := eval_one h h1 hax
        unfold clrSt at hv
        split at hv
        · rename_i t' p' off n
          obtain ⟨A, c, ex, hn, hrow, hat, _⟩ := hx
          split at hv
          · rename_i hn0
            subst hn0
            cases hv
            refine ⟨_, _, _, G, key _ _ (fun ty => ?_), .inl rfl, h, [], rfl, .nil⟩
            rw [ex]
            cases A <;> simp [Builtin.clear_, run_underlying hd]
          · rename_i hn0
            obtain ⟨s2, hs2, he⟩ := Option.map_eq_some_iff.1 hv
            cases he
            have hc0 : c ≠ 0 := by have := hn.1; omega
            have hrel := zerosB_rel (G := G) (s := s) (w := w) hzr
            have hzsz : z.cells.size = zero.length := by have := hrel.1; simpa using this.symm
            have hreps := reps_rel hrel n
            cases A with
            | none => exact absurd (hn.2 rfl) hc0
            | some A =>
              obtain ⟨w', G', hrun, hrel'⟩ := stoRow_ok (P := P) h (hat.resolve_left hc0) hreps hs2
              refine ⟨_, _, w', G', key _ _ (fun ty => ?_), .inl rfl, hrel', [], rfl, .nil⟩
              have hzero : (zeroValue e).run P w = .ok z w := by simp [zeroValue, typeInfo, hi, hz]
              rw [ex]
              obtain ⟨n, rfl⟩ : ∃ n', n = n' + 1 := ⟨n - 1, by omega⟩
              rw [← hzsz] at hrun
              simp only [Array.toList_map, Array.toList_range] at hrun
              simp [Builtin.clear_, run_underlying hd, hzero, Builtin.zeroCells, hrun]
        · cases hv
          refine ⟨_, _, _, G, key _ _ (fun ty => ?_), .inl rfl, h, [], rfl, .nil⟩
          obtain ⟨A, hx⟩ := hx
          rw [hx]
          have hsize : (sizeOf e).run P w = .ok i.size w := by simp [sizeOf, typeInfo, hi]
          have hzero : (zeroValue e).run P w = .ok z w := by simp [zeroValue, typeInfo, hi, hz]
          cases A <;> simp [Builtin.clear_, run_underlying hd]
        · cases hv
      · cases hv
    · cases hc
  | _ => rw [ho] at hc; simp [effChk2, effChk] at hc
end
end Go.Proofs.YtbdokibepndibaaGreat.Eng
