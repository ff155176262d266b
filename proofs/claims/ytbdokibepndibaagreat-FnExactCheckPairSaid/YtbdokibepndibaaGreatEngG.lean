/- An interpreter of the model's code over tagged trees: the library's Grow of nothing, by the proved roads of the shelf. -/
import Derived.Test.YtbdokibepndibaaGreatEngI
import Derived.Shelf.Spec.SlicesGrow
namespace Go.Proofs.YtbdokibepndibaaGreat.Eng
open Go.RowKit Go.Shelf

/-- The function is the library's Grow, of elements of sz cells. -/
def Grw (P : Program) (f : FuncId) (sz bytes : Nat) : Prop :=
  ∃ ρ : Ren, Lays8.n4 P ρ ∧ ρ.f 4 = f ∧ ∃ i0 z, P.info? (ρ.t 25) = some i0 ∧ i0.zero = some z ∧ i0.size = sz ∧ i0.bytes = bytes ∧ 0 < sz ∧ z.cells.size = sz
def grwSt (s : St) (d sz bytes : Nat) (ax : A1) (k : Int) : Option (SV × St) :=
  match ax with
  | .nil => if k = 0 then some (.v false [.nil], s) else if 0 < k ∧ k.toNat * bytes ≤ 140737488355328 ∧ k ≤ 4611686018427387904 then newRowSt s d sz 0 [] [] else none
  | _ => none
section
variable {P : Program} {F : Own} {w0 : World} {G : Gh} {s s' : St} {a : Act} {w : World} {sv : SV} {d : Nat}
theorem grw_ok {f : FuncId} {sz bytes : Nat} (hI : Grw P f sz bytes) (h : Rel F w0 G s a w) {ax : A1} {k : Int} {vx : Value} (hx : A1Rel G s.mem w ax vx) (hv : grwSt s d sz bytes ax k = some (sv, s')) :
    Calls P f #[vx, .int .i64 k] w fun e w' => match e with | .returned v => ∃ G', Rel F w0 G' s' a w' ∧ SRel G' s'.mem w' sv v | _ => False := by
  obtain ⟨ρ, L, rfl, i0, z, hi, hz, rfl, rfl, hsz, hzc⟩ := hI
  unfold grwSt at hv
  split at hv
  · obtain ⟨A, rfl⟩ := hx
    split at hv
    · rename_i hk
      cases hv
      subst hk
      refine (Any8.slices_Grow_room L A 0 0 0 w (Nat.le_refl _) (by omega) (by omega) (Nat.le_refl _)).mono fun e w' he => ?_
      obtain ⟨rfl, rfl⟩ := he
      exact ⟨G, h, _, rfl, A, rfl⟩
    · rename_i hk
      split at hv
      · rename_i hc
        obtain ⟨hk0, hb, hk2⟩ := hc
        obtain ⟨n, rfl⟩ : ∃ n : Nat, k = n := ⟨k.toNat, by omega⟩
        rw [Int.toNat_natCast] at hb
        have hge := grownCap_ge w (0 + n) 0 (ρ.t 25)
        have hmx := grownCap_le_maxLen w (0 + n) 0 (ρ.t 25) (by unfold maxLen; omega)
        unfold maxLen at hmx
        refine (Any8.slices_Grow_grow L i0 z hi hz hsz A 0 0 n [] w (Nat.le_refl _) (by omega) (by rw [Nat.zero_add]; exact hb) (by omega) (by simp) (fun _ => rfl) (fun _ _ _ _ hj => by simp at hj)).mono fun e w' he => ?_
        obtain ⟨rfl, rfl⟩ := he
        generalize grownCap w (0 + n) 0 (ρ.t 25) = gc at hge hmx ⊢
        refine newRowSt_ok (vs := []) (fp := []) h hv ⟨rfl, rfl, rfl, ρ.t 25, rfl⟩ hsz .nil (by simp) (by simp) (by simp) (fun j x hx => by simp at hx) (Nat.zero_le _) (by simp) ?_ hmx
        simp only [Array.size_append, List.size_toArray, List.length_nil, size_zeroCells, hzc]
        have e : gc * i0.size = ((0 + n - 0) + (gc - (0 + n))) * i0.size := by congr 1; omega
        rw [e, Nat.add_mul]
        omega
      · cases hv
  · cases hv
end
end Go.Proofs.YtbdokibepndibaaGreat.Eng
