/- Zo2b, as one text. -/
import Derived.Test.YtbdokibepndibaaGreatCG10
namespace Go.Proofs.YtbdokibepndibaaGreat.Eng.C
set_option linter.unusedSimpArgs false
set_option linter.unusedVariables false
set_option maxHeartbeats 16000000
set_option maxRecDepth 100000
open Go.RowKit Go.Proofs
attribute [local simp] x_seq x_cond x_block x_region x_skip x_exit x_ret head_id runG runOps doOp wantB stepOp AO.eff pureOp St.get St.one St.num St.put St.optNum binA binInt gOp gOp0 gOpL gResL updO gRes gEff addObs_nil addObs_one freshB_memL freshB_none freshB_upd freshB_addMem freshB_addObs effOp2 effOp memL_app stoRow cellsAt toCells toCell scalar_int scalar_bool scalar_str scalar_sl updAt fromRo callRO addMem_nil roArgs roL roA srcCells A1.ownB addMem shift ren SV.map Ob.map Ob.noRo SV.noRo A1.noRo resOf resSV SV.ids A1.ids reach allObs pos St.canon A1.slB flat_int cl_flat' St.parts Eng.inB reps fillA newRowSt appSt oldOf

/-! What is heard and copied. -/
theorem step_Link_b (n : PNode) (hc : n.conn.length = 3) (hk : n.copies.length = 3) (hy : n.sync.length = 3) (i : Nat) (hi : i < 3) (hua : n.up = true) (hea : ((i : Int) == n.id) = true) : (linkP n i = true → ∃ z, X tab b74_0 (S_Link n i) = some (.nrm, z) ∧ head true d74_0 z = S_Link n (i + 1)) ∧ (linkP n i = false → X tab b74_0 (S_Link n i) = some (.ret, ⟨⟨[.bad, .bad, .v false [.bool (false)], .bad, .bad, .bad, .bad, .bad, .bad, .bad, .bad, .bad, .bad, .bad, .bad, .bad, .bad, .bad, .bad, .bad, .bad, .bad, .bad, .bad, .bad, .bad, .bad, .bad, .bad, .bad, .bad, .bad, .bad, .bad, .bad, .bad, .bad, .bad, .bad, .bad, .bad, .bad, .bad, .bad, .bad, .bad, .bad, .bad, .bad, .bad, .bad, .bad, .bad, .bad, .bad, .bad, .bad, .bad, .bad, .bad, .bad, .bad, .bad, .bad, .bad, .bad, .bad, .bad, .bad, .bad, .bad, .bad, .bad, .bad, .bad, .bad, .bad, .bad, .bad, .bad, .bad, .bad, .bad, .bad, .bad, .bad, .bad, .bad, .bad, .bad, .bad, .bad, .bad, .bad, .bad, .bad, .bad, .bad, .bad, .bad, .bad, .bad, .bad, .bad, .bad, .bad, .bad, .bad, .bad, .bad, .bad, .bad, .bad, .bad, .bad, .bad, .bad, .bad, .bad, .bad, .bad, .bad, .bad, .bad, .bad, .bad, .bad, .bad, .bad, .bad, .bad, .bad, .bad, .bad, .bad, .bad, .bad, .bad, .bad, .bad, .bad, .bad, .bad, .bad, .bad, .bad, .bad, .bad, .bad, .bad, .bad, .bad, .bad, .bad, .bad, .bad, .bad, .bad, .bad, .bad, .bad, .bad, .bad, .bad], memL [], []⟩, 0⟩)) := by
  have d1 := cb_at (dropx_getD (l := n.conn) (i := i) false (by omega))
  have d2 := cb_at (dropx_getD (l := n.copies) (i := i) false (by omega))
  have d3 := intss_at (dropx_getD (l := n.sync) (i := i) [] (by omega))
  simp only [intsC] at d3
  have h1 : (0 ≤ (i : Int) ∧ (i : Int) < 3) := by omega
  have h4 := wrap_next hi (show 3 ≤ 281474976710656 by omega)
  have hi' : i < 3 := hi
  unfold linkP
  simp only [S_Link, nodeC, intsC, intssC, bytesC, boolsC, hc, hk, hy]
  generalize n.conn.getD i false = c at *
  generalize n.copies.getD i false = k at *
  generalize n.sync.getD i [] = s at *
  rw [hua]
  have he := hea
  have e0 : ∀ b : Bool, ((0 : Int) < (s.length : Int)) = (0 < s.length) := fun _ => by apply propext; omega
  have e0 := e0 true
  cases c with
  | true =>
    refine ⟨fun hp => ?_, fun hp => ?_⟩ <;> first
    | (exfalso; simp [he] at hp; done)
    | (simp (maxSteps := 4000000) -implicitDefEqProofs [b74_0, List.take, List.drop, List.range, List.range.loop, fromRo, bne, d1, d2, d3, h1, h4, hi', e0, he]
       change _ = _
       kernel_rfl)
  | false =>
    cases k with
    | true =>
      refine ⟨fun hp => ?_, fun hp => ?_⟩ <;> first
      | (exfalso; simp [he] at hp; done)
      | (simp (maxSteps := 4000000) -implicitDefEqProofs [b74_0, List.take, List.drop, List.range, List.range.loop, fromRo, bne, d1, d2, d3, h1, h4, hi', e0, he]
         change _ = _
         kernel_rfl)
    | false =>
      by_cases hs : 0 < s.length
      · refine ⟨fun hp => ?_, fun hp => ?_⟩ <;> first
        | (exfalso; simp [he, hs] at hp; done)
        | (simp (maxSteps := 4000000) -implicitDefEqProofs [b74_0, List.take, List.drop, List.range, List.range.loop, fromRo, bne, d1, d2, d3, h1, h4, hi', e0, he, hs]
           change _ = _
           kernel_rfl)
      · refine ⟨fun hp => ?_, fun hp => ?_⟩ <;> first
        | (exfalso; simp [he, hs] at hp; done)
        | (simp (maxSteps := 4000000) -implicitDefEqProofs [b74_0, List.take, List.drop, List.range, List.range.loop, fromRo, bne, d1, d2, d3, h1, h4, hi', e0, he, hs]
           change _ = _
           kernel_rfl)
end Go.Proofs.YtbdokibepndibaaGreat.Eng.C
