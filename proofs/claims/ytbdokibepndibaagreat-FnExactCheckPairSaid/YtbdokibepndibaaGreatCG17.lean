/- Zx, Zy, Zz, ZzL, as one text. -/
import Derived.Test.YtbdokibepndibaaGreatCG16
import Derived.Test.YtbdokibepndibaaGreatCG15
import Derived.Test.YtbdokibepndibaaGreatCG4
import Derived.Test.YtbdokibepndibaaGreatCG3
namespace Go.Proofs.YtbdokibepndibaaGreat.Eng.C
set_option linter.unusedSimpArgs false
set_option linter.unusedVariables false
set_option maxHeartbeats 16000000
set_option maxRecDepth 100000
open Go.RowKit Go.Proofs
attribute [local simp] x_seq x_cond x_block x_region x_skip x_exit x_ret head_id runG runOps doOp wantB stepOp AO.eff pureOp St.get St.one St.num St.put St.optNum binA binInt gOp gOp0 gOpL gResL updO gRes gEff addObs_nil addObs_one freshB_memL freshB_none freshB_upd freshB_addMem freshB_addObs effOp2 effOp memL_app stoRow cellsAt toCells toCell scalar_int scalar_bool scalar_str scalar_sl updAt fromRo callRO addMem_nil roArgs roL roA srcCells A1.ownB addMem shift ren SV.map Ob.map Ob.noRo SV.noRo A1.noRo resOf resSV SV.ids A1.ids reach allObs pos St.canon A1.slB flat_int cl_flat' St.parts Eng.inB reps fillA newRowSt appSt oldOf

def imgK (w : PWorld) (n : PNode) (k : Nat) : Bool := !decide ((w.log.length : Int) < n.image.getD k 0)
def S_sImg (w : PWorld) (n : PNode) (i k : Nat) : XS := ⟨⟨[.bad, .v false [.pc (worldC w)], .bad, .v false [.int .i64 (i)], .v false [.pr 0 [] 0], .v false [.int .i64 (k)], .bad, .bad, .bad, .bad, .bad, .bad, .bad, .bad, .bad, .bad, .bad, .bad, .bad, .bad, .bad, .bad, .bad, .bad, .bad, .bad, .bad, .bad, .bad, .bad, .bad, .bad, .bad, .bad, .bad, .bad, .bad, .bad, .bad, .bad, .bad, .bad, .bad, .bad, .bad, .bad, .bad, .bad, .bad, .bad, .bad, .bad, .bad, .bad, .bad, .bad, .bad, .bad, .bad, .bad, .bad, .bad, .bad, .bad, .bad, .bad, .bad, .bad, .bad, .bad, .bad, .bad, .bad, .bad, .bad, .bad, .bad, .bad, .bad, .bad, .bad, .bad, .bad, .bad, .bad, .bad, .bad, .bad, .bad, .bad, .bad, .bad, .bad, .bad, .bad, .bad, .bad, .bad, .bad, .bad, .bad, .bad, .bad, .bad, .bad, .bad, .bad, .bad, .bad, .bad, .bad, .bad, .bad, .bad, .bad, .bad, .bad, .bad, .bad, .bad, .bad, .bad, .bad, .bad, .bad, .bad, .bad], memL [some (.box (nodeA n))], []⟩, 1⟩
theorem loop_sImg (w : PWorld) (n : PNode) (h8 : n.image.length = 8) (i : Nat) {x : XS} (hx : head true d17_1 x = S_sImg w n i 0) : X tab l17_1 x = if allN 8 (imgK w n) = true then some (.exit 2, ⟨⟨[.bad, .v false [.pc (worldC w)], .bad, .v false [.int .i64 (i)], .bad, .bad, .bad, .bad, .bad, .bad, .bad, .bad, .bad, .bad, .bad, .bad, .bad, .bad, .bad, .bad, .bad, .bad, .bad, .bad, .bad, .bad, .bad, .bad, .bad, .bad, .bad, .bad, .bad, .bad, .bad, .bad, .bad, .bad, .bad, .bad, .bad, .bad, .bad, .bad, .bad, .bad, .bad, .bad, .bad, .bad, .bad, .bad, .bad, .bad, .bad, .bad, .bad, .bad, .bad, .bad, .bad, .bad, .bad, .bad, .bad, .bad, .bad, .bad, .bad, .bad, .bad, .bad, .bad, .bad, .bad, .bad, .bad, .bad, .bad, .bad, .bad, .bad, .bad, .bad, .bad, .bad, .bad, .bad, .bad, .bad, .bad, .bad, .bad, .bad, .bad, .bad, .bad, .bad, .bad, .bad, .bad, .bad, .bad, .bad, .bad, .bad, .bad, .bad, .bad, .bad, .bad, .bad, .bad, .bad, .bad, .bad, .bad, .bad, .bad, .bad, .bad, .bad, .bad, .bad, .bad, .bad, .bad], memL [], []⟩, 0⟩) else some (.ret, ⟨⟨[.bad, .bad, .v false [.bool (false)], .bad, .bad, .bad, .bad, .bad, .bad, .bad, .bad, .bad, .bad, .bad, .bad, .bad, .bad, .bad, .bad, .bad, .bad, .bad, .bad, .bad, .bad, .bad, .bad, .bad, .bad, .bad, .bad, .bad, .bad, .bad, .bad, .bad, .bad, .bad, .bad, .bad, .bad, .bad, .bad, .bad, .bad, .bad, .bad, .bad, .bad, .bad, .bad, .bad, .bad, .bad, .bad, .bad, .bad, .bad, .bad, .bad, .bad, .bad, .bad, .bad, .bad, .bad, .bad, .bad, .bad, .bad, .bad, .bad, .bad, .bad, .bad, .bad, .bad, .bad, .bad, .bad, .bad, .bad, .bad, .bad, .bad, .bad, .bad, .bad, .bad, .bad, .bad, .bad, .bad, .bad, .bad, .bad, .bad, .bad, .bad, .bad, .bad, .bad, .bad, .bad, .bad, .bad, .bad, .bad, .bad, .bad, .bad, .bad, .bad, .bad, .bad, .bad, .bad, .bad, .bad, .bad, .bad, .bad, .bad, .bad, .bad, .bad, .bad], memL [], []⟩, 0⟩) := by
  have gen : ∀ k, k < 8 → (imgK w n k = true → ∃ z, X tab b17_1 (S_sImg w n i k) = some (.nrm, z) ∧ head true d17_1 z = S_sImg w n i (k + 1)) ∧ (imgK w n k = false → X tab b17_1 (S_sImg w n i k) = some (.ret, ⟨⟨[.bad, .bad, .v false [.bool (false)], .bad, .bad, .bad, .bad, .bad, .bad, .bad, .bad, .bad, .bad, .bad, .bad, .bad, .bad, .bad, .bad, .bad, .bad, .bad, .bad, .bad, .bad, .bad, .bad, .bad, .bad, .bad, .bad, .bad, .bad, .bad, .bad, .bad, .bad, .bad, .bad, .bad, .bad, .bad, .bad, .bad, .bad, .bad, .bad, .bad, .bad, .bad, .bad, .bad, .bad, .bad, .bad, .bad, .bad, .bad, .bad, .bad, .bad, .bad, .bad, .bad, .bad, .bad, .bad, .bad, .bad, .bad, .bad, .bad, .bad, .bad, .bad, .bad, .bad, .bad, .bad, .bad, .bad, .bad, .bad, .bad, .bad, .bad, .bad, .bad, .bad, .bad, .bad, .bad, .bad, .bad, .bad, .bad, .bad, .bad, .bad, .bad, .bad, .bad, .bad, .bad, .bad, .bad, .bad, .bad, .bad, .bad, .bad, .bad, .bad, .bad, .bad, .bad, .bad, .bad, .bad, .bad, .bad, .bad, .bad, .bad, .bad, .bad, .bad], memL [], []⟩, 0⟩)) := by
    intro k hk
    have k1 : (0 ≤ (k : Int) ∧ (k : Int) < 8) := by omega
    have h4 := wrap_next hk (show 8 ≤ 281474976710656 by omega)
    have d := cl_at (k := .i64) (drop_getD' (l := n.image) (i := k) (by omega))
    unfold imgK
    simp only [S_sImg, worldC, nodeA, h8]
    generalize n.image.getD k 0 = y at *
    by_cases hl : (w.log.length : Int) < y
    · refine ⟨fun hp => by simp [hl] at hp, fun _ => ?_⟩
      simp (maxSteps := 4000000) -implicitDefEqProofs [b17_1, List.take, List.drop, upd, List.range, List.range.loop, spl, fromRo, k1, h4, d, hl, hk]
      change _ = _
      kernel_rfl
    · refine ⟨fun _ => ?_, fun hp => by simp [hl] at hp⟩
      simp (maxSteps := 4000000) -implicitDefEqProofs [b17_1, List.take, List.drop, upd, List.range, List.range.loop, spl, fromRo, k1, h4, d, hl, hk]
      change _ = _
      kernel_rfl
  refine loopAll 8 (S_sImg w n i) _ _ _ (by simp) (by simp) (fun k hk hp _ => (gen k hk).1 hp) (fun k hk hp _ => (gen k hk).2 hp) (fun _ => ?_) hx
  simp only [S_sImg, worldC, nodeA]
  simp (maxSteps := 4000000) -implicitDefEqProofs [b17_1, List.take, List.drop, fromRo]
  change _ = _
  kernel_rfl
def sNodeP (w : PWorld) (i : Nat) : Bool := ((w.nodes.getD i nodeD).id == (i : Int)) && nodeOk (w.nodes.getD i nodeD) && !decide ((w.log.length : Int) < (w.nodes.getD i nodeD).mt.last) && allN 8 (imgK w (w.nodes.getD i nodeD))
def S_sNodes (w : PWorld) (i : Nat) : XS := ⟨⟨[.bad, .v false [.pc (worldC w)], .bad, .v false [.int .i64 (i)], .bad, .bad, .bad, .bad, .bad, .bad, .bad, .bad, .bad, .bad, .bad, .bad, .bad, .bad, .bad, .bad, .bad, .bad, .bad, .bad, .bad, .bad, .bad, .bad, .bad, .bad, .bad, .bad, .bad, .bad, .bad, .bad, .bad, .bad, .bad, .bad, .bad, .bad, .bad, .bad, .bad, .bad, .bad, .bad, .bad, .bad, .bad, .bad, .bad, .bad, .bad, .bad, .bad, .bad, .bad, .bad, .bad, .bad, .bad, .bad, .bad, .bad, .bad, .bad, .bad, .bad, .bad, .bad, .bad, .bad, .bad, .bad, .bad, .bad, .bad, .bad, .bad, .bad, .bad, .bad, .bad, .bad, .bad, .bad, .bad, .bad, .bad, .bad, .bad, .bad, .bad, .bad, .bad, .bad, .bad, .bad, .bad, .bad, .bad, .bad, .bad, .bad, .bad, .bad, .bad, .bad, .bad, .bad, .bad, .bad, .bad, .bad, .bad, .bad, .bad, .bad, .bad, .bad, .bad, .bad, .bad, .bad, .bad], memL [], []⟩, 0⟩
theorem loop_sNodes (w : PWorld) (hw : WfW w) (hs : SmW w) (h3 : w.nodes.length = 3) {x : XS} (hx : head true d17_0 x = S_sNodes w 0) : X tab l17_0 x = if allN 3 (sNodeP w) = true then some (.exit 0, ⟨⟨[.bad, .v false [.pc (worldC w)], .bad, .bad, .bad, .bad, .bad, .bad, .bad, .bad, .bad, .bad, .bad, .bad, .bad, .bad, .bad, .bad, .bad, .bad, .bad, .bad, .bad, .bad, .bad, .bad, .bad, .bad, .bad, .bad, .bad, .bad, .bad, .bad, .bad, .bad, .bad, .bad, .bad, .bad, .bad, .bad, .bad, .bad, .bad, .bad, .bad, .bad, .bad, .bad, .bad, .bad, .bad, .bad, .bad, .bad, .bad, .bad, .bad, .bad, .bad, .bad, .bad, .bad, .bad, .bad, .bad, .bad, .bad, .bad, .bad, .bad, .bad, .bad, .bad, .bad, .bad, .bad, .bad, .bad, .bad, .bad, .bad, .bad, .bad, .bad, .bad, .bad, .bad, .bad, .bad, .bad, .bad, .bad, .bad, .bad, .bad, .bad, .bad, .bad, .bad, .bad, .bad, .bad, .bad, .bad, .bad, .bad, .bad, .bad, .bad, .bad, .bad, .bad, .bad, .bad, .bad, .bad, .bad, .bad, .bad, .bad, .bad, .bad, .bad, .bad, .bad], memL [], []⟩, 0⟩) else some (.ret, ⟨⟨[.bad, .bad, .v false [.bool (false)], .bad, .bad, .bad, .bad, .bad, .bad, .bad, .bad, .bad, .bad, .bad, .bad, .bad, .bad, .bad, .bad, .bad, .bad, .bad, .bad, .bad, .bad, .bad, .bad, .bad, .bad, .bad, .bad, .bad, .bad, .bad, .bad, .bad, .bad, .bad, .bad, .bad, .bad, .bad, .bad, .bad, .bad, .bad, .bad, .bad, .bad, .bad, .bad, .bad, .bad, .bad, .bad, .bad, .bad, .bad, .bad, .bad, .bad, .bad, .bad, .bad, .bad, .bad, .bad, .bad, .bad, .bad, .bad, .bad, .bad, .bad, .bad, .bad, .bad, .bad, .bad, .bad, .bad, .bad, .bad, .bad, .bad, .bad, .bad, .bad, .bad, .bad, .bad, .bad, .bad, .bad, .bad, .bad, .bad, .bad, .bad, .bad, .bad, .bad, .bad, .bad, .bad, .bad, .bad, .bad, .bad, .bad, .bad, .bad, .bad, .bad, .bad, .bad, .bad, .bad, .bad, .bad, .bad, .bad, .bad, .bad, .bad, .bad, .bad], memL [], []⟩, 0⟩) := by
  have gen : ∀ i, i < 3 → (sNodeP w i = true → ∃ z, X tab b17_0 (S_sNodes w i) = some (.nrm, z) ∧ head true d17_0 z = S_sNodes w (i + 1)) ∧ (sNodeP w i = false → X tab b17_0 (S_sNodes w i) = some (.ret, ⟨⟨[.bad, .bad, .v false [.bool (false)], .bad, .bad, .bad, .bad, .bad, .bad, .bad, .bad, .bad, .bad, .bad, .bad, .bad, .bad, .bad, .bad, .bad, .bad, .bad, .bad, .bad, .bad, .bad, .bad, .bad, .bad, .bad, .bad, .bad, .bad, .bad, .bad, .bad, .bad, .bad, .bad, .bad, .bad, .bad, .bad, .bad, .bad, .bad, .bad, .bad, .bad, .bad, .bad, .bad, .bad, .bad, .bad, .bad, .bad, .bad, .bad, .bad, .bad, .bad, .bad, .bad, .bad, .bad, .bad, .bad, .bad, .bad, .bad, .bad, .bad, .bad, .bad, .bad, .bad, .bad, .bad, .bad, .bad, .bad, .bad, .bad, .bad, .bad, .bad, .bad, .bad, .bad, .bad, .bad, .bad, .bad, .bad, .bad, .bad, .bad, .bad, .bad, .bad, .bad, .bad, .bad, .bad, .bad, .bad, .bad, .bad, .bad, .bad, .bad, .bad, .bad, .bad, .bad, .bad, .bad, .bad, .bad, .bad, .bad, .bad, .bad, .bad, .bad, .bad], memL [], []⟩, 0⟩)) := by
    intro i hi
    have hmem : w.nodes.getD i nodeD ∈ w.nodes := by
      rw [List.getD_eq_getElem?_getD, List.getElem?_eq_getElem (by omega)]
      exact List.getElem_mem (by omega)
    obtain ⟨rr, hd⟩ := nodesC_d (l := w.nodes) (i := i) (by omega)
    have q1 := r_sNodeOk _ (hs.node _ hmem) (hw.nodes _ hmem)
    have i0 : (i : Int) < 3 := by omega
    have h1 : (0 ≤ (i : Int) ∧ (i : Int) < 3) := by omega
    have h4 := wrap_next hi (show 3 ≤ 281474976710656 by omega)
    unfold sNodeP
    generalize w.nodes.getD i nodeD = n at *
    have hS : S_sImg w n i 0 = ⟨⟨[.bad, .v false [.pc (worldC w)], .bad, .v false [.int .i64 (i)], .v false [.pr 0 [] 0], .v false [.int .i64 (0)], .bad, .bad, .bad, .bad, .bad, .bad, .bad, .bad, .bad, .bad, .bad, .bad, .bad, .bad, .bad, .bad, .bad, .bad, .bad, .bad, .bad, .bad, .bad, .bad, .bad, .bad, .bad, .bad, .bad, .bad, .bad, .bad, .bad, .bad, .bad, .bad, .bad, .bad, .bad, .bad, .bad, .bad, .bad, .bad, .bad, .bad, .bad, .bad, .bad, .bad, .bad, .bad, .bad, .bad, .bad, .bad, .bad, .bad, .bad, .bad, .bad, .bad, .bad, .bad, .bad, .bad, .bad, .bad, .bad, .bad, .bad, .bad, .bad, .bad, .bad, .bad, .bad, .bad, .bad, .bad, .bad, .bad, .bad, .bad, .bad, .bad, .bad, .bad, .bad, .bad, .bad, .bad, .bad, .bad, .bad, .bad, .bad, .bad, .bad, .bad, .bad, .bad, .bad, .bad, .bad, .bad, .bad, .bad, .bad, .bad, .bad, .bad, .bad, .bad, .bad, .bad, .bad, .bad, .bad, .bad, .bad], memL [some (.box (nodeA n))], []⟩, 1⟩ := rfl
    have hlp0 := fun h8 {x} => loop_sImg w n h8 i (x := x)
    simp only [nodeA] at q1 hS
    simp only [nodeC, intsC, intssC, bytesC, boolsC, List.cons_append, List.nil_append] at hd
    simp only [S_sNodes, worldC, h3] at hlp0 hS ⊢
    cases hid : (n.id == (i : Int)) with
    | false =>
      refine ⟨fun hp => by simp at hp, fun _ => ?_⟩
      simp (maxSteps := 4000000) -implicitDefEqProofs [b17_0, List.take, List.drop, upd, List.range, List.range.loop, spl, fromRo, bne, i0, h1, hd, hid, hi]
      change _ = _
      kernel_rfl
    | true =>
      cases ho : nodeOk n with
      | false =>
        rw [ho] at q1
        refine ⟨fun hp => by simp at hp, fun _ => ?_⟩
        simp (maxSteps := 4000000) -implicitDefEqProofs [b17_0, List.take, List.drop, upd, List.range, List.range.loop, spl, fromRo, bne, i0, h1, hd, q1, hid, hi]
        change _ = _
        kernel_rfl
      | true =>
        rw [ho] at q1
        by_cases hl : (w.log.length : Int) < n.mt.last
        · refine ⟨fun hp => by simp [hl] at hp, fun _ => ?_⟩
          simp (maxSteps := 4000000) -implicitDefEqProofs [b17_0, List.take, List.drop, upd, List.range, List.range.loop, spl, fromRo, bne, i0, h1, hd, q1, hid, hl, hi]
          change _ = _
          kernel_rfl
        · have h8 : n.image.length = 8 := by
            simp only [nodeOk, imageOk, Bool.and_eq_true, decide_eq_true_eq] at ho
            exact ho.1.1.1.1.1.1.1.2.1
          have hlp := fun {x} => hlp0 h8 (x := x)
          cases hb : allN 8 (imgK w n) with
          | true =>
            rw [hb] at hlp
            refine ⟨fun _ => ?_, fun hp => by simp [hl] at hp⟩
            simp (maxSteps := 4000000) -implicitDefEqProofs [b17_0, List.take, List.drop, upd, List.range, List.range.loop, spl, fromRo, bne, i0, h1, hd, q1, hid, hl, hi]
            rw [hlp (by rw [hS]; change _ = _; kernel_rfl)]
            simp (maxSteps := 4000000) -implicitDefEqProofs [List.take, List.drop, h4]
            change _ = _
            kernel_rfl
          | false =>
            rw [hb] at hlp
            refine ⟨fun hp => by simp at hp, fun _ => ?_⟩
            simp (maxSteps := 4000000) -implicitDefEqProofs [b17_0, List.take, List.drop, upd, List.range, List.range.loop, spl, fromRo, bne, i0, h1, hd, q1, hid, hl, hi]
            rw [hlp (by rw [hS]; change _ = _; kernel_rfl)]
            simp (maxSteps := 4000000) -implicitDefEqProofs [List.take, List.drop]
  refine loopAll 3 (S_sNodes w) _ _ _ (by simp) (by simp) (fun i hi hp _ => (gen i hi).1 hp) (fun i hi hp _ => (gen i hi).2 hp) (fun _ => ?_) hx
  simp only [S_sNodes, worldC]
  simp (maxSteps := 4000000) -implicitDefEqProofs [b17_0, List.take, List.drop, fromRo]
  change _ = _
  kernel_rfl
def sWorldOk (w : PWorld) : Bool := decide (w.nodes.length = 3) && decide (w.log.length ≤ 200) && rng w.gen 2 100000 && allN 3 (sNodeP w) && allN w.log.length (logP w.log) && allN w.safe.length (incP w.log.length w.safe) && linesOk w
theorem sNodeP_conn {w : PWorld} {i : Nat} (h : sNodeP w i = true) : (w.nodes.getD i nodeD).conn.length = 3 := by
  simp only [sNodeP, nodeOk, Bool.and_eq_true, decide_eq_true_eq] at h
  exact h.1.1.2.1.1.1.1.1.2.1.1
theorem r_sWorldOk (w : PWorld) (hw : WfW w) (hs : SmW w) : runRO (X tab) tab 17 [.v true (worldA w)] = some (.v false [.bool (sWorldOk w)], []) := by
  have q1 := r_l1In w.gen 2 100000
  have e200 : ((200 : Int) < (w.log.length : Int)) = ¬ (w.log.length ≤ 200) := by apply propext; omega
  have hl2 := fun {x} => loop_sLog w hs.log (x := x)
  have hl3 := fun {x} => loop_sSafe w hs.safe (x := x)
  have hS2 : S_sLog w 0 = ⟨⟨[.bad, .v false [.pc (worldC w)], .bad, .bad, .bad, .bad, .v false [.int .i64 (0)], .bad, .bad, .bad, .bad, .bad, .bad, .bad, .bad, .bad, .bad, .bad, .bad, .bad, .bad, .bad, .bad, .bad, .bad, .bad, .bad, .bad, .bad, .bad, .bad, .bad, .bad, .bad, .bad, .bad, .bad, .bad, .bad, .bad, .bad, .bad, .bad, .bad, .bad, .bad, .bad, .bad, .bad, .bad, .bad, .bad, .bad, .bad, .bad, .bad, .bad, .bad, .bad, .bad, .bad, .bad, .bad, .bad, .bad, .bad, .bad, .bad, .bad, .bad, .bad, .bad, .bad, .bad, .bad, .bad, .bad, .bad, .bad, .bad, .bad, .bad, .bad, .bad, .bad, .bad, .bad, .bad, .bad, .bad, .bad, .bad, .bad, .bad, .bad, .bad, .bad, .bad, .bad, .bad, .bad, .bad, .bad, .bad, .bad, .bad, .bad, .bad, .bad, .bad, .bad, .bad, .bad, .bad, .bad, .bad, .bad, .bad, .bad, .bad, .bad, .bad, .bad, .bad, .bad, .bad, .bad], memL [], []⟩, 0⟩ := rfl
  have hS3 : S_sSafe w 0 = ⟨⟨[.bad, .v false [.pc (worldC w)], .bad, .bad, .bad, .bad, .bad, .v false [.int .i64 (0)], .bad, .bad, .bad, .bad, .bad, .bad, .bad, .bad, .bad, .bad, .bad, .bad, .bad, .bad, .bad, .bad, .bad, .bad, .bad, .bad, .bad, .bad, .bad, .bad, .bad, .bad, .bad, .bad, .bad, .bad, .bad, .bad, .bad, .bad, .bad, .bad, .bad, .bad, .bad, .bad, .bad, .bad, .bad, .bad, .bad, .bad, .bad, .bad, .bad, .bad, .bad, .bad, .bad, .bad, .bad, .bad, .bad, .bad, .bad, .bad, .bad, .bad, .bad, .bad, .bad, .bad, .bad, .bad, .bad, .bad, .bad, .bad, .bad, .bad, .bad, .bad, .bad, .bad, .bad, .bad, .bad, .bad, .bad, .bad, .bad, .bad, .bad, .bad, .bad, .bad, .bad, .bad, .bad, .bad, .bad, .bad, .bad, .bad, .bad, .bad, .bad, .bad, .bad, .bad, .bad, .bad, .bad, .bad, .bad, .bad, .bad, .bad, .bad, .bad, .bad, .bad, .bad, .bad, .bad], memL [], []⟩, 0⟩ := rfl
  unfold sWorldOk
  by_cases h3 : w.nodes.length = 3
  · have h3b : ((w.nodes.length : Int) == 3) = true := by rw [beq_iff_eq]; omega
    have hl0 := fun {x} => loop_sNodes w hw hs h3 (x := x)
    have hS0 : S_sNodes w 0 = ⟨⟨[.bad, .v false [.pc (worldC w)], .bad, .v false [.int .i64 (0)], .bad, .bad, .bad, .bad, .bad, .bad, .bad, .bad, .bad, .bad, .bad, .bad, .bad, .bad, .bad, .bad, .bad, .bad, .bad, .bad, .bad, .bad, .bad, .bad, .bad, .bad, .bad, .bad, .bad, .bad, .bad, .bad, .bad, .bad, .bad, .bad, .bad, .bad, .bad, .bad, .bad, .bad, .bad, .bad, .bad, .bad, .bad, .bad, .bad, .bad, .bad, .bad, .bad, .bad, .bad, .bad, .bad, .bad, .bad, .bad, .bad, .bad, .bad, .bad, .bad, .bad, .bad, .bad, .bad, .bad, .bad, .bad, .bad, .bad, .bad, .bad, .bad, .bad, .bad, .bad, .bad, .bad, .bad, .bad, .bad, .bad, .bad, .bad, .bad, .bad, .bad, .bad, .bad, .bad, .bad, .bad, .bad, .bad, .bad, .bad, .bad, .bad, .bad, .bad, .bad, .bad, .bad, .bad, .bad, .bad, .bad, .bad, .bad, .bad, .bad, .bad, .bad, .bad, .bad, .bad, .bad, .bad, .bad], memL [], []⟩, 0⟩ := rfl
    simp only [worldC] at hl0 hl2 hl3 hS0 hS2 hS3
    by_cases h200 : w.log.length ≤ 200
    · cases hg : rng w.gen 2 100000 with
      | false =>
        rw [hg] at q1
        unfold runRO
        simp (maxSteps := 4000000) -implicitDefEqProofs [tab17, a17, List.take, List.drop, upd, rest, kill, mapMem, List.range, List.range.loop, memL, roCells, fromRo, bne, worldA, h3, h3b, e200, h200, q1]
      | true =>
        rw [hg] at q1
        unfold runRO
        simp (maxSteps := 4000000) -implicitDefEqProofs [tab17, a17, List.take, List.drop, upd, rest, kill, mapMem, List.range, List.range.loop, roCells, fromRo, bne, worldA, h3b, e200, h200, q1]
        rw [hl0 (by rw [hS0]; change _ = _; kernel_rfl)]
        cases hn : allN 3 (sNodeP w) with
        | false => simp (maxSteps := 4000000) -implicitDefEqProofs [List.take, List.drop, memL, List.range, List.range.loop]
        | true =>
          have hc3 : ∀ i, i < 3 → (w.nodes.getD i nodeD).conn.length = 3 := fun i hi => sNodeP_conn (allN_iff.1 hn i hi)
          have q9 := r_l12Lines w hs.net h3 hc3
          simp only [worldA, h3] at q9
          simp (maxSteps := 4000000) -implicitDefEqProofs [List.take, List.drop, fromRo]
          rw [hl2 (by rw [hS2]; change _ = _; kernel_rfl)]
          cases allN w.log.length (logP w.log) with
          | false => simp (maxSteps := 4000000) -implicitDefEqProofs [List.take, List.drop, memL, List.range, List.range.loop]
          | true =>
            simp (maxSteps := 4000000) -implicitDefEqProofs [List.take, List.drop, fromRo]
            rw [hl3 (by rw [hS3]; change _ = _; kernel_rfl)]
            cases allN w.safe.length (incP w.log.length w.safe) with
            | false => simp (maxSteps := 4000000) -implicitDefEqProofs [List.take, List.drop, memL, List.range, List.range.loop]
            | true => simp (maxSteps := 4000000) -implicitDefEqProofs [List.take, List.drop, List.range, List.range.loop, memL, fromRo, h3, q9]
    · unfold runRO
      simp (maxSteps := 4000000) -implicitDefEqProofs [tab17, a17, List.take, List.drop, upd, rest, kill, mapMem, List.range, List.range.loop, memL, roCells, fromRo, bne, worldA, h3b, e200, h200]
  · have h3b : ((w.nodes.length : Int) == 3) = false := by rw [beq_eq_false_iff_ne]; omega
    unfold runRO
    simp (maxSteps := 4000000) -implicitDefEqProofs [tab17, a17, List.take, List.drop, upd, rest, kill, mapMem, List.range, List.range.loop, memL, roCells, fromRo, bne, worldA, h3, h3b]

def worldOk (w : PWorld) : Bool := nodesOk w && decide (w.net.length ≤ 40) && decide (w.log.length ≤ 200) && rng w.gen 2 100000 && allN w.net.length (netP w) && allN w.log.length (logP w.log) && allN w.safe.length (incP w.log.length w.safe)
theorem nodesOk_conn {w : PWorld} (h : nodesOk w = true) : w.nodes.length = 3 ∧ ∀ i, i < 3 → (w.nodes.getD i nodeD).conn.length = 3 := by
  simp only [nodesOk, Bool.and_eq_true, decide_eq_true_eq] at h
  exact ⟨h.1.1, fun i hi => nodeP_conn (allN_iff.1 h.1.2 i (by rw [h.1.1]; exact hi))⟩
theorem r_WorldOk (w : PWorld) (hw : WfW w) (hs : SmW w) : runRO (X tab) tab 25 [.v true (worldA w)] = some (.v false [.bool (worldOk w)], []) := by
  have q0 := r_nodesOk w hw hs
  have q1 := r_from w.gen 2 100000
  have e40 : ((40 : Int) < (w.net.length : Int)) = ¬ (w.net.length ≤ 40) := by apply propext; omega
  have e200 : ((200 : Int) < (w.log.length : Int)) = ¬ (w.log.length ≤ 200) := by apply propext; omega
  have hl1 := fun {x} => loop_Log w hs.log (x := x)
  have hl2 := fun {x} => loop_Safe w hs.safe (x := x)
  have hS0 : S_Net w 0 = ⟨⟨[.bad, .v false [.pc (worldC w)], .bad, .bad, .bad, .bad, .bad, .bad, .bad, .bad, .bad, .bad, .bad, .bad, .bad, .bad, .bad, .bad, .bad, .bad, .bad, .bad, .bad, .bad, .bad, .bad, .bad, .bad, .bad, .bad, .bad, .v false [.ro w.net.length (wiresC w.net)], .v false [.int .i64 (w.net.length)], .v false [.int .i64 (0)], .bad, .bad, .bad, .bad, .bad, .bad, .bad, .bad, .bad, .bad, .bad, .bad, .bad, .bad, .bad, .bad, .bad, .bad, .bad, .bad, .bad, .bad, .bad, .bad, .bad, .bad, .bad, .bad, .bad, .bad, .bad, .bad, .bad, .bad, .bad, .bad, .bad, .bad, .bad, .bad, .bad, .bad, .bad, .bad, .bad, .bad, .bad, .bad, .bad, .bad, .bad, .bad, .bad, .bad, .bad, .bad, .bad, .bad, .bad, .bad, .bad, .bad, .bad, .bad, .bad, .bad, .bad, .bad, .bad, .bad, .bad, .bad, .bad, .bad, .bad, .bad, .bad, .bad, .bad, .bad, .bad, .bad, .bad, .bad, .bad, .bad, .bad, .bad, .bad, .bad], memL [], []⟩, 0⟩ := rfl
  have hS1 : S_Log w 0 = ⟨⟨[.bad, .v false [.pc (worldC w)], .bad, .bad, .bad, .bad, .bad, .bad, .bad, .bad, .bad, .bad, .bad, .bad, .bad, .bad, .bad, .bad, .bad, .bad, .bad, .bad, .bad, .bad, .bad, .bad, .bad, .bad, .bad, .bad, .bad, .bad, .bad, .bad, .bad, .bad, .bad, .bad, .bad, .bad, .bad, .bad, .bad, .bad, .bad, .bad, .bad, .bad, .bad, .bad, .bad, .bad, .bad, .bad, .bad, .bad, .bad, .bad, .bad, .bad, .bad, .bad, .bad, .bad, .bad, .bad, .bad, .bad, .bad, .bad, .bad, .bad, .bad, .bad, .bad, .bad, .v false [.ro w.log.length (recsC w.log)], .v false [.int .i64 (w.log.length)], .v false [.int .i64 (0)], .bad, .bad, .bad, .bad, .bad, .bad, .bad, .bad, .bad, .bad, .bad, .bad, .bad, .bad, .bad, .bad, .bad, .bad, .bad, .bad, .bad, .bad, .bad, .bad, .bad, .bad, .bad, .bad, .bad, .bad, .bad, .bad, .bad, .bad, .bad, .bad, .bad, .bad, .bad, .bad, .bad, .bad, .bad, .bad, .bad], memL [], []⟩, 0⟩ := rfl
  have hS2 : S_Safe w 0 = ⟨⟨[.bad, .v false [.pc (worldC w)], .bad, .bad, .bad, .bad, .bad, .bad, .bad, .bad, .bad, .bad, .bad, .bad, .bad, .bad, .bad, .bad, .bad, .bad, .bad, .bad, .bad, .bad, .bad, .bad, .bad, .bad, .bad, .bad, .bad, .bad, .bad, .bad, .bad, .bad, .bad, .bad, .bad, .bad, .bad, .bad, .bad, .bad, .bad, .bad, .bad, .bad, .bad, .bad, .bad, .bad, .bad, .bad, .bad, .bad, .bad, .bad, .bad, .bad, .bad, .bad, .bad, .bad, .bad, .bad, .bad, .bad, .bad, .bad, .bad, .bad, .bad, .bad, .bad, .bad, .bad, .bad, .bad, .bad, .bad, .bad, .bad, .bad, .bad, .bad, .bad, .bad, .bad, .bad, .bad, .bad, .bad, .bad, .bad, .bad, .v false [.ro w.safe.length (cl .i64 w.safe)], .v false [.int .i64 (w.safe.length)], .v false [.int .i64 (0)], .bad, .bad, .bad, .bad, .bad, .bad, .bad, .bad, .bad, .bad, .bad, .bad, .bad, .bad, .bad, .bad, .bad, .bad, .bad, .bad, .bad, .bad, .bad, .bad, .bad], memL [], []⟩, 0⟩ := rfl
  simp only [worldA] at q0
  unfold worldOk
  obtain ⟨no, hno⟩ : ∃ no, nodesOk w = no := ⟨_, rfl⟩
  rw [hno] at q0
  rw [hno]
  cases no with
  | false =>
    unfold runRO
    simp (maxSteps := 4000000) -implicitDefEqProofs [tab25, a25, List.take, List.drop, upd, rest, kill, mapMem, List.range, List.range.loop, memL, roCells, fromRo, worldA, q0]
  | true =>
    obtain ⟨h3, hc3⟩ := nodesOk_conn hno
    have hl0 := fun {x} => loop_Net w hs.net h3 hc3 (x := x)
    simp only [worldC] at hl0 hl1 hl2 hS0 hS1 hS2
    by_cases h40 : w.net.length ≤ 40
    · by_cases h200 : w.log.length ≤ 200
      · cases hg : rng w.gen 2 100000 with
        | false =>
          rw [hg] at q1
          unfold runRO
          simp (maxSteps := 4000000) -implicitDefEqProofs [tab25, a25, List.take, List.drop, upd, rest, kill, mapMem, List.range, List.range.loop, memL, roCells, fromRo, worldA, q0, q1, e40, e200, h40, h200]
        | true =>
          rw [hg] at q1
          unfold runRO
          simp (maxSteps := 4000000) -implicitDefEqProofs [tab25, a25, List.take, List.drop, upd, rest, kill, mapMem, List.range, List.range.loop, roCells, fromRo, worldA, q0, q1, e40, e200, h40, h200]
          rw [hl0 (by rw [hS0]; change _ = _; kernel_rfl)]
          cases allN w.net.length (netP w) with
          | false => simp (maxSteps := 4000000) -implicitDefEqProofs [List.take, List.drop, memL, List.range, List.range.loop]
          | true =>
            simp (maxSteps := 4000000) -implicitDefEqProofs [List.take, List.drop, fromRo]
            rw [hl1 (by rw [hS1]; change _ = _; kernel_rfl)]
            cases allN w.log.length (logP w.log) with
            | false => simp (maxSteps := 4000000) -implicitDefEqProofs [List.take, List.drop, memL, List.range, List.range.loop]
            | true =>
              simp (maxSteps := 4000000) -implicitDefEqProofs [List.take, List.drop, fromRo]
              rw [hl2 (by rw [hS2]; change _ = _; kernel_rfl)]
              cases allN w.safe.length (incP w.log.length w.safe) with
              | false => simp (maxSteps := 4000000) -implicitDefEqProofs [List.take, List.drop, memL, List.range, List.range.loop]
              | true => simp (maxSteps := 4000000) -implicitDefEqProofs [List.take, List.drop, memL, List.range, List.range.loop]
      · unfold runRO
        simp (maxSteps := 4000000) -implicitDefEqProofs [tab25, a25, List.take, List.drop, upd, rest, kill, mapMem, List.range, List.range.loop, memL, roCells, fromRo, worldA, q0, e40, e200, h40, h200]
    · unfold runRO
      simp (maxSteps := 4000000) -implicitDefEqProofs [tab25, a25, List.take, List.drop, upd, rest, kill, mapMem, List.range, List.range.loop, memL, roCells, fromRo, worldA, q0, e40, h40]
/-! The same word. -/
theorem not_any (l : List Int) (p : Int → Bool) : (!l.any p) = l.all fun x => !p x := by
  induction l with
  | nil => rfl
  | cons x r ih => rw [List.any_cons, List.all_cons, ← ih, Bool.not_or]
theorem img_eq {w : PWorld} {n : PNode} (h8 : n.image.length = 8) : (!imgP w n) = allN 8 (imgK w n) := by
  have e : (n.image.all fun x => !decide ((w.log.length : Int) < x)) = allN n.image.length (fun k => !decide ((w.log.length : Int) < n.image.getD k 0)) := all_allN n.image 0 _
  rw [h8] at e
  show (!imgP w n) = allN 8 (fun k => !decide ((w.log.length : Int) < n.image.getD k 0))
  rw [← e]
  unfold imgP
  exact not_any _ _
theorem nodeP_eq (w : PWorld) (i : Nat) : nodeP w i = sNodeP w i := by
  unfold nodeP sNodeP
  generalize w.nodes.getD i nodeD = n
  cases ho : nodeOk n with
  | false => simp
  | true =>
    have h8 : n.image.length = 8 := by
      simp only [nodeOk, imageOk, Bool.and_eq_true, decide_eq_true_eq] at ho
      exact ho.1.1.1.1.1.1.1.2.1
    rw [img_eq h8]
    simp
theorem heard_both (w : PWorld) : allN 3 (fun i => allN 3 (heardP w i)) = allN 3 (bothP w) := by
  rw [Bool.eq_iff_iff, allN_iff, allN_iff]
  constructor
  · intro h i hi
    refine allN_iff.2 fun k hk => ?_
    have h1 := allN_iff.1 (h i hi) k hk
    have h2 := allN_iff.1 (h k hk) i hi
    unfold heardP at h1 h2
    cases e1 : connOf w i k <;> cases e2 : connOf w k i <;> simp [e1, e2] at h1 h2 ⊢
  · intro h i hi
    refine allN_iff.2 fun k hk => ?_
    have h1 := allN_iff.1 (h i hi) k hk
    unfold heardP
    have h2 := eq_of_beq h1
    rw [h2]
    cases connOf w k i <;> rfl
theorem worldOk_eq (w : PWorld) : sWorldOk w = worldOk w := by
  unfold sWorldOk worldOk nodesOk linesOk
  by_cases h3 : w.nodes.length = 3
  · have e : allN w.nodes.length (nodeP w) = allN 3 (sNodeP w) := by
      rw [h3, show nodeP w = sNodeP w from funext fun i => nodeP_eq w i]
    rw [e, heard_both]
    generalize allN 3 (sNodeP w) = x1
    generalize allN 3 (bothP w) = x2
    generalize allN w.net.length (netP w) = x3
    generalize allN w.log.length (logP w.log) = x4
    generalize allN w.safe.length (incP w.log.length w.safe) = x5
    generalize rng w.gen 2 100000 = x6
    generalize decide (w.net.length ≤ 40) = x7
    generalize decide (w.log.length ≤ 200) = x8
    simp only [h3, decide_true, Bool.true_and]
    cases x1 <;> cases x2 <;> cases x3 <;> cases x4 <;> cases x5 <;> cases x6 <;> cases x7 <;> cases x8 <;> rfl
  · simp [h3]

def imgOf (w : PWorld) (a : Int) : List Int := (w.nodes.getD a.toNat nodeD).image
def upOfN (w : PWorld) (a : Int) : Bool := (w.nodes.getD a.toNat nodeD).up
def pairR (w : PWorld) (a b : Int) : Option (List Int) × Int :=
  if worldOk w = true then
    if (rng a 0 2 && rng b 0 2 && !(a == b)) = true then
      if (upOfN w a && upOfN w b) = true then
        (if cmpOk (imgOf w a) (digests (imgOf w b)) = true then some (difF (digF (imgOf w a) 8) (digests (imgOf w b)) 8) else none, 0)
      else (none, 3)
    else (none, 2)
  else (none, 1)
def pairI : Option (List Int) × Int → SV × List Ob
  | (some L, c) => (.tup [(false, [.sl 0 [] 0 L.length]), (false, [.int .i64 c])], [.row 1 (cl .i64 L)])
  | (none, c) => (.tup [(false, [.nil]), (false, [.int .i64 c])], [])
def pairS : Option (List Int) × Int → SV × List Ob
  | (some L, c) => (.tup [(false, [.sl 0 [] 0 L.length]), (false, [.int .i64 c])], [.row 1 (cl .i64 L)])
  | (none, c) => (.tup [(false, [.sl 0 [] 0 0]), (false, [.int .i64 c])], [.row 1 []])
theorem worldOk_img {w : PWorld} (h : worldOk w = true) : w.nodes.length = 3 ∧ ∀ i, i < 3 → (w.nodes.getD i nodeD).image.length = 8 := by
  have hn : nodesOk w = true := by
    simp only [worldOk, Bool.and_eq_true] at h
    exact h.1.1.1.1.1.1
  have h3 := (nodesOk_conn hn).1
  refine ⟨h3, fun i hi => ?_⟩
  simp only [nodesOk, Bool.and_eq_true, decide_eq_true_eq] at hn
  have := allN_iff.1 hn.1.2 i (by omega)
  simp only [nodeP, nodeOk, imageOk, Bool.and_eq_true, decide_eq_true_eq] at this
  exact this.1.1.1.1.1.1.1.1.1.1.2.1
theorem r_CheckPair (w : PWorld) (hw : WfW w) (hs : SmW w) (a b : Int) : runRO (X tab) tab 7 [.v true (worldA w), .v false [.int .i64 a], .v false [.int .i64 b]] = some (pairI (pairR w a b)) := by
  have q0 := r_WorldOk w hw hs
  skip
  have q1 := r_isNodeW a
  have q2 := r_isNodeW b
  simp only [worldA] at q0
  unfold pairR
  cases hwo : worldOk w with
  | false =>
    rw [hwo] at q0
    unfold runRO
    simp (maxSteps := 4000000) -implicitDefEqProofs [tab7, a7, List.take, List.drop, upd, rest, kill, mapMem, List.range, List.range.loop, memL, roCells, fromRo, worldA, q0, pairI, cl_nil]
  | true =>
    rw [hwo] at q0
    obtain ⟨h3, h8⟩ := worldOk_img hwo
    cases ha : rng a 0 2 with
    | false =>
      rw [ha] at q1
      unfold runRO
      simp (maxSteps := 4000000) -implicitDefEqProofs [tab7, a7, List.take, List.drop, upd, rest, kill, mapMem, List.range, List.range.loop, memL, roCells, fromRo, worldA, q0, q1, pairI, cl_nil]
    | true =>
      rw [ha] at q1
      cases hb : rng b 0 2 with
      | false =>
        rw [hb] at q2
        unfold runRO
        simp (maxSteps := 4000000) -implicitDefEqProofs [tab7, a7, List.take, List.drop, upd, rest, kill, mapMem, List.range, List.range.loop, memL, roCells, fromRo, worldA, q0, q1, q2, pairI, cl_nil]
      | true =>
        rw [hb] at q2
        cases hab : (a == b) with
        | true =>
          unfold runRO
          simp (maxSteps := 4000000) -implicitDefEqProofs [tab7, a7, List.take, List.drop, upd, rest, kill, mapMem, List.range, List.range.loop, memL, roCells, fromRo, worldA, q0, q1, q2, hab, pairI, cl_nil]
        | false =>
          have ra := rng_iff.1 ha
          have rb := rng_iff.1 hb
          obtain ⟨p, rfl⟩ : ∃ p : Nat, a = (p : Int) := ⟨a.toNat, by omega⟩
          obtain ⟨q, rfl⟩ : ∃ q : Nat, b = (q : Int) := ⟨b.toNat, by omega⟩
          have p3 : p < 3 := by omega
          have q3 : q < 3 := by omega
          have i1 : (0 ≤ (p : Int) ∧ (p : Int) < 3) := by omega
          have i2 : (0 ≤ (q : Int) ∧ (q : Int) < 3) := by omega
          obtain ⟨r1, d1⟩ := nodesC_d (l := w.nodes) (i := p) (by omega)
          obtain ⟨r2, d2⟩ := nodesC_d (l := w.nodes) (i := q) (by omega)
          have l1 := h8 p p3
          have l2 := h8 q q3
          have hi1 : imgOf w (p : Int) = (w.nodes.getD p nodeD).image := rfl
          have hi2 : imgOf w (q : Int) = (w.nodes.getD q nodeD).image := rfl
          have hu1 : upOfN w (p : Int) = (w.nodes.getD p nodeD).up := rfl
          have hu2 : upOfN w (q : Int) = (w.nodes.getD q nodeD).up := rfl
          rw [hi1, hi2, hu1, hu2]
          generalize w.nodes.getD p nodeD = n1 at *
          generalize w.nodes.getD q nodeD = n2 at *
          simp only [nodeC, intsC, intssC, bytesC, boolsC, List.cons_append, List.nil_append] at d1 d2
          simp only [h3] at q0
          cases hup1 : n1.up with
          | false =>
            unfold runRO
            simp (maxSteps := 4000000) -implicitDefEqProofs [tab7, a7, List.take, List.drop, upd, rest, kill, mapMem, List.range, List.range.loop, memL, roCells, fromRo, worldA, q0, q1, q2, hab, h3, i1, i2, d1, d2, p3, q3, hup1, pairI, cl_nil]
          | true =>
            cases hup2 : n2.up with
            | false =>
              unfold runRO
              simp (maxSteps := 4000000) -implicitDefEqProofs [tab7, a7, List.take, List.drop, upd, rest, kill, mapMem, List.range, List.range.loop, memL, roCells, fromRo, worldA, q0, q1, q2, hab, h3, i1, i2, d1, d2, p3, q3, hup1, hup2, pairI, cl_nil]
            | true =>
              have q5 := r_Digests n2.image (by omega)
              have hdl : (digests n2.image).length ≤ 1048576 := by
                unfold digests
                split <;> simp [digF_length]
              have z1 : (cl .i64 (digests n2.image)).take (digests n2.image).length = cl .i64 (digests n2.image) := cl_self
              have z2 : (cl .i64 (digests n2.image)).length = (digests n2.image).length := cl_length
              cases hc : cmpOk n1.image (digests n2.image) with
              | true =>
                have q6 := r_Compare n1.image (digests n2.image) (by omega) hdl hc
                generalize difF (digF n1.image 8) (digests n2.image) 8 = L at *
                generalize digests n2.image = D at *
                unfold runRO
                simp (maxSteps := 4000000) -implicitDefEqProofs [tab7, a7, List.take, List.drop, upd, rest, kill, mapMem, List.range, List.range.loop, memL, roCells, fromRo, worldA, q0, q1, q2, hab, h3, i1, i2, d1, d2, p3, q3, hup1, hup2, q5, q6, z1, z2, pairI]
              | false =>
                have q6 := r_Compare_bad n1.image (digests n2.image) (by omega) hdl hc
                generalize digests n2.image = D at *
                unfold runRO
                simp (maxSteps := 4000000) -implicitDefEqProofs [tab7, a7, List.take, List.drop, upd, rest, kill, mapMem, List.range, List.range.loop, memL, roCells, fromRo, worldA, q0, q1, q2, hab, h3, i1, i2, d1, d2, p3, q3, hup1, hup2, q5, q6, z1, z2, pairI, cl_nil]
theorem r_sCheckPair (w : PWorld) (hw : WfW w) (hs : SmW w) (a b : Int) : runRO (X tab) tab 5 [.v true (worldA w), .v false [.int .i64 a], .v false [.int .i64 b]] = some (pairS (pairR w a b)) := by
  have q0 := r_sWorldOk w hw hs
  rw [worldOk_eq] at q0
  have q1 := r_l1In a 0 2
  have q2 := r_l1In b 0 2
  simp only [worldA] at q0
  unfold pairR
  cases hwo : worldOk w with
  | false =>
    rw [hwo] at q0
    unfold runRO
    simp (maxSteps := 4000000) -implicitDefEqProofs [tab5, a5, List.take, List.drop, upd, rest, kill, mapMem, List.range, List.range.loop, memL, roCells, fromRo, worldA, q0, pairS, cl_nil]
  | true =>
    rw [hwo] at q0
    obtain ⟨h3, h8⟩ := worldOk_img hwo
    cases ha : rng a 0 2 with
    | false =>
      rw [ha] at q1
      unfold runRO
      simp (maxSteps := 4000000) -implicitDefEqProofs [tab5, a5, List.take, List.drop, upd, rest, kill, mapMem, List.range, List.range.loop, memL, roCells, fromRo, worldA, q0, q1, pairS, cl_nil]
    | true =>
      rw [ha] at q1
      cases hb : rng b 0 2 with
      | false =>
        rw [hb] at q2
        unfold runRO
        simp (maxSteps := 4000000) -implicitDefEqProofs [tab5, a5, List.take, List.drop, upd, rest, kill, mapMem, List.range, List.range.loop, memL, roCells, fromRo, worldA, q0, q1, q2, pairS, cl_nil]
      | true =>
        rw [hb] at q2
        cases hab : (a == b) with
        | true =>
          unfold runRO
          simp (maxSteps := 4000000) -implicitDefEqProofs [tab5, a5, List.take, List.drop, upd, rest, kill, mapMem, List.range, List.range.loop, memL, roCells, fromRo, worldA, q0, q1, q2, hab, pairS, cl_nil]
        | false =>
          have ra := rng_iff.1 ha
          have rb := rng_iff.1 hb
          obtain ⟨p, rfl⟩ : ∃ p : Nat, a = (p : Int) := ⟨a.toNat, by omega⟩
          obtain ⟨q, rfl⟩ : ∃ q : Nat, b = (q : Int) := ⟨b.toNat, by omega⟩
          have p3 : p < 3 := by omega
          have q3 : q < 3 := by omega
          have i1 : (0 ≤ (p : Int) ∧ (p : Int) < 3) := by omega
          have i2 : (0 ≤ (q : Int) ∧ (q : Int) < 3) := by omega
          obtain ⟨r1, d1⟩ := nodesC_d (l := w.nodes) (i := p) (by omega)
          obtain ⟨r2, d2⟩ := nodesC_d (l := w.nodes) (i := q) (by omega)
          have l1 := h8 p p3
          have l2 := h8 q q3
          have hi1 : imgOf w (p : Int) = (w.nodes.getD p nodeD).image := rfl
          have hi2 : imgOf w (q : Int) = (w.nodes.getD q nodeD).image := rfl
          have hu1 : upOfN w (p : Int) = (w.nodes.getD p nodeD).up := rfl
          have hu2 : upOfN w (q : Int) = (w.nodes.getD q nodeD).up := rfl
          rw [hi1, hi2, hu1, hu2]
          generalize w.nodes.getD p nodeD = n1 at *
          generalize w.nodes.getD q nodeD = n2 at *
          simp only [nodeC, intsC, intssC, bytesC, boolsC, List.cons_append, List.nil_append] at d1 d2
          simp only [h3] at q0
          cases hup1 : n1.up with
          | false =>
            unfold runRO
            simp (maxSteps := 4000000) -implicitDefEqProofs [tab5, a5, List.take, List.drop, upd, rest, kill, mapMem, List.range, List.range.loop, memL, roCells, fromRo, worldA, q0, q1, q2, hab, h3, i1, i2, d1, d2, p3, q3, hup1, pairS, cl_nil]
          | true =>
            cases hup2 : n2.up with
            | false =>
              unfold runRO
              simp (maxSteps := 4000000) -implicitDefEqProofs [tab5, a5, List.take, List.drop, upd, rest, kill, mapMem, List.range, List.range.loop, memL, roCells, fromRo, worldA, q0, q1, q2, hab, h3, i1, i2, d1, d2, p3, q3, hup1, hup2, pairS, cl_nil]
            | true =>
              have q5 := r_sDigests n2.image (by omega)
              have hdl : (digests n2.image).length ≤ 1048576 := by
                unfold digests
                split <;> simp [digF_length]
              have z1 : (cl .i64 (digests n2.image)).take (digests n2.image).length = cl .i64 (digests n2.image) := cl_self
              have z2 : (cl .i64 (digests n2.image)).length = (digests n2.image).length := cl_length
              cases hc : cmpOk n1.image (digests n2.image) with
              | true =>
                have q6 := r_sCompare n1.image (digests n2.image) (by omega) hdl hc
                generalize difF (digF n1.image 8) (digests n2.image) 8 = L at *
                generalize digests n2.image = D at *
                unfold runRO
                simp (maxSteps := 4000000) -implicitDefEqProofs [tab5, a5, List.take, List.drop, upd, rest, kill, mapMem, List.range, List.range.loop, memL, roCells, fromRo, worldA, q0, q1, q2, hab, h3, i1, i2, d1, d2, p3, q3, hup1, hup2, q5, q6, z1, z2, pairS]
              | false =>
                have q6 := r_sCompare_bad n1.image (digests n2.image) (by omega) hdl hc
                generalize digests n2.image = D at *
                unfold runRO
                simp (maxSteps := 4000000) -implicitDefEqProofs [tab5, a5, List.take, List.drop, upd, rest, kill, mapMem, List.range, List.range.loop, memL, roCells, fromRo, worldA, q0, q1, q2, hab, h3, i1, i2, d1, d2, p3, q3, hup1, hup2, q5, q6, z1, z2, pairS, cl_nil]

theorem nodesC_self (l : List PNode) : (nodesC l).take (l.length * 16) = nodesC l := by rw [← nodesC_len, List.take_length]
theorem wiresC_self (l : List PWire) : (wiresC l).take (l.length * 3) = wiresC l := by rw [← wiresC_len, List.take_length]
theorem recsC_self (l : List PRec) : (recsC l).take (l.length * 2) = recsC l := by rw [← recsC_len, List.take_length]
theorem addObs_app {m : Mem} {d u : Nat} {obs : List Ob} : addObs m d obs u = if d ≤ u ∧ u < d + obs.length then obs[u - d]? else m u := rfl
theorem kW_bound (w : PWorld) (h : totW w ≤ 1048576) : 0 ≤ kW 1 w ∧ kW 1 w ≤ 1000000000 := by
  unfold kW kL
  have h1 : (w.nodes.map cN).sum ≤ (w.nodes.map totN).sum + w.nodes.length * 7 := sum_le fun n hn => by unfold cN totN; omega
  have h2 : (w.net.map cWire).sum ≤ (w.net.map totX).sum + w.net.length * 2 := sum_le fun n hn => by unfold cWire totX; omega
  have h3 : (w.log.map cRec).sum ≤ (w.log.map fun _ => 0).sum + w.log.length * 2 := sum_le fun n hn => by unfold cRec; omega
  have h4 : (w.log.map fun _ => 0).sum = 0 := by
    induction w.log with
    | nil => rfl
    | cons x r ih => simpa using ih
  have hs := smW w h
  have e1 := hs.nodes
  have e2 := hs.net
  have e3 := hs.log
  have e4 := hs.safe
  unfold totW at h
  constructor
  · omega
  · omega
theorem pairR_len {w : PWorld} {a b c : Int} {L : List Int} (h : pairR w a b = (some L, c)) : L.length ≤ 8 := by
  unfold pairR at h
  split at h
  · split at h
    · split at h
      · simp only [Prod.mk.injEq] at h
        obtain ⟨h, _⟩ := h
        split at h
        · simp only [Option.some.injEq] at h
          rw [← h]
          exact difF_length _ _ _
        · cases h
      · simp at h
    · simp at h
  · simp at h
theorem law_FnExactCheckPair (w : PWorld) (hw : WfW w) (a : Int) (ha : I64 a) (b : Int) (hb : I64 b) : runRO (X tab) tab 3 [.v true (worldA w), .v false [.int .i64 a], .v false [.int .i64 b]] = some (.v false [.bool true], []) := by
  have q0 : runRO (X tab) tab 4 [.v true (worldA w), .v false [.int .i64 1048576]] = some (.v false [.int .i64 (szT 1048576 (totW w))], []) := r_szWorld w hw 1048576 (by omega) (by omega)
  by_cases ht : (1048576 : Int) < (totW w : Int)
  · rw [szT_neg ht] at q0
    simp only [worldA] at q0
    unfold runRO
    simp (maxSteps := 4000000) -implicitDefEqProofs [tab3, a3, List.take, List.drop, upd, List.range, List.range.loop, memL, worldA, q0]
  · rw [szT_pos ht] at q0
    have hs := smW w (by omega)
    have q1 := r_toWorld w hs
    have g1 := r_sCheckPair w hw hs a b
    have g2 := r_CheckPair w hw hs a b
    have q2 := r_eqWorld w hs
    have h0 : ¬ (1048576 : Int) - (totW w : Int) < 0 := by omega
    have hkw := kW_bound w (by omega)
    have hk0 : ¬ kW 1 w < 0 := by omega
    have t1 := nodesC_self w.nodes
    have t2 := wiresC_self w.net
    have t3 := recsC_self w.log
    have t4 : (cl .i64 w.safe).take w.safe.length = cl .i64 w.safe := cl_self
    have l1 := nodesC_len w.nodes
    have l2 := wiresC_len w.net
    have l3 := recsC_len w.log
    have l4 : (cl .i64 w.safe).length = w.safe.length := cl_length
    have m1 := fun sl m up nx tn tx tl ts g hn hx hl hsa d1 d2 d3 d4 d5 d6 h0 => t_markWorld w hs 1 (by omega) hkw.2 tn tx tl ts g sl m up nx hn hx hl hsa d1 d2 d3 d4 d5 d6 h0
    obtain ⟨⟨o, c⟩, hp⟩ : ∃ r, pairR w a b = r := ⟨_, rfl⟩
    rw [hp] at g1 g2
    cases o with
    | none =>
      simp only [pairI, pairS] at g1 g2
      have e1 := eqIntS_nil1
      have m2 := fun sl m up nx => markIntS_nil 1 sl m up nx
      have m3 := heldIntS_nil 1
      generalize (1048576 : Int) - (totW w : Int) = left at *
      generalize kW 1 w = kw at *
      simp only [worldA, worldR, worldO] at q0 q1 q2 g1 g2
      unfold runRO
      simp (maxSteps := 4000000) -implicitDefEqProofs [tab3, a3, List.take, List.drop, upd, List.range, List.range.loop, memL, bne, addObs_app, getAll, spl, cellsAt, memW, worldA, q0, q1, q2, g1, g2, e1, m1, m2, m3, h0, hk0, t1, t2, t3, t4, l1, l2, l3, l4]
    | some v =>
      have hle := pairR_len hp
      simp only [pairI, pairS] at g1 g2
      have e1 := eqIntS v (by omega)
      have m2 := fun t sl m up nx hm => markIntS t v.length v 1 sl m up nx hm rfl (by omega) (by omega) (by omega)
      have m3 := heldIntS v.length 1 (by omega) (by omega) (by omega)
      have v1 : (cl .i64 v).take v.length = cl .i64 v := cl_self
      have v2 : (cl .i64 v).length = v.length := cl_length
      have v3 : (cl .i64 (marks_i64 1 v.length)).take v.length = cl .i64 (marks_i64 1 v.length) := by rw [List.take_of_length_le]; simp [cl_length, marks_i64]
      have v4 : (cl .i64 (marks_i64 1 v.length)).length = v.length := by simp [cl_length, marks_i64]
      have v5 : ¬ (1 : Int) + (v.length : Int) < 0 := by omega
      generalize (1048576 : Int) - (totW w : Int) = left at *
      generalize kW 1 w = kw at *
      simp only [worldA, worldR, worldO] at q0 q1 q2 g1 g2
      unfold runRO
      simp (maxSteps := 4000000) -implicitDefEqProofs [tab3, a3, List.take, List.drop, upd, List.range, List.range.loop, memL, bne, addObs_app, getAll, spl, cellsAt, memW, worldA, q0, q1, q2, g1, g2, e1, m1, m2, m3, v1, v2, v3, v4, v5, h0, hk0, t1, t2, t3, t4, l1, l2, l3, l4]
end Go.Proofs.YtbdokibepndibaaGreat.Eng.C
