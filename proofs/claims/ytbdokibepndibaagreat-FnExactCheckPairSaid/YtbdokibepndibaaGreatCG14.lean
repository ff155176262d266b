/- Zp, as one text. -/
import Derived.Test.YtbdokibepndibaaGreatCG12
namespace Go.Proofs.YtbdokibepndibaaGreat.Eng.C
set_option linter.unusedSimpArgs false
set_option linter.unusedVariables false
set_option maxHeartbeats 16000000
set_option maxRecDepth 100000
open Go.RowKit Go.Proofs
attribute [local simp] x_seq x_cond x_block x_region x_skip x_exit x_ret head_id runG runOps doOp wantB stepOp AO.eff pureOp St.get St.one St.num St.put St.optNum binA binInt gOp gOp0 gOpL gResL updO gRes gEff addObs_nil addObs_one freshB_memL freshB_none freshB_upd freshB_addMem freshB_addObs effOp2 effOp memL_app stoRow cellsAt toCells toCell scalar_int scalar_bool scalar_str scalar_sl updAt fromRo callRO addMem_nil roArgs roL roA srcCells A1.ownB addMem shift ren SV.map Ob.map Ob.noRo SV.noRo A1.noRo resOf resSV SV.ids A1.ids reach allObs pos St.canon A1.slB flat_int cl_flat' St.parts Eng.inB reps fillA newRowSt appSt oldOf

def slotSame (n : PNode) : Bool := match slotGet n.sa n.sb with | some p => sameM p.1 n.mt | none => false
def nodeOk (n : PNode) : Bool := rng n.id 0 2 && imageOk n.image && metaOk n.mt && (decide (n.conn.length = 3) && marksAll n.sync && decide (n.copies.length = 3)) && !(n.prime && (!n.up || n.id == 2)) && !(!n.up && decide (0 < n.wait.length)) && slotSame n && allN 3 (linkP n) && allN n.wait.length (incP 200 n.wait)
theorem smM_of (n : PNode) (h : SmN n) : SmM n.mt := ⟨h.gens, h.bits, h.bit⟩
theorem u8_bytes {l : List Int} (h : ∀ x ∈ l, U8 x) : Bytes l := bytes_wf h
theorem r_isNode (n : Int) : runRO (X tab) tab 26 [.v false [.int .i64 n]] = some (.v false [.bool (rng n 0 2)], []) := by
  unfold runRO
  simp (maxSteps := 4000000) -implicitDefEqProofs [tab26, a26, List.take, List.drop, List.range, List.range.loop, memL, r_from]
theorem r_NodeOk (n : PNode) (h : SmN n) (hw : WfN n) : runRO (X tab) tab 74 [.v true (nodeA n)] = some (.v false [.bool (nodeOk n)], []) := by
  have q1 := r_isNode n.id
  have q2 := r_ImageOk n.image h.image
  have q3 := r_MetaOk n.mt (smM_of n h)
  have q5 := r_marksAll n.sync h.sync h.syn
  have q6 := r_SlotGet n (u8_bytes hw.2.2.2.1) (u8_bytes hw.2.2.2.2.1) h.sa h.sb
  have e8 : ((0 : Int) < (n.wait.length : Int)) = (0 < n.wait.length) := by apply propext; omega
  simp only [metaA] at q3
  simp only [slotsA] at q6
  cases h1 : rng n.id 0 2 with
  | false =>
    rw [h1] at q1
    have hR : nodeOk n = false := by unfold nodeOk; simp [h1]
    rw [hR]
    unfold runRO
    simp (maxSteps := 4000000) -implicitDefEqProofs [tab74, a74, List.take, List.drop, upd, rest, kill, mapMem, List.range, List.range.loop, memL, spl, roCells, fromRo, bne, nodeA, q1, q2, q3, q5]
  | true =>
    rw [h1] at q1
    cases h2 : imageOk n.image with
    | false =>
      rw [h2] at q2
      have hR : nodeOk n = false := by unfold nodeOk; simp [h1, h2]
      rw [hR]
      unfold runRO
      simp (maxSteps := 4000000) -implicitDefEqProofs [tab74, a74, List.take, List.drop, upd, rest, kill, mapMem, List.range, List.range.loop, memL, spl, roCells, fromRo, bne, nodeA, q1, q2, q3, q5]
    | true =>
      rw [h2] at q2
      cases h3 : metaOk n.mt with
      | false =>
        rw [h3] at q3
        have hR : nodeOk n = false := by unfold nodeOk; simp [h1, h2, h3]
        rw [hR]
        unfold runRO
        simp (maxSteps := 4000000) -implicitDefEqProofs [tab74, a74, List.take, List.drop, upd, rest, kill, mapMem, List.range, List.range.loop, memL, spl, roCells, fromRo, bne, nodeA, q1, q2, q3, q5]
      | true =>
        rw [h3] at q3
        by_cases h4 : n.conn.length = 3
        rotate_left
        · have h4b : ((n.conn.length : Int) == 3) = false := by rw [beq_eq_false_iff_ne]; omega
          have hR : nodeOk n = false := by unfold nodeOk; simp [h1, h2, h3, h4]
          rw [hR]
          unfold runRO
          simp (maxSteps := 4000000) -implicitDefEqProofs [tab74, a74, List.take, List.drop, upd, rest, kill, mapMem, List.range, List.range.loop, memL, spl, roCells, fromRo, bne, nodeA, q1, q2, q3, q5, h4b]
        have h4b : ((n.conn.length : Int) == 3) = true := by rw [beq_iff_eq]; omega
        cases h5 : marksAll n.sync with
        | false =>
          rw [h5] at q5
          have hR : nodeOk n = false := by unfold nodeOk; simp [h1, h2, h3, h4, h5]
          rw [hR]
          unfold runRO
          simp (maxSteps := 4000000) -implicitDefEqProofs [tab74, a74, List.take, List.drop, upd, rest, kill, mapMem, List.range, List.range.loop, memL, spl, roCells, fromRo, bne, nodeA, q1, q2, q3, q5, h4b]
        | true =>
          rw [h5] at q5
          by_cases h6 : n.copies.length = 3
          rotate_left
          · have h6b : ((n.copies.length : Int) == 3) = false := by rw [beq_eq_false_iff_ne]; omega
            have hR : nodeOk n = false := by unfold nodeOk; simp [h1, h2, h3, h4, h5, h6]
            rw [hR]
            unfold runRO
            simp (maxSteps := 4000000) -implicitDefEqProofs [tab74, a74, List.take, List.drop, upd, rest, kill, mapMem, List.range, List.range.loop, memL, spl, roCells, fromRo, bne, nodeA, q1, q2, q3, q5, h4b, h6b]
          have h6b : ((n.copies.length : Int) == 3) = true := by rw [beq_iff_eq]; omega
          cases hu : n.up with
          | false =>
            cases hp : n.prime with
            | true =>
              have hR : nodeOk n = false := by unfold nodeOk; simp [h1, h2, h3, h4, h5, h6, hu, hp]
              rw [hR]
              unfold runRO
              simp (maxSteps := 4000000) -implicitDefEqProofs [tab74, a74, List.take, List.drop, upd, rest, kill, mapMem, List.range, List.range.loop, memL, spl, roCells, fromRo, bne, nodeA, q1, q2, q3, q5, h4b, h6b, hu, hp]
            | false =>
              by_cases h8 : 0 < n.wait.length
              · have hR : nodeOk n = false := by unfold nodeOk; simp [h1, h2, h3, h4, h5, h6, hu, hp, h8]
                rw [hR]
                unfold runRO
                simp (maxSteps := 4000000) -implicitDefEqProofs [tab74, a74, List.take, List.drop, upd, rest, kill, mapMem, List.range, List.range.loop, memL, spl, roCells, fromRo, bne, nodeA, q1, q2, q3, q5, h4b, h6b, hu, hp, e8, h8]
              · cases hg : slotGet n.sa n.sb with
                | none =>
                  rw [hg] at q6
                  simp only [latSV, zeroM, Option.isSome] at q6
                  have hR : nodeOk n = false := by unfold nodeOk; simp [h1, h2, h3, h4, h5, h6, hu, hp, e8, h8, slotSame, hg]
                  rw [hR]
                  unfold runRO
                  simp (maxSteps := 4000000) -implicitDefEqProofs [tab74, a74, List.take, List.drop, upd, rest, kill, mapMem, List.range, List.range.loop, memL, spl, roCells, fromRo, bne, nodeA, q1, q2, q3, q5, q6, h4b, h6b, hu, hp, e8, h8]
                | some p =>
                  obtain ⟨m, k⟩ := p
                  have hok := (slotGet_ok hg).1
                  rw [hg] at q6
                  simp only [latSV, metaS, metaO, Option.isSome] at q6
                  have q7 := r_SameMeta m n.mt (okM hok).sm
                  simp only [metaA] at q7
                  have z1 : (cl .i64 m.gens).take m.gens.length = cl .i64 m.gens := cl_self
                  have z2 : (cl .i64 m.gens).length = m.gens.length := cl_length
                  have z3 : (m.bits.map intsC).length = m.bits.length := by simp
                  have z4 : (m.bits.map intsC).take m.bits.length = m.bits.map intsC := by rw [← z3, List.take_length]
                  cases hs : sameM m n.mt with
                  | false =>
                    rw [hs] at q7
                    have hR : nodeOk n = false := by unfold nodeOk; simp [h1, h2, h3, h4, h5, h6, hu, hp, e8, h8, slotSame, hg, hs]
                    rw [hR]
                    unfold runRO
                    simp (maxSteps := 4000000) -implicitDefEqProofs [tab74, a74, List.take, List.drop, upd, rest, kill, mapMem, List.range, List.range.loop, memL, spl, roCells, fromRo, bne, nodeA, q1, q2, q3, q5, q6, q7, z1, z2, z3, z4, h4b, h6b, hu, hp, e8, h8]
                  | true =>
                    rw [hs] at q7
                    have hl1 := fun {x} => loop_Link n h4 h6 (by have := h5; unfold marksAll at this; simp only [Bool.and_eq_true, decide_eq_true_eq] at this; exact this.1) (x := x)
                    have hl2 := fun {x} => loop_Wait n h.wait hw.2.2.2.2.2.2 (x := x)
                    have hS1 : S_Link n 0 = ⟨⟨[.bad, .v false [.pc (nodeC n)], .bad, .bad, .bad, .bad, .bad, .bad, .bad, .bad, .bad, .bad, .bad, .bad, .bad, .bad, .bad, .bad, .bad, .bad, .bad, .bad, .bad, .bad, .bad, .bad, .bad, .bad, .bad, .bad, .bad, .bad, .bad, .bad, .bad, .bad, .bad, .bad, .bad, .bad, .bad, .bad, .bad, .bad, .bad, .bad, .bad, .bad, .bad, .bad, .bad, .bad, .bad, .bad, .bad, .bad, .bad, .bad, .bad, .bad, .bad, .bad, .bad, .bad, .bad, .bad, .bad, .bad, .bad, .bad, .bad, .bad, .bad, .bad, .bad, .bad, .bad, .bad, .bad, .bad, .bad, .bad, .bad, .bad, .bad, .v false [.int .i64 (0)], .bad, .bad, .bad, .bad, .bad, .bad, .bad, .bad, .bad, .bad, .bad, .bad, .bad, .bad, .bad, .bad, .bad, .bad, .bad, .bad, .bad, .bad, .bad, .bad, .bad, .bad, .bad, .bad, .bad, .bad, .bad, .bad, .bad, .bad, .bad, .bad, .bad, .bad, .bad, .bad, .bad, .bad, .bad, .bad, .bad, .bad, .bad, .bad, .bad, .bad, .bad, .bad, .bad, .bad, .bad, .bad, .bad, .bad, .bad, .bad, .bad, .bad, .bad, .bad, .bad, .bad, .bad, .bad, .bad, .bad, .bad, .bad, .bad, .bad, .bad, .bad, .bad, .bad], memL [], []⟩, 0⟩ := rfl
                    have hS2 : S_Wait n 0 = ⟨⟨[.bad, .v false [.pc (nodeC n)], .bad, .bad, .bad, .bad, .bad, .bad, .bad, .bad, .bad, .bad, .bad, .bad, .bad, .bad, .bad, .bad, .bad, .bad, .bad, .bad, .bad, .bad, .bad, .bad, .bad, .bad, .bad, .bad, .bad, .bad, .bad, .bad, .bad, .bad, .bad, .bad, .bad, .bad, .bad, .bad, .bad, .bad, .bad, .bad, .bad, .bad, .bad, .bad, .bad, .bad, .bad, .bad, .bad, .bad, .bad, .bad, .bad, .bad, .bad, .bad, .bad, .bad, .bad, .bad, .bad, .bad, .bad, .bad, .bad, .bad, .bad, .bad, .bad, .bad, .bad, .bad, .bad, .bad, .bad, .bad, .bad, .bad, .bad, .bad, .bad, .bad, .bad, .bad, .bad, .bad, .bad, .bad, .bad, .bad, .bad, .bad, .bad, .bad, .bad, .bad, .bad, .bad, .bad, .bad, .bad, .bad, .bad, .bad, .bad, .bad, .bad, .bad, .bad, .bad, .bad, .bad, .bad, .bad, .bad, .bad, .bad, .bad, .bad, .bad, .bad, .bad, .bad, .bad, .bad, .bad, .bad, .bad, .bad, .bad, .bad, .bad, .bad, .v false [.ro n.wait.length (cl .i64 n.wait)], .v false [.int .i64 (n.wait.length)], .v false [.int .i64 (0)], .bad, .bad, .bad, .bad, .bad, .bad, .bad, .bad, .bad, .bad, .bad, .bad, .bad, .bad, .bad, .bad, .bad, .bad, .bad, .bad, .bad, .bad], memL [], []⟩, 0⟩ := rfl
                    simp only [nodeC, intsC, intssC, bytesC, boolsC] at hl1 hl2 hS1 hS2
                    simp only [hu, hp] at hl1 hl2 hS1 hS2
                    have hR : nodeOk n = (allN 3 (linkP n) && allN n.wait.length (incP 200 n.wait)) := by unfold nodeOk; simp [h1, h2, h3, h4, h5, h6, hu, hp, e8, h8, slotSame, hg, hs]
                    rw [hR]
                    unfold runRO
                    simp (maxSteps := 4000000) -implicitDefEqProofs [tab74, a74, List.take, List.drop, upd, rest, kill, mapMem, List.range, List.range.loop, spl, roCells, fromRo, bne, nodeA, q1, q2, q3, q5, q6, q7, z1, z2, z3, z4, h4b, h6b, hu, hp, e8, h8]
                    rw [hl1 (by rw [hS1]; change _ = _; kernel_rfl)]
                    cases hk1 : allN 3 (linkP n) with
                    | false => simp (maxSteps := 4000000) -implicitDefEqProofs [List.take, List.drop, memL, List.range, List.range.loop]
                    | true =>
                      simp (maxSteps := 4000000) -implicitDefEqProofs [List.take, List.drop, fromRo]
                      rw [hl2 (by rw [hS2]; change _ = _; kernel_rfl)]
                      cases hk2 : allN n.wait.length (incP 200 n.wait) with
                      | false => simp (maxSteps := 4000000) -implicitDefEqProofs [List.take, List.drop, memL, List.range, List.range.loop]
                      | true => simp (maxSteps := 4000000) -implicitDefEqProofs [List.take, List.drop, memL, List.range, List.range.loop]
          | true =>
            cases hp : n.prime with
            | false =>
              cases hg : slotGet n.sa n.sb with
              | none =>
                rw [hg] at q6
                simp only [latSV, zeroM, Option.isSome] at q6
                have hR : nodeOk n = false := by unfold nodeOk; simp [h1, h2, h3, h4, h5, h6, hu, hp, slotSame, hg]
                rw [hR]
                unfold runRO
                simp (maxSteps := 4000000) -implicitDefEqProofs [tab74, a74, List.take, List.drop, upd, rest, kill, mapMem, List.range, List.range.loop, memL, spl, roCells, fromRo, bne, nodeA, q1, q2, q3, q5, q6, h4b, h6b, hu, hp]
              | some p =>
                obtain ⟨m, k⟩ := p
                have hok := (slotGet_ok hg).1
                rw [hg] at q6
                simp only [latSV, metaS, metaO, Option.isSome] at q6
                have q7 := r_SameMeta m n.mt (okM hok).sm
                simp only [metaA] at q7
                have z1 : (cl .i64 m.gens).take m.gens.length = cl .i64 m.gens := cl_self
                have z2 : (cl .i64 m.gens).length = m.gens.length := cl_length
                have z3 : (m.bits.map intsC).length = m.bits.length := by simp
                have z4 : (m.bits.map intsC).take m.bits.length = m.bits.map intsC := by rw [← z3, List.take_length]
                cases hs : sameM m n.mt with
                | false =>
                  rw [hs] at q7
                  have hR : nodeOk n = false := by unfold nodeOk; simp [h1, h2, h3, h4, h5, h6, hu, hp, slotSame, hg, hs]
                  rw [hR]
                  unfold runRO
                  simp (maxSteps := 4000000) -implicitDefEqProofs [tab74, a74, List.take, List.drop, upd, rest, kill, mapMem, List.range, List.range.loop, memL, spl, roCells, fromRo, bne, nodeA, q1, q2, q3, q5, q6, q7, z1, z2, z3, z4, h4b, h6b, hu, hp]
                | true =>
                  rw [hs] at q7
                  have hl1 := fun {x} => loop_Link n h4 h6 (by have := h5; unfold marksAll at this; simp only [Bool.and_eq_true, decide_eq_true_eq] at this; exact this.1) (x := x)
                  have hl2 := fun {x} => loop_Wait n h.wait hw.2.2.2.2.2.2 (x := x)
                  have hS1 : S_Link n 0 = ⟨⟨[.bad, .v false [.pc (nodeC n)], .bad, .bad, .bad, .bad, .bad, .bad, .bad, .bad, .bad, .bad, .bad, .bad, .bad, .bad, .bad, .bad, .bad, .bad, .bad, .bad, .bad, .bad, .bad, .bad, .bad, .bad, .bad, .bad, .bad, .bad, .bad, .bad, .bad, .bad, .bad, .bad, .bad, .bad, .bad, .bad, .bad, .bad, .bad, .bad, .bad, .bad, .bad, .bad, .bad, .bad, .bad, .bad, .bad, .bad, .bad, .bad, .bad, .bad, .bad, .bad, .bad, .bad, .bad, .bad, .bad, .bad, .bad, .bad, .bad, .bad, .bad, .bad, .bad, .bad, .bad, .bad, .bad, .bad, .bad, .bad, .bad, .bad, .bad, .v false [.int .i64 (0)], .bad, .bad, .bad, .bad, .bad, .bad, .bad, .bad, .bad, .bad, .bad, .bad, .bad, .bad, .bad, .bad, .bad, .bad, .bad, .bad, .bad, .bad, .bad, .bad, .bad, .bad, .bad, .bad, .bad, .bad, .bad, .bad, .bad, .bad, .bad, .bad, .bad, .bad, .bad, .bad, .bad, .bad, .bad, .bad, .bad, .bad, .bad, .bad, .bad, .bad, .bad, .bad, .bad, .bad, .bad, .bad, .bad, .bad, .bad, .bad, .bad, .bad, .bad, .bad, .bad, .bad, .bad, .bad, .bad, .bad, .bad, .bad, .bad, .bad, .bad, .bad, .bad, .bad], memL [], []⟩, 0⟩ := rfl
                  have hS2 : S_Wait n 0 = ⟨⟨[.bad, .v false [.pc (nodeC n)], .bad, .bad, .bad, .bad, .bad, .bad, .bad, .bad, .bad, .bad, .bad, .bad, .bad, .bad, .bad, .bad, .bad, .bad, .bad, .bad, .bad, .bad, .bad, .bad, .bad, .bad, .bad, .bad, .bad, .bad, .bad, .bad, .bad, .bad, .bad, .bad, .bad, .bad, .bad, .bad, .bad, .bad, .bad, .bad, .bad, .bad, .bad, .bad, .bad, .bad, .bad, .bad, .bad, .bad, .bad, .bad, .bad, .bad, .bad, .bad, .bad, .bad, .bad, .bad, .bad, .bad, .bad, .bad, .bad, .bad, .bad, .bad, .bad, .bad, .bad, .bad, .bad, .bad, .bad, .bad, .bad, .bad, .bad, .bad, .bad, .bad, .bad, .bad, .bad, .bad, .bad, .bad, .bad, .bad, .bad, .bad, .bad, .bad, .bad, .bad, .bad, .bad, .bad, .bad, .bad, .bad, .bad, .bad, .bad, .bad, .bad, .bad, .bad, .bad, .bad, .bad, .bad, .bad, .bad, .bad, .bad, .bad, .bad, .bad, .bad, .bad, .bad, .bad, .bad, .bad, .bad, .bad, .bad, .bad, .bad, .bad, .bad, .v false [.ro n.wait.length (cl .i64 n.wait)], .v false [.int .i64 (n.wait.length)], .v false [.int .i64 (0)], .bad, .bad, .bad, .bad, .bad, .bad, .bad, .bad, .bad, .bad, .bad, .bad, .bad, .bad, .bad, .bad, .bad, .bad, .bad, .bad, .bad, .bad], memL [], []⟩, 0⟩ := rfl
                  simp only [nodeC, intsC, intssC, bytesC, boolsC] at hl1 hl2 hS1 hS2
                  simp only [hu, hp] at hl1 hl2 hS1 hS2
                  have hR : nodeOk n = (allN 3 (linkP n) && allN n.wait.length (incP 200 n.wait)) := by unfold nodeOk; simp [h1, h2, h3, h4, h5, h6, hu, hp, slotSame, hg, hs]
                  rw [hR]
                  unfold runRO
                  simp (maxSteps := 4000000) -implicitDefEqProofs [tab74, a74, List.take, List.drop, upd, rest, kill, mapMem, List.range, List.range.loop, spl, roCells, fromRo, bne, nodeA, q1, q2, q3, q5, q6, q7, z1, z2, z3, z4, h4b, h6b, hu, hp]
                  rw [hl1 (by rw [hS1]; change _ = _; kernel_rfl)]
                  cases hk1 : allN 3 (linkP n) with
                  | false => simp (maxSteps := 4000000) -implicitDefEqProofs [List.take, List.drop, memL, List.range, List.range.loop]
                  | true =>
                    simp (maxSteps := 4000000) -implicitDefEqProofs [List.take, List.drop, fromRo]
                    rw [hl2 (by rw [hS2]; change _ = _; kernel_rfl)]
                    cases hk2 : allN n.wait.length (incP 200 n.wait) with
                    | false => simp (maxSteps := 4000000) -implicitDefEqProofs [List.take, List.drop, memL, List.range, List.range.loop]
                    | true => simp (maxSteps := 4000000) -implicitDefEqProofs [List.take, List.drop, memL, List.range, List.range.loop]
            | true =>
              cases hid : (n.id == 2) with
              | true =>
                have hR : nodeOk n = false := by unfold nodeOk; simp [h1, h2, h3, h4, h5, h6, hu, hp, hid]
                rw [hR]
                unfold runRO
                simp (maxSteps := 4000000) -implicitDefEqProofs [tab74, a74, List.take, List.drop, upd, rest, kill, mapMem, List.range, List.range.loop, memL, spl, roCells, fromRo, bne, nodeA, q1, q2, q3, q5, h4b, h6b, hu, hp, hid]
              | false =>
                cases hg : slotGet n.sa n.sb with
                | none =>
                  rw [hg] at q6
                  simp only [latSV, zeroM, Option.isSome] at q6
                  have hR : nodeOk n = false := by unfold nodeOk; simp [h1, h2, h3, h4, h5, h6, hu, hp, hid, slotSame, hg]
                  rw [hR]
                  unfold runRO
                  simp (maxSteps := 4000000) -implicitDefEqProofs [tab74, a74, List.take, List.drop, upd, rest, kill, mapMem, List.range, List.range.loop, memL, spl, roCells, fromRo, bne, nodeA, q1, q2, q3, q5, q6, h4b, h6b, hu, hp, hid]
                | some p =>
                  obtain ⟨m, k⟩ := p
                  have hok := (slotGet_ok hg).1
                  rw [hg] at q6
                  simp only [latSV, metaS, metaO, Option.isSome] at q6
                  have q7 := r_SameMeta m n.mt (okM hok).sm
                  simp only [metaA] at q7
                  have z1 : (cl .i64 m.gens).take m.gens.length = cl .i64 m.gens := cl_self
                  have z2 : (cl .i64 m.gens).length = m.gens.length := cl_length
                  have z3 : (m.bits.map intsC).length = m.bits.length := by simp
                  have z4 : (m.bits.map intsC).take m.bits.length = m.bits.map intsC := by rw [← z3, List.take_length]
                  cases hs : sameM m n.mt with
                  | false =>
                    rw [hs] at q7
                    have hR : nodeOk n = false := by unfold nodeOk; simp [h1, h2, h3, h4, h5, h6, hu, hp, hid, slotSame, hg, hs]
                    rw [hR]
                    unfold runRO
                    simp (maxSteps := 4000000) -implicitDefEqProofs [tab74, a74, List.take, List.drop, upd, rest, kill, mapMem, List.range, List.range.loop, memL, spl, roCells, fromRo, bne, nodeA, q1, q2, q3, q5, q6, q7, z1, z2, z3, z4, h4b, h6b, hu, hp, hid]
                  | true =>
                    rw [hs] at q7
                    have hl1 := fun {x} => loop_Link n h4 h6 (by have := h5; unfold marksAll at this; simp only [Bool.and_eq_true, decide_eq_true_eq] at this; exact this.1) (x := x)
                    have hl2 := fun {x} => loop_Wait n h.wait hw.2.2.2.2.2.2 (x := x)
                    have hS1 : S_Link n 0 = ⟨⟨[.bad, .v false [.pc (nodeC n)], .bad, .bad, .bad, .bad, .bad, .bad, .bad, .bad, .bad, .bad, .bad, .bad, .bad, .bad, .bad, .bad, .bad, .bad, .bad, .bad, .bad, .bad, .bad, .bad, .bad, .bad, .bad, .bad, .bad, .bad, .bad, .bad, .bad, .bad, .bad, .bad, .bad, .bad, .bad, .bad, .bad, .bad, .bad, .bad, .bad, .bad, .bad, .bad, .bad, .bad, .bad, .bad, .bad, .bad, .bad, .bad, .bad, .bad, .bad, .bad, .bad, .bad, .bad, .bad, .bad, .bad, .bad, .bad, .bad, .bad, .bad, .bad, .bad, .bad, .bad, .bad, .bad, .bad, .bad, .bad, .bad, .bad, .bad, .v false [.int .i64 (0)], .bad, .bad, .bad, .bad, .bad, .bad, .bad, .bad, .bad, .bad, .bad, .bad, .bad, .bad, .bad, .bad, .bad, .bad, .bad, .bad, .bad, .bad, .bad, .bad, .bad, .bad, .bad, .bad, .bad, .bad, .bad, .bad, .bad, .bad, .bad, .bad, .bad, .bad, .bad, .bad, .bad, .bad, .bad, .bad, .bad, .bad, .bad, .bad, .bad, .bad, .bad, .bad, .bad, .bad, .bad, .bad, .bad, .bad, .bad, .bad, .bad, .bad, .bad, .bad, .bad, .bad, .bad, .bad, .bad, .bad, .bad, .bad, .bad, .bad, .bad, .bad, .bad, .bad], memL [], []⟩, 0⟩ := rfl
                    have hS2 : S_Wait n 0 = ⟨⟨[.bad, .v false [.pc (nodeC n)], .bad, .bad, .bad, .bad, .bad, .bad, .bad, .bad, .bad, .bad, .bad, .bad, .bad, .bad, .bad, .bad, .bad, .bad, .bad, .bad, .bad, .bad, .bad, .bad, .bad, .bad, .bad, .bad, .bad, .bad, .bad, .bad, .bad, .bad, .bad, .bad, .bad, .bad, .bad, .bad, .bad, .bad, .bad, .bad, .bad, .bad, .bad, .bad, .bad, .bad, .bad, .bad, .bad, .bad, .bad, .bad, .bad, .bad, .bad, .bad, .bad, .bad, .bad, .bad, .bad, .bad, .bad, .bad, .bad, .bad, .bad, .bad, .bad, .bad, .bad, .bad, .bad, .bad, .bad, .bad, .bad, .bad, .bad, .bad, .bad, .bad, .bad, .bad, .bad, .bad, .bad, .bad, .bad, .bad, .bad, .bad, .bad, .bad, .bad, .bad, .bad, .bad, .bad, .bad, .bad, .bad, .bad, .bad, .bad, .bad, .bad, .bad, .bad, .bad, .bad, .bad, .bad, .bad, .bad, .bad, .bad, .bad, .bad, .bad, .bad, .bad, .bad, .bad, .bad, .bad, .bad, .bad, .bad, .bad, .bad, .bad, .bad, .v false [.ro n.wait.length (cl .i64 n.wait)], .v false [.int .i64 (n.wait.length)], .v false [.int .i64 (0)], .bad, .bad, .bad, .bad, .bad, .bad, .bad, .bad, .bad, .bad, .bad, .bad, .bad, .bad, .bad, .bad, .bad, .bad, .bad, .bad, .bad, .bad], memL [], []⟩, 0⟩ := rfl
                    simp only [nodeC, intsC, intssC, bytesC, boolsC] at hl1 hl2 hS1 hS2
                    simp only [hu, hp] at hl1 hl2 hS1 hS2
                    have hR : nodeOk n = (allN 3 (linkP n) && allN n.wait.length (incP 200 n.wait)) := by unfold nodeOk; simp [h1, h2, h3, h4, h5, h6, hu, hp, hid, slotSame, hg, hs]
                    rw [hR]
                    unfold runRO
                    simp (maxSteps := 4000000) -implicitDefEqProofs [tab74, a74, List.take, List.drop, upd, rest, kill, mapMem, List.range, List.range.loop, spl, roCells, fromRo, bne, nodeA, q1, q2, q3, q5, q6, q7, z1, z2, z3, z4, h4b, h6b, hu, hp, hid]
                    rw [hl1 (by rw [hS1]; change _ = _; kernel_rfl)]
                    cases hk1 : allN 3 (linkP n) with
                    | false => simp (maxSteps := 4000000) -implicitDefEqProofs [List.take, List.drop, memL, List.range, List.range.loop]
                    | true =>
                      simp (maxSteps := 4000000) -implicitDefEqProofs [List.take, List.drop, fromRo]
                      rw [hl2 (by rw [hS2]; change _ = _; kernel_rfl)]
                      cases hk2 : allN n.wait.length (incP 200 n.wait) with
                      | false => simp (maxSteps := 4000000) -implicitDefEqProofs [List.take, List.drop, memL, List.range, List.range.loop]
                      | true => simp (maxSteps := 4000000) -implicitDefEqProofs [List.take, List.drop, memL, List.range, List.range.loop]
end Go.Proofs.YtbdokibepndibaaGreat.Eng.C
