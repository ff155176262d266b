/- Zq, Zv, Zw, as one text. -/
import Derived.Test.YtbdokibepndibaaGreatCG14
import Derived.Test.YtbdokibepndibaaGreatCG13
import Derived.Test.YtbdokibepndibaaGreatCG15
namespace Go.Proofs.YtbdokibepndibaaGreat.Eng.C
set_option linter.unusedSimpArgs false
set_option linter.unusedVariables false
set_option maxHeartbeats 16000000
set_option maxRecDepth 100000
open Go.RowKit Go.Proofs
attribute [local simp] x_seq x_cond x_block x_region x_skip x_exit x_ret head_id runG runOps doOp wantB stepOp AO.eff pureOp St.get St.one St.num St.put St.optNum binA binInt gOp gOp0 gOpL gResL updO gRes gEff addObs_nil addObs_one freshB_memL freshB_none freshB_upd freshB_addMem freshB_addObs effOp2 effOp memL_app stoRow cellsAt toCells toCell scalar_int scalar_bool scalar_str scalar_sl updAt fromRo callRO addMem_nil roArgs roL roA srcCells A1.ownB addMem shift ren SV.map Ob.map Ob.noRo SV.noRo A1.noRo resOf resSV SV.ids A1.ids reach allObs pos St.canon A1.slB flat_int cl_flat' St.parts Eng.inB reps fillA newRowSt appSt oldOf

def linksOk (n : PNode) : Bool := decide (n.conn.length = 3) && decide (n.sync.length = 3) && decide (n.copies.length = 3) && allN 3 (sLinkP n)
theorem links_eq (n : PNode) : linksOk n = ((decide (n.conn.length = 3) && marksAll n.sync && decide (n.copies.length = 3)) && allN 3 (linkP n)) := by
  unfold linksOk marksAll
  by_cases h3 : n.sync.length = 3
  · have e : n.sync.all marksOk = allN 3 (fun i => marksOk (n.sync.getD i [])) := by rw [all_allN n.sync [], h3]
    have e2 : allN 3 (sLinkP n) = (allN 3 (fun i => marksOk (n.sync.getD i [])) && allN 3 (linkP n)) := by
      rw [Bool.eq_iff_iff, Bool.and_eq_true, allN_iff, allN_iff, allN_iff]
      constructor
      · intro h
        exact ⟨fun i hi => by have := h i hi; unfold sLinkP at this; simp only [Bool.and_eq_true] at this; exact this.1, fun i hi => by have := h i hi; unfold sLinkP at this; simp only [Bool.and_eq_true] at this; exact this.2⟩
      · rintro ⟨h1, h2⟩ i hi
        unfold sLinkP
        simp only [Bool.and_eq_true]
        exact ⟨h1 i hi, h2 i hi⟩
    rw [e, e2, h3]
    cases decide (n.conn.length = 3) <;> cases decide (n.copies.length = 3) <;> cases allN 3 (fun i => marksOk (n.sync.getD i [])) <;> cases allN 3 (linkP n) <;> simp
  · simp [h3]
theorem r_l8Links (n : PNode) (h : SmN n) : runRO (X tab) tab 64 [.v true (nodeA n)] = some (.v false [.bool (linksOk n)], []) := by
  by_cases h4 : n.conn.length = 3
  · have h4b : ((n.conn.length : Int) == 3) = true := by rw [beq_iff_eq]; omega
    by_cases h5 : n.sync.length = 3
    · have h5b : ((n.sync.length : Int) == 3) = true := by rw [beq_iff_eq]; omega
      by_cases h6 : n.copies.length = 3
      · have h6b : ((n.copies.length : Int) == 3) = true := by rw [beq_iff_eq]; omega
        have hl1 := fun {x} => loop_sLink n h4 h6 h5 h.syn (x := x)
        have hS1 : S_sLink n 0 = ⟨⟨[.bad, .v false [.pc (nodeC n)], .bad, .v false [.int .i64 (0)], .bad, .bad, .bad, .bad, .bad, .bad, .bad, .bad, .bad, .bad, .bad, .bad, .bad, .bad, .bad, .bad, .bad, .bad, .bad, .bad, .bad, .bad, .bad, .bad, .bad, .bad, .bad, .bad, .bad, .bad, .bad, .bad, .bad, .bad, .bad, .bad, .bad, .bad, .bad, .bad, .bad, .bad, .bad, .bad, .bad, .bad, .bad, .bad, .bad, .bad, .bad, .bad, .bad, .bad, .bad, .bad, .bad, .bad, .bad, .bad, .bad, .bad, .bad, .bad, .bad, .bad, .bad, .bad, .bad, .bad, .bad, .bad, .bad, .bad, .bad, .bad, .bad], memL [], []⟩, 0⟩ := rfl
        simp only [nodeC, intsC, intssC, bytesC, boolsC] at hl1 hS1
        have hR : linksOk n = allN 3 (sLinkP n) := by unfold linksOk; simp [h4, h5, h6]
        rw [hR]
        unfold runRO
        simp (maxSteps := 4000000) -implicitDefEqProofs [tab64, a64, List.take, List.drop, upd, rest, kill, mapMem, List.range, List.range.loop, spl, roCells, fromRo, bne, nodeA, h4b, h5b, h6b]
        rw [hl1 (by rw [hS1]; change _ = _; kernel_rfl)]
        cases allN 3 (sLinkP n) with
        | false => simp (maxSteps := 4000000) -implicitDefEqProofs [List.take, List.drop, memL, List.range, List.range.loop]
        | true => simp (maxSteps := 4000000) -implicitDefEqProofs [List.take, List.drop, memL, List.range, List.range.loop]
      · have h6b : ((n.copies.length : Int) == 3) = false := by rw [beq_eq_false_iff_ne]; omega
        have hR : linksOk n = false := by unfold linksOk; simp [h6]
        rw [hR]
        unfold runRO
        simp (maxSteps := 4000000) -implicitDefEqProofs [tab64, a64, List.take, List.drop, upd, rest, kill, mapMem, List.range, List.range.loop, memL, spl, roCells, fromRo, bne, nodeA, h4b, h5b, h6b]
    · have h5b : ((n.sync.length : Int) == 3) = false := by rw [beq_eq_false_iff_ne]; omega
      have hR : linksOk n = false := by unfold linksOk; simp [h5]
      rw [hR]
      unfold runRO
      simp (maxSteps := 4000000) -implicitDefEqProofs [tab64, a64, List.take, List.drop, upd, rest, kill, mapMem, List.range, List.range.loop, memL, spl, roCells, fromRo, bne, nodeA, h4b, h5b]
  · have h4b : ((n.conn.length : Int) == 3) = false := by rw [beq_eq_false_iff_ne]; omega
    have hR : linksOk n = false := by unfold linksOk; simp [h4]
    rw [hR]
    unfold runRO
    simp (maxSteps := 4000000) -implicitDefEqProofs [tab64, a64, List.take, List.drop, upd, rest, kill, mapMem, List.range, List.range.loop, memL, spl, roCells, fromRo, bne, nodeA, h4b]
theorem nodeOk_s (n : PNode) : nodeOk n = (rng n.id 0 2 && imageOk n.image && metaOk n.mt && linksOk n && !(n.prime && (!n.up || n.id == 2)) && !(!n.up && decide (0 < n.wait.length)) && allN n.wait.length (incP 200 n.wait) && slotSame n) := by
  rw [links_eq]
  unfold nodeOk
  generalize allN n.wait.length (incP 200 n.wait) = x1
  generalize slotSame n = x2
  generalize allN 3 (linkP n) = x3
  generalize (decide (n.conn.length = 3) && marksAll n.sync && decide (n.copies.length = 3)) = x4
  generalize (!(n.prime && (!n.up || n.id == 2))) = x5
  generalize (!(!n.up && decide (0 < n.wait.length))) = x6
  generalize (rng n.id 0 2 && imageOk n.image && metaOk n.mt) = x7
  cases x1 <;> cases x2 <;> cases x3 <;> cases x4 <;> cases x5 <;> cases x6 <;> cases x7 <;> rfl
theorem r_sNodeOk (n : PNode) (h : SmN n) (hw : WfN n) : runRO (X tab) tab 37 [.v true (nodeA n)] = some (.v false [.bool (nodeOk n)], []) := by
  have q1 := r_l1In n.id 0 2
  have q2 := r_sImageOk n.image h.image
  have q3 := r_sMetaOk n.mt (smM_of n h)
  have q5 := r_l8Links n h
  have q6 := r_sSlotGet n (u8_bytes hw.2.2.2.1) (u8_bytes hw.2.2.2.2.1) h.sa h.sb
  have e8 : ((0 : Int) < (n.wait.length : Int)) = (0 < n.wait.length) := by apply propext; omega
  simp only [metaA] at q3
  simp only [slotsA] at q6
  simp only [nodeA] at q5
  cases h1 : rng n.id 0 2 with
  | false =>
    rw [h1] at q1
    have hR : nodeOk n = false := by rw [nodeOk_s]; simp [h1]
    rw [hR]
    unfold runRO
    simp (maxSteps := 4000000) -implicitDefEqProofs [tab37, a37, List.take, List.drop, upd, rest, kill, mapMem, List.range, List.range.loop, memL, spl, roCells, fromRo, bne, nodeA, q1, q2, q3, q5]
  | true =>
    rw [h1] at q1
    cases h2 : imageOk n.image with
    | false =>
      rw [h2] at q2
      have hR : nodeOk n = false := by rw [nodeOk_s]; simp [h1, h2]
      rw [hR]
      unfold runRO
      simp (maxSteps := 4000000) -implicitDefEqProofs [tab37, a37, List.take, List.drop, upd, rest, kill, mapMem, List.range, List.range.loop, memL, spl, roCells, fromRo, bne, nodeA, q1, q2, q3, q5]
    | true =>
      rw [h2] at q2
      cases h3 : metaOk n.mt with
      | false =>
        rw [h3] at q3
        have hR : nodeOk n = false := by rw [nodeOk_s]; simp [h1, h2, h3]
        rw [hR]
        unfold runRO
        simp (maxSteps := 4000000) -implicitDefEqProofs [tab37, a37, List.take, List.drop, upd, rest, kill, mapMem, List.range, List.range.loop, memL, spl, roCells, fromRo, bne, nodeA, q1, q2, q3, q5]
      | true =>
        rw [h3] at q3
        cases h5 : linksOk n with
        | false =>
          rw [h5] at q5
          have hR : nodeOk n = false := by rw [nodeOk_s]; simp [h1, h2, h3, h5]
          rw [hR]
          unfold runRO
          simp (maxSteps := 4000000) -implicitDefEqProofs [tab37, a37, List.take, List.drop, upd, rest, kill, mapMem, List.range, List.range.loop, memL, spl, roCells, fromRo, bne, nodeA, q1, q2, q3, q5]
        | true =>
          rw [h5] at q5
          cases hu : n.up with
          | false =>
            cases hp : n.prime with
            | true =>
              simp only [hu, hp] at q5
              have hR : nodeOk n = false := by rw [nodeOk_s]; simp [h1, h2, h3, h5, hu, hp]
              rw [hR]
              unfold runRO
              simp (maxSteps := 4000000) -implicitDefEqProofs [tab37, a37, List.take, List.drop, upd, rest, kill, mapMem, List.range, List.range.loop, memL, spl, roCells, fromRo, bne, nodeA, q1, q2, q3, q5, hu, hp]
            | false =>
              by_cases h8 : 0 < n.wait.length
              · simp only [hu, hp] at q5
                have hR : nodeOk n = false := by rw [nodeOk_s]; simp [h1, h2, h3, h5, hu, hp, h8]
                rw [hR]
                unfold runRO
                simp (maxSteps := 4000000) -implicitDefEqProofs [tab37, a37, List.take, List.drop, upd, rest, kill, mapMem, List.range, List.range.loop, memL, spl, roCells, fromRo, bne, nodeA, q1, q2, q3, q5, hu, hp, e8, h8]
              · simp only [hu, hp] at q5
                have hl2 := fun {x} => loop_sWait n h.wait hw.2.2.2.2.2.2 (x := x)
                have hS2 : S_sWait n 0 = ⟨⟨[.bad, .v false [.pc (nodeC n)], .bad, .v false [.int .i64 (0)], .bad, .bad, .bad, .bad, .bad, .bad, .bad, .bad, .bad, .bad, .bad, .bad, .bad, .bad, .bad, .bad, .bad, .bad, .bad, .bad, .bad, .bad, .bad, .bad, .bad, .bad, .bad, .bad, .bad, .bad, .bad, .bad, .bad, .bad, .bad, .bad, .bad, .bad, .bad, .bad, .bad, .bad, .bad, .bad, .bad, .bad, .bad, .bad, .bad, .bad, .bad, .bad, .bad, .bad, .bad, .bad, .bad, .bad, .bad, .bad, .bad, .bad, .bad, .bad, .bad, .bad, .bad, .bad, .bad, .bad, .bad, .bad, .bad, .bad, .bad, .bad, .bad, .bad, .bad, .bad, .bad, .bad, .bad, .bad, .bad, .bad, .bad, .bad, .bad, .bad, .bad, .bad, .bad, .bad, .bad], memL [], []⟩, 0⟩ := rfl
                simp only [nodeC, intsC, intssC, bytesC, boolsC] at hl2 hS2
                simp only [hu, hp] at hl2 hS2
                have hR : nodeOk n = (allN n.wait.length (incP 200 n.wait) && slotSame n) := by rw [nodeOk_s]; simp [h1, h2, h3, h5, hu, hp, e8, h8]
                rw [hR]
                unfold runRO
                simp (maxSteps := 4000000) -implicitDefEqProofs [tab37, a37, List.take, List.drop, upd, rest, kill, mapMem, List.range, List.range.loop, spl, roCells, fromRo, bne, nodeA, q1, q2, q3, q5, hu, hp, e8, h8]
                rw [hl2 (by rw [hS2]; change _ = _; kernel_rfl)]
                cases hk2 : allN n.wait.length (incP 200 n.wait) with
                | false => simp (maxSteps := 4000000) -implicitDefEqProofs [List.take, List.drop, memL, List.range, List.range.loop]
                | true =>
                  cases hg : slotGet n.sa n.sb with
                  | none =>
                    rw [hg] at q6
                    simp only [latSV, zeroM, Option.isSome] at q6
                    simp (maxSteps := 4000000) -implicitDefEqProofs [List.take, List.drop, upd, rest, kill, mapMem, List.range, List.range.loop, memL, spl, roCells, fromRo, slotSame, hg, q6]
                  | some p =>
                    obtain ⟨m, k⟩ := p
                    have hok := (slotGet_ok hg).1
                    rw [hg] at q6
                    simp only [latSV, metaS, metaO, Option.isSome] at q6
                    have q7 := r_sSameMeta m n.mt (okM hok).sm
                    simp only [metaA] at q7
                    have z1 : (cl .i64 m.gens).take m.gens.length = cl .i64 m.gens := cl_self
                    have z2 : (cl .i64 m.gens).length = m.gens.length := cl_length
                    have z3 : (m.bits.map intsC).length = m.bits.length := by simp
                    have z4 : (m.bits.map intsC).take m.bits.length = m.bits.map intsC := by rw [← z3, List.take_length]
                    simp only [slotSame, hg]
                    generalize sameM m n.mt = sm at *
                    simp (maxSteps := 4000000) -implicitDefEqProofs [List.take, List.drop, upd, rest, kill, mapMem, List.range, List.range.loop, memL, spl, roCells, fromRo, q6, q7, z1, z2, z3, z4]
          | true =>
            cases hp : n.prime with
            | false =>
              simp only [hu, hp] at q5
              have hl2 := fun {x} => loop_sWait n h.wait hw.2.2.2.2.2.2 (x := x)
              have hS2 : S_sWait n 0 = ⟨⟨[.bad, .v false [.pc (nodeC n)], .bad, .v false [.int .i64 (0)], .bad, .bad, .bad, .bad, .bad, .bad, .bad, .bad, .bad, .bad, .bad, .bad, .bad, .bad, .bad, .bad, .bad, .bad, .bad, .bad, .bad, .bad, .bad, .bad, .bad, .bad, .bad, .bad, .bad, .bad, .bad, .bad, .bad, .bad, .bad, .bad, .bad, .bad, .bad, .bad, .bad, .bad, .bad, .bad, .bad, .bad, .bad, .bad, .bad, .bad, .bad, .bad, .bad, .bad, .bad, .bad, .bad, .bad, .bad, .bad, .bad, .bad, .bad, .bad, .bad, .bad, .bad, .bad, .bad, .bad, .bad, .bad, .bad, .bad, .bad, .bad, .bad, .bad, .bad, .bad, .bad, .bad, .bad, .bad, .bad, .bad, .bad, .bad, .bad, .bad, .bad, .bad, .bad, .bad, .bad], memL [], []⟩, 0⟩ := rfl
              simp only [nodeC, intsC, intssC, bytesC, boolsC] at hl2 hS2
              simp only [hu, hp] at hl2 hS2
              have hR : nodeOk n = (allN n.wait.length (incP 200 n.wait) && slotSame n) := by rw [nodeOk_s]; simp [h1, h2, h3, h5, hu, hp]
              rw [hR]
              unfold runRO
              simp (maxSteps := 4000000) -implicitDefEqProofs [tab37, a37, List.take, List.drop, upd, rest, kill, mapMem, List.range, List.range.loop, spl, roCells, fromRo, bne, nodeA, q1, q2, q3, q5, hu, hp]
              rw [hl2 (by rw [hS2]; change _ = _; kernel_rfl)]
              cases hk2 : allN n.wait.length (incP 200 n.wait) with
              | false => simp (maxSteps := 4000000) -implicitDefEqProofs [List.take, List.drop, memL, List.range, List.range.loop]
              | true =>
                cases hg : slotGet n.sa n.sb with
                | none =>
                  rw [hg] at q6
                  simp only [latSV, zeroM, Option.isSome] at q6
                  simp (maxSteps := 4000000) -implicitDefEqProofs [List.take, List.drop, upd, rest, kill, mapMem, List.range, List.range.loop, memL, spl, roCells, fromRo, slotSame, hg, q6]
                | some p =>
                  obtain ⟨m, k⟩ := p
                  have hok := (slotGet_ok hg).1
                  rw [hg] at q6
                  simp only [latSV, metaS, metaO, Option.isSome] at q6
                  have q7 := r_sSameMeta m n.mt (okM hok).sm
                  simp only [metaA] at q7
                  have z1 : (cl .i64 m.gens).take m.gens.length = cl .i64 m.gens := cl_self
                  have z2 : (cl .i64 m.gens).length = m.gens.length := cl_length
                  have z3 : (m.bits.map intsC).length = m.bits.length := by simp
                  have z4 : (m.bits.map intsC).take m.bits.length = m.bits.map intsC := by rw [← z3, List.take_length]
                  simp only [slotSame, hg]
                  generalize sameM m n.mt = sm at *
                  simp (maxSteps := 4000000) -implicitDefEqProofs [List.take, List.drop, upd, rest, kill, mapMem, List.range, List.range.loop, memL, spl, roCells, fromRo, q6, q7, z1, z2, z3, z4]
            | true =>
              cases hid : (n.id == 2) with
              | true =>
                simp only [hu, hp] at q5
                have hR : nodeOk n = false := by rw [nodeOk_s]; simp [h1, h2, h3, h5, hu, hp, hid]
                rw [hR]
                unfold runRO
                simp (maxSteps := 4000000) -implicitDefEqProofs [tab37, a37, List.take, List.drop, upd, rest, kill, mapMem, List.range, List.range.loop, memL, spl, roCells, fromRo, bne, nodeA, q1, q2, q3, q5, hu, hp, hid]
              | false =>
                simp only [hu, hp] at q5
                have hl2 := fun {x} => loop_sWait n h.wait hw.2.2.2.2.2.2 (x := x)
                have hS2 : S_sWait n 0 = ⟨⟨[.bad, .v false [.pc (nodeC n)], .bad, .v false [.int .i64 (0)], .bad, .bad, .bad, .bad, .bad, .bad, .bad, .bad, .bad, .bad, .bad, .bad, .bad, .bad, .bad, .bad, .bad, .bad, .bad, .bad, .bad, .bad, .bad, .bad, .bad, .bad, .bad, .bad, .bad, .bad, .bad, .bad, .bad, .bad, .bad, .bad, .bad, .bad, .bad, .bad, .bad, .bad, .bad, .bad, .bad, .bad, .bad, .bad, .bad, .bad, .bad, .bad, .bad, .bad, .bad, .bad, .bad, .bad, .bad, .bad, .bad, .bad, .bad, .bad, .bad, .bad, .bad, .bad, .bad, .bad, .bad, .bad, .bad, .bad, .bad, .bad, .bad, .bad, .bad, .bad, .bad, .bad, .bad, .bad, .bad, .bad, .bad, .bad, .bad, .bad, .bad, .bad, .bad, .bad, .bad], memL [], []⟩, 0⟩ := rfl
                simp only [nodeC, intsC, intssC, bytesC, boolsC] at hl2 hS2
                simp only [hu, hp] at hl2 hS2
                have hR : nodeOk n = (allN n.wait.length (incP 200 n.wait) && slotSame n) := by rw [nodeOk_s]; simp [h1, h2, h3, h5, hu, hp, hid]
                rw [hR]
                unfold runRO
                simp (maxSteps := 4000000) -implicitDefEqProofs [tab37, a37, List.take, List.drop, upd, rest, kill, mapMem, List.range, List.range.loop, spl, roCells, fromRo, bne, nodeA, q1, q2, q3, q5, hu, hp, hid]
                rw [hl2 (by rw [hS2]; change _ = _; kernel_rfl)]
                cases hk2 : allN n.wait.length (incP 200 n.wait) with
                | false => simp (maxSteps := 4000000) -implicitDefEqProofs [List.take, List.drop, memL, List.range, List.range.loop]
                | true =>
                  cases hg : slotGet n.sa n.sb with
                  | none =>
                    rw [hg] at q6
                    simp only [latSV, zeroM, Option.isSome] at q6
                    simp (maxSteps := 4000000) -implicitDefEqProofs [List.take, List.drop, upd, rest, kill, mapMem, List.range, List.range.loop, memL, spl, roCells, fromRo, slotSame, hg, q6]
                  | some p =>
                    obtain ⟨m, k⟩ := p
                    have hok := (slotGet_ok hg).1
                    rw [hg] at q6
                    simp only [latSV, metaS, metaO, Option.isSome] at q6
                    have q7 := r_sSameMeta m n.mt (okM hok).sm
                    simp only [metaA] at q7
                    have z1 : (cl .i64 m.gens).take m.gens.length = cl .i64 m.gens := cl_self
                    have z2 : (cl .i64 m.gens).length = m.gens.length := cl_length
                    have z3 : (m.bits.map intsC).length = m.bits.length := by simp
                    have z4 : (m.bits.map intsC).take m.bits.length = m.bits.map intsC := by rw [← z3, List.take_length]
                    simp only [slotSame, hg]
                    generalize sameM m n.mt = sm at *
                    simp (maxSteps := 4000000) -implicitDefEqProofs [List.take, List.drop, upd, rest, kill, mapMem, List.range, List.range.loop, memL, spl, roCells, fromRo, q6, q7, z1, z2, z3, z4]

def imgP (w : PWorld) (n : PNode) : Bool := n.image.any fun x => decide ((w.log.length : Int) < x)
def nodeP (w : PWorld) (i : Nat) : Bool := nodeOk (w.nodes.getD i nodeD) && ((w.nodes.getD i nodeD).id == (i : Int)) && !decide ((w.log.length : Int) < (w.nodes.getD i nodeD).mt.last) && !imgP w (w.nodes.getD i nodeD)
theorem f_nodesOk (w : PWorld) (u : Nat) (y : Int) (sl : List SV) (m : Mem) (up : List SV) (nx : Nat) (hm : m u = some (.box (worldA w))) : runThru (X tab) tab 76 [.v false [.int .i64 y], .v false [.pr u [] 0]] ⟨⟨sl, m, up⟩, nx⟩ = some (.v false [.bool (decide ((w.log.length : Int) < y))], ⟨⟨sl, m, up⟩, nx + 448⟩) := by
  unfold runThru
  simp (maxSteps := 4000000) -implicitDefEqProofs [tab76, a76, List.take, List.drop, worldA, hm, resOf, resSV]
theorem t_ContainsF (l : List Int) (caps : List Nat) (f : FuncId) (p : Int → Bool) (c : Nat) (hn : l.length ≤ 1048576) (sl : List SV) (m : Mem) (up : List SV) (nx : Nat) (hf : ∀ (y : Int) sl up nx, runThru (X tab) tab f (.v false [.int .i64 y] :: caps.map fun t => .v false [.pr t [] 0]) ⟨⟨sl, m, up⟩, nx⟩ = some (.v false [.bool (p y)], ⟨⟨sl, m, up⟩, nx + c⟩)) :
    runThru (X tab) tab 75 [.v false [.ro l.length (cl .i64 l)], .v false [.fn f caps]] ⟨⟨sl, m, up⟩, nx⟩ = some (.v false [.bool (l.any p)], ⟨⟨sl, m, up⟩, nx + 384 + dT c (fidx p 0 l)⟩) := by
  have h1 := fun sl up nx => t_IndexF l caps f p c hn sl m up nx hf
  rw [← fidx_isSome (i := 0)]
  unfold runThru
  cases hp : fidx p 0 l with
  | none =>
    simp only [hp] at h1
    simp (maxSteps := 4000000) -implicitDefEqProofs [tab75, a75, List.take, List.drop, getAll, h1, resOf, resSV, Nat.add_assoc]
  | some j =>
    have hj : (0 : Int) ≤ (j : Int) := by omega
    simp only [hp] at h1
    simp (maxSteps := 4000000) -implicitDefEqProofs [tab75, a75, List.take, List.drop, getAll, h1, hj, resOf, resSV, Nat.add_assoc]
def S_Nodes (w : PWorld) (i : Nat) : XS := ⟨⟨[.bad, .v false [.pr 0 [] 0], .bad, .bad, .bad, .bad, .bad, .bad, .bad, .bad, .bad, .bad, .bad, .v false [.ro w.nodes.length (nodesC w.nodes)], .v false [.int .i64 (w.nodes.length)], .v false [.int .i64 (i)], .bad, .bad, .bad, .bad, .bad, .bad, .bad, .bad, .bad, .bad, .bad, .bad, .bad, .bad, .bad, .bad, .bad, .bad, .bad, .bad, .bad, .bad, .bad, .bad, .bad, .bad, .bad, .bad, .bad, .bad, .bad, .bad, .bad, .bad, .bad, .bad, .bad, .bad, .bad, .bad, .bad, .bad, .bad, .bad, .bad, .bad, .bad, .bad, .bad, .bad, .bad, .bad, .bad, .bad, .bad, .bad, .bad, .bad, .bad], memL [some (.box (worldA w))], []⟩, 1⟩
theorem loop_Nodes (w : PWorld) (hw : WfW w) (hs : SmW w) {x : XS} (hx : head true d45_0 x = S_Nodes w 0) : X tab l45_0 x = if allN w.nodes.length (nodeP w) = true then some (.exit 0, ⟨⟨[.bad, .v false [.pr 0 [] 0], .bad, .bad, .bad, .bad, .bad, .bad, .bad, .bad, .bad, .bad, .bad, .bad, .bad, .bad, .bad, .bad, .bad, .bad, .bad, .bad, .bad, .bad, .bad, .bad, .bad, .bad, .bad, .bad, .bad, .bad, .bad, .bad, .bad, .bad, .bad, .bad, .bad, .bad, .bad, .bad, .bad, .bad, .bad, .bad, .bad, .bad, .bad, .bad, .bad, .bad, .bad, .bad, .bad, .bad, .bad, .bad, .bad, .bad, .bad, .bad, .bad, .bad, .bad, .bad, .bad, .bad, .bad, .bad, .bad, .bad, .bad, .bad, .bad], memL [some (.box (worldA w))], []⟩, 1⟩) else some (.ret, ⟨⟨[.bad, .bad, .v false [.bool (false)], .bad, .bad, .bad, .bad, .bad, .bad, .bad, .bad, .bad, .bad, .bad, .bad, .bad, .bad, .bad, .bad, .bad, .bad, .bad, .bad, .bad, .bad, .bad, .bad, .bad, .bad, .bad, .bad, .bad, .bad, .bad, .bad, .bad, .bad, .bad, .bad, .bad, .bad, .bad, .bad, .bad, .bad, .bad, .bad, .bad, .bad, .bad, .bad, .bad, .bad, .bad, .bad, .bad, .bad, .bad, .bad, .bad, .bad, .bad, .bad, .bad, .bad, .bad, .bad, .bad, .bad, .bad, .bad, .bad, .bad, .bad, .bad], memL [], []⟩, 0⟩) := by
  have hn := hs.nodes
  have gen : ∀ i, i < w.nodes.length → (nodeP w i = true → ∃ z, X tab b45_0 (S_Nodes w i) = some (.nrm, z) ∧ head true d45_0 z = S_Nodes w (i + 1)) ∧ (nodeP w i = false → X tab b45_0 (S_Nodes w i) = some (.ret, ⟨⟨[.bad, .bad, .v false [.bool (false)], .bad, .bad, .bad, .bad, .bad, .bad, .bad, .bad, .bad, .bad, .bad, .bad, .bad, .bad, .bad, .bad, .bad, .bad, .bad, .bad, .bad, .bad, .bad, .bad, .bad, .bad, .bad, .bad, .bad, .bad, .bad, .bad, .bad, .bad, .bad, .bad, .bad, .bad, .bad, .bad, .bad, .bad, .bad, .bad, .bad, .bad, .bad, .bad, .bad, .bad, .bad, .bad, .bad, .bad, .bad, .bad, .bad, .bad, .bad, .bad, .bad, .bad, .bad, .bad, .bad, .bad, .bad, .bad, .bad, .bad, .bad, .bad], memL [], []⟩, 0⟩)) := by
    intro i hi
    have hmem : w.nodes.getD i nodeD ∈ w.nodes := by
      rw [List.getD_eq_getElem?_getD, List.getElem?_eq_getElem hi]
      exact List.getElem_mem hi
    obtain ⟨rr, hd⟩ := nodesC_d (l := w.nodes) (i := i) hi
    have sm := hs.node _ hmem
    have q1 := r_NodeOk _ sm (hw.nodes _ hmem)
    have h1 : (0 ≤ (i : Int) ∧ (i : Int) < (w.nodes.length : Int)) := by omega
    have h4 := wrap_next hi (show w.nodes.length ≤ 281474976710656 by omega)
    unfold nodeP
    generalize w.nodes.getD i nodeD = n at *
    have q2 := fun sl m up nx (hm : m 0 = some (.box (worldA w))) => t_ContainsF n.image [0] 76 (fun x => decide ((w.log.length : Int) < x)) 448 sm.image sl m up nx (fun y sl up nx => f_nodesOk w 0 y sl m up nx hm)
    have hi2 : (n.image.any fun x => decide ((w.log.length : Int) < x)) = imgP w n := rfl
    simp only [hi2] at q2
    simp only [nodeA] at q1
    simp only [nodeC, intsC, intssC, bytesC, boolsC, List.cons_append, List.nil_append] at hd
    simp only [S_Nodes, worldA] at q2 ⊢
    cases ho : nodeOk n with
    | false =>
      rw [ho] at q1
      refine ⟨fun hp => by simp at hp, fun _ => ?_⟩
      simp (maxSteps := 4000000) -implicitDefEqProofs [b45_0, List.take, List.drop, upd, List.range, List.range.loop, spl, fromRo, h1, hd, q1, hi]
      change _ = _
      kernel_rfl
    | true =>
      rw [ho] at q1
      cases hid : (n.id == (i : Int)) with
      | false =>
        refine ⟨fun hp => by simp at hp, fun _ => ?_⟩
        simp (maxSteps := 4000000) -implicitDefEqProofs [b45_0, List.take, List.drop, upd, List.range, List.range.loop, spl, fromRo, bne, h1, hd, q1, hid, hi]
        change _ = _
        kernel_rfl
      | true =>
        by_cases hl : (w.log.length : Int) < n.mt.last
        · refine ⟨fun hp => by simp [hl] at hp, fun _ => ?_⟩
          simp (maxSteps := 4000000) -implicitDefEqProofs [b45_0, List.take, List.drop, upd, List.range, List.range.loop, spl, fromRo, bne, h1, hd, q1, hid, hl, hi]
          change _ = _
          kernel_rfl
        · cases hg : imgP w n with
          | true =>
            rw [hg] at q2
            refine ⟨fun hp => by simp at hp, fun _ => ?_⟩
            simp (maxSteps := 4000000) -implicitDefEqProofs [b45_0, List.take, List.drop, upd, List.range, List.range.loop, spl, fromRo, bne, getAll, St.boxes, boxOf, h1, hd, q1, q2, hid, hl, hi]
            change _ = _
            kernel_rfl
          | false =>
            rw [hg] at q2
            refine ⟨fun _ => ?_, fun hp => by simp [hl] at hp⟩
            simp (maxSteps := 4000000) -implicitDefEqProofs [b45_0, List.take, List.drop, upd, List.range, List.range.loop, spl, fromRo, bne, getAll, St.boxes, boxOf, h1, h4, hd, q1, q2, hid, hl, hi]
            change _ = _
            kernel_rfl
  refine loopAll w.nodes.length (S_Nodes w) _ _ _ (by simp) (by simp) (fun i hi hp _ => (gen i hi).1 hp) (fun i hi hp _ => (gen i hi).2 hp) (fun _ => ?_) hx
  simp only [S_Nodes, worldA]
  simp (maxSteps := 4000000) -implicitDefEqProofs [b45_0, List.take, List.drop]
  change _ = _
  kernel_rfl

def heardP (w : PWorld) (i k : Nat) : Bool := !(connOf w i k && !connOf w k i)
def S_Con1 (w : PWorld) (n : PNode) (i k : Nat) : XS := ⟨⟨[.bad, .v false [.pr 0 [] 0], .bad, .bad, .bad, .v false [.int .i64 (i)], .v false [.pr 1 [] 0], .bad, .bad, .bad, .bad, .bad, .bad, .bad, .bad, .bad, .bad, .bad, .bad, .bad, .bad, .bad, .bad, .bad, .bad, .bad, .bad, .bad, .bad, .bad, .bad, .bad, .bad, .bad, .bad, .bad, .bad, .bad, .bad, .bad, .bad, .bad, .bad, .bad, .bad, .bad, .v false [.ro w.nodes.length (nodesC w.nodes)], .v false [.int .i64 (w.nodes.length)], .v false [.int .i64 (i)], .bad, .bad, .bad, .bad, .v false [.int .i64 (k)], .bad, .bad, .bad, .bad, .bad, .bad, .bad, .bad, .bad, .bad, .bad, .bad, .bad, .bad, .bad, .bad, .bad, .bad, .bad, .bad, .bad], memL [some (.box (worldA w)), some (.box (nodeA n))], []⟩, 2⟩
theorem loop_Con1 (w : PWorld) (h3 : w.nodes.length = 3) (hc3 : ∀ i, i < 3 → (w.nodes.getD i nodeD).conn.length = 3) (i : Nat) (hi : i < 3) {x : XS} (hx : head true d45_2 x = S_Con1 w (w.nodes.getD i nodeD) i 0) : X tab l45_2 x = if allN 3 (heardP w i) = true then some (.exit 4, ⟨⟨[.bad, .v false [.pr 0 [] 0], .bad, .bad, .bad, .bad, .bad, .bad, .bad, .bad, .bad, .bad, .bad, .bad, .bad, .bad, .bad, .bad, .bad, .bad, .bad, .bad, .bad, .bad, .bad, .bad, .bad, .bad, .bad, .bad, .bad, .bad, .bad, .bad, .bad, .bad, .bad, .bad, .bad, .bad, .bad, .bad, .bad, .bad, .bad, .bad, .v false [.ro w.nodes.length (nodesC w.nodes)], .v false [.int .i64 (w.nodes.length)], .v false [.int .i64 (i)], .bad, .bad, .bad, .bad, .bad, .bad, .bad, .bad, .bad, .bad, .bad, .bad, .bad, .bad, .bad, .bad, .bad, .bad, .bad, .bad, .bad, .bad, .bad, .bad, .bad, .bad], memL [some (.box (worldA w))], []⟩, 1⟩) else some (.ret, ⟨⟨[.bad, .bad, .v false [.bool (false)], .bad, .bad, .bad, .bad, .bad, .bad, .bad, .bad, .bad, .bad, .bad, .bad, .bad, .bad, .bad, .bad, .bad, .bad, .bad, .bad, .bad, .bad, .bad, .bad, .bad, .bad, .bad, .bad, .bad, .bad, .bad, .bad, .bad, .bad, .bad, .bad, .bad, .bad, .bad, .bad, .bad, .bad, .bad, .bad, .bad, .bad, .bad, .bad, .bad, .bad, .bad, .bad, .bad, .bad, .bad, .bad, .bad, .bad, .bad, .bad, .bad, .bad, .bad, .bad, .bad, .bad, .bad, .bad, .bad, .bad, .bad, .bad], memL [], []⟩, 0⟩) := by
  have gen : ∀ k, k < 3 → (heardP w i k = true → ∃ z, X tab b45_2 (S_Con1 w (w.nodes.getD i nodeD) i k) = some (.nrm, z) ∧ head true d45_2 z = S_Con1 w (w.nodes.getD i nodeD) i (k + 1)) ∧ (heardP w i k = false → X tab b45_2 (S_Con1 w (w.nodes.getD i nodeD) i k) = some (.ret, ⟨⟨[.bad, .bad, .v false [.bool (false)], .bad, .bad, .bad, .bad, .bad, .bad, .bad, .bad, .bad, .bad, .bad, .bad, .bad, .bad, .bad, .bad, .bad, .bad, .bad, .bad, .bad, .bad, .bad, .bad, .bad, .bad, .bad, .bad, .bad, .bad, .bad, .bad, .bad, .bad, .bad, .bad, .bad, .bad, .bad, .bad, .bad, .bad, .bad, .bad, .bad, .bad, .bad, .bad, .bad, .bad, .bad, .bad, .bad, .bad, .bad, .bad, .bad, .bad, .bad, .bad, .bad, .bad, .bad, .bad, .bad, .bad, .bad, .bad, .bad, .bad, .bad, .bad], memL [], []⟩, 0⟩)) := by
    intro k hk
    have i1 : (0 ≤ (i : Int) ∧ (i : Int) < 3) := by omega
    have k1 : (0 ≤ (k : Int) ∧ (k : Int) < 3) := by omega
    have h4 := wrap_next hk (show 3 ≤ 281474976710656 by omega)
    obtain ⟨r2, d2⟩ := nodesC_d (l := w.nodes) (i := k) (by omega)
    have c1 := cb_at (dropx_getD (l := (w.nodes.getD i nodeD).conn) (i := k) false (by rw [hc3 i hi]; exact hk))
    have c2 := cb_at (dropx_getD (l := (w.nodes.getD k nodeD).conn) (i := i) false (by rw [hc3 k hk]; exact hi))
    have l1 := hc3 i hi
    have l2 := hc3 k hk
    simp only [nodeC, boolsC, List.cons_append, List.nil_append] at d2
    rw [l2] at d2
    unfold heardP connOf
    simp only [S_Con1, worldA, nodeA, h3]
    rw [l1]
    generalize (w.nodes.getD i nodeD).conn.getD k false = p at *
    generalize (w.nodes.getD k nodeD).conn.getD i false = q at *
    generalize w.nodes.getD i nodeD = n1 at *
    generalize w.nodes.getD k nodeD = n2 at *
    cases p with
    | false =>
      refine ⟨fun hp => ?_, fun hp => by simp at hp⟩
      simp (maxSteps := 4000000) -implicitDefEqProofs [b45_2, List.take, List.drop, upd, List.range, List.range.loop, spl, fromRo, i1, k1, h4, d2, c1, c2, hi, hk]
      change _ = _
      kernel_rfl
    | true =>
      cases q with
      | false =>
        refine ⟨fun hp => by simp at hp, fun hp => ?_⟩
        simp (maxSteps := 4000000) -implicitDefEqProofs [b45_2, List.take, List.drop, upd, List.range, List.range.loop, spl, fromRo, i1, k1, h4, d2, c1, c2, hi, hk]
        change _ = _
        kernel_rfl
      | true =>
        refine ⟨fun hp => ?_, fun hp => by simp at hp⟩
        simp (maxSteps := 4000000) -implicitDefEqProofs [b45_2, List.take, List.drop, upd, List.range, List.range.loop, spl, fromRo, i1, k1, h4, d2, c1, c2, hi, hk]
        change _ = _
        kernel_rfl
  refine loopAll 3 (S_Con1 w (w.nodes.getD i nodeD) i) _ _ _ (by simp) (by simp) (fun k hk hp _ => (gen k hk).1 hp) (fun k hk hp _ => (gen k hk).2 hp) (fun _ => ?_) hx
  simp only [S_Con1, worldA, nodeA]
  simp (maxSteps := 4000000) -implicitDefEqProofs [b45_2, List.take, List.drop, fromRo]
  change _ = _
  kernel_rfl
def S_Con0 (w : PWorld) (i : Nat) : XS := ⟨⟨[.bad, .v false [.pr 0 [] 0], .bad, .bad, .bad, .bad, .bad, .bad, .bad, .bad, .bad, .bad, .bad, .bad, .bad, .bad, .bad, .bad, .bad, .bad, .bad, .bad, .bad, .bad, .bad, .bad, .bad, .bad, .bad, .bad, .bad, .bad, .bad, .bad, .bad, .bad, .bad, .bad, .bad, .bad, .bad, .bad, .bad, .bad, .bad, .bad, .v false [.ro w.nodes.length (nodesC w.nodes)], .v false [.int .i64 (w.nodes.length)], .v false [.int .i64 (i)], .bad, .bad, .bad, .bad, .bad, .bad, .bad, .bad, .bad, .bad, .bad, .bad, .bad, .bad, .bad, .bad, .bad, .bad, .bad, .bad, .bad, .bad, .bad, .bad, .bad, .bad], memL [some (.box (worldA w))], []⟩, 1⟩
theorem loop_Con0 (w : PWorld) (h3 : w.nodes.length = 3) (hc3 : ∀ i, i < 3 → (w.nodes.getD i nodeD).conn.length = 3) {x : XS} (hx : head true d45_1 x = S_Con0 w 0) : X tab l45_1 x = if allN 3 (fun i => allN 3 (heardP w i)) = true then some (.exit 2, ⟨⟨[.bad, .bad, .bad, .bad, .bad, .bad, .bad, .bad, .bad, .bad, .bad, .bad, .bad, .bad, .bad, .bad, .bad, .bad, .bad, .bad, .bad, .bad, .bad, .bad, .bad, .bad, .bad, .bad, .bad, .bad, .bad, .bad, .bad, .bad, .bad, .bad, .bad, .bad, .bad, .bad, .bad, .bad, .bad, .bad, .bad, .bad, .bad, .bad, .bad, .bad, .bad, .bad, .bad, .bad, .bad, .bad, .bad, .bad, .bad, .bad, .bad, .bad, .bad, .bad, .bad, .bad, .bad, .bad, .bad, .bad, .bad, .bad, .bad, .bad, .bad], memL [], []⟩, 0⟩) else some (.ret, ⟨⟨[.bad, .bad, .v false [.bool (false)], .bad, .bad, .bad, .bad, .bad, .bad, .bad, .bad, .bad, .bad, .bad, .bad, .bad, .bad, .bad, .bad, .bad, .bad, .bad, .bad, .bad, .bad, .bad, .bad, .bad, .bad, .bad, .bad, .bad, .bad, .bad, .bad, .bad, .bad, .bad, .bad, .bad, .bad, .bad, .bad, .bad, .bad, .bad, .bad, .bad, .bad, .bad, .bad, .bad, .bad, .bad, .bad, .bad, .bad, .bad, .bad, .bad, .bad, .bad, .bad, .bad, .bad, .bad, .bad, .bad, .bad, .bad, .bad, .bad, .bad, .bad, .bad], memL [], []⟩, 0⟩) := by
  have gen : ∀ i, i < 3 → (allN 3 (heardP w i) = true → ∃ z, X tab b45_1 (S_Con0 w i) = some (.nrm, z) ∧ head true d45_1 z = S_Con0 w (i + 1)) ∧ (allN 3 (heardP w i) = false → X tab b45_1 (S_Con0 w i) = some (.ret, ⟨⟨[.bad, .bad, .v false [.bool (false)], .bad, .bad, .bad, .bad, .bad, .bad, .bad, .bad, .bad, .bad, .bad, .bad, .bad, .bad, .bad, .bad, .bad, .bad, .bad, .bad, .bad, .bad, .bad, .bad, .bad, .bad, .bad, .bad, .bad, .bad, .bad, .bad, .bad, .bad, .bad, .bad, .bad, .bad, .bad, .bad, .bad, .bad, .bad, .bad, .bad, .bad, .bad, .bad, .bad, .bad, .bad, .bad, .bad, .bad, .bad, .bad, .bad, .bad, .bad, .bad, .bad, .bad, .bad, .bad, .bad, .bad, .bad, .bad, .bad, .bad, .bad, .bad], memL [], []⟩, 0⟩)) := by
    intro i hi
    have i1 : (0 ≤ (i : Int) ∧ (i : Int) < 3) := by omega
    have h4 := wrap_next hi (show 3 ≤ 281474976710656 by omega)
    obtain ⟨r1, d1⟩ := nodesC_d (l := w.nodes) (i := i) (by omega)
    have hlp := fun {x} => loop_Con1 w h3 hc3 i hi (x := x)
    have hS : S_Con1 w (w.nodes.getD i nodeD) i 0 = ⟨⟨[.bad, .v false [.pr 0 [] 0], .bad, .bad, .bad, .v false [.int .i64 (i)], .v false [.pr 1 [] 0], .bad, .bad, .bad, .bad, .bad, .bad, .bad, .bad, .bad, .bad, .bad, .bad, .bad, .bad, .bad, .bad, .bad, .bad, .bad, .bad, .bad, .bad, .bad, .bad, .bad, .bad, .bad, .bad, .bad, .bad, .bad, .bad, .bad, .bad, .bad, .bad, .bad, .bad, .bad, .v false [.ro w.nodes.length (nodesC w.nodes)], .v false [.int .i64 (w.nodes.length)], .v false [.int .i64 (i)], .bad, .bad, .bad, .bad, .v false [.int .i64 (0)], .bad, .bad, .bad, .bad, .bad, .bad, .bad, .bad, .bad, .bad, .bad, .bad, .bad, .bad, .bad, .bad, .bad, .bad, .bad, .bad, .bad], memL [some (.box (worldA w)), some (.box (nodeA (w.nodes.getD i nodeD)))], []⟩, 2⟩ := rfl
    generalize w.nodes.getD i nodeD = n at *
    simp only [nodeC, intsC, intssC, bytesC, boolsC, List.cons_append, List.nil_append] at d1
    simp only [S_Con0, worldA, nodeA, h3] at hlp hS ⊢
    cases hb : allN 3 (heardP w i) with
    | true =>
      rw [hb] at hlp
      refine ⟨fun _ => ?_, fun hp => by cases hp⟩
      simp (maxSteps := 4000000) -implicitDefEqProofs [b45_1, List.take, List.drop, upd, spl, fromRo, i1, h4, d1, hi]
      rw [hlp (by rw [hS]; change _ = _; kernel_rfl)]
      simp (maxSteps := 4000000) -implicitDefEqProofs [List.take, List.drop, i1, h4, hi]
      change _ = _
      kernel_rfl
    | false =>
      rw [hb] at hlp
      refine ⟨fun hp => by (cases hp), fun _ => ?_⟩
      simp (maxSteps := 4000000) -implicitDefEqProofs [b45_1, List.take, List.drop, upd, spl, fromRo, i1, h4, d1, hi]
      rw [hlp (by rw [hS]; change _ = _; kernel_rfl)]
      simp (maxSteps := 4000000) -implicitDefEqProofs [List.take, List.drop]
  refine loopAll 3 (S_Con0 w) _ _ _ (by simp) (by simp) (fun i hi hp _ => (gen i hi).1 hp) (fun i hi hp _ => (gen i hi).2 hp) (fun _ => ?_) hx
  simp only [S_Con0, worldA, h3]
  simp (maxSteps := 4000000) -implicitDefEqProofs [b45_1, List.take, List.drop, fromRo]
  change _ = _
  kernel_rfl
def nodesOk (w : PWorld) : Bool := decide (w.nodes.length = 3) && allN w.nodes.length (nodeP w) && allN 3 (fun i => allN 3 (heardP w i))
theorem nodeP_conn {w : PWorld} {i : Nat} (h : nodeP w i = true) : (w.nodes.getD i nodeD).conn.length = 3 := by
  simp only [nodeP, nodeOk, Bool.and_eq_true, decide_eq_true_eq] at h
  exact h.1.1.1.1.1.1.1.1.2.1.1
theorem r_nodesOk (w : PWorld) (hw : WfW w) (hs : SmW w) : runRO (X tab) tab 45 [.v true (worldA w)] = some (.v false [.bool (nodesOk w)], []) := by
  unfold nodesOk
  by_cases h3 : w.nodes.length = 3
  · have h3b : ((w.nodes.length : Int) == 3) = true := by rw [beq_iff_eq]; omega
    have hl0 := fun {x} => loop_Nodes w hw hs (x := x)
    have hS0 : S_Nodes w 0 = ⟨⟨[.bad, .v false [.pr 0 [] 0], .bad, .bad, .bad, .bad, .bad, .bad, .bad, .bad, .bad, .bad, .bad, .v false [.ro w.nodes.length (nodesC w.nodes)], .v false [.int .i64 (w.nodes.length)], .v false [.int .i64 (0)], .bad, .bad, .bad, .bad, .bad, .bad, .bad, .bad, .bad, .bad, .bad, .bad, .bad, .bad, .bad, .bad, .bad, .bad, .bad, .bad, .bad, .bad, .bad, .bad, .bad, .bad, .bad, .bad, .bad, .bad, .bad, .bad, .bad, .bad, .bad, .bad, .bad, .bad, .bad, .bad, .bad, .bad, .bad, .bad, .bad, .bad, .bad, .bad, .bad, .bad, .bad, .bad, .bad, .bad, .bad, .bad, .bad, .bad, .bad], memL [some (.box (worldA w))], []⟩, 1⟩ := rfl
    have hS1 : S_Con0 w 0 = ⟨⟨[.bad, .v false [.pr 0 [] 0], .bad, .bad, .bad, .bad, .bad, .bad, .bad, .bad, .bad, .bad, .bad, .bad, .bad, .bad, .bad, .bad, .bad, .bad, .bad, .bad, .bad, .bad, .bad, .bad, .bad, .bad, .bad, .bad, .bad, .bad, .bad, .bad, .bad, .bad, .bad, .bad, .bad, .bad, .bad, .bad, .bad, .bad, .bad, .bad, .v false [.ro w.nodes.length (nodesC w.nodes)], .v false [.int .i64 (w.nodes.length)], .v false [.int .i64 (0)], .bad, .bad, .bad, .bad, .bad, .bad, .bad, .bad, .bad, .bad, .bad, .bad, .bad, .bad, .bad, .bad, .bad, .bad, .bad, .bad, .bad, .bad, .bad, .bad, .bad, .bad], memL [some (.box (worldA w))], []⟩, 1⟩ := rfl
    simp only [worldA] at hl0 hS0 hS1
    unfold runRO
    simp (maxSteps := 4000000) -implicitDefEqProofs [tab45, a45, List.take, List.drop, upd, rest, kill, mapMem, List.range, List.range.loop, bne, worldA, h3b]
    rw [hl0 (by rw [hS0]; change _ = _; kernel_rfl)]
    cases hn : allN w.nodes.length (nodeP w) with
    | false => simp (maxSteps := 4000000) -implicitDefEqProofs [List.take, List.drop, memL, List.range, List.range.loop]
    | true =>
      have hc3 : ∀ i, i < 3 → (w.nodes.getD i nodeD).conn.length = 3 := fun i hi => nodeP_conn (allN_iff.1 hn i (by omega))
      have hl1 := fun {x} => loop_Con0 w h3 hc3 (x := x)
      simp only [worldA] at hl1
      simp (maxSteps := 4000000) -implicitDefEqProofs [List.take, List.drop, upd]
      rw [hl1 (by rw [hS1]; change _ = _; kernel_rfl)]
      cases allN 3 (fun i => allN 3 (heardP w i)) with
      | false => simp (maxSteps := 4000000) -implicitDefEqProofs [List.take, List.drop, memL, List.range, List.range.loop, h3]
      | true => simp (maxSteps := 4000000) -implicitDefEqProofs [List.take, List.drop, memL, List.range, List.range.loop, h3]
  · have h3b : ((w.nodes.length : Int) == 3) = false := by rw [beq_eq_false_iff_ne]; omega
    unfold runRO
    simp (maxSteps := 4000000) -implicitDefEqProofs [tab45, a45, List.take, List.drop, upd, rest, kill, mapMem, List.range, List.range.loop, memL, bne, worldA, h3, h3b]
end Go.Proofs.YtbdokibepndibaaGreat.Eng.C
