/- Zm, Zn, as one text. -/
import Derived.Test.YtbdokibepndibaaGreatCG6
namespace Go.Proofs.YtbdokibepndibaaGreat.Eng.C
set_option linter.unusedSimpArgs false
set_option linter.unusedVariables false
set_option maxHeartbeats 16000000
set_option maxRecDepth 100000
open Go.RowKit Go.Proofs
attribute [local simp] x_seq x_cond x_block x_region x_skip x_exit x_ret head_id runG runOps doOp wantB stepOp AO.eff pureOp St.get St.one St.num St.put St.optNum binA binInt gOp gOp0 gOpL gResL updO gRes gEff addObs_nil addObs_one freshB_memL freshB_none freshB_upd freshB_addMem freshB_addObs effOp2 effOp memL_app stoRow cellsAt toCells toCell scalar_int scalar_bool scalar_str scalar_sl updAt fromRo callRO addMem_nil roArgs roL roA srcCells A1.ownB addMem shift ren SV.map Ob.map Ob.noRo SV.noRo A1.noRo resOf resSV SV.ids A1.ids reach allObs pos St.canon A1.slB flat_int cl_flat' St.parts Eng.inB reps fillA newRowSt appSt oldOf

/-! slices.Equal as a function value: rows that are only read, nothing else in memory that is the caller's own. -/
theorem ren_noids {f : Nat → Option Nat} {a : A1} (h : a.ids = []) : ren f a = a := by
  cases a <;> simp [A1.ids] at h <;> simp [ren, renL, h]
theorem map_noids {f : Nat → Option Nat} {v : SV} (h : v.ids = []) : v.map (ren f) = v := by
  cases v with
  | v ag as_ =>
    simp only [SV.ids, List.flatMap_eq_nil_iff] at h
    simp only [SV.map]
    congr 1
    conv => rhs; rw [← List.map_id as_]
    exact List.map_congr_left fun a ha => ren_noids (h a ha)
  | tup vs =>
    simp only [SV.ids, List.flatMap_eq_nil_iff] at h
    simp only [SV.map]
    congr 1
    conv => rhs; rw [← List.map_id vs]
    refine List.map_congr_left fun p hp => ?_
    have := h p hp
    obtain ⟨ag, as_⟩ := p
    simp only [id, Prod.mk.injEq, true_and]
    conv => rhs; rw [← List.map_id as_]
    exact List.map_congr_left fun a ha => ren_noids (this a ha)
  | bad => rfl
def NoIds (l : List SV) : Prop := ∀ v ∈ l, v.ids = []
theorem noids_cons {v : SV} {l : List SV} : NoIds (v :: l) ↔ v.ids = [] ∧ NoIds l := by simp [NoIds]
theorem noids_nil : NoIds [] := fun v hv => by cases hv
theorem noids_flat {l : List SV} (h : NoIds l) : l.flatMap SV.ids = [] := List.flatMap_eq_nil_iff.2 h
theorem noids_map {f : Nat → Option Nat} {l : List SV} (h : NoIds l) : l.map (SV.map (ren f)) = l := by
  conv => rhs; rw [← List.map_id l]
  exact List.map_congr_left fun v hv => map_noids (h v hv)
theorem NoIds.app {l r : List SV} (h : NoIds l) (k : NoIds r) : NoIds (l ++ r) := fun v hv => by
  rcases List.mem_append.1 hv with hv | hv
  · exact h v hv
  · exact k v hv
theorem head_noids {dead : List Nat} {sl up : List SV} {m : Mem} {nx : Nat} (h : NoIds (killSlots dead sl)) (hu : NoIds up) : head true dead ⟨⟨sl, m, up⟩, nx⟩ = ⟨⟨killSlots dead sl, fun _ => none, up⟩, 0⟩ := by
  have e : (killSlots dead sl ++ up).flatMap SV.ids = [] := noids_flat (h.app hu)
  simp only [head, if_true, e]
  have er : reach m 64 [] [] = [] := rfl
  rw [er]
  simp only [St.canon, List.length_nil, List.map_nil]
  rw [noids_map h, noids_map hu]
  rfl
def ST_Eq (a b : List Int) (U : List SV) (i : Nat) : XS := ⟨⟨[.v false [.ro a.length (cl .i64 a)], .v false [.ro b.length (cl .i64 b)], .bad, .bad, .bad, .bad, .bad, .bad, .bad, .bad, .bad, .bad, .v false [.int .i64 (a.length)], .v false [.int .i64 (i)], .bad, .bad, .bad, .bad, .bad, .bad, .bad, .bad, .bad, .bad, .bad, .bad], fun _ => none, U⟩, 0⟩
def RT_Eq (U : List SV) (ok : Bool) : Option (AE × XS) := if ok = true then some (.exit 0, ⟨⟨[.bad, .bad, .bad, .bad, .bad, .bad, .bad, .bad, .bad, .bad, .bad, .bad, .bad, .bad, .bad, .bad, .bad, .bad, .bad, .bad, .bad, .bad, .bad, .bad, .bad, .bad], fun _ => none, U⟩, 0⟩) else some (.ret, ⟨⟨[.bad, .bad, .bad, .bad, .v false [.bool (false)], .bad, .bad, .bad, .bad, .bad, .bad, .bad, .bad, .bad, .bad, .bad, .bad, .bad, .bad, .bad, .bad, .bad, .bad, .bad, .bad, .bad], fun _ => none, U⟩, 0⟩)
theorem loop_TEq (a b : List Int) (hab : a.length = b.length) (hn : a.length ≤ 1048576) (U : List SV) (hU : NoIds U) {x : XS} (hx : head true d105_0 x = ST_Eq a b U 0) : X tab l105_0 x = RT_Eq U (decide (a = b)) := by
  refine loopX (σ := Nat) (ST_Eq a b U) (fun i => a.length - i) (fun i => i ≤ a.length ∧ (a.drop i = b.drop i ↔ a = b)) _ (fun i ⟨hi, hs⟩ => ?_) 0 ⟨Nat.zero_le _, by simp⟩ x hx
  rcases Nat.lt_or_ge i a.length with h | h
  · have da := drop_getD' (l := a) (i := i) h
    have db := drop_getD' (l := b) (i := i) (by omega)
    have h1 : (0 ≤ (i : Int) ∧ (i : Int) < (a.length : Int)) := by omega
    have h1' : (0 ≤ (i : Int) ∧ (i : Int) < (b.length : Int)) := by omega
    have h2 := cl_at (k := .i64) da
    have h2' := cl_at (k := .i64) db
    have h3 : i < b.length := by omega
    have h4 := wrap_next h (show a.length ≤ 281474976710656 by omega)
    rw [da, db] at hs
    generalize a.getD i 0 = p at *
    generalize b.getD i 0 = q at *
    cases hp : (p == q) with
    | false =>
      have hne : ¬ p = q := beq_eq_false_iff_ne.1 hp
      have hb : decide (a = b) = false := by rw [decide_eq_false_iff_not, ← hs]; simp [hne]
      rw [hb]
      refine .inr ⟨?_, by simp [RT_Eq]⟩
      simp (maxSteps := 4000000) -implicitDefEqProofs [b105_0, ST_Eq, List.take, List.drop, fromRo, bne, h1, h1', h2, h2', h3, h4, h, hp, RT_Eq]
      rw [head_noids (by simp [NoIds, killSlots, SV.ids, A1.ids]) hU]
      change _ = _
      kernel_rfl
    | true =>
      have he : p = q := beq_iff_eq.1 hp
      subst he
      refine .inl ⟨i + 1, ?_, by omega, h, by rw [← hs]; simp⟩
      simp (maxSteps := 4000000) -implicitDefEqProofs [b105_0, ST_Eq, List.take, List.drop, fromRo, bne, h1, h1', h2, h2', h3, h4, h]
      rw [head_noids (by simp [NoIds, killSlots, SV.ids, A1.ids, d105_0]) hU]
      change _ = _
      kernel_rfl
  · obtain rfl : i = a.length := by omega
    have hb : decide (a = b) = true := by rw [decide_eq_true_eq, ← hs, List.drop_length, hab, List.drop_length]
    rw [hb]
    refine .inr ⟨?_, by simp [RT_Eq]⟩
    simp (maxSteps := 4000000) -implicitDefEqProofs [b105_0, ST_Eq, List.take, List.drop, RT_Eq]
    rw [head_noids (by simp [NoIds, killSlots, SV.ids, A1.ids]) hU]
    change _ = _
    kernel_rfl
theorem t_SEqual (a b : List Int) (hn : a.length ≤ 1048576) : ∃ f : Nat → Nat, ∀ (sl U : List SV) (nx : Nat), NoIds sl → NoIds U → runThru (X tab) tab 105 [.v false [.ro a.length (cl .i64 a)], .v false [.ro b.length (cl .i64 b)]] ⟨⟨sl, fun _ => none, U⟩, nx⟩ = some (.v false [.bool (decide (a = b))], ⟨⟨sl, fun _ => none, U⟩, f nx⟩) := by
  by_cases hab : a.length = b.length
  · have h1 : ((a.length : Int) == (b.length : Int)) = true := by rw [beq_iff_eq]; omega
    rw [hab] at h1
    have hlo := fun U hU x hx => loop_TEq a b hab hn U hU (x := x) hx
    by_cases he : a = b
    · refine ⟨fun _ => 64, fun sl U nx hs hU => ?_⟩
      have hsu : NoIds (sl ++ U) := hs.app hU
      unfold runThru
      simp (maxSteps := 4000000) -implicitDefEqProofs [tab105, a105, List.take, List.drop, bne, hab]
      rw [hlo (sl ++ U) hsu _ (by
        rw [head_noids (by simp [NoIds, killSlots, SV.ids, A1.ids, d105_0]) hsu]
        rw [ST_Eq, hab]
        change _ = _
        kernel_rfl)]
      rw [decide_eq_true he]
      simp (maxSteps := 4000000) -implicitDefEqProofs [RT_Eq, List.take, List.drop, resOf, resSV]
    · refine ⟨fun _ => 0, fun sl U nx hs hU => ?_⟩
      have hsu : NoIds (sl ++ U) := hs.app hU
      unfold runThru
      simp (maxSteps := 4000000) -implicitDefEqProofs [tab105, a105, List.take, List.drop, bne, hab]
      rw [hlo (sl ++ U) hsu _ (by
        rw [head_noids (by simp [NoIds, killSlots, SV.ids, A1.ids, d105_0]) hsu]
        rw [ST_Eq, hab]
        change _ = _
        kernel_rfl)]
      rw [decide_eq_false he]
      simp (maxSteps := 4000000) -implicitDefEqProofs [RT_Eq, List.take, List.drop, resOf, resSV]
  · have h1 : ((a.length : Int) == (b.length : Int)) = false := by rw [beq_eq_false_iff_ne]; omega
    have hb : decide (a = b) = false := by rw [decide_eq_false_iff_not]; intro e; exact hab (by rw [e])
    refine ⟨fun nx => nx + 448, fun sl U nx hs hU => ?_⟩
    rw [hb]
    unfold runThru
    simp (maxSteps := 4000000) -implicitDefEqProofs [tab105, a105, List.take, List.drop, resOf, resSV, bne, h1]
theorem x_loop_head {ag : Bool} {dead : List Nat} {b : ACode} {x y : XS} (h : head ag dead x = head ag dead y) : X tab (.loop ag dead b) x = X tab (.loop ag dead b) y := by rw [x_loop, x_loop, h]
/-! slices.EqualFunc over lists of lists. -/
def eqL (a b : List (List Int)) : Bool := allN a.length fun i => decide (a.getD i [] = b.getD i [])
def S_EqF (a b : List (List Int)) (i : Nat) : XS := ⟨⟨[.bad, .v false [.ro b.length (b.map intsC)], .v false [.fn 105 []], .bad, .bad, .bad, .bad, .bad, .bad, .bad, .bad, .bad, .bad, .bad, .bad, .v false [.ro a.length (a.map intsC)], .v false [.int .i64 (a.length)], .v false [.int .i64 (i)], .bad, .bad, .bad, .bad, .bad, .bad, .bad, .bad, .bad, .bad, .bad, .bad, .bad, .bad], fun _ => none, []⟩, 576⟩
theorem loop_EqF (a b : List (List Int)) (hab : a.length = b.length) (hn : a.length ≤ 1048576) (ha : ∀ y ∈ a, y.length ≤ 1048576) {x : XS} (hx : head false d106_0 x = S_EqF a b 0) : ∃ nx, X tab l106_0 x = if eqL a b = true then some (.exit 0, ⟨⟨[.bad, .bad, .bad, .bad, .bad, .bad, .bad, .bad, .bad, .bad, .bad, .bad, .bad, .bad, .bad, .bad, .bad, .bad, .bad, .bad, .bad, .bad, .bad, .bad, .bad, .bad, .bad, .bad, .bad, .bad, .bad, .bad], fun _ => none, []⟩, 640⟩) else some (.ret, ⟨⟨[.bad, .bad, .bad, .bad, .bad, .bad, .v false [.bool (false)], .bad, .bad, .bad, .bad, .bad, .bad, .bad, .bad, .bad, .bad, .bad, .bad, .bad, .bad, .bad, .bad, .bad, .bad, .bad, .bad, .bad, .bad, .bad, .bad, .bad], fun _ => none, []⟩, nx⟩) := by
  have key : ∀ (c i : Nat), a.length - i = c → i ≤ a.length → (∀ j, j < i → decide (a.getD j [] = b.getD j []) = true) → ∀ {x : XS}, head false d106_0 x = S_EqF a b i → ∃ nx, X tab l106_0 x = if eqL a b = true then some (.exit 0, ⟨⟨[.bad, .bad, .bad, .bad, .bad, .bad, .bad, .bad, .bad, .bad, .bad, .bad, .bad, .bad, .bad, .bad, .bad, .bad, .bad, .bad, .bad, .bad, .bad, .bad, .bad, .bad, .bad, .bad, .bad, .bad, .bad, .bad], fun _ => none, []⟩, 640⟩) else some (.ret, ⟨⟨[.bad, .bad, .bad, .bad, .bad, .bad, .v false [.bool (false)], .bad, .bad, .bad, .bad, .bad, .bad, .bad, .bad, .bad, .bad, .bad, .bad, .bad, .bad, .bad, .bad, .bad, .bad, .bad, .bad, .bad, .bad, .bad, .bad, .bad], fun _ => none, []⟩, nx⟩) := by
    intro c
    induction c with
    | zero =>
      intro i hc hi hs x hx
      obtain rfl : i = a.length := by omega
      have : eqL a b = true := allN_iff.2 hs
      refine ⟨0, ?_⟩
      rw [if_pos this]
      rw [show l106_0 = .loop false d106_0 b106_0 from rfl, x_loop, hx]
      simp (maxSteps := 4000000) -implicitDefEqProofs [b106_0, S_EqF, List.take, List.drop]
      change _ = _
      kernel_rfl
    | succ c ih =>
      intro i hc hi hs x hx
      have hlt : i < a.length := by omega
      have da := dropx_getD [] hlt
      have db := dropx_getD (l := b) (i := i) [] (by omega)
      have h1 : (0 ≤ (i : Int) ∧ (i : Int) < (a.length : Int)) := by omega
      have h1' : (0 ≤ (i : Int) ∧ (i : Int) < (b.length : Int)) := by omega
      have h2 := intss_at da
      have h2' := intss_at db
      have h3 : i < b.length := by omega
      have h4 := wrap_next hlt (show a.length ≤ 281474976710656 by omega)
      obtain ⟨f, hf⟩ := t_SEqual (a.getD i []) (b.getD i []) (ha _ (dropx_mem da))
      simp only [intsC] at h2 h2'
      cases hp : decide (a.getD i [] = b.getD i []) with
      | true =>
        have hround : ∃ z, X tab b106_0 (S_EqF a b i) = some (.nrm, z) ∧ head false d106_0 ⟨z.st, 576⟩ = S_EqF a b (i + 1) := by
          rw [hp] at hf
          generalize a.getD i [] = p at *
          generalize b.getD i [] = q at *
          simp (maxSteps := 4000000) -implicitDefEqProofs [b106_0, S_EqF, List.take, List.drop, getAll, fromRo, h1, h1', h2, h2', h3, h4, hlt, hf, noids_cons, noids_nil, SV.ids, A1.ids]
          change _ = _
          kernel_rfl
        obtain ⟨z, hz1, hz2⟩ := hround
        obtain ⟨nx, hih⟩ := ih (i + 1) (by omega) (by omega) (fun j hj => by
          rcases Nat.lt_or_ge j i with h | h
          · exact hs j h
          · obtain rfl : j = i := by omega
            exact hp) (x := ⟨z.st, 576⟩) hz2
        refine ⟨nx, ?_⟩
        rw [show l106_0 = .loop false d106_0 b106_0 from rfl, x_loop, hx, hz1]
        exact hih
      | false =>
        have : ¬ eqL a b = true := fun h => by
          have := allN_iff.1 h i hlt
          rw [hp] at this
          cases this
        have hret : ∃ nx, X tab b106_0 (S_EqF a b i) = some (.ret, ⟨⟨[.bad, .bad, .bad, .bad, .bad, .bad, .v false [.bool (false)], .bad, .bad, .bad, .bad, .bad, .bad, .bad, .bad, .bad, .bad, .bad, .bad, .bad, .bad, .bad, .bad, .bad, .bad, .bad, .bad, .bad, .bad, .bad, .bad, .bad], fun _ => none, []⟩, nx⟩) := by
          rw [hp] at hf
          generalize a.getD i [] = p at *
          generalize b.getD i [] = q at *
          refine ⟨f 1600 + 64, ?_⟩
          simp (maxSteps := 4000000) -implicitDefEqProofs [b106_0, S_EqF, List.take, List.drop, getAll, fromRo, h1, h1', h2, h2', h3, h4, hlt, hf, noids_cons, noids_nil, SV.ids, A1.ids]
          simp only [head, killSlots, Bool.false_eq_true, if_false, List.set, XS.mk.injEq, true_and]
        obtain ⟨nx, hret⟩ := hret
        refine ⟨nx, ?_⟩
        rw [if_neg this]
        rw [show l106_0 = .loop false d106_0 b106_0 from rfl, x_loop, hx, hret]
  exact key a.length 0 (by omega) (Nat.zero_le _) (fun j hj => absurd hj (by omega)) hx
theorem r_EqF (a b : List (List Int)) (hn : a.length ≤ 1048576) (ha : ∀ y ∈ a, y.length ≤ 1048576) : runRO (X tab) tab 106 [.v false [.ro a.length (a.map intsC)], .v false [.ro b.length (b.map intsC)], .v false [.fn 105 []]] = some (.v false [.bool (decide (a = b))], []) := by
  by_cases hab : a.length = b.length
  · have h1 : ((a.length : Int) == (b.length : Int)) = true := by rw [beq_iff_eq]; omega
    obtain ⟨nx, hlo⟩ := loop_EqF a b hab hn ha (x := S_EqF a b 0) (by change _ = _; kernel_rfl)
    have he : eqL a b = decide (a = b) := by
      rw [Bool.eq_iff_iff, decide_eq_true_eq]
      unfold eqL
      rw [allN_iff]
      constructor
      · intro h
        refine List.ext_getElem hab fun i h1 h2 => ?_
        have := h i h1
        rw [decide_eq_true_eq, List.getD_eq_getElem?_getD, List.getD_eq_getElem?_getD, List.getElem?_eq_getElem h1, List.getElem?_eq_getElem h2] at this
        exact this
      · rintro rfl
        intro i hi
        simp
    have hS : head false d106_0 (S_EqF a b 0) = ⟨⟨[.bad, .v false [.ro b.length (b.map intsC)], .v false [.fn 105 []], .bad, .bad, .bad, .bad, .bad, .bad, .bad, .bad, .bad, .bad, .bad, .bad, .v false [.ro a.length (a.map intsC)], .v false [.int .i64 (a.length)], .v false [.int .i64 (0)], .bad, .bad, .bad, .bad, .bad, .bad, .bad, .bad, .bad, .bad, .bad, .bad, .bad, .bad], fun _ => none, []⟩, 576⟩ := by change _ = _; kernel_rfl
    rw [he] at hlo
    rw [hab] at h1
    unfold runRO
    simp (maxSteps := 4000000) -implicitDefEqProofs [tab106, a106, List.take, List.drop, bne, hab]
    rw [show l106_0 = .loop false d106_0 b106_0 from rfl, x_loop_head (y := S_EqF a b 0) (by rw [hS, ← hab]; change _ = _; kernel_rfl)]
    rw [show .loop false d106_0 b106_0 = l106_0 from rfl, hlo]
    cases decide (a = b) <;> simp (maxSteps := 4000000) -implicitDefEqProofs [List.take, List.drop, memL, List.range, List.range.loop]
  · have h1 : ((a.length : Int) == (b.length : Int)) = false := by rw [beq_eq_false_iff_ne]; omega
    have hb : decide (a = b) = false := by rw [decide_eq_false_iff_not]; intro e; exact hab (by rw [e])
    rw [hb]
    unfold runRO
    simp (maxSteps := 4000000) -implicitDefEqProofs [tab106, a106, List.take, List.drop, memL, List.range, List.range.loop, bne, h1]

def sameM (a b : PMeta) : Bool := decide (a.gens = b.gens) && decide (a.bits = b.bits) && (a.fine == b.fine) && (a.old == b.old) && (a.hd == b.hd) && (a.last == b.last)
theorem r_SameMeta (a b : PMeta) (h : SmM a) : runRO (X tab) tab 94 [.v true (metaA a), .v true (metaA b)] = some (.v false [.bool (sameM a b)], []) := by
  have q1 := r_SEqual a.gens b.gens h.gens
  have q2 := r_EqF a.bits b.bits h.bits h.bit
  unfold sameM
  generalize decide (a.gens = b.gens) = g1 at *
  generalize decide (a.bits = b.bits) = g2 at *
  unfold runRO
  cases g1 with
  | false => simp (maxSteps := 4000000) -implicitDefEqProofs [tab94, a94, List.take, List.drop, List.range, List.range.loop, memL, effOp2, effOp, roCells, metaA, fromRo, q1, q2]
  | true =>
    cases g2 with
    | false => simp (maxSteps := 4000000) -implicitDefEqProofs [tab94, a94, List.take, List.drop, List.range, List.range.loop, memL, effOp2, effOp, roCells, metaA, fromRo, q1, q2]
    | true =>
      cases hf : (a.fine == b.fine) with
      | false => simp (maxSteps := 4000000) -implicitDefEqProofs [tab94, a94, List.take, List.drop, List.range, List.range.loop, memL, effOp2, effOp, roCells, metaA, fromRo, q1, q2, hf]
      | true =>
        cases ho : (a.old == b.old) with
        | false => simp (maxSteps := 4000000) -implicitDefEqProofs [tab94, a94, List.take, List.drop, List.range, List.range.loop, memL, effOp2, effOp, roCells, metaA, fromRo, q1, q2, hf, ho]
        | true =>
          cases hh : (a.hd == b.hd) with
          | false => simp (maxSteps := 4000000) -implicitDefEqProofs [tab94, a94, List.take, List.drop, List.range, List.range.loop, memL, effOp2, effOp, roCells, metaA, fromRo, q1, q2, hf, ho, hh]
          | true => simp (maxSteps := 4000000) -implicitDefEqProofs [tab94, a94, List.take, List.drop, List.range, List.range.loop, memL, effOp2, effOp, roCells, metaA, fromRo, q1, q2, hf, ho, hh]
def S_sSame (a b : PMeta) (i : Nat) : XS := ⟨⟨[.bad, .bad, .v false [.pc (metaC a)], .v false [.pc (metaC b)], .bad, .v false [.int .i64 (i)], .bad, .bad, .bad, .bad, .bad, .bad, .bad, .bad, .bad, .bad, .bad, .bad, .bad, .bad, .bad, .bad, .bad, .bad, .bad, .bad, .bad, .bad, .bad, .bad, .bad, .bad, .bad, .bad, .bad, .bad, .bad, .bad, .bad, .bad, .bad, .bad, .bad, .bad, .bad, .bad, .bad, .bad, .bad, .bad, .bad, .bad, .bad, .bad, .bad, .bad, .bad, .bad, .bad, .bad, .bad, .bad, .bad, .bad, .bad, .bad, .bad, .bad], memL [], []⟩, 0⟩
theorem loop_sSame (a b : PMeta) (h : SmM a) (hab : a.bits.length = b.bits.length) {x : XS} (hx : head true d66_0 x = S_sSame a b 0) : X tab l66_0 x = if eqL a.bits b.bits = true then some (.exit 0, ⟨⟨[.bad, .bad, .bad, .bad, .bad, .bad, .bad, .bad, .bad, .bad, .bad, .bad, .bad, .bad, .bad, .bad, .bad, .bad, .bad, .bad, .bad, .bad, .bad, .bad, .bad, .bad, .bad, .bad, .bad, .bad, .bad, .bad, .bad, .bad, .bad, .bad, .bad, .bad, .bad, .bad, .bad, .bad, .bad, .bad, .bad, .bad, .bad, .bad, .bad, .bad, .bad, .bad, .bad, .bad, .bad, .bad, .bad, .bad, .bad, .bad, .bad, .bad, .bad, .bad, .bad, .bad, .bad, .bad], memL [], []⟩, 0⟩) else some (.ret, ⟨⟨[.bad, .bad, .bad, .bad, .v false [.bool (false)], .bad, .bad, .bad, .bad, .bad, .bad, .bad, .bad, .bad, .bad, .bad, .bad, .bad, .bad, .bad, .bad, .bad, .bad, .bad, .bad, .bad, .bad, .bad, .bad, .bad, .bad, .bad, .bad, .bad, .bad, .bad, .bad, .bad, .bad, .bad, .bad, .bad, .bad, .bad, .bad, .bad, .bad, .bad, .bad, .bad, .bad, .bad, .bad, .bad, .bad, .bad, .bad, .bad, .bad, .bad, .bad, .bad, .bad, .bad, .bad, .bad, .bad, .bad], memL [], []⟩, 0⟩) := by
  have hn := h.bits
  refine loopAll a.bits.length (S_sSame a b) _ _ _ (by simp) (by simp) (fun i hi hp _ => ?_) (fun i hi hp _ => ?_) (fun _ => ?_) hx
  · have da := dropx_getD [] hi
    have db := dropx_getD (l := b.bits) (i := i) [] (by omega)
    have h1 : (0 ≤ (i : Int) ∧ (i : Int) < (a.bits.length : Int)) := by omega
    have h1' : (0 ≤ (i : Int) ∧ (i : Int) < (b.bits.length : Int)) := by omega
    have h2 := intss_at da
    have h2' := intss_at db
    have h3 : i < b.bits.length := by omega
    have h4 := wrap_next hi (show a.bits.length ≤ 281474976710656 by omega)
    have h5 := r_l5Same (a.bits.getD i []) (b.bits.getD i []) (h.bit _ (dropx_mem da))
    rw [hp] at h5
    simp only [intsC] at h2 h2'
    generalize a.bits.getD i [] = p at *
    generalize b.bits.getD i [] = q at *
    simp only [S_sSame, metaC, intsC, intssC]
    simp (maxSteps := 4000000) -implicitDefEqProofs [b66_0, List.take, List.drop, List.range, List.range.loop, fromRo, h1, h1', h2, h2', h3, h4, h5, hi]
    change _ = _
    kernel_rfl
  · have da := dropx_getD [] hi
    have db := dropx_getD (l := b.bits) (i := i) [] (by omega)
    have h1 : (0 ≤ (i : Int) ∧ (i : Int) < (a.bits.length : Int)) := by omega
    have h1' : (0 ≤ (i : Int) ∧ (i : Int) < (b.bits.length : Int)) := by omega
    have h2 := intss_at da
    have h2' := intss_at db
    have h3 : i < b.bits.length := by omega
    have h4 := wrap_next hi (show a.bits.length ≤ 281474976710656 by omega)
    have h5 := r_l5Same (a.bits.getD i []) (b.bits.getD i []) (h.bit _ (dropx_mem da))
    rw [hp] at h5
    simp only [intsC] at h2 h2'
    generalize a.bits.getD i [] = p at *
    generalize b.bits.getD i [] = q at *
    simp only [S_sSame, metaC, intsC, intssC]
    simp (maxSteps := 4000000) -implicitDefEqProofs [b66_0, List.take, List.drop, List.range, List.range.loop, fromRo, h1, h1', h2, h2', h3, h4, h5, hi]
    change _ = _
    kernel_rfl
  · simp only [S_sSame, metaC, intsC, intssC]
    simp (maxSteps := 4000000) -implicitDefEqProofs [b66_0, List.take, List.drop, fromRo]
    change _ = _
    kernel_rfl
theorem eqL_dec {a b : List (List Int)} (hab : a.length = b.length) : eqL a b = decide (a = b) := by
  rw [Bool.eq_iff_iff, decide_eq_true_eq]
  unfold eqL
  rw [allN_iff]
  constructor
  · intro h
    refine List.ext_getElem hab fun i h1 h2 => ?_
    have := h i h1
    rw [decide_eq_true_eq, List.getD_eq_getElem?_getD, List.getD_eq_getElem?_getD, List.getElem?_eq_getElem h1, List.getElem?_eq_getElem h2] at this
    exact this
  · rintro rfl
    intro i hi
    simp
theorem r_sSameMeta (a b : PMeta) (h : SmM a) : runRO (X tab) tab 66 [.v true (metaA a), .v true (metaA b)] = some (.v false [.bool (sameM a b)], []) := by
  have q1 := r_l5Same a.gens b.gens h.gens
  by_cases hab : a.bits.length = b.bits.length
  · have hlo := fun {x} => loop_sSame a b h hab (x := x)
    rw [eqL_dec hab] at hlo
    have hl : ((a.bits.length : Int) == (b.bits.length : Int)) = true := by rw [beq_iff_eq]; omega
    have hS : S_sSame a b 0 = ⟨⟨[.bad, .bad, .v false [.pc (metaC a)], .v false [.pc (metaC b)], .bad, .v false [.int .i64 (0)], .bad, .bad, .bad, .bad, .bad, .bad, .bad, .bad, .bad, .bad, .bad, .bad, .bad, .bad, .bad, .bad, .bad, .bad, .bad, .bad, .bad, .bad, .bad, .bad, .bad, .bad, .bad, .bad, .bad, .bad, .bad, .bad, .bad, .bad, .bad, .bad, .bad, .bad, .bad, .bad, .bad, .bad, .bad, .bad, .bad, .bad, .bad, .bad, .bad, .bad, .bad, .bad, .bad, .bad, .bad, .bad, .bad, .bad, .bad, .bad, .bad, .bad], memL [], []⟩, 0⟩ := rfl
    unfold sameM
    generalize decide (a.gens = b.gens) = g1 at *
    generalize decide (a.bits = b.bits) = g2 at *
    simp only [metaC, intsC, intssC] at hS hlo
    unfold runRO
    cases g1 with
    | false => simp (maxSteps := 4000000) -implicitDefEqProofs [tab66, a66, List.take, List.drop, List.range, List.range.loop, memL, effOp2, effOp, roCells, metaA, fromRo, bne, q1, hl]
    | true =>
      cases hf : (a.fine == b.fine) with
      | false => simp (maxSteps := 4000000) -implicitDefEqProofs [tab66, a66, List.take, List.drop, List.range, List.range.loop, memL, effOp2, effOp, roCells, metaA, fromRo, bne, q1, hl, hf]
      | true =>
        cases ho : (a.old == b.old) with
        | false => simp (maxSteps := 4000000) -implicitDefEqProofs [tab66, a66, List.take, List.drop, List.range, List.range.loop, memL, effOp2, effOp, roCells, metaA, fromRo, bne, q1, hl, hf, ho]
        | true =>
          cases hh : (a.hd == b.hd) with
          | false => simp (maxSteps := 4000000) -implicitDefEqProofs [tab66, a66, List.take, List.drop, List.range, List.range.loop, memL, effOp2, effOp, roCells, metaA, fromRo, bne, q1, hl, hf, ho, hh]
          | true =>
            cases ht : (a.last == b.last) with
            | false => simp (maxSteps := 4000000) -implicitDefEqProofs [tab66, a66, List.take, List.drop, List.range, List.range.loop, memL, effOp2, effOp, roCells, metaA, fromRo, bne, q1, hl, hf, ho, hh, ht]
            | true =>
              simp (maxSteps := 4000000) -implicitDefEqProofs [tab66, a66, List.take, List.drop, List.range, List.range.loop, effOp2, effOp, roCells, metaA, fromRo, bne, q1, hl, hf, ho, hh, ht]
              rw [hlo (by rw [hS]; change _ = _; kernel_rfl)]
              cases g2 <;> simp (maxSteps := 4000000) -implicitDefEqProofs [List.take, List.drop, memL, List.range, List.range.loop]
  · have hl : ((a.bits.length : Int) == (b.bits.length : Int)) = false := by rw [beq_eq_false_iff_ne]; omega
    have hb : decide (a.bits = b.bits) = false := by rw [decide_eq_false_iff_not]; intro e; exact hab (by rw [e])
    unfold sameM
    rw [hb]
    unfold runRO
    simp (maxSteps := 4000000) -implicitDefEqProofs [tab66, a66, List.take, List.drop, List.range, List.range.loop, memL, effOp2, effOp, roCells, metaA, fromRo, bne, hl]
end Go.Proofs.YtbdokibepndibaaGreat.Eng.C
