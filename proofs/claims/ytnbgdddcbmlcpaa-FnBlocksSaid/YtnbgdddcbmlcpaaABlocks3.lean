/- Blocks: the law of all that is done with a drawn block. -/
import Derived.Test.YtnbgdddcbmlcpaaABlocks2
namespace Go.Proofs.Ytnbgdddcbmlcpaa.Eng.A
set_option linter.unusedSimpArgs false
set_option linter.unusedVariables false
set_option maxHeartbeats 16000000
set_option maxRecDepth 100000
open Go.RowKit Go.Proofs

/-! A row that is got: none where it is empty. -/
def gA (q : List Int) : A1 := if q = [] then .nil else .sl 0 [] 0 q.length
def gO (q : List Int) : List Ob := if q = [] then [] else [.row 1 (cl .u8 q)]
theorem gO_len (q : List Int) : (gO q).length ≤ 1 := by unfold gO; split <;> simp
theorem gO_len64 (q : List Int) : ((gO q).length ≤ 64) = True := by have := gO_len q; simp; omega
theorem gO_map (q : List Int) (f : A1 → A1) : List.map (Ob.map f) (gO q) = gO q := by unfold gO; split <;> simp [Ob.map]
theorem gO_noRo (q : List Int) : (∀ x, x ∈ gO q → x.noRo = true) ↔ True := by unfold gO; split <;> simp [Ob.noRo]
theorem gA_noRo (q : List Int) : (gA q).noRo = true := by unfold gA; split <;> rfl
theorem g_src (q : List Int) (m : Mem) (d : Nat) : srcCells (addObs m d (gO q)) 1 (ren (shift d (gO q).length) (gA q)) = some (q.length, cl .u8 q) := by
  unfold gO gA
  by_cases h : q = []
  · subst h
    simp [srcCells, ren, cl]
  · simp [h, ren, shift, srcCells, addObs, cellsAt, cl_length, cl_self]
theorem g_fresh {q : List Int} {m : Mem} {e d : Nat} (h : e + 1 ≤ d ∨ d + 64 ≤ e) : freshB (addObs m e (gO q)) d = freshB m d := by
  have := gO_len q
  exact freshB_addObs (by omega)
theorem g_read {q : List Int} {m : Mem} {t d : Nat} (h : t < d ∨ d + 1 ≤ t) : addObs m d (gO q) t = m t := by
  have := gO_len q
  simp only [addObs]
  rw [if_neg (by omega)]
theorem r_BlockGetA (b : List Int) (i n : Int) (h : getOk b i n = true) : runRO (X tab) tab 38 [.v false [.ro b.length (cl .u8 b)], .v false [.int .i64 i], .v false [.int .i64 n]] = some (.v false [gA (blockGet b i n)], gO (blockGet b i n)) := by
  rw [r_BlockGet b i n h]
  unfold gA gO
  split <;> rfl
theorem r_BlockGetA_bad (b : List Int) (i n : Int) (h : getOk b i n = false) : runRO (X tab) tab 38 [.v false [.ro b.length (cl .u8 b)], .v false [.int .i64 i], .v false [.int .i64 n]] = some (.v false [gA []], gO []) := r_BlockGet_bad b i n h
theorem get_put1 {b d : List Int} {k : Nat} (h8 : b.length = 8) (hk : k + d.length ≤ 8) : blockGet (putPart b k d d.length) k d.length = d := by
  unfold blockGet putPart
  rw [Int.toNat_natCast, Int.toNat_natCast, List.take_length, List.drop_append_of_le_length (by simp; omega), List.drop_take, Nat.sub_self, List.take_zero, List.nil_append, List.take_append_of_le_length (Nat.le_refl _), List.take_length]
theorem get_put2 {b d : List Int} {k : Nat} (h8 : b.length = 8) (hk : k + d.length ≤ 8) : blockGet (putPart b k d d.length) 0 k = b.take k := by
  unfold blockGet putPart
  rw [Int.toNat_natCast, Int.toNat_zero, List.drop_zero, List.take_append_of_le_length (by simp; omega), List.take_take, Nat.min_self]
theorem get_put3 {b d : List Int} {k : Nat} (h8 : b.length = 8) (hk : k + d.length ≤ 8) : blockGet (putPart b k d d.length) ((k + d.length : Nat) : Int) ((8 - k - d.length : Nat) : Int) = b.drop (k + d.length) := by
  unfold blockGet putPart
  rw [Int.toNat_natCast, Int.toNat_natCast, List.take_length, ← List.append_assoc, List.drop_append_of_le_length (by simp; omega), List.drop_eq_nil_of_le (by simp; omega), List.nil_append, List.take_of_length_le (by simp; omega)]
theorem src_nil {m : Mem} {sz : Nat} : srcCells m sz .nil = some (0, []) := rfl
theorem src_ro {m : Mem} {sz n : Nat} {cs : List Cell} : srcCells m sz (.ro n cs) = if n * sz ≤ cs.length then some (n, cs.take (n * sz)) else none := rfl
theorem src_sl {m : Mem} {sz t off n : Nat} {p : List Nat} : srcCells m sz (.sl t p off n) = (match m t with
    | some (.row _ cs) => match cellsAt cs p with
      | some ns => if off + n * sz ≤ ns.length then some (n, (ns.drop off).take (n * sz)) else none
      | none => none
    | _ => none) := rfl
theorem ren_sl {ρ : Nat → Option Nat} {t off n : Nat} {p : List Nat} : ren ρ (.sl t p off n) = (match ρ t with | some u => .sl u p off n | none => .bad) := rfl
theorem ren_int {ρ : Nat → Option Nat} {k : IntKind} {n : Int} : ren ρ (.int k n) = .int k n := rfl
theorem ren_bool {ρ : Nat → Option Nat} {b : Bool} : ren ρ (.bool b) = .bool b := rfl
theorem ren_str {ρ : Nat → Option Nat} {b : ByteArray} : ren ρ (.str b) = .str b := rfl
theorem ren_nil {ρ : Nat → Option Nat} : ren ρ .nil = .nil := rfl
theorem noRo_row {sz : Nat} {cs : List Cell} : (Ob.row sz cs).noRo = true := rfl
theorem noRo_sl {t off n : Nat} {p : List Nat} : (A1.sl t p off n).noRo = true := rfl
theorem noRo_int {k : IntKind} {n : Int} : (A1.int k n).noRo = true := rfl
theorem noRo_bool {b : Bool} : (A1.bool b).noRo = true := rfl
theorem noRo_str {b : ByteArray} : (A1.str b).noRo = true := rfl
theorem noRo_nil : A1.noRo .nil = true := rfl
/-- What a put comes to, in each way. -/
theorem put_forms (b : List Int) (k : Int) (d : List Int) (hb : b.length ≤ 12) (hd : d.length ≤ 12) : ∃ pp : List Int, pp.length = b.length ∧ (getOk b k d.length = false → pp = b) ∧ (getOk b k d.length = true → pp = putPart b k.toNat d d.length) ∧
    runRO (X tab) tab 39 [.v false [.ro b.length (cl .u8 b)], .v false [.int .i64 k], .v false [.ro d.length (cl .u8 d)]] = some (.v false [.sl 0 [] 0 pp.length], [.row 1 (cl .u8 pp)]) ∧
    ((b = [] ∧ pp = [] ∧ runRO (X tab) tab 40 [.v false [.ro b.length (cl .u8 b)], .v false [.int .i64 k], .v false [.ro d.length (cl .u8 d)]] = some (.v false [.nil], [])) ∨
     (¬ b = [] ∧ runRO (X tab) tab 40 [.v false [.ro b.length (cl .u8 b)], .v false [.int .i64 k], .v false [.ro d.length (cl .u8 d)]] = some (.v false [.sl 0 [] 0 pp.length], [.row 1 (cl .u8 pp)]))) := by
  cases hg : getOk b k d.length with
  | false =>
    have g1 := r_BlockPut_bad b k d (by omega) hg
    have g2 := r_sBlockPut_bad b k d (by omega) (by omega) hg
    refine ⟨b, rfl, fun _ => rfl, (fun h => by cases h), g2, ?_⟩
    by_cases he : b = []
    · rw [if_pos he] at g1; exact .inl ⟨he, he, g1⟩
    · rw [if_neg he] at g1; exact .inr ⟨he, g1⟩
  | true =>
    obtain ⟨h8, hi, hi8, hle, q1, q2⟩ := put_facts hg
    have hl := putPart_length hle (Nat.le_refl d.length)
    have g1 := r_BlockPut b k d hg
    have g2 := r_sBlockPut b k d hg
    refine ⟨putPart b k.toNat d d.length, hl, (fun h => by cases h), fun _ => rfl, (by rw [hl]; exact g2), .inr ⟨(fun e => by rw [e] at h8; simp at h8), (by rw [hl]; exact g1)⟩⟩
theorem law_FnBlocks (l : List Int) (hn : l.length ≤ 140737488351232) (hw : ∀ x ∈ l, (Lit.int .u8 x).wf = true) :
    runRO (X tab) tab 14 [.v false [.ro l.length (cl .u8 l)]] = some (.v false [.bool true], []) := by
  have hb := r_big l
  by_cases hbig : (1048576 : Int) < (l.length : Int)
  · rw [decide_eq_true hbig] at hb
    unfold runRO
    simp (maxSteps := 4000000) -implicitDefEqProofs [tab14, a14, x_seq, x_cond, x_block, x_region, x_skip, x_exit, x_ret, head_id, runG, runOps, doOp, wantB, stepOp, AO.eff, pureOp, St.get, St.one, St.num, St.put, St.optNum, binA, binInt, List.take, List.drop, callRO, addMem_nil, roArgs, roL, roA, srcCells, A1.ownB, addMem, shift, ren, SV.map, Ob.map, Ob.noRo, SV.noRo, A1.noRo, List.range, List.range.loop, resOf, resSV, SV.map, SV.ids, A1.ids, reach, allObs, ren, pos, Ob.map, St.canon, memL, List.range, List.range.loop, hb]
  · rw [decide_eq_false hbig] at hb
    have hl : l.length ≤ 1048576 := by omega
    obtain ⟨b, k, d, ⟨hbl, hdl, hk⟩, e0⟩ := r_DrawBlockPut l hl
    obtain ⟨g, i, n, hgl, e1⟩ := r_DrawBlockGet l hl
    obtain ⟨s, hsl, e2⟩ := r_DrawBlockSum l hl
    obtain ⟨o, hol, e3⟩ := r_DrawBlockOk l hl
    obtain ⟨x, y, ⟨hxl, hyl⟩, e4⟩ := r_DrawBlockSame l hl
    have hk' : -1 ≤ k ∧ k ≤ 9223372036854775807 := by
      simp at hk
      omega
    obtain ⟨pp, hpl, hpb, hpo, f2, f1⟩ := put_forms b k d hbl hdl
    obtain ⟨gg, hgg, f3, f4⟩ : ∃ gg : List Int, gg.length ≤ 12 ∧ runRO (X tab) tab 38 [.v false [.ro g.length (cl .u8 g)], .v false [.int .i64 i], .v false [.int .i64 n]] = some (.v false [gA gg], gO gg) ∧
        runRO (X tab) tab 37 [.v false [.ro g.length (cl .u8 g)], .v false [.int .i64 i], .v false [.int .i64 n]] = some (.v false [.sl 0 [] 0 gg.length], [.row 1 (cl .u8 gg)]) := by
      cases hg : getOk g i n with
      | false => exact ⟨[], by simp, r_BlockGetA_bad g i n hg, r_sBlockGet_bad g i n (by omega) hg⟩
      | true => exact ⟨blockGet g i n, by unfold blockGet; simp; omega, r_BlockGetA g i n hg, r_sBlockGet g i n hg⟩
    have f5 := r_BlockSum s hsl
    have f6 := r_sBlockSum s hsl
    generalize (if s.length = 8 then sumOf s else 0) = sm at f5 f6
    have f7 := r_BlockOk o.length (cl .u8 o)
    have f8 := r_sBlockOk o.length (cl .u8 o)
    generalize decide (o.length = 8) = ob at f7 f8
    have f9 := r_BlockSame x y
    have f10 := r_sBlockSame x y
    generalize sameB x y = sb at f9 f10
    have f11 := r_BlockNew
    have f12 : runRO (X tab) tab 19 [.v false [.ro 8 (cl .u8 [0, 0, 0, 0, 0, 0, 0, 0])]] = some (.v false [.bool true], []) := r_BlockOk 8 _
    have c8 : cl .u8 [0, 0, 0, 0, 0, 0, 0, 0] = [.int .u8 0, .int .u8 0, .int .u8 0, .int .u8 0, .int .u8 0, .int .u8 0, .int .u8 0, .int .u8 0] := rfl
    rw [c8] at f11 f12
    have u1 : (cl .u8 b).take b.length = cl .u8 b := cl_self
    have u2 : (cl .u8 d).take d.length = cl .u8 d := cl_self
    have u3 : (cl .u8 g).take g.length = cl .u8 g := cl_self
    have u4 : (cl .u8 s).take s.length = cl .u8 s := cl_self
    have u5 : (cl .u8 o).take o.length = cl .u8 o := cl_self
    have u6 : (cl .u8 x).take x.length = cl .u8 x := cl_self
    have u7 : (cl .u8 y).take y.length = cl .u8 y := cl_self
    have u8 : (cl .u8 pp).take pp.length = cl .u8 pp := cl_self
    have u9 : (cl .u8 gg).take gg.length = cl .u8 gg := cl_self
    have ok := r_BlockOk b.length (cl .u8 b)
    have z1 := gO_noRo gg
    have wd : IntKind.i64.wrap (8 - (d.length : Int)) = 8 - (d.length : Int) := wrap_id (by omega) (by omega)
    have x1 := gA_noRo gg
    rcases f1 with ⟨rfl, rfl, f1⟩ | ⟨hne, f1⟩
    · simp only [List.length_nil, cl_nil] at e0 f1 f2 ok u1
      unfold runRO
      simp (maxSteps := 4000000) -implicitDefEqProofs [tab14, a14, x_seq, x_cond, x_block, x_region, x_skip, x_exit, x_ret, head_id, runG, runOps, doOp, wantB, stepOp, AO.eff, pureOp, St.get, St.one, St.num, St.put, St.optNum, binA, binInt, List.take, List.drop, gOp, gRes, gEff, addObs_nil, addObs_one, freshB_memL, freshB_none, freshB_upd, freshB_addMem, freshB_addObs, effOp2, effOp, memL_app, stoRow, cellsAt, toCells, toCell, scalar_int, scalar_bool, scalar_str, scalar_sl, updAt, fromRo, upd, callRO, addMem_nil, roArgs, roL, roA, src_nil, src_ro, src_sl, A1.ownB, addMem, shift, ren_sl, ren_int, ren_bool, ren_str, ren_nil, SV.map, Ob.map, noRo_row, SV.noRo, noRo_sl, noRo_int, noRo_bool, noRo_str, noRo_nil, List.range, List.range.loop, resOf, resSV, SV.map, SV.ids, A1.ids, reach, allObs, pos, Ob.map, St.canon, memL, List.range, List.range.loop, cellsAt, hb, e0, e1, e2, e3, e4, f1, f2, f3, f4, f5, f6, f7, f8, f9, f10, f11, f12, ok, u2, u3, u4, u5, u6, u7, u9, gO_len64, gO_map, z1, x1, g_src, g_fresh, g_read, cl_nums, cl_length, numsOfCells, binStr, bne]
    · by_cases h8 : b.length = 8
      · rw [decide_eq_true h8] at ok
        rw [h8] at e0 f1 f2 ok u1 hpl
        rw [hpl] at f1 f2 u8
        by_cases hk0 : k < 0
        · have hg : getOk b k d.length = false := by simp [getOk, rng]; omega
          obtain rfl := hpb hg
          unfold runRO
          simp (maxSteps := 4000000) -implicitDefEqProofs [tab14, a14, x_seq, x_cond, x_block, x_region, x_skip, x_exit, x_ret, head_id, runG, runOps, doOp, wantB, stepOp, AO.eff, pureOp, St.get, St.one, St.num, St.put, St.optNum, binA, binInt, List.take, List.drop, gOp, gRes, gEff, addObs_nil, addObs_one, freshB_memL, freshB_none, freshB_upd, freshB_addMem, freshB_addObs, effOp2, effOp, memL_app, stoRow, cellsAt, toCells, toCell, scalar_int, scalar_bool, scalar_str, scalar_sl, updAt, fromRo, upd, callRO, addMem_nil, roArgs, roL, roA, src_nil, src_ro, src_sl, A1.ownB, addMem, shift, ren_sl, ren_int, ren_bool, ren_str, ren_nil, SV.map, Ob.map, noRo_row, SV.noRo, noRo_sl, noRo_int, noRo_bool, noRo_str, noRo_nil, List.range, List.range.loop, resOf, resSV, SV.map, SV.ids, A1.ids, reach, allObs, pos, Ob.map, St.canon, memL, List.range, List.range.loop, cellsAt, hb, e0, e1, e2, e3, e4, f1, f2, f3, f4, f5, f6, f7, f8, f9, f10, f11, f12, ok, hk0, u1, u2, u3, u4, u5, u6, u7, u8, u9, gO_len64, gO_map, z1, x1, g_src, g_fresh, g_read, cl_nums, cl_length, hpl, h8, binStr, bne]
        · by_cases hk1 : k > 8 - (d.length : Int)
          · have hg : getOk b k d.length = false := by simp [getOk, rng]; omega
            obtain rfl := hpb hg
            unfold runRO
            simp (maxSteps := 4000000) -implicitDefEqProofs [tab14, a14, x_seq, x_cond, x_block, x_region, x_skip, x_exit, x_ret, head_id, runG, runOps, doOp, wantB, stepOp, AO.eff, pureOp, St.get, St.one, St.num, St.put, St.optNum, binA, binInt, List.take, List.drop, gOp, gRes, gEff, addObs_nil, addObs_one, freshB_memL, freshB_none, freshB_upd, freshB_addMem, freshB_addObs, effOp2, effOp, memL_app, stoRow, cellsAt, toCells, toCell, scalar_int, scalar_bool, scalar_str, scalar_sl, updAt, fromRo, upd, callRO, addMem_nil, roArgs, roL, roA, src_nil, src_ro, src_sl, A1.ownB, addMem, shift, ren_sl, ren_int, ren_bool, ren_str, ren_nil, SV.map, Ob.map, noRo_row, SV.noRo, noRo_sl, noRo_int, noRo_bool, noRo_str, noRo_nil, List.range, List.range.loop, resOf, resSV, SV.map, SV.ids, A1.ids, reach, allObs, pos, Ob.map, St.canon, memL, List.range, List.range.loop, cellsAt, hb, e0, e1, e2, e3, e4, f1, f2, f3, f4, f5, f6, f7, f8, f9, f10, f11, f12, ok, hk0, hk1, wd, u1, u2, u3, u4, u5, u6, u7, u8, u9, gO_len64, gO_map, z1, x1, g_src, g_fresh, g_read, cl_nums, cl_length, hpl, h8, binStr, bne]
          · obtain ⟨j, rfl⟩ : ∃ j : Nat, k = j := ⟨k.toNat, by omega⟩
            have hg : getOk b j d.length = true := getOk_rng h8 (by omega) (by omega) (by omega) (by omega)
            have hjd : j + d.length ≤ 8 := by omega
            have hpo' := hpo hg
            rw [Int.toNat_natCast] at hpo'
            have p8 : pp.length = 8 := hpl
            have o1 : getOk pp j d.length = true := getOk_rng p8 (by omega) (by omega) (by omega) (by omega)
            have o2 : getOk pp 0 j = true := getOk_rng p8 (by omega) (by omega) (by omega) (by omega)
            have o3 : getOk pp ((j + d.length : Nat) : Int) ((8 - j - d.length : Nat) : Int) = true := getOk_rng p8 (by omega) (by omega) (by omega) (by omega)
            have t1 := r_BlockGetA pp j d.length o1
            have t2 := r_BlockGetA pp 0 j o2
            have t3 := r_BlockGetA pp _ _ o3
            rw [hpo', get_put1 h8 hjd, ← hpo', p8] at t1
            rw [hpo', get_put2 h8 hjd, ← hpo', p8] at t2
            rw [hpo', get_put3 h8 hjd, ← hpo', p8] at t3
            have y1 := gO_noRo d
            have y2 := gO_noRo (b.take j)
            have y3 := gO_noRo (b.drop (j + d.length))
            have x2 := gA_noRo d
            have x3 := gA_noRo (b.take j)
            have x4 := gA_noRo (b.drop (j + d.length))
            have w1 : IntKind.i64.wrap ((j : Int) + (d.length : Int)) = ((j + d.length : Nat) : Int) := by rw [wrap_id (by omega) (by omega)]; omega
            have w2 : IntKind.i64.wrap (8 - (j : Int)) = 8 - (j : Int) := wrap_id (by omega) (by omega)
            have w3 : IntKind.i64.wrap (8 - (j : Int) - (d.length : Int)) = ((8 - j - d.length : Nat) : Int) := by rw [wrap_id (by omega) (by omega)]; omega
            have hc1 : cutB 8 none (some (j : Int)) = some (0, j) := by simp [cutB]; omega
            have hc2 : cutB 8 (some ((j + d.length : Nat) : Int)) none = some (j + d.length, 8) := by simp [cutB]; omega
            have b8 : (cl .u8 b).length = 8 := by rw [cl_length, h8]
            have v1 : (cl .u8 b).take j = cl .u8 (b.take j) := cl_take
            have v2 : ((cl .u8 b).drop (j + d.length)).take (8 - (j + d.length)) = cl .u8 (b.drop (j + d.length)) := by rw [cl_drop, List.take_of_length_le (by rw [cl_length]; simp; omega)]
            have hj8 : j ≤ 8 := by omega
            have hj9 : j + d.length + (8 - (j + d.length)) ≤ 8 := by omega
            generalize hm : j + d.length = m at *
            generalize 8 - j - d.length = m2 at *
            unfold runRO
            simp (maxSteps := 4000000) -implicitDefEqProofs [tab14, a14, x_seq, x_cond, x_block, x_region, x_skip, x_exit, x_ret, head_id, runG, runOps, doOp, wantB, stepOp, AO.eff, pureOp, St.get, St.one, St.num, St.put, St.optNum, binA, binInt, List.take, List.drop, gOp, gRes, gEff, addObs_nil, addObs_one, freshB_memL, freshB_none, freshB_upd, freshB_addMem, freshB_addObs, effOp2, effOp, memL_app, stoRow, cellsAt, toCells, toCell, scalar_int, scalar_bool, scalar_str, scalar_sl, updAt, fromRo, upd, callRO, addMem_nil, roArgs, roL, roA, src_nil, src_ro, src_sl, A1.ownB, addMem, shift, ren_sl, ren_int, ren_bool, ren_str, ren_nil, SV.map, Ob.map, noRo_row, SV.noRo, noRo_sl, noRo_int, noRo_bool, noRo_str, noRo_nil, List.range, List.range.loop, resOf, resSV, SV.map, SV.ids, A1.ids, reach, allObs, pos, Ob.map, St.canon, memL, List.range, List.range.loop, cellsAt, hb, e0, e1, e2, e3, e4, f1, f2, f3, f4, f5, f6, f7, f8, f9, f10, f11, f12, t1, t2, t3, ok, hk0, hk1, wd, w1, w2, w3, hc1, hc2, v1, v2, hj8, hj9, szOk, y1, y2, y3, x2, x3, x4, u1, u2, u3, u4, u5, u6, u7, u8, u9, gO_len64, gO_map, z1, x1, g_src, g_fresh, g_read, cl_nums, cl_length, hpl, h8, binStr, bne]
      · rw [decide_eq_false h8] at ok
        have hg : getOk b k d.length = false := getOk_not h8
        obtain rfl := hpb hg
        unfold runRO
        simp (maxSteps := 4000000) -implicitDefEqProofs [tab14, a14, x_seq, x_cond, x_block, x_region, x_skip, x_exit, x_ret, head_id, runG, runOps, doOp, wantB, stepOp, AO.eff, pureOp, St.get, St.one, St.num, St.put, St.optNum, binA, binInt, List.take, List.drop, gOp, gRes, gEff, addObs_nil, addObs_one, freshB_memL, freshB_none, freshB_upd, freshB_addMem, freshB_addObs, effOp2, effOp, memL_app, stoRow, cellsAt, toCells, toCell, scalar_int, scalar_bool, scalar_str, scalar_sl, updAt, fromRo, upd, callRO, addMem_nil, roArgs, roL, roA, src_nil, src_ro, src_sl, A1.ownB, addMem, shift, ren_sl, ren_int, ren_bool, ren_str, ren_nil, SV.map, Ob.map, noRo_row, SV.noRo, noRo_sl, noRo_int, noRo_bool, noRo_str, noRo_nil, List.range, List.range.loop, resOf, resSV, SV.map, SV.ids, A1.ids, reach, allObs, pos, Ob.map, St.canon, memL, List.range, List.range.loop, cellsAt, hb, e0, e1, e2, e3, e4, f1, f2, f3, f4, f5, f6, f7, f8, f9, f10, f11, f12, ok, u1, u2, u3, u4, u5, u6, u7, u8, u9, gO_len64, gO_map, z1, x1, g_src, g_fresh, g_read, cl_nums, cl_length, binStr, bne]
end Go.Proofs.Ytnbgdddcbmlcpaa.Eng.A
