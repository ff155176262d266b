/- The laws' own functions over worlds, eighth part: marks in wires and in worlds. -/
import Derived.Test.YtbdokibepndibaaBW7
namespace Go.Proofs.Ytbdokibepndibaa.Eng.B
set_option linter.unusedSimpArgs false
set_option linter.unusedVariables false
set_option maxHeartbeats 16000000
set_option maxRecDepth 100000
open Go.RowKit Go.Proofs

def mkWire (k : Int) (x : PWire) : List Cell := [mfI k, mfI (k + 1), .sl x.bytes.length (mcF mfU (k + 2) x.bytes.length)]
def cWire (x : PWire) : Nat := 2 + x.bytes.length
def S_mkWire (t : Nat) (l : List PWire) (k : Int) (m : Mem) (up : List SV) (nx : Nat) (i : Nat) : XS := ⟨⟨[.v false [.sl t [] 0 l.length], .v false [.int .i64 ((kL cWire k (l.take i)))], .bad, .bad, .bad, .v false [.int .i64 (i)], .bad, .bad, .bad, .bad, .bad, .bad, .bad, .bad, .bad, .bad, .bad, .bad, .bad, .bad, .bad, .bad, .bad, .bad, .bad, .bad, .bad, .bad, .bad, .bad, .bad, .bad, .bad, .bad], upd m t (some (.row 3 (mid mkWire cWire wireC k l i))), up⟩, nx⟩
def Z_mkWire (t : Nat) (l : List PWire) (k : Int) (m : Mem) (up : List SV) (nx : Nat) : XS := ⟨⟨[.bad, .v false [.int .i64 ((kL cWire k l))], .bad, .bad, .bad, .bad, .bad, .bad, .bad, .bad, .bad, .bad, .bad, .bad, .bad, .bad, .bad, .bad, .bad, .bad, .bad, .bad, .bad, .bad, .bad, .bad, .bad, .bad, .bad, .bad, .bad, .bad, .bad, .bad], upd m t (some (.row 3 (mkL mkWire cWire k l))), up⟩, nx + 256⟩
theorem loop_mkWire (t : Nat) (l : List PWire) (k : Int) (m : Mem) (up : List SV) (nx : Nat) (hk : 0 ≤ k) (hk2 : kL cWire k l ≤ 1000000000) (hn : l.length ≤ 1048576) (hl : ∀ x ∈ l, x.bytes.length ≤ 1048576) {x : XS} (hx : head false d47_0 x = S_mkWire t l k m up nx 0) : X tab l47_0 x = some (.exit 0, Z_mkWire t l k m up nx) := by
  refine loopF l.length (S_mkWire t l k m up nx) _ (by simp) (fun i hi => ?_) ?_ (Nat.zero_le _) hx
  · obtain ⟨y, r, hd⟩ : ∃ y r, l.drop i = y :: r := ⟨_, _, List.drop_eq_getElem_cons hi⟩
    obtain ⟨A, B, hA, h0, hN, hk', hkb, hka⟩ := mid_at (mk := mkWire) (c := cWire) (lay := wireC) (k := k) (z := 3) (fun _ _ => rfl) hd
    have hy := hl y (dropx_mem hd)
    have h1 : (0 ≤ (i : Int) ∧ (i : Int) < (l.length : Int)) := by omega
    have h4 : IntKind.i64.wrap ((i : Int) + 1) = ((i + 1 : Nat) : Int) := by rw [wrap_id (by omega) (by omega)]; omega
    simp only [S_mkWire, hN, h0, hk']
    simp only [cWire] at hkb ⊢
    generalize kL cWire k (l.take i) = k0 at *
    have w0 : IntKind.i64.wrap (k0 + 1) = k0 + 1 := wrap_id (by omega) (by omega)
    have w1 : IntKind.i64.wrap (k0 + 1 + 1) = k0 + 2 := by rw [wrap_id (by omega) (by omega)]; omega
    have w2 : k0 + 2 + (y.bytes.length : Int) = k0 + ((2 + y.bytes.length : Nat) : Int) := by omega
    simp only [wireC, bytesC, mkWire, mfI]
    have e0 := row_st (A := A) (B := B) (C := [.int .i64 y.src, .int .i64 y.dst, .sl y.bytes.length (cl .u8 y.bytes)]) (j := 0) (c := .int .i64 k0) hA (by simp)
    have e1 := row_st (A := A) (B := B) (C := [.int .i64 k0, .int .i64 y.dst, .sl y.bytes.length (cl .u8 y.bytes)]) (j := 1) (c := .int .i64 (k0 + 1)) hA (by simp)
    have n0 := row_len (A := A) (B := B) (C := [.int .i64 y.src, .int .i64 y.dst, .sl y.bytes.length (cl .u8 y.bytes)]) (j := 0) hA (by simp)
    have n1 := row_len (A := A) (B := B) (C := [.int .i64 k0, .int .i64 y.dst, .sl y.bytes.length (cl .u8 y.bytes)]) (j := 1) hA (by simp)
    have a2 : (A ++ ([.int .i64 k0, .int .i64 (k0 + 1), .sl y.bytes.length (cl .u8 y.bytes)] ++ B))[i * 3 + 2]? = some (.sl y.bytes.length (cl .u8 y.bytes)) := by rw [row_at (j := 2) hA (by simp)]; rfl
    have r2 := row_read (t := t) a2
    have c2 := fun sl up nx => t_mkByteS t 3 y.bytes.length [i * 3 + 2] (A ++ ([.int .i64 k0, .int .i64 (k0 + 1), .sl y.bytes.length (cl .u8 y.bytes)] ++ B)) (cl .u8 y.bytes) (k0 + 2) sl (upd m t (some (.row 3 (A ++ ([.int .i64 k0, .int .i64 (k0 + 1), .sl y.bytes.length (cl .u8 y.bytes)] ++ B))))) up nx (upd_same _ _ _) (row_cell a2) cl_length (by omega) (by omega) hy
    rw [row_upd a2, row_set (j := 2) hA (by simp), w2] at c2
    simp only [List.set_cons_zero, List.set_cons_succ, Nat.add_zero] at e0 e1 n0 n1 c2
    generalize A ++ ([.int .i64 y.src, .int .i64 y.dst, .sl y.bytes.length (cl .u8 y.bytes)] ++ B) = R0 at *
    generalize A ++ ([.int .i64 k0, .int .i64 y.dst, .sl y.bytes.length (cl .u8 y.bytes)] ++ B) = R1 at *
    generalize A ++ ([.int .i64 k0, .int .i64 (k0 + 1), .sl y.bytes.length (cl .u8 y.bytes)] ++ B) = R2 at *
    generalize A ++ ([.int .i64 k0, .int .i64 (k0 + 1), .sl y.bytes.length (mcF mfU (k0 + 2) y.bytes.length)] ++ B) = R3 at *
    generalize k0 + ((2 + y.bytes.length : Nat) : Int) = k3 at *
    generalize k0 + 2 = k2 at *
    simp (maxSteps := 4000000) -implicitDefEqProofs [b47_0, x_seq, x_cond, x_block, x_region, x_skip, x_exit, x_ret, head_id, runG, runOps, doOp, wantB, stepOp, AO.eff, pureOp, St.get, St.one, St.num, St.put, St.optNum, binA, binInt, List.take, List.drop, effOp2, effOp, memL_app, getAll, stoRow, toCells, toCell, scalar_int, scalar_bool, cellsAt, updAt, upd_same, upd_upd, h1, h4, w0, w1, w2, e0, e1, n0, n1, r2, c2, hi, -Int.natCast_add]
    change _ = _
    kernel_rfl
  · simp only [S_mkWire, mid_all, List.take_length]
    simp (maxSteps := 4000000) -implicitDefEqProofs [b47_0, x_seq, x_cond, x_block, x_region, x_skip, x_exit, x_ret, head_id, runG, runOps, doOp, wantB, stepOp, AO.eff, pureOp, St.get, St.one, St.num, St.put, St.optNum, binA, binInt, List.take, List.drop]
    change _ = _
    kernel_rfl
theorem t_mkWire (t : Nat) (l : List PWire) (k : Int) (sl : List SV) (m : Mem) (up : List SV) (nx : Nat) (hm : m t = some (.row 3 (wiresC l))) (hk : 0 ≤ k) (hk2 : kL cWire k l ≤ 1000000000) (hn : l.length ≤ 1048576) (hl : ∀ x ∈ l, x.bytes.length ≤ 1048576) :
    runThru (X tab) tab 47 [.v false [.sl t [] 0 l.length], .v false [.int .i64 k]] ⟨⟨sl, m, up⟩, nx⟩ = some (.v false [.int .i64 (kL cWire k l)], ⟨⟨sl, upd m t (some (.row 3 (mkL mkWire cWire k l))), up⟩, nx + 512⟩) := by
  unfold runThru
  simp (maxSteps := 4000000) -implicitDefEqProofs [tab47, a47, x_seq, x_cond, x_block, x_region, x_skip, x_exit, x_ret, head_id, runG, runOps, doOp, wantB, stepOp, AO.eff, pureOp, St.get, St.one, St.num, St.put, St.optNum, binA, binInt, List.take, List.drop]
  rw [loop_mkWire t l k m (sl ++ up) (nx + 128) hk hk2 hn hl (by
    have e : mid mkWire cWire wireC k l 0 = wiresC l := mid_zero
    simp only [S_mkWire, e, kL_zero, upd_self hm, Int.ofNat_zero]
    change _ = _
    kernel_rfl)]
  simp (maxSteps := 4000000) -implicitDefEqProofs [Z_mkWire, x_seq, x_cond, x_block, x_region, x_skip, x_exit, x_ret, head_id, runG, runOps, doOp, wantB, stepOp, AO.eff, pureOp, St.get, St.one, St.num, St.put, St.optNum, binA, binInt, List.take, List.drop, resOf, resSV]
/-! A world's marks. -/
def kW (k : Int) (w : PWorld) : Int := kL cRec (kL cWire (kL cN k w.nodes) w.net) w.log + w.safe.length
theorem kL_le {α : Type} (c : α → Nat) (k : Int) (l : List α) : k ≤ kL c k l := by unfold kL; omega
theorem sum_le {α : Type} {f g : α → Nat} {b : Nat} {l : List α} (h : ∀ x ∈ l, f x ≤ g x + b) : (l.map f).sum ≤ (l.map g).sum + l.length * b := by
  induction l with
  | nil => simp
  | cons x r ih =>
    have h1 := h x List.mem_cons_self
    have h2 := ih fun y hy => h y (List.mem_cons_of_mem _ hy)
    simp only [List.map_cons, List.sum_cons, List.length_cons, Nat.succ_mul]
    omega
theorem upd_ne {m : Mem} {t u : Nat} {x : Option Ob} (h : u ≠ t) : upd m t x u = m u := by simp [upd, h]
/-- The memory behind the marks of a world whose rows are tn, tx, tl, ts. -/
def memW (w : PWorld) (k : Int) (tn tx tl ts : Nat) (m : Mem) : Mem :=
  upd (upd (upd (upd m tn (some (.row 16 (mkL mkN cN k w.nodes)))) tx (some (.row 3 (mkL mkWire cWire (kL cN k w.nodes) w.net)))) tl (some (.row 2 (mkL mkRec cRec (kL cWire (kL cN k w.nodes) w.net) w.log)))) ts (some (.row 1 (mcF mfI (kL cRec (kL cWire (kL cN k w.nodes) w.net) w.log) w.safe.length)))
theorem t_markWorld (w : PWorld) (hs : SmW w) (k : Int) (hk : 0 ≤ k) (hkw : kW k w ≤ 1000000000) (tn tx tl ts : Nat) (g : A1) (sl : List SV) (m : Mem) (up : List SV) (nx : Nat) (hn : m tn = some (.row 16 (nodesC w.nodes))) (hx : m tx = some (.row 3 (wiresC w.net))) (hl : m tl = some (.row 2 (recsC w.log))) (hsa : m ts = some (.row 1 (cl .i64 w.safe)))
    (d1 : tn ≠ tx) (d2 : tn ≠ tl) (d3 : tn ≠ ts) (d4 : tx ≠ tl) (d5 : tx ≠ ts) (d6 : tl ≠ ts) (h0 : m nx = none) :
    runThru (X tab) tab 23 [.v true [.sl tn [] 0 w.nodes.length, .sl tx [] 0 w.net.length, .sl tl [] 0 w.log.length, .sl ts [] 0 w.safe.length, g], .v false [.int .i64 k]] ⟨⟨sl, m, up⟩, nx⟩ = some (.v false [.int .i64 (kW k w)], ⟨⟨sl, memW w k tn tx tl ts (upd m nx (some (.box [.sl tn [] 0 w.nodes.length, .sl tx [] 0 w.net.length, .sl tl [] 0 w.log.length, .sl ts [] 0 w.safe.length, g]))), up⟩, nx + 3584⟩) := by
  have b1 : nx ≠ tn := fun h => by rw [h, hn] at h0; cases h0
  have b2 : nx ≠ tx := fun h => by rw [h, hx] at h0; cases h0
  have b3 : nx ≠ tl := fun h => by rw [h, hl] at h0; cases h0
  have b4 : nx ≠ ts := fun h => by rw [h, hsa] at h0; cases h0
  have k1 := kL_le cN k w.nodes
  have k2 := kL_le cWire (kL cN k w.nodes) w.net
  have k3 := kL_le cRec (kL cWire (kL cN k w.nodes) w.net) w.log
  unfold kW memW
  unfold kW at hkw
  generalize hbx : some (Ob.box [A1.sl tn [] 0 w.nodes.length, .sl tx [] 0 w.net.length, .sl tl [] 0 w.log.length, .sl ts [] 0 w.safe.length, g]) = bx
  have c1 := fun sl up nz => t_mkN tn w.nodes k sl (upd m nx bx) up nz (by rw [upd_ne (Ne.symm b1), hn]) hk (by omega) hs.nodes hs.node
  generalize mkL mkN cN k w.nodes = r1 at *
  generalize kL cN k w.nodes = ka at *
  have c2 := fun sl up nz => t_mkWire tx w.net ka sl (upd (upd m nx bx) tn (some (.row 16 r1))) up nz (by rw [upd_ne (Ne.symm d1), upd_ne (Ne.symm b2), hx]) (by omega) (by omega) hs.net hs.wire
  generalize mkL mkWire cWire ka w.net = r2 at *
  generalize kL cWire ka w.net = kb at *
  have c3 := fun sl up nz => t_mkRec tl w.log kb sl (upd (upd (upd m nx bx) tn (some (.row 16 r1))) tx (some (.row 3 r2))) up nz (by rw [upd_ne (Ne.symm d4), upd_ne (Ne.symm d2), upd_ne (Ne.symm b3), hl]) (by omega) (by omega) hs.log
  generalize mkL mkRec cRec kb w.log = r3 at *
  generalize kL cRec kb w.log = kc at *
  have c4 := fun sl up nz => t_mkIntS ts 1 w.safe.length [] (cl .i64 w.safe) (cl .i64 w.safe) kc sl (upd (upd (upd (upd m nx bx) tn (some (.row 16 r1))) tx (some (.row 3 r2))) tl (some (.row 2 r3))) up nz (by rw [upd_ne (Ne.symm d6), upd_ne (Ne.symm d5), upd_ne (Ne.symm d3), upd_ne (Ne.symm b4), hsa]) rfl cl_length (by omega) (by omega) hs.safe
  simp only [updAt] at c4
  unfold runThru
  simp (maxSteps := 4000000) -implicitDefEqProofs [tab23, a23, x_seq, x_cond, x_block, x_region, x_skip, x_exit, x_ret, head_id, runG, runOps, doOp, wantB, stepOp, AO.eff, pureOp, St.get, St.one, St.num, St.put, St.optNum, binA, binInt, List.take, List.drop, effOp2, effOp, memL_app, getAll, cellsAt, h0, hbx, upd_same, upd_ne, b1, b2, b3, b4, c1, c2, c3, c4]
  subst hbx
  simp (maxSteps := 4000000) -implicitDefEqProofs [tab23, a23, x_seq, x_cond, x_block, x_region, x_skip, x_exit, x_ret, head_id, runG, runOps, doOp, wantB, stepOp, AO.eff, pureOp, St.get, St.one, St.num, St.put, St.optNum, binA, binInt, List.take, List.drop, effOp2, effOp, memL_app, getAll, cellsAt, upd_same, upd_ne, b1, b2, b3, b4, c1, c2, c3, c4, resOf, resSV]
end Go.Proofs.Ytbdokibepndibaa.Eng.B
