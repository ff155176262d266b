/- The laws' own functions over worlds, seventh part: marks in nodes. -/
import Derived.Test.YtbdokibepndibaaBW6
namespace Go.Proofs.Ytbdokibepndibaa.Eng.B
set_option linter.unusedSimpArgs false
set_option linter.unusedVariables false
set_option maxHeartbeats 16000000
set_option maxRecDepth 100000
open Go.RowKit Go.Proofs

def cN (n : PNode) : Nat := 3 + n.image.length + n.mt.gens.length + (n.mt.bits.map List.length).sum + 4 + n.sa.length + n.sb.length + n.conn.length + (n.sync.map List.length).sum + n.copies.length + n.wait.length
def kN0 (k0 : Int) (_ : PNode) : Int := k0
def kN1 (k0 : Int) (n : PNode) : Int := k0 + 1
def kN2 (k0 : Int) (n : PNode) : Int := (kN1 k0 n) + 1
def kN3 (k0 : Int) (n : PNode) : Int := (kN2 k0 n) + 1
def kN4 (k0 : Int) (n : PNode) : Int := (kN3 k0 n) + n.image.length
def kN5 (k0 : Int) (n : PNode) : Int := (kN4 k0 n) + n.mt.gens.length
def kN6 (k0 : Int) (n : PNode) : Int := kSS (kN5 k0 n) n.mt.bits
def kN7 (k0 : Int) (n : PNode) : Int := (kN6 k0 n) + 1
def kN8 (k0 : Int) (n : PNode) : Int := (kN7 k0 n) + 1
def kN9 (k0 : Int) (n : PNode) : Int := (kN8 k0 n) + 1
def kN10 (k0 : Int) (n : PNode) : Int := (kN9 k0 n) + 1
def kN11 (k0 : Int) (n : PNode) : Int := (kN10 k0 n) + n.sa.length
def kN12 (k0 : Int) (n : PNode) : Int := (kN11 k0 n) + n.sb.length
def kN13 (k0 : Int) (n : PNode) : Int := (kN12 k0 n) + n.conn.length
def kN14 (k0 : Int) (n : PNode) : Int := kSS (kN13 k0 n) n.sync
def kN15 (k0 : Int) (n : PNode) : Int := (kN14 k0 n) + n.copies.length
def kN16 (k0 : Int) (n : PNode) : Int := (kN15 k0 n) + n.wait.length
theorem mkN_next (k0 : Int) (n : PNode) : kN16 k0 n = k0 + cN n := by
  simp only [kN1, kN2, kN3, kN4, kN5, kN6, kN7, kN8, kN9, kN10, kN11, kN12, kN13, kN14, kN15, kN16, kSS, cN]
  omega
def mkRow0 (n : PNode) : List Cell := [.int .i64 n.id, .bool n.up, .bool n.prime, .sl n.image.length (cl .i64 n.image), .sl n.mt.gens.length (cl .i64 n.mt.gens), .sl n.mt.bits.length (n.mt.bits.map intsC), .bool n.mt.fine, .bool n.mt.old, .bool n.mt.hd, .int .i64 n.mt.last, .sl n.sa.length (cl .u8 n.sa), .sl n.sb.length (cl .u8 n.sb), .sl n.conn.length (cb n.conn), .sl n.sync.length (n.sync.map intsC), .sl n.copies.length (cb n.copies), .sl n.wait.length (cl .i64 n.wait)]
def mkRow1 (n : PNode) (k0 : Int) : List Cell := [mfI k0, .bool n.up, .bool n.prime, .sl n.image.length (cl .i64 n.image), .sl n.mt.gens.length (cl .i64 n.mt.gens), .sl n.mt.bits.length (n.mt.bits.map intsC), .bool n.mt.fine, .bool n.mt.old, .bool n.mt.hd, .int .i64 n.mt.last, .sl n.sa.length (cl .u8 n.sa), .sl n.sb.length (cl .u8 n.sb), .sl n.conn.length (cb n.conn), .sl n.sync.length (n.sync.map intsC), .sl n.copies.length (cb n.copies), .sl n.wait.length (cl .i64 n.wait)]
def mkRow2 (n : PNode) (k0 k1 : Int) : List Cell := [mfI k0, mfB k1, .bool n.prime, .sl n.image.length (cl .i64 n.image), .sl n.mt.gens.length (cl .i64 n.mt.gens), .sl n.mt.bits.length (n.mt.bits.map intsC), .bool n.mt.fine, .bool n.mt.old, .bool n.mt.hd, .int .i64 n.mt.last, .sl n.sa.length (cl .u8 n.sa), .sl n.sb.length (cl .u8 n.sb), .sl n.conn.length (cb n.conn), .sl n.sync.length (n.sync.map intsC), .sl n.copies.length (cb n.copies), .sl n.wait.length (cl .i64 n.wait)]
def mkRow3 (n : PNode) (k0 k1 k2 : Int) : List Cell := [mfI k0, mfB k1, mfB k2, .sl n.image.length (cl .i64 n.image), .sl n.mt.gens.length (cl .i64 n.mt.gens), .sl n.mt.bits.length (n.mt.bits.map intsC), .bool n.mt.fine, .bool n.mt.old, .bool n.mt.hd, .int .i64 n.mt.last, .sl n.sa.length (cl .u8 n.sa), .sl n.sb.length (cl .u8 n.sb), .sl n.conn.length (cb n.conn), .sl n.sync.length (n.sync.map intsC), .sl n.copies.length (cb n.copies), .sl n.wait.length (cl .i64 n.wait)]
def mkRow4 (n : PNode) (k0 k1 k2 k3 : Int) : List Cell := [mfI k0, mfB k1, mfB k2, .sl n.image.length (mcF mfI k3 n.image.length), .sl n.mt.gens.length (cl .i64 n.mt.gens), .sl n.mt.bits.length (n.mt.bits.map intsC), .bool n.mt.fine, .bool n.mt.old, .bool n.mt.hd, .int .i64 n.mt.last, .sl n.sa.length (cl .u8 n.sa), .sl n.sb.length (cl .u8 n.sb), .sl n.conn.length (cb n.conn), .sl n.sync.length (n.sync.map intsC), .sl n.copies.length (cb n.copies), .sl n.wait.length (cl .i64 n.wait)]
def mkRow5 (n : PNode) (k0 k1 k2 k3 k4 : Int) : List Cell := [mfI k0, mfB k1, mfB k2, .sl n.image.length (mcF mfI k3 n.image.length), .sl n.mt.gens.length (mcF mfI k4 n.mt.gens.length), .sl n.mt.bits.length (n.mt.bits.map intsC), .bool n.mt.fine, .bool n.mt.old, .bool n.mt.hd, .int .i64 n.mt.last, .sl n.sa.length (cl .u8 n.sa), .sl n.sb.length (cl .u8 n.sb), .sl n.conn.length (cb n.conn), .sl n.sync.length (n.sync.map intsC), .sl n.copies.length (cb n.copies), .sl n.wait.length (cl .i64 n.wait)]
def mkRow6 (n : PNode) (k0 k1 k2 k3 k4 k5 : Int) : List Cell := [mfI k0, mfB k1, mfB k2, .sl n.image.length (mcF mfI k3 n.image.length), .sl n.mt.gens.length (mcF mfI k4 n.mt.gens.length), .sl n.mt.bits.length (mkSS k5 n.mt.bits), .bool n.mt.fine, .bool n.mt.old, .bool n.mt.hd, .int .i64 n.mt.last, .sl n.sa.length (cl .u8 n.sa), .sl n.sb.length (cl .u8 n.sb), .sl n.conn.length (cb n.conn), .sl n.sync.length (n.sync.map intsC), .sl n.copies.length (cb n.copies), .sl n.wait.length (cl .i64 n.wait)]
def mkRow7 (n : PNode) (k0 k1 k2 k3 k4 k5 k6 : Int) : List Cell := [mfI k0, mfB k1, mfB k2, .sl n.image.length (mcF mfI k3 n.image.length), .sl n.mt.gens.length (mcF mfI k4 n.mt.gens.length), .sl n.mt.bits.length (mkSS k5 n.mt.bits), mfB k6, .bool n.mt.old, .bool n.mt.hd, .int .i64 n.mt.last, .sl n.sa.length (cl .u8 n.sa), .sl n.sb.length (cl .u8 n.sb), .sl n.conn.length (cb n.conn), .sl n.sync.length (n.sync.map intsC), .sl n.copies.length (cb n.copies), .sl n.wait.length (cl .i64 n.wait)]
def mkRow8 (n : PNode) (k0 k1 k2 k3 k4 k5 k6 k7 : Int) : List Cell := [mfI k0, mfB k1, mfB k2, .sl n.image.length (mcF mfI k3 n.image.length), .sl n.mt.gens.length (mcF mfI k4 n.mt.gens.length), .sl n.mt.bits.length (mkSS k5 n.mt.bits), mfB k6, mfB k7, .bool n.mt.hd, .int .i64 n.mt.last, .sl n.sa.length (cl .u8 n.sa), .sl n.sb.length (cl .u8 n.sb), .sl n.conn.length (cb n.conn), .sl n.sync.length (n.sync.map intsC), .sl n.copies.length (cb n.copies), .sl n.wait.length (cl .i64 n.wait)]
def mkRow9 (n : PNode) (k0 k1 k2 k3 k4 k5 k6 k7 k8 : Int) : List Cell := [mfI k0, mfB k1, mfB k2, .sl n.image.length (mcF mfI k3 n.image.length), .sl n.mt.gens.length (mcF mfI k4 n.mt.gens.length), .sl n.mt.bits.length (mkSS k5 n.mt.bits), mfB k6, mfB k7, mfB k8, .int .i64 n.mt.last, .sl n.sa.length (cl .u8 n.sa), .sl n.sb.length (cl .u8 n.sb), .sl n.conn.length (cb n.conn), .sl n.sync.length (n.sync.map intsC), .sl n.copies.length (cb n.copies), .sl n.wait.length (cl .i64 n.wait)]
def mkRow10 (n : PNode) (k0 k1 k2 k3 k4 k5 k6 k7 k8 k9 : Int) : List Cell := [mfI k0, mfB k1, mfB k2, .sl n.image.length (mcF mfI k3 n.image.length), .sl n.mt.gens.length (mcF mfI k4 n.mt.gens.length), .sl n.mt.bits.length (mkSS k5 n.mt.bits), mfB k6, mfB k7, mfB k8, mfI k9, .sl n.sa.length (cl .u8 n.sa), .sl n.sb.length (cl .u8 n.sb), .sl n.conn.length (cb n.conn), .sl n.sync.length (n.sync.map intsC), .sl n.copies.length (cb n.copies), .sl n.wait.length (cl .i64 n.wait)]
def mkRow11 (n : PNode) (k0 k1 k2 k3 k4 k5 k6 k7 k8 k9 k10 : Int) : List Cell := [mfI k0, mfB k1, mfB k2, .sl n.image.length (mcF mfI k3 n.image.length), .sl n.mt.gens.length (mcF mfI k4 n.mt.gens.length), .sl n.mt.bits.length (mkSS k5 n.mt.bits), mfB k6, mfB k7, mfB k8, mfI k9, .sl n.sa.length (mcF mfU k10 n.sa.length), .sl n.sb.length (cl .u8 n.sb), .sl n.conn.length (cb n.conn), .sl n.sync.length (n.sync.map intsC), .sl n.copies.length (cb n.copies), .sl n.wait.length (cl .i64 n.wait)]
def mkRow12 (n : PNode) (k0 k1 k2 k3 k4 k5 k6 k7 k8 k9 k10 k11 : Int) : List Cell := [mfI k0, mfB k1, mfB k2, .sl n.image.length (mcF mfI k3 n.image.length), .sl n.mt.gens.length (mcF mfI k4 n.mt.gens.length), .sl n.mt.bits.length (mkSS k5 n.mt.bits), mfB k6, mfB k7, mfB k8, mfI k9, .sl n.sa.length (mcF mfU k10 n.sa.length), .sl n.sb.length (mcF mfU k11 n.sb.length), .sl n.conn.length (cb n.conn), .sl n.sync.length (n.sync.map intsC), .sl n.copies.length (cb n.copies), .sl n.wait.length (cl .i64 n.wait)]
def mkRow13 (n : PNode) (k0 k1 k2 k3 k4 k5 k6 k7 k8 k9 k10 k11 k12 : Int) : List Cell := [mfI k0, mfB k1, mfB k2, .sl n.image.length (mcF mfI k3 n.image.length), .sl n.mt.gens.length (mcF mfI k4 n.mt.gens.length), .sl n.mt.bits.length (mkSS k5 n.mt.bits), mfB k6, mfB k7, mfB k8, mfI k9, .sl n.sa.length (mcF mfU k10 n.sa.length), .sl n.sb.length (mcF mfU k11 n.sb.length), .sl n.conn.length (mcF mfB k12 n.conn.length), .sl n.sync.length (n.sync.map intsC), .sl n.copies.length (cb n.copies), .sl n.wait.length (cl .i64 n.wait)]
def mkRow14 (n : PNode) (k0 k1 k2 k3 k4 k5 k6 k7 k8 k9 k10 k11 k12 k13 : Int) : List Cell := [mfI k0, mfB k1, mfB k2, .sl n.image.length (mcF mfI k3 n.image.length), .sl n.mt.gens.length (mcF mfI k4 n.mt.gens.length), .sl n.mt.bits.length (mkSS k5 n.mt.bits), mfB k6, mfB k7, mfB k8, mfI k9, .sl n.sa.length (mcF mfU k10 n.sa.length), .sl n.sb.length (mcF mfU k11 n.sb.length), .sl n.conn.length (mcF mfB k12 n.conn.length), .sl n.sync.length (mkSS k13 n.sync), .sl n.copies.length (cb n.copies), .sl n.wait.length (cl .i64 n.wait)]
def mkRow15 (n : PNode) (k0 k1 k2 k3 k4 k5 k6 k7 k8 k9 k10 k11 k12 k13 k14 : Int) : List Cell := [mfI k0, mfB k1, mfB k2, .sl n.image.length (mcF mfI k3 n.image.length), .sl n.mt.gens.length (mcF mfI k4 n.mt.gens.length), .sl n.mt.bits.length (mkSS k5 n.mt.bits), mfB k6, mfB k7, mfB k8, mfI k9, .sl n.sa.length (mcF mfU k10 n.sa.length), .sl n.sb.length (mcF mfU k11 n.sb.length), .sl n.conn.length (mcF mfB k12 n.conn.length), .sl n.sync.length (mkSS k13 n.sync), .sl n.copies.length (mcF mfB k14 n.copies.length), .sl n.wait.length (cl .i64 n.wait)]
def mkRow16 (n : PNode) (k0 k1 k2 k3 k4 k5 k6 k7 k8 k9 k10 k11 k12 k13 k14 k15 : Int) : List Cell := [mfI k0, mfB k1, mfB k2, .sl n.image.length (mcF mfI k3 n.image.length), .sl n.mt.gens.length (mcF mfI k4 n.mt.gens.length), .sl n.mt.bits.length (mkSS k5 n.mt.bits), mfB k6, mfB k7, mfB k8, mfI k9, .sl n.sa.length (mcF mfU k10 n.sa.length), .sl n.sb.length (mcF mfU k11 n.sb.length), .sl n.conn.length (mcF mfB k12 n.conn.length), .sl n.sync.length (mkSS k13 n.sync), .sl n.copies.length (mcF mfB k14 n.copies.length), .sl n.wait.length (mcF mfI k15 n.wait.length)]
def mkN (k0 : Int) (n : PNode) : List Cell := mkRow16 n k0 (kN1 k0 n) (kN2 k0 n) (kN3 k0 n) (kN4 k0 n) (kN5 k0 n) (kN6 k0 n) (kN7 k0 n) (kN8 k0 n) (kN9 k0 n) (kN10 k0 n) (kN11 k0 n) (kN12 k0 n) (kN13 k0 n) (kN14 k0 n) (kN15 k0 n)
theorem mkN_len (k : Int) (n : PNode) : (mkN k n).length = 16 := rfl
theorem step_mkN (t : Nat) (len i : Nat) (n : PNode) (A B : List Cell) (m : Mem) (up : List SV) (nx : Nat) (k0 k1 k2 k3 k4 k5 k6 k7 k8 k9 k10 k11 k12 k13 k14 k15 k16 : Int) (hA : A.length = i * 16) (sm : SmN n) (hi : i < len) (hlen : len ≤ 1048576) (hb : 0 ≤ k0) (hb2 : k16 ≤ 1000000000) (q0 : k1 = k0 + 1) (q1 : k2 = k1 + 1) (q2 : k3 = k2 + 1) (q3 : k4 = k3 + n.image.length) (q4 : k5 = k4 + n.mt.gens.length) (q5 : k6 = kSS k5 n.mt.bits) (q6 : k7 = k6 + 1) (q7 : k8 = k7 + 1) (q8 : k9 = k8 + 1) (q9 : k10 = k9 + 1) (q10 : k11 = k10 + n.sa.length) (q11 : k12 = k11 + n.sb.length) (q12 : k13 = k12 + n.conn.length) (q13 : k14 = kSS k13 n.sync) (q14 : k15 = k14 + n.copies.length) (q15 : k16 = k15 + n.wait.length) :
    ∃ z, X tab b46_0 ⟨⟨[.v false [.sl t [] 0 len], .v false [.int .i64 (k0)], .bad, .bad, .bad, .v false [.int .i64 (i)], .bad, .bad, .bad, .bad, .bad, .bad, .bad, .bad, .bad, .bad, .bad, .bad, .bad, .bad, .bad, .bad, .bad, .bad, .bad, .bad, .bad, .bad, .bad, .bad, .bad, .bad, .bad, .bad, .bad, .bad, .bad, .bad, .bad, .bad, .bad, .bad, .bad, .bad, .bad, .bad, .bad, .bad, .bad, .bad, .bad, .bad, .bad, .bad, .bad, .bad, .bad, .bad, .bad, .bad, .bad, .bad, .bad, .bad, .bad, .bad, .bad, .bad, .bad, .bad, .bad, .bad, .bad, .bad, .bad, .bad, .bad, .bad, .bad, .bad, .bad, .bad, .bad, .bad, .bad, .bad, .bad, .bad, .bad, .bad, .bad, .bad, .bad, .bad, .bad, .bad, .bad, .bad, .bad, .bad, .bad, .bad, .bad, .bad, .bad, .bad, .bad, .bad, .bad, .bad, .bad, .bad, .bad, .bad, .bad, .bad, .bad, .bad, .bad, .bad, .bad, .bad, .bad, .bad, .bad, .bad, .bad, .bad, .bad, .bad, .bad, .bad, .bad, .bad, .bad, .bad, .bad, .bad, .bad, .bad, .bad, .bad, .bad], upd m t (some (.row 16 (A ++ (mkRow0 n ++ B)))), up⟩, nx⟩ = some (.nrm, z) ∧ head false d46_0 ⟨z.st, nx⟩ = ⟨⟨[.v false [.sl t [] 0 len], .v false [.int .i64 (k16)], .bad, .bad, .bad, .v false [.int .i64 ((i + 1 : Nat))], .bad, .bad, .bad, .bad, .bad, .bad, .bad, .bad, .bad, .bad, .bad, .bad, .bad, .bad, .bad, .bad, .bad, .bad, .bad, .bad, .bad, .bad, .bad, .bad, .bad, .bad, .bad, .bad, .bad, .bad, .bad, .bad, .bad, .bad, .bad, .bad, .bad, .bad, .bad, .bad, .bad, .bad, .bad, .bad, .bad, .bad, .bad, .bad, .bad, .bad, .bad, .bad, .bad, .bad, .bad, .bad, .bad, .bad, .bad, .bad, .bad, .bad, .bad, .bad, .bad, .bad, .bad, .bad, .bad, .bad, .bad, .bad, .bad, .bad, .bad, .bad, .bad, .bad, .bad, .bad, .bad, .bad, .bad, .bad, .bad, .bad, .bad, .bad, .bad, .bad, .bad, .bad, .bad, .bad, .bad, .bad, .bad, .bad, .bad, .bad, .bad, .bad, .bad, .bad, .bad, .bad, .bad, .bad, .bad, .bad, .bad, .bad, .bad, .bad, .bad, .bad, .bad, .bad, .bad, .bad, .bad, .bad, .bad, .bad, .bad, .bad, .bad, .bad, .bad, .bad, .bad, .bad, .bad, .bad, .bad, .bad, .bad], upd m t (some (.row 16 (A ++ ((mkRow16 n k0 k1 k2 k3 k4 k5 k6 k7 k8 k9 k10 k11 k12 k13 k14 k15) ++ B)))), up⟩, nx⟩ := by
  have h1 : (0 ≤ (i : Int) ∧ (i : Int) < (len : Int)) := by omega
  have h4 : IntKind.i64.wrap ((i : Int) + 1) = ((i + 1 : Nat) : Int) := by rw [wrap_id (by omega) (by omega)]; omega
  simp only [kSS] at q5 q13
  have e0 : spl [.int .i64 k0] (i * 16) (A ++ ((mkRow0 n) ++ B)) = A ++ ((mkRow1 n k0) ++ B) := row_st (j := 0) hA (by simp [mkRow0])
  have n0 : i * 16 + 1 ≤ (A ++ ((mkRow0 n) ++ B)).length := row_len (j := 0) hA (by simp [mkRow0])
  have w0 : IntKind.i64.wrap (k0 + 1) = k1 := by rw [q0, wrap_id (by omega) (by omega)]
  have e1 : spl [.bool (k1.tmod 3 == 0)] (i * 16 + 1) (A ++ ((mkRow1 n k0) ++ B)) = A ++ ((mkRow2 n k0 k1) ++ B) := row_st (j := 1) hA (by simp [mkRow1])
  have n1 : i * 16 + 1 + 1 ≤ (A ++ ((mkRow1 n k0) ++ B)).length := row_len (j := 1) hA (by simp [mkRow1])
  have w1 : IntKind.i64.wrap (k1 + 1) = k2 := by rw [q1, wrap_id (by omega) (by omega)]
  have e2 : spl [.bool (k2.tmod 3 == 0)] (i * 16 + 2) (A ++ ((mkRow2 n k0 k1) ++ B)) = A ++ ((mkRow3 n k0 k1 k2) ++ B) := row_st (j := 2) hA (by simp [mkRow2])
  have n2 : i * 16 + 2 + 1 ≤ (A ++ ((mkRow2 n k0 k1) ++ B)).length := row_len (j := 2) hA (by simp [mkRow2])
  have w2 : IntKind.i64.wrap (k2 + 1) = k3 := by rw [q2, wrap_id (by omega) (by omega)]
  have a3 : (A ++ ((mkRow3 n k0 k1 k2) ++ B))[i * 16 + 3]? = some (.sl n.image.length (cl .i64 n.image)) := by rw [row_at (j := 3) hA (by simp [mkRow3])]; rfl
  have r3 := row_read (t := t) a3
  have c3 := fun sl up nx => t_mkIntS t 16 n.image.length [i * 16 + 3] (A ++ ((mkRow3 n k0 k1 k2) ++ B)) (cl .i64 n.image) k3 sl (upd m t (some (.row 16 (A ++ ((mkRow3 n k0 k1 k2) ++ B))))) up nx (upd_same _ _ _) (row_cell a3) cl_length (by omega) (by omega) sm.image
  rw [row_upd a3, row_set (j := 3) hA (by simp [mkRow3])] at c3
  have u3 : ((mkRow3 n k0 k1 k2)).set 3 (.sl n.image.length (mcF mfI k3 n.image.length)) = (mkRow4 n k0 k1 k2 k3) := rfl
  rw [u3, ← q3] at c3
  have a4 : (A ++ ((mkRow4 n k0 k1 k2 k3) ++ B))[i * 16 + 4]? = some (.sl n.mt.gens.length (cl .i64 n.mt.gens)) := by rw [row_at (j := 4) hA (by simp [mkRow4])]; rfl
  have r4 := row_read (t := t) a4
  have c4 := fun sl up nx => t_mkIntS t 16 n.mt.gens.length [i * 16 + 4] (A ++ ((mkRow4 n k0 k1 k2 k3) ++ B)) (cl .i64 n.mt.gens) k4 sl (upd m t (some (.row 16 (A ++ ((mkRow4 n k0 k1 k2 k3) ++ B))))) up nx (upd_same _ _ _) (row_cell a4) cl_length (by omega) (by omega) sm.gens
  rw [row_upd a4, row_set (j := 4) hA (by simp [mkRow4])] at c4
  have u4 : ((mkRow4 n k0 k1 k2 k3)).set 4 (.sl n.mt.gens.length (mcF mfI k4 n.mt.gens.length)) = (mkRow5 n k0 k1 k2 k3 k4) := rfl
  rw [u4, ← q4] at c4
  have a5 : (A ++ ((mkRow5 n k0 k1 k2 k3 k4) ++ B))[i * 16 + 5]? = some (.sl n.mt.bits.length (n.mt.bits.map intsC)) := by rw [row_at (j := 5) hA (by simp [mkRow5])]; rfl
  have r5 := row_read (t := t) a5
  have c5 := fun sl up nx => t_mkSS t 16 n.mt.bits [i * 16 + 5] (A ++ ((mkRow5 n k0 k1 k2 k3 k4) ++ B)) k5 sl (upd m t (some (.row 16 (A ++ ((mkRow5 n k0 k1 k2 k3 k4) ++ B))))) up nx (upd_same _ _ _) (row_cell a5) (by omega) (by omega) sm.bits sm.bit
  rw [row_upd a5, row_set (j := 5) hA (by simp [mkRow5])] at c5
  have u5 : ((mkRow5 n k0 k1 k2 k3 k4)).set 5 (.sl n.mt.bits.length (mkSS k5 n.mt.bits)) = (mkRow6 n k0 k1 k2 k3 k4 k5) := rfl
  rw [u5, show kSS k5 n.mt.bits = k6 by rw [q5]; rfl] at c5
  have e6 : spl [.bool (k6.tmod 3 == 0)] (i * 16 + 6) (A ++ ((mkRow6 n k0 k1 k2 k3 k4 k5) ++ B)) = A ++ ((mkRow7 n k0 k1 k2 k3 k4 k5 k6) ++ B) := row_st (j := 6) hA (by simp [mkRow6])
  have n6 : i * 16 + 6 + 1 ≤ (A ++ ((mkRow6 n k0 k1 k2 k3 k4 k5) ++ B)).length := row_len (j := 6) hA (by simp [mkRow6])
  have w6 : IntKind.i64.wrap (k6 + 1) = k7 := by rw [q6, wrap_id (by omega) (by omega)]
  have e7 : spl [.bool (k7.tmod 3 == 0)] (i * 16 + 7) (A ++ ((mkRow7 n k0 k1 k2 k3 k4 k5 k6) ++ B)) = A ++ ((mkRow8 n k0 k1 k2 k3 k4 k5 k6 k7) ++ B) := row_st (j := 7) hA (by simp [mkRow7])
  have n7 : i * 16 + 7 + 1 ≤ (A ++ ((mkRow7 n k0 k1 k2 k3 k4 k5 k6) ++ B)).length := row_len (j := 7) hA (by simp [mkRow7])
  have w7 : IntKind.i64.wrap (k7 + 1) = k8 := by rw [q7, wrap_id (by omega) (by omega)]
  have e8 : spl [.bool (k8.tmod 3 == 0)] (i * 16 + 8) (A ++ ((mkRow8 n k0 k1 k2 k3 k4 k5 k6 k7) ++ B)) = A ++ ((mkRow9 n k0 k1 k2 k3 k4 k5 k6 k7 k8) ++ B) := row_st (j := 8) hA (by simp [mkRow8])
  have n8 : i * 16 + 8 + 1 ≤ (A ++ ((mkRow8 n k0 k1 k2 k3 k4 k5 k6 k7) ++ B)).length := row_len (j := 8) hA (by simp [mkRow8])
  have w8 : IntKind.i64.wrap (k8 + 1) = k9 := by rw [q8, wrap_id (by omega) (by omega)]
  have e9 : spl [.int .i64 k9] (i * 16 + 9) (A ++ ((mkRow9 n k0 k1 k2 k3 k4 k5 k6 k7 k8) ++ B)) = A ++ ((mkRow10 n k0 k1 k2 k3 k4 k5 k6 k7 k8 k9) ++ B) := row_st (j := 9) hA (by simp [mkRow9])
  have n9 : i * 16 + 9 + 1 ≤ (A ++ ((mkRow9 n k0 k1 k2 k3 k4 k5 k6 k7 k8) ++ B)).length := row_len (j := 9) hA (by simp [mkRow9])
  have w9 : IntKind.i64.wrap (k9 + 1) = k10 := by rw [q9, wrap_id (by omega) (by omega)]
  have a10 : (A ++ ((mkRow10 n k0 k1 k2 k3 k4 k5 k6 k7 k8 k9) ++ B))[i * 16 + 10]? = some (.sl n.sa.length (cl .u8 n.sa)) := by rw [row_at (j := 10) hA (by simp [mkRow10])]; rfl
  have r10 := row_read (t := t) a10
  have c10 := fun sl up nx => t_mkByteS t 16 n.sa.length [i * 16 + 10] (A ++ ((mkRow10 n k0 k1 k2 k3 k4 k5 k6 k7 k8 k9) ++ B)) (cl .u8 n.sa) k10 sl (upd m t (some (.row 16 (A ++ ((mkRow10 n k0 k1 k2 k3 k4 k5 k6 k7 k8 k9) ++ B))))) up nx (upd_same _ _ _) (row_cell a10) cl_length (by omega) (by omega) sm.sa
  rw [row_upd a10, row_set (j := 10) hA (by simp [mkRow10])] at c10
  have u10 : ((mkRow10 n k0 k1 k2 k3 k4 k5 k6 k7 k8 k9)).set 10 (.sl n.sa.length (mcF mfU k10 n.sa.length)) = (mkRow11 n k0 k1 k2 k3 k4 k5 k6 k7 k8 k9 k10) := rfl
  rw [u10, ← q10] at c10
  have a11 : (A ++ ((mkRow11 n k0 k1 k2 k3 k4 k5 k6 k7 k8 k9 k10) ++ B))[i * 16 + 11]? = some (.sl n.sb.length (cl .u8 n.sb)) := by rw [row_at (j := 11) hA (by simp [mkRow11])]; rfl
  have r11 := row_read (t := t) a11
  have c11 := fun sl up nx => t_mkByteS t 16 n.sb.length [i * 16 + 11] (A ++ ((mkRow11 n k0 k1 k2 k3 k4 k5 k6 k7 k8 k9 k10) ++ B)) (cl .u8 n.sb) k11 sl (upd m t (some (.row 16 (A ++ ((mkRow11 n k0 k1 k2 k3 k4 k5 k6 k7 k8 k9 k10) ++ B))))) up nx (upd_same _ _ _) (row_cell a11) cl_length (by omega) (by omega) sm.sb
  rw [row_upd a11, row_set (j := 11) hA (by simp [mkRow11])] at c11
  have u11 : ((mkRow11 n k0 k1 k2 k3 k4 k5 k6 k7 k8 k9 k10)).set 11 (.sl n.sb.length (mcF mfU k11 n.sb.length)) = (mkRow12 n k0 k1 k2 k3 k4 k5 k6 k7 k8 k9 k10 k11) := rfl
  rw [u11, ← q11] at c11
  have a12 : (A ++ ((mkRow12 n k0 k1 k2 k3 k4 k5 k6 k7 k8 k9 k10 k11) ++ B))[i * 16 + 12]? = some (.sl n.conn.length (cb n.conn)) := by rw [row_at (j := 12) hA (by simp [mkRow12])]; rfl
  have r12 := row_read (t := t) a12
  have c12 := fun sl up nx => t_mkBoolS t 16 n.conn.length [i * 16 + 12] (A ++ ((mkRow12 n k0 k1 k2 k3 k4 k5 k6 k7 k8 k9 k10 k11) ++ B)) (cb n.conn) k12 sl (upd m t (some (.row 16 (A ++ ((mkRow12 n k0 k1 k2 k3 k4 k5 k6 k7 k8 k9 k10 k11) ++ B))))) up nx (upd_same _ _ _) (row_cell a12) (by simp [cb]) (by omega) (by omega) sm.conn
  rw [row_upd a12, row_set (j := 12) hA (by simp [mkRow12])] at c12
  have u12 : ((mkRow12 n k0 k1 k2 k3 k4 k5 k6 k7 k8 k9 k10 k11)).set 12 (.sl n.conn.length (mcF mfB k12 n.conn.length)) = (mkRow13 n k0 k1 k2 k3 k4 k5 k6 k7 k8 k9 k10 k11 k12) := rfl
  rw [u12, ← q12] at c12
  have a13 : (A ++ ((mkRow13 n k0 k1 k2 k3 k4 k5 k6 k7 k8 k9 k10 k11 k12) ++ B))[i * 16 + 13]? = some (.sl n.sync.length (n.sync.map intsC)) := by rw [row_at (j := 13) hA (by simp [mkRow13])]; rfl
  have r13 := row_read (t := t) a13
  have c13 := fun sl up nx => t_mkSS t 16 n.sync [i * 16 + 13] (A ++ ((mkRow13 n k0 k1 k2 k3 k4 k5 k6 k7 k8 k9 k10 k11 k12) ++ B)) k13 sl (upd m t (some (.row 16 (A ++ ((mkRow13 n k0 k1 k2 k3 k4 k5 k6 k7 k8 k9 k10 k11 k12) ++ B))))) up nx (upd_same _ _ _) (row_cell a13) (by omega) (by omega) sm.sync sm.syn
  rw [row_upd a13, row_set (j := 13) hA (by simp [mkRow13])] at c13
  have u13 : ((mkRow13 n k0 k1 k2 k3 k4 k5 k6 k7 k8 k9 k10 k11 k12)).set 13 (.sl n.sync.length (mkSS k13 n.sync)) = (mkRow14 n k0 k1 k2 k3 k4 k5 k6 k7 k8 k9 k10 k11 k12 k13) := rfl
  rw [u13, show kSS k13 n.sync = k14 by rw [q13]; rfl] at c13
  have a14 : (A ++ ((mkRow14 n k0 k1 k2 k3 k4 k5 k6 k7 k8 k9 k10 k11 k12 k13) ++ B))[i * 16 + 14]? = some (.sl n.copies.length (cb n.copies)) := by rw [row_at (j := 14) hA (by simp [mkRow14])]; rfl
  have r14 := row_read (t := t) a14
  have c14 := fun sl up nx => t_mkBoolS t 16 n.copies.length [i * 16 + 14] (A ++ ((mkRow14 n k0 k1 k2 k3 k4 k5 k6 k7 k8 k9 k10 k11 k12 k13) ++ B)) (cb n.copies) k14 sl (upd m t (some (.row 16 (A ++ ((mkRow14 n k0 k1 k2 k3 k4 k5 k6 k7 k8 k9 k10 k11 k12 k13) ++ B))))) up nx (upd_same _ _ _) (row_cell a14) (by simp [cb]) (by omega) (by omega) sm.copies
  rw [row_upd a14, row_set (j := 14) hA (by simp [mkRow14])] at c14
  have u14 : ((mkRow14 n k0 k1 k2 k3 k4 k5 k6 k7 k8 k9 k10 k11 k12 k13)).set 14 (.sl n.copies.length (mcF mfB k14 n.copies.length)) = (mkRow15 n k0 k1 k2 k3 k4 k5 k6 k7 k8 k9 k10 k11 k12 k13 k14) := rfl
  rw [u14, ← q14] at c14
  have a15 : (A ++ ((mkRow15 n k0 k1 k2 k3 k4 k5 k6 k7 k8 k9 k10 k11 k12 k13 k14) ++ B))[i * 16 + 15]? = some (.sl n.wait.length (cl .i64 n.wait)) := by rw [row_at (j := 15) hA (by simp [mkRow15])]; rfl
  have r15 := row_read (t := t) a15
  have c15 := fun sl up nx => t_mkIntS t 16 n.wait.length [i * 16 + 15] (A ++ ((mkRow15 n k0 k1 k2 k3 k4 k5 k6 k7 k8 k9 k10 k11 k12 k13 k14) ++ B)) (cl .i64 n.wait) k15 sl (upd m t (some (.row 16 (A ++ ((mkRow15 n k0 k1 k2 k3 k4 k5 k6 k7 k8 k9 k10 k11 k12 k13 k14) ++ B))))) up nx (upd_same _ _ _) (row_cell a15) cl_length (by omega) (by omega) sm.wait
  rw [row_upd a15, row_set (j := 15) hA (by simp [mkRow15])] at c15
  have u15 : ((mkRow15 n k0 k1 k2 k3 k4 k5 k6 k7 k8 k9 k10 k11 k12 k13 k14)).set 15 (.sl n.wait.length (mcF mfI k15 n.wait.length)) = (mkRow16 n k0 k1 k2 k3 k4 k5 k6 k7 k8 k9 k10 k11 k12 k13 k14 k15) := rfl
  rw [u15, ← q15] at c15
  generalize A ++ ((mkRow0 n) ++ B) = R0 at *
  generalize A ++ ((mkRow1 n k0) ++ B) = R1 at *
  generalize A ++ ((mkRow2 n k0 k1) ++ B) = R2 at *
  generalize A ++ ((mkRow3 n k0 k1 k2) ++ B) = R3 at *
  generalize A ++ ((mkRow4 n k0 k1 k2 k3) ++ B) = R4 at *
  generalize A ++ ((mkRow5 n k0 k1 k2 k3 k4) ++ B) = R5 at *
  generalize A ++ ((mkRow6 n k0 k1 k2 k3 k4 k5) ++ B) = R6 at *
  generalize A ++ ((mkRow7 n k0 k1 k2 k3 k4 k5 k6) ++ B) = R7 at *
  generalize A ++ ((mkRow8 n k0 k1 k2 k3 k4 k5 k6 k7) ++ B) = R8 at *
  generalize A ++ ((mkRow9 n k0 k1 k2 k3 k4 k5 k6 k7 k8) ++ B) = R9 at *
  generalize A ++ ((mkRow10 n k0 k1 k2 k3 k4 k5 k6 k7 k8 k9) ++ B) = R10 at *
  generalize A ++ ((mkRow11 n k0 k1 k2 k3 k4 k5 k6 k7 k8 k9 k10) ++ B) = R11 at *
  generalize A ++ ((mkRow12 n k0 k1 k2 k3 k4 k5 k6 k7 k8 k9 k10 k11) ++ B) = R12 at *
  generalize A ++ ((mkRow13 n k0 k1 k2 k3 k4 k5 k6 k7 k8 k9 k10 k11 k12) ++ B) = R13 at *
  generalize A ++ ((mkRow14 n k0 k1 k2 k3 k4 k5 k6 k7 k8 k9 k10 k11 k12 k13) ++ B) = R14 at *
  generalize A ++ ((mkRow15 n k0 k1 k2 k3 k4 k5 k6 k7 k8 k9 k10 k11 k12 k13 k14) ++ B) = R15 at *
  generalize A ++ ((mkRow16 n k0 k1 k2 k3 k4 k5 k6 k7 k8 k9 k10 k11 k12 k13 k14 k15) ++ B) = R16 at *
  clear a3 a4 a5 a10 a11 a12 a13 a14 a15 u3 u4 u5 u10 u11 u12 u13 u14 u15 q0 q1 q2 q3 q4 q5 q6 q7 q8 q9 q10 q11 q12 q13 q14 q15
  simp (maxSteps := 4000000) -implicitDefEqProofs [b46_0, x_seq, x_cond, x_block, x_region, x_skip, x_exit, x_ret, head_id, runG, runOps, doOp, wantB, stepOp, AO.eff, pureOp, St.get, St.one, St.num, St.put, St.optNum, binA, binInt, List.take, List.drop, effOp2, effOp, memL_app, getAll, stoRow, toCells, toCell, scalar_int, scalar_bool, cellsAt, updAt, upd_same, upd_upd, h1, h4, hi, e0, n0, w0, e1, n1, w1, e2, n2, w2, r3, c3, r4, c4, r5, c5, e6, n6, w6, e7, n7, w7, e8, n8, w8, e9, n9, w9, r10, c10, r11, c11, r12, c12, r13, c13, r14, c14, r15, c15, -Int.natCast_add]
  change _ = _
  kernel_rfl
def S_mkN (t : Nat) (l : List PNode) (k : Int) (m : Mem) (up : List SV) (nx : Nat) (i : Nat) : XS := ⟨⟨[.v false [.sl t [] 0 l.length], .v false [.int .i64 ((kL cN k (l.take i)))], .bad, .bad, .bad, .v false [.int .i64 (i)], .bad, .bad, .bad, .bad, .bad, .bad, .bad, .bad, .bad, .bad, .bad, .bad, .bad, .bad, .bad, .bad, .bad, .bad, .bad, .bad, .bad, .bad, .bad, .bad, .bad, .bad, .bad, .bad, .bad, .bad, .bad, .bad, .bad, .bad, .bad, .bad, .bad, .bad, .bad, .bad, .bad, .bad, .bad, .bad, .bad, .bad, .bad, .bad, .bad, .bad, .bad, .bad, .bad, .bad, .bad, .bad, .bad, .bad, .bad, .bad, .bad, .bad, .bad, .bad, .bad, .bad, .bad, .bad, .bad, .bad, .bad, .bad, .bad, .bad, .bad, .bad, .bad, .bad, .bad, .bad, .bad, .bad, .bad, .bad, .bad, .bad, .bad, .bad, .bad, .bad, .bad, .bad, .bad, .bad, .bad, .bad, .bad, .bad, .bad, .bad, .bad, .bad, .bad, .bad, .bad, .bad, .bad, .bad, .bad, .bad, .bad, .bad, .bad, .bad, .bad, .bad, .bad, .bad, .bad, .bad, .bad, .bad, .bad, .bad, .bad, .bad, .bad, .bad, .bad, .bad, .bad, .bad, .bad, .bad, .bad, .bad, .bad], upd m t (some (.row 16 (mid mkN cN nodeC k l i))), up⟩, nx⟩
def Z_mkN (t : Nat) (l : List PNode) (k : Int) (m : Mem) (up : List SV) (nx : Nat) : XS := ⟨⟨[.bad, .v false [.int .i64 ((kL cN k l))], .bad, .bad, .bad, .bad, .bad, .bad, .bad, .bad, .bad, .bad, .bad, .bad, .bad, .bad, .bad, .bad, .bad, .bad, .bad, .bad, .bad, .bad, .bad, .bad, .bad, .bad, .bad, .bad, .bad, .bad, .bad, .bad, .bad, .bad, .bad, .bad, .bad, .bad, .bad, .bad, .bad, .bad, .bad, .bad, .bad, .bad, .bad, .bad, .bad, .bad, .bad, .bad, .bad, .bad, .bad, .bad, .bad, .bad, .bad, .bad, .bad, .bad, .bad, .bad, .bad, .bad, .bad, .bad, .bad, .bad, .bad, .bad, .bad, .bad, .bad, .bad, .bad, .bad, .bad, .bad, .bad, .bad, .bad, .bad, .bad, .bad, .bad, .bad, .bad, .bad, .bad, .bad, .bad, .bad, .bad, .bad, .bad, .bad, .bad, .bad, .bad, .bad, .bad, .bad, .bad, .bad, .bad, .bad, .bad, .bad, .bad, .bad, .bad, .bad, .bad, .bad, .bad, .bad, .bad, .bad, .bad, .bad, .bad, .bad, .bad, .bad, .bad, .bad, .bad, .bad, .bad, .bad, .bad, .bad, .bad, .bad, .bad, .bad, .bad, .bad, .bad], upd m t (some (.row 16 (mkL mkN cN k l))), up⟩, nx + 256⟩
theorem loop_mkN (t : Nat) (l : List PNode) (k : Int) (m : Mem) (up : List SV) (nx : Nat) (hk : 0 ≤ k) (hk2 : kL cN k l ≤ 1000000000) (hn : l.length ≤ 1048576) (hl : ∀ x ∈ l, SmN x) {x : XS} (hx : head false d46_0 x = S_mkN t l k m up nx 0) : X tab l46_0 x = some (.exit 0, Z_mkN t l k m up nx) := by
  refine loopF l.length (S_mkN t l k m up nx) _ (by simp) (fun i hi => ?_) ?_ (Nat.zero_le _) hx
  · obtain ⟨n, r, hd⟩ : ∃ y r, l.drop i = y :: r := ⟨_, _, List.drop_eq_getElem_cons hi⟩
    obtain ⟨A, B, hA, h0, hN, hk', hkb, hka⟩ := mid_at (mk := mkN) (c := cN) (lay := nodeC) (k := k) (z := 16) (fun _ _ => rfl) hd
    have sm := hl n (dropx_mem hd)
    have h1 : (0 ≤ (i : Int) ∧ (i : Int) < (l.length : Int)) := by omega
    have h4 : IntKind.i64.wrap ((i : Int) + 1) = ((i + 1 : Nat) : Int) := by rw [wrap_id (by omega) (by omega)]; omega
    simp only [S_mkN, hN, h0, hk']
    generalize kL cN k (l.take i) = k0 at *
    have h16 := mkN_next k0 n
    have := step_mkN t l.length i n A B m up nx k0 (kN1 k0 n) (kN2 k0 n) (kN3 k0 n) (kN4 k0 n) (kN5 k0 n) (kN6 k0 n) (kN7 k0 n) (kN8 k0 n) (kN9 k0 n) (kN10 k0 n) (kN11 k0 n) (kN12 k0 n) (kN13 k0 n) (kN14 k0 n) (kN15 k0 n) (kN16 k0 n) hA sm hi hn (by omega) (by rw [h16]; omega) rfl rfl rfl rfl rfl rfl rfl rfl rfl rfl rfl rfl rfl rfl rfl rfl
    rw [h16] at this
    exact this
  · simp only [S_mkN, mid_all, List.take_length]
    simp (maxSteps := 4000000) -implicitDefEqProofs [b46_0, x_seq, x_cond, x_block, x_region, x_skip, x_exit, x_ret, head_id, runG, runOps, doOp, wantB, stepOp, AO.eff, pureOp, St.get, St.one, St.num, St.put, St.optNum, binA, binInt, List.take, List.drop]
    change _ = _
    kernel_rfl
theorem t_mkN (t : Nat) (l : List PNode) (k : Int) (sl : List SV) (m : Mem) (up : List SV) (nx : Nat) (hm : m t = some (.row 16 (nodesC l))) (hk : 0 ≤ k) (hk2 : kL cN k l ≤ 1000000000) (hn : l.length ≤ 1048576) (hl : ∀ x ∈ l, SmN x) :
    runThru (X tab) tab 46 [.v false [.sl t [] 0 l.length], .v false [.int .i64 k]] ⟨⟨sl, m, up⟩, nx⟩ = some (.v false [.int .i64 (kL cN k l)], ⟨⟨sl, upd m t (some (.row 16 (mkL mkN cN k l))), up⟩, nx + 512⟩) := by
  unfold runThru
  simp (maxSteps := 4000000) -implicitDefEqProofs [tab46, a46, x_seq, x_cond, x_block, x_region, x_skip, x_exit, x_ret, head_id, runG, runOps, doOp, wantB, stepOp, AO.eff, pureOp, St.get, St.one, St.num, St.put, St.optNum, binA, binInt, List.take, List.drop]
  rw [loop_mkN t l k m (sl ++ up) (nx + 128) hk hk2 hn hl (by
    have e : mid mkN cN nodeC k l 0 = nodesC l := mid_zero
    simp only [S_mkN, e, kL_zero, upd_self hm, Int.ofNat_zero]
    change _ = _
    kernel_rfl)]
  simp (maxSteps := 4000000) -implicitDefEqProofs [Z_mkN, x_seq, x_cond, x_block, x_region, x_skip, x_exit, x_ret, head_id, runG, runOps, doOp, wantB, stepOp, AO.eff, pureOp, St.get, St.one, St.num, St.put, St.optNum, binA, binInt, List.take, List.drop, resOf, resSV]
end Go.Proofs.Ytbdokibepndibaa.Eng.B
