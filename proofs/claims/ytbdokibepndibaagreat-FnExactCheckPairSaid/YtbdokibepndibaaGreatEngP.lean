/- Worlds as data: what a world's cells are, and that an argument's are those of some world. -/
import Derived.Test.YtbdokibepndibaaGreatEngW
import Derived.Test.YtbdokibepndibaaGreatEng30
namespace Go.Proofs.YtbdokibepndibaaGreat.Eng
open Go.RowKit

def I64 (x : Int) : Prop := (Lit.int .i64 x).wf = true
def U8 (x : Int) : Prop := (Lit.int .u8 x).wf = true
def cb (l : List Bool) : List Cell := l.map Cell.bool
def intsC (l : List Int) : Cell := .sl l.length (cl .i64 l)
def bytesC (l : List Int) : Cell := .sl l.length (cl .u8 l)
def boolsC (l : List Bool) : Cell := .sl l.length (cb l)
def intssC (l : List (List Int)) : Cell := .sl l.length (l.map intsC)
structure PMeta where
  gens : List Int
  bits : List (List Int)
  fine : Bool
  old : Bool
  hd : Bool
  last : Int
structure PNode where
  id : Int
  up : Bool
  prime : Bool
  image : List Int
  mt : PMeta
  sa : List Int
  sb : List Int
  conn : List Bool
  sync : List (List Int)
  copies : List Bool
  wait : List Int
structure PWire where
  src : Int
  dst : Int
  bytes : List Int
structure PRec where
  cell : Int
  up : Int
structure PWorld where
  nodes : List PNode
  net : List PWire
  log : List PRec
  safe : List Int
  gen : Int
def metaC (m : PMeta) : List Cell := [intsC m.gens, intssC m.bits, .bool m.fine, .bool m.old, .bool m.hd, .int .i64 m.last]
def nodeC (n : PNode) : List Cell :=
  [.int .i64 n.id, .bool n.up, .bool n.prime, intsC n.image, intsC n.mt.gens, intssC n.mt.bits, .bool n.mt.fine, .bool n.mt.old, .bool n.mt.hd, .int .i64 n.mt.last, bytesC n.sa, bytesC n.sb, boolsC n.conn, intssC n.sync, boolsC n.copies, intsC n.wait]
def wireC (x : PWire) : List Cell := [.int .i64 x.src, .int .i64 x.dst, bytesC x.bytes]
def recC (r : PRec) : List Cell := [.int .i64 r.cell, .int .i64 r.up]
def nodesC (l : List PNode) : List Cell := l.flatMap nodeC
def wiresC (l : List PWire) : List Cell := l.flatMap wireC
def recsC (l : List PRec) : List Cell := l.flatMap recC
/-- A world that is only read, as an argument. -/
def worldA (w : PWorld) : List A1 := [.ro w.nodes.length (nodesC w.nodes), .ro w.net.length (wiresC w.net), .ro w.log.length (recsC w.log), .ro w.safe.length (cl .i64 w.safe), .int .i64 w.gen]
def WfM (m : PMeta) : Prop := (∀ x ∈ m.gens, I64 x) ∧ (∀ l ∈ m.bits, ∀ x ∈ l, I64 x) ∧ I64 m.last
def WfN (n : PNode) : Prop := I64 n.id ∧ (∀ x ∈ n.image, I64 x) ∧ WfM n.mt ∧ (∀ x ∈ n.sa, U8 x) ∧ (∀ x ∈ n.sb, U8 x) ∧ (∀ l ∈ n.sync, ∀ x ∈ l, I64 x) ∧ (∀ x ∈ n.wait, I64 x)
def WfX (x : PWire) : Prop := I64 x.src ∧ I64 x.dst ∧ ∀ y ∈ x.bytes, U8 y
def WfR (r : PRec) : Prop := I64 r.cell ∧ I64 r.up
/-- Lengths that a slice may have. -/
def Sz {α : Type} (l : List α) : Prop := l.length ≤ maxLen
def SzN (n : PNode) : Prop := Sz n.image ∧ Sz n.mt.gens ∧ Sz n.mt.bits ∧ (∀ l ∈ n.mt.bits, Sz l) ∧ Sz n.sa ∧ Sz n.sb ∧ Sz n.conn ∧ Sz n.sync ∧ (∀ l ∈ n.sync, Sz l) ∧ Sz n.copies ∧ Sz n.wait
structure WfW (w : PWorld) : Prop where
  nodes : ∀ n ∈ w.nodes, WfN n
  net : ∀ x ∈ w.net, WfX x
  log : ∀ r ∈ w.log, WfR r
  safe : ∀ x ∈ w.safe, I64 x
  gen : I64 w.gen
  sN : Sz w.nodes
  sX : Sz w.net
  sL : Sz w.log
  sS : Sz w.safe
  szN : ∀ n ∈ w.nodes, SzN n
  szX : ∀ x ∈ w.net, Sz x.bytes
def metaT : List Ty := [.sl [.int .i64], .sl [.sl [.int .i64]], .bool, .bool, .bool, .int .i64]
def nodeT : List Ty := [.int .i64, .bool, .bool, .sl [.int .i64]] ++ metaT ++ [.sl [.int .u8], .sl [.int .u8], .sl [.bool], .sl [.sl [.int .i64]], .sl [.bool], .sl [.int .i64]]
def wireT : List Ty := [.int .i64, .int .i64, .sl [.int .u8]]
def recT : List Ty := [.int .i64, .int .i64]
def worldT : List Ty := [.sl nodeT, .sl wireT, .sl recT, .sl [.int .i64], .int .i64]
section
variable {ts e : List Ty} {cs : List Cell} {k : IntKind}
theorem okc_nil (h : Okc [] cs) : cs = [] := by cases h; rfl
theorem okc_int (h : Okc (.int k :: ts) cs) : ∃ n c, cs = .int k n :: c ∧ (Lit.int k n).wf = true ∧ Okc ts c := by
  cases h with
  | int h0 h1 => exact ⟨_, _, rfl, h0, h1⟩
theorem okc_bool (h : Okc (.bool :: ts) cs) : ∃ b c, cs = .bool b :: c ∧ Okc ts c := by
  cases h with
  | bool h1 => exact ⟨_, _, rfl, h1⟩
theorem okc_sl {α : Type} {lay : α → List Cell} {p : α → Prop} (hp : ∀ c, Okc e c → ∃ x, c = lay x ∧ p x) (h : Okc (.sl e :: ts) cs) : ∃ (l : List α) (c : List Cell), cs = .sl l.length (l.flatMap lay) :: c ∧ (∀ x ∈ l, p x) ∧ Sz l ∧ Okc ts c := by
  cases h with
  | sl h0 h1 h2 =>
    obtain ⟨xs, rfl, hx⟩ := okc_all hp h1
    refine ⟨xs, _, ?_, hx, by simpa [Sz] using h0, h2⟩
    rw [List.length_map, List.flatMap_def]
theorem flat1 {α : Type} {f : α → Cell} (l : List α) : (l.flatMap fun x => [f x]) = l.map f := by
  induction l with
  | nil => rfl
  | cons x r ih => simp [List.flatMap_cons, ih]
theorem okc_ints (h : Okc (.sl [.int k] :: ts) cs) : ∃ (l : List Int) (c : List Cell), cs = .sl l.length (cl k l) :: c ∧ (∀ x ∈ l, (Lit.int k x).wf = true) ∧ Sz l ∧ Okc ts c := by
  obtain ⟨l, c, rfl, h1, h2, h3⟩ := okc_sl (lay := fun n => [Cell.int k n]) (p := fun n => (Lit.int k n).wf = true) (fun c hc => by
    obtain ⟨n, c', rfl, hn, hc'⟩ := okc_int hc
    rw [okc_nil hc']
    exact ⟨n, rfl, hn⟩) h
  exact ⟨l, c, by rw [flat1]; rfl, h1, h2, h3⟩
theorem okc_bools (h : Okc (.sl [.bool] :: ts) cs) : ∃ (l : List Bool) (c : List Cell), cs = .sl l.length (cb l) :: c ∧ Sz l ∧ Okc ts c := by
  obtain ⟨l, c, rfl, _, h2, h3⟩ := okc_sl (lay := fun n => [Cell.bool n]) (p := fun _ => True) (fun c hc => by
    obtain ⟨n, c', rfl, hc'⟩ := okc_bool hc
    rw [okc_nil hc']
    exact ⟨n, rfl, trivial⟩) h
  exact ⟨l, c, by rw [flat1]; rfl, h2, h3⟩
theorem okc_intss (h : Okc (.sl [.sl [.int .i64]] :: ts) cs) : ∃ (l : List (List Int)) (c : List Cell), cs = intssC l :: c ∧ (∀ x ∈ l, ∀ y ∈ x, I64 y) ∧ Sz l ∧ (∀ x ∈ l, Sz x) ∧ Okc ts c := by
  obtain ⟨l, c, rfl, h1, h2, h3⟩ := okc_sl (lay := fun n => [intsC n]) (p := fun n => (∀ y ∈ n, I64 y) ∧ Sz n) (fun c hc => by
    obtain ⟨n, c', rfl, hn, hz, hc'⟩ := okc_ints hc
    rw [okc_nil hc']
    exact ⟨n, rfl, hn, hz⟩) h
  exact ⟨l, c, by rw [flat1]; rfl, fun x hx => (h1 x hx).1, h2, fun x hx => (h1 x hx).2, h3⟩
theorem okc_node {c : List Cell} (h : Okc nodeT c) : ∃ n, c = nodeC n ∧ WfN n ∧ SzN n := by
  obtain ⟨id, c, rfl, w0, h1⟩ := okc_int h
  obtain ⟨up, c, rfl, h2⟩ := okc_bool h1
  obtain ⟨pr, c, rfl, h3⟩ := okc_bool h2
  obtain ⟨im, c, rfl, w1, s1, h4⟩ := okc_ints h3
  obtain ⟨ge, c, rfl, w2, s2, h5⟩ := okc_ints h4
  obtain ⟨bi, c, rfl, w3, s3, s3', h6⟩ := okc_intss h5
  obtain ⟨fi, c, rfl, h7⟩ := okc_bool h6
  obtain ⟨ol, c, rfl, h8⟩ := okc_bool h7
  obtain ⟨he, c, rfl, h9⟩ := okc_bool h8
  obtain ⟨la, c, rfl, w4, h10⟩ := okc_int h9
  obtain ⟨sa, c, rfl, w5, s5, h11⟩ := okc_ints h10
  obtain ⟨sb, c, rfl, w6, s6, h12⟩ := okc_ints h11
  obtain ⟨co, c, rfl, s7, h13⟩ := okc_bools h12
  obtain ⟨sy, c, rfl, w8, s8, s8', h14⟩ := okc_intss h13
  obtain ⟨cp, c, rfl, s9, h15⟩ := okc_bools h14
  obtain ⟨wa, c, rfl, w10, s10, h16⟩ := okc_ints h15
  rw [okc_nil h16]
  exact ⟨⟨id, up, pr, im, ⟨ge, bi, fi, ol, he, la⟩, sa, sb, co, sy, cp, wa⟩, rfl, ⟨w0, w1, ⟨w2, w3, w4⟩, w5, w6, w8, w10⟩, s1, s2, s3, s3', s5, s6, s7, s8, s8', s9, s10⟩
theorem okc_wire {c : List Cell} (h : Okc wireT c) : ∃ n, c = wireC n ∧ WfX n ∧ Sz n.bytes := by
  obtain ⟨a, c, rfl, w0, h1⟩ := okc_int h
  obtain ⟨b, c, rfl, w1, h2⟩ := okc_int h1
  obtain ⟨x, c, rfl, w2, s2, h3⟩ := okc_ints h2
  rw [okc_nil h3]
  exact ⟨⟨a, b, x⟩, rfl, ⟨w0, w1, w2⟩, s2⟩
theorem okc_rec {c : List Cell} (h : Okc recT c) : ∃ n, c = recC n ∧ WfR n := by
  obtain ⟨a, c, rfl, w0, h1⟩ := okc_int h
  obtain ⟨b, c, rfl, w1, h2⟩ := okc_int h1
  rw [okc_nil h2]
  exact ⟨⟨a, b⟩, rfl, w0, w1⟩
theorem okc_world {c : List Cell} (h : Okc worldT c) : ∃ w, c.map fromRo = worldA w ∧ WfW w := by
  obtain ⟨l0, c, rfl, w0, s0, h1⟩ := okc_sl (p := fun n => WfN n ∧ SzN n) (fun c hc => okc_node hc) h
  obtain ⟨l1, c, rfl, w1, s1, h2⟩ := okc_sl (p := fun n => WfX n ∧ Sz n.bytes) (fun c hc => okc_wire hc) h1
  obtain ⟨l2, c, rfl, w2, s2, h3⟩ := okc_sl (p := WfR) (fun c hc => okc_rec hc) h2
  obtain ⟨l3, c, rfl, w3, s3, h4⟩ := okc_ints h3
  obtain ⟨g, c, rfl, w4, h5⟩ := okc_int h4
  rw [okc_nil h5]
  exact ⟨⟨l0, l1, l2, l3, g⟩, rfl, ⟨fun n hn => (w0 n hn).1, fun n hn => (w1 n hn).1, w2, w3, w4, s0, s1, s2, s3, fun n hn => (w0 n hn).2, fun n hn => (w1 n hn).2⟩⟩
end
end Go.Proofs.YtbdokibepndibaaGreat.Eng
