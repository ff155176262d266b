/- An interpreter of the model's code over tagged trees, third part: what each operation does to a state. -/
import Derived.Test.YtbdokibepndibaaGreatEng2
namespace Go.Proofs.YtbdokibepndibaaGreat.Eng
open Go.RowKit

inductive AX where
  | s (i : Nat)
  | c (a : A1)
inductive AO where
  | mv (x : AX)
  | bin (op : BinOp) (x y : AX)
  | beq (neq : Bool) (x y : AX)
  | un (op : UnOp) (x : AX)
  | conv (k : IntKind) (x : AX)
  | b2s (x : AX)
  | i2s (x : AX)
  | pick (c a b : AX)
  | fld (off sz : Nat) (ag : Bool) (x : AX)
  | bld (zero : List A1) (parts : List (Nat × Nat × AX))
  | lit (sz : Nat) (zero : List A1) (len : Nat) (parts : List (Nat × Nat × AX))
  | lit0
  | mks (sz bytes : Nat) (zero : List A1) (n : AX)
  | slc (sz : Nat) (x : AX) (lo hi : Option AX)
  | slz (x : AX)
  | sslc (x : AX) (lo hi : Option AX)
  | idx (x i : AX)
  | aidx (len sz : Nat) (ag : Bool) (x i : AX)
  | ia (sz : Nat) (x i : AX)
  | iaa (sz len : Nat) (x i : AX)
  | fa (off : Nat) (x : AX)
  | ld (sz : Nat) (ag : Bool) (x : AX)
  | sto (sz : Nat) (x v : AX)
  | box (sz : Nat) (x : AX)
  | alc (zero : List A1)
  | nck (x : AX)
  | ext (x : AX) (i : Nat)
  | mf (f : FuncId) (caps : List AX)
  | len (x : AX)
  | slen (x : AX)
  | app (sz bytes : Nat) (x y : AX)
  | apps (x y : AX)
  | cpy (sz : Nat) (x y : AX)
  | clr (sz : Nat) (zero : List A1) (x : AX)
  | mm (mx : Bool) (x y : AX)
  | call (f : FuncId) (args : List (AX × List Nat))
  | thru (f : FuncId) (args : List AX)
  | callv (x : AX) (args : List AX)
  | lend (f : FuncId) (x : AX) (args : List (AX × List Nat))
  | ins (f : FuncId) (x i v : AX)
  | grw (f : FuncId) (x n : AX)
  | rvs (f : FuncId) (x : AX)
  | apx (sz bytes : Nat) (x y : AX)
  | litr (sz : Nat) (zero : List A1) (len : Nat) (parts : List (Nat × Nat × AX))
  | bxr (sz : Nat) (x : AX)
  | apm (sz bytes : Nat) (zero : List A1) (x n : AX)
structure AOp where
  dst : Option Nat
  guard : Option (Nat × Bool)
  act : AO

def St.get (s : St) : AX → Option SV
  | .s i => s.slots[i]?
  | .c a => some (.v false [a])
def St.one (s : St) (x : AX) : Option A1 :=
  match s.get x with
  | some (.v false [a]) => some a
  | _ => none
def St.num (s : St) (x : AX) : Option Int :=
  match s.one x with
  | some (.int _ n) => some n
  | _ => none

abbrev Mem := Nat → Option Ob
abbrev Res := SV × Mem × Option (A1 → A1)
def upd (m : Mem) (t : Nat) (x : Option Ob) : Mem := fun k => if k = t then x else m k

def binInt (op : BinOp) (k : IntKind) (a b : Int) : Option A1 :=
  match op with
  | .add => some (.int k (k.wrap (a + b)))
  | .sub => some (.int k (k.wrap (a - b)))
  | .mul => some (.int k (k.wrap (a * b)))
  | .quo => if b = 0 then none else some (.int k (k.wrap (a.tdiv b)))
  | .rem => if b = 0 then none else some (.int k (a.tmod b))
  | .and => some (.int k (k.wrap (BitVec.ofInt k.bits a &&& BitVec.ofInt k.bits b).toNat))
  | .or => some (.int k (k.wrap (BitVec.ofInt k.bits a ||| BitVec.ofInt k.bits b).toNat))
  | .xor => some (.int k (k.wrap (BitVec.ofInt k.bits a ^^^ BitVec.ofInt k.bits b).toNat))
  | .eql => some (.bool (a == b))
  | .neq => some (.bool (a != b))
  | .lss => some (.bool (a < b))
  | .leq => some (.bool (a ≤ b))
  | .gtr => some (.bool (a > b))
  | .geq => some (.bool (a ≥ b))
  | _ => none
def binStr (op : BinOp) (x y : ByteArray) : Option A1 :=
  match op with
  | .add => if x.size + y.size ≤ 9223372036854775807 then some (.str (x ++ y)) else none
  | .eql => some (.bool (x.toList == y.toList))
  | .neq => some (.bool !(x.toList == y.toList))
  | .lss => some (.bool (Op.bytesLess x.toList y.toList))
  | .geq => some (.bool !(Op.bytesLess x.toList y.toList))
  | _ => none
def binA (op : BinOp) : A1 → A1 → Option A1
  | .int k a, .int k' b =>
    match op with
    | .shl => if b < 0 then none else some (.int k (k.wrap (a * 2 ^ min b.toNat k.bits)))
    | .shr => if b < 0 then none else some (.int k (a.fdiv (2 ^ min b.toNat k.bits)))
    | _ => if k = k' then binInt op k a b else none
  | .str a, .str b => binStr op a b
  | _, _ => none

def Cell.flat : Cell → Bool
  | .sl _ _ => false
  | _ => true
def fromOwn (t : Nat) (p : List Nat) (i : Nat) : Cell → A1
  | .int k n => .int k n
  | .bool b => .bool b
  | .str s => .str s
  | .sl n _ => .sl t (p ++ [i]) 0 n
def fromRo : Cell → A1
  | .int k n => .int k n
  | .bool b => .bool b
  | .str s => .str s
  | .sl n ns => .ro n ns
def readOwn (t : Nat) (p : List Nat) (ns : List Cell) : Nat → Nat → Option (List A1)
  | _, 0 => some []
  | off, k + 1 =>
    match ns[off]? with
    | some c => (readOwn t p ns (off + 1) k).map (fromOwn t p off c :: ·)
    | none => none

/-- What a cell takes of a value; a row of the call's own that goes into it is its own no more. -/
def toCell (m : Mem) : A1 → Option (Cell × Option Nat)
  | .int k n => some (.int k n, none)
  | .bool b => some (.bool b, none)
  | .str s => some (.str s, none)
  | .nil => some (.sl 0 [], none)
  | .ro n [] => if n = 0 then some (.sl 0 [], none) else none
  | .sl t [] off n =>
    match m t with
    | some (.row _ cs) => some (.sl n (cs.drop off), some t)
    | _ => none
  | _ => none
def toCells (m : Mem) : List A1 → Option (List Cell × Mem × List Nat)
  | [] => some ([], m, [])
  | a :: r =>
    match toCell m a with
    | some (c, none) => (toCells m r).map fun x => (c :: x.1, x.2.1, x.2.2)
    | some (c, some t) => (toCells (upd m t none) r).map fun x => (c :: x.1, x.2.1, t :: x.2.2)
    | none => none
/-- Cells of a row that is only to be read. -/
def roCells : List A1 → Option (List Cell)
  | [] => some []
  | a :: r =>
    match (match a with
      | .int k n => some (Cell.int k n)
      | .bool b => some (.bool b)
      | .str s => some (.str s)
      | .nil => some (.sl 0 [])
      | .ro n cs => some (.sl n cs)
      | _ => none), roCells r with
    | some c, some cs => some (c :: cs)
    | _, _ => none
def kill (ts : List Nat) : A1 → A1
  | .sl t p off n => if ts.contains t then .bad else .sl t p off n
  | .pr t p off => if ts.contains t then .bad else .pr t p off
  | .fn f caps => if caps.any ts.contains then .bad else .fn f caps
  | a => a
def Ob.map (f : A1 → A1) : Ob → Ob
  | .row sz cs => .row sz cs
  | .box as_ => .box (as_.map f)
def SV.map (f : A1 → A1) : SV → SV
  | .v ag as_ => .v ag (as_.map f)
  | .tup vs => .tup (vs.map fun p => (p.1, p.2.map f))
  | .bad => .bad
def mapMem (f : A1 → A1) (m : Mem) : Mem := fun k => (m k).map (Ob.map f)

/-- A state with a new row or variable. -/
def newOb (m : Mem) (d : Nat) (x : Ob) (v : SV) (ts : List Nat) : Option Res :=
  match m d with
  | some _ => none
  | none => match ts with
    | [] => some (v, upd m d (some x), none)
    | ts => some (v, upd (mapMem (kill ts) m) d (some (x.map (kill ts))), some (kill ts))

def fillA (zero : List A1) : List (Nat × List A1) → List A1
  | [] => zero
  | (off, as_) :: r => fillA (zero.take off ++ as_ ++ zero.drop (off + as_.length)) r
def St.parts (s : St) : List (Nat × Nat × AX) → Option (List (Nat × List A1))
  | [] => some []
  | (off, sz, x) :: r =>
    match s.get x with
    | some (.v _ as_) => if as_.length = sz then (s.parts r).map ((off, as_) :: ·) else none
    | _ => none
def inB (n : Nat) : List (Nat × List A1) → Bool
  | [] => true
  | (off, as_) :: r => decide (off + as_.length ≤ n) && inB n r
def reps : Nat → List A1 → List A1
  | 0, _ => []
  | n + 1, z => z ++ reps n z

/-- The cells that a slice shows: how many elements, and their cells. -/
def srcCells (m : Mem) (sz : Nat) : A1 → Option (Nat × List Cell)
  | .nil => some (0, [])
  | .ro n cs => if n * sz ≤ cs.length then some (n, cs.take (n * sz)) else none
  | .rx n cs => if n * sz ≤ cs.length then some (n, cs.take (n * sz)) else none
  | .sl t p off n =>
    match m t with
    | some (.row _ cs) => match cellsAt cs p with
      | some ns => if off + n * sz ≤ ns.length then some (n, (ns.drop off).take (n * sz)) else none
      | none => none
    | _ => none
  | _ => none
def numsOfCells : List Cell → Option (List Int)
  | [] => some []
  | .int .u8 n :: r => (numsOfCells r).map (n :: ·)
  | _ => none
end Go.Proofs.YtbdokibepndibaaGreat.Eng
