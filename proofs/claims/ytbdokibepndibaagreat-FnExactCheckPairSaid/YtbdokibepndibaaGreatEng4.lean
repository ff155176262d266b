/- An interpreter of the model's code over tagged trees, fourth part: operations that turn no memory. -/
import Derived.Test.YtbdokibepndibaaGreatEng3
import Derived.Laws.Cells
import Derived.Laws.Entries
import Derived.Laws.BytesArg
import Derived.Laws.BytesString
namespace Go.Proofs.YtbdokibepndibaaGreat.Eng
open Go.RowKit

def St.optNum (s : St) : Option AX → Option (Option Int)
  | none => some none
  | some x => (s.num x).map some
def cutB (n : Nat) (lo hi : Option Int) : Option (Nat × Nat) :=
  let h := hi.getD n
  let l := lo.getD 0
  if 0 ≤ l ∧ l ≤ h ∧ h ≤ n then some (l.toNat, h.toNat) else none

def szOk (m : Mem) (t : Nat) (p : List Nat) (sz : Nat) : Bool :=
  match p with
  | [] =>
    match m t with
    | some (.row z _) => z == sz
    | _ => false
  | _ => true
def boxOf (m : Mem) : Option A1 → Option Nat
  | some (.pr t [] 0) =>
    match m t with
    | some (.box _) => some t
    | _ => none
  | _ => none
def St.boxes (s : St) : List AX → Option (List Nat)
  | [] => some []
  | x :: r =>
    match boxOf s.mem (s.one x) with
    | some t => (s.boxes r).map (t :: ·)
    | none => none

def pureOp (s : St) : AO → Option SV
  | .mv x => s.get x
  | .bin op x y =>
    match s.one x, s.one y with
    | some a, some b => (binA op a b).map fun r => .v false [r]
    | _, _ => none
  | .beq neq x y =>
    match s.one x, s.one y with
    | some (.bool a), some (.bool b) => some (.v false [.bool (if neq then a != b else a == b)])
    | _, _ => none
  | .un .not x =>
    match s.one x with
    | some (.bool b) => some (.v false [.bool !b])
    | _ => none
  | .un .neg x =>
    match s.one x with
    | some (.int k n) => some (.v false [.int k (k.wrap (0 - n))])
    | _ => none
  | .un _ _ => none
  | .conv k x => (s.num x).map fun n => .v false [.int k (k.wrap n)]
  | .i2s x => (s.num x).map fun n => .v false [.str (Utf8.encode n)]
  | .b2s x =>
    match s.one x with
    | some a => match srcCells s.mem 1 a with
      | some (_, cs) => (numsOfCells cs).map fun l => .v false [.str (strOfNums l)]
      | none => none
    | none => none
  | .pick c a b =>
    match s.one c with
    | some (.bool t) => if t then s.get a else s.get b
    | _ => none
  | .fld off sz ag x =>
    match s.get x with
    | some (.v true as_) => if off + sz ≤ as_.length then some (.v ag ((as_.drop off).take sz)) else none
    | _ => none
  | .bld zero parts => (s.parts parts).bind fun ps => if inB zero.length ps = true then some (.v true (fillA zero ps)) else none
  | .slc sz x lo hi =>
    match s.one x, s.optNum lo, s.optNum hi with
    | some (.sl t p off n), some lo, some hi => if szOk s.mem t p sz then (cutB n lo hi).map fun b => .v false [.sl t p (off + b.1 * sz) (b.2 - b.1)] else none
    | some (.ro n cs), some lo, some hi => (cutB n lo hi).map fun b => .v false [.ro (b.2 - b.1) ((cs.drop (b.1 * sz)).take ((b.2 - b.1) * sz))]
    | some .nil, some lo, some hi => (cutB 0 lo hi).map fun _ => .v false [.nil]
    | _, _, _ => none
  | .slz x =>
    match s.one x with
    | some (.sl _ _ _ _) => some (.v false [.nil])
    | some (.ro _ _) => some (.v false [.nil])
    | some .nil => some (.v false [.nil])
    | _ => none
  | .sslc x lo hi =>
    match s.one x, s.optNum lo, s.optNum hi with
    | some (.str b), some lo, some hi => (cutB b.size lo hi).map fun c => .v false [.str (b.extract c.1 c.2)]
    | _, _, _ => none
  | .idx x i =>
    match s.one x, s.num i with
    | some (.str b), some i => if 0 ≤ i then (b[i.toNat]?).map fun c => .v false [.int .u8 c.toNat] else none
    | _, _ => none
  | .aidx len sz ag x i =>
    match s.get x, s.num i with
    | some (.v true as_), some i => if 0 ≤ i ∧ i < len ∧ i.toNat * sz + sz ≤ as_.length then some (.v ag ((as_.drop (i.toNat * sz)).take sz)) else none
    | _, _ => none
  | .ia sz x i =>
    match s.one x, s.num i with
    | some (.sl t p off n), some i => if 0 ≤ i ∧ i < n then some (.v false [.pr t p (off + i.toNat * sz)]) else none
    | some (.ro n cs), some i => if 0 ≤ i ∧ i < n then some (.v false [.pc (cs.drop (i.toNat * sz))]) else none
    | _, _ => none
  | .iaa sz len x i =>
    match s.one x, s.num i with
    | some (.pr t p off), some i => if 0 ≤ i ∧ i < len then some (.v false [.pr t p (off + i.toNat * sz)]) else none
    | _, _ => none
  | .fa off x =>
    match s.one x with
    | some (.pr t p o) => some (.v false [.pr t p (o + off)])
    | some (.pc cs) => some (.v false [.pc (cs.drop off)])
    | _ => none
  | .ld sz ag x =>
    match s.one x with
    | some (.pr t p off) => match s.mem t with
      | some (.row _ cs) => match cellsAt cs p with
        | some ns => (readOwn t p ns off sz).map fun as_ => .v ag as_
        | none => none
      | some (.box as_) => if p.isEmpty ∧ off + sz ≤ as_.length then some (.v ag ((as_.drop off).take sz)) else none
      | none => none
    | some (.pc cs) => if sz ≤ cs.length then some (.v ag ((cs.take sz).map fromRo)) else none
    | _ => none
  | .nck x =>
    match s.one x with
    | some (.pr t p o) => some (.v false [.pr t p o])
    | _ => none
  | .ext x i =>
    match s.get x with
    | some (.tup vs) => (vs[i]?).map fun p => .v p.1 p.2
    | _ => none
  | .mf f caps =>
    (s.boxes caps).map fun ts => .v false [.fn f ts]
  | .len x =>
    match s.one x with
    | some (.sl _ _ _ n) => some (.v false [.int .i64 n])
    | some (.ro n _) => some (.v false [.int .i64 n])
    | some .nil => some (.v false [.int .i64 0])
    | _ => none
  | .slen x =>
    match s.one x with
    | some (.str b) => some (.v false [.int .i64 b.size])
    | _ => none
  | .mm mx x y =>
    match s.one x, s.one y with
    | some (.int k a), some (.int k' b) => if k = k' then some (.v false [.int k (if mx then (if b > a then b else a) else (if b < a then b else a))]) else none
    | _, _ => none
  | _ => none

def constB : Value → A1 → Bool
  | .int k n, .int k' n' => k == k' && n == n'
  | .bool b, .bool b' => b == b'
  | .string s, .str s' => decide (s = s')
  | .slice none 0 0, .nil => true
  | .pointer none, .bad => true
  | _, _ => false
def axB : Operand → AX → Bool
  | .tmp t, .s i => t == i
  | .const v, .c a => constB v a
  | .func f, .c (.fn g []) => f == g
  | _, _ => false

section
variable {F : Own} {w0 : World} {G : Gh} {s : St} {a : Act} {w : World}
theorem constB_rel {v : Value} {x : A1} (h : constB v x = true) : A1Rel G s.mem w x v := by
  unfold constB at h
  split at h
  · simp at h; obtain ⟨rfl, rfl⟩ := h; rfl
  · simp at h; subst h; rfl
  · simp at h; subst h; rfl
  · exact ⟨none, rfl⟩
  · rfl
  · cases h
theorem eval_get (h : Rel F w0 G s a w) {x : Operand} {y : AX} (hx : axB x y = true) {v : SV} (hv : s.get y = some v) : SRel G s.mem w v (a.eval x) := by
  unfold axB at hx
  split at hx
  · simp at hx
    subst hx
    simp only [St.get] at hv
    obtain ⟨b, hb, hr⟩ := h.slots.nth hv
    simp only [Act.eval, Array.getD_eq_getD_getElem?]
    rw [← Array.getElem?_toList, hb]
    exact hr
  · simp only [St.get, Option.some.injEq] at hv
    subst hv
    exact ⟨_, rfl, constB_rel hx⟩
  · simp at hx
    subst hx
    simp only [St.get, Option.some.injEq] at hv
    subst hv
    exact ⟨_, rfl, rfl, by simp⟩
  · cases hx
theorem eval_one (h : Rel F w0 G s a w) {x : Operand} {y : AX} (hx : axB x y = true) {v : A1} (hv : s.one y = some v) : A1Rel G s.mem w v (a.eval x) := by
  unfold St.one at hv
  split at hv
  · cases hv
    obtain ⟨b, hb, hr⟩ := eval_get h hx ‹_›
    cases hb
    exact hr
  · cases hv
theorem eval_num (h : Rel F w0 G s a w) {x : Operand} {y : AX} (hx : axB x y = true) {n : Int} (hv : s.num y = some n) : ∃ k, a.eval x = .int k n := by
  unfold St.num at hv
  split at hv
  · rename_i k n hh
    cases hv
    exact ⟨k, eval_one h hx hh⟩
  · cases hv
end
end Go.Proofs.YtbdokibepndibaaGreat.Eng
