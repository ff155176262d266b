/- An interpreter of the model's code over tagged trees, thirtieth part: rows of numbers. -/
import Derived.Test.YtbdokibepndibaaGreatEng29
namespace Go.Proofs.YtbdokibepndibaaGreat.Eng
open Go.RowKit

/-- A row of numbers. -/
def cl (k : IntKind) (l : List Int) : List Cell := l.map (Cell.int k)
section
variable {k : IntKind} {l r : List Int} {x : Int} {i n : Nat} {m : Mem}
theorem cl_length : (cl k l).length = l.length := by simp [cl]
theorem cl_nil : cl k [] = [] := rfl
theorem cl_cons : cl k (x :: l) = .int k x :: cl k l := rfl
theorem cl_app : cl k l ++ cl k r = cl k (l ++ r) := by simp [cl]
theorem cl_app1 : cl k l ++ [.int k x] = cl k (l ++ [x]) := by simp [cl]
theorem cl_take : (cl k l).take n = cl k (l.take n) := by simp [cl, List.map_take]
theorem cl_drop : (cl k l).drop n = cl k (l.drop n) := by simp [cl, List.map_drop]
theorem cl_self : (cl k l).take l.length = cl k l := by rw [cl_take, List.take_length]
theorem cl_flat : (cl k l).all Cell.flat = true := by simp [cl, Cell.flat]
theorem cl_flat' : (∀ y, y ∈ cl k l → y.flat = true) ↔ True := by simp [cl, Cell.flat]
theorem flat_int {n : Int} : (Cell.int k n).flat = true := rfl
theorem scalar_int {n : Int} : (A1.int k n).scalar = true := rfl
theorem scalar_bool {b : Bool} : (A1.bool b).scalar = true := rfl
theorem scalar_str {b : ByteArray} : (A1.str b).scalar = true := rfl
theorem scalar_sl {t o : Nat} {p : List Nat} : (A1.sl t p o n).scalar = false := rfl
theorem cells_ints : ∀ (l : List Int), toCells m (l.map (A1.int k)) = some (cl k l, m, []) := by
  intro l
  induction l with
  | nil => rfl
  | cons x r ih => simp only [List.map_cons, toCells, toCell, ih, cl_cons]; rfl
theorem fromRo_cl (l : List Int) : (cl k l).map fromRo = l.map (A1.int k) := by simp [cl, fromRo]
theorem scalar_ints (l : List Int) : (∀ x, x ∈ l.map (A1.int k) → x.scalar = true) ↔ True := by simp [A1.scalar]
theorem take_ints (l : List Int) : (l.map (A1.int k)).take l.length = l.map (A1.int k) := by rw [List.take_of_length_le]; simp
theorem cl_ex : ¬ ∃ y, y ∈ cl k l ∧ y.flat = false := by simp [cl, Cell.flat]
theorem cl_at (h : l.drop i = x :: r) : (cl k l).drop i = .int k x :: (cl k l).drop (i + 1) := by
  have h2 : l.drop (i + 1) = r := by rw [← List.tail_drop, h]; rfl
  rw [cl_drop, cl_drop, h, h2]
  rfl
theorem drop_lt (h : l.drop i = x :: r) : i < l.length := by
  rcases Nat.lt_or_ge i l.length with h1 | h1
  · exact h1
  · rw [List.drop_eq_nil_of_le h1] at h; cases h
theorem drop_next (h : l.drop i = x :: r) : l.drop (i + 1) = r := by rw [← List.tail_drop, h]; rfl
theorem drop_end (h : l.drop i = []) (hi : i ≤ l.length) : i = l.length := by
  have := congrArg List.length h
  simp at this
  omega
theorem cl_nums : numsOfCells (cl .u8 l) = some l := by
  induction l with
  | nil => rfl
  | cons x r ih => rw [cl_cons]; simp only [numsOfCells]; rw [ih]; rfl
theorem cl_numsA (a : List Int) (h : cl k a = cl k l) : a = l := by
  induction a generalizing l with
  | nil => cases l with
    | nil => rfl
    | cons _ _ => cases h
  | cons x a ih => cases l with
    | nil => cases h
    | cons y l =>
      simp only [cl_cons, List.cons.injEq, Cell.int.injEq, true_and] at h
      rw [h.1, ih h.2]
theorem cells_reps : toCells m (reps n [.int k x]) = some (cl k (List.replicate n x), m, []) := by
  induction n with
  | zero => rfl
  | succ n ih => simp only [reps, List.cons_append, List.nil_append, toCells, toCell, ih, List.replicate_succ, cl_cons]; rfl
theorem cl_spl (h : i < l.length) : spl [Cell.int k x] i (cl k l) = cl k (l.set i x) := by
  unfold spl
  rw [cl_take, cl_drop, List.set_eq_take_append_cons_drop, if_pos h]
  simp [cl]
theorem cl_read (h : l.drop i = x :: r) (t : Nat) (p : List Nat) : readOwn t p (cl k l) i 1 = some [.int k x] := by
  have : (cl k l)[i]? = some (.int k x) := by
    have e := congrArg (fun q : List Int => q[0]?) h
    simp only [List.getElem?_drop, Nat.add_zero] at e
    rw [cl, List.getElem?_map, e]
    rfl
  simp only [readOwn, this, Option.map_some, fromOwn]
theorem wrap_id (h1 : -9223372036854775808 ≤ x) (h2 : x ≤ 9223372036854775807) : IntKind.i64.wrap x = x := by
  rw [IntKind.wrap_i64]; omega
theorem addMem_nil {d : Nat} : addMem m d [] = m := by
  funext u
  simp only [addMem, List.length_nil]
  rw [if_neg (by omega)]
theorem memL_app {o : List (Option Ob)} {u : Nat} : memL o u = (o[u]?).getD none := rfl
theorem freshB_none (d : Nat) : freshB (fun _ => none) d = true := by simp [freshB]
theorem freshB_memL {o : List (Option Ob)} {d : Nat} (h : o.length ≤ d) : freshB (memL o) d = true := by
  simp only [freshB, List.all_eq_true, memL]
  intro i _
  rw [List.getElem?_eq_none (by omega)]
  rfl
theorem freshB_addMem {e d : Nat} {obs : List Ob} (h : e + obs.length ≤ d ∨ d + 64 ≤ e) : freshB (addMem m e obs) d = freshB m d := by
  have e1 : ∀ i ∈ List.range 64, addMem m e obs (d + i) = m (d + i) := fun i hi => by
    rw [List.mem_range] at hi
    simp only [addMem]
    rw [if_neg (by omega)]
  simp only [freshB]
  rw [Bool.eq_iff_iff, List.all_eq_true, List.all_eq_true]
  exact ⟨fun h i hi => by rw [← e1 i hi]; exact h i hi, fun h i hi => by rw [e1 i hi]; exact h i hi⟩
theorem freshB_addObs {e d : Nat} {obs : List Ob} (h : e + obs.length ≤ d ∨ d + 64 ≤ e) : freshB (addObs m e obs) d = freshB m d := by
  have e1 : ∀ i ∈ List.range 64, addObs m e obs (d + i) = m (d + i) := fun i hi => by
    rw [List.mem_range] at hi
    simp only [addObs]
    rw [if_neg (by omega)]
  simp only [freshB]
  rw [Bool.eq_iff_iff, List.all_eq_true, List.all_eq_true]
  exact ⟨fun h i hi => by rw [← e1 i hi]; exact h i hi, fun h i hi => by rw [e1 i hi]; exact h i hi⟩
theorem freshB_upd {t d : Nat} {y : Option Ob} (h : t < d ∨ d + 64 ≤ t) : freshB (upd m t y) d = freshB m d := by
  have e : ∀ i ∈ List.range 64, upd m t y (d + i) = m (d + i) := fun i hi => by
    rw [List.mem_range] at hi
    simp only [upd]
    rw [if_neg (by omega)]
  simp only [freshB]
  rw [Bool.eq_iff_iff, List.all_eq_true, List.all_eq_true]
  exact ⟨fun h i hi => by rw [← e i hi]; exact h i hi, fun h i hi => by rw [e i hi]; exact h i hi⟩
end
end Go.Proofs.YtbdokibepndibaaGreat.Eng
