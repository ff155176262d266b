/- An interpreter of the model's code over tagged trees, twenty-ninth part: the interpreter's steps, one by one. -/
import Derived.Test.YtnbgdddcbmlcpaaEng28
import Derived.KernelRfl
namespace Go.Proofs.Ytnbgdddcbmlcpaa.Eng
open Go.RowKit

section
variable {T : FuncId → Option AFun} {k : Nat} {x : XS}
theorem exec_seq {a b : ACode} {y : XS} (h : exec T k a x = some (.nrm, y)) : exec T (k + 1) (.seq a b) x = exec T k b y := by rw [exec, h]
theorem exec_seq_out {a b : ACode} {y : XS} {e : AE} (h : exec T k a x = some (e, y)) (he : e ≠ .nrm) : exec T (k + 1) (.seq a b) x = some (e, y) := by
  rw [exec, h]
  cases e with
  | nrm => exact absurd rfl he
  | _ => rfl
theorem exec_cond {c : AX} {a b : ACode} {t : Bool} (h : x.st.one c = some (.bool t)) : exec T (k + 1) (.cond c a b) x = if t = true then exec T k a x else exec T k b x := by rw [exec, h]
theorem exec_block_exit {i : Nat} {b : ACode} {y : XS} (h : exec T k b x = some (.exit i, y)) : exec T (k + 1) (.block i b) x = some (.nrm, y) := by
  rw [exec, h]
  exact if_pos rfl
theorem exec_block {i : Nat} {b : ACode} {y : XS} (h : exec T k b x = some (.nrm, y)) : exec T (k + 1) (.block i b) x = some (.nrm, y) := by rw [exec, h]
theorem exec_block_ret {i : Nat} {b : ACode} {y : XS} (h : exec T k b x = some (.ret, y)) : exec T (k + 1) (.block i b) x = some (.ret, y) := by rw [exec, h]
theorem exec_region {dr : Bool} {n : Nat} {ops : List AOp} : exec T (k + 1) (.region dr n ops) x = (runG (exec T k) T (ops.take n) x.nx x.st).bind fun s => (runOps (exec T k) T (ops.drop n) (x.nx + 64 * n) ⟨s, x.nx + 64 * ops.length⟩).map fun y => (.nrm, y) := by rw [exec]
theorem exec_skip : exec T (k + 1) .skip x = some (.nrm, x) := by rw [exec]
theorem exec_exit {i : Nat} : exec T (k + 1) (.exit i) x = some (.exit i, x) := by rw [exec]
theorem exec_ret : exec T (k + 1) .ret x = some (.ret, x) := by rw [exec]
/-- Another round. -/
theorem exec_loop {dead : List Nat} {b : ACode} {y z : XS} (h : head true dead x = y) (hb : exec T k b y = some (.nrm, z)) : exec T (k + 1) (.loop true dead b) x = exec T k (.loop true dead b) z := by
  rw [exec, h, hb]
  rfl
/-- The last round. -/
theorem exec_loop_out {dead : List Nat} {b : ACode} {y z : XS} {e : AE} (h : head true dead x = y) (hb : exec T k b y = some (e, z)) (he : e ≠ .nrm) : exec T (k + 1) (.loop true dead b) x = some (e, z) := by
  rw [exec, h, hb]
  cases e with
  | nrm => exact absurd rfl he
  | _ => rfl
theorem runOps_append {ex : Ex} {l1 l2 : List AOp} {d : Nat} {x : XS} : runOps ex T (l1 ++ l2) d x = (runOps ex T l1 d x).bind (runOps ex T l2 (d + 64 * l1.length)) := by
  induction l1 generalizing d x with
  | nil => rfl
  | cons o r ih =>
    simp only [List.cons_append, runOps, List.length_cons]
    cases doOp ex T o d x with
    | none => rfl
    | some y =>
      simp only [Option.bind_some]
      rw [ih, show d + 64 + 64 * r.length = d + 64 * (r.length + 1) by omega]
end
end Go.Proofs.Ytnbgdddcbmlcpaa.Eng
