/- Library functions that are taken whole, at this program's numbers: they are those whose roads are proved. -/
import Derived.Test.YtbdokibepndibaaEngV
import Derived.Test.YtbdokibepndibaaProg
namespace Go.Proofs.Ytbdokibepndibaa.Eng
open Go.RowKit Go.Shelf Go.Proofs
def rvs57Ren : Ren := ⟨fun n => match n with | 35 => 57 | n => n, fun n => match n with | 0 => 0 | 3 => 3 | 4 => 4 | 22 => 25 | 23 => 3 | n => n, fun n => n⟩
theorem rvs57Lays : SlLaysE.n35 Try.prog rvs57Ren := {
  mixed := rfl
  f35 := ⟨"slices.Reverse[[]int,int]", by decide, Try.func57.trans (congrArg some (by kernel_rfl))⟩
  t0 := by kernel_rfl
  a0 := fun w => by kernel_rfl
  z0 := fun w => by kernel_rfl
  v0 := fun w => by kernel_rfl
  t3 := by kernel_rfl
  a3 := fun w => by kernel_rfl
  z3 := fun w => by kernel_rfl
  v3 := fun w => by kernel_rfl
  t4 := by kernel_rfl
  a4 := fun w => by kernel_rfl
  z4 := fun w => by kernel_rfl
  v4 := fun w => by kernel_rfl
  t22 := by kernel_rfl
  a22 := fun w => by kernel_rfl
  z22 := fun w => by kernel_rfl
  v22 := fun w => by kernel_rfl
  a23 := fun w => by kernel_rfl
  z23 := fun w => by kernel_rfl }
theorem rvsOk57 : Rvs Try.prog 57 := ⟨rvs57Ren, rvs57Lays, rfl⟩
end Go.Proofs.Ytbdokibepndibaa.Eng
