/- The library's Insert of numbers, at this program's numbers: it is the one whose roads are proved. -/
import Derived.Test.YtklphaicchmmoaaEngI
import Derived.Test.YtklphaicchmmoaaProg
namespace Go.Proofs.Ytklphaicchmmoaa.Eng
open Go.RowKit Go.Shelf Go.Proofs
def insRen : Ren := ⟨fun n => match n with | 21 => 101 | 27 => 102 | 28 => 103 | 35 => 104 | 39 => 105 | n => n, fun n => match n with | 0 => 0 | 3 => 3 | 4 => 4 | 22 => 24 | n => n, fun n => n⟩
theorem insLays : Lays2.n21 Try.prog insRen := {
  mixed := rfl
  f21 := Try.func101.trans (congrArg some (by kernel_rfl))
  f27 := Try.func102.trans (congrArg some (by kernel_rfl))
  f28 := Try.func103.trans (congrArg some (by kernel_rfl))
  f35 := Try.func104.trans (congrArg some (by kernel_rfl))
  f39 := Try.func105.trans (congrArg some (by kernel_rfl))
  t0 := by kernel_rfl
  a0 := fun w => by kernel_rfl
  z0 := fun w => by kernel_rfl
  v0 := fun w => by kernel_rfl
  t3 := by kernel_rfl
  a3 := fun w => by kernel_rfl
  z3 := fun w => by kernel_rfl
  v3 := fun w => by kernel_rfl
  t4 := by kernel_rfl
  a4 := fun w => by kernel_rfl
  z4 := fun w => by kernel_rfl
  v4 := fun w => by kernel_rfl
  t22 := by kernel_rfl
  a22 := fun w => by kernel_rfl
  z22 := fun w => by kernel_rfl
  v22 := fun w => by kernel_rfl
  i3 := by kernel_rfl }
theorem insOk : Ins Try.prog 101 := ⟨insRen, insLays, rfl⟩
end Go.Proofs.Ytklphaicchmmoaa.Eng
