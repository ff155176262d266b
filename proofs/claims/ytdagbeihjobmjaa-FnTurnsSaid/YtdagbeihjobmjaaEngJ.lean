/- The library's Insert of numbers, at this program's numbers: it is the one whose roads are proved. -/
import Derived.Test.YtdagbeihjobmjaaEngI
import Derived.Test.YtdagbeihjobmjaaProg
namespace Go.Proofs.Ytdagbeihjobmjaa.Eng
open Go.RowKit Go.Shelf Go.Proofs
def insRen : Ren := ⟨fun n => match n with | 21 => 137 | 27 => 138 | 28 => 139 | 35 => 140 | 39 => 141 | n => n, fun n => match n with | 0 => 0 | 3 => 3 | 4 => 4 | 22 => 24 | n => n, fun n => n⟩
theorem insLays : Lays2.n21 Try.prog insRen := {
  mixed := rfl
  f21 := Try.func137.trans (congrArg some (by kernel_rfl))
  f27 := Try.func138.trans (congrArg some (by kernel_rfl))
  f28 := Try.func139.trans (congrArg some (by kernel_rfl))
  f35 := Try.func140.trans (congrArg some (by kernel_rfl))
  f39 := Try.func141.trans (congrArg some (by kernel_rfl))
  t0 := by kernel_rfl
  a0 := fun w => by kernel_rfl
  z0 := fun w => by kernel_rfl
  v0 := fun w => by kernel_rfl
  t3 := by kernel_rfl
  a3 := fun w => by kernel_rfl
  z3 := fun w => by kernel_rfl
  v3 := fun w => by kernel_rfl
  t4 := by kernel_rfl
  a4 := fun w => by kernel_rfl
  z4 := fun w => by kernel_rfl
  v4 := fun w => by kernel_rfl
  t22 := by kernel_rfl
  a22 := fun w => by kernel_rfl
  z22 := fun w => by kernel_rfl
  v22 := fun w => by kernel_rfl
  i3 := by kernel_rfl }
theorem insOk : Ins Try.prog 137 := ⟨insRen, insLays, rfl⟩
end Go.Proofs.Ytdagbeihjobmjaa.Eng
