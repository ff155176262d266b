/- Library functions that are taken whole, at this program's numbers: they are those whose roads are proved. -/
import Derived.Test.YtdagbeihjobmjaaEngG
import Derived.Test.YtdagbeihjobmjaaProg
namespace Go.Proofs.Ytdagbeihjobmjaa.Eng
open Go.RowKit Go.Shelf Go.Proofs
def insRen : Ren := ⟨fun n => match n with | 21 => 137 | 27 => 138 | 28 => 139 | 35 => 140 | 39 => 141 | n => n, fun n => match n with | 0 => 0 | 3 => 3 | 4 => 4 | 22 => 24 | n => n, fun n => n⟩
theorem insLays : Lays2.n21 Try.prog insRen := {
  mixed := rfl
  f21 := Try.func137.trans (congrArg some (by kernel_rfl))
  f27 := Try.func138.trans (congrArg some (by kernel_rfl))
  f28 := Try.func139.trans (congrArg some (by kernel_rfl))
  f35 := Try.func140.trans (congrArg some (by kernel_rfl))
  f39 := Try.func141.trans (congrArg some (by kernel_rfl))
  t0 := by kernel_rfl
  a0 := fun w => by kernel_rfl
  z0 := fun w => by kernel_rfl
  v0 := fun w => by kernel_rfl
  t3 := by kernel_rfl
  a3 := fun w => by kernel_rfl
  z3 := fun w => by kernel_rfl
  v3 := fun w => by kernel_rfl
  t4 := by kernel_rfl
  a4 := fun w => by kernel_rfl
  z4 := fun w => by kernel_rfl
  v4 := fun w => by kernel_rfl
  t22 := by kernel_rfl
  a22 := fun w => by kernel_rfl
  z22 := fun w => by kernel_rfl
  v22 := fun w => by kernel_rfl
  i3 := by kernel_rfl }
theorem insOk : Ins Try.prog 137 := ⟨insRen, insLays, rfl⟩
def grw135Ren : Ren := ⟨fun n => match n with | 4 => 135 | n => n, fun n => match n with | 0 => 0 | 3 => 3 | 4 => 4 | 9 => 9 | 20 => 20 | 22 => 24 | 25 => 3 | n => n, fun n => n⟩
theorem grw135Lays : Lays8.n4 Try.prog grw135Ren := {
  mixed := rfl
  f4 := ⟨"slices.Grow[[]int,int]", by decide, Try.func135.trans (congrArg some (by kernel_rfl))⟩
  t0 := by kernel_rfl
  a0 := fun w => by kernel_rfl
  z0 := fun w => by kernel_rfl
  v0 := fun w => by kernel_rfl
  t3 := by kernel_rfl
  a3 := fun w => by kernel_rfl
  z3 := fun w => by kernel_rfl
  v3 := fun w => by kernel_rfl
  t4 := by kernel_rfl
  a4 := fun w => by kernel_rfl
  z4 := fun w => by kernel_rfl
  v4 := fun w => by kernel_rfl
  t9 := by kernel_rfl
  a9 := fun w => by kernel_rfl
  z9 := fun w => by kernel_rfl
  v9 := fun w => by kernel_rfl
  t20 := by kernel_rfl
  a20 := fun w => by kernel_rfl
  z20 := fun w => by kernel_rfl
  v20 := fun w => by kernel_rfl
  t22 := by kernel_rfl
  a22 := fun w => by kernel_rfl
  z22 := fun w => by kernel_rfl
  v22 := fun w => by kernel_rfl }
theorem grwOk135 : Grw Try.prog 135 1 8 := by
  obtain ⟨i, z, h1, h2, h3, h4, h5⟩ := infoB_spec (P := Try.prog) (e := 3) (sz := 1) (bytes := 8) (by decide +kernel)
  exact ⟨grw135Ren, grw135Lays, rfl, i, z, h1, h2, h3, h4, by decide, h5⟩
end Go.Proofs.Ytdagbeihjobmjaa.Eng
