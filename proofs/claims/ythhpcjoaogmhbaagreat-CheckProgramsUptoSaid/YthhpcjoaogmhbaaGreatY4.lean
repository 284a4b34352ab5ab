/- Joined by my own program, in build order: Clones. -/
import Derived.Shelf.SlicesE.Clone
import Derived.Test.YthhpcjoaogmhbaaGreatProg
set_option linter.unusedVariables false
set_option linter.unusedSimpArgs false
section
namespace Go.Proofs
open Go.Shelf
def Tryz.laysClone19_ren : Go.Shelf.Ren := ⟨fun | 41 => 19 | n => n, fun | 22 => 37 | 23 => 45 | 4 => 4 | n => n, fun | n => n⟩
theorem Tryz.laysClone19 : Go.Proofs.SlLaysE0.n41 Tryz.prog Tryz.laysClone19_ren := {
 mixed := by kernel_rfl
 f41 := ⟨Tryz.f19.name, by decide, Tryz.func19.trans (congrArg some (by kernel_rfl))⟩
 t4 := Tryz.underlying4
 a4 := Tryz.isAgg4
 z4 := Tryz.sizeOf4
 v4 := Tryz.zeroValue4
 t22 := Tryz.underlying37
 a22 := Tryz.isAgg37
 z22 := Tryz.sizeOf37
 v22 := Tryz.zeroValue37 }
def Tryz.laysClone114_ren : Go.Shelf.Ren := ⟨fun | 41 => 114 | n => n, fun | 22 => 23 | 23 => 32 | 4 => 4 | n => n, fun | n => n⟩
theorem Tryz.laysClone114 : Go.Proofs.SlLaysE0.n41 Tryz.prog Tryz.laysClone114_ren := {
 mixed := by kernel_rfl
 f41 := ⟨Tryz.f114.name, by decide, Tryz.func114.trans (congrArg some (by kernel_rfl))⟩
 t4 := Tryz.underlying4
 a4 := Tryz.isAgg4
 z4 := Tryz.sizeOf4
 v4 := Tryz.zeroValue4
 t22 := Tryz.underlying23
 a22 := Tryz.isAgg23
 z22 := Tryz.sizeOf23
 v22 := Tryz.zeroValue23 }
def Tryz.laysClone120_ren : Go.Shelf.Ren := ⟨fun | 41 => 120 | n => n, fun | 22 => 28 | 23 => 30 | 4 => 4 | n => n, fun | n => n⟩
theorem Tryz.laysClone120 : Go.Proofs.SlLaysE0.n41 Tryz.prog Tryz.laysClone120_ren := {
 mixed := by kernel_rfl
 f41 := ⟨Tryz.f120.name, by decide, Tryz.func120.trans (congrArg some (by kernel_rfl))⟩
 t4 := Tryz.underlying4
 a4 := Tryz.isAgg4
 z4 := Tryz.sizeOf4
 v4 := Tryz.zeroValue4
 t22 := Tryz.underlying28
 a22 := Tryz.isAgg28
 z22 := Tryz.sizeOf28
 v22 := Tryz.zeroValue28 }
end Go.Proofs
end
