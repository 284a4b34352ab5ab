/- Joined by my own program, in build order: Clones. -/
import Derived.Shelf.SlicesE.Clone
import Derived.Test.YthhpcjoaogmhbaaGreatDoorProg
set_option linter.unusedVariables false
set_option linter.unusedSimpArgs false
section
namespace Go.Proofs
open Go.Shelf
def Tryz.yE : Go.Shelf.Ren := ⟨fun | 41 => 49 | n => n, fun | 22 => 26 | 23 => 35 | 4 => 4 | n => n, fun | n => n⟩
theorem Tryz.xP : Go.Proofs.SlLaysE0.n41 Tryz.prog Tryz.yE := {
 mixed := by kernel_rfl
 f41 := ⟨Tryz.f49.name, by decide, Tryz.func49.trans (congrArg some (by kernel_rfl))⟩
 t4 := Tryz.underlying4
 a4 := Tryz.isAgg4
 z4 := Tryz.sizeOf4
 v4 := Tryz.zeroValue4
 t22 := Tryz.underlying26
 a22 := Tryz.isAgg26
 z22 := Tryz.sizeOf26
 v22 := Tryz.zeroValue26 }
def Tryz.wZ : Go.Shelf.Ren := ⟨fun | 41 => 100 | n => n, fun | 22 => 23 | 23 => 118 | 4 => 4 | n => n, fun | n => n⟩
theorem Tryz.Dj : Go.Proofs.SlLaysE0.n41 Tryz.prog Tryz.wZ := {
 mixed := by kernel_rfl
 f41 := ⟨Tryz.f100.name, by decide, Tryz.func100.trans (congrArg some (by kernel_rfl))⟩
 t4 := Tryz.underlying4
 a4 := Tryz.isAgg4
 z4 := Tryz.sizeOf4
 v4 := Tryz.zeroValue4
 t22 := Tryz.underlying23
 a22 := Tryz.isAgg23
 z22 := Tryz.sizeOf23
 v22 := Tryz.zeroValue23 }
def Tryz.wJ : Go.Shelf.Ren := ⟨fun | 41 => 116 | n => n, fun | 22 => 27 | 23 => 29 | 4 => 4 | n => n, fun | n => n⟩
theorem Tryz.DU : Go.Proofs.SlLaysE0.n41 Tryz.prog Tryz.wJ := {
 mixed := by kernel_rfl
 f41 := ⟨Tryz.f116.name, by decide, Tryz.func116.trans (congrArg some (by kernel_rfl))⟩
 t4 := Tryz.underlying4
 a4 := Tryz.isAgg4
 z4 := Tryz.sizeOf4
 v4 := Tryz.zeroValue4
 t22 := Tryz.underlying27
 a22 := Tryz.isAgg27
 z22 := Tryz.sizeOf27
 v22 := Tryz.zeroValue27 }
end Go.Proofs
end
