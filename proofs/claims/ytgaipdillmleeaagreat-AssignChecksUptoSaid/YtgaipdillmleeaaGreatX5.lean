/- Joined by my own program, in build order: Clones. -/
import Derived.Shelf.SlicesE.Clone
import Derived.Test.YtgaipdillmleeaaGreatProg
set_option linter.unusedVariables false
set_option linter.unusedSimpArgs false
section
namespace Go.Proofs
open Go.Shelf
def Tryz.y8 : Go.Shelf.Ren := ⟨fun | 41 => 35 | n => n, fun | 22 => 39 | 23 => 46 | 4 => 4 | n => n, fun | n => n⟩
theorem Tryz.yE : Go.Proofs.SlLaysE0.n41 Tryz.prog Tryz.y8 := {
 mixed := by kernel_rfl
 f41 := ⟨Tryz.f35.name, by decide, Tryz.func35.trans (congrArg some (by kernel_rfl))⟩
 t4 := Tryz.underlying4
 a4 := Tryz.isAgg4
 z4 := Tryz.sizeOf4
 v4 := Tryz.zeroValue4
 t22 := Tryz.underlying39
 a22 := Tryz.isAgg39
 z22 := Tryz.sizeOf39
 v22 := Tryz.zeroValue39 }
def Tryz.xD : Go.Shelf.Ren := ⟨fun | 41 => 167 | n => n, fun | 22 => 23 | 23 => 37 | 4 => 4 | n => n, fun | n => n⟩
theorem Tryz.EB : Go.Proofs.SlLaysE0.n41 Tryz.prog Tryz.xD := {
 mixed := by kernel_rfl
 f41 := ⟨Tryz.f167.name, by decide, Tryz.func167.trans (congrArg some (by kernel_rfl))⟩
 t4 := Tryz.underlying4
 a4 := Tryz.isAgg4
 z4 := Tryz.sizeOf4
 v4 := Tryz.zeroValue4
 t22 := Tryz.underlying23
 a22 := Tryz.isAgg23
 z22 := Tryz.sizeOf23
 v22 := Tryz.zeroValue23 }
def Tryz.xO : Go.Shelf.Ren := ⟨fun | 41 => 173 | n => n, fun | 22 => 33 | 23 => 35 | 4 => 4 | n => n, fun | n => n⟩
theorem Tryz.Eh : Go.Proofs.SlLaysE0.n41 Tryz.prog Tryz.xO := {
 mixed := by kernel_rfl
 f41 := ⟨Tryz.f173.name, by decide, Tryz.func173.trans (congrArg some (by kernel_rfl))⟩
 t4 := Tryz.underlying4
 a4 := Tryz.isAgg4
 z4 := Tryz.sizeOf4
 v4 := Tryz.zeroValue4
 t22 := Tryz.underlying33
 a22 := Tryz.isAgg33
 z22 := Tryz.sizeOf33
 v22 := Tryz.zeroValue33 }
end Go.Proofs
end
