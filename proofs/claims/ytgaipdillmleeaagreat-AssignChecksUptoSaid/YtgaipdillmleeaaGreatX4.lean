/- Joined by my own program, in build order: Maps. -/
import Derived.Shelf.SlIter.Nil
import Derived.Shelf.SlIter.Sorted
import Derived.Shelf.SortM.Plain
import Derived.Shelf.SortM.SortNone
import Derived.Shelf.SlMaps.Clone
import Derived.Shelf.SlMaps.DeleteFunc
import Derived.Test.YtgaipdillmleeaaGreatProg
set_option linter.unusedVariables false
set_option linter.unusedSimpArgs false
section
namespace Go.Proofs
open Go.Shelf
def Tryz.pV : Go.Shelf.Ren := ⟨fun | 7 => 14 | 10 => 29 | n => n, fun | 23 => 48 | 26 => 9 | 3 => 3 | 28 => 53 | 0 => 0 | 27 => 52 | 33 => 66 | 4 => 4 | n => n, fun | n => n⟩
theorem Tryz.Gq : Go.Proofs.SlLaysZ.n7 Tryz.prog Tryz.pV := {
 mixed := by kernel_rfl
 f7 := ⟨Tryz.f14.name, by decide, Tryz.func14.trans (congrArg some (by kernel_rfl))⟩
 f10 := ⟨Tryz.f29.name, by decide, Tryz.func29.trans (congrArg some (by kernel_rfl))⟩
 t0 := Tryz.underlying0
 a0 := Tryz.isAgg0
 z0 := Tryz.sizeOf0
 v0 := Tryz.zeroValue0
 t4 := Tryz.underlying4
 a4 := Tryz.isAgg4
 z4 := Tryz.sizeOf4
 v4 := Tryz.zeroValue4
 t23 := Tryz.underlying48
 a23 := Tryz.isAgg48
 z23 := Tryz.sizeOf48
 v23 := Tryz.zeroValue48
 t26 := Tryz.underlying9
 a26 := Tryz.isAgg9
 z26 := Tryz.sizeOf9
 v26 := Tryz.zeroValue9
 t27 := Tryz.underlying52
 a27 := Tryz.isAgg52
 z27 := Tryz.sizeOf52
 v27 := Tryz.zeroValue52
 t28 := Tryz.underlying53
 a28 := Tryz.isAgg53
 z28 := Tryz.sizeOf53
 v28 := Tryz.zeroValue53
 t33 := Tryz.underlying66
 a33 := Tryz.isAgg66
 z33 := Tryz.sizeOf66
 v33 := Tryz.zeroValue66 }
def Tryz.qH : Go.Shelf.Ren := ⟨fun | 6 => 13 | 8 => 27 | 9 => 28 | 11 => 56 | 13 => 58 | 12 => 57 | 23 => 100 | 24 => 101 | 14 => 91 | 15 => 92 | 16 => 93 | 17 => 94 | 18 => 95 | 19 => 96 | 20 => 97 | 21 => 98 | 22 => 99 | 25 => 132 | 26 => 133 | 27 => 134 | 28 => 135 | 29 => 136 | 30 => 137 | 31 => 162 | n => n, fun | 26 => 9 | 28 => 53 | 24 => 30 | 0 => 0 | 3 => 3 | 37 => 99 | 48 => 135 | 50 => 137 | 4 => 4 | 40 => 128 | 39 => 127 | 45 => 132 | 5 => 5 | 9 => 9 | 51 => 155 | 55 => 159 | 57 => 171 | 58 => 166 | 33 => 66 | n => n, fun | n => n⟩
theorem Tryz.Ag : Go.Proofs.SlLaysZ.n6 Tryz.prog Tryz.qH := {
 mixed := by kernel_rfl
 f6 := ⟨Tryz.f13.name, by decide, Tryz.func13.trans (congrArg some (by kernel_rfl))⟩
 f8 := ⟨Tryz.f27.name, by decide, Tryz.func27.trans (congrArg some (by kernel_rfl))⟩
 f11 := ⟨Tryz.f56.name, by decide, Tryz.func56.trans (congrArg some (by kernel_rfl))⟩
 t0 := Tryz.underlying0
 a0 := Tryz.isAgg0
 z0 := Tryz.sizeOf0
 v0 := Tryz.zeroValue0
 t24 := Tryz.underlying30
 a24 := Tryz.isAgg30
 z24 := Tryz.sizeOf30
 v24 := Tryz.zeroValue30
 t26 := Tryz.underlying9
 a26 := Tryz.isAgg9
 z26 := Tryz.sizeOf9
 v26 := Tryz.zeroValue9
 t28 := Tryz.underlying53
 a28 := Tryz.isAgg53
 z28 := Tryz.sizeOf53
 v28 := Tryz.zeroValue53
 i26 := by kernel_rfl }
def Tryz.Ev : Go.Shelf.Ren := ⟨fun | 6 => 28 | 8 => 58 | 9 => 57 | 19 => 100 | 20 => 101 | 21 => 91 | 22 => 92 | 23 => 93 | 24 => 94 | 25 => 95 | 26 => 96 | 27 => 97 | 28 => 98 | 29 => 99 | 36 => 132 | 31 => 133 | 32 => 134 | 37 => 135 | 38 => 136 | 39 => 137 | 41 => 162 | n => n, fun | 27 => 30 | 29 => 9 | 3 => 3 | 32 => 99 | 26 => 30 | 0 => 0 | 44 => 135 | 46 => 137 | 4 => 4 | 36 => 128 | 35 => 127 | 41 => 132 | 5 => 5 | 9 => 9 | 53 => 155 | 57 => 159 | 63 => 171 | 64 => 166 | n => n, fun | n => n⟩
theorem Tryz.Gl : Go.Proofs.SlLaysM.n6 Tryz.prog Tryz.Ev := {
 mixed := by kernel_rfl
 f6 := ⟨Tryz.f28.name, by decide, Tryz.func28.trans (congrArg some (by kernel_rfl))⟩
 f8 := Tryz.func58.trans (congrArg some (by kernel_rfl))
 f9 := ⟨Tryz.f57.name, by decide, Tryz.func57.trans (congrArg some (by kernel_rfl))⟩
 f19 := Tryz.func100.trans (congrArg some (by kernel_rfl))
 f20 := Tryz.func101.trans (congrArg some (by kernel_rfl))
 f21 := ⟨Tryz.f91.name, by decide, Tryz.func91.trans (congrArg some (by kernel_rfl))⟩
 f22 := ⟨Tryz.f92.name, by decide, Tryz.func92.trans (congrArg some (by kernel_rfl))⟩
 f23 := ⟨Tryz.f93.name, by decide, Tryz.func93.trans (congrArg some (by kernel_rfl))⟩
 f24 := ⟨Tryz.f94.name, by decide, Tryz.func94.trans (congrArg some (by kernel_rfl))⟩
 f25 := ⟨Tryz.f95.name, by decide, Tryz.func95.trans (congrArg some (by kernel_rfl))⟩
 f26 := ⟨Tryz.f96.name, by decide, Tryz.func96.trans (congrArg some (by kernel_rfl))⟩
 f27 := ⟨Tryz.f97.name, by decide, Tryz.func97.trans (congrArg some (by kernel_rfl))⟩
 f28 := ⟨Tryz.f98.name, by decide, Tryz.func98.trans (congrArg some (by kernel_rfl))⟩
 f29 := ⟨Tryz.f99.name, by decide, Tryz.func99.trans (congrArg some (by kernel_rfl))⟩
 f31 := Tryz.func133.trans (congrArg some (by kernel_rfl))
 f32 := Tryz.func134.trans (congrArg some (by kernel_rfl))
 f36 := ⟨Tryz.f132.name, by decide, Tryz.func132.trans (congrArg some (by kernel_rfl))⟩
 f37 := ⟨Tryz.f135.name, by decide, Tryz.func135.trans (congrArg some (by kernel_rfl))⟩
 f38 := ⟨Tryz.f136.name, by decide, Tryz.func136.trans (congrArg some (by kernel_rfl))⟩
 f39 := ⟨Tryz.f137.name, by decide, Tryz.func137.trans (congrArg some (by kernel_rfl))⟩
 f41 := ⟨Tryz.f162.name, by decide, Tryz.func162.trans (congrArg some (by kernel_rfl))⟩
 t0 := Tryz.underlying0
 a0 := Tryz.isAgg0
 z0 := Tryz.sizeOf0
 v0 := Tryz.zeroValue0
 t3 := Tryz.underlying3
 a3 := Tryz.isAgg3
 z3 := Tryz.sizeOf3
 v3 := Tryz.zeroValue3
 t4 := Tryz.underlying4
 a4 := Tryz.isAgg4
 z4 := Tryz.sizeOf4
 v4 := Tryz.zeroValue4
 t5 := Tryz.underlying5
 a5 := Tryz.isAgg5
 z5 := Tryz.sizeOf5
 v5 := Tryz.zeroValue5
 t9 := Tryz.underlying9
 a9 := Tryz.isAgg9
 z9 := Tryz.sizeOf9
 v9 := Tryz.zeroValue9
 t26 := Tryz.underlying30
 a26 := Tryz.isAgg30
 z26 := Tryz.sizeOf30
 v26 := Tryz.zeroValue30
 t27 := Tryz.underlying30
 a27 := Tryz.isAgg30
 z27 := Tryz.sizeOf30
 v27 := Tryz.zeroValue30
 t29 := Tryz.underlying9
 a29 := Tryz.isAgg9
 z29 := Tryz.sizeOf9
 v29 := Tryz.zeroValue9
 t32 := Tryz.underlying99
 a32 := Tryz.isAgg99
 z32 := Tryz.sizeOf99
 v32 := Tryz.zeroValue99
 t35 := Tryz.underlying127
 a35 := Tryz.isAgg127
 z35 := Tryz.sizeOf127
 v35 := Tryz.zeroValue127
 t36 := Tryz.underlying128
 a36 := Tryz.isAgg128
 z36 := Tryz.sizeOf128
 v36 := Tryz.zeroValue128
 t41 := Tryz.underlying132
 a41 := Tryz.isAgg132
 z41 := Tryz.sizeOf132
 v41 := Tryz.zeroValue132
 t44 := Tryz.underlying135
 a44 := Tryz.isAgg135
 z44 := Tryz.sizeOf135
 v44 := Tryz.zeroValue135
 t46 := Tryz.underlying137
 a46 := Tryz.isAgg137
 z46 := Tryz.sizeOf137
 v46 := Tryz.zeroValue137
 t53 := Tryz.underlying155
 a53 := Tryz.isAgg155
 z53 := Tryz.sizeOf155
 v53 := Tryz.zeroValue155
 t57 := Tryz.underlying159
 a57 := Tryz.isAgg159
 z57 := Tryz.sizeOf159
 v57 := Tryz.zeroValue159
 t63 := Tryz.underlying171
 a63 := Tryz.isAgg171
 z63 := Tryz.sizeOf171
 v63 := Tryz.zeroValue171
 t64 := Tryz.underlying166
 a64 := Tryz.isAgg166
 z64 := Tryz.sizeOf166
 v64 := Tryz.zeroValue166 }
def Tryz.Au : Go.Shelf.Ren := ⟨fun | 5 => 54 | 7 => 88 | n => n, fun | 23 => 48 | 25 => 9 | 3 => 3 | 4 => 4 | 20 => 20 | n => n, fun | n => n⟩
theorem Tryz.H9 : Go.Proofs.SlLaysW.n5 Tryz.prog Tryz.Au := {
 mixed := by kernel_rfl
 f5 := ⟨Tryz.f54.name, by decide, Tryz.func54.trans (congrArg some (by kernel_rfl))⟩
 f7 := Tryz.func88.trans (congrArg some (by kernel_rfl))
 t4 := Tryz.underlying4
 a4 := Tryz.isAgg4
 z4 := Tryz.sizeOf4
 v4 := Tryz.zeroValue4
 t20 := Tryz.underlying20
 a20 := Tryz.isAgg20
 z20 := Tryz.sizeOf20
 v20 := Tryz.zeroValue20
 t23 := Tryz.underlying48
 a23 := Tryz.isAgg48
 z23 := Tryz.sizeOf48
 v23 := Tryz.zeroValue48 }
def Tryz.Es : Go.Shelf.Ren := ⟨fun | 5 => 89 | n => n, fun | 23 => 48 | 26 => 9 | 24 => 3 | 27 => 125 | 0 => 0 | 4 => 4 | n => n, fun | n => n⟩
theorem Tryz.Nc : Go.Proofs.SlLaysDf.n5 Tryz.prog Tryz.Es := {
 mixed := by kernel_rfl
 f5 := ⟨Tryz.f89.name, by decide, Tryz.func89.trans (congrArg some (by kernel_rfl))⟩
 t0 := Tryz.underlying0
 a0 := Tryz.isAgg0
 z0 := Tryz.sizeOf0
 v0 := Tryz.zeroValue0
 t4 := Tryz.underlying4
 a4 := Tryz.isAgg4
 z4 := Tryz.sizeOf4
 v4 := Tryz.zeroValue4
 t23 := Tryz.underlying48
 a23 := Tryz.isAgg48
 z23 := Tryz.sizeOf48
 v23 := Tryz.zeroValue48
 a24 := Tryz.isAgg3
 z24 := Tryz.sizeOf3
 a26 := Tryz.isAgg9
 z26 := Tryz.sizeOf9
 t27 := Tryz.underlying125
 a27 := Tryz.isAgg125
 z27 := Tryz.sizeOf125
 v27 := Tryz.zeroValue125 }
end Go.Proofs
end
