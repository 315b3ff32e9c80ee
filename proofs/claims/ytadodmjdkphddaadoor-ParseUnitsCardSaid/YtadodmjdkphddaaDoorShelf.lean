/- The program holds functions of the library: laid by the kit's tool. -/
import Derived.Ground.Names7Prog
import Derived.Ground.SlsfProg
import Derived.Ground.SlgcProg
import Derived.Shelf.Spec.DecodeRune
import Derived.Shelf.SlSortCmp.WholeK
import Derived.Shelf.SlicesG.Cmp
import Derived.Test.YtadodmjdkphddaaDoorProg

section
set_option linter.unusedSimpArgs false
set_option linter.unusedVariables false
namespace Go.Proofs
open Go.Shelf
def Tryd.lays32_ren : Go.Shelf.Ren := ⟨fun | 32 => 53 | 49 => 64 | n => n, fun | 30 => 40 | 21 => 21 | 3 => 3 | 0 => 0 | 5 => 5 | 4 => 4 | 33 => 82 | 66 => 98 | 25 => 99 | 69 => 102 | 68 => 101 | n => n, fun | 2 => 0 | 3 => 1 | n => n⟩
theorem Tryd.lays32 : Go.Proofs.Lays7.n32 Tryd.prog Tryd.lays32_ren := {
 mixed := by kernel_rfl
 f32 := Tryd.func53.trans (congrArg some (by kernel_rfl))
 f49 := Tryd.func64.trans (congrArg some (by kernel_rfl))
 t0 := Tryd.underlying0
 a0 := Tryd.isAgg0
 z0 := Tryd.sizeOf0
 v0 := Tryd.zeroValue0
 i0 := by kernel_rfl
 t3 := Tryd.underlying3
 a3 := Tryd.isAgg3
 z3 := Tryd.sizeOf3
 v3 := Tryd.zeroValue3
 i3 := by kernel_rfl
 t4 := Tryd.underlying4
 a4 := Tryd.isAgg4
 z4 := Tryd.sizeOf4
 v4 := Tryd.zeroValue4
 i4 := by kernel_rfl
 t5 := Tryd.underlying5
 a5 := Tryd.isAgg5
 z5 := Tryd.sizeOf5
 v5 := Tryd.zeroValue5
 i5 := by kernel_rfl
 t21 := Tryd.underlying21
 a21 := Tryd.isAgg21
 z21 := Tryd.sizeOf21
 v21 := Tryd.zeroValue21
 i21 := by kernel_rfl
 t25 := Tryd.underlying99
 a25 := Tryd.isAgg99
 z25 := Tryd.sizeOf99
 v25 := Tryd.zeroValue99
 i25 := by kernel_rfl
 t30 := Tryd.underlying40
 a30 := Tryd.isAgg40
 z30 := Tryd.sizeOf40
 v30 := Tryd.zeroValue40
 i30 := by kernel_rfl
 t33 := Tryd.underlying82
 a33 := Tryd.isAgg82
 z33 := Tryd.sizeOf82
 v33 := Tryd.zeroValue82
 i33 := by kernel_rfl
 t66 := Tryd.underlying98
 a66 := Tryd.isAgg98
 z66 := Tryd.sizeOf98
 t68 := Tryd.underlying101
 a68 := Tryd.isAgg101
 z68 := Tryd.sizeOf101
 v68 := Tryd.zeroValue101
 i68 := by kernel_rfl
 t69 := Tryd.underlying102
 a69 := Tryd.isAgg102
 z69 := Tryd.sizeOf102
 v69 := Tryd.zeroValue102
 i69 := by kernel_rfl
 g2 := by kernel_rfl
 g3 := by kernel_rfl }
def Tryd.sortA_ren : Go.Shelf.Ren := ⟨fun | 6 => 80 | 15 => 85 | 14 => 84 | 28 => 94 | 29 => 95 | 20 => 86 | 21 => 87 | 22 => 88 | 23 => 89 | 24 => 90 | 25 => 91 | 26 => 92 | 27 => 93 | 46 => 96 | 47 => 97 | 48 => 98 | 49 => 99 | 50 => 100 | 57 => 101 | n => n, fun | 22 => 23 | 24 => 39 | 25 => 108 | 3 => 3 | 39 => 99 | 0 => 0 | 53 => 125 | 55 => 127 | 4 => 4 | 46 => 118 | 45 => 117 | 50 => 122 | 5 => 5 | 9 => 9 | 66 => 128 | 70 => 132 | 76 => 134 | 77 => 49 | n => n, fun | n => n⟩
theorem Tryd.sortA : Go.Proofs.SlLaysF0.n6 Tryd.prog Tryd.sortA_ren := {
 mixed := by kernel_rfl
 f6 := ⟨Tryd.f80.name, by decide, Tryd.func80.trans (congrArg some (by kernel_rfl))⟩
 f14 := ⟨Tryd.f84.name, by decide, Tryd.func84.trans (congrArg some (by kernel_rfl))⟩
 f15 := Tryd.func85.trans (congrArg some (by kernel_rfl))
 f20 := ⟨Tryd.f86.name, by decide, Tryd.func86.trans (congrArg some (by kernel_rfl))⟩
 f21 := ⟨Tryd.f87.name, by decide, Tryd.func87.trans (congrArg some (by kernel_rfl))⟩
 f22 := ⟨Tryd.f88.name, by decide, Tryd.func88.trans (congrArg some (by kernel_rfl))⟩
 f23 := ⟨Tryd.f89.name, by decide, Tryd.func89.trans (congrArg some (by kernel_rfl))⟩
 f24 := ⟨Tryd.f90.name, by decide, Tryd.func90.trans (congrArg some (by kernel_rfl))⟩
 f25 := ⟨Tryd.f91.name, by decide, Tryd.func91.trans (congrArg some (by kernel_rfl))⟩
 f26 := ⟨Tryd.f92.name, by decide, Tryd.func92.trans (congrArg some (by kernel_rfl))⟩
 f27 := ⟨Tryd.f93.name, by decide, Tryd.func93.trans (congrArg some (by kernel_rfl))⟩
 f28 := Tryd.func94.trans (congrArg some (by kernel_rfl))
 f29 := Tryd.func95.trans (congrArg some (by kernel_rfl))
 f46 := ⟨Tryd.f96.name, by decide, Tryd.func96.trans (congrArg some (by kernel_rfl))⟩
 f47 := Tryd.func97.trans (congrArg some (by kernel_rfl))
 f48 := Tryd.func98.trans (congrArg some (by kernel_rfl))
 f49 := ⟨Tryd.f99.name, by decide, Tryd.func99.trans (congrArg some (by kernel_rfl))⟩
 f50 := ⟨Tryd.f100.name, by decide, Tryd.func100.trans (congrArg some (by kernel_rfl))⟩
 f57 := ⟨Tryd.f101.name, by decide, Tryd.func101.trans (congrArg some (by kernel_rfl))⟩
 t0 := Tryd.underlying0
 a0 := Tryd.isAgg0
 z0 := Tryd.sizeOf0
 v0 := Tryd.zeroValue0
 t3 := Tryd.underlying3
 a3 := Tryd.isAgg3
 z3 := Tryd.sizeOf3
 v3 := Tryd.zeroValue3
 t4 := Tryd.underlying4
 a4 := Tryd.isAgg4
 z4 := Tryd.sizeOf4
 v4 := Tryd.zeroValue4
 t5 := Tryd.underlying5
 a5 := Tryd.isAgg5
 z5 := Tryd.sizeOf5
 v5 := Tryd.zeroValue5
 t9 := Tryd.underlying9
 a9 := Tryd.isAgg9
 z9 := Tryd.sizeOf9
 v9 := Tryd.zeroValue9
 t22 := Tryd.underlying23
 a22 := Tryd.isAgg23
 z22 := Tryd.sizeOf23
 v22 := Tryd.zeroValue23
 t25 := Tryd.underlying108
 a25 := Tryd.isAgg108
 z25 := Tryd.sizeOf108
 v25 := Tryd.zeroValue108
 t39 := Tryd.underlying99
 a39 := Tryd.isAgg99
 z39 := Tryd.sizeOf99
 v39 := Tryd.zeroValue99
 t45 := Tryd.underlying117
 a45 := Tryd.isAgg117
 z45 := Tryd.sizeOf117
 v45 := Tryd.zeroValue117
 t46 := Tryd.underlying118
 a46 := Tryd.isAgg118
 z46 := Tryd.sizeOf118
 v46 := Tryd.zeroValue118
 t50 := Tryd.underlying122
 a50 := Tryd.isAgg122
 z50 := Tryd.sizeOf122
 v50 := Tryd.zeroValue122
 t53 := Tryd.underlying125
 a53 := Tryd.isAgg125
 z53 := Tryd.sizeOf125
 v53 := Tryd.zeroValue125
 t55 := Tryd.underlying127
 a55 := Tryd.isAgg127
 z55 := Tryd.sizeOf127
 v55 := Tryd.zeroValue127
 t66 := Tryd.underlying128
 a66 := Tryd.isAgg128
 z66 := Tryd.sizeOf128
 v66 := Tryd.zeroValue128
 t70 := Tryd.underlying132
 a70 := Tryd.isAgg132
 z70 := Tryd.sizeOf132
 v70 := Tryd.zeroValue132
 t76 := Tryd.underlying134
 a76 := Tryd.isAgg134
 z76 := Tryd.sizeOf134
 v76 := Tryd.zeroValue134
 t77 := Tryd.underlying49
 a77 := Tryd.isAgg49
 z77 := Tryd.sizeOf49
 v77 := Tryd.zeroValue49 }
def Tryd.cmpInt_ren : Go.Shelf.Ren := ⟨fun | 5 => 77 | 7 => 82 | n => n, fun | 22 => 3 | 3 => 3 | 4 => 4 | n => n, fun | n => n⟩
theorem Tryd.cmpInt : Go.Proofs.SlLaysC2.n5 Tryd.prog Tryd.cmpInt_ren := {
 mixed := by kernel_rfl
 f5 := ⟨Tryd.f77.name, by decide, Tryd.func77.trans (congrArg some (by kernel_rfl))⟩
 f7 := ⟨Tryd.f82.name, by decide, Tryd.func82.trans (congrArg some (by kernel_rfl))⟩
 t3 := Tryd.underlying3
 a3 := Tryd.isAgg3
 z3 := Tryd.sizeOf3
 v3 := Tryd.zeroValue3
 t4 := Tryd.underlying4
 a4 := Tryd.isAgg4
 z4 := Tryd.sizeOf4
 v4 := Tryd.zeroValue4
 t22 := Tryd.underlying3
 a22 := Tryd.isAgg3
 z22 := Tryd.sizeOf3
 v22 := Tryd.zeroValue3 }
end Go.Proofs
end
