/- The program holds functions of the library: laid by the kit's tool. -/
import Derived.Ground.Names7Prog
import Derived.Ground.SlsfProg
import Derived.Ground.SlgcProg
import Derived.Ground.SlgnProg
import Derived.Shelf.Spec.DecodeRune
import Derived.Shelf.SlSortCmp.WholeK
import Derived.Shelf.SlicesG.Cmp
import Derived.Shelf.SlicesE.Clone
import Derived.Test.YtocikhhkicahoaaDoorProg

set_option linter.unusedSimpArgs false
set_option linter.unusedVariables false
set_option linter.defProp false
section
namespace Go.Proofs
open Go.Shelf
def Tryd.lays32_ren:Go.Shelf.Ren:=⟨fun | 32 => 76 | 49 => 95 | n => n,fun | 30 => 54 | 21 => 21 | 3 => 3 | 0 => 0 | 5 => 5 | 4 => 4 | 33 => 113 | 66 => 142 | 25 => 108 | 69 => 145 | 68 => 144 | n => n,fun | 2 => 0 | 3 => 1 | n => n⟩
theorem Tryd.lays32:Go.Proofs.Lays7.n32 Tryd.prog Tryd.lays32_ren:={
 mixed:=by kernel_rfl
 f32:=Tryd.func76.trans (congrArg some (by kernel_rfl))
 f49:=Tryd.func95.trans (congrArg some (by kernel_rfl))
 t0:=Tryd.underlying0
 a0:=Tryd.isAgg0
 z0:=Tryd.sizeOf0
 v0:=Tryd.zeroValue0
 i0:=by kernel_rfl
 t3:=Tryd.underlying3
 a3:=Tryd.isAgg3
 z3:=Tryd.sizeOf3
 v3:=Tryd.zeroValue3
 i3:=by kernel_rfl
 t4:=Tryd.underlying4
 a4:=Tryd.isAgg4
 z4:=Tryd.sizeOf4
 v4:=Tryd.zeroValue4
 i4:=by kernel_rfl
 t5:=Tryd.underlying5
 a5:=Tryd.isAgg5
 z5:=Tryd.sizeOf5
 v5:=Tryd.zeroValue5
 i5:=by kernel_rfl
 t21:=Tryd.underlying21
 a21:=Tryd.isAgg21
 z21:=Tryd.sizeOf21
 v21:=Tryd.zeroValue21
 i21:=by kernel_rfl
 t25:=Tryd.underlying108
 a25:=Tryd.isAgg108
 z25:=Tryd.sizeOf108
 v25:=Tryd.zeroValue108
 i25:=by kernel_rfl
 t30:=Tryd.underlying54
 a30:=Tryd.isAgg54
 z30:=Tryd.sizeOf54
 v30:=Tryd.zeroValue54
 i30:=by kernel_rfl
 t33:=Tryd.underlying113
 a33:=Tryd.isAgg113
 z33:=Tryd.sizeOf113
 v33:=Tryd.zeroValue113
 i33:=by kernel_rfl
 t66:=Tryd.underlying142
 a66:=Tryd.isAgg142
 z66:=Tryd.sizeOf142
 t68:=Tryd.underlying144
 a68:=Tryd.isAgg144
 z68:=Tryd.sizeOf144
 v68:=Tryd.zeroValue144
 i68:=by kernel_rfl
 t69:=Tryd.underlying145
 a69:=Tryd.isAgg145
 z69:=Tryd.sizeOf145
 v69:=Tryd.zeroValue145
 i69:=by kernel_rfl
 g2:=by kernel_rfl
 g3:=by kernel_rfl }
def Tryd.sortA_ren:Go.Shelf.Ren:=⟨fun | 6 => 52 | 15 => 72 | 14 => 71 | 28 => 93 | 29 => 94 | 20 => 85 | 21 => 86 | 22 => 87 | 23 => 88 | 24 => 89 | 25 => 90 | 26 => 91 | 27 => 92 | 46 => 99 | 47 => 100 | 48 => 101 | 49 => 102 | 50 => 103 | 57 => 105 | n => n,fun | 22 => 27 | 24 => 47 | 25 => 80 | 3 => 3 | 39 => 108 | 0 => 0 | 53 => 132 | 55 => 134 | 4 => 4 | 46 => 125 | 45 => 124 | 50 => 129 | 5 => 5 | 9 => 9 | 66 => 136 | 70 => 140 | 76 => 147 | 77 => 85 | n => n,fun | n => n⟩
theorem Tryd.sortA:Go.Proofs.SlLaysF0.n6 Tryd.prog Tryd.sortA_ren:={
 mixed:=by kernel_rfl
 f6:=⟨Tryd.f52.name,by decide,Tryd.func52.trans (congrArg some (by kernel_rfl))⟩
 f14:=⟨Tryd.f71.name,by decide,Tryd.func71.trans (congrArg some (by kernel_rfl))⟩
 f15:=Tryd.func72.trans (congrArg some (by kernel_rfl))
 f20:=⟨Tryd.f85.name,by decide,Tryd.func85.trans (congrArg some (by kernel_rfl))⟩
 f21:=⟨Tryd.f86.name,by decide,Tryd.func86.trans (congrArg some (by kernel_rfl))⟩
 f22:=⟨Tryd.f87.name,by decide,Tryd.func87.trans (congrArg some (by kernel_rfl))⟩
 f23:=⟨Tryd.f88.name,by decide,Tryd.func88.trans (congrArg some (by kernel_rfl))⟩
 f24:=⟨Tryd.f89.name,by decide,Tryd.func89.trans (congrArg some (by kernel_rfl))⟩
 f25:=⟨Tryd.f90.name,by decide,Tryd.func90.trans (congrArg some (by kernel_rfl))⟩
 f26:=⟨Tryd.f91.name,by decide,Tryd.func91.trans (congrArg some (by kernel_rfl))⟩
 f27:=⟨Tryd.f92.name,by decide,Tryd.func92.trans (congrArg some (by kernel_rfl))⟩
 f28:=Tryd.func93.trans (congrArg some (by kernel_rfl))
 f29:=Tryd.func94.trans (congrArg some (by kernel_rfl))
 f46:=⟨Tryd.f99.name,by decide,Tryd.func99.trans (congrArg some (by kernel_rfl))⟩
 f47:=Tryd.func100.trans (congrArg some (by kernel_rfl))
 f48:=Tryd.func101.trans (congrArg some (by kernel_rfl))
 f49:=⟨Tryd.f102.name,by decide,Tryd.func102.trans (congrArg some (by kernel_rfl))⟩
 f50:=⟨Tryd.f103.name,by decide,Tryd.func103.trans (congrArg some (by kernel_rfl))⟩
 f57:=⟨Tryd.f105.name,by decide,Tryd.func105.trans (congrArg some (by kernel_rfl))⟩
 t0:=Tryd.underlying0
 a0:=Tryd.isAgg0
 z0:=Tryd.sizeOf0
 v0:=Tryd.zeroValue0
 t3:=Tryd.underlying3
 a3:=Tryd.isAgg3
 z3:=Tryd.sizeOf3
 v3:=Tryd.zeroValue3
 t4:=Tryd.underlying4
 a4:=Tryd.isAgg4
 z4:=Tryd.sizeOf4
 v4:=Tryd.zeroValue4
 t5:=Tryd.underlying5
 a5:=Tryd.isAgg5
 z5:=Tryd.sizeOf5
 v5:=Tryd.zeroValue5
 t9:=Tryd.underlying9
 a9:=Tryd.isAgg9
 z9:=Tryd.sizeOf9
 v9:=Tryd.zeroValue9
 t22:=Tryd.underlying27
 a22:=Tryd.isAgg27
 z22:=Tryd.sizeOf27
 v22:=Tryd.zeroValue27
 t25:=Tryd.underlying80
 a25:=Tryd.isAgg80
 z25:=Tryd.sizeOf80
 v25:=Tryd.zeroValue80
 t39:=Tryd.underlying108
 a39:=Tryd.isAgg108
 z39:=Tryd.sizeOf108
 v39:=Tryd.zeroValue108
 t45:=Tryd.underlying124
 a45:=Tryd.isAgg124
 z45:=Tryd.sizeOf124
 v45:=Tryd.zeroValue124
 t46:=Tryd.underlying125
 a46:=Tryd.isAgg125
 z46:=Tryd.sizeOf125
 v46:=Tryd.zeroValue125
 t50:=Tryd.underlying129
 a50:=Tryd.isAgg129
 z50:=Tryd.sizeOf129
 v50:=Tryd.zeroValue129
 t53:=Tryd.underlying132
 a53:=Tryd.isAgg132
 z53:=Tryd.sizeOf132
 v53:=Tryd.zeroValue132
 t55:=Tryd.underlying134
 a55:=Tryd.isAgg134
 z55:=Tryd.sizeOf134
 v55:=Tryd.zeroValue134
 t66:=Tryd.underlying136
 a66:=Tryd.isAgg136
 z66:=Tryd.sizeOf136
 v66:=Tryd.zeroValue136
 t70:=Tryd.underlying140
 a70:=Tryd.isAgg140
 z70:=Tryd.sizeOf140
 v70:=Tryd.zeroValue140
 t76:=Tryd.underlying147
 a76:=Tryd.isAgg147
 z76:=Tryd.sizeOf147
 v76:=Tryd.zeroValue147
 t77:=Tryd.underlying85
 a77:=Tryd.isAgg85
 z77:=Tryd.sizeOf85
 v77:=Tryd.zeroValue85 }
def Tryd.cmpInt_ren:Go.Shelf.Ren:=⟨fun | 5 => 37 | 7 => 54 | n => n,fun | 22 => 3 | 3 => 3 | 4 => 4 | n => n,fun | n => n⟩
theorem Tryd.cmpInt:Go.Proofs.SlLaysC2.n5 Tryd.prog Tryd.cmpInt_ren:={
 mixed:=by kernel_rfl
 f5:=⟨Tryd.f37.name,by decide,Tryd.func37.trans (congrArg some (by kernel_rfl))⟩
 f7:=⟨Tryd.f54.name,by decide,Tryd.func54.trans (congrArg some (by kernel_rfl))⟩
 t3:=Tryd.underlying3
 a3:=Tryd.isAgg3
 z3:=Tryd.sizeOf3
 v3:=Tryd.zeroValue3
 t4:=Tryd.underlying4
 a4:=Tryd.isAgg4
 z4:=Tryd.sizeOf4
 v4:=Tryd.zeroValue4
 t22:=Tryd.underlying3
 a22:=Tryd.isAgg3
 z22:=Tryd.sizeOf3
 v22:=Tryd.zeroValue3 }
def Tryd.cloneA_ren:Go.Shelf.Ren:=⟨fun | 41 => 23 | n => n,fun | 22 => 28 | 23 => 47 | 4 => 4 | n => n,fun | n => n⟩
theorem Tryd.cloneA:Go.Proofs.SlLaysE0.n41 Tryd.prog Tryd.cloneA_ren:={
 mixed:=by kernel_rfl
 f41:=⟨Tryd.f23.name,by decide,Tryd.func23.trans (congrArg some (by kernel_rfl))⟩
 t4:=Tryd.underlying4
 a4:=Tryd.isAgg4
 z4:=Tryd.sizeOf4
 v4:=Tryd.zeroValue4
 t22:=Tryd.underlying28
 a22:=Tryd.isAgg28
 z22:=Tryd.sizeOf28
 v22:=Tryd.zeroValue28 }
end Go.Proofs
end
