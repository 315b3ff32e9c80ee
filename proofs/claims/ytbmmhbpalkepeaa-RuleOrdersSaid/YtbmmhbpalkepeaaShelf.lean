/- The program holds functions of the library: laid by the kit's tool. -/
import Derived.Shelf.SlIterI.Nil
import Derived.Shelf.SortM.Plain
import Derived.Shelf.SortM.SortNone
import Derived.Ground.GgzProg
import Derived.Ground.SlgmProg
import Derived.Test.YtbmmhbpalkepeaaProg
import Derived.Shelf.SlicesG.Cmp
import Derived.Shelf.SlSortCmp.Insertion1

set_option linter.unusedSimpArgs false
set_option linter.unusedVariables false
set_option linter.defProp false
section
namespace Go.Proofs
open Go.Shelf
def Try.keysA_ren : Go.Shelf.Ren := ⟨fun | 7 => 31 | 10 => 49 | n => n, fun | 23 => 64 | 26 => 3 | 3 => 43 | 28 => 67 | 0 => 0 | 27 => 66 | 33 => 76 | 4 => 4 | n => n, fun | n => n⟩
theorem Try.keysA : Go.Proofs.SlLaysZI.n7 Try.prog Try.keysA_ren := {
 mixed := by kernel_rfl
 f7 := ⟨Try.f31.name, by decide, Try.func31.trans (congrArg some (by kernel_rfl))⟩
 f10 := ⟨Try.f49.name, by decide, Try.func49.trans (congrArg some (by kernel_rfl))⟩
 t0 := Try.underlying0
 a0 := Try.isAgg0
 z0 := Try.sizeOf0
 v0 := Try.zeroValue0
 t4 := Try.underlying4
 a4 := Try.isAgg4
 z4 := Try.sizeOf4
 v4 := Try.zeroValue4
 t23 := Try.underlying64
 a23 := Try.isAgg64
 z23 := Try.sizeOf64
 v23 := Try.zeroValue64
 t26 := Try.underlying3
 a26 := Try.isAgg3
 z26 := Try.sizeOf3
 v26 := Try.zeroValue3
 t27 := Try.underlying66
 a27 := Try.isAgg66
 z27 := Try.sizeOf66
 v27 := Try.zeroValue66
 t28 := Try.underlying67
 a28 := Try.isAgg67
 z28 := Try.sizeOf67
 v28 := Try.zeroValue67
 t33 := Try.underlying76
 a33 := Try.isAgg76
 z33 := Try.sizeOf76
 v33 := Try.zeroValue76 }
def Try.sortedA_ren : Go.Shelf.Ren := ⟨fun | 6 => 30 | 8 => 47 | 9 => 48 | 11 => 54 | 13 => 56 | 12 => 55 | 23 => 68 | 24 => 69 | 14 => 59 | 15 => 60 | 16 => 61 | 17 => 62 | 18 => 63 | 19 => 64 | 20 => 65 | 21 => 66 | 22 => 67 | 25 => 71 | 26 => 72 | 27 => 73 | 28 => 74 | 29 => 75 | 30 => 51 | 31 => 77 | n => n, fun | 26 => 3 | 28 => 67 | 24 => 25 | 0 => 0 | 3 => 3 | 37 => 85 | 48 => 98 | 50 => 100 | 4 => 4 | 40 => 90 | 39 => 89 | 45 => 95 | 5 => 5 | 9 => 9 | 51 => 101 | 55 => 61 | 57 => 106 | 58 => 107 | 33 => 76 | n => n, fun | n => n⟩
theorem Try.sortedA : Go.Proofs.SlLaysZI.n6 Try.prog Try.sortedA_ren := {
 mixed := by kernel_rfl
 f6 := ⟨Try.f30.name, by decide, Try.func30.trans (congrArg some (by kernel_rfl))⟩
 f8 := ⟨Try.f47.name, by decide, Try.func47.trans (congrArg some (by kernel_rfl))⟩
 f11 := ⟨Try.f54.name, by decide, Try.func54.trans (congrArg some (by kernel_rfl))⟩
 t0 := Try.underlying0
 a0 := Try.isAgg0
 z0 := Try.sizeOf0
 v0 := Try.zeroValue0
 t24 := Try.underlying25
 a24 := Try.isAgg25
 z24 := Try.sizeOf25
 v24 := Try.zeroValue25
 t26 := Try.underlying3
 a26 := Try.isAgg3
 z26 := Try.sizeOf3
 v26 := Try.zeroValue3
 t28 := Try.underlying67
 a28 := Try.isAgg67
 z28 := Try.sizeOf67
 v28 := Try.zeroValue67
 i26 := by kernel_rfl }
def Try.sortA_ren : Go.Shelf.Ren := ⟨fun | 5 => 48 | 8 => 56 | 7 => 55 | 19 => 68 | 20 => 69 | 10 => 59 | 11 => 60 | 12 => 61 | 13 => 62 | 14 => 63 | 15 => 64 | 16 => 65 | 17 => 66 | 18 => 67 | 30 => 71 | 31 => 72 | 32 => 73 | 33 => 74 | 34 => 75 | 35 => 51 | 40 => 77 | n => n, fun | 23 => 25 | 25 => 3 | 3 => 3 | 32 => 85 | 22 => 25 | 0 => 0 | 44 => 98 | 46 => 100 | 4 => 4 | 36 => 90 | 35 => 89 | 41 => 95 | 5 => 5 | 9 => 9 | 53 => 101 | 57 => 61 | 63 => 106 | 64 => 107 | n => n, fun | n => n⟩
theorem Try.sortA : Go.Proofs.SlLaysM.n5 Try.prog Try.sortA_ren := {
 mixed := by kernel_rfl
 f5 := ⟨Try.f48.name, by decide, Try.func48.trans (congrArg some (by kernel_rfl))⟩
 f7 := ⟨Try.f55.name, by decide, Try.func55.trans (congrArg some (by kernel_rfl))⟩
 f8 := Try.func56.trans (congrArg some (by kernel_rfl))
 f10 := ⟨Try.f59.name, by decide, Try.func59.trans (congrArg some (by kernel_rfl))⟩
 f11 := ⟨Try.f60.name, by decide, Try.func60.trans (congrArg some (by kernel_rfl))⟩
 f12 := ⟨Try.f61.name, by decide, Try.func61.trans (congrArg some (by kernel_rfl))⟩
 f13 := ⟨Try.f62.name, by decide, Try.func62.trans (congrArg some (by kernel_rfl))⟩
 f14 := ⟨Try.f63.name, by decide, Try.func63.trans (congrArg some (by kernel_rfl))⟩
 f15 := ⟨Try.f64.name, by decide, Try.func64.trans (congrArg some (by kernel_rfl))⟩
 f16 := ⟨Try.f65.name, by decide, Try.func65.trans (congrArg some (by kernel_rfl))⟩
 f17 := ⟨Try.f66.name, by decide, Try.func66.trans (congrArg some (by kernel_rfl))⟩
 f18 := ⟨Try.f67.name, by decide, Try.func67.trans (congrArg some (by kernel_rfl))⟩
 f19 := Try.func68.trans (congrArg some (by kernel_rfl))
 f20 := Try.func69.trans (congrArg some (by kernel_rfl))
 f30 := ⟨Try.f71.name, by decide, Try.func71.trans (congrArg some (by kernel_rfl))⟩
 f31 := Try.func72.trans (congrArg some (by kernel_rfl))
 f32 := Try.func73.trans (congrArg some (by kernel_rfl))
 f33 := ⟨Try.f74.name, by decide, Try.func74.trans (congrArg some (by kernel_rfl))⟩
 f34 := ⟨Try.f75.name, by decide, Try.func75.trans (congrArg some (by kernel_rfl))⟩
 f35 := ⟨Try.f51.name, by decide, Try.func51.trans (congrArg some (by kernel_rfl))⟩
 f40 := ⟨Try.f77.name, by decide, Try.func77.trans (congrArg some (by kernel_rfl))⟩
 t0 := Try.underlying0
 a0 := Try.isAgg0
 z0 := Try.sizeOf0
 v0 := Try.zeroValue0
 t3 := Try.underlying3
 a3 := Try.isAgg3
 z3 := Try.sizeOf3
 v3 := Try.zeroValue3
 t4 := Try.underlying4
 a4 := Try.isAgg4
 z4 := Try.sizeOf4
 v4 := Try.zeroValue4
 t5 := Try.underlying5
 a5 := Try.isAgg5
 z5 := Try.sizeOf5
 v5 := Try.zeroValue5
 t9 := Try.underlying9
 a9 := Try.isAgg9
 z9 := Try.sizeOf9
 v9 := Try.zeroValue9
 t22 := Try.underlying25
 a22 := Try.isAgg25
 z22 := Try.sizeOf25
 v22 := Try.zeroValue25
 t23 := Try.underlying25
 a23 := Try.isAgg25
 z23 := Try.sizeOf25
 v23 := Try.zeroValue25
 t25 := Try.underlying3
 a25 := Try.isAgg3
 z25 := Try.sizeOf3
 v25 := Try.zeroValue3
 t32 := Try.underlying85
 a32 := Try.isAgg85
 z32 := Try.sizeOf85
 v32 := Try.zeroValue85
 t35 := Try.underlying89
 a35 := Try.isAgg89
 z35 := Try.sizeOf89
 v35 := Try.zeroValue89
 t36 := Try.underlying90
 a36 := Try.isAgg90
 z36 := Try.sizeOf90
 v36 := Try.zeroValue90
 t41 := Try.underlying95
 a41 := Try.isAgg95
 z41 := Try.sizeOf95
 v41 := Try.zeroValue95
 t44 := Try.underlying98
 a44 := Try.isAgg98
 z44 := Try.sizeOf98
 v44 := Try.zeroValue98
 t46 := Try.underlying100
 a46 := Try.isAgg100
 z46 := Try.sizeOf100
 v46 := Try.zeroValue100
 t53 := Try.underlying101
 a53 := Try.isAgg101
 z53 := Try.sizeOf101
 v53 := Try.zeroValue101
 t57 := Try.underlying61
 a57 := Try.isAgg61
 z57 := Try.sizeOf61
 v57 := Try.zeroValue61
 t63 := Try.underlying106
 a63 := Try.isAgg106
 z63 := Try.sizeOf106
 v63 := Try.zeroValue106
 t64 := Try.underlying107
 a64 := Try.isAgg107
 z64 := Try.sizeOf107
 v64 := Try.zeroValue107 }
def Try.cmpInt_ren : Go.Shelf.Ren := ⟨fun | 5 => 41 | 7 => 51 | n => n, fun | 22 => 3 | 3 => 3 | 4 => 4 | n => n, fun | n => n⟩
theorem Try.cmpInt : Go.Proofs.SlLaysC2.n5 Try.prog Try.cmpInt_ren := {
 mixed := by kernel_rfl
 f5 := ⟨Try.f41.name, by decide, Try.func41.trans (congrArg some (by kernel_rfl))⟩
 f7 := ⟨Try.f51.name, by decide, Try.func51.trans (congrArg some (by kernel_rfl))⟩
 t3 := Try.underlying3
 a3 := Try.isAgg3
 z3 := Try.sizeOf3
 v3 := Try.zeroValue3
 t4 := Try.underlying4
 a4 := Try.isAgg4
 z4 := Try.sizeOf4
 v4 := Try.zeroValue4
 t22 := Try.underlying3
 a22 := Try.isAgg3
 z22 := Try.sizeOf3
 v22 := Try.zeroValue3 }
def Try.insA_ren : Go.Shelf.Ren := ⟨fun | 20 => 57 | n => n, fun | 22 => 25 | 24 => 3 | 25 => 70 | 3 => 3 | 4 => 4 | 0 => 0 | n => n, fun | n => n⟩
theorem Try.insA : Go.Proofs.SlLaysF.n20 Try.prog Try.insA_ren := {
 mixed := by kernel_rfl
 f20 := ⟨Try.f57.name, by decide, Try.func57.trans (congrArg some (by kernel_rfl))⟩
 t0 := Try.underlying0
 a0 := Try.isAgg0
 z0 := Try.sizeOf0
 v0 := Try.zeroValue0
 t3 := Try.underlying3
 a3 := Try.isAgg3
 z3 := Try.sizeOf3
 v3 := Try.zeroValue3
 t4 := Try.underlying4
 a4 := Try.isAgg4
 z4 := Try.sizeOf4
 v4 := Try.zeroValue4
 t22 := Try.underlying25
 a22 := Try.isAgg25
 z22 := Try.sizeOf25
 v22 := Try.zeroValue25
 a24 := Try.isAgg3
 z24 := Try.sizeOf3
 t25 := Try.underlying70
 a25 := Try.isAgg70
 z25 := Try.sizeOf70
 v25 := Try.zeroValue70 }
end Go.Proofs
end
