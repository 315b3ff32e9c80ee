/- The functions' equations, by the evaluator. No condition. -/
import Derived.Test.YtadodmjdkphddaaDoorEvA
import Derived.Test.YtadodmjdkphddaaDoorProg
import Derived.KernelRfl
import Derived.Test.YtadodmjdkphddaaDoorEvD

section
set_option linter.unusedSimpArgs false
set_option linter.unusedVariables false
namespace Go.Proofs.YtadodmjdkphddaaDoor.N2
open Go Go.Abs
def keepT : FuncId → Nat → Option (List Nat) := fun f r =>
 if f = 12 then (if r = 7 then some [3, 4, 17, 18, 19] else if r = 10 then some [] else if r = 11 then some [3, 4, 6, 17, 18, 19] else if r = 13 then some [3, 4, 17, 18, 19] else if r = 8 then some [3, 4, 17, 18, 19] else if r = 20 then some [4, 7, 9, 10] else if r = 17 then some [4, 7] else if r = 14 then some [3, 4] else if r = 5 then some [0] else if r = 3 then some [0] else none) else
 if f = 16 then (if r = 7 then some [2, 3, 4, 5] else if r = 9 then some [2, 3, 4, 5, 50, 51, 52] else if r = 13 then some [2, 3, 4, 5, 50, 51, 52] else if r = 10 then some [2, 3, 4, 5, 50, 51, 52] else if r = 16 then some [2, 3, 4, 5] else if r = 14 then some [2, 3, 4, 5] else if r = 8 then some [2, 3, 4, 5] else if r = 3 then some [0, 2, 3] else none) else
 if f = 24 then (if r = 8 then some [2, 3, 23, 24, 25] else if r = 9 then some [2, 3, 23, 24, 25] else if r = 16 then some [2, 3, 45, 46, 47] else if r = 21 then some [2, 45, 46, 47] else if r = 22 then some [2, 3, 11, 45, 46, 47] else if r = 23 then some [2, 3, 45, 46, 47] else if r = 17 then some [2, 3, 45, 46, 47] else if r = 30 then some [2, 3] else none) else
 if f = 25 then (if r = 3 then some [1, 3, 8, 9, 10] else if r = 4 then some [1, 3, 8, 9, 10] else if r = 24 then some [1, 3] else if r = 26 then some [3] else if r = 7 then some [1, 3] else none) else
 if f = 26 then (if r = 5 then some [] else none) else
 if f = 27 then (if r = 2 then some [] else if r = 3 then some [0, 1] else none) else
 if f = 28 then (if r = 2 then some [0, 2, 3] else if r = 3 then some [0, 2, 3] else if r = 4 then some [2, 3] else none) else
 if f = 29 then (if r = 2 then some [0] else none) else
 if f = 32 then (if r = 2 then some [] else if r = 3 then some [0, 1] else none) else
 if f = 33 then (if r = 4 then some [] else if r = 2 then some [] else if r = 3 then some [0, 1] else if r = 5 then some [0, 1] else none) else
 if f = 34 then (if r = 4 then some [] else if r = 2 then some [1] else if r = 5 then some [1] else none) else
 if f = 35 then (if r = 2 then some [0, 2, 3] else if r = 7 then some [0, 2, 3] else if r = 3 then some [0, 2, 3] else if r = 9 then some [2, 3] else none) else
 if f = 36 then (if r = 6 then some [0, 1, 4] else none) else
 if f = 37 then (if r = 2 then some [0, 1, 7, 8] else if r = 6 then some [0, 1, 7, 8] else if r = 3 then some [0, 1, 7, 8] else if r = 7 then some [] else none) else
 if f = 38 then (if r = 3 then some [0] else none) else
 if f = 41 then (if r = 3 then some [0] else none) else
 if f = 42 then (if r = 26 then some [2] else none) else
 if f = 43 then (if r = 17 then some [6, 8] else if r = 13 then some [0, 6, 8] else if r = 11 then some [0, 2, 6, 7, 8] else none) else
 if f = 44 then (if r = 2 then some [0, 1, 7, 8] else if r = 6 then some [0, 1, 7, 8] else if r = 3 then some [0, 1, 7, 8] else if r = 7 then some [] else none) else
 if f = 45 then (if r = 2 then some [] else if r = 5 then some [0, 1] else if r = 6 then some [6, 7] else if r = 3 then some [0, 1] else none) else
 if f = 47 then (if r = 4 then some [4, 5] else none) else
 if f = 49 then (if r = 13 then some [0, 1, 4, 5] else if r = 15 then some [0, 1, 4, 5] else if r = 5 then some [0, 1, 4, 5] else none) else
 if f = 50 then (if r = 5 then some [0, 1, 4, 5, 6, 7, 8] else if r = 18 then some [4, 6] else if r = 15 then some [0, 4, 5, 6] else if r = 32 then some [0, 1, 4, 5, 6, 7, 8, 9] else if r = 35 then some [0, 1, 4, 5, 6, 7, 8, 9, 11, 15] else if r = 33 then some [0, 1, 4, 5, 6, 7, 8, 9, 11] else if r = 36 then some [0, 1, 4, 5, 6, 7, 8, 11, 15] else if r = 28 then some [0, 1, 4, 5, 6, 7, 8, 9, 11] else if r = 22 then some [0, 1, 4, 5, 6, 7, 8, 9] else if r = 6 then some [0, 1, 4, 5, 6, 7, 8] else if r = 7 then some [0, 1, 4, 5, 6, 7, 8] else if r = 38 then some [4] else none) else
 if f = 51 then (if r = 19 then some [0, 1, 4, 7] else if r = 23 then some [4, 7] else if r = 20 then some [0, 4, 7] else if r = 17 then some [0, 1, 4] else if r = 4 then some [0, 1, 4] else none) else
 if f = 52 then (if r = 7 then some [4] else if r = 8 then some [0, 1, 4] else if r = 6 then some [0, 1, 4] else if r = 10 then some [0, 1, 4, 5] else if r = 11 then some [4, 5] else if r = 9 then some [0, 1, 4, 5] else none) else
 if f = 54 then (if r = 3 then some [0] else none) else
 if f = 55 then (if r = 3 then some [0] else none) else
 if f = 56 then (if r = 11 then some [] else none) else
 if f = 57 then (if r = 16 then some [1] else if r = 17 then some [0, 2] else none) else
 if f = 59 then (if r = 2 then some [] else if r = 3 then some [0, 1] else none) else
 if f = 60 then (if r = 13 then some [0, 2, 5] else if r = 9 then some [0, 2, 5] else if r = 5 then some [0, 5] else none) else
 if f = 61 then (if r = 2 then some [0, 1, 7, 8] else if r = 6 then some [0, 1, 7, 8] else if r = 3 then some [0, 1, 7, 8] else if r = 7 then some [] else none) else
 if f = 63 then (if r = 3 then some [0, 3, 4] else if r = 5 then some [0, 3, 4] else if r = 6 then some [3] else none) else
 if f = 69 then (if r = 3 then some [3, 6, 7, 8] else if r = 6 then some [] else if r = 7 then some [5, 6, 7, 8] else if r = 8 then some [3, 6, 7, 8] else if r = 4 then some [3, 6, 7, 8] else if r = 9 then some [] else none) else
 if f = 70 then (if r = 4 then some [3, 4, 7, 8, 9] else if r = 8 then some [3, 6, 7, 8, 9] else if r = 9 then some [3, 4, 7, 8, 9] else if r = 5 then some [3, 4, 7, 8, 9] else if r = 12 then some [3] else if r = 10 then some [3, 4] else none) else
 if f = 71 then (if r = 4 then some [0] else if r = 2 then some [0] else if r = 3 then some [0] else if r = 5 then some [] else none) else
 if f = 73 then (if r = 2 then some [0, 1, 7, 8] else if r = 6 then some [0, 1, 7, 8] else if r = 3 then some [0, 1, 7, 8] else if r = 7 then some [] else none) else
 none
def ownT : FuncId → List Nat := fun f =>
 if f = 28 then [3, 9] else
 if f = 35 then [3, 23] else
 if f = 49 then [44] else
 if f = 56 then [2] else
 if f = 60 then [3, 6, 29] else
 if f = 70 then [3, 17, 31] else
 []
def rawT : FuncId → Bool := fun f => if f = 56 then true else if f = 60 then true else false
def nearT : FuncId → List Nat := fun f => []
def HH : Hints := ⟨keepT, ownT, rawT, nearT⟩
def XX : FuncId → Option (List AV → List Row → Option Res) := fun f => if f = 53 then some xDecode else if f = 68 then some xNormal else if f = 72 then some xConcat else none
noncomputable abbrev PP : Program := Tryd.prog
noncomputable abbrev EE : GF := E PP XX HH
noncomputable abbrev LL : LF := L PP XX HH
end Go.Proofs.YtadodmjdkphddaaDoor.N2
end
section
set_option linter.unusedSimpArgs false
set_option linter.unusedVariables false
namespace Go.Proofs.YtadodmjdkphddaaDoor.N2
open Go Go.Abs
set_option linter.unusedVariables false
set_option maxRecDepth 100000
noncomputable def Z69 : Code := bodyOf Tryd.f12
def Z7M (r0 : AV) (B : List Row) : Option Res :=
 ob (ob (some r0) fun v => ob (some []) fun vs => some (v :: vs)) fun vs => some ((nrmA (match vs with | [v] => v | vs => mkTup (vs.map shr))), B)
noncomputable def ZaS (m0 : Nat) : Kont := kret PP HH 12 Tryd.f12.results
noncomputable def Zlq (m0 : Nat) : Kont := kseq HH 12 m0 (l2 (l2 (l2 (l2 (l2 Z69))))) (exec PP HH 12 m0 EE LL (l2 (l2 (l2 (l2 (l2 Z69))))) (ZaS m0)) (ZaS m0)
noncomputable def Zgx (m0 : Nat) : Kont := kblk 0 (Zlq m0)
noncomputable def Ze4 (m0 : Nat) : Kont := kloop HH 12 m0 (l1 (l1 (l2 (l1 (l2 (l2 (l2 (l2 Z69)))))))) (LL 12 m0 (l1 (l1 (l2 (l1 (l2 (l2 (l2 (l2 Z69)))))))) (Zgx m0)) (Zgx m0)
noncomputable def Zk8 (m0 : Nat) : Kont := kseq HH 12 m0 (l2 (l2 (l2 (l1 (l1 (l2 (l1 (l2 (l2 (l2 (l2 Z69))))))))))) (exec PP HH 12 m0 EE LL (l2 (l2 (l2 (l1 (l1 (l2 (l1 (l2 (l2 (l2 (l2 Z69))))))))))) (Ze4 m0)) (Ze4 m0)
noncomputable def Zg2 (m0 : Nat) : Kont := kblk 1 (Zk8 m0)
noncomputable def Zkv (m0 : Nat) : Kont := kseq HH 12 m0 (l2 (l2 (l1 (l1 (l2 (l2 (l1 (l1 (l2 (l1 (l2 (l2 (l2 (l2 Z69)))))))))))))) (exec PP HH 12 m0 EE LL (l2 (l2 (l1 (l1 (l2 (l2 (l1 (l1 (l2 (l1 (l2 (l2 (l2 (l2 Z69)))))))))))))) (Zg2 m0)) (Zg2 m0)
noncomputable def ZfK (m0 : Nat) (x0 : AV) (B : List Row) : Option Res := exec PP HH 12 m0 EE LL (l2 (l2 Z69)) (ZaS m0) [(0, x0)] B
noncomputable def ZgE (m0 : Nat) (x0 : AV) (B : List Row) : Option Res := exec PP HH 12 m0 EE LL (l2 (l2 (l2 Z69))) (ZaS m0) [(0, x0)] B
noncomputable def ZbQ (m0 : Nat) (x3 x4 x17 x18 x19 : AV) (B : List Row) : Option Res := lp (LL 12 m0 (l1 (l1 (l2 (l1 (l2 (l2 (l2 (l2 Z69)))))))) (Zgx m0) [(3, x3), (4, x4), (17, x17), (18, x18), (19, x19)] B)
noncomputable def ZfL (m0 : Nat) (x3 x4 x17 x18 x19 : AV) (B : List Row) : Option Res := exec PP HH 12 m0 EE LL (l2 (l2 (l1 (l1 (l2 (l1 (l2 (l2 (l2 (l2 Z69)))))))))) (Ze4 m0) [(3, x3), (4, x4), (17, x17), (18, x18), (19, x19)] B
noncomputable def ZeO (m0 : Nat) (x3 x4 : AV) (B : List Row) : Option Res := exec PP HH 12 m0 EE LL (l2 (l2 (l2 (l2 (l2 Z69))))) (ZaS m0) [(3, x3), (4, x4)] B
noncomputable def Zdl (m0 : Nat) (B : List Row) : Option Res := exec PP HH 12 m0 EE LL (l1 (l2 (l1 (l2 (l1 (l1 (l2 (l2 (l1 (l1 (l2 (l1 (l2 (l2 (l2 (l2 Z69)))))))))))))))) (Zkv m0) [] B
noncomputable def Zf0 (m0 : Nat) (x3 x4 x6 x17 x18 x19 : AV) (B : List Row) : Option Res := exec PP HH 12 m0 EE LL (l2 (l2 (l1 (l1 (l2 (l2 (l1 (l1 (l2 (l1 (l2 (l2 (l2 (l2 Z69)))))))))))))) (Zg2 m0) [(3, x3), (4, x4), (6, x6), (17, x17), (18, x18), (19, x19)] B
noncomputable def Zf6 (m0 : Nat) (x4 x7 : AV) (B : List Row) : Option Res := exec PP HH 12 m0 EE LL (l2 (l2 (l2 (l2 (l2 (l2 (l2 Z69))))))) (ZaS m0) [(4, x4), (7, x7)] B
noncomputable def ZeL (m0 : Nat) (x3 x4 x17 x18 x19 : AV) (B : List Row) : Option Res := exec PP HH 12 m0 EE LL (l2 (l2 (l2 (l1 (l1 (l2 (l1 (l2 (l2 (l2 (l2 Z69))))))))))) (Ze4 m0) [(3, x3), (4, x4), (17, x17), (18, x18), (19, x19)] B
noncomputable def ZeV (m0 : Nat) (x4 x7 x9 x10 : AV) (B : List Row) : Option Res := exec PP HH 12 m0 EE LL (l2 (l2 (l2 (l2 (l2 (l2 (l2 (l2 (l2 Z69))))))))) (ZaS m0) [(4, x4), (7, x7), (9, x9), (10, x10)] B
theorem Zi4 (m0 : Nat) (x0 : AV) (B : List Row) : ZfK m0 x0 B =
 mk (ob (xlen PP 46 (shr x0)) fun a5 =>
 ob (xbin PP .gtr 3 a5 (iv 25)) fun a6 =>
 asB a6 fun t7 => br t7 (mk (Z7M (bv true) B))
 (ZgE m0 x0 (gcB m0 [x0] B))) := by kernel_rfl
theorem ZiT (m0 : Nat) (x0 : AV) (B : List Row) : ZgE m0 x0 B =
 mk (mk (ob (xlen PP 46 (shr x0)) fun a8 =>
 ZbQ m0 (.p (.v (.string (ByteArray.mk #[97])))) (iv 1) (shr x0) a8 (iv 0) (gcB m0 [(.p (.v (.string (ByteArray.mk #[97])))), (iv 1), (shr x0), a8, (iv 0)] B))) := by kernel_rfl
theorem Zjk (m0 : Nat) (x3 x4 x17 x18 x19 : AV) (B : List Row) : ZbQ m0 x3 x4 x17 x18 x19 B =
 mk (ob (xbin PP .lss 3 x19 x18) fun a9 =>
 asB a9 fun t10 => br t10 (ZfL m0 x3 x4 x17 x18 x19 (gcB m0 [x3, x4, x17, x18, x19] B))
 (ZeO m0 x3 x4 (gcB m0 [x3, x4] B))) := (L_eq PP XX HH _ _ _ _ _ _).trans (by kernel_rfl)
theorem Zjj (m0 : Nat) (x3 x4 x17 x18 x19 : AV) (B : List Row) : ZfL m0 x3 x4 x17 x18 x19 B =
 mk (ob (xidx 1 x17 x19) fun a11 =>
 ob (ldN false 1 a11 B) fun a12 =>
 mk (ob (xbin PP .lss 3 (shr (shr a12)) (iv 0)) fun a13 =>
 asB (shr a13) fun t14 => br t14 (Zdl m0  (gcB m0 [] B))
 (ob (xbin PP .gtr 3 (shr (shr a12)) (iv 64)) fun a15 =>
 asB (shr a15) fun t16 => br t16 (Zdl m0  (gcB m0 [] B))
 (Zf0 m0 x3 x4 (shr a12) x17 x18 x19 (gcB m0 [x3, x4, (shr a12), x17, x18, x19] B))))) := by kernel_rfl
theorem ZhD (m0 : Nat) (x3 x4 : AV) (B : List Row) : ZeO m0 x3 x4 B =
 mk (callS false EE 16 [(shr x3)] B fun a17 B18 =>
 ob (xext 0 (shr a17)) fun a19 =>
 ob (xext 1 (shr a17)) fun a20 =>
 bz PP 29 B18 fun a21 B22 =>
 bz PP 32 B22 fun a23 B24 =>
 stN 9 a21 (shr a19) B24 fun B25 =>
 stN 2 a23 (shr a20) B25 fun B26 =>
 mk (ob (xfld 0 a23) fun a27 =>
 ob (ldN false 1 a27 B26) fun a28 =>
 ob (xbin PP .neq 30 a28 (iv 0)) fun a29 =>
 asB a29 fun t30 => br t30 (mk (ob (xfld 0 a23) fun a31 =>
 ob (ldN false 1 a31 B26) fun a32 =>
 ob (xbin PP .eql 30 a32 (iv 12)) fun a33 =>
 Z7M (shr a33) B26))
 (Zf6 m0 x4 a21 (gcB m0 [x4, a21] B26)))) := by kernel_rfl
theorem Zhv (m0 : Nat) (B : List Row) : Zdl m0  B =
 mk (Z7M (bv true) B) := by kernel_rfl
theorem Zhc (m0 : Nat) (x3 x4 x6 x17 x18 x19 : AV) (B : List Row) : Zf0 m0 x3 x4 x6 x17 x18 x19 B =
 mk (ob (xbin PP .add 9 (.p (.v (.string (ByteArray.mk #[40, 63, 58])))) (shr x3)) fun a34 =>
 ob (xbin PP .add 9 a34 (.p (.v (.string (ByteArray.mk #[41, 123]))))) fun a35 =>
 ob (xbin PP .quo 3 (shr x6) (iv 10)) fun a36 =>
 ob (xbin PP .add 3 (iv 48) a36) fun a37 =>
 ob (xcnv PP 3 5 a37) fun a38 =>
 ob (xbin PP .rem 3 (shr x6) (iv 10)) fun a39 =>
 ob (xbin PP .add 3 (iv 48) a39) fun a40 =>
 ob (xcnv PP 3 5 a40) fun a41 =>
 ob (xlit PP 40 2 [(0, a38), (1, a41)]) fun a42 =>
 ob (xcnv PP 40 9 a42) fun a43 =>
 ob (xbin PP .add 9 a35 a43) fun a44 =>
 ob (xbin PP .add 9 a44 (.p (.v (.string (ByteArray.mk #[125]))))) fun a45 =>
 mk (ob (xbin PP .mul 3 (shr x4) (shr x6)) fun a46 =>
 ob (xminmax PP false [a46, (iv 1048576)]) fun a47 =>
 ZeL m0 (shr a45) (shr a47) x17 x18 x19 (gcB m0 [(shr a45), (shr a47), x17, x18, x19] B))) := by kernel_rfl
theorem Zhq (m0 : Nat) (x4 x7 : AV) (B : List Row) : Zf6 m0 x4 x7 B =
 mk (ob (xfld 0 x7) fun a48 =>
 ob (ldN true 7 a48 B) fun a49 =>
 callS false EE 24 [a49] B fun a50 B51 =>
 ob (xext 0 (shr a50)) fun a52 =>
 ob (xext 1 (shr a50)) fun a53 =>
 mk (ob (xfld 0 x7) fun a54 =>
 ob (ldN true 7 a54 B51) fun a55 =>
 callS false EE 25 [a55] B51 fun a56 B57 =>
 ob (xbin PP .neq 3 a56 (shr x4)) fun a58 =>
 asB a58 fun t59 => br t59 (mk (Z7M (bv false) B57))
 (ZeV m0 x4 x7 (shr (shr a52)) (shr (shr a53)) (gcB m0 [x4, x7, (shr (shr a52)), (shr (shr a53))] B57)))) := by kernel_rfl
theorem ZhP (m0 : Nat) (x3 x4 x17 x18 x19 : AV) (B : List Row) : ZeL m0 x3 x4 x17 x18 x19 B =
 mk (ob (xbin PP .add 3 x19 (iv 1)) fun a60 =>
 ZbQ m0 x3 x4 x17 x18 (shr a60) (gcB m0 [x3, x4, x17, x18, (shr a60)] B)) := by kernel_rfl
theorem Zhk (m0 : Nat) (x4 x7 x9 x10 : AV) (B : List Row) : ZeV m0 x4 x7 x9 x10 B =
 mk (ob (ldN true 9 x7 B) fun a61 =>
 callS false EE 26 [a61] B fun a62 B63 =>
 mk (ob (xbin PP .eql 30 (shr (shr a62)) (iv 28)) fun a64 =>
 ob (xbin PP .gtr 3 (shr x4) (iv 1997)) fun a65 =>
 ob (xbin PP .eql 4 a64 a65) fun a66 =>
 asB (shr a66) fun t67 => br t67 (ob (xbin PP .eql 3 (shr x9) (shr x4)) fun a68 =>
 asB (shr (shr a68)) fun t69 => br t69 (ob (xbin PP .eql 3 (shr x10) (shr x4)) fun a70 =>
 asB (shr a70) fun t71 => br t71 (Z7M (bv true) B63)
 (ob (xbin PP .lss 3 (shr x10) (iv 0)) fun a72 =>
 Z7M (shr (shr (shr a72))) B63))
 (Z7M (bv false) B63))
 (Z7M (bv false) B63))) := by kernel_rfl
theorem Zkr (x0 : AV) (B : List Row) : EE 12 [x0] B =
 (let m0 := B.length
 mk (mk (callS false EE 23 [] B fun a1 B2 =>
 ob (xun PP .not a1) fun a3 =>
 asB a3 fun t4 => br t4 (mk (Z7M (bv false) B2))
 (ZfK m0 x0 (gcB m0 [x0] B2))))) := (E_eq PP XX HH _ _ _).trans (by kernel_rfl)
noncomputable def Z7j : Code := bodyOf Tryd.f16
def ZeY (r0 r1 : AV) (B : List Row) : Option Res :=
 ob (ob (ldN true 9 r0 B) fun v => ob (ob (ldN true 2 r1 B) fun v => ob (some []) fun vs => some (v :: vs)) fun vs => some (v :: vs)) fun vs => some ((nrmA (match vs with | [v] => v | vs => mkTup (vs.map shr))), B)
noncomputable def Zac (m0 : Nat) : Kont := kret PP HH 16 Tryd.f16.results
noncomputable def Zkq (m0 : Nat) : Kont := kseq HH 16 m0 (l2 (l2 (l2 (l2 (l2 (l2 Z7j)))))) (exec PP HH 16 m0 EE LL (l2 (l2 (l2 (l2 (l2 (l2 Z7j)))))) (Zac m0)) (Zac m0)
noncomputable def Zlh (m0 : Nat) : Kont := kseq HH 16 m0 (l2 (l2 (l2 (l2 (l2 (l2 (l2 Z7j))))))) (exec PP HH 16 m0 EE LL (l2 (l2 (l2 (l2 (l2 (l2 (l2 Z7j))))))) (Zac m0)) (Zac m0)
noncomputable def ZfI (m0 : Nat) : Kont := kblk 0 (Zlh m0)
noncomputable def Zi2 (m0 : Nat) : Kont := kloop HH 16 m0 (l1 (l1 (l2 (l1 (l2 (l2 (l2 (l2 (l2 (l2 Z7j)))))))))) (LL 16 m0 (l1 (l1 (l2 (l1 (l2 (l2 (l2 (l2 (l2 (l2 Z7j)))))))))) (ZfI m0)) (ZfI m0)
noncomputable def ZfX (m0 : Nat) (x0 x2 x3 : AV) (B : List Row) : Option Res := exec PP HH 16 m0 EE LL (l2 (l2 Z7j)) (Zac m0) [(0, x0), (2, x2), (3, x3)] B
noncomputable def Zgs (m0 : Nat) (x2 x3 x4 x5 : AV) (B : List Row) : Option Res := exec PP HH 16 m0 EE LL (l1 (l2 (l1 (l2 (l2 (l2 (l2 (l2 Z7j)))))))) (Zkq m0) [(2, x2), (3, x3), (4, x4), (5, x5)] B
noncomputable def Zdh (m0 : Nat) (x2 x3 x4 x5 : AV) (B : List Row) : Option Res := exec PP HH 16 m0 EE LL (l2 (l2 (l2 (l2 (l2 (l2 Z7j)))))) (Zac m0) [(2, x2), (3, x3), (4, x4), (5, x5)] B
noncomputable def ZbR (m0 : Nat) (x2 x3 x4 x5 x50 x51 x52 : AV) (B : List Row) : Option Res := lp (LL 16 m0 (l1 (l1 (l2 (l1 (l2 (l2 (l2 (l2 (l2 (l2 Z7j)))))))))) (ZfI m0) [(2, x2), (3, x3), (4, x4), (5, x5), (50, x50), (51, x51), (52, x52)] B)
noncomputable def Zf8 (m0 : Nat) (x2 x3 x4 x5 x50 x51 x52 : AV) (B : List Row) : Option Res := exec PP HH 16 m0 EE LL (l2 (l2 (l1 (l1 (l2 (l1 (l2 (l2 (l2 (l2 (l2 (l2 Z7j)))))))))))) (Zi2 m0) [(2, x2), (3, x3), (4, x4), (5, x5), (50, x50), (51, x51), (52, x52)] B
noncomputable def ZeT (m0 : Nat) (x2 x3 x4 x5 : AV) (B : List Row) : Option Res := exec PP HH 16 m0 EE LL (l2 (l2 (l2 (l2 (l2 (l2 (l2 Z7j))))))) (Zac m0) [(2, x2), (3, x3), (4, x4), (5, x5)] B
noncomputable def Zdo (m0 : Nat) (x2 x3 x4 x5 x50 x51 x52 : AV) (B : List Row) : Option Res := exec PP HH 16 m0 EE LL (l2 (l2 (l2 (l1 (l1 (l2 (l1 (l2 (l2 (l2 (l2 (l2 (l2 Z7j))))))))))))) (Zi2 m0) [(2, x2), (3, x3), (4, x4), (5, x5), (50, x50), (51, x51), (52, x52)] B
noncomputable def ZeR (m0 : Nat) (x2 x3 x4 x5 : AV) (B : List Row) : Option Res := exec PP HH 16 m0 EE LL (l2 (l2 (l2 (l2 (l2 (l2 (l2 (l2 Z7j)))))))) (Zac m0) [(2, x2), (3, x3), (4, x4), (5, x5)] B
theorem Zir (m0 : Nat) (x0 x2 x3 : AV) (B : List Row) : ZfX m0 x0 x2 x3 B =
 mk (ob (xcnv PP 9 40 (shr x0)) fun a12 =>
 ob (xbuild PP 58 [(0, a12)]) fun a13 =>
 bx a13 B fun a14 B15 =>
 mk (callS false EE 27 [(shr (shr a14)), (.p (.v (.string (ByteArray.mk #[40, 63, 105, 41]))))] B15 fun a16 B17 =>
 ob (xbuild PP 29 [(2, a16)]) fun a18 =>
 bz PP 29 B17 fun a19 B20 =>
 stN 9 a19 a18 B20 fun B21 =>
 mk (callS false EE 28 [(shr (shr a14))] B21 fun a22 B23 =>
 ob (xfld 0 a19) fun a24 =>
 stN 7 a24 a22 B23 fun B25 =>
 mk (ob (xnilchk (shr (shr a14))) fun a26 =>
 ob (xfld 5 a26) fun a27 =>
 ob (xfld 0 a27) fun a28 =>
 ob (ldN false 1 a28 B25) fun a29 =>
 ob (xbin PP .eql 30 a29 (iv 0)) fun a30 =>
 asB (shr a30) fun t31 => br t31 (ob (xnilchk (shr (shr a14))) fun a32 =>
 ob (xfld 1 a32) fun a33 =>
 ob (ldN false 1 a33 B25) fun a34 =>
 ob (xnilchk (shr (shr a14))) fun a35 =>
 ob (xfld 0 a35) fun a36 =>
 ob (ldN false 1 a36 B25) fun a37 =>
 ob (xlen PP 40 a37) fun a38 =>
 ob (xbin PP .lss 3 a34 a38) fun a39 =>
 asB (shr a39) fun t40 => br t40 (Zgs m0 x2 x3 (shr a14) a19 (gcB m0 [x2, x3, (shr a14), a19] B25))
 (Zdh m0 x2 x3 (shr a14) a19 (gcB m0 [x2, x3, (shr a14), a19] B25)))
 (Zdh m0 x2 x3 (shr a14) a19 (gcB m0 [x2, x3, (shr a14), a19] B25)))))) := by kernel_rfl
theorem Zjr (m0 : Nat) (x2 x3 x4 x5 : AV) (B : List Row) : Zgs m0 x2 x3 x4 x5 B =
 mk (ob (xnilchk (shr x4)) fun a41 =>
 ob (xfld 1 a41) fun a42 =>
 ob (ldN false 1 a42 B) fun a43 =>
 callS false EE 29 [(shr x4), (iv 20), a43] B fun a44 B45 =>
 Zdh m0 x2 x3 x4 x5 (gcB m0 [x2, x3, x4, x5] B45)) := by kernel_rfl
theorem Zi1 (m0 : Nat) (x2 x3 x4 x5 : AV) (B : List Row) : Zdh m0 x2 x3 x4 x5 B =
 mk (ob (xnilchk (shr x4)) fun a46 =>
 ob (xfld 4 a46) fun a47 =>
 ob (ldN false 1 a47 B) fun a48 =>
 ob (xlen PP 56 a48) fun a49 =>
 ZbR m0 x2 x3 x4 x5 a48 a49 (iv 0) (gcB m0 [x2, x3, x4, x5, a48, a49, (iv 0)] B)) := by kernel_rfl
theorem ZiO (m0 : Nat) (x2 x3 x4 x5 x50 x51 x52 : AV) (B : List Row) : ZbR m0 x2 x3 x4 x5 x50 x51 x52 B =
 mk (ob (xbin PP .lss 3 x52 x51) fun a50 =>
 asB a50 fun t51 => br t51 (Zf8 m0 x2 x3 x4 x5 x50 x51 x52 (gcB m0 [x2, x3, x4, x5, x50, x51, x52] B))
 (ZeT m0 x2 x3 x4 x5 (gcB m0 [x2, x3, x4, x5] B))) := (L_eq PP XX HH _ _ _ _ _ _).trans (by kernel_rfl)
theorem ZhA (m0 : Nat) (x2 x3 x4 x5 x50 x51 x52 : AV) (B : List Row) : Zf8 m0 x2 x3 x4 x5 x50 x51 x52 B =
 mk (ob (xidx 2 x50 x52) fun a52 =>
 ob (ldN true 2 a52 B) fun a53 =>
 bz PP 62 B fun a54 B55 =>
 stN 2 a54 a53 B55 fun B56 =>
 mk (ob (xfld 0 a54) fun a57 =>
 ob (ldN false 1 a57 B56) fun a58 =>
 ob (xnilchk (shr x4)) fun a59 =>
 ob (xfld 2 a59) fun a60 =>
 ob (ldN false 1 a60 B56) fun a61 =>
 ob (xbin PP .gtr 3 a58 a61) fun a62 =>
 asB a62 fun t63 => br t63 (mk (ob (xfld 1 a54) fun a64 =>
 ob (ldN false 1 a64 B56) fun a65 =>
 callS false EE 29 [(shr x4), (iv 26), a65] B56 fun a66 B67 =>
 Zdo m0 x2 x3 x4 x5 x50 x51 x52 (gcB m0 [x2, x3, x4, x5, x50, x51, x52] B67)))
 (Zdo m0 x2 x3 x4 x5 x50 x51 x52 (gcB m0 [x2, x3, x4, x5, x50, x51, x52] B56)))) := by kernel_rfl
theorem Zhd (m0 : Nat) (x2 x3 x4 x5 : AV) (B : List Row) : ZeT m0 x2 x3 x4 x5 B =
 mk (ob (xnilchk (shr x4)) fun a68 =>
 ob (xfld 5 a68) fun a69 =>
 ob (xfld 0 a69) fun a70 =>
 ob (ldN false 1 a70 B) fun a71 =>
 ob (xbin PP .neq 30 a71 (iv 0)) fun a72 =>
 asB a72 fun t73 => br t73 (mk (ob (xbuild PP 29 []) fun a74 =>
 ob (xnilchk (shr x4)) fun a75 =>
 ob (xfld 5 a75) fun a76 =>
 ob (ldN true 2 a76 B) fun a77 =>
 stN 9 x2 a74 B fun B78 =>
 stN 2 x3 a77 B78 fun B79 =>
 grd (ptrNe a76 x2) (ZeY x2 x3 B79)))
 (ZeR m0 x2 x3 x4 x5 (gcB m0 [x2, x3, x4, x5] B))) := by kernel_rfl
theorem ZhK (m0 : Nat) (x2 x3 x4 x5 x50 x51 x52 : AV) (B : List Row) : Zdo m0 x2 x3 x4 x5 x50 x51 x52 B =
 mk (ob (xbin PP .add 3 x52 (iv 1)) fun a80 =>
 ZbR m0 x2 x3 x4 x5 x50 x51 (shr a80) (gcB m0 [x2, x3, x4, x5, x50, x51, (shr a80)] B)) := by kernel_rfl
theorem ZhI (m0 : Nat) (x2 x3 x4 x5 : AV) (B : List Row) : ZeR m0 x2 x3 x4 x5 B =
 mk (ob (xnilchk (shr x4)) fun a81 =>
 ob (xfld 2 a81) fun a82 =>
 ob (ldN false 1 a82 B) fun a83 =>
 ob (xfld 7 x5) fun a84 =>
 stN 1 a84 a83 B fun B85 =>
 mk (ob (ldN true 9 x5 B85) fun a86 =>
 ob (xbuild PP 32 []) fun a87 =>
 stN 9 x2 a86 B85 fun B88 =>
 stN 2 x3 a87 B88 fun B89 =>
 ZeY x2 x3 B89)) := by kernel_rfl
theorem Zkz (x0 : AV) (B : List Row) : EE 16 [x0] B =
 (let m0 := B.length
 mk (bz PP 29 B fun a1 B2 =>
 bz PP 32 B2 fun a3 B4 =>
 mk (ob (xlen PP 9 (shr x0)) fun a5 =>
 ob (xbin PP .gtr 3 a5 (iv 256)) fun a6 =>
 asB a6 fun t7 => br t7 (mk (ob (xbuild PP 29 []) fun a8 =>
 ob (xbuild PP 32 [(0, (iv 12))]) fun a9 =>
 stN 9 a1 a8 B4 fun B10 =>
 stN 2 a3 a9 B10 fun B11 =>
 ZeY a1 a3 B11))
 (ZfX m0 x0 a1 a3 (gcB m0 [x0, a1, a3] B4))))) := (E_eq PP XX HH _ _ _).trans (by kernel_rfl)
noncomputable def ZlI : Code := bodyOf Tryd.f19
def ZjG (r0 : AV) (B : List Row) : Option Res :=
 ob (ob (some r0) fun v => ob (some []) fun vs => some (v :: vs)) fun vs => some ((nrmA (match vs with | [v] => v | vs => mkTup (vs.map shr))), B)
theorem ZkK (x0 x1 : AV) (B : List Row) : EE 19 [x0, x1] B =
 (let m0 := B.length
 mk (bx x1 B fun a1 B2 =>
 mk (callS false EE 30 [(shr x0), (.clo 31 ([].map nrmA) ([a1].map nrmA))] B2 fun a3 B4 =>
 ZjG (shr a3) B4))) := (E_eq PP XX HH _ _ _).trans (by kernel_rfl)
noncomputable def ZlL : Code := bodyOf Tryd.f23
def ZaP (r0 : AV) (B : List Row) : Option Res :=
 ob (ob (some r0) fun v => ob (some []) fun vs => some (v :: vs)) fun vs => some ((nrmA (match vs with | [v] => v | vs => mkTup (vs.map shr))), B)
theorem ZjV (B : List Row) : EE 23 [] B =
 (let m0 := B.length
 mk (mk (callS false EE 16 [(.p (.v (.string (ByteArray.mk #[97, 123, 50, 44, 51, 125, 124, 98, 42]))))] B fun a1 B2 =>
 ob (xext 0 (shr a1)) fun a3 =>
 ob (xext 1 (shr a1)) fun a4 =>
 bz PP 29 B2 fun a5 B6 =>
 bz PP 32 B6 fun a7 B8 =>
 stN 9 a5 (shr a3) B8 fun B9 =>
 stN 2 a7 (shr a4) B9 fun B10 =>
 mk (ob (xfld 0 a5) fun a11 =>
 ob (ldN true 7 a11 B10) fun a12 =>
 callS false EE 24 [a12] B10 fun a13 B14 =>
 ob (xext 0 (shr a13)) fun a15 =>
 ob (xext 1 (shr a13)) fun a16 =>
 mk (callS false EE 16 [(.p (.v (.string (ByteArray.mk #[97, 42]))))] B14 fun a17 B18 =>
 ob (xext 0 (shr a17)) fun a19 =>
 ob (xext 1 (shr a17)) fun a20 =>
 bz PP 29 B18 fun a21 B22 =>
 bz PP 32 B22 fun a23 B24 =>
 stN 9 a21 (shr a19) B24 fun B25 =>
 stN 2 a23 (shr a20) B25 fun B26 =>
 mk (ob (xfld 0 a7) fun a27 =>
 ob (ldN false 1 a27 B26) fun a28 =>
 ob (xbin PP .eql 30 a28 (iv 0)) fun a29 =>
 asB (shr a29) fun t30 => br t30 (ob (xfld 0 a23) fun a31 =>
 ob (ldN false 1 a31 B26) fun a32 =>
 ob (xbin PP .eql 30 a32 (iv 0)) fun a33 =>
 asB (shr (shr a33)) fun t34 => br t34 (ob (xbin PP .eql 3 (shr (shr (shr a15))) (iv 0)) fun a35 =>
 asB (shr (shr a35)) fun t36 => br t36 (ob (xbin PP .eql 3 (shr (shr (shr a16))) (iv (-1))) fun a37 =>
 asB (shr (shr a37)) fun t38 => br t38 (ob (xfld 0 a5) fun a39 =>
 ob (ldN true 7 a39 B26) fun a40 =>
 callS false EE 25 [a40] B26 fun a41 B42 =>
 ob (xbin PP .eql 3 a41 (iv 11)) fun a43 =>
 asB (shr (shr a43)) fun t44 => br t44 (ob (ldN true 9 a5 B42) fun a45 =>
 callS false EE 26 [a45] B42 fun a46 B47 =>
 ob (xbin PP .eql 30 a46 (iv 0)) fun a48 =>
 ZaP (shr (shr a48)) B47)
 (ZaP (bv false) B42))
 (ZaP (bv false) B26))
 (ZaP (bv false) B26))
 (ZaP (bv false) B26))
 (ZaP (bv false) B26))))))) := (E_eq PP XX HH _ _ _).trans (by kernel_rfl)
noncomputable def Z6E : Code := bodyOf Tryd.f24
def ZaQ (r0 r1 : AV) (B : List Row) : Option Res :=
 ob (ob (some r0) fun v => ob (ob (some r1) fun v => ob (some []) fun vs => some (v :: vs)) fun vs => some (v :: vs)) fun vs => some ((nrmA (match vs with | [v] => v | vs => mkTup (vs.map shr))), B)
noncomputable def ZfQ (m0 : Nat) : Kont := kret PP HH 24 Tryd.f24.results
noncomputable def ZkQ (m0 : Nat) : Kont := kseq HH 24 m0 (l2 (l2 Z6E)) (exec PP HH 24 m0 EE LL (l2 (l2 Z6E)) (ZfQ m0)) (ZfQ m0)
noncomputable def Zj5 (m0 : Nat) : Kont := kblk 0 (ZkQ m0)
noncomputable def Zfk (m0 : Nat) : Kont := kblk 1 (Zj5 m0)
noncomputable def ZfA (m0 : Nat) : Kont := kblk 3 (Zj5 m0)
noncomputable def Zlo (m0 : Nat) : Kont := kloop HH 24 m0 (l1 (l1 (l2 (l1 (l2 (l2 (l2 (l2 (l2 (l1 (l2 (l1 (l2 Z6E))))))))))))) (LL 24 m0 (l1 (l1 (l2 (l1 (l2 (l2 (l2 (l2 (l2 (l1 (l2 (l1 (l2 Z6E))))))))))))) (Zfk m0)) (Zfk m0)
noncomputable def Zea (m0 : Nat) : Kont := kloop HH 24 m0 (l1 (l1 (l2 (l2 (l1 (l2 (l2 (l2 (l2 (l2 (l2 (l2 (l1 (l2 (l1 (l2 Z6E)))))))))))))))) (LL 24 m0 (l1 (l1 (l2 (l2 (l1 (l2 (l2 (l2 (l2 (l2 (l2 (l2 (l1 (l2 (l1 (l2 Z6E)))))))))))))))) (ZfA m0)) (ZfA m0)
noncomputable def ZjZ (m0 : Nat) : Kont := kseq HH 24 m0 (l2 (l2 (l2 (l1 (l1 (l2 (l2 (l1 (l2 (l2 (l2 (l2 (l2 (l2 (l2 (l1 (l2 (l1 (l2 Z6E))))))))))))))))))) (exec PP HH 24 m0 EE LL (l2 (l2 (l2 (l1 (l1 (l2 (l2 (l1 (l2 (l2 (l2 (l2 (l2 (l2 (l2 (l1 (l2 (l1 (l2 Z6E))))))))))))))))))) (Zea m0)) (Zea m0)
noncomputable def ZiP (m0 : Nat) : Kont := kblk 4 (ZjZ m0)
noncomputable def Zcj (m0 : Nat) (x2 x3 x23 x24 x25 : AV) (B : List Row) : Option Res := lp (LL 24 m0 (l1 (l1 (l2 (l1 (l2 (l2 (l2 (l2 (l2 (l1 (l2 (l1 (l2 Z6E))))))))))))) (Zfk m0) [(2, x2), (3, x3), (23, x23), (24, x24), (25, x25)] B)
noncomputable def ZaK (m0 : Nat) (x2 x3 x45 x46 x47 : AV) (B : List Row) : Option Res := lp (LL 24 m0 (l1 (l1 (l2 (l2 (l1 (l2 (l2 (l2 (l2 (l2 (l2 (l2 (l1 (l2 (l1 (l2 Z6E)))))))))))))))) (ZfA m0) [(2, x2), (3, x3), (45, x45), (46, x46), (47, x47)] B)
noncomputable def ZaJ (m0 : Nat) (x2 x3 : AV) (B : List Row) : Option Res := exec PP HH 24 m0 EE LL (l2 (l2 Z6E)) (ZfQ m0) [(2, x2), (3, x3)] B
noncomputable def Zg7 (m0 : Nat) (x2 x3 x23 x24 x25 : AV) (B : List Row) : Option Res := exec PP HH 24 m0 EE LL (l2 (l2 (l1 (l1 (l2 (l1 (l2 (l2 (l2 (l2 (l2 (l1 (l2 (l1 (l2 Z6E))))))))))))))) (Zlo m0) [(2, x2), (3, x3), (23, x23), (24, x24), (25, x25)] B
noncomputable def ZeS (m0 : Nat) (x2 x3 x45 x46 x47 : AV) (B : List Row) : Option Res := exec PP HH 24 m0 EE LL (l2 (l2 (l1 (l1 (l2 (l2 (l1 (l2 (l2 (l2 (l2 (l2 (l2 (l2 (l1 (l2 (l1 (l2 Z6E)))))))))))))))))) (Zea m0) [(2, x2), (3, x3), (45, x45), (46, x46), (47, x47)] B
noncomputable def Zdy (m0 : Nat) (x2 x45 x46 x47 : AV) (B : List Row) : Option Res := exec PP HH 24 m0 EE LL (l1 (l2 (l2 (l2 (l2 (l1 (l1 (l2 (l2 (l1 (l1 (l2 (l2 (l1 (l2 (l2 (l2 (l2 (l2 (l2 (l2 (l1 (l2 (l1 (l2 Z6E))))))))))))))))))))))))) (ZiP m0) [(2, x2), (45, x45), (46, x46), (47, x47)] B
noncomputable def Zf2 (m0 : Nat) (x2 x3 x11 x45 x46 x47 : AV) (B : List Row) : Option Res := exec PP HH 24 m0 EE LL (l2 (l2 (l2 (l2 (l2 (l1 (l1 (l2 (l2 (l1 (l1 (l2 (l2 (l1 (l2 (l2 (l2 (l2 (l2 (l2 (l2 (l1 (l2 (l1 (l2 Z6E))))))))))))))))))))))))) (ZiP m0) [(2, x2), (3, x3), (11, x11), (45, x45), (46, x46), (47, x47)] B
noncomputable def Zdm (m0 : Nat) (x2 x3 x45 x46 x47 : AV) (B : List Row) : Option Res := exec PP HH 24 m0 EE LL (l2 (l2 (l2 (l1 (l1 (l2 (l2 (l1 (l2 (l2 (l2 (l2 (l2 (l2 (l2 (l1 (l2 (l1 (l2 Z6E))))))))))))))))))) (Zea m0) [(2, x2), (3, x3), (45, x45), (46, x46), (47, x47)] B
theorem Zjb (m0 : Nat) (x2 x3 x23 x24 x25 : AV) (B : List Row) : Zcj m0 x2 x3 x23 x24 x25 B =
 mk (ob (xbin PP .lss 3 x25 x24) fun a58 =>
 asB a58 fun t59 => br t59 (Zg7 m0 x2 x3 x23 x24 x25 (gcB m0 [x2, x3, x23, x24, x25] B))
 (ZaJ m0 x2 x3 (gcB m0 [x2, x3] B))) := (L_eq PP XX HH _ _ _ _ _ _).trans (by kernel_rfl)
theorem ZhF (m0 : Nat) (x2 x3 x45 x46 x47 : AV) (B : List Row) : ZaK m0 x2 x3 x45 x46 x47 B =
 mk (ob (xbin PP .lss 3 x47 x46) fun a60 =>
 asB a60 fun t61 => br t61 (ZeS m0 x2 x3 x45 x46 x47 (gcB m0 [x2, x3, x45, x46, x47] B))
 (ZaJ m0 x2 x3 (gcB m0 [x2, x3] B))) := (L_eq PP XX HH _ _ _ _ _ _).trans (by kernel_rfl)
theorem Zh9 (m0 : Nat) (x2 x3 : AV) (B : List Row) : ZaJ m0 x2 x3 B =
 mk (ZaQ (shr (shr x2)) (shr (shr x3)) B) := by kernel_rfl
theorem Zja (m0 : Nat) (x2 x3 x23 x24 x25 : AV) (B : List Row) : Zg7 m0 x2 x3 x23 x24 x25 B =
 mk (ob (xidx 7 x23 x25) fun a62 =>
 ob (ldN true 7 a62 B) fun a63 =>
 bz PP 27 B fun a64 B65 =>
 stN 7 a64 a63 B65 fun B66 =>
 mk (ob (ldN true 7 a64 B66) fun a67 =>
 callS false EE 24 [a67] B66 fun a68 B69 =>
 ob (xext 0 (shr a68)) fun a70 =>
 ob (xext 1 (shr a68)) fun a71 =>
 mk (ob (xbin PP .add 3 (shr x2) (shr (shr (shr a70)))) fun a72 =>
 ob (xminmax PP false [a72, (iv 1048576)]) fun a73 =>
 callS false EE 32 [(shr x3), (shr (shr (shr a71)))] B69 fun a74 B75 =>
 mk (ob (xbin PP .add 3 x25 (iv 1)) fun a76 =>
 Zcj m0 (shr a73) (shr a74) x23 x24 (shr a76) (gcB m0 [(shr a73), (shr a74), x23, x24, (shr a76)] B75))))) := by kernel_rfl
theorem Zhp (m0 : Nat) (x2 x3 x45 x46 x47 : AV) (B : List Row) : ZeS m0 x2 x3 x45 x46 x47 B =
 mk (ob (xidx 7 x45 x47) fun a77 =>
 ob (ldN true 7 a77 B) fun a78 =>
 bz PP 27 B fun a79 B80 =>
 stN 7 a79 a78 B80 fun B81 =>
 mk (ob (ldN true 7 a79 B81) fun a82 =>
 callS false EE 24 [a82] B81 fun a83 B84 =>
 ob (xext 0 (shr a83)) fun a85 =>
 ob (xext 1 (shr a83)) fun a86 =>
 mk (ob (xminmax PP false [(shr x2), (shr (shr (shr a85)))]) fun a87 =>
 mk (ob (xbin PP .lss 3 (shr (shr (shr a86))) (iv 0)) fun a88 =>
 asB (shr a88) fun t89 => br t89 (Zdy m0 (shr a87) x45 x46 x47 (gcB m0 [(shr a87), x45, x46, x47] B84))
 (ob (xbin PP .lss 3 (shr x3) (iv 0)) fun a90 =>
 asB (shr a90) fun t91 => br t91 (Zdy m0 (shr a87) x45 x46 x47 (gcB m0 [(shr a87), x45, x46, x47] B84))
 (Zf2 m0 (shr a87) x3 (shr (shr a86)) x45 x46 x47 (gcB m0 [(shr a87), x3, (shr (shr a86)), x45, x46, x47] B84))))))) := by kernel_rfl
theorem ZhH (m0 : Nat) (x2 x45 x46 x47 : AV) (B : List Row) : Zdy m0 x2 x45 x46 x47 B =
 mk (Zdm m0 x2 (iv (-1)) x45 x46 x47 (gcB m0 [x2, (iv (-1)), x45, x46, x47] B)) := by kernel_rfl
theorem ZhB (m0 : Nat) (x2 x3 x11 x45 x46 x47 : AV) (B : List Row) : Zf2 m0 x2 x3 x11 x45 x46 x47 B =
 mk (ob (xminmax PP true [(shr x3), (shr x11)]) fun a92 =>
 Zdm m0 x2 (shr a92) x45 x46 x47 (gcB m0 [x2, (shr a92), x45, x46, x47] B)) := by kernel_rfl
theorem Zh7 (m0 : Nat) (x2 x3 x45 x46 x47 : AV) (B : List Row) : Zdm m0 x2 x3 x45 x46 x47 B =
 mk (ob (xbin PP .add 3 x47 (iv 1)) fun a93 =>
 ZaK m0 x2 x3 x45 x46 (shr a93) (gcB m0 [x2, x3, x45, x46, (shr a93)] B)) := by kernel_rfl
theorem Zll (x0 : AV) (B : List Row) : EE 24 [x0] B =
 (let m0 := B.length
 mk (bx x0 B fun a1 B2 =>
 mk (ob (xfld 0 a1) fun a3 =>
 ob (ldN false 1 a3 B2) fun a4 =>
 mk (ob (xbin PP .eql 3 a4 (iv 1)) fun a5 =>
 asB (shr a5) fun t6 => br t6 (mk (ZaQ (iv 1) (iv 1) B2))
 (mk (ob (xbin PP .eql 3 a4 (iv 6)) fun a7 =>
 asB (shr a7) fun t8 => br t8 (mk (ZaQ (iv 0) (iv (-1)) B2))
 (mk (ob (xbin PP .eql 3 a4 (iv 2)) fun a9 =>
 asB (shr a9) fun t10 => br t10 (mk (ob (xfld 6 a1) fun a11 =>
 ob (ldN false 1 a11 B2) fun a12 =>
 ob (xlen PP 25 a12) fun a13 =>
 Zcj m0 (iv 0) (iv 0) a12 a13 (iv 0) (gcB m0 [(iv 0), (iv 0), a12, a13, (iv 0)] B2)))
 (mk (ob (xbin PP .eql 3 a4 (iv 3)) fun a14 =>
 asB (shr a14) fun t15 => br t15 (mk (mk (ob (xfld 6 a1) fun a16 =>
 ob (ldN false 1 a16 B2) fun a17 =>
 ob (xlen PP 25 a17) fun a18 =>
 ZaK m0 (iv 1048576) (iv 0) a17 a18 (iv 0) (gcB m0 [(iv 1048576), (iv 0), a17, a18, (iv 0)] B2))))
 (mk (ob (xbin PP .eql 3 a4 (iv 4)) fun a19 =>
 asB (shr a19) fun t20 => br t20 (mk (ob (xfld 6 a1) fun a21 =>
 ob (ldN false 1 a21 B2) fun a22 =>
 ob (xidx 7 a22 (iv 0)) fun a23 =>
 ob (ldN true 7 a23 B2) fun a24 =>
 callS false EE 24 [a24] B2 fun a25 B26 =>
 ob (xext 0 (shr a25)) fun a27 =>
 ob (xext 1 (shr a25)) fun a28 =>
 mk (ob (xfld 1 a1) fun a29 =>
 ob (ldN false 1 a29 B26) fun a30 =>
 ob (xbin PP .mul 3 (shr (shr (shr a27))) a30) fun a31 =>
 ob (xminmax PP false [a31, (iv 1048576)]) fun a32 =>
 ob (xfld 2 a1) fun a33 =>
 ob (ldN false 1 a33 B26) fun a34 =>
 callS false EE 33 [(shr (shr (shr a28))), a34] B26 fun a35 B36 =>
 grd (noPtrs [a35, (shr (shr (shr a28))), a34]) (ZaQ (shr a32) (shr a35) B36))))
 (mk (ob (xbin PP .eql 3 a4 (iv 5)) fun a37 =>
 asB (shr a37) fun t38 => br t38 (asB (shr a37) fun t39 => br t39 (mk (ob (xfld 6 a1) fun a40 =>
 ob (ldN false 1 a40 B2) fun a41 =>
 ob (xidx 7 a41 (iv 0)) fun a42 =>
 ob (ldN true 7 a42 B2) fun a43 =>
 callS false EE 24 [a43] B2 fun a44 B45 =>
 ob (xext 0 a44) fun a46 =>
 ob (xext 1 a44) fun a47 =>
 ZaQ (shr (shr a46)) (shr (shr a47)) B45))
 (ZaJ m0 (iv 0) (iv 0) (gcB m0 [(iv 0), (iv 0)] B2)))
 (mk (ob (xbin PP .eql 3 a4 (iv 8)) fun a48 =>
 asB (shr a48) fun t49 => br t49 (mk (ob (xfld 6 a1) fun a50 =>
 ob (ldN false 1 a50 B2) fun a51 =>
 ob (xidx 7 a51 (iv 0)) fun a52 =>
 ob (ldN true 7 a52 B2) fun a53 =>
 callS false EE 24 [a53] B2 fun a54 B55 =>
 ob (xext 0 a54) fun a56 =>
 ob (xext 1 a54) fun a57 =>
 ZaQ (shr (shr a56)) (shr (shr a57)) B55))
 (ZaJ m0 (iv 0) (iv 0) (gcB m0 [(iv 0), (iv 0)] B2)))))))))))))))))) := (E_eq PP XX HH _ _ _).trans (by kernel_rfl)
noncomputable def Z9g : Code := bodyOf Tryd.f25
def Zdx (r0 : AV) (B : List Row) : Option Res :=
 ob (ob (some r0) fun v => ob (some []) fun vs => some (v :: vs)) fun vs => some ((nrmA (match vs with | [v] => v | vs => mkTup (vs.map shr))), B)
noncomputable def Zcx (m0 : Nat) : Kont := kret PP HH 25 Tryd.f25.results
noncomputable def Zkt (m0 : Nat) : Kont := kseq HH 25 m0 (l2 (l2 (l2 Z9g))) (exec PP HH 25 m0 EE LL (l2 (l2 (l2 Z9g))) (Zcx m0)) (Zcx m0)
noncomputable def ZfR (m0 : Nat) : Kont := kblk 0 (Zkt m0)
noncomputable def ZkZ (m0 : Nat) : Kont := kloop HH 25 m0 (l1 (l1 (l2 (l1 (l2 (l2 Z9g)))))) (LL 25 m0 (l1 (l1 (l2 (l1 (l2 (l2 Z9g)))))) (ZfR m0)) (ZfR m0)
noncomputable def Zlf (m0 : Nat) : Kont := kseq HH 25 m0 (l2 (l2 (l2 (l2 Z9g)))) (exec PP HH 25 m0 EE LL (l2 (l2 (l2 (l2 Z9g)))) (Zcx m0)) (Zcx m0)
noncomputable def Zkc (m0 : Nat) : Kont := kblk 2 (Zlf m0)
noncomputable def Zc4 (m0 : Nat) (x1 x3 x8 x9 x10 : AV) (B : List Row) : Option Res := lp (LL 25 m0 (l1 (l1 (l2 (l1 (l2 (l2 Z9g)))))) (ZfR m0) [(1, x1), (3, x3), (8, x8), (9, x9), (10, x10)] B)
noncomputable def ZfV (m0 : Nat) (x1 x3 x8 x9 x10 : AV) (B : List Row) : Option Res := exec PP HH 25 m0 EE LL (l2 (l2 (l1 (l1 (l2 (l1 (l2 (l2 Z9g)))))))) (ZkZ m0) [(1, x1), (3, x3), (8, x8), (9, x9), (10, x10)] B
noncomputable def Zft (m0 : Nat) (x1 x3 : AV) (B : List Row) : Option Res := exec PP HH 25 m0 EE LL (l2 (l2 (l2 Z9g))) (Zcx m0) [(1, x1), (3, x3)] B
noncomputable def Z2P (m0 : Nat) (x3 : AV) (B : List Row) : Option Res := exec PP HH 25 m0 EE LL (l2 (l2 (l2 (l2 Z9g)))) (Zcx m0) [(3, x3)] B
noncomputable def Z3B (m0 : Nat) (x1 x3 : AV) (B : List Row) : Option Res := exec PP HH 25 m0 EE LL (l2 (l2 (l2 (l1 (l2 (l2 (l2 (l2 (l2 (l2 (l2 (l1 (l2 (l1 (l2 (l2 (l2 Z9g))))))))))))))))) (Zkc m0) [(1, x1), (3, x3)] B
theorem ZhV (m0 : Nat) (x1 x3 x8 x9 x10 : AV) (B : List Row) : Zc4 m0 x1 x3 x8 x9 x10 B =
 mk (ob (xbin PP .lss 3 x10 x9) fun a6 =>
 asB a6 fun t7 => br t7 (ZfV m0 x1 x3 x8 x9 x10 (gcB m0 [x1, x3, x8, x9, x10] B))
 (Zft m0 x1 x3 (gcB m0 [x1, x3] B))) := (L_eq PP XX HH _ _ _ _ _ _).trans (by kernel_rfl)
theorem Zj1 (m0 : Nat) (x1 x3 x8 x9 x10 : AV) (B : List Row) : ZfV m0 x1 x3 x8 x9 x10 B =
 mk (ob (xidx 7 x8 x10) fun a8 =>
 ob (ldN true 7 a8 B) fun a9 =>
 bz PP 27 B fun a10 B11 =>
 stN 7 a10 a9 B11 fun B12 =>
 mk (ob (ldN true 7 a10 B12) fun a13 =>
 callS false EE 25 [a13] B12 fun a14 B15 =>
 ob (xbin PP .add 3 (shr x3) a14) fun a16 =>
 ob (xminmax PP false [a16, (iv 1048576)]) fun a17 =>
 mk (ob (xbin PP .add 3 x10 (iv 1)) fun a18 =>
 Zc4 m0 x1 (shr a17) x8 x9 (shr a18) (gcB m0 [x1, (shr a17), x8, x9, (shr a18)] B15)))) := by kernel_rfl
theorem ZiS (m0 : Nat) (x1 x3 : AV) (B : List Row) : Zft m0 x1 x3 B =
 mk (ob (xfld 0 x1) fun a19 =>
 ob (ldN false 1 a19 B) fun a20 =>
 mk (ob (xbin PP .eql 3 a20 (iv 1)) fun a21 =>
 asB (shr a21) fun t22 => br t22 (asB (shr a21) fun t23 => br t23 (mk (Zdx (iv 1) B))
 (mk (ob (xbin PP .eql 3 a20 (iv 3)) fun a24 =>
 asB (shr a24) fun t25 => br t25 (mk (ob (xfld 6 x1) fun a26 =>
 ob (ldN false 1 a26 B) fun a27 =>
 ob (xlen PP 25 a27) fun a28 =>
 ob (xbin PP .sub 3 a28 (iv 1)) fun a29 =>
 ob (xbin PP .mul 3 (iv 2) a29) fun a30 =>
 ob (xbin PP .add 3 (shr x3) a30) fun a31 =>
 Z2P m0 (shr a31) (gcB m0 [(shr a31)] B)))
 (mk (ob (xbin PP .eql 3 a20 (iv 5)) fun a32 =>
 asB (shr a32) fun t33 => br t33 (asB (shr a32) fun t34 => br t34 (mk (ob (xbin PP .add 3 (shr x3) (iv 2)) fun a35 =>
 Z2P m0 (shr a35) (gcB m0 [(shr a35)] B)))
 (mk (ob (xbin PP .eql 3 a20 (iv 4)) fun a36 =>
 asB (shr a36) fun t37 => br t37 (mk (mk (ob (xfld 1 x1) fun a38 =>
 ob (ldN false 1 a38 B) fun a39 =>
 ob (xbin PP .mul 3 a39 (shr (shr (shr x3)))) fun a40 =>
 mk (ob (xfld 2 x1) fun a41 =>
 ob (ldN false 1 a41 B) fun a42 =>
 ob (xbin PP .lss 3 a42 (iv 0)) fun a43 =>
 asB a43 fun t44 => br t44 (mk (ob (xbin PP .add 3 (shr (shr (shr x3))) (iv 4)) fun a45 =>
 ob (xbin PP .add 3 (shr (shr a40)) a45) fun a46 =>
 Z3B m0 x1 (shr a46) (gcB m0 [x1, (shr a46)] B)))
 (mk (ob (xfld 2 x1) fun a47 =>
 ob (ldN false 1 a47 B) fun a48 =>
 ob (xfld 1 x1) fun a49 =>
 ob (ldN false 1 a49 B) fun a50 =>
 ob (xbin PP .sub 3 a48 a50) fun a51 =>
 ob (xbin PP .add 3 (shr (shr (shr x3))) (iv 1)) fun a52 =>
 ob (xbin PP .mul 3 a51 a52) fun a53 =>
 ob (xbin PP .add 3 (shr (shr a40)) a53) fun a54 =>
 Z3B m0 x1 (shr a54) (gcB m0 [x1, (shr a54)] B)))))))
 (Z2P m0 x3 (gcB m0 [x3] B)))))
 (mk (ob (xbin PP .eql 3 a20 (iv 7)) fun a55 =>
 asB (shr a55) fun t56 => br t56 (asB (shr a55) fun t57 => br t57 (mk (ob (xbin PP .add 3 (shr x3) (iv 2)) fun a58 =>
 Z2P m0 (shr a58) (gcB m0 [(shr a58)] B)))
 (mk (ob (xbin PP .eql 3 a20 (iv 4)) fun a59 =>
 asB (shr a59) fun t60 => br t60 (mk (mk (ob (xfld 1 x1) fun a61 =>
 ob (ldN false 1 a61 B) fun a62 =>
 ob (xbin PP .mul 3 a62 (shr (shr (shr x3)))) fun a63 =>
 mk (ob (xfld 2 x1) fun a64 =>
 ob (ldN false 1 a64 B) fun a65 =>
 ob (xbin PP .lss 3 a65 (iv 0)) fun a66 =>
 asB a66 fun t67 => br t67 (mk (ob (xbin PP .add 3 (shr (shr (shr x3))) (iv 4)) fun a68 =>
 ob (xbin PP .add 3 (shr (shr a63)) a68) fun a69 =>
 Z3B m0 x1 (shr a69) (gcB m0 [x1, (shr a69)] B)))
 (mk (ob (xfld 2 x1) fun a70 =>
 ob (ldN false 1 a70 B) fun a71 =>
 ob (xfld 1 x1) fun a72 =>
 ob (ldN false 1 a72 B) fun a73 =>
 ob (xbin PP .sub 3 a71 a73) fun a74 =>
 ob (xbin PP .add 3 (shr (shr (shr x3))) (iv 1)) fun a75 =>
 ob (xbin PP .mul 3 a74 a75) fun a76 =>
 ob (xbin PP .add 3 (shr (shr a63)) a76) fun a77 =>
 Z3B m0 x1 (shr a77) (gcB m0 [x1, (shr a77)] B)))))))
 (Z2P m0 x3 (gcB m0 [x3] B)))))
 (mk (ob (xbin PP .eql 3 a20 (iv 8)) fun a78 =>
 asB (shr a78) fun t79 => br t79 (mk (ob (xbin PP .add 3 (shr x3) (iv 2)) fun a80 =>
 Z2P m0 (shr a80) (gcB m0 [(shr a80)] B)))
 (mk (ob (xbin PP .eql 3 a20 (iv 4)) fun a81 =>
 asB (shr a81) fun t82 => br t82 (mk (mk (ob (xfld 1 x1) fun a83 =>
 ob (ldN false 1 a83 B) fun a84 =>
 ob (xbin PP .mul 3 a84 (shr (shr (shr x3)))) fun a85 =>
 mk (ob (xfld 2 x1) fun a86 =>
 ob (ldN false 1 a86 B) fun a87 =>
 ob (xbin PP .lss 3 a87 (iv 0)) fun a88 =>
 asB a88 fun t89 => br t89 (mk (ob (xbin PP .add 3 (shr (shr (shr x3))) (iv 4)) fun a90 =>
 ob (xbin PP .add 3 (shr (shr a85)) a90) fun a91 =>
 Z3B m0 x1 (shr a91) (gcB m0 [x1, (shr a91)] B)))
 (mk (ob (xfld 2 x1) fun a92 =>
 ob (ldN false 1 a92 B) fun a93 =>
 ob (xfld 1 x1) fun a94 =>
 ob (ldN false 1 a94 B) fun a95 =>
 ob (xbin PP .sub 3 a93 a95) fun a96 =>
 ob (xbin PP .add 3 (shr (shr (shr x3))) (iv 1)) fun a97 =>
 ob (xbin PP .mul 3 a96 a97) fun a98 =>
 ob (xbin PP .add 3 (shr (shr a85)) a98) fun a99 =>
 Z3B m0 x1 (shr a99) (gcB m0 [x1, (shr a99)] B)))))))
 (Z2P m0 x3 (gcB m0 [x3] B)))))))))))))
 (mk (ob (xbin PP .eql 3 a20 (iv 6)) fun a100 =>
 asB (shr a100) fun t101 => br t101 (asB (shr a100) fun t102 => br t102 (mk (Zdx (iv 1) B))
 (mk (ob (xbin PP .eql 3 a20 (iv 3)) fun a103 =>
 asB (shr a103) fun t104 => br t104 (mk (ob (xfld 6 x1) fun a105 =>
 ob (ldN false 1 a105 B) fun a106 =>
 ob (xlen PP 25 a106) fun a107 =>
 ob (xbin PP .sub 3 a107 (iv 1)) fun a108 =>
 ob (xbin PP .mul 3 (iv 2) a108) fun a109 =>
 ob (xbin PP .add 3 (shr x3) a109) fun a110 =>
 Z2P m0 (shr a110) (gcB m0 [(shr a110)] B)))
 (mk (ob (xbin PP .eql 3 a20 (iv 5)) fun a111 =>
 asB (shr a111) fun t112 => br t112 (asB (shr a111) fun t113 => br t113 (mk (ob (xbin PP .add 3 (shr x3) (iv 2)) fun a114 =>
 Z2P m0 (shr a114) (gcB m0 [(shr a114)] B)))
 (mk (ob (xbin PP .eql 3 a20 (iv 4)) fun a115 =>
 asB (shr a115) fun t116 => br t116 (mk (mk (ob (xfld 1 x1) fun a117 =>
 ob (ldN false 1 a117 B) fun a118 =>
 ob (xbin PP .mul 3 a118 (shr (shr (shr x3)))) fun a119 =>
 mk (ob (xfld 2 x1) fun a120 =>
 ob (ldN false 1 a120 B) fun a121 =>
 ob (xbin PP .lss 3 a121 (iv 0)) fun a122 =>
 asB a122 fun t123 => br t123 (mk (ob (xbin PP .add 3 (shr (shr (shr x3))) (iv 4)) fun a124 =>
 ob (xbin PP .add 3 (shr (shr a119)) a124) fun a125 =>
 Z3B m0 x1 (shr a125) (gcB m0 [x1, (shr a125)] B)))
 (mk (ob (xfld 2 x1) fun a126 =>
 ob (ldN false 1 a126 B) fun a127 =>
 ob (xfld 1 x1) fun a128 =>
 ob (ldN false 1 a128 B) fun a129 =>
 ob (xbin PP .sub 3 a127 a129) fun a130 =>
 ob (xbin PP .add 3 (shr (shr (shr x3))) (iv 1)) fun a131 =>
 ob (xbin PP .mul 3 a130 a131) fun a132 =>
 ob (xbin PP .add 3 (shr (shr a119)) a132) fun a133 =>
 Z3B m0 x1 (shr a133) (gcB m0 [x1, (shr a133)] B)))))))
 (Z2P m0 x3 (gcB m0 [x3] B)))))
 (mk (ob (xbin PP .eql 3 a20 (iv 7)) fun a134 =>
 asB (shr a134) fun t135 => br t135 (asB (shr a134) fun t136 => br t136 (mk (ob (xbin PP .add 3 (shr x3) (iv 2)) fun a137 =>
 Z2P m0 (shr a137) (gcB m0 [(shr a137)] B)))
 (mk (ob (xbin PP .eql 3 a20 (iv 4)) fun a138 =>
 asB (shr a138) fun t139 => br t139 (mk (mk (ob (xfld 1 x1) fun a140 =>
 ob (ldN false 1 a140 B) fun a141 =>
 ob (xbin PP .mul 3 a141 (shr (shr (shr x3)))) fun a142 =>
 mk (ob (xfld 2 x1) fun a143 =>
 ob (ldN false 1 a143 B) fun a144 =>
 ob (xbin PP .lss 3 a144 (iv 0)) fun a145 =>
 asB a145 fun t146 => br t146 (mk (ob (xbin PP .add 3 (shr (shr (shr x3))) (iv 4)) fun a147 =>
 ob (xbin PP .add 3 (shr (shr a142)) a147) fun a148 =>
 Z3B m0 x1 (shr a148) (gcB m0 [x1, (shr a148)] B)))
 (mk (ob (xfld 2 x1) fun a149 =>
 ob (ldN false 1 a149 B) fun a150 =>
 ob (xfld 1 x1) fun a151 =>
 ob (ldN false 1 a151 B) fun a152 =>
 ob (xbin PP .sub 3 a150 a152) fun a153 =>
 ob (xbin PP .add 3 (shr (shr (shr x3))) (iv 1)) fun a154 =>
 ob (xbin PP .mul 3 a153 a154) fun a155 =>
 ob (xbin PP .add 3 (shr (shr a142)) a155) fun a156 =>
 Z3B m0 x1 (shr a156) (gcB m0 [x1, (shr a156)] B)))))))
 (Z2P m0 x3 (gcB m0 [x3] B)))))
 (mk (ob (xbin PP .eql 3 a20 (iv 8)) fun a157 =>
 asB (shr a157) fun t158 => br t158 (mk (ob (xbin PP .add 3 (shr x3) (iv 2)) fun a159 =>
 Z2P m0 (shr a159) (gcB m0 [(shr a159)] B)))
 (mk (ob (xbin PP .eql 3 a20 (iv 4)) fun a160 =>
 asB (shr a160) fun t161 => br t161 (mk (mk (ob (xfld 1 x1) fun a162 =>
 ob (ldN false 1 a162 B) fun a163 =>
 ob (xbin PP .mul 3 a163 (shr (shr (shr x3)))) fun a164 =>
 mk (ob (xfld 2 x1) fun a165 =>
 ob (ldN false 1 a165 B) fun a166 =>
 ob (xbin PP .lss 3 a166 (iv 0)) fun a167 =>
 asB a167 fun t168 => br t168 (mk (ob (xbin PP .add 3 (shr (shr (shr x3))) (iv 4)) fun a169 =>
 ob (xbin PP .add 3 (shr (shr a164)) a169) fun a170 =>
 Z3B m0 x1 (shr a170) (gcB m0 [x1, (shr a170)] B)))
 (mk (ob (xfld 2 x1) fun a171 =>
 ob (ldN false 1 a171 B) fun a172 =>
 ob (xfld 1 x1) fun a173 =>
 ob (ldN false 1 a173 B) fun a174 =>
 ob (xbin PP .sub 3 a172 a174) fun a175 =>
 ob (xbin PP .add 3 (shr (shr (shr x3))) (iv 1)) fun a176 =>
 ob (xbin PP .mul 3 a175 a176) fun a177 =>
 ob (xbin PP .add 3 (shr (shr a164)) a177) fun a178 =>
 Z3B m0 x1 (shr a178) (gcB m0 [x1, (shr a178)] B)))))))
 (Z2P m0 x3 (gcB m0 [x3] B)))))))))))))
 (mk (ob (xbin PP .eql 3 a20 (iv 9)) fun a179 =>
 asB (shr a179) fun t180 => br t180 (mk (Zdx (iv 1) B))
 (mk (ob (xbin PP .eql 3 a20 (iv 3)) fun a181 =>
 asB (shr a181) fun t182 => br t182 (mk (ob (xfld 6 x1) fun a183 =>
 ob (ldN false 1 a183 B) fun a184 =>
 ob (xlen PP 25 a184) fun a185 =>
 ob (xbin PP .sub 3 a185 (iv 1)) fun a186 =>
 ob (xbin PP .mul 3 (iv 2) a186) fun a187 =>
 ob (xbin PP .add 3 (shr x3) a187) fun a188 =>
 Z2P m0 (shr a188) (gcB m0 [(shr a188)] B)))
 (mk (ob (xbin PP .eql 3 a20 (iv 5)) fun a189 =>
 asB (shr a189) fun t190 => br t190 (asB (shr a189) fun t191 => br t191 (mk (ob (xbin PP .add 3 (shr x3) (iv 2)) fun a192 =>
 Z2P m0 (shr a192) (gcB m0 [(shr a192)] B)))
 (mk (ob (xbin PP .eql 3 a20 (iv 4)) fun a193 =>
 asB (shr a193) fun t194 => br t194 (mk (mk (ob (xfld 1 x1) fun a195 =>
 ob (ldN false 1 a195 B) fun a196 =>
 ob (xbin PP .mul 3 a196 (shr (shr (shr x3)))) fun a197 =>
 mk (ob (xfld 2 x1) fun a198 =>
 ob (ldN false 1 a198 B) fun a199 =>
 ob (xbin PP .lss 3 a199 (iv 0)) fun a200 =>
 asB a200 fun t201 => br t201 (mk (ob (xbin PP .add 3 (shr (shr (shr x3))) (iv 4)) fun a202 =>
 ob (xbin PP .add 3 (shr (shr a197)) a202) fun a203 =>
 Z3B m0 x1 (shr a203) (gcB m0 [x1, (shr a203)] B)))
 (mk (ob (xfld 2 x1) fun a204 =>
 ob (ldN false 1 a204 B) fun a205 =>
 ob (xfld 1 x1) fun a206 =>
 ob (ldN false 1 a206 B) fun a207 =>
 ob (xbin PP .sub 3 a205 a207) fun a208 =>
 ob (xbin PP .add 3 (shr (shr (shr x3))) (iv 1)) fun a209 =>
 ob (xbin PP .mul 3 a208 a209) fun a210 =>
 ob (xbin PP .add 3 (shr (shr a197)) a210) fun a211 =>
 Z3B m0 x1 (shr a211) (gcB m0 [x1, (shr a211)] B)))))))
 (Z2P m0 x3 (gcB m0 [x3] B)))))
 (mk (ob (xbin PP .eql 3 a20 (iv 7)) fun a212 =>
 asB (shr a212) fun t213 => br t213 (asB (shr a212) fun t214 => br t214 (mk (ob (xbin PP .add 3 (shr x3) (iv 2)) fun a215 =>
 Z2P m0 (shr a215) (gcB m0 [(shr a215)] B)))
 (mk (ob (xbin PP .eql 3 a20 (iv 4)) fun a216 =>
 asB (shr a216) fun t217 => br t217 (mk (mk (ob (xfld 1 x1) fun a218 =>
 ob (ldN false 1 a218 B) fun a219 =>
 ob (xbin PP .mul 3 a219 (shr (shr (shr x3)))) fun a220 =>
 mk (ob (xfld 2 x1) fun a221 =>
 ob (ldN false 1 a221 B) fun a222 =>
 ob (xbin PP .lss 3 a222 (iv 0)) fun a223 =>
 asB a223 fun t224 => br t224 (mk (ob (xbin PP .add 3 (shr (shr (shr x3))) (iv 4)) fun a225 =>
 ob (xbin PP .add 3 (shr (shr a220)) a225) fun a226 =>
 Z3B m0 x1 (shr a226) (gcB m0 [x1, (shr a226)] B)))
 (mk (ob (xfld 2 x1) fun a227 =>
 ob (ldN false 1 a227 B) fun a228 =>
 ob (xfld 1 x1) fun a229 =>
 ob (ldN false 1 a229 B) fun a230 =>
 ob (xbin PP .sub 3 a228 a230) fun a231 =>
 ob (xbin PP .add 3 (shr (shr (shr x3))) (iv 1)) fun a232 =>
 ob (xbin PP .mul 3 a231 a232) fun a233 =>
 ob (xbin PP .add 3 (shr (shr a220)) a233) fun a234 =>
 Z3B m0 x1 (shr a234) (gcB m0 [x1, (shr a234)] B)))))))
 (Z2P m0 x3 (gcB m0 [x3] B)))))
 (mk (ob (xbin PP .eql 3 a20 (iv 8)) fun a235 =>
 asB (shr a235) fun t236 => br t236 (mk (ob (xbin PP .add 3 (shr x3) (iv 2)) fun a237 =>
 Z2P m0 (shr a237) (gcB m0 [(shr a237)] B)))
 (mk (ob (xbin PP .eql 3 a20 (iv 4)) fun a238 =>
 asB (shr a238) fun t239 => br t239 (mk (mk (ob (xfld 1 x1) fun a240 =>
 ob (ldN false 1 a240 B) fun a241 =>
 ob (xbin PP .mul 3 a241 (shr (shr (shr x3)))) fun a242 =>
 mk (ob (xfld 2 x1) fun a243 =>
 ob (ldN false 1 a243 B) fun a244 =>
 ob (xbin PP .lss 3 a244 (iv 0)) fun a245 =>
 asB a245 fun t246 => br t246 (mk (ob (xbin PP .add 3 (shr (shr (shr x3))) (iv 4)) fun a247 =>
 ob (xbin PP .add 3 (shr (shr a242)) a247) fun a248 =>
 Z3B m0 x1 (shr a248) (gcB m0 [x1, (shr a248)] B)))
 (mk (ob (xfld 2 x1) fun a249 =>
 ob (ldN false 1 a249 B) fun a250 =>
 ob (xfld 1 x1) fun a251 =>
 ob (ldN false 1 a251 B) fun a252 =>
 ob (xbin PP .sub 3 a250 a252) fun a253 =>
 ob (xbin PP .add 3 (shr (shr (shr x3))) (iv 1)) fun a254 =>
 ob (xbin PP .mul 3 a253 a254) fun a255 =>
 ob (xbin PP .add 3 (shr (shr a242)) a255) fun a256 =>
 Z3B m0 x1 (shr a256) (gcB m0 [x1, (shr a256)] B)))))))
 (Z2P m0 x3 (gcB m0 [x3] B)))))))))))))))))) := by kernel_rfl
theorem Zhb (m0 : Nat) (x3 : AV) (B : List Row) : Z2P m0 x3 B =
 mk (ob (xminmax PP false [(shr x3), (iv 1048576)]) fun a257 =>
 Zdx (shr a257) B) := by kernel_rfl
theorem ZhN (m0 : Nat) (x1 x3 : AV) (B : List Row) : Z3B m0 x1 x3 B =
 mk (ob (xfld 3 x1) fun a258 =>
 ob (ldN false 1 a258 B) fun a259 =>
 ob (xbin PP .eql 3 a259 (iv 2)) fun a260 =>
 asB a260 fun t261 => br t261 (mk (ob (xbin PP .add 3 (shr x3) (iv 2)) fun a262 =>
 Z2P m0 (shr a262) (gcB m0 [(shr a262)] B)))
 (Z2P m0 x3 (gcB m0 [x3] B))) := by kernel_rfl
theorem Zku (x0 : AV) (B : List Row) : EE 25 [x0] B =
 (let m0 := B.length
 mk (bx x0 B fun a1 B2 =>
 mk (mk (ob (xfld 6 a1) fun a3 =>
 ob (ldN false 1 a3 B2) fun a4 =>
 ob (xlen PP 25 a4) fun a5 =>
 Zc4 m0 a1 (iv 0) a4 a5 (iv 0) (gcB m0 [a1, (iv 0), a4, a5, (iv 0)] B2))))) := (E_eq PP XX HH _ _ _).trans (by kernel_rfl)
noncomputable def Zlw : Code := bodyOf Tryd.f26
def Zf3 (r0 : AV) (B : List Row) : Option Res :=
 ob (ob (some r0) fun v => ob (some []) fun vs => some (v :: vs)) fun vs => some ((nrmA (match vs with | [v] => v | vs => mkTup (vs.map shr))), B)
noncomputable def ZjP (m0 : Nat) : Kont := kret PP HH 26 Tryd.f26.results
noncomputable def Zgr (m0 : Nat) (B : List Row) : Option Res := exec PP HH 26 m0 EE LL (l2 (l2 Zlw)) (ZjP m0) [] B
theorem Zjh (m0 : Nat) (B : List Row) : Zgr m0  B =
 mk (Zf3 (iv 0) B) := by kernel_rfl
theorem Zk4 (x0 : AV) (B : List Row) : EE 26 [x0] B =
 (let m0 := B.length
 mk (bx x0 B fun a1 B2 =>
 mk (ob (xfld 0 a1) fun a3 =>
 ob (ldN true 7 a3 B2) fun a4 =>
 callS false EE 34 [a4] B2 fun a5 B6 =>
 ob (xun PP .not a5) fun a7 =>
 asB (shr a7) fun t8 => br t8 (mk (Zf3 (iv 27) B6))
 (mk (ob (xfld 0 a1) fun a9 =>
 ob (ldN true 7 a9 B6) fun a10 =>
 callS false EE 25 [a10] B6 fun a11 B12 =>
 ob (xbin PP .add 3 a11 (iv 3)) fun a13 =>
 ob (xbin PP .gtr 3 a13 (iv 2000)) fun a14 =>
 asB (shr a14) fun t15 => br t15 (mk (Zf3 (iv 28) B12))
 (Zgr m0  (gcB m0 [] B12))))))) := (E_eq PP XX HH _ _ _).trans (by kernel_rfl)
noncomputable def Zfh : Code := bodyOf Tryd.f27
def ZgQ (r0 : AV) (B : List Row) : Option Res :=
 ob (ob (some r0) fun v => ob (some []) fun vs => some (v :: vs)) fun vs => some ((nrmA (match vs with | [v] => v | vs => mkTup (vs.map shr))), B)
noncomputable def ZfO (m0 : Nat) : Kont := kret PP HH 27 Tryd.f27.results
noncomputable def Zkm (m0 : Nat) : Kont := kseq HH 27 m0 (l2 (l2 Zfh)) (exec PP HH 27 m0 EE LL (l2 (l2 Zfh)) (ZfO m0)) (ZfO m0)
noncomputable def Zef (m0 : Nat) (B : List Row) : Option Res := exec PP HH 27 m0 EE LL (l1 (l2 (l1 (l2 Zfh)))) (Zkm m0) [] B
noncomputable def Zg3 (m0 : Nat) (x0 x1 : AV) (B : List Row) : Option Res := exec PP HH 27 m0 EE LL (l2 (l2 Zfh)) (ZfO m0) [(0, x0), (1, x1)] B
theorem ZiC (m0 : Nat) (B : List Row) : Zef m0  B =
 mk (ZgQ (bv false) B) := by kernel_rfl
theorem Zih (m0 : Nat) (x0 x1 : AV) (B : List Row) : Zg3 m0 x0 x1 B =
 mk (ob (xnilchk (shr x0)) fun a27 =>
 ob (xfld 1 a27) fun a28 =>
 ob (ldN false 1 a28 B) fun a29 =>
 ob (xlen PP 9 (shr x1)) fun a30 =>
 ob (xbin PP .add 3 a29 a30) fun a31 =>
 ob (xnilchk (shr x0)) fun a32 =>
 ob (xfld 1 a32) fun a33 =>
 stN 1 a33 a31 B fun B34 =>
 mk (ZgQ (bv true) B34)) := by kernel_rfl
theorem ZkM (x0 x1 : AV) (B : List Row) : EE 27 [x0, x1] B =
 (let m0 := B.length
 mk (mk (ob (xnilchk (shr x0)) fun a1 =>
 ob (xfld 0 a1) fun a2 =>
 ob (ldN false 1 a2 B) fun a3 =>
 ob (xlen PP 40 a3) fun a4 =>
 ob (xnilchk (shr x0)) fun a5 =>
 ob (xfld 1 a5) fun a6 =>
 ob (ldN false 1 a6 B) fun a7 =>
 ob (xbin PP .sub 3 a4 a7) fun a8 =>
 ob (xlen PP 9 (shr x1)) fun a9 =>
 ob (xbin PP .lss 3 a8 a9) fun a10 =>
 asB (shr a10) fun t11 => br t11 (Zef m0  (gcB m0 [] B))
 (ob (xnilchk (shr x0)) fun a12 =>
 ob (xfld 0 a12) fun a13 =>
 ob (ldN false 1 a13 B) fun a14 =>
 ob (xnilchk (shr x0)) fun a15 =>
 ob (xfld 1 a15) fun a16 =>
 ob (ldN false 1 a16 B) fun a17 =>
 ob (xnilchk (shr x0)) fun a18 =>
 ob (xfld 1 a18) fun a19 =>
 ob (ldN false 1 a19 B) fun a20 =>
 ob (xlen PP 9 (shr x1)) fun a21 =>
 ob (xbin PP .add 3 a20 a21) fun a22 =>
 ob (xsl 1 a14 (some a17) (some a22) none) fun a23 =>
 ob (xcnv PP 40 9 a23) fun a24 =>
 ob (xbin PP .neq 9 a24 (shr x1)) fun a25 =>
 asB (shr a25) fun t26 => br t26 (Zef m0  (gcB m0 [] B))
 (Zg3 m0 x0 x1 (gcB m0 [x0, x1] B)))))) := (E_eq PP XX HH _ _ _).trans (by kernel_rfl)
noncomputable def ZcN : Code := bodyOf Tryd.f28
def ZjH (r0 : AV) (B : List Row) : Option Res :=
 ob (ob (ldN true 7 r0 B) fun v => ob (some []) fun vs => some (v :: vs)) fun vs => some ((nrmA (match vs with | [v] => v | vs => mkTup (vs.map shr))), B)
noncomputable def Zgd (m0 : Nat) : Kont := kret PP HH 28 Tryd.f28.results
noncomputable def Zkd (m0 : Nat) : Kont := kseq HH 28 m0 (l2 (l2 (l2 ZcN))) (exec PP HH 28 m0 EE LL (l2 (l2 (l2 ZcN))) (Zgd m0)) (Zgd m0)
noncomputable def ZfD (m0 : Nat) : Kont := kblk 0 (Zkd m0)
noncomputable def ZkC (m0 : Nat) : Kont := kloop HH 28 m0 (l1 (l1 (l1 (l2 (l2 ZcN))))) (LL 28 m0 (l1 (l1 (l1 (l2 (l2 ZcN))))) (ZfD m0)) (ZfD m0)
noncomputable def Zcr (m0 : Nat) (x0 x2 x3 : AV) (B : List Row) : Option Res := lp (LL 28 m0 (l1 (l1 (l1 (l2 (l2 ZcN))))) (ZfD m0) [(0, x0), (2, x2), (3, x3)] B)
noncomputable def Zfn (m0 : Nat) (x0 x2 x3 : AV) (B : List Row) : Option Res := exec PP HH 28 m0 EE LL (l2 (l1 (l1 (l1 (l2 (l2 ZcN)))))) (ZkC m0) [(0, x0), (2, x2), (3, x3)] B
noncomputable def ZfM (m0 : Nat) (x2 x3 : AV) (B : List Row) : Option Res := exec PP HH 28 m0 EE LL (l2 (l2 (l2 ZcN))) (Zgd m0) [(2, x2), (3, x3)] B
theorem Zi6 (m0 : Nat) (x0 x2 x3 : AV) (B : List Row) : Zcr m0 x0 x2 x3 B =
 mk (callS false EE 27 [(shr x0), (.p (.v (.string (ByteArray.mk #[124]))))] B fun a6 B7 =>
 asB a6 fun t8 => br t8 (Zfn m0 x0 x2 x3 (gcB m0 [x0, x2, x3] B7))
 (ZfM m0 x2 x3 (gcB m0 [x2, x3] B7))) := (L_eq PP XX HH _ _ _ _ _ _).trans (by kernel_rfl)
theorem Zj7 (m0 : Nat) (x0 x2 x3 : AV) (B : List Row) : Zfn m0 x0 x2 x3 B =
 mk (callS false EE 35 [(shr x0)] B fun a9 B10 =>
 ob (xlit PP 25 1 [(0, a9)]) fun a11 =>
 ob (xapp 7 x3 a11) fun a12 =>
 Zcr m0 x0 x2 a12 (gcB m0 [x0, x2, a12] B10)) := by kernel_rfl
theorem ZhX (m0 : Nat) (x2 x3 : AV) (B : List Row) : ZfM m0 x2 x3 B =
 mk (callS false EE 36 [(iv 3), (shr x3)] B fun a13 B14 =>
 stN 7 x2 a13 B14 fun B15 =>
 ZjH x2 B15) := by kernel_rfl
theorem ZjW (x0 : AV) (B : List Row) : EE 28 [x0] B =
 (let m0 := B.length
 mk (bz PP 27 B fun a1 B2 =>
 mk (callS false EE 35 [(shr x0)] B2 fun a3 B4 =>
 ob (xlit PP 25 1 [(0, a3)]) fun a5 =>
 Zcr m0 x0 a1 a5 (gcB m0 [x0, a1, a5] B4)))) := (E_eq PP XX HH _ _ _).trans (by kernel_rfl)
noncomputable def Zlz : Code := bodyOf Tryd.f29
def ZjC (B : List Row) : Option Res :=
 ob (some []) fun vs => some ((nrmA (match vs with | [v] => v | vs => mkTup (vs.map shr))), B)
noncomputable def ZkS (m0 : Nat) : Kont := kret PP HH 29 Tryd.f29.results
noncomputable def Zed (m0 : Nat) (x0 : AV) (B : List Row) : Option Res := exec PP HH 29 m0 EE LL (l2 Zlz) (ZkS m0) [(0, x0)] B
theorem Zj0 (m0 : Nat) (x0 : AV) (B : List Row) : Zed m0 x0 B =
 mk (ob (xnilchk (shr x0)) fun a11 =>
 ob (xfld 0 a11) fun a12 =>
 ob (ldN false 1 a12 B) fun a13 =>
 ob (xlen PP 40 a13) fun a14 =>
 ob (xnilchk (shr x0)) fun a15 =>
 ob (xfld 1 a15) fun a16 =>
 stN 1 a16 a14 B fun B17 =>
 ZjC  B17) := by kernel_rfl
theorem Zl2 (x0 x1 x2 : AV) (B : List Row) : EE 29 [x0, x1, x2] B =
 (let m0 := B.length
 mk (ob (xnilchk (shr x0)) fun a1 =>
 ob (xfld 5 a1) fun a2 =>
 ob (xfld 0 a2) fun a3 =>
 ob (ldN false 1 a3 B) fun a4 =>
 ob (xbin PP .eql 30 a4 (iv 0)) fun a5 =>
 asB a5 fun t6 => br t6 (mk (ob (xbuild PP 32 [(0, (shr x1)), (1, (shr x2))]) fun a7 =>
 ob (xnilchk (shr x0)) fun a8 =>
 ob (xfld 5 a8) fun a9 =>
 stN 2 a9 a7 B fun B10 =>
 Zed m0 x0 (gcB m0 [x0] B10)))
 (Zed m0 x0 (gcB m0 [x0] B)))) := (E_eq PP XX HH _ _ _).trans (by kernel_rfl)
noncomputable def ZlF : Code := bodyOf Tryd.f30
def ZjA (r0 : AV) (B : List Row) : Option Res :=
 ob (ob (some r0) fun v => ob (some []) fun vs => some (v :: vs)) fun vs => some ((nrmA (match vs with | [v] => v | vs => mkTup (vs.map shr))), B)
theorem ZkJ (x0 x1 : AV) (B : List Row) : EE 30 [x0, x1] B =
 (let m0 := B.length
 mk (mk (callS false EE 37 [(shr x0), (shr x1)] B fun a1 B2 =>
 ob (xbin PP .geq 3 a1 (iv 0)) fun a3 =>
 ZjA (shr a3) B2))) := (E_eq PP XX HH _ _ _).trans (by kernel_rfl)
noncomputable def ZlE : Code := bodyOf Tryd.f31
def ZgN (r0 : AV) (B : List Row) : Option Res :=
 ob (ob (some r0) fun v => ob (some []) fun vs => some (v :: vs)) fun vs => some ((nrmA (match vs with | [v] => v | vs => mkTup (vs.map shr))), B)
theorem Zky (x0 x1 : AV) (B : List Row) : EE 31 [x0, x1] B =
 (let m0 := B.length
 mk (bx x0 B fun a1 B2 =>
 mk (ob (xfld 0 a1) fun a3 =>
 ob (ldN false 1 a3 B2) fun a4 =>
 ob (ldN false 1 x1 B2) fun a5 =>
 ob (xbin PP .leq 3 a4 a5) fun a6 =>
 asB (shr a6) fun t7 => br t7 (ob (ldN false 1 x1 B2) fun a8 =>
 ob (xfld 1 a1) fun a9 =>
 ob (ldN false 1 a9 B2) fun a10 =>
 ob (xbin PP .leq 3 a8 a10) fun a11 =>
 ZgN (shr (shr a11)) B2)
 (ZgN (bv false) B2)))) := (E_eq PP XX HH _ _ _).trans (by kernel_rfl)
noncomputable def Zfj : Code := bodyOf Tryd.f32
def Zh1 (r0 : AV) (B : List Row) : Option Res :=
 ob (ob (some r0) fun v => ob (some []) fun vs => some (v :: vs)) fun vs => some ((nrmA (match vs with | [v] => v | vs => mkTup (vs.map shr))), B)
noncomputable def Zgz (m0 : Nat) : Kont := kret PP HH 32 Tryd.f32.results
noncomputable def Zl4 (m0 : Nat) : Kont := kseq HH 32 m0 (l2 (l2 Zfj)) (exec PP HH 32 m0 EE LL (l2 (l2 Zfj)) (Zgz m0)) (Zgz m0)
noncomputable def Zey (m0 : Nat) (B : List Row) : Option Res := exec PP HH 32 m0 EE LL (l1 (l2 (l1 (l2 Zfj)))) (Zl4 m0) [] B
noncomputable def ZfH (m0 : Nat) (x0 x1 : AV) (B : List Row) : Option Res := exec PP HH 32 m0 EE LL (l2 (l2 Zfj)) (Zgz m0) [(0, x0), (1, x1)] B
theorem ZhY (m0 : Nat) (B : List Row) : Zey m0  B =
 mk (Zh1 (iv (-1)) B) := by kernel_rfl
theorem Zj6 (m0 : Nat) (x0 x1 : AV) (B : List Row) : ZfH m0 x0 x1 B =
 mk (ob (xbin PP .add 3 (shr x0) (shr x1)) fun a5 =>
 callS false EE 38 [a5] B fun a6 B7 =>
 Zh1 (shr a6) B7) := by kernel_rfl
theorem Zlm (x0 x1 : AV) (B : List Row) : EE 32 [x0, x1] B =
 (let m0 := B.length
 mk (mk (ob (xbin PP .lss 3 (shr x0) (iv 0)) fun a1 =>
 asB (shr a1) fun t2 => br t2 (Zey m0  (gcB m0 [] B))
 (ob (xbin PP .lss 3 (shr x1) (iv 0)) fun a3 =>
 asB (shr a3) fun t4 => br t4 (Zey m0  (gcB m0 [] B))
 (ZfH m0 x0 x1 (gcB m0 [x0, x1] B)))))) := (E_eq PP XX HH _ _ _).trans (by kernel_rfl)
noncomputable def Zdk : Code := bodyOf Tryd.f33
def ZeQ (r0 : AV) (B : List Row) : Option Res :=
 ob (ob (some r0) fun v => ob (some []) fun vs => some (v :: vs)) fun vs => some ((nrmA (match vs with | [v] => v | vs => mkTup (vs.map shr))), B)
noncomputable def ZfP (m0 : Nat) : Kont := kret PP HH 33 Tryd.f33.results
noncomputable def Zk0 (m0 : Nat) : Kont := kseq HH 33 m0 (l2 (l2 Zdk)) (exec PP HH 33 m0 EE LL (l2 (l2 Zdk)) (ZfP m0)) (ZfP m0)
noncomputable def ZfU (m0 : Nat) : Kont := kblk 0 (Zk0 m0)
noncomputable def Zet (m0 : Nat) (B : List Row) : Option Res := exec PP HH 33 m0 EE LL (l1 (l2 (l1 (l1 (l2 Zdk))))) (ZfU m0) [] B
noncomputable def ZfE (m0 : Nat) (x0 x1 : AV) (B : List Row) : Option Res := exec PP HH 33 m0 EE LL (l2 (l2 (l1 (l1 (l2 Zdk))))) (ZfU m0) [(0, x0), (1, x1)] B
noncomputable def Ze7 (m0 : Nat) (B : List Row) : Option Res := exec PP HH 33 m0 EE LL (l1 (l2 (l2 (l2 (l1 (l1 (l2 Zdk))))))) (ZfU m0) [] B
noncomputable def ZfW (m0 : Nat) (x0 x1 : AV) (B : List Row) : Option Res := exec PP HH 33 m0 EE LL (l2 (l2 Zdk)) (ZfP m0) [(0, x0), (1, x1)] B
theorem ZiA (m0 : Nat) (B : List Row) : Zet m0  B =
 mk (ZeQ (iv 0) B) := by kernel_rfl
theorem ZiN (m0 : Nat) (x0 x1 : AV) (B : List Row) : ZfE m0 x0 x1 B =
 mk (ob (xbin PP .lss 3 (shr x0) (iv 0)) fun a5 =>
 asB (shr a5) fun t6 => br t6 (Ze7 m0  (gcB m0 [] B))
 (ob (xbin PP .lss 3 (shr x1) (iv 0)) fun a7 =>
 asB (shr (shr a7)) fun t8 => br t8 (Ze7 m0  (gcB m0 [] B))
 (ZfW m0 x0 x1 (gcB m0 [x0, x1] B)))) := by kernel_rfl
theorem Zjs (m0 : Nat) (B : List Row) : Ze7 m0  B =
 mk (ZeQ (iv (-1)) B) := by kernel_rfl
theorem Zje (m0 : Nat) (x0 x1 : AV) (B : List Row) : ZfW m0 x0 x1 B =
 mk (ob (xbin PP .mul 3 (shr x0) (shr x1)) fun a9 =>
 callS false EE 38 [a9] B fun a10 B11 =>
 ZeQ (shr a10) B11) := by kernel_rfl
theorem Zl9 (x0 x1 : AV) (B : List Row) : EE 33 [x0, x1] B =
 (let m0 := B.length
 mk (mk (ob (xbin PP .eql 3 (shr x0) (iv 0)) fun a1 =>
 asB (shr a1) fun t2 => br t2 (Zet m0  (gcB m0 [] B))
 (ob (xbin PP .eql 3 (shr x1) (iv 0)) fun a3 =>
 asB (shr (shr a3)) fun t4 => br t4 (Zet m0  (gcB m0 [] B))
 (ZfE m0 x0 x1 (gcB m0 [x0, x1] B)))))) := (E_eq PP XX HH _ _ _).trans (by kernel_rfl)
noncomputable def Zer : Code := bodyOf Tryd.f34
def ZgW (r0 : AV) (B : List Row) : Option Res :=
 ob (ob (some r0) fun v => ob (some []) fun vs => some (v :: vs)) fun vs => some ((nrmA (match vs with | [v] => v | vs => mkTup (vs.map shr))), B)
noncomputable def Zgw (m0 : Nat) : Kont := kret PP HH 34 Tryd.f34.results
noncomputable def ZhT (m0 : Nat) : Kont := kseq HH 34 m0 (l2 (l2 Zer)) (exec PP HH 34 m0 EE LL (l2 (l2 Zer)) (Zgw m0)) (Zgw m0)
noncomputable def Zfs (m0 : Nat) (x1 : AV) (B : List Row) : Option Res := exec PP HH 34 m0 EE LL (l1 (l2 (l1 (l2 Zer)))) (ZhT m0) [(1, x1)] B
noncomputable def Zd4 (m0 : Nat) (x1 : AV) (B : List Row) : Option Res := exec PP HH 34 m0 EE LL (l2 (l2 Zer)) (Zgw m0) [(1, x1)] B
noncomputable def Zec (m0 : Nat) (B : List Row) : Option Res := exec PP HH 34 m0 EE LL (l1 (l2 (l2 (l1 (l2 (l1 (l2 Zer))))))) (ZhT m0) [] B
theorem Zil (m0 : Nat) (x1 : AV) (B : List Row) : Zfs m0 x1 B =
 mk (ob (xfld 6 x1) fun a11 =>
 ob (ldN false 1 a11 B) fun a12 =>
 ob (xidx 7 a12 (iv 0)) fun a13 =>
 ob (ldN true 7 a13 B) fun a14 =>
 callS false EE 24 [a14] B fun a15 B16 =>
 ob (xext 0 (shr a15)) fun a17 =>
 ob (xext 1 (shr a15)) fun a18 =>
 mk (ob (xbin PP .lss 3 (shr (shr (shr a18))) (iv 0)) fun a19 =>
 asB (shr a19) fun t20 => br t20 (Zec m0  (gcB m0 [] B16))
 (ob (xbin PP .gtr 3 (shr (shr (shr a18))) (iv 32)) fun a21 =>
 asB (shr a21) fun t22 => br t22 (Zec m0  (gcB m0 [] B16))
 (Zd4 m0 x1 (gcB m0 [x1] B16))))) := by kernel_rfl
theorem Zi3 (m0 : Nat) (x1 : AV) (B : List Row) : Zd4 m0 x1 B =
 mk (ob (xfld 6 x1) fun a23 =>
 ob (ldN false 1 a23 B) fun a24 =>
 callS false EE 39 [a24, (.clo 40 [] [])] B fun a25 B26 =>
 ob (xun PP .not a25) fun a27 =>
 ZgW (shr a27) B26) := by kernel_rfl
theorem Zji (m0 : Nat) (B : List Row) : Zec m0  B =
 mk (ZgW (bv false) B) := by kernel_rfl
theorem ZjT (x0 : AV) (B : List Row) : EE 34 [x0] B =
 (let m0 := B.length
 mk (bx x0 B fun a1 B2 =>
 mk (ob (xfld 0 a1) fun a3 =>
 ob (ldN false 1 a3 B2) fun a4 =>
 ob (xbin PP .eql 3 a4 (iv 7)) fun a5 =>
 asB (shr a5) fun t6 => br t6 (ob (xfld 3 a1) fun a7 =>
 ob (ldN false 1 a7 B2) fun a8 =>
 ob (xbin PP .geq 3 a8 (iv 2)) fun a9 =>
 asB (shr a9) fun t10 => br t10 (Zfs m0 a1 (gcB m0 [a1] B2))
 (Zd4 m0 a1 (gcB m0 [a1] B2)))
 (Zd4 m0 a1 (gcB m0 [a1] B2))))) := (E_eq PP XX HH _ _ _).trans (by kernel_rfl)
noncomputable def Zbs : Code := bodyOf Tryd.f35
def Zjz (r0 : AV) (B : List Row) : Option Res :=
 ob (ob (ldN true 7 r0 B) fun v => ob (some []) fun vs => some (v :: vs)) fun vs => some ((nrmA (match vs with | [v] => v | vs => mkTup (vs.map shr))), B)
noncomputable def ZgC (m0 : Nat) : Kont := kret PP HH 35 Tryd.f35.results
noncomputable def Zle (m0 : Nat) : Kont := kseq HH 35 m0 (l2 (l2 (l2 (l1 (l2 Zbs))))) (exec PP HH 35 m0 EE LL (l2 (l2 (l2 (l1 (l2 Zbs))))) (ZgC m0)) (ZgC m0)
noncomputable def Zgt (m0 : Nat) : Kont := kblk 0 (Zle m0)
noncomputable def Ziu (m0 : Nat) : Kont := kloop HH 35 m0 (l1 (l1 (l1 (l2 (l2 (l1 (l2 Zbs))))))) (LL 35 m0 (l1 (l1 (l1 (l2 (l2 (l1 (l2 Zbs))))))) (Zgt m0)) (Zgt m0)
noncomputable def ZjL (m0 : Nat) : Kont := kblk 1 (Ziu m0)
noncomputable def Zcq (m0 : Nat) (x0 x2 x3 : AV) (B : List Row) : Option Res := lp (LL 35 m0 (l1 (l1 (l1 (l2 (l2 (l1 (l2 Zbs))))))) (Zgt m0) [(0, x0), (2, x2), (3, x3)] B)
noncomputable def Zfw (m0 : Nat) (x0 x2 x3 : AV) (B : List Row) : Option Res := exec PP HH 35 m0 EE LL (l2 (l1 (l1 (l1 (l2 (l2 (l1 (l2 Zbs)))))))) (Ziu m0) [(0, x0), (2, x2), (3, x3)] B
noncomputable def Zc8 (m0 : Nat) (x2 x3 : AV) (B : List Row) : Option Res := exec PP HH 35 m0 EE LL (l2 (l2 (l2 (l1 (l2 Zbs))))) (ZgC m0) [(2, x2), (3, x3)] B
noncomputable def Zdf (m0 : Nat) (x0 x2 x3 : AV) (B : List Row) : Option Res := exec PP HH 35 m0 EE LL (l2 (l1 (l2 (l1 (l1 (l1 (l2 (l2 (l1 (l2 Zbs)))))))))) (ZjL m0) [(0, x0), (2, x2), (3, x3)] B
theorem ZiI (m0 : Nat) (x0 x2 x3 : AV) (B : List Row) : Zcq m0 x0 x2 x3 B =
 mk (ob (xnilchk (shr x0)) fun a3 =>
 ob (xfld 5 a3) fun a4 =>
 ob (xfld 0 a4) fun a5 =>
 ob (ldN false 1 a5 B) fun a6 =>
 ob (xbin PP .eql 30 a6 (iv 0)) fun a7 =>
 asB a7 fun t8 => br t8 (Zfw m0 x0 x2 x3 (gcB m0 [x0, x2, x3] B))
 (Zc8 m0 x2 x3 (gcB m0 [x2, x3] B))) := (L_eq PP XX HH _ _ _ _ _ _).trans (by kernel_rfl)
theorem Zjf (m0 : Nat) (x0 x2 x3 : AV) (B : List Row) : Zfw m0 x0 x2 x3 B =
 mk (callS false EE 41 [(shr x0)] B fun a9 B10 =>
 mk (ob (xbin PP .eql 3 a9 (iv (-1))) fun a11 =>
 asB (shr a11) fun t12 => br t12 (asB (shr a11) fun t13 => br t13 (Zc8 m0 x2 x3 (gcB m0 [x2, x3] B10))
 (Zdf m0 x0 x2 x3 (gcB m0 [x0, x2, x3] B10)))
 (mk (ob (xbin PP .eql 3 a9 (iv 124)) fun a14 =>
 asB (shr a14) fun t15 => br t15 (asB (shr a14) fun t16 => br t16 (Zc8 m0 x2 x3 (gcB m0 [x2, x3] B10))
 (Zdf m0 x0 x2 x3 (gcB m0 [x0, x2, x3] B10)))
 (mk (ob (xbin PP .eql 3 a9 (iv 41)) fun a17 =>
 asB (shr a17) fun t18 => br t18 (Zc8 m0 x2 x3 (gcB m0 [x2, x3] B10))
 (Zdf m0 x0 x2 x3 (gcB m0 [x0, x2, x3] B10)))))))) := by kernel_rfl
theorem Zie (m0 : Nat) (x2 x3 : AV) (B : List Row) : Zc8 m0 x2 x3 B =
 mk (callS false EE 36 [(iv 2), (shr x3)] B fun a19 B20 =>
 stN 7 x2 a19 B20 fun B21 =>
 Zjz x2 B21) := by kernel_rfl
theorem Zia (m0 : Nat) (x0 x2 x3 : AV) (B : List Row) : Zdf m0 x0 x2 x3 B =
 mk (callS false EE 42 [(shr x0)] B fun a22 B23 =>
 ob (xext 0 (shr a22)) fun a24 =>
 ob (xext 1 (shr a22)) fun a25 =>
 bz PP 27 B23 fun a26 B27 =>
 stN 7 a26 (shr a24) B27 fun B28 =>
 mk (ob (ldN true 7 a26 B28) fun a29 =>
 callS false EE 43 [(shr x0), a29, (shr (shr (shr a25)))] B28 fun a30 B31 =>
 ob (xlit PP 25 1 [(0, a30)]) fun a32 =>
 ob (xapp 7 x3 a32) fun a33 =>
 Zcq m0 x0 x2 a33 (gcB m0 [x0, x2, a33] B31))) := by kernel_rfl
theorem ZkA (x0 : AV) (B : List Row) : EE 35 [x0] B =
 (let m0 := B.length
 mk (bz PP 27 B fun a1 B2 =>
 mk (Zcq m0 x0 a1 nilA (gcB m0 [x0, a1, nilA] (gcB m0 [x0, a1, nilA] B2))))) := (E_eq PP XX HH _ _ _).trans (by kernel_rfl)
noncomputable def ZlB : Code := bodyOf Tryd.f36
def ZeK (r0 : AV) (B : List Row) : Option Res :=
 ob (ob (ldN true 7 r0 B) fun v => ob (some []) fun vs => some (v :: vs)) fun vs => some ((nrmA (match vs with | [v] => v | vs => mkTup (vs.map shr))), B)
noncomputable def Zkg (m0 : Nat) : Kont := kret PP HH 36 Tryd.f36.results
noncomputable def Zgo (m0 : Nat) (x0 x1 x4 : AV) (B : List Row) : Option Res := exec PP HH 36 m0 EE LL (l2 (l2 ZlB)) (Zkg m0) [(0, x0), (1, x1), (4, x4)] B
theorem Zif (m0 : Nat) (x0 x1 x4 : AV) (B : List Row) : Zgo m0 x0 x1 x4 B =
 mk (ob (xbuild PP 27 [(0, (shr x0)), (6, (shr x1))]) fun a13 =>
 stN 7 x4 a13 B fun B14 =>
 ZeK x4 B14) := by kernel_rfl
theorem ZkY (x0 x1 : AV) (B : List Row) : EE 36 [x0, x1] B =
 (let m0 := B.length
 mk (bz PP 27 B fun a1 B2 =>
 mk (ob (xlen PP 25 (shr x1)) fun a3 =>
 mk (ob (xbin PP .eql 3 a3 (iv 0)) fun a4 =>
 asB (shr a4) fun t5 => br t5 (mk (ob (xbuild PP 27 []) fun a6 =>
 stN 7 a1 a6 B2 fun B7 =>
 ZeK a1 B7))
 (mk (ob (xbin PP .eql 3 a3 (iv 1)) fun a8 =>
 asB (shr a8) fun t9 => br t9 (mk (ob (xidx 7 (shr x1) (iv 0)) fun a10 =>
 ob (ldN true 7 a10 B2) fun a11 =>
 stN 7 a1 a11 B2 fun B12 =>
 ZeK a1 B12))
 (Zgo m0 x0 x1 a1 (gcB m0 [x0, x1, a1] B2)))))))) := (E_eq PP XX HH _ _ _).trans (by kernel_rfl)
noncomputable def Zbp : Code := bodyOf Tryd.f37
def ZgO (r0 : AV) (B : List Row) : Option Res :=
 ob (ob (some r0) fun v => ob (some []) fun vs => some (v :: vs)) fun vs => some ((nrmA (match vs with | [v] => v | vs => mkTup (vs.map shr))), B)
noncomputable def ZgH (m0 : Nat) : Kont := kret PP HH 37 Tryd.f37.results
noncomputable def ZjM (m0 : Nat) : Kont := kseq HH 37 m0 (l2 (l2 Zbp)) (exec PP HH 37 m0 EE LL (l2 (l2 Zbp)) (ZgH m0)) (ZgH m0)
noncomputable def Zgq (m0 : Nat) : Kont := kblk 0 (ZjM m0)
noncomputable def Zin (m0 : Nat) : Kont := kloop HH 37 m0 (l1 (l1 (l2 (l1 (l2 Zbp))))) (LL 37 m0 (l1 (l1 (l2 (l1 (l2 Zbp))))) (Zgq m0)) (Zgq m0)
noncomputable def Zc6 (m0 : Nat) (x0 x1 x7 x8 : AV) (B : List Row) : Option Res := lp (LL 37 m0 (l1 (l1 (l2 (l1 (l2 Zbp))))) (Zgq m0) [(0, x0), (1, x1), (7, x7), (8, x8)] B)
noncomputable def Zg4 (m0 : Nat) (x0 x1 x7 x8 : AV) (B : List Row) : Option Res := exec PP HH 37 m0 EE LL (l2 (l2 (l1 (l1 (l2 (l1 (l2 Zbp))))))) (Zin m0) [(0, x0), (1, x1), (7, x7), (8, x8)] B
noncomputable def ZfS (m0 : Nat) (B : List Row) : Option Res := exec PP HH 37 m0 EE LL (l2 (l2 Zbp)) (ZgH m0) [] B
noncomputable def Zgl (m0 : Nat) (x0 x1 x7 x8 : AV) (B : List Row) : Option Res := exec PP HH 37 m0 EE LL (l2 (l2 (l2 (l1 (l1 (l2 (l1 (l2 Zbp)))))))) (Zin m0) [(0, x0), (1, x1), (7, x7), (8, x8)] B
theorem ZiR (m0 : Nat) (x0 x1 x7 x8 : AV) (B : List Row) : Zc6 m0 x0 x1 x7 x8 B =
 mk (ob (xbin PP .lss 3 x8 x7) fun a2 =>
 asB a2 fun t3 => br t3 (Zg4 m0 x0 x1 x7 x8 (gcB m0 [x0, x1, x7, x8] B))
 (ZfS m0  (gcB m0 [] B))) := (L_eq PP XX HH _ _ _ _ _ _).trans (by kernel_rfl)
theorem Zi0 (m0 : Nat) (x0 x1 x7 x8 : AV) (B : List Row) : Zg4 m0 x0 x1 x7 x8 B =
 mk (mk (ob (xidx 2 (shr x0) (shr (shr (shr x8)))) fun a4 =>
 ob (ldN true 2 a4 B) fun a5 =>
 callV HH EE (shr x1) [a5] B fun a6 B7 =>
 asB a6 fun t8 => br t8 (mk (ZgO (shr (shr (shr (shr x8)))) B7))
 (Zgl m0 x0 x1 x7 x8 (gcB m0 [x0, x1, x7, x8] B7)))) := by kernel_rfl
theorem ZhU (m0 : Nat) (B : List Row) : ZfS m0  B =
 mk (ZgO (iv (-1)) B) := by kernel_rfl
theorem Zit (m0 : Nat) (x0 x1 x7 x8 : AV) (B : List Row) : Zgl m0 x0 x1 x7 x8 B =
 mk (ob (xbin PP .add 3 x8 (iv 1)) fun a9 =>
 Zc6 m0 x0 x1 x7 (shr a9) (gcB m0 [x0, x1, x7, (shr a9)] B)) := by kernel_rfl
theorem Zk3 (x0 x1 : AV) (B : List Row) : EE 37 [x0, x1] B =
 (let m0 := B.length
 mk (mk (ob (xlen PP 24 (shr x0)) fun a1 =>
 Zc6 m0 x0 x1 a1 (iv 0) (gcB m0 [x0, x1, a1, (iv 0)] B)))) := (E_eq PP XX HH _ _ _).trans (by kernel_rfl)
noncomputable def ZlC : Code := bodyOf Tryd.f38
def ZgY (r0 : AV) (B : List Row) : Option Res :=
 ob (ob (some r0) fun v => ob (some []) fun vs => some (v :: vs)) fun vs => some ((nrmA (match vs with | [v] => v | vs => mkTup (vs.map shr))), B)
noncomputable def ZjN (m0 : Nat) : Kont := kret PP HH 38 Tryd.f38.results
noncomputable def Zfo (m0 : Nat) (x0 : AV) (B : List Row) : Option Res := exec PP HH 38 m0 EE LL (l2 (l2 ZlC)) (ZjN m0) [(0, x0)] B
theorem ZhR (m0 : Nat) (x0 : AV) (B : List Row) : Zfo m0 x0 B =
 mk (ZgY (shr (shr x0)) B) := by kernel_rfl
theorem Zla (x0 : AV) (B : List Row) : EE 38 [x0] B =
 (let m0 := B.length
 mk (mk (ob (xbin PP .gtr 3 (shr x0) (iv 1048576)) fun a1 =>
 asB a1 fun t2 => br t2 (mk (ZgY (iv (-1)) B))
 (Zfo m0 x0 (gcB m0 [x0] B))))) := (E_eq PP XX HH _ _ _).trans (by kernel_rfl)
noncomputable def ZlG : Code := bodyOf Tryd.f39
def Zjx (r0 : AV) (B : List Row) : Option Res :=
 ob (ob (some r0) fun v => ob (some []) fun vs => some (v :: vs)) fun vs => some ((nrmA (match vs with | [v] => v | vs => mkTup (vs.map shr))), B)
theorem ZkP (x0 x1 : AV) (B : List Row) : EE 39 [x0, x1] B =
 (let m0 := B.length
 mk (mk (callS false EE 44 [(shr x0), (shr x1)] B fun a1 B2 =>
 ob (xbin PP .geq 3 a1 (iv 0)) fun a3 =>
 Zjx (shr a3) B2))) := (E_eq PP XX HH _ _ _).trans (by kernel_rfl)
noncomputable def ZlM : Code := bodyOf Tryd.f40
def ZjF (r0 : AV) (B : List Row) : Option Res :=
 ob (ob (some r0) fun v => ob (some []) fun vs => some (v :: vs)) fun vs => some ((nrmA (match vs with | [v] => v | vs => mkTup (vs.map shr))), B)
theorem ZkR (x0 : AV) (B : List Row) : EE 40 [x0] B =
 (let m0 := B.length
 mk (bx x0 B fun a1 B2 =>
 mk (ob (ldN true 7 a1 B2) fun a3 =>
 callS false EE 34 [a3] B2 fun a4 B5 =>
 ob (xun PP .not a4) fun a6 =>
 ZjF (shr a6) B5))) := (E_eq PP XX HH _ _ _).trans (by kernel_rfl)
noncomputable def ZlA : Code := bodyOf Tryd.f41
def ZgV (r0 : AV) (B : List Row) : Option Res :=
 ob (ob (some r0) fun v => ob (some []) fun vs => some (v :: vs)) fun vs => some ((nrmA (match vs with | [v] => v | vs => mkTup (vs.map shr))), B)
noncomputable def Zlr (m0 : Nat) : Kont := kret PP HH 41 Tryd.f41.results
noncomputable def Zg0 (m0 : Nat) (x0 : AV) (B : List Row) : Option Res := exec PP HH 41 m0 EE LL (l2 (l2 ZlA)) (Zlr m0) [(0, x0)] B
theorem Zic (m0 : Nat) (x0 : AV) (B : List Row) : Zg0 m0 x0 B =
 mk (ob (xnilchk (shr x0)) fun a10 =>
 ob (xfld 0 a10) fun a11 =>
 ob (ldN false 1 a11 B) fun a12 =>
 ob (xnilchk (shr x0)) fun a13 =>
 ob (xfld 1 a13) fun a14 =>
 ob (ldN false 1 a14 B) fun a15 =>
 callS false EE 45 [a12, a15] B fun a16 B17 =>
 ob (xext 0 (shr a16)) fun a18 =>
 ob (xext 1 (shr a16)) fun a19 =>
 mk (ZgV (shr (shr (shr (shr a18)))) B17)) := by kernel_rfl
theorem Zli (x0 : AV) (B : List Row) : EE 41 [x0] B =
 (let m0 := B.length
 mk (mk (ob (xnilchk (shr x0)) fun a1 =>
 ob (xfld 1 a1) fun a2 =>
 ob (ldN false 1 a2 B) fun a3 =>
 ob (xnilchk (shr x0)) fun a4 =>
 ob (xfld 0 a4) fun a5 =>
 ob (ldN false 1 a5 B) fun a6 =>
 ob (xlen PP 40 a6) fun a7 =>
 ob (xbin PP .geq 3 a3 a7) fun a8 =>
 asB a8 fun t9 => br t9 (mk (ZgV (iv (-1)) B))
 (Zg0 m0 x0 (gcB m0 [x0] B))))) := (E_eq PP XX HH _ _ _).trans (by kernel_rfl)
noncomputable def Zlv : Code := bodyOf Tryd.f42
def Z59 (r0 r1 : AV) (B : List Row) : Option Res :=
 ob (ob (ldN true 7 r0 B) fun v => ob (ob (some r1) fun v => ob (some []) fun vs => some (v :: vs)) fun vs => some (v :: vs)) fun vs => some ((nrmA (match vs with | [v] => v | vs => mkTup (vs.map shr))), B)
noncomputable def ZkB (m0 : Nat) : Kont := kret PP HH 42 Tryd.f42.results
noncomputable def Z5s (m0 : Nat) (x2 : AV) (B : List Row) : Option Res := exec PP HH 42 m0 EE LL (l2 (l2 (l2 Zlv))) (ZkB m0) [(2, x2)] B
theorem ZhM (m0 : Nat) (x2 : AV) (B : List Row) : Z5s m0 x2 B =
 mk (ob (xbuild PP 27 []) fun a151 =>
 stN 7 x2 a151 B fun B152 =>
 Z59 x2 (bv true) B152) := by kernel_rfl
theorem ZkI (x0 : AV) (B : List Row) : EE 42 [x0] B =
 (let m0 := B.length
 mk (bz PP 27 B fun a1 B2 =>
 mk (ob (xnilchk (shr x0)) fun a3 =>
 ob (xfld 1 a3) fun a4 =>
 ob (ldN false 1 a4 B2) fun a5 =>
 mk (callS false EE 46 [(shr x0)] B2 fun a6 B7 =>
 mk (mk (ob (xbin PP .eql 3 (shr (shr a6)) (iv 46)) fun a8 =>
 asB (shr a8) fun t9 => br t9 (mk (callS false EE 48 [(iv 10)] B7 fun a10 B11 =>
 ob (xlit PP 23 1 [(0, a10)]) fun a12 =>
 callS false EE 47 [(bv true), a12] B11 fun a13 B14 =>
 stN 7 a1 a13 B14 fun B15 =>
 Z59 a1 (bv true) B15))
 (mk (ob (xbin PP .eql 3 (shr (shr a6)) (iv 94)) fun a16 =>
 asB (shr a16) fun t17 => br t17 (mk (ob (xbuild PP 27 [(0, (iv 9)), (4, (iv 0))]) fun a18 =>
 stN 7 a1 a18 B7 fun B19 =>
 Z59 a1 (bv false) B19))
 (mk (ob (xbin PP .eql 3 (shr (shr a6)) (iv 36)) fun a20 =>
 asB (shr a20) fun t21 => br t21 (mk (ob (xbuild PP 27 [(0, (iv 9)), (4, (iv 1))]) fun a22 =>
 stN 7 a1 a22 B7 fun B23 =>
 Z59 a1 (bv false) B23))
 (mk (ob (xbin PP .eql 3 (shr (shr a6)) (iv 92)) fun a24 =>
 asB (shr a24) fun t25 => br t25 (mk (callS false EE 49 [(shr x0), (shr (shr a5))] B7 fun a26 B27 =>
 bz PP 27 B27 fun a28 B29 =>
 stN 7 a28 a26 B29 fun B30 =>
 mk (ob (ldN true 7 a28 B30) fun a31 =>
 ob (xfld 0 a28) fun a32 =>
 ob (ldN false 1 a32 B30) fun a33 =>
 ob (xbin PP .neq 3 a33 (iv 9)) fun a34 =>
 stN 7 a1 a31 B30 fun B35 =>
 grd (ptrNe a32 a1) (Z59 a1 (shr a34) B35))))
 (mk (ob (xbin PP .eql 3 (shr (shr a6)) (iv 91)) fun a36 =>
 asB (shr a36) fun t37 => br t37 (mk (callS false EE 50 [(shr x0), (shr (shr a5))] B7 fun a38 B39 =>
 stN 7 a1 a38 B39 fun B40 =>
 Z59 a1 (bv true) B40))
 (mk (ob (xbin PP .eql 3 (shr (shr a6)) (iv 40)) fun a41 =>
 asB (shr a41) fun t42 => br t42 (mk (callS false EE 51 [(shr x0), (shr (shr a5))] B7 fun a43 B44 =>
 ob (xext 0 a43) fun a45 =>
 ob (xext 1 a43) fun a46 =>
 stN 7 a1 (shr a45) B44 fun B47 =>
 Z59 a1 (shr (shr a46)) B47))
 (mk (ob (xbin PP .eql 3 (shr (shr a6)) (iv 42)) fun a48 =>
 asB (shr a48) fun t49 => br t49 (asB (shr a48) fun t50 => br t50 (mk (callS false EE 29 [(shr x0), (iv 23), (shr (shr a5))] B7 fun a51 B52 =>
 Z5s m0 a1 (gcB m0 [a1] B52)))
 (mk (ob (xbin PP .eql 3 (shr (shr a6)) (iv 93)) fun a53 =>
 asB (shr a53) fun t54 => br t54 (asB (shr a53) fun t55 => br t55 (mk (callS false EE 29 [(shr x0), (iv 20), (shr (shr a5))] B7 fun a56 B57 =>
 Z5s m0 a1 (gcB m0 [a1] B57)))
 (mk (callS false EE 48 [(shr (shr a6))] B7 fun a58 B59 =>
 ob (xlit PP 23 1 [(0, a58)]) fun a60 =>
 callS false EE 47 [(bv false), a60] B59 fun a61 B62 =>
 stN 7 a1 a61 B62 fun B63 =>
 Z59 a1 (bv true) B63)))
 (mk (ob (xbin PP .eql 3 (shr (shr a6)) (iv 125)) fun a64 =>
 asB (shr a64) fun t65 => br t65 (mk (callS false EE 29 [(shr x0), (iv 20), (shr (shr a5))] B7 fun a66 B67 =>
 Z5s m0 a1 (gcB m0 [a1] B67)))
 (mk (callS false EE 48 [(shr (shr a6))] B7 fun a68 B69 =>
 ob (xlit PP 23 1 [(0, a68)]) fun a70 =>
 callS false EE 47 [(bv false), a70] B69 fun a71 B72 =>
 stN 7 a1 a71 B72 fun B73 =>
 Z59 a1 (bv true) B73)))))))
 (mk (ob (xbin PP .eql 3 (shr (shr a6)) (iv 43)) fun a74 =>
 asB (shr a74) fun t75 => br t75 (asB (shr a74) fun t76 => br t76 (mk (callS false EE 29 [(shr x0), (iv 23), (shr (shr a5))] B7 fun a77 B78 =>
 Z5s m0 a1 (gcB m0 [a1] B78)))
 (mk (ob (xbin PP .eql 3 (shr (shr a6)) (iv 93)) fun a79 =>
 asB (shr a79) fun t80 => br t80 (asB (shr a79) fun t81 => br t81 (mk (callS false EE 29 [(shr x0), (iv 20), (shr (shr a5))] B7 fun a82 B83 =>
 Z5s m0 a1 (gcB m0 [a1] B83)))
 (mk (callS false EE 48 [(shr (shr a6))] B7 fun a84 B85 =>
 ob (xlit PP 23 1 [(0, a84)]) fun a86 =>
 callS false EE 47 [(bv false), a86] B85 fun a87 B88 =>
 stN 7 a1 a87 B88 fun B89 =>
 Z59 a1 (bv true) B89)))
 (mk (ob (xbin PP .eql 3 (shr (shr a6)) (iv 125)) fun a90 =>
 asB (shr a90) fun t91 => br t91 (mk (callS false EE 29 [(shr x0), (iv 20), (shr (shr a5))] B7 fun a92 B93 =>
 Z5s m0 a1 (gcB m0 [a1] B93)))
 (mk (callS false EE 48 [(shr (shr a6))] B7 fun a94 B95 =>
 ob (xlit PP 23 1 [(0, a94)]) fun a96 =>
 callS false EE 47 [(bv false), a96] B95 fun a97 B98 =>
 stN 7 a1 a97 B98 fun B99 =>
 Z59 a1 (bv true) B99)))))))
 (mk (ob (xbin PP .eql 3 (shr (shr a6)) (iv 63)) fun a100 =>
 asB (shr a100) fun t101 => br t101 (asB (shr a100) fun t102 => br t102 (mk (callS false EE 29 [(shr x0), (iv 23), (shr (shr a5))] B7 fun a103 B104 =>
 Z5s m0 a1 (gcB m0 [a1] B104)))
 (mk (ob (xbin PP .eql 3 (shr (shr a6)) (iv 93)) fun a105 =>
 asB (shr a105) fun t106 => br t106 (asB (shr a105) fun t107 => br t107 (mk (callS false EE 29 [(shr x0), (iv 20), (shr (shr a5))] B7 fun a108 B109 =>
 Z5s m0 a1 (gcB m0 [a1] B109)))
 (mk (callS false EE 48 [(shr (shr a6))] B7 fun a110 B111 =>
 ob (xlit PP 23 1 [(0, a110)]) fun a112 =>
 callS false EE 47 [(bv false), a112] B111 fun a113 B114 =>
 stN 7 a1 a113 B114 fun B115 =>
 Z59 a1 (bv true) B115)))
 (mk (ob (xbin PP .eql 3 (shr (shr a6)) (iv 125)) fun a116 =>
 asB (shr a116) fun t117 => br t117 (mk (callS false EE 29 [(shr x0), (iv 20), (shr (shr a5))] B7 fun a118 B119 =>
 Z5s m0 a1 (gcB m0 [a1] B119)))
 (mk (callS false EE 48 [(shr (shr a6))] B7 fun a120 B121 =>
 ob (xlit PP 23 1 [(0, a120)]) fun a122 =>
 callS false EE 47 [(bv false), a122] B121 fun a123 B124 =>
 stN 7 a1 a123 B124 fun B125 =>
 Z59 a1 (bv true) B125)))))))
 (mk (ob (xbin PP .eql 3 (shr (shr a6)) (iv 123)) fun a126 =>
 asB (shr a126) fun t127 => br t127 (mk (callS false EE 29 [(shr x0), (iv 23), (shr (shr a5))] B7 fun a128 B129 =>
 Z5s m0 a1 (gcB m0 [a1] B129)))
 (mk (ob (xbin PP .eql 3 (shr (shr a6)) (iv 93)) fun a130 =>
 asB (shr a130) fun t131 => br t131 (asB (shr a130) fun t132 => br t132 (mk (callS false EE 29 [(shr x0), (iv 20), (shr (shr a5))] B7 fun a133 B134 =>
 Z5s m0 a1 (gcB m0 [a1] B134)))
 (mk (callS false EE 48 [(shr (shr a6))] B7 fun a135 B136 =>
 ob (xlit PP 23 1 [(0, a135)]) fun a137 =>
 callS false EE 47 [(bv false), a137] B136 fun a138 B139 =>
 stN 7 a1 a138 B139 fun B140 =>
 Z59 a1 (bv true) B140)))
 (mk (ob (xbin PP .eql 3 (shr (shr a6)) (iv 125)) fun a141 =>
 asB (shr a141) fun t142 => br t142 (mk (callS false EE 29 [(shr x0), (iv 20), (shr (shr a5))] B7 fun a143 B144 =>
 Z5s m0 a1 (gcB m0 [a1] B144)))
 (mk (callS false EE 48 [(shr (shr a6))] B7 fun a145 B146 =>
 ob (xlit PP 23 1 [(0, a145)]) fun a147 =>
 callS false EE 47 [(bv false), a147] B146 fun a148 B149 =>
 stN 7 a1 a148 B149 fun B150 =>
 Z59 a1 (bv true) B150)))))))))))))))))))))))))))))) := (E_eq PP XX HH _ _ _).trans (by kernel_rfl)
noncomputable def Zhe : Code := bodyOf Tryd.f43
def ZgZ (r0 : AV) (B : List Row) : Option Res :=
 ob (ob (ldN true 7 r0 B) fun v => ob (some []) fun vs => some (v :: vs)) fun vs => some ((nrmA (match vs with | [v] => v | vs => mkTup (vs.map shr))), B)
noncomputable def Zg9 (m0 : Nat) : Kont := kret PP HH 43 Tryd.f43.results
noncomputable def ZaO (m0 : Nat) (x0 x2 x6 x7 x8 : AV) (B : List Row) : Option Res := exec PP HH 43 m0 EE LL (l2 (l2 (l2 (l2 Zhe)))) (Zg9 m0) [(0, x0), (2, x2), (6, x6), (7, x7), (8, x8)] B
noncomputable def Zdv (m0 : Nat) (x0 x6 x8 : AV) (B : List Row) : Option Res := exec PP HH 43 m0 EE LL (l2 (l2 (l2 (l2 (l2 Zhe))))) (Zg9 m0) [(0, x0), (6, x6), (8, x8)] B
noncomputable def Zck (m0 : Nat) (x6 x8 : AV) (B : List Row) : Option Res := exec PP HH 43 m0 EE LL (l2 (l2 (l2 (l2 (l2 (l2 Zhe)))))) (Zg9 m0) [(6, x6), (8, x8)] B
theorem Zhw (m0 : Nat) (x0 x2 x6 x7 x8 : AV) (B : List Row) : ZaO m0 x0 x2 x6 x7 x8 B =
 mk (ob (xun PP .not (shr x2)) fun a40 =>
 asB a40 fun t41 => br t41 (mk (callS false EE 29 [(shr x0), (iv 23), (shr x7)] B fun a42 B43 =>
 Zdv m0 x0 x6 x8 (gcB m0 [x0, x6, x8] B43)))
 (Zdv m0 x0 x6 x8 (gcB m0 [x0, x6, x8] B))) := by kernel_rfl
theorem Zhj (m0 : Nat) (x0 x6 x8 : AV) (B : List Row) : Zdv m0 x0 x6 x8 B =
 mk (callS false EE 27 [(shr x0), (.p (.v (.string (ByteArray.mk #[63]))))] B fun a44 B45 =>
 asB (shr a44) fun t46 => br t46 (mk (ob (xfld 3 x8) fun a47 =>
 stN 1 a47 (iv 1) B45 fun B48 =>
 Zck m0 x6 x8 (gcB m0 [x6, x8] B48)))
 (mk (callS false EE 27 [(shr x0), (.p (.v (.string (ByteArray.mk #[43]))))] B45 fun a49 B50 =>
 asB (shr a49) fun t51 => br t51 (mk (ob (xfld 3 x8) fun a52 =>
 stN 1 a52 (iv 2) B50 fun B53 =>
 Zck m0 x6 x8 (gcB m0 [x6, x8] B53)))
 (Zck m0 x6 x8 (gcB m0 [x6, x8] B50))))) := by kernel_rfl
theorem Zhu (m0 : Nat) (x6 x8 : AV) (B : List Row) : Zck m0 x6 x8 B =
 mk (ob (ldN true 7 x8 B) fun a54 =>
 stN 7 x6 a54 B fun B55 =>
 ZgZ x6 B55) := by kernel_rfl
theorem Zk9 (x0 x1 x2 : AV) (B : List Row) : EE 43 [x0, x1, x2] B =
 (let m0 := B.length
 mk (bx x1 B fun a1 B2 =>
 bz PP 27 B2 fun a3 B4 =>
 mk (ob (xnilchk (shr x0)) fun a5 =>
 ob (xfld 1 a5) fun a6 =>
 ob (ldN false 1 a6 B4) fun a7 =>
 mk (ob (ldN true 7 a1 B4) fun a8 =>
 ob (xlit PP 25 1 [(0, a8)]) fun a9 =>
 ob (xbuild PP 27 [(0, (iv 4)), (2, (iv (-1))), (6, a9)]) fun a10 =>
 bz PP 27 B4 fun a11 B12 =>
 stN 7 a11 a10 B12 fun B13 =>
 mk (callS false EE 27 [(shr x0), (.p (.v (.string (ByteArray.mk #[42]))))] B13 fun a14 B15 =>
 asB (shr a14) fun t16 => br t16 (ZaO m0 x0 x2 a3 (shr a7) a11 (gcB m0 [x0, x2, a3, (shr a7), a11] B15))
 (mk (callS false EE 27 [(shr x0), (.p (.v (.string (ByteArray.mk #[43]))))] B15 fun a17 B18 =>
 asB (shr a17) fun t19 => br t19 (mk (ob (xfld 1 a11) fun a20 =>
 stN 1 a20 (iv 1) B18 fun B21 =>
 ZaO m0 x0 x2 a3 (shr a7) a11 (gcB m0 [x0, x2, a3, (shr a7), a11] B21)))
 (mk (callS false EE 27 [(shr x0), (.p (.v (.string (ByteArray.mk #[63]))))] B18 fun a22 B23 =>
 asB (shr a22) fun t24 => br t24 (mk (ob (xfld 2 a11) fun a25 =>
 stN 1 a25 (iv 1) B23 fun B26 =>
 ZaO m0 x0 x2 a3 (shr a7) a11 (gcB m0 [x0, x2, a3, (shr a7), a11] B26)))
 (mk (callS false EE 27 [(shr x0), (.p (.v (.string (ByteArray.mk #[123]))))] B23 fun a27 B28 =>
 asB (shr a27) fun t29 => br t29 (mk (callS false EE 52 [(shr x0), (shr (shr a7))] B28 fun a30 B31 =>
 ob (xext 0 (shr a30)) fun a32 =>
 ob (xext 1 (shr a30)) fun a33 =>
 ob (xfld 1 a11) fun a34 =>
 stN 1 a34 (shr a32) B31 fun B35 =>
 ob (xfld 2 a11) fun a36 =>
 stN 1 a36 (shr a33) B35 fun B37 =>
 ZaO m0 x0 x2 a3 (shr a7) a11 (gcB m0 [x0, x2, a3, (shr a7), a11] B37)))
 (mk (ob (ldN true 7 a1 B28) fun a38 =>
 stN 7 a3 a38 B28 fun B39 =>
 ZgZ a3 B39))))))))))))) := (E_eq PP XX HH _ _ _).trans (by kernel_rfl)
noncomputable def Zbq : Code := bodyOf Tryd.f44
def Zh3 (r0 : AV) (B : List Row) : Option Res :=
 ob (ob (some r0) fun v => ob (some []) fun vs => some (v :: vs)) fun vs => some ((nrmA (match vs with | [v] => v | vs => mkTup (vs.map shr))), B)
noncomputable def ZfY (m0 : Nat) : Kont := kret PP HH 44 Tryd.f44.results
noncomputable def Zlg (m0 : Nat) : Kont := kseq HH 44 m0 (l2 (l2 Zbq)) (exec PP HH 44 m0 EE LL (l2 (l2 Zbq)) (ZfY m0)) (ZfY m0)
noncomputable def Zfv (m0 : Nat) : Kont := kblk 0 (Zlg m0)
noncomputable def ZiV (m0 : Nat) : Kont := kloop HH 44 m0 (l1 (l1 (l2 (l1 (l2 Zbq))))) (LL 44 m0 (l1 (l1 (l2 (l1 (l2 Zbq))))) (Zfv m0)) (Zfv m0)
noncomputable def Zc2 (m0 : Nat) (x0 x1 x7 x8 : AV) (B : List Row) : Option Res := lp (LL 44 m0 (l1 (l1 (l2 (l1 (l2 Zbq))))) (Zfv m0) [(0, x0), (1, x1), (7, x7), (8, x8)] B)
noncomputable def ZfT (m0 : Nat) (x0 x1 x7 x8 : AV) (B : List Row) : Option Res := exec PP HH 44 m0 EE LL (l2 (l2 (l1 (l1 (l2 (l1 (l2 Zbq))))))) (ZiV m0) [(0, x0), (1, x1), (7, x7), (8, x8)] B
noncomputable def Zga (m0 : Nat) (B : List Row) : Option Res := exec PP HH 44 m0 EE LL (l2 (l2 Zbq)) (ZfY m0) [] B
noncomputable def ZgK (m0 : Nat) (x0 x1 x7 x8 : AV) (B : List Row) : Option Res := exec PP HH 44 m0 EE LL (l2 (l2 (l2 (l1 (l1 (l2 (l1 (l2 Zbq)))))))) (ZiV m0) [(0, x0), (1, x1), (7, x7), (8, x8)] B
theorem ZiK (m0 : Nat) (x0 x1 x7 x8 : AV) (B : List Row) : Zc2 m0 x0 x1 x7 x8 B =
 mk (ob (xbin PP .lss 3 x8 x7) fun a2 =>
 asB a2 fun t3 => br t3 (ZfT m0 x0 x1 x7 x8 (gcB m0 [x0, x1, x7, x8] B))
 (Zga m0  (gcB m0 [] B))) := (L_eq PP XX HH _ _ _ _ _ _).trans (by kernel_rfl)
theorem Ziq (m0 : Nat) (x0 x1 x7 x8 : AV) (B : List Row) : ZfT m0 x0 x1 x7 x8 B =
 mk (mk (ob (xidx 7 (shr x0) (shr (shr (shr x8)))) fun a4 =>
 ob (ldN true 7 a4 B) fun a5 =>
 callV HH EE (shr x1) [a5] B fun a6 B7 =>
 asB a6 fun t8 => br t8 (mk (Zh3 (shr (shr (shr (shr x8)))) B7))
 (ZgK m0 x0 x1 x7 x8 (gcB m0 [x0, x1, x7, x8] B7)))) := by kernel_rfl
theorem Ziy (m0 : Nat) (B : List Row) : Zga m0  B =
 mk (Zh3 (iv (-1)) B) := by kernel_rfl
theorem ZiH (m0 : Nat) (x0 x1 x7 x8 : AV) (B : List Row) : ZgK m0 x0 x1 x7 x8 B =
 mk (ob (xbin PP .add 3 x8 (iv 1)) fun a9 =>
 Zc2 m0 x0 x1 x7 (shr a9) (gcB m0 [x0, x1, x7, (shr a9)] B)) := by kernel_rfl
theorem ZjQ (x0 x1 : AV) (B : List Row) : EE 44 [x0, x1] B =
 (let m0 := B.length
 mk (mk (ob (xlen PP 25 (shr x0)) fun a1 =>
 Zc2 m0 x0 x1 a1 (iv 0) (gcB m0 [x0, x1, a1, (iv 0)] B)))) := (E_eq PP XX HH _ _ _).trans (by kernel_rfl)
noncomputable def Zbx : Code := bodyOf Tryd.f45
def ZeX (r0 r1 : AV) (B : List Row) : Option Res :=
 ob (ob (some r0) fun v => ob (ob (some r1) fun v => ob (some []) fun vs => some (v :: vs)) fun vs => some (v :: vs)) fun vs => some ((nrmA (match vs with | [v] => v | vs => mkTup (vs.map shr))), B)
noncomputable def Zc5 (m0 : Nat) : Kont := kret PP HH 45 Tryd.f45.results
noncomputable def Zks (m0 : Nat) : Kont := kseq HH 45 m0 (l2 (l2 Zbx)) (exec PP HH 45 m0 EE LL (l2 (l2 Zbx)) (Zc5 m0)) (Zc5 m0)
noncomputable def Zkh (m0 : Nat) : Kont := kseq HH 45 m0 (l2 (l2 (l2 (l2 Zbx)))) (exec PP HH 45 m0 EE LL (l2 (l2 (l2 (l2 Zbx)))) (Zc5 m0)) (Zc5 m0)
noncomputable def Zen (m0 : Nat) (B : List Row) : Option Res := exec PP HH 45 m0 EE LL (l1 (l2 (l1 (l2 Zbx)))) (Zks m0) [] B
noncomputable def Zgj (m0 : Nat) (x0 x1 : AV) (B : List Row) : Option Res := exec PP HH 45 m0 EE LL (l2 (l2 Zbx)) (Zc5 m0) [(0, x0), (1, x1)] B
noncomputable def ZgM (m0 : Nat) (x0 x1 : AV) (B : List Row) : Option Res := exec PP HH 45 m0 EE LL (l1 (l2 (l1 (l2 (l2 (l2 Zbx)))))) (Zkh m0) [(0, x0), (1, x1)] B
noncomputable def Zeo (m0 : Nat) (x6 x7 : AV) (B : List Row) : Option Res := exec PP HH 45 m0 EE LL (l2 (l2 (l2 (l2 Zbx)))) (Zc5 m0) [(6, x6), (7, x7)] B
theorem Zj3 (m0 : Nat) (B : List Row) : Zen m0  B =
 mk (ZeX (iv 0) (iv 0) B) := by kernel_rfl
theorem Zjg (m0 : Nat) (x0 x1 : AV) (B : List Row) : Zgj m0 x0 x1 B =
 mk (ob (xsl 1 (shr x0) (some (shr x1)) none none) fun a6 =>
 callS false EE 53 [a6] B fun a7 B8 =>
 ob (xext 0 (shr a7)) fun a9 =>
 ob (xext 1 (shr a7)) fun a10 =>
 mk (ob (xbin PP .eql 21 (shr (shr (shr a9))) (kv .i32 65533)) fun a11 =>
 asB (shr a11) fun t12 => br t12 (ob (xbin PP .eql 3 (shr (shr (shr a10))) (iv 1)) fun a13 =>
 asB (shr a13) fun t14 => br t14 (ZgM m0 x0 x1 (gcB m0 [x0, x1] B8))
 (Zeo m0 (shr (shr a9)) (shr (shr a10)) (gcB m0 [(shr (shr a9)), (shr (shr a10))] B8)))
 (Zeo m0 (shr (shr a9)) (shr (shr a10)) (gcB m0 [(shr (shr a9)), (shr (shr a10))] B8)))) := by kernel_rfl
theorem Zip (m0 : Nat) (x0 x1 : AV) (B : List Row) : ZgM m0 x0 x1 B =
 mk (ob (xidx 1 (shr x0) (shr x1)) fun a15 =>
 ob (ldN false 1 a15 B) fun a16 =>
 ob (xcnv PP 5 3 a16) fun a17 =>
 ob (xbin PP .add 3 (iv 1114112) a17) fun a18 =>
 ZeX (shr a18) (iv 1) B) := by kernel_rfl
theorem ZiQ (m0 : Nat) (x6 x7 : AV) (B : List Row) : Zeo m0 x6 x7 B =
 mk (ob (xcnv PP 21 3 (shr x6)) fun a19 =>
 ZeX (shr a19) (shr (shr x7)) B) := by kernel_rfl
theorem ZkW (x0 x1 : AV) (B : List Row) : EE 45 [x0, x1] B =
 (let m0 := B.length
 mk (mk (ob (xbin PP .lss 3 (shr x1) (iv 0)) fun a1 =>
 asB (shr a1) fun t2 => br t2 (Zen m0  (gcB m0 [] B))
 (ob (xlen PP 40 (shr x0)) fun a3 =>
 ob (xbin PP .geq 3 (shr x1) a3) fun a4 =>
 asB (shr a4) fun t5 => br t5 (Zen m0  (gcB m0 [] B))
 (Zgj m0 x0 x1 (gcB m0 [x0, x1] B)))))) := (E_eq PP XX HH _ _ _).trans (by kernel_rfl)
noncomputable def ZlN : Code := bodyOf Tryd.f46
def ZjJ (r0 : AV) (B : List Row) : Option Res :=
 ob (ob (some r0) fun v => ob (some []) fun vs => some (v :: vs)) fun vs => some ((nrmA (match vs with | [v] => v | vs => mkTup (vs.map shr))), B)
theorem Zkn (x0 : AV) (B : List Row) : EE 46 [x0] B =
 (let m0 := B.length
 mk (mk (ob (xnilchk (shr x0)) fun a1 =>
 ob (xfld 0 a1) fun a2 =>
 ob (ldN false 1 a2 B) fun a3 =>
 ob (xnilchk (shr x0)) fun a4 =>
 ob (xfld 1 a4) fun a5 =>
 ob (ldN false 1 a5 B) fun a6 =>
 callS false EE 45 [a3, a6] B fun a7 B8 =>
 ob (xext 0 (shr a7)) fun a9 =>
 ob (xext 1 (shr a7)) fun a10 =>
 mk (ob (xnilchk (shr x0)) fun a11 =>
 ob (xfld 1 a11) fun a12 =>
 ob (ldN false 1 a12 B8) fun a13 =>
 ob (xbin PP .add 3 a13 (shr (shr (shr a10)))) fun a14 =>
 ob (xnilchk (shr x0)) fun a15 =>
 ob (xfld 1 a15) fun a16 =>
 stN 1 a16 a14 B8 fun B17 =>
 mk (ZjJ (shr (shr (shr (shr a9)))) B17))))) := (E_eq PP XX HH _ _ _).trans (by kernel_rfl)
noncomputable def Zlx : Code := bodyOf Tryd.f47
def Zjy (r0 : AV) (B : List Row) : Option Res :=
 ob (ob (ldN true 7 r0 B) fun v => ob (some []) fun vs => some (v :: vs)) fun vs => some ((nrmA (match vs with | [v] => v | vs => mkTup (vs.map shr))), B)
noncomputable def Zkx (m0 : Nat) : Kont := kret PP HH 47 Tryd.f47.results
noncomputable def Zeb (m0 : Nat) (x4 x5 : AV) (B : List Row) : Option Res := exec PP HH 47 m0 EE LL (l2 (l2 (l2 Zlx))) (Zkx m0) [(4, x4), (5, x5)] B
theorem Zis (m0 : Nat) (x4 x5 : AV) (B : List Row) : Zeb m0 x4 x5 B =
 mk (ob (xbuild PP 27 [(0, (iv 1)), (5, (shr x5))]) fun a12 =>
 stN 7 x4 a12 B fun B13 =>
 Zjy x4 B13) := by kernel_rfl
theorem Zkf (x0 x1 : AV) (B : List Row) : EE 47 [x0, x1] B =
 (let m0 := B.length
 mk (bz PP 27 B fun a1 B2 =>
 mk (callS false EE 54 [(shr x1)] B2 fun a3 B4 =>
 ob (xext 0 (shr a3)) fun a5 =>
 ob (xext 1 (shr a3)) fun a6 =>
 mk (asB (shr x0) fun t7 => br t7 (mk (callS false EE 55 [(shr (shr (shr a5)))] B4 fun a8 B9 =>
 ob (xext 0 (shr a8)) fun a10 =>
 ob (xext 1 (shr a8)) fun a11 =>
 Zeb m0 a1 (shr (shr a10)) (gcB m0 [a1, (shr (shr a10))] B9)))
 (Zeb m0 a1 (shr (shr a5)) (gcB m0 [a1, (shr (shr a5))] B4)))))) := (E_eq PP XX HH _ _ _).trans (by kernel_rfl)
noncomputable def ZlK : Code := bodyOf Tryd.f48
def ZjE (r0 : AV) (B : List Row) : Option Res :=
 ob (ob (ldN true 2 r0 B) fun v => ob (some []) fun vs => some (v :: vs)) fun vs => some ((nrmA (match vs with | [v] => v | vs => mkTup (vs.map shr))), B)
theorem ZkT (x0 : AV) (B : List Row) : EE 48 [x0] B =
 (let m0 := B.length
 mk (bz PP 39 B fun a1 B2 =>
 mk (ob (xbuild PP 39 [(0, (shr x0)), (1, (shr x0))]) fun a3 =>
 stN 2 a1 a3 B2 fun B4 =>
 ZjE a1 B4))) := (E_eq PP XX HH _ _ _).trans (by kernel_rfl)
noncomputable def Ze5 : Code := bodyOf Tryd.f49
def ZaL (r0 : AV) (B : List Row) : Option Res :=
 ob (ob (ldN true 7 r0 B) fun v => ob (some []) fun vs => some (v :: vs)) fun vs => some ((nrmA (match vs with | [v] => v | vs => mkTup (vs.map shr))), B)
noncomputable def ZeA (m0 : Nat) : Kont := kret PP HH 49 Tryd.f49.results
noncomputable def Zke (m0 : Nat) : Kont := kseq HH 49 m0 (l2 (l2 (l2 (l2 (l2 Ze5))))) (exec PP HH 49 m0 EE LL (l2 (l2 (l2 (l2 (l2 Ze5))))) (ZeA m0)) (ZeA m0)
noncomputable def Zl1 (m0 : Nat) : Kont := kblk 0 (Zke m0)
noncomputable def Zgg (m0 : Nat) (x0 x1 x4 x5 : AV) (B : List Row) : Option Res := exec PP HH 49 m0 EE LL (l2 (l2 (l2 Ze5))) (ZeA m0) [(0, x0), (1, x1), (4, x4), (5, x5)] B
noncomputable def ZeD (m0 : Nat) (x0 x1 x4 x5 : AV) (B : List Row) : Option Res := exec PP HH 49 m0 EE LL (l1 (l2 (l2 (l2 (l2 (l2 (l2 (l2 (l1 (l1 (l2 (l2 (l2 (l2 Ze5)))))))))))))) (Zl1 m0) [(0, x0), (1, x1), (4, x4), (5, x5)] B
noncomputable def Zdq (m0 : Nat) (x0 x1 x4 x5 : AV) (B : List Row) : Option Res := exec PP HH 49 m0 EE LL (l2 (l2 (l2 (l2 (l2 Ze5))))) (ZeA m0) [(0, x0), (1, x1), (4, x4), (5, x5)] B
theorem Zjp (m0 : Nat) (x0 x1 x4 x5 : AV) (B : List Row) : Zgg m0 x0 x1 x4 x5 B =
 mk (callS false EE 46 [(shr x0)] B fun a11 B12 =>
 mk (callS true EE 56 [(shr x5)] B12 fun a13 B14 =>
 ob (xnil PP .neq 23 (.slice none 0 0) a13) fun a15 =>
 asB (shr a15) fun t16 => br t16 (mk (ob (xbin PP .lss 3 (shr x5) (iv 97)) fun a17 =>
 callS true EE 56 [(shr x5)] B14 fun a18 B19 =>
 callS false EE 47 [a17, a18] B19 fun a20 B21 =>
 stN 7 x4 a20 B21 fun B22 =>
 ZaL x4 B22))
 (mk (ob (xbin PP .eql 3 (shr x5) (iv 98)) fun a23 =>
 asB (shr a23) fun t24 => br t24 (mk (ob (xbuild PP 27 [(0, (iv 9)), (4, (iv 2))]) fun a25 =>
 stN 7 x4 a25 B14 fun B26 =>
 ZaL x4 B26))
 (mk (ob (xbin PP .eql 3 (shr x5) (iv 66)) fun a27 =>
 asB (shr a27) fun t28 => br t28 (mk (ob (xbuild PP 27 [(0, (iv 9)), (4, (iv 3))]) fun a29 =>
 stN 7 x4 a29 B14 fun B30 =>
 ZaL x4 B30))
 (mk (ob (xbin PP .geq 3 (shr x5) (iv 49)) fun a31 =>
 asB (shr a31) fun t32 => br t32 (ob (xbin PP .leq 3 (shr x5) (iv 57)) fun a33 =>
 asB (shr (shr a33)) fun t34 => br t34 (ZeD m0 x0 x1 x4 x5 (gcB m0 [x0, x1, x4, x5] B14))
 (Zdq m0 x0 x1 x4 x5 (gcB m0 [x0, x1, x4, x5] B14)))
 (Zdq m0 x0 x1 x4 x5 (gcB m0 [x0, x1, x4, x5] B14)))))))))) := by kernel_rfl
theorem ZhC (m0 : Nat) (x0 x1 x4 x5 : AV) (B : List Row) : ZeD m0 x0 x1 x4 x5 B =
 mk (ob (xnilchk (shr x0)) fun a35 =>
 ob (xfld 4 a35) fun a36 =>
 ldOwn a36 B fun a37 B38 =>
 ob (xbin PP .sub 3 (shr x5) (iv 48)) fun a39 =>
 ob (xbuild PP 62 [(0, a39), (1, (shr x1))]) fun a40 =>
 ob (xlit PP 56 1 [(0, a40)]) fun a41 =>
 ob (xapp 2 a37 a41) fun a42 =>
 ob (xnilchk (shr x0)) fun a43 =>
 ob (xfld 4 a43) fun a44 =>
 stN 1 a44 a42 B38 fun B45 =>
 mk (ob (xbin PP .sub 3 (shr x5) (iv 48)) fun a46 =>
 ob (xbuild PP 27 [(0, (iv 6)), (4, a46)]) fun a47 =>
 stN 7 x4 a47 B45 fun B48 =>
 ZaL x4 B48)) := by kernel_rfl
theorem Zhg (m0 : Nat) (x0 x1 x4 x5 : AV) (B : List Row) : Zdq m0 x0 x1 x4 x5 B =
 mk (callS false EE 57 [(shr x0), (shr x5), (shr x1)] B fun a49 B50 =>
 callS false EE 48 [a49] B50 fun a51 B52 =>
 ob (xlit PP 23 1 [(0, a51)]) fun a53 =>
 callS false EE 47 [(bv false), a53] B52 fun a54 B55 =>
 stN 7 x4 a54 B55 fun B56 =>
 ZaL x4 B56) := by kernel_rfl
theorem Zko (x0 x1 : AV) (B : List Row) : EE 49 [x0, x1] B =
 (let m0 := B.length
 mk (bz PP 27 B fun a1 B2 =>
 mk (callS false EE 41 [(shr x0)] B2 fun a3 B4 =>
 mk (ob (xbin PP .lss 3 (shr (shr a3)) (iv 0)) fun a5 =>
 asB a5 fun t6 => br t6 (mk (callS false EE 29 [(shr x0), (iv 21), (shr x1)] B4 fun a7 B8 =>
 mk (ob (xbuild PP 27 []) fun a9 =>
 stN 7 a1 a9 B8 fun B10 =>
 ZaL a1 B10)))
 (Zgg m0 x0 x1 a1 (shr a3) (gcB m0 [x0, x1, a1, (shr a3)] B4)))))) := (E_eq PP XX HH _ _ _).trans (by kernel_rfl)
noncomputable def Z4E : Code := bodyOf Tryd.f50
def ZgS (r0 : AV) (B : List Row) : Option Res :=
 ob (ob (ldN true 7 r0 B) fun v => ob (some []) fun vs => some (v :: vs)) fun vs => some ((nrmA (match vs with | [v] => v | vs => mkTup (vs.map shr))), B)
noncomputable def ZgA (m0 : Nat) : Kont := kret PP HH 50 Tryd.f50.results
noncomputable def Zki (m0 : Nat) : Kont := kseq HH 50 m0 (l2 (l2 (l2 (l2 (l2 (l2 Z4E)))))) (exec PP HH 50 m0 EE LL (l2 (l2 (l2 (l2 (l2 (l2 Z4E)))))) (ZgA m0)) (ZgA m0)
noncomputable def Zgc (m0 : Nat) : Kont := kblk 0 (Zki m0)
noncomputable def Zee (m0 : Nat) : Kont := kloop HH 50 m0 (l1 (l1 (l1 (l2 (l2 (l2 (l2 (l2 Z4E)))))))) (LL 50 m0 (l1 (l1 (l1 (l2 (l2 (l2 (l2 (l2 Z4E)))))))) (Zgc m0)) (Zgc m0)
noncomputable def Zkj (m0 : Nat) : Kont := kseq HH 50 m0 (l2 (l2 (l1 (l1 (l1 (l2 (l2 (l2 (l2 (l2 Z4E)))))))))) (exec PP HH 50 m0 EE LL (l2 (l2 (l1 (l1 (l1 (l2 (l2 (l2 (l2 (l2 Z4E)))))))))) (Zee m0)) (Zee m0)
noncomputable def ZaT (m0 : Nat) : Kont := kblk 1 (Zkj m0)
noncomputable def ZkH (m0 : Nat) : Kont := kseq HH 50 m0 (l2 (l2 (l1 (l1 (l2 (l1 (l1 (l1 (l2 (l2 (l2 (l2 (l2 Z4E))))))))))))) (exec PP HH 50 m0 EE LL (l2 (l2 (l1 (l1 (l2 (l1 (l1 (l1 (l2 (l2 (l2 (l2 (l2 Z4E))))))))))))) (ZaT m0)) (ZaT m0)
noncomputable def Zj4 (m0 : Nat) : Kont := kblk 2 (ZkH m0)
noncomputable def Zes (m0 : Nat) : Kont := kseq HH 50 m0 (l2 (l2 (l2 (l2 (l2 (l2 (l1 (l1 (l2 (l1 (l1 (l1 (l2 (l2 (l2 (l2 (l2 Z4E))))))))))))))))) (exec PP HH 50 m0 EE LL (l2 (l2 (l2 (l2 (l2 (l2 (l1 (l1 (l2 (l1 (l1 (l1 (l2 (l2 (l2 (l2 (l2 Z4E))))))))))))))))) (ZaT m0)) (ZaT m0)
noncomputable def Zkw (m0 : Nat) : Kont := kseq HH 50 m0 (l2 (l1 (l2 (l1 (l2 (l2 (l2 (l2 (l2 (l1 (l1 (l2 (l1 (l1 (l1 (l2 (l2 (l2 (l2 (l2 Z4E)))))))))))))))))))) (exec PP HH 50 m0 EE LL (l2 (l1 (l2 (l1 (l2 (l2 (l2 (l2 (l2 (l1 (l1 (l2 (l1 (l1 (l1 (l2 (l2 (l2 (l2 (l2 Z4E)))))))))))))))))))) (Zes m0)) (Zes m0)
noncomputable def Zcd (m0 : Nat) (x0 x1 x4 x5 x6 x7 x8 : AV) (B : List Row) : Option Res := lp (LL 50 m0 (l1 (l1 (l1 (l2 (l2 (l2 (l2 (l2 Z4E)))))))) (Zgc m0) [(0, x0), (1, x1), (4, x4), (5, x5), (6, x6), (7, x7), (8, x8)] B)
noncomputable def Zge (m0 : Nat) (x0 x1 x4 x5 x6 x7 x8 : AV) (B : List Row) : Option Res := exec PP HH 50 m0 EE LL (l2 (l1 (l1 (l1 (l2 (l2 (l2 (l2 (l2 Z4E))))))))) (Zee m0) [(0, x0), (1, x1), (4, x4), (5, x5), (6, x6), (7, x7), (8, x8)] B
noncomputable def Zf4 (m0 : Nat) (x4 : AV) (B : List Row) : Option Res := exec PP HH 50 m0 EE LL (l2 (l2 (l2 (l2 (l2 (l2 Z4E)))))) (ZgA m0) [(4, x4)] B
noncomputable def Z7y (m0 : Nat) (x0 x1 x4 x5 x6 x7 x8 : AV) (B : List Row) : Option Res := exec PP HH 50 m0 EE LL (l2 (l2 (l1 (l1 (l1 (l2 (l2 (l2 (l2 (l2 Z4E)))))))))) (Zee m0) [(0, x0), (1, x1), (4, x4), (5, x5), (6, x6), (7, x7), (8, x8)] B
noncomputable def ZeH (m0 : Nat) (x0 x4 x5 x6 : AV) (B : List Row) : Option Res := exec PP HH 50 m0 EE LL (l2 (l1 (l2 (l2 (l2 (l1 (l2 (l2 (l1 (l2 (l1 (l1 (l2 (l1 (l1 (l1 (l2 (l2 (l2 (l2 (l2 Z4E))))))))))))))))))))) (Zj4 m0) [(0, x0), (4, x4), (5, x5), (6, x6)] B
noncomputable def Zdw (m0 : Nat) (x0 x1 x4 x5 x6 x7 x8 x9 : AV) (B : List Row) : Option Res := exec PP HH 50 m0 EE LL (l2 (l2 (l1 (l1 (l2 (l1 (l1 (l1 (l2 (l2 (l2 (l2 (l2 Z4E))))))))))))) (ZaT m0) [(0, x0), (1, x1), (4, x4), (5, x5), (6, x6), (7, x7), (8, x8), (9, x9)] B
noncomputable def Zdn (m0 : Nat) (x4 x6 : AV) (B : List Row) : Option Res := exec PP HH 50 m0 EE LL (l2 (l2 (l2 (l1 (l2 (l2 (l2 (l1 (l2 (l2 (l1 (l2 (l1 (l1 (l2 (l1 (l1 (l1 (l2 (l2 (l2 (l2 (l2 Z4E))))))))))))))))))))))) (Zj4 m0) [(4, x4), (6, x6)] B
noncomputable def ZeB (m0 : Nat) (x0 x1 x4 x5 x6 x7 x8 x9 x11 : AV) (B : List Row) : Option Res := exec PP HH 50 m0 EE LL (l2 (l2 (l2 (l2 (l1 (l1 (l2 (l1 (l1 (l1 (l2 (l2 (l2 (l2 (l2 Z4E))))))))))))))) (ZaT m0) [(0, x0), (1, x1), (4, x4), (5, x5), (6, x6), (7, x7), (8, x8), (9, x9), (11, x11)] B
noncomputable def ZaR (m0 : Nat) (x0 x1 x4 x5 x6 x7 x8 x9 : AV) (B : List Row) : Option Res := exec PP HH 50 m0 EE LL (l1 (l2 (l2 (l1 (l1 (l2 (l1 (l2 (l2 (l2 (l2 (l2 (l1 (l1 (l2 (l1 (l1 (l1 (l2 (l2 (l2 (l2 (l2 Z4E))))))))))))))))))))))) (Zkw m0) [(0, x0), (1, x1), (4, x4), (5, x5), (6, x6), (7, x7), (8, x8), (9, x9)] B
noncomputable def ZeG (m0 : Nat) (x0 x1 x4 x5 x6 x7 x8 x9 x11 : AV) (B : List Row) : Option Res := exec PP HH 50 m0 EE LL (l2 (l1 (l2 (l1 (l2 (l2 (l2 (l2 (l2 (l1 (l1 (l2 (l1 (l1 (l1 (l2 (l2 (l2 (l2 (l2 Z4E)))))))))))))))))))) (Zes m0) [(0, x0), (1, x1), (4, x4), (5, x5), (6, x6), (7, x7), (8, x8), (9, x9), (11, x11)] B
noncomputable def ZaM (m0 : Nat) (x0 x1 x4 x5 x6 x7 x8 x11 x15 : AV) (B : List Row) : Option Res := exec PP HH 50 m0 EE LL (l2 (l2 (l2 (l2 (l2 (l2 (l1 (l1 (l2 (l1 (l1 (l1 (l2 (l2 (l2 (l2 (l2 Z4E))))))))))))))))) (ZaT m0) [(0, x0), (1, x1), (4, x4), (5, x5), (6, x6), (7, x7), (8, x8), (11, x11), (15, x15)] B
noncomputable def Zdp (m0 : Nat) (x0 x1 x4 x5 x6 x7 x8 x9 x11 x15 : AV) (B : List Row) : Option Res := exec PP HH 50 m0 EE LL (l1 (l2 (l2 (l2 (l1 (l2 (l1 (l2 (l2 (l2 (l2 (l2 (l1 (l1 (l2 (l1 (l1 (l1 (l2 (l2 (l2 (l2 (l2 Z4E))))))))))))))))))))))) (Zes m0) [(0, x0), (1, x1), (4, x4), (5, x5), (6, x6), (7, x7), (8, x8), (9, x9), (11, x11), (15, x15)] B
theorem Zjo (m0 : Nat) (x0 x1 x4 x5 x6 x7 x8 : AV) (B : List Row) : Zcd m0 x0 x1 x4 x5 x6 x7 x8 B =
 mk (ob (xnilchk (shr x0)) fun a7 =>
 ob (xfld 5 a7) fun a8 =>
 ob (xfld 0 a8) fun a9 =>
 ob (ldN false 1 a9 B) fun a10 =>
 ob (xbin PP .eql 30 a10 (iv 0)) fun a11 =>
 asB a11 fun t12 => br t12 (Zge m0 x0 x1 x4 x5 x6 x7 x8 (gcB m0 [x0, x1, x4, x5, x6, x7, x8] B))
 (Zf4 m0 x4 (gcB m0 [x4] B))) := (L_eq PP XX HH _ _ _ _ _ _).trans (by kernel_rfl)
theorem ZiL (m0 : Nat) (x0 x1 x4 x5 x6 x7 x8 : AV) (B : List Row) : Zge m0 x0 x1 x4 x5 x6 x7 x8 B =
 mk (ob (xnilchk (shr x0)) fun a13 =>
 ob (xfld 1 a13) fun a14 =>
 ob (ldN false 1 a14 B) fun a15 =>
 mk (callS false EE 41 [(shr x0)] B fun a16 B17 =>
 mk (mk (ob (xbin PP .eql 3 (shr (shr a16)) (iv (-1))) fun a18 =>
 asB (shr a18) fun t19 => br t19 (mk (callS false EE 29 [(shr x0), (iv 22), (shr x1)] B17 fun a20 B21 =>
 Z7y m0 x0 x1 x4 x5 x6 x7 x8 (gcB m0 [x0, x1, x4, x5, x6, x7, x8] B21)))
 (mk (ob (xbin PP .eql 3 (shr (shr a16)) (iv 93)) fun a22 =>
 asB (shr a22) fun t23 => br t23 (mk (ob (xbin PP .eql 3 (shr x8) (iv 0)) fun a24 =>
 asB a24 fun t25 => br t25 (mk (callS false EE 29 [(shr x0), (iv 22), (shr x1)] B17 fun a26 B27 =>
 Z7y m0 x0 x1 x4 x5 x6 x7 x8 (gcB m0 [x0, x1, x4, x5, x6, x7, x8] B27)))
 (ZeH m0 x0 x4 x5 x6 (gcB m0 [x0, x4, x5, x6] B17))))
 (mk (ob (xbin PP .eql 3 (shr (shr a16)) (iv 91)) fun a28 =>
 asB (shr a28) fun t29 => br t29 (asB (shr a28) fun t30 => br t30 (mk (callS false EE 29 [(shr x0), (iv 22), (shr (shr a15))] B17 fun a31 B32 =>
 Z7y m0 x0 x1 x4 x5 x6 x7 x8 (gcB m0 [x0, x1, x4, x5, x6, x7, x8] B32)))
 (Zdw m0 x0 x1 x4 x5 x6 x7 x8 (shr a15) (gcB m0 [x0, x1, x4, x5, x6, x7, x8, (shr a15)] B17)))
 (mk (ob (xbin PP .eql 3 (shr (shr a16)) (iv 45)) fun a33 =>
 asB (shr a33) fun t34 => br t34 (mk (callS false EE 29 [(shr x0), (iv 22), (shr (shr a15))] B17 fun a35 B36 =>
 Z7y m0 x0 x1 x4 x5 x6 x7 x8 (gcB m0 [x0, x1, x4, x5, x6, x7, x8] B36)))
 (Zdw m0 x0 x1 x4 x5 x6 x7 x8 (shr a15) (gcB m0 [x0, x1, x4, x5, x6, x7, x8, (shr a15)] B17)))))))))))) := by kernel_rfl
theorem Zhr (m0 : Nat) (x4 : AV) (B : List Row) : Zf4 m0 x4 B =
 mk (ob (xbuild PP 27 []) fun a37 =>
 stN 7 x4 a37 B fun B38 =>
 ZgS x4 B38) := by kernel_rfl
theorem ZiX (m0 : Nat) (x0 x1 x4 x5 x6 x7 x8 : AV) (B : List Row) : Z7y m0 x0 x1 x4 x5 x6 x7 x8 B =
 mk (ob (xbin PP .add 3 (shr x8) (iv 1)) fun a39 =>
 Zcd m0 x0 x1 x4 x5 x6 x7 (shr a39) (gcB m0 [x0, x1, x4, x5, x6, x7, (shr a39)] B)) := by kernel_rfl
theorem ZhE (m0 : Nat) (x0 x4 x5 x6 : AV) (B : List Row) : ZeH m0 x0 x4 x5 x6 B =
 mk (callS false EE 46 [(shr x0)] B fun a40 B41 =>
 mk (asB (shr x5) fun t42 => br t42 (mk (ob (ldN false 1 x6 B41) fun a43 =>
 callS false EE 55 [a43] B41 fun a44 B45 =>
 ob (xext 0 (shr a44)) fun a46 =>
 ob (xext 1 (shr a44)) fun a47 =>
 stN 1 x6 (shr a46) B45 fun B48 =>
 Zdn m0 x4 x6 (gcB m0 [x4, x6] B48)))
 (Zdn m0 x4 x6 (gcB m0 [x4, x6] B41)))) := by kernel_rfl
theorem ZhO (m0 : Nat) (x0 x1 x4 x5 x6 x7 x8 x9 : AV) (B : List Row) : Zdw m0 x0 x1 x4 x5 x6 x7 x8 x9 B =
 mk (callS true EE 60 [(shr x0)] B fun a49 B50 =>
 ob (xext 0 (shr a49)) fun a51 =>
 ob (xext 1 (shr a49)) fun a52 =>
 ob (xext 2 (shr a49)) fun a53 =>
 mk (ob (xnil PP .neq 23 (.slice none 0 0) (shr (shr (shr a52)))) fun a54 =>
 asB a54 fun t55 => br t55 (mk (callS false EE 47 [(shr (shr (shr a53))), (shr (shr (shr a52)))] B50 fun a56 B57 =>
 bz PP 27 B57 fun a58 B59 =>
 stN 7 a58 a56 B59 fun B60 =>
 mk (ob (xfld 5 a58) fun a61 =>
 ob (ldN false 1 a61 B60) fun a62 =>
 callV HH EE (shr x7) [a62] B60 fun a63 B64 =>
 mk (callS false EE 41 [(shr x0)] B64 fun a65 B66 =>
 ob (xbin PP .eql 3 a65 (iv 45)) fun a67 =>
 asB a67 fun t68 => br t68 (mk (ob (xnilchk (shr x0)) fun a69 =>
 ob (xfld 1 a69) fun a70 =>
 ob (ldN false 1 a70 B66) fun a71 =>
 callS false EE 29 [(shr x0), (iv 22), a71] B66 fun a72 B73 =>
 Z7y m0 x0 x1 x4 x5 x6 x7 x8 (gcB m0 [x0, x1, x4, x5, x6, x7, x8] B73)))
 (Z7y m0 x0 x1 x4 x5 x6 x7 x8 (gcB m0 [x0, x1, x4, x5, x6, x7, x8] B66))))))
 (ZeB m0 x0 x1 x4 x5 x6 x7 x8 x9 (shr (shr a51)) (gcB m0 [x0, x1, x4, x5, x6, x7, x8, x9, (shr (shr a51))] B50)))) := by kernel_rfl
theorem Zhi (m0 : Nat) (x4 x6 : AV) (B : List Row) : Zdn m0 x4 x6 B =
 mk (ob (ldN false 1 x6 B) fun a74 =>
 ob (xbuild PP 27 [(0, (iv 1)), (5, a74)]) fun a75 =>
 stN 7 x4 a75 B fun B76 =>
 ZgS x4 B76) := by kernel_rfl
theorem Zhs (m0 : Nat) (x0 x1 x4 x5 x6 x7 x8 x9 x11 : AV) (B : List Row) : ZeB m0 x0 x1 x4 x5 x6 x7 x8 x9 x11 B =
 mk (mk (callS false EE 27 [(shr x0), (.p (.v (.string (ByteArray.mk #[45]))))] B fun a77 B78 =>
 asB a77 fun t79 => br t79 (mk (callS false EE 41 [(shr x0)] B78 fun a80 B81 =>
 mk (ob (xbin PP .eql 3 (shr (shr a80)) (iv 93)) fun a82 =>
 asB (shr a82) fun t83 => br t83 (ZaR m0 x0 x1 x4 x5 x6 x7 x8 x9 (gcB m0 [x0, x1, x4, x5, x6, x7, x8, x9] B81))
 (ob (xbin PP .eql 3 (shr (shr a80)) (iv 91)) fun a84 =>
 asB (shr (shr a84)) fun t85 => br t85 (ZaR m0 x0 x1 x4 x5 x6 x7 x8 x9 (gcB m0 [x0, x1, x4, x5, x6, x7, x8, x9] B81))
 (ob (xbin PP .eql 3 (shr (shr a80)) (iv 45)) fun a86 =>
 asB (shr (shr a86)) fun t87 => br t87 (ZaR m0 x0 x1 x4 x5 x6 x7 x8 x9 (gcB m0 [x0, x1, x4, x5, x6, x7, x8, x9] B81))
 (ob (xbin PP .lss 3 (shr (shr a80)) (iv 0)) fun a88 =>
 asB (shr a88) fun t89 => br t89 (ZaR m0 x0 x1 x4 x5 x6 x7 x8 x9 (gcB m0 [x0, x1, x4, x5, x6, x7, x8, x9] B81))
 (ZeG m0 x0 x1 x4 x5 x6 x7 x8 x9 x11 (gcB m0 [x0, x1, x4, x5, x6, x7, x8, x9, x11] B81))))))))
 (ZaM m0 x0 x1 x4 x5 x6 x7 x8 x11 (shr (shr x11)) (gcB m0 [x0, x1, x4, x5, x6, x7, x8, x11, (shr (shr x11))] B78)))) := by kernel_rfl
theorem Zho (m0 : Nat) (x0 x1 x4 x5 x6 x7 x8 x9 : AV) (B : List Row) : ZaR m0 x0 x1 x4 x5 x6 x7 x8 x9 B =
 mk (callS false EE 29 [(shr x0), (iv 22), (shr x9)] B fun a90 B91 =>
 Z7y m0 x0 x1 x4 x5 x6 x7 x8 (gcB m0 [x0, x1, x4, x5, x6, x7, x8] B91)) := by kernel_rfl
theorem Zhm (m0 : Nat) (x0 x1 x4 x5 x6 x7 x8 x9 x11 : AV) (B : List Row) : ZeG m0 x0 x1 x4 x5 x6 x7 x8 x9 x11 B =
 mk (callS true EE 60 [(shr x0)] B fun a92 B93 =>
 ob (xext 0 (shr a92)) fun a94 =>
 ob (xext 1 (shr a92)) fun a95 =>
 ob (xext 2 (shr a92)) fun a96 =>
 mk (ob (xnilchk (shr x0)) fun a97 =>
 ob (xfld 5 a97) fun a98 =>
 ob (xfld 0 a98) fun a99 =>
 ob (ldN false 1 a99 B93) fun a100 =>
 ob (xbin PP .eql 30 a100 (iv 0)) fun a101 =>
 asB (shr a101) fun t102 => br t102 (ob (xnil PP .neq 23 (.slice none 0 0) (shr (shr (shr a95)))) fun a103 =>
 asB (shr a103) fun t104 => br t104 (Zdp m0 x0 x1 x4 x5 x6 x7 x8 x9 x11 (shr (shr a94)) (gcB m0 [x0, x1, x4, x5, x6, x7, x8, x9, x11, (shr (shr a94))] B93))
 (ob (xbin PP .lss 3 (shr (shr (shr a94))) (shr x11)) fun a105 =>
 asB (shr (shr a105)) fun t106 => br t106 (Zdp m0 x0 x1 x4 x5 x6 x7 x8 x9 x11 (shr (shr a94)) (gcB m0 [x0, x1, x4, x5, x6, x7, x8, x9, x11, (shr (shr a94))] B93))
 (ZaM m0 x0 x1 x4 x5 x6 x7 x8 x11 (shr (shr a94)) (gcB m0 [x0, x1, x4, x5, x6, x7, x8, x11, (shr (shr a94))] B93))))
 (ZaM m0 x0 x1 x4 x5 x6 x7 x8 x11 (shr (shr a94)) (gcB m0 [x0, x1, x4, x5, x6, x7, x8, x11, (shr (shr a94))] B93)))) := by kernel_rfl
theorem Zh4 (m0 : Nat) (x0 x1 x4 x5 x6 x7 x8 x11 x15 : AV) (B : List Row) : ZaM m0 x0 x1 x4 x5 x6 x7 x8 x11 x15 B =
 mk (ob (xnilchk (shr x0)) fun a107 =>
 ob (xfld 5 a107) fun a108 =>
 ob (xfld 0 a108) fun a109 =>
 ob (ldN false 1 a109 B) fun a110 =>
 ob (xbin PP .eql 30 a110 (iv 0)) fun a111 =>
 asB a111 fun t112 => br t112 (mk (ob (xbuild PP 39 [(0, (shr x11)), (1, (shr x15))]) fun a113 =>
 ob (xlit PP 24 1 [(0, a113)]) fun a114 =>
 callV HH EE (shr x7) [a114] B fun a115 B116 =>
 Z7y m0 x0 x1 x4 x5 x6 x7 x8 (gcB m0 [x0, x1, x4, x5, x6, x7, x8] B116)))
 (Z7y m0 x0 x1 x4 x5 x6 x7 x8 (gcB m0 [x0, x1, x4, x5, x6, x7, x8] B))) := by kernel_rfl
theorem Zh8 (m0 : Nat) (x0 x1 x4 x5 x6 x7 x8 x9 x11 x15 : AV) (B : List Row) : Zdp m0 x0 x1 x4 x5 x6 x7 x8 x9 x11 x15 B =
 mk (callS false EE 29 [(shr x0), (iv 22), (shr x9)] B fun a117 B118 =>
 ZaM m0 x0 x1 x4 x5 x6 x7 x8 x11 x15 (gcB m0 [x0, x1, x4, x5, x6, x7, x8, x11, x15] B118)) := by kernel_rfl
theorem Zkl (x0 x1 : AV) (B : List Row) : EE 50 [x0, x1] B =
 (let m0 := B.length
 mk (bz PP 27 B fun a1 B2 =>
 mk (callS false EE 27 [(shr x0), (.p (.v (.string (ByteArray.mk #[94]))))] B2 fun a3 B4 =>
 mk (bz PP 24 B4 fun a5 B6 =>
 mk (mk (Zcd m0 x0 x1 a1 (shr a3) a5 (shr (.clo 58 ([].map nrmA) ([a5].map nrmA))) (iv 0) (gcB m0 [x0, x1, a1, (shr a3), a5, (shr (.clo 58 ([].map nrmA) ([a5].map nrmA))), (iv 0)] B6))))))) := (E_eq PP XX HH _ _ _).trans (by kernel_rfl)
noncomputable def Zcz : Code := bodyOf Tryd.f51
def ZeZ (r0 r1 : AV) (B : List Row) : Option Res :=
 ob (ob (ldN true 7 r0 B) fun v => ob (ob (some r1) fun v => ob (some []) fun vs => some (v :: vs)) fun vs => some (v :: vs)) fun vs => some ((nrmA (match vs with | [v] => v | vs => mkTup (vs.map shr))), B)
noncomputable def Zc9 (m0 : Nat) : Kont := kret PP HH 51 Tryd.f51.results
noncomputable def ZjS (m0 : Nat) : Kont := kseq HH 51 m0 (l2 (l2 (l2 (l2 (l2 (l2 Zcz)))))) (exec PP HH 51 m0 EE LL (l2 (l2 (l2 (l2 (l2 (l2 Zcz)))))) (Zc9 m0)) (Zc9 m0)
noncomputable def Zgh (m0 : Nat) (x0 x1 x4 : AV) (B : List Row) : Option Res := exec PP HH 51 m0 EE LL (l2 (l2 Zcz)) (Zc9 m0) [(0, x0), (1, x1), (4, x4)] B
noncomputable def Z95 (m0 : Nat) (x0 x1 x4 : AV) (B : List Row) : Option Res := exec PP HH 51 m0 EE LL (l2 (l2 (l2 (l2 Zcz)))) (Zc9 m0) [(0, x0), (1, x1), (4, x4)] B
noncomputable def ZeC (m0 : Nat) (x0 x1 x4 x7 : AV) (B : List Row) : Option Res := exec PP HH 51 m0 EE LL (l1 (l2 (l1 (l2 (l2 (l2 (l2 (l2 Zcz)))))))) (ZjS m0) [(0, x0), (1, x1), (4, x4), (7, x7)] B
noncomputable def Zcc (m0 : Nat) (x0 x4 x7 : AV) (B : List Row) : Option Res := exec PP HH 51 m0 EE LL (l2 (l2 (l2 (l2 (l2 (l2 Zcz)))))) (Zc9 m0) [(0, x0), (4, x4), (7, x7)] B
noncomputable def Zf5 (m0 : Nat) (x4 x7 : AV) (B : List Row) : Option Res := exec PP HH 51 m0 EE LL (l2 (l2 (l2 (l2 (l2 (l2 (l2 (l2 Zcz)))))))) (Zc9 m0) [(4, x4), (7, x7)] B
theorem Zj2 (m0 : Nat) (x0 x1 x4 : AV) (B : List Row) : Zgh m0 x0 x1 x4 B =
 mk (ob (xnilchk (shr x0)) fun a12 =>
 ob (xfld 3 a12) fun a13 =>
 ob (ldN false 1 a13 B) fun a14 =>
 ob (xbin PP .add 3 a14 (iv 1)) fun a15 =>
 ob (xnilchk (shr x0)) fun a16 =>
 ob (xfld 3 a16) fun a17 =>
 stN 1 a17 a15 B fun B18 =>
 mk (callS false EE 62 [] B18 fun a19 B20 =>
 callS false EE 61 [a19, (.clo 27 ([(shr x0)].map nrmA) ([].map nrmA))] B20 fun a21 B22 =>
 mk (ob (xbin PP .geq 3 (shr (shr a21)) (iv 0)) fun a23 =>
 asB (shr a23) fun t24 => br t24 (mk (ob (xbuild PP 27 [(0, (iv 7)), (3, (shr (shr a21)))]) fun a25 =>
 stN 7 x4 a25 B22 fun B26 =>
 Z95 m0 x0 x1 x4 (gcB m0 [x0, x1, x4] B26)))
 (mk (callS false EE 27 [(shr x0), (.p (.v (.string (ByteArray.mk #[63, 62]))))] B22 fun a27 B28 =>
 asB (shr a27) fun t29 => br t29 (mk (ob (xbuild PP 27 [(0, (iv 8))]) fun a30 =>
 stN 7 x4 a30 B28 fun B31 =>
 Z95 m0 x0 x1 x4 (gcB m0 [x0, x1, x4] B31)))
 (mk (callS false EE 27 [(shr x0), (.p (.v (.string (ByteArray.mk #[63, 58]))))] B28 fun a32 B33 =>
 asB (shr a32) fun t34 => br t34 (Z95 m0 x0 x1 x4 (gcB m0 [x0, x1, x4] B33))
 (mk (callS false EE 41 [(shr x0)] B33 fun a35 B36 =>
 ob (xbin PP .eql 3 a35 (iv 63)) fun a37 =>
 asB (shr a37) fun t38 => br t38 (mk (callS false EE 29 [(shr x0), (iv 20), (shr x1)] B36 fun a39 B40 =>
 Z95 m0 x0 x1 x4 (gcB m0 [x0, x1, x4] B40)))
 (mk (ob (xnilchk (shr x0)) fun a41 =>
 ob (xfld 2 a41) fun a42 =>
 ob (ldN false 1 a42 B36) fun a43 =>
 ob (xbin PP .eql 3 a43 (iv 9)) fun a44 =>
 asB (shr a44) fun t45 => br t45 (mk (callS false EE 29 [(shr x0), (iv 24), (shr x1)] B36 fun a46 B47 =>
 Z95 m0 x0 x1 x4 (gcB m0 [x0, x1, x4] B47)))
 (mk (ob (xnilchk (shr x0)) fun a48 =>
 ob (xfld 2 a48) fun a49 =>
 ob (ldN false 1 a49 B36) fun a50 =>
 ob (xbin PP .add 3 a50 (iv 1)) fun a51 =>
 ob (xnilchk (shr x0)) fun a52 =>
 ob (xfld 2 a52) fun a53 =>
 stN 1 a53 a51 B36 fun B54 =>
 mk (ob (xnilchk (shr x0)) fun a55 =>
 ob (xfld 2 a55) fun a56 =>
 ob (ldN false 1 a56 B54) fun a57 =>
 ob (xbuild PP 27 [(0, (iv 5)), (4, a57)]) fun a58 =>
 stN 7 x4 a58 B54 fun B59 =>
 Z95 m0 x0 x1 x4 (gcB m0 [x0, x1, x4] B59))))))))))))))) := by kernel_rfl
theorem Zhf (m0 : Nat) (x0 x1 x4 : AV) (B : List Row) : Z95 m0 x0 x1 x4 B =
 mk (callS false EE 28 [(shr x0)] B fun a60 B61 =>
 bz PP 27 B61 fun a62 B63 =>
 stN 7 a62 a60 B63 fun B64 =>
 mk (ob (xnilchk (shr x0)) fun a65 =>
 ob (xfld 5 a65) fun a66 =>
 ob (xfld 0 a66) fun a67 =>
 ob (ldN false 1 a67 B64) fun a68 =>
 ob (xbin PP .eql 30 a68 (iv 0)) fun a69 =>
 asB (shr a69) fun t70 => br t70 (callS false EE 27 [(shr x0), (.p (.v (.string (ByteArray.mk #[41]))))] B64 fun a71 B72 =>
 ob (xun PP .not a71) fun a73 =>
 asB (shr a73) fun t74 => br t74 (ZeC m0 x0 x1 x4 a62 (gcB m0 [x0, x1, x4, a62] B72))
 (Zcc m0 x0 x4 a62 (gcB m0 [x0, x4, a62] B72)))
 (Zcc m0 x0 x4 a62 (gcB m0 [x0, x4, a62] B64)))) := by kernel_rfl
theorem ZhJ (m0 : Nat) (x0 x1 x4 x7 : AV) (B : List Row) : ZeC m0 x0 x1 x4 x7 B =
 mk (callS false EE 29 [(shr x0), (iv 20), (shr x1)] B fun a75 B76 =>
 Zcc m0 x0 x4 x7 (gcB m0 [x0, x4, x7] B76)) := by kernel_rfl
theorem Zha (m0 : Nat) (x0 x4 x7 : AV) (B : List Row) : Zcc m0 x0 x4 x7 B =
 mk (ob (xnilchk (shr x0)) fun a77 =>
 ob (xfld 3 a77) fun a78 =>
 ob (ldN false 1 a78 B) fun a79 =>
 ob (xbin PP .sub 3 a79 (iv 1)) fun a80 =>
 ob (xnilchk (shr x0)) fun a81 =>
 ob (xfld 3 a81) fun a82 =>
 stN 1 a82 a80 B fun B83 =>
 mk (ob (xfld 0 x4) fun a84 =>
 ob (ldN false 1 a84 B83) fun a85 =>
 ob (xbin PP .eql 3 a85 (iv 0)) fun a86 =>
 asB a86 fun t87 => br t87 (mk (ob (ldN true 7 x7 B83) fun a88 =>
 stN 7 x4 a88 B83 fun B89 =>
 ZeZ x4 (bv true) B89))
 (Zf5 m0 x4 x7 (gcB m0 [x4, x7] B83)))) := by kernel_rfl
theorem Zhz (m0 : Nat) (x4 x7 : AV) (B : List Row) : Zf5 m0 x4 x7 B =
 mk (ob (ldN true 7 x7 B) fun a90 =>
 ob (xlit PP 25 1 [(0, a90)]) fun a91 =>
 ob (xfld 6 x4) fun a92 =>
 stN 1 a92 a91 B fun B93 =>
 mk (ob (ldN true 7 x4 B93) fun a94 =>
 ob (xfld 0 x4) fun a95 =>
 ob (ldN false 1 a95 B93) fun a96 =>
 ob (xbin PP .neq 3 a96 (iv 7)) fun a97 =>
 stN 7 x4 a94 B93 fun B98 =>
 ZeZ x4 (shr a97) B98)) := by kernel_rfl
theorem ZkO (x0 x1 : AV) (B : List Row) : EE 51 [x0, x1] B =
 (let m0 := B.length
 mk (bz PP 27 B fun a1 B2 =>
 mk (ob (xnilchk (shr x0)) fun a3 =>
 ob (xfld 3 a3) fun a4 =>
 ob (ldN false 1 a4 B2) fun a5 =>
 ob (xbin PP .eql 3 a5 (iv 32)) fun a6 =>
 asB a6 fun t7 => br t7 (mk (callS false EE 29 [(shr x0), (iv 25), (shr x1)] B2 fun a8 B9 =>
 mk (ob (xbuild PP 27 []) fun a10 =>
 stN 7 a1 a10 B9 fun B11 =>
 ZeZ a1 (bv true) B11)))
 (Zgh m0 x0 x1 a1 (gcB m0 [x0, x1, a1] B2))))) := (E_eq PP XX HH _ _ _).trans (by kernel_rfl)
noncomputable def Z8K : Code := bodyOf Tryd.f52
def Zh0 (r0 r1 : AV) (B : List Row) : Option Res :=
 ob (ob (some r0) fun v => ob (ob (some r1) fun v => ob (some []) fun vs => some (v :: vs)) fun vs => some (v :: vs)) fun vs => some ((nrmA (match vs with | [v] => v | vs => mkTup (vs.map shr))), B)
noncomputable def ZbW (m0 : Nat) : Kont := kret PP HH 52 Tryd.f52.results
noncomputable def Zez (m0 : Nat) : Kont := kseq HH 52 m0 (l2 (l2 (l2 (l2 Z8K)))) (exec PP HH 52 m0 EE LL (l2 (l2 (l2 (l2 Z8K)))) (ZbW m0)) (ZbW m0)
noncomputable def Zl0 (m0 : Nat) : Kont := kseq HH 52 m0 (l2 (l1 (l2 (l2 (l1 (l2 (l1 (l2 (l2 (l2 Z8K)))))))))) (exec PP HH 52 m0 EE LL (l2 (l1 (l2 (l2 (l1 (l2 (l1 (l2 (l2 (l2 Z8K)))))))))) (Zez m0)) (Zez m0)
noncomputable def Zlb (m0 : Nat) : Kont := kseq HH 52 m0 (l2 (l2 (l2 (l2 (l2 Z8K))))) (exec PP HH 52 m0 EE LL (l2 (l2 (l2 (l2 (l2 Z8K))))) (ZbW m0)) (ZbW m0)
noncomputable def ZgJ (m0 : Nat) (x0 x1 x4 : AV) (B : List Row) : Option Res := exec PP HH 52 m0 EE LL (l1 (l2 (l2 (l1 (l2 (l1 (l2 (l2 (l2 Z8K))))))))) (Zez m0) [(0, x0), (1, x1), (4, x4)] B
noncomputable def Zcg (m0 : Nat) (x0 x1 x4 x5 : AV) (B : List Row) : Option Res := exec PP HH 52 m0 EE LL (l2 (l2 (l2 (l2 Z8K)))) (ZbW m0) [(0, x0), (1, x1), (4, x4), (5, x5)] B
noncomputable def ZfG (m0 : Nat) (x4 : AV) (B : List Row) : Option Res := exec PP HH 52 m0 EE LL (l1 (l2 (l1 (l1 (l2 (l2 (l1 (l2 (l1 (l2 (l2 (l2 Z8K)))))))))))) (Zl0 m0) [(4, x4)] B
noncomputable def Zew (m0 : Nat) (x0 x1 x4 : AV) (B : List Row) : Option Res := exec PP HH 52 m0 EE LL (l2 (l1 (l2 (l2 (l1 (l2 (l1 (l2 (l2 (l2 Z8K)))))))))) (Zez m0) [(0, x0), (1, x1), (4, x4)] B
noncomputable def ZaI (m0 : Nat) (x0 x1 x4 x5 : AV) (B : List Row) : Option Res := exec PP HH 52 m0 EE LL (l1 (l2 (l1 (l2 (l2 (l2 (l2 Z8K))))))) (Zlb m0) [(0, x0), (1, x1), (4, x4), (5, x5)] B
noncomputable def Zdr (m0 : Nat) (x4 x5 : AV) (B : List Row) : Option Res := exec PP HH 52 m0 EE LL (l2 (l2 (l2 (l2 (l2 Z8K))))) (ZbW m0) [(4, x4), (5, x5)] B
theorem ZiZ (m0 : Nat) (x0 x1 x4 : AV) (B : List Row) : ZgJ m0 x0 x1 x4 B =
 mk (callS false EE 27 [(shr x0), (.p (.v (.string (ByteArray.mk #[125]))))] B fun a12 B13 =>
 asB (shr a12) fun t14 => br t14 (ob (xbin PP .leq 3 (shr x4) (iv 64)) fun a15 =>
 asB (shr a15) fun t16 => br t16 (ZfG m0 x4 (gcB m0 [x4] B13))
 (Zew m0 x0 x1 x4 (gcB m0 [x0, x1, x4] B13)))
 (Zew m0 x0 x1 x4 (gcB m0 [x0, x1, x4] B13))) := by kernel_rfl
theorem Ziv (m0 : Nat) (x0 x1 x4 x5 : AV) (B : List Row) : Zcg m0 x0 x1 x4 x5 B =
 mk (ob (xbin PP .lss 3 (shr x4) (iv 0)) fun a17 =>
 asB (shr a17) fun t18 => br t18 (ZaI m0 x0 x1 x4 x5 (gcB m0 [x0, x1, x4, x5] B))
 (ob (xbin PP .lss 3 (shr x5) (shr x4)) fun a19 =>
 asB (shr (shr a19)) fun t20 => br t20 (ZaI m0 x0 x1 x4 x5 (gcB m0 [x0, x1, x4, x5] B))
 (ob (xbin PP .gtr 3 (shr x5) (iv 64)) fun a21 =>
 asB (shr (shr a21)) fun t22 => br t22 (ZaI m0 x0 x1 x4 x5 (gcB m0 [x0, x1, x4, x5] B))
 (callS false EE 27 [(shr x0), (.p (.v (.string (ByteArray.mk #[125]))))] B fun a23 B24 =>
 ob (xun PP .not a23) fun a25 =>
 asB (shr a25) fun t26 => br t26 (ZaI m0 x0 x1 x4 x5 (gcB m0 [x0, x1, x4, x5] B24))
 (Zdr m0 x4 x5 (gcB m0 [x4, x5] B24)))))) := by kernel_rfl
theorem Zj8 (m0 : Nat) (x4 : AV) (B : List Row) : ZfG m0 x4 B =
 mk (Zh0 (shr (shr x4)) (iv (-1)) B) := by kernel_rfl
theorem Zi8 (m0 : Nat) (x0 x1 x4 : AV) (B : List Row) : Zew m0 x0 x1 x4 B =
 mk (Zcg m0 x0 x1 x4 (iv (-2)) (gcB m0 [x0, x1, x4, (iv (-2))] B)) := by kernel_rfl
theorem Zhl (m0 : Nat) (x0 x1 x4 x5 : AV) (B : List Row) : ZaI m0 x0 x1 x4 x5 B =
 mk (callS false EE 29 [(shr x0), (iv 23), (shr x1)] B fun a27 B28 =>
 Zdr m0 x4 x5 (gcB m0 [x4, x5] B28)) := by kernel_rfl
theorem Zhn (m0 : Nat) (x4 x5 : AV) (B : List Row) : Zdr m0 x4 x5 B =
 mk (Zh0 (shr (shr x4)) (shr (shr x5)) B) := by kernel_rfl
theorem ZjO (x0 x1 : AV) (B : List Row) : EE 52 [x0, x1] B =
 (let m0 := B.length
 mk (mk (callS false EE 63 [(shr x0)] B fun a1 B2 =>
 mk (mk (callS false EE 27 [(shr x0), (.p (.v (.string (ByteArray.mk #[44]))))] B2 fun a3 B4 =>
 asB a3 fun t5 => br t5 (mk (callS false EE 63 [(shr x0)] B4 fun a6 B7 =>
 mk (ob (xbin PP .lss 3 (shr (shr a6)) (iv 0)) fun a8 =>
 asB (shr a8) fun t9 => br t9 (ob (xbin PP .geq 3 (shr (shr a1)) (iv 0)) fun a10 =>
 asB (shr a10) fun t11 => br t11 (ZgJ m0 x0 x1 (shr a1) (gcB m0 [x0, x1, (shr a1)] B7))
 (Zcg m0 x0 x1 (shr a1) (shr a6) (gcB m0 [x0, x1, (shr a1), (shr a6)] B7)))
 (Zcg m0 x0 x1 (shr a1) (shr a6) (gcB m0 [x0, x1, (shr a1), (shr a6)] B7)))))
 (Zcg m0 x0 x1 (shr a1) (shr (shr (shr a1))) (gcB m0 [x0, x1, (shr a1), (shr (shr (shr a1)))] B4))))))) := (E_eq PP XX HH _ _ _).trans (by kernel_rfl)
noncomputable def Zly : Code := bodyOf Tryd.f54
def ZgP (r0 r1 : AV) (B : List Row) : Option Res :=
 ob (ob (some r0) fun v => ob (ob (some r1) fun v => ob (some []) fun vs => some (v :: vs)) fun vs => some (v :: vs)) fun vs => some ((nrmA (match vs with | [v] => v | vs => mkTup (vs.map shr))), B)
noncomputable def Zln (m0 : Nat) : Kont := kret PP HH 54 Tryd.f54.results
noncomputable def Zfm (m0 : Nat) (x0 : AV) (B : List Row) : Option Res := exec PP HH 54 m0 EE LL (l2 (l2 Zly)) (Zln m0) [(0, x0)] B
theorem Zik (m0 : Nat) (x0 : AV) (B : List Row) : Zfm m0 x0 B =
 mk (callS false EE 68 [(shr x0)] B fun a4 B5 =>
 ZgP (shr a4) (iv 0) B5) := by kernel_rfl
theorem Zl6 (x0 : AV) (B : List Row) : EE 54 [x0] B =
 (let m0 := B.length
 mk (mk (callS false EE 65 [(shr x0), (.clo 66 [] [])] B fun a1 B2 =>
 asB a1 fun t3 => br t3 (mk (ZgP nilA (iv 13) B2))
 (Zfm m0 x0 (gcB m0 [x0] B2))))) := (E_eq PP XX HH _ _ _).trans (by kernel_rfl)
noncomputable def Zlt : Code := bodyOf Tryd.f55
def ZgU (r0 r1 : AV) (B : List Row) : Option Res :=
 ob (ob (some r0) fun v => ob (ob (some r1) fun v => ob (some []) fun vs => some (v :: vs)) fun vs => some (v :: vs)) fun vs => some ((nrmA (match vs with | [v] => v | vs => mkTup (vs.map shr))), B)
noncomputable def Zk5 (m0 : Nat) : Kont := kret PP HH 55 Tryd.f55.results
noncomputable def Zfy (m0 : Nat) (x0 : AV) (B : List Row) : Option Res := exec PP HH 55 m0 EE LL (l2 (l2 Zlt)) (Zk5 m0) [(0, x0)] B
theorem Zii (m0 : Nat) (x0 : AV) (B : List Row) : Zfy m0 x0 B =
 mk (callS false EE 70 [(shr x0)] B fun a5 B6 =>
 ZgU (shr a5) (iv 0) B6) := by kernel_rfl
theorem ZjY (x0 : AV) (B : List Row) : EE 55 [x0] B =
 (let m0 := B.length
 mk (mk (callS false EE 69 [(shr x0)] B fun a1 B2 =>
 ob (xun PP .not a1) fun a3 =>
 asB a3 fun t4 => br t4 (mk (ZgU nilA (iv 10) B2))
 (Zfy m0 x0 (gcB m0 [x0] B2))))) := (E_eq PP XX HH _ _ _).trans (by kernel_rfl)
noncomputable def Zlu : Code := bodyOf Tryd.f56
def Z5c (r0 : AV) (B : List Row) : Option Res :=
 ob (ob (some r0) fun v => ob (some []) fun vs => some (v :: vs)) fun vs => some (((match vs with | [v] => v | vs => mkTup (vs.map shr))), B)
noncomputable def Zk1 (m0 : Nat) : Kont := kret PP HH 56 Tryd.f56.results
noncomputable def Z7b (m0 : Nat) (B : List Row) : Option Res := exec PP HH 56 m0 EE LL (l2 (l2 Zlu)) (Zk1 m0) [] B
theorem Zh5 (m0 : Nat) (B : List Row) : Z7b m0  B =
 mk (Z5c nilA B) := by kernel_rfl
theorem Zk2 (x0 : AV) (B : List Row) : EE 56 [x0] B =
 (let m0 := B.length
 mk (mk (mk (ob (xbin PP .eql 3 (shr x0) (iv 100)) fun a1 =>
 asB (shr a1) fun t2 => br t2 (asB (shr a1) fun t3 => br t3 (mk (ob (xbuild PP 39 [(0, (iv 48)), (1, (iv 57))]) fun a4 =>
 ob (xlit PP 23 1 [(0, a4)]) fun a5 =>
 Z5c a5 B))
 (mk (ob (xbin PP .eql 3 (shr x0) (iv 119)) fun a6 =>
 asB (shr a6) fun t7 => br t7 (asB (shr a6) fun t8 => br t8 (mk (ob (xbuild PP 39 [(0, (iv 48)), (1, (iv 57))]) fun a9 =>
 ob (xbuild PP 39 [(0, (iv 65)), (1, (iv 90))]) fun a10 =>
 callS false EE 48 [(iv 95)] B fun a11 B12 =>
 ob (xbuild PP 39 [(0, (iv 97)), (1, (iv 122))]) fun a13 =>
 ob (xlit PP 23 4 [(0, a9), (1, a10), (2, a11), (3, a13)]) fun a14 =>
 Z5c a14 B12))
 (mk (ob (xbin PP .eql 3 (shr x0) (iv 115)) fun a15 =>
 asB (shr a15) fun t16 => br t16 (asB (shr a15) fun t17 => br t17 (mk (ob (xbuild PP 39 [(0, (iv 9)), (1, (iv 13))]) fun a18 =>
 callS false EE 48 [(iv 32)] B fun a19 B20 =>
 ob (xlit PP 23 2 [(0, a18), (1, a19)]) fun a21 =>
 Z5c a21 B20))
 (Z7b m0  (gcB m0 [] B)))
 (mk (ob (xbin PP .eql 3 (shr x0) (iv 83)) fun a22 =>
 asB (shr a22) fun t23 => br t23 (mk (ob (xbuild PP 39 [(0, (iv 9)), (1, (iv 13))]) fun a24 =>
 callS false EE 48 [(iv 32)] B fun a25 B26 =>
 ob (xlit PP 23 2 [(0, a24), (1, a25)]) fun a27 =>
 Z5c a27 B26))
 (Z7b m0  (gcB m0 [] B)))))))
 (mk (ob (xbin PP .eql 3 (shr x0) (iv 87)) fun a28 =>
 asB (shr a28) fun t29 => br t29 (mk (ob (xbuild PP 39 [(0, (iv 48)), (1, (iv 57))]) fun a30 =>
 ob (xbuild PP 39 [(0, (iv 65)), (1, (iv 90))]) fun a31 =>
 callS false EE 48 [(iv 95)] B fun a32 B33 =>
 ob (xbuild PP 39 [(0, (iv 97)), (1, (iv 122))]) fun a34 =>
 ob (xlit PP 23 4 [(0, a30), (1, a31), (2, a32), (3, a34)]) fun a35 =>
 Z5c a35 B33))
 (mk (ob (xbin PP .eql 3 (shr x0) (iv 115)) fun a36 =>
 asB (shr a36) fun t37 => br t37 (asB (shr a36) fun t38 => br t38 (mk (ob (xbuild PP 39 [(0, (iv 9)), (1, (iv 13))]) fun a39 =>
 callS false EE 48 [(iv 32)] B fun a40 B41 =>
 ob (xlit PP 23 2 [(0, a39), (1, a40)]) fun a42 =>
 Z5c a42 B41))
 (Z7b m0  (gcB m0 [] B)))
 (mk (ob (xbin PP .eql 3 (shr x0) (iv 83)) fun a43 =>
 asB (shr a43) fun t44 => br t44 (mk (ob (xbuild PP 39 [(0, (iv 9)), (1, (iv 13))]) fun a45 =>
 callS false EE 48 [(iv 32)] B fun a46 B47 =>
 ob (xlit PP 23 2 [(0, a45), (1, a46)]) fun a48 =>
 Z5c a48 B47))
 (Z7b m0  (gcB m0 [] B)))))))))))
 (mk (ob (xbin PP .eql 3 (shr x0) (iv 68)) fun a49 =>
 asB (shr a49) fun t50 => br t50 (mk (ob (xbuild PP 39 [(0, (iv 48)), (1, (iv 57))]) fun a51 =>
 ob (xlit PP 23 1 [(0, a51)]) fun a52 =>
 Z5c a52 B))
 (mk (ob (xbin PP .eql 3 (shr x0) (iv 119)) fun a53 =>
 asB (shr a53) fun t54 => br t54 (asB (shr a53) fun t55 => br t55 (mk (ob (xbuild PP 39 [(0, (iv 48)), (1, (iv 57))]) fun a56 =>
 ob (xbuild PP 39 [(0, (iv 65)), (1, (iv 90))]) fun a57 =>
 callS false EE 48 [(iv 95)] B fun a58 B59 =>
 ob (xbuild PP 39 [(0, (iv 97)), (1, (iv 122))]) fun a60 =>
 ob (xlit PP 23 4 [(0, a56), (1, a57), (2, a58), (3, a60)]) fun a61 =>
 Z5c a61 B59))
 (mk (ob (xbin PP .eql 3 (shr x0) (iv 115)) fun a62 =>
 asB (shr a62) fun t63 => br t63 (asB (shr a62) fun t64 => br t64 (mk (ob (xbuild PP 39 [(0, (iv 9)), (1, (iv 13))]) fun a65 =>
 callS false EE 48 [(iv 32)] B fun a66 B67 =>
 ob (xlit PP 23 2 [(0, a65), (1, a66)]) fun a68 =>
 Z5c a68 B67))
 (Z7b m0  (gcB m0 [] B)))
 (mk (ob (xbin PP .eql 3 (shr x0) (iv 83)) fun a69 =>
 asB (shr a69) fun t70 => br t70 (mk (ob (xbuild PP 39 [(0, (iv 9)), (1, (iv 13))]) fun a71 =>
 callS false EE 48 [(iv 32)] B fun a72 B73 =>
 ob (xlit PP 23 2 [(0, a71), (1, a72)]) fun a74 =>
 Z5c a74 B73))
 (Z7b m0  (gcB m0 [] B)))))))
 (mk (ob (xbin PP .eql 3 (shr x0) (iv 87)) fun a75 =>
 asB (shr a75) fun t76 => br t76 (mk (ob (xbuild PP 39 [(0, (iv 48)), (1, (iv 57))]) fun a77 =>
 ob (xbuild PP 39 [(0, (iv 65)), (1, (iv 90))]) fun a78 =>
 callS false EE 48 [(iv 95)] B fun a79 B80 =>
 ob (xbuild PP 39 [(0, (iv 97)), (1, (iv 122))]) fun a81 =>
 ob (xlit PP 23 4 [(0, a77), (1, a78), (2, a79), (3, a81)]) fun a82 =>
 Z5c a82 B80))
 (mk (ob (xbin PP .eql 3 (shr x0) (iv 115)) fun a83 =>
 asB (shr a83) fun t84 => br t84 (asB (shr a83) fun t85 => br t85 (mk (ob (xbuild PP 39 [(0, (iv 9)), (1, (iv 13))]) fun a86 =>
 callS false EE 48 [(iv 32)] B fun a87 B88 =>
 ob (xlit PP 23 2 [(0, a86), (1, a87)]) fun a89 =>
 Z5c a89 B88))
 (Z7b m0  (gcB m0 [] B)))
 (mk (ob (xbin PP .eql 3 (shr x0) (iv 83)) fun a90 =>
 asB (shr a90) fun t91 => br t91 (mk (ob (xbuild PP 39 [(0, (iv 9)), (1, (iv 13))]) fun a92 =>
 callS false EE 48 [(iv 32)] B fun a93 B94 =>
 ob (xlit PP 23 2 [(0, a92), (1, a93)]) fun a95 =>
 Z5c a95 B94))
 (Z7b m0  (gcB m0 [] B)))))))))))))))) := (E_eq PP XX HH _ _ _).trans (by kernel_rfl)
noncomputable def Zfi : Code := bodyOf Tryd.f57
def ZaN (r0 : AV) (B : List Row) : Option Res :=
 ob (ob (some r0) fun v => ob (some []) fun vs => some (v :: vs)) fun vs => some ((nrmA (match vs with | [v] => v | vs => mkTup (vs.map shr))), B)
noncomputable def Zfr (m0 : Nat) : Kont := kret PP HH 57 Tryd.f57.results
noncomputable def Zl8 (m0 : Nat) : Kont := kseq HH 57 m0 (l2 (l2 Zfi)) (exec PP HH 57 m0 EE LL (l2 (l2 Zfi)) (Zfr m0)) (Zfr m0)
noncomputable def Zl3 (m0 : Nat) : Kont := kblk 0 (Zl8 m0)
noncomputable def Z9O (m0 : Nat) (x0 x2 : AV) (B : List Row) : Option Res := exec PP HH 57 m0 EE LL (l2 (l2 Zfi)) (Zfr m0) [(0, x0), (2, x2)] B
noncomputable def ZeU (m0 : Nat) (x1 : AV) (B : List Row) : Option Res := exec PP HH 57 m0 EE LL (l1 (l2 (l2 (l2 (l2 (l2 (l2 (l2 (l2 (l2 (l1 (l1 (l2 Zfi))))))))))))) (Zl3 m0) [(1, x1)] B
theorem Zhy (m0 : Nat) (x0 x2 : AV) (B : List Row) : Z9O m0 x0 x2 B =
 mk (callS false EE 29 [(shr x0), (iv 21), (shr x2)] B fun a39 B40 =>
 mk (ZaN (iv 0) B40)) := by kernel_rfl
theorem Zhx (m0 : Nat) (x1 : AV) (B : List Row) : ZeU m0 x1 B =
 mk (ZaN (shr (shr x1)) B) := by kernel_rfl
theorem ZjU (x0 x1 x2 : AV) (B : List Row) : EE 57 [x0, x1, x2] B =
 (let m0 := B.length
 mk (mk (ob (xbin PP .eql 3 (shr x1) (iv 110)) fun a1 =>
 asB (shr a1) fun t2 => br t2 (mk (ZaN (iv 10) B))
 (mk (ob (xbin PP .eql 3 (shr x1) (iv 116)) fun a3 =>
 asB (shr a3) fun t4 => br t4 (mk (ZaN (iv 9) B))
 (mk (ob (xbin PP .eql 3 (shr x1) (iv 114)) fun a5 =>
 asB (shr a5) fun t6 => br t6 (mk (ZaN (iv 13) B))
 (mk (ob (xbin PP .eql 3 (shr x1) (iv 120)) fun a7 =>
 asB (shr a7) fun t8 => br t8 (mk (callS false EE 41 [(shr x0)] B fun a9 B10 =>
 callS false EE 71 [a9] B10 fun a11 B12 =>
 mk (ob (xbin PP .geq 3 (shr (shr a11)) (iv 0)) fun a13 =>
 asB a13 fun t14 => br t14 (mk (callS false EE 46 [(shr x0)] B12 fun a15 B16 =>
 mk (callS false EE 41 [(shr x0)] B16 fun a17 B18 =>
 callS false EE 71 [a17] B18 fun a19 B20 =>
 mk (ob (xbin PP .geq 3 (shr (shr a19)) (iv 0)) fun a21 =>
 asB a21 fun t22 => br t22 (mk (callS false EE 46 [(shr x0)] B20 fun a23 B24 =>
 mk (ob (xbin PP .mul 3 (iv 16) (shr (shr a11))) fun a25 =>
 ob (xbin PP .add 3 a25 (shr (shr a19))) fun a26 =>
 ZaN (shr a26) B24)))
 (Z9O m0 x0 x2 (gcB m0 [x0, x2] B20))))))
 (Z9O m0 x0 x2 (gcB m0 [x0, x2] B12)))))
 (mk (ob (xbin PP .gtr 3 (shr x1) (iv 32)) fun a27 =>
 asB (shr a27) fun t28 => br t28 (ob (xbin PP .lss 3 (shr x1) (iv 127)) fun a29 =>
 asB (shr (shr a29)) fun t30 => br t30 (ob (xbuild PP 39 [(0, (iv 48)), (1, (iv 57))]) fun a31 =>
 ob (xbuild PP 39 [(0, (iv 65)), (1, (iv 90))]) fun a32 =>
 ob (xbuild PP 39 [(0, (iv 97)), (1, (iv 122))]) fun a33 =>
 ob (xlit PP 24 3 [(0, a31), (1, a32), (2, a33)]) fun a34 =>
 callS false EE 19 [a34, (shr x1)] B fun a35 B36 =>
 ob (xun PP .not a35) fun a37 =>
 asB (shr (shr a37)) fun t38 => br t38 (ZeU m0 x1 (gcB m0 [x1] B36))
 (Z9O m0 x0 x2 (gcB m0 [x0, x2] B36)))
 (Z9O m0 x0 x2 (gcB m0 [x0, x2] B)))
 (Z9O m0 x0 x2 (gcB m0 [x0, x2] B))))))))))))) := (E_eq PP XX HH _ _ _).trans (by kernel_rfl)
noncomputable def ZlJ : Code := bodyOf Tryd.f58
def ZjI (B : List Row) : Option Res :=
 ob (some []) fun vs => some ((nrmA (match vs with | [v] => v | vs => mkTup (vs.map shr))), B)
theorem Zkb (x0 x1 : AV) (B : List Row) : EE 58 [x0, x1] B =
 (let m0 := B.length
 mk (ob (ldN false 1 x1 B) fun a1 =>
 callS false EE 59 [a1, (shr x0)] B fun a2 B3 =>
 ob (xext 0 (shr a2)) fun a4 =>
 ob (xext 1 (shr a2)) fun a5 =>
 stN 1 x1 (shr a4) B3 fun B6 =>
 ZjI  B6)) := (E_eq PP XX HH _ _ _).trans (by kernel_rfl)
noncomputable def Zfg : Code := bodyOf Tryd.f59
def ZgR (r0 r1 : AV) (B : List Row) : Option Res :=
 ob (ob (some r0) fun v => ob (ob (some r1) fun v => ob (some []) fun vs => some (v :: vs)) fun vs => some (v :: vs)) fun vs => some ((nrmA (match vs with | [v] => v | vs => mkTup (vs.map shr))), B)
noncomputable def Zgv (m0 : Nat) : Kont := kret PP HH 59 Tryd.f59.results
noncomputable def Zkp (m0 : Nat) : Kont := kseq HH 59 m0 (l2 (l2 Zfg)) (exec PP HH 59 m0 EE LL (l2 (l2 Zfg)) (Zgv m0)) (Zgv m0)
noncomputable def Ze9 (m0 : Nat) (B : List Row) : Option Res := exec PP HH 59 m0 EE LL (l1 (l2 (l1 (l2 Zfg)))) (Zkp m0) [] B
noncomputable def Zgb (m0 : Nat) (x0 x1 : AV) (B : List Row) : Option Res := exec PP HH 59 m0 EE LL (l2 (l2 Zfg)) (Zgv m0) [(0, x0), (1, x1)] B
theorem Ziz (m0 : Nat) (B : List Row) : Ze9 m0  B =
 mk (ZgR nilA (iv 10) B) := by kernel_rfl
theorem Zim (m0 : Nat) (x0 x1 : AV) (B : List Row) : Zgb m0 x0 x1 B =
 mk (ob (xlit PP 109 2 [(0, (shr x0)), (1, (shr x1))]) fun a9 =>
 callS false EE 72 [a9] B fun a10 B11 =>
 callS false EE 68 [a10] B11 fun a12 B13 =>
 ZgR (shr a12) (iv 0) B13) := by kernel_rfl
theorem Zlk (x0 x1 : AV) (B : List Row) : EE 59 [x0, x1] B =
 (let m0 := B.length
 mk (mk (callS false EE 69 [(shr x0)] B fun a1 B2 =>
 ob (xun PP .not a1) fun a3 =>
 asB (shr a3) fun t4 => br t4 (Ze9 m0  (gcB m0 [] B2))
 (callS false EE 69 [(shr x1)] B2 fun a5 B6 =>
 ob (xun PP .not a5) fun a7 =>
 asB (shr a7) fun t8 => br t8 (Ze9 m0  (gcB m0 [] B6))
 (Zgb m0 x0 x1 (gcB m0 [x0, x1] B6)))))) := (E_eq PP XX HH _ _ _).trans (by kernel_rfl)
noncomputable def Zh6 : Code := bodyOf Tryd.f60
def Zdt (r0 r1 r2 : AV) (B : List Row) : Option Res :=
 ob (ob (some r0) fun v => ob (ob (some r1) fun v => ob (ob (some r2) fun v => ob (some []) fun vs => some (v :: vs)) fun vs => some (v :: vs)) fun vs => some (v :: vs)) fun vs => some (((match vs with | [v] => v | vs => mkTup (vs.map shr))), B)
noncomputable def ZgL (m0 : Nat) : Kont := kret PP HH 60 Tryd.f60.results
noncomputable def Zgn (m0 : Nat) (x0 x5 : AV) (B : List Row) : Option Res := exec PP HH 60 m0 EE LL (l2 (l2 (l2 Zh6))) (ZgL m0) [(0, x0), (5, x5)] B
noncomputable def Zfp (m0 : Nat) (x0 x2 x5 : AV) (B : List Row) : Option Res := exec PP HH 60 m0 EE LL (l2 (l2 (l2 (l2 Zh6)))) (ZgL m0) [(0, x0), (2, x2), (5, x5)] B
noncomputable def Zf7 (m0 : Nat) (x0 x2 x5 : AV) (B : List Row) : Option Res := exec PP HH 60 m0 EE LL (l2 (l2 (l2 (l2 (l2 (l2 Zh6)))))) (ZgL m0) [(0, x0), (2, x2), (5, x5)] B
theorem Zjm (m0 : Nat) (x0 x5 : AV) (B : List Row) : Zgn m0 x0 x5 B =
 mk (callS false EE 41 [(shr x0)] B fun a8 B9 =>
 mk (ob (xbin PP .lss 3 (shr (shr a8)) (iv 0)) fun a10 =>
 asB a10 fun t11 => br t11 (mk (callS false EE 29 [(shr x0), (iv 21), (shr x5)] B9 fun a12 B13 =>
 mk (Zdt (iv 0) nilA (bv false) B13)))
 (Zfp m0 x0 (shr a8) x5 (gcB m0 [x0, (shr a8), x5] B9)))) := by kernel_rfl
theorem ZiJ (m0 : Nat) (x0 x2 x5 : AV) (B : List Row) : Zfp m0 x0 x2 x5 B =
 mk (callS false EE 46 [(shr x0)] B fun a14 B15 =>
 mk (callS true EE 56 [(shr x2)] B15 fun a16 B17 =>
 mk (ob (xnil PP .neq 23 (.slice none 0 0) (shr a16)) fun a18 =>
 asB a18 fun t19 => br t19 (mk (ob (xbin PP .lss 3 (shr x2) (iv 97)) fun a20 =>
 Zdt (iv 0) a16 (shr a20) B17))
 (Zf7 m0 x0 x2 x5 (gcB m0 [x0, x2, x5] B17))))) := by kernel_rfl
theorem Zht (m0 : Nat) (x0 x2 x5 : AV) (B : List Row) : Zf7 m0 x0 x2 x5 B =
 mk (callS false EE 57 [(shr x0), (shr x2), (shr x5)] B fun a21 B22 =>
 Zdt (shr a21) nilA (bv false) B22) := by kernel_rfl
theorem Zl5 (x0 : AV) (B : List Row) : EE 60 [x0] B =
 (let m0 := B.length
 mk (mk (ob (xnilchk (shr x0)) fun a1 =>
 ob (xfld 1 a1) fun a2 =>
 ob (ldN false 1 a2 B) fun a3 =>
 mk (callS false EE 46 [(shr x0)] B fun a4 B5 =>
 mk (ob (xbin PP .neq 3 (shr (shr a4)) (iv 92)) fun a6 =>
 asB a6 fun t7 => br t7 (mk (Zdt (shr (shr (shr a4))) nilA (bv false) B5))
 (Zgn m0 x0 (shr a3) (gcB m0 [x0, (shr a3)] B5))))))) := (E_eq PP XX HH _ _ _).trans (by kernel_rfl)
noncomputable def Zbu : Code := bodyOf Tryd.f61
def Zh2 (r0 : AV) (B : List Row) : Option Res :=
 ob (ob (some r0) fun v => ob (some []) fun vs => some (v :: vs)) fun vs => some ((nrmA (match vs with | [v] => v | vs => mkTup (vs.map shr))), B)
noncomputable def ZfJ (m0 : Nat) : Kont := kret PP HH 61 Tryd.f61.results
noncomputable def ZjX (m0 : Nat) : Kont := kseq HH 61 m0 (l2 (l2 Zbu)) (exec PP HH 61 m0 EE LL (l2 (l2 Zbu)) (ZfJ m0)) (ZfJ m0)
noncomputable def ZgI (m0 : Nat) : Kont := kblk 0 (ZjX m0)
noncomputable def Zib (m0 : Nat) : Kont := kloop HH 61 m0 (l1 (l1 (l2 (l1 (l2 Zbu))))) (LL 61 m0 (l1 (l1 (l2 (l1 (l2 Zbu))))) (ZgI m0)) (ZgI m0)
noncomputable def Zcv (m0 : Nat) (x0 x1 x7 x8 : AV) (B : List Row) : Option Res := lp (LL 61 m0 (l1 (l1 (l2 (l1 (l2 Zbu))))) (ZgI m0) [(0, x0), (1, x1), (7, x7), (8, x8)] B)
noncomputable def ZfN (m0 : Nat) (x0 x1 x7 x8 : AV) (B : List Row) : Option Res := exec PP HH 61 m0 EE LL (l2 (l2 (l1 (l1 (l2 (l1 (l2 Zbu))))))) (Zib m0) [(0, x0), (1, x1), (7, x7), (8, x8)] B
noncomputable def ZgF (m0 : Nat) (B : List Row) : Option Res := exec PP HH 61 m0 EE LL (l2 (l2 Zbu)) (ZfJ m0) [] B
noncomputable def ZgG (m0 : Nat) (x0 x1 x7 x8 : AV) (B : List Row) : Option Res := exec PP HH 61 m0 EE LL (l2 (l2 (l2 (l1 (l1 (l2 (l1 (l2 Zbu)))))))) (Zib m0) [(0, x0), (1, x1), (7, x7), (8, x8)] B
theorem Zjt (m0 : Nat) (x0 x1 x7 x8 : AV) (B : List Row) : Zcv m0 x0 x1 x7 x8 B =
 mk (ob (xbin PP .lss 3 x8 x7) fun a2 =>
 asB a2 fun t3 => br t3 (ZfN m0 x0 x1 x7 x8 (gcB m0 [x0, x1, x7, x8] B))
 (ZgF m0  (gcB m0 [] B))) := (L_eq PP XX HH _ _ _ _ _ _).trans (by kernel_rfl)
theorem Zio (m0 : Nat) (x0 x1 x7 x8 : AV) (B : List Row) : ZfN m0 x0 x1 x7 x8 B =
 mk (mk (ob (xidx 1 (shr x0) (shr (shr (shr x8)))) fun a4 =>
 ob (ldN false 1 a4 B) fun a5 =>
 callV HH EE (shr x1) [a5] B fun a6 B7 =>
 asB a6 fun t8 => br t8 (mk (Zh2 (shr (shr (shr (shr x8)))) B7))
 (ZgG m0 x0 x1 x7 x8 (gcB m0 [x0, x1, x7, x8] B7)))) := by kernel_rfl
theorem Zj9 (m0 : Nat) (B : List Row) : ZgF m0  B =
 mk (Zh2 (iv (-1)) B) := by kernel_rfl
theorem Zjn (m0 : Nat) (x0 x1 x7 x8 : AV) (B : List Row) : ZgG m0 x0 x1 x7 x8 B =
 mk (ob (xbin PP .add 3 x8 (iv 1)) fun a9 =>
 Zcv m0 x0 x1 x7 (shr a9) (gcB m0 [x0, x1, x7, (shr a9)] B)) := by kernel_rfl
theorem ZkU (x0 x1 : AV) (B : List Row) : EE 61 [x0, x1] B =
 (let m0 := B.length
 mk (mk (ob (xlen PP 43 (shr x0)) fun a1 =>
 Zcv m0 x0 x1 a1 (iv 0) (gcB m0 [x0, x1, a1, (iv 0)] B)))) := (E_eq PP XX HH _ _ _).trans (by kernel_rfl)
noncomputable def ZlP : Code := bodyOf Tryd.f62
def Zjv (r0 : AV) (B : List Row) : Option Res :=
 ob (ob (some r0) fun v => ob (some []) fun vs => some (v :: vs)) fun vs => some ((nrmA (match vs with | [v] => v | vs => mkTup (vs.map shr))), B)
theorem ZkF (B : List Row) : EE 62 [] B =
 (let m0 := B.length
 mk (mk (ob (xlit PP 43 4 [(0, (.p (.v (.string (ByteArray.mk #[63, 61]))))), (1, (.p (.v (.string (ByteArray.mk #[63, 33]))))), (2, (.p (.v (.string (ByteArray.mk #[63, 60, 61]))))), (3, (.p (.v (.string (ByteArray.mk #[63, 60, 33])))))]) fun a1 =>
 Zjv (shr a1) B))) := (E_eq PP XX HH _ _ _).trans (by kernel_rfl)
noncomputable def ZcI : Code := bodyOf Tryd.f63
def ZjK (r0 : AV) (B : List Row) : Option Res :=
 ob (ob (some r0) fun v => ob (some []) fun vs => some (v :: vs)) fun vs => some ((nrmA (match vs with | [v] => v | vs => mkTup (vs.map shr))), B)
noncomputable def Zfl (m0 : Nat) : Kont := kret PP HH 63 Tryd.f63.results
noncomputable def ZjR (m0 : Nat) : Kont := kseq HH 63 m0 (l2 (l2 (l2 ZcI))) (exec PP HH 63 m0 EE LL (l2 (l2 (l2 ZcI))) (Zfl m0)) (Zfl m0)
noncomputable def Zg5 (m0 : Nat) : Kont := kblk 0 (ZjR m0)
noncomputable def ZkN (m0 : Nat) : Kont := kloop HH 63 m0 (l1 (l1 (l2 (l1 (l2 (l2 ZcI)))))) (LL 63 m0 (l1 (l1 (l2 (l1 (l2 (l2 ZcI)))))) (Zg5 m0)) (Zg5 m0)
noncomputable def Zch (m0 : Nat) (x0 x3 x4 : AV) (B : List Row) : Option Res := lp (LL 63 m0 (l1 (l1 (l2 (l1 (l2 (l2 ZcI)))))) (Zg5 m0) [(0, x0), (3, x3), (4, x4)] B)
noncomputable def ZfZ (m0 : Nat) (x0 x3 x4 : AV) (B : List Row) : Option Res := exec PP HH 63 m0 EE LL (l2 (l1 (l1 (l2 (l1 (l2 (l2 ZcI))))))) (ZkN m0) [(0, x0), (3, x3), (4, x4)] B
noncomputable def Zde (m0 : Nat) (x3 : AV) (B : List Row) : Option Res := exec PP HH 63 m0 EE LL (l2 (l2 (l2 ZcI))) (Zfl m0) [(3, x3)] B
theorem Zjc (m0 : Nat) (x0 x3 x4 : AV) (B : List Row) : Zch m0 x0 x3 x4 B =
 mk (ob (xbin PP .lss 3 (shr x4) (iv 2)) fun a1 =>
 asB (shr a1) fun t2 => br t2 (callS false EE 41 [(shr x0)] B fun a3 B4 =>
 ob (xbin PP .geq 3 a3 (iv 48)) fun a5 =>
 asB (shr (shr a5)) fun t6 => br t6 (callS false EE 41 [(shr x0)] B4 fun a7 B8 =>
 ob (xbin PP .leq 3 a7 (iv 57)) fun a9 =>
 asB (shr a9) fun t10 => br t10 (ZfZ m0 x0 x3 x4 (gcB m0 [x0, x3, x4] B8))
 (Zde m0 x3 (gcB m0 [x3] B8)))
 (Zde m0 x3 (gcB m0 [x3] B4)))
 (Zde m0 x3 (gcB m0 [x3] B))) := (L_eq PP XX HH _ _ _ _ _ _).trans (by kernel_rfl)
theorem Zig (m0 : Nat) (x0 x3 x4 : AV) (B : List Row) : ZfZ m0 x0 x3 x4 B =
 mk (ob (xminmax PP true [(shr x3), (iv 0)]) fun a11 =>
 ob (xbin PP .mul 3 (iv 10) a11) fun a12 =>
 callS false EE 46 [(shr x0)] B fun a13 B14 =>
 ob (xbin PP .add 3 a12 a13) fun a15 =>
 ob (xbin PP .sub 3 a15 (iv 48)) fun a16 =>
 mk (ob (xbin PP .add 3 (shr x4) (iv 1)) fun a17 =>
 Zch m0 x0 (shr a16) (shr a17) (gcB m0 [x0, (shr a16), (shr a17)] B14))) := by kernel_rfl
theorem ZhW (m0 : Nat) (x3 : AV) (B : List Row) : Zde m0 x3 B =
 mk (ZjK (shr (shr x3)) B) := by kernel_rfl
theorem Zka (x0 : AV) (B : List Row) : EE 63 [x0] B =
 (let m0 := B.length
 mk (mk (mk (Zch m0 x0 (iv (-1)) (iv 0) (gcB m0 [x0, (iv (-1)), (iv 0)] B))))) := (E_eq PP XX HH _ _ _).trans (by kernel_rfl)
noncomputable def ZlO : Code := bodyOf Tryd.f65
def ZjB (r0 : AV) (B : List Row) : Option Res :=
 ob (ob (some r0) fun v => ob (some []) fun vs => some (v :: vs)) fun vs => some ((nrmA (match vs with | [v] => v | vs => mkTup (vs.map shr))), B)
theorem Zk7 (x0 x1 : AV) (B : List Row) : EE 65 [x0, x1] B =
 (let m0 := B.length
 mk (mk (callS false EE 73 [(shr x0), (shr x1)] B fun a1 B2 =>
 ob (xbin PP .geq 3 a1 (iv 0)) fun a3 =>
 ZjB (shr a3) B2))) := (E_eq PP XX HH _ _ _).trans (by kernel_rfl)
noncomputable def ZlD : Code := bodyOf Tryd.f66
def Zjw (r0 : AV) (B : List Row) : Option Res :=
 ob (ob (some r0) fun v => ob (some []) fun vs => some (v :: vs)) fun vs => some ((nrmA (match vs with | [v] => v | vs => mkTup (vs.map shr))), B)
theorem Zld (x0 : AV) (B : List Row) : EE 66 [x0] B =
 (let m0 := B.length
 mk (bx x0 B fun a1 B2 =>
 mk (ob (ldN true 2 a1 B2) fun a3 =>
 callS false EE 67 [a3] B2 fun a4 B5 =>
 ob (xun PP .not a4) fun a6 =>
 Zjw (shr a6) B5))) := (E_eq PP XX HH _ _ _).trans (by kernel_rfl)
noncomputable def ZlH : Code := bodyOf Tryd.f67
def ZeI (r0 : AV) (B : List Row) : Option Res :=
 ob (ob (some r0) fun v => ob (some []) fun vs => some (v :: vs)) fun vs => some ((nrmA (match vs with | [v] => v | vs => mkTup (vs.map shr))), B)
theorem ZkV (x0 : AV) (B : List Row) : EE 67 [x0] B =
 (let m0 := B.length
 mk (bx x0 B fun a1 B2 =>
 mk (ob (xfld 0 a1) fun a3 =>
 ob (ldN false 1 a3 B2) fun a4 =>
 ob (xbin PP .geq 3 a4 (iv 0)) fun a5 =>
 asB (shr a5) fun t6 => br t6 (ob (xfld 0 a1) fun a7 =>
 ob (ldN false 1 a7 B2) fun a8 =>
 ob (xfld 1 a1) fun a9 =>
 ob (ldN false 1 a9 B2) fun a10 =>
 ob (xbin PP .leq 3 a8 a10) fun a11 =>
 asB (shr (shr a11)) fun t12 => br t12 (ob (xfld 1 a1) fun a13 =>
 ob (ldN false 1 a13 B2) fun a14 =>
 ob (xbin PP .leq 3 a14 (iv 1114367)) fun a15 =>
 ZeI (shr (shr a15)) B2)
 (ZeI (bv false) B2))
 (ZeI (bv false) B2)))) := (E_eq PP XX HH _ _ _).trans (by kernel_rfl)
noncomputable def Z7p : Code := bodyOf Tryd.f69
def ZgT (r0 : AV) (B : List Row) : Option Res :=
 ob (ob (some r0) fun v => ob (some []) fun vs => some (v :: vs)) fun vs => some ((nrmA (match vs with | [v] => v | vs => mkTup (vs.map shr))), B)
noncomputable def Zgf (m0 : Nat) : Kont := kret PP HH 69 Tryd.f69.results
noncomputable def ZkE (m0 : Nat) : Kont := kseq HH 69 m0 (l2 (l2 (l2 Z7p))) (exec PP HH 69 m0 EE LL (l2 (l2 (l2 Z7p))) (Zgf m0)) (Zgf m0)
noncomputable def Zgp (m0 : Nat) : Kont := kblk 0 (ZkE m0)
noncomputable def Zel (m0 : Nat) : Kont := kloop HH 69 m0 (l1 (l1 (l2 (l1 (l2 (l2 Z7p)))))) (LL 69 m0 (l1 (l1 (l2 (l1 (l2 (l2 Z7p)))))) (Zgp m0)) (Zgp m0)
noncomputable def ZkL (m0 : Nat) : Kont := kseq HH 69 m0 (l2 (l2 (l2 (l1 (l1 (l2 (l1 (l2 (l2 Z7p))))))))) (exec PP HH 69 m0 EE LL (l2 (l2 (l2 (l1 (l1 (l2 (l1 (l2 (l2 Z7p))))))))) (Zel m0)) (Zel m0)
noncomputable def Zfx (m0 : Nat) : Kont := kblk 1 (ZkL m0)
noncomputable def ZkG (m0 : Nat) : Kont := kseq HH 69 m0 (l2 (l2 (l1 (l1 (l2 (l2 (l1 (l1 (l2 (l1 (l2 (l2 Z7p)))))))))))) (exec PP HH 69 m0 EE LL (l2 (l2 (l1 (l1 (l2 (l2 (l1 (l1 (l2 (l1 (l2 (l2 Z7p)))))))))))) (Zfx m0)) (Zfx m0)
noncomputable def ZbU (m0 : Nat) (x3 x6 x7 x8 : AV) (B : List Row) : Option Res := lp (LL 69 m0 (l1 (l1 (l2 (l1 (l2 (l2 Z7p)))))) (Zgp m0) [(3, x3), (6, x6), (7, x7), (8, x8)] B)
noncomputable def Zgm (m0 : Nat) (x3 x6 x7 x8 : AV) (B : List Row) : Option Res := exec PP HH 69 m0 EE LL (l2 (l2 (l1 (l1 (l2 (l1 (l2 (l2 Z7p)))))))) (Zel m0) [(3, x3), (6, x6), (7, x7), (8, x8)] B
noncomputable def Zgi (m0 : Nat) (B : List Row) : Option Res := exec PP HH 69 m0 EE LL (l2 (l2 (l2 Z7p))) (Zgf m0) [] B
noncomputable def Ze6 (m0 : Nat) (B : List Row) : Option Res := exec PP HH 69 m0 EE LL (l1 (l2 (l1 (l2 (l1 (l1 (l2 (l2 (l1 (l1 (l2 (l1 (l2 (l2 Z7p)))))))))))))) (ZkG m0) [] B
noncomputable def Zg6 (m0 : Nat) (x5 x6 x7 x8 : AV) (B : List Row) : Option Res := exec PP HH 69 m0 EE LL (l2 (l2 (l1 (l1 (l2 (l2 (l1 (l1 (l2 (l1 (l2 (l2 Z7p)))))))))))) (Zfx m0) [(5, x5), (6, x6), (7, x7), (8, x8)] B
noncomputable def ZgB (m0 : Nat) (x3 x6 x7 x8 : AV) (B : List Row) : Option Res := exec PP HH 69 m0 EE LL (l2 (l2 (l2 (l1 (l1 (l2 (l1 (l2 (l2 Z7p))))))))) (Zel m0) [(3, x3), (6, x6), (7, x7), (8, x8)] B
theorem ZiG (m0 : Nat) (x3 x6 x7 x8 : AV) (B : List Row) : ZbU m0 x3 x6 x7 x8 B =
 mk (ob (xbin PP .lss 3 x8 x7) fun a2 =>
 asB a2 fun t3 => br t3 (Zgm m0 x3 x6 x7 x8 (gcB m0 [x3, x6, x7, x8] B))
 (Zgi m0  (gcB m0 [] B))) := (L_eq PP XX HH _ _ _ _ _ _).trans (by kernel_rfl)
theorem Zjd (m0 : Nat) (x3 x6 x7 x8 : AV) (B : List Row) : Zgm m0 x3 x6 x7 x8 B =
 mk (ob (xidx 2 x6 x8) fun a4 =>
 ob (ldN true 2 a4 B) fun a5 =>
 bz PP 39 B fun a6 B7 =>
 stN 2 a6 a5 B7 fun B8 =>
 mk (ob (ldN true 2 a6 B8) fun a9 =>
 callS false EE 67 [a9] B8 fun a10 B11 =>
 ob (xun PP .not a10) fun a12 =>
 asB (shr a12) fun t13 => br t13 (Ze6 m0  (gcB m0 [] B11))
 (ob (xfld 0 a6) fun a14 =>
 ob (ldN false 1 a14 B11) fun a15 =>
 ob (xbin PP .add 3 (shr x3) (iv 2)) fun a16 =>
 ob (xbin PP .lss 3 a15 a16) fun a17 =>
 asB (shr a17) fun t18 => br t18 (Ze6 m0  (gcB m0 [] B11))
 (Zg6 m0 a6 x6 x7 x8 (gcB m0 [a6, x6, x7, x8] B11))))) := by kernel_rfl
theorem Ziw (m0 : Nat) (B : List Row) : Zgi m0  B =
 mk (ZgT (bv true) B) := by kernel_rfl
theorem Zi9 (m0 : Nat) (B : List Row) : Ze6 m0  B =
 mk (ZgT (bv false) B) := by kernel_rfl
theorem ZiW (m0 : Nat) (x5 x6 x7 x8 : AV) (B : List Row) : Zg6 m0 x5 x6 x7 x8 B =
 mk (ob (xfld 1 x5) fun a19 =>
 ob (ldN false 1 a19 B) fun a20 =>
 ZgB m0 (shr a20) x6 x7 x8 (gcB m0 [(shr a20), x6, x7, x8] B)) := by kernel_rfl
theorem ZiY (m0 : Nat) (x3 x6 x7 x8 : AV) (B : List Row) : ZgB m0 x3 x6 x7 x8 B =
 mk (ob (xbin PP .add 3 x8 (iv 1)) fun a21 =>
 ZbU m0 x3 x6 x7 (shr a21) (gcB m0 [x3, x6, x7, (shr a21)] B)) := by kernel_rfl
theorem ZkD (x0 : AV) (B : List Row) : EE 69 [x0] B =
 (let m0 := B.length
 mk (mk (mk (ob (xlen PP 24 (shr x0)) fun a1 =>
 ZbU m0 (iv (-2)) (shr x0) a1 (iv 0) (gcB m0 [(iv (-2)), (shr x0), a1, (iv 0)] B))))) := (E_eq PP XX HH _ _ _).trans (by kernel_rfl)
noncomputable def Z8F : Code := bodyOf Tryd.f70
def ZjD (r0 : AV) (B : List Row) : Option Res :=
 ob (ob (some r0) fun v => ob (some []) fun vs => some (v :: vs)) fun vs => some ((nrmA (match vs with | [v] => v | vs => mkTup (vs.map shr))), B)
noncomputable def Zej (m0 : Nat) : Kont := kret PP HH 70 Tryd.f70.results
noncomputable def Zls (m0 : Nat) : Kont := kseq HH 70 m0 (l2 (l2 (l2 (l2 Z8F)))) (exec PP HH 70 m0 EE LL (l2 (l2 (l2 (l2 Z8F)))) (Zej m0)) (Zej m0)
noncomputable def Zg8 (m0 : Nat) : Kont := kblk 0 (Zls m0)
noncomputable def Zep (m0 : Nat) : Kont := kloop HH 70 m0 (l1 (l1 (l2 (l1 (l2 (l2 (l2 Z8F))))))) (LL 70 m0 (l1 (l1 (l2 (l1 (l2 (l2 (l2 Z8F))))))) (Zg8 m0)) (Zg8 m0)
noncomputable def Zl7 (m0 : Nat) : Kont := kseq HH 70 m0 (l2 (l2 (l2 (l1 (l1 (l2 (l1 (l2 (l2 (l2 Z8F)))))))))) (exec PP HH 70 m0 EE LL (l2 (l2 (l2 (l1 (l1 (l2 (l1 (l2 (l2 (l2 Z8F)))))))))) (Zep m0)) (Zep m0)
noncomputable def ZkX (m0 : Nat) : Kont := kblk 1 (Zl7 m0)
noncomputable def Zcw (m0 : Nat) (x3 x4 x7 x8 x9 : AV) (B : List Row) : Option Res := lp (LL 70 m0 (l1 (l1 (l2 (l1 (l2 (l2 (l2 Z8F))))))) (Zg8 m0) [(3, x3), (4, x4), (7, x7), (8, x8), (9, x9)] B)
noncomputable def Zg1 (m0 : Nat) (x3 x4 x7 x8 x9 : AV) (B : List Row) : Option Res := exec PP HH 70 m0 EE LL (l2 (l2 (l1 (l1 (l2 (l1 (l2 (l2 (l2 Z8F))))))))) (Zep m0) [(3, x3), (4, x4), (7, x7), (8, x8), (9, x9)] B
noncomputable def ZeN (m0 : Nat) (x3 x4 : AV) (B : List Row) : Option Res := exec PP HH 70 m0 EE LL (l2 (l2 (l2 (l2 Z8F)))) (Zej m0) [(3, x3), (4, x4)] B
noncomputable def Zev (m0 : Nat) (x3 x6 x7 x8 x9 : AV) (B : List Row) : Option Res := exec PP HH 70 m0 EE LL (l2 (l2 (l1 (l1 (l2 (l2 (l1 (l1 (l2 (l1 (l2 (l2 (l2 Z8F))))))))))))) (ZkX m0) [(3, x3), (6, x6), (7, x7), (8, x8), (9, x9)] B
noncomputable def Zdu (m0 : Nat) (x3 : AV) (B : List Row) : Option Res := exec PP HH 70 m0 EE LL (l2 (l2 (l2 (l2 (l2 Z8F))))) (Zej m0) [(3, x3)] B
noncomputable def Zfq (m0 : Nat) (x3 x4 x7 x8 x9 : AV) (B : List Row) : Option Res := exec PP HH 70 m0 EE LL (l2 (l2 (l2 (l1 (l1 (l2 (l1 (l2 (l2 (l2 Z8F)))))))))) (Zep m0) [(3, x3), (4, x4), (7, x7), (8, x8), (9, x9)] B
theorem Zi5 (m0 : Nat) (x3 x4 x7 x8 x9 : AV) (B : List Row) : Zcw m0 x3 x4 x7 x8 x9 B =
 mk (ob (xbin PP .lss 3 x9 x8) fun a2 =>
 asB a2 fun t3 => br t3 (Zg1 m0 x3 x4 x7 x8 x9 (gcB m0 [x3, x4, x7, x8, x9] B))
 (ZeN m0 x3 x4 (gcB m0 [x3, x4] B))) := (L_eq PP XX HH _ _ _ _ _ _).trans (by kernel_rfl)
theorem Zij (m0 : Nat) (x3 x4 x7 x8 x9 : AV) (B : List Row) : Zg1 m0 x3 x4 x7 x8 x9 B =
 mk (ob (xidx 2 x7 x9) fun a4 =>
 ob (ldN true 2 a4 B) fun a5 =>
 bz PP 39 B fun a6 B7 =>
 stN 2 a6 a5 B7 fun B8 =>
 mk (ob (xfld 0 a6) fun a9 =>
 ob (ldN false 1 a9 B8) fun a10 =>
 ob (xbin PP .lss 3 (shr x4) a10) fun a11 =>
 asB a11 fun t12 => br t12 (mk (ob (xfld 0 a6) fun a13 =>
 ob (ldN false 1 a13 B8) fun a14 =>
 ob (xbin PP .sub 3 a14 (iv 1)) fun a15 =>
 ob (xbuild PP 39 [(0, (shr x4)), (1, a15)]) fun a16 =>
 ob (xlit PP 24 1 [(0, a16)]) fun a17 =>
 ob (xapp 2 x3 a17) fun a18 =>
 Zev m0 a18 a6 x7 x8 x9 (gcB m0 [a18, a6, x7, x8, x9] B8)))
 (Zev m0 x3 a6 x7 x8 x9 (gcB m0 [x3, a6, x7, x8, x9] B8)))) := by kernel_rfl
theorem ZhL (m0 : Nat) (x3 x4 : AV) (B : List Row) : ZeN m0 x3 x4 B =
 mk (ob (xbin PP .leq 3 (shr x4) (iv 1114367)) fun a19 =>
 asB a19 fun t20 => br t20 (mk (ob (xbuild PP 39 [(0, (shr x4)), (1, (iv 1114367))]) fun a21 =>
 ob (xlit PP 24 1 [(0, a21)]) fun a22 =>
 ob (xapp 2 x3 a22) fun a23 =>
 Zdu m0 a23 (gcB m0 [a23] B)))
 (Zdu m0 x3 (gcB m0 [x3] B))) := by kernel_rfl
theorem ZiD (m0 : Nat) (x3 x6 x7 x8 x9 : AV) (B : List Row) : Zev m0 x3 x6 x7 x8 x9 B =
 mk (ob (xfld 1 x6) fun a24 =>
 ob (ldN false 1 a24 B) fun a25 =>
 ob (xbin PP .add 3 a25 (iv 1)) fun a26 =>
 Zfq m0 x3 (shr a26) x7 x8 x9 (gcB m0 [x3, (shr a26), x7, x8, x9] B)) := by kernel_rfl
theorem Zhh (m0 : Nat) (x3 : AV) (B : List Row) : Zdu m0 x3 B =
 mk (ZjD (shr (shr x3)) B) := by kernel_rfl
theorem Zix (m0 : Nat) (x3 x4 x7 x8 x9 : AV) (B : List Row) : Zfq m0 x3 x4 x7 x8 x9 B =
 mk (ob (xbin PP .add 3 x9 (iv 1)) fun a27 =>
 Zcw m0 x3 x4 x7 x8 (shr a27) (gcB m0 [x3, x4, x7, x8, (shr a27)] B)) := by kernel_rfl
theorem Zlp (x0 : AV) (B : List Row) : EE 70 [x0] B =
 (let m0 := B.length
 mk (mk (mk (mk (ob (xlen PP 24 (shr x0)) fun a1 =>
 Zcw m0 nilA (iv 0) (shr x0) a1 (iv 0) (gcB m0 [nilA, (iv 0), (shr x0), a1, (iv 0)] B)))))) := (E_eq PP XX HH _ _ _).trans (by kernel_rfl)
noncomputable def Zds : Code := bodyOf Tryd.f71
def ZeW (r0 : AV) (B : List Row) : Option Res :=
 ob (ob (some r0) fun v => ob (some []) fun vs => some (v :: vs)) fun vs => some ((nrmA (match vs with | [v] => v | vs => mkTup (vs.map shr))), B)
noncomputable def ZfF (m0 : Nat) : Kont := kret PP HH 71 Tryd.f71.results
noncomputable def Zlc (m0 : Nat) : Kont := kseq HH 71 m0 (l2 (l2 Zds)) (exec PP HH 71 m0 EE LL (l2 (l2 Zds)) (ZfF m0)) (ZfF m0)
noncomputable def Zgk (m0 : Nat) : Kont := kblk 0 (Zlc m0)
noncomputable def Zfz (m0 : Nat) (x0 : AV) (B : List Row) : Option Res := exec PP HH 71 m0 EE LL (l1 (l2 (l1 (l1 (l2 Zds))))) (Zgk m0) [(0, x0)] B
noncomputable def Zeq (m0 : Nat) (x0 : AV) (B : List Row) : Option Res := exec PP HH 71 m0 EE LL (l2 (l2 (l1 (l1 (l2 Zds))))) (Zgk m0) [(0, x0)] B
noncomputable def ZfB (m0 : Nat) (x0 : AV) (B : List Row) : Option Res := exec PP HH 71 m0 EE LL (l1 (l2 (l2 (l2 (l1 (l1 (l2 Zds))))))) (Zgk m0) [(0, x0)] B
noncomputable def Zek (m0 : Nat) (B : List Row) : Option Res := exec PP HH 71 m0 EE LL (l2 (l2 Zds)) (ZfF m0) [] B
theorem Zjq (m0 : Nat) (x0 : AV) (B : List Row) : Zfz m0 x0 B =
 mk (ob (xbin PP .sub 3 (shr x0) (iv 48)) fun a5 =>
 ZeW (shr a5) B) := by kernel_rfl
theorem Zi7 (m0 : Nat) (x0 : AV) (B : List Row) : Zeq m0 x0 B =
 mk (ob (xbin PP .geq 3 (shr x0) (iv 97)) fun a6 =>
 asB (shr a6) fun t7 => br t7 (ob (xbin PP .leq 3 (shr x0) (iv 102)) fun a8 =>
 asB (shr (shr a8)) fun t9 => br t9 (ZfB m0 x0 (gcB m0 [x0] B))
 (Zek m0  (gcB m0 [] B)))
 (Zek m0  (gcB m0 [] B))) := by kernel_rfl
theorem ZiB (m0 : Nat) (x0 : AV) (B : List Row) : ZfB m0 x0 B =
 mk (ob (xbin PP .sub 3 (shr x0) (iv 97)) fun a10 =>
 ob (xbin PP .add 3 a10 (iv 10)) fun a11 =>
 ZeW (shr a11) B) := by kernel_rfl
theorem ZiU (m0 : Nat) (B : List Row) : Zek m0  B =
 mk (ZeW (iv (-1)) B) := by kernel_rfl
theorem Zlj (x0 : AV) (B : List Row) : EE 71 [x0] B =
 (let m0 := B.length
 mk (mk (ob (xbin PP .geq 3 (shr x0) (iv 48)) fun a1 =>
 asB (shr a1) fun t2 => br t2 (ob (xbin PP .leq 3 (shr x0) (iv 57)) fun a3 =>
 asB (shr (shr a3)) fun t4 => br t4 (Zfz m0 x0 (gcB m0 [x0] B))
 (Zeq m0 x0 (gcB m0 [x0] B)))
 (Zeq m0 x0 (gcB m0 [x0] B))))) := (E_eq PP XX HH _ _ _).trans (by kernel_rfl)
noncomputable def Zbt : Code := bodyOf Tryd.f73
def ZgX (r0 : AV) (B : List Row) : Option Res :=
 ob (ob (some r0) fun v => ob (some []) fun vs => some (v :: vs)) fun vs => some ((nrmA (match vs with | [v] => v | vs => mkTup (vs.map shr))), B)
noncomputable def Zgu (m0 : Nat) : Kont := kret PP HH 73 Tryd.f73.results
noncomputable def Zk6 (m0 : Nat) : Kont := kseq HH 73 m0 (l2 (l2 Zbt)) (exec PP HH 73 m0 EE LL (l2 (l2 Zbt)) (Zgu m0)) (Zgu m0)
noncomputable def Zfu (m0 : Nat) : Kont := kblk 0 (Zk6 m0)
noncomputable def Zid (m0 : Nat) : Kont := kloop HH 73 m0 (l1 (l1 (l2 (l1 (l2 Zbt))))) (LL 73 m0 (l1 (l1 (l2 (l1 (l2 Zbt))))) (Zfu m0)) (Zfu m0)
noncomputable def Zcl (m0 : Nat) (x0 x1 x7 x8 : AV) (B : List Row) : Option Res := lp (LL 73 m0 (l1 (l1 (l2 (l1 (l2 Zbt))))) (Zfu m0) [(0, x0), (1, x1), (7, x7), (8, x8)] B)
noncomputable def Zgy (m0 : Nat) (x0 x1 x7 x8 : AV) (B : List Row) : Option Res := exec PP HH 73 m0 EE LL (l2 (l2 (l1 (l1 (l2 (l1 (l2 Zbt))))))) (Zid m0) [(0, x0), (1, x1), (7, x7), (8, x8)] B
noncomputable def ZgD (m0 : Nat) (B : List Row) : Option Res := exec PP HH 73 m0 EE LL (l2 (l2 Zbt)) (Zgu m0) [] B
noncomputable def ZfC (m0 : Nat) (x0 x1 x7 x8 : AV) (B : List Row) : Option Res := exec PP HH 73 m0 EE LL (l2 (l2 (l2 (l1 (l1 (l2 (l1 (l2 Zbt)))))))) (Zid m0) [(0, x0), (1, x1), (7, x7), (8, x8)] B
theorem ZiE (m0 : Nat) (x0 x1 x7 x8 : AV) (B : List Row) : Zcl m0 x0 x1 x7 x8 B =
 mk (ob (xbin PP .lss 3 x8 x7) fun a2 =>
 asB a2 fun t3 => br t3 (Zgy m0 x0 x1 x7 x8 (gcB m0 [x0, x1, x7, x8] B))
 (ZgD m0  (gcB m0 [] B))) := (L_eq PP XX HH _ _ _ _ _ _).trans (by kernel_rfl)
theorem ZhZ (m0 : Nat) (x0 x1 x7 x8 : AV) (B : List Row) : Zgy m0 x0 x1 x7 x8 B =
 mk (mk (ob (xidx 2 (shr x0) (shr (shr (shr x8)))) fun a4 =>
 ob (ldN true 2 a4 B) fun a5 =>
 callV HH EE (shr x1) [a5] B fun a6 B7 =>
 asB a6 fun t8 => br t8 (mk (ZgX (shr (shr (shr (shr x8)))) B7))
 (ZfC m0 x0 x1 x7 x8 (gcB m0 [x0, x1, x7, x8] B7)))) := by kernel_rfl
theorem ZhS (m0 : Nat) (B : List Row) : ZgD m0  B =
 mk (ZgX (iv (-1)) B) := by kernel_rfl
theorem ZiF (m0 : Nat) (x0 x1 x7 x8 : AV) (B : List Row) : ZfC m0 x0 x1 x7 x8 B =
 mk (ob (xbin PP .add 3 x8 (iv 1)) fun a9 =>
 Zcl m0 x0 x1 x7 (shr a9) (gcB m0 [x0, x1, x7, (shr a9)] B)) := by kernel_rfl
theorem Zkk (x0 x1 : AV) (B : List Row) : EE 73 [x0, x1] B =
 (let m0 := B.length
 mk (mk (ob (xlen PP 23 (shr x0)) fun a1 =>
 Zcl m0 x0 x1 a1 (iv 0) (gcB m0 [x0, x1, a1, (iv 0)] B)))) := (E_eq PP XX HH _ _ _).trans (by kernel_rfl)
end Go.Proofs.YtadodmjdkphddaaDoor.N2
end
