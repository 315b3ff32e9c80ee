/- The functions' equations, by the evaluator. No condition. -/
import Derived.Test.YtadodmjdkphddaaDoorEvA
import Derived.Test.YtadodmjdkphddaaDoorProg
import Derived.KernelRfl
import Derived.Test.YtadodmjdkphddaaDoorEvD

section
set_option linter.unusedSimpArgs false
set_option linter.unusedVariables false
namespace Go.Proofs.YtadodmjdkphddaaDoor.N2
open Go Go.Abs
def keepT : FuncId → Nat → Option (List Nat) := fun f r =>
 if f = 5 then (if r = 4 then some [] else if r = 11 then some [0, 11] else if r = 12 then some [0, 1, 2, 3, 10, 11] else if r = 8 then some [0, 1, 2, 3, 9] else if r = 5 then some [0, 1, 2, 3] else if r = 3 then some [0, 1, 2, 3] else none) else
 if f = 15 then (if r = 6 then some [] else if r = 7 then some [4, 6, 8] else none) else
 if f = 16 then (if r = 7 then some [2, 3, 4, 5] else if r = 9 then some [2, 3, 4, 5, 50, 51, 52] else if r = 13 then some [2, 3, 4, 5, 50, 51, 52] else if r = 10 then some [2, 3, 4, 5, 50, 51, 52] else if r = 16 then some [2, 3, 4, 5] else if r = 14 then some [2, 3, 4, 5] else if r = 8 then some [2, 3, 4, 5] else if r = 3 then some [0, 2, 3] else none) else
 if f = 20 then (if r = 7 then some [0] else if r = 5 then some [0] else if r = 3 then some [0] else none) else
 if f = 22 then (if r = 4 then some [1, 12, 13, 14] else if r = 8 then some [1, 12, 13, 14] else if r = 5 then some [1, 12, 13, 14] else if r = 9 then some [] else if r = 3 then some [0, 1] else none) else
 if f = 27 then (if r = 2 then some [] else if r = 3 then some [0, 1] else none) else
 if f = 28 then (if r = 2 then some [0, 2, 3] else if r = 3 then some [0, 2, 3] else if r = 4 then some [2, 3] else none) else
 if f = 29 then (if r = 2 then some [0] else none) else
 if f = 35 then (if r = 2 then some [0, 2, 3] else if r = 7 then some [0, 2, 3] else if r = 3 then some [0, 2, 3] else if r = 9 then some [2, 3] else none) else
 if f = 36 then (if r = 6 then some [0, 1, 4] else none) else
 if f = 37 then (if r = 2 then some [0, 1, 7, 8] else if r = 6 then some [0, 1, 7, 8] else if r = 3 then some [0, 1, 7, 8] else if r = 7 then some [] else none) else
 if f = 41 then (if r = 3 then some [0] else none) else
 if f = 42 then (if r = 26 then some [2] else none) else
 if f = 43 then (if r = 17 then some [6, 8] else if r = 13 then some [0, 6, 8] else if r = 11 then some [0, 2, 6, 7, 8] else none) else
 if f = 45 then (if r = 2 then some [] else if r = 5 then some [0, 1] else if r = 6 then some [6, 7] else if r = 3 then some [0, 1] else none) else
 if f = 47 then (if r = 4 then some [4, 5] else none) else
 if f = 49 then (if r = 13 then some [0, 1, 4, 5] else if r = 15 then some [0, 1, 4, 5] else if r = 5 then some [0, 1, 4, 5] else none) else
 if f = 50 then (if r = 5 then some [0, 1, 4, 5, 6, 7, 8] else if r = 18 then some [4, 6] else if r = 15 then some [0, 4, 5, 6] else if r = 32 then some [0, 1, 4, 5, 6, 7, 8, 9] else if r = 35 then some [0, 1, 4, 5, 6, 7, 8, 9, 11, 15] else if r = 33 then some [0, 1, 4, 5, 6, 7, 8, 9, 11] else if r = 36 then some [0, 1, 4, 5, 6, 7, 8, 11, 15] else if r = 28 then some [0, 1, 4, 5, 6, 7, 8, 9, 11] else if r = 22 then some [0, 1, 4, 5, 6, 7, 8, 9] else if r = 6 then some [0, 1, 4, 5, 6, 7, 8] else if r = 7 then some [0, 1, 4, 5, 6, 7, 8] else if r = 38 then some [4] else none) else
 if f = 51 then (if r = 19 then some [0, 1, 4, 7] else if r = 23 then some [4, 7] else if r = 20 then some [0, 4, 7] else if r = 17 then some [0, 1, 4] else if r = 4 then some [0, 1, 4] else none) else
 if f = 52 then (if r = 7 then some [4] else if r = 8 then some [0, 1, 4] else if r = 6 then some [0, 1, 4] else if r = 10 then some [0, 1, 4, 5] else if r = 11 then some [4, 5] else if r = 9 then some [0, 1, 4, 5] else none) else
 if f = 54 then (if r = 3 then some [0] else none) else
 if f = 55 then (if r = 3 then some [0] else none) else
 if f = 56 then (if r = 11 then some [] else none) else
 if f = 57 then (if r = 16 then some [1] else if r = 17 then some [0, 2] else none) else
 if f = 59 then (if r = 2 then some [] else if r = 3 then some [0, 1] else none) else
 if f = 60 then (if r = 13 then some [0, 2, 5] else if r = 9 then some [0, 2, 5] else if r = 5 then some [0, 5] else none) else
 if f = 61 then (if r = 2 then some [0, 1, 7, 8] else if r = 6 then some [0, 1, 7, 8] else if r = 3 then some [0, 1, 7, 8] else if r = 7 then some [] else none) else
 if f = 63 then (if r = 3 then some [0, 3, 4] else if r = 5 then some [0, 3, 4] else if r = 6 then some [3] else none) else
 if f = 69 then (if r = 3 then some [3, 6, 7, 8] else if r = 6 then some [] else if r = 7 then some [5, 6, 7, 8] else if r = 8 then some [3, 6, 7, 8] else if r = 4 then some [3, 6, 7, 8] else if r = 9 then some [] else none) else
 if f = 70 then (if r = 4 then some [3, 4, 7, 8, 9] else if r = 8 then some [3, 6, 7, 8, 9] else if r = 9 then some [3, 4, 7, 8, 9] else if r = 5 then some [3, 4, 7, 8, 9] else if r = 12 then some [3] else if r = 10 then some [3, 4] else none) else
 if f = 71 then (if r = 4 then some [0] else if r = 2 then some [0] else if r = 3 then some [0] else if r = 5 then some [] else none) else
 if f = 73 then (if r = 2 then some [0, 1, 7, 8] else if r = 6 then some [0, 1, 7, 8] else if r = 3 then some [0, 1, 7, 8] else if r = 7 then some [] else none) else
 none
def ownT : FuncId → List Nat := fun f =>
 if f = 28 then [3, 9] else
 if f = 35 then [3, 23] else
 if f = 49 then [44] else
 if f = 56 then [2] else
 if f = 60 then [3, 6, 29] else
 if f = 70 then [3, 17, 31] else
 []
def rawT : FuncId → Bool := fun f => if f = 56 then true else if f = 60 then true else false
def nearT : FuncId → List Nat := fun f => []
def HH : Hints := ⟨keepT, ownT, rawT, nearT⟩
def XX : FuncId → Option (List AV → List Row → Option Res) := fun f => if f = 53 then some xDecode else if f = 68 then some xNormal else if f = 72 then some xConcat else none
noncomputable abbrev PP : Program := Tryd.prog
noncomputable abbrev EE : GF := E PP XX HH
noncomputable abbrev LL : LF := L PP XX HH
end Go.Proofs.YtadodmjdkphddaaDoor.N2
end
section
set_option linter.unusedSimpArgs false
set_option linter.unusedVariables false
namespace Go.Proofs.YtadodmjdkphddaaDoor.N2
open Go Go.Abs
set_option linter.unusedVariables false
set_option maxRecDepth 100000
noncomputable def Zaj : Code := bodyOf Tryd.f5
def Z6z (r0 : AV) (B : List Row) : Option Res :=
 ob (ob (some r0) fun v => ob (some []) fun vs => some (v :: vs)) fun vs => some ((nrmA (match vs with | [v] => v | vs => mkTup (vs.map shr))), B)
noncomputable def Zae (m0 : Nat) : Kont := kret PP HH 5 Tryd.f5.results
noncomputable def ZiE (m0 : Nat) : Kont := kseq HH 5 m0 (l2 (l2 (l2 Zaj))) (exec PP HH 5 m0 EE LL (l2 (l2 (l2 Zaj))) (Zae m0)) (Zae m0)
noncomputable def ZiF (m0 : Nat) : Kont := kseq HH 5 m0 (l2 (l2 (l2 (l2 (l2 (l2 (l2 (l2 Zaj)))))))) (exec PP HH 5 m0 EE LL (l2 (l2 (l2 (l2 (l2 (l2 (l2 (l2 Zaj)))))))) (Zae m0)) (Zae m0)
noncomputable def Zf8 (m0 : Nat) (x0 x1 x2 x3 : AV) (B : List Row) : Option Res := exec PP HH 5 m0 EE LL (l2 (l2 Zaj)) (Zae m0) [(0, x0), (1, x1), (2, x2), (3, x3)] B
noncomputable def Z5P (m0 : Nat) (B : List Row) : Option Res := exec PP HH 5 m0 EE LL (l1 (l2 (l1 (l2 (l2 Zaj))))) (ZiE m0) [] B
noncomputable def Zdj (m0 : Nat) (x0 x1 x2 x3 : AV) (B : List Row) : Option Res := exec PP HH 5 m0 EE LL (l2 (l2 (l2 Zaj))) (Zae m0) [(0, x0), (1, x1), (2, x2), (3, x3)] B
noncomputable def Zdi (m0 : Nat) (x0 x1 x2 x3 x9 : AV) (B : List Row) : Option Res := exec PP HH 5 m0 EE LL (l2 (l2 (l2 (l2 (l2 Zaj))))) (Zae m0) [(0, x0), (1, x1), (2, x2), (3, x3), (9, x9)] B
noncomputable def ZbK (m0 : Nat) (x0 x11 : AV) (B : List Row) : Option Res := exec PP HH 5 m0 EE LL (l1 (l2 (l1 (l2 (l2 (l2 (l2 (l2 (l2 (l2 Zaj)))))))))) (ZiF m0) [(0, x0), (11, x11)] B
noncomputable def ZcJ (m0 : Nat) (x0 x1 x2 x3 x10 x11 : AV) (B : List Row) : Option Res := exec PP HH 5 m0 EE LL (l2 (l2 (l2 (l2 (l2 (l2 (l2 (l2 Zaj)))))))) (Zae m0) [(0, x0), (1, x1), (2, x2), (3, x3), (10, x10), (11, x11)] B
theorem ZgQ (m0 : Nat) (x0 x1 x2 x3 : AV) (B : List Row) : Zf8 m0 x0 x1 x2 x3 B =
 mk (callS false EE 18 [(shr x0)] B fun a5 B6 =>
 ob (xun PP .not a5) fun a7 =>
 asB (shr a7) fun t8 => br t8 (Z5P m0  (gcB m0 [] B6))
 (ob (xbin PP .lss 3 (shr x0) (iv 128)) fun a9 =>
 asB (shr a9) fun t10 => br t10 (ob (xbuild PP 39 [(0, (iv 48)), (1, (iv 57))]) fun a11 =>
 ob (xbuild PP 39 [(0, (iv 65)), (1, (iv 90))]) fun a12 =>
 ob (xbuild PP 39 [(0, (iv 97)), (1, (iv 122))]) fun a13 =>
 ob (xlit PP 24 3 [(0, a11), (1, a12), (2, a13)]) fun a14 =>
 callS false EE 19 [a14, (shr x0)] B6 fun a15 B16 =>
 ob (xun PP .not a15) fun a17 =>
 asB (shr (shr (shr a17))) fun t18 => br t18 (Z5P m0  (gcB m0 [] B16))
 (ob (xbin PP .lss 3 (shr x1) (iv 0)) fun a19 =>
 asB (shr (shr a19)) fun t20 => br t20 (Z5P m0  (gcB m0 [] B16))
 (ob (xbin PP .gtr 3 (shr x1) (iv 99)) fun a21 =>
 asB (shr (shr a21)) fun t22 => br t22 (Z5P m0  (gcB m0 [] B16))
 (ob (xbin PP .lss 3 (shr x2) (iv (-1))) fun a23 =>
 asB (shr (shr a23)) fun t24 => br t24 (Z5P m0  (gcB m0 [] B16))
 (ob (xbin PP .gtr 3 (shr x2) (iv 99)) fun a25 =>
 asB (shr (shr a25)) fun t26 => br t26 (Z5P m0  (gcB m0 [] B16))
 (ob (xbin PP .lss 3 (shr x3) (iv 0)) fun a27 =>
 asB (shr (shr a27)) fun t28 => br t28 (Z5P m0  (gcB m0 [] B16))
 (ob (xbin PP .gtr 3 (shr x3) (iv 2)) fun a29 =>
 asB (shr a29) fun t30 => br t30 (Z5P m0  (gcB m0 [] B16))
 (Zdj m0 x0 x1 x2 x3 (gcB m0 [x0, x1, x2, x3] B16)))))))))
 (ob (xbin PP .lss 3 (shr x1) (iv 0)) fun a31 =>
 asB (shr (shr a31)) fun t32 => br t32 (Z5P m0  (gcB m0 [] B6))
 (ob (xbin PP .gtr 3 (shr x1) (iv 99)) fun a33 =>
 asB (shr (shr a33)) fun t34 => br t34 (Z5P m0  (gcB m0 [] B6))
 (ob (xbin PP .lss 3 (shr x2) (iv (-1))) fun a35 =>
 asB (shr (shr a35)) fun t36 => br t36 (Z5P m0  (gcB m0 [] B6))
 (ob (xbin PP .gtr 3 (shr x2) (iv 99)) fun a37 =>
 asB (shr (shr a37)) fun t38 => br t38 (Z5P m0  (gcB m0 [] B6))
 (ob (xbin PP .lss 3 (shr x3) (iv 0)) fun a39 =>
 asB (shr (shr a39)) fun t40 => br t40 (Z5P m0  (gcB m0 [] B6))
 (ob (xbin PP .gtr 3 (shr x3) (iv 2)) fun a41 =>
 asB (shr a41) fun t42 => br t42 (Z5P m0  (gcB m0 [] B6))
 (Zdj m0 x0 x1 x2 x3 (gcB m0 [x0, x1, x2, x3] B6)))))))))) := by kernel_rfl
theorem ZgP (m0 : Nat) (B : List Row) : Z5P m0  B =
 mk (Z6z (bv true) B) := by kernel_rfl
theorem ZgO (m0 : Nat) (x0 x1 x2 x3 : AV) (B : List Row) : Zdj m0 x0 x1 x2 x3 B =
 mk (callS false EE 20 [(shr x0)] B fun a43 B44 =>
 ob (xcnv PP 40 9 a43) fun a45 =>
 ob (xbin PP .add 9 a45 (.p (.v (.string (ByteArray.mk #[123]))))) fun a46 =>
 callS false EE 21 [(shr x1)] B44 fun a47 B48 =>
 ob (xbin PP .add 9 a46 a47) fun a49 =>
 ob (xbin PP .add 9 a49 (.p (.v (.string (ByteArray.mk #[44]))))) fun a50 =>
 mk (ob (xbin PP .geq 3 (shr x2) (iv 0)) fun a51 =>
 asB a51 fun t52 => br t52 (mk (callS false EE 21 [(shr x2)] B48 fun a53 B54 =>
 ob (xbin PP .add 9 (shr (shr a50)) a53) fun a55 =>
 Zdi m0 x0 x1 x2 x3 (shr a55) (gcB m0 [x0, x1, x2, x3, (shr a55)] B54)))
 (Zdi m0 x0 x1 x2 x3 (shr a50) (gcB m0 [x0, x1, x2, x3, (shr a50)] B48)))) := by kernel_rfl
theorem ZgR (m0 : Nat) (x0 x1 x2 x3 x9 : AV) (B : List Row) : Zdi m0 x0 x1 x2 x3 x9 B =
 mk (ob (xlit PP 43 3 [(0, (.p (.v (.string (ByteArray.mk #[]))))), (1, (.p (.v (.string (ByteArray.mk #[63]))))), (2, (.p (.v (.string (ByteArray.mk #[43])))))]) fun a56 =>
 ob (xidx 1 a56 (shr x3)) fun a57 =>
 ob (ldN false 1 a57 B) fun a58 =>
 ob (xbin PP .add 9 (.p (.v (.string (ByteArray.mk #[125])))) a58) fun a59 =>
 ob (xbin PP .add 9 (shr x9) a59) fun a60 =>
 mk (callS false EE 16 [(shr (shr a60))] B fun a61 B62 =>
 ob (xext 0 (shr a61)) fun a63 =>
 ob (xext 1 (shr a61)) fun a64 =>
 bz PP 29 B62 fun a65 B66 =>
 bz PP 32 B66 fun a67 B68 =>
 stN 9 a65 (shr a63) B68 fun B69 =>
 stN 2 a67 (shr a64) B69 fun B70 =>
 mk (ob (xbin PP .gtr 3 (shr x1) (iv 64)) fun a71 =>
 asB (shr a71) fun t72 => br t72 (ZbK m0 x0 a67 (gcB m0 [x0, a67] B70))
 (ob (xbin PP .gtr 3 (shr x2) (iv 64)) fun a73 =>
 asB (shr (shr a73)) fun t74 => br t74 (ZbK m0 x0 a67 (gcB m0 [x0, a67] B70))
 (ob (xbin PP .geq 3 (shr x2) (iv 0)) fun a75 =>
 asB (shr a75) fun t76 => br t76 (ob (xbin PP .lss 3 (shr x2) (shr x1)) fun a77 =>
 asB (shr (shr a77)) fun t78 => br t78 (ZbK m0 x0 a67 (gcB m0 [x0, a67] B70))
 (ZcJ m0 x0 x1 x2 x3 a65 a67 (gcB m0 [x0, x1, x2, x3, a65, a67] B70)))
 (ZcJ m0 x0 x1 x2 x3 a65 a67 (gcB m0 [x0, x1, x2, x3, a65, a67] B70))))))) := by kernel_rfl
theorem ZfZ (m0 : Nat) (x0 x11 : AV) (B : List Row) : ZbK m0 x0 x11 B =
 mk (ob (xfld 0 x11) fun a79 =>
 ob (ldN false 1 a79 B) fun a80 =>
 ob (xbin PP .eql 30 a80 (iv 23)) fun a81 =>
 asB (shr a81) fun t82 => br t82 (ob (xfld 1 x11) fun a83 =>
 ob (ldN false 1 a83 B) fun a84 =>
 callS false EE 20 [(shr x0)] B fun a85 B86 =>
 ob (xlen PP 40 a85) fun a87 =>
 ob (xbin PP .eql 3 a84 a87) fun a88 =>
 grd (noPtrs [a85, (shr x0)]) (Z6z (shr (shr a88)) B86))
 (grd (noPtrs [ud, ud]) (Z6z (bv false) B))) := by kernel_rfl
theorem ZfX (m0 : Nat) (x0 x1 x2 x3 x10 x11 : AV) (B : List Row) : ZcJ m0 x0 x1 x2 x3 x10 x11 B =
 mk (ob (xfld 0 x10) fun a89 =>
 ob (ldN true 7 a89 B) fun a90 =>
 bz PP 27 B fun a91 B92 =>
 stN 7 a91 a90 B92 fun B93 =>
 mk (ob (xfld 0 x11) fun a94 =>
 ob (ldN false 1 a94 B93) fun a95 =>
 ob (xbin PP .eql 30 a95 (iv 0)) fun a96 =>
 asB (shr a96) fun t97 => br t97 (ob (xfld 0 a91) fun a98 =>
 ob (ldN false 1 a98 B93) fun a99 =>
 ob (xbin PP .eql 3 a99 (iv 4)) fun a100 =>
 asB (shr (shr a100)) fun t101 => br t101 (ob (xfld 1 a91) fun a102 =>
 ob (ldN false 1 a102 B93) fun a103 =>
 ob (xbin PP .eql 3 a103 (shr x1)) fun a104 =>
 asB (shr (shr a104)) fun t105 => br t105 (ob (xfld 2 a91) fun a106 =>
 ob (ldN false 1 a106 B93) fun a107 =>
 ob (xbin PP .eql 3 a107 (shr x2)) fun a108 =>
 asB (shr (shr a108)) fun t109 => br t109 (ob (xfld 3 a91) fun a110 =>
 ob (ldN false 1 a110 B93) fun a111 =>
 ob (xbin PP .eql 3 a111 (shr x3)) fun a112 =>
 asB (shr (shr a112)) fun t113 => br t113 (ob (xfld 6 a91) fun a114 =>
 ob (ldN false 1 a114 B93) fun a115 =>
 ob (xlen PP 25 a115) fun a116 =>
 ob (xbin PP .eql 3 a116 (iv 1)) fun a117 =>
 asB (shr (shr a117)) fun t118 => br t118 (ob (xfld 6 a91) fun a119 =>
 ob (ldN false 1 a119 B93) fun a120 =>
 ob (xidx 7 a120 (iv 0)) fun a121 =>
 ob (xfld 5 a121) fun a122 =>
 ob (ldN false 1 a122 B93) fun a123 =>
 ob (xbuild PP 39 [(0, (shr x0)), (1, (shr x0))]) fun a124 =>
 ob (xlit PP 24 1 [(0, a124)]) fun a125 =>
 callS false EE 22 [a123, a125] B93 fun a126 B127 =>
 Z6z (shr (shr a126)) B127)
 (Z6z (bv false) B93))
 (Z6z (bv false) B93))
 (Z6z (bv false) B93))
 (Z6z (bv false) B93))
 (Z6z (bv false) B93))
 (Z6z (bv false) B93))) := by kernel_rfl
theorem Ziy (x0 x1 x2 x3 : AV) (B : List Row) : EE 5 [x0, x1, x2, x3] B =
 (let m0 := B.length
 mk (mk (callS false EE 15 [] B fun a1 B2 =>
 ob (xun PP .not a1) fun a3 =>
 asB a3 fun t4 => br t4 (mk (Z6z (bv false) B2))
 (Zf8 m0 x0 x1 x2 x3 (gcB m0 [x0, x1, x2, x3] B2))))) := (E_eq PP XX HH _ _ _).trans (by kernel_rfl)
noncomputable def Zdm : Code := bodyOf Tryd.f15
def ZbU (r0 : AV) (B : List Row) : Option Res :=
 ob (ob (some r0) fun v => ob (some []) fun vs => some (v :: vs)) fun vs => some ((nrmA (match vs with | [v] => v | vs => mkTup (vs.map shr))), B)
noncomputable def Zec (m0 : Nat) : Kont := kret PP HH 15 Tryd.f15.results
noncomputable def ZhU (m0 : Nat) : Kont := kseq HH 15 m0 (l2 (l2 (l2 (l2 (l2 (l2 Zdm)))))) (exec PP HH 15 m0 EE LL (l2 (l2 (l2 (l2 (l2 (l2 Zdm)))))) (Zec m0)) (Zec m0)
noncomputable def Z9F (m0 : Nat) (B : List Row) : Option Res := exec PP HH 15 m0 EE LL (l1 (l2 (l1 (l2 (l2 (l2 (l2 (l2 Zdm)))))))) (ZhU m0) [] B
noncomputable def Zek (m0 : Nat) (x4 x6 x8 : AV) (B : List Row) : Option Res := exec PP HH 15 m0 EE LL (l2 (l2 (l2 (l2 (l2 (l2 Zdm)))))) (Zec m0) [(4, x4), (6, x6), (8, x8)] B
theorem Zg3 (m0 : Nat) (B : List Row) : Z9F m0  B =
 mk (ZbU (bv false) B) := by kernel_rfl
theorem ZfP (m0 : Nat) (x4 x6 x8 : AV) (B : List Row) : Zek m0 x4 x6 x8 B =
 mk (ob (ldN true 2 x4 B) fun a72 =>
 ob (xbuild PP 32 [(0, (iv 23)), (1, (iv 2))]) fun a73 =>
 ob (xbin PP .eql 32 a72 a73) fun a74 =>
 asB (shr a74) fun t75 => br t75 (ob (ldN true 2 x6 B) fun a76 =>
 ob (xbuild PP 32 [(0, (iv 20))]) fun a77 =>
 ob (xbin PP .eql 32 a76 a77) fun a78 =>
 asB (shr (shr a78)) fun t79 => br t79 (ob (ldN true 2 x8 B) fun a80 =>
 ob (xbuild PP 32 [(0, (iv 26))]) fun a81 =>
 ob (xbin PP .eql 32 a80 a81) fun a82 =>
 ZbU (shr (shr a82)) B)
 (ZbU (bv false) B))
 (ZbU (bv false) B)) := by kernel_rfl
theorem Zhr (B : List Row) : EE 15 [] B =
 (let m0 := B.length
 mk (mk (callS false EE 16 [(.p (.v (.string (ByteArray.mk #[97, 124, 98, 42, 63]))))] B fun a1 B2 =>
 ob (xext 0 (shr a1)) fun a3 =>
 ob (xext 1 (shr a1)) fun a4 =>
 bz PP 29 B2 fun a5 B6 =>
 bz PP 32 B6 fun a7 B8 =>
 stN 9 a5 (shr a3) B8 fun B9 =>
 stN 2 a7 (shr a4) B9 fun B10 =>
 mk (callS false EE 16 [(.p (.v (.string (ByteArray.mk #[97, 42, 42]))))] B10 fun a11 B12 =>
 ob (xext 0 (shr a11)) fun a13 =>
 ob (xext 1 (shr a11)) fun a14 =>
 bz PP 29 B12 fun a15 B16 =>
 bz PP 32 B16 fun a17 B18 =>
 stN 9 a15 (shr a13) B18 fun B19 =>
 stN 2 a17 (shr a14) B19 fun B20 =>
 mk (callS false EE 16 [(.p (.v (.string (ByteArray.mk #[40, 97]))))] B20 fun a21 B22 =>
 ob (xext 0 (shr a21)) fun a23 =>
 ob (xext 1 (shr a21)) fun a24 =>
 bz PP 29 B22 fun a25 B26 =>
 bz PP 32 B26 fun a27 B28 =>
 stN 9 a25 (shr a23) B28 fun B29 =>
 stN 2 a27 (shr a24) B29 fun B30 =>
 mk (callS false EE 16 [(.p (.v (.string (ByteArray.mk #[92, 49]))))] B30 fun a31 B32 =>
 ob (xext 0 (shr a31)) fun a33 =>
 ob (xext 1 (shr a31)) fun a34 =>
 bz PP 29 B32 fun a35 B36 =>
 bz PP 32 B36 fun a37 B38 =>
 stN 9 a35 (shr a33) B38 fun B39 =>
 stN 2 a37 (shr a34) B39 fun B40 =>
 mk (ob (xfld 0 a7) fun a41 =>
 ob (ldN false 1 a41 B40) fun a42 =>
 ob (xbin PP .neq 30 a42 (iv 0)) fun a43 =>
 asB (shr a43) fun t44 => br t44 (Z9F m0  (gcB m0 [] B40))
 (ob (xfld 0 a5) fun a45 =>
 ob (xfld 0 a45) fun a46 =>
 ob (ldN false 1 a46 B40) fun a47 =>
 ob (xbin PP .neq 3 a47 (iv 3)) fun a48 =>
 asB (shr (shr a48)) fun t49 => br t49 (Z9F m0  (gcB m0 [] B40))
 (ob (xfld 0 a5) fun a50 =>
 ob (xfld 6 a50) fun a51 =>
 ob (ldN false 1 a51 B40) fun a52 =>
 ob (xlen PP 25 a52) fun a53 =>
 ob (xbin PP .neq 3 a53 (iv 2)) fun a54 =>
 asB (shr (shr a54)) fun t55 => br t55 (Z9F m0  (gcB m0 [] B40))
 (ob (xfld 0 a5) fun a56 =>
 ob (xfld 6 a56) fun a57 =>
 ob (ldN false 1 a57 B40) fun a58 =>
 ob (xidx 7 a58 (iv 1)) fun a59 =>
 ob (xfld 0 a59) fun a60 =>
 ob (ldN false 1 a60 B40) fun a61 =>
 ob (xbin PP .neq 3 a61 (iv 4)) fun a62 =>
 asB (shr (shr a62)) fun t63 => br t63 (Z9F m0  (gcB m0 [] B40))
 (ob (xfld 0 a5) fun a64 =>
 ob (xfld 6 a64) fun a65 =>
 ob (ldN false 1 a65 B40) fun a66 =>
 ob (xidx 7 a66 (iv 1)) fun a67 =>
 ob (xfld 3 a67) fun a68 =>
 ob (ldN false 1 a68 B40) fun a69 =>
 ob (xbin PP .neq 3 a69 (iv 1)) fun a70 =>
 asB (shr a70) fun t71 => br t71 (Z9F m0  (gcB m0 [] B40))
 (Zek m0 a17 a27 a37 (gcB m0 [a17, a27, a37] B40))))))))))))) := (E_eq PP XX HH _ _ _).trans (by kernel_rfl)
noncomputable def Z6u : Code := bodyOf Tryd.f16
def ZcR (r0 r1 : AV) (B : List Row) : Option Res :=
 ob (ob (ldN true 9 r0 B) fun v => ob (ob (ldN true 2 r1 B) fun v => ob (some []) fun vs => some (v :: vs)) fun vs => some (v :: vs)) fun vs => some ((nrmA (match vs with | [v] => v | vs => mkTup (vs.map shr))), B)
noncomputable def Z8S (m0 : Nat) : Kont := kret PP HH 16 Tryd.f16.results
noncomputable def Zhu (m0 : Nat) : Kont := kseq HH 16 m0 (l2 (l2 (l2 (l2 (l2 (l2 Z6u)))))) (exec PP HH 16 m0 EE LL (l2 (l2 (l2 (l2 (l2 (l2 Z6u)))))) (Z8S m0)) (Z8S m0)
noncomputable def Zi1 (m0 : Nat) : Kont := kseq HH 16 m0 (l2 (l2 (l2 (l2 (l2 (l2 (l2 Z6u))))))) (exec PP HH 16 m0 EE LL (l2 (l2 (l2 (l2 (l2 (l2 (l2 Z6u))))))) (Z8S m0)) (Z8S m0)
noncomputable def ZdU (m0 : Nat) : Kont := kblk 0 (Zi1 m0)
noncomputable def Zg8 (m0 : Nat) : Kont := kloop HH 16 m0 (l1 (l1 (l2 (l1 (l2 (l2 (l2 (l2 (l2 (l2 Z6u)))))))))) (LL 16 m0 (l1 (l1 (l2 (l1 (l2 (l2 (l2 (l2 (l2 (l2 Z6u)))))))))) (ZdU m0)) (ZdU m0)
noncomputable def ZdY (m0 : Nat) (x0 x2 x3 : AV) (B : List Row) : Option Res := exec PP HH 16 m0 EE LL (l2 (l2 Z6u)) (Z8S m0) [(0, x0), (2, x2), (3, x3)] B
noncomputable def Zet (m0 : Nat) (x2 x3 x4 x5 : AV) (B : List Row) : Option Res := exec PP HH 16 m0 EE LL (l1 (l2 (l1 (l2 (l2 (l2 (l2 (l2 Z6u)))))))) (Zhu m0) [(2, x2), (3, x3), (4, x4), (5, x5)] B
noncomputable def ZbN (m0 : Nat) (x2 x3 x4 x5 : AV) (B : List Row) : Option Res := exec PP HH 16 m0 EE LL (l2 (l2 (l2 (l2 (l2 (l2 Z6u)))))) (Z8S m0) [(2, x2), (3, x3), (4, x4), (5, x5)] B
noncomputable def ZaH (m0 : Nat) (x2 x3 x4 x5 x50 x51 x52 : AV) (B : List Row) : Option Res := lp (LL 16 m0 (l1 (l1 (l2 (l1 (l2 (l2 (l2 (l2 (l2 (l2 Z6u)))))))))) (ZdU m0) [(2, x2), (3, x3), (4, x4), (5, x5), (50, x50), (51, x51), (52, x52)] B)
noncomputable def Zd0 (m0 : Nat) (x2 x3 x4 x5 x50 x51 x52 : AV) (B : List Row) : Option Res := exec PP HH 16 m0 EE LL (l2 (l2 (l1 (l1 (l2 (l1 (l2 (l2 (l2 (l2 (l2 (l2 Z6u)))))))))))) (Zg8 m0) [(2, x2), (3, x3), (4, x4), (5, x5), (50, x50), (51, x51), (52, x52)] B
noncomputable def Zd3 (m0 : Nat) (x2 x3 x4 x5 : AV) (B : List Row) : Option Res := exec PP HH 16 m0 EE LL (l2 (l2 (l2 (l2 (l2 (l2 (l2 Z6u))))))) (Z8S m0) [(2, x2), (3, x3), (4, x4), (5, x5)] B
noncomputable def ZbV (m0 : Nat) (x2 x3 x4 x5 x50 x51 x52 : AV) (B : List Row) : Option Res := exec PP HH 16 m0 EE LL (l2 (l2 (l2 (l1 (l1 (l2 (l1 (l2 (l2 (l2 (l2 (l2 (l2 Z6u))))))))))))) (Zg8 m0) [(2, x2), (3, x3), (4, x4), (5, x5), (50, x50), (51, x51), (52, x52)] B
noncomputable def ZcS (m0 : Nat) (x2 x3 x4 x5 : AV) (B : List Row) : Option Res := exec PP HH 16 m0 EE LL (l2 (l2 (l2 (l2 (l2 (l2 (l2 (l2 Z6u)))))))) (Z8S m0) [(2, x2), (3, x3), (4, x4), (5, x5)] B
theorem ZfL (m0 : Nat) (x0 x2 x3 : AV) (B : List Row) : ZdY m0 x0 x2 x3 B =
 mk (ob (xcnv PP 9 40 (shr x0)) fun a12 =>
 ob (xbuild PP 58 [(0, a12)]) fun a13 =>
 bx a13 B fun a14 B15 =>
 mk (callS false EE 27 [(shr (shr a14)), (.p (.v (.string (ByteArray.mk #[40, 63, 105, 41]))))] B15 fun a16 B17 =>
 ob (xbuild PP 29 [(2, a16)]) fun a18 =>
 bz PP 29 B17 fun a19 B20 =>
 stN 9 a19 a18 B20 fun B21 =>
 mk (callS false EE 28 [(shr (shr a14))] B21 fun a22 B23 =>
 ob (xfld 0 a19) fun a24 =>
 stN 7 a24 a22 B23 fun B25 =>
 mk (ob (xnilchk (shr (shr a14))) fun a26 =>
 ob (xfld 5 a26) fun a27 =>
 ob (xfld 0 a27) fun a28 =>
 ob (ldN false 1 a28 B25) fun a29 =>
 ob (xbin PP .eql 30 a29 (iv 0)) fun a30 =>
 asB (shr a30) fun t31 => br t31 (ob (xnilchk (shr (shr a14))) fun a32 =>
 ob (xfld 1 a32) fun a33 =>
 ob (ldN false 1 a33 B25) fun a34 =>
 ob (xnilchk (shr (shr a14))) fun a35 =>
 ob (xfld 0 a35) fun a36 =>
 ob (ldN false 1 a36 B25) fun a37 =>
 ob (xlen PP 40 a37) fun a38 =>
 ob (xbin PP .lss 3 a34 a38) fun a39 =>
 asB (shr a39) fun t40 => br t40 (Zet m0 x2 x3 (shr a14) a19 (gcB m0 [x2, x3, (shr a14), a19] B25))
 (ZbN m0 x2 x3 (shr a14) a19 (gcB m0 [x2, x3, (shr a14), a19] B25)))
 (ZbN m0 x2 x3 (shr a14) a19 (gcB m0 [x2, x3, (shr a14), a19] B25)))))) := by kernel_rfl
theorem Zfq (m0 : Nat) (x2 x3 x4 x5 : AV) (B : List Row) : Zet m0 x2 x3 x4 x5 B =
 mk (ob (xnilchk (shr x4)) fun a41 =>
 ob (xfld 1 a41) fun a42 =>
 ob (ldN false 1 a42 B) fun a43 =>
 callS false EE 29 [(shr x4), (iv 20), a43] B fun a44 B45 =>
 ZbN m0 x2 x3 x4 x5 (gcB m0 [x2, x3, x4, x5] B45)) := by kernel_rfl
theorem ZfB (m0 : Nat) (x2 x3 x4 x5 : AV) (B : List Row) : ZbN m0 x2 x3 x4 x5 B =
 mk (ob (xnilchk (shr x4)) fun a46 =>
 ob (xfld 4 a46) fun a47 =>
 ob (ldN false 1 a47 B) fun a48 =>
 ob (xlen PP 56 a48) fun a49 =>
 ZaH m0 x2 x3 x4 x5 a48 a49 (iv 0) (gcB m0 [x2, x3, x4, x5, a48, a49, (iv 0)] B)) := by kernel_rfl
theorem Zfp (m0 : Nat) (x2 x3 x4 x5 x50 x51 x52 : AV) (B : List Row) : ZaH m0 x2 x3 x4 x5 x50 x51 x52 B =
 mk (ob (xbin PP .lss 3 x52 x51) fun a50 =>
 asB a50 fun t51 => br t51 (Zd0 m0 x2 x3 x4 x5 x50 x51 x52 (gcB m0 [x2, x3, x4, x5, x50, x51, x52] B))
 (Zd3 m0 x2 x3 x4 x5 (gcB m0 [x2, x3, x4, x5] B))) := (L_eq PP XX HH _ _ _ _ _ _).trans (by kernel_rfl)
theorem Zf4 (m0 : Nat) (x2 x3 x4 x5 x50 x51 x52 : AV) (B : List Row) : Zd0 m0 x2 x3 x4 x5 x50 x51 x52 B =
 mk (ob (xidx 2 x50 x52) fun a52 =>
 ob (ldN true 2 a52 B) fun a53 =>
 bz PP 62 B fun a54 B55 =>
 stN 2 a54 a53 B55 fun B56 =>
 mk (ob (xfld 0 a54) fun a57 =>
 ob (ldN false 1 a57 B56) fun a58 =>
 ob (xnilchk (shr x4)) fun a59 =>
 ob (xfld 2 a59) fun a60 =>
 ob (ldN false 1 a60 B56) fun a61 =>
 ob (xbin PP .gtr 3 a58 a61) fun a62 =>
 asB a62 fun t63 => br t63 (mk (ob (xfld 1 a54) fun a64 =>
 ob (ldN false 1 a64 B56) fun a65 =>
 callS false EE 29 [(shr x4), (iv 26), a65] B56 fun a66 B67 =>
 ZbV m0 x2 x3 x4 x5 x50 x51 x52 (gcB m0 [x2, x3, x4, x5, x50, x51, x52] B67)))
 (ZbV m0 x2 x3 x4 x5 x50 x51 x52 (gcB m0 [x2, x3, x4, x5, x50, x51, x52] B56)))) := by kernel_rfl
theorem Zf1 (m0 : Nat) (x2 x3 x4 x5 : AV) (B : List Row) : Zd3 m0 x2 x3 x4 x5 B =
 mk (ob (xnilchk (shr x4)) fun a68 =>
 ob (xfld 5 a68) fun a69 =>
 ob (xfld 0 a69) fun a70 =>
 ob (ldN false 1 a70 B) fun a71 =>
 ob (xbin PP .neq 30 a71 (iv 0)) fun a72 =>
 asB a72 fun t73 => br t73 (mk (ob (xbuild PP 29 []) fun a74 =>
 ob (xnilchk (shr x4)) fun a75 =>
 ob (xfld 5 a75) fun a76 =>
 ob (ldN true 2 a76 B) fun a77 =>
 stN 9 x2 a74 B fun B78 =>
 stN 2 x3 a77 B78 fun B79 =>
 grd (ptrNe a76 x2) (ZcR x2 x3 B79)))
 (ZcS m0 x2 x3 x4 x5 (gcB m0 [x2, x3, x4, x5] B))) := by kernel_rfl
theorem Zf2 (m0 : Nat) (x2 x3 x4 x5 x50 x51 x52 : AV) (B : List Row) : ZbV m0 x2 x3 x4 x5 x50 x51 x52 B =
 mk (ob (xbin PP .add 3 x52 (iv 1)) fun a80 =>
 ZaH m0 x2 x3 x4 x5 x50 x51 (shr a80) (gcB m0 [x2, x3, x4, x5, x50, x51, (shr a80)] B)) := by kernel_rfl
theorem Zf9 (m0 : Nat) (x2 x3 x4 x5 : AV) (B : List Row) : ZcS m0 x2 x3 x4 x5 B =
 mk (ob (xnilchk (shr x4)) fun a81 =>
 ob (xfld 2 a81) fun a82 =>
 ob (ldN false 1 a82 B) fun a83 =>
 ob (xfld 7 x5) fun a84 =>
 stN 1 a84 a83 B fun B85 =>
 mk (ob (ldN true 9 x5 B85) fun a86 =>
 ob (xbuild PP 32 []) fun a87 =>
 stN 9 x2 a86 B85 fun B88 =>
 stN 2 x3 a87 B88 fun B89 =>
 ZcR x2 x3 B89)) := by kernel_rfl
theorem Zip (x0 : AV) (B : List Row) : EE 16 [x0] B =
 (let m0 := B.length
 mk (bz PP 29 B fun a1 B2 =>
 bz PP 32 B2 fun a3 B4 =>
 mk (ob (xlen PP 9 (shr x0)) fun a5 =>
 ob (xbin PP .gtr 3 a5 (iv 256)) fun a6 =>
 asB a6 fun t7 => br t7 (mk (ob (xbuild PP 29 []) fun a8 =>
 ob (xbuild PP 32 [(0, (iv 12))]) fun a9 =>
 stN 9 a1 a8 B4 fun B10 =>
 stN 2 a3 a9 B10 fun B11 =>
 ZcR a1 a3 B11))
 (ZdY m0 x0 a1 a3 (gcB m0 [x0, a1, a3] B4))))) := (E_eq PP XX HH _ _ _).trans (by kernel_rfl)
noncomputable def ZiN : Code := bodyOf Tryd.f18
def Zc1 (r0 : AV) (B : List Row) : Option Res :=
 ob (ob (some r0) fun v => ob (some []) fun vs => some (v :: vs)) fun vs => some ((nrmA (match vs with | [v] => v | vs => mkTup (vs.map shr))), B)
theorem Zhn (x0 : AV) (B : List Row) : EE 18 [x0] B =
 (let m0 := B.length
 mk (mk (ob (xbin PP .geq 3 (shr x0) (iv 0)) fun a1 =>
 asB (shr a1) fun t2 => br t2 (ob (xbin PP .leq 3 (shr x0) (iv 1114111)) fun a3 =>
 asB (shr (shr a3)) fun t4 => br t4 (ob (xbin PP .lss 3 (shr x0) (iv 55296)) fun a5 =>
 asB (shr a5) fun t6 => br t6 (Zc1 (bv true) B)
 (ob (xbin PP .gtr 3 (shr x0) (iv 57343)) fun a7 =>
 Zc1 (shr (shr (shr a7))) B))
 (Zc1 (bv false) B))
 (Zc1 (bv false) B)))) := (E_eq PP XX HH _ _ _).trans (by kernel_rfl)
noncomputable def ZiR : Code := bodyOf Tryd.f19
def Zh1 (r0 : AV) (B : List Row) : Option Res :=
 ob (ob (some r0) fun v => ob (some []) fun vs => some (v :: vs)) fun vs => some ((nrmA (match vs with | [v] => v | vs => mkTup (vs.map shr))), B)
theorem ZhM (x0 x1 : AV) (B : List Row) : EE 19 [x0, x1] B =
 (let m0 := B.length
 mk (bx x1 B fun a1 B2 =>
 mk (callS false EE 30 [(shr x0), (.clo 31 ([].map nrmA) ([a1].map nrmA))] B2 fun a3 B4 =>
 Zh1 (shr a3) B4))) := (E_eq PP XX HH _ _ _).trans (by kernel_rfl)
noncomputable def Zfh : Code := bodyOf Tryd.f20
def ZbX (r0 : AV) (B : List Row) : Option Res :=
 ob (ob (some r0) fun v => ob (some []) fun vs => some (v :: vs)) fun vs => some ((nrmA (match vs with | [v] => v | vs => mkTup (vs.map shr))), B)
noncomputable def Zex (m0 : Nat) : Kont := kret PP HH 20 Tryd.f20.results
noncomputable def Zdv (m0 : Nat) (x0 : AV) (B : List Row) : Option Res := exec PP HH 20 m0 EE LL (l2 (l2 Zfh)) (Zex m0) [(0, x0)] B
noncomputable def ZdM (m0 : Nat) (x0 : AV) (B : List Row) : Option Res := exec PP HH 20 m0 EE LL (l2 (l2 (l2 Zfh))) (Zex m0) [(0, x0)] B
noncomputable def Zel (m0 : Nat) (x0 : AV) (B : List Row) : Option Res := exec PP HH 20 m0 EE LL (l2 (l2 (l2 (l2 Zfh)))) (Zex m0) [(0, x0)] B
theorem Zgd (m0 : Nat) (x0 : AV) (B : List Row) : Zdv m0 x0 B =
 mk (ob (xbin PP .lss 3 (shr x0) (iv 2048)) fun a5 =>
 asB a5 fun t6 => br t6 (mk (ob (xbin PP .quo 3 (shr x0) (iv 64)) fun a7 =>
 ob (xbin PP .add 3 (iv 192) a7) fun a8 =>
 ob (xcnv PP 3 5 a8) fun a9 =>
 ob (xbin PP .rem 3 (shr x0) (iv 64)) fun a10 =>
 ob (xbin PP .add 3 (iv 128) a10) fun a11 =>
 ob (xcnv PP 3 5 a11) fun a12 =>
 ob (xlit PP 40 2 [(0, a9), (1, a12)]) fun a13 =>
 ZbX (shr a13) B))
 (ZdM m0 x0 (gcB m0 [x0] B))) := by kernel_rfl
theorem ZfU (m0 : Nat) (x0 : AV) (B : List Row) : ZdM m0 x0 B =
 mk (ob (xbin PP .lss 3 (shr x0) (iv 65536)) fun a14 =>
 asB a14 fun t15 => br t15 (mk (ob (xbin PP .quo 3 (shr x0) (iv 4096)) fun a16 =>
 ob (xbin PP .add 3 (iv 224) a16) fun a17 =>
 ob (xcnv PP 3 5 a17) fun a18 =>
 ob (xbin PP .quo 3 (shr x0) (iv 64)) fun a19 =>
 ob (xbin PP .rem 3 a19 (iv 64)) fun a20 =>
 ob (xbin PP .add 3 (iv 128) a20) fun a21 =>
 ob (xcnv PP 3 5 a21) fun a22 =>
 ob (xbin PP .rem 3 (shr x0) (iv 64)) fun a23 =>
 ob (xbin PP .add 3 (iv 128) a23) fun a24 =>
 ob (xcnv PP 3 5 a24) fun a25 =>
 ob (xlit PP 40 3 [(0, a18), (1, a22), (2, a25)]) fun a26 =>
 ZbX (shr a26) B))
 (Zel m0 x0 (gcB m0 [x0] B))) := by kernel_rfl
theorem Zga (m0 : Nat) (x0 : AV) (B : List Row) : Zel m0 x0 B =
 mk (ob (xbin PP .quo 3 (shr x0) (iv 262144)) fun a27 =>
 ob (xbin PP .add 3 (iv 240) a27) fun a28 =>
 ob (xcnv PP 3 5 a28) fun a29 =>
 ob (xbin PP .quo 3 (shr x0) (iv 4096)) fun a30 =>
 ob (xbin PP .rem 3 a30 (iv 64)) fun a31 =>
 ob (xbin PP .add 3 (iv 128) a31) fun a32 =>
 ob (xcnv PP 3 5 a32) fun a33 =>
 ob (xbin PP .quo 3 (shr x0) (iv 64)) fun a34 =>
 ob (xbin PP .rem 3 a34 (iv 64)) fun a35 =>
 ob (xbin PP .add 3 (iv 128) a35) fun a36 =>
 ob (xcnv PP 3 5 a36) fun a37 =>
 ob (xbin PP .rem 3 (shr x0) (iv 64)) fun a38 =>
 ob (xbin PP .add 3 (iv 128) a38) fun a39 =>
 ob (xcnv PP 3 5 a39) fun a40 =>
 ob (xlit PP 40 4 [(0, a29), (1, a33), (2, a37), (3, a40)]) fun a41 =>
 ZbX (shr a41) B) := by kernel_rfl
theorem Zi7 (x0 : AV) (B : List Row) : EE 20 [x0] B =
 (let m0 := B.length
 mk (mk (ob (xbin PP .lss 3 (shr x0) (iv 128)) fun a1 =>
 asB a1 fun t2 => br t2 (mk (ob (xcnv PP 3 5 (shr x0)) fun a3 =>
 ob (xlit PP 40 1 [(0, a3)]) fun a4 =>
 ZbX (shr a4) B))
 (Zdv m0 x0 (gcB m0 [x0] B))))) := (E_eq PP XX HH _ _ _).trans (by kernel_rfl)
noncomputable def ZiL : Code := bodyOf Tryd.f21
def Zh4 (r0 : AV) (B : List Row) : Option Res :=
 ob (ob (some r0) fun v => ob (some []) fun vs => some (v :: vs)) fun vs => some ((nrmA (match vs with | [v] => v | vs => mkTup (vs.map shr))), B)
theorem Zi9 (x0 : AV) (B : List Row) : EE 21 [x0] B =
 (let m0 := B.length
 mk (mk (ob (xbin PP .quo 3 (shr x0) (iv 10)) fun a1 =>
 ob (xbin PP .add 3 (iv 48) a1) fun a2 =>
 ob (xcnv PP 3 5 a2) fun a3 =>
 ob (xbin PP .rem 3 (shr x0) (iv 10)) fun a4 =>
 ob (xbin PP .add 3 (iv 48) a4) fun a5 =>
 ob (xcnv PP 3 5 a5) fun a6 =>
 ob (xlit PP 40 2 [(0, a3), (1, a6)]) fun a7 =>
 ob (xcnv PP 40 9 a7) fun a8 =>
 Zh4 (shr a8) B))) := (E_eq PP XX HH _ _ _).trans (by kernel_rfl)
noncomputable def Z9e : Code := bodyOf Tryd.f22
def Zd9 (r0 : AV) (B : List Row) : Option Res :=
 ob (ob (some r0) fun v => ob (some []) fun vs => some (v :: vs)) fun vs => some ((nrmA (match vs with | [v] => v | vs => mkTup (vs.map shr))), B)
noncomputable def Zcq (m0 : Nat) : Kont := kret PP HH 22 Tryd.f22.results
noncomputable def ZhB (m0 : Nat) : Kont := kseq HH 22 m0 (l2 (l2 (l2 Z9e))) (exec PP HH 22 m0 EE LL (l2 (l2 (l2 Z9e))) (Zcq m0)) (Zcq m0)
noncomputable def ZdO (m0 : Nat) : Kont := kblk 0 (ZhB m0)
noncomputable def Zgu (m0 : Nat) : Kont := kloop HH 22 m0 (l1 (l1 (l2 (l1 (l2 (l2 Z9e)))))) (LL 22 m0 (l1 (l1 (l2 (l1 (l2 (l2 Z9e)))))) (ZdO m0)) (ZdO m0)
noncomputable def ZdK (m0 : Nat) (x0 x1 : AV) (B : List Row) : Option Res := exec PP HH 22 m0 EE LL (l2 (l2 Z9e)) (Zcq m0) [(0, x0), (1, x1)] B
noncomputable def ZaC (m0 : Nat) (x1 x12 x13 x14 : AV) (B : List Row) : Option Res := lp (LL 22 m0 (l1 (l1 (l2 (l1 (l2 (l2 Z9e)))))) (ZdO m0) [(1, x1), (12, x12), (13, x13), (14, x14)] B)
noncomputable def ZdE (m0 : Nat) (x1 x12 x13 x14 : AV) (B : List Row) : Option Res := exec PP HH 22 m0 EE LL (l2 (l2 (l1 (l1 (l2 (l1 (l2 (l2 Z9e)))))))) (Zgu m0) [(1, x1), (12, x12), (13, x13), (14, x14)] B
noncomputable def Zdx (m0 : Nat) (B : List Row) : Option Res := exec PP HH 22 m0 EE LL (l2 (l2 (l2 Z9e))) (Zcq m0) [] B
noncomputable def ZdL (m0 : Nat) (x1 x12 x13 x14 : AV) (B : List Row) : Option Res := exec PP HH 22 m0 EE LL (l2 (l2 (l2 (l1 (l1 (l2 (l1 (l2 (l2 Z9e))))))))) (Zgu m0) [(1, x1), (12, x12), (13, x13), (14, x14)] B
theorem Zg6 (m0 : Nat) (x0 x1 : AV) (B : List Row) : ZdK m0 x0 x1 B =
 mk (ob (xlen PP 24 (shr x0)) fun a5 =>
 ZaC m0 x1 (shr x0) a5 (iv 0) (gcB m0 [x1, (shr x0), a5, (iv 0)] B)) := by kernel_rfl
theorem Zg9 (m0 : Nat) (x1 x12 x13 x14 : AV) (B : List Row) : ZaC m0 x1 x12 x13 x14 B =
 mk (ob (xbin PP .lss 3 x14 x13) fun a6 =>
 asB a6 fun t7 => br t7 (ZdE m0 x1 x12 x13 x14 (gcB m0 [x1, x12, x13, x14] B))
 (Zdx m0  (gcB m0 [] B))) := (L_eq PP XX HH _ _ _ _ _ _).trans (by kernel_rfl)
theorem ZfG (m0 : Nat) (x1 x12 x13 x14 : AV) (B : List Row) : ZdE m0 x1 x12 x13 x14 B =
 mk (ob (xidx 2 x12 x14) fun a8 =>
 ob (ldN true 2 a8 B) fun a9 =>
 bz PP 39 B fun a10 B11 =>
 stN 2 a10 a9 B11 fun B12 =>
 mk (ob (ldN true 2 a10 B12) fun a13 =>
 ob (xidx 2 (shr x1) (shr (shr (shr x14)))) fun a14 =>
 ob (ldN true 2 a14 B12) fun a15 =>
 ob (xbin PP .neq 39 a13 a15) fun a16 =>
 asB a16 fun t17 => br t17 (mk (Zd9 (bv false) B12))
 (ZdL m0 x1 x12 x13 x14 (gcB m0 [x1, x12, x13, x14] B12)))) := by kernel_rfl
theorem ZgK (m0 : Nat) (B : List Row) : Zdx m0  B =
 mk (Zd9 (bv true) B) := by kernel_rfl
theorem Zgn (m0 : Nat) (x1 x12 x13 x14 : AV) (B : List Row) : ZdL m0 x1 x12 x13 x14 B =
 mk (ob (xbin PP .add 3 x14 (iv 1)) fun a18 =>
 ZaC m0 x1 x12 x13 (shr a18) (gcB m0 [x1, x12, x13, (shr a18)] B)) := by kernel_rfl
theorem Zhv (x0 x1 : AV) (B : List Row) : EE 22 [x0, x1] B =
 (let m0 := B.length
 mk (mk (ob (xlen PP 24 (shr x0)) fun a1 =>
 ob (xlen PP 24 (shr x1)) fun a2 =>
 ob (xbin PP .neq 3 a1 a2) fun a3 =>
 asB a3 fun t4 => br t4 (mk (Zd9 (bv false) B))
 (ZdK m0 x0 x1 (gcB m0 [x0, x1] B))))) := (E_eq PP XX HH _ _ _).trans (by kernel_rfl)
noncomputable def Zdn : Code := bodyOf Tryd.f27
def ZeD (r0 : AV) (B : List Row) : Option Res :=
 ob (ob (some r0) fun v => ob (some []) fun vs => some (v :: vs)) fun vs => some ((nrmA (match vs with | [v] => v | vs => mkTup (vs.map shr))), B)
noncomputable def ZdN (m0 : Nat) : Kont := kret PP HH 27 Tryd.f27.results
noncomputable def Zie (m0 : Nat) : Kont := kseq HH 27 m0 (l2 (l2 Zdn)) (exec PP HH 27 m0 EE LL (l2 (l2 Zdn)) (ZdN m0)) (ZdN m0)
noncomputable def ZcB (m0 : Nat) (B : List Row) : Option Res := exec PP HH 27 m0 EE LL (l1 (l2 (l1 (l2 Zdn)))) (Zie m0) [] B
noncomputable def Zei (m0 : Nat) (x0 x1 : AV) (B : List Row) : Option Res := exec PP HH 27 m0 EE LL (l2 (l2 Zdn)) (ZdN m0) [(0, x0), (1, x1)] B
theorem Zgp (m0 : Nat) (B : List Row) : ZcB m0  B =
 mk (ZeD (bv false) B) := by kernel_rfl
theorem ZfW (m0 : Nat) (x0 x1 : AV) (B : List Row) : Zei m0 x0 x1 B =
 mk (ob (xnilchk (shr x0)) fun a27 =>
 ob (xfld 1 a27) fun a28 =>
 ob (ldN false 1 a28 B) fun a29 =>
 ob (xlen PP 9 (shr x1)) fun a30 =>
 ob (xbin PP .add 3 a29 a30) fun a31 =>
 ob (xnilchk (shr x0)) fun a32 =>
 ob (xfld 1 a32) fun a33 =>
 stN 1 a33 a31 B fun B34 =>
 mk (ZeD (bv true) B34)) := by kernel_rfl
theorem ZhG (x0 x1 : AV) (B : List Row) : EE 27 [x0, x1] B =
 (let m0 := B.length
 mk (mk (ob (xnilchk (shr x0)) fun a1 =>
 ob (xfld 0 a1) fun a2 =>
 ob (ldN false 1 a2 B) fun a3 =>
 ob (xlen PP 40 a3) fun a4 =>
 ob (xnilchk (shr x0)) fun a5 =>
 ob (xfld 1 a5) fun a6 =>
 ob (ldN false 1 a6 B) fun a7 =>
 ob (xbin PP .sub 3 a4 a7) fun a8 =>
 ob (xlen PP 9 (shr x1)) fun a9 =>
 ob (xbin PP .lss 3 a8 a9) fun a10 =>
 asB (shr a10) fun t11 => br t11 (ZcB m0  (gcB m0 [] B))
 (ob (xnilchk (shr x0)) fun a12 =>
 ob (xfld 0 a12) fun a13 =>
 ob (ldN false 1 a13 B) fun a14 =>
 ob (xnilchk (shr x0)) fun a15 =>
 ob (xfld 1 a15) fun a16 =>
 ob (ldN false 1 a16 B) fun a17 =>
 ob (xnilchk (shr x0)) fun a18 =>
 ob (xfld 1 a18) fun a19 =>
 ob (ldN false 1 a19 B) fun a20 =>
 ob (xlen PP 9 (shr x1)) fun a21 =>
 ob (xbin PP .add 3 a20 a21) fun a22 =>
 ob (xsl 1 a14 (some a17) (some a22) none) fun a23 =>
 ob (xcnv PP 40 9 a23) fun a24 =>
 ob (xbin PP .neq 9 a24 (shr x1)) fun a25 =>
 asB (shr a25) fun t26 => br t26 (ZcB m0  (gcB m0 [] B))
 (Zei m0 x0 x1 (gcB m0 [x0, x1] B)))))) := (E_eq PP XX HH _ _ _).trans (by kernel_rfl)
noncomputable def Zbp : Code := bodyOf Tryd.f28
def Zh0 (r0 : AV) (B : List Row) : Option Res :=
 ob (ob (ldN true 7 r0 B) fun v => ob (some []) fun vs => some (v :: vs)) fun vs => some ((nrmA (match vs with | [v] => v | vs => mkTup (vs.map shr))), B)
noncomputable def Zdu (m0 : Nat) : Kont := kret PP HH 28 Tryd.f28.results
noncomputable def ZhT (m0 : Nat) : Kont := kseq HH 28 m0 (l2 (l2 (l2 Zbp))) (exec PP HH 28 m0 EE LL (l2 (l2 (l2 Zbp))) (Zdu m0)) (Zdu m0)
noncomputable def Zem (m0 : Nat) : Kont := kblk 0 (ZhT m0)
noncomputable def Zi3 (m0 : Nat) : Kont := kloop HH 28 m0 (l1 (l1 (l1 (l2 (l2 Zbp))))) (LL 28 m0 (l1 (l1 (l1 (l2 (l2 Zbp))))) (Zem m0)) (Zem m0)
noncomputable def ZaX (m0 : Nat) (x0 x2 x3 : AV) (B : List Row) : Option Res := lp (LL 28 m0 (l1 (l1 (l1 (l2 (l2 Zbp))))) (Zem m0) [(0, x0), (2, x2), (3, x3)] B)
noncomputable def Zew (m0 : Nat) (x0 x2 x3 : AV) (B : List Row) : Option Res := exec PP HH 28 m0 EE LL (l2 (l1 (l1 (l1 (l2 (l2 Zbp)))))) (Zi3 m0) [(0, x0), (2, x2), (3, x3)] B
noncomputable def Zea (m0 : Nat) (x2 x3 : AV) (B : List Row) : Option Res := exec PP HH 28 m0 EE LL (l2 (l2 (l2 Zbp))) (Zdu m0) [(2, x2), (3, x3)] B
theorem ZfR (m0 : Nat) (x0 x2 x3 : AV) (B : List Row) : ZaX m0 x0 x2 x3 B =
 mk (callS false EE 27 [(shr x0), (.p (.v (.string (ByteArray.mk #[124]))))] B fun a6 B7 =>
 asB a6 fun t8 => br t8 (Zew m0 x0 x2 x3 (gcB m0 [x0, x2, x3] B7))
 (Zea m0 x2 x3 (gcB m0 [x2, x3] B7))) := (L_eq PP XX HH _ _ _ _ _ _).trans (by kernel_rfl)
theorem Zft (m0 : Nat) (x0 x2 x3 : AV) (B : List Row) : Zew m0 x0 x2 x3 B =
 mk (callS false EE 35 [(shr x0)] B fun a9 B10 =>
 ob (xlit PP 25 1 [(0, a9)]) fun a11 =>
 ob (xapp 7 x3 a11) fun a12 =>
 ZaX m0 x0 x2 a12 (gcB m0 [x0, x2, a12] B10)) := by kernel_rfl
theorem Zg1 (m0 : Nat) (x2 x3 : AV) (B : List Row) : Zea m0 x2 x3 B =
 mk (callS false EE 36 [(iv 3), (shr x3)] B fun a13 B14 =>
 stN 7 x2 a13 B14 fun B15 =>
 Zh0 x2 B15) := by kernel_rfl
theorem ZhN (x0 : AV) (B : List Row) : EE 28 [x0] B =
 (let m0 := B.length
 mk (bz PP 27 B fun a1 B2 =>
 mk (callS false EE 35 [(shr x0)] B2 fun a3 B4 =>
 ob (xlit PP 25 1 [(0, a3)]) fun a5 =>
 ZaX m0 x0 a1 a5 (gcB m0 [x0, a1, a5] B4)))) := (E_eq PP XX HH _ _ _).trans (by kernel_rfl)
noncomputable def Ziv : Code := bodyOf Tryd.f29
def Zh2 (B : List Row) : Option Res :=
 ob (some []) fun vs => some ((nrmA (match vs with | [v] => v | vs => mkTup (vs.map shr))), B)
noncomputable def ZhA (m0 : Nat) : Kont := kret PP HH 29 Tryd.f29.results
noncomputable def Zcz (m0 : Nat) (x0 : AV) (B : List Row) : Option Res := exec PP HH 29 m0 EE LL (l2 Ziv) (ZhA m0) [(0, x0)] B
theorem Zgo (m0 : Nat) (x0 : AV) (B : List Row) : Zcz m0 x0 B =
 mk (ob (xnilchk (shr x0)) fun a11 =>
 ob (xfld 0 a11) fun a12 =>
 ob (ldN false 1 a12 B) fun a13 =>
 ob (xlen PP 40 a13) fun a14 =>
 ob (xnilchk (shr x0)) fun a15 =>
 ob (xfld 1 a15) fun a16 =>
 stN 1 a16 a14 B fun B17 =>
 Zh2  B17) := by kernel_rfl
theorem Ziq (x0 x1 x2 : AV) (B : List Row) : EE 29 [x0, x1, x2] B =
 (let m0 := B.length
 mk (ob (xnilchk (shr x0)) fun a1 =>
 ob (xfld 5 a1) fun a2 =>
 ob (xfld 0 a2) fun a3 =>
 ob (ldN false 1 a3 B) fun a4 =>
 ob (xbin PP .eql 30 a4 (iv 0)) fun a5 =>
 asB a5 fun t6 => br t6 (mk (ob (xbuild PP 32 [(0, (shr x1)), (1, (shr x2))]) fun a7 =>
 ob (xnilchk (shr x0)) fun a8 =>
 ob (xfld 5 a8) fun a9 =>
 stN 2 a9 a7 B fun B10 =>
 Zcz m0 x0 (gcB m0 [x0] B10)))
 (Zcz m0 x0 (gcB m0 [x0] B)))) := (E_eq PP XX HH _ _ _).trans (by kernel_rfl)
noncomputable def ZiJ : Code := bodyOf Tryd.f30
def ZgZ (r0 : AV) (B : List Row) : Option Res :=
 ob (ob (some r0) fun v => ob (some []) fun vs => some (v :: vs)) fun vs => some ((nrmA (match vs with | [v] => v | vs => mkTup (vs.map shr))), B)
theorem Zhz (x0 x1 : AV) (B : List Row) : EE 30 [x0, x1] B =
 (let m0 := B.length
 mk (mk (callS false EE 37 [(shr x0), (shr x1)] B fun a1 B2 =>
 ob (xbin PP .geq 3 a1 (iv 0)) fun a3 =>
 ZgZ (shr a3) B2))) := (E_eq PP XX HH _ _ _).trans (by kernel_rfl)
noncomputable def ZiI : Code := bodyOf Tryd.f31
def ZeM (r0 : AV) (B : List Row) : Option Res :=
 ob (ob (some r0) fun v => ob (some []) fun vs => some (v :: vs)) fun vs => some ((nrmA (match vs with | [v] => v | vs => mkTup (vs.map shr))), B)
theorem Zh9 (x0 x1 : AV) (B : List Row) : EE 31 [x0, x1] B =
 (let m0 := B.length
 mk (bx x0 B fun a1 B2 =>
 mk (ob (xfld 0 a1) fun a3 =>
 ob (ldN false 1 a3 B2) fun a4 =>
 ob (ldN false 1 x1 B2) fun a5 =>
 ob (xbin PP .leq 3 a4 a5) fun a6 =>
 asB (shr a6) fun t7 => br t7 (ob (ldN false 1 x1 B2) fun a8 =>
 ob (xfld 1 a1) fun a9 =>
 ob (ldN false 1 a9 B2) fun a10 =>
 ob (xbin PP .leq 3 a8 a10) fun a11 =>
 ZeM (shr (shr a11)) B2)
 (ZeM (bv false) B2)))) := (E_eq PP XX HH _ _ _).trans (by kernel_rfl)
noncomputable def Zab : Code := bodyOf Tryd.f35
def Zh6 (r0 : AV) (B : List Row) : Option Res :=
 ob (ob (ldN true 7 r0 B) fun v => ob (some []) fun vs => some (v :: vs)) fun vs => some ((nrmA (match vs with | [v] => v | vs => mkTup (vs.map shr))), B)
noncomputable def ZdF (m0 : Nat) : Kont := kret PP HH 35 Tryd.f35.results
noncomputable def ZhQ (m0 : Nat) : Kont := kseq HH 35 m0 (l2 (l2 (l2 (l1 (l2 Zab))))) (exec PP HH 35 m0 EE LL (l2 (l2 (l2 (l1 (l2 Zab))))) (ZdF m0)) (ZdF m0)
noncomputable def Zef (m0 : Nat) : Kont := kblk 0 (ZhQ m0)
noncomputable def Zgz (m0 : Nat) : Kont := kloop HH 35 m0 (l1 (l1 (l1 (l2 (l2 (l1 (l2 Zab))))))) (LL 35 m0 (l1 (l1 (l1 (l2 (l2 (l1 (l2 Zab))))))) (Zef m0)) (Zef m0)
noncomputable def Zi5 (m0 : Nat) : Kont := kblk 1 (Zgz m0)
noncomputable def ZaJ (m0 : Nat) (x0 x2 x3 : AV) (B : List Row) : Option Res := lp (LL 35 m0 (l1 (l1 (l1 (l2 (l2 (l1 (l2 Zab))))))) (Zef m0) [(0, x0), (2, x2), (3, x3)] B)
noncomputable def Ze5 (m0 : Nat) (x0 x2 x3 : AV) (B : List Row) : Option Res := exec PP HH 35 m0 EE LL (l2 (l1 (l1 (l1 (l2 (l2 (l1 (l2 Zab)))))))) (Zgz m0) [(0, x0), (2, x2), (3, x3)] B
noncomputable def ZaV (m0 : Nat) (x2 x3 : AV) (B : List Row) : Option Res := exec PP HH 35 m0 EE LL (l2 (l2 (l2 (l1 (l2 Zab))))) (ZdF m0) [(2, x2), (3, x3)] B
noncomputable def ZbL (m0 : Nat) (x0 x2 x3 : AV) (B : List Row) : Option Res := exec PP HH 35 m0 EE LL (l2 (l1 (l2 (l1 (l1 (l1 (l2 (l2 (l1 (l2 Zab)))))))))) (Zi5 m0) [(0, x0), (2, x2), (3, x3)] B
theorem ZgG (m0 : Nat) (x0 x2 x3 : AV) (B : List Row) : ZaJ m0 x0 x2 x3 B =
 mk (ob (xnilchk (shr x0)) fun a3 =>
 ob (xfld 5 a3) fun a4 =>
 ob (xfld 0 a4) fun a5 =>
 ob (ldN false 1 a5 B) fun a6 =>
 ob (xbin PP .eql 30 a6 (iv 0)) fun a7 =>
 asB a7 fun t8 => br t8 (Ze5 m0 x0 x2 x3 (gcB m0 [x0, x2, x3] B))
 (ZaV m0 x2 x3 (gcB m0 [x2, x3] B))) := (L_eq PP XX HH _ _ _ _ _ _).trans (by kernel_rfl)
theorem ZgC (m0 : Nat) (x0 x2 x3 : AV) (B : List Row) : Ze5 m0 x0 x2 x3 B =
 mk (callS false EE 41 [(shr x0)] B fun a9 B10 =>
 mk (ob (xbin PP .eql 3 a9 (iv (-1))) fun a11 =>
 asB (shr a11) fun t12 => br t12 (asB (shr a11) fun t13 => br t13 (ZaV m0 x2 x3 (gcB m0 [x2, x3] B10))
 (ZbL m0 x0 x2 x3 (gcB m0 [x0, x2, x3] B10)))
 (mk (ob (xbin PP .eql 3 a9 (iv 124)) fun a14 =>
 asB (shr a14) fun t15 => br t15 (asB (shr a14) fun t16 => br t16 (ZaV m0 x2 x3 (gcB m0 [x2, x3] B10))
 (ZbL m0 x0 x2 x3 (gcB m0 [x0, x2, x3] B10)))
 (mk (ob (xbin PP .eql 3 a9 (iv 41)) fun a17 =>
 asB (shr a17) fun t18 => br t18 (ZaV m0 x2 x3 (gcB m0 [x2, x3] B10))
 (ZbL m0 x0 x2 x3 (gcB m0 [x0, x2, x3] B10)))))))) := by kernel_rfl
theorem Zgq (m0 : Nat) (x2 x3 : AV) (B : List Row) : ZaV m0 x2 x3 B =
 mk (callS false EE 36 [(iv 2), (shr x3)] B fun a19 B20 =>
 stN 7 x2 a19 B20 fun B21 =>
 Zh6 x2 B21) := by kernel_rfl
theorem Zgl (m0 : Nat) (x0 x2 x3 : AV) (B : List Row) : ZbL m0 x0 x2 x3 B =
 mk (callS false EE 42 [(shr x0)] B fun a22 B23 =>
 ob (xext 0 (shr a22)) fun a24 =>
 ob (xext 1 (shr a22)) fun a25 =>
 bz PP 27 B23 fun a26 B27 =>
 stN 7 a26 (shr a24) B27 fun B28 =>
 mk (ob (ldN true 7 a26 B28) fun a29 =>
 callS false EE 43 [(shr x0), a29, (shr (shr (shr a25)))] B28 fun a30 B31 =>
 ob (xlit PP 25 1 [(0, a30)]) fun a32 =>
 ob (xapp 7 x3 a32) fun a33 =>
 ZaJ m0 x0 x2 a33 (gcB m0 [x0, x2, a33] B31))) := by kernel_rfl
theorem Zi8 (x0 : AV) (B : List Row) : EE 35 [x0] B =
 (let m0 := B.length
 mk (bz PP 27 B fun a1 B2 =>
 mk (ZaJ m0 x0 a1 nilA (gcB m0 [x0, a1, nilA] (gcB m0 [x0, a1, nilA] B2))))) := (E_eq PP XX HH _ _ _).trans (by kernel_rfl)
noncomputable def Ziw : Code := bodyOf Tryd.f36
def ZcX (r0 : AV) (B : List Row) : Option Res :=
 ob (ob (ldN true 7 r0 B) fun v => ob (some []) fun vs => some (v :: vs)) fun vs => some ((nrmA (match vs with | [v] => v | vs => mkTup (vs.map shr))), B)
noncomputable def Zhg (m0 : Nat) : Kont := kret PP HH 36 Tryd.f36.results
noncomputable def Zdw (m0 : Nat) (x0 x1 x4 : AV) (B : List Row) : Option Res := exec PP HH 36 m0 EE LL (l2 (l2 Ziw)) (Zhg m0) [(0, x0), (1, x1), (4, x4)] B
theorem Zgk (m0 : Nat) (x0 x1 x4 : AV) (B : List Row) : Zdw m0 x0 x1 x4 B =
 mk (ob (xbuild PP 27 [(0, (shr x0)), (6, (shr x1))]) fun a13 =>
 stN 7 x4 a13 B fun B14 =>
 ZcX x4 B14) := by kernel_rfl
theorem Zhs (x0 x1 : AV) (B : List Row) : EE 36 [x0, x1] B =
 (let m0 := B.length
 mk (bz PP 27 B fun a1 B2 =>
 mk (ob (xlen PP 25 (shr x1)) fun a3 =>
 mk (ob (xbin PP .eql 3 a3 (iv 0)) fun a4 =>
 asB (shr a4) fun t5 => br t5 (mk (ob (xbuild PP 27 []) fun a6 =>
 stN 7 a1 a6 B2 fun B7 =>
 ZcX a1 B7))
 (mk (ob (xbin PP .eql 3 a3 (iv 1)) fun a8 =>
 asB (shr a8) fun t9 => br t9 (mk (ob (xidx 7 (shr x1) (iv 0)) fun a10 =>
 ob (ldN true 7 a10 B2) fun a11 =>
 stN 7 a1 a11 B2 fun B12 =>
 ZcX a1 B12))
 (Zdw m0 x0 x1 a1 (gcB m0 [x0, x1, a1] B2)))))))) := (E_eq PP XX HH _ _ _).trans (by kernel_rfl)
noncomputable def Zah : Code := bodyOf Tryd.f37
def ZeN (r0 : AV) (B : List Row) : Option Res :=
 ob (ob (some r0) fun v => ob (some []) fun vs => some (v :: vs)) fun vs => some ((nrmA (match vs with | [v] => v | vs => mkTup (vs.map shr))), B)
noncomputable def Zev (m0 : Nat) : Kont := kret PP HH 37 Tryd.f37.results
noncomputable def Zih (m0 : Nat) : Kont := kseq HH 37 m0 (l2 (l2 Zah)) (exec PP HH 37 m0 EE LL (l2 (l2 Zah)) (Zev m0)) (Zev m0)
noncomputable def ZdD (m0 : Nat) : Kont := kblk 0 (Zih m0)
noncomputable def ZgB (m0 : Nat) : Kont := kloop HH 37 m0 (l1 (l1 (l2 (l1 (l2 Zah))))) (LL 37 m0 (l1 (l1 (l2 (l1 (l2 Zah))))) (ZdD m0)) (ZdD m0)
noncomputable def ZaP (m0 : Nat) (x0 x1 x7 x8 : AV) (B : List Row) : Option Res := lp (LL 37 m0 (l1 (l1 (l2 (l1 (l2 Zah))))) (ZdD m0) [(0, x0), (1, x1), (7, x7), (8, x8)] B)
noncomputable def Zdp (m0 : Nat) (x0 x1 x7 x8 : AV) (B : List Row) : Option Res := exec PP HH 37 m0 EE LL (l2 (l2 (l1 (l1 (l2 (l1 (l2 Zah))))))) (ZgB m0) [(0, x0), (1, x1), (7, x7), (8, x8)] B
noncomputable def ZdI (m0 : Nat) (B : List Row) : Option Res := exec PP HH 37 m0 EE LL (l2 (l2 Zah)) (Zev m0) [] B
noncomputable def Zey (m0 : Nat) (x0 x1 x7 x8 : AV) (B : List Row) : Option Res := exec PP HH 37 m0 EE LL (l2 (l2 (l2 (l1 (l1 (l2 (l1 (l2 Zah)))))))) (ZgB m0) [(0, x0), (1, x1), (7, x7), (8, x8)] B
theorem Zgr (m0 : Nat) (x0 x1 x7 x8 : AV) (B : List Row) : ZaP m0 x0 x1 x7 x8 B =
 mk (ob (xbin PP .lss 3 x8 x7) fun a2 =>
 asB a2 fun t3 => br t3 (Zdp m0 x0 x1 x7 x8 (gcB m0 [x0, x1, x7, x8] B))
 (ZdI m0  (gcB m0 [] B))) := (L_eq PP XX HH _ _ _ _ _ _).trans (by kernel_rfl)
theorem Zgf (m0 : Nat) (x0 x1 x7 x8 : AV) (B : List Row) : Zdp m0 x0 x1 x7 x8 B =
 mk (mk (ob (xidx 2 (shr x0) (shr (shr (shr x8)))) fun a4 =>
 ob (ldN true 2 a4 B) fun a5 =>
 callV HH EE (shr x1) [a5] B fun a6 B7 =>
 asB a6 fun t8 => br t8 (mk (ZeN (shr (shr (shr (shr x8)))) B7))
 (Zey m0 x0 x1 x7 x8 (gcB m0 [x0, x1, x7, x8] B7)))) := by kernel_rfl
theorem Zfy (m0 : Nat) (B : List Row) : ZdI m0  B =
 mk (ZeN (iv (-1)) B) := by kernel_rfl
theorem ZgD (m0 : Nat) (x0 x1 x7 x8 : AV) (B : List Row) : Zey m0 x0 x1 x7 x8 B =
 mk (ob (xbin PP .add 3 x8 (iv 1)) fun a9 =>
 ZaP m0 x0 x1 x7 (shr a9) (gcB m0 [x0, x1, x7, (shr a9)] B)) := by kernel_rfl
theorem Zhp (x0 x1 : AV) (B : List Row) : EE 37 [x0, x1] B =
 (let m0 := B.length
 mk (mk (ob (xlen PP 24 (shr x0)) fun a1 =>
 ZaP m0 x0 x1 a1 (iv 0) (gcB m0 [x0, x1, a1, (iv 0)] B)))) := (E_eq PP XX HH _ _ _).trans (by kernel_rfl)
noncomputable def Zix : Code := bodyOf Tryd.f41
def ZeE (r0 : AV) (B : List Row) : Option Res :=
 ob (ob (some r0) fun v => ob (some []) fun vs => some (v :: vs)) fun vs => some ((nrmA (match vs with | [v] => v | vs => mkTup (vs.map shr))), B)
noncomputable def Zii (m0 : Nat) : Kont := kret PP HH 41 Tryd.f41.results
noncomputable def Ze0 (m0 : Nat) (x0 : AV) (B : List Row) : Option Res := exec PP HH 41 m0 EE LL (l2 (l2 Zix)) (Zii m0) [(0, x0)] B
theorem Zfr (m0 : Nat) (x0 : AV) (B : List Row) : Ze0 m0 x0 B =
 mk (ob (xnilchk (shr x0)) fun a10 =>
 ob (xfld 0 a10) fun a11 =>
 ob (ldN false 1 a11 B) fun a12 =>
 ob (xnilchk (shr x0)) fun a13 =>
 ob (xfld 1 a13) fun a14 =>
 ob (ldN false 1 a14 B) fun a15 =>
 callS false EE 45 [a12, a15] B fun a16 B17 =>
 ob (xext 0 (shr a16)) fun a18 =>
 ob (xext 1 (shr a16)) fun a19 =>
 mk (ZeE (shr (shr (shr (shr a18)))) B17)) := by kernel_rfl
theorem Zha (x0 : AV) (B : List Row) : EE 41 [x0] B =
 (let m0 := B.length
 mk (mk (ob (xnilchk (shr x0)) fun a1 =>
 ob (xfld 1 a1) fun a2 =>
 ob (ldN false 1 a2 B) fun a3 =>
 ob (xnilchk (shr x0)) fun a4 =>
 ob (xfld 0 a4) fun a5 =>
 ob (ldN false 1 a5 B) fun a6 =>
 ob (xlen PP 40 a6) fun a7 =>
 ob (xbin PP .geq 3 a3 a7) fun a8 =>
 asB a8 fun t9 => br t9 (mk (ZeE (iv (-1)) B))
 (Ze0 m0 x0 (gcB m0 [x0] B))))) := (E_eq PP XX HH _ _ _).trans (by kernel_rfl)
noncomputable def ZiA : Code := bodyOf Tryd.f42
def Z4F (r0 r1 : AV) (B : List Row) : Option Res :=
 ob (ob (ldN true 7 r0 B) fun v => ob (ob (some r1) fun v => ob (some []) fun vs => some (v :: vs)) fun vs => some (v :: vs)) fun vs => some ((nrmA (match vs with | [v] => v | vs => mkTup (vs.map shr))), B)
noncomputable def Zit (m0 : Nat) : Kont := kret PP HH 42 Tryd.f42.results
noncomputable def Z4W (m0 : Nat) (x2 : AV) (B : List Row) : Option Res := exec PP HH 42 m0 EE LL (l2 (l2 (l2 ZiA))) (Zit m0) [(2, x2)] B
theorem Zfc (m0 : Nat) (x2 : AV) (B : List Row) : Z4W m0 x2 B =
 mk (ob (xbuild PP 27 []) fun a151 =>
 stN 7 x2 a151 B fun B152 =>
 Z4F x2 (bv true) B152) := by kernel_rfl
theorem ZhZ (x0 : AV) (B : List Row) : EE 42 [x0] B =
 (let m0 := B.length
 mk (bz PP 27 B fun a1 B2 =>
 mk (ob (xnilchk (shr x0)) fun a3 =>
 ob (xfld 1 a3) fun a4 =>
 ob (ldN false 1 a4 B2) fun a5 =>
 mk (callS false EE 46 [(shr x0)] B2 fun a6 B7 =>
 mk (mk (ob (xbin PP .eql 3 (shr (shr a6)) (iv 46)) fun a8 =>
 asB (shr a8) fun t9 => br t9 (mk (callS false EE 48 [(iv 10)] B7 fun a10 B11 =>
 ob (xlit PP 23 1 [(0, a10)]) fun a12 =>
 callS false EE 47 [(bv true), a12] B11 fun a13 B14 =>
 stN 7 a1 a13 B14 fun B15 =>
 Z4F a1 (bv true) B15))
 (mk (ob (xbin PP .eql 3 (shr (shr a6)) (iv 94)) fun a16 =>
 asB (shr a16) fun t17 => br t17 (mk (ob (xbuild PP 27 [(0, (iv 9)), (4, (iv 0))]) fun a18 =>
 stN 7 a1 a18 B7 fun B19 =>
 Z4F a1 (bv false) B19))
 (mk (ob (xbin PP .eql 3 (shr (shr a6)) (iv 36)) fun a20 =>
 asB (shr a20) fun t21 => br t21 (mk (ob (xbuild PP 27 [(0, (iv 9)), (4, (iv 1))]) fun a22 =>
 stN 7 a1 a22 B7 fun B23 =>
 Z4F a1 (bv false) B23))
 (mk (ob (xbin PP .eql 3 (shr (shr a6)) (iv 92)) fun a24 =>
 asB (shr a24) fun t25 => br t25 (mk (callS false EE 49 [(shr x0), (shr (shr a5))] B7 fun a26 B27 =>
 bz PP 27 B27 fun a28 B29 =>
 stN 7 a28 a26 B29 fun B30 =>
 mk (ob (ldN true 7 a28 B30) fun a31 =>
 ob (xfld 0 a28) fun a32 =>
 ob (ldN false 1 a32 B30) fun a33 =>
 ob (xbin PP .neq 3 a33 (iv 9)) fun a34 =>
 stN 7 a1 a31 B30 fun B35 =>
 grd (ptrNe a32 a1) (Z4F a1 (shr a34) B35))))
 (mk (ob (xbin PP .eql 3 (shr (shr a6)) (iv 91)) fun a36 =>
 asB (shr a36) fun t37 => br t37 (mk (callS false EE 50 [(shr x0), (shr (shr a5))] B7 fun a38 B39 =>
 stN 7 a1 a38 B39 fun B40 =>
 Z4F a1 (bv true) B40))
 (mk (ob (xbin PP .eql 3 (shr (shr a6)) (iv 40)) fun a41 =>
 asB (shr a41) fun t42 => br t42 (mk (callS false EE 51 [(shr x0), (shr (shr a5))] B7 fun a43 B44 =>
 ob (xext 0 a43) fun a45 =>
 ob (xext 1 a43) fun a46 =>
 stN 7 a1 (shr a45) B44 fun B47 =>
 Z4F a1 (shr (shr a46)) B47))
 (mk (ob (xbin PP .eql 3 (shr (shr a6)) (iv 42)) fun a48 =>
 asB (shr a48) fun t49 => br t49 (asB (shr a48) fun t50 => br t50 (mk (callS false EE 29 [(shr x0), (iv 23), (shr (shr a5))] B7 fun a51 B52 =>
 Z4W m0 a1 (gcB m0 [a1] B52)))
 (mk (ob (xbin PP .eql 3 (shr (shr a6)) (iv 93)) fun a53 =>
 asB (shr a53) fun t54 => br t54 (asB (shr a53) fun t55 => br t55 (mk (callS false EE 29 [(shr x0), (iv 20), (shr (shr a5))] B7 fun a56 B57 =>
 Z4W m0 a1 (gcB m0 [a1] B57)))
 (mk (callS false EE 48 [(shr (shr a6))] B7 fun a58 B59 =>
 ob (xlit PP 23 1 [(0, a58)]) fun a60 =>
 callS false EE 47 [(bv false), a60] B59 fun a61 B62 =>
 stN 7 a1 a61 B62 fun B63 =>
 Z4F a1 (bv true) B63)))
 (mk (ob (xbin PP .eql 3 (shr (shr a6)) (iv 125)) fun a64 =>
 asB (shr a64) fun t65 => br t65 (mk (callS false EE 29 [(shr x0), (iv 20), (shr (shr a5))] B7 fun a66 B67 =>
 Z4W m0 a1 (gcB m0 [a1] B67)))
 (mk (callS false EE 48 [(shr (shr a6))] B7 fun a68 B69 =>
 ob (xlit PP 23 1 [(0, a68)]) fun a70 =>
 callS false EE 47 [(bv false), a70] B69 fun a71 B72 =>
 stN 7 a1 a71 B72 fun B73 =>
 Z4F a1 (bv true) B73)))))))
 (mk (ob (xbin PP .eql 3 (shr (shr a6)) (iv 43)) fun a74 =>
 asB (shr a74) fun t75 => br t75 (asB (shr a74) fun t76 => br t76 (mk (callS false EE 29 [(shr x0), (iv 23), (shr (shr a5))] B7 fun a77 B78 =>
 Z4W m0 a1 (gcB m0 [a1] B78)))
 (mk (ob (xbin PP .eql 3 (shr (shr a6)) (iv 93)) fun a79 =>
 asB (shr a79) fun t80 => br t80 (asB (shr a79) fun t81 => br t81 (mk (callS false EE 29 [(shr x0), (iv 20), (shr (shr a5))] B7 fun a82 B83 =>
 Z4W m0 a1 (gcB m0 [a1] B83)))
 (mk (callS false EE 48 [(shr (shr a6))] B7 fun a84 B85 =>
 ob (xlit PP 23 1 [(0, a84)]) fun a86 =>
 callS false EE 47 [(bv false), a86] B85 fun a87 B88 =>
 stN 7 a1 a87 B88 fun B89 =>
 Z4F a1 (bv true) B89)))
 (mk (ob (xbin PP .eql 3 (shr (shr a6)) (iv 125)) fun a90 =>
 asB (shr a90) fun t91 => br t91 (mk (callS false EE 29 [(shr x0), (iv 20), (shr (shr a5))] B7 fun a92 B93 =>
 Z4W m0 a1 (gcB m0 [a1] B93)))
 (mk (callS false EE 48 [(shr (shr a6))] B7 fun a94 B95 =>
 ob (xlit PP 23 1 [(0, a94)]) fun a96 =>
 callS false EE 47 [(bv false), a96] B95 fun a97 B98 =>
 stN 7 a1 a97 B98 fun B99 =>
 Z4F a1 (bv true) B99)))))))
 (mk (ob (xbin PP .eql 3 (shr (shr a6)) (iv 63)) fun a100 =>
 asB (shr a100) fun t101 => br t101 (asB (shr a100) fun t102 => br t102 (mk (callS false EE 29 [(shr x0), (iv 23), (shr (shr a5))] B7 fun a103 B104 =>
 Z4W m0 a1 (gcB m0 [a1] B104)))
 (mk (ob (xbin PP .eql 3 (shr (shr a6)) (iv 93)) fun a105 =>
 asB (shr a105) fun t106 => br t106 (asB (shr a105) fun t107 => br t107 (mk (callS false EE 29 [(shr x0), (iv 20), (shr (shr a5))] B7 fun a108 B109 =>
 Z4W m0 a1 (gcB m0 [a1] B109)))
 (mk (callS false EE 48 [(shr (shr a6))] B7 fun a110 B111 =>
 ob (xlit PP 23 1 [(0, a110)]) fun a112 =>
 callS false EE 47 [(bv false), a112] B111 fun a113 B114 =>
 stN 7 a1 a113 B114 fun B115 =>
 Z4F a1 (bv true) B115)))
 (mk (ob (xbin PP .eql 3 (shr (shr a6)) (iv 125)) fun a116 =>
 asB (shr a116) fun t117 => br t117 (mk (callS false EE 29 [(shr x0), (iv 20), (shr (shr a5))] B7 fun a118 B119 =>
 Z4W m0 a1 (gcB m0 [a1] B119)))
 (mk (callS false EE 48 [(shr (shr a6))] B7 fun a120 B121 =>
 ob (xlit PP 23 1 [(0, a120)]) fun a122 =>
 callS false EE 47 [(bv false), a122] B121 fun a123 B124 =>
 stN 7 a1 a123 B124 fun B125 =>
 Z4F a1 (bv true) B125)))))))
 (mk (ob (xbin PP .eql 3 (shr (shr a6)) (iv 123)) fun a126 =>
 asB (shr a126) fun t127 => br t127 (mk (callS false EE 29 [(shr x0), (iv 23), (shr (shr a5))] B7 fun a128 B129 =>
 Z4W m0 a1 (gcB m0 [a1] B129)))
 (mk (ob (xbin PP .eql 3 (shr (shr a6)) (iv 93)) fun a130 =>
 asB (shr a130) fun t131 => br t131 (asB (shr a130) fun t132 => br t132 (mk (callS false EE 29 [(shr x0), (iv 20), (shr (shr a5))] B7 fun a133 B134 =>
 Z4W m0 a1 (gcB m0 [a1] B134)))
 (mk (callS false EE 48 [(shr (shr a6))] B7 fun a135 B136 =>
 ob (xlit PP 23 1 [(0, a135)]) fun a137 =>
 callS false EE 47 [(bv false), a137] B136 fun a138 B139 =>
 stN 7 a1 a138 B139 fun B140 =>
 Z4F a1 (bv true) B140)))
 (mk (ob (xbin PP .eql 3 (shr (shr a6)) (iv 125)) fun a141 =>
 asB (shr a141) fun t142 => br t142 (mk (callS false EE 29 [(shr x0), (iv 20), (shr (shr a5))] B7 fun a143 B144 =>
 Z4W m0 a1 (gcB m0 [a1] B144)))
 (mk (callS false EE 48 [(shr (shr a6))] B7 fun a145 B146 =>
 ob (xlit PP 23 1 [(0, a145)]) fun a147 =>
 callS false EE 47 [(bv false), a147] B146 fun a148 B149 =>
 stN 7 a1 a148 B149 fun B150 =>
 Z4F a1 (bv true) B150)))))))))))))))))))))))))))))) := (E_eq PP XX HH _ _ _).trans (by kernel_rfl)
noncomputable def ZeS : Code := bodyOf Tryd.f43
def ZeL (r0 : AV) (B : List Row) : Option Res :=
 ob (ob (ldN true 7 r0 B) fun v => ob (some []) fun vs => some (v :: vs)) fun vs => some ((nrmA (match vs with | [v] => v | vs => mkTup (vs.map shr))), B)
noncomputable def Ze2 (m0 : Nat) : Kont := kret PP HH 43 Tryd.f43.results
noncomputable def Z9C (m0 : Nat) (x0 x2 x6 x7 x8 : AV) (B : List Row) : Option Res := exec PP HH 43 m0 EE LL (l2 (l2 (l2 (l2 ZeS)))) (Ze2 m0) [(0, x0), (2, x2), (6, x6), (7, x7), (8, x8)] B
noncomputable def ZbY (m0 : Nat) (x0 x6 x8 : AV) (B : List Row) : Option Res := exec PP HH 43 m0 EE LL (l2 (l2 (l2 (l2 (l2 ZeS))))) (Ze2 m0) [(0, x0), (6, x6), (8, x8)] B
noncomputable def ZaI (m0 : Nat) (x6 x8 : AV) (B : List Row) : Option Res := exec PP HH 43 m0 EE LL (l2 (l2 (l2 (l2 (l2 (l2 ZeS)))))) (Ze2 m0) [(6, x6), (8, x8)] B
theorem ZeP (m0 : Nat) (x0 x2 x6 x7 x8 : AV) (B : List Row) : Z9C m0 x0 x2 x6 x7 x8 B =
 mk (ob (xun PP .not (shr x2)) fun a40 =>
 asB a40 fun t41 => br t41 (mk (callS false EE 29 [(shr x0), (iv 23), (shr x7)] B fun a42 B43 =>
 ZbY m0 x0 x6 x8 (gcB m0 [x0, x6, x8] B43)))
 (ZbY m0 x0 x6 x8 (gcB m0 [x0, x6, x8] B))) := by kernel_rfl
theorem ZeR (m0 : Nat) (x0 x6 x8 : AV) (B : List Row) : ZbY m0 x0 x6 x8 B =
 mk (callS false EE 27 [(shr x0), (.p (.v (.string (ByteArray.mk #[63]))))] B fun a44 B45 =>
 asB (shr a44) fun t46 => br t46 (mk (ob (xfld 3 x8) fun a47 =>
 stN 1 a47 (iv 1) B45 fun B48 =>
 ZaI m0 x6 x8 (gcB m0 [x6, x8] B48)))
 (mk (callS false EE 27 [(shr x0), (.p (.v (.string (ByteArray.mk #[43]))))] B45 fun a49 B50 =>
 asB (shr a49) fun t51 => br t51 (mk (ob (xfld 3 x8) fun a52 =>
 stN 1 a52 (iv 2) B50 fun B53 =>
 ZaI m0 x6 x8 (gcB m0 [x6, x8] B53)))
 (ZaI m0 x6 x8 (gcB m0 [x6, x8] B50))))) := by kernel_rfl
theorem ZeX (m0 : Nat) (x6 x8 : AV) (B : List Row) : ZaI m0 x6 x8 B =
 mk (ob (ldN true 7 x8 B) fun a54 =>
 stN 7 x6 a54 B fun B55 =>
 ZeL x6 B55) := by kernel_rfl
theorem Zhb (x0 x1 x2 : AV) (B : List Row) : EE 43 [x0, x1, x2] B =
 (let m0 := B.length
 mk (bx x1 B fun a1 B2 =>
 bz PP 27 B2 fun a3 B4 =>
 mk (ob (xnilchk (shr x0)) fun a5 =>
 ob (xfld 1 a5) fun a6 =>
 ob (ldN false 1 a6 B4) fun a7 =>
 mk (ob (ldN true 7 a1 B4) fun a8 =>
 ob (xlit PP 25 1 [(0, a8)]) fun a9 =>
 ob (xbuild PP 27 [(0, (iv 4)), (2, (iv (-1))), (6, a9)]) fun a10 =>
 bz PP 27 B4 fun a11 B12 =>
 stN 7 a11 a10 B12 fun B13 =>
 mk (callS false EE 27 [(shr x0), (.p (.v (.string (ByteArray.mk #[42]))))] B13 fun a14 B15 =>
 asB (shr a14) fun t16 => br t16 (Z9C m0 x0 x2 a3 (shr a7) a11 (gcB m0 [x0, x2, a3, (shr a7), a11] B15))
 (mk (callS false EE 27 [(shr x0), (.p (.v (.string (ByteArray.mk #[43]))))] B15 fun a17 B18 =>
 asB (shr a17) fun t19 => br t19 (mk (ob (xfld 1 a11) fun a20 =>
 stN 1 a20 (iv 1) B18 fun B21 =>
 Z9C m0 x0 x2 a3 (shr a7) a11 (gcB m0 [x0, x2, a3, (shr a7), a11] B21)))
 (mk (callS false EE 27 [(shr x0), (.p (.v (.string (ByteArray.mk #[63]))))] B18 fun a22 B23 =>
 asB (shr a22) fun t24 => br t24 (mk (ob (xfld 2 a11) fun a25 =>
 stN 1 a25 (iv 1) B23 fun B26 =>
 Z9C m0 x0 x2 a3 (shr a7) a11 (gcB m0 [x0, x2, a3, (shr a7), a11] B26)))
 (mk (callS false EE 27 [(shr x0), (.p (.v (.string (ByteArray.mk #[123]))))] B23 fun a27 B28 =>
 asB (shr a27) fun t29 => br t29 (mk (callS false EE 52 [(shr x0), (shr (shr a7))] B28 fun a30 B31 =>
 ob (xext 0 (shr a30)) fun a32 =>
 ob (xext 1 (shr a30)) fun a33 =>
 ob (xfld 1 a11) fun a34 =>
 stN 1 a34 (shr a32) B31 fun B35 =>
 ob (xfld 2 a11) fun a36 =>
 stN 1 a36 (shr a33) B35 fun B37 =>
 Z9C m0 x0 x2 a3 (shr a7) a11 (gcB m0 [x0, x2, a3, (shr a7), a11] B37)))
 (mk (ob (ldN true 7 a1 B28) fun a38 =>
 stN 7 a3 a38 B28 fun B39 =>
 ZeL a3 B39))))))))))))) := (E_eq PP XX HH _ _ _).trans (by kernel_rfl)
noncomputable def Zad : Code := bodyOf Tryd.f45
def Zd6 (r0 r1 : AV) (B : List Row) : Option Res :=
 ob (ob (some r0) fun v => ob (ob (some r1) fun v => ob (some []) fun vs => some (v :: vs)) fun vs => some (v :: vs)) fun vs => some ((nrmA (match vs with | [v] => v | vs => mkTup (vs.map shr))), B)
noncomputable def Zb4 (m0 : Nat) : Kont := kret PP HH 45 Tryd.f45.results
noncomputable def ZhX (m0 : Nat) : Kont := kseq HH 45 m0 (l2 (l2 Zad)) (exec PP HH 45 m0 EE LL (l2 (l2 Zad)) (Zb4 m0)) (Zb4 m0)
noncomputable def Zic (m0 : Nat) : Kont := kseq HH 45 m0 (l2 (l2 (l2 (l2 Zad)))) (exec PP HH 45 m0 EE LL (l2 (l2 (l2 (l2 Zad)))) (Zb4 m0)) (Zb4 m0)
noncomputable def ZcK (m0 : Nat) (B : List Row) : Option Res := exec PP HH 45 m0 EE LL (l1 (l2 (l1 (l2 Zad)))) (ZhX m0) [] B
noncomputable def ZdV (m0 : Nat) (x0 x1 : AV) (B : List Row) : Option Res := exec PP HH 45 m0 EE LL (l2 (l2 Zad)) (Zb4 m0) [(0, x0), (1, x1)] B
noncomputable def ZdS (m0 : Nat) (x0 x1 : AV) (B : List Row) : Option Res := exec PP HH 45 m0 EE LL (l1 (l2 (l1 (l2 (l2 (l2 Zad)))))) (Zic m0) [(0, x0), (1, x1)] B
noncomputable def ZcL (m0 : Nat) (x6 x7 : AV) (B : List Row) : Option Res := exec PP HH 45 m0 EE LL (l2 (l2 (l2 (l2 Zad)))) (Zb4 m0) [(6, x6), (7, x7)] B
theorem ZgI (m0 : Nat) (B : List Row) : ZcK m0  B =
 mk (Zd6 (iv 0) (iv 0) B) := by kernel_rfl
theorem Zgi (m0 : Nat) (x0 x1 : AV) (B : List Row) : ZdV m0 x0 x1 B =
 mk (ob (xsl 1 (shr x0) (some (shr x1)) none none) fun a6 =>
 callS false EE 53 [a6] B fun a7 B8 =>
 ob (xext 0 (shr a7)) fun a9 =>
 ob (xext 1 (shr a7)) fun a10 =>
 mk (ob (xbin PP .eql 21 (shr (shr (shr a9))) (kv .i32 65533)) fun a11 =>
 asB (shr a11) fun t12 => br t12 (ob (xbin PP .eql 3 (shr (shr (shr a10))) (iv 1)) fun a13 =>
 asB (shr a13) fun t14 => br t14 (ZdS m0 x0 x1 (gcB m0 [x0, x1] B8))
 (ZcL m0 (shr (shr a9)) (shr (shr a10)) (gcB m0 [(shr (shr a9)), (shr (shr a10))] B8)))
 (ZcL m0 (shr (shr a9)) (shr (shr a10)) (gcB m0 [(shr (shr a9)), (shr (shr a10))] B8)))) := by kernel_rfl
theorem ZfM (m0 : Nat) (x0 x1 : AV) (B : List Row) : ZdS m0 x0 x1 B =
 mk (ob (xidx 1 (shr x0) (shr x1)) fun a15 =>
 ob (ldN false 1 a15 B) fun a16 =>
 ob (xcnv PP 5 3 a16) fun a17 =>
 ob (xbin PP .add 3 (iv 1114112) a17) fun a18 =>
 Zd6 (shr a18) (iv 1) B) := by kernel_rfl
theorem Zg5 (m0 : Nat) (x6 x7 : AV) (B : List Row) : ZcL m0 x6 x7 B =
 mk (ob (xcnv PP 21 3 (shr x6)) fun a19 =>
 Zd6 (shr a19) (shr (shr x7)) B) := by kernel_rfl
theorem ZhI (x0 x1 : AV) (B : List Row) : EE 45 [x0, x1] B =
 (let m0 := B.length
 mk (mk (ob (xbin PP .lss 3 (shr x1) (iv 0)) fun a1 =>
 asB (shr a1) fun t2 => br t2 (ZcK m0  (gcB m0 [] B))
 (ob (xlen PP 40 (shr x0)) fun a3 =>
 ob (xbin PP .geq 3 (shr x1) a3) fun a4 =>
 asB (shr a4) fun t5 => br t5 (ZcK m0  (gcB m0 [] B))
 (ZdV m0 x0 x1 (gcB m0 [x0, x1] B)))))) := (E_eq PP XX HH _ _ _).trans (by kernel_rfl)
noncomputable def ZiG : Code := bodyOf Tryd.f46
def ZgS (r0 : AV) (B : List Row) : Option Res :=
 ob (ob (some r0) fun v => ob (some []) fun vs => some (v :: vs)) fun vs => some ((nrmA (match vs with | [v] => v | vs => mkTup (vs.map shr))), B)
theorem Zir (x0 : AV) (B : List Row) : EE 46 [x0] B =
 (let m0 := B.length
 mk (mk (ob (xnilchk (shr x0)) fun a1 =>
 ob (xfld 0 a1) fun a2 =>
 ob (ldN false 1 a2 B) fun a3 =>
 ob (xnilchk (shr x0)) fun a4 =>
 ob (xfld 1 a4) fun a5 =>
 ob (ldN false 1 a5 B) fun a6 =>
 callS false EE 45 [a3, a6] B fun a7 B8 =>
 ob (xext 0 (shr a7)) fun a9 =>
 ob (xext 1 (shr a7)) fun a10 =>
 mk (ob (xnilchk (shr x0)) fun a11 =>
 ob (xfld 1 a11) fun a12 =>
 ob (ldN false 1 a12 B8) fun a13 =>
 ob (xbin PP .add 3 a13 (shr (shr (shr a10)))) fun a14 =>
 ob (xnilchk (shr x0)) fun a15 =>
 ob (xfld 1 a15) fun a16 =>
 stN 1 a16 a14 B8 fun B17 =>
 mk (ZgS (shr (shr (shr (shr a9)))) B17))))) := (E_eq PP XX HH _ _ _).trans (by kernel_rfl)
noncomputable def ZiD : Code := bodyOf Tryd.f47
def ZgW (r0 : AV) (B : List Row) : Option Res :=
 ob (ob (ldN true 7 r0 B) fun v => ob (some []) fun vs => some (v :: vs)) fun vs => some ((nrmA (match vs with | [v] => v | vs => mkTup (vs.map shr))), B)
noncomputable def Zij (m0 : Nat) : Kont := kret PP HH 47 Tryd.f47.results
noncomputable def Zcn (m0 : Nat) (x4 x5 : AV) (B : List Row) : Option Res := exec PP HH 47 m0 EE LL (l2 (l2 (l2 ZiD))) (Zij m0) [(4, x4), (5, x5)] B
theorem ZgE (m0 : Nat) (x4 x5 : AV) (B : List Row) : Zcn m0 x4 x5 B =
 mk (ob (xbuild PP 27 [(0, (iv 1)), (5, (shr x5))]) fun a12 =>
 stN 7 x4 a12 B fun B13 =>
 ZgW x4 B13) := by kernel_rfl
theorem ZhS (x0 x1 : AV) (B : List Row) : EE 47 [x0, x1] B =
 (let m0 := B.length
 mk (bz PP 27 B fun a1 B2 =>
 mk (callS false EE 54 [(shr x1)] B2 fun a3 B4 =>
 ob (xext 0 (shr a3)) fun a5 =>
 ob (xext 1 (shr a3)) fun a6 =>
 mk (asB (shr x0) fun t7 => br t7 (mk (callS false EE 55 [(shr (shr (shr a5)))] B4 fun a8 B9 =>
 ob (xext 0 (shr a8)) fun a10 =>
 ob (xext 1 (shr a8)) fun a11 =>
 Zcn m0 a1 (shr (shr a10)) (gcB m0 [a1, (shr (shr a10))] B9)))
 (Zcn m0 a1 (shr (shr a5)) (gcB m0 [a1, (shr (shr a5))] B4)))))) := (E_eq PP XX HH _ _ _).trans (by kernel_rfl)
noncomputable def ZiM : Code := bodyOf Tryd.f48
def ZgX (r0 : AV) (B : List Row) : Option Res :=
 ob (ob (ldN true 2 r0 B) fun v => ob (some []) fun vs => some (v :: vs)) fun vs => some ((nrmA (match vs with | [v] => v | vs => mkTup (vs.map shr))), B)
theorem Zig (x0 : AV) (B : List Row) : EE 48 [x0] B =
 (let m0 := B.length
 mk (bz PP 39 B fun a1 B2 =>
 mk (ob (xbuild PP 39 [(0, (shr x0)), (1, (shr x0))]) fun a3 =>
 stN 2 a1 a3 B2 fun B4 =>
 ZgX a1 B4))) := (E_eq PP XX HH _ _ _).trans (by kernel_rfl)
noncomputable def ZcH : Code := bodyOf Tryd.f49
def Z9z (r0 : AV) (B : List Row) : Option Res :=
 ob (ob (ldN true 7 r0 B) fun v => ob (some []) fun vs => some (v :: vs)) fun vs => some ((nrmA (match vs with | [v] => v | vs => mkTup (vs.map shr))), B)
noncomputable def Zcw (m0 : Nat) : Kont := kret PP HH 49 Tryd.f49.results
noncomputable def Zio (m0 : Nat) : Kont := kseq HH 49 m0 (l2 (l2 (l2 (l2 (l2 ZcH))))) (exec PP HH 49 m0 EE LL (l2 (l2 (l2 (l2 (l2 ZcH))))) (Zcw m0)) (Zcw m0)
noncomputable def ZhL (m0 : Nat) : Kont := kblk 0 (Zio m0)
noncomputable def ZdR (m0 : Nat) (x0 x1 x4 x5 : AV) (B : List Row) : Option Res := exec PP HH 49 m0 EE LL (l2 (l2 (l2 ZcH))) (Zcw m0) [(0, x0), (1, x1), (4, x4), (5, x5)] B
noncomputable def Zda (m0 : Nat) (x0 x1 x4 x5 : AV) (B : List Row) : Option Res := exec PP HH 49 m0 EE LL (l1 (l2 (l2 (l2 (l2 (l2 (l2 (l2 (l1 (l1 (l2 (l2 (l2 (l2 ZcH)))))))))))))) (ZhL m0) [(0, x0), (1, x1), (4, x4), (5, x5)] B
noncomputable def ZbT (m0 : Nat) (x0 x1 x4 x5 : AV) (B : List Row) : Option Res := exec PP HH 49 m0 EE LL (l2 (l2 (l2 (l2 (l2 ZcH))))) (Zcw m0) [(0, x0), (1, x1), (4, x4), (5, x5)] B
theorem Zg7 (m0 : Nat) (x0 x1 x4 x5 : AV) (B : List Row) : ZdR m0 x0 x1 x4 x5 B =
 mk (callS false EE 46 [(shr x0)] B fun a11 B12 =>
 mk (callS true EE 56 [(shr x5)] B12 fun a13 B14 =>
 ob (xnil PP .neq 23 (.slice none 0 0) a13) fun a15 =>
 asB (shr a15) fun t16 => br t16 (mk (ob (xbin PP .lss 3 (shr x5) (iv 97)) fun a17 =>
 callS true EE 56 [(shr x5)] B14 fun a18 B19 =>
 callS false EE 47 [a17, a18] B19 fun a20 B21 =>
 stN 7 x4 a20 B21 fun B22 =>
 Z9z x4 B22))
 (mk (ob (xbin PP .eql 3 (shr x5) (iv 98)) fun a23 =>
 asB (shr a23) fun t24 => br t24 (mk (ob (xbuild PP 27 [(0, (iv 9)), (4, (iv 2))]) fun a25 =>
 stN 7 x4 a25 B14 fun B26 =>
 Z9z x4 B26))
 (mk (ob (xbin PP .eql 3 (shr x5) (iv 66)) fun a27 =>
 asB (shr a27) fun t28 => br t28 (mk (ob (xbuild PP 27 [(0, (iv 9)), (4, (iv 3))]) fun a29 =>
 stN 7 x4 a29 B14 fun B30 =>
 Z9z x4 B30))
 (mk (ob (xbin PP .geq 3 (shr x5) (iv 49)) fun a31 =>
 asB (shr a31) fun t32 => br t32 (ob (xbin PP .leq 3 (shr x5) (iv 57)) fun a33 =>
 asB (shr (shr a33)) fun t34 => br t34 (Zda m0 x0 x1 x4 x5 (gcB m0 [x0, x1, x4, x5] B14))
 (ZbT m0 x0 x1 x4 x5 (gcB m0 [x0, x1, x4, x5] B14)))
 (ZbT m0 x0 x1 x4 x5 (gcB m0 [x0, x1, x4, x5] B14)))))))))) := by kernel_rfl
theorem Zfm (m0 : Nat) (x0 x1 x4 x5 : AV) (B : List Row) : Zda m0 x0 x1 x4 x5 B =
 mk (ob (xnilchk (shr x0)) fun a35 =>
 ob (xfld 4 a35) fun a36 =>
 ldOwn a36 B fun a37 B38 =>
 ob (xbin PP .sub 3 (shr x5) (iv 48)) fun a39 =>
 ob (xbuild PP 62 [(0, a39), (1, (shr x1))]) fun a40 =>
 ob (xlit PP 56 1 [(0, a40)]) fun a41 =>
 ob (xapp 2 a37 a41) fun a42 =>
 ob (xnilchk (shr x0)) fun a43 =>
 ob (xfld 4 a43) fun a44 =>
 stN 1 a44 a42 B38 fun B45 =>
 mk (ob (xbin PP .sub 3 (shr x5) (iv 48)) fun a46 =>
 ob (xbuild PP 27 [(0, (iv 6)), (4, a46)]) fun a47 =>
 stN 7 x4 a47 B45 fun B48 =>
 Z9z x4 B48)) := by kernel_rfl
theorem Zfa (m0 : Nat) (x0 x1 x4 x5 : AV) (B : List Row) : ZbT m0 x0 x1 x4 x5 B =
 mk (callS false EE 57 [(shr x0), (shr x5), (shr x1)] B fun a49 B50 =>
 callS false EE 48 [a49] B50 fun a51 B52 =>
 ob (xlit PP 23 1 [(0, a51)]) fun a53 =>
 callS false EE 47 [(bv false), a53] B52 fun a54 B55 =>
 stN 7 x4 a54 B55 fun B56 =>
 Z9z x4 B56) := by kernel_rfl
theorem Zh7 (x0 x1 : AV) (B : List Row) : EE 49 [x0, x1] B =
 (let m0 := B.length
 mk (bz PP 27 B fun a1 B2 =>
 mk (callS false EE 41 [(shr x0)] B2 fun a3 B4 =>
 mk (ob (xbin PP .lss 3 (shr (shr a3)) (iv 0)) fun a5 =>
 asB a5 fun t6 => br t6 (mk (callS false EE 29 [(shr x0), (iv 21), (shr x1)] B4 fun a7 B8 =>
 mk (ob (xbuild PP 27 []) fun a9 =>
 stN 7 a1 a9 B8 fun B10 =>
 Z9z a1 B10)))
 (ZdR m0 x0 x1 a1 (shr a3) (gcB m0 [x0, x1, a1, (shr a3)] B4)))))) := (E_eq PP XX HH _ _ _).trans (by kernel_rfl)
noncomputable def Z46 : Code := bodyOf Tryd.f50
def ZeH (r0 : AV) (B : List Row) : Option Res :=
 ob (ob (ldN true 7 r0 B) fun v => ob (some []) fun vs => some (v :: vs)) fun vs => some ((nrmA (match vs with | [v] => v | vs => mkTup (vs.map shr))), B)
noncomputable def ZdW (m0 : Nat) : Kont := kret PP HH 50 Tryd.f50.results
noncomputable def Zhe (m0 : Nat) : Kont := kseq HH 50 m0 (l2 (l2 (l2 (l2 (l2 (l2 Z46)))))) (exec PP HH 50 m0 EE LL (l2 (l2 (l2 (l2 (l2 (l2 Z46)))))) (ZdW m0)) (ZdW m0)
noncomputable def Zeu (m0 : Nat) : Kont := kblk 0 (Zhe m0)
noncomputable def ZcO (m0 : Nat) : Kont := kloop HH 50 m0 (l1 (l1 (l1 (l2 (l2 (l2 (l2 (l2 Z46)))))))) (LL 50 m0 (l1 (l1 (l1 (l2 (l2 (l2 (l2 (l2 Z46)))))))) (Zeu m0)) (Zeu m0)
noncomputable def Zhx (m0 : Nat) : Kont := kseq HH 50 m0 (l2 (l2 (l1 (l1 (l1 (l2 (l2 (l2 (l2 (l2 Z46)))))))))) (exec PP HH 50 m0 EE LL (l2 (l2 (l1 (l1 (l1 (l2 (l2 (l2 (l2 (l2 Z46)))))))))) (ZcO m0)) (ZcO m0)
noncomputable def Z9O (m0 : Nat) : Kont := kblk 1 (Zhx m0)
noncomputable def ZhY (m0 : Nat) : Kont := kseq HH 50 m0 (l2 (l2 (l1 (l1 (l2 (l1 (l1 (l1 (l2 (l2 (l2 (l2 (l2 Z46))))))))))))) (exec PP HH 50 m0 EE LL (l2 (l2 (l1 (l1 (l2 (l1 (l1 (l1 (l2 (l2 (l2 (l2 (l2 Z46))))))))))))) (Z9O m0)) (Z9O m0)
noncomputable def ZfK (m0 : Nat) : Kont := kblk 2 (ZhY m0)
noncomputable def Zcm (m0 : Nat) : Kont := kseq HH 50 m0 (l2 (l2 (l2 (l2 (l2 (l2 (l1 (l1 (l2 (l1 (l1 (l1 (l2 (l2 (l2 (l2 (l2 Z46))))))))))))))))) (exec PP HH 50 m0 EE LL (l2 (l2 (l2 (l2 (l2 (l2 (l1 (l1 (l2 (l1 (l1 (l1 (l2 (l2 (l2 (l2 (l2 Z46))))))))))))))))) (Z9O m0)) (Z9O m0)
noncomputable def Zi4 (m0 : Nat) : Kont := kseq HH 50 m0 (l2 (l1 (l2 (l1 (l2 (l2 (l2 (l2 (l2 (l1 (l1 (l2 (l1 (l1 (l1 (l2 (l2 (l2 (l2 (l2 Z46)))))))))))))))))))) (exec PP HH 50 m0 EE LL (l2 (l1 (l2 (l1 (l2 (l2 (l2 (l2 (l2 (l1 (l1 (l2 (l1 (l1 (l1 (l2 (l2 (l2 (l2 (l2 Z46)))))))))))))))))))) (Zcm m0)) (Zcm m0)
noncomputable def ZaR (m0 : Nat) (x0 x1 x4 x5 x6 x7 x8 : AV) (B : List Row) : Option Res := lp (LL 50 m0 (l1 (l1 (l1 (l2 (l2 (l2 (l2 (l2 Z46)))))))) (Zeu m0) [(0, x0), (1, x1), (4, x4), (5, x5), (6, x6), (7, x7), (8, x8)] B)
noncomputable def Zdr (m0 : Nat) (x0 x1 x4 x5 x6 x7 x8 : AV) (B : List Row) : Option Res := exec PP HH 50 m0 EE LL (l2 (l1 (l1 (l1 (l2 (l2 (l2 (l2 (l2 Z46))))))))) (ZcO m0) [(0, x0), (1, x1), (4, x4), (5, x5), (6, x6), (7, x7), (8, x8)] B
noncomputable def ZcU (m0 : Nat) (x4 : AV) (B : List Row) : Option Res := exec PP HH 50 m0 EE LL (l2 (l2 (l2 (l2 (l2 (l2 Z46)))))) (ZdW m0) [(4, x4)] B
noncomputable def Z6P (m0 : Nat) (x0 x1 x4 x5 x6 x7 x8 : AV) (B : List Row) : Option Res := exec PP HH 50 m0 EE LL (l2 (l2 (l1 (l1 (l1 (l2 (l2 (l2 (l2 (l2 Z46)))))))))) (ZcO m0) [(0, x0), (1, x1), (4, x4), (5, x5), (6, x6), (7, x7), (8, x8)] B
noncomputable def ZcQ (m0 : Nat) (x0 x4 x5 x6 : AV) (B : List Row) : Option Res := exec PP HH 50 m0 EE LL (l2 (l1 (l2 (l2 (l2 (l1 (l2 (l2 (l1 (l2 (l1 (l1 (l2 (l1 (l1 (l1 (l2 (l2 (l2 (l2 (l2 Z46))))))))))))))))))))) (ZfK m0) [(0, x0), (4, x4), (5, x5), (6, x6)] B
noncomputable def ZbP (m0 : Nat) (x0 x1 x4 x5 x6 x7 x8 x9 : AV) (B : List Row) : Option Res := exec PP HH 50 m0 EE LL (l2 (l2 (l1 (l1 (l2 (l1 (l1 (l1 (l2 (l2 (l2 (l2 (l2 Z46))))))))))))) (Z9O m0) [(0, x0), (1, x1), (4, x4), (5, x5), (6, x6), (7, x7), (8, x8), (9, x9)] B
noncomputable def ZbR (m0 : Nat) (x4 x6 : AV) (B : List Row) : Option Res := exec PP HH 50 m0 EE LL (l2 (l2 (l2 (l1 (l2 (l2 (l2 (l1 (l2 (l2 (l1 (l2 (l1 (l1 (l2 (l1 (l1 (l1 (l2 (l2 (l2 (l2 (l2 Z46))))))))))))))))))))))) (ZfK m0) [(4, x4), (6, x6)] B
noncomputable def ZcP (m0 : Nat) (x0 x1 x4 x5 x6 x7 x8 x9 x11 : AV) (B : List Row) : Option Res := exec PP HH 50 m0 EE LL (l2 (l2 (l2 (l2 (l1 (l1 (l2 (l1 (l1 (l1 (l2 (l2 (l2 (l2 (l2 Z46))))))))))))))) (Z9O m0) [(0, x0), (1, x1), (4, x4), (5, x5), (6, x6), (7, x7), (8, x8), (9, x9), (11, x11)] B
noncomputable def Z9y (m0 : Nat) (x0 x1 x4 x5 x6 x7 x8 x9 : AV) (B : List Row) : Option Res := exec PP HH 50 m0 EE LL (l1 (l2 (l2 (l1 (l1 (l2 (l1 (l2 (l2 (l2 (l2 (l2 (l1 (l1 (l2 (l1 (l1 (l1 (l2 (l2 (l2 (l2 (l2 Z46))))))))))))))))))))))) (Zi4 m0) [(0, x0), (1, x1), (4, x4), (5, x5), (6, x6), (7, x7), (8, x8), (9, x9)] B
noncomputable def ZcY (m0 : Nat) (x0 x1 x4 x5 x6 x7 x8 x9 x11 : AV) (B : List Row) : Option Res := exec PP HH 50 m0 EE LL (l2 (l1 (l2 (l1 (l2 (l2 (l2 (l2 (l2 (l1 (l1 (l2 (l1 (l1 (l1 (l2 (l2 (l2 (l2 (l2 Z46)))))))))))))))))))) (Zcm m0) [(0, x0), (1, x1), (4, x4), (5, x5), (6, x6), (7, x7), (8, x8), (9, x9), (11, x11)] B
noncomputable def Z9x (m0 : Nat) (x0 x1 x4 x5 x6 x7 x8 x11 x15 : AV) (B : List Row) : Option Res := exec PP HH 50 m0 EE LL (l2 (l2 (l2 (l2 (l2 (l2 (l1 (l1 (l2 (l1 (l1 (l1 (l2 (l2 (l2 (l2 (l2 Z46))))))))))))))))) (Z9O m0) [(0, x0), (1, x1), (4, x4), (5, x5), (6, x6), (7, x7), (8, x8), (11, x11), (15, x15)] B
noncomputable def Zc0 (m0 : Nat) (x0 x1 x4 x5 x6 x7 x8 x9 x11 x15 : AV) (B : List Row) : Option Res := exec PP HH 50 m0 EE LL (l1 (l2 (l2 (l2 (l1 (l2 (l1 (l2 (l2 (l2 (l2 (l2 (l1 (l1 (l2 (l1 (l1 (l1 (l2 (l2 (l2 (l2 (l2 Z46))))))))))))))))))))))) (Zcm m0) [(0, x0), (1, x1), (4, x4), (5, x5), (6, x6), (7, x7), (8, x8), (9, x9), (11, x11), (15, x15)] B
theorem Zgg (m0 : Nat) (x0 x1 x4 x5 x6 x7 x8 : AV) (B : List Row) : ZaR m0 x0 x1 x4 x5 x6 x7 x8 B =
 mk (ob (xnilchk (shr x0)) fun a7 =>
 ob (xfld 5 a7) fun a8 =>
 ob (xfld 0 a8) fun a9 =>
 ob (ldN false 1 a9 B) fun a10 =>
 ob (xbin PP .eql 30 a10 (iv 0)) fun a11 =>
 asB a11 fun t12 => br t12 (Zdr m0 x0 x1 x4 x5 x6 x7 x8 (gcB m0 [x0, x1, x4, x5, x6, x7, x8] B))
 (ZcU m0 x4 (gcB m0 [x4] B))) := (L_eq PP XX HH _ _ _ _ _ _).trans (by kernel_rfl)
theorem ZfQ (m0 : Nat) (x0 x1 x4 x5 x6 x7 x8 : AV) (B : List Row) : Zdr m0 x0 x1 x4 x5 x6 x7 x8 B =
 mk (ob (xnilchk (shr x0)) fun a13 =>
 ob (xfld 1 a13) fun a14 =>
 ob (ldN false 1 a14 B) fun a15 =>
 mk (callS false EE 41 [(shr x0)] B fun a16 B17 =>
 mk (mk (ob (xbin PP .eql 3 (shr (shr a16)) (iv (-1))) fun a18 =>
 asB (shr a18) fun t19 => br t19 (mk (callS false EE 29 [(shr x0), (iv 22), (shr x1)] B17 fun a20 B21 =>
 Z6P m0 x0 x1 x4 x5 x6 x7 x8 (gcB m0 [x0, x1, x4, x5, x6, x7, x8] B21)))
 (mk (ob (xbin PP .eql 3 (shr (shr a16)) (iv 93)) fun a22 =>
 asB (shr a22) fun t23 => br t23 (mk (ob (xbin PP .eql 3 (shr x8) (iv 0)) fun a24 =>
 asB a24 fun t25 => br t25 (mk (callS false EE 29 [(shr x0), (iv 22), (shr x1)] B17 fun a26 B27 =>
 Z6P m0 x0 x1 x4 x5 x6 x7 x8 (gcB m0 [x0, x1, x4, x5, x6, x7, x8] B27)))
 (ZcQ m0 x0 x4 x5 x6 (gcB m0 [x0, x4, x5, x6] B17))))
 (mk (ob (xbin PP .eql 3 (shr (shr a16)) (iv 91)) fun a28 =>
 asB (shr a28) fun t29 => br t29 (asB (shr a28) fun t30 => br t30 (mk (callS false EE 29 [(shr x0), (iv 22), (shr (shr a15))] B17 fun a31 B32 =>
 Z6P m0 x0 x1 x4 x5 x6 x7 x8 (gcB m0 [x0, x1, x4, x5, x6, x7, x8] B32)))
 (ZbP m0 x0 x1 x4 x5 x6 x7 x8 (shr a15) (gcB m0 [x0, x1, x4, x5, x6, x7, x8, (shr a15)] B17)))
 (mk (ob (xbin PP .eql 3 (shr (shr a16)) (iv 45)) fun a33 =>
 asB (shr a33) fun t34 => br t34 (mk (callS false EE 29 [(shr x0), (iv 22), (shr (shr a15))] B17 fun a35 B36 =>
 Z6P m0 x0 x1 x4 x5 x6 x7 x8 (gcB m0 [x0, x1, x4, x5, x6, x7, x8] B36)))
 (ZbP m0 x0 x1 x4 x5 x6 x7 x8 (shr a15) (gcB m0 [x0, x1, x4, x5, x6, x7, x8, (shr a15)] B17)))))))))))) := by kernel_rfl
theorem ZeW (m0 : Nat) (x4 : AV) (B : List Row) : ZcU m0 x4 B =
 mk (ob (xbuild PP 27 []) fun a37 =>
 stN 7 x4 a37 B fun B38 =>
 ZeH x4 B38) := by kernel_rfl
theorem ZgH (m0 : Nat) (x0 x1 x4 x5 x6 x7 x8 : AV) (B : List Row) : Z6P m0 x0 x1 x4 x5 x6 x7 x8 B =
 mk (ob (xbin PP .add 3 (shr x8) (iv 1)) fun a39 =>
 ZaR m0 x0 x1 x4 x5 x6 x7 (shr a39) (gcB m0 [x0, x1, x4, x5, x6, x7, (shr a39)] B)) := by kernel_rfl
theorem Zf6 (m0 : Nat) (x0 x4 x5 x6 : AV) (B : List Row) : ZcQ m0 x0 x4 x5 x6 B =
 mk (callS false EE 46 [(shr x0)] B fun a40 B41 =>
 mk (asB (shr x5) fun t42 => br t42 (mk (ob (ldN false 1 x6 B41) fun a43 =>
 callS false EE 55 [a43] B41 fun a44 B45 =>
 ob (xext 0 (shr a44)) fun a46 =>
 ob (xext 1 (shr a44)) fun a47 =>
 stN 1 x6 (shr a46) B45 fun B48 =>
 ZbR m0 x4 x6 (gcB m0 [x4, x6] B48)))
 (ZbR m0 x4 x6 (gcB m0 [x4, x6] B41)))) := by kernel_rfl
theorem ZeU (m0 : Nat) (x0 x1 x4 x5 x6 x7 x8 x9 : AV) (B : List Row) : ZbP m0 x0 x1 x4 x5 x6 x7 x8 x9 B =
 mk (callS true EE 60 [(shr x0)] B fun a49 B50 =>
 ob (xext 0 (shr a49)) fun a51 =>
 ob (xext 1 (shr a49)) fun a52 =>
 ob (xext 2 (shr a49)) fun a53 =>
 mk (ob (xnil PP .neq 23 (.slice none 0 0) (shr (shr (shr a52)))) fun a54 =>
 asB a54 fun t55 => br t55 (mk (callS false EE 47 [(shr (shr (shr a53))), (shr (shr (shr a52)))] B50 fun a56 B57 =>
 bz PP 27 B57 fun a58 B59 =>
 stN 7 a58 a56 B59 fun B60 =>
 mk (ob (xfld 5 a58) fun a61 =>
 ob (ldN false 1 a61 B60) fun a62 =>
 callV HH EE (shr x7) [a62] B60 fun a63 B64 =>
 mk (callS false EE 41 [(shr x0)] B64 fun a65 B66 =>
 ob (xbin PP .eql 3 a65 (iv 45)) fun a67 =>
 asB a67 fun t68 => br t68 (mk (ob (xnilchk (shr x0)) fun a69 =>
 ob (xfld 1 a69) fun a70 =>
 ob (ldN false 1 a70 B66) fun a71 =>
 callS false EE 29 [(shr x0), (iv 22), a71] B66 fun a72 B73 =>
 Z6P m0 x0 x1 x4 x5 x6 x7 x8 (gcB m0 [x0, x1, x4, x5, x6, x7, x8] B73)))
 (Z6P m0 x0 x1 x4 x5 x6 x7 x8 (gcB m0 [x0, x1, x4, x5, x6, x7, x8] B66))))))
 (ZcP m0 x0 x1 x4 x5 x6 x7 x8 x9 (shr (shr a51)) (gcB m0 [x0, x1, x4, x5, x6, x7, x8, x9, (shr (shr a51))] B50)))) := by kernel_rfl
theorem ZeV (m0 : Nat) (x4 x6 : AV) (B : List Row) : ZbR m0 x4 x6 B =
 mk (ob (ldN false 1 x6 B) fun a74 =>
 ob (xbuild PP 27 [(0, (iv 1)), (5, a74)]) fun a75 =>
 stN 7 x4 a75 B fun B76 =>
 ZeH x4 B76) := by kernel_rfl
theorem Zfi (m0 : Nat) (x0 x1 x4 x5 x6 x7 x8 x9 x11 : AV) (B : List Row) : ZcP m0 x0 x1 x4 x5 x6 x7 x8 x9 x11 B =
 mk (mk (callS false EE 27 [(shr x0), (.p (.v (.string (ByteArray.mk #[45]))))] B fun a77 B78 =>
 asB a77 fun t79 => br t79 (mk (callS false EE 41 [(shr x0)] B78 fun a80 B81 =>
 mk (ob (xbin PP .eql 3 (shr (shr a80)) (iv 93)) fun a82 =>
 asB (shr a82) fun t83 => br t83 (Z9y m0 x0 x1 x4 x5 x6 x7 x8 x9 (gcB m0 [x0, x1, x4, x5, x6, x7, x8, x9] B81))
 (ob (xbin PP .eql 3 (shr (shr a80)) (iv 91)) fun a84 =>
 asB (shr (shr a84)) fun t85 => br t85 (Z9y m0 x0 x1 x4 x5 x6 x7 x8 x9 (gcB m0 [x0, x1, x4, x5, x6, x7, x8, x9] B81))
 (ob (xbin PP .eql 3 (shr (shr a80)) (iv 45)) fun a86 =>
 asB (shr (shr a86)) fun t87 => br t87 (Z9y m0 x0 x1 x4 x5 x6 x7 x8 x9 (gcB m0 [x0, x1, x4, x5, x6, x7, x8, x9] B81))
 (ob (xbin PP .lss 3 (shr (shr a80)) (iv 0)) fun a88 =>
 asB (shr a88) fun t89 => br t89 (Z9y m0 x0 x1 x4 x5 x6 x7 x8 x9 (gcB m0 [x0, x1, x4, x5, x6, x7, x8, x9] B81))
 (ZcY m0 x0 x1 x4 x5 x6 x7 x8 x9 x11 (gcB m0 [x0, x1, x4, x5, x6, x7, x8, x9, x11] B81))))))))
 (Z9x m0 x0 x1 x4 x5 x6 x7 x8 x11 (shr (shr x11)) (gcB m0 [x0, x1, x4, x5, x6, x7, x8, x11, (shr (shr x11))] B78)))) := by kernel_rfl
theorem ZeO (m0 : Nat) (x0 x1 x4 x5 x6 x7 x8 x9 : AV) (B : List Row) : Z9y m0 x0 x1 x4 x5 x6 x7 x8 x9 B =
 mk (callS false EE 29 [(shr x0), (iv 22), (shr x9)] B fun a90 B91 =>
 Z6P m0 x0 x1 x4 x5 x6 x7 x8 (gcB m0 [x0, x1, x4, x5, x6, x7, x8] B91)) := by kernel_rfl
theorem Zfj (m0 : Nat) (x0 x1 x4 x5 x6 x7 x8 x9 x11 : AV) (B : List Row) : ZcY m0 x0 x1 x4 x5 x6 x7 x8 x9 x11 B =
 mk (callS true EE 60 [(shr x0)] B fun a92 B93 =>
 ob (xext 0 (shr a92)) fun a94 =>
 ob (xext 1 (shr a92)) fun a95 =>
 ob (xext 2 (shr a92)) fun a96 =>
 mk (ob (xnilchk (shr x0)) fun a97 =>
 ob (xfld 5 a97) fun a98 =>
 ob (xfld 0 a98) fun a99 =>
 ob (ldN false 1 a99 B93) fun a100 =>
 ob (xbin PP .eql 30 a100 (iv 0)) fun a101 =>
 asB (shr a101) fun t102 => br t102 (ob (xnil PP .neq 23 (.slice none 0 0) (shr (shr (shr a95)))) fun a103 =>
 asB (shr a103) fun t104 => br t104 (Zc0 m0 x0 x1 x4 x5 x6 x7 x8 x9 x11 (shr (shr a94)) (gcB m0 [x0, x1, x4, x5, x6, x7, x8, x9, x11, (shr (shr a94))] B93))
 (ob (xbin PP .lss 3 (shr (shr (shr a94))) (shr x11)) fun a105 =>
 asB (shr (shr a105)) fun t106 => br t106 (Zc0 m0 x0 x1 x4 x5 x6 x7 x8 x9 x11 (shr (shr a94)) (gcB m0 [x0, x1, x4, x5, x6, x7, x8, x9, x11, (shr (shr a94))] B93))
 (Z9x m0 x0 x1 x4 x5 x6 x7 x8 x11 (shr (shr a94)) (gcB m0 [x0, x1, x4, x5, x6, x7, x8, x11, (shr (shr a94))] B93))))
 (Z9x m0 x0 x1 x4 x5 x6 x7 x8 x11 (shr (shr a94)) (gcB m0 [x0, x1, x4, x5, x6, x7, x8, x11, (shr (shr a94))] B93)))) := by kernel_rfl
theorem Zff (m0 : Nat) (x0 x1 x4 x5 x6 x7 x8 x11 x15 : AV) (B : List Row) : Z9x m0 x0 x1 x4 x5 x6 x7 x8 x11 x15 B =
 mk (ob (xnilchk (shr x0)) fun a107 =>
 ob (xfld 5 a107) fun a108 =>
 ob (xfld 0 a108) fun a109 =>
 ob (ldN false 1 a109 B) fun a110 =>
 ob (xbin PP .eql 30 a110 (iv 0)) fun a111 =>
 asB a111 fun t112 => br t112 (mk (ob (xbuild PP 39 [(0, (shr x11)), (1, (shr x15))]) fun a113 =>
 ob (xlit PP 24 1 [(0, a113)]) fun a114 =>
 callV HH EE (shr x7) [a114] B fun a115 B116 =>
 Z6P m0 x0 x1 x4 x5 x6 x7 x8 (gcB m0 [x0, x1, x4, x5, x6, x7, x8] B116)))
 (Z6P m0 x0 x1 x4 x5 x6 x7 x8 (gcB m0 [x0, x1, x4, x5, x6, x7, x8] B))) := by kernel_rfl
theorem Zfb (m0 : Nat) (x0 x1 x4 x5 x6 x7 x8 x9 x11 x15 : AV) (B : List Row) : Zc0 m0 x0 x1 x4 x5 x6 x7 x8 x9 x11 x15 B =
 mk (callS false EE 29 [(shr x0), (iv 22), (shr x9)] B fun a117 B118 =>
 Z9x m0 x0 x1 x4 x5 x6 x7 x8 x11 x15 (gcB m0 [x0, x1, x4, x5, x6, x7, x8, x11, x15] B118)) := by kernel_rfl
theorem Zh8 (x0 x1 : AV) (B : List Row) : EE 50 [x0, x1] B =
 (let m0 := B.length
 mk (bz PP 27 B fun a1 B2 =>
 mk (callS false EE 27 [(shr x0), (.p (.v (.string (ByteArray.mk #[94]))))] B2 fun a3 B4 =>
 mk (bz PP 24 B4 fun a5 B6 =>
 mk (mk (ZaR m0 x0 x1 a1 (shr a3) a5 (shr (.clo 58 ([].map nrmA) ([a5].map nrmA))) (iv 0) (gcB m0 [x0, x1, a1, (shr a3), a5, (shr (.clo 58 ([].map nrmA) ([a5].map nrmA))), (iv 0)] B6))))))) := (E_eq PP XX HH _ _ _).trans (by kernel_rfl)
noncomputable def Zbl : Code := bodyOf Tryd.f51
def Zd7 (r0 r1 : AV) (B : List Row) : Option Res :=
 ob (ob (ldN true 7 r0 B) fun v => ob (ob (some r1) fun v => ob (some []) fun vs => some (v :: vs)) fun vs => some (v :: vs)) fun vs => some ((nrmA (match vs with | [v] => v | vs => mkTup (vs.map shr))), B)
noncomputable def ZaN (m0 : Nat) : Kont := kret PP HH 51 Tryd.f51.results
noncomputable def ZhP (m0 : Nat) : Kont := kseq HH 51 m0 (l2 (l2 (l2 (l2 (l2 (l2 Zbl)))))) (exec PP HH 51 m0 EE LL (l2 (l2 (l2 (l2 (l2 (l2 Zbl)))))) (ZaN m0)) (ZaN m0)
noncomputable def Ze7 (m0 : Nat) (x0 x1 x4 : AV) (B : List Row) : Option Res := exec PP HH 51 m0 EE LL (l2 (l2 Zbl)) (ZaN m0) [(0, x0), (1, x1), (4, x4)] B
noncomputable def Z7V (m0 : Nat) (x0 x1 x4 : AV) (B : List Row) : Option Res := exec PP HH 51 m0 EE LL (l2 (l2 (l2 (l2 Zbl)))) (ZaN m0) [(0, x0), (1, x1), (4, x4)] B
noncomputable def Zd2 (m0 : Nat) (x0 x1 x4 x7 : AV) (B : List Row) : Option Res := exec PP HH 51 m0 EE LL (l1 (l2 (l1 (l2 (l2 (l2 (l2 (l2 Zbl)))))))) (ZhP m0) [(0, x0), (1, x1), (4, x4), (7, x7)] B
noncomputable def ZaD (m0 : Nat) (x0 x4 x7 : AV) (B : List Row) : Option Res := exec PP HH 51 m0 EE LL (l2 (l2 (l2 (l2 (l2 (l2 Zbl)))))) (ZaN m0) [(0, x0), (4, x4), (7, x7)] B
noncomputable def ZcZ (m0 : Nat) (x4 x7 : AV) (B : List Row) : Option Res := exec PP HH 51 m0 EE LL (l2 (l2 (l2 (l2 (l2 (l2 (l2 (l2 Zbl)))))))) (ZaN m0) [(4, x4), (7, x7)] B
theorem ZfD (m0 : Nat) (x0 x1 x4 : AV) (B : List Row) : Ze7 m0 x0 x1 x4 B =
 mk (ob (xnilchk (shr x0)) fun a12 =>
 ob (xfld 3 a12) fun a13 =>
 ob (ldN false 1 a13 B) fun a14 =>
 ob (xbin PP .add 3 a14 (iv 1)) fun a15 =>
 ob (xnilchk (shr x0)) fun a16 =>
 ob (xfld 3 a16) fun a17 =>
 stN 1 a17 a15 B fun B18 =>
 mk (callS false EE 62 [] B18 fun a19 B20 =>
 callS false EE 61 [a19, (.clo 27 ([(shr x0)].map nrmA) ([].map nrmA))] B20 fun a21 B22 =>
 mk (ob (xbin PP .geq 3 (shr (shr a21)) (iv 0)) fun a23 =>
 asB (shr a23) fun t24 => br t24 (mk (ob (xbuild PP 27 [(0, (iv 7)), (3, (shr (shr a21)))]) fun a25 =>
 stN 7 x4 a25 B22 fun B26 =>
 Z7V m0 x0 x1 x4 (gcB m0 [x0, x1, x4] B26)))
 (mk (callS false EE 27 [(shr x0), (.p (.v (.string (ByteArray.mk #[63, 62]))))] B22 fun a27 B28 =>
 asB (shr a27) fun t29 => br t29 (mk (ob (xbuild PP 27 [(0, (iv 8))]) fun a30 =>
 stN 7 x4 a30 B28 fun B31 =>
 Z7V m0 x0 x1 x4 (gcB m0 [x0, x1, x4] B31)))
 (mk (callS false EE 27 [(shr x0), (.p (.v (.string (ByteArray.mk #[63, 58]))))] B28 fun a32 B33 =>
 asB (shr a32) fun t34 => br t34 (Z7V m0 x0 x1 x4 (gcB m0 [x0, x1, x4] B33))
 (mk (callS false EE 41 [(shr x0)] B33 fun a35 B36 =>
 ob (xbin PP .eql 3 a35 (iv 63)) fun a37 =>
 asB (shr a37) fun t38 => br t38 (mk (callS false EE 29 [(shr x0), (iv 20), (shr x1)] B36 fun a39 B40 =>
 Z7V m0 x0 x1 x4 (gcB m0 [x0, x1, x4] B40)))
 (mk (ob (xnilchk (shr x0)) fun a41 =>
 ob (xfld 2 a41) fun a42 =>
 ob (ldN false 1 a42 B36) fun a43 =>
 ob (xbin PP .eql 3 a43 (iv 9)) fun a44 =>
 asB (shr a44) fun t45 => br t45 (mk (callS false EE 29 [(shr x0), (iv 24), (shr x1)] B36 fun a46 B47 =>
 Z7V m0 x0 x1 x4 (gcB m0 [x0, x1, x4] B47)))
 (mk (ob (xnilchk (shr x0)) fun a48 =>
 ob (xfld 2 a48) fun a49 =>
 ob (ldN false 1 a49 B36) fun a50 =>
 ob (xbin PP .add 3 a50 (iv 1)) fun a51 =>
 ob (xnilchk (shr x0)) fun a52 =>
 ob (xfld 2 a52) fun a53 =>
 stN 1 a53 a51 B36 fun B54 =>
 mk (ob (xnilchk (shr x0)) fun a55 =>
 ob (xfld 2 a55) fun a56 =>
 ob (ldN false 1 a56 B54) fun a57 =>
 ob (xbuild PP 27 [(0, (iv 5)), (4, a57)]) fun a58 =>
 stN 7 x4 a58 B54 fun B59 =>
 Z7V m0 x0 x1 x4 (gcB m0 [x0, x1, x4] B59))))))))))))))) := by kernel_rfl
theorem ZeQ (m0 : Nat) (x0 x1 x4 : AV) (B : List Row) : Z7V m0 x0 x1 x4 B =
 mk (callS false EE 28 [(shr x0)] B fun a60 B61 =>
 bz PP 27 B61 fun a62 B63 =>
 stN 7 a62 a60 B63 fun B64 =>
 mk (ob (xnilchk (shr x0)) fun a65 =>
 ob (xfld 5 a65) fun a66 =>
 ob (xfld 0 a66) fun a67 =>
 ob (ldN false 1 a67 B64) fun a68 =>
 ob (xbin PP .eql 30 a68 (iv 0)) fun a69 =>
 asB (shr a69) fun t70 => br t70 (callS false EE 27 [(shr x0), (.p (.v (.string (ByteArray.mk #[41]))))] B64 fun a71 B72 =>
 ob (xun PP .not a71) fun a73 =>
 asB (shr a73) fun t74 => br t74 (Zd2 m0 x0 x1 x4 a62 (gcB m0 [x0, x1, x4, a62] B72))
 (ZaD m0 x0 x4 a62 (gcB m0 [x0, x4, a62] B72)))
 (ZaD m0 x0 x4 a62 (gcB m0 [x0, x4, a62] B64)))) := by kernel_rfl
theorem ZeY (m0 : Nat) (x0 x1 x4 x7 : AV) (B : List Row) : Zd2 m0 x0 x1 x4 x7 B =
 mk (callS false EE 29 [(shr x0), (iv 20), (shr x1)] B fun a75 B76 =>
 ZaD m0 x0 x4 x7 (gcB m0 [x0, x4, x7] B76)) := by kernel_rfl
theorem Zfn (m0 : Nat) (x0 x4 x7 : AV) (B : List Row) : ZaD m0 x0 x4 x7 B =
 mk (ob (xnilchk (shr x0)) fun a77 =>
 ob (xfld 3 a77) fun a78 =>
 ob (ldN false 1 a78 B) fun a79 =>
 ob (xbin PP .sub 3 a79 (iv 1)) fun a80 =>
 ob (xnilchk (shr x0)) fun a81 =>
 ob (xfld 3 a81) fun a82 =>
 stN 1 a82 a80 B fun B83 =>
 mk (ob (xfld 0 x4) fun a84 =>
 ob (ldN false 1 a84 B83) fun a85 =>
 ob (xbin PP .eql 3 a85 (iv 0)) fun a86 =>
 asB a86 fun t87 => br t87 (mk (ob (ldN true 7 x7 B83) fun a88 =>
 stN 7 x4 a88 B83 fun B89 =>
 Zd7 x4 (bv true) B89))
 (ZcZ m0 x4 x7 (gcB m0 [x4, x7] B83)))) := by kernel_rfl
theorem Zf0 (m0 : Nat) (x4 x7 : AV) (B : List Row) : ZcZ m0 x4 x7 B =
 mk (ob (ldN true 7 x7 B) fun a90 =>
 ob (xlit PP 25 1 [(0, a90)]) fun a91 =>
 ob (xfld 6 x4) fun a92 =>
 stN 1 a92 a91 B fun B93 =>
 mk (ob (ldN true 7 x4 B93) fun a94 =>
 ob (xfld 0 x4) fun a95 =>
 ob (ldN false 1 a95 B93) fun a96 =>
 ob (xbin PP .neq 3 a96 (iv 7)) fun a97 =>
 stN 7 x4 a94 B93 fun B98 =>
 Zd7 x4 (shr a97) B98)) := by kernel_rfl
theorem ZhV (x0 x1 : AV) (B : List Row) : EE 51 [x0, x1] B =
 (let m0 := B.length
 mk (bz PP 27 B fun a1 B2 =>
 mk (ob (xnilchk (shr x0)) fun a3 =>
 ob (xfld 3 a3) fun a4 =>
 ob (ldN false 1 a4 B2) fun a5 =>
 ob (xbin PP .eql 3 a5 (iv 32)) fun a6 =>
 asB a6 fun t7 => br t7 (mk (callS false EE 29 [(shr x0), (iv 25), (shr x1)] B2 fun a8 B9 =>
 mk (ob (xbuild PP 27 []) fun a10 =>
 stN 7 a1 a10 B9 fun B11 =>
 Zd7 a1 (bv true) B11)))
 (Ze7 m0 x0 x1 a1 (gcB m0 [x0, x1, a1] B2))))) := (E_eq PP XX HH _ _ _).trans (by kernel_rfl)
noncomputable def Z7A : Code := bodyOf Tryd.f52
def ZeI (r0 r1 : AV) (B : List Row) : Option Res :=
 ob (ob (some r0) fun v => ob (ob (some r1) fun v => ob (some []) fun vs => some (v :: vs)) fun vs => some (v :: vs)) fun vs => some ((nrmA (match vs with | [v] => v | vs => mkTup (vs.map shr))), B)
noncomputable def Zb7 (m0 : Nat) : Kont := kret PP HH 52 Tryd.f52.results
noncomputable def Zcr (m0 : Nat) : Kont := kseq HH 52 m0 (l2 (l2 (l2 (l2 Z7A)))) (exec PP HH 52 m0 EE LL (l2 (l2 (l2 (l2 Z7A)))) (Zb7 m0)) (Zb7 m0)
noncomputable def Zhw (m0 : Nat) : Kont := kseq HH 52 m0 (l2 (l1 (l2 (l2 (l1 (l2 (l1 (l2 (l2 (l2 Z7A)))))))))) (exec PP HH 52 m0 EE LL (l2 (l1 (l2 (l2 (l1 (l2 (l1 (l2 (l2 (l2 Z7A)))))))))) (Zcr m0)) (Zcr m0)
noncomputable def ZhK (m0 : Nat) : Kont := kseq HH 52 m0 (l2 (l2 (l2 (l2 (l2 Z7A))))) (exec PP HH 52 m0 EE LL (l2 (l2 (l2 (l2 (l2 Z7A))))) (Zb7 m0)) (Zb7 m0)
noncomputable def Zeg (m0 : Nat) (x0 x1 x4 : AV) (B : List Row) : Option Res := exec PP HH 52 m0 EE LL (l1 (l2 (l2 (l1 (l2 (l1 (l2 (l2 (l2 Z7A))))))))) (Zcr m0) [(0, x0), (1, x1), (4, x4)] B
noncomputable def ZaK (m0 : Nat) (x0 x1 x4 x5 : AV) (B : List Row) : Option Res := exec PP HH 52 m0 EE LL (l2 (l2 (l2 (l2 Z7A)))) (Zb7 m0) [(0, x0), (1, x1), (4, x4), (5, x5)] B
noncomputable def Zds (m0 : Nat) (x4 : AV) (B : List Row) : Option Res := exec PP HH 52 m0 EE LL (l1 (l2 (l1 (l1 (l2 (l2 (l1 (l2 (l1 (l2 (l2 (l2 Z7A)))))))))))) (Zhw m0) [(4, x4)] B
noncomputable def Zct (m0 : Nat) (x0 x1 x4 : AV) (B : List Row) : Option Res := exec PP HH 52 m0 EE LL (l2 (l1 (l2 (l2 (l1 (l2 (l1 (l2 (l2 (l2 Z7A)))))))))) (Zcr m0) [(0, x0), (1, x1), (4, x4)] B
noncomputable def Z9A (m0 : Nat) (x0 x1 x4 x5 : AV) (B : List Row) : Option Res := exec PP HH 52 m0 EE LL (l1 (l2 (l1 (l2 (l2 (l2 (l2 Z7A))))))) (ZhK m0) [(0, x0), (1, x1), (4, x4), (5, x5)] B
noncomputable def ZbW (m0 : Nat) (x4 x5 : AV) (B : List Row) : Option Res := exec PP HH 52 m0 EE LL (l2 (l2 (l2 (l2 (l2 Z7A))))) (Zb7 m0) [(4, x4), (5, x5)] B
theorem Zfv (m0 : Nat) (x0 x1 x4 : AV) (B : List Row) : Zeg m0 x0 x1 x4 B =
 mk (callS false EE 27 [(shr x0), (.p (.v (.string (ByteArray.mk #[125]))))] B fun a12 B13 =>
 asB (shr a12) fun t14 => br t14 (ob (xbin PP .leq 3 (shr x4) (iv 64)) fun a15 =>
 asB (shr a15) fun t16 => br t16 (Zds m0 x4 (gcB m0 [x4] B13))
 (Zct m0 x0 x1 x4 (gcB m0 [x0, x1, x4] B13)))
 (Zct m0 x0 x1 x4 (gcB m0 [x0, x1, x4] B13))) := by kernel_rfl
theorem ZfI (m0 : Nat) (x0 x1 x4 x5 : AV) (B : List Row) : ZaK m0 x0 x1 x4 x5 B =
 mk (ob (xbin PP .lss 3 (shr x4) (iv 0)) fun a17 =>
 asB (shr a17) fun t18 => br t18 (Z9A m0 x0 x1 x4 x5 (gcB m0 [x0, x1, x4, x5] B))
 (ob (xbin PP .lss 3 (shr x5) (shr x4)) fun a19 =>
 asB (shr (shr a19)) fun t20 => br t20 (Z9A m0 x0 x1 x4 x5 (gcB m0 [x0, x1, x4, x5] B))
 (ob (xbin PP .gtr 3 (shr x5) (iv 64)) fun a21 =>
 asB (shr (shr a21)) fun t22 => br t22 (Z9A m0 x0 x1 x4 x5 (gcB m0 [x0, x1, x4, x5] B))
 (callS false EE 27 [(shr x0), (.p (.v (.string (ByteArray.mk #[125]))))] B fun a23 B24 =>
 ob (xun PP .not a23) fun a25 =>
 asB (shr a25) fun t26 => br t26 (Z9A m0 x0 x1 x4 x5 (gcB m0 [x0, x1, x4, x5] B24))
 (ZbW m0 x4 x5 (gcB m0 [x4, x5] B24)))))) := by kernel_rfl
theorem Zfw (m0 : Nat) (x4 : AV) (B : List Row) : Zds m0 x4 B =
 mk (ZeI (shr (shr x4)) (iv (-1)) B) := by kernel_rfl
theorem ZfF (m0 : Nat) (x0 x1 x4 : AV) (B : List Row) : Zct m0 x0 x1 x4 B =
 mk (ZaK m0 x0 x1 x4 (iv (-2)) (gcB m0 [x0, x1, x4, (iv (-2))] B)) := by kernel_rfl
theorem Zfg (m0 : Nat) (x0 x1 x4 x5 : AV) (B : List Row) : Z9A m0 x0 x1 x4 x5 B =
 mk (callS false EE 29 [(shr x0), (iv 23), (shr x1)] B fun a27 B28 =>
 ZbW m0 x4 x5 (gcB m0 [x4, x5] B28)) := by kernel_rfl
theorem Zfl (m0 : Nat) (x4 x5 : AV) (B : List Row) : ZbW m0 x4 x5 B =
 mk (ZeI (shr (shr x4)) (shr (shr x5)) B) := by kernel_rfl
theorem Zhj (x0 x1 : AV) (B : List Row) : EE 52 [x0, x1] B =
 (let m0 := B.length
 mk (mk (callS false EE 63 [(shr x0)] B fun a1 B2 =>
 mk (mk (callS false EE 27 [(shr x0), (.p (.v (.string (ByteArray.mk #[44]))))] B2 fun a3 B4 =>
 asB a3 fun t5 => br t5 (mk (callS false EE 63 [(shr x0)] B4 fun a6 B7 =>
 mk (ob (xbin PP .lss 3 (shr (shr a6)) (iv 0)) fun a8 =>
 asB (shr a8) fun t9 => br t9 (ob (xbin PP .geq 3 (shr (shr a1)) (iv 0)) fun a10 =>
 asB (shr a10) fun t11 => br t11 (Zeg m0 x0 x1 (shr a1) (gcB m0 [x0, x1, (shr a1)] B7))
 (ZaK m0 x0 x1 (shr a1) (shr a6) (gcB m0 [x0, x1, (shr a1), (shr a6)] B7)))
 (ZaK m0 x0 x1 (shr a1) (shr a6) (gcB m0 [x0, x1, (shr a1), (shr a6)] B7)))))
 (ZaK m0 x0 x1 (shr a1) (shr (shr (shr a1))) (gcB m0 [x0, x1, (shr a1), (shr (shr (shr a1)))] B4))))))) := (E_eq PP XX HH _ _ _).trans (by kernel_rfl)
noncomputable def Ziz : Code := bodyOf Tryd.f54
def ZeK (r0 r1 : AV) (B : List Row) : Option Res :=
 ob (ob (some r0) fun v => ob (ob (some r1) fun v => ob (some []) fun vs => some (v :: vs)) fun vs => some (v :: vs)) fun vs => some ((nrmA (match vs with | [v] => v | vs => mkTup (vs.map shr))), B)
noncomputable def Zhd (m0 : Nat) : Kont := kret PP HH 54 Tryd.f54.results
noncomputable def Ze3 (m0 : Nat) (x0 : AV) (B : List Row) : Option Res := exec PP HH 54 m0 EE LL (l2 (l2 Ziz)) (Zhd m0) [(0, x0)] B
theorem ZfJ (m0 : Nat) (x0 : AV) (B : List Row) : Ze3 m0 x0 B =
 mk (callS false EE 68 [(shr x0)] B fun a4 B5 =>
 ZeK (shr a4) (iv 0) B5) := by kernel_rfl
theorem Zhk (x0 : AV) (B : List Row) : EE 54 [x0] B =
 (let m0 := B.length
 mk (mk (callS false EE 65 [(shr x0), (.clo 66 [] [])] B fun a1 B2 =>
 asB a1 fun t3 => br t3 (mk (ZeK nilA (iv 13) B2))
 (Ze3 m0 x0 (gcB m0 [x0] B2))))) := (E_eq PP XX HH _ _ _).trans (by kernel_rfl)
noncomputable def ZiC : Code := bodyOf Tryd.f55
def ZeF (r0 r1 : AV) (B : List Row) : Option Res :=
 ob (ob (some r0) fun v => ob (ob (some r1) fun v => ob (some []) fun vs => some (v :: vs)) fun vs => some (v :: vs)) fun vs => some ((nrmA (match vs with | [v] => v | vs => mkTup (vs.map shr))), B)
noncomputable def Zhq (m0 : Nat) : Kont := kret PP HH 55 Tryd.f55.results
noncomputable def Zes (m0 : Nat) (x0 : AV) (B : List Row) : Option Res := exec PP HH 55 m0 EE LL (l2 (l2 ZiC)) (Zhq m0) [(0, x0)] B
theorem Zgc (m0 : Nat) (x0 : AV) (B : List Row) : Zes m0 x0 B =
 mk (callS false EE 70 [(shr x0)] B fun a5 B6 =>
 ZeF (shr a5) (iv 0) B6) := by kernel_rfl
theorem ZhH (x0 : AV) (B : List Row) : EE 55 [x0] B =
 (let m0 := B.length
 mk (mk (callS false EE 69 [(shr x0)] B fun a1 B2 =>
 ob (xun PP .not a1) fun a3 =>
 asB a3 fun t4 => br t4 (mk (ZeF nilA (iv 10) B2))
 (Zes m0 x0 (gcB m0 [x0] B2))))) := (E_eq PP XX HH _ _ _).trans (by kernel_rfl)
noncomputable def ZiB : Code := bodyOf Tryd.f56
def Z4E (r0 : AV) (B : List Row) : Option Res :=
 ob (ob (some r0) fun v => ob (some []) fun vs => some (v :: vs)) fun vs => some (((match vs with | [v] => v | vs => mkTup (vs.map shr))), B)
noncomputable def Zia (m0 : Nat) : Kont := kret PP HH 56 Tryd.f56.results
noncomputable def Z6l (m0 : Nat) (B : List Row) : Option Res := exec PP HH 56 m0 EE LL (l2 (l2 ZiB)) (Zia m0) [] B
theorem ZeT (m0 : Nat) (B : List Row) : Z6l m0  B =
 mk (Z4E nilA B) := by kernel_rfl
theorem ZhF (x0 : AV) (B : List Row) : EE 56 [x0] B =
 (let m0 := B.length
 mk (mk (mk (ob (xbin PP .eql 3 (shr x0) (iv 100)) fun a1 =>
 asB (shr a1) fun t2 => br t2 (asB (shr a1) fun t3 => br t3 (mk (ob (xbuild PP 39 [(0, (iv 48)), (1, (iv 57))]) fun a4 =>
 ob (xlit PP 23 1 [(0, a4)]) fun a5 =>
 Z4E a5 B))
 (mk (ob (xbin PP .eql 3 (shr x0) (iv 119)) fun a6 =>
 asB (shr a6) fun t7 => br t7 (asB (shr a6) fun t8 => br t8 (mk (ob (xbuild PP 39 [(0, (iv 48)), (1, (iv 57))]) fun a9 =>
 ob (xbuild PP 39 [(0, (iv 65)), (1, (iv 90))]) fun a10 =>
 callS false EE 48 [(iv 95)] B fun a11 B12 =>
 ob (xbuild PP 39 [(0, (iv 97)), (1, (iv 122))]) fun a13 =>
 ob (xlit PP 23 4 [(0, a9), (1, a10), (2, a11), (3, a13)]) fun a14 =>
 Z4E a14 B12))
 (mk (ob (xbin PP .eql 3 (shr x0) (iv 115)) fun a15 =>
 asB (shr a15) fun t16 => br t16 (asB (shr a15) fun t17 => br t17 (mk (ob (xbuild PP 39 [(0, (iv 9)), (1, (iv 13))]) fun a18 =>
 callS false EE 48 [(iv 32)] B fun a19 B20 =>
 ob (xlit PP 23 2 [(0, a18), (1, a19)]) fun a21 =>
 Z4E a21 B20))
 (Z6l m0  (gcB m0 [] B)))
 (mk (ob (xbin PP .eql 3 (shr x0) (iv 83)) fun a22 =>
 asB (shr a22) fun t23 => br t23 (mk (ob (xbuild PP 39 [(0, (iv 9)), (1, (iv 13))]) fun a24 =>
 callS false EE 48 [(iv 32)] B fun a25 B26 =>
 ob (xlit PP 23 2 [(0, a24), (1, a25)]) fun a27 =>
 Z4E a27 B26))
 (Z6l m0  (gcB m0 [] B)))))))
 (mk (ob (xbin PP .eql 3 (shr x0) (iv 87)) fun a28 =>
 asB (shr a28) fun t29 => br t29 (mk (ob (xbuild PP 39 [(0, (iv 48)), (1, (iv 57))]) fun a30 =>
 ob (xbuild PP 39 [(0, (iv 65)), (1, (iv 90))]) fun a31 =>
 callS false EE 48 [(iv 95)] B fun a32 B33 =>
 ob (xbuild PP 39 [(0, (iv 97)), (1, (iv 122))]) fun a34 =>
 ob (xlit PP 23 4 [(0, a30), (1, a31), (2, a32), (3, a34)]) fun a35 =>
 Z4E a35 B33))
 (mk (ob (xbin PP .eql 3 (shr x0) (iv 115)) fun a36 =>
 asB (shr a36) fun t37 => br t37 (asB (shr a36) fun t38 => br t38 (mk (ob (xbuild PP 39 [(0, (iv 9)), (1, (iv 13))]) fun a39 =>
 callS false EE 48 [(iv 32)] B fun a40 B41 =>
 ob (xlit PP 23 2 [(0, a39), (1, a40)]) fun a42 =>
 Z4E a42 B41))
 (Z6l m0  (gcB m0 [] B)))
 (mk (ob (xbin PP .eql 3 (shr x0) (iv 83)) fun a43 =>
 asB (shr a43) fun t44 => br t44 (mk (ob (xbuild PP 39 [(0, (iv 9)), (1, (iv 13))]) fun a45 =>
 callS false EE 48 [(iv 32)] B fun a46 B47 =>
 ob (xlit PP 23 2 [(0, a45), (1, a46)]) fun a48 =>
 Z4E a48 B47))
 (Z6l m0  (gcB m0 [] B)))))))))))
 (mk (ob (xbin PP .eql 3 (shr x0) (iv 68)) fun a49 =>
 asB (shr a49) fun t50 => br t50 (mk (ob (xbuild PP 39 [(0, (iv 48)), (1, (iv 57))]) fun a51 =>
 ob (xlit PP 23 1 [(0, a51)]) fun a52 =>
 Z4E a52 B))
 (mk (ob (xbin PP .eql 3 (shr x0) (iv 119)) fun a53 =>
 asB (shr a53) fun t54 => br t54 (asB (shr a53) fun t55 => br t55 (mk (ob (xbuild PP 39 [(0, (iv 48)), (1, (iv 57))]) fun a56 =>
 ob (xbuild PP 39 [(0, (iv 65)), (1, (iv 90))]) fun a57 =>
 callS false EE 48 [(iv 95)] B fun a58 B59 =>
 ob (xbuild PP 39 [(0, (iv 97)), (1, (iv 122))]) fun a60 =>
 ob (xlit PP 23 4 [(0, a56), (1, a57), (2, a58), (3, a60)]) fun a61 =>
 Z4E a61 B59))
 (mk (ob (xbin PP .eql 3 (shr x0) (iv 115)) fun a62 =>
 asB (shr a62) fun t63 => br t63 (asB (shr a62) fun t64 => br t64 (mk (ob (xbuild PP 39 [(0, (iv 9)), (1, (iv 13))]) fun a65 =>
 callS false EE 48 [(iv 32)] B fun a66 B67 =>
 ob (xlit PP 23 2 [(0, a65), (1, a66)]) fun a68 =>
 Z4E a68 B67))
 (Z6l m0  (gcB m0 [] B)))
 (mk (ob (xbin PP .eql 3 (shr x0) (iv 83)) fun a69 =>
 asB (shr a69) fun t70 => br t70 (mk (ob (xbuild PP 39 [(0, (iv 9)), (1, (iv 13))]) fun a71 =>
 callS false EE 48 [(iv 32)] B fun a72 B73 =>
 ob (xlit PP 23 2 [(0, a71), (1, a72)]) fun a74 =>
 Z4E a74 B73))
 (Z6l m0  (gcB m0 [] B)))))))
 (mk (ob (xbin PP .eql 3 (shr x0) (iv 87)) fun a75 =>
 asB (shr a75) fun t76 => br t76 (mk (ob (xbuild PP 39 [(0, (iv 48)), (1, (iv 57))]) fun a77 =>
 ob (xbuild PP 39 [(0, (iv 65)), (1, (iv 90))]) fun a78 =>
 callS false EE 48 [(iv 95)] B fun a79 B80 =>
 ob (xbuild PP 39 [(0, (iv 97)), (1, (iv 122))]) fun a81 =>
 ob (xlit PP 23 4 [(0, a77), (1, a78), (2, a79), (3, a81)]) fun a82 =>
 Z4E a82 B80))
 (mk (ob (xbin PP .eql 3 (shr x0) (iv 115)) fun a83 =>
 asB (shr a83) fun t84 => br t84 (asB (shr a83) fun t85 => br t85 (mk (ob (xbuild PP 39 [(0, (iv 9)), (1, (iv 13))]) fun a86 =>
 callS false EE 48 [(iv 32)] B fun a87 B88 =>
 ob (xlit PP 23 2 [(0, a86), (1, a87)]) fun a89 =>
 Z4E a89 B88))
 (Z6l m0  (gcB m0 [] B)))
 (mk (ob (xbin PP .eql 3 (shr x0) (iv 83)) fun a90 =>
 asB (shr a90) fun t91 => br t91 (mk (ob (xbuild PP 39 [(0, (iv 9)), (1, (iv 13))]) fun a92 =>
 callS false EE 48 [(iv 32)] B fun a93 B94 =>
 ob (xlit PP 23 2 [(0, a92), (1, a93)]) fun a95 =>
 Z4E a95 B94))
 (Z6l m0  (gcB m0 [] B)))))))))))))))) := (E_eq PP XX HH _ _ _).trans (by kernel_rfl)
noncomputable def Zdk : Code := bodyOf Tryd.f57
def Z9B (r0 : AV) (B : List Row) : Option Res :=
 ob (ob (some r0) fun v => ob (some []) fun vs => some (v :: vs)) fun vs => some ((nrmA (match vs with | [v] => v | vs => mkTup (vs.map shr))), B)
noncomputable def ZdZ (m0 : Nat) : Kont := kret PP HH 57 Tryd.f57.results
noncomputable def Zi0 (m0 : Nat) : Kont := kseq HH 57 m0 (l2 (l2 Zdk)) (exec PP HH 57 m0 EE LL (l2 (l2 Zdk)) (ZdZ m0)) (ZdZ m0)
noncomputable def ZhJ (m0 : Nat) : Kont := kblk 0 (Zi0 m0)
noncomputable def Z8z (m0 : Nat) (x0 x2 : AV) (B : List Row) : Option Res := exec PP HH 57 m0 EE LL (l2 (l2 Zdk)) (ZdZ m0) [(0, x0), (2, x2)] B
noncomputable def Zd4 (m0 : Nat) (x1 : AV) (B : List Row) : Option Res := exec PP HH 57 m0 EE LL (l1 (l2 (l2 (l2 (l2 (l2 (l2 (l2 (l2 (l2 (l1 (l1 (l2 Zdk))))))))))))) (ZhJ m0) [(1, x1)] B
theorem Zfk (m0 : Nat) (x0 x2 : AV) (B : List Row) : Z8z m0 x0 x2 B =
 mk (callS false EE 29 [(shr x0), (iv 21), (shr x2)] B fun a39 B40 =>
 mk (Z9B (iv 0) B40)) := by kernel_rfl
theorem Zfe (m0 : Nat) (x1 : AV) (B : List Row) : Zd4 m0 x1 B =
 mk (Z9B (shr (shr x1)) B) := by kernel_rfl
theorem Zim (x0 x1 x2 : AV) (B : List Row) : EE 57 [x0, x1, x2] B =
 (let m0 := B.length
 mk (mk (ob (xbin PP .eql 3 (shr x1) (iv 110)) fun a1 =>
 asB (shr a1) fun t2 => br t2 (mk (Z9B (iv 10) B))
 (mk (ob (xbin PP .eql 3 (shr x1) (iv 116)) fun a3 =>
 asB (shr a3) fun t4 => br t4 (mk (Z9B (iv 9) B))
 (mk (ob (xbin PP .eql 3 (shr x1) (iv 114)) fun a5 =>
 asB (shr a5) fun t6 => br t6 (mk (Z9B (iv 13) B))
 (mk (ob (xbin PP .eql 3 (shr x1) (iv 120)) fun a7 =>
 asB (shr a7) fun t8 => br t8 (mk (callS false EE 41 [(shr x0)] B fun a9 B10 =>
 callS false EE 71 [a9] B10 fun a11 B12 =>
 mk (ob (xbin PP .geq 3 (shr (shr a11)) (iv 0)) fun a13 =>
 asB a13 fun t14 => br t14 (mk (callS false EE 46 [(shr x0)] B12 fun a15 B16 =>
 mk (callS false EE 41 [(shr x0)] B16 fun a17 B18 =>
 callS false EE 71 [a17] B18 fun a19 B20 =>
 mk (ob (xbin PP .geq 3 (shr (shr a19)) (iv 0)) fun a21 =>
 asB a21 fun t22 => br t22 (mk (callS false EE 46 [(shr x0)] B20 fun a23 B24 =>
 mk (ob (xbin PP .mul 3 (iv 16) (shr (shr a11))) fun a25 =>
 ob (xbin PP .add 3 a25 (shr (shr a19))) fun a26 =>
 Z9B (shr a26) B24)))
 (Z8z m0 x0 x2 (gcB m0 [x0, x2] B20))))))
 (Z8z m0 x0 x2 (gcB m0 [x0, x2] B12)))))
 (mk (ob (xbin PP .gtr 3 (shr x1) (iv 32)) fun a27 =>
 asB (shr a27) fun t28 => br t28 (ob (xbin PP .lss 3 (shr x1) (iv 127)) fun a29 =>
 asB (shr (shr a29)) fun t30 => br t30 (ob (xbuild PP 39 [(0, (iv 48)), (1, (iv 57))]) fun a31 =>
 ob (xbuild PP 39 [(0, (iv 65)), (1, (iv 90))]) fun a32 =>
 ob (xbuild PP 39 [(0, (iv 97)), (1, (iv 122))]) fun a33 =>
 ob (xlit PP 24 3 [(0, a31), (1, a32), (2, a33)]) fun a34 =>
 callS false EE 19 [a34, (shr x1)] B fun a35 B36 =>
 ob (xun PP .not a35) fun a37 =>
 asB (shr (shr a37)) fun t38 => br t38 (Zd4 m0 x1 (gcB m0 [x1] B36))
 (Z8z m0 x0 x2 (gcB m0 [x0, x2] B36)))
 (Z8z m0 x0 x2 (gcB m0 [x0, x2] B)))
 (Z8z m0 x0 x2 (gcB m0 [x0, x2] B))))))))))))) := (E_eq PP XX HH _ _ _).trans (by kernel_rfl)
noncomputable def ZiQ : Code := bodyOf Tryd.f58
def ZgU (B : List Row) : Option Res :=
 ob (some []) fun vs => some ((nrmA (match vs with | [v] => v | vs => mkTup (vs.map shr))), B)
theorem Zhi (x0 x1 : AV) (B : List Row) : EE 58 [x0, x1] B =
 (let m0 := B.length
 mk (ob (ldN false 1 x1 B) fun a1 =>
 callS false EE 59 [a1, (shr x0)] B fun a2 B3 =>
 ob (xext 0 (shr a2)) fun a4 =>
 ob (xext 1 (shr a2)) fun a5 =>
 stN 1 x1 (shr a4) B3 fun B6 =>
 ZgU  B6)) := (E_eq PP XX HH _ _ _).trans (by kernel_rfl)
noncomputable def Zdl : Code := bodyOf Tryd.f59
def ZeB (r0 r1 : AV) (B : List Row) : Option Res :=
 ob (ob (some r0) fun v => ob (ob (some r1) fun v => ob (some []) fun vs => some (v :: vs)) fun vs => some (v :: vs)) fun vs => some ((nrmA (match vs with | [v] => v | vs => mkTup (vs.map shr))), B)
noncomputable def ZdT (m0 : Nat) : Kont := kret PP HH 59 Tryd.f59.results
noncomputable def Zhy (m0 : Nat) : Kont := kseq HH 59 m0 (l2 (l2 Zdl)) (exec PP HH 59 m0 EE LL (l2 (l2 Zdl)) (ZdT m0)) (ZdT m0)
noncomputable def ZcC (m0 : Nat) (B : List Row) : Option Res := exec PP HH 59 m0 EE LL (l1 (l2 (l1 (l2 Zdl)))) (Zhy m0) [] B
noncomputable def Zdq (m0 : Nat) (x0 x1 : AV) (B : List Row) : Option Res := exec PP HH 59 m0 EE LL (l2 (l2 Zdl)) (ZdT m0) [(0, x0), (1, x1)] B
theorem Zgb (m0 : Nat) (B : List Row) : ZcC m0  B =
 mk (ZeB nilA (iv 10) B) := by kernel_rfl
theorem ZgJ (m0 : Nat) (x0 x1 : AV) (B : List Row) : Zdq m0 x0 x1 B =
 mk (ob (xlit PP 109 2 [(0, (shr x0)), (1, (shr x1))]) fun a9 =>
 callS false EE 72 [a9] B fun a10 B11 =>
 callS false EE 68 [a10] B11 fun a12 B13 =>
 ZeB (shr a12) (iv 0) B13) := by kernel_rfl
theorem ZhW (x0 x1 : AV) (B : List Row) : EE 59 [x0, x1] B =
 (let m0 := B.length
 mk (mk (callS false EE 69 [(shr x0)] B fun a1 B2 =>
 ob (xun PP .not a1) fun a3 =>
 asB (shr a3) fun t4 => br t4 (ZcC m0  (gcB m0 [] B2))
 (callS false EE 69 [(shr x1)] B2 fun a5 B6 =>
 ob (xun PP .not a5) fun a7 =>
 asB (shr a7) fun t8 => br t8 (ZcC m0  (gcB m0 [] B6))
 (Zdq m0 x0 x1 (gcB m0 [x0, x1] B6)))))) := (E_eq PP XX HH _ _ _).trans (by kernel_rfl)
noncomputable def Zf3 : Code := bodyOf Tryd.f60
def ZbZ (r0 r1 r2 : AV) (B : List Row) : Option Res :=
 ob (ob (some r0) fun v => ob (ob (some r1) fun v => ob (ob (some r2) fun v => ob (some []) fun vs => some (v :: vs)) fun vs => some (v :: vs)) fun vs => some (v :: vs)) fun vs => some (((match vs with | [v] => v | vs => mkTup (vs.map shr))), B)
noncomputable def ZdJ (m0 : Nat) : Kont := kret PP HH 60 Tryd.f60.results
noncomputable def Zeo (m0 : Nat) (x0 x5 : AV) (B : List Row) : Option Res := exec PP HH 60 m0 EE LL (l2 (l2 (l2 Zf3))) (ZdJ m0) [(0, x0), (5, x5)] B
noncomputable def Zdo (m0 : Nat) (x0 x2 x5 : AV) (B : List Row) : Option Res := exec PP HH 60 m0 EE LL (l2 (l2 (l2 (l2 Zf3)))) (ZdJ m0) [(0, x0), (2, x2), (5, x5)] B
noncomputable def Zd1 (m0 : Nat) (x0 x2 x5 : AV) (B : List Row) : Option Res := exec PP HH 60 m0 EE LL (l2 (l2 (l2 (l2 (l2 (l2 Zf3)))))) (ZdJ m0) [(0, x0), (2, x2), (5, x5)] B
theorem Zgj (m0 : Nat) (x0 x5 : AV) (B : List Row) : Zeo m0 x0 x5 B =
 mk (callS false EE 41 [(shr x0)] B fun a8 B9 =>
 mk (ob (xbin PP .lss 3 (shr (shr a8)) (iv 0)) fun a10 =>
 asB a10 fun t11 => br t11 (mk (callS false EE 29 [(shr x0), (iv 21), (shr x5)] B9 fun a12 B13 =>
 mk (ZbZ (iv 0) nilA (bv false) B13)))
 (Zdo m0 x0 (shr a8) x5 (gcB m0 [x0, (shr a8), x5] B9)))) := by kernel_rfl
theorem Zgx (m0 : Nat) (x0 x2 x5 : AV) (B : List Row) : Zdo m0 x0 x2 x5 B =
 mk (callS false EE 46 [(shr x0)] B fun a14 B15 =>
 mk (callS true EE 56 [(shr x2)] B15 fun a16 B17 =>
 mk (ob (xnil PP .neq 23 (.slice none 0 0) (shr a16)) fun a18 =>
 asB a18 fun t19 => br t19 (mk (ob (xbin PP .lss 3 (shr x2) (iv 97)) fun a20 =>
 ZbZ (iv 0) a16 (shr a20) B17))
 (Zd1 m0 x0 x2 x5 (gcB m0 [x0, x2, x5] B17))))) := by kernel_rfl
theorem Zf5 (m0 : Nat) (x0 x2 x5 : AV) (B : List Row) : Zd1 m0 x0 x2 x5 B =
 mk (callS false EE 57 [(shr x0), (shr x2), (shr x5)] B fun a21 B22 =>
 ZbZ (shr a21) nilA (bv false) B22) := by kernel_rfl
theorem Zhh (x0 : AV) (B : List Row) : EE 60 [x0] B =
 (let m0 := B.length
 mk (mk (ob (xnilchk (shr x0)) fun a1 =>
 ob (xfld 1 a1) fun a2 =>
 ob (ldN false 1 a2 B) fun a3 =>
 mk (callS false EE 46 [(shr x0)] B fun a4 B5 =>
 mk (ob (xbin PP .neq 3 (shr (shr a4)) (iv 92)) fun a6 =>
 asB a6 fun t7 => br t7 (mk (ZbZ (shr (shr (shr a4))) nilA (bv false) B5))
 (Zeo m0 x0 (shr a3) (gcB m0 [x0, (shr a3)] B5))))))) := (E_eq PP XX HH _ _ _).trans (by kernel_rfl)
noncomputable def Zaf : Code := bodyOf Tryd.f61
def ZeG (r0 : AV) (B : List Row) : Option Res :=
 ob (ob (some r0) fun v => ob (some []) fun vs => some (v :: vs)) fun vs => some ((nrmA (match vs with | [v] => v | vs => mkTup (vs.map shr))), B)
noncomputable def Zed (m0 : Nat) : Kont := kret PP HH 61 Tryd.f61.results
noncomputable def Zif (m0 : Nat) : Kont := kseq HH 61 m0 (l2 (l2 Zaf)) (exec PP HH 61 m0 EE LL (l2 (l2 Zaf)) (Zed m0)) (Zed m0)
noncomputable def Zeb (m0 : Nat) : Kont := kblk 0 (Zif m0)
noncomputable def Zg4 (m0 : Nat) : Kont := kloop HH 61 m0 (l1 (l1 (l2 (l1 (l2 Zaf))))) (LL 61 m0 (l1 (l1 (l2 (l1 (l2 Zaf))))) (Zeb m0)) (Zeb m0)
noncomputable def Zb2 (m0 : Nat) (x0 x1 x7 x8 : AV) (B : List Row) : Option Res := lp (LL 61 m0 (l1 (l1 (l2 (l1 (l2 Zaf))))) (Zeb m0) [(0, x0), (1, x1), (7, x7), (8, x8)] B)
noncomputable def Zen (m0 : Nat) (x0 x1 x7 x8 : AV) (B : List Row) : Option Res := exec PP HH 61 m0 EE LL (l2 (l2 (l1 (l1 (l2 (l1 (l2 Zaf))))))) (Zg4 m0) [(0, x0), (1, x1), (7, x7), (8, x8)] B
noncomputable def Ze9 (m0 : Nat) (B : List Row) : Option Res := exec PP HH 61 m0 EE LL (l2 (l2 Zaf)) (Zed m0) [] B
noncomputable def ZdH (m0 : Nat) (x0 x1 x7 x8 : AV) (B : List Row) : Option Res := exec PP HH 61 m0 EE LL (l2 (l2 (l2 (l1 (l1 (l2 (l1 (l2 Zaf)))))))) (Zg4 m0) [(0, x0), (1, x1), (7, x7), (8, x8)] B
theorem ZgL (m0 : Nat) (x0 x1 x7 x8 : AV) (B : List Row) : Zb2 m0 x0 x1 x7 x8 B =
 mk (ob (xbin PP .lss 3 x8 x7) fun a2 =>
 asB a2 fun t3 => br t3 (Zen m0 x0 x1 x7 x8 (gcB m0 [x0, x1, x7, x8] B))
 (Ze9 m0  (gcB m0 [] B))) := (L_eq PP XX HH _ _ _ _ _ _).trans (by kernel_rfl)
theorem ZfE (m0 : Nat) (x0 x1 x7 x8 : AV) (B : List Row) : Zen m0 x0 x1 x7 x8 B =
 mk (mk (ob (xidx 1 (shr x0) (shr (shr (shr x8)))) fun a4 =>
 ob (ldN false 1 a4 B) fun a5 =>
 callV HH EE (shr x1) [a5] B fun a6 B7 =>
 asB a6 fun t8 => br t8 (mk (ZeG (shr (shr (shr (shr x8)))) B7))
 (ZdH m0 x0 x1 x7 x8 (gcB m0 [x0, x1, x7, x8] B7)))) := by kernel_rfl
theorem ZfY (m0 : Nat) (B : List Row) : Ze9 m0  B =
 mk (ZeG (iv (-1)) B) := by kernel_rfl
theorem Zfs (m0 : Nat) (x0 x1 x7 x8 : AV) (B : List Row) : ZdH m0 x0 x1 x7 x8 B =
 mk (ob (xbin PP .add 3 x8 (iv 1)) fun a9 =>
 Zb2 m0 x0 x1 x7 (shr a9) (gcB m0 [x0, x1, x7, (shr a9)] B)) := by kernel_rfl
theorem Zis (x0 x1 : AV) (B : List Row) : EE 61 [x0, x1] B =
 (let m0 := B.length
 mk (mk (ob (xlen PP 43 (shr x0)) fun a1 =>
 Zb2 m0 x0 x1 a1 (iv 0) (gcB m0 [x0, x1, a1, (iv 0)] B)))) := (E_eq PP XX HH _ _ _).trans (by kernel_rfl)
noncomputable def ZiK : Code := bodyOf Tryd.f62
def Zh3 (r0 : AV) (B : List Row) : Option Res :=
 ob (ob (some r0) fun v => ob (some []) fun vs => some (v :: vs)) fun vs => some ((nrmA (match vs with | [v] => v | vs => mkTup (vs.map shr))), B)
theorem ZhR (B : List Row) : EE 62 [] B =
 (let m0 := B.length
 mk (mk (ob (xlit PP 43 4 [(0, (.p (.v (.string (ByteArray.mk #[63, 61]))))), (1, (.p (.v (.string (ByteArray.mk #[63, 33]))))), (2, (.p (.v (.string (ByteArray.mk #[63, 60, 61]))))), (3, (.p (.v (.string (ByteArray.mk #[63, 60, 33])))))]) fun a1 =>
 Zh3 (shr a1) B))) := (E_eq PP XX HH _ _ _).trans (by kernel_rfl)
noncomputable def Zbq : Code := bodyOf Tryd.f63
def ZgY (r0 : AV) (B : List Row) : Option Res :=
 ob (ob (some r0) fun v => ob (some []) fun vs => some (v :: vs)) fun vs => some ((nrmA (match vs with | [v] => v | vs => mkTup (vs.map shr))), B)
noncomputable def ZdA (m0 : Nat) : Kont := kret PP HH 63 Tryd.f63.results
noncomputable def ZhC (m0 : Nat) : Kont := kseq HH 63 m0 (l2 (l2 (l2 Zbq))) (exec PP HH 63 m0 EE LL (l2 (l2 (l2 Zbq))) (ZdA m0)) (ZdA m0)
noncomputable def Zeq (m0 : Nat) : Kont := kblk 0 (ZhC m0)
noncomputable def Ziu (m0 : Nat) : Kont := kloop HH 63 m0 (l1 (l1 (l2 (l1 (l2 (l2 Zbq)))))) (LL 63 m0 (l1 (l1 (l2 (l1 (l2 (l2 Zbq)))))) (Zeq m0)) (Zeq m0)
noncomputable def Zb0 (m0 : Nat) (x0 x3 x4 : AV) (B : List Row) : Option Res := lp (LL 63 m0 (l1 (l1 (l2 (l1 (l2 (l2 Zbq)))))) (Zeq m0) [(0, x0), (3, x3), (4, x4)] B)
noncomputable def Zdt (m0 : Nat) (x0 x3 x4 : AV) (B : List Row) : Option Res := exec PP HH 63 m0 EE LL (l2 (l1 (l1 (l2 (l1 (l2 (l2 Zbq))))))) (Ziu m0) [(0, x0), (3, x3), (4, x4)] B
noncomputable def ZbM (m0 : Nat) (x3 : AV) (B : List Row) : Option Res := exec PP HH 63 m0 EE LL (l2 (l2 (l2 Zbq))) (ZdA m0) [(3, x3)] B
theorem ZfT (m0 : Nat) (x0 x3 x4 : AV) (B : List Row) : Zb0 m0 x0 x3 x4 B =
 mk (ob (xbin PP .lss 3 (shr x4) (iv 2)) fun a1 =>
 asB (shr a1) fun t2 => br t2 (callS false EE 41 [(shr x0)] B fun a3 B4 =>
 ob (xbin PP .geq 3 a3 (iv 48)) fun a5 =>
 asB (shr (shr a5)) fun t6 => br t6 (callS false EE 41 [(shr x0)] B4 fun a7 B8 =>
 ob (xbin PP .leq 3 a7 (iv 57)) fun a9 =>
 asB (shr a9) fun t10 => br t10 (Zdt m0 x0 x3 x4 (gcB m0 [x0, x3, x4] B8))
 (ZbM m0 x3 (gcB m0 [x3] B8)))
 (ZbM m0 x3 (gcB m0 [x3] B4)))
 (ZbM m0 x3 (gcB m0 [x3] B))) := (L_eq PP XX HH _ _ _ _ _ _).trans (by kernel_rfl)
theorem Zgm (m0 : Nat) (x0 x3 x4 : AV) (B : List Row) : Zdt m0 x0 x3 x4 B =
 mk (ob (xminmax PP true [(shr x3), (iv 0)]) fun a11 =>
 ob (xbin PP .mul 3 (iv 10) a11) fun a12 =>
 callS false EE 46 [(shr x0)] B fun a13 B14 =>
 ob (xbin PP .add 3 a12 a13) fun a15 =>
 ob (xbin PP .sub 3 a15 (iv 48)) fun a16 =>
 mk (ob (xbin PP .add 3 (shr x4) (iv 1)) fun a17 =>
 Zb0 m0 x0 (shr a16) (shr a17) (gcB m0 [x0, (shr a16), (shr a17)] B14))) := by kernel_rfl
theorem ZgF (m0 : Nat) (x3 : AV) (B : List Row) : ZbM m0 x3 B =
 mk (ZgY (shr (shr x3)) B) := by kernel_rfl
theorem Zik (x0 : AV) (B : List Row) : EE 63 [x0] B =
 (let m0 := B.length
 mk (mk (mk (Zb0 m0 x0 (iv (-1)) (iv 0) (gcB m0 [x0, (iv (-1)), (iv 0)] B))))) := (E_eq PP XX HH _ _ _).trans (by kernel_rfl)
noncomputable def ZiO : Code := bodyOf Tryd.f65
def Zh5 (r0 : AV) (B : List Row) : Option Res :=
 ob (ob (some r0) fun v => ob (some []) fun vs => some (v :: vs)) fun vs => some ((nrmA (match vs with | [v] => v | vs => mkTup (vs.map shr))), B)
theorem Zho (x0 x1 : AV) (B : List Row) : EE 65 [x0, x1] B =
 (let m0 := B.length
 mk (mk (callS false EE 73 [(shr x0), (shr x1)] B fun a1 B2 =>
 ob (xbin PP .geq 3 a1 (iv 0)) fun a3 =>
 Zh5 (shr a3) B2))) := (E_eq PP XX HH _ _ _).trans (by kernel_rfl)
noncomputable def ZiH : Code := bodyOf Tryd.f66
def ZgV (r0 : AV) (B : List Row) : Option Res :=
 ob (ob (some r0) fun v => ob (some []) fun vs => some (v :: vs)) fun vs => some ((nrmA (match vs with | [v] => v | vs => mkTup (vs.map shr))), B)
theorem Zid (x0 : AV) (B : List Row) : EE 66 [x0] B =
 (let m0 := B.length
 mk (bx x0 B fun a1 B2 =>
 mk (ob (ldN true 2 a1 B2) fun a3 =>
 callS false EE 67 [a3] B2 fun a4 B5 =>
 ob (xun PP .not a4) fun a6 =>
 ZgV (shr a6) B5))) := (E_eq PP XX HH _ _ _).trans (by kernel_rfl)
noncomputable def ZiP : Code := bodyOf Tryd.f67
def ZcV (r0 : AV) (B : List Row) : Option Res :=
 ob (ob (some r0) fun v => ob (some []) fun vs => some (v :: vs)) fun vs => some ((nrmA (match vs with | [v] => v | vs => mkTup (vs.map shr))), B)
theorem Zht (x0 : AV) (B : List Row) : EE 67 [x0] B =
 (let m0 := B.length
 mk (bx x0 B fun a1 B2 =>
 mk (ob (xfld 0 a1) fun a3 =>
 ob (ldN false 1 a3 B2) fun a4 =>
 ob (xbin PP .geq 3 a4 (iv 0)) fun a5 =>
 asB (shr a5) fun t6 => br t6 (ob (xfld 0 a1) fun a7 =>
 ob (ldN false 1 a7 B2) fun a8 =>
 ob (xfld 1 a1) fun a9 =>
 ob (ldN false 1 a9 B2) fun a10 =>
 ob (xbin PP .leq 3 a8 a10) fun a11 =>
 asB (shr (shr a11)) fun t12 => br t12 (ob (xfld 1 a1) fun a13 =>
 ob (ldN false 1 a13 B2) fun a14 =>
 ob (xbin PP .leq 3 a14 (iv 1114367)) fun a15 =>
 ZcV (shr (shr a15)) B2)
 (ZcV (bv false) B2))
 (ZcV (bv false) B2)))) := (E_eq PP XX HH _ _ _).trans (by kernel_rfl)
noncomputable def Z6v : Code := bodyOf Tryd.f69
def ZeJ (r0 : AV) (B : List Row) : Option Res :=
 ob (ob (some r0) fun v => ob (some []) fun vs => some (v :: vs)) fun vs => some ((nrmA (match vs with | [v] => v | vs => mkTup (vs.map shr))), B)
noncomputable def Zez (m0 : Nat) : Kont := kret PP HH 69 Tryd.f69.results
noncomputable def Zi6 (m0 : Nat) : Kont := kseq HH 69 m0 (l2 (l2 (l2 Z6v))) (exec PP HH 69 m0 EE LL (l2 (l2 (l2 Z6v))) (Zez m0)) (Zez m0)
noncomputable def ZeA (m0 : Nat) : Kont := kblk 0 (Zi6 m0)
noncomputable def Zcv (m0 : Nat) : Kont := kloop HH 69 m0 (l1 (l1 (l2 (l1 (l2 (l2 Z6v)))))) (LL 69 m0 (l1 (l1 (l2 (l1 (l2 (l2 Z6v)))))) (ZeA m0)) (ZeA m0)
noncomputable def Zhl (m0 : Nat) : Kont := kseq HH 69 m0 (l2 (l2 (l2 (l1 (l1 (l2 (l1 (l2 (l2 Z6v))))))))) (exec PP HH 69 m0 EE LL (l2 (l2 (l2 (l1 (l1 (l2 (l1 (l2 (l2 Z6v))))))))) (Zcv m0)) (Zcv m0)
noncomputable def Zdy (m0 : Nat) : Kont := kblk 1 (Zhl m0)
noncomputable def Zhm (m0 : Nat) : Kont := kseq HH 69 m0 (l2 (l2 (l1 (l1 (l2 (l2 (l1 (l1 (l2 (l1 (l2 (l2 Z6v)))))))))))) (exec PP HH 69 m0 EE LL (l2 (l2 (l1 (l1 (l2 (l2 (l1 (l1 (l2 (l1 (l2 (l2 Z6v)))))))))))) (Zdy m0)) (Zdy m0)
noncomputable def Zbb (m0 : Nat) (x3 x6 x7 x8 : AV) (B : List Row) : Option Res := lp (LL 69 m0 (l1 (l1 (l2 (l1 (l2 (l2 Z6v)))))) (ZeA m0) [(3, x3), (6, x6), (7, x7), (8, x8)] B)
noncomputable def Zee (m0 : Nat) (x3 x6 x7 x8 : AV) (B : List Row) : Option Res := exec PP HH 69 m0 EE LL (l2 (l2 (l1 (l1 (l2 (l1 (l2 (l2 Z6v)))))))) (Zcv m0) [(3, x3), (6, x6), (7, x7), (8, x8)] B
noncomputable def Ze6 (m0 : Nat) (B : List Row) : Option Res := exec PP HH 69 m0 EE LL (l2 (l2 (l2 Z6v))) (Zez m0) [] B
noncomputable def ZcF (m0 : Nat) (B : List Row) : Option Res := exec PP HH 69 m0 EE LL (l1 (l2 (l1 (l2 (l1 (l1 (l2 (l2 (l1 (l1 (l2 (l1 (l2 (l2 Z6v)))))))))))))) (Zhm m0) [] B
noncomputable def ZdP (m0 : Nat) (x5 x6 x7 x8 : AV) (B : List Row) : Option Res := exec PP HH 69 m0 EE LL (l2 (l2 (l1 (l1 (l2 (l2 (l1 (l1 (l2 (l1 (l2 (l2 Z6v)))))))))))) (Zdy m0) [(5, x5), (6, x6), (7, x7), (8, x8)] B
noncomputable def ZdB (m0 : Nat) (x3 x6 x7 x8 : AV) (B : List Row) : Option Res := exec PP HH 69 m0 EE LL (l2 (l2 (l2 (l1 (l1 (l2 (l1 (l2 (l2 Z6v))))))))) (Zcv m0) [(3, x3), (6, x6), (7, x7), (8, x8)] B
theorem ZfA (m0 : Nat) (x3 x6 x7 x8 : AV) (B : List Row) : Zbb m0 x3 x6 x7 x8 B =
 mk (ob (xbin PP .lss 3 x8 x7) fun a2 =>
 asB a2 fun t3 => br t3 (Zee m0 x3 x6 x7 x8 (gcB m0 [x3, x6, x7, x8] B))
 (Ze6 m0  (gcB m0 [] B))) := (L_eq PP XX HH _ _ _ _ _ _).trans (by kernel_rfl)
theorem Zfu (m0 : Nat) (x3 x6 x7 x8 : AV) (B : List Row) : Zee m0 x3 x6 x7 x8 B =
 mk (ob (xidx 2 x6 x8) fun a4 =>
 ob (ldN true 2 a4 B) fun a5 =>
 bz PP 39 B fun a6 B7 =>
 stN 2 a6 a5 B7 fun B8 =>
 mk (ob (ldN true 2 a6 B8) fun a9 =>
 callS false EE 67 [a9] B8 fun a10 B11 =>
 ob (xun PP .not a10) fun a12 =>
 asB (shr a12) fun t13 => br t13 (ZcF m0  (gcB m0 [] B11))
 (ob (xfld 0 a6) fun a14 =>
 ob (ldN false 1 a14 B11) fun a15 =>
 ob (xbin PP .add 3 (shr x3) (iv 2)) fun a16 =>
 ob (xbin PP .lss 3 a15 a16) fun a17 =>
 asB (shr a17) fun t18 => br t18 (ZcF m0  (gcB m0 [] B11))
 (ZdP m0 a6 x6 x7 x8 (gcB m0 [a6, x6, x7, x8] B11))))) := by kernel_rfl
theorem Zgh (m0 : Nat) (B : List Row) : Ze6 m0  B =
 mk (ZeJ (bv true) B) := by kernel_rfl
theorem ZgM (m0 : Nat) (B : List Row) : ZcF m0  B =
 mk (ZeJ (bv false) B) := by kernel_rfl
theorem Zgt (m0 : Nat) (x5 x6 x7 x8 : AV) (B : List Row) : ZdP m0 x5 x6 x7 x8 B =
 mk (ob (xfld 1 x5) fun a19 =>
 ob (ldN false 1 a19 B) fun a20 =>
 ZdB m0 (shr a20) x6 x7 x8 (gcB m0 [(shr a20), x6, x7, x8] B)) := by kernel_rfl
theorem Zge (m0 : Nat) (x3 x6 x7 x8 : AV) (B : List Row) : ZdB m0 x3 x6 x7 x8 B =
 mk (ob (xbin PP .add 3 x8 (iv 1)) fun a21 =>
 Zbb m0 x3 x6 x7 (shr a21) (gcB m0 [x3, x6, x7, (shr a21)] B)) := by kernel_rfl
theorem ZhO (x0 : AV) (B : List Row) : EE 69 [x0] B =
 (let m0 := B.length
 mk (mk (mk (ob (xlen PP 24 (shr x0)) fun a1 =>
 Zbb m0 (iv (-2)) (shr x0) a1 (iv 0) (gcB m0 [(iv (-2)), (shr x0), a1, (iv 0)] B))))) := (E_eq PP XX HH _ _ _).trans (by kernel_rfl)
noncomputable def Z7B : Code := bodyOf Tryd.f70
def ZgT (r0 : AV) (B : List Row) : Option Res :=
 ob (ob (some r0) fun v => ob (some []) fun vs => some (v :: vs)) fun vs => some ((nrmA (match vs with | [v] => v | vs => mkTup (vs.map shr))), B)
noncomputable def Zco (m0 : Nat) : Kont := kret PP HH 70 Tryd.f70.results
noncomputable def Zib (m0 : Nat) : Kont := kseq HH 70 m0 (l2 (l2 (l2 (l2 Z7B)))) (exec PP HH 70 m0 EE LL (l2 (l2 (l2 (l2 Z7B)))) (Zco m0)) (Zco m0)
noncomputable def Ze8 (m0 : Nat) : Kont := kblk 0 (Zib m0)
noncomputable def Zcl (m0 : Nat) : Kont := kloop HH 70 m0 (l1 (l1 (l2 (l1 (l2 (l2 (l2 Z7B))))))) (LL 70 m0 (l1 (l1 (l2 (l1 (l2 (l2 (l2 Z7B))))))) (Ze8 m0)) (Ze8 m0)
noncomputable def ZhE (m0 : Nat) : Kont := kseq HH 70 m0 (l2 (l2 (l2 (l1 (l1 (l2 (l1 (l2 (l2 (l2 Z7B)))))))))) (exec PP HH 70 m0 EE LL (l2 (l2 (l2 (l1 (l1 (l2 (l1 (l2 (l2 (l2 Z7B)))))))))) (Zcl m0)) (Zcl m0)
noncomputable def Zin (m0 : Nat) : Kont := kblk 1 (ZhE m0)
noncomputable def ZaS (m0 : Nat) (x3 x4 x7 x8 x9 : AV) (B : List Row) : Option Res := lp (LL 70 m0 (l1 (l1 (l2 (l1 (l2 (l2 (l2 Z7B))))))) (Ze8 m0) [(3, x3), (4, x4), (7, x7), (8, x8), (9, x9)] B)
noncomputable def Zej (m0 : Nat) (x3 x4 x7 x8 x9 : AV) (B : List Row) : Option Res := exec PP HH 70 m0 EE LL (l2 (l2 (l1 (l1 (l2 (l1 (l2 (l2 (l2 Z7B))))))))) (Zcl m0) [(3, x3), (4, x4), (7, x7), (8, x8), (9, x9)] B
noncomputable def Zd8 (m0 : Nat) (x3 x4 : AV) (B : List Row) : Option Res := exec PP HH 70 m0 EE LL (l2 (l2 (l2 (l2 Z7B)))) (Zco m0) [(3, x3), (4, x4)] B
noncomputable def ZcN (m0 : Nat) (x3 x6 x7 x8 x9 : AV) (B : List Row) : Option Res := exec PP HH 70 m0 EE LL (l2 (l2 (l1 (l1 (l2 (l2 (l1 (l1 (l2 (l1 (l2 (l2 (l2 Z7B))))))))))))) (Zin m0) [(3, x3), (6, x6), (7, x7), (8, x8), (9, x9)] B
noncomputable def ZbQ (m0 : Nat) (x3 : AV) (B : List Row) : Option Res := exec PP HH 70 m0 EE LL (l2 (l2 (l2 (l2 (l2 Z7B))))) (Zco m0) [(3, x3)] B
noncomputable def Zdz (m0 : Nat) (x3 x4 x7 x8 x9 : AV) (B : List Row) : Option Res := exec PP HH 70 m0 EE LL (l2 (l2 (l2 (l1 (l1 (l2 (l1 (l2 (l2 (l2 Z7B)))))))))) (Zcl m0) [(3, x3), (4, x4), (7, x7), (8, x8), (9, x9)] B
theorem ZfN (m0 : Nat) (x3 x4 x7 x8 x9 : AV) (B : List Row) : ZaS m0 x3 x4 x7 x8 x9 B =
 mk (ob (xbin PP .lss 3 x9 x8) fun a2 =>
 asB a2 fun t3 => br t3 (Zej m0 x3 x4 x7 x8 x9 (gcB m0 [x3, x4, x7, x8, x9] B))
 (Zd8 m0 x3 x4 (gcB m0 [x3, x4] B))) := (L_eq PP XX HH _ _ _ _ _ _).trans (by kernel_rfl)
theorem Zgs (m0 : Nat) (x3 x4 x7 x8 x9 : AV) (B : List Row) : Zej m0 x3 x4 x7 x8 x9 B =
 mk (ob (xidx 2 x7 x9) fun a4 =>
 ob (ldN true 2 a4 B) fun a5 =>
 bz PP 39 B fun a6 B7 =>
 stN 2 a6 a5 B7 fun B8 =>
 mk (ob (xfld 0 a6) fun a9 =>
 ob (ldN false 1 a9 B8) fun a10 =>
 ob (xbin PP .lss 3 (shr x4) a10) fun a11 =>
 asB a11 fun t12 => br t12 (mk (ob (xfld 0 a6) fun a13 =>
 ob (ldN false 1 a13 B8) fun a14 =>
 ob (xbin PP .sub 3 a14 (iv 1)) fun a15 =>
 ob (xbuild PP 39 [(0, (shr x4)), (1, a15)]) fun a16 =>
 ob (xlit PP 24 1 [(0, a16)]) fun a17 =>
 ob (xapp 2 x3 a17) fun a18 =>
 ZcN m0 a18 a6 x7 x8 x9 (gcB m0 [a18, a6, x7, x8, x9] B8)))
 (ZcN m0 x3 a6 x7 x8 x9 (gcB m0 [x3, a6, x7, x8, x9] B8)))) := by kernel_rfl
theorem ZeZ (m0 : Nat) (x3 x4 : AV) (B : List Row) : Zd8 m0 x3 x4 B =
 mk (ob (xbin PP .leq 3 (shr x4) (iv 1114367)) fun a19 =>
 asB a19 fun t20 => br t20 (mk (ob (xbuild PP 39 [(0, (shr x4)), (1, (iv 1114367))]) fun a21 =>
 ob (xlit PP 24 1 [(0, a21)]) fun a22 =>
 ob (xapp 2 x3 a22) fun a23 =>
 ZbQ m0 a23 (gcB m0 [a23] B)))
 (ZbQ m0 x3 (gcB m0 [x3] B))) := by kernel_rfl
theorem ZfO (m0 : Nat) (x3 x6 x7 x8 x9 : AV) (B : List Row) : ZcN m0 x3 x6 x7 x8 x9 B =
 mk (ob (xfld 1 x6) fun a24 =>
 ob (ldN false 1 a24 B) fun a25 =>
 ob (xbin PP .add 3 a25 (iv 1)) fun a26 =>
 Zdz m0 x3 (shr a26) x7 x8 x9 (gcB m0 [x3, (shr a26), x7, x8, x9] B)) := by kernel_rfl
theorem Zf7 (m0 : Nat) (x3 : AV) (B : List Row) : ZbQ m0 x3 B =
 mk (ZgT (shr (shr x3)) B) := by kernel_rfl
theorem ZfS (m0 : Nat) (x3 x4 x7 x8 x9 : AV) (B : List Row) : Zdz m0 x3 x4 x7 x8 x9 B =
 mk (ob (xbin PP .add 3 x9 (iv 1)) fun a27 =>
 ZaS m0 x3 x4 x7 x8 (shr a27) (gcB m0 [x3, x4, x7, x8, (shr a27)] B)) := by kernel_rfl
theorem Zhf (x0 : AV) (B : List Row) : EE 70 [x0] B =
 (let m0 := B.length
 mk (mk (mk (mk (ob (xlen PP 24 (shr x0)) fun a1 =>
 ZaS m0 nilA (iv 0) (shr x0) a1 (iv 0) (gcB m0 [nilA, (iv 0), (shr x0), a1, (iv 0)] B)))))) := (E_eq PP XX HH _ _ _).trans (by kernel_rfl)
noncomputable def ZbS : Code := bodyOf Tryd.f71
def Zdd (r0 : AV) (B : List Row) : Option Res :=
 ob (ob (some r0) fun v => ob (some []) fun vs => some (v :: vs)) fun vs => some ((nrmA (match vs with | [v] => v | vs => mkTup (vs.map shr))), B)
noncomputable def ZdG (m0 : Nat) : Kont := kret PP HH 71 Tryd.f71.results
noncomputable def ZhD (m0 : Nat) : Kont := kseq HH 71 m0 (l2 (l2 ZbS)) (exec PP HH 71 m0 EE LL (l2 (l2 ZbS)) (ZdG m0)) (ZdG m0)
noncomputable def Zeh (m0 : Nat) : Kont := kblk 0 (ZhD m0)
noncomputable def Zer (m0 : Nat) (x0 : AV) (B : List Row) : Option Res := exec PP HH 71 m0 EE LL (l1 (l2 (l1 (l1 (l2 ZbS))))) (Zeh m0) [(0, x0)] B
noncomputable def ZcG (m0 : Nat) (x0 : AV) (B : List Row) : Option Res := exec PP HH 71 m0 EE LL (l2 (l2 (l1 (l1 (l2 ZbS))))) (Zeh m0) [(0, x0)] B
noncomputable def ZdC (m0 : Nat) (x0 : AV) (B : List Row) : Option Res := exec PP HH 71 m0 EE LL (l1 (l2 (l2 (l2 (l1 (l1 (l2 ZbS))))))) (Zeh m0) [(0, x0)] B
noncomputable def ZcM (m0 : Nat) (B : List Row) : Option Res := exec PP HH 71 m0 EE LL (l2 (l2 ZbS)) (ZdG m0) [] B
theorem ZgA (m0 : Nat) (x0 : AV) (B : List Row) : Zer m0 x0 B =
 mk (ob (xbin PP .sub 3 (shr x0) (iv 48)) fun a5 =>
 Zdd (shr a5) B) := by kernel_rfl
theorem ZfV (m0 : Nat) (x0 : AV) (B : List Row) : ZcG m0 x0 B =
 mk (ob (xbin PP .geq 3 (shr x0) (iv 97)) fun a6 =>
 asB (shr a6) fun t7 => br t7 (ob (xbin PP .leq 3 (shr x0) (iv 102)) fun a8 =>
 asB (shr (shr a8)) fun t9 => br t9 (ZdC m0 x0 (gcB m0 [x0] B))
 (ZcM m0  (gcB m0 [] B)))
 (ZcM m0  (gcB m0 [] B))) := by kernel_rfl
theorem Zfx (m0 : Nat) (x0 : AV) (B : List Row) : ZdC m0 x0 B =
 mk (ob (xbin PP .sub 3 (shr x0) (iv 97)) fun a10 =>
 ob (xbin PP .add 3 a10 (iv 10)) fun a11 =>
 Zdd (shr a11) B) := by kernel_rfl
theorem Zgv (m0 : Nat) (B : List Row) : ZcM m0  B =
 mk (Zdd (iv (-1)) B) := by kernel_rfl
theorem Zi2 (x0 : AV) (B : List Row) : EE 71 [x0] B =
 (let m0 := B.length
 mk (mk (ob (xbin PP .geq 3 (shr x0) (iv 48)) fun a1 =>
 asB (shr a1) fun t2 => br t2 (ob (xbin PP .leq 3 (shr x0) (iv 57)) fun a3 =>
 asB (shr (shr a3)) fun t4 => br t4 (Zer m0 x0 (gcB m0 [x0] B))
 (ZcG m0 x0 (gcB m0 [x0] B)))
 (ZcG m0 x0 (gcB m0 [x0] B))))) := (E_eq PP XX HH _ _ _).trans (by kernel_rfl)
noncomputable def Zac : Code := bodyOf Tryd.f73
def ZeC (r0 : AV) (B : List Row) : Option Res :=
 ob (ob (some r0) fun v => ob (some []) fun vs => some (v :: vs)) fun vs => some ((nrmA (match vs with | [v] => v | vs => mkTup (vs.map shr))), B)
noncomputable def ZdX (m0 : Nat) : Kont := kret PP HH 73 Tryd.f73.results
noncomputable def Zil (m0 : Nat) : Kont := kseq HH 73 m0 (l2 (l2 Zac)) (exec PP HH 73 m0 EE LL (l2 (l2 Zac)) (ZdX m0)) (ZdX m0)
noncomputable def Zep (m0 : Nat) : Kont := kblk 0 (Zil m0)
noncomputable def Zgw (m0 : Nat) : Kont := kloop HH 73 m0 (l1 (l1 (l2 (l1 (l2 Zac))))) (LL 73 m0 (l1 (l1 (l2 (l1 (l2 Zac))))) (Zep m0)) (Zep m0)
noncomputable def ZaG (m0 : Nat) (x0 x1 x7 x8 : AV) (B : List Row) : Option Res := lp (LL 73 m0 (l1 (l1 (l2 (l1 (l2 Zac))))) (Zep m0) [(0, x0), (1, x1), (7, x7), (8, x8)] B)
noncomputable def Ze4 (m0 : Nat) (x0 x1 x7 x8 : AV) (B : List Row) : Option Res := exec PP HH 73 m0 EE LL (l2 (l2 (l1 (l1 (l2 (l1 (l2 Zac))))))) (Zgw m0) [(0, x0), (1, x1), (7, x7), (8, x8)] B
noncomputable def Ze1 (m0 : Nat) (B : List Row) : Option Res := exec PP HH 73 m0 EE LL (l2 (l2 Zac)) (ZdX m0) [] B
noncomputable def ZdQ (m0 : Nat) (x0 x1 x7 x8 : AV) (B : List Row) : Option Res := exec PP HH 73 m0 EE LL (l2 (l2 (l2 (l1 (l1 (l2 (l1 (l2 Zac)))))))) (Zgw m0) [(0, x0), (1, x1), (7, x7), (8, x8)] B
theorem Zg2 (m0 : Nat) (x0 x1 x7 x8 : AV) (B : List Row) : ZaG m0 x0 x1 x7 x8 B =
 mk (ob (xbin PP .lss 3 x8 x7) fun a2 =>
 asB a2 fun t3 => br t3 (Ze4 m0 x0 x1 x7 x8 (gcB m0 [x0, x1, x7, x8] B))
 (Ze1 m0  (gcB m0 [] B))) := (L_eq PP XX HH _ _ _ _ _ _).trans (by kernel_rfl)
theorem Zg0 (m0 : Nat) (x0 x1 x7 x8 : AV) (B : List Row) : Ze4 m0 x0 x1 x7 x8 B =
 mk (mk (ob (xidx 2 (shr x0) (shr (shr (shr x8)))) fun a4 =>
 ob (ldN true 2 a4 B) fun a5 =>
 callV HH EE (shr x1) [a5] B fun a6 B7 =>
 asB a6 fun t8 => br t8 (mk (ZeC (shr (shr (shr (shr x8)))) B7))
 (ZdQ m0 x0 x1 x7 x8 (gcB m0 [x0, x1, x7, x8] B7)))) := by kernel_rfl
theorem ZfH (m0 : Nat) (B : List Row) : Ze1 m0  B =
 mk (ZeC (iv (-1)) B) := by kernel_rfl
theorem ZfC (m0 : Nat) (x0 x1 x7 x8 : AV) (B : List Row) : ZdQ m0 x0 x1 x7 x8 B =
 mk (ob (xbin PP .add 3 x8 (iv 1)) fun a9 =>
 ZaG m0 x0 x1 x7 (shr a9) (gcB m0 [x0, x1, x7, (shr a9)] B)) := by kernel_rfl
theorem Zhc (x0 x1 : AV) (B : List Row) : EE 73 [x0, x1] B =
 (let m0 := B.length
 mk (mk (ob (xlen PP 23 (shr x0)) fun a1 =>
 ZaG m0 x0 x1 a1 (iv 0) (gcB m0 [x0, x1, a1, (iv 0)] B)))) := (E_eq PP XX HH _ _ _).trans (by kernel_rfl)
end Go.Proofs.YtadodmjdkphddaaDoor.N2
end
