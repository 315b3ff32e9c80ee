/- The functions' equations, by the evaluator. No condition. -/
import Derived.Test.YteoeggbihfnbfaaGreatDoorEvA
import Derived.Test.YteoeggbihfnbfaaGreatDoorProg
import Derived.KernelRfl
import Derived.Test.YteoeggbihfnbfaaGreatDoorEvD

section
set_option linter.unusedSimpArgs false
set_option linter.unusedVariables false
namespace Go.Proofs.YteoeggbihfnbfaaGreatDoor.N2
open Go Go.Abs
def ZI8 : FuncId → Nat → Option (List Nat) := fun f r =>
 if f = 7 then (if r = 4 then some [] else if r = 9 then some [6] else if r = 12 then some [3, 5, 6] else if r = 10 then some [3, 5, 6, 7] else if r = 5 then some [2, 3] else if r = 3 then some [2, 3] else none) else
 if f = 15 then (if r = 2 then some [3, 13, 14] else if r = 7 then some [3, 13, 14, 20, 21, 22] else if r = 11 then some [3, 13, 14, 20, 21, 22] else if r = 8 then some [3, 13, 14, 20, 21, 22] else if r = 6 then some [3, 6, 13, 14] else if r = 12 then some [3, 13, 14] else if r = 3 then some [3, 13, 14] else if r = 13 then some [3] else none) else
 if f = 16 then (if r = 4 then some [2, 11, 12, 13] else if r = 10 then some [2, 11, 12, 13] else if r = 5 then some [2, 11, 12, 13] else if r = 11 then some [2] else if r = 3 then some [1, 2] else none) else
 if f = 20 then (if r = 2 then some [] else if r = 5 then some [3, 16, 17, 18] else if r = 8 then some [] else if r = 9 then some [5, 16, 17, 18] else if r = 10 then some [3, 16, 17, 18] else if r = 6 then some [3, 16, 17, 18] else if r = 11 then some [] else if r = 3 then some [1] else none) else
 if f = 21 then (if r = 4 then some [2, 3] else none) else
 if f = 22 then (if r = 9 then some [4] else if r = 14 then some [3, 4, 6, 7, 54, 55, 56] else if r = 15 then some [3, 4, 6, 7, 54, 55, 56] else if r = 19 then some [3, 4, 6, 7, 66, 67, 68] else if r = 24 then some [3, 4, 6, 7, 11, 66, 67, 68] else if r = 25 then some [3, 4, 6, 7, 66, 67, 68] else if r = 20 then some [3, 4, 6, 7, 66, 67, 68] else if r = 27 then some [4, 6, 7, 85, 86, 87] else if r = 28 then some [4, 6, 7, 85, 86, 87] else if r = 35 then some [4, 6, 7, 103, 104, 105] else if r = 36 then some [4, 6, 7, 103, 104, 105] else if r = 39 then some [4, 6] else if r = 33 then some [4, 6, 7] else if r = 31 then some [4, 6, 7] else if r = 26 then some [3, 4, 6, 7] else if r = 18 then some [3, 4, 6, 7] else if r = 12 then some [2, 3, 4, 6] else if r = 10 then some [2, 3, 4, 6] else if r = 3 then some [2, 3, 4] else none) else
 if f = 23 then (if r = 7 then some [4, 5, 6] else if r = 4 then some [4, 5, 6] else none) else
 if f = 28 then (if r = 2 then some [1, 4, 9, 10, 11] else if r = 6 then some [1, 4, 9, 10, 11] else if r = 3 then some [1, 4, 9, 10, 11] else if r = 7 then some [4] else none) else
 if f = 47 then (if r = 7 then some [2, 3, 4, 5] else if r = 9 then some [2, 3, 4, 5, 50, 51, 52] else if r = 13 then some [2, 3, 4, 5, 50, 51, 52] else if r = 10 then some [2, 3, 4, 5, 50, 51, 52] else if r = 16 then some [2, 3, 4, 5] else if r = 14 then some [2, 3, 4, 5] else if r = 8 then some [2, 3, 4, 5] else if r = 3 then some [0, 2, 3] else none) else
 if f = 48 then (if r = 5 then some [] else none) else
 if f = 68 then (if r = 2 then some [] else if r = 3 then some [0, 1] else none) else
 if f = 69 then (if r = 2 then some [0, 2, 3] else if r = 3 then some [0, 2, 3] else if r = 4 then some [2, 3] else none) else
 if f = 70 then (if r = 2 then some [0] else none) else
 if f = 71 then (if r = 4 then some [] else if r = 2 then some [1] else if r = 5 then some [1] else none) else
 if f = 72 then (if r = 3 then some [1, 3, 8, 9, 10] else if r = 4 then some [1, 3, 8, 9, 10] else if r = 24 then some [1, 3] else if r = 26 then some [3] else if r = 7 then some [1, 3] else none) else
 if f = 83 then (if r = 2 then some [0, 1, 7, 8] else if r = 6 then some [0, 1, 7, 8] else if r = 3 then some [0, 1, 7, 8] else if r = 7 then some [] else none) else
 if f = 84 then (if r = 2 then some [0, 1, 7, 8] else if r = 6 then some [0, 1, 7, 8] else if r = 3 then some [0, 1, 7, 8] else if r = 7 then some [] else none) else
 if f = 91 then (if r = 2 then some [0, 2, 3] else if r = 7 then some [0, 2, 3] else if r = 3 then some [0, 2, 3] else if r = 9 then some [2, 3] else none) else
 if f = 92 then (if r = 6 then some [0, 1, 4] else none) else
 if f = 93 then (if r = 8 then some [2, 3, 23, 24, 25] else if r = 9 then some [2, 3, 23, 24, 25] else if r = 16 then some [2, 3, 45, 46, 47] else if r = 21 then some [2, 45, 46, 47] else if r = 22 then some [2, 3, 11, 45, 46, 47] else if r = 23 then some [2, 3, 45, 46, 47] else if r = 17 then some [2, 3, 45, 46, 47] else if r = 30 then some [2, 3] else none) else
 if f = 104 then (if r = 3 then some [0] else none) else
 if f = 105 then (if r = 26 then some [2] else none) else
 if f = 106 then (if r = 17 then some [6, 8] else if r = 13 then some [0, 6, 8] else if r = 11 then some [0, 2, 6, 7, 8] else none) else
 if f = 107 then (if r = 2 then some [] else if r = 3 then some [0, 1] else none) else
 if f = 108 then (if r = 4 then some [] else if r = 2 then some [] else if r = 3 then some [0, 1] else if r = 5 then some [0, 1] else none) else
 if f = 109 then (if r = 2 then some [0, 1, 7, 8] else if r = 6 then some [0, 1, 7, 8] else if r = 3 then some [0, 1, 7, 8] else if r = 7 then some [] else none) else
 if f = 126 then (if r = 2 then some [] else if r = 5 then some [0, 1] else if r = 6 then some [6, 7] else if r = 3 then some [0, 1] else none) else
 if f = 128 then (if r = 4 then some [4, 5] else none) else
 if f = 130 then (if r = 13 then some [0, 1, 4, 5] else if r = 15 then some [0, 1, 4, 5] else if r = 5 then some [0, 1, 4, 5] else none) else
 if f = 131 then (if r = 5 then some [0, 1, 4, 5, 6, 7, 8] else if r = 18 then some [4, 6] else if r = 15 then some [0, 4, 5, 6] else if r = 32 then some [0, 1, 4, 5, 6, 7, 8, 9] else if r = 35 then some [0, 1, 4, 5, 6, 7, 8, 9, 11, 15] else if r = 33 then some [0, 1, 4, 5, 6, 7, 8, 9, 11] else if r = 36 then some [0, 1, 4, 5, 6, 7, 8, 11, 15] else if r = 28 then some [0, 1, 4, 5, 6, 7, 8, 9, 11] else if r = 22 then some [0, 1, 4, 5, 6, 7, 8, 9] else if r = 6 then some [0, 1, 4, 5, 6, 7, 8] else if r = 7 then some [0, 1, 4, 5, 6, 7, 8] else if r = 38 then some [4] else none) else
 if f = 132 then (if r = 19 then some [0, 1, 4, 7] else if r = 23 then some [4, 7] else if r = 20 then some [0, 4, 7] else if r = 17 then some [0, 1, 4] else if r = 4 then some [0, 1, 4] else none) else
 if f = 133 then (if r = 7 then some [4] else if r = 8 then some [0, 1, 4] else if r = 6 then some [0, 1, 4] else if r = 10 then some [0, 1, 4, 5] else if r = 11 then some [4, 5] else if r = 9 then some [0, 1, 4, 5] else none) else
 if f = 134 then (if r = 3 then some [0] else none) else
 if f = 147 then (if r = 3 then some [0] else none) else
 if f = 148 then (if r = 3 then some [0] else none) else
 if f = 149 then (if r = 11 then some [] else none) else
 if f = 150 then (if r = 16 then some [1] else if r = 17 then some [0, 2] else none) else
 if f = 152 then (if r = 2 then some [] else if r = 3 then some [0, 1] else none) else
 if f = 153 then (if r = 13 then some [0, 2, 5] else if r = 9 then some [0, 2, 5] else if r = 5 then some [0, 5] else none) else
 if f = 154 then (if r = 2 then some [0, 1, 7, 8] else if r = 6 then some [0, 1, 7, 8] else if r = 3 then some [0, 1, 7, 8] else if r = 7 then some [] else none) else
 if f = 156 then (if r = 3 then some [0, 3, 4] else if r = 5 then some [0, 3, 4] else if r = 6 then some [3] else none) else
 if f = 170 then (if r = 3 then some [3, 6, 7, 8] else if r = 6 then some [] else if r = 7 then some [5, 6, 7, 8] else if r = 8 then some [3, 6, 7, 8] else if r = 4 then some [3, 6, 7, 8] else if r = 9 then some [] else none) else
 if f = 171 then (if r = 4 then some [3, 4, 7, 8, 9] else if r = 8 then some [3, 6, 7, 8, 9] else if r = 9 then some [3, 4, 7, 8, 9] else if r = 5 then some [3, 4, 7, 8, 9] else if r = 12 then some [3] else if r = 10 then some [3, 4] else none) else
 if f = 172 then (if r = 4 then some [0] else if r = 2 then some [0] else if r = 3 then some [0] else if r = 5 then some [] else none) else
 if f = 179 then (if r = 2 then some [0, 1, 7, 8] else if r = 6 then some [0, 1, 7, 8] else if r = 3 then some [0, 1, 7, 8] else if r = 7 then some [] else none) else
 if f = 191 then (if r = 2 then some [0, 1, 7, 8] else if r = 6 then some [0, 1, 7, 8] else if r = 3 then some [0, 1, 7, 8] else if r = 7 then some [] else none) else
 none
def ownT : FuncId → List Nat := fun f =>
 if f = 22 then [110] else
 if f = 69 then [3, 9] else
 if f = 91 then [3, 23] else
 if f = 130 then [44] else
 if f = 149 then [2] else
 if f = 153 then [3, 6, 29] else
 if f = 171 then [3, 17, 31] else
 []
def rawT : FuncId → Bool := fun f => if f = 149 then true else if f = 153 then true else if f = 178 then true else false
def ZI9 : FuncId → List Nat := fun f => if f = 143 then [60] else []
def HH : Hints := ⟨ZI8, ownT, rawT, ZI9⟩
def XX : FuncId → Option (List AV → List Row → Option Res) := fun f => if f = 52 then some Zmz else if f = 146 then some ZpS else if f = 169 then some Zmy else if f = 174 then some Zmx else none
noncomputable abbrev PP : Program := Tryz.prog
noncomputable abbrev EE : GF := E PP XX HH
noncomputable abbrev LL : LF := L PP XX HH
end Go.Proofs.YteoeggbihfnbfaaGreatDoor.N2
end
noncomputable section
set_option linter.unusedSimpArgs false
set_option linter.unusedVariables false
namespace Go.Proofs.YteoeggbihfnbfaaGreatDoor.N2
open Go Go.Abs
set_option linter.unusedVariables false
set_option maxRecDepth 100000
def ZkT : Code := Z2K Tryz.f7
def Zhy (r0 : AV) (B : List Row) : Option Res :=
 ob (ob (some r0) fun v => ob (some []) fun vs => some (v :: vs)) fun vs => some ((nrmA (match vs with | [v] => v | vs => Z1M (vs.map shr))), B)
def Zks (m0 : Nat) : Kont := kret PP HH 7 Tryz.f7.results
def ZI5 (m0 : Nat) : Kont := kseq HH 7 m0 (l2 (l2 (l2 ZkT))) (exec PP HH 7 m0 EE LL (l2 (l2 (l2 ZkT))) (Zks m0)) (Zks m0)
def ZI6 (m0 : Nat) : Kont := kseq HH 7 m0 (l2 (l2 (l2 (l2 (l2 (l2 ZkT)))))) (exec PP HH 7 m0 EE LL (l2 (l2 (l2 (l2 (l2 (l2 ZkT)))))) (Zks m0)) (Zks m0)
def ZAq (m0 : Nat) (x2 x3 : AV) (B : List Row) : Option Res := exec PP HH 7 m0 EE LL (l2 (l2 ZkT)) (Zks m0) [(2, x2), (3, x3)] B
def ZrU (m0 : Nat) (B : List Row) : Option Res := exec PP HH 7 m0 EE LL (l1 (l2 (l1 (l2 (l2 ZkT))))) (ZI5 m0) [] B
def ZAr (m0 : Nat) (x2 x3 : AV) (B : List Row) : Option Res := exec PP HH 7 m0 EE LL (l2 (l2 (l2 ZkT))) (Zks m0) [(2, x2), (3, x3)] B
def ZAs (m0 : Nat) (x6 : AV) (B : List Row) : Option Res := exec PP HH 7 m0 EE LL (l1 (l2 (l2 (l1 (l2 (l2 (l2 (l2 (l2 ZkT))))))))) (ZI6 m0) [(6, x6)] B
def ZrT (m0 : Nat) (x3 x5 x6 x7 : AV) (B : List Row) : Option Res := exec PP HH 7 m0 EE LL (l2 (l2 (l2 (l2 (l2 (l2 ZkT)))))) (Zks m0) [(3, x3), (5, x5), (6, x6), (7, x7)] B
def Zwc (m0 : Nat) (x3 x5 x6 : AV) (B : List Row) : Option Res := exec PP HH 7 m0 EE LL (l2 (l2 (l2 (l2 (l2 (l2 (l2 ZkT))))))) (Zks m0) [(3, x3), (5, x5), (6, x6)] B
theorem ZDy m0 x2 x3 B : ZAq m0 x2 x3 B =
 mk (ob (ldN true 5 x2 B) fun a9 =>
 ob (ldN true 5 x3 B) fun a10 =>
 ob (xlit PP 22 1 [(0, a10)]) fun a11 =>
 ob (Z1G PP 29 [(4, a11)]) fun a12 =>
 callS false EE 15 [a9, a12] B fun a13 B14 =>
 ob (xun PP .not a13) fun a15 =>
 asB (shr a15) fun t16 => br t16 (ZrU m0  (gcB m0 [] B14))
 (ob (ldN true 5 x2 B14) fun a17 =>
 callS false EE 16 [a17] B14 fun a18 B19 =>
 ob (ZkN false 0 1 a18) fun a20 =>
 ob (xbin PP .neq 30 a20 (iv 0)) fun a21 =>
 asB (shr (shr a21)) fun t22 => br t22 (ZrU m0  (gcB m0 [] B19))
 (ob (ldN true 5 x3 B19) fun a23 =>
 callS false EE 27 [a23] B19 fun a24 B25 =>
 ob (xun PP .not a24) fun a26 =>
 asB (shr a26) fun t27 => br t27 (ZrU m0  (gcB m0 [] B25))
 (ZAr m0 x2 x3 (gcB m0 [x2, x3] B25))))) := by kernel_rfl
theorem ZDz m0 B : ZrU m0  B =
 mk (Zhy (bv true) B) := by kernel_rfl
theorem ZDA m0 x2 x3 B : ZAr m0 x2 x3 B =
 mk (ob (ldN true 5 x2 B) fun a28 =>
 ob (ldN true 5 x3 B) fun a29 =>
 ob (xlit PP 22 1 [(0, a29)]) fun a30 =>
 ob (Z1G PP 29 [(0, (iv (-1))), (1, (iv (-1))), (2, (iv (-1))), (3, (iv (-1))), (4, a30)]) fun a31 =>
 callS false EE 23 [a28, a31] B fun a32 B33 =>
 ob (xext 0 (shr a32)) fun a34 =>
 ob (xext 1 (shr a32)) fun a35 =>
 bz PP 24 B33 fun a36 B37 =>
 bz PP 32 B37 fun a38 B39 =>
 stN 5 a36 (shr a34) B39 fun B40 =>
 stN 3 a38 (shr a35) B40 fun B41 =>
 mk (ob (xfld 4 x3) fun a42 =>
 ob (ldN false 1 a42 B41) fun a43 =>
 callS false EE 21 [a43] B41 fun a44 B45 =>
 bz PP 32 B45 fun a46 B47 =>
 stN 3 a46 a44 B47 fun B48 =>
 mk (ob (ldN true 5 x2 B48) fun a49 =>
 ob (xfld 0 x3) fun a50 =>
 ob (ldN false 1 a50 B48) fun a51 =>
 callS false EE 28 [a49, a51] B48 fun a52 B53 =>
 ob (xext 0 (shr a52)) fun a54 =>
 ob (xext 1 (shr a52)) fun a55 =>
 bz PP 43 B53 fun a56 B57 =>
 stN 5 a56 (shr a54) B57 fun B58 =>
 mk (ob (xun PP .not (shr (shr (shr a55)))) fun a59 =>
 asB (shr a59) fun t60 => br t60 (ob (xfld 4 x2) fun a61 =>
 ob (ldN false 1 a61 B58) fun a62 =>
 ob (xlen PP 22 a62) fun a63 =>
 ob (xbin PP .eql 3 a63 (iv 16)) fun a64 =>
 asB (shr a64) fun t65 => br t65 (ZAs m0 a38 (gcB m0 [a38] B58))
 (ZrT m0 x3 a36 a38 a46 (gcB m0 [x3, a36, a38, a46] B58)))
 (ZrT m0 x3 a36 a38 a46 (gcB m0 [x3, a36, a38, a46] B58)))))) := by kernel_rfl
theorem ZDB m0 x6 B : ZAs m0 x6 B =
 mk (ob (xfld 0 x6) fun a66 =>
 ob (ldN false 1 a66 B) fun a67 =>
 ob (xbin PP .eql 30 a67 (iv 33)) fun a68 =>
 Zhy (shr a68) B) := by kernel_rfl
theorem ZC6 m0 x3 x5 x6 x7 B : ZrT m0 x3 x5 x6 x7 B =
 mk (ob (xfld 0 x7) fun a69 =>
 ob (ldN false 1 a69 B) fun a70 =>
 ob (xbin PP .neq 30 a70 (iv 0)) fun a71 =>
 asB a71 fun t72 => br t72 (mk (ob (ldN true 3 x6 B) fun a73 =>
 ob (xfld 0 x7) fun a74 =>
 ob (ldN false 1 a74 B) fun a75 =>
 ob (xfld 0 x3) fun a76 =>
 ob (ldN false 1 a76 B) fun a77 =>
 ob (xfld 2 x7) fun a78 =>
 ob (ldN false 1 a78 B) fun a79 =>
 ob (Z1G PP 32 [(0, a75), (1, a77), (2, a79)]) fun a80 =>
 ob (xbin PP .eql 32 a73 a80) fun a81 =>
 asB (shr a81) fun t82 => br t82 (ob (xfld 4 x5) fun a83 =>
 ob (ldN false 1 a83 B) fun a84 =>
 ob (xlen PP 22 a84) fun a85 =>
 ob (xbin PP .eql 3 a85 (iv 0)) fun a86 =>
 Zhy (shr (shr a86)) B)
 (Zhy (bv false) B)))
 (Zwc m0 x3 x5 x6 (gcB m0 [x3, x5, x6] B))) := by kernel_rfl
theorem ZC7 m0 x3 x5 x6 B : Zwc m0 x3 x5 x6 B =
 mk (ob (ldN true 5 x5 B) fun a87 =>
 ob (xfld 0 x3) fun a88 =>
 ob (ldN false 1 a88 B) fun a89 =>
 callS false EE 28 [a87, a89] B fun a90 B91 =>
 ob (xext 0 (shr a90)) fun a92 =>
 ob (xext 1 (shr a90)) fun a93 =>
 bz PP 43 B91 fun a94 B95 =>
 stN 5 a94 (shr a92) B95 fun B96 =>
 mk (ob (xfld 0 x6) fun a97 =>
 ob (ldN false 1 a97 B96) fun a98 =>
 ob (xbin PP .eql 30 a98 (iv 0)) fun a99 =>
 asB (shr a99) fun t100 => br t100 (asB (shr (shr (shr (shr (shr a93))))) fun t101 => br t101 (ob (ldN true 5 a94 B96) fun a102 =>
 ob (ldN true 5 x3 B96) fun a103 =>
 ob (xbin PP .eql 43 a102 a103) fun a104 =>
 Zhy (shr (shr a104)) B96)
 (Zhy (bv false) B96))
 (Zhy (bv false) B96))) := by kernel_rfl
theorem ZI4 x0 x1 B : EE 7 [x0, x1] B =
 (let m0 := B.length
 mk (bx x0 B fun a1 B2 =>
 bx x1 B2 fun a3 B4 =>
 mk (callS false EE 14 [] B4 fun a5 B6 =>
 ob (xun PP .not a5) fun a7 =>
 asB a7 fun t8 => br t8 (mk (Zhy (bv false) B6))
 (ZAq m0 a1 a3 (gcB m0 [a1, a3] B6))))) := (E_eq PP XX HH _ _ _).trans (by kernel_rfl)
def Zt7 (r0 : AV) (B : List Row) : Option Res :=
 ob (ob (some r0) fun v => ob (some []) fun vs => some (v :: vs)) fun vs => some ((nrmA (match vs with | [v] => v | vs => Z1M (vs.map shr))), B)
theorem ZGL B : EE 14 [] B =
 (let m0 := B.length
 mk (mk (callS false EE 43 [] B fun a1 B2 =>
 bz PP 24 B2 fun a3 B4 =>
 stN 5 a3 a1 B4 fun B5 =>
 mk (ob (Z1G PP 43 [(0, (iv 3)), (3, (iv 1)), (4, (.p (.v (.string (ByteArray.mk #[40])))))]) fun a6 =>
 ob (Z1G PP 43 [(0, (iv 7)), (3, (iv 1)), (4, (.p (.v (.string (ByteArray.mk #[41])))))]) fun a7 =>
 ob (xlit PP 22 2 [(0, a6), (1, a7)]) fun a8 =>
 ob (xfld 4 a3) fun a9 =>
 stN 1 a9 a8 B5 fun B10 =>
 mk (callS false EE 21 [(.p (.v (.string (ByteArray.mk #[97, 42, 42]))))] B10 fun a11 B12 =>
 ob (Z1G PP 32 [(0, (iv 23)), (2, (iv 2))]) fun a13 =>
 ob (xbin PP .eql 32 a11 a13) fun a14 =>
 asB (shr a14) fun t15 => br t15 (ob (ldN true 5 a3 B12) fun a16 =>
 callS false EE 16 [a16] B12 fun a17 B18 =>
 ob (Z1G PP 32 [(0, (iv 20)), (1, (iv 3))]) fun a19 =>
 ob (xbin PP .eql 32 a17 a19) fun a20 =>
 asB (shr (shr a20)) fun t21 => br t21 (callS false EE 43 [] B18 fun a22 B23 =>
 callS false EE 16 [a22] B23 fun a24 B25 =>
 ob (Z1G PP 32 []) fun a26 =>
 ob (xbin PP .eql 32 a24 a26) fun a27 =>
 Zt7 (shr (shr a27)) B25)
 (Zt7 (bv false) B18))
 (Zt7 (bv false) B12)))))) := (E_eq PP XX HH _ _ _).trans (by kernel_rfl)
def ZaU : Code := Z2K Tryz.f15
def Ztp (r0 : AV) (B : List Row) : Option Res :=
 ob (ob (some r0) fun v => ob (some []) fun vs => some (v :: vs)) fun vs => some ((nrmA (match vs with | [v] => v | vs => Z1M (vs.map shr))), B)
def Zvu (m0 : Nat) : Kont := kret PP HH 15 Tryz.f15.results
def ZGN (m0 : Nat) : Kont := kseq HH 15 m0 (l2 (l2 ZaU)) (exec PP HH 15 m0 EE LL (l2 (l2 ZaU)) (Zvu m0)) (Zvu m0)
def Zvv (m0 : Nat) : Kont := kblk 0 (ZGN m0)
def ZrH (m0 : Nat) : Kont := kloop HH 15 m0 (l1 (l1 (l2 (l1 (l2 ZaU))))) (LL 15 m0 (l1 (l1 (l2 (l1 (l2 ZaU))))) (Zvv m0)) (Zvv m0)
def ZGO (m0 : Nat) : Kont := kseq HH 15 m0 (l2 (l2 (l2 (l1 (l1 (l2 (l1 (l2 ZaU)))))))) (exec PP HH 15 m0 EE LL (l2 (l2 (l2 (l1 (l1 (l2 (l1 (l2 ZaU)))))))) (ZrH m0)) (ZrH m0)
def ZBk (m0 : Nat) : Kont := kblk 1 (ZGO m0)
def Zvw (m0 : Nat) : Kont := kblk 2 (ZBk m0)
def ZBl (m0 : Nat) : Kont := kloop HH 15 m0 (l1 (l1 (l2 (l2 (l2 (l1 (l1 (l2 (l2 (l1 (l1 (l2 (l1 (l2 ZaU)))))))))))))) (LL 15 m0 (l1 (l1 (l2 (l2 (l2 (l1 (l1 (l2 (l2 (l1 (l1 (l2 (l1 (l2 ZaU)))))))))))))) (Zvw m0)) (Zvw m0)
def ZlE (m0 : Nat) (x3 x13 x14 : AV) (B : List Row) : Option Res := lp (LL 15 m0 (l1 (l1 (l2 (l1 (l2 ZaU))))) (Zvv m0) [(3, x3), (13, x13), (14, x14)] B)
def Zvx (m0 : Nat) (x3 x13 x14 : AV) (B : List Row) : Option Res := exec PP HH 15 m0 EE LL (l2 (l2 (l1 (l1 (l2 (l1 (l2 ZaU))))))) (ZrH m0) [(3, x3), (13, x13), (14, x14)] B
def Zto (m0 : Nat) (x3 : AV) (B : List Row) : Option Res := exec PP HH 15 m0 EE LL (l2 (l2 ZaU)) (Zvu m0) [(3, x3)] B
def Zvy (m0 : Nat) (x3 x6 x13 x14 : AV) (B : List Row) : Option Res := exec PP HH 15 m0 EE LL (l2 (l2 (l1 (l1 (l2 (l2 (l1 (l1 (l2 (l1 (l2 ZaU))))))))))) (ZBk m0) [(3, x3), (6, x6), (13, x13), (14, x14)] B
def ZlF (m0 : Nat) (x3 x13 x14 x20 x21 x22 : AV) (B : List Row) : Option Res := lp (LL 15 m0 (l1 (l1 (l2 (l2 (l2 (l1 (l1 (l2 (l2 (l1 (l1 (l2 (l1 (l2 ZaU)))))))))))))) (Zvw m0) [(3, x3), (13, x13), (14, x14), (20, x20), (21, x21), (22, x22)] B)
def Zvz (m0 : Nat) (x3 x13 x14 x20 x21 x22 : AV) (B : List Row) : Option Res := exec PP HH 15 m0 EE LL (l2 (l2 (l1 (l1 (l2 (l2 (l2 (l1 (l1 (l2 (l2 (l1 (l1 (l2 (l1 (l2 ZaU)))))))))))))))) (ZBl m0) [(3, x3), (13, x13), (14, x14), (20, x20), (21, x21), (22, x22)] B
def Ztn (m0 : Nat) (x3 x13 x14 : AV) (B : List Row) : Option Res := exec PP HH 15 m0 EE LL (l2 (l2 (l2 (l1 (l1 (l2 (l1 (l2 ZaU)))))))) (ZrH m0) [(3, x3), (13, x13), (14, x14)] B
def Ztm (m0 : Nat) (x3 x13 x14 x20 x21 x22 : AV) (B : List Row) : Option Res := exec PP HH 15 m0 EE LL (l2 (l2 (l2 (l1 (l1 (l2 (l2 (l2 (l1 (l1 (l2 (l2 (l1 (l1 (l2 (l1 (l2 ZaU))))))))))))))))) (ZBl m0) [(3, x3), (13, x13), (14, x14), (20, x20), (21, x21), (22, x22)] B
theorem ZBm m0 x3 x13 x14 B : ZlE m0 x3 x13 x14 B =
 mk (ob (xbin PP .lss 3 x14 (iv 2)) fun a10 =>
 asB a10 fun t11 => br t11 (Zvx m0 x3 x13 x14 (gcB m0 [x3, x13, x14] B))
 (Zto m0 x3 (gcB m0 [x3] B))) := (L_eq PP XX HH _ _ _ _ _ _).trans (by kernel_rfl)
theorem ZBo m0 x3 x13 x14 B : Zvx m0 x3 x13 x14 B =
 mk (ob (xat PP 91 x13 x14) fun a12 =>
 mk (ob (xlen PP 22 (shr (shr a12))) fun a13 =>
 ob (xbin PP .gtr 3 a13 (iv 20)) fun a14 =>
 asB a14 fun t15 => br t15 (mk (Ztp (bv false) B))
 (Zvy m0 x3 (shr a12) x13 x14 (gcB m0 [x3, (shr a12), x13, x14] B)))) := by kernel_rfl
theorem ZzC m0 x3 B : Zto m0 x3 B =
 mk (ob (xfld 5 x3) fun a16 =>
 ob (ldN false 1 a16 B) fun a17 =>
 ob (xlen PP 27 a17) fun a18 =>
 ob (xbin PP .leq 3 a18 (iv 40)) fun a19 =>
 Ztp (shr a19) B) := by kernel_rfl
theorem ZBp m0 x3 x6 x13 x14 B : Zvy m0 x3 x6 x13 x14 B =
 mk (ob (xlen PP 22 (shr x6)) fun a20 =>
 ZlF m0 x3 x13 x14 (shr x6) a20 (iv 0) (gcB m0 [x3, x13, x14, (shr x6), a20, (iv 0)] B)) := by kernel_rfl
theorem ZBn m0 x3 x13 x14 x20 x21 x22 B : ZlF m0 x3 x13 x14 x20 x21 x22 B =
 mk (ob (xbin PP .lss 3 x22 x21) fun a21 =>
 asB a21 fun t22 => br t22 (Zvz m0 x3 x13 x14 x20 x21 x22 (gcB m0 [x3, x13, x14, x20, x21, x22] B))
 (Ztn m0 x3 x13 x14 (gcB m0 [x3, x13, x14] B))) := (L_eq PP XX HH _ _ _ _ _ _).trans (by kernel_rfl)
theorem ZBq m0 x3 x13 x14 x20 x21 x22 B : Zvz m0 x3 x13 x14 x20 x21 x22 B =
 mk (ob (xidx 5 x20 x22) fun a23 =>
 ob (ldN true 5 a23 B) fun a24 =>
 bz PP 43 B fun a25 B26 =>
 stN 5 a25 a24 B26 fun B27 =>
 mk (ob (xfld 4 a25) fun a28 =>
 ob (ldN false 1 a28 B27) fun a29 =>
 ob (xlen PP 9 a29) fun a30 =>
 ob (xbin PP .gtr 3 a30 (iv 300)) fun a31 =>
 asB a31 fun t32 => br t32 (mk (Ztp (bv false) B27))
 (Ztm m0 x3 x13 x14 x20 x21 x22 (gcB m0 [x3, x13, x14, x20, x21, x22] B27)))) := by kernel_rfl
theorem ZzB m0 x3 x13 x14 B : Ztn m0 x3 x13 x14 B =
 mk (ob (xbin PP .add 3 x14 (iv 1)) fun a33 =>
 ZlE m0 x3 x13 (shr a33) (gcB m0 [x3, x13, (shr a33)] B)) := by kernel_rfl
theorem ZzA m0 x3 x13 x14 x20 x21 x22 B : Ztm m0 x3 x13 x14 x20 x21 x22 B =
 mk (ob (xbin PP .add 3 x22 (iv 1)) fun a34 =>
 ZlF m0 x3 x13 x14 x20 x21 (shr a34) (gcB m0 [x3, x13, x14, x20, x21, (shr a34)] B)) := by kernel_rfl
theorem ZGM x0 x1 B : EE 15 [x0, x1] B =
 (let m0 := B.length
 mk (bx x0 B fun a1 B2 =>
 bx x1 B2 fun a3 B4 =>
 mk (ob (xfld 4 a1) fun a5 =>
 ob (ldN false 1 a5 B4) fun a6 =>
 ob (xfld 4 a3) fun a7 =>
 ob (ldN false 1 a7 B4) fun a8 =>
 ob (Z1G PP 91 [(0, a6), (1, a8)]) fun a9 =>
 ZlE m0 a3 a9 (iv 0) (gcB m0 [a3, a9, (iv 0)] B4)))) := (E_eq PP XX HH _ _ _).trans (by kernel_rfl)
def Zit : Code := Z2K Tryz.f16
def Zts (r0 : AV) (B : List Row) : Option Res :=
 ob (ob (ldN true 3 r0 B) fun v => ob (some []) fun vs => some (v :: vs)) fun vs => some ((nrmA (match vs with | [v] => v | vs => Z1M (vs.map shr))), B)
def ZrI (m0 : Nat) : Kont := kret PP HH 16 Tryz.f16.results
def ZGQ (m0 : Nat) : Kont := kseq HH 16 m0 (l2 (l2 (l2 Zit))) (exec PP HH 16 m0 EE LL (l2 (l2 (l2 Zit))) (ZrI m0)) (ZrI m0)
def ZvA (m0 : Nat) : Kont := kblk 0 (ZGQ m0)
def ZBr (m0 : Nat) : Kont := kloop HH 16 m0 (l1 (l1 (l2 (l1 (l2 (l2 Zit)))))) (LL 16 m0 (l1 (l1 (l2 (l1 (l2 (l2 Zit)))))) (ZvA m0)) (ZvA m0)
def ZvB (m0 : Nat) (x1 x2 : AV) (B : List Row) : Option Res := exec PP HH 16 m0 EE LL (l2 (l2 Zit)) (ZrI m0) [(1, x1), (2, x2)] B
def ZlG (m0 : Nat) (x2 x11 x12 x13 : AV) (B : List Row) : Option Res := lp (LL 16 m0 (l1 (l1 (l2 (l1 (l2 (l2 Zit)))))) (ZvA m0) [(2, x2), (11, x11), (12, x12), (13, x13)] B)
def ZvC (m0 : Nat) (x2 x11 x12 x13 : AV) (B : List Row) : Option Res := exec PP HH 16 m0 EE LL (l2 (l2 (l1 (l1 (l2 (l1 (l2 (l2 Zit)))))))) (ZBr m0) [(2, x2), (11, x11), (12, x12), (13, x13)] B
def Ztr (m0 : Nat) (x2 : AV) (B : List Row) : Option Res := exec PP HH 16 m0 EE LL (l2 (l2 (l2 Zit))) (ZrI m0) [(2, x2)] B
def Ztq (m0 : Nat) (x2 x11 x12 x13 : AV) (B : List Row) : Option Res := exec PP HH 16 m0 EE LL (l2 (l2 (l2 (l1 (l1 (l2 (l1 (l2 (l2 Zit))))))))) (ZBr m0) [(2, x2), (11, x11), (12, x12), (13, x13)] B
theorem ZBt m0 x1 x2 B : ZvB m0 x1 x2 B =
 mk (ob (xfld 4 x1) fun a12 =>
 ob (ldN false 1 a12 B) fun a13 =>
 ob (xlen PP 22 a13) fun a14 =>
 ZlG m0 x2 a13 a14 (iv 0) (gcB m0 [x2, a13, a14, (iv 0)] B)) := by kernel_rfl
theorem ZBs m0 x2 x11 x12 x13 B : ZlG m0 x2 x11 x12 x13 B =
 mk (ob (xbin PP .lss 3 x13 x12) fun a15 =>
 asB a15 fun t16 => br t16 (ZvC m0 x2 x11 x12 x13 (gcB m0 [x2, x11, x12, x13] B))
 (Ztr m0 x2 (gcB m0 [x2] B))) := (L_eq PP XX HH _ _ _ _ _ _).trans (by kernel_rfl)
theorem ZBu m0 x2 x11 x12 x13 B : ZvC m0 x2 x11 x12 x13 B =
 mk (ob (xidx 5 x11 x13) fun a17 =>
 ob (ldN true 5 a17 B) fun a18 =>
 bz PP 43 B fun a19 B20 =>
 stN 5 a19 a18 B20 fun B21 =>
 mk (ob (xfld 4 a19) fun a22 =>
 ob (ldN false 1 a22 B21) fun a23 =>
 callS false EE 21 [a23] B21 fun a24 B25 =>
 bz PP 32 B25 fun a26 B27 =>
 stN 3 a26 a24 B27 fun B28 =>
 mk (ob (xfld 0 a26) fun a29 =>
 ob (ldN false 1 a29 B28) fun a30 =>
 ob (xbin PP .neq 30 a30 (iv 0)) fun a31 =>
 asB a31 fun t32 => br t32 (mk (ob (xfld 0 a19) fun a33 =>
 ob (ldN false 1 a33 B28) fun a34 =>
 ob (xfld 1 a26) fun a35 =>
 stN 1 a35 a34 B28 fun B36 =>
 mk (ob (ldN true 3 a26 B36) fun a37 =>
 stN 3 x2 a37 B36 fun B38 =>
 Zts x2 B38)))
 (Ztq m0 x2 x11 x12 x13 (gcB m0 [x2, x11, x12, x13] B28))))) := by kernel_rfl
theorem ZzE m0 x2 B : Ztr m0 x2 B =
 mk (ob (Z1G PP 32 []) fun a39 =>
 stN 3 x2 a39 B fun B40 =>
 Zts x2 B40) := by kernel_rfl
theorem ZzD m0 x2 x11 x12 x13 B : Ztq m0 x2 x11 x12 x13 B =
 mk (ob (xbin PP .add 3 x13 (iv 1)) fun a41 =>
 ZlG m0 x2 x11 x12 (shr a41) (gcB m0 [x2, x11, x12, (shr a41)] B)) := by kernel_rfl
theorem ZGP x0 B : EE 16 [x0] B =
 (let m0 := B.length
 mk (bx x0 B fun a1 B2 =>
 bz PP 32 B2 fun a3 B4 =>
 mk (ob (ldN true 5 a1 B4) fun a5 =>
 callS false EE 20 [a5] B4 fun a6 B7 =>
 ob (xun PP .not a6) fun a8 =>
 asB a8 fun t9 => br t9 (mk (ob (Z1G PP 32 [(0, (iv 10))]) fun a10 =>
 stN 3 a3 a10 B7 fun B11 =>
 Zts a3 B11))
 (ZvB m0 a1 a3 (gcB m0 [a1, a3] B7))))) := (E_eq PP XX HH _ _ _).trans (by kernel_rfl)
def Z9X : Code := Z2K Tryz.f20
def ZtT (r0 : AV) (B : List Row) : Option Res :=
 ob (ob (some r0) fun v => ob (some []) fun vs => some (v :: vs)) fun vs => some ((nrmA (match vs with | [v] => v | vs => Z1M (vs.map shr))), B)
def ZlI (m0 : Nat) : Kont := kret PP HH 20 Tryz.f20.results
def ZGS (m0 : Nat) : Kont := kseq HH 20 m0 (l2 (l2 Z9X)) (exec PP HH 20 m0 EE LL (l2 (l2 Z9X)) (ZlI m0)) (ZlI m0)
def ZGT (m0 : Nat) : Kont := kseq HH 20 m0 (l2 (l2 (l2 (l2 Z9X)))) (exec PP HH 20 m0 EE LL (l2 (l2 (l2 (l2 Z9X)))) (ZlI m0)) (ZlI m0)
def ZvH (m0 : Nat) : Kont := kblk 0 (ZGT m0)
def ZrJ (m0 : Nat) : Kont := kloop HH 20 m0 (l1 (l1 (l2 (l1 (l2 (l2 (l2 Z9X))))))) (LL 20 m0 (l1 (l1 (l2 (l1 (l2 (l2 (l2 Z9X))))))) (ZvH m0)) (ZvH m0)
def ZGU (m0 : Nat) : Kont := kseq HH 20 m0 (l2 (l2 (l2 (l1 (l1 (l2 (l1 (l2 (l2 (l2 Z9X)))))))))) (exec PP HH 20 m0 EE LL (l2 (l2 (l2 (l1 (l1 (l2 (l1 (l2 (l2 (l2 Z9X)))))))))) (ZrJ m0)) (ZrJ m0)
def ZvI (m0 : Nat) : Kont := kblk 1 (ZGU m0)
def ZGV (m0 : Nat) : Kont := kseq HH 20 m0 (l2 (l2 (l1 (l1 (l2 (l2 (l1 (l1 (l2 (l1 (l2 (l2 (l2 Z9X))))))))))))) (exec PP HH 20 m0 EE LL (l2 (l2 (l1 (l1 (l2 (l2 (l1 (l1 (l2 (l1 (l2 (l2 (l2 Z9X))))))))))))) (ZvI m0)) (ZvI m0)
def ZrK (m0 : Nat) (B : List Row) : Option Res := exec PP HH 20 m0 EE LL (l1 (l2 (l1 (l2 Z9X)))) (ZGS m0) [] B
def ZvJ (m0 : Nat) (x1 : AV) (B : List Row) : Option Res := exec PP HH 20 m0 EE LL (l2 (l2 Z9X)) (ZlI m0) [(1, x1)] B
def ZlJ (m0 : Nat) (x3 x16 x17 x18 : AV) (B : List Row) : Option Res := lp (LL 20 m0 (l1 (l1 (l2 (l1 (l2 (l2 (l2 Z9X))))))) (ZvH m0) [(3, x3), (16, x16), (17, x17), (18, x18)] B)
def ZvK (m0 : Nat) (x3 x16 x17 x18 : AV) (B : List Row) : Option Res := exec PP HH 20 m0 EE LL (l2 (l2 (l1 (l1 (l2 (l1 (l2 (l2 (l2 Z9X))))))))) (ZrJ m0) [(3, x3), (16, x16), (17, x17), (18, x18)] B
def ZtS (m0 : Nat) (B : List Row) : Option Res := exec PP HH 20 m0 EE LL (l2 (l2 (l2 (l2 Z9X)))) (ZlI m0) [] B
def ZrL (m0 : Nat) (B : List Row) : Option Res := exec PP HH 20 m0 EE LL (l1 (l2 (l1 (l2 (l1 (l1 (l2 (l2 (l1 (l1 (l2 (l1 (l2 (l2 (l2 Z9X))))))))))))))) (ZGV m0) [] B
def ZvL (m0 : Nat) (x5 x16 x17 x18 : AV) (B : List Row) : Option Res := exec PP HH 20 m0 EE LL (l2 (l2 (l1 (l1 (l2 (l2 (l1 (l1 (l2 (l1 (l2 (l2 (l2 Z9X))))))))))))) (ZvI m0) [(5, x5), (16, x16), (17, x17), (18, x18)] B
def ZtR (m0 : Nat) (x3 x16 x17 x18 : AV) (B : List Row) : Option Res := exec PP HH 20 m0 EE LL (l2 (l2 (l2 (l1 (l1 (l2 (l1 (l2 (l2 (l2 Z9X)))))))))) (ZrJ m0) [(3, x3), (16, x16), (17, x17), (18, x18)] B
theorem ZBw m0 B : ZrK m0  B =
 mk (ZtT (bv false) B) := by kernel_rfl
theorem ZBx m0 x1 B : ZvJ m0 x1 B =
 mk (mk (ob (xfld 4 x1) fun a13 =>
 ob (ldN false 1 a13 B) fun a14 =>
 ob (xlen PP 22 a14) fun a15 =>
 ZlJ m0 (iv 0) a14 a15 (iv 0) (gcB m0 [(iv 0), a14, a15, (iv 0)] B))) := by kernel_rfl
theorem ZBv m0 x3 x16 x17 x18 B : ZlJ m0 x3 x16 x17 x18 B =
 mk (ob (xbin PP .lss 3 x18 x17) fun a16 =>
 asB a16 fun t17 => br t17 (ZvK m0 x3 x16 x17 x18 (gcB m0 [x3, x16, x17, x18] B))
 (ZtS m0  (gcB m0 [] B))) := (L_eq PP XX HH _ _ _ _ _ _).trans (by kernel_rfl)
theorem ZBy m0 x3 x16 x17 x18 B : ZvK m0 x3 x16 x17 x18 B =
 mk (ob (xidx 5 x16 x18) fun a18 =>
 ob (ldN true 5 a18 B) fun a19 =>
 bz PP 43 B fun a20 B21 =>
 stN 5 a20 a19 B21 fun B22 =>
 mk (ob (ldN true 5 a20 B22) fun a23 =>
 callS false EE 27 [a23] B22 fun a24 B25 =>
 ob (xun PP .not a24) fun a26 =>
 asB (shr a26) fun t27 => br t27 (ZrL m0  (gcB m0 [] B25))
 (ob (xfld 0 a20) fun a28 =>
 ob (ldN false 1 a28 B25) fun a29 =>
 ob (xbin PP .leq 3 a29 (shr x3)) fun a30 =>
 asB (shr a30) fun t31 => br t31 (ZrL m0  (gcB m0 [] B25))
 (ZvL m0 a20 x16 x17 x18 (gcB m0 [a20, x16, x17, x18] B25))))) := by kernel_rfl
theorem ZA2 m0 B : ZtS m0  B =
 mk (ZtT (bv true) B) := by kernel_rfl
theorem ZBz m0 B : ZrL m0  B =
 mk (ZtT (bv false) B) := by kernel_rfl
theorem ZBA m0 x5 x16 x17 x18 B : ZvL m0 x5 x16 x17 x18 B =
 mk (ob (xfld 0 x5) fun a32 =>
 ob (ldN false 1 a32 B) fun a33 =>
 ZtR m0 (shr a33) x16 x17 x18 (gcB m0 [(shr a33), x16, x17, x18] B)) := by kernel_rfl
theorem ZA1 m0 x3 x16 x17 x18 B : ZtR m0 x3 x16 x17 x18 B =
 mk (ob (xbin PP .add 3 x18 (iv 1)) fun a34 =>
 ZlJ m0 x3 x16 x17 (shr a34) (gcB m0 [x3, x16, x17, (shr a34)] B)) := by kernel_rfl
theorem ZGR x0 B : EE 20 [x0] B =
 (let m0 := B.length
 mk (bx x0 B fun a1 B2 =>
 mk (ob (ldN true 5 a1 B2) fun a3 =>
 callS false EE 46 [a3] B2 fun a4 B5 =>
 ob (xun PP .not a4) fun a6 =>
 asB (shr a6) fun t7 => br t7 (ZrK m0  (gcB m0 [] B5))
 (ob (xfld 4 a1) fun a8 =>
 ob (ldN false 1 a8 B5) fun a9 =>
 ob (xlen PP 22 a9) fun a10 =>
 ob (xbin PP .gtr 3 a10 (iv 16)) fun a11 =>
 asB (shr a11) fun t12 => br t12 (ZrK m0  (gcB m0 [] B5))
 (ZvJ m0 a1 (gcB m0 [a1] B5)))))) := (E_eq PP XX HH _ _ _).trans (by kernel_rfl)
def ZI1 : Code := Z2K Tryz.f21
def Zyf (r0 : AV) (B : List Row) : Option Res :=
 ob (ob (ldN true 3 r0 B) fun v => ob (some []) fun vs => some (v :: vs)) fun vs => some ((nrmA (match vs with | [v] => v | vs => Z1M (vs.map shr))), B)
def ZGX (m0 : Nat) : Kont := kret PP HH 21 Tryz.f21.results
def ZvM (m0 : Nat) (x2 x3 : AV) (B : List Row) : Option Res := exec PP HH 21 m0 EE LL (l2 (l2 (l2 ZI1))) (ZGX m0) [(2, x2), (3, x3)] B
theorem ZBB m0 x2 x3 B : ZvM m0 x2 x3 B =
 mk (ob (ldN true 9 x3 B) fun a23 =>
 callS false EE 48 [a23] B fun a24 B25 =>
 ob (Z1G PP 32 [(0, a24)]) fun a26 =>
 stN 3 x2 a26 B25 fun B27 =>
 Zyf x2 B27) := by kernel_rfl
theorem ZGW x0 B : EE 21 [x0] B =
 (let m0 := B.length
 mk (bz PP 32 B fun a1 B2 =>
 mk (callS false EE 47 [(shr x0)] B2 fun a3 B4 =>
 ob (xext 0 (shr a3)) fun a5 =>
 ob (xext 1 (shr a3)) fun a6 =>
 bz PP 100 B4 fun a7 B8 =>
 bz PP 102 B8 fun a9 B10 =>
 stN 9 a7 (shr a5) B10 fun B11 =>
 stN 2 a9 (shr a6) B11 fun B12 =>
 mk (ob (xfld 0 a9) fun a13 =>
 ob (ldN false 1 a13 B12) fun a14 =>
 ob (xbin PP .neq 30 a14 (iv 0)) fun a15 =>
 asB a15 fun t16 => br t16 (mk (ob (xfld 0 a9) fun a17 =>
 ob (ldN false 1 a17 B12) fun a18 =>
 ob (xfld 1 a9) fun a19 =>
 ob (ldN false 1 a19 B12) fun a20 =>
 ob (Z1G PP 32 [(0, a18), (2, a20)]) fun a21 =>
 stN 3 a1 a21 B12 fun B22 =>
 Zyf a1 B22))
 (ZvM m0 a1 a7 (gcB m0 [a1, a7] B12)))))) := (E_eq PP XX HH _ _ _).trans (by kernel_rfl)
def Z3N : Code := Z2K Tryz.f22
def Zje (r0 r1 : AV) (B : List Row) : Option Res :=
 ob (ob (ldN true 5 r0 B) fun v => ob (ob (some r1) fun v => ob (some []) fun vs => some (v :: vs)) fun vs => some (v :: vs)) fun vs => some ((nrmA (match vs with | [v] => v | vs => Z1M (vs.map shr))), B)
def Z7W (m0 : Nat) : Kont := kret PP HH 22 Tryz.f22.results
def ZGZ (m0 : Nat) : Kont := kseq HH 22 m0 (l2 (l2 (l2 (l2 (l2 (l2 (l2 (l2 Z3N)))))))) (exec PP HH 22 m0 EE LL (l2 (l2 (l2 (l2 (l2 (l2 (l2 (l2 Z3N)))))))) (Z7W m0)) (Z7W m0)
def ZH0 (m0 : Nat) : Kont := kseq HH 22 m0 (l2 (l2 (l2 (l2 (l2 (l2 (l2 (l2 (l2 (l2 (l2 Z3N))))))))))) (exec PP HH 22 m0 EE LL (l2 (l2 (l2 (l2 (l2 (l2 (l2 (l2 (l2 (l2 (l2 Z3N))))))))))) (Z7W m0)) (Z7W m0)
def ZvN (m0 : Nat) : Kont := kblk 0 (ZH0 m0)
def ZH1 (m0 : Nat) : Kont := kloop HH 22 m0 (l1 (l1 (l2 (l1 (l2 (l2 (l2 (l2 (l2 (l2 (l2 (l2 (l2 (l2 Z3N)))))))))))))) (LL 22 m0 (l1 (l1 (l2 (l1 (l2 (l2 (l2 (l2 (l2 (l2 (l2 (l2 (l2 (l2 Z3N)))))))))))))) (ZvN m0)) (ZvN m0)
def ZH2 (m0 : Nat) : Kont := kseq HH 22 m0 (l2 (l2 (l2 (l2 (l2 (l2 (l2 (l2 (l2 (l2 (l2 (l2 Z3N)))))))))))) (exec PP HH 22 m0 EE LL (l2 (l2 (l2 (l2 (l2 (l2 (l2 (l2 (l2 (l2 (l2 (l2 Z3N)))))))))))) (Z7W m0)) (Z7W m0)
def ZvO (m0 : Nat) : Kont := kblk 2 (ZH2 m0)
def ZrM (m0 : Nat) : Kont := kloop HH 22 m0 (l1 (l1 (l2 (l1 (l2 (l2 (l2 (l2 (l2 (l2 (l2 (l2 (l2 (l2 (l2 Z3N))))))))))))))) (LL 22 m0 (l1 (l1 (l2 (l1 (l2 (l2 (l2 (l2 (l2 (l2 (l2 (l2 (l2 (l2 (l2 Z3N))))))))))))))) (ZvO m0)) (ZvO m0)
def ZH3 (m0 : Nat) : Kont := kseq HH 22 m0 (l2 (l2 (l2 (l1 (l1 (l2 (l1 (l2 (l2 (l2 (l2 (l2 (l2 (l2 (l2 (l2 (l2 (l2 Z3N)))))))))))))))))) (exec PP HH 22 m0 EE LL (l2 (l2 (l2 (l1 (l1 (l2 (l1 (l2 (l2 (l2 (l2 (l2 (l2 (l2 (l2 (l2 (l2 (l2 Z3N)))))))))))))))))) (ZrM m0)) (ZrM m0)
def ZH4 (m0 : Nat) : Kont := kblk 3 (ZH3 m0)
def ZFL (m0 : Nat) : Kont := kseq HH 22 m0 (l2 (l2 (l2 (l2 (l2 (l2 (l2 (l2 (l2 (l2 (l2 (l2 (l2 Z3N))))))))))))) (exec PP HH 22 m0 EE LL (l2 (l2 (l2 (l2 (l2 (l2 (l2 (l2 (l2 (l2 (l2 (l2 (l2 Z3N))))))))))))) (Z7W m0)) (Z7W m0)
def ZtU (m0 : Nat) : Kont := kblk 4 (ZFL m0)
def ZFM (m0 : Nat) : Kont := kloop HH 22 m0 (l1 (l1 (l2 (l1 (l2 (l2 (l2 (l2 (l2 (l2 (l2 (l2 (l2 (l2 (l2 (l2 Z3N)))))))))))))))) (LL 22 m0 (l1 (l1 (l2 (l1 (l2 (l2 (l2 (l2 (l2 (l2 (l2 (l2 (l2 (l2 (l2 (l2 Z3N)))))))))))))))) (ZtU m0)) (ZtU m0)
def ZFN (m0 : Nat) : Kont := kseq HH 22 m0 (l2 (l2 (l2 (l2 (l2 (l2 (l2 (l2 (l2 (l2 (l2 (l2 (l2 (l2 (l2 (l2 Z3N)))))))))))))))) (exec PP HH 22 m0 EE LL (l2 (l2 (l2 (l2 (l2 (l2 (l2 (l2 (l2 (l2 (l2 (l2 (l2 (l2 (l2 (l2 Z3N)))))))))))))))) (Z7W m0)) (Z7W m0)
def ZtV (m0 : Nat) : Kont := kblk 6 (ZFN m0)
def ZFO (m0 : Nat) : Kont := kloop HH 22 m0 (l1 (l1 (l2 (l1 (l2 (l2 (l2 (l2 (l2 (l2 (l2 (l2 (l2 (l2 (l2 (l2 (l2 (l2 (l2 Z3N))))))))))))))))))) (LL 22 m0 (l1 (l1 (l2 (l1 (l2 (l2 (l2 (l2 (l2 (l2 (l2 (l2 (l2 (l2 (l2 (l2 (l2 (l2 (l2 Z3N))))))))))))))))))) (ZtV m0)) (ZtV m0)
def ZvP (m0 : Nat) (x2 x3 x4 : AV) (B : List Row) : Option Res := exec PP HH 22 m0 EE LL (l2 (l2 Z3N)) (Z7W m0) [(2, x2), (3, x3), (4, x4)] B
def ZrN (m0 : Nat) (x4 : AV) (B : List Row) : Option Res := exec PP HH 22 m0 EE LL (l1 (l2 (l1 (l2 (l2 (l2 (l2 (l2 (l2 (l2 Z3N)))))))))) (ZGZ m0) [(4, x4)] B
def ZtW (m0 : Nat) (x2 x3 x4 x6 : AV) (B : List Row) : Option Res := exec PP HH 22 m0 EE LL (l2 (l2 (l2 (l2 (l2 (l2 (l2 (l2 Z3N)))))))) (Z7W m0) [(2, x2), (3, x3), (4, x4), (6, x6)] B
def ZtX (m0 : Nat) (x2 x3 x4 x6 : AV) (B : List Row) : Option Res := exec PP HH 22 m0 EE LL (l2 (l2 (l2 (l2 (l2 (l2 (l2 (l2 (l2 Z3N))))))))) (Z7W m0) [(2, x2), (3, x3), (4, x4), (6, x6)] B
def Zja (m0 : Nat) (x3 x4 x6 x7 x54 x55 x56 : AV) (B : List Row) : Option Res := lp (LL 22 m0 (l1 (l1 (l2 (l1 (l2 (l2 (l2 (l2 (l2 (l2 (l2 (l2 (l2 (l2 Z3N)))))))))))))) (ZvN m0) [(3, x3), (4, x4), (6, x6), (7, x7), (54, x54), (55, x55), (56, x56)] B)
def ZtY (m0 : Nat) (x3 x4 x6 x7 x54 x55 x56 : AV) (B : List Row) : Option Res := exec PP HH 22 m0 EE LL (l2 (l2 (l1 (l1 (l2 (l1 (l2 (l2 (l2 (l2 (l2 (l2 (l2 (l2 (l2 (l2 Z3N)))))))))))))))) (ZH1 m0) [(3, x3), (4, x4), (6, x6), (7, x7), (54, x54), (55, x55), (56, x56)] B
def ZtZ (m0 : Nat) (x3 x4 x6 x7 : AV) (B : List Row) : Option Res := exec PP HH 22 m0 EE LL (l2 (l2 (l2 (l2 (l2 (l2 (l2 (l2 (l2 (l2 (l2 Z3N))))))))))) (Z7W m0) [(3, x3), (4, x4), (6, x6), (7, x7)] B
def Zjb (m0 : Nat) (x3 x4 x6 x7 x66 x67 x68 : AV) (B : List Row) : Option Res := lp (LL 22 m0 (l1 (l1 (l2 (l1 (l2 (l2 (l2 (l2 (l2 (l2 (l2 (l2 (l2 (l2 (l2 Z3N))))))))))))))) (ZvO m0) [(3, x3), (4, x4), (6, x6), (7, x7), (66, x66), (67, x67), (68, x68)] B)
def Zu0 (m0 : Nat) (x3 x4 x6 x7 x66 x67 x68 : AV) (B : List Row) : Option Res := exec PP HH 22 m0 EE LL (l2 (l2 (l1 (l1 (l2 (l1 (l2 (l2 (l2 (l2 (l2 (l2 (l2 (l2 (l2 (l2 (l2 Z3N))))))))))))))))) (ZrM m0) [(3, x3), (4, x4), (6, x6), (7, x7), (66, x66), (67, x67), (68, x68)] B
def Zu3 (m0 : Nat) (x3 x4 x6 x7 : AV) (B : List Row) : Option Res := exec PP HH 22 m0 EE LL (l2 (l2 (l2 (l2 (l2 (l2 (l2 (l2 (l2 (l2 (l2 (l2 Z3N)))))))))))) (Z7W m0) [(3, x3), (4, x4), (6, x6), (7, x7)] B
def Zu1 (m0 : Nat) (x3 x4 x6 x7 x11 x66 x67 x68 : AV) (B : List Row) : Option Res := exec PP HH 22 m0 EE LL (l2 (l2 (l1 (l1 (l2 (l2 (l1 (l1 (l2 (l1 (l2 (l2 (l2 (l2 (l2 (l2 (l2 (l2 (l2 (l2 (l2 Z3N))))))))))))))))))))) (ZH4 m0) [(3, x3), (4, x4), (6, x6), (7, x7), (11, x11), (66, x66), (67, x67), (68, x68)] B
def Zjc (m0 : Nat) (x4 x6 x7 x85 x86 x87 : AV) (B : List Row) : Option Res := lp (LL 22 m0 (l1 (l1 (l2 (l1 (l2 (l2 (l2 (l2 (l2 (l2 (l2 (l2 (l2 (l2 (l2 (l2 Z3N)))))))))))))))) (ZtU m0) [(4, x4), (6, x6), (7, x7), (85, x85), (86, x86), (87, x87)] B)
def Zu2 (m0 : Nat) (x3 x4 x6 x7 x66 x67 x68 : AV) (B : List Row) : Option Res := exec PP HH 22 m0 EE LL (l2 (l2 (l2 (l1 (l1 (l2 (l1 (l2 (l2 (l2 (l2 (l2 (l2 (l2 (l2 (l2 (l2 (l2 Z3N)))))))))))))))))) (ZrM m0) [(3, x3), (4, x4), (6, x6), (7, x7), (66, x66), (67, x67), (68, x68)] B
def Zu4 (m0 : Nat) (x4 x6 x7 x85 x86 x87 : AV) (B : List Row) : Option Res := exec PP HH 22 m0 EE LL (l2 (l2 (l1 (l1 (l2 (l1 (l2 (l2 (l2 (l2 (l2 (l2 (l2 (l2 (l2 (l2 (l2 (l2 Z3N)))))))))))))))))) (ZFM m0) [(4, x4), (6, x6), (7, x7), (85, x85), (86, x86), (87, x87)] B
def Zu5 (m0 : Nat) (x4 x6 x7 : AV) (B : List Row) : Option Res := exec PP HH 22 m0 EE LL (l2 (l2 (l2 (l2 (l2 (l2 (l2 (l2 (l2 (l2 (l2 (l2 (l2 Z3N))))))))))))) (Z7W m0) [(4, x4), (6, x6), (7, x7)] B
def Zu6 (m0 : Nat) (x4 x6 x7 : AV) (B : List Row) : Option Res := exec PP HH 22 m0 EE LL (l2 (l2 (l2 (l2 (l2 (l2 (l2 (l2 (l2 (l2 (l2 (l2 (l2 (l2 Z3N)))))))))))))) (Z7W m0) [(4, x4), (6, x6), (7, x7)] B
def Zjd (m0 : Nat) (x4 x6 x7 x103 x104 x105 : AV) (B : List Row) : Option Res := lp (LL 22 m0 (l1 (l1 (l2 (l1 (l2 (l2 (l2 (l2 (l2 (l2 (l2 (l2 (l2 (l2 (l2 (l2 (l2 (l2 (l2 Z3N))))))))))))))))))) (ZtV m0) [(4, x4), (6, x6), (7, x7), (103, x103), (104, x104), (105, x105)] B)
def Zu7 (m0 : Nat) (x4 x6 x7 x103 x104 x105 : AV) (B : List Row) : Option Res := exec PP HH 22 m0 EE LL (l2 (l2 (l1 (l1 (l2 (l1 (l2 (l2 (l2 (l2 (l2 (l2 (l2 (l2 (l2 (l2 (l2 (l2 (l2 (l2 (l2 Z3N))))))))))))))))))))) (ZFO m0) [(4, x4), (6, x6), (7, x7), (103, x103), (104, x104), (105, x105)] B
def Zu8 (m0 : Nat) (x4 x6 : AV) (B : List Row) : Option Res := exec PP HH 22 m0 EE LL (l2 (l2 (l2 (l2 (l2 (l2 (l2 (l2 (l2 (l2 (l2 (l2 (l2 (l2 (l2 (l2 Z3N)))))))))))))))) (Z7W m0) [(4, x4), (6, x6)] B
theorem ZBC m0 x2 x3 x4 B : ZvP m0 x2 x3 x4 B =
 mk (ob (ldN true 5 x2 B) fun a14 =>
 bz PP 24 B fun a15 B16 =>
 stN 5 a15 a14 B16 fun B17 =>
 mk (ob (xfld 0 a15) fun a18 =>
 ob (xfld 0 x3) fun a19 =>
 ob (ldN false 1 a19 B17) fun a20 =>
 callS false EE 49 [a18, a20] B17 fun a21 B22 =>
 mk (ob (xfld 1 a15) fun a23 =>
 ob (xfld 1 x3) fun a24 =>
 ob (ldN false 1 a24 B22) fun a25 =>
 callS false EE 49 [a23, a25] B22 fun a26 B27 =>
 mk (ob (xfld 2 a15) fun a28 =>
 ob (xfld 2 x3) fun a29 =>
 ob (ldN false 1 a29 B27) fun a30 =>
 callS false EE 49 [a28, a30] B27 fun a31 B32 =>
 mk (ob (xfld 3 a15) fun a33 =>
 ob (xfld 3 x3) fun a34 =>
 ob (ldN false 1 a34 B32) fun a35 =>
 callS false EE 49 [a33, a35] B32 fun a36 B37 =>
 mk (ob (ldN true 5 a15 B37) fun a38 =>
 callS false EE 46 [a38] B37 fun a39 B40 =>
 ob (xun PP .not a39) fun a41 =>
 asB (shr a41) fun t42 => br t42 (ZrN m0 x4 (gcB m0 [x4] B40))
 (ob (xfld 4 x3) fun a43 =>
 ob (ldN false 1 a43 B40) fun a44 =>
 callS false EE 50 [a44, (.clo 27 [] [])] B40 fun a45 B46 =>
 ob (xun PP .not a45) fun a47 =>
 asB (shr a47) fun t48 => br t48 (ZrN m0 x4 (gcB m0 [x4] B46))
 (ZtW m0 x2 x3 x4 a15 (gcB m0 [x2, x3, x4, a15] B46))))))))) := by kernel_rfl
theorem ZBD m0 x4 B : ZrN m0 x4 B =
 mk (ob (Z1G PP 24 []) fun a49 =>
 stN 5 x4 a49 B fun B50 =>
 Zje x4 (iv 30) B50) := by kernel_rfl
theorem ZA7 m0 x2 x3 x4 x6 B : ZtW m0 x2 x3 x4 x6 B =
 mk (ob (ldN true 6 x3 B) fun a51 =>
 callS false EE 51 [a51] B fun a52 B53 =>
 asB a52 fun t54 => br t54 (mk (ob (Z1G PP 24 []) fun a55 =>
 stN 5 x4 a55 B53 fun B56 =>
 Zje x4 (iv 31) B56))
 (ZtX m0 x2 x3 x4 x6 (gcB m0 [x2, x3, x4, x6] B53))) := by kernel_rfl
theorem ZA8 m0 x2 x3 x4 x6 B : ZtX m0 x2 x3 x4 x6 B =
 mk (xmake PP 110 B fun a57 B58 =>
 mk (ob (xfld 4 x2) fun a59 =>
 ob (ldN false 1 a59 B58) fun a60 =>
 ob (xlen PP 22 a60) fun a61 =>
 Zja m0 x3 x4 x6 (shr a57) a60 a61 (iv 0) (gcB m0 [x3, x4, x6, (shr a57), a60, a61, (iv 0)] B58))) := by kernel_rfl
theorem ZA3 m0 x3 x4 x6 x7 x54 x55 x56 B : Zja m0 x3 x4 x6 x7 x54 x55 x56 B =
 mk (ob (xbin PP .lss 3 x56 x55) fun a62 =>
 asB a62 fun t63 => br t63 (ZtY m0 x3 x4 x6 x7 x54 x55 x56 (gcB m0 [x3, x4, x6, x7, x54, x55, x56] B))
 (ZtZ m0 x3 x4 x6 x7 (gcB m0 [x3, x4, x6, x7] B))) := (L_eq PP XX HH _ _ _ _ _ _).trans (by kernel_rfl)
theorem ZA9 m0 x3 x4 x6 x7 x54 x55 x56 B : ZtY m0 x3 x4 x6 x7 x54 x55 x56 B =
 mk (ob (xidx 5 x54 x56) fun a64 =>
 ob (ldN true 5 a64 B) fun a65 =>
 bz PP 43 B fun a66 B67 =>
 stN 5 a66 a65 B67 fun B68 =>
 mk (ob (xfld 0 a66) fun a69 =>
 ob (ldN false 1 a69 B68) fun a70 =>
 ob (ldN true 5 a66 B68) fun a71 =>
 xupd PP 110 (shr x7) a70 a71 B68 fun B72 =>
 mk (ob (xbin PP .add 3 x56 (iv 1)) fun a73 =>
 Zja m0 x3 x4 x6 x7 x54 x55 (shr a73) (gcB m0 [x3, x4, x6, x7, x54, x55, (shr a73)] B72)))) := by kernel_rfl
theorem ZAa m0 x3 x4 x6 x7 B : ZtZ m0 x3 x4 x6 x7 B =
 mk (ob (xfld 5 x3) fun a74 =>
 ob (ldN false 1 a74 B) fun a75 =>
 ob (xlen PP 27 a75) fun a76 =>
 Zjb m0 x3 x4 x6 x7 a75 a76 (iv 0) (gcB m0 [x3, x4, x6, x7, a75, a76, (iv 0)] B)) := by kernel_rfl
theorem ZA4 m0 x3 x4 x6 x7 x66 x67 x68 B : Zjb m0 x3 x4 x6 x7 x66 x67 x68 B =
 mk (ob (xbin PP .lss 3 x68 x67) fun a77 =>
 asB a77 fun t78 => br t78 (Zu0 m0 x3 x4 x6 x7 x66 x67 x68 (gcB m0 [x3, x4, x6, x7, x66, x67, x68] B))
 (Zu3 m0 x3 x4 x6 x7 (gcB m0 [x3, x4, x6, x7] B))) := (L_eq PP XX HH _ _ _ _ _ _).trans (by kernel_rfl)
theorem ZAb m0 x3 x4 x6 x7 x66 x67 x68 B : Zu0 m0 x3 x4 x6 x7 x66 x67 x68 B =
 mk (ob (xidx 1 x66 x68) fun a79 =>
 ob (ldN false 1 a79 B) fun a80 =>
 mk (ob (Zgb PP 110 true (shr x7) (shr (shr a80)) B) fun a81 =>
 ob (xext 0 (shr a81)) fun a82 =>
 ob (xext 1 (shr a81)) fun a83 =>
 bz PP 43 B fun a84 B85 =>
 stN 5 a84 (shr a82) B85 fun B86 =>
 mk (ob (xun PP .not (shr (shr (shr a83)))) fun a87 =>
 asB a87 fun t88 => br t88 (mk (ob (Z1G PP 24 []) fun a89 =>
 stN 5 x4 a89 B86 fun B90 =>
 Zje x4 (iv 32) B90))
 (Zu1 m0 x3 x4 x6 x7 (shr a80) x66 x67 x68 (gcB m0 [x3, x4, x6, x7, (shr a80), x66, x67, x68] B86))))) := by kernel_rfl
theorem ZAe m0 x3 x4 x6 x7 B : Zu3 m0 x3 x4 x6 x7 B =
 mk (ob (xfld 4 x3) fun a91 =>
 ob (ldN false 1 a91 B) fun a92 =>
 ob (xlen PP 22 a92) fun a93 =>
 Zjc m0 x4 x6 x7 a92 a93 (iv 0) (gcB m0 [x4, x6, x7, a92, a93, (iv 0)] B)) := by kernel_rfl
theorem ZAc m0 x3 x4 x6 x7 x11 x66 x67 x68 B : Zu1 m0 x3 x4 x6 x7 x11 x66 x67 x68 B =
 mk (xdel PP 110 (shr x7) (shr x11) B fun B94 =>
 Zu2 m0 x3 x4 x6 x7 x66 x67 x68 (gcB m0 [x3, x4, x6, x7, x66, x67, x68] B94)) := by kernel_rfl
theorem ZA5 m0 x4 x6 x7 x85 x86 x87 B : Zjc m0 x4 x6 x7 x85 x86 x87 B =
 mk (ob (xbin PP .lss 3 x87 x86) fun a95 =>
 asB a95 fun t96 => br t96 (Zu4 m0 x4 x6 x7 x85 x86 x87 (gcB m0 [x4, x6, x7, x85, x86, x87] B))
 (Zu5 m0 x4 x6 x7 (gcB m0 [x4, x6, x7] B))) := (L_eq PP XX HH _ _ _ _ _ _).trans (by kernel_rfl)
theorem ZAd m0 x3 x4 x6 x7 x66 x67 x68 B : Zu2 m0 x3 x4 x6 x7 x66 x67 x68 B =
 mk (ob (xbin PP .add 3 x68 (iv 1)) fun a97 =>
 Zjb m0 x3 x4 x6 x7 x66 x67 (shr a97) (gcB m0 [x3, x4, x6, x7, x66, x67, (shr a97)] B)) := by kernel_rfl
theorem ZAf m0 x4 x6 x7 x85 x86 x87 B : Zu4 m0 x4 x6 x7 x85 x86 x87 B =
 mk (ob (xidx 5 x85 x87) fun a98 =>
 ob (ldN true 5 a98 B) fun a99 =>
 bz PP 43 B fun a100 B101 =>
 stN 5 a100 a99 B101 fun B102 =>
 mk (ob (xfld 0 a100) fun a103 =>
 ob (ldN false 1 a103 B102) fun a104 =>
 ob (ldN true 5 a100 B102) fun a105 =>
 xupd PP 110 (shr x7) a104 a105 B102 fun B106 =>
 mk (ob (xbin PP .add 3 x87 (iv 1)) fun a107 =>
 Zjc m0 x4 x6 x7 x85 x86 (shr a107) (gcB m0 [x4, x6, x7, x85, x86, (shr a107)] B106)))) := by kernel_rfl
theorem ZAg m0 x4 x6 x7 B : Zu5 m0 x4 x6 x7 B =
 mk (ob (Zo2 (shr x7) B) fun a108 =>
 ob (xbin PP .gtr 3 a108 (iv 16)) fun a109 =>
 asB a109 fun t110 => br t110 (mk (ob (Z1G PP 24 []) fun a111 =>
 stN 5 x4 a111 B fun B112 =>
 Zje x4 (iv 33) B112))
 (Zu6 m0 x4 x6 x7 (gcB m0 [x4, x6, x7] B))) := by kernel_rfl
theorem ZAh m0 x4 x6 x7 B : Zu6 m0 x4 x6 x7 B =
 mk (ob (xfld 4 x6) fun a113 =>
 stN 1 a113 nilA B fun B114 =>
 mk (callS false EE 53 [(shr x7)] B114 fun a115 B116 =>
 callS false EE 52 [a115] B116 fun a117 B118 =>
 ob (xlen PP 27 a117) fun a119 =>
 Zjd m0 x4 x6 x7 a117 a119 (iv 0) (gcB m0 [x4, x6, x7, a117, a119, (iv 0)] B118))) := by kernel_rfl
theorem ZA6 m0 x4 x6 x7 x103 x104 x105 B : Zjd m0 x4 x6 x7 x103 x104 x105 B =
 mk (ob (xbin PP .lss 3 x105 x104) fun a120 =>
 asB a120 fun t121 => br t121 (Zu7 m0 x4 x6 x7 x103 x104 x105 (gcB m0 [x4, x6, x7, x103, x104, x105] B))
 (Zu8 m0 x4 x6 (gcB m0 [x4, x6] B))) := (L_eq PP XX HH _ _ _ _ _ _).trans (by kernel_rfl)
theorem ZAi m0 x4 x6 x7 x103 x104 x105 B : Zu7 m0 x4 x6 x7 x103 x104 x105 B =
 mk (ob (xidx 1 x103 x105) fun a122 =>
 ob (ldN false 1 a122 B) fun a123 =>
 mk (ob (xfld 4 x6) fun a124 =>
 ldOwn a124 B fun a125 B126 =>
 ob (Zgb PP 110 false (shr x7) (shr (shr a123)) B126) fun a127 =>
 ob (xlit PP 22 1 [(0, a127)]) fun a128 =>
 ob (xapp 5 a125 a128) fun a129 =>
 ob (xfld 4 x6) fun a130 =>
 stN 1 a130 a129 B126 fun B131 =>
 mk (ob (xbin PP .add 3 x105 (iv 1)) fun a132 =>
 Zjd m0 x4 x6 x7 x103 x104 (shr a132) (gcB m0 [x4, x6, x7, x103, x104, (shr a132)] B131)))) := by kernel_rfl
theorem ZAj m0 x4 x6 B : Zu8 m0 x4 x6 B =
 mk (ob (ldN true 5 x6 B) fun a133 =>
 stN 5 x4 a133 B fun B134 =>
 Zje x4 (iv 0) B134) := by kernel_rfl
theorem ZGY x0 x1 B : EE 22 [x0, x1] B =
 (let m0 := B.length
 mk (bx x0 B fun a1 B2 =>
 bx x1 B2 fun a3 B4 =>
 bz PP 24 B4 fun a5 B6 =>
 mk (ob (ldN true 5 a1 B6) fun a7 =>
 callS false EE 20 [a7] B6 fun a8 B9 =>
 ob (xun PP .not a8) fun a10 =>
 asB a10 fun t11 => br t11 (mk (ob (Z1G PP 24 []) fun a12 =>
 stN 5 a5 a12 B9 fun B13 =>
 Zje a5 (iv 10) B13))
 (ZvP m0 a1 a3 a5 (gcB m0 [a1, a3, a5] B9))))) := (E_eq PP XX HH _ _ _).trans (by kernel_rfl)
def ZEm : Code := Z2K Tryz.f23
def Zu9 (r0 r1 : AV) (B : List Row) : Option Res :=
 ob (ob (ldN true 5 r0 B) fun v => ob (ob (ldN true 3 r1 B) fun v => ob (some []) fun vs => some (v :: vs)) fun vs => some (v :: vs)) fun vs => some ((nrmA (match vs with | [v] => v | vs => Z1M (vs.map shr))), B)
def ZBE (m0 : Nat) : Kont := kret PP HH 23 Tryz.f23.results
def ZvQ (m0 : Nat) (x4 x5 x6 : AV) (B : List Row) : Option Res := exec PP HH 23 m0 EE LL (l2 (l2 (l2 ZEm))) (ZBE m0) [(4, x4), (5, x5), (6, x6)] B
def ZvR (m0 : Nat) (x4 x5 x6 : AV) (B : List Row) : Option Res := exec PP HH 23 m0 EE LL (l2 (l2 (l2 (l2 ZEm)))) (ZBE m0) [(4, x4), (5, x5), (6, x6)] B
theorem ZBF m0 x4 x5 x6 B : ZvQ m0 x4 x5 x6 B =
 mk (ob (ldN true 5 x6 B) fun a24 =>
 callS false EE 16 [a24] B fun a25 B26 =>
 bz PP 32 B26 fun a27 B28 =>
 stN 3 a27 a25 B28 fun B29 =>
 mk (ob (xfld 0 a27) fun a30 =>
 ob (ldN false 1 a30 B29) fun a31 =>
 ob (xbin PP .neq 30 a31 (iv 0)) fun a32 =>
 asB a32 fun t33 => br t33 (mk (ob (Z1G PP 24 []) fun a34 =>
 ob (ldN true 3 a27 B29) fun a35 =>
 stN 5 x4 a34 B29 fun B36 =>
 stN 3 x5 a35 B36 fun B37 =>
 grd (Zb2 a27 x4) (Zu9 x4 x5 B37)))
 (ZvR m0 x4 x5 x6 (gcB m0 [x4, x5, x6] B29)))) := by kernel_rfl
theorem ZBG m0 x4 x5 x6 B : ZvR m0 x4 x5 x6 B =
 mk (ob (ldN true 5 x6 B) fun a38 =>
 ob (Z1G PP 32 []) fun a39 =>
 stN 5 x4 a38 B fun B40 =>
 stN 3 x5 a39 B40 fun B41 =>
 Zu9 x4 x5 B41) := by kernel_rfl
theorem ZH5 x0 x1 B : EE 23 [x0, x1] B =
 (let m0 := B.length
 mk (bx x0 B fun a1 B2 =>
 bx x1 B2 fun a3 B4 =>
 bz PP 24 B4 fun a5 B6 =>
 bz PP 32 B6 fun a7 B8 =>
 mk (ob (ldN true 5 a1 B8) fun a9 =>
 ob (ldN true 6 a3 B8) fun a10 =>
 callS false EE 22 [a9, a10] B8 fun a11 B12 =>
 ob (xext 0 (shr a11)) fun a13 =>
 ob (xext 1 (shr a11)) fun a14 =>
 bz PP 24 B12 fun a15 B16 =>
 stN 5 a15 (shr a13) B16 fun B17 =>
 mk (ob (xbin PP .neq 30 (shr (shr (shr a14))) (iv 0)) fun a18 =>
 asB a18 fun t19 => br t19 (mk (ob (Z1G PP 24 []) fun a20 =>
 ob (Z1G PP 32 [(0, (shr (shr (shr a14))))]) fun a21 =>
 stN 5 a5 a20 B17 fun B22 =>
 stN 3 a7 a21 B22 fun B23 =>
 Zu9 a5 a7 B23))
 (ZvQ m0 a5 a7 a15 (gcB m0 [a5, a7, a15] B17)))))) := (E_eq PP XX HH _ _ _).trans (by kernel_rfl)
def Zde (r0 : AV) (B : List Row) : Option Res :=
 ob (ob (some r0) fun v => ob (some []) fun vs => some (v :: vs)) fun vs => some ((nrmA (match vs with | [v] => v | vs => Z1M (vs.map shr))), B)
theorem ZH6 x0 B : EE 27 [x0] B =
 (let m0 := B.length
 mk (bx x0 B fun a1 B2 =>
 mk (ob (xfld 0 a1) fun a3 =>
 ob (ldN false 1 a3 B2) fun a4 =>
 ob (xbin PP .geq 3 a4 (iv 1)) fun a5 =>
 asB (shr a5) fun t6 => br t6 (ob (xfld 0 a1) fun a7 =>
 ob (ldN false 1 a7 B2) fun a8 =>
 ob (xbin PP .leq 3 a8 (iv 1099511627776)) fun a9 =>
 asB (shr (shr a9)) fun t10 => br t10 (ob (xfld 1 a1) fun a11 =>
 ob (ldN false 1 a11 B2) fun a12 =>
 ob (xbin PP .geq 3 a12 (iv 0)) fun a13 =>
 asB (shr (shr a13)) fun t14 => br t14 (ob (xfld 1 a1) fun a15 =>
 ob (ldN false 1 a15 B2) fun a16 =>
 ob (xbin PP .leq 3 a16 (iv 1000)) fun a17 =>
 asB (shr (shr a17)) fun t18 => br t18 (ob (xfld 2 a1) fun a19 =>
 ob (ldN false 1 a19 B2) fun a20 =>
 ob (xbin PP .geq 3 a20 (iv 0)) fun a21 =>
 asB (shr (shr a21)) fun t22 => br t22 (ob (xfld 2 a1) fun a23 =>
 ob (ldN false 1 a23 B2) fun a24 =>
 ob (xbin PP .leq 3 a24 (iv 255)) fun a25 =>
 asB (shr (shr a25)) fun t26 => br t26 (ob (xfld 3 a1) fun a27 =>
 ob (ldN false 1 a27 B2) fun a28 =>
 ob (xbin PP .geq 3 a28 (iv 1)) fun a29 =>
 asB (shr (shr a29)) fun t30 => br t30 (ob (xfld 3 a1) fun a31 =>
 ob (ldN false 1 a31 B2) fun a32 =>
 ob (xbin PP .leq 3 a32 (iv 65535)) fun a33 =>
 asB (shr (shr a33)) fun t34 => br t34 (ob (xfld 4 a1) fun a35 =>
 ob (ldN false 1 a35 B2) fun a36 =>
 ob (xlen PP 9 a36) fun a37 =>
 ob (xbin PP .leq 3 a37 (iv 256)) fun a38 =>
 Zde (shr (shr a38)) B2)
 (Zde (bv false) B2))
 (Zde (bv false) B2))
 (Zde (bv false) B2))
 (Zde (bv false) B2))
 (Zde (bv false) B2))
 (Zde (bv false) B2))
 (Zde (bv false) B2))
 (Zde (bv false) B2)))) := (E_eq PP XX HH _ _ _).trans (by kernel_rfl)
def Zkr : Code := Z2K Tryz.f28
def Zyg (r0 r1 : AV) (B : List Row) : Option Res :=
 ob (ob (ldN true 5 r0 B) fun v => ob (ob (some r1) fun v => ob (some []) fun vs => some (v :: vs)) fun vs => some (v :: vs)) fun vs => some ((nrmA (match vs with | [v] => v | vs => Z1M (vs.map shr))), B)
def ZvS (m0 : Nat) : Kont := kret PP HH 28 Tryz.f28.results
def ZH8 (m0 : Nat) : Kont := kseq HH 28 m0 (l2 (l2 Zkr)) (exec PP HH 28 m0 EE LL (l2 (l2 Zkr)) (ZvS m0)) (ZvS m0)
def ZvT (m0 : Nat) : Kont := kblk 0 (ZH8 m0)
def ZBH (m0 : Nat) : Kont := kloop HH 28 m0 (l1 (l1 (l2 (l1 (l2 Zkr))))) (LL 28 m0 (l1 (l1 (l2 (l1 (l2 Zkr))))) (ZvT m0)) (ZvT m0)
def ZlK (m0 : Nat) (x1 x4 x9 x10 x11 : AV) (B : List Row) : Option Res := lp (LL 28 m0 (l1 (l1 (l2 (l1 (l2 Zkr))))) (ZvT m0) [(1, x1), (4, x4), (9, x9), (10, x10), (11, x11)] B)
def ZvU (m0 : Nat) (x1 x4 x9 x10 x11 : AV) (B : List Row) : Option Res := exec PP HH 28 m0 EE LL (l2 (l2 (l1 (l1 (l2 (l1 (l2 Zkr))))))) (ZBH m0) [(1, x1), (4, x4), (9, x9), (10, x10), (11, x11)] B
def ZvW (m0 : Nat) (x4 : AV) (B : List Row) : Option Res := exec PP HH 28 m0 EE LL (l2 (l2 Zkr)) (ZvS m0) [(4, x4)] B
def ZvV (m0 : Nat) (x1 x4 x9 x10 x11 : AV) (B : List Row) : Option Res := exec PP HH 28 m0 EE LL (l2 (l2 (l2 (l1 (l1 (l2 (l1 (l2 Zkr)))))))) (ZBH m0) [(1, x1), (4, x4), (9, x9), (10, x10), (11, x11)] B
theorem ZBI m0 x1 x4 x9 x10 x11 B : ZlK m0 x1 x4 x9 x10 x11 B =
 mk (ob (xbin PP .lss 3 x11 x10) fun a8 =>
 asB a8 fun t9 => br t9 (ZvU m0 x1 x4 x9 x10 x11 (gcB m0 [x1, x4, x9, x10, x11] B))
 (ZvW m0 x4 (gcB m0 [x4] B))) := (L_eq PP XX HH _ _ _ _ _ _).trans (by kernel_rfl)
theorem ZBJ m0 x1 x4 x9 x10 x11 B : ZvU m0 x1 x4 x9 x10 x11 B =
 mk (ob (xidx 5 x9 x11) fun a10 =>
 ob (ldN true 5 a10 B) fun a11 =>
 bz PP 43 B fun a12 B13 =>
 stN 5 a12 a11 B13 fun B14 =>
 mk (ob (xfld 0 a12) fun a15 =>
 ob (ldN false 1 a15 B14) fun a16 =>
 ob (xbin PP .eql 3 a16 (shr x1)) fun a17 =>
 asB a17 fun t18 => br t18 (mk (ob (ldN true 5 a12 B14) fun a19 =>
 stN 5 x4 a19 B14 fun B20 =>
 Zyg x4 (bv true) B20))
 (ZvV m0 x1 x4 x9 x10 x11 (gcB m0 [x1, x4, x9, x10, x11] B14)))) := by kernel_rfl
theorem ZBL m0 x4 B : ZvW m0 x4 B =
 mk (ob (Z1G PP 43 []) fun a21 =>
 stN 5 x4 a21 B fun B22 =>
 Zyg x4 (bv false) B22) := by kernel_rfl
theorem ZBK m0 x1 x4 x9 x10 x11 B : ZvV m0 x1 x4 x9 x10 x11 B =
 mk (ob (xbin PP .add 3 x11 (iv 1)) fun a23 =>
 ZlK m0 x1 x4 x9 x10 (shr a23) (gcB m0 [x1, x4, x9, x10, (shr a23)] B)) := by kernel_rfl
theorem ZH7 x0 x1 B : EE 28 [x0, x1] B =
 (let m0 := B.length
 mk (bx x0 B fun a1 B2 =>
 bz PP 43 B2 fun a3 B4 =>
 mk (ob (xfld 4 a1) fun a5 =>
 ob (ldN false 1 a5 B4) fun a6 =>
 ob (xlen PP 22 a6) fun a7 =>
 ZlK m0 x1 a3 a6 a7 (iv 0) (gcB m0 [x1, a3, a6, a7, (iv 0)] B4)))) := (E_eq PP XX HH _ _ _).trans (by kernel_rfl)
def ZFP (r0 : AV) (B : List Row) : Option Res :=
 ob (ob (ldN true 5 r0 B) fun v => ob (some []) fun vs => some (v :: vs)) fun vs => some ((nrmA (match vs with | [v] => v | vs => Z1M (vs.map shr))), B)
theorem ZH9 B : EE 43 [] B =
 (let m0 := B.length
 mk (bz PP 24 B fun a1 B2 =>
 mk (ob (Z1G PP 24 [(1, (iv 255)), (2, (iv 10000)), (3, (iv 500))]) fun a3 =>
 stN 5 a1 a3 B2 fun B4 =>
 ZFP a1 B4))) := (E_eq PP XX HH _ _ _).trans (by kernel_rfl)
def Zf7 (r0 : AV) (B : List Row) : Option Res :=
 ob (ob (some r0) fun v => ob (some []) fun vs => some (v :: vs)) fun vs => some ((nrmA (match vs with | [v] => v | vs => Z1M (vs.map shr))), B)
theorem ZHa x0 B : EE 46 [x0] B =
 (let m0 := B.length
 mk (bx x0 B fun a1 B2 =>
 mk (ob (xfld 0 a1) fun a3 =>
 ob (ldN false 1 a3 B2) fun a4 =>
 ob (xbin PP .geq 3 a4 (iv 0)) fun a5 =>
 asB (shr a5) fun t6 => br t6 (ob (xfld 0 a1) fun a7 =>
 ob (ldN false 1 a7 B2) fun a8 =>
 ob (xbin PP .leq 3 a8 (iv 255)) fun a9 =>
 asB (shr (shr a9)) fun t10 => br t10 (ob (xfld 1 a1) fun a11 =>
 ob (ldN false 1 a11 B2) fun a12 =>
 ob (xbin PP .geq 3 a12 (iv 0)) fun a13 =>
 asB (shr (shr a13)) fun t14 => br t14 (ob (xfld 1 a1) fun a15 =>
 ob (ldN false 1 a15 B2) fun a16 =>
 ob (xbin PP .leq 3 a16 (iv 255)) fun a17 =>
 asB (shr (shr a17)) fun t18 => br t18 (ob (xfld 2 a1) fun a19 =>
 ob (ldN false 1 a19 B2) fun a20 =>
 ob (xbin PP .geq 3 a20 (iv 1)) fun a21 =>
 asB (shr (shr a21)) fun t22 => br t22 (ob (xfld 2 a1) fun a23 =>
 ob (ldN false 1 a23 B2) fun a24 =>
 ob (xbin PP .leq 3 a24 (iv 1048576)) fun a25 =>
 asB (shr (shr a25)) fun t26 => br t26 (ob (xfld 3 a1) fun a27 =>
 ob (ldN false 1 a27 B2) fun a28 =>
 ob (xbin PP .geq 3 a28 (iv 0)) fun a29 =>
 asB (shr (shr a29)) fun t30 => br t30 (ob (xfld 3 a1) fun a31 =>
 ob (ldN false 1 a31 B2) fun a32 =>
 ob (xbin PP .leq 3 a32 (iv 4096)) fun a33 =>
 Zf7 (shr (shr a33)) B2)
 (Zf7 (bv false) B2))
 (Zf7 (bv false) B2))
 (Zf7 (bv false) B2))
 (Zf7 (bv false) B2))
 (Zf7 (bv false) B2))
 (Zf7 (bv false) B2))
 (Zf7 (bv false) B2)))) := (E_eq PP XX HH _ _ _).trans (by kernel_rfl)
def Zcq : Code := Z2K Tryz.f47
def Zud (r0 r1 : AV) (B : List Row) : Option Res :=
 ob (ob (ldN true 9 r0 B) fun v => ob (ob (ldN true 2 r1 B) fun v => ob (some []) fun vs => some (v :: vs)) fun vs => some (v :: vs)) fun vs => some ((nrmA (match vs with | [v] => v | vs => Z1M (vs.map shr))), B)
def Zhx (m0 : Nat) : Kont := kret PP HH 47 Tryz.f47.results
def ZHc (m0 : Nat) : Kont := kseq HH 47 m0 (l2 (l2 (l2 (l2 (l2 (l2 Zcq)))))) (exec PP HH 47 m0 EE LL (l2 (l2 (l2 (l2 (l2 (l2 Zcq)))))) (Zhx m0)) (Zhx m0)
def ZHd (m0 : Nat) : Kont := kseq HH 47 m0 (l2 (l2 (l2 (l2 (l2 (l2 (l2 Zcq))))))) (exec PP HH 47 m0 EE LL (l2 (l2 (l2 (l2 (l2 (l2 (l2 Zcq))))))) (Zhx m0)) (Zhx m0)
def ZvX (m0 : Nat) : Kont := kblk 0 (ZHd m0)
def ZBM (m0 : Nat) : Kont := kloop HH 47 m0 (l1 (l1 (l2 (l1 (l2 (l2 (l2 (l2 (l2 (l2 Zcq)))))))))) (LL 47 m0 (l1 (l1 (l2 (l1 (l2 (l2 (l2 (l2 (l2 (l2 Zcq)))))))))) (ZvX m0)) (ZvX m0)
def ZvY (m0 : Nat) (x0 x2 x3 : AV) (B : List Row) : Option Res := exec PP HH 47 m0 EE LL (l2 (l2 Zcq)) (Zhx m0) [(0, x0), (2, x2), (3, x3)] B
def ZvZ (m0 : Nat) (x2 x3 x4 x5 : AV) (B : List Row) : Option Res := exec PP HH 47 m0 EE LL (l1 (l2 (l1 (l2 (l2 (l2 (l2 (l2 Zcq)))))))) (ZHc m0) [(2, x2), (3, x3), (4, x4), (5, x5)] B
def ZoC (m0 : Nat) (x2 x3 x4 x5 : AV) (B : List Row) : Option Res := exec PP HH 47 m0 EE LL (l2 (l2 (l2 (l2 (l2 (l2 Zcq)))))) (Zhx m0) [(2, x2), (3, x3), (4, x4), (5, x5)] B
def ZlL (m0 : Nat) (x2 x3 x4 x5 x50 x51 x52 : AV) (B : List Row) : Option Res := lp (LL 47 m0 (l1 (l1 (l2 (l1 (l2 (l2 (l2 (l2 (l2 (l2 Zcq)))))))))) (ZvX m0) [(2, x2), (3, x3), (4, x4), (5, x5), (50, x50), (51, x51), (52, x52)] B)
def Zua (m0 : Nat) (x2 x3 x4 x5 x50 x51 x52 : AV) (B : List Row) : Option Res := exec PP HH 47 m0 EE LL (l2 (l2 (l1 (l1 (l2 (l1 (l2 (l2 (l2 (l2 (l2 (l2 Zcq)))))))))))) (ZBM m0) [(2, x2), (3, x3), (4, x4), (5, x5), (50, x50), (51, x51), (52, x52)] B
def Zub (m0 : Nat) (x2 x3 x4 x5 : AV) (B : List Row) : Option Res := exec PP HH 47 m0 EE LL (l2 (l2 (l2 (l2 (l2 (l2 (l2 Zcq))))))) (Zhx m0) [(2, x2), (3, x3), (4, x4), (5, x5)] B
def ZpH (m0 : Nat) (x2 x3 x4 x5 x50 x51 x52 : AV) (B : List Row) : Option Res := exec PP HH 47 m0 EE LL (l2 (l2 (l2 (l1 (l1 (l2 (l1 (l2 (l2 (l2 (l2 (l2 (l2 Zcq))))))))))))) (ZBM m0) [(2, x2), (3, x3), (4, x4), (5, x5), (50, x50), (51, x51), (52, x52)] B
def Zuc (m0 : Nat) (x2 x3 x4 x5 : AV) (B : List Row) : Option Res := exec PP HH 47 m0 EE LL (l2 (l2 (l2 (l2 (l2 (l2 (l2 (l2 Zcq)))))))) (Zhx m0) [(2, x2), (3, x3), (4, x4), (5, x5)] B
theorem ZBO m0 x0 x2 x3 B : ZvY m0 x0 x2 x3 B =
 mk (ob (xcnv PP 9 141 (shr x0)) fun a12 =>
 ob (Z1G PP 144 [(0, a12)]) fun a13 =>
 bx a13 B fun a14 B15 =>
 mk (callS false EE 68 [(shr (shr a14)), (.p (.v (.string (ByteArray.mk #[40, 63, 105, 41]))))] B15 fun a16 B17 =>
 ob (Z1G PP 100 [(2, a16)]) fun a18 =>
 bz PP 100 B17 fun a19 B20 =>
 stN 9 a19 a18 B20 fun B21 =>
 mk (callS false EE 69 [(shr (shr a14))] B21 fun a22 B23 =>
 ob (xfld 0 a19) fun a24 =>
 stN 7 a24 a22 B23 fun B25 =>
 mk (ob (Z21 (shr (shr a14))) fun a26 =>
 ob (xfld 5 a26) fun a27 =>
 ob (xfld 0 a27) fun a28 =>
 ob (ldN false 1 a28 B25) fun a29 =>
 ob (xbin PP .eql 30 a29 (iv 0)) fun a30 =>
 asB (shr a30) fun t31 => br t31 (ob (Z21 (shr (shr a14))) fun a32 =>
 ob (xfld 1 a32) fun a33 =>
 ob (ldN false 1 a33 B25) fun a34 =>
 ob (Z21 (shr (shr a14))) fun a35 =>
 ob (xfld 0 a35) fun a36 =>
 ob (ldN false 1 a36 B25) fun a37 =>
 ob (xlen PP 141 a37) fun a38 =>
 ob (xbin PP .lss 3 a34 a38) fun a39 =>
 asB (shr a39) fun t40 => br t40 (ZvZ m0 x2 x3 (shr a14) a19 (gcB m0 [x2, x3, (shr a14), a19] B25))
 (ZoC m0 x2 x3 (shr a14) a19 (gcB m0 [x2, x3, (shr a14), a19] B25)))
 (ZoC m0 x2 x3 (shr a14) a19 (gcB m0 [x2, x3, (shr a14), a19] B25)))))) := by kernel_rfl
theorem ZBP m0 x2 x3 x4 x5 B : ZvZ m0 x2 x3 x4 x5 B =
 mk (ob (Z21 (shr x4)) fun a41 =>
 ob (xfld 1 a41) fun a42 =>
 ob (ldN false 1 a42 B) fun a43 =>
 callS false EE 70 [(shr x4), (iv 20), a43] B fun a44 B45 =>
 ZoC m0 x2 x3 x4 x5 (gcB m0 [x2, x3, x4, x5] B45)) := by kernel_rfl
theorem ZBQ m0 x2 x3 x4 x5 B : ZoC m0 x2 x3 x4 x5 B =
 mk (ob (Z21 (shr x4)) fun a46 =>
 ob (xfld 4 a46) fun a47 =>
 ob (ldN false 1 a47 B) fun a48 =>
 ob (xlen PP 142 a48) fun a49 =>
 ZlL m0 x2 x3 x4 x5 a48 a49 (iv 0) (gcB m0 [x2, x3, x4, x5, a48, a49, (iv 0)] B)) := by kernel_rfl
theorem ZBN m0 x2 x3 x4 x5 x50 x51 x52 B : ZlL m0 x2 x3 x4 x5 x50 x51 x52 B =
 mk (ob (xbin PP .lss 3 x52 x51) fun a50 =>
 asB a50 fun t51 => br t51 (Zua m0 x2 x3 x4 x5 x50 x51 x52 (gcB m0 [x2, x3, x4, x5, x50, x51, x52] B))
 (Zub m0 x2 x3 x4 x5 (gcB m0 [x2, x3, x4, x5] B))) := (L_eq PP XX HH _ _ _ _ _ _).trans (by kernel_rfl)
theorem ZAk m0 x2 x3 x4 x5 x50 x51 x52 B : Zua m0 x2 x3 x4 x5 x50 x51 x52 B =
 mk (ob (xidx 2 x50 x52) fun a52 =>
 ob (ldN true 2 a52 B) fun a53 =>
 bz PP 149 B fun a54 B55 =>
 stN 2 a54 a53 B55 fun B56 =>
 mk (ob (xfld 0 a54) fun a57 =>
 ob (ldN false 1 a57 B56) fun a58 =>
 ob (Z21 (shr x4)) fun a59 =>
 ob (xfld 2 a59) fun a60 =>
 ob (ldN false 1 a60 B56) fun a61 =>
 ob (xbin PP .gtr 3 a58 a61) fun a62 =>
 asB a62 fun t63 => br t63 (mk (ob (xfld 1 a54) fun a64 =>
 ob (ldN false 1 a64 B56) fun a65 =>
 callS false EE 70 [(shr x4), (iv 26), a65] B56 fun a66 B67 =>
 ZpH m0 x2 x3 x4 x5 x50 x51 x52 (gcB m0 [x2, x3, x4, x5, x50, x51, x52] B67)))
 (ZpH m0 x2 x3 x4 x5 x50 x51 x52 (gcB m0 [x2, x3, x4, x5, x50, x51, x52] B56)))) := by kernel_rfl
theorem ZAm m0 x2 x3 x4 x5 B : Zub m0 x2 x3 x4 x5 B =
 mk (ob (Z21 (shr x4)) fun a68 =>
 ob (xfld 5 a68) fun a69 =>
 ob (xfld 0 a69) fun a70 =>
 ob (ldN false 1 a70 B) fun a71 =>
 ob (xbin PP .neq 30 a71 (iv 0)) fun a72 =>
 asB a72 fun t73 => br t73 (mk (ob (Z1G PP 100 []) fun a74 =>
 ob (Z21 (shr x4)) fun a75 =>
 ob (xfld 5 a75) fun a76 =>
 ob (ldN true 2 a76 B) fun a77 =>
 stN 9 x2 a74 B fun B78 =>
 stN 2 x3 a77 B78 fun B79 =>
 grd (Zb2 a76 x2) (Zud x2 x3 B79)))
 (Zuc m0 x2 x3 x4 x5 (gcB m0 [x2, x3, x4, x5] B))) := by kernel_rfl
theorem ZAl m0 x2 x3 x4 x5 x50 x51 x52 B : ZpH m0 x2 x3 x4 x5 x50 x51 x52 B =
 mk (ob (xbin PP .add 3 x52 (iv 1)) fun a80 =>
 ZlL m0 x2 x3 x4 x5 x50 x51 (shr a80) (gcB m0 [x2, x3, x4, x5, x50, x51, (shr a80)] B)) := by kernel_rfl
theorem ZAn m0 x2 x3 x4 x5 B : Zuc m0 x2 x3 x4 x5 B =
 mk (ob (Z21 (shr x4)) fun a81 =>
 ob (xfld 2 a81) fun a82 =>
 ob (ldN false 1 a82 B) fun a83 =>
 ob (xfld 7 x5) fun a84 =>
 stN 1 a84 a83 B fun B85 =>
 mk (ob (ldN true 9 x5 B85) fun a86 =>
 ob (Z1G PP 102 []) fun a87 =>
 stN 9 x2 a86 B85 fun B88 =>
 stN 2 x3 a87 B88 fun B89 =>
 Zud x2 x3 B89)) := by kernel_rfl
theorem ZHb x0 B : EE 47 [x0] B =
 (let m0 := B.length
 mk (bz PP 100 B fun a1 B2 =>
 bz PP 102 B2 fun a3 B4 =>
 mk (ob (xlen PP 9 (shr x0)) fun a5 =>
 ob (xbin PP .gtr 3 a5 (iv 256)) fun a6 =>
 asB a6 fun t7 => br t7 (mk (ob (Z1G PP 100 []) fun a8 =>
 ob (Z1G PP 102 [(0, (iv 12))]) fun a9 =>
 stN 9 a1 a8 B4 fun B10 =>
 stN 2 a3 a9 B10 fun B11 =>
 Zud a1 a3 B11))
 (ZvY m0 x0 a1 a3 (gcB m0 [x0, a1, a3] B4))))) := (E_eq PP XX HH _ _ _).trans (by kernel_rfl)
def ZI2 : Code := Z2K Tryz.f48
def Zue (r0 : AV) (B : List Row) : Option Res :=
 ob (ob (some r0) fun v => ob (some []) fun vs => some (v :: vs)) fun vs => some ((nrmA (match vs with | [v] => v | vs => Z1M (vs.map shr))), B)
def ZHf (m0 : Nat) : Kont := kret PP HH 48 Tryz.f48.results
def Zw0 (m0 : Nat) (B : List Row) : Option Res := exec PP HH 48 m0 EE LL (l2 (l2 ZI2)) (ZHf m0) [] B
theorem ZBR m0 B : Zw0 m0  B =
 mk (Zue (iv 0) B) := by kernel_rfl
theorem ZHe x0 B : EE 48 [x0] B =
 (let m0 := B.length
 mk (bx x0 B fun a1 B2 =>
 mk (ob (xfld 0 a1) fun a3 =>
 ob (ldN true 7 a3 B2) fun a4 =>
 callS false EE 71 [a4] B2 fun a5 B6 =>
 ob (xun PP .not a5) fun a7 =>
 asB (shr a7) fun t8 => br t8 (mk (Zue (iv 27) B6))
 (mk (ob (xfld 0 a1) fun a9 =>
 ob (ldN true 7 a9 B6) fun a10 =>
 callS false EE 72 [a10] B6 fun a11 B12 =>
 ob (xbin PP .add 3 a11 (iv 3)) fun a13 =>
 ob (xbin PP .gtr 3 a13 (iv 2000)) fun a14 =>
 asB (shr a14) fun t15 => br t15 (mk (Zue (iv 28) B12))
 (Zw0 m0  (gcB m0 [] B12))))))) := (E_eq PP XX HH _ _ _).trans (by kernel_rfl)
def Zyh (B : List Row) : Option Res :=
 ob (some []) fun vs => some ((nrmA (match vs with | [v] => v | vs => Z1M (vs.map shr))), B)
theorem ZrO x0 x1 B : EE 49 [x0, x1] B =
 (let m0 := B.length
 mk (ob (xbin PP .neq 3 (shr x1) (iv (-1))) fun a1 =>
 asB a1 fun t2 => br t2 (mk (ob (Z21 (shr x0)) fun a3 =>
 stN 1 a3 (shr x1) B fun B4 =>
 Zyh  B4))
 (Zyh  B))) := (E_eq PP XX HH _ _ _).trans (by kernel_rfl)
def ZFQ (r0 : AV) (B : List Row) : Option Res :=
 ob (ob (some r0) fun v => ob (some []) fun vs => some (v :: vs)) fun vs => some ((nrmA (match vs with | [v] => v | vs => Z1M (vs.map shr))), B)
theorem ZHg x0 x1 B : EE 50 [x0, x1] B =
 (let m0 := B.length
 mk (bx x1 B fun a1 B2 =>
 mk (callS false EE 57 [(shr x0), (.clo 73 ([].map nrmA) ([a1].map nrmA))] B2 fun a3 B4 =>
 ob (xun PP .not a3) fun a5 =>
 ZFQ (shr a5) B4))) := (E_eq PP XX HH _ _ _).trans (by kernel_rfl)
def Zyi (r0 : AV) (B : List Row) : Option Res :=
 ob (ob (some r0) fun v => ob (some []) fun vs => some (v :: vs)) fun vs => some ((nrmA (match vs with | [v] => v | vs => Z1M (vs.map shr))), B)
theorem ZHh x0 B : EE 51 [x0] B =
 (let m0 := B.length
 mk (bx x0 B fun a1 B2 =>
 mk (xmake PP 152 B2 fun a3 B4 =>
 bz PP 152 B4 fun a5 B6 =>
 stN 1 a5 a3 B6 fun B7 =>
 mk (bz PP 120 B7 fun a8 B9 =>
 stN 1 a8 (.clo 74 ([].map nrmA) ([a5].map nrmA)) B9 fun B10 =>
 mk (ob (xfld 4 a1) fun a11 =>
 ob (ldN false 1 a11 B10) fun a12 =>
 callS false EE 57 [a12, (.clo 75 ([].map nrmA) ([a8].map nrmA))] B10 fun a13 B14 =>
 asB (shr a13) fun t15 => br t15 (Zyi (bv true) B14)
 (ob (xfld 5 a1) fun a16 =>
 ob (ldN false 1 a16 B14) fun a17 =>
 ob (ldN false 1 a8 B14) fun a18 =>
 callS false EE 59 [a17, a18] B14 fun a19 B20 =>
 Zyi (shr (shr a19)) B20)))))) := (E_eq PP XX HH _ _ _).trans (by kernel_rfl)
def ZFR (r0 : AV) (B : List Row) : Option Res :=
 ob (ob (some r0) fun v => ob (some []) fun vs => some (v :: vs)) fun vs => some ((nrmA (match vs with | [v] => v | vs => Z1M (vs.map shr))), B)
theorem ZHi x0 B : EE 53 [x0] B =
 (let m0 := B.length
 mk (bx x0 B fun a1 B2 =>
 mk (ZFR (shr (.clo 78 ([].map nrmA) ([a1].map nrmA))) B2))) := (E_eq PP XX HH _ _ _).trans (by kernel_rfl)
def ZFS (r0 : AV) (B : List Row) : Option Res :=
 ob (ob (some r0) fun v => ob (some []) fun vs => some (v :: vs)) fun vs => some ((nrmA (match vs with | [v] => v | vs => Z1M (vs.map shr))), B)
theorem ZBS x0 x1 B : EE 57 [x0, x1] B =
 (let m0 := B.length
 mk (mk (callS false EE 83 [(shr x0), (shr x1)] B fun a1 B2 =>
 ob (xbin PP .geq 3 a1 (iv 0)) fun a3 =>
 ZFS (shr a3) B2))) := (E_eq PP XX HH _ _ _).trans (by kernel_rfl)
def ZFT (r0 : AV) (B : List Row) : Option Res :=
 ob (ob (some r0) fun v => ob (some []) fun vs => some (v :: vs)) fun vs => some ((nrmA (match vs with | [v] => v | vs => Z1M (vs.map shr))), B)
theorem ZHj x0 x1 B : EE 59 [x0, x1] B =
 (let m0 := B.length
 mk (mk (callS false EE 84 [(shr x0), (shr x1)] B fun a1 B2 =>
 ob (xbin PP .geq 3 a1 (iv 0)) fun a3 =>
 ZFT (shr a3) B2))) := (E_eq PP XX HH _ _ _).trans (by kernel_rfl)
def Zv4 : Code := Z2K Tryz.f68
def Zyj (r0 : AV) (B : List Row) : Option Res :=
 ob (ob (some r0) fun v => ob (some []) fun vs => some (v :: vs)) fun vs => some ((nrmA (match vs with | [v] => v | vs => Z1M (vs.map shr))), B)
def Zw1 (m0 : Nat) : Kont := kret PP HH 68 Tryz.f68.results
def ZHl (m0 : Nat) : Kont := kseq HH 68 m0 (l2 (l2 Zv4)) (exec PP HH 68 m0 EE LL (l2 (l2 Zv4)) (Zw1 m0)) (Zw1 m0)
def ZrP (m0 : Nat) (B : List Row) : Option Res := exec PP HH 68 m0 EE LL (l1 (l2 (l1 (l2 Zv4)))) (ZHl m0) [] B
def Zw2 (m0 : Nat) (x0 x1 : AV) (B : List Row) : Option Res := exec PP HH 68 m0 EE LL (l2 (l2 Zv4)) (Zw1 m0) [(0, x0), (1, x1)] B
theorem ZBT m0 B : ZrP m0  B =
 mk (Zyj (bv false) B) := by kernel_rfl
theorem ZBU m0 x0 x1 B : Zw2 m0 x0 x1 B =
 mk (ob (Z21 (shr x0)) fun a27 =>
 ob (xfld 1 a27) fun a28 =>
 ob (ldN false 1 a28 B) fun a29 =>
 ob (xlen PP 9 (shr x1)) fun a30 =>
 ob (xbin PP .add 3 a29 a30) fun a31 =>
 ob (Z21 (shr x0)) fun a32 =>
 ob (xfld 1 a32) fun a33 =>
 stN 1 a33 a31 B fun B34 =>
 mk (Zyj (bv true) B34)) := by kernel_rfl
theorem ZHk x0 x1 B : EE 68 [x0, x1] B =
 (let m0 := B.length
 mk (mk (ob (Z21 (shr x0)) fun a1 =>
 ob (xfld 0 a1) fun a2 =>
 ob (ldN false 1 a2 B) fun a3 =>
 ob (xlen PP 141 a3) fun a4 =>
 ob (Z21 (shr x0)) fun a5 =>
 ob (xfld 1 a5) fun a6 =>
 ob (ldN false 1 a6 B) fun a7 =>
 ob (xbin PP .sub 3 a4 a7) fun a8 =>
 ob (xlen PP 9 (shr x1)) fun a9 =>
 ob (xbin PP .lss 3 a8 a9) fun a10 =>
 asB (shr a10) fun t11 => br t11 (ZrP m0  (gcB m0 [] B))
 (ob (Z21 (shr x0)) fun a12 =>
 ob (xfld 0 a12) fun a13 =>
 ob (ldN false 1 a13 B) fun a14 =>
 ob (Z21 (shr x0)) fun a15 =>
 ob (xfld 1 a15) fun a16 =>
 ob (ldN false 1 a16 B) fun a17 =>
 ob (Z21 (shr x0)) fun a18 =>
 ob (xfld 1 a18) fun a19 =>
 ob (ldN false 1 a19 B) fun a20 =>
 ob (xlen PP 9 (shr x1)) fun a21 =>
 ob (xbin PP .add 3 a20 a21) fun a22 =>
 ob (xsl 1 a14 (some a17) (some a22) none) fun a23 =>
 ob (xcnv PP 141 9 a23) fun a24 =>
 ob (xbin PP .neq 9 a24 (shr x1)) fun a25 =>
 asB (shr a25) fun t26 => br t26 (ZrP m0  (gcB m0 [] B))
 (Zw2 m0 x0 x1 (gcB m0 [x0, x1] B)))))) := (E_eq PP XX HH _ _ _).trans (by kernel_rfl)
def ZmS : Code := Z2K Tryz.f69
def ZFU (r0 : AV) (B : List Row) : Option Res :=
 ob (ob (ldN true 7 r0 B) fun v => ob (some []) fun vs => some (v :: vs)) fun vs => some ((nrmA (match vs with | [v] => v | vs => Z1M (vs.map shr))), B)
def Zw3 (m0 : Nat) : Kont := kret PP HH 69 Tryz.f69.results
def ZHn (m0 : Nat) : Kont := kseq HH 69 m0 (l2 (l2 (l2 ZmS))) (exec PP HH 69 m0 EE LL (l2 (l2 (l2 ZmS))) (Zw3 m0)) (Zw3 m0)
def Zw4 (m0 : Nat) : Kont := kblk 0 (ZHn m0)
def ZHo (m0 : Nat) : Kont := kloop HH 69 m0 (l1 (l1 (l1 (l2 (l2 ZmS))))) (LL 69 m0 (l1 (l1 (l1 (l2 (l2 ZmS))))) (Zw4 m0)) (Zw4 m0)
def ZlM (m0 : Nat) (x0 x2 x3 : AV) (B : List Row) : Option Res := lp (LL 69 m0 (l1 (l1 (l1 (l2 (l2 ZmS))))) (Zw4 m0) [(0, x0), (2, x2), (3, x3)] B)
def Zw5 (m0 : Nat) (x0 x2 x3 : AV) (B : List Row) : Option Res := exec PP HH 69 m0 EE LL (l2 (l1 (l1 (l1 (l2 (l2 ZmS)))))) (ZHo m0) [(0, x0), (2, x2), (3, x3)] B
def Zw6 (m0 : Nat) (x2 x3 : AV) (B : List Row) : Option Res := exec PP HH 69 m0 EE LL (l2 (l2 (l2 ZmS))) (Zw3 m0) [(2, x2), (3, x3)] B
theorem ZBV m0 x0 x2 x3 B : ZlM m0 x0 x2 x3 B =
 mk (callS false EE 68 [(shr x0), (.p (.v (.string (ByteArray.mk #[124]))))] B fun a6 B7 =>
 asB a6 fun t8 => br t8 (Zw5 m0 x0 x2 x3 (gcB m0 [x0, x2, x3] B7))
 (Zw6 m0 x2 x3 (gcB m0 [x2, x3] B7))) := (L_eq PP XX HH _ _ _ _ _ _).trans (by kernel_rfl)
theorem ZBW m0 x0 x2 x3 B : Zw5 m0 x0 x2 x3 B =
 mk (callS false EE 91 [(shr x0)] B fun a9 B10 =>
 ob (xlit PP 96 1 [(0, a9)]) fun a11 =>
 ob (xapp 7 x3 a11) fun a12 =>
 ZlM m0 x0 x2 a12 (gcB m0 [x0, x2, a12] B10)) := by kernel_rfl
theorem ZBX m0 x2 x3 B : Zw6 m0 x2 x3 B =
 mk (callS false EE 92 [(iv 3), (shr x3)] B fun a13 B14 =>
 stN 7 x2 a13 B14 fun B15 =>
 ZFU x2 B15) := by kernel_rfl
theorem ZHm x0 B : EE 69 [x0] B =
 (let m0 := B.length
 mk (bz PP 98 B fun a1 B2 =>
 mk (callS false EE 91 [(shr x0)] B2 fun a3 B4 =>
 ob (xlit PP 96 1 [(0, a3)]) fun a5 =>
 ZlM m0 x0 a1 a5 (gcB m0 [x0, a1, a5] B4)))) := (E_eq PP XX HH _ _ _).trans (by kernel_rfl)
def ZI3 : Code := Z2K Tryz.f70
def ZFV (B : List Row) : Option Res :=
 ob (some []) fun vs => some ((nrmA (match vs with | [v] => v | vs => Z1M (vs.map shr))), B)
def ZHq (m0 : Nat) : Kont := kret PP HH 70 Tryz.f70.results
def ZrQ (m0 : Nat) (x0 : AV) (B : List Row) : Option Res := exec PP HH 70 m0 EE LL (l2 ZI3) (ZHq m0) [(0, x0)] B
theorem ZBY m0 x0 B : ZrQ m0 x0 B =
 mk (ob (Z21 (shr x0)) fun a11 =>
 ob (xfld 0 a11) fun a12 =>
 ob (ldN false 1 a12 B) fun a13 =>
 ob (xlen PP 141 a13) fun a14 =>
 ob (Z21 (shr x0)) fun a15 =>
 ob (xfld 1 a15) fun a16 =>
 stN 1 a16 a14 B fun B17 =>
 ZFV  B17) := by kernel_rfl
theorem ZHp x0 x1 x2 B : EE 70 [x0, x1, x2] B =
 (let m0 := B.length
 mk (ob (Z21 (shr x0)) fun a1 =>
 ob (xfld 5 a1) fun a2 =>
 ob (xfld 0 a2) fun a3 =>
 ob (ldN false 1 a3 B) fun a4 =>
 ob (xbin PP .eql 30 a4 (iv 0)) fun a5 =>
 asB a5 fun t6 => br t6 (mk (ob (Z1G PP 102 [(0, (shr x1)), (1, (shr x2))]) fun a7 =>
 ob (Z21 (shr x0)) fun a8 =>
 ob (xfld 5 a8) fun a9 =>
 stN 2 a9 a7 B fun B10 =>
 ZrQ m0 x0 (gcB m0 [x0] B10)))
 (ZrQ m0 x0 (gcB m0 [x0] B)))) := (E_eq PP XX HH _ _ _).trans (by kernel_rfl)
def ZrR : Code := Z2K Tryz.f71
def Zyk (r0 : AV) (B : List Row) : Option Res :=
 ob (ob (some r0) fun v => ob (some []) fun vs => some (v :: vs)) fun vs => some ((nrmA (match vs with | [v] => v | vs => Z1M (vs.map shr))), B)
def Zw7 (m0 : Nat) : Kont := kret PP HH 71 Tryz.f71.results
def ZBZ (m0 : Nat) : Kont := kseq HH 71 m0 (l2 (l2 ZrR)) (exec PP HH 71 m0 EE LL (l2 (l2 ZrR)) (Zw7 m0)) (Zw7 m0)
def Zw8 (m0 : Nat) (x1 : AV) (B : List Row) : Option Res := exec PP HH 71 m0 EE LL (l1 (l2 (l1 (l2 ZrR)))) (ZBZ m0) [(1, x1)] B
def ZoD (m0 : Nat) (x1 : AV) (B : List Row) : Option Res := exec PP HH 71 m0 EE LL (l2 (l2 ZrR)) (Zw7 m0) [(1, x1)] B
def ZrS (m0 : Nat) (B : List Row) : Option Res := exec PP HH 71 m0 EE LL (l1 (l2 (l2 (l1 (l2 (l1 (l2 ZrR))))))) (ZBZ m0) [] B
theorem ZC0 m0 x1 B : Zw8 m0 x1 B =
 mk (ob (xfld 6 x1) fun a11 =>
 ob (ldN false 1 a11 B) fun a12 =>
 ob (xidx 7 a12 (iv 0)) fun a13 =>
 ob (ldN true 7 a13 B) fun a14 =>
 callS false EE 93 [a14] B fun a15 B16 =>
 ob (xext 0 (shr a15)) fun a17 =>
 ob (xext 1 (shr a15)) fun a18 =>
 mk (ob (xbin PP .lss 3 (shr (shr (shr a18))) (iv 0)) fun a19 =>
 asB (shr a19) fun t20 => br t20 (ZrS m0  (gcB m0 [] B16))
 (ob (xbin PP .gtr 3 (shr (shr (shr a18))) (iv 32)) fun a21 =>
 asB (shr a21) fun t22 => br t22 (ZrS m0  (gcB m0 [] B16))
 (ZoD m0 x1 (gcB m0 [x1] B16))))) := by kernel_rfl
theorem ZC2 m0 x1 B : ZoD m0 x1 B =
 mk (ob (xfld 6 x1) fun a23 =>
 ob (ldN false 1 a23 B) fun a24 =>
 callS false EE 94 [a24, (.clo 95 [] [])] B fun a25 B26 =>
 ob (xun PP .not a25) fun a27 =>
 Zyk (shr a27) B26) := by kernel_rfl
theorem ZC1 m0 B : ZrS m0  B =
 mk (Zyk (bv false) B) := by kernel_rfl
theorem ZHr x0 B : EE 71 [x0] B =
 (let m0 := B.length
 mk (bx x0 B fun a1 B2 =>
 mk (ob (xfld 0 a1) fun a3 =>
 ob (ldN false 1 a3 B2) fun a4 =>
 ob (xbin PP .eql 3 a4 (iv 7)) fun a5 =>
 asB (shr a5) fun t6 => br t6 (ob (xfld 3 a1) fun a7 =>
 ob (ldN false 1 a7 B2) fun a8 =>
 ob (xbin PP .geq 3 a8 (iv 2)) fun a9 =>
 asB (shr a9) fun t10 => br t10 (Zw8 m0 a1 (gcB m0 [a1] B2))
 (ZoD m0 a1 (gcB m0 [a1] B2)))
 (ZoD m0 a1 (gcB m0 [a1] B2))))) := (E_eq PP XX HH _ _ _).trans (by kernel_rfl)
def ZfJ : Code := Z2K Tryz.f72
def ZpI (r0 : AV) (B : List Row) : Option Res :=
 ob (ob (some r0) fun v => ob (some []) fun vs => some (v :: vs)) fun vs => some ((nrmA (match vs with | [v] => v | vs => Z1M (vs.map shr))), B)
def ZlN (m0 : Nat) : Kont := kret PP HH 72 Tryz.f72.results
def ZHt (m0 : Nat) : Kont := kseq HH 72 m0 (l2 (l2 (l2 ZfJ))) (exec PP HH 72 m0 EE LL (l2 (l2 (l2 ZfJ))) (ZlN m0)) (ZlN m0)
def Zw9 (m0 : Nat) : Kont := kblk 0 (ZHt m0)
def ZHu (m0 : Nat) : Kont := kloop HH 72 m0 (l1 (l1 (l2 (l1 (l2 (l2 ZfJ)))))) (LL 72 m0 (l1 (l1 (l2 (l1 (l2 (l2 ZfJ)))))) (Zw9 m0)) (Zw9 m0)
def ZHv (m0 : Nat) : Kont := kseq HH 72 m0 (l2 (l2 (l2 (l2 ZfJ)))) (exec PP HH 72 m0 EE LL (l2 (l2 (l2 (l2 ZfJ)))) (ZlN m0)) (ZlN m0)
def ZHw (m0 : Nat) : Kont := kblk 2 (ZHv m0)
def ZlO (m0 : Nat) (x1 x3 x8 x9 x10 : AV) (B : List Row) : Option Res := lp (LL 72 m0 (l1 (l1 (l2 (l1 (l2 (l2 ZfJ)))))) (Zw9 m0) [(1, x1), (3, x3), (8, x8), (9, x9), (10, x10)] B)
def Zwa (m0 : Nat) (x1 x3 x8 x9 x10 : AV) (B : List Row) : Option Res := exec PP HH 72 m0 EE LL (l2 (l2 (l1 (l1 (l2 (l1 (l2 (l2 ZfJ)))))))) (ZHu m0) [(1, x1), (3, x3), (8, x8), (9, x9), (10, x10)] B
def Zwb (m0 : Nat) (x1 x3 : AV) (B : List Row) : Option Res := exec PP HH 72 m0 EE LL (l2 (l2 (l2 ZfJ))) (ZlN m0) [(1, x1), (3, x3)] B
def Z4h (m0 : Nat) (x3 : AV) (B : List Row) : Option Res := exec PP HH 72 m0 EE LL (l2 (l2 (l2 (l2 ZfJ)))) (ZlN m0) [(3, x3)] B
def Z5C (m0 : Nat) (x1 x3 : AV) (B : List Row) : Option Res := exec PP HH 72 m0 EE LL (l2 (l2 (l2 (l1 (l2 (l2 (l2 (l2 (l2 (l2 (l2 (l1 (l2 (l1 (l2 (l2 (l2 ZfJ))))))))))))))))) (ZHw m0) [(1, x1), (3, x3)] B
theorem ZC3 m0 x1 x3 x8 x9 x10 B : ZlO m0 x1 x3 x8 x9 x10 B =
 mk (ob (xbin PP .lss 3 x10 x9) fun a6 =>
 asB a6 fun t7 => br t7 (Zwa m0 x1 x3 x8 x9 x10 (gcB m0 [x1, x3, x8, x9, x10] B))
 (Zwb m0 x1 x3 (gcB m0 [x1, x3] B))) := (L_eq PP XX HH _ _ _ _ _ _).trans (by kernel_rfl)
theorem ZC4 m0 x1 x3 x8 x9 x10 B : Zwa m0 x1 x3 x8 x9 x10 B =
 mk (ob (xidx 7 x8 x10) fun a8 =>
 ob (ldN true 7 a8 B) fun a9 =>
 bz PP 98 B fun a10 B11 =>
 stN 7 a10 a9 B11 fun B12 =>
 mk (ob (ldN true 7 a10 B12) fun a13 =>
 callS false EE 72 [a13] B12 fun a14 B15 =>
 ob (xbin PP .add 3 (shr x3) a14) fun a16 =>
 ob (Z7I PP false [a16, (iv 1048576)]) fun a17 =>
 mk (ob (xbin PP .add 3 x10 (iv 1)) fun a18 =>
 ZlO m0 x1 (shr a17) x8 x9 (shr a18) (gcB m0 [x1, (shr a17), x8, x9, (shr a18)] B15)))) := by kernel_rfl
theorem ZC5 m0 x1 x3 B : Zwb m0 x1 x3 B =
 mk (ob (xfld 0 x1) fun a19 =>
 ob (ldN false 1 a19 B) fun a20 =>
 mk (ob (xbin PP .eql 3 a20 (iv 1)) fun a21 =>
 asB (shr a21) fun t22 => br t22 (asB (shr a21) fun t23 => br t23 (mk (ZpI (iv 1) B))
 (mk (ob (xbin PP .eql 3 a20 (iv 3)) fun a24 =>
 asB (shr a24) fun t25 => br t25 (mk (ob (xfld 6 x1) fun a26 =>
 ob (ldN false 1 a26 B) fun a27 =>
 ob (xlen PP 96 a27) fun a28 =>
 ob (xbin PP .sub 3 a28 (iv 1)) fun a29 =>
 ob (xbin PP .mul 3 (iv 2) a29) fun a30 =>
 ob (xbin PP .add 3 (shr x3) a30) fun a31 =>
 Z4h m0 (shr a31) (gcB m0 [(shr a31)] B)))
 (mk (ob (xbin PP .eql 3 a20 (iv 5)) fun a32 =>
 asB (shr a32) fun t33 => br t33 (asB (shr a32) fun t34 => br t34 (mk (ob (xbin PP .add 3 (shr x3) (iv 2)) fun a35 =>
 Z4h m0 (shr a35) (gcB m0 [(shr a35)] B)))
 (mk (ob (xbin PP .eql 3 a20 (iv 4)) fun a36 =>
 asB (shr a36) fun t37 => br t37 (mk (mk (ob (xfld 1 x1) fun a38 =>
 ob (ldN false 1 a38 B) fun a39 =>
 ob (xbin PP .mul 3 a39 (shr (shr (shr x3)))) fun a40 =>
 mk (ob (xfld 2 x1) fun a41 =>
 ob (ldN false 1 a41 B) fun a42 =>
 ob (xbin PP .lss 3 a42 (iv 0)) fun a43 =>
 asB a43 fun t44 => br t44 (mk (ob (xbin PP .add 3 (shr (shr (shr x3))) (iv 4)) fun a45 =>
 ob (xbin PP .add 3 (shr (shr a40)) a45) fun a46 =>
 Z5C m0 x1 (shr a46) (gcB m0 [x1, (shr a46)] B)))
 (mk (ob (xfld 2 x1) fun a47 =>
 ob (ldN false 1 a47 B) fun a48 =>
 ob (xfld 1 x1) fun a49 =>
 ob (ldN false 1 a49 B) fun a50 =>
 ob (xbin PP .sub 3 a48 a50) fun a51 =>
 ob (xbin PP .add 3 (shr (shr (shr x3))) (iv 1)) fun a52 =>
 ob (xbin PP .mul 3 a51 a52) fun a53 =>
 ob (xbin PP .add 3 (shr (shr a40)) a53) fun a54 =>
 Z5C m0 x1 (shr a54) (gcB m0 [x1, (shr a54)] B)))))))
 (Z4h m0 x3 (gcB m0 [x3] B)))))
 (mk (ob (xbin PP .eql 3 a20 (iv 7)) fun a55 =>
 asB (shr a55) fun t56 => br t56 (asB (shr a55) fun t57 => br t57 (mk (ob (xbin PP .add 3 (shr x3) (iv 2)) fun a58 =>
 Z4h m0 (shr a58) (gcB m0 [(shr a58)] B)))
 (mk (ob (xbin PP .eql 3 a20 (iv 4)) fun a59 =>
 asB (shr a59) fun t60 => br t60 (mk (mk (ob (xfld 1 x1) fun a61 =>
 ob (ldN false 1 a61 B) fun a62 =>
 ob (xbin PP .mul 3 a62 (shr (shr (shr x3)))) fun a63 =>
 mk (ob (xfld 2 x1) fun a64 =>
 ob (ldN false 1 a64 B) fun a65 =>
 ob (xbin PP .lss 3 a65 (iv 0)) fun a66 =>
 asB a66 fun t67 => br t67 (mk (ob (xbin PP .add 3 (shr (shr (shr x3))) (iv 4)) fun a68 =>
 ob (xbin PP .add 3 (shr (shr a63)) a68) fun a69 =>
 Z5C m0 x1 (shr a69) (gcB m0 [x1, (shr a69)] B)))
 (mk (ob (xfld 2 x1) fun a70 =>
 ob (ldN false 1 a70 B) fun a71 =>
 ob (xfld 1 x1) fun a72 =>
 ob (ldN false 1 a72 B) fun a73 =>
 ob (xbin PP .sub 3 a71 a73) fun a74 =>
 ob (xbin PP .add 3 (shr (shr (shr x3))) (iv 1)) fun a75 =>
 ob (xbin PP .mul 3 a74 a75) fun a76 =>
 ob (xbin PP .add 3 (shr (shr a63)) a76) fun a77 =>
 Z5C m0 x1 (shr a77) (gcB m0 [x1, (shr a77)] B)))))))
 (Z4h m0 x3 (gcB m0 [x3] B)))))
 (mk (ob (xbin PP .eql 3 a20 (iv 8)) fun a78 =>
 asB (shr a78) fun t79 => br t79 (mk (ob (xbin PP .add 3 (shr x3) (iv 2)) fun a80 =>
 Z4h m0 (shr a80) (gcB m0 [(shr a80)] B)))
 (mk (ob (xbin PP .eql 3 a20 (iv 4)) fun a81 =>
 asB (shr a81) fun t82 => br t82 (mk (mk (ob (xfld 1 x1) fun a83 =>
 ob (ldN false 1 a83 B) fun a84 =>
 ob (xbin PP .mul 3 a84 (shr (shr (shr x3)))) fun a85 =>
 mk (ob (xfld 2 x1) fun a86 =>
 ob (ldN false 1 a86 B) fun a87 =>
 ob (xbin PP .lss 3 a87 (iv 0)) fun a88 =>
 asB a88 fun t89 => br t89 (mk (ob (xbin PP .add 3 (shr (shr (shr x3))) (iv 4)) fun a90 =>
 ob (xbin PP .add 3 (shr (shr a85)) a90) fun a91 =>
 Z5C m0 x1 (shr a91) (gcB m0 [x1, (shr a91)] B)))
 (mk (ob (xfld 2 x1) fun a92 =>
 ob (ldN false 1 a92 B) fun a93 =>
 ob (xfld 1 x1) fun a94 =>
 ob (ldN false 1 a94 B) fun a95 =>
 ob (xbin PP .sub 3 a93 a95) fun a96 =>
 ob (xbin PP .add 3 (shr (shr (shr x3))) (iv 1)) fun a97 =>
 ob (xbin PP .mul 3 a96 a97) fun a98 =>
 ob (xbin PP .add 3 (shr (shr a85)) a98) fun a99 =>
 Z5C m0 x1 (shr a99) (gcB m0 [x1, (shr a99)] B)))))))
 (Z4h m0 x3 (gcB m0 [x3] B)))))))))))))
 (mk (ob (xbin PP .eql 3 a20 (iv 6)) fun a100 =>
 asB (shr a100) fun t101 => br t101 (asB (shr a100) fun t102 => br t102 (mk (ZpI (iv 1) B))
 (mk (ob (xbin PP .eql 3 a20 (iv 3)) fun a103 =>
 asB (shr a103) fun t104 => br t104 (mk (ob (xfld 6 x1) fun a105 =>
 ob (ldN false 1 a105 B) fun a106 =>
 ob (xlen PP 96 a106) fun a107 =>
 ob (xbin PP .sub 3 a107 (iv 1)) fun a108 =>
 ob (xbin PP .mul 3 (iv 2) a108) fun a109 =>
 ob (xbin PP .add 3 (shr x3) a109) fun a110 =>
 Z4h m0 (shr a110) (gcB m0 [(shr a110)] B)))
 (mk (ob (xbin PP .eql 3 a20 (iv 5)) fun a111 =>
 asB (shr a111) fun t112 => br t112 (asB (shr a111) fun t113 => br t113 (mk (ob (xbin PP .add 3 (shr x3) (iv 2)) fun a114 =>
 Z4h m0 (shr a114) (gcB m0 [(shr a114)] B)))
 (mk (ob (xbin PP .eql 3 a20 (iv 4)) fun a115 =>
 asB (shr a115) fun t116 => br t116 (mk (mk (ob (xfld 1 x1) fun a117 =>
 ob (ldN false 1 a117 B) fun a118 =>
 ob (xbin PP .mul 3 a118 (shr (shr (shr x3)))) fun a119 =>
 mk (ob (xfld 2 x1) fun a120 =>
 ob (ldN false 1 a120 B) fun a121 =>
 ob (xbin PP .lss 3 a121 (iv 0)) fun a122 =>
 asB a122 fun t123 => br t123 (mk (ob (xbin PP .add 3 (shr (shr (shr x3))) (iv 4)) fun a124 =>
 ob (xbin PP .add 3 (shr (shr a119)) a124) fun a125 =>
 Z5C m0 x1 (shr a125) (gcB m0 [x1, (shr a125)] B)))
 (mk (ob (xfld 2 x1) fun a126 =>
 ob (ldN false 1 a126 B) fun a127 =>
 ob (xfld 1 x1) fun a128 =>
 ob (ldN false 1 a128 B) fun a129 =>
 ob (xbin PP .sub 3 a127 a129) fun a130 =>
 ob (xbin PP .add 3 (shr (shr (shr x3))) (iv 1)) fun a131 =>
 ob (xbin PP .mul 3 a130 a131) fun a132 =>
 ob (xbin PP .add 3 (shr (shr a119)) a132) fun a133 =>
 Z5C m0 x1 (shr a133) (gcB m0 [x1, (shr a133)] B)))))))
 (Z4h m0 x3 (gcB m0 [x3] B)))))
 (mk (ob (xbin PP .eql 3 a20 (iv 7)) fun a134 =>
 asB (shr a134) fun t135 => br t135 (asB (shr a134) fun t136 => br t136 (mk (ob (xbin PP .add 3 (shr x3) (iv 2)) fun a137 =>
 Z4h m0 (shr a137) (gcB m0 [(shr a137)] B)))
 (mk (ob (xbin PP .eql 3 a20 (iv 4)) fun a138 =>
 asB (shr a138) fun t139 => br t139 (mk (mk (ob (xfld 1 x1) fun a140 =>
 ob (ldN false 1 a140 B) fun a141 =>
 ob (xbin PP .mul 3 a141 (shr (shr (shr x3)))) fun a142 =>
 mk (ob (xfld 2 x1) fun a143 =>
 ob (ldN false 1 a143 B) fun a144 =>
 ob (xbin PP .lss 3 a144 (iv 0)) fun a145 =>
 asB a145 fun t146 => br t146 (mk (ob (xbin PP .add 3 (shr (shr (shr x3))) (iv 4)) fun a147 =>
 ob (xbin PP .add 3 (shr (shr a142)) a147) fun a148 =>
 Z5C m0 x1 (shr a148) (gcB m0 [x1, (shr a148)] B)))
 (mk (ob (xfld 2 x1) fun a149 =>
 ob (ldN false 1 a149 B) fun a150 =>
 ob (xfld 1 x1) fun a151 =>
 ob (ldN false 1 a151 B) fun a152 =>
 ob (xbin PP .sub 3 a150 a152) fun a153 =>
 ob (xbin PP .add 3 (shr (shr (shr x3))) (iv 1)) fun a154 =>
 ob (xbin PP .mul 3 a153 a154) fun a155 =>
 ob (xbin PP .add 3 (shr (shr a142)) a155) fun a156 =>
 Z5C m0 x1 (shr a156) (gcB m0 [x1, (shr a156)] B)))))))
 (Z4h m0 x3 (gcB m0 [x3] B)))))
 (mk (ob (xbin PP .eql 3 a20 (iv 8)) fun a157 =>
 asB (shr a157) fun t158 => br t158 (mk (ob (xbin PP .add 3 (shr x3) (iv 2)) fun a159 =>
 Z4h m0 (shr a159) (gcB m0 [(shr a159)] B)))
 (mk (ob (xbin PP .eql 3 a20 (iv 4)) fun a160 =>
 asB (shr a160) fun t161 => br t161 (mk (mk (ob (xfld 1 x1) fun a162 =>
 ob (ldN false 1 a162 B) fun a163 =>
 ob (xbin PP .mul 3 a163 (shr (shr (shr x3)))) fun a164 =>
 mk (ob (xfld 2 x1) fun a165 =>
 ob (ldN false 1 a165 B) fun a166 =>
 ob (xbin PP .lss 3 a166 (iv 0)) fun a167 =>
 asB a167 fun t168 => br t168 (mk (ob (xbin PP .add 3 (shr (shr (shr x3))) (iv 4)) fun a169 =>
 ob (xbin PP .add 3 (shr (shr a164)) a169) fun a170 =>
 Z5C m0 x1 (shr a170) (gcB m0 [x1, (shr a170)] B)))
 (mk (ob (xfld 2 x1) fun a171 =>
 ob (ldN false 1 a171 B) fun a172 =>
 ob (xfld 1 x1) fun a173 =>
 ob (ldN false 1 a173 B) fun a174 =>
 ob (xbin PP .sub 3 a172 a174) fun a175 =>
 ob (xbin PP .add 3 (shr (shr (shr x3))) (iv 1)) fun a176 =>
 ob (xbin PP .mul 3 a175 a176) fun a177 =>
 ob (xbin PP .add 3 (shr (shr a164)) a177) fun a178 =>
 Z5C m0 x1 (shr a178) (gcB m0 [x1, (shr a178)] B)))))))
 (Z4h m0 x3 (gcB m0 [x3] B)))))))))))))
 (mk (ob (xbin PP .eql 3 a20 (iv 9)) fun a179 =>
 asB (shr a179) fun t180 => br t180 (mk (ZpI (iv 1) B))
 (mk (ob (xbin PP .eql 3 a20 (iv 3)) fun a181 =>
 asB (shr a181) fun t182 => br t182 (mk (ob (xfld 6 x1) fun a183 =>
 ob (ldN false 1 a183 B) fun a184 =>
 ob (xlen PP 96 a184) fun a185 =>
 ob (xbin PP .sub 3 a185 (iv 1)) fun a186 =>
 ob (xbin PP .mul 3 (iv 2) a186) fun a187 =>
 ob (xbin PP .add 3 (shr x3) a187) fun a188 =>
 Z4h m0 (shr a188) (gcB m0 [(shr a188)] B)))
 (mk (ob (xbin PP .eql 3 a20 (iv 5)) fun a189 =>
 asB (shr a189) fun t190 => br t190 (asB (shr a189) fun t191 => br t191 (mk (ob (xbin PP .add 3 (shr x3) (iv 2)) fun a192 =>
 Z4h m0 (shr a192) (gcB m0 [(shr a192)] B)))
 (mk (ob (xbin PP .eql 3 a20 (iv 4)) fun a193 =>
 asB (shr a193) fun t194 => br t194 (mk (mk (ob (xfld 1 x1) fun a195 =>
 ob (ldN false 1 a195 B) fun a196 =>
 ob (xbin PP .mul 3 a196 (shr (shr (shr x3)))) fun a197 =>
 mk (ob (xfld 2 x1) fun a198 =>
 ob (ldN false 1 a198 B) fun a199 =>
 ob (xbin PP .lss 3 a199 (iv 0)) fun a200 =>
 asB a200 fun t201 => br t201 (mk (ob (xbin PP .add 3 (shr (shr (shr x3))) (iv 4)) fun a202 =>
 ob (xbin PP .add 3 (shr (shr a197)) a202) fun a203 =>
 Z5C m0 x1 (shr a203) (gcB m0 [x1, (shr a203)] B)))
 (mk (ob (xfld 2 x1) fun a204 =>
 ob (ldN false 1 a204 B) fun a205 =>
 ob (xfld 1 x1) fun a206 =>
 ob (ldN false 1 a206 B) fun a207 =>
 ob (xbin PP .sub 3 a205 a207) fun a208 =>
 ob (xbin PP .add 3 (shr (shr (shr x3))) (iv 1)) fun a209 =>
 ob (xbin PP .mul 3 a208 a209) fun a210 =>
 ob (xbin PP .add 3 (shr (shr a197)) a210) fun a211 =>
 Z5C m0 x1 (shr a211) (gcB m0 [x1, (shr a211)] B)))))))
 (Z4h m0 x3 (gcB m0 [x3] B)))))
 (mk (ob (xbin PP .eql 3 a20 (iv 7)) fun a212 =>
 asB (shr a212) fun t213 => br t213 (asB (shr a212) fun t214 => br t214 (mk (ob (xbin PP .add 3 (shr x3) (iv 2)) fun a215 =>
 Z4h m0 (shr a215) (gcB m0 [(shr a215)] B)))
 (mk (ob (xbin PP .eql 3 a20 (iv 4)) fun a216 =>
 asB (shr a216) fun t217 => br t217 (mk (mk (ob (xfld 1 x1) fun a218 =>
 ob (ldN false 1 a218 B) fun a219 =>
 ob (xbin PP .mul 3 a219 (shr (shr (shr x3)))) fun a220 =>
 mk (ob (xfld 2 x1) fun a221 =>
 ob (ldN false 1 a221 B) fun a222 =>
 ob (xbin PP .lss 3 a222 (iv 0)) fun a223 =>
 asB a223 fun t224 => br t224 (mk (ob (xbin PP .add 3 (shr (shr (shr x3))) (iv 4)) fun a225 =>
 ob (xbin PP .add 3 (shr (shr a220)) a225) fun a226 =>
 Z5C m0 x1 (shr a226) (gcB m0 [x1, (shr a226)] B)))
 (mk (ob (xfld 2 x1) fun a227 =>
 ob (ldN false 1 a227 B) fun a228 =>
 ob (xfld 1 x1) fun a229 =>
 ob (ldN false 1 a229 B) fun a230 =>
 ob (xbin PP .sub 3 a228 a230) fun a231 =>
 ob (xbin PP .add 3 (shr (shr (shr x3))) (iv 1)) fun a232 =>
 ob (xbin PP .mul 3 a231 a232) fun a233 =>
 ob (xbin PP .add 3 (shr (shr a220)) a233) fun a234 =>
 Z5C m0 x1 (shr a234) (gcB m0 [x1, (shr a234)] B)))))))
 (Z4h m0 x3 (gcB m0 [x3] B)))))
 (mk (ob (xbin PP .eql 3 a20 (iv 8)) fun a235 =>
 asB (shr a235) fun t236 => br t236 (mk (ob (xbin PP .add 3 (shr x3) (iv 2)) fun a237 =>
 Z4h m0 (shr a237) (gcB m0 [(shr a237)] B)))
 (mk (ob (xbin PP .eql 3 a20 (iv 4)) fun a238 =>
 asB (shr a238) fun t239 => br t239 (mk (mk (ob (xfld 1 x1) fun a240 =>
 ob (ldN false 1 a240 B) fun a241 =>
 ob (xbin PP .mul 3 a241 (shr (shr (shr x3)))) fun a242 =>
 mk (ob (xfld 2 x1) fun a243 =>
 ob (ldN false 1 a243 B) fun a244 =>
 ob (xbin PP .lss 3 a244 (iv 0)) fun a245 =>
 asB a245 fun t246 => br t246 (mk (ob (xbin PP .add 3 (shr (shr (shr x3))) (iv 4)) fun a247 =>
 ob (xbin PP .add 3 (shr (shr a242)) a247) fun a248 =>
 Z5C m0 x1 (shr a248) (gcB m0 [x1, (shr a248)] B)))
 (mk (ob (xfld 2 x1) fun a249 =>
 ob (ldN false 1 a249 B) fun a250 =>
 ob (xfld 1 x1) fun a251 =>
 ob (ldN false 1 a251 B) fun a252 =>
 ob (xbin PP .sub 3 a250 a252) fun a253 =>
 ob (xbin PP .add 3 (shr (shr (shr x3))) (iv 1)) fun a254 =>
 ob (xbin PP .mul 3 a253 a254) fun a255 =>
 ob (xbin PP .add 3 (shr (shr a242)) a255) fun a256 =>
 Z5C m0 x1 (shr a256) (gcB m0 [x1, (shr a256)] B)))))))
 (Z4h m0 x3 (gcB m0 [x3] B)))))))))))))))))) := by kernel_rfl
theorem ZAp m0 x3 B : Z4h m0 x3 B =
 mk (ob (Z7I PP false [(shr x3), (iv 1048576)]) fun a257 =>
 ZpI (shr a257) B) := by kernel_rfl
theorem ZAo m0 x1 x3 B : Z5C m0 x1 x3 B =
 mk (ob (xfld 3 x1) fun a258 =>
 ob (ldN false 1 a258 B) fun a259 =>
 ob (xbin PP .eql 3 a259 (iv 2)) fun a260 =>
 asB a260 fun t261 => br t261 (mk (ob (xbin PP .add 3 (shr x3) (iv 2)) fun a262 =>
 Z4h m0 (shr a262) (gcB m0 [(shr a262)] B)))
 (Z4h m0 x3 (gcB m0 [x3] B))) := by kernel_rfl
theorem ZHs x0 B : EE 72 [x0] B =
 (let m0 := B.length
 mk (bx x0 B fun a1 B2 =>
 mk (mk (ob (xfld 6 a1) fun a3 =>
 ob (ldN false 1 a3 B2) fun a4 =>
 ob (xlen PP 96 a4) fun a5 =>
 ZlO m0 a1 (iv 0) a4 a5 (iv 0) (gcB m0 [a1, (iv 0), a4, a5, (iv 0)] B2))))) := (E_eq PP XX HH _ _ _).trans (by kernel_rfl)
def ZFW (r0 : AV) (B : List Row) : Option Res :=
 ob (ob (some r0) fun v => ob (some []) fun vs => some (v :: vs)) fun vs => some ((nrmA (match vs with | [v] => v | vs => Z1M (vs.map shr))), B)
theorem ZHx x0 x1 B : EE 73 [x0, x1] B =
 (let m0 := B.length
 mk (bx x0 B fun a1 B2 =>
 mk (ob (ldN false 1 x1 B2) fun a3 =>
 ob (ldN true 5 a1 B2) fun a4 =>
 callV HH EE a3 [a4] B2 fun a5 B6 =>
 ob (xun PP .not a5) fun a7 =>
 ZFW (shr a7) B6))) := (E_eq PP XX HH _ _ _).trans (by kernel_rfl)
def ZFX (r0 : AV) (B : List Row) : Option Res :=
 ob (ob (some r0) fun v => ob (some []) fun vs => some (v :: vs)) fun vs => some ((nrmA (match vs with | [v] => v | vs => Z1M (vs.map shr))), B)
theorem ZHy x0 x1 B : EE 74 [x0, x1] B =
 (let m0 := B.length
 mk (mk (ob (ldN false 1 x1 B) fun a1 =>
 ob (Zgb PP 152 false a1 (shr x0) B) fun a2 =>
 mk (ob (ldN false 1 x1 B) fun a3 =>
 xupd PP 152 a3 (shr x0) (bv true) B fun B4 =>
 mk (ZFX (shr (shr (shr a2))) B4))))) := (E_eq PP XX HH _ _ _).trans (by kernel_rfl)
def ZFY (r0 : AV) (B : List Row) : Option Res :=
 ob (ob (some r0) fun v => ob (some []) fun vs => some (v :: vs)) fun vs => some ((nrmA (match vs with | [v] => v | vs => Z1M (vs.map shr))), B)
theorem ZHz x0 x1 B : EE 75 [x0, x1] B =
 (let m0 := B.length
 mk (bx x0 B fun a1 B2 =>
 mk (ob (ldN false 1 x1 B2) fun a3 =>
 ob (xfld 0 a1) fun a4 =>
 ob (ldN false 1 a4 B2) fun a5 =>
 callV HH EE a3 [a5] B2 fun a6 B7 =>
 ZFY (shr a6) B7))) := (E_eq PP XX HH _ _ _).trans (by kernel_rfl)
def Zkt : Code := Z2K Tryz.f83
def Zyl (r0 : AV) (B : List Row) : Option Res :=
 ob (ob (some r0) fun v => ob (some []) fun vs => some (v :: vs)) fun vs => some ((nrmA (match vs with | [v] => v | vs => Z1M (vs.map shr))), B)
def Zwd (m0 : Nat) : Kont := kret PP HH 83 Tryz.f83.results
def ZHA (m0 : Nat) : Kont := kseq HH 83 m0 (l2 (l2 Zkt)) (exec PP HH 83 m0 EE LL (l2 (l2 Zkt)) (Zwd m0)) (Zwd m0)
def Zwe (m0 : Nat) : Kont := kblk 0 (ZHA m0)
def ZC9 (m0 : Nat) : Kont := kloop HH 83 m0 (l1 (l1 (l2 (l1 (l2 Zkt))))) (LL 83 m0 (l1 (l1 (l2 (l1 (l2 Zkt))))) (Zwe m0)) (Zwe m0)
def ZfK (m0 : Nat) (x0 x1 x7 x8 : AV) (B : List Row) : Option Res := lp (LL 83 m0 (l1 (l1 (l2 (l1 (l2 Zkt))))) (Zwe m0) [(0, x0), (1, x1), (7, x7), (8, x8)] B)
def ZrV (m0 : Nat) (x0 x1 x7 x8 : AV) (B : List Row) : Option Res := exec PP HH 83 m0 EE LL (l2 (l2 (l1 (l1 (l2 (l1 (l2 Zkt))))))) (ZC9 m0) [(0, x0), (1, x1), (7, x7), (8, x8)] B
def ZrX (m0 : Nat) (B : List Row) : Option Res := exec PP HH 83 m0 EE LL (l2 (l2 Zkt)) (Zwd m0) [] B
def ZrW (m0 : Nat) (x0 x1 x7 x8 : AV) (B : List Row) : Option Res := exec PP HH 83 m0 EE LL (l2 (l2 (l2 (l1 (l1 (l2 (l1 (l2 Zkt)))))))) (ZC9 m0) [(0, x0), (1, x1), (7, x7), (8, x8)] B
theorem Zuw m0 x0 x1 x7 x8 B : ZfK m0 x0 x1 x7 x8 B =
 mk (ob (xbin PP .lss 3 x8 x7) fun a2 =>
 asB a2 fun t3 => br t3 (ZrV m0 x0 x1 x7 x8 (gcB m0 [x0, x1, x7, x8] B))
 (ZrX m0  (gcB m0 [] B))) := (L_eq PP XX HH _ _ _ _ _ _).trans (by kernel_rfl)
theorem Zux m0 x0 x1 x7 x8 B : ZrV m0 x0 x1 x7 x8 B =
 mk (mk (ob (xidx 5 (shr x0) (shr (shr (shr x8)))) fun a4 =>
 ob (ldN true 5 a4 B) fun a5 =>
 callV HH EE (shr x1) [a5] B fun a6 B7 =>
 asB a6 fun t8 => br t8 (mk (Zyl (shr (shr (shr (shr x8)))) B7))
 (ZrW m0 x0 x1 x7 x8 (gcB m0 [x0, x1, x7, x8] B7)))) := by kernel_rfl
theorem Zuz m0 B : ZrX m0  B =
 mk (Zyl (iv (-1)) B) := by kernel_rfl
theorem Zuy m0 x0 x1 x7 x8 B : ZrW m0 x0 x1 x7 x8 B =
 mk (ob (xbin PP .add 3 x8 (iv 1)) fun a9 =>
 ZfK m0 x0 x1 x7 (shr a9) (gcB m0 [x0, x1, x7, (shr a9)] B)) := by kernel_rfl
theorem ZC8 x0 x1 B : EE 83 [x0, x1] B =
 (let m0 := B.length
 mk (mk (ob (xlen PP 22 (shr x0)) fun a1 =>
 ZfK m0 x0 x1 a1 (iv 0) (gcB m0 [x0, x1, a1, (iv 0)] B)))) := (E_eq PP XX HH _ _ _).trans (by kernel_rfl)
def Zku : Code := Z2K Tryz.f84
def Zym (r0 : AV) (B : List Row) : Option Res :=
 ob (ob (some r0) fun v => ob (some []) fun vs => some (v :: vs)) fun vs => some ((nrmA (match vs with | [v] => v | vs => Z1M (vs.map shr))), B)
def Zwf (m0 : Nat) : Kont := kret PP HH 84 Tryz.f84.results
def ZHC (m0 : Nat) : Kont := kseq HH 84 m0 (l2 (l2 Zku)) (exec PP HH 84 m0 EE LL (l2 (l2 Zku)) (Zwf m0)) (Zwf m0)
def Zwg (m0 : Nat) : Kont := kblk 0 (ZHC m0)
def ZCa (m0 : Nat) : Kont := kloop HH 84 m0 (l1 (l1 (l2 (l1 (l2 Zku))))) (LL 84 m0 (l1 (l1 (l2 (l1 (l2 Zku))))) (Zwg m0)) (Zwg m0)
def ZlP (m0 : Nat) (x0 x1 x7 x8 : AV) (B : List Row) : Option Res := lp (LL 84 m0 (l1 (l1 (l2 (l1 (l2 Zku))))) (Zwg m0) [(0, x0), (1, x1), (7, x7), (8, x8)] B)
def Zwh (m0 : Nat) (x0 x1 x7 x8 : AV) (B : List Row) : Option Res := exec PP HH 84 m0 EE LL (l2 (l2 (l1 (l1 (l2 (l1 (l2 Zku))))))) (ZCa m0) [(0, x0), (1, x1), (7, x7), (8, x8)] B
def Zwj (m0 : Nat) (B : List Row) : Option Res := exec PP HH 84 m0 EE LL (l2 (l2 Zku)) (Zwf m0) [] B
def Zwi (m0 : Nat) (x0 x1 x7 x8 : AV) (B : List Row) : Option Res := exec PP HH 84 m0 EE LL (l2 (l2 (l2 (l1 (l1 (l2 (l1 (l2 Zku)))))))) (ZCa m0) [(0, x0), (1, x1), (7, x7), (8, x8)] B
theorem ZCb m0 x0 x1 x7 x8 B : ZlP m0 x0 x1 x7 x8 B =
 mk (ob (xbin PP .lss 3 x8 x7) fun a2 =>
 asB a2 fun t3 => br t3 (Zwh m0 x0 x1 x7 x8 (gcB m0 [x0, x1, x7, x8] B))
 (Zwj m0  (gcB m0 [] B))) := (L_eq PP XX HH _ _ _ _ _ _).trans (by kernel_rfl)
theorem ZCc m0 x0 x1 x7 x8 B : Zwh m0 x0 x1 x7 x8 B =
 mk (mk (ob (xidx 1 (shr x0) (shr (shr (shr x8)))) fun a4 =>
 ob (ldN false 1 a4 B) fun a5 =>
 callV HH EE (shr x1) [a5] B fun a6 B7 =>
 asB a6 fun t8 => br t8 (mk (Zym (shr (shr (shr (shr x8)))) B7))
 (Zwi m0 x0 x1 x7 x8 (gcB m0 [x0, x1, x7, x8] B7)))) := by kernel_rfl
theorem ZCe m0 B : Zwj m0  B =
 mk (Zym (iv (-1)) B) := by kernel_rfl
theorem ZCd m0 x0 x1 x7 x8 B : Zwi m0 x0 x1 x7 x8 B =
 mk (ob (xbin PP .add 3 x8 (iv 1)) fun a9 =>
 ZlP m0 x0 x1 x7 (shr a9) (gcB m0 [x0, x1, x7, (shr a9)] B)) := by kernel_rfl
theorem ZHB x0 x1 B : EE 84 [x0, x1] B =
 (let m0 := B.length
 mk (mk (ob (xlen PP 27 (shr x0)) fun a1 =>
 ZlP m0 x0 x1 a1 (iv 0) (gcB m0 [x0, x1, a1, (iv 0)] B)))) := (E_eq PP XX HH _ _ _).trans (by kernel_rfl)
def Zkv : Code := Z2K Tryz.f91
def ZFZ (r0 : AV) (B : List Row) : Option Res :=
 ob (ob (ldN true 7 r0 B) fun v => ob (some []) fun vs => some (v :: vs)) fun vs => some ((nrmA (match vs with | [v] => v | vs => Z1M (vs.map shr))), B)
def Zwk (m0 : Nat) : Kont := kret PP HH 91 Tryz.f91.results
def ZHE (m0 : Nat) : Kont := kseq HH 91 m0 (l2 (l2 (l2 (l1 (l2 Zkv))))) (exec PP HH 91 m0 EE LL (l2 (l2 (l2 (l1 (l2 Zkv))))) (Zwk m0)) (Zwk m0)
def Zwl (m0 : Nat) : Kont := kblk 0 (ZHE m0)
def ZCf (m0 : Nat) : Kont := kloop HH 91 m0 (l1 (l1 (l1 (l2 (l2 (l1 (l2 Zkv))))))) (LL 91 m0 (l1 (l1 (l1 (l2 (l2 (l1 (l2 Zkv))))))) (Zwl m0)) (Zwl m0)
def ZHF (m0 : Nat) : Kont := kblk 1 (ZCf m0)
def ZlQ (m0 : Nat) (x0 x2 x3 : AV) (B : List Row) : Option Res := lp (LL 91 m0 (l1 (l1 (l1 (l2 (l2 (l1 (l2 Zkv))))))) (Zwl m0) [(0, x0), (2, x2), (3, x3)] B)
def Zwm (m0 : Nat) (x0 x2 x3 : AV) (B : List Row) : Option Res := exec PP HH 91 m0 EE LL (l2 (l1 (l1 (l1 (l2 (l2 (l1 (l2 Zkv)))))))) (ZCf m0) [(0, x0), (2, x2), (3, x3)] B
def ZlR (m0 : Nat) (x2 x3 : AV) (B : List Row) : Option Res := exec PP HH 91 m0 EE LL (l2 (l2 (l2 (l1 (l2 Zkv))))) (Zwk m0) [(2, x2), (3, x3)] B
def ZoE (m0 : Nat) (x0 x2 x3 : AV) (B : List Row) : Option Res := exec PP HH 91 m0 EE LL (l2 (l1 (l2 (l1 (l1 (l1 (l2 (l2 (l1 (l2 Zkv)))))))))) (ZHF m0) [(0, x0), (2, x2), (3, x3)] B
theorem ZCg m0 x0 x2 x3 B : ZlQ m0 x0 x2 x3 B =
 mk (ob (Z21 (shr x0)) fun a3 =>
 ob (xfld 5 a3) fun a4 =>
 ob (xfld 0 a4) fun a5 =>
 ob (ldN false 1 a5 B) fun a6 =>
 ob (xbin PP .eql 30 a6 (iv 0)) fun a7 =>
 asB a7 fun t8 => br t8 (Zwm m0 x0 x2 x3 (gcB m0 [x0, x2, x3] B))
 (ZlR m0 x2 x3 (gcB m0 [x2, x3] B))) := (L_eq PP XX HH _ _ _ _ _ _).trans (by kernel_rfl)
theorem ZCh m0 x0 x2 x3 B : Zwm m0 x0 x2 x3 B =
 mk (callS false EE 104 [(shr x0)] B fun a9 B10 =>
 mk (ob (xbin PP .eql 3 a9 (iv (-1))) fun a11 =>
 asB (shr a11) fun t12 => br t12 (asB (shr a11) fun t13 => br t13 (ZlR m0 x2 x3 (gcB m0 [x2, x3] B10))
 (ZoE m0 x0 x2 x3 (gcB m0 [x0, x2, x3] B10)))
 (mk (ob (xbin PP .eql 3 a9 (iv 124)) fun a14 =>
 asB (shr a14) fun t15 => br t15 (asB (shr a14) fun t16 => br t16 (ZlR m0 x2 x3 (gcB m0 [x2, x3] B10))
 (ZoE m0 x0 x2 x3 (gcB m0 [x0, x2, x3] B10)))
 (mk (ob (xbin PP .eql 3 a9 (iv 41)) fun a17 =>
 asB (shr a17) fun t18 => br t18 (ZlR m0 x2 x3 (gcB m0 [x2, x3] B10))
 (ZoE m0 x0 x2 x3 (gcB m0 [x0, x2, x3] B10)))))))) := by kernel_rfl
theorem ZCj m0 x2 x3 B : ZlR m0 x2 x3 B =
 mk (callS false EE 92 [(iv 2), (shr x3)] B fun a19 B20 =>
 stN 7 x2 a19 B20 fun B21 =>
 ZFZ x2 B21) := by kernel_rfl
theorem ZCi m0 x0 x2 x3 B : ZoE m0 x0 x2 x3 B =
 mk (callS false EE 105 [(shr x0)] B fun a22 B23 =>
 ob (xext 0 (shr a22)) fun a24 =>
 ob (xext 1 (shr a22)) fun a25 =>
 bz PP 98 B23 fun a26 B27 =>
 stN 7 a26 (shr a24) B27 fun B28 =>
 mk (ob (ldN true 7 a26 B28) fun a29 =>
 callS false EE 106 [(shr x0), a29, (shr (shr (shr a25)))] B28 fun a30 B31 =>
 ob (xlit PP 96 1 [(0, a30)]) fun a32 =>
 ob (xapp 7 x3 a32) fun a33 =>
 ZlQ m0 x0 x2 a33 (gcB m0 [x0, x2, a33] B31))) := by kernel_rfl
theorem ZHD x0 B : EE 91 [x0] B =
 (let m0 := B.length
 mk (bz PP 98 B fun a1 B2 =>
 mk (ZlQ m0 x0 a1 nilA (gcB m0 [x0, a1, nilA] (gcB m0 [x0, a1, nilA] B2))))) := (E_eq PP XX HH _ _ _).trans (by kernel_rfl)
def ZI7 : Code := Z2K Tryz.f92
def Zuf (r0 : AV) (B : List Row) : Option Res :=
 ob (ob (ldN true 7 r0 B) fun v => ob (some []) fun vs => some (v :: vs)) fun vs => some ((nrmA (match vs with | [v] => v | vs => Z1M (vs.map shr))), B)
def ZHH (m0 : Nat) : Kont := kret PP HH 92 Tryz.f92.results
def Zwn (m0 : Nat) (x0 x1 x4 : AV) (B : List Row) : Option Res := exec PP HH 92 m0 EE LL (l2 (l2 ZI7)) (ZHH m0) [(0, x0), (1, x1), (4, x4)] B
theorem ZCk m0 x0 x1 x4 B : Zwn m0 x0 x1 x4 B =
 mk (ob (Z1G PP 98 [(0, (shr x0)), (6, (shr x1))]) fun a13 =>
 stN 7 x4 a13 B fun B14 =>
 Zuf x4 B14) := by kernel_rfl
theorem ZHG x0 x1 B : EE 92 [x0, x1] B =
 (let m0 := B.length
 mk (bz PP 98 B fun a1 B2 =>
 mk (ob (xlen PP 96 (shr x1)) fun a3 =>
 mk (ob (xbin PP .eql 3 a3 (iv 0)) fun a4 =>
 asB (shr a4) fun t5 => br t5 (mk (ob (Z1G PP 98 []) fun a6 =>
 stN 7 a1 a6 B2 fun B7 =>
 Zuf a1 B7))
 (mk (ob (xbin PP .eql 3 a3 (iv 1)) fun a8 =>
 asB (shr a8) fun t9 => br t9 (mk (ob (xidx 7 (shr x1) (iv 0)) fun a10 =>
 ob (ldN true 7 a10 B2) fun a11 =>
 stN 7 a1 a11 B2 fun B12 =>
 Zuf a1 B12))
 (Zwn m0 x0 x1 a1 (gcB m0 [x0, x1, a1] B2)))))))) := (E_eq PP XX HH _ _ _).trans (by kernel_rfl)
def ZaV : Code := Z2K Tryz.f93
def Zjh (r0 r1 : AV) (B : List Row) : Option Res :=
 ob (ob (some r0) fun v => ob (ob (some r1) fun v => ob (some []) fun vs => some (v :: vs)) fun vs => some (v :: vs)) fun vs => some ((nrmA (match vs with | [v] => v | vs => Z1M (vs.map shr))), B)
def Zwo (m0 : Nat) : Kont := kret PP HH 93 Tryz.f93.results
def ZHJ (m0 : Nat) : Kont := kseq HH 93 m0 (l2 (l2 ZaV)) (exec PP HH 93 m0 EE LL (l2 (l2 ZaV)) (Zwo m0)) (Zwo m0)
def ZCl (m0 : Nat) : Kont := kblk 0 (ZHJ m0)
def Zwp (m0 : Nat) : Kont := kblk 1 (ZCl m0)
def Zwq (m0 : Nat) : Kont := kblk 3 (ZCl m0)
def ZHK (m0 : Nat) : Kont := kloop HH 93 m0 (l1 (l1 (l2 (l1 (l2 (l2 (l2 (l2 (l2 (l1 (l2 (l1 (l2 ZaV))))))))))))) (LL 93 m0 (l1 (l1 (l2 (l1 (l2 (l2 (l2 (l2 (l2 (l1 (l2 (l1 (l2 ZaV))))))))))))) (Zwp m0)) (Zwp m0)
def ZrY (m0 : Nat) : Kont := kloop HH 93 m0 (l1 (l1 (l2 (l2 (l1 (l2 (l2 (l2 (l2 (l2 (l2 (l2 (l1 (l2 (l1 (l2 ZaV)))))))))))))))) (LL 93 m0 (l1 (l1 (l2 (l2 (l1 (l2 (l2 (l2 (l2 (l2 (l2 (l2 (l1 (l2 (l1 (l2 ZaV)))))))))))))))) (Zwq m0)) (Zwq m0)
def ZHL (m0 : Nat) : Kont := kseq HH 93 m0 (l2 (l2 (l2 (l1 (l1 (l2 (l2 (l1 (l2 (l2 (l2 (l2 (l2 (l2 (l2 (l1 (l2 (l1 (l2 ZaV))))))))))))))))))) (exec PP HH 93 m0 EE LL (l2 (l2 (l2 (l1 (l1 (l2 (l2 (l1 (l2 (l2 (l2 (l2 (l2 (l2 (l2 (l1 (l2 (l1 (l2 ZaV))))))))))))))))))) (ZrY m0)) (ZrY m0)
def ZCm (m0 : Nat) : Kont := kblk 4 (ZHL m0)
def ZlS (m0 : Nat) (x2 x3 x23 x24 x25 : AV) (B : List Row) : Option Res := lp (LL 93 m0 (l1 (l1 (l2 (l1 (l2 (l2 (l2 (l2 (l2 (l1 (l2 (l1 (l2 ZaV))))))))))))) (Zwp m0) [(2, x2), (3, x3), (23, x23), (24, x24), (25, x25)] B)
def Zjf (m0 : Nat) (x2 x3 x45 x46 x47 : AV) (B : List Row) : Option Res := lp (LL 93 m0 (l1 (l1 (l2 (l2 (l1 (l2 (l2 (l2 (l2 (l2 (l2 (l2 (l1 (l2 (l1 (l2 ZaV)))))))))))))))) (Zwq m0) [(2, x2), (3, x3), (45, x45), (46, x46), (47, x47)] B)
def Zjg (m0 : Nat) (x2 x3 : AV) (B : List Row) : Option Res := exec PP HH 93 m0 EE LL (l2 (l2 ZaV)) (Zwo m0) [(2, x2), (3, x3)] B
def Zwr (m0 : Nat) (x2 x3 x23 x24 x25 : AV) (B : List Row) : Option Res := exec PP HH 93 m0 EE LL (l2 (l2 (l1 (l1 (l2 (l1 (l2 (l2 (l2 (l2 (l2 (l1 (l2 (l1 (l2 ZaV))))))))))))))) (ZHK m0) [(2, x2), (3, x3), (23, x23), (24, x24), (25, x25)] B
def Zug (m0 : Nat) (x2 x3 x45 x46 x47 : AV) (B : List Row) : Option Res := exec PP HH 93 m0 EE LL (l2 (l2 (l1 (l1 (l2 (l2 (l1 (l2 (l2 (l2 (l2 (l2 (l2 (l2 (l1 (l2 (l1 (l2 ZaV)))))))))))))))))) (ZrY m0) [(2, x2), (3, x3), (45, x45), (46, x46), (47, x47)] B
def ZpJ (m0 : Nat) (x2 x45 x46 x47 : AV) (B : List Row) : Option Res := exec PP HH 93 m0 EE LL (l1 (l2 (l2 (l2 (l2 (l1 (l1 (l2 (l2 (l1 (l1 (l2 (l2 (l1 (l2 (l2 (l2 (l2 (l2 (l2 (l2 (l1 (l2 (l1 (l2 ZaV))))))))))))))))))))))))) (ZCm m0) [(2, x2), (45, x45), (46, x46), (47, x47)] B
def Zuh (m0 : Nat) (x2 x3 x11 x45 x46 x47 : AV) (B : List Row) : Option Res := exec PP HH 93 m0 EE LL (l2 (l2 (l2 (l2 (l2 (l1 (l1 (l2 (l2 (l1 (l1 (l2 (l2 (l1 (l2 (l2 (l2 (l2 (l2 (l2 (l2 (l1 (l2 (l1 (l2 ZaV))))))))))))))))))))))))) (ZCm m0) [(2, x2), (3, x3), (11, x11), (45, x45), (46, x46), (47, x47)] B
def ZpK (m0 : Nat) (x2 x3 x45 x46 x47 : AV) (B : List Row) : Option Res := exec PP HH 93 m0 EE LL (l2 (l2 (l2 (l1 (l1 (l2 (l2 (l1 (l2 (l2 (l2 (l2 (l2 (l2 (l2 (l1 (l2 (l1 (l2 ZaV))))))))))))))))))) (ZrY m0) [(2, x2), (3, x3), (45, x45), (46, x46), (47, x47)] B
theorem ZCn m0 x2 x3 x23 x24 x25 B : ZlS m0 x2 x3 x23 x24 x25 B =
 mk (ob (xbin PP .lss 3 x25 x24) fun a58 =>
 asB a58 fun t59 => br t59 (Zwr m0 x2 x3 x23 x24 x25 (gcB m0 [x2, x3, x23, x24, x25] B))
 (Zjg m0 x2 x3 (gcB m0 [x2, x3] B))) := (L_eq PP XX HH _ _ _ _ _ _).trans (by kernel_rfl)
theorem ZAt m0 x2 x3 x45 x46 x47 B : Zjf m0 x2 x3 x45 x46 x47 B =
 mk (ob (xbin PP .lss 3 x47 x46) fun a60 =>
 asB a60 fun t61 => br t61 (Zug m0 x2 x3 x45 x46 x47 (gcB m0 [x2, x3, x45, x46, x47] B))
 (Zjg m0 x2 x3 (gcB m0 [x2, x3] B))) := (L_eq PP XX HH _ _ _ _ _ _).trans (by kernel_rfl)
theorem ZAy m0 x2 x3 B : Zjg m0 x2 x3 B =
 mk (Zjh (shr (shr x2)) (shr (shr x3)) B) := by kernel_rfl
theorem ZCo m0 x2 x3 x23 x24 x25 B : Zwr m0 x2 x3 x23 x24 x25 B =
 mk (ob (xidx 7 x23 x25) fun a62 =>
 ob (ldN true 7 a62 B) fun a63 =>
 bz PP 98 B fun a64 B65 =>
 stN 7 a64 a63 B65 fun B66 =>
 mk (ob (ldN true 7 a64 B66) fun a67 =>
 callS false EE 93 [a67] B66 fun a68 B69 =>
 ob (xext 0 (shr a68)) fun a70 =>
 ob (xext 1 (shr a68)) fun a71 =>
 mk (ob (xbin PP .add 3 (shr x2) (shr (shr (shr a70)))) fun a72 =>
 ob (Z7I PP false [a72, (iv 1048576)]) fun a73 =>
 callS false EE 107 [(shr x3), (shr (shr (shr a71)))] B69 fun a74 B75 =>
 mk (ob (xbin PP .add 3 x25 (iv 1)) fun a76 =>
 ZlS m0 (shr a73) (shr a74) x23 x24 (shr a76) (gcB m0 [(shr a73), (shr a74), x23, x24, (shr a76)] B75))))) := by kernel_rfl
theorem ZAu m0 x2 x3 x45 x46 x47 B : Zug m0 x2 x3 x45 x46 x47 B =
 mk (ob (xidx 7 x45 x47) fun a77 =>
 ob (ldN true 7 a77 B) fun a78 =>
 bz PP 98 B fun a79 B80 =>
 stN 7 a79 a78 B80 fun B81 =>
 mk (ob (ldN true 7 a79 B81) fun a82 =>
 callS false EE 93 [a82] B81 fun a83 B84 =>
 ob (xext 0 (shr a83)) fun a85 =>
 ob (xext 1 (shr a83)) fun a86 =>
 mk (ob (Z7I PP false [(shr x2), (shr (shr (shr a85)))]) fun a87 =>
 mk (ob (xbin PP .lss 3 (shr (shr (shr a86))) (iv 0)) fun a88 =>
 asB (shr a88) fun t89 => br t89 (ZpJ m0 (shr a87) x45 x46 x47 (gcB m0 [(shr a87), x45, x46, x47] B84))
 (ob (xbin PP .lss 3 (shr x3) (iv 0)) fun a90 =>
 asB (shr a90) fun t91 => br t91 (ZpJ m0 (shr a87) x45 x46 x47 (gcB m0 [(shr a87), x45, x46, x47] B84))
 (Zuh m0 (shr a87) x3 (shr (shr a86)) x45 x46 x47 (gcB m0 [(shr a87), x3, (shr (shr a86)), x45, x46, x47] B84))))))) := by kernel_rfl
theorem ZAv m0 x2 x45 x46 x47 B : ZpJ m0 x2 x45 x46 x47 B =
 mk (ZpK m0 x2 (iv (-1)) x45 x46 x47 (gcB m0 [x2, (iv (-1)), x45, x46, x47] B)) := by kernel_rfl
theorem ZAw m0 x2 x3 x11 x45 x46 x47 B : Zuh m0 x2 x3 x11 x45 x46 x47 B =
 mk (ob (Z7I PP true [(shr x3), (shr x11)]) fun a92 =>
 ZpK m0 x2 (shr a92) x45 x46 x47 (gcB m0 [x2, (shr a92), x45, x46, x47] B)) := by kernel_rfl
theorem ZAx m0 x2 x3 x45 x46 x47 B : ZpK m0 x2 x3 x45 x46 x47 B =
 mk (ob (xbin PP .add 3 x47 (iv 1)) fun a93 =>
 Zjf m0 x2 x3 x45 x46 (shr a93) (gcB m0 [x2, x3, x45, x46, (shr a93)] B)) := by kernel_rfl
theorem ZHI x0 B : EE 93 [x0] B =
 (let m0 := B.length
 mk (bx x0 B fun a1 B2 =>
 mk (ob (xfld 0 a1) fun a3 =>
 ob (ldN false 1 a3 B2) fun a4 =>
 mk (ob (xbin PP .eql 3 a4 (iv 1)) fun a5 =>
 asB (shr a5) fun t6 => br t6 (mk (Zjh (iv 1) (iv 1) B2))
 (mk (ob (xbin PP .eql 3 a4 (iv 6)) fun a7 =>
 asB (shr a7) fun t8 => br t8 (mk (Zjh (iv 0) (iv (-1)) B2))
 (mk (ob (xbin PP .eql 3 a4 (iv 2)) fun a9 =>
 asB (shr a9) fun t10 => br t10 (mk (ob (xfld 6 a1) fun a11 =>
 ob (ldN false 1 a11 B2) fun a12 =>
 ob (xlen PP 96 a12) fun a13 =>
 ZlS m0 (iv 0) (iv 0) a12 a13 (iv 0) (gcB m0 [(iv 0), (iv 0), a12, a13, (iv 0)] B2)))
 (mk (ob (xbin PP .eql 3 a4 (iv 3)) fun a14 =>
 asB (shr a14) fun t15 => br t15 (mk (mk (ob (xfld 6 a1) fun a16 =>
 ob (ldN false 1 a16 B2) fun a17 =>
 ob (xlen PP 96 a17) fun a18 =>
 Zjf m0 (iv 1048576) (iv 0) a17 a18 (iv 0) (gcB m0 [(iv 1048576), (iv 0), a17, a18, (iv 0)] B2))))
 (mk (ob (xbin PP .eql 3 a4 (iv 4)) fun a19 =>
 asB (shr a19) fun t20 => br t20 (mk (ob (xfld 6 a1) fun a21 =>
 ob (ldN false 1 a21 B2) fun a22 =>
 ob (xidx 7 a22 (iv 0)) fun a23 =>
 ob (ldN true 7 a23 B2) fun a24 =>
 callS false EE 93 [a24] B2 fun a25 B26 =>
 ob (xext 0 (shr a25)) fun a27 =>
 ob (xext 1 (shr a25)) fun a28 =>
 mk (ob (xfld 1 a1) fun a29 =>
 ob (ldN false 1 a29 B26) fun a30 =>
 ob (xbin PP .mul 3 (shr (shr (shr a27))) a30) fun a31 =>
 ob (Z7I PP false [a31, (iv 1048576)]) fun a32 =>
 ob (xfld 2 a1) fun a33 =>
 ob (ldN false 1 a33 B26) fun a34 =>
 callS false EE 108 [(shr (shr (shr a28))), a34] B26 fun a35 B36 =>
 grd (Zmo [a35, (shr (shr (shr a28))), a34]) (Zjh (shr a32) (shr a35) B36))))
 (mk (ob (xbin PP .eql 3 a4 (iv 5)) fun a37 =>
 asB (shr a37) fun t38 => br t38 (asB (shr a37) fun t39 => br t39 (mk (ob (xfld 6 a1) fun a40 =>
 ob (ldN false 1 a40 B2) fun a41 =>
 ob (xidx 7 a41 (iv 0)) fun a42 =>
 ob (ldN true 7 a42 B2) fun a43 =>
 callS false EE 93 [a43] B2 fun a44 B45 =>
 ob (xext 0 a44) fun a46 =>
 ob (xext 1 a44) fun a47 =>
 Zjh (shr (shr a46)) (shr (shr a47)) B45))
 (Zjg m0 (iv 0) (iv 0) (gcB m0 [(iv 0), (iv 0)] B2)))
 (mk (ob (xbin PP .eql 3 a4 (iv 8)) fun a48 =>
 asB (shr a48) fun t49 => br t49 (mk (ob (xfld 6 a1) fun a50 =>
 ob (ldN false 1 a50 B2) fun a51 =>
 ob (xidx 7 a51 (iv 0)) fun a52 =>
 ob (ldN true 7 a52 B2) fun a53 =>
 callS false EE 93 [a53] B2 fun a54 B55 =>
 ob (xext 0 a54) fun a56 =>
 ob (xext 1 a54) fun a57 =>
 Zjh (shr (shr a56)) (shr (shr a57)) B55))
 (Zjg m0 (iv 0) (iv 0) (gcB m0 [(iv 0), (iv 0)] B2)))))))))))))))))) := (E_eq PP XX HH _ _ _).trans (by kernel_rfl)
def ZG0 (r0 : AV) (B : List Row) : Option Res :=
 ob (ob (some r0) fun v => ob (some []) fun vs => some (v :: vs)) fun vs => some ((nrmA (match vs with | [v] => v | vs => Z1M (vs.map shr))), B)
theorem ZHM x0 x1 B : EE 94 [x0, x1] B =
 (let m0 := B.length
 mk (mk (callS false EE 109 [(shr x0), (shr x1)] B fun a1 B2 =>
 ob (xbin PP .geq 3 a1 (iv 0)) fun a3 =>
 ZG0 (shr a3) B2))) := (E_eq PP XX HH _ _ _).trans (by kernel_rfl)
def ZG1 (r0 : AV) (B : List Row) : Option Res :=
 ob (ob (some r0) fun v => ob (some []) fun vs => some (v :: vs)) fun vs => some ((nrmA (match vs with | [v] => v | vs => Z1M (vs.map shr))), B)
theorem ZHN x0 B : EE 95 [x0] B =
 (let m0 := B.length
 mk (bx x0 B fun a1 B2 =>
 mk (ob (ldN true 7 a1 B2) fun a3 =>
 callS false EE 71 [a3] B2 fun a4 B5 =>
 ob (xun PP .not a4) fun a6 =>
 ZG1 (shr a6) B5))) := (E_eq PP XX HH _ _ _).trans (by kernel_rfl)
def ZGE : Code := Z2K Tryz.f104
def Zvh (r0 : AV) (B : List Row) : Option Res :=
 ob (ob (some r0) fun v => ob (some []) fun vs => some (v :: vs)) fun vs => some ((nrmA (match vs with | [v] => v | vs => Z1M (vs.map shr))), B)
def ZEC (m0 : Nat) : Kont := kret PP HH 104 Tryz.f104.results
def ZsI (m0 : Nat) (x0 : AV) (B : List Row) : Option Res := exec PP HH 104 m0 EE LL (l2 (l2 ZGE)) (ZEC m0) [(0, x0)] B
theorem ZyX m0 x0 B : ZsI m0 x0 B =
 mk (ob (Z21 (shr x0)) fun a10 =>
 ob (xfld 0 a10) fun a11 =>
 ob (ldN false 1 a11 B) fun a12 =>
 ob (Z21 (shr x0)) fun a13 =>
 ob (xfld 1 a13) fun a14 =>
 ob (ldN false 1 a14 B) fun a15 =>
 callS false EE 126 [a12, a15] B fun a16 B17 =>
 ob (xext 0 (shr a16)) fun a18 =>
 ob (xext 1 (shr a16)) fun a19 =>
 mk (Zvh (shr (shr (shr (shr a18)))) B17)) := by kernel_rfl
theorem ZEB x0 B : EE 104 [x0] B =
 (let m0 := B.length
 mk (mk (ob (Z21 (shr x0)) fun a1 =>
 ob (xfld 1 a1) fun a2 =>
 ob (ldN false 1 a2 B) fun a3 =>
 ob (Z21 (shr x0)) fun a4 =>
 ob (xfld 0 a4) fun a5 =>
 ob (ldN false 1 a5 B) fun a6 =>
 ob (xlen PP 141 a6) fun a7 =>
 ob (xbin PP .geq 3 a3 a7) fun a8 =>
 asB a8 fun t9 => br t9 (mk (Zvh (iv (-1)) B))
 (ZsI m0 x0 (gcB m0 [x0] B))))) := (E_eq PP XX HH _ _ _).trans (by kernel_rfl)
def ZGF : Code := Z2K Tryz.f105
def Z6L (r0 r1 : AV) (B : List Row) : Option Res :=
 ob (ob (ldN true 7 r0 B) fun v => ob (ob (some r1) fun v => ob (some []) fun vs => some (v :: vs)) fun vs => some (v :: vs)) fun vs => some ((nrmA (match vs with | [v] => v | vs => Z1M (vs.map shr))), B)
def ZEE (m0 : Nat) : Kont := kret PP HH 105 Tryz.f105.results
def Z7w (m0 : Nat) (x2 : AV) (B : List Row) : Option Res := exec PP HH 105 m0 EE LL (l2 (l2 (l2 ZGF))) (ZEE m0) [(2, x2)] B
theorem Zxn m0 x2 B : Z7w m0 x2 B =
 mk (ob (Z1G PP 98 []) fun a151 =>
 stN 7 x2 a151 B fun B152 =>
 Z6L x2 (bv true) B152) := by kernel_rfl
theorem ZED x0 B : EE 105 [x0] B =
 (let m0 := B.length
 mk (bz PP 98 B fun a1 B2 =>
 mk (ob (Z21 (shr x0)) fun a3 =>
 ob (xfld 1 a3) fun a4 =>
 ob (ldN false 1 a4 B2) fun a5 =>
 mk (callS false EE 127 [(shr x0)] B2 fun a6 B7 =>
 mk (mk (ob (xbin PP .eql 3 (shr (shr a6)) (iv 46)) fun a8 =>
 asB (shr a8) fun t9 => br t9 (mk (callS false EE 129 [(iv 10)] B7 fun a10 B11 =>
 ob (xlit PP 94 1 [(0, a10)]) fun a12 =>
 callS false EE 128 [(bv true), a12] B11 fun a13 B14 =>
 stN 7 a1 a13 B14 fun B15 =>
 Z6L a1 (bv true) B15))
 (mk (ob (xbin PP .eql 3 (shr (shr a6)) (iv 94)) fun a16 =>
 asB (shr a16) fun t17 => br t17 (mk (ob (Z1G PP 98 [(0, (iv 9)), (4, (iv 0))]) fun a18 =>
 stN 7 a1 a18 B7 fun B19 =>
 Z6L a1 (bv false) B19))
 (mk (ob (xbin PP .eql 3 (shr (shr a6)) (iv 36)) fun a20 =>
 asB (shr a20) fun t21 => br t21 (mk (ob (Z1G PP 98 [(0, (iv 9)), (4, (iv 1))]) fun a22 =>
 stN 7 a1 a22 B7 fun B23 =>
 Z6L a1 (bv false) B23))
 (mk (ob (xbin PP .eql 3 (shr (shr a6)) (iv 92)) fun a24 =>
 asB (shr a24) fun t25 => br t25 (mk (callS false EE 130 [(shr x0), (shr (shr a5))] B7 fun a26 B27 =>
 bz PP 98 B27 fun a28 B29 =>
 stN 7 a28 a26 B29 fun B30 =>
 mk (ob (ldN true 7 a28 B30) fun a31 =>
 ob (xfld 0 a28) fun a32 =>
 ob (ldN false 1 a32 B30) fun a33 =>
 ob (xbin PP .neq 3 a33 (iv 9)) fun a34 =>
 stN 7 a1 a31 B30 fun B35 =>
 grd (Zb2 a32 a1) (Z6L a1 (shr a34) B35))))
 (mk (ob (xbin PP .eql 3 (shr (shr a6)) (iv 91)) fun a36 =>
 asB (shr a36) fun t37 => br t37 (mk (callS false EE 131 [(shr x0), (shr (shr a5))] B7 fun a38 B39 =>
 stN 7 a1 a38 B39 fun B40 =>
 Z6L a1 (bv true) B40))
 (mk (ob (xbin PP .eql 3 (shr (shr a6)) (iv 40)) fun a41 =>
 asB (shr a41) fun t42 => br t42 (mk (callS false EE 132 [(shr x0), (shr (shr a5))] B7 fun a43 B44 =>
 ob (xext 0 a43) fun a45 =>
 ob (xext 1 a43) fun a46 =>
 stN 7 a1 (shr a45) B44 fun B47 =>
 Z6L a1 (shr (shr a46)) B47))
 (mk (ob (xbin PP .eql 3 (shr (shr a6)) (iv 42)) fun a48 =>
 asB (shr a48) fun t49 => br t49 (asB (shr a48) fun t50 => br t50 (mk (callS false EE 70 [(shr x0), (iv 23), (shr (shr a5))] B7 fun a51 B52 =>
 Z7w m0 a1 (gcB m0 [a1] B52)))
 (mk (ob (xbin PP .eql 3 (shr (shr a6)) (iv 93)) fun a53 =>
 asB (shr a53) fun t54 => br t54 (asB (shr a53) fun t55 => br t55 (mk (callS false EE 70 [(shr x0), (iv 20), (shr (shr a5))] B7 fun a56 B57 =>
 Z7w m0 a1 (gcB m0 [a1] B57)))
 (mk (callS false EE 129 [(shr (shr a6))] B7 fun a58 B59 =>
 ob (xlit PP 94 1 [(0, a58)]) fun a60 =>
 callS false EE 128 [(bv false), a60] B59 fun a61 B62 =>
 stN 7 a1 a61 B62 fun B63 =>
 Z6L a1 (bv true) B63)))
 (mk (ob (xbin PP .eql 3 (shr (shr a6)) (iv 125)) fun a64 =>
 asB (shr a64) fun t65 => br t65 (mk (callS false EE 70 [(shr x0), (iv 20), (shr (shr a5))] B7 fun a66 B67 =>
 Z7w m0 a1 (gcB m0 [a1] B67)))
 (mk (callS false EE 129 [(shr (shr a6))] B7 fun a68 B69 =>
 ob (xlit PP 94 1 [(0, a68)]) fun a70 =>
 callS false EE 128 [(bv false), a70] B69 fun a71 B72 =>
 stN 7 a1 a71 B72 fun B73 =>
 Z6L a1 (bv true) B73)))))))
 (mk (ob (xbin PP .eql 3 (shr (shr a6)) (iv 43)) fun a74 =>
 asB (shr a74) fun t75 => br t75 (asB (shr a74) fun t76 => br t76 (mk (callS false EE 70 [(shr x0), (iv 23), (shr (shr a5))] B7 fun a77 B78 =>
 Z7w m0 a1 (gcB m0 [a1] B78)))
 (mk (ob (xbin PP .eql 3 (shr (shr a6)) (iv 93)) fun a79 =>
 asB (shr a79) fun t80 => br t80 (asB (shr a79) fun t81 => br t81 (mk (callS false EE 70 [(shr x0), (iv 20), (shr (shr a5))] B7 fun a82 B83 =>
 Z7w m0 a1 (gcB m0 [a1] B83)))
 (mk (callS false EE 129 [(shr (shr a6))] B7 fun a84 B85 =>
 ob (xlit PP 94 1 [(0, a84)]) fun a86 =>
 callS false EE 128 [(bv false), a86] B85 fun a87 B88 =>
 stN 7 a1 a87 B88 fun B89 =>
 Z6L a1 (bv true) B89)))
 (mk (ob (xbin PP .eql 3 (shr (shr a6)) (iv 125)) fun a90 =>
 asB (shr a90) fun t91 => br t91 (mk (callS false EE 70 [(shr x0), (iv 20), (shr (shr a5))] B7 fun a92 B93 =>
 Z7w m0 a1 (gcB m0 [a1] B93)))
 (mk (callS false EE 129 [(shr (shr a6))] B7 fun a94 B95 =>
 ob (xlit PP 94 1 [(0, a94)]) fun a96 =>
 callS false EE 128 [(bv false), a96] B95 fun a97 B98 =>
 stN 7 a1 a97 B98 fun B99 =>
 Z6L a1 (bv true) B99)))))))
 (mk (ob (xbin PP .eql 3 (shr (shr a6)) (iv 63)) fun a100 =>
 asB (shr a100) fun t101 => br t101 (asB (shr a100) fun t102 => br t102 (mk (callS false EE 70 [(shr x0), (iv 23), (shr (shr a5))] B7 fun a103 B104 =>
 Z7w m0 a1 (gcB m0 [a1] B104)))
 (mk (ob (xbin PP .eql 3 (shr (shr a6)) (iv 93)) fun a105 =>
 asB (shr a105) fun t106 => br t106 (asB (shr a105) fun t107 => br t107 (mk (callS false EE 70 [(shr x0), (iv 20), (shr (shr a5))] B7 fun a108 B109 =>
 Z7w m0 a1 (gcB m0 [a1] B109)))
 (mk (callS false EE 129 [(shr (shr a6))] B7 fun a110 B111 =>
 ob (xlit PP 94 1 [(0, a110)]) fun a112 =>
 callS false EE 128 [(bv false), a112] B111 fun a113 B114 =>
 stN 7 a1 a113 B114 fun B115 =>
 Z6L a1 (bv true) B115)))
 (mk (ob (xbin PP .eql 3 (shr (shr a6)) (iv 125)) fun a116 =>
 asB (shr a116) fun t117 => br t117 (mk (callS false EE 70 [(shr x0), (iv 20), (shr (shr a5))] B7 fun a118 B119 =>
 Z7w m0 a1 (gcB m0 [a1] B119)))
 (mk (callS false EE 129 [(shr (shr a6))] B7 fun a120 B121 =>
 ob (xlit PP 94 1 [(0, a120)]) fun a122 =>
 callS false EE 128 [(bv false), a122] B121 fun a123 B124 =>
 stN 7 a1 a123 B124 fun B125 =>
 Z6L a1 (bv true) B125)))))))
 (mk (ob (xbin PP .eql 3 (shr (shr a6)) (iv 123)) fun a126 =>
 asB (shr a126) fun t127 => br t127 (mk (callS false EE 70 [(shr x0), (iv 23), (shr (shr a5))] B7 fun a128 B129 =>
 Z7w m0 a1 (gcB m0 [a1] B129)))
 (mk (ob (xbin PP .eql 3 (shr (shr a6)) (iv 93)) fun a130 =>
 asB (shr a130) fun t131 => br t131 (asB (shr a130) fun t132 => br t132 (mk (callS false EE 70 [(shr x0), (iv 20), (shr (shr a5))] B7 fun a133 B134 =>
 Z7w m0 a1 (gcB m0 [a1] B134)))
 (mk (callS false EE 129 [(shr (shr a6))] B7 fun a135 B136 =>
 ob (xlit PP 94 1 [(0, a135)]) fun a137 =>
 callS false EE 128 [(bv false), a137] B136 fun a138 B139 =>
 stN 7 a1 a138 B139 fun B140 =>
 Z6L a1 (bv true) B140)))
 (mk (ob (xbin PP .eql 3 (shr (shr a6)) (iv 125)) fun a141 =>
 asB (shr a141) fun t142 => br t142 (mk (callS false EE 70 [(shr x0), (iv 20), (shr (shr a5))] B7 fun a143 B144 =>
 Z7w m0 a1 (gcB m0 [a1] B144)))
 (mk (callS false EE 129 [(shr (shr a6))] B7 fun a145 B146 =>
 ob (xlit PP 94 1 [(0, a145)]) fun a147 =>
 callS false EE 128 [(bv false), a147] B146 fun a148 B149 =>
 stN 7 a1 a148 B149 fun B150 =>
 Z6L a1 (bv true) B150)))))))))))))))))))))))))))))) := (E_eq PP XX HH _ _ _).trans (by kernel_rfl)
def Zvi : Code := Z2K Tryz.f106
def Zvj (r0 : AV) (B : List Row) : Option Res :=
 ob (ob (ldN true 7 r0 B) fun v => ob (some []) fun vs => some (v :: vs)) fun vs => some ((nrmA (match vs with | [v] => v | vs => Z1M (vs.map shr))), B)
def ZsJ (m0 : Nat) : Kont := kret PP HH 106 Tryz.f106.results
def ZgA (m0 : Nat) (x0 x2 x6 x7 x8 : AV) (B : List Row) : Option Res := exec PP HH 106 m0 EE LL (l2 (l2 (l2 (l2 Zvi)))) (ZsJ m0) [(0, x0), (2, x2), (6, x6), (7, x7), (8, x8)] B
def ZmK (m0 : Nat) (x0 x6 x8 : AV) (B : List Row) : Option Res := exec PP HH 106 m0 EE LL (l2 (l2 (l2 (l2 (l2 Zvi))))) (ZsJ m0) [(0, x0), (6, x6), (8, x8)] B
def Zjt (m0 : Nat) (x6 x8 : AV) (B : List Row) : Option Res := exec PP HH 106 m0 EE LL (l2 (l2 (l2 (l2 (l2 (l2 Zvi)))))) (ZsJ m0) [(6, x6), (8, x8)] B
theorem Zxo m0 x0 x2 x6 x7 x8 B : ZgA m0 x0 x2 x6 x7 x8 B =
 mk (ob (xun PP .not (shr x2)) fun a40 =>
 asB a40 fun t41 => br t41 (mk (callS false EE 70 [(shr x0), (iv 23), (shr x7)] B fun a42 B43 =>
 ZmK m0 x0 x6 x8 (gcB m0 [x0, x6, x8] B43)))
 (ZmK m0 x0 x6 x8 (gcB m0 [x0, x6, x8] B))) := by kernel_rfl
theorem Zxp m0 x0 x6 x8 B : ZmK m0 x0 x6 x8 B =
 mk (callS false EE 68 [(shr x0), (.p (.v (.string (ByteArray.mk #[63]))))] B fun a44 B45 =>
 asB (shr a44) fun t46 => br t46 (mk (ob (xfld 3 x8) fun a47 =>
 stN 1 a47 (iv 1) B45 fun B48 =>
 Zjt m0 x6 x8 (gcB m0 [x6, x8] B48)))
 (mk (callS false EE 68 [(shr x0), (.p (.v (.string (ByteArray.mk #[43]))))] B45 fun a49 B50 =>
 asB (shr a49) fun t51 => br t51 (mk (ob (xfld 3 x8) fun a52 =>
 stN 1 a52 (iv 2) B50 fun B53 =>
 Zjt m0 x6 x8 (gcB m0 [x6, x8] B53)))
 (Zjt m0 x6 x8 (gcB m0 [x6, x8] B50))))) := by kernel_rfl
theorem Zxq m0 x6 x8 B : Zjt m0 x6 x8 B =
 mk (ob (ldN true 7 x8 B) fun a54 =>
 stN 7 x6 a54 B fun B55 =>
 Zvj x6 B55) := by kernel_rfl
theorem ZEF x0 x1 x2 B : EE 106 [x0, x1, x2] B =
 (let m0 := B.length
 mk (bx x1 B fun a1 B2 =>
 bz PP 98 B2 fun a3 B4 =>
 mk (ob (Z21 (shr x0)) fun a5 =>
 ob (xfld 1 a5) fun a6 =>
 ob (ldN false 1 a6 B4) fun a7 =>
 mk (ob (ldN true 7 a1 B4) fun a8 =>
 ob (xlit PP 96 1 [(0, a8)]) fun a9 =>
 ob (Z1G PP 98 [(0, (iv 4)), (2, (iv (-1))), (6, a9)]) fun a10 =>
 bz PP 98 B4 fun a11 B12 =>
 stN 7 a11 a10 B12 fun B13 =>
 mk (callS false EE 68 [(shr x0), (.p (.v (.string (ByteArray.mk #[42]))))] B13 fun a14 B15 =>
 asB (shr a14) fun t16 => br t16 (ZgA m0 x0 x2 a3 (shr a7) a11 (gcB m0 [x0, x2, a3, (shr a7), a11] B15))
 (mk (callS false EE 68 [(shr x0), (.p (.v (.string (ByteArray.mk #[43]))))] B15 fun a17 B18 =>
 asB (shr a17) fun t19 => br t19 (mk (ob (xfld 1 a11) fun a20 =>
 stN 1 a20 (iv 1) B18 fun B21 =>
 ZgA m0 x0 x2 a3 (shr a7) a11 (gcB m0 [x0, x2, a3, (shr a7), a11] B21)))
 (mk (callS false EE 68 [(shr x0), (.p (.v (.string (ByteArray.mk #[63]))))] B18 fun a22 B23 =>
 asB (shr a22) fun t24 => br t24 (mk (ob (xfld 2 a11) fun a25 =>
 stN 1 a25 (iv 1) B23 fun B26 =>
 ZgA m0 x0 x2 a3 (shr a7) a11 (gcB m0 [x0, x2, a3, (shr a7), a11] B26)))
 (mk (callS false EE 68 [(shr x0), (.p (.v (.string (ByteArray.mk #[123]))))] B23 fun a27 B28 =>
 asB (shr a27) fun t29 => br t29 (mk (callS false EE 133 [(shr x0), (shr (shr a7))] B28 fun a30 B31 =>
 ob (xext 0 (shr a30)) fun a32 =>
 ob (xext 1 (shr a30)) fun a33 =>
 ob (xfld 1 a11) fun a34 =>
 stN 1 a34 (shr a32) B31 fun B35 =>
 ob (xfld 2 a11) fun a36 =>
 stN 1 a36 (shr a33) B35 fun B37 =>
 ZgA m0 x0 x2 a3 (shr a7) a11 (gcB m0 [x0, x2, a3, (shr a7), a11] B37)))
 (mk (ob (ldN true 7 a1 B28) fun a38 =>
 stN 7 a3 a38 B28 fun B39 =>
 Zvj a3 B39))))))))))))) := (E_eq PP XX HH _ _ _).trans (by kernel_rfl)
def ZrE : Code := Z2K Tryz.f107
def Zvk (r0 : AV) (B : List Row) : Option Res :=
 ob (ob (some r0) fun v => ob (some []) fun vs => some (v :: vs)) fun vs => some ((nrmA (match vs with | [v] => v | vs => Z1M (vs.map shr))), B)
def ZsK (m0 : Nat) : Kont := kret PP HH 107 Tryz.f107.results
def ZEH (m0 : Nat) : Kont := kseq HH 107 m0 (l2 (l2 ZrE)) (exec PP HH 107 m0 EE LL (l2 (l2 ZrE)) (ZsK m0)) (ZsK m0)
def Zpo (m0 : Nat) (B : List Row) : Option Res := exec PP HH 107 m0 EE LL (l1 (l2 (l1 (l2 ZrE)))) (ZEH m0) [] B
def ZsL (m0 : Nat) (x0 x1 : AV) (B : List Row) : Option Res := exec PP HH 107 m0 EE LL (l2 (l2 ZrE)) (ZsK m0) [(0, x0), (1, x1)] B
theorem ZyY m0 B : Zpo m0  B =
 mk (Zvk (iv (-1)) B) := by kernel_rfl
theorem ZyZ m0 x0 x1 B : ZsL m0 x0 x1 B =
 mk (ob (xbin PP .add 3 (shr x0) (shr x1)) fun a5 =>
 callS false EE 134 [a5] B fun a6 B7 =>
 Zvk (shr a6) B7) := by kernel_rfl
theorem ZEG x0 x1 B : EE 107 [x0, x1] B =
 (let m0 := B.length
 mk (mk (ob (xbin PP .lss 3 (shr x0) (iv 0)) fun a1 =>
 asB (shr a1) fun t2 => br t2 (Zpo m0  (gcB m0 [] B))
 (ob (xbin PP .lss 3 (shr x1) (iv 0)) fun a3 =>
 asB (shr a3) fun t4 => br t4 (Zpo m0  (gcB m0 [] B))
 (ZsL m0 x0 x1 (gcB m0 [x0, x1] B)))))) := (E_eq PP XX HH _ _ _).trans (by kernel_rfl)
def ZlC : Code := Z2K Tryz.f108
def ZqD (r0 : AV) (B : List Row) : Option Res :=
 ob (ob (some r0) fun v => ob (some []) fun vs => some (v :: vs)) fun vs => some ((nrmA (match vs with | [v] => v | vs => Z1M (vs.map shr))), B)
def ZsM (m0 : Nat) : Kont := kret PP HH 108 Tryz.f108.results
def ZEJ (m0 : Nat) : Kont := kseq HH 108 m0 (l2 (l2 ZlC)) (exec PP HH 108 m0 EE LL (l2 (l2 ZlC)) (ZsM m0)) (ZsM m0)
def ZsN (m0 : Nat) : Kont := kblk 0 (ZEJ m0)
def Zpp (m0 : Nat) (B : List Row) : Option Res := exec PP HH 108 m0 EE LL (l1 (l2 (l1 (l1 (l2 ZlC))))) (ZsN m0) [] B
def ZsO (m0 : Nat) (x0 x1 : AV) (B : List Row) : Option Res := exec PP HH 108 m0 EE LL (l2 (l2 (l1 (l1 (l2 ZlC))))) (ZsN m0) [(0, x0), (1, x1)] B
def Zpq (m0 : Nat) (B : List Row) : Option Res := exec PP HH 108 m0 EE LL (l1 (l2 (l2 (l2 (l1 (l1 (l2 ZlC))))))) (ZsN m0) [] B
def ZsP (m0 : Nat) (x0 x1 : AV) (B : List Row) : Option Res := exec PP HH 108 m0 EE LL (l2 (l2 ZlC)) (ZsM m0) [(0, x0), (1, x1)] B
theorem Zz0 m0 B : Zpp m0  B =
 mk (ZqD (iv 0) B) := by kernel_rfl
theorem Zz1 m0 x0 x1 B : ZsO m0 x0 x1 B =
 mk (ob (xbin PP .lss 3 (shr x0) (iv 0)) fun a5 =>
 asB (shr a5) fun t6 => br t6 (Zpq m0  (gcB m0 [] B))
 (ob (xbin PP .lss 3 (shr x1) (iv 0)) fun a7 =>
 asB (shr (shr a7)) fun t8 => br t8 (Zpq m0  (gcB m0 [] B))
 (ZsP m0 x0 x1 (gcB m0 [x0, x1] B)))) := by kernel_rfl
theorem Zz2 m0 B : Zpq m0  B =
 mk (ZqD (iv (-1)) B) := by kernel_rfl
theorem Zz3 m0 x0 x1 B : ZsP m0 x0 x1 B =
 mk (ob (xbin PP .mul 3 (shr x0) (shr x1)) fun a9 =>
 callS false EE 134 [a9] B fun a10 B11 =>
 ZqD (shr a10) B11) := by kernel_rfl
theorem ZEI x0 x1 B : EE 108 [x0, x1] B =
 (let m0 := B.length
 mk (mk (ob (xbin PP .eql 3 (shr x0) (iv 0)) fun a1 =>
 asB (shr a1) fun t2 => br t2 (Zpp m0  (gcB m0 [] B))
 (ob (xbin PP .eql 3 (shr x1) (iv 0)) fun a3 =>
 asB (shr (shr a3)) fun t4 => br t4 (Zpp m0  (gcB m0 [] B))
 (ZsO m0 x0 x1 (gcB m0 [x0, x1] B)))))) := (E_eq PP XX HH _ _ _).trans (by kernel_rfl)
def Zhs : Code := Z2K Tryz.f109
def Zvl (r0 : AV) (B : List Row) : Option Res :=
 ob (ob (some r0) fun v => ob (some []) fun vs => some (v :: vs)) fun vs => some ((nrmA (match vs with | [v] => v | vs => Z1M (vs.map shr))), B)
def ZsQ (m0 : Nat) : Kont := kret PP HH 109 Tryz.f109.results
def ZEL (m0 : Nat) : Kont := kseq HH 109 m0 (l2 (l2 Zhs)) (exec PP HH 109 m0 EE LL (l2 (l2 Zhs)) (ZsQ m0)) (ZsQ m0)
def ZsR (m0 : Nat) : Kont := kblk 0 (ZEL m0)
def Zya (m0 : Nat) : Kont := kloop HH 109 m0 (l1 (l1 (l2 (l1 (l2 Zhs))))) (LL 109 m0 (l1 (l1 (l2 (l1 (l2 Zhs))))) (ZsR m0)) (ZsR m0)
def ZiY (m0 : Nat) (x0 x1 x7 x8 : AV) (B : List Row) : Option Res := lp (LL 109 m0 (l1 (l1 (l2 (l1 (l2 Zhs))))) (ZsR m0) [(0, x0), (1, x1), (7, x7), (8, x8)] B)
def ZsS (m0 : Nat) (x0 x1 x7 x8 : AV) (B : List Row) : Option Res := exec PP HH 109 m0 EE LL (l2 (l2 (l1 (l1 (l2 (l1 (l2 Zhs))))))) (Zya m0) [(0, x0), (1, x1), (7, x7), (8, x8)] B
def ZsU (m0 : Nat) (B : List Row) : Option Res := exec PP HH 109 m0 EE LL (l2 (l2 Zhs)) (ZsQ m0) [] B
def ZsT (m0 : Nat) (x0 x1 x7 x8 : AV) (B : List Row) : Option Res := exec PP HH 109 m0 EE LL (l2 (l2 (l2 (l1 (l1 (l2 (l1 (l2 Zhs)))))))) (Zya m0) [(0, x0), (1, x1), (7, x7), (8, x8)] B
theorem Zz4 m0 x0 x1 x7 x8 B : ZiY m0 x0 x1 x7 x8 B =
 mk (ob (xbin PP .lss 3 x8 x7) fun a2 =>
 asB a2 fun t3 => br t3 (ZsS m0 x0 x1 x7 x8 (gcB m0 [x0, x1, x7, x8] B))
 (ZsU m0  (gcB m0 [] B))) := (L_eq PP XX HH _ _ _ _ _ _).trans (by kernel_rfl)
theorem Zz5 m0 x0 x1 x7 x8 B : ZsS m0 x0 x1 x7 x8 B =
 mk (mk (ob (xidx 7 (shr x0) (shr (shr (shr x8)))) fun a4 =>
 ob (ldN true 7 a4 B) fun a5 =>
 callV HH EE (shr x1) [a5] B fun a6 B7 =>
 asB a6 fun t8 => br t8 (mk (Zvl (shr (shr (shr (shr x8)))) B7))
 (ZsT m0 x0 x1 x7 x8 (gcB m0 [x0, x1, x7, x8] B7)))) := by kernel_rfl
theorem Zz7 m0 B : ZsU m0  B =
 mk (Zvl (iv (-1)) B) := by kernel_rfl
theorem Zz6 m0 x0 x1 x7 x8 B : ZsT m0 x0 x1 x7 x8 B =
 mk (ob (xbin PP .add 3 x8 (iv 1)) fun a9 =>
 ZiY m0 x0 x1 x7 (shr a9) (gcB m0 [x0, x1, x7, (shr a9)] B)) := by kernel_rfl
theorem ZEK x0 x1 B : EE 109 [x0, x1] B =
 (let m0 := B.length
 mk (mk (ob (xlen PP 96 (shr x0)) fun a1 =>
 ZiY m0 x0 x1 a1 (iv 0) (gcB m0 [x0, x1, a1, (iv 0)] B)))) := (E_eq PP XX HH _ _ _).trans (by kernel_rfl)
def Zht : Code := Z2K Tryz.f126
def ZqE (r0 r1 : AV) (B : List Row) : Option Res :=
 ob (ob (some r0) fun v => ob (ob (some r1) fun v => ob (some []) fun vs => some (v :: vs)) fun vs => some (v :: vs)) fun vs => some ((nrmA (match vs with | [v] => v | vs => Z1M (vs.map shr))), B)
def ZiZ (m0 : Nat) : Kont := kret PP HH 126 Tryz.f126.results
def ZEN (m0 : Nat) : Kont := kseq HH 126 m0 (l2 (l2 Zht)) (exec PP HH 126 m0 EE LL (l2 (l2 Zht)) (ZiZ m0)) (ZiZ m0)
def ZEO (m0 : Nat) : Kont := kseq HH 126 m0 (l2 (l2 (l2 (l2 Zht)))) (exec PP HH 126 m0 EE LL (l2 (l2 (l2 (l2 Zht)))) (ZiZ m0)) (ZiZ m0)
def Zpr (m0 : Nat) (B : List Row) : Option Res := exec PP HH 126 m0 EE LL (l1 (l2 (l1 (l2 Zht)))) (ZEN m0) [] B
def ZsV (m0 : Nat) (x0 x1 : AV) (B : List Row) : Option Res := exec PP HH 126 m0 EE LL (l2 (l2 Zht)) (ZiZ m0) [(0, x0), (1, x1)] B
def ZsW (m0 : Nat) (x0 x1 : AV) (B : List Row) : Option Res := exec PP HH 126 m0 EE LL (l1 (l2 (l1 (l2 (l2 (l2 Zht)))))) (ZEO m0) [(0, x0), (1, x1)] B
def Zps (m0 : Nat) (x6 x7 : AV) (B : List Row) : Option Res := exec PP HH 126 m0 EE LL (l2 (l2 (l2 (l2 Zht)))) (ZiZ m0) [(6, x6), (7, x7)] B
theorem Zz8 m0 B : Zpr m0  B =
 mk (ZqE (iv 0) (iv 0) B) := by kernel_rfl
theorem Zz9 m0 x0 x1 B : ZsV m0 x0 x1 B =
 mk (ob (xsl 1 (shr x0) (some (shr x1)) none none) fun a6 =>
 callS false EE 146 [a6] B fun a7 B8 =>
 ob (xext 0 (shr a7)) fun a9 =>
 ob (xext 1 (shr a7)) fun a10 =>
 mk (ob (xbin PP .eql 21 (shr (shr (shr a9))) (kv .i32 65533)) fun a11 =>
 asB (shr a11) fun t12 => br t12 (ob (xbin PP .eql 3 (shr (shr (shr a10))) (iv 1)) fun a13 =>
 asB (shr a13) fun t14 => br t14 (ZsW m0 x0 x1 (gcB m0 [x0, x1] B8))
 (Zps m0 (shr (shr a9)) (shr (shr a10)) (gcB m0 [(shr (shr a9)), (shr (shr a10))] B8)))
 (Zps m0 (shr (shr a9)) (shr (shr a10)) (gcB m0 [(shr (shr a9)), (shr (shr a10))] B8)))) := by kernel_rfl
theorem Zza m0 x0 x1 B : ZsW m0 x0 x1 B =
 mk (ob (xidx 1 (shr x0) (shr x1)) fun a15 =>
 ob (ldN false 1 a15 B) fun a16 =>
 ob (xcnv PP 5 3 a16) fun a17 =>
 ob (xbin PP .add 3 (iv 1114112) a17) fun a18 =>
 ZqE (shr a18) (iv 1) B) := by kernel_rfl
theorem Zzb m0 x6 x7 B : Zps m0 x6 x7 B =
 mk (ob (xcnv PP 21 3 (shr x6)) fun a19 =>
 ZqE (shr a19) (shr (shr x7)) B) := by kernel_rfl
theorem ZEM x0 x1 B : EE 126 [x0, x1] B =
 (let m0 := B.length
 mk (mk (ob (xbin PP .lss 3 (shr x1) (iv 0)) fun a1 =>
 asB (shr a1) fun t2 => br t2 (Zpr m0  (gcB m0 [] B))
 (ob (xlen PP 141 (shr x0)) fun a3 =>
 ob (xbin PP .geq 3 (shr x1) a3) fun a4 =>
 asB (shr a4) fun t5 => br t5 (Zpr m0  (gcB m0 [] B))
 (ZsV m0 x0 x1 (gcB m0 [x0, x1] B)))))) := (E_eq PP XX HH _ _ _).trans (by kernel_rfl)
def ZDn (r0 : AV) (B : List Row) : Option Res :=
 ob (ob (some r0) fun v => ob (some []) fun vs => some (v :: vs)) fun vs => some ((nrmA (match vs with | [v] => v | vs => Z1M (vs.map shr))), B)
theorem ZEP x0 B : EE 127 [x0] B =
 (let m0 := B.length
 mk (mk (ob (Z21 (shr x0)) fun a1 =>
 ob (xfld 0 a1) fun a2 =>
 ob (ldN false 1 a2 B) fun a3 =>
 ob (Z21 (shr x0)) fun a4 =>
 ob (xfld 1 a4) fun a5 =>
 ob (ldN false 1 a5 B) fun a6 =>
 callS false EE 126 [a3, a6] B fun a7 B8 =>
 ob (xext 0 (shr a7)) fun a9 =>
 ob (xext 1 (shr a7)) fun a10 =>
 mk (ob (Z21 (shr x0)) fun a11 =>
 ob (xfld 1 a11) fun a12 =>
 ob (ldN false 1 a12 B8) fun a13 =>
 ob (xbin PP .add 3 a13 (shr (shr (shr a10)))) fun a14 =>
 ob (Z21 (shr x0)) fun a15 =>
 ob (xfld 1 a15) fun a16 =>
 stN 1 a16 a14 B8 fun B17 =>
 mk (ZDn (shr (shr (shr (shr a9)))) B17))))) := (E_eq PP XX HH _ _ _).trans (by kernel_rfl)
def ZGG : Code := Z2K Tryz.f128
def ZDo (r0 : AV) (B : List Row) : Option Res :=
 ob (ob (ldN true 7 r0 B) fun v => ob (some []) fun vs => some (v :: vs)) fun vs => some ((nrmA (match vs with | [v] => v | vs => Z1M (vs.map shr))), B)
def ZER (m0 : Nat) : Kont := kret PP HH 128 Tryz.f128.results
def Zpt (m0 : Nat) (x4 x5 : AV) (B : List Row) : Option Res := exec PP HH 128 m0 EE LL (l2 (l2 (l2 ZGG))) (ZER m0) [(4, x4), (5, x5)] B
theorem Zzc m0 x4 x5 B : Zpt m0 x4 x5 B =
 mk (ob (Z1G PP 98 [(0, (iv 1)), (5, (shr x5))]) fun a12 =>
 stN 7 x4 a12 B fun B13 =>
 ZDo x4 B13) := by kernel_rfl
theorem ZEQ x0 x1 B : EE 128 [x0, x1] B =
 (let m0 := B.length
 mk (bz PP 98 B fun a1 B2 =>
 mk (callS false EE 147 [(shr x1)] B2 fun a3 B4 =>
 ob (xext 0 (shr a3)) fun a5 =>
 ob (xext 1 (shr a3)) fun a6 =>
 mk (asB (shr x0) fun t7 => br t7 (mk (callS false EE 148 [(shr (shr (shr a5)))] B4 fun a8 B9 =>
 ob (xext 0 (shr a8)) fun a10 =>
 ob (xext 1 (shr a8)) fun a11 =>
 Zpt m0 a1 (shr (shr a10)) (gcB m0 [a1, (shr (shr a10))] B9)))
 (Zpt m0 a1 (shr (shr a5)) (gcB m0 [a1, (shr (shr a5))] B4)))))) := (E_eq PP XX HH _ _ _).trans (by kernel_rfl)
def ZDp (r0 : AV) (B : List Row) : Option Res :=
 ob (ob (ldN true 2 r0 B) fun v => ob (some []) fun vs => some (v :: vs)) fun vs => some ((nrmA (match vs with | [v] => v | vs => Z1M (vs.map shr))), B)
theorem ZES x0 B : EE 129 [x0] B =
 (let m0 := B.length
 mk (bz PP 201 B fun a1 B2 =>
 mk (ob (Z1G PP 201 [(0, (shr x0)), (1, (shr x0))]) fun a3 =>
 stN 2 a1 a3 B2 fun B4 =>
 ZDp a1 B4))) := (E_eq PP XX HH _ _ _).trans (by kernel_rfl)
def ZoB : Code := Z2K Tryz.f130
def ZgB (r0 : AV) (B : List Row) : Option Res :=
 ob (ob (ldN true 7 r0 B) fun v => ob (some []) fun vs => some (v :: vs)) fun vs => some ((nrmA (match vs with | [v] => v | vs => Z1M (vs.map shr))), B)
def Zpu (m0 : Nat) : Kont := kret PP HH 130 Tryz.f130.results
def ZEU (m0 : Nat) : Kont := kseq HH 130 m0 (l2 (l2 (l2 (l2 (l2 ZoB))))) (exec PP HH 130 m0 EE LL (l2 (l2 (l2 (l2 (l2 ZoB))))) (Zpu m0)) (Zpu m0)
def ZEV (m0 : Nat) : Kont := kblk 0 (ZEU m0)
def ZsX (m0 : Nat) (x0 x1 x4 x5 : AV) (B : List Row) : Option Res := exec PP HH 130 m0 EE LL (l2 (l2 (l2 ZoB))) (Zpu m0) [(0, x0), (1, x1), (4, x4), (5, x5)] B
def ZqF (m0 : Nat) (x0 x1 x4 x5 : AV) (B : List Row) : Option Res := exec PP HH 130 m0 EE LL (l1 (l2 (l2 (l2 (l2 (l2 (l2 (l2 (l1 (l1 (l2 (l2 (l2 (l2 ZoB)))))))))))))) (ZEV m0) [(0, x0), (1, x1), (4, x4), (5, x5)] B
def ZmL (m0 : Nat) (x0 x1 x4 x5 : AV) (B : List Row) : Option Res := exec PP HH 130 m0 EE LL (l2 (l2 (l2 (l2 (l2 ZoB))))) (Zpu m0) [(0, x0), (1, x1), (4, x4), (5, x5)] B
theorem Zzd m0 x0 x1 x4 x5 B : ZsX m0 x0 x1 x4 x5 B =
 mk (callS false EE 127 [(shr x0)] B fun a11 B12 =>
 mk (callS true EE 149 [(shr x5)] B12 fun a13 B14 =>
 ob (xnil PP .neq 94 (.slice none 0 0) a13) fun a15 =>
 asB (shr a15) fun t16 => br t16 (mk (ob (xbin PP .lss 3 (shr x5) (iv 97)) fun a17 =>
 callS true EE 149 [(shr x5)] B14 fun a18 B19 =>
 callS false EE 128 [a17, a18] B19 fun a20 B21 =>
 stN 7 x4 a20 B21 fun B22 =>
 ZgB x4 B22))
 (mk (ob (xbin PP .eql 3 (shr x5) (iv 98)) fun a23 =>
 asB (shr a23) fun t24 => br t24 (mk (ob (Z1G PP 98 [(0, (iv 9)), (4, (iv 2))]) fun a25 =>
 stN 7 x4 a25 B14 fun B26 =>
 ZgB x4 B26))
 (mk (ob (xbin PP .eql 3 (shr x5) (iv 66)) fun a27 =>
 asB (shr a27) fun t28 => br t28 (mk (ob (Z1G PP 98 [(0, (iv 9)), (4, (iv 3))]) fun a29 =>
 stN 7 x4 a29 B14 fun B30 =>
 ZgB x4 B30))
 (mk (ob (xbin PP .geq 3 (shr x5) (iv 49)) fun a31 =>
 asB (shr a31) fun t32 => br t32 (ob (xbin PP .leq 3 (shr x5) (iv 57)) fun a33 =>
 asB (shr (shr a33)) fun t34 => br t34 (ZqF m0 x0 x1 x4 x5 (gcB m0 [x0, x1, x4, x5] B14))
 (ZmL m0 x0 x1 x4 x5 (gcB m0 [x0, x1, x4, x5] B14)))
 (ZmL m0 x0 x1 x4 x5 (gcB m0 [x0, x1, x4, x5] B14)))))))))) := by kernel_rfl
theorem Zxr m0 x0 x1 x4 x5 B : ZqF m0 x0 x1 x4 x5 B =
 mk (ob (Z21 (shr x0)) fun a35 =>
 ob (xfld 4 a35) fun a36 =>
 ldOwn a36 B fun a37 B38 =>
 ob (xbin PP .sub 3 (shr x5) (iv 48)) fun a39 =>
 ob (Z1G PP 149 [(0, a39), (1, (shr x1))]) fun a40 =>
 ob (xlit PP 142 1 [(0, a40)]) fun a41 =>
 ob (xapp 2 a37 a41) fun a42 =>
 ob (Z21 (shr x0)) fun a43 =>
 ob (xfld 4 a43) fun a44 =>
 stN 1 a44 a42 B38 fun B45 =>
 mk (ob (xbin PP .sub 3 (shr x5) (iv 48)) fun a46 =>
 ob (Z1G PP 98 [(0, (iv 6)), (4, a46)]) fun a47 =>
 stN 7 x4 a47 B45 fun B48 =>
 ZgB x4 B48)) := by kernel_rfl
theorem Zxs m0 x0 x1 x4 x5 B : ZmL m0 x0 x1 x4 x5 B =
 mk (callS false EE 150 [(shr x0), (shr x5), (shr x1)] B fun a49 B50 =>
 callS false EE 129 [a49] B50 fun a51 B52 =>
 ob (xlit PP 94 1 [(0, a51)]) fun a53 =>
 callS false EE 128 [(bv false), a53] B52 fun a54 B55 =>
 stN 7 x4 a54 B55 fun B56 =>
 ZgB x4 B56) := by kernel_rfl
theorem ZET x0 x1 B : EE 130 [x0, x1] B =
 (let m0 := B.length
 mk (bz PP 98 B fun a1 B2 =>
 mk (callS false EE 104 [(shr x0)] B2 fun a3 B4 =>
 mk (ob (xbin PP .lss 3 (shr (shr a3)) (iv 0)) fun a5 =>
 asB a5 fun t6 => br t6 (mk (callS false EE 70 [(shr x0), (iv 21), (shr x1)] B4 fun a7 B8 =>
 mk (ob (Z1G PP 98 []) fun a9 =>
 stN 7 a1 a9 B8 fun B10 =>
 ZgB a1 B10)))
 (ZsX m0 x0 x1 a1 (shr a3) (gcB m0 [x0, x1, a1, (shr a3)] B4)))))) := (E_eq PP XX HH _ _ _).trans (by kernel_rfl)
def Z5v : Code := Z2K Tryz.f131
def Zvm (r0 : AV) (B : List Row) : Option Res :=
 ob (ob (ldN true 7 r0 B) fun v => ob (some []) fun vs => some (v :: vs)) fun vs => some ((nrmA (match vs with | [v] => v | vs => Z1M (vs.map shr))), B)
def ZsY (m0 : Nat) : Kont := kret PP HH 131 Tryz.f131.results
def ZEX (m0 : Nat) : Kont := kseq HH 131 m0 (l2 (l2 (l2 (l2 (l2 (l2 Z5v)))))) (exec PP HH 131 m0 EE LL (l2 (l2 (l2 (l2 (l2 (l2 Z5v)))))) (ZsY m0)) (ZsY m0)
def ZsZ (m0 : Nat) : Kont := kblk 0 (ZEX m0)
def Zpv (m0 : Nat) : Kont := kloop HH 131 m0 (l1 (l1 (l1 (l2 (l2 (l2 (l2 (l2 Z5v)))))))) (LL 131 m0 (l1 (l1 (l1 (l2 (l2 (l2 (l2 (l2 Z5v)))))))) (ZsZ m0)) (ZsZ m0)
def ZEY (m0 : Nat) : Kont := kseq HH 131 m0 (l2 (l2 (l1 (l1 (l1 (l2 (l2 (l2 (l2 (l2 Z5v)))))))))) (exec PP HH 131 m0 EE LL (l2 (l2 (l1 (l1 (l1 (l2 (l2 (l2 (l2 (l2 Z5v)))))))))) (Zpv m0)) (Zpv m0)
def ZgC (m0 : Nat) : Kont := kblk 1 (ZEY m0)
def ZEZ (m0 : Nat) : Kont := kseq HH 131 m0 (l2 (l2 (l1 (l1 (l2 (l1 (l1 (l1 (l2 (l2 (l2 (l2 (l2 Z5v))))))))))))) (exec PP HH 131 m0 EE LL (l2 (l2 (l1 (l1 (l2 (l1 (l1 (l1 (l2 (l2 (l2 (l2 (l2 Z5v))))))))))))) (ZgC m0)) (ZgC m0)
def Zyb (m0 : Nat) : Kont := kblk 2 (ZEZ m0)
def Zpw (m0 : Nat) : Kont := kseq HH 131 m0 (l2 (l2 (l2 (l2 (l2 (l2 (l1 (l1 (l2 (l1 (l1 (l1 (l2 (l2 (l2 (l2 (l2 Z5v))))))))))))))))) (exec PP HH 131 m0 EE LL (l2 (l2 (l2 (l2 (l2 (l2 (l1 (l1 (l2 (l1 (l1 (l1 (l2 (l2 (l2 (l2 (l2 Z5v))))))))))))))))) (ZgC m0)) (ZgC m0)
def ZF0 (m0 : Nat) : Kont := kseq HH 131 m0 (l2 (l1 (l2 (l1 (l2 (l2 (l2 (l2 (l2 (l1 (l1 (l2 (l1 (l1 (l1 (l2 (l2 (l2 (l2 (l2 Z5v)))))))))))))))))))) (exec PP HH 131 m0 EE LL (l2 (l1 (l2 (l1 (l2 (l2 (l2 (l2 (l2 (l1 (l1 (l2 (l1 (l1 (l1 (l2 (l2 (l2 (l2 (l2 Z5v)))))))))))))))))))) (Zpw m0)) (Zpw m0)
def Zj0 (m0 : Nat) (x0 x1 x4 x5 x6 x7 x8 : AV) (B : List Row) : Option Res := lp (LL 131 m0 (l1 (l1 (l1 (l2 (l2 (l2 (l2 (l2 Z5v)))))))) (ZsZ m0) [(0, x0), (1, x1), (4, x4), (5, x5), (6, x6), (7, x7), (8, x8)] B)
def Zt0 (m0 : Nat) (x0 x1 x4 x5 x6 x7 x8 : AV) (B : List Row) : Option Res := exec PP HH 131 m0 EE LL (l2 (l1 (l1 (l1 (l2 (l2 (l2 (l2 (l2 Z5v))))))))) (Zpv m0) [(0, x0), (1, x1), (4, x4), (5, x5), (6, x6), (7, x7), (8, x8)] B
def ZqJ (m0 : Nat) (x4 : AV) (B : List Row) : Option Res := exec PP HH 131 m0 EE LL (l2 (l2 (l2 (l2 (l2 (l2 Z5v)))))) (ZsY m0) [(4, x4)] B
def Zbd (m0 : Nat) (x0 x1 x4 x5 x6 x7 x8 : AV) (B : List Row) : Option Res := exec PP HH 131 m0 EE LL (l2 (l2 (l1 (l1 (l1 (l2 (l2 (l2 (l2 (l2 Z5v)))))))))) (Zpv m0) [(0, x0), (1, x1), (4, x4), (5, x5), (6, x6), (7, x7), (8, x8)] B
def ZqG (m0 : Nat) (x0 x4 x5 x6 : AV) (B : List Row) : Option Res := exec PP HH 131 m0 EE LL (l2 (l1 (l2 (l2 (l2 (l1 (l2 (l2 (l1 (l2 (l1 (l1 (l2 (l1 (l1 (l1 (l2 (l2 (l2 (l2 (l2 Z5v))))))))))))))))))))) (Zyb m0) [(0, x0), (4, x4), (5, x5), (6, x6)] B
def ZmN (m0 : Nat) (x0 x1 x4 x5 x6 x7 x8 x9 : AV) (B : List Row) : Option Res := exec PP HH 131 m0 EE LL (l2 (l2 (l1 (l1 (l2 (l1 (l1 (l1 (l2 (l2 (l2 (l2 (l2 Z5v))))))))))))) (ZgC m0) [(0, x0), (1, x1), (4, x4), (5, x5), (6, x6), (7, x7), (8, x8), (9, x9)] B
def ZmM (m0 : Nat) (x4 x6 : AV) (B : List Row) : Option Res := exec PP HH 131 m0 EE LL (l2 (l2 (l2 (l1 (l2 (l2 (l2 (l1 (l2 (l2 (l1 (l2 (l1 (l1 (l2 (l1 (l1 (l1 (l2 (l2 (l2 (l2 (l2 Z5v))))))))))))))))))))))) (Zyb m0) [(4, x4), (6, x6)] B
def ZqH (m0 : Nat) (x0 x1 x4 x5 x6 x7 x8 x9 x11 : AV) (B : List Row) : Option Res := exec PP HH 131 m0 EE LL (l2 (l2 (l2 (l2 (l1 (l1 (l2 (l1 (l1 (l1 (l2 (l2 (l2 (l2 (l2 Z5v))))))))))))))) (ZgC m0) [(0, x0), (1, x1), (4, x4), (5, x5), (6, x6), (7, x7), (8, x8), (9, x9), (11, x11)] B
def ZgD (m0 : Nat) (x0 x1 x4 x5 x6 x7 x8 x9 : AV) (B : List Row) : Option Res := exec PP HH 131 m0 EE LL (l1 (l2 (l2 (l1 (l1 (l2 (l1 (l2 (l2 (l2 (l2 (l2 (l1 (l1 (l2 (l1 (l1 (l1 (l2 (l2 (l2 (l2 (l2 Z5v))))))))))))))))))))))) (ZF0 m0) [(0, x0), (1, x1), (4, x4), (5, x5), (6, x6), (7, x7), (8, x8), (9, x9)] B
def ZqI (m0 : Nat) (x0 x1 x4 x5 x6 x7 x8 x9 x11 : AV) (B : List Row) : Option Res := exec PP HH 131 m0 EE LL (l2 (l1 (l2 (l1 (l2 (l2 (l2 (l2 (l2 (l1 (l1 (l2 (l1 (l1 (l1 (l2 (l2 (l2 (l2 (l2 Z5v)))))))))))))))))))) (Zpw m0) [(0, x0), (1, x1), (4, x4), (5, x5), (6, x6), (7, x7), (8, x8), (9, x9), (11, x11)] B
def ZgE (m0 : Nat) (x0 x1 x4 x5 x6 x7 x8 x11 x15 : AV) (B : List Row) : Option Res := exec PP HH 131 m0 EE LL (l2 (l2 (l2 (l2 (l2 (l2 (l1 (l1 (l2 (l1 (l1 (l1 (l2 (l2 (l2 (l2 (l2 Z5v))))))))))))))))) (ZgC m0) [(0, x0), (1, x1), (4, x4), (5, x5), (6, x6), (7, x7), (8, x8), (11, x11), (15, x15)] B
def ZmO (m0 : Nat) (x0 x1 x4 x5 x6 x7 x8 x9 x11 x15 : AV) (B : List Row) : Option Res := exec PP HH 131 m0 EE LL (l1 (l2 (l2 (l2 (l1 (l2 (l1 (l2 (l2 (l2 (l2 (l2 (l1 (l1 (l2 (l1 (l1 (l1 (l2 (l2 (l2 (l2 (l2 Z5v))))))))))))))))))))))) (Zpw m0) [(0, x0), (1, x1), (4, x4), (5, x5), (6, x6), (7, x7), (8, x8), (9, x9), (11, x11), (15, x15)] B
theorem Zze m0 x0 x1 x4 x5 x6 x7 x8 B : Zj0 m0 x0 x1 x4 x5 x6 x7 x8 B =
 mk (ob (Z21 (shr x0)) fun a7 =>
 ob (xfld 5 a7) fun a8 =>
 ob (xfld 0 a8) fun a9 =>
 ob (ldN false 1 a9 B) fun a10 =>
 ob (xbin PP .eql 30 a10 (iv 0)) fun a11 =>
 asB a11 fun t12 => br t12 (Zt0 m0 x0 x1 x4 x5 x6 x7 x8 (gcB m0 [x0, x1, x4, x5, x6, x7, x8] B))
 (ZqJ m0 x4 (gcB m0 [x4] B))) := (L_eq PP XX HH _ _ _ _ _ _).trans (by kernel_rfl)
theorem Zzg m0 x0 x1 x4 x5 x6 x7 x8 B : Zt0 m0 x0 x1 x4 x5 x6 x7 x8 B =
 mk (ob (Z21 (shr x0)) fun a13 =>
 ob (xfld 1 a13) fun a14 =>
 ob (ldN false 1 a14 B) fun a15 =>
 mk (callS false EE 104 [(shr x0)] B fun a16 B17 =>
 mk (mk (ob (xbin PP .eql 3 (shr (shr a16)) (iv (-1))) fun a18 =>
 asB (shr a18) fun t19 => br t19 (mk (callS false EE 70 [(shr x0), (iv 22), (shr x1)] B17 fun a20 B21 =>
 Zbd m0 x0 x1 x4 x5 x6 x7 x8 (gcB m0 [x0, x1, x4, x5, x6, x7, x8] B21)))
 (mk (ob (xbin PP .eql 3 (shr (shr a16)) (iv 93)) fun a22 =>
 asB (shr a22) fun t23 => br t23 (mk (ob (xbin PP .eql 3 (shr x8) (iv 0)) fun a24 =>
 asB a24 fun t25 => br t25 (mk (callS false EE 70 [(shr x0), (iv 22), (shr x1)] B17 fun a26 B27 =>
 Zbd m0 x0 x1 x4 x5 x6 x7 x8 (gcB m0 [x0, x1, x4, x5, x6, x7, x8] B27)))
 (ZqG m0 x0 x4 x5 x6 (gcB m0 [x0, x4, x5, x6] B17))))
 (mk (ob (xbin PP .eql 3 (shr (shr a16)) (iv 91)) fun a28 =>
 asB (shr a28) fun t29 => br t29 (asB (shr a28) fun t30 => br t30 (mk (callS false EE 70 [(shr x0), (iv 22), (shr (shr a15))] B17 fun a31 B32 =>
 Zbd m0 x0 x1 x4 x5 x6 x7 x8 (gcB m0 [x0, x1, x4, x5, x6, x7, x8] B32)))
 (ZmN m0 x0 x1 x4 x5 x6 x7 x8 (shr a15) (gcB m0 [x0, x1, x4, x5, x6, x7, x8, (shr a15)] B17)))
 (mk (ob (xbin PP .eql 3 (shr (shr a16)) (iv 45)) fun a33 =>
 asB (shr a33) fun t34 => br t34 (mk (callS false EE 70 [(shr x0), (iv 22), (shr (shr a15))] B17 fun a35 B36 =>
 Zbd m0 x0 x1 x4 x5 x6 x7 x8 (gcB m0 [x0, x1, x4, x5, x6, x7, x8] B36)))
 (ZmN m0 x0 x1 x4 x5 x6 x7 x8 (shr a15) (gcB m0 [x0, x1, x4, x5, x6, x7, x8, (shr a15)] B17)))))))))))) := by kernel_rfl
theorem ZxB m0 x4 B : ZqJ m0 x4 B =
 mk (ob (Z1G PP 98 []) fun a37 =>
 stN 7 x4 a37 B fun B38 =>
 Zvm x4 B38) := by kernel_rfl
theorem Zzf m0 x0 x1 x4 x5 x6 x7 x8 B : Zbd m0 x0 x1 x4 x5 x6 x7 x8 B =
 mk (ob (xbin PP .add 3 (shr x8) (iv 1)) fun a39 =>
 Zj0 m0 x0 x1 x4 x5 x6 x7 (shr a39) (gcB m0 [x0, x1, x4, x5, x6, x7, (shr a39)] B)) := by kernel_rfl
theorem Zxt m0 x0 x4 x5 x6 B : ZqG m0 x0 x4 x5 x6 B =
 mk (callS false EE 127 [(shr x0)] B fun a40 B41 =>
 mk (asB (shr x5) fun t42 => br t42 (mk (ob (ldN false 1 x6 B41) fun a43 =>
 callS false EE 148 [a43] B41 fun a44 B45 =>
 ob (xext 0 (shr a44)) fun a46 =>
 ob (xext 1 (shr a44)) fun a47 =>
 stN 1 x6 (shr a46) B45 fun B48 =>
 ZmM m0 x4 x6 (gcB m0 [x4, x6] B48)))
 (ZmM m0 x4 x6 (gcB m0 [x4, x6] B41)))) := by kernel_rfl
theorem Zxv m0 x0 x1 x4 x5 x6 x7 x8 x9 B : ZmN m0 x0 x1 x4 x5 x6 x7 x8 x9 B =
 mk (callS true EE 153 [(shr x0)] B fun a49 B50 =>
 ob (xext 0 (shr a49)) fun a51 =>
 ob (xext 1 (shr a49)) fun a52 =>
 ob (xext 2 (shr a49)) fun a53 =>
 mk (ob (xnil PP .neq 94 (.slice none 0 0) (shr (shr (shr a52)))) fun a54 =>
 asB a54 fun t55 => br t55 (mk (callS false EE 128 [(shr (shr (shr a53))), (shr (shr (shr a52)))] B50 fun a56 B57 =>
 bz PP 98 B57 fun a58 B59 =>
 stN 7 a58 a56 B59 fun B60 =>
 mk (ob (xfld 5 a58) fun a61 =>
 ob (ldN false 1 a61 B60) fun a62 =>
 callV HH EE (shr x7) [a62] B60 fun a63 B64 =>
 mk (callS false EE 104 [(shr x0)] B64 fun a65 B66 =>
 ob (xbin PP .eql 3 a65 (iv 45)) fun a67 =>
 asB a67 fun t68 => br t68 (mk (ob (Z21 (shr x0)) fun a69 =>
 ob (xfld 1 a69) fun a70 =>
 ob (ldN false 1 a70 B66) fun a71 =>
 callS false EE 70 [(shr x0), (iv 22), a71] B66 fun a72 B73 =>
 Zbd m0 x0 x1 x4 x5 x6 x7 x8 (gcB m0 [x0, x1, x4, x5, x6, x7, x8] B73)))
 (Zbd m0 x0 x1 x4 x5 x6 x7 x8 (gcB m0 [x0, x1, x4, x5, x6, x7, x8] B66))))))
 (ZqH m0 x0 x1 x4 x5 x6 x7 x8 x9 (shr (shr a51)) (gcB m0 [x0, x1, x4, x5, x6, x7, x8, x9, (shr (shr a51))] B50)))) := by kernel_rfl
theorem Zxu m0 x4 x6 B : ZmM m0 x4 x6 B =
 mk (ob (ldN false 1 x6 B) fun a74 =>
 ob (Z1G PP 98 [(0, (iv 1)), (5, a74)]) fun a75 =>
 stN 7 x4 a75 B fun B76 =>
 Zvm x4 B76) := by kernel_rfl
theorem Zxw m0 x0 x1 x4 x5 x6 x7 x8 x9 x11 B : ZqH m0 x0 x1 x4 x5 x6 x7 x8 x9 x11 B =
 mk (mk (callS false EE 68 [(shr x0), (.p (.v (.string (ByteArray.mk #[45]))))] B fun a77 B78 =>
 asB a77 fun t79 => br t79 (mk (callS false EE 104 [(shr x0)] B78 fun a80 B81 =>
 mk (ob (xbin PP .eql 3 (shr (shr a80)) (iv 93)) fun a82 =>
 asB (shr a82) fun t83 => br t83 (ZgD m0 x0 x1 x4 x5 x6 x7 x8 x9 (gcB m0 [x0, x1, x4, x5, x6, x7, x8, x9] B81))
 (ob (xbin PP .eql 3 (shr (shr a80)) (iv 91)) fun a84 =>
 asB (shr (shr a84)) fun t85 => br t85 (ZgD m0 x0 x1 x4 x5 x6 x7 x8 x9 (gcB m0 [x0, x1, x4, x5, x6, x7, x8, x9] B81))
 (ob (xbin PP .eql 3 (shr (shr a80)) (iv 45)) fun a86 =>
 asB (shr (shr a86)) fun t87 => br t87 (ZgD m0 x0 x1 x4 x5 x6 x7 x8 x9 (gcB m0 [x0, x1, x4, x5, x6, x7, x8, x9] B81))
 (ob (xbin PP .lss 3 (shr (shr a80)) (iv 0)) fun a88 =>
 asB (shr a88) fun t89 => br t89 (ZgD m0 x0 x1 x4 x5 x6 x7 x8 x9 (gcB m0 [x0, x1, x4, x5, x6, x7, x8, x9] B81))
 (ZqI m0 x0 x1 x4 x5 x6 x7 x8 x9 x11 (gcB m0 [x0, x1, x4, x5, x6, x7, x8, x9, x11] B81))))))))
 (ZgE m0 x0 x1 x4 x5 x6 x7 x8 x11 (shr (shr x11)) (gcB m0 [x0, x1, x4, x5, x6, x7, x8, x11, (shr (shr x11))] B78)))) := by kernel_rfl
theorem Zxx m0 x0 x1 x4 x5 x6 x7 x8 x9 B : ZgD m0 x0 x1 x4 x5 x6 x7 x8 x9 B =
 mk (callS false EE 70 [(shr x0), (iv 22), (shr x9)] B fun a90 B91 =>
 Zbd m0 x0 x1 x4 x5 x6 x7 x8 (gcB m0 [x0, x1, x4, x5, x6, x7, x8] B91)) := by kernel_rfl
theorem Zxy m0 x0 x1 x4 x5 x6 x7 x8 x9 x11 B : ZqI m0 x0 x1 x4 x5 x6 x7 x8 x9 x11 B =
 mk (callS true EE 153 [(shr x0)] B fun a92 B93 =>
 ob (xext 0 (shr a92)) fun a94 =>
 ob (xext 1 (shr a92)) fun a95 =>
 ob (xext 2 (shr a92)) fun a96 =>
 mk (ob (Z21 (shr x0)) fun a97 =>
 ob (xfld 5 a97) fun a98 =>
 ob (xfld 0 a98) fun a99 =>
 ob (ldN false 1 a99 B93) fun a100 =>
 ob (xbin PP .eql 30 a100 (iv 0)) fun a101 =>
 asB (shr a101) fun t102 => br t102 (ob (xnil PP .neq 94 (.slice none 0 0) (shr (shr (shr a95)))) fun a103 =>
 asB (shr a103) fun t104 => br t104 (ZmO m0 x0 x1 x4 x5 x6 x7 x8 x9 x11 (shr (shr a94)) (gcB m0 [x0, x1, x4, x5, x6, x7, x8, x9, x11, (shr (shr a94))] B93))
 (ob (xbin PP .lss 3 (shr (shr (shr a94))) (shr x11)) fun a105 =>
 asB (shr (shr a105)) fun t106 => br t106 (ZmO m0 x0 x1 x4 x5 x6 x7 x8 x9 x11 (shr (shr a94)) (gcB m0 [x0, x1, x4, x5, x6, x7, x8, x9, x11, (shr (shr a94))] B93))
 (ZgE m0 x0 x1 x4 x5 x6 x7 x8 x11 (shr (shr a94)) (gcB m0 [x0, x1, x4, x5, x6, x7, x8, x11, (shr (shr a94))] B93))))
 (ZgE m0 x0 x1 x4 x5 x6 x7 x8 x11 (shr (shr a94)) (gcB m0 [x0, x1, x4, x5, x6, x7, x8, x11, (shr (shr a94))] B93)))) := by kernel_rfl
theorem ZxA m0 x0 x1 x4 x5 x6 x7 x8 x11 x15 B : ZgE m0 x0 x1 x4 x5 x6 x7 x8 x11 x15 B =
 mk (ob (Z21 (shr x0)) fun a107 =>
 ob (xfld 5 a107) fun a108 =>
 ob (xfld 0 a108) fun a109 =>
 ob (ldN false 1 a109 B) fun a110 =>
 ob (xbin PP .eql 30 a110 (iv 0)) fun a111 =>
 asB a111 fun t112 => br t112 (mk (ob (Z1G PP 201 [(0, (shr x11)), (1, (shr x15))]) fun a113 =>
 ob (xlit PP 95 1 [(0, a113)]) fun a114 =>
 callV HH EE (shr x7) [a114] B fun a115 B116 =>
 Zbd m0 x0 x1 x4 x5 x6 x7 x8 (gcB m0 [x0, x1, x4, x5, x6, x7, x8] B116)))
 (Zbd m0 x0 x1 x4 x5 x6 x7 x8 (gcB m0 [x0, x1, x4, x5, x6, x7, x8] B))) := by kernel_rfl
theorem Zxz m0 x0 x1 x4 x5 x6 x7 x8 x9 x11 x15 B : ZmO m0 x0 x1 x4 x5 x6 x7 x8 x9 x11 x15 B =
 mk (callS false EE 70 [(shr x0), (iv 22), (shr x9)] B fun a117 B118 =>
 ZgE m0 x0 x1 x4 x5 x6 x7 x8 x11 x15 (gcB m0 [x0, x1, x4, x5, x6, x7, x8, x11, x15] B118)) := by kernel_rfl
theorem ZEW x0 x1 B : EE 131 [x0, x1] B =
 (let m0 := B.length
 mk (bz PP 98 B fun a1 B2 =>
 mk (callS false EE 68 [(shr x0), (.p (.v (.string (ByteArray.mk #[94]))))] B2 fun a3 B4 =>
 mk (bz PP 95 B4 fun a5 B6 =>
 mk (mk (Zj0 m0 x0 x1 a1 (shr a3) a5 (shr (.clo 151 ([].map nrmA) ([a5].map nrmA))) (iv 0) (gcB m0 [x0, x1, a1, (shr a3), a5, (shr (.clo 151 ([].map nrmA) ([a5].map nrmA))), (iv 0)] B6))))))) := (E_eq PP XX HH _ _ _).trans (by kernel_rfl)
def Zju : Code := Z2K Tryz.f132
def ZqM (r0 r1 : AV) (B : List Row) : Option Res :=
 ob (ob (ldN true 7 r0 B) fun v => ob (ob (some r1) fun v => ob (some []) fun vs => some (v :: vs)) fun vs => some (v :: vs)) fun vs => some ((nrmA (match vs with | [v] => v | vs => Z1M (vs.map shr))), B)
def Zj1 (m0 : Nat) : Kont := kret PP HH 132 Tryz.f132.results
def ZF2 (m0 : Nat) : Kont := kseq HH 132 m0 (l2 (l2 (l2 (l2 (l2 (l2 Zju)))))) (exec PP HH 132 m0 EE LL (l2 (l2 (l2 (l2 (l2 (l2 Zju)))))) (Zj1 m0)) (Zj1 m0)
def Zt1 (m0 : Nat) (x0 x1 x4 : AV) (B : List Row) : Option Res := exec PP HH 132 m0 EE LL (l2 (l2 Zju)) (Zj1 m0) [(0, x0), (1, x1), (4, x4)] B
def Zcx (m0 : Nat) (x0 x1 x4 : AV) (B : List Row) : Option Res := exec PP HH 132 m0 EE LL (l2 (l2 (l2 (l2 Zju)))) (Zj1 m0) [(0, x0), (1, x1), (4, x4)] B
def ZqK (m0 : Nat) (x0 x1 x4 x7 : AV) (B : List Row) : Option Res := exec PP HH 132 m0 EE LL (l1 (l2 (l1 (l2 (l2 (l2 (l2 (l2 Zju)))))))) (ZF2 m0) [(0, x0), (1, x1), (4, x4), (7, x7)] B
def Zjv (m0 : Nat) (x0 x4 x7 : AV) (B : List Row) : Option Res := exec PP HH 132 m0 EE LL (l2 (l2 (l2 (l2 (l2 (l2 Zju)))))) (Zj1 m0) [(0, x0), (4, x4), (7, x7)] B
def ZqL (m0 : Nat) (x4 x7 : AV) (B : List Row) : Option Res := exec PP HH 132 m0 EE LL (l2 (l2 (l2 (l2 (l2 (l2 (l2 (l2 Zju)))))))) (Zj1 m0) [(4, x4), (7, x7)] B
theorem Zzh m0 x0 x1 x4 B : Zt1 m0 x0 x1 x4 B =
 mk (ob (Z21 (shr x0)) fun a12 =>
 ob (xfld 3 a12) fun a13 =>
 ob (ldN false 1 a13 B) fun a14 =>
 ob (xbin PP .add 3 a14 (iv 1)) fun a15 =>
 ob (Z21 (shr x0)) fun a16 =>
 ob (xfld 3 a16) fun a17 =>
 stN 1 a17 a15 B fun B18 =>
 mk (callS false EE 155 [] B18 fun a19 B20 =>
 callS false EE 154 [a19, (.clo 68 ([(shr x0)].map nrmA) ([].map nrmA))] B20 fun a21 B22 =>
 mk (ob (xbin PP .geq 3 (shr (shr a21)) (iv 0)) fun a23 =>
 asB (shr a23) fun t24 => br t24 (mk (ob (Z1G PP 98 [(0, (iv 7)), (3, (shr (shr a21)))]) fun a25 =>
 stN 7 x4 a25 B22 fun B26 =>
 Zcx m0 x0 x1 x4 (gcB m0 [x0, x1, x4] B26)))
 (mk (callS false EE 68 [(shr x0), (.p (.v (.string (ByteArray.mk #[63, 62]))))] B22 fun a27 B28 =>
 asB (shr a27) fun t29 => br t29 (mk (ob (Z1G PP 98 [(0, (iv 8))]) fun a30 =>
 stN 7 x4 a30 B28 fun B31 =>
 Zcx m0 x0 x1 x4 (gcB m0 [x0, x1, x4] B31)))
 (mk (callS false EE 68 [(shr x0), (.p (.v (.string (ByteArray.mk #[63, 58]))))] B28 fun a32 B33 =>
 asB (shr a32) fun t34 => br t34 (Zcx m0 x0 x1 x4 (gcB m0 [x0, x1, x4] B33))
 (mk (callS false EE 104 [(shr x0)] B33 fun a35 B36 =>
 ob (xbin PP .eql 3 a35 (iv 63)) fun a37 =>
 asB (shr a37) fun t38 => br t38 (mk (callS false EE 70 [(shr x0), (iv 20), (shr x1)] B36 fun a39 B40 =>
 Zcx m0 x0 x1 x4 (gcB m0 [x0, x1, x4] B40)))
 (mk (ob (Z21 (shr x0)) fun a41 =>
 ob (xfld 2 a41) fun a42 =>
 ob (ldN false 1 a42 B36) fun a43 =>
 ob (xbin PP .eql 3 a43 (iv 9)) fun a44 =>
 asB (shr a44) fun t45 => br t45 (mk (callS false EE 70 [(shr x0), (iv 24), (shr x1)] B36 fun a46 B47 =>
 Zcx m0 x0 x1 x4 (gcB m0 [x0, x1, x4] B47)))
 (mk (ob (Z21 (shr x0)) fun a48 =>
 ob (xfld 2 a48) fun a49 =>
 ob (ldN false 1 a49 B36) fun a50 =>
 ob (xbin PP .add 3 a50 (iv 1)) fun a51 =>
 ob (Z21 (shr x0)) fun a52 =>
 ob (xfld 2 a52) fun a53 =>
 stN 1 a53 a51 B36 fun B54 =>
 mk (ob (Z21 (shr x0)) fun a55 =>
 ob (xfld 2 a55) fun a56 =>
 ob (ldN false 1 a56 B54) fun a57 =>
 ob (Z1G PP 98 [(0, (iv 5)), (4, a57)]) fun a58 =>
 stN 7 x4 a58 B54 fun B59 =>
 Zcx m0 x0 x1 x4 (gcB m0 [x0, x1, x4] B59))))))))))))))) := by kernel_rfl
theorem ZxC m0 x0 x1 x4 B : Zcx m0 x0 x1 x4 B =
 mk (callS false EE 69 [(shr x0)] B fun a60 B61 =>
 bz PP 98 B61 fun a62 B63 =>
 stN 7 a62 a60 B63 fun B64 =>
 mk (ob (Z21 (shr x0)) fun a65 =>
 ob (xfld 5 a65) fun a66 =>
 ob (xfld 0 a66) fun a67 =>
 ob (ldN false 1 a67 B64) fun a68 =>
 ob (xbin PP .eql 30 a68 (iv 0)) fun a69 =>
 asB (shr a69) fun t70 => br t70 (callS false EE 68 [(shr x0), (.p (.v (.string (ByteArray.mk #[41]))))] B64 fun a71 B72 =>
 ob (xun PP .not a71) fun a73 =>
 asB (shr a73) fun t74 => br t74 (ZqK m0 x0 x1 x4 a62 (gcB m0 [x0, x1, x4, a62] B72))
 (Zjv m0 x0 x4 a62 (gcB m0 [x0, x4, a62] B72)))
 (Zjv m0 x0 x4 a62 (gcB m0 [x0, x4, a62] B64)))) := by kernel_rfl
theorem ZxD m0 x0 x1 x4 x7 B : ZqK m0 x0 x1 x4 x7 B =
 mk (callS false EE 70 [(shr x0), (iv 20), (shr x1)] B fun a75 B76 =>
 Zjv m0 x0 x4 x7 (gcB m0 [x0, x4, x7] B76)) := by kernel_rfl
theorem ZxE m0 x0 x4 x7 B : Zjv m0 x0 x4 x7 B =
 mk (ob (Z21 (shr x0)) fun a77 =>
 ob (xfld 3 a77) fun a78 =>
 ob (ldN false 1 a78 B) fun a79 =>
 ob (xbin PP .sub 3 a79 (iv 1)) fun a80 =>
 ob (Z21 (shr x0)) fun a81 =>
 ob (xfld 3 a81) fun a82 =>
 stN 1 a82 a80 B fun B83 =>
 mk (ob (xfld 0 x4) fun a84 =>
 ob (ldN false 1 a84 B83) fun a85 =>
 ob (xbin PP .eql 3 a85 (iv 0)) fun a86 =>
 asB a86 fun t87 => br t87 (mk (ob (ldN true 7 x7 B83) fun a88 =>
 stN 7 x4 a88 B83 fun B89 =>
 ZqM x4 (bv true) B89))
 (ZqL m0 x4 x7 (gcB m0 [x4, x7] B83)))) := by kernel_rfl
theorem ZxF m0 x4 x7 B : ZqL m0 x4 x7 B =
 mk (ob (ldN true 7 x7 B) fun a90 =>
 ob (xlit PP 96 1 [(0, a90)]) fun a91 =>
 ob (xfld 6 x4) fun a92 =>
 stN 1 a92 a91 B fun B93 =>
 mk (ob (ldN true 7 x4 B93) fun a94 =>
 ob (xfld 0 x4) fun a95 =>
 ob (ldN false 1 a95 B93) fun a96 =>
 ob (xbin PP .neq 3 a96 (iv 7)) fun a97 =>
 stN 7 x4 a94 B93 fun B98 =>
 ZqM x4 (shr a97) B98)) := by kernel_rfl
theorem ZF1 x0 x1 B : EE 132 [x0, x1] B =
 (let m0 := B.length
 mk (bz PP 98 B fun a1 B2 =>
 mk (ob (Z21 (shr x0)) fun a3 =>
 ob (xfld 3 a3) fun a4 =>
 ob (ldN false 1 a4 B2) fun a5 =>
 ob (xbin PP .eql 3 a5 (iv 32)) fun a6 =>
 asB a6 fun t7 => br t7 (mk (callS false EE 70 [(shr x0), (iv 25), (shr x1)] B2 fun a8 B9 =>
 mk (ob (Z1G PP 98 []) fun a10 =>
 stN 7 a1 a10 B9 fun B11 =>
 ZqM a1 (bv true) B11)))
 (Zt1 m0 x0 x1 a1 (gcB m0 [x0, x1, a1] B2))))) := (E_eq PP XX HH _ _ _).trans (by kernel_rfl)
def Zc0 : Code := Z2K Tryz.f133
def Zvn (r0 r1 : AV) (B : List Row) : Option Res :=
 ob (ob (some r0) fun v => ob (ob (some r1) fun v => ob (some []) fun vs => some (v :: vs)) fun vs => some (v :: vs)) fun vs => some ((nrmA (match vs with | [v] => v | vs => Z1M (vs.map shr))), B)
def Zj2 (m0 : Nat) : Kont := kret PP HH 133 Tryz.f133.results
def Zpx (m0 : Nat) : Kont := kseq HH 133 m0 (l2 (l2 (l2 (l2 Zc0)))) (exec PP HH 133 m0 EE LL (l2 (l2 (l2 (l2 Zc0)))) (Zj2 m0)) (Zj2 m0)
def ZF4 (m0 : Nat) : Kont := kseq HH 133 m0 (l2 (l1 (l2 (l2 (l1 (l2 (l1 (l2 (l2 (l2 Zc0)))))))))) (exec PP HH 133 m0 EE LL (l2 (l1 (l2 (l2 (l1 (l2 (l1 (l2 (l2 (l2 Zc0)))))))))) (Zpx m0)) (Zpx m0)
def ZF5 (m0 : Nat) : Kont := kseq HH 133 m0 (l2 (l2 (l2 (l2 (l2 Zc0))))) (exec PP HH 133 m0 EE LL (l2 (l2 (l2 (l2 (l2 Zc0))))) (Zj2 m0)) (Zj2 m0)
def Zt2 (m0 : Nat) (x0 x1 x4 : AV) (B : List Row) : Option Res := exec PP HH 133 m0 EE LL (l1 (l2 (l2 (l1 (l2 (l1 (l2 (l2 (l2 Zc0))))))))) (Zpx m0) [(0, x0), (1, x1), (4, x4)] B
def Zj3 (m0 : Nat) (x0 x1 x4 x5 : AV) (B : List Row) : Option Res := exec PP HH 133 m0 EE LL (l2 (l2 (l2 (l2 Zc0)))) (Zj2 m0) [(0, x0), (1, x1), (4, x4), (5, x5)] B
def Zt3 (m0 : Nat) (x4 : AV) (B : List Row) : Option Res := exec PP HH 133 m0 EE LL (l1 (l2 (l1 (l1 (l2 (l2 (l1 (l2 (l1 (l2 (l2 (l2 Zc0)))))))))))) (ZF4 m0) [(4, x4)] B
def Zpy (m0 : Nat) (x0 x1 x4 : AV) (B : List Row) : Option Res := exec PP HH 133 m0 EE LL (l2 (l1 (l2 (l2 (l1 (l2 (l1 (l2 (l2 (l2 Zc0)))))))))) (Zpx m0) [(0, x0), (1, x1), (4, x4)] B
def ZgF (m0 : Nat) (x0 x1 x4 x5 : AV) (B : List Row) : Option Res := exec PP HH 133 m0 EE LL (l1 (l2 (l1 (l2 (l2 (l2 (l2 Zc0))))))) (ZF5 m0) [(0, x0), (1, x1), (4, x4), (5, x5)] B
def ZmP (m0 : Nat) (x4 x5 : AV) (B : List Row) : Option Res := exec PP HH 133 m0 EE LL (l2 (l2 (l2 (l2 (l2 Zc0))))) (Zj2 m0) [(4, x4), (5, x5)] B
theorem Zzi m0 x0 x1 x4 B : Zt2 m0 x0 x1 x4 B =
 mk (callS false EE 68 [(shr x0), (.p (.v (.string (ByteArray.mk #[125]))))] B fun a12 B13 =>
 asB (shr a12) fun t14 => br t14 (ob (xbin PP .leq 3 (shr x4) (iv 64)) fun a15 =>
 asB (shr a15) fun t16 => br t16 (Zt3 m0 x4 (gcB m0 [x4] B13))
 (Zpy m0 x0 x1 x4 (gcB m0 [x0, x1, x4] B13)))
 (Zpy m0 x0 x1 x4 (gcB m0 [x0, x1, x4] B13))) := by kernel_rfl
theorem Zzl m0 x0 x1 x4 x5 B : Zj3 m0 x0 x1 x4 x5 B =
 mk (ob (xbin PP .lss 3 (shr x4) (iv 0)) fun a17 =>
 asB (shr a17) fun t18 => br t18 (ZgF m0 x0 x1 x4 x5 (gcB m0 [x0, x1, x4, x5] B))
 (ob (xbin PP .lss 3 (shr x5) (shr x4)) fun a19 =>
 asB (shr (shr a19)) fun t20 => br t20 (ZgF m0 x0 x1 x4 x5 (gcB m0 [x0, x1, x4, x5] B))
 (ob (xbin PP .gtr 3 (shr x5) (iv 64)) fun a21 =>
 asB (shr (shr a21)) fun t22 => br t22 (ZgF m0 x0 x1 x4 x5 (gcB m0 [x0, x1, x4, x5] B))
 (callS false EE 68 [(shr x0), (.p (.v (.string (ByteArray.mk #[125]))))] B fun a23 B24 =>
 ob (xun PP .not a23) fun a25 =>
 asB (shr a25) fun t26 => br t26 (ZgF m0 x0 x1 x4 x5 (gcB m0 [x0, x1, x4, x5] B24))
 (ZmP m0 x4 x5 (gcB m0 [x4, x5] B24)))))) := by kernel_rfl
theorem Zzj m0 x4 B : Zt3 m0 x4 B =
 mk (Zvn (shr (shr x4)) (iv (-1)) B) := by kernel_rfl
theorem Zzk m0 x0 x1 x4 B : Zpy m0 x0 x1 x4 B =
 mk (Zj3 m0 x0 x1 x4 (iv (-2)) (gcB m0 [x0, x1, x4, (iv (-2))] B)) := by kernel_rfl
theorem ZxG m0 x0 x1 x4 x5 B : ZgF m0 x0 x1 x4 x5 B =
 mk (callS false EE 70 [(shr x0), (iv 23), (shr x1)] B fun a27 B28 =>
 ZmP m0 x4 x5 (gcB m0 [x4, x5] B28)) := by kernel_rfl
theorem ZxH m0 x4 x5 B : ZmP m0 x4 x5 B =
 mk (Zvn (shr (shr x4)) (shr (shr x5)) B) := by kernel_rfl
theorem ZF3 x0 x1 B : EE 133 [x0, x1] B =
 (let m0 := B.length
 mk (mk (callS false EE 156 [(shr x0)] B fun a1 B2 =>
 mk (mk (callS false EE 68 [(shr x0), (.p (.v (.string (ByteArray.mk #[44]))))] B2 fun a3 B4 =>
 asB a3 fun t5 => br t5 (mk (callS false EE 156 [(shr x0)] B4 fun a6 B7 =>
 mk (ob (xbin PP .lss 3 (shr (shr a6)) (iv 0)) fun a8 =>
 asB (shr a8) fun t9 => br t9 (ob (xbin PP .geq 3 (shr (shr a1)) (iv 0)) fun a10 =>
 asB (shr a10) fun t11 => br t11 (Zt2 m0 x0 x1 (shr a1) (gcB m0 [x0, x1, (shr a1)] B7))
 (Zj3 m0 x0 x1 (shr a1) (shr a6) (gcB m0 [x0, x1, (shr a1), (shr a6)] B7)))
 (Zj3 m0 x0 x1 (shr a1) (shr a6) (gcB m0 [x0, x1, (shr a1), (shr a6)] B7)))))
 (Zj3 m0 x0 x1 (shr a1) (shr (shr (shr a1))) (gcB m0 [x0, x1, (shr a1), (shr (shr (shr a1)))] B4))))))) := (E_eq PP XX HH _ _ _).trans (by kernel_rfl)
def ZGH : Code := Z2K Tryz.f134
def Zvo (r0 : AV) (B : List Row) : Option Res :=
 ob (ob (some r0) fun v => ob (some []) fun vs => some (v :: vs)) fun vs => some ((nrmA (match vs with | [v] => v | vs => Z1M (vs.map shr))), B)
def ZF7 (m0 : Nat) : Kont := kret PP HH 134 Tryz.f134.results
def Zt4 (m0 : Nat) (x0 : AV) (B : List Row) : Option Res := exec PP HH 134 m0 EE LL (l2 (l2 ZGH)) (ZF7 m0) [(0, x0)] B
theorem Zzm m0 x0 B : Zt4 m0 x0 B =
 mk (Zvo (shr (shr x0)) B) := by kernel_rfl
theorem ZF6 x0 B : EE 134 [x0] B =
 (let m0 := B.length
 mk (mk (ob (xbin PP .gtr 3 (shr x0) (iv 1048576)) fun a1 =>
 asB a1 fun t2 => br t2 (mk (Zvo (iv (-1)) B))
 (Zt4 m0 x0 (gcB m0 [x0] B))))) := (E_eq PP XX HH _ _ _).trans (by kernel_rfl)
def ZGI : Code := Z2K Tryz.f147
def Zvp (r0 r1 : AV) (B : List Row) : Option Res :=
 ob (ob (some r0) fun v => ob (ob (some r1) fun v => ob (some []) fun vs => some (v :: vs)) fun vs => some (v :: vs)) fun vs => some ((nrmA (match vs with | [v] => v | vs => Z1M (vs.map shr))), B)
def ZF9 (m0 : Nat) : Kont := kret PP HH 147 Tryz.f147.results
def Zt5 (m0 : Nat) (x0 : AV) (B : List Row) : Option Res := exec PP HH 147 m0 EE LL (l2 (l2 ZGI)) (ZF9 m0) [(0, x0)] B
theorem Zzn m0 x0 B : Zt5 m0 x0 B =
 mk (callS false EE 169 [(shr x0)] B fun a4 B5 =>
 Zvp (shr a4) (iv 0) B5) := by kernel_rfl
theorem ZF8 x0 B : EE 147 [x0] B =
 (let m0 := B.length
 mk (mk (callS false EE 166 [(shr x0), (.clo 167 [] [])] B fun a1 B2 =>
 asB a1 fun t3 => br t3 (mk (Zvp nilA (iv 13) B2))
 (Zt5 m0 x0 (gcB m0 [x0] B2))))) := (E_eq PP XX HH _ _ _).trans (by kernel_rfl)
def ZGJ : Code := Z2K Tryz.f148
def Zvq (r0 r1 : AV) (B : List Row) : Option Res :=
 ob (ob (some r0) fun v => ob (ob (some r1) fun v => ob (some []) fun vs => some (v :: vs)) fun vs => some (v :: vs)) fun vs => some ((nrmA (match vs with | [v] => v | vs => Z1M (vs.map shr))), B)
def ZFb (m0 : Nat) : Kont := kret PP HH 148 Tryz.f148.results
def Zt6 (m0 : Nat) (x0 : AV) (B : List Row) : Option Res := exec PP HH 148 m0 EE LL (l2 (l2 ZGJ)) (ZFb m0) [(0, x0)] B
theorem Zzo m0 x0 B : Zt6 m0 x0 B =
 mk (callS false EE 171 [(shr x0)] B fun a5 B6 =>
 Zvq (shr a5) (iv 0) B6) := by kernel_rfl
theorem ZFa x0 B : EE 148 [x0] B =
 (let m0 := B.length
 mk (mk (callS false EE 170 [(shr x0)] B fun a1 B2 =>
 ob (xun PP .not a1) fun a3 =>
 asB a3 fun t4 => br t4 (mk (Zvq nilA (iv 10) B2))
 (Zt6 m0 x0 (gcB m0 [x0] B2))))) := (E_eq PP XX HH _ _ _).trans (by kernel_rfl)
def ZGK : Code := Z2K Tryz.f149
def Z6M (r0 : AV) (B : List Row) : Option Res :=
 ob (ob (some r0) fun v => ob (some []) fun vs => some (v :: vs)) fun vs => some ((match vs with | [v] => v | vs => Z1M (vs.map shr)), B)
def ZFd (m0 : Nat) : Kont := kret PP HH 149 Tryz.f149.results
def ZaC (m0 : Nat) (B : List Row) : Option Res := exec PP HH 149 m0 EE LL (l2 (l2 ZGK)) (ZFd m0) [] B
theorem ZxI m0 B : ZaC m0  B =
 mk (Z6M nilA B) := by kernel_rfl
theorem ZFc x0 B : EE 149 [x0] B =
 (let m0 := B.length
 mk (mk (mk (ob (xbin PP .eql 3 (shr x0) (iv 100)) fun a1 =>
 asB (shr a1) fun t2 => br t2 (asB (shr a1) fun t3 => br t3 (mk (ob (Z1G PP 201 [(0, (iv 48)), (1, (iv 57))]) fun a4 =>
 ob (xlit PP 94 1 [(0, a4)]) fun a5 =>
 Z6M a5 B))
 (mk (ob (xbin PP .eql 3 (shr x0) (iv 119)) fun a6 =>
 asB (shr a6) fun t7 => br t7 (asB (shr a6) fun t8 => br t8 (mk (ob (Z1G PP 201 [(0, (iv 48)), (1, (iv 57))]) fun a9 =>
 ob (Z1G PP 201 [(0, (iv 65)), (1, (iv 90))]) fun a10 =>
 callS false EE 129 [(iv 95)] B fun a11 B12 =>
 ob (Z1G PP 201 [(0, (iv 97)), (1, (iv 122))]) fun a13 =>
 ob (xlit PP 94 4 [(0, a9), (1, a10), (2, a11), (3, a13)]) fun a14 =>
 Z6M a14 B12))
 (mk (ob (xbin PP .eql 3 (shr x0) (iv 115)) fun a15 =>
 asB (shr a15) fun t16 => br t16 (asB (shr a15) fun t17 => br t17 (mk (ob (Z1G PP 201 [(0, (iv 9)), (1, (iv 13))]) fun a18 =>
 callS false EE 129 [(iv 32)] B fun a19 B20 =>
 ob (xlit PP 94 2 [(0, a18), (1, a19)]) fun a21 =>
 Z6M a21 B20))
 (ZaC m0  (gcB m0 [] B)))
 (mk (ob (xbin PP .eql 3 (shr x0) (iv 83)) fun a22 =>
 asB (shr a22) fun t23 => br t23 (mk (ob (Z1G PP 201 [(0, (iv 9)), (1, (iv 13))]) fun a24 =>
 callS false EE 129 [(iv 32)] B fun a25 B26 =>
 ob (xlit PP 94 2 [(0, a24), (1, a25)]) fun a27 =>
 Z6M a27 B26))
 (ZaC m0  (gcB m0 [] B)))))))
 (mk (ob (xbin PP .eql 3 (shr x0) (iv 87)) fun a28 =>
 asB (shr a28) fun t29 => br t29 (mk (ob (Z1G PP 201 [(0, (iv 48)), (1, (iv 57))]) fun a30 =>
 ob (Z1G PP 201 [(0, (iv 65)), (1, (iv 90))]) fun a31 =>
 callS false EE 129 [(iv 95)] B fun a32 B33 =>
 ob (Z1G PP 201 [(0, (iv 97)), (1, (iv 122))]) fun a34 =>
 ob (xlit PP 94 4 [(0, a30), (1, a31), (2, a32), (3, a34)]) fun a35 =>
 Z6M a35 B33))
 (mk (ob (xbin PP .eql 3 (shr x0) (iv 115)) fun a36 =>
 asB (shr a36) fun t37 => br t37 (asB (shr a36) fun t38 => br t38 (mk (ob (Z1G PP 201 [(0, (iv 9)), (1, (iv 13))]) fun a39 =>
 callS false EE 129 [(iv 32)] B fun a40 B41 =>
 ob (xlit PP 94 2 [(0, a39), (1, a40)]) fun a42 =>
 Z6M a42 B41))
 (ZaC m0  (gcB m0 [] B)))
 (mk (ob (xbin PP .eql 3 (shr x0) (iv 83)) fun a43 =>
 asB (shr a43) fun t44 => br t44 (mk (ob (Z1G PP 201 [(0, (iv 9)), (1, (iv 13))]) fun a45 =>
 callS false EE 129 [(iv 32)] B fun a46 B47 =>
 ob (xlit PP 94 2 [(0, a45), (1, a46)]) fun a48 =>
 Z6M a48 B47))
 (ZaC m0  (gcB m0 [] B)))))))))))
 (mk (ob (xbin PP .eql 3 (shr x0) (iv 68)) fun a49 =>
 asB (shr a49) fun t50 => br t50 (mk (ob (Z1G PP 201 [(0, (iv 48)), (1, (iv 57))]) fun a51 =>
 ob (xlit PP 94 1 [(0, a51)]) fun a52 =>
 Z6M a52 B))
 (mk (ob (xbin PP .eql 3 (shr x0) (iv 119)) fun a53 =>
 asB (shr a53) fun t54 => br t54 (asB (shr a53) fun t55 => br t55 (mk (ob (Z1G PP 201 [(0, (iv 48)), (1, (iv 57))]) fun a56 =>
 ob (Z1G PP 201 [(0, (iv 65)), (1, (iv 90))]) fun a57 =>
 callS false EE 129 [(iv 95)] B fun a58 B59 =>
 ob (Z1G PP 201 [(0, (iv 97)), (1, (iv 122))]) fun a60 =>
 ob (xlit PP 94 4 [(0, a56), (1, a57), (2, a58), (3, a60)]) fun a61 =>
 Z6M a61 B59))
 (mk (ob (xbin PP .eql 3 (shr x0) (iv 115)) fun a62 =>
 asB (shr a62) fun t63 => br t63 (asB (shr a62) fun t64 => br t64 (mk (ob (Z1G PP 201 [(0, (iv 9)), (1, (iv 13))]) fun a65 =>
 callS false EE 129 [(iv 32)] B fun a66 B67 =>
 ob (xlit PP 94 2 [(0, a65), (1, a66)]) fun a68 =>
 Z6M a68 B67))
 (ZaC m0  (gcB m0 [] B)))
 (mk (ob (xbin PP .eql 3 (shr x0) (iv 83)) fun a69 =>
 asB (shr a69) fun t70 => br t70 (mk (ob (Z1G PP 201 [(0, (iv 9)), (1, (iv 13))]) fun a71 =>
 callS false EE 129 [(iv 32)] B fun a72 B73 =>
 ob (xlit PP 94 2 [(0, a71), (1, a72)]) fun a74 =>
 Z6M a74 B73))
 (ZaC m0  (gcB m0 [] B)))))))
 (mk (ob (xbin PP .eql 3 (shr x0) (iv 87)) fun a75 =>
 asB (shr a75) fun t76 => br t76 (mk (ob (Z1G PP 201 [(0, (iv 48)), (1, (iv 57))]) fun a77 =>
 ob (Z1G PP 201 [(0, (iv 65)), (1, (iv 90))]) fun a78 =>
 callS false EE 129 [(iv 95)] B fun a79 B80 =>
 ob (Z1G PP 201 [(0, (iv 97)), (1, (iv 122))]) fun a81 =>
 ob (xlit PP 94 4 [(0, a77), (1, a78), (2, a79), (3, a81)]) fun a82 =>
 Z6M a82 B80))
 (mk (ob (xbin PP .eql 3 (shr x0) (iv 115)) fun a83 =>
 asB (shr a83) fun t84 => br t84 (asB (shr a83) fun t85 => br t85 (mk (ob (Z1G PP 201 [(0, (iv 9)), (1, (iv 13))]) fun a86 =>
 callS false EE 129 [(iv 32)] B fun a87 B88 =>
 ob (xlit PP 94 2 [(0, a86), (1, a87)]) fun a89 =>
 Z6M a89 B88))
 (ZaC m0  (gcB m0 [] B)))
 (mk (ob (xbin PP .eql 3 (shr x0) (iv 83)) fun a90 =>
 asB (shr a90) fun t91 => br t91 (mk (ob (Z1G PP 201 [(0, (iv 9)), (1, (iv 13))]) fun a92 =>
 callS false EE 129 [(iv 32)] B fun a93 B94 =>
 ob (xlit PP 94 2 [(0, a92), (1, a93)]) fun a95 =>
 Z6M a95 B94))
 (ZaC m0  (gcB m0 [] B)))))))))))))))) := (E_eq PP XX HH _ _ _).trans (by kernel_rfl)
def ZrF : Code := Z2K Tryz.f150
def ZgG (r0 : AV) (B : List Row) : Option Res :=
 ob (ob (some r0) fun v => ob (some []) fun vs => some (v :: vs)) fun vs => some ((nrmA (match vs with | [v] => v | vs => Z1M (vs.map shr))), B)
def Zt8 (m0 : Nat) : Kont := kret PP HH 150 Tryz.f150.results
def ZFf (m0 : Nat) : Kont := kseq HH 150 m0 (l2 (l2 ZrF)) (exec PP HH 150 m0 EE LL (l2 (l2 ZrF)) (Zt8 m0)) (Zt8 m0)
def ZFg (m0 : Nat) : Kont := kblk 0 (ZFf m0)
def ZeP (m0 : Nat) (x0 x2 : AV) (B : List Row) : Option Res := exec PP HH 150 m0 EE LL (l2 (l2 ZrF)) (Zt8 m0) [(0, x0), (2, x2)] B
def ZqN (m0 : Nat) (x1 : AV) (B : List Row) : Option Res := exec PP HH 150 m0 EE LL (l1 (l2 (l2 (l2 (l2 (l2 (l2 (l2 (l2 (l2 (l1 (l1 (l2 ZrF))))))))))))) (ZFg m0) [(1, x1)] B
theorem ZxK m0 x0 x2 B : ZeP m0 x0 x2 B =
 mk (callS false EE 70 [(shr x0), (iv 21), (shr x2)] B fun a39 B40 =>
 mk (ZgG (iv 0) B40)) := by kernel_rfl
theorem ZxJ m0 x1 B : ZqN m0 x1 B =
 mk (ZgG (shr (shr x1)) B) := by kernel_rfl
theorem ZFe x0 x1 x2 B : EE 150 [x0, x1, x2] B =
 (let m0 := B.length
 mk (mk (ob (xbin PP .eql 3 (shr x1) (iv 110)) fun a1 =>
 asB (shr a1) fun t2 => br t2 (mk (ZgG (iv 10) B))
 (mk (ob (xbin PP .eql 3 (shr x1) (iv 116)) fun a3 =>
 asB (shr a3) fun t4 => br t4 (mk (ZgG (iv 9) B))
 (mk (ob (xbin PP .eql 3 (shr x1) (iv 114)) fun a5 =>
 asB (shr a5) fun t6 => br t6 (mk (ZgG (iv 13) B))
 (mk (ob (xbin PP .eql 3 (shr x1) (iv 120)) fun a7 =>
 asB (shr a7) fun t8 => br t8 (mk (callS false EE 104 [(shr x0)] B fun a9 B10 =>
 callS false EE 172 [a9] B10 fun a11 B12 =>
 mk (ob (xbin PP .geq 3 (shr (shr a11)) (iv 0)) fun a13 =>
 asB a13 fun t14 => br t14 (mk (callS false EE 127 [(shr x0)] B12 fun a15 B16 =>
 mk (callS false EE 104 [(shr x0)] B16 fun a17 B18 =>
 callS false EE 172 [a17] B18 fun a19 B20 =>
 mk (ob (xbin PP .geq 3 (shr (shr a19)) (iv 0)) fun a21 =>
 asB a21 fun t22 => br t22 (mk (callS false EE 127 [(shr x0)] B20 fun a23 B24 =>
 mk (ob (xbin PP .mul 3 (iv 16) (shr (shr a11))) fun a25 =>
 ob (xbin PP .add 3 a25 (shr (shr a19))) fun a26 =>
 ZgG (shr a26) B24)))
 (ZeP m0 x0 x2 (gcB m0 [x0, x2] B20))))))
 (ZeP m0 x0 x2 (gcB m0 [x0, x2] B12)))))
 (mk (ob (xbin PP .gtr 3 (shr x1) (iv 32)) fun a27 =>
 asB (shr a27) fun t28 => br t28 (ob (xbin PP .lss 3 (shr x1) (iv 127)) fun a29 =>
 asB (shr (shr a29)) fun t30 => br t30 (ob (Z1G PP 201 [(0, (iv 48)), (1, (iv 57))]) fun a31 =>
 ob (Z1G PP 201 [(0, (iv 65)), (1, (iv 90))]) fun a32 =>
 ob (Z1G PP 201 [(0, (iv 97)), (1, (iv 122))]) fun a33 =>
 ob (xlit PP 95 3 [(0, a31), (1, a32), (2, a33)]) fun a34 =>
 callS false EE 173 [a34, (shr x1)] B fun a35 B36 =>
 ob (xun PP .not a35) fun a37 =>
 asB (shr (shr a37)) fun t38 => br t38 (ZqN m0 x1 (gcB m0 [x1] B36))
 (ZeP m0 x0 x2 (gcB m0 [x0, x2] B36)))
 (ZeP m0 x0 x2 (gcB m0 [x0, x2] B)))
 (ZeP m0 x0 x2 (gcB m0 [x0, x2] B))))))))))))) := (E_eq PP XX HH _ _ _).trans (by kernel_rfl)
def ZDq (B : List Row) : Option Res :=
 ob (some []) fun vs => some ((nrmA (match vs with | [v] => v | vs => Z1M (vs.map shr))), B)
theorem ZFh x0 x1 B : EE 151 [x0, x1] B =
 (let m0 := B.length
 mk (ob (ldN false 1 x1 B) fun a1 =>
 callS false EE 152 [a1, (shr x0)] B fun a2 B3 =>
 ob (xext 0 (shr a2)) fun a4 =>
 ob (xext 1 (shr a2)) fun a5 =>
 stN 1 x1 (shr a4) B3 fun B6 =>
 ZDq  B6)) := (E_eq PP XX HH _ _ _).trans (by kernel_rfl)
def ZrG : Code := Z2K Tryz.f152
def Zvr (r0 r1 : AV) (B : List Row) : Option Res :=
 ob (ob (some r0) fun v => ob (ob (some r1) fun v => ob (some []) fun vs => some (v :: vs)) fun vs => some (v :: vs)) fun vs => some ((nrmA (match vs with | [v] => v | vs => Z1M (vs.map shr))), B)
def Zt9 (m0 : Nat) : Kont := kret PP HH 152 Tryz.f152.results
def ZFj (m0 : Nat) : Kont := kseq HH 152 m0 (l2 (l2 ZrG)) (exec PP HH 152 m0 EE LL (l2 (l2 ZrG)) (Zt9 m0)) (Zt9 m0)
def Zpz (m0 : Nat) (B : List Row) : Option Res := exec PP HH 152 m0 EE LL (l1 (l2 (l1 (l2 ZrG)))) (ZFj m0) [] B
def Zta (m0 : Nat) (x0 x1 : AV) (B : List Row) : Option Res := exec PP HH 152 m0 EE LL (l2 (l2 ZrG)) (Zt9 m0) [(0, x0), (1, x1)] B
theorem Zzp m0 B : Zpz m0  B =
 mk (Zvr nilA (iv 10) B) := by kernel_rfl
theorem Zzq m0 x0 x1 B : Zta m0 x0 x1 B =
 mk (ob (xlit PP 250 2 [(0, (shr x0)), (1, (shr x1))]) fun a9 =>
 callS false EE 174 [a9] B fun a10 B11 =>
 callS false EE 169 [a10] B11 fun a12 B13 =>
 Zvr (shr a12) (iv 0) B13) := by kernel_rfl
theorem ZFi x0 x1 B : EE 152 [x0, x1] B =
 (let m0 := B.length
 mk (mk (callS false EE 170 [(shr x0)] B fun a1 B2 =>
 ob (xun PP .not a1) fun a3 =>
 asB (shr a3) fun t4 => br t4 (Zpz m0  (gcB m0 [] B2))
 (callS false EE 170 [(shr x1)] B2 fun a5 B6 =>
 ob (xun PP .not a5) fun a7 =>
 asB (shr a7) fun t8 => br t8 (Zpz m0  (gcB m0 [] B6))
 (Zta m0 x0 x1 (gcB m0 [x0, x1] B6)))))) := (E_eq PP XX HH _ _ _).trans (by kernel_rfl)
def Zvs : Code := Z2K Tryz.f153
def ZmQ (r0 r1 r2 : AV) (B : List Row) : Option Res :=
 ob (ob (some r0) fun v => ob (ob (some r1) fun v => ob (ob (some r2) fun v => ob (some []) fun vs => some (v :: vs)) fun vs => some (v :: vs)) fun vs => some (v :: vs)) fun vs => some ((match vs with | [v] => v | vs => Z1M (vs.map shr)), B)
def Ztb (m0 : Nat) : Kont := kret PP HH 153 Tryz.f153.results
def Ztc (m0 : Nat) (x0 x5 : AV) (B : List Row) : Option Res := exec PP HH 153 m0 EE LL (l2 (l2 (l2 Zvs))) (Ztb m0) [(0, x0), (5, x5)] B
def Ztd (m0 : Nat) (x0 x2 x5 : AV) (B : List Row) : Option Res := exec PP HH 153 m0 EE LL (l2 (l2 (l2 (l2 Zvs)))) (Ztb m0) [(0, x0), (2, x2), (5, x5)] B
def ZqO (m0 : Nat) (x0 x2 x5 : AV) (B : List Row) : Option Res := exec PP HH 153 m0 EE LL (l2 (l2 (l2 (l2 (l2 (l2 Zvs)))))) (Ztb m0) [(0, x0), (2, x2), (5, x5)] B
theorem Zzr m0 x0 x5 B : Ztc m0 x0 x5 B =
 mk (callS false EE 104 [(shr x0)] B fun a8 B9 =>
 mk (ob (xbin PP .lss 3 (shr (shr a8)) (iv 0)) fun a10 =>
 asB a10 fun t11 => br t11 (mk (callS false EE 70 [(shr x0), (iv 21), (shr x5)] B9 fun a12 B13 =>
 mk (ZmQ (iv 0) nilA (bv false) B13)))
 (Ztd m0 x0 (shr a8) x5 (gcB m0 [x0, (shr a8), x5] B9)))) := by kernel_rfl
theorem Zzs m0 x0 x2 x5 B : Ztd m0 x0 x2 x5 B =
 mk (callS false EE 127 [(shr x0)] B fun a14 B15 =>
 mk (callS true EE 149 [(shr x2)] B15 fun a16 B17 =>
 mk (ob (xnil PP .neq 94 (.slice none 0 0) (shr a16)) fun a18 =>
 asB a18 fun t19 => br t19 (mk (ob (xbin PP .lss 3 (shr x2) (iv 97)) fun a20 =>
 ZmQ (iv 0) a16 (shr a20) B17))
 (ZqO m0 x0 x2 x5 (gcB m0 [x0, x2, x5] B17))))) := by kernel_rfl
theorem ZxL m0 x0 x2 x5 B : ZqO m0 x0 x2 x5 B =
 mk (callS false EE 150 [(shr x0), (shr x2), (shr x5)] B fun a21 B22 =>
 ZmQ (shr a21) nilA (bv false) B22) := by kernel_rfl
theorem ZFk x0 B : EE 153 [x0] B =
 (let m0 := B.length
 mk (mk (ob (Z21 (shr x0)) fun a1 =>
 ob (xfld 1 a1) fun a2 =>
 ob (ldN false 1 a2 B) fun a3 =>
 mk (callS false EE 127 [(shr x0)] B fun a4 B5 =>
 mk (ob (xbin PP .neq 3 (shr (shr a4)) (iv 92)) fun a6 =>
 asB a6 fun t7 => br t7 (mk (ZmQ (shr (shr (shr a4))) nilA (bv false) B5))
 (Ztc m0 x0 (shr a3) (gcB m0 [x0, (shr a3)] B5))))))) := (E_eq PP XX HH _ _ _).trans (by kernel_rfl)
def Zhu : Code := Z2K Tryz.f154
def Zvt (r0 : AV) (B : List Row) : Option Res :=
 ob (ob (some r0) fun v => ob (some []) fun vs => some (v :: vs)) fun vs => some ((nrmA (match vs with | [v] => v | vs => Z1M (vs.map shr))), B)
def Zte (m0 : Nat) : Kont := kret PP HH 154 Tryz.f154.results
def ZFm (m0 : Nat) : Kont := kseq HH 154 m0 (l2 (l2 Zhu)) (exec PP HH 154 m0 EE LL (l2 (l2 Zhu)) (Zte m0)) (Zte m0)
def Ztf (m0 : Nat) : Kont := kblk 0 (ZFm m0)
def Zyc (m0 : Nat) : Kont := kloop HH 154 m0 (l1 (l1 (l2 (l1 (l2 Zhu))))) (LL 154 m0 (l1 (l1 (l2 (l1 (l2 Zhu))))) (Ztf m0)) (Ztf m0)
def Zj4 (m0 : Nat) (x0 x1 x7 x8 : AV) (B : List Row) : Option Res := lp (LL 154 m0 (l1 (l1 (l2 (l1 (l2 Zhu))))) (Ztf m0) [(0, x0), (1, x1), (7, x7), (8, x8)] B)
def Ztg (m0 : Nat) (x0 x1 x7 x8 : AV) (B : List Row) : Option Res := exec PP HH 154 m0 EE LL (l2 (l2 (l1 (l1 (l2 (l1 (l2 Zhu))))))) (Zyc m0) [(0, x0), (1, x1), (7, x7), (8, x8)] B
def Zti (m0 : Nat) (B : List Row) : Option Res := exec PP HH 154 m0 EE LL (l2 (l2 Zhu)) (Zte m0) [] B
def Zth (m0 : Nat) (x0 x1 x7 x8 : AV) (B : List Row) : Option Res := exec PP HH 154 m0 EE LL (l2 (l2 (l2 (l1 (l1 (l2 (l1 (l2 Zhu)))))))) (Zyc m0) [(0, x0), (1, x1), (7, x7), (8, x8)] B
theorem Zzt m0 x0 x1 x7 x8 B : Zj4 m0 x0 x1 x7 x8 B =
 mk (ob (xbin PP .lss 3 x8 x7) fun a2 =>
 asB a2 fun t3 => br t3 (Ztg m0 x0 x1 x7 x8 (gcB m0 [x0, x1, x7, x8] B))
 (Zti m0  (gcB m0 [] B))) := (L_eq PP XX HH _ _ _ _ _ _).trans (by kernel_rfl)
theorem Zzu m0 x0 x1 x7 x8 B : Ztg m0 x0 x1 x7 x8 B =
 mk (mk (ob (xidx 1 (shr x0) (shr (shr (shr x8)))) fun a4 =>
 ob (ldN false 1 a4 B) fun a5 =>
 callV HH EE (shr x1) [a5] B fun a6 B7 =>
 asB a6 fun t8 => br t8 (mk (Zvt (shr (shr (shr (shr x8)))) B7))
 (Zth m0 x0 x1 x7 x8 (gcB m0 [x0, x1, x7, x8] B7)))) := by kernel_rfl
theorem Zzw m0 B : Zti m0  B =
 mk (Zvt (iv (-1)) B) := by kernel_rfl
theorem Zzv m0 x0 x1 x7 x8 B : Zth m0 x0 x1 x7 x8 B =
 mk (ob (xbin PP .add 3 x8 (iv 1)) fun a9 =>
 Zj4 m0 x0 x1 x7 (shr a9) (gcB m0 [x0, x1, x7, (shr a9)] B)) := by kernel_rfl
theorem ZFl x0 x1 B : EE 154 [x0, x1] B =
 (let m0 := B.length
 mk (mk (ob (xlen PP 226 (shr x0)) fun a1 =>
 Zj4 m0 x0 x1 a1 (iv 0) (gcB m0 [x0, x1, a1, (iv 0)] B)))) := (E_eq PP XX HH _ _ _).trans (by kernel_rfl)
def ZDr (r0 : AV) (B : List Row) : Option Res :=
 ob (ob (some r0) fun v => ob (some []) fun vs => some (v :: vs)) fun vs => some ((nrmA (match vs with | [v] => v | vs => Z1M (vs.map shr))), B)
theorem ZFn B : EE 155 [] B =
 (let m0 := B.length
 mk (mk (ob (xlit PP 226 4 [(0, (.p (.v (.string (ByteArray.mk #[63, 61]))))), (1, (.p (.v (.string (ByteArray.mk #[63, 33]))))), (2, (.p (.v (.string (ByteArray.mk #[63, 60, 61]))))), (3, (.p (.v (.string (ByteArray.mk #[63, 60, 33])))))]) fun a1 =>
 ZDr (shr a1) B))) := (E_eq PP XX HH _ _ _).trans (by kernel_rfl)
def Zjw : Code := Z2K Tryz.f156
def ZDs (r0 : AV) (B : List Row) : Option Res :=
 ob (ob (some r0) fun v => ob (some []) fun vs => some (v :: vs)) fun vs => some ((nrmA (match vs with | [v] => v | vs => Z1M (vs.map shr))), B)
def Ztj (m0 : Nat) : Kont := kret PP HH 156 Tryz.f156.results
def ZFp (m0 : Nat) : Kont := kseq HH 156 m0 (l2 (l2 (l2 Zjw))) (exec PP HH 156 m0 EE LL (l2 (l2 (l2 Zjw))) (Ztj m0)) (Ztj m0)
def Ztk (m0 : Nat) : Kont := kblk 0 (ZFp m0)
def ZFq (m0 : Nat) : Kont := kloop HH 156 m0 (l1 (l1 (l2 (l1 (l2 (l2 Zjw)))))) (LL 156 m0 (l1 (l1 (l2 (l1 (l2 (l2 Zjw)))))) (Ztk m0)) (Ztk m0)
def Zj5 (m0 : Nat) (x0 x3 x4 : AV) (B : List Row) : Option Res := lp (LL 156 m0 (l1 (l1 (l2 (l1 (l2 (l2 Zjw)))))) (Ztk m0) [(0, x0), (3, x3), (4, x4)] B)
def Ztl (m0 : Nat) (x0 x3 x4 : AV) (B : List Row) : Option Res := exec PP HH 156 m0 EE LL (l2 (l1 (l1 (l2 (l1 (l2 (l2 Zjw))))))) (ZFq m0) [(0, x0), (3, x3), (4, x4)] B
def ZlD (m0 : Nat) (x3 : AV) (B : List Row) : Option Res := exec PP HH 156 m0 EE LL (l2 (l2 (l2 Zjw))) (Ztj m0) [(3, x3)] B
theorem Zzx m0 x0 x3 x4 B : Zj5 m0 x0 x3 x4 B =
 mk (ob (xbin PP .lss 3 (shr x4) (iv 2)) fun a1 =>
 asB (shr a1) fun t2 => br t2 (callS false EE 104 [(shr x0)] B fun a3 B4 =>
 ob (xbin PP .geq 3 a3 (iv 48)) fun a5 =>
 asB (shr (shr a5)) fun t6 => br t6 (callS false EE 104 [(shr x0)] B4 fun a7 B8 =>
 ob (xbin PP .leq 3 a7 (iv 57)) fun a9 =>
 asB (shr a9) fun t10 => br t10 (Ztl m0 x0 x3 x4 (gcB m0 [x0, x3, x4] B8))
 (ZlD m0 x3 (gcB m0 [x3] B8)))
 (ZlD m0 x3 (gcB m0 [x3] B4)))
 (ZlD m0 x3 (gcB m0 [x3] B))) := (L_eq PP XX HH _ _ _ _ _ _).trans (by kernel_rfl)
theorem Zzy m0 x0 x3 x4 B : Ztl m0 x0 x3 x4 B =
 mk (ob (Z7I PP true [(shr x3), (iv 0)]) fun a11 =>
 ob (xbin PP .mul 3 (iv 10) a11) fun a12 =>
 callS false EE 127 [(shr x0)] B fun a13 B14 =>
 ob (xbin PP .add 3 a12 a13) fun a15 =>
 ob (xbin PP .sub 3 a15 (iv 48)) fun a16 =>
 mk (ob (xbin PP .add 3 (shr x4) (iv 1)) fun a17 =>
 Zj5 m0 x0 (shr a16) (shr a17) (gcB m0 [x0, (shr a16), (shr a17)] B14))) := by kernel_rfl
theorem Zzz m0 x3 B : ZlD m0 x3 B =
 mk (ZDs (shr (shr x3)) B) := by kernel_rfl
theorem ZFo x0 B : EE 156 [x0] B =
 (let m0 := B.length
 mk (mk (mk (Zj5 m0 x0 (iv (-1)) (iv 0) (gcB m0 [x0, (iv (-1)), (iv 0)] B))))) := (E_eq PP XX HH _ _ _).trans (by kernel_rfl)
def ZDt (r0 : AV) (B : List Row) : Option Res :=
 ob (ob (some r0) fun v => ob (some []) fun vs => some (v :: vs)) fun vs => some ((nrmA (match vs with | [v] => v | vs => Z1M (vs.map shr))), B)
theorem ZFr x0 x1 B : EE 166 [x0, x1] B =
 (let m0 := B.length
 mk (mk (callS false EE 179 [(shr x0), (shr x1)] B fun a1 B2 =>
 ob (xbin PP .geq 3 a1 (iv 0)) fun a3 =>
 ZDt (shr a3) B2))) := (E_eq PP XX HH _ _ _).trans (by kernel_rfl)
def ZDu (r0 : AV) (B : List Row) : Option Res :=
 ob (ob (some r0) fun v => ob (some []) fun vs => some (v :: vs)) fun vs => some ((nrmA (match vs with | [v] => v | vs => Z1M (vs.map shr))), B)
theorem ZFs x0 B : EE 167 [x0] B =
 (let m0 := B.length
 mk (bx x0 B fun a1 B2 =>
 mk (ob (ldN true 2 a1 B2) fun a3 =>
 callS false EE 168 [a3] B2 fun a4 B5 =>
 ob (xun PP .not a4) fun a6 =>
 ZDu (shr a6) B5))) := (E_eq PP XX HH _ _ _).trans (by kernel_rfl)
def ZqP (r0 : AV) (B : List Row) : Option Res :=
 ob (ob (some r0) fun v => ob (some []) fun vs => some (v :: vs)) fun vs => some ((nrmA (match vs with | [v] => v | vs => Z1M (vs.map shr))), B)
theorem ZFt x0 B : EE 168 [x0] B =
 (let m0 := B.length
 mk (bx x0 B fun a1 B2 =>
 mk (ob (xfld 0 a1) fun a3 =>
 ob (ldN false 1 a3 B2) fun a4 =>
 ob (xbin PP .geq 3 a4 (iv 0)) fun a5 =>
 asB (shr a5) fun t6 => br t6 (ob (xfld 0 a1) fun a7 =>
 ob (ldN false 1 a7 B2) fun a8 =>
 ob (xfld 1 a1) fun a9 =>
 ob (ldN false 1 a9 B2) fun a10 =>
 ob (xbin PP .leq 3 a8 a10) fun a11 =>
 asB (shr (shr a11)) fun t12 => br t12 (ob (xfld 1 a1) fun a13 =>
 ob (ldN false 1 a13 B2) fun a14 =>
 ob (xbin PP .leq 3 a14 (iv 1114367)) fun a15 =>
 ZqP (shr (shr a15)) B2)
 (ZqP (bv false) B2))
 (ZqP (bv false) B2)))) := (E_eq PP XX HH _ _ _).trans (by kernel_rfl)
def Zaq : Code := Z2K Tryz.f170
def ZvD (r0 : AV) (B : List Row) : Option Res :=
 ob (ob (some r0) fun v => ob (some []) fun vs => some (v :: vs)) fun vs => some ((nrmA (match vs with | [v] => v | vs => Z1M (vs.map shr))), B)
def Ztt (m0 : Nat) : Kont := kret PP HH 170 Tryz.f170.results
def ZFv (m0 : Nat) : Kont := kseq HH 170 m0 (l2 (l2 (l2 Zaq))) (exec PP HH 170 m0 EE LL (l2 (l2 (l2 Zaq))) (Ztt m0)) (Ztt m0)
def Ztu (m0 : Nat) : Kont := kblk 0 (ZFv m0)
def ZpA (m0 : Nat) : Kont := kloop HH 170 m0 (l1 (l1 (l2 (l1 (l2 (l2 Zaq)))))) (LL 170 m0 (l1 (l1 (l2 (l1 (l2 (l2 Zaq)))))) (Ztu m0)) (Ztu m0)
def ZFw (m0 : Nat) : Kont := kseq HH 170 m0 (l2 (l2 (l2 (l1 (l1 (l2 (l1 (l2 (l2 Zaq))))))))) (exec PP HH 170 m0 EE LL (l2 (l2 (l2 (l1 (l1 (l2 (l1 (l2 (l2 Zaq))))))))) (ZpA m0)) (ZpA m0)
def Ztv (m0 : Nat) : Kont := kblk 1 (ZFw m0)
def ZFx (m0 : Nat) : Kont := kseq HH 170 m0 (l2 (l2 (l1 (l1 (l2 (l2 (l1 (l1 (l2 (l1 (l2 (l2 Zaq)))))))))))) (exec PP HH 170 m0 EE LL (l2 (l2 (l1 (l1 (l2 (l2 (l1 (l1 (l2 (l1 (l2 (l2 Zaq)))))))))))) (Ztv m0)) (Ztv m0)
def Zj6 (m0 : Nat) (x3 x6 x7 x8 : AV) (B : List Row) : Option Res := lp (LL 170 m0 (l1 (l1 (l2 (l1 (l2 (l2 Zaq)))))) (Ztu m0) [(3, x3), (6, x6), (7, x7), (8, x8)] B)
def Ztw (m0 : Nat) (x3 x6 x7 x8 : AV) (B : List Row) : Option Res := exec PP HH 170 m0 EE LL (l2 (l2 (l1 (l1 (l2 (l1 (l2 (l2 Zaq)))))))) (ZpA m0) [(3, x3), (6, x6), (7, x7), (8, x8)] B
def Ztz (m0 : Nat) (B : List Row) : Option Res := exec PP HH 170 m0 EE LL (l2 (l2 (l2 Zaq))) (Ztt m0) [] B
def ZpB (m0 : Nat) (B : List Row) : Option Res := exec PP HH 170 m0 EE LL (l1 (l2 (l1 (l2 (l1 (l1 (l2 (l2 (l1 (l1 (l2 (l1 (l2 (l2 Zaq)))))))))))))) (ZFx m0) [] B
def Ztx (m0 : Nat) (x5 x6 x7 x8 : AV) (B : List Row) : Option Res := exec PP HH 170 m0 EE LL (l2 (l2 (l1 (l1 (l2 (l2 (l1 (l1 (l2 (l1 (l2 (l2 Zaq)))))))))))) (Ztv m0) [(5, x5), (6, x6), (7, x7), (8, x8)] B
def Zty (m0 : Nat) (x3 x6 x7 x8 : AV) (B : List Row) : Option Res := exec PP HH 170 m0 EE LL (l2 (l2 (l2 (l1 (l1 (l2 (l1 (l2 (l2 Zaq))))))))) (ZpA m0) [(3, x3), (6, x6), (7, x7), (8, x8)] B
theorem ZzF m0 x3 x6 x7 x8 B : Zj6 m0 x3 x6 x7 x8 B =
 mk (ob (xbin PP .lss 3 x8 x7) fun a2 =>
 asB a2 fun t3 => br t3 (Ztw m0 x3 x6 x7 x8 (gcB m0 [x3, x6, x7, x8] B))
 (Ztz m0  (gcB m0 [] B))) := (L_eq PP XX HH _ _ _ _ _ _).trans (by kernel_rfl)
theorem ZzG m0 x3 x6 x7 x8 B : Ztw m0 x3 x6 x7 x8 B =
 mk (ob (xidx 2 x6 x8) fun a4 =>
 ob (ldN true 2 a4 B) fun a5 =>
 bz PP 201 B fun a6 B7 =>
 stN 2 a6 a5 B7 fun B8 =>
 mk (ob (ldN true 2 a6 B8) fun a9 =>
 callS false EE 168 [a9] B8 fun a10 B11 =>
 ob (xun PP .not a10) fun a12 =>
 asB (shr a12) fun t13 => br t13 (ZpB m0  (gcB m0 [] B11))
 (ob (xfld 0 a6) fun a14 =>
 ob (ldN false 1 a14 B11) fun a15 =>
 ob (xbin PP .add 3 (shr x3) (iv 2)) fun a16 =>
 ob (xbin PP .lss 3 a15 a16) fun a17 =>
 asB (shr a17) fun t18 => br t18 (ZpB m0  (gcB m0 [] B11))
 (Ztx m0 a6 x6 x7 x8 (gcB m0 [a6, x6, x7, x8] B11))))) := by kernel_rfl
theorem ZzK m0 B : Ztz m0  B =
 mk (ZvD (bv true) B) := by kernel_rfl
theorem ZzH m0 B : ZpB m0  B =
 mk (ZvD (bv false) B) := by kernel_rfl
theorem ZzI m0 x5 x6 x7 x8 B : Ztx m0 x5 x6 x7 x8 B =
 mk (ob (xfld 1 x5) fun a19 =>
 ob (ldN false 1 a19 B) fun a20 =>
 Zty m0 (shr a20) x6 x7 x8 (gcB m0 [(shr a20), x6, x7, x8] B)) := by kernel_rfl
theorem ZzJ m0 x3 x6 x7 x8 B : Zty m0 x3 x6 x7 x8 B =
 mk (ob (xbin PP .add 3 x8 (iv 1)) fun a21 =>
 Zj6 m0 x3 x6 x7 (shr a21) (gcB m0 [x3, x6, x7, (shr a21)] B)) := by kernel_rfl
theorem ZFu x0 B : EE 170 [x0] B =
 (let m0 := B.length
 mk (mk (mk (ob (xlen PP 95 (shr x0)) fun a1 =>
 Zj6 m0 (iv (-2)) (shr x0) a1 (iv 0) (gcB m0 [(iv (-2)), (shr x0), a1, (iv 0)] B))))) := (E_eq PP XX HH _ _ _).trans (by kernel_rfl)
def Zc1 : Code := Z2K Tryz.f171
def ZDv (r0 : AV) (B : List Row) : Option Res :=
 ob (ob (some r0) fun v => ob (some []) fun vs => some (v :: vs)) fun vs => some ((nrmA (match vs with | [v] => v | vs => Z1M (vs.map shr))), B)
def ZpC (m0 : Nat) : Kont := kret PP HH 171 Tryz.f171.results
def ZFz (m0 : Nat) : Kont := kseq HH 171 m0 (l2 (l2 (l2 (l2 Zc1)))) (exec PP HH 171 m0 EE LL (l2 (l2 (l2 (l2 Zc1)))) (ZpC m0)) (ZpC m0)
def ZtA (m0 : Nat) : Kont := kblk 0 (ZFz m0)
def ZpD (m0 : Nat) : Kont := kloop HH 171 m0 (l1 (l1 (l2 (l1 (l2 (l2 (l2 Zc1))))))) (LL 171 m0 (l1 (l1 (l2 (l1 (l2 (l2 (l2 Zc1))))))) (ZtA m0)) (ZtA m0)
def ZFA (m0 : Nat) : Kont := kseq HH 171 m0 (l2 (l2 (l2 (l1 (l1 (l2 (l1 (l2 (l2 (l2 Zc1)))))))))) (exec PP HH 171 m0 EE LL (l2 (l2 (l2 (l1 (l1 (l2 (l1 (l2 (l2 (l2 Zc1)))))))))) (ZpD m0)) (ZpD m0)
def ZFB (m0 : Nat) : Kont := kblk 1 (ZFA m0)
def Zj7 (m0 : Nat) (x3 x4 x7 x8 x9 : AV) (B : List Row) : Option Res := lp (LL 171 m0 (l1 (l1 (l2 (l1 (l2 (l2 (l2 Zc1))))))) (ZtA m0) [(3, x3), (4, x4), (7, x7), (8, x8), (9, x9)] B)
def ZtB (m0 : Nat) (x3 x4 x7 x8 x9 : AV) (B : List Row) : Option Res := exec PP HH 171 m0 EE LL (l2 (l2 (l1 (l1 (l2 (l1 (l2 (l2 (l2 Zc1))))))))) (ZpD m0) [(3, x3), (4, x4), (7, x7), (8, x8), (9, x9)] B
def ZqQ (m0 : Nat) (x3 x4 : AV) (B : List Row) : Option Res := exec PP HH 171 m0 EE LL (l2 (l2 (l2 (l2 Zc1)))) (ZpC m0) [(3, x3), (4, x4)] B
def ZpE (m0 : Nat) (x3 x6 x7 x8 x9 : AV) (B : List Row) : Option Res := exec PP HH 171 m0 EE LL (l2 (l2 (l1 (l1 (l2 (l2 (l1 (l1 (l2 (l1 (l2 (l2 (l2 Zc1))))))))))))) (ZFB m0) [(3, x3), (6, x6), (7, x7), (8, x8), (9, x9)] B
def ZmR (m0 : Nat) (x3 : AV) (B : List Row) : Option Res := exec PP HH 171 m0 EE LL (l2 (l2 (l2 (l2 (l2 Zc1))))) (ZpC m0) [(3, x3)] B
def ZtC (m0 : Nat) (x3 x4 x7 x8 x9 : AV) (B : List Row) : Option Res := exec PP HH 171 m0 EE LL (l2 (l2 (l2 (l1 (l1 (l2 (l1 (l2 (l2 (l2 Zc1)))))))))) (ZpD m0) [(3, x3), (4, x4), (7, x7), (8, x8), (9, x9)] B
theorem ZzL m0 x3 x4 x7 x8 x9 B : Zj7 m0 x3 x4 x7 x8 x9 B =
 mk (ob (xbin PP .lss 3 x9 x8) fun a2 =>
 asB a2 fun t3 => br t3 (ZtB m0 x3 x4 x7 x8 x9 (gcB m0 [x3, x4, x7, x8, x9] B))
 (ZqQ m0 x3 x4 (gcB m0 [x3, x4] B))) := (L_eq PP XX HH _ _ _ _ _ _).trans (by kernel_rfl)
theorem ZzM m0 x3 x4 x7 x8 x9 B : ZtB m0 x3 x4 x7 x8 x9 B =
 mk (ob (xidx 2 x7 x9) fun a4 =>
 ob (ldN true 2 a4 B) fun a5 =>
 bz PP 201 B fun a6 B7 =>
 stN 2 a6 a5 B7 fun B8 =>
 mk (ob (xfld 0 a6) fun a9 =>
 ob (ldN false 1 a9 B8) fun a10 =>
 ob (xbin PP .lss 3 (shr x4) a10) fun a11 =>
 asB a11 fun t12 => br t12 (mk (ob (xfld 0 a6) fun a13 =>
 ob (ldN false 1 a13 B8) fun a14 =>
 ob (xbin PP .sub 3 a14 (iv 1)) fun a15 =>
 ob (Z1G PP 201 [(0, (shr x4)), (1, a15)]) fun a16 =>
 ob (xlit PP 95 1 [(0, a16)]) fun a17 =>
 ob (xapp 2 x3 a17) fun a18 =>
 ZpE m0 a18 a6 x7 x8 x9 (gcB m0 [a18, a6, x7, x8, x9] B8)))
 (ZpE m0 x3 a6 x7 x8 x9 (gcB m0 [x3, a6, x7, x8, x9] B8)))) := by kernel_rfl
theorem ZxM m0 x3 x4 B : ZqQ m0 x3 x4 B =
 mk (ob (xbin PP .leq 3 (shr x4) (iv 1114367)) fun a19 =>
 asB a19 fun t20 => br t20 (mk (ob (Z1G PP 201 [(0, (shr x4)), (1, (iv 1114367))]) fun a21 =>
 ob (xlit PP 95 1 [(0, a21)]) fun a22 =>
 ob (xapp 2 x3 a22) fun a23 =>
 ZmR m0 a23 (gcB m0 [a23] B)))
 (ZmR m0 x3 (gcB m0 [x3] B))) := by kernel_rfl
theorem ZzN m0 x3 x6 x7 x8 x9 B : ZpE m0 x3 x6 x7 x8 x9 B =
 mk (ob (xfld 1 x6) fun a24 =>
 ob (ldN false 1 a24 B) fun a25 =>
 ob (xbin PP .add 3 a25 (iv 1)) fun a26 =>
 ZtC m0 x3 (shr a26) x7 x8 x9 (gcB m0 [x3, (shr a26), x7, x8, x9] B)) := by kernel_rfl
theorem ZxN m0 x3 B : ZmR m0 x3 B =
 mk (ZDv (shr (shr x3)) B) := by kernel_rfl
theorem ZzO m0 x3 x4 x7 x8 x9 B : ZtC m0 x3 x4 x7 x8 x9 B =
 mk (ob (xbin PP .add 3 x9 (iv 1)) fun a27 =>
 Zj7 m0 x3 x4 x7 x8 (shr a27) (gcB m0 [x3, x4, x7, x8, (shr a27)] B)) := by kernel_rfl
theorem ZFy x0 B : EE 171 [x0] B =
 (let m0 := B.length
 mk (mk (mk (mk (ob (xlen PP 95 (shr x0)) fun a1 =>
 Zj7 m0 nilA (iv 0) (shr x0) a1 (iv 0) (gcB m0 [nilA, (iv 0), (shr x0), a1, (iv 0)] B)))))) := (E_eq PP XX HH _ _ _).trans (by kernel_rfl)
def ZlH : Code := Z2K Tryz.f172
def ZqR (r0 : AV) (B : List Row) : Option Res :=
 ob (ob (some r0) fun v => ob (some []) fun vs => some (v :: vs)) fun vs => some ((nrmA (match vs with | [v] => v | vs => Z1M (vs.map shr))), B)
def ZtD (m0 : Nat) : Kont := kret PP HH 172 Tryz.f172.results
def ZFD (m0 : Nat) : Kont := kseq HH 172 m0 (l2 (l2 ZlH)) (exec PP HH 172 m0 EE LL (l2 (l2 ZlH)) (ZtD m0)) (ZtD m0)
def ZtE (m0 : Nat) : Kont := kblk 0 (ZFD m0)
def ZtF (m0 : Nat) (x0 : AV) (B : List Row) : Option Res := exec PP HH 172 m0 EE LL (l1 (l2 (l1 (l1 (l2 ZlH))))) (ZtE m0) [(0, x0)] B
def ZpF (m0 : Nat) (x0 : AV) (B : List Row) : Option Res := exec PP HH 172 m0 EE LL (l2 (l2 (l1 (l1 (l2 ZlH))))) (ZtE m0) [(0, x0)] B
def ZtG (m0 : Nat) (x0 : AV) (B : List Row) : Option Res := exec PP HH 172 m0 EE LL (l1 (l2 (l2 (l2 (l1 (l1 (l2 ZlH))))))) (ZtE m0) [(0, x0)] B
def ZpG (m0 : Nat) (B : List Row) : Option Res := exec PP HH 172 m0 EE LL (l2 (l2 ZlH)) (ZtD m0) [] B
theorem ZzP m0 x0 B : ZtF m0 x0 B =
 mk (ob (xbin PP .sub 3 (shr x0) (iv 48)) fun a5 =>
 ZqR (shr a5) B) := by kernel_rfl
theorem ZzQ m0 x0 B : ZpF m0 x0 B =
 mk (ob (xbin PP .geq 3 (shr x0) (iv 97)) fun a6 =>
 asB (shr a6) fun t7 => br t7 (ob (xbin PP .leq 3 (shr x0) (iv 102)) fun a8 =>
 asB (shr (shr a8)) fun t9 => br t9 (ZtG m0 x0 (gcB m0 [x0] B))
 (ZpG m0  (gcB m0 [] B)))
 (ZpG m0  (gcB m0 [] B))) := by kernel_rfl
theorem ZzR m0 x0 B : ZtG m0 x0 B =
 mk (ob (xbin PP .sub 3 (shr x0) (iv 97)) fun a10 =>
 ob (xbin PP .add 3 a10 (iv 10)) fun a11 =>
 ZqR (shr a11) B) := by kernel_rfl
theorem ZzS m0 B : ZpG m0  B =
 mk (ZqR (iv (-1)) B) := by kernel_rfl
theorem ZFC x0 B : EE 172 [x0] B =
 (let m0 := B.length
 mk (mk (ob (xbin PP .geq 3 (shr x0) (iv 48)) fun a1 =>
 asB (shr a1) fun t2 => br t2 (ob (xbin PP .leq 3 (shr x0) (iv 57)) fun a3 =>
 asB (shr (shr a3)) fun t4 => br t4 (ZtF m0 x0 (gcB m0 [x0] B))
 (ZpF m0 x0 (gcB m0 [x0] B)))
 (ZpF m0 x0 (gcB m0 [x0] B))))) := (E_eq PP XX HH _ _ _).trans (by kernel_rfl)
def ZDw (r0 : AV) (B : List Row) : Option Res :=
 ob (ob (some r0) fun v => ob (some []) fun vs => some (v :: vs)) fun vs => some ((nrmA (match vs with | [v] => v | vs => Z1M (vs.map shr))), B)
theorem ZFE x0 x1 B : EE 173 [x0, x1] B =
 (let m0 := B.length
 mk (bx x1 B fun a1 B2 =>
 mk (callS false EE 184 [(shr x0), (.clo 185 ([].map nrmA) ([a1].map nrmA))] B2 fun a3 B4 =>
 ZDw (shr a3) B4))) := (E_eq PP XX HH _ _ _).trans (by kernel_rfl)
def Zhv : Code := Z2K Tryz.f179
def ZvE (r0 : AV) (B : List Row) : Option Res :=
 ob (ob (some r0) fun v => ob (some []) fun vs => some (v :: vs)) fun vs => some ((nrmA (match vs with | [v] => v | vs => Z1M (vs.map shr))), B)
def ZtH (m0 : Nat) : Kont := kret PP HH 179 Tryz.f179.results
def ZFG (m0 : Nat) : Kont := kseq HH 179 m0 (l2 (l2 Zhv)) (exec PP HH 179 m0 EE LL (l2 (l2 Zhv)) (ZtH m0)) (ZtH m0)
def ZtI (m0 : Nat) : Kont := kblk 0 (ZFG m0)
def Zyd (m0 : Nat) : Kont := kloop HH 179 m0 (l1 (l1 (l2 (l1 (l2 Zhv))))) (LL 179 m0 (l1 (l1 (l2 (l1 (l2 Zhv))))) (ZtI m0)) (ZtI m0)
def Zj8 (m0 : Nat) (x0 x1 x7 x8 : AV) (B : List Row) : Option Res := lp (LL 179 m0 (l1 (l1 (l2 (l1 (l2 Zhv))))) (ZtI m0) [(0, x0), (1, x1), (7, x7), (8, x8)] B)
def ZtJ (m0 : Nat) (x0 x1 x7 x8 : AV) (B : List Row) : Option Res := exec PP HH 179 m0 EE LL (l2 (l2 (l1 (l1 (l2 (l1 (l2 Zhv))))))) (Zyd m0) [(0, x0), (1, x1), (7, x7), (8, x8)] B
def ZtL (m0 : Nat) (B : List Row) : Option Res := exec PP HH 179 m0 EE LL (l2 (l2 Zhv)) (ZtH m0) [] B
def ZtK (m0 : Nat) (x0 x1 x7 x8 : AV) (B : List Row) : Option Res := exec PP HH 179 m0 EE LL (l2 (l2 (l2 (l1 (l1 (l2 (l1 (l2 Zhv)))))))) (Zyd m0) [(0, x0), (1, x1), (7, x7), (8, x8)] B
theorem ZzT m0 x0 x1 x7 x8 B : Zj8 m0 x0 x1 x7 x8 B =
 mk (ob (xbin PP .lss 3 x8 x7) fun a2 =>
 asB a2 fun t3 => br t3 (ZtJ m0 x0 x1 x7 x8 (gcB m0 [x0, x1, x7, x8] B))
 (ZtL m0  (gcB m0 [] B))) := (L_eq PP XX HH _ _ _ _ _ _).trans (by kernel_rfl)
theorem ZzU m0 x0 x1 x7 x8 B : ZtJ m0 x0 x1 x7 x8 B =
 mk (mk (ob (xidx 2 (shr x0) (shr (shr (shr x8)))) fun a4 =>
 ob (ldN true 2 a4 B) fun a5 =>
 callV HH EE (shr x1) [a5] B fun a6 B7 =>
 asB a6 fun t8 => br t8 (mk (ZvE (shr (shr (shr (shr x8)))) B7))
 (ZtK m0 x0 x1 x7 x8 (gcB m0 [x0, x1, x7, x8] B7)))) := by kernel_rfl
theorem ZzW m0 B : ZtL m0  B =
 mk (ZvE (iv (-1)) B) := by kernel_rfl
theorem ZzV m0 x0 x1 x7 x8 B : ZtK m0 x0 x1 x7 x8 B =
 mk (ob (xbin PP .add 3 x8 (iv 1)) fun a9 =>
 Zj8 m0 x0 x1 x7 (shr a9) (gcB m0 [x0, x1, x7, (shr a9)] B)) := by kernel_rfl
theorem ZFF x0 x1 B : EE 179 [x0, x1] B =
 (let m0 := B.length
 mk (mk (ob (xlen PP 94 (shr x0)) fun a1 =>
 Zj8 m0 x0 x1 a1 (iv 0) (gcB m0 [x0, x1, a1, (iv 0)] B)))) := (E_eq PP XX HH _ _ _).trans (by kernel_rfl)
def ZDx (r0 : AV) (B : List Row) : Option Res :=
 ob (ob (some r0) fun v => ob (some []) fun vs => some (v :: vs)) fun vs => some ((nrmA (match vs with | [v] => v | vs => Z1M (vs.map shr))), B)
theorem ZFH x0 x1 B : EE 184 [x0, x1] B =
 (let m0 := B.length
 mk (mk (callS false EE 191 [(shr x0), (shr x1)] B fun a1 B2 =>
 ob (xbin PP .geq 3 a1 (iv 0)) fun a3 =>
 ZDx (shr a3) B2))) := (E_eq PP XX HH _ _ _).trans (by kernel_rfl)
def ZvF (r0 : AV) (B : List Row) : Option Res :=
 ob (ob (some r0) fun v => ob (some []) fun vs => some (v :: vs)) fun vs => some ((nrmA (match vs with | [v] => v | vs => Z1M (vs.map shr))), B)
theorem ZFI x0 x1 B : EE 185 [x0, x1] B =
 (let m0 := B.length
 mk (bx x0 B fun a1 B2 =>
 mk (ob (xfld 0 a1) fun a3 =>
 ob (ldN false 1 a3 B2) fun a4 =>
 ob (ldN false 1 x1 B2) fun a5 =>
 ob (xbin PP .leq 3 a4 a5) fun a6 =>
 asB (shr a6) fun t7 => br t7 (ob (ldN false 1 x1 B2) fun a8 =>
 ob (xfld 1 a1) fun a9 =>
 ob (ldN false 1 a9 B2) fun a10 =>
 ob (xbin PP .leq 3 a8 a10) fun a11 =>
 ZvF (shr (shr a11)) B2)
 (ZvF (bv false) B2)))) := (E_eq PP XX HH _ _ _).trans (by kernel_rfl)
def Zhw : Code := Z2K Tryz.f191
def ZvG (r0 : AV) (B : List Row) : Option Res :=
 ob (ob (some r0) fun v => ob (some []) fun vs => some (v :: vs)) fun vs => some ((nrmA (match vs with | [v] => v | vs => Z1M (vs.map shr))), B)
def ZtM (m0 : Nat) : Kont := kret PP HH 191 Tryz.f191.results
def ZFK (m0 : Nat) : Kont := kseq HH 191 m0 (l2 (l2 Zhw)) (exec PP HH 191 m0 EE LL (l2 (l2 Zhw)) (ZtM m0)) (ZtM m0)
def ZtN (m0 : Nat) : Kont := kblk 0 (ZFK m0)
def Zye (m0 : Nat) : Kont := kloop HH 191 m0 (l1 (l1 (l2 (l1 (l2 Zhw))))) (LL 191 m0 (l1 (l1 (l2 (l1 (l2 Zhw))))) (ZtN m0)) (ZtN m0)
def Zj9 (m0 : Nat) (x0 x1 x7 x8 : AV) (B : List Row) : Option Res := lp (LL 191 m0 (l1 (l1 (l2 (l1 (l2 Zhw))))) (ZtN m0) [(0, x0), (1, x1), (7, x7), (8, x8)] B)
def ZtO (m0 : Nat) (x0 x1 x7 x8 : AV) (B : List Row) : Option Res := exec PP HH 191 m0 EE LL (l2 (l2 (l1 (l1 (l2 (l1 (l2 Zhw))))))) (Zye m0) [(0, x0), (1, x1), (7, x7), (8, x8)] B
def ZtQ (m0 : Nat) (B : List Row) : Option Res := exec PP HH 191 m0 EE LL (l2 (l2 Zhw)) (ZtM m0) [] B
def ZtP (m0 : Nat) (x0 x1 x7 x8 : AV) (B : List Row) : Option Res := exec PP HH 191 m0 EE LL (l2 (l2 (l2 (l1 (l1 (l2 (l1 (l2 Zhw)))))))) (Zye m0) [(0, x0), (1, x1), (7, x7), (8, x8)] B
theorem ZzX m0 x0 x1 x7 x8 B : Zj9 m0 x0 x1 x7 x8 B =
 mk (ob (xbin PP .lss 3 x8 x7) fun a2 =>
 asB a2 fun t3 => br t3 (ZtO m0 x0 x1 x7 x8 (gcB m0 [x0, x1, x7, x8] B))
 (ZtQ m0  (gcB m0 [] B))) := (L_eq PP XX HH _ _ _ _ _ _).trans (by kernel_rfl)
theorem ZzY m0 x0 x1 x7 x8 B : ZtO m0 x0 x1 x7 x8 B =
 mk (mk (ob (xidx 2 (shr x0) (shr (shr (shr x8)))) fun a4 =>
 ob (ldN true 2 a4 B) fun a5 =>
 callV HH EE (shr x1) [a5] B fun a6 B7 =>
 asB a6 fun t8 => br t8 (mk (ZvG (shr (shr (shr (shr x8)))) B7))
 (ZtP m0 x0 x1 x7 x8 (gcB m0 [x0, x1, x7, x8] B7)))) := by kernel_rfl
theorem ZA0 m0 B : ZtQ m0  B =
 mk (ZvG (iv (-1)) B) := by kernel_rfl
theorem ZzZ m0 x0 x1 x7 x8 B : ZtP m0 x0 x1 x7 x8 B =
 mk (ob (xbin PP .add 3 x8 (iv 1)) fun a9 =>
 Zj9 m0 x0 x1 x7 (shr a9) (gcB m0 [x0, x1, x7, (shr a9)] B)) := by kernel_rfl
theorem ZFJ x0 x1 B : EE 191 [x0, x1] B =
 (let m0 := B.length
 mk (mk (ob (xlen PP 95 (shr x0)) fun a1 =>
 Zj9 m0 x0 x1 a1 (iv 0) (gcB m0 [x0, x1, a1, (iv 0)] B)))) := (E_eq PP XX HH _ _ _).trans (by kernel_rfl)
end Go.Proofs.YteoeggbihfnbfaaGreatDoor.N2
end
