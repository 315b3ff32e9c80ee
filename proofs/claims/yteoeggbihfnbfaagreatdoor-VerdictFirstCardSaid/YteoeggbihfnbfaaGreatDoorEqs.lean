/- The functions' equations, by the evaluator. No condition. -/
import Derived.Test.YteoeggbihfnbfaaGreatDoorEvA
import Derived.Test.YteoeggbihfnbfaaGreatDoorProg
import Derived.KernelRfl
import Derived.Test.YteoeggbihfnbfaaGreatDoorEvD

section
set_option linter.unusedSimpArgs false
set_option linter.unusedVariables false
namespace Go.Proofs.YteoeggbihfnbfaaGreatDoor.N2
open Go Go.Abs
def ZHu : FuncId → Nat → Option (List Nat) := fun f r =>
 if f = 4 then (if r = 4 then some [] else if r = 7 then some [1, 3, 21, 22] else if r = 17 then some [1, 3, 5, 21, 22] else if r = 13 then some [1, 4, 21, 22] else if r = 11 then some [1, 3, 4, 21, 22] else if r = 18 then some [1, 3, 21, 22] else if r = 8 then some [1, 3, 21, 22] else if r = 19 then some [] else if r = 5 then some [1] else if r = 3 then some [1] else none) else
 if f = 15 then (if r = 2 then some [3, 13, 14] else if r = 7 then some [3, 13, 14, 20, 21, 22] else if r = 11 then some [3, 13, 14, 20, 21, 22] else if r = 8 then some [3, 13, 14, 20, 21, 22] else if r = 6 then some [3, 6, 13, 14] else if r = 12 then some [3, 13, 14] else if r = 3 then some [3, 13, 14] else if r = 13 then some [3] else none) else
 if f = 16 then (if r = 4 then some [2, 11, 12, 13] else if r = 10 then some [2, 11, 12, 13] else if r = 5 then some [2, 11, 12, 13] else if r = 11 then some [2] else if r = 3 then some [1, 2] else none) else
 if f = 20 then (if r = 2 then some [] else if r = 5 then some [3, 16, 17, 18] else if r = 8 then some [] else if r = 9 then some [5, 16, 17, 18] else if r = 10 then some [3, 16, 17, 18] else if r = 6 then some [3, 16, 17, 18] else if r = 11 then some [] else if r = 3 then some [1] else none) else
 if f = 21 then (if r = 4 then some [2, 3] else none) else
 if f = 22 then (if r = 9 then some [4] else if r = 14 then some [3, 4, 6, 7, 54, 55, 56] else if r = 15 then some [3, 4, 6, 7, 54, 55, 56] else if r = 19 then some [3, 4, 6, 7, 66, 67, 68] else if r = 24 then some [3, 4, 6, 7, 11, 66, 67, 68] else if r = 25 then some [3, 4, 6, 7, 66, 67, 68] else if r = 20 then some [3, 4, 6, 7, 66, 67, 68] else if r = 27 then some [4, 6, 7, 85, 86, 87] else if r = 28 then some [4, 6, 7, 85, 86, 87] else if r = 35 then some [4, 6, 7, 103, 104, 105] else if r = 36 then some [4, 6, 7, 103, 104, 105] else if r = 39 then some [4, 6] else if r = 33 then some [4, 6, 7] else if r = 31 then some [4, 6, 7] else if r = 26 then some [3, 4, 6, 7] else if r = 18 then some [3, 4, 6, 7] else if r = 12 then some [2, 3, 4, 6] else if r = 10 then some [2, 3, 4, 6] else if r = 3 then some [2, 3, 4] else none) else
 if f = 47 then (if r = 7 then some [2, 3, 4, 5] else if r = 9 then some [2, 3, 4, 5, 50, 51, 52] else if r = 13 then some [2, 3, 4, 5, 50, 51, 52] else if r = 10 then some [2, 3, 4, 5, 50, 51, 52] else if r = 16 then some [2, 3, 4, 5] else if r = 14 then some [2, 3, 4, 5] else if r = 8 then some [2, 3, 4, 5] else if r = 3 then some [0, 2, 3] else none) else
 if f = 48 then (if r = 5 then some [] else none) else
 if f = 68 then (if r = 2 then some [] else if r = 3 then some [0, 1] else none) else
 if f = 69 then (if r = 2 then some [0, 2, 3] else if r = 3 then some [0, 2, 3] else if r = 4 then some [2, 3] else none) else
 if f = 70 then (if r = 2 then some [0] else none) else
 if f = 71 then (if r = 4 then some [] else if r = 2 then some [1] else if r = 5 then some [1] else none) else
 if f = 72 then (if r = 3 then some [1, 3, 8, 9, 10] else if r = 4 then some [1, 3, 8, 9, 10] else if r = 24 then some [1, 3] else if r = 26 then some [3] else if r = 7 then some [1, 3] else none) else
 if f = 83 then (if r = 2 then some [0, 1, 7, 8] else if r = 6 then some [0, 1, 7, 8] else if r = 3 then some [0, 1, 7, 8] else if r = 7 then some [] else none) else
 if f = 84 then (if r = 2 then some [0, 1, 7, 8] else if r = 6 then some [0, 1, 7, 8] else if r = 3 then some [0, 1, 7, 8] else if r = 7 then some [] else none) else
 if f = 91 then (if r = 2 then some [0, 2, 3] else if r = 7 then some [0, 2, 3] else if r = 3 then some [0, 2, 3] else if r = 9 then some [2, 3] else none) else
 if f = 92 then (if r = 6 then some [0, 1, 4] else none) else
 if f = 93 then (if r = 8 then some [2, 3, 23, 24, 25] else if r = 9 then some [2, 3, 23, 24, 25] else if r = 16 then some [2, 3, 45, 46, 47] else if r = 21 then some [2, 45, 46, 47] else if r = 22 then some [2, 3, 11, 45, 46, 47] else if r = 23 then some [2, 3, 45, 46, 47] else if r = 17 then some [2, 3, 45, 46, 47] else if r = 30 then some [2, 3] else none) else
 if f = 104 then (if r = 3 then some [0] else none) else
 if f = 105 then (if r = 26 then some [2] else none) else
 if f = 106 then (if r = 17 then some [6, 8] else if r = 13 then some [0, 6, 8] else if r = 11 then some [0, 2, 6, 7, 8] else none) else
 if f = 107 then (if r = 2 then some [] else if r = 3 then some [0, 1] else none) else
 if f = 108 then (if r = 4 then some [] else if r = 2 then some [] else if r = 3 then some [0, 1] else if r = 5 then some [0, 1] else none) else
 if f = 109 then (if r = 2 then some [0, 1, 7, 8] else if r = 6 then some [0, 1, 7, 8] else if r = 3 then some [0, 1, 7, 8] else if r = 7 then some [] else none) else
 if f = 126 then (if r = 2 then some [] else if r = 5 then some [0, 1] else if r = 6 then some [6, 7] else if r = 3 then some [0, 1] else none) else
 if f = 128 then (if r = 4 then some [4, 5] else none) else
 if f = 130 then (if r = 13 then some [0, 1, 4, 5] else if r = 15 then some [0, 1, 4, 5] else if r = 5 then some [0, 1, 4, 5] else none) else
 if f = 131 then (if r = 5 then some [0, 1, 4, 5, 6, 7, 8] else if r = 18 then some [4, 6] else if r = 15 then some [0, 4, 5, 6] else if r = 32 then some [0, 1, 4, 5, 6, 7, 8, 9] else if r = 35 then some [0, 1, 4, 5, 6, 7, 8, 9, 11, 15] else if r = 33 then some [0, 1, 4, 5, 6, 7, 8, 9, 11] else if r = 36 then some [0, 1, 4, 5, 6, 7, 8, 11, 15] else if r = 28 then some [0, 1, 4, 5, 6, 7, 8, 9, 11] else if r = 22 then some [0, 1, 4, 5, 6, 7, 8, 9] else if r = 6 then some [0, 1, 4, 5, 6, 7, 8] else if r = 7 then some [0, 1, 4, 5, 6, 7, 8] else if r = 38 then some [4] else none) else
 if f = 132 then (if r = 19 then some [0, 1, 4, 7] else if r = 23 then some [4, 7] else if r = 20 then some [0, 4, 7] else if r = 17 then some [0, 1, 4] else if r = 4 then some [0, 1, 4] else none) else
 if f = 133 then (if r = 7 then some [4] else if r = 8 then some [0, 1, 4] else if r = 6 then some [0, 1, 4] else if r = 10 then some [0, 1, 4, 5] else if r = 11 then some [4, 5] else if r = 9 then some [0, 1, 4, 5] else none) else
 if f = 134 then (if r = 3 then some [0] else none) else
 if f = 147 then (if r = 3 then some [0] else none) else
 if f = 148 then (if r = 3 then some [0] else none) else
 if f = 149 then (if r = 11 then some [] else none) else
 if f = 150 then (if r = 16 then some [1] else if r = 17 then some [0, 2] else none) else
 if f = 152 then (if r = 2 then some [] else if r = 3 then some [0, 1] else none) else
 if f = 153 then (if r = 13 then some [0, 2, 5] else if r = 9 then some [0, 2, 5] else if r = 5 then some [0, 5] else none) else
 if f = 154 then (if r = 2 then some [0, 1, 7, 8] else if r = 6 then some [0, 1, 7, 8] else if r = 3 then some [0, 1, 7, 8] else if r = 7 then some [] else none) else
 if f = 156 then (if r = 3 then some [0, 3, 4] else if r = 5 then some [0, 3, 4] else if r = 6 then some [3] else none) else
 if f = 170 then (if r = 3 then some [3, 6, 7, 8] else if r = 6 then some [] else if r = 7 then some [5, 6, 7, 8] else if r = 8 then some [3, 6, 7, 8] else if r = 4 then some [3, 6, 7, 8] else if r = 9 then some [] else none) else
 if f = 171 then (if r = 4 then some [3, 4, 7, 8, 9] else if r = 8 then some [3, 6, 7, 8, 9] else if r = 9 then some [3, 4, 7, 8, 9] else if r = 5 then some [3, 4, 7, 8, 9] else if r = 12 then some [3] else if r = 10 then some [3, 4] else none) else
 if f = 172 then (if r = 4 then some [0] else if r = 2 then some [0] else if r = 3 then some [0] else if r = 5 then some [] else none) else
 if f = 179 then (if r = 2 then some [0, 1, 7, 8] else if r = 6 then some [0, 1, 7, 8] else if r = 3 then some [0, 1, 7, 8] else if r = 7 then some [] else none) else
 if f = 191 then (if r = 2 then some [0, 1, 7, 8] else if r = 6 then some [0, 1, 7, 8] else if r = 3 then some [0, 1, 7, 8] else if r = 7 then some [] else none) else
 none
def ownT : FuncId → List Nat := fun f =>
 if f = 22 then [110] else
 if f = 69 then [3, 9] else
 if f = 91 then [3, 23] else
 if f = 130 then [44] else
 if f = 149 then [2] else
 if f = 153 then [3, 6, 29] else
 if f = 171 then [3, 17, 31] else
 []
def rawT : FuncId → Bool := fun f => if f = 149 then true else if f = 153 then true else if f = 178 then true else false
def ZHv : FuncId → List Nat := fun f => if f = 143 then [60] else []
def HH : Hints := ⟨ZHu, ownT, rawT, ZHv⟩
def XX : FuncId → Option (List AV → List Row → Option Res) := fun f => if f = 52 then some Zmc else if f = 146 then some Zpm else if f = 169 then some Zmb else if f = 174 then some Zma else none
noncomputable abbrev PP : Program := Tryz.prog
noncomputable abbrev EE : GF := E PP XX HH
noncomputable abbrev LL : LF := L PP XX HH
end Go.Proofs.YteoeggbihfnbfaaGreatDoor.N2
end
noncomputable section
set_option linter.unusedSimpArgs false
set_option linter.unusedVariables false
namespace Go.Proofs.YteoeggbihfnbfaaGreatDoor.N2
open Go Go.Abs
set_option linter.unusedVariables false
set_option maxRecDepth 100000
def Zc2 : Code := Z2I Tryz.f4
def Zln (r0 : AV) (B : List Row) : Option Res :=
 ob (ob (some r0) fun v => ob (some []) fun vs => some (v :: vs)) fun vs => some ((nrmA (match vs with | [v] => v | vs => Z1Q (vs.map shr))), B)
def Zmu (m0 : Nat) : Kont := kret PP HH 4 Tryz.f4.results
def ZHp (m0 : Nat) : Kont := kseq HH 4 m0 (l2 (l2 (l2 Zc2))) (exec PP HH 4 m0 EE LL (l2 (l2 (l2 Zc2))) (Zmu m0)) (Zmu m0)
def ZHq (m0 : Nat) : Kont := kseq HH 4 m0 (l2 (l2 (l2 (l2 (l2 Zc2))))) (exec PP HH 4 m0 EE LL (l2 (l2 (l2 (l2 (l2 Zc2))))) (Zmu m0)) (Zmu m0)
def ZzQ (m0 : Nat) : Kont := kblk 0 (ZHq m0)
def Zuw (m0 : Nat) : Kont := kloop HH 4 m0 (l1 (l1 (l2 (l1 (l2 (l2 (l2 (l2 Zc2)))))))) (LL 4 m0 (l1 (l1 (l2 (l1 (l2 (l2 (l2 (l2 Zc2)))))))) (ZzQ m0)) (ZzQ m0)
def ZHr (m0 : Nat) : Kont := kseq HH 4 m0 (l2 (l2 (l2 (l1 (l1 (l2 (l1 (l2 (l2 (l2 (l2 Zc2))))))))))) (exec PP HH 4 m0 EE LL (l2 (l2 (l2 (l1 (l1 (l2 (l1 (l2 (l2 (l2 (l2 Zc2))))))))))) (Zuw m0)) (Zuw m0)
def ZzR (m0 : Nat) : Kont := kblk 1 (ZHr m0)
def ZzS (m0 : Nat) (x1 : AV) (B : List Row) : Option Res := exec PP HH 4 m0 EE LL (l2 (l2 Zc2)) (Zmu m0) [(1, x1)] B
def Zux (m0 : Nat) (B : List Row) : Option Res := exec PP HH 4 m0 EE LL (l1 (l2 (l1 (l2 (l2 Zc2))))) (ZHp m0) [] B
def ZzT (m0 : Nat) (x1 : AV) (B : List Row) : Option Res := exec PP HH 4 m0 EE LL (l2 (l2 (l2 Zc2))) (Zmu m0) [(1, x1)] B
def Zpb (m0 : Nat) (x1 x3 x21 x22 : AV) (B : List Row) : Option Res := lp (LL 4 m0 (l1 (l1 (l2 (l1 (l2 (l2 (l2 (l2 Zc2)))))))) (ZzQ m0) [(1, x1), (3, x3), (21, x21), (22, x22)] B)
def ZzU (m0 : Nat) (x1 x3 x21 x22 : AV) (B : List Row) : Option Res := exec PP HH 4 m0 EE LL (l2 (l2 (l1 (l1 (l2 (l1 (l2 (l2 (l2 (l2 Zc2)))))))))) (Zuw m0) [(1, x1), (3, x3), (21, x21), (22, x22)] B
def Zvs (m0 : Nat) (B : List Row) : Option Res := exec PP HH 4 m0 EE LL (l2 (l2 (l2 (l2 (l2 Zc2))))) (Zmu m0) [] B
def Zvo (m0 : Nat) (x1 x3 x4 x21 x22 : AV) (B : List Row) : Option Res := exec PP HH 4 m0 EE LL (l2 (l2 (l1 (l1 (l2 (l2 (l1 (l1 (l2 (l1 (l2 (l2 (l2 (l2 Zc2)))))))))))))) (ZzR m0) [(1, x1), (3, x3), (4, x4), (21, x21), (22, x22)] B
def Zvp (m0 : Nat) (x1 x4 x21 x22 : AV) (B : List Row) : Option Res := exec PP HH 4 m0 EE LL (l2 (l2 (l2 (l1 (l1 (l2 (l2 (l1 (l1 (l2 (l1 (l2 (l2 (l2 (l2 Zc2))))))))))))))) (ZzR m0) [(1, x1), (4, x4), (21, x21), (22, x22)] B
def Zvq (m0 : Nat) (x1 x3 x5 x21 x22 : AV) (B : List Row) : Option Res := exec PP HH 4 m0 EE LL (l2 (l2 (l2 (l2 (l2 (l2 (l1 (l1 (l2 (l2 (l1 (l1 (l2 (l1 (l2 (l2 (l2 (l2 Zc2)))))))))))))))))) (ZzR m0) [(1, x1), (3, x3), (5, x5), (21, x21), (22, x22)] B
def Zvr (m0 : Nat) (x1 x3 x21 x22 : AV) (B : List Row) : Option Res := exec PP HH 4 m0 EE LL (l2 (l2 (l2 (l1 (l1 (l2 (l1 (l2 (l2 (l2 (l2 Zc2))))))))))) (Zuw m0) [(1, x1), (3, x3), (21, x21), (22, x22)] B
theorem ZCZ m0 x1 B : ZzS m0 x1 B =
 mk (ob (ldN true 5 x1 B) fun a7 =>
 ob (Z1F PP 29 []) fun a8 =>
 callS false EE 15 [a7, a8] B fun a9 B10 =>
 ob (xun PP .not a9) fun a11 =>
 asB (shr a11) fun t12 => br t12 (Zux m0  (gcB m0 [] B10))
 (ob (ldN true 5 x1 B10) fun a13 =>
 callS false EE 20 [a13] B10 fun a14 B15 =>
 ob (xun PP .not a14) fun a16 =>
 asB (shr a16) fun t17 => br t17 (Zux m0  (gcB m0 [] B15))
 (ZzT m0 x1 (gcB m0 [x1] B15)))) := by kernel_rfl
theorem ZD0 m0 B : Zux m0  B =
 mk (Zln (bv true) B) := by kernel_rfl
theorem ZD1 m0 x1 B : ZzT m0 x1 B =
 mk (mk (ob (xfld 4 x1) fun a18 =>
 ob (ldN false 1 a18 B) fun a19 =>
 ob (xlen PP 22 a19) fun a20 =>
 ob (xbin PP .add 3 a20 (iv 1)) fun a21 =>
 Zpb m0 x1 (iv 0) a21 (iv 0) (gcB m0 [x1, (iv 0), a21, (iv 0)] B))) := by kernel_rfl
theorem ZCY m0 x1 x3 x21 x22 B : Zpb m0 x1 x3 x21 x22 B =
 mk (ob (xbin PP .lss 3 x22 x21) fun a22 =>
 asB a22 fun t23 => br t23 (ZzU m0 x1 x3 x21 x22 (gcB m0 [x1, x3, x21, x22] B))
 (Zvs m0  (gcB m0 [] B))) := (L_eq PP XX HH _ _ _ _ _ _).trans (by kernel_rfl)
theorem ZD2 m0 x1 x3 x21 x22 B : ZzU m0 x1 x3 x21 x22 B =
 mk (ob (ldN true 5 x1 B) fun a24 =>
 callS false EE 16 [a24] B fun a25 B26 =>
 bz PP 32 B26 fun a27 B28 =>
 stN 3 a27 a25 B28 fun B29 =>
 mk (ob (xfld 0 a27) fun a30 =>
 ob (ldN false 1 a30 B29) fun a31 =>
 ob (xbin PP .eql 30 a31 (iv 0)) fun a32 =>
 asB a32 fun t33 => br t33 (mk (ob (ldN true 3 a27 B29) fun a34 =>
 ob (Z1F PP 32 []) fun a35 =>
 ob (xbin PP .eql 32 a34 a35) fun a36 =>
 Zln (shr a36) B29))
 (Zvo m0 x1 x3 a27 x21 x22 (gcB m0 [x1, x3, a27, x21, x22] B29)))) := by kernel_rfl
theorem ZBj m0 B : Zvs m0  B =
 mk (Zln (bv false) B) := by kernel_rfl
theorem ZBf m0 x1 x3 x4 x21 x22 B : Zvo m0 x1 x3 x4 x21 x22 B =
 mk (ob (xfld 1 x4) fun a37 =>
 ob (ldN false 1 a37 B) fun a38 =>
 ob (xbin PP .leq 3 a38 (shr x3)) fun a39 =>
 asB a39 fun t40 => br t40 (mk (Zln (bv false) B))
 (Zvp m0 x1 x4 x21 x22 (gcB m0 [x1, x4, x21, x22] B))) := by kernel_rfl
theorem ZBg m0 x1 x4 x21 x22 B : Zvp m0 x1 x4 x21 x22 B =
 mk (ob (xfld 1 x4) fun a41 =>
 ob (ldN false 1 a41 B) fun a42 =>
 mk (ob (ldN true 5 x1 B) fun a43 =>
 ob (xfld 1 x4) fun a44 =>
 ob (ldN false 1 a44 B) fun a45 =>
 ob (xlit PP 27 1 [(0, a45)]) fun a46 =>
 ob (Z1F PP 29 [(0, (iv (-1))), (1, (iv (-1))), (2, (iv (-1))), (3, (iv (-1))), (5, a46)]) fun a47 =>
 callS false EE 22 [a43, a47] B fun a48 B49 =>
 ob (xext 0 (shr a48)) fun a50 =>
 ob (xext 1 (shr a48)) fun a51 =>
 bz PP 24 B49 fun a52 B53 =>
 stN 5 a52 (shr a50) B53 fun B54 =>
 mk (ob (xbin PP .neq 30 (shr (shr (shr a51))) (iv 0)) fun a55 =>
 asB a55 fun t56 => br t56 (mk (Zln (bv false) B54))
 (Zvq m0 x1 (shr a42) a52 x21 x22 (gcB m0 [x1, (shr a42), a52, x21, x22] B54))))) := by kernel_rfl
theorem ZBh m0 x1 x3 x5 x21 x22 B : Zvq m0 x1 x3 x5 x21 x22 B =
 mk (ob (ldN true 5 x5 B) fun a57 =>
 stN 5 x1 a57 B fun B58 =>
 Zvr m0 x1 x3 x21 x22 (gcB m0 [x1, x3, x21, x22] B58)) := by kernel_rfl
theorem ZBi m0 x1 x3 x21 x22 B : Zvr m0 x1 x3 x21 x22 B =
 mk (ob (xbin PP .add 3 x22 (iv 1)) fun a59 =>
 Zpb m0 x1 x3 x21 (shr a59) (gcB m0 [x1, x3, x21, (shr a59)] B)) := by kernel_rfl
theorem ZHo x0 B : EE 4 [x0] B =
 (let m0 := B.length
 mk (bx x0 B fun a1 B2 =>
 mk (callS false EE 14 [] B2 fun a3 B4 =>
 ob (xun PP .not a3) fun a5 =>
 asB a5 fun t6 => br t6 (mk (Zln (bv false) B4))
 (ZzS m0 a1 (gcB m0 [a1] B4))))) := (E_eq PP XX HH _ _ _).trans (by kernel_rfl)
def Zsz (r0 : AV) (B : List Row) : Option Res :=
 ob (ob (some r0) fun v => ob (some []) fun vs => some (v :: vs)) fun vs => some ((nrmA (match vs with | [v] => v | vs => Z1Q (vs.map shr))), B)
theorem ZG9 B : EE 14 [] B =
 (let m0 := B.length
 mk (mk (callS false EE 43 [] B fun a1 B2 =>
 bz PP 24 B2 fun a3 B4 =>
 stN 5 a3 a1 B4 fun B5 =>
 mk (ob (Z1F PP 43 [(0, (iv 3)), (3, (iv 1)), (4, (.p (.v (.string (ByteArray.mk #[40])))))]) fun a6 =>
 ob (Z1F PP 43 [(0, (iv 7)), (3, (iv 1)), (4, (.p (.v (.string (ByteArray.mk #[41])))))]) fun a7 =>
 ob (xlit PP 22 2 [(0, a6), (1, a7)]) fun a8 =>
 ob (xfld 4 a3) fun a9 =>
 stN 1 a9 a8 B5 fun B10 =>
 mk (callS false EE 21 [(.p (.v (.string (ByteArray.mk #[97, 42, 42]))))] B10 fun a11 B12 =>
 ob (Z1F PP 32 [(0, (iv 23)), (2, (iv 2))]) fun a13 =>
 ob (xbin PP .eql 32 a11 a13) fun a14 =>
 asB (shr a14) fun t15 => br t15 (ob (ldN true 5 a3 B12) fun a16 =>
 callS false EE 16 [a16] B12 fun a17 B18 =>
 ob (Z1F PP 32 [(0, (iv 20)), (1, (iv 3))]) fun a19 =>
 ob (xbin PP .eql 32 a17 a19) fun a20 =>
 asB (shr (shr a20)) fun t21 => br t21 (callS false EE 43 [] B18 fun a22 B23 =>
 callS false EE 16 [a22] B23 fun a24 B25 =>
 ob (Z1F PP 32 []) fun a26 =>
 ob (xbin PP .eql 32 a24 a26) fun a27 =>
 Zsz (shr (shr a27)) B25)
 (Zsz (bv false) B18))
 (Zsz (bv false) B12)))))) := (E_eq PP XX HH _ _ _).trans (by kernel_rfl)
def ZaI : Code := Z2I Tryz.f15
def ZsR (r0 : AV) (B : List Row) : Option Res :=
 ob (ob (some r0) fun v => ob (some []) fun vs => some (v :: vs)) fun vs => some ((nrmA (match vs with | [v] => v | vs => Z1Q (vs.map shr))), B)
def ZuY (m0 : Nat) : Kont := kret PP HH 15 Tryz.f15.results
def ZGb (m0 : Nat) : Kont := kseq HH 15 m0 (l2 (l2 ZaI)) (exec PP HH 15 m0 EE LL (l2 (l2 ZaI)) (ZuY m0)) (ZuY m0)
def ZuZ (m0 : Nat) : Kont := kblk 0 (ZGb m0)
def Zrc (m0 : Nat) : Kont := kloop HH 15 m0 (l1 (l1 (l2 (l1 (l2 ZaI))))) (LL 15 m0 (l1 (l1 (l2 (l1 (l2 ZaI))))) (ZuZ m0)) (ZuZ m0)
def ZGc (m0 : Nat) : Kont := kseq HH 15 m0 (l2 (l2 (l2 (l1 (l1 (l2 (l1 (l2 ZaI)))))))) (exec PP HH 15 m0 EE LL (l2 (l2 (l2 (l1 (l1 (l2 (l1 (l2 ZaI)))))))) (Zrc m0)) (Zrc m0)
def ZAP (m0 : Nat) : Kont := kblk 1 (ZGc m0)
def Zv0 (m0 : Nat) : Kont := kblk 2 (ZAP m0)
def ZAQ (m0 : Nat) : Kont := kloop HH 15 m0 (l1 (l1 (l2 (l2 (l2 (l1 (l1 (l2 (l2 (l1 (l1 (l2 (l1 (l2 ZaI)))))))))))))) (LL 15 m0 (l1 (l1 (l2 (l2 (l2 (l1 (l1 (l2 (l2 (l1 (l1 (l2 (l1 (l2 ZaI)))))))))))))) (Zv0 m0)) (Zv0 m0)
def Zlg (m0 : Nat) (x3 x13 x14 : AV) (B : List Row) : Option Res := lp (LL 15 m0 (l1 (l1 (l2 (l1 (l2 ZaI))))) (ZuZ m0) [(3, x3), (13, x13), (14, x14)] B)
def Zv1 (m0 : Nat) (x3 x13 x14 : AV) (B : List Row) : Option Res := exec PP HH 15 m0 EE LL (l2 (l2 (l1 (l1 (l2 (l1 (l2 ZaI))))))) (Zrc m0) [(3, x3), (13, x13), (14, x14)] B
def ZsQ (m0 : Nat) (x3 : AV) (B : List Row) : Option Res := exec PP HH 15 m0 EE LL (l2 (l2 ZaI)) (ZuY m0) [(3, x3)] B
def Zv2 (m0 : Nat) (x3 x6 x13 x14 : AV) (B : List Row) : Option Res := exec PP HH 15 m0 EE LL (l2 (l2 (l1 (l1 (l2 (l2 (l1 (l1 (l2 (l1 (l2 ZaI))))))))))) (ZAP m0) [(3, x3), (6, x6), (13, x13), (14, x14)] B
def Zlh (m0 : Nat) (x3 x13 x14 x20 x21 x22 : AV) (B : List Row) : Option Res := lp (LL 15 m0 (l1 (l1 (l2 (l2 (l2 (l1 (l1 (l2 (l2 (l1 (l1 (l2 (l1 (l2 ZaI)))))))))))))) (Zv0 m0) [(3, x3), (13, x13), (14, x14), (20, x20), (21, x21), (22, x22)] B)
def Zv3 (m0 : Nat) (x3 x13 x14 x20 x21 x22 : AV) (B : List Row) : Option Res := exec PP HH 15 m0 EE LL (l2 (l2 (l1 (l1 (l2 (l2 (l2 (l1 (l1 (l2 (l2 (l1 (l1 (l2 (l1 (l2 ZaI)))))))))))))))) (ZAQ m0) [(3, x3), (13, x13), (14, x14), (20, x20), (21, x21), (22, x22)] B
def ZsP (m0 : Nat) (x3 x13 x14 : AV) (B : List Row) : Option Res := exec PP HH 15 m0 EE LL (l2 (l2 (l2 (l1 (l1 (l2 (l1 (l2 ZaI)))))))) (Zrc m0) [(3, x3), (13, x13), (14, x14)] B
def ZsO (m0 : Nat) (x3 x13 x14 x20 x21 x22 : AV) (B : List Row) : Option Res := exec PP HH 15 m0 EE LL (l2 (l2 (l2 (l1 (l1 (l2 (l2 (l2 (l1 (l1 (l2 (l2 (l1 (l1 (l2 (l1 (l2 ZaI))))))))))))))))) (ZAQ m0) [(3, x3), (13, x13), (14, x14), (20, x20), (21, x21), (22, x22)] B
theorem ZAR m0 x3 x13 x14 B : Zlg m0 x3 x13 x14 B =
 mk (ob (xbin PP .lss 3 x14 (iv 2)) fun a10 =>
 asB a10 fun t11 => br t11 (Zv1 m0 x3 x13 x14 (gcB m0 [x3, x13, x14] B))
 (ZsQ m0 x3 (gcB m0 [x3] B))) := (L_eq PP XX HH _ _ _ _ _ _).trans (by kernel_rfl)
theorem ZAT m0 x3 x13 x14 B : Zv1 m0 x3 x13 x14 B =
 mk (ob (xat PP 91 x13 x14) fun a12 =>
 mk (ob (xlen PP 22 (shr (shr a12))) fun a13 =>
 ob (xbin PP .gtr 3 a13 (iv 20)) fun a14 =>
 asB a14 fun t15 => br t15 (mk (ZsR (bv false) B))
 (Zv2 m0 x3 (shr a12) x13 x14 (gcB m0 [x3, (shr a12), x13, x14] B)))) := by kernel_rfl
theorem Zz4 m0 x3 B : ZsQ m0 x3 B =
 mk (ob (xfld 5 x3) fun a16 =>
 ob (ldN false 1 a16 B) fun a17 =>
 ob (xlen PP 27 a17) fun a18 =>
 ob (xbin PP .leq 3 a18 (iv 40)) fun a19 =>
 ZsR (shr a19) B) := by kernel_rfl
theorem ZAU m0 x3 x6 x13 x14 B : Zv2 m0 x3 x6 x13 x14 B =
 mk (ob (xlen PP 22 (shr x6)) fun a20 =>
 Zlh m0 x3 x13 x14 (shr x6) a20 (iv 0) (gcB m0 [x3, x13, x14, (shr x6), a20, (iv 0)] B)) := by kernel_rfl
theorem ZAS m0 x3 x13 x14 x20 x21 x22 B : Zlh m0 x3 x13 x14 x20 x21 x22 B =
 mk (ob (xbin PP .lss 3 x22 x21) fun a21 =>
 asB a21 fun t22 => br t22 (Zv3 m0 x3 x13 x14 x20 x21 x22 (gcB m0 [x3, x13, x14, x20, x21, x22] B))
 (ZsP m0 x3 x13 x14 (gcB m0 [x3, x13, x14] B))) := (L_eq PP XX HH _ _ _ _ _ _).trans (by kernel_rfl)
theorem ZAV m0 x3 x13 x14 x20 x21 x22 B : Zv3 m0 x3 x13 x14 x20 x21 x22 B =
 mk (ob (xidx 5 x20 x22) fun a23 =>
 ob (ldN true 5 a23 B) fun a24 =>
 bz PP 43 B fun a25 B26 =>
 stN 5 a25 a24 B26 fun B27 =>
 mk (ob (xfld 4 a25) fun a28 =>
 ob (ldN false 1 a28 B27) fun a29 =>
 ob (xlen PP 9 a29) fun a30 =>
 ob (xbin PP .gtr 3 a30 (iv 300)) fun a31 =>
 asB a31 fun t32 => br t32 (mk (ZsR (bv false) B27))
 (ZsO m0 x3 x13 x14 x20 x21 x22 (gcB m0 [x3, x13, x14, x20, x21, x22] B27)))) := by kernel_rfl
theorem Zz3 m0 x3 x13 x14 B : ZsP m0 x3 x13 x14 B =
 mk (ob (xbin PP .add 3 x14 (iv 1)) fun a33 =>
 Zlg m0 x3 x13 (shr a33) (gcB m0 [x3, x13, (shr a33)] B)) := by kernel_rfl
theorem Zz2 m0 x3 x13 x14 x20 x21 x22 B : ZsO m0 x3 x13 x14 x20 x21 x22 B =
 mk (ob (xbin PP .add 3 x22 (iv 1)) fun a34 =>
 Zlh m0 x3 x13 x14 x20 x21 (shr a34) (gcB m0 [x3, x13, x14, x20, x21, (shr a34)] B)) := by kernel_rfl
theorem ZGa x0 x1 B : EE 15 [x0, x1] B =
 (let m0 := B.length
 mk (bx x0 B fun a1 B2 =>
 bx x1 B2 fun a3 B4 =>
 mk (ob (xfld 4 a1) fun a5 =>
 ob (ldN false 1 a5 B4) fun a6 =>
 ob (xfld 4 a3) fun a7 =>
 ob (ldN false 1 a7 B4) fun a8 =>
 ob (Z1F PP 91 [(0, a6), (1, a8)]) fun a9 =>
 Zlg m0 a3 a9 (iv 0) (gcB m0 [a3, a9, (iv 0)] B4)))) := (E_eq PP XX HH _ _ _).trans (by kernel_rfl)
def Zie : Code := Z2I Tryz.f16
def ZsU (r0 : AV) (B : List Row) : Option Res :=
 ob (ob (ldN true 3 r0 B) fun v => ob (some []) fun vs => some (v :: vs)) fun vs => some ((nrmA (match vs with | [v] => v | vs => Z1Q (vs.map shr))), B)
def Zrd (m0 : Nat) : Kont := kret PP HH 16 Tryz.f16.results
def ZGe (m0 : Nat) : Kont := kseq HH 16 m0 (l2 (l2 (l2 Zie))) (exec PP HH 16 m0 EE LL (l2 (l2 (l2 Zie))) (Zrd m0)) (Zrd m0)
def Zv4 (m0 : Nat) : Kont := kblk 0 (ZGe m0)
def ZAW (m0 : Nat) : Kont := kloop HH 16 m0 (l1 (l1 (l2 (l1 (l2 (l2 Zie)))))) (LL 16 m0 (l1 (l1 (l2 (l1 (l2 (l2 Zie)))))) (Zv4 m0)) (Zv4 m0)
def Zv5 (m0 : Nat) (x1 x2 : AV) (B : List Row) : Option Res := exec PP HH 16 m0 EE LL (l2 (l2 Zie)) (Zrd m0) [(1, x1), (2, x2)] B
def Zli (m0 : Nat) (x2 x11 x12 x13 : AV) (B : List Row) : Option Res := lp (LL 16 m0 (l1 (l1 (l2 (l1 (l2 (l2 Zie)))))) (Zv4 m0) [(2, x2), (11, x11), (12, x12), (13, x13)] B)
def Zv6 (m0 : Nat) (x2 x11 x12 x13 : AV) (B : List Row) : Option Res := exec PP HH 16 m0 EE LL (l2 (l2 (l1 (l1 (l2 (l1 (l2 (l2 Zie)))))))) (ZAW m0) [(2, x2), (11, x11), (12, x12), (13, x13)] B
def ZsT (m0 : Nat) (x2 : AV) (B : List Row) : Option Res := exec PP HH 16 m0 EE LL (l2 (l2 (l2 Zie))) (Zrd m0) [(2, x2)] B
def ZsS (m0 : Nat) (x2 x11 x12 x13 : AV) (B : List Row) : Option Res := exec PP HH 16 m0 EE LL (l2 (l2 (l2 (l1 (l1 (l2 (l1 (l2 (l2 Zie))))))))) (ZAW m0) [(2, x2), (11, x11), (12, x12), (13, x13)] B
theorem ZAY m0 x1 x2 B : Zv5 m0 x1 x2 B =
 mk (ob (xfld 4 x1) fun a12 =>
 ob (ldN false 1 a12 B) fun a13 =>
 ob (xlen PP 22 a13) fun a14 =>
 Zli m0 x2 a13 a14 (iv 0) (gcB m0 [x2, a13, a14, (iv 0)] B)) := by kernel_rfl
theorem ZAX m0 x2 x11 x12 x13 B : Zli m0 x2 x11 x12 x13 B =
 mk (ob (xbin PP .lss 3 x13 x12) fun a15 =>
 asB a15 fun t16 => br t16 (Zv6 m0 x2 x11 x12 x13 (gcB m0 [x2, x11, x12, x13] B))
 (ZsT m0 x2 (gcB m0 [x2] B))) := (L_eq PP XX HH _ _ _ _ _ _).trans (by kernel_rfl)
theorem ZAZ m0 x2 x11 x12 x13 B : Zv6 m0 x2 x11 x12 x13 B =
 mk (ob (xidx 5 x11 x13) fun a17 =>
 ob (ldN true 5 a17 B) fun a18 =>
 bz PP 43 B fun a19 B20 =>
 stN 5 a19 a18 B20 fun B21 =>
 mk (ob (xfld 4 a19) fun a22 =>
 ob (ldN false 1 a22 B21) fun a23 =>
 callS false EE 21 [a23] B21 fun a24 B25 =>
 bz PP 32 B25 fun a26 B27 =>
 stN 3 a26 a24 B27 fun B28 =>
 mk (ob (xfld 0 a26) fun a29 =>
 ob (ldN false 1 a29 B28) fun a30 =>
 ob (xbin PP .neq 30 a30 (iv 0)) fun a31 =>
 asB a31 fun t32 => br t32 (mk (ob (xfld 0 a19) fun a33 =>
 ob (ldN false 1 a33 B28) fun a34 =>
 ob (xfld 1 a26) fun a35 =>
 stN 1 a35 a34 B28 fun B36 =>
 mk (ob (ldN true 3 a26 B36) fun a37 =>
 stN 3 x2 a37 B36 fun B38 =>
 ZsU x2 B38)))
 (ZsS m0 x2 x11 x12 x13 (gcB m0 [x2, x11, x12, x13] B28))))) := by kernel_rfl
theorem Zz6 m0 x2 B : ZsT m0 x2 B =
 mk (ob (Z1F PP 32 []) fun a39 =>
 stN 3 x2 a39 B fun B40 =>
 ZsU x2 B40) := by kernel_rfl
theorem Zz5 m0 x2 x11 x12 x13 B : ZsS m0 x2 x11 x12 x13 B =
 mk (ob (xbin PP .add 3 x13 (iv 1)) fun a41 =>
 Zli m0 x2 x11 x12 (shr a41) (gcB m0 [x2, x11, x12, (shr a41)] B)) := by kernel_rfl
theorem ZGd x0 B : EE 16 [x0] B =
 (let m0 := B.length
 mk (bx x0 B fun a1 B2 =>
 bz PP 32 B2 fun a3 B4 =>
 mk (ob (ldN true 5 a1 B4) fun a5 =>
 callS false EE 20 [a5] B4 fun a6 B7 =>
 ob (xun PP .not a6) fun a8 =>
 asB a8 fun t9 => br t9 (mk (ob (Z1F PP 32 [(0, (iv 10))]) fun a10 =>
 stN 3 a3 a10 B7 fun B11 =>
 ZsU a3 B11))
 (Zv5 m0 a1 a3 (gcB m0 [a1, a3] B7))))) := (E_eq PP XX HH _ _ _).trans (by kernel_rfl)
def Z9P : Code := Z2I Tryz.f20
def Ztl (r0 : AV) (B : List Row) : Option Res :=
 ob (ob (some r0) fun v => ob (some []) fun vs => some (v :: vs)) fun vs => some ((nrmA (match vs with | [v] => v | vs => Z1Q (vs.map shr))), B)
def Zlk (m0 : Nat) : Kont := kret PP HH 20 Tryz.f20.results
def ZGg (m0 : Nat) : Kont := kseq HH 20 m0 (l2 (l2 Z9P)) (exec PP HH 20 m0 EE LL (l2 (l2 Z9P)) (Zlk m0)) (Zlk m0)
def ZGh (m0 : Nat) : Kont := kseq HH 20 m0 (l2 (l2 (l2 (l2 Z9P)))) (exec PP HH 20 m0 EE LL (l2 (l2 (l2 (l2 Z9P)))) (Zlk m0)) (Zlk m0)
def Zvb (m0 : Nat) : Kont := kblk 0 (ZGh m0)
def Zre (m0 : Nat) : Kont := kloop HH 20 m0 (l1 (l1 (l2 (l1 (l2 (l2 (l2 Z9P))))))) (LL 20 m0 (l1 (l1 (l2 (l1 (l2 (l2 (l2 Z9P))))))) (Zvb m0)) (Zvb m0)
def ZGi (m0 : Nat) : Kont := kseq HH 20 m0 (l2 (l2 (l2 (l1 (l1 (l2 (l1 (l2 (l2 (l2 Z9P)))))))))) (exec PP HH 20 m0 EE LL (l2 (l2 (l2 (l1 (l1 (l2 (l1 (l2 (l2 (l2 Z9P)))))))))) (Zre m0)) (Zre m0)
def Zvc (m0 : Nat) : Kont := kblk 1 (ZGi m0)
def ZGj (m0 : Nat) : Kont := kseq HH 20 m0 (l2 (l2 (l1 (l1 (l2 (l2 (l1 (l1 (l2 (l1 (l2 (l2 (l2 Z9P))))))))))))) (exec PP HH 20 m0 EE LL (l2 (l2 (l1 (l1 (l2 (l2 (l1 (l1 (l2 (l1 (l2 (l2 (l2 Z9P))))))))))))) (Zvc m0)) (Zvc m0)
def Zrf (m0 : Nat) (B : List Row) : Option Res := exec PP HH 20 m0 EE LL (l1 (l2 (l1 (l2 Z9P)))) (ZGg m0) [] B
def Zvd (m0 : Nat) (x1 : AV) (B : List Row) : Option Res := exec PP HH 20 m0 EE LL (l2 (l2 Z9P)) (Zlk m0) [(1, x1)] B
def Zll (m0 : Nat) (x3 x16 x17 x18 : AV) (B : List Row) : Option Res := lp (LL 20 m0 (l1 (l1 (l2 (l1 (l2 (l2 (l2 Z9P))))))) (Zvb m0) [(3, x3), (16, x16), (17, x17), (18, x18)] B)
def Zve (m0 : Nat) (x3 x16 x17 x18 : AV) (B : List Row) : Option Res := exec PP HH 20 m0 EE LL (l2 (l2 (l1 (l1 (l2 (l1 (l2 (l2 (l2 Z9P))))))))) (Zre m0) [(3, x3), (16, x16), (17, x17), (18, x18)] B
def Ztk (m0 : Nat) (B : List Row) : Option Res := exec PP HH 20 m0 EE LL (l2 (l2 (l2 (l2 Z9P)))) (Zlk m0) [] B
def Zrg (m0 : Nat) (B : List Row) : Option Res := exec PP HH 20 m0 EE LL (l1 (l2 (l1 (l2 (l1 (l1 (l2 (l2 (l1 (l1 (l2 (l1 (l2 (l2 (l2 Z9P))))))))))))))) (ZGj m0) [] B
def Zvf (m0 : Nat) (x5 x16 x17 x18 : AV) (B : List Row) : Option Res := exec PP HH 20 m0 EE LL (l2 (l2 (l1 (l1 (l2 (l2 (l1 (l1 (l2 (l1 (l2 (l2 (l2 Z9P))))))))))))) (Zvc m0) [(5, x5), (16, x16), (17, x17), (18, x18)] B
def Ztj (m0 : Nat) (x3 x16 x17 x18 : AV) (B : List Row) : Option Res := exec PP HH 20 m0 EE LL (l2 (l2 (l2 (l1 (l1 (l2 (l1 (l2 (l2 (l2 Z9P)))))))))) (Zre m0) [(3, x3), (16, x16), (17, x17), (18, x18)] B
theorem ZB1 m0 B : Zrf m0  B =
 mk (Ztl (bv false) B) := by kernel_rfl
theorem ZB2 m0 x1 B : Zvd m0 x1 B =
 mk (mk (ob (xfld 4 x1) fun a13 =>
 ob (ldN false 1 a13 B) fun a14 =>
 ob (xlen PP 22 a14) fun a15 =>
 Zll m0 (iv 0) a14 a15 (iv 0) (gcB m0 [(iv 0), a14, a15, (iv 0)] B))) := by kernel_rfl
theorem ZB0 m0 x3 x16 x17 x18 B : Zll m0 x3 x16 x17 x18 B =
 mk (ob (xbin PP .lss 3 x18 x17) fun a16 =>
 asB a16 fun t17 => br t17 (Zve m0 x3 x16 x17 x18 (gcB m0 [x3, x16, x17, x18] B))
 (Ztk m0  (gcB m0 [] B))) := (L_eq PP XX HH _ _ _ _ _ _).trans (by kernel_rfl)
theorem ZB3 m0 x3 x16 x17 x18 B : Zve m0 x3 x16 x17 x18 B =
 mk (ob (xidx 5 x16 x18) fun a18 =>
 ob (ldN true 5 a18 B) fun a19 =>
 bz PP 43 B fun a20 B21 =>
 stN 5 a20 a19 B21 fun B22 =>
 mk (ob (ldN true 5 a20 B22) fun a23 =>
 callS false EE 27 [a23] B22 fun a24 B25 =>
 ob (xun PP .not a24) fun a26 =>
 asB (shr a26) fun t27 => br t27 (Zrg m0  (gcB m0 [] B25))
 (ob (xfld 0 a20) fun a28 =>
 ob (ldN false 1 a28 B25) fun a29 =>
 ob (xbin PP .leq 3 a29 (shr x3)) fun a30 =>
 asB (shr a30) fun t31 => br t31 (Zrg m0  (gcB m0 [] B25))
 (Zvf m0 a20 x16 x17 x18 (gcB m0 [a20, x16, x17, x18] B25))))) := by kernel_rfl
theorem Zzu m0 B : Ztk m0  B =
 mk (Ztl (bv true) B) := by kernel_rfl
theorem ZB4 m0 B : Zrg m0  B =
 mk (Ztl (bv false) B) := by kernel_rfl
theorem ZB5 m0 x5 x16 x17 x18 B : Zvf m0 x5 x16 x17 x18 B =
 mk (ob (xfld 0 x5) fun a32 =>
 ob (ldN false 1 a32 B) fun a33 =>
 Ztj m0 (shr a33) x16 x17 x18 (gcB m0 [(shr a33), x16, x17, x18] B)) := by kernel_rfl
theorem Zzt m0 x3 x16 x17 x18 B : Ztj m0 x3 x16 x17 x18 B =
 mk (ob (xbin PP .add 3 x18 (iv 1)) fun a34 =>
 Zll m0 x3 x16 x17 (shr a34) (gcB m0 [x3, x16, x17, (shr a34)] B)) := by kernel_rfl
theorem ZGf x0 B : EE 20 [x0] B =
 (let m0 := B.length
 mk (bx x0 B fun a1 B2 =>
 mk (ob (ldN true 5 a1 B2) fun a3 =>
 callS false EE 46 [a3] B2 fun a4 B5 =>
 ob (xun PP .not a4) fun a6 =>
 asB (shr a6) fun t7 => br t7 (Zrf m0  (gcB m0 [] B5))
 (ob (xfld 4 a1) fun a8 =>
 ob (ldN false 1 a8 B5) fun a9 =>
 ob (xlen PP 22 a9) fun a10 =>
 ob (xbin PP .gtr 3 a10 (iv 16)) fun a11 =>
 asB (shr a11) fun t12 => br t12 (Zrf m0  (gcB m0 [] B5))
 (Zvd m0 a1 (gcB m0 [a1] B5)))))) := (E_eq PP XX HH _ _ _).trans (by kernel_rfl)
def ZHm : Code := Z2I Tryz.f21
def ZxK (r0 : AV) (B : List Row) : Option Res :=
 ob (ob (ldN true 3 r0 B) fun v => ob (some []) fun vs => some (v :: vs)) fun vs => some ((nrmA (match vs with | [v] => v | vs => Z1Q (vs.map shr))), B)
def ZGl (m0 : Nat) : Kont := kret PP HH 21 Tryz.f21.results
def Zvg (m0 : Nat) (x2 x3 : AV) (B : List Row) : Option Res := exec PP HH 21 m0 EE LL (l2 (l2 (l2 ZHm))) (ZGl m0) [(2, x2), (3, x3)] B
theorem ZB6 m0 x2 x3 B : Zvg m0 x2 x3 B =
 mk (ob (ldN true 9 x3 B) fun a23 =>
 callS false EE 48 [a23] B fun a24 B25 =>
 ob (Z1F PP 32 [(0, a24)]) fun a26 =>
 stN 3 x2 a26 B25 fun B27 =>
 ZxK x2 B27) := by kernel_rfl
theorem ZGk x0 B : EE 21 [x0] B =
 (let m0 := B.length
 mk (bz PP 32 B fun a1 B2 =>
 mk (callS false EE 47 [(shr x0)] B2 fun a3 B4 =>
 ob (xext 0 (shr a3)) fun a5 =>
 ob (xext 1 (shr a3)) fun a6 =>
 bz PP 100 B4 fun a7 B8 =>
 bz PP 102 B8 fun a9 B10 =>
 stN 9 a7 (shr a5) B10 fun B11 =>
 stN 2 a9 (shr a6) B11 fun B12 =>
 mk (ob (xfld 0 a9) fun a13 =>
 ob (ldN false 1 a13 B12) fun a14 =>
 ob (xbin PP .neq 30 a14 (iv 0)) fun a15 =>
 asB a15 fun t16 => br t16 (mk (ob (xfld 0 a9) fun a17 =>
 ob (ldN false 1 a17 B12) fun a18 =>
 ob (xfld 1 a9) fun a19 =>
 ob (ldN false 1 a19 B12) fun a20 =>
 ob (Z1F PP 32 [(0, a18), (2, a20)]) fun a21 =>
 stN 3 a1 a21 B12 fun B22 =>
 ZxK a1 B22))
 (Zvg m0 a1 a7 (gcB m0 [a1, a7] B12)))))) := (E_eq PP XX HH _ _ _).trans (by kernel_rfl)
def Z3G : Code := Z2I Tryz.f22
def ZiZ (r0 r1 : AV) (B : List Row) : Option Res :=
 ob (ob (ldN true 5 r0 B) fun v => ob (ob (some r1) fun v => ob (some []) fun vs => some (v :: vs)) fun vs => some (v :: vs)) fun vs => some ((nrmA (match vs with | [v] => v | vs => Z1Q (vs.map shr))), B)
def Z7Q (m0 : Nat) : Kont := kret PP HH 22 Tryz.f22.results
def ZGn (m0 : Nat) : Kont := kseq HH 22 m0 (l2 (l2 (l2 (l2 (l2 (l2 (l2 (l2 Z3G)))))))) (exec PP HH 22 m0 EE LL (l2 (l2 (l2 (l2 (l2 (l2 (l2 (l2 Z3G)))))))) (Z7Q m0)) (Z7Q m0)
def ZGo (m0 : Nat) : Kont := kseq HH 22 m0 (l2 (l2 (l2 (l2 (l2 (l2 (l2 (l2 (l2 (l2 (l2 Z3G))))))))))) (exec PP HH 22 m0 EE LL (l2 (l2 (l2 (l2 (l2 (l2 (l2 (l2 (l2 (l2 (l2 Z3G))))))))))) (Z7Q m0)) (Z7Q m0)
def Zvh (m0 : Nat) : Kont := kblk 0 (ZGo m0)
def ZGp (m0 : Nat) : Kont := kloop HH 22 m0 (l1 (l1 (l2 (l1 (l2 (l2 (l2 (l2 (l2 (l2 (l2 (l2 (l2 (l2 Z3G)))))))))))))) (LL 22 m0 (l1 (l1 (l2 (l1 (l2 (l2 (l2 (l2 (l2 (l2 (l2 (l2 (l2 (l2 Z3G)))))))))))))) (Zvh m0)) (Zvh m0)
def ZGq (m0 : Nat) : Kont := kseq HH 22 m0 (l2 (l2 (l2 (l2 (l2 (l2 (l2 (l2 (l2 (l2 (l2 (l2 Z3G)))))))))))) (exec PP HH 22 m0 EE LL (l2 (l2 (l2 (l2 (l2 (l2 (l2 (l2 (l2 (l2 (l2 (l2 Z3G)))))))))))) (Z7Q m0)) (Z7Q m0)
def Zvi (m0 : Nat) : Kont := kblk 2 (ZGq m0)
def Zrh (m0 : Nat) : Kont := kloop HH 22 m0 (l1 (l1 (l2 (l1 (l2 (l2 (l2 (l2 (l2 (l2 (l2 (l2 (l2 (l2 (l2 Z3G))))))))))))))) (LL 22 m0 (l1 (l1 (l2 (l1 (l2 (l2 (l2 (l2 (l2 (l2 (l2 (l2 (l2 (l2 (l2 Z3G))))))))))))))) (Zvi m0)) (Zvi m0)
def ZGr (m0 : Nat) : Kont := kseq HH 22 m0 (l2 (l2 (l2 (l1 (l1 (l2 (l1 (l2 (l2 (l2 (l2 (l2 (l2 (l2 (l2 (l2 (l2 (l2 Z3G)))))))))))))))))) (exec PP HH 22 m0 EE LL (l2 (l2 (l2 (l1 (l1 (l2 (l1 (l2 (l2 (l2 (l2 (l2 (l2 (l2 (l2 (l2 (l2 (l2 Z3G)))))))))))))))))) (Zrh m0)) (Zrh m0)
def ZGs (m0 : Nat) : Kont := kblk 3 (ZGr m0)
def ZF8 (m0 : Nat) : Kont := kseq HH 22 m0 (l2 (l2 (l2 (l2 (l2 (l2 (l2 (l2 (l2 (l2 (l2 (l2 (l2 Z3G))))))))))))) (exec PP HH 22 m0 EE LL (l2 (l2 (l2 (l2 (l2 (l2 (l2 (l2 (l2 (l2 (l2 (l2 (l2 Z3G))))))))))))) (Z7Q m0)) (Z7Q m0)
def Ztm (m0 : Nat) : Kont := kblk 4 (ZF8 m0)
def ZF9 (m0 : Nat) : Kont := kloop HH 22 m0 (l1 (l1 (l2 (l1 (l2 (l2 (l2 (l2 (l2 (l2 (l2 (l2 (l2 (l2 (l2 (l2 Z3G)))))))))))))))) (LL 22 m0 (l1 (l1 (l2 (l1 (l2 (l2 (l2 (l2 (l2 (l2 (l2 (l2 (l2 (l2 (l2 (l2 Z3G)))))))))))))))) (Ztm m0)) (Ztm m0)
def ZFa (m0 : Nat) : Kont := kseq HH 22 m0 (l2 (l2 (l2 (l2 (l2 (l2 (l2 (l2 (l2 (l2 (l2 (l2 (l2 (l2 (l2 (l2 Z3G)))))))))))))))) (exec PP HH 22 m0 EE LL (l2 (l2 (l2 (l2 (l2 (l2 (l2 (l2 (l2 (l2 (l2 (l2 (l2 (l2 (l2 (l2 Z3G)))))))))))))))) (Z7Q m0)) (Z7Q m0)
def Ztn (m0 : Nat) : Kont := kblk 6 (ZFa m0)
def ZFb (m0 : Nat) : Kont := kloop HH 22 m0 (l1 (l1 (l2 (l1 (l2 (l2 (l2 (l2 (l2 (l2 (l2 (l2 (l2 (l2 (l2 (l2 (l2 (l2 (l2 Z3G))))))))))))))))))) (LL 22 m0 (l1 (l1 (l2 (l1 (l2 (l2 (l2 (l2 (l2 (l2 (l2 (l2 (l2 (l2 (l2 (l2 (l2 (l2 (l2 Z3G))))))))))))))))))) (Ztn m0)) (Ztn m0)
def Zvj (m0 : Nat) (x2 x3 x4 : AV) (B : List Row) : Option Res := exec PP HH 22 m0 EE LL (l2 (l2 Z3G)) (Z7Q m0) [(2, x2), (3, x3), (4, x4)] B
def Zri (m0 : Nat) (x4 : AV) (B : List Row) : Option Res := exec PP HH 22 m0 EE LL (l1 (l2 (l1 (l2 (l2 (l2 (l2 (l2 (l2 (l2 Z3G)))))))))) (ZGn m0) [(4, x4)] B
def Zto (m0 : Nat) (x2 x3 x4 x6 : AV) (B : List Row) : Option Res := exec PP HH 22 m0 EE LL (l2 (l2 (l2 (l2 (l2 (l2 (l2 (l2 Z3G)))))))) (Z7Q m0) [(2, x2), (3, x3), (4, x4), (6, x6)] B
def Ztp (m0 : Nat) (x2 x3 x4 x6 : AV) (B : List Row) : Option Res := exec PP HH 22 m0 EE LL (l2 (l2 (l2 (l2 (l2 (l2 (l2 (l2 (l2 Z3G))))))))) (Z7Q m0) [(2, x2), (3, x3), (4, x4), (6, x6)] B
def ZiV (m0 : Nat) (x3 x4 x6 x7 x54 x55 x56 : AV) (B : List Row) : Option Res := lp (LL 22 m0 (l1 (l1 (l2 (l1 (l2 (l2 (l2 (l2 (l2 (l2 (l2 (l2 (l2 (l2 Z3G)))))))))))))) (Zvh m0) [(3, x3), (4, x4), (6, x6), (7, x7), (54, x54), (55, x55), (56, x56)] B)
def Ztq (m0 : Nat) (x3 x4 x6 x7 x54 x55 x56 : AV) (B : List Row) : Option Res := exec PP HH 22 m0 EE LL (l2 (l2 (l1 (l1 (l2 (l1 (l2 (l2 (l2 (l2 (l2 (l2 (l2 (l2 (l2 (l2 Z3G)))))))))))))))) (ZGp m0) [(3, x3), (4, x4), (6, x6), (7, x7), (54, x54), (55, x55), (56, x56)] B
def Ztr (m0 : Nat) (x3 x4 x6 x7 : AV) (B : List Row) : Option Res := exec PP HH 22 m0 EE LL (l2 (l2 (l2 (l2 (l2 (l2 (l2 (l2 (l2 (l2 (l2 Z3G))))))))))) (Z7Q m0) [(3, x3), (4, x4), (6, x6), (7, x7)] B
def ZiW (m0 : Nat) (x3 x4 x6 x7 x66 x67 x68 : AV) (B : List Row) : Option Res := lp (LL 22 m0 (l1 (l1 (l2 (l1 (l2 (l2 (l2 (l2 (l2 (l2 (l2 (l2 (l2 (l2 (l2 Z3G))))))))))))))) (Zvi m0) [(3, x3), (4, x4), (6, x6), (7, x7), (66, x66), (67, x67), (68, x68)] B)
def Zts (m0 : Nat) (x3 x4 x6 x7 x66 x67 x68 : AV) (B : List Row) : Option Res := exec PP HH 22 m0 EE LL (l2 (l2 (l1 (l1 (l2 (l1 (l2 (l2 (l2 (l2 (l2 (l2 (l2 (l2 (l2 (l2 (l2 Z3G))))))))))))))))) (Zrh m0) [(3, x3), (4, x4), (6, x6), (7, x7), (66, x66), (67, x67), (68, x68)] B
def Ztv (m0 : Nat) (x3 x4 x6 x7 : AV) (B : List Row) : Option Res := exec PP HH 22 m0 EE LL (l2 (l2 (l2 (l2 (l2 (l2 (l2 (l2 (l2 (l2 (l2 (l2 Z3G)))))))))))) (Z7Q m0) [(3, x3), (4, x4), (6, x6), (7, x7)] B
def Ztt (m0 : Nat) (x3 x4 x6 x7 x11 x66 x67 x68 : AV) (B : List Row) : Option Res := exec PP HH 22 m0 EE LL (l2 (l2 (l1 (l1 (l2 (l2 (l1 (l1 (l2 (l1 (l2 (l2 (l2 (l2 (l2 (l2 (l2 (l2 (l2 (l2 (l2 Z3G))))))))))))))))))))) (ZGs m0) [(3, x3), (4, x4), (6, x6), (7, x7), (11, x11), (66, x66), (67, x67), (68, x68)] B
def ZiX (m0 : Nat) (x4 x6 x7 x85 x86 x87 : AV) (B : List Row) : Option Res := lp (LL 22 m0 (l1 (l1 (l2 (l1 (l2 (l2 (l2 (l2 (l2 (l2 (l2 (l2 (l2 (l2 (l2 (l2 Z3G)))))))))))))))) (Ztm m0) [(4, x4), (6, x6), (7, x7), (85, x85), (86, x86), (87, x87)] B)
def Ztu (m0 : Nat) (x3 x4 x6 x7 x66 x67 x68 : AV) (B : List Row) : Option Res := exec PP HH 22 m0 EE LL (l2 (l2 (l2 (l1 (l1 (l2 (l1 (l2 (l2 (l2 (l2 (l2 (l2 (l2 (l2 (l2 (l2 (l2 Z3G)))))))))))))))))) (Zrh m0) [(3, x3), (4, x4), (6, x6), (7, x7), (66, x66), (67, x67), (68, x68)] B
def Ztw (m0 : Nat) (x4 x6 x7 x85 x86 x87 : AV) (B : List Row) : Option Res := exec PP HH 22 m0 EE LL (l2 (l2 (l1 (l1 (l2 (l1 (l2 (l2 (l2 (l2 (l2 (l2 (l2 (l2 (l2 (l2 (l2 (l2 Z3G)))))))))))))))))) (ZF9 m0) [(4, x4), (6, x6), (7, x7), (85, x85), (86, x86), (87, x87)] B
def Ztx (m0 : Nat) (x4 x6 x7 : AV) (B : List Row) : Option Res := exec PP HH 22 m0 EE LL (l2 (l2 (l2 (l2 (l2 (l2 (l2 (l2 (l2 (l2 (l2 (l2 (l2 Z3G))))))))))))) (Z7Q m0) [(4, x4), (6, x6), (7, x7)] B
def Zty (m0 : Nat) (x4 x6 x7 : AV) (B : List Row) : Option Res := exec PP HH 22 m0 EE LL (l2 (l2 (l2 (l2 (l2 (l2 (l2 (l2 (l2 (l2 (l2 (l2 (l2 (l2 Z3G)))))))))))))) (Z7Q m0) [(4, x4), (6, x6), (7, x7)] B
def ZiY (m0 : Nat) (x4 x6 x7 x103 x104 x105 : AV) (B : List Row) : Option Res := lp (LL 22 m0 (l1 (l1 (l2 (l1 (l2 (l2 (l2 (l2 (l2 (l2 (l2 (l2 (l2 (l2 (l2 (l2 (l2 (l2 (l2 Z3G))))))))))))))))))) (Ztn m0) [(4, x4), (6, x6), (7, x7), (103, x103), (104, x104), (105, x105)] B)
def Ztz (m0 : Nat) (x4 x6 x7 x103 x104 x105 : AV) (B : List Row) : Option Res := exec PP HH 22 m0 EE LL (l2 (l2 (l1 (l1 (l2 (l1 (l2 (l2 (l2 (l2 (l2 (l2 (l2 (l2 (l2 (l2 (l2 (l2 (l2 (l2 (l2 Z3G))))))))))))))))))))) (ZFb m0) [(4, x4), (6, x6), (7, x7), (103, x103), (104, x104), (105, x105)] B
def ZtA (m0 : Nat) (x4 x6 : AV) (B : List Row) : Option Res := exec PP HH 22 m0 EE LL (l2 (l2 (l2 (l2 (l2 (l2 (l2 (l2 (l2 (l2 (l2 (l2 (l2 (l2 (l2 (l2 Z3G)))))))))))))))) (Z7Q m0) [(4, x4), (6, x6)] B
theorem ZB7 m0 x2 x3 x4 B : Zvj m0 x2 x3 x4 B =
 mk (ob (ldN true 5 x2 B) fun a14 =>
 bz PP 24 B fun a15 B16 =>
 stN 5 a15 a14 B16 fun B17 =>
 mk (ob (xfld 0 a15) fun a18 =>
 ob (xfld 0 x3) fun a19 =>
 ob (ldN false 1 a19 B17) fun a20 =>
 callS false EE 49 [a18, a20] B17 fun a21 B22 =>
 mk (ob (xfld 1 a15) fun a23 =>
 ob (xfld 1 x3) fun a24 =>
 ob (ldN false 1 a24 B22) fun a25 =>
 callS false EE 49 [a23, a25] B22 fun a26 B27 =>
 mk (ob (xfld 2 a15) fun a28 =>
 ob (xfld 2 x3) fun a29 =>
 ob (ldN false 1 a29 B27) fun a30 =>
 callS false EE 49 [a28, a30] B27 fun a31 B32 =>
 mk (ob (xfld 3 a15) fun a33 =>
 ob (xfld 3 x3) fun a34 =>
 ob (ldN false 1 a34 B32) fun a35 =>
 callS false EE 49 [a33, a35] B32 fun a36 B37 =>
 mk (ob (ldN true 5 a15 B37) fun a38 =>
 callS false EE 46 [a38] B37 fun a39 B40 =>
 ob (xun PP .not a39) fun a41 =>
 asB (shr a41) fun t42 => br t42 (Zri m0 x4 (gcB m0 [x4] B40))
 (ob (xfld 4 x3) fun a43 =>
 ob (ldN false 1 a43 B40) fun a44 =>
 callS false EE 50 [a44, (.clo 27 [] [])] B40 fun a45 B46 =>
 ob (xun PP .not a45) fun a47 =>
 asB (shr a47) fun t48 => br t48 (Zri m0 x4 (gcB m0 [x4] B46))
 (Zto m0 x2 x3 x4 a15 (gcB m0 [x2, x3, x4, a15] B46))))))))) := by kernel_rfl
theorem ZB8 m0 x4 B : Zri m0 x4 B =
 mk (ob (Z1F PP 24 []) fun a49 =>
 stN 5 x4 a49 B fun B50 =>
 ZiZ x4 (iv 30) B50) := by kernel_rfl
theorem Zzz m0 x2 x3 x4 x6 B : Zto m0 x2 x3 x4 x6 B =
 mk (ob (ldN true 6 x3 B) fun a51 =>
 callS false EE 51 [a51] B fun a52 B53 =>
 asB a52 fun t54 => br t54 (mk (ob (Z1F PP 24 []) fun a55 =>
 stN 5 x4 a55 B53 fun B56 =>
 ZiZ x4 (iv 31) B56))
 (Ztp m0 x2 x3 x4 x6 (gcB m0 [x2, x3, x4, x6] B53))) := by kernel_rfl
theorem ZzA m0 x2 x3 x4 x6 B : Ztp m0 x2 x3 x4 x6 B =
 mk (xmake PP 110 B fun a57 B58 =>
 mk (ob (xfld 4 x2) fun a59 =>
 ob (ldN false 1 a59 B58) fun a60 =>
 ob (xlen PP 22 a60) fun a61 =>
 ZiV m0 x3 x4 x6 (shr a57) a60 a61 (iv 0) (gcB m0 [x3, x4, x6, (shr a57), a60, a61, (iv 0)] B58))) := by kernel_rfl
theorem Zzv m0 x3 x4 x6 x7 x54 x55 x56 B : ZiV m0 x3 x4 x6 x7 x54 x55 x56 B =
 mk (ob (xbin PP .lss 3 x56 x55) fun a62 =>
 asB a62 fun t63 => br t63 (Ztq m0 x3 x4 x6 x7 x54 x55 x56 (gcB m0 [x3, x4, x6, x7, x54, x55, x56] B))
 (Ztr m0 x3 x4 x6 x7 (gcB m0 [x3, x4, x6, x7] B))) := (L_eq PP XX HH _ _ _ _ _ _).trans (by kernel_rfl)
theorem ZzB m0 x3 x4 x6 x7 x54 x55 x56 B : Ztq m0 x3 x4 x6 x7 x54 x55 x56 B =
 mk (ob (xidx 5 x54 x56) fun a64 =>
 ob (ldN true 5 a64 B) fun a65 =>
 bz PP 43 B fun a66 B67 =>
 stN 5 a66 a65 B67 fun B68 =>
 mk (ob (xfld 0 a66) fun a69 =>
 ob (ldN false 1 a69 B68) fun a70 =>
 ob (ldN true 5 a66 B68) fun a71 =>
 xupd PP 110 (shr x7) a70 a71 B68 fun B72 =>
 mk (ob (xbin PP .add 3 x56 (iv 1)) fun a73 =>
 ZiV m0 x3 x4 x6 x7 x54 x55 (shr a73) (gcB m0 [x3, x4, x6, x7, x54, x55, (shr a73)] B72)))) := by kernel_rfl
theorem ZzC m0 x3 x4 x6 x7 B : Ztr m0 x3 x4 x6 x7 B =
 mk (ob (xfld 5 x3) fun a74 =>
 ob (ldN false 1 a74 B) fun a75 =>
 ob (xlen PP 27 a75) fun a76 =>
 ZiW m0 x3 x4 x6 x7 a75 a76 (iv 0) (gcB m0 [x3, x4, x6, x7, a75, a76, (iv 0)] B)) := by kernel_rfl
theorem Zzw m0 x3 x4 x6 x7 x66 x67 x68 B : ZiW m0 x3 x4 x6 x7 x66 x67 x68 B =
 mk (ob (xbin PP .lss 3 x68 x67) fun a77 =>
 asB a77 fun t78 => br t78 (Zts m0 x3 x4 x6 x7 x66 x67 x68 (gcB m0 [x3, x4, x6, x7, x66, x67, x68] B))
 (Ztv m0 x3 x4 x6 x7 (gcB m0 [x3, x4, x6, x7] B))) := (L_eq PP XX HH _ _ _ _ _ _).trans (by kernel_rfl)
theorem ZzD m0 x3 x4 x6 x7 x66 x67 x68 B : Zts m0 x3 x4 x6 x7 x66 x67 x68 B =
 mk (ob (xidx 1 x66 x68) fun a79 =>
 ob (ldN false 1 a79 B) fun a80 =>
 mk (ob (Zg1 PP 110 true (shr x7) (shr (shr a80)) B) fun a81 =>
 ob (xext 0 (shr a81)) fun a82 =>
 ob (xext 1 (shr a81)) fun a83 =>
 bz PP 43 B fun a84 B85 =>
 stN 5 a84 (shr a82) B85 fun B86 =>
 mk (ob (xun PP .not (shr (shr (shr a83)))) fun a87 =>
 asB a87 fun t88 => br t88 (mk (ob (Z1F PP 24 []) fun a89 =>
 stN 5 x4 a89 B86 fun B90 =>
 ZiZ x4 (iv 32) B90))
 (Ztt m0 x3 x4 x6 x7 (shr a80) x66 x67 x68 (gcB m0 [x3, x4, x6, x7, (shr a80), x66, x67, x68] B86))))) := by kernel_rfl
theorem ZzG m0 x3 x4 x6 x7 B : Ztv m0 x3 x4 x6 x7 B =
 mk (ob (xfld 4 x3) fun a91 =>
 ob (ldN false 1 a91 B) fun a92 =>
 ob (xlen PP 22 a92) fun a93 =>
 ZiX m0 x4 x6 x7 a92 a93 (iv 0) (gcB m0 [x4, x6, x7, a92, a93, (iv 0)] B)) := by kernel_rfl
theorem ZzE m0 x3 x4 x6 x7 x11 x66 x67 x68 B : Ztt m0 x3 x4 x6 x7 x11 x66 x67 x68 B =
 mk (xdel PP 110 (shr x7) (shr x11) B fun B94 =>
 Ztu m0 x3 x4 x6 x7 x66 x67 x68 (gcB m0 [x3, x4, x6, x7, x66, x67, x68] B94)) := by kernel_rfl
theorem Zzx m0 x4 x6 x7 x85 x86 x87 B : ZiX m0 x4 x6 x7 x85 x86 x87 B =
 mk (ob (xbin PP .lss 3 x87 x86) fun a95 =>
 asB a95 fun t96 => br t96 (Ztw m0 x4 x6 x7 x85 x86 x87 (gcB m0 [x4, x6, x7, x85, x86, x87] B))
 (Ztx m0 x4 x6 x7 (gcB m0 [x4, x6, x7] B))) := (L_eq PP XX HH _ _ _ _ _ _).trans (by kernel_rfl)
theorem ZzF m0 x3 x4 x6 x7 x66 x67 x68 B : Ztu m0 x3 x4 x6 x7 x66 x67 x68 B =
 mk (ob (xbin PP .add 3 x68 (iv 1)) fun a97 =>
 ZiW m0 x3 x4 x6 x7 x66 x67 (shr a97) (gcB m0 [x3, x4, x6, x7, x66, x67, (shr a97)] B)) := by kernel_rfl
theorem ZzH m0 x4 x6 x7 x85 x86 x87 B : Ztw m0 x4 x6 x7 x85 x86 x87 B =
 mk (ob (xidx 5 x85 x87) fun a98 =>
 ob (ldN true 5 a98 B) fun a99 =>
 bz PP 43 B fun a100 B101 =>
 stN 5 a100 a99 B101 fun B102 =>
 mk (ob (xfld 0 a100) fun a103 =>
 ob (ldN false 1 a103 B102) fun a104 =>
 ob (ldN true 5 a100 B102) fun a105 =>
 xupd PP 110 (shr x7) a104 a105 B102 fun B106 =>
 mk (ob (xbin PP .add 3 x87 (iv 1)) fun a107 =>
 ZiX m0 x4 x6 x7 x85 x86 (shr a107) (gcB m0 [x4, x6, x7, x85, x86, (shr a107)] B106)))) := by kernel_rfl
theorem ZzI m0 x4 x6 x7 B : Ztx m0 x4 x6 x7 B =
 mk (ob (ZnB (shr x7) B) fun a108 =>
 ob (xbin PP .gtr 3 a108 (iv 16)) fun a109 =>
 asB a109 fun t110 => br t110 (mk (ob (Z1F PP 24 []) fun a111 =>
 stN 5 x4 a111 B fun B112 =>
 ZiZ x4 (iv 33) B112))
 (Zty m0 x4 x6 x7 (gcB m0 [x4, x6, x7] B))) := by kernel_rfl
theorem ZzJ m0 x4 x6 x7 B : Zty m0 x4 x6 x7 B =
 mk (ob (xfld 4 x6) fun a113 =>
 stN 1 a113 nilA B fun B114 =>
 mk (callS false EE 53 [(shr x7)] B114 fun a115 B116 =>
 callS false EE 52 [a115] B116 fun a117 B118 =>
 ob (xlen PP 27 a117) fun a119 =>
 ZiY m0 x4 x6 x7 a117 a119 (iv 0) (gcB m0 [x4, x6, x7, a117, a119, (iv 0)] B118))) := by kernel_rfl
theorem Zzy m0 x4 x6 x7 x103 x104 x105 B : ZiY m0 x4 x6 x7 x103 x104 x105 B =
 mk (ob (xbin PP .lss 3 x105 x104) fun a120 =>
 asB a120 fun t121 => br t121 (Ztz m0 x4 x6 x7 x103 x104 x105 (gcB m0 [x4, x6, x7, x103, x104, x105] B))
 (ZtA m0 x4 x6 (gcB m0 [x4, x6] B))) := (L_eq PP XX HH _ _ _ _ _ _).trans (by kernel_rfl)
theorem ZzK m0 x4 x6 x7 x103 x104 x105 B : Ztz m0 x4 x6 x7 x103 x104 x105 B =
 mk (ob (xidx 1 x103 x105) fun a122 =>
 ob (ldN false 1 a122 B) fun a123 =>
 mk (ob (xfld 4 x6) fun a124 =>
 ldOwn a124 B fun a125 B126 =>
 ob (Zg1 PP 110 false (shr x7) (shr (shr a123)) B126) fun a127 =>
 ob (xlit PP 22 1 [(0, a127)]) fun a128 =>
 ob (xapp 5 a125 a128) fun a129 =>
 ob (xfld 4 x6) fun a130 =>
 stN 1 a130 a129 B126 fun B131 =>
 mk (ob (xbin PP .add 3 x105 (iv 1)) fun a132 =>
 ZiY m0 x4 x6 x7 x103 x104 (shr a132) (gcB m0 [x4, x6, x7, x103, x104, (shr a132)] B131)))) := by kernel_rfl
theorem ZzL m0 x4 x6 B : ZtA m0 x4 x6 B =
 mk (ob (ldN true 5 x6 B) fun a133 =>
 stN 5 x4 a133 B fun B134 =>
 ZiZ x4 (iv 0) B134) := by kernel_rfl
theorem ZGm x0 x1 B : EE 22 [x0, x1] B =
 (let m0 := B.length
 mk (bx x0 B fun a1 B2 =>
 bx x1 B2 fun a3 B4 =>
 bz PP 24 B4 fun a5 B6 =>
 mk (ob (ldN true 5 a1 B6) fun a7 =>
 callS false EE 20 [a7] B6 fun a8 B9 =>
 ob (xun PP .not a8) fun a10 =>
 asB a10 fun t11 => br t11 (mk (ob (Z1F PP 24 []) fun a12 =>
 stN 5 a5 a12 B9 fun B13 =>
 ZiZ a5 (iv 10) B13))
 (Zvj m0 a1 a3 a5 (gcB m0 [a1, a3, a5] B9))))) := (E_eq PP XX HH _ _ _).trans (by kernel_rfl)
def Zd4 (r0 : AV) (B : List Row) : Option Res :=
 ob (ob (some r0) fun v => ob (some []) fun vs => some (v :: vs)) fun vs => some ((nrmA (match vs with | [v] => v | vs => Z1Q (vs.map shr))), B)
theorem ZGt x0 B : EE 27 [x0] B =
 (let m0 := B.length
 mk (bx x0 B fun a1 B2 =>
 mk (ob (xfld 0 a1) fun a3 =>
 ob (ldN false 1 a3 B2) fun a4 =>
 ob (xbin PP .geq 3 a4 (iv 1)) fun a5 =>
 asB (shr a5) fun t6 => br t6 (ob (xfld 0 a1) fun a7 =>
 ob (ldN false 1 a7 B2) fun a8 =>
 ob (xbin PP .leq 3 a8 (iv 1099511627776)) fun a9 =>
 asB (shr (shr a9)) fun t10 => br t10 (ob (xfld 1 a1) fun a11 =>
 ob (ldN false 1 a11 B2) fun a12 =>
 ob (xbin PP .geq 3 a12 (iv 0)) fun a13 =>
 asB (shr (shr a13)) fun t14 => br t14 (ob (xfld 1 a1) fun a15 =>
 ob (ldN false 1 a15 B2) fun a16 =>
 ob (xbin PP .leq 3 a16 (iv 1000)) fun a17 =>
 asB (shr (shr a17)) fun t18 => br t18 (ob (xfld 2 a1) fun a19 =>
 ob (ldN false 1 a19 B2) fun a20 =>
 ob (xbin PP .geq 3 a20 (iv 0)) fun a21 =>
 asB (shr (shr a21)) fun t22 => br t22 (ob (xfld 2 a1) fun a23 =>
 ob (ldN false 1 a23 B2) fun a24 =>
 ob (xbin PP .leq 3 a24 (iv 255)) fun a25 =>
 asB (shr (shr a25)) fun t26 => br t26 (ob (xfld 3 a1) fun a27 =>
 ob (ldN false 1 a27 B2) fun a28 =>
 ob (xbin PP .geq 3 a28 (iv 1)) fun a29 =>
 asB (shr (shr a29)) fun t30 => br t30 (ob (xfld 3 a1) fun a31 =>
 ob (ldN false 1 a31 B2) fun a32 =>
 ob (xbin PP .leq 3 a32 (iv 65535)) fun a33 =>
 asB (shr (shr a33)) fun t34 => br t34 (ob (xfld 4 a1) fun a35 =>
 ob (ldN false 1 a35 B2) fun a36 =>
 ob (xlen PP 9 a36) fun a37 =>
 ob (xbin PP .leq 3 a37 (iv 256)) fun a38 =>
 Zd4 (shr (shr a38)) B2)
 (Zd4 (bv false) B2))
 (Zd4 (bv false) B2))
 (Zd4 (bv false) B2))
 (Zd4 (bv false) B2))
 (Zd4 (bv false) B2))
 (Zd4 (bv false) B2))
 (Zd4 (bv false) B2))
 (Zd4 (bv false) B2)))) := (E_eq PP XX HH _ _ _).trans (by kernel_rfl)
def ZFc (r0 : AV) (B : List Row) : Option Res :=
 ob (ob (ldN true 5 r0 B) fun v => ob (some []) fun vs => some (v :: vs)) fun vs => some ((nrmA (match vs with | [v] => v | vs => Z1Q (vs.map shr))), B)
theorem ZGu B : EE 43 [] B =
 (let m0 := B.length
 mk (bz PP 24 B fun a1 B2 =>
 mk (ob (Z1F PP 24 [(1, (iv 255)), (2, (iv 10000)), (3, (iv 500))]) fun a3 =>
 stN 5 a1 a3 B2 fun B4 =>
 ZFc a1 B4))) := (E_eq PP XX HH _ _ _).trans (by kernel_rfl)
def Zf0 (r0 : AV) (B : List Row) : Option Res :=
 ob (ob (some r0) fun v => ob (some []) fun vs => some (v :: vs)) fun vs => some ((nrmA (match vs with | [v] => v | vs => Z1Q (vs.map shr))), B)
theorem ZGv x0 B : EE 46 [x0] B =
 (let m0 := B.length
 mk (bx x0 B fun a1 B2 =>
 mk (ob (xfld 0 a1) fun a3 =>
 ob (ldN false 1 a3 B2) fun a4 =>
 ob (xbin PP .geq 3 a4 (iv 0)) fun a5 =>
 asB (shr a5) fun t6 => br t6 (ob (xfld 0 a1) fun a7 =>
 ob (ldN false 1 a7 B2) fun a8 =>
 ob (xbin PP .leq 3 a8 (iv 255)) fun a9 =>
 asB (shr (shr a9)) fun t10 => br t10 (ob (xfld 1 a1) fun a11 =>
 ob (ldN false 1 a11 B2) fun a12 =>
 ob (xbin PP .geq 3 a12 (iv 0)) fun a13 =>
 asB (shr (shr a13)) fun t14 => br t14 (ob (xfld 1 a1) fun a15 =>
 ob (ldN false 1 a15 B2) fun a16 =>
 ob (xbin PP .leq 3 a16 (iv 255)) fun a17 =>
 asB (shr (shr a17)) fun t18 => br t18 (ob (xfld 2 a1) fun a19 =>
 ob (ldN false 1 a19 B2) fun a20 =>
 ob (xbin PP .geq 3 a20 (iv 1)) fun a21 =>
 asB (shr (shr a21)) fun t22 => br t22 (ob (xfld 2 a1) fun a23 =>
 ob (ldN false 1 a23 B2) fun a24 =>
 ob (xbin PP .leq 3 a24 (iv 1048576)) fun a25 =>
 asB (shr (shr a25)) fun t26 => br t26 (ob (xfld 3 a1) fun a27 =>
 ob (ldN false 1 a27 B2) fun a28 =>
 ob (xbin PP .geq 3 a28 (iv 0)) fun a29 =>
 asB (shr (shr a29)) fun t30 => br t30 (ob (xfld 3 a1) fun a31 =>
 ob (ldN false 1 a31 B2) fun a32 =>
 ob (xbin PP .leq 3 a32 (iv 4096)) fun a33 =>
 Zf0 (shr (shr a33)) B2)
 (Zf0 (bv false) B2))
 (Zf0 (bv false) B2))
 (Zf0 (bv false) B2))
 (Zf0 (bv false) B2))
 (Zf0 (bv false) B2))
 (Zf0 (bv false) B2))
 (Zf0 (bv false) B2)))) := (E_eq PP XX HH _ _ _).trans (by kernel_rfl)
def Zcd : Code := Z2I Tryz.f47
def ZtE (r0 r1 : AV) (B : List Row) : Option Res :=
 ob (ob (ldN true 9 r0 B) fun v => ob (ob (ldN true 2 r1 B) fun v => ob (some []) fun vs => some (v :: vs)) fun vs => some (v :: vs)) fun vs => some ((nrmA (match vs with | [v] => v | vs => Z1Q (vs.map shr))), B)
def Zhk (m0 : Nat) : Kont := kret PP HH 47 Tryz.f47.results
def ZGx (m0 : Nat) : Kont := kseq HH 47 m0 (l2 (l2 (l2 (l2 (l2 (l2 Zcd)))))) (exec PP HH 47 m0 EE LL (l2 (l2 (l2 (l2 (l2 (l2 Zcd)))))) (Zhk m0)) (Zhk m0)
def ZGy (m0 : Nat) : Kont := kseq HH 47 m0 (l2 (l2 (l2 (l2 (l2 (l2 (l2 Zcd))))))) (exec PP HH 47 m0 EE LL (l2 (l2 (l2 (l2 (l2 (l2 (l2 Zcd))))))) (Zhk m0)) (Zhk m0)
def Zvk (m0 : Nat) : Kont := kblk 0 (ZGy m0)
def ZB9 (m0 : Nat) : Kont := kloop HH 47 m0 (l1 (l1 (l2 (l1 (l2 (l2 (l2 (l2 (l2 (l2 Zcd)))))))))) (LL 47 m0 (l1 (l1 (l2 (l1 (l2 (l2 (l2 (l2 (l2 (l2 Zcd)))))))))) (Zvk m0)) (Zvk m0)
def Zvl (m0 : Nat) (x0 x2 x3 : AV) (B : List Row) : Option Res := exec PP HH 47 m0 EE LL (l2 (l2 Zcd)) (Zhk m0) [(0, x0), (2, x2), (3, x3)] B
def Zvm (m0 : Nat) (x2 x3 x4 x5 : AV) (B : List Row) : Option Res := exec PP HH 47 m0 EE LL (l1 (l2 (l1 (l2 (l2 (l2 (l2 (l2 Zcd)))))))) (ZGx m0) [(2, x2), (3, x3), (4, x4), (5, x5)] B
def Zo7 (m0 : Nat) (x2 x3 x4 x5 : AV) (B : List Row) : Option Res := exec PP HH 47 m0 EE LL (l2 (l2 (l2 (l2 (l2 (l2 Zcd)))))) (Zhk m0) [(2, x2), (3, x3), (4, x4), (5, x5)] B
def Zlm (m0 : Nat) (x2 x3 x4 x5 x50 x51 x52 : AV) (B : List Row) : Option Res := lp (LL 47 m0 (l1 (l1 (l2 (l1 (l2 (l2 (l2 (l2 (l2 (l2 Zcd)))))))))) (Zvk m0) [(2, x2), (3, x3), (4, x4), (5, x5), (50, x50), (51, x51), (52, x52)] B)
def ZtB (m0 : Nat) (x2 x3 x4 x5 x50 x51 x52 : AV) (B : List Row) : Option Res := exec PP HH 47 m0 EE LL (l2 (l2 (l1 (l1 (l2 (l1 (l2 (l2 (l2 (l2 (l2 (l2 Zcd)))))))))))) (ZB9 m0) [(2, x2), (3, x3), (4, x4), (5, x5), (50, x50), (51, x51), (52, x52)] B
def ZtC (m0 : Nat) (x2 x3 x4 x5 : AV) (B : List Row) : Option Res := exec PP HH 47 m0 EE LL (l2 (l2 (l2 (l2 (l2 (l2 (l2 Zcd))))))) (Zhk m0) [(2, x2), (3, x3), (4, x4), (5, x5)] B
def Zpa (m0 : Nat) (x2 x3 x4 x5 x50 x51 x52 : AV) (B : List Row) : Option Res := exec PP HH 47 m0 EE LL (l2 (l2 (l2 (l1 (l1 (l2 (l1 (l2 (l2 (l2 (l2 (l2 (l2 Zcd))))))))))))) (ZB9 m0) [(2, x2), (3, x3), (4, x4), (5, x5), (50, x50), (51, x51), (52, x52)] B
def ZtD (m0 : Nat) (x2 x3 x4 x5 : AV) (B : List Row) : Option Res := exec PP HH 47 m0 EE LL (l2 (l2 (l2 (l2 (l2 (l2 (l2 (l2 Zcd)))))))) (Zhk m0) [(2, x2), (3, x3), (4, x4), (5, x5)] B
theorem ZBb m0 x0 x2 x3 B : Zvl m0 x0 x2 x3 B =
 mk (ob (xcnv PP 9 141 (shr x0)) fun a12 =>
 ob (Z1F PP 144 [(0, a12)]) fun a13 =>
 bx a13 B fun a14 B15 =>
 mk (callS false EE 68 [(shr (shr a14)), (.p (.v (.string (ByteArray.mk #[40, 63, 105, 41]))))] B15 fun a16 B17 =>
 ob (Z1F PP 100 [(2, a16)]) fun a18 =>
 bz PP 100 B17 fun a19 B20 =>
 stN 9 a19 a18 B20 fun B21 =>
 mk (callS false EE 69 [(shr (shr a14))] B21 fun a22 B23 =>
 ob (xfld 0 a19) fun a24 =>
 stN 7 a24 a22 B23 fun B25 =>
 mk (ob (Z1Z (shr (shr a14))) fun a26 =>
 ob (xfld 5 a26) fun a27 =>
 ob (xfld 0 a27) fun a28 =>
 ob (ldN false 1 a28 B25) fun a29 =>
 ob (xbin PP .eql 30 a29 (iv 0)) fun a30 =>
 asB (shr a30) fun t31 => br t31 (ob (Z1Z (shr (shr a14))) fun a32 =>
 ob (xfld 1 a32) fun a33 =>
 ob (ldN false 1 a33 B25) fun a34 =>
 ob (Z1Z (shr (shr a14))) fun a35 =>
 ob (xfld 0 a35) fun a36 =>
 ob (ldN false 1 a36 B25) fun a37 =>
 ob (xlen PP 141 a37) fun a38 =>
 ob (xbin PP .lss 3 a34 a38) fun a39 =>
 asB (shr a39) fun t40 => br t40 (Zvm m0 x2 x3 (shr a14) a19 (gcB m0 [x2, x3, (shr a14), a19] B25))
 (Zo7 m0 x2 x3 (shr a14) a19 (gcB m0 [x2, x3, (shr a14), a19] B25)))
 (Zo7 m0 x2 x3 (shr a14) a19 (gcB m0 [x2, x3, (shr a14), a19] B25)))))) := by kernel_rfl
theorem ZBc m0 x2 x3 x4 x5 B : Zvm m0 x2 x3 x4 x5 B =
 mk (ob (Z1Z (shr x4)) fun a41 =>
 ob (xfld 1 a41) fun a42 =>
 ob (ldN false 1 a42 B) fun a43 =>
 callS false EE 70 [(shr x4), (iv 20), a43] B fun a44 B45 =>
 Zo7 m0 x2 x3 x4 x5 (gcB m0 [x2, x3, x4, x5] B45)) := by kernel_rfl
theorem ZBd m0 x2 x3 x4 x5 B : Zo7 m0 x2 x3 x4 x5 B =
 mk (ob (Z1Z (shr x4)) fun a46 =>
 ob (xfld 4 a46) fun a47 =>
 ob (ldN false 1 a47 B) fun a48 =>
 ob (xlen PP 142 a48) fun a49 =>
 Zlm m0 x2 x3 x4 x5 a48 a49 (iv 0) (gcB m0 [x2, x3, x4, x5, a48, a49, (iv 0)] B)) := by kernel_rfl
theorem ZBa m0 x2 x3 x4 x5 x50 x51 x52 B : Zlm m0 x2 x3 x4 x5 x50 x51 x52 B =
 mk (ob (xbin PP .lss 3 x52 x51) fun a50 =>
 asB a50 fun t51 => br t51 (ZtB m0 x2 x3 x4 x5 x50 x51 x52 (gcB m0 [x2, x3, x4, x5, x50, x51, x52] B))
 (ZtC m0 x2 x3 x4 x5 (gcB m0 [x2, x3, x4, x5] B))) := (L_eq PP XX HH _ _ _ _ _ _).trans (by kernel_rfl)
theorem ZzM m0 x2 x3 x4 x5 x50 x51 x52 B : ZtB m0 x2 x3 x4 x5 x50 x51 x52 B =
 mk (ob (xidx 2 x50 x52) fun a52 =>
 ob (ldN true 2 a52 B) fun a53 =>
 bz PP 149 B fun a54 B55 =>
 stN 2 a54 a53 B55 fun B56 =>
 mk (ob (xfld 0 a54) fun a57 =>
 ob (ldN false 1 a57 B56) fun a58 =>
 ob (Z1Z (shr x4)) fun a59 =>
 ob (xfld 2 a59) fun a60 =>
 ob (ldN false 1 a60 B56) fun a61 =>
 ob (xbin PP .gtr 3 a58 a61) fun a62 =>
 asB a62 fun t63 => br t63 (mk (ob (xfld 1 a54) fun a64 =>
 ob (ldN false 1 a64 B56) fun a65 =>
 callS false EE 70 [(shr x4), (iv 26), a65] B56 fun a66 B67 =>
 Zpa m0 x2 x3 x4 x5 x50 x51 x52 (gcB m0 [x2, x3, x4, x5, x50, x51, x52] B67)))
 (Zpa m0 x2 x3 x4 x5 x50 x51 x52 (gcB m0 [x2, x3, x4, x5, x50, x51, x52] B56)))) := by kernel_rfl
theorem ZzO m0 x2 x3 x4 x5 B : ZtC m0 x2 x3 x4 x5 B =
 mk (ob (Z1Z (shr x4)) fun a68 =>
 ob (xfld 5 a68) fun a69 =>
 ob (xfld 0 a69) fun a70 =>
 ob (ldN false 1 a70 B) fun a71 =>
 ob (xbin PP .neq 30 a71 (iv 0)) fun a72 =>
 asB a72 fun t73 => br t73 (mk (ob (Z1F PP 100 []) fun a74 =>
 ob (Z1Z (shr x4)) fun a75 =>
 ob (xfld 5 a75) fun a76 =>
 ob (ldN true 2 a76 B) fun a77 =>
 stN 9 x2 a74 B fun B78 =>
 stN 2 x3 a77 B78 fun B79 =>
 grd (ZbJ a76 x2) (ZtE x2 x3 B79)))
 (ZtD m0 x2 x3 x4 x5 (gcB m0 [x2, x3, x4, x5] B))) := by kernel_rfl
theorem ZzN m0 x2 x3 x4 x5 x50 x51 x52 B : Zpa m0 x2 x3 x4 x5 x50 x51 x52 B =
 mk (ob (xbin PP .add 3 x52 (iv 1)) fun a80 =>
 Zlm m0 x2 x3 x4 x5 x50 x51 (shr a80) (gcB m0 [x2, x3, x4, x5, x50, x51, (shr a80)] B)) := by kernel_rfl
theorem ZzP m0 x2 x3 x4 x5 B : ZtD m0 x2 x3 x4 x5 B =
 mk (ob (Z1Z (shr x4)) fun a81 =>
 ob (xfld 2 a81) fun a82 =>
 ob (ldN false 1 a82 B) fun a83 =>
 ob (xfld 7 x5) fun a84 =>
 stN 1 a84 a83 B fun B85 =>
 mk (ob (ldN true 9 x5 B85) fun a86 =>
 ob (Z1F PP 102 []) fun a87 =>
 stN 9 x2 a86 B85 fun B88 =>
 stN 2 x3 a87 B88 fun B89 =>
 ZtE x2 x3 B89)) := by kernel_rfl
theorem ZGw x0 B : EE 47 [x0] B =
 (let m0 := B.length
 mk (bz PP 100 B fun a1 B2 =>
 bz PP 102 B2 fun a3 B4 =>
 mk (ob (xlen PP 9 (shr x0)) fun a5 =>
 ob (xbin PP .gtr 3 a5 (iv 256)) fun a6 =>
 asB a6 fun t7 => br t7 (mk (ob (Z1F PP 100 []) fun a8 =>
 ob (Z1F PP 102 [(0, (iv 12))]) fun a9 =>
 stN 9 a1 a8 B4 fun B10 =>
 stN 2 a3 a9 B10 fun B11 =>
 ZtE a1 a3 B11))
 (Zvl m0 x0 a1 a3 (gcB m0 [x0, a1, a3] B4))))) := (E_eq PP XX HH _ _ _).trans (by kernel_rfl)
def ZHn : Code := Z2I Tryz.f48
def ZtF (r0 : AV) (B : List Row) : Option Res :=
 ob (ob (some r0) fun v => ob (some []) fun vs => some (v :: vs)) fun vs => some ((nrmA (match vs with | [v] => v | vs => Z1Q (vs.map shr))), B)
def ZGA (m0 : Nat) : Kont := kret PP HH 48 Tryz.f48.results
def Zvn (m0 : Nat) (B : List Row) : Option Res := exec PP HH 48 m0 EE LL (l2 (l2 ZHn)) (ZGA m0) [] B
theorem ZBe m0 B : Zvn m0  B =
 mk (ZtF (iv 0) B) := by kernel_rfl
theorem ZGz x0 B : EE 48 [x0] B =
 (let m0 := B.length
 mk (bx x0 B fun a1 B2 =>
 mk (ob (xfld 0 a1) fun a3 =>
 ob (ldN true 7 a3 B2) fun a4 =>
 callS false EE 71 [a4] B2 fun a5 B6 =>
 ob (xun PP .not a5) fun a7 =>
 asB (shr a7) fun t8 => br t8 (mk (ZtF (iv 27) B6))
 (mk (ob (xfld 0 a1) fun a9 =>
 ob (ldN true 7 a9 B6) fun a10 =>
 callS false EE 72 [a10] B6 fun a11 B12 =>
 ob (xbin PP .add 3 a11 (iv 3)) fun a13 =>
 ob (xbin PP .gtr 3 a13 (iv 2000)) fun a14 =>
 asB (shr a14) fun t15 => br t15 (mk (ZtF (iv 28) B12))
 (Zvn m0  (gcB m0 [] B12))))))) := (E_eq PP XX HH _ _ _).trans (by kernel_rfl)
def ZxL (B : List Row) : Option Res :=
 ob (some []) fun vs => some ((nrmA (match vs with | [v] => v | vs => Z1Q (vs.map shr))), B)
theorem Zrj x0 x1 B : EE 49 [x0, x1] B =
 (let m0 := B.length
 mk (ob (xbin PP .neq 3 (shr x1) (iv (-1))) fun a1 =>
 asB a1 fun t2 => br t2 (mk (ob (Z1Z (shr x0)) fun a3 =>
 stN 1 a3 (shr x1) B fun B4 =>
 ZxL  B4))
 (ZxL  B))) := (E_eq PP XX HH _ _ _).trans (by kernel_rfl)
def ZFd (r0 : AV) (B : List Row) : Option Res :=
 ob (ob (some r0) fun v => ob (some []) fun vs => some (v :: vs)) fun vs => some ((nrmA (match vs with | [v] => v | vs => Z1Q (vs.map shr))), B)
theorem ZGB x0 x1 B : EE 50 [x0, x1] B =
 (let m0 := B.length
 mk (bx x1 B fun a1 B2 =>
 mk (callS false EE 57 [(shr x0), (.clo 73 ([].map nrmA) ([a1].map nrmA))] B2 fun a3 B4 =>
 ob (xun PP .not a3) fun a5 =>
 ZFd (shr a5) B4))) := (E_eq PP XX HH _ _ _).trans (by kernel_rfl)
def ZxM (r0 : AV) (B : List Row) : Option Res :=
 ob (ob (some r0) fun v => ob (some []) fun vs => some (v :: vs)) fun vs => some ((nrmA (match vs with | [v] => v | vs => Z1Q (vs.map shr))), B)
theorem ZGC x0 B : EE 51 [x0] B =
 (let m0 := B.length
 mk (bx x0 B fun a1 B2 =>
 mk (xmake PP 152 B2 fun a3 B4 =>
 bz PP 152 B4 fun a5 B6 =>
 stN 1 a5 a3 B6 fun B7 =>
 mk (bz PP 120 B7 fun a8 B9 =>
 stN 1 a8 (.clo 74 ([].map nrmA) ([a5].map nrmA)) B9 fun B10 =>
 mk (ob (xfld 4 a1) fun a11 =>
 ob (ldN false 1 a11 B10) fun a12 =>
 callS false EE 57 [a12, (.clo 75 ([].map nrmA) ([a8].map nrmA))] B10 fun a13 B14 =>
 asB (shr a13) fun t15 => br t15 (ZxM (bv true) B14)
 (ob (xfld 5 a1) fun a16 =>
 ob (ldN false 1 a16 B14) fun a17 =>
 ob (ldN false 1 a8 B14) fun a18 =>
 callS false EE 59 [a17, a18] B14 fun a19 B20 =>
 ZxM (shr (shr a19)) B20)))))) := (E_eq PP XX HH _ _ _).trans (by kernel_rfl)
def ZFe (r0 : AV) (B : List Row) : Option Res :=
 ob (ob (some r0) fun v => ob (some []) fun vs => some (v :: vs)) fun vs => some ((nrmA (match vs with | [v] => v | vs => Z1Q (vs.map shr))), B)
theorem ZGD x0 B : EE 53 [x0] B =
 (let m0 := B.length
 mk (bx x0 B fun a1 B2 =>
 mk (ZFe (shr (.clo 78 ([].map nrmA) ([a1].map nrmA))) B2))) := (E_eq PP XX HH _ _ _).trans (by kernel_rfl)
def ZFf (r0 : AV) (B : List Row) : Option Res :=
 ob (ob (some r0) fun v => ob (some []) fun vs => some (v :: vs)) fun vs => some ((nrmA (match vs with | [v] => v | vs => Z1Q (vs.map shr))), B)
theorem ZBk x0 x1 B : EE 57 [x0, x1] B =
 (let m0 := B.length
 mk (mk (callS false EE 83 [(shr x0), (shr x1)] B fun a1 B2 =>
 ob (xbin PP .geq 3 a1 (iv 0)) fun a3 =>
 ZFf (shr a3) B2))) := (E_eq PP XX HH _ _ _).trans (by kernel_rfl)
def ZFg (r0 : AV) (B : List Row) : Option Res :=
 ob (ob (some r0) fun v => ob (some []) fun vs => some (v :: vs)) fun vs => some ((nrmA (match vs with | [v] => v | vs => Z1Q (vs.map shr))), B)
theorem ZGE x0 x1 B : EE 59 [x0, x1] B =
 (let m0 := B.length
 mk (mk (callS false EE 84 [(shr x0), (shr x1)] B fun a1 B2 =>
 ob (xbin PP .geq 3 a1 (iv 0)) fun a3 =>
 ZFg (shr a3) B2))) := (E_eq PP XX HH _ _ _).trans (by kernel_rfl)
def Zuy : Code := Z2I Tryz.f68
def ZxN (r0 : AV) (B : List Row) : Option Res :=
 ob (ob (some r0) fun v => ob (some []) fun vs => some (v :: vs)) fun vs => some ((nrmA (match vs with | [v] => v | vs => Z1Q (vs.map shr))), B)
def Zvt (m0 : Nat) : Kont := kret PP HH 68 Tryz.f68.results
def ZGG (m0 : Nat) : Kont := kseq HH 68 m0 (l2 (l2 Zuy)) (exec PP HH 68 m0 EE LL (l2 (l2 Zuy)) (Zvt m0)) (Zvt m0)
def Zrk (m0 : Nat) (B : List Row) : Option Res := exec PP HH 68 m0 EE LL (l1 (l2 (l1 (l2 Zuy)))) (ZGG m0) [] B
def Zvu (m0 : Nat) (x0 x1 : AV) (B : List Row) : Option Res := exec PP HH 68 m0 EE LL (l2 (l2 Zuy)) (Zvt m0) [(0, x0), (1, x1)] B
theorem ZBl m0 B : Zrk m0  B =
 mk (ZxN (bv false) B) := by kernel_rfl
theorem ZBm m0 x0 x1 B : Zvu m0 x0 x1 B =
 mk (ob (Z1Z (shr x0)) fun a27 =>
 ob (xfld 1 a27) fun a28 =>
 ob (ldN false 1 a28 B) fun a29 =>
 ob (xlen PP 9 (shr x1)) fun a30 =>
 ob (xbin PP .add 3 a29 a30) fun a31 =>
 ob (Z1Z (shr x0)) fun a32 =>
 ob (xfld 1 a32) fun a33 =>
 stN 1 a33 a31 B fun B34 =>
 mk (ZxN (bv true) B34)) := by kernel_rfl
theorem ZGF x0 x1 B : EE 68 [x0, x1] B =
 (let m0 := B.length
 mk (mk (ob (Z1Z (shr x0)) fun a1 =>
 ob (xfld 0 a1) fun a2 =>
 ob (ldN false 1 a2 B) fun a3 =>
 ob (xlen PP 141 a3) fun a4 =>
 ob (Z1Z (shr x0)) fun a5 =>
 ob (xfld 1 a5) fun a6 =>
 ob (ldN false 1 a6 B) fun a7 =>
 ob (xbin PP .sub 3 a4 a7) fun a8 =>
 ob (xlen PP 9 (shr x1)) fun a9 =>
 ob (xbin PP .lss 3 a8 a9) fun a10 =>
 asB (shr a10) fun t11 => br t11 (Zrk m0  (gcB m0 [] B))
 (ob (Z1Z (shr x0)) fun a12 =>
 ob (xfld 0 a12) fun a13 =>
 ob (ldN false 1 a13 B) fun a14 =>
 ob (Z1Z (shr x0)) fun a15 =>
 ob (xfld 1 a15) fun a16 =>
 ob (ldN false 1 a16 B) fun a17 =>
 ob (Z1Z (shr x0)) fun a18 =>
 ob (xfld 1 a18) fun a19 =>
 ob (ldN false 1 a19 B) fun a20 =>
 ob (xlen PP 9 (shr x1)) fun a21 =>
 ob (xbin PP .add 3 a20 a21) fun a22 =>
 ob (xsl 1 a14 (some a17) (some a22) none) fun a23 =>
 ob (xcnv PP 141 9 a23) fun a24 =>
 ob (xbin PP .neq 9 a24 (shr x1)) fun a25 =>
 asB (shr a25) fun t26 => br t26 (Zrk m0  (gcB m0 [] B))
 (Zvu m0 x0 x1 (gcB m0 [x0, x1] B)))))) := (E_eq PP XX HH _ _ _).trans (by kernel_rfl)
def Zmv : Code := Z2I Tryz.f69
def ZFh (r0 : AV) (B : List Row) : Option Res :=
 ob (ob (ldN true 7 r0 B) fun v => ob (some []) fun vs => some (v :: vs)) fun vs => some ((nrmA (match vs with | [v] => v | vs => Z1Q (vs.map shr))), B)
def Zvv (m0 : Nat) : Kont := kret PP HH 69 Tryz.f69.results
def ZGI (m0 : Nat) : Kont := kseq HH 69 m0 (l2 (l2 (l2 Zmv))) (exec PP HH 69 m0 EE LL (l2 (l2 (l2 Zmv))) (Zvv m0)) (Zvv m0)
def Zvw (m0 : Nat) : Kont := kblk 0 (ZGI m0)
def ZGJ (m0 : Nat) : Kont := kloop HH 69 m0 (l1 (l1 (l1 (l2 (l2 Zmv))))) (LL 69 m0 (l1 (l1 (l1 (l2 (l2 Zmv))))) (Zvw m0)) (Zvw m0)
def Zlo (m0 : Nat) (x0 x2 x3 : AV) (B : List Row) : Option Res := lp (LL 69 m0 (l1 (l1 (l1 (l2 (l2 Zmv))))) (Zvw m0) [(0, x0), (2, x2), (3, x3)] B)
def Zvx (m0 : Nat) (x0 x2 x3 : AV) (B : List Row) : Option Res := exec PP HH 69 m0 EE LL (l2 (l1 (l1 (l1 (l2 (l2 Zmv)))))) (ZGJ m0) [(0, x0), (2, x2), (3, x3)] B
def Zvy (m0 : Nat) (x2 x3 : AV) (B : List Row) : Option Res := exec PP HH 69 m0 EE LL (l2 (l2 (l2 Zmv))) (Zvv m0) [(2, x2), (3, x3)] B
theorem ZBn m0 x0 x2 x3 B : Zlo m0 x0 x2 x3 B =
 mk (callS false EE 68 [(shr x0), (.p (.v (.string (ByteArray.mk #[124]))))] B fun a6 B7 =>
 asB a6 fun t8 => br t8 (Zvx m0 x0 x2 x3 (gcB m0 [x0, x2, x3] B7))
 (Zvy m0 x2 x3 (gcB m0 [x2, x3] B7))) := (L_eq PP XX HH _ _ _ _ _ _).trans (by kernel_rfl)
theorem ZBo m0 x0 x2 x3 B : Zvx m0 x0 x2 x3 B =
 mk (callS false EE 91 [(shr x0)] B fun a9 B10 =>
 ob (xlit PP 96 1 [(0, a9)]) fun a11 =>
 ob (xapp 7 x3 a11) fun a12 =>
 Zlo m0 x0 x2 a12 (gcB m0 [x0, x2, a12] B10)) := by kernel_rfl
theorem ZBp m0 x2 x3 B : Zvy m0 x2 x3 B =
 mk (callS false EE 92 [(iv 3), (shr x3)] B fun a13 B14 =>
 stN 7 x2 a13 B14 fun B15 =>
 ZFh x2 B15) := by kernel_rfl
theorem ZGH x0 B : EE 69 [x0] B =
 (let m0 := B.length
 mk (bz PP 98 B fun a1 B2 =>
 mk (callS false EE 91 [(shr x0)] B2 fun a3 B4 =>
 ob (xlit PP 96 1 [(0, a3)]) fun a5 =>
 Zlo m0 x0 a1 a5 (gcB m0 [x0, a1, a5] B4)))) := (E_eq PP XX HH _ _ _).trans (by kernel_rfl)
def ZHs : Code := Z2I Tryz.f70
def ZFi (B : List Row) : Option Res :=
 ob (some []) fun vs => some ((nrmA (match vs with | [v] => v | vs => Z1Q (vs.map shr))), B)
def ZGL (m0 : Nat) : Kont := kret PP HH 70 Tryz.f70.results
def Zrl (m0 : Nat) (x0 : AV) (B : List Row) : Option Res := exec PP HH 70 m0 EE LL (l2 ZHs) (ZGL m0) [(0, x0)] B
theorem ZBq m0 x0 B : Zrl m0 x0 B =
 mk (ob (Z1Z (shr x0)) fun a11 =>
 ob (xfld 0 a11) fun a12 =>
 ob (ldN false 1 a12 B) fun a13 =>
 ob (xlen PP 141 a13) fun a14 =>
 ob (Z1Z (shr x0)) fun a15 =>
 ob (xfld 1 a15) fun a16 =>
 stN 1 a16 a14 B fun B17 =>
 ZFi  B17) := by kernel_rfl
theorem ZGK x0 x1 x2 B : EE 70 [x0, x1, x2] B =
 (let m0 := B.length
 mk (ob (Z1Z (shr x0)) fun a1 =>
 ob (xfld 5 a1) fun a2 =>
 ob (xfld 0 a2) fun a3 =>
 ob (ldN false 1 a3 B) fun a4 =>
 ob (xbin PP .eql 30 a4 (iv 0)) fun a5 =>
 asB a5 fun t6 => br t6 (mk (ob (Z1F PP 102 [(0, (shr x1)), (1, (shr x2))]) fun a7 =>
 ob (Z1Z (shr x0)) fun a8 =>
 ob (xfld 5 a8) fun a9 =>
 stN 2 a9 a7 B fun B10 =>
 Zrl m0 x0 (gcB m0 [x0] B10)))
 (Zrl m0 x0 (gcB m0 [x0] B)))) := (E_eq PP XX HH _ _ _).trans (by kernel_rfl)
def Zrm : Code := Z2I Tryz.f71
def ZxO (r0 : AV) (B : List Row) : Option Res :=
 ob (ob (some r0) fun v => ob (some []) fun vs => some (v :: vs)) fun vs => some ((nrmA (match vs with | [v] => v | vs => Z1Q (vs.map shr))), B)
def Zvz (m0 : Nat) : Kont := kret PP HH 71 Tryz.f71.results
def ZBr (m0 : Nat) : Kont := kseq HH 71 m0 (l2 (l2 Zrm)) (exec PP HH 71 m0 EE LL (l2 (l2 Zrm)) (Zvz m0)) (Zvz m0)
def ZvA (m0 : Nat) (x1 : AV) (B : List Row) : Option Res := exec PP HH 71 m0 EE LL (l1 (l2 (l1 (l2 Zrm)))) (ZBr m0) [(1, x1)] B
def Zo8 (m0 : Nat) (x1 : AV) (B : List Row) : Option Res := exec PP HH 71 m0 EE LL (l2 (l2 Zrm)) (Zvz m0) [(1, x1)] B
def Zrn (m0 : Nat) (B : List Row) : Option Res := exec PP HH 71 m0 EE LL (l1 (l2 (l2 (l1 (l2 (l1 (l2 Zrm))))))) (ZBr m0) [] B
theorem ZBs m0 x1 B : ZvA m0 x1 B =
 mk (ob (xfld 6 x1) fun a11 =>
 ob (ldN false 1 a11 B) fun a12 =>
 ob (xidx 7 a12 (iv 0)) fun a13 =>
 ob (ldN true 7 a13 B) fun a14 =>
 callS false EE 93 [a14] B fun a15 B16 =>
 ob (xext 0 (shr a15)) fun a17 =>
 ob (xext 1 (shr a15)) fun a18 =>
 mk (ob (xbin PP .lss 3 (shr (shr (shr a18))) (iv 0)) fun a19 =>
 asB (shr a19) fun t20 => br t20 (Zrn m0  (gcB m0 [] B16))
 (ob (xbin PP .gtr 3 (shr (shr (shr a18))) (iv 32)) fun a21 =>
 asB (shr a21) fun t22 => br t22 (Zrn m0  (gcB m0 [] B16))
 (Zo8 m0 x1 (gcB m0 [x1] B16))))) := by kernel_rfl
theorem ZBu m0 x1 B : Zo8 m0 x1 B =
 mk (ob (xfld 6 x1) fun a23 =>
 ob (ldN false 1 a23 B) fun a24 =>
 callS false EE 94 [a24, (.clo 95 [] [])] B fun a25 B26 =>
 ob (xun PP .not a25) fun a27 =>
 ZxO (shr a27) B26) := by kernel_rfl
theorem ZBt m0 B : Zrn m0  B =
 mk (ZxO (bv false) B) := by kernel_rfl
theorem ZGM x0 B : EE 71 [x0] B =
 (let m0 := B.length
 mk (bx x0 B fun a1 B2 =>
 mk (ob (xfld 0 a1) fun a3 =>
 ob (ldN false 1 a3 B2) fun a4 =>
 ob (xbin PP .eql 3 a4 (iv 7)) fun a5 =>
 asB (shr a5) fun t6 => br t6 (ob (xfld 3 a1) fun a7 =>
 ob (ldN false 1 a7 B2) fun a8 =>
 ob (xbin PP .geq 3 a8 (iv 2)) fun a9 =>
 asB (shr a9) fun t10 => br t10 (ZvA m0 a1 (gcB m0 [a1] B2))
 (Zo8 m0 a1 (gcB m0 [a1] B2)))
 (Zo8 m0 a1 (gcB m0 [a1] B2))))) := (E_eq PP XX HH _ _ _).trans (by kernel_rfl)
def ZfA : Code := Z2I Tryz.f72
def Zpc (r0 : AV) (B : List Row) : Option Res :=
 ob (ob (some r0) fun v => ob (some []) fun vs => some (v :: vs)) fun vs => some ((nrmA (match vs with | [v] => v | vs => Z1Q (vs.map shr))), B)
def Zlp (m0 : Nat) : Kont := kret PP HH 72 Tryz.f72.results
def ZGO (m0 : Nat) : Kont := kseq HH 72 m0 (l2 (l2 (l2 ZfA))) (exec PP HH 72 m0 EE LL (l2 (l2 (l2 ZfA))) (Zlp m0)) (Zlp m0)
def ZvB (m0 : Nat) : Kont := kblk 0 (ZGO m0)
def ZGP (m0 : Nat) : Kont := kloop HH 72 m0 (l1 (l1 (l2 (l1 (l2 (l2 ZfA)))))) (LL 72 m0 (l1 (l1 (l2 (l1 (l2 (l2 ZfA)))))) (ZvB m0)) (ZvB m0)
def ZGQ (m0 : Nat) : Kont := kseq HH 72 m0 (l2 (l2 (l2 (l2 ZfA)))) (exec PP HH 72 m0 EE LL (l2 (l2 (l2 (l2 ZfA)))) (Zlp m0)) (Zlp m0)
def ZGR (m0 : Nat) : Kont := kblk 2 (ZGQ m0)
def Zlq (m0 : Nat) (x1 x3 x8 x9 x10 : AV) (B : List Row) : Option Res := lp (LL 72 m0 (l1 (l1 (l2 (l1 (l2 (l2 ZfA)))))) (ZvB m0) [(1, x1), (3, x3), (8, x8), (9, x9), (10, x10)] B)
def ZvC (m0 : Nat) (x1 x3 x8 x9 x10 : AV) (B : List Row) : Option Res := exec PP HH 72 m0 EE LL (l2 (l2 (l1 (l1 (l2 (l1 (l2 (l2 ZfA)))))))) (ZGP m0) [(1, x1), (3, x3), (8, x8), (9, x9), (10, x10)] B
def ZvD (m0 : Nat) (x1 x3 : AV) (B : List Row) : Option Res := exec PP HH 72 m0 EE LL (l2 (l2 (l2 ZfA))) (Zlp m0) [(1, x1), (3, x3)] B
def Z4c (m0 : Nat) (x3 : AV) (B : List Row) : Option Res := exec PP HH 72 m0 EE LL (l2 (l2 (l2 (l2 ZfA)))) (Zlp m0) [(3, x3)] B
def Z5A (m0 : Nat) (x1 x3 : AV) (B : List Row) : Option Res := exec PP HH 72 m0 EE LL (l2 (l2 (l2 (l1 (l2 (l2 (l2 (l2 (l2 (l2 (l2 (l1 (l2 (l1 (l2 (l2 (l2 ZfA))))))))))))))))) (ZGR m0) [(1, x1), (3, x3)] B
theorem ZBv m0 x1 x3 x8 x9 x10 B : Zlq m0 x1 x3 x8 x9 x10 B =
 mk (ob (xbin PP .lss 3 x10 x9) fun a6 =>
 asB a6 fun t7 => br t7 (ZvC m0 x1 x3 x8 x9 x10 (gcB m0 [x1, x3, x8, x9, x10] B))
 (ZvD m0 x1 x3 (gcB m0 [x1, x3] B))) := (L_eq PP XX HH _ _ _ _ _ _).trans (by kernel_rfl)
theorem ZBw m0 x1 x3 x8 x9 x10 B : ZvC m0 x1 x3 x8 x9 x10 B =
 mk (ob (xidx 7 x8 x10) fun a8 =>
 ob (ldN true 7 a8 B) fun a9 =>
 bz PP 98 B fun a10 B11 =>
 stN 7 a10 a9 B11 fun B12 =>
 mk (ob (ldN true 7 a10 B12) fun a13 =>
 callS false EE 72 [a13] B12 fun a14 B15 =>
 ob (xbin PP .add 3 (shr x3) a14) fun a16 =>
 ob (Z7D PP false [a16, (iv 1048576)]) fun a17 =>
 mk (ob (xbin PP .add 3 x10 (iv 1)) fun a18 =>
 Zlq m0 x1 (shr a17) x8 x9 (shr a18) (gcB m0 [x1, (shr a17), x8, x9, (shr a18)] B15)))) := by kernel_rfl
theorem ZBx m0 x1 x3 B : ZvD m0 x1 x3 B =
 mk (ob (xfld 0 x1) fun a19 =>
 ob (ldN false 1 a19 B) fun a20 =>
 mk (ob (xbin PP .eql 3 a20 (iv 1)) fun a21 =>
 asB (shr a21) fun t22 => br t22 (asB (shr a21) fun t23 => br t23 (mk (Zpc (iv 1) B))
 (mk (ob (xbin PP .eql 3 a20 (iv 3)) fun a24 =>
 asB (shr a24) fun t25 => br t25 (mk (ob (xfld 6 x1) fun a26 =>
 ob (ldN false 1 a26 B) fun a27 =>
 ob (xlen PP 96 a27) fun a28 =>
 ob (xbin PP .sub 3 a28 (iv 1)) fun a29 =>
 ob (xbin PP .mul 3 (iv 2) a29) fun a30 =>
 ob (xbin PP .add 3 (shr x3) a30) fun a31 =>
 Z4c m0 (shr a31) (gcB m0 [(shr a31)] B)))
 (mk (ob (xbin PP .eql 3 a20 (iv 5)) fun a32 =>
 asB (shr a32) fun t33 => br t33 (asB (shr a32) fun t34 => br t34 (mk (ob (xbin PP .add 3 (shr x3) (iv 2)) fun a35 =>
 Z4c m0 (shr a35) (gcB m0 [(shr a35)] B)))
 (mk (ob (xbin PP .eql 3 a20 (iv 4)) fun a36 =>
 asB (shr a36) fun t37 => br t37 (mk (mk (ob (xfld 1 x1) fun a38 =>
 ob (ldN false 1 a38 B) fun a39 =>
 ob (xbin PP .mul 3 a39 (shr (shr (shr x3)))) fun a40 =>
 mk (ob (xfld 2 x1) fun a41 =>
 ob (ldN false 1 a41 B) fun a42 =>
 ob (xbin PP .lss 3 a42 (iv 0)) fun a43 =>
 asB a43 fun t44 => br t44 (mk (ob (xbin PP .add 3 (shr (shr (shr x3))) (iv 4)) fun a45 =>
 ob (xbin PP .add 3 (shr (shr a40)) a45) fun a46 =>
 Z5A m0 x1 (shr a46) (gcB m0 [x1, (shr a46)] B)))
 (mk (ob (xfld 2 x1) fun a47 =>
 ob (ldN false 1 a47 B) fun a48 =>
 ob (xfld 1 x1) fun a49 =>
 ob (ldN false 1 a49 B) fun a50 =>
 ob (xbin PP .sub 3 a48 a50) fun a51 =>
 ob (xbin PP .add 3 (shr (shr (shr x3))) (iv 1)) fun a52 =>
 ob (xbin PP .mul 3 a51 a52) fun a53 =>
 ob (xbin PP .add 3 (shr (shr a40)) a53) fun a54 =>
 Z5A m0 x1 (shr a54) (gcB m0 [x1, (shr a54)] B)))))))
 (Z4c m0 x3 (gcB m0 [x3] B)))))
 (mk (ob (xbin PP .eql 3 a20 (iv 7)) fun a55 =>
 asB (shr a55) fun t56 => br t56 (asB (shr a55) fun t57 => br t57 (mk (ob (xbin PP .add 3 (shr x3) (iv 2)) fun a58 =>
 Z4c m0 (shr a58) (gcB m0 [(shr a58)] B)))
 (mk (ob (xbin PP .eql 3 a20 (iv 4)) fun a59 =>
 asB (shr a59) fun t60 => br t60 (mk (mk (ob (xfld 1 x1) fun a61 =>
 ob (ldN false 1 a61 B) fun a62 =>
 ob (xbin PP .mul 3 a62 (shr (shr (shr x3)))) fun a63 =>
 mk (ob (xfld 2 x1) fun a64 =>
 ob (ldN false 1 a64 B) fun a65 =>
 ob (xbin PP .lss 3 a65 (iv 0)) fun a66 =>
 asB a66 fun t67 => br t67 (mk (ob (xbin PP .add 3 (shr (shr (shr x3))) (iv 4)) fun a68 =>
 ob (xbin PP .add 3 (shr (shr a63)) a68) fun a69 =>
 Z5A m0 x1 (shr a69) (gcB m0 [x1, (shr a69)] B)))
 (mk (ob (xfld 2 x1) fun a70 =>
 ob (ldN false 1 a70 B) fun a71 =>
 ob (xfld 1 x1) fun a72 =>
 ob (ldN false 1 a72 B) fun a73 =>
 ob (xbin PP .sub 3 a71 a73) fun a74 =>
 ob (xbin PP .add 3 (shr (shr (shr x3))) (iv 1)) fun a75 =>
 ob (xbin PP .mul 3 a74 a75) fun a76 =>
 ob (xbin PP .add 3 (shr (shr a63)) a76) fun a77 =>
 Z5A m0 x1 (shr a77) (gcB m0 [x1, (shr a77)] B)))))))
 (Z4c m0 x3 (gcB m0 [x3] B)))))
 (mk (ob (xbin PP .eql 3 a20 (iv 8)) fun a78 =>
 asB (shr a78) fun t79 => br t79 (mk (ob (xbin PP .add 3 (shr x3) (iv 2)) fun a80 =>
 Z4c m0 (shr a80) (gcB m0 [(shr a80)] B)))
 (mk (ob (xbin PP .eql 3 a20 (iv 4)) fun a81 =>
 asB (shr a81) fun t82 => br t82 (mk (mk (ob (xfld 1 x1) fun a83 =>
 ob (ldN false 1 a83 B) fun a84 =>
 ob (xbin PP .mul 3 a84 (shr (shr (shr x3)))) fun a85 =>
 mk (ob (xfld 2 x1) fun a86 =>
 ob (ldN false 1 a86 B) fun a87 =>
 ob (xbin PP .lss 3 a87 (iv 0)) fun a88 =>
 asB a88 fun t89 => br t89 (mk (ob (xbin PP .add 3 (shr (shr (shr x3))) (iv 4)) fun a90 =>
 ob (xbin PP .add 3 (shr (shr a85)) a90) fun a91 =>
 Z5A m0 x1 (shr a91) (gcB m0 [x1, (shr a91)] B)))
 (mk (ob (xfld 2 x1) fun a92 =>
 ob (ldN false 1 a92 B) fun a93 =>
 ob (xfld 1 x1) fun a94 =>
 ob (ldN false 1 a94 B) fun a95 =>
 ob (xbin PP .sub 3 a93 a95) fun a96 =>
 ob (xbin PP .add 3 (shr (shr (shr x3))) (iv 1)) fun a97 =>
 ob (xbin PP .mul 3 a96 a97) fun a98 =>
 ob (xbin PP .add 3 (shr (shr a85)) a98) fun a99 =>
 Z5A m0 x1 (shr a99) (gcB m0 [x1, (shr a99)] B)))))))
 (Z4c m0 x3 (gcB m0 [x3] B)))))))))))))
 (mk (ob (xbin PP .eql 3 a20 (iv 6)) fun a100 =>
 asB (shr a100) fun t101 => br t101 (asB (shr a100) fun t102 => br t102 (mk (Zpc (iv 1) B))
 (mk (ob (xbin PP .eql 3 a20 (iv 3)) fun a103 =>
 asB (shr a103) fun t104 => br t104 (mk (ob (xfld 6 x1) fun a105 =>
 ob (ldN false 1 a105 B) fun a106 =>
 ob (xlen PP 96 a106) fun a107 =>
 ob (xbin PP .sub 3 a107 (iv 1)) fun a108 =>
 ob (xbin PP .mul 3 (iv 2) a108) fun a109 =>
 ob (xbin PP .add 3 (shr x3) a109) fun a110 =>
 Z4c m0 (shr a110) (gcB m0 [(shr a110)] B)))
 (mk (ob (xbin PP .eql 3 a20 (iv 5)) fun a111 =>
 asB (shr a111) fun t112 => br t112 (asB (shr a111) fun t113 => br t113 (mk (ob (xbin PP .add 3 (shr x3) (iv 2)) fun a114 =>
 Z4c m0 (shr a114) (gcB m0 [(shr a114)] B)))
 (mk (ob (xbin PP .eql 3 a20 (iv 4)) fun a115 =>
 asB (shr a115) fun t116 => br t116 (mk (mk (ob (xfld 1 x1) fun a117 =>
 ob (ldN false 1 a117 B) fun a118 =>
 ob (xbin PP .mul 3 a118 (shr (shr (shr x3)))) fun a119 =>
 mk (ob (xfld 2 x1) fun a120 =>
 ob (ldN false 1 a120 B) fun a121 =>
 ob (xbin PP .lss 3 a121 (iv 0)) fun a122 =>
 asB a122 fun t123 => br t123 (mk (ob (xbin PP .add 3 (shr (shr (shr x3))) (iv 4)) fun a124 =>
 ob (xbin PP .add 3 (shr (shr a119)) a124) fun a125 =>
 Z5A m0 x1 (shr a125) (gcB m0 [x1, (shr a125)] B)))
 (mk (ob (xfld 2 x1) fun a126 =>
 ob (ldN false 1 a126 B) fun a127 =>
 ob (xfld 1 x1) fun a128 =>
 ob (ldN false 1 a128 B) fun a129 =>
 ob (xbin PP .sub 3 a127 a129) fun a130 =>
 ob (xbin PP .add 3 (shr (shr (shr x3))) (iv 1)) fun a131 =>
 ob (xbin PP .mul 3 a130 a131) fun a132 =>
 ob (xbin PP .add 3 (shr (shr a119)) a132) fun a133 =>
 Z5A m0 x1 (shr a133) (gcB m0 [x1, (shr a133)] B)))))))
 (Z4c m0 x3 (gcB m0 [x3] B)))))
 (mk (ob (xbin PP .eql 3 a20 (iv 7)) fun a134 =>
 asB (shr a134) fun t135 => br t135 (asB (shr a134) fun t136 => br t136 (mk (ob (xbin PP .add 3 (shr x3) (iv 2)) fun a137 =>
 Z4c m0 (shr a137) (gcB m0 [(shr a137)] B)))
 (mk (ob (xbin PP .eql 3 a20 (iv 4)) fun a138 =>
 asB (shr a138) fun t139 => br t139 (mk (mk (ob (xfld 1 x1) fun a140 =>
 ob (ldN false 1 a140 B) fun a141 =>
 ob (xbin PP .mul 3 a141 (shr (shr (shr x3)))) fun a142 =>
 mk (ob (xfld 2 x1) fun a143 =>
 ob (ldN false 1 a143 B) fun a144 =>
 ob (xbin PP .lss 3 a144 (iv 0)) fun a145 =>
 asB a145 fun t146 => br t146 (mk (ob (xbin PP .add 3 (shr (shr (shr x3))) (iv 4)) fun a147 =>
 ob (xbin PP .add 3 (shr (shr a142)) a147) fun a148 =>
 Z5A m0 x1 (shr a148) (gcB m0 [x1, (shr a148)] B)))
 (mk (ob (xfld 2 x1) fun a149 =>
 ob (ldN false 1 a149 B) fun a150 =>
 ob (xfld 1 x1) fun a151 =>
 ob (ldN false 1 a151 B) fun a152 =>
 ob (xbin PP .sub 3 a150 a152) fun a153 =>
 ob (xbin PP .add 3 (shr (shr (shr x3))) (iv 1)) fun a154 =>
 ob (xbin PP .mul 3 a153 a154) fun a155 =>
 ob (xbin PP .add 3 (shr (shr a142)) a155) fun a156 =>
 Z5A m0 x1 (shr a156) (gcB m0 [x1, (shr a156)] B)))))))
 (Z4c m0 x3 (gcB m0 [x3] B)))))
 (mk (ob (xbin PP .eql 3 a20 (iv 8)) fun a157 =>
 asB (shr a157) fun t158 => br t158 (mk (ob (xbin PP .add 3 (shr x3) (iv 2)) fun a159 =>
 Z4c m0 (shr a159) (gcB m0 [(shr a159)] B)))
 (mk (ob (xbin PP .eql 3 a20 (iv 4)) fun a160 =>
 asB (shr a160) fun t161 => br t161 (mk (mk (ob (xfld 1 x1) fun a162 =>
 ob (ldN false 1 a162 B) fun a163 =>
 ob (xbin PP .mul 3 a163 (shr (shr (shr x3)))) fun a164 =>
 mk (ob (xfld 2 x1) fun a165 =>
 ob (ldN false 1 a165 B) fun a166 =>
 ob (xbin PP .lss 3 a166 (iv 0)) fun a167 =>
 asB a167 fun t168 => br t168 (mk (ob (xbin PP .add 3 (shr (shr (shr x3))) (iv 4)) fun a169 =>
 ob (xbin PP .add 3 (shr (shr a164)) a169) fun a170 =>
 Z5A m0 x1 (shr a170) (gcB m0 [x1, (shr a170)] B)))
 (mk (ob (xfld 2 x1) fun a171 =>
 ob (ldN false 1 a171 B) fun a172 =>
 ob (xfld 1 x1) fun a173 =>
 ob (ldN false 1 a173 B) fun a174 =>
 ob (xbin PP .sub 3 a172 a174) fun a175 =>
 ob (xbin PP .add 3 (shr (shr (shr x3))) (iv 1)) fun a176 =>
 ob (xbin PP .mul 3 a175 a176) fun a177 =>
 ob (xbin PP .add 3 (shr (shr a164)) a177) fun a178 =>
 Z5A m0 x1 (shr a178) (gcB m0 [x1, (shr a178)] B)))))))
 (Z4c m0 x3 (gcB m0 [x3] B)))))))))))))
 (mk (ob (xbin PP .eql 3 a20 (iv 9)) fun a179 =>
 asB (shr a179) fun t180 => br t180 (mk (Zpc (iv 1) B))
 (mk (ob (xbin PP .eql 3 a20 (iv 3)) fun a181 =>
 asB (shr a181) fun t182 => br t182 (mk (ob (xfld 6 x1) fun a183 =>
 ob (ldN false 1 a183 B) fun a184 =>
 ob (xlen PP 96 a184) fun a185 =>
 ob (xbin PP .sub 3 a185 (iv 1)) fun a186 =>
 ob (xbin PP .mul 3 (iv 2) a186) fun a187 =>
 ob (xbin PP .add 3 (shr x3) a187) fun a188 =>
 Z4c m0 (shr a188) (gcB m0 [(shr a188)] B)))
 (mk (ob (xbin PP .eql 3 a20 (iv 5)) fun a189 =>
 asB (shr a189) fun t190 => br t190 (asB (shr a189) fun t191 => br t191 (mk (ob (xbin PP .add 3 (shr x3) (iv 2)) fun a192 =>
 Z4c m0 (shr a192) (gcB m0 [(shr a192)] B)))
 (mk (ob (xbin PP .eql 3 a20 (iv 4)) fun a193 =>
 asB (shr a193) fun t194 => br t194 (mk (mk (ob (xfld 1 x1) fun a195 =>
 ob (ldN false 1 a195 B) fun a196 =>
 ob (xbin PP .mul 3 a196 (shr (shr (shr x3)))) fun a197 =>
 mk (ob (xfld 2 x1) fun a198 =>
 ob (ldN false 1 a198 B) fun a199 =>
 ob (xbin PP .lss 3 a199 (iv 0)) fun a200 =>
 asB a200 fun t201 => br t201 (mk (ob (xbin PP .add 3 (shr (shr (shr x3))) (iv 4)) fun a202 =>
 ob (xbin PP .add 3 (shr (shr a197)) a202) fun a203 =>
 Z5A m0 x1 (shr a203) (gcB m0 [x1, (shr a203)] B)))
 (mk (ob (xfld 2 x1) fun a204 =>
 ob (ldN false 1 a204 B) fun a205 =>
 ob (xfld 1 x1) fun a206 =>
 ob (ldN false 1 a206 B) fun a207 =>
 ob (xbin PP .sub 3 a205 a207) fun a208 =>
 ob (xbin PP .add 3 (shr (shr (shr x3))) (iv 1)) fun a209 =>
 ob (xbin PP .mul 3 a208 a209) fun a210 =>
 ob (xbin PP .add 3 (shr (shr a197)) a210) fun a211 =>
 Z5A m0 x1 (shr a211) (gcB m0 [x1, (shr a211)] B)))))))
 (Z4c m0 x3 (gcB m0 [x3] B)))))
 (mk (ob (xbin PP .eql 3 a20 (iv 7)) fun a212 =>
 asB (shr a212) fun t213 => br t213 (asB (shr a212) fun t214 => br t214 (mk (ob (xbin PP .add 3 (shr x3) (iv 2)) fun a215 =>
 Z4c m0 (shr a215) (gcB m0 [(shr a215)] B)))
 (mk (ob (xbin PP .eql 3 a20 (iv 4)) fun a216 =>
 asB (shr a216) fun t217 => br t217 (mk (mk (ob (xfld 1 x1) fun a218 =>
 ob (ldN false 1 a218 B) fun a219 =>
 ob (xbin PP .mul 3 a219 (shr (shr (shr x3)))) fun a220 =>
 mk (ob (xfld 2 x1) fun a221 =>
 ob (ldN false 1 a221 B) fun a222 =>
 ob (xbin PP .lss 3 a222 (iv 0)) fun a223 =>
 asB a223 fun t224 => br t224 (mk (ob (xbin PP .add 3 (shr (shr (shr x3))) (iv 4)) fun a225 =>
 ob (xbin PP .add 3 (shr (shr a220)) a225) fun a226 =>
 Z5A m0 x1 (shr a226) (gcB m0 [x1, (shr a226)] B)))
 (mk (ob (xfld 2 x1) fun a227 =>
 ob (ldN false 1 a227 B) fun a228 =>
 ob (xfld 1 x1) fun a229 =>
 ob (ldN false 1 a229 B) fun a230 =>
 ob (xbin PP .sub 3 a228 a230) fun a231 =>
 ob (xbin PP .add 3 (shr (shr (shr x3))) (iv 1)) fun a232 =>
 ob (xbin PP .mul 3 a231 a232) fun a233 =>
 ob (xbin PP .add 3 (shr (shr a220)) a233) fun a234 =>
 Z5A m0 x1 (shr a234) (gcB m0 [x1, (shr a234)] B)))))))
 (Z4c m0 x3 (gcB m0 [x3] B)))))
 (mk (ob (xbin PP .eql 3 a20 (iv 8)) fun a235 =>
 asB (shr a235) fun t236 => br t236 (mk (ob (xbin PP .add 3 (shr x3) (iv 2)) fun a237 =>
 Z4c m0 (shr a237) (gcB m0 [(shr a237)] B)))
 (mk (ob (xbin PP .eql 3 a20 (iv 4)) fun a238 =>
 asB (shr a238) fun t239 => br t239 (mk (mk (ob (xfld 1 x1) fun a240 =>
 ob (ldN false 1 a240 B) fun a241 =>
 ob (xbin PP .mul 3 a241 (shr (shr (shr x3)))) fun a242 =>
 mk (ob (xfld 2 x1) fun a243 =>
 ob (ldN false 1 a243 B) fun a244 =>
 ob (xbin PP .lss 3 a244 (iv 0)) fun a245 =>
 asB a245 fun t246 => br t246 (mk (ob (xbin PP .add 3 (shr (shr (shr x3))) (iv 4)) fun a247 =>
 ob (xbin PP .add 3 (shr (shr a242)) a247) fun a248 =>
 Z5A m0 x1 (shr a248) (gcB m0 [x1, (shr a248)] B)))
 (mk (ob (xfld 2 x1) fun a249 =>
 ob (ldN false 1 a249 B) fun a250 =>
 ob (xfld 1 x1) fun a251 =>
 ob (ldN false 1 a251 B) fun a252 =>
 ob (xbin PP .sub 3 a250 a252) fun a253 =>
 ob (xbin PP .add 3 (shr (shr (shr x3))) (iv 1)) fun a254 =>
 ob (xbin PP .mul 3 a253 a254) fun a255 =>
 ob (xbin PP .add 3 (shr (shr a242)) a255) fun a256 =>
 Z5A m0 x1 (shr a256) (gcB m0 [x1, (shr a256)] B)))))))
 (Z4c m0 x3 (gcB m0 [x3] B)))))))))))))))))) := by kernel_rfl
theorem ZzW m0 x3 B : Z4c m0 x3 B =
 mk (ob (Z7D PP false [(shr x3), (iv 1048576)]) fun a257 =>
 Zpc (shr a257) B) := by kernel_rfl
theorem ZzV m0 x1 x3 B : Z5A m0 x1 x3 B =
 mk (ob (xfld 3 x1) fun a258 =>
 ob (ldN false 1 a258 B) fun a259 =>
 ob (xbin PP .eql 3 a259 (iv 2)) fun a260 =>
 asB a260 fun t261 => br t261 (mk (ob (xbin PP .add 3 (shr x3) (iv 2)) fun a262 =>
 Z4c m0 (shr a262) (gcB m0 [(shr a262)] B)))
 (Z4c m0 x3 (gcB m0 [x3] B))) := by kernel_rfl
theorem ZGN x0 B : EE 72 [x0] B =
 (let m0 := B.length
 mk (bx x0 B fun a1 B2 =>
 mk (mk (ob (xfld 6 a1) fun a3 =>
 ob (ldN false 1 a3 B2) fun a4 =>
 ob (xlen PP 96 a4) fun a5 =>
 Zlq m0 a1 (iv 0) a4 a5 (iv 0) (gcB m0 [a1, (iv 0), a4, a5, (iv 0)] B2))))) := (E_eq PP XX HH _ _ _).trans (by kernel_rfl)
def ZFj (r0 : AV) (B : List Row) : Option Res :=
 ob (ob (some r0) fun v => ob (some []) fun vs => some (v :: vs)) fun vs => some ((nrmA (match vs with | [v] => v | vs => Z1Q (vs.map shr))), B)
theorem ZGS x0 x1 B : EE 73 [x0, x1] B =
 (let m0 := B.length
 mk (bx x0 B fun a1 B2 =>
 mk (ob (ldN false 1 x1 B2) fun a3 =>
 ob (ldN true 5 a1 B2) fun a4 =>
 callV HH EE a3 [a4] B2 fun a5 B6 =>
 ob (xun PP .not a5) fun a7 =>
 ZFj (shr a7) B6))) := (E_eq PP XX HH _ _ _).trans (by kernel_rfl)
def ZFk (r0 : AV) (B : List Row) : Option Res :=
 ob (ob (some r0) fun v => ob (some []) fun vs => some (v :: vs)) fun vs => some ((nrmA (match vs with | [v] => v | vs => Z1Q (vs.map shr))), B)
theorem ZGT x0 x1 B : EE 74 [x0, x1] B =
 (let m0 := B.length
 mk (mk (ob (ldN false 1 x1 B) fun a1 =>
 ob (Zg1 PP 152 false a1 (shr x0) B) fun a2 =>
 mk (ob (ldN false 1 x1 B) fun a3 =>
 xupd PP 152 a3 (shr x0) (bv true) B fun B4 =>
 mk (ZFk (shr (shr (shr a2))) B4))))) := (E_eq PP XX HH _ _ _).trans (by kernel_rfl)
def ZFl (r0 : AV) (B : List Row) : Option Res :=
 ob (ob (some r0) fun v => ob (some []) fun vs => some (v :: vs)) fun vs => some ((nrmA (match vs with | [v] => v | vs => Z1Q (vs.map shr))), B)
theorem ZGU x0 x1 B : EE 75 [x0, x1] B =
 (let m0 := B.length
 mk (bx x0 B fun a1 B2 =>
 mk (ob (ldN false 1 x1 B2) fun a3 =>
 ob (xfld 0 a1) fun a4 =>
 ob (ldN false 1 a4 B2) fun a5 =>
 callV HH EE a3 [a5] B2 fun a6 B7 =>
 ZFl (shr a6) B7))) := (E_eq PP XX HH _ _ _).trans (by kernel_rfl)
def Zka : Code := Z2I Tryz.f83
def ZxP (r0 : AV) (B : List Row) : Option Res :=
 ob (ob (some r0) fun v => ob (some []) fun vs => some (v :: vs)) fun vs => some ((nrmA (match vs with | [v] => v | vs => Z1Q (vs.map shr))), B)
def ZvE (m0 : Nat) : Kont := kret PP HH 83 Tryz.f83.results
def ZGV (m0 : Nat) : Kont := kseq HH 83 m0 (l2 (l2 Zka)) (exec PP HH 83 m0 EE LL (l2 (l2 Zka)) (ZvE m0)) (ZvE m0)
def ZvF (m0 : Nat) : Kont := kblk 0 (ZGV m0)
def ZBz (m0 : Nat) : Kont := kloop HH 83 m0 (l1 (l1 (l2 (l1 (l2 Zka))))) (LL 83 m0 (l1 (l1 (l2 (l1 (l2 Zka))))) (ZvF m0)) (ZvF m0)
def ZfB (m0 : Nat) (x0 x1 x7 x8 : AV) (B : List Row) : Option Res := lp (LL 83 m0 (l1 (l1 (l2 (l1 (l2 Zka))))) (ZvF m0) [(0, x0), (1, x1), (7, x7), (8, x8)] B)
def Zro (m0 : Nat) (x0 x1 x7 x8 : AV) (B : List Row) : Option Res := exec PP HH 83 m0 EE LL (l2 (l2 (l1 (l1 (l2 (l1 (l2 Zka))))))) (ZBz m0) [(0, x0), (1, x1), (7, x7), (8, x8)] B
def Zrq (m0 : Nat) (B : List Row) : Option Res := exec PP HH 83 m0 EE LL (l2 (l2 Zka)) (ZvE m0) [] B
def Zrp (m0 : Nat) (x0 x1 x7 x8 : AV) (B : List Row) : Option Res := exec PP HH 83 m0 EE LL (l2 (l2 (l2 (l1 (l1 (l2 (l1 (l2 Zka)))))))) (ZBz m0) [(0, x0), (1, x1), (7, x7), (8, x8)] B
theorem ZtW m0 x0 x1 x7 x8 B : ZfB m0 x0 x1 x7 x8 B =
 mk (ob (xbin PP .lss 3 x8 x7) fun a2 =>
 asB a2 fun t3 => br t3 (Zro m0 x0 x1 x7 x8 (gcB m0 [x0, x1, x7, x8] B))
 (Zrq m0  (gcB m0 [] B))) := (L_eq PP XX HH _ _ _ _ _ _).trans (by kernel_rfl)
theorem ZtX m0 x0 x1 x7 x8 B : Zro m0 x0 x1 x7 x8 B =
 mk (mk (ob (xidx 5 (shr x0) (shr (shr (shr x8)))) fun a4 =>
 ob (ldN true 5 a4 B) fun a5 =>
 callV HH EE (shr x1) [a5] B fun a6 B7 =>
 asB a6 fun t8 => br t8 (mk (ZxP (shr (shr (shr (shr x8)))) B7))
 (Zrp m0 x0 x1 x7 x8 (gcB m0 [x0, x1, x7, x8] B7)))) := by kernel_rfl
theorem ZtZ m0 B : Zrq m0  B =
 mk (ZxP (iv (-1)) B) := by kernel_rfl
theorem ZtY m0 x0 x1 x7 x8 B : Zrp m0 x0 x1 x7 x8 B =
 mk (ob (xbin PP .add 3 x8 (iv 1)) fun a9 =>
 ZfB m0 x0 x1 x7 (shr a9) (gcB m0 [x0, x1, x7, (shr a9)] B)) := by kernel_rfl
theorem ZBy x0 x1 B : EE 83 [x0, x1] B =
 (let m0 := B.length
 mk (mk (ob (xlen PP 22 (shr x0)) fun a1 =>
 ZfB m0 x0 x1 a1 (iv 0) (gcB m0 [x0, x1, a1, (iv 0)] B)))) := (E_eq PP XX HH _ _ _).trans (by kernel_rfl)
def Zkb : Code := Z2I Tryz.f84
def ZxQ (r0 : AV) (B : List Row) : Option Res :=
 ob (ob (some r0) fun v => ob (some []) fun vs => some (v :: vs)) fun vs => some ((nrmA (match vs with | [v] => v | vs => Z1Q (vs.map shr))), B)
def ZvG (m0 : Nat) : Kont := kret PP HH 84 Tryz.f84.results
def ZGX (m0 : Nat) : Kont := kseq HH 84 m0 (l2 (l2 Zkb)) (exec PP HH 84 m0 EE LL (l2 (l2 Zkb)) (ZvG m0)) (ZvG m0)
def ZvH (m0 : Nat) : Kont := kblk 0 (ZGX m0)
def ZBA (m0 : Nat) : Kont := kloop HH 84 m0 (l1 (l1 (l2 (l1 (l2 Zkb))))) (LL 84 m0 (l1 (l1 (l2 (l1 (l2 Zkb))))) (ZvH m0)) (ZvH m0)
def Zlr (m0 : Nat) (x0 x1 x7 x8 : AV) (B : List Row) : Option Res := lp (LL 84 m0 (l1 (l1 (l2 (l1 (l2 Zkb))))) (ZvH m0) [(0, x0), (1, x1), (7, x7), (8, x8)] B)
def ZvI (m0 : Nat) (x0 x1 x7 x8 : AV) (B : List Row) : Option Res := exec PP HH 84 m0 EE LL (l2 (l2 (l1 (l1 (l2 (l1 (l2 Zkb))))))) (ZBA m0) [(0, x0), (1, x1), (7, x7), (8, x8)] B
def ZvK (m0 : Nat) (B : List Row) : Option Res := exec PP HH 84 m0 EE LL (l2 (l2 Zkb)) (ZvG m0) [] B
def ZvJ (m0 : Nat) (x0 x1 x7 x8 : AV) (B : List Row) : Option Res := exec PP HH 84 m0 EE LL (l2 (l2 (l2 (l1 (l1 (l2 (l1 (l2 Zkb)))))))) (ZBA m0) [(0, x0), (1, x1), (7, x7), (8, x8)] B
theorem ZBB m0 x0 x1 x7 x8 B : Zlr m0 x0 x1 x7 x8 B =
 mk (ob (xbin PP .lss 3 x8 x7) fun a2 =>
 asB a2 fun t3 => br t3 (ZvI m0 x0 x1 x7 x8 (gcB m0 [x0, x1, x7, x8] B))
 (ZvK m0  (gcB m0 [] B))) := (L_eq PP XX HH _ _ _ _ _ _).trans (by kernel_rfl)
theorem ZBC m0 x0 x1 x7 x8 B : ZvI m0 x0 x1 x7 x8 B =
 mk (mk (ob (xidx 1 (shr x0) (shr (shr (shr x8)))) fun a4 =>
 ob (ldN false 1 a4 B) fun a5 =>
 callV HH EE (shr x1) [a5] B fun a6 B7 =>
 asB a6 fun t8 => br t8 (mk (ZxQ (shr (shr (shr (shr x8)))) B7))
 (ZvJ m0 x0 x1 x7 x8 (gcB m0 [x0, x1, x7, x8] B7)))) := by kernel_rfl
theorem ZBE m0 B : ZvK m0  B =
 mk (ZxQ (iv (-1)) B) := by kernel_rfl
theorem ZBD m0 x0 x1 x7 x8 B : ZvJ m0 x0 x1 x7 x8 B =
 mk (ob (xbin PP .add 3 x8 (iv 1)) fun a9 =>
 Zlr m0 x0 x1 x7 (shr a9) (gcB m0 [x0, x1, x7, (shr a9)] B)) := by kernel_rfl
theorem ZGW x0 x1 B : EE 84 [x0, x1] B =
 (let m0 := B.length
 mk (mk (ob (xlen PP 27 (shr x0)) fun a1 =>
 Zlr m0 x0 x1 a1 (iv 0) (gcB m0 [x0, x1, a1, (iv 0)] B)))) := (E_eq PP XX HH _ _ _).trans (by kernel_rfl)
def Zkc : Code := Z2I Tryz.f91
def ZFm (r0 : AV) (B : List Row) : Option Res :=
 ob (ob (ldN true 7 r0 B) fun v => ob (some []) fun vs => some (v :: vs)) fun vs => some ((nrmA (match vs with | [v] => v | vs => Z1Q (vs.map shr))), B)
def ZvL (m0 : Nat) : Kont := kret PP HH 91 Tryz.f91.results
def ZGZ (m0 : Nat) : Kont := kseq HH 91 m0 (l2 (l2 (l2 (l1 (l2 Zkc))))) (exec PP HH 91 m0 EE LL (l2 (l2 (l2 (l1 (l2 Zkc))))) (ZvL m0)) (ZvL m0)
def ZvM (m0 : Nat) : Kont := kblk 0 (ZGZ m0)
def ZBF (m0 : Nat) : Kont := kloop HH 91 m0 (l1 (l1 (l1 (l2 (l2 (l1 (l2 Zkc))))))) (LL 91 m0 (l1 (l1 (l1 (l2 (l2 (l1 (l2 Zkc))))))) (ZvM m0)) (ZvM m0)
def ZH0 (m0 : Nat) : Kont := kblk 1 (ZBF m0)
def Zls (m0 : Nat) (x0 x2 x3 : AV) (B : List Row) : Option Res := lp (LL 91 m0 (l1 (l1 (l1 (l2 (l2 (l1 (l2 Zkc))))))) (ZvM m0) [(0, x0), (2, x2), (3, x3)] B)
def ZvN (m0 : Nat) (x0 x2 x3 : AV) (B : List Row) : Option Res := exec PP HH 91 m0 EE LL (l2 (l1 (l1 (l1 (l2 (l2 (l1 (l2 Zkc)))))))) (ZBF m0) [(0, x0), (2, x2), (3, x3)] B
def Zlt (m0 : Nat) (x2 x3 : AV) (B : List Row) : Option Res := exec PP HH 91 m0 EE LL (l2 (l2 (l2 (l1 (l2 Zkc))))) (ZvL m0) [(2, x2), (3, x3)] B
def Zo9 (m0 : Nat) (x0 x2 x3 : AV) (B : List Row) : Option Res := exec PP HH 91 m0 EE LL (l2 (l1 (l2 (l1 (l1 (l1 (l2 (l2 (l1 (l2 Zkc)))))))))) (ZH0 m0) [(0, x0), (2, x2), (3, x3)] B
theorem ZBG m0 x0 x2 x3 B : Zls m0 x0 x2 x3 B =
 mk (ob (Z1Z (shr x0)) fun a3 =>
 ob (xfld 5 a3) fun a4 =>
 ob (xfld 0 a4) fun a5 =>
 ob (ldN false 1 a5 B) fun a6 =>
 ob (xbin PP .eql 30 a6 (iv 0)) fun a7 =>
 asB a7 fun t8 => br t8 (ZvN m0 x0 x2 x3 (gcB m0 [x0, x2, x3] B))
 (Zlt m0 x2 x3 (gcB m0 [x2, x3] B))) := (L_eq PP XX HH _ _ _ _ _ _).trans (by kernel_rfl)
theorem ZBH m0 x0 x2 x3 B : ZvN m0 x0 x2 x3 B =
 mk (callS false EE 104 [(shr x0)] B fun a9 B10 =>
 mk (ob (xbin PP .eql 3 a9 (iv (-1))) fun a11 =>
 asB (shr a11) fun t12 => br t12 (asB (shr a11) fun t13 => br t13 (Zlt m0 x2 x3 (gcB m0 [x2, x3] B10))
 (Zo9 m0 x0 x2 x3 (gcB m0 [x0, x2, x3] B10)))
 (mk (ob (xbin PP .eql 3 a9 (iv 124)) fun a14 =>
 asB (shr a14) fun t15 => br t15 (asB (shr a14) fun t16 => br t16 (Zlt m0 x2 x3 (gcB m0 [x2, x3] B10))
 (Zo9 m0 x0 x2 x3 (gcB m0 [x0, x2, x3] B10)))
 (mk (ob (xbin PP .eql 3 a9 (iv 41)) fun a17 =>
 asB (shr a17) fun t18 => br t18 (Zlt m0 x2 x3 (gcB m0 [x2, x3] B10))
 (Zo9 m0 x0 x2 x3 (gcB m0 [x0, x2, x3] B10)))))))) := by kernel_rfl
theorem ZBJ m0 x2 x3 B : Zlt m0 x2 x3 B =
 mk (callS false EE 92 [(iv 2), (shr x3)] B fun a19 B20 =>
 stN 7 x2 a19 B20 fun B21 =>
 ZFm x2 B21) := by kernel_rfl
theorem ZBI m0 x0 x2 x3 B : Zo9 m0 x0 x2 x3 B =
 mk (callS false EE 105 [(shr x0)] B fun a22 B23 =>
 ob (xext 0 (shr a22)) fun a24 =>
 ob (xext 1 (shr a22)) fun a25 =>
 bz PP 98 B23 fun a26 B27 =>
 stN 7 a26 (shr a24) B27 fun B28 =>
 mk (ob (ldN true 7 a26 B28) fun a29 =>
 callS false EE 106 [(shr x0), a29, (shr (shr (shr a25)))] B28 fun a30 B31 =>
 ob (xlit PP 96 1 [(0, a30)]) fun a32 =>
 ob (xapp 7 x3 a32) fun a33 =>
 Zls m0 x0 x2 a33 (gcB m0 [x0, x2, a33] B31))) := by kernel_rfl
theorem ZGY x0 B : EE 91 [x0] B =
 (let m0 := B.length
 mk (bz PP 98 B fun a1 B2 =>
 mk (Zls m0 x0 a1 nilA (gcB m0 [x0, a1, nilA] (gcB m0 [x0, a1, nilA] B2))))) := (E_eq PP XX HH _ _ _).trans (by kernel_rfl)
def ZHt : Code := Z2I Tryz.f92
def ZtG (r0 : AV) (B : List Row) : Option Res :=
 ob (ob (ldN true 7 r0 B) fun v => ob (some []) fun vs => some (v :: vs)) fun vs => some ((nrmA (match vs with | [v] => v | vs => Z1Q (vs.map shr))), B)
def ZH2 (m0 : Nat) : Kont := kret PP HH 92 Tryz.f92.results
def ZvO (m0 : Nat) (x0 x1 x4 : AV) (B : List Row) : Option Res := exec PP HH 92 m0 EE LL (l2 (l2 ZHt)) (ZH2 m0) [(0, x0), (1, x1), (4, x4)] B
theorem ZBK m0 x0 x1 x4 B : ZvO m0 x0 x1 x4 B =
 mk (ob (Z1F PP 98 [(0, (shr x0)), (6, (shr x1))]) fun a13 =>
 stN 7 x4 a13 B fun B14 =>
 ZtG x4 B14) := by kernel_rfl
theorem ZH1 x0 x1 B : EE 92 [x0, x1] B =
 (let m0 := B.length
 mk (bz PP 98 B fun a1 B2 =>
 mk (ob (xlen PP 96 (shr x1)) fun a3 =>
 mk (ob (xbin PP .eql 3 a3 (iv 0)) fun a4 =>
 asB (shr a4) fun t5 => br t5 (mk (ob (Z1F PP 98 []) fun a6 =>
 stN 7 a1 a6 B2 fun B7 =>
 ZtG a1 B7))
 (mk (ob (xbin PP .eql 3 a3 (iv 1)) fun a8 =>
 asB (shr a8) fun t9 => br t9 (mk (ob (xidx 7 (shr x1) (iv 0)) fun a10 =>
 ob (ldN true 7 a10 B2) fun a11 =>
 stN 7 a1 a11 B2 fun B12 =>
 ZtG a1 B12))
 (ZvO m0 x0 x1 a1 (gcB m0 [x0, x1, a1] B2)))))))) := (E_eq PP XX HH _ _ _).trans (by kernel_rfl)
def ZaJ : Code := Z2I Tryz.f93
def Zj2 (r0 r1 : AV) (B : List Row) : Option Res :=
 ob (ob (some r0) fun v => ob (ob (some r1) fun v => ob (some []) fun vs => some (v :: vs)) fun vs => some (v :: vs)) fun vs => some ((nrmA (match vs with | [v] => v | vs => Z1Q (vs.map shr))), B)
def ZvP (m0 : Nat) : Kont := kret PP HH 93 Tryz.f93.results
def ZH4 (m0 : Nat) : Kont := kseq HH 93 m0 (l2 (l2 ZaJ)) (exec PP HH 93 m0 EE LL (l2 (l2 ZaJ)) (ZvP m0)) (ZvP m0)
def ZBL (m0 : Nat) : Kont := kblk 0 (ZH4 m0)
def ZvQ (m0 : Nat) : Kont := kblk 1 (ZBL m0)
def ZvR (m0 : Nat) : Kont := kblk 3 (ZBL m0)
def ZH5 (m0 : Nat) : Kont := kloop HH 93 m0 (l1 (l1 (l2 (l1 (l2 (l2 (l2 (l2 (l2 (l1 (l2 (l1 (l2 ZaJ))))))))))))) (LL 93 m0 (l1 (l1 (l2 (l1 (l2 (l2 (l2 (l2 (l2 (l1 (l2 (l1 (l2 ZaJ))))))))))))) (ZvQ m0)) (ZvQ m0)
def Zrr (m0 : Nat) : Kont := kloop HH 93 m0 (l1 (l1 (l2 (l2 (l1 (l2 (l2 (l2 (l2 (l2 (l2 (l2 (l1 (l2 (l1 (l2 ZaJ)))))))))))))))) (LL 93 m0 (l1 (l1 (l2 (l2 (l1 (l2 (l2 (l2 (l2 (l2 (l2 (l2 (l1 (l2 (l1 (l2 ZaJ)))))))))))))))) (ZvR m0)) (ZvR m0)
def ZH6 (m0 : Nat) : Kont := kseq HH 93 m0 (l2 (l2 (l2 (l1 (l1 (l2 (l2 (l1 (l2 (l2 (l2 (l2 (l2 (l2 (l2 (l1 (l2 (l1 (l2 ZaJ))))))))))))))))))) (exec PP HH 93 m0 EE LL (l2 (l2 (l2 (l1 (l1 (l2 (l2 (l1 (l2 (l2 (l2 (l2 (l2 (l2 (l2 (l1 (l2 (l1 (l2 ZaJ))))))))))))))))))) (Zrr m0)) (Zrr m0)
def ZBM (m0 : Nat) : Kont := kblk 4 (ZH6 m0)
def Zlu (m0 : Nat) (x2 x3 x23 x24 x25 : AV) (B : List Row) : Option Res := lp (LL 93 m0 (l1 (l1 (l2 (l1 (l2 (l2 (l2 (l2 (l2 (l1 (l2 (l1 (l2 ZaJ))))))))))))) (ZvQ m0) [(2, x2), (3, x3), (23, x23), (24, x24), (25, x25)] B)
def Zj0 (m0 : Nat) (x2 x3 x45 x46 x47 : AV) (B : List Row) : Option Res := lp (LL 93 m0 (l1 (l1 (l2 (l2 (l1 (l2 (l2 (l2 (l2 (l2 (l2 (l2 (l1 (l2 (l1 (l2 ZaJ)))))))))))))))) (ZvR m0) [(2, x2), (3, x3), (45, x45), (46, x46), (47, x47)] B)
def Zj1 (m0 : Nat) (x2 x3 : AV) (B : List Row) : Option Res := exec PP HH 93 m0 EE LL (l2 (l2 ZaJ)) (ZvP m0) [(2, x2), (3, x3)] B
def ZvS (m0 : Nat) (x2 x3 x23 x24 x25 : AV) (B : List Row) : Option Res := exec PP HH 93 m0 EE LL (l2 (l2 (l1 (l1 (l2 (l1 (l2 (l2 (l2 (l2 (l2 (l1 (l2 (l1 (l2 ZaJ))))))))))))))) (ZH5 m0) [(2, x2), (3, x3), (23, x23), (24, x24), (25, x25)] B
def ZtH (m0 : Nat) (x2 x3 x45 x46 x47 : AV) (B : List Row) : Option Res := exec PP HH 93 m0 EE LL (l2 (l2 (l1 (l1 (l2 (l2 (l1 (l2 (l2 (l2 (l2 (l2 (l2 (l2 (l1 (l2 (l1 (l2 ZaJ)))))))))))))))))) (Zrr m0) [(2, x2), (3, x3), (45, x45), (46, x46), (47, x47)] B
def Zpd (m0 : Nat) (x2 x45 x46 x47 : AV) (B : List Row) : Option Res := exec PP HH 93 m0 EE LL (l1 (l2 (l2 (l2 (l2 (l1 (l1 (l2 (l2 (l1 (l1 (l2 (l2 (l1 (l2 (l2 (l2 (l2 (l2 (l2 (l2 (l1 (l2 (l1 (l2 ZaJ))))))))))))))))))))))))) (ZBM m0) [(2, x2), (45, x45), (46, x46), (47, x47)] B
def ZtI (m0 : Nat) (x2 x3 x11 x45 x46 x47 : AV) (B : List Row) : Option Res := exec PP HH 93 m0 EE LL (l2 (l2 (l2 (l2 (l2 (l1 (l1 (l2 (l2 (l1 (l1 (l2 (l2 (l1 (l2 (l2 (l2 (l2 (l2 (l2 (l2 (l1 (l2 (l1 (l2 ZaJ))))))))))))))))))))))))) (ZBM m0) [(2, x2), (3, x3), (11, x11), (45, x45), (46, x46), (47, x47)] B
def Zpe (m0 : Nat) (x2 x3 x45 x46 x47 : AV) (B : List Row) : Option Res := exec PP HH 93 m0 EE LL (l2 (l2 (l2 (l1 (l1 (l2 (l2 (l1 (l2 (l2 (l2 (l2 (l2 (l2 (l2 (l1 (l2 (l1 (l2 ZaJ))))))))))))))))))) (Zrr m0) [(2, x2), (3, x3), (45, x45), (46, x46), (47, x47)] B
theorem ZBN m0 x2 x3 x23 x24 x25 B : Zlu m0 x2 x3 x23 x24 x25 B =
 mk (ob (xbin PP .lss 3 x25 x24) fun a58 =>
 asB a58 fun t59 => br t59 (ZvS m0 x2 x3 x23 x24 x25 (gcB m0 [x2, x3, x23, x24, x25] B))
 (Zj1 m0 x2 x3 (gcB m0 [x2, x3] B))) := (L_eq PP XX HH _ _ _ _ _ _).trans (by kernel_rfl)
theorem ZzX m0 x2 x3 x45 x46 x47 B : Zj0 m0 x2 x3 x45 x46 x47 B =
 mk (ob (xbin PP .lss 3 x47 x46) fun a60 =>
 asB a60 fun t61 => br t61 (ZtH m0 x2 x3 x45 x46 x47 (gcB m0 [x2, x3, x45, x46, x47] B))
 (Zj1 m0 x2 x3 (gcB m0 [x2, x3] B))) := (L_eq PP XX HH _ _ _ _ _ _).trans (by kernel_rfl)
theorem ZA2 m0 x2 x3 B : Zj1 m0 x2 x3 B =
 mk (Zj2 (shr (shr x2)) (shr (shr x3)) B) := by kernel_rfl
theorem ZBO m0 x2 x3 x23 x24 x25 B : ZvS m0 x2 x3 x23 x24 x25 B =
 mk (ob (xidx 7 x23 x25) fun a62 =>
 ob (ldN true 7 a62 B) fun a63 =>
 bz PP 98 B fun a64 B65 =>
 stN 7 a64 a63 B65 fun B66 =>
 mk (ob (ldN true 7 a64 B66) fun a67 =>
 callS false EE 93 [a67] B66 fun a68 B69 =>
 ob (xext 0 (shr a68)) fun a70 =>
 ob (xext 1 (shr a68)) fun a71 =>
 mk (ob (xbin PP .add 3 (shr x2) (shr (shr (shr a70)))) fun a72 =>
 ob (Z7D PP false [a72, (iv 1048576)]) fun a73 =>
 callS false EE 107 [(shr x3), (shr (shr (shr a71)))] B69 fun a74 B75 =>
 mk (ob (xbin PP .add 3 x25 (iv 1)) fun a76 =>
 Zlu m0 (shr a73) (shr a74) x23 x24 (shr a76) (gcB m0 [(shr a73), (shr a74), x23, x24, (shr a76)] B75))))) := by kernel_rfl
theorem ZzY m0 x2 x3 x45 x46 x47 B : ZtH m0 x2 x3 x45 x46 x47 B =
 mk (ob (xidx 7 x45 x47) fun a77 =>
 ob (ldN true 7 a77 B) fun a78 =>
 bz PP 98 B fun a79 B80 =>
 stN 7 a79 a78 B80 fun B81 =>
 mk (ob (ldN true 7 a79 B81) fun a82 =>
 callS false EE 93 [a82] B81 fun a83 B84 =>
 ob (xext 0 (shr a83)) fun a85 =>
 ob (xext 1 (shr a83)) fun a86 =>
 mk (ob (Z7D PP false [(shr x2), (shr (shr (shr a85)))]) fun a87 =>
 mk (ob (xbin PP .lss 3 (shr (shr (shr a86))) (iv 0)) fun a88 =>
 asB (shr a88) fun t89 => br t89 (Zpd m0 (shr a87) x45 x46 x47 (gcB m0 [(shr a87), x45, x46, x47] B84))
 (ob (xbin PP .lss 3 (shr x3) (iv 0)) fun a90 =>
 asB (shr a90) fun t91 => br t91 (Zpd m0 (shr a87) x45 x46 x47 (gcB m0 [(shr a87), x45, x46, x47] B84))
 (ZtI m0 (shr a87) x3 (shr (shr a86)) x45 x46 x47 (gcB m0 [(shr a87), x3, (shr (shr a86)), x45, x46, x47] B84))))))) := by kernel_rfl
theorem ZzZ m0 x2 x45 x46 x47 B : Zpd m0 x2 x45 x46 x47 B =
 mk (Zpe m0 x2 (iv (-1)) x45 x46 x47 (gcB m0 [x2, (iv (-1)), x45, x46, x47] B)) := by kernel_rfl
theorem ZA0 m0 x2 x3 x11 x45 x46 x47 B : ZtI m0 x2 x3 x11 x45 x46 x47 B =
 mk (ob (Z7D PP true [(shr x3), (shr x11)]) fun a92 =>
 Zpe m0 x2 (shr a92) x45 x46 x47 (gcB m0 [x2, (shr a92), x45, x46, x47] B)) := by kernel_rfl
theorem ZA1 m0 x2 x3 x45 x46 x47 B : Zpe m0 x2 x3 x45 x46 x47 B =
 mk (ob (xbin PP .add 3 x47 (iv 1)) fun a93 =>
 Zj0 m0 x2 x3 x45 x46 (shr a93) (gcB m0 [x2, x3, x45, x46, (shr a93)] B)) := by kernel_rfl
theorem ZH3 x0 B : EE 93 [x0] B =
 (let m0 := B.length
 mk (bx x0 B fun a1 B2 =>
 mk (ob (xfld 0 a1) fun a3 =>
 ob (ldN false 1 a3 B2) fun a4 =>
 mk (ob (xbin PP .eql 3 a4 (iv 1)) fun a5 =>
 asB (shr a5) fun t6 => br t6 (mk (Zj2 (iv 1) (iv 1) B2))
 (mk (ob (xbin PP .eql 3 a4 (iv 6)) fun a7 =>
 asB (shr a7) fun t8 => br t8 (mk (Zj2 (iv 0) (iv (-1)) B2))
 (mk (ob (xbin PP .eql 3 a4 (iv 2)) fun a9 =>
 asB (shr a9) fun t10 => br t10 (mk (ob (xfld 6 a1) fun a11 =>
 ob (ldN false 1 a11 B2) fun a12 =>
 ob (xlen PP 96 a12) fun a13 =>
 Zlu m0 (iv 0) (iv 0) a12 a13 (iv 0) (gcB m0 [(iv 0), (iv 0), a12, a13, (iv 0)] B2)))
 (mk (ob (xbin PP .eql 3 a4 (iv 3)) fun a14 =>
 asB (shr a14) fun t15 => br t15 (mk (mk (ob (xfld 6 a1) fun a16 =>
 ob (ldN false 1 a16 B2) fun a17 =>
 ob (xlen PP 96 a17) fun a18 =>
 Zj0 m0 (iv 1048576) (iv 0) a17 a18 (iv 0) (gcB m0 [(iv 1048576), (iv 0), a17, a18, (iv 0)] B2))))
 (mk (ob (xbin PP .eql 3 a4 (iv 4)) fun a19 =>
 asB (shr a19) fun t20 => br t20 (mk (ob (xfld 6 a1) fun a21 =>
 ob (ldN false 1 a21 B2) fun a22 =>
 ob (xidx 7 a22 (iv 0)) fun a23 =>
 ob (ldN true 7 a23 B2) fun a24 =>
 callS false EE 93 [a24] B2 fun a25 B26 =>
 ob (xext 0 (shr a25)) fun a27 =>
 ob (xext 1 (shr a25)) fun a28 =>
 mk (ob (xfld 1 a1) fun a29 =>
 ob (ldN false 1 a29 B26) fun a30 =>
 ob (xbin PP .mul 3 (shr (shr (shr a27))) a30) fun a31 =>
 ob (Z7D PP false [a31, (iv 1048576)]) fun a32 =>
 ob (xfld 2 a1) fun a33 =>
 ob (ldN false 1 a33 B26) fun a34 =>
 callS false EE 108 [(shr (shr (shr a28))), a34] B26 fun a35 B36 =>
 grd (Zm1 [a35, (shr (shr (shr a28))), a34]) (Zj2 (shr a32) (shr a35) B36))))
 (mk (ob (xbin PP .eql 3 a4 (iv 5)) fun a37 =>
 asB (shr a37) fun t38 => br t38 (asB (shr a37) fun t39 => br t39 (mk (ob (xfld 6 a1) fun a40 =>
 ob (ldN false 1 a40 B2) fun a41 =>
 ob (xidx 7 a41 (iv 0)) fun a42 =>
 ob (ldN true 7 a42 B2) fun a43 =>
 callS false EE 93 [a43] B2 fun a44 B45 =>
 ob (xext 0 a44) fun a46 =>
 ob (xext 1 a44) fun a47 =>
 Zj2 (shr (shr a46)) (shr (shr a47)) B45))
 (Zj1 m0 (iv 0) (iv 0) (gcB m0 [(iv 0), (iv 0)] B2)))
 (mk (ob (xbin PP .eql 3 a4 (iv 8)) fun a48 =>
 asB (shr a48) fun t49 => br t49 (mk (ob (xfld 6 a1) fun a50 =>
 ob (ldN false 1 a50 B2) fun a51 =>
 ob (xidx 7 a51 (iv 0)) fun a52 =>
 ob (ldN true 7 a52 B2) fun a53 =>
 callS false EE 93 [a53] B2 fun a54 B55 =>
 ob (xext 0 a54) fun a56 =>
 ob (xext 1 a54) fun a57 =>
 Zj2 (shr (shr a56)) (shr (shr a57)) B55))
 (Zj1 m0 (iv 0) (iv 0) (gcB m0 [(iv 0), (iv 0)] B2)))))))))))))))))) := (E_eq PP XX HH _ _ _).trans (by kernel_rfl)
def ZFn (r0 : AV) (B : List Row) : Option Res :=
 ob (ob (some r0) fun v => ob (some []) fun vs => some (v :: vs)) fun vs => some ((nrmA (match vs with | [v] => v | vs => Z1Q (vs.map shr))), B)
theorem ZH7 x0 x1 B : EE 94 [x0, x1] B =
 (let m0 := B.length
 mk (mk (callS false EE 109 [(shr x0), (shr x1)] B fun a1 B2 =>
 ob (xbin PP .geq 3 a1 (iv 0)) fun a3 =>
 ZFn (shr a3) B2))) := (E_eq PP XX HH _ _ _).trans (by kernel_rfl)
def ZFo (r0 : AV) (B : List Row) : Option Res :=
 ob (ob (some r0) fun v => ob (some []) fun vs => some (v :: vs)) fun vs => some ((nrmA (match vs with | [v] => v | vs => Z1Q (vs.map shr))), B)
theorem ZH8 x0 B : EE 95 [x0] B =
 (let m0 := B.length
 mk (bx x0 B fun a1 B2 =>
 mk (ob (ldN true 7 a1 B2) fun a3 =>
 callS false EE 71 [a3] B2 fun a4 B5 =>
 ob (xun PP .not a4) fun a6 =>
 ZFo (shr a6) B5))) := (E_eq PP XX HH _ _ _).trans (by kernel_rfl)
def ZG2 : Code := Z2I Tryz.f104
def ZuL (r0 : AV) (B : List Row) : Option Res :=
 ob (ob (some r0) fun v => ob (some []) fun vs => some (v :: vs)) fun vs => some ((nrmA (match vs with | [v] => v | vs => Z1Q (vs.map shr))), B)
def ZDZ (m0 : Nat) : Kont := kret PP HH 104 Tryz.f104.results
def Zsa (m0 : Nat) (x0 : AV) (B : List Row) : Option Res := exec PP HH 104 m0 EE LL (l2 (l2 ZG2)) (ZDZ m0) [(0, x0)] B
theorem Zyp m0 x0 B : Zsa m0 x0 B =
 mk (ob (Z1Z (shr x0)) fun a10 =>
 ob (xfld 0 a10) fun a11 =>
 ob (ldN false 1 a11 B) fun a12 =>
 ob (Z1Z (shr x0)) fun a13 =>
 ob (xfld 1 a13) fun a14 =>
 ob (ldN false 1 a14 B) fun a15 =>
 callS false EE 126 [a12, a15] B fun a16 B17 =>
 ob (xext 0 (shr a16)) fun a18 =>
 ob (xext 1 (shr a16)) fun a19 =>
 mk (ZuL (shr (shr (shr (shr a18)))) B17)) := by kernel_rfl
theorem ZDY x0 B : EE 104 [x0] B =
 (let m0 := B.length
 mk (mk (ob (Z1Z (shr x0)) fun a1 =>
 ob (xfld 1 a1) fun a2 =>
 ob (ldN false 1 a2 B) fun a3 =>
 ob (Z1Z (shr x0)) fun a4 =>
 ob (xfld 0 a4) fun a5 =>
 ob (ldN false 1 a5 B) fun a6 =>
 ob (xlen PP 141 a6) fun a7 =>
 ob (xbin PP .geq 3 a3 a7) fun a8 =>
 asB a8 fun t9 => br t9 (mk (ZuL (iv (-1)) B))
 (Zsa m0 x0 (gcB m0 [x0] B))))) := (E_eq PP XX HH _ _ _).trans (by kernel_rfl)
def ZG3 : Code := Z2I Tryz.f105
def Z6K (r0 r1 : AV) (B : List Row) : Option Res :=
 ob (ob (ldN true 7 r0 B) fun v => ob (ob (some r1) fun v => ob (some []) fun vs => some (v :: vs)) fun vs => some (v :: vs)) fun vs => some ((nrmA (match vs with | [v] => v | vs => Z1Q (vs.map shr))), B)
def ZE1 (m0 : Nat) : Kont := kret PP HH 105 Tryz.f105.results
def Z7u (m0 : Nat) (x2 : AV) (B : List Row) : Option Res := exec PP HH 105 m0 EE LL (l2 (l2 (l2 ZG3))) (ZE1 m0) [(2, x2)] B
theorem ZwS m0 x2 B : Z7u m0 x2 B =
 mk (ob (Z1F PP 98 []) fun a151 =>
 stN 7 x2 a151 B fun B152 =>
 Z6K x2 (bv true) B152) := by kernel_rfl
theorem ZE0 x0 B : EE 105 [x0] B =
 (let m0 := B.length
 mk (bz PP 98 B fun a1 B2 =>
 mk (ob (Z1Z (shr x0)) fun a3 =>
 ob (xfld 1 a3) fun a4 =>
 ob (ldN false 1 a4 B2) fun a5 =>
 mk (callS false EE 127 [(shr x0)] B2 fun a6 B7 =>
 mk (mk (ob (xbin PP .eql 3 (shr (shr a6)) (iv 46)) fun a8 =>
 asB (shr a8) fun t9 => br t9 (mk (callS false EE 129 [(iv 10)] B7 fun a10 B11 =>
 ob (xlit PP 94 1 [(0, a10)]) fun a12 =>
 callS false EE 128 [(bv true), a12] B11 fun a13 B14 =>
 stN 7 a1 a13 B14 fun B15 =>
 Z6K a1 (bv true) B15))
 (mk (ob (xbin PP .eql 3 (shr (shr a6)) (iv 94)) fun a16 =>
 asB (shr a16) fun t17 => br t17 (mk (ob (Z1F PP 98 [(0, (iv 9)), (4, (iv 0))]) fun a18 =>
 stN 7 a1 a18 B7 fun B19 =>
 Z6K a1 (bv false) B19))
 (mk (ob (xbin PP .eql 3 (shr (shr a6)) (iv 36)) fun a20 =>
 asB (shr a20) fun t21 => br t21 (mk (ob (Z1F PP 98 [(0, (iv 9)), (4, (iv 1))]) fun a22 =>
 stN 7 a1 a22 B7 fun B23 =>
 Z6K a1 (bv false) B23))
 (mk (ob (xbin PP .eql 3 (shr (shr a6)) (iv 92)) fun a24 =>
 asB (shr a24) fun t25 => br t25 (mk (callS false EE 130 [(shr x0), (shr (shr a5))] B7 fun a26 B27 =>
 bz PP 98 B27 fun a28 B29 =>
 stN 7 a28 a26 B29 fun B30 =>
 mk (ob (ldN true 7 a28 B30) fun a31 =>
 ob (xfld 0 a28) fun a32 =>
 ob (ldN false 1 a32 B30) fun a33 =>
 ob (xbin PP .neq 3 a33 (iv 9)) fun a34 =>
 stN 7 a1 a31 B30 fun B35 =>
 grd (ZbJ a32 a1) (Z6K a1 (shr a34) B35))))
 (mk (ob (xbin PP .eql 3 (shr (shr a6)) (iv 91)) fun a36 =>
 asB (shr a36) fun t37 => br t37 (mk (callS false EE 131 [(shr x0), (shr (shr a5))] B7 fun a38 B39 =>
 stN 7 a1 a38 B39 fun B40 =>
 Z6K a1 (bv true) B40))
 (mk (ob (xbin PP .eql 3 (shr (shr a6)) (iv 40)) fun a41 =>
 asB (shr a41) fun t42 => br t42 (mk (callS false EE 132 [(shr x0), (shr (shr a5))] B7 fun a43 B44 =>
 ob (xext 0 a43) fun a45 =>
 ob (xext 1 a43) fun a46 =>
 stN 7 a1 (shr a45) B44 fun B47 =>
 Z6K a1 (shr (shr a46)) B47))
 (mk (ob (xbin PP .eql 3 (shr (shr a6)) (iv 42)) fun a48 =>
 asB (shr a48) fun t49 => br t49 (asB (shr a48) fun t50 => br t50 (mk (callS false EE 70 [(shr x0), (iv 23), (shr (shr a5))] B7 fun a51 B52 =>
 Z7u m0 a1 (gcB m0 [a1] B52)))
 (mk (ob (xbin PP .eql 3 (shr (shr a6)) (iv 93)) fun a53 =>
 asB (shr a53) fun t54 => br t54 (asB (shr a53) fun t55 => br t55 (mk (callS false EE 70 [(shr x0), (iv 20), (shr (shr a5))] B7 fun a56 B57 =>
 Z7u m0 a1 (gcB m0 [a1] B57)))
 (mk (callS false EE 129 [(shr (shr a6))] B7 fun a58 B59 =>
 ob (xlit PP 94 1 [(0, a58)]) fun a60 =>
 callS false EE 128 [(bv false), a60] B59 fun a61 B62 =>
 stN 7 a1 a61 B62 fun B63 =>
 Z6K a1 (bv true) B63)))
 (mk (ob (xbin PP .eql 3 (shr (shr a6)) (iv 125)) fun a64 =>
 asB (shr a64) fun t65 => br t65 (mk (callS false EE 70 [(shr x0), (iv 20), (shr (shr a5))] B7 fun a66 B67 =>
 Z7u m0 a1 (gcB m0 [a1] B67)))
 (mk (callS false EE 129 [(shr (shr a6))] B7 fun a68 B69 =>
 ob (xlit PP 94 1 [(0, a68)]) fun a70 =>
 callS false EE 128 [(bv false), a70] B69 fun a71 B72 =>
 stN 7 a1 a71 B72 fun B73 =>
 Z6K a1 (bv true) B73)))))))
 (mk (ob (xbin PP .eql 3 (shr (shr a6)) (iv 43)) fun a74 =>
 asB (shr a74) fun t75 => br t75 (asB (shr a74) fun t76 => br t76 (mk (callS false EE 70 [(shr x0), (iv 23), (shr (shr a5))] B7 fun a77 B78 =>
 Z7u m0 a1 (gcB m0 [a1] B78)))
 (mk (ob (xbin PP .eql 3 (shr (shr a6)) (iv 93)) fun a79 =>
 asB (shr a79) fun t80 => br t80 (asB (shr a79) fun t81 => br t81 (mk (callS false EE 70 [(shr x0), (iv 20), (shr (shr a5))] B7 fun a82 B83 =>
 Z7u m0 a1 (gcB m0 [a1] B83)))
 (mk (callS false EE 129 [(shr (shr a6))] B7 fun a84 B85 =>
 ob (xlit PP 94 1 [(0, a84)]) fun a86 =>
 callS false EE 128 [(bv false), a86] B85 fun a87 B88 =>
 stN 7 a1 a87 B88 fun B89 =>
 Z6K a1 (bv true) B89)))
 (mk (ob (xbin PP .eql 3 (shr (shr a6)) (iv 125)) fun a90 =>
 asB (shr a90) fun t91 => br t91 (mk (callS false EE 70 [(shr x0), (iv 20), (shr (shr a5))] B7 fun a92 B93 =>
 Z7u m0 a1 (gcB m0 [a1] B93)))
 (mk (callS false EE 129 [(shr (shr a6))] B7 fun a94 B95 =>
 ob (xlit PP 94 1 [(0, a94)]) fun a96 =>
 callS false EE 128 [(bv false), a96] B95 fun a97 B98 =>
 stN 7 a1 a97 B98 fun B99 =>
 Z6K a1 (bv true) B99)))))))
 (mk (ob (xbin PP .eql 3 (shr (shr a6)) (iv 63)) fun a100 =>
 asB (shr a100) fun t101 => br t101 (asB (shr a100) fun t102 => br t102 (mk (callS false EE 70 [(shr x0), (iv 23), (shr (shr a5))] B7 fun a103 B104 =>
 Z7u m0 a1 (gcB m0 [a1] B104)))
 (mk (ob (xbin PP .eql 3 (shr (shr a6)) (iv 93)) fun a105 =>
 asB (shr a105) fun t106 => br t106 (asB (shr a105) fun t107 => br t107 (mk (callS false EE 70 [(shr x0), (iv 20), (shr (shr a5))] B7 fun a108 B109 =>
 Z7u m0 a1 (gcB m0 [a1] B109)))
 (mk (callS false EE 129 [(shr (shr a6))] B7 fun a110 B111 =>
 ob (xlit PP 94 1 [(0, a110)]) fun a112 =>
 callS false EE 128 [(bv false), a112] B111 fun a113 B114 =>
 stN 7 a1 a113 B114 fun B115 =>
 Z6K a1 (bv true) B115)))
 (mk (ob (xbin PP .eql 3 (shr (shr a6)) (iv 125)) fun a116 =>
 asB (shr a116) fun t117 => br t117 (mk (callS false EE 70 [(shr x0), (iv 20), (shr (shr a5))] B7 fun a118 B119 =>
 Z7u m0 a1 (gcB m0 [a1] B119)))
 (mk (callS false EE 129 [(shr (shr a6))] B7 fun a120 B121 =>
 ob (xlit PP 94 1 [(0, a120)]) fun a122 =>
 callS false EE 128 [(bv false), a122] B121 fun a123 B124 =>
 stN 7 a1 a123 B124 fun B125 =>
 Z6K a1 (bv true) B125)))))))
 (mk (ob (xbin PP .eql 3 (shr (shr a6)) (iv 123)) fun a126 =>
 asB (shr a126) fun t127 => br t127 (mk (callS false EE 70 [(shr x0), (iv 23), (shr (shr a5))] B7 fun a128 B129 =>
 Z7u m0 a1 (gcB m0 [a1] B129)))
 (mk (ob (xbin PP .eql 3 (shr (shr a6)) (iv 93)) fun a130 =>
 asB (shr a130) fun t131 => br t131 (asB (shr a130) fun t132 => br t132 (mk (callS false EE 70 [(shr x0), (iv 20), (shr (shr a5))] B7 fun a133 B134 =>
 Z7u m0 a1 (gcB m0 [a1] B134)))
 (mk (callS false EE 129 [(shr (shr a6))] B7 fun a135 B136 =>
 ob (xlit PP 94 1 [(0, a135)]) fun a137 =>
 callS false EE 128 [(bv false), a137] B136 fun a138 B139 =>
 stN 7 a1 a138 B139 fun B140 =>
 Z6K a1 (bv true) B140)))
 (mk (ob (xbin PP .eql 3 (shr (shr a6)) (iv 125)) fun a141 =>
 asB (shr a141) fun t142 => br t142 (mk (callS false EE 70 [(shr x0), (iv 20), (shr (shr a5))] B7 fun a143 B144 =>
 Z7u m0 a1 (gcB m0 [a1] B144)))
 (mk (callS false EE 129 [(shr (shr a6))] B7 fun a145 B146 =>
 ob (xlit PP 94 1 [(0, a145)]) fun a147 =>
 callS false EE 128 [(bv false), a147] B146 fun a148 B149 =>
 stN 7 a1 a148 B149 fun B150 =>
 Z6K a1 (bv true) B150)))))))))))))))))))))))))))))) := (E_eq PP XX HH _ _ _).trans (by kernel_rfl)
def ZuM : Code := Z2I Tryz.f106
def ZuN (r0 : AV) (B : List Row) : Option Res :=
 ob (ob (ldN true 7 r0 B) fun v => ob (some []) fun vs => some (v :: vs)) fun vs => some ((nrmA (match vs with | [v] => v | vs => Z1Q (vs.map shr))), B)
def Zsb (m0 : Nat) : Kont := kret PP HH 106 Tryz.f106.results
def Zgn (m0 : Nat) (x0 x2 x6 x7 x8 : AV) (B : List Row) : Option Res := exec PP HH 106 m0 EE LL (l2 (l2 (l2 (l2 ZuM)))) (Zsb m0) [(0, x0), (2, x2), (6, x6), (7, x7), (8, x8)] B
def Zmm (m0 : Nat) (x0 x6 x8 : AV) (B : List Row) : Option Res := exec PP HH 106 m0 EE LL (l2 (l2 (l2 (l2 (l2 ZuM))))) (Zsb m0) [(0, x0), (6, x6), (8, x8)] B
def Zjd (m0 : Nat) (x6 x8 : AV) (B : List Row) : Option Res := exec PP HH 106 m0 EE LL (l2 (l2 (l2 (l2 (l2 (l2 ZuM)))))) (Zsb m0) [(6, x6), (8, x8)] B
theorem ZwT m0 x0 x2 x6 x7 x8 B : Zgn m0 x0 x2 x6 x7 x8 B =
 mk (ob (xun PP .not (shr x2)) fun a40 =>
 asB a40 fun t41 => br t41 (mk (callS false EE 70 [(shr x0), (iv 23), (shr x7)] B fun a42 B43 =>
 Zmm m0 x0 x6 x8 (gcB m0 [x0, x6, x8] B43)))
 (Zmm m0 x0 x6 x8 (gcB m0 [x0, x6, x8] B))) := by kernel_rfl
theorem ZwU m0 x0 x6 x8 B : Zmm m0 x0 x6 x8 B =
 mk (callS false EE 68 [(shr x0), (.p (.v (.string (ByteArray.mk #[63]))))] B fun a44 B45 =>
 asB (shr a44) fun t46 => br t46 (mk (ob (xfld 3 x8) fun a47 =>
 stN 1 a47 (iv 1) B45 fun B48 =>
 Zjd m0 x6 x8 (gcB m0 [x6, x8] B48)))
 (mk (callS false EE 68 [(shr x0), (.p (.v (.string (ByteArray.mk #[43]))))] B45 fun a49 B50 =>
 asB (shr a49) fun t51 => br t51 (mk (ob (xfld 3 x8) fun a52 =>
 stN 1 a52 (iv 2) B50 fun B53 =>
 Zjd m0 x6 x8 (gcB m0 [x6, x8] B53)))
 (Zjd m0 x6 x8 (gcB m0 [x6, x8] B50))))) := by kernel_rfl
theorem ZwV m0 x6 x8 B : Zjd m0 x6 x8 B =
 mk (ob (ldN true 7 x8 B) fun a54 =>
 stN 7 x6 a54 B fun B55 =>
 ZuN x6 B55) := by kernel_rfl
theorem ZE2 x0 x1 x2 B : EE 106 [x0, x1, x2] B =
 (let m0 := B.length
 mk (bx x1 B fun a1 B2 =>
 bz PP 98 B2 fun a3 B4 =>
 mk (ob (Z1Z (shr x0)) fun a5 =>
 ob (xfld 1 a5) fun a6 =>
 ob (ldN false 1 a6 B4) fun a7 =>
 mk (ob (ldN true 7 a1 B4) fun a8 =>
 ob (xlit PP 96 1 [(0, a8)]) fun a9 =>
 ob (Z1F PP 98 [(0, (iv 4)), (2, (iv (-1))), (6, a9)]) fun a10 =>
 bz PP 98 B4 fun a11 B12 =>
 stN 7 a11 a10 B12 fun B13 =>
 mk (callS false EE 68 [(shr x0), (.p (.v (.string (ByteArray.mk #[42]))))] B13 fun a14 B15 =>
 asB (shr a14) fun t16 => br t16 (Zgn m0 x0 x2 a3 (shr a7) a11 (gcB m0 [x0, x2, a3, (shr a7), a11] B15))
 (mk (callS false EE 68 [(shr x0), (.p (.v (.string (ByteArray.mk #[43]))))] B15 fun a17 B18 =>
 asB (shr a17) fun t19 => br t19 (mk (ob (xfld 1 a11) fun a20 =>
 stN 1 a20 (iv 1) B18 fun B21 =>
 Zgn m0 x0 x2 a3 (shr a7) a11 (gcB m0 [x0, x2, a3, (shr a7), a11] B21)))
 (mk (callS false EE 68 [(shr x0), (.p (.v (.string (ByteArray.mk #[63]))))] B18 fun a22 B23 =>
 asB (shr a22) fun t24 => br t24 (mk (ob (xfld 2 a11) fun a25 =>
 stN 1 a25 (iv 1) B23 fun B26 =>
 Zgn m0 x0 x2 a3 (shr a7) a11 (gcB m0 [x0, x2, a3, (shr a7), a11] B26)))
 (mk (callS false EE 68 [(shr x0), (.p (.v (.string (ByteArray.mk #[123]))))] B23 fun a27 B28 =>
 asB (shr a27) fun t29 => br t29 (mk (callS false EE 133 [(shr x0), (shr (shr a7))] B28 fun a30 B31 =>
 ob (xext 0 (shr a30)) fun a32 =>
 ob (xext 1 (shr a30)) fun a33 =>
 ob (xfld 1 a11) fun a34 =>
 stN 1 a34 (shr a32) B31 fun B35 =>
 ob (xfld 2 a11) fun a36 =>
 stN 1 a36 (shr a33) B35 fun B37 =>
 Zgn m0 x0 x2 a3 (shr a7) a11 (gcB m0 [x0, x2, a3, (shr a7), a11] B37)))
 (mk (ob (ldN true 7 a1 B28) fun a38 =>
 stN 7 a3 a38 B28 fun B39 =>
 ZuN a3 B39))))))))))))) := (E_eq PP XX HH _ _ _).trans (by kernel_rfl)
def Zr9 : Code := Z2I Tryz.f107
def ZuO (r0 : AV) (B : List Row) : Option Res :=
 ob (ob (some r0) fun v => ob (some []) fun vs => some (v :: vs)) fun vs => some ((nrmA (match vs with | [v] => v | vs => Z1Q (vs.map shr))), B)
def Zsc (m0 : Nat) : Kont := kret PP HH 107 Tryz.f107.results
def ZE4 (m0 : Nat) : Kont := kseq HH 107 m0 (l2 (l2 Zr9)) (exec PP HH 107 m0 EE LL (l2 (l2 Zr9)) (Zsc m0)) (Zsc m0)
def ZoR (m0 : Nat) (B : List Row) : Option Res := exec PP HH 107 m0 EE LL (l1 (l2 (l1 (l2 Zr9)))) (ZE4 m0) [] B
def Zsd (m0 : Nat) (x0 x1 : AV) (B : List Row) : Option Res := exec PP HH 107 m0 EE LL (l2 (l2 Zr9)) (Zsc m0) [(0, x0), (1, x1)] B
theorem Zyq m0 B : ZoR m0  B =
 mk (ZuO (iv (-1)) B) := by kernel_rfl
theorem Zyr m0 x0 x1 B : Zsd m0 x0 x1 B =
 mk (ob (xbin PP .add 3 (shr x0) (shr x1)) fun a5 =>
 callS false EE 134 [a5] B fun a6 B7 =>
 ZuO (shr a6) B7) := by kernel_rfl
theorem ZE3 x0 x1 B : EE 107 [x0, x1] B =
 (let m0 := B.length
 mk (mk (ob (xbin PP .lss 3 (shr x0) (iv 0)) fun a1 =>
 asB (shr a1) fun t2 => br t2 (ZoR m0  (gcB m0 [] B))
 (ob (xbin PP .lss 3 (shr x1) (iv 0)) fun a3 =>
 asB (shr a3) fun t4 => br t4 (ZoR m0  (gcB m0 [] B))
 (Zsd m0 x0 x1 (gcB m0 [x0, x1] B)))))) := (E_eq PP XX HH _ _ _).trans (by kernel_rfl)
def Zle : Code := Z2I Tryz.f108
def Zq9 (r0 : AV) (B : List Row) : Option Res :=
 ob (ob (some r0) fun v => ob (some []) fun vs => some (v :: vs)) fun vs => some ((nrmA (match vs with | [v] => v | vs => Z1Q (vs.map shr))), B)
def Zse (m0 : Nat) : Kont := kret PP HH 108 Tryz.f108.results
def ZE6 (m0 : Nat) : Kont := kseq HH 108 m0 (l2 (l2 Zle)) (exec PP HH 108 m0 EE LL (l2 (l2 Zle)) (Zse m0)) (Zse m0)
def Zsf (m0 : Nat) : Kont := kblk 0 (ZE6 m0)
def ZoS (m0 : Nat) (B : List Row) : Option Res := exec PP HH 108 m0 EE LL (l1 (l2 (l1 (l1 (l2 Zle))))) (Zsf m0) [] B
def Zsg (m0 : Nat) (x0 x1 : AV) (B : List Row) : Option Res := exec PP HH 108 m0 EE LL (l2 (l2 (l1 (l1 (l2 Zle))))) (Zsf m0) [(0, x0), (1, x1)] B
def ZoT (m0 : Nat) (B : List Row) : Option Res := exec PP HH 108 m0 EE LL (l1 (l2 (l2 (l2 (l1 (l1 (l2 Zle))))))) (Zsf m0) [] B
def Zsh (m0 : Nat) (x0 x1 : AV) (B : List Row) : Option Res := exec PP HH 108 m0 EE LL (l2 (l2 Zle)) (Zse m0) [(0, x0), (1, x1)] B
theorem Zys m0 B : ZoS m0  B =
 mk (Zq9 (iv 0) B) := by kernel_rfl
theorem Zyt m0 x0 x1 B : Zsg m0 x0 x1 B =
 mk (ob (xbin PP .lss 3 (shr x0) (iv 0)) fun a5 =>
 asB (shr a5) fun t6 => br t6 (ZoT m0  (gcB m0 [] B))
 (ob (xbin PP .lss 3 (shr x1) (iv 0)) fun a7 =>
 asB (shr (shr a7)) fun t8 => br t8 (ZoT m0  (gcB m0 [] B))
 (Zsh m0 x0 x1 (gcB m0 [x0, x1] B)))) := by kernel_rfl
theorem Zyu m0 B : ZoT m0  B =
 mk (Zq9 (iv (-1)) B) := by kernel_rfl
theorem Zyv m0 x0 x1 B : Zsh m0 x0 x1 B =
 mk (ob (xbin PP .mul 3 (shr x0) (shr x1)) fun a9 =>
 callS false EE 134 [a9] B fun a10 B11 =>
 Zq9 (shr a10) B11) := by kernel_rfl
theorem ZE5 x0 x1 B : EE 108 [x0, x1] B =
 (let m0 := B.length
 mk (mk (ob (xbin PP .eql 3 (shr x0) (iv 0)) fun a1 =>
 asB (shr a1) fun t2 => br t2 (ZoS m0  (gcB m0 [] B))
 (ob (xbin PP .eql 3 (shr x1) (iv 0)) fun a3 =>
 asB (shr (shr a3)) fun t4 => br t4 (ZoS m0  (gcB m0 [] B))
 (Zsg m0 x0 x1 (gcB m0 [x0, x1] B)))))) := (E_eq PP XX HH _ _ _).trans (by kernel_rfl)
def Zhf : Code := Z2I Tryz.f109
def ZuP (r0 : AV) (B : List Row) : Option Res :=
 ob (ob (some r0) fun v => ob (some []) fun vs => some (v :: vs)) fun vs => some ((nrmA (match vs with | [v] => v | vs => Z1Q (vs.map shr))), B)
def Zsi (m0 : Nat) : Kont := kret PP HH 109 Tryz.f109.results
def ZE8 (m0 : Nat) : Kont := kseq HH 109 m0 (l2 (l2 Zhf)) (exec PP HH 109 m0 EE LL (l2 (l2 Zhf)) (Zsi m0)) (Zsi m0)
def Zsj (m0 : Nat) : Kont := kblk 0 (ZE8 m0)
def ZxF (m0 : Nat) : Kont := kloop HH 109 m0 (l1 (l1 (l2 (l1 (l2 Zhf))))) (LL 109 m0 (l1 (l1 (l2 (l1 (l2 Zhf))))) (Zsj m0)) (Zsj m0)
def ZiJ (m0 : Nat) (x0 x1 x7 x8 : AV) (B : List Row) : Option Res := lp (LL 109 m0 (l1 (l1 (l2 (l1 (l2 Zhf))))) (Zsj m0) [(0, x0), (1, x1), (7, x7), (8, x8)] B)
def Zsk (m0 : Nat) (x0 x1 x7 x8 : AV) (B : List Row) : Option Res := exec PP HH 109 m0 EE LL (l2 (l2 (l1 (l1 (l2 (l1 (l2 Zhf))))))) (ZxF m0) [(0, x0), (1, x1), (7, x7), (8, x8)] B
def Zsm (m0 : Nat) (B : List Row) : Option Res := exec PP HH 109 m0 EE LL (l2 (l2 Zhf)) (Zsi m0) [] B
def Zsl (m0 : Nat) (x0 x1 x7 x8 : AV) (B : List Row) : Option Res := exec PP HH 109 m0 EE LL (l2 (l2 (l2 (l1 (l1 (l2 (l1 (l2 Zhf)))))))) (ZxF m0) [(0, x0), (1, x1), (7, x7), (8, x8)] B
theorem Zyw m0 x0 x1 x7 x8 B : ZiJ m0 x0 x1 x7 x8 B =
 mk (ob (xbin PP .lss 3 x8 x7) fun a2 =>
 asB a2 fun t3 => br t3 (Zsk m0 x0 x1 x7 x8 (gcB m0 [x0, x1, x7, x8] B))
 (Zsm m0  (gcB m0 [] B))) := (L_eq PP XX HH _ _ _ _ _ _).trans (by kernel_rfl)
theorem Zyx m0 x0 x1 x7 x8 B : Zsk m0 x0 x1 x7 x8 B =
 mk (mk (ob (xidx 7 (shr x0) (shr (shr (shr x8)))) fun a4 =>
 ob (ldN true 7 a4 B) fun a5 =>
 callV HH EE (shr x1) [a5] B fun a6 B7 =>
 asB a6 fun t8 => br t8 (mk (ZuP (shr (shr (shr (shr x8)))) B7))
 (Zsl m0 x0 x1 x7 x8 (gcB m0 [x0, x1, x7, x8] B7)))) := by kernel_rfl
theorem Zyz m0 B : Zsm m0  B =
 mk (ZuP (iv (-1)) B) := by kernel_rfl
theorem Zyy m0 x0 x1 x7 x8 B : Zsl m0 x0 x1 x7 x8 B =
 mk (ob (xbin PP .add 3 x8 (iv 1)) fun a9 =>
 ZiJ m0 x0 x1 x7 (shr a9) (gcB m0 [x0, x1, x7, (shr a9)] B)) := by kernel_rfl
theorem ZE7 x0 x1 B : EE 109 [x0, x1] B =
 (let m0 := B.length
 mk (mk (ob (xlen PP 96 (shr x0)) fun a1 =>
 ZiJ m0 x0 x1 a1 (iv 0) (gcB m0 [x0, x1, a1, (iv 0)] B)))) := (E_eq PP XX HH _ _ _).trans (by kernel_rfl)
def Zhg : Code := Z2I Tryz.f126
def Zqa (r0 r1 : AV) (B : List Row) : Option Res :=
 ob (ob (some r0) fun v => ob (ob (some r1) fun v => ob (some []) fun vs => some (v :: vs)) fun vs => some (v :: vs)) fun vs => some ((nrmA (match vs with | [v] => v | vs => Z1Q (vs.map shr))), B)
def ZiK (m0 : Nat) : Kont := kret PP HH 126 Tryz.f126.results
def ZEa (m0 : Nat) : Kont := kseq HH 126 m0 (l2 (l2 Zhg)) (exec PP HH 126 m0 EE LL (l2 (l2 Zhg)) (ZiK m0)) (ZiK m0)
def ZEb (m0 : Nat) : Kont := kseq HH 126 m0 (l2 (l2 (l2 (l2 Zhg)))) (exec PP HH 126 m0 EE LL (l2 (l2 (l2 (l2 Zhg)))) (ZiK m0)) (ZiK m0)
def ZoU (m0 : Nat) (B : List Row) : Option Res := exec PP HH 126 m0 EE LL (l1 (l2 (l1 (l2 Zhg)))) (ZEa m0) [] B
def Zsn (m0 : Nat) (x0 x1 : AV) (B : List Row) : Option Res := exec PP HH 126 m0 EE LL (l2 (l2 Zhg)) (ZiK m0) [(0, x0), (1, x1)] B
def Zso (m0 : Nat) (x0 x1 : AV) (B : List Row) : Option Res := exec PP HH 126 m0 EE LL (l1 (l2 (l1 (l2 (l2 (l2 Zhg)))))) (ZEb m0) [(0, x0), (1, x1)] B
def ZoV (m0 : Nat) (x6 x7 : AV) (B : List Row) : Option Res := exec PP HH 126 m0 EE LL (l2 (l2 (l2 (l2 Zhg)))) (ZiK m0) [(6, x6), (7, x7)] B
theorem ZyA m0 B : ZoU m0  B =
 mk (Zqa (iv 0) (iv 0) B) := by kernel_rfl
theorem ZyB m0 x0 x1 B : Zsn m0 x0 x1 B =
 mk (ob (xsl 1 (shr x0) (some (shr x1)) none none) fun a6 =>
 callS false EE 146 [a6] B fun a7 B8 =>
 ob (xext 0 (shr a7)) fun a9 =>
 ob (xext 1 (shr a7)) fun a10 =>
 mk (ob (xbin PP .eql 21 (shr (shr (shr a9))) (kv .i32 65533)) fun a11 =>
 asB (shr a11) fun t12 => br t12 (ob (xbin PP .eql 3 (shr (shr (shr a10))) (iv 1)) fun a13 =>
 asB (shr a13) fun t14 => br t14 (Zso m0 x0 x1 (gcB m0 [x0, x1] B8))
 (ZoV m0 (shr (shr a9)) (shr (shr a10)) (gcB m0 [(shr (shr a9)), (shr (shr a10))] B8)))
 (ZoV m0 (shr (shr a9)) (shr (shr a10)) (gcB m0 [(shr (shr a9)), (shr (shr a10))] B8)))) := by kernel_rfl
theorem ZyC m0 x0 x1 B : Zso m0 x0 x1 B =
 mk (ob (xidx 1 (shr x0) (shr x1)) fun a15 =>
 ob (ldN false 1 a15 B) fun a16 =>
 ob (xcnv PP 5 3 a16) fun a17 =>
 ob (xbin PP .add 3 (iv 1114112) a17) fun a18 =>
 Zqa (shr a18) (iv 1) B) := by kernel_rfl
theorem ZyD m0 x6 x7 B : ZoV m0 x6 x7 B =
 mk (ob (xcnv PP 21 3 (shr x6)) fun a19 =>
 Zqa (shr a19) (shr (shr x7)) B) := by kernel_rfl
theorem ZE9 x0 x1 B : EE 126 [x0, x1] B =
 (let m0 := B.length
 mk (mk (ob (xbin PP .lss 3 (shr x1) (iv 0)) fun a1 =>
 asB (shr a1) fun t2 => br t2 (ZoU m0  (gcB m0 [] B))
 (ob (xlen PP 141 (shr x0)) fun a3 =>
 ob (xbin PP .geq 3 (shr x1) a3) fun a4 =>
 asB (shr a4) fun t5 => br t5 (ZoU m0  (gcB m0 [] B))
 (Zsn m0 x0 x1 (gcB m0 [x0, x1] B)))))) := (E_eq PP XX HH _ _ _).trans (by kernel_rfl)
def ZCN (r0 : AV) (B : List Row) : Option Res :=
 ob (ob (some r0) fun v => ob (some []) fun vs => some (v :: vs)) fun vs => some ((nrmA (match vs with | [v] => v | vs => Z1Q (vs.map shr))), B)
theorem ZEc x0 B : EE 127 [x0] B =
 (let m0 := B.length
 mk (mk (ob (Z1Z (shr x0)) fun a1 =>
 ob (xfld 0 a1) fun a2 =>
 ob (ldN false 1 a2 B) fun a3 =>
 ob (Z1Z (shr x0)) fun a4 =>
 ob (xfld 1 a4) fun a5 =>
 ob (ldN false 1 a5 B) fun a6 =>
 callS false EE 126 [a3, a6] B fun a7 B8 =>
 ob (xext 0 (shr a7)) fun a9 =>
 ob (xext 1 (shr a7)) fun a10 =>
 mk (ob (Z1Z (shr x0)) fun a11 =>
 ob (xfld 1 a11) fun a12 =>
 ob (ldN false 1 a12 B8) fun a13 =>
 ob (xbin PP .add 3 a13 (shr (shr (shr a10)))) fun a14 =>
 ob (Z1Z (shr x0)) fun a15 =>
 ob (xfld 1 a15) fun a16 =>
 stN 1 a16 a14 B8 fun B17 =>
 mk (ZCN (shr (shr (shr (shr a9)))) B17))))) := (E_eq PP XX HH _ _ _).trans (by kernel_rfl)
def ZG4 : Code := Z2I Tryz.f128
def ZCO (r0 : AV) (B : List Row) : Option Res :=
 ob (ob (ldN true 7 r0 B) fun v => ob (some []) fun vs => some (v :: vs)) fun vs => some ((nrmA (match vs with | [v] => v | vs => Z1Q (vs.map shr))), B)
def ZEe (m0 : Nat) : Kont := kret PP HH 128 Tryz.f128.results
def ZoW (m0 : Nat) (x4 x5 : AV) (B : List Row) : Option Res := exec PP HH 128 m0 EE LL (l2 (l2 (l2 ZG4))) (ZEe m0) [(4, x4), (5, x5)] B
theorem ZyE m0 x4 x5 B : ZoW m0 x4 x5 B =
 mk (ob (Z1F PP 98 [(0, (iv 1)), (5, (shr x5))]) fun a12 =>
 stN 7 x4 a12 B fun B13 =>
 ZCO x4 B13) := by kernel_rfl
theorem ZEd x0 x1 B : EE 128 [x0, x1] B =
 (let m0 := B.length
 mk (bz PP 98 B fun a1 B2 =>
 mk (callS false EE 147 [(shr x1)] B2 fun a3 B4 =>
 ob (xext 0 (shr a3)) fun a5 =>
 ob (xext 1 (shr a3)) fun a6 =>
 mk (asB (shr x0) fun t7 => br t7 (mk (callS false EE 148 [(shr (shr (shr a5)))] B4 fun a8 B9 =>
 ob (xext 0 (shr a8)) fun a10 =>
 ob (xext 1 (shr a8)) fun a11 =>
 ZoW m0 a1 (shr (shr a10)) (gcB m0 [a1, (shr (shr a10))] B9)))
 (ZoW m0 a1 (shr (shr a5)) (gcB m0 [a1, (shr (shr a5))] B4)))))) := (E_eq PP XX HH _ _ _).trans (by kernel_rfl)
def ZCP (r0 : AV) (B : List Row) : Option Res :=
 ob (ob (ldN true 2 r0 B) fun v => ob (some []) fun vs => some (v :: vs)) fun vs => some ((nrmA (match vs with | [v] => v | vs => Z1Q (vs.map shr))), B)
theorem ZEf x0 B : EE 129 [x0] B =
 (let m0 := B.length
 mk (bz PP 201 B fun a1 B2 =>
 mk (ob (Z1F PP 201 [(0, (shr x0)), (1, (shr x0))]) fun a3 =>
 stN 2 a1 a3 B2 fun B4 =>
 ZCP a1 B4))) := (E_eq PP XX HH _ _ _).trans (by kernel_rfl)
def Zo6 : Code := Z2I Tryz.f130
def Zgo (r0 : AV) (B : List Row) : Option Res :=
 ob (ob (ldN true 7 r0 B) fun v => ob (some []) fun vs => some (v :: vs)) fun vs => some ((nrmA (match vs with | [v] => v | vs => Z1Q (vs.map shr))), B)
def ZoX (m0 : Nat) : Kont := kret PP HH 130 Tryz.f130.results
def ZEh (m0 : Nat) : Kont := kseq HH 130 m0 (l2 (l2 (l2 (l2 (l2 Zo6))))) (exec PP HH 130 m0 EE LL (l2 (l2 (l2 (l2 (l2 Zo6))))) (ZoX m0)) (ZoX m0)
def ZEi (m0 : Nat) : Kont := kblk 0 (ZEh m0)
def Zsp (m0 : Nat) (x0 x1 x4 x5 : AV) (B : List Row) : Option Res := exec PP HH 130 m0 EE LL (l2 (l2 (l2 Zo6))) (ZoX m0) [(0, x0), (1, x1), (4, x4), (5, x5)] B
def Zqb (m0 : Nat) (x0 x1 x4 x5 : AV) (B : List Row) : Option Res := exec PP HH 130 m0 EE LL (l1 (l2 (l2 (l2 (l2 (l2 (l2 (l2 (l1 (l1 (l2 (l2 (l2 (l2 Zo6)))))))))))))) (ZEi m0) [(0, x0), (1, x1), (4, x4), (5, x5)] B
def Zmn (m0 : Nat) (x0 x1 x4 x5 : AV) (B : List Row) : Option Res := exec PP HH 130 m0 EE LL (l2 (l2 (l2 (l2 (l2 Zo6))))) (ZoX m0) [(0, x0), (1, x1), (4, x4), (5, x5)] B
theorem ZyF m0 x0 x1 x4 x5 B : Zsp m0 x0 x1 x4 x5 B =
 mk (callS false EE 127 [(shr x0)] B fun a11 B12 =>
 mk (callS true EE 149 [(shr x5)] B12 fun a13 B14 =>
 ob (xnil PP .neq 94 (.slice none 0 0) a13) fun a15 =>
 asB (shr a15) fun t16 => br t16 (mk (ob (xbin PP .lss 3 (shr x5) (iv 97)) fun a17 =>
 callS true EE 149 [(shr x5)] B14 fun a18 B19 =>
 callS false EE 128 [a17, a18] B19 fun a20 B21 =>
 stN 7 x4 a20 B21 fun B22 =>
 Zgo x4 B22))
 (mk (ob (xbin PP .eql 3 (shr x5) (iv 98)) fun a23 =>
 asB (shr a23) fun t24 => br t24 (mk (ob (Z1F PP 98 [(0, (iv 9)), (4, (iv 2))]) fun a25 =>
 stN 7 x4 a25 B14 fun B26 =>
 Zgo x4 B26))
 (mk (ob (xbin PP .eql 3 (shr x5) (iv 66)) fun a27 =>
 asB (shr a27) fun t28 => br t28 (mk (ob (Z1F PP 98 [(0, (iv 9)), (4, (iv 3))]) fun a29 =>
 stN 7 x4 a29 B14 fun B30 =>
 Zgo x4 B30))
 (mk (ob (xbin PP .geq 3 (shr x5) (iv 49)) fun a31 =>
 asB (shr a31) fun t32 => br t32 (ob (xbin PP .leq 3 (shr x5) (iv 57)) fun a33 =>
 asB (shr (shr a33)) fun t34 => br t34 (Zqb m0 x0 x1 x4 x5 (gcB m0 [x0, x1, x4, x5] B14))
 (Zmn m0 x0 x1 x4 x5 (gcB m0 [x0, x1, x4, x5] B14)))
 (Zmn m0 x0 x1 x4 x5 (gcB m0 [x0, x1, x4, x5] B14)))))))))) := by kernel_rfl
theorem ZwW m0 x0 x1 x4 x5 B : Zqb m0 x0 x1 x4 x5 B =
 mk (ob (Z1Z (shr x0)) fun a35 =>
 ob (xfld 4 a35) fun a36 =>
 ldOwn a36 B fun a37 B38 =>
 ob (xbin PP .sub 3 (shr x5) (iv 48)) fun a39 =>
 ob (Z1F PP 149 [(0, a39), (1, (shr x1))]) fun a40 =>
 ob (xlit PP 142 1 [(0, a40)]) fun a41 =>
 ob (xapp 2 a37 a41) fun a42 =>
 ob (Z1Z (shr x0)) fun a43 =>
 ob (xfld 4 a43) fun a44 =>
 stN 1 a44 a42 B38 fun B45 =>
 mk (ob (xbin PP .sub 3 (shr x5) (iv 48)) fun a46 =>
 ob (Z1F PP 98 [(0, (iv 6)), (4, a46)]) fun a47 =>
 stN 7 x4 a47 B45 fun B48 =>
 Zgo x4 B48)) := by kernel_rfl
theorem ZwX m0 x0 x1 x4 x5 B : Zmn m0 x0 x1 x4 x5 B =
 mk (callS false EE 150 [(shr x0), (shr x5), (shr x1)] B fun a49 B50 =>
 callS false EE 129 [a49] B50 fun a51 B52 =>
 ob (xlit PP 94 1 [(0, a51)]) fun a53 =>
 callS false EE 128 [(bv false), a53] B52 fun a54 B55 =>
 stN 7 x4 a54 B55 fun B56 =>
 Zgo x4 B56) := by kernel_rfl
theorem ZEg x0 x1 B : EE 130 [x0, x1] B =
 (let m0 := B.length
 mk (bz PP 98 B fun a1 B2 =>
 mk (callS false EE 104 [(shr x0)] B2 fun a3 B4 =>
 mk (ob (xbin PP .lss 3 (shr (shr a3)) (iv 0)) fun a5 =>
 asB a5 fun t6 => br t6 (mk (callS false EE 70 [(shr x0), (iv 21), (shr x1)] B4 fun a7 B8 =>
 mk (ob (Z1F PP 98 []) fun a9 =>
 stN 7 a1 a9 B8 fun B10 =>
 Zgo a1 B10)))
 (Zsp m0 x0 x1 a1 (shr a3) (gcB m0 [x0, x1, a1, (shr a3)] B4)))))) := (E_eq PP XX HH _ _ _).trans (by kernel_rfl)
def Z5t : Code := Z2I Tryz.f131
def ZuQ (r0 : AV) (B : List Row) : Option Res :=
 ob (ob (ldN true 7 r0 B) fun v => ob (some []) fun vs => some (v :: vs)) fun vs => some ((nrmA (match vs with | [v] => v | vs => Z1Q (vs.map shr))), B)
def Zsq (m0 : Nat) : Kont := kret PP HH 131 Tryz.f131.results
def ZEk (m0 : Nat) : Kont := kseq HH 131 m0 (l2 (l2 (l2 (l2 (l2 (l2 Z5t)))))) (exec PP HH 131 m0 EE LL (l2 (l2 (l2 (l2 (l2 (l2 Z5t)))))) (Zsq m0)) (Zsq m0)
def Zsr (m0 : Nat) : Kont := kblk 0 (ZEk m0)
def ZoY (m0 : Nat) : Kont := kloop HH 131 m0 (l1 (l1 (l1 (l2 (l2 (l2 (l2 (l2 Z5t)))))))) (LL 131 m0 (l1 (l1 (l1 (l2 (l2 (l2 (l2 (l2 Z5t)))))))) (Zsr m0)) (Zsr m0)
def ZEl (m0 : Nat) : Kont := kseq HH 131 m0 (l2 (l2 (l1 (l1 (l1 (l2 (l2 (l2 (l2 (l2 Z5t)))))))))) (exec PP HH 131 m0 EE LL (l2 (l2 (l1 (l1 (l1 (l2 (l2 (l2 (l2 (l2 Z5t)))))))))) (ZoY m0)) (ZoY m0)
def Zgp (m0 : Nat) : Kont := kblk 1 (ZEl m0)
def ZEm (m0 : Nat) : Kont := kseq HH 131 m0 (l2 (l2 (l1 (l1 (l2 (l1 (l1 (l1 (l2 (l2 (l2 (l2 (l2 Z5t))))))))))))) (exec PP HH 131 m0 EE LL (l2 (l2 (l1 (l1 (l2 (l1 (l1 (l1 (l2 (l2 (l2 (l2 (l2 Z5t))))))))))))) (Zgp m0)) (Zgp m0)
def ZxG (m0 : Nat) : Kont := kblk 2 (ZEm m0)
def ZoZ (m0 : Nat) : Kont := kseq HH 131 m0 (l2 (l2 (l2 (l2 (l2 (l2 (l1 (l1 (l2 (l1 (l1 (l1 (l2 (l2 (l2 (l2 (l2 Z5t))))))))))))))))) (exec PP HH 131 m0 EE LL (l2 (l2 (l2 (l2 (l2 (l2 (l1 (l1 (l2 (l1 (l1 (l1 (l2 (l2 (l2 (l2 (l2 Z5t))))))))))))))))) (Zgp m0)) (Zgp m0)
def ZEn (m0 : Nat) : Kont := kseq HH 131 m0 (l2 (l1 (l2 (l1 (l2 (l2 (l2 (l2 (l2 (l1 (l1 (l2 (l1 (l1 (l1 (l2 (l2 (l2 (l2 (l2 Z5t)))))))))))))))))))) (exec PP HH 131 m0 EE LL (l2 (l1 (l2 (l1 (l2 (l2 (l2 (l2 (l2 (l1 (l1 (l2 (l1 (l1 (l1 (l2 (l2 (l2 (l2 (l2 Z5t)))))))))))))))))))) (ZoZ m0)) (ZoZ m0)
def ZiL (m0 : Nat) (x0 x1 x4 x5 x6 x7 x8 : AV) (B : List Row) : Option Res := lp (LL 131 m0 (l1 (l1 (l1 (l2 (l2 (l2 (l2 (l2 Z5t)))))))) (Zsr m0) [(0, x0), (1, x1), (4, x4), (5, x5), (6, x6), (7, x7), (8, x8)] B)
def Zss (m0 : Nat) (x0 x1 x4 x5 x6 x7 x8 : AV) (B : List Row) : Option Res := exec PP HH 131 m0 EE LL (l2 (l1 (l1 (l1 (l2 (l2 (l2 (l2 (l2 Z5t))))))))) (ZoY m0) [(0, x0), (1, x1), (4, x4), (5, x5), (6, x6), (7, x7), (8, x8)] B
def Zqf (m0 : Nat) (x4 : AV) (B : List Row) : Option Res := exec PP HH 131 m0 EE LL (l2 (l2 (l2 (l2 (l2 (l2 Z5t)))))) (Zsq m0) [(4, x4)] B
def Zb0 (m0 : Nat) (x0 x1 x4 x5 x6 x7 x8 : AV) (B : List Row) : Option Res := exec PP HH 131 m0 EE LL (l2 (l2 (l1 (l1 (l1 (l2 (l2 (l2 (l2 (l2 Z5t)))))))))) (ZoY m0) [(0, x0), (1, x1), (4, x4), (5, x5), (6, x6), (7, x7), (8, x8)] B
def Zqc (m0 : Nat) (x0 x4 x5 x6 : AV) (B : List Row) : Option Res := exec PP HH 131 m0 EE LL (l2 (l1 (l2 (l2 (l2 (l1 (l2 (l2 (l1 (l2 (l1 (l1 (l2 (l1 (l1 (l1 (l2 (l2 (l2 (l2 (l2 Z5t))))))))))))))))))))) (ZxG m0) [(0, x0), (4, x4), (5, x5), (6, x6)] B
def Zmp (m0 : Nat) (x0 x1 x4 x5 x6 x7 x8 x9 : AV) (B : List Row) : Option Res := exec PP HH 131 m0 EE LL (l2 (l2 (l1 (l1 (l2 (l1 (l1 (l1 (l2 (l2 (l2 (l2 (l2 Z5t))))))))))))) (Zgp m0) [(0, x0), (1, x1), (4, x4), (5, x5), (6, x6), (7, x7), (8, x8), (9, x9)] B
def Zmo (m0 : Nat) (x4 x6 : AV) (B : List Row) : Option Res := exec PP HH 131 m0 EE LL (l2 (l2 (l2 (l1 (l2 (l2 (l2 (l1 (l2 (l2 (l1 (l2 (l1 (l1 (l2 (l1 (l1 (l1 (l2 (l2 (l2 (l2 (l2 Z5t))))))))))))))))))))))) (ZxG m0) [(4, x4), (6, x6)] B
def Zqd (m0 : Nat) (x0 x1 x4 x5 x6 x7 x8 x9 x11 : AV) (B : List Row) : Option Res := exec PP HH 131 m0 EE LL (l2 (l2 (l2 (l2 (l1 (l1 (l2 (l1 (l1 (l1 (l2 (l2 (l2 (l2 (l2 Z5t))))))))))))))) (Zgp m0) [(0, x0), (1, x1), (4, x4), (5, x5), (6, x6), (7, x7), (8, x8), (9, x9), (11, x11)] B
def Zgq (m0 : Nat) (x0 x1 x4 x5 x6 x7 x8 x9 : AV) (B : List Row) : Option Res := exec PP HH 131 m0 EE LL (l1 (l2 (l2 (l1 (l1 (l2 (l1 (l2 (l2 (l2 (l2 (l2 (l1 (l1 (l2 (l1 (l1 (l1 (l2 (l2 (l2 (l2 (l2 Z5t))))))))))))))))))))))) (ZEn m0) [(0, x0), (1, x1), (4, x4), (5, x5), (6, x6), (7, x7), (8, x8), (9, x9)] B
def Zqe (m0 : Nat) (x0 x1 x4 x5 x6 x7 x8 x9 x11 : AV) (B : List Row) : Option Res := exec PP HH 131 m0 EE LL (l2 (l1 (l2 (l1 (l2 (l2 (l2 (l2 (l2 (l1 (l1 (l2 (l1 (l1 (l1 (l2 (l2 (l2 (l2 (l2 Z5t)))))))))))))))))))) (ZoZ m0) [(0, x0), (1, x1), (4, x4), (5, x5), (6, x6), (7, x7), (8, x8), (9, x9), (11, x11)] B
def Zgr (m0 : Nat) (x0 x1 x4 x5 x6 x7 x8 x11 x15 : AV) (B : List Row) : Option Res := exec PP HH 131 m0 EE LL (l2 (l2 (l2 (l2 (l2 (l2 (l1 (l1 (l2 (l1 (l1 (l1 (l2 (l2 (l2 (l2 (l2 Z5t))))))))))))))))) (Zgp m0) [(0, x0), (1, x1), (4, x4), (5, x5), (6, x6), (7, x7), (8, x8), (11, x11), (15, x15)] B
def Zmq (m0 : Nat) (x0 x1 x4 x5 x6 x7 x8 x9 x11 x15 : AV) (B : List Row) : Option Res := exec PP HH 131 m0 EE LL (l1 (l2 (l2 (l2 (l1 (l2 (l1 (l2 (l2 (l2 (l2 (l2 (l1 (l1 (l2 (l1 (l1 (l1 (l2 (l2 (l2 (l2 (l2 Z5t))))))))))))))))))))))) (ZoZ m0) [(0, x0), (1, x1), (4, x4), (5, x5), (6, x6), (7, x7), (8, x8), (9, x9), (11, x11), (15, x15)] B
theorem ZyG m0 x0 x1 x4 x5 x6 x7 x8 B : ZiL m0 x0 x1 x4 x5 x6 x7 x8 B =
 mk (ob (Z1Z (shr x0)) fun a7 =>
 ob (xfld 5 a7) fun a8 =>
 ob (xfld 0 a8) fun a9 =>
 ob (ldN false 1 a9 B) fun a10 =>
 ob (xbin PP .eql 30 a10 (iv 0)) fun a11 =>
 asB a11 fun t12 => br t12 (Zss m0 x0 x1 x4 x5 x6 x7 x8 (gcB m0 [x0, x1, x4, x5, x6, x7, x8] B))
 (Zqf m0 x4 (gcB m0 [x4] B))) := (L_eq PP XX HH _ _ _ _ _ _).trans (by kernel_rfl)
theorem ZyI m0 x0 x1 x4 x5 x6 x7 x8 B : Zss m0 x0 x1 x4 x5 x6 x7 x8 B =
 mk (ob (Z1Z (shr x0)) fun a13 =>
 ob (xfld 1 a13) fun a14 =>
 ob (ldN false 1 a14 B) fun a15 =>
 mk (callS false EE 104 [(shr x0)] B fun a16 B17 =>
 mk (mk (ob (xbin PP .eql 3 (shr (shr a16)) (iv (-1))) fun a18 =>
 asB (shr a18) fun t19 => br t19 (mk (callS false EE 70 [(shr x0), (iv 22), (shr x1)] B17 fun a20 B21 =>
 Zb0 m0 x0 x1 x4 x5 x6 x7 x8 (gcB m0 [x0, x1, x4, x5, x6, x7, x8] B21)))
 (mk (ob (xbin PP .eql 3 (shr (shr a16)) (iv 93)) fun a22 =>
 asB (shr a22) fun t23 => br t23 (mk (ob (xbin PP .eql 3 (shr x8) (iv 0)) fun a24 =>
 asB a24 fun t25 => br t25 (mk (callS false EE 70 [(shr x0), (iv 22), (shr x1)] B17 fun a26 B27 =>
 Zb0 m0 x0 x1 x4 x5 x6 x7 x8 (gcB m0 [x0, x1, x4, x5, x6, x7, x8] B27)))
 (Zqc m0 x0 x4 x5 x6 (gcB m0 [x0, x4, x5, x6] B17))))
 (mk (ob (xbin PP .eql 3 (shr (shr a16)) (iv 91)) fun a28 =>
 asB (shr a28) fun t29 => br t29 (asB (shr a28) fun t30 => br t30 (mk (callS false EE 70 [(shr x0), (iv 22), (shr (shr a15))] B17 fun a31 B32 =>
 Zb0 m0 x0 x1 x4 x5 x6 x7 x8 (gcB m0 [x0, x1, x4, x5, x6, x7, x8] B32)))
 (Zmp m0 x0 x1 x4 x5 x6 x7 x8 (shr a15) (gcB m0 [x0, x1, x4, x5, x6, x7, x8, (shr a15)] B17)))
 (mk (ob (xbin PP .eql 3 (shr (shr a16)) (iv 45)) fun a33 =>
 asB (shr a33) fun t34 => br t34 (mk (callS false EE 70 [(shr x0), (iv 22), (shr (shr a15))] B17 fun a35 B36 =>
 Zb0 m0 x0 x1 x4 x5 x6 x7 x8 (gcB m0 [x0, x1, x4, x5, x6, x7, x8] B36)))
 (Zmp m0 x0 x1 x4 x5 x6 x7 x8 (shr a15) (gcB m0 [x0, x1, x4, x5, x6, x7, x8, (shr a15)] B17)))))))))))) := by kernel_rfl
theorem Zx6 m0 x4 B : Zqf m0 x4 B =
 mk (ob (Z1F PP 98 []) fun a37 =>
 stN 7 x4 a37 B fun B38 =>
 ZuQ x4 B38) := by kernel_rfl
theorem ZyH m0 x0 x1 x4 x5 x6 x7 x8 B : Zb0 m0 x0 x1 x4 x5 x6 x7 x8 B =
 mk (ob (xbin PP .add 3 (shr x8) (iv 1)) fun a39 =>
 ZiL m0 x0 x1 x4 x5 x6 x7 (shr a39) (gcB m0 [x0, x1, x4, x5, x6, x7, (shr a39)] B)) := by kernel_rfl
theorem ZwY m0 x0 x4 x5 x6 B : Zqc m0 x0 x4 x5 x6 B =
 mk (callS false EE 127 [(shr x0)] B fun a40 B41 =>
 mk (asB (shr x5) fun t42 => br t42 (mk (ob (ldN false 1 x6 B41) fun a43 =>
 callS false EE 148 [a43] B41 fun a44 B45 =>
 ob (xext 0 (shr a44)) fun a46 =>
 ob (xext 1 (shr a44)) fun a47 =>
 stN 1 x6 (shr a46) B45 fun B48 =>
 Zmo m0 x4 x6 (gcB m0 [x4, x6] B48)))
 (Zmo m0 x4 x6 (gcB m0 [x4, x6] B41)))) := by kernel_rfl
theorem Zx0 m0 x0 x1 x4 x5 x6 x7 x8 x9 B : Zmp m0 x0 x1 x4 x5 x6 x7 x8 x9 B =
 mk (callS true EE 153 [(shr x0)] B fun a49 B50 =>
 ob (xext 0 (shr a49)) fun a51 =>
 ob (xext 1 (shr a49)) fun a52 =>
 ob (xext 2 (shr a49)) fun a53 =>
 mk (ob (xnil PP .neq 94 (.slice none 0 0) (shr (shr (shr a52)))) fun a54 =>
 asB a54 fun t55 => br t55 (mk (callS false EE 128 [(shr (shr (shr a53))), (shr (shr (shr a52)))] B50 fun a56 B57 =>
 bz PP 98 B57 fun a58 B59 =>
 stN 7 a58 a56 B59 fun B60 =>
 mk (ob (xfld 5 a58) fun a61 =>
 ob (ldN false 1 a61 B60) fun a62 =>
 callV HH EE (shr x7) [a62] B60 fun a63 B64 =>
 mk (callS false EE 104 [(shr x0)] B64 fun a65 B66 =>
 ob (xbin PP .eql 3 a65 (iv 45)) fun a67 =>
 asB a67 fun t68 => br t68 (mk (ob (Z1Z (shr x0)) fun a69 =>
 ob (xfld 1 a69) fun a70 =>
 ob (ldN false 1 a70 B66) fun a71 =>
 callS false EE 70 [(shr x0), (iv 22), a71] B66 fun a72 B73 =>
 Zb0 m0 x0 x1 x4 x5 x6 x7 x8 (gcB m0 [x0, x1, x4, x5, x6, x7, x8] B73)))
 (Zb0 m0 x0 x1 x4 x5 x6 x7 x8 (gcB m0 [x0, x1, x4, x5, x6, x7, x8] B66))))))
 (Zqd m0 x0 x1 x4 x5 x6 x7 x8 x9 (shr (shr a51)) (gcB m0 [x0, x1, x4, x5, x6, x7, x8, x9, (shr (shr a51))] B50)))) := by kernel_rfl
theorem ZwZ m0 x4 x6 B : Zmo m0 x4 x6 B =
 mk (ob (ldN false 1 x6 B) fun a74 =>
 ob (Z1F PP 98 [(0, (iv 1)), (5, a74)]) fun a75 =>
 stN 7 x4 a75 B fun B76 =>
 ZuQ x4 B76) := by kernel_rfl
theorem Zx1 m0 x0 x1 x4 x5 x6 x7 x8 x9 x11 B : Zqd m0 x0 x1 x4 x5 x6 x7 x8 x9 x11 B =
 mk (mk (callS false EE 68 [(shr x0), (.p (.v (.string (ByteArray.mk #[45]))))] B fun a77 B78 =>
 asB a77 fun t79 => br t79 (mk (callS false EE 104 [(shr x0)] B78 fun a80 B81 =>
 mk (ob (xbin PP .eql 3 (shr (shr a80)) (iv 93)) fun a82 =>
 asB (shr a82) fun t83 => br t83 (Zgq m0 x0 x1 x4 x5 x6 x7 x8 x9 (gcB m0 [x0, x1, x4, x5, x6, x7, x8, x9] B81))
 (ob (xbin PP .eql 3 (shr (shr a80)) (iv 91)) fun a84 =>
 asB (shr (shr a84)) fun t85 => br t85 (Zgq m0 x0 x1 x4 x5 x6 x7 x8 x9 (gcB m0 [x0, x1, x4, x5, x6, x7, x8, x9] B81))
 (ob (xbin PP .eql 3 (shr (shr a80)) (iv 45)) fun a86 =>
 asB (shr (shr a86)) fun t87 => br t87 (Zgq m0 x0 x1 x4 x5 x6 x7 x8 x9 (gcB m0 [x0, x1, x4, x5, x6, x7, x8, x9] B81))
 (ob (xbin PP .lss 3 (shr (shr a80)) (iv 0)) fun a88 =>
 asB (shr a88) fun t89 => br t89 (Zgq m0 x0 x1 x4 x5 x6 x7 x8 x9 (gcB m0 [x0, x1, x4, x5, x6, x7, x8, x9] B81))
 (Zqe m0 x0 x1 x4 x5 x6 x7 x8 x9 x11 (gcB m0 [x0, x1, x4, x5, x6, x7, x8, x9, x11] B81))))))))
 (Zgr m0 x0 x1 x4 x5 x6 x7 x8 x11 (shr (shr x11)) (gcB m0 [x0, x1, x4, x5, x6, x7, x8, x11, (shr (shr x11))] B78)))) := by kernel_rfl
theorem Zx2 m0 x0 x1 x4 x5 x6 x7 x8 x9 B : Zgq m0 x0 x1 x4 x5 x6 x7 x8 x9 B =
 mk (callS false EE 70 [(shr x0), (iv 22), (shr x9)] B fun a90 B91 =>
 Zb0 m0 x0 x1 x4 x5 x6 x7 x8 (gcB m0 [x0, x1, x4, x5, x6, x7, x8] B91)) := by kernel_rfl
theorem Zx3 m0 x0 x1 x4 x5 x6 x7 x8 x9 x11 B : Zqe m0 x0 x1 x4 x5 x6 x7 x8 x9 x11 B =
 mk (callS true EE 153 [(shr x0)] B fun a92 B93 =>
 ob (xext 0 (shr a92)) fun a94 =>
 ob (xext 1 (shr a92)) fun a95 =>
 ob (xext 2 (shr a92)) fun a96 =>
 mk (ob (Z1Z (shr x0)) fun a97 =>
 ob (xfld 5 a97) fun a98 =>
 ob (xfld 0 a98) fun a99 =>
 ob (ldN false 1 a99 B93) fun a100 =>
 ob (xbin PP .eql 30 a100 (iv 0)) fun a101 =>
 asB (shr a101) fun t102 => br t102 (ob (xnil PP .neq 94 (.slice none 0 0) (shr (shr (shr a95)))) fun a103 =>
 asB (shr a103) fun t104 => br t104 (Zmq m0 x0 x1 x4 x5 x6 x7 x8 x9 x11 (shr (shr a94)) (gcB m0 [x0, x1, x4, x5, x6, x7, x8, x9, x11, (shr (shr a94))] B93))
 (ob (xbin PP .lss 3 (shr (shr (shr a94))) (shr x11)) fun a105 =>
 asB (shr (shr a105)) fun t106 => br t106 (Zmq m0 x0 x1 x4 x5 x6 x7 x8 x9 x11 (shr (shr a94)) (gcB m0 [x0, x1, x4, x5, x6, x7, x8, x9, x11, (shr (shr a94))] B93))
 (Zgr m0 x0 x1 x4 x5 x6 x7 x8 x11 (shr (shr a94)) (gcB m0 [x0, x1, x4, x5, x6, x7, x8, x11, (shr (shr a94))] B93))))
 (Zgr m0 x0 x1 x4 x5 x6 x7 x8 x11 (shr (shr a94)) (gcB m0 [x0, x1, x4, x5, x6, x7, x8, x11, (shr (shr a94))] B93)))) := by kernel_rfl
theorem Zx5 m0 x0 x1 x4 x5 x6 x7 x8 x11 x15 B : Zgr m0 x0 x1 x4 x5 x6 x7 x8 x11 x15 B =
 mk (ob (Z1Z (shr x0)) fun a107 =>
 ob (xfld 5 a107) fun a108 =>
 ob (xfld 0 a108) fun a109 =>
 ob (ldN false 1 a109 B) fun a110 =>
 ob (xbin PP .eql 30 a110 (iv 0)) fun a111 =>
 asB a111 fun t112 => br t112 (mk (ob (Z1F PP 201 [(0, (shr x11)), (1, (shr x15))]) fun a113 =>
 ob (xlit PP 95 1 [(0, a113)]) fun a114 =>
 callV HH EE (shr x7) [a114] B fun a115 B116 =>
 Zb0 m0 x0 x1 x4 x5 x6 x7 x8 (gcB m0 [x0, x1, x4, x5, x6, x7, x8] B116)))
 (Zb0 m0 x0 x1 x4 x5 x6 x7 x8 (gcB m0 [x0, x1, x4, x5, x6, x7, x8] B))) := by kernel_rfl
theorem Zx4 m0 x0 x1 x4 x5 x6 x7 x8 x9 x11 x15 B : Zmq m0 x0 x1 x4 x5 x6 x7 x8 x9 x11 x15 B =
 mk (callS false EE 70 [(shr x0), (iv 22), (shr x9)] B fun a117 B118 =>
 Zgr m0 x0 x1 x4 x5 x6 x7 x8 x11 x15 (gcB m0 [x0, x1, x4, x5, x6, x7, x8, x11, x15] B118)) := by kernel_rfl
theorem ZEj x0 x1 B : EE 131 [x0, x1] B =
 (let m0 := B.length
 mk (bz PP 98 B fun a1 B2 =>
 mk (callS false EE 68 [(shr x0), (.p (.v (.string (ByteArray.mk #[94]))))] B2 fun a3 B4 =>
 mk (bz PP 95 B4 fun a5 B6 =>
 mk (mk (ZiL m0 x0 x1 a1 (shr a3) a5 (shr (.clo 151 ([].map nrmA) ([a5].map nrmA))) (iv 0) (gcB m0 [x0, x1, a1, (shr a3), a5, (shr (.clo 151 ([].map nrmA) ([a5].map nrmA))), (iv 0)] B6))))))) := (E_eq PP XX HH _ _ _).trans (by kernel_rfl)
def Zje : Code := Z2I Tryz.f132
def Zqi (r0 r1 : AV) (B : List Row) : Option Res :=
 ob (ob (ldN true 7 r0 B) fun v => ob (ob (some r1) fun v => ob (some []) fun vs => some (v :: vs)) fun vs => some (v :: vs)) fun vs => some ((nrmA (match vs with | [v] => v | vs => Z1Q (vs.map shr))), B)
def ZiM (m0 : Nat) : Kont := kret PP HH 132 Tryz.f132.results
def ZEp (m0 : Nat) : Kont := kseq HH 132 m0 (l2 (l2 (l2 (l2 (l2 (l2 Zje)))))) (exec PP HH 132 m0 EE LL (l2 (l2 (l2 (l2 (l2 (l2 Zje)))))) (ZiM m0)) (ZiM m0)
def Zst (m0 : Nat) (x0 x1 x4 : AV) (B : List Row) : Option Res := exec PP HH 132 m0 EE LL (l2 (l2 Zje)) (ZiM m0) [(0, x0), (1, x1), (4, x4)] B
def Zcj (m0 : Nat) (x0 x1 x4 : AV) (B : List Row) : Option Res := exec PP HH 132 m0 EE LL (l2 (l2 (l2 (l2 Zje)))) (ZiM m0) [(0, x0), (1, x1), (4, x4)] B
def Zqg (m0 : Nat) (x0 x1 x4 x7 : AV) (B : List Row) : Option Res := exec PP HH 132 m0 EE LL (l1 (l2 (l1 (l2 (l2 (l2 (l2 (l2 Zje)))))))) (ZEp m0) [(0, x0), (1, x1), (4, x4), (7, x7)] B
def Zjf (m0 : Nat) (x0 x4 x7 : AV) (B : List Row) : Option Res := exec PP HH 132 m0 EE LL (l2 (l2 (l2 (l2 (l2 (l2 Zje)))))) (ZiM m0) [(0, x0), (4, x4), (7, x7)] B
def Zqh (m0 : Nat) (x4 x7 : AV) (B : List Row) : Option Res := exec PP HH 132 m0 EE LL (l2 (l2 (l2 (l2 (l2 (l2 (l2 (l2 Zje)))))))) (ZiM m0) [(4, x4), (7, x7)] B
theorem ZyJ m0 x0 x1 x4 B : Zst m0 x0 x1 x4 B =
 mk (ob (Z1Z (shr x0)) fun a12 =>
 ob (xfld 3 a12) fun a13 =>
 ob (ldN false 1 a13 B) fun a14 =>
 ob (xbin PP .add 3 a14 (iv 1)) fun a15 =>
 ob (Z1Z (shr x0)) fun a16 =>
 ob (xfld 3 a16) fun a17 =>
 stN 1 a17 a15 B fun B18 =>
 mk (callS false EE 155 [] B18 fun a19 B20 =>
 callS false EE 154 [a19, (.clo 68 ([(shr x0)].map nrmA) ([].map nrmA))] B20 fun a21 B22 =>
 mk (ob (xbin PP .geq 3 (shr (shr a21)) (iv 0)) fun a23 =>
 asB (shr a23) fun t24 => br t24 (mk (ob (Z1F PP 98 [(0, (iv 7)), (3, (shr (shr a21)))]) fun a25 =>
 stN 7 x4 a25 B22 fun B26 =>
 Zcj m0 x0 x1 x4 (gcB m0 [x0, x1, x4] B26)))
 (mk (callS false EE 68 [(shr x0), (.p (.v (.string (ByteArray.mk #[63, 62]))))] B22 fun a27 B28 =>
 asB (shr a27) fun t29 => br t29 (mk (ob (Z1F PP 98 [(0, (iv 8))]) fun a30 =>
 stN 7 x4 a30 B28 fun B31 =>
 Zcj m0 x0 x1 x4 (gcB m0 [x0, x1, x4] B31)))
 (mk (callS false EE 68 [(shr x0), (.p (.v (.string (ByteArray.mk #[63, 58]))))] B28 fun a32 B33 =>
 asB (shr a32) fun t34 => br t34 (Zcj m0 x0 x1 x4 (gcB m0 [x0, x1, x4] B33))
 (mk (callS false EE 104 [(shr x0)] B33 fun a35 B36 =>
 ob (xbin PP .eql 3 a35 (iv 63)) fun a37 =>
 asB (shr a37) fun t38 => br t38 (mk (callS false EE 70 [(shr x0), (iv 20), (shr x1)] B36 fun a39 B40 =>
 Zcj m0 x0 x1 x4 (gcB m0 [x0, x1, x4] B40)))
 (mk (ob (Z1Z (shr x0)) fun a41 =>
 ob (xfld 2 a41) fun a42 =>
 ob (ldN false 1 a42 B36) fun a43 =>
 ob (xbin PP .eql 3 a43 (iv 9)) fun a44 =>
 asB (shr a44) fun t45 => br t45 (mk (callS false EE 70 [(shr x0), (iv 24), (shr x1)] B36 fun a46 B47 =>
 Zcj m0 x0 x1 x4 (gcB m0 [x0, x1, x4] B47)))
 (mk (ob (Z1Z (shr x0)) fun a48 =>
 ob (xfld 2 a48) fun a49 =>
 ob (ldN false 1 a49 B36) fun a50 =>
 ob (xbin PP .add 3 a50 (iv 1)) fun a51 =>
 ob (Z1Z (shr x0)) fun a52 =>
 ob (xfld 2 a52) fun a53 =>
 stN 1 a53 a51 B36 fun B54 =>
 mk (ob (Z1Z (shr x0)) fun a55 =>
 ob (xfld 2 a55) fun a56 =>
 ob (ldN false 1 a56 B54) fun a57 =>
 ob (Z1F PP 98 [(0, (iv 5)), (4, a57)]) fun a58 =>
 stN 7 x4 a58 B54 fun B59 =>
 Zcj m0 x0 x1 x4 (gcB m0 [x0, x1, x4] B59))))))))))))))) := by kernel_rfl
theorem Zx7 m0 x0 x1 x4 B : Zcj m0 x0 x1 x4 B =
 mk (callS false EE 69 [(shr x0)] B fun a60 B61 =>
 bz PP 98 B61 fun a62 B63 =>
 stN 7 a62 a60 B63 fun B64 =>
 mk (ob (Z1Z (shr x0)) fun a65 =>
 ob (xfld 5 a65) fun a66 =>
 ob (xfld 0 a66) fun a67 =>
 ob (ldN false 1 a67 B64) fun a68 =>
 ob (xbin PP .eql 30 a68 (iv 0)) fun a69 =>
 asB (shr a69) fun t70 => br t70 (callS false EE 68 [(shr x0), (.p (.v (.string (ByteArray.mk #[41]))))] B64 fun a71 B72 =>
 ob (xun PP .not a71) fun a73 =>
 asB (shr a73) fun t74 => br t74 (Zqg m0 x0 x1 x4 a62 (gcB m0 [x0, x1, x4, a62] B72))
 (Zjf m0 x0 x4 a62 (gcB m0 [x0, x4, a62] B72)))
 (Zjf m0 x0 x4 a62 (gcB m0 [x0, x4, a62] B64)))) := by kernel_rfl
theorem Zx8 m0 x0 x1 x4 x7 B : Zqg m0 x0 x1 x4 x7 B =
 mk (callS false EE 70 [(shr x0), (iv 20), (shr x1)] B fun a75 B76 =>
 Zjf m0 x0 x4 x7 (gcB m0 [x0, x4, x7] B76)) := by kernel_rfl
theorem Zx9 m0 x0 x4 x7 B : Zjf m0 x0 x4 x7 B =
 mk (ob (Z1Z (shr x0)) fun a77 =>
 ob (xfld 3 a77) fun a78 =>
 ob (ldN false 1 a78 B) fun a79 =>
 ob (xbin PP .sub 3 a79 (iv 1)) fun a80 =>
 ob (Z1Z (shr x0)) fun a81 =>
 ob (xfld 3 a81) fun a82 =>
 stN 1 a82 a80 B fun B83 =>
 mk (ob (xfld 0 x4) fun a84 =>
 ob (ldN false 1 a84 B83) fun a85 =>
 ob (xbin PP .eql 3 a85 (iv 0)) fun a86 =>
 asB a86 fun t87 => br t87 (mk (ob (ldN true 7 x7 B83) fun a88 =>
 stN 7 x4 a88 B83 fun B89 =>
 Zqi x4 (bv true) B89))
 (Zqh m0 x4 x7 (gcB m0 [x4, x7] B83)))) := by kernel_rfl
theorem Zxa m0 x4 x7 B : Zqh m0 x4 x7 B =
 mk (ob (ldN true 7 x7 B) fun a90 =>
 ob (xlit PP 96 1 [(0, a90)]) fun a91 =>
 ob (xfld 6 x4) fun a92 =>
 stN 1 a92 a91 B fun B93 =>
 mk (ob (ldN true 7 x4 B93) fun a94 =>
 ob (xfld 0 x4) fun a95 =>
 ob (ldN false 1 a95 B93) fun a96 =>
 ob (xbin PP .neq 3 a96 (iv 7)) fun a97 =>
 stN 7 x4 a94 B93 fun B98 =>
 Zqi x4 (shr a97) B98)) := by kernel_rfl
theorem ZEo x0 x1 B : EE 132 [x0, x1] B =
 (let m0 := B.length
 mk (bz PP 98 B fun a1 B2 =>
 mk (ob (Z1Z (shr x0)) fun a3 =>
 ob (xfld 3 a3) fun a4 =>
 ob (ldN false 1 a4 B2) fun a5 =>
 ob (xbin PP .eql 3 a5 (iv 32)) fun a6 =>
 asB a6 fun t7 => br t7 (mk (callS false EE 70 [(shr x0), (iv 25), (shr x1)] B2 fun a8 B9 =>
 mk (ob (Z1F PP 98 []) fun a10 =>
 stN 7 a1 a10 B9 fun B11 =>
 Zqi a1 (bv true) B11)))
 (Zst m0 x0 x1 a1 (gcB m0 [x0, x1, a1] B2))))) := (E_eq PP XX HH _ _ _).trans (by kernel_rfl)
def ZbM : Code := Z2I Tryz.f133
def ZuR (r0 r1 : AV) (B : List Row) : Option Res :=
 ob (ob (some r0) fun v => ob (ob (some r1) fun v => ob (some []) fun vs => some (v :: vs)) fun vs => some (v :: vs)) fun vs => some ((nrmA (match vs with | [v] => v | vs => Z1Q (vs.map shr))), B)
def ZiN (m0 : Nat) : Kont := kret PP HH 133 Tryz.f133.results
def Zp0 (m0 : Nat) : Kont := kseq HH 133 m0 (l2 (l2 (l2 (l2 ZbM)))) (exec PP HH 133 m0 EE LL (l2 (l2 (l2 (l2 ZbM)))) (ZiN m0)) (ZiN m0)
def ZEr (m0 : Nat) : Kont := kseq HH 133 m0 (l2 (l1 (l2 (l2 (l1 (l2 (l1 (l2 (l2 (l2 ZbM)))))))))) (exec PP HH 133 m0 EE LL (l2 (l1 (l2 (l2 (l1 (l2 (l1 (l2 (l2 (l2 ZbM)))))))))) (Zp0 m0)) (Zp0 m0)
def ZEs (m0 : Nat) : Kont := kseq HH 133 m0 (l2 (l2 (l2 (l2 (l2 ZbM))))) (exec PP HH 133 m0 EE LL (l2 (l2 (l2 (l2 (l2 ZbM))))) (ZiN m0)) (ZiN m0)
def Zsu (m0 : Nat) (x0 x1 x4 : AV) (B : List Row) : Option Res := exec PP HH 133 m0 EE LL (l1 (l2 (l2 (l1 (l2 (l1 (l2 (l2 (l2 ZbM))))))))) (Zp0 m0) [(0, x0), (1, x1), (4, x4)] B
def ZiO (m0 : Nat) (x0 x1 x4 x5 : AV) (B : List Row) : Option Res := exec PP HH 133 m0 EE LL (l2 (l2 (l2 (l2 ZbM)))) (ZiN m0) [(0, x0), (1, x1), (4, x4), (5, x5)] B
def Zsv (m0 : Nat) (x4 : AV) (B : List Row) : Option Res := exec PP HH 133 m0 EE LL (l1 (l2 (l1 (l1 (l2 (l2 (l1 (l2 (l1 (l2 (l2 (l2 ZbM)))))))))))) (ZEr m0) [(4, x4)] B
def Zp1 (m0 : Nat) (x0 x1 x4 : AV) (B : List Row) : Option Res := exec PP HH 133 m0 EE LL (l2 (l1 (l2 (l2 (l1 (l2 (l1 (l2 (l2 (l2 ZbM)))))))))) (Zp0 m0) [(0, x0), (1, x1), (4, x4)] B
def Zgs (m0 : Nat) (x0 x1 x4 x5 : AV) (B : List Row) : Option Res := exec PP HH 133 m0 EE LL (l1 (l2 (l1 (l2 (l2 (l2 (l2 ZbM))))))) (ZEs m0) [(0, x0), (1, x1), (4, x4), (5, x5)] B
def Zmr (m0 : Nat) (x4 x5 : AV) (B : List Row) : Option Res := exec PP HH 133 m0 EE LL (l2 (l2 (l2 (l2 (l2 ZbM))))) (ZiN m0) [(4, x4), (5, x5)] B
theorem ZyK m0 x0 x1 x4 B : Zsu m0 x0 x1 x4 B =
 mk (callS false EE 68 [(shr x0), (.p (.v (.string (ByteArray.mk #[125]))))] B fun a12 B13 =>
 asB (shr a12) fun t14 => br t14 (ob (xbin PP .leq 3 (shr x4) (iv 64)) fun a15 =>
 asB (shr a15) fun t16 => br t16 (Zsv m0 x4 (gcB m0 [x4] B13))
 (Zp1 m0 x0 x1 x4 (gcB m0 [x0, x1, x4] B13)))
 (Zp1 m0 x0 x1 x4 (gcB m0 [x0, x1, x4] B13))) := by kernel_rfl
theorem ZyN m0 x0 x1 x4 x5 B : ZiO m0 x0 x1 x4 x5 B =
 mk (ob (xbin PP .lss 3 (shr x4) (iv 0)) fun a17 =>
 asB (shr a17) fun t18 => br t18 (Zgs m0 x0 x1 x4 x5 (gcB m0 [x0, x1, x4, x5] B))
 (ob (xbin PP .lss 3 (shr x5) (shr x4)) fun a19 =>
 asB (shr (shr a19)) fun t20 => br t20 (Zgs m0 x0 x1 x4 x5 (gcB m0 [x0, x1, x4, x5] B))
 (ob (xbin PP .gtr 3 (shr x5) (iv 64)) fun a21 =>
 asB (shr (shr a21)) fun t22 => br t22 (Zgs m0 x0 x1 x4 x5 (gcB m0 [x0, x1, x4, x5] B))
 (callS false EE 68 [(shr x0), (.p (.v (.string (ByteArray.mk #[125]))))] B fun a23 B24 =>
 ob (xun PP .not a23) fun a25 =>
 asB (shr a25) fun t26 => br t26 (Zgs m0 x0 x1 x4 x5 (gcB m0 [x0, x1, x4, x5] B24))
 (Zmr m0 x4 x5 (gcB m0 [x4, x5] B24)))))) := by kernel_rfl
theorem ZyL m0 x4 B : Zsv m0 x4 B =
 mk (ZuR (shr (shr x4)) (iv (-1)) B) := by kernel_rfl
theorem ZyM m0 x0 x1 x4 B : Zp1 m0 x0 x1 x4 B =
 mk (ZiO m0 x0 x1 x4 (iv (-2)) (gcB m0 [x0, x1, x4, (iv (-2))] B)) := by kernel_rfl
theorem Zxb m0 x0 x1 x4 x5 B : Zgs m0 x0 x1 x4 x5 B =
 mk (callS false EE 70 [(shr x0), (iv 23), (shr x1)] B fun a27 B28 =>
 Zmr m0 x4 x5 (gcB m0 [x4, x5] B28)) := by kernel_rfl
theorem Zxc m0 x4 x5 B : Zmr m0 x4 x5 B =
 mk (ZuR (shr (shr x4)) (shr (shr x5)) B) := by kernel_rfl
theorem ZEq x0 x1 B : EE 133 [x0, x1] B =
 (let m0 := B.length
 mk (mk (callS false EE 156 [(shr x0)] B fun a1 B2 =>
 mk (mk (callS false EE 68 [(shr x0), (.p (.v (.string (ByteArray.mk #[44]))))] B2 fun a3 B4 =>
 asB a3 fun t5 => br t5 (mk (callS false EE 156 [(shr x0)] B4 fun a6 B7 =>
 mk (ob (xbin PP .lss 3 (shr (shr a6)) (iv 0)) fun a8 =>
 asB (shr a8) fun t9 => br t9 (ob (xbin PP .geq 3 (shr (shr a1)) (iv 0)) fun a10 =>
 asB (shr a10) fun t11 => br t11 (Zsu m0 x0 x1 (shr a1) (gcB m0 [x0, x1, (shr a1)] B7))
 (ZiO m0 x0 x1 (shr a1) (shr a6) (gcB m0 [x0, x1, (shr a1), (shr a6)] B7)))
 (ZiO m0 x0 x1 (shr a1) (shr a6) (gcB m0 [x0, x1, (shr a1), (shr a6)] B7)))))
 (ZiO m0 x0 x1 (shr a1) (shr (shr (shr a1))) (gcB m0 [x0, x1, (shr a1), (shr (shr (shr a1)))] B4))))))) := (E_eq PP XX HH _ _ _).trans (by kernel_rfl)
def ZG5 : Code := Z2I Tryz.f134
def ZuS (r0 : AV) (B : List Row) : Option Res :=
 ob (ob (some r0) fun v => ob (some []) fun vs => some (v :: vs)) fun vs => some ((nrmA (match vs with | [v] => v | vs => Z1Q (vs.map shr))), B)
def ZEu (m0 : Nat) : Kont := kret PP HH 134 Tryz.f134.results
def Zsw (m0 : Nat) (x0 : AV) (B : List Row) : Option Res := exec PP HH 134 m0 EE LL (l2 (l2 ZG5)) (ZEu m0) [(0, x0)] B
theorem ZyO m0 x0 B : Zsw m0 x0 B =
 mk (ZuS (shr (shr x0)) B) := by kernel_rfl
theorem ZEt x0 B : EE 134 [x0] B =
 (let m0 := B.length
 mk (mk (ob (xbin PP .gtr 3 (shr x0) (iv 1048576)) fun a1 =>
 asB a1 fun t2 => br t2 (mk (ZuS (iv (-1)) B))
 (Zsw m0 x0 (gcB m0 [x0] B))))) := (E_eq PP XX HH _ _ _).trans (by kernel_rfl)
def ZG6 : Code := Z2I Tryz.f147
def ZuT (r0 r1 : AV) (B : List Row) : Option Res :=
 ob (ob (some r0) fun v => ob (ob (some r1) fun v => ob (some []) fun vs => some (v :: vs)) fun vs => some (v :: vs)) fun vs => some ((nrmA (match vs with | [v] => v | vs => Z1Q (vs.map shr))), B)
def ZEw (m0 : Nat) : Kont := kret PP HH 147 Tryz.f147.results
def Zsx (m0 : Nat) (x0 : AV) (B : List Row) : Option Res := exec PP HH 147 m0 EE LL (l2 (l2 ZG6)) (ZEw m0) [(0, x0)] B
theorem ZyP m0 x0 B : Zsx m0 x0 B =
 mk (callS false EE 169 [(shr x0)] B fun a4 B5 =>
 ZuT (shr a4) (iv 0) B5) := by kernel_rfl
theorem ZEv x0 B : EE 147 [x0] B =
 (let m0 := B.length
 mk (mk (callS false EE 166 [(shr x0), (.clo 167 [] [])] B fun a1 B2 =>
 asB a1 fun t3 => br t3 (mk (ZuT nilA (iv 13) B2))
 (Zsx m0 x0 (gcB m0 [x0] B2))))) := (E_eq PP XX HH _ _ _).trans (by kernel_rfl)
def ZG7 : Code := Z2I Tryz.f148
def ZuU (r0 r1 : AV) (B : List Row) : Option Res :=
 ob (ob (some r0) fun v => ob (ob (some r1) fun v => ob (some []) fun vs => some (v :: vs)) fun vs => some (v :: vs)) fun vs => some ((nrmA (match vs with | [v] => v | vs => Z1Q (vs.map shr))), B)
def ZEy (m0 : Nat) : Kont := kret PP HH 148 Tryz.f148.results
def Zsy (m0 : Nat) (x0 : AV) (B : List Row) : Option Res := exec PP HH 148 m0 EE LL (l2 (l2 ZG7)) (ZEy m0) [(0, x0)] B
theorem ZyQ m0 x0 B : Zsy m0 x0 B =
 mk (callS false EE 171 [(shr x0)] B fun a5 B6 =>
 ZuU (shr a5) (iv 0) B6) := by kernel_rfl
theorem ZEx x0 B : EE 148 [x0] B =
 (let m0 := B.length
 mk (mk (callS false EE 170 [(shr x0)] B fun a1 B2 =>
 ob (xun PP .not a1) fun a3 =>
 asB a3 fun t4 => br t4 (mk (ZuU nilA (iv 10) B2))
 (Zsy m0 x0 (gcB m0 [x0] B2))))) := (E_eq PP XX HH _ _ _).trans (by kernel_rfl)
def ZG8 : Code := Z2I Tryz.f149
def Z6L (r0 : AV) (B : List Row) : Option Res :=
 ob (ob (some r0) fun v => ob (some []) fun vs => some (v :: vs)) fun vs => some ((match vs with | [v] => v | vs => Z1Q (vs.map shr)), B)
def ZEA (m0 : Nat) : Kont := kret PP HH 149 Tryz.f149.results
def Zaq (m0 : Nat) (B : List Row) : Option Res := exec PP HH 149 m0 EE LL (l2 (l2 ZG8)) (ZEA m0) [] B
theorem Zxd m0 B : Zaq m0  B =
 mk (Z6L nilA B) := by kernel_rfl
theorem ZEz x0 B : EE 149 [x0] B =
 (let m0 := B.length
 mk (mk (mk (ob (xbin PP .eql 3 (shr x0) (iv 100)) fun a1 =>
 asB (shr a1) fun t2 => br t2 (asB (shr a1) fun t3 => br t3 (mk (ob (Z1F PP 201 [(0, (iv 48)), (1, (iv 57))]) fun a4 =>
 ob (xlit PP 94 1 [(0, a4)]) fun a5 =>
 Z6L a5 B))
 (mk (ob (xbin PP .eql 3 (shr x0) (iv 119)) fun a6 =>
 asB (shr a6) fun t7 => br t7 (asB (shr a6) fun t8 => br t8 (mk (ob (Z1F PP 201 [(0, (iv 48)), (1, (iv 57))]) fun a9 =>
 ob (Z1F PP 201 [(0, (iv 65)), (1, (iv 90))]) fun a10 =>
 callS false EE 129 [(iv 95)] B fun a11 B12 =>
 ob (Z1F PP 201 [(0, (iv 97)), (1, (iv 122))]) fun a13 =>
 ob (xlit PP 94 4 [(0, a9), (1, a10), (2, a11), (3, a13)]) fun a14 =>
 Z6L a14 B12))
 (mk (ob (xbin PP .eql 3 (shr x0) (iv 115)) fun a15 =>
 asB (shr a15) fun t16 => br t16 (asB (shr a15) fun t17 => br t17 (mk (ob (Z1F PP 201 [(0, (iv 9)), (1, (iv 13))]) fun a18 =>
 callS false EE 129 [(iv 32)] B fun a19 B20 =>
 ob (xlit PP 94 2 [(0, a18), (1, a19)]) fun a21 =>
 Z6L a21 B20))
 (Zaq m0  (gcB m0 [] B)))
 (mk (ob (xbin PP .eql 3 (shr x0) (iv 83)) fun a22 =>
 asB (shr a22) fun t23 => br t23 (mk (ob (Z1F PP 201 [(0, (iv 9)), (1, (iv 13))]) fun a24 =>
 callS false EE 129 [(iv 32)] B fun a25 B26 =>
 ob (xlit PP 94 2 [(0, a24), (1, a25)]) fun a27 =>
 Z6L a27 B26))
 (Zaq m0  (gcB m0 [] B)))))))
 (mk (ob (xbin PP .eql 3 (shr x0) (iv 87)) fun a28 =>
 asB (shr a28) fun t29 => br t29 (mk (ob (Z1F PP 201 [(0, (iv 48)), (1, (iv 57))]) fun a30 =>
 ob (Z1F PP 201 [(0, (iv 65)), (1, (iv 90))]) fun a31 =>
 callS false EE 129 [(iv 95)] B fun a32 B33 =>
 ob (Z1F PP 201 [(0, (iv 97)), (1, (iv 122))]) fun a34 =>
 ob (xlit PP 94 4 [(0, a30), (1, a31), (2, a32), (3, a34)]) fun a35 =>
 Z6L a35 B33))
 (mk (ob (xbin PP .eql 3 (shr x0) (iv 115)) fun a36 =>
 asB (shr a36) fun t37 => br t37 (asB (shr a36) fun t38 => br t38 (mk (ob (Z1F PP 201 [(0, (iv 9)), (1, (iv 13))]) fun a39 =>
 callS false EE 129 [(iv 32)] B fun a40 B41 =>
 ob (xlit PP 94 2 [(0, a39), (1, a40)]) fun a42 =>
 Z6L a42 B41))
 (Zaq m0  (gcB m0 [] B)))
 (mk (ob (xbin PP .eql 3 (shr x0) (iv 83)) fun a43 =>
 asB (shr a43) fun t44 => br t44 (mk (ob (Z1F PP 201 [(0, (iv 9)), (1, (iv 13))]) fun a45 =>
 callS false EE 129 [(iv 32)] B fun a46 B47 =>
 ob (xlit PP 94 2 [(0, a45), (1, a46)]) fun a48 =>
 Z6L a48 B47))
 (Zaq m0  (gcB m0 [] B)))))))))))
 (mk (ob (xbin PP .eql 3 (shr x0) (iv 68)) fun a49 =>
 asB (shr a49) fun t50 => br t50 (mk (ob (Z1F PP 201 [(0, (iv 48)), (1, (iv 57))]) fun a51 =>
 ob (xlit PP 94 1 [(0, a51)]) fun a52 =>
 Z6L a52 B))
 (mk (ob (xbin PP .eql 3 (shr x0) (iv 119)) fun a53 =>
 asB (shr a53) fun t54 => br t54 (asB (shr a53) fun t55 => br t55 (mk (ob (Z1F PP 201 [(0, (iv 48)), (1, (iv 57))]) fun a56 =>
 ob (Z1F PP 201 [(0, (iv 65)), (1, (iv 90))]) fun a57 =>
 callS false EE 129 [(iv 95)] B fun a58 B59 =>
 ob (Z1F PP 201 [(0, (iv 97)), (1, (iv 122))]) fun a60 =>
 ob (xlit PP 94 4 [(0, a56), (1, a57), (2, a58), (3, a60)]) fun a61 =>
 Z6L a61 B59))
 (mk (ob (xbin PP .eql 3 (shr x0) (iv 115)) fun a62 =>
 asB (shr a62) fun t63 => br t63 (asB (shr a62) fun t64 => br t64 (mk (ob (Z1F PP 201 [(0, (iv 9)), (1, (iv 13))]) fun a65 =>
 callS false EE 129 [(iv 32)] B fun a66 B67 =>
 ob (xlit PP 94 2 [(0, a65), (1, a66)]) fun a68 =>
 Z6L a68 B67))
 (Zaq m0  (gcB m0 [] B)))
 (mk (ob (xbin PP .eql 3 (shr x0) (iv 83)) fun a69 =>
 asB (shr a69) fun t70 => br t70 (mk (ob (Z1F PP 201 [(0, (iv 9)), (1, (iv 13))]) fun a71 =>
 callS false EE 129 [(iv 32)] B fun a72 B73 =>
 ob (xlit PP 94 2 [(0, a71), (1, a72)]) fun a74 =>
 Z6L a74 B73))
 (Zaq m0  (gcB m0 [] B)))))))
 (mk (ob (xbin PP .eql 3 (shr x0) (iv 87)) fun a75 =>
 asB (shr a75) fun t76 => br t76 (mk (ob (Z1F PP 201 [(0, (iv 48)), (1, (iv 57))]) fun a77 =>
 ob (Z1F PP 201 [(0, (iv 65)), (1, (iv 90))]) fun a78 =>
 callS false EE 129 [(iv 95)] B fun a79 B80 =>
 ob (Z1F PP 201 [(0, (iv 97)), (1, (iv 122))]) fun a81 =>
 ob (xlit PP 94 4 [(0, a77), (1, a78), (2, a79), (3, a81)]) fun a82 =>
 Z6L a82 B80))
 (mk (ob (xbin PP .eql 3 (shr x0) (iv 115)) fun a83 =>
 asB (shr a83) fun t84 => br t84 (asB (shr a83) fun t85 => br t85 (mk (ob (Z1F PP 201 [(0, (iv 9)), (1, (iv 13))]) fun a86 =>
 callS false EE 129 [(iv 32)] B fun a87 B88 =>
 ob (xlit PP 94 2 [(0, a86), (1, a87)]) fun a89 =>
 Z6L a89 B88))
 (Zaq m0  (gcB m0 [] B)))
 (mk (ob (xbin PP .eql 3 (shr x0) (iv 83)) fun a90 =>
 asB (shr a90) fun t91 => br t91 (mk (ob (Z1F PP 201 [(0, (iv 9)), (1, (iv 13))]) fun a92 =>
 callS false EE 129 [(iv 32)] B fun a93 B94 =>
 ob (xlit PP 94 2 [(0, a92), (1, a93)]) fun a95 =>
 Z6L a95 B94))
 (Zaq m0  (gcB m0 [] B)))))))))))))))) := (E_eq PP XX HH _ _ _).trans (by kernel_rfl)
def Zra : Code := Z2I Tryz.f150
def Zgt (r0 : AV) (B : List Row) : Option Res :=
 ob (ob (some r0) fun v => ob (some []) fun vs => some (v :: vs)) fun vs => some ((nrmA (match vs with | [v] => v | vs => Z1Q (vs.map shr))), B)
def ZsA (m0 : Nat) : Kont := kret PP HH 150 Tryz.f150.results
def ZEC (m0 : Nat) : Kont := kseq HH 150 m0 (l2 (l2 Zra)) (exec PP HH 150 m0 EE LL (l2 (l2 Zra)) (ZsA m0)) (ZsA m0)
def ZED (m0 : Nat) : Kont := kblk 0 (ZEC m0)
def ZeI (m0 : Nat) (x0 x2 : AV) (B : List Row) : Option Res := exec PP HH 150 m0 EE LL (l2 (l2 Zra)) (ZsA m0) [(0, x0), (2, x2)] B
def Zqj (m0 : Nat) (x1 : AV) (B : List Row) : Option Res := exec PP HH 150 m0 EE LL (l1 (l2 (l2 (l2 (l2 (l2 (l2 (l2 (l2 (l2 (l1 (l1 (l2 Zra))))))))))))) (ZED m0) [(1, x1)] B
theorem Zxf m0 x0 x2 B : ZeI m0 x0 x2 B =
 mk (callS false EE 70 [(shr x0), (iv 21), (shr x2)] B fun a39 B40 =>
 mk (Zgt (iv 0) B40)) := by kernel_rfl
theorem Zxe m0 x1 B : Zqj m0 x1 B =
 mk (Zgt (shr (shr x1)) B) := by kernel_rfl
theorem ZEB x0 x1 x2 B : EE 150 [x0, x1, x2] B =
 (let m0 := B.length
 mk (mk (ob (xbin PP .eql 3 (shr x1) (iv 110)) fun a1 =>
 asB (shr a1) fun t2 => br t2 (mk (Zgt (iv 10) B))
 (mk (ob (xbin PP .eql 3 (shr x1) (iv 116)) fun a3 =>
 asB (shr a3) fun t4 => br t4 (mk (Zgt (iv 9) B))
 (mk (ob (xbin PP .eql 3 (shr x1) (iv 114)) fun a5 =>
 asB (shr a5) fun t6 => br t6 (mk (Zgt (iv 13) B))
 (mk (ob (xbin PP .eql 3 (shr x1) (iv 120)) fun a7 =>
 asB (shr a7) fun t8 => br t8 (mk (callS false EE 104 [(shr x0)] B fun a9 B10 =>
 callS false EE 172 [a9] B10 fun a11 B12 =>
 mk (ob (xbin PP .geq 3 (shr (shr a11)) (iv 0)) fun a13 =>
 asB a13 fun t14 => br t14 (mk (callS false EE 127 [(shr x0)] B12 fun a15 B16 =>
 mk (callS false EE 104 [(shr x0)] B16 fun a17 B18 =>
 callS false EE 172 [a17] B18 fun a19 B20 =>
 mk (ob (xbin PP .geq 3 (shr (shr a19)) (iv 0)) fun a21 =>
 asB a21 fun t22 => br t22 (mk (callS false EE 127 [(shr x0)] B20 fun a23 B24 =>
 mk (ob (xbin PP .mul 3 (iv 16) (shr (shr a11))) fun a25 =>
 ob (xbin PP .add 3 a25 (shr (shr a19))) fun a26 =>
 Zgt (shr a26) B24)))
 (ZeI m0 x0 x2 (gcB m0 [x0, x2] B20))))))
 (ZeI m0 x0 x2 (gcB m0 [x0, x2] B12)))))
 (mk (ob (xbin PP .gtr 3 (shr x1) (iv 32)) fun a27 =>
 asB (shr a27) fun t28 => br t28 (ob (xbin PP .lss 3 (shr x1) (iv 127)) fun a29 =>
 asB (shr (shr a29)) fun t30 => br t30 (ob (Z1F PP 201 [(0, (iv 48)), (1, (iv 57))]) fun a31 =>
 ob (Z1F PP 201 [(0, (iv 65)), (1, (iv 90))]) fun a32 =>
 ob (Z1F PP 201 [(0, (iv 97)), (1, (iv 122))]) fun a33 =>
 ob (xlit PP 95 3 [(0, a31), (1, a32), (2, a33)]) fun a34 =>
 callS false EE 173 [a34, (shr x1)] B fun a35 B36 =>
 ob (xun PP .not a35) fun a37 =>
 asB (shr (shr a37)) fun t38 => br t38 (Zqj m0 x1 (gcB m0 [x1] B36))
 (ZeI m0 x0 x2 (gcB m0 [x0, x2] B36)))
 (ZeI m0 x0 x2 (gcB m0 [x0, x2] B)))
 (ZeI m0 x0 x2 (gcB m0 [x0, x2] B))))))))))))) := (E_eq PP XX HH _ _ _).trans (by kernel_rfl)
def ZCQ (B : List Row) : Option Res :=
 ob (some []) fun vs => some ((nrmA (match vs with | [v] => v | vs => Z1Q (vs.map shr))), B)
theorem ZEE x0 x1 B : EE 151 [x0, x1] B =
 (let m0 := B.length
 mk (ob (ldN false 1 x1 B) fun a1 =>
 callS false EE 152 [a1, (shr x0)] B fun a2 B3 =>
 ob (xext 0 (shr a2)) fun a4 =>
 ob (xext 1 (shr a2)) fun a5 =>
 stN 1 x1 (shr a4) B3 fun B6 =>
 ZCQ  B6)) := (E_eq PP XX HH _ _ _).trans (by kernel_rfl)
def Zrb : Code := Z2I Tryz.f152
def ZuV (r0 r1 : AV) (B : List Row) : Option Res :=
 ob (ob (some r0) fun v => ob (ob (some r1) fun v => ob (some []) fun vs => some (v :: vs)) fun vs => some (v :: vs)) fun vs => some ((nrmA (match vs with | [v] => v | vs => Z1Q (vs.map shr))), B)
def ZsB (m0 : Nat) : Kont := kret PP HH 152 Tryz.f152.results
def ZEG (m0 : Nat) : Kont := kseq HH 152 m0 (l2 (l2 Zrb)) (exec PP HH 152 m0 EE LL (l2 (l2 Zrb)) (ZsB m0)) (ZsB m0)
def Zp2 (m0 : Nat) (B : List Row) : Option Res := exec PP HH 152 m0 EE LL (l1 (l2 (l1 (l2 Zrb)))) (ZEG m0) [] B
def ZsC (m0 : Nat) (x0 x1 : AV) (B : List Row) : Option Res := exec PP HH 152 m0 EE LL (l2 (l2 Zrb)) (ZsB m0) [(0, x0), (1, x1)] B
theorem ZyR m0 B : Zp2 m0  B =
 mk (ZuV nilA (iv 10) B) := by kernel_rfl
theorem ZyS m0 x0 x1 B : ZsC m0 x0 x1 B =
 mk (ob (xlit PP 250 2 [(0, (shr x0)), (1, (shr x1))]) fun a9 =>
 callS false EE 174 [a9] B fun a10 B11 =>
 callS false EE 169 [a10] B11 fun a12 B13 =>
 ZuV (shr a12) (iv 0) B13) := by kernel_rfl
theorem ZEF x0 x1 B : EE 152 [x0, x1] B =
 (let m0 := B.length
 mk (mk (callS false EE 170 [(shr x0)] B fun a1 B2 =>
 ob (xun PP .not a1) fun a3 =>
 asB (shr a3) fun t4 => br t4 (Zp2 m0  (gcB m0 [] B2))
 (callS false EE 170 [(shr x1)] B2 fun a5 B6 =>
 ob (xun PP .not a5) fun a7 =>
 asB (shr a7) fun t8 => br t8 (Zp2 m0  (gcB m0 [] B6))
 (ZsC m0 x0 x1 (gcB m0 [x0, x1] B6)))))) := (E_eq PP XX HH _ _ _).trans (by kernel_rfl)
def ZuW : Code := Z2I Tryz.f153
def Zms (r0 r1 r2 : AV) (B : List Row) : Option Res :=
 ob (ob (some r0) fun v => ob (ob (some r1) fun v => ob (ob (some r2) fun v => ob (some []) fun vs => some (v :: vs)) fun vs => some (v :: vs)) fun vs => some (v :: vs)) fun vs => some ((match vs with | [v] => v | vs => Z1Q (vs.map shr)), B)
def ZsD (m0 : Nat) : Kont := kret PP HH 153 Tryz.f153.results
def ZsE (m0 : Nat) (x0 x5 : AV) (B : List Row) : Option Res := exec PP HH 153 m0 EE LL (l2 (l2 (l2 ZuW))) (ZsD m0) [(0, x0), (5, x5)] B
def ZsF (m0 : Nat) (x0 x2 x5 : AV) (B : List Row) : Option Res := exec PP HH 153 m0 EE LL (l2 (l2 (l2 (l2 ZuW)))) (ZsD m0) [(0, x0), (2, x2), (5, x5)] B
def Zqk (m0 : Nat) (x0 x2 x5 : AV) (B : List Row) : Option Res := exec PP HH 153 m0 EE LL (l2 (l2 (l2 (l2 (l2 (l2 ZuW)))))) (ZsD m0) [(0, x0), (2, x2), (5, x5)] B
theorem ZyT m0 x0 x5 B : ZsE m0 x0 x5 B =
 mk (callS false EE 104 [(shr x0)] B fun a8 B9 =>
 mk (ob (xbin PP .lss 3 (shr (shr a8)) (iv 0)) fun a10 =>
 asB a10 fun t11 => br t11 (mk (callS false EE 70 [(shr x0), (iv 21), (shr x5)] B9 fun a12 B13 =>
 mk (Zms (iv 0) nilA (bv false) B13)))
 (ZsF m0 x0 (shr a8) x5 (gcB m0 [x0, (shr a8), x5] B9)))) := by kernel_rfl
theorem ZyU m0 x0 x2 x5 B : ZsF m0 x0 x2 x5 B =
 mk (callS false EE 127 [(shr x0)] B fun a14 B15 =>
 mk (callS true EE 149 [(shr x2)] B15 fun a16 B17 =>
 mk (ob (xnil PP .neq 94 (.slice none 0 0) (shr a16)) fun a18 =>
 asB a18 fun t19 => br t19 (mk (ob (xbin PP .lss 3 (shr x2) (iv 97)) fun a20 =>
 Zms (iv 0) a16 (shr a20) B17))
 (Zqk m0 x0 x2 x5 (gcB m0 [x0, x2, x5] B17))))) := by kernel_rfl
theorem Zxg m0 x0 x2 x5 B : Zqk m0 x0 x2 x5 B =
 mk (callS false EE 150 [(shr x0), (shr x2), (shr x5)] B fun a21 B22 =>
 Zms (shr a21) nilA (bv false) B22) := by kernel_rfl
theorem ZEH x0 B : EE 153 [x0] B =
 (let m0 := B.length
 mk (mk (ob (Z1Z (shr x0)) fun a1 =>
 ob (xfld 1 a1) fun a2 =>
 ob (ldN false 1 a2 B) fun a3 =>
 mk (callS false EE 127 [(shr x0)] B fun a4 B5 =>
 mk (ob (xbin PP .neq 3 (shr (shr a4)) (iv 92)) fun a6 =>
 asB a6 fun t7 => br t7 (mk (Zms (shr (shr (shr a4))) nilA (bv false) B5))
 (ZsE m0 x0 (shr a3) (gcB m0 [x0, (shr a3)] B5))))))) := (E_eq PP XX HH _ _ _).trans (by kernel_rfl)
def Zhh : Code := Z2I Tryz.f154
def ZuX (r0 : AV) (B : List Row) : Option Res :=
 ob (ob (some r0) fun v => ob (some []) fun vs => some (v :: vs)) fun vs => some ((nrmA (match vs with | [v] => v | vs => Z1Q (vs.map shr))), B)
def ZsG (m0 : Nat) : Kont := kret PP HH 154 Tryz.f154.results
def ZEJ (m0 : Nat) : Kont := kseq HH 154 m0 (l2 (l2 Zhh)) (exec PP HH 154 m0 EE LL (l2 (l2 Zhh)) (ZsG m0)) (ZsG m0)
def ZsH (m0 : Nat) : Kont := kblk 0 (ZEJ m0)
def ZxH (m0 : Nat) : Kont := kloop HH 154 m0 (l1 (l1 (l2 (l1 (l2 Zhh))))) (LL 154 m0 (l1 (l1 (l2 (l1 (l2 Zhh))))) (ZsH m0)) (ZsH m0)
def ZiP (m0 : Nat) (x0 x1 x7 x8 : AV) (B : List Row) : Option Res := lp (LL 154 m0 (l1 (l1 (l2 (l1 (l2 Zhh))))) (ZsH m0) [(0, x0), (1, x1), (7, x7), (8, x8)] B)
def ZsI (m0 : Nat) (x0 x1 x7 x8 : AV) (B : List Row) : Option Res := exec PP HH 154 m0 EE LL (l2 (l2 (l1 (l1 (l2 (l1 (l2 Zhh))))))) (ZxH m0) [(0, x0), (1, x1), (7, x7), (8, x8)] B
def ZsK (m0 : Nat) (B : List Row) : Option Res := exec PP HH 154 m0 EE LL (l2 (l2 Zhh)) (ZsG m0) [] B
def ZsJ (m0 : Nat) (x0 x1 x7 x8 : AV) (B : List Row) : Option Res := exec PP HH 154 m0 EE LL (l2 (l2 (l2 (l1 (l1 (l2 (l1 (l2 Zhh)))))))) (ZxH m0) [(0, x0), (1, x1), (7, x7), (8, x8)] B
theorem ZyV m0 x0 x1 x7 x8 B : ZiP m0 x0 x1 x7 x8 B =
 mk (ob (xbin PP .lss 3 x8 x7) fun a2 =>
 asB a2 fun t3 => br t3 (ZsI m0 x0 x1 x7 x8 (gcB m0 [x0, x1, x7, x8] B))
 (ZsK m0  (gcB m0 [] B))) := (L_eq PP XX HH _ _ _ _ _ _).trans (by kernel_rfl)
theorem ZyW m0 x0 x1 x7 x8 B : ZsI m0 x0 x1 x7 x8 B =
 mk (mk (ob (xidx 1 (shr x0) (shr (shr (shr x8)))) fun a4 =>
 ob (ldN false 1 a4 B) fun a5 =>
 callV HH EE (shr x1) [a5] B fun a6 B7 =>
 asB a6 fun t8 => br t8 (mk (ZuX (shr (shr (shr (shr x8)))) B7))
 (ZsJ m0 x0 x1 x7 x8 (gcB m0 [x0, x1, x7, x8] B7)))) := by kernel_rfl
theorem ZyY m0 B : ZsK m0  B =
 mk (ZuX (iv (-1)) B) := by kernel_rfl
theorem ZyX m0 x0 x1 x7 x8 B : ZsJ m0 x0 x1 x7 x8 B =
 mk (ob (xbin PP .add 3 x8 (iv 1)) fun a9 =>
 ZiP m0 x0 x1 x7 (shr a9) (gcB m0 [x0, x1, x7, (shr a9)] B)) := by kernel_rfl
theorem ZEI x0 x1 B : EE 154 [x0, x1] B =
 (let m0 := B.length
 mk (mk (ob (xlen PP 226 (shr x0)) fun a1 =>
 ZiP m0 x0 x1 a1 (iv 0) (gcB m0 [x0, x1, a1, (iv 0)] B)))) := (E_eq PP XX HH _ _ _).trans (by kernel_rfl)
def ZCR (r0 : AV) (B : List Row) : Option Res :=
 ob (ob (some r0) fun v => ob (some []) fun vs => some (v :: vs)) fun vs => some ((nrmA (match vs with | [v] => v | vs => Z1Q (vs.map shr))), B)
theorem ZEK B : EE 155 [] B =
 (let m0 := B.length
 mk (mk (ob (xlit PP 226 4 [(0, (.p (.v (.string (ByteArray.mk #[63, 61]))))), (1, (.p (.v (.string (ByteArray.mk #[63, 33]))))), (2, (.p (.v (.string (ByteArray.mk #[63, 60, 61]))))), (3, (.p (.v (.string (ByteArray.mk #[63, 60, 33])))))]) fun a1 =>
 ZCR (shr a1) B))) := (E_eq PP XX HH _ _ _).trans (by kernel_rfl)
def Zjg : Code := Z2I Tryz.f156
def ZCS (r0 : AV) (B : List Row) : Option Res :=
 ob (ob (some r0) fun v => ob (some []) fun vs => some (v :: vs)) fun vs => some ((nrmA (match vs with | [v] => v | vs => Z1Q (vs.map shr))), B)
def ZsL (m0 : Nat) : Kont := kret PP HH 156 Tryz.f156.results
def ZEM (m0 : Nat) : Kont := kseq HH 156 m0 (l2 (l2 (l2 Zjg))) (exec PP HH 156 m0 EE LL (l2 (l2 (l2 Zjg))) (ZsL m0)) (ZsL m0)
def ZsM (m0 : Nat) : Kont := kblk 0 (ZEM m0)
def ZEN (m0 : Nat) : Kont := kloop HH 156 m0 (l1 (l1 (l2 (l1 (l2 (l2 Zjg)))))) (LL 156 m0 (l1 (l1 (l2 (l1 (l2 (l2 Zjg)))))) (ZsM m0)) (ZsM m0)
def ZiQ (m0 : Nat) (x0 x3 x4 : AV) (B : List Row) : Option Res := lp (LL 156 m0 (l1 (l1 (l2 (l1 (l2 (l2 Zjg)))))) (ZsM m0) [(0, x0), (3, x3), (4, x4)] B)
def ZsN (m0 : Nat) (x0 x3 x4 : AV) (B : List Row) : Option Res := exec PP HH 156 m0 EE LL (l2 (l1 (l1 (l2 (l1 (l2 (l2 Zjg))))))) (ZEN m0) [(0, x0), (3, x3), (4, x4)] B
def Zlf (m0 : Nat) (x3 : AV) (B : List Row) : Option Res := exec PP HH 156 m0 EE LL (l2 (l2 (l2 Zjg))) (ZsL m0) [(3, x3)] B
theorem ZyZ m0 x0 x3 x4 B : ZiQ m0 x0 x3 x4 B =
 mk (ob (xbin PP .lss 3 (shr x4) (iv 2)) fun a1 =>
 asB (shr a1) fun t2 => br t2 (callS false EE 104 [(shr x0)] B fun a3 B4 =>
 ob (xbin PP .geq 3 a3 (iv 48)) fun a5 =>
 asB (shr (shr a5)) fun t6 => br t6 (callS false EE 104 [(shr x0)] B4 fun a7 B8 =>
 ob (xbin PP .leq 3 a7 (iv 57)) fun a9 =>
 asB (shr a9) fun t10 => br t10 (ZsN m0 x0 x3 x4 (gcB m0 [x0, x3, x4] B8))
 (Zlf m0 x3 (gcB m0 [x3] B8)))
 (Zlf m0 x3 (gcB m0 [x3] B4)))
 (Zlf m0 x3 (gcB m0 [x3] B))) := (L_eq PP XX HH _ _ _ _ _ _).trans (by kernel_rfl)
theorem Zz0 m0 x0 x3 x4 B : ZsN m0 x0 x3 x4 B =
 mk (ob (Z7D PP true [(shr x3), (iv 0)]) fun a11 =>
 ob (xbin PP .mul 3 (iv 10) a11) fun a12 =>
 callS false EE 127 [(shr x0)] B fun a13 B14 =>
 ob (xbin PP .add 3 a12 a13) fun a15 =>
 ob (xbin PP .sub 3 a15 (iv 48)) fun a16 =>
 mk (ob (xbin PP .add 3 (shr x4) (iv 1)) fun a17 =>
 ZiQ m0 x0 (shr a16) (shr a17) (gcB m0 [x0, (shr a16), (shr a17)] B14))) := by kernel_rfl
theorem Zz1 m0 x3 B : Zlf m0 x3 B =
 mk (ZCS (shr (shr x3)) B) := by kernel_rfl
theorem ZEL x0 B : EE 156 [x0] B =
 (let m0 := B.length
 mk (mk (mk (ZiQ m0 x0 (iv (-1)) (iv 0) (gcB m0 [x0, (iv (-1)), (iv 0)] B))))) := (E_eq PP XX HH _ _ _).trans (by kernel_rfl)
def ZCT (r0 : AV) (B : List Row) : Option Res :=
 ob (ob (some r0) fun v => ob (some []) fun vs => some (v :: vs)) fun vs => some ((nrmA (match vs with | [v] => v | vs => Z1Q (vs.map shr))), B)
theorem ZEO x0 x1 B : EE 166 [x0, x1] B =
 (let m0 := B.length
 mk (mk (callS false EE 179 [(shr x0), (shr x1)] B fun a1 B2 =>
 ob (xbin PP .geq 3 a1 (iv 0)) fun a3 =>
 ZCT (shr a3) B2))) := (E_eq PP XX HH _ _ _).trans (by kernel_rfl)
def ZCU (r0 : AV) (B : List Row) : Option Res :=
 ob (ob (some r0) fun v => ob (some []) fun vs => some (v :: vs)) fun vs => some ((nrmA (match vs with | [v] => v | vs => Z1Q (vs.map shr))), B)
theorem ZEP x0 B : EE 167 [x0] B =
 (let m0 := B.length
 mk (bx x0 B fun a1 B2 =>
 mk (ob (ldN true 2 a1 B2) fun a3 =>
 callS false EE 168 [a3] B2 fun a4 B5 =>
 ob (xun PP .not a4) fun a6 =>
 ZCU (shr a6) B5))) := (E_eq PP XX HH _ _ _).trans (by kernel_rfl)
def Zql (r0 : AV) (B : List Row) : Option Res :=
 ob (ob (some r0) fun v => ob (some []) fun vs => some (v :: vs)) fun vs => some ((nrmA (match vs with | [v] => v | vs => Z1Q (vs.map shr))), B)
theorem ZEQ x0 B : EE 168 [x0] B =
 (let m0 := B.length
 mk (bx x0 B fun a1 B2 =>
 mk (ob (xfld 0 a1) fun a3 =>
 ob (ldN false 1 a3 B2) fun a4 =>
 ob (xbin PP .geq 3 a4 (iv 0)) fun a5 =>
 asB (shr a5) fun t6 => br t6 (ob (xfld 0 a1) fun a7 =>
 ob (ldN false 1 a7 B2) fun a8 =>
 ob (xfld 1 a1) fun a9 =>
 ob (ldN false 1 a9 B2) fun a10 =>
 ob (xbin PP .leq 3 a8 a10) fun a11 =>
 asB (shr (shr a11)) fun t12 => br t12 (ob (xfld 1 a1) fun a13 =>
 ob (ldN false 1 a13 B2) fun a14 =>
 ob (xbin PP .leq 3 a14 (iv 1114367)) fun a15 =>
 Zql (shr (shr a15)) B2)
 (Zql (bv false) B2))
 (Zql (bv false) B2)))) := (E_eq PP XX HH _ _ _).trans (by kernel_rfl)
def Zah : Code := Z2I Tryz.f170
def Zv7 (r0 : AV) (B : List Row) : Option Res :=
 ob (ob (some r0) fun v => ob (some []) fun vs => some (v :: vs)) fun vs => some ((nrmA (match vs with | [v] => v | vs => Z1Q (vs.map shr))), B)
def ZsV (m0 : Nat) : Kont := kret PP HH 170 Tryz.f170.results
def ZES (m0 : Nat) : Kont := kseq HH 170 m0 (l2 (l2 (l2 Zah))) (exec PP HH 170 m0 EE LL (l2 (l2 (l2 Zah))) (ZsV m0)) (ZsV m0)
def ZsW (m0 : Nat) : Kont := kblk 0 (ZES m0)
def Zp3 (m0 : Nat) : Kont := kloop HH 170 m0 (l1 (l1 (l2 (l1 (l2 (l2 Zah)))))) (LL 170 m0 (l1 (l1 (l2 (l1 (l2 (l2 Zah)))))) (ZsW m0)) (ZsW m0)
def ZET (m0 : Nat) : Kont := kseq HH 170 m0 (l2 (l2 (l2 (l1 (l1 (l2 (l1 (l2 (l2 Zah))))))))) (exec PP HH 170 m0 EE LL (l2 (l2 (l2 (l1 (l1 (l2 (l1 (l2 (l2 Zah))))))))) (Zp3 m0)) (Zp3 m0)
def ZsX (m0 : Nat) : Kont := kblk 1 (ZET m0)
def ZEU (m0 : Nat) : Kont := kseq HH 170 m0 (l2 (l2 (l1 (l1 (l2 (l2 (l1 (l1 (l2 (l1 (l2 (l2 Zah)))))))))))) (exec PP HH 170 m0 EE LL (l2 (l2 (l1 (l1 (l2 (l2 (l1 (l1 (l2 (l1 (l2 (l2 Zah)))))))))))) (ZsX m0)) (ZsX m0)
def ZiR (m0 : Nat) (x3 x6 x7 x8 : AV) (B : List Row) : Option Res := lp (LL 170 m0 (l1 (l1 (l2 (l1 (l2 (l2 Zah)))))) (ZsW m0) [(3, x3), (6, x6), (7, x7), (8, x8)] B)
def ZsY (m0 : Nat) (x3 x6 x7 x8 : AV) (B : List Row) : Option Res := exec PP HH 170 m0 EE LL (l2 (l2 (l1 (l1 (l2 (l1 (l2 (l2 Zah)))))))) (Zp3 m0) [(3, x3), (6, x6), (7, x7), (8, x8)] B
def Zt1 (m0 : Nat) (B : List Row) : Option Res := exec PP HH 170 m0 EE LL (l2 (l2 (l2 Zah))) (ZsV m0) [] B
def Zp4 (m0 : Nat) (B : List Row) : Option Res := exec PP HH 170 m0 EE LL (l1 (l2 (l1 (l2 (l1 (l1 (l2 (l2 (l1 (l1 (l2 (l1 (l2 (l2 Zah)))))))))))))) (ZEU m0) [] B
def ZsZ (m0 : Nat) (x5 x6 x7 x8 : AV) (B : List Row) : Option Res := exec PP HH 170 m0 EE LL (l2 (l2 (l1 (l1 (l2 (l2 (l1 (l1 (l2 (l1 (l2 (l2 Zah)))))))))))) (ZsX m0) [(5, x5), (6, x6), (7, x7), (8, x8)] B
def Zt0 (m0 : Nat) (x3 x6 x7 x8 : AV) (B : List Row) : Option Res := exec PP HH 170 m0 EE LL (l2 (l2 (l2 (l1 (l1 (l2 (l1 (l2 (l2 Zah))))))))) (Zp3 m0) [(3, x3), (6, x6), (7, x7), (8, x8)] B
theorem Zz7 m0 x3 x6 x7 x8 B : ZiR m0 x3 x6 x7 x8 B =
 mk (ob (xbin PP .lss 3 x8 x7) fun a2 =>
 asB a2 fun t3 => br t3 (ZsY m0 x3 x6 x7 x8 (gcB m0 [x3, x6, x7, x8] B))
 (Zt1 m0  (gcB m0 [] B))) := (L_eq PP XX HH _ _ _ _ _ _).trans (by kernel_rfl)
theorem Zz8 m0 x3 x6 x7 x8 B : ZsY m0 x3 x6 x7 x8 B =
 mk (ob (xidx 2 x6 x8) fun a4 =>
 ob (ldN true 2 a4 B) fun a5 =>
 bz PP 201 B fun a6 B7 =>
 stN 2 a6 a5 B7 fun B8 =>
 mk (ob (ldN true 2 a6 B8) fun a9 =>
 callS false EE 168 [a9] B8 fun a10 B11 =>
 ob (xun PP .not a10) fun a12 =>
 asB (shr a12) fun t13 => br t13 (Zp4 m0  (gcB m0 [] B11))
 (ob (xfld 0 a6) fun a14 =>
 ob (ldN false 1 a14 B11) fun a15 =>
 ob (xbin PP .add 3 (shr x3) (iv 2)) fun a16 =>
 ob (xbin PP .lss 3 a15 a16) fun a17 =>
 asB (shr a17) fun t18 => br t18 (Zp4 m0  (gcB m0 [] B11))
 (ZsZ m0 a6 x6 x7 x8 (gcB m0 [a6, x6, x7, x8] B11))))) := by kernel_rfl
theorem Zzc m0 B : Zt1 m0  B =
 mk (Zv7 (bv true) B) := by kernel_rfl
theorem Zz9 m0 B : Zp4 m0  B =
 mk (Zv7 (bv false) B) := by kernel_rfl
theorem Zza m0 x5 x6 x7 x8 B : ZsZ m0 x5 x6 x7 x8 B =
 mk (ob (xfld 1 x5) fun a19 =>
 ob (ldN false 1 a19 B) fun a20 =>
 Zt0 m0 (shr a20) x6 x7 x8 (gcB m0 [(shr a20), x6, x7, x8] B)) := by kernel_rfl
theorem Zzb m0 x3 x6 x7 x8 B : Zt0 m0 x3 x6 x7 x8 B =
 mk (ob (xbin PP .add 3 x8 (iv 1)) fun a21 =>
 ZiR m0 x3 x6 x7 (shr a21) (gcB m0 [x3, x6, x7, (shr a21)] B)) := by kernel_rfl
theorem ZER x0 B : EE 170 [x0] B =
 (let m0 := B.length
 mk (mk (mk (ob (xlen PP 95 (shr x0)) fun a1 =>
 ZiR m0 (iv (-2)) (shr x0) a1 (iv 0) (gcB m0 [(iv (-2)), (shr x0), a1, (iv 0)] B))))) := (E_eq PP XX HH _ _ _).trans (by kernel_rfl)
def ZbN : Code := Z2I Tryz.f171
def ZCV (r0 : AV) (B : List Row) : Option Res :=
 ob (ob (some r0) fun v => ob (some []) fun vs => some (v :: vs)) fun vs => some ((nrmA (match vs with | [v] => v | vs => Z1Q (vs.map shr))), B)
def Zp5 (m0 : Nat) : Kont := kret PP HH 171 Tryz.f171.results
def ZEW (m0 : Nat) : Kont := kseq HH 171 m0 (l2 (l2 (l2 (l2 ZbN)))) (exec PP HH 171 m0 EE LL (l2 (l2 (l2 (l2 ZbN)))) (Zp5 m0)) (Zp5 m0)
def Zt2 (m0 : Nat) : Kont := kblk 0 (ZEW m0)
def Zp6 (m0 : Nat) : Kont := kloop HH 171 m0 (l1 (l1 (l2 (l1 (l2 (l2 (l2 ZbN))))))) (LL 171 m0 (l1 (l1 (l2 (l1 (l2 (l2 (l2 ZbN))))))) (Zt2 m0)) (Zt2 m0)
def ZEX (m0 : Nat) : Kont := kseq HH 171 m0 (l2 (l2 (l2 (l1 (l1 (l2 (l1 (l2 (l2 (l2 ZbN)))))))))) (exec PP HH 171 m0 EE LL (l2 (l2 (l2 (l1 (l1 (l2 (l1 (l2 (l2 (l2 ZbN)))))))))) (Zp6 m0)) (Zp6 m0)
def ZEY (m0 : Nat) : Kont := kblk 1 (ZEX m0)
def ZiS (m0 : Nat) (x3 x4 x7 x8 x9 : AV) (B : List Row) : Option Res := lp (LL 171 m0 (l1 (l1 (l2 (l1 (l2 (l2 (l2 ZbN))))))) (Zt2 m0) [(3, x3), (4, x4), (7, x7), (8, x8), (9, x9)] B)
def Zt3 (m0 : Nat) (x3 x4 x7 x8 x9 : AV) (B : List Row) : Option Res := exec PP HH 171 m0 EE LL (l2 (l2 (l1 (l1 (l2 (l1 (l2 (l2 (l2 ZbN))))))))) (Zp6 m0) [(3, x3), (4, x4), (7, x7), (8, x8), (9, x9)] B
def Zqm (m0 : Nat) (x3 x4 : AV) (B : List Row) : Option Res := exec PP HH 171 m0 EE LL (l2 (l2 (l2 (l2 ZbN)))) (Zp5 m0) [(3, x3), (4, x4)] B
def Zp7 (m0 : Nat) (x3 x6 x7 x8 x9 : AV) (B : List Row) : Option Res := exec PP HH 171 m0 EE LL (l2 (l2 (l1 (l1 (l2 (l2 (l1 (l1 (l2 (l1 (l2 (l2 (l2 ZbN))))))))))))) (ZEY m0) [(3, x3), (6, x6), (7, x7), (8, x8), (9, x9)] B
def Zmt (m0 : Nat) (x3 : AV) (B : List Row) : Option Res := exec PP HH 171 m0 EE LL (l2 (l2 (l2 (l2 (l2 ZbN))))) (Zp5 m0) [(3, x3)] B
def Zt4 (m0 : Nat) (x3 x4 x7 x8 x9 : AV) (B : List Row) : Option Res := exec PP HH 171 m0 EE LL (l2 (l2 (l2 (l1 (l1 (l2 (l1 (l2 (l2 (l2 ZbN)))))))))) (Zp6 m0) [(3, x3), (4, x4), (7, x7), (8, x8), (9, x9)] B
theorem Zzd m0 x3 x4 x7 x8 x9 B : ZiS m0 x3 x4 x7 x8 x9 B =
 mk (ob (xbin PP .lss 3 x9 x8) fun a2 =>
 asB a2 fun t3 => br t3 (Zt3 m0 x3 x4 x7 x8 x9 (gcB m0 [x3, x4, x7, x8, x9] B))
 (Zqm m0 x3 x4 (gcB m0 [x3, x4] B))) := (L_eq PP XX HH _ _ _ _ _ _).trans (by kernel_rfl)
theorem Zze m0 x3 x4 x7 x8 x9 B : Zt3 m0 x3 x4 x7 x8 x9 B =
 mk (ob (xidx 2 x7 x9) fun a4 =>
 ob (ldN true 2 a4 B) fun a5 =>
 bz PP 201 B fun a6 B7 =>
 stN 2 a6 a5 B7 fun B8 =>
 mk (ob (xfld 0 a6) fun a9 =>
 ob (ldN false 1 a9 B8) fun a10 =>
 ob (xbin PP .lss 3 (shr x4) a10) fun a11 =>
 asB a11 fun t12 => br t12 (mk (ob (xfld 0 a6) fun a13 =>
 ob (ldN false 1 a13 B8) fun a14 =>
 ob (xbin PP .sub 3 a14 (iv 1)) fun a15 =>
 ob (Z1F PP 201 [(0, (shr x4)), (1, a15)]) fun a16 =>
 ob (xlit PP 95 1 [(0, a16)]) fun a17 =>
 ob (xapp 2 x3 a17) fun a18 =>
 Zp7 m0 a18 a6 x7 x8 x9 (gcB m0 [a18, a6, x7, x8, x9] B8)))
 (Zp7 m0 x3 a6 x7 x8 x9 (gcB m0 [x3, a6, x7, x8, x9] B8)))) := by kernel_rfl
theorem Zxh m0 x3 x4 B : Zqm m0 x3 x4 B =
 mk (ob (xbin PP .leq 3 (shr x4) (iv 1114367)) fun a19 =>
 asB a19 fun t20 => br t20 (mk (ob (Z1F PP 201 [(0, (shr x4)), (1, (iv 1114367))]) fun a21 =>
 ob (xlit PP 95 1 [(0, a21)]) fun a22 =>
 ob (xapp 2 x3 a22) fun a23 =>
 Zmt m0 a23 (gcB m0 [a23] B)))
 (Zmt m0 x3 (gcB m0 [x3] B))) := by kernel_rfl
theorem Zzf m0 x3 x6 x7 x8 x9 B : Zp7 m0 x3 x6 x7 x8 x9 B =
 mk (ob (xfld 1 x6) fun a24 =>
 ob (ldN false 1 a24 B) fun a25 =>
 ob (xbin PP .add 3 a25 (iv 1)) fun a26 =>
 Zt4 m0 x3 (shr a26) x7 x8 x9 (gcB m0 [x3, (shr a26), x7, x8, x9] B)) := by kernel_rfl
theorem Zxi m0 x3 B : Zmt m0 x3 B =
 mk (ZCV (shr (shr x3)) B) := by kernel_rfl
theorem Zzg m0 x3 x4 x7 x8 x9 B : Zt4 m0 x3 x4 x7 x8 x9 B =
 mk (ob (xbin PP .add 3 x9 (iv 1)) fun a27 =>
 ZiS m0 x3 x4 x7 x8 (shr a27) (gcB m0 [x3, x4, x7, x8, (shr a27)] B)) := by kernel_rfl
theorem ZEV x0 B : EE 171 [x0] B =
 (let m0 := B.length
 mk (mk (mk (mk (ob (xlen PP 95 (shr x0)) fun a1 =>
 ZiS m0 nilA (iv 0) (shr x0) a1 (iv 0) (gcB m0 [nilA, (iv 0), (shr x0), a1, (iv 0)] B)))))) := (E_eq PP XX HH _ _ _).trans (by kernel_rfl)
def Zlj : Code := Z2I Tryz.f172
def Zqn (r0 : AV) (B : List Row) : Option Res :=
 ob (ob (some r0) fun v => ob (some []) fun vs => some (v :: vs)) fun vs => some ((nrmA (match vs with | [v] => v | vs => Z1Q (vs.map shr))), B)
def Zt5 (m0 : Nat) : Kont := kret PP HH 172 Tryz.f172.results
def ZF0 (m0 : Nat) : Kont := kseq HH 172 m0 (l2 (l2 Zlj)) (exec PP HH 172 m0 EE LL (l2 (l2 Zlj)) (Zt5 m0)) (Zt5 m0)
def Zt6 (m0 : Nat) : Kont := kblk 0 (ZF0 m0)
def Zt7 (m0 : Nat) (x0 : AV) (B : List Row) : Option Res := exec PP HH 172 m0 EE LL (l1 (l2 (l1 (l1 (l2 Zlj))))) (Zt6 m0) [(0, x0)] B
def Zp8 (m0 : Nat) (x0 : AV) (B : List Row) : Option Res := exec PP HH 172 m0 EE LL (l2 (l2 (l1 (l1 (l2 Zlj))))) (Zt6 m0) [(0, x0)] B
def Zt8 (m0 : Nat) (x0 : AV) (B : List Row) : Option Res := exec PP HH 172 m0 EE LL (l1 (l2 (l2 (l2 (l1 (l1 (l2 Zlj))))))) (Zt6 m0) [(0, x0)] B
def Zp9 (m0 : Nat) (B : List Row) : Option Res := exec PP HH 172 m0 EE LL (l2 (l2 Zlj)) (Zt5 m0) [] B
theorem Zzh m0 x0 B : Zt7 m0 x0 B =
 mk (ob (xbin PP .sub 3 (shr x0) (iv 48)) fun a5 =>
 Zqn (shr a5) B) := by kernel_rfl
theorem Zzi m0 x0 B : Zp8 m0 x0 B =
 mk (ob (xbin PP .geq 3 (shr x0) (iv 97)) fun a6 =>
 asB (shr a6) fun t7 => br t7 (ob (xbin PP .leq 3 (shr x0) (iv 102)) fun a8 =>
 asB (shr (shr a8)) fun t9 => br t9 (Zt8 m0 x0 (gcB m0 [x0] B))
 (Zp9 m0  (gcB m0 [] B)))
 (Zp9 m0  (gcB m0 [] B))) := by kernel_rfl
theorem Zzj m0 x0 B : Zt8 m0 x0 B =
 mk (ob (xbin PP .sub 3 (shr x0) (iv 97)) fun a10 =>
 ob (xbin PP .add 3 a10 (iv 10)) fun a11 =>
 Zqn (shr a11) B) := by kernel_rfl
theorem Zzk m0 B : Zp9 m0  B =
 mk (Zqn (iv (-1)) B) := by kernel_rfl
theorem ZEZ x0 B : EE 172 [x0] B =
 (let m0 := B.length
 mk (mk (ob (xbin PP .geq 3 (shr x0) (iv 48)) fun a1 =>
 asB (shr a1) fun t2 => br t2 (ob (xbin PP .leq 3 (shr x0) (iv 57)) fun a3 =>
 asB (shr (shr a3)) fun t4 => br t4 (Zt7 m0 x0 (gcB m0 [x0] B))
 (Zp8 m0 x0 (gcB m0 [x0] B)))
 (Zp8 m0 x0 (gcB m0 [x0] B))))) := (E_eq PP XX HH _ _ _).trans (by kernel_rfl)
def ZCW (r0 : AV) (B : List Row) : Option Res :=
 ob (ob (some r0) fun v => ob (some []) fun vs => some (v :: vs)) fun vs => some ((nrmA (match vs with | [v] => v | vs => Z1Q (vs.map shr))), B)
theorem ZF1 x0 x1 B : EE 173 [x0, x1] B =
 (let m0 := B.length
 mk (bx x1 B fun a1 B2 =>
 mk (callS false EE 184 [(shr x0), (.clo 185 ([].map nrmA) ([a1].map nrmA))] B2 fun a3 B4 =>
 ZCW (shr a3) B4))) := (E_eq PP XX HH _ _ _).trans (by kernel_rfl)
def Zhi : Code := Z2I Tryz.f179
def Zv8 (r0 : AV) (B : List Row) : Option Res :=
 ob (ob (some r0) fun v => ob (some []) fun vs => some (v :: vs)) fun vs => some ((nrmA (match vs with | [v] => v | vs => Z1Q (vs.map shr))), B)
def Zt9 (m0 : Nat) : Kont := kret PP HH 179 Tryz.f179.results
def ZF3 (m0 : Nat) : Kont := kseq HH 179 m0 (l2 (l2 Zhi)) (exec PP HH 179 m0 EE LL (l2 (l2 Zhi)) (Zt9 m0)) (Zt9 m0)
def Zta (m0 : Nat) : Kont := kblk 0 (ZF3 m0)
def ZxI (m0 : Nat) : Kont := kloop HH 179 m0 (l1 (l1 (l2 (l1 (l2 Zhi))))) (LL 179 m0 (l1 (l1 (l2 (l1 (l2 Zhi))))) (Zta m0)) (Zta m0)
def ZiT (m0 : Nat) (x0 x1 x7 x8 : AV) (B : List Row) : Option Res := lp (LL 179 m0 (l1 (l1 (l2 (l1 (l2 Zhi))))) (Zta m0) [(0, x0), (1, x1), (7, x7), (8, x8)] B)
def Ztb (m0 : Nat) (x0 x1 x7 x8 : AV) (B : List Row) : Option Res := exec PP HH 179 m0 EE LL (l2 (l2 (l1 (l1 (l2 (l1 (l2 Zhi))))))) (ZxI m0) [(0, x0), (1, x1), (7, x7), (8, x8)] B
def Ztd (m0 : Nat) (B : List Row) : Option Res := exec PP HH 179 m0 EE LL (l2 (l2 Zhi)) (Zt9 m0) [] B
def Ztc (m0 : Nat) (x0 x1 x7 x8 : AV) (B : List Row) : Option Res := exec PP HH 179 m0 EE LL (l2 (l2 (l2 (l1 (l1 (l2 (l1 (l2 Zhi)))))))) (ZxI m0) [(0, x0), (1, x1), (7, x7), (8, x8)] B
theorem Zzl m0 x0 x1 x7 x8 B : ZiT m0 x0 x1 x7 x8 B =
 mk (ob (xbin PP .lss 3 x8 x7) fun a2 =>
 asB a2 fun t3 => br t3 (Ztb m0 x0 x1 x7 x8 (gcB m0 [x0, x1, x7, x8] B))
 (Ztd m0  (gcB m0 [] B))) := (L_eq PP XX HH _ _ _ _ _ _).trans (by kernel_rfl)
theorem Zzm m0 x0 x1 x7 x8 B : Ztb m0 x0 x1 x7 x8 B =
 mk (mk (ob (xidx 2 (shr x0) (shr (shr (shr x8)))) fun a4 =>
 ob (ldN true 2 a4 B) fun a5 =>
 callV HH EE (shr x1) [a5] B fun a6 B7 =>
 asB a6 fun t8 => br t8 (mk (Zv8 (shr (shr (shr (shr x8)))) B7))
 (Ztc m0 x0 x1 x7 x8 (gcB m0 [x0, x1, x7, x8] B7)))) := by kernel_rfl
theorem Zzo m0 B : Ztd m0  B =
 mk (Zv8 (iv (-1)) B) := by kernel_rfl
theorem Zzn m0 x0 x1 x7 x8 B : Ztc m0 x0 x1 x7 x8 B =
 mk (ob (xbin PP .add 3 x8 (iv 1)) fun a9 =>
 ZiT m0 x0 x1 x7 (shr a9) (gcB m0 [x0, x1, x7, (shr a9)] B)) := by kernel_rfl
theorem ZF2 x0 x1 B : EE 179 [x0, x1] B =
 (let m0 := B.length
 mk (mk (ob (xlen PP 94 (shr x0)) fun a1 =>
 ZiT m0 x0 x1 a1 (iv 0) (gcB m0 [x0, x1, a1, (iv 0)] B)))) := (E_eq PP XX HH _ _ _).trans (by kernel_rfl)
def ZCX (r0 : AV) (B : List Row) : Option Res :=
 ob (ob (some r0) fun v => ob (some []) fun vs => some (v :: vs)) fun vs => some ((nrmA (match vs with | [v] => v | vs => Z1Q (vs.map shr))), B)
theorem ZF4 x0 x1 B : EE 184 [x0, x1] B =
 (let m0 := B.length
 mk (mk (callS false EE 191 [(shr x0), (shr x1)] B fun a1 B2 =>
 ob (xbin PP .geq 3 a1 (iv 0)) fun a3 =>
 ZCX (shr a3) B2))) := (E_eq PP XX HH _ _ _).trans (by kernel_rfl)
def Zv9 (r0 : AV) (B : List Row) : Option Res :=
 ob (ob (some r0) fun v => ob (some []) fun vs => some (v :: vs)) fun vs => some ((nrmA (match vs with | [v] => v | vs => Z1Q (vs.map shr))), B)
theorem ZF5 x0 x1 B : EE 185 [x0, x1] B =
 (let m0 := B.length
 mk (bx x0 B fun a1 B2 =>
 mk (ob (xfld 0 a1) fun a3 =>
 ob (ldN false 1 a3 B2) fun a4 =>
 ob (ldN false 1 x1 B2) fun a5 =>
 ob (xbin PP .leq 3 a4 a5) fun a6 =>
 asB (shr a6) fun t7 => br t7 (ob (ldN false 1 x1 B2) fun a8 =>
 ob (xfld 1 a1) fun a9 =>
 ob (ldN false 1 a9 B2) fun a10 =>
 ob (xbin PP .leq 3 a8 a10) fun a11 =>
 Zv9 (shr (shr a11)) B2)
 (Zv9 (bv false) B2)))) := (E_eq PP XX HH _ _ _).trans (by kernel_rfl)
def Zhj : Code := Z2I Tryz.f191
def Zva (r0 : AV) (B : List Row) : Option Res :=
 ob (ob (some r0) fun v => ob (some []) fun vs => some (v :: vs)) fun vs => some ((nrmA (match vs with | [v] => v | vs => Z1Q (vs.map shr))), B)
def Zte (m0 : Nat) : Kont := kret PP HH 191 Tryz.f191.results
def ZF7 (m0 : Nat) : Kont := kseq HH 191 m0 (l2 (l2 Zhj)) (exec PP HH 191 m0 EE LL (l2 (l2 Zhj)) (Zte m0)) (Zte m0)
def Ztf (m0 : Nat) : Kont := kblk 0 (ZF7 m0)
def ZxJ (m0 : Nat) : Kont := kloop HH 191 m0 (l1 (l1 (l2 (l1 (l2 Zhj))))) (LL 191 m0 (l1 (l1 (l2 (l1 (l2 Zhj))))) (Ztf m0)) (Ztf m0)
def ZiU (m0 : Nat) (x0 x1 x7 x8 : AV) (B : List Row) : Option Res := lp (LL 191 m0 (l1 (l1 (l2 (l1 (l2 Zhj))))) (Ztf m0) [(0, x0), (1, x1), (7, x7), (8, x8)] B)
def Ztg (m0 : Nat) (x0 x1 x7 x8 : AV) (B : List Row) : Option Res := exec PP HH 191 m0 EE LL (l2 (l2 (l1 (l1 (l2 (l1 (l2 Zhj))))))) (ZxJ m0) [(0, x0), (1, x1), (7, x7), (8, x8)] B
def Zti (m0 : Nat) (B : List Row) : Option Res := exec PP HH 191 m0 EE LL (l2 (l2 Zhj)) (Zte m0) [] B
def Zth (m0 : Nat) (x0 x1 x7 x8 : AV) (B : List Row) : Option Res := exec PP HH 191 m0 EE LL (l2 (l2 (l2 (l1 (l1 (l2 (l1 (l2 Zhj)))))))) (ZxJ m0) [(0, x0), (1, x1), (7, x7), (8, x8)] B
theorem Zzp m0 x0 x1 x7 x8 B : ZiU m0 x0 x1 x7 x8 B =
 mk (ob (xbin PP .lss 3 x8 x7) fun a2 =>
 asB a2 fun t3 => br t3 (Ztg m0 x0 x1 x7 x8 (gcB m0 [x0, x1, x7, x8] B))
 (Zti m0  (gcB m0 [] B))) := (L_eq PP XX HH _ _ _ _ _ _).trans (by kernel_rfl)
theorem Zzq m0 x0 x1 x7 x8 B : Ztg m0 x0 x1 x7 x8 B =
 mk (mk (ob (xidx 2 (shr x0) (shr (shr (shr x8)))) fun a4 =>
 ob (ldN true 2 a4 B) fun a5 =>
 callV HH EE (shr x1) [a5] B fun a6 B7 =>
 asB a6 fun t8 => br t8 (mk (Zva (shr (shr (shr (shr x8)))) B7))
 (Zth m0 x0 x1 x7 x8 (gcB m0 [x0, x1, x7, x8] B7)))) := by kernel_rfl
theorem Zzs m0 B : Zti m0  B =
 mk (Zva (iv (-1)) B) := by kernel_rfl
theorem Zzr m0 x0 x1 x7 x8 B : Zth m0 x0 x1 x7 x8 B =
 mk (ob (xbin PP .add 3 x8 (iv 1)) fun a9 =>
 ZiU m0 x0 x1 x7 (shr a9) (gcB m0 [x0, x1, x7, (shr a9)] B)) := by kernel_rfl
theorem ZF6 x0 x1 B : EE 191 [x0, x1] B =
 (let m0 := B.length
 mk (mk (ob (xlen PP 95 (shr x0)) fun a1 =>
 ZiU m0 x0 x1 a1 (iv 0) (gcB m0 [x0, x1, a1, (iv 0)] B)))) := (E_eq PP XX HH _ _ _).trans (by kernel_rfl)
end Go.Proofs.YteoeggbihfnbfaaGreatDoor.N2
end
