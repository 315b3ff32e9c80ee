/- The functions' equations, by the evaluator. No condition. -/
import Derived.Test.YtadodmjdkphddaaDoorEvA
import Derived.Test.YtadodmjdkphddaaDoorProg
import Derived.KernelRfl
import Derived.Test.YtadodmjdkphddaaDoorEvD

section
set_option linter.unusedSimpArgs false
set_option linter.unusedVariables false
namespace Go.Proofs.YtadodmjdkphddaaDoor.N2
open Go Go.Abs
def keepT : FuncId → Nat → Option (List Nat) := fun f r =>
 if f = 6 then (if r = 4 then some [] else if r = 8 then some [] else if r = 10 then some [0, 1, 5, 7, 57, 58, 59] else if r = 17 then some [] else if r = 16 then some [0, 1, 5, 7, 9, 11, 57, 58, 59] else if r = 18 then some [0, 1, 5, 7, 57, 58, 59] else if r = 11 then some [0, 1, 5, 7, 57, 58, 59] else if r = 19 then some [] else if r = 9 then some [0, 1, 5, 7] else if r = 5 then some [0, 1] else if r = 3 then some [0, 1] else none) else
 if f = 15 then (if r = 6 then some [] else if r = 7 then some [4, 6, 8] else none) else
 if f = 16 then (if r = 7 then some [2, 3, 4, 5] else if r = 9 then some [2, 3, 4, 5, 50, 51, 52] else if r = 13 then some [2, 3, 4, 5, 50, 51, 52] else if r = 10 then some [2, 3, 4, 5, 50, 51, 52] else if r = 16 then some [2, 3, 4, 5] else if r = 14 then some [2, 3, 4, 5] else if r = 8 then some [2, 3, 4, 5] else if r = 3 then some [0, 2, 3] else none) else
 if f = 17 then (if r = 2 then some [] else if r = 4 then some [3, 58, 59, 60] else if r = 8 then some [3, 58, 59, 60] else if r = 5 then some [3, 58, 59, 60] else if r = 9 then some [] else if r = 3 then some [2, 3] else none) else
 if f = 22 then (if r = 4 then some [1, 12, 13, 14] else if r = 8 then some [1, 12, 13, 14] else if r = 5 then some [1, 12, 13, 14] else if r = 9 then some [] else if r = 3 then some [0, 1] else none) else
 if f = 27 then (if r = 2 then some [] else if r = 3 then some [0, 1] else none) else
 if f = 28 then (if r = 2 then some [0, 2, 3] else if r = 3 then some [0, 2, 3] else if r = 4 then some [2, 3] else none) else
 if f = 29 then (if r = 2 then some [0] else none) else
 if f = 35 then (if r = 2 then some [0, 2, 3] else if r = 7 then some [0, 2, 3] else if r = 3 then some [0, 2, 3] else if r = 9 then some [2, 3] else none) else
 if f = 36 then (if r = 6 then some [0, 1, 4] else none) else
 if f = 37 then (if r = 2 then some [0, 1, 7, 8] else if r = 6 then some [0, 1, 7, 8] else if r = 3 then some [0, 1, 7, 8] else if r = 7 then some [] else none) else
 if f = 41 then (if r = 3 then some [0] else none) else
 if f = 42 then (if r = 26 then some [2] else none) else
 if f = 43 then (if r = 17 then some [6, 8] else if r = 13 then some [0, 6, 8] else if r = 11 then some [0, 2, 6, 7, 8] else none) else
 if f = 45 then (if r = 2 then some [] else if r = 5 then some [0, 1] else if r = 6 then some [6, 7] else if r = 3 then some [0, 1] else none) else
 if f = 47 then (if r = 4 then some [4, 5] else none) else
 if f = 49 then (if r = 13 then some [0, 1, 4, 5] else if r = 15 then some [0, 1, 4, 5] else if r = 5 then some [0, 1, 4, 5] else none) else
 if f = 50 then (if r = 5 then some [0, 1, 4, 5, 6, 7, 8] else if r = 18 then some [4, 6] else if r = 15 then some [0, 4, 5, 6] else if r = 32 then some [0, 1, 4, 5, 6, 7, 8, 9] else if r = 35 then some [0, 1, 4, 5, 6, 7, 8, 9, 11, 15] else if r = 33 then some [0, 1, 4, 5, 6, 7, 8, 9, 11] else if r = 36 then some [0, 1, 4, 5, 6, 7, 8, 11, 15] else if r = 28 then some [0, 1, 4, 5, 6, 7, 8, 9, 11] else if r = 22 then some [0, 1, 4, 5, 6, 7, 8, 9] else if r = 6 then some [0, 1, 4, 5, 6, 7, 8] else if r = 7 then some [0, 1, 4, 5, 6, 7, 8] else if r = 38 then some [4] else none) else
 if f = 51 then (if r = 19 then some [0, 1, 4, 7] else if r = 23 then some [4, 7] else if r = 20 then some [0, 4, 7] else if r = 17 then some [0, 1, 4] else if r = 4 then some [0, 1, 4] else none) else
 if f = 52 then (if r = 7 then some [4] else if r = 8 then some [0, 1, 4] else if r = 6 then some [0, 1, 4] else if r = 10 then some [0, 1, 4, 5] else if r = 11 then some [4, 5] else if r = 9 then some [0, 1, 4, 5] else none) else
 if f = 54 then (if r = 3 then some [0] else none) else
 if f = 55 then (if r = 3 then some [0] else none) else
 if f = 56 then (if r = 11 then some [] else none) else
 if f = 57 then (if r = 16 then some [1] else if r = 17 then some [0, 2] else none) else
 if f = 59 then (if r = 2 then some [] else if r = 3 then some [0, 1] else none) else
 if f = 60 then (if r = 13 then some [0, 2, 5] else if r = 9 then some [0, 2, 5] else if r = 5 then some [0, 5] else none) else
 if f = 61 then (if r = 2 then some [0, 1, 7, 8] else if r = 6 then some [0, 1, 7, 8] else if r = 3 then some [0, 1, 7, 8] else if r = 7 then some [] else none) else
 if f = 63 then (if r = 3 then some [0, 3, 4] else if r = 5 then some [0, 3, 4] else if r = 6 then some [3] else none) else
 if f = 69 then (if r = 3 then some [3, 6, 7, 8] else if r = 6 then some [] else if r = 7 then some [5, 6, 7, 8] else if r = 8 then some [3, 6, 7, 8] else if r = 4 then some [3, 6, 7, 8] else if r = 9 then some [] else none) else
 if f = 70 then (if r = 4 then some [3, 4, 7, 8, 9] else if r = 8 then some [3, 6, 7, 8, 9] else if r = 9 then some [3, 4, 7, 8, 9] else if r = 5 then some [3, 4, 7, 8, 9] else if r = 12 then some [3] else if r = 10 then some [3, 4] else none) else
 if f = 71 then (if r = 4 then some [0] else if r = 2 then some [0] else if r = 3 then some [0] else if r = 5 then some [] else none) else
 if f = 73 then (if r = 2 then some [0, 1, 7, 8] else if r = 6 then some [0, 1, 7, 8] else if r = 3 then some [0, 1, 7, 8] else if r = 7 then some [] else none) else
 none
def ownT : FuncId → List Nat := fun f =>
 if f = 28 then [3, 9] else
 if f = 35 then [3, 23] else
 if f = 49 then [44] else
 if f = 56 then [2] else
 if f = 60 then [3, 6, 29] else
 if f = 70 then [3, 17, 31] else
 []
def rawT : FuncId → Bool := fun f => if f = 56 then true else if f = 60 then true else false
def HH : Hints := ⟨keepT, ownT, rawT⟩
def XX : FuncId → Option (List AV → List Row → Option Res) := fun f => if f = 53 then some xDecode else if f = 68 then some xNormal else if f = 72 then some xConcat else none
noncomputable abbrev PP : Program := Tryd.prog
noncomputable abbrev EE : GF := E PP XX HH
noncomputable abbrev LL : LF := L PP XX HH
end Go.Proofs.YtadodmjdkphddaaDoor.N2
end
section
set_option linter.unusedSimpArgs false
set_option linter.unusedVariables false
namespace Go.Proofs.YtadodmjdkphddaaDoor.N2
open Go Go.Abs
set_option linter.unusedVariables false
set_option maxRecDepth 100000
noncomputable def Z63 : Code := bodyOf Tryd.f6
def Zbw (r0 : AV) (B : List Row) : Option Res :=
 ob (ob (some r0) fun v => ob (some []) fun vs => some (v :: vs)) fun vs => some ((nrmA (match vs with | [v] => v | vs => mkTup (vs.map shr))), B)
noncomputable def Z97 (m0 : Nat) : Kont := kret PP HH 6 Tryd.f6.results
noncomputable def Zj4 (m0 : Nat) : Kont := kseq HH 6 m0 (l2 (l2 (l2 Z63))) (exec PP HH 6 m0 EE LL (l2 (l2 (l2 Z63))) (Z97 m0)) (Z97 m0)
noncomputable def Zj7 (m0 : Nat) : Kont := kseq HH 6 m0 (l2 (l2 (l2 (l2 (l2 (l2 Z63)))))) (exec PP HH 6 m0 EE LL (l2 (l2 (l2 (l2 (l2 (l2 Z63)))))) (Z97 m0)) (Z97 m0)
noncomputable def ZiY (m0 : Nat) : Kont := kseq HH 6 m0 (l2 (l2 (l2 (l2 (l2 (l2 (l2 Z63))))))) (exec PP HH 6 m0 EE LL (l2 (l2 (l2 (l2 (l2 (l2 (l2 Z63))))))) (Z97 m0)) (Z97 m0)
noncomputable def Zfj (m0 : Nat) : Kont := kblk 0 (ZiY m0)
noncomputable def Zdx (m0 : Nat) : Kont := kloop HH 6 m0 (l1 (l1 (l2 (l1 (l2 (l2 (l2 (l2 (l2 (l2 Z63)))))))))) (LL 6 m0 (l1 (l1 (l2 (l1 (l2 (l2 (l2 (l2 (l2 (l2 Z63)))))))))) (Zfj m0)) (Zfj m0)
noncomputable def Zj3 (m0 : Nat) : Kont := kseq HH 6 m0 (l2 (l2 (l2 (l1 (l1 (l2 (l1 (l2 (l2 (l2 (l2 (l2 (l2 Z63))))))))))))) (exec PP HH 6 m0 EE LL (l2 (l2 (l2 (l1 (l1 (l2 (l1 (l2 (l2 (l2 (l2 (l2 (l2 Z63))))))))))))) (Zdx m0)) (Zdx m0)
noncomputable def Zhl (m0 : Nat) : Kont := kblk 1 (Zj3 m0)
noncomputable def Zfx (m0 : Nat) (x0 x1 : AV) (B : List Row) : Option Res := exec PP HH 6 m0 EE LL (l2 (l2 Z63)) (Z97 m0) [(0, x0), (1, x1)] B
noncomputable def Zdy (m0 : Nat) (B : List Row) : Option Res := exec PP HH 6 m0 EE LL (l1 (l2 (l1 (l2 (l2 Z63))))) (Zj4 m0) [] B
noncomputable def Zfa (m0 : Nat) (x0 x1 : AV) (B : List Row) : Option Res := exec PP HH 6 m0 EE LL (l2 (l2 (l2 Z63))) (Z97 m0) [(0, x0), (1, x1)] B
noncomputable def ZbC (m0 : Nat) (B : List Row) : Option Res := exec PP HH 6 m0 EE LL (l1 (l2 (l1 (l2 (l2 (l2 (l2 (l2 Z63)))))))) (Zj7 m0) [] B
noncomputable def Zfy (m0 : Nat) (x0 x1 x5 x7 : AV) (B : List Row) : Option Res := exec PP HH 6 m0 EE LL (l2 (l2 (l2 (l2 (l2 (l2 Z63)))))) (Z97 m0) [(0, x0), (1, x1), (5, x5), (7, x7)] B
noncomputable def Zbs (m0 : Nat) (x0 x1 x5 x7 x57 x58 x59 : AV) (B : List Row) : Option Res := lp (LL 6 m0 (l1 (l1 (l2 (l1 (l2 (l2 (l2 (l2 (l2 (l2 Z63)))))))))) (Zfj m0) [(0, x0), (1, x1), (5, x5), (7, x7), (57, x57), (58, x58), (59, x59)] B)
noncomputable def Ze9 (m0 : Nat) (x0 x1 x5 x7 x57 x58 x59 : AV) (B : List Row) : Option Res := exec PP HH 6 m0 EE LL (l2 (l2 (l1 (l1 (l2 (l1 (l2 (l2 (l2 (l2 (l2 (l2 Z63)))))))))))) (Zdx m0) [(0, x0), (1, x1), (5, x5), (7, x7), (57, x57), (58, x58), (59, x59)] B
noncomputable def ZdV (m0 : Nat) (B : List Row) : Option Res := exec PP HH 6 m0 EE LL (l2 (l2 (l2 (l2 (l2 (l2 (l2 Z63))))))) (Z97 m0) [] B
noncomputable def ZcQ (m0 : Nat) (x0 x1 x5 x7 x57 x58 x59 : AV) (B : List Row) : Option Res := exec PP HH 6 m0 EE LL (l2 (l2 (l2 (l1 (l1 (l2 (l1 (l2 (l2 (l2 (l2 (l2 (l2 Z63))))))))))))) (Zdx m0) [(0, x0), (1, x1), (5, x5), (7, x7), (57, x57), (58, x58), (59, x59)] B
noncomputable def ZdC (m0 : Nat) (x0 x1 x5 x7 x9 x11 x57 x58 x59 : AV) (B : List Row) : Option Res := exec PP HH 6 m0 EE LL (l2 (l2 (l2 (l1 (l1 (l2 (l2 (l1 (l1 (l2 (l1 (l2 (l2 (l2 (l2 (l2 (l2 Z63))))))))))))))))) (Zhl m0) [(0, x0), (1, x1), (5, x5), (7, x7), (9, x9), (11, x11), (57, x57), (58, x58), (59, x59)] B
noncomputable def Zbo (m0 : Nat) (B : List Row) : Option Res := exec PP HH 6 m0 EE LL (l1 (l2 (l2 (l2 (l2 (l1 (l1 (l2 (l2 (l1 (l1 (l2 (l1 (l2 (l2 (l2 (l2 (l2 (l2 Z63))))))))))))))))))) (Zhl m0) [] B
theorem Zhh (m0 : Nat) (x0 x1 : AV) (B : List Row) : Zfx m0 x0 x1 B =
 mk (ob (xlen PP 9 (shr x0)) fun a5 =>
 ob (xbin PP .gtr 3 a5 (iv 100)) fun a6 =>
 asB (shr a6) fun t7 => br t7 (Zdy m0  (gcB m0 [] B))
 (ob (xlen PP 9 (shr x1)) fun a8 =>
 ob (xbin PP .gtr 3 a8 (iv 100)) fun a9 =>
 asB (shr a9) fun t10 => br t10 (Zdy m0  (gcB m0 [] B))
 (Zfa m0 x0 x1 (gcB m0 [x0, x1] B)))) := by kernel_rfl
theorem Zhj (m0 : Nat) (B : List Row) : Zdy m0  B =
 mk (Zbw (bv true) B) := by kernel_rfl
theorem Zhk (m0 : Nat) (x0 x1 : AV) (B : List Row) : Zfa m0 x0 x1 B =
 mk (callS false EE 16 [(shr x0)] B fun a11 B12 =>
 ob (xext 0 (shr a11)) fun a13 =>
 ob (xext 1 (shr a11)) fun a14 =>
 bz PP 29 B12 fun a15 B16 =>
 bz PP 32 B16 fun a17 B18 =>
 stN 9 a15 (shr a13) B18 fun B19 =>
 stN 2 a17 (shr a14) B19 fun B20 =>
 mk (callS false EE 16 [(shr x1)] B20 fun a21 B22 =>
 ob (xext 0 (shr a21)) fun a23 =>
 ob (xext 1 (shr a21)) fun a24 =>
 bz PP 29 B22 fun a25 B26 =>
 bz PP 32 B26 fun a27 B28 =>
 stN 9 a25 (shr a23) B28 fun B29 =>
 stN 2 a27 (shr a24) B29 fun B30 =>
 mk (ob (xfld 0 a17) fun a31 =>
 ob (ldN false 1 a31 B30) fun a32 =>
 ob (xbin PP .neq 30 a32 (iv 0)) fun a33 =>
 asB (shr a33) fun t34 => br t34 (ZbC m0  (gcB m0 [] B30))
 (ob (xfld 0 a27) fun a35 =>
 ob (ldN false 1 a35 B30) fun a36 =>
 ob (xbin PP .neq 30 a36 (iv 0)) fun a37 =>
 asB (shr (shr a37)) fun t38 => br t38 (ZbC m0  (gcB m0 [] B30))
 (ob (xfld 8 a15) fun a39 =>
 ob (ldN false 1 a39 B30) fun a40 =>
 asB (shr (shr a40)) fun t41 => br t41 (ZbC m0  (gcB m0 [] B30))
 (ob (xfld 8 a25) fun a42 =>
 ob (ldN false 1 a42 B30) fun a43 =>
 asB (shr (shr a43)) fun t44 => br t44 (ZbC m0  (gcB m0 [] B30))
 (ob (xfld 7 a15) fun a45 =>
 ob (ldN false 1 a45 B30) fun a46 =>
 ob (xfld 7 a25) fun a47 =>
 ob (ldN false 1 a47 B30) fun a48 =>
 ob (xbin PP .add 3 a46 a48) fun a49 =>
 ob (xbin PP .gtr 3 a49 (iv 0)) fun a50 =>
 asB (shr a50) fun t51 => br t51 (ZbC m0  (gcB m0 [] B30))
 (Zfy m0 x0 x1 a15 a25 (gcB m0 [x0, x1, a15, a25] B30))))))))) := by kernel_rfl
theorem Zhi (m0 : Nat) (B : List Row) : ZbC m0  B =
 mk (Zbw (bv true) B) := by kernel_rfl
theorem Zhg (m0 : Nat) (x0 x1 x5 x7 : AV) (B : List Row) : Zfy m0 x0 x1 x5 x7 B =
 mk (ob (xlit PP 43 2 [(0, (.p (.v (.string (ByteArray.mk #[]))))), (1, (.p (.v (.string (ByteArray.mk #[124])))))]) fun a52 =>
 ob (xlen PP 43 a52) fun a53 =>
 Zbs m0 x0 x1 x5 x7 a52 a53 (iv 0) (gcB m0 [x0, x1, x5, x7, a52, a53, (iv 0)] B)) := by kernel_rfl
theorem Zgn (m0 : Nat) (x0 x1 x5 x7 x57 x58 x59 : AV) (B : List Row) : Zbs m0 x0 x1 x5 x7 x57 x58 x59 B =
 mk (ob (xbin PP .lss 3 x59 x58) fun a54 =>
 asB a54 fun t55 => br t55 (Ze9 m0 x0 x1 x5 x7 x57 x58 x59 (gcB m0 [x0, x1, x5, x7, x57, x58, x59] B))
 (ZdV m0  (gcB m0 [] B))) := (L_eq PP XX HH _ _ _ _ _ _).trans (by kernel_rfl)
theorem ZfT (m0 : Nat) (x0 x1 x5 x7 x57 x58 x59 : AV) (B : List Row) : Ze9 m0 x0 x1 x5 x7 x57 x58 x59 B =
 mk (ob (xidx 1 x57 x59) fun a56 =>
 ob (ldN false 1 a56 B) fun a57 =>
 mk (ob (xbin PP .add 9 (.p (.v (.string (ByteArray.mk #[40, 63, 58])))) (shr x0)) fun a58 =>
 ob (xbin PP .add 9 a58 (.p (.v (.string (ByteArray.mk #[41]))))) fun a59 =>
 ob (xbin PP .add 9 a59 (shr (shr a57))) fun a60 =>
 ob (xbin PP .add 9 a60 (.p (.v (.string (ByteArray.mk #[40, 63, 58]))))) fun a61 =>
 ob (xbin PP .add 9 a61 (shr x1)) fun a62 =>
 ob (xbin PP .add 9 a62 (.p (.v (.string (ByteArray.mk #[41]))))) fun a63 =>
 callS false EE 16 [a63] B fun a64 B65 =>
 ob (xext 0 (shr a64)) fun a66 =>
 ob (xext 1 (shr a64)) fun a67 =>
 bz PP 29 B65 fun a68 B69 =>
 bz PP 32 B69 fun a70 B71 =>
 stN 9 a68 (shr a66) B71 fun B72 =>
 stN 2 a70 (shr a67) B72 fun B73 =>
 mk (ob (xfld 0 a70) fun a74 =>
 ob (ldN false 1 a74 B73) fun a75 =>
 ob (xbin PP .neq 30 a75 (iv 0)) fun a76 =>
 asB a76 fun t77 => br t77 (mk (ob (xfld 0 a70) fun a78 =>
 ob (ldN false 1 a78 B73) fun a79 =>
 ob (xbin PP .neq 30 a79 (iv 25)) fun a80 =>
 asB a80 fun t81 => br t81 (mk (Zbw (bv false) B73))
 (ZcQ m0 x0 x1 x5 x7 x57 x58 x59 (gcB m0 [x0, x1, x5, x7, x57, x58, x59] B73))))
 (ZdC m0 x0 x1 x5 x7 (shr (shr x59)) a68 x57 x58 x59 (gcB m0 [x0, x1, x5, x7, (shr (shr x59)), a68, x57, x58, x59] B73))))) := by kernel_rfl
theorem Zgx (m0 : Nat) (B : List Row) : ZdV m0  B =
 mk (Zbw (bv true) B) := by kernel_rfl
theorem ZfW (m0 : Nat) (x0 x1 x5 x7 x57 x58 x59 : AV) (B : List Row) : ZcQ m0 x0 x1 x5 x7 x57 x58 x59 B =
 mk (ob (xbin PP .add 3 x59 (iv 1)) fun a82 =>
 Zbs m0 x0 x1 x5 x7 x57 x58 (shr a82) (gcB m0 [x0, x1, x5, x7, x57, x58, (shr a82)] B)) := by kernel_rfl
theorem ZgX (m0 : Nat) (x0 x1 x5 x7 x9 x11 x57 x58 x59 : AV) (B : List Row) : ZdC m0 x0 x1 x5 x7 x9 x11 x57 x58 x59 B =
 mk (ob (xfld 0 x11) fun a83 =>
 ob (xfld 0 a83) fun a84 =>
 ob (ldN false 1 a84 B) fun a85 =>
 ob (xlit PP 46 2 [(0, (iv 2)), (1, (iv 3))]) fun a86 =>
 ob (xidx 1 a86 (shr x9)) fun a87 =>
 ob (ldN false 1 a87 B) fun a88 =>
 ob (xbin PP .neq 3 a85 a88) fun a89 =>
 asB (shr a89) fun t90 => br t90 (Zbo m0  (gcB m0 [] B))
 (ob (xfld 0 x11) fun a91 =>
 ob (xfld 6 a91) fun a92 =>
 ob (ldN false 1 a92 B) fun a93 =>
 ob (xlen PP 25 a93) fun a94 =>
 ob (xbin PP .neq 3 a94 (iv 2)) fun a95 =>
 asB (shr (shr a95)) fun t96 => br t96 (Zbo m0  (gcB m0 [] B))
 (ob (xfld 0 x11) fun a97 =>
 ob (xfld 6 a97) fun a98 =>
 ob (ldN false 1 a98 B) fun a99 =>
 ob (xidx 7 a99 (iv 0)) fun a100 =>
 ob (ldN true 7 a100 B) fun a101 =>
 ob (xfld 0 x5) fun a102 =>
 ob (ldN true 7 a102 B) fun a103 =>
 callS false EE 17 [a101, a103] B fun a104 B105 =>
 ob (xun PP .not a104) fun a106 =>
 asB (shr (shr a106)) fun t107 => br t107 (Zbo m0  (gcB m0 [] B105))
 (ob (xfld 0 x11) fun a108 =>
 ob (xfld 6 a108) fun a109 =>
 ob (ldN false 1 a109 B105) fun a110 =>
 ob (xidx 7 a110 (iv 1)) fun a111 =>
 ob (ldN true 7 a111 B105) fun a112 =>
 ob (xfld 0 x7) fun a113 =>
 ob (ldN true 7 a113 B105) fun a114 =>
 callS false EE 17 [a112, a114] B105 fun a115 B116 =>
 ob (xun PP .not a115) fun a117 =>
 asB (shr a117) fun t118 => br t118 (Zbo m0  (gcB m0 [] B116))
 (ZcQ m0 x0 x1 x5 x7 x57 x58 x59 (gcB m0 [x0, x1, x5, x7, x57, x58, x59] B116)))))) := by kernel_rfl
theorem ZgV (m0 : Nat) (B : List Row) : Zbo m0  B =
 mk (Zbw (bv false) B) := by kernel_rfl
theorem Zj5 (x0 x1 : AV) (B : List Row) : EE 6 [x0, x1] B =
 (let m0 := B.length
 mk (mk (callS false EE 15 [] B fun a1 B2 =>
 ob (xun PP .not a1) fun a3 =>
 asB a3 fun t4 => br t4 (mk (Zbw (bv false) B2))
 (Zfx m0 x0 x1 (gcB m0 [x0, x1] B2))))) := (E_eq PP XX HH _ _ _).trans (by kernel_rfl)
noncomputable def Zdw : Code := bodyOf Tryd.f15
def Zcb (r0 : AV) (B : List Row) : Option Res :=
 ob (ob (some r0) fun v => ob (some []) fun vs => some (v :: vs)) fun vs => some ((nrmA (match vs with | [v] => v | vs => mkTup (vs.map shr))), B)
noncomputable def Zeh (m0 : Nat) : Kont := kret PP HH 15 Tryd.f15.results
noncomputable def ZhS (m0 : Nat) : Kont := kseq HH 15 m0 (l2 (l2 (l2 (l2 (l2 (l2 Zdw)))))) (exec PP HH 15 m0 EE LL (l2 (l2 (l2 (l2 (l2 (l2 Zdw)))))) (Zeh m0)) (Zeh m0)
noncomputable def Za9 (m0 : Nat) (B : List Row) : Option Res := exec PP HH 15 m0 EE LL (l1 (l2 (l1 (l2 (l2 (l2 (l2 (l2 Zdw)))))))) (ZhS m0) [] B
noncomputable def Zed (m0 : Nat) (x4 x6 x8 : AV) (B : List Row) : Option Res := exec PP HH 15 m0 EE LL (l2 (l2 (l2 (l2 (l2 (l2 Zdw)))))) (Zeh m0) [(4, x4), (6, x6), (8, x8)] B
theorem Zh7 (m0 : Nat) (B : List Row) : Za9 m0  B =
 mk (Zcb (bv false) B) := by kernel_rfl
theorem Zgv (m0 : Nat) (x4 x6 x8 : AV) (B : List Row) : Zed m0 x4 x6 x8 B =
 mk (ob (ldN true 2 x4 B) fun a72 =>
 ob (xbuild PP 32 [(0, (iv 23)), (1, (iv 2))]) fun a73 =>
 ob (xbin PP .eql 32 a72 a73) fun a74 =>
 asB (shr a74) fun t75 => br t75 (ob (ldN true 2 x6 B) fun a76 =>
 ob (xbuild PP 32 [(0, (iv 20))]) fun a77 =>
 ob (xbin PP .eql 32 a76 a77) fun a78 =>
 asB (shr (shr a78)) fun t79 => br t79 (ob (ldN true 2 x8 B) fun a80 =>
 ob (xbuild PP 32 [(0, (iv 26))]) fun a81 =>
 ob (xbin PP .eql 32 a80 a81) fun a82 =>
 Zcb (shr (shr a82)) B)
 (Zcb (bv false) B))
 (Zcb (bv false) B)) := by kernel_rfl
theorem ZiW (B : List Row) : EE 15 [] B =
 (let m0 := B.length
 mk (mk (callS false EE 16 [(.p (.v (.string (ByteArray.mk #[97, 124, 98, 42, 63]))))] B fun a1 B2 =>
 ob (xext 0 (shr a1)) fun a3 =>
 ob (xext 1 (shr a1)) fun a4 =>
 bz PP 29 B2 fun a5 B6 =>
 bz PP 32 B6 fun a7 B8 =>
 stN 9 a5 (shr a3) B8 fun B9 =>
 stN 2 a7 (shr a4) B9 fun B10 =>
 mk (callS false EE 16 [(.p (.v (.string (ByteArray.mk #[97, 42, 42]))))] B10 fun a11 B12 =>
 ob (xext 0 (shr a11)) fun a13 =>
 ob (xext 1 (shr a11)) fun a14 =>
 bz PP 29 B12 fun a15 B16 =>
 bz PP 32 B16 fun a17 B18 =>
 stN 9 a15 (shr a13) B18 fun B19 =>
 stN 2 a17 (shr a14) B19 fun B20 =>
 mk (callS false EE 16 [(.p (.v (.string (ByteArray.mk #[40, 97]))))] B20 fun a21 B22 =>
 ob (xext 0 (shr a21)) fun a23 =>
 ob (xext 1 (shr a21)) fun a24 =>
 bz PP 29 B22 fun a25 B26 =>
 bz PP 32 B26 fun a27 B28 =>
 stN 9 a25 (shr a23) B28 fun B29 =>
 stN 2 a27 (shr a24) B29 fun B30 =>
 mk (callS false EE 16 [(.p (.v (.string (ByteArray.mk #[92, 49]))))] B30 fun a31 B32 =>
 ob (xext 0 (shr a31)) fun a33 =>
 ob (xext 1 (shr a31)) fun a34 =>
 bz PP 29 B32 fun a35 B36 =>
 bz PP 32 B36 fun a37 B38 =>
 stN 9 a35 (shr a33) B38 fun B39 =>
 stN 2 a37 (shr a34) B39 fun B40 =>
 mk (ob (xfld 0 a7) fun a41 =>
 ob (ldN false 1 a41 B40) fun a42 =>
 ob (xbin PP .neq 30 a42 (iv 0)) fun a43 =>
 asB (shr a43) fun t44 => br t44 (Za9 m0  (gcB m0 [] B40))
 (ob (xfld 0 a5) fun a45 =>
 ob (xfld 0 a45) fun a46 =>
 ob (ldN false 1 a46 B40) fun a47 =>
 ob (xbin PP .neq 3 a47 (iv 3)) fun a48 =>
 asB (shr (shr a48)) fun t49 => br t49 (Za9 m0  (gcB m0 [] B40))
 (ob (xfld 0 a5) fun a50 =>
 ob (xfld 6 a50) fun a51 =>
 ob (ldN false 1 a51 B40) fun a52 =>
 ob (xlen PP 25 a52) fun a53 =>
 ob (xbin PP .neq 3 a53 (iv 2)) fun a54 =>
 asB (shr (shr a54)) fun t55 => br t55 (Za9 m0  (gcB m0 [] B40))
 (ob (xfld 0 a5) fun a56 =>
 ob (xfld 6 a56) fun a57 =>
 ob (ldN false 1 a57 B40) fun a58 =>
 ob (xidx 7 a58 (iv 1)) fun a59 =>
 ob (xfld 0 a59) fun a60 =>
 ob (ldN false 1 a60 B40) fun a61 =>
 ob (xbin PP .neq 3 a61 (iv 4)) fun a62 =>
 asB (shr (shr a62)) fun t63 => br t63 (Za9 m0  (gcB m0 [] B40))
 (ob (xfld 0 a5) fun a64 =>
 ob (xfld 6 a64) fun a65 =>
 ob (ldN false 1 a65 B40) fun a66 =>
 ob (xidx 7 a66 (iv 1)) fun a67 =>
 ob (xfld 3 a67) fun a68 =>
 ob (ldN false 1 a68 B40) fun a69 =>
 ob (xbin PP .neq 3 a69 (iv 1)) fun a70 =>
 asB (shr a70) fun t71 => br t71 (Za9 m0  (gcB m0 [] B40))
 (Zed m0 a17 a27 a37 (gcB m0 [a17, a27, a37] B40))))))))))))) := (E_eq PP XX HH _ _ _).trans (by kernel_rfl)
noncomputable def Z6I : Code := bodyOf Tryd.f16
def Zdr (r0 r1 : AV) (B : List Row) : Option Res :=
 ob (ob (ldN true 9 r0 B) fun v => ob (ob (ldN true 2 r1 B) fun v => ob (some []) fun vs => some (v :: vs)) fun vs => some (v :: vs)) fun vs => some ((nrmA (match vs with | [v] => v | vs => mkTup (vs.map shr))), B)
noncomputable def Z9o (m0 : Nat) : Kont := kret PP HH 16 Tryd.f16.results
noncomputable def Zif (m0 : Nat) : Kont := kseq HH 16 m0 (l2 (l2 (l2 (l2 (l2 (l2 Z6I)))))) (exec PP HH 16 m0 EE LL (l2 (l2 (l2 (l2 (l2 (l2 Z6I)))))) (Z9o m0)) (Z9o m0)
noncomputable def Zid (m0 : Nat) : Kont := kseq HH 16 m0 (l2 (l2 (l2 (l2 (l2 (l2 (l2 Z6I))))))) (exec PP HH 16 m0 EE LL (l2 (l2 (l2 (l2 (l2 (l2 (l2 Z6I))))))) (Z9o m0)) (Z9o m0)
noncomputable def Zey (m0 : Nat) : Kont := kblk 0 (Zid m0)
noncomputable def ZgC (m0 : Nat) : Kont := kloop HH 16 m0 (l1 (l1 (l2 (l1 (l2 (l2 (l2 (l2 (l2 (l2 Z6I)))))))))) (LL 16 m0 (l1 (l1 (l2 (l1 (l2 (l2 (l2 (l2 (l2 (l2 Z6I)))))))))) (Zey m0)) (Zey m0)
noncomputable def Ze2 (m0 : Nat) (x0 x2 x3 : AV) (B : List Row) : Option Res := exec PP HH 16 m0 EE LL (l2 (l2 Z6I)) (Z9o m0) [(0, x0), (2, x2), (3, x3)] B
noncomputable def ZdL (m0 : Nat) (x2 x3 x4 x5 : AV) (B : List Row) : Option Res := exec PP HH 16 m0 EE LL (l1 (l2 (l1 (l2 (l2 (l2 (l2 (l2 Z6I)))))))) (Zif m0) [(2, x2), (3, x3), (4, x4), (5, x5)] B
noncomputable def ZbT (m0 : Nat) (x2 x3 x4 x5 : AV) (B : List Row) : Option Res := exec PP HH 16 m0 EE LL (l2 (l2 (l2 (l2 (l2 (l2 Z6I)))))) (Z9o m0) [(2, x2), (3, x3), (4, x4), (5, x5)] B
noncomputable def Zbd (m0 : Nat) (x2 x3 x4 x5 x50 x51 x52 : AV) (B : List Row) : Option Res := lp (LL 16 m0 (l1 (l1 (l2 (l1 (l2 (l2 (l2 (l2 (l2 (l2 Z6I)))))))))) (Zey m0) [(2, x2), (3, x3), (4, x4), (5, x5), (50, x50), (51, x51), (52, x52)] B)
noncomputable def Zdj (m0 : Nat) (x2 x3 x4 x5 x50 x51 x52 : AV) (B : List Row) : Option Res := exec PP HH 16 m0 EE LL (l2 (l2 (l1 (l1 (l2 (l1 (l2 (l2 (l2 (l2 (l2 (l2 Z6I)))))))))))) (ZgC m0) [(2, x2), (3, x3), (4, x4), (5, x5), (50, x50), (51, x51), (52, x52)] B
noncomputable def Zd8 (m0 : Nat) (x2 x3 x4 x5 : AV) (B : List Row) : Option Res := exec PP HH 16 m0 EE LL (l2 (l2 (l2 (l2 (l2 (l2 (l2 Z6I))))))) (Z9o m0) [(2, x2), (3, x3), (4, x4), (5, x5)] B
noncomputable def Zcc (m0 : Nat) (x2 x3 x4 x5 x50 x51 x52 : AV) (B : List Row) : Option Res := exec PP HH 16 m0 EE LL (l2 (l2 (l2 (l1 (l1 (l2 (l1 (l2 (l2 (l2 (l2 (l2 (l2 Z6I))))))))))))) (ZgC m0) [(2, x2), (3, x3), (4, x4), (5, x5), (50, x50), (51, x51), (52, x52)] B
noncomputable def Zdb (m0 : Nat) (x2 x3 x4 x5 : AV) (B : List Row) : Option Res := exec PP HH 16 m0 EE LL (l2 (l2 (l2 (l2 (l2 (l2 (l2 (l2 Z6I)))))))) (Z9o m0) [(2, x2), (3, x3), (4, x4), (5, x5)] B
theorem Zh2 (m0 : Nat) (x0 x2 x3 : AV) (B : List Row) : Ze2 m0 x0 x2 x3 B =
 mk (ob (xcnv PP 9 40 (shr x0)) fun a12 =>
 ob (xbuild PP 58 [(0, a12)]) fun a13 =>
 bx a13 B fun a14 B15 =>
 mk (callS false EE 27 [(shr (shr a14)), (.p (.v (.string (ByteArray.mk #[40, 63, 105, 41]))))] B15 fun a16 B17 =>
 ob (xbuild PP 29 [(2, a16)]) fun a18 =>
 bz PP 29 B17 fun a19 B20 =>
 stN 9 a19 a18 B20 fun B21 =>
 mk (callS false EE 28 [(shr (shr a14))] B21 fun a22 B23 =>
 ob (xfld 0 a19) fun a24 =>
 stN 7 a24 a22 B23 fun B25 =>
 mk (ob (xnilchk (shr (shr a14))) fun a26 =>
 ob (xfld 5 a26) fun a27 =>
 ob (xfld 0 a27) fun a28 =>
 ob (ldN false 1 a28 B25) fun a29 =>
 ob (xbin PP .eql 30 a29 (iv 0)) fun a30 =>
 asB (shr a30) fun t31 => br t31 (ob (xnilchk (shr (shr a14))) fun a32 =>
 ob (xfld 1 a32) fun a33 =>
 ob (ldN false 1 a33 B25) fun a34 =>
 ob (xnilchk (shr (shr a14))) fun a35 =>
 ob (xfld 0 a35) fun a36 =>
 ob (ldN false 1 a36 B25) fun a37 =>
 ob (xlen PP 40 a37) fun a38 =>
 ob (xbin PP .lss 3 a34 a38) fun a39 =>
 asB (shr a39) fun t40 => br t40 (ZdL m0 x2 x3 (shr a14) a19 (gcB m0 [x2, x3, (shr a14), a19] B25))
 (ZbT m0 x2 x3 (shr a14) a19 (gcB m0 [x2, x3, (shr a14), a19] B25)))
 (ZbT m0 x2 x3 (shr a14) a19 (gcB m0 [x2, x3, (shr a14), a19] B25)))))) := by kernel_rfl
theorem ZgU (m0 : Nat) (x2 x3 x4 x5 : AV) (B : List Row) : ZdL m0 x2 x3 x4 x5 B =
 mk (ob (xnilchk (shr x4)) fun a41 =>
 ob (xfld 1 a41) fun a42 =>
 ob (ldN false 1 a42 B) fun a43 =>
 callS false EE 29 [(shr x4), (iv 20), a43] B fun a44 B45 =>
 ZbT m0 x2 x3 x4 x5 (gcB m0 [x2, x3, x4, x5] B45)) := by kernel_rfl
theorem Zh1 (m0 : Nat) (x2 x3 x4 x5 : AV) (B : List Row) : ZbT m0 x2 x3 x4 x5 B =
 mk (ob (xnilchk (shr x4)) fun a46 =>
 ob (xfld 4 a46) fun a47 =>
 ob (ldN false 1 a47 B) fun a48 =>
 ob (xlen PP 56 a48) fun a49 =>
 Zbd m0 x2 x3 x4 x5 a48 a49 (iv 0) (gcB m0 [x2, x3, x4, x5, a48, a49, (iv 0)] B)) := by kernel_rfl
theorem ZfS (m0 : Nat) (x2 x3 x4 x5 x50 x51 x52 : AV) (B : List Row) : Zbd m0 x2 x3 x4 x5 x50 x51 x52 B =
 mk (ob (xbin PP .lss 3 x52 x51) fun a50 =>
 asB a50 fun t51 => br t51 (Zdj m0 x2 x3 x4 x5 x50 x51 x52 (gcB m0 [x2, x3, x4, x5, x50, x51, x52] B))
 (Zd8 m0 x2 x3 x4 x5 (gcB m0 [x2, x3, x4, x5] B))) := (L_eq PP XX HH _ _ _ _ _ _).trans (by kernel_rfl)
theorem Zfo (m0 : Nat) (x2 x3 x4 x5 x50 x51 x52 : AV) (B : List Row) : Zdj m0 x2 x3 x4 x5 x50 x51 x52 B =
 mk (ob (xidx 2 x50 x52) fun a52 =>
 ob (ldN true 2 a52 B) fun a53 =>
 bz PP 62 B fun a54 B55 =>
 stN 2 a54 a53 B55 fun B56 =>
 mk (ob (xfld 0 a54) fun a57 =>
 ob (ldN false 1 a57 B56) fun a58 =>
 ob (xnilchk (shr x4)) fun a59 =>
 ob (xfld 2 a59) fun a60 =>
 ob (ldN false 1 a60 B56) fun a61 =>
 ob (xbin PP .gtr 3 a58 a61) fun a62 =>
 asB a62 fun t63 => br t63 (mk (ob (xfld 1 a54) fun a64 =>
 ob (ldN false 1 a64 B56) fun a65 =>
 callS false EE 29 [(shr x4), (iv 26), a65] B56 fun a66 B67 =>
 Zcc m0 x2 x3 x4 x5 x50 x51 x52 (gcB m0 [x2, x3, x4, x5, x50, x51, x52] B67)))
 (Zcc m0 x2 x3 x4 x5 x50 x51 x52 (gcB m0 [x2, x3, x4, x5, x50, x51, x52] B56)))) := by kernel_rfl
theorem Zff (m0 : Nat) (x2 x3 x4 x5 : AV) (B : List Row) : Zd8 m0 x2 x3 x4 x5 B =
 mk (ob (xnilchk (shr x4)) fun a68 =>
 ob (xfld 5 a68) fun a69 =>
 ob (xfld 0 a69) fun a70 =>
 ob (ldN false 1 a70 B) fun a71 =>
 ob (xbin PP .neq 30 a71 (iv 0)) fun a72 =>
 asB a72 fun t73 => br t73 (mk (ob (xbuild PP 29 []) fun a74 =>
 ob (xnilchk (shr x4)) fun a75 =>
 ob (xfld 5 a75) fun a76 =>
 ob (ldN true 2 a76 B) fun a77 =>
 stN 9 x2 a74 B fun B78 =>
 stN 2 x3 a77 B78 fun B79 =>
 grd (ptrNe a76 x2) (Zdr x2 x3 B79)))
 (Zdb m0 x2 x3 x4 x5 (gcB m0 [x2, x3, x4, x5] B))) := by kernel_rfl
theorem Zfe (m0 : Nat) (x2 x3 x4 x5 x50 x51 x52 : AV) (B : List Row) : Zcc m0 x2 x3 x4 x5 x50 x51 x52 B =
 mk (ob (xbin PP .add 3 x52 (iv 1)) fun a80 =>
 Zbd m0 x2 x3 x4 x5 x50 x51 (shr a80) (gcB m0 [x2, x3, x4, x5, x50, x51, (shr a80)] B)) := by kernel_rfl
theorem ZfG (m0 : Nat) (x2 x3 x4 x5 : AV) (B : List Row) : Zdb m0 x2 x3 x4 x5 B =
 mk (ob (xnilchk (shr x4)) fun a81 =>
 ob (xfld 2 a81) fun a82 =>
 ob (ldN false 1 a82 B) fun a83 =>
 ob (xfld 7 x5) fun a84 =>
 stN 1 a84 a83 B fun B85 =>
 mk (ob (ldN true 9 x5 B85) fun a86 =>
 ob (xbuild PP 32 []) fun a87 =>
 stN 9 x2 a86 B85 fun B88 =>
 stN 2 x3 a87 B88 fun B89 =>
 Zdr x2 x3 B89)) := by kernel_rfl
theorem ZhO (x0 : AV) (B : List Row) : EE 16 [x0] B =
 (let m0 := B.length
 mk (bz PP 29 B fun a1 B2 =>
 bz PP 32 B2 fun a3 B4 =>
 mk (ob (xlen PP 9 (shr x0)) fun a5 =>
 ob (xbin PP .gtr 3 a5 (iv 256)) fun a6 =>
 asB a6 fun t7 => br t7 (mk (ob (xbuild PP 29 []) fun a8 =>
 ob (xbuild PP 32 [(0, (iv 12))]) fun a9 =>
 stN 9 a1 a8 B4 fun B10 =>
 stN 2 a3 a9 B10 fun B11 =>
 Zdr a1 a3 B11))
 (Ze2 m0 x0 a1 a3 (gcB m0 [x0, a1, a3] B4))))) := (E_eq PP XX HH _ _ _).trans (by kernel_rfl)
noncomputable def Z7T : Code := bodyOf Tryd.f17
def Zdm (r0 : AV) (B : List Row) : Option Res :=
 ob (ob (some r0) fun v => ob (some []) fun vs => some (v :: vs)) fun vs => some ((nrmA (match vs with | [v] => v | vs => mkTup (vs.map shr))), B)
noncomputable def Zbb (m0 : Nat) : Kont := kret PP HH 17 Tryd.f17.results
noncomputable def ZhH (m0 : Nat) : Kont := kseq HH 17 m0 (l2 (l2 Z7T)) (exec PP HH 17 m0 EE LL (l2 (l2 Z7T)) (Zbb m0)) (Zbb m0)
noncomputable def Zil (m0 : Nat) : Kont := kseq HH 17 m0 (l2 (l2 (l2 Z7T))) (exec PP HH 17 m0 EE LL (l2 (l2 (l2 Z7T))) (Zbb m0)) (Zbb m0)
noncomputable def ZdW (m0 : Nat) : Kont := kblk 0 (Zil m0)
noncomputable def ZgP (m0 : Nat) : Kont := kloop HH 17 m0 (l1 (l1 (l2 (l1 (l2 (l2 Z7T)))))) (LL 17 m0 (l1 (l1 (l2 (l1 (l2 (l2 Z7T)))))) (ZdW m0)) (ZdW m0)
noncomputable def Z8A (m0 : Nat) (B : List Row) : Option Res := exec PP HH 17 m0 EE LL (l1 (l2 (l1 (l2 Z7T)))) (ZhH m0) [] B
noncomputable def Ze1 (m0 : Nat) (x2 x3 : AV) (B : List Row) : Option Res := exec PP HH 17 m0 EE LL (l2 (l2 Z7T)) (Zbb m0) [(2, x2), (3, x3)] B
noncomputable def ZaX (m0 : Nat) (x3 x58 x59 x60 : AV) (B : List Row) : Option Res := lp (LL 17 m0 (l1 (l1 (l2 (l1 (l2 (l2 Z7T)))))) (ZdW m0) [(3, x3), (58, x58), (59, x59), (60, x60)] B)
noncomputable def Ze5 (m0 : Nat) (x3 x58 x59 x60 : AV) (B : List Row) : Option Res := exec PP HH 17 m0 EE LL (l2 (l2 (l1 (l1 (l2 (l1 (l2 (l2 Z7T)))))))) (ZgP m0) [(3, x3), (58, x58), (59, x59), (60, x60)] B
noncomputable def Zec (m0 : Nat) (B : List Row) : Option Res := exec PP HH 17 m0 EE LL (l2 (l2 (l2 Z7T))) (Zbb m0) [] B
noncomputable def Zer (m0 : Nat) (x3 x58 x59 x60 : AV) (B : List Row) : Option Res := exec PP HH 17 m0 EE LL (l2 (l2 (l2 (l1 (l1 (l2 (l1 (l2 (l2 Z7T))))))))) (ZgP m0) [(3, x3), (58, x58), (59, x59), (60, x60)] B
theorem Zh0 (m0 : Nat) (B : List Row) : Z8A m0  B =
 mk (Zdm (bv false) B) := by kernel_rfl
theorem Zhb (m0 : Nat) (x2 x3 : AV) (B : List Row) : Ze1 m0 x2 x3 B =
 mk (ob (xfld 6 x2) fun a51 =>
 ob (ldN false 1 a51 B) fun a52 =>
 ob (xlen PP 25 a52) fun a53 =>
 ZaX m0 x3 a52 a53 (iv 0) (gcB m0 [x3, a52, a53, (iv 0)] B)) := by kernel_rfl
theorem ZgL (m0 : Nat) (x3 x58 x59 x60 : AV) (B : List Row) : ZaX m0 x3 x58 x59 x60 B =
 mk (ob (xbin PP .lss 3 x60 x59) fun a54 =>
 asB a54 fun t55 => br t55 (Ze5 m0 x3 x58 x59 x60 (gcB m0 [x3, x58, x59, x60] B))
 (Zec m0  (gcB m0 [] B))) := (L_eq PP XX HH _ _ _ _ _ _).trans (by kernel_rfl)
theorem Zhd (m0 : Nat) (x3 x58 x59 x60 : AV) (B : List Row) : Ze5 m0 x3 x58 x59 x60 B =
 mk (ob (xidx 7 x58 x60) fun a56 =>
 ob (ldN true 7 a56 B) fun a57 =>
 bz PP 27 B fun a58 B59 =>
 stN 7 a58 a57 B59 fun B60 =>
 mk (ob (ldN true 7 a58 B60) fun a61 =>
 ob (xfld 6 x3) fun a62 =>
 ob (ldN false 1 a62 B60) fun a63 =>
 ob (xidx 7 a63 (shr (shr (shr x60)))) fun a64 =>
 ob (ldN true 7 a64 B60) fun a65 =>
 callS false EE 17 [a61, a65] B60 fun a66 B67 =>
 ob (xun PP .not a66) fun a68 =>
 asB a68 fun t69 => br t69 (mk (Zdm (bv false) B67))
 (Zer m0 x3 x58 x59 x60 (gcB m0 [x3, x58, x59, x60] B67)))) := by kernel_rfl
theorem Zgd (m0 : Nat) (B : List Row) : Zec m0  B =
 mk (Zdm (bv true) B) := by kernel_rfl
theorem ZgH (m0 : Nat) (x3 x58 x59 x60 : AV) (B : List Row) : Zer m0 x3 x58 x59 x60 B =
 mk (ob (xbin PP .add 3 x60 (iv 1)) fun a70 =>
 ZaX m0 x3 x58 x59 (shr a70) (gcB m0 [x3, x58, x59, (shr a70)] B)) := by kernel_rfl
theorem Zi4 (x0 x1 : AV) (B : List Row) : EE 17 [x0, x1] B =
 (let m0 := B.length
 mk (bx x0 B fun a1 B2 =>
 bx x1 B2 fun a3 B4 =>
 mk (ob (xfld 0 a1) fun a5 =>
 ob (ldN false 1 a5 B4) fun a6 =>
 ob (xfld 0 a3) fun a7 =>
 ob (ldN false 1 a7 B4) fun a8 =>
 ob (xbin PP .neq 3 a6 a8) fun a9 =>
 asB (shr a9) fun t10 => br t10 (Z8A m0  (gcB m0 [] B4))
 (ob (xfld 1 a1) fun a11 =>
 ob (ldN false 1 a11 B4) fun a12 =>
 ob (xfld 1 a3) fun a13 =>
 ob (ldN false 1 a13 B4) fun a14 =>
 ob (xbin PP .neq 3 a12 a14) fun a15 =>
 asB (shr (shr a15)) fun t16 => br t16 (Z8A m0  (gcB m0 [] B4))
 (ob (xfld 2 a1) fun a17 =>
 ob (ldN false 1 a17 B4) fun a18 =>
 ob (xfld 2 a3) fun a19 =>
 ob (ldN false 1 a19 B4) fun a20 =>
 ob (xbin PP .neq 3 a18 a20) fun a21 =>
 asB (shr (shr a21)) fun t22 => br t22 (Z8A m0  (gcB m0 [] B4))
 (ob (xfld 3 a1) fun a23 =>
 ob (ldN false 1 a23 B4) fun a24 =>
 ob (xfld 3 a3) fun a25 =>
 ob (ldN false 1 a25 B4) fun a26 =>
 ob (xbin PP .neq 3 a24 a26) fun a27 =>
 asB (shr (shr a27)) fun t28 => br t28 (Z8A m0  (gcB m0 [] B4))
 (ob (xfld 4 a1) fun a29 =>
 ob (ldN false 1 a29 B4) fun a30 =>
 ob (xfld 4 a3) fun a31 =>
 ob (ldN false 1 a31 B4) fun a32 =>
 ob (xbin PP .neq 3 a30 a32) fun a33 =>
 asB (shr (shr a33)) fun t34 => br t34 (Z8A m0  (gcB m0 [] B4))
 (ob (xfld 6 a1) fun a35 =>
 ob (ldN false 1 a35 B4) fun a36 =>
 ob (xlen PP 25 a36) fun a37 =>
 ob (xfld 6 a3) fun a38 =>
 ob (ldN false 1 a38 B4) fun a39 =>
 ob (xlen PP 25 a39) fun a40 =>
 ob (xbin PP .neq 3 a37 a40) fun a41 =>
 asB (shr (shr a41)) fun t42 => br t42 (Z8A m0  (gcB m0 [] B4))
 (ob (xfld 5 a1) fun a43 =>
 ob (ldN false 1 a43 B4) fun a44 =>
 ob (xfld 5 a3) fun a45 =>
 ob (ldN false 1 a45 B4) fun a46 =>
 callS false EE 22 [a44, a46] B4 fun a47 B48 =>
 ob (xun PP .not a47) fun a49 =>
 asB (shr a49) fun t50 => br t50 (Z8A m0  (gcB m0 [] B48))
 (Ze1 m0 a1 a3 (gcB m0 [a1, a3] B48))))))))))) := (E_eq PP XX HH _ _ _).trans (by kernel_rfl)
noncomputable def Zjb : Code := bodyOf Tryd.f19
def Zhq (r0 : AV) (B : List Row) : Option Res :=
 ob (ob (some r0) fun v => ob (some []) fun vs => some (v :: vs)) fun vs => some ((nrmA (match vs with | [v] => v | vs => mkTup (vs.map shr))), B)
theorem ZhI (x0 x1 : AV) (B : List Row) : EE 19 [x0, x1] B =
 (let m0 := B.length
 mk (bx x1 B fun a1 B2 =>
 mk (callS false EE 30 [(shr x0), (.clo 31 ([].map nrmA) ([a1].map nrmA))] B2 fun a3 B4 =>
 Zhq (shr a3) B4))) := (E_eq PP XX HH _ _ _).trans (by kernel_rfl)
noncomputable def Z9J : Code := bodyOf Tryd.f22
def Zdl (r0 : AV) (B : List Row) : Option Res :=
 ob (ob (some r0) fun v => ob (some []) fun vs => some (v :: vs)) fun vs => some ((nrmA (match vs with | [v] => v | vs => mkTup (vs.map shr))), B)
noncomputable def ZcA (m0 : Nat) : Kont := kret PP HH 22 Tryd.f22.results
noncomputable def Zim (m0 : Nat) : Kont := kseq HH 22 m0 (l2 (l2 (l2 Z9J))) (exec PP HH 22 m0 EE LL (l2 (l2 (l2 Z9J))) (ZcA m0)) (ZcA m0)
noncomputable def Zen (m0 : Nat) : Kont := kblk 0 (Zim m0)
noncomputable def Zgm (m0 : Nat) : Kont := kloop HH 22 m0 (l1 (l1 (l2 (l1 (l2 (l2 Z9J)))))) (LL 22 m0 (l1 (l1 (l2 (l1 (l2 (l2 Z9J)))))) (Zen m0)) (Zen m0)
noncomputable def Ze4 (m0 : Nat) (x0 x1 : AV) (B : List Row) : Option Res := exec PP HH 22 m0 EE LL (l2 (l2 Z9J)) (ZcA m0) [(0, x0), (1, x1)] B
noncomputable def Zb9 (m0 : Nat) (x1 x12 x13 x14 : AV) (B : List Row) : Option Res := lp (LL 22 m0 (l1 (l1 (l2 (l1 (l2 (l2 Z9J)))))) (Zen m0) [(1, x1), (12, x12), (13, x13), (14, x14)] B)
noncomputable def Zeo (m0 : Nat) (x1 x12 x13 x14 : AV) (B : List Row) : Option Res := exec PP HH 22 m0 EE LL (l2 (l2 (l1 (l1 (l2 (l1 (l2 (l2 Z9J)))))))) (Zgm m0) [(1, x1), (12, x12), (13, x13), (14, x14)] B
noncomputable def ZeD (m0 : Nat) (B : List Row) : Option Res := exec PP HH 22 m0 EE LL (l2 (l2 (l2 Z9J))) (ZcA m0) [] B
noncomputable def ZeQ (m0 : Nat) (x1 x12 x13 x14 : AV) (B : List Row) : Option Res := exec PP HH 22 m0 EE LL (l2 (l2 (l2 (l1 (l1 (l2 (l1 (l2 (l2 Z9J))))))))) (Zgm m0) [(1, x1), (12, x12), (13, x13), (14, x14)] B
theorem Zgo (m0 : Nat) (x0 x1 : AV) (B : List Row) : Ze4 m0 x0 x1 B =
 mk (ob (xlen PP 24 (shr x0)) fun a5 =>
 Zb9 m0 x1 (shr x0) a5 (iv 0) (gcB m0 [x1, (shr x0), a5, (iv 0)] B)) := by kernel_rfl
theorem Zg5 (m0 : Nat) (x1 x12 x13 x14 : AV) (B : List Row) : Zb9 m0 x1 x12 x13 x14 B =
 mk (ob (xbin PP .lss 3 x14 x13) fun a6 =>
 asB a6 fun t7 => br t7 (Zeo m0 x1 x12 x13 x14 (gcB m0 [x1, x12, x13, x14] B))
 (ZeD m0  (gcB m0 [] B))) := (L_eq PP XX HH _ _ _ _ _ _).trans (by kernel_rfl)
theorem Zg2 (m0 : Nat) (x1 x12 x13 x14 : AV) (B : List Row) : Zeo m0 x1 x12 x13 x14 B =
 mk (ob (xidx 2 x12 x14) fun a8 =>
 ob (ldN true 2 a8 B) fun a9 =>
 bz PP 39 B fun a10 B11 =>
 stN 2 a10 a9 B11 fun B12 =>
 mk (ob (ldN true 2 a10 B12) fun a13 =>
 ob (xidx 2 (shr x1) (shr (shr (shr x14)))) fun a14 =>
 ob (ldN true 2 a14 B12) fun a15 =>
 ob (xbin PP .neq 39 a13 a15) fun a16 =>
 asB a16 fun t17 => br t17 (mk (Zdl (bv false) B12))
 (ZeQ m0 x1 x12 x13 x14 (gcB m0 [x1, x12, x13, x14] B12)))) := by kernel_rfl
theorem Zgi (m0 : Nat) (B : List Row) : ZeD m0  B =
 mk (Zdl (bv true) B) := by kernel_rfl
theorem ZfK (m0 : Nat) (x1 x12 x13 x14 : AV) (B : List Row) : ZeQ m0 x1 x12 x13 x14 B =
 mk (ob (xbin PP .add 3 x14 (iv 1)) fun a18 =>
 Zb9 m0 x1 x12 x13 (shr a18) (gcB m0 [x1, x12, x13, (shr a18)] B)) := by kernel_rfl
theorem ZhE (x0 x1 : AV) (B : List Row) : EE 22 [x0, x1] B =
 (let m0 := B.length
 mk (mk (ob (xlen PP 24 (shr x0)) fun a1 =>
 ob (xlen PP 24 (shr x1)) fun a2 =>
 ob (xbin PP .neq 3 a1 a2) fun a3 =>
 asB a3 fun t4 => br t4 (mk (Zdl (bv false) B))
 (Ze4 m0 x0 x1 (gcB m0 [x0, x1] B))))) := (E_eq PP XX HH _ _ _).trans (by kernel_rfl)
noncomputable def ZdA : Code := bodyOf Tryd.f27
def ZeV (r0 : AV) (B : List Row) : Option Res :=
 ob (ob (some r0) fun v => ob (some []) fun vs => some (v :: vs)) fun vs => some ((nrmA (match vs with | [v] => v | vs => mkTup (vs.map shr))), B)
noncomputable def Zex (m0 : Nat) : Kont := kret PP HH 27 Tryd.f27.results
noncomputable def ZiL (m0 : Nat) : Kont := kseq HH 27 m0 (l2 (l2 ZdA)) (exec PP HH 27 m0 EE LL (l2 (l2 ZdA)) (Zex m0)) (Zex m0)
noncomputable def ZcP (m0 : Nat) (B : List Row) : Option Res := exec PP HH 27 m0 EE LL (l1 (l2 (l1 (l2 ZdA)))) (ZiL m0) [] B
noncomputable def ZeH (m0 : Nat) (x0 x1 : AV) (B : List Row) : Option Res := exec PP HH 27 m0 EE LL (l2 (l2 ZdA)) (Zex m0) [(0, x0), (1, x1)] B
theorem ZfM (m0 : Nat) (B : List Row) : ZcP m0  B =
 mk (ZeV (bv false) B) := by kernel_rfl
theorem Zg3 (m0 : Nat) (x0 x1 : AV) (B : List Row) : ZeH m0 x0 x1 B =
 mk (ob (xnilchk (shr x0)) fun a27 =>
 ob (xfld 1 a27) fun a28 =>
 ob (ldN false 1 a28 B) fun a29 =>
 ob (xlen PP 9 (shr x1)) fun a30 =>
 ob (xbin PP .add 3 a29 a30) fun a31 =>
 ob (xnilchk (shr x0)) fun a32 =>
 ob (xfld 1 a32) fun a33 =>
 stN 1 a33 a31 B fun B34 =>
 mk (ZeV (bv true) B34)) := by kernel_rfl
theorem ZhT (x0 x1 : AV) (B : List Row) : EE 27 [x0, x1] B =
 (let m0 := B.length
 mk (mk (ob (xnilchk (shr x0)) fun a1 =>
 ob (xfld 0 a1) fun a2 =>
 ob (ldN false 1 a2 B) fun a3 =>
 ob (xlen PP 40 a3) fun a4 =>
 ob (xnilchk (shr x0)) fun a5 =>
 ob (xfld 1 a5) fun a6 =>
 ob (ldN false 1 a6 B) fun a7 =>
 ob (xbin PP .sub 3 a4 a7) fun a8 =>
 ob (xlen PP 9 (shr x1)) fun a9 =>
 ob (xbin PP .lss 3 a8 a9) fun a10 =>
 asB (shr a10) fun t11 => br t11 (ZcP m0  (gcB m0 [] B))
 (ob (xnilchk (shr x0)) fun a12 =>
 ob (xfld 0 a12) fun a13 =>
 ob (ldN false 1 a13 B) fun a14 =>
 ob (xnilchk (shr x0)) fun a15 =>
 ob (xfld 1 a15) fun a16 =>
 ob (ldN false 1 a16 B) fun a17 =>
 ob (xnilchk (shr x0)) fun a18 =>
 ob (xfld 1 a18) fun a19 =>
 ob (ldN false 1 a19 B) fun a20 =>
 ob (xlen PP 9 (shr x1)) fun a21 =>
 ob (xbin PP .add 3 a20 a21) fun a22 =>
 ob (xsl 1 a14 (some a17) (some a22) none) fun a23 =>
 ob (xcnv PP 40 9 a23) fun a24 =>
 ob (xbin PP .neq 9 a24 (shr x1)) fun a25 =>
 asB (shr a25) fun t26 => br t26 (ZcP m0  (gcB m0 [] B))
 (ZeH m0 x0 x1 (gcB m0 [x0, x1] B)))))) := (E_eq PP XX HH _ _ _).trans (by kernel_rfl)
noncomputable def ZbH : Code := bodyOf Tryd.f28
def Zhs (r0 : AV) (B : List Row) : Option Res :=
 ob (ob (ldN true 7 r0 B) fun v => ob (some []) fun vs => some (v :: vs)) fun vs => some ((nrmA (match vs with | [v] => v | vs => mkTup (vs.map shr))), B)
noncomputable def Zel (m0 : Nat) : Kont := kret PP HH 28 Tryd.f28.results
noncomputable def ZhK (m0 : Nat) : Kont := kseq HH 28 m0 (l2 (l2 (l2 ZbH))) (exec PP HH 28 m0 EE LL (l2 (l2 (l2 ZbH))) (Zel m0)) (Zel m0)
noncomputable def Zev (m0 : Nat) : Kont := kblk 0 (ZhK m0)
noncomputable def ZiA (m0 : Nat) : Kont := kloop HH 28 m0 (l1 (l1 (l1 (l2 (l2 ZbH))))) (LL 28 m0 (l1 (l1 (l1 (l2 (l2 ZbH))))) (Zev m0)) (Zev m0)
noncomputable def Zb8 (m0 : Nat) (x0 x2 x3 : AV) (B : List Row) : Option Res := lp (LL 28 m0 (l1 (l1 (l1 (l2 (l2 ZbH))))) (Zev m0) [(0, x0), (2, x2), (3, x3)] B)
noncomputable def Zew (m0 : Nat) (x0 x2 x3 : AV) (B : List Row) : Option Res := exec PP HH 28 m0 EE LL (l2 (l1 (l1 (l1 (l2 (l2 ZbH)))))) (ZiA m0) [(0, x0), (2, x2), (3, x3)] B
noncomputable def ZdI (m0 : Nat) (x2 x3 : AV) (B : List Row) : Option Res := exec PP HH 28 m0 EE LL (l2 (l2 (l2 ZbH))) (Zel m0) [(2, x2), (3, x3)] B
theorem ZgG (m0 : Nat) (x0 x2 x3 : AV) (B : List Row) : Zb8 m0 x0 x2 x3 B =
 mk (callS false EE 27 [(shr x0), (.p (.v (.string (ByteArray.mk #[124]))))] B fun a6 B7 =>
 asB a6 fun t8 => br t8 (Zew m0 x0 x2 x3 (gcB m0 [x0, x2, x3] B7))
 (ZdI m0 x2 x3 (gcB m0 [x2, x3] B7))) := (L_eq PP XX HH _ _ _ _ _ _).trans (by kernel_rfl)
theorem ZgM (m0 : Nat) (x0 x2 x3 : AV) (B : List Row) : Zew m0 x0 x2 x3 B =
 mk (callS false EE 35 [(shr x0)] B fun a9 B10 =>
 ob (xlit PP 25 1 [(0, a9)]) fun a11 =>
 ob (xapp 7 x3 a11) fun a12 =>
 Zb8 m0 x0 x2 a12 (gcB m0 [x0, x2, a12] B10)) := by kernel_rfl
theorem Zg7 (m0 : Nat) (x2 x3 : AV) (B : List Row) : ZdI m0 x2 x3 B =
 mk (callS false EE 36 [(iv 3), (shr x3)] B fun a13 B14 =>
 stN 7 x2 a13 B14 fun B15 =>
 Zhs x2 B15) := by kernel_rfl
theorem ZhN (x0 : AV) (B : List Row) : EE 28 [x0] B =
 (let m0 := B.length
 mk (bz PP 27 B fun a1 B2 =>
 mk (callS false EE 35 [(shr x0)] B2 fun a3 B4 =>
 ob (xlit PP 25 1 [(0, a3)]) fun a5 =>
 Zb8 m0 x0 a1 a5 (gcB m0 [x0, a1, a5] B4)))) := (E_eq PP XX HH _ _ _).trans (by kernel_rfl)
noncomputable def Zj9 : Code := bodyOf Tryd.f29
def Zhr (B : List Row) : Option Res :=
 ob (some []) fun vs => some ((nrmA (match vs with | [v] => v | vs => mkTup (vs.map shr))), B)
noncomputable def ZiF (m0 : Nat) : Kont := kret PP HH 29 Tryd.f29.results
noncomputable def ZcC (m0 : Nat) (x0 : AV) (B : List Row) : Option Res := exec PP HH 29 m0 EE LL (l2 Zj9) (ZiF m0) [(0, x0)] B
theorem Zg4 (m0 : Nat) (x0 : AV) (B : List Row) : ZcC m0 x0 B =
 mk (ob (xnilchk (shr x0)) fun a11 =>
 ob (xfld 0 a11) fun a12 =>
 ob (ldN false 1 a12 B) fun a13 =>
 ob (xlen PP 40 a13) fun a14 =>
 ob (xnilchk (shr x0)) fun a15 =>
 ob (xfld 1 a15) fun a16 =>
 stN 1 a16 a14 B fun B17 =>
 Zhr  B17) := by kernel_rfl
theorem Zir (x0 x1 x2 : AV) (B : List Row) : EE 29 [x0, x1, x2] B =
 (let m0 := B.length
 mk (ob (xnilchk (shr x0)) fun a1 =>
 ob (xfld 5 a1) fun a2 =>
 ob (xfld 0 a2) fun a3 =>
 ob (ldN false 1 a3 B) fun a4 =>
 ob (xbin PP .eql 30 a4 (iv 0)) fun a5 =>
 asB a5 fun t6 => br t6 (mk (ob (xbuild PP 32 [(0, (shr x1)), (1, (shr x2))]) fun a7 =>
 ob (xnilchk (shr x0)) fun a8 =>
 ob (xfld 5 a8) fun a9 =>
 stN 2 a9 a7 B fun B10 =>
 ZcC m0 x0 (gcB m0 [x0] B10)))
 (ZcC m0 x0 (gcB m0 [x0] B)))) := (E_eq PP XX HH _ _ _).trans (by kernel_rfl)
noncomputable def Zje : Code := bodyOf Tryd.f30
def Zhy (r0 : AV) (B : List Row) : Option Res :=
 ob (ob (some r0) fun v => ob (some []) fun vs => some (v :: vs)) fun vs => some ((nrmA (match vs with | [v] => v | vs => mkTup (vs.map shr))), B)
theorem Zib (x0 x1 : AV) (B : List Row) : EE 30 [x0, x1] B =
 (let m0 := B.length
 mk (mk (callS false EE 37 [(shr x0), (shr x1)] B fun a1 B2 =>
 ob (xbin PP .geq 3 a1 (iv 0)) fun a3 =>
 Zhy (shr a3) B2))) := (E_eq PP XX HH _ _ _).trans (by kernel_rfl)
noncomputable def Zjf : Code := bodyOf Tryd.f31
def Zf0 (r0 : AV) (B : List Row) : Option Res :=
 ob (ob (some r0) fun v => ob (some []) fun vs => some (v :: vs)) fun vs => some ((nrmA (match vs with | [v] => v | vs => mkTup (vs.map shr))), B)
theorem Zii (x0 x1 : AV) (B : List Row) : EE 31 [x0, x1] B =
 (let m0 := B.length
 mk (bx x0 B fun a1 B2 =>
 mk (ob (xfld 0 a1) fun a3 =>
 ob (ldN false 1 a3 B2) fun a4 =>
 ob (ldN false 1 x1 B2) fun a5 =>
 ob (xbin PP .leq 3 a4 a5) fun a6 =>
 asB (shr a6) fun t7 => br t7 (ob (ldN false 1 x1 B2) fun a8 =>
 ob (xfld 1 a1) fun a9 =>
 ob (ldN false 1 a9 B2) fun a10 =>
 ob (xbin PP .leq 3 a8 a10) fun a11 =>
 Zf0 (shr (shr a11)) B2)
 (Zf0 (bv false) B2)))) := (E_eq PP XX HH _ _ _).trans (by kernel_rfl)
noncomputable def ZaE : Code := bodyOf Tryd.f35
def Zhm (r0 : AV) (B : List Row) : Option Res :=
 ob (ob (ldN true 7 r0 B) fun v => ob (some []) fun vs => some (v :: vs)) fun vs => some ((nrmA (match vs with | [v] => v | vs => mkTup (vs.map shr))), B)
noncomputable def Ze7 (m0 : Nat) : Kont := kret PP HH 35 Tryd.f35.results
noncomputable def ZiC (m0 : Nat) : Kont := kseq HH 35 m0 (l2 (l2 (l2 (l1 (l2 ZaE))))) (exec PP HH 35 m0 EE LL (l2 (l2 (l2 (l1 (l2 ZaE))))) (Ze7 m0)) (Ze7 m0)
noncomputable def ZdO (m0 : Nat) : Kont := kblk 0 (ZiC m0)
noncomputable def ZfY (m0 : Nat) : Kont := kloop HH 35 m0 (l1 (l1 (l1 (l2 (l2 (l1 (l2 ZaE))))))) (LL 35 m0 (l1 (l1 (l1 (l2 (l2 (l1 (l2 ZaE))))))) (ZdO m0)) (ZdO m0)
noncomputable def ZhW (m0 : Nat) : Kont := kblk 1 (ZfY m0)
noncomputable def Zbx (m0 : Nat) (x0 x2 x3 : AV) (B : List Row) : Option Res := lp (LL 35 m0 (l1 (l1 (l1 (l2 (l2 (l1 (l2 ZaE))))))) (ZdO m0) [(0, x0), (2, x2), (3, x3)] B)
noncomputable def ZeL (m0 : Nat) (x0 x2 x3 : AV) (B : List Row) : Option Res := exec PP HH 35 m0 EE LL (l2 (l1 (l1 (l1 (l2 (l2 (l1 (l2 ZaE)))))))) (ZfY m0) [(0, x0), (2, x2), (3, x3)] B
noncomputable def Zbi (m0 : Nat) (x2 x3 : AV) (B : List Row) : Option Res := exec PP HH 35 m0 EE LL (l2 (l2 (l2 (l1 (l2 ZaE))))) (Ze7 m0) [(2, x2), (3, x3)] B
noncomputable def ZbU (m0 : Nat) (x0 x2 x3 : AV) (B : List Row) : Option Res := exec PP HH 35 m0 EE LL (l2 (l1 (l2 (l1 (l1 (l1 (l2 (l2 (l1 (l2 ZaE)))))))))) (ZhW m0) [(0, x0), (2, x2), (3, x3)] B
theorem Zh8 (m0 : Nat) (x0 x2 x3 : AV) (B : List Row) : Zbx m0 x0 x2 x3 B =
 mk (ob (xnilchk (shr x0)) fun a3 =>
 ob (xfld 5 a3) fun a4 =>
 ob (xfld 0 a4) fun a5 =>
 ob (ldN false 1 a5 B) fun a6 =>
 ob (xbin PP .eql 30 a6 (iv 0)) fun a7 =>
 asB a7 fun t8 => br t8 (ZeL m0 x0 x2 x3 (gcB m0 [x0, x2, x3] B))
 (Zbi m0 x2 x3 (gcB m0 [x2, x3] B))) := (L_eq PP XX HH _ _ _ _ _ _).trans (by kernel_rfl)
theorem Zgb (m0 : Nat) (x0 x2 x3 : AV) (B : List Row) : ZeL m0 x0 x2 x3 B =
 mk (callS false EE 41 [(shr x0)] B fun a9 B10 =>
 mk (ob (xbin PP .eql 3 a9 (iv (-1))) fun a11 =>
 asB (shr a11) fun t12 => br t12 (asB (shr a11) fun t13 => br t13 (Zbi m0 x2 x3 (gcB m0 [x2, x3] B10))
 (ZbU m0 x0 x2 x3 (gcB m0 [x0, x2, x3] B10)))
 (mk (ob (xbin PP .eql 3 a9 (iv 124)) fun a14 =>
 asB (shr a14) fun t15 => br t15 (asB (shr a14) fun t16 => br t16 (Zbi m0 x2 x3 (gcB m0 [x2, x3] B10))
 (ZbU m0 x0 x2 x3 (gcB m0 [x0, x2, x3] B10)))
 (mk (ob (xbin PP .eql 3 a9 (iv 41)) fun a17 =>
 asB (shr a17) fun t18 => br t18 (Zbi m0 x2 x3 (gcB m0 [x2, x3] B10))
 (ZbU m0 x0 x2 x3 (gcB m0 [x0, x2, x3] B10)))))))) := by kernel_rfl
theorem Zh4 (m0 : Nat) (x2 x3 : AV) (B : List Row) : Zbi m0 x2 x3 B =
 mk (callS false EE 36 [(iv 2), (shr x3)] B fun a19 B20 =>
 stN 7 x2 a19 B20 fun B21 =>
 Zhm x2 B21) := by kernel_rfl
theorem ZfX (m0 : Nat) (x0 x2 x3 : AV) (B : List Row) : ZbU m0 x0 x2 x3 B =
 mk (callS false EE 42 [(shr x0)] B fun a22 B23 =>
 ob (xext 0 (shr a22)) fun a24 =>
 ob (xext 1 (shr a22)) fun a25 =>
 bz PP 27 B23 fun a26 B27 =>
 stN 7 a26 (shr a24) B27 fun B28 =>
 mk (ob (ldN true 7 a26 B28) fun a29 =>
 callS false EE 43 [(shr x0), a29, (shr (shr (shr a25)))] B28 fun a30 B31 =>
 ob (xlit PP 25 1 [(0, a30)]) fun a32 =>
 ob (xapp 7 x3 a32) fun a33 =>
 Zbx m0 x0 x2 a33 (gcB m0 [x0, x2, a33] B31))) := by kernel_rfl
theorem Ziu (x0 : AV) (B : List Row) : EE 35 [x0] B =
 (let m0 := B.length
 mk (bz PP 27 B fun a1 B2 =>
 mk (Zbx m0 x0 a1 nilA (gcB m0 [x0, a1, nilA] (gcB m0 [x0, a1, nilA] B2))))) := (E_eq PP XX HH _ _ _).trans (by kernel_rfl)
noncomputable def Zja : Code := bodyOf Tryd.f36
def Zd6 (r0 : AV) (B : List Row) : Option Res :=
 ob (ob (ldN true 7 r0 B) fun v => ob (some []) fun vs => some (v :: vs)) fun vs => some ((nrmA (match vs with | [v] => v | vs => mkTup (vs.map shr))), B)
noncomputable def ZiD (m0 : Nat) : Kont := kret PP HH 36 Tryd.f36.results
noncomputable def Zeb (m0 : Nat) (x0 x1 x4 : AV) (B : List Row) : Option Res := exec PP HH 36 m0 EE LL (l2 (l2 Zja)) (ZiD m0) [(0, x0), (1, x1), (4, x4)] B
theorem ZgF (m0 : Nat) (x0 x1 x4 : AV) (B : List Row) : Zeb m0 x0 x1 x4 B =
 mk (ob (xbuild PP 27 [(0, (shr x0)), (6, (shr x1))]) fun a13 =>
 stN 7 x4 a13 B fun B14 =>
 Zd6 x4 B14) := by kernel_rfl
theorem ZhV (x0 x1 : AV) (B : List Row) : EE 36 [x0, x1] B =
 (let m0 := B.length
 mk (bz PP 27 B fun a1 B2 =>
 mk (ob (xlen PP 25 (shr x1)) fun a3 =>
 mk (ob (xbin PP .eql 3 a3 (iv 0)) fun a4 =>
 asB (shr a4) fun t5 => br t5 (mk (ob (xbuild PP 27 []) fun a6 =>
 stN 7 a1 a6 B2 fun B7 =>
 Zd6 a1 B7))
 (mk (ob (xbin PP .eql 3 a3 (iv 1)) fun a8 =>
 asB (shr a8) fun t9 => br t9 (mk (ob (xidx 7 (shr x1) (iv 0)) fun a10 =>
 ob (ldN true 7 a10 B2) fun a11 =>
 stN 7 a1 a11 B2 fun B12 =>
 Zd6 a1 B12))
 (Zeb m0 x0 x1 a1 (gcB m0 [x0, x1, a1] B2)))))))) := (E_eq PP XX HH _ _ _).trans (by kernel_rfl)
noncomputable def ZaA : Code := bodyOf Tryd.f37
def ZeW (r0 : AV) (B : List Row) : Option Res :=
 ob (ob (some r0) fun v => ob (some []) fun vs => some (v :: vs)) fun vs => some ((nrmA (match vs with | [v] => v | vs => mkTup (vs.map shr))), B)
noncomputable def ZeJ (m0 : Nat) : Kont := kret PP HH 37 Tryd.f37.results
noncomputable def ZiG (m0 : Nat) : Kont := kseq HH 37 m0 (l2 (l2 ZaA)) (exec PP HH 37 m0 EE LL (l2 (l2 ZaA)) (ZeJ m0)) (ZeJ m0)
noncomputable def ZeG (m0 : Nat) : Kont := kblk 0 (ZiG m0)
noncomputable def ZgY (m0 : Nat) : Kont := kloop HH 37 m0 (l1 (l1 (l2 (l1 (l2 ZaA))))) (LL 37 m0 (l1 (l1 (l2 (l1 (l2 ZaA))))) (ZeG m0)) (ZeG m0)
noncomputable def Zbr (m0 : Nat) (x0 x1 x7 x8 : AV) (B : List Row) : Option Res := lp (LL 37 m0 (l1 (l1 (l2 (l1 (l2 ZaA))))) (ZeG m0) [(0, x0), (1, x1), (7, x7), (8, x8)] B)
noncomputable def ZdE (m0 : Nat) (x0 x1 x7 x8 : AV) (B : List Row) : Option Res := exec PP HH 37 m0 EE LL (l2 (l2 (l1 (l1 (l2 (l1 (l2 ZaA))))))) (ZgY m0) [(0, x0), (1, x1), (7, x7), (8, x8)] B
noncomputable def ZdY (m0 : Nat) (B : List Row) : Option Res := exec PP HH 37 m0 EE LL (l2 (l2 ZaA)) (ZeJ m0) [] B
noncomputable def ZdZ (m0 : Nat) (x0 x1 x7 x8 : AV) (B : List Row) : Option Res := exec PP HH 37 m0 EE LL (l2 (l2 (l2 (l1 (l1 (l2 (l1 (l2 ZaA)))))))) (ZgY m0) [(0, x0), (1, x1), (7, x7), (8, x8)] B
theorem Zg1 (m0 : Nat) (x0 x1 x7 x8 : AV) (B : List Row) : Zbr m0 x0 x1 x7 x8 B =
 mk (ob (xbin PP .lss 3 x8 x7) fun a2 =>
 asB a2 fun t3 => br t3 (ZdE m0 x0 x1 x7 x8 (gcB m0 [x0, x1, x7, x8] B))
 (ZdY m0  (gcB m0 [] B))) := (L_eq PP XX HH _ _ _ _ _ _).trans (by kernel_rfl)
theorem ZfR (m0 : Nat) (x0 x1 x7 x8 : AV) (B : List Row) : ZdE m0 x0 x1 x7 x8 B =
 mk (mk (ob (xidx 2 (shr x0) (shr (shr (shr x8)))) fun a4 =>
 ob (ldN true 2 a4 B) fun a5 =>
 callV HH EE (shr x1) [a5] B fun a6 B7 =>
 asB a6 fun t8 => br t8 (mk (ZeW (shr (shr (shr (shr x8)))) B7))
 (ZdZ m0 x0 x1 x7 x8 (gcB m0 [x0, x1, x7, x8] B7)))) := by kernel_rfl
theorem ZfV (m0 : Nat) (B : List Row) : ZdY m0  B =
 mk (ZeW (iv (-1)) B) := by kernel_rfl
theorem Zg6 (m0 : Nat) (x0 x1 x7 x8 : AV) (B : List Row) : ZdZ m0 x0 x1 x7 x8 B =
 mk (ob (xbin PP .add 3 x8 (iv 1)) fun a9 =>
 Zbr m0 x0 x1 x7 (shr a9) (gcB m0 [x0, x1, x7, (shr a9)] B)) := by kernel_rfl
theorem ZiP (x0 x1 : AV) (B : List Row) : EE 37 [x0, x1] B =
 (let m0 := B.length
 mk (mk (ob (xlen PP 24 (shr x0)) fun a1 =>
 Zbr m0 x0 x1 a1 (iv 0) (gcB m0 [x0, x1, a1, (iv 0)] B)))) := (E_eq PP XX HH _ _ _).trans (by kernel_rfl)
noncomputable def Zj8 : Code := bodyOf Tryd.f41
def ZeX (r0 : AV) (B : List Row) : Option Res :=
 ob (ob (some r0) fun v => ob (some []) fun vs => some (v :: vs)) fun vs => some ((nrmA (match vs with | [v] => v | vs => mkTup (vs.map shr))), B)
noncomputable def ZiV (m0 : Nat) : Kont := kret PP HH 41 Tryd.f41.results
noncomputable def ZeS (m0 : Nat) (x0 : AV) (B : List Row) : Option Res := exec PP HH 41 m0 EE LL (l2 (l2 Zj8)) (ZiV m0) [(0, x0)] B
theorem Zgk (m0 : Nat) (x0 : AV) (B : List Row) : ZeS m0 x0 B =
 mk (ob (xnilchk (shr x0)) fun a10 =>
 ob (xfld 0 a10) fun a11 =>
 ob (ldN false 1 a11 B) fun a12 =>
 ob (xnilchk (shr x0)) fun a13 =>
 ob (xfld 1 a13) fun a14 =>
 ob (ldN false 1 a14 B) fun a15 =>
 callS false EE 45 [a12, a15] B fun a16 B17 =>
 ob (xext 0 (shr a16)) fun a18 =>
 ob (xext 1 (shr a16)) fun a19 =>
 mk (ZeX (shr (shr (shr (shr a18)))) B17)) := by kernel_rfl
theorem Ziv (x0 : AV) (B : List Row) : EE 41 [x0] B =
 (let m0 := B.length
 mk (mk (ob (xnilchk (shr x0)) fun a1 =>
 ob (xfld 1 a1) fun a2 =>
 ob (ldN false 1 a2 B) fun a3 =>
 ob (xnilchk (shr x0)) fun a4 =>
 ob (xfld 0 a4) fun a5 =>
 ob (ldN false 1 a5 B) fun a6 =>
 ob (xlen PP 40 a6) fun a7 =>
 ob (xbin PP .geq 3 a3 a7) fun a8 =>
 asB a8 fun t9 => br t9 (mk (ZeX (iv (-1)) B))
 (ZeS m0 x0 (gcB m0 [x0] B))))) := (E_eq PP XX HH _ _ _).trans (by kernel_rfl)
noncomputable def ZiZ : Code := bodyOf Tryd.f42
def Z4U (r0 r1 : AV) (B : List Row) : Option Res :=
 ob (ob (ldN true 7 r0 B) fun v => ob (ob (some r1) fun v => ob (some []) fun vs => some (v :: vs)) fun vs => some (v :: vs)) fun vs => some ((nrmA (match vs with | [v] => v | vs => mkTup (vs.map shr))), B)
noncomputable def ZiS (m0 : Nat) : Kont := kret PP HH 42 Tryd.f42.results
noncomputable def Z5h (m0 : Nat) (x2 : AV) (B : List Row) : Option Res := exec PP HH 42 m0 EE LL (l2 (l2 (l2 ZiZ))) (ZiS m0) [(2, x2)] B
theorem Zfk (m0 : Nat) (x2 : AV) (B : List Row) : Z5h m0 x2 B =
 mk (ob (xbuild PP 27 []) fun a151 =>
 stN 7 x2 a151 B fun B152 =>
 Z4U x2 (bv true) B152) := by kernel_rfl
theorem Zij (x0 : AV) (B : List Row) : EE 42 [x0] B =
 (let m0 := B.length
 mk (bz PP 27 B fun a1 B2 =>
 mk (ob (xnilchk (shr x0)) fun a3 =>
 ob (xfld 1 a3) fun a4 =>
 ob (ldN false 1 a4 B2) fun a5 =>
 mk (callS false EE 46 [(shr x0)] B2 fun a6 B7 =>
 mk (mk (ob (xbin PP .eql 3 (shr (shr a6)) (iv 46)) fun a8 =>
 asB (shr a8) fun t9 => br t9 (mk (callS false EE 48 [(iv 10)] B7 fun a10 B11 =>
 ob (xlit PP 23 1 [(0, a10)]) fun a12 =>
 callS false EE 47 [(bv true), a12] B11 fun a13 B14 =>
 stN 7 a1 a13 B14 fun B15 =>
 Z4U a1 (bv true) B15))
 (mk (ob (xbin PP .eql 3 (shr (shr a6)) (iv 94)) fun a16 =>
 asB (shr a16) fun t17 => br t17 (mk (ob (xbuild PP 27 [(0, (iv 9)), (4, (iv 0))]) fun a18 =>
 stN 7 a1 a18 B7 fun B19 =>
 Z4U a1 (bv false) B19))
 (mk (ob (xbin PP .eql 3 (shr (shr a6)) (iv 36)) fun a20 =>
 asB (shr a20) fun t21 => br t21 (mk (ob (xbuild PP 27 [(0, (iv 9)), (4, (iv 1))]) fun a22 =>
 stN 7 a1 a22 B7 fun B23 =>
 Z4U a1 (bv false) B23))
 (mk (ob (xbin PP .eql 3 (shr (shr a6)) (iv 92)) fun a24 =>
 asB (shr a24) fun t25 => br t25 (mk (callS false EE 49 [(shr x0), (shr (shr a5))] B7 fun a26 B27 =>
 bz PP 27 B27 fun a28 B29 =>
 stN 7 a28 a26 B29 fun B30 =>
 mk (ob (ldN true 7 a28 B30) fun a31 =>
 ob (xfld 0 a28) fun a32 =>
 ob (ldN false 1 a32 B30) fun a33 =>
 ob (xbin PP .neq 3 a33 (iv 9)) fun a34 =>
 stN 7 a1 a31 B30 fun B35 =>
 grd (ptrNe a32 a1) (Z4U a1 (shr a34) B35))))
 (mk (ob (xbin PP .eql 3 (shr (shr a6)) (iv 91)) fun a36 =>
 asB (shr a36) fun t37 => br t37 (mk (callS false EE 50 [(shr x0), (shr (shr a5))] B7 fun a38 B39 =>
 stN 7 a1 a38 B39 fun B40 =>
 Z4U a1 (bv true) B40))
 (mk (ob (xbin PP .eql 3 (shr (shr a6)) (iv 40)) fun a41 =>
 asB (shr a41) fun t42 => br t42 (mk (callS false EE 51 [(shr x0), (shr (shr a5))] B7 fun a43 B44 =>
 ob (xext 0 a43) fun a45 =>
 ob (xext 1 a43) fun a46 =>
 stN 7 a1 (shr a45) B44 fun B47 =>
 Z4U a1 (shr (shr a46)) B47))
 (mk (ob (xbin PP .eql 3 (shr (shr a6)) (iv 42)) fun a48 =>
 asB (shr a48) fun t49 => br t49 (asB (shr a48) fun t50 => br t50 (mk (callS false EE 29 [(shr x0), (iv 23), (shr (shr a5))] B7 fun a51 B52 =>
 Z5h m0 a1 (gcB m0 [a1] B52)))
 (mk (ob (xbin PP .eql 3 (shr (shr a6)) (iv 93)) fun a53 =>
 asB (shr a53) fun t54 => br t54 (asB (shr a53) fun t55 => br t55 (mk (callS false EE 29 [(shr x0), (iv 20), (shr (shr a5))] B7 fun a56 B57 =>
 Z5h m0 a1 (gcB m0 [a1] B57)))
 (mk (callS false EE 48 [(shr (shr a6))] B7 fun a58 B59 =>
 ob (xlit PP 23 1 [(0, a58)]) fun a60 =>
 callS false EE 47 [(bv false), a60] B59 fun a61 B62 =>
 stN 7 a1 a61 B62 fun B63 =>
 Z4U a1 (bv true) B63)))
 (mk (ob (xbin PP .eql 3 (shr (shr a6)) (iv 125)) fun a64 =>
 asB (shr a64) fun t65 => br t65 (mk (callS false EE 29 [(shr x0), (iv 20), (shr (shr a5))] B7 fun a66 B67 =>
 Z5h m0 a1 (gcB m0 [a1] B67)))
 (mk (callS false EE 48 [(shr (shr a6))] B7 fun a68 B69 =>
 ob (xlit PP 23 1 [(0, a68)]) fun a70 =>
 callS false EE 47 [(bv false), a70] B69 fun a71 B72 =>
 stN 7 a1 a71 B72 fun B73 =>
 Z4U a1 (bv true) B73)))))))
 (mk (ob (xbin PP .eql 3 (shr (shr a6)) (iv 43)) fun a74 =>
 asB (shr a74) fun t75 => br t75 (asB (shr a74) fun t76 => br t76 (mk (callS false EE 29 [(shr x0), (iv 23), (shr (shr a5))] B7 fun a77 B78 =>
 Z5h m0 a1 (gcB m0 [a1] B78)))
 (mk (ob (xbin PP .eql 3 (shr (shr a6)) (iv 93)) fun a79 =>
 asB (shr a79) fun t80 => br t80 (asB (shr a79) fun t81 => br t81 (mk (callS false EE 29 [(shr x0), (iv 20), (shr (shr a5))] B7 fun a82 B83 =>
 Z5h m0 a1 (gcB m0 [a1] B83)))
 (mk (callS false EE 48 [(shr (shr a6))] B7 fun a84 B85 =>
 ob (xlit PP 23 1 [(0, a84)]) fun a86 =>
 callS false EE 47 [(bv false), a86] B85 fun a87 B88 =>
 stN 7 a1 a87 B88 fun B89 =>
 Z4U a1 (bv true) B89)))
 (mk (ob (xbin PP .eql 3 (shr (shr a6)) (iv 125)) fun a90 =>
 asB (shr a90) fun t91 => br t91 (mk (callS false EE 29 [(shr x0), (iv 20), (shr (shr a5))] B7 fun a92 B93 =>
 Z5h m0 a1 (gcB m0 [a1] B93)))
 (mk (callS false EE 48 [(shr (shr a6))] B7 fun a94 B95 =>
 ob (xlit PP 23 1 [(0, a94)]) fun a96 =>
 callS false EE 47 [(bv false), a96] B95 fun a97 B98 =>
 stN 7 a1 a97 B98 fun B99 =>
 Z4U a1 (bv true) B99)))))))
 (mk (ob (xbin PP .eql 3 (shr (shr a6)) (iv 63)) fun a100 =>
 asB (shr a100) fun t101 => br t101 (asB (shr a100) fun t102 => br t102 (mk (callS false EE 29 [(shr x0), (iv 23), (shr (shr a5))] B7 fun a103 B104 =>
 Z5h m0 a1 (gcB m0 [a1] B104)))
 (mk (ob (xbin PP .eql 3 (shr (shr a6)) (iv 93)) fun a105 =>
 asB (shr a105) fun t106 => br t106 (asB (shr a105) fun t107 => br t107 (mk (callS false EE 29 [(shr x0), (iv 20), (shr (shr a5))] B7 fun a108 B109 =>
 Z5h m0 a1 (gcB m0 [a1] B109)))
 (mk (callS false EE 48 [(shr (shr a6))] B7 fun a110 B111 =>
 ob (xlit PP 23 1 [(0, a110)]) fun a112 =>
 callS false EE 47 [(bv false), a112] B111 fun a113 B114 =>
 stN 7 a1 a113 B114 fun B115 =>
 Z4U a1 (bv true) B115)))
 (mk (ob (xbin PP .eql 3 (shr (shr a6)) (iv 125)) fun a116 =>
 asB (shr a116) fun t117 => br t117 (mk (callS false EE 29 [(shr x0), (iv 20), (shr (shr a5))] B7 fun a118 B119 =>
 Z5h m0 a1 (gcB m0 [a1] B119)))
 (mk (callS false EE 48 [(shr (shr a6))] B7 fun a120 B121 =>
 ob (xlit PP 23 1 [(0, a120)]) fun a122 =>
 callS false EE 47 [(bv false), a122] B121 fun a123 B124 =>
 stN 7 a1 a123 B124 fun B125 =>
 Z4U a1 (bv true) B125)))))))
 (mk (ob (xbin PP .eql 3 (shr (shr a6)) (iv 123)) fun a126 =>
 asB (shr a126) fun t127 => br t127 (mk (callS false EE 29 [(shr x0), (iv 23), (shr (shr a5))] B7 fun a128 B129 =>
 Z5h m0 a1 (gcB m0 [a1] B129)))
 (mk (ob (xbin PP .eql 3 (shr (shr a6)) (iv 93)) fun a130 =>
 asB (shr a130) fun t131 => br t131 (asB (shr a130) fun t132 => br t132 (mk (callS false EE 29 [(shr x0), (iv 20), (shr (shr a5))] B7 fun a133 B134 =>
 Z5h m0 a1 (gcB m0 [a1] B134)))
 (mk (callS false EE 48 [(shr (shr a6))] B7 fun a135 B136 =>
 ob (xlit PP 23 1 [(0, a135)]) fun a137 =>
 callS false EE 47 [(bv false), a137] B136 fun a138 B139 =>
 stN 7 a1 a138 B139 fun B140 =>
 Z4U a1 (bv true) B140)))
 (mk (ob (xbin PP .eql 3 (shr (shr a6)) (iv 125)) fun a141 =>
 asB (shr a141) fun t142 => br t142 (mk (callS false EE 29 [(shr x0), (iv 20), (shr (shr a5))] B7 fun a143 B144 =>
 Z5h m0 a1 (gcB m0 [a1] B144)))
 (mk (callS false EE 48 [(shr (shr a6))] B7 fun a145 B146 =>
 ob (xlit PP 23 1 [(0, a145)]) fun a147 =>
 callS false EE 47 [(bv false), a147] B146 fun a148 B149 =>
 stN 7 a1 a148 B149 fun B150 =>
 Z4U a1 (bv true) B150)))))))))))))))))))))))))))))) := (E_eq PP XX HH _ _ _).trans (by kernel_rfl)
noncomputable def Zf7 : Code := bodyOf Tryd.f43
def ZeT (r0 : AV) (B : List Row) : Option Res :=
 ob (ob (ldN true 7 r0 B) fun v => ob (some []) fun vs => some (v :: vs)) fun vs => some ((nrmA (match vs with | [v] => v | vs => mkTup (vs.map shr))), B)
noncomputable def ZdD (m0 : Nat) : Kont := kret PP HH 43 Tryd.f43.results
noncomputable def Za2 (m0 : Nat) (x0 x2 x6 x7 x8 : AV) (B : List Row) : Option Res := exec PP HH 43 m0 EE LL (l2 (l2 (l2 (l2 Zf7)))) (ZdD m0) [(0, x0), (2, x2), (6, x6), (7, x7), (8, x8)] B
noncomputable def Zch (m0 : Nat) (x0 x6 x8 : AV) (B : List Row) : Option Res := exec PP HH 43 m0 EE LL (l2 (l2 (l2 (l2 (l2 Zf7))))) (ZdD m0) [(0, x0), (6, x6), (8, x8)] B
noncomputable def Zb5 (m0 : Nat) (x6 x8 : AV) (B : List Row) : Option Res := exec PP HH 43 m0 EE LL (l2 (l2 (l2 (l2 (l2 (l2 Zf7)))))) (ZdD m0) [(6, x6), (8, x8)] B
theorem Zfc (m0 : Nat) (x0 x2 x6 x7 x8 : AV) (B : List Row) : Za2 m0 x0 x2 x6 x7 x8 B =
 mk (ob (xun PP .not (shr x2)) fun a40 =>
 asB a40 fun t41 => br t41 (mk (callS false EE 29 [(shr x0), (iv 23), (shr x7)] B fun a42 B43 =>
 Zch m0 x0 x6 x8 (gcB m0 [x0, x6, x8] B43)))
 (Zch m0 x0 x6 x8 (gcB m0 [x0, x6, x8] B))) := by kernel_rfl
theorem ZfE (m0 : Nat) (x0 x6 x8 : AV) (B : List Row) : Zch m0 x0 x6 x8 B =
 mk (callS false EE 27 [(shr x0), (.p (.v (.string (ByteArray.mk #[63]))))] B fun a44 B45 =>
 asB (shr a44) fun t46 => br t46 (mk (ob (xfld 3 x8) fun a47 =>
 stN 1 a47 (iv 1) B45 fun B48 =>
 Zb5 m0 x6 x8 (gcB m0 [x6, x8] B48)))
 (mk (callS false EE 27 [(shr x0), (.p (.v (.string (ByteArray.mk #[43]))))] B45 fun a49 B50 =>
 asB (shr a49) fun t51 => br t51 (mk (ob (xfld 3 x8) fun a52 =>
 stN 1 a52 (iv 2) B50 fun B53 =>
 Zb5 m0 x6 x8 (gcB m0 [x6, x8] B53)))
 (Zb5 m0 x6 x8 (gcB m0 [x6, x8] B50))))) := by kernel_rfl
theorem Zfw (m0 : Nat) (x6 x8 : AV) (B : List Row) : Zb5 m0 x6 x8 B =
 mk (ob (ldN true 7 x8 B) fun a54 =>
 stN 7 x6 a54 B fun B55 =>
 ZeT x6 B55) := by kernel_rfl
theorem ZiI (x0 x1 x2 : AV) (B : List Row) : EE 43 [x0, x1, x2] B =
 (let m0 := B.length
 mk (bx x1 B fun a1 B2 =>
 bz PP 27 B2 fun a3 B4 =>
 mk (ob (xnilchk (shr x0)) fun a5 =>
 ob (xfld 1 a5) fun a6 =>
 ob (ldN false 1 a6 B4) fun a7 =>
 mk (ob (ldN true 7 a1 B4) fun a8 =>
 ob (xlit PP 25 1 [(0, a8)]) fun a9 =>
 ob (xbuild PP 27 [(0, (iv 4)), (2, (iv (-1))), (6, a9)]) fun a10 =>
 bz PP 27 B4 fun a11 B12 =>
 stN 7 a11 a10 B12 fun B13 =>
 mk (callS false EE 27 [(shr x0), (.p (.v (.string (ByteArray.mk #[42]))))] B13 fun a14 B15 =>
 asB (shr a14) fun t16 => br t16 (Za2 m0 x0 x2 a3 (shr a7) a11 (gcB m0 [x0, x2, a3, (shr a7), a11] B15))
 (mk (callS false EE 27 [(shr x0), (.p (.v (.string (ByteArray.mk #[43]))))] B15 fun a17 B18 =>
 asB (shr a17) fun t19 => br t19 (mk (ob (xfld 1 a11) fun a20 =>
 stN 1 a20 (iv 1) B18 fun B21 =>
 Za2 m0 x0 x2 a3 (shr a7) a11 (gcB m0 [x0, x2, a3, (shr a7), a11] B21)))
 (mk (callS false EE 27 [(shr x0), (.p (.v (.string (ByteArray.mk #[63]))))] B18 fun a22 B23 =>
 asB (shr a22) fun t24 => br t24 (mk (ob (xfld 2 a11) fun a25 =>
 stN 1 a25 (iv 1) B23 fun B26 =>
 Za2 m0 x0 x2 a3 (shr a7) a11 (gcB m0 [x0, x2, a3, (shr a7), a11] B26)))
 (mk (callS false EE 27 [(shr x0), (.p (.v (.string (ByteArray.mk #[123]))))] B23 fun a27 B28 =>
 asB (shr a27) fun t29 => br t29 (mk (callS false EE 52 [(shr x0), (shr (shr a7))] B28 fun a30 B31 =>
 ob (xext 0 (shr a30)) fun a32 =>
 ob (xext 1 (shr a30)) fun a33 =>
 ob (xfld 1 a11) fun a34 =>
 stN 1 a34 (shr a32) B31 fun B35 =>
 ob (xfld 2 a11) fun a36 =>
 stN 1 a36 (shr a33) B35 fun B37 =>
 Za2 m0 x0 x2 a3 (shr a7) a11 (gcB m0 [x0, x2, a3, (shr a7), a11] B37)))
 (mk (ob (ldN true 7 a1 B28) fun a38 =>
 stN 7 a3 a38 B28 fun B39 =>
 ZeT a3 B39))))))))))))) := (E_eq PP XX HH _ _ _).trans (by kernel_rfl)
noncomputable def ZaB : Code := bodyOf Tryd.f45
def Zdd (r0 r1 : AV) (B : List Row) : Option Res :=
 ob (ob (some r0) fun v => ob (ob (some r1) fun v => ob (some []) fun vs => some (v :: vs)) fun vs => some (v :: vs)) fun vs => some ((nrmA (match vs with | [v] => v | vs => mkTup (vs.map shr))), B)
noncomputable def ZaZ (m0 : Nat) : Kont := kret PP HH 45 Tryd.f45.results
noncomputable def ZhJ (m0 : Nat) : Kont := kseq HH 45 m0 (l2 (l2 ZaB)) (exec PP HH 45 m0 EE LL (l2 (l2 ZaB)) (ZaZ m0)) (ZaZ m0)
noncomputable def Zi9 (m0 : Nat) : Kont := kseq HH 45 m0 (l2 (l2 (l2 (l2 ZaB)))) (exec PP HH 45 m0 EE LL (l2 (l2 (l2 (l2 ZaB)))) (ZaZ m0)) (ZaZ m0)
noncomputable def ZcS (m0 : Nat) (B : List Row) : Option Res := exec PP HH 45 m0 EE LL (l1 (l2 (l1 (l2 ZaB)))) (ZhJ m0) [] B
noncomputable def ZdH (m0 : Nat) (x0 x1 : AV) (B : List Row) : Option Res := exec PP HH 45 m0 EE LL (l2 (l2 ZaB)) (ZaZ m0) [(0, x0), (1, x1)] B
noncomputable def Zek (m0 : Nat) (x0 x1 : AV) (B : List Row) : Option Res := exec PP HH 45 m0 EE LL (l1 (l2 (l1 (l2 (l2 (l2 ZaB)))))) (Zi9 m0) [(0, x0), (1, x1)] B
noncomputable def ZcK (m0 : Nat) (x6 x7 : AV) (B : List Row) : Option Res := exec PP HH 45 m0 EE LL (l2 (l2 (l2 (l2 ZaB)))) (ZaZ m0) [(6, x6), (7, x7)] B
theorem ZgI (m0 : Nat) (B : List Row) : ZcS m0  B =
 mk (Zdd (iv 0) (iv 0) B) := by kernel_rfl
theorem Zh6 (m0 : Nat) (x0 x1 : AV) (B : List Row) : ZdH m0 x0 x1 B =
 mk (ob (xsl 1 (shr x0) (some (shr x1)) none none) fun a6 =>
 callS false EE 53 [a6] B fun a7 B8 =>
 ob (xext 0 (shr a7)) fun a9 =>
 ob (xext 1 (shr a7)) fun a10 =>
 mk (ob (xbin PP .eql 21 (shr (shr (shr a9))) (kv .i32 65533)) fun a11 =>
 asB (shr a11) fun t12 => br t12 (ob (xbin PP .eql 3 (shr (shr (shr a10))) (iv 1)) fun a13 =>
 asB (shr a13) fun t14 => br t14 (Zek m0 x0 x1 (gcB m0 [x0, x1] B8))
 (ZcK m0 (shr (shr a9)) (shr (shr a10)) (gcB m0 [(shr (shr a9)), (shr (shr a10))] B8)))
 (ZcK m0 (shr (shr a9)) (shr (shr a10)) (gcB m0 [(shr (shr a9)), (shr (shr a10))] B8)))) := by kernel_rfl
theorem ZfO (m0 : Nat) (x0 x1 : AV) (B : List Row) : Zek m0 x0 x1 B =
 mk (ob (xidx 1 (shr x0) (shr x1)) fun a15 =>
 ob (ldN false 1 a15 B) fun a16 =>
 ob (xcnv PP 5 3 a16) fun a17 =>
 ob (xbin PP .add 3 (iv 1114112) a17) fun a18 =>
 Zdd (shr a18) (iv 1) B) := by kernel_rfl
theorem ZgR (m0 : Nat) (x6 x7 : AV) (B : List Row) : ZcK m0 x6 x7 B =
 mk (ob (xcnv PP 21 3 (shr x6)) fun a19 =>
 Zdd (shr a19) (shr (shr x7)) B) := by kernel_rfl
theorem Zie (x0 x1 : AV) (B : List Row) : EE 45 [x0, x1] B =
 (let m0 := B.length
 mk (mk (ob (xbin PP .lss 3 (shr x1) (iv 0)) fun a1 =>
 asB (shr a1) fun t2 => br t2 (ZcS m0  (gcB m0 [] B))
 (ob (xlen PP 40 (shr x0)) fun a3 =>
 ob (xbin PP .geq 3 (shr x1) a3) fun a4 =>
 asB (shr a4) fun t5 => br t5 (ZcS m0  (gcB m0 [] B))
 (ZdH m0 x0 x1 (gcB m0 [x0, x1] B)))))) := (E_eq PP XX HH _ _ _).trans (by kernel_rfl)
noncomputable def Zjh : Code := bodyOf Tryd.f46
def Zhz (r0 : AV) (B : List Row) : Option Res :=
 ob (ob (some r0) fun v => ob (some []) fun vs => some (v :: vs)) fun vs => some ((nrmA (match vs with | [v] => v | vs => mkTup (vs.map shr))), B)
theorem Zix (x0 : AV) (B : List Row) : EE 46 [x0] B =
 (let m0 := B.length
 mk (mk (ob (xnilchk (shr x0)) fun a1 =>
 ob (xfld 0 a1) fun a2 =>
 ob (ldN false 1 a2 B) fun a3 =>
 ob (xnilchk (shr x0)) fun a4 =>
 ob (xfld 1 a4) fun a5 =>
 ob (ldN false 1 a5 B) fun a6 =>
 callS false EE 45 [a3, a6] B fun a7 B8 =>
 ob (xext 0 (shr a7)) fun a9 =>
 ob (xext 1 (shr a7)) fun a10 =>
 mk (ob (xnilchk (shr x0)) fun a11 =>
 ob (xfld 1 a11) fun a12 =>
 ob (ldN false 1 a12 B8) fun a13 =>
 ob (xbin PP .add 3 a13 (shr (shr (shr a10)))) fun a14 =>
 ob (xnilchk (shr x0)) fun a15 =>
 ob (xfld 1 a15) fun a16 =>
 stN 1 a16 a14 B8 fun B17 =>
 mk (Zhz (shr (shr (shr (shr a9)))) B17))))) := (E_eq PP XX HH _ _ _).trans (by kernel_rfl)
noncomputable def Zj6 : Code := bodyOf Tryd.f47
def Zhw (r0 : AV) (B : List Row) : Option Res :=
 ob (ob (ldN true 7 r0 B) fun v => ob (some []) fun vs => some (v :: vs)) fun vs => some ((nrmA (match vs with | [v] => v | vs => mkTup (vs.map shr))), B)
noncomputable def ZhQ (m0 : Nat) : Kont := kret PP HH 47 Tryd.f47.results
noncomputable def ZcU (m0 : Nat) (x4 x5 : AV) (B : List Row) : Option Res := exec PP HH 47 m0 EE LL (l2 (l2 (l2 Zj6))) (ZhQ m0) [(4, x4), (5, x5)] B
theorem ZgZ (m0 : Nat) (x4 x5 : AV) (B : List Row) : ZcU m0 x4 x5 B =
 mk (ob (xbuild PP 27 [(0, (iv 1)), (5, (shr x5))]) fun a12 =>
 stN 7 x4 a12 B fun B13 =>
 Zhw x4 B13) := by kernel_rfl
theorem ZhR (x0 x1 : AV) (B : List Row) : EE 47 [x0, x1] B =
 (let m0 := B.length
 mk (bz PP 27 B fun a1 B2 =>
 mk (callS false EE 54 [(shr x1)] B2 fun a3 B4 =>
 ob (xext 0 (shr a3)) fun a5 =>
 ob (xext 1 (shr a3)) fun a6 =>
 mk (asB (shr x0) fun t7 => br t7 (mk (callS false EE 55 [(shr (shr (shr a5)))] B4 fun a8 B9 =>
 ob (xext 0 (shr a8)) fun a10 =>
 ob (xext 1 (shr a8)) fun a11 =>
 ZcU m0 a1 (shr (shr a10)) (gcB m0 [a1, (shr (shr a10))] B9)))
 (ZcU m0 a1 (shr (shr a5)) (gcB m0 [a1, (shr (shr a5))] B4)))))) := (E_eq PP XX HH _ _ _).trans (by kernel_rfl)
noncomputable def Zjk : Code := bodyOf Tryd.f48
def Zht (r0 : AV) (B : List Row) : Option Res :=
 ob (ob (ldN true 2 r0 B) fun v => ob (some []) fun vs => some (v :: vs)) fun vs => some ((nrmA (match vs with | [v] => v | vs => mkTup (vs.map shr))), B)
theorem Ziz (x0 : AV) (B : List Row) : EE 48 [x0] B =
 (let m0 := B.length
 mk (bz PP 39 B fun a1 B2 =>
 mk (ob (xbuild PP 39 [(0, (shr x0)), (1, (shr x0))]) fun a3 =>
 stN 2 a1 a3 B2 fun B4 =>
 Zht a1 B4))) := (E_eq PP XX HH _ _ _).trans (by kernel_rfl)
noncomputable def ZcD : Code := bodyOf Tryd.f49
def Z9Y (r0 : AV) (B : List Row) : Option Res :=
 ob (ob (ldN true 7 r0 B) fun v => ob (some []) fun vs => some (v :: vs)) fun vs => some ((nrmA (match vs with | [v] => v | vs => mkTup (vs.map shr))), B)
noncomputable def Zcz (m0 : Nat) : Kont := kret PP HH 49 Tryd.f49.results
noncomputable def ZhY (m0 : Nat) : Kont := kseq HH 49 m0 (l2 (l2 (l2 (l2 (l2 ZcD))))) (exec PP HH 49 m0 EE LL (l2 (l2 (l2 (l2 (l2 ZcD))))) (Zcz m0)) (Zcz m0)
noncomputable def ZhB (m0 : Nat) : Kont := kblk 0 (ZhY m0)
noncomputable def Zeq (m0 : Nat) (x0 x1 x4 x5 : AV) (B : List Row) : Option Res := exec PP HH 49 m0 EE LL (l2 (l2 (l2 ZcD))) (Zcz m0) [(0, x0), (1, x1), (4, x4), (5, x5)] B
noncomputable def Zd3 (m0 : Nat) (x0 x1 x4 x5 : AV) (B : List Row) : Option Res := exec PP HH 49 m0 EE LL (l1 (l2 (l2 (l2 (l2 (l2 (l2 (l2 (l1 (l1 (l2 (l2 (l2 (l2 ZcD)))))))))))))) (ZhB m0) [(0, x0), (1, x1), (4, x4), (5, x5)] B
noncomputable def Zcd (m0 : Nat) (x0 x1 x4 x5 : AV) (B : List Row) : Option Res := exec PP HH 49 m0 EE LL (l2 (l2 (l2 (l2 (l2 ZcD))))) (Zcz m0) [(0, x0), (1, x1), (4, x4), (5, x5)] B
theorem ZgE (m0 : Nat) (x0 x1 x4 x5 : AV) (B : List Row) : Zeq m0 x0 x1 x4 x5 B =
 mk (callS false EE 46 [(shr x0)] B fun a11 B12 =>
 mk (callS true EE 56 [(shr x5)] B12 fun a13 B14 =>
 ob (xnil PP .neq 23 (.slice none 0 0) a13) fun a15 =>
 asB (shr a15) fun t16 => br t16 (mk (ob (xbin PP .lss 3 (shr x5) (iv 97)) fun a17 =>
 callS true EE 56 [(shr x5)] B14 fun a18 B19 =>
 callS false EE 47 [a17, a18] B19 fun a20 B21 =>
 stN 7 x4 a20 B21 fun B22 =>
 Z9Y x4 B22))
 (mk (ob (xbin PP .eql 3 (shr x5) (iv 98)) fun a23 =>
 asB (shr a23) fun t24 => br t24 (mk (ob (xbuild PP 27 [(0, (iv 9)), (4, (iv 2))]) fun a25 =>
 stN 7 x4 a25 B14 fun B26 =>
 Z9Y x4 B26))
 (mk (ob (xbin PP .eql 3 (shr x5) (iv 66)) fun a27 =>
 asB (shr a27) fun t28 => br t28 (mk (ob (xbuild PP 27 [(0, (iv 9)), (4, (iv 3))]) fun a29 =>
 stN 7 x4 a29 B14 fun B30 =>
 Z9Y x4 B30))
 (mk (ob (xbin PP .geq 3 (shr x5) (iv 49)) fun a31 =>
 asB (shr a31) fun t32 => br t32 (ob (xbin PP .leq 3 (shr x5) (iv 57)) fun a33 =>
 asB (shr (shr a33)) fun t34 => br t34 (Zd3 m0 x0 x1 x4 x5 (gcB m0 [x0, x1, x4, x5] B14))
 (Zcd m0 x0 x1 x4 x5 (gcB m0 [x0, x1, x4, x5] B14)))
 (Zcd m0 x0 x1 x4 x5 (gcB m0 [x0, x1, x4, x5] B14)))))))))) := by kernel_rfl
theorem Zfs (m0 : Nat) (x0 x1 x4 x5 : AV) (B : List Row) : Zd3 m0 x0 x1 x4 x5 B =
 mk (ob (xnilchk (shr x0)) fun a35 =>
 ob (xfld 4 a35) fun a36 =>
 ldOwn a36 B fun a37 B38 =>
 ob (xbin PP .sub 3 (shr x5) (iv 48)) fun a39 =>
 ob (xbuild PP 62 [(0, a39), (1, (shr x1))]) fun a40 =>
 ob (xlit PP 56 1 [(0, a40)]) fun a41 =>
 ob (xapp 2 a37 a41) fun a42 =>
 ob (xnilchk (shr x0)) fun a43 =>
 ob (xfld 4 a43) fun a44 =>
 stN 1 a44 a42 B38 fun B45 =>
 mk (ob (xbin PP .sub 3 (shr x5) (iv 48)) fun a46 =>
 ob (xbuild PP 27 [(0, (iv 6)), (4, a46)]) fun a47 =>
 stN 7 x4 a47 B45 fun B48 =>
 Z9Y x4 B48)) := by kernel_rfl
theorem Zfz (m0 : Nat) (x0 x1 x4 x5 : AV) (B : List Row) : Zcd m0 x0 x1 x4 x5 B =
 mk (callS false EE 57 [(shr x0), (shr x5), (shr x1)] B fun a49 B50 =>
 callS false EE 48 [a49] B50 fun a51 B52 =>
 ob (xlit PP 23 1 [(0, a51)]) fun a53 =>
 callS false EE 47 [(bv false), a53] B52 fun a54 B55 =>
 stN 7 x4 a54 B55 fun B56 =>
 Z9Y x4 B56) := by kernel_rfl
theorem Ziy (x0 x1 : AV) (B : List Row) : EE 49 [x0, x1] B =
 (let m0 := B.length
 mk (bz PP 27 B fun a1 B2 =>
 mk (callS false EE 41 [(shr x0)] B2 fun a3 B4 =>
 mk (ob (xbin PP .lss 3 (shr (shr a3)) (iv 0)) fun a5 =>
 asB a5 fun t6 => br t6 (mk (callS false EE 29 [(shr x0), (iv 21), (shr x1)] B4 fun a7 B8 =>
 mk (ob (xbuild PP 27 []) fun a9 =>
 stN 7 a1 a9 B8 fun B10 =>
 Z9Y a1 B10)))
 (Zeq m0 x0 x1 a1 (shr a3) (gcB m0 [x0, x1, a1, (shr a3)] B4)))))) := (E_eq PP XX HH _ _ _).trans (by kernel_rfl)
noncomputable def Z4o : Code := bodyOf Tryd.f50
def Zf4 (r0 : AV) (B : List Row) : Option Res :=
 ob (ob (ldN true 7 r0 B) fun v => ob (some []) fun vs => some (v :: vs)) fun vs => some ((nrmA (match vs with | [v] => v | vs => mkTup (vs.map shr))), B)
noncomputable def Zez (m0 : Nat) : Kont := kret PP HH 50 Tryd.f50.results
noncomputable def ZiM (m0 : Nat) : Kont := kseq HH 50 m0 (l2 (l2 (l2 (l2 (l2 (l2 Z4o)))))) (exec PP HH 50 m0 EE LL (l2 (l2 (l2 (l2 (l2 (l2 Z4o)))))) (Zez m0)) (Zez m0)
noncomputable def ZeF (m0 : Nat) : Kont := kblk 0 (ZiM m0)
noncomputable def ZcE (m0 : Nat) : Kont := kloop HH 50 m0 (l1 (l1 (l1 (l2 (l2 (l2 (l2 (l2 Z4o)))))))) (LL 50 m0 (l1 (l1 (l1 (l2 (l2 (l2 (l2 (l2 Z4o)))))))) (ZeF m0)) (ZeF m0)
noncomputable def Zis (m0 : Nat) : Kont := kseq HH 50 m0 (l2 (l2 (l1 (l1 (l1 (l2 (l2 (l2 (l2 (l2 Z4o)))))))))) (exec PP HH 50 m0 EE LL (l2 (l2 (l1 (l1 (l1 (l2 (l2 (l2 (l2 (l2 Z4o)))))))))) (ZcE m0)) (ZcE m0)
noncomputable def Za6 (m0 : Nat) : Kont := kblk 1 (Zis m0)
noncomputable def Ziq (m0 : Nat) : Kont := kseq HH 50 m0 (l2 (l2 (l1 (l1 (l2 (l1 (l1 (l1 (l2 (l2 (l2 (l2 (l2 Z4o))))))))))))) (exec PP HH 50 m0 EE LL (l2 (l2 (l1 (l1 (l2 (l1 (l1 (l1 (l2 (l2 (l2 (l2 (l2 Z4o))))))))))))) (Za6 m0)) (Za6 m0)
noncomputable def ZgD (m0 : Nat) : Kont := kblk 2 (Ziq m0)
noncomputable def ZcW (m0 : Nat) : Kont := kseq HH 50 m0 (l2 (l2 (l2 (l2 (l2 (l2 (l1 (l1 (l2 (l1 (l1 (l1 (l2 (l2 (l2 (l2 (l2 Z4o))))))))))))))))) (exec PP HH 50 m0 EE LL (l2 (l2 (l2 (l2 (l2 (l2 (l1 (l1 (l2 (l1 (l1 (l1 (l2 (l2 (l2 (l2 (l2 Z4o))))))))))))))))) (Za6 m0)) (Za6 m0)
noncomputable def ZiR (m0 : Nat) : Kont := kseq HH 50 m0 (l2 (l1 (l2 (l1 (l2 (l2 (l2 (l2 (l2 (l1 (l1 (l2 (l1 (l1 (l1 (l2 (l2 (l2 (l2 (l2 Z4o)))))))))))))))))))) (exec PP HH 50 m0 EE LL (l2 (l1 (l2 (l1 (l2 (l2 (l2 (l2 (l2 (l1 (l1 (l2 (l1 (l1 (l1 (l2 (l2 (l2 (l2 (l2 Z4o)))))))))))))))))))) (ZcW m0)) (ZcW m0)
noncomputable def Zbl (m0 : Nat) (x0 x1 x4 x5 x6 x7 x8 : AV) (B : List Row) : Option Res := lp (LL 50 m0 (l1 (l1 (l1 (l2 (l2 (l2 (l2 (l2 Z4o)))))))) (ZeF m0) [(0, x0), (1, x1), (4, x4), (5, x5), (6, x6), (7, x7), (8, x8)] B)
noncomputable def Ze0 (m0 : Nat) (x0 x1 x4 x5 x6 x7 x8 : AV) (B : List Row) : Option Res := exec PP HH 50 m0 EE LL (l2 (l1 (l1 (l1 (l2 (l2 (l2 (l2 (l2 Z4o))))))))) (ZcE m0) [(0, x0), (1, x1), (4, x4), (5, x5), (6, x6), (7, x7), (8, x8)] B
noncomputable def Zdp (m0 : Nat) (x4 : AV) (B : List Row) : Option Res := exec PP HH 50 m0 EE LL (l2 (l2 (l2 (l2 (l2 (l2 Z4o)))))) (Zez m0) [(4, x4)] B
noncomputable def Z6S (m0 : Nat) (x0 x1 x4 x5 x6 x7 x8 : AV) (B : List Row) : Option Res := exec PP HH 50 m0 EE LL (l2 (l2 (l1 (l1 (l1 (l2 (l2 (l2 (l2 (l2 Z4o)))))))))) (ZcE m0) [(0, x0), (1, x1), (4, x4), (5, x5), (6, x6), (7, x7), (8, x8)] B
noncomputable def Zdn (m0 : Nat) (x0 x4 x5 x6 : AV) (B : List Row) : Option Res := exec PP HH 50 m0 EE LL (l2 (l1 (l2 (l2 (l2 (l1 (l2 (l2 (l1 (l2 (l1 (l1 (l2 (l1 (l1 (l1 (l2 (l2 (l2 (l2 (l2 Z4o))))))))))))))))))))) (ZgD m0) [(0, x0), (4, x4), (5, x5), (6, x6)] B
noncomputable def Zcf (m0 : Nat) (x0 x1 x4 x5 x6 x7 x8 x9 : AV) (B : List Row) : Option Res := exec PP HH 50 m0 EE LL (l2 (l2 (l1 (l1 (l2 (l1 (l1 (l1 (l2 (l2 (l2 (l2 (l2 Z4o))))))))))))) (Za6 m0) [(0, x0), (1, x1), (4, x4), (5, x5), (6, x6), (7, x7), (8, x8), (9, x9)] B
noncomputable def Zc7 (m0 : Nat) (x4 x6 : AV) (B : List Row) : Option Res := exec PP HH 50 m0 EE LL (l2 (l2 (l2 (l1 (l2 (l2 (l2 (l1 (l2 (l2 (l1 (l2 (l1 (l1 (l2 (l1 (l1 (l1 (l2 (l2 (l2 (l2 (l2 Z4o))))))))))))))))))))))) (ZgD m0) [(4, x4), (6, x6)] B
noncomputable def Zdc (m0 : Nat) (x0 x1 x4 x5 x6 x7 x8 x9 x11 : AV) (B : List Row) : Option Res := exec PP HH 50 m0 EE LL (l2 (l2 (l2 (l2 (l1 (l1 (l2 (l1 (l1 (l1 (l2 (l2 (l2 (l2 (l2 Z4o))))))))))))))) (Za6 m0) [(0, x0), (1, x1), (4, x4), (5, x5), (6, x6), (7, x7), (8, x8), (9, x9), (11, x11)] B
noncomputable def Za3 (m0 : Nat) (x0 x1 x4 x5 x6 x7 x8 x9 : AV) (B : List Row) : Option Res := exec PP HH 50 m0 EE LL (l1 (l2 (l2 (l1 (l1 (l2 (l1 (l2 (l2 (l2 (l2 (l2 (l1 (l1 (l2 (l1 (l1 (l1 (l2 (l2 (l2 (l2 (l2 Z4o))))))))))))))))))))))) (ZiR m0) [(0, x0), (1, x1), (4, x4), (5, x5), (6, x6), (7, x7), (8, x8), (9, x9)] B
noncomputable def Zd5 (m0 : Nat) (x0 x1 x4 x5 x6 x7 x8 x9 x11 : AV) (B : List Row) : Option Res := exec PP HH 50 m0 EE LL (l2 (l1 (l2 (l1 (l2 (l2 (l2 (l2 (l2 (l1 (l1 (l2 (l1 (l1 (l1 (l2 (l2 (l2 (l2 (l2 Z4o)))))))))))))))))))) (ZcW m0) [(0, x0), (1, x1), (4, x4), (5, x5), (6, x6), (7, x7), (8, x8), (9, x9), (11, x11)] B
noncomputable def Z9Z (m0 : Nat) (x0 x1 x4 x5 x6 x7 x8 x11 x15 : AV) (B : List Row) : Option Res := exec PP HH 50 m0 EE LL (l2 (l2 (l2 (l2 (l2 (l2 (l1 (l1 (l2 (l1 (l1 (l1 (l2 (l2 (l2 (l2 (l2 Z4o))))))))))))))))) (Za6 m0) [(0, x0), (1, x1), (4, x4), (5, x5), (6, x6), (7, x7), (8, x8), (11, x11), (15, x15)] B
noncomputable def Zca (m0 : Nat) (x0 x1 x4 x5 x6 x7 x8 x9 x11 x15 : AV) (B : List Row) : Option Res := exec PP HH 50 m0 EE LL (l1 (l2 (l2 (l2 (l1 (l2 (l1 (l2 (l2 (l2 (l2 (l2 (l1 (l1 (l2 (l1 (l1 (l1 (l2 (l2 (l2 (l2 (l2 Z4o))))))))))))))))))))))) (ZcW m0) [(0, x0), (1, x1), (4, x4), (5, x5), (6, x6), (7, x7), (8, x8), (9, x9), (11, x11), (15, x15)] B
theorem Zh5 (m0 : Nat) (x0 x1 x4 x5 x6 x7 x8 : AV) (B : List Row) : Zbl m0 x0 x1 x4 x5 x6 x7 x8 B =
 mk (ob (xnilchk (shr x0)) fun a7 =>
 ob (xfld 5 a7) fun a8 =>
 ob (xfld 0 a8) fun a9 =>
 ob (ldN false 1 a9 B) fun a10 =>
 ob (xbin PP .eql 30 a10 (iv 0)) fun a11 =>
 asB a11 fun t12 => br t12 (Ze0 m0 x0 x1 x4 x5 x6 x7 x8 (gcB m0 [x0, x1, x4, x5, x6, x7, x8] B))
 (Zdp m0 x4 (gcB m0 [x4] B))) := (L_eq PP XX HH _ _ _ _ _ _).trans (by kernel_rfl)
theorem Zgt (m0 : Nat) (x0 x1 x4 x5 x6 x7 x8 : AV) (B : List Row) : Ze0 m0 x0 x1 x4 x5 x6 x7 x8 B =
 mk (ob (xnilchk (shr x0)) fun a13 =>
 ob (xfld 1 a13) fun a14 =>
 ob (ldN false 1 a14 B) fun a15 =>
 mk (callS false EE 41 [(shr x0)] B fun a16 B17 =>
 mk (mk (ob (xbin PP .eql 3 (shr (shr a16)) (iv (-1))) fun a18 =>
 asB (shr a18) fun t19 => br t19 (mk (callS false EE 29 [(shr x0), (iv 22), (shr x1)] B17 fun a20 B21 =>
 Z6S m0 x0 x1 x4 x5 x6 x7 x8 (gcB m0 [x0, x1, x4, x5, x6, x7, x8] B21)))
 (mk (ob (xbin PP .eql 3 (shr (shr a16)) (iv 93)) fun a22 =>
 asB (shr a22) fun t23 => br t23 (mk (ob (xbin PP .eql 3 (shr x8) (iv 0)) fun a24 =>
 asB a24 fun t25 => br t25 (mk (callS false EE 29 [(shr x0), (iv 22), (shr x1)] B17 fun a26 B27 =>
 Z6S m0 x0 x1 x4 x5 x6 x7 x8 (gcB m0 [x0, x1, x4, x5, x6, x7, x8] B27)))
 (Zdn m0 x0 x4 x5 x6 (gcB m0 [x0, x4, x5, x6] B17))))
 (mk (ob (xbin PP .eql 3 (shr (shr a16)) (iv 91)) fun a28 =>
 asB (shr a28) fun t29 => br t29 (asB (shr a28) fun t30 => br t30 (mk (callS false EE 29 [(shr x0), (iv 22), (shr (shr a15))] B17 fun a31 B32 =>
 Z6S m0 x0 x1 x4 x5 x6 x7 x8 (gcB m0 [x0, x1, x4, x5, x6, x7, x8] B32)))
 (Zcf m0 x0 x1 x4 x5 x6 x7 x8 (shr a15) (gcB m0 [x0, x1, x4, x5, x6, x7, x8, (shr a15)] B17)))
 (mk (ob (xbin PP .eql 3 (shr (shr a16)) (iv 45)) fun a33 =>
 asB (shr a33) fun t34 => br t34 (mk (callS false EE 29 [(shr x0), (iv 22), (shr (shr a15))] B17 fun a35 B36 =>
 Z6S m0 x0 x1 x4 x5 x6 x7 x8 (gcB m0 [x0, x1, x4, x5, x6, x7, x8] B36)))
 (Zcf m0 x0 x1 x4 x5 x6 x7 x8 (shr a15) (gcB m0 [x0, x1, x4, x5, x6, x7, x8, (shr a15)] B17)))))))))))) := by kernel_rfl
theorem Zf8 (m0 : Nat) (x4 : AV) (B : List Row) : Zdp m0 x4 B =
 mk (ob (xbuild PP 27 []) fun a37 =>
 stN 7 x4 a37 B fun B38 =>
 Zf4 x4 B38) := by kernel_rfl
theorem Zha (m0 : Nat) (x0 x1 x4 x5 x6 x7 x8 : AV) (B : List Row) : Z6S m0 x0 x1 x4 x5 x6 x7 x8 B =
 mk (ob (xbin PP .add 3 (shr x8) (iv 1)) fun a39 =>
 Zbl m0 x0 x1 x4 x5 x6 x7 (shr a39) (gcB m0 [x0, x1, x4, x5, x6, x7, (shr a39)] B)) := by kernel_rfl
theorem ZfB (m0 : Nat) (x0 x4 x5 x6 : AV) (B : List Row) : Zdn m0 x0 x4 x5 x6 B =
 mk (callS false EE 46 [(shr x0)] B fun a40 B41 =>
 mk (asB (shr x5) fun t42 => br t42 (mk (ob (ldN false 1 x6 B41) fun a43 =>
 callS false EE 55 [a43] B41 fun a44 B45 =>
 ob (xext 0 (shr a44)) fun a46 =>
 ob (xext 1 (shr a44)) fun a47 =>
 stN 1 x6 (shr a46) B45 fun B48 =>
 Zc7 m0 x4 x6 (gcB m0 [x4, x6] B48)))
 (Zc7 m0 x4 x6 (gcB m0 [x4, x6] B41)))) := by kernel_rfl
theorem ZfA (m0 : Nat) (x0 x1 x4 x5 x6 x7 x8 x9 : AV) (B : List Row) : Zcf m0 x0 x1 x4 x5 x6 x7 x8 x9 B =
 mk (callS true EE 60 [(shr x0)] B fun a49 B50 =>
 ob (xext 0 (shr a49)) fun a51 =>
 ob (xext 1 (shr a49)) fun a52 =>
 ob (xext 2 (shr a49)) fun a53 =>
 mk (ob (xnil PP .neq 23 (.slice none 0 0) (shr (shr (shr a52)))) fun a54 =>
 asB a54 fun t55 => br t55 (mk (callS false EE 47 [(shr (shr (shr a53))), (shr (shr (shr a52)))] B50 fun a56 B57 =>
 bz PP 27 B57 fun a58 B59 =>
 stN 7 a58 a56 B59 fun B60 =>
 mk (ob (xfld 5 a58) fun a61 =>
 ob (ldN false 1 a61 B60) fun a62 =>
 callV HH EE (shr x7) [a62] B60 fun a63 B64 =>
 mk (callS false EE 41 [(shr x0)] B64 fun a65 B66 =>
 ob (xbin PP .eql 3 a65 (iv 45)) fun a67 =>
 asB a67 fun t68 => br t68 (mk (ob (xnilchk (shr x0)) fun a69 =>
 ob (xfld 1 a69) fun a70 =>
 ob (ldN false 1 a70 B66) fun a71 =>
 callS false EE 29 [(shr x0), (iv 22), a71] B66 fun a72 B73 =>
 Z6S m0 x0 x1 x4 x5 x6 x7 x8 (gcB m0 [x0, x1, x4, x5, x6, x7, x8] B73)))
 (Z6S m0 x0 x1 x4 x5 x6 x7 x8 (gcB m0 [x0, x1, x4, x5, x6, x7, x8] B66))))))
 (Zdc m0 x0 x1 x4 x5 x6 x7 x8 x9 (shr (shr a51)) (gcB m0 [x0, x1, x4, x5, x6, x7, x8, x9, (shr (shr a51))] B50)))) := by kernel_rfl
theorem Zfp (m0 : Nat) (x4 x6 : AV) (B : List Row) : Zc7 m0 x4 x6 B =
 mk (ob (ldN false 1 x6 B) fun a74 =>
 ob (xbuild PP 27 [(0, (iv 1)), (5, a74)]) fun a75 =>
 stN 7 x4 a75 B fun B76 =>
 Zf4 x4 B76) := by kernel_rfl
theorem Zfq (m0 : Nat) (x0 x1 x4 x5 x6 x7 x8 x9 x11 : AV) (B : List Row) : Zdc m0 x0 x1 x4 x5 x6 x7 x8 x9 x11 B =
 mk (mk (callS false EE 27 [(shr x0), (.p (.v (.string (ByteArray.mk #[45]))))] B fun a77 B78 =>
 asB a77 fun t79 => br t79 (mk (callS false EE 41 [(shr x0)] B78 fun a80 B81 =>
 mk (ob (xbin PP .eql 3 (shr (shr a80)) (iv 93)) fun a82 =>
 asB (shr a82) fun t83 => br t83 (Za3 m0 x0 x1 x4 x5 x6 x7 x8 x9 (gcB m0 [x0, x1, x4, x5, x6, x7, x8, x9] B81))
 (ob (xbin PP .eql 3 (shr (shr a80)) (iv 91)) fun a84 =>
 asB (shr (shr a84)) fun t85 => br t85 (Za3 m0 x0 x1 x4 x5 x6 x7 x8 x9 (gcB m0 [x0, x1, x4, x5, x6, x7, x8, x9] B81))
 (ob (xbin PP .eql 3 (shr (shr a80)) (iv 45)) fun a86 =>
 asB (shr (shr a86)) fun t87 => br t87 (Za3 m0 x0 x1 x4 x5 x6 x7 x8 x9 (gcB m0 [x0, x1, x4, x5, x6, x7, x8, x9] B81))
 (ob (xbin PP .lss 3 (shr (shr a80)) (iv 0)) fun a88 =>
 asB (shr a88) fun t89 => br t89 (Za3 m0 x0 x1 x4 x5 x6 x7 x8 x9 (gcB m0 [x0, x1, x4, x5, x6, x7, x8, x9] B81))
 (Zd5 m0 x0 x1 x4 x5 x6 x7 x8 x9 x11 (gcB m0 [x0, x1, x4, x5, x6, x7, x8, x9, x11] B81))))))))
 (Z9Z m0 x0 x1 x4 x5 x6 x7 x8 x11 (shr (shr x11)) (gcB m0 [x0, x1, x4, x5, x6, x7, x8, x11, (shr (shr x11))] B78)))) := by kernel_rfl
theorem Zf6 (m0 : Nat) (x0 x1 x4 x5 x6 x7 x8 x9 : AV) (B : List Row) : Za3 m0 x0 x1 x4 x5 x6 x7 x8 x9 B =
 mk (callS false EE 29 [(shr x0), (iv 22), (shr x9)] B fun a90 B91 =>
 Z6S m0 x0 x1 x4 x5 x6 x7 x8 (gcB m0 [x0, x1, x4, x5, x6, x7, x8] B91)) := by kernel_rfl
theorem ZfH (m0 : Nat) (x0 x1 x4 x5 x6 x7 x8 x9 x11 : AV) (B : List Row) : Zd5 m0 x0 x1 x4 x5 x6 x7 x8 x9 x11 B =
 mk (callS true EE 60 [(shr x0)] B fun a92 B93 =>
 ob (xext 0 (shr a92)) fun a94 =>
 ob (xext 1 (shr a92)) fun a95 =>
 ob (xext 2 (shr a92)) fun a96 =>
 mk (ob (xnilchk (shr x0)) fun a97 =>
 ob (xfld 5 a97) fun a98 =>
 ob (xfld 0 a98) fun a99 =>
 ob (ldN false 1 a99 B93) fun a100 =>
 ob (xbin PP .eql 30 a100 (iv 0)) fun a101 =>
 asB (shr a101) fun t102 => br t102 (ob (xnil PP .neq 23 (.slice none 0 0) (shr (shr (shr a95)))) fun a103 =>
 asB (shr a103) fun t104 => br t104 (Zca m0 x0 x1 x4 x5 x6 x7 x8 x9 x11 (shr (shr a94)) (gcB m0 [x0, x1, x4, x5, x6, x7, x8, x9, x11, (shr (shr a94))] B93))
 (ob (xbin PP .lss 3 (shr (shr (shr a94))) (shr x11)) fun a105 =>
 asB (shr (shr a105)) fun t106 => br t106 (Zca m0 x0 x1 x4 x5 x6 x7 x8 x9 x11 (shr (shr a94)) (gcB m0 [x0, x1, x4, x5, x6, x7, x8, x9, x11, (shr (shr a94))] B93))
 (Z9Z m0 x0 x1 x4 x5 x6 x7 x8 x11 (shr (shr a94)) (gcB m0 [x0, x1, x4, x5, x6, x7, x8, x11, (shr (shr a94))] B93))))
 (Z9Z m0 x0 x1 x4 x5 x6 x7 x8 x11 (shr (shr a94)) (gcB m0 [x0, x1, x4, x5, x6, x7, x8, x11, (shr (shr a94))] B93)))) := by kernel_rfl
theorem Zfh (m0 : Nat) (x0 x1 x4 x5 x6 x7 x8 x11 x15 : AV) (B : List Row) : Z9Z m0 x0 x1 x4 x5 x6 x7 x8 x11 x15 B =
 mk (ob (xnilchk (shr x0)) fun a107 =>
 ob (xfld 5 a107) fun a108 =>
 ob (xfld 0 a108) fun a109 =>
 ob (ldN false 1 a109 B) fun a110 =>
 ob (xbin PP .eql 30 a110 (iv 0)) fun a111 =>
 asB a111 fun t112 => br t112 (mk (ob (xbuild PP 39 [(0, (shr x11)), (1, (shr x15))]) fun a113 =>
 ob (xlit PP 24 1 [(0, a113)]) fun a114 =>
 callV HH EE (shr x7) [a114] B fun a115 B116 =>
 Z6S m0 x0 x1 x4 x5 x6 x7 x8 (gcB m0 [x0, x1, x4, x5, x6, x7, x8] B116)))
 (Z6S m0 x0 x1 x4 x5 x6 x7 x8 (gcB m0 [x0, x1, x4, x5, x6, x7, x8] B))) := by kernel_rfl
theorem Zfm (m0 : Nat) (x0 x1 x4 x5 x6 x7 x8 x9 x11 x15 : AV) (B : List Row) : Zca m0 x0 x1 x4 x5 x6 x7 x8 x9 x11 x15 B =
 mk (callS false EE 29 [(shr x0), (iv 22), (shr x9)] B fun a117 B118 =>
 Z9Z m0 x0 x1 x4 x5 x6 x7 x8 x11 x15 (gcB m0 [x0, x1, x4, x5, x6, x7, x8, x11, x15] B118)) := by kernel_rfl
theorem Zig (x0 x1 : AV) (B : List Row) : EE 50 [x0, x1] B =
 (let m0 := B.length
 mk (bz PP 27 B fun a1 B2 =>
 mk (callS false EE 27 [(shr x0), (.p (.v (.string (ByteArray.mk #[94]))))] B2 fun a3 B4 =>
 mk (bz PP 24 B4 fun a5 B6 =>
 mk (mk (Zbl m0 x0 x1 a1 (shr a3) a5 (shr (.clo 58 ([].map nrmA) ([a5].map nrmA))) (iv 0) (gcB m0 [x0, x1, a1, (shr a3), a5, (shr (.clo 58 ([].map nrmA) ([a5].map nrmA))), (iv 0)] B6))))))) := (E_eq PP XX HH _ _ _).trans (by kernel_rfl)
noncomputable def ZbF : Code := bodyOf Tryd.f51
def Zd9 (r0 r1 : AV) (B : List Row) : Option Res :=
 ob (ob (ldN true 7 r0 B) fun v => ob (ob (some r1) fun v => ob (some []) fun vs => some (v :: vs)) fun vs => some (v :: vs)) fun vs => some ((nrmA (match vs with | [v] => v | vs => mkTup (vs.map shr))), B)
noncomputable def Zby (m0 : Nat) : Kont := kret PP HH 51 Tryd.f51.results
noncomputable def ZhA (m0 : Nat) : Kont := kseq HH 51 m0 (l2 (l2 (l2 (l2 (l2 (l2 ZbF)))))) (exec PP HH 51 m0 EE LL (l2 (l2 (l2 (l2 (l2 (l2 ZbF)))))) (Zby m0)) (Zby m0)
noncomputable def ZdG (m0 : Nat) (x0 x1 x4 : AV) (B : List Row) : Option Res := exec PP HH 51 m0 EE LL (l2 (l2 ZbF)) (Zby m0) [(0, x0), (1, x1), (4, x4)] B
noncomputable def Z8j (m0 : Nat) (x0 x1 x4 : AV) (B : List Row) : Option Res := exec PP HH 51 m0 EE LL (l2 (l2 (l2 (l2 ZbF)))) (Zby m0) [(0, x0), (1, x1), (4, x4)] B
noncomputable def Zd2 (m0 : Nat) (x0 x1 x4 x7 : AV) (B : List Row) : Option Res := exec PP HH 51 m0 EE LL (l1 (l2 (l1 (l2 (l2 (l2 (l2 (l2 ZbF)))))))) (ZhA m0) [(0, x0), (1, x1), (4, x4), (7, x7)] B
noncomputable def Zbf (m0 : Nat) (x0 x4 x7 : AV) (B : List Row) : Option Res := exec PP HH 51 m0 EE LL (l2 (l2 (l2 (l2 (l2 (l2 ZbF)))))) (Zby m0) [(0, x0), (4, x4), (7, x7)] B
noncomputable def Zd4 (m0 : Nat) (x4 x7 : AV) (B : List Row) : Option Res := exec PP HH 51 m0 EE LL (l2 (l2 (l2 (l2 (l2 (l2 (l2 (l2 ZbF)))))))) (Zby m0) [(4, x4), (7, x7)] B
theorem ZfP (m0 : Nat) (x0 x1 x4 : AV) (B : List Row) : ZdG m0 x0 x1 x4 B =
 mk (ob (xnilchk (shr x0)) fun a12 =>
 ob (xfld 3 a12) fun a13 =>
 ob (ldN false 1 a13 B) fun a14 =>
 ob (xbin PP .add 3 a14 (iv 1)) fun a15 =>
 ob (xnilchk (shr x0)) fun a16 =>
 ob (xfld 3 a16) fun a17 =>
 stN 1 a17 a15 B fun B18 =>
 mk (callS false EE 62 [] B18 fun a19 B20 =>
 callS false EE 61 [a19, (.clo 27 ([(shr x0)].map nrmA) ([].map nrmA))] B20 fun a21 B22 =>
 mk (ob (xbin PP .geq 3 (shr (shr a21)) (iv 0)) fun a23 =>
 asB (shr a23) fun t24 => br t24 (mk (ob (xbuild PP 27 [(0, (iv 7)), (3, (shr (shr a21)))]) fun a25 =>
 stN 7 x4 a25 B22 fun B26 =>
 Z8j m0 x0 x1 x4 (gcB m0 [x0, x1, x4] B26)))
 (mk (callS false EE 27 [(shr x0), (.p (.v (.string (ByteArray.mk #[63, 62]))))] B22 fun a27 B28 =>
 asB (shr a27) fun t29 => br t29 (mk (ob (xbuild PP 27 [(0, (iv 8))]) fun a30 =>
 stN 7 x4 a30 B28 fun B31 =>
 Z8j m0 x0 x1 x4 (gcB m0 [x0, x1, x4] B31)))
 (mk (callS false EE 27 [(shr x0), (.p (.v (.string (ByteArray.mk #[63, 58]))))] B28 fun a32 B33 =>
 asB (shr a32) fun t34 => br t34 (Z8j m0 x0 x1 x4 (gcB m0 [x0, x1, x4] B33))
 (mk (callS false EE 41 [(shr x0)] B33 fun a35 B36 =>
 ob (xbin PP .eql 3 a35 (iv 63)) fun a37 =>
 asB (shr a37) fun t38 => br t38 (mk (callS false EE 29 [(shr x0), (iv 20), (shr x1)] B36 fun a39 B40 =>
 Z8j m0 x0 x1 x4 (gcB m0 [x0, x1, x4] B40)))
 (mk (ob (xnilchk (shr x0)) fun a41 =>
 ob (xfld 2 a41) fun a42 =>
 ob (ldN false 1 a42 B36) fun a43 =>
 ob (xbin PP .eql 3 a43 (iv 9)) fun a44 =>
 asB (shr a44) fun t45 => br t45 (mk (callS false EE 29 [(shr x0), (iv 24), (shr x1)] B36 fun a46 B47 =>
 Z8j m0 x0 x1 x4 (gcB m0 [x0, x1, x4] B47)))
 (mk (ob (xnilchk (shr x0)) fun a48 =>
 ob (xfld 2 a48) fun a49 =>
 ob (ldN false 1 a49 B36) fun a50 =>
 ob (xbin PP .add 3 a50 (iv 1)) fun a51 =>
 ob (xnilchk (shr x0)) fun a52 =>
 ob (xfld 2 a52) fun a53 =>
 stN 1 a53 a51 B36 fun B54 =>
 mk (ob (xnilchk (shr x0)) fun a55 =>
 ob (xfld 2 a55) fun a56 =>
 ob (ldN false 1 a56 B54) fun a57 =>
 ob (xbuild PP 27 [(0, (iv 5)), (4, a57)]) fun a58 =>
 stN 7 x4 a58 B54 fun B59 =>
 Z8j m0 x0 x1 x4 (gcB m0 [x0, x1, x4] B59))))))))))))))) := by kernel_rfl
theorem Zfb (m0 : Nat) (x0 x1 x4 : AV) (B : List Row) : Z8j m0 x0 x1 x4 B =
 mk (callS false EE 28 [(shr x0)] B fun a60 B61 =>
 bz PP 27 B61 fun a62 B63 =>
 stN 7 a62 a60 B63 fun B64 =>
 mk (ob (xnilchk (shr x0)) fun a65 =>
 ob (xfld 5 a65) fun a66 =>
 ob (xfld 0 a66) fun a67 =>
 ob (ldN false 1 a67 B64) fun a68 =>
 ob (xbin PP .eql 30 a68 (iv 0)) fun a69 =>
 asB (shr a69) fun t70 => br t70 (callS false EE 27 [(shr x0), (.p (.v (.string (ByteArray.mk #[41]))))] B64 fun a71 B72 =>
 ob (xun PP .not a71) fun a73 =>
 asB (shr a73) fun t74 => br t74 (Zd2 m0 x0 x1 x4 a62 (gcB m0 [x0, x1, x4, a62] B72))
 (Zbf m0 x0 x4 a62 (gcB m0 [x0, x4, a62] B72)))
 (Zbf m0 x0 x4 a62 (gcB m0 [x0, x4, a62] B64)))) := by kernel_rfl
theorem Zfd (m0 : Nat) (x0 x1 x4 x7 : AV) (B : List Row) : Zd2 m0 x0 x1 x4 x7 B =
 mk (callS false EE 29 [(shr x0), (iv 20), (shr x1)] B fun a75 B76 =>
 Zbf m0 x0 x4 x7 (gcB m0 [x0, x4, x7] B76)) := by kernel_rfl
theorem Zf9 (m0 : Nat) (x0 x4 x7 : AV) (B : List Row) : Zbf m0 x0 x4 x7 B =
 mk (ob (xnilchk (shr x0)) fun a77 =>
 ob (xfld 3 a77) fun a78 =>
 ob (ldN false 1 a78 B) fun a79 =>
 ob (xbin PP .sub 3 a79 (iv 1)) fun a80 =>
 ob (xnilchk (shr x0)) fun a81 =>
 ob (xfld 3 a81) fun a82 =>
 stN 1 a82 a80 B fun B83 =>
 mk (ob (xfld 0 x4) fun a84 =>
 ob (ldN false 1 a84 B83) fun a85 =>
 ob (xbin PP .eql 3 a85 (iv 0)) fun a86 =>
 asB a86 fun t87 => br t87 (mk (ob (ldN true 7 x7 B83) fun a88 =>
 stN 7 x4 a88 B83 fun B89 =>
 Zd9 x4 (bv true) B89))
 (Zd4 m0 x4 x7 (gcB m0 [x4, x7] B83)))) := by kernel_rfl
theorem Zft (m0 : Nat) (x4 x7 : AV) (B : List Row) : Zd4 m0 x4 x7 B =
 mk (ob (ldN true 7 x7 B) fun a90 =>
 ob (xlit PP 25 1 [(0, a90)]) fun a91 =>
 ob (xfld 6 x4) fun a92 =>
 stN 1 a92 a91 B fun B93 =>
 mk (ob (ldN true 7 x4 B93) fun a94 =>
 ob (xfld 0 x4) fun a95 =>
 ob (ldN false 1 a95 B93) fun a96 =>
 ob (xbin PP .neq 3 a96 (iv 7)) fun a97 =>
 stN 7 x4 a94 B93 fun B98 =>
 Zd9 x4 (shr a97) B98)) := by kernel_rfl
theorem Zik (x0 x1 : AV) (B : List Row) : EE 51 [x0, x1] B =
 (let m0 := B.length
 mk (bz PP 27 B fun a1 B2 =>
 mk (ob (xnilchk (shr x0)) fun a3 =>
 ob (xfld 3 a3) fun a4 =>
 ob (ldN false 1 a4 B2) fun a5 =>
 ob (xbin PP .eql 3 a5 (iv 32)) fun a6 =>
 asB a6 fun t7 => br t7 (mk (callS false EE 29 [(shr x0), (iv 25), (shr x1)] B2 fun a8 B9 =>
 mk (ob (xbuild PP 27 []) fun a10 =>
 stN 7 a1 a10 B9 fun B11 =>
 Zd9 a1 (bv true) B11)))
 (ZdG m0 x0 x1 a1 (gcB m0 [x0, x1, a1] B2))))) := (E_eq PP XX HH _ _ _).trans (by kernel_rfl)
noncomputable def Z7Y : Code := bodyOf Tryd.f52
def Zf1 (r0 r1 : AV) (B : List Row) : Option Res :=
 ob (ob (some r0) fun v => ob (ob (some r1) fun v => ob (some []) fun vs => some (v :: vs)) fun vs => some (v :: vs)) fun vs => some ((nrmA (match vs with | [v] => v | vs => mkTup (vs.map shr))), B)
noncomputable def Zb1 (m0 : Nat) : Kont := kret PP HH 52 Tryd.f52.results
noncomputable def Zd1 (m0 : Nat) : Kont := kseq HH 52 m0 (l2 (l2 (l2 (l2 Z7Y)))) (exec PP HH 52 m0 EE LL (l2 (l2 (l2 (l2 Z7Y)))) (Zb1 m0)) (Zb1 m0)
noncomputable def Zi0 (m0 : Nat) : Kont := kseq HH 52 m0 (l2 (l1 (l2 (l2 (l1 (l2 (l1 (l2 (l2 (l2 Z7Y)))))))))) (exec PP HH 52 m0 EE LL (l2 (l1 (l2 (l2 (l1 (l2 (l1 (l2 (l2 (l2 Z7Y)))))))))) (Zd1 m0)) (Zd1 m0)
noncomputable def ZhG (m0 : Nat) : Kont := kseq HH 52 m0 (l2 (l2 (l2 (l2 (l2 Z7Y))))) (exec PP HH 52 m0 EE LL (l2 (l2 (l2 (l2 (l2 Z7Y))))) (Zb1 m0)) (Zb1 m0)
noncomputable def ZdP (m0 : Nat) (x0 x1 x4 : AV) (B : List Row) : Option Res := exec PP HH 52 m0 EE LL (l1 (l2 (l2 (l1 (l2 (l1 (l2 (l2 (l2 Z7Y))))))))) (Zd1 m0) [(0, x0), (1, x1), (4, x4)] B
noncomputable def Zbj (m0 : Nat) (x0 x1 x4 x5 : AV) (B : List Row) : Option Res := exec PP HH 52 m0 EE LL (l2 (l2 (l2 (l2 Z7Y)))) (Zb1 m0) [(0, x0), (1, x1), (4, x4), (5, x5)] B
noncomputable def Zea (m0 : Nat) (x4 : AV) (B : List Row) : Option Res := exec PP HH 52 m0 EE LL (l1 (l2 (l1 (l1 (l2 (l2 (l1 (l2 (l1 (l2 (l2 (l2 Z7Y)))))))))))) (Zi0 m0) [(4, x4)] B
noncomputable def ZcB (m0 : Nat) (x0 x1 x4 : AV) (B : List Row) : Option Res := exec PP HH 52 m0 EE LL (l2 (l1 (l2 (l2 (l1 (l2 (l1 (l2 (l2 (l2 Z7Y)))))))))) (Zd1 m0) [(0, x0), (1, x1), (4, x4)] B
noncomputable def Za1 (m0 : Nat) (x0 x1 x4 x5 : AV) (B : List Row) : Option Res := exec PP HH 52 m0 EE LL (l1 (l2 (l1 (l2 (l2 (l2 (l2 Z7Y))))))) (ZhG m0) [(0, x0), (1, x1), (4, x4), (5, x5)] B
noncomputable def Zc9 (m0 : Nat) (x4 x5 : AV) (B : List Row) : Option Res := exec PP HH 52 m0 EE LL (l2 (l2 (l2 (l2 (l2 Z7Y))))) (Zb1 m0) [(4, x4), (5, x5)] B
theorem Zgr (m0 : Nat) (x0 x1 x4 : AV) (B : List Row) : ZdP m0 x0 x1 x4 B =
 mk (callS false EE 27 [(shr x0), (.p (.v (.string (ByteArray.mk #[125]))))] B fun a12 B13 =>
 asB (shr a12) fun t14 => br t14 (ob (xbin PP .leq 3 (shr x4) (iv 64)) fun a15 =>
 asB (shr a15) fun t16 => br t16 (Zea m0 x4 (gcB m0 [x4] B13))
 (ZcB m0 x0 x1 x4 (gcB m0 [x0, x1, x4] B13)))
 (ZcB m0 x0 x1 x4 (gcB m0 [x0, x1, x4] B13))) := by kernel_rfl
theorem Zgj (m0 : Nat) (x0 x1 x4 x5 : AV) (B : List Row) : Zbj m0 x0 x1 x4 x5 B =
 mk (ob (xbin PP .lss 3 (shr x4) (iv 0)) fun a17 =>
 asB (shr a17) fun t18 => br t18 (Za1 m0 x0 x1 x4 x5 (gcB m0 [x0, x1, x4, x5] B))
 (ob (xbin PP .lss 3 (shr x5) (shr x4)) fun a19 =>
 asB (shr (shr a19)) fun t20 => br t20 (Za1 m0 x0 x1 x4 x5 (gcB m0 [x0, x1, x4, x5] B))
 (ob (xbin PP .gtr 3 (shr x5) (iv 64)) fun a21 =>
 asB (shr (shr a21)) fun t22 => br t22 (Za1 m0 x0 x1 x4 x5 (gcB m0 [x0, x1, x4, x5] B))
 (callS false EE 27 [(shr x0), (.p (.v (.string (ByteArray.mk #[125]))))] B fun a23 B24 =>
 ob (xun PP .not a23) fun a25 =>
 asB (shr a25) fun t26 => br t26 (Za1 m0 x0 x1 x4 x5 (gcB m0 [x0, x1, x4, x5] B24))
 (Zc9 m0 x4 x5 (gcB m0 [x4, x5] B24)))))) := by kernel_rfl
theorem ZgN (m0 : Nat) (x4 : AV) (B : List Row) : Zea m0 x4 B =
 mk (Zf1 (shr (shr x4)) (iv (-1)) B) := by kernel_rfl
theorem Zgf (m0 : Nat) (x0 x1 x4 : AV) (B : List Row) : ZcB m0 x0 x1 x4 B =
 mk (Zbj m0 x0 x1 x4 (iv (-2)) (gcB m0 [x0, x1, x4, (iv (-2))] B)) := by kernel_rfl
theorem Zfl (m0 : Nat) (x0 x1 x4 x5 : AV) (B : List Row) : Za1 m0 x0 x1 x4 x5 B =
 mk (callS false EE 29 [(shr x0), (iv 23), (shr x1)] B fun a27 B28 =>
 Zc9 m0 x4 x5 (gcB m0 [x4, x5] B28)) := by kernel_rfl
theorem Zfu (m0 : Nat) (x4 x5 : AV) (B : List Row) : Zc9 m0 x4 x5 B =
 mk (Zf1 (shr (shr x4)) (shr (shr x5)) B) := by kernel_rfl
theorem Zi7 (x0 x1 : AV) (B : List Row) : EE 52 [x0, x1] B =
 (let m0 := B.length
 mk (mk (callS false EE 63 [(shr x0)] B fun a1 B2 =>
 mk (mk (callS false EE 27 [(shr x0), (.p (.v (.string (ByteArray.mk #[44]))))] B2 fun a3 B4 =>
 asB a3 fun t5 => br t5 (mk (callS false EE 63 [(shr x0)] B4 fun a6 B7 =>
 mk (ob (xbin PP .lss 3 (shr (shr a6)) (iv 0)) fun a8 =>
 asB (shr a8) fun t9 => br t9 (ob (xbin PP .geq 3 (shr (shr a1)) (iv 0)) fun a10 =>
 asB (shr a10) fun t11 => br t11 (ZdP m0 x0 x1 (shr a1) (gcB m0 [x0, x1, (shr a1)] B7))
 (Zbj m0 x0 x1 (shr a1) (shr a6) (gcB m0 [x0, x1, (shr a1), (shr a6)] B7)))
 (Zbj m0 x0 x1 (shr a1) (shr a6) (gcB m0 [x0, x1, (shr a1), (shr a6)] B7)))))
 (Zbj m0 x0 x1 (shr a1) (shr (shr (shr a1))) (gcB m0 [x0, x1, (shr a1), (shr (shr (shr a1)))] B4))))))) := (E_eq PP XX HH _ _ _).trans (by kernel_rfl)
noncomputable def Zj1 : Code := bodyOf Tryd.f54
def Zf5 (r0 r1 : AV) (B : List Row) : Option Res :=
 ob (ob (some r0) fun v => ob (ob (some r1) fun v => ob (some []) fun vs => some (v :: vs)) fun vs => some (v :: vs)) fun vs => some ((nrmA (match vs with | [v] => v | vs => mkTup (vs.map shr))), B)
noncomputable def Zit (m0 : Nat) : Kont := kret PP HH 54 Tryd.f54.results
noncomputable def ZeK (m0 : Nat) (x0 : AV) (B : List Row) : Option Res := exec PP HH 54 m0 EE LL (l2 (l2 Zj1)) (Zit m0) [(0, x0)] B
theorem Zgq (m0 : Nat) (x0 : AV) (B : List Row) : ZeK m0 x0 B =
 mk (callS false EE 68 [(shr x0)] B fun a4 B5 =>
 Zf5 (shr a4) (iv 0) B5) := by kernel_rfl
theorem ZhU (x0 : AV) (B : List Row) : EE 54 [x0] B =
 (let m0 := B.length
 mk (mk (callS false EE 65 [(shr x0), (.clo 66 [] [])] B fun a1 B2 =>
 asB a1 fun t3 => br t3 (mk (Zf5 nilA (iv 13) B2))
 (ZeK m0 x0 (gcB m0 [x0] B2))))) := (E_eq PP XX HH _ _ _).trans (by kernel_rfl)
noncomputable def Zj0 : Code := bodyOf Tryd.f55
def Zf3 (r0 r1 : AV) (B : List Row) : Option Res :=
 ob (ob (some r0) fun v => ob (ob (some r1) fun v => ob (some []) fun vs => some (v :: vs)) fun vs => some (v :: vs)) fun vs => some ((nrmA (match vs with | [v] => v | vs => mkTup (vs.map shr))), B)
noncomputable def Zi6 (m0 : Nat) : Kont := kret PP HH 55 Tryd.f55.results
noncomputable def ZeP (m0 : Nat) (x0 : AV) (B : List Row) : Option Res := exec PP HH 55 m0 EE LL (l2 (l2 Zj0)) (Zi6 m0) [(0, x0)] B
theorem ZfU (m0 : Nat) (x0 : AV) (B : List Row) : ZeP m0 x0 B =
 mk (callS false EE 70 [(shr x0)] B fun a5 B6 =>
 Zf3 (shr a5) (iv 0) B6) := by kernel_rfl
theorem ZiB (x0 : AV) (B : List Row) : EE 55 [x0] B =
 (let m0 := B.length
 mk (mk (callS false EE 69 [(shr x0)] B fun a1 B2 =>
 ob (xun PP .not a1) fun a3 =>
 asB a3 fun t4 => br t4 (mk (Zf3 nilA (iv 10) B2))
 (ZeP m0 x0 (gcB m0 [x0] B2))))) := (E_eq PP XX HH _ _ _).trans (by kernel_rfl)
noncomputable def Zj2 : Code := bodyOf Tryd.f56
def Z4V (r0 : AV) (B : List Row) : Option Res :=
 ob (ob (some r0) fun v => ob (some []) fun vs => some (v :: vs)) fun vs => some (((match vs with | [v] => v | vs => mkTup (vs.map shr))), B)
noncomputable def Zip (m0 : Nat) : Kont := kret PP HH 56 Tryd.f56.results
noncomputable def Z6E (m0 : Nat) (B : List Row) : Option Res := exec PP HH 56 m0 EE LL (l2 (l2 Zj2)) (Zip m0) [] B
theorem Zfn (m0 : Nat) (B : List Row) : Z6E m0  B =
 mk (Z4V nilA B) := by kernel_rfl
theorem ZiO (x0 : AV) (B : List Row) : EE 56 [x0] B =
 (let m0 := B.length
 mk (mk (mk (ob (xbin PP .eql 3 (shr x0) (iv 100)) fun a1 =>
 asB (shr a1) fun t2 => br t2 (asB (shr a1) fun t3 => br t3 (mk (ob (xbuild PP 39 [(0, (iv 48)), (1, (iv 57))]) fun a4 =>
 ob (xlit PP 23 1 [(0, a4)]) fun a5 =>
 Z4V a5 B))
 (mk (ob (xbin PP .eql 3 (shr x0) (iv 119)) fun a6 =>
 asB (shr a6) fun t7 => br t7 (asB (shr a6) fun t8 => br t8 (mk (ob (xbuild PP 39 [(0, (iv 48)), (1, (iv 57))]) fun a9 =>
 ob (xbuild PP 39 [(0, (iv 65)), (1, (iv 90))]) fun a10 =>
 callS false EE 48 [(iv 95)] B fun a11 B12 =>
 ob (xbuild PP 39 [(0, (iv 97)), (1, (iv 122))]) fun a13 =>
 ob (xlit PP 23 4 [(0, a9), (1, a10), (2, a11), (3, a13)]) fun a14 =>
 Z4V a14 B12))
 (mk (ob (xbin PP .eql 3 (shr x0) (iv 115)) fun a15 =>
 asB (shr a15) fun t16 => br t16 (asB (shr a15) fun t17 => br t17 (mk (ob (xbuild PP 39 [(0, (iv 9)), (1, (iv 13))]) fun a18 =>
 callS false EE 48 [(iv 32)] B fun a19 B20 =>
 ob (xlit PP 23 2 [(0, a18), (1, a19)]) fun a21 =>
 Z4V a21 B20))
 (Z6E m0  (gcB m0 [] B)))
 (mk (ob (xbin PP .eql 3 (shr x0) (iv 83)) fun a22 =>
 asB (shr a22) fun t23 => br t23 (mk (ob (xbuild PP 39 [(0, (iv 9)), (1, (iv 13))]) fun a24 =>
 callS false EE 48 [(iv 32)] B fun a25 B26 =>
 ob (xlit PP 23 2 [(0, a24), (1, a25)]) fun a27 =>
 Z4V a27 B26))
 (Z6E m0  (gcB m0 [] B)))))))
 (mk (ob (xbin PP .eql 3 (shr x0) (iv 87)) fun a28 =>
 asB (shr a28) fun t29 => br t29 (mk (ob (xbuild PP 39 [(0, (iv 48)), (1, (iv 57))]) fun a30 =>
 ob (xbuild PP 39 [(0, (iv 65)), (1, (iv 90))]) fun a31 =>
 callS false EE 48 [(iv 95)] B fun a32 B33 =>
 ob (xbuild PP 39 [(0, (iv 97)), (1, (iv 122))]) fun a34 =>
 ob (xlit PP 23 4 [(0, a30), (1, a31), (2, a32), (3, a34)]) fun a35 =>
 Z4V a35 B33))
 (mk (ob (xbin PP .eql 3 (shr x0) (iv 115)) fun a36 =>
 asB (shr a36) fun t37 => br t37 (asB (shr a36) fun t38 => br t38 (mk (ob (xbuild PP 39 [(0, (iv 9)), (1, (iv 13))]) fun a39 =>
 callS false EE 48 [(iv 32)] B fun a40 B41 =>
 ob (xlit PP 23 2 [(0, a39), (1, a40)]) fun a42 =>
 Z4V a42 B41))
 (Z6E m0  (gcB m0 [] B)))
 (mk (ob (xbin PP .eql 3 (shr x0) (iv 83)) fun a43 =>
 asB (shr a43) fun t44 => br t44 (mk (ob (xbuild PP 39 [(0, (iv 9)), (1, (iv 13))]) fun a45 =>
 callS false EE 48 [(iv 32)] B fun a46 B47 =>
 ob (xlit PP 23 2 [(0, a45), (1, a46)]) fun a48 =>
 Z4V a48 B47))
 (Z6E m0  (gcB m0 [] B)))))))))))
 (mk (ob (xbin PP .eql 3 (shr x0) (iv 68)) fun a49 =>
 asB (shr a49) fun t50 => br t50 (mk (ob (xbuild PP 39 [(0, (iv 48)), (1, (iv 57))]) fun a51 =>
 ob (xlit PP 23 1 [(0, a51)]) fun a52 =>
 Z4V a52 B))
 (mk (ob (xbin PP .eql 3 (shr x0) (iv 119)) fun a53 =>
 asB (shr a53) fun t54 => br t54 (asB (shr a53) fun t55 => br t55 (mk (ob (xbuild PP 39 [(0, (iv 48)), (1, (iv 57))]) fun a56 =>
 ob (xbuild PP 39 [(0, (iv 65)), (1, (iv 90))]) fun a57 =>
 callS false EE 48 [(iv 95)] B fun a58 B59 =>
 ob (xbuild PP 39 [(0, (iv 97)), (1, (iv 122))]) fun a60 =>
 ob (xlit PP 23 4 [(0, a56), (1, a57), (2, a58), (3, a60)]) fun a61 =>
 Z4V a61 B59))
 (mk (ob (xbin PP .eql 3 (shr x0) (iv 115)) fun a62 =>
 asB (shr a62) fun t63 => br t63 (asB (shr a62) fun t64 => br t64 (mk (ob (xbuild PP 39 [(0, (iv 9)), (1, (iv 13))]) fun a65 =>
 callS false EE 48 [(iv 32)] B fun a66 B67 =>
 ob (xlit PP 23 2 [(0, a65), (1, a66)]) fun a68 =>
 Z4V a68 B67))
 (Z6E m0  (gcB m0 [] B)))
 (mk (ob (xbin PP .eql 3 (shr x0) (iv 83)) fun a69 =>
 asB (shr a69) fun t70 => br t70 (mk (ob (xbuild PP 39 [(0, (iv 9)), (1, (iv 13))]) fun a71 =>
 callS false EE 48 [(iv 32)] B fun a72 B73 =>
 ob (xlit PP 23 2 [(0, a71), (1, a72)]) fun a74 =>
 Z4V a74 B73))
 (Z6E m0  (gcB m0 [] B)))))))
 (mk (ob (xbin PP .eql 3 (shr x0) (iv 87)) fun a75 =>
 asB (shr a75) fun t76 => br t76 (mk (ob (xbuild PP 39 [(0, (iv 48)), (1, (iv 57))]) fun a77 =>
 ob (xbuild PP 39 [(0, (iv 65)), (1, (iv 90))]) fun a78 =>
 callS false EE 48 [(iv 95)] B fun a79 B80 =>
 ob (xbuild PP 39 [(0, (iv 97)), (1, (iv 122))]) fun a81 =>
 ob (xlit PP 23 4 [(0, a77), (1, a78), (2, a79), (3, a81)]) fun a82 =>
 Z4V a82 B80))
 (mk (ob (xbin PP .eql 3 (shr x0) (iv 115)) fun a83 =>
 asB (shr a83) fun t84 => br t84 (asB (shr a83) fun t85 => br t85 (mk (ob (xbuild PP 39 [(0, (iv 9)), (1, (iv 13))]) fun a86 =>
 callS false EE 48 [(iv 32)] B fun a87 B88 =>
 ob (xlit PP 23 2 [(0, a86), (1, a87)]) fun a89 =>
 Z4V a89 B88))
 (Z6E m0  (gcB m0 [] B)))
 (mk (ob (xbin PP .eql 3 (shr x0) (iv 83)) fun a90 =>
 asB (shr a90) fun t91 => br t91 (mk (ob (xbuild PP 39 [(0, (iv 9)), (1, (iv 13))]) fun a92 =>
 callS false EE 48 [(iv 32)] B fun a93 B94 =>
 ob (xlit PP 23 2 [(0, a92), (1, a93)]) fun a95 =>
 Z4V a95 B94))
 (Z6E m0  (gcB m0 [] B)))))))))))))))) := (E_eq PP XX HH _ _ _).trans (by kernel_rfl)
noncomputable def ZdB : Code := bodyOf Tryd.f57
def Za0 (r0 : AV) (B : List Row) : Option Res :=
 ob (ob (some r0) fun v => ob (some []) fun vs => some (v :: vs)) fun vs => some ((nrmA (match vs with | [v] => v | vs => mkTup (vs.map shr))), B)
noncomputable def ZeN (m0 : Nat) : Kont := kret PP HH 57 Tryd.f57.results
noncomputable def ZiE (m0 : Nat) : Kont := kseq HH 57 m0 (l2 (l2 ZdB)) (exec PP HH 57 m0 EE LL (l2 (l2 ZdB)) (ZeN m0)) (ZeN m0)
noncomputable def Zi3 (m0 : Nat) : Kont := kblk 0 (ZiE m0)
noncomputable def Z8Y (m0 : Nat) (x0 x2 : AV) (B : List Row) : Option Res := exec PP HH 57 m0 EE LL (l2 (l2 ZdB)) (ZeN m0) [(0, x0), (2, x2)] B
noncomputable def Zdf (m0 : Nat) (x1 : AV) (B : List Row) : Option Res := exec PP HH 57 m0 EE LL (l1 (l2 (l2 (l2 (l2 (l2 (l2 (l2 (l2 (l2 (l1 (l1 (l2 ZdB))))))))))))) (Zi3 m0) [(1, x1)] B
theorem ZfF (m0 : Nat) (x0 x2 : AV) (B : List Row) : Z8Y m0 x0 x2 B =
 mk (callS false EE 29 [(shr x0), (iv 21), (shr x2)] B fun a39 B40 =>
 mk (Za0 (iv 0) B40)) := by kernel_rfl
theorem ZfD (m0 : Nat) (x1 : AV) (B : List Row) : Zdf m0 x1 B =
 mk (Za0 (shr (shr x1)) B) := by kernel_rfl
theorem Zih (x0 x1 x2 : AV) (B : List Row) : EE 57 [x0, x1, x2] B =
 (let m0 := B.length
 mk (mk (ob (xbin PP .eql 3 (shr x1) (iv 110)) fun a1 =>
 asB (shr a1) fun t2 => br t2 (mk (Za0 (iv 10) B))
 (mk (ob (xbin PP .eql 3 (shr x1) (iv 116)) fun a3 =>
 asB (shr a3) fun t4 => br t4 (mk (Za0 (iv 9) B))
 (mk (ob (xbin PP .eql 3 (shr x1) (iv 114)) fun a5 =>
 asB (shr a5) fun t6 => br t6 (mk (Za0 (iv 13) B))
 (mk (ob (xbin PP .eql 3 (shr x1) (iv 120)) fun a7 =>
 asB (shr a7) fun t8 => br t8 (mk (callS false EE 41 [(shr x0)] B fun a9 B10 =>
 callS false EE 71 [a9] B10 fun a11 B12 =>
 mk (ob (xbin PP .geq 3 (shr (shr a11)) (iv 0)) fun a13 =>
 asB a13 fun t14 => br t14 (mk (callS false EE 46 [(shr x0)] B12 fun a15 B16 =>
 mk (callS false EE 41 [(shr x0)] B16 fun a17 B18 =>
 callS false EE 71 [a17] B18 fun a19 B20 =>
 mk (ob (xbin PP .geq 3 (shr (shr a19)) (iv 0)) fun a21 =>
 asB a21 fun t22 => br t22 (mk (callS false EE 46 [(shr x0)] B20 fun a23 B24 =>
 mk (ob (xbin PP .mul 3 (iv 16) (shr (shr a11))) fun a25 =>
 ob (xbin PP .add 3 a25 (shr (shr a19))) fun a26 =>
 Za0 (shr a26) B24)))
 (Z8Y m0 x0 x2 (gcB m0 [x0, x2] B20))))))
 (Z8Y m0 x0 x2 (gcB m0 [x0, x2] B12)))))
 (mk (ob (xbin PP .gtr 3 (shr x1) (iv 32)) fun a27 =>
 asB (shr a27) fun t28 => br t28 (ob (xbin PP .lss 3 (shr x1) (iv 127)) fun a29 =>
 asB (shr (shr a29)) fun t30 => br t30 (ob (xbuild PP 39 [(0, (iv 48)), (1, (iv 57))]) fun a31 =>
 ob (xbuild PP 39 [(0, (iv 65)), (1, (iv 90))]) fun a32 =>
 ob (xbuild PP 39 [(0, (iv 97)), (1, (iv 122))]) fun a33 =>
 ob (xlit PP 24 3 [(0, a31), (1, a32), (2, a33)]) fun a34 =>
 callS false EE 19 [a34, (shr x1)] B fun a35 B36 =>
 ob (xun PP .not a35) fun a37 =>
 asB (shr (shr a37)) fun t38 => br t38 (Zdf m0 x1 (gcB m0 [x1] B36))
 (Z8Y m0 x0 x2 (gcB m0 [x0, x2] B36)))
 (Z8Y m0 x0 x2 (gcB m0 [x0, x2] B)))
 (Z8Y m0 x0 x2 (gcB m0 [x0, x2] B))))))))))))) := (E_eq PP XX HH _ _ _).trans (by kernel_rfl)
noncomputable def Zji : Code := bodyOf Tryd.f58
def Zhn (B : List Row) : Option Res :=
 ob (some []) fun vs => some ((nrmA (match vs with | [v] => v | vs => mkTup (vs.map shr))), B)
theorem ZiX (x0 x1 : AV) (B : List Row) : EE 58 [x0, x1] B =
 (let m0 := B.length
 mk (ob (ldN false 1 x1 B) fun a1 =>
 callS false EE 59 [a1, (shr x0)] B fun a2 B3 =>
 ob (xext 0 (shr a2)) fun a4 =>
 ob (xext 1 (shr a2)) fun a5 =>
 stN 1 x1 (shr a4) B3 fun B6 =>
 Zhn  B6)) := (E_eq PP XX HH _ _ _).trans (by kernel_rfl)
noncomputable def Zdz : Code := bodyOf Tryd.f59
def ZeY (r0 r1 : AV) (B : List Row) : Option Res :=
 ob (ob (some r0) fun v => ob (ob (some r1) fun v => ob (some []) fun vs => some (v :: vs)) fun vs => some (v :: vs)) fun vs => some ((nrmA (match vs with | [v] => v | vs => mkTup (vs.map shr))), B)
noncomputable def ZdF (m0 : Nat) : Kont := kret PP HH 59 Tryd.f59.results
noncomputable def Zio (m0 : Nat) : Kont := kseq HH 59 m0 (l2 (l2 Zdz)) (exec PP HH 59 m0 EE LL (l2 (l2 Zdz)) (ZdF m0)) (ZdF m0)
noncomputable def ZcT (m0 : Nat) (B : List Row) : Option Res := exec PP HH 59 m0 EE LL (l1 (l2 (l1 (l2 Zdz)))) (Zio m0) [] B
noncomputable def ZeE (m0 : Nat) (x0 x1 : AV) (B : List Row) : Option Res := exec PP HH 59 m0 EE LL (l2 (l2 Zdz)) (ZdF m0) [(0, x0), (1, x1)] B
theorem Zgl (m0 : Nat) (B : List Row) : ZcT m0  B =
 mk (ZeY nilA (iv 10) B) := by kernel_rfl
theorem ZgT (m0 : Nat) (x0 x1 : AV) (B : List Row) : ZeE m0 x0 x1 B =
 mk (ob (xlit PP 109 2 [(0, (shr x0)), (1, (shr x1))]) fun a9 =>
 callS false EE 72 [a9] B fun a10 B11 =>
 callS false EE 68 [a10] B11 fun a12 B13 =>
 ZeY (shr a12) (iv 0) B13) := by kernel_rfl
theorem ZiT (x0 x1 : AV) (B : List Row) : EE 59 [x0, x1] B =
 (let m0 := B.length
 mk (mk (callS false EE 69 [(shr x0)] B fun a1 B2 =>
 ob (xun PP .not a1) fun a3 =>
 asB (shr a3) fun t4 => br t4 (ZcT m0  (gcB m0 [] B2))
 (callS false EE 69 [(shr x1)] B2 fun a5 B6 =>
 ob (xun PP .not a5) fun a7 =>
 asB (shr a7) fun t8 => br t8 (ZcT m0  (gcB m0 [] B6))
 (ZeE m0 x0 x1 (gcB m0 [x0, x1] B6)))))) := (E_eq PP XX HH _ _ _).trans (by kernel_rfl)
noncomputable def Zfr : Code := bodyOf Tryd.f60
def Zce (r0 r1 r2 : AV) (B : List Row) : Option Res :=
 ob (ob (some r0) fun v => ob (ob (some r1) fun v => ob (ob (some r2) fun v => ob (some []) fun vs => some (v :: vs)) fun vs => some (v :: vs)) fun vs => some (v :: vs)) fun vs => some (((match vs with | [v] => v | vs => mkTup (vs.map shr))), B)
noncomputable def Zef (m0 : Nat) : Kont := kret PP HH 60 Tryd.f60.results
noncomputable def ZdU (m0 : Nat) (x0 x5 : AV) (B : List Row) : Option Res := exec PP HH 60 m0 EE LL (l2 (l2 (l2 Zfr))) (Zef m0) [(0, x0), (5, x5)] B
noncomputable def Zei (m0 : Nat) (x0 x2 x5 : AV) (B : List Row) : Option Res := exec PP HH 60 m0 EE LL (l2 (l2 (l2 (l2 Zfr)))) (Zef m0) [(0, x0), (2, x2), (5, x5)] B
noncomputable def Zd7 (m0 : Nat) (x0 x2 x5 : AV) (B : List Row) : Option Res := exec PP HH 60 m0 EE LL (l2 (l2 (l2 (l2 (l2 (l2 Zfr)))))) (Zef m0) [(0, x0), (2, x2), (5, x5)] B
theorem ZgJ (m0 : Nat) (x0 x5 : AV) (B : List Row) : ZdU m0 x0 x5 B =
 mk (callS false EE 41 [(shr x0)] B fun a8 B9 =>
 mk (ob (xbin PP .lss 3 (shr (shr a8)) (iv 0)) fun a10 =>
 asB a10 fun t11 => br t11 (mk (callS false EE 29 [(shr x0), (iv 21), (shr x5)] B9 fun a12 B13 =>
 mk (Zce (iv 0) nilA (bv false) B13)))
 (Zei m0 x0 (shr a8) x5 (gcB m0 [x0, (shr a8), x5] B9)))) := by kernel_rfl
theorem ZgQ (m0 : Nat) (x0 x2 x5 : AV) (B : List Row) : Zei m0 x0 x2 x5 B =
 mk (callS false EE 46 [(shr x0)] B fun a14 B15 =>
 mk (callS true EE 56 [(shr x2)] B15 fun a16 B17 =>
 mk (ob (xnil PP .neq 23 (.slice none 0 0) (shr a16)) fun a18 =>
 asB a18 fun t19 => br t19 (mk (ob (xbin PP .lss 3 (shr x2) (iv 97)) fun a20 =>
 Zce (iv 0) a16 (shr a20) B17))
 (Zd7 m0 x0 x2 x5 (gcB m0 [x0, x2, x5] B17))))) := by kernel_rfl
theorem Zfv (m0 : Nat) (x0 x2 x5 : AV) (B : List Row) : Zd7 m0 x0 x2 x5 B =
 mk (callS false EE 57 [(shr x0), (shr x2), (shr x5)] B fun a21 B22 =>
 Zce (shr a21) nilA (bv false) B22) := by kernel_rfl
theorem ZhP (x0 : AV) (B : List Row) : EE 60 [x0] B =
 (let m0 := B.length
 mk (mk (ob (xnilchk (shr x0)) fun a1 =>
 ob (xfld 1 a1) fun a2 =>
 ob (ldN false 1 a2 B) fun a3 =>
 mk (callS false EE 46 [(shr x0)] B fun a4 B5 =>
 mk (ob (xbin PP .neq 3 (shr (shr a4)) (iv 92)) fun a6 =>
 asB a6 fun t7 => br t7 (mk (Zce (shr (shr (shr a4))) nilA (bv false) B5))
 (ZdU m0 x0 (shr a3) (gcB m0 [x0, (shr a3)] B5))))))) := (E_eq PP XX HH _ _ _).trans (by kernel_rfl)
noncomputable def Zaz : Code := bodyOf Tryd.f61
def Zf2 (r0 : AV) (B : List Row) : Option Res :=
 ob (ob (some r0) fun v => ob (some []) fun vs => some (v :: vs)) fun vs => some ((nrmA (match vs with | [v] => v | vs => mkTup (vs.map shr))), B)
noncomputable def ZdQ (m0 : Nat) : Kont := kret PP HH 61 Tryd.f61.results
noncomputable def ZhD (m0 : Nat) : Kont := kseq HH 61 m0 (l2 (l2 Zaz)) (exec PP HH 61 m0 EE LL (l2 (l2 Zaz)) (ZdQ m0)) (ZdQ m0)
noncomputable def ZdM (m0 : Nat) : Kont := kblk 0 (ZhD m0)
noncomputable def ZgO (m0 : Nat) : Kont := kloop HH 61 m0 (l1 (l1 (l2 (l1 (l2 Zaz))))) (LL 61 m0 (l1 (l1 (l2 (l1 (l2 Zaz))))) (ZdM m0)) (ZdM m0)
noncomputable def Zbp (m0 : Nat) (x0 x1 x7 x8 : AV) (B : List Row) : Option Res := lp (LL 61 m0 (l1 (l1 (l2 (l1 (l2 Zaz))))) (ZdM m0) [(0, x0), (1, x1), (7, x7), (8, x8)] B)
noncomputable def ZdN (m0 : Nat) (x0 x1 x7 x8 : AV) (B : List Row) : Option Res := exec PP HH 61 m0 EE LL (l2 (l2 (l1 (l1 (l2 (l1 (l2 Zaz))))))) (ZgO m0) [(0, x0), (1, x1), (7, x7), (8, x8)] B
noncomputable def ZeR (m0 : Nat) (B : List Row) : Option Res := exec PP HH 61 m0 EE LL (l2 (l2 Zaz)) (ZdQ m0) [] B
noncomputable def Zem (m0 : Nat) (x0 x1 x7 x8 : AV) (B : List Row) : Option Res := exec PP HH 61 m0 EE LL (l2 (l2 (l2 (l1 (l1 (l2 (l1 (l2 Zaz)))))))) (ZgO m0) [(0, x0), (1, x1), (7, x7), (8, x8)] B
theorem Zhc (m0 : Nat) (x0 x1 x7 x8 : AV) (B : List Row) : Zbp m0 x0 x1 x7 x8 B =
 mk (ob (xbin PP .lss 3 x8 x7) fun a2 =>
 asB a2 fun t3 => br t3 (ZdN m0 x0 x1 x7 x8 (gcB m0 [x0, x1, x7, x8] B))
 (ZeR m0  (gcB m0 [] B))) := (L_eq PP XX HH _ _ _ _ _ _).trans (by kernel_rfl)
theorem Zgw (m0 : Nat) (x0 x1 x7 x8 : AV) (B : List Row) : ZdN m0 x0 x1 x7 x8 B =
 mk (mk (ob (xidx 1 (shr x0) (shr (shr (shr x8)))) fun a4 =>
 ob (ldN false 1 a4 B) fun a5 =>
 callV HH EE (shr x1) [a5] B fun a6 B7 =>
 asB a6 fun t8 => br t8 (mk (Zf2 (shr (shr (shr (shr x8)))) B7))
 (Zem m0 x0 x1 x7 x8 (gcB m0 [x0, x1, x7, x8] B7)))) := by kernel_rfl
theorem Zgh (m0 : Nat) (B : List Row) : ZeR m0  B =
 mk (Zf2 (iv (-1)) B) := by kernel_rfl
theorem Zgp (m0 : Nat) (x0 x1 x7 x8 : AV) (B : List Row) : Zem m0 x0 x1 x7 x8 B =
 mk (ob (xbin PP .add 3 x8 (iv 1)) fun a9 =>
 Zbp m0 x0 x1 x7 (shr a9) (gcB m0 [x0, x1, x7, (shr a9)] B)) := by kernel_rfl
theorem Zic (x0 x1 : AV) (B : List Row) : EE 61 [x0, x1] B =
 (let m0 := B.length
 mk (mk (ob (xlen PP 43 (shr x0)) fun a1 =>
 Zbp m0 x0 x1 a1 (iv 0) (gcB m0 [x0, x1, a1, (iv 0)] B)))) := (E_eq PP XX HH _ _ _).trans (by kernel_rfl)
noncomputable def Zjc : Code := bodyOf Tryd.f62
def Zhv (r0 : AV) (B : List Row) : Option Res :=
 ob (ob (some r0) fun v => ob (some []) fun vs => some (v :: vs)) fun vs => some ((nrmA (match vs with | [v] => v | vs => mkTup (vs.map shr))), B)
theorem ZiU (B : List Row) : EE 62 [] B =
 (let m0 := B.length
 mk (mk (ob (xlit PP 43 4 [(0, (.p (.v (.string (ByteArray.mk #[63, 61]))))), (1, (.p (.v (.string (ByteArray.mk #[63, 33]))))), (2, (.p (.v (.string (ByteArray.mk #[63, 60, 61]))))), (3, (.p (.v (.string (ByteArray.mk #[63, 60, 33])))))]) fun a1 =>
 Zhv (shr a1) B))) := (E_eq PP XX HH _ _ _).trans (by kernel_rfl)
noncomputable def ZbA : Code := bodyOf Tryd.f63
def Zhx (r0 : AV) (B : List Row) : Option Res :=
 ob (ob (some r0) fun v => ob (some []) fun vs => some (v :: vs)) fun vs => some ((nrmA (match vs with | [v] => v | vs => mkTup (vs.map shr))), B)
noncomputable def Ze6 (m0 : Nat) : Kont := kret PP HH 63 Tryd.f63.results
noncomputable def ZiN (m0 : Nat) : Kont := kseq HH 63 m0 (l2 (l2 (l2 ZbA))) (exec PP HH 63 m0 EE LL (l2 (l2 (l2 ZbA))) (Ze6 m0)) (Ze6 m0)
noncomputable def ZeC (m0 : Nat) : Kont := kblk 0 (ZiN m0)
noncomputable def ZiH (m0 : Nat) : Kont := kloop HH 63 m0 (l1 (l1 (l2 (l1 (l2 (l2 ZbA)))))) (LL 63 m0 (l1 (l1 (l2 (l1 (l2 (l2 ZbA)))))) (ZeC m0)) (ZeC m0)
noncomputable def Zbq (m0 : Nat) (x0 x3 x4 : AV) (B : List Row) : Option Res := lp (LL 63 m0 (l1 (l1 (l2 (l1 (l2 (l2 ZbA)))))) (ZeC m0) [(0, x0), (3, x3), (4, x4)] B)
noncomputable def ZdX (m0 : Nat) (x0 x3 x4 : AV) (B : List Row) : Option Res := exec PP HH 63 m0 EE LL (l2 (l1 (l1 (l2 (l1 (l2 (l2 ZbA))))))) (ZiH m0) [(0, x0), (3, x3), (4, x4)] B
noncomputable def ZbV (m0 : Nat) (x3 : AV) (B : List Row) : Option Res := exec PP HH 63 m0 EE LL (l2 (l2 (l2 ZbA))) (Ze6 m0) [(3, x3)] B
theorem ZgK (m0 : Nat) (x0 x3 x4 : AV) (B : List Row) : Zbq m0 x0 x3 x4 B =
 mk (ob (xbin PP .lss 3 (shr x4) (iv 2)) fun a1 =>
 asB (shr a1) fun t2 => br t2 (callS false EE 41 [(shr x0)] B fun a3 B4 =>
 ob (xbin PP .geq 3 a3 (iv 48)) fun a5 =>
 asB (shr (shr a5)) fun t6 => br t6 (callS false EE 41 [(shr x0)] B4 fun a7 B8 =>
 ob (xbin PP .leq 3 a7 (iv 57)) fun a9 =>
 asB (shr a9) fun t10 => br t10 (ZdX m0 x0 x3 x4 (gcB m0 [x0, x3, x4] B8))
 (ZbV m0 x3 (gcB m0 [x3] B8)))
 (ZbV m0 x3 (gcB m0 [x3] B4)))
 (ZbV m0 x3 (gcB m0 [x3] B))) := (L_eq PP XX HH _ _ _ _ _ _).trans (by kernel_rfl)
theorem ZgW (m0 : Nat) (x0 x3 x4 : AV) (B : List Row) : ZdX m0 x0 x3 x4 B =
 mk (ob (xminmax PP true [(shr x3), (iv 0)]) fun a11 =>
 ob (xbin PP .mul 3 (iv 10) a11) fun a12 =>
 callS false EE 46 [(shr x0)] B fun a13 B14 =>
 ob (xbin PP .add 3 a12 a13) fun a15 =>
 ob (xbin PP .sub 3 a15 (iv 48)) fun a16 =>
 mk (ob (xbin PP .add 3 (shr x4) (iv 1)) fun a17 =>
 Zbq m0 x0 (shr a16) (shr a17) (gcB m0 [x0, (shr a16), (shr a17)] B14))) := by kernel_rfl
theorem Zhe (m0 : Nat) (x3 : AV) (B : List Row) : ZbV m0 x3 B =
 mk (Zhx (shr (shr x3)) B) := by kernel_rfl
theorem ZhX (x0 : AV) (B : List Row) : EE 63 [x0] B =
 (let m0 := B.length
 mk (mk (mk (Zbq m0 x0 (iv (-1)) (iv 0) (gcB m0 [x0, (iv (-1)), (iv 0)] B))))) := (E_eq PP XX HH _ _ _).trans (by kernel_rfl)
noncomputable def Zjj : Code := bodyOf Tryd.f65
def Zho (r0 : AV) (B : List Row) : Option Res :=
 ob (ob (some r0) fun v => ob (some []) fun vs => some (v :: vs)) fun vs => some ((nrmA (match vs with | [v] => v | vs => mkTup (vs.map shr))), B)
theorem ZiJ (x0 x1 : AV) (B : List Row) : EE 65 [x0, x1] B =
 (let m0 := B.length
 mk (mk (callS false EE 73 [(shr x0), (shr x1)] B fun a1 B2 =>
 ob (xbin PP .geq 3 a1 (iv 0)) fun a3 =>
 Zho (shr a3) B2))) := (E_eq PP XX HH _ _ _).trans (by kernel_rfl)
noncomputable def Zjd : Code := bodyOf Tryd.f66
def Zhp (r0 : AV) (B : List Row) : Option Res :=
 ob (ob (some r0) fun v => ob (some []) fun vs => some (v :: vs)) fun vs => some ((nrmA (match vs with | [v] => v | vs => mkTup (vs.map shr))), B)
theorem ZhL (x0 : AV) (B : List Row) : EE 66 [x0] B =
 (let m0 := B.length
 mk (bx x0 B fun a1 B2 =>
 mk (ob (ldN true 2 a1 B2) fun a3 =>
 callS false EE 67 [a3] B2 fun a4 B5 =>
 ob (xun PP .not a4) fun a6 =>
 Zhp (shr a6) B5))) := (E_eq PP XX HH _ _ _).trans (by kernel_rfl)
noncomputable def Zjg : Code := bodyOf Tryd.f67
def Zdi (r0 : AV) (B : List Row) : Option Res :=
 ob (ob (some r0) fun v => ob (some []) fun vs => some (v :: vs)) fun vs => some ((nrmA (match vs with | [v] => v | vs => mkTup (vs.map shr))), B)
theorem ZhM (x0 : AV) (B : List Row) : EE 67 [x0] B =
 (let m0 := B.length
 mk (bx x0 B fun a1 B2 =>
 mk (ob (xfld 0 a1) fun a3 =>
 ob (ldN false 1 a3 B2) fun a4 =>
 ob (xbin PP .geq 3 a4 (iv 0)) fun a5 =>
 asB (shr a5) fun t6 => br t6 (ob (xfld 0 a1) fun a7 =>
 ob (ldN false 1 a7 B2) fun a8 =>
 ob (xfld 1 a1) fun a9 =>
 ob (ldN false 1 a9 B2) fun a10 =>
 ob (xbin PP .leq 3 a8 a10) fun a11 =>
 asB (shr (shr a11)) fun t12 => br t12 (ob (xfld 1 a1) fun a13 =>
 ob (ldN false 1 a13 B2) fun a14 =>
 ob (xbin PP .leq 3 a14 (iv 1114367)) fun a15 =>
 Zdi (shr (shr a15)) B2)
 (Zdi (bv false) B2))
 (Zdi (bv false) B2)))) := (E_eq PP XX HH _ _ _).trans (by kernel_rfl)
noncomputable def Z6K : Code := bodyOf Tryd.f69
def ZeZ (r0 : AV) (B : List Row) : Option Res :=
 ob (ob (some r0) fun v => ob (some []) fun vs => some (v :: vs)) fun vs => some ((nrmA (match vs with | [v] => v | vs => mkTup (vs.map shr))), B)
noncomputable def ZdT (m0 : Nat) : Kont := kret PP HH 69 Tryd.f69.results
noncomputable def Zia (m0 : Nat) : Kont := kseq HH 69 m0 (l2 (l2 (l2 Z6K))) (exec PP HH 69 m0 EE LL (l2 (l2 (l2 Z6K))) (ZdT m0)) (ZdT m0)
noncomputable def Zeg (m0 : Nat) : Kont := kblk 0 (Zia m0)
noncomputable def ZcO (m0 : Nat) : Kont := kloop HH 69 m0 (l1 (l1 (l2 (l1 (l2 (l2 Z6K)))))) (LL 69 m0 (l1 (l1 (l2 (l1 (l2 (l2 Z6K)))))) (Zeg m0)) (Zeg m0)
noncomputable def Zi2 (m0 : Nat) : Kont := kseq HH 69 m0 (l2 (l2 (l2 (l1 (l1 (l2 (l1 (l2 (l2 Z6K))))))))) (exec PP HH 69 m0 EE LL (l2 (l2 (l2 (l1 (l1 (l2 (l1 (l2 (l2 Z6K))))))))) (ZcO m0)) (ZcO m0)
noncomputable def ZdS (m0 : Nat) : Kont := kblk 1 (Zi2 m0)
noncomputable def ZhZ (m0 : Nat) : Kont := kseq HH 69 m0 (l2 (l2 (l1 (l1 (l2 (l2 (l1 (l1 (l2 (l1 (l2 (l2 Z6K)))))))))))) (exec PP HH 69 m0 EE LL (l2 (l2 (l1 (l1 (l2 (l2 (l1 (l1 (l2 (l1 (l2 (l2 Z6K)))))))))))) (ZdS m0)) (ZdS m0)
noncomputable def Zbk (m0 : Nat) (x3 x6 x7 x8 : AV) (B : List Row) : Option Res := lp (LL 69 m0 (l1 (l1 (l2 (l1 (l2 (l2 Z6K)))))) (Zeg m0) [(3, x3), (6, x6), (7, x7), (8, x8)] B)
noncomputable def ZeO (m0 : Nat) (x3 x6 x7 x8 : AV) (B : List Row) : Option Res := exec PP HH 69 m0 EE LL (l2 (l2 (l1 (l1 (l2 (l1 (l2 (l2 Z6K)))))))) (ZcO m0) [(3, x3), (6, x6), (7, x7), (8, x8)] B
noncomputable def Zee (m0 : Nat) (B : List Row) : Option Res := exec PP HH 69 m0 EE LL (l2 (l2 (l2 Z6K))) (ZdT m0) [] B
noncomputable def ZcG (m0 : Nat) (B : List Row) : Option Res := exec PP HH 69 m0 EE LL (l1 (l2 (l1 (l2 (l1 (l1 (l2 (l2 (l1 (l1 (l2 (l1 (l2 (l2 Z6K)))))))))))))) (ZhZ m0) [] B
noncomputable def Zeu (m0 : Nat) (x5 x6 x7 x8 : AV) (B : List Row) : Option Res := exec PP HH 69 m0 EE LL (l2 (l2 (l1 (l1 (l2 (l2 (l1 (l1 (l2 (l1 (l2 (l2 Z6K)))))))))))) (ZdS m0) [(5, x5), (6, x6), (7, x7), (8, x8)] B
noncomputable def ZdK (m0 : Nat) (x3 x6 x7 x8 : AV) (B : List Row) : Option Res := exec PP HH 69 m0 EE LL (l2 (l2 (l2 (l1 (l1 (l2 (l1 (l2 (l2 Z6K))))))))) (ZcO m0) [(3, x3), (6, x6), (7, x7), (8, x8)] B
theorem Zga (m0 : Nat) (x3 x6 x7 x8 : AV) (B : List Row) : Zbk m0 x3 x6 x7 x8 B =
 mk (ob (xbin PP .lss 3 x8 x7) fun a2 =>
 asB a2 fun t3 => br t3 (ZeO m0 x3 x6 x7 x8 (gcB m0 [x3, x6, x7, x8] B))
 (Zee m0  (gcB m0 [] B))) := (L_eq PP XX HH _ _ _ _ _ _).trans (by kernel_rfl)
theorem Zg8 (m0 : Nat) (x3 x6 x7 x8 : AV) (B : List Row) : ZeO m0 x3 x6 x7 x8 B =
 mk (ob (xidx 2 x6 x8) fun a4 =>
 ob (ldN true 2 a4 B) fun a5 =>
 bz PP 39 B fun a6 B7 =>
 stN 2 a6 a5 B7 fun B8 =>
 mk (ob (ldN true 2 a6 B8) fun a9 =>
 callS false EE 67 [a9] B8 fun a10 B11 =>
 ob (xun PP .not a10) fun a12 =>
 asB (shr a12) fun t13 => br t13 (ZcG m0  (gcB m0 [] B11))
 (ob (xfld 0 a6) fun a14 =>
 ob (ldN false 1 a14 B11) fun a15 =>
 ob (xbin PP .add 3 (shr x3) (iv 2)) fun a16 =>
 ob (xbin PP .lss 3 a15 a16) fun a17 =>
 asB (shr a17) fun t18 => br t18 (ZcG m0  (gcB m0 [] B11))
 (Zeu m0 a6 x6 x7 x8 (gcB m0 [a6, x6, x7, x8] B11))))) := by kernel_rfl
theorem ZfQ (m0 : Nat) (B : List Row) : Zee m0  B =
 mk (ZeZ (bv true) B) := by kernel_rfl
theorem Zgy (m0 : Nat) (B : List Row) : ZcG m0  B =
 mk (ZeZ (bv false) B) := by kernel_rfl
theorem Zh3 (m0 : Nat) (x5 x6 x7 x8 : AV) (B : List Row) : Zeu m0 x5 x6 x7 x8 B =
 mk (ob (xfld 1 x5) fun a19 =>
 ob (ldN false 1 a19 B) fun a20 =>
 ZdK m0 (shr a20) x6 x7 x8 (gcB m0 [(shr a20), x6, x7, x8] B)) := by kernel_rfl
theorem ZfJ (m0 : Nat) (x3 x6 x7 x8 : AV) (B : List Row) : ZdK m0 x3 x6 x7 x8 B =
 mk (ob (xbin PP .add 3 x8 (iv 1)) fun a21 =>
 Zbk m0 x3 x6 x7 (shr a21) (gcB m0 [x3, x6, x7, (shr a21)] B)) := by kernel_rfl
theorem Ziw (x0 : AV) (B : List Row) : EE 69 [x0] B =
 (let m0 := B.length
 mk (mk (mk (ob (xlen PP 24 (shr x0)) fun a1 =>
 Zbk m0 (iv (-2)) (shr x0) a1 (iv 0) (gcB m0 [(iv (-2)), (shr x0), a1, (iv 0)] B))))) := (E_eq PP XX HH _ _ _).trans (by kernel_rfl)
noncomputable def Z7U : Code := bodyOf Tryd.f70
def Zhu (r0 : AV) (B : List Row) : Option Res :=
 ob (ob (some r0) fun v => ob (some []) fun vs => some (v :: vs)) fun vs => some ((nrmA (match vs with | [v] => v | vs => mkTup (vs.map shr))), B)
noncomputable def ZcI (m0 : Nat) : Kont := kret PP HH 70 Tryd.f70.results
noncomputable def ZiK (m0 : Nat) : Kont := kseq HH 70 m0 (l2 (l2 (l2 (l2 Z7U)))) (exec PP HH 70 m0 EE LL (l2 (l2 (l2 (l2 Z7U)))) (ZcI m0)) (ZcI m0)
noncomputable def Zet (m0 : Nat) : Kont := kblk 0 (ZiK m0)
noncomputable def ZcR (m0 : Nat) : Kont := kloop HH 70 m0 (l1 (l1 (l2 (l1 (l2 (l2 (l2 Z7U))))))) (LL 70 m0 (l1 (l1 (l2 (l1 (l2 (l2 (l2 Z7U))))))) (Zet m0)) (Zet m0)
noncomputable def Zi1 (m0 : Nat) : Kont := kseq HH 70 m0 (l2 (l2 (l2 (l1 (l1 (l2 (l1 (l2 (l2 (l2 Z7U)))))))))) (exec PP HH 70 m0 EE LL (l2 (l2 (l2 (l1 (l1 (l2 (l1 (l2 (l2 (l2 Z7U)))))))))) (ZcR m0)) (ZcR m0)
noncomputable def Zi8 (m0 : Nat) : Kont := kblk 1 (Zi1 m0)
noncomputable def ZaY (m0 : Nat) (x3 x4 x7 x8 x9 : AV) (B : List Row) : Option Res := lp (LL 70 m0 (l1 (l1 (l2 (l1 (l2 (l2 (l2 Z7U))))))) (Zet m0) [(3, x3), (4, x4), (7, x7), (8, x8), (9, x9)] B)
noncomputable def ZeM (m0 : Nat) (x3 x4 x7 x8 x9 : AV) (B : List Row) : Option Res := exec PP HH 70 m0 EE LL (l2 (l2 (l1 (l1 (l2 (l1 (l2 (l2 (l2 Z7U))))))))) (ZcR m0) [(3, x3), (4, x4), (7, x7), (8, x8), (9, x9)] B
noncomputable def Zdg (m0 : Nat) (x3 x4 : AV) (B : List Row) : Option Res := exec PP HH 70 m0 EE LL (l2 (l2 (l2 (l2 Z7U)))) (ZcI m0) [(3, x3), (4, x4)] B
noncomputable def ZcJ (m0 : Nat) (x3 x6 x7 x8 x9 : AV) (B : List Row) : Option Res := exec PP HH 70 m0 EE LL (l2 (l2 (l1 (l1 (l2 (l2 (l1 (l1 (l2 (l1 (l2 (l2 (l2 Z7U))))))))))))) (Zi8 m0) [(3, x3), (6, x6), (7, x7), (8, x8), (9, x9)] B
noncomputable def Zcg (m0 : Nat) (x3 : AV) (B : List Row) : Option Res := exec PP HH 70 m0 EE LL (l2 (l2 (l2 (l2 (l2 Z7U))))) (ZcI m0) [(3, x3)] B
noncomputable def ZeI (m0 : Nat) (x3 x4 x7 x8 x9 : AV) (B : List Row) : Option Res := exec PP HH 70 m0 EE LL (l2 (l2 (l2 (l1 (l1 (l2 (l1 (l2 (l2 (l2 Z7U)))))))))) (ZcR m0) [(3, x3), (4, x4), (7, x7), (8, x8), (9, x9)] B
theorem Zg0 (m0 : Nat) (x3 x4 x7 x8 x9 : AV) (B : List Row) : ZaY m0 x3 x4 x7 x8 x9 B =
 mk (ob (xbin PP .lss 3 x9 x8) fun a2 =>
 asB a2 fun t3 => br t3 (ZeM m0 x3 x4 x7 x8 x9 (gcB m0 [x3, x4, x7, x8, x9] B))
 (Zdg m0 x3 x4 (gcB m0 [x3, x4] B))) := (L_eq PP XX HH _ _ _ _ _ _).trans (by kernel_rfl)
theorem Zgu (m0 : Nat) (x3 x4 x7 x8 x9 : AV) (B : List Row) : ZeM m0 x3 x4 x7 x8 x9 B =
 mk (ob (xidx 2 x7 x9) fun a4 =>
 ob (ldN true 2 a4 B) fun a5 =>
 bz PP 39 B fun a6 B7 =>
 stN 2 a6 a5 B7 fun B8 =>
 mk (ob (xfld 0 a6) fun a9 =>
 ob (ldN false 1 a9 B8) fun a10 =>
 ob (xbin PP .lss 3 (shr x4) a10) fun a11 =>
 asB a11 fun t12 => br t12 (mk (ob (xfld 0 a6) fun a13 =>
 ob (ldN false 1 a13 B8) fun a14 =>
 ob (xbin PP .sub 3 a14 (iv 1)) fun a15 =>
 ob (xbuild PP 39 [(0, (shr x4)), (1, a15)]) fun a16 =>
 ob (xlit PP 24 1 [(0, a16)]) fun a17 =>
 ob (xapp 2 x3 a17) fun a18 =>
 ZcJ m0 a18 a6 x7 x8 x9 (gcB m0 [a18, a6, x7, x8, x9] B8)))
 (ZcJ m0 x3 a6 x7 x8 x9 (gcB m0 [x3, a6, x7, x8, x9] B8)))) := by kernel_rfl
theorem ZfC (m0 : Nat) (x3 x4 : AV) (B : List Row) : Zdg m0 x3 x4 B =
 mk (ob (xbin PP .leq 3 (shr x4) (iv 1114367)) fun a19 =>
 asB a19 fun t20 => br t20 (mk (ob (xbuild PP 39 [(0, (shr x4)), (1, (iv 1114367))]) fun a21 =>
 ob (xlit PP 24 1 [(0, a21)]) fun a22 =>
 ob (xapp 2 x3 a22) fun a23 =>
 Zcg m0 a23 (gcB m0 [a23] B)))
 (Zcg m0 x3 (gcB m0 [x3] B))) := by kernel_rfl
theorem ZfN (m0 : Nat) (x3 x6 x7 x8 x9 : AV) (B : List Row) : ZcJ m0 x3 x6 x7 x8 x9 B =
 mk (ob (xfld 1 x6) fun a24 =>
 ob (ldN false 1 a24 B) fun a25 =>
 ob (xbin PP .add 3 a25 (iv 1)) fun a26 =>
 ZeI m0 x3 (shr a26) x7 x8 x9 (gcB m0 [x3, (shr a26), x7, x8, x9] B)) := by kernel_rfl
theorem Zfi (m0 : Nat) (x3 : AV) (B : List Row) : Zcg m0 x3 B =
 mk (Zhu (shr (shr x3)) B) := by kernel_rfl
theorem Zh9 (m0 : Nat) (x3 x4 x7 x8 x9 : AV) (B : List Row) : ZeI m0 x3 x4 x7 x8 x9 B =
 mk (ob (xbin PP .add 3 x9 (iv 1)) fun a27 =>
 ZaY m0 x3 x4 x7 x8 (shr a27) (gcB m0 [x3, x4, x7, x8, (shr a27)] B)) := by kernel_rfl
theorem ZhC (x0 : AV) (B : List Row) : EE 70 [x0] B =
 (let m0 := B.length
 mk (mk (mk (mk (ob (xlen PP 24 (shr x0)) fun a1 =>
 ZaY m0 nilA (iv 0) (shr x0) a1 (iv 0) (gcB m0 [nilA, (iv 0), (shr x0), a1, (iv 0)] B)))))) := (E_eq PP XX HH _ _ _).trans (by kernel_rfl)
noncomputable def Zc8 : Code := bodyOf Tryd.f71
def Zdo (r0 : AV) (B : List Row) : Option Res :=
 ob (ob (some r0) fun v => ob (some []) fun vs => some (v :: vs)) fun vs => some ((nrmA (match vs with | [v] => v | vs => mkTup (vs.map shr))), B)
noncomputable def Zep (m0 : Nat) : Kont := kret PP HH 71 Tryd.f71.results
noncomputable def Zi5 (m0 : Nat) : Kont := kseq HH 71 m0 (l2 (l2 Zc8)) (exec PP HH 71 m0 EE LL (l2 (l2 Zc8)) (Zep m0)) (Zep m0)
noncomputable def Zes (m0 : Nat) : Kont := kblk 0 (Zi5 m0)
noncomputable def Ze3 (m0 : Nat) (x0 : AV) (B : List Row) : Option Res := exec PP HH 71 m0 EE LL (l1 (l2 (l1 (l1 (l2 Zc8))))) (Zes m0) [(0, x0)] B
noncomputable def ZcH (m0 : Nat) (x0 : AV) (B : List Row) : Option Res := exec PP HH 71 m0 EE LL (l2 (l2 (l1 (l1 (l2 Zc8))))) (Zes m0) [(0, x0)] B
noncomputable def Zej (m0 : Nat) (x0 : AV) (B : List Row) : Option Res := exec PP HH 71 m0 EE LL (l1 (l2 (l2 (l2 (l1 (l1 (l2 Zc8))))))) (Zes m0) [(0, x0)] B
noncomputable def Zd0 (m0 : Nat) (B : List Row) : Option Res := exec PP HH 71 m0 EE LL (l2 (l2 Zc8)) (Zep m0) [] B
theorem Zg9 (m0 : Nat) (x0 : AV) (B : List Row) : Ze3 m0 x0 B =
 mk (ob (xbin PP .sub 3 (shr x0) (iv 48)) fun a5 =>
 Zdo (shr a5) B) := by kernel_rfl
theorem Zgs (m0 : Nat) (x0 : AV) (B : List Row) : ZcH m0 x0 B =
 mk (ob (xbin PP .geq 3 (shr x0) (iv 97)) fun a6 =>
 asB (shr a6) fun t7 => br t7 (ob (xbin PP .leq 3 (shr x0) (iv 102)) fun a8 =>
 asB (shr (shr a8)) fun t9 => br t9 (Zej m0 x0 (gcB m0 [x0] B))
 (Zd0 m0  (gcB m0 [] B)))
 (Zd0 m0  (gcB m0 [] B))) := by kernel_rfl
theorem Zgg (m0 : Nat) (x0 : AV) (B : List Row) : Zej m0 x0 B =
 mk (ob (xbin PP .sub 3 (shr x0) (iv 97)) fun a10 =>
 ob (xbin PP .add 3 a10 (iv 10)) fun a11 =>
 Zdo (shr a11) B) := by kernel_rfl
theorem ZfZ (m0 : Nat) (B : List Row) : Zd0 m0  B =
 mk (Zdo (iv (-1)) B) := by kernel_rfl
theorem ZhF (x0 : AV) (B : List Row) : EE 71 [x0] B =
 (let m0 := B.length
 mk (mk (ob (xbin PP .geq 3 (shr x0) (iv 48)) fun a1 =>
 asB (shr a1) fun t2 => br t2 (ob (xbin PP .leq 3 (shr x0) (iv 57)) fun a3 =>
 asB (shr (shr a3)) fun t4 => br t4 (Ze3 m0 x0 (gcB m0 [x0] B))
 (ZcH m0 x0 (gcB m0 [x0] B)))
 (ZcH m0 x0 (gcB m0 [x0] B))))) := (E_eq PP XX HH _ _ _).trans (by kernel_rfl)
noncomputable def ZaC : Code := bodyOf Tryd.f73
def ZeU (r0 : AV) (B : List Row) : Option Res :=
 ob (ob (some r0) fun v => ob (some []) fun vs => some (v :: vs)) fun vs => some ((nrmA (match vs with | [v] => v | vs => mkTup (vs.map shr))), B)
noncomputable def ZdJ (m0 : Nat) : Kont := kret PP HH 73 Tryd.f73.results
noncomputable def Zin (m0 : Nat) : Kont := kseq HH 73 m0 (l2 (l2 ZaC)) (exec PP HH 73 m0 EE LL (l2 (l2 ZaC)) (ZdJ m0)) (ZdJ m0)
noncomputable def ZdR (m0 : Nat) : Kont := kblk 0 (Zin m0)
noncomputable def ZfL (m0 : Nat) : Kont := kloop HH 73 m0 (l1 (l1 (l2 (l1 (l2 ZaC))))) (LL 73 m0 (l1 (l1 (l2 (l1 (l2 ZaC))))) (ZdR m0)) (ZdR m0)
noncomputable def Zb7 (m0 : Nat) (x0 x1 x7 x8 : AV) (B : List Row) : Option Res := lp (LL 73 m0 (l1 (l1 (l2 (l1 (l2 ZaC))))) (ZdR m0) [(0, x0), (1, x1), (7, x7), (8, x8)] B)
noncomputable def Ze8 (m0 : Nat) (x0 x1 x7 x8 : AV) (B : List Row) : Option Res := exec PP HH 73 m0 EE LL (l2 (l2 (l1 (l1 (l2 (l1 (l2 ZaC))))))) (ZfL m0) [(0, x0), (1, x1), (7, x7), (8, x8)] B
noncomputable def ZeA (m0 : Nat) (B : List Row) : Option Res := exec PP HH 73 m0 EE LL (l2 (l2 ZaC)) (ZdJ m0) [] B
noncomputable def ZeB (m0 : Nat) (x0 x1 x7 x8 : AV) (B : List Row) : Option Res := exec PP HH 73 m0 EE LL (l2 (l2 (l2 (l1 (l1 (l2 (l1 (l2 ZaC)))))))) (ZfL m0) [(0, x0), (1, x1), (7, x7), (8, x8)] B
theorem Zgc (m0 : Nat) (x0 x1 x7 x8 : AV) (B : List Row) : Zb7 m0 x0 x1 x7 x8 B =
 mk (ob (xbin PP .lss 3 x8 x7) fun a2 =>
 asB a2 fun t3 => br t3 (Ze8 m0 x0 x1 x7 x8 (gcB m0 [x0, x1, x7, x8] B))
 (ZeA m0  (gcB m0 [] B))) := (L_eq PP XX HH _ _ _ _ _ _).trans (by kernel_rfl)
theorem ZgB (m0 : Nat) (x0 x1 x7 x8 : AV) (B : List Row) : Ze8 m0 x0 x1 x7 x8 B =
 mk (mk (ob (xidx 2 (shr x0) (shr (shr (shr x8)))) fun a4 =>
 ob (ldN true 2 a4 B) fun a5 =>
 callV HH EE (shr x1) [a5] B fun a6 B7 =>
 asB a6 fun t8 => br t8 (mk (ZeU (shr (shr (shr (shr x8)))) B7))
 (ZeB m0 x0 x1 x7 x8 (gcB m0 [x0, x1, x7, x8] B7)))) := by kernel_rfl
theorem ZgA (m0 : Nat) (B : List Row) : ZeA m0  B =
 mk (ZeU (iv (-1)) B) := by kernel_rfl
theorem ZgS (m0 : Nat) (x0 x1 x7 x8 : AV) (B : List Row) : ZeB m0 x0 x1 x7 x8 B =
 mk (ob (xbin PP .add 3 x8 (iv 1)) fun a9 =>
 Zb7 m0 x0 x1 x7 (shr a9) (gcB m0 [x0, x1, x7, (shr a9)] B)) := by kernel_rfl
theorem ZiQ (x0 x1 : AV) (B : List Row) : EE 73 [x0, x1] B =
 (let m0 := B.length
 mk (mk (ob (xlen PP 23 (shr x0)) fun a1 =>
 Zb7 m0 x0 x1 a1 (iv 0) (gcB m0 [x0, x1, a1, (iv 0)] B)))) := (E_eq PP XX HH _ _ _).trans (by kernel_rfl)
end Go.Proofs.YtadodmjdkphddaaDoor.N2
end
