/- The functions' equations, by the evaluator. No condition. -/
import Derived.Test.YtadodmjdkphddaaDoorEvA
import Derived.Test.YtadodmjdkphddaaDoorProg
import Derived.KernelRfl
import Derived.Test.YtadodmjdkphddaaDoorEvD

section
set_option linter.unusedSimpArgs false
set_option linter.unusedVariables false
namespace Go.Proofs.YtadodmjdkphddaaDoor.N2
open Go Go.Abs
def Zt0 : FuncId → Nat → Option (List Nat) := fun f r =>
 if f = 7 then (if r = 9 then some [] else if r = 12 then some [] else if r = 13 then some [0, 4] else if r = 11 then some [0, 4, 7] else if r = 10 then some [0, 4] else if r = 8 then some [0, 3, 4, 5, 6] else if r = 6 then some [0, 3] else if r = 5 then some [0] else if r = 3 then some [0] else none) else
 if f = 15 then (if r = 6 then some [] else if r = 7 then some [4, 6, 8] else none) else
 if f = 16 then (if r = 7 then some [2, 3, 4, 5] else if r = 9 then some [2, 3, 4, 5, 50, 51, 52] else if r = 13 then some [2, 3, 4, 5, 50, 51, 52] else if r = 10 then some [2, 3, 4, 5, 50, 51, 52] else if r = 16 then some [2, 3, 4, 5] else if r = 14 then some [2, 3, 4, 5] else if r = 8 then some [2, 3, 4, 5] else if r = 3 then some [0, 2, 3] else none) else
 if f = 20 then (if r = 7 then some [0] else if r = 5 then some [0] else if r = 3 then some [0] else none) else
 if f = 27 then (if r = 2 then some [] else if r = 3 then some [0, 1] else none) else
 if f = 28 then (if r = 2 then some [0, 2, 3] else if r = 3 then some [0, 2, 3] else if r = 4 then some [2, 3] else none) else
 if f = 29 then (if r = 2 then some [0] else none) else
 if f = 35 then (if r = 2 then some [0, 2, 3] else if r = 7 then some [0, 2, 3] else if r = 3 then some [0, 2, 3] else if r = 9 then some [2, 3] else none) else
 if f = 36 then (if r = 6 then some [0, 1, 4] else none) else
 if f = 37 then (if r = 2 then some [0, 1, 7, 8] else if r = 6 then some [0, 1, 7, 8] else if r = 3 then some [0, 1, 7, 8] else if r = 7 then some [] else none) else
 if f = 41 then (if r = 3 then some [0] else none) else
 if f = 42 then (if r = 26 then some [2] else none) else
 if f = 43 then (if r = 17 then some [6, 8] else if r = 13 then some [0, 6, 8] else if r = 11 then some [0, 2, 6, 7, 8] else none) else
 if f = 45 then (if r = 2 then some [] else if r = 5 then some [0, 1] else if r = 6 then some [6, 7] else if r = 3 then some [0, 1] else none) else
 if f = 47 then (if r = 4 then some [4, 5] else none) else
 if f = 49 then (if r = 13 then some [0, 1, 4, 5] else if r = 15 then some [0, 1, 4, 5] else if r = 5 then some [0, 1, 4, 5] else none) else
 if f = 50 then (if r = 5 then some [0, 1, 4, 5, 6, 7, 8] else if r = 18 then some [4, 6] else if r = 15 then some [0, 4, 5, 6] else if r = 32 then some [0, 1, 4, 5, 6, 7, 8, 9] else if r = 35 then some [0, 1, 4, 5, 6, 7, 8, 9, 11, 15] else if r = 33 then some [0, 1, 4, 5, 6, 7, 8, 9, 11] else if r = 36 then some [0, 1, 4, 5, 6, 7, 8, 11, 15] else if r = 28 then some [0, 1, 4, 5, 6, 7, 8, 9, 11] else if r = 22 then some [0, 1, 4, 5, 6, 7, 8, 9] else if r = 6 then some [0, 1, 4, 5, 6, 7, 8] else if r = 7 then some [0, 1, 4, 5, 6, 7, 8] else if r = 38 then some [4] else none) else
 if f = 51 then (if r = 19 then some [0, 1, 4, 7] else if r = 23 then some [4, 7] else if r = 20 then some [0, 4, 7] else if r = 17 then some [0, 1, 4] else if r = 4 then some [0, 1, 4] else none) else
 if f = 52 then (if r = 7 then some [4] else if r = 8 then some [0, 1, 4] else if r = 6 then some [0, 1, 4] else if r = 10 then some [0, 1, 4, 5] else if r = 11 then some [4, 5] else if r = 9 then some [0, 1, 4, 5] else none) else
 if f = 54 then (if r = 3 then some [0] else none) else
 if f = 55 then (if r = 3 then some [0] else none) else
 if f = 56 then (if r = 11 then some [] else none) else
 if f = 57 then (if r = 16 then some [1] else if r = 17 then some [0, 2] else none) else
 if f = 59 then (if r = 2 then some [] else if r = 3 then some [0, 1] else none) else
 if f = 60 then (if r = 13 then some [0, 2, 5] else if r = 9 then some [0, 2, 5] else if r = 5 then some [0, 5] else none) else
 if f = 61 then (if r = 2 then some [0, 1, 7, 8] else if r = 6 then some [0, 1, 7, 8] else if r = 3 then some [0, 1, 7, 8] else if r = 7 then some [] else none) else
 if f = 63 then (if r = 3 then some [0, 3, 4] else if r = 5 then some [0, 3, 4] else if r = 6 then some [3] else none) else
 if f = 69 then (if r = 3 then some [3, 6, 7, 8] else if r = 6 then some [] else if r = 7 then some [5, 6, 7, 8] else if r = 8 then some [3, 6, 7, 8] else if r = 4 then some [3, 6, 7, 8] else if r = 9 then some [] else none) else
 if f = 70 then (if r = 4 then some [3, 4, 7, 8, 9] else if r = 8 then some [3, 6, 7, 8, 9] else if r = 9 then some [3, 4, 7, 8, 9] else if r = 5 then some [3, 4, 7, 8, 9] else if r = 12 then some [3] else if r = 10 then some [3, 4] else none) else
 if f = 71 then (if r = 4 then some [0] else if r = 2 then some [0] else if r = 3 then some [0] else if r = 5 then some [] else none) else
 if f = 73 then (if r = 2 then some [0, 1, 7, 8] else if r = 6 then some [0, 1, 7, 8] else if r = 3 then some [0, 1, 7, 8] else if r = 7 then some [] else none) else
 none
def ownT : FuncId → List Nat := fun f =>
 if f = 28 then [3, 9] else
 if f = 35 then [3, 23] else
 if f = 49 then [44] else
 if f = 56 then [2] else
 if f = 60 then [3, 6, 29] else
 if f = 70 then [3, 17, 31] else
 []
def rawT : FuncId → Bool := fun f => if f = 56 then true else if f = 60 then true else false
def Zt1 : FuncId → List Nat := fun f => []
def HH : Hints := ⟨Zt0, ownT, rawT, Zt1⟩
def XX : FuncId → Option (List AV → List Row → Option Res) := fun f => if f = 53 then some Zgh else if f = 68 then some Zeg else if f = 72 then some Zef else none
noncomputable abbrev PP : Program := Tryd.prog
noncomputable abbrev EE : GF := E PP XX HH
noncomputable abbrev LL : LF := L PP XX HH
end Go.Proofs.YtadodmjdkphddaaDoor.N2
end
noncomputable section
set_option linter.unusedSimpArgs false
set_option linter.unusedVariables false
namespace Go.Proofs.YtadodmjdkphddaaDoor.N2
open Go Go.Abs
set_option linter.unusedVariables false
set_option maxRecDepth 100000
def Zap : Code := Z2P Tryd.f7
def Zb2 (r0 : AV) (B : List Row) : Option Res :=
 ob (ob (some r0) fun v => ob (some []) fun vs => some (v :: vs)) fun vs => some ((nrmA (match vs with | [v] => v | vs => Z1W (vs.map shr))), B)
def Z9Y (m0 : Nat) : Kont := kret PP HH 7 Tryd.f7.results
def ZsY (m0 : Nat) : Kont := kseq HH 7 m0 (l2 (l2 (l2 (l2 (l2 (l2 (l2 Zap))))))) (exec PP HH 7 m0 EE LL (l2 (l2 (l2 (l2 (l2 (l2 (l2 Zap))))))) (Z9Y m0)) (Z9Y m0)
def ZsZ (m0 : Nat) : Kont := kseq HH 7 m0 (l2 (l2 (l2 (l2 (l2 (l2 (l2 (l2 (l2 Zap))))))))) (exec PP HH 7 m0 EE LL (l2 (l2 (l2 (l2 (l2 (l2 (l2 (l2 (l2 Zap))))))))) (Z9Y m0)) (Z9Y m0)
def ZmV (m0 : Nat) (x0 : AV) (B : List Row) : Option Res := exec PP HH 7 m0 EE LL (l2 (l2 Zap)) (Z9Y m0) [(0, x0)] B
def ZmW (m0 : Nat) (x0 : AV) (B : List Row) : Option Res := exec PP HH 7 m0 EE LL (l2 (l2 (l2 Zap))) (Z9Y m0) [(0, x0)] B
def ZmX (m0 : Nat) (x0 x3 : AV) (B : List Row) : Option Res := exec PP HH 7 m0 EE LL (l2 (l2 (l2 (l2 Zap)))) (Z9Y m0) [(0, x0), (3, x3)] B
def ZmY (m0 : Nat) (x0 x3 x4 x5 x6 : AV) (B : List Row) : Option Res := exec PP HH 7 m0 EE LL (l2 (l2 (l2 (l2 (l2 (l2 Zap)))))) (Z9Y m0) [(0, x0), (3, x3), (4, x4), (5, x5), (6, x6)] B
def Zet (m0 : Nat) (B : List Row) : Option Res := exec PP HH 7 m0 EE LL (l1 (l2 (l1 (l2 (l2 (l2 (l2 (l2 (l2 Zap))))))))) (ZsY m0) [] B
def ZhE (m0 : Nat) (x0 x4 : AV) (B : List Row) : Option Res := exec PP HH 7 m0 EE LL (l2 (l2 (l2 (l2 (l2 (l2 (l2 Zap))))))) (Z9Y m0) [(0, x0), (4, x4)] B
def Z73 (m0 : Nat) (x0 x4 x7 : AV) (B : List Row) : Option Res := exec PP HH 7 m0 EE LL (l2 (l2 (l2 (l2 (l2 (l2 (l2 (l2 Zap)))))))) (Z9Y m0) [(0, x0), (4, x4), (7, x7)] B
def Zfk (m0 : Nat) (B : List Row) : Option Res := exec PP HH 7 m0 EE LL (l1 (l2 (l1 (l2 (l2 (l2 (l2 (l2 (l2 (l2 (l2 Zap))))))))))) (ZsZ m0) [] B
def Zkv (m0 : Nat) (x0 x4 : AV) (B : List Row) : Option Res := exec PP HH 7 m0 EE LL (l2 (l2 (l2 (l2 (l2 (l2 (l2 (l2 (l2 Zap))))))))) (Z9Y m0) [(0, x0), (4, x4)] B
theorem ZpC m0 x0 B : ZmV m0 x0 B =
 mk (callS false EE 18 [(shr x0)] B fun a5 B6 =>
 ob (xun PP .not a5) fun a7 =>
 asB a7 fun t8 => br t8 (mk (Zb2 (bv true) B6))
 (ZmW m0 x0 (gcB m0 [x0] B6))) := by kernel_rfl
theorem ZpD m0 x0 B : ZmW m0 x0 B =
 mk (xmake PP 48 B fun a9 B10 =>
 xupd PP 48 a9 (iv 46) (bv true) B10 fun B11 =>
 xupd PP 48 a9 (iv 94) (bv true) B11 fun B12 =>
 xupd PP 48 a9 (iv 36) (bv true) B12 fun B13 =>
 xupd PP 48 a9 (iv 92) (bv true) B13 fun B14 =>
 xupd PP 48 a9 (iv 91) (bv true) B14 fun B15 =>
 xupd PP 48 a9 (iv 93) (bv true) B15 fun B16 =>
 xupd PP 48 a9 (iv 40) (bv true) B16 fun B17 =>
 xupd PP 48 a9 (iv 41) (bv true) B17 fun B18 =>
 xupd PP 48 a9 (iv 124) (bv true) B18 fun B19 =>
 xupd PP 48 a9 (iv 42) (bv true) B19 fun B20 =>
 xupd PP 48 a9 (iv 43) (bv true) B20 fun B21 =>
 xupd PP 48 a9 (iv 63) (bv true) B21 fun B22 =>
 xupd PP 48 a9 (iv 123) (bv true) B22 fun B23 =>
 xupd PP 48 a9 (iv 125) (bv true) B23 fun B24 =>
 ZmX m0 x0 (shr (shr a9)) (gcB m0 [x0, (shr (shr a9))] B24)) := by kernel_rfl
theorem ZpE m0 x0 x3 B : ZmX m0 x0 x3 B =
 mk (callS false EE 20 [(shr x0)] B fun a25 B26 =>
 ob (xcnv PP 40 9 a25) fun a27 =>
 mk (callS false EE 16 [(shr (shr a27))] B26 fun a28 B29 =>
 ob (xext 0 (shr a28)) fun a30 =>
 ob (xext 1 (shr a28)) fun a31 =>
 bz PP 29 B29 fun a32 B33 =>
 bz PP 32 B33 fun a34 B35 =>
 stN 9 a32 (shr a30) B35 fun B36 =>
 stN 2 a34 (shr a31) B36 fun B37 =>
 ZmY m0 x0 x3 (shr a27) a32 a34 (gcB m0 [x0, x3, (shr a27), a32, a34] B37))) := by kernel_rfl
theorem ZpF m0 x0 x3 x4 x5 x6 B : ZmY m0 x0 x3 x4 x5 x6 B =
 mk (ob (Zf1 PP 48 false (shr x3) (shr x0) B) fun a38 =>
 ob (xun PP .not a38) fun a39 =>
 asB (shr a39) fun t40 => br t40 (ob (xfld 0 x6) fun a41 =>
 ob (ldN false 1 a41 B) fun a42 =>
 ob (xbin PP .neq 30 a42 (iv 0)) fun a43 =>
 asB (shr a43) fun t44 => br t44 (Zet m0  (gcB m0 [] B))
 (ob (xfld 0 x5) fun a45 =>
 ob (xfld 0 a45) fun a46 =>
 ob (ldN false 1 a46 B) fun a47 =>
 ob (xbin PP .neq 3 a47 (iv 1)) fun a48 =>
 asB (shr (shr a48)) fun t49 => br t49 (Zet m0  (gcB m0 [] B))
 (ob (xfld 0 x5) fun a50 =>
 ob (xfld 5 a50) fun a51 =>
 ob (ldN false 1 a51 B) fun a52 =>
 ob (xlen PP 24 a52) fun a53 =>
 ob (xbin PP .neq 3 a53 (iv 1)) fun a54 =>
 asB (shr (shr a54)) fun t55 => br t55 (Zet m0  (gcB m0 [] B))
 (ob (xfld 0 x5) fun a56 =>
 ob (xfld 5 a56) fun a57 =>
 ob (ldN false 1 a57 B) fun a58 =>
 ob (xidx 2 a58 (iv 0)) fun a59 =>
 ob (xfld 0 a59) fun a60 =>
 ob (ldN false 1 a60 B) fun a61 =>
 ob (xbin PP .neq 3 a61 (shr x0)) fun a62 =>
 asB (shr (shr a62)) fun t63 => br t63 (Zet m0  (gcB m0 [] B))
 (ob (xfld 0 x5) fun a64 =>
 ob (xfld 5 a64) fun a65 =>
 ob (ldN false 1 a65 B) fun a66 =>
 ob (xidx 2 a66 (iv 0)) fun a67 =>
 ob (xfld 1 a67) fun a68 =>
 ob (ldN false 1 a68 B) fun a69 =>
 ob (xbin PP .neq 3 a69 (shr x0)) fun a70 =>
 asB (shr (shr a70)) fun t71 => br t71 (Zet m0  (gcB m0 [] B))
 (ZhE m0 x0 x4 (gcB m0 [x0, x4] B)))))))
 (ZhE m0 x0 x4 (gcB m0 [x0, x4] B))) := by kernel_rfl
theorem ZpG m0 B : Zet m0  B =
 mk (Zb2 (bv false) B) := by kernel_rfl
theorem ZoJ m0 x0 x4 B : ZhE m0 x0 x4 B =
 mk (ob (xbin PP .geq 3 (shr x0) (iv 48)) fun a72 =>
 asB (shr a72) fun t73 => br t73 (ob (xbin PP .leq 3 (shr x0) (iv 57)) fun a74 =>
 asB (shr (shr a74)) fun t75 => br t75 (Z73 m0 x0 x4 (bv true) (gcB m0 [x0, x4, (bv true)] B))
 (ob (xbin PP .geq 3 (shr x0) (iv 97)) fun a76 =>
 asB (shr a76) fun t77 => br t77 (ob (xbin PP .leq 3 (shr x0) (iv 122)) fun a78 =>
 asB (shr (shr (shr a78))) fun t79 => br t79 (Z73 m0 x0 x4 (bv true) (gcB m0 [x0, x4, (bv true)] B))
 (ob (xbin PP .geq 3 (shr x0) (iv 65)) fun a80 =>
 asB (shr a80) fun t81 => br t81 (ob (xbin PP .leq 3 (shr x0) (iv 90)) fun a82 =>
 Z73 m0 x0 x4 (shr (shr (shr a82))) (gcB m0 [x0, x4, (shr (shr (shr a82)))] B))
 (Z73 m0 x0 x4 (bv false) (gcB m0 [x0, x4, (bv false)] B))))
 (ob (xbin PP .geq 3 (shr x0) (iv 65)) fun a83 =>
 asB (shr a83) fun t84 => br t84 (ob (xbin PP .leq 3 (shr x0) (iv 90)) fun a85 =>
 Z73 m0 x0 x4 (shr (shr (shr a85))) (gcB m0 [x0, x4, (shr (shr (shr a85)))] B))
 (Z73 m0 x0 x4 (bv false) (gcB m0 [x0, x4, (bv false)] B)))))
 (ob (xbin PP .geq 3 (shr x0) (iv 97)) fun a86 =>
 asB (shr a86) fun t87 => br t87 (ob (xbin PP .leq 3 (shr x0) (iv 122)) fun a88 =>
 asB (shr (shr (shr a88))) fun t89 => br t89 (Z73 m0 x0 x4 (bv true) (gcB m0 [x0, x4, (bv true)] B))
 (ob (xbin PP .geq 3 (shr x0) (iv 65)) fun a90 =>
 asB (shr a90) fun t91 => br t91 (ob (xbin PP .leq 3 (shr x0) (iv 90)) fun a92 =>
 Z73 m0 x0 x4 (shr (shr (shr a92))) (gcB m0 [x0, x4, (shr (shr (shr a92)))] B))
 (Z73 m0 x0 x4 (bv false) (gcB m0 [x0, x4, (bv false)] B))))
 (ob (xbin PP .geq 3 (shr x0) (iv 65)) fun a93 =>
 asB (shr a93) fun t94 => br t94 (ob (xbin PP .leq 3 (shr x0) (iv 90)) fun a95 =>
 Z73 m0 x0 x4 (shr (shr (shr a95))) (gcB m0 [x0, x4, (shr (shr (shr a95)))] B))
 (Z73 m0 x0 x4 (bv false) (gcB m0 [x0, x4, (bv false)] B))))) := by kernel_rfl
theorem ZoK m0 x0 x4 x7 B : Z73 m0 x0 x4 x7 B =
 mk (ob (xbin PP .leq 3 (shr x0) (iv 32)) fun a96 =>
 asB (shr a96) fun t97 => br t97 (Zfk m0  (gcB m0 [] B))
 (ob (xbin PP .geq 3 (shr x0) (iv 127)) fun a98 =>
 asB (shr (shr a98)) fun t99 => br t99 (Zfk m0  (gcB m0 [] B))
 (asB (shr (shr x7)) fun t100 => br t100 (Zfk m0  (gcB m0 [] B))
 (Zkv m0 x0 x4 (gcB m0 [x0, x4] B))))) := by kernel_rfl
theorem ZoL m0 B : Zfk m0  B =
 mk (Zb2 (bv true) B) := by kernel_rfl
theorem ZoM m0 x0 x4 B : Zkv m0 x0 x4 B =
 mk (ob (xbin PP .add 9 (.p (.v (.string (ByteArray.mk #[92])))) (shr x4)) fun a101 =>
 callS false EE 16 [a101] B fun a102 B103 =>
 ob (xext 0 (shr a102)) fun a104 =>
 ob (xext 1 (shr a102)) fun a105 =>
 bz PP 29 B103 fun a106 B107 =>
 bz PP 32 B107 fun a108 B109 =>
 stN 9 a106 (shr a104) B109 fun B110 =>
 stN 2 a108 (shr a105) B110 fun B111 =>
 mk (ob (xfld 0 a108) fun a112 =>
 ob (ldN false 1 a112 B111) fun a113 =>
 ob (xbin PP .eql 30 a113 (iv 0)) fun a114 =>
 asB (shr a114) fun t115 => br t115 (ob (xfld 0 a106) fun a116 =>
 ob (xfld 0 a116) fun a117 =>
 ob (ldN false 1 a117 B111) fun a118 =>
 ob (xbin PP .eql 3 a118 (iv 1)) fun a119 =>
 asB (shr (shr a119)) fun t120 => br t120 (ob (xfld 0 a106) fun a121 =>
 ob (xfld 5 a121) fun a122 =>
 ob (ldN false 1 a122 B111) fun a123 =>
 ob (xlen PP 24 a123) fun a124 =>
 ob (xbin PP .eql 3 a124 (iv 1)) fun a125 =>
 asB (shr (shr a125)) fun t126 => br t126 (ob (xfld 0 a106) fun a127 =>
 ob (xfld 5 a127) fun a128 =>
 ob (ldN false 1 a128 B111) fun a129 =>
 ob (xidx 2 a129 (iv 0)) fun a130 =>
 ob (xfld 0 a130) fun a131 =>
 ob (ldN false 1 a131 B111) fun a132 =>
 ob (xbin PP .eql 3 a132 (shr x0)) fun a133 =>
 Zb2 (shr (shr a133)) B111)
 (Zb2 (bv false) B111))
 (Zb2 (bv false) B111))
 (Zb2 (bv false) B111))) := by kernel_rfl
theorem ZsX x0 B : EE 7 [x0] B =
 (let m0 := B.length
 mk (mk (callS false EE 15 [] B fun a1 B2 =>
 ob (xun PP .not a1) fun a3 =>
 asB a3 fun t4 => br t4 (mk (Zb2 (bv false) B2))
 (ZmV m0 x0 (gcB m0 [x0] B2))))) := (E_eq PP XX HH _ _ _).trans (by kernel_rfl)
def Zj9 : Code := Z2P Tryd.f15
def ZfX (r0 : AV) (B : List Row) : Option Res :=
 ob (ob (some r0) fun v => ob (some []) fun vs => some (v :: vs)) fun vs => some ((nrmA (match vs with | [v] => v | vs => Z1W (vs.map shr))), B)
def Zjn (m0 : Nat) : Kont := kret PP HH 15 Tryd.f15.results
def Zrl (m0 : Nat) : Kont := kseq HH 15 m0 (l2 (l2 (l2 (l2 (l2 (l2 Zj9)))))) (exec PP HH 15 m0 EE LL (l2 (l2 (l2 (l2 (l2 (l2 Zj9)))))) (Zjn m0)) (Zjn m0)
def Zch (m0 : Nat) (B : List Row) : Option Res := exec PP HH 15 m0 EE LL (l1 (l2 (l1 (l2 (l2 (l2 (l2 (l2 Zj9)))))))) (Zrl m0) [] B
def Zjo (m0 : Nat) (x4 x6 x8 : AV) (B : List Row) : Option Res := exec PP HH 15 m0 EE LL (l2 (l2 (l2 (l2 (l2 (l2 Zj9)))))) (Zjn m0) [(4, x4), (6, x6), (8, x8)] B
theorem Znv m0 B : Zch m0  B =
 mk (ZfX (bv false) B) := by kernel_rfl
theorem Znw m0 x4 x6 x8 B : Zjo m0 x4 x6 x8 B =
 mk (ob (ldN true 2 x4 B) fun a72 =>
 ob (Z1o PP 32 [(0, (iv 23)), (1, (iv 2))]) fun a73 =>
 ob (xbin PP .eql 32 a72 a73) fun a74 =>
 asB (shr a74) fun t75 => br t75 (ob (ldN true 2 x6 B) fun a76 =>
 ob (Z1o PP 32 [(0, (iv 20))]) fun a77 =>
 ob (xbin PP .eql 32 a76 a77) fun a78 =>
 asB (shr (shr a78)) fun t79 => br t79 (ob (ldN true 2 x8 B) fun a80 =>
 ob (Z1o PP 32 [(0, (iv 26))]) fun a81 =>
 ob (xbin PP .eql 32 a80 a81) fun a82 =>
 ZfX (shr (shr a82)) B)
 (ZfX (bv false) B))
 (ZfX (bv false) B)) := by kernel_rfl
theorem Zrk B : EE 15 [] B =
 (let m0 := B.length
 mk (mk (callS false EE 16 [(.p (.v (.string (ByteArray.mk #[97, 124, 98, 42, 63]))))] B fun a1 B2 =>
 ob (xext 0 (shr a1)) fun a3 =>
 ob (xext 1 (shr a1)) fun a4 =>
 bz PP 29 B2 fun a5 B6 =>
 bz PP 32 B6 fun a7 B8 =>
 stN 9 a5 (shr a3) B8 fun B9 =>
 stN 2 a7 (shr a4) B9 fun B10 =>
 mk (callS false EE 16 [(.p (.v (.string (ByteArray.mk #[97, 42, 42]))))] B10 fun a11 B12 =>
 ob (xext 0 (shr a11)) fun a13 =>
 ob (xext 1 (shr a11)) fun a14 =>
 bz PP 29 B12 fun a15 B16 =>
 bz PP 32 B16 fun a17 B18 =>
 stN 9 a15 (shr a13) B18 fun B19 =>
 stN 2 a17 (shr a14) B19 fun B20 =>
 mk (callS false EE 16 [(.p (.v (.string (ByteArray.mk #[40, 97]))))] B20 fun a21 B22 =>
 ob (xext 0 (shr a21)) fun a23 =>
 ob (xext 1 (shr a21)) fun a24 =>
 bz PP 29 B22 fun a25 B26 =>
 bz PP 32 B26 fun a27 B28 =>
 stN 9 a25 (shr a23) B28 fun B29 =>
 stN 2 a27 (shr a24) B29 fun B30 =>
 mk (callS false EE 16 [(.p (.v (.string (ByteArray.mk #[92, 49]))))] B30 fun a31 B32 =>
 ob (xext 0 (shr a31)) fun a33 =>
 ob (xext 1 (shr a31)) fun a34 =>
 bz PP 29 B32 fun a35 B36 =>
 bz PP 32 B36 fun a37 B38 =>
 stN 9 a35 (shr a33) B38 fun B39 =>
 stN 2 a37 (shr a34) B39 fun B40 =>
 mk (ob (xfld 0 a7) fun a41 =>
 ob (ldN false 1 a41 B40) fun a42 =>
 ob (xbin PP .neq 30 a42 (iv 0)) fun a43 =>
 asB (shr a43) fun t44 => br t44 (Zch m0  (gcB m0 [] B40))
 (ob (xfld 0 a5) fun a45 =>
 ob (xfld 0 a45) fun a46 =>
 ob (ldN false 1 a46 B40) fun a47 =>
 ob (xbin PP .neq 3 a47 (iv 3)) fun a48 =>
 asB (shr (shr a48)) fun t49 => br t49 (Zch m0  (gcB m0 [] B40))
 (ob (xfld 0 a5) fun a50 =>
 ob (xfld 6 a50) fun a51 =>
 ob (ldN false 1 a51 B40) fun a52 =>
 ob (xlen PP 25 a52) fun a53 =>
 ob (xbin PP .neq 3 a53 (iv 2)) fun a54 =>
 asB (shr (shr a54)) fun t55 => br t55 (Zch m0  (gcB m0 [] B40))
 (ob (xfld 0 a5) fun a56 =>
 ob (xfld 6 a56) fun a57 =>
 ob (ldN false 1 a57 B40) fun a58 =>
 ob (xidx 7 a58 (iv 1)) fun a59 =>
 ob (xfld 0 a59) fun a60 =>
 ob (ldN false 1 a60 B40) fun a61 =>
 ob (xbin PP .neq 3 a61 (iv 4)) fun a62 =>
 asB (shr (shr a62)) fun t63 => br t63 (Zch m0  (gcB m0 [] B40))
 (ob (xfld 0 a5) fun a64 =>
 ob (xfld 6 a64) fun a65 =>
 ob (ldN false 1 a65 B40) fun a66 =>
 ob (xidx 7 a66 (iv 1)) fun a67 =>
 ob (xfld 3 a67) fun a68 =>
 ob (ldN false 1 a68 B40) fun a69 =>
 ob (xbin PP .neq 3 a69 (iv 1)) fun a70 =>
 asB (shr a70) fun t71 => br t71 (Zch m0  (gcB m0 [] B40))
 (Zjo m0 a17 a27 a37 (gcB m0 [a17, a27, a37] B40))))))))))))) := (E_eq PP XX HH _ _ _).trans (by kernel_rfl)
def Z7I : Code := Z2P Tryd.f16
def Zik (r0 r1 : AV) (B : List Row) : Option Res :=
 ob (ob (ldN true 9 r0 B) fun v => ob (ob (ldN true 2 r1 B) fun v => ob (some []) fun vs => some (v :: vs)) fun vs => some (v :: vs)) fun vs => some ((nrmA (match vs with | [v] => v | vs => Z1W (vs.map shr))), B)
def Zb1 (m0 : Nat) : Kont := kret PP HH 16 Tryd.f16.results
def Zrn (m0 : Nat) : Kont := kseq HH 16 m0 (l2 (l2 (l2 (l2 (l2 (l2 Z7I)))))) (exec PP HH 16 m0 EE LL (l2 (l2 (l2 (l2 (l2 (l2 Z7I)))))) (Zb1 m0)) (Zb1 m0)
def Zro (m0 : Nat) : Kont := kseq HH 16 m0 (l2 (l2 (l2 (l2 (l2 (l2 (l2 Z7I))))))) (exec PP HH 16 m0 EE LL (l2 (l2 (l2 (l2 (l2 (l2 (l2 Z7I))))))) (Zb1 m0)) (Zb1 m0)
def Zjp (m0 : Nat) : Kont := kblk 0 (Zro m0)
def Znx (m0 : Nat) : Kont := kloop HH 16 m0 (l1 (l1 (l2 (l1 (l2 (l2 (l2 (l2 (l2 (l2 Z7I)))))))))) (LL 16 m0 (l1 (l1 (l2 (l1 (l2 (l2 (l2 (l2 (l2 (l2 Z7I)))))))))) (Zjp m0)) (Zjp m0)
def Zjq (m0 : Nat) (x0 x2 x3 : AV) (B : List Row) : Option Res := exec PP HH 16 m0 EE LL (l2 (l2 Z7I)) (Zb1 m0) [(0, x0), (2, x2), (3, x3)] B
def Zjr (m0 : Nat) (x2 x3 x4 x5 : AV) (B : List Row) : Option Res := exec PP HH 16 m0 EE LL (l1 (l2 (l1 (l2 (l2 (l2 (l2 (l2 Z7I)))))))) (Zrn m0) [(2, x2), (3, x3), (4, x4), (5, x5)] B
def Zfh (m0 : Nat) (x2 x3 x4 x5 : AV) (B : List Row) : Option Res := exec PP HH 16 m0 EE LL (l2 (l2 (l2 (l2 (l2 (l2 Z7I)))))) (Zb1 m0) [(2, x2), (3, x3), (4, x4), (5, x5)] B
def ZdB (m0 : Nat) (x2 x3 x4 x5 x50 x51 x52 : AV) (B : List Row) : Option Res := lp (LL 16 m0 (l1 (l1 (l2 (l1 (l2 (l2 (l2 (l2 (l2 (l2 Z7I)))))))))) (Zjp m0) [(2, x2), (3, x3), (4, x4), (5, x5), (50, x50), (51, x51), (52, x52)] B)
def Zih (m0 : Nat) (x2 x3 x4 x5 x50 x51 x52 : AV) (B : List Row) : Option Res := exec PP HH 16 m0 EE LL (l2 (l2 (l1 (l1 (l2 (l1 (l2 (l2 (l2 (l2 (l2 (l2 Z7I)))))))))))) (Znx m0) [(2, x2), (3, x3), (4, x4), (5, x5), (50, x50), (51, x51), (52, x52)] B
def Zii (m0 : Nat) (x2 x3 x4 x5 : AV) (B : List Row) : Option Res := exec PP HH 16 m0 EE LL (l2 (l2 (l2 (l2 (l2 (l2 (l2 Z7I))))))) (Zb1 m0) [(2, x2), (3, x3), (4, x4), (5, x5)] B
def ZfY (m0 : Nat) (x2 x3 x4 x5 x50 x51 x52 : AV) (B : List Row) : Option Res := exec PP HH 16 m0 EE LL (l2 (l2 (l2 (l1 (l1 (l2 (l1 (l2 (l2 (l2 (l2 (l2 (l2 Z7I))))))))))))) (Znx m0) [(2, x2), (3, x3), (4, x4), (5, x5), (50, x50), (51, x51), (52, x52)] B
def Zij (m0 : Nat) (x2 x3 x4 x5 : AV) (B : List Row) : Option Res := exec PP HH 16 m0 EE LL (l2 (l2 (l2 (l2 (l2 (l2 (l2 (l2 Z7I)))))))) (Zb1 m0) [(2, x2), (3, x3), (4, x4), (5, x5)] B
theorem Znz m0 x0 x2 x3 B : Zjq m0 x0 x2 x3 B =
 mk (ob (xcnv PP 9 40 (shr x0)) fun a12 =>
 ob (Z1o PP 58 [(0, a12)]) fun a13 =>
 bx a13 B fun a14 B15 =>
 mk (callS false EE 27 [(shr (shr a14)), (.p (.v (.string (ByteArray.mk #[40, 63, 105, 41]))))] B15 fun a16 B17 =>
 ob (Z1o PP 29 [(2, a16)]) fun a18 =>
 bz PP 29 B17 fun a19 B20 =>
 stN 9 a19 a18 B20 fun B21 =>
 mk (callS false EE 28 [(shr (shr a14))] B21 fun a22 B23 =>
 ob (xfld 0 a19) fun a24 =>
 stN 7 a24 a22 B23 fun B25 =>
 mk (ob (Z1m (shr (shr a14))) fun a26 =>
 ob (xfld 5 a26) fun a27 =>
 ob (xfld 0 a27) fun a28 =>
 ob (ldN false 1 a28 B25) fun a29 =>
 ob (xbin PP .eql 30 a29 (iv 0)) fun a30 =>
 asB (shr a30) fun t31 => br t31 (ob (Z1m (shr (shr a14))) fun a32 =>
 ob (xfld 1 a32) fun a33 =>
 ob (ldN false 1 a33 B25) fun a34 =>
 ob (Z1m (shr (shr a14))) fun a35 =>
 ob (xfld 0 a35) fun a36 =>
 ob (ldN false 1 a36 B25) fun a37 =>
 ob (xlen PP 40 a37) fun a38 =>
 ob (xbin PP .lss 3 a34 a38) fun a39 =>
 asB (shr a39) fun t40 => br t40 (Zjr m0 x2 x3 (shr a14) a19 (gcB m0 [x2, x3, (shr a14), a19] B25))
 (Zfh m0 x2 x3 (shr a14) a19 (gcB m0 [x2, x3, (shr a14), a19] B25)))
 (Zfh m0 x2 x3 (shr a14) a19 (gcB m0 [x2, x3, (shr a14), a19] B25)))))) := by kernel_rfl
theorem ZnA m0 x2 x3 x4 x5 B : Zjr m0 x2 x3 x4 x5 B =
 mk (ob (Z1m (shr x4)) fun a41 =>
 ob (xfld 1 a41) fun a42 =>
 ob (ldN false 1 a42 B) fun a43 =>
 callS false EE 29 [(shr x4), (iv 20), a43] B fun a44 B45 =>
 Zfh m0 x2 x3 x4 x5 (gcB m0 [x2, x3, x4, x5] B45)) := by kernel_rfl
theorem ZnB m0 x2 x3 x4 x5 B : Zfh m0 x2 x3 x4 x5 B =
 mk (ob (Z1m (shr x4)) fun a46 =>
 ob (xfld 4 a46) fun a47 =>
 ob (ldN false 1 a47 B) fun a48 =>
 ob (xlen PP 56 a48) fun a49 =>
 ZdB m0 x2 x3 x4 x5 a48 a49 (iv 0) (gcB m0 [x2, x3, x4, x5, a48, a49, (iv 0)] B)) := by kernel_rfl
theorem Zny m0 x2 x3 x4 x5 x50 x51 x52 B : ZdB m0 x2 x3 x4 x5 x50 x51 x52 B =
 mk (ob (xbin PP .lss 3 x52 x51) fun a50 =>
 asB a50 fun t51 => br t51 (Zih m0 x2 x3 x4 x5 x50 x51 x52 (gcB m0 [x2, x3, x4, x5, x50, x51, x52] B))
 (Zii m0 x2 x3 x4 x5 (gcB m0 [x2, x3, x4, x5] B))) := (L_eq PP XX HH _ _ _ _ _ _).trans (by kernel_rfl)
theorem Zmn m0 x2 x3 x4 x5 x50 x51 x52 B : Zih m0 x2 x3 x4 x5 x50 x51 x52 B =
 mk (ob (xidx 2 x50 x52) fun a52 =>
 ob (ldN true 2 a52 B) fun a53 =>
 bz PP 62 B fun a54 B55 =>
 stN 2 a54 a53 B55 fun B56 =>
 mk (ob (xfld 0 a54) fun a57 =>
 ob (ldN false 1 a57 B56) fun a58 =>
 ob (Z1m (shr x4)) fun a59 =>
 ob (xfld 2 a59) fun a60 =>
 ob (ldN false 1 a60 B56) fun a61 =>
 ob (xbin PP .gtr 3 a58 a61) fun a62 =>
 asB a62 fun t63 => br t63 (mk (ob (xfld 1 a54) fun a64 =>
 ob (ldN false 1 a64 B56) fun a65 =>
 callS false EE 29 [(shr x4), (iv 26), a65] B56 fun a66 B67 =>
 ZfY m0 x2 x3 x4 x5 x50 x51 x52 (gcB m0 [x2, x3, x4, x5, x50, x51, x52] B67)))
 (ZfY m0 x2 x3 x4 x5 x50 x51 x52 (gcB m0 [x2, x3, x4, x5, x50, x51, x52] B56)))) := by kernel_rfl
theorem Zmp m0 x2 x3 x4 x5 B : Zii m0 x2 x3 x4 x5 B =
 mk (ob (Z1m (shr x4)) fun a68 =>
 ob (xfld 5 a68) fun a69 =>
 ob (xfld 0 a69) fun a70 =>
 ob (ldN false 1 a70 B) fun a71 =>
 ob (xbin PP .neq 30 a71 (iv 0)) fun a72 =>
 asB a72 fun t73 => br t73 (mk (ob (Z1o PP 29 []) fun a74 =>
 ob (Z1m (shr x4)) fun a75 =>
 ob (xfld 5 a75) fun a76 =>
 ob (ldN true 2 a76 B) fun a77 =>
 stN 9 x2 a74 B fun B78 =>
 stN 2 x3 a77 B78 fun B79 =>
 grd (Z7p a76 x2) (Zik x2 x3 B79)))
 (Zij m0 x2 x3 x4 x5 (gcB m0 [x2, x3, x4, x5] B))) := by kernel_rfl
theorem Zmo m0 x2 x3 x4 x5 x50 x51 x52 B : ZfY m0 x2 x3 x4 x5 x50 x51 x52 B =
 mk (ob (xbin PP .add 3 x52 (iv 1)) fun a80 =>
 ZdB m0 x2 x3 x4 x5 x50 x51 (shr a80) (gcB m0 [x2, x3, x4, x5, x50, x51, (shr a80)] B)) := by kernel_rfl
theorem Zmq m0 x2 x3 x4 x5 B : Zij m0 x2 x3 x4 x5 B =
 mk (ob (Z1m (shr x4)) fun a81 =>
 ob (xfld 2 a81) fun a82 =>
 ob (ldN false 1 a82 B) fun a83 =>
 ob (xfld 7 x5) fun a84 =>
 stN 1 a84 a83 B fun B85 =>
 mk (ob (ldN true 9 x5 B85) fun a86 =>
 ob (Z1o PP 32 []) fun a87 =>
 stN 9 x2 a86 B85 fun B88 =>
 stN 2 x3 a87 B88 fun B89 =>
 Zik x2 x3 B89)) := by kernel_rfl
theorem Zrm x0 B : EE 16 [x0] B =
 (let m0 := B.length
 mk (bz PP 29 B fun a1 B2 =>
 bz PP 32 B2 fun a3 B4 =>
 mk (ob (xlen PP 9 (shr x0)) fun a5 =>
 ob (xbin PP .gtr 3 a5 (iv 256)) fun a6 =>
 asB a6 fun t7 => br t7 (mk (ob (Z1o PP 29 []) fun a8 =>
 ob (Z1o PP 32 [(0, (iv 12))]) fun a9 =>
 stN 9 a1 a8 B4 fun B10 =>
 stN 2 a3 a9 B10 fun B11 =>
 Zik a1 a3 B11))
 (Zjq m0 x0 a1 a3 (gcB m0 [x0, a1, a3] B4))))) := (E_eq PP XX HH _ _ _).trans (by kernel_rfl)
def ZfZ (r0 : AV) (B : List Row) : Option Res :=
 ob (ob (some r0) fun v => ob (some []) fun vs => some (v :: vs)) fun vs => some ((nrmA (match vs with | [v] => v | vs => Z1W (vs.map shr))), B)
theorem Zrp x0 B : EE 18 [x0] B =
 (let m0 := B.length
 mk (mk (ob (xbin PP .geq 3 (shr x0) (iv 0)) fun a1 =>
 asB (shr a1) fun t2 => br t2 (ob (xbin PP .leq 3 (shr x0) (iv 1114111)) fun a3 =>
 asB (shr (shr a3)) fun t4 => br t4 (ob (xbin PP .lss 3 (shr x0) (iv 55296)) fun a5 =>
 asB (shr a5) fun t6 => br t6 (ZfZ (bv true) B)
 (ob (xbin PP .gtr 3 (shr x0) (iv 57343)) fun a7 =>
 ZfZ (shr (shr (shr a7))) B))
 (ZfZ (bv false) B))
 (ZfZ (bv false) B)))) := (E_eq PP XX HH _ _ _).trans (by kernel_rfl)
def Zqy (r0 : AV) (B : List Row) : Option Res :=
 ob (ob (some r0) fun v => ob (some []) fun vs => some (v :: vs)) fun vs => some ((nrmA (match vs with | [v] => v | vs => Z1W (vs.map shr))), B)
theorem Zrq x0 x1 B : EE 19 [x0, x1] B =
 (let m0 := B.length
 mk (bx x1 B fun a1 B2 =>
 mk (callS false EE 30 [(shr x0), (.clo 31 ([].map nrmA) ([a1].map nrmA))] B2 fun a3 B4 =>
 Zqy (shr a3) B4))) := (E_eq PP XX HH _ _ _).trans (by kernel_rfl)
def Zmr : Code := Z2P Tryd.f20
def Zg0 (r0 : AV) (B : List Row) : Option Res :=
 ob (ob (some r0) fun v => ob (some []) fun vs => some (v :: vs)) fun vs => some ((nrmA (match vs with | [v] => v | vs => Z1W (vs.map shr))), B)
def Zjs (m0 : Nat) : Kont := kret PP HH 20 Tryd.f20.results
def Zjt (m0 : Nat) (x0 : AV) (B : List Row) : Option Res := exec PP HH 20 m0 EE LL (l2 (l2 Zmr)) (Zjs m0) [(0, x0)] B
def Zju (m0 : Nat) (x0 : AV) (B : List Row) : Option Res := exec PP HH 20 m0 EE LL (l2 (l2 (l2 Zmr))) (Zjs m0) [(0, x0)] B
def Zjv (m0 : Nat) (x0 : AV) (B : List Row) : Option Res := exec PP HH 20 m0 EE LL (l2 (l2 (l2 (l2 Zmr)))) (Zjs m0) [(0, x0)] B
theorem ZnC m0 x0 B : Zjt m0 x0 B =
 mk (ob (xbin PP .lss 3 (shr x0) (iv 2048)) fun a5 =>
 asB a5 fun t6 => br t6 (mk (ob (xbin PP .quo 3 (shr x0) (iv 64)) fun a7 =>
 ob (xbin PP .add 3 (iv 192) a7) fun a8 =>
 ob (xcnv PP 3 5 a8) fun a9 =>
 ob (xbin PP .rem 3 (shr x0) (iv 64)) fun a10 =>
 ob (xbin PP .add 3 (iv 128) a10) fun a11 =>
 ob (xcnv PP 3 5 a11) fun a12 =>
 ob (xlit PP 40 2 [(0, a9), (1, a12)]) fun a13 =>
 Zg0 (shr a13) B))
 (Zju m0 x0 (gcB m0 [x0] B))) := by kernel_rfl
theorem ZnD m0 x0 B : Zju m0 x0 B =
 mk (ob (xbin PP .lss 3 (shr x0) (iv 65536)) fun a14 =>
 asB a14 fun t15 => br t15 (mk (ob (xbin PP .quo 3 (shr x0) (iv 4096)) fun a16 =>
 ob (xbin PP .add 3 (iv 224) a16) fun a17 =>
 ob (xcnv PP 3 5 a17) fun a18 =>
 ob (xbin PP .quo 3 (shr x0) (iv 64)) fun a19 =>
 ob (xbin PP .rem 3 a19 (iv 64)) fun a20 =>
 ob (xbin PP .add 3 (iv 128) a20) fun a21 =>
 ob (xcnv PP 3 5 a21) fun a22 =>
 ob (xbin PP .rem 3 (shr x0) (iv 64)) fun a23 =>
 ob (xbin PP .add 3 (iv 128) a23) fun a24 =>
 ob (xcnv PP 3 5 a24) fun a25 =>
 ob (xlit PP 40 3 [(0, a18), (1, a22), (2, a25)]) fun a26 =>
 Zg0 (shr a26) B))
 (Zjv m0 x0 (gcB m0 [x0] B))) := by kernel_rfl
theorem ZnE m0 x0 B : Zjv m0 x0 B =
 mk (ob (xbin PP .quo 3 (shr x0) (iv 262144)) fun a27 =>
 ob (xbin PP .add 3 (iv 240) a27) fun a28 =>
 ob (xcnv PP 3 5 a28) fun a29 =>
 ob (xbin PP .quo 3 (shr x0) (iv 4096)) fun a30 =>
 ob (xbin PP .rem 3 a30 (iv 64)) fun a31 =>
 ob (xbin PP .add 3 (iv 128) a31) fun a32 =>
 ob (xcnv PP 3 5 a32) fun a33 =>
 ob (xbin PP .quo 3 (shr x0) (iv 64)) fun a34 =>
 ob (xbin PP .rem 3 a34 (iv 64)) fun a35 =>
 ob (xbin PP .add 3 (iv 128) a35) fun a36 =>
 ob (xcnv PP 3 5 a36) fun a37 =>
 ob (xbin PP .rem 3 (shr x0) (iv 64)) fun a38 =>
 ob (xbin PP .add 3 (iv 128) a38) fun a39 =>
 ob (xcnv PP 3 5 a39) fun a40 =>
 ob (xlit PP 40 4 [(0, a29), (1, a33), (2, a37), (3, a40)]) fun a41 =>
 Zg0 (shr a41) B) := by kernel_rfl
theorem Zrr x0 B : EE 20 [x0] B =
 (let m0 := B.length
 mk (mk (ob (xbin PP .lss 3 (shr x0) (iv 128)) fun a1 =>
 asB a1 fun t2 => br t2 (mk (ob (xcnv PP 3 5 (shr x0)) fun a3 =>
 ob (xlit PP 40 1 [(0, a3)]) fun a4 =>
 Zg0 (shr a4) B))
 (Zjt m0 x0 (gcB m0 [x0] B))))) := (E_eq PP XX HH _ _ _).trans (by kernel_rfl)
def Zja : Code := Z2P Tryd.f27
def ZlA (r0 : AV) (B : List Row) : Option Res :=
 ob (ob (some r0) fun v => ob (some []) fun vs => some (v :: vs)) fun vs => some ((nrmA (match vs with | [v] => v | vs => Z1W (vs.map shr))), B)
def Zjw (m0 : Nat) : Kont := kret PP HH 27 Tryd.f27.results
def Zrt (m0 : Nat) : Kont := kseq HH 27 m0 (l2 (l2 Zja)) (exec PP HH 27 m0 EE LL (l2 (l2 Zja)) (Zjw m0)) (Zjw m0)
def Zhl (m0 : Nat) (B : List Row) : Option Res := exec PP HH 27 m0 EE LL (l1 (l2 (l1 (l2 Zja)))) (Zrt m0) [] B
def Zjx (m0 : Nat) (x0 x1 : AV) (B : List Row) : Option Res := exec PP HH 27 m0 EE LL (l2 (l2 Zja)) (Zjw m0) [(0, x0), (1, x1)] B
theorem ZnF m0 B : Zhl m0  B =
 mk (ZlA (bv false) B) := by kernel_rfl
theorem ZnG m0 x0 x1 B : Zjx m0 x0 x1 B =
 mk (ob (Z1m (shr x0)) fun a27 =>
 ob (xfld 1 a27) fun a28 =>
 ob (ldN false 1 a28 B) fun a29 =>
 ob (xlen PP 9 (shr x1)) fun a30 =>
 ob (xbin PP .add 3 a29 a30) fun a31 =>
 ob (Z1m (shr x0)) fun a32 =>
 ob (xfld 1 a32) fun a33 =>
 stN 1 a33 a31 B fun B34 =>
 mk (ZlA (bv true) B34)) := by kernel_rfl
theorem Zrs x0 x1 B : EE 27 [x0, x1] B =
 (let m0 := B.length
 mk (mk (ob (Z1m (shr x0)) fun a1 =>
 ob (xfld 0 a1) fun a2 =>
 ob (ldN false 1 a2 B) fun a3 =>
 ob (xlen PP 40 a3) fun a4 =>
 ob (Z1m (shr x0)) fun a5 =>
 ob (xfld 1 a5) fun a6 =>
 ob (ldN false 1 a6 B) fun a7 =>
 ob (xbin PP .sub 3 a4 a7) fun a8 =>
 ob (xlen PP 9 (shr x1)) fun a9 =>
 ob (xbin PP .lss 3 a8 a9) fun a10 =>
 asB (shr a10) fun t11 => br t11 (Zhl m0  (gcB m0 [] B))
 (ob (Z1m (shr x0)) fun a12 =>
 ob (xfld 0 a12) fun a13 =>
 ob (ldN false 1 a13 B) fun a14 =>
 ob (Z1m (shr x0)) fun a15 =>
 ob (xfld 1 a15) fun a16 =>
 ob (ldN false 1 a16 B) fun a17 =>
 ob (Z1m (shr x0)) fun a18 =>
 ob (xfld 1 a18) fun a19 =>
 ob (ldN false 1 a19 B) fun a20 =>
 ob (xlen PP 9 (shr x1)) fun a21 =>
 ob (xbin PP .add 3 a20 a21) fun a22 =>
 ob (xsl 1 a14 (some a17) (some a22) none) fun a23 =>
 ob (xcnv PP 40 9 a23) fun a24 =>
 ob (xbin PP .neq 9 a24 (shr x1)) fun a25 =>
 asB (shr a25) fun t26 => br t26 (Zhl m0  (gcB m0 [] B))
 (Zjx m0 x0 x1 (gcB m0 [x0, x1] B)))))) := (E_eq PP XX HH _ _ _).trans (by kernel_rfl)
def Zeq : Code := Z2P Tryd.f28
def Zqz (r0 : AV) (B : List Row) : Option Res :=
 ob (ob (ldN true 7 r0 B) fun v => ob (some []) fun vs => some (v :: vs)) fun vs => some ((nrmA (match vs with | [v] => v | vs => Z1W (vs.map shr))), B)
def Zjy (m0 : Nat) : Kont := kret PP HH 28 Tryd.f28.results
def Zrv (m0 : Nat) : Kont := kseq HH 28 m0 (l2 (l2 (l2 Zeq))) (exec PP HH 28 m0 EE LL (l2 (l2 (l2 Zeq))) (Zjy m0)) (Zjy m0)
def Zjz (m0 : Nat) : Kont := kblk 0 (Zrv m0)
def Zrw (m0 : Nat) : Kont := kloop HH 28 m0 (l1 (l1 (l1 (l2 (l2 Zeq))))) (LL 28 m0 (l1 (l1 (l1 (l2 (l2 Zeq))))) (Zjz m0)) (Zjz m0)
def ZdC (m0 : Nat) (x0 x2 x3 : AV) (B : List Row) : Option Res := lp (LL 28 m0 (l1 (l1 (l1 (l2 (l2 Zeq))))) (Zjz m0) [(0, x0), (2, x2), (3, x3)] B)
def ZjA (m0 : Nat) (x0 x2 x3 : AV) (B : List Row) : Option Res := exec PP HH 28 m0 EE LL (l2 (l1 (l1 (l1 (l2 (l2 Zeq)))))) (Zrw m0) [(0, x0), (2, x2), (3, x3)] B
def ZjB (m0 : Nat) (x2 x3 : AV) (B : List Row) : Option Res := exec PP HH 28 m0 EE LL (l2 (l2 (l2 Zeq))) (Zjy m0) [(2, x2), (3, x3)] B
theorem ZnH m0 x0 x2 x3 B : ZdC m0 x0 x2 x3 B =
 mk (callS false EE 27 [(shr x0), (.p (.v (.string (ByteArray.mk #[124]))))] B fun a6 B7 =>
 asB a6 fun t8 => br t8 (ZjA m0 x0 x2 x3 (gcB m0 [x0, x2, x3] B7))
 (ZjB m0 x2 x3 (gcB m0 [x2, x3] B7))) := (L_eq PP XX HH _ _ _ _ _ _).trans (by kernel_rfl)
theorem ZnI m0 x0 x2 x3 B : ZjA m0 x0 x2 x3 B =
 mk (callS false EE 35 [(shr x0)] B fun a9 B10 =>
 ob (xlit PP 25 1 [(0, a9)]) fun a11 =>
 ob (xapp 7 x3 a11) fun a12 =>
 ZdC m0 x0 x2 a12 (gcB m0 [x0, x2, a12] B10)) := by kernel_rfl
theorem ZnJ m0 x2 x3 B : ZjB m0 x2 x3 B =
 mk (callS false EE 36 [(iv 3), (shr x3)] B fun a13 B14 =>
 stN 7 x2 a13 B14 fun B15 =>
 Zqz x2 B15) := by kernel_rfl
theorem Zru x0 B : EE 28 [x0] B =
 (let m0 := B.length
 mk (bz PP 27 B fun a1 B2 =>
 mk (callS false EE 35 [(shr x0)] B2 fun a3 B4 =>
 ob (xlit PP 25 1 [(0, a3)]) fun a5 =>
 ZdC m0 x0 a1 a5 (gcB m0 [x0, a1, a5] B4)))) := (E_eq PP XX HH _ _ _).trans (by kernel_rfl)
def ZsP : Code := Z2P Tryd.f29
def ZqA (B : List Row) : Option Res :=
 ob (some []) fun vs => some ((nrmA (match vs with | [v] => v | vs => Z1W (vs.map shr))), B)
def Zry (m0 : Nat) : Kont := kret PP HH 29 Tryd.f29.results
def Zhm (m0 : Nat) (x0 : AV) (B : List Row) : Option Res := exec PP HH 29 m0 EE LL (l2 ZsP) (Zry m0) [(0, x0)] B
theorem ZnK m0 x0 B : Zhm m0 x0 B =
 mk (ob (Z1m (shr x0)) fun a11 =>
 ob (xfld 0 a11) fun a12 =>
 ob (ldN false 1 a12 B) fun a13 =>
 ob (xlen PP 40 a13) fun a14 =>
 ob (Z1m (shr x0)) fun a15 =>
 ob (xfld 1 a15) fun a16 =>
 stN 1 a16 a14 B fun B17 =>
 ZqA  B17) := by kernel_rfl
theorem Zrx x0 x1 x2 B : EE 29 [x0, x1, x2] B =
 (let m0 := B.length
 mk (ob (Z1m (shr x0)) fun a1 =>
 ob (xfld 5 a1) fun a2 =>
 ob (xfld 0 a2) fun a3 =>
 ob (ldN false 1 a3 B) fun a4 =>
 ob (xbin PP .eql 30 a4 (iv 0)) fun a5 =>
 asB a5 fun t6 => br t6 (mk (ob (Z1o PP 32 [(0, (shr x1)), (1, (shr x2))]) fun a7 =>
 ob (Z1m (shr x0)) fun a8 =>
 ob (xfld 5 a8) fun a9 =>
 stN 2 a9 a7 B fun B10 =>
 Zhm m0 x0 (gcB m0 [x0] B10)))
 (Zhm m0 x0 (gcB m0 [x0] B)))) := (E_eq PP XX HH _ _ _).trans (by kernel_rfl)
def ZqB (r0 : AV) (B : List Row) : Option Res :=
 ob (ob (some r0) fun v => ob (some []) fun vs => some (v :: vs)) fun vs => some ((nrmA (match vs with | [v] => v | vs => Z1W (vs.map shr))), B)
theorem Zrz x0 x1 B : EE 30 [x0, x1] B =
 (let m0 := B.length
 mk (mk (callS false EE 37 [(shr x0), (shr x1)] B fun a1 B2 =>
 ob (xbin PP .geq 3 a1 (iv 0)) fun a3 =>
 ZqB (shr a3) B2))) := (E_eq PP XX HH _ _ _).trans (by kernel_rfl)
def ZlB (r0 : AV) (B : List Row) : Option Res :=
 ob (ob (some r0) fun v => ob (some []) fun vs => some (v :: vs)) fun vs => some ((nrmA (match vs with | [v] => v | vs => Z1W (vs.map shr))), B)
theorem ZrA x0 x1 B : EE 31 [x0, x1] B =
 (let m0 := B.length
 mk (bx x0 B fun a1 B2 =>
 mk (ob (xfld 0 a1) fun a3 =>
 ob (ldN false 1 a3 B2) fun a4 =>
 ob (ldN false 1 x1 B2) fun a5 =>
 ob (xbin PP .leq 3 a4 a5) fun a6 =>
 asB (shr a6) fun t7 => br t7 (ob (ldN false 1 x1 B2) fun a8 =>
 ob (xfld 1 a1) fun a9 =>
 ob (ldN false 1 a9 B2) fun a10 =>
 ob (xbin PP .leq 3 a8 a10) fun a11 =>
 ZlB (shr (shr a11)) B2)
 (ZlB (bv false) B2)))) := (E_eq PP XX HH _ _ _).trans (by kernel_rfl)
def ZcU : Code := Z2P Tryd.f35
def ZqC (r0 : AV) (B : List Row) : Option Res :=
 ob (ob (ldN true 7 r0 B) fun v => ob (some []) fun vs => some (v :: vs)) fun vs => some ((nrmA (match vs with | [v] => v | vs => Z1W (vs.map shr))), B)
def ZjC (m0 : Nat) : Kont := kret PP HH 35 Tryd.f35.results
def ZrC (m0 : Nat) : Kont := kseq HH 35 m0 (l2 (l2 (l2 (l1 (l2 ZcU))))) (exec PP HH 35 m0 EE LL (l2 (l2 (l2 (l1 (l2 ZcU))))) (ZjC m0)) (ZjC m0)
def ZjD (m0 : Nat) : Kont := kblk 0 (ZrC m0)
def ZnL (m0 : Nat) : Kont := kloop HH 35 m0 (l1 (l1 (l1 (l2 (l2 (l1 (l2 ZcU))))))) (LL 35 m0 (l1 (l1 (l1 (l2 (l2 (l1 (l2 ZcU))))))) (ZjD m0)) (ZjD m0)
def ZrD (m0 : Nat) : Kont := kblk 1 (ZnL m0)
def ZdD (m0 : Nat) (x0 x2 x3 : AV) (B : List Row) : Option Res := lp (LL 35 m0 (l1 (l1 (l1 (l2 (l2 (l1 (l2 ZcU))))))) (ZjD m0) [(0, x0), (2, x2), (3, x3)] B)
def ZjE (m0 : Nat) (x0 x2 x3 : AV) (B : List Row) : Option Res := exec PP HH 35 m0 EE LL (l2 (l1 (l1 (l1 (l2 (l2 (l1 (l2 ZcU)))))))) (ZnL m0) [(0, x0), (2, x2), (3, x3)] B
def ZdE (m0 : Nat) (x2 x3 : AV) (B : List Row) : Option Res := exec PP HH 35 m0 EE LL (l2 (l2 (l2 (l1 (l2 ZcU))))) (ZjC m0) [(2, x2), (3, x3)] B
def Zfi (m0 : Nat) (x0 x2 x3 : AV) (B : List Row) : Option Res := exec PP HH 35 m0 EE LL (l2 (l1 (l2 (l1 (l1 (l1 (l2 (l2 (l1 (l2 ZcU)))))))))) (ZrD m0) [(0, x0), (2, x2), (3, x3)] B
theorem ZnM m0 x0 x2 x3 B : ZdD m0 x0 x2 x3 B =
 mk (ob (Z1m (shr x0)) fun a3 =>
 ob (xfld 5 a3) fun a4 =>
 ob (xfld 0 a4) fun a5 =>
 ob (ldN false 1 a5 B) fun a6 =>
 ob (xbin PP .eql 30 a6 (iv 0)) fun a7 =>
 asB a7 fun t8 => br t8 (ZjE m0 x0 x2 x3 (gcB m0 [x0, x2, x3] B))
 (ZdE m0 x2 x3 (gcB m0 [x2, x3] B))) := (L_eq PP XX HH _ _ _ _ _ _).trans (by kernel_rfl)
theorem ZnN m0 x0 x2 x3 B : ZjE m0 x0 x2 x3 B =
 mk (callS false EE 41 [(shr x0)] B fun a9 B10 =>
 mk (ob (xbin PP .eql 3 a9 (iv (-1))) fun a11 =>
 asB (shr a11) fun t12 => br t12 (asB (shr a11) fun t13 => br t13 (ZdE m0 x2 x3 (gcB m0 [x2, x3] B10))
 (Zfi m0 x0 x2 x3 (gcB m0 [x0, x2, x3] B10)))
 (mk (ob (xbin PP .eql 3 a9 (iv 124)) fun a14 =>
 asB (shr a14) fun t15 => br t15 (asB (shr a14) fun t16 => br t16 (ZdE m0 x2 x3 (gcB m0 [x2, x3] B10))
 (Zfi m0 x0 x2 x3 (gcB m0 [x0, x2, x3] B10)))
 (mk (ob (xbin PP .eql 3 a9 (iv 41)) fun a17 =>
 asB (shr a17) fun t18 => br t18 (ZdE m0 x2 x3 (gcB m0 [x2, x3] B10))
 (Zfi m0 x0 x2 x3 (gcB m0 [x0, x2, x3] B10)))))))) := by kernel_rfl
theorem ZnP m0 x2 x3 B : ZdE m0 x2 x3 B =
 mk (callS false EE 36 [(iv 2), (shr x3)] B fun a19 B20 =>
 stN 7 x2 a19 B20 fun B21 =>
 ZqC x2 B21) := by kernel_rfl
theorem ZnO m0 x0 x2 x3 B : Zfi m0 x0 x2 x3 B =
 mk (callS false EE 42 [(shr x0)] B fun a22 B23 =>
 ob (xext 0 (shr a22)) fun a24 =>
 ob (xext 1 (shr a22)) fun a25 =>
 bz PP 27 B23 fun a26 B27 =>
 stN 7 a26 (shr a24) B27 fun B28 =>
 mk (ob (ldN true 7 a26 B28) fun a29 =>
 callS false EE 43 [(shr x0), a29, (shr (shr (shr a25)))] B28 fun a30 B31 =>
 ob (xlit PP 25 1 [(0, a30)]) fun a32 =>
 ob (xapp 7 x3 a32) fun a33 =>
 ZdD m0 x0 x2 a33 (gcB m0 [x0, x2, a33] B31))) := by kernel_rfl
theorem ZrB x0 B : EE 35 [x0] B =
 (let m0 := B.length
 mk (bz PP 27 B fun a1 B2 =>
 mk (ZdD m0 x0 a1 nilA (gcB m0 [x0, a1, nilA] (gcB m0 [x0, a1, nilA] B2))))) := (E_eq PP XX HH _ _ _).trans (by kernel_rfl)
def ZsQ : Code := Z2P Tryd.f36
def Zil (r0 : AV) (B : List Row) : Option Res :=
 ob (ob (ldN true 7 r0 B) fun v => ob (some []) fun vs => some (v :: vs)) fun vs => some ((nrmA (match vs with | [v] => v | vs => Z1W (vs.map shr))), B)
def ZrF (m0 : Nat) : Kont := kret PP HH 36 Tryd.f36.results
def ZjF (m0 : Nat) (x0 x1 x4 : AV) (B : List Row) : Option Res := exec PP HH 36 m0 EE LL (l2 (l2 ZsQ)) (ZrF m0) [(0, x0), (1, x1), (4, x4)] B
theorem ZnQ m0 x0 x1 x4 B : ZjF m0 x0 x1 x4 B =
 mk (ob (Z1o PP 27 [(0, (shr x0)), (6, (shr x1))]) fun a13 =>
 stN 7 x4 a13 B fun B14 =>
 Zil x4 B14) := by kernel_rfl
theorem ZrE x0 x1 B : EE 36 [x0, x1] B =
 (let m0 := B.length
 mk (bz PP 27 B fun a1 B2 =>
 mk (ob (xlen PP 25 (shr x1)) fun a3 =>
 mk (ob (xbin PP .eql 3 a3 (iv 0)) fun a4 =>
 asB (shr a4) fun t5 => br t5 (mk (ob (Z1o PP 27 []) fun a6 =>
 stN 7 a1 a6 B2 fun B7 =>
 Zil a1 B7))
 (mk (ob (xbin PP .eql 3 a3 (iv 1)) fun a8 =>
 asB (shr a8) fun t9 => br t9 (mk (ob (xidx 7 (shr x1) (iv 0)) fun a10 =>
 ob (ldN true 7 a10 B2) fun a11 =>
 stN 7 a1 a11 B2 fun B12 =>
 Zil a1 B12))
 (ZjF m0 x0 x1 a1 (gcB m0 [x0, x1, a1] B2)))))))) := (E_eq PP XX HH _ _ _).trans (by kernel_rfl)
def ZcV : Code := Z2P Tryd.f37
def ZlC (r0 : AV) (B : List Row) : Option Res :=
 ob (ob (some r0) fun v => ob (some []) fun vs => some (v :: vs)) fun vs => some ((nrmA (match vs with | [v] => v | vs => Z1W (vs.map shr))), B)
def ZjG (m0 : Nat) : Kont := kret PP HH 37 Tryd.f37.results
def ZrH (m0 : Nat) : Kont := kseq HH 37 m0 (l2 (l2 ZcV)) (exec PP HH 37 m0 EE LL (l2 (l2 ZcV)) (ZjG m0)) (ZjG m0)
def ZjH (m0 : Nat) : Kont := kblk 0 (ZrH m0)
def ZnR (m0 : Nat) : Kont := kloop HH 37 m0 (l1 (l1 (l2 (l1 (l2 ZcV))))) (LL 37 m0 (l1 (l1 (l2 (l1 (l2 ZcV))))) (ZjH m0)) (ZjH m0)
def ZdF (m0 : Nat) (x0 x1 x7 x8 : AV) (B : List Row) : Option Res := lp (LL 37 m0 (l1 (l1 (l2 (l1 (l2 ZcV))))) (ZjH m0) [(0, x0), (1, x1), (7, x7), (8, x8)] B)
def ZjI (m0 : Nat) (x0 x1 x7 x8 : AV) (B : List Row) : Option Res := exec PP HH 37 m0 EE LL (l2 (l2 (l1 (l1 (l2 (l1 (l2 ZcV))))))) (ZnR m0) [(0, x0), (1, x1), (7, x7), (8, x8)] B
def ZjK (m0 : Nat) (B : List Row) : Option Res := exec PP HH 37 m0 EE LL (l2 (l2 ZcV)) (ZjG m0) [] B
def ZjJ (m0 : Nat) (x0 x1 x7 x8 : AV) (B : List Row) : Option Res := exec PP HH 37 m0 EE LL (l2 (l2 (l2 (l1 (l1 (l2 (l1 (l2 ZcV)))))))) (ZnR m0) [(0, x0), (1, x1), (7, x7), (8, x8)] B
theorem ZnS m0 x0 x1 x7 x8 B : ZdF m0 x0 x1 x7 x8 B =
 mk (ob (xbin PP .lss 3 x8 x7) fun a2 =>
 asB a2 fun t3 => br t3 (ZjI m0 x0 x1 x7 x8 (gcB m0 [x0, x1, x7, x8] B))
 (ZjK m0  (gcB m0 [] B))) := (L_eq PP XX HH _ _ _ _ _ _).trans (by kernel_rfl)
theorem ZnT m0 x0 x1 x7 x8 B : ZjI m0 x0 x1 x7 x8 B =
 mk (mk (ob (xidx 2 (shr x0) (shr (shr (shr x8)))) fun a4 =>
 ob (ldN true 2 a4 B) fun a5 =>
 callV HH EE (shr x1) [a5] B fun a6 B7 =>
 asB a6 fun t8 => br t8 (mk (ZlC (shr (shr (shr (shr x8)))) B7))
 (ZjJ m0 x0 x1 x7 x8 (gcB m0 [x0, x1, x7, x8] B7)))) := by kernel_rfl
theorem ZnV m0 B : ZjK m0  B =
 mk (ZlC (iv (-1)) B) := by kernel_rfl
theorem ZnU m0 x0 x1 x7 x8 B : ZjJ m0 x0 x1 x7 x8 B =
 mk (ob (xbin PP .add 3 x8 (iv 1)) fun a9 =>
 ZdF m0 x0 x1 x7 (shr a9) (gcB m0 [x0, x1, x7, (shr a9)] B)) := by kernel_rfl
theorem ZrG x0 x1 B : EE 37 [x0, x1] B =
 (let m0 := B.length
 mk (mk (ob (xlen PP 24 (shr x0)) fun a1 =>
 ZdF m0 x0 x1 a1 (iv 0) (gcB m0 [x0, x1, a1, (iv 0)] B)))) := (E_eq PP XX HH _ _ _).trans (by kernel_rfl)
def ZsR : Code := Z2P Tryd.f41
def ZlD (r0 : AV) (B : List Row) : Option Res :=
 ob (ob (some r0) fun v => ob (some []) fun vs => some (v :: vs)) fun vs => some ((nrmA (match vs with | [v] => v | vs => Z1W (vs.map shr))), B)
def ZrJ (m0 : Nat) : Kont := kret PP HH 41 Tryd.f41.results
def ZjL (m0 : Nat) (x0 : AV) (B : List Row) : Option Res := exec PP HH 41 m0 EE LL (l2 (l2 ZsR)) (ZrJ m0) [(0, x0)] B
theorem ZnW m0 x0 B : ZjL m0 x0 B =
 mk (ob (Z1m (shr x0)) fun a10 =>
 ob (xfld 0 a10) fun a11 =>
 ob (ldN false 1 a11 B) fun a12 =>
 ob (Z1m (shr x0)) fun a13 =>
 ob (xfld 1 a13) fun a14 =>
 ob (ldN false 1 a14 B) fun a15 =>
 callS false EE 45 [a12, a15] B fun a16 B17 =>
 ob (xext 0 (shr a16)) fun a18 =>
 ob (xext 1 (shr a16)) fun a19 =>
 mk (ZlD (shr (shr (shr (shr a18)))) B17)) := by kernel_rfl
theorem ZrI x0 B : EE 41 [x0] B =
 (let m0 := B.length
 mk (mk (ob (Z1m (shr x0)) fun a1 =>
 ob (xfld 1 a1) fun a2 =>
 ob (ldN false 1 a2 B) fun a3 =>
 ob (Z1m (shr x0)) fun a4 =>
 ob (xfld 0 a4) fun a5 =>
 ob (ldN false 1 a5 B) fun a6 =>
 ob (xlen PP 40 a6) fun a7 =>
 ob (xbin PP .geq 3 a3 a7) fun a8 =>
 asB a8 fun t9 => br t9 (mk (ZlD (iv (-1)) B))
 (ZjL m0 x0 (gcB m0 [x0] B))))) := (E_eq PP XX HH _ _ _).trans (by kernel_rfl)
def ZsS : Code := Z2P Tryd.f42
def Z5k (r0 r1 : AV) (B : List Row) : Option Res :=
 ob (ob (ldN true 7 r0 B) fun v => ob (ob (some r1) fun v => ob (some []) fun vs => some (v :: vs)) fun vs => some (v :: vs)) fun vs => some ((nrmA (match vs with | [v] => v | vs => Z1W (vs.map shr))), B)
def ZrL (m0 : Nat) : Kont := kret PP HH 42 Tryd.f42.results
def Z5P (m0 : Nat) (x2 : AV) (B : List Row) : Option Res := exec PP HH 42 m0 EE LL (l2 (l2 (l2 ZsS))) (ZrL m0) [(2, x2)] B
theorem Zms m0 x2 B : Z5P m0 x2 B =
 mk (ob (Z1o PP 27 []) fun a151 =>
 stN 7 x2 a151 B fun B152 =>
 Z5k x2 (bv true) B152) := by kernel_rfl
theorem ZrK x0 B : EE 42 [x0] B =
 (let m0 := B.length
 mk (bz PP 27 B fun a1 B2 =>
 mk (ob (Z1m (shr x0)) fun a3 =>
 ob (xfld 1 a3) fun a4 =>
 ob (ldN false 1 a4 B2) fun a5 =>
 mk (callS false EE 46 [(shr x0)] B2 fun a6 B7 =>
 mk (mk (ob (xbin PP .eql 3 (shr (shr a6)) (iv 46)) fun a8 =>
 asB (shr a8) fun t9 => br t9 (mk (callS false EE 48 [(iv 10)] B7 fun a10 B11 =>
 ob (xlit PP 23 1 [(0, a10)]) fun a12 =>
 callS false EE 47 [(bv true), a12] B11 fun a13 B14 =>
 stN 7 a1 a13 B14 fun B15 =>
 Z5k a1 (bv true) B15))
 (mk (ob (xbin PP .eql 3 (shr (shr a6)) (iv 94)) fun a16 =>
 asB (shr a16) fun t17 => br t17 (mk (ob (Z1o PP 27 [(0, (iv 9)), (4, (iv 0))]) fun a18 =>
 stN 7 a1 a18 B7 fun B19 =>
 Z5k a1 (bv false) B19))
 (mk (ob (xbin PP .eql 3 (shr (shr a6)) (iv 36)) fun a20 =>
 asB (shr a20) fun t21 => br t21 (mk (ob (Z1o PP 27 [(0, (iv 9)), (4, (iv 1))]) fun a22 =>
 stN 7 a1 a22 B7 fun B23 =>
 Z5k a1 (bv false) B23))
 (mk (ob (xbin PP .eql 3 (shr (shr a6)) (iv 92)) fun a24 =>
 asB (shr a24) fun t25 => br t25 (mk (callS false EE 49 [(shr x0), (shr (shr a5))] B7 fun a26 B27 =>
 bz PP 27 B27 fun a28 B29 =>
 stN 7 a28 a26 B29 fun B30 =>
 mk (ob (ldN true 7 a28 B30) fun a31 =>
 ob (xfld 0 a28) fun a32 =>
 ob (ldN false 1 a32 B30) fun a33 =>
 ob (xbin PP .neq 3 a33 (iv 9)) fun a34 =>
 stN 7 a1 a31 B30 fun B35 =>
 grd (Z7p a32 a1) (Z5k a1 (shr a34) B35))))
 (mk (ob (xbin PP .eql 3 (shr (shr a6)) (iv 91)) fun a36 =>
 asB (shr a36) fun t37 => br t37 (mk (callS false EE 50 [(shr x0), (shr (shr a5))] B7 fun a38 B39 =>
 stN 7 a1 a38 B39 fun B40 =>
 Z5k a1 (bv true) B40))
 (mk (ob (xbin PP .eql 3 (shr (shr a6)) (iv 40)) fun a41 =>
 asB (shr a41) fun t42 => br t42 (mk (callS false EE 51 [(shr x0), (shr (shr a5))] B7 fun a43 B44 =>
 ob (xext 0 a43) fun a45 =>
 ob (xext 1 a43) fun a46 =>
 stN 7 a1 (shr a45) B44 fun B47 =>
 Z5k a1 (shr (shr a46)) B47))
 (mk (ob (xbin PP .eql 3 (shr (shr a6)) (iv 42)) fun a48 =>
 asB (shr a48) fun t49 => br t49 (asB (shr a48) fun t50 => br t50 (mk (callS false EE 29 [(shr x0), (iv 23), (shr (shr a5))] B7 fun a51 B52 =>
 Z5P m0 a1 (gcB m0 [a1] B52)))
 (mk (ob (xbin PP .eql 3 (shr (shr a6)) (iv 93)) fun a53 =>
 asB (shr a53) fun t54 => br t54 (asB (shr a53) fun t55 => br t55 (mk (callS false EE 29 [(shr x0), (iv 20), (shr (shr a5))] B7 fun a56 B57 =>
 Z5P m0 a1 (gcB m0 [a1] B57)))
 (mk (callS false EE 48 [(shr (shr a6))] B7 fun a58 B59 =>
 ob (xlit PP 23 1 [(0, a58)]) fun a60 =>
 callS false EE 47 [(bv false), a60] B59 fun a61 B62 =>
 stN 7 a1 a61 B62 fun B63 =>
 Z5k a1 (bv true) B63)))
 (mk (ob (xbin PP .eql 3 (shr (shr a6)) (iv 125)) fun a64 =>
 asB (shr a64) fun t65 => br t65 (mk (callS false EE 29 [(shr x0), (iv 20), (shr (shr a5))] B7 fun a66 B67 =>
 Z5P m0 a1 (gcB m0 [a1] B67)))
 (mk (callS false EE 48 [(shr (shr a6))] B7 fun a68 B69 =>
 ob (xlit PP 23 1 [(0, a68)]) fun a70 =>
 callS false EE 47 [(bv false), a70] B69 fun a71 B72 =>
 stN 7 a1 a71 B72 fun B73 =>
 Z5k a1 (bv true) B73)))))))
 (mk (ob (xbin PP .eql 3 (shr (shr a6)) (iv 43)) fun a74 =>
 asB (shr a74) fun t75 => br t75 (asB (shr a74) fun t76 => br t76 (mk (callS false EE 29 [(shr x0), (iv 23), (shr (shr a5))] B7 fun a77 B78 =>
 Z5P m0 a1 (gcB m0 [a1] B78)))
 (mk (ob (xbin PP .eql 3 (shr (shr a6)) (iv 93)) fun a79 =>
 asB (shr a79) fun t80 => br t80 (asB (shr a79) fun t81 => br t81 (mk (callS false EE 29 [(shr x0), (iv 20), (shr (shr a5))] B7 fun a82 B83 =>
 Z5P m0 a1 (gcB m0 [a1] B83)))
 (mk (callS false EE 48 [(shr (shr a6))] B7 fun a84 B85 =>
 ob (xlit PP 23 1 [(0, a84)]) fun a86 =>
 callS false EE 47 [(bv false), a86] B85 fun a87 B88 =>
 stN 7 a1 a87 B88 fun B89 =>
 Z5k a1 (bv true) B89)))
 (mk (ob (xbin PP .eql 3 (shr (shr a6)) (iv 125)) fun a90 =>
 asB (shr a90) fun t91 => br t91 (mk (callS false EE 29 [(shr x0), (iv 20), (shr (shr a5))] B7 fun a92 B93 =>
 Z5P m0 a1 (gcB m0 [a1] B93)))
 (mk (callS false EE 48 [(shr (shr a6))] B7 fun a94 B95 =>
 ob (xlit PP 23 1 [(0, a94)]) fun a96 =>
 callS false EE 47 [(bv false), a96] B95 fun a97 B98 =>
 stN 7 a1 a97 B98 fun B99 =>
 Z5k a1 (bv true) B99)))))))
 (mk (ob (xbin PP .eql 3 (shr (shr a6)) (iv 63)) fun a100 =>
 asB (shr a100) fun t101 => br t101 (asB (shr a100) fun t102 => br t102 (mk (callS false EE 29 [(shr x0), (iv 23), (shr (shr a5))] B7 fun a103 B104 =>
 Z5P m0 a1 (gcB m0 [a1] B104)))
 (mk (ob (xbin PP .eql 3 (shr (shr a6)) (iv 93)) fun a105 =>
 asB (shr a105) fun t106 => br t106 (asB (shr a105) fun t107 => br t107 (mk (callS false EE 29 [(shr x0), (iv 20), (shr (shr a5))] B7 fun a108 B109 =>
 Z5P m0 a1 (gcB m0 [a1] B109)))
 (mk (callS false EE 48 [(shr (shr a6))] B7 fun a110 B111 =>
 ob (xlit PP 23 1 [(0, a110)]) fun a112 =>
 callS false EE 47 [(bv false), a112] B111 fun a113 B114 =>
 stN 7 a1 a113 B114 fun B115 =>
 Z5k a1 (bv true) B115)))
 (mk (ob (xbin PP .eql 3 (shr (shr a6)) (iv 125)) fun a116 =>
 asB (shr a116) fun t117 => br t117 (mk (callS false EE 29 [(shr x0), (iv 20), (shr (shr a5))] B7 fun a118 B119 =>
 Z5P m0 a1 (gcB m0 [a1] B119)))
 (mk (callS false EE 48 [(shr (shr a6))] B7 fun a120 B121 =>
 ob (xlit PP 23 1 [(0, a120)]) fun a122 =>
 callS false EE 47 [(bv false), a122] B121 fun a123 B124 =>
 stN 7 a1 a123 B124 fun B125 =>
 Z5k a1 (bv true) B125)))))))
 (mk (ob (xbin PP .eql 3 (shr (shr a6)) (iv 123)) fun a126 =>
 asB (shr a126) fun t127 => br t127 (mk (callS false EE 29 [(shr x0), (iv 23), (shr (shr a5))] B7 fun a128 B129 =>
 Z5P m0 a1 (gcB m0 [a1] B129)))
 (mk (ob (xbin PP .eql 3 (shr (shr a6)) (iv 93)) fun a130 =>
 asB (shr a130) fun t131 => br t131 (asB (shr a130) fun t132 => br t132 (mk (callS false EE 29 [(shr x0), (iv 20), (shr (shr a5))] B7 fun a133 B134 =>
 Z5P m0 a1 (gcB m0 [a1] B134)))
 (mk (callS false EE 48 [(shr (shr a6))] B7 fun a135 B136 =>
 ob (xlit PP 23 1 [(0, a135)]) fun a137 =>
 callS false EE 47 [(bv false), a137] B136 fun a138 B139 =>
 stN 7 a1 a138 B139 fun B140 =>
 Z5k a1 (bv true) B140)))
 (mk (ob (xbin PP .eql 3 (shr (shr a6)) (iv 125)) fun a141 =>
 asB (shr a141) fun t142 => br t142 (mk (callS false EE 29 [(shr x0), (iv 20), (shr (shr a5))] B7 fun a143 B144 =>
 Z5P m0 a1 (gcB m0 [a1] B144)))
 (mk (callS false EE 48 [(shr (shr a6))] B7 fun a145 B146 =>
 ob (xlit PP 23 1 [(0, a145)]) fun a147 =>
 callS false EE 47 [(bv false), a147] B146 fun a148 B149 =>
 stN 7 a1 a148 B149 fun B150 =>
 Z5k a1 (bv true) B150)))))))))))))))))))))))))))))) := (E_eq PP XX HH _ _ _).trans (by kernel_rfl)
def Zmt : Code := Z2P Tryd.f43
def ZlE (r0 : AV) (B : List Row) : Option Res :=
 ob (ob (ldN true 7 r0 B) fun v => ob (some []) fun vs => some (v :: vs)) fun vs => some ((nrmA (match vs with | [v] => v | vs => Z1W (vs.map shr))), B)
def ZjM (m0 : Nat) : Kont := kret PP HH 43 Tryd.f43.results
def Zc5 (m0 : Nat) (x0 x2 x6 x7 x8 : AV) (B : List Row) : Option Res := exec PP HH 43 m0 EE LL (l2 (l2 (l2 (l2 Zmt)))) (ZjM m0) [(0, x0), (2, x2), (6, x6), (7, x7), (8, x8)] B
def Zg1 (m0 : Nat) (x0 x6 x8 : AV) (B : List Row) : Option Res := exec PP HH 43 m0 EE LL (l2 (l2 (l2 (l2 (l2 Zmt))))) (ZjM m0) [(0, x0), (6, x6), (8, x8)] B
def ZdG (m0 : Nat) (x6 x8 : AV) (B : List Row) : Option Res := exec PP HH 43 m0 EE LL (l2 (l2 (l2 (l2 (l2 (l2 Zmt)))))) (ZjM m0) [(6, x6), (8, x8)] B
theorem Zmu m0 x0 x2 x6 x7 x8 B : Zc5 m0 x0 x2 x6 x7 x8 B =
 mk (ob (xun PP .not (shr x2)) fun a40 =>
 asB a40 fun t41 => br t41 (mk (callS false EE 29 [(shr x0), (iv 23), (shr x7)] B fun a42 B43 =>
 Zg1 m0 x0 x6 x8 (gcB m0 [x0, x6, x8] B43)))
 (Zg1 m0 x0 x6 x8 (gcB m0 [x0, x6, x8] B))) := by kernel_rfl
theorem Zmv m0 x0 x6 x8 B : Zg1 m0 x0 x6 x8 B =
 mk (callS false EE 27 [(shr x0), (.p (.v (.string (ByteArray.mk #[63]))))] B fun a44 B45 =>
 asB (shr a44) fun t46 => br t46 (mk (ob (xfld 3 x8) fun a47 =>
 stN 1 a47 (iv 1) B45 fun B48 =>
 ZdG m0 x6 x8 (gcB m0 [x6, x8] B48)))
 (mk (callS false EE 27 [(shr x0), (.p (.v (.string (ByteArray.mk #[43]))))] B45 fun a49 B50 =>
 asB (shr a49) fun t51 => br t51 (mk (ob (xfld 3 x8) fun a52 =>
 stN 1 a52 (iv 2) B50 fun B53 =>
 ZdG m0 x6 x8 (gcB m0 [x6, x8] B53)))
 (ZdG m0 x6 x8 (gcB m0 [x6, x8] B50))))) := by kernel_rfl
theorem Zmw m0 x6 x8 B : ZdG m0 x6 x8 B =
 mk (ob (ldN true 7 x8 B) fun a54 =>
 stN 7 x6 a54 B fun B55 =>
 ZlE x6 B55) := by kernel_rfl
theorem ZrM x0 x1 x2 B : EE 43 [x0, x1, x2] B =
 (let m0 := B.length
 mk (bx x1 B fun a1 B2 =>
 bz PP 27 B2 fun a3 B4 =>
 mk (ob (Z1m (shr x0)) fun a5 =>
 ob (xfld 1 a5) fun a6 =>
 ob (ldN false 1 a6 B4) fun a7 =>
 mk (ob (ldN true 7 a1 B4) fun a8 =>
 ob (xlit PP 25 1 [(0, a8)]) fun a9 =>
 ob (Z1o PP 27 [(0, (iv 4)), (2, (iv (-1))), (6, a9)]) fun a10 =>
 bz PP 27 B4 fun a11 B12 =>
 stN 7 a11 a10 B12 fun B13 =>
 mk (callS false EE 27 [(shr x0), (.p (.v (.string (ByteArray.mk #[42]))))] B13 fun a14 B15 =>
 asB (shr a14) fun t16 => br t16 (Zc5 m0 x0 x2 a3 (shr a7) a11 (gcB m0 [x0, x2, a3, (shr a7), a11] B15))
 (mk (callS false EE 27 [(shr x0), (.p (.v (.string (ByteArray.mk #[43]))))] B15 fun a17 B18 =>
 asB (shr a17) fun t19 => br t19 (mk (ob (xfld 1 a11) fun a20 =>
 stN 1 a20 (iv 1) B18 fun B21 =>
 Zc5 m0 x0 x2 a3 (shr a7) a11 (gcB m0 [x0, x2, a3, (shr a7), a11] B21)))
 (mk (callS false EE 27 [(shr x0), (.p (.v (.string (ByteArray.mk #[63]))))] B18 fun a22 B23 =>
 asB (shr a22) fun t24 => br t24 (mk (ob (xfld 2 a11) fun a25 =>
 stN 1 a25 (iv 1) B23 fun B26 =>
 Zc5 m0 x0 x2 a3 (shr a7) a11 (gcB m0 [x0, x2, a3, (shr a7), a11] B26)))
 (mk (callS false EE 27 [(shr x0), (.p (.v (.string (ByteArray.mk #[123]))))] B23 fun a27 B28 =>
 asB (shr a27) fun t29 => br t29 (mk (callS false EE 52 [(shr x0), (shr (shr a7))] B28 fun a30 B31 =>
 ob (xext 0 (shr a30)) fun a32 =>
 ob (xext 1 (shr a30)) fun a33 =>
 ob (xfld 1 a11) fun a34 =>
 stN 1 a34 (shr a32) B31 fun B35 =>
 ob (xfld 2 a11) fun a36 =>
 stN 1 a36 (shr a33) B35 fun B37 =>
 Zc5 m0 x0 x2 a3 (shr a7) a11 (gcB m0 [x0, x2, a3, (shr a7), a11] B37)))
 (mk (ob (ldN true 7 a1 B28) fun a38 =>
 stN 7 a3 a38 B28 fun B39 =>
 ZlE a3 B39))))))))))))) := (E_eq PP XX HH _ _ _).trans (by kernel_rfl)
def ZcW : Code := Z2P Tryd.f45
def Zim (r0 r1 : AV) (B : List Row) : Option Res :=
 ob (ob (some r0) fun v => ob (ob (some r1) fun v => ob (some []) fun vs => some (v :: vs)) fun vs => some (v :: vs)) fun vs => some ((nrmA (match vs with | [v] => v | vs => Z1W (vs.map shr))), B)
def ZdH (m0 : Nat) : Kont := kret PP HH 45 Tryd.f45.results
def ZrO (m0 : Nat) : Kont := kseq HH 45 m0 (l2 (l2 ZcW)) (exec PP HH 45 m0 EE LL (l2 (l2 ZcW)) (ZdH m0)) (ZdH m0)
def ZrP (m0 : Nat) : Kont := kseq HH 45 m0 (l2 (l2 (l2 (l2 ZcW)))) (exec PP HH 45 m0 EE LL (l2 (l2 (l2 (l2 ZcW)))) (ZdH m0)) (ZdH m0)
def Zhn (m0 : Nat) (B : List Row) : Option Res := exec PP HH 45 m0 EE LL (l1 (l2 (l1 (l2 ZcW)))) (ZrO m0) [] B
def ZjN (m0 : Nat) (x0 x1 : AV) (B : List Row) : Option Res := exec PP HH 45 m0 EE LL (l2 (l2 ZcW)) (ZdH m0) [(0, x0), (1, x1)] B
def ZjO (m0 : Nat) (x0 x1 : AV) (B : List Row) : Option Res := exec PP HH 45 m0 EE LL (l1 (l2 (l1 (l2 (l2 (l2 ZcW)))))) (ZrP m0) [(0, x0), (1, x1)] B
def Zho (m0 : Nat) (x6 x7 : AV) (B : List Row) : Option Res := exec PP HH 45 m0 EE LL (l2 (l2 (l2 (l2 ZcW)))) (ZdH m0) [(6, x6), (7, x7)] B
theorem ZnX m0 B : Zhn m0  B =
 mk (Zim (iv 0) (iv 0) B) := by kernel_rfl
theorem ZnY m0 x0 x1 B : ZjN m0 x0 x1 B =
 mk (ob (xsl 1 (shr x0) (some (shr x1)) none none) fun a6 =>
 callS false EE 53 [a6] B fun a7 B8 =>
 ob (xext 0 (shr a7)) fun a9 =>
 ob (xext 1 (shr a7)) fun a10 =>
 mk (ob (xbin PP .eql 21 (shr (shr (shr a9))) (kv .i32 65533)) fun a11 =>
 asB (shr a11) fun t12 => br t12 (ob (xbin PP .eql 3 (shr (shr (shr a10))) (iv 1)) fun a13 =>
 asB (shr a13) fun t14 => br t14 (ZjO m0 x0 x1 (gcB m0 [x0, x1] B8))
 (Zho m0 (shr (shr a9)) (shr (shr a10)) (gcB m0 [(shr (shr a9)), (shr (shr a10))] B8)))
 (Zho m0 (shr (shr a9)) (shr (shr a10)) (gcB m0 [(shr (shr a9)), (shr (shr a10))] B8)))) := by kernel_rfl
theorem ZnZ m0 x0 x1 B : ZjO m0 x0 x1 B =
 mk (ob (xidx 1 (shr x0) (shr x1)) fun a15 =>
 ob (ldN false 1 a15 B) fun a16 =>
 ob (xcnv PP 5 3 a16) fun a17 =>
 ob (xbin PP .add 3 (iv 1114112) a17) fun a18 =>
 Zim (shr a18) (iv 1) B) := by kernel_rfl
theorem Zo0 m0 x6 x7 B : Zho m0 x6 x7 B =
 mk (ob (xcnv PP 21 3 (shr x6)) fun a19 =>
 Zim (shr a19) (shr (shr x7)) B) := by kernel_rfl
theorem ZrN x0 x1 B : EE 45 [x0, x1] B =
 (let m0 := B.length
 mk (mk (ob (xbin PP .lss 3 (shr x1) (iv 0)) fun a1 =>
 asB (shr a1) fun t2 => br t2 (Zhn m0  (gcB m0 [] B))
 (ob (xlen PP 40 (shr x0)) fun a3 =>
 ob (xbin PP .geq 3 (shr x1) a3) fun a4 =>
 asB (shr a4) fun t5 => br t5 (Zhn m0  (gcB m0 [] B))
 (ZjN m0 x0 x1 (gcB m0 [x0, x1] B)))))) := (E_eq PP XX HH _ _ _).trans (by kernel_rfl)
def ZqD (r0 : AV) (B : List Row) : Option Res :=
 ob (ob (some r0) fun v => ob (some []) fun vs => some (v :: vs)) fun vs => some ((nrmA (match vs with | [v] => v | vs => Z1W (vs.map shr))), B)
theorem ZrQ x0 B : EE 46 [x0] B =
 (let m0 := B.length
 mk (mk (ob (Z1m (shr x0)) fun a1 =>
 ob (xfld 0 a1) fun a2 =>
 ob (ldN false 1 a2 B) fun a3 =>
 ob (Z1m (shr x0)) fun a4 =>
 ob (xfld 1 a4) fun a5 =>
 ob (ldN false 1 a5 B) fun a6 =>
 callS false EE 45 [a3, a6] B fun a7 B8 =>
 ob (xext 0 (shr a7)) fun a9 =>
 ob (xext 1 (shr a7)) fun a10 =>
 mk (ob (Z1m (shr x0)) fun a11 =>
 ob (xfld 1 a11) fun a12 =>
 ob (ldN false 1 a12 B8) fun a13 =>
 ob (xbin PP .add 3 a13 (shr (shr (shr a10)))) fun a14 =>
 ob (Z1m (shr x0)) fun a15 =>
 ob (xfld 1 a15) fun a16 =>
 stN 1 a16 a14 B8 fun B17 =>
 mk (ZqD (shr (shr (shr (shr a9)))) B17))))) := (E_eq PP XX HH _ _ _).trans (by kernel_rfl)
def ZsT : Code := Z2P Tryd.f47
def ZqE (r0 : AV) (B : List Row) : Option Res :=
 ob (ob (ldN true 7 r0 B) fun v => ob (some []) fun vs => some (v :: vs)) fun vs => some ((nrmA (match vs with | [v] => v | vs => Z1W (vs.map shr))), B)
def ZrS (m0 : Nat) : Kont := kret PP HH 47 Tryd.f47.results
def Zhp (m0 : Nat) (x4 x5 : AV) (B : List Row) : Option Res := exec PP HH 47 m0 EE LL (l2 (l2 (l2 ZsT))) (ZrS m0) [(4, x4), (5, x5)] B
theorem Zo1 m0 x4 x5 B : Zhp m0 x4 x5 B =
 mk (ob (Z1o PP 27 [(0, (iv 1)), (5, (shr x5))]) fun a12 =>
 stN 7 x4 a12 B fun B13 =>
 ZqE x4 B13) := by kernel_rfl
theorem ZrR x0 x1 B : EE 47 [x0, x1] B =
 (let m0 := B.length
 mk (bz PP 27 B fun a1 B2 =>
 mk (callS false EE 54 [(shr x1)] B2 fun a3 B4 =>
 ob (xext 0 (shr a3)) fun a5 =>
 ob (xext 1 (shr a3)) fun a6 =>
 mk (asB (shr x0) fun t7 => br t7 (mk (callS false EE 55 [(shr (shr (shr a5)))] B4 fun a8 B9 =>
 ob (xext 0 (shr a8)) fun a10 =>
 ob (xext 1 (shr a8)) fun a11 =>
 Zhp m0 a1 (shr (shr a10)) (gcB m0 [a1, (shr (shr a10))] B9)))
 (Zhp m0 a1 (shr (shr a5)) (gcB m0 [a1, (shr (shr a5))] B4)))))) := (E_eq PP XX HH _ _ _).trans (by kernel_rfl)
def ZqF (r0 : AV) (B : List Row) : Option Res :=
 ob (ob (ldN true 2 r0 B) fun v => ob (some []) fun vs => some (v :: vs)) fun vs => some ((nrmA (match vs with | [v] => v | vs => Z1W (vs.map shr))), B)
theorem ZrT x0 B : EE 48 [x0] B =
 (let m0 := B.length
 mk (bz PP 39 B fun a1 B2 =>
 mk (ob (Z1o PP 39 [(0, (shr x0)), (1, (shr x0))]) fun a3 =>
 stN 2 a1 a3 B2 fun B4 =>
 ZqF a1 B4))) := (E_eq PP XX HH _ _ _).trans (by kernel_rfl)
def Zhq : Code := Z2P Tryd.f49
def Zc6 (r0 : AV) (B : List Row) : Option Res :=
 ob (ob (ldN true 7 r0 B) fun v => ob (some []) fun vs => some (v :: vs)) fun vs => some ((nrmA (match vs with | [v] => v | vs => Z1W (vs.map shr))), B)
def Zhr (m0 : Nat) : Kont := kret PP HH 49 Tryd.f49.results
def ZrV (m0 : Nat) : Kont := kseq HH 49 m0 (l2 (l2 (l2 (l2 (l2 Zhq))))) (exec PP HH 49 m0 EE LL (l2 (l2 (l2 (l2 (l2 Zhq))))) (Zhr m0)) (Zhr m0)
def ZrW (m0 : Nat) : Kont := kblk 0 (ZrV m0)
def ZjP (m0 : Nat) (x0 x1 x4 x5 : AV) (B : List Row) : Option Res := exec PP HH 49 m0 EE LL (l2 (l2 (l2 Zhq))) (Zhr m0) [(0, x0), (1, x1), (4, x4), (5, x5)] B
def Zin (m0 : Nat) (x0 x1 x4 x5 : AV) (B : List Row) : Option Res := exec PP HH 49 m0 EE LL (l1 (l2 (l2 (l2 (l2 (l2 (l2 (l2 (l1 (l1 (l2 (l2 (l2 (l2 Zhq)))))))))))))) (ZrW m0) [(0, x0), (1, x1), (4, x4), (5, x5)] B
def Zg2 (m0 : Nat) (x0 x1 x4 x5 : AV) (B : List Row) : Option Res := exec PP HH 49 m0 EE LL (l2 (l2 (l2 (l2 (l2 Zhq))))) (Zhr m0) [(0, x0), (1, x1), (4, x4), (5, x5)] B
theorem Zo2 m0 x0 x1 x4 x5 B : ZjP m0 x0 x1 x4 x5 B =
 mk (callS false EE 46 [(shr x0)] B fun a11 B12 =>
 mk (callS true EE 56 [(shr x5)] B12 fun a13 B14 =>
 ob (xnil PP .neq 23 (.slice none 0 0) a13) fun a15 =>
 asB (shr a15) fun t16 => br t16 (mk (ob (xbin PP .lss 3 (shr x5) (iv 97)) fun a17 =>
 callS true EE 56 [(shr x5)] B14 fun a18 B19 =>
 callS false EE 47 [a17, a18] B19 fun a20 B21 =>
 stN 7 x4 a20 B21 fun B22 =>
 Zc6 x4 B22))
 (mk (ob (xbin PP .eql 3 (shr x5) (iv 98)) fun a23 =>
 asB (shr a23) fun t24 => br t24 (mk (ob (Z1o PP 27 [(0, (iv 9)), (4, (iv 2))]) fun a25 =>
 stN 7 x4 a25 B14 fun B26 =>
 Zc6 x4 B26))
 (mk (ob (xbin PP .eql 3 (shr x5) (iv 66)) fun a27 =>
 asB (shr a27) fun t28 => br t28 (mk (ob (Z1o PP 27 [(0, (iv 9)), (4, (iv 3))]) fun a29 =>
 stN 7 x4 a29 B14 fun B30 =>
 Zc6 x4 B30))
 (mk (ob (xbin PP .geq 3 (shr x5) (iv 49)) fun a31 =>
 asB (shr a31) fun t32 => br t32 (ob (xbin PP .leq 3 (shr x5) (iv 57)) fun a33 =>
 asB (shr (shr a33)) fun t34 => br t34 (Zin m0 x0 x1 x4 x5 (gcB m0 [x0, x1, x4, x5] B14))
 (Zg2 m0 x0 x1 x4 x5 (gcB m0 [x0, x1, x4, x5] B14)))
 (Zg2 m0 x0 x1 x4 x5 (gcB m0 [x0, x1, x4, x5] B14)))))))))) := by kernel_rfl
theorem Zmx m0 x0 x1 x4 x5 B : Zin m0 x0 x1 x4 x5 B =
 mk (ob (Z1m (shr x0)) fun a35 =>
 ob (xfld 4 a35) fun a36 =>
 ldOwn a36 B fun a37 B38 =>
 ob (xbin PP .sub 3 (shr x5) (iv 48)) fun a39 =>
 ob (Z1o PP 62 [(0, a39), (1, (shr x1))]) fun a40 =>
 ob (xlit PP 56 1 [(0, a40)]) fun a41 =>
 ob (xapp 2 a37 a41) fun a42 =>
 ob (Z1m (shr x0)) fun a43 =>
 ob (xfld 4 a43) fun a44 =>
 stN 1 a44 a42 B38 fun B45 =>
 mk (ob (xbin PP .sub 3 (shr x5) (iv 48)) fun a46 =>
 ob (Z1o PP 27 [(0, (iv 6)), (4, a46)]) fun a47 =>
 stN 7 x4 a47 B45 fun B48 =>
 Zc6 x4 B48)) := by kernel_rfl
theorem Zmy m0 x0 x1 x4 x5 B : Zg2 m0 x0 x1 x4 x5 B =
 mk (callS false EE 57 [(shr x0), (shr x5), (shr x1)] B fun a49 B50 =>
 callS false EE 48 [a49] B50 fun a51 B52 =>
 ob (xlit PP 23 1 [(0, a51)]) fun a53 =>
 callS false EE 47 [(bv false), a53] B52 fun a54 B55 =>
 stN 7 x4 a54 B55 fun B56 =>
 Zc6 x4 B56) := by kernel_rfl
theorem ZrU x0 x1 B : EE 49 [x0, x1] B =
 (let m0 := B.length
 mk (bz PP 27 B fun a1 B2 =>
 mk (callS false EE 41 [(shr x0)] B2 fun a3 B4 =>
 mk (ob (xbin PP .lss 3 (shr (shr a3)) (iv 0)) fun a5 =>
 asB a5 fun t6 => br t6 (mk (callS false EE 29 [(shr x0), (iv 21), (shr x1)] B4 fun a7 B8 =>
 mk (ob (Z1o PP 27 []) fun a9 =>
 stN 7 a1 a9 B8 fun B10 =>
 Zc6 a1 B10)))
 (ZjP m0 x0 x1 a1 (shr a3) (gcB m0 [x0, x1, a1, (shr a3)] B4)))))) := (E_eq PP XX HH _ _ _).trans (by kernel_rfl)
def Z4Q : Code := Z2P Tryd.f50
def ZlF (r0 : AV) (B : List Row) : Option Res :=
 ob (ob (ldN true 7 r0 B) fun v => ob (some []) fun vs => some (v :: vs)) fun vs => some ((nrmA (match vs with | [v] => v | vs => Z1W (vs.map shr))), B)
def ZjQ (m0 : Nat) : Kont := kret PP HH 50 Tryd.f50.results
def ZrY (m0 : Nat) : Kont := kseq HH 50 m0 (l2 (l2 (l2 (l2 (l2 (l2 Z4Q)))))) (exec PP HH 50 m0 EE LL (l2 (l2 (l2 (l2 (l2 (l2 Z4Q)))))) (ZjQ m0)) (ZjQ m0)
def ZjR (m0 : Nat) : Kont := kblk 0 (ZrY m0)
def Zhs (m0 : Nat) : Kont := kloop HH 50 m0 (l1 (l1 (l1 (l2 (l2 (l2 (l2 (l2 Z4Q)))))))) (LL 50 m0 (l1 (l1 (l1 (l2 (l2 (l2 (l2 (l2 Z4Q)))))))) (ZjR m0)) (ZjR m0)
def ZrZ (m0 : Nat) : Kont := kseq HH 50 m0 (l2 (l2 (l1 (l1 (l1 (l2 (l2 (l2 (l2 (l2 Z4Q)))))))))) (exec PP HH 50 m0 EE LL (l2 (l2 (l1 (l1 (l1 (l2 (l2 (l2 (l2 (l2 Z4Q)))))))))) (Zhs m0)) (Zhs m0)
def Zci (m0 : Nat) : Kont := kblk 1 (ZrZ m0)
def Zs0 (m0 : Nat) : Kont := kseq HH 50 m0 (l2 (l2 (l1 (l1 (l2 (l1 (l1 (l1 (l2 (l2 (l2 (l2 (l2 Z4Q))))))))))))) (exec PP HH 50 m0 EE LL (l2 (l2 (l1 (l1 (l2 (l1 (l1 (l1 (l2 (l2 (l2 (l2 (l2 Z4Q))))))))))))) (Zci m0)) (Zci m0)
def Zo3 (m0 : Nat) : Kont := kblk 2 (Zs0 m0)
def Zht (m0 : Nat) : Kont := kseq HH 50 m0 (l2 (l2 (l2 (l2 (l2 (l2 (l1 (l1 (l2 (l1 (l1 (l1 (l2 (l2 (l2 (l2 (l2 Z4Q))))))))))))))))) (exec PP HH 50 m0 EE LL (l2 (l2 (l2 (l2 (l2 (l2 (l1 (l1 (l2 (l1 (l1 (l1 (l2 (l2 (l2 (l2 (l2 Z4Q))))))))))))))))) (Zci m0)) (Zci m0)
def Zs1 (m0 : Nat) : Kont := kseq HH 50 m0 (l2 (l1 (l2 (l1 (l2 (l2 (l2 (l2 (l2 (l1 (l1 (l2 (l1 (l1 (l1 (l2 (l2 (l2 (l2 (l2 Z4Q)))))))))))))))))))) (exec PP HH 50 m0 EE LL (l2 (l1 (l2 (l1 (l2 (l2 (l2 (l2 (l2 (l1 (l1 (l2 (l1 (l1 (l1 (l2 (l2 (l2 (l2 (l2 Z4Q)))))))))))))))))))) (Zht m0)) (Zht m0)
def ZdI (m0 : Nat) (x0 x1 x4 x5 x6 x7 x8 : AV) (B : List Row) : Option Res := lp (LL 50 m0 (l1 (l1 (l1 (l2 (l2 (l2 (l2 (l2 Z4Q)))))))) (ZjR m0) [(0, x0), (1, x1), (4, x4), (5, x5), (6, x6), (7, x7), (8, x8)] B)
def ZjS (m0 : Nat) (x0 x1 x4 x5 x6 x7 x8 : AV) (B : List Row) : Option Res := exec PP HH 50 m0 EE LL (l2 (l1 (l1 (l1 (l2 (l2 (l2 (l2 (l2 Z4Q))))))))) (Zhs m0) [(0, x0), (1, x1), (4, x4), (5, x5), (6, x6), (7, x7), (8, x8)] B
def Zir (m0 : Nat) (x4 : AV) (B : List Row) : Option Res := exec PP HH 50 m0 EE LL (l2 (l2 (l2 (l2 (l2 (l2 Z4Q)))))) (ZjQ m0) [(4, x4)] B
def Z7O (m0 : Nat) (x0 x1 x4 x5 x6 x7 x8 : AV) (B : List Row) : Option Res := exec PP HH 50 m0 EE LL (l2 (l2 (l1 (l1 (l1 (l2 (l2 (l2 (l2 (l2 Z4Q)))))))))) (Zhs m0) [(0, x0), (1, x1), (4, x4), (5, x5), (6, x6), (7, x7), (8, x8)] B
def Zio (m0 : Nat) (x0 x4 x5 x6 : AV) (B : List Row) : Option Res := exec PP HH 50 m0 EE LL (l2 (l1 (l2 (l2 (l2 (l1 (l2 (l2 (l1 (l2 (l1 (l1 (l2 (l1 (l1 (l1 (l2 (l2 (l2 (l2 (l2 Z4Q))))))))))))))))))))) (Zo3 m0) [(0, x0), (4, x4), (5, x5), (6, x6)] B
def Zg4 (m0 : Nat) (x0 x1 x4 x5 x6 x7 x8 x9 : AV) (B : List Row) : Option Res := exec PP HH 50 m0 EE LL (l2 (l2 (l1 (l1 (l2 (l1 (l1 (l1 (l2 (l2 (l2 (l2 (l2 Z4Q))))))))))))) (Zci m0) [(0, x0), (1, x1), (4, x4), (5, x5), (6, x6), (7, x7), (8, x8), (9, x9)] B
def Zg3 (m0 : Nat) (x4 x6 : AV) (B : List Row) : Option Res := exec PP HH 50 m0 EE LL (l2 (l2 (l2 (l1 (l2 (l2 (l2 (l1 (l2 (l2 (l1 (l2 (l1 (l1 (l2 (l1 (l1 (l1 (l2 (l2 (l2 (l2 (l2 Z4Q))))))))))))))))))))))) (Zo3 m0) [(4, x4), (6, x6)] B
def Zip (m0 : Nat) (x0 x1 x4 x5 x6 x7 x8 x9 x11 : AV) (B : List Row) : Option Res := exec PP HH 50 m0 EE LL (l2 (l2 (l2 (l2 (l1 (l1 (l2 (l1 (l1 (l1 (l2 (l2 (l2 (l2 (l2 Z4Q))))))))))))))) (Zci m0) [(0, x0), (1, x1), (4, x4), (5, x5), (6, x6), (7, x7), (8, x8), (9, x9), (11, x11)] B
def Zc7 (m0 : Nat) (x0 x1 x4 x5 x6 x7 x8 x9 : AV) (B : List Row) : Option Res := exec PP HH 50 m0 EE LL (l1 (l2 (l2 (l1 (l1 (l2 (l1 (l2 (l2 (l2 (l2 (l2 (l1 (l1 (l2 (l1 (l1 (l1 (l2 (l2 (l2 (l2 (l2 Z4Q))))))))))))))))))))))) (Zs1 m0) [(0, x0), (1, x1), (4, x4), (5, x5), (6, x6), (7, x7), (8, x8), (9, x9)] B
def Ziq (m0 : Nat) (x0 x1 x4 x5 x6 x7 x8 x9 x11 : AV) (B : List Row) : Option Res := exec PP HH 50 m0 EE LL (l2 (l1 (l2 (l1 (l2 (l2 (l2 (l2 (l2 (l1 (l1 (l2 (l1 (l1 (l1 (l2 (l2 (l2 (l2 (l2 Z4Q)))))))))))))))))))) (Zht m0) [(0, x0), (1, x1), (4, x4), (5, x5), (6, x6), (7, x7), (8, x8), (9, x9), (11, x11)] B
def Zc8 (m0 : Nat) (x0 x1 x4 x5 x6 x7 x8 x11 x15 : AV) (B : List Row) : Option Res := exec PP HH 50 m0 EE LL (l2 (l2 (l2 (l2 (l2 (l2 (l1 (l1 (l2 (l1 (l1 (l1 (l2 (l2 (l2 (l2 (l2 Z4Q))))))))))))))))) (Zci m0) [(0, x0), (1, x1), (4, x4), (5, x5), (6, x6), (7, x7), (8, x8), (11, x11), (15, x15)] B
def Zg5 (m0 : Nat) (x0 x1 x4 x5 x6 x7 x8 x9 x11 x15 : AV) (B : List Row) : Option Res := exec PP HH 50 m0 EE LL (l1 (l2 (l2 (l2 (l1 (l2 (l1 (l2 (l2 (l2 (l2 (l2 (l1 (l1 (l2 (l1 (l1 (l1 (l2 (l2 (l2 (l2 (l2 Z4Q))))))))))))))))))))))) (Zht m0) [(0, x0), (1, x1), (4, x4), (5, x5), (6, x6), (7, x7), (8, x8), (9, x9), (11, x11), (15, x15)] B
theorem Zo4 m0 x0 x1 x4 x5 x6 x7 x8 B : ZdI m0 x0 x1 x4 x5 x6 x7 x8 B =
 mk (ob (Z1m (shr x0)) fun a7 =>
 ob (xfld 5 a7) fun a8 =>
 ob (xfld 0 a8) fun a9 =>
 ob (ldN false 1 a9 B) fun a10 =>
 ob (xbin PP .eql 30 a10 (iv 0)) fun a11 =>
 asB a11 fun t12 => br t12 (ZjS m0 x0 x1 x4 x5 x6 x7 x8 (gcB m0 [x0, x1, x4, x5, x6, x7, x8] B))
 (Zir m0 x4 (gcB m0 [x4] B))) := (L_eq PP XX HH _ _ _ _ _ _).trans (by kernel_rfl)
theorem Zo6 m0 x0 x1 x4 x5 x6 x7 x8 B : ZjS m0 x0 x1 x4 x5 x6 x7 x8 B =
 mk (ob (Z1m (shr x0)) fun a13 =>
 ob (xfld 1 a13) fun a14 =>
 ob (ldN false 1 a14 B) fun a15 =>
 mk (callS false EE 41 [(shr x0)] B fun a16 B17 =>
 mk (mk (ob (xbin PP .eql 3 (shr (shr a16)) (iv (-1))) fun a18 =>
 asB (shr a18) fun t19 => br t19 (mk (callS false EE 29 [(shr x0), (iv 22), (shr x1)] B17 fun a20 B21 =>
 Z7O m0 x0 x1 x4 x5 x6 x7 x8 (gcB m0 [x0, x1, x4, x5, x6, x7, x8] B21)))
 (mk (ob (xbin PP .eql 3 (shr (shr a16)) (iv 93)) fun a22 =>
 asB (shr a22) fun t23 => br t23 (mk (ob (xbin PP .eql 3 (shr x8) (iv 0)) fun a24 =>
 asB a24 fun t25 => br t25 (mk (callS false EE 29 [(shr x0), (iv 22), (shr x1)] B17 fun a26 B27 =>
 Z7O m0 x0 x1 x4 x5 x6 x7 x8 (gcB m0 [x0, x1, x4, x5, x6, x7, x8] B27)))
 (Zio m0 x0 x4 x5 x6 (gcB m0 [x0, x4, x5, x6] B17))))
 (mk (ob (xbin PP .eql 3 (shr (shr a16)) (iv 91)) fun a28 =>
 asB (shr a28) fun t29 => br t29 (asB (shr a28) fun t30 => br t30 (mk (callS false EE 29 [(shr x0), (iv 22), (shr (shr a15))] B17 fun a31 B32 =>
 Z7O m0 x0 x1 x4 x5 x6 x7 x8 (gcB m0 [x0, x1, x4, x5, x6, x7, x8] B32)))
 (Zg4 m0 x0 x1 x4 x5 x6 x7 x8 (shr a15) (gcB m0 [x0, x1, x4, x5, x6, x7, x8, (shr a15)] B17)))
 (mk (ob (xbin PP .eql 3 (shr (shr a16)) (iv 45)) fun a33 =>
 asB (shr a33) fun t34 => br t34 (mk (callS false EE 29 [(shr x0), (iv 22), (shr (shr a15))] B17 fun a35 B36 =>
 Z7O m0 x0 x1 x4 x5 x6 x7 x8 (gcB m0 [x0, x1, x4, x5, x6, x7, x8] B36)))
 (Zg4 m0 x0 x1 x4 x5 x6 x7 x8 (shr a15) (gcB m0 [x0, x1, x4, x5, x6, x7, x8, (shr a15)] B17)))))))))))) := by kernel_rfl
theorem ZmH m0 x4 B : Zir m0 x4 B =
 mk (ob (Z1o PP 27 []) fun a37 =>
 stN 7 x4 a37 B fun B38 =>
 ZlF x4 B38) := by kernel_rfl
theorem Zo5 m0 x0 x1 x4 x5 x6 x7 x8 B : Z7O m0 x0 x1 x4 x5 x6 x7 x8 B =
 mk (ob (xbin PP .add 3 (shr x8) (iv 1)) fun a39 =>
 ZdI m0 x0 x1 x4 x5 x6 x7 (shr a39) (gcB m0 [x0, x1, x4, x5, x6, x7, (shr a39)] B)) := by kernel_rfl
theorem Zmz m0 x0 x4 x5 x6 B : Zio m0 x0 x4 x5 x6 B =
 mk (callS false EE 46 [(shr x0)] B fun a40 B41 =>
 mk (asB (shr x5) fun t42 => br t42 (mk (ob (ldN false 1 x6 B41) fun a43 =>
 callS false EE 55 [a43] B41 fun a44 B45 =>
 ob (xext 0 (shr a44)) fun a46 =>
 ob (xext 1 (shr a44)) fun a47 =>
 stN 1 x6 (shr a46) B45 fun B48 =>
 Zg3 m0 x4 x6 (gcB m0 [x4, x6] B48)))
 (Zg3 m0 x4 x6 (gcB m0 [x4, x6] B41)))) := by kernel_rfl
theorem ZmB m0 x0 x1 x4 x5 x6 x7 x8 x9 B : Zg4 m0 x0 x1 x4 x5 x6 x7 x8 x9 B =
 mk (callS true EE 60 [(shr x0)] B fun a49 B50 =>
 ob (xext 0 (shr a49)) fun a51 =>
 ob (xext 1 (shr a49)) fun a52 =>
 ob (xext 2 (shr a49)) fun a53 =>
 mk (ob (xnil PP .neq 23 (.slice none 0 0) (shr (shr (shr a52)))) fun a54 =>
 asB a54 fun t55 => br t55 (mk (callS false EE 47 [(shr (shr (shr a53))), (shr (shr (shr a52)))] B50 fun a56 B57 =>
 bz PP 27 B57 fun a58 B59 =>
 stN 7 a58 a56 B59 fun B60 =>
 mk (ob (xfld 5 a58) fun a61 =>
 ob (ldN false 1 a61 B60) fun a62 =>
 callV HH EE (shr x7) [a62] B60 fun a63 B64 =>
 mk (callS false EE 41 [(shr x0)] B64 fun a65 B66 =>
 ob (xbin PP .eql 3 a65 (iv 45)) fun a67 =>
 asB a67 fun t68 => br t68 (mk (ob (Z1m (shr x0)) fun a69 =>
 ob (xfld 1 a69) fun a70 =>
 ob (ldN false 1 a70 B66) fun a71 =>
 callS false EE 29 [(shr x0), (iv 22), a71] B66 fun a72 B73 =>
 Z7O m0 x0 x1 x4 x5 x6 x7 x8 (gcB m0 [x0, x1, x4, x5, x6, x7, x8] B73)))
 (Z7O m0 x0 x1 x4 x5 x6 x7 x8 (gcB m0 [x0, x1, x4, x5, x6, x7, x8] B66))))))
 (Zip m0 x0 x1 x4 x5 x6 x7 x8 x9 (shr (shr a51)) (gcB m0 [x0, x1, x4, x5, x6, x7, x8, x9, (shr (shr a51))] B50)))) := by kernel_rfl
theorem ZmA m0 x4 x6 B : Zg3 m0 x4 x6 B =
 mk (ob (ldN false 1 x6 B) fun a74 =>
 ob (Z1o PP 27 [(0, (iv 1)), (5, a74)]) fun a75 =>
 stN 7 x4 a75 B fun B76 =>
 ZlF x4 B76) := by kernel_rfl
theorem ZmC m0 x0 x1 x4 x5 x6 x7 x8 x9 x11 B : Zip m0 x0 x1 x4 x5 x6 x7 x8 x9 x11 B =
 mk (mk (callS false EE 27 [(shr x0), (.p (.v (.string (ByteArray.mk #[45]))))] B fun a77 B78 =>
 asB a77 fun t79 => br t79 (mk (callS false EE 41 [(shr x0)] B78 fun a80 B81 =>
 mk (ob (xbin PP .eql 3 (shr (shr a80)) (iv 93)) fun a82 =>
 asB (shr a82) fun t83 => br t83 (Zc7 m0 x0 x1 x4 x5 x6 x7 x8 x9 (gcB m0 [x0, x1, x4, x5, x6, x7, x8, x9] B81))
 (ob (xbin PP .eql 3 (shr (shr a80)) (iv 91)) fun a84 =>
 asB (shr (shr a84)) fun t85 => br t85 (Zc7 m0 x0 x1 x4 x5 x6 x7 x8 x9 (gcB m0 [x0, x1, x4, x5, x6, x7, x8, x9] B81))
 (ob (xbin PP .eql 3 (shr (shr a80)) (iv 45)) fun a86 =>
 asB (shr (shr a86)) fun t87 => br t87 (Zc7 m0 x0 x1 x4 x5 x6 x7 x8 x9 (gcB m0 [x0, x1, x4, x5, x6, x7, x8, x9] B81))
 (ob (xbin PP .lss 3 (shr (shr a80)) (iv 0)) fun a88 =>
 asB (shr a88) fun t89 => br t89 (Zc7 m0 x0 x1 x4 x5 x6 x7 x8 x9 (gcB m0 [x0, x1, x4, x5, x6, x7, x8, x9] B81))
 (Ziq m0 x0 x1 x4 x5 x6 x7 x8 x9 x11 (gcB m0 [x0, x1, x4, x5, x6, x7, x8, x9, x11] B81))))))))
 (Zc8 m0 x0 x1 x4 x5 x6 x7 x8 x11 (shr (shr x11)) (gcB m0 [x0, x1, x4, x5, x6, x7, x8, x11, (shr (shr x11))] B78)))) := by kernel_rfl
theorem ZmD m0 x0 x1 x4 x5 x6 x7 x8 x9 B : Zc7 m0 x0 x1 x4 x5 x6 x7 x8 x9 B =
 mk (callS false EE 29 [(shr x0), (iv 22), (shr x9)] B fun a90 B91 =>
 Z7O m0 x0 x1 x4 x5 x6 x7 x8 (gcB m0 [x0, x1, x4, x5, x6, x7, x8] B91)) := by kernel_rfl
theorem ZmE m0 x0 x1 x4 x5 x6 x7 x8 x9 x11 B : Ziq m0 x0 x1 x4 x5 x6 x7 x8 x9 x11 B =
 mk (callS true EE 60 [(shr x0)] B fun a92 B93 =>
 ob (xext 0 (shr a92)) fun a94 =>
 ob (xext 1 (shr a92)) fun a95 =>
 ob (xext 2 (shr a92)) fun a96 =>
 mk (ob (Z1m (shr x0)) fun a97 =>
 ob (xfld 5 a97) fun a98 =>
 ob (xfld 0 a98) fun a99 =>
 ob (ldN false 1 a99 B93) fun a100 =>
 ob (xbin PP .eql 30 a100 (iv 0)) fun a101 =>
 asB (shr a101) fun t102 => br t102 (ob (xnil PP .neq 23 (.slice none 0 0) (shr (shr (shr a95)))) fun a103 =>
 asB (shr a103) fun t104 => br t104 (Zg5 m0 x0 x1 x4 x5 x6 x7 x8 x9 x11 (shr (shr a94)) (gcB m0 [x0, x1, x4, x5, x6, x7, x8, x9, x11, (shr (shr a94))] B93))
 (ob (xbin PP .lss 3 (shr (shr (shr a94))) (shr x11)) fun a105 =>
 asB (shr (shr a105)) fun t106 => br t106 (Zg5 m0 x0 x1 x4 x5 x6 x7 x8 x9 x11 (shr (shr a94)) (gcB m0 [x0, x1, x4, x5, x6, x7, x8, x9, x11, (shr (shr a94))] B93))
 (Zc8 m0 x0 x1 x4 x5 x6 x7 x8 x11 (shr (shr a94)) (gcB m0 [x0, x1, x4, x5, x6, x7, x8, x11, (shr (shr a94))] B93))))
 (Zc8 m0 x0 x1 x4 x5 x6 x7 x8 x11 (shr (shr a94)) (gcB m0 [x0, x1, x4, x5, x6, x7, x8, x11, (shr (shr a94))] B93)))) := by kernel_rfl
theorem ZmG m0 x0 x1 x4 x5 x6 x7 x8 x11 x15 B : Zc8 m0 x0 x1 x4 x5 x6 x7 x8 x11 x15 B =
 mk (ob (Z1m (shr x0)) fun a107 =>
 ob (xfld 5 a107) fun a108 =>
 ob (xfld 0 a108) fun a109 =>
 ob (ldN false 1 a109 B) fun a110 =>
 ob (xbin PP .eql 30 a110 (iv 0)) fun a111 =>
 asB a111 fun t112 => br t112 (mk (ob (Z1o PP 39 [(0, (shr x11)), (1, (shr x15))]) fun a113 =>
 ob (xlit PP 24 1 [(0, a113)]) fun a114 =>
 callV HH EE (shr x7) [a114] B fun a115 B116 =>
 Z7O m0 x0 x1 x4 x5 x6 x7 x8 (gcB m0 [x0, x1, x4, x5, x6, x7, x8] B116)))
 (Z7O m0 x0 x1 x4 x5 x6 x7 x8 (gcB m0 [x0, x1, x4, x5, x6, x7, x8] B))) := by kernel_rfl
theorem ZmF m0 x0 x1 x4 x5 x6 x7 x8 x9 x11 x15 B : Zg5 m0 x0 x1 x4 x5 x6 x7 x8 x9 x11 x15 B =
 mk (callS false EE 29 [(shr x0), (iv 22), (shr x9)] B fun a117 B118 =>
 Zc8 m0 x0 x1 x4 x5 x6 x7 x8 x11 x15 (gcB m0 [x0, x1, x4, x5, x6, x7, x8, x11, x15] B118)) := by kernel_rfl
theorem ZrX x0 x1 B : EE 50 [x0, x1] B =
 (let m0 := B.length
 mk (bz PP 27 B fun a1 B2 =>
 mk (callS false EE 27 [(shr x0), (.p (.v (.string (ByteArray.mk #[94]))))] B2 fun a3 B4 =>
 mk (bz PP 24 B4 fun a5 B6 =>
 mk (mk (ZdI m0 x0 x1 a1 (shr a3) a5 (shr (.clo 58 ([].map nrmA) ([a5].map nrmA))) (iv 0) (gcB m0 [x0, x1, a1, (shr a3), a5, (shr (.clo 58 ([].map nrmA) ([a5].map nrmA))), (iv 0)] B6))))))) := (E_eq PP XX HH _ _ _).trans (by kernel_rfl)
def Zer : Code := Z2P Tryd.f51
def Ziu (r0 r1 : AV) (B : List Row) : Option Res :=
 ob (ob (ldN true 7 r0 B) fun v => ob (ob (some r1) fun v => ob (some []) fun vs => some (v :: vs)) fun vs => some (v :: vs)) fun vs => some ((nrmA (match vs with | [v] => v | vs => Z1W (vs.map shr))), B)
def ZdJ (m0 : Nat) : Kont := kret PP HH 51 Tryd.f51.results
def Zs3 (m0 : Nat) : Kont := kseq HH 51 m0 (l2 (l2 (l2 (l2 (l2 (l2 Zer)))))) (exec PP HH 51 m0 EE LL (l2 (l2 (l2 (l2 (l2 (l2 Zer)))))) (ZdJ m0)) (ZdJ m0)
def ZjT (m0 : Nat) (x0 x1 x4 : AV) (B : List Row) : Option Res := exec PP HH 51 m0 EE LL (l2 (l2 Zer)) (ZdJ m0) [(0, x0), (1, x1), (4, x4)] B
def Z9B (m0 : Nat) (x0 x1 x4 : AV) (B : List Row) : Option Res := exec PP HH 51 m0 EE LL (l2 (l2 (l2 (l2 Zer)))) (ZdJ m0) [(0, x0), (1, x1), (4, x4)] B
def Zis (m0 : Nat) (x0 x1 x4 x7 : AV) (B : List Row) : Option Res := exec PP HH 51 m0 EE LL (l1 (l2 (l1 (l2 (l2 (l2 (l2 (l2 Zer)))))))) (Zs3 m0) [(0, x0), (1, x1), (4, x4), (7, x7)] B
def ZdK (m0 : Nat) (x0 x4 x7 : AV) (B : List Row) : Option Res := exec PP HH 51 m0 EE LL (l2 (l2 (l2 (l2 (l2 (l2 Zer)))))) (ZdJ m0) [(0, x0), (4, x4), (7, x7)] B
def Zit (m0 : Nat) (x4 x7 : AV) (B : List Row) : Option Res := exec PP HH 51 m0 EE LL (l2 (l2 (l2 (l2 (l2 (l2 (l2 (l2 Zer)))))))) (ZdJ m0) [(4, x4), (7, x7)] B
theorem Zo7 m0 x0 x1 x4 B : ZjT m0 x0 x1 x4 B =
 mk (ob (Z1m (shr x0)) fun a12 =>
 ob (xfld 3 a12) fun a13 =>
 ob (ldN false 1 a13 B) fun a14 =>
 ob (xbin PP .add 3 a14 (iv 1)) fun a15 =>
 ob (Z1m (shr x0)) fun a16 =>
 ob (xfld 3 a16) fun a17 =>
 stN 1 a17 a15 B fun B18 =>
 mk (callS false EE 62 [] B18 fun a19 B20 =>
 callS false EE 61 [a19, (.clo 27 ([(shr x0)].map nrmA) ([].map nrmA))] B20 fun a21 B22 =>
 mk (ob (xbin PP .geq 3 (shr (shr a21)) (iv 0)) fun a23 =>
 asB (shr a23) fun t24 => br t24 (mk (ob (Z1o PP 27 [(0, (iv 7)), (3, (shr (shr a21)))]) fun a25 =>
 stN 7 x4 a25 B22 fun B26 =>
 Z9B m0 x0 x1 x4 (gcB m0 [x0, x1, x4] B26)))
 (mk (callS false EE 27 [(shr x0), (.p (.v (.string (ByteArray.mk #[63, 62]))))] B22 fun a27 B28 =>
 asB (shr a27) fun t29 => br t29 (mk (ob (Z1o PP 27 [(0, (iv 8))]) fun a30 =>
 stN 7 x4 a30 B28 fun B31 =>
 Z9B m0 x0 x1 x4 (gcB m0 [x0, x1, x4] B31)))
 (mk (callS false EE 27 [(shr x0), (.p (.v (.string (ByteArray.mk #[63, 58]))))] B28 fun a32 B33 =>
 asB (shr a32) fun t34 => br t34 (Z9B m0 x0 x1 x4 (gcB m0 [x0, x1, x4] B33))
 (mk (callS false EE 41 [(shr x0)] B33 fun a35 B36 =>
 ob (xbin PP .eql 3 a35 (iv 63)) fun a37 =>
 asB (shr a37) fun t38 => br t38 (mk (callS false EE 29 [(shr x0), (iv 20), (shr x1)] B36 fun a39 B40 =>
 Z9B m0 x0 x1 x4 (gcB m0 [x0, x1, x4] B40)))
 (mk (ob (Z1m (shr x0)) fun a41 =>
 ob (xfld 2 a41) fun a42 =>
 ob (ldN false 1 a42 B36) fun a43 =>
 ob (xbin PP .eql 3 a43 (iv 9)) fun a44 =>
 asB (shr a44) fun t45 => br t45 (mk (callS false EE 29 [(shr x0), (iv 24), (shr x1)] B36 fun a46 B47 =>
 Z9B m0 x0 x1 x4 (gcB m0 [x0, x1, x4] B47)))
 (mk (ob (Z1m (shr x0)) fun a48 =>
 ob (xfld 2 a48) fun a49 =>
 ob (ldN false 1 a49 B36) fun a50 =>
 ob (xbin PP .add 3 a50 (iv 1)) fun a51 =>
 ob (Z1m (shr x0)) fun a52 =>
 ob (xfld 2 a52) fun a53 =>
 stN 1 a53 a51 B36 fun B54 =>
 mk (ob (Z1m (shr x0)) fun a55 =>
 ob (xfld 2 a55) fun a56 =>
 ob (ldN false 1 a56 B54) fun a57 =>
 ob (Z1o PP 27 [(0, (iv 5)), (4, a57)]) fun a58 =>
 stN 7 x4 a58 B54 fun B59 =>
 Z9B m0 x0 x1 x4 (gcB m0 [x0, x1, x4] B59))))))))))))))) := by kernel_rfl
theorem ZmI m0 x0 x1 x4 B : Z9B m0 x0 x1 x4 B =
 mk (callS false EE 28 [(shr x0)] B fun a60 B61 =>
 bz PP 27 B61 fun a62 B63 =>
 stN 7 a62 a60 B63 fun B64 =>
 mk (ob (Z1m (shr x0)) fun a65 =>
 ob (xfld 5 a65) fun a66 =>
 ob (xfld 0 a66) fun a67 =>
 ob (ldN false 1 a67 B64) fun a68 =>
 ob (xbin PP .eql 30 a68 (iv 0)) fun a69 =>
 asB (shr a69) fun t70 => br t70 (callS false EE 27 [(shr x0), (.p (.v (.string (ByteArray.mk #[41]))))] B64 fun a71 B72 =>
 ob (xun PP .not a71) fun a73 =>
 asB (shr a73) fun t74 => br t74 (Zis m0 x0 x1 x4 a62 (gcB m0 [x0, x1, x4, a62] B72))
 (ZdK m0 x0 x4 a62 (gcB m0 [x0, x4, a62] B72)))
 (ZdK m0 x0 x4 a62 (gcB m0 [x0, x4, a62] B64)))) := by kernel_rfl
theorem ZmJ m0 x0 x1 x4 x7 B : Zis m0 x0 x1 x4 x7 B =
 mk (callS false EE 29 [(shr x0), (iv 20), (shr x1)] B fun a75 B76 =>
 ZdK m0 x0 x4 x7 (gcB m0 [x0, x4, x7] B76)) := by kernel_rfl
theorem ZmK m0 x0 x4 x7 B : ZdK m0 x0 x4 x7 B =
 mk (ob (Z1m (shr x0)) fun a77 =>
 ob (xfld 3 a77) fun a78 =>
 ob (ldN false 1 a78 B) fun a79 =>
 ob (xbin PP .sub 3 a79 (iv 1)) fun a80 =>
 ob (Z1m (shr x0)) fun a81 =>
 ob (xfld 3 a81) fun a82 =>
 stN 1 a82 a80 B fun B83 =>
 mk (ob (xfld 0 x4) fun a84 =>
 ob (ldN false 1 a84 B83) fun a85 =>
 ob (xbin PP .eql 3 a85 (iv 0)) fun a86 =>
 asB a86 fun t87 => br t87 (mk (ob (ldN true 7 x7 B83) fun a88 =>
 stN 7 x4 a88 B83 fun B89 =>
 Ziu x4 (bv true) B89))
 (Zit m0 x4 x7 (gcB m0 [x4, x7] B83)))) := by kernel_rfl
theorem ZmL m0 x4 x7 B : Zit m0 x4 x7 B =
 mk (ob (ldN true 7 x7 B) fun a90 =>
 ob (xlit PP 25 1 [(0, a90)]) fun a91 =>
 ob (xfld 6 x4) fun a92 =>
 stN 1 a92 a91 B fun B93 =>
 mk (ob (ldN true 7 x4 B93) fun a94 =>
 ob (xfld 0 x4) fun a95 =>
 ob (ldN false 1 a95 B93) fun a96 =>
 ob (xbin PP .neq 3 a96 (iv 7)) fun a97 =>
 stN 7 x4 a94 B93 fun B98 =>
 Ziu x4 (shr a97) B98)) := by kernel_rfl
theorem Zs2 x0 x1 B : EE 51 [x0, x1] B =
 (let m0 := B.length
 mk (bz PP 27 B fun a1 B2 =>
 mk (ob (Z1m (shr x0)) fun a3 =>
 ob (xfld 3 a3) fun a4 =>
 ob (ldN false 1 a4 B2) fun a5 =>
 ob (xbin PP .eql 3 a5 (iv 32)) fun a6 =>
 asB a6 fun t7 => br t7 (mk (callS false EE 29 [(shr x0), (iv 25), (shr x1)] B2 fun a8 B9 =>
 mk (ob (Z1o PP 27 []) fun a10 =>
 stN 7 a1 a10 B9 fun B11 =>
 Ziu a1 (bv true) B11)))
 (ZjT m0 x0 x1 a1 (gcB m0 [x0, x1, a1] B2))))) := (E_eq PP XX HH _ _ _).trans (by kernel_rfl)
def Z9g : Code := Z2P Tryd.f52
def ZlG (r0 r1 : AV) (B : List Row) : Option Res :=
 ob (ob (some r0) fun v => ob (ob (some r1) fun v => ob (some []) fun vs => some (v :: vs)) fun vs => some (v :: vs)) fun vs => some ((nrmA (match vs with | [v] => v | vs => Z1W (vs.map shr))), B)
def ZdL (m0 : Nat) : Kont := kret PP HH 52 Tryd.f52.results
def Zhu (m0 : Nat) : Kont := kseq HH 52 m0 (l2 (l2 (l2 (l2 Z9g)))) (exec PP HH 52 m0 EE LL (l2 (l2 (l2 (l2 Z9g)))) (ZdL m0)) (ZdL m0)
def Zs5 (m0 : Nat) : Kont := kseq HH 52 m0 (l2 (l1 (l2 (l2 (l1 (l2 (l1 (l2 (l2 (l2 Z9g)))))))))) (exec PP HH 52 m0 EE LL (l2 (l1 (l2 (l2 (l1 (l2 (l1 (l2 (l2 (l2 Z9g)))))))))) (Zhu m0)) (Zhu m0)
def Zs6 (m0 : Nat) : Kont := kseq HH 52 m0 (l2 (l2 (l2 (l2 (l2 Z9g))))) (exec PP HH 52 m0 EE LL (l2 (l2 (l2 (l2 (l2 Z9g))))) (ZdL m0)) (ZdL m0)
def ZjU (m0 : Nat) (x0 x1 x4 : AV) (B : List Row) : Option Res := exec PP HH 52 m0 EE LL (l1 (l2 (l2 (l1 (l2 (l1 (l2 (l2 (l2 Z9g))))))))) (Zhu m0) [(0, x0), (1, x1), (4, x4)] B
def ZdM (m0 : Nat) (x0 x1 x4 x5 : AV) (B : List Row) : Option Res := exec PP HH 52 m0 EE LL (l2 (l2 (l2 (l2 Z9g)))) (ZdL m0) [(0, x0), (1, x1), (4, x4), (5, x5)] B
def ZjV (m0 : Nat) (x4 : AV) (B : List Row) : Option Res := exec PP HH 52 m0 EE LL (l1 (l2 (l1 (l1 (l2 (l2 (l1 (l2 (l1 (l2 (l2 (l2 Z9g)))))))))))) (Zs5 m0) [(4, x4)] B
def Zhv (m0 : Nat) (x0 x1 x4 : AV) (B : List Row) : Option Res := exec PP HH 52 m0 EE LL (l2 (l1 (l2 (l2 (l1 (l2 (l1 (l2 (l2 (l2 Z9g)))))))))) (Zhu m0) [(0, x0), (1, x1), (4, x4)] B
def Zc9 (m0 : Nat) (x0 x1 x4 x5 : AV) (B : List Row) : Option Res := exec PP HH 52 m0 EE LL (l1 (l2 (l1 (l2 (l2 (l2 (l2 Z9g))))))) (Zs6 m0) [(0, x0), (1, x1), (4, x4), (5, x5)] B
def Zg6 (m0 : Nat) (x4 x5 : AV) (B : List Row) : Option Res := exec PP HH 52 m0 EE LL (l2 (l2 (l2 (l2 (l2 Z9g))))) (ZdL m0) [(4, x4), (5, x5)] B
theorem Zo8 m0 x0 x1 x4 B : ZjU m0 x0 x1 x4 B =
 mk (callS false EE 27 [(shr x0), (.p (.v (.string (ByteArray.mk #[125]))))] B fun a12 B13 =>
 asB (shr a12) fun t14 => br t14 (ob (xbin PP .leq 3 (shr x4) (iv 64)) fun a15 =>
 asB (shr a15) fun t16 => br t16 (ZjV m0 x4 (gcB m0 [x4] B13))
 (Zhv m0 x0 x1 x4 (gcB m0 [x0, x1, x4] B13)))
 (Zhv m0 x0 x1 x4 (gcB m0 [x0, x1, x4] B13))) := by kernel_rfl
theorem Zob m0 x0 x1 x4 x5 B : ZdM m0 x0 x1 x4 x5 B =
 mk (ob (xbin PP .lss 3 (shr x4) (iv 0)) fun a17 =>
 asB (shr a17) fun t18 => br t18 (Zc9 m0 x0 x1 x4 x5 (gcB m0 [x0, x1, x4, x5] B))
 (ob (xbin PP .lss 3 (shr x5) (shr x4)) fun a19 =>
 asB (shr (shr a19)) fun t20 => br t20 (Zc9 m0 x0 x1 x4 x5 (gcB m0 [x0, x1, x4, x5] B))
 (ob (xbin PP .gtr 3 (shr x5) (iv 64)) fun a21 =>
 asB (shr (shr a21)) fun t22 => br t22 (Zc9 m0 x0 x1 x4 x5 (gcB m0 [x0, x1, x4, x5] B))
 (callS false EE 27 [(shr x0), (.p (.v (.string (ByteArray.mk #[125]))))] B fun a23 B24 =>
 ob (xun PP .not a23) fun a25 =>
 asB (shr a25) fun t26 => br t26 (Zc9 m0 x0 x1 x4 x5 (gcB m0 [x0, x1, x4, x5] B24))
 (Zg6 m0 x4 x5 (gcB m0 [x4, x5] B24)))))) := by kernel_rfl
theorem Zo9 m0 x4 B : ZjV m0 x4 B =
 mk (ZlG (shr (shr x4)) (iv (-1)) B) := by kernel_rfl
theorem Zoa m0 x0 x1 x4 B : Zhv m0 x0 x1 x4 B =
 mk (ZdM m0 x0 x1 x4 (iv (-2)) (gcB m0 [x0, x1, x4, (iv (-2))] B)) := by kernel_rfl
theorem ZmM m0 x0 x1 x4 x5 B : Zc9 m0 x0 x1 x4 x5 B =
 mk (callS false EE 29 [(shr x0), (iv 23), (shr x1)] B fun a27 B28 =>
 Zg6 m0 x4 x5 (gcB m0 [x4, x5] B28)) := by kernel_rfl
theorem ZmN m0 x4 x5 B : Zg6 m0 x4 x5 B =
 mk (ZlG (shr (shr x4)) (shr (shr x5)) B) := by kernel_rfl
theorem Zs4 x0 x1 B : EE 52 [x0, x1] B =
 (let m0 := B.length
 mk (mk (callS false EE 63 [(shr x0)] B fun a1 B2 =>
 mk (mk (callS false EE 27 [(shr x0), (.p (.v (.string (ByteArray.mk #[44]))))] B2 fun a3 B4 =>
 asB a3 fun t5 => br t5 (mk (callS false EE 63 [(shr x0)] B4 fun a6 B7 =>
 mk (ob (xbin PP .lss 3 (shr (shr a6)) (iv 0)) fun a8 =>
 asB (shr a8) fun t9 => br t9 (ob (xbin PP .geq 3 (shr (shr a1)) (iv 0)) fun a10 =>
 asB (shr a10) fun t11 => br t11 (ZjU m0 x0 x1 (shr a1) (gcB m0 [x0, x1, (shr a1)] B7))
 (ZdM m0 x0 x1 (shr a1) (shr a6) (gcB m0 [x0, x1, (shr a1), (shr a6)] B7)))
 (ZdM m0 x0 x1 (shr a1) (shr a6) (gcB m0 [x0, x1, (shr a1), (shr a6)] B7)))))
 (ZdM m0 x0 x1 (shr a1) (shr (shr (shr a1))) (gcB m0 [x0, x1, (shr a1), (shr (shr (shr a1)))] B4))))))) := (E_eq PP XX HH _ _ _).trans (by kernel_rfl)
def ZsU : Code := Z2P Tryd.f54
def ZlH (r0 r1 : AV) (B : List Row) : Option Res :=
 ob (ob (some r0) fun v => ob (ob (some r1) fun v => ob (some []) fun vs => some (v :: vs)) fun vs => some (v :: vs)) fun vs => some ((nrmA (match vs with | [v] => v | vs => Z1W (vs.map shr))), B)
def Zs8 (m0 : Nat) : Kont := kret PP HH 54 Tryd.f54.results
def ZjW (m0 : Nat) (x0 : AV) (B : List Row) : Option Res := exec PP HH 54 m0 EE LL (l2 (l2 ZsU)) (Zs8 m0) [(0, x0)] B
theorem Zoc m0 x0 B : ZjW m0 x0 B =
 mk (callS false EE 68 [(shr x0)] B fun a4 B5 =>
 ZlH (shr a4) (iv 0) B5) := by kernel_rfl
theorem Zs7 x0 B : EE 54 [x0] B =
 (let m0 := B.length
 mk (mk (callS false EE 65 [(shr x0), (.clo 66 [] [])] B fun a1 B2 =>
 asB a1 fun t3 => br t3 (mk (ZlH nilA (iv 13) B2))
 (ZjW m0 x0 (gcB m0 [x0] B2))))) := (E_eq PP XX HH _ _ _).trans (by kernel_rfl)
def ZsV : Code := Z2P Tryd.f55
def ZlI (r0 r1 : AV) (B : List Row) : Option Res :=
 ob (ob (some r0) fun v => ob (ob (some r1) fun v => ob (some []) fun vs => some (v :: vs)) fun vs => some (v :: vs)) fun vs => some ((nrmA (match vs with | [v] => v | vs => Z1W (vs.map shr))), B)
def Zsa (m0 : Nat) : Kont := kret PP HH 55 Tryd.f55.results
def ZjX (m0 : Nat) (x0 : AV) (B : List Row) : Option Res := exec PP HH 55 m0 EE LL (l2 (l2 ZsV)) (Zsa m0) [(0, x0)] B
theorem Zod m0 x0 B : ZjX m0 x0 B =
 mk (callS false EE 70 [(shr x0)] B fun a5 B6 =>
 ZlI (shr a5) (iv 0) B6) := by kernel_rfl
theorem Zs9 x0 B : EE 55 [x0] B =
 (let m0 := B.length
 mk (mk (callS false EE 69 [(shr x0)] B fun a1 B2 =>
 ob (xun PP .not a1) fun a3 =>
 asB a3 fun t4 => br t4 (mk (ZlI nilA (iv 10) B2))
 (ZjX m0 x0 (gcB m0 [x0] B2))))) := (E_eq PP XX HH _ _ _).trans (by kernel_rfl)
def ZsW : Code := Z2P Tryd.f56
def Z5l (r0 : AV) (B : List Row) : Option Res :=
 ob (ob (some r0) fun v => ob (some []) fun vs => some (v :: vs)) fun vs => some ((match vs with | [v] => v | vs => Z1W (vs.map shr)), B)
def Zsc (m0 : Nat) : Kont := kret PP HH 56 Tryd.f56.results
def Z7z (m0 : Nat) (B : List Row) : Option Res := exec PP HH 56 m0 EE LL (l2 (l2 ZsW)) (Zsc m0) [] B
theorem ZmO m0 B : Z7z m0  B =
 mk (Z5l nilA B) := by kernel_rfl
theorem Zsb x0 B : EE 56 [x0] B =
 (let m0 := B.length
 mk (mk (mk (ob (xbin PP .eql 3 (shr x0) (iv 100)) fun a1 =>
 asB (shr a1) fun t2 => br t2 (asB (shr a1) fun t3 => br t3 (mk (ob (Z1o PP 39 [(0, (iv 48)), (1, (iv 57))]) fun a4 =>
 ob (xlit PP 23 1 [(0, a4)]) fun a5 =>
 Z5l a5 B))
 (mk (ob (xbin PP .eql 3 (shr x0) (iv 119)) fun a6 =>
 asB (shr a6) fun t7 => br t7 (asB (shr a6) fun t8 => br t8 (mk (ob (Z1o PP 39 [(0, (iv 48)), (1, (iv 57))]) fun a9 =>
 ob (Z1o PP 39 [(0, (iv 65)), (1, (iv 90))]) fun a10 =>
 callS false EE 48 [(iv 95)] B fun a11 B12 =>
 ob (Z1o PP 39 [(0, (iv 97)), (1, (iv 122))]) fun a13 =>
 ob (xlit PP 23 4 [(0, a9), (1, a10), (2, a11), (3, a13)]) fun a14 =>
 Z5l a14 B12))
 (mk (ob (xbin PP .eql 3 (shr x0) (iv 115)) fun a15 =>
 asB (shr a15) fun t16 => br t16 (asB (shr a15) fun t17 => br t17 (mk (ob (Z1o PP 39 [(0, (iv 9)), (1, (iv 13))]) fun a18 =>
 callS false EE 48 [(iv 32)] B fun a19 B20 =>
 ob (xlit PP 23 2 [(0, a18), (1, a19)]) fun a21 =>
 Z5l a21 B20))
 (Z7z m0  (gcB m0 [] B)))
 (mk (ob (xbin PP .eql 3 (shr x0) (iv 83)) fun a22 =>
 asB (shr a22) fun t23 => br t23 (mk (ob (Z1o PP 39 [(0, (iv 9)), (1, (iv 13))]) fun a24 =>
 callS false EE 48 [(iv 32)] B fun a25 B26 =>
 ob (xlit PP 23 2 [(0, a24), (1, a25)]) fun a27 =>
 Z5l a27 B26))
 (Z7z m0  (gcB m0 [] B)))))))
 (mk (ob (xbin PP .eql 3 (shr x0) (iv 87)) fun a28 =>
 asB (shr a28) fun t29 => br t29 (mk (ob (Z1o PP 39 [(0, (iv 48)), (1, (iv 57))]) fun a30 =>
 ob (Z1o PP 39 [(0, (iv 65)), (1, (iv 90))]) fun a31 =>
 callS false EE 48 [(iv 95)] B fun a32 B33 =>
 ob (Z1o PP 39 [(0, (iv 97)), (1, (iv 122))]) fun a34 =>
 ob (xlit PP 23 4 [(0, a30), (1, a31), (2, a32), (3, a34)]) fun a35 =>
 Z5l a35 B33))
 (mk (ob (xbin PP .eql 3 (shr x0) (iv 115)) fun a36 =>
 asB (shr a36) fun t37 => br t37 (asB (shr a36) fun t38 => br t38 (mk (ob (Z1o PP 39 [(0, (iv 9)), (1, (iv 13))]) fun a39 =>
 callS false EE 48 [(iv 32)] B fun a40 B41 =>
 ob (xlit PP 23 2 [(0, a39), (1, a40)]) fun a42 =>
 Z5l a42 B41))
 (Z7z m0  (gcB m0 [] B)))
 (mk (ob (xbin PP .eql 3 (shr x0) (iv 83)) fun a43 =>
 asB (shr a43) fun t44 => br t44 (mk (ob (Z1o PP 39 [(0, (iv 9)), (1, (iv 13))]) fun a45 =>
 callS false EE 48 [(iv 32)] B fun a46 B47 =>
 ob (xlit PP 23 2 [(0, a45), (1, a46)]) fun a48 =>
 Z5l a48 B47))
 (Z7z m0  (gcB m0 [] B)))))))))))
 (mk (ob (xbin PP .eql 3 (shr x0) (iv 68)) fun a49 =>
 asB (shr a49) fun t50 => br t50 (mk (ob (Z1o PP 39 [(0, (iv 48)), (1, (iv 57))]) fun a51 =>
 ob (xlit PP 23 1 [(0, a51)]) fun a52 =>
 Z5l a52 B))
 (mk (ob (xbin PP .eql 3 (shr x0) (iv 119)) fun a53 =>
 asB (shr a53) fun t54 => br t54 (asB (shr a53) fun t55 => br t55 (mk (ob (Z1o PP 39 [(0, (iv 48)), (1, (iv 57))]) fun a56 =>
 ob (Z1o PP 39 [(0, (iv 65)), (1, (iv 90))]) fun a57 =>
 callS false EE 48 [(iv 95)] B fun a58 B59 =>
 ob (Z1o PP 39 [(0, (iv 97)), (1, (iv 122))]) fun a60 =>
 ob (xlit PP 23 4 [(0, a56), (1, a57), (2, a58), (3, a60)]) fun a61 =>
 Z5l a61 B59))
 (mk (ob (xbin PP .eql 3 (shr x0) (iv 115)) fun a62 =>
 asB (shr a62) fun t63 => br t63 (asB (shr a62) fun t64 => br t64 (mk (ob (Z1o PP 39 [(0, (iv 9)), (1, (iv 13))]) fun a65 =>
 callS false EE 48 [(iv 32)] B fun a66 B67 =>
 ob (xlit PP 23 2 [(0, a65), (1, a66)]) fun a68 =>
 Z5l a68 B67))
 (Z7z m0  (gcB m0 [] B)))
 (mk (ob (xbin PP .eql 3 (shr x0) (iv 83)) fun a69 =>
 asB (shr a69) fun t70 => br t70 (mk (ob (Z1o PP 39 [(0, (iv 9)), (1, (iv 13))]) fun a71 =>
 callS false EE 48 [(iv 32)] B fun a72 B73 =>
 ob (xlit PP 23 2 [(0, a71), (1, a72)]) fun a74 =>
 Z5l a74 B73))
 (Z7z m0  (gcB m0 [] B)))))))
 (mk (ob (xbin PP .eql 3 (shr x0) (iv 87)) fun a75 =>
 asB (shr a75) fun t76 => br t76 (mk (ob (Z1o PP 39 [(0, (iv 48)), (1, (iv 57))]) fun a77 =>
 ob (Z1o PP 39 [(0, (iv 65)), (1, (iv 90))]) fun a78 =>
 callS false EE 48 [(iv 95)] B fun a79 B80 =>
 ob (Z1o PP 39 [(0, (iv 97)), (1, (iv 122))]) fun a81 =>
 ob (xlit PP 23 4 [(0, a77), (1, a78), (2, a79), (3, a81)]) fun a82 =>
 Z5l a82 B80))
 (mk (ob (xbin PP .eql 3 (shr x0) (iv 115)) fun a83 =>
 asB (shr a83) fun t84 => br t84 (asB (shr a83) fun t85 => br t85 (mk (ob (Z1o PP 39 [(0, (iv 9)), (1, (iv 13))]) fun a86 =>
 callS false EE 48 [(iv 32)] B fun a87 B88 =>
 ob (xlit PP 23 2 [(0, a86), (1, a87)]) fun a89 =>
 Z5l a89 B88))
 (Z7z m0  (gcB m0 [] B)))
 (mk (ob (xbin PP .eql 3 (shr x0) (iv 83)) fun a90 =>
 asB (shr a90) fun t91 => br t91 (mk (ob (Z1o PP 39 [(0, (iv 9)), (1, (iv 13))]) fun a92 =>
 callS false EE 48 [(iv 32)] B fun a93 B94 =>
 ob (xlit PP 23 2 [(0, a92), (1, a93)]) fun a95 =>
 Z5l a95 B94))
 (Z7z m0  (gcB m0 [] B)))))))))))))))) := (E_eq PP XX HH _ _ _).trans (by kernel_rfl)
def Zjb : Code := Z2P Tryd.f57
def Zca (r0 : AV) (B : List Row) : Option Res :=
 ob (ob (some r0) fun v => ob (some []) fun vs => some (v :: vs)) fun vs => some ((nrmA (match vs with | [v] => v | vs => Z1W (vs.map shr))), B)
def ZjY (m0 : Nat) : Kont := kret PP HH 57 Tryd.f57.results
def Zse (m0 : Nat) : Kont := kseq HH 57 m0 (l2 (l2 Zjb)) (exec PP HH 57 m0 EE LL (l2 (l2 Zjb)) (ZjY m0)) (ZjY m0)
def Zsf (m0 : Nat) : Kont := kblk 0 (Zse m0)
def Zao (m0 : Nat) (x0 x2 : AV) (B : List Row) : Option Res := exec PP HH 57 m0 EE LL (l2 (l2 Zjb)) (ZjY m0) [(0, x0), (2, x2)] B
def Ziv (m0 : Nat) (x1 : AV) (B : List Row) : Option Res := exec PP HH 57 m0 EE LL (l1 (l2 (l2 (l2 (l2 (l2 (l2 (l2 (l2 (l2 (l1 (l1 (l2 Zjb))))))))))))) (Zsf m0) [(1, x1)] B
theorem ZmQ m0 x0 x2 B : Zao m0 x0 x2 B =
 mk (callS false EE 29 [(shr x0), (iv 21), (shr x2)] B fun a39 B40 =>
 mk (Zca (iv 0) B40)) := by kernel_rfl
theorem ZmP m0 x1 B : Ziv m0 x1 B =
 mk (Zca (shr (shr x1)) B) := by kernel_rfl
theorem Zsd x0 x1 x2 B : EE 57 [x0, x1, x2] B =
 (let m0 := B.length
 mk (mk (ob (xbin PP .eql 3 (shr x1) (iv 110)) fun a1 =>
 asB (shr a1) fun t2 => br t2 (mk (Zca (iv 10) B))
 (mk (ob (xbin PP .eql 3 (shr x1) (iv 116)) fun a3 =>
 asB (shr a3) fun t4 => br t4 (mk (Zca (iv 9) B))
 (mk (ob (xbin PP .eql 3 (shr x1) (iv 114)) fun a5 =>
 asB (shr a5) fun t6 => br t6 (mk (Zca (iv 13) B))
 (mk (ob (xbin PP .eql 3 (shr x1) (iv 120)) fun a7 =>
 asB (shr a7) fun t8 => br t8 (mk (callS false EE 41 [(shr x0)] B fun a9 B10 =>
 callS false EE 71 [a9] B10 fun a11 B12 =>
 mk (ob (xbin PP .geq 3 (shr (shr a11)) (iv 0)) fun a13 =>
 asB a13 fun t14 => br t14 (mk (callS false EE 46 [(shr x0)] B12 fun a15 B16 =>
 mk (callS false EE 41 [(shr x0)] B16 fun a17 B18 =>
 callS false EE 71 [a17] B18 fun a19 B20 =>
 mk (ob (xbin PP .geq 3 (shr (shr a19)) (iv 0)) fun a21 =>
 asB a21 fun t22 => br t22 (mk (callS false EE 46 [(shr x0)] B20 fun a23 B24 =>
 mk (ob (xbin PP .mul 3 (iv 16) (shr (shr a11))) fun a25 =>
 ob (xbin PP .add 3 a25 (shr (shr a19))) fun a26 =>
 Zca (shr a26) B24)))
 (Zao m0 x0 x2 (gcB m0 [x0, x2] B20))))))
 (Zao m0 x0 x2 (gcB m0 [x0, x2] B12)))))
 (mk (ob (xbin PP .gtr 3 (shr x1) (iv 32)) fun a27 =>
 asB (shr a27) fun t28 => br t28 (ob (xbin PP .lss 3 (shr x1) (iv 127)) fun a29 =>
 asB (shr (shr a29)) fun t30 => br t30 (ob (Z1o PP 39 [(0, (iv 48)), (1, (iv 57))]) fun a31 =>
 ob (Z1o PP 39 [(0, (iv 65)), (1, (iv 90))]) fun a32 =>
 ob (Z1o PP 39 [(0, (iv 97)), (1, (iv 122))]) fun a33 =>
 ob (xlit PP 24 3 [(0, a31), (1, a32), (2, a33)]) fun a34 =>
 callS false EE 19 [a34, (shr x1)] B fun a35 B36 =>
 ob (xun PP .not a35) fun a37 =>
 asB (shr (shr a37)) fun t38 => br t38 (Ziv m0 x1 (gcB m0 [x1] B36))
 (Zao m0 x0 x2 (gcB m0 [x0, x2] B36)))
 (Zao m0 x0 x2 (gcB m0 [x0, x2] B)))
 (Zao m0 x0 x2 (gcB m0 [x0, x2] B))))))))))))) := (E_eq PP XX HH _ _ _).trans (by kernel_rfl)
def ZqG (B : List Row) : Option Res :=
 ob (some []) fun vs => some ((nrmA (match vs with | [v] => v | vs => Z1W (vs.map shr))), B)
theorem Zsg x0 x1 B : EE 58 [x0, x1] B =
 (let m0 := B.length
 mk (ob (ldN false 1 x1 B) fun a1 =>
 callS false EE 59 [a1, (shr x0)] B fun a2 B3 =>
 ob (xext 0 (shr a2)) fun a4 =>
 ob (xext 1 (shr a2)) fun a5 =>
 stN 1 x1 (shr a4) B3 fun B6 =>
 ZqG  B6)) := (E_eq PP XX HH _ _ _).trans (by kernel_rfl)
def Zjc : Code := Z2P Tryd.f59
def ZlJ (r0 r1 : AV) (B : List Row) : Option Res :=
 ob (ob (some r0) fun v => ob (ob (some r1) fun v => ob (some []) fun vs => some (v :: vs)) fun vs => some (v :: vs)) fun vs => some ((nrmA (match vs with | [v] => v | vs => Z1W (vs.map shr))), B)
def ZjZ (m0 : Nat) : Kont := kret PP HH 59 Tryd.f59.results
def Zsi (m0 : Nat) : Kont := kseq HH 59 m0 (l2 (l2 Zjc)) (exec PP HH 59 m0 EE LL (l2 (l2 Zjc)) (ZjZ m0)) (ZjZ m0)
def Zhw (m0 : Nat) (B : List Row) : Option Res := exec PP HH 59 m0 EE LL (l1 (l2 (l1 (l2 Zjc)))) (Zsi m0) [] B
def Zk0 (m0 : Nat) (x0 x1 : AV) (B : List Row) : Option Res := exec PP HH 59 m0 EE LL (l2 (l2 Zjc)) (ZjZ m0) [(0, x0), (1, x1)] B
theorem Zoe m0 B : Zhw m0  B =
 mk (ZlJ nilA (iv 10) B) := by kernel_rfl
theorem Zof m0 x0 x1 B : Zk0 m0 x0 x1 B =
 mk (ob (xlit PP 109 2 [(0, (shr x0)), (1, (shr x1))]) fun a9 =>
 callS false EE 72 [a9] B fun a10 B11 =>
 callS false EE 68 [a10] B11 fun a12 B13 =>
 ZlJ (shr a12) (iv 0) B13) := by kernel_rfl
theorem Zsh x0 x1 B : EE 59 [x0, x1] B =
 (let m0 := B.length
 mk (mk (callS false EE 69 [(shr x0)] B fun a1 B2 =>
 ob (xun PP .not a1) fun a3 =>
 asB (shr a3) fun t4 => br t4 (Zhw m0  (gcB m0 [] B2))
 (callS false EE 69 [(shr x1)] B2 fun a5 B6 =>
 ob (xun PP .not a5) fun a7 =>
 asB (shr a7) fun t8 => br t8 (Zhw m0  (gcB m0 [] B6))
 (Zk0 m0 x0 x1 (gcB m0 [x0, x1] B6)))))) := (E_eq PP XX HH _ _ _).trans (by kernel_rfl)
def ZmR : Code := Z2P Tryd.f60
def Zg7 (r0 r1 r2 : AV) (B : List Row) : Option Res :=
 ob (ob (some r0) fun v => ob (ob (some r1) fun v => ob (ob (some r2) fun v => ob (some []) fun vs => some (v :: vs)) fun vs => some (v :: vs)) fun vs => some (v :: vs)) fun vs => some ((match vs with | [v] => v | vs => Z1W (vs.map shr)), B)
def Zk1 (m0 : Nat) : Kont := kret PP HH 60 Tryd.f60.results
def Zk2 (m0 : Nat) (x0 x5 : AV) (B : List Row) : Option Res := exec PP HH 60 m0 EE LL (l2 (l2 (l2 ZmR))) (Zk1 m0) [(0, x0), (5, x5)] B
def Zk3 (m0 : Nat) (x0 x2 x5 : AV) (B : List Row) : Option Res := exec PP HH 60 m0 EE LL (l2 (l2 (l2 (l2 ZmR)))) (Zk1 m0) [(0, x0), (2, x2), (5, x5)] B
def Ziw (m0 : Nat) (x0 x2 x5 : AV) (B : List Row) : Option Res := exec PP HH 60 m0 EE LL (l2 (l2 (l2 (l2 (l2 (l2 ZmR)))))) (Zk1 m0) [(0, x0), (2, x2), (5, x5)] B
theorem Zog m0 x0 x5 B : Zk2 m0 x0 x5 B =
 mk (callS false EE 41 [(shr x0)] B fun a8 B9 =>
 mk (ob (xbin PP .lss 3 (shr (shr a8)) (iv 0)) fun a10 =>
 asB a10 fun t11 => br t11 (mk (callS false EE 29 [(shr x0), (iv 21), (shr x5)] B9 fun a12 B13 =>
 mk (Zg7 (iv 0) nilA (bv false) B13)))
 (Zk3 m0 x0 (shr a8) x5 (gcB m0 [x0, (shr a8), x5] B9)))) := by kernel_rfl
theorem Zoh m0 x0 x2 x5 B : Zk3 m0 x0 x2 x5 B =
 mk (callS false EE 46 [(shr x0)] B fun a14 B15 =>
 mk (callS true EE 56 [(shr x2)] B15 fun a16 B17 =>
 mk (ob (xnil PP .neq 23 (.slice none 0 0) (shr a16)) fun a18 =>
 asB a18 fun t19 => br t19 (mk (ob (xbin PP .lss 3 (shr x2) (iv 97)) fun a20 =>
 Zg7 (iv 0) a16 (shr a20) B17))
 (Ziw m0 x0 x2 x5 (gcB m0 [x0, x2, x5] B17))))) := by kernel_rfl
theorem ZmS m0 x0 x2 x5 B : Ziw m0 x0 x2 x5 B =
 mk (callS false EE 57 [(shr x0), (shr x2), (shr x5)] B fun a21 B22 =>
 Zg7 (shr a21) nilA (bv false) B22) := by kernel_rfl
theorem Zsj x0 B : EE 60 [x0] B =
 (let m0 := B.length
 mk (mk (ob (Z1m (shr x0)) fun a1 =>
 ob (xfld 1 a1) fun a2 =>
 ob (ldN false 1 a2 B) fun a3 =>
 mk (callS false EE 46 [(shr x0)] B fun a4 B5 =>
 mk (ob (xbin PP .neq 3 (shr (shr a4)) (iv 92)) fun a6 =>
 asB a6 fun t7 => br t7 (mk (Zg7 (shr (shr (shr a4))) nilA (bv false) B5))
 (Zk2 m0 x0 (shr a3) (gcB m0 [x0, (shr a3)] B5))))))) := (E_eq PP XX HH _ _ _).trans (by kernel_rfl)
def ZcX : Code := Z2P Tryd.f61
def ZlK (r0 : AV) (B : List Row) : Option Res :=
 ob (ob (some r0) fun v => ob (some []) fun vs => some (v :: vs)) fun vs => some ((nrmA (match vs with | [v] => v | vs => Z1W (vs.map shr))), B)
def Zk4 (m0 : Nat) : Kont := kret PP HH 61 Tryd.f61.results
def Zsl (m0 : Nat) : Kont := kseq HH 61 m0 (l2 (l2 ZcX)) (exec PP HH 61 m0 EE LL (l2 (l2 ZcX)) (Zk4 m0)) (Zk4 m0)
def Zk5 (m0 : Nat) : Kont := kblk 0 (Zsl m0)
def Zoi (m0 : Nat) : Kont := kloop HH 61 m0 (l1 (l1 (l2 (l1 (l2 ZcX))))) (LL 61 m0 (l1 (l1 (l2 (l1 (l2 ZcX))))) (Zk5 m0)) (Zk5 m0)
def ZdN (m0 : Nat) (x0 x1 x7 x8 : AV) (B : List Row) : Option Res := lp (LL 61 m0 (l1 (l1 (l2 (l1 (l2 ZcX))))) (Zk5 m0) [(0, x0), (1, x1), (7, x7), (8, x8)] B)
def Zk6 (m0 : Nat) (x0 x1 x7 x8 : AV) (B : List Row) : Option Res := exec PP HH 61 m0 EE LL (l2 (l2 (l1 (l1 (l2 (l1 (l2 ZcX))))))) (Zoi m0) [(0, x0), (1, x1), (7, x7), (8, x8)] B
def Zk8 (m0 : Nat) (B : List Row) : Option Res := exec PP HH 61 m0 EE LL (l2 (l2 ZcX)) (Zk4 m0) [] B
def Zk7 (m0 : Nat) (x0 x1 x7 x8 : AV) (B : List Row) : Option Res := exec PP HH 61 m0 EE LL (l2 (l2 (l2 (l1 (l1 (l2 (l1 (l2 ZcX)))))))) (Zoi m0) [(0, x0), (1, x1), (7, x7), (8, x8)] B
theorem Zoj m0 x0 x1 x7 x8 B : ZdN m0 x0 x1 x7 x8 B =
 mk (ob (xbin PP .lss 3 x8 x7) fun a2 =>
 asB a2 fun t3 => br t3 (Zk6 m0 x0 x1 x7 x8 (gcB m0 [x0, x1, x7, x8] B))
 (Zk8 m0  (gcB m0 [] B))) := (L_eq PP XX HH _ _ _ _ _ _).trans (by kernel_rfl)
theorem Zok m0 x0 x1 x7 x8 B : Zk6 m0 x0 x1 x7 x8 B =
 mk (mk (ob (xidx 1 (shr x0) (shr (shr (shr x8)))) fun a4 =>
 ob (ldN false 1 a4 B) fun a5 =>
 callV HH EE (shr x1) [a5] B fun a6 B7 =>
 asB a6 fun t8 => br t8 (mk (ZlK (shr (shr (shr (shr x8)))) B7))
 (Zk7 m0 x0 x1 x7 x8 (gcB m0 [x0, x1, x7, x8] B7)))) := by kernel_rfl
theorem Zom m0 B : Zk8 m0  B =
 mk (ZlK (iv (-1)) B) := by kernel_rfl
theorem Zol m0 x0 x1 x7 x8 B : Zk7 m0 x0 x1 x7 x8 B =
 mk (ob (xbin PP .add 3 x8 (iv 1)) fun a9 =>
 ZdN m0 x0 x1 x7 (shr a9) (gcB m0 [x0, x1, x7, (shr a9)] B)) := by kernel_rfl
theorem Zsk x0 x1 B : EE 61 [x0, x1] B =
 (let m0 := B.length
 mk (mk (ob (xlen PP 43 (shr x0)) fun a1 =>
 ZdN m0 x0 x1 a1 (iv 0) (gcB m0 [x0, x1, a1, (iv 0)] B)))) := (E_eq PP XX HH _ _ _).trans (by kernel_rfl)
def ZqH (r0 : AV) (B : List Row) : Option Res :=
 ob (ob (some r0) fun v => ob (some []) fun vs => some (v :: vs)) fun vs => some ((nrmA (match vs with | [v] => v | vs => Z1W (vs.map shr))), B)
theorem Zsm B : EE 62 [] B =
 (let m0 := B.length
 mk (mk (ob (xlit PP 43 4 [(0, (.p (.v (.string (ByteArray.mk #[63, 61]))))), (1, (.p (.v (.string (ByteArray.mk #[63, 33]))))), (2, (.p (.v (.string (ByteArray.mk #[63, 60, 61]))))), (3, (.p (.v (.string (ByteArray.mk #[63, 60, 33])))))]) fun a1 =>
 ZqH (shr a1) B))) := (E_eq PP XX HH _ _ _).trans (by kernel_rfl)
def Zes : Code := Z2P Tryd.f63
def ZqI (r0 : AV) (B : List Row) : Option Res :=
 ob (ob (some r0) fun v => ob (some []) fun vs => some (v :: vs)) fun vs => some ((nrmA (match vs with | [v] => v | vs => Z1W (vs.map shr))), B)
def Zk9 (m0 : Nat) : Kont := kret PP HH 63 Tryd.f63.results
def Zso (m0 : Nat) : Kont := kseq HH 63 m0 (l2 (l2 (l2 Zes))) (exec PP HH 63 m0 EE LL (l2 (l2 (l2 Zes))) (Zk9 m0)) (Zk9 m0)
def Zka (m0 : Nat) : Kont := kblk 0 (Zso m0)
def Zsp (m0 : Nat) : Kont := kloop HH 63 m0 (l1 (l1 (l2 (l1 (l2 (l2 Zes)))))) (LL 63 m0 (l1 (l1 (l2 (l1 (l2 (l2 Zes)))))) (Zka m0)) (Zka m0)
def ZdO (m0 : Nat) (x0 x3 x4 : AV) (B : List Row) : Option Res := lp (LL 63 m0 (l1 (l1 (l2 (l1 (l2 (l2 Zes)))))) (Zka m0) [(0, x0), (3, x3), (4, x4)] B)
def Zkb (m0 : Nat) (x0 x3 x4 : AV) (B : List Row) : Option Res := exec PP HH 63 m0 EE LL (l2 (l1 (l1 (l2 (l1 (l2 (l2 Zes))))))) (Zsp m0) [(0, x0), (3, x3), (4, x4)] B
def Zfj (m0 : Nat) (x3 : AV) (B : List Row) : Option Res := exec PP HH 63 m0 EE LL (l2 (l2 (l2 Zes))) (Zk9 m0) [(3, x3)] B
theorem Zon m0 x0 x3 x4 B : ZdO m0 x0 x3 x4 B =
 mk (ob (xbin PP .lss 3 (shr x4) (iv 2)) fun a1 =>
 asB (shr a1) fun t2 => br t2 (callS false EE 41 [(shr x0)] B fun a3 B4 =>
 ob (xbin PP .geq 3 a3 (iv 48)) fun a5 =>
 asB (shr (shr a5)) fun t6 => br t6 (callS false EE 41 [(shr x0)] B4 fun a7 B8 =>
 ob (xbin PP .leq 3 a7 (iv 57)) fun a9 =>
 asB (shr a9) fun t10 => br t10 (Zkb m0 x0 x3 x4 (gcB m0 [x0, x3, x4] B8))
 (Zfj m0 x3 (gcB m0 [x3] B8)))
 (Zfj m0 x3 (gcB m0 [x3] B4)))
 (Zfj m0 x3 (gcB m0 [x3] B))) := (L_eq PP XX HH _ _ _ _ _ _).trans (by kernel_rfl)
theorem Zoo m0 x0 x3 x4 B : Zkb m0 x0 x3 x4 B =
 mk (ob (Z8I PP true [(shr x3), (iv 0)]) fun a11 =>
 ob (xbin PP .mul 3 (iv 10) a11) fun a12 =>
 callS false EE 46 [(shr x0)] B fun a13 B14 =>
 ob (xbin PP .add 3 a12 a13) fun a15 =>
 ob (xbin PP .sub 3 a15 (iv 48)) fun a16 =>
 mk (ob (xbin PP .add 3 (shr x4) (iv 1)) fun a17 =>
 ZdO m0 x0 (shr a16) (shr a17) (gcB m0 [x0, (shr a16), (shr a17)] B14))) := by kernel_rfl
theorem Zop m0 x3 B : Zfj m0 x3 B =
 mk (ZqI (shr (shr x3)) B) := by kernel_rfl
theorem Zsn x0 B : EE 63 [x0] B =
 (let m0 := B.length
 mk (mk (mk (ZdO m0 x0 (iv (-1)) (iv 0) (gcB m0 [x0, (iv (-1)), (iv 0)] B))))) := (E_eq PP XX HH _ _ _).trans (by kernel_rfl)
def ZqJ (r0 : AV) (B : List Row) : Option Res :=
 ob (ob (some r0) fun v => ob (some []) fun vs => some (v :: vs)) fun vs => some ((nrmA (match vs with | [v] => v | vs => Z1W (vs.map shr))), B)
theorem Zsq x0 x1 B : EE 65 [x0, x1] B =
 (let m0 := B.length
 mk (mk (callS false EE 73 [(shr x0), (shr x1)] B fun a1 B2 =>
 ob (xbin PP .geq 3 a1 (iv 0)) fun a3 =>
 ZqJ (shr a3) B2))) := (E_eq PP XX HH _ _ _).trans (by kernel_rfl)
def ZqK (r0 : AV) (B : List Row) : Option Res :=
 ob (ob (some r0) fun v => ob (some []) fun vs => some (v :: vs)) fun vs => some ((nrmA (match vs with | [v] => v | vs => Z1W (vs.map shr))), B)
theorem Zsr x0 B : EE 66 [x0] B =
 (let m0 := B.length
 mk (bx x0 B fun a1 B2 =>
 mk (ob (ldN true 2 a1 B2) fun a3 =>
 callS false EE 67 [a3] B2 fun a4 B5 =>
 ob (xun PP .not a4) fun a6 =>
 ZqK (shr a6) B5))) := (E_eq PP XX HH _ _ _).trans (by kernel_rfl)
def Zix (r0 : AV) (B : List Row) : Option Res :=
 ob (ob (some r0) fun v => ob (some []) fun vs => some (v :: vs)) fun vs => some ((nrmA (match vs with | [v] => v | vs => Z1W (vs.map shr))), B)
theorem Zss x0 B : EE 67 [x0] B =
 (let m0 := B.length
 mk (bx x0 B fun a1 B2 =>
 mk (ob (xfld 0 a1) fun a3 =>
 ob (ldN false 1 a3 B2) fun a4 =>
 ob (xbin PP .geq 3 a4 (iv 0)) fun a5 =>
 asB (shr a5) fun t6 => br t6 (ob (xfld 0 a1) fun a7 =>
 ob (ldN false 1 a7 B2) fun a8 =>
 ob (xfld 1 a1) fun a9 =>
 ob (ldN false 1 a9 B2) fun a10 =>
 ob (xbin PP .leq 3 a8 a10) fun a11 =>
 asB (shr (shr a11)) fun t12 => br t12 (ob (xfld 1 a1) fun a13 =>
 ob (ldN false 1 a13 B2) fun a14 =>
 ob (xbin PP .leq 3 a14 (iv 1114367)) fun a15 =>
 Zix (shr (shr a15)) B2)
 (Zix (bv false) B2))
 (Zix (bv false) B2)))) := (E_eq PP XX HH _ _ _).trans (by kernel_rfl)
def Z7J : Code := Z2P Tryd.f69
def ZlL (r0 : AV) (B : List Row) : Option Res :=
 ob (ob (some r0) fun v => ob (some []) fun vs => some (v :: vs)) fun vs => some ((nrmA (match vs with | [v] => v | vs => Z1W (vs.map shr))), B)
def Zkc (m0 : Nat) : Kont := kret PP HH 69 Tryd.f69.results
def Zsu (m0 : Nat) : Kont := kseq HH 69 m0 (l2 (l2 (l2 Z7J))) (exec PP HH 69 m0 EE LL (l2 (l2 (l2 Z7J))) (Zkc m0)) (Zkc m0)
def Zkd (m0 : Nat) : Kont := kblk 0 (Zsu m0)
def Zhx (m0 : Nat) : Kont := kloop HH 69 m0 (l1 (l1 (l2 (l1 (l2 (l2 Z7J)))))) (LL 69 m0 (l1 (l1 (l2 (l1 (l2 (l2 Z7J)))))) (Zkd m0)) (Zkd m0)
def Zsv (m0 : Nat) : Kont := kseq HH 69 m0 (l2 (l2 (l2 (l1 (l1 (l2 (l1 (l2 (l2 Z7J))))))))) (exec PP HH 69 m0 EE LL (l2 (l2 (l2 (l1 (l1 (l2 (l1 (l2 (l2 Z7J))))))))) (Zhx m0)) (Zhx m0)
def Zke (m0 : Nat) : Kont := kblk 1 (Zsv m0)
def Zsw (m0 : Nat) : Kont := kseq HH 69 m0 (l2 (l2 (l1 (l1 (l2 (l2 (l1 (l1 (l2 (l1 (l2 (l2 Z7J)))))))))))) (exec PP HH 69 m0 EE LL (l2 (l2 (l1 (l1 (l2 (l2 (l1 (l1 (l2 (l1 (l2 (l2 Z7J)))))))))))) (Zke m0)) (Zke m0)
def ZdP (m0 : Nat) (x3 x6 x7 x8 : AV) (B : List Row) : Option Res := lp (LL 69 m0 (l1 (l1 (l2 (l1 (l2 (l2 Z7J)))))) (Zkd m0) [(3, x3), (6, x6), (7, x7), (8, x8)] B)
def Zkf (m0 : Nat) (x3 x6 x7 x8 : AV) (B : List Row) : Option Res := exec PP HH 69 m0 EE LL (l2 (l2 (l1 (l1 (l2 (l1 (l2 (l2 Z7J)))))))) (Zhx m0) [(3, x3), (6, x6), (7, x7), (8, x8)] B
def Zki (m0 : Nat) (B : List Row) : Option Res := exec PP HH 69 m0 EE LL (l2 (l2 (l2 Z7J))) (Zkc m0) [] B
def Zhy (m0 : Nat) (B : List Row) : Option Res := exec PP HH 69 m0 EE LL (l1 (l2 (l1 (l2 (l1 (l1 (l2 (l2 (l1 (l1 (l2 (l1 (l2 (l2 Z7J)))))))))))))) (Zsw m0) [] B
def Zkg (m0 : Nat) (x5 x6 x7 x8 : AV) (B : List Row) : Option Res := exec PP HH 69 m0 EE LL (l2 (l2 (l1 (l1 (l2 (l2 (l1 (l1 (l2 (l1 (l2 (l2 Z7J)))))))))))) (Zke m0) [(5, x5), (6, x6), (7, x7), (8, x8)] B
def Zkh (m0 : Nat) (x3 x6 x7 x8 : AV) (B : List Row) : Option Res := exec PP HH 69 m0 EE LL (l2 (l2 (l2 (l1 (l1 (l2 (l1 (l2 (l2 Z7J))))))))) (Zhx m0) [(3, x3), (6, x6), (7, x7), (8, x8)] B
theorem Zoq m0 x3 x6 x7 x8 B : ZdP m0 x3 x6 x7 x8 B =
 mk (ob (xbin PP .lss 3 x8 x7) fun a2 =>
 asB a2 fun t3 => br t3 (Zkf m0 x3 x6 x7 x8 (gcB m0 [x3, x6, x7, x8] B))
 (Zki m0  (gcB m0 [] B))) := (L_eq PP XX HH _ _ _ _ _ _).trans (by kernel_rfl)
theorem Zor m0 x3 x6 x7 x8 B : Zkf m0 x3 x6 x7 x8 B =
 mk (ob (xidx 2 x6 x8) fun a4 =>
 ob (ldN true 2 a4 B) fun a5 =>
 bz PP 39 B fun a6 B7 =>
 stN 2 a6 a5 B7 fun B8 =>
 mk (ob (ldN true 2 a6 B8) fun a9 =>
 callS false EE 67 [a9] B8 fun a10 B11 =>
 ob (xun PP .not a10) fun a12 =>
 asB (shr a12) fun t13 => br t13 (Zhy m0  (gcB m0 [] B11))
 (ob (xfld 0 a6) fun a14 =>
 ob (ldN false 1 a14 B11) fun a15 =>
 ob (xbin PP .add 3 (shr x3) (iv 2)) fun a16 =>
 ob (xbin PP .lss 3 a15 a16) fun a17 =>
 asB (shr a17) fun t18 => br t18 (Zhy m0  (gcB m0 [] B11))
 (Zkg m0 a6 x6 x7 x8 (gcB m0 [a6, x6, x7, x8] B11))))) := by kernel_rfl
theorem Zov m0 B : Zki m0  B =
 mk (ZlL (bv true) B) := by kernel_rfl
theorem Zos m0 B : Zhy m0  B =
 mk (ZlL (bv false) B) := by kernel_rfl
theorem Zot m0 x5 x6 x7 x8 B : Zkg m0 x5 x6 x7 x8 B =
 mk (ob (xfld 1 x5) fun a19 =>
 ob (ldN false 1 a19 B) fun a20 =>
 Zkh m0 (shr a20) x6 x7 x8 (gcB m0 [(shr a20), x6, x7, x8] B)) := by kernel_rfl
theorem Zou m0 x3 x6 x7 x8 B : Zkh m0 x3 x6 x7 x8 B =
 mk (ob (xbin PP .add 3 x8 (iv 1)) fun a21 =>
 ZdP m0 x3 x6 x7 (shr a21) (gcB m0 [x3, x6, x7, (shr a21)] B)) := by kernel_rfl
theorem Zst x0 B : EE 69 [x0] B =
 (let m0 := B.length
 mk (mk (mk (ob (xlen PP 24 (shr x0)) fun a1 =>
 ZdP m0 (iv (-2)) (shr x0) a1 (iv 0) (gcB m0 [(iv (-2)), (shr x0), a1, (iv 0)] B))))) := (E_eq PP XX HH _ _ _).trans (by kernel_rfl)
def Z9h : Code := Z2P Tryd.f70
def ZqL (r0 : AV) (B : List Row) : Option Res :=
 ob (ob (some r0) fun v => ob (some []) fun vs => some (v :: vs)) fun vs => some ((nrmA (match vs with | [v] => v | vs => Z1W (vs.map shr))), B)
def Zhz (m0 : Nat) : Kont := kret PP HH 70 Tryd.f70.results
def Zsy (m0 : Nat) : Kont := kseq HH 70 m0 (l2 (l2 (l2 (l2 Z9h)))) (exec PP HH 70 m0 EE LL (l2 (l2 (l2 (l2 Z9h)))) (Zhz m0)) (Zhz m0)
def Zkj (m0 : Nat) : Kont := kblk 0 (Zsy m0)
def ZhA (m0 : Nat) : Kont := kloop HH 70 m0 (l1 (l1 (l2 (l1 (l2 (l2 (l2 Z9h))))))) (LL 70 m0 (l1 (l1 (l2 (l1 (l2 (l2 (l2 Z9h))))))) (Zkj m0)) (Zkj m0)
def Zsz (m0 : Nat) : Kont := kseq HH 70 m0 (l2 (l2 (l2 (l1 (l1 (l2 (l1 (l2 (l2 (l2 Z9h)))))))))) (exec PP HH 70 m0 EE LL (l2 (l2 (l2 (l1 (l1 (l2 (l1 (l2 (l2 (l2 Z9h)))))))))) (ZhA m0)) (ZhA m0)
def ZsA (m0 : Nat) : Kont := kblk 1 (Zsz m0)
def ZdQ (m0 : Nat) (x3 x4 x7 x8 x9 : AV) (B : List Row) : Option Res := lp (LL 70 m0 (l1 (l1 (l2 (l1 (l2 (l2 (l2 Z9h))))))) (Zkj m0) [(3, x3), (4, x4), (7, x7), (8, x8), (9, x9)] B)
def Zkk (m0 : Nat) (x3 x4 x7 x8 x9 : AV) (B : List Row) : Option Res := exec PP HH 70 m0 EE LL (l2 (l2 (l1 (l1 (l2 (l1 (l2 (l2 (l2 Z9h))))))))) (ZhA m0) [(3, x3), (4, x4), (7, x7), (8, x8), (9, x9)] B
def Ziy (m0 : Nat) (x3 x4 : AV) (B : List Row) : Option Res := exec PP HH 70 m0 EE LL (l2 (l2 (l2 (l2 Z9h)))) (Zhz m0) [(3, x3), (4, x4)] B
def ZhB (m0 : Nat) (x3 x6 x7 x8 x9 : AV) (B : List Row) : Option Res := exec PP HH 70 m0 EE LL (l2 (l2 (l1 (l1 (l2 (l2 (l1 (l1 (l2 (l1 (l2 (l2 (l2 Z9h))))))))))))) (ZsA m0) [(3, x3), (6, x6), (7, x7), (8, x8), (9, x9)] B
def Zg8 (m0 : Nat) (x3 : AV) (B : List Row) : Option Res := exec PP HH 70 m0 EE LL (l2 (l2 (l2 (l2 (l2 Z9h))))) (Zhz m0) [(3, x3)] B
def Zkl (m0 : Nat) (x3 x4 x7 x8 x9 : AV) (B : List Row) : Option Res := exec PP HH 70 m0 EE LL (l2 (l2 (l2 (l1 (l1 (l2 (l1 (l2 (l2 (l2 Z9h)))))))))) (ZhA m0) [(3, x3), (4, x4), (7, x7), (8, x8), (9, x9)] B
theorem Zow m0 x3 x4 x7 x8 x9 B : ZdQ m0 x3 x4 x7 x8 x9 B =
 mk (ob (xbin PP .lss 3 x9 x8) fun a2 =>
 asB a2 fun t3 => br t3 (Zkk m0 x3 x4 x7 x8 x9 (gcB m0 [x3, x4, x7, x8, x9] B))
 (Ziy m0 x3 x4 (gcB m0 [x3, x4] B))) := (L_eq PP XX HH _ _ _ _ _ _).trans (by kernel_rfl)
theorem Zox m0 x3 x4 x7 x8 x9 B : Zkk m0 x3 x4 x7 x8 x9 B =
 mk (ob (xidx 2 x7 x9) fun a4 =>
 ob (ldN true 2 a4 B) fun a5 =>
 bz PP 39 B fun a6 B7 =>
 stN 2 a6 a5 B7 fun B8 =>
 mk (ob (xfld 0 a6) fun a9 =>
 ob (ldN false 1 a9 B8) fun a10 =>
 ob (xbin PP .lss 3 (shr x4) a10) fun a11 =>
 asB a11 fun t12 => br t12 (mk (ob (xfld 0 a6) fun a13 =>
 ob (ldN false 1 a13 B8) fun a14 =>
 ob (xbin PP .sub 3 a14 (iv 1)) fun a15 =>
 ob (Z1o PP 39 [(0, (shr x4)), (1, a15)]) fun a16 =>
 ob (xlit PP 24 1 [(0, a16)]) fun a17 =>
 ob (xapp 2 x3 a17) fun a18 =>
 ZhB m0 a18 a6 x7 x8 x9 (gcB m0 [a18, a6, x7, x8, x9] B8)))
 (ZhB m0 x3 a6 x7 x8 x9 (gcB m0 [x3, a6, x7, x8, x9] B8)))) := by kernel_rfl
theorem ZmT m0 x3 x4 B : Ziy m0 x3 x4 B =
 mk (ob (xbin PP .leq 3 (shr x4) (iv 1114367)) fun a19 =>
 asB a19 fun t20 => br t20 (mk (ob (Z1o PP 39 [(0, (shr x4)), (1, (iv 1114367))]) fun a21 =>
 ob (xlit PP 24 1 [(0, a21)]) fun a22 =>
 ob (xapp 2 x3 a22) fun a23 =>
 Zg8 m0 a23 (gcB m0 [a23] B)))
 (Zg8 m0 x3 (gcB m0 [x3] B))) := by kernel_rfl
theorem Zoy m0 x3 x6 x7 x8 x9 B : ZhB m0 x3 x6 x7 x8 x9 B =
 mk (ob (xfld 1 x6) fun a24 =>
 ob (ldN false 1 a24 B) fun a25 =>
 ob (xbin PP .add 3 a25 (iv 1)) fun a26 =>
 Zkl m0 x3 (shr a26) x7 x8 x9 (gcB m0 [x3, (shr a26), x7, x8, x9] B)) := by kernel_rfl
theorem ZmU m0 x3 B : Zg8 m0 x3 B =
 mk (ZqL (shr (shr x3)) B) := by kernel_rfl
theorem Zoz m0 x3 x4 x7 x8 x9 B : Zkl m0 x3 x4 x7 x8 x9 B =
 mk (ob (xbin PP .add 3 x9 (iv 1)) fun a27 =>
 ZdQ m0 x3 x4 x7 x8 (shr a27) (gcB m0 [x3, x4, x7, x8, (shr a27)] B)) := by kernel_rfl
theorem Zsx x0 B : EE 70 [x0] B =
 (let m0 := B.length
 mk (mk (mk (mk (ob (xlen PP 24 (shr x0)) fun a1 =>
 ZdQ m0 nilA (iv 0) (shr x0) a1 (iv 0) (gcB m0 [nilA, (iv 0), (shr x0), a1, (iv 0)] B)))))) := (E_eq PP XX HH _ _ _).trans (by kernel_rfl)
def Zg9 : Code := Z2P Tryd.f71
def Ziz (r0 : AV) (B : List Row) : Option Res :=
 ob (ob (some r0) fun v => ob (some []) fun vs => some (v :: vs)) fun vs => some ((nrmA (match vs with | [v] => v | vs => Z1W (vs.map shr))), B)
def Zkm (m0 : Nat) : Kont := kret PP HH 71 Tryd.f71.results
def ZsC (m0 : Nat) : Kont := kseq HH 71 m0 (l2 (l2 Zg9)) (exec PP HH 71 m0 EE LL (l2 (l2 Zg9)) (Zkm m0)) (Zkm m0)
def Zkn (m0 : Nat) : Kont := kblk 0 (ZsC m0)
def Zko (m0 : Nat) (x0 : AV) (B : List Row) : Option Res := exec PP HH 71 m0 EE LL (l1 (l2 (l1 (l1 (l2 Zg9))))) (Zkn m0) [(0, x0)] B
def ZhC (m0 : Nat) (x0 : AV) (B : List Row) : Option Res := exec PP HH 71 m0 EE LL (l2 (l2 (l1 (l1 (l2 Zg9))))) (Zkn m0) [(0, x0)] B
def Zkp (m0 : Nat) (x0 : AV) (B : List Row) : Option Res := exec PP HH 71 m0 EE LL (l1 (l2 (l2 (l2 (l1 (l1 (l2 Zg9))))))) (Zkn m0) [(0, x0)] B
def ZhD (m0 : Nat) (B : List Row) : Option Res := exec PP HH 71 m0 EE LL (l2 (l2 Zg9)) (Zkm m0) [] B
theorem ZoA m0 x0 B : Zko m0 x0 B =
 mk (ob (xbin PP .sub 3 (shr x0) (iv 48)) fun a5 =>
 Ziz (shr a5) B) := by kernel_rfl
theorem ZoB m0 x0 B : ZhC m0 x0 B =
 mk (ob (xbin PP .geq 3 (shr x0) (iv 97)) fun a6 =>
 asB (shr a6) fun t7 => br t7 (ob (xbin PP .leq 3 (shr x0) (iv 102)) fun a8 =>
 asB (shr (shr a8)) fun t9 => br t9 (Zkp m0 x0 (gcB m0 [x0] B))
 (ZhD m0  (gcB m0 [] B)))
 (ZhD m0  (gcB m0 [] B))) := by kernel_rfl
theorem ZoC m0 x0 B : Zkp m0 x0 B =
 mk (ob (xbin PP .sub 3 (shr x0) (iv 97)) fun a10 =>
 ob (xbin PP .add 3 a10 (iv 10)) fun a11 =>
 Ziz (shr a11) B) := by kernel_rfl
theorem ZoD m0 B : ZhD m0  B =
 mk (Ziz (iv (-1)) B) := by kernel_rfl
theorem ZsB x0 B : EE 71 [x0] B =
 (let m0 := B.length
 mk (mk (ob (xbin PP .geq 3 (shr x0) (iv 48)) fun a1 =>
 asB (shr a1) fun t2 => br t2 (ob (xbin PP .leq 3 (shr x0) (iv 57)) fun a3 =>
 asB (shr (shr a3)) fun t4 => br t4 (Zko m0 x0 (gcB m0 [x0] B))
 (ZhC m0 x0 (gcB m0 [x0] B)))
 (ZhC m0 x0 (gcB m0 [x0] B))))) := (E_eq PP XX HH _ _ _).trans (by kernel_rfl)
def ZcY : Code := Z2P Tryd.f73
def ZlM (r0 : AV) (B : List Row) : Option Res :=
 ob (ob (some r0) fun v => ob (some []) fun vs => some (v :: vs)) fun vs => some ((nrmA (match vs with | [v] => v | vs => Z1W (vs.map shr))), B)
def Zkq (m0 : Nat) : Kont := kret PP HH 73 Tryd.f73.results
def ZsE (m0 : Nat) : Kont := kseq HH 73 m0 (l2 (l2 ZcY)) (exec PP HH 73 m0 EE LL (l2 (l2 ZcY)) (Zkq m0)) (Zkq m0)
def Zkr (m0 : Nat) : Kont := kblk 0 (ZsE m0)
def ZoE (m0 : Nat) : Kont := kloop HH 73 m0 (l1 (l1 (l2 (l1 (l2 ZcY))))) (LL 73 m0 (l1 (l1 (l2 (l1 (l2 ZcY))))) (Zkr m0)) (Zkr m0)
def ZdR (m0 : Nat) (x0 x1 x7 x8 : AV) (B : List Row) : Option Res := lp (LL 73 m0 (l1 (l1 (l2 (l1 (l2 ZcY))))) (Zkr m0) [(0, x0), (1, x1), (7, x7), (8, x8)] B)
def Zks (m0 : Nat) (x0 x1 x7 x8 : AV) (B : List Row) : Option Res := exec PP HH 73 m0 EE LL (l2 (l2 (l1 (l1 (l2 (l1 (l2 ZcY))))))) (ZoE m0) [(0, x0), (1, x1), (7, x7), (8, x8)] B
def Zku (m0 : Nat) (B : List Row) : Option Res := exec PP HH 73 m0 EE LL (l2 (l2 ZcY)) (Zkq m0) [] B
def Zkt (m0 : Nat) (x0 x1 x7 x8 : AV) (B : List Row) : Option Res := exec PP HH 73 m0 EE LL (l2 (l2 (l2 (l1 (l1 (l2 (l1 (l2 ZcY)))))))) (ZoE m0) [(0, x0), (1, x1), (7, x7), (8, x8)] B
theorem ZoF m0 x0 x1 x7 x8 B : ZdR m0 x0 x1 x7 x8 B =
 mk (ob (xbin PP .lss 3 x8 x7) fun a2 =>
 asB a2 fun t3 => br t3 (Zks m0 x0 x1 x7 x8 (gcB m0 [x0, x1, x7, x8] B))
 (Zku m0  (gcB m0 [] B))) := (L_eq PP XX HH _ _ _ _ _ _).trans (by kernel_rfl)
theorem ZoG m0 x0 x1 x7 x8 B : Zks m0 x0 x1 x7 x8 B =
 mk (mk (ob (xidx 2 (shr x0) (shr (shr (shr x8)))) fun a4 =>
 ob (ldN true 2 a4 B) fun a5 =>
 callV HH EE (shr x1) [a5] B fun a6 B7 =>
 asB a6 fun t8 => br t8 (mk (ZlM (shr (shr (shr (shr x8)))) B7))
 (Zkt m0 x0 x1 x7 x8 (gcB m0 [x0, x1, x7, x8] B7)))) := by kernel_rfl
theorem ZoI m0 B : Zku m0  B =
 mk (ZlM (iv (-1)) B) := by kernel_rfl
theorem ZoH m0 x0 x1 x7 x8 B : Zkt m0 x0 x1 x7 x8 B =
 mk (ob (xbin PP .add 3 x8 (iv 1)) fun a9 =>
 ZdR m0 x0 x1 x7 (shr a9) (gcB m0 [x0, x1, x7, (shr a9)] B)) := by kernel_rfl
theorem ZsD x0 x1 B : EE 73 [x0, x1] B =
 (let m0 := B.length
 mk (mk (ob (xlen PP 23 (shr x0)) fun a1 =>
 ZdR m0 x0 x1 a1 (iv 0) (gcB m0 [x0, x1, a1, (iv 0)] B)))) := (E_eq PP XX HH _ _ _).trans (by kernel_rfl)
end Go.Proofs.YtadodmjdkphddaaDoor.N2
end
