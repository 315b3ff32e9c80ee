/- The functions' equations, by the evaluator. -/
import Derived.Test.YtbecmoihajlobaaDoorEvA
import Derived.Test.YtbecmoihajlobaaDoorProg
import Derived.KernelRfl
import Derived.Test.YtbecmoihajlobaaDoorExt

section
set_option linter.unusedSimpArgs false
set_option linter.unusedVariables false
namespace Go.Proofs.YtbecmoihajlobaaDoor.N2
open Go Go.Abs
def keepT : FuncId → Nat → Option (List Nat) := fun f r =>
  if f = 3 then (if r = 8 then some [] else if r = 11 then some [] else if r = 7 then some [0, 5, 6] else if r = 9 then some [0, 1, 5, 6] else if r = 12 then some [0] else if r = 5 then some [0, 1] else if r = 3 then some [0, 1] else none) else
  if f = 4 then (if r = 4 then some [] else if r = 5 then some [0, 1, 2] else if r = 3 then some [0, 1, 2] else none) else
  if f = 5 then (if r = 4 then some [] else if r = 5 then some [0, 1, 2] else if r = 3 then some [0, 1, 2] else none) else
  if f = 6 then (if r = 6 then some [0, 3, 4] else if r = 9 then some [] else if r = 10 then some [0, 3, 4, 6] else if r = 7 then some [0, 3, 4] else if r = 11 then some [0, 3, 4] else if r = 5 then some [0] else if r = 3 then some [0] else none) else
  if f = 7 then (if r = 7 then some [0, 3, 15, 16, 17] else if r = 11 then some [0, 3, 15, 16, 17] else if r = 8 then some [0, 3, 15, 16, 17] else if r = 12 then some [0, 3] else if r = 5 then some [0] else if r = 3 then some [0] else none) else
  if f = 8 then (if r = 8 then some [0, 3, 4, 16, 17, 18] else if r = 11 then some [] else if r = 15 then some [0, 3, 4, 6, 16, 17, 18] else if r = 12 then some [0, 3, 4, 6, 16, 17, 18] else if r = 19 then some [0, 3, 4, 16, 17, 18] else if r = 9 then some [0, 3, 4, 16, 17, 18] else if r = 20 then some [0, 3, 4] else if r = 5 then some [0] else if r = 3 then some [0] else none) else
  if f = 10 then (if r = 2 then some [] else if r = 5 then some [0, 1] else if r = 6 then some [6, 7] else if r = 3 then some [0, 1] else none) else
  if f = 11 then (if r = 4 then some [0, 1, 6, 7, 8] else if r = 6 then some [0, 1, 6, 7, 8] else if r = 8 then some [6, 7] else if r = 7 then some [0, 1, 6, 7] else if r = 3 then some [0, 1, 6, 7] else if r = 9 then some [0, 1] else none) else
  if f = 12 then (if r = 4 then some [1, 12, 13, 14] else if r = 8 then some [1, 12, 13, 14] else if r = 5 then some [1, 12, 13, 14] else if r = 9 then some [] else if r = 3 then some [0, 1] else none) else
  if f = 14 then (if r = 3 then some [0, 3, 4] else if r = 4 then some [0, 3, 4] else if r = 7 then some [3] else none) else
  if f = 16 then (if r = 7 then some [0] else if r = 5 then some [0] else if r = 3 then some [0] else none) else
  if f = 19 then (if r = 3 then some [4, 7, 8, 9] else if r = 10 then some [4, 7, 8, 9] else if r = 4 then some [4, 7, 8, 9] else if r = 11 then some [4] else none) else
  if f = 22 then (if r = 8 then some [0] else if r = 6 then some [0] else if r = 7 then some [0] else if r = 4 then some [0] else if r = 5 then some [0] else if r = 9 then some [] else none) else
  if f = 24 then (if r = 4 then some [] else if r = 2 then some [] else if r = 3 then some [0] else if r = 5 then some [] else none) else
  if f = 25 then (if r = 3 then some [0, 1] else none) else
  if f = 28 then (if r = 9 then some [0, 1] else if r = 2 then some [0] else none) else
  none
def ownT : FuncId → List Nat := fun f =>
  if f = 3 then [48] else
  if f = 4 then [8, 9, 10, 39, 45, 50, 52, 53] else
  if f = 5 then [7, 31, 37, 40] else
  if f = 6 then [64] else
  if f = 7 then [13] else
  if f = 8 then [3, 9, 55, 61, 66, 69, 84] else
  if f = 9 then [1, 7] else
  if f = 14 then [3, 17] else
  if f = 19 then [4, 16, 25] else
  if f = 25 then [4, 8, 13] else
  if f = 28 then [4, 8, 14, 34, 57] else
  []
def rawT : FuncId → Bool := fun f => if f = 13 then true else if f = 25 then true else if f = 28 then true else false
def HH : Hints := ⟨keepT, ownT, rawT⟩
def XX : FuncId → Option (List AV → List Row → Option Res) := fun f => if f = 13 then some xSplit else if f = 21 then some xDecode else none
noncomputable abbrev PP : Program := Tryd.prog
noncomputable abbrev EE : GF := E PP XX HH
noncomputable abbrev LL : LF := L PP XX HH
end Go.Proofs.YtbecmoihajlobaaDoor.N2
end

section
set_option linter.unusedSimpArgs false
set_option linter.unusedVariables false
namespace Go.Proofs.YtbecmoihajlobaaDoor.N2
open Go Go.Abs
set_option linter.unusedVariables false
set_option maxRecDepth 100000
/-! "colander/colanderlaw01.UnitSplits" -/
noncomputable def f3_c : Code := bodyOf Tryd.f3
def f3_ret (r0 : AV) (B : List Row) : Option Res :=
 ob (ob (some r0) fun v => ob (some []) fun vs => some (v :: vs)) fun vs => some ((nrmA (match vs with | [v] => v | vs => mkTup (vs.map shr))), B)
noncomputable def f3_k0 (m0 : Nat) : Kont := kret PP HH 3 Tryd.f3.results
noncomputable def f3_k1 (m0 : Nat) : Kont := kseq HH 3 m0 (l2 (l2 (l2 (l2 (l2 f3_c))))) (exec PP HH 3 m0 EE LL (l2 (l2 (l2 (l2 (l2 f3_c))))) (f3_k0 m0)) (f3_k0 m0)
noncomputable def f3_r3 (m0 : Nat) (x0 x1 : AV) (B : List Row) : Option Res := exec PP HH 3 m0 EE LL (l2 (l2 f3_c)) (f3_k0 m0) [(0, x0), (1, x1)] B
noncomputable def f3_r5 (m0 : Nat) (x0 x1 : AV) (B : List Row) : Option Res := exec PP HH 3 m0 EE LL (l2 (l2 (l2 f3_c))) (f3_k0 m0) [(0, x0), (1, x1)] B
noncomputable def f3_r7 (m0 : Nat) (x0 x5 x6 : AV) (B : List Row) : Option Res := exec PP HH 3 m0 EE LL (l1 (l2 (l1 (l2 (l2 (l2 (l2 f3_c))))))) (f3_k1 m0) [(0, x0), (5, x5), (6, x6)] B
noncomputable def f3_r9 (m0 : Nat) (x0 x1 x5 x6 : AV) (B : List Row) : Option Res := exec PP HH 3 m0 EE LL (l2 (l2 (l1 (l2 (l2 (l2 (l2 f3_c))))))) (f3_k1 m0) [(0, x0), (1, x1), (5, x5), (6, x6)] B
noncomputable def f3_r8 (m0 : Nat) (B : List Row) : Option Res := exec PP HH 3 m0 EE LL (l1 (l2 (l1 (l2 (l1 (l2 (l2 (l2 (l2 f3_c))))))))) (f3_k1 m0) [] B
noncomputable def f3_r12 (m0 : Nat) (x0 : AV) (B : List Row) : Option Res := exec PP HH 3 m0 EE LL (l2 (l2 (l2 (l2 (l2 f3_c))))) (f3_k0 m0) [(0, x0)] B
noncomputable def f3_r11 (m0 : Nat) (B : List Row) : Option Res := exec PP HH 3 m0 EE LL (l1 (l2 (l2 (l2 (l2 (l1 (l2 (l2 (l2 (l2 f3_c)))))))))) (f3_k1 m0) [] B
theorem f3_r3_eq (m0 : Nat) (x0 x1 : AV) (B : List Row) : f3_r3 m0 x0 x1 B =
 mk (ob (xlen PP 22 (shr x0)) fun a5 =>
 ob (xbin PP .gtr 3 a5 (iv 1000)) fun a6 =>
 asB a6 fun t7 => br t7 (mk (f3_ret (bv true) B))
 (f3_r5 m0 x0 x1 (gcB m0 [x0, x1] B))) := by kernel_rfl
theorem f3_r5_eq (m0 : Nat) (x0 x1 : AV) (B : List Row) : f3_r5 m0 x0 x1 B =
 mk (callS false EE 10 [(shr x0), (shr x1)] B fun a8 B9 =>
 ob (xext 0 (shr a8)) fun a10 =>
 ob (xext 1 (shr a8)) fun a11 =>
 mk (ob (xbin PP .lss 3 (shr x1) (iv 0)) fun a12 =>
 asB (shr a12) fun t13 => br t13 (f3_r7 m0 x0 (shr (shr a10)) (shr (shr a11)) (gcB m0 [x0, (shr (shr a10)), (shr (shr a11))] B9))
 (ob (xlen PP 22 (shr x0)) fun a14 =>
 ob (xbin PP .geq 3 (shr x1) a14) fun a15 =>
 asB (shr a15) fun t16 => br t16 (f3_r7 m0 x0 (shr (shr a10)) (shr (shr a11)) (gcB m0 [x0, (shr (shr a10)), (shr (shr a11))] B9))
 (f3_r9 m0 x0 x1 (shr (shr a10)) (shr (shr a11)) (gcB m0 [x0, x1, (shr (shr a10)), (shr (shr a11))] B9))))) := by kernel_rfl
theorem f3_r7_eq (m0 : Nat) (x0 x5 x6 : AV) (B : List Row) : f3_r7 m0 x0 x5 x6 B =
 mk (ob (xbin PP .neq 3 (shr x5) (iv 0)) fun a17 =>
 asB (shr a17) fun t18 => br t18 (f3_r8 m0  (gcB m0 [] B))
 (ob (xbin PP .neq 3 (shr x6) (iv 0)) fun a19 =>
 asB (shr a19) fun t20 => br t20 (f3_r8 m0  (gcB m0 [] B))
 (f3_r12 m0 x0 (gcB m0 [x0] B)))) := by kernel_rfl
theorem f3_r9_eq (m0 : Nat) (x0 x1 x5 x6 : AV) (B : List Row) : f3_r9 m0 x0 x1 x5 x6 B =
 mk (callS false EE 11 [(shr x0), (shr x1)] B fun a21 B22 =>
 ob (xext 0 (shr a21)) fun a23 =>
 ob (xext 1 (shr a21)) fun a24 =>
 mk (ob (xbin PP .neq 3 (shr x5) (shr (shr (shr a23)))) fun a25 =>
 asB (shr a25) fun t26 => br t26 (f3_r11 m0  (gcB m0 [] B22))
 (ob (xbin PP .neq 3 (shr x6) (shr (shr (shr a24)))) fun a27 =>
 asB (shr a27) fun t28 => br t28 (f3_r11 m0  (gcB m0 [] B22))
 (f3_r12 m0 x0 (gcB m0 [x0] B22))))) := by kernel_rfl
theorem f3_r8_eq (m0 : Nat) (B : List Row) : f3_r8 m0  B =
 mk (f3_ret (bv false) B) := by kernel_rfl
theorem f3_r12_eq (m0 : Nat) (x0 : AV) (B : List Row) : f3_r12 m0 x0 B =
 mk (callS true EE 13 [x0] B fun a29 B30 =>
 callS false EE 14 [(shr (shr x0))] B30 fun a31 B32 =>
 callS false EE 12 [a29, a31] B32 fun a33 B34 =>
 f3_ret (shr a33) B34) := by kernel_rfl
theorem f3_r11_eq (m0 : Nat) (B : List Row) : f3_r11 m0  B =
 mk (f3_ret (bv false) B) := by kernel_rfl
theorem f3_eq (x0 x1 : AV) (B : List Row) : EE 3 [x0, x1] B =
 (let m0 := B.length
 mk (mk (callS false EE 9 [] B fun a1 B2 =>
 ob (xun PP .not a1) fun a3 =>
 asB a3 fun t4 => br t4 (mk (f3_ret (bv false) B2))
 (f3_r3 m0 x0 x1 (gcB m0 [x0, x1] B2))))) := (E_eq PP XX HH _ _ _).trans (by kernel_rfl)
/-! "colander/colanderlaw01.UnitParts" -/
noncomputable def f4_c : Code := bodyOf Tryd.f4
def f4_ret (r0 : AV) (B : List Row) : Option Res :=
 ob (ob (some r0) fun v => ob (some []) fun vs => some (v :: vs)) fun vs => some ((nrmA (match vs with | [v] => v | vs => mkTup (vs.map shr))), B)
noncomputable def f4_k0 (m0 : Nat) : Kont := kret PP HH 4 Tryd.f4.results
noncomputable def f4_k1 (m0 : Nat) : Kont := kseq HH 4 m0 (l2 (l2 (l2 f4_c))) (exec PP HH 4 m0 EE LL (l2 (l2 (l2 f4_c))) (f4_k0 m0)) (f4_k0 m0)
noncomputable def f4_r3 (m0 : Nat) (x0 x1 x2 : AV) (B : List Row) : Option Res := exec PP HH 4 m0 EE LL (l2 (l2 f4_c)) (f4_k0 m0) [(0, x0), (1, x1), (2, x2)] B
noncomputable def f4_r4 (m0 : Nat) (B : List Row) : Option Res := exec PP HH 4 m0 EE LL (l1 (l2 (l1 (l2 (l2 f4_c))))) (f4_k1 m0) [] B
noncomputable def f4_r5 (m0 : Nat) (x0 x1 x2 : AV) (B : List Row) : Option Res := exec PP HH 4 m0 EE LL (l2 (l2 (l2 f4_c))) (f4_k0 m0) [(0, x0), (1, x1), (2, x2)] B
theorem f4_r3_eq (m0 : Nat) (x0 x1 x2 : AV) (B : List Row) : f4_r3 m0 x0 x1 x2 B =
 mk (ob (xlen PP 22 (shr x0)) fun a5 =>
 ob (xbin PP .gtr 3 a5 (iv 300)) fun a6 =>
 asB (shr a6) fun t7 => br t7 (f4_r4 m0  (gcB m0 [] B))
 (ob (xlen PP 22 (shr x2)) fun a8 =>
 ob (xbin PP .gtr 3 a8 (iv 300)) fun a9 =>
 asB (shr (shr a9)) fun t10 => br t10 (f4_r4 m0  (gcB m0 [] B))
 (callS false EE 15 [(shr x1)] B fun a11 B12 =>
 ob (xun PP .not a11) fun a13 =>
 asB (shr a13) fun t14 => br t14 (f4_r4 m0  (gcB m0 [] B12))
 (f4_r5 m0 x0 x1 x2 (gcB m0 [x0, x1, x2] B12))))) := by kernel_rfl
theorem f4_r4_eq (m0 : Nat) (B : List Row) : f4_r4 m0  B =
 mk (f4_ret (bv true) B) := by kernel_rfl
theorem f4_r5_eq (m0 : Nat) (x0 x1 x2 : AV) (B : List Row) : f4_r5 m0 x0 x1 x2 B =
 mk (callS false EE 16 [(shr x1)] B fun a15 B16 =>
 mk (ob (xlit PP 22 0 []) fun a17 =>
 ob (xapp 1 a17 (shr x0)) fun a18 =>
 ob (xapp 1 a18 (shr (shr a15))) fun a19 =>
 mk (ob (xlit PP 22 0 []) fun a20 =>
 ob (xapp 1 a20 (shr a19)) fun a21 =>
 ob (xapp 1 a21 (shr x2)) fun a22 =>
 mk (ob (xlit PP 27 0 []) fun a23 =>
 callS true EE 13 [x0] B16 fun a24 B25 =>
 ob (xapp 1 a23 a24) fun a26 =>
 ob (xlit PP 27 1 [(0, (shr x1))]) fun a27 =>
 ob (xapp 1 a26 a27) fun a28 =>
 mk (callS true EE 13 [a19] B25 fun a29 B30 =>
 callS false EE 12 [a29, (shr a28)] B30 fun a31 B32 =>
 asB (shr a31) fun t33 => br t33 (callS true EE 13 [a22] B32 fun a34 B35 =>
 callS true EE 13 [x2] B35 fun a36 B37 =>
 ob (xapp 1 a28 a36) fun a38 =>
 callS false EE 12 [a34, a38] B37 fun a39 B40 =>
 f4_ret (shr (shr a39)) B40)
 (f4_ret (bv false) B32)))))) := by kernel_rfl
theorem f4_eq (x0 x1 x2 : AV) (B : List Row) : EE 4 [x0, x1, x2] B =
 (let m0 := B.length
 mk (mk (callS false EE 9 [] B fun a1 B2 =>
 ob (xun PP .not a1) fun a3 =>
 asB a3 fun t4 => br t4 (mk (f4_ret (bv false) B2))
 (f4_r3 m0 x0 x1 x2 (gcB m0 [x0, x1, x2] B2))))) := (E_eq PP XX HH _ _ _).trans (by kernel_rfl)
/-! "colander/colanderlaw01.UnitTurned" -/
noncomputable def f5_c : Code := bodyOf Tryd.f5
def f5_ret (r0 : AV) (B : List Row) : Option Res :=
 ob (ob (some r0) fun v => ob (some []) fun vs => some (v :: vs)) fun vs => some ((nrmA (match vs with | [v] => v | vs => mkTup (vs.map shr))), B)
noncomputable def f5_k0 (m0 : Nat) : Kont := kret PP HH 5 Tryd.f5.results
noncomputable def f5_k1 (m0 : Nat) : Kont := kseq HH 5 m0 (l2 (l2 (l2 f5_c))) (exec PP HH 5 m0 EE LL (l2 (l2 (l2 f5_c))) (f5_k0 m0)) (f5_k0 m0)
noncomputable def f5_r3 (m0 : Nat) (x0 x1 x2 : AV) (B : List Row) : Option Res := exec PP HH 5 m0 EE LL (l2 (l2 f5_c)) (f5_k0 m0) [(0, x0), (1, x1), (2, x2)] B
noncomputable def f5_r4 (m0 : Nat) (B : List Row) : Option Res := exec PP HH 5 m0 EE LL (l1 (l2 (l1 (l2 (l2 f5_c))))) (f5_k1 m0) [] B
noncomputable def f5_r5 (m0 : Nat) (x0 x1 x2 : AV) (B : List Row) : Option Res := exec PP HH 5 m0 EE LL (l2 (l2 (l2 f5_c))) (f5_k0 m0) [(0, x0), (1, x1), (2, x2)] B
theorem f5_r3_eq (m0 : Nat) (x0 x1 x2 : AV) (B : List Row) : f5_r3 m0 x0 x1 x2 B =
 mk (ob (xlen PP 22 (shr x0)) fun a5 =>
 ob (xbin PP .gtr 3 a5 (iv 300)) fun a6 =>
 asB (shr a6) fun t7 => br t7 (f5_r4 m0  (gcB m0 [] B))
 (ob (xlen PP 22 (shr x2)) fun a8 =>
 ob (xbin PP .gtr 3 a8 (iv 300)) fun a9 =>
 asB (shr (shr a9)) fun t10 => br t10 (f5_r4 m0  (gcB m0 [] B))
 (ob (xbin PP .geq 5 (shr x1) (kv .u8 128)) fun a11 =>
 asB (shr a11) fun t12 => br t12 (f5_r4 m0  (gcB m0 [] B))
 (f5_r5 m0 x0 x1 x2 (gcB m0 [x0, x1, x2] B))))) := by kernel_rfl
theorem f5_r4_eq (m0 : Nat) (B : List Row) : f5_r4 m0  B =
 mk (f5_ret (bv true) B) := by kernel_rfl
theorem f5_r5_eq (m0 : Nat) (x0 x1 x2 : AV) (B : List Row) : f5_r5 m0 x0 x1 x2 B =
 mk (ob (xlit PP 22 0 []) fun a13 =>
 ob (xapp 1 a13 (shr x0)) fun a14 =>
 ob (xlit PP 22 1 [(0, (shr x1))]) fun a15 =>
 ob (xapp 1 a14 a15) fun a16 =>
 ob (xapp 1 a16 (shr x2)) fun a17 =>
 mk (callS true EE 13 [x0] B fun a18 B19 =>
 ob (xcnv PP 5 3 (shr x1)) fun a20 =>
 ob (xlit PP 27 1 [(0, a20)]) fun a21 =>
 ob (xapp 1 a18 a21) fun a22 =>
 callS true EE 13 [x2] B19 fun a23 B24 =>
 ob (xapp 1 a22 a23) fun a25 =>
 mk (callS true EE 13 [a17] B24 fun a26 B27 =>
 callS false EE 12 [a26, (shr (shr a25))] B27 fun a28 B29 =>
 f5_ret (shr a28) B29))) := by kernel_rfl
theorem f5_eq (x0 x1 x2 : AV) (B : List Row) : EE 5 [x0, x1, x2] B =
 (let m0 := B.length
 mk (mk (callS false EE 9 [] B fun a1 B2 =>
 ob (xun PP .not a1) fun a3 =>
 asB a3 fun t4 => br t4 (mk (f5_ret (bv false) B2))
 (f5_r3 m0 x0 x1 x2 (gcB m0 [x0, x1, x2] B2))))) := (E_eq PP XX HH _ _ _).trans (by kernel_rfl)
/-! "colander/colanderlaw01.UnitCounts" -/
noncomputable def f6_c : Code := bodyOf Tryd.f6
def f6_ret (r0 : AV) (B : List Row) : Option Res :=
 ob (ob (some r0) fun v => ob (some []) fun vs => some (v :: vs)) fun vs => some ((nrmA (match vs with | [v] => v | vs => mkTup (vs.map shr))), B)
noncomputable def f6_k0 (m0 : Nat) : Kont := kret PP HH 6 Tryd.f6.results
noncomputable def f6_k1 (m0 : Nat) : Kont := kseq HH 6 m0 (l2 (l2 (l2 (l2 (l2 f6_c))))) (exec PP HH 6 m0 EE LL (l2 (l2 (l2 (l2 (l2 f6_c))))) (f6_k0 m0)) (f6_k0 m0)
noncomputable def f6_k2 (m0 : Nat) : Kont := kblk 0 (f6_k1 m0)
noncomputable def f6_k3 (m0 : Nat) : Kont := kloop HH 6 m0 (l1 (l1 (l1 (l2 (l2 (l2 (l2 f6_c))))))) (LL 6 m0 (l1 (l1 (l1 (l2 (l2 (l2 (l2 f6_c))))))) (f6_k2 m0)) (f6_k2 m0)
noncomputable def f6_k4 (m0 : Nat) : Kont := kblk 1 (f6_k3 m0)
noncomputable def f6_k5 (m0 : Nat) : Kont := kseq HH 6 m0 (l2 (l2 (l1 (l2 (l1 (l1 (l1 (l2 (l2 (l2 (l2 f6_c))))))))))) (exec PP HH 6 m0 EE LL (l2 (l2 (l1 (l2 (l1 (l1 (l1 (l2 (l2 (l2 (l2 f6_c))))))))))) (f6_k4 m0)) (f6_k4 m0)
noncomputable def f6_r3 (m0 : Nat) (x0 : AV) (B : List Row) : Option Res := exec PP HH 6 m0 EE LL (l2 (l2 f6_c)) (f6_k0 m0) [(0, x0)] B
noncomputable def f6_r5 (m0 : Nat) (x0 : AV) (B : List Row) : Option Res := exec PP HH 6 m0 EE LL (l2 (l2 (l2 f6_c))) (f6_k0 m0) [(0, x0)] B
noncomputable def f6_l6 (m0 : Nat) (x0 x3 x4 : AV) (B : List Row) : Option Res := lp (LL 6 m0 (l1 (l1 (l1 (l2 (l2 (l2 (l2 f6_c))))))) (f6_k2 m0) [(0, x0), (3, x3), (4, x4)] B)
noncomputable def f6_r7 (m0 : Nat) (x0 x3 x4 : AV) (B : List Row) : Option Res := exec PP HH 6 m0 EE LL (l2 (l1 (l1 (l1 (l2 (l2 (l2 (l2 f6_c)))))))) (f6_k3 m0) [(0, x0), (3, x3), (4, x4)] B
noncomputable def f6_r11 (m0 : Nat) (x0 x3 x4 : AV) (B : List Row) : Option Res := exec PP HH 6 m0 EE LL (l2 (l2 (l2 (l2 (l2 f6_c))))) (f6_k0 m0) [(0, x0), (3, x3), (4, x4)] B
noncomputable def f6_r9 (m0 : Nat) (B : List Row) : Option Res := exec PP HH 6 m0 EE LL (l1 (l2 (l1 (l2 (l1 (l2 (l1 (l1 (l1 (l2 (l2 (l2 (l2 f6_c))))))))))))) (f6_k5 m0) [] B
noncomputable def f6_r10 (m0 : Nat) (x0 x3 x4 x6 : AV) (B : List Row) : Option Res := exec PP HH 6 m0 EE LL (l2 (l2 (l1 (l2 (l1 (l1 (l1 (l2 (l2 (l2 (l2 f6_c))))))))))) (f6_k4 m0) [(0, x0), (3, x3), (4, x4), (6, x6)] B
theorem f6_r3_eq (m0 : Nat) (x0 : AV) (B : List Row) : f6_r3 m0 x0 B =
 mk (ob (xlen PP 22 (shr x0)) fun a5 =>
 ob (xbin PP .gtr 3 a5 (iv 1000)) fun a6 =>
 asB a6 fun t7 => br t7 (mk (f6_ret (bv true) B))
 (f6_r5 m0 x0 (gcB m0 [x0] B))) := by kernel_rfl
theorem f6_r5_eq (m0 : Nat) (x0 : AV) (B : List Row) : f6_r5 m0 x0 B =
 mk (f6_l6 m0 x0 (iv 0) (iv 0) (gcB m0 [x0, (iv 0), (iv 0)] B)) := by kernel_rfl
theorem f6_l6_eq (m0 : Nat) (x0 x3 x4 : AV) (B : List Row) : f6_l6 m0 x0 x3 x4 B =
 mk (ob (xlen PP 22 (shr x0)) fun a8 =>
 ob (xbin PP .lss 3 (shr x3) a8) fun a9 =>
 asB a9 fun t10 => br t10 (f6_r7 m0 x0 x3 x4 (gcB m0 [x0, x3, x4] B))
 (f6_r11 m0 x0 x3 x4 (gcB m0 [x0, x3, x4] B))) := (L_eq PP XX HH _ _ _ _ _ _).trans (by kernel_rfl)
theorem f6_r7_eq (m0 : Nat) (x0 x3 x4 : AV) (B : List Row) : f6_r7 m0 x0 x3 x4 B =
 mk (callS false EE 10 [(shr x0), (shr x3)] B fun a11 B12 =>
 ob (xext 0 (shr a11)) fun a13 =>
 ob (xext 1 (shr a11)) fun a14 =>
 mk (ob (xbin PP .lss 3 (shr (shr (shr a14))) (iv 1)) fun a15 =>
 asB (shr a15) fun t16 => br t16 (f6_r9 m0  (gcB m0 [] B12))
 (ob (xbin PP .gtr 3 (shr (shr (shr a14))) (iv 4)) fun a17 =>
 asB (shr (shr a17)) fun t18 => br t18 (f6_r9 m0  (gcB m0 [] B12))
 (callS false EE 17 [(shr (shr (shr a13)))] B12 fun a19 B20 =>
 ob (xun PP .not a19) fun a21 =>
 asB (shr (shr a21)) fun t22 => br t22 (f6_r9 m0  (gcB m0 [] B20))
 (callS false EE 18 [(shr (shr (shr a13)))] B20 fun a23 B24 =>
 asB (shr a23) fun t25 => br t25 (ob (xbin PP .neq 3 (shr (shr (shr a14))) (iv 1)) fun a26 =>
 asB (shr (shr (shr a26))) fun t27 => br t27 (f6_r9 m0  (gcB m0 [] B24))
 (callS false EE 18 [(shr (shr (shr a13)))] B24 fun a28 B29 =>
 ob (xun PP .not a28) fun a30 =>
 asB (shr a30) fun t31 => br t31 (ob (xbin PP .eql 3 (shr (shr (shr a14))) (iv 1)) fun a32 =>
 ob (xbin PP .lss 3 (shr (shr (shr a13))) (iv 128)) fun a33 =>
 ob (xbin PP .neq 4 a32 a33) fun a34 =>
 asB (shr (shr a34)) fun t35 => br t35 (f6_r9 m0  (gcB m0 [] B29))
 (f6_r10 m0 x0 x3 x4 (shr (shr a14)) (gcB m0 [x0, x3, x4, (shr (shr a14))] B29)))
 (f6_r10 m0 x0 x3 x4 (shr (shr a14)) (gcB m0 [x0, x3, x4, (shr (shr a14))] B29))))
 (callS false EE 18 [(shr (shr (shr a13)))] B24 fun a36 B37 =>
 ob (xun PP .not a36) fun a38 =>
 asB (shr a38) fun t39 => br t39 (ob (xbin PP .eql 3 (shr (shr (shr a14))) (iv 1)) fun a40 =>
 ob (xbin PP .lss 3 (shr (shr (shr a13))) (iv 128)) fun a41 =>
 ob (xbin PP .neq 4 a40 a41) fun a42 =>
 asB (shr (shr a42)) fun t43 => br t43 (f6_r9 m0  (gcB m0 [] B37))
 (f6_r10 m0 x0 x3 x4 (shr (shr a14)) (gcB m0 [x0, x3, x4, (shr (shr a14))] B37)))
 (f6_r10 m0 x0 x3 x4 (shr (shr a14)) (gcB m0 [x0, x3, x4, (shr (shr a14))] B37)))))))) := by kernel_rfl
theorem f6_r11_eq (m0 : Nat) (x0 x3 x4 : AV) (B : List Row) : f6_r11 m0 x0 x3 x4 B =
 mk (ob (xlen PP 22 (shr x0)) fun a44 =>
 ob (xbin PP .eql 3 (shr x3) a44) fun a45 =>
 asB (shr a45) fun t46 => br t46 (callS true EE 13 [x0] B fun a47 B48 =>
 ob (xlen PP 27 a47) fun a49 =>
 ob (xbin PP .eql 3 (shr x4) a49) fun a50 =>
 f6_ret (shr (shr a50)) B48)
 (f6_ret (bv false) B)) := by kernel_rfl
theorem f6_r9_eq (m0 : Nat) (B : List Row) : f6_r9 m0  B =
 mk (f6_ret (bv false) B) := by kernel_rfl
theorem f6_r10_eq (m0 : Nat) (x0 x3 x4 x6 : AV) (B : List Row) : f6_r10 m0 x0 x3 x4 x6 B =
 mk (ob (xbin PP .add 3 (shr x3) (shr x6)) fun a51 =>
 ob (xbin PP .add 3 (shr x4) (iv 1)) fun a52 =>
 f6_l6 m0 x0 (shr a51) (shr a52) (gcB m0 [x0, (shr a51), (shr a52)] B)) := by kernel_rfl
theorem f6_eq (x0 : AV) (B : List Row) : EE 6 [x0] B =
 (let m0 := B.length
 mk (mk (callS false EE 9 [] B fun a1 B2 =>
 ob (xun PP .not a1) fun a3 =>
 asB a3 fun t4 => br t4 (mk (f6_ret (bv false) B2))
 (f6_r3 m0 x0 (gcB m0 [x0] B2))))) := (E_eq PP XX HH _ _ _).trans (by kernel_rfl)
/-! "colander/colanderlaw01.UnitBack" -/
noncomputable def f7_c : Code := bodyOf Tryd.f7
def f7_ret (r0 : AV) (B : List Row) : Option Res :=
 ob (ob (some r0) fun v => ob (some []) fun vs => some (v :: vs)) fun vs => some ((nrmA (match vs with | [v] => v | vs => mkTup (vs.map shr))), B)
noncomputable def f7_k0 (m0 : Nat) : Kont := kret PP HH 7 Tryd.f7.results
noncomputable def f7_k1 (m0 : Nat) : Kont := kseq HH 7 m0 (l2 (l2 (l2 (l2 (l2 f7_c))))) (exec PP HH 7 m0 EE LL (l2 (l2 (l2 (l2 (l2 f7_c))))) (f7_k0 m0)) (f7_k0 m0)
noncomputable def f7_k2 (m0 : Nat) : Kont := kblk 0 (f7_k1 m0)
noncomputable def f7_k3 (m0 : Nat) : Kont := kloop HH 7 m0 (l1 (l1 (l2 (l1 (l2 (l2 (l2 (l2 f7_c)))))))) (LL 7 m0 (l1 (l1 (l2 (l1 (l2 (l2 (l2 (l2 f7_c)))))))) (f7_k2 m0)) (f7_k2 m0)
noncomputable def f7_r3 (m0 : Nat) (x0 : AV) (B : List Row) : Option Res := exec PP HH 7 m0 EE LL (l2 (l2 f7_c)) (f7_k0 m0) [(0, x0)] B
noncomputable def f7_r5 (m0 : Nat) (x0 : AV) (B : List Row) : Option Res := exec PP HH 7 m0 EE LL (l2 (l2 (l2 f7_c))) (f7_k0 m0) [(0, x0)] B
noncomputable def f7_l7 (m0 : Nat) (x0 x3 x15 x16 x17 : AV) (B : List Row) : Option Res := lp (LL 7 m0 (l1 (l1 (l2 (l1 (l2 (l2 (l2 (l2 f7_c)))))))) (f7_k2 m0) [(0, x0), (3, x3), (15, x15), (16, x16), (17, x17)] B)
noncomputable def f7_r8 (m0 : Nat) (x0 x3 x15 x16 x17 : AV) (B : List Row) : Option Res := exec PP HH 7 m0 EE LL (l2 (l2 (l1 (l1 (l2 (l1 (l2 (l2 (l2 (l2 f7_c)))))))))) (f7_k3 m0) [(0, x0), (3, x3), (15, x15), (16, x16), (17, x17)] B
noncomputable def f7_r12 (m0 : Nat) (x0 x3 : AV) (B : List Row) : Option Res := exec PP HH 7 m0 EE LL (l2 (l2 (l2 (l2 (l2 f7_c))))) (f7_k0 m0) [(0, x0), (3, x3)] B
noncomputable def f7_r11 (m0 : Nat) (x0 x3 x15 x16 x17 : AV) (B : List Row) : Option Res := exec PP HH 7 m0 EE LL (l2 (l2 (l2 (l1 (l1 (l2 (l1 (l2 (l2 (l2 (l2 f7_c))))))))))) (f7_k3 m0) [(0, x0), (3, x3), (15, x15), (16, x16), (17, x17)] B
theorem f7_r3_eq (m0 : Nat) (x0 : AV) (B : List Row) : f7_r3 m0 x0 B =
 mk (ob (xlen PP 22 (shr x0)) fun a5 =>
 ob (xbin PP .gtr 3 a5 (iv 1000)) fun a6 =>
 asB a6 fun t7 => br t7 (mk (f7_ret (bv true) B))
 (f7_r5 m0 x0 (gcB m0 [x0] B))) := by kernel_rfl
theorem f7_r5_eq (m0 : Nat) (x0 : AV) (B : List Row) : f7_r5 m0 x0 B =
 mk (callS true EE 13 [x0] B fun a8 B9 =>
 mk (ob (xlen PP 27 (shr (shr a8))) fun a10 =>
 f7_l7 m0 (shr x0) (shr a8) (shr (shr a8)) a10 (iv 0) (gcB m0 [(shr x0), (shr a8), (shr (shr a8)), a10, (iv 0)] B9))) := by kernel_rfl
theorem f7_l7_eq (m0 : Nat) (x0 x3 x15 x16 x17 : AV) (B : List Row) : f7_l7 m0 x0 x3 x15 x16 x17 B =
 mk (ob (xbin PP .lss 3 x17 x16) fun a11 =>
 asB a11 fun t12 => br t12 (f7_r8 m0 x0 x3 x15 x16 x17 (gcB m0 [x0, x3, x15, x16, x17] B))
 (f7_r12 m0 x0 x3 (gcB m0 [x0, x3] B))) := (L_eq PP XX HH _ _ _ _ _ _).trans (by kernel_rfl)
theorem f7_r8_eq (m0 : Nat) (x0 x3 x15 x16 x17 : AV) (B : List Row) : f7_r8 m0 x0 x3 x15 x16 x17 B =
 mk (ob (xidx 1 x15 x17) fun a13 =>
 ob (ldN false 1 a13 B) fun a14 =>
 mk (callS false EE 17 [(shr (shr a14))] B fun a15 B16 =>
 ob (xun PP .not a15) fun a17 =>
 asB a17 fun t18 => br t18 (mk (f7_ret (bv false) B16))
 (f7_r11 m0 x0 x3 x15 x16 x17 (gcB m0 [x0, x3, x15, x16, x17] B16)))) := by kernel_rfl
theorem f7_r12_eq (m0 : Nat) (x0 x3 : AV) (B : List Row) : f7_r12 m0 x0 x3 B =
 mk (callS false EE 19 [(shr x3)] B fun a19 B20 =>
 ob (xext 0 (shr a19)) fun a21 =>
 ob (xext 1 (shr a19)) fun a22 =>
 mk (ob (xbin PP .eql 35 (shr (shr (shr a22))) (iv 0)) fun a23 =>
 asB (shr a23) fun t24 => br t24 (ob (xcnv PP 22 9 (shr (shr (shr a21)))) fun a25 =>
 ob (xcnv PP 22 9 (shr x0)) fun a26 =>
 ob (xbin PP .eql 9 a25 a26) fun a27 =>
 asB (shr (shr a27)) fun t28 => br t28 (ob (xlen PP 27 (shr x3)) fun a29 =>
 ob (xlen PP 22 (shr x0)) fun a30 =>
 ob (xbin PP .leq 3 a29 a30) fun a31 =>
 f7_ret (shr (shr a31)) B20)
 (f7_ret (bv false) B20))
 (f7_ret (bv false) B20))) := by kernel_rfl
theorem f7_r11_eq (m0 : Nat) (x0 x3 x15 x16 x17 : AV) (B : List Row) : f7_r11 m0 x0 x3 x15 x16 x17 B =
 mk (ob (xbin PP .add 3 x17 (iv 1)) fun a32 =>
 f7_l7 m0 x0 x3 x15 x16 (shr a32) (gcB m0 [x0, x3, x15, x16, (shr a32)] B)) := by kernel_rfl
theorem f7_eq (x0 : AV) (B : List Row) : EE 7 [x0] B =
 (let m0 := B.length
 mk (mk (callS false EE 9 [] B fun a1 B2 =>
 ob (xun PP .not a1) fun a3 =>
 asB a3 fun t4 => br t4 (mk (f7_ret (bv false) B2))
 (f7_r3 m0 x0 (gcB m0 [x0] B2))))) := (E_eq PP XX HH _ _ _).trans (by kernel_rfl)
/-! "colander/colanderlaw01.UnitJoins" -/
noncomputable def f8_c : Code := bodyOf Tryd.f8
def f8_ret (r0 : AV) (B : List Row) : Option Res :=
 ob (ob (some r0) fun v => ob (some []) fun vs => some (v :: vs)) fun vs => some ((nrmA (match vs with | [v] => v | vs => mkTup (vs.map shr))), B)
noncomputable def f8_k0 (m0 : Nat) : Kont := kret PP HH 8 Tryd.f8.results
noncomputable def f8_k1 (m0 : Nat) : Kont := kseq HH 8 m0 (l2 (l2 (l2 (l2 (l2 (l2 f8_c)))))) (exec PP HH 8 m0 EE LL (l2 (l2 (l2 (l2 (l2 (l2 f8_c)))))) (f8_k0 m0)) (f8_k0 m0)
noncomputable def f8_k2 (m0 : Nat) : Kont := kblk 0 (f8_k1 m0)
noncomputable def f8_k3 (m0 : Nat) : Kont := kloop HH 8 m0 (l1 (l1 (l2 (l1 (l2 (l2 (l2 (l2 (l2 f8_c))))))))) (LL 8 m0 (l1 (l1 (l2 (l1 (l2 (l2 (l2 (l2 (l2 f8_c))))))))) (f8_k2 m0)) (f8_k2 m0)
noncomputable def f8_k4 (m0 : Nat) : Kont := kseq HH 8 m0 (l2 (l2 (l2 (l1 (l1 (l2 (l1 (l2 (l2 (l2 (l2 (l2 f8_c)))))))))))) (exec PP HH 8 m0 EE LL (l2 (l2 (l2 (l1 (l1 (l2 (l1 (l2 (l2 (l2 (l2 (l2 f8_c)))))))))))) (f8_k3 m0)) (f8_k3 m0)
noncomputable def f8_k5 (m0 : Nat) : Kont := kblk 1 (f8_k4 m0)
noncomputable def f8_k6 (m0 : Nat) : Kont := kseq HH 8 m0 (l2 (l2 (l1 (l1 (l2 (l2 (l1 (l1 (l2 (l1 (l2 (l2 (l2 (l2 (l2 f8_c))))))))))))))) (exec PP HH 8 m0 EE LL (l2 (l2 (l1 (l1 (l2 (l2 (l1 (l1 (l2 (l1 (l2 (l2 (l2 (l2 (l2 f8_c))))))))))))))) (f8_k5 m0)) (f8_k5 m0)
noncomputable def f8_r3 (m0 : Nat) (x0 : AV) (B : List Row) : Option Res := exec PP HH 8 m0 EE LL (l2 (l2 f8_c)) (f8_k0 m0) [(0, x0)] B
noncomputable def f8_r5 (m0 : Nat) (x0 : AV) (B : List Row) : Option Res := exec PP HH 8 m0 EE LL (l2 (l2 (l2 f8_c))) (f8_k0 m0) [(0, x0)] B
noncomputable def f8_l8 (m0 : Nat) (x0 x3 x4 x16 x17 x18 : AV) (B : List Row) : Option Res := lp (LL 8 m0 (l1 (l1 (l2 (l1 (l2 (l2 (l2 (l2 (l2 f8_c))))))))) (f8_k2 m0) [(0, x0), (3, x3), (4, x4), (16, x16), (17, x17), (18, x18)] B)
noncomputable def f8_r9 (m0 : Nat) (x0 x3 x4 x16 x17 x18 : AV) (B : List Row) : Option Res := exec PP HH 8 m0 EE LL (l2 (l2 (l1 (l1 (l2 (l1 (l2 (l2 (l2 (l2 (l2 f8_c))))))))))) (f8_k3 m0) [(0, x0), (3, x3), (4, x4), (16, x16), (17, x17), (18, x18)] B
noncomputable def f8_r20 (m0 : Nat) (x0 x3 x4 : AV) (B : List Row) : Option Res := exec PP HH 8 m0 EE LL (l2 (l2 (l2 (l2 (l2 (l2 f8_c)))))) (f8_k0 m0) [(0, x0), (3, x3), (4, x4)] B
noncomputable def f8_r11 (m0 : Nat) (B : List Row) : Option Res := exec PP HH 8 m0 EE LL (l1 (l2 (l1 (l2 (l1 (l1 (l2 (l2 (l1 (l1 (l2 (l1 (l2 (l2 (l2 (l2 (l2 f8_c))))))))))))))))) (f8_k6 m0) [] B
noncomputable def f8_r12 (m0 : Nat) (x0 x3 x4 x6 x16 x17 x18 : AV) (B : List Row) : Option Res := exec PP HH 8 m0 EE LL (l2 (l2 (l1 (l1 (l2 (l2 (l1 (l1 (l2 (l1 (l2 (l2 (l2 (l2 (l2 f8_c))))))))))))))) (f8_k5 m0) [(0, x0), (3, x3), (4, x4), (6, x6), (16, x16), (17, x17), (18, x18)] B
noncomputable def f8_r15 (m0 : Nat) (x0 x3 x4 x6 x16 x17 x18 : AV) (B : List Row) : Option Res := exec PP HH 8 m0 EE LL (l2 (l2 (l2 (l1 (l1 (l2 (l2 (l1 (l1 (l2 (l1 (l2 (l2 (l2 (l2 (l2 f8_c)))))))))))))))) (f8_k5 m0) [(0, x0), (3, x3), (4, x4), (6, x6), (16, x16), (17, x17), (18, x18)] B
noncomputable def f8_r19 (m0 : Nat) (x0 x3 x4 x16 x17 x18 : AV) (B : List Row) : Option Res := exec PP HH 8 m0 EE LL (l2 (l2 (l2 (l1 (l1 (l2 (l1 (l2 (l2 (l2 (l2 (l2 f8_c)))))))))))) (f8_k3 m0) [(0, x0), (3, x3), (4, x4), (16, x16), (17, x17), (18, x18)] B
theorem f8_r3_eq (m0 : Nat) (x0 : AV) (B : List Row) : f8_r3 m0 x0 B =
 mk (ob (xlen PP 27 (shr x0)) fun a5 =>
 ob (xbin PP .gtr 3 a5 (iv 300)) fun a6 =>
 asB a6 fun t7 => br t7 (mk (f8_ret (bv true) B))
 (f8_r5 m0 x0 (gcB m0 [x0] B))) := by kernel_rfl
theorem f8_r5_eq (m0 : Nat) (x0 : AV) (B : List Row) : f8_r5 m0 x0 B =
 mk (mk (mk (ob (xlen PP 27 (shr x0)) fun a8 =>
 f8_l8 m0 x0 nilA (bv true) (shr x0) a8 (iv 0) (gcB m0 [x0, nilA, (bv true), (shr x0), a8, (iv 0)] B)))) := by kernel_rfl
theorem f8_l8_eq (m0 : Nat) (x0 x3 x4 x16 x17 x18 : AV) (B : List Row) : f8_l8 m0 x0 x3 x4 x16 x17 x18 B =
 mk (ob (xbin PP .lss 3 x18 x17) fun a9 =>
 asB a9 fun t10 => br t10 (f8_r9 m0 x0 x3 x4 x16 x17 x18 (gcB m0 [x0, x3, x4, x16, x17, x18] B))
 (f8_r20 m0 x0 x3 x4 (gcB m0 [x0, x3, x4] B))) := (L_eq PP XX HH _ _ _ _ _ _).trans (by kernel_rfl)
theorem f8_r9_eq (m0 : Nat) (x0 x3 x4 x16 x17 x18 : AV) (B : List Row) : f8_r9 m0 x0 x3 x4 x16 x17 x18 B =
 mk (ob (xidx 1 x16 x18) fun a11 =>
 ob (ldN false 1 a11 B) fun a12 =>
 mk (callS false EE 17 [(shr (shr a12))] B fun a13 B14 =>
 callS false EE 20 [(shr (shr a12))] B14 fun a15 B16 =>
 ob (xbin PP .neq 4 a13 a15) fun a17 =>
 asB (shr a17) fun t18 => br t18 (f8_r11 m0  (gcB m0 [] B16))
 (callS false EE 18 [(shr (shr a12))] B16 fun a19 B20 =>
 callS false EE 20 [(shr (shr a12))] B20 fun a21 B22 =>
 asB (shr a21) fun t23 => br t23 (ob (xbin PP .geq 3 (shr (shr a12)) (iv 1114112)) fun a24 =>
 ob (xbin PP .neq 4 a19 (shr a24)) fun a25 =>
 asB (shr a25) fun t26 => br t26 (f8_r11 m0  (gcB m0 [] B22))
 (f8_r12 m0 x0 x3 x4 (shr a12) x16 x17 x18 (gcB m0 [x0, x3, x4, (shr a12), x16, x17, x18] B22)))
 (ob (xbin PP .neq 4 a19 (bv false)) fun a27 =>
 asB (shr a27) fun t28 => br t28 (f8_r11 m0  (gcB m0 [] B22))
 (f8_r12 m0 x0 x3 x4 (shr a12) x16 x17 x18 (gcB m0 [x0, x3, x4, (shr a12), x16, x17, x18] B22)))))) := by kernel_rfl
theorem f8_r20_eq (m0 : Nat) (x0 x3 x4 : AV) (B : List Row) : f8_r20 m0 x0 x3 x4 B =
 mk (callS false EE 19 [(shr x0)] B fun a29 B30 =>
 ob (xext 0 a29) fun a31 =>
 ob (xext 1 (shr a29)) fun a32 =>
 mk (ob (xbin PP .eql 35 (shr (shr (shr a32))) (iv 0)) fun a33 =>
 asB (shr a33) fun t34 => br t34 (ob (xcnv PP 22 9 (shr a31)) fun a35 =>
 ob (xcnv PP 22 9 (shr x3)) fun a36 =>
 ob (xbin PP .eql 9 a35 a36) fun a37 =>
 asB (shr (shr a37)) fun t38 => br t38 (ob (xun PP .not (shr x4)) fun a39 =>
 asB (shr a39) fun t40 => br t40 (f8_ret (bv true) B30)
 (callS true EE 13 [a31] B30 fun a41 B42 =>
 callS false EE 12 [a41, (shr x0)] B42 fun a43 B44 =>
 f8_ret (shr (shr (shr a43))) B44))
 (f8_ret (bv false) B30))
 (f8_ret (bv false) B30))) := by kernel_rfl
theorem f8_r11_eq (m0 : Nat) (B : List Row) : f8_r11 m0  B =
 mk (f8_ret (bv false) B) := by kernel_rfl
theorem f8_r12_eq (m0 : Nat) (x0 x3 x4 x6 x16 x17 x18 : AV) (B : List Row) : f8_r12 m0 x0 x3 x4 x6 x16 x17 x18 B =
 mk (callS false EE 20 [(shr x6)] B fun a45 B46 =>
 ob (xun PP .not a45) fun a47 =>
 asB a47 fun t48 => br t48 (mk (callS false EE 19 [(shr x0)] B46 fun a49 B50 =>
 ob (xext 0 (shr a49)) fun a51 =>
 ob (xext 1 (shr a49)) fun a52 =>
 mk (ob (xbin PP .eql 35 (shr (shr (shr a52))) (iv 10)) fun a53 =>
 asB (shr a53) fun t54 => br t54 (ob (xlen PP 22 (shr (shr (shr a51)))) fun a55 =>
 ob (xbin PP .eql 3 a55 (iv 0)) fun a56 =>
 f8_ret (shr (shr a56)) B50)
 (f8_ret (bv false) B50))))
 (f8_r15 m0 x0 x3 x4 x6 x16 x17 x18 (gcB m0 [x0, x3, x4, x6, x16, x17, x18] B46))) := by kernel_rfl
theorem f8_r15_eq (m0 : Nat) (x0 x3 x4 x6 x16 x17 x18 : AV) (B : List Row) : f8_r15 m0 x0 x3 x4 x6 x16 x17 x18 B =
 mk (ob (xbin PP .geq 3 (shr x6) (iv 1114112)) fun a57 =>
 asB a57 fun t58 => br t58 (mk (mk (ob (xbin PP .sub 3 (shr x6) (iv 1114112)) fun a59 =>
 ob (xcnv PP 3 5 a59) fun a60 =>
 ob (xlit PP 22 1 [(0, a60)]) fun a61 =>
 ob (xapp 1 x3 a61) fun a62 =>
 f8_r19 m0 x0 a62 (bv false) x16 x17 x18 (gcB m0 [x0, a62, (bv false), x16, x17, x18] B))))
 (mk (callS false EE 16 [(shr x6)] B fun a63 B64 =>
 ob (xapp 1 x3 a63) fun a65 =>
 f8_r19 m0 x0 a65 x4 x16 x17 x18 (gcB m0 [x0, a65, x4, x16, x17, x18] B64)))) := by kernel_rfl
theorem f8_r19_eq (m0 : Nat) (x0 x3 x4 x16 x17 x18 : AV) (B : List Row) : f8_r19 m0 x0 x3 x4 x16 x17 x18 B =
 mk (ob (xbin PP .add 3 x18 (iv 1)) fun a66 =>
 f8_l8 m0 x0 x3 x4 x16 x17 (shr a66) (gcB m0 [x0, x3, x4, x16, x17, (shr a66)] B)) := by kernel_rfl
theorem f8_eq (x0 : AV) (B : List Row) : EE 8 [x0] B =
 (let m0 := B.length
 mk (mk (callS false EE 9 [] B fun a1 B2 =>
 ob (xun PP .not a1) fun a3 =>
 asB a3 fun t4 => br t4 (mk (f8_ret (bv false) B2))
 (f8_r3 m0 x0 (gcB m0 [x0] B2))))) := (E_eq PP XX HH _ _ _).trans (by kernel_rfl)
/-! "colander/colanderlaw01.anchor" -/
noncomputable def f9_c : Code := bodyOf Tryd.f9
def f9_ret (r0 : AV) (B : List Row) : Option Res :=
 ob (ob (some r0) fun v => ob (some []) fun vs => some (v :: vs)) fun vs => some ((nrmA (match vs with | [v] => v | vs => mkTup (vs.map shr))), B)
theorem f9_eq (B : List Row) : EE 9 [] B =
 (let m0 := B.length
 mk (mk (ob (xlit PP 22 4 [(0, (kv .u8 97)), (1, (kv .u8 195)), (2, (kv .u8 169)), (3, (kv .u8 255))]) fun a1 =>
 ob (xsame PP 22 (unOf a1)) fun a2 =>
 callS true EE 13 [a2] B fun a3 B4 =>
 ob (xlit PP 27 3 [(0, (iv 97)), (1, (iv 233)), (2, (iv 1114367))]) fun a5 =>
 callS false EE 12 [a3, a5] B4 fun a6 B7 =>
 asB (shr a6) fun t8 => br t8 (ob (xlit PP 22 2 [(0, (kv .u8 192)), (1, (kv .u8 128))]) fun a9 =>
 ob (xsame PP 22 (unOf a9)) fun a10 =>
 callS true EE 13 [a10] B7 fun a11 B12 =>
 ob (xlit PP 27 2 [(0, (iv 1114304)), (1, (iv 1114240))]) fun a13 =>
 callS false EE 12 [a11, a13] B12 fun a14 B15 =>
 f9_ret (shr (shr a14)) B15)
 (f9_ret (bv false) B7)))) := (E_eq PP XX HH _ _ _).trans (by kernel_rfl)
/-! "colander/unit.Next" -/
noncomputable def f10_c : Code := bodyOf Tryd.f10
def f10_ret (r0 r1 : AV) (B : List Row) : Option Res :=
 ob (ob (some r0) fun v => ob (ob (some r1) fun v => ob (some []) fun vs => some (v :: vs)) fun vs => some (v :: vs)) fun vs => some ((nrmA (match vs with | [v] => v | vs => mkTup (vs.map shr))), B)
noncomputable def f10_k0 (m0 : Nat) : Kont := kret PP HH 10 Tryd.f10.results
noncomputable def f10_k1 (m0 : Nat) : Kont := kseq HH 10 m0 (l2 (l2 f10_c)) (exec PP HH 10 m0 EE LL (l2 (l2 f10_c)) (f10_k0 m0)) (f10_k0 m0)
noncomputable def f10_k2 (m0 : Nat) : Kont := kseq HH 10 m0 (l2 (l2 (l2 (l2 f10_c)))) (exec PP HH 10 m0 EE LL (l2 (l2 (l2 (l2 f10_c)))) (f10_k0 m0)) (f10_k0 m0)
noncomputable def f10_r2 (m0 : Nat) (B : List Row) : Option Res := exec PP HH 10 m0 EE LL (l1 (l2 (l1 (l2 f10_c)))) (f10_k1 m0) [] B
noncomputable def f10_r3 (m0 : Nat) (x0 x1 : AV) (B : List Row) : Option Res := exec PP HH 10 m0 EE LL (l2 (l2 f10_c)) (f10_k0 m0) [(0, x0), (1, x1)] B
noncomputable def f10_r5 (m0 : Nat) (x0 x1 : AV) (B : List Row) : Option Res := exec PP HH 10 m0 EE LL (l1 (l2 (l1 (l2 (l2 (l2 f10_c)))))) (f10_k2 m0) [(0, x0), (1, x1)] B
noncomputable def f10_r6 (m0 : Nat) (x6 x7 : AV) (B : List Row) : Option Res := exec PP HH 10 m0 EE LL (l2 (l2 (l2 (l2 f10_c)))) (f10_k0 m0) [(6, x6), (7, x7)] B
theorem f10_r2_eq (m0 : Nat) (B : List Row) : f10_r2 m0  B =
 mk (f10_ret (iv 0) (iv 0) B) := by kernel_rfl
theorem f10_r3_eq (m0 : Nat) (x0 x1 : AV) (B : List Row) : f10_r3 m0 x0 x1 B =
 mk (ob (xsl 1 (shr x0) (some (shr x1)) none none) fun a6 =>
 callS false EE 21 [a6] B fun a7 B8 =>
 ob (xext 0 (shr a7)) fun a9 =>
 ob (xext 1 (shr a7)) fun a10 =>
 mk (ob (xbin PP .eql 21 (shr (shr (shr a9))) (kv .i32 65533)) fun a11 =>
 asB (shr a11) fun t12 => br t12 (ob (xbin PP .eql 3 (shr (shr (shr a10))) (iv 1)) fun a13 =>
 asB (shr a13) fun t14 => br t14 (f10_r5 m0 x0 x1 (gcB m0 [x0, x1] B8))
 (f10_r6 m0 (shr (shr a9)) (shr (shr a10)) (gcB m0 [(shr (shr a9)), (shr (shr a10))] B8)))
 (f10_r6 m0 (shr (shr a9)) (shr (shr a10)) (gcB m0 [(shr (shr a9)), (shr (shr a10))] B8)))) := by kernel_rfl
theorem f10_r5_eq (m0 : Nat) (x0 x1 : AV) (B : List Row) : f10_r5 m0 x0 x1 B =
 mk (ob (xidx 1 (shr x0) (shr x1)) fun a15 =>
 ob (ldN false 1 a15 B) fun a16 =>
 ob (xcnv PP 5 3 a16) fun a17 =>
 ob (xbin PP .add 3 (iv 1114112) a17) fun a18 =>
 f10_ret (shr a18) (iv 1) B) := by kernel_rfl
theorem f10_r6_eq (m0 : Nat) (x6 x7 : AV) (B : List Row) : f10_r6 m0 x6 x7 B =
 mk (ob (xcnv PP 21 3 (shr x6)) fun a19 =>
 f10_ret (shr a19) (shr (shr x7)) B) := by kernel_rfl
theorem f10_eq (x0 x1 : AV) (B : List Row) : EE 10 [x0, x1] B =
 (let m0 := B.length
 mk (mk (ob (xbin PP .lss 3 (shr x1) (iv 0)) fun a1 =>
 asB (shr a1) fun t2 => br t2 (f10_r2 m0  (gcB m0 [] B))
 (ob (xlen PP 22 (shr x0)) fun a3 =>
 ob (xbin PP .geq 3 (shr x1) a3) fun a4 =>
 asB (shr a4) fun t5 => br t5 (f10_r2 m0  (gcB m0 [] B))
 (f10_r3 m0 x0 x1 (gcB m0 [x0, x1] B)))))) := (E_eq PP XX HH _ _ _).trans (by kernel_rfl)
/-! "colander/colanderref01.Next" -/
noncomputable def f11_c : Code := bodyOf Tryd.f11
def f11_ret (r0 r1 : AV) (B : List Row) : Option Res :=
 ob (ob (some r0) fun v => ob (ob (some r1) fun v => ob (some []) fun vs => some (v :: vs)) fun vs => some (v :: vs)) fun vs => some ((nrmA (match vs with | [v] => v | vs => mkTup (vs.map shr))), B)
noncomputable def f11_k0 (m0 : Nat) : Kont := kret PP HH 11 Tryd.f11.results
noncomputable def f11_k1 (m0 : Nat) : Kont := kseq HH 11 m0 (l2 (l2 (l2 f11_c))) (exec PP HH 11 m0 EE LL (l2 (l2 (l2 f11_c))) (f11_k0 m0)) (f11_k0 m0)
noncomputable def f11_k2 (m0 : Nat) : Kont := kseq HH 11 m0 (l2 (l1 (l2 (l1 (l2 (l2 f11_c)))))) (exec PP HH 11 m0 EE LL (l2 (l1 (l2 (l1 (l2 (l2 f11_c)))))) (f11_k1 m0)) (f11_k1 m0)
noncomputable def f11_k3 (m0 : Nat) : Kont := kblk 0 (f11_k2 m0)
noncomputable def f11_k4 (m0 : Nat) : Kont := kloop HH 11 m0 (l1 (l1 (l2 (l1 (l1 (l2 (l1 (l2 (l2 f11_c))))))))) (LL 11 m0 (l1 (l1 (l2 (l1 (l1 (l2 (l1 (l2 (l2 f11_c))))))))) (f11_k3 m0)) (f11_k3 m0)
noncomputable def f11_r3 (m0 : Nat) (x0 x1 x6 x7 : AV) (B : List Row) : Option Res := exec PP HH 11 m0 EE LL (l1 (l2 (l1 (l2 (l2 f11_c))))) (f11_k1 m0) [(0, x0), (1, x1), (6, x6), (7, x7)] B
noncomputable def f11_r9 (m0 : Nat) (x0 x1 : AV) (B : List Row) : Option Res := exec PP HH 11 m0 EE LL (l2 (l2 (l2 f11_c))) (f11_k0 m0) [(0, x0), (1, x1)] B
noncomputable def f11_l4 (m0 : Nat) (x0 x1 x6 x7 x8 : AV) (B : List Row) : Option Res := lp (LL 11 m0 (l1 (l1 (l2 (l1 (l1 (l2 (l1 (l2 (l2 f11_c))))))))) (f11_k3 m0) [(0, x0), (1, x1), (6, x6), (7, x7), (8, x8)] B)
noncomputable def f11_r6 (m0 : Nat) (x0 x1 x6 x7 x8 : AV) (B : List Row) : Option Res := exec PP HH 11 m0 EE LL (l2 (l1 (l1 (l2 (l1 (l1 (l2 (l1 (l2 (l2 f11_c)))))))))) (f11_k4 m0) [(0, x0), (1, x1), (6, x6), (7, x7), (8, x8)] B
noncomputable def f11_r7 (m0 : Nat) (x0 x1 x6 x7 : AV) (B : List Row) : Option Res := exec PP HH 11 m0 EE LL (l2 (l1 (l2 (l1 (l2 (l2 f11_c)))))) (f11_k1 m0) [(0, x0), (1, x1), (6, x6), (7, x7)] B
noncomputable def f11_r8 (m0 : Nat) (x6 x7 : AV) (B : List Row) : Option Res := exec PP HH 11 m0 EE LL (l1 (l2 (l2 (l1 (l2 (l1 (l2 (l2 f11_c)))))))) (f11_k1 m0) [(6, x6), (7, x7)] B
theorem f11_r3_eq (m0 : Nat) (x0 x1 x6 x7 : AV) (B : List Row) : f11_r3 m0 x0 x1 x6 x7 B =
 mk (f11_l4 m0 x0 x1 x6 x7 (iv 1) (gcB m0 [x0, x1, x6, x7, (iv 1)] B)) := by kernel_rfl
theorem f11_r9_eq (m0 : Nat) (x0 x1 : AV) (B : List Row) : f11_r9 m0 x0 x1 B =
 mk (ob (xidx 1 (shr x0) (shr x1)) fun a14 =>
 ob (ldN false 1 a14 B) fun a15 =>
 ob (xcnv PP 5 3 a15) fun a16 =>
 ob (xbin PP .add 3 (iv 1114112) a16) fun a17 =>
 f11_ret (shr a17) (iv 1) B) := by kernel_rfl
theorem f11_l4_eq (m0 : Nat) (x0 x1 x6 x7 x8 : AV) (B : List Row) : f11_l4 m0 x0 x1 x6 x7 x8 B =
 mk (ob (xbin PP .leq 3 (shr x8) (shr x7)) fun a18 =>
 asB a18 fun t19 => br t19 (f11_r6 m0 x0 x1 x6 x7 x8 (gcB m0 [x0, x1, x6, x7, x8] B))
 (f11_r7 m0 x0 x1 x6 x7 (gcB m0 [x0, x1, x6, x7] B))) := (L_eq PP XX HH _ _ _ _ _ _).trans (by kernel_rfl)
theorem f11_r6_eq (m0 : Nat) (x0 x1 x6 x7 x8 : AV) (B : List Row) : f11_r6 m0 x0 x1 x6 x7 x8 B =
 mk (ob (xbin PP .mul 3 (shr x6) (iv 64)) fun a20 =>
 ob (xbin PP .add 3 (shr x1) (shr x8)) fun a21 =>
 ob (xidx 1 (shr x0) a21) fun a22 =>
 ob (ldN false 1 a22 B) fun a23 =>
 ob (xcnv PP 5 3 a23) fun a24 =>
 ob (xbin PP .add 3 a20 a24) fun a25 =>
 ob (xbin PP .sub 3 a25 (iv 128)) fun a26 =>
 mk (ob (xbin PP .add 3 (shr x8) (iv 1)) fun a27 =>
 f11_l4 m0 x0 x1 (shr a26) x7 (shr a27) (gcB m0 [x0, x1, (shr a26), x7, (shr a27)] B))) := by kernel_rfl
theorem f11_r7_eq (m0 : Nat) (x0 x1 x6 x7 : AV) (B : List Row) : f11_r7 m0 x0 x1 x6 x7 B =
 mk (callS false EE 15 [(shr x6)] B fun a28 B29 =>
 asB (shr a28) fun t30 => br t30 (callS false EE 16 [(shr x6)] B29 fun a31 B32 =>
 ob (xcnv PP 22 9 a31) fun a33 =>
 ob (xbin PP .add 3 (shr x1) (shr x7)) fun a34 =>
 ob (xbin PP .add 3 a34 (iv 1)) fun a35 =>
 ob (xsl 1 (shr x0) (some (shr x1)) (some a35) none) fun a36 =>
 ob (xcnv PP 22 9 a36) fun a37 =>
 ob (xbin PP .eql 9 a33 a37) fun a38 =>
 asB (shr a38) fun t39 => br t39 (f11_r8 m0 x6 x7 (gcB m0 [x6, x7] B32))
 (f11_r9 m0 x0 x1 (gcB m0 [x0, x1] B32)))
 (f11_r9 m0 x0 x1 (gcB m0 [x0, x1] B29))) := by kernel_rfl
theorem f11_r8_eq (m0 : Nat) (x6 x7 : AV) (B : List Row) : f11_r8 m0 x6 x7 B =
 mk (ob (xbin PP .add 3 (shr x7) (iv 1)) fun a40 =>
 f11_ret (shr (shr x6)) (shr a40) B) := by kernel_rfl
theorem f11_eq (x0 x1 : AV) (B : List Row) : EE 11 [x0, x1] B =
 (let m0 := B.length
 mk (mk (ob (xidx 1 (shr x0) (shr x1)) fun a1 =>
 ob (ldN false 1 a1 B) fun a2 =>
 ob (xcnv PP 5 3 a2) fun a3 =>
 callS false EE 22 [a3] B fun a4 B5 =>
 ob (xext 0 (shr a4)) fun a6 =>
 ob (xext 1 (shr a4)) fun a7 =>
 mk (ob (xbin PP .geq 3 (shr (shr (shr a6))) (iv 0)) fun a8 =>
 asB (shr a8) fun t9 => br t9 (ob (xbin PP .add 3 (shr x1) (shr (shr (shr a7)))) fun a10 =>
 ob (xlen PP 22 (shr x0)) fun a11 =>
 ob (xbin PP .lss 3 a10 a11) fun a12 =>
 asB (shr a12) fun t13 => br t13 (f11_r3 m0 x0 x1 (shr (shr a6)) (shr (shr a7)) (gcB m0 [x0, x1, (shr (shr a6)), (shr (shr a7))] B5))
 (f11_r9 m0 x0 x1 (gcB m0 [x0, x1] B5)))
 (f11_r9 m0 x0 x1 (gcB m0 [x0, x1] B5)))))) := (E_eq PP XX HH _ _ _).trans (by kernel_rfl)
/-! "colander/colanderlaw01.same" -/
noncomputable def f12_c : Code := bodyOf Tryd.f12
def f12_ret (r0 : AV) (B : List Row) : Option Res :=
 ob (ob (some r0) fun v => ob (some []) fun vs => some (v :: vs)) fun vs => some ((nrmA (match vs with | [v] => v | vs => mkTup (vs.map shr))), B)
noncomputable def f12_k0 (m0 : Nat) : Kont := kret PP HH 12 Tryd.f12.results
noncomputable def f12_k1 (m0 : Nat) : Kont := kseq HH 12 m0 (l2 (l2 (l2 f12_c))) (exec PP HH 12 m0 EE LL (l2 (l2 (l2 f12_c))) (f12_k0 m0)) (f12_k0 m0)
noncomputable def f12_k2 (m0 : Nat) : Kont := kblk 0 (f12_k1 m0)
noncomputable def f12_k3 (m0 : Nat) : Kont := kloop HH 12 m0 (l1 (l1 (l2 (l1 (l2 (l2 f12_c)))))) (LL 12 m0 (l1 (l1 (l2 (l1 (l2 (l2 f12_c)))))) (f12_k2 m0)) (f12_k2 m0)
noncomputable def f12_r3 (m0 : Nat) (x0 x1 : AV) (B : List Row) : Option Res := exec PP HH 12 m0 EE LL (l2 (l2 f12_c)) (f12_k0 m0) [(0, x0), (1, x1)] B
noncomputable def f12_l4 (m0 : Nat) (x1 x12 x13 x14 : AV) (B : List Row) : Option Res := lp (LL 12 m0 (l1 (l1 (l2 (l1 (l2 (l2 f12_c)))))) (f12_k2 m0) [(1, x1), (12, x12), (13, x13), (14, x14)] B)
noncomputable def f12_r5 (m0 : Nat) (x1 x12 x13 x14 : AV) (B : List Row) : Option Res := exec PP HH 12 m0 EE LL (l2 (l2 (l1 (l1 (l2 (l1 (l2 (l2 f12_c)))))))) (f12_k3 m0) [(1, x1), (12, x12), (13, x13), (14, x14)] B
noncomputable def f12_r9 (m0 : Nat) (B : List Row) : Option Res := exec PP HH 12 m0 EE LL (l2 (l2 (l2 f12_c))) (f12_k0 m0) [] B
noncomputable def f12_r8 (m0 : Nat) (x1 x12 x13 x14 : AV) (B : List Row) : Option Res := exec PP HH 12 m0 EE LL (l2 (l2 (l2 (l1 (l1 (l2 (l1 (l2 (l2 f12_c))))))))) (f12_k3 m0) [(1, x1), (12, x12), (13, x13), (14, x14)] B
theorem f12_r3_eq (m0 : Nat) (x0 x1 : AV) (B : List Row) : f12_r3 m0 x0 x1 B =
 mk (ob (xlen PP 27 (shr x0)) fun a5 =>
 f12_l4 m0 x1 (shr x0) a5 (iv 0) (gcB m0 [x1, (shr x0), a5, (iv 0)] B)) := by kernel_rfl
theorem f12_l4_eq (m0 : Nat) (x1 x12 x13 x14 : AV) (B : List Row) : f12_l4 m0 x1 x12 x13 x14 B =
 mk (ob (xbin PP .lss 3 x14 x13) fun a6 =>
 asB a6 fun t7 => br t7 (f12_r5 m0 x1 x12 x13 x14 (gcB m0 [x1, x12, x13, x14] B))
 (f12_r9 m0  (gcB m0 [] B))) := (L_eq PP XX HH _ _ _ _ _ _).trans (by kernel_rfl)
theorem f12_r5_eq (m0 : Nat) (x1 x12 x13 x14 : AV) (B : List Row) : f12_r5 m0 x1 x12 x13 x14 B =
 mk (ob (xidx 1 x12 x14) fun a8 =>
 ob (ldN false 1 a8 B) fun a9 =>
 mk (ob (xidx 1 (shr x1) (shr (shr (shr x14)))) fun a10 =>
 ob (ldN false 1 a10 B) fun a11 =>
 ob (xbin PP .neq 3 (shr (shr a9)) a11) fun a12 =>
 asB a12 fun t13 => br t13 (mk (f12_ret (bv false) B))
 (f12_r8 m0 x1 x12 x13 x14 (gcB m0 [x1, x12, x13, x14] B)))) := by kernel_rfl
theorem f12_r9_eq (m0 : Nat) (B : List Row) : f12_r9 m0  B =
 mk (f12_ret (bv true) B) := by kernel_rfl
theorem f12_r8_eq (m0 : Nat) (x1 x12 x13 x14 : AV) (B : List Row) : f12_r8 m0 x1 x12 x13 x14 B =
 mk (ob (xbin PP .add 3 x14 (iv 1)) fun a14 =>
 f12_l4 m0 x1 x12 x13 (shr a14) (gcB m0 [x1, x12, x13, (shr a14)] B)) := by kernel_rfl
theorem f12_eq (x0 x1 : AV) (B : List Row) : EE 12 [x0, x1] B =
 (let m0 := B.length
 mk (mk (ob (xlen PP 27 (shr x0)) fun a1 =>
 ob (xlen PP 27 (shr x1)) fun a2 =>
 ob (xbin PP .neq 3 a1 a2) fun a3 =>
 asB a3 fun t4 => br t4 (mk (f12_ret (bv false) B))
 (f12_r3 m0 x0 x1 (gcB m0 [x0, x1] B))))) := (E_eq PP XX HH _ _ _).trans (by kernel_rfl)
/-! "colander/colanderref01.Split" -/
noncomputable def f14_c : Code := bodyOf Tryd.f14
def f14_ret (r0 : AV) (B : List Row) : Option Res :=
 ob (ob (some r0) fun v => ob (some []) fun vs => some (v :: vs)) fun vs => some ((nrmA (match vs with | [v] => v | vs => mkTup (vs.map shr))), B)
noncomputable def f14_k0 (m0 : Nat) : Kont := kret PP HH 14 Tryd.f14.results
noncomputable def f14_k1 (m0 : Nat) : Kont := kseq HH 14 m0 (l2 (l2 (l2 (l2 f14_c)))) (exec PP HH 14 m0 EE LL (l2 (l2 (l2 (l2 f14_c)))) (f14_k0 m0)) (f14_k0 m0)
noncomputable def f14_k2 (m0 : Nat) : Kont := kblk 0 (f14_k1 m0)
noncomputable def f14_k3 (m0 : Nat) : Kont := kloop HH 14 m0 (l1 (l1 (l1 (l2 (l2 (l2 f14_c)))))) (LL 14 m0 (l1 (l1 (l1 (l2 (l2 (l2 f14_c)))))) (f14_k2 m0)) (f14_k2 m0)
noncomputable def f14_l3 (m0 : Nat) (x0 x3 x4 : AV) (B : List Row) : Option Res := lp (LL 14 m0 (l1 (l1 (l1 (l2 (l2 (l2 f14_c)))))) (f14_k2 m0) [(0, x0), (3, x3), (4, x4)] B)
noncomputable def f14_r4 (m0 : Nat) (x0 x3 x4 : AV) (B : List Row) : Option Res := exec PP HH 14 m0 EE LL (l2 (l1 (l1 (l1 (l2 (l2 (l2 f14_c))))))) (f14_k3 m0) [(0, x0), (3, x3), (4, x4)] B
noncomputable def f14_r7 (m0 : Nat) (x3 : AV) (B : List Row) : Option Res := exec PP HH 14 m0 EE LL (l2 (l2 (l2 (l2 f14_c)))) (f14_k0 m0) [(3, x3)] B
theorem f14_l3_eq (m0 : Nat) (x0 x3 x4 : AV) (B : List Row) : f14_l3 m0 x0 x3 x4 B =
 mk (ob (xlen PP 22 (shr x0)) fun a1 =>
 ob (xbin PP .lss 3 (shr x4) a1) fun a2 =>
 asB a2 fun t3 => br t3 (f14_r4 m0 x0 x3 x4 (gcB m0 [x0, x3, x4] B))
 (f14_r7 m0 x3 (gcB m0 [x3] B))) := (L_eq PP XX HH _ _ _ _ _ _).trans (by kernel_rfl)
theorem f14_r4_eq (m0 : Nat) (x0 x3 x4 : AV) (B : List Row) : f14_r4 m0 x0 x3 x4 B =
 mk (callS false EE 11 [(shr x0), (shr x4)] B fun a4 B5 =>
 ob (xext 0 (shr a4)) fun a6 =>
 ob (xext 1 (shr a4)) fun a7 =>
 mk (ob (xlit PP 27 1 [(0, (shr (shr (shr a6))))]) fun a8 =>
 ob (xapp 1 x3 a8) fun a9 =>
 mk (ob (xbin PP .add 3 (shr x4) (shr (shr (shr a7)))) fun a10 =>
 f14_l3 m0 x0 a9 (shr a10) (gcB m0 [x0, a9, (shr a10)] B5)))) := by kernel_rfl
theorem f14_r7_eq (m0 : Nat) (x3 : AV) (B : List Row) : f14_r7 m0 x3 B =
 mk (f14_ret (shr (shr x3)) B) := by kernel_rfl
theorem f14_eq (x0 : AV) (B : List Row) : EE 14 [x0] B =
 (let m0 := B.length
 mk (mk (mk (f14_l3 m0 x0 nilA (iv 0) (gcB m0 [x0, nilA, (iv 0)] B))))) := (E_eq PP XX HH _ _ _).trans (by kernel_rfl)
/-! "colander/colanderref01.Character" -/
noncomputable def f15_c : Code := bodyOf Tryd.f15
def f15_ret (r0 : AV) (B : List Row) : Option Res :=
 ob (ob (some r0) fun v => ob (some []) fun vs => some (v :: vs)) fun vs => some ((nrmA (match vs with | [v] => v | vs => mkTup (vs.map shr))), B)
theorem f15_eq (x0 : AV) (B : List Row) : EE 15 [x0] B =
 (let m0 := B.length
 mk (mk (ob (xbin PP .geq 3 (shr x0) (iv 0)) fun a1 =>
 asB (shr a1) fun t2 => br t2 (ob (xbin PP .leq 3 (shr x0) (iv 1114111)) fun a3 =>
 asB (shr (shr a3)) fun t4 => br t4 (ob (xbin PP .lss 3 (shr x0) (iv 55296)) fun a5 =>
 asB (shr a5) fun t6 => br t6 (f15_ret (bv true) B)
 (ob (xbin PP .gtr 3 (shr x0) (iv 57343)) fun a7 =>
 f15_ret (shr (shr (shr a7))) B))
 (f15_ret (bv false) B))
 (f15_ret (bv false) B)))) := (E_eq PP XX HH _ _ _).trans (by kernel_rfl)
/-! "colander/colanderref01.Bytes" -/
noncomputable def f16_c : Code := bodyOf Tryd.f16
def f16_ret (r0 : AV) (B : List Row) : Option Res :=
 ob (ob (some r0) fun v => ob (some []) fun vs => some (v :: vs)) fun vs => some ((nrmA (match vs with | [v] => v | vs => mkTup (vs.map shr))), B)
noncomputable def f16_k0 (m0 : Nat) : Kont := kret PP HH 16 Tryd.f16.results
noncomputable def f16_r3 (m0 : Nat) (x0 : AV) (B : List Row) : Option Res := exec PP HH 16 m0 EE LL (l2 (l2 f16_c)) (f16_k0 m0) [(0, x0)] B
noncomputable def f16_r5 (m0 : Nat) (x0 : AV) (B : List Row) : Option Res := exec PP HH 16 m0 EE LL (l2 (l2 (l2 f16_c))) (f16_k0 m0) [(0, x0)] B
noncomputable def f16_r7 (m0 : Nat) (x0 : AV) (B : List Row) : Option Res := exec PP HH 16 m0 EE LL (l2 (l2 (l2 (l2 f16_c)))) (f16_k0 m0) [(0, x0)] B
theorem f16_r3_eq (m0 : Nat) (x0 : AV) (B : List Row) : f16_r3 m0 x0 B =
 mk (ob (xbin PP .lss 3 (shr x0) (iv 2048)) fun a5 =>
 asB a5 fun t6 => br t6 (mk (ob (xbin PP .quo 3 (shr x0) (iv 64)) fun a7 =>
 ob (xbin PP .add 3 (iv 192) a7) fun a8 =>
 ob (xcnv PP 3 5 a8) fun a9 =>
 ob (xbin PP .rem 3 (shr x0) (iv 64)) fun a10 =>
 ob (xbin PP .add 3 (iv 128) a10) fun a11 =>
 ob (xcnv PP 3 5 a11) fun a12 =>
 ob (xlit PP 22 2 [(0, a9), (1, a12)]) fun a13 =>
 f16_ret (shr a13) B))
 (f16_r5 m0 x0 (gcB m0 [x0] B))) := by kernel_rfl
theorem f16_r5_eq (m0 : Nat) (x0 : AV) (B : List Row) : f16_r5 m0 x0 B =
 mk (ob (xbin PP .lss 3 (shr x0) (iv 65536)) fun a14 =>
 asB a14 fun t15 => br t15 (mk (ob (xbin PP .quo 3 (shr x0) (iv 4096)) fun a16 =>
 ob (xbin PP .add 3 (iv 224) a16) fun a17 =>
 ob (xcnv PP 3 5 a17) fun a18 =>
 ob (xbin PP .quo 3 (shr x0) (iv 64)) fun a19 =>
 ob (xbin PP .rem 3 a19 (iv 64)) fun a20 =>
 ob (xbin PP .add 3 (iv 128) a20) fun a21 =>
 ob (xcnv PP 3 5 a21) fun a22 =>
 ob (xbin PP .rem 3 (shr x0) (iv 64)) fun a23 =>
 ob (xbin PP .add 3 (iv 128) a23) fun a24 =>
 ob (xcnv PP 3 5 a24) fun a25 =>
 ob (xlit PP 22 3 [(0, a18), (1, a22), (2, a25)]) fun a26 =>
 f16_ret (shr a26) B))
 (f16_r7 m0 x0 (gcB m0 [x0] B))) := by kernel_rfl
theorem f16_r7_eq (m0 : Nat) (x0 : AV) (B : List Row) : f16_r7 m0 x0 B =
 mk (ob (xbin PP .quo 3 (shr x0) (iv 262144)) fun a27 =>
 ob (xbin PP .add 3 (iv 240) a27) fun a28 =>
 ob (xcnv PP 3 5 a28) fun a29 =>
 ob (xbin PP .quo 3 (shr x0) (iv 4096)) fun a30 =>
 ob (xbin PP .rem 3 a30 (iv 64)) fun a31 =>
 ob (xbin PP .add 3 (iv 128) a31) fun a32 =>
 ob (xcnv PP 3 5 a32) fun a33 =>
 ob (xbin PP .quo 3 (shr x0) (iv 64)) fun a34 =>
 ob (xbin PP .rem 3 a34 (iv 64)) fun a35 =>
 ob (xbin PP .add 3 (iv 128) a35) fun a36 =>
 ob (xcnv PP 3 5 a36) fun a37 =>
 ob (xbin PP .rem 3 (shr x0) (iv 64)) fun a38 =>
 ob (xbin PP .add 3 (iv 128) a38) fun a39 =>
 ob (xcnv PP 3 5 a39) fun a40 =>
 ob (xlit PP 22 4 [(0, a29), (1, a33), (2, a37), (3, a40)]) fun a41 =>
 f16_ret (shr a41) B) := by kernel_rfl
theorem f16_eq (x0 : AV) (B : List Row) : EE 16 [x0] B =
 (let m0 := B.length
 mk (mk (ob (xbin PP .lss 3 (shr x0) (iv 128)) fun a1 =>
 asB a1 fun t2 => br t2 (mk (ob (xcnv PP 3 5 (shr x0)) fun a3 =>
 ob (xlit PP 22 1 [(0, a3)]) fun a4 =>
 f16_ret (shr a4) B))
 (f16_r3 m0 x0 (gcB m0 [x0] B))))) := (E_eq PP XX HH _ _ _).trans (by kernel_rfl)
/-! "colander/unit.Right" -/
noncomputable def f17_c : Code := bodyOf Tryd.f17
def f17_ret (r0 : AV) (B : List Row) : Option Res :=
 ob (ob (some r0) fun v => ob (some []) fun vs => some (v :: vs)) fun vs => some ((nrmA (match vs with | [v] => v | vs => mkTup (vs.map shr))), B)
theorem f17_eq (x0 : AV) (B : List Row) : EE 17 [x0] B =
 (let m0 := B.length
 mk (mk (ob (xbin PP .geq 3 (shr x0) (iv 0)) fun a1 =>
 asB (shr a1) fun t2 => br t2 (ob (xbin PP .lss 3 (shr x0) (iv 1114112)) fun a3 =>
 asB (shr (shr a3)) fun t4 => br t4 (ob (xcnv PP 3 21 (shr x0)) fun a5 =>
 callS false EE 24 [a5] B fun a6 B7 =>
 asB (shr (shr a6)) fun t8 => br t8 (f17_ret (bv true) B7)
 (callS false EE 18 [(shr x0)] B7 fun a9 B10 =>
 f17_ret (shr (shr a9)) B10))
 (callS false EE 18 [(shr x0)] B fun a11 B12 =>
 f17_ret (shr (shr a11)) B12))
 (callS false EE 18 [(shr x0)] B fun a13 B14 =>
 f17_ret (shr (shr a13)) B14)))) := (E_eq PP XX HH _ _ _).trans (by kernel_rfl)
/-! "colander/unit.Stray" -/
noncomputable def f18_c : Code := bodyOf Tryd.f18
def f18_ret (r0 : AV) (B : List Row) : Option Res :=
 ob (ob (some r0) fun v => ob (some []) fun vs => some (v :: vs)) fun vs => some ((nrmA (match vs with | [v] => v | vs => mkTup (vs.map shr))), B)
theorem f18_eq (x0 : AV) (B : List Row) : EE 18 [x0] B =
 (let m0 := B.length
 mk (mk (ob (xbin PP .geq 3 (shr x0) (iv 1114240)) fun a1 =>
 asB (shr a1) fun t2 => br t2 (ob (xbin PP .leq 3 (shr x0) (iv 1114367)) fun a3 =>
 f18_ret (shr (shr a3)) B)
 (f18_ret (bv false) B)))) := (E_eq PP XX HH _ _ _).trans (by kernel_rfl)
/-! "colander/unit.Join" -/
noncomputable def f19_c : Code := bodyOf Tryd.f19
def f19_ret (r0 r1 : AV) (B : List Row) : Option Res :=
 ob (ob (some r0) fun v => ob (ob (some r1) fun v => ob (some []) fun vs => some (v :: vs)) fun vs => some (v :: vs)) fun vs => some ((nrmA (match vs with | [v] => v | vs => mkTup (vs.map shr))), B)
noncomputable def f19_k0 (m0 : Nat) : Kont := kret PP HH 19 Tryd.f19.results
noncomputable def f19_k1 (m0 : Nat) : Kont := kseq HH 19 m0 (l2 (l2 (l2 f19_c))) (exec PP HH 19 m0 EE LL (l2 (l2 (l2 f19_c))) (f19_k0 m0)) (f19_k0 m0)
noncomputable def f19_k2 (m0 : Nat) : Kont := kblk 0 (f19_k1 m0)
noncomputable def f19_k3 (m0 : Nat) : Kont := kloop HH 19 m0 (l1 (l1 (l2 (l1 (l2 (l2 f19_c)))))) (LL 19 m0 (l1 (l1 (l2 (l1 (l2 (l2 f19_c)))))) (f19_k2 m0)) (f19_k2 m0)
noncomputable def f19_l3 (m0 : Nat) (x4 x7 x8 x9 : AV) (B : List Row) : Option Res := lp (LL 19 m0 (l1 (l1 (l2 (l1 (l2 (l2 f19_c)))))) (f19_k2 m0) [(4, x4), (7, x7), (8, x8), (9, x9)] B)
noncomputable def f19_r4 (m0 : Nat) (x4 x7 x8 x9 : AV) (B : List Row) : Option Res := exec PP HH 19 m0 EE LL (l2 (l2 (l1 (l1 (l2 (l1 (l2 (l2 f19_c)))))))) (f19_k3 m0) [(4, x4), (7, x7), (8, x8), (9, x9)] B
noncomputable def f19_r11 (m0 : Nat) (x4 : AV) (B : List Row) : Option Res := exec PP HH 19 m0 EE LL (l2 (l2 (l2 f19_c))) (f19_k0 m0) [(4, x4)] B
noncomputable def f19_r10 (m0 : Nat) (x4 x7 x8 x9 : AV) (B : List Row) : Option Res := exec PP HH 19 m0 EE LL (l2 (l2 (l2 (l1 (l1 (l2 (l1 (l2 (l2 f19_c))))))))) (f19_k3 m0) [(4, x4), (7, x7), (8, x8), (9, x9)] B
theorem f19_l3_eq (m0 : Nat) (x4 x7 x8 x9 : AV) (B : List Row) : f19_l3 m0 x4 x7 x8 x9 B =
 mk (ob (xbin PP .lss 3 x9 x8) fun a2 =>
 asB a2 fun t3 => br t3 (f19_r4 m0 x4 x7 x8 x9 (gcB m0 [x4, x7, x8, x9] B))
 (f19_r11 m0 x4 (gcB m0 [x4] B))) := (L_eq PP XX HH _ _ _ _ _ _).trans (by kernel_rfl)
theorem f19_r4_eq (m0 : Nat) (x4 x7 x8 x9 : AV) (B : List Row) : f19_r4 m0 x4 x7 x8 x9 B =
 mk (ob (xidx 1 x7 x9) fun a4 =>
 ob (ldN false 1 a4 B) fun a5 =>
 mk (callS false EE 18 [(shr (shr a5))] B fun a6 B7 =>
 asB (shr a6) fun t8 => br t8 (mk (ob (xbin PP .sub 3 (shr (shr a5)) (iv 1114112)) fun a9 =>
 ob (xcnv PP 3 5 a9) fun a10 =>
 ob (xlit PP 22 1 [(0, a10)]) fun a11 =>
 ob (xapp 1 x4 a11) fun a12 =>
 f19_r10 m0 a12 x7 x8 x9 (gcB m0 [a12, x7, x8, x9] B7)))
 (mk (callS false EE 17 [(shr (shr a5))] B7 fun a13 B14 =>
 asB (shr a13) fun t15 => br t15 (mk (ob (xcnv PP 3 21 (shr (shr a5))) fun a16 =>
 callS true EE 25 [x4, a16] B14 fun a17 B18 =>
 f19_r10 m0 a17 x7 x8 x9 (gcB m0 [a17, x7, x8, x9] B18)))
 (mk (f19_ret nilA (iv 10) B14)))))) := by kernel_rfl
theorem f19_r11_eq (m0 : Nat) (x4 : AV) (B : List Row) : f19_r11 m0 x4 B =
 mk (f19_ret (shr (shr x4)) (iv 0) B) := by kernel_rfl
theorem f19_r10_eq (m0 : Nat) (x4 x7 x8 x9 : AV) (B : List Row) : f19_r10 m0 x4 x7 x8 x9 B =
 mk (ob (xbin PP .add 3 x9 (iv 1)) fun a19 =>
 f19_l3 m0 x4 x7 x8 (shr a19) (gcB m0 [x4, x7, x8, (shr a19)] B)) := by kernel_rfl
theorem f19_eq (x0 : AV) (B : List Row) : EE 19 [x0] B =
 (let m0 := B.length
 mk (mk (mk (ob (xlen PP 27 (shr x0)) fun a1 =>
 f19_l3 m0 nilA (shr x0) a1 (iv 0) (gcB m0 [nilA, (shr x0), a1, (iv 0)] B))))) := (E_eq PP XX HH _ _ _).trans (by kernel_rfl)
/-! "colander/colanderref01.Right" -/
noncomputable def f20_c : Code := bodyOf Tryd.f20
def f20_ret (r0 : AV) (B : List Row) : Option Res :=
 ob (ob (some r0) fun v => ob (some []) fun vs => some (v :: vs)) fun vs => some ((nrmA (match vs with | [v] => v | vs => mkTup (vs.map shr))), B)
theorem f20_eq (x0 : AV) (B : List Row) : EE 20 [x0] B =
 (let m0 := B.length
 mk (mk (callS false EE 15 [(shr x0)] B fun a1 B2 =>
 asB (shr a1) fun t3 => br t3 (f20_ret (bv true) B2)
 (ob (xbin PP .geq 3 (shr x0) (iv 1114240)) fun a4 =>
 asB (shr a4) fun t5 => br t5 (ob (xbin PP .leq 3 (shr x0) (iv 1114367)) fun a6 =>
 f20_ret (shr (shr (shr a6))) B2)
 (f20_ret (bv false) B2))))) := (E_eq PP XX HH _ _ _).trans (by kernel_rfl)
/-! "colander/colanderref01.guess" -/
noncomputable def f22_c : Code := bodyOf Tryd.f22
def f22_ret (r0 r1 : AV) (B : List Row) : Option Res :=
 ob (ob (some r0) fun v => ob (ob (some r1) fun v => ob (some []) fun vs => some (v :: vs)) fun vs => some (v :: vs)) fun vs => some ((nrmA (match vs with | [v] => v | vs => mkTup (vs.map shr))), B)
noncomputable def f22_k0 (m0 : Nat) : Kont := kret PP HH 22 Tryd.f22.results
noncomputable def f22_k1 (m0 : Nat) : Kont := kseq HH 22 m0 (l2 (l2 f22_c)) (exec PP HH 22 m0 EE LL (l2 (l2 f22_c)) (f22_k0 m0)) (f22_k0 m0)
noncomputable def f22_k2 (m0 : Nat) : Kont := kblk 0 (f22_k1 m0)
noncomputable def f22_r4 (m0 : Nat) (x0 : AV) (B : List Row) : Option Res := exec PP HH 22 m0 EE LL (l1 (l2 (l2 (l2 (l1 (l1 (l2 f22_c))))))) (f22_k2 m0) [(0, x0)] B
noncomputable def f22_r5 (m0 : Nat) (x0 : AV) (B : List Row) : Option Res := exec PP HH 22 m0 EE LL (l2 (l2 (l2 (l2 (l1 (l1 (l2 f22_c))))))) (f22_k2 m0) [(0, x0)] B
noncomputable def f22_r6 (m0 : Nat) (x0 : AV) (B : List Row) : Option Res := exec PP HH 22 m0 EE LL (l1 (l2 (l2 (l2 (l2 (l2 (l1 (l1 (l2 f22_c))))))))) (f22_k2 m0) [(0, x0)] B
noncomputable def f22_r7 (m0 : Nat) (x0 : AV) (B : List Row) : Option Res := exec PP HH 22 m0 EE LL (l2 (l2 (l2 (l2 (l2 (l2 (l1 (l1 (l2 f22_c))))))))) (f22_k2 m0) [(0, x0)] B
noncomputable def f22_r8 (m0 : Nat) (x0 : AV) (B : List Row) : Option Res := exec PP HH 22 m0 EE LL (l1 (l2 (l2 (l2 (l2 (l2 (l2 (l2 (l1 (l1 (l2 f22_c))))))))))) (f22_k2 m0) [(0, x0)] B
noncomputable def f22_r9 (m0 : Nat) (B : List Row) : Option Res := exec PP HH 22 m0 EE LL (l2 (l2 f22_c)) (f22_k0 m0) [] B
theorem f22_r4_eq (m0 : Nat) (x0 : AV) (B : List Row) : f22_r4 m0 x0 B =
 mk (ob (xbin PP .sub 3 (shr x0) (iv 192)) fun a7 =>
 f22_ret (shr a7) (iv 1) B) := by kernel_rfl
theorem f22_r5_eq (m0 : Nat) (x0 : AV) (B : List Row) : f22_r5 m0 x0 B =
 mk (ob (xbin PP .geq 3 (shr x0) (iv 224)) fun a8 =>
 asB (shr a8) fun t9 => br t9 (ob (xbin PP .lss 3 (shr x0) (iv 240)) fun a10 =>
 asB (shr (shr a10)) fun t11 => br t11 (f22_r6 m0 x0 (gcB m0 [x0] B))
 (f22_r7 m0 x0 (gcB m0 [x0] B)))
 (f22_r7 m0 x0 (gcB m0 [x0] B))) := by kernel_rfl
theorem f22_r6_eq (m0 : Nat) (x0 : AV) (B : List Row) : f22_r6 m0 x0 B =
 mk (ob (xbin PP .sub 3 (shr x0) (iv 224)) fun a12 =>
 f22_ret (shr a12) (iv 2) B) := by kernel_rfl
theorem f22_r7_eq (m0 : Nat) (x0 : AV) (B : List Row) : f22_r7 m0 x0 B =
 mk (ob (xbin PP .geq 3 (shr x0) (iv 240)) fun a13 =>
 asB (shr a13) fun t14 => br t14 (ob (xbin PP .lss 3 (shr x0) (iv 248)) fun a15 =>
 asB (shr (shr a15)) fun t16 => br t16 (f22_r8 m0 x0 (gcB m0 [x0] B))
 (f22_r9 m0  (gcB m0 [] B)))
 (f22_r9 m0  (gcB m0 [] B))) := by kernel_rfl
theorem f22_r8_eq (m0 : Nat) (x0 : AV) (B : List Row) : f22_r8 m0 x0 B =
 mk (ob (xbin PP .sub 3 (shr x0) (iv 240)) fun a17 =>
 f22_ret (shr a17) (iv 3) B) := by kernel_rfl
theorem f22_r9_eq (m0 : Nat) (B : List Row) : f22_r9 m0  B =
 mk (f22_ret (iv (-1)) (iv 0) B) := by kernel_rfl
theorem f22_eq (x0 : AV) (B : List Row) : EE 22 [x0] B =
 (let m0 := B.length
 mk (mk (ob (xbin PP .lss 3 (shr x0) (iv 128)) fun a1 =>
 asB (shr a1) fun t2 => br t2 (mk (f22_ret (shr (shr x0)) (iv 0) B))
 (mk (ob (xbin PP .geq 3 (shr x0) (iv 192)) fun a3 =>
 asB (shr a3) fun t4 => br t4 (ob (xbin PP .lss 3 (shr x0) (iv 224)) fun a5 =>
 asB (shr (shr a5)) fun t6 => br t6 (f22_r4 m0 x0 (gcB m0 [x0] B))
 (f22_r5 m0 x0 (gcB m0 [x0] B)))
 (f22_r5 m0 x0 (gcB m0 [x0] B))))))) := (E_eq PP XX HH _ _ _).trans (by kernel_rfl)
/-! "unicode/utf8.ValidRune" -/
noncomputable def f24_c : Code := bodyOf Tryd.f24
def f24_ret (r0 : AV) (B : List Row) : Option Res :=
 ob (ob (some r0) fun v => ob (some []) fun vs => some (v :: vs)) fun vs => some ((nrmA (match vs with | [v] => v | vs => mkTup (vs.map shr))), B)
noncomputable def f24_k0 (m0 : Nat) : Kont := kret PP HH 24 Tryd.f24.results
noncomputable def f24_k1 (m0 : Nat) : Kont := kseq HH 24 m0 (l2 (l2 f24_c)) (exec PP HH 24 m0 EE LL (l2 (l2 f24_c)) (f24_k0 m0)) (f24_k0 m0)
noncomputable def f24_k2 (m0 : Nat) : Kont := kblk 0 (f24_k1 m0)
noncomputable def f24_r2 (m0 : Nat) (B : List Row) : Option Res := exec PP HH 24 m0 EE LL (l1 (l2 (l1 (l1 (l2 f24_c))))) (f24_k2 m0) [] B
noncomputable def f24_r3 (m0 : Nat) (x0 : AV) (B : List Row) : Option Res := exec PP HH 24 m0 EE LL (l2 (l2 (l1 (l1 (l2 f24_c))))) (f24_k2 m0) [(0, x0)] B
noncomputable def f24_r4 (m0 : Nat) (B : List Row) : Option Res := exec PP HH 24 m0 EE LL (l1 (l2 (l2 (l2 (l1 (l1 (l2 f24_c))))))) (f24_k2 m0) [] B
noncomputable def f24_r5 (m0 : Nat) (B : List Row) : Option Res := exec PP HH 24 m0 EE LL (l2 (l2 f24_c)) (f24_k0 m0) [] B
theorem f24_r2_eq (m0 : Nat) (B : List Row) : f24_r2 m0  B =
 mk (f24_ret (bv true) B) := by kernel_rfl
theorem f24_r3_eq (m0 : Nat) (x0 : AV) (B : List Row) : f24_r3 m0 x0 B =
 mk (ob (xbin PP .lss 21 (kv .i32 57343) (shr x0)) fun a5 =>
 asB (shr a5) fun t6 => br t6 (ob (xbin PP .leq 21 (shr x0) (kv .i32 1114111)) fun a7 =>
 asB (shr (shr a7)) fun t8 => br t8 (f24_r4 m0  (gcB m0 [] B))
 (f24_r5 m0  (gcB m0 [] B)))
 (f24_r5 m0  (gcB m0 [] B))) := by kernel_rfl
theorem f24_r4_eq (m0 : Nat) (B : List Row) : f24_r4 m0  B =
 mk (f24_ret (bv true) B) := by kernel_rfl
theorem f24_r5_eq (m0 : Nat) (B : List Row) : f24_r5 m0  B =
 mk (f24_ret (bv false) B) := by kernel_rfl
theorem f24_eq (x0 : AV) (B : List Row) : EE 24 [x0] B =
 (let m0 := B.length
 mk (mk (ob (xbin PP .leq 21 (kv .i32 0) (shr x0)) fun a1 =>
 asB (shr a1) fun t2 => br t2 (ob (xbin PP .lss 21 (shr x0) (kv .i32 55296)) fun a3 =>
 asB (shr (shr a3)) fun t4 => br t4 (f24_r2 m0  (gcB m0 [] B))
 (f24_r3 m0 x0 (gcB m0 [x0] B)))
 (f24_r3 m0 x0 (gcB m0 [x0] B))))) := (E_eq PP XX HH _ _ _).trans (by kernel_rfl)
/-! "unicode/utf8.AppendRune" -/
noncomputable def f25_c : Code := bodyOf Tryd.f25
def f25_ret (r0 : AV) (B : List Row) : Option Res :=
 ob (ob (some r0) fun v => ob (some []) fun vs => some (v :: vs)) fun vs => some (((match vs with | [v] => v | vs => mkTup (vs.map shr))), B)
noncomputable def f25_k0 (m0 : Nat) : Kont := kret PP HH 25 Tryd.f25.results
noncomputable def f25_r3 (m0 : Nat) (x0 x1 : AV) (B : List Row) : Option Res := exec PP HH 25 m0 EE LL (l2 (l2 f25_c)) (f25_k0 m0) [(0, x0), (1, x1)] B
theorem f25_r3_eq (m0 : Nat) (x0 x1 : AV) (B : List Row) : f25_r3 m0 x0 x1 B =
 mk (callS true EE 28 [x0, (shr x1)] B fun a7 B8 =>
 f25_ret a7 B8) := by kernel_rfl
theorem f25_eq (x0 x1 : AV) (B : List Row) : EE 25 [x0, x1] B =
 (let m0 := B.length
 mk (mk (ob (xcnv PP 21 47 (shr x1)) fun a1 =>
 ob (xbin PP .leq 47 a1 (kv .u32 127)) fun a2 =>
 asB a2 fun t3 => br t3 (mk (ob (xcnv PP 21 5 (shr x1)) fun a4 =>
 ob (xlit PP 22 1 [(0, a4)]) fun a5 =>
 ob (xapp 1 x0 a5) fun a6 =>
 f25_ret a6 B))
 (f25_r3 m0 x0 x1 (gcB m0 [x0, x1] B))))) := (E_eq PP XX HH _ _ _).trans (by kernel_rfl)
/-! "unicode/utf8.appendRuneNonASCII" -/
noncomputable def f28_c : Code := bodyOf Tryd.f28
def f28_ret (r0 : AV) (B : List Row) : Option Res :=
 ob (ob (some r0) fun v => ob (some []) fun vs => some (v :: vs)) fun vs => some (((match vs with | [v] => v | vs => mkTup (vs.map shr))), B)
noncomputable def f28_k0 (m0 : Nat) : Kont := kret PP HH 28 Tryd.f28.results
noncomputable def f28_k1 (m0 : Nat) : Kont := kblk 0 (f28_k0 m0)
noncomputable def f28_r9 (m0 : Nat) (x0 x1 : AV) (B : List Row) : Option Res := exec PP HH 28 m0 EE LL (l1 (l2 (l2 (l2 (l2 (l2 (l1 (l2 (l2 f28_c))))))))) (f28_k1 m0) [(0, x0), (1, x1)] B
noncomputable def f28_r2 (m0 : Nat) (x0 : AV) (B : List Row) : Option Res := exec PP HH 28 m0 EE LL (l2 (l2 (l2 (l2 (l2 (l2 (l1 (l2 (l2 f28_c))))))))) (f28_k1 m0) [(0, x0)] B
theorem f28_r9_eq (m0 : Nat) (x0 x1 : AV) (B : List Row) : f28_r9 m0 x0 x1 B =
 mk (ob (xbin PP .shr 21 (shr x1) (kv .u64 18)) fun a55 =>
 ob (xcnv PP 21 5 a55) fun a56 =>
 ob (xbin PP .or 5 (kv .u8 240) a56) fun a57 =>
 ob (xbin PP .shr 21 (shr x1) (kv .u64 12)) fun a58 =>
 ob (xcnv PP 21 5 a58) fun a59 =>
 ob (xbin PP .and 5 a59 (kv .u8 63)) fun a60 =>
 ob (xbin PP .or 5 (kv .u8 128) a60) fun a61 =>
 ob (xbin PP .shr 21 (shr x1) (kv .u64 6)) fun a62 =>
 ob (xcnv PP 21 5 a62) fun a63 =>
 ob (xbin PP .and 5 a63 (kv .u8 63)) fun a64 =>
 ob (xbin PP .or 5 (kv .u8 128) a64) fun a65 =>
 ob (xcnv PP 21 5 (shr x1)) fun a66 =>
 ob (xbin PP .and 5 a66 (kv .u8 63)) fun a67 =>
 ob (xbin PP .or 5 (kv .u8 128) a67) fun a68 =>
 ob (xlit PP 22 4 [(0, a57), (1, a61), (2, a65), (3, a68)]) fun a69 =>
 ob (xapp 1 x0 a69) fun a70 =>
 f28_ret a70 B) := by kernel_rfl
theorem f28_r2_eq (m0 : Nat) (x0 : AV) (B : List Row) : f28_r2 m0 x0 B =
 mk (ob (xlit PP 22 3 [(0, (kv .u8 239)), (1, (kv .u8 191)), (2, (kv .u8 189))]) fun a71 =>
 ob (xapp 1 x0 a71) fun a72 =>
 f28_ret a72 B) := by kernel_rfl
theorem f28_eq (x0 x1 : AV) (B : List Row) : EE 28 [x0, x1] B =
 (let m0 := B.length
 mk (mk (ob (xcnv PP 21 47 (shr x1)) fun a1 =>
 mk (ob (xbin PP .leq 47 (shr (shr a1)) (kv .u32 2047)) fun a2 =>
 asB (shr a2) fun t3 => br t3 (mk (ob (xbin PP .shr 21 (shr x1) (kv .u64 6)) fun a4 =>
 ob (xcnv PP 21 5 a4) fun a5 =>
 ob (xbin PP .or 5 (kv .u8 192) a5) fun a6 =>
 ob (xcnv PP 21 5 (shr x1)) fun a7 =>
 ob (xbin PP .and 5 a7 (kv .u8 63)) fun a8 =>
 ob (xbin PP .or 5 (kv .u8 128) a8) fun a9 =>
 ob (xlit PP 22 2 [(0, a6), (1, a9)]) fun a10 =>
 ob (xapp 1 x0 a10) fun a11 =>
 f28_ret a11 B))
 (mk (ob (xbin PP .lss 47 (shr (shr a1)) (kv .u32 55296)) fun a12 =>
 asB (shr a12) fun t13 => br t13 (asB (shr a12) fun t14 => br t14 (mk (ob (xbin PP .shr 21 (shr x1) (kv .u64 12)) fun a15 =>
 ob (xcnv PP 21 5 a15) fun a16 =>
 ob (xbin PP .or 5 (kv .u8 224) a16) fun a17 =>
 ob (xbin PP .shr 21 (shr x1) (kv .u64 6)) fun a18 =>
 ob (xcnv PP 21 5 a18) fun a19 =>
 ob (xbin PP .and 5 a19 (kv .u8 63)) fun a20 =>
 ob (xbin PP .or 5 (kv .u8 128) a20) fun a21 =>
 ob (xcnv PP 21 5 (shr x1)) fun a22 =>
 ob (xbin PP .and 5 a22 (kv .u8 63)) fun a23 =>
 ob (xbin PP .or 5 (kv .u8 128) a23) fun a24 =>
 ob (xlit PP 22 3 [(0, a17), (1, a21), (2, a24)]) fun a25 =>
 ob (xapp 1 x0 a25) fun a26 =>
 f28_ret a26 B))
 (mk (ob (xbin PP .gtr 47 (shr (shr a1)) (kv .u32 65535)) fun a27 =>
 asB (shr a27) fun t28 => br t28 (ob (xbin PP .leq 47 (shr (shr a1)) (kv .u32 1114111)) fun a29 =>
 asB (shr (shr a29)) fun t30 => br t30 (f28_r9 m0 x0 x1 (gcB m0 [x0, x1] B))
 (f28_r2 m0 x0 (gcB m0 [x0] B)))
 (f28_r2 m0 x0 (gcB m0 [x0] B)))))
 (mk (ob (xbin PP .lss 47 (kv .u32 57343) (shr (shr a1))) fun a31 =>
 asB (shr a31) fun t32 => br t32 (ob (xbin PP .leq 47 (shr (shr a1)) (kv .u32 65535)) fun a33 =>
 asB (shr (shr a33)) fun t34 => br t34 (mk (ob (xbin PP .shr 21 (shr x1) (kv .u64 12)) fun a35 =>
 ob (xcnv PP 21 5 a35) fun a36 =>
 ob (xbin PP .or 5 (kv .u8 224) a36) fun a37 =>
 ob (xbin PP .shr 21 (shr x1) (kv .u64 6)) fun a38 =>
 ob (xcnv PP 21 5 a38) fun a39 =>
 ob (xbin PP .and 5 a39 (kv .u8 63)) fun a40 =>
 ob (xbin PP .or 5 (kv .u8 128) a40) fun a41 =>
 ob (xcnv PP 21 5 (shr x1)) fun a42 =>
 ob (xbin PP .and 5 a42 (kv .u8 63)) fun a43 =>
 ob (xbin PP .or 5 (kv .u8 128) a43) fun a44 =>
 ob (xlit PP 22 3 [(0, a37), (1, a41), (2, a44)]) fun a45 =>
 ob (xapp 1 x0 a45) fun a46 =>
 f28_ret a46 B))
 (mk (ob (xbin PP .gtr 47 (shr (shr a1)) (kv .u32 65535)) fun a47 =>
 asB (shr a47) fun t48 => br t48 (ob (xbin PP .leq 47 (shr (shr a1)) (kv .u32 1114111)) fun a49 =>
 asB (shr (shr a49)) fun t50 => br t50 (f28_r9 m0 x0 x1 (gcB m0 [x0, x1] B))
 (f28_r2 m0 x0 (gcB m0 [x0] B)))
 (f28_r2 m0 x0 (gcB m0 [x0] B)))))
 (mk (ob (xbin PP .gtr 47 (shr (shr a1)) (kv .u32 65535)) fun a51 =>
 asB (shr a51) fun t52 => br t52 (ob (xbin PP .leq 47 (shr (shr a1)) (kv .u32 1114111)) fun a53 =>
 asB (shr (shr a53)) fun t54 => br t54 (f28_r9 m0 x0 x1 (gcB m0 [x0, x1] B))
 (f28_r2 m0 x0 (gcB m0 [x0] B)))
 (f28_r2 m0 x0 (gcB m0 [x0] B)))))))))))) := (E_eq PP XX HH _ _ _).trans (by kernel_rfl)
end Go.Proofs.YtbecmoihajlobaaDoor.N2
end
