/- The functions' equations, by the evaluator. No condition. -/
import Derived.Test.YtbmmhbpalkepeaaEvA
import Derived.Test.YtbmmhbpalkepeaaProg
import Derived.KernelRfl
import Derived.Test.YtbmmhbpalkepeaaExt

section
set_option linter.unusedSimpArgs false
set_option linter.unusedVariables false
namespace Go.Proofs.Ytbmmhbpalkepeaa.N2
open Go Go.Abs
def keepT : FuncId → Nat → Option (List Nat) := fun f r =>
  if f = 3 then (if r = 4 then some [] else if r = 10 then some [] else if r = 12 then some [3, 4, 5, 7, 85, 86] else if r = 15 then some [] else if r = 16 then some [3, 4, 5, 7, 85, 86] else if r = 13 then some [3, 4, 5, 7, 85, 86] else if r = 18 then some [3, 4, 5, 7, 99, 100, 101] else if r = 21 then some [3, 4, 5, 7, 14, 99, 100, 101, 106, 107, 108] else if r = 25 then some [3, 4, 5, 7, 14, 99, 100, 101, 106, 107, 108] else if r = 22 then some [3, 4, 5, 7, 14, 99, 100, 101, 106, 107, 108] else if r = 26 then some [3, 4, 5, 7, 99, 100, 101] else if r = 19 then some [3, 4, 5, 7, 99, 100, 101] else if r = 30 then some [] else if r = 31 then some [4, 17, 19] else if r = 27 then some [3, 4, 5, 7] else if r = 17 then some [3, 4, 5, 7] else if r = 11 then some [3, 4, 5, 7] else if r = 8 then some [3, 4, 5, 7] else if r = 5 then some [3, 4, 5] else if r = 3 then some [3, 4, 5] else none) else
  if f = 4 then (if r = 12 then some [2, 3, 5, 7, 43, 44] else if r = 13 then some [2, 3, 5, 7, 43, 44] else if r = 17 then some [3, 5, 7, 55, 56] else if r = 18 then some [3, 5, 7, 55, 56] else if r = 21 then some [5, 7] else if r = 16 then some [3, 5, 7] else if r = 9 then some [2, 3, 5] else if r = 5 then some [2, 3] else if r = 3 then some [2, 3] else none) else
  if f = 5 then (if r = 11 then some [1, 4, 5, 6, 7] else if r = 5 then some [1] else if r = 3 then some [1] else none) else
  if f = 6 then (if r = 8 then some [] else if r = 11 then some [2, 7, 10, 11, 12, 60, 61, 62] else if r = 15 then some [2, 7, 10, 11, 12, 60, 61, 62] else if r = 12 then some [2, 7, 10, 11, 12, 60, 61, 62] else if r = 16 then some [7, 10, 11, 12] else if r = 9 then some [2, 3, 7, 10] else if r = 5 then some [2, 3, 4] else if r = 3 then some [2, 3, 4] else none) else
  if f = 7 then (if r = 4 then some [] else if r = 18 then some [3, 10, 11, 12, 13, 15, 17, 18] else if r = 10 then some [2, 3, 5, 6, 9] else if r = 5 then some [2, 3] else if r = 3 then some [2, 3] else none) else
  if f = 8 then (if r = 4 then some [] else if r = 7 then some [5, 6] else if r = 10 then some [] else if r = 13 then some [2, 3, 5, 9, 78, 79, 80] else if r = 17 then some [] else if r = 18 then some [2, 3, 5, 11, 78, 79, 80] else if r = 19 then some [2, 3, 5, 9, 78, 79, 80] else if r = 14 then some [2, 3, 5, 9, 78, 79, 80] else if r = 22 then some [2, 3, 5, 9, 107, 108, 109] else if r = 26 then some [2, 3, 5, 15, 107, 108, 109] else if r = 27 then some [2, 3, 5, 9, 107, 108, 109] else if r = 23 then some [2, 3, 5, 9, 107, 108, 109] else if r = 28 then some [2, 3, 5] else if r = 20 then some [2, 3, 5] else if r = 11 then some [2, 3, 5] else if r = 8 then some [2, 3, 5, 6] else if r = 5 then some [2, 3] else if r = 3 then some [2, 3] else none) else
  if f = 9 then (if r = 12 then some [6, 34, 35, 36] else if r = 16 then some [6, 34, 35, 36] else if r = 13 then some [6, 34, 35, 36] else if r = 17 then some [] else if r = 11 then some [5, 6] else if r = 8 then some [1, 2, 5] else if r = 5 then some [1, 2] else if r = 3 then some [1, 2] else none) else
  if f = 12 then (if r = 9 then some [4] else if r = 14 then some [3, 4, 6, 7, 54, 55, 56] else if r = 15 then some [3, 4, 6, 7, 54, 55, 56] else if r = 19 then some [3, 4, 6, 7, 66, 67, 68] else if r = 24 then some [3, 4, 6, 7, 11, 66, 67, 68] else if r = 25 then some [3, 4, 6, 7, 66, 67, 68] else if r = 20 then some [3, 4, 6, 7, 66, 67, 68] else if r = 27 then some [4, 6, 7, 85, 86, 87] else if r = 28 then some [4, 6, 7, 85, 86, 87] else if r = 35 then some [4, 6, 7, 103, 104, 105] else if r = 36 then some [4, 6, 7, 103, 104, 105] else if r = 39 then some [4, 6] else if r = 33 then some [4, 6, 7] else if r = 31 then some [4, 6, 7] else if r = 26 then some [3, 4, 6, 7] else if r = 18 then some [3, 4, 6, 7] else if r = 12 then some [2, 3, 4, 6] else if r = 10 then some [2, 3, 4, 6] else if r = 3 then some [2, 3, 4] else none) else
  if f = 13 then (if r = 2 then some [] else if r = 4 then some [2, 3, 5] else if r = 5 then some [2, 3, 5] else if r = 6 then some [2, 3, 5] else if r = 8 then some [] else if r = 3 then some [2, 3] else none) else
  if f = 14 then (if r = 3 then some [2, 3, 16, 17, 18] else if r = 4 then some [2, 3, 16, 17, 18] else if r = 7 then some [2, 3] else none) else
  if f = 15 then (if r = 3 then some [3, 11, 12, 13] else if r = 4 then some [3, 11, 12, 13] else if r = 7 then some [3] else none) else
  if f = 16 then (if r = 2 then some [] else if r = 5 then some [3, 16, 17, 18] else if r = 8 then some [] else if r = 9 then some [5, 16, 17, 18] else if r = 10 then some [3, 16, 17, 18] else if r = 6 then some [3, 16, 17, 18] else if r = 11 then some [] else if r = 3 then some [1] else none) else
  if f = 17 then (if r = 7 then some [2, 3, 4, 6, 7] else if r = 8 then some [2, 3, 4, 6, 7] else if r = 9 then some [2, 3, 4, 6, 7] else if r = 14 then some [2, 3, 4, 6, 8] else if r = 15 then some [2, 3, 4, 6, 8] else if r = 16 then some [2, 3, 4, 6, 8] else if r = 19 then some [2, 3, 4, 6, 9] else if r = 23 then some [2, 3, 4, 6, 9, 10, 11] else if r = 25 then some [2, 3, 4, 6, 9, 10, 11] else if r = 26 then some [2, 3, 4, 6, 9, 10] else if r = 20 then some [2, 3, 4, 6, 9] else if r = 21 then some [2, 3, 4, 6, 9] else if r = 29 then some [3, 4, 6, 12] else if r = 31 then some [3, 4, 6, 12] else if r = 34 then some [4, 6] else if r = 32 then some [4, 6] else if r = 28 then some [3, 4, 6] else if r = 18 then some [2, 3, 4, 6] else if r = 13 then some [2, 3, 4, 6] else if r = 11 then some [2, 3, 4, 6] else if r = 6 then some [2, 3, 4, 6] else if r = 3 then some [2, 3, 4] else none) else
  if f = 18 then (if r = 3 then some [2, 3, 18, 19, 20] else if r = 4 then some [2, 3, 18, 19, 20] else if r = 7 then some [2, 3] else none) else
  if f = 19 then (if r = 2 then some [] else if r = 4 then some [1, 3] else if r = 7 then some [] else if r = 5 then some [1, 3] else if r = 6 then some [1, 3] else if r = 8 then some [] else if r = 3 then some [1] else none) else
  if f = 20 then (if r = 2 then some [1, 4, 9, 10, 11] else if r = 6 then some [1, 4, 9, 10, 11] else if r = 3 then some [1, 4, 9, 10, 11] else if r = 7 then some [4] else none) else
  if f = 22 then (if r = 2 then some [4] else if r = 5 then some [2, 3, 4, 6, 46, 47, 48] else if r = 9 then some [2, 3, 4, 6, 8, 46, 47, 48] else if r = 10 then some [2, 3, 4, 6, 46, 47, 48] else if r = 6 then some [2, 3, 4, 6, 46, 47, 48] else if r = 12 then some [3, 4, 6, 74, 75, 76] else if r = 17 then some [3, 4, 6, 74, 75, 76] else if r = 13 then some [3, 4, 6, 74, 75, 76] else if r = 18 then some [4, 6] else if r = 11 then some [2, 3, 4, 6] else if r = 3 then some [2, 3, 4] else none) else
  if f = 23 then (if r = 5 then some [1, 2, 5, 12, 13, 14] else if r = 9 then some [1, 2, 5, 12, 13, 14] else if r = 6 then some [1, 2, 5, 12, 13, 14] else if r = 10 then some [2, 5] else if r = 3 then some [1, 2] else none) else
  if f = 24 then (if r = 3 then some [1, 2, 5, 6] else if r = 6 then some [1, 2, 5, 6, 7] else if r = 9 then some [1, 2, 5, 6, 7] else if r = 7 then some [1, 2, 5, 6, 7] else if r = 8 then some [1, 2, 5, 6, 7] else if r = 4 then some [1, 2, 5, 6] else if r = 5 then some [1, 2, 5, 6] else if r = 10 then some [5] else none) else
  if f = 32 then (if r = 3 then some [0] else none) else
  if f = 35 then (if r = 3 then some [1, 3, 4] else if r = 5 then some [1, 3, 4] else if r = 8 then some [3, 5] else if r = 11 then some [3, 5, 6] else if r = 12 then some [3, 5, 6] else if r = 13 then some [3, 5, 6] else if r = 9 then some [3, 5] else if r = 10 then some [3, 5] else if r = 15 then some [] else if r = 6 then some [1, 3] else none) else
  if f = 36 then (if r = 2 then some [0, 1, 5] else if r = 3 then some [0, 1, 5] else if r = 4 then some [0, 1, 5] else if r = 6 then some [] else none) else
  if f = 37 then (if r = 4 then some [0, 3, 5, 6, 7] else if r = 7 then some [0, 3, 5, 7] else if r = 9 then some [0, 3, 5, 6, 7] else if r = 5 then some [0, 3, 5, 6, 7] else if r = 6 then some [0, 3, 5, 6, 7] else if r = 13 then some [5] else if r = 11 then some [3, 5, 6] else none) else
  if f = 38 then (if r = 3 then some [1] else none) else
  if f = 41 then (if r = 6 then some [] else if r = 13 then some [] else if r = 11 then some [0, 1] else if r = 9 then some [0, 1] else if r = 7 then some [0, 1, 6] else none) else
  if f = 52 then (if r = 2 then some [0, 1, 7, 8] else if r = 6 then some [0, 1, 7, 8] else if r = 3 then some [0, 1, 7, 8] else if r = 7 then some [] else none) else
  if f = 53 then (if r = 2 then some [0, 1, 7, 8] else if r = 6 then some [0, 1, 7, 8] else if r = 3 then some [0, 1, 7, 8] else if r = 7 then some [] else none) else
  none
def ownT : FuncId → List Nat := fun f =>
  if f = 12 then [110] else
  if f = 14 then [23] else
  if f = 15 then [3, 17] else
  if f = 17 then [109] else
  if f = 18 then [25] else
  if f = 22 then [67, 90] else
  if f = 23 then [5, 24] else
  if f = 24 then [5, 38] else
  if f = 35 then [3, 14, 23] else
  if f = 37 then [5, 26, 38, 47] else
  []
def rawT : FuncId → Bool := fun f => false
def HH : Hints := ⟨keepT, ownT, rawT⟩
def XX : FuncId → Option (List AV → List Row → Option Res) := fun f => if f = 30 then some xSorted else if f = 39 then some xStable else none
noncomputable abbrev PP : Program := Try.prog
noncomputable abbrev EE : GF := E PP XX HH
noncomputable abbrev LL : LF := L PP XX HH
end Go.Proofs.Ytbmmhbpalkepeaa.N2
end

section
set_option linter.unusedSimpArgs false
set_option linter.unusedVariables false
namespace Go.Proofs.Ytbmmhbpalkepeaa.N2
open Go Go.Abs
set_option linter.unusedVariables false
set_option maxRecDepth 100000
/-! "colander/colanderlaw07.RuleTwice" -/
noncomputable def f3_c : Code := bodyOf Try.f3
def f3_ret (r0 : AV) (B : List Row) : Option Res :=
 ob (ob (some r0) fun v => ob (some []) fun vs => some (v :: vs)) fun vs => some ((nrmA (match vs with | [v] => v | vs => mkTup (vs.map shr))), B)
noncomputable def f3_k0 (m0 : Nat) : Kont := kret PP HH 3 Try.f3.results
noncomputable def f3_k1 (m0 : Nat) : Kont := kseq HH 3 m0 (l2 (l2 (l2 f3_c))) (exec PP HH 3 m0 EE LL (l2 (l2 (l2 f3_c))) (f3_k0 m0)) (f3_k0 m0)
noncomputable def f3_k2 (m0 : Nat) : Kont := kseq HH 3 m0 (l2 (l2 (l2 (l2 (l2 (l2 f3_c)))))) (exec PP HH 3 m0 EE LL (l2 (l2 (l2 (l2 (l2 (l2 f3_c)))))) (f3_k0 m0)) (f3_k0 m0)
noncomputable def f3_k3 (m0 : Nat) : Kont := kseq HH 3 m0 (l2 (l2 (l2 (l2 (l2 (l2 (l2 f3_c))))))) (exec PP HH 3 m0 EE LL (l2 (l2 (l2 (l2 (l2 (l2 (l2 f3_c))))))) (f3_k0 m0)) (f3_k0 m0)
noncomputable def f3_k4 (m0 : Nat) : Kont := kblk 0 (f3_k3 m0)
noncomputable def f3_k5 (m0 : Nat) : Kont := kloop HH 3 m0 (l1 (l1 (l2 (l1 (l2 (l2 (l2 (l2 (l2 (l2 f3_c)))))))))) (LL 3 m0 (l1 (l1 (l2 (l1 (l2 (l2 (l2 (l2 (l2 (l2 f3_c)))))))))) (f3_k4 m0)) (f3_k4 m0)
noncomputable def f3_k6 (m0 : Nat) : Kont := kseq HH 3 m0 (l2 (l2 (l2 (l1 (l1 (l2 (l1 (l2 (l2 (l2 (l2 (l2 (l2 f3_c))))))))))))) (exec PP HH 3 m0 EE LL (l2 (l2 (l2 (l1 (l1 (l2 (l1 (l2 (l2 (l2 (l2 (l2 (l2 f3_c))))))))))))) (f3_k5 m0)) (f3_k5 m0)
noncomputable def f3_k7 (m0 : Nat) : Kont := kblk 1 (f3_k6 m0)
noncomputable def f3_k8 (m0 : Nat) : Kont := kseq HH 3 m0 (l2 (l2 (l2 (l2 (l2 (l2 (l2 (l2 f3_c)))))))) (exec PP HH 3 m0 EE LL (l2 (l2 (l2 (l2 (l2 (l2 (l2 (l2 f3_c)))))))) (f3_k0 m0)) (f3_k0 m0)
noncomputable def f3_k9 (m0 : Nat) : Kont := kblk 2 (f3_k8 m0)
noncomputable def f3_k10 (m0 : Nat) : Kont := kloop HH 3 m0 (l1 (l1 (l2 (l1 (l2 (l2 (l2 (l2 (l2 (l2 (l2 f3_c))))))))))) (LL 3 m0 (l1 (l1 (l2 (l1 (l2 (l2 (l2 (l2 (l2 (l2 (l2 f3_c))))))))))) (f3_k9 m0)) (f3_k9 m0)
noncomputable def f3_k11 (m0 : Nat) : Kont := kseq HH 3 m0 (l2 (l2 (l2 (l1 (l1 (l2 (l1 (l2 (l2 (l2 (l2 (l2 (l2 (l2 f3_c)))))))))))))) (exec PP HH 3 m0 EE LL (l2 (l2 (l2 (l1 (l1 (l2 (l1 (l2 (l2 (l2 (l2 (l2 (l2 (l2 f3_c)))))))))))))) (f3_k10 m0)) (f3_k10 m0)
noncomputable def f3_k12 (m0 : Nat) : Kont := kblk 3 (f3_k11 m0)
noncomputable def f3_k13 (m0 : Nat) : Kont := kblk 4 (f3_k12 m0)
noncomputable def f3_k14 (m0 : Nat) : Kont := kseq HH 3 m0 (l2 (l2 (l2 (l2 (l2 (l2 (l2 (l2 (l2 (l2 (l2 f3_c))))))))))) (exec PP HH 3 m0 EE LL (l2 (l2 (l2 (l2 (l2 (l2 (l2 (l2 (l2 (l2 (l2 f3_c))))))))))) (f3_k0 m0)) (f3_k0 m0)
noncomputable def f3_k15 (m0 : Nat) : Kont := kloop HH 3 m0 (l1 (l1 (l2 (l2 (l1 (l1 (l2 (l2 (l1 (l1 (l2 (l1 (l2 (l2 (l2 (l2 (l2 (l2 (l2 f3_c))))))))))))))))))) (LL 3 m0 (l1 (l1 (l2 (l2 (l1 (l1 (l2 (l2 (l1 (l1 (l2 (l1 (l2 (l2 (l2 (l2 (l2 (l2 (l2 f3_c))))))))))))))))))) (f3_k13 m0)) (f3_k13 m0)
noncomputable def f3_r3 (m0 : Nat) (x3 x4 x5 : AV) (B : List Row) : Option Res := exec PP HH 3 m0 EE LL (l2 (l2 f3_c)) (f3_k0 m0) [(3, x3), (4, x4), (5, x5)] B
noncomputable def f3_r4 (m0 : Nat) (B : List Row) : Option Res := exec PP HH 3 m0 EE LL (l1 (l2 (l1 (l2 (l2 f3_c))))) (f3_k1 m0) [] B
noncomputable def f3_r5 (m0 : Nat) (x3 x4 x5 : AV) (B : List Row) : Option Res := exec PP HH 3 m0 EE LL (l2 (l2 (l2 f3_c))) (f3_k0 m0) [(3, x3), (4, x4), (5, x5)] B
noncomputable def f3_r8 (m0 : Nat) (x3 x4 x5 x7 : AV) (B : List Row) : Option Res := exec PP HH 3 m0 EE LL (l2 (l2 (l2 (l2 (l2 f3_c))))) (f3_k0 m0) [(3, x3), (4, x4), (5, x5), (7, x7)] B
noncomputable def f3_r10 (m0 : Nat) (B : List Row) : Option Res := exec PP HH 3 m0 EE LL (l1 (l2 (l2 (l1 (l2 (l2 (l2 (l2 (l2 f3_c))))))))) (f3_k2 m0) [] B
noncomputable def f3_r11 (m0 : Nat) (x3 x4 x5 x7 : AV) (B : List Row) : Option Res := exec PP HH 3 m0 EE LL (l2 (l2 (l2 (l2 (l2 (l2 f3_c)))))) (f3_k0 m0) [(3, x3), (4, x4), (5, x5), (7, x7)] B
noncomputable def f3_l12 (m0 : Nat) (x3 x4 x5 x7 x85 x86 : AV) (B : List Row) : Option Res := lp (LL 3 m0 (l1 (l1 (l2 (l1 (l2 (l2 (l2 (l2 (l2 (l2 f3_c)))))))))) (f3_k4 m0) [(3, x3), (4, x4), (5, x5), (7, x7), (85, x85), (86, x86)] B)
noncomputable def f3_r13 (m0 : Nat) (x3 x4 x5 x7 x85 x86 : AV) (B : List Row) : Option Res := exec PP HH 3 m0 EE LL (l2 (l2 (l1 (l1 (l2 (l1 (l2 (l2 (l2 (l2 (l2 (l2 f3_c)))))))))))) (f3_k5 m0) [(3, x3), (4, x4), (5, x5), (7, x7), (85, x85), (86, x86)] B
noncomputable def f3_r17 (m0 : Nat) (x3 x4 x5 x7 : AV) (B : List Row) : Option Res := exec PP HH 3 m0 EE LL (l2 (l2 (l2 (l2 (l2 (l2 (l2 f3_c))))))) (f3_k0 m0) [(3, x3), (4, x4), (5, x5), (7, x7)] B
noncomputable def f3_r15 (m0 : Nat) (B : List Row) : Option Res := exec PP HH 3 m0 EE LL (l1 (l2 (l2 (l1 (l1 (l2 (l2 (l1 (l1 (l2 (l1 (l2 (l2 (l2 (l2 (l2 (l2 f3_c))))))))))))))))) (f3_k7 m0) [] B
noncomputable def f3_r16 (m0 : Nat) (x3 x4 x5 x7 x85 x86 : AV) (B : List Row) : Option Res := exec PP HH 3 m0 EE LL (l2 (l2 (l2 (l1 (l1 (l2 (l1 (l2 (l2 (l2 (l2 (l2 (l2 f3_c))))))))))))) (f3_k5 m0) [(3, x3), (4, x4), (5, x5), (7, x7), (85, x85), (86, x86)] B
noncomputable def f3_l18 (m0 : Nat) (x3 x4 x5 x7 x99 x100 x101 : AV) (B : List Row) : Option Res := lp (LL 3 m0 (l1 (l1 (l2 (l1 (l2 (l2 (l2 (l2 (l2 (l2 (l2 f3_c))))))))))) (f3_k9 m0) [(3, x3), (4, x4), (5, x5), (7, x7), (99, x99), (100, x100), (101, x101)] B)
noncomputable def f3_r19 (m0 : Nat) (x3 x4 x5 x7 x99 x100 x101 : AV) (B : List Row) : Option Res := exec PP HH 3 m0 EE LL (l2 (l2 (l1 (l1 (l2 (l1 (l2 (l2 (l2 (l2 (l2 (l2 (l2 f3_c))))))))))))) (f3_k10 m0) [(3, x3), (4, x4), (5, x5), (7, x7), (99, x99), (100, x100), (101, x101)] B
noncomputable def f3_r27 (m0 : Nat) (x3 x4 x5 x7 : AV) (B : List Row) : Option Res := exec PP HH 3 m0 EE LL (l2 (l2 (l2 (l2 (l2 (l2 (l2 (l2 f3_c)))))))) (f3_k0 m0) [(3, x3), (4, x4), (5, x5), (7, x7)] B
noncomputable def f3_l21 (m0 : Nat) (x3 x4 x5 x7 x14 x99 x100 x101 x106 x107 x108 : AV) (B : List Row) : Option Res := lp (LL 3 m0 (l1 (l1 (l2 (l2 (l1 (l1 (l2 (l2 (l1 (l1 (l2 (l1 (l2 (l2 (l2 (l2 (l2 (l2 (l2 f3_c))))))))))))))))))) (f3_k13 m0) [(3, x3), (4, x4), (5, x5), (7, x7), (14, x14), (99, x99), (100, x100), (101, x101), (106, x106), (107, x107), (108, x108)] B)
noncomputable def f3_r30 (m0 : Nat) (B : List Row) : Option Res := exec PP HH 3 m0 EE LL (l1 (l2 (l1 (l2 (l2 (l2 (l2 (l2 (l2 (l2 (l2 (l2 (l2 f3_c))))))))))))) (f3_k14 m0) [] B
noncomputable def f3_r31 (m0 : Nat) (x4 x17 x19 : AV) (B : List Row) : Option Res := exec PP HH 3 m0 EE LL (l2 (l2 (l2 (l2 (l2 (l2 (l2 (l2 (l2 (l2 (l2 f3_c))))))))))) (f3_k0 m0) [(4, x4), (17, x17), (19, x19)] B
noncomputable def f3_r22 (m0 : Nat) (x3 x4 x5 x7 x14 x99 x100 x101 x106 x107 x108 : AV) (B : List Row) : Option Res := exec PP HH 3 m0 EE LL (l2 (l2 (l1 (l1 (l2 (l2 (l1 (l1 (l2 (l2 (l1 (l1 (l2 (l1 (l2 (l2 (l2 (l2 (l2 (l2 (l2 f3_c))))))))))))))))))))) (f3_k15 m0) [(3, x3), (4, x4), (5, x5), (7, x7), (14, x14), (99, x99), (100, x100), (101, x101), (106, x106), (107, x107), (108, x108)] B
noncomputable def f3_r26 (m0 : Nat) (x3 x4 x5 x7 x99 x100 x101 : AV) (B : List Row) : Option Res := exec PP HH 3 m0 EE LL (l2 (l2 (l2 (l1 (l1 (l2 (l1 (l2 (l2 (l2 (l2 (l2 (l2 (l2 f3_c)))))))))))))) (f3_k10 m0) [(3, x3), (4, x4), (5, x5), (7, x7), (99, x99), (100, x100), (101, x101)] B
noncomputable def f3_r25 (m0 : Nat) (x3 x4 x5 x7 x14 x99 x100 x101 x106 x107 x108 : AV) (B : List Row) : Option Res := exec PP HH 3 m0 EE LL (l2 (l2 (l2 (l1 (l1 (l2 (l2 (l1 (l1 (l2 (l2 (l1 (l1 (l2 (l1 (l2 (l2 (l2 (l2 (l2 (l2 (l2 f3_c)))))))))))))))))))))) (f3_k15 m0) [(3, x3), (4, x4), (5, x5), (7, x7), (14, x14), (99, x99), (100, x100), (101, x101), (106, x106), (107, x107), (108, x108)] B
theorem f3_r3_eq (m0 : Nat) (x3 x4 x5 : AV) (B : List Row) : f3_r3 m0 x3 x4 x5 B =
 mk (ob (ldN true 5 x3 B) fun a11 =>
 ob (ldN true 6 x4 B) fun a12 =>
 callS false EE 11 [a11, a12] B fun a13 B14 =>
 ob (xun PP .not a13) fun a15 =>
 asB (shr a15) fun t16 => br t16 (f3_r4 m0  (gcB m0 [] B14))
 (ob (ldN true 5 x3 B14) fun a17 =>
 ob (ldN true 6 x5 B14) fun a18 =>
 callS false EE 11 [a17, a18] B14 fun a19 B20 =>
 ob (xun PP .not a19) fun a21 =>
 asB (shr a21) fun t22 => br t22 (f3_r4 m0  (gcB m0 [] B20))
 (f3_r5 m0 x3 x4 x5 (gcB m0 [x3, x4, x5] B20)))) := by kernel_rfl
theorem f3_r4_eq (m0 : Nat) (B : List Row) : f3_r4 m0  B =
 mk (f3_ret (bv true) B) := by kernel_rfl
theorem f3_r5_eq (m0 : Nat) (x3 x4 x5 : AV) (B : List Row) : f3_r5 m0 x3 x4 x5 B =
 mk (ob (ldN true 5 x3 B) fun a23 =>
 ob (ldN true 6 x4 B) fun a24 =>
 callS false EE 12 [a23, a24] B fun a25 B26 =>
 ob (xext 0 (shr a25)) fun a27 =>
 ob (xext 1 (shr a25)) fun a28 =>
 bz PP 24 B26 fun a29 B30 =>
 stN 5 a29 (shr a27) B30 fun B31 =>
 mk (ob (xbin PP .neq 30 (shr (shr (shr a28))) (iv 0)) fun a32 =>
 asB a32 fun t33 => br t33 (mk (f3_ret (bv true) B31))
 (f3_r8 m0 x3 x4 x5 a29 (gcB m0 [x3, x4, x5, a29] B31)))) := by kernel_rfl
theorem f3_r8_eq (m0 : Nat) (x3 x4 x5 x7 : AV) (B : List Row) : f3_r8 m0 x3 x4 x5 x7 B =
 mk (ob (ldN true 5 x7 B) fun a34 =>
 ob (ldN true 6 x4 B) fun a35 =>
 callS false EE 12 [a34, a35] B fun a36 B37 =>
 ob (xext 0 (shr a36)) fun a38 =>
 ob (xext 1 (shr a36)) fun a39 =>
 bz PP 24 B37 fun a40 B41 =>
 stN 5 a40 (shr a38) B41 fun B42 =>
 mk (ob (xfld 5 x4) fun a43 =>
 ob (ldN false 1 a43 B42) fun a44 =>
 ob (xlen PP 25 a44) fun a45 =>
 ob (xbin PP .eql 3 a45 (iv 0)) fun a46 =>
 asB (shr a46) fun t47 => br t47 (ob (xbin PP .neq 30 (shr (shr (shr a39))) (iv 0)) fun a48 =>
 asB (shr a48) fun t49 => br t49 (grd (noPtrs [ud, ud]) (f3_r10 m0  (gcB m0 [] B42)))
 (ob (ldN true 5 x7 B42) fun a50 =>
 callS false EE 14 [a50] B42 fun a51 B52 =>
 ob (ldN true 5 a40 B52) fun a53 =>
 callS false EE 14 [a53] B52 fun a54 B55 =>
 callS false EE 13 [a51, a54] B55 fun a56 B57 =>
 ob (xun PP .not a56) fun a58 =>
 grd (noPtrs [a51, a50]) (asB (shr (shr a58)) fun t59 => br t59 (f3_r10 m0  (gcB m0 [] B57))
 (f3_r11 m0 x3 x4 x5 x7 (gcB m0 [x3, x4, x5, x7] B57)))))
 (grd (noPtrs [ud, ud]) (f3_r11 m0 x3 x4 x5 x7 (gcB m0 [x3, x4, x5, x7] B42))))) := by kernel_rfl
theorem f3_r10_eq (m0 : Nat) (B : List Row) : f3_r10 m0  B =
 mk (f3_ret (bv false) B) := by kernel_rfl
theorem f3_r11_eq (m0 : Nat) (x3 x4 x5 x7 : AV) (B : List Row) : f3_r11 m0 x3 x4 x5 x7 B =
 mk (ob (xfld 0 x4) fun a60 =>
 ob (ldN false 1 a60 B) fun a61 =>
 ob (xfld 0 x5) fun a62 =>
 ob (ldN false 1 a62 B) fun a63 =>
 ob (xbuild PP 38 [(0, a61), (1, a63)]) fun a64 =>
 ob (xfld 1 x4) fun a65 =>
 ob (ldN false 1 a65 B) fun a66 =>
 ob (xfld 1 x5) fun a67 =>
 ob (ldN false 1 a67 B) fun a68 =>
 ob (xbuild PP 38 [(0, a66), (1, a68)]) fun a69 =>
 ob (xfld 2 x4) fun a70 =>
 ob (ldN false 1 a70 B) fun a71 =>
 ob (xfld 2 x5) fun a72 =>
 ob (ldN false 1 a72 B) fun a73 =>
 ob (xbuild PP 38 [(0, a71), (1, a73)]) fun a74 =>
 ob (xfld 3 x4) fun a75 =>
 ob (ldN false 1 a75 B) fun a76 =>
 ob (xfld 3 x5) fun a77 =>
 ob (ldN false 1 a77 B) fun a78 =>
 ob (xbuild PP 38 [(0, a76), (1, a78)]) fun a79 =>
 ob (xbuild PP 39 [(0, a64), (1, a69), (2, a74), (3, a79)]) fun a80 =>
 f3_l12 m0 x3 x4 x5 x7 a80 (iv 0) (gcB m0 [x3, x4, x5, x7, a80, (iv 0)] B)) := by kernel_rfl
theorem f3_l12_eq (m0 : Nat) (x3 x4 x5 x7 x85 x86 : AV) (B : List Row) : f3_l12 m0 x3 x4 x5 x7 x85 x86 B =
 mk (ob (xbin PP .lss 3 x86 (iv 4)) fun a81 =>
 asB a81 fun t82 => br t82 (f3_r13 m0 x3 x4 x5 x7 x85 x86 (gcB m0 [x3, x4, x5, x7, x85, x86] B))
 (f3_r17 m0 x3 x4 x5 x7 (gcB m0 [x3, x4, x5, x7] B))) := (L_eq PP XX HH _ _ _ _ _ _).trans (by kernel_rfl)
theorem f3_r13_eq (m0 : Nat) (x3 x4 x5 x7 x85 x86 : AV) (B : List Row) : f3_r13 m0 x3 x4 x5 x7 x85 x86 B =
 mk (ob (xat PP 39 x85 x86) fun a83 =>
 bz PP 38 B fun a84 B85 =>
 stN 2 a84 a83 B85 fun B86 =>
 mk (ob (xaddr 2 1 a84 (iv 0)) fun a87 =>
 ob (ldN false 1 a87 B86) fun a88 =>
 ob (xbin PP .neq 3 a88 (iv (-1))) fun a89 =>
 asB (shr a89) fun t90 => br t90 (ob (xaddr 2 1 a84 (iv 1)) fun a91 =>
 ob (ldN false 1 a91 B86) fun a92 =>
 ob (xbin PP .neq 3 a92 (iv (-1))) fun a93 =>
 asB (shr a93) fun t94 => br t94 (f3_r15 m0  (gcB m0 [] B86))
 (f3_r16 m0 x3 x4 x5 x7 x85 x86 (gcB m0 [x3, x4, x5, x7, x85, x86] B86)))
 (f3_r16 m0 x3 x4 x5 x7 x85 x86 (gcB m0 [x3, x4, x5, x7, x85, x86] B86)))) := by kernel_rfl
theorem f3_r17_eq (m0 : Nat) (x3 x4 x5 x7 : AV) (B : List Row) : f3_r17 m0 x3 x4 x5 x7 B =
 mk (ob (ldN true 6 x4 B) fun a95 =>
 callS false EE 15 [a95] B fun a96 B97 =>
 ob (xlen PP 25 a96) fun a98 =>
 f3_l18 m0 x3 x4 x5 x7 a96 a98 (iv 0) (gcB m0 [x3, x4, x5, x7, a96, a98, (iv 0)] B97)) := by kernel_rfl
theorem f3_r15_eq (m0 : Nat) (B : List Row) : f3_r15 m0  B =
 mk (f3_ret (bv true) B) := by kernel_rfl
theorem f3_r16_eq (m0 : Nat) (x3 x4 x5 x7 x85 x86 : AV) (B : List Row) : f3_r16 m0 x3 x4 x5 x7 x85 x86 B =
 mk (ob (xbin PP .add 3 x86 (iv 1)) fun a99 =>
 f3_l12 m0 x3 x4 x5 x7 x85 (shr a99) (gcB m0 [x3, x4, x5, x7, x85, (shr a99)] B)) := by kernel_rfl
theorem f3_l18_eq (m0 : Nat) (x3 x4 x5 x7 x99 x100 x101 : AV) (B : List Row) : f3_l18 m0 x3 x4 x5 x7 x99 x100 x101 B =
 mk (ob (xbin PP .lss 3 x101 x100) fun a100 =>
 asB a100 fun t101 => br t101 (f3_r19 m0 x3 x4 x5 x7 x99 x100 x101 (gcB m0 [x3, x4, x5, x7, x99, x100, x101] B))
 (f3_r27 m0 x3 x4 x5 x7 (gcB m0 [x3, x4, x5, x7] B))) := (L_eq PP XX HH _ _ _ _ _ _).trans (by kernel_rfl)
theorem f3_r19_eq (m0 : Nat) (x3 x4 x5 x7 x99 x100 x101 : AV) (B : List Row) : f3_r19 m0 x3 x4 x5 x7 x99 x100 x101 B =
 mk (ob (xidx 1 x99 x101) fun a102 =>
 ob (ldN false 1 a102 B) fun a103 =>
 mk (ob (ldN true 6 x5 B) fun a104 =>
 callS false EE 15 [a104] B fun a105 B106 =>
 ob (xlen PP 25 a105) fun a107 =>
 f3_l21 m0 x3 x4 x5 x7 (shr a103) x99 x100 x101 a105 a107 (iv 0) (gcB m0 [x3, x4, x5, x7, (shr a103), x99, x100, x101, a105, a107, (iv 0)] B106))) := by kernel_rfl
theorem f3_r27_eq (m0 : Nat) (x3 x4 x5 x7 : AV) (B : List Row) : f3_r27 m0 x3 x4 x5 x7 B =
 mk (ob (ldN true 5 x7 B) fun a108 =>
 ob (ldN true 6 x5 B) fun a109 =>
 callS false EE 12 [a108, a109] B fun a110 B111 =>
 ob (xext 0 (shr a110)) fun a112 =>
 ob (xext 1 (shr a110)) fun a113 =>
 bz PP 24 B111 fun a114 B115 =>
 stN 5 a114 (shr a112) B115 fun B116 =>
 mk (ob (ldN true 5 x3 B116) fun a117 =>
 ob (ldN true 6 x5 B116) fun a118 =>
 callS false EE 12 [a117, a118] B116 fun a119 B120 =>
 ob (xext 0 (shr a119)) fun a121 =>
 ob (xext 1 (shr a119)) fun a122 =>
 bz PP 24 B120 fun a123 B124 =>
 stN 5 a123 (shr a121) B124 fun B125 =>
 mk (ob (xbin PP .neq 30 (shr (shr (shr a113))) (iv 0)) fun a126 =>
 asB (shr a126) fun t127 => br t127 (f3_r30 m0  (gcB m0 [] B125))
 (ob (xbin PP .neq 30 (shr (shr (shr a122))) (iv 0)) fun a128 =>
 asB (shr a128) fun t129 => br t129 (f3_r30 m0  (gcB m0 [] B125))
 (f3_r31 m0 x4 a114 a123 (gcB m0 [x4, a114, a123] B125)))))) := by kernel_rfl
theorem f3_l21_eq (m0 : Nat) (x3 x4 x5 x7 x14 x99 x100 x101 x106 x107 x108 : AV) (B : List Row) : f3_l21 m0 x3 x4 x5 x7 x14 x99 x100 x101 x106 x107 x108 B =
 mk (ob (xbin PP .lss 3 x108 x107) fun a130 =>
 asB a130 fun t131 => br t131 (f3_r22 m0 x3 x4 x5 x7 x14 x99 x100 x101 x106 x107 x108 (gcB m0 [x3, x4, x5, x7, x14, x99, x100, x101, x106, x107, x108] B))
 (f3_r26 m0 x3 x4 x5 x7 x99 x100 x101 (gcB m0 [x3, x4, x5, x7, x99, x100, x101] B))) := (L_eq PP XX HH _ _ _ _ _ _).trans (by kernel_rfl)
theorem f3_r30_eq (m0 : Nat) (B : List Row) : f3_r30 m0  B =
 mk (f3_ret (bv true) B) := by kernel_rfl
theorem f3_r31_eq (m0 : Nat) (x4 x17 x19 : AV) (B : List Row) : f3_r31 m0 x4 x17 x19 B =
 mk (ob (ldN true 5 x19 B) fun a132 =>
 ob (ldN true 6 x4 B) fun a133 =>
 callS false EE 12 [a132, a133] B fun a134 B135 =>
 ob (xext 0 (shr a134)) fun a136 =>
 ob (xext 1 (shr a134)) fun a137 =>
 bz PP 24 B135 fun a138 B139 =>
 stN 5 a138 (shr a136) B139 fun B140 =>
 mk (ob (xbin PP .neq 30 (shr (shr (shr a137))) (iv 0)) fun a141 =>
 asB (shr a141) fun t142 => br t142 (grd (noPtrs [ud, ud]) (f3_ret (bv true) B140))
 (ob (ldN true 5 x17 B140) fun a143 =>
 callS false EE 14 [a143] B140 fun a144 B145 =>
 ob (ldN true 5 a138 B145) fun a146 =>
 callS false EE 14 [a146] B145 fun a147 B148 =>
 callS false EE 13 [a144, a147] B148 fun a149 B150 =>
 grd (noPtrs [a144, a143]) (f3_ret (shr (shr a149)) B150)))) := by kernel_rfl
theorem f3_r22_eq (m0 : Nat) (x3 x4 x5 x7 x14 x99 x100 x101 x106 x107 x108 : AV) (B : List Row) : f3_r22 m0 x3 x4 x5 x7 x14 x99 x100 x101 x106 x107 x108 B =
 mk (ob (xidx 1 x106 x108) fun a151 =>
 ob (ldN false 1 a151 B) fun a152 =>
 mk (ob (xbin PP .eql 3 (shr x14) (shr (shr a152))) fun a153 =>
 asB a153 fun t154 => br t154 (mk (f3_ret (bv true) B))
 (f3_r25 m0 x3 x4 x5 x7 x14 x99 x100 x101 x106 x107 x108 (gcB m0 [x3, x4, x5, x7, x14, x99, x100, x101, x106, x107, x108] B)))) := by kernel_rfl
theorem f3_r26_eq (m0 : Nat) (x3 x4 x5 x7 x99 x100 x101 : AV) (B : List Row) : f3_r26 m0 x3 x4 x5 x7 x99 x100 x101 B =
 mk (ob (xbin PP .add 3 x101 (iv 1)) fun a155 =>
 f3_l18 m0 x3 x4 x5 x7 x99 x100 (shr a155) (gcB m0 [x3, x4, x5, x7, x99, x100, (shr a155)] B)) := by kernel_rfl
theorem f3_r25_eq (m0 : Nat) (x3 x4 x5 x7 x14 x99 x100 x101 x106 x107 x108 : AV) (B : List Row) : f3_r25 m0 x3 x4 x5 x7 x14 x99 x100 x101 x106 x107 x108 B =
 mk (ob (xbin PP .add 3 x108 (iv 1)) fun a156 =>
 f3_l21 m0 x3 x4 x5 x7 x14 x99 x100 x101 x106 x107 (shr a156) (gcB m0 [x3, x4, x5, x7, x14, x99, x100, x101, x106, x107, (shr a156)] B)) := by kernel_rfl
theorem f3_eq (x0 x1 x2 : AV) (B : List Row) : EE 3 [x0, x1, x2] B =
 (let m0 := B.length
 mk (bx x0 B fun a1 B2 =>
 bx x1 B2 fun a3 B4 =>
 bx x2 B4 fun a5 B6 =>
 mk (callS false EE 10 [] B6 fun a7 B8 =>
 ob (xun PP .not a7) fun a9 =>
 asB a9 fun t10 => br t10 (mk (f3_ret (bv false) B8))
 (f3_r3 m0 a1 a3 a5 (gcB m0 [a1, a3, a5] B8))))) := (E_eq PP XX HH _ _ _).trans (by kernel_rfl)
/-! "colander/colanderlaw07.RuleOwn" -/
noncomputable def f4_c : Code := bodyOf Try.f4
def f4_ret (r0 : AV) (B : List Row) : Option Res :=
 ob (ob (some r0) fun v => ob (some []) fun vs => some (v :: vs)) fun vs => some ((nrmA (match vs with | [v] => v | vs => mkTup (vs.map shr))), B)
noncomputable def f4_k0 (m0 : Nat) : Kont := kret PP HH 4 Try.f4.results
noncomputable def f4_k1 (m0 : Nat) : Kont := kseq HH 4 m0 (l2 (l2 (l2 (l2 (l2 (l2 (l2 (l2 (l2 f4_c))))))))) (exec PP HH 4 m0 EE LL (l2 (l2 (l2 (l2 (l2 (l2 (l2 (l2 (l2 f4_c))))))))) (f4_k0 m0)) (f4_k0 m0)
noncomputable def f4_k2 (m0 : Nat) : Kont := kblk 0 (f4_k1 m0)
noncomputable def f4_k3 (m0 : Nat) : Kont := kloop HH 4 m0 (l1 (l1 (l2 (l1 (l2 (l2 (l2 (l2 (l2 (l2 (l2 (l2 f4_c)))))))))))) (LL 4 m0 (l1 (l1 (l2 (l1 (l2 (l2 (l2 (l2 (l2 (l2 (l2 (l2 f4_c)))))))))))) (f4_k2 m0)) (f4_k2 m0)
noncomputable def f4_k4 (m0 : Nat) : Kont := kseq HH 4 m0 (l2 (l2 (l2 (l2 (l2 (l2 (l2 (l2 (l2 (l2 f4_c)))))))))) (exec PP HH 4 m0 EE LL (l2 (l2 (l2 (l2 (l2 (l2 (l2 (l2 (l2 (l2 f4_c)))))))))) (f4_k0 m0)) (f4_k0 m0)
noncomputable def f4_k5 (m0 : Nat) : Kont := kblk 2 (f4_k4 m0)
noncomputable def f4_k6 (m0 : Nat) : Kont := kloop HH 4 m0 (l1 (l1 (l2 (l1 (l2 (l2 (l2 (l2 (l2 (l2 (l2 (l2 (l2 f4_c))))))))))))) (LL 4 m0 (l1 (l1 (l2 (l1 (l2 (l2 (l2 (l2 (l2 (l2 (l2 (l2 (l2 f4_c))))))))))))) (f4_k5 m0)) (f4_k5 m0)
noncomputable def f4_r3 (m0 : Nat) (x2 x3 : AV) (B : List Row) : Option Res := exec PP HH 4 m0 EE LL (l2 (l2 f4_c)) (f4_k0 m0) [(2, x2), (3, x3)] B
noncomputable def f4_r5 (m0 : Nat) (x2 x3 : AV) (B : List Row) : Option Res := exec PP HH 4 m0 EE LL (l2 (l2 (l2 f4_c))) (f4_k0 m0) [(2, x2), (3, x3)] B
noncomputable def f4_r9 (m0 : Nat) (x2 x3 x5 : AV) (B : List Row) : Option Res := exec PP HH 4 m0 EE LL (l2 (l2 (l2 (l2 (l2 (l2 f4_c)))))) (f4_k0 m0) [(2, x2), (3, x3), (5, x5)] B
noncomputable def f4_l12 (m0 : Nat) (x2 x3 x5 x7 x43 x44 : AV) (B : List Row) : Option Res := lp (LL 4 m0 (l1 (l1 (l2 (l1 (l2 (l2 (l2 (l2 (l2 (l2 (l2 (l2 f4_c)))))))))))) (f4_k2 m0) [(2, x2), (3, x3), (5, x5), (7, x7), (43, x43), (44, x44)] B)
noncomputable def f4_r13 (m0 : Nat) (x2 x3 x5 x7 x43 x44 : AV) (B : List Row) : Option Res := exec PP HH 4 m0 EE LL (l2 (l2 (l1 (l1 (l2 (l1 (l2 (l2 (l2 (l2 (l2 (l2 (l2 (l2 f4_c)))))))))))))) (f4_k3 m0) [(2, x2), (3, x3), (5, x5), (7, x7), (43, x43), (44, x44)] B
noncomputable def f4_r16 (m0 : Nat) (x3 x5 x7 : AV) (B : List Row) : Option Res := exec PP HH 4 m0 EE LL (l2 (l2 (l2 (l2 (l2 (l2 (l2 (l2 (l2 f4_c))))))))) (f4_k0 m0) [(3, x3), (5, x5), (7, x7)] B
noncomputable def f4_l17 (m0 : Nat) (x3 x5 x7 x55 x56 : AV) (B : List Row) : Option Res := lp (LL 4 m0 (l1 (l1 (l2 (l1 (l2 (l2 (l2 (l2 (l2 (l2 (l2 (l2 (l2 f4_c))))))))))))) (f4_k5 m0) [(3, x3), (5, x5), (7, x7), (55, x55), (56, x56)] B)
noncomputable def f4_r18 (m0 : Nat) (x3 x5 x7 x55 x56 : AV) (B : List Row) : Option Res := exec PP HH 4 m0 EE LL (l2 (l2 (l1 (l1 (l2 (l1 (l2 (l2 (l2 (l2 (l2 (l2 (l2 (l2 (l2 f4_c))))))))))))))) (f4_k6 m0) [(3, x3), (5, x5), (7, x7), (55, x55), (56, x56)] B
noncomputable def f4_r21 (m0 : Nat) (x5 x7 : AV) (B : List Row) : Option Res := exec PP HH 4 m0 EE LL (l2 (l2 (l2 (l2 (l2 (l2 (l2 (l2 (l2 (l2 f4_c)))))))))) (f4_k0 m0) [(5, x5), (7, x7)] B
theorem f4_r3_eq (m0 : Nat) (x2 x3 : AV) (B : List Row) : f4_r3 m0 x2 x3 B =
 mk (ob (ldN true 5 x2 B) fun a9 =>
 ob (ldN true 6 x3 B) fun a10 =>
 callS false EE 11 [a9, a10] B fun a11 B12 =>
 ob (xun PP .not a11) fun a13 =>
 asB a13 fun t14 => br t14 (mk (f4_ret (bv true) B12))
 (f4_r5 m0 x2 x3 (gcB m0 [x2, x3] B12))) := by kernel_rfl
theorem f4_r5_eq (m0 : Nat) (x2 x3 : AV) (B : List Row) : f4_r5 m0 x2 x3 B =
 mk (ob (xlit PP 22 0 []) fun a15 =>
 ob (xfld 4 x2) fun a16 =>
 ob (ldN false 1 a16 B) fun a17 =>
 ob (xapp 5 a15 a17) fun a18 =>
 ob (xlit PP 22 0 []) fun a19 =>
 ob (xfld 4 x3) fun a20 =>
 ob (ldN false 1 a20 B) fun a21 =>
 ob (xapp 5 a19 a21) fun a22 =>
 ob (xfld 4 x2) fun a23 =>
 stN 1 a23 a18 B fun B24 =>
 ob (xfld 4 x3) fun a25 =>
 stN 1 a25 a22 B24 fun B26 =>
 mk (ob (ldN true 5 x2 B26) fun a27 =>
 ob (ldN true 6 x3 B26) fun a28 =>
 callS false EE 12 [a27, a28] B26 fun a29 B30 =>
 ob (xext 0 (shr a29)) fun a31 =>
 ob (xext 1 (shr a29)) fun a32 =>
 bz PP 24 B30 fun a33 B34 =>
 stN 5 a33 (shr a31) B34 fun B35 =>
 mk (ob (xbin PP .neq 30 (shr (shr (shr a32))) (iv 0)) fun a36 =>
 asB a36 fun t37 => br t37 (mk (f4_ret (bv true) B35))
 (f4_r9 m0 x2 x3 a33 (gcB m0 [x2, x3, a33] B35))))) := by kernel_rfl
theorem f4_r9_eq (m0 : Nat) (x2 x3 x5 : AV) (B : List Row) : f4_r9 m0 x2 x3 x5 B =
 mk (ob (ldN true 5 x5 B) fun a38 =>
 callS false EE 14 [a38] B fun a39 B40 =>
 bz PP 36 B40 fun a41 B42 =>
 stN 5 a41 a39 B42 fun B43 =>
 mk (ob (xlit PP 34 0 []) fun a44 =>
 ob (xfld 4 a41) fun a45 =>
 ob (ldN false 1 a45 B43) fun a46 =>
 ob (xapp 5 a44 a46) fun a47 =>
 ob (xfld 4 a41) fun a48 =>
 stN 1 a48 a47 B43 fun B49 =>
 mk (ob (xfld 4 x2) fun a50 =>
 ob (ldN false 1 a50 B49) fun a51 =>
 ob (xlen PP 22 a51) fun a52 =>
 f4_l12 m0 x2 x3 x5 a41 a52 (iv 0) (gcB m0 [x2, x3, x5, a41, a52, (iv 0)] B49)))) := by kernel_rfl
theorem f4_l12_eq (m0 : Nat) (x2 x3 x5 x7 x43 x44 : AV) (B : List Row) : f4_l12 m0 x2 x3 x5 x7 x43 x44 B =
 mk (ob (xbin PP .lss 3 x44 x43) fun a53 =>
 asB a53 fun t54 => br t54 (f4_r13 m0 x2 x3 x5 x7 x43 x44 (gcB m0 [x2, x3, x5, x7, x43, x44] B))
 (f4_r16 m0 x3 x5 x7 (gcB m0 [x3, x5, x7] B))) := (L_eq PP XX HH _ _ _ _ _ _).trans (by kernel_rfl)
theorem f4_r13_eq (m0 : Nat) (x2 x3 x5 x7 x43 x44 : AV) (B : List Row) : f4_r13 m0 x2 x3 x5 x7 x43 x44 B =
 mk (mk (ob (xfld 4 x2) fun a55 =>
 ob (ldN false 1 a55 B) fun a56 =>
 ob (xidx 5 a56 (shr (shr (shr x44)))) fun a57 =>
 ob (xfld 2 a57) fun a58 =>
 stN 1 a58 (iv (-1)) B fun B59 =>
 mk (ob (xbin PP .add 3 x44 (iv 1)) fun a60 =>
 f4_l12 m0 x2 x3 x5 x7 x43 (shr a60) (gcB m0 [x2, x3, x5, x7, x43, (shr a60)] B59)))) := by kernel_rfl
theorem f4_r16_eq (m0 : Nat) (x3 x5 x7 : AV) (B : List Row) : f4_r16 m0 x3 x5 x7 B =
 mk (ob (xfld 4 x3) fun a61 =>
 ob (ldN false 1 a61 B) fun a62 =>
 ob (xlen PP 22 a62) fun a63 =>
 f4_l17 m0 x3 x5 x7 a63 (iv 0) (gcB m0 [x3, x5, x7, a63, (iv 0)] B)) := by kernel_rfl
theorem f4_l17_eq (m0 : Nat) (x3 x5 x7 x55 x56 : AV) (B : List Row) : f4_l17 m0 x3 x5 x7 x55 x56 B =
 mk (ob (xbin PP .lss 3 x56 x55) fun a64 =>
 asB a64 fun t65 => br t65 (f4_r18 m0 x3 x5 x7 x55 x56 (gcB m0 [x3, x5, x7, x55, x56] B))
 (f4_r21 m0 x5 x7 (gcB m0 [x5, x7] B))) := (L_eq PP XX HH _ _ _ _ _ _).trans (by kernel_rfl)
theorem f4_r18_eq (m0 : Nat) (x3 x5 x7 x55 x56 : AV) (B : List Row) : f4_r18 m0 x3 x5 x7 x55 x56 B =
 mk (mk (ob (xfld 4 x3) fun a66 =>
 ob (ldN false 1 a66 B) fun a67 =>
 ob (xidx 5 a67 (shr (shr (shr x56)))) fun a68 =>
 ob (xfld 2 a68) fun a69 =>
 stN 1 a69 (iv (-1)) B fun B70 =>
 mk (ob (xbin PP .add 3 x56 (iv 1)) fun a71 =>
 f4_l17 m0 x3 x5 x7 x55 (shr a71) (gcB m0 [x3, x5, x7, x55, (shr a71)] B70)))) := by kernel_rfl
theorem f4_r21_eq (m0 : Nat) (x5 x7 : AV) (B : List Row) : f4_r21 m0 x5 x7 B =
 mk (ob (ldN true 5 x7 B) fun a72 =>
 ob (ldN true 5 x5 B) fun a73 =>
 callS false EE 14 [a73] B fun a74 B75 =>
 callS false EE 13 [a72, a74] B75 fun a76 B77 =>
 grd (noPtrs [a74, a73]) (f4_ret (shr a76) B77)) := by kernel_rfl
theorem f4_eq (x0 x1 : AV) (B : List Row) : EE 4 [x0, x1] B =
 (let m0 := B.length
 mk (bx x0 B fun a1 B2 =>
 bx x1 B2 fun a3 B4 =>
 mk (callS false EE 10 [] B4 fun a5 B6 =>
 ob (xun PP .not a5) fun a7 =>
 asB a7 fun t8 => br t8 (mk (f4_ret (bv false) B6))
 (f4_r3 m0 a1 a3 (gcB m0 [a1, a3] B6))))) := (E_eq PP XX HH _ _ _).trans (by kernel_rfl)
/-! "colander/colanderlaw07.RuleKeeps" -/
noncomputable def f5_c : Code := bodyOf Try.f5
def f5_ret (r0 : AV) (B : List Row) : Option Res :=
 ob (ob (some r0) fun v => ob (some []) fun vs => some (v :: vs)) fun vs => some ((nrmA (match vs with | [v] => v | vs => mkTup (vs.map shr))), B)
noncomputable def f5_k0 (m0 : Nat) : Kont := kret PP HH 5 Try.f5.results
noncomputable def f5_r3 (m0 : Nat) (x1 : AV) (B : List Row) : Option Res := exec PP HH 5 m0 EE LL (l2 (l2 f5_c)) (f5_k0 m0) [(1, x1)] B
noncomputable def f5_r5 (m0 : Nat) (x1 : AV) (B : List Row) : Option Res := exec PP HH 5 m0 EE LL (l2 (l2 (l2 f5_c))) (f5_k0 m0) [(1, x1)] B
noncomputable def f5_r11 (m0 : Nat) (x1 x4 x5 x6 x7 : AV) (B : List Row) : Option Res := exec PP HH 5 m0 EE LL (l2 (l2 (l2 (l2 (l2 (l2 (l2 (l2 f5_c)))))))) (f5_k0 m0) [(1, x1), (4, x4), (5, x5), (6, x6), (7, x7)] B
theorem f5_r3_eq (m0 : Nat) (x1 : AV) (B : List Row) : f5_r3 m0 x1 B =
 mk (ob (xfld 4 x1) fun a7 =>
 ob (ldN false 1 a7 B) fun a8 =>
 ob (xlen PP 22 a8) fun a9 =>
 ob (xbin PP .gtr 3 a9 (iv 40)) fun a10 =>
 asB a10 fun t11 => br t11 (mk (f5_ret (bv true) B))
 (f5_r5 m0 x1 (gcB m0 [x1] B))) := by kernel_rfl
theorem f5_r5_eq (m0 : Nat) (x1 : AV) (B : List Row) : f5_r5 m0 x1 B =
 mk (ob (xbuild PP 27 [(0, (iv (-1))), (1, (iv (-1))), (2, (iv (-1))), (3, (iv (-1)))]) fun a12 =>
 bz PP 27 B fun a13 B14 =>
 stN 6 a13 a12 B14 fun B15 =>
 mk (ob (ldN true 5 x1 B15) fun a16 =>
 ob (ldN true 6 a13 B15) fun a17 =>
 callS false EE 12 [a16, a17] B15 fun a18 B19 =>
 ob (xext 0 (shr a18)) fun a20 =>
 ob (xext 1 (shr a18)) fun a21 =>
 bz PP 24 B19 fun a22 B23 =>
 stN 5 a22 (shr a20) B23 fun B24 =>
 mk (ob (xfld 4 x1) fun a25 =>
 ob (ldN false 1 a25 B24) fun a26 =>
 ob (xfld 4 a13) fun a27 =>
 stN 1 a27 a26 B24 fun B28 =>
 mk (ob (ldN true 5 x1 B28) fun a29 =>
 ob (ldN true 6 a13 B28) fun a30 =>
 callS false EE 12 [a29, a30] B28 fun a31 B32 =>
 ob (xext 0 (shr a31)) fun a33 =>
 ob (xext 1 (shr a31)) fun a34 =>
 bz PP 24 B32 fun a35 B36 =>
 stN 5 a35 (shr a33) B36 fun B37 =>
 mk (ob (ldN true 5 x1 B37) fun a38 =>
 callS false EE 16 [a38] B37 fun a39 B40 =>
 ob (xun PP .not a39) fun a41 =>
 asB a41 fun t42 => br t42 (mk (ob (xbin PP .eql 30 (shr (shr (shr a21))) (iv 10)) fun a43 =>
 asB (shr a43) fun t44 => br t44 (ob (xbin PP .eql 30 (shr (shr (shr a34))) (iv 10)) fun a45 =>
 f5_ret (shr (shr a45)) B40)
 (f5_ret (bv false) B40)))
 (f5_r11 m0 x1 a22 (shr (shr a21)) a35 (shr (shr a34)) (gcB m0 [x1, a22, (shr (shr a21)), a35, (shr (shr a34))] B40))))))) := by kernel_rfl
theorem f5_r11_eq (m0 : Nat) (x1 x4 x5 x6 x7 : AV) (B : List Row) : f5_r11 m0 x1 x4 x5 x6 x7 B =
 mk (ob (ldN true 5 x1 B) fun a46 =>
 callS false EE 14 [a46] B fun a47 B48 =>
 bz PP 36 B48 fun a49 B50 =>
 stN 5 a49 a47 B50 fun B51 =>
 mk (ob (xbin PP .eql 30 (shr x5) (iv 0)) fun a52 =>
 asB (shr a52) fun t53 => br t53 (ob (xbin PP .eql 30 (shr x7) (iv 0)) fun a54 =>
 asB (shr (shr a54)) fun t55 => br t55 (ob (ldN true 5 x4 B51) fun a56 =>
 callS false EE 14 [a56] B51 fun a57 B58 =>
 ob (ldN true 5 a49 B58) fun a59 =>
 callS false EE 13 [a57, a59] B58 fun a60 B61 =>
 asB (shr (shr a60)) fun t62 => br t62 (ob (ldN true 5 x6 B61) fun a63 =>
 callS false EE 14 [a63] B61 fun a64 B65 =>
 ob (ldN true 5 a49 B65) fun a66 =>
 callS false EE 13 [a64, a66] B65 fun a67 B68 =>
 grd (noPtrs [a57, a56]) (grd (noPtrs [a64, a63]) (f5_ret (shr (shr a67)) B68)))
 (grd (noPtrs [a57, a56]) (grd (noPtrs [ud, ud]) (f5_ret (bv false) B61))))
 (grd (noPtrs [ud, ud]) (grd (noPtrs [ud, ud]) (f5_ret (bv false) B51))))
 (grd (noPtrs [ud, ud]) (grd (noPtrs [ud, ud]) (f5_ret (bv false) B51))))) := by kernel_rfl
theorem f5_eq (x0 : AV) (B : List Row) : EE 5 [x0] B =
 (let m0 := B.length
 mk (bx x0 B fun a1 B2 =>
 mk (callS false EE 10 [] B2 fun a3 B4 =>
 ob (xun PP .not a3) fun a5 =>
 asB a5 fun t6 => br t6 (mk (f5_ret (bv false) B4))
 (f5_r3 m0 a1 (gcB m0 [a1] B4))))) := (E_eq PP XX HH _ _ _).trans (by kernel_rfl)
/-! "colander/colanderlaw07.RuleApplies" -/
noncomputable def f6_c : Code := bodyOf Try.f6
def f6_ret (r0 : AV) (B : List Row) : Option Res :=
 ob (ob (some r0) fun v => ob (some []) fun vs => some (v :: vs)) fun vs => some ((nrmA (match vs with | [v] => v | vs => mkTup (vs.map shr))), B)
noncomputable def f6_k0 (m0 : Nat) : Kont := kret PP HH 6 Try.f6.results
noncomputable def f6_k1 (m0 : Nat) : Kont := kseq HH 6 m0 (l2 (l2 (l2 (l2 (l2 (l2 f6_c)))))) (exec PP HH 6 m0 EE LL (l2 (l2 (l2 (l2 (l2 (l2 f6_c)))))) (f6_k0 m0)) (f6_k0 m0)
noncomputable def f6_k2 (m0 : Nat) : Kont := kseq HH 6 m0 (l2 (l2 (l2 (l2 (l2 (l2 (l2 (l2 f6_c)))))))) (exec PP HH 6 m0 EE LL (l2 (l2 (l2 (l2 (l2 (l2 (l2 (l2 f6_c)))))))) (f6_k0 m0)) (f6_k0 m0)
noncomputable def f6_k3 (m0 : Nat) : Kont := kblk 0 (f6_k2 m0)
noncomputable def f6_k4 (m0 : Nat) : Kont := kloop HH 6 m0 (l1 (l1 (l2 (l1 (l2 (l2 (l2 (l2 (l2 (l2 (l2 f6_c))))))))))) (LL 6 m0 (l1 (l1 (l2 (l1 (l2 (l2 (l2 (l2 (l2 (l2 (l2 f6_c))))))))))) (f6_k3 m0)) (f6_k3 m0)
noncomputable def f6_r3 (m0 : Nat) (x2 x3 x4 : AV) (B : List Row) : Option Res := exec PP HH 6 m0 EE LL (l2 (l2 f6_c)) (f6_k0 m0) [(2, x2), (3, x3), (4, x4)] B
noncomputable def f6_r5 (m0 : Nat) (x2 x3 x4 : AV) (B : List Row) : Option Res := exec PP HH 6 m0 EE LL (l2 (l2 (l2 f6_c))) (f6_k0 m0) [(2, x2), (3, x3), (4, x4)] B
noncomputable def f6_r8 (m0 : Nat) (B : List Row) : Option Res := exec PP HH 6 m0 EE LL (l1 (l2 (l1 (l2 (l2 (l2 (l2 (l2 f6_c)))))))) (f6_k1 m0) [] B
noncomputable def f6_r9 (m0 : Nat) (x2 x3 x7 x10 : AV) (B : List Row) : Option Res := exec PP HH 6 m0 EE LL (l2 (l2 (l2 (l2 (l2 (l2 f6_c)))))) (f6_k0 m0) [(2, x2), (3, x3), (7, x7), (10, x10)] B
noncomputable def f6_l11 (m0 : Nat) (x2 x7 x10 x11 x12 x60 x61 x62 : AV) (B : List Row) : Option Res := lp (LL 6 m0 (l1 (l1 (l2 (l1 (l2 (l2 (l2 (l2 (l2 (l2 (l2 f6_c))))))))))) (f6_k3 m0) [(2, x2), (7, x7), (10, x10), (11, x11), (12, x12), (60, x60), (61, x61), (62, x62)] B)
noncomputable def f6_r12 (m0 : Nat) (x2 x7 x10 x11 x12 x60 x61 x62 : AV) (B : List Row) : Option Res := exec PP HH 6 m0 EE LL (l2 (l2 (l1 (l1 (l2 (l1 (l2 (l2 (l2 (l2 (l2 (l2 (l2 f6_c))))))))))))) (f6_k4 m0) [(2, x2), (7, x7), (10, x10), (11, x11), (12, x12), (60, x60), (61, x61), (62, x62)] B
noncomputable def f6_r16 (m0 : Nat) (x7 x10 x11 x12 : AV) (B : List Row) : Option Res := exec PP HH 6 m0 EE LL (l2 (l2 (l2 (l2 (l2 (l2 (l2 (l2 f6_c)))))))) (f6_k0 m0) [(7, x7), (10, x10), (11, x11), (12, x12)] B
noncomputable def f6_r15 (m0 : Nat) (x2 x7 x10 x11 x12 x60 x61 x62 : AV) (B : List Row) : Option Res := exec PP HH 6 m0 EE LL (l2 (l2 (l2 (l1 (l1 (l2 (l1 (l2 (l2 (l2 (l2 (l2 (l2 (l2 f6_c)))))))))))))) (f6_k4 m0) [(2, x2), (7, x7), (10, x10), (11, x11), (12, x12), (60, x60), (61, x61), (62, x62)] B
theorem f6_r3_eq (m0 : Nat) (x2 x3 x4 : AV) (B : List Row) : f6_r3 m0 x2 x3 x4 B =
 mk (ob (ldN true 5 x3 B) fun a9 =>
 ob (ldN true 6 x4 B) fun a10 =>
 callS false EE 11 [a9, a10] B fun a11 B12 =>
 ob (xun PP .not a11) fun a13 =>
 asB a13 fun t14 => br t14 (mk (f6_ret (bv true) B12))
 (f6_r5 m0 x2 x3 x4 (gcB m0 [x2, x3, x4] B12))) := by kernel_rfl
theorem f6_r5_eq (m0 : Nat) (x2 x3 x4 : AV) (B : List Row) : f6_r5 m0 x2 x3 x4 B =
 mk (ob (ldN true 5 x3 B) fun a15 =>
 ob (ldN true 6 x4 B) fun a16 =>
 callS false EE 12 [a15, a16] B fun a17 B18 =>
 ob (xext 0 (shr a17)) fun a19 =>
 ob (xext 1 (shr a17)) fun a20 =>
 bz PP 24 B18 fun a21 B22 =>
 stN 5 a21 (shr a19) B22 fun B23 =>
 mk (ob (ldN true 5 x3 B23) fun a24 =>
 callS false EE 14 [a24] B23 fun a25 B26 =>
 ob (ldN true 6 x4 B26) fun a27 =>
 callS false EE 18 [a27] B26 fun a28 B29 =>
 callS false EE 17 [a25, a28] B29 fun a30 B31 =>
 ob (xext 0 (shr a30)) fun a32 =>
 ob (xext 1 (shr a30)) fun a33 =>
 bz PP 36 B31 fun a34 B35 =>
 stN 5 a34 (shr a32) B35 fun B36 =>
 grd (noPtrs [a25, a24]) (grd (ptrNe x3 a34) (grd (noPtrs [a25, a24]) (grd (ptrNe x4 a34) (grd (noPtrs [a28, a27]) (grd (noPtrs [a30, a25, a28]) (mk (ob (ldN true 5 x3 B36) fun a37 =>
 callS false EE 16 [a37] B36 fun a38 B39 =>
 ob (ldN true 5 x3 B39) fun a40 =>
 callS false EE 14 [a40] B39 fun a41 B42 =>
 callS false EE 19 [a41] B42 fun a43 B44 =>
 ob (xbin PP .neq 4 a38 a43) fun a45 =>
 asB (shr a45) fun t46 => br t46 (grd (noPtrs [a38, a37]) (grd (noPtrs [ud, ud]) (f6_r8 m0  (gcB m0 [] B44))))
 (ob (xbin PP .neq 3 (shr (shr (shr a20))) (shr (shr (shr a33)))) fun a47 =>
 asB (shr (shr a47)) fun t48 => br t48 (grd (noPtrs [a38, a37]) (grd (noPtrs [ud, ud]) (f6_r8 m0  (gcB m0 [] B44))))
 (ob (ldN true 5 a21 B44) fun a49 =>
 callS false EE 14 [a49] B44 fun a50 B51 =>
 ob (ldN true 5 a34 B51) fun a52 =>
 callS false EE 13 [a50, a52] B51 fun a53 B54 =>
 ob (xun PP .not a53) fun a55 =>
 grd (noPtrs [a38, a37]) (grd (noPtrs [a50, a49]) (asB (shr a55) fun t56 => br t56 (f6_r8 m0  (gcB m0 [] B54))
 (f6_r9 m0 x2 x3 a21 (shr (shr a33)) (gcB m0 [x2, x3, a21, (shr (shr a33))] B54))))))))))))))) := by kernel_rfl
theorem f6_r8_eq (m0 : Nat) (B : List Row) : f6_r8 m0  B =
 mk (f6_ret (bv false) B) := by kernel_rfl
theorem f6_r9_eq (m0 : Nat) (x2 x3 x7 x10 : AV) (B : List Row) : f6_r9 m0 x2 x3 x7 x10 B =
 mk (ob (ldN true 5 x3 B) fun a57 =>
 callS false EE 20 [a57, (shr x2)] B fun a58 B59 =>
 ob (xext 0 (shr a58)) fun a60 =>
 ob (xext 1 (shr a58)) fun a61 =>
 bz PP 43 B59 fun a62 B63 =>
 stN 5 a62 (shr a60) B63 fun B64 =>
 mk (ob (xfld 4 x3) fun a65 =>
 ob (ldN false 1 a65 B64) fun a66 =>
 ob (xlen PP 22 a66) fun a67 =>
 f6_l11 m0 x2 x7 x10 a62 (shr (shr a61)) a66 a67 (iv 0) (gcB m0 [x2, x7, x10, a62, (shr (shr a61)), a66, a67, (iv 0)] B64))) := by kernel_rfl
theorem f6_l11_eq (m0 : Nat) (x2 x7 x10 x11 x12 x60 x61 x62 : AV) (B : List Row) : f6_l11 m0 x2 x7 x10 x11 x12 x60 x61 x62 B =
 mk (ob (xbin PP .lss 3 x62 x61) fun a68 =>
 asB a68 fun t69 => br t69 (f6_r12 m0 x2 x7 x10 x11 x12 x60 x61 x62 (gcB m0 [x2, x7, x10, x11, x12, x60, x61, x62] B))
 (f6_r16 m0 x7 x10 x11 x12 (gcB m0 [x7, x10, x11, x12] B))) := (L_eq PP XX HH _ _ _ _ _ _).trans (by kernel_rfl)
theorem f6_r12_eq (m0 : Nat) (x2 x7 x10 x11 x12 x60 x61 x62 : AV) (B : List Row) : f6_r12 m0 x2 x7 x10 x11 x12 x60 x61 x62 B =
 mk (ob (xidx 5 x60 x62) fun a70 =>
 ob (ldN true 5 a70 B) fun a71 =>
 bz PP 43 B fun a72 B73 =>
 stN 5 a72 a71 B73 fun B74 =>
 mk (ob (xfld 0 a72) fun a75 =>
 ob (ldN false 1 a75 B74) fun a76 =>
 ob (xbin PP .eql 3 a76 (shr x2)) fun a77 =>
 asB a77 fun t78 => br t78 (mk (asB (shr (shr x12)) fun t79 => br t79 (ob (ldN true 5 x11 B74) fun a80 =>
 ob (ldN true 5 a72 B74) fun a81 =>
 ob (xbin PP .eql 43 a80 a81) fun a82 =>
 asB (shr (shr a82)) fun t83 => br t83 (ob (xbin PP .neq 3 (shr x10) (iv 0)) fun a84 =>
 asB (shr a84) fun t85 => br t85 (f6_ret (bv true) B74)
 (ob (ldN true 5 x7 B74) fun a86 =>
 callS false EE 16 [a86] B74 fun a87 B88 =>
 f6_ret (shr (shr (shr a87))) B88))
 (f6_ret (bv false) B74))
 (f6_ret (bv false) B74)))
 (f6_r15 m0 x2 x7 x10 x11 x12 x60 x61 x62 (gcB m0 [x2, x7, x10, x11, x12, x60, x61, x62] B74)))) := by kernel_rfl
theorem f6_r16_eq (m0 : Nat) (x7 x10 x11 x12 : AV) (B : List Row) : f6_r16 m0 x7 x10 x11 x12 B =
 mk (ob (xun PP .not (shr x12)) fun a89 =>
 asB (shr a89) fun t90 => br t90 (ob (ldN true 5 x11 B) fun a91 =>
 ob (xbuild PP 43 []) fun a92 =>
 ob (xbin PP .eql 43 a91 a92) fun a93 =>
 asB (shr (shr a93)) fun t94 => br t94 (ob (xbin PP .neq 3 (shr x10) (iv 0)) fun a95 =>
 asB (shr a95) fun t96 => br t96 (f6_ret (bv true) B)
 (ob (ldN true 5 x7 B) fun a97 =>
 callS false EE 16 [a97] B fun a98 B99 =>
 f6_ret (shr (shr (shr a98))) B99))
 (f6_ret (bv false) B))
 (f6_ret (bv false) B)) := by kernel_rfl
theorem f6_r15_eq (m0 : Nat) (x2 x7 x10 x11 x12 x60 x61 x62 : AV) (B : List Row) : f6_r15 m0 x2 x7 x10 x11 x12 x60 x61 x62 B =
 mk (ob (xbin PP .add 3 x62 (iv 1)) fun a100 =>
 f6_l11 m0 x2 x7 x10 x11 x12 x60 x61 (shr a100) (gcB m0 [x2, x7, x10, x11, x12, x60, x61, (shr a100)] B)) := by kernel_rfl
theorem f6_eq (x0 x1 x2 : AV) (B : List Row) : EE 6 [x0, x1, x2] B =
 (let m0 := B.length
 mk (bx x0 B fun a1 B2 =>
 bx x1 B2 fun a3 B4 =>
 mk (callS false EE 10 [] B4 fun a5 B6 =>
 ob (xun PP .not a5) fun a7 =>
 asB a7 fun t8 => br t8 (mk (f6_ret (bv false) B6))
 (f6_r3 m0 x2 a1 a3 (gcB m0 [x2, a1, a3] B6))))) := (E_eq PP XX HH _ _ _).trans (by kernel_rfl)
/-! "colander/colanderlaw07.RuleDrops" -/
noncomputable def f7_c : Code := bodyOf Try.f7
def f7_ret (r0 : AV) (B : List Row) : Option Res :=
 ob (ob (some r0) fun v => ob (some []) fun vs => some (v :: vs)) fun vs => some ((nrmA (match vs with | [v] => v | vs => mkTup (vs.map shr))), B)
noncomputable def f7_k0 (m0 : Nat) : Kont := kret PP HH 7 Try.f7.results
noncomputable def f7_k1 (m0 : Nat) : Kont := kseq HH 7 m0 (l2 (l2 (l2 f7_c))) (exec PP HH 7 m0 EE LL (l2 (l2 (l2 f7_c))) (f7_k0 m0)) (f7_k0 m0)
noncomputable def f7_r3 (m0 : Nat) (x2 x3 : AV) (B : List Row) : Option Res := exec PP HH 7 m0 EE LL (l2 (l2 f7_c)) (f7_k0 m0) [(2, x2), (3, x3)] B
noncomputable def f7_r4 (m0 : Nat) (B : List Row) : Option Res := exec PP HH 7 m0 EE LL (l1 (l2 (l1 (l2 (l2 f7_c))))) (f7_k1 m0) [] B
noncomputable def f7_r5 (m0 : Nat) (x2 x3 : AV) (B : List Row) : Option Res := exec PP HH 7 m0 EE LL (l2 (l2 (l2 f7_c))) (f7_k0 m0) [(2, x2), (3, x3)] B
noncomputable def f7_r10 (m0 : Nat) (x2 x3 x5 x6 x9 : AV) (B : List Row) : Option Res := exec PP HH 7 m0 EE LL (l2 (l2 (l2 (l2 (l2 (l2 (l2 f7_c))))))) (f7_k0 m0) [(2, x2), (3, x3), (5, x5), (6, x6), (9, x9)] B
noncomputable def f7_r18 (m0 : Nat) (x3 x10 x11 x12 x13 x15 x17 x18 : AV) (B : List Row) : Option Res := exec PP HH 7 m0 EE LL (l2 (l2 (l2 (l2 (l2 (l2 (l2 (l2 (l2 (l2 (l2 (l2 (l2 (l2 f7_c)))))))))))))) (f7_k0 m0) [(3, x3), (10, x10), (11, x11), (12, x12), (13, x13), (15, x15), (17, x17), (18, x18)] B
theorem f7_r3_eq (m0 : Nat) (x2 x3 : AV) (B : List Row) : f7_r3 m0 x2 x3 B =
 mk (ob (xfld 4 x2) fun a9 =>
 ob (ldN false 1 a9 B) fun a10 =>
 ob (xlen PP 22 a10) fun a11 =>
 ob (xbin PP .gtr 3 a11 (iv 40)) fun a12 =>
 asB (shr a12) fun t13 => br t13 (f7_r4 m0  (gcB m0 [] B))
 (ob (ldN true 5 x2 B) fun a14 =>
 callS false EE 16 [a14] B fun a15 B16 =>
 ob (xun PP .not a15) fun a17 =>
 asB (shr (shr a17)) fun t18 => br t18 (f7_r4 m0  (gcB m0 [] B16))
 (ob (ldN true 5 x3 B16) fun a19 =>
 callS false EE 21 [a19] B16 fun a20 B21 =>
 ob (xun PP .not a20) fun a22 =>
 asB (shr a22) fun t23 => br t23 (f7_r4 m0  (gcB m0 [] B21))
 (f7_r5 m0 x2 x3 (gcB m0 [x2, x3] B21))))) := by kernel_rfl
theorem f7_r4_eq (m0 : Nat) (B : List Row) : f7_r4 m0  B =
 mk (f7_ret (bv true) B) := by kernel_rfl
theorem f7_r5_eq (m0 : Nat) (x2 x3 : AV) (B : List Row) : f7_r5 m0 x2 x3 B =
 mk (ob (ldN true 5 x3 B) fun a24 =>
 ob (xlit PP 22 1 [(0, a24)]) fun a25 =>
 ob (xbuild PP 27 [(0, (iv (-1))), (1, (iv (-1))), (2, (iv (-1))), (3, (iv (-1))), (4, a25)]) fun a26 =>
 bz PP 27 B fun a27 B28 =>
 stN 6 a27 a26 B28 fun B29 =>
 mk (ob (ldN true 5 x2 B29) fun a30 =>
 ob (ldN true 6 a27 B29) fun a31 =>
 callS false EE 12 [a30, a31] B29 fun a32 B33 =>
 ob (xext 0 (shr a32)) fun a34 =>
 ob (xext 1 (shr a32)) fun a35 =>
 bz PP 24 B33 fun a36 B37 =>
 stN 5 a36 (shr a34) B37 fun B38 =>
 mk (ob (ldN true 5 x2 B38) fun a39 =>
 ob (xfld 0 x3) fun a40 =>
 ob (ldN false 1 a40 B38) fun a41 =>
 callS false EE 20 [a39, a41] B38 fun a42 B43 =>
 ob (xext 0 (shr a42)) fun a44 =>
 ob (xext 1 (shr a42)) fun a45 =>
 bz PP 43 B43 fun a46 B47 =>
 stN 5 a46 (shr a44) B47 fun B48 =>
 mk (ob (xbin PP .neq 30 (shr (shr (shr a35))) (iv 0)) fun a49 =>
 asB a49 fun t50 => br t50 (mk (ob (xbin PP .eql 30 (shr (shr (shr a35))) (iv 33)) fun a51 =>
 asB (shr a51) fun t52 => br t52 (ob (xun PP .not (shr (shr (shr a45)))) fun a53 =>
 asB (shr (shr a53)) fun t54 => br t54 (ob (xfld 4 x2) fun a55 =>
 ob (ldN false 1 a55 B48) fun a56 =>
 ob (xlen PP 22 a56) fun a57 =>
 ob (xbin PP .eql 3 a57 (iv 16)) fun a58 =>
 f7_ret (shr (shr a58)) B48)
 (f7_ret (bv false) B48))
 (f7_ret (bv false) B48)))
 (f7_r10 m0 x2 x3 a27 a36 (shr (shr a45)) (gcB m0 [x2, x3, a27, a36, (shr (shr a45))] B48)))))) := by kernel_rfl
theorem f7_r10_eq (m0 : Nat) (x2 x3 x5 x6 x9 : AV) (B : List Row) : f7_r10 m0 x2 x3 x5 x6 x9 B =
 mk (ob (ldN true 5 x6 B) fun a59 =>
 ob (xfld 0 x3) fun a60 =>
 ob (ldN false 1 a60 B) fun a61 =>
 callS false EE 20 [a59, a61] B fun a62 B63 =>
 ob (xext 0 (shr a62)) fun a64 =>
 ob (xext 1 (shr a62)) fun a65 =>
 bz PP 43 B63 fun a66 B67 =>
 stN 5 a66 (shr a64) B67 fun B68 =>
 mk (ob (xfld 0 x3) fun a69 =>
 ob (ldN false 1 a69 B68) fun a70 =>
 ob (xlit PP 25 1 [(0, a70)]) fun a71 =>
 ob (xfld 4 x5) fun a72 =>
 stN 1 a72 nilA B68 fun B73 =>
 ob (xfld 5 x5) fun a74 =>
 stN 1 a74 a71 B73 fun B75 =>
 grd (ptrNe a69 a72) (mk (ob (ldN true 5 x6 B75) fun a76 =>
 ob (ldN true 6 x5 B75) fun a77 =>
 callS false EE 12 [a76, a77] B75 fun a78 B79 =>
 ob (xext 0 (shr a78)) fun a80 =>
 ob (xext 1 (shr a78)) fun a81 =>
 bz PP 24 B79 fun a82 B83 =>
 stN 5 a82 (shr a80) B83 fun B84 =>
 mk (ob (ldN true 5 a82 B84) fun a85 =>
 ob (xfld 0 x3) fun a86 =>
 ob (ldN false 1 a86 B84) fun a87 =>
 callS false EE 20 [a85, a87] B84 fun a88 B89 =>
 ob (xext 0 (shr a88)) fun a90 =>
 ob (xext 1 (shr a88)) fun a91 =>
 bz PP 43 B89 fun a92 B93 =>
 stN 5 a92 (shr a90) B93 fun B94 =>
 mk (ob (ldN true 5 a82 B94) fun a95 =>
 ob (ldN true 6 x5 B94) fun a96 =>
 callS false EE 12 [a95, a96] B94 fun a97 B98 =>
 ob (xext 0 (shr a97)) fun a99 =>
 ob (xext 1 (shr a97)) fun a100 =>
 bz PP 24 B98 fun a101 B102 =>
 stN 5 a101 (shr a99) B102 fun B103 =>
 mk (ob (xfld 4 x2) fun a104 =>
 ob (ldN false 1 a104 B103) fun a105 =>
 ob (xlen PP 22 a105) fun a106 =>
 mk (asB (shr x9) fun t107 => br t107 (mk (ob (xbin PP .sub 3 (shr (shr a106)) (iv 1)) fun a108 =>
 f7_r18 m0 x3 a66 (shr (shr a65)) a82 (shr (shr a81)) (shr (shr a91)) (shr (shr a100)) (shr a108) (gcB m0 [x3, a66, (shr (shr a65)), a82, (shr (shr a81)), (shr (shr a91)), (shr (shr a100)), (shr a108)] B103)))
 (f7_r18 m0 x3 a66 (shr (shr a65)) a82 (shr (shr a81)) (shr (shr a91)) (shr (shr a100)) (shr a106) (gcB m0 [x3, a66, (shr (shr a65)), a82, (shr (shr a81)), (shr (shr a91)), (shr (shr a100)), (shr a106)] B103)))))))))) := by kernel_rfl
theorem f7_r18_eq (m0 : Nat) (x3 x10 x11 x12 x13 x15 x17 x18 : AV) (B : List Row) : f7_r18 m0 x3 x10 x11 x12 x13 x15 x17 x18 B =
 mk (asB (shr (shr x11)) fun t109 => br t109 (ob (ldN true 5 x10 B) fun a110 =>
 ob (ldN true 5 x3 B) fun a111 =>
 ob (xbin PP .eql 43 a110 a111) fun a112 =>
 asB (shr (shr a112)) fun t113 => br t113 (ob (xbin PP .eql 30 (shr x13) (iv 0)) fun a114 =>
 asB (shr (shr a114)) fun t115 => br t115 (ob (xun PP .not (shr x15)) fun a116 =>
 asB (shr (shr a116)) fun t117 => br t117 (ob (xbin PP .eql 30 (shr x17) (iv 32)) fun a118 =>
 asB (shr (shr a118)) fun t119 => br t119 (ob (xfld 4 x12) fun a120 =>
 ob (ldN false 1 a120 B) fun a121 =>
 ob (xlen PP 22 a121) fun a122 =>
 ob (xbin PP .eql 3 a122 (shr x18)) fun a123 =>
 f7_ret (shr (shr a123)) B)
 (f7_ret (bv false) B))
 (f7_ret (bv false) B))
 (f7_ret (bv false) B))
 (f7_ret (bv false) B))
 (f7_ret (bv false) B)) := by kernel_rfl
theorem f7_eq (x0 x1 : AV) (B : List Row) : EE 7 [x0, x1] B =
 (let m0 := B.length
 mk (bx x0 B fun a1 B2 =>
 bx x1 B2 fun a3 B4 =>
 mk (callS false EE 10 [] B4 fun a5 B6 =>
 ob (xun PP .not a5) fun a7 =>
 asB a7 fun t8 => br t8 (mk (f7_ret (bv false) B6))
 (f7_r3 m0 a1 a3 (gcB m0 [a1, a3] B6))))) := (E_eq PP XX HH _ _ _).trans (by kernel_rfl)
/-! "colander/colanderlaw07.RuleDiffs" -/
noncomputable def f8_c : Code := bodyOf Try.f8
def f8_ret (r0 : AV) (B : List Row) : Option Res :=
 ob (ob (some r0) fun v => ob (some []) fun vs => some (v :: vs)) fun vs => some ((nrmA (match vs with | [v] => v | vs => mkTup (vs.map shr))), B)
noncomputable def f8_k0 (m0 : Nat) : Kont := kret PP HH 8 Try.f8.results
noncomputable def f8_k1 (m0 : Nat) : Kont := kseq HH 8 m0 (l2 (l2 (l2 f8_c))) (exec PP HH 8 m0 EE LL (l2 (l2 (l2 f8_c))) (f8_k0 m0)) (f8_k0 m0)
noncomputable def f8_k2 (m0 : Nat) : Kont := kseq HH 8 m0 (l2 (l2 (l2 (l2 (l2 f8_c))))) (exec PP HH 8 m0 EE LL (l2 (l2 (l2 (l2 (l2 f8_c))))) (f8_k0 m0)) (f8_k0 m0)
noncomputable def f8_k3 (m0 : Nat) : Kont := kseq HH 8 m0 (l2 (l2 (l2 (l2 (l2 (l2 (l2 f8_c))))))) (exec PP HH 8 m0 EE LL (l2 (l2 (l2 (l2 (l2 (l2 (l2 f8_c))))))) (f8_k0 m0)) (f8_k0 m0)
noncomputable def f8_k4 (m0 : Nat) : Kont := kseq HH 8 m0 (l2 (l2 (l2 (l2 (l2 (l2 (l2 (l2 (l2 f8_c))))))))) (exec PP HH 8 m0 EE LL (l2 (l2 (l2 (l2 (l2 (l2 (l2 (l2 (l2 f8_c))))))))) (f8_k0 m0)) (f8_k0 m0)
noncomputable def f8_k5 (m0 : Nat) : Kont := kblk 0 (f8_k4 m0)
noncomputable def f8_k6 (m0 : Nat) : Kont := kloop HH 8 m0 (l1 (l1 (l2 (l1 (l2 (l2 (l2 (l2 (l2 (l2 (l2 (l2 f8_c)))))))))))) (LL 8 m0 (l1 (l1 (l2 (l1 (l2 (l2 (l2 (l2 (l2 (l2 (l2 (l2 f8_c)))))))))))) (f8_k5 m0)) (f8_k5 m0)
noncomputable def f8_k7 (m0 : Nat) : Kont := kseq HH 8 m0 (l2 (l2 (l2 (l1 (l1 (l2 (l1 (l2 (l2 (l2 (l2 (l2 (l2 (l2 (l2 f8_c))))))))))))))) (exec PP HH 8 m0 EE LL (l2 (l2 (l2 (l1 (l1 (l2 (l1 (l2 (l2 (l2 (l2 (l2 (l2 (l2 (l2 f8_c))))))))))))))) (f8_k6 m0)) (f8_k6 m0)
noncomputable def f8_k8 (m0 : Nat) : Kont := kblk 1 (f8_k7 m0)
noncomputable def f8_k9 (m0 : Nat) : Kont := kseq HH 8 m0 (l2 (l2 (l1 (l1 (l2 (l2 (l1 (l1 (l2 (l1 (l2 (l2 (l2 (l2 (l2 (l2 (l2 (l2 f8_c)))))))))))))))))) (exec PP HH 8 m0 EE LL (l2 (l2 (l1 (l1 (l2 (l2 (l1 (l1 (l2 (l1 (l2 (l2 (l2 (l2 (l2 (l2 (l2 (l2 f8_c)))))))))))))))))) (f8_k8 m0)) (f8_k8 m0)
noncomputable def f8_k10 (m0 : Nat) : Kont := kseq HH 8 m0 (l2 (l2 (l2 (l2 (l2 (l2 (l2 (l2 (l2 (l2 (l2 f8_c))))))))))) (exec PP HH 8 m0 EE LL (l2 (l2 (l2 (l2 (l2 (l2 (l2 (l2 (l2 (l2 (l2 f8_c))))))))))) (f8_k0 m0)) (f8_k0 m0)
noncomputable def f8_k11 (m0 : Nat) : Kont := kblk 2 (f8_k10 m0)
noncomputable def f8_k12 (m0 : Nat) : Kont := kloop HH 8 m0 (l1 (l1 (l2 (l1 (l2 (l2 (l2 (l2 (l2 (l2 (l2 (l2 (l2 (l2 f8_c)))))))))))))) (LL 8 m0 (l1 (l1 (l2 (l1 (l2 (l2 (l2 (l2 (l2 (l2 (l2 (l2 (l2 (l2 f8_c)))))))))))))) (f8_k11 m0)) (f8_k11 m0)
noncomputable def f8_k13 (m0 : Nat) : Kont := kseq HH 8 m0 (l2 (l2 (l2 (l1 (l1 (l2 (l1 (l2 (l2 (l2 (l2 (l2 (l2 (l2 (l2 (l2 (l2 f8_c))))))))))))))))) (exec PP HH 8 m0 EE LL (l2 (l2 (l2 (l1 (l1 (l2 (l1 (l2 (l2 (l2 (l2 (l2 (l2 (l2 (l2 (l2 (l2 f8_c))))))))))))))))) (f8_k12 m0)) (f8_k12 m0)
noncomputable def f8_k14 (m0 : Nat) : Kont := kblk 3 (f8_k13 m0)
noncomputable def f8_r3 (m0 : Nat) (x2 x3 : AV) (B : List Row) : Option Res := exec PP HH 8 m0 EE LL (l2 (l2 f8_c)) (f8_k0 m0) [(2, x2), (3, x3)] B
noncomputable def f8_r4 (m0 : Nat) (B : List Row) : Option Res := exec PP HH 8 m0 EE LL (l1 (l2 (l1 (l2 (l2 f8_c))))) (f8_k1 m0) [] B
noncomputable def f8_r5 (m0 : Nat) (x2 x3 : AV) (B : List Row) : Option Res := exec PP HH 8 m0 EE LL (l2 (l2 (l2 f8_c))) (f8_k0 m0) [(2, x2), (3, x3)] B
noncomputable def f8_r7 (m0 : Nat) (x5 x6 : AV) (B : List Row) : Option Res := exec PP HH 8 m0 EE LL (l1 (l2 (l1 (l2 (l2 (l2 (l2 f8_c))))))) (f8_k2 m0) [(5, x5), (6, x6)] B
noncomputable def f8_r8 (m0 : Nat) (x2 x3 x5 x6 : AV) (B : List Row) : Option Res := exec PP HH 8 m0 EE LL (l2 (l2 (l2 (l2 (l2 f8_c))))) (f8_k0 m0) [(2, x2), (3, x3), (5, x5), (6, x6)] B
noncomputable def f8_r10 (m0 : Nat) (B : List Row) : Option Res := exec PP HH 8 m0 EE LL (l1 (l2 (l1 (l2 (l2 (l2 (l2 (l2 (l2 f8_c))))))))) (f8_k3 m0) [] B
noncomputable def f8_r11 (m0 : Nat) (x2 x3 x5 : AV) (B : List Row) : Option Res := exec PP HH 8 m0 EE LL (l2 (l2 (l2 (l2 (l2 (l2 (l2 f8_c))))))) (f8_k0 m0) [(2, x2), (3, x3), (5, x5)] B
noncomputable def f8_l13 (m0 : Nat) (x2 x3 x5 x9 x78 x79 x80 : AV) (B : List Row) : Option Res := lp (LL 8 m0 (l1 (l1 (l2 (l1 (l2 (l2 (l2 (l2 (l2 (l2 (l2 (l2 f8_c)))))))))))) (f8_k5 m0) [(2, x2), (3, x3), (5, x5), (9, x9), (78, x78), (79, x79), (80, x80)] B)
noncomputable def f8_r14 (m0 : Nat) (x2 x3 x5 x9 x78 x79 x80 : AV) (B : List Row) : Option Res := exec PP HH 8 m0 EE LL (l2 (l2 (l1 (l1 (l2 (l1 (l2 (l2 (l2 (l2 (l2 (l2 (l2 (l2 f8_c)))))))))))))) (f8_k6 m0) [(2, x2), (3, x3), (5, x5), (9, x9), (78, x78), (79, x79), (80, x80)] B
noncomputable def f8_r20 (m0 : Nat) (x2 x3 x5 : AV) (B : List Row) : Option Res := exec PP HH 8 m0 EE LL (l2 (l2 (l2 (l2 (l2 (l2 (l2 (l2 (l2 f8_c))))))))) (f8_k0 m0) [(2, x2), (3, x3), (5, x5)] B
noncomputable def f8_r17 (m0 : Nat) (B : List Row) : Option Res := exec PP HH 8 m0 EE LL (l1 (l2 (l2 (l1 (l2 (l1 (l1 (l2 (l2 (l1 (l1 (l2 (l1 (l2 (l2 (l2 (l2 (l2 (l2 (l2 (l2 f8_c))))))))))))))))))))) (f8_k9 m0) [] B
noncomputable def f8_r18 (m0 : Nat) (x2 x3 x5 x11 x78 x79 x80 : AV) (B : List Row) : Option Res := exec PP HH 8 m0 EE LL (l2 (l2 (l1 (l1 (l2 (l2 (l1 (l1 (l2 (l1 (l2 (l2 (l2 (l2 (l2 (l2 (l2 (l2 f8_c)))))))))))))))))) (f8_k8 m0) [(2, x2), (3, x3), (5, x5), (11, x11), (78, x78), (79, x79), (80, x80)] B
noncomputable def f8_l22 (m0 : Nat) (x2 x3 x5 x9 x107 x108 x109 : AV) (B : List Row) : Option Res := lp (LL 8 m0 (l1 (l1 (l2 (l1 (l2 (l2 (l2 (l2 (l2 (l2 (l2 (l2 (l2 (l2 f8_c)))))))))))))) (f8_k11 m0) [(2, x2), (3, x3), (5, x5), (9, x9), (107, x107), (108, x108), (109, x109)] B)
noncomputable def f8_r19 (m0 : Nat) (x2 x3 x5 x9 x78 x79 x80 : AV) (B : List Row) : Option Res := exec PP HH 8 m0 EE LL (l2 (l2 (l2 (l1 (l1 (l2 (l1 (l2 (l2 (l2 (l2 (l2 (l2 (l2 (l2 f8_c))))))))))))))) (f8_k6 m0) [(2, x2), (3, x3), (5, x5), (9, x9), (78, x78), (79, x79), (80, x80)] B
noncomputable def f8_r23 (m0 : Nat) (x2 x3 x5 x9 x107 x108 x109 : AV) (B : List Row) : Option Res := exec PP HH 8 m0 EE LL (l2 (l2 (l1 (l1 (l2 (l1 (l2 (l2 (l2 (l2 (l2 (l2 (l2 (l2 (l2 (l2 f8_c)))))))))))))))) (f8_k12 m0) [(2, x2), (3, x3), (5, x5), (9, x9), (107, x107), (108, x108), (109, x109)] B
noncomputable def f8_r28 (m0 : Nat) (x2 x3 x5 : AV) (B : List Row) : Option Res := exec PP HH 8 m0 EE LL (l2 (l2 (l2 (l2 (l2 (l2 (l2 (l2 (l2 (l2 (l2 f8_c))))))))))) (f8_k0 m0) [(2, x2), (3, x3), (5, x5)] B
noncomputable def f8_r26 (m0 : Nat) (x2 x3 x5 x15 x107 x108 x109 : AV) (B : List Row) : Option Res := exec PP HH 8 m0 EE LL (l2 (l2 (l1 (l1 (l2 (l2 (l1 (l1 (l2 (l1 (l2 (l2 (l2 (l2 (l2 (l2 (l2 (l2 (l2 (l2 f8_c)))))))))))))))))))) (f8_k14 m0) [(2, x2), (3, x3), (5, x5), (15, x15), (107, x107), (108, x108), (109, x109)] B
noncomputable def f8_r27 (m0 : Nat) (x2 x3 x5 x9 x107 x108 x109 : AV) (B : List Row) : Option Res := exec PP HH 8 m0 EE LL (l2 (l2 (l2 (l1 (l1 (l2 (l1 (l2 (l2 (l2 (l2 (l2 (l2 (l2 (l2 (l2 (l2 f8_c))))))))))))))))) (f8_k12 m0) [(2, x2), (3, x3), (5, x5), (9, x9), (107, x107), (108, x108), (109, x109)] B
theorem f8_r3_eq (m0 : Nat) (x2 x3 : AV) (B : List Row) : f8_r3 m0 x2 x3 B =
 mk (ob (ldN true 5 x2 B) fun a9 =>
 ob (xbuild PP 27 []) fun a10 =>
 callS false EE 11 [a9, a10] B fun a11 B12 =>
 ob (xun PP .not a11) fun a13 =>
 asB (shr a13) fun t14 => br t14 (f8_r4 m0  (gcB m0 [] B12))
 (ob (ldN true 5 x3 B12) fun a15 =>
 ob (xbuild PP 27 []) fun a16 =>
 callS false EE 11 [a15, a16] B12 fun a17 B18 =>
 ob (xun PP .not a17) fun a19 =>
 asB (shr a19) fun t20 => br t20 (f8_r4 m0  (gcB m0 [] B18))
 (f8_r5 m0 x2 x3 (gcB m0 [x2, x3] B18)))) := by kernel_rfl
theorem f8_r4_eq (m0 : Nat) (B : List Row) : f8_r4 m0  B =
 mk (f8_ret (bv true) B) := by kernel_rfl
theorem f8_r5_eq (m0 : Nat) (x2 x3 : AV) (B : List Row) : f8_r5 m0 x2 x3 B =
 mk (ob (ldN true 5 x2 B) fun a21 =>
 ob (ldN true 5 x3 B) fun a22 =>
 callS false EE 22 [a21, a22] B fun a23 B24 =>
 ob (xext 0 (shr a23)) fun a25 =>
 ob (xext 1 (shr a23)) fun a26 =>
 bz PP 27 B24 fun a27 B28 =>
 stN 6 a27 (shr a25) B28 fun B29 =>
 mk (ob (ldN true 5 x2 B29) fun a30 =>
 callS false EE 14 [a30] B29 fun a31 B32 =>
 callS false EE 19 [a31] B32 fun a33 B34 =>
 ob (xun PP .not a33) fun a35 =>
 asB (shr a35) fun t36 => br t36 (f8_r7 m0 a27 (shr (shr a26)) (gcB m0 [a27, (shr (shr a26))] B34))
 (ob (ldN true 5 x3 B34) fun a37 =>
 callS false EE 14 [a37] B34 fun a38 B39 =>
 callS false EE 19 [a38] B39 fun a40 B41 =>
 ob (xun PP .not a40) fun a42 =>
 asB (shr a42) fun t43 => br t43 (f8_r7 m0 a27 (shr (shr a26)) (gcB m0 [a27, (shr (shr a26))] B41))
 (f8_r8 m0 x2 x3 a27 (shr (shr a26)) (gcB m0 [x2, x3, a27, (shr (shr a26))] B41))))) := by kernel_rfl
theorem f8_r7_eq (m0 : Nat) (x5 x6 : AV) (B : List Row) : f8_r7 m0 x5 x6 B =
 mk (ob (xbin PP .eql 30 (shr x6) (iv 10)) fun a44 =>
 asB (shr a44) fun t45 => br t45 (ob (xfld 4 x5) fun a46 =>
 ob (ldN false 1 a46 B) fun a47 =>
 ob (xlen PP 22 a47) fun a48 =>
 ob (xfld 5 x5) fun a49 =>
 ob (ldN false 1 a49 B) fun a50 =>
 ob (xlen PP 25 a50) fun a51 =>
 ob (xbin PP .add 3 a48 a51) fun a52 =>
 ob (xbin PP .eql 3 a52 (iv 0)) fun a53 =>
 f8_ret (shr (shr a53)) B)
 (f8_ret (bv false) B)) := by kernel_rfl
theorem f8_r8_eq (m0 : Nat) (x2 x3 x5 x6 : AV) (B : List Row) : f8_r8 m0 x2 x3 x5 x6 B =
 mk (ob (ldN true 5 x2 B) fun a54 =>
 ob (ldN true 6 x5 B) fun a55 =>
 callS false EE 12 [a54, a55] B fun a56 B57 =>
 ob (xext 0 (shr a56)) fun a58 =>
 ob (xext 1 (shr a56)) fun a59 =>
 bz PP 24 B57 fun a60 B61 =>
 stN 5 a60 (shr a58) B61 fun B62 =>
 mk (ob (xbin PP .neq 30 (shr x6) (iv 0)) fun a63 =>
 asB (shr a63) fun t64 => br t64 (grd (noPtrs [ud, ud]) (f8_r10 m0  (gcB m0 [] B62)))
 (ob (xbin PP .neq 30 (shr (shr (shr a59))) (iv 0)) fun a65 =>
 asB (shr (shr a65)) fun t66 => br t66 (grd (noPtrs [ud, ud]) (f8_r10 m0  (gcB m0 [] B62)))
 (ob (ldN true 5 a60 B62) fun a67 =>
 callS false EE 14 [a67] B62 fun a68 B69 =>
 ob (ldN true 5 x3 B69) fun a70 =>
 callS false EE 14 [a70] B69 fun a71 B72 =>
 callS false EE 13 [a68, a71] B72 fun a73 B74 =>
 ob (xun PP .not a73) fun a75 =>
 grd (noPtrs [a68, a67]) (asB (shr a75) fun t76 => br t76 (f8_r10 m0  (gcB m0 [] B74))
 (f8_r11 m0 x2 x3 x5 (gcB m0 [x2, x3, x5] B74))))))) := by kernel_rfl
theorem f8_r10_eq (m0 : Nat) (B : List Row) : f8_r10 m0  B =
 mk (f8_ret (bv false) B) := by kernel_rfl
theorem f8_r11_eq (m0 : Nat) (x2 x3 x5 : AV) (B : List Row) : f8_r11 m0 x2 x3 x5 B =
 mk (mk (ob (xfld 4 x5) fun a77 =>
 ob (ldN false 1 a77 B) fun a78 =>
 ob (xlen PP 22 a78) fun a79 =>
 f8_l13 m0 x2 x3 x5 (iv 0) a78 a79 (iv 0) (gcB m0 [x2, x3, x5, (iv 0), a78, a79, (iv 0)] B))) := by kernel_rfl
theorem f8_l13_eq (m0 : Nat) (x2 x3 x5 x9 x78 x79 x80 : AV) (B : List Row) : f8_l13 m0 x2 x3 x5 x9 x78 x79 x80 B =
 mk (ob (xbin PP .lss 3 x80 x79) fun a80 =>
 asB a80 fun t81 => br t81 (f8_r14 m0 x2 x3 x5 x9 x78 x79 x80 (gcB m0 [x2, x3, x5, x9, x78, x79, x80] B))
 (f8_r20 m0 x2 x3 x5 (gcB m0 [x2, x3, x5] B))) := (L_eq PP XX HH _ _ _ _ _ _).trans (by kernel_rfl)
theorem f8_r14_eq (m0 : Nat) (x2 x3 x5 x9 x78 x79 x80 : AV) (B : List Row) : f8_r14 m0 x2 x3 x5 x9 x78 x79 x80 B =
 mk (ob (xidx 5 x78 x80) fun a82 =>
 ob (ldN true 5 a82 B) fun a83 =>
 bz PP 43 B fun a84 B85 =>
 stN 5 a84 a83 B85 fun B86 =>
 mk (ob (ldN true 5 x2 B86) fun a87 =>
 ob (xfld 0 a84) fun a88 =>
 ob (ldN false 1 a88 B86) fun a89 =>
 callS false EE 20 [a87, a89] B86 fun a90 B91 =>
 ob (xext 0 (shr a90)) fun a92 =>
 ob (xext 1 (shr a90)) fun a93 =>
 bz PP 43 B91 fun a94 B95 =>
 stN 5 a94 (shr a92) B95 fun B96 =>
 mk (asB (shr (shr (shr (shr a93)))) fun t97 => br t97 (ob (ldN true 5 a94 B96) fun a98 =>
 ob (ldN true 5 a84 B96) fun a99 =>
 ob (xbin PP .eql 43 a98 a99) fun a100 =>
 asB (shr (shr a100)) fun t101 => br t101 (f8_r17 m0  (gcB m0 [] B96))
 (ob (xfld 0 a84) fun a102 =>
 ob (ldN false 1 a102 B96) fun a103 =>
 ob (xbin PP .leq 3 a103 (shr x9)) fun a104 =>
 asB (shr a104) fun t105 => br t105 (f8_r17 m0  (gcB m0 [] B96))
 (f8_r18 m0 x2 x3 x5 a84 x78 x79 x80 (gcB m0 [x2, x3, x5, a84, x78, x79, x80] B96))))
 (ob (xfld 0 a84) fun a106 =>
 ob (ldN false 1 a106 B96) fun a107 =>
 ob (xbin PP .leq 3 a107 (shr x9)) fun a108 =>
 asB (shr a108) fun t109 => br t109 (f8_r17 m0  (gcB m0 [] B96))
 (f8_r18 m0 x2 x3 x5 a84 x78 x79 x80 (gcB m0 [x2, x3, x5, a84, x78, x79, x80] B96)))))) := by kernel_rfl
theorem f8_r20_eq (m0 : Nat) (x2 x3 x5 : AV) (B : List Row) : f8_r20 m0 x2 x3 x5 B =
 mk (mk (ob (xfld 5 x5) fun a110 =>
 ob (ldN false 1 a110 B) fun a111 =>
 ob (xlen PP 25 a111) fun a112 =>
 f8_l22 m0 x2 x3 x5 (iv 0) a111 a112 (iv 0) (gcB m0 [x2, x3, x5, (iv 0), a111, a112, (iv 0)] B))) := by kernel_rfl
theorem f8_r17_eq (m0 : Nat) (B : List Row) : f8_r17 m0  B =
 mk (f8_ret (bv false) B) := by kernel_rfl
theorem f8_r18_eq (m0 : Nat) (x2 x3 x5 x11 x78 x79 x80 : AV) (B : List Row) : f8_r18 m0 x2 x3 x5 x11 x78 x79 x80 B =
 mk (ob (xfld 0 x11) fun a113 =>
 ob (ldN false 1 a113 B) fun a114 =>
 f8_r19 m0 x2 x3 x5 (shr a114) x78 x79 x80 (gcB m0 [x2, x3, x5, (shr a114), x78, x79, x80] B)) := by kernel_rfl
theorem f8_l22_eq (m0 : Nat) (x2 x3 x5 x9 x107 x108 x109 : AV) (B : List Row) : f8_l22 m0 x2 x3 x5 x9 x107 x108 x109 B =
 mk (ob (xbin PP .lss 3 x109 x108) fun a115 =>
 asB a115 fun t116 => br t116 (f8_r23 m0 x2 x3 x5 x9 x107 x108 x109 (gcB m0 [x2, x3, x5, x9, x107, x108, x109] B))
 (f8_r28 m0 x2 x3 x5 (gcB m0 [x2, x3, x5] B))) := (L_eq PP XX HH _ _ _ _ _ _).trans (by kernel_rfl)
theorem f8_r19_eq (m0 : Nat) (x2 x3 x5 x9 x78 x79 x80 : AV) (B : List Row) : f8_r19 m0 x2 x3 x5 x9 x78 x79 x80 B =
 mk (ob (xbin PP .add 3 x80 (iv 1)) fun a117 =>
 f8_l13 m0 x2 x3 x5 x9 x78 x79 (shr a117) (gcB m0 [x2, x3, x5, x9, x78, x79, (shr a117)] B)) := by kernel_rfl
theorem f8_r23_eq (m0 : Nat) (x2 x3 x5 x9 x107 x108 x109 : AV) (B : List Row) : f8_r23 m0 x2 x3 x5 x9 x107 x108 x109 B =
 mk (ob (xidx 1 x107 x109) fun a118 =>
 ob (ldN false 1 a118 B) fun a119 =>
 mk (ob (xbin PP .leq 3 (shr (shr a119)) (shr x9)) fun a120 =>
 asB a120 fun t121 => br t121 (mk (f8_ret (bv false) B))
 (f8_r26 m0 x2 x3 x5 (shr a119) x107 x108 x109 (gcB m0 [x2, x3, x5, (shr a119), x107, x108, x109] B)))) := by kernel_rfl
theorem f8_r28_eq (m0 : Nat) (x2 x3 x5 : AV) (B : List Row) : f8_r28 m0 x2 x3 x5 B =
 mk (ob (ldN true 5 x2 B) fun a122 =>
 callS false EE 14 [a122] B fun a123 B124 =>
 ob (ldN true 5 x3 B124) fun a125 =>
 callS false EE 14 [a125] B124 fun a126 B127 =>
 callS false EE 13 [a123, a126] B127 fun a128 B129 =>
 grd (noPtrs [a123, a122]) (mk (ob (xfld 0 x5) fun a130 =>
 ob (ldN false 1 a130 B129) fun a131 =>
 ob (xbin PP .eql 3 a131 (iv (-1))) fun a132 =>
 ob (xfld 0 x2) fun a133 =>
 ob (ldN false 1 a133 B129) fun a134 =>
 ob (xfld 0 x3) fun a135 =>
 ob (ldN false 1 a135 B129) fun a136 =>
 ob (xbin PP .eql 3 a134 a136) fun a137 =>
 ob (xbin PP .eql 4 a132 a137) fun a138 =>
 asB (shr a138) fun t139 => br t139 (ob (xfld 2 x5) fun a140 =>
 ob (ldN false 1 a140 B129) fun a141 =>
 ob (xbin PP .eql 3 a141 (iv (-1))) fun a142 =>
 ob (xfld 2 x2) fun a143 =>
 ob (ldN false 1 a143 B129) fun a144 =>
 ob (xfld 2 x3) fun a145 =>
 ob (ldN false 1 a145 B129) fun a146 =>
 ob (xbin PP .eql 3 a144 a146) fun a147 =>
 ob (xbin PP .eql 4 a142 a147) fun a148 =>
 asB (shr (shr a148)) fun t149 => br t149 (ob (xun PP .not (shr (shr a128))) fun a150 =>
 asB (shr a150) fun t151 => br t151 (f8_ret (bv true) B129)
 (ob (xfld 4 x5) fun a152 =>
 ob (ldN false 1 a152 B129) fun a153 =>
 ob (xlen PP 22 a153) fun a154 =>
 ob (xfld 5 x5) fun a155 =>
 ob (ldN false 1 a155 B129) fun a156 =>
 ob (xlen PP 25 a156) fun a157 =>
 ob (xbin PP .add 3 a154 a157) fun a158 =>
 ob (xbin PP .eql 3 a158 (iv 0)) fun a159 =>
 f8_ret (shr (shr (shr a159))) B129))
 (f8_ret (bv false) B129))
 (f8_ret (bv false) B129)))) := by kernel_rfl
theorem f8_r26_eq (m0 : Nat) (x2 x3 x5 x15 x107 x108 x109 : AV) (B : List Row) : f8_r26 m0 x2 x3 x5 x15 x107 x108 x109 B =
 mk (f8_r27 m0 x2 x3 x5 (shr (shr x15)) x107 x108 x109 (gcB m0 [x2, x3, x5, (shr (shr x15)), x107, x108, x109] B)) := by kernel_rfl
theorem f8_r27_eq (m0 : Nat) (x2 x3 x5 x9 x107 x108 x109 : AV) (B : List Row) : f8_r27 m0 x2 x3 x5 x9 x107 x108 x109 B =
 mk (ob (xbin PP .add 3 x109 (iv 1)) fun a160 =>
 f8_l22 m0 x2 x3 x5 x9 x107 x108 (shr a160) (gcB m0 [x2, x3, x5, x9, x107, x108, (shr a160)] B)) := by kernel_rfl
theorem f8_eq (x0 x1 : AV) (B : List Row) : EE 8 [x0, x1] B =
 (let m0 := B.length
 mk (bx x0 B fun a1 B2 =>
 bx x1 B2 fun a3 B4 =>
 mk (callS false EE 10 [] B4 fun a5 B6 =>
 ob (xun PP .not a5) fun a7 =>
 asB a7 fun t8 => br t8 (mk (f8_ret (bv false) B6))
 (f8_r3 m0 a1 a3 (gcB m0 [a1, a3] B6))))) := (E_eq PP XX HH _ _ _).trans (by kernel_rfl)
/-! "colander/colanderlaw07.RuleOrders" -/
noncomputable def f9_c : Code := bodyOf Try.f9
def f9_ret (r0 : AV) (B : List Row) : Option Res :=
 ob (ob (some r0) fun v => ob (some []) fun vs => some (v :: vs)) fun vs => some ((nrmA (match vs with | [v] => v | vs => mkTup (vs.map shr))), B)
noncomputable def f9_k0 (m0 : Nat) : Kont := kret PP HH 9 Try.f9.results
noncomputable def f9_k1 (m0 : Nat) : Kont := kseq HH 9 m0 (l2 (l2 (l2 (l2 (l2 (l2 (l2 (l2 f9_c)))))))) (exec PP HH 9 m0 EE LL (l2 (l2 (l2 (l2 (l2 (l2 (l2 (l2 f9_c)))))))) (f9_k0 m0)) (f9_k0 m0)
noncomputable def f9_k2 (m0 : Nat) : Kont := kblk 0 (f9_k1 m0)
noncomputable def f9_k3 (m0 : Nat) : Kont := kloop HH 9 m0 (l1 (l1 (l2 (l1 (l2 (l2 (l2 (l2 (l2 (l2 (l2 f9_c))))))))))) (LL 9 m0 (l1 (l1 (l2 (l1 (l2 (l2 (l2 (l2 (l2 (l2 (l2 f9_c))))))))))) (f9_k2 m0)) (f9_k2 m0)
noncomputable def f9_r3 (m0 : Nat) (x1 x2 : AV) (B : List Row) : Option Res := exec PP HH 9 m0 EE LL (l2 (l2 f9_c)) (f9_k0 m0) [(1, x1), (2, x2)] B
noncomputable def f9_r5 (m0 : Nat) (x1 x2 : AV) (B : List Row) : Option Res := exec PP HH 9 m0 EE LL (l2 (l2 (l2 f9_c))) (f9_k0 m0) [(1, x1), (2, x2)] B
noncomputable def f9_r8 (m0 : Nat) (x1 x2 x5 : AV) (B : List Row) : Option Res := exec PP HH 9 m0 EE LL (l2 (l2 (l2 (l2 (l2 f9_c))))) (f9_k0 m0) [(1, x1), (2, x2), (5, x5)] B
noncomputable def f9_r11 (m0 : Nat) (x5 x6 : AV) (B : List Row) : Option Res := exec PP HH 9 m0 EE LL (l2 (l2 (l2 (l2 (l2 (l2 (l2 f9_c))))))) (f9_k0 m0) [(5, x5), (6, x6)] B
noncomputable def f9_l12 (m0 : Nat) (x6 x34 x35 x36 : AV) (B : List Row) : Option Res := lp (LL 9 m0 (l1 (l1 (l2 (l1 (l2 (l2 (l2 (l2 (l2 (l2 (l2 f9_c))))))))))) (f9_k2 m0) [(6, x6), (34, x34), (35, x35), (36, x36)] B)
noncomputable def f9_r13 (m0 : Nat) (x6 x34 x35 x36 : AV) (B : List Row) : Option Res := exec PP HH 9 m0 EE LL (l2 (l2 (l1 (l1 (l2 (l1 (l2 (l2 (l2 (l2 (l2 (l2 (l2 f9_c))))))))))))) (f9_k3 m0) [(6, x6), (34, x34), (35, x35), (36, x36)] B
noncomputable def f9_r17 (m0 : Nat) (B : List Row) : Option Res := exec PP HH 9 m0 EE LL (l2 (l2 (l2 (l2 (l2 (l2 (l2 (l2 f9_c)))))))) (f9_k0 m0) [] B
noncomputable def f9_r16 (m0 : Nat) (x6 x34 x35 x36 : AV) (B : List Row) : Option Res := exec PP HH 9 m0 EE LL (l2 (l2 (l2 (l1 (l1 (l2 (l1 (l2 (l2 (l2 (l2 (l2 (l2 (l2 f9_c)))))))))))))) (f9_k3 m0) [(6, x6), (34, x34), (35, x35), (36, x36)] B
theorem f9_r3_eq (m0 : Nat) (x1 x2 : AV) (B : List Row) : f9_r3 m0 x1 x2 B =
 mk (ob (ldN true 5 x2 B) fun a7 =>
 ob (xbuild PP 27 []) fun a8 =>
 callS false EE 11 [a7, a8] B fun a9 B10 =>
 ob (xun PP .not a9) fun a11 =>
 asB a11 fun t12 => br t12 (mk (f9_ret (bv true) B10))
 (f9_r5 m0 x1 x2 (gcB m0 [x1, x2] B10))) := by kernel_rfl
theorem f9_r5_eq (m0 : Nat) (x1 x2 : AV) (B : List Row) : f9_r5 m0 x1 x2 B =
 mk (ob (ldN true 5 x2 B) fun a13 =>
 callS false EE 23 [a13, (shr x1)] B fun a14 B15 =>
 mk (ob (ldN true 5 x2 B15) fun a16 =>
 callS false EE 14 [a16] B15 fun a17 B18 =>
 callS false EE 19 [a17] B18 fun a19 B20 =>
 ob (xun PP .not a19) fun a21 =>
 asB a21 fun t22 => br t22 (mk (ob (xlen PP 25 (shr (shr a14))) fun a23 =>
 ob (xbin PP .eql 3 a23 (iv 0)) fun a24 =>
 f9_ret (shr a24) B20))
 (f9_r8 m0 x1 x2 (shr a14) (gcB m0 [x1, x2, (shr a14)] B20)))) := by kernel_rfl
theorem f9_r8_eq (m0 : Nat) (x1 x2 x5 : AV) (B : List Row) : f9_r8 m0 x1 x2 x5 B =
 mk (ob (ldN true 5 x2 B) fun a25 =>
 callS false EE 14 [a25] B fun a26 B27 =>
 callS false EE 24 [a26, (shr x1)] B27 fun a28 B29 =>
 mk (ob (xlen PP 25 (shr x5)) fun a30 =>
 ob (xlen PP 25 (shr (shr a28))) fun a31 =>
 ob (xbin PP .neq 3 a30 a31) fun a32 =>
 asB a32 fun t33 => br t33 (mk (f9_ret (bv false) B29))
 (f9_r11 m0 x5 (shr a28) (gcB m0 [x5, (shr a28)] B29)))) := by kernel_rfl
theorem f9_r11_eq (m0 : Nat) (x5 x6 : AV) (B : List Row) : f9_r11 m0 x5 x6 B =
 mk (ob (xlen PP 25 (shr x5)) fun a34 =>
 f9_l12 m0 x6 (shr x5) a34 (iv 0) (gcB m0 [x6, (shr x5), a34, (iv 0)] B)) := by kernel_rfl
theorem f9_l12_eq (m0 : Nat) (x6 x34 x35 x36 : AV) (B : List Row) : f9_l12 m0 x6 x34 x35 x36 B =
 mk (ob (xbin PP .lss 3 x36 x35) fun a35 =>
 asB a35 fun t36 => br t36 (f9_r13 m0 x6 x34 x35 x36 (gcB m0 [x6, x34, x35, x36] B))
 (f9_r17 m0  (gcB m0 [] B))) := (L_eq PP XX HH _ _ _ _ _ _).trans (by kernel_rfl)
theorem f9_r13_eq (m0 : Nat) (x6 x34 x35 x36 : AV) (B : List Row) : f9_r13 m0 x6 x34 x35 x36 B =
 mk (ob (xidx 1 x34 x36) fun a37 =>
 ob (ldN false 1 a37 B) fun a38 =>
 mk (ob (xidx 1 (shr x6) (shr (shr (shr x36)))) fun a39 =>
 ob (ldN false 1 a39 B) fun a40 =>
 ob (xbin PP .neq 3 (shr (shr a38)) a40) fun a41 =>
 asB a41 fun t42 => br t42 (mk (f9_ret (bv false) B))
 (f9_r16 m0 x6 x34 x35 x36 (gcB m0 [x6, x34, x35, x36] B)))) := by kernel_rfl
theorem f9_r17_eq (m0 : Nat) (B : List Row) : f9_r17 m0  B =
 mk (f9_ret (bv true) B) := by kernel_rfl
theorem f9_r16_eq (m0 : Nat) (x6 x34 x35 x36 : AV) (B : List Row) : f9_r16 m0 x6 x34 x35 x36 B =
 mk (ob (xbin PP .add 3 x36 (iv 1)) fun a43 =>
 f9_l12 m0 x6 x34 x35 (shr a43) (gcB m0 [x6, x34, x35, (shr a43)] B)) := by kernel_rfl
theorem f9_eq (x0 x1 : AV) (B : List Row) : EE 9 [x0, x1] B =
 (let m0 := B.length
 mk (bx x0 B fun a1 B2 =>
 mk (callS false EE 10 [] B2 fun a3 B4 =>
 ob (xun PP .not a3) fun a5 =>
 asB a5 fun t6 => br t6 (mk (f9_ret (bv false) B4))
 (f9_r3 m0 x1 a1 (gcB m0 [x1, a1] B4))))) := (E_eq PP XX HH _ _ _).trans (by kernel_rfl)
/-! "colander/colanderlaw07.anchor" -/
noncomputable def f10_c : Code := bodyOf Try.f10
def f10_ret (r0 : AV) (B : List Row) : Option Res :=
 ob (ob (some r0) fun v => ob (some []) fun vs => some (v :: vs)) fun vs => some ((nrmA (match vs with | [v] => v | vs => mkTup (vs.map shr))), B)
theorem f10_eq (B : List Row) : EE 10 [] B =
 (let m0 := B.length
 mk (mk (callS false EE 25 [] B fun a1 B2 =>
 ob (xbuild PP 43 [(0, (iv 3)), (3, (iv 1)), (4, (.p (.v (.string (ByteArray.mk #[97])))))]) fun a3 =>
 ob (xlit PP 22 1 [(0, a3)]) fun a4 =>
 ob (xbuild PP 27 [(0, (iv (-1))), (1, (iv 7)), (2, (iv (-1))), (3, (iv (-1))), (4, a4)]) fun a5 =>
 callS false EE 12 [a1, a5] B2 fun a6 B7 =>
 ob (xext 0 (shr a6)) fun a8 =>
 ob (xext 1 (shr a6)) fun a9 =>
 bz PP 24 B7 fun a10 B11 =>
 stN 5 a10 (shr a8) B11 fun B12 =>
 mk (ob (xbin PP .eql 30 (shr (shr (shr a9))) (iv 0)) fun a13 =>
 asB (shr a13) fun t14 => br t14 (ob (xfld 1 a10) fun a15 =>
 ob (ldN false 1 a15 B12) fun a16 =>
 ob (xbin PP .eql 3 a16 (iv 7)) fun a17 =>
 asB (shr (shr a17)) fun t18 => br t18 (ob (xfld 4 a10) fun a19 =>
 ob (ldN false 1 a19 B12) fun a20 =>
 ob (xlen PP 22 a20) fun a21 =>
 ob (xbin PP .eql 3 a21 (iv 1)) fun a22 =>
 asB (shr (shr a22)) fun t23 => br t23 (ob (xfld 4 a10) fun a24 =>
 ob (ldN false 1 a24 B12) fun a25 =>
 ob (xidx 5 a25 (iv 0)) fun a26 =>
 ob (xfld 0 a26) fun a27 =>
 ob (ldN false 1 a27 B12) fun a28 =>
 ob (xbin PP .eql 3 a28 (iv 3)) fun a29 =>
 asB (shr (shr a29)) fun t30 => br t30 (ob (xfld 2 a10) fun a31 =>
 ob (ldN false 1 a31 B12) fun a32 =>
 ob (xbin PP .eql 3 a32 (iv 10000)) fun a33 =>
 f10_ret (shr (shr a33)) B12)
 (f10_ret (bv false) B12))
 (f10_ret (bv false) B12))
 (f10_ret (bv false) B12))
 (f10_ret (bv false) B12))))) := (E_eq PP XX HH _ _ _).trans (by kernel_rfl)
/-! "colander/colanderlaw07.small" -/
noncomputable def f11_c : Code := bodyOf Try.f11
def f11_ret (r0 : AV) (B : List Row) : Option Res :=
 ob (ob (some r0) fun v => ob (some []) fun vs => some (v :: vs)) fun vs => some ((nrmA (match vs with | [v] => v | vs => mkTup (vs.map shr))), B)
theorem f11_eq (x0 x1 : AV) (B : List Row) : EE 11 [x0, x1] B =
 (let m0 := B.length
 mk (bx x0 B fun a1 B2 =>
 bx x1 B2 fun a3 B4 =>
 mk (ob (xfld 4 a1) fun a5 =>
 ob (ldN false 1 a5 B4) fun a6 =>
 ob (xlen PP 22 a6) fun a7 =>
 ob (xbin PP .leq 3 a7 (iv 40)) fun a8 =>
 asB (shr a8) fun t9 => br t9 (ob (xfld 4 a3) fun a10 =>
 ob (ldN false 1 a10 B4) fun a11 =>
 ob (xlen PP 22 a11) fun a12 =>
 ob (xbin PP .leq 3 a12 (iv 40)) fun a13 =>
 asB (shr (shr a13)) fun t14 => br t14 (ob (xfld 5 a3) fun a15 =>
 ob (ldN false 1 a15 B4) fun a16 =>
 ob (xlen PP 25 a16) fun a17 =>
 ob (xbin PP .leq 3 a17 (iv 40)) fun a18 =>
 f11_ret (shr (shr a18)) B4)
 (f11_ret (bv false) B4))
 (f11_ret (bv false) B4)))) := (E_eq PP XX HH _ _ _).trans (by kernel_rfl)
/-! "colander/rule.Apply" -/
noncomputable def f12_c : Code := bodyOf Try.f12
def f12_ret (r0 r1 : AV) (B : List Row) : Option Res :=
 ob (ob (ldN true 5 r0 B) fun v => ob (ob (some r1) fun v => ob (some []) fun vs => some (v :: vs)) fun vs => some (v :: vs)) fun vs => some ((nrmA (match vs with | [v] => v | vs => mkTup (vs.map shr))), B)
noncomputable def f12_k0 (m0 : Nat) : Kont := kret PP HH 12 Try.f12.results
noncomputable def f12_k1 (m0 : Nat) : Kont := kseq HH 12 m0 (l2 (l2 (l2 (l2 (l2 (l2 (l2 (l2 f12_c)))))))) (exec PP HH 12 m0 EE LL (l2 (l2 (l2 (l2 (l2 (l2 (l2 (l2 f12_c)))))))) (f12_k0 m0)) (f12_k0 m0)
noncomputable def f12_k2 (m0 : Nat) : Kont := kseq HH 12 m0 (l2 (l2 (l2 (l2 (l2 (l2 (l2 (l2 (l2 (l2 (l2 f12_c))))))))))) (exec PP HH 12 m0 EE LL (l2 (l2 (l2 (l2 (l2 (l2 (l2 (l2 (l2 (l2 (l2 f12_c))))))))))) (f12_k0 m0)) (f12_k0 m0)
noncomputable def f12_k3 (m0 : Nat) : Kont := kblk 0 (f12_k2 m0)
noncomputable def f12_k4 (m0 : Nat) : Kont := kloop HH 12 m0 (l1 (l1 (l2 (l1 (l2 (l2 (l2 (l2 (l2 (l2 (l2 (l2 (l2 (l2 f12_c)))))))))))))) (LL 12 m0 (l1 (l1 (l2 (l1 (l2 (l2 (l2 (l2 (l2 (l2 (l2 (l2 (l2 (l2 f12_c)))))))))))))) (f12_k3 m0)) (f12_k3 m0)
noncomputable def f12_k5 (m0 : Nat) : Kont := kseq HH 12 m0 (l2 (l2 (l2 (l2 (l2 (l2 (l2 (l2 (l2 (l2 (l2 (l2 f12_c)))))))))))) (exec PP HH 12 m0 EE LL (l2 (l2 (l2 (l2 (l2 (l2 (l2 (l2 (l2 (l2 (l2 (l2 f12_c)))))))))))) (f12_k0 m0)) (f12_k0 m0)
noncomputable def f12_k6 (m0 : Nat) : Kont := kblk 2 (f12_k5 m0)
noncomputable def f12_k7 (m0 : Nat) : Kont := kloop HH 12 m0 (l1 (l1 (l2 (l1 (l2 (l2 (l2 (l2 (l2 (l2 (l2 (l2 (l2 (l2 (l2 f12_c))))))))))))))) (LL 12 m0 (l1 (l1 (l2 (l1 (l2 (l2 (l2 (l2 (l2 (l2 (l2 (l2 (l2 (l2 (l2 f12_c))))))))))))))) (f12_k6 m0)) (f12_k6 m0)
noncomputable def f12_k8 (m0 : Nat) : Kont := kseq HH 12 m0 (l2 (l2 (l2 (l1 (l1 (l2 (l1 (l2 (l2 (l2 (l2 (l2 (l2 (l2 (l2 (l2 (l2 (l2 f12_c)))))))))))))))))) (exec PP HH 12 m0 EE LL (l2 (l2 (l2 (l1 (l1 (l2 (l1 (l2 (l2 (l2 (l2 (l2 (l2 (l2 (l2 (l2 (l2 (l2 f12_c)))))))))))))))))) (f12_k7 m0)) (f12_k7 m0)
noncomputable def f12_k9 (m0 : Nat) : Kont := kblk 3 (f12_k8 m0)
noncomputable def f12_k10 (m0 : Nat) : Kont := kseq HH 12 m0 (l2 (l2 (l2 (l2 (l2 (l2 (l2 (l2 (l2 (l2 (l2 (l2 (l2 f12_c))))))))))))) (exec PP HH 12 m0 EE LL (l2 (l2 (l2 (l2 (l2 (l2 (l2 (l2 (l2 (l2 (l2 (l2 (l2 f12_c))))))))))))) (f12_k0 m0)) (f12_k0 m0)
noncomputable def f12_k11 (m0 : Nat) : Kont := kblk 4 (f12_k10 m0)
noncomputable def f12_k12 (m0 : Nat) : Kont := kloop HH 12 m0 (l1 (l1 (l2 (l1 (l2 (l2 (l2 (l2 (l2 (l2 (l2 (l2 (l2 (l2 (l2 (l2 f12_c)))))))))))))))) (LL 12 m0 (l1 (l1 (l2 (l1 (l2 (l2 (l2 (l2 (l2 (l2 (l2 (l2 (l2 (l2 (l2 (l2 f12_c)))))))))))))))) (f12_k11 m0)) (f12_k11 m0)
noncomputable def f12_k13 (m0 : Nat) : Kont := kseq HH 12 m0 (l2 (l2 (l2 (l2 (l2 (l2 (l2 (l2 (l2 (l2 (l2 (l2 (l2 (l2 (l2 (l2 f12_c)))))))))))))))) (exec PP HH 12 m0 EE LL (l2 (l2 (l2 (l2 (l2 (l2 (l2 (l2 (l2 (l2 (l2 (l2 (l2 (l2 (l2 (l2 f12_c)))))))))))))))) (f12_k0 m0)) (f12_k0 m0)
noncomputable def f12_k14 (m0 : Nat) : Kont := kblk 6 (f12_k13 m0)
noncomputable def f12_k15 (m0 : Nat) : Kont := kloop HH 12 m0 (l1 (l1 (l2 (l1 (l2 (l2 (l2 (l2 (l2 (l2 (l2 (l2 (l2 (l2 (l2 (l2 (l2 (l2 (l2 f12_c))))))))))))))))))) (LL 12 m0 (l1 (l1 (l2 (l1 (l2 (l2 (l2 (l2 (l2 (l2 (l2 (l2 (l2 (l2 (l2 (l2 (l2 (l2 (l2 f12_c))))))))))))))))))) (f12_k14 m0)) (f12_k14 m0)
noncomputable def f12_r3 (m0 : Nat) (x2 x3 x4 : AV) (B : List Row) : Option Res := exec PP HH 12 m0 EE LL (l2 (l2 f12_c)) (f12_k0 m0) [(2, x2), (3, x3), (4, x4)] B
noncomputable def f12_r9 (m0 : Nat) (x4 : AV) (B : List Row) : Option Res := exec PP HH 12 m0 EE LL (l1 (l2 (l1 (l2 (l2 (l2 (l2 (l2 (l2 (l2 f12_c)))))))))) (f12_k1 m0) [(4, x4)] B
noncomputable def f12_r10 (m0 : Nat) (x2 x3 x4 x6 : AV) (B : List Row) : Option Res := exec PP HH 12 m0 EE LL (l2 (l2 (l2 (l2 (l2 (l2 (l2 (l2 f12_c)))))))) (f12_k0 m0) [(2, x2), (3, x3), (4, x4), (6, x6)] B
noncomputable def f12_r12 (m0 : Nat) (x2 x3 x4 x6 : AV) (B : List Row) : Option Res := exec PP HH 12 m0 EE LL (l2 (l2 (l2 (l2 (l2 (l2 (l2 (l2 (l2 f12_c))))))))) (f12_k0 m0) [(2, x2), (3, x3), (4, x4), (6, x6)] B
noncomputable def f12_l14 (m0 : Nat) (x3 x4 x6 x7 x54 x55 x56 : AV) (B : List Row) : Option Res := lp (LL 12 m0 (l1 (l1 (l2 (l1 (l2 (l2 (l2 (l2 (l2 (l2 (l2 (l2 (l2 (l2 f12_c)))))))))))))) (f12_k3 m0) [(3, x3), (4, x4), (6, x6), (7, x7), (54, x54), (55, x55), (56, x56)] B)
noncomputable def f12_r15 (m0 : Nat) (x3 x4 x6 x7 x54 x55 x56 : AV) (B : List Row) : Option Res := exec PP HH 12 m0 EE LL (l2 (l2 (l1 (l1 (l2 (l1 (l2 (l2 (l2 (l2 (l2 (l2 (l2 (l2 (l2 (l2 f12_c)))))))))))))))) (f12_k4 m0) [(3, x3), (4, x4), (6, x6), (7, x7), (54, x54), (55, x55), (56, x56)] B
noncomputable def f12_r18 (m0 : Nat) (x3 x4 x6 x7 : AV) (B : List Row) : Option Res := exec PP HH 12 m0 EE LL (l2 (l2 (l2 (l2 (l2 (l2 (l2 (l2 (l2 (l2 (l2 f12_c))))))))))) (f12_k0 m0) [(3, x3), (4, x4), (6, x6), (7, x7)] B
noncomputable def f12_l19 (m0 : Nat) (x3 x4 x6 x7 x66 x67 x68 : AV) (B : List Row) : Option Res := lp (LL 12 m0 (l1 (l1 (l2 (l1 (l2 (l2 (l2 (l2 (l2 (l2 (l2 (l2 (l2 (l2 (l2 f12_c))))))))))))))) (f12_k6 m0) [(3, x3), (4, x4), (6, x6), (7, x7), (66, x66), (67, x67), (68, x68)] B)
noncomputable def f12_r20 (m0 : Nat) (x3 x4 x6 x7 x66 x67 x68 : AV) (B : List Row) : Option Res := exec PP HH 12 m0 EE LL (l2 (l2 (l1 (l1 (l2 (l1 (l2 (l2 (l2 (l2 (l2 (l2 (l2 (l2 (l2 (l2 (l2 f12_c))))))))))))))))) (f12_k7 m0) [(3, x3), (4, x4), (6, x6), (7, x7), (66, x66), (67, x67), (68, x68)] B
noncomputable def f12_r26 (m0 : Nat) (x3 x4 x6 x7 : AV) (B : List Row) : Option Res := exec PP HH 12 m0 EE LL (l2 (l2 (l2 (l2 (l2 (l2 (l2 (l2 (l2 (l2 (l2 (l2 f12_c)))))))))))) (f12_k0 m0) [(3, x3), (4, x4), (6, x6), (7, x7)] B
noncomputable def f12_r24 (m0 : Nat) (x3 x4 x6 x7 x11 x66 x67 x68 : AV) (B : List Row) : Option Res := exec PP HH 12 m0 EE LL (l2 (l2 (l1 (l1 (l2 (l2 (l1 (l1 (l2 (l1 (l2 (l2 (l2 (l2 (l2 (l2 (l2 (l2 (l2 (l2 (l2 f12_c))))))))))))))))))))) (f12_k9 m0) [(3, x3), (4, x4), (6, x6), (7, x7), (11, x11), (66, x66), (67, x67), (68, x68)] B
noncomputable def f12_l27 (m0 : Nat) (x4 x6 x7 x85 x86 x87 : AV) (B : List Row) : Option Res := lp (LL 12 m0 (l1 (l1 (l2 (l1 (l2 (l2 (l2 (l2 (l2 (l2 (l2 (l2 (l2 (l2 (l2 (l2 f12_c)))))))))))))))) (f12_k11 m0) [(4, x4), (6, x6), (7, x7), (85, x85), (86, x86), (87, x87)] B)
noncomputable def f12_r25 (m0 : Nat) (x3 x4 x6 x7 x66 x67 x68 : AV) (B : List Row) : Option Res := exec PP HH 12 m0 EE LL (l2 (l2 (l2 (l1 (l1 (l2 (l1 (l2 (l2 (l2 (l2 (l2 (l2 (l2 (l2 (l2 (l2 (l2 f12_c)))))))))))))))))) (f12_k7 m0) [(3, x3), (4, x4), (6, x6), (7, x7), (66, x66), (67, x67), (68, x68)] B
noncomputable def f12_r28 (m0 : Nat) (x4 x6 x7 x85 x86 x87 : AV) (B : List Row) : Option Res := exec PP HH 12 m0 EE LL (l2 (l2 (l1 (l1 (l2 (l1 (l2 (l2 (l2 (l2 (l2 (l2 (l2 (l2 (l2 (l2 (l2 (l2 f12_c)))))))))))))))))) (f12_k12 m0) [(4, x4), (6, x6), (7, x7), (85, x85), (86, x86), (87, x87)] B
noncomputable def f12_r31 (m0 : Nat) (x4 x6 x7 : AV) (B : List Row) : Option Res := exec PP HH 12 m0 EE LL (l2 (l2 (l2 (l2 (l2 (l2 (l2 (l2 (l2 (l2 (l2 (l2 (l2 f12_c))))))))))))) (f12_k0 m0) [(4, x4), (6, x6), (7, x7)] B
noncomputable def f12_r33 (m0 : Nat) (x4 x6 x7 : AV) (B : List Row) : Option Res := exec PP HH 12 m0 EE LL (l2 (l2 (l2 (l2 (l2 (l2 (l2 (l2 (l2 (l2 (l2 (l2 (l2 (l2 f12_c)))))))))))))) (f12_k0 m0) [(4, x4), (6, x6), (7, x7)] B
noncomputable def f12_l35 (m0 : Nat) (x4 x6 x7 x103 x104 x105 : AV) (B : List Row) : Option Res := lp (LL 12 m0 (l1 (l1 (l2 (l1 (l2 (l2 (l2 (l2 (l2 (l2 (l2 (l2 (l2 (l2 (l2 (l2 (l2 (l2 (l2 f12_c))))))))))))))))))) (f12_k14 m0) [(4, x4), (6, x6), (7, x7), (103, x103), (104, x104), (105, x105)] B)
noncomputable def f12_r36 (m0 : Nat) (x4 x6 x7 x103 x104 x105 : AV) (B : List Row) : Option Res := exec PP HH 12 m0 EE LL (l2 (l2 (l1 (l1 (l2 (l1 (l2 (l2 (l2 (l2 (l2 (l2 (l2 (l2 (l2 (l2 (l2 (l2 (l2 (l2 (l2 f12_c))))))))))))))))))))) (f12_k15 m0) [(4, x4), (6, x6), (7, x7), (103, x103), (104, x104), (105, x105)] B
noncomputable def f12_r39 (m0 : Nat) (x4 x6 : AV) (B : List Row) : Option Res := exec PP HH 12 m0 EE LL (l2 (l2 (l2 (l2 (l2 (l2 (l2 (l2 (l2 (l2 (l2 (l2 (l2 (l2 (l2 (l2 f12_c)))))))))))))))) (f12_k0 m0) [(4, x4), (6, x6)] B
theorem f12_r3_eq (m0 : Nat) (x2 x3 x4 : AV) (B : List Row) : f12_r3 m0 x2 x3 x4 B =
 mk (ob (ldN true 5 x2 B) fun a14 =>
 bz PP 24 B fun a15 B16 =>
 stN 5 a15 a14 B16 fun B17 =>
 mk (ob (xfld 0 a15) fun a18 =>
 ob (xfld 0 x3) fun a19 =>
 ob (ldN false 1 a19 B17) fun a20 =>
 callS false EE 26 [a18, a20] B17 fun a21 B22 =>
 mk (ob (xfld 1 a15) fun a23 =>
 ob (xfld 1 x3) fun a24 =>
 ob (ldN false 1 a24 B22) fun a25 =>
 callS false EE 26 [a23, a25] B22 fun a26 B27 =>
 mk (ob (xfld 2 a15) fun a28 =>
 ob (xfld 2 x3) fun a29 =>
 ob (ldN false 1 a29 B27) fun a30 =>
 callS false EE 26 [a28, a30] B27 fun a31 B32 =>
 mk (ob (xfld 3 a15) fun a33 =>
 ob (xfld 3 x3) fun a34 =>
 ob (ldN false 1 a34 B32) fun a35 =>
 callS false EE 26 [a33, a35] B32 fun a36 B37 =>
 mk (ob (ldN true 5 a15 B37) fun a38 =>
 callS false EE 27 [a38] B37 fun a39 B40 =>
 ob (xun PP .not a39) fun a41 =>
 asB (shr a41) fun t42 => br t42 (f12_r9 m0 x4 (gcB m0 [x4] B40))
 (ob (xfld 4 x3) fun a43 =>
 ob (ldN false 1 a43 B40) fun a44 =>
 callS false EE 28 [a44, (.clo 21 [] [])] B40 fun a45 B46 =>
 ob (xun PP .not a45) fun a47 =>
 asB (shr a47) fun t48 => br t48 (f12_r9 m0 x4 (gcB m0 [x4] B46))
 (f12_r10 m0 x2 x3 x4 a15 (gcB m0 [x2, x3, x4, a15] B46))))))))) := by kernel_rfl
theorem f12_r9_eq (m0 : Nat) (x4 : AV) (B : List Row) : f12_r9 m0 x4 B =
 mk (ob (xbuild PP 24 []) fun a49 =>
 stN 5 x4 a49 B fun B50 =>
 f12_ret x4 (iv 30) B50) := by kernel_rfl
theorem f12_r10_eq (m0 : Nat) (x2 x3 x4 x6 : AV) (B : List Row) : f12_r10 m0 x2 x3 x4 x6 B =
 mk (ob (ldN true 6 x3 B) fun a51 =>
 callS false EE 29 [a51] B fun a52 B53 =>
 asB a52 fun t54 => br t54 (mk (ob (xbuild PP 24 []) fun a55 =>
 stN 5 x4 a55 B53 fun B56 =>
 f12_ret x4 (iv 31) B56))
 (f12_r12 m0 x2 x3 x4 x6 (gcB m0 [x2, x3, x4, x6] B53))) := by kernel_rfl
theorem f12_r12_eq (m0 : Nat) (x2 x3 x4 x6 : AV) (B : List Row) : f12_r12 m0 x2 x3 x4 x6 B =
 mk (xmake PP 64 B fun a57 B58 =>
 mk (ob (xfld 4 x2) fun a59 =>
 ob (ldN false 1 a59 B58) fun a60 =>
 ob (xlen PP 22 a60) fun a61 =>
 f12_l14 m0 x3 x4 x6 (shr a57) a60 a61 (iv 0) (gcB m0 [x3, x4, x6, (shr a57), a60, a61, (iv 0)] B58))) := by kernel_rfl
theorem f12_l14_eq (m0 : Nat) (x3 x4 x6 x7 x54 x55 x56 : AV) (B : List Row) : f12_l14 m0 x3 x4 x6 x7 x54 x55 x56 B =
 mk (ob (xbin PP .lss 3 x56 x55) fun a62 =>
 asB a62 fun t63 => br t63 (f12_r15 m0 x3 x4 x6 x7 x54 x55 x56 (gcB m0 [x3, x4, x6, x7, x54, x55, x56] B))
 (f12_r18 m0 x3 x4 x6 x7 (gcB m0 [x3, x4, x6, x7] B))) := (L_eq PP XX HH _ _ _ _ _ _).trans (by kernel_rfl)
theorem f12_r15_eq (m0 : Nat) (x3 x4 x6 x7 x54 x55 x56 : AV) (B : List Row) : f12_r15 m0 x3 x4 x6 x7 x54 x55 x56 B =
 mk (ob (xidx 5 x54 x56) fun a64 =>
 ob (ldN true 5 a64 B) fun a65 =>
 bz PP 43 B fun a66 B67 =>
 stN 5 a66 a65 B67 fun B68 =>
 mk (ob (xfld 0 a66) fun a69 =>
 ob (ldN false 1 a69 B68) fun a70 =>
 ob (ldN true 5 a66 B68) fun a71 =>
 xupd PP 64 (shr x7) a70 a71 B68 fun B72 =>
 mk (ob (xbin PP .add 3 x56 (iv 1)) fun a73 =>
 f12_l14 m0 x3 x4 x6 x7 x54 x55 (shr a73) (gcB m0 [x3, x4, x6, x7, x54, x55, (shr a73)] B72)))) := by kernel_rfl
theorem f12_r18_eq (m0 : Nat) (x3 x4 x6 x7 : AV) (B : List Row) : f12_r18 m0 x3 x4 x6 x7 B =
 mk (ob (xfld 5 x3) fun a74 =>
 ob (ldN false 1 a74 B) fun a75 =>
 ob (xlen PP 25 a75) fun a76 =>
 f12_l19 m0 x3 x4 x6 x7 a75 a76 (iv 0) (gcB m0 [x3, x4, x6, x7, a75, a76, (iv 0)] B)) := by kernel_rfl
theorem f12_l19_eq (m0 : Nat) (x3 x4 x6 x7 x66 x67 x68 : AV) (B : List Row) : f12_l19 m0 x3 x4 x6 x7 x66 x67 x68 B =
 mk (ob (xbin PP .lss 3 x68 x67) fun a77 =>
 asB a77 fun t78 => br t78 (f12_r20 m0 x3 x4 x6 x7 x66 x67 x68 (gcB m0 [x3, x4, x6, x7, x66, x67, x68] B))
 (f12_r26 m0 x3 x4 x6 x7 (gcB m0 [x3, x4, x6, x7] B))) := (L_eq PP XX HH _ _ _ _ _ _).trans (by kernel_rfl)
theorem f12_r20_eq (m0 : Nat) (x3 x4 x6 x7 x66 x67 x68 : AV) (B : List Row) : f12_r20 m0 x3 x4 x6 x7 x66 x67 x68 B =
 mk (ob (xidx 1 x66 x68) fun a79 =>
 ob (ldN false 1 a79 B) fun a80 =>
 mk (ob (xlook PP 64 true (shr x7) (shr (shr a80)) B) fun a81 =>
 ob (xext 0 (shr a81)) fun a82 =>
 ob (xext 1 (shr a81)) fun a83 =>
 bz PP 43 B fun a84 B85 =>
 stN 5 a84 (shr a82) B85 fun B86 =>
 mk (ob (xun PP .not (shr (shr (shr a83)))) fun a87 =>
 asB a87 fun t88 => br t88 (mk (ob (xbuild PP 24 []) fun a89 =>
 stN 5 x4 a89 B86 fun B90 =>
 f12_ret x4 (iv 32) B90))
 (f12_r24 m0 x3 x4 x6 x7 (shr a80) x66 x67 x68 (gcB m0 [x3, x4, x6, x7, (shr a80), x66, x67, x68] B86))))) := by kernel_rfl
theorem f12_r26_eq (m0 : Nat) (x3 x4 x6 x7 : AV) (B : List Row) : f12_r26 m0 x3 x4 x6 x7 B =
 mk (ob (xfld 4 x3) fun a91 =>
 ob (ldN false 1 a91 B) fun a92 =>
 ob (xlen PP 22 a92) fun a93 =>
 f12_l27 m0 x4 x6 x7 a92 a93 (iv 0) (gcB m0 [x4, x6, x7, a92, a93, (iv 0)] B)) := by kernel_rfl
theorem f12_r24_eq (m0 : Nat) (x3 x4 x6 x7 x11 x66 x67 x68 : AV) (B : List Row) : f12_r24 m0 x3 x4 x6 x7 x11 x66 x67 x68 B =
 mk (xdel PP 64 (shr x7) (shr x11) B fun B94 =>
 f12_r25 m0 x3 x4 x6 x7 x66 x67 x68 (gcB m0 [x3, x4, x6, x7, x66, x67, x68] B94)) := by kernel_rfl
theorem f12_l27_eq (m0 : Nat) (x4 x6 x7 x85 x86 x87 : AV) (B : List Row) : f12_l27 m0 x4 x6 x7 x85 x86 x87 B =
 mk (ob (xbin PP .lss 3 x87 x86) fun a95 =>
 asB a95 fun t96 => br t96 (f12_r28 m0 x4 x6 x7 x85 x86 x87 (gcB m0 [x4, x6, x7, x85, x86, x87] B))
 (f12_r31 m0 x4 x6 x7 (gcB m0 [x4, x6, x7] B))) := (L_eq PP XX HH _ _ _ _ _ _).trans (by kernel_rfl)
theorem f12_r25_eq (m0 : Nat) (x3 x4 x6 x7 x66 x67 x68 : AV) (B : List Row) : f12_r25 m0 x3 x4 x6 x7 x66 x67 x68 B =
 mk (ob (xbin PP .add 3 x68 (iv 1)) fun a97 =>
 f12_l19 m0 x3 x4 x6 x7 x66 x67 (shr a97) (gcB m0 [x3, x4, x6, x7, x66, x67, (shr a97)] B)) := by kernel_rfl
theorem f12_r28_eq (m0 : Nat) (x4 x6 x7 x85 x86 x87 : AV) (B : List Row) : f12_r28 m0 x4 x6 x7 x85 x86 x87 B =
 mk (ob (xidx 5 x85 x87) fun a98 =>
 ob (ldN true 5 a98 B) fun a99 =>
 bz PP 43 B fun a100 B101 =>
 stN 5 a100 a99 B101 fun B102 =>
 mk (ob (xfld 0 a100) fun a103 =>
 ob (ldN false 1 a103 B102) fun a104 =>
 ob (ldN true 5 a100 B102) fun a105 =>
 xupd PP 64 (shr x7) a104 a105 B102 fun B106 =>
 mk (ob (xbin PP .add 3 x87 (iv 1)) fun a107 =>
 f12_l27 m0 x4 x6 x7 x85 x86 (shr a107) (gcB m0 [x4, x6, x7, x85, x86, (shr a107)] B106)))) := by kernel_rfl
theorem f12_r31_eq (m0 : Nat) (x4 x6 x7 : AV) (B : List Row) : f12_r31 m0 x4 x6 x7 B =
 mk (ob (xmlen (shr x7) B) fun a108 =>
 ob (xbin PP .gtr 3 a108 (iv 16)) fun a109 =>
 asB a109 fun t110 => br t110 (mk (ob (xbuild PP 24 []) fun a111 =>
 stN 5 x4 a111 B fun B112 =>
 f12_ret x4 (iv 33) B112))
 (f12_r33 m0 x4 x6 x7 (gcB m0 [x4, x6, x7] B))) := by kernel_rfl
theorem f12_r33_eq (m0 : Nat) (x4 x6 x7 : AV) (B : List Row) : f12_r33 m0 x4 x6 x7 B =
 mk (ob (xfld 4 x6) fun a113 =>
 stN 1 a113 nilA B fun B114 =>
 mk (callS false EE 31 [(shr x7)] B114 fun a115 B116 =>
 callS false EE 30 [a115] B116 fun a117 B118 =>
 ob (xlen PP 25 a117) fun a119 =>
 f12_l35 m0 x4 x6 x7 a117 a119 (iv 0) (gcB m0 [x4, x6, x7, a117, a119, (iv 0)] B118))) := by kernel_rfl
theorem f12_l35_eq (m0 : Nat) (x4 x6 x7 x103 x104 x105 : AV) (B : List Row) : f12_l35 m0 x4 x6 x7 x103 x104 x105 B =
 mk (ob (xbin PP .lss 3 x105 x104) fun a120 =>
 asB a120 fun t121 => br t121 (f12_r36 m0 x4 x6 x7 x103 x104 x105 (gcB m0 [x4, x6, x7, x103, x104, x105] B))
 (f12_r39 m0 x4 x6 (gcB m0 [x4, x6] B))) := (L_eq PP XX HH _ _ _ _ _ _).trans (by kernel_rfl)
theorem f12_r36_eq (m0 : Nat) (x4 x6 x7 x103 x104 x105 : AV) (B : List Row) : f12_r36 m0 x4 x6 x7 x103 x104 x105 B =
 mk (ob (xidx 1 x103 x105) fun a122 =>
 ob (ldN false 1 a122 B) fun a123 =>
 mk (ob (xfld 4 x6) fun a124 =>
 ldOwn a124 B fun a125 B126 =>
 ob (xlook PP 64 false (shr x7) (shr (shr a123)) B126) fun a127 =>
 ob (xlit PP 22 1 [(0, a127)]) fun a128 =>
 ob (xapp 5 a125 a128) fun a129 =>
 ob (xfld 4 x6) fun a130 =>
 stN 1 a130 a129 B126 fun B131 =>
 mk (ob (xbin PP .add 3 x105 (iv 1)) fun a132 =>
 f12_l35 m0 x4 x6 x7 x103 x104 (shr a132) (gcB m0 [x4, x6, x7, x103, x104, (shr a132)] B131)))) := by kernel_rfl
theorem f12_r39_eq (m0 : Nat) (x4 x6 : AV) (B : List Row) : f12_r39 m0 x4 x6 B =
 mk (ob (ldN true 5 x6 B) fun a133 =>
 stN 5 x4 a133 B fun B134 =>
 f12_ret x4 (iv 0) B134) := by kernel_rfl
theorem f12_eq (x0 x1 : AV) (B : List Row) : EE 12 [x0, x1] B =
 (let m0 := B.length
 mk (bx x0 B fun a1 B2 =>
 bx x1 B2 fun a3 B4 =>
 bz PP 24 B4 fun a5 B6 =>
 mk (ob (ldN true 5 a1 B6) fun a7 =>
 callS false EE 16 [a7] B6 fun a8 B9 =>
 ob (xun PP .not a8) fun a10 =>
 asB a10 fun t11 => br t11 (mk (ob (xbuild PP 24 []) fun a12 =>
 stN 5 a5 a12 B9 fun B13 =>
 f12_ret a5 (iv 10) B13))
 (f12_r3 m0 a1 a3 a5 (gcB m0 [a1, a3, a5] B9))))) := (E_eq PP XX HH _ _ _).trans (by kernel_rfl)
/-! "colander/colanderref07.Same" -/
noncomputable def f13_c : Code := bodyOf Try.f13
def f13_ret (r0 : AV) (B : List Row) : Option Res :=
 ob (ob (some r0) fun v => ob (some []) fun vs => some (v :: vs)) fun vs => some ((nrmA (match vs with | [v] => v | vs => mkTup (vs.map shr))), B)
noncomputable def f13_k0 (m0 : Nat) : Kont := kret PP HH 13 Try.f13.results
noncomputable def f13_k1 (m0 : Nat) : Kont := kseq HH 13 m0 (l2 (l2 f13_c)) (exec PP HH 13 m0 EE LL (l2 (l2 f13_c)) (f13_k0 m0)) (f13_k0 m0)
noncomputable def f13_k2 (m0 : Nat) : Kont := kseq HH 13 m0 (l2 (l2 (l2 f13_c))) (exec PP HH 13 m0 EE LL (l2 (l2 (l2 f13_c))) (f13_k0 m0)) (f13_k0 m0)
noncomputable def f13_k3 (m0 : Nat) : Kont := kblk 0 (f13_k2 m0)
noncomputable def f13_k4 (m0 : Nat) : Kont := kloop HH 13 m0 (l1 (l1 (l2 (l1 (l2 (l2 f13_c)))))) (LL 13 m0 (l1 (l1 (l2 (l1 (l2 (l2 f13_c)))))) (f13_k3 m0)) (f13_k3 m0)
noncomputable def f13_r2 (m0 : Nat) (B : List Row) : Option Res := exec PP HH 13 m0 EE LL (l1 (l2 (l1 (l2 f13_c)))) (f13_k1 m0) [] B
noncomputable def f13_r3 (m0 : Nat) (x2 x3 : AV) (B : List Row) : Option Res := exec PP HH 13 m0 EE LL (l2 (l2 f13_c)) (f13_k0 m0) [(2, x2), (3, x3)] B
noncomputable def f13_l4 (m0 : Nat) (x2 x3 x5 : AV) (B : List Row) : Option Res := lp (LL 13 m0 (l1 (l1 (l2 (l1 (l2 (l2 f13_c)))))) (f13_k3 m0) [(2, x2), (3, x3), (5, x5)] B)
noncomputable def f13_r6 (m0 : Nat) (x2 x3 x5 : AV) (B : List Row) : Option Res := exec PP HH 13 m0 EE LL (l2 (l1 (l1 (l2 (l1 (l2 (l2 f13_c))))))) (f13_k4 m0) [(2, x2), (3, x3), (5, x5)] B
noncomputable def f13_r8 (m0 : Nat) (B : List Row) : Option Res := exec PP HH 13 m0 EE LL (l2 (l2 (l2 f13_c))) (f13_k0 m0) [] B
noncomputable def f13_r5 (m0 : Nat) (x2 x3 x5 : AV) (B : List Row) : Option Res := exec PP HH 13 m0 EE LL (l2 (l2 (l1 (l1 (l2 (l1 (l2 (l2 f13_c)))))))) (f13_k4 m0) [(2, x2), (3, x3), (5, x5)] B
theorem f13_r2_eq (m0 : Nat) (B : List Row) : f13_r2 m0  B =
 mk (f13_ret (bv false) B) := by kernel_rfl
theorem f13_r3_eq (m0 : Nat) (x2 x3 : AV) (B : List Row) : f13_r3 m0 x2 x3 B =
 mk (f13_l4 m0 x2 x3 (iv 0) (gcB m0 [x2, x3, (iv 0)] B)) := by kernel_rfl
theorem f13_l4_eq (m0 : Nat) (x2 x3 x5 : AV) (B : List Row) : f13_l4 m0 x2 x3 x5 B =
 mk (ob (xfld 4 x2) fun a37 =>
 ob (ldN false 1 a37 B) fun a38 =>
 ob (xlen PP 34 a38) fun a39 =>
 ob (xbin PP .lss 3 (shr x5) a39) fun a40 =>
 asB a40 fun t41 => br t41 (f13_r6 m0 x2 x3 x5 (gcB m0 [x2, x3, x5] B))
 (f13_r8 m0  (gcB m0 [] B))) := (L_eq PP XX HH _ _ _ _ _ _).trans (by kernel_rfl)
theorem f13_r6_eq (m0 : Nat) (x2 x3 x5 : AV) (B : List Row) : f13_r6 m0 x2 x3 x5 B =
 mk (ob (xfld 4 x2) fun a42 =>
 ob (ldN false 1 a42 B) fun a43 =>
 ob (xidx 5 a43 (shr x5)) fun a44 =>
 ob (ldN true 5 a44 B) fun a45 =>
 ob (xfld 4 x3) fun a46 =>
 ob (ldN false 1 a46 B) fun a47 =>
 ob (xidx 5 a47 (shr x5)) fun a48 =>
 ob (ldN true 5 a48 B) fun a49 =>
 ob (xbin PP .neq 69 a45 a49) fun a50 =>
 asB a50 fun t51 => br t51 (mk (f13_ret (bv false) B))
 (f13_r5 m0 x2 x3 x5 (gcB m0 [x2, x3, x5] B))) := by kernel_rfl
theorem f13_r8_eq (m0 : Nat) (B : List Row) : f13_r8 m0  B =
 mk (f13_ret (bv true) B) := by kernel_rfl
theorem f13_r5_eq (m0 : Nat) (x2 x3 x5 : AV) (B : List Row) : f13_r5 m0 x2 x3 x5 B =
 mk (ob (xbin PP .add 3 (shr x5) (iv 1)) fun a52 =>
 f13_l4 m0 x2 x3 (shr a52) (gcB m0 [x2, x3, (shr a52)] B)) := by kernel_rfl
theorem f13_eq (x0 x1 : AV) (B : List Row) : EE 13 [x0, x1] B =
 (let m0 := B.length
 mk (bx x0 B fun a1 B2 =>
 bx x1 B2 fun a3 B4 =>
 mk (ob (xfld 0 a1) fun a5 =>
 ob (ldN false 1 a5 B4) fun a6 =>
 ob (xfld 0 a3) fun a7 =>
 ob (ldN false 1 a7 B4) fun a8 =>
 ob (xbin PP .neq 3 a6 a8) fun a9 =>
 asB (shr a9) fun t10 => br t10 (f13_r2 m0  (gcB m0 [] B4))
 (ob (xfld 1 a1) fun a11 =>
 ob (ldN false 1 a11 B4) fun a12 =>
 ob (xfld 1 a3) fun a13 =>
 ob (ldN false 1 a13 B4) fun a14 =>
 ob (xbin PP .neq 3 a12 a14) fun a15 =>
 asB (shr (shr a15)) fun t16 => br t16 (f13_r2 m0  (gcB m0 [] B4))
 (ob (xfld 2 a1) fun a17 =>
 ob (ldN false 1 a17 B4) fun a18 =>
 ob (xfld 2 a3) fun a19 =>
 ob (ldN false 1 a19 B4) fun a20 =>
 ob (xbin PP .neq 3 a18 a20) fun a21 =>
 asB (shr (shr a21)) fun t22 => br t22 (f13_r2 m0  (gcB m0 [] B4))
 (ob (xfld 3 a1) fun a23 =>
 ob (ldN false 1 a23 B4) fun a24 =>
 ob (xfld 3 a3) fun a25 =>
 ob (ldN false 1 a25 B4) fun a26 =>
 ob (xbin PP .neq 3 a24 a26) fun a27 =>
 asB (shr (shr a27)) fun t28 => br t28 (f13_r2 m0  (gcB m0 [] B4))
 (ob (xfld 4 a1) fun a29 =>
 ob (ldN false 1 a29 B4) fun a30 =>
 ob (xlen PP 34 a30) fun a31 =>
 ob (xfld 4 a3) fun a32 =>
 ob (ldN false 1 a32 B4) fun a33 =>
 ob (xlen PP 34 a33) fun a34 =>
 ob (xbin PP .neq 3 a31 a34) fun a35 =>
 asB (shr a35) fun t36 => br t36 (f13_r2 m0  (gcB m0 [] B4))
 (f13_r3 m0 a1 a3 (gcB m0 [a1, a3] B4))))))))) := (E_eq PP XX HH _ _ _).trans (by kernel_rfl)
/-! "colander/colandermade.Set" -/
noncomputable def f14_c : Code := bodyOf Try.f14
def f14_ret (r0 : AV) (B : List Row) : Option Res :=
 ob (ob (ldN true 5 r0 B) fun v => ob (some []) fun vs => some (v :: vs)) fun vs => some ((nrmA (match vs with | [v] => v | vs => mkTup (vs.map shr))), B)
noncomputable def f14_k0 (m0 : Nat) : Kont := kret PP HH 14 Try.f14.results
noncomputable def f14_k1 (m0 : Nat) : Kont := kseq HH 14 m0 (l2 (l2 (l2 f14_c))) (exec PP HH 14 m0 EE LL (l2 (l2 (l2 f14_c))) (f14_k0 m0)) (f14_k0 m0)
noncomputable def f14_k2 (m0 : Nat) : Kont := kblk 0 (f14_k1 m0)
noncomputable def f14_k3 (m0 : Nat) : Kont := kloop HH 14 m0 (l1 (l1 (l2 (l1 (l2 (l2 f14_c)))))) (LL 14 m0 (l1 (l1 (l2 (l1 (l2 (l2 f14_c)))))) (f14_k2 m0)) (f14_k2 m0)
noncomputable def f14_l3 (m0 : Nat) (x2 x3 x16 x17 x18 : AV) (B : List Row) : Option Res := lp (LL 14 m0 (l1 (l1 (l2 (l1 (l2 (l2 f14_c)))))) (f14_k2 m0) [(2, x2), (3, x3), (16, x16), (17, x17), (18, x18)] B)
noncomputable def f14_r4 (m0 : Nat) (x2 x3 x16 x17 x18 : AV) (B : List Row) : Option Res := exec PP HH 14 m0 EE LL (l2 (l2 (l1 (l1 (l2 (l1 (l2 (l2 f14_c)))))))) (f14_k3 m0) [(2, x2), (3, x3), (16, x16), (17, x17), (18, x18)] B
noncomputable def f14_r7 (m0 : Nat) (x2 x3 : AV) (B : List Row) : Option Res := exec PP HH 14 m0 EE LL (l2 (l2 (l2 f14_c))) (f14_k0 m0) [(2, x2), (3, x3)] B
theorem f14_l3_eq (m0 : Nat) (x2 x3 x16 x17 x18 : AV) (B : List Row) : f14_l3 m0 x2 x3 x16 x17 x18 B =
 mk (ob (xbin PP .lss 3 x18 x17) fun a20 =>
 asB a20 fun t21 => br t21 (f14_r4 m0 x2 x3 x16 x17 x18 (gcB m0 [x2, x3, x16, x17, x18] B))
 (f14_r7 m0 x2 x3 (gcB m0 [x2, x3] B))) := (L_eq PP XX HH _ _ _ _ _ _).trans (by kernel_rfl)
theorem f14_r4_eq (m0 : Nat) (x2 x3 x16 x17 x18 : AV) (B : List Row) : f14_r4 m0 x2 x3 x16 x17 x18 B =
 mk (ob (xidx 5 x16 x18) fun a22 =>
 ob (ldN true 5 a22 B) fun a23 =>
 bz PP 43 B fun a24 B25 =>
 stN 5 a24 a23 B25 fun B26 =>
 mk (ob (xfld 4 x3) fun a27 =>
 ldOwn a27 B26 fun a28 B29 =>
 ob (ldN true 5 a24 B29) fun a30 =>
 ob (xlit PP 34 1 [(0, a30)]) fun a31 =>
 ob (xapp 5 a28 a31) fun a32 =>
 ob (xfld 4 x3) fun a33 =>
 stN 1 a33 a32 B29 fun B34 =>
 mk (ob (xbin PP .add 3 x18 (iv 1)) fun a35 =>
 f14_l3 m0 x2 x3 x16 x17 (shr a35) (gcB m0 [x2, x3, x16, x17, (shr a35)] B34)))) := by kernel_rfl
theorem f14_r7_eq (m0 : Nat) (x2 x3 : AV) (B : List Row) : f14_r7 m0 x2 x3 B =
 mk (ob (ldN true 5 x3 B) fun a36 =>
 stN 5 x2 a36 B fun B37 =>
 f14_ret x2 B37) := by kernel_rfl
theorem f14_eq (x0 : AV) (B : List Row) : EE 14 [x0] B =
 (let m0 := B.length
 mk (bx x0 B fun a1 B2 =>
 bz PP 36 B2 fun a3 B4 =>
 mk (ob (xfld 0 a1) fun a5 =>
 ob (ldN false 1 a5 B4) fun a6 =>
 ob (xfld 1 a1) fun a7 =>
 ob (ldN false 1 a7 B4) fun a8 =>
 ob (xfld 2 a1) fun a9 =>
 ob (ldN false 1 a9 B4) fun a10 =>
 ob (xfld 3 a1) fun a11 =>
 ob (ldN false 1 a11 B4) fun a12 =>
 ob (xbuild PP 36 [(0, a6), (1, a8), (2, a10), (3, a12)]) fun a13 =>
 bz PP 36 B4 fun a14 B15 =>
 stN 5 a14 a13 B15 fun B16 =>
 mk (ob (xfld 4 a1) fun a17 =>
 ob (ldN false 1 a17 B16) fun a18 =>
 ob (xlen PP 22 a18) fun a19 =>
 f14_l3 m0 a3 a14 a18 a19 (iv 0) (gcB m0 [a3, a14, a18, a19, (iv 0)] B16))))) := (E_eq PP XX HH _ _ _).trans (by kernel_rfl)
/-! "colander/colanderlaw07.ids" -/
noncomputable def f15_c : Code := bodyOf Try.f15
def f15_ret (r0 : AV) (B : List Row) : Option Res :=
 ob (ob (some r0) fun v => ob (some []) fun vs => some (v :: vs)) fun vs => some ((nrmA (match vs with | [v] => v | vs => mkTup (vs.map shr))), B)
noncomputable def f15_k0 (m0 : Nat) : Kont := kret PP HH 15 Try.f15.results
noncomputable def f15_k1 (m0 : Nat) : Kont := kseq HH 15 m0 (l2 (l2 (l2 f15_c))) (exec PP HH 15 m0 EE LL (l2 (l2 (l2 f15_c))) (f15_k0 m0)) (f15_k0 m0)
noncomputable def f15_k2 (m0 : Nat) : Kont := kblk 0 (f15_k1 m0)
noncomputable def f15_k3 (m0 : Nat) : Kont := kloop HH 15 m0 (l1 (l1 (l2 (l1 (l2 (l2 f15_c)))))) (LL 15 m0 (l1 (l1 (l2 (l1 (l2 (l2 f15_c)))))) (f15_k2 m0)) (f15_k2 m0)
noncomputable def f15_l3 (m0 : Nat) (x3 x11 x12 x13 : AV) (B : List Row) : Option Res := lp (LL 15 m0 (l1 (l1 (l2 (l1 (l2 (l2 f15_c)))))) (f15_k2 m0) [(3, x3), (11, x11), (12, x12), (13, x13)] B)
noncomputable def f15_r4 (m0 : Nat) (x3 x11 x12 x13 : AV) (B : List Row) : Option Res := exec PP HH 15 m0 EE LL (l2 (l2 (l1 (l1 (l2 (l1 (l2 (l2 f15_c)))))))) (f15_k3 m0) [(3, x3), (11, x11), (12, x12), (13, x13)] B
noncomputable def f15_r7 (m0 : Nat) (x3 : AV) (B : List Row) : Option Res := exec PP HH 15 m0 EE LL (l2 (l2 (l2 f15_c))) (f15_k0 m0) [(3, x3)] B
theorem f15_l3_eq (m0 : Nat) (x3 x11 x12 x13 : AV) (B : List Row) : f15_l3 m0 x3 x11 x12 x13 B =
 mk (ob (xbin PP .lss 3 x13 x12) fun a10 =>
 asB a10 fun t11 => br t11 (f15_r4 m0 x3 x11 x12 x13 (gcB m0 [x3, x11, x12, x13] B))
 (f15_r7 m0 x3 (gcB m0 [x3] B))) := (L_eq PP XX HH _ _ _ _ _ _).trans (by kernel_rfl)
theorem f15_r4_eq (m0 : Nat) (x3 x11 x12 x13 : AV) (B : List Row) : f15_r4 m0 x3 x11 x12 x13 B =
 mk (ob (xidx 5 x11 x13) fun a12 =>
 ob (ldN true 5 a12 B) fun a13 =>
 bz PP 43 B fun a14 B15 =>
 stN 5 a14 a13 B15 fun B16 =>
 mk (ob (xfld 0 a14) fun a17 =>
 ob (ldN false 1 a17 B16) fun a18 =>
 ob (xlit PP 25 1 [(0, a18)]) fun a19 =>
 ob (xapp 1 x3 a19) fun a20 =>
 mk (ob (xbin PP .add 3 x13 (iv 1)) fun a21 =>
 f15_l3 m0 a20 x11 x12 (shr a21) (gcB m0 [a20, x11, x12, (shr a21)] B16)))) := by kernel_rfl
theorem f15_r7_eq (m0 : Nat) (x3 : AV) (B : List Row) : f15_r7 m0 x3 B =
 mk (f15_ret (shr (shr x3)) B) := by kernel_rfl
theorem f15_eq (x0 : AV) (B : List Row) : EE 15 [x0] B =
 (let m0 := B.length
 mk (bx x0 B fun a1 B2 =>
 mk (ob (xlit PP 25 0 []) fun a3 =>
 ob (xfld 5 a1) fun a4 =>
 ob (ldN false 1 a4 B2) fun a5 =>
 ob (xapp 1 a3 a5) fun a6 =>
 mk (ob (xfld 4 a1) fun a7 =>
 ob (ldN false 1 a7 B2) fun a8 =>
 ob (xlen PP 22 a8) fun a9 =>
 f15_l3 m0 a6 a8 a9 (iv 0) (gcB m0 [a6, a8, a9, (iv 0)] B2))))) := (E_eq PP XX HH _ _ _).trans (by kernel_rfl)
/-! "(colander/rule.Set).Right" -/
noncomputable def f16_c : Code := bodyOf Try.f16
def f16_ret (r0 : AV) (B : List Row) : Option Res :=
 ob (ob (some r0) fun v => ob (some []) fun vs => some (v :: vs)) fun vs => some ((nrmA (match vs with | [v] => v | vs => mkTup (vs.map shr))), B)
noncomputable def f16_k0 (m0 : Nat) : Kont := kret PP HH 16 Try.f16.results
noncomputable def f16_k1 (m0 : Nat) : Kont := kseq HH 16 m0 (l2 (l2 f16_c)) (exec PP HH 16 m0 EE LL (l2 (l2 f16_c)) (f16_k0 m0)) (f16_k0 m0)
noncomputable def f16_k2 (m0 : Nat) : Kont := kseq HH 16 m0 (l2 (l2 (l2 (l2 f16_c)))) (exec PP HH 16 m0 EE LL (l2 (l2 (l2 (l2 f16_c)))) (f16_k0 m0)) (f16_k0 m0)
noncomputable def f16_k3 (m0 : Nat) : Kont := kblk 0 (f16_k2 m0)
noncomputable def f16_k4 (m0 : Nat) : Kont := kloop HH 16 m0 (l1 (l1 (l2 (l1 (l2 (l2 (l2 f16_c))))))) (LL 16 m0 (l1 (l1 (l2 (l1 (l2 (l2 (l2 f16_c))))))) (f16_k3 m0)) (f16_k3 m0)
noncomputable def f16_k5 (m0 : Nat) : Kont := kseq HH 16 m0 (l2 (l2 (l2 (l1 (l1 (l2 (l1 (l2 (l2 (l2 f16_c)))))))))) (exec PP HH 16 m0 EE LL (l2 (l2 (l2 (l1 (l1 (l2 (l1 (l2 (l2 (l2 f16_c)))))))))) (f16_k4 m0)) (f16_k4 m0)
noncomputable def f16_k6 (m0 : Nat) : Kont := kblk 1 (f16_k5 m0)
noncomputable def f16_k7 (m0 : Nat) : Kont := kseq HH 16 m0 (l2 (l2 (l1 (l1 (l2 (l2 (l1 (l1 (l2 (l1 (l2 (l2 (l2 f16_c))))))))))))) (exec PP HH 16 m0 EE LL (l2 (l2 (l1 (l1 (l2 (l2 (l1 (l1 (l2 (l1 (l2 (l2 (l2 f16_c))))))))))))) (f16_k6 m0)) (f16_k6 m0)
noncomputable def f16_r2 (m0 : Nat) (B : List Row) : Option Res := exec PP HH 16 m0 EE LL (l1 (l2 (l1 (l2 f16_c)))) (f16_k1 m0) [] B
noncomputable def f16_r3 (m0 : Nat) (x1 : AV) (B : List Row) : Option Res := exec PP HH 16 m0 EE LL (l2 (l2 f16_c)) (f16_k0 m0) [(1, x1)] B
noncomputable def f16_l5 (m0 : Nat) (x3 x16 x17 x18 : AV) (B : List Row) : Option Res := lp (LL 16 m0 (l1 (l1 (l2 (l1 (l2 (l2 (l2 f16_c))))))) (f16_k3 m0) [(3, x3), (16, x16), (17, x17), (18, x18)] B)
noncomputable def f16_r6 (m0 : Nat) (x3 x16 x17 x18 : AV) (B : List Row) : Option Res := exec PP HH 16 m0 EE LL (l2 (l2 (l1 (l1 (l2 (l1 (l2 (l2 (l2 f16_c))))))))) (f16_k4 m0) [(3, x3), (16, x16), (17, x17), (18, x18)] B
noncomputable def f16_r11 (m0 : Nat) (B : List Row) : Option Res := exec PP HH 16 m0 EE LL (l2 (l2 (l2 (l2 f16_c)))) (f16_k0 m0) [] B
noncomputable def f16_r8 (m0 : Nat) (B : List Row) : Option Res := exec PP HH 16 m0 EE LL (l1 (l2 (l1 (l2 (l1 (l1 (l2 (l2 (l1 (l1 (l2 (l1 (l2 (l2 (l2 f16_c))))))))))))))) (f16_k7 m0) [] B
noncomputable def f16_r9 (m0 : Nat) (x5 x16 x17 x18 : AV) (B : List Row) : Option Res := exec PP HH 16 m0 EE LL (l2 (l2 (l1 (l1 (l2 (l2 (l1 (l1 (l2 (l1 (l2 (l2 (l2 f16_c))))))))))))) (f16_k6 m0) [(5, x5), (16, x16), (17, x17), (18, x18)] B
noncomputable def f16_r10 (m0 : Nat) (x3 x16 x17 x18 : AV) (B : List Row) : Option Res := exec PP HH 16 m0 EE LL (l2 (l2 (l2 (l1 (l1 (l2 (l1 (l2 (l2 (l2 f16_c)))))))))) (f16_k4 m0) [(3, x3), (16, x16), (17, x17), (18, x18)] B
theorem f16_r2_eq (m0 : Nat) (B : List Row) : f16_r2 m0  B =
 mk (f16_ret (bv false) B) := by kernel_rfl
theorem f16_r3_eq (m0 : Nat) (x1 : AV) (B : List Row) : f16_r3 m0 x1 B =
 mk (mk (ob (xfld 4 x1) fun a13 =>
 ob (ldN false 1 a13 B) fun a14 =>
 ob (xlen PP 22 a14) fun a15 =>
 f16_l5 m0 (iv 0) a14 a15 (iv 0) (gcB m0 [(iv 0), a14, a15, (iv 0)] B))) := by kernel_rfl
theorem f16_l5_eq (m0 : Nat) (x3 x16 x17 x18 : AV) (B : List Row) : f16_l5 m0 x3 x16 x17 x18 B =
 mk (ob (xbin PP .lss 3 x18 x17) fun a16 =>
 asB a16 fun t17 => br t17 (f16_r6 m0 x3 x16 x17 x18 (gcB m0 [x3, x16, x17, x18] B))
 (f16_r11 m0  (gcB m0 [] B))) := (L_eq PP XX HH _ _ _ _ _ _).trans (by kernel_rfl)
theorem f16_r6_eq (m0 : Nat) (x3 x16 x17 x18 : AV) (B : List Row) : f16_r6 m0 x3 x16 x17 x18 B =
 mk (ob (xidx 5 x16 x18) fun a18 =>
 ob (ldN true 5 a18 B) fun a19 =>
 bz PP 43 B fun a20 B21 =>
 stN 5 a20 a19 B21 fun B22 =>
 mk (ob (ldN true 5 a20 B22) fun a23 =>
 callS false EE 21 [a23] B22 fun a24 B25 =>
 ob (xun PP .not a24) fun a26 =>
 asB (shr a26) fun t27 => br t27 (f16_r8 m0  (gcB m0 [] B25))
 (ob (xfld 0 a20) fun a28 =>
 ob (ldN false 1 a28 B25) fun a29 =>
 ob (xbin PP .leq 3 a29 (shr x3)) fun a30 =>
 asB (shr a30) fun t31 => br t31 (f16_r8 m0  (gcB m0 [] B25))
 (f16_r9 m0 a20 x16 x17 x18 (gcB m0 [a20, x16, x17, x18] B25))))) := by kernel_rfl
theorem f16_r11_eq (m0 : Nat) (B : List Row) : f16_r11 m0  B =
 mk (f16_ret (bv true) B) := by kernel_rfl
theorem f16_r8_eq (m0 : Nat) (B : List Row) : f16_r8 m0  B =
 mk (f16_ret (bv false) B) := by kernel_rfl
theorem f16_r9_eq (m0 : Nat) (x5 x16 x17 x18 : AV) (B : List Row) : f16_r9 m0 x5 x16 x17 x18 B =
 mk (ob (xfld 0 x5) fun a32 =>
 ob (ldN false 1 a32 B) fun a33 =>
 f16_r10 m0 (shr a33) x16 x17 x18 (gcB m0 [(shr a33), x16, x17, x18] B)) := by kernel_rfl
theorem f16_r10_eq (m0 : Nat) (x3 x16 x17 x18 : AV) (B : List Row) : f16_r10 m0 x3 x16 x17 x18 B =
 mk (ob (xbin PP .add 3 x18 (iv 1)) fun a34 =>
 f16_l5 m0 x3 x16 x17 (shr a34) (gcB m0 [x3, x16, x17, (shr a34)] B)) := by kernel_rfl
theorem f16_eq (x0 : AV) (B : List Row) : EE 16 [x0] B =
 (let m0 := B.length
 mk (bx x0 B fun a1 B2 =>
 mk (ob (ldN true 5 a1 B2) fun a3 =>
 callS false EE 27 [a3] B2 fun a4 B5 =>
 ob (xun PP .not a4) fun a6 =>
 asB (shr a6) fun t7 => br t7 (f16_r2 m0  (gcB m0 [] B5))
 (ob (xfld 4 a1) fun a8 =>
 ob (ldN false 1 a8 B5) fun a9 =>
 ob (xlen PP 22 a9) fun a10 =>
 ob (xbin PP .gtr 3 a10 (iv 16)) fun a11 =>
 asB (shr a11) fun t12 => br t12 (f16_r2 m0  (gcB m0 [] B5))
 (f16_r3 m0 a1 (gcB m0 [a1] B5)))))) := (E_eq PP XX HH _ _ _).trans (by kernel_rfl)
/-! "colander/colanderref07.Apply" -/
noncomputable def f17_c : Code := bodyOf Try.f17
def f17_ret (r0 r1 : AV) (B : List Row) : Option Res :=
 ob (ob (ldN true 5 r0 B) fun v => ob (ob (some r1) fun v => ob (some []) fun vs => some (v :: vs)) fun vs => some (v :: vs)) fun vs => some ((nrmA (match vs with | [v] => v | vs => mkTup (vs.map shr))), B)
noncomputable def f17_k0 (m0 : Nat) : Kont := kret PP HH 17 Try.f17.results
noncomputable def f17_k1 (m0 : Nat) : Kont := kseq HH 17 m0 (l2 (l2 (l2 (l2 (l2 f17_c))))) (exec PP HH 17 m0 EE LL (l2 (l2 (l2 (l2 (l2 f17_c))))) (f17_k0 m0)) (f17_k0 m0)
noncomputable def f17_k2 (m0 : Nat) : Kont := kblk 0 (f17_k1 m0)
noncomputable def f17_k3 (m0 : Nat) : Kont := kloop HH 17 m0 (l1 (l1 (l2 (l1 (l2 (l2 (l2 (l2 f17_c)))))))) (LL 17 m0 (l1 (l1 (l2 (l1 (l2 (l2 (l2 (l2 f17_c)))))))) (f17_k2 m0)) (f17_k2 m0)
noncomputable def f17_k4 (m0 : Nat) : Kont := kseq HH 17 m0 (l2 (l2 (l2 (l2 (l2 (l2 (l2 f17_c))))))) (exec PP HH 17 m0 EE LL (l2 (l2 (l2 (l2 (l2 (l2 (l2 f17_c))))))) (f17_k0 m0)) (f17_k0 m0)
noncomputable def f17_k5 (m0 : Nat) : Kont := kblk 2 (f17_k4 m0)
noncomputable def f17_k6 (m0 : Nat) : Kont := kloop HH 17 m0 (l1 (l1 (l2 (l1 (l2 (l2 (l2 (l2 (l2 (l2 f17_c)))))))))) (LL 17 m0 (l1 (l1 (l2 (l1 (l2 (l2 (l2 (l2 (l2 (l2 f17_c)))))))))) (f17_k5 m0)) (f17_k5 m0)
noncomputable def f17_k7 (m0 : Nat) : Kont := kseq HH 17 m0 (l2 (l2 (l2 (l2 (l2 (l2 (l2 (l2 f17_c)))))))) (exec PP HH 17 m0 EE LL (l2 (l2 (l2 (l2 (l2 (l2 (l2 (l2 f17_c)))))))) (f17_k0 m0)) (f17_k0 m0)
noncomputable def f17_k8 (m0 : Nat) : Kont := kblk 4 (f17_k7 m0)
noncomputable def f17_k9 (m0 : Nat) : Kont := kloop HH 17 m0 (l1 (l1 (l2 (l1 (l2 (l2 (l2 (l2 (l2 (l2 (l2 f17_c))))))))))) (LL 17 m0 (l1 (l1 (l2 (l1 (l2 (l2 (l2 (l2 (l2 (l2 (l2 f17_c))))))))))) (f17_k8 m0)) (f17_k8 m0)
noncomputable def f17_k10 (m0 : Nat) : Kont := kseq HH 17 m0 (l2 (l2 (l1 (l1 (l2 (l1 (l2 (l2 (l2 (l2 (l2 (l2 (l2 f17_c))))))))))))) (exec PP HH 17 m0 EE LL (l2 (l2 (l1 (l1 (l2 (l1 (l2 (l2 (l2 (l2 (l2 (l2 (l2 f17_c))))))))))))) (f17_k9 m0)) (f17_k9 m0)
noncomputable def f17_k11 (m0 : Nat) : Kont := kblk 5 (f17_k10 m0)
noncomputable def f17_k12 (m0 : Nat) : Kont := kseq HH 17 m0 (l2 (l2 (l1 (l1 (l2 (l1 (l1 (l2 (l1 (l2 (l2 (l2 (l2 (l2 (l2 (l2 f17_c)))))))))))))))) (exec PP HH 17 m0 EE LL (l2 (l2 (l1 (l1 (l2 (l1 (l1 (l2 (l1 (l2 (l2 (l2 (l2 (l2 (l2 (l2 f17_c)))))))))))))))) (f17_k11 m0)) (f17_k11 m0)
noncomputable def f17_k13 (m0 : Nat) : Kont := kblk 6 (f17_k12 m0)
noncomputable def f17_k14 (m0 : Nat) : Kont := kseq HH 17 m0 (l2 (l2 (l2 (l2 (l2 (l2 (l2 (l2 (l2 f17_c))))))))) (exec PP HH 17 m0 EE LL (l2 (l2 (l2 (l2 (l2 (l2 (l2 (l2 (l2 f17_c))))))))) (f17_k0 m0)) (f17_k0 m0)
noncomputable def f17_k15 (m0 : Nat) : Kont := kblk 8 (f17_k14 m0)
noncomputable def f17_k16 (m0 : Nat) : Kont := kloop HH 17 m0 (l1 (l1 (l2 (l1 (l2 (l1 (l1 (l2 (l1 (l1 (l2 (l1 (l2 (l2 (l2 (l2 (l2 (l2 (l2 f17_c))))))))))))))))))) (LL 17 m0 (l1 (l1 (l2 (l1 (l2 (l1 (l1 (l2 (l1 (l1 (l2 (l1 (l2 (l2 (l2 (l2 (l2 (l2 (l2 f17_c))))))))))))))))))) (f17_k13 m0)) (f17_k13 m0)
noncomputable def f17_k17 (m0 : Nat) : Kont := kloop HH 17 m0 (l1 (l1 (l2 (l1 (l2 (l2 (l2 (l2 (l2 (l2 (l2 (l2 f17_c)))))))))))) (LL 17 m0 (l1 (l1 (l2 (l1 (l2 (l2 (l2 (l2 (l2 (l2 (l2 (l2 f17_c)))))))))))) (f17_k15 m0)) (f17_k15 m0)
noncomputable def f17_r3 (m0 : Nat) (x2 x3 x4 : AV) (B : List Row) : Option Res := exec PP HH 17 m0 EE LL (l2 (l2 f17_c)) (f17_k0 m0) [(2, x2), (3, x3), (4, x4)] B
noncomputable def f17_r6 (m0 : Nat) (x2 x3 x4 x6 : AV) (B : List Row) : Option Res := exec PP HH 17 m0 EE LL (l2 (l2 (l2 (l2 f17_c)))) (f17_k0 m0) [(2, x2), (3, x3), (4, x4), (6, x6)] B
noncomputable def f17_l7 (m0 : Nat) (x2 x3 x4 x6 x7 : AV) (B : List Row) : Option Res := lp (LL 17 m0 (l1 (l1 (l2 (l1 (l2 (l2 (l2 (l2 f17_c)))))))) (f17_k2 m0) [(2, x2), (3, x3), (4, x4), (6, x6), (7, x7)] B)
noncomputable def f17_r9 (m0 : Nat) (x2 x3 x4 x6 x7 : AV) (B : List Row) : Option Res := exec PP HH 17 m0 EE LL (l2 (l1 (l1 (l2 (l1 (l2 (l2 (l2 (l2 f17_c))))))))) (f17_k3 m0) [(2, x2), (3, x3), (4, x4), (6, x6), (7, x7)] B
noncomputable def f17_r11 (m0 : Nat) (x2 x3 x4 x6 : AV) (B : List Row) : Option Res := exec PP HH 17 m0 EE LL (l2 (l2 (l2 (l2 (l2 f17_c))))) (f17_k0 m0) [(2, x2), (3, x3), (4, x4), (6, x6)] B
noncomputable def f17_r8 (m0 : Nat) (x2 x3 x4 x6 x7 : AV) (B : List Row) : Option Res := exec PP HH 17 m0 EE LL (l2 (l2 (l1 (l1 (l2 (l1 (l2 (l2 (l2 (l2 f17_c)))))))))) (f17_k3 m0) [(2, x2), (3, x3), (4, x4), (6, x6), (7, x7)] B
noncomputable def f17_r13 (m0 : Nat) (x2 x3 x4 x6 : AV) (B : List Row) : Option Res := exec PP HH 17 m0 EE LL (l2 (l2 (l2 (l2 (l2 (l2 f17_c)))))) (f17_k0 m0) [(2, x2), (3, x3), (4, x4), (6, x6)] B
noncomputable def f17_l14 (m0 : Nat) (x2 x3 x4 x6 x8 : AV) (B : List Row) : Option Res := lp (LL 17 m0 (l1 (l1 (l2 (l1 (l2 (l2 (l2 (l2 (l2 (l2 f17_c)))))))))) (f17_k5 m0) [(2, x2), (3, x3), (4, x4), (6, x6), (8, x8)] B)
noncomputable def f17_r16 (m0 : Nat) (x2 x3 x4 x6 x8 : AV) (B : List Row) : Option Res := exec PP HH 17 m0 EE LL (l2 (l1 (l1 (l2 (l1 (l2 (l2 (l2 (l2 (l2 (l2 f17_c))))))))))) (f17_k6 m0) [(2, x2), (3, x3), (4, x4), (6, x6), (8, x8)] B
noncomputable def f17_r18 (m0 : Nat) (x2 x3 x4 x6 : AV) (B : List Row) : Option Res := exec PP HH 17 m0 EE LL (l2 (l2 (l2 (l2 (l2 (l2 (l2 f17_c))))))) (f17_k0 m0) [(2, x2), (3, x3), (4, x4), (6, x6)] B
noncomputable def f17_r15 (m0 : Nat) (x2 x3 x4 x6 x8 : AV) (B : List Row) : Option Res := exec PP HH 17 m0 EE LL (l2 (l2 (l1 (l1 (l2 (l1 (l2 (l2 (l2 (l2 (l2 (l2 f17_c)))))))))))) (f17_k6 m0) [(2, x2), (3, x3), (4, x4), (6, x6), (8, x8)] B
noncomputable def f17_l19 (m0 : Nat) (x2 x3 x4 x6 x9 : AV) (B : List Row) : Option Res := lp (LL 17 m0 (l1 (l1 (l2 (l1 (l2 (l2 (l2 (l2 (l2 (l2 (l2 f17_c))))))))))) (f17_k8 m0) [(2, x2), (3, x3), (4, x4), (6, x6), (9, x9)] B)
noncomputable def f17_r21 (m0 : Nat) (x2 x3 x4 x6 x9 : AV) (B : List Row) : Option Res := exec PP HH 17 m0 EE LL (l2 (l1 (l1 (l2 (l1 (l2 (l2 (l2 (l2 (l2 (l2 (l2 f17_c)))))))))))) (f17_k9 m0) [(2, x2), (3, x3), (4, x4), (6, x6), (9, x9)] B
noncomputable def f17_r28 (m0 : Nat) (x3 x4 x6 : AV) (B : List Row) : Option Res := exec PP HH 17 m0 EE LL (l2 (l2 (l2 (l2 (l2 (l2 (l2 (l2 f17_c)))))))) (f17_k0 m0) [(3, x3), (4, x4), (6, x6)] B
noncomputable def f17_l23 (m0 : Nat) (x2 x3 x4 x6 x9 x10 x11 : AV) (B : List Row) : Option Res := lp (LL 17 m0 (l1 (l1 (l2 (l1 (l2 (l1 (l1 (l2 (l1 (l1 (l2 (l1 (l2 (l2 (l2 (l2 (l2 (l2 (l2 f17_c))))))))))))))))))) (f17_k13 m0) [(2, x2), (3, x3), (4, x4), (6, x6), (9, x9), (10, x10), (11, x11)] B)
noncomputable def f17_l29 (m0 : Nat) (x3 x4 x6 x12 : AV) (B : List Row) : Option Res := lp (LL 17 m0 (l1 (l1 (l2 (l1 (l2 (l2 (l2 (l2 (l2 (l2 (l2 (l2 f17_c)))))))))))) (f17_k15 m0) [(3, x3), (4, x4), (6, x6), (12, x12)] B)
noncomputable def f17_r25 (m0 : Nat) (x2 x3 x4 x6 x9 x10 x11 : AV) (B : List Row) : Option Res := exec PP HH 17 m0 EE LL (l2 (l1 (l1 (l2 (l1 (l2 (l1 (l1 (l2 (l1 (l1 (l2 (l1 (l2 (l2 (l2 (l2 (l2 (l2 (l2 f17_c)))))))))))))))))))) (f17_k16 m0) [(2, x2), (3, x3), (4, x4), (6, x6), (9, x9), (10, x10), (11, x11)] B
noncomputable def f17_r26 (m0 : Nat) (x2 x3 x4 x6 x9 x10 : AV) (B : List Row) : Option Res := exec PP HH 17 m0 EE LL (l2 (l2 (l1 (l1 (l2 (l1 (l1 (l2 (l1 (l2 (l2 (l2 (l2 (l2 (l2 (l2 f17_c)))))))))))))))) (f17_k11 m0) [(2, x2), (3, x3), (4, x4), (6, x6), (9, x9), (10, x10)] B
noncomputable def f17_r31 (m0 : Nat) (x3 x4 x6 x12 : AV) (B : List Row) : Option Res := exec PP HH 17 m0 EE LL (l2 (l1 (l1 (l2 (l1 (l2 (l2 (l2 (l2 (l2 (l2 (l2 (l2 f17_c))))))))))))) (f17_k17 m0) [(3, x3), (4, x4), (6, x6), (12, x12)] B
noncomputable def f17_r32 (m0 : Nat) (x4 x6 : AV) (B : List Row) : Option Res := exec PP HH 17 m0 EE LL (l2 (l2 (l2 (l2 (l2 (l2 (l2 (l2 (l2 f17_c))))))))) (f17_k0 m0) [(4, x4), (6, x6)] B
noncomputable def f17_r20 (m0 : Nat) (x2 x3 x4 x6 x9 : AV) (B : List Row) : Option Res := exec PP HH 17 m0 EE LL (l2 (l2 (l1 (l1 (l2 (l1 (l2 (l2 (l2 (l2 (l2 (l2 (l2 f17_c))))))))))))) (f17_k9 m0) [(2, x2), (3, x3), (4, x4), (6, x6), (9, x9)] B
noncomputable def f17_r34 (m0 : Nat) (x4 x6 : AV) (B : List Row) : Option Res := exec PP HH 17 m0 EE LL (l2 (l2 (l2 (l2 (l2 (l2 (l2 (l2 (l2 (l2 f17_c)))))))))) (f17_k0 m0) [(4, x4), (6, x6)] B
theorem f17_r3_eq (m0 : Nat) (x2 x3 x4 : AV) (B : List Row) : f17_r3 m0 x2 x3 x4 B =
 mk (ob (xfld 0 x3) fun a14 =>
 ob (ldN false 1 a14 B) fun a15 =>
 ob (xfld 0 x2) fun a16 =>
 ob (ldN false 1 a16 B) fun a17 =>
 callS false EE 32 [a15, a17] B fun a18 B19 =>
 ob (xfld 1 x3) fun a20 =>
 ob (ldN false 1 a20 B19) fun a21 =>
 ob (xfld 1 x2) fun a22 =>
 ob (ldN false 1 a22 B19) fun a23 =>
 callS false EE 32 [a21, a23] B19 fun a24 B25 =>
 ob (xfld 2 x3) fun a26 =>
 ob (ldN false 1 a26 B25) fun a27 =>
 ob (xfld 2 x2) fun a28 =>
 ob (ldN false 1 a28 B25) fun a29 =>
 callS false EE 32 [a27, a29] B25 fun a30 B31 =>
 ob (xfld 3 x3) fun a32 =>
 ob (ldN false 1 a32 B31) fun a33 =>
 ob (xfld 3 x2) fun a34 =>
 ob (ldN false 1 a34 B31) fun a35 =>
 callS false EE 32 [a33, a35] B31 fun a36 B37 =>
 ob (xbuild PP 36 [(0, a18), (1, a24), (2, a30), (3, a36)]) fun a38 =>
 bz PP 36 B37 fun a39 B40 =>
 stN 5 a39 a38 B40 fun B41 =>
 grd (noPtrs [a18, a15, a17]) (grd (noPtrs [a18, a15, a17]) (grd (noPtrs [a18, a15, a17]) (grd (noPtrs [a24, a21, a23]) (grd (noPtrs [a18, a15, a17]) (grd (noPtrs [a24, a21, a23]) (grd (noPtrs [a18, a15, a17]) (grd (noPtrs [a24, a21, a23]) (grd (noPtrs [a30, a27, a29]) (grd (noPtrs [a18, a15, a17]) (grd (noPtrs [a24, a21, a23]) (grd (noPtrs [a30, a27, a29]) (grd (ptrNe a14 a39) (grd (ptrNe a16 a39) (grd (noPtrs [a18, a15, a17]) (grd (ptrNe a20 a39) (grd (ptrNe a22 a39) (grd (noPtrs [a24, a21, a23]) (grd (ptrNe a26 a39) (grd (ptrNe a28 a39) (grd (noPtrs [a30, a27, a29]) (grd (ptrNe a32 a39) (grd (ptrNe a34 a39) (grd (noPtrs [a36, a33, a35]) (mk (ob (ldN true 5 a39 B41) fun a42 =>
 callS false EE 33 [a42] B41 fun a43 B44 =>
 ob (xun PP .not a43) fun a45 =>
 asB a45 fun t46 => br t46 (mk (ob (xbuild PP 36 []) fun a47 =>
 stN 5 x4 a47 B44 fun B48 =>
 f17_ret x4 (iv 30) B48))
 (f17_r6 m0 x2 x3 x4 a39 (gcB m0 [x2, x3, x4, a39] B44)))))))))))))))))))))))))))) := by kernel_rfl
theorem f17_r6_eq (m0 : Nat) (x2 x3 x4 x6 : AV) (B : List Row) : f17_r6 m0 x2 x3 x4 x6 B =
 mk (f17_l7 m0 x2 x3 x4 x6 (iv 0) (gcB m0 [x2, x3, x4, x6, (iv 0)] B)) := by kernel_rfl
theorem f17_l7_eq (m0 : Nat) (x2 x3 x4 x6 x7 : AV) (B : List Row) : f17_l7 m0 x2 x3 x4 x6 x7 B =
 mk (ob (xfld 4 x3) fun a49 =>
 ob (ldN false 1 a49 B) fun a50 =>
 ob (xlen PP 34 a50) fun a51 =>
 ob (xbin PP .lss 3 (shr x7) a51) fun a52 =>
 asB a52 fun t53 => br t53 (f17_r9 m0 x2 x3 x4 x6 x7 (gcB m0 [x2, x3, x4, x6, x7] B))
 (f17_r11 m0 x2 x3 x4 x6 (gcB m0 [x2, x3, x4, x6] B))) := (L_eq PP XX HH _ _ _ _ _ _).trans (by kernel_rfl)
theorem f17_r9_eq (m0 : Nat) (x2 x3 x4 x6 x7 : AV) (B : List Row) : f17_r9 m0 x2 x3 x4 x6 x7 B =
 mk (ob (xfld 4 x3) fun a54 =>
 ob (ldN false 1 a54 B) fun a55 =>
 ob (xidx 5 a55 (shr x7)) fun a56 =>
 ob (ldN true 5 a56 B) fun a57 =>
 callS false EE 34 [a57] B fun a58 B59 =>
 ob (xun PP .not a58) fun a60 =>
 asB a60 fun t61 => br t61 (mk (ob (xbuild PP 36 []) fun a62 =>
 stN 5 x4 a62 B59 fun B63 =>
 f17_ret x4 (iv 30) B63))
 (f17_r8 m0 x2 x3 x4 x6 x7 (gcB m0 [x2, x3, x4, x6, x7] B59))) := by kernel_rfl
theorem f17_r11_eq (m0 : Nat) (x2 x3 x4 x6 : AV) (B : List Row) : f17_r11 m0 x2 x3 x4 x6 B =
 mk (ob (ldN true 6 x3 B) fun a64 =>
 callS false EE 35 [a64] B fun a65 B66 =>
 asB a65 fun t67 => br t67 (mk (ob (xbuild PP 36 []) fun a68 =>
 stN 5 x4 a68 B66 fun B69 =>
 f17_ret x4 (iv 31) B69))
 (f17_r13 m0 x2 x3 x4 x6 (gcB m0 [x2, x3, x4, x6] B66))) := by kernel_rfl
theorem f17_r8_eq (m0 : Nat) (x2 x3 x4 x6 x7 : AV) (B : List Row) : f17_r8 m0 x2 x3 x4 x6 x7 B =
 mk (ob (xbin PP .add 3 (shr x7) (iv 1)) fun a70 =>
 f17_l7 m0 x2 x3 x4 x6 (shr a70) (gcB m0 [x2, x3, x4, x6, (shr a70)] B)) := by kernel_rfl
theorem f17_r13_eq (m0 : Nat) (x2 x3 x4 x6 : AV) (B : List Row) : f17_r13 m0 x2 x3 x4 x6 B =
 mk (f17_l14 m0 x2 x3 x4 x6 (iv 0) (gcB m0 [x2, x3, x4, x6, (iv 0)] B)) := by kernel_rfl
theorem f17_l14_eq (m0 : Nat) (x2 x3 x4 x6 x8 : AV) (B : List Row) : f17_l14 m0 x2 x3 x4 x6 x8 B =
 mk (ob (xfld 5 x3) fun a71 =>
 ob (ldN false 1 a71 B) fun a72 =>
 ob (xlen PP 25 a72) fun a73 =>
 ob (xbin PP .lss 3 (shr x8) a73) fun a74 =>
 asB a74 fun t75 => br t75 (f17_r16 m0 x2 x3 x4 x6 x8 (gcB m0 [x2, x3, x4, x6, x8] B))
 (f17_r18 m0 x2 x3 x4 x6 (gcB m0 [x2, x3, x4, x6] B))) := (L_eq PP XX HH _ _ _ _ _ _).trans (by kernel_rfl)
theorem f17_r16_eq (m0 : Nat) (x2 x3 x4 x6 x8 : AV) (B : List Row) : f17_r16 m0 x2 x3 x4 x6 x8 B =
 mk (ob (xfld 4 x2) fun a76 =>
 ob (ldN false 1 a76 B) fun a77 =>
 ob (xfld 5 x3) fun a78 =>
 ob (ldN false 1 a78 B) fun a79 =>
 ob (xidx 1 a79 (shr x8)) fun a80 =>
 ob (ldN false 1 a80 B) fun a81 =>
 callS false EE 36 [a77, a81] B fun a82 B83 =>
 ob (xbin PP .lss 3 a82 (iv 0)) fun a84 =>
 asB a84 fun t85 => br t85 (mk (ob (xbuild PP 36 []) fun a86 =>
 stN 5 x4 a86 B83 fun B87 =>
 f17_ret x4 (iv 32) B87))
 (f17_r15 m0 x2 x3 x4 x6 x8 (gcB m0 [x2, x3, x4, x6, x8] B83))) := by kernel_rfl
theorem f17_r18_eq (m0 : Nat) (x2 x3 x4 x6 : AV) (B : List Row) : f17_r18 m0 x2 x3 x4 x6 B =
 mk (f17_l19 m0 x2 x3 x4 x6 (iv 0) (gcB m0 [x2, x3, x4, x6, (iv 0)] B)) := by kernel_rfl
theorem f17_r15_eq (m0 : Nat) (x2 x3 x4 x6 x8 : AV) (B : List Row) : f17_r15 m0 x2 x3 x4 x6 x8 B =
 mk (ob (xbin PP .add 3 (shr x8) (iv 1)) fun a88 =>
 f17_l14 m0 x2 x3 x4 x6 (shr a88) (gcB m0 [x2, x3, x4, x6, (shr a88)] B)) := by kernel_rfl
theorem f17_l19_eq (m0 : Nat) (x2 x3 x4 x6 x9 : AV) (B : List Row) : f17_l19 m0 x2 x3 x4 x6 x9 B =
 mk (ob (xfld 4 x2) fun a89 =>
 ob (ldN false 1 a89 B) fun a90 =>
 ob (xlen PP 34 a90) fun a91 =>
 ob (xbin PP .lss 3 (shr x9) a91) fun a92 =>
 asB a92 fun t93 => br t93 (f17_r21 m0 x2 x3 x4 x6 x9 (gcB m0 [x2, x3, x4, x6, x9] B))
 (f17_r28 m0 x3 x4 x6 (gcB m0 [x3, x4, x6] B))) := (L_eq PP XX HH _ _ _ _ _ _).trans (by kernel_rfl)
theorem f17_r21_eq (m0 : Nat) (x2 x3 x4 x6 x9 : AV) (B : List Row) : f17_r21 m0 x2 x3 x4 x6 x9 B =
 mk (mk (f17_l23 m0 x2 x3 x4 x6 x9 (bv false) (iv 0) (gcB m0 [x2, x3, x4, x6, x9, (bv false), (iv 0)] B))) := by kernel_rfl
theorem f17_r28_eq (m0 : Nat) (x3 x4 x6 : AV) (B : List Row) : f17_r28 m0 x3 x4 x6 B =
 mk (f17_l29 m0 x3 x4 x6 (iv 0) (gcB m0 [x3, x4, x6, (iv 0)] B)) := by kernel_rfl
theorem f17_l23_eq (m0 : Nat) (x2 x3 x4 x6 x9 x10 x11 : AV) (B : List Row) : f17_l23 m0 x2 x3 x4 x6 x9 x10 x11 B =
 mk (ob (xfld 5 x3) fun a94 =>
 ob (ldN false 1 a94 B) fun a95 =>
 ob (xlen PP 25 a95) fun a96 =>
 ob (xbin PP .lss 3 (shr x11) a96) fun a97 =>
 asB a97 fun t98 => br t98 (f17_r25 m0 x2 x3 x4 x6 x9 x10 x11 (gcB m0 [x2, x3, x4, x6, x9, x10, x11] B))
 (f17_r26 m0 x2 x3 x4 x6 x9 x10 (gcB m0 [x2, x3, x4, x6, x9, x10] B))) := (L_eq PP XX HH _ _ _ _ _ _).trans (by kernel_rfl)
theorem f17_l29_eq (m0 : Nat) (x3 x4 x6 x12 : AV) (B : List Row) : f17_l29 m0 x3 x4 x6 x12 B =
 mk (ob (xfld 4 x3) fun a99 =>
 ob (ldN false 1 a99 B) fun a100 =>
 ob (xlen PP 34 a100) fun a101 =>
 ob (xbin PP .lss 3 (shr x12) a101) fun a102 =>
 asB a102 fun t103 => br t103 (f17_r31 m0 x3 x4 x6 x12 (gcB m0 [x3, x4, x6, x12] B))
 (f17_r32 m0 x4 x6 (gcB m0 [x4, x6] B))) := (L_eq PP XX HH _ _ _ _ _ _).trans (by kernel_rfl)
theorem f17_r25_eq (m0 : Nat) (x2 x3 x4 x6 x9 x10 x11 : AV) (B : List Row) : f17_r25 m0 x2 x3 x4 x6 x9 x10 x11 B =
 mk (asB (shr (shr x10)) fun t104 => br t104 (mk (ob (xbin PP .add 3 (shr x11) (iv 1)) fun a105 =>
 f17_l23 m0 x2 x3 x4 x6 x9 (bv true) (shr a105) (gcB m0 [x2, x3, x4, x6, x9, (bv true), (shr a105)] B)))
 (ob (xfld 5 x3) fun a106 =>
 ob (ldN false 1 a106 B) fun a107 =>
 ob (xidx 1 a107 (shr x11)) fun a108 =>
 ob (ldN false 1 a108 B) fun a109 =>
 ob (xfld 4 x2) fun a110 =>
 ob (ldN false 1 a110 B) fun a111 =>
 ob (xidx 5 a111 (shr x9)) fun a112 =>
 ob (xfld 0 a112) fun a113 =>
 ob (ldN false 1 a113 B) fun a114 =>
 ob (xbin PP .eql 3 a109 a114) fun a115 =>
 mk (ob (xbin PP .add 3 (shr x11) (iv 1)) fun a116 =>
 f17_l23 m0 x2 x3 x4 x6 x9 (shr (shr a115)) (shr a116) (gcB m0 [x2, x3, x4, x6, x9, (shr (shr a115)), (shr a116)] B)))) := by kernel_rfl
theorem f17_r26_eq (m0 : Nat) (x2 x3 x4 x6 x9 x10 : AV) (B : List Row) : f17_r26 m0 x2 x3 x4 x6 x9 x10 B =
 mk (ob (xun PP .not (shr x10)) fun a117 =>
 asB a117 fun t118 => br t118 (mk (ob (xfld 4 x6) fun a119 =>
 ldOwn a119 B fun a120 B121 =>
 ob (xfld 4 x2) fun a122 =>
 ob (ldN false 1 a122 B121) fun a123 =>
 ob (xidx 5 a123 (shr x9)) fun a124 =>
 ob (ldN true 5 a124 B121) fun a125 =>
 ob (xlit PP 34 1 [(0, a125)]) fun a126 =>
 ob (xapp 5 a120 a126) fun a127 =>
 ob (xfld 4 x6) fun a128 =>
 stN 1 a128 a127 B121 fun B129 =>
 grd (ptrNe a119 a122) (grd (ptrNe a119 a124) (f17_r20 m0 x2 x3 x4 x6 x9 (gcB m0 [x2, x3, x4, x6, x9] B129)))))
 (f17_r20 m0 x2 x3 x4 x6 x9 (gcB m0 [x2, x3, x4, x6, x9] B))) := by kernel_rfl
theorem f17_r31_eq (m0 : Nat) (x3 x4 x6 x12 : AV) (B : List Row) : f17_r31 m0 x3 x4 x6 x12 B =
 mk (ob (xfld 4 x6) fun a130 =>
 ob (ldN false 1 a130 B) fun a131 =>
 ob (xfld 4 x3) fun a132 =>
 ob (ldN false 1 a132 B) fun a133 =>
 ob (xidx 5 a133 (shr x12)) fun a134 =>
 ob (ldN true 5 a134 B) fun a135 =>
 callS false EE 37 [a131, a135] B fun a136 B137 =>
 ob (xfld 4 x6) fun a138 =>
 stN 1 a138 a136 B137 fun B139 =>
 mk (ob (xbin PP .add 3 (shr x12) (iv 1)) fun a140 =>
 f17_l29 m0 x3 x4 x6 (shr a140) (gcB m0 [x3, x4, x6, (shr a140)] B139))) := by kernel_rfl
theorem f17_r32_eq (m0 : Nat) (x4 x6 : AV) (B : List Row) : f17_r32 m0 x4 x6 B =
 mk (ob (xfld 4 x6) fun a141 =>
 ob (ldN false 1 a141 B) fun a142 =>
 ob (xlen PP 34 a142) fun a143 =>
 ob (xbin PP .gtr 3 a143 (iv 16)) fun a144 =>
 asB a144 fun t145 => br t145 (mk (ob (xbuild PP 36 []) fun a146 =>
 stN 5 x4 a146 B fun B147 =>
 f17_ret x4 (iv 33) B147))
 (f17_r34 m0 x4 x6 (gcB m0 [x4, x6] B))) := by kernel_rfl
theorem f17_r20_eq (m0 : Nat) (x2 x3 x4 x6 x9 : AV) (B : List Row) : f17_r20 m0 x2 x3 x4 x6 x9 B =
 mk (ob (xbin PP .add 3 (shr x9) (iv 1)) fun a148 =>
 f17_l19 m0 x2 x3 x4 x6 (shr a148) (gcB m0 [x2, x3, x4, x6, (shr a148)] B)) := by kernel_rfl
theorem f17_r34_eq (m0 : Nat) (x4 x6 : AV) (B : List Row) : f17_r34 m0 x4 x6 B =
 mk (ob (ldN true 5 x6 B) fun a149 =>
 stN 5 x4 a149 B fun B150 =>
 f17_ret x4 (iv 0) B150) := by kernel_rfl
theorem f17_eq (x0 x1 : AV) (B : List Row) : EE 17 [x0, x1] B =
 (let m0 := B.length
 mk (bx x0 B fun a1 B2 =>
 bx x1 B2 fun a3 B4 =>
 bz PP 36 B4 fun a5 B6 =>
 mk (ob (ldN true 5 a1 B6) fun a7 =>
 callS false EE 19 [a7] B6 fun a8 B9 =>
 ob (xun PP .not a8) fun a10 =>
 asB a10 fun t11 => br t11 (mk (ob (xbuild PP 36 []) fun a12 =>
 stN 5 a5 a12 B9 fun B13 =>
 f17_ret a5 (iv 10) B13))
 (f17_r3 m0 a1 a3 a5 (gcB m0 [a1, a3, a5] B9))))) := (E_eq PP XX HH _ _ _).trans (by kernel_rfl)
/-! "colander/colandermade.Delta" -/
noncomputable def f18_c : Code := bodyOf Try.f18
def f18_ret (r0 : AV) (B : List Row) : Option Res :=
 ob (ob (ldN true 6 r0 B) fun v => ob (some []) fun vs => some (v :: vs)) fun vs => some ((nrmA (match vs with | [v] => v | vs => mkTup (vs.map shr))), B)
noncomputable def f18_k0 (m0 : Nat) : Kont := kret PP HH 18 Try.f18.results
noncomputable def f18_k1 (m0 : Nat) : Kont := kseq HH 18 m0 (l2 (l2 (l2 f18_c))) (exec PP HH 18 m0 EE LL (l2 (l2 (l2 f18_c))) (f18_k0 m0)) (f18_k0 m0)
noncomputable def f18_k2 (m0 : Nat) : Kont := kblk 0 (f18_k1 m0)
noncomputable def f18_k3 (m0 : Nat) : Kont := kloop HH 18 m0 (l1 (l1 (l2 (l1 (l2 (l2 f18_c)))))) (LL 18 m0 (l1 (l1 (l2 (l1 (l2 (l2 f18_c)))))) (f18_k2 m0)) (f18_k2 m0)
noncomputable def f18_l3 (m0 : Nat) (x2 x3 x18 x19 x20 : AV) (B : List Row) : Option Res := lp (LL 18 m0 (l1 (l1 (l2 (l1 (l2 (l2 f18_c)))))) (f18_k2 m0) [(2, x2), (3, x3), (18, x18), (19, x19), (20, x20)] B)
noncomputable def f18_r4 (m0 : Nat) (x2 x3 x18 x19 x20 : AV) (B : List Row) : Option Res := exec PP HH 18 m0 EE LL (l2 (l2 (l1 (l1 (l2 (l1 (l2 (l2 f18_c)))))))) (f18_k3 m0) [(2, x2), (3, x3), (18, x18), (19, x19), (20, x20)] B
noncomputable def f18_r7 (m0 : Nat) (x2 x3 : AV) (B : List Row) : Option Res := exec PP HH 18 m0 EE LL (l2 (l2 (l2 f18_c))) (f18_k0 m0) [(2, x2), (3, x3)] B
theorem f18_l3_eq (m0 : Nat) (x2 x3 x18 x19 x20 : AV) (B : List Row) : f18_l3 m0 x2 x3 x18 x19 x20 B =
 mk (ob (xbin PP .lss 3 x20 x19) fun a22 =>
 asB a22 fun t23 => br t23 (f18_r4 m0 x2 x3 x18 x19 x20 (gcB m0 [x2, x3, x18, x19, x20] B))
 (f18_r7 m0 x2 x3 (gcB m0 [x2, x3] B))) := (L_eq PP XX HH _ _ _ _ _ _).trans (by kernel_rfl)
theorem f18_r4_eq (m0 : Nat) (x2 x3 x18 x19 x20 : AV) (B : List Row) : f18_r4 m0 x2 x3 x18 x19 x20 B =
 mk (ob (xidx 5 x18 x20) fun a24 =>
 ob (ldN true 5 a24 B) fun a25 =>
 bz PP 43 B fun a26 B27 =>
 stN 5 a26 a25 B27 fun B28 =>
 mk (ob (xfld 4 x3) fun a29 =>
 ldOwn a29 B28 fun a30 B31 =>
 ob (ldN true 5 a26 B31) fun a32 =>
 ob (xlit PP 34 1 [(0, a32)]) fun a33 =>
 ob (xapp 5 a30 a33) fun a34 =>
 ob (xfld 4 x3) fun a35 =>
 stN 1 a35 a34 B31 fun B36 =>
 mk (ob (xbin PP .add 3 x20 (iv 1)) fun a37 =>
 f18_l3 m0 x2 x3 x18 x19 (shr a37) (gcB m0 [x2, x3, x18, x19, (shr a37)] B36)))) := by kernel_rfl
theorem f18_r7_eq (m0 : Nat) (x2 x3 : AV) (B : List Row) : f18_r7 m0 x2 x3 B =
 mk (ob (ldN true 6 x3 B) fun a38 =>
 stN 6 x2 a38 B fun B39 =>
 f18_ret x2 B39) := by kernel_rfl
theorem f18_eq (x0 : AV) (B : List Row) : EE 18 [x0] B =
 (let m0 := B.length
 mk (bx x0 B fun a1 B2 =>
 bz PP 48 B2 fun a3 B4 =>
 mk (ob (xfld 0 a1) fun a5 =>
 ob (ldN false 1 a5 B4) fun a6 =>
 ob (xfld 1 a1) fun a7 =>
 ob (ldN false 1 a7 B4) fun a8 =>
 ob (xfld 2 a1) fun a9 =>
 ob (ldN false 1 a9 B4) fun a10 =>
 ob (xfld 3 a1) fun a11 =>
 ob (ldN false 1 a11 B4) fun a12 =>
 ob (xfld 5 a1) fun a13 =>
 ob (ldN false 1 a13 B4) fun a14 =>
 ob (xbuild PP 48 [(0, a6), (1, a8), (2, a10), (3, a12), (5, a14)]) fun a15 =>
 bz PP 48 B4 fun a16 B17 =>
 stN 6 a16 a15 B17 fun B18 =>
 mk (ob (xfld 4 a1) fun a19 =>
 ob (ldN false 1 a19 B18) fun a20 =>
 ob (xlen PP 22 a20) fun a21 =>
 f18_l3 m0 a3 a16 a20 a21 (iv 0) (gcB m0 [a3, a16, a20, a21, (iv 0)] B18))))) := (E_eq PP XX HH _ _ _).trans (by kernel_rfl)
/-! "(colander/colanderref07.Set).Right" -/
noncomputable def f19_c : Code := bodyOf Try.f19
def f19_ret (r0 : AV) (B : List Row) : Option Res :=
 ob (ob (some r0) fun v => ob (some []) fun vs => some (v :: vs)) fun vs => some ((nrmA (match vs with | [v] => v | vs => mkTup (vs.map shr))), B)
noncomputable def f19_k0 (m0 : Nat) : Kont := kret PP HH 19 Try.f19.results
noncomputable def f19_k1 (m0 : Nat) : Kont := kseq HH 19 m0 (l2 (l2 f19_c)) (exec PP HH 19 m0 EE LL (l2 (l2 f19_c)) (f19_k0 m0)) (f19_k0 m0)
noncomputable def f19_k2 (m0 : Nat) : Kont := kseq HH 19 m0 (l2 (l2 (l2 f19_c))) (exec PP HH 19 m0 EE LL (l2 (l2 (l2 f19_c))) (f19_k0 m0)) (f19_k0 m0)
noncomputable def f19_k3 (m0 : Nat) : Kont := kblk 0 (f19_k2 m0)
noncomputable def f19_k4 (m0 : Nat) : Kont := kloop HH 19 m0 (l1 (l1 (l2 (l1 (l2 (l2 f19_c)))))) (LL 19 m0 (l1 (l1 (l2 (l1 (l2 (l2 f19_c)))))) (f19_k3 m0)) (f19_k3 m0)
noncomputable def f19_k5 (m0 : Nat) : Kont := kseq HH 19 m0 (l2 (l2 (l1 (l1 (l2 (l1 (l2 (l2 f19_c)))))))) (exec PP HH 19 m0 EE LL (l2 (l2 (l1 (l1 (l2 (l1 (l2 (l2 f19_c)))))))) (f19_k4 m0)) (f19_k4 m0)
noncomputable def f19_k6 (m0 : Nat) : Kont := kblk 1 (f19_k5 m0)
noncomputable def f19_r2 (m0 : Nat) (B : List Row) : Option Res := exec PP HH 19 m0 EE LL (l1 (l2 (l1 (l2 f19_c)))) (f19_k1 m0) [] B
noncomputable def f19_r3 (m0 : Nat) (x1 : AV) (B : List Row) : Option Res := exec PP HH 19 m0 EE LL (l2 (l2 f19_c)) (f19_k0 m0) [(1, x1)] B
noncomputable def f19_l4 (m0 : Nat) (x1 x3 : AV) (B : List Row) : Option Res := lp (LL 19 m0 (l1 (l1 (l2 (l1 (l2 (l2 f19_c)))))) (f19_k3 m0) [(1, x1), (3, x3)] B)
noncomputable def f19_r6 (m0 : Nat) (x1 x3 : AV) (B : List Row) : Option Res := exec PP HH 19 m0 EE LL (l2 (l1 (l1 (l2 (l1 (l2 (l2 f19_c))))))) (f19_k4 m0) [(1, x1), (3, x3)] B
noncomputable def f19_r8 (m0 : Nat) (B : List Row) : Option Res := exec PP HH 19 m0 EE LL (l2 (l2 (l2 f19_c))) (f19_k0 m0) [] B
noncomputable def f19_r7 (m0 : Nat) (B : List Row) : Option Res := exec PP HH 19 m0 EE LL (l1 (l2 (l1 (l1 (l2 (l1 (l1 (l2 (l1 (l2 (l2 f19_c))))))))))) (f19_k6 m0) [] B
noncomputable def f19_r5 (m0 : Nat) (x1 x3 : AV) (B : List Row) : Option Res := exec PP HH 19 m0 EE LL (l2 (l2 (l1 (l1 (l2 (l1 (l2 (l2 f19_c)))))))) (f19_k4 m0) [(1, x1), (3, x3)] B
theorem f19_r2_eq (m0 : Nat) (B : List Row) : f19_r2 m0  B =
 mk (f19_ret (bv false) B) := by kernel_rfl
theorem f19_r3_eq (m0 : Nat) (x1 : AV) (B : List Row) : f19_r3 m0 x1 B =
 mk (f19_l4 m0 x1 (iv 0) (gcB m0 [x1, (iv 0)] B)) := by kernel_rfl
theorem f19_l4_eq (m0 : Nat) (x1 x3 : AV) (B : List Row) : f19_l4 m0 x1 x3 B =
 mk (ob (xfld 4 x1) fun a13 =>
 ob (ldN false 1 a13 B) fun a14 =>
 ob (xlen PP 34 a14) fun a15 =>
 ob (xbin PP .lss 3 (shr x3) a15) fun a16 =>
 asB a16 fun t17 => br t17 (f19_r6 m0 x1 x3 (gcB m0 [x1, x3] B))
 (f19_r8 m0  (gcB m0 [] B))) := (L_eq PP XX HH _ _ _ _ _ _).trans (by kernel_rfl)
theorem f19_r6_eq (m0 : Nat) (x1 x3 : AV) (B : List Row) : f19_r6 m0 x1 x3 B =
 mk (ob (xfld 4 x1) fun a18 =>
 ob (ldN false 1 a18 B) fun a19 =>
 ob (xidx 5 a19 (shr x3)) fun a20 =>
 ob (ldN true 5 a20 B) fun a21 =>
 callS false EE 34 [a21] B fun a22 B23 =>
 ob (xun PP .not a22) fun a24 =>
 asB (shr a24) fun t25 => br t25 (f19_r7 m0  (gcB m0 [] B23))
 (ob (xbin PP .gtr 3 (shr x3) (iv 0)) fun a26 =>
 asB (shr a26) fun t27 => br t27 (ob (xfld 4 x1) fun a28 =>
 ob (ldN false 1 a28 B23) fun a29 =>
 ob (xidx 5 a29 (shr x3)) fun a30 =>
 ob (xfld 0 a30) fun a31 =>
 ob (ldN false 1 a31 B23) fun a32 =>
 ob (xfld 4 x1) fun a33 =>
 ob (ldN false 1 a33 B23) fun a34 =>
 ob (xbin PP .sub 3 (shr x3) (iv 1)) fun a35 =>
 ob (xidx 5 a34 a35) fun a36 =>
 ob (xfld 0 a36) fun a37 =>
 ob (ldN false 1 a37 B23) fun a38 =>
 ob (xbin PP .leq 3 a32 a38) fun a39 =>
 asB (shr (shr a39)) fun t40 => br t40 (f19_r7 m0  (gcB m0 [] B23))
 (f19_r5 m0 x1 x3 (gcB m0 [x1, x3] B23)))
 (f19_r5 m0 x1 x3 (gcB m0 [x1, x3] B23)))) := by kernel_rfl
theorem f19_r8_eq (m0 : Nat) (B : List Row) : f19_r8 m0  B =
 mk (f19_ret (bv true) B) := by kernel_rfl
theorem f19_r7_eq (m0 : Nat) (B : List Row) : f19_r7 m0  B =
 mk (f19_ret (bv false) B) := by kernel_rfl
theorem f19_r5_eq (m0 : Nat) (x1 x3 : AV) (B : List Row) : f19_r5 m0 x1 x3 B =
 mk (ob (xbin PP .add 3 (shr x3) (iv 1)) fun a41 =>
 f19_l4 m0 x1 (shr a41) (gcB m0 [x1, (shr a41)] B)) := by kernel_rfl
theorem f19_eq (x0 : AV) (B : List Row) : EE 19 [x0] B =
 (let m0 := B.length
 mk (bx x0 B fun a1 B2 =>
 mk (ob (ldN true 5 a1 B2) fun a3 =>
 callS false EE 33 [a3] B2 fun a4 B5 =>
 ob (xun PP .not a4) fun a6 =>
 asB (shr a6) fun t7 => br t7 (f19_r2 m0  (gcB m0 [] B5))
 (ob (xfld 4 a1) fun a8 =>
 ob (ldN false 1 a8 B5) fun a9 =>
 ob (xlen PP 34 a9) fun a10 =>
 ob (xbin PP .gtr 3 a10 (iv 16)) fun a11 =>
 asB (shr a11) fun t12 => br t12 (f19_r2 m0  (gcB m0 [] B5))
 (f19_r3 m0 a1 (gcB m0 [a1] B5)))))) := (E_eq PP XX HH _ _ _).trans (by kernel_rfl)
/-! "(colander/rule.Set).Rule" -/
noncomputable def f20_c : Code := bodyOf Try.f20
def f20_ret (r0 r1 : AV) (B : List Row) : Option Res :=
 ob (ob (ldN true 5 r0 B) fun v => ob (ob (some r1) fun v => ob (some []) fun vs => some (v :: vs)) fun vs => some (v :: vs)) fun vs => some ((nrmA (match vs with | [v] => v | vs => mkTup (vs.map shr))), B)
noncomputable def f20_k0 (m0 : Nat) : Kont := kret PP HH 20 Try.f20.results
noncomputable def f20_k1 (m0 : Nat) : Kont := kseq HH 20 m0 (l2 (l2 f20_c)) (exec PP HH 20 m0 EE LL (l2 (l2 f20_c)) (f20_k0 m0)) (f20_k0 m0)
noncomputable def f20_k2 (m0 : Nat) : Kont := kblk 0 (f20_k1 m0)
noncomputable def f20_k3 (m0 : Nat) : Kont := kloop HH 20 m0 (l1 (l1 (l2 (l1 (l2 f20_c))))) (LL 20 m0 (l1 (l1 (l2 (l1 (l2 f20_c))))) (f20_k2 m0)) (f20_k2 m0)
noncomputable def f20_l2 (m0 : Nat) (x1 x4 x9 x10 x11 : AV) (B : List Row) : Option Res := lp (LL 20 m0 (l1 (l1 (l2 (l1 (l2 f20_c))))) (f20_k2 m0) [(1, x1), (4, x4), (9, x9), (10, x10), (11, x11)] B)
noncomputable def f20_r3 (m0 : Nat) (x1 x4 x9 x10 x11 : AV) (B : List Row) : Option Res := exec PP HH 20 m0 EE LL (l2 (l2 (l1 (l1 (l2 (l1 (l2 f20_c))))))) (f20_k3 m0) [(1, x1), (4, x4), (9, x9), (10, x10), (11, x11)] B
noncomputable def f20_r7 (m0 : Nat) (x4 : AV) (B : List Row) : Option Res := exec PP HH 20 m0 EE LL (l2 (l2 f20_c)) (f20_k0 m0) [(4, x4)] B
noncomputable def f20_r6 (m0 : Nat) (x1 x4 x9 x10 x11 : AV) (B : List Row) : Option Res := exec PP HH 20 m0 EE LL (l2 (l2 (l2 (l1 (l1 (l2 (l1 (l2 f20_c)))))))) (f20_k3 m0) [(1, x1), (4, x4), (9, x9), (10, x10), (11, x11)] B
theorem f20_l2_eq (m0 : Nat) (x1 x4 x9 x10 x11 : AV) (B : List Row) : f20_l2 m0 x1 x4 x9 x10 x11 B =
 mk (ob (xbin PP .lss 3 x11 x10) fun a8 =>
 asB a8 fun t9 => br t9 (f20_r3 m0 x1 x4 x9 x10 x11 (gcB m0 [x1, x4, x9, x10, x11] B))
 (f20_r7 m0 x4 (gcB m0 [x4] B))) := (L_eq PP XX HH _ _ _ _ _ _).trans (by kernel_rfl)
theorem f20_r3_eq (m0 : Nat) (x1 x4 x9 x10 x11 : AV) (B : List Row) : f20_r3 m0 x1 x4 x9 x10 x11 B =
 mk (ob (xidx 5 x9 x11) fun a10 =>
 ob (ldN true 5 a10 B) fun a11 =>
 bz PP 43 B fun a12 B13 =>
 stN 5 a12 a11 B13 fun B14 =>
 mk (ob (xfld 0 a12) fun a15 =>
 ob (ldN false 1 a15 B14) fun a16 =>
 ob (xbin PP .eql 3 a16 (shr x1)) fun a17 =>
 asB a17 fun t18 => br t18 (mk (ob (ldN true 5 a12 B14) fun a19 =>
 stN 5 x4 a19 B14 fun B20 =>
 f20_ret x4 (bv true) B20))
 (f20_r6 m0 x1 x4 x9 x10 x11 (gcB m0 [x1, x4, x9, x10, x11] B14)))) := by kernel_rfl
theorem f20_r7_eq (m0 : Nat) (x4 : AV) (B : List Row) : f20_r7 m0 x4 B =
 mk (ob (xbuild PP 43 []) fun a21 =>
 stN 5 x4 a21 B fun B22 =>
 f20_ret x4 (bv false) B22) := by kernel_rfl
theorem f20_r6_eq (m0 : Nat) (x1 x4 x9 x10 x11 : AV) (B : List Row) : f20_r6 m0 x1 x4 x9 x10 x11 B =
 mk (ob (xbin PP .add 3 x11 (iv 1)) fun a23 =>
 f20_l2 m0 x1 x4 x9 x10 (shr a23) (gcB m0 [x1, x4, x9, x10, (shr a23)] B)) := by kernel_rfl
theorem f20_eq (x0 x1 : AV) (B : List Row) : EE 20 [x0, x1] B =
 (let m0 := B.length
 mk (bx x0 B fun a1 B2 =>
 bz PP 43 B2 fun a3 B4 =>
 mk (ob (xfld 4 a1) fun a5 =>
 ob (ldN false 1 a5 B4) fun a6 =>
 ob (xlen PP 22 a6) fun a7 =>
 f20_l2 m0 x1 a3 a6 a7 (iv 0) (gcB m0 [x1, a3, a6, a7, (iv 0)] B4)))) := (E_eq PP XX HH _ _ _).trans (by kernel_rfl)
/-! "(colander/rule.Rule).Right" -/
noncomputable def f21_c : Code := bodyOf Try.f21
def f21_ret (r0 : AV) (B : List Row) : Option Res :=
 ob (ob (some r0) fun v => ob (some []) fun vs => some (v :: vs)) fun vs => some ((nrmA (match vs with | [v] => v | vs => mkTup (vs.map shr))), B)
theorem f21_eq (x0 : AV) (B : List Row) : EE 21 [x0] B =
 (let m0 := B.length
 mk (bx x0 B fun a1 B2 =>
 mk (ob (xfld 0 a1) fun a3 =>
 ob (ldN false 1 a3 B2) fun a4 =>
 ob (xbin PP .geq 3 a4 (iv 1)) fun a5 =>
 asB (shr a5) fun t6 => br t6 (ob (xfld 0 a1) fun a7 =>
 ob (ldN false 1 a7 B2) fun a8 =>
 ob (xbin PP .leq 3 a8 (iv 1099511627776)) fun a9 =>
 asB (shr (shr a9)) fun t10 => br t10 (ob (xfld 1 a1) fun a11 =>
 ob (ldN false 1 a11 B2) fun a12 =>
 ob (xbin PP .geq 3 a12 (iv 0)) fun a13 =>
 asB (shr (shr a13)) fun t14 => br t14 (ob (xfld 1 a1) fun a15 =>
 ob (ldN false 1 a15 B2) fun a16 =>
 ob (xbin PP .leq 3 a16 (iv 1000)) fun a17 =>
 asB (shr (shr a17)) fun t18 => br t18 (ob (xfld 2 a1) fun a19 =>
 ob (ldN false 1 a19 B2) fun a20 =>
 ob (xbin PP .geq 3 a20 (iv 0)) fun a21 =>
 asB (shr (shr a21)) fun t22 => br t22 (ob (xfld 2 a1) fun a23 =>
 ob (ldN false 1 a23 B2) fun a24 =>
 ob (xbin PP .leq 3 a24 (iv 255)) fun a25 =>
 asB (shr (shr a25)) fun t26 => br t26 (ob (xfld 3 a1) fun a27 =>
 ob (ldN false 1 a27 B2) fun a28 =>
 ob (xbin PP .geq 3 a28 (iv 1)) fun a29 =>
 asB (shr (shr a29)) fun t30 => br t30 (ob (xfld 3 a1) fun a31 =>
 ob (ldN false 1 a31 B2) fun a32 =>
 ob (xbin PP .leq 3 a32 (iv 65535)) fun a33 =>
 asB (shr (shr a33)) fun t34 => br t34 (ob (xfld 4 a1) fun a35 =>
 ob (ldN false 1 a35 B2) fun a36 =>
 ob (xlen PP 9 a36) fun a37 =>
 ob (xbin PP .leq 3 a37 (iv 256)) fun a38 =>
 f21_ret (shr (shr a38)) B2)
 (f21_ret (bv false) B2))
 (f21_ret (bv false) B2))
 (f21_ret (bv false) B2))
 (f21_ret (bv false) B2))
 (f21_ret (bv false) B2))
 (f21_ret (bv false) B2))
 (f21_ret (bv false) B2))
 (f21_ret (bv false) B2)))) := (E_eq PP XX HH _ _ _).trans (by kernel_rfl)
/-! "colander/rule.Diff" -/
noncomputable def f22_c : Code := bodyOf Try.f22
def f22_ret (r0 r1 : AV) (B : List Row) : Option Res :=
 ob (ob (ldN true 6 r0 B) fun v => ob (ob (some r1) fun v => ob (some []) fun vs => some (v :: vs)) fun vs => some (v :: vs)) fun vs => some ((nrmA (match vs with | [v] => v | vs => mkTup (vs.map shr))), B)
noncomputable def f22_k0 (m0 : Nat) : Kont := kret PP HH 22 Try.f22.results
noncomputable def f22_k1 (m0 : Nat) : Kont := kseq HH 22 m0 (l2 (l2 f22_c)) (exec PP HH 22 m0 EE LL (l2 (l2 f22_c)) (f22_k0 m0)) (f22_k0 m0)
noncomputable def f22_k2 (m0 : Nat) : Kont := kseq HH 22 m0 (l2 (l2 (l2 (l2 f22_c)))) (exec PP HH 22 m0 EE LL (l2 (l2 (l2 (l2 f22_c)))) (f22_k0 m0)) (f22_k0 m0)
noncomputable def f22_k3 (m0 : Nat) : Kont := kblk 0 (f22_k2 m0)
noncomputable def f22_k4 (m0 : Nat) : Kont := kloop HH 22 m0 (l1 (l1 (l2 (l1 (l2 (l2 (l2 f22_c))))))) (LL 22 m0 (l1 (l1 (l2 (l1 (l2 (l2 (l2 f22_c))))))) (f22_k3 m0)) (f22_k3 m0)
noncomputable def f22_k5 (m0 : Nat) : Kont := kseq HH 22 m0 (l2 (l2 (l2 (l1 (l1 (l2 (l1 (l2 (l2 (l2 f22_c)))))))))) (exec PP HH 22 m0 EE LL (l2 (l2 (l2 (l1 (l1 (l2 (l1 (l2 (l2 (l2 f22_c)))))))))) (f22_k4 m0)) (f22_k4 m0)
noncomputable def f22_k6 (m0 : Nat) : Kont := kblk 1 (f22_k5 m0)
noncomputable def f22_k7 (m0 : Nat) : Kont := kseq HH 22 m0 (l2 (l2 (l2 (l2 (l2 f22_c))))) (exec PP HH 22 m0 EE LL (l2 (l2 (l2 (l2 (l2 f22_c))))) (f22_k0 m0)) (f22_k0 m0)
noncomputable def f22_k8 (m0 : Nat) : Kont := kblk 2 (f22_k7 m0)
noncomputable def f22_k9 (m0 : Nat) : Kont := kloop HH 22 m0 (l1 (l1 (l2 (l1 (l2 (l2 (l2 (l2 f22_c)))))))) (LL 22 m0 (l1 (l1 (l2 (l1 (l2 (l2 (l2 (l2 f22_c)))))))) (f22_k8 m0)) (f22_k8 m0)
noncomputable def f22_r2 (m0 : Nat) (x4 : AV) (B : List Row) : Option Res := exec PP HH 22 m0 EE LL (l1 (l2 (l1 (l2 f22_c)))) (f22_k1 m0) [(4, x4)] B
noncomputable def f22_r3 (m0 : Nat) (x2 x3 x4 : AV) (B : List Row) : Option Res := exec PP HH 22 m0 EE LL (l2 (l2 f22_c)) (f22_k0 m0) [(2, x2), (3, x3), (4, x4)] B
noncomputable def f22_l5 (m0 : Nat) (x2 x3 x4 x6 x46 x47 x48 : AV) (B : List Row) : Option Res := lp (LL 22 m0 (l1 (l1 (l2 (l1 (l2 (l2 (l2 f22_c))))))) (f22_k3 m0) [(2, x2), (3, x3), (4, x4), (6, x6), (46, x46), (47, x47), (48, x48)] B)
noncomputable def f22_r6 (m0 : Nat) (x2 x3 x4 x6 x46 x47 x48 : AV) (B : List Row) : Option Res := exec PP HH 22 m0 EE LL (l2 (l2 (l1 (l1 (l2 (l1 (l2 (l2 (l2 f22_c))))))))) (f22_k4 m0) [(2, x2), (3, x3), (4, x4), (6, x6), (46, x46), (47, x47), (48, x48)] B
noncomputable def f22_r11 (m0 : Nat) (x2 x3 x4 x6 : AV) (B : List Row) : Option Res := exec PP HH 22 m0 EE LL (l2 (l2 (l2 (l2 f22_c)))) (f22_k0 m0) [(2, x2), (3, x3), (4, x4), (6, x6)] B
noncomputable def f22_r9 (m0 : Nat) (x2 x3 x4 x6 x8 x46 x47 x48 : AV) (B : List Row) : Option Res := exec PP HH 22 m0 EE LL (l1 (l2 (l2 (l2 (l1 (l1 (l2 (l2 (l1 (l1 (l2 (l1 (l2 (l2 (l2 f22_c))))))))))))))) (f22_k6 m0) [(2, x2), (3, x3), (4, x4), (6, x6), (8, x8), (46, x46), (47, x47), (48, x48)] B
noncomputable def f22_r10 (m0 : Nat) (x2 x3 x4 x6 x46 x47 x48 : AV) (B : List Row) : Option Res := exec PP HH 22 m0 EE LL (l2 (l2 (l2 (l1 (l1 (l2 (l1 (l2 (l2 (l2 f22_c)))))))))) (f22_k4 m0) [(2, x2), (3, x3), (4, x4), (6, x6), (46, x46), (47, x47), (48, x48)] B
noncomputable def f22_l12 (m0 : Nat) (x3 x4 x6 x74 x75 x76 : AV) (B : List Row) : Option Res := lp (LL 22 m0 (l1 (l1 (l2 (l1 (l2 (l2 (l2 (l2 f22_c)))))))) (f22_k8 m0) [(3, x3), (4, x4), (6, x6), (74, x74), (75, x75), (76, x76)] B)
noncomputable def f22_r13 (m0 : Nat) (x3 x4 x6 x74 x75 x76 : AV) (B : List Row) : Option Res := exec PP HH 22 m0 EE LL (l2 (l2 (l1 (l1 (l2 (l1 (l2 (l2 (l2 (l2 f22_c)))))))))) (f22_k9 m0) [(3, x3), (4, x4), (6, x6), (74, x74), (75, x75), (76, x76)] B
noncomputable def f22_r18 (m0 : Nat) (x4 x6 : AV) (B : List Row) : Option Res := exec PP HH 22 m0 EE LL (l2 (l2 (l2 (l2 (l2 f22_c))))) (f22_k0 m0) [(4, x4), (6, x6)] B
noncomputable def f22_r17 (m0 : Nat) (x3 x4 x6 x74 x75 x76 : AV) (B : List Row) : Option Res := exec PP HH 22 m0 EE LL (l2 (l2 (l2 (l1 (l1 (l2 (l1 (l2 (l2 (l2 (l2 f22_c))))))))))) (f22_k9 m0) [(3, x3), (4, x4), (6, x6), (74, x74), (75, x75), (76, x76)] B
theorem f22_r2_eq (m0 : Nat) (x4 : AV) (B : List Row) : f22_r2 m0 x4 B =
 mk (ob (xbuild PP 27 []) fun a17 =>
 stN 6 x4 a17 B fun B18 =>
 f22_ret x4 (iv 10) B18) := by kernel_rfl
theorem f22_r3_eq (m0 : Nat) (x2 x3 x4 : AV) (B : List Row) : f22_r3 m0 x2 x3 x4 B =
 mk (ob (xfld 0 x2) fun a19 =>
 ob (ldN false 1 a19 B) fun a20 =>
 ob (xfld 0 x3) fun a21 =>
 ob (ldN false 1 a21 B) fun a22 =>
 callS false EE 38 [a20, a22] B fun a23 B24 =>
 ob (xfld 1 x2) fun a25 =>
 ob (ldN false 1 a25 B24) fun a26 =>
 ob (xfld 1 x3) fun a27 =>
 ob (ldN false 1 a27 B24) fun a28 =>
 callS false EE 38 [a26, a28] B24 fun a29 B30 =>
 ob (xfld 2 x2) fun a31 =>
 ob (ldN false 1 a31 B30) fun a32 =>
 ob (xfld 2 x3) fun a33 =>
 ob (ldN false 1 a33 B30) fun a34 =>
 callS false EE 38 [a32, a34] B30 fun a35 B36 =>
 ob (xfld 3 x2) fun a37 =>
 ob (ldN false 1 a37 B36) fun a38 =>
 ob (xfld 3 x3) fun a39 =>
 ob (ldN false 1 a39 B36) fun a40 =>
 callS false EE 38 [a38, a40] B36 fun a41 B42 =>
 ob (xbuild PP 27 [(0, a23), (1, a29), (2, a35), (3, a41)]) fun a43 =>
 bz PP 27 B42 fun a44 B45 =>
 stN 6 a44 a43 B45 fun B46 =>
 grd (noPtrs [a23, a20, a22]) (grd (noPtrs [a23, a20, a22]) (grd (noPtrs [a23, a20, a22]) (grd (noPtrs [a29, a26, a28]) (grd (noPtrs [a23, a20, a22]) (grd (noPtrs [a29, a26, a28]) (grd (noPtrs [a23, a20, a22]) (grd (noPtrs [a29, a26, a28]) (grd (noPtrs [a35, a32, a34]) (grd (noPtrs [a23, a20, a22]) (grd (noPtrs [a29, a26, a28]) (grd (noPtrs [a35, a32, a34]) (grd (ptrNe a19 a44) (grd (ptrNe a21 a44) (grd (noPtrs [a23, a20, a22]) (grd (ptrNe a25 a44) (grd (ptrNe a27 a44) (grd (noPtrs [a29, a26, a28]) (grd (ptrNe a31 a44) (grd (ptrNe a33 a44) (grd (noPtrs [a35, a32, a34]) (grd (ptrNe a37 a44) (grd (ptrNe a39 a44) (grd (noPtrs [a41, a38, a40]) (mk (ob (xfld 4 x3) fun a47 =>
 ob (ldN false 1 a47 B46) fun a48 =>
 ob (xlen PP 22 a48) fun a49 =>
 f22_l5 m0 x2 x3 x4 a44 a48 a49 (iv 0) (gcB m0 [x2, x3, x4, a44, a48, a49, (iv 0)] B46))))))))))))))))))))))))))) := by kernel_rfl
theorem f22_l5_eq (m0 : Nat) (x2 x3 x4 x6 x46 x47 x48 : AV) (B : List Row) : f22_l5 m0 x2 x3 x4 x6 x46 x47 x48 B =
 mk (ob (xbin PP .lss 3 x48 x47) fun a50 =>
 asB a50 fun t51 => br t51 (f22_r6 m0 x2 x3 x4 x6 x46 x47 x48 (gcB m0 [x2, x3, x4, x6, x46, x47, x48] B))
 (f22_r11 m0 x2 x3 x4 x6 (gcB m0 [x2, x3, x4, x6] B))) := (L_eq PP XX HH _ _ _ _ _ _).trans (by kernel_rfl)
theorem f22_r6_eq (m0 : Nat) (x2 x3 x4 x6 x46 x47 x48 : AV) (B : List Row) : f22_r6 m0 x2 x3 x4 x6 x46 x47 x48 B =
 mk (ob (xidx 5 x46 x48) fun a52 =>
 ob (ldN true 5 a52 B) fun a53 =>
 bz PP 43 B fun a54 B55 =>
 stN 5 a54 a53 B55 fun B56 =>
 mk (ob (ldN true 5 x2 B56) fun a57 =>
 ob (xfld 0 a54) fun a58 =>
 ob (ldN false 1 a58 B56) fun a59 =>
 callS false EE 20 [a57, a59] B56 fun a60 B61 =>
 ob (xext 0 (shr a60)) fun a62 =>
 ob (xext 1 (shr a60)) fun a63 =>
 bz PP 43 B61 fun a64 B65 =>
 stN 5 a64 (shr a62) B65 fun B66 =>
 mk (ob (xun PP .not (shr (shr (shr a63)))) fun a67 =>
 asB (shr a67) fun t68 => br t68 (f22_r9 m0 x2 x3 x4 x6 a54 x46 x47 x48 (gcB m0 [x2, x3, x4, x6, a54, x46, x47, x48] B66))
 (ob (ldN true 5 a64 B66) fun a69 =>
 ob (ldN true 5 a54 B66) fun a70 =>
 ob (xbin PP .neq 43 a69 a70) fun a71 =>
 asB (shr a71) fun t72 => br t72 (f22_r9 m0 x2 x3 x4 x6 a54 x46 x47 x48 (gcB m0 [x2, x3, x4, x6, a54, x46, x47, x48] B66))
 (f22_r10 m0 x2 x3 x4 x6 x46 x47 x48 (gcB m0 [x2, x3, x4, x6, x46, x47, x48] B66)))))) := by kernel_rfl
theorem f22_r11_eq (m0 : Nat) (x2 x3 x4 x6 : AV) (B : List Row) : f22_r11 m0 x2 x3 x4 x6 B =
 mk (ob (xfld 4 x2) fun a73 =>
 ob (ldN false 1 a73 B) fun a74 =>
 ob (xlen PP 22 a74) fun a75 =>
 f22_l12 m0 x3 x4 x6 a74 a75 (iv 0) (gcB m0 [x3, x4, x6, a74, a75, (iv 0)] B)) := by kernel_rfl
theorem f22_r9_eq (m0 : Nat) (x2 x3 x4 x6 x8 x46 x47 x48 : AV) (B : List Row) : f22_r9 m0 x2 x3 x4 x6 x8 x46 x47 x48 B =
 mk (ob (xfld 4 x6) fun a76 =>
 ldOwn a76 B fun a77 B78 =>
 ob (ldN true 5 x8 B78) fun a79 =>
 ob (xlit PP 22 1 [(0, a79)]) fun a80 =>
 ob (xapp 5 a77 a80) fun a81 =>
 ob (xfld 4 x6) fun a82 =>
 stN 1 a82 a81 B78 fun B83 =>
 f22_r10 m0 x2 x3 x4 x6 x46 x47 x48 (gcB m0 [x2, x3, x4, x6, x46, x47, x48] B83)) := by kernel_rfl
theorem f22_r10_eq (m0 : Nat) (x2 x3 x4 x6 x46 x47 x48 : AV) (B : List Row) : f22_r10 m0 x2 x3 x4 x6 x46 x47 x48 B =
 mk (ob (xbin PP .add 3 x48 (iv 1)) fun a84 =>
 f22_l5 m0 x2 x3 x4 x6 x46 x47 (shr a84) (gcB m0 [x2, x3, x4, x6, x46, x47, (shr a84)] B)) := by kernel_rfl
theorem f22_l12_eq (m0 : Nat) (x3 x4 x6 x74 x75 x76 : AV) (B : List Row) : f22_l12 m0 x3 x4 x6 x74 x75 x76 B =
 mk (ob (xbin PP .lss 3 x76 x75) fun a85 =>
 asB a85 fun t86 => br t86 (f22_r13 m0 x3 x4 x6 x74 x75 x76 (gcB m0 [x3, x4, x6, x74, x75, x76] B))
 (f22_r18 m0 x4 x6 (gcB m0 [x4, x6] B))) := (L_eq PP XX HH _ _ _ _ _ _).trans (by kernel_rfl)
theorem f22_r13_eq (m0 : Nat) (x3 x4 x6 x74 x75 x76 : AV) (B : List Row) : f22_r13 m0 x3 x4 x6 x74 x75 x76 B =
 mk (ob (xidx 5 x74 x76) fun a87 =>
 ob (ldN true 5 a87 B) fun a88 =>
 bz PP 43 B fun a89 B90 =>
 stN 5 a89 a88 B90 fun B91 =>
 mk (ob (ldN true 5 x3 B91) fun a92 =>
 ob (xfld 0 a89) fun a93 =>
 ob (ldN false 1 a93 B91) fun a94 =>
 callS false EE 20 [a92, a94] B91 fun a95 B96 =>
 ob (xext 0 (shr a95)) fun a97 =>
 ob (xext 1 (shr a95)) fun a98 =>
 bz PP 43 B96 fun a99 B100 =>
 stN 5 a99 (shr a97) B100 fun B101 =>
 mk (ob (xun PP .not (shr (shr (shr a98)))) fun a102 =>
 asB a102 fun t103 => br t103 (mk (ob (xfld 5 x6) fun a104 =>
 ldOwn a104 B101 fun a105 B106 =>
 ob (xfld 0 a89) fun a107 =>
 ob (ldN false 1 a107 B106) fun a108 =>
 ob (xlit PP 25 1 [(0, a108)]) fun a109 =>
 ob (xapp 1 a105 a109) fun a110 =>
 ob (xfld 5 x6) fun a111 =>
 stN 1 a111 a110 B106 fun B112 =>
 f22_r17 m0 x3 x4 x6 x74 x75 x76 (gcB m0 [x3, x4, x6, x74, x75, x76] B112)))
 (f22_r17 m0 x3 x4 x6 x74 x75 x76 (gcB m0 [x3, x4, x6, x74, x75, x76] B101))))) := by kernel_rfl
theorem f22_r18_eq (m0 : Nat) (x4 x6 : AV) (B : List Row) : f22_r18 m0 x4 x6 B =
 mk (ob (ldN true 6 x6 B) fun a113 =>
 stN 6 x4 a113 B fun B114 =>
 f22_ret x4 (iv 0) B114) := by kernel_rfl
theorem f22_r17_eq (m0 : Nat) (x3 x4 x6 x74 x75 x76 : AV) (B : List Row) : f22_r17 m0 x3 x4 x6 x74 x75 x76 B =
 mk (ob (xbin PP .add 3 x76 (iv 1)) fun a115 =>
 f22_l12 m0 x3 x4 x6 x74 x75 (shr a115) (gcB m0 [x3, x4, x6, x74, x75, (shr a115)] B)) := by kernel_rfl
theorem f22_eq (x0 x1 : AV) (B : List Row) : EE 22 [x0, x1] B =
 (let m0 := B.length
 mk (bx x0 B fun a1 B2 =>
 bx x1 B2 fun a3 B4 =>
 bz PP 27 B4 fun a5 B6 =>
 mk (ob (ldN true 5 a1 B6) fun a7 =>
 callS false EE 16 [a7] B6 fun a8 B9 =>
 ob (xun PP .not a8) fun a10 =>
 asB (shr a10) fun t11 => br t11 (f22_r2 m0 a5 (gcB m0 [a5] B9))
 (ob (ldN true 5 a3 B9) fun a12 =>
 callS false EE 16 [a12] B9 fun a13 B14 =>
 ob (xun PP .not a13) fun a15 =>
 asB (shr a15) fun t16 => br t16 (f22_r2 m0 a5 (gcB m0 [a5] B14))
 (f22_r3 m0 a1 a3 a5 (gcB m0 [a1, a3, a5] B14)))))) := (E_eq PP XX HH _ _ _).trans (by kernel_rfl)
/-! "(colander/rule.Set).Order" -/
noncomputable def f23_c : Code := bodyOf Try.f23
def f23_ret (r0 : AV) (B : List Row) : Option Res :=
 ob (ob (some r0) fun v => ob (some []) fun vs => some (v :: vs)) fun vs => some ((nrmA (match vs with | [v] => v | vs => mkTup (vs.map shr))), B)
noncomputable def f23_k0 (m0 : Nat) : Kont := kret PP HH 23 Try.f23.results
noncomputable def f23_k1 (m0 : Nat) : Kont := kseq HH 23 m0 (l2 (l2 (l2 (l2 f23_c)))) (exec PP HH 23 m0 EE LL (l2 (l2 (l2 (l2 f23_c)))) (f23_k0 m0)) (f23_k0 m0)
noncomputable def f23_k2 (m0 : Nat) : Kont := kblk 0 (f23_k1 m0)
noncomputable def f23_k3 (m0 : Nat) : Kont := kloop HH 23 m0 (l1 (l1 (l2 (l1 (l2 (l2 (l2 f23_c))))))) (LL 23 m0 (l1 (l1 (l2 (l1 (l2 (l2 (l2 f23_c))))))) (f23_k2 m0)) (f23_k2 m0)
noncomputable def f23_r3 (m0 : Nat) (x1 x2 : AV) (B : List Row) : Option Res := exec PP HH 23 m0 EE LL (l2 (l2 f23_c)) (f23_k0 m0) [(1, x1), (2, x2)] B
noncomputable def f23_l5 (m0 : Nat) (x1 x2 x5 x12 x13 x14 : AV) (B : List Row) : Option Res := lp (LL 23 m0 (l1 (l1 (l2 (l1 (l2 (l2 (l2 f23_c))))))) (f23_k2 m0) [(1, x1), (2, x2), (5, x5), (12, x12), (13, x13), (14, x14)] B)
noncomputable def f23_r6 (m0 : Nat) (x1 x2 x5 x12 x13 x14 : AV) (B : List Row) : Option Res := exec PP HH 23 m0 EE LL (l2 (l2 (l1 (l1 (l2 (l1 (l2 (l2 (l2 f23_c))))))))) (f23_k3 m0) [(1, x1), (2, x2), (5, x5), (12, x12), (13, x13), (14, x14)] B
noncomputable def f23_r10 (m0 : Nat) (x2 x5 : AV) (B : List Row) : Option Res := exec PP HH 23 m0 EE LL (l2 (l2 (l2 (l2 f23_c)))) (f23_k0 m0) [(2, x2), (5, x5)] B
noncomputable def f23_r9 (m0 : Nat) (x1 x2 x5 x12 x13 x14 : AV) (B : List Row) : Option Res := exec PP HH 23 m0 EE LL (l2 (l2 (l2 (l1 (l1 (l2 (l1 (l2 (l2 (l2 f23_c)))))))))) (f23_k3 m0) [(1, x1), (2, x2), (5, x5), (12, x12), (13, x13), (14, x14)] B
theorem f23_r3_eq (m0 : Nat) (x1 x2 : AV) (B : List Row) : f23_r3 m0 x1 x2 B =
 mk (mk (ob (xfld 4 x2) fun a8 =>
 ob (ldN false 1 a8 B) fun a9 =>
 ob (xlen PP 22 a9) fun a10 =>
 f23_l5 m0 x1 x2 nilA a9 a10 (iv 0) (gcB m0 [x1, x2, nilA, a9, a10, (iv 0)] B))) := by kernel_rfl
theorem f23_l5_eq (m0 : Nat) (x1 x2 x5 x12 x13 x14 : AV) (B : List Row) : f23_l5 m0 x1 x2 x5 x12 x13 x14 B =
 mk (ob (xbin PP .lss 3 x14 x13) fun a11 =>
 asB a11 fun t12 => br t12 (f23_r6 m0 x1 x2 x5 x12 x13 x14 (gcB m0 [x1, x2, x5, x12, x13, x14] B))
 (f23_r10 m0 x2 x5 (gcB m0 [x2, x5] B))) := (L_eq PP XX HH _ _ _ _ _ _).trans (by kernel_rfl)
theorem f23_r6_eq (m0 : Nat) (x1 x2 x5 x12 x13 x14 : AV) (B : List Row) : f23_r6 m0 x1 x2 x5 x12 x13 x14 B =
 mk (ob (xidx 5 x12 x14) fun a13 =>
 ob (ldN true 5 a13 B) fun a14 =>
 bz PP 43 B fun a15 B16 =>
 stN 5 a15 a14 B16 fun B17 =>
 mk (ob (xfld 3 a15) fun a18 =>
 ob (ldN false 1 a18 B17) fun a19 =>
 ob (xbin PP .and 3 a19 (shr x1)) fun a20 =>
 ob (xbin PP .neq 3 a20 (iv 0)) fun a21 =>
 asB a21 fun t22 => br t22 (mk (ob (xlit PP 25 1 [(0, (shr (shr (shr x14))))]) fun a23 =>
 ob (xapp 1 x5 a23) fun a24 =>
 f23_r9 m0 x1 x2 a24 x12 x13 x14 (gcB m0 [x1, x2, a24, x12, x13, x14] B17)))
 (f23_r9 m0 x1 x2 x5 x12 x13 x14 (gcB m0 [x1, x2, x5, x12, x13, x14] B17)))) := by kernel_rfl
theorem f23_r10_eq (m0 : Nat) (x2 x5 : AV) (B : List Row) : f23_r10 m0 x2 x5 B =
 mk (callS false EE 39 [(shr x5), (.clo 40 ([].map nrmA) ([x2].map nrmA))] B fun a25 B26 =>
 mk (f23_ret (shr (shr x5)) B26)) := by kernel_rfl
theorem f23_r9_eq (m0 : Nat) (x1 x2 x5 x12 x13 x14 : AV) (B : List Row) : f23_r9 m0 x1 x2 x5 x12 x13 x14 B =
 mk (ob (xbin PP .add 3 x14 (iv 1)) fun a27 =>
 f23_l5 m0 x1 x2 x5 x12 x13 (shr a27) (gcB m0 [x1, x2, x5, x12, x13, (shr a27)] B)) := by kernel_rfl
theorem f23_eq (x0 x1 : AV) (B : List Row) : EE 23 [x0, x1] B =
 (let m0 := B.length
 mk (bx x0 B fun a1 B2 =>
 mk (ob (ldN true 5 a1 B2) fun a3 =>
 callS false EE 16 [a3] B2 fun a4 B5 =>
 ob (xun PP .not a4) fun a6 =>
 asB a6 fun t7 => br t7 (mk (f23_ret nilA B5))
 (f23_r3 m0 x1 a1 (gcB m0 [x1, a1] B5))))) := (E_eq PP XX HH _ _ _).trans (by kernel_rfl)
/-! "(colander/colanderref07.Set).Order" -/
noncomputable def f24_c : Code := bodyOf Try.f24
def f24_ret (r0 : AV) (B : List Row) : Option Res :=
 ob (ob (some r0) fun v => ob (some []) fun vs => some (v :: vs)) fun vs => some ((nrmA (match vs with | [v] => v | vs => mkTup (vs.map shr))), B)
noncomputable def f24_k0 (m0 : Nat) : Kont := kret PP HH 24 Try.f24.results
noncomputable def f24_k1 (m0 : Nat) : Kont := kseq HH 24 m0 (l2 (l2 (l2 f24_c))) (exec PP HH 24 m0 EE LL (l2 (l2 (l2 f24_c))) (f24_k0 m0)) (f24_k0 m0)
noncomputable def f24_k2 (m0 : Nat) : Kont := kblk 0 (f24_k1 m0)
noncomputable def f24_k3 (m0 : Nat) : Kont := kloop HH 24 m0 (l1 (l1 (l2 (l1 (l2 (l2 f24_c)))))) (LL 24 m0 (l1 (l1 (l2 (l1 (l2 (l2 f24_c)))))) (f24_k2 m0)) (f24_k2 m0)
noncomputable def f24_k4 (m0 : Nat) : Kont := kseq HH 24 m0 (l2 (l2 (l1 (l1 (l2 (l1 (l2 (l2 f24_c)))))))) (exec PP HH 24 m0 EE LL (l2 (l2 (l1 (l1 (l2 (l1 (l2 (l2 f24_c)))))))) (f24_k3 m0)) (f24_k3 m0)
noncomputable def f24_k5 (m0 : Nat) : Kont := kblk 1 (f24_k4 m0)
noncomputable def f24_k6 (m0 : Nat) : Kont := kblk 2 (f24_k5 m0)
noncomputable def f24_k7 (m0 : Nat) : Kont := kloop HH 24 m0 (l1 (l1 (l2 (l1 (l1 (l2 (l1 (l1 (l2 (l1 (l2 (l2 f24_c)))))))))))) (LL 24 m0 (l1 (l1 (l2 (l1 (l1 (l2 (l1 (l1 (l2 (l1 (l2 (l2 f24_c)))))))))))) (f24_k6 m0)) (f24_k6 m0)
noncomputable def f24_k8 (m0 : Nat) : Kont := kseq HH 24 m0 (l2 (l2 (l1 (l1 (l2 (l1 (l1 (l2 (l1 (l1 (l2 (l1 (l2 (l2 f24_c)))))))))))))) (exec PP HH 24 m0 EE LL (l2 (l2 (l1 (l1 (l2 (l1 (l1 (l2 (l1 (l1 (l2 (l1 (l2 (l2 f24_c)))))))))))))) (f24_k7 m0)) (f24_k7 m0)
noncomputable def f24_k9 (m0 : Nat) : Kont := kblk 3 (f24_k8 m0)
noncomputable def f24_l3 (m0 : Nat) (x1 x2 x5 x6 : AV) (B : List Row) : Option Res := lp (LL 24 m0 (l1 (l1 (l2 (l1 (l2 (l2 f24_c)))))) (f24_k2 m0) [(1, x1), (2, x2), (5, x5), (6, x6)] B)
noncomputable def f24_r5 (m0 : Nat) (x1 x2 x5 x6 : AV) (B : List Row) : Option Res := exec PP HH 24 m0 EE LL (l2 (l1 (l1 (l2 (l1 (l2 (l2 f24_c))))))) (f24_k3 m0) [(1, x1), (2, x2), (5, x5), (6, x6)] B
noncomputable def f24_r10 (m0 : Nat) (x5 : AV) (B : List Row) : Option Res := exec PP HH 24 m0 EE LL (l2 (l2 (l2 f24_c))) (f24_k0 m0) [(5, x5)] B
noncomputable def f24_l6 (m0 : Nat) (x1 x2 x5 x6 x7 : AV) (B : List Row) : Option Res := lp (LL 24 m0 (l1 (l1 (l2 (l1 (l1 (l2 (l1 (l1 (l2 (l1 (l2 (l2 f24_c)))))))))))) (f24_k6 m0) [(1, x1), (2, x2), (5, x5), (6, x6), (7, x7)] B)
noncomputable def f24_r8 (m0 : Nat) (x1 x2 x5 x6 x7 : AV) (B : List Row) : Option Res := exec PP HH 24 m0 EE LL (l2 (l1 (l1 (l2 (l1 (l1 (l2 (l1 (l1 (l2 (l1 (l2 (l2 f24_c))))))))))))) (f24_k7 m0) [(1, x1), (2, x2), (5, x5), (6, x6), (7, x7)] B
noncomputable def f24_r4 (m0 : Nat) (x1 x2 x5 x6 : AV) (B : List Row) : Option Res := exec PP HH 24 m0 EE LL (l2 (l2 (l1 (l1 (l2 (l1 (l2 (l2 f24_c)))))))) (f24_k3 m0) [(1, x1), (2, x2), (5, x5), (6, x6)] B
noncomputable def f24_r9 (m0 : Nat) (x1 x2 x5 x6 x7 : AV) (B : List Row) : Option Res := exec PP HH 24 m0 EE LL (l1 (l2 (l1 (l1 (l2 (l1 (l1 (l2 (l1 (l1 (l2 (l1 (l1 (l2 (l1 (l2 (l2 f24_c))))))))))))))))) (f24_k9 m0) [(1, x1), (2, x2), (5, x5), (6, x6), (7, x7)] B
noncomputable def f24_r7 (m0 : Nat) (x1 x2 x5 x6 x7 : AV) (B : List Row) : Option Res := exec PP HH 24 m0 EE LL (l2 (l2 (l1 (l1 (l2 (l1 (l1 (l2 (l1 (l1 (l2 (l1 (l2 (l2 f24_c)))))))))))))) (f24_k7 m0) [(1, x1), (2, x2), (5, x5), (6, x6), (7, x7)] B
theorem f24_l3_eq (m0 : Nat) (x1 x2 x5 x6 : AV) (B : List Row) : f24_l3 m0 x1 x2 x5 x6 B =
 mk (ob (xbin PP .geq 3 (shr x6) (iv 0)) fun a3 =>
 asB a3 fun t4 => br t4 (f24_r5 m0 x1 x2 x5 x6 (gcB m0 [x1, x2, x5, x6] B))
 (f24_r10 m0 x5 (gcB m0 [x5] B))) := (L_eq PP XX HH _ _ _ _ _ _).trans (by kernel_rfl)
theorem f24_r5_eq (m0 : Nat) (x1 x2 x5 x6 : AV) (B : List Row) : f24_r5 m0 x1 x2 x5 x6 B =
 mk (f24_l6 m0 x1 x2 x5 x6 (iv 0) (gcB m0 [x1, x2, x5, x6, (iv 0)] B)) := by kernel_rfl
theorem f24_r10_eq (m0 : Nat) (x5 : AV) (B : List Row) : f24_r10 m0 x5 B =
 mk (f24_ret (shr (shr x5)) B) := by kernel_rfl
theorem f24_l6_eq (m0 : Nat) (x1 x2 x5 x6 x7 : AV) (B : List Row) : f24_l6 m0 x1 x2 x5 x6 x7 B =
 mk (ob (xfld 4 x2) fun a5 =>
 ob (ldN false 1 a5 B) fun a6 =>
 ob (xlen PP 34 a6) fun a7 =>
 ob (xbin PP .lss 3 (shr x7) a7) fun a8 =>
 asB a8 fun t9 => br t9 (f24_r8 m0 x1 x2 x5 x6 x7 (gcB m0 [x1, x2, x5, x6, x7] B))
 (f24_r4 m0 x1 x2 x5 x6 (gcB m0 [x1, x2, x5, x6] B))) := (L_eq PP XX HH _ _ _ _ _ _).trans (by kernel_rfl)
theorem f24_r8_eq (m0 : Nat) (x1 x2 x5 x6 x7 : AV) (B : List Row) : f24_r8 m0 x1 x2 x5 x6 x7 B =
 mk (ob (xfld 4 x2) fun a10 =>
 ob (ldN false 1 a10 B) fun a11 =>
 ob (xidx 5 a11 (shr x7)) fun a12 =>
 ob (xfld 1 a12) fun a13 =>
 ob (ldN false 1 a13 B) fun a14 =>
 ob (xbin PP .eql 3 a14 (shr x6)) fun a15 =>
 asB (shr a15) fun t16 => br t16 (ob (xfld 4 x2) fun a17 =>
 ob (ldN false 1 a17 B) fun a18 =>
 ob (xidx 5 a18 (shr x7)) fun a19 =>
 ob (xfld 3 a19) fun a20 =>
 ob (ldN false 1 a20 B) fun a21 =>
 ob (xbin PP .and 3 a21 (shr x1)) fun a22 =>
 ob (xbin PP .neq 3 a22 (iv 0)) fun a23 =>
 asB (shr a23) fun t24 => br t24 (f24_r9 m0 x1 x2 x5 x6 x7 (gcB m0 [x1, x2, x5, x6, x7] B))
 (f24_r7 m0 x1 x2 x5 x6 x7 (gcB m0 [x1, x2, x5, x6, x7] B)))
 (f24_r7 m0 x1 x2 x5 x6 x7 (gcB m0 [x1, x2, x5, x6, x7] B))) := by kernel_rfl
theorem f24_r4_eq (m0 : Nat) (x1 x2 x5 x6 : AV) (B : List Row) : f24_r4 m0 x1 x2 x5 x6 B =
 mk (ob (xbin PP .sub 3 (shr x6) (iv 1)) fun a25 =>
 f24_l3 m0 x1 x2 x5 (shr a25) (gcB m0 [x1, x2, x5, (shr a25)] B)) := by kernel_rfl
theorem f24_r9_eq (m0 : Nat) (x1 x2 x5 x6 x7 : AV) (B : List Row) : f24_r9 m0 x1 x2 x5 x6 x7 B =
 mk (ob (xlit PP 25 1 [(0, (shr x7))]) fun a26 =>
 ob (xapp 1 x5 a26) fun a27 =>
 f24_r7 m0 x1 x2 a27 x6 x7 (gcB m0 [x1, x2, a27, x6, x7] B)) := by kernel_rfl
theorem f24_r7_eq (m0 : Nat) (x1 x2 x5 x6 x7 : AV) (B : List Row) : f24_r7 m0 x1 x2 x5 x6 x7 B =
 mk (ob (xbin PP .add 3 (shr x7) (iv 1)) fun a28 =>
 f24_l6 m0 x1 x2 x5 x6 (shr a28) (gcB m0 [x1, x2, x5, x6, (shr a28)] B)) := by kernel_rfl
theorem f24_eq (x0 x1 : AV) (B : List Row) : EE 24 [x0, x1] B =
 (let m0 := B.length
 mk (bx x0 B fun a1 B2 =>
 mk (mk (f24_l3 m0 x1 a1 nilA (iv 1000) (gcB m0 [x1, a1, nilA, (iv 1000)] B2))))) := (E_eq PP XX HH _ _ _).trans (by kernel_rfl)
/-! "colander/rule.First" -/
noncomputable def f25_c : Code := bodyOf Try.f25
def f25_ret (r0 : AV) (B : List Row) : Option Res :=
 ob (ob (ldN true 5 r0 B) fun v => ob (some []) fun vs => some (v :: vs)) fun vs => some ((nrmA (match vs with | [v] => v | vs => mkTup (vs.map shr))), B)
theorem f25_eq (B : List Row) : EE 25 [] B =
 (let m0 := B.length
 mk (bz PP 24 B fun a1 B2 =>
 mk (ob (xbuild PP 24 [(1, (iv 255)), (2, (iv 10000)), (3, (iv 500))]) fun a3 =>
 stN 5 a1 a3 B2 fun B4 =>
 f25_ret a1 B4))) := (E_eq PP XX HH _ _ _).trans (by kernel_rfl)
/-! "colander/rule.change" -/
noncomputable def f26_c : Code := bodyOf Try.f26
def f26_ret (B : List Row) : Option Res :=
 ob (some []) fun vs => some ((nrmA (match vs with | [v] => v | vs => mkTup (vs.map shr))), B)
theorem f26_eq (x0 x1 : AV) (B : List Row) : EE 26 [x0, x1] B =
 (let m0 := B.length
 mk (ob (xbin PP .neq 3 (shr x1) (iv (-1))) fun a1 =>
 asB a1 fun t2 => br t2 (mk (ob (xnilchk (shr x0)) fun a3 =>
 stN 1 a3 (shr x1) B fun B4 =>
 f26_ret  B4))
 (f26_ret  B))) := (E_eq PP XX HH _ _ _).trans (by kernel_rfl)
/-! "(colander/rule.Set).numbered" -/
noncomputable def f27_c : Code := bodyOf Try.f27
def f27_ret (r0 : AV) (B : List Row) : Option Res :=
 ob (ob (some r0) fun v => ob (some []) fun vs => some (v :: vs)) fun vs => some ((nrmA (match vs with | [v] => v | vs => mkTup (vs.map shr))), B)
theorem f27_eq (x0 : AV) (B : List Row) : EE 27 [x0] B =
 (let m0 := B.length
 mk (bx x0 B fun a1 B2 =>
 mk (ob (xfld 0 a1) fun a3 =>
 ob (ldN false 1 a3 B2) fun a4 =>
 ob (xbin PP .geq 3 a4 (iv 0)) fun a5 =>
 asB (shr a5) fun t6 => br t6 (ob (xfld 0 a1) fun a7 =>
 ob (ldN false 1 a7 B2) fun a8 =>
 ob (xbin PP .leq 3 a8 (iv 255)) fun a9 =>
 asB (shr (shr a9)) fun t10 => br t10 (ob (xfld 1 a1) fun a11 =>
 ob (ldN false 1 a11 B2) fun a12 =>
 ob (xbin PP .geq 3 a12 (iv 0)) fun a13 =>
 asB (shr (shr a13)) fun t14 => br t14 (ob (xfld 1 a1) fun a15 =>
 ob (ldN false 1 a15 B2) fun a16 =>
 ob (xbin PP .leq 3 a16 (iv 255)) fun a17 =>
 asB (shr (shr a17)) fun t18 => br t18 (ob (xfld 2 a1) fun a19 =>
 ob (ldN false 1 a19 B2) fun a20 =>
 ob (xbin PP .geq 3 a20 (iv 1)) fun a21 =>
 asB (shr (shr a21)) fun t22 => br t22 (ob (xfld 2 a1) fun a23 =>
 ob (ldN false 1 a23 B2) fun a24 =>
 ob (xbin PP .leq 3 a24 (iv 1048576)) fun a25 =>
 asB (shr (shr a25)) fun t26 => br t26 (ob (xfld 3 a1) fun a27 =>
 ob (ldN false 1 a27 B2) fun a28 =>
 ob (xbin PP .geq 3 a28 (iv 0)) fun a29 =>
 asB (shr (shr a29)) fun t30 => br t30 (ob (xfld 3 a1) fun a31 =>
 ob (ldN false 1 a31 B2) fun a32 =>
 ob (xbin PP .leq 3 a32 (iv 4096)) fun a33 =>
 f27_ret (shr (shr a33)) B2)
 (f27_ret (bv false) B2))
 (f27_ret (bv false) B2))
 (f27_ret (bv false) B2))
 (f27_ret (bv false) B2))
 (f27_ret (bv false) B2))
 (f27_ret (bv false) B2))
 (f27_ret (bv false) B2)))) := (E_eq PP XX HH _ _ _).trans (by kernel_rfl)
/-! "colander/rule.all[colander/rule.Rule]" -/
noncomputable def f28_c : Code := bodyOf Try.f28
def f28_ret (r0 : AV) (B : List Row) : Option Res :=
 ob (ob (some r0) fun v => ob (some []) fun vs => some (v :: vs)) fun vs => some ((nrmA (match vs with | [v] => v | vs => mkTup (vs.map shr))), B)
theorem f28_eq (x0 x1 : AV) (B : List Row) : EE 28 [x0, x1] B =
 (let m0 := B.length
 mk (bx x1 B fun a1 B2 =>
 mk (callS false EE 42 [(shr x0), (.clo 43 ([].map nrmA) ([a1].map nrmA))] B2 fun a3 B4 =>
 ob (xun PP .not a3) fun a5 =>
 f28_ret (shr a5) B4))) := (E_eq PP XX HH _ _ _).trans (by kernel_rfl)
/-! "(colander/rule.Delta).twice" -/
noncomputable def f29_c : Code := bodyOf Try.f29
def f29_ret (r0 : AV) (B : List Row) : Option Res :=
 ob (ob (some r0) fun v => ob (some []) fun vs => some (v :: vs)) fun vs => some ((nrmA (match vs with | [v] => v | vs => mkTup (vs.map shr))), B)
theorem f29_eq (x0 : AV) (B : List Row) : EE 29 [x0] B =
 (let m0 := B.length
 mk (bx x0 B fun a1 B2 =>
 mk (xmake PP 75 B2 fun a3 B4 =>
 bz PP 75 B4 fun a5 B6 =>
 stN 1 a5 a3 B6 fun B7 =>
 mk (bz PP 76 B7 fun a8 B9 =>
 stN 1 a8 (.clo 44 ([].map nrmA) ([a5].map nrmA)) B9 fun B10 =>
 mk (ob (xfld 4 a1) fun a11 =>
 ob (ldN false 1 a11 B10) fun a12 =>
 callS false EE 42 [a12, (.clo 45 ([].map nrmA) ([a8].map nrmA))] B10 fun a13 B14 =>
 asB (shr a13) fun t15 => br t15 (f29_ret (bv true) B14)
 (ob (xfld 5 a1) fun a16 =>
 ob (ldN false 1 a16 B14) fun a17 =>
 ob (ldN false 1 a8 B14) fun a18 =>
 callS false EE 46 [a17, a18] B14 fun a19 B20 =>
 f29_ret (shr (shr a19)) B20)))))) := (E_eq PP XX HH _ _ _).trans (by kernel_rfl)
/-! "maps.Keys[map[int]colander/rule.Rule,int,colander/rule.Rule]" -/
noncomputable def f31_c : Code := bodyOf Try.f31
def f31_ret (r0 : AV) (B : List Row) : Option Res :=
 ob (ob (some r0) fun v => ob (some []) fun vs => some (v :: vs)) fun vs => some ((nrmA (match vs with | [v] => v | vs => mkTup (vs.map shr))), B)
theorem f31_eq (x0 : AV) (B : List Row) : EE 31 [x0] B =
 (let m0 := B.length
 mk (bx x0 B fun a1 B2 =>
 mk (f31_ret (shr (.clo 49 ([].map nrmA) ([a1].map nrmA))) B2))) := (E_eq PP XX HH _ _ _).trans (by kernel_rfl)
/-! "colander/colanderref07.or" -/
noncomputable def f32_c : Code := bodyOf Try.f32
def f32_ret (r0 : AV) (B : List Row) : Option Res :=
 ob (ob (some r0) fun v => ob (some []) fun vs => some (v :: vs)) fun vs => some ((nrmA (match vs with | [v] => v | vs => mkTup (vs.map shr))), B)
noncomputable def f32_k0 (m0 : Nat) : Kont := kret PP HH 32 Try.f32.results
noncomputable def f32_r3 (m0 : Nat) (x0 : AV) (B : List Row) : Option Res := exec PP HH 32 m0 EE LL (l2 (l2 f32_c)) (f32_k0 m0) [(0, x0)] B
theorem f32_r3_eq (m0 : Nat) (x0 : AV) (B : List Row) : f32_r3 m0 x0 B =
 mk (f32_ret (shr (shr x0)) B) := by kernel_rfl
theorem f32_eq (x0 x1 : AV) (B : List Row) : EE 32 [x0, x1] B =
 (let m0 := B.length
 mk (mk (ob (xbin PP .eql 3 (shr x0) (iv (-1))) fun a1 =>
 asB a1 fun t2 => br t2 (mk (f32_ret (shr (shr x1)) B))
 (f32_r3 m0 x0 (gcB m0 [x0] B))))) := (E_eq PP XX HH _ _ _).trans (by kernel_rfl)
/-! "(colander/colanderref07.Set).Numbered" -/
noncomputable def f33_c : Code := bodyOf Try.f33
def f33_ret (r0 : AV) (B : List Row) : Option Res :=
 ob (ob (some r0) fun v => ob (some []) fun vs => some (v :: vs)) fun vs => some ((nrmA (match vs with | [v] => v | vs => mkTup (vs.map shr))), B)
theorem f33_eq (x0 : AV) (B : List Row) : EE 33 [x0] B =
 (let m0 := B.length
 mk (bx x0 B fun a1 B2 =>
 mk (ob (xfld 0 a1) fun a3 =>
 ob (ldN false 1 a3 B2) fun a4 =>
 ob (xbin PP .geq 3 a4 (iv 0)) fun a5 =>
 asB (shr a5) fun t6 => br t6 (ob (xfld 0 a1) fun a7 =>
 ob (ldN false 1 a7 B2) fun a8 =>
 ob (xbin PP .leq 3 a8 (iv 255)) fun a9 =>
 asB (shr (shr a9)) fun t10 => br t10 (ob (xfld 1 a1) fun a11 =>
 ob (ldN false 1 a11 B2) fun a12 =>
 ob (xbin PP .geq 3 a12 (iv 0)) fun a13 =>
 asB (shr (shr a13)) fun t14 => br t14 (ob (xfld 1 a1) fun a15 =>
 ob (ldN false 1 a15 B2) fun a16 =>
 ob (xbin PP .leq 3 a16 (iv 255)) fun a17 =>
 asB (shr (shr a17)) fun t18 => br t18 (ob (xfld 2 a1) fun a19 =>
 ob (ldN false 1 a19 B2) fun a20 =>
 ob (xbin PP .geq 3 a20 (iv 1)) fun a21 =>
 asB (shr (shr a21)) fun t22 => br t22 (ob (xfld 2 a1) fun a23 =>
 ob (ldN false 1 a23 B2) fun a24 =>
 ob (xbin PP .leq 3 a24 (iv 1048576)) fun a25 =>
 asB (shr (shr a25)) fun t26 => br t26 (ob (xfld 3 a1) fun a27 =>
 ob (ldN false 1 a27 B2) fun a28 =>
 ob (xbin PP .geq 3 a28 (iv 0)) fun a29 =>
 asB (shr (shr a29)) fun t30 => br t30 (ob (xfld 3 a1) fun a31 =>
 ob (ldN false 1 a31 B2) fun a32 =>
 ob (xbin PP .leq 3 a32 (iv 4096)) fun a33 =>
 f33_ret (shr (shr a33)) B2)
 (f33_ret (bv false) B2))
 (f33_ret (bv false) B2))
 (f33_ret (bv false) B2))
 (f33_ret (bv false) B2))
 (f33_ret (bv false) B2))
 (f33_ret (bv false) B2))
 (f33_ret (bv false) B2)))) := (E_eq PP XX HH _ _ _).trans (by kernel_rfl)
/-! "(colander/colanderref07.Rule).Right" -/
noncomputable def f34_c : Code := bodyOf Try.f34
def f34_ret (r0 : AV) (B : List Row) : Option Res :=
 ob (ob (some r0) fun v => ob (some []) fun vs => some (v :: vs)) fun vs => some ((nrmA (match vs with | [v] => v | vs => mkTup (vs.map shr))), B)
theorem f34_eq (x0 : AV) (B : List Row) : EE 34 [x0] B =
 (let m0 := B.length
 mk (bx x0 B fun a1 B2 =>
 mk (ob (xfld 0 a1) fun a3 =>
 ob (ldN false 1 a3 B2) fun a4 =>
 ob (xbin PP .geq 3 a4 (iv 1)) fun a5 =>
 asB (shr a5) fun t6 => br t6 (ob (xfld 0 a1) fun a7 =>
 ob (ldN false 1 a7 B2) fun a8 =>
 ob (xbin PP .leq 3 a8 (iv 1099511627776)) fun a9 =>
 asB (shr (shr a9)) fun t10 => br t10 (ob (xfld 1 a1) fun a11 =>
 ob (ldN false 1 a11 B2) fun a12 =>
 ob (xbin PP .geq 3 a12 (iv 0)) fun a13 =>
 asB (shr (shr a13)) fun t14 => br t14 (ob (xfld 1 a1) fun a15 =>
 ob (ldN false 1 a15 B2) fun a16 =>
 ob (xbin PP .leq 3 a16 (iv 1000)) fun a17 =>
 asB (shr (shr a17)) fun t18 => br t18 (ob (xfld 2 a1) fun a19 =>
 ob (ldN false 1 a19 B2) fun a20 =>
 ob (xbin PP .geq 3 a20 (iv 0)) fun a21 =>
 asB (shr (shr a21)) fun t22 => br t22 (ob (xfld 2 a1) fun a23 =>
 ob (ldN false 1 a23 B2) fun a24 =>
 ob (xbin PP .leq 3 a24 (iv 255)) fun a25 =>
 asB (shr (shr a25)) fun t26 => br t26 (ob (xfld 3 a1) fun a27 =>
 ob (ldN false 1 a27 B2) fun a28 =>
 ob (xbin PP .geq 3 a28 (iv 1)) fun a29 =>
 asB (shr (shr a29)) fun t30 => br t30 (ob (xfld 3 a1) fun a31 =>
 ob (ldN false 1 a31 B2) fun a32 =>
 ob (xbin PP .leq 3 a32 (iv 65535)) fun a33 =>
 asB (shr (shr a33)) fun t34 => br t34 (ob (xfld 4 a1) fun a35 =>
 ob (ldN false 1 a35 B2) fun a36 =>
 ob (xlen PP 9 a36) fun a37 =>
 ob (xbin PP .leq 3 a37 (iv 256)) fun a38 =>
 f34_ret (shr (shr a38)) B2)
 (f34_ret (bv false) B2))
 (f34_ret (bv false) B2))
 (f34_ret (bv false) B2))
 (f34_ret (bv false) B2))
 (f34_ret (bv false) B2))
 (f34_ret (bv false) B2))
 (f34_ret (bv false) B2))
 (f34_ret (bv false) B2)))) := (E_eq PP XX HH _ _ _).trans (by kernel_rfl)
/-! "colander/colanderref07.twice" -/
noncomputable def f35_c : Code := bodyOf Try.f35
def f35_ret (r0 : AV) (B : List Row) : Option Res :=
 ob (ob (some r0) fun v => ob (some []) fun vs => some (v :: vs)) fun vs => some ((nrmA (match vs with | [v] => v | vs => mkTup (vs.map shr))), B)
noncomputable def f35_k0 (m0 : Nat) : Kont := kret PP HH 35 Try.f35.results
noncomputable def f35_k1 (m0 : Nat) : Kont := kseq HH 35 m0 (l2 (l2 (l2 f35_c))) (exec PP HH 35 m0 EE LL (l2 (l2 (l2 f35_c))) (f35_k0 m0)) (f35_k0 m0)
noncomputable def f35_k2 (m0 : Nat) : Kont := kblk 0 (f35_k1 m0)
noncomputable def f35_k3 (m0 : Nat) : Kont := kloop HH 35 m0 (l1 (l1 (l2 (l1 (l2 (l2 f35_c)))))) (LL 35 m0 (l1 (l1 (l2 (l1 (l2 (l2 f35_c)))))) (f35_k2 m0)) (f35_k2 m0)
noncomputable def f35_k4 (m0 : Nat) : Kont := kseq HH 35 m0 (l2 (l2 (l2 (l2 (l2 f35_c))))) (exec PP HH 35 m0 EE LL (l2 (l2 (l2 (l2 (l2 f35_c))))) (f35_k0 m0)) (f35_k0 m0)
noncomputable def f35_k5 (m0 : Nat) : Kont := kblk 2 (f35_k4 m0)
noncomputable def f35_k6 (m0 : Nat) : Kont := kloop HH 35 m0 (l1 (l1 (l2 (l1 (l2 (l2 (l2 (l2 f35_c)))))))) (LL 35 m0 (l1 (l1 (l2 (l1 (l2 (l2 (l2 (l2 f35_c)))))))) (f35_k5 m0)) (f35_k5 m0)
noncomputable def f35_k7 (m0 : Nat) : Kont := kseq HH 35 m0 (l2 (l2 (l1 (l1 (l2 (l1 (l2 (l2 (l2 (l2 f35_c)))))))))) (exec PP HH 35 m0 EE LL (l2 (l2 (l1 (l1 (l2 (l1 (l2 (l2 (l2 (l2 f35_c)))))))))) (f35_k6 m0)) (f35_k6 m0)
noncomputable def f35_k8 (m0 : Nat) : Kont := kblk 3 (f35_k7 m0)
noncomputable def f35_k9 (m0 : Nat) : Kont := kblk 4 (f35_k8 m0)
noncomputable def f35_k10 (m0 : Nat) : Kont := kloop HH 35 m0 (l1 (l1 (l2 (l1 (l1 (l2 (l1 (l1 (l2 (l1 (l2 (l2 (l2 (l2 f35_c)))))))))))))) (LL 35 m0 (l1 (l1 (l2 (l1 (l1 (l2 (l1 (l1 (l2 (l1 (l2 (l2 (l2 (l2 f35_c)))))))))))))) (f35_k9 m0)) (f35_k9 m0)
noncomputable def f35_l3 (m0 : Nat) (x1 x3 x4 : AV) (B : List Row) : Option Res := lp (LL 35 m0 (l1 (l1 (l2 (l1 (l2 (l2 f35_c)))))) (f35_k2 m0) [(1, x1), (3, x3), (4, x4)] B)
noncomputable def f35_r5 (m0 : Nat) (x1 x3 x4 : AV) (B : List Row) : Option Res := exec PP HH 35 m0 EE LL (l2 (l1 (l1 (l2 (l1 (l2 (l2 f35_c))))))) (f35_k3 m0) [(1, x1), (3, x3), (4, x4)] B
noncomputable def f35_r6 (m0 : Nat) (x1 x3 : AV) (B : List Row) : Option Res := exec PP HH 35 m0 EE LL (l2 (l2 (l2 f35_c))) (f35_k0 m0) [(1, x1), (3, x3)] B
noncomputable def f35_l8 (m0 : Nat) (x3 x5 : AV) (B : List Row) : Option Res := lp (LL 35 m0 (l1 (l1 (l2 (l1 (l2 (l2 (l2 (l2 f35_c)))))))) (f35_k5 m0) [(3, x3), (5, x5)] B)
noncomputable def f35_r10 (m0 : Nat) (x3 x5 : AV) (B : List Row) : Option Res := exec PP HH 35 m0 EE LL (l2 (l1 (l1 (l2 (l1 (l2 (l2 (l2 (l2 f35_c))))))))) (f35_k6 m0) [(3, x3), (5, x5)] B
noncomputable def f35_r15 (m0 : Nat) (B : List Row) : Option Res := exec PP HH 35 m0 EE LL (l2 (l2 (l2 (l2 (l2 f35_c))))) (f35_k0 m0) [] B
noncomputable def f35_l11 (m0 : Nat) (x3 x5 x6 : AV) (B : List Row) : Option Res := lp (LL 35 m0 (l1 (l1 (l2 (l1 (l1 (l2 (l1 (l1 (l2 (l1 (l2 (l2 (l2 (l2 f35_c)))))))))))))) (f35_k9 m0) [(3, x3), (5, x5), (6, x6)] B)
noncomputable def f35_r13 (m0 : Nat) (x3 x5 x6 : AV) (B : List Row) : Option Res := exec PP HH 35 m0 EE LL (l2 (l1 (l1 (l2 (l1 (l1 (l2 (l1 (l1 (l2 (l1 (l2 (l2 (l2 (l2 f35_c))))))))))))))) (f35_k10 m0) [(3, x3), (5, x5), (6, x6)] B
noncomputable def f35_r9 (m0 : Nat) (x3 x5 : AV) (B : List Row) : Option Res := exec PP HH 35 m0 EE LL (l2 (l2 (l1 (l1 (l2 (l1 (l2 (l2 (l2 (l2 f35_c)))))))))) (f35_k6 m0) [(3, x3), (5, x5)] B
noncomputable def f35_r12 (m0 : Nat) (x3 x5 x6 : AV) (B : List Row) : Option Res := exec PP HH 35 m0 EE LL (l2 (l2 (l1 (l1 (l2 (l1 (l1 (l2 (l1 (l1 (l2 (l1 (l2 (l2 (l2 (l2 f35_c)))))))))))))))) (f35_k10 m0) [(3, x3), (5, x5), (6, x6)] B
theorem f35_l3_eq (m0 : Nat) (x1 x3 x4 : AV) (B : List Row) : f35_l3 m0 x1 x3 x4 B =
 mk (ob (xfld 4 x1) fun a3 =>
 ob (ldN false 1 a3 B) fun a4 =>
 ob (xlen PP 34 a4) fun a5 =>
 ob (xbin PP .lss 3 (shr x4) a5) fun a6 =>
 asB a6 fun t7 => br t7 (f35_r5 m0 x1 x3 x4 (gcB m0 [x1, x3, x4] B))
 (f35_r6 m0 x1 x3 (gcB m0 [x1, x3] B))) := (L_eq PP XX HH _ _ _ _ _ _).trans (by kernel_rfl)
theorem f35_r5_eq (m0 : Nat) (x1 x3 x4 : AV) (B : List Row) : f35_r5 m0 x1 x3 x4 B =
 mk (ob (xfld 4 x1) fun a8 =>
 ob (ldN false 1 a8 B) fun a9 =>
 ob (xidx 5 a9 (shr x4)) fun a10 =>
 ob (xfld 0 a10) fun a11 =>
 ob (ldN false 1 a11 B) fun a12 =>
 ob (xlit PP 25 1 [(0, a12)]) fun a13 =>
 ob (xapp 1 x3 a13) fun a14 =>
 mk (ob (xbin PP .add 3 (shr x4) (iv 1)) fun a15 =>
 f35_l3 m0 x1 a14 (shr a15) (gcB m0 [x1, a14, (shr a15)] B))) := by kernel_rfl
theorem f35_r6_eq (m0 : Nat) (x1 x3 : AV) (B : List Row) : f35_r6 m0 x1 x3 B =
 mk (ob (xfld 5 x1) fun a16 =>
 ob (ldN false 1 a16 B) fun a17 =>
 ob (xapp 1 x3 a17) fun a18 =>
 mk (f35_l8 m0 a18 (iv 0) (gcB m0 [a18, (iv 0)] B))) := by kernel_rfl
theorem f35_l8_eq (m0 : Nat) (x3 x5 : AV) (B : List Row) : f35_l8 m0 x3 x5 B =
 mk (ob (xlen PP 25 (shr x3)) fun a19 =>
 ob (xbin PP .lss 3 (shr x5) a19) fun a20 =>
 asB a20 fun t21 => br t21 (f35_r10 m0 x3 x5 (gcB m0 [x3, x5] B))
 (f35_r15 m0  (gcB m0 [] B))) := (L_eq PP XX HH _ _ _ _ _ _).trans (by kernel_rfl)
theorem f35_r10_eq (m0 : Nat) (x3 x5 : AV) (B : List Row) : f35_r10 m0 x3 x5 B =
 mk (f35_l11 m0 x3 x5 (iv 0) (gcB m0 [x3, x5, (iv 0)] B)) := by kernel_rfl
theorem f35_r15_eq (m0 : Nat) (B : List Row) : f35_r15 m0  B =
 mk (f35_ret (bv false) B) := by kernel_rfl
theorem f35_l11_eq (m0 : Nat) (x3 x5 x6 : AV) (B : List Row) : f35_l11 m0 x3 x5 x6 B =
 mk (ob (xbin PP .lss 3 (shr x6) (shr x5)) fun a22 =>
 asB a22 fun t23 => br t23 (f35_r13 m0 x3 x5 x6 (gcB m0 [x3, x5, x6] B))
 (f35_r9 m0 x3 x5 (gcB m0 [x3, x5] B))) := (L_eq PP XX HH _ _ _ _ _ _).trans (by kernel_rfl)
theorem f35_r13_eq (m0 : Nat) (x3 x5 x6 : AV) (B : List Row) : f35_r13 m0 x3 x5 x6 B =
 mk (ob (xidx 1 (shr x3) (shr x5)) fun a24 =>
 ob (ldN false 1 a24 B) fun a25 =>
 ob (xidx 1 (shr x3) (shr x6)) fun a26 =>
 ob (ldN false 1 a26 B) fun a27 =>
 ob (xbin PP .eql 3 a25 a27) fun a28 =>
 asB a28 fun t29 => br t29 (mk (f35_ret (bv true) B))
 (f35_r12 m0 x3 x5 x6 (gcB m0 [x3, x5, x6] B))) := by kernel_rfl
theorem f35_r9_eq (m0 : Nat) (x3 x5 : AV) (B : List Row) : f35_r9 m0 x3 x5 B =
 mk (ob (xbin PP .add 3 (shr x5) (iv 1)) fun a30 =>
 f35_l8 m0 x3 (shr a30) (gcB m0 [x3, (shr a30)] B)) := by kernel_rfl
theorem f35_r12_eq (m0 : Nat) (x3 x5 x6 : AV) (B : List Row) : f35_r12 m0 x3 x5 x6 B =
 mk (ob (xbin PP .add 3 (shr x6) (iv 1)) fun a31 =>
 f35_l11 m0 x3 x5 (shr a31) (gcB m0 [x3, x5, (shr a31)] B)) := by kernel_rfl
theorem f35_eq (x0 : AV) (B : List Row) : EE 35 [x0] B =
 (let m0 := B.length
 mk (bx x0 B fun a1 B2 =>
 mk (mk (f35_l3 m0 a1 nilA (iv 0) (gcB m0 [a1, nilA, (iv 0)] B2))))) := (E_eq PP XX HH _ _ _).trans (by kernel_rfl)
/-! "colander/colanderref07.find" -/
noncomputable def f36_c : Code := bodyOf Try.f36
def f36_ret (r0 : AV) (B : List Row) : Option Res :=
 ob (ob (some r0) fun v => ob (some []) fun vs => some (v :: vs)) fun vs => some ((nrmA (match vs with | [v] => v | vs => mkTup (vs.map shr))), B)
noncomputable def f36_k0 (m0 : Nat) : Kont := kret PP HH 36 Try.f36.results
noncomputable def f36_k1 (m0 : Nat) : Kont := kseq HH 36 m0 (l2 (l2 f36_c)) (exec PP HH 36 m0 EE LL (l2 (l2 f36_c)) (f36_k0 m0)) (f36_k0 m0)
noncomputable def f36_k2 (m0 : Nat) : Kont := kblk 0 (f36_k1 m0)
noncomputable def f36_k3 (m0 : Nat) : Kont := kloop HH 36 m0 (l1 (l1 (l2 (l1 (l2 f36_c))))) (LL 36 m0 (l1 (l1 (l2 (l1 (l2 f36_c))))) (f36_k2 m0)) (f36_k2 m0)
noncomputable def f36_l2 (m0 : Nat) (x0 x1 x5 : AV) (B : List Row) : Option Res := lp (LL 36 m0 (l1 (l1 (l2 (l1 (l2 f36_c))))) (f36_k2 m0) [(0, x0), (1, x1), (5, x5)] B)
noncomputable def f36_r4 (m0 : Nat) (x0 x1 x5 : AV) (B : List Row) : Option Res := exec PP HH 36 m0 EE LL (l2 (l1 (l1 (l2 (l1 (l2 f36_c)))))) (f36_k3 m0) [(0, x0), (1, x1), (5, x5)] B
noncomputable def f36_r6 (m0 : Nat) (B : List Row) : Option Res := exec PP HH 36 m0 EE LL (l2 (l2 f36_c)) (f36_k0 m0) [] B
noncomputable def f36_r3 (m0 : Nat) (x0 x1 x5 : AV) (B : List Row) : Option Res := exec PP HH 36 m0 EE LL (l2 (l2 (l1 (l1 (l2 (l1 (l2 f36_c))))))) (f36_k3 m0) [(0, x0), (1, x1), (5, x5)] B
theorem f36_l2_eq (m0 : Nat) (x0 x1 x5 : AV) (B : List Row) : f36_l2 m0 x0 x1 x5 B =
 mk (ob (xlen PP 34 (shr x0)) fun a1 =>
 ob (xbin PP .lss 3 (shr x5) a1) fun a2 =>
 asB a2 fun t3 => br t3 (f36_r4 m0 x0 x1 x5 (gcB m0 [x0, x1, x5] B))
 (f36_r6 m0  (gcB m0 [] B))) := (L_eq PP XX HH _ _ _ _ _ _).trans (by kernel_rfl)
theorem f36_r4_eq (m0 : Nat) (x0 x1 x5 : AV) (B : List Row) : f36_r4 m0 x0 x1 x5 B =
 mk (ob (xidx 5 (shr x0) (shr x5)) fun a4 =>
 ob (xfld 0 a4) fun a5 =>
 ob (ldN false 1 a5 B) fun a6 =>
 ob (xbin PP .eql 3 a6 (shr x1)) fun a7 =>
 asB a7 fun t8 => br t8 (mk (f36_ret (shr (shr x5)) B))
 (f36_r3 m0 x0 x1 x5 (gcB m0 [x0, x1, x5] B))) := by kernel_rfl
theorem f36_r6_eq (m0 : Nat) (B : List Row) : f36_r6 m0  B =
 mk (f36_ret (iv (-1)) B) := by kernel_rfl
theorem f36_r3_eq (m0 : Nat) (x0 x1 x5 : AV) (B : List Row) : f36_r3 m0 x0 x1 x5 B =
 mk (ob (xbin PP .add 3 (shr x5) (iv 1)) fun a9 =>
 f36_l2 m0 x0 x1 (shr a9) (gcB m0 [x0, x1, (shr a9)] B)) := by kernel_rfl
theorem f36_eq (x0 x1 : AV) (B : List Row) : EE 36 [x0, x1] B =
 (let m0 := B.length
 mk (mk (f36_l2 m0 x0 x1 (iv 0) (gcB m0 [x0, x1, (iv 0)] B)))) := (E_eq PP XX HH _ _ _).trans (by kernel_rfl)
/-! "colander/colanderref07.put" -/
noncomputable def f37_c : Code := bodyOf Try.f37
def f37_ret (r0 : AV) (B : List Row) : Option Res :=
 ob (ob (some r0) fun v => ob (some []) fun vs => some (v :: vs)) fun vs => some ((nrmA (match vs with | [v] => v | vs => mkTup (vs.map shr))), B)
noncomputable def f37_k0 (m0 : Nat) : Kont := kret PP HH 37 Try.f37.results
noncomputable def f37_k1 (m0 : Nat) : Kont := kseq HH 37 m0 (l2 (l2 (l2 (l2 f37_c)))) (exec PP HH 37 m0 EE LL (l2 (l2 (l2 (l2 f37_c)))) (f37_k0 m0)) (f37_k0 m0)
noncomputable def f37_k2 (m0 : Nat) : Kont := kblk 0 (f37_k1 m0)
noncomputable def f37_k3 (m0 : Nat) : Kont := kloop HH 37 m0 (l1 (l1 (l2 (l1 (l2 (l2 (l2 f37_c))))))) (LL 37 m0 (l1 (l1 (l2 (l1 (l2 (l2 (l2 f37_c))))))) (f37_k2 m0)) (f37_k2 m0)
noncomputable def f37_k4 (m0 : Nat) : Kont := kseq HH 37 m0 (l2 (l2 (l1 (l1 (l2 (l1 (l2 (l2 (l2 f37_c))))))))) (exec PP HH 37 m0 EE LL (l2 (l2 (l1 (l1 (l2 (l1 (l2 (l2 (l2 f37_c))))))))) (f37_k3 m0)) (f37_k3 m0)
noncomputable def f37_k5 (m0 : Nat) : Kont := kblk 1 (f37_k4 m0)
noncomputable def f37_k6 (m0 : Nat) : Kont := kseq HH 37 m0 (l2 (l1 (l1 (l2 (l1 (l1 (l2 (l1 (l2 (l2 (l2 f37_c))))))))))) (exec PP HH 37 m0 EE LL (l2 (l1 (l1 (l2 (l1 (l1 (l2 (l1 (l2 (l2 (l2 f37_c))))))))))) (f37_k5 m0)) (f37_k5 m0)
noncomputable def f37_l4 (m0 : Nat) (x0 x3 x5 x6 x7 : AV) (B : List Row) : Option Res := lp (LL 37 m0 (l1 (l1 (l2 (l1 (l2 (l2 (l2 f37_c))))))) (f37_k2 m0) [(0, x0), (3, x3), (5, x5), (6, x6), (7, x7)] B)
noncomputable def f37_r6 (m0 : Nat) (x0 x3 x5 x6 x7 : AV) (B : List Row) : Option Res := exec PP HH 37 m0 EE LL (l2 (l1 (l1 (l2 (l1 (l2 (l2 (l2 f37_c)))))))) (f37_k3 m0) [(0, x0), (3, x3), (5, x5), (6, x6), (7, x7)] B
noncomputable def f37_r11 (m0 : Nat) (x3 x5 x6 : AV) (B : List Row) : Option Res := exec PP HH 37 m0 EE LL (l2 (l2 (l2 (l2 f37_c)))) (f37_k0 m0) [(3, x3), (5, x5), (6, x6)] B
noncomputable def f37_r7 (m0 : Nat) (x0 x3 x5 x7 : AV) (B : List Row) : Option Res := exec PP HH 37 m0 EE LL (l1 (l2 (l1 (l1 (l1 (l2 (l1 (l1 (l2 (l1 (l2 (l2 (l2 f37_c))))))))))))) (f37_k6 m0) [(0, x0), (3, x3), (5, x5), (7, x7)] B
noncomputable def f37_r9 (m0 : Nat) (x0 x3 x5 x6 x7 : AV) (B : List Row) : Option Res := exec PP HH 37 m0 EE LL (l2 (l1 (l1 (l2 (l1 (l1 (l2 (l1 (l2 (l2 (l2 f37_c))))))))))) (f37_k5 m0) [(0, x0), (3, x3), (5, x5), (6, x6), (7, x7)] B
noncomputable def f37_r13 (m0 : Nat) (x5 : AV) (B : List Row) : Option Res := exec PP HH 37 m0 EE LL (l2 (l2 (l2 (l2 (l2 f37_c))))) (f37_k0 m0) [(5, x5)] B
noncomputable def f37_r5 (m0 : Nat) (x0 x3 x5 x6 x7 : AV) (B : List Row) : Option Res := exec PP HH 37 m0 EE LL (l2 (l2 (l1 (l1 (l2 (l1 (l2 (l2 (l2 f37_c))))))))) (f37_k3 m0) [(0, x0), (3, x3), (5, x5), (6, x6), (7, x7)] B
theorem f37_l4_eq (m0 : Nat) (x0 x3 x5 x6 x7 : AV) (B : List Row) : f37_l4 m0 x0 x3 x5 x6 x7 B =
 mk (ob (xlen PP 34 (shr x0)) fun a3 =>
 ob (xbin PP .lss 3 (shr x7) a3) fun a4 =>
 asB a4 fun t5 => br t5 (f37_r6 m0 x0 x3 x5 x6 x7 (gcB m0 [x0, x3, x5, x6, x7] B))
 (f37_r11 m0 x3 x5 x6 (gcB m0 [x3, x5, x6] B))) := (L_eq PP XX HH _ _ _ _ _ _).trans (by kernel_rfl)
theorem f37_r6_eq (m0 : Nat) (x0 x3 x5 x6 x7 : AV) (B : List Row) : f37_r6 m0 x0 x3 x5 x6 x7 B =
 mk (ob (xun PP .not (shr x6)) fun a6 =>
 asB (shr a6) fun t7 => br t7 (ob (xidx 5 (shr x0) (shr x7)) fun a8 =>
 ob (xfld 0 a8) fun a9 =>
 ob (ldN false 1 a9 B) fun a10 =>
 ob (xfld 0 x3) fun a11 =>
 ob (ldN false 1 a11 B) fun a12 =>
 ob (xbin PP .geq 3 a10 a12) fun a13 =>
 asB (shr a13) fun t14 => br t14 (f37_r7 m0 x0 x3 x5 x7 (gcB m0 [x0, x3, x5, x7] B))
 (f37_r9 m0 x0 x3 x5 x6 x7 (gcB m0 [x0, x3, x5, x6, x7] B)))
 (f37_r9 m0 x0 x3 x5 x6 x7 (gcB m0 [x0, x3, x5, x6, x7] B))) := by kernel_rfl
theorem f37_r11_eq (m0 : Nat) (x3 x5 x6 : AV) (B : List Row) : f37_r11 m0 x3 x5 x6 B =
 mk (ob (xun PP .not (shr x6)) fun a15 =>
 asB a15 fun t16 => br t16 (mk (ob (ldN true 5 x3 B) fun a17 =>
 ob (xlit PP 34 1 [(0, a17)]) fun a18 =>
 ob (xapp 5 x5 a18) fun a19 =>
 f37_r13 m0 a19 (gcB m0 [a19] B)))
 (f37_r13 m0 x5 (gcB m0 [x5] B))) := by kernel_rfl
theorem f37_r7_eq (m0 : Nat) (x0 x3 x5 x7 : AV) (B : List Row) : f37_r7 m0 x0 x3 x5 x7 B =
 mk (ob (ldN true 5 x3 B) fun a20 =>
 ob (xlit PP 34 1 [(0, a20)]) fun a21 =>
 ob (xapp 5 x5 a21) fun a22 =>
 mk (f37_r9 m0 x0 x3 a22 (bv true) x7 (gcB m0 [x0, x3, a22, (bv true), x7] B))) := by kernel_rfl
theorem f37_r9_eq (m0 : Nat) (x0 x3 x5 x6 x7 : AV) (B : List Row) : f37_r9 m0 x0 x3 x5 x6 x7 B =
 mk (ob (xidx 5 (shr x0) (shr x7)) fun a23 =>
 ob (xfld 0 a23) fun a24 =>
 ob (ldN false 1 a24 B) fun a25 =>
 ob (xfld 0 x3) fun a26 =>
 ob (ldN false 1 a26 B) fun a27 =>
 ob (xbin PP .neq 3 a25 a27) fun a28 =>
 asB a28 fun t29 => br t29 (mk (ob (xidx 5 (shr x0) (shr x7)) fun a30 =>
 ob (ldN true 5 a30 B) fun a31 =>
 ob (xlit PP 34 1 [(0, a31)]) fun a32 =>
 ob (xapp 5 x5 a32) fun a33 =>
 f37_r5 m0 x0 x3 a33 x6 x7 (gcB m0 [x0, x3, a33, x6, x7] B)))
 (f37_r5 m0 x0 x3 x5 x6 x7 (gcB m0 [x0, x3, x5, x6, x7] B))) := by kernel_rfl
theorem f37_r13_eq (m0 : Nat) (x5 : AV) (B : List Row) : f37_r13 m0 x5 B =
 mk (f37_ret (shr (shr x5)) B) := by kernel_rfl
theorem f37_r5_eq (m0 : Nat) (x0 x3 x5 x6 x7 : AV) (B : List Row) : f37_r5 m0 x0 x3 x5 x6 x7 B =
 mk (ob (xbin PP .add 3 (shr x7) (iv 1)) fun a34 =>
 f37_l4 m0 x0 x3 x5 x6 (shr a34) (gcB m0 [x0, x3, x5, x6, (shr a34)] B)) := by kernel_rfl
theorem f37_eq (x0 x1 : AV) (B : List Row) : EE 37 [x0, x1] B =
 (let m0 := B.length
 mk (bx x1 B fun a1 B2 =>
 mk (mk (mk (f37_l4 m0 x0 a1 nilA (bv false) (iv 0) (gcB m0 [x0, a1, nilA, (bv false), (iv 0)] B2)))))) := (E_eq PP XX HH _ _ _).trans (by kernel_rfl)
/-! "colander/rule.unlike" -/
noncomputable def f38_c : Code := bodyOf Try.f38
def f38_ret (r0 : AV) (B : List Row) : Option Res :=
 ob (ob (some r0) fun v => ob (some []) fun vs => some (v :: vs)) fun vs => some ((nrmA (match vs with | [v] => v | vs => mkTup (vs.map shr))), B)
noncomputable def f38_k0 (m0 : Nat) : Kont := kret PP HH 38 Try.f38.results
noncomputable def f38_r3 (m0 : Nat) (x1 : AV) (B : List Row) : Option Res := exec PP HH 38 m0 EE LL (l2 (l2 f38_c)) (f38_k0 m0) [(1, x1)] B
theorem f38_r3_eq (m0 : Nat) (x1 : AV) (B : List Row) : f38_r3 m0 x1 B =
 mk (f38_ret (shr (shr x1)) B) := by kernel_rfl
theorem f38_eq (x0 x1 : AV) (B : List Row) : EE 38 [x0, x1] B =
 (let m0 := B.length
 mk (mk (ob (xbin PP .eql 3 (shr x0) (shr x1)) fun a1 =>
 asB a1 fun t2 => br t2 (mk (f38_ret (iv (-1)) B))
 (f38_r3 m0 x1 (gcB m0 [x1] B))))) := (E_eq PP XX HH _ _ _).trans (by kernel_rfl)
/-! "(colander/rule.Set).Order$1" -/
noncomputable def f40_c : Code := bodyOf Try.f40
def f40_ret (r0 : AV) (B : List Row) : Option Res :=
 ob (ob (some r0) fun v => ob (some []) fun vs => some (v :: vs)) fun vs => some ((nrmA (match vs with | [v] => v | vs => mkTup (vs.map shr))), B)
theorem f40_eq (x0 x1 x2 : AV) (B : List Row) : EE 40 [x0, x1, x2] B =
 (let m0 := B.length
 mk (mk (ob (xfld 4 x2) fun a1 =>
 ob (ldN false 1 a1 B) fun a2 =>
 ob (xidx 5 a2 (shr x1)) fun a3 =>
 ob (xfld 1 a3) fun a4 =>
 ob (ldN false 1 a4 B) fun a5 =>
 ob (xfld 4 x2) fun a6 =>
 ob (ldN false 1 a6 B) fun a7 =>
 ob (xidx 5 a7 (shr x0)) fun a8 =>
 ob (xfld 1 a8) fun a9 =>
 ob (ldN false 1 a9 B) fun a10 =>
 callS false EE 41 [a5, a10] B fun a11 B12 =>
 f40_ret (shr a11) B12))) := (E_eq PP XX HH _ _ _).trans (by kernel_rfl)
/-! "cmp.Compare[int]" -/
noncomputable def f41_c : Code := bodyOf Try.f41
def f41_ret (r0 : AV) (B : List Row) : Option Res :=
 ob (ob (some r0) fun v => ob (some []) fun vs => some (v :: vs)) fun vs => some ((nrmA (match vs with | [v] => v | vs => mkTup (vs.map shr))), B)
noncomputable def f41_k0 (m0 : Nat) : Kont := kret PP HH 41 Try.f41.results
noncomputable def f41_k1 (m0 : Nat) : Kont := kseq HH 41 m0 (l2 (l2 (l2 (l2 f41_c)))) (exec PP HH 41 m0 EE LL (l2 (l2 (l2 (l2 f41_c)))) (f41_k0 m0)) (f41_k0 m0)
noncomputable def f41_r6 (m0 : Nat) (B : List Row) : Option Res := exec PP HH 41 m0 EE LL (l2 (l1 (l2 (l1 (l2 (l2 (l2 f41_c))))))) (f41_k1 m0) [] B
noncomputable def f41_r7 (m0 : Nat) (x0 x1 x6 : AV) (B : List Row) : Option Res := exec PP HH 41 m0 EE LL (l2 (l2 (l2 (l2 f41_c)))) (f41_k0 m0) [(0, x0), (1, x1), (6, x6)] B
noncomputable def f41_r9 (m0 : Nat) (x0 x1 : AV) (B : List Row) : Option Res := exec PP HH 41 m0 EE LL (l2 (l2 (l2 (l2 (l2 f41_c))))) (f41_k0 m0) [(0, x0), (1, x1)] B
noncomputable def f41_r11 (m0 : Nat) (x0 x1 : AV) (B : List Row) : Option Res := exec PP HH 41 m0 EE LL (l2 (l2 (l2 (l2 (l2 (l2 f41_c)))))) (f41_k0 m0) [(0, x0), (1, x1)] B
noncomputable def f41_r13 (m0 : Nat) (B : List Row) : Option Res := exec PP HH 41 m0 EE LL (l2 (l2 (l2 (l2 (l2 (l2 (l2 f41_c))))))) (f41_k0 m0) [] B
theorem f41_r6_eq (m0 : Nat) (B : List Row) : f41_r6 m0  B =
 mk (f41_ret (iv (-1)) B) := by kernel_rfl
theorem f41_r7_eq (m0 : Nat) (x0 x1 x6 : AV) (B : List Row) : f41_r7 m0 x0 x1 x6 B =
 mk (asB (shr x6) fun t7 => br t7 (mk (f41_ret (iv 1) B))
 (f41_r9 m0 x0 x1 (gcB m0 [x0, x1] B))) := by kernel_rfl
theorem f41_r9_eq (m0 : Nat) (x0 x1 : AV) (B : List Row) : f41_r9 m0 x0 x1 B =
 mk (ob (xbin PP .lss 3 (shr x0) (shr x1)) fun a8 =>
 asB a8 fun t9 => br t9 (mk (f41_ret (iv (-1)) B))
 (f41_r11 m0 x0 x1 (gcB m0 [x0, x1] B))) := by kernel_rfl
theorem f41_r11_eq (m0 : Nat) (x0 x1 : AV) (B : List Row) : f41_r11 m0 x0 x1 B =
 mk (ob (xbin PP .gtr 3 (shr x0) (shr x1)) fun a10 =>
 asB a10 fun t11 => br t11 (mk (f41_ret (iv 1) B))
 (f41_r13 m0  (gcB m0 [] B))) := by kernel_rfl
theorem f41_r13_eq (m0 : Nat) (B : List Row) : f41_r13 m0  B =
 mk (f41_ret (iv 0) B) := by kernel_rfl
theorem f41_eq (x0 x1 : AV) (B : List Row) : EE 41 [x0, x1] B =
 (let m0 := B.length
 mk (mk (callS false EE 51 [(shr x0)] B fun a1 B2 =>
 mk (callS false EE 51 [(shr x1)] B2 fun a3 B4 =>
 mk (asB (shr (shr a1)) fun t5 => br t5 (mk (asB (shr (shr a3)) fun t6 => br t6 (mk (f41_ret (iv 0) B4))
 (f41_r6 m0  (gcB m0 [] B4))))
 (f41_r7 m0 x0 x1 (shr a3) (gcB m0 [x0, x1, (shr a3)] B4))))))) := (E_eq PP XX HH _ _ _).trans (by kernel_rfl)
/-! "slices.ContainsFunc[[]colander/rule.Rule,colander/rule.Rule]" -/
noncomputable def f42_c : Code := bodyOf Try.f42
def f42_ret (r0 : AV) (B : List Row) : Option Res :=
 ob (ob (some r0) fun v => ob (some []) fun vs => some (v :: vs)) fun vs => some ((nrmA (match vs with | [v] => v | vs => mkTup (vs.map shr))), B)
theorem f42_eq (x0 x1 : AV) (B : List Row) : EE 42 [x0, x1] B =
 (let m0 := B.length
 mk (mk (callS false EE 52 [(shr x0), (shr x1)] B fun a1 B2 =>
 ob (xbin PP .geq 3 a1 (iv 0)) fun a3 =>
 f42_ret (shr a3) B2))) := (E_eq PP XX HH _ _ _).trans (by kernel_rfl)
/-! "colander/rule.all[colander/rule.Rule]$1" -/
noncomputable def f43_c : Code := bodyOf Try.f43
def f43_ret (r0 : AV) (B : List Row) : Option Res :=
 ob (ob (some r0) fun v => ob (some []) fun vs => some (v :: vs)) fun vs => some ((nrmA (match vs with | [v] => v | vs => mkTup (vs.map shr))), B)
theorem f43_eq (x0 x1 : AV) (B : List Row) : EE 43 [x0, x1] B =
 (let m0 := B.length
 mk (bx x0 B fun a1 B2 =>
 mk (ob (ldN false 1 x1 B2) fun a3 =>
 ob (ldN true 5 a1 B2) fun a4 =>
 callV HH EE a3 [a4] B2 fun a5 B6 =>
 ob (xun PP .not a5) fun a7 =>
 f43_ret (shr a7) B6))) := (E_eq PP XX HH _ _ _).trans (by kernel_rfl)
/-! "(colander/rule.Delta).twice$1" -/
noncomputable def f44_c : Code := bodyOf Try.f44
def f44_ret (r0 : AV) (B : List Row) : Option Res :=
 ob (ob (some r0) fun v => ob (some []) fun vs => some (v :: vs)) fun vs => some ((nrmA (match vs with | [v] => v | vs => mkTup (vs.map shr))), B)
theorem f44_eq (x0 x1 : AV) (B : List Row) : EE 44 [x0, x1] B =
 (let m0 := B.length
 mk (mk (ob (ldN false 1 x1 B) fun a1 =>
 ob (xlook PP 75 false a1 (shr x0) B) fun a2 =>
 mk (ob (ldN false 1 x1 B) fun a3 =>
 xupd PP 75 a3 (shr x0) (bv true) B fun B4 =>
 mk (f44_ret (shr (shr (shr a2))) B4))))) := (E_eq PP XX HH _ _ _).trans (by kernel_rfl)
/-! "(colander/rule.Delta).twice$2" -/
noncomputable def f45_c : Code := bodyOf Try.f45
def f45_ret (r0 : AV) (B : List Row) : Option Res :=
 ob (ob (some r0) fun v => ob (some []) fun vs => some (v :: vs)) fun vs => some ((nrmA (match vs with | [v] => v | vs => mkTup (vs.map shr))), B)
theorem f45_eq (x0 x1 : AV) (B : List Row) : EE 45 [x0, x1] B =
 (let m0 := B.length
 mk (bx x0 B fun a1 B2 =>
 mk (ob (ldN false 1 x1 B2) fun a3 =>
 ob (xfld 0 a1) fun a4 =>
 ob (ldN false 1 a4 B2) fun a5 =>
 callV HH EE a3 [a5] B2 fun a6 B7 =>
 f45_ret (shr a6) B7))) := (E_eq PP XX HH _ _ _).trans (by kernel_rfl)
/-! "slices.ContainsFunc[[]int,int]" -/
noncomputable def f46_c : Code := bodyOf Try.f46
def f46_ret (r0 : AV) (B : List Row) : Option Res :=
 ob (ob (some r0) fun v => ob (some []) fun vs => some (v :: vs)) fun vs => some ((nrmA (match vs with | [v] => v | vs => mkTup (vs.map shr))), B)
theorem f46_eq (x0 x1 : AV) (B : List Row) : EE 46 [x0, x1] B =
 (let m0 := B.length
 mk (mk (callS false EE 53 [(shr x0), (shr x1)] B fun a1 B2 =>
 ob (xbin PP .geq 3 a1 (iv 0)) fun a3 =>
 f46_ret (shr a3) B2))) := (E_eq PP XX HH _ _ _).trans (by kernel_rfl)
/-! "cmp.isNaN[int]" -/
noncomputable def f51_c : Code := bodyOf Try.f51
def f51_ret (r0 : AV) (B : List Row) : Option Res :=
 ob (ob (some r0) fun v => ob (some []) fun vs => some (v :: vs)) fun vs => some ((nrmA (match vs with | [v] => v | vs => mkTup (vs.map shr))), B)
theorem f51_eq (x0 : AV) (B : List Row) : EE 51 [x0] B =
 (let m0 := B.length
 mk (mk (ob (xbin PP .neq 3 (shr x0) (shr x0)) fun a1 =>
 f51_ret (shr a1) B))) := (E_eq PP XX HH _ _ _).trans (by kernel_rfl)
/-! "slices.IndexFunc[[]colander/rule.Rule,colander/rule.Rule]" -/
noncomputable def f52_c : Code := bodyOf Try.f52
def f52_ret (r0 : AV) (B : List Row) : Option Res :=
 ob (ob (some r0) fun v => ob (some []) fun vs => some (v :: vs)) fun vs => some ((nrmA (match vs with | [v] => v | vs => mkTup (vs.map shr))), B)
noncomputable def f52_k0 (m0 : Nat) : Kont := kret PP HH 52 Try.f52.results
noncomputable def f52_k1 (m0 : Nat) : Kont := kseq HH 52 m0 (l2 (l2 f52_c)) (exec PP HH 52 m0 EE LL (l2 (l2 f52_c)) (f52_k0 m0)) (f52_k0 m0)
noncomputable def f52_k2 (m0 : Nat) : Kont := kblk 0 (f52_k1 m0)
noncomputable def f52_k3 (m0 : Nat) : Kont := kloop HH 52 m0 (l1 (l1 (l2 (l1 (l2 f52_c))))) (LL 52 m0 (l1 (l1 (l2 (l1 (l2 f52_c))))) (f52_k2 m0)) (f52_k2 m0)
noncomputable def f52_l2 (m0 : Nat) (x0 x1 x7 x8 : AV) (B : List Row) : Option Res := lp (LL 52 m0 (l1 (l1 (l2 (l1 (l2 f52_c))))) (f52_k2 m0) [(0, x0), (1, x1), (7, x7), (8, x8)] B)
noncomputable def f52_r3 (m0 : Nat) (x0 x1 x7 x8 : AV) (B : List Row) : Option Res := exec PP HH 52 m0 EE LL (l2 (l2 (l1 (l1 (l2 (l1 (l2 f52_c))))))) (f52_k3 m0) [(0, x0), (1, x1), (7, x7), (8, x8)] B
noncomputable def f52_r7 (m0 : Nat) (B : List Row) : Option Res := exec PP HH 52 m0 EE LL (l2 (l2 f52_c)) (f52_k0 m0) [] B
noncomputable def f52_r6 (m0 : Nat) (x0 x1 x7 x8 : AV) (B : List Row) : Option Res := exec PP HH 52 m0 EE LL (l2 (l2 (l2 (l1 (l1 (l2 (l1 (l2 f52_c)))))))) (f52_k3 m0) [(0, x0), (1, x1), (7, x7), (8, x8)] B
theorem f52_l2_eq (m0 : Nat) (x0 x1 x7 x8 : AV) (B : List Row) : f52_l2 m0 x0 x1 x7 x8 B =
 mk (ob (xbin PP .lss 3 x8 x7) fun a2 =>
 asB a2 fun t3 => br t3 (f52_r3 m0 x0 x1 x7 x8 (gcB m0 [x0, x1, x7, x8] B))
 (f52_r7 m0  (gcB m0 [] B))) := (L_eq PP XX HH _ _ _ _ _ _).trans (by kernel_rfl)
theorem f52_r3_eq (m0 : Nat) (x0 x1 x7 x8 : AV) (B : List Row) : f52_r3 m0 x0 x1 x7 x8 B =
 mk (mk (ob (xidx 5 (shr x0) (shr (shr (shr x8)))) fun a4 =>
 ob (ldN true 5 a4 B) fun a5 =>
 callV HH EE (shr x1) [a5] B fun a6 B7 =>
 asB a6 fun t8 => br t8 (mk (f52_ret (shr (shr (shr (shr x8)))) B7))
 (f52_r6 m0 x0 x1 x7 x8 (gcB m0 [x0, x1, x7, x8] B7)))) := by kernel_rfl
theorem f52_r7_eq (m0 : Nat) (B : List Row) : f52_r7 m0  B =
 mk (f52_ret (iv (-1)) B) := by kernel_rfl
theorem f52_r6_eq (m0 : Nat) (x0 x1 x7 x8 : AV) (B : List Row) : f52_r6 m0 x0 x1 x7 x8 B =
 mk (ob (xbin PP .add 3 x8 (iv 1)) fun a9 =>
 f52_l2 m0 x0 x1 x7 (shr a9) (gcB m0 [x0, x1, x7, (shr a9)] B)) := by kernel_rfl
theorem f52_eq (x0 x1 : AV) (B : List Row) : EE 52 [x0, x1] B =
 (let m0 := B.length
 mk (mk (ob (xlen PP 22 (shr x0)) fun a1 =>
 f52_l2 m0 x0 x1 a1 (iv 0) (gcB m0 [x0, x1, a1, (iv 0)] B)))) := (E_eq PP XX HH _ _ _).trans (by kernel_rfl)
/-! "slices.IndexFunc[[]int,int]" -/
noncomputable def f53_c : Code := bodyOf Try.f53
def f53_ret (r0 : AV) (B : List Row) : Option Res :=
 ob (ob (some r0) fun v => ob (some []) fun vs => some (v :: vs)) fun vs => some ((nrmA (match vs with | [v] => v | vs => mkTup (vs.map shr))), B)
noncomputable def f53_k0 (m0 : Nat) : Kont := kret PP HH 53 Try.f53.results
noncomputable def f53_k1 (m0 : Nat) : Kont := kseq HH 53 m0 (l2 (l2 f53_c)) (exec PP HH 53 m0 EE LL (l2 (l2 f53_c)) (f53_k0 m0)) (f53_k0 m0)
noncomputable def f53_k2 (m0 : Nat) : Kont := kblk 0 (f53_k1 m0)
noncomputable def f53_k3 (m0 : Nat) : Kont := kloop HH 53 m0 (l1 (l1 (l2 (l1 (l2 f53_c))))) (LL 53 m0 (l1 (l1 (l2 (l1 (l2 f53_c))))) (f53_k2 m0)) (f53_k2 m0)
noncomputable def f53_l2 (m0 : Nat) (x0 x1 x7 x8 : AV) (B : List Row) : Option Res := lp (LL 53 m0 (l1 (l1 (l2 (l1 (l2 f53_c))))) (f53_k2 m0) [(0, x0), (1, x1), (7, x7), (8, x8)] B)
noncomputable def f53_r3 (m0 : Nat) (x0 x1 x7 x8 : AV) (B : List Row) : Option Res := exec PP HH 53 m0 EE LL (l2 (l2 (l1 (l1 (l2 (l1 (l2 f53_c))))))) (f53_k3 m0) [(0, x0), (1, x1), (7, x7), (8, x8)] B
noncomputable def f53_r7 (m0 : Nat) (B : List Row) : Option Res := exec PP HH 53 m0 EE LL (l2 (l2 f53_c)) (f53_k0 m0) [] B
noncomputable def f53_r6 (m0 : Nat) (x0 x1 x7 x8 : AV) (B : List Row) : Option Res := exec PP HH 53 m0 EE LL (l2 (l2 (l2 (l1 (l1 (l2 (l1 (l2 f53_c)))))))) (f53_k3 m0) [(0, x0), (1, x1), (7, x7), (8, x8)] B
theorem f53_l2_eq (m0 : Nat) (x0 x1 x7 x8 : AV) (B : List Row) : f53_l2 m0 x0 x1 x7 x8 B =
 mk (ob (xbin PP .lss 3 x8 x7) fun a2 =>
 asB a2 fun t3 => br t3 (f53_r3 m0 x0 x1 x7 x8 (gcB m0 [x0, x1, x7, x8] B))
 (f53_r7 m0  (gcB m0 [] B))) := (L_eq PP XX HH _ _ _ _ _ _).trans (by kernel_rfl)
theorem f53_r3_eq (m0 : Nat) (x0 x1 x7 x8 : AV) (B : List Row) : f53_r3 m0 x0 x1 x7 x8 B =
 mk (mk (ob (xidx 1 (shr x0) (shr (shr (shr x8)))) fun a4 =>
 ob (ldN false 1 a4 B) fun a5 =>
 callV HH EE (shr x1) [a5] B fun a6 B7 =>
 asB a6 fun t8 => br t8 (mk (f53_ret (shr (shr (shr (shr x8)))) B7))
 (f53_r6 m0 x0 x1 x7 x8 (gcB m0 [x0, x1, x7, x8] B7)))) := by kernel_rfl
theorem f53_r7_eq (m0 : Nat) (B : List Row) : f53_r7 m0  B =
 mk (f53_ret (iv (-1)) B) := by kernel_rfl
theorem f53_r6_eq (m0 : Nat) (x0 x1 x7 x8 : AV) (B : List Row) : f53_r6 m0 x0 x1 x7 x8 B =
 mk (ob (xbin PP .add 3 x8 (iv 1)) fun a9 =>
 f53_l2 m0 x0 x1 x7 (shr a9) (gcB m0 [x0, x1, x7, (shr a9)] B)) := by kernel_rfl
theorem f53_eq (x0 x1 : AV) (B : List Row) : EE 53 [x0, x1] B =
 (let m0 := B.length
 mk (mk (ob (xlen PP 25 (shr x0)) fun a1 =>
 f53_l2 m0 x0 x1 a1 (iv 0) (gcB m0 [x0, x1, a1, (iv 0)] B)))) := (E_eq PP XX HH _ _ _).trans (by kernel_rfl)
end Go.Proofs.Ytbmmhbpalkepeaa.N2
end
