/- The functions' equations, by the evaluator. No condition. -/
import Derived.Test.YtocikhhkicahoaaDoorEvA
import Derived.Test.YtocikhhkicahoaaDoorProg
import Derived.KernelRfl
import Derived.Test.YtocikhhkicahoaaDoorEvD

set_option linter.unusedSimpArgs false
set_option linter.unusedVariables false
set_option linter.defProp false
section
namespace Go.Proofs.YtocikhhkicahoaaDoor.N2
open Go Go.Abs
def ZIN : FuncId → Nat → Option (List Nat) := fun f r => (([(4, [(8, [4, 5, 7, 8]), (10, []), (12, [6, 62, 63, 64]), (17, []), (19, []), (18, [6, 10, 11, 62, 63, 64]), (20, [6, 62, 63, 64]), (13, [6, 62, 63, 64]), (21, []), (11, [3, 6]), (9, [3, 6, 8]), (5, [0]), (3, [0])]),
 (8, [(4, []), (5, [1, 4])]),
 (9, [(4, [5])]),
 (10, [(7, [2, 3, 4, 5]), (9, [2, 3, 4, 5, 50, 51, 52]), (13, [2, 3, 4, 5, 50, 51, 52]), (10, [2, 3, 4, 5, 50, 51, 52]), (16, [2, 3, 4, 5]), (14, [2, 3, 4, 5]), (8, [2, 3, 4, 5]), (3, [0, 2, 3])]),
 (11, [(3, [1, 3, 8, 9, 10]), (4, [1, 3, 8, 9, 10]), (24, [1, 3]), (26, [3]), (7, [1, 3])]),
 (12, [(3, [3, 6, 7, 8]), (6, []), (7, [5, 6, 7, 8]), (8, [3, 6, 7, 8]), (4, [3, 6, 7, 8]), (9, [])]),
 (13, [(3, [3, 6, 7, 8]), (7, [3, 6, 7, 8]), (4, [3, 6, 7, 8]), (8, [3])]),
 (14, [(5, [0, 4, 5]), (8, [0, 4, 5]), (6, [0, 4, 5]), (7, [0, 4, 5]), (9, [4]), (3, [0])]),
 (15, [(4, [1, 12, 13, 14]), (8, [1, 12, 13, 14]), (5, [1, 12, 13, 14]), (9, []), (3, [0, 1])]),
 (17, [(3, [0])]),
 (18, [(4, [1])]),
 (19, [(2, []), (3, [0, 1])]),
 (20, [(2, [0, 2, 3]), (3, [0, 2, 3]), (4, [2, 3])]),
 (21, [(2, [0])]),
 (26, [(4, [3, 4, 7, 8, 9]), (8, [3, 6, 7, 8, 9]), (9, [3, 4, 7, 8, 9]), (5, [3, 4, 7, 8, 9]), (12, [3]), (10, [3, 4])]),
 (27, [(5, [])]),
 (29, [(6, [2, 4]), (10, [2, 36, 37, 38]), (11, [2, 36, 37, 38]), (28, [2, 7]), (33, [2, 3, 8])]),
 (30, [(2, [0, 2, 3]), (7, [0, 2, 3]), (3, [0, 2, 3]), (9, [2, 3])]),
 (31, [(6, [0, 1, 4])]),
 (38, [(4, []), (2, [1]), (5, [1])]),
 (39, [(2, []), (3, [0, 1])]),
 (40, [(3, [0, 1, 4, 5, 16, 17, 18]), (4, [0, 1, 4, 5, 16, 17, 18]), (12, [0, 51, 52, 53]), (13, [0, 51, 52, 53]), (10, [0, 1, 4, 5])]),
 (43, [(3, [0, 3, 4, 13, 14]), (7, [0, 3, 4, 13, 14]), (4, [0, 3, 4, 13, 14]), (12, [0, 3, 4, 6, 49, 50]), (13, [0, 3, 4, 6, 49, 50]), (17, [0, 4, 65, 66, 67]), (18, [0, 4, 65, 66, 67]), (16, [0, 4, 6]), (10, [0, 3, 4]), (8, [0, 3, 4])]),
 (44, [(8, [2, 3, 23, 24, 25]), (9, [2, 3, 23, 24, 25]), (16, [2, 3, 45, 46, 47]), (21, [2, 45, 46, 47]), (22, [2, 3, 11, 45, 46, 47]), (23, [2, 3, 45, 46, 47]), (17, [2, 3, 45, 46, 47]), (30, [2, 3])]),
 (47, [(3, [0])]),
 (48, [(26, [2])]),
 (49, [(17, [6, 8]), (13, [0, 6, 8]), (11, [0, 2, 6, 7, 8])]),
 (50, [(2, [0, 1, 7, 8]), (6, [0, 1, 7, 8]), (3, [0, 1, 7, 8]), (7, [])]),
 (58, [(2, [0, 1, 2, 3])]),
 (60, [(2, []), (3, [0, 1])]),
 (61, [(4, []), (2, []), (3, [0, 1]), (5, [0, 1])]),
 (62, [(2, []), (5, [0, 1]), (6, [6, 7]), (3, [0, 1])]),
 (64, [(4, [4, 5])]),
 (66, [(13, [0, 1, 4, 5]), (15, [0, 1, 4, 5]), (5, [0, 1, 4, 5])]),
 (67, [(5, [0, 1, 4, 5, 6, 7, 8]), (18, [4, 6]), (15, [0, 4, 5, 6]), (32, [0, 1, 4, 5, 6, 7, 8, 9]), (35, [0, 1, 4, 5, 6, 7, 8, 9, 11, 15]), (33, [0, 1, 4, 5, 6, 7, 8, 9, 11]), (36, [0, 1, 4, 5, 6, 7, 8, 11, 15]), (28, [0, 1, 4, 5, 6, 7, 8, 9, 11]), (22, [0, 1, 4, 5, 6, 7, 8, 9]), (6, [0, 1, 4, 5, 6, 7, 8]), (7, [0, 1, 4, 5, 6, 7, 8]), (38, [4])]),
 (68, [(19, [0, 1, 4, 7]), (23, [4, 7]), (20, [0, 4, 7]), (17, [0, 1, 4]), (4, [0, 1, 4])]),
 (69, [(7, [4]), (8, [0, 1, 4]), (6, [0, 1, 4]), (10, [0, 1, 4, 5]), (11, [4, 5]), (9, [0, 1, 4, 5])]),
 (73, [(2, [0, 1, 7, 8]), (6, [0, 1, 7, 8]), (3, [0, 1, 7, 8]), (7, [])]),
 (75, [(3, [0])]),
 (77, [(3, [0])]),
 (78, [(11, [])]),
 (79, [(16, [1]), (17, [0, 2])]),
 (81, [(13, [0, 2, 5]), (9, [0, 2, 5]), (5, [0, 5])]),
 (82, [(2, [0, 1, 7, 8]), (6, [0, 1, 7, 8]), (3, [0, 1, 7, 8]), (7, [])]),
 (84, [(3, [0, 3, 4]), (5, [0, 3, 4]), (6, [3])]),
 (98, [(4, [0]), (2, [0]), (3, [0]), (5, [])]),
 (104, [(2, [0, 1, 7, 8]), (6, [0, 1, 7, 8]), (3, [0, 1, 7, 8]), (7, [])])] : List (Nat × List (Nat × List Nat))).lookup f).bind (·.lookup r)
def ownT : FuncId → List Nat := fun f =>
 if f = 14 then [4, 9, 26] else
 if f = 20 then [3, 9] else
 if f = 26 then [3, 17, 31] else
 if f = 28 then [9, 12] else
 if f = 30 then [3, 23] else
 if f = 40 then [4, 28] else
 if f = 43 then [6, 52] else
 if f = 66 then [44] else
 if f = 78 then [2] else
 if f = 81 then [3, 6, 29] else
 []
def rawT : FuncId → Bool := fun f => if f = 23 then true else if f = 78 then true else if f = 81 then true else false
def ZIT : FuncId → List Nat := fun f => []
def alT : FuncId → List Nat := fun f => if f = 40 then [60] else if f = 41 then [18] else if f = 58 then [16, 21] else []
def fzT : FuncId → List Nat := fun f => if f = 18 then [31] else []
def mzT : FuncId → List (Nat × List (Nat × Nat)) := fun f => if f = 18 then [(14, [(0, 6)])] else []
def HH : Hints := ⟨ZIN, ownT, rawT, ZIT, alT, fzT, mzT⟩
def XX : FuncId → Option (List AV → List Row → Option Res) := fun f => if f = 23 then some Zle else if f = 25 then some Zlg else if f = 57 then some Zlf else if f = 76 then some Zof else none
noncomputable abbrev PP : Program := Tryd.prog
noncomputable abbrev EE : GF := E PP XX HH
noncomputable abbrev LL : LF := L PP XX HH
end Go.Proofs.YtocikhhkicahoaaDoor.N2
end
noncomputable section
namespace Go.Proofs.YtocikhhkicahoaaDoor.N2
open Go Go.Abs
set_option maxRecDepth 100000
variable (m0 : Nat) (x0 x1 x2 x3 x4 x5 x6 x7 x8 x9 x10 x11 x12 x13 x14 x15 x16 x17 x18 x23 x24 x25 x36 x37 x38 x45 x46 x47 x49 x50 x51 x52 x53 x62 x63 x64 x65 x66 x67 : AV) (B : List Row)
theorem lq_ {f m0 : Nat} {c : Code} {K : Kont} {sl : Sl} {B : List Row} {r : Option Res} (h : exec PP HH f m0 EE LL c (kloop HH f m0 c (LL f m0 c K) K) sl B = r) : LL f m0 c K sl B = r := (L_eq PP XX HH f m0 c K sl B).trans h
def ZJ2 := Z2A Tryd.f4
def Zt1 := l2 (l2 ZJ2)
def Zf8 := l2 (l2 (l2 (l2 Zt1)))
def Zt2 := l1 (l1 (l2 (l1 (l2 Zf8))))
def Zo2 := l2 (l2 Zt2)
def Zt3 := l2 (l2 (l2 (l2 (l1 (l1 Zo2)))))
def Z1F (r0 : AV) (B : List Row) : Option Res :=
 ob (ob (some r0) fun v => ob (some []) fun vs => some (v :: vs)) fun vs => some ((nrmA (match vs with | [v] => v | vs => Z9e (vs.map shr))), B)
def Zf7 (m0 : Nat) : Kont := kret PP HH 4 Tryd.f4.results
def ZIv := kseq HH 4 m0 Zf8 (exec PP HH 4 m0 EE LL Zf8 (Zf7 m0)) (Zf7 m0)
def ZIw := kseq HH 4 m0 (l2 Zf8) (exec PP HH 4 m0 EE LL (l2 Zf8) (Zf7 m0)) (Zf7 m0)
def ZIx := kseq HH 4 m0 (l2 (l2 Zf8)) (exec PP HH 4 m0 EE LL (l2 (l2 Zf8)) (Zf7 m0)) (Zf7 m0)
def Zys := kblk 0 (ZIx m0)
def ZsZ := kloop HH 4 m0 Zt2 (LL 4 m0 Zt2 (Zys m0)) (Zys m0)
def ZIy := kseq HH 4 m0 (l2 Zo2) (exec PP HH 4 m0 EE LL (l2 Zo2) (ZsZ m0)) (ZsZ m0)
def Zt0 := kblk 1 (ZIy m0)
def ZIz := kseq HH 4 m0 Zt3 (exec PP HH 4 m0 EE LL Zt3 (Zt0 m0)) (Zt0 m0)
def Zyt := exec PP HH 4 m0 EE LL Zt1 (Zf7 m0) [(0, x0)] B
def Zyu := exec PP HH 4 m0 EE LL (l2 Zt1) (Zf7 m0) [(0, x0)] B
def Zqo := exec PP HH 4 m0 EE LL (l1 (l2 (l1 (l2 (l2 (l2 Zt1)))))) (ZIv m0) [(4, x4), (5, x5), (7, x7), (8, x8)] B
def Zyv := exec PP HH 4 m0 EE LL Zf8 (Zf7 m0) [(3, x3), (6, x6), (8, x8)] B
def Zqn := exec PP HH 4 m0 EE LL (l1 (l2 (l1 Zf8))) (ZIw m0) [] B
def ZuA := exec PP HH 4 m0 EE LL (l2 Zf8) (Zf7 m0) [(3, x3), (6, x6)] B
def ZmP := lp (LL 4 m0 Zt2 (Zys m0) [(6, x6), (62, x62), (63, x63), (64, x64)] B)
def ZuB := exec PP HH 4 m0 EE LL Zo2 (ZsZ m0) [(6, x6), (62, x62), (63, x63), (64, x64)] B
def ZuD := exec PP HH 4 m0 EE LL (l2 (l2 Zf8)) (Zf7 m0) [] B
def ZgT := exec PP HH 4 m0 EE LL (l1 (l2 (l1 (l2 (l2 (l2 (l1 (l1 Zo2)))))))) (ZIz m0) [] B
def ZuC := exec PP HH 4 m0 EE LL Zt3 (Zt0 m0) [(6, x6), (10, x10), (11, x11), (62, x62), (63, x63), (64, x64)] B
def ZkB := exec PP HH 4 m0 EE LL (l1 (l2 Zt3)) (Zt0 m0) [] B
def ZkC := exec PP HH 4 m0 EE LL (l2 Zo2) (ZsZ m0) [(6, x6), (62, x62), (63, x63), (64, x64)] B
theorem ZDs : Zyt m0 x0 B =
 mk (ob (xlen PP 9 (shr x0)) fun a =>
 ob (xbin PP .gtr 3 a (iv 250)) fun b =>
 asB b fun c => br c (mk (Z1F (bv true) B))
 (Zyu m0 x0 (gcB m0 [x0] B))) := by kernel_rfl
theorem ZDt : Zyu m0 x0 B =
 mk (callS false EE 9 [(shr x0)] B fun a b =>
 ob (xext 0 (shr a)) fun c =>
 ob (xext 1 (shr a)) fun d =>
 ob (xext 2 (shr a)) fun e =>
 mk (ob (xbin PP .add 9 (.p (.v (.string (ByteArray.mk #[40, 63, 105, 41])))) (shr x0)) fun f =>
 callS false EE 9 [f] b fun g h =>
 ob (xext 0 (shr g)) fun i =>
 ob (xext 1 (shr g)) fun j =>
 ob (xext 2 (shr g)) fun k =>
 mk (ob (xbin PP .neq 24 (shr (shr (shr d))) (iv 0)) fun l =>
 asB (shr l) fun n => br n (Zqo m0 (shr (shr d)) (shr (shr e)) (shr (shr j)) (shr (shr k)) (gcB m0 [(shr (shr d)), (shr (shr e)), (shr (shr j)), (shr (shr k))] h))
 (ob (xbin PP .neq 24 (shr (shr (shr j))) (iv 0)) fun o =>
 asB (shr (shr o)) fun q => br q (Zqo m0 (shr (shr d)) (shr (shr e)) (shr (shr j)) (shr (shr k)) (gcB m0 [(shr (shr d)), (shr (shr e)), (shr (shr j)), (shr (shr k))] h))
 (ob (xbin PP .neq 24 (shr (shr (shr e))) (iv 0)) fun r =>
 asB (shr r) fun s => br s (Zqo m0 (shr (shr d)) (shr (shr e)) (shr (shr j)) (shr (shr k)) (gcB m0 [(shr (shr d)), (shr (shr e)), (shr (shr j)), (shr (shr k))] h))
 (Zyv m0 (shr (shr c)) (shr (shr i)) (shr (shr k)) (gcB m0 [(shr (shr c)), (shr (shr i)), (shr (shr k))] h))))))) := by kernel_rfl
theorem ZDu : Zqo m0 x4 x5 x7 x8 B =
 mk (ob (xbin PP .eql 24 (shr x5) (shr x8)) fun a =>
 asB (shr a) fun b => br b (Z1F (bv true) B)
 (ob (xbin PP .neq 24 (shr x4) (iv 0)) fun c =>
 asB (shr (shr c)) fun d => br d (Z1F (bv true) B)
 (ob (xbin PP .neq 24 (shr x7) (iv 0)) fun e =>
 Z1F (shr (shr e)) B))) := by kernel_rfl
theorem ZDv : Zyv m0 x3 x6 x8 B =
 mk (ob (xbin PP .neq 24 (shr x8) (iv 0)) fun a =>
 asB (shr a) fun b => br b (Zqn m0 (gcB m0 [] B))
 (ob (xlen PP 23 (shr x3)) fun c =>
 ob (xlen PP 23 (shr x6)) fun d =>
 ob (xbin PP .neq 3 c d) fun e =>
 asB (shr e) fun f => br f (Zqn m0 (gcB m0 [] B))
 (ZuA m0 x3 x6 (gcB m0 [x3, x6] B)))) := by kernel_rfl
theorem ZB9 : Zqn m0 B =
 mk (Z1F (bv false) B) := by kernel_rfl
theorem ZBa : ZuA m0 x3 x6 B =
 mk (ob (xlen PP 23 (shr x3)) fun a =>
 ZmP m0 x6 (shr x3) a (iv 0) (gcB m0 [x6, (shr x3), a, (iv 0)] B)) := by kernel_rfl
theorem ZB8 : ZmP m0 x6 x62 x63 x64 B =
 mk (ob (xbin PP .lss 3 x64 x63) fun a =>
 asB a fun b => br b (ZuB m0 x6 x62 x63 x64 (gcB m0 [x6, x62, x63, x64] B))
 (ZuD m0 (gcB m0 [] B))) := lq_ (by kernel_rfl)
theorem ZBb : ZuB m0 x6 x62 x63 x64 B =
 mk (ob (xidx 6 x62 x64) fun a =>
 ob (ldN true 6 a B) fun b =>
 bz PP 40 B fun c d =>
 stN 6 c b d fun e =>
 mk (ob (xidx 6 (shr x6) (shr (shr (shr x64)))) fun f =>
 ob (ldN true 6 f e) fun g =>
 bz PP 40 e fun h i =>
 stN 6 h g i fun j =>
 mk (ob (xfld 5 c) fun k =>
 ob (ldN false 1 k j) fun l =>
 callS false EE 14 [l] j fun n o =>
 ob (xext 0 (shr n)) fun p =>
 ob (xext 1 (shr n)) fun q =>
 mk (ob (xbin PP .neq 24 (shr (shr (shr q))) (iv 0)) fun r =>
 asB (shr r) fun s => br s (ZgT m0 (gcB m0 [] o))
 (ob (xfld 5 h) fun t =>
 ob (ldN false 1 t o) fun u =>
 callS false EE 15 [(shr (shr (shr p))), u] o fun v w =>
 ob (xun PP .not v) fun x =>
 asB (shr (shr x)) fun y => br y (ZgT m0 (gcB m0 [] w))
 (ob (xfld 0 c) fun z =>
 ob (ldN false 1 z w) fun A =>
 ob (xfld 0 h) fun C =>
 ob (ldN false 1 C w) fun D =>
 ob (xbin PP .neq 3 A D) fun F =>
 asB (shr (shr F)) fun G => br G (ZgT m0 (gcB m0 [] w))
 (ob (xfld 1 c) fun I =>
 ob (ldN false 1 I w) fun J =>
 ob (xfld 1 h) fun M =>
 ob (ldN false 1 M w) fun N =>
 ob (xbin PP .neq 3 J N) fun O =>
 asB (shr (shr O)) fun Q => br Q (ZgT m0 (gcB m0 [] w))
 (ob (xfld 3 c) fun R =>
 ob (ldN false 1 R w) fun S =>
 ob (xfld 3 h) fun T =>
 ob (ldN false 1 T w) fun U =>
 ob (xbin PP .neq 3 S U) fun V =>
 asB (shr (shr V)) fun W => br W (ZgT m0 (gcB m0 [] w))
 (ob (xfld 4 c) fun Y =>
 ob (ldN false 1 Y w) fun Z =>
 ob (xfld 4 h) fun a0 =>
 ob (ldN false 1 a0 w) fun a1 =>
 ob (xbin PP .neq 3 Z a1) fun a2 =>
 asB (shr a2) fun a3 => br a3 (ZgT m0 (gcB m0 [] w))
 (ZuC m0 x6 c h x62 x63 x64 (gcB m0 [x6, c, h, x62, x63, x64] w))))))))))) := by kernel_rfl
theorem ZBg : ZuD m0 B =
 mk (Z1F (bv true) B) := by kernel_rfl
theorem ZBc : ZgT m0 B =
 mk (Z1F (bv false) B) := by kernel_rfl
theorem ZBd : ZuC m0 x6 x10 x11 x62 x63 x64 B =
 mk (ob (xfld 0 x10) fun a =>
 ob (ldN false 1 a B) fun b =>
 ob (xbin PP .eql 3 b (iv 5)) fun c =>
 asB (shr c) fun d => br d (ob (xfld 2 x10) fun e =>
 ob (ldN false 1 e B) fun f =>
 ob (xbin PP .neq 3 f (iv 0)) fun g =>
 asB (shr g) fun h => br h (ZkB m0 (gcB m0 [] B))
 (ob (xfld 2 x11) fun i =>
 ob (ldN false 1 i B) fun j =>
 ob (xbin PP .neq 3 j (iv 1)) fun k =>
 asB (shr (shr (shr k))) fun l => br l (ZkB m0 (gcB m0 [] B))
 (ob (xfld 0 x10) fun n =>
 ob (ldN false 1 n B) fun o =>
 ob (xbin PP .neq 3 o (iv 5)) fun p =>
 asB (shr p) fun q => br q (ob (xfld 2 x10) fun r =>
 ob (ldN false 1 r B) fun s =>
 ob (xfld 2 x11) fun t =>
 ob (ldN false 1 t B) fun u =>
 ob (xbin PP .neq 3 s u) fun v =>
 asB (shr (shr v)) fun w => br w (ZkB m0 (gcB m0 [] B))
 (ZkC m0 x6 x62 x63 x64 (gcB m0 [x6, x62, x63, x64] B)))
 (ZkC m0 x6 x62 x63 x64 (gcB m0 [x6, x62, x63, x64] B)))))
 (ob (xfld 0 x10) fun x =>
 ob (ldN false 1 x B) fun y =>
 ob (xbin PP .neq 3 y (iv 5)) fun z =>
 asB (shr z) fun A => br A (ob (xfld 2 x10) fun C =>
 ob (ldN false 1 C B) fun D =>
 ob (xfld 2 x11) fun F =>
 ob (ldN false 1 F B) fun G =>
 ob (xbin PP .neq 3 D G) fun I =>
 asB (shr (shr I)) fun J => br J (ZkB m0 (gcB m0 [] B))
 (ZkC m0 x6 x62 x63 x64 (gcB m0 [x6, x62, x63, x64] B)))
 (ZkC m0 x6 x62 x63 x64 (gcB m0 [x6, x62, x63, x64] B)))) := by kernel_rfl
theorem ZBe : ZkB m0 B =
 mk (Z1F (bv false) B) := by kernel_rfl
theorem ZBf : ZkC m0 x6 x62 x63 x64 B =
 mk (ob (xbin PP .add 3 x64 (iv 1)) fun a =>
 ZmP m0 x6 x62 x63 (shr a) (gcB m0 [x6, x62, x63, (shr a)] B)) := by kernel_rfl
theorem ZIu : EE 4 [x0] B =
 (let m0 := B.length
 mk (mk (callS false EE 8 [] B fun a b =>
 ob (xun PP .not a) fun c =>
 asB c fun d => br d (mk (Z1F (bv false) b))
 (Zyt m0 x0 (gcB m0 [x0] b))))) := (E_eq PP XX HH _ _ _).trans (by kernel_rfl)
def ZHU := Z2A Tryd.f8
def ZyU := l2 (l2 (l2 (l2 ZHU)))
def ZyS (m0 : Nat) : Kont := kret PP HH 8 Tryd.f8.results
def ZIJ := kseq HH 8 m0 ZyU (exec PP HH 8 m0 EE LL ZyU (ZyS m0)) (ZyS m0)
def ZjH := exec PP HH 8 m0 EE LL (l1 (l2 (l1 (l2 (l2 (l2 ZHU)))))) (ZIJ m0) [] B
def ZyT := exec PP HH 8 m0 EE LL ZyU (ZyS m0) [(1, x1), (4, x4)] B
theorem ZDw : ZjH m0 B =
 mk (Z1F (bv false) B) := by kernel_rfl
theorem ZDx : ZyT m0 x1 x4 B =
 mk (ob (xidx 6 (shr x1) (iv 1)) fun a =>
 ob (xfld 0 a) fun b =>
 ob (ldN false 1 b B) fun c =>
 ob (xbin PP .eql 3 c (iv 3)) fun d =>
 asB (shr d) fun e => br e (ob (xidx 6 (shr x1) (iv 1)) fun f =>
 ob (xfld 1 f) fun g =>
 ob (ldN false 1 g B) fun h =>
 ob (xbin PP .eql 3 h (iv 2)) fun i =>
 asB (shr (shr i)) fun j => br j (ob (xidx 6 (shr x1) (iv 1)) fun k =>
 ob (xfld 2 k) fun l =>
 ob (ldN false 1 l B) fun n =>
 ob (xbin PP .eql 3 n (iv 4)) fun o =>
 asB (shr (shr o)) fun p => br p (ob (xidx 6 (shr x1) (iv 3)) fun q =>
 ob (xfld 0 q) fun r =>
 ob (ldN false 1 r B) fun s =>
 ob (xbin PP .eql 3 s (iv 2)) fun t =>
 asB (shr (shr t)) fun u => br u (ob (xidx 6 (shr x1) (iv 3)) fun v =>
 ob (xfld 1 v) fun w =>
 ob (ldN false 1 w B) fun x =>
 ob (xbin PP .eql 3 x (iv 5)) fun y =>
 asB (shr (shr y)) fun z => br z (ob (xidx 6 (shr x4) (iv 4)) fun A =>
 ob (xfld 0 A) fun C =>
 ob (ldN false 1 C B) fun D =>
 ob (xbin PP .eql 3 D (iv 11)) fun F =>
 asB (shr (shr F)) fun G => br G (ob (xidx 6 (shr x4) (iv 1)) fun I =>
 ob (xfld 2 I) fun J =>
 ob (ldN false 1 J B) fun M =>
 ob (xbin PP .eql 3 M (iv 6)) fun N =>
 asB (shr (shr N)) fun O => br O (callS false EE 13 [(shr x4)] B fun Q R =>
 ob (xbin PP .eql 3 Q (iv 1)) fun S =>
 Z1F (shr (shr S)) R)
 (Z1F (bv false) B))
 (Z1F (bv false) B))
 (Z1F (bv false) B))
 (Z1F (bv false) B))
 (Z1F (bv false) B))
 (Z1F (bv false) B))
 (Z1F (bv false) B)) := by kernel_rfl
theorem ZII : EE 8 [] B =
 (let m0 := B.length
 mk (mk (callS false EE 9 [(.p (.v (.string (ByteArray.mk #[97, 124, 98]))))] B fun a b =>
 ob (xext 0 (shr a)) fun c =>
 ob (xext 1 (shr a)) fun d =>
 ob (xext 2 (shr a)) fun e =>
 mk (callS false EE 9 [(.p (.v (.string (ByteArray.mk #[97, 42]))))] b fun f g =>
 ob (xext 0 (shr f)) fun h =>
 ob (xext 1 (shr f)) fun i =>
 ob (xext 2 (shr f)) fun j =>
 mk (ob (xbin PP .neq 24 (shr (shr (shr d))) (iv 0)) fun k =>
 asB (shr k) fun l => br l (ZjH m0 (gcB m0 [] g))
 (ob (xbin PP .neq 24 (shr (shr (shr e))) (iv 0)) fun n =>
 asB (shr (shr n)) fun o => br o (ZjH m0 (gcB m0 [] g))
 (ob (xbin PP .neq 24 (shr (shr (shr i))) (iv 0)) fun q =>
 asB (shr (shr q)) fun r => br r (ZjH m0 (gcB m0 [] g))
 (ob (xbin PP .neq 24 (shr (shr (shr j))) (iv 0)) fun s =>
 asB (shr (shr s)) fun t => br t (ZjH m0 (gcB m0 [] g))
 (ob (xlen PP 23 (shr (shr (shr c)))) fun u =>
 ob (xbin PP .neq 3 u (iv 7)) fun w =>
 asB (shr (shr w)) fun x => br x (ZjH m0 (gcB m0 [] g))
 (ob (xlen PP 23 (shr (shr (shr h)))) fun y =>
 ob (xbin PP .neq 3 y (iv 8)) fun z =>
 asB (shr z) fun A => br A (ZjH m0 (gcB m0 [] g))
 (ZyT m0 (shr (shr c)) (shr (shr h)) (gcB m0 [(shr (shr c)), (shr (shr h))] g)))))))))))) := (E_eq PP XX HH _ _ _).trans (by kernel_rfl)
def ZJ3 := Z2A Tryd.f9
def ZCa (r0 r1 r2 : AV) (B : List Row) : Option Res :=
 ob (ob (some r0) fun v => ob (ob (some r1) fun v => ob (ob (some r2) fun v => ob (some []) fun vs => some (v :: vs)) fun vs => some (v :: vs)) fun vs => some (v :: vs)) fun vs => some ((nrmA (match vs with | [v] => v | vs => Z9e (vs.map shr))), B)
def ZIL (m0 : Nat) : Kont := kret PP HH 9 Tryd.f9.results
def ZyW := exec PP HH 9 m0 EE LL (l2 (l2 (l2 ZJ3))) (ZIL m0) [(5, x5)] B
theorem ZDy : ZyW m0 x5 B =
 mk (ob (ldN true 9 x5 B) fun a =>
 callS false EE 18 [a] B fun b c =>
 ob (xext 0 (shr b)) fun d =>
 ob (xext 1 (shr b)) fun e =>
 mk (ZCa (shr (shr (shr (shr d)))) (iv 0) (shr (shr (shr (shr e)))) c)) := by kernel_rfl
theorem ZIK : EE 9 [x0] B =
 (let m0 := B.length
 mk (mk (callS false EE 10 [(shr x0)] B fun a b =>
 ob (xext 0 (shr a)) fun c =>
 ob (xext 1 (shr a)) fun d =>
 bz PP 33 b fun e f =>
 bz PP 35 f fun g h =>
 stN 9 e (shr c) h fun i =>
 stN 2 g (shr d) i fun j =>
 mk (ob (xfld 0 g) fun k =>
 ob (ldN false 1 k j) fun l =>
 ob (xbin PP .neq 24 l (iv 0)) fun n =>
 asB n fun o => br o (mk (ob (xfld 0 g) fun p =>
 ob (ldN false 1 p j) fun q =>
 ZCa nilA (shr q) (iv 0) j))
 (ZyW m0 e (gcB m0 [e] j)))))) := (E_eq PP XX HH _ _ _).trans (by kernel_rfl)
def ZIj := Z2A Tryd.f10
def Ztq := l2 (l2 ZIj)
def ZgQ := l2 (l2 (l2 (l2 Ztq)))
def ZpL := l1 (l1 (l2 (l1 ZgQ)))
def ZA1 := l2 (l2 ZpL)
def ZrI (r0 r1 : AV) (B : List Row) : Option Res :=
 ob (ob (ldN true 9 r0 B) fun v => ob (ob (ldN true 2 r1 B) fun v => ob (some []) fun vs => some (v :: vs)) fun vs => some (v :: vs)) fun vs => some ((nrmA (match vs with | [v] => v | vs => Z9e (vs.map shr))), B)
def ZgP (m0 : Nat) : Kont := kret PP HH 10 Tryd.f10.results
def ZFV := kseq HH 10 m0 ZgQ (exec PP HH 10 m0 EE LL ZgQ (ZgP m0)) (ZgP m0)
def ZFW := kseq HH 10 m0 (l2 ZgQ) (exec PP HH 10 m0 EE LL (l2 ZgQ) (ZgP m0)) (ZgP m0)
def Ztn := kblk 0 (ZFW m0)
def ZzW := kloop HH 10 m0 ZpL (LL 10 m0 ZpL (Ztn m0)) (Ztn m0)
def Zto := exec PP HH 10 m0 EE LL Ztq (ZgP m0) [(0, x0), (2, x2), (3, x3)] B
def Ztp := exec PP HH 10 m0 EE LL (l1 (l2 (l1 (l2 (l2 (l2 Ztq)))))) (ZFV m0) [(2, x2), (3, x3), (4, x4), (5, x5)] B
def Zmy := exec PP HH 10 m0 EE LL ZgQ (ZgP m0) [(2, x2), (3, x3), (4, x4), (5, x5)] B
def Zmx := lp (LL 10 m0 ZpL (Ztn m0) [(2, x2), (3, x3), (4, x4), (5, x5), (50, x50), (51, x51), (52, x52)] B)
def ZrF := exec PP HH 10 m0 EE LL ZA1 (ZzW m0) [(2, x2), (3, x3), (4, x4), (5, x5), (50, x50), (51, x51), (52, x52)] B
def ZrG := exec PP HH 10 m0 EE LL (l2 ZgQ) (ZgP m0) [(2, x2), (3, x3), (4, x4), (5, x5)] B
def ZnV := exec PP HH 10 m0 EE LL (l2 ZA1) (ZzW m0) [(2, x2), (3, x3), (4, x4), (5, x5), (50, x50), (51, x51), (52, x52)] B
def ZrH := exec PP HH 10 m0 EE LL (l2 (l2 ZgQ)) (ZgP m0) [(2, x2), (3, x3), (4, x4), (5, x5)] B
theorem ZzY : Zto m0 x0 x2 x3 B =
 mk (ob (xcnv PP 9 54 (shr x0)) fun a =>
 ob (Z1D PP 57 [(0, a)]) fun b =>
 bx b B fun c d =>
 mk (callS false EE 19 [(shr (shr c)), (.p (.v (.string (ByteArray.mk #[40, 63, 105, 41]))))] d fun e f =>
 ob (Z1D PP 33 [(2, e)]) fun g =>
 bz PP 33 f fun h i =>
 stN 9 h g i fun j =>
 mk (callS false EE 20 [(shr (shr c))] j fun k l =>
 ob (xfld 0 h) fun n =>
 stN 7 n k l fun o =>
 mk (ob (Z1E (shr (shr c))) fun q =>
 ob (xfld 5 q) fun r =>
 ob (xfld 0 r) fun s =>
 ob (ldN false 1 s o) fun t =>
 ob (xbin PP .eql 24 t (iv 0)) fun u =>
 asB (shr u) fun w => br w (ob (Z1E (shr (shr c))) fun x =>
 ob (xfld 1 x) fun y =>
 ob (ldN false 1 y o) fun z =>
 ob (Z1E (shr (shr c))) fun A =>
 ob (xfld 0 A) fun C =>
 ob (ldN false 1 C o) fun D =>
 ob (xlen PP 54 D) fun F =>
 ob (xbin PP .lss 3 z F) fun G =>
 asB (shr G) fun I => br I (Ztp m0 x2 x3 (shr c) h (gcB m0 [x2, x3, (shr c), h] o))
 (Zmy m0 x2 x3 (shr c) h (gcB m0 [x2, x3, (shr c), h] o)))
 (Zmy m0 x2 x3 (shr c) h (gcB m0 [x2, x3, (shr c), h] o)))))) := by kernel_rfl
theorem ZzZ : Ztp m0 x2 x3 x4 x5 B =
 mk (ob (Z1E (shr x4)) fun a =>
 ob (xfld 1 a) fun b =>
 ob (ldN false 1 b B) fun c =>
 callS false EE 21 [(shr x4), (iv 20), c] B fun d e =>
 Zmy m0 x2 x3 x4 x5 (gcB m0 [x2, x3, x4, x5] e)) := by kernel_rfl
theorem ZA0 : Zmy m0 x2 x3 x4 x5 B =
 mk (ob (Z1E (shr x4)) fun a =>
 ob (xfld 4 a) fun b =>
 ob (ldN false 1 b B) fun c =>
 ob (xlen PP 55 c) fun d =>
 Zmx m0 x2 x3 x4 x5 c d (iv 0) (gcB m0 [x2, x3, x4, x5, c, d, (iv 0)] B)) := by kernel_rfl
theorem ZzX : Zmx m0 x2 x3 x4 x5 x50 x51 x52 B =
 mk (ob (xbin PP .lss 3 x52 x51) fun a =>
 asB a fun b => br b (ZrF m0 x2 x3 x4 x5 x50 x51 x52 (gcB m0 [x2, x3, x4, x5, x50, x51, x52] B))
 (ZrG m0 x2 x3 x4 x5 (gcB m0 [x2, x3, x4, x5] B))) := lq_ (by kernel_rfl)
theorem ZxW : ZrF m0 x2 x3 x4 x5 x50 x51 x52 B =
 mk (ob (xidx 2 x50 x52) fun a =>
 ob (ldN true 2 a B) fun b =>
 bz PP 61 B fun c d =>
 stN 2 c b d fun e =>
 mk (ob (xfld 0 c) fun f =>
 ob (ldN false 1 f e) fun g =>
 ob (Z1E (shr x4)) fun h =>
 ob (xfld 2 h) fun i =>
 ob (ldN false 1 i e) fun j =>
 ob (xbin PP .gtr 3 g j) fun k =>
 asB k fun l => br l (mk (ob (xfld 1 c) fun n =>
 ob (ldN false 1 n e) fun o =>
 callS false EE 21 [(shr x4), (iv 26), o] e fun p q =>
 ZnV m0 x2 x3 x4 x5 x50 x51 x52 (gcB m0 [x2, x3, x4, x5, x50, x51, x52] q)))
 (ZnV m0 x2 x3 x4 x5 x50 x51 x52 (gcB m0 [x2, x3, x4, x5, x50, x51, x52] e)))) := by kernel_rfl
theorem ZxY : ZrG m0 x2 x3 x4 x5 B =
 mk (ob (Z1E (shr x4)) fun a =>
 ob (xfld 5 a) fun b =>
 ob (xfld 0 b) fun c =>
 ob (ldN false 1 c B) fun d =>
 ob (xbin PP .neq 24 d (iv 0)) fun e =>
 asB e fun f => br f (mk (ob (Z1D PP 33 []) fun g =>
 ob (Z1E (shr x4)) fun h =>
 ob (xfld 5 h) fun i =>
 ob (ldN true 2 i B) fun j =>
 stN 9 x2 g B fun k =>
 stN 2 x3 j k fun l =>
 grd (ZbG i x2) (ZrI x2 x3 l)))
 (ZrH m0 x2 x3 x4 x5 (gcB m0 [x2, x3, x4, x5] B))) := by kernel_rfl
theorem ZxX : ZnV m0 x2 x3 x4 x5 x50 x51 x52 B =
 mk (ob (xbin PP .add 3 x52 (iv 1)) fun a =>
 Zmx m0 x2 x3 x4 x5 x50 x51 (shr a) (gcB m0 [x2, x3, x4, x5, x50, x51, (shr a)] B)) := by kernel_rfl
theorem ZxZ : ZrH m0 x2 x3 x4 x5 B =
 mk (ob (Z1E (shr x4)) fun a =>
 ob (xfld 2 a) fun b =>
 ob (ldN false 1 b B) fun c =>
 ob (xfld 7 x5) fun d =>
 stN 1 d c B fun e =>
 mk (ob (ldN true 9 x5 e) fun f =>
 ob (Z1D PP 35 []) fun g =>
 stN 9 x2 f e fun h =>
 stN 2 x3 g h fun i =>
 ZrI x2 x3 i)) := by kernel_rfl
theorem ZFU : EE 10 [x0] B =
 (let m0 := B.length
 mk (bz PP 33 B fun a b =>
 bz PP 35 b fun c d =>
 mk (ob (xlen PP 9 (shr x0)) fun e =>
 ob (xbin PP .gtr 3 e (iv 256)) fun f =>
 asB f fun g => br g (mk (ob (Z1D PP 33 []) fun h =>
 ob (Z1D PP 35 [(0, (iv 12))]) fun i =>
 stN 9 a h d fun j =>
 stN 2 c i j fun k =>
 ZrI a c k))
 (Zto m0 x0 a c (gcB m0 [x0, a, c] d))))) := (E_eq PP XX HH _ _ _).trans (by kernel_rfl)
def ZEw := Z2A Tryd.f11
def ZiU := l2 (l2 (l2 ZEw))
def ZpM := l1 (l1 (l2 (l1 (l2 (l2 ZEw)))))
def Zkq (m0 : Nat) : Kont := kret PP HH 11 Tryd.f11.results
def ZFY := kseq HH 11 m0 ZiU (exec PP HH 11 m0 EE LL ZiU (Zkq m0)) (Zkq m0)
def Ztr := kblk 0 (ZFY m0)
def ZFZ := kloop HH 11 m0 ZpM (LL 11 m0 ZpM (Ztr m0)) (Ztr m0)
def ZG0 := kseq HH 11 m0 (l2 ZiU) (exec PP HH 11 m0 EE LL (l2 ZiU) (Zkq m0)) (Zkq m0)
def ZG1 := kblk 2 (ZG0 m0)
def Zmz := lp (LL 11 m0 ZpM (Ztr m0) [(1, x1), (3, x3), (8, x8), (9, x9), (10, x10)] B)
def Zts := exec PP HH 11 m0 EE LL (l2 (l2 ZpM)) (ZFZ m0) [(1, x1), (3, x3), (8, x8), (9, x9), (10, x10)] B
def Ztt := exec PP HH 11 m0 EE LL ZiU (Zkq m0) [(1, x1), (3, x3)] B
def Z49 := exec PP HH 11 m0 EE LL (l2 ZiU) (Zkq m0) [(3, x3)] B
def Z5A := exec PP HH 11 m0 EE LL (l2 (l2 (l2 (l1 (l2 (l2 (l2 (l2 (l2 (l2 (l2 (l1 (l2 (l1 ZiU)))))))))))))) (ZG1 m0) [(1, x1), (3, x3)] B
theorem ZA2 : Zmz m0 x1 x3 x8 x9 x10 B =
 mk (ob (xbin PP .lss 3 x10 x9) fun a =>
 asB a fun b => br b (Zts m0 x1 x3 x8 x9 x10 (gcB m0 [x1, x3, x8, x9, x10] B))
 (Ztt m0 x1 x3 (gcB m0 [x1, x3] B))) := lq_ (by kernel_rfl)
theorem ZA3 : Zts m0 x1 x3 x8 x9 x10 B =
 mk (ob (xidx 7 x8 x10) fun a =>
 ob (ldN true 7 a B) fun b =>
 bz PP 31 B fun c d =>
 stN 7 c b d fun e =>
 mk (ob (ldN true 7 c e) fun f =>
 callS false EE 11 [f] e fun g h =>
 ob (xbin PP .add 3 (shr x3) g) fun i =>
 ob (Z7I PP false [i, (iv 1048576)]) fun j =>
 mk (ob (xbin PP .add 3 x10 (iv 1)) fun k =>
 Zmz m0 x1 (shr j) x8 x9 (shr k) (gcB m0 [x1, (shr j), x8, x9, (shr k)] h)))) := by kernel_rfl
theorem ZA4 : Ztt m0 x1 x3 B =
 mk (ob (xfld 0 x1) fun a =>
 ob (ldN false 1 a B) fun b =>
 mk (ob (xbin PP .eql 3 b (iv 1)) fun c =>
 asB (shr c) fun d => br d (asB (shr c) fun e => br e (mk (Z1F (iv 1) B))
 (mk (ob (xbin PP .eql 3 b (iv 3)) fun f =>
 asB (shr f) fun g => br g (mk (ob (xfld 6 x1) fun h =>
 ob (ldN false 1 h B) fun i =>
 ob (xlen PP 29 i) fun j =>
 ob (xbin PP .sub 3 j (iv 1)) fun k =>
 ob (xbin PP .mul 3 (iv 2) k) fun l =>
 ob (xbin PP .add 3 (shr x3) l) fun n =>
 Z49 m0 (shr n) (gcB m0 [(shr n)] B)))
 (mk (ob (xbin PP .eql 3 b (iv 5)) fun o =>
 asB (shr o) fun p => br p (asB (shr o) fun q => br q (mk (ob (xbin PP .add 3 (shr x3) (iv 2)) fun r =>
 Z49 m0 (shr r) (gcB m0 [(shr r)] B)))
 (mk (ob (xbin PP .eql 3 b (iv 4)) fun s =>
 asB (shr s) fun t => br t (mk (mk (ob (xfld 1 x1) fun u =>
 ob (ldN false 1 u B) fun v =>
 ob (xbin PP .mul 3 v (shr (shr (shr x3)))) fun w =>
 mk (ob (xfld 2 x1) fun x =>
 ob (ldN false 1 x B) fun y =>
 ob (xbin PP .lss 3 y (iv 0)) fun z =>
 asB z fun A => br A (mk (ob (xbin PP .add 3 (shr (shr (shr x3))) (iv 4)) fun C =>
 ob (xbin PP .add 3 (shr (shr w)) C) fun D =>
 Z5A m0 x1 (shr D) (gcB m0 [x1, (shr D)] B)))
 (mk (ob (xfld 2 x1) fun F =>
 ob (ldN false 1 F B) fun G =>
 ob (xfld 1 x1) fun I =>
 ob (ldN false 1 I B) fun J =>
 ob (xbin PP .sub 3 G J) fun M =>
 ob (xbin PP .add 3 (shr (shr (shr x3))) (iv 1)) fun N =>
 ob (xbin PP .mul 3 M N) fun O =>
 ob (xbin PP .add 3 (shr (shr w)) O) fun Q =>
 Z5A m0 x1 (shr Q) (gcB m0 [x1, (shr Q)] B)))))))
 (Z49 m0 x3 (gcB m0 [x3] B)))))
 (mk (ob (xbin PP .eql 3 b (iv 7)) fun R =>
 asB (shr R) fun S => br S (asB (shr R) fun T => br T (mk (ob (xbin PP .add 3 (shr x3) (iv 2)) fun U =>
 Z49 m0 (shr U) (gcB m0 [(shr U)] B)))
 (mk (ob (xbin PP .eql 3 b (iv 4)) fun V =>
 asB (shr V) fun W => br W (mk (mk (ob (xfld 1 x1) fun Y =>
 ob (ldN false 1 Y B) fun Z =>
 ob (xbin PP .mul 3 Z (shr (shr (shr x3)))) fun a0 =>
 mk (ob (xfld 2 x1) fun a1 =>
 ob (ldN false 1 a1 B) fun a2 =>
 ob (xbin PP .lss 3 a2 (iv 0)) fun a3 =>
 asB a3 fun a4 => br a4 (mk (ob (xbin PP .add 3 (shr (shr (shr x3))) (iv 4)) fun a5 =>
 ob (xbin PP .add 3 (shr (shr a0)) a5) fun a6 =>
 Z5A m0 x1 (shr a6) (gcB m0 [x1, (shr a6)] B)))
 (mk (ob (xfld 2 x1) fun a7 =>
 ob (ldN false 1 a7 B) fun a8 =>
 ob (xfld 1 x1) fun a9 =>
 ob (ldN false 1 a9 B) fun a10 =>
 ob (xbin PP .sub 3 a8 a10) fun a11 =>
 ob (xbin PP .add 3 (shr (shr (shr x3))) (iv 1)) fun a12 =>
 ob (xbin PP .mul 3 a11 a12) fun a13 =>
 ob (xbin PP .add 3 (shr (shr a0)) a13) fun a14 =>
 Z5A m0 x1 (shr a14) (gcB m0 [x1, (shr a14)] B)))))))
 (Z49 m0 x3 (gcB m0 [x3] B)))))
 (mk (ob (xbin PP .eql 3 b (iv 8)) fun a15 =>
 asB (shr a15) fun a16 => br a16 (mk (ob (xbin PP .add 3 (shr x3) (iv 2)) fun a17 =>
 Z49 m0 (shr a17) (gcB m0 [(shr a17)] B)))
 (mk (ob (xbin PP .eql 3 b (iv 4)) fun a18 =>
 asB (shr a18) fun a19 => br a19 (mk (mk (ob (xfld 1 x1) fun a20 =>
 ob (ldN false 1 a20 B) fun a21 =>
 ob (xbin PP .mul 3 a21 (shr (shr (shr x3)))) fun a22 =>
 mk (ob (xfld 2 x1) fun a23 =>
 ob (ldN false 1 a23 B) fun a24 =>
 ob (xbin PP .lss 3 a24 (iv 0)) fun a25 =>
 asB a25 fun a26 => br a26 (mk (ob (xbin PP .add 3 (shr (shr (shr x3))) (iv 4)) fun a27 =>
 ob (xbin PP .add 3 (shr (shr a22)) a27) fun a28 =>
 Z5A m0 x1 (shr a28) (gcB m0 [x1, (shr a28)] B)))
 (mk (ob (xfld 2 x1) fun a29 =>
 ob (ldN false 1 a29 B) fun a30 =>
 ob (xfld 1 x1) fun a31 =>
 ob (ldN false 1 a31 B) fun a32 =>
 ob (xbin PP .sub 3 a30 a32) fun a33 =>
 ob (xbin PP .add 3 (shr (shr (shr x3))) (iv 1)) fun a34 =>
 ob (xbin PP .mul 3 a33 a34) fun a35 =>
 ob (xbin PP .add 3 (shr (shr a22)) a35) fun a36 =>
 Z5A m0 x1 (shr a36) (gcB m0 [x1, (shr a36)] B)))))))
 (Z49 m0 x3 (gcB m0 [x3] B)))))))))))))
 (mk (ob (xbin PP .eql 3 b (iv 6)) fun a37 =>
 asB (shr a37) fun a38 => br a38 (asB (shr a37) fun a39 => br a39 (mk (Z1F (iv 1) B))
 (mk (ob (xbin PP .eql 3 b (iv 3)) fun a40 =>
 asB (shr a40) fun a41 => br a41 (mk (ob (xfld 6 x1) fun a42 =>
 ob (ldN false 1 a42 B) fun a43 =>
 ob (xlen PP 29 a43) fun a44 =>
 ob (xbin PP .sub 3 a44 (iv 1)) fun a45 =>
 ob (xbin PP .mul 3 (iv 2) a45) fun a46 =>
 ob (xbin PP .add 3 (shr x3) a46) fun a47 =>
 Z49 m0 (shr a47) (gcB m0 [(shr a47)] B)))
 (mk (ob (xbin PP .eql 3 b (iv 5)) fun a48 =>
 asB (shr a48) fun a49 => br a49 (asB (shr a48) fun a50 => br a50 (mk (ob (xbin PP .add 3 (shr x3) (iv 2)) fun a51 =>
 Z49 m0 (shr a51) (gcB m0 [(shr a51)] B)))
 (mk (ob (xbin PP .eql 3 b (iv 4)) fun a52 =>
 asB (shr a52) fun a53 => br a53 (mk (mk (ob (xfld 1 x1) fun a54 =>
 ob (ldN false 1 a54 B) fun a55 =>
 ob (xbin PP .mul 3 a55 (shr (shr (shr x3)))) fun a56 =>
 mk (ob (xfld 2 x1) fun a57 =>
 ob (ldN false 1 a57 B) fun a58 =>
 ob (xbin PP .lss 3 a58 (iv 0)) fun a59 =>
 asB a59 fun a60 => br a60 (mk (ob (xbin PP .add 3 (shr (shr (shr x3))) (iv 4)) fun a61 =>
 ob (xbin PP .add 3 (shr (shr a56)) a61) fun a62 =>
 Z5A m0 x1 (shr a62) (gcB m0 [x1, (shr a62)] B)))
 (mk (ob (xfld 2 x1) fun a63 =>
 ob (ldN false 1 a63 B) fun a64 =>
 ob (xfld 1 x1) fun a65 =>
 ob (ldN false 1 a65 B) fun a66 =>
 ob (xbin PP .sub 3 a64 a66) fun a67 =>
 ob (xbin PP .add 3 (shr (shr (shr x3))) (iv 1)) fun a68 =>
 ob (xbin PP .mul 3 a67 a68) fun a69 =>
 ob (xbin PP .add 3 (shr (shr a56)) a69) fun a70 =>
 Z5A m0 x1 (shr a70) (gcB m0 [x1, (shr a70)] B)))))))
 (Z49 m0 x3 (gcB m0 [x3] B)))))
 (mk (ob (xbin PP .eql 3 b (iv 7)) fun a71 =>
 asB (shr a71) fun a72 => br a72 (asB (shr a71) fun a73 => br a73 (mk (ob (xbin PP .add 3 (shr x3) (iv 2)) fun a74 =>
 Z49 m0 (shr a74) (gcB m0 [(shr a74)] B)))
 (mk (ob (xbin PP .eql 3 b (iv 4)) fun a75 =>
 asB (shr a75) fun a76 => br a76 (mk (mk (ob (xfld 1 x1) fun a77 =>
 ob (ldN false 1 a77 B) fun a78 =>
 ob (xbin PP .mul 3 a78 (shr (shr (shr x3)))) fun a79 =>
 mk (ob (xfld 2 x1) fun a80 =>
 ob (ldN false 1 a80 B) fun a81 =>
 ob (xbin PP .lss 3 a81 (iv 0)) fun a82 =>
 asB a82 fun a83 => br a83 (mk (ob (xbin PP .add 3 (shr (shr (shr x3))) (iv 4)) fun a84 =>
 ob (xbin PP .add 3 (shr (shr a79)) a84) fun a85 =>
 Z5A m0 x1 (shr a85) (gcB m0 [x1, (shr a85)] B)))
 (mk (ob (xfld 2 x1) fun a86 =>
 ob (ldN false 1 a86 B) fun a87 =>
 ob (xfld 1 x1) fun a88 =>
 ob (ldN false 1 a88 B) fun a89 =>
 ob (xbin PP .sub 3 a87 a89) fun a90 =>
 ob (xbin PP .add 3 (shr (shr (shr x3))) (iv 1)) fun a91 =>
 ob (xbin PP .mul 3 a90 a91) fun a92 =>
 ob (xbin PP .add 3 (shr (shr a79)) a92) fun a93 =>
 Z5A m0 x1 (shr a93) (gcB m0 [x1, (shr a93)] B)))))))
 (Z49 m0 x3 (gcB m0 [x3] B)))))
 (mk (ob (xbin PP .eql 3 b (iv 8)) fun a94 =>
 asB (shr a94) fun a95 => br a95 (mk (ob (xbin PP .add 3 (shr x3) (iv 2)) fun a96 =>
 Z49 m0 (shr a96) (gcB m0 [(shr a96)] B)))
 (mk (ob (xbin PP .eql 3 b (iv 4)) fun a97 =>
 asB (shr a97) fun a98 => br a98 (mk (mk (ob (xfld 1 x1) fun a99 =>
 ob (ldN false 1 a99 B) fun a100 =>
 ob (xbin PP .mul 3 a100 (shr (shr (shr x3)))) fun a101 =>
 mk (ob (xfld 2 x1) fun a102 =>
 ob (ldN false 1 a102 B) fun a103 =>
 ob (xbin PP .lss 3 a103 (iv 0)) fun a104 =>
 asB a104 fun a105 => br a105 (mk (ob (xbin PP .add 3 (shr (shr (shr x3))) (iv 4)) fun a106 =>
 ob (xbin PP .add 3 (shr (shr a101)) a106) fun a107 =>
 Z5A m0 x1 (shr a107) (gcB m0 [x1, (shr a107)] B)))
 (mk (ob (xfld 2 x1) fun a108 =>
 ob (ldN false 1 a108 B) fun a109 =>
 ob (xfld 1 x1) fun a110 =>
 ob (ldN false 1 a110 B) fun a111 =>
 ob (xbin PP .sub 3 a109 a111) fun a112 =>
 ob (xbin PP .add 3 (shr (shr (shr x3))) (iv 1)) fun a113 =>
 ob (xbin PP .mul 3 a112 a113) fun a114 =>
 ob (xbin PP .add 3 (shr (shr a101)) a114) fun a115 =>
 Z5A m0 x1 (shr a115) (gcB m0 [x1, (shr a115)] B)))))))
 (Z49 m0 x3 (gcB m0 [x3] B)))))))))))))
 (mk (ob (xbin PP .eql 3 b (iv 9)) fun a116 =>
 asB (shr a116) fun a117 => br a117 (mk (Z1F (iv 1) B))
 (mk (ob (xbin PP .eql 3 b (iv 3)) fun a118 =>
 asB (shr a118) fun a119 => br a119 (mk (ob (xfld 6 x1) fun a120 =>
 ob (ldN false 1 a120 B) fun a121 =>
 ob (xlen PP 29 a121) fun a122 =>
 ob (xbin PP .sub 3 a122 (iv 1)) fun a123 =>
 ob (xbin PP .mul 3 (iv 2) a123) fun a124 =>
 ob (xbin PP .add 3 (shr x3) a124) fun a125 =>
 Z49 m0 (shr a125) (gcB m0 [(shr a125)] B)))
 (mk (ob (xbin PP .eql 3 b (iv 5)) fun a126 =>
 asB (shr a126) fun a127 => br a127 (asB (shr a126) fun a128 => br a128 (mk (ob (xbin PP .add 3 (shr x3) (iv 2)) fun a129 =>
 Z49 m0 (shr a129) (gcB m0 [(shr a129)] B)))
 (mk (ob (xbin PP .eql 3 b (iv 4)) fun a130 =>
 asB (shr a130) fun a131 => br a131 (mk (mk (ob (xfld 1 x1) fun a132 =>
 ob (ldN false 1 a132 B) fun a133 =>
 ob (xbin PP .mul 3 a133 (shr (shr (shr x3)))) fun a134 =>
 mk (ob (xfld 2 x1) fun a135 =>
 ob (ldN false 1 a135 B) fun a136 =>
 ob (xbin PP .lss 3 a136 (iv 0)) fun a137 =>
 asB a137 fun a138 => br a138 (mk (ob (xbin PP .add 3 (shr (shr (shr x3))) (iv 4)) fun a139 =>
 ob (xbin PP .add 3 (shr (shr a134)) a139) fun a140 =>
 Z5A m0 x1 (shr a140) (gcB m0 [x1, (shr a140)] B)))
 (mk (ob (xfld 2 x1) fun a141 =>
 ob (ldN false 1 a141 B) fun a142 =>
 ob (xfld 1 x1) fun a143 =>
 ob (ldN false 1 a143 B) fun a144 =>
 ob (xbin PP .sub 3 a142 a144) fun a145 =>
 ob (xbin PP .add 3 (shr (shr (shr x3))) (iv 1)) fun a146 =>
 ob (xbin PP .mul 3 a145 a146) fun a147 =>
 ob (xbin PP .add 3 (shr (shr a134)) a147) fun a148 =>
 Z5A m0 x1 (shr a148) (gcB m0 [x1, (shr a148)] B)))))))
 (Z49 m0 x3 (gcB m0 [x3] B)))))
 (mk (ob (xbin PP .eql 3 b (iv 7)) fun a149 =>
 asB (shr a149) fun a150 => br a150 (asB (shr a149) fun a151 => br a151 (mk (ob (xbin PP .add 3 (shr x3) (iv 2)) fun a152 =>
 Z49 m0 (shr a152) (gcB m0 [(shr a152)] B)))
 (mk (ob (xbin PP .eql 3 b (iv 4)) fun a153 =>
 asB (shr a153) fun a154 => br a154 (mk (mk (ob (xfld 1 x1) fun a155 =>
 ob (ldN false 1 a155 B) fun a156 =>
 ob (xbin PP .mul 3 a156 (shr (shr (shr x3)))) fun a157 =>
 mk (ob (xfld 2 x1) fun a158 =>
 ob (ldN false 1 a158 B) fun a159 =>
 ob (xbin PP .lss 3 a159 (iv 0)) fun a160 =>
 asB a160 fun a161 => br a161 (mk (ob (xbin PP .add 3 (shr (shr (shr x3))) (iv 4)) fun a162 =>
 ob (xbin PP .add 3 (shr (shr a157)) a162) fun a163 =>
 Z5A m0 x1 (shr a163) (gcB m0 [x1, (shr a163)] B)))
 (mk (ob (xfld 2 x1) fun a164 =>
 ob (ldN false 1 a164 B) fun a165 =>
 ob (xfld 1 x1) fun a166 =>
 ob (ldN false 1 a166 B) fun a167 =>
 ob (xbin PP .sub 3 a165 a167) fun a168 =>
 ob (xbin PP .add 3 (shr (shr (shr x3))) (iv 1)) fun a169 =>
 ob (xbin PP .mul 3 a168 a169) fun a170 =>
 ob (xbin PP .add 3 (shr (shr a157)) a170) fun a171 =>
 Z5A m0 x1 (shr a171) (gcB m0 [x1, (shr a171)] B)))))))
 (Z49 m0 x3 (gcB m0 [x3] B)))))
 (mk (ob (xbin PP .eql 3 b (iv 8)) fun a172 =>
 asB (shr a172) fun a173 => br a173 (mk (ob (xbin PP .add 3 (shr x3) (iv 2)) fun a174 =>
 Z49 m0 (shr a174) (gcB m0 [(shr a174)] B)))
 (mk (ob (xbin PP .eql 3 b (iv 4)) fun a175 =>
 asB (shr a175) fun a176 => br a176 (mk (mk (ob (xfld 1 x1) fun a177 =>
 ob (ldN false 1 a177 B) fun a178 =>
 ob (xbin PP .mul 3 a178 (shr (shr (shr x3)))) fun a179 =>
 mk (ob (xfld 2 x1) fun a180 =>
 ob (ldN false 1 a180 B) fun a181 =>
 ob (xbin PP .lss 3 a181 (iv 0)) fun a182 =>
 asB a182 fun a183 => br a183 (mk (ob (xbin PP .add 3 (shr (shr (shr x3))) (iv 4)) fun a184 =>
 ob (xbin PP .add 3 (shr (shr a179)) a184) fun a185 =>
 Z5A m0 x1 (shr a185) (gcB m0 [x1, (shr a185)] B)))
 (mk (ob (xfld 2 x1) fun a186 =>
 ob (ldN false 1 a186 B) fun a187 =>
 ob (xfld 1 x1) fun a188 =>
 ob (ldN false 1 a188 B) fun a189 =>
 ob (xbin PP .sub 3 a187 a189) fun a190 =>
 ob (xbin PP .add 3 (shr (shr (shr x3))) (iv 1)) fun a191 =>
 ob (xbin PP .mul 3 a190 a191) fun a192 =>
 ob (xbin PP .add 3 (shr (shr a179)) a192) fun a193 =>
 Z5A m0 x1 (shr a193) (gcB m0 [x1, (shr a193)] B)))))))
 (Z49 m0 x3 (gcB m0 [x3] B)))))))))))))))))) := by kernel_rfl
theorem Zy1 : Z49 m0 x3 B =
 mk (ob (Z7I PP false [(shr x3), (iv 1048576)]) fun a =>
 Z1F (shr a) B) := by kernel_rfl
theorem Zy0 : Z5A m0 x1 x3 B =
 mk (ob (xfld 3 x1) fun a =>
 ob (ldN false 1 a B) fun b =>
 ob (xbin PP .eql 3 b (iv 2)) fun c =>
 asB c fun d => br d (mk (ob (xbin PP .add 3 (shr x3) (iv 2)) fun e =>
 Z49 m0 (shr e) (gcB m0 [(shr e)] B)))
 (Z49 m0 x3 (gcB m0 [x3] B))) := by kernel_rfl
theorem ZFX : EE 11 [x0] B =
 (let m0 := B.length
 mk (bx x0 B fun a b =>
 mk (mk (ob (xfld 6 a) fun c =>
 ob (ldN false 1 c b) fun d =>
 ob (xlen PP 29 d) fun e =>
 Zmz m0 a (iv 0) d e (iv 0) (gcB m0 [a, (iv 0), d, e, (iv 0)] b))))) := (E_eq PP XX HH _ _ _).trans (by kernel_rfl)
def ZEx := Z2A Tryd.f12
def ZtC := l2 (l2 (l2 ZEx))
def ZpP := l1 (l1 (l2 (l1 (l2 (l2 ZEx)))))
def Zkr := l2 (l2 ZpP)
def ZtB := l2 (l2 (l1 (l1 Zkr)))
def Ztu (m0 : Nat) : Kont := kret PP HH 12 Tryd.f12.results
def ZG3 := kseq HH 12 m0 ZtC (exec PP HH 12 m0 EE LL ZtC (Ztu m0)) (Ztu m0)
def Ztv := kblk 0 (ZG3 m0)
def ZpN := kloop HH 12 m0 ZpP (LL 12 m0 ZpP (Ztv m0)) (Ztv m0)
def ZG4 := kseq HH 12 m0 (l2 Zkr) (exec PP HH 12 m0 EE LL (l2 Zkr) (ZpN m0)) (ZpN m0)
def Ztw := kblk 1 (ZG4 m0)
def ZG5 := kseq HH 12 m0 ZtB (exec PP HH 12 m0 EE LL ZtB (Ztw m0)) (Ztw m0)
def ZmA := lp (LL 12 m0 ZpP (Ztv m0) [(3, x3), (6, x6), (7, x7), (8, x8)] B)
def Ztx := exec PP HH 12 m0 EE LL Zkr (ZpN m0) [(3, x3), (6, x6), (7, x7), (8, x8)] B
def ZtA := exec PP HH 12 m0 EE LL ZtC (Ztu m0) [] B
def ZpO := exec PP HH 12 m0 EE LL (l1 (l2 (l1 (l2 (l1 (l1 Zkr)))))) (ZG5 m0) [] B
def Zty := exec PP HH 12 m0 EE LL ZtB (Ztw m0) [(5, x5), (6, x6), (7, x7), (8, x8)] B
def Ztz := exec PP HH 12 m0 EE LL (l2 Zkr) (ZpN m0) [(3, x3), (6, x6), (7, x7), (8, x8)] B
theorem ZA5 : ZmA m0 x3 x6 x7 x8 B =
 mk (ob (xbin PP .lss 3 x8 x7) fun a =>
 asB a fun b => br b (Ztx m0 x3 x6 x7 x8 (gcB m0 [x3, x6, x7, x8] B))
 (ZtA m0 (gcB m0 [] B))) := lq_ (by kernel_rfl)
theorem ZA6 : Ztx m0 x3 x6 x7 x8 B =
 mk (ob (xidx 2 x6 x8) fun a =>
 ob (ldN true 2 a B) fun b =>
 bz PP 47 B fun c d =>
 stN 2 c b d fun e =>
 mk (ob (ldN true 2 c e) fun f =>
 callS false EE 22 [f] e fun g h =>
 ob (xun PP .not g) fun i =>
 asB (shr i) fun j => br j (ZpO m0 (gcB m0 [] h))
 (ob (xfld 0 c) fun k =>
 ob (ldN false 1 k h) fun l =>
 ob (xbin PP .add 3 (shr x3) (iv 2)) fun n =>
 ob (xbin PP .lss 3 l n) fun o =>
 asB (shr o) fun p => br p (ZpO m0 (gcB m0 [] h))
 (Zty m0 c x6 x7 x8 (gcB m0 [c, x6, x7, x8] h))))) := by kernel_rfl
theorem ZAa : ZtA m0 B =
 mk (Z1F (bv true) B) := by kernel_rfl
theorem ZA7 : ZpO m0 B =
 mk (Z1F (bv false) B) := by kernel_rfl
theorem ZA8 : Zty m0 x5 x6 x7 x8 B =
 mk (ob (xfld 1 x5) fun a =>
 ob (ldN false 1 a B) fun b =>
 Ztz m0 (shr b) x6 x7 x8 (gcB m0 [(shr b), x6, x7, x8] B)) := by kernel_rfl
theorem ZA9 : Ztz m0 x3 x6 x7 x8 B =
 mk (ob (xbin PP .add 3 x8 (iv 1)) fun a =>
 ZmA m0 x3 x6 x7 (shr a) (gcB m0 [x3, x6, x7, (shr a)] B)) := by kernel_rfl
theorem ZG2 : EE 12 [x0] B =
 (let m0 := B.length
 mk (mk (mk (ob (xlen PP 28 (shr x0)) fun a =>
 ZmA m0 (iv (-2)) (shr x0) a (iv 0) (gcB m0 [(iv (-2)), (shr x0), a, (iv 0)] B))))) := (E_eq PP XX HH _ _ _).trans (by kernel_rfl)
def ZEy := Z2A Tryd.f13
def ZtH := l2 (l2 (l2 ZEy))
def ZpR := l1 (l1 (l2 (l1 (l2 (l2 ZEy)))))
def ZAg := l2 (l2 ZpR)
def ZtD (m0 : Nat) : Kont := kret PP HH 13 Tryd.f13.results
def ZG7 := kseq HH 13 m0 ZtH (exec PP HH 13 m0 EE LL ZtH (ZtD m0)) (ZtD m0)
def ZtE := kblk 0 (ZG7 m0)
def ZAb := kloop HH 13 m0 ZpR (LL 13 m0 ZpR (ZtE m0)) (ZtE m0)
def ZmB := lp (LL 13 m0 ZpR (ZtE m0) [(3, x3), (6, x6), (7, x7), (8, x8)] B)
def ZtF := exec PP HH 13 m0 EE LL ZAg (ZAb m0) [(3, x3), (6, x6), (7, x7), (8, x8)] B
def ZtG := exec PP HH 13 m0 EE LL ZtH (ZtD m0) [(3, x3)] B
def ZpQ := exec PP HH 13 m0 EE LL (l2 ZAg) (ZAb m0) [(3, x3), (6, x6), (7, x7), (8, x8)] B
theorem ZAc : ZmB m0 x3 x6 x7 x8 B =
 mk (ob (xbin PP .lss 3 x8 x7) fun a =>
 asB a fun b => br b (ZtF m0 x3 x6 x7 x8 (gcB m0 [x3, x6, x7, x8] B))
 (ZtG m0 x3 (gcB m0 [x3] B))) := lq_ (by kernel_rfl)
theorem ZAd : ZtF m0 x3 x6 x7 x8 B =
 mk (ob (xidx 6 x6 x8) fun a =>
 ob (ldN true 6 a B) fun b =>
 bz PP 40 B fun c d =>
 stN 6 c b d fun e =>
 mk (ob (xfld 0 c) fun f =>
 ob (ldN false 1 f e) fun g =>
 ob (xbin PP .eql 3 g (iv 10)) fun h =>
 asB h fun i => br i (mk (ob (xbin PP .add 3 (shr x3) (iv 1)) fun j =>
 ZpQ m0 (shr j) x6 x7 x8 (gcB m0 [(shr j), x6, x7, x8] e)))
 (ZpQ m0 x3 x6 x7 x8 (gcB m0 [x3, x6, x7, x8] e)))) := by kernel_rfl
theorem ZAf : ZtG m0 x3 B =
 mk (Z1F (shr (shr x3)) B) := by kernel_rfl
theorem ZAe : ZpQ m0 x3 x6 x7 x8 B =
 mk (ob (xbin PP .add 3 x8 (iv 1)) fun a =>
 ZmB m0 x3 x6 x7 (shr a) (gcB m0 [x3, x6, x7, (shr a)] B)) := by kernel_rfl
theorem ZG6 : EE 13 [x0] B =
 (let m0 := B.length
 mk (mk (mk (ob (xlen PP 23 (shr x0)) fun a =>
 ZmB m0 (iv 0) (shr x0) a (iv 0) (gcB m0 [(iv 0), (shr x0), a, (iv 0)] B))))) := (E_eq PP XX HH _ _ _).trans (by kernel_rfl)
def ZIk := Z2A Tryd.f14
def ZtM := l2 (l2 ZIk)
def ZtN := l2 (l2 ZtM)
def ZgR := l1 (l1 (l2 (l1 (l2 ZtM))))
def Z5d (r0 r1 : AV) (B : List Row) : Option Res :=
 ob (ob (some r0) fun v => ob (ob (some r1) fun v => ob (some []) fun vs => some (v :: vs)) fun vs => some (v :: vs)) fun vs => some ((nrmA (match vs with | [v] => v | vs => Z9e (vs.map shr))), B)
def ZpS (m0 : Nat) : Kont := kret PP HH 14 Tryd.f14.results
def ZG9 := kseq HH 14 m0 ZtN (exec PP HH 14 m0 EE LL ZtN (ZpS m0)) (ZpS m0)
def ZtI := kblk 0 (ZG9 m0)
def ZpT := kloop HH 14 m0 ZgR (LL 14 m0 ZgR (ZtI m0)) (ZtI m0)
def ZGa := kseq HH 14 m0 (l2 (l2 ZgR)) (exec PP HH 14 m0 EE LL (l2 (l2 ZgR)) (ZpT m0)) (ZpT m0)
def ZGb := kblk 1 (ZGa m0)
def ZtJ := exec PP HH 14 m0 EE LL ZtM (ZpS m0) [(0, x0)] B
def ZmC := lp (LL 14 m0 ZgR (ZtI m0) [(0, x0), (4, x4), (5, x5)] B)
def ZtK := exec PP HH 14 m0 EE LL (l2 ZgR) (ZpT m0) [(0, x0), (4, x4), (5, x5)] B
def ZtL := exec PP HH 14 m0 EE LL ZtN (ZpS m0) [(4, x4)] B
def ZpV := exec PP HH 14 m0 EE LL (l1 (l2 (l1 (l1 (l2 ZgR))))) (ZGb m0) [(0, x0), (4, x4), (5, x5)] B
def ZpU := exec PP HH 14 m0 EE LL (l2 (l2 ZgR)) (ZpT m0) [(0, x0), (4, x4), (5, x5)] B
theorem ZAi : ZtJ m0 x0 B =
 mk (callS true EE 23 [x0] B fun a b =>
 mk (ZmC m0 (shr x0) a (kv .i32 65) (gcB m0 [(shr x0), a, (kv .i32 65)] b))) := by kernel_rfl
theorem ZAh : ZmC m0 x0 x4 x5 B =
 mk (ob (xbin PP .lss 21 (shr x5) (kv .i32 91)) fun a =>
 asB a fun b => br b (ZtK m0 x0 x4 x5 (gcB m0 [x0, x4, x5] B))
 (ZtL m0 x4 (gcB m0 [x4] B))) := lq_ (by kernel_rfl)
theorem ZAk : ZtK m0 x0 x4 x5 B =
 mk (ob (xcnv PP 21 3 (shr x5)) fun a =>
 callS false EE 24 [(shr x0), a] B fun b c =>
 asB (shr b) fun d => br d (ZpV m0 x0 x4 x5 (gcB m0 [x0, x4, x5] c))
 (ob (xbin PP .add 21 (shr x5) (kv .i32 32)) fun e =>
 ob (xcnv PP 21 3 e) fun f =>
 callS false EE 24 [(shr x0), f] c fun g h =>
 asB (shr g) fun i => br i (ZpV m0 x0 x4 x5 (gcB m0 [x0, x4, x5] h))
 (ZpU m0 x0 x4 x5 (gcB m0 [x0, x4, x5] h)))) := by kernel_rfl
theorem ZAm : ZtL m0 x4 B =
 mk (callS false EE 25 [(shr x4)] B fun a b =>
 Z5d (shr a) (iv 0) b) := by kernel_rfl
theorem ZAl : ZpV m0 x0 x4 x5 B =
 mk (ob (xcnv PP 21 3 (shr x5)) fun a =>
 ob (xcnv PP 21 3 (shr x5)) fun b =>
 ob (Z1D PP 47 [(0, a), (1, b)]) fun c =>
 ob (xbin PP .add 21 (shr x5) (kv .i32 32)) fun d =>
 ob (xcnv PP 21 3 d) fun e =>
 ob (xbin PP .add 21 (shr x5) (kv .i32 32)) fun f =>
 ob (xcnv PP 21 3 f) fun g =>
 ob (Z1D PP 47 [(0, e), (1, g)]) fun h =>
 ob (xlit PP 28 2 [(0, c), (1, h)]) fun i =>
 ob (xapp 2 x4 i) fun j =>
 ZpU m0 x0 j x5 (gcB m0 [x0, j, x5] B)) := by kernel_rfl
theorem ZAj : ZpU m0 x0 x4 x5 B =
 mk (ob (xbin PP .add 21 (shr x5) (kv .i32 1)) fun a =>
 ZmC m0 x0 x4 (shr a) (gcB m0 [x0, x4, (shr a)] B)) := by kernel_rfl
theorem ZG8 : EE 14 [x0] B =
 (let m0 := B.length
 mk (mk (callS false EE 12 [(shr x0)] B fun a b =>
 ob (xun PP .not a) fun c =>
 asB c fun d => br d (mk (Z5d nilA (iv 10) b))
 (ZtJ m0 x0 (gcB m0 [x0] b))))) := (E_eq PP XX HH _ _ _).trans (by kernel_rfl)
def ZIl := Z2A Tryd.f15
def ZmE := l2 (l2 ZIl)
def ZpX := l1 (l1 (l2 (l1 ZmE)))
def ZAt := l2 (l2 ZpX)
def ZpW (m0 : Nat) : Kont := kret PP HH 15 Tryd.f15.results
def ZGd := kseq HH 15 m0 (l2 ZmE) (exec PP HH 15 m0 EE LL (l2 ZmE) (ZpW m0)) (ZpW m0)
def ZtO := kblk 0 (ZGd m0)
def ZAn := kloop HH 15 m0 ZpX (LL 15 m0 ZpX (ZtO m0)) (ZtO m0)
def ZtP := exec PP HH 15 m0 EE LL ZmE (ZpW m0) [(0, x0), (1, x1)] B
def ZmD := lp (LL 15 m0 ZpX (ZtO m0) [(1, x1), (12, x12), (13, x13), (14, x14)] B)
def ZtQ := exec PP HH 15 m0 EE LL ZAt (ZAn m0) [(1, x1), (12, x12), (13, x13), (14, x14)] B
def ZtS := exec PP HH 15 m0 EE LL (l2 ZmE) (ZpW m0) [] B
def ZtR := exec PP HH 15 m0 EE LL (l2 ZAt) (ZAn m0) [(1, x1), (12, x12), (13, x13), (14, x14)] B
theorem ZAp : ZtP m0 x0 x1 B =
 mk (ob (xlen PP 28 (shr x0)) fun a =>
 ZmD m0 x1 (shr x0) a (iv 0) (gcB m0 [x1, (shr x0), a, (iv 0)] B)) := by kernel_rfl
theorem ZAo : ZmD m0 x1 x12 x13 x14 B =
 mk (ob (xbin PP .lss 3 x14 x13) fun a =>
 asB a fun b => br b (ZtQ m0 x1 x12 x13 x14 (gcB m0 [x1, x12, x13, x14] B))
 (ZtS m0 (gcB m0 [] B))) := lq_ (by kernel_rfl)
theorem ZAq : ZtQ m0 x1 x12 x13 x14 B =
 mk (ob (xidx 2 x12 x14) fun a =>
 ob (ldN true 2 a B) fun b =>
 bz PP 47 B fun c d =>
 stN 2 c b d fun e =>
 mk (ob (ldN true 2 c e) fun f =>
 ob (xidx 2 (shr x1) (shr (shr (shr x14)))) fun g =>
 ob (ldN true 2 g e) fun h =>
 ob (xbin PP .neq 47 f h) fun i =>
 asB i fun j => br j (mk (Z1F (bv false) e))
 (ZtR m0 x1 x12 x13 x14 (gcB m0 [x1, x12, x13, x14] e)))) := by kernel_rfl
theorem ZAs : ZtS m0 B =
 mk (Z1F (bv true) B) := by kernel_rfl
theorem ZAr : ZtR m0 x1 x12 x13 x14 B =
 mk (ob (xbin PP .add 3 x14 (iv 1)) fun a =>
 ZmD m0 x1 x12 x13 (shr a) (gcB m0 [x1, x12, x13, (shr a)] B)) := by kernel_rfl
theorem ZGc : EE 15 [x0, x1] B =
 (let m0 := B.length
 mk (mk (ob (xlen PP 28 (shr x0)) fun a =>
 ob (xlen PP 28 (shr x1)) fun b =>
 ob (xbin PP .neq 3 a b) fun c =>
 asB c fun d => br d (mk (Z1F (bv false) B))
 (ZtP m0 x0 x1 (gcB m0 [x0, x1] B))))) := (E_eq PP XX HH _ _ _).trans (by kernel_rfl)
def ZIm := Z2A Tryd.f17
def ZGf (m0 : Nat) : Kont := kret PP HH 17 Tryd.f17.results
def ZtT := exec PP HH 17 m0 EE LL (l2 (l2 ZIm)) (ZGf m0) [(0, x0)] B
theorem ZAu : ZtT m0 x0 B =
 mk (callS false EE 26 [(shr x0)] B fun a b =>
 Z5d (shr a) (iv 0) b) := by kernel_rfl
theorem ZGe : EE 17 [x0] B =
 (let m0 := B.length
 mk (mk (callS false EE 12 [(shr x0)] B fun a b =>
 ob (xun PP .not a) fun c =>
 asB c fun d => br d (mk (Z5d nilA (iv 10) b))
 (ZtT m0 x0 (gcB m0 [x0] b))))) := (E_eq PP XX HH _ _ _).trans (by kernel_rfl)
def ZIn := Z2A Tryd.f18
def ZGh (m0 : Nat) : Kont := kret PP HH 18 Tryd.f18.results
def ZtU := exec PP HH 18 m0 EE LL (l2 (l2 ZIn)) (ZGh m0) [(1, x1)] B
theorem ZAv : ZtU m0 x1 B =
 mk (ob (xfld 8 x1) fun a =>
 ob (ldN false 1 a B) fun b =>
 ob (Z1D PP 69 [(1, b)]) fun c =>
 bxM [(0, 6)] c B fun d e =>
 mk (ob (Z1D PP 40 [(0, (iv 4))]) fun f =>
 callS false EE 28 [(shr (shr d)), f] e fun g h =>
 mk (ob (xfld 0 x1) fun i =>
 ob (ldN true 7 i h) fun j =>
 callS false EE 29 [(shr (shr d)), j] h fun k l =>
 mk (ob (Z1D PP 40 [(0, (iv 4)), (1, (iv 1))]) fun n =>
 callS false EE 28 [(shr (shr d)), n] l fun o p =>
 mk (ob (Z1D PP 40 [(0, (iv 0))]) fun q =>
 callS false EE 28 [(shr (shr d)), q] p fun r s =>
 mk (ob (Z1E (shr (shr d))) fun t =>
 ob (xfld 0 t) fun u =>
 ldFz u s fun v w =>
 Z5d (shr v) (iv 0) w)))))) := by kernel_rfl
theorem ZGg : EE 18 [x0] B =
 (let m0 := B.length
 mk (bx x0 B fun a b =>
 mk (ob (ldN true 9 a b) fun c =>
 callS false EE 27 [c] b fun d e =>
 mk (ob (xbin PP .neq 24 (shr (shr d)) (iv 0)) fun f =>
 asB f fun g => br g (mk (Z5d nilA (shr (shr (shr d))) e))
 (ZtU m0 a (gcB m0 [a] e)))))) := (E_eq PP XX HH _ _ _).trans (by kernel_rfl)
def ZEz := Z2A Tryd.f19
def ZtX := l2 (l2 ZEz)
def ZtV (m0 : Nat) : Kont := kret PP HH 19 Tryd.f19.results
def ZGj := kseq HH 19 m0 ZtX (exec PP HH 19 m0 EE LL ZtX (ZtV m0)) (ZtV m0)
def ZpY := exec PP HH 19 m0 EE LL (l1 (l2 (l1 (l2 ZEz)))) (ZGj m0) [] B
def ZtW := exec PP HH 19 m0 EE LL ZtX (ZtV m0) [(0, x0), (1, x1)] B
theorem ZAw : ZpY m0 B =
 mk (Z1F (bv false) B) := by kernel_rfl
theorem ZAx : ZtW m0 x0 x1 B =
 mk (ob (Z1E (shr x0)) fun a =>
 ob (xfld 1 a) fun b =>
 ob (ldN false 1 b B) fun c =>
 ob (xlen PP 9 (shr x1)) fun d =>
 ob (xbin PP .add 3 c d) fun e =>
 ob (Z1E (shr x0)) fun f =>
 ob (xfld 1 f) fun g =>
 stN 1 g e B fun h =>
 mk (Z1F (bv true) h)) := by kernel_rfl
theorem ZGi : EE 19 [x0, x1] B =
 (let m0 := B.length
 mk (mk (ob (Z1E (shr x0)) fun a =>
 ob (xfld 0 a) fun b =>
 ob (ldN false 1 b B) fun c =>
 ob (xlen PP 54 c) fun d =>
 ob (Z1E (shr x0)) fun e =>
 ob (xfld 1 e) fun f =>
 ob (ldN false 1 f B) fun g =>
 ob (xbin PP .sub 3 d g) fun h =>
 ob (xlen PP 9 (shr x1)) fun i =>
 ob (xbin PP .lss 3 h i) fun j =>
 asB (shr j) fun k => br k (ZpY m0 (gcB m0 [] B))
 (ob (Z1E (shr x0)) fun l =>
 ob (xfld 0 l) fun n =>
 ob (ldN false 1 n B) fun o =>
 ob (Z1E (shr x0)) fun p =>
 ob (xfld 1 p) fun q =>
 ob (ldN false 1 q B) fun r =>
 ob (Z1E (shr x0)) fun s =>
 ob (xfld 1 s) fun t =>
 ob (ldN false 1 t B) fun u =>
 ob (xlen PP 9 (shr x1)) fun v =>
 ob (xbin PP .add 3 u v) fun w =>
 ob (xsl 1 o (some r) (some w) none) fun x =>
 ob (xcnv PP 54 9 x) fun y =>
 ob (xbin PP .neq 9 y (shr x1)) fun z =>
 asB (shr z) fun A => br A (ZpY m0 (gcB m0 [] B))
 (ZtW m0 x0 x1 (gcB m0 [x0, x1] B)))))) := (E_eq PP XX HH _ _ _).trans (by kernel_rfl)
def ZEA := Z2A Tryd.f20
def Zu2 := l2 (l2 (l2 ZEA))
def ZpZ := l1 (l1 (l1 (l2 (l2 ZEA))))
def Z7F (r0 : AV) (B : List Row) : Option Res :=
 ob (ob (ldN true 7 r0 B) fun v => ob (some []) fun vs => some (v :: vs)) fun vs => some ((nrmA (match vs with | [v] => v | vs => Z9e (vs.map shr))), B)
def ZtY (m0 : Nat) : Kont := kret PP HH 20 Tryd.f20.results
def ZGl := kseq HH 20 m0 Zu2 (exec PP HH 20 m0 EE LL Zu2 (ZtY m0)) (ZtY m0)
def ZtZ := kblk 0 (ZGl m0)
def ZGm := kloop HH 20 m0 ZpZ (LL 20 m0 ZpZ (ZtZ m0)) (ZtZ m0)
def ZmF := lp (LL 20 m0 ZpZ (ZtZ m0) [(0, x0), (2, x2), (3, x3)] B)
def Zu0 := exec PP HH 20 m0 EE LL (l2 ZpZ) (ZGm m0) [(0, x0), (2, x2), (3, x3)] B
def Zu1 := exec PP HH 20 m0 EE LL Zu2 (ZtY m0) [(2, x2), (3, x3)] B
theorem ZAy : ZmF m0 x0 x2 x3 B =
 mk (callS false EE 19 [(shr x0), (.p (.v (.string (ByteArray.mk #[124]))))] B fun a b =>
 asB a fun c => br c (Zu0 m0 x0 x2 x3 (gcB m0 [x0, x2, x3] b))
 (Zu1 m0 x2 x3 (gcB m0 [x2, x3] b))) := lq_ (by kernel_rfl)
theorem ZAz : Zu0 m0 x0 x2 x3 B =
 mk (callS false EE 30 [(shr x0)] B fun a b =>
 ob (xlit PP 29 1 [(0, a)]) fun c =>
 ob (xapp 7 x3 c) fun d =>
 ZmF m0 x0 x2 d (gcB m0 [x0, x2, d] b)) := by kernel_rfl
theorem ZAA : Zu1 m0 x2 x3 B =
 mk (callS false EE 31 [(iv 3), (shr x3)] B fun a b =>
 stN 7 x2 a b fun c =>
 Z7F x2 c) := by kernel_rfl
theorem ZGk : EE 20 [x0] B =
 (let m0 := B.length
 mk (bz PP 31 B fun a b =>
 mk (callS false EE 30 [(shr x0)] b fun c d =>
 ob (xlit PP 29 1 [(0, c)]) fun e =>
 ZmF m0 x0 a e (gcB m0 [x0, a, e] d)))) := (E_eq PP XX HH _ _ _).trans (by kernel_rfl)
def ZIo := Z2A Tryd.f21
def Z4R (B : List Row) : Option Res :=
 ob (some []) fun vs => some ((nrmA (match vs with | [v] => v | vs => Z9e (vs.map shr))), B)
def ZGo (m0 : Nat) : Kont := kret PP HH 21 Tryd.f21.results
def Zq0 := exec PP HH 21 m0 EE LL (l2 ZIo) (ZGo m0) [(0, x0)] B
theorem ZAB : Zq0 m0 x0 B =
 mk (ob (Z1E (shr x0)) fun a =>
 ob (xfld 0 a) fun b =>
 ob (ldN false 1 b B) fun c =>
 ob (xlen PP 54 c) fun d =>
 ob (Z1E (shr x0)) fun e =>
 ob (xfld 1 e) fun f =>
 stN 1 f d B fun g =>
 Z4R g) := by kernel_rfl
theorem ZGn : EE 21 [x0, x1, x2] B =
 (let m0 := B.length
 mk (ob (Z1E (shr x0)) fun a =>
 ob (xfld 5 a) fun b =>
 ob (xfld 0 b) fun c =>
 ob (ldN false 1 c B) fun d =>
 ob (xbin PP .eql 24 d (iv 0)) fun e =>
 asB e fun f => br f (mk (ob (Z1D PP 35 [(0, (shr x1)), (1, (shr x2))]) fun g =>
 ob (Z1E (shr x0)) fun h =>
 ob (xfld 5 h) fun i =>
 stN 2 i g B fun j =>
 Zq0 m0 x0 (gcB m0 [x0] j)))
 (Zq0 m0 x0 (gcB m0 [x0] B)))) := (E_eq PP XX HH _ _ _).trans (by kernel_rfl)
theorem ZGp : EE 22 [x0] B =
 (let m0 := B.length
 mk (bx x0 B fun a b =>
 mk (ob (xfld 0 a) fun c =>
 ob (ldN false 1 c b) fun d =>
 ob (xbin PP .geq 3 d (iv 0)) fun e =>
 asB (shr e) fun f => br f (ob (xfld 0 a) fun g =>
 ob (ldN false 1 g b) fun h =>
 ob (xfld 1 a) fun i =>
 ob (ldN false 1 i b) fun j =>
 ob (xbin PP .leq 3 h j) fun k =>
 asB (shr (shr k)) fun l => br l (ob (xfld 1 a) fun n =>
 ob (ldN false 1 n b) fun o =>
 ob (xbin PP .leq 3 o (iv 1114367)) fun p =>
 Z1F (shr (shr p)) b)
 (Z1F (bv false) b))
 (Z1F (bv false) b)))) := (E_eq PP XX HH _ _ _).trans (by kernel_rfl)
theorem ZGq : EE 24 [x0, x1] B =
 (let m0 := B.length
 mk (bx x1 B fun a b =>
 mk (callS false EE 32 [(shr x0), (.clo 33 ([].map nrmA) ([a].map nrmA))] b fun c d =>
 Z1F (shr c) d))) := (E_eq PP XX HH _ _ _).trans (by kernel_rfl)
def ZEB := Z2A Tryd.f26
def Zq5 := l2 (l2 (l2 (l2 ZEB)))
def Zq4 := l1 (l1 (l2 (l1 (l2 (l2 (l2 ZEB))))))
def ZmH := l2 (l2 Zq4)
def Zq1 (m0 : Nat) : Kont := kret PP HH 26 Tryd.f26.results
def ZGs := kseq HH 26 m0 Zq5 (exec PP HH 26 m0 EE LL Zq5 (Zq1 m0)) (Zq1 m0)
def Zu3 := kblk 0 (ZGs m0)
def Zq2 := kloop HH 26 m0 Zq4 (LL 26 m0 Zq4 (Zu3 m0)) (Zu3 m0)
def ZGt := kseq HH 26 m0 (l2 ZmH) (exec PP HH 26 m0 EE LL (l2 ZmH) (Zq2 m0)) (Zq2 m0)
def ZGu := kblk 1 (ZGt m0)
def ZmG := lp (LL 26 m0 Zq4 (Zu3 m0) [(3, x3), (4, x4), (7, x7), (8, x8), (9, x9)] B)
def Zu4 := exec PP HH 26 m0 EE LL ZmH (Zq2 m0) [(3, x3), (4, x4), (7, x7), (8, x8), (9, x9)] B
def ZrJ := exec PP HH 26 m0 EE LL Zq5 (Zq1 m0) [(3, x3), (4, x4)] B
def Zq3 := exec PP HH 26 m0 EE LL (l2 (l2 (l1 (l1 ZmH)))) (ZGu m0) [(3, x3), (6, x6), (7, x7), (8, x8), (9, x9)] B
def ZnW := exec PP HH 26 m0 EE LL (l2 Zq5) (Zq1 m0) [(3, x3)] B
def Zu5 := exec PP HH 26 m0 EE LL (l2 ZmH) (Zq2 m0) [(3, x3), (4, x4), (7, x7), (8, x8), (9, x9)] B
theorem ZAC : ZmG m0 x3 x4 x7 x8 x9 B =
 mk (ob (xbin PP .lss 3 x9 x8) fun a =>
 asB a fun b => br b (Zu4 m0 x3 x4 x7 x8 x9 (gcB m0 [x3, x4, x7, x8, x9] B))
 (ZrJ m0 x3 x4 (gcB m0 [x3, x4] B))) := lq_ (by kernel_rfl)
theorem ZAD : Zu4 m0 x3 x4 x7 x8 x9 B =
 mk (ob (xidx 2 x7 x9) fun a =>
 ob (ldN true 2 a B) fun b =>
 bz PP 47 B fun c d =>
 stN 2 c b d fun e =>
 mk (ob (xfld 0 c) fun f =>
 ob (ldN false 1 f e) fun g =>
 ob (xbin PP .lss 3 (shr x4) g) fun h =>
 asB h fun i => br i (mk (ob (xfld 0 c) fun j =>
 ob (ldN false 1 j e) fun k =>
 ob (xbin PP .sub 3 k (iv 1)) fun l =>
 ob (Z1D PP 47 [(0, (shr x4)), (1, l)]) fun n =>
 ob (xlit PP 28 1 [(0, n)]) fun o =>
 ob (xapp 2 x3 o) fun p =>
 Zq3 m0 p c x7 x8 x9 (gcB m0 [p, c, x7, x8, x9] e)))
 (Zq3 m0 x3 c x7 x8 x9 (gcB m0 [x3, c, x7, x8, x9] e)))) := by kernel_rfl
theorem Zy2 : ZrJ m0 x3 x4 B =
 mk (ob (xbin PP .leq 3 (shr x4) (iv 1114367)) fun a =>
 asB a fun b => br b (mk (ob (Z1D PP 47 [(0, (shr x4)), (1, (iv 1114367))]) fun c =>
 ob (xlit PP 28 1 [(0, c)]) fun d =>
 ob (xapp 2 x3 d) fun e =>
 ZnW m0 e (gcB m0 [e] B)))
 (ZnW m0 x3 (gcB m0 [x3] B))) := by kernel_rfl
theorem ZAE : Zq3 m0 x3 x6 x7 x8 x9 B =
 mk (ob (xfld 1 x6) fun a =>
 ob (ldN false 1 a B) fun b =>
 ob (xbin PP .add 3 b (iv 1)) fun c =>
 Zu5 m0 x3 (shr c) x7 x8 x9 (gcB m0 [x3, (shr c), x7, x8, x9] B)) := by kernel_rfl
theorem Zy3 : ZnW m0 x3 B =
 mk (Z1F (shr (shr x3)) B) := by kernel_rfl
theorem ZAF : Zu5 m0 x3 x4 x7 x8 x9 B =
 mk (ob (xbin PP .add 3 x9 (iv 1)) fun a =>
 ZmG m0 x3 x4 x7 x8 (shr a) (gcB m0 [x3, x4, x7, x8, (shr a)] B)) := by kernel_rfl
theorem ZGr : EE 26 [x0] B =
 (let m0 := B.length
 mk (mk (mk (mk (ob (xlen PP 28 (shr x0)) fun a =>
 ZmG m0 nilA (iv 0) (shr x0) a (iv 0) (gcB m0 [nilA, (iv 0), (shr x0), a, (iv 0)] B)))))) := (E_eq PP XX HH _ _ _).trans (by kernel_rfl)
def ZIp := Z2A Tryd.f27
def ZGw (m0 : Nat) : Kont := kret PP HH 27 Tryd.f27.results
def Zu6 := exec PP HH 27 m0 EE LL (l2 (l2 ZIp)) (ZGw m0) [] B
theorem ZAG : Zu6 m0 B =
 mk (Z1F (iv 0) B) := by kernel_rfl
theorem ZGv : EE 27 [x0] B =
 (let m0 := B.length
 mk (bx x0 B fun a b =>
 mk (ob (xfld 0 a) fun c =>
 ob (ldN true 7 c b) fun d =>
 callS false EE 38 [d] b fun e f =>
 ob (xun PP .not e) fun g =>
 asB (shr g) fun h => br h (mk (Z1F (iv 27) f))
 (mk (ob (xfld 0 a) fun i =>
 ob (ldN true 7 i f) fun j =>
 callS false EE 11 [j] f fun k l =>
 ob (xbin PP .add 3 k (iv 3)) fun n =>
 ob (xbin PP .gtr 3 n (iv 2000)) fun o =>
 asB (shr o) fun p => br p (mk (Z1F (iv 28) l))
 (Zu6 m0 (gcB m0 [] l))))))) := (E_eq PP XX HH _ _ _).trans (by kernel_rfl)
theorem ZGx : EE 28 [x0, x1] B =
 (let m0 := B.length
 mk (bx x1 B fun a b =>
 mk (ob (Z1E (shr x0)) fun c =>
 ob (xfld 0 c) fun d =>
 ldOwn d b fun e f =>
 ob (ldN true 6 a f) fun g =>
 ob (xlit PP 23 1 [(0, g)]) fun h =>
 ob (Zog 6 e h) fun i =>
 ob (Z1E (shr x0)) fun j =>
 ob (xfld 0 j) fun k =>
 stN 1 k i f fun l =>
 grd (ZbG d a) (mk (ob (Z1E (shr x0)) fun n =>
 ob (xfld 0 n) fun o =>
 ob (ldN false 1 o l) fun p =>
 ob (xlen PP 23 p) fun q =>
 ob (xbin PP .sub 3 q (iv 1)) fun r =>
 Z1F (shr r) l))))) := (E_eq PP XX HH _ _ _).trans (by kernel_rfl)
def ZsY := Z2A Tryd.f29
def Zq8 := l1 (l1 (l2 (l1 (l2 (l2 (l2 (l1 (l2 (l2 ZsY)))))))))
def ZGz (m0 : Nat) : Kont := kret PP HH 29 Tryd.f29.results
def Zq6 := kblk 0 (ZGz m0)
def Zu7 := kblk 1 (Zq6 m0)
def ZGA := kloop HH 29 m0 Zq8 (LL 29 m0 Zq8 (Zu7 m0)) (Zu7 m0)
def Zq7 := exec PP HH 29 m0 EE LL (l2 (l2 (l1 (l2 (l1 (l2 (l2 ZsY))))))) (Zq6 m0) [(2, x2), (4, x4)] B
def Zks := lp (LL 29 m0 Zq8 (Zu7 m0) [(2, x2), (36, x36), (37, x37), (38, x38)] B)
def ZnX := exec PP HH 29 m0 EE LL (l2 (l2 (l1 (l2 (l2 (l2 (l2 (l2 (l2 (l2 (l2 (l2 (l2 (l2 (l1 (l2 (l2 ZsY))))))))))))))))) (Zq6 m0) [(2, x2), (7, x7)] B
def ZnY := exec PP HH 29 m0 EE LL (l2 (l2 (l1 (l2 (l2 (l2 (l2 (l2 (l2 (l2 (l2 (l2 (l2 (l2 (l2 (l2 (l1 (l2 (l2 ZsY))))))))))))))))))) (Zq6 m0) [(2, x2), (3, x3), (8, x8)] B
def ZrK := exec PP HH 29 m0 EE LL (l2 (l2 Zq8)) (ZGA m0) [(2, x2), (36, x36), (37, x37), (38, x38)] B
theorem ZAH : Zq7 m0 x2 x4 B =
 mk (callS false EE 39 [(shr x4), nilA] B fun a b =>
 ob (xext 0 (shr a)) fun c =>
 ob (xext 1 (shr a)) fun d =>
 mk (ob (ldN false 1 x2 b) fun e =>
 ob (Z1D PP 40 [(0, (iv 1)), (5, (shr (shr (shr c))))]) fun f =>
 callS false EE 28 [e, f] b fun g h =>
 Z4R h)) := by kernel_rfl
theorem Zy4 : Zks m0 x2 x36 x37 x38 B =
 mk (ob (xbin PP .lss 3 x38 x37) fun a =>
 asB a fun b => br b (ZrK m0 x2 x36 x37 x38 (gcB m0 [x2, x36, x37, x38] B))
 (Z4R B)) := lq_ (by kernel_rfl)
theorem Zy6 : ZnX m0 x2 x7 B =
 mk (ob (ldN false 1 x2 B) fun a =>
 ob (ldN true 6 x7 B) fun b =>
 callS false EE 28 [a, b] B fun c d =>
 Z4R d) := by kernel_rfl
theorem Zy7 : ZnY m0 x2 x3 x8 B =
 mk (ob (ldN false 1 x2 B) fun a =>
 ob (ldN true 6 x8 B) fun b =>
 callS false EE 41 [a, b, (.clo 45 ([].map nrmA) ([x2, x3].map nrmA))] B fun c d =>
 Z4R d) := by kernel_rfl
theorem Zy5 : ZrK m0 x2 x36 x37 x38 B =
 mk (ob (xidx 7 x36 x38) fun a =>
 ob (ldN true 7 a B) fun b =>
 bz PP 31 B fun c d =>
 stN 7 c b d fun e =>
 mk (ob (ldN false 1 x2 e) fun f =>
 ob (ldN true 7 c e) fun g =>
 callS false EE 29 [f, g] e fun h i =>
 mk (ob (xbin PP .add 3 x38 (iv 1)) fun j =>
 Zks m0 x2 x36 x37 (shr j) (gcB m0 [x2, x36, x37, (shr j)] i)))) := by kernel_rfl
theorem ZGy : EE 29 [x0, x1] B =
 (let m0 := B.length
 mk (bx x0 B fun a b =>
 bx x1 b fun c d =>
 mk (ob (xfld 0 c) fun e =>
 ob (ldN false 1 e d) fun f =>
 mk (ob (xbin PP .eql 3 f (iv 1)) fun g =>
 asB (shr g) fun h => br h (mk (ob (xfld 5 c) fun i =>
 ob (ldN false 1 i d) fun j =>
 mk (ob (ldN false 1 a d) fun k =>
 ob (Z1E k) fun l =>
 ob (xfld 1 l) fun n =>
 ob (ldN false 1 n d) fun o =>
 asB o fun p => br p (mk (callS false EE 14 [(shr (shr j))] d fun q r =>
 ob (xext 0 (shr q)) fun s =>
 ob (xext 1 (shr q)) fun t =>
 Zq7 m0 a (shr (shr s)) (gcB m0 [a, (shr (shr s))] r)))
 (Zq7 m0 a (shr j) (gcB m0 [a, (shr j)] d)))))
 (mk (ob (xbin PP .eql 3 f (iv 2)) fun u =>
 asB (shr u) fun v => br v (mk (ob (xfld 6 c) fun w =>
 ob (ldN false 1 w d) fun x =>
 ob (xlen PP 29 x) fun y =>
 Zks m0 a x y (iv 0) (gcB m0 [a, x, y, (iv 0)] d)))
 (mk (ob (xbin PP .eql 3 f (iv 3)) fun z =>
 asB (shr z) fun A => br A (mk (ob (ldN false 1 a d) fun C =>
 ob (xfld 6 c) fun D =>
 ob (ldN false 1 D d) fun F =>
 callS false EE 40 [C, F] d fun G I =>
 Z4R I))
 (mk (ob (xbin PP .eql 3 f (iv 4)) fun J =>
 asB (shr J) fun M => br M (mk (ob (xfld 3 c) fun N =>
 ob (ldN false 1 N d) fun O =>
 ob (xbin PP .eql 3 O (iv 2)) fun Q =>
 asB Q fun R => br R (mk (ob (ldN false 1 a d) fun S =>
 ob (Z1D PP 40 [(0, (iv 8))]) fun T =>
 callS false EE 41 [S, T, (.clo 42 ([].map nrmA) ([a, c].map nrmA))] d fun U V =>
 Z4R V))
 (mk (ob (ldN false 1 a d) fun W =>
 ob (ldN true 7 c d) fun Y =>
 callS false EE 43 [W, Y] d fun Z a0 =>
 Z4R a0))))
 (mk (ob (xbin PP .eql 3 f (iv 5)) fun a1 =>
 asB (shr a1) fun a2 => br a2 (mk (ob (ldN false 1 a d) fun a3 =>
 ob (xfld 4 c) fun a4 =>
 ob (ldN false 1 a4 d) fun a5 =>
 ob (xbin PP .mul 3 (iv 2) a5) fun a6 =>
 ob (Z1D PP 40 [(0, (iv 4)), (1, a6)]) fun a7 =>
 callS false EE 28 [a3, a7] d fun a8 a9 =>
 mk (ob (ldN false 1 a a9) fun a10 =>
 ob (xfld 6 c) fun a11 =>
 ob (ldN false 1 a11 a9) fun a12 =>
 ob (xidx 7 a12 (iv 0)) fun a13 =>
 ob (ldN true 7 a13 a9) fun a14 =>
 callS false EE 29 [a10, a14] a9 fun a15 a16 =>
 mk (ob (ldN false 1 a a16) fun a17 =>
 ob (xfld 4 c) fun a18 =>
 ob (ldN false 1 a18 a16) fun a19 =>
 ob (xbin PP .mul 3 (iv 2) a19) fun a20 =>
 ob (xbin PP .add 3 a20 (iv 1)) fun a21 =>
 ob (Z1D PP 40 [(0, (iv 4)), (1, a21)]) fun a22 =>
 callS false EE 28 [a17, a22] a16 fun a23 a24 =>
 Z4R a24))))
 (mk (ob (xbin PP .eql 3 f (iv 6)) fun a25 =>
 asB (shr a25) fun a26 => br a26 (mk (ob (xfld 4 c) fun a27 =>
 ob (ldN false 1 a27 d) fun a28 =>
 ob (Z1D PP 40 [(0, (iv 5)), (1, a28)]) fun a29 =>
 bz PP 40 d fun a30 a31 =>
 stN 6 a30 a29 a31 fun a32 =>
 mk (ob (ldN false 1 a a32) fun a33 =>
 ob (Z1E a33) fun a34 =>
 ob (xfld 1 a34) fun a35 =>
 ob (ldN false 1 a35 a32) fun a36 =>
 asB a36 fun a37 => br a37 (mk (ob (xfld 2 a30) fun a38 =>
 stN 1 a38 (iv 1) a32 fun a39 =>
 ZnX m0 a a30 (gcB m0 [a, a30] a39)))
 (ZnX m0 a a30 (gcB m0 [a, a30] a32)))))
 (mk (ob (xbin PP .eql 3 f (iv 7)) fun a40 =>
 asB (shr a40) fun a41 => br a41 (mk (ob (xfld 3 c) fun a42 =>
 ob (ldN false 1 a42 d) fun a43 =>
 ob (Z1D PP 40 [(0, (iv 7)), (1, a43)]) fun a44 =>
 bz PP 40 d fun a45 a46 =>
 stN 6 a45 a44 a46 fun a47 =>
 mk (ob (xfld 3 c) fun a48 =>
 ob (ldN false 1 a48 a47) fun a49 =>
 ob (xbin PP .geq 3 a49 (iv 2)) fun a50 =>
 asB a50 fun a51 => br a51 (mk (ob (xfld 6 c) fun a52 =>
 ob (ldN false 1 a52 a47) fun a53 =>
 ob (xidx 7 a53 (iv 0)) fun a54 =>
 ob (ldN true 7 a54 a47) fun a55 =>
 callS false EE 44 [a55] a47 fun a56 a57 =>
 ob (xext 0 (shr a56)) fun a58 =>
 ob (xext 1 (shr a56)) fun a59 =>
 ob (xfld 3 a45) fun a60 =>
 stN 1 a60 (shr a58) a57 fun a61 =>
 ob (xfld 4 a45) fun a62 =>
 stN 1 a62 (shr a59) a61 fun a63 =>
 ZnY m0 a c a45 (gcB m0 [a, c, a45] a63)))
 (ZnY m0 a c a45 (gcB m0 [a, c, a45] a47)))))
 (mk (ob (xbin PP .eql 3 f (iv 8)) fun a64 =>
 asB (shr a64) fun a65 => br a65 (mk (ob (ldN false 1 a d) fun a66 =>
 ob (Z1D PP 40 [(0, (iv 8))]) fun a67 =>
 callS false EE 41 [a66, a67, (.clo 46 ([].map nrmA) ([a, c].map nrmA))] d fun a68 a69 =>
 Z4R a69))
 (mk (ob (xbin PP .eql 3 f (iv 9)) fun a70 =>
 asB (shr a70) fun a71 => br a71 (mk (ob (ldN false 1 a d) fun a72 =>
 ob (xfld 4 c) fun a73 =>
 ob (ldN false 1 a73 d) fun a74 =>
 ob (Z1D PP 40 [(0, (iv 6)), (1, a74)]) fun a75 =>
 callS false EE 28 [a72, a75] d fun a76 a77 =>
 Z4R a77))
 (Z4R d))))))))))))))))))))) := (E_eq PP XX HH _ _ _).trans (by kernel_rfl)
def ZEC := Z2A Tryd.f30
def Zub := l2 (l2 (l2 (l1 (l2 ZEC))))
def ZmK := l1 (l1 (l1 (l2 (l2 (l1 (l2 ZEC))))))
def Zu8 (m0 : Nat) : Kont := kret PP HH 30 Tryd.f30.results
def ZGC := kseq HH 30 m0 Zub (exec PP HH 30 m0 EE LL Zub (Zu8 m0)) (Zu8 m0)
def Zu9 := kblk 0 (ZGC m0)
def ZAI := kloop HH 30 m0 ZmK (LL 30 m0 ZmK (Zu9 m0)) (Zu9 m0)
def ZGD := kblk 1 (ZAI m0)
def ZmI := lp (LL 30 m0 ZmK (Zu9 m0) [(0, x0), (2, x2), (3, x3)] B)
def Zua := exec PP HH 30 m0 EE LL (l2 ZmK) (ZAI m0) [(0, x0), (2, x2), (3, x3)] B
def Zkt := exec PP HH 30 m0 EE LL Zub (Zu8 m0) [(2, x2), (3, x3)] B
def ZmJ := exec PP HH 30 m0 EE LL (l2 (l1 (l2 ZmK))) (ZGD m0) [(0, x0), (2, x2), (3, x3)] B
theorem ZAJ : ZmI m0 x0 x2 x3 B =
 mk (ob (Z1E (shr x0)) fun a =>
 ob (xfld 5 a) fun b =>
 ob (xfld 0 b) fun c =>
 ob (ldN false 1 c B) fun d =>
 ob (xbin PP .eql 24 d (iv 0)) fun e =>
 asB e fun f => br f (Zua m0 x0 x2 x3 (gcB m0 [x0, x2, x3] B))
 (Zkt m0 x2 x3 (gcB m0 [x2, x3] B))) := lq_ (by kernel_rfl)
theorem ZAK : Zua m0 x0 x2 x3 B =
 mk (callS false EE 47 [(shr x0)] B fun a b =>
 mk (ob (xbin PP .eql 3 a (iv (-1))) fun c =>
 asB (shr c) fun d => br d (asB (shr c) fun e => br e (Zkt m0 x2 x3 (gcB m0 [x2, x3] b))
 (ZmJ m0 x0 x2 x3 (gcB m0 [x0, x2, x3] b)))
 (mk (ob (xbin PP .eql 3 a (iv 124)) fun f =>
 asB (shr f) fun g => br g (asB (shr f) fun h => br h (Zkt m0 x2 x3 (gcB m0 [x2, x3] b))
 (ZmJ m0 x0 x2 x3 (gcB m0 [x0, x2, x3] b)))
 (mk (ob (xbin PP .eql 3 a (iv 41)) fun i =>
 asB (shr i) fun j => br j (Zkt m0 x2 x3 (gcB m0 [x2, x3] b))
 (ZmJ m0 x0 x2 x3 (gcB m0 [x0, x2, x3] b)))))))) := by kernel_rfl
theorem ZAM : Zkt m0 x2 x3 B =
 mk (callS false EE 31 [(iv 2), (shr x3)] B fun a b =>
 stN 7 x2 a b fun c =>
 Z7F x2 c) := by kernel_rfl
theorem ZAL : ZmJ m0 x0 x2 x3 B =
 mk (callS false EE 48 [(shr x0)] B fun a b =>
 ob (xext 0 (shr a)) fun c =>
 ob (xext 1 (shr a)) fun d =>
 bz PP 31 b fun e f =>
 stN 7 e (shr c) f fun g =>
 mk (ob (ldN true 7 e g) fun h =>
 callS false EE 49 [(shr x0), h, (shr (shr (shr d)))] g fun i j =>
 ob (xlit PP 29 1 [(0, i)]) fun k =>
 ob (xapp 7 x3 k) fun l =>
 ZmI m0 x0 x2 l (gcB m0 [x0, x2, l] j))) := by kernel_rfl
theorem ZGB : EE 30 [x0] B =
 (let m0 := B.length
 mk (bz PP 31 B fun a b =>
 mk (ZmI m0 x0 a nilA (gcB m0 [x0, a, nilA] (gcB m0 [x0, a, nilA] b))))) := (E_eq PP XX HH _ _ _).trans (by kernel_rfl)
def ZIq := Z2A Tryd.f31
def ZGF (m0 : Nat) : Kont := kret PP HH 31 Tryd.f31.results
def Zuc := exec PP HH 31 m0 EE LL (l2 (l2 ZIq)) (ZGF m0) [(0, x0), (1, x1), (4, x4)] B
theorem ZAN : Zuc m0 x0 x1 x4 B =
 mk (ob (Z1D PP 31 [(0, (shr x0)), (6, (shr x1))]) fun a =>
 stN 7 x4 a B fun b =>
 Z7F x4 b) := by kernel_rfl
theorem ZGE : EE 31 [x0, x1] B =
 (let m0 := B.length
 mk (bz PP 31 B fun a b =>
 mk (ob (xlen PP 29 (shr x1)) fun c =>
 mk (ob (xbin PP .eql 3 c (iv 0)) fun d =>
 asB (shr d) fun e => br e (mk (ob (Z1D PP 31 []) fun f =>
 stN 7 a f b fun g =>
 Z7F a g))
 (mk (ob (xbin PP .eql 3 c (iv 1)) fun h =>
 asB (shr h) fun i => br i (mk (ob (xidx 7 (shr x1) (iv 0)) fun j =>
 ob (ldN true 7 j b) fun k =>
 stN 7 a k b fun l =>
 Z7F a l))
 (Zuc m0 x0 x1 a (gcB m0 [x0, x1, a] b)))))))) := (E_eq PP XX HH _ _ _).trans (by kernel_rfl)
theorem ZGG : EE 32 [x0, x1] B =
 (let m0 := B.length
 mk (mk (callS false EE 50 [(shr x0), (shr x1)] B fun a b =>
 ob (xbin PP .geq 3 a (iv 0)) fun c =>
 Z1F (shr c) b))) := (E_eq PP XX HH _ _ _).trans (by kernel_rfl)
theorem ZGH : EE 33 [x0, x1] B =
 (let m0 := B.length
 mk (bx x0 B fun a b =>
 mk (ob (xfld 0 a) fun c =>
 ob (ldN false 1 c b) fun d =>
 ob (ldN false 1 x1 b) fun e =>
 ob (xbin PP .leq 3 d e) fun f =>
 asB (shr f) fun g => br g (ob (ldN false 1 x1 b) fun h =>
 ob (xfld 1 a) fun i =>
 ob (ldN false 1 i b) fun j =>
 ob (xbin PP .leq 3 h j) fun k =>
 Z1F (shr (shr k)) b)
 (Z1F (bv false) b)))) := (E_eq PP XX HH _ _ _).trans (by kernel_rfl)
def ZED := Z2A Tryd.f38
def Zuf := l2 (l2 ZED)
def ZAS := l1 (l2 (l1 (l2 ZED)))
def Zud (m0 : Nat) : Kont := kret PP HH 38 Tryd.f38.results
def ZAO := kseq HH 38 m0 Zuf (exec PP HH 38 m0 EE LL Zuf (Zud m0)) (Zud m0)
def Zue := exec PP HH 38 m0 EE LL ZAS (ZAO m0) [(1, x1)] B
def ZmL := exec PP HH 38 m0 EE LL Zuf (Zud m0) [(1, x1)] B
def Zq9 := exec PP HH 38 m0 EE LL (l1 (l2 (l2 ZAS))) (ZAO m0) [] B
theorem ZAP : Zue m0 x1 B =
 mk (ob (xfld 6 x1) fun a =>
 ob (ldN false 1 a B) fun b =>
 ob (xidx 7 b (iv 0)) fun c =>
 ob (ldN true 7 c B) fun d =>
 callS false EE 44 [d] B fun e f =>
 ob (xext 0 (shr e)) fun g =>
 ob (xext 1 (shr e)) fun h =>
 mk (ob (xbin PP .lss 3 (shr (shr (shr h))) (iv 0)) fun i =>
 asB (shr i) fun j => br j (Zq9 m0 (gcB m0 [] f))
 (ob (xbin PP .gtr 3 (shr (shr (shr h))) (iv 32)) fun k =>
 asB (shr k) fun l => br l (Zq9 m0 (gcB m0 [] f))
 (ZmL m0 x1 (gcB m0 [x1] f))))) := by kernel_rfl
theorem ZAR : ZmL m0 x1 B =
 mk (ob (xfld 6 x1) fun a =>
 ob (ldN false 1 a B) fun b =>
 callS false EE 55 [b, (.clo 56 [] [])] B fun c d =>
 ob (xun PP .not c) fun e =>
 Z1F (shr e) d) := by kernel_rfl
theorem ZAQ : Zq9 m0 B =
 mk (Z1F (bv false) B) := by kernel_rfl
theorem ZGI : EE 38 [x0] B =
 (let m0 := B.length
 mk (bx x0 B fun a b =>
 mk (ob (xfld 0 a) fun c =>
 ob (ldN false 1 c b) fun d =>
 ob (xbin PP .eql 3 d (iv 7)) fun e =>
 asB (shr e) fun f => br f (ob (xfld 3 a) fun g =>
 ob (ldN false 1 g b) fun h =>
 ob (xbin PP .geq 3 h (iv 2)) fun i =>
 asB (shr i) fun j => br j (Zue m0 a (gcB m0 [a] b))
 (ZmL m0 a (gcB m0 [a] b)))
 (ZmL m0 a (gcB m0 [a] b))))) := (E_eq PP XX HH _ _ _).trans (by kernel_rfl)
def ZEE := Z2A Tryd.f39
def Zui := l2 (l2 ZEE)
def Zug (m0 : Nat) : Kont := kret PP HH 39 Tryd.f39.results
def ZGK := kseq HH 39 m0 Zui (exec PP HH 39 m0 EE LL Zui (Zug m0)) (Zug m0)
def Zqa := exec PP HH 39 m0 EE LL (l1 (l2 (l1 (l2 ZEE)))) (ZGK m0) [] B
def Zuh := exec PP HH 39 m0 EE LL Zui (Zug m0) [(0, x0), (1, x1)] B
theorem ZAT : Zqa m0 B =
 mk (Z5d nilA (iv 10) B) := by kernel_rfl
theorem ZAU : Zuh m0 x0 x1 B =
 mk (ob (xlit PP 110 2 [(0, (shr x0)), (1, (shr x1))]) fun a =>
 callS false EE 57 [a] B fun b c =>
 callS false EE 25 [b] c fun d e =>
 Z5d (shr d) (iv 0) e) := by kernel_rfl
theorem ZGJ : EE 39 [x0, x1] B =
 (let m0 := B.length
 mk (mk (callS false EE 12 [(shr x0)] B fun a b =>
 ob (xun PP .not a) fun c =>
 asB (shr c) fun d => br d (Zqa m0 (gcB m0 [] b))
 (callS false EE 12 [(shr x1)] b fun e f =>
 ob (xun PP .not e) fun g =>
 asB (shr g) fun h => br h (Zqa m0 (gcB m0 [] f))
 (Zuh m0 x0 x1 (gcB m0 [x0, x1] f)))))) := (E_eq PP XX HH _ _ _).trans (by kernel_rfl)
def ZEF := Z2A Tryd.f40
def Zqd := l2 (l2 (l2 ZEF))
def Zqc := l1 (l1 (l2 (l1 (l2 (l2 ZEF)))))
def Zqe := l1 (l1 (l2 (l2 Zqd)))
def Zqb (m0 : Nat) : Kont := kret PP HH 40 Tryd.f40.results
def ZGM := kseq HH 40 m0 Zqd (exec PP HH 40 m0 EE LL Zqd (Zqb m0)) (Zqb m0)
def Zuj := kblk 0 (ZGM m0)
def ZGN := kloop HH 40 m0 Zqc (LL 40 m0 Zqc (Zuj m0)) (Zuj m0)
def Zuk := kblk 2 (Zqb m0)
def ZGO := kloop HH 40 m0 Zqe (LL 40 m0 Zqe (Zuk m0)) (Zuk m0)
def ZmM := lp (LL 40 m0 Zqc (Zuj m0) [(0, x0), (1, x1), (4, x4), (5, x5), (16, x16), (17, x17), (18, x18)] B)
def Zul := exec PP HH 40 m0 EE LL (l2 (l2 Zqc)) (ZGN m0) [(0, x0), (1, x1), (4, x4), (5, x5), (16, x16), (17, x17), (18, x18)] B
def ZrL := exec PP HH 40 m0 EE LL Zqd (Zqb m0) [(0, x0), (1, x1), (4, x4), (5, x5)] B
def Zku := lp (LL 40 m0 Zqe (Zuk m0) [(0, x0), (51, x51), (52, x52), (53, x53)] B)
def ZrM := exec PP HH 40 m0 EE LL (l2 (l2 Zqe)) (ZGO m0) [(0, x0), (51, x51), (52, x52), (53, x53)] B
theorem ZAV : ZmM m0 x0 x1 x4 x5 x16 x17 x18 B =
 mk (ob (xbin PP .lss 3 x18 x17) fun a =>
 asB a fun b => br b (Zul m0 x0 x1 x4 x5 x16 x17 x18 (gcB m0 [x0, x1, x4, x5, x16, x17, x18] B))
 (ZrL m0 x0 x1 x4 x5 (gcB m0 [x0, x1, x4, x5] B))) := lq_ (by kernel_rfl)
theorem ZAW : Zul m0 x0 x1 x4 x5 x16 x17 x18 B =
 mk (ob (xidx 7 x16 x18) fun a =>
 ob (ldN true 7 a B) fun b =>
 bz PP 31 B fun c d =>
 stN 7 c b d fun e =>
 mk (ob (Z1D PP 40 [(0, (iv 3))]) fun f =>
 callS false EE 28 [(shr x0), f] e fun g h =>
 mk (ob (ldN true 7 c h) fun i =>
 callS false EE 29 [(shr x0), i] h fun j k =>
 mk (ob (Z1D PP 40 [(0, (iv 2))]) fun l =>
 callS false EE 28 [(shr x0), l] k fun n o =>
 ob (xlit PP 96 1 [(0, n)]) fun p =>
 ob (xapp 1 x4 p) fun q =>
 mk (ob (xbin PP .add 3 (shr (shr g)) (iv 1)) fun r =>
 ob (Z1E (shr x0)) fun s =>
 ob (xfld 0 s) fun t =>
 ob (ldN false 1 t o) fun u =>
 ob (xlen PP 23 u) fun v =>
 callS false EE 58 [(shr x0), (shr (shr g)), r, v, (bv false)] o fun w x =>
 mk (ob (xbin PP .add 3 x18 (iv 1)) fun y =>
 ZmM m0 x0 x1 q x5 x16 x17 (shr y) (gcB m0 [x0, x1, q, x5, x16, x17, (shr y)] x))))))) := by kernel_rfl
theorem Zy9 : ZrL m0 x0 x1 x4 x5 B =
 mk (ob (xidx 7 (shr x1) (shr x5)) fun a =>
 ob (ldN true 7 a B) fun b =>
 callS false EE 29 [(shr x0), b] B fun c d =>
 mk (ob (xlen PP 96 (shr x4)) fun e =>
 Zku m0 x0 (shr x4) e (iv 0) (gcB m0 [x0, (shr x4), e, (iv 0)] d))) := by kernel_rfl
theorem Zy8 : Zku m0 x0 x51 x52 x53 B =
 mk (ob (xbin PP .lss 3 x53 x52) fun a =>
 asB a fun b => br b (ZrM m0 x0 x51 x52 x53 (gcB m0 [x0, x51, x52, x53] B))
 (Z4R B)) := lq_ (by kernel_rfl)
theorem Zya : ZrM m0 x0 x51 x52 x53 B =
 mk (ob (xidx 1 x51 x53) fun a =>
 ob (ldN false 1 a B) fun b =>
 mk (ob (ncA (shr (Z2d x0))) fun c =>
 ob (flA 0 c) fun d =>
 ob (alA false d B) fun e =>
 ob (ncA (shr (Z2d x0))) fun f =>
 ob (flA 0 f) fun g =>
 ob (ldA false false 1 g B) fun h =>
 ob (xlen PP 23 h) fun i =>
 ob (ixA 6 e (shr (Z2d (shr b)))) fun j =>
 ob (flA 1 j) fun k =>
 ob (stEl 1 k (Z2d i) B) fun l =>
 mk (ob (xbin PP .add 3 (Z2d x53) (iv 1)) fun n =>
 Zku m0 (Z2d x0) (Z2d x51) (Z2d x52) (shr n) (gcB m0 [(Z2d x0), (Z2d x51), (Z2d x52), (shr n)] l)))) := by kernel_rfl
theorem ZGL : EE 40 [x0, x1] B =
 (let m0 := B.length
 mk (mk (ob (xlen PP 29 (shr x1)) fun a =>
 ob (xbin PP .sub 3 a (iv 1)) fun b =>
 mk (ob (xsl 7 (shr x1) none (some (shr (shr b))) none) fun c =>
 ob (xlen PP 29 c) fun d =>
 ZmM m0 x0 x1 nilA (shr b) c d (iv 0) (gcB m0 [x0, x1, nilA, (shr b), c, d, (iv 0)] B))))) := (E_eq PP XX HH _ _ _).trans (by kernel_rfl)
theorem Zum : EE 41 [x0, x1, x2] B =
 (let m0 := B.length
 mk (bx x1 B fun a b =>
 mk (ob (ldN true 6 a b) fun c =>
 callS false EE 28 [(shr x0), c] b fun d e =>
 mk (callV HH EE (shr x2) [] e fun f g =>
 mk (ob (Z1D PP 40 [(0, (iv 9))]) fun h =>
 callS false EE 28 [(shr x0), h] g fun i j =>
 mk (ob (ncA (shr (Z2d x0))) fun k =>
 ob (flA 0 k) fun l =>
 ob (alA false l j) fun n =>
 ob (ncA (shr (Z2d x0))) fun o =>
 ob (flA 0 o) fun p =>
 ob (ldA false false 1 p j) fun q =>
 ob (xlen PP 23 q) fun r =>
 ob (ixA 6 n (shr (Z2d (shr d)))) fun s =>
 ob (flA 2 s) fun t =>
 ob (stEl 1 t (Z2d r) j) fun u =>
 Z4R u)))))) := (E_eq PP XX HH _ _ _).trans (by kernel_rfl)
theorem ZGP : EE 42 [x0, x1] B =
 (let m0 := B.length
 mk (ob (ldN false 1 x0 B) fun a =>
 ob (ldN true 7 x1 B) fun b =>
 callS false EE 43 [a, b] B fun c d =>
 Z4R d)) := (E_eq PP XX HH _ _ _).trans (by kernel_rfl)
def ZEG := Z2A Tryd.f43
def Zkx := l2 (l2 (l2 ZEG))
def Zqi := l2 (l2 (l2 Zkx))
def Zqg := l1 (l1 (l2 (l1 (l2 (l2 ZEG)))))
def ZB2 := l2 (l2 Zqg)
def Zqh := l1 (l1 (l2 (l1 (l2 (l2 Zkx)))))
def Zqj := l1 (l1 (l2 Zqi))
def ZgS (m0 : Nat) : Kont := kret PP HH 43 Tryd.f43.results
def ZGR := kseq HH 43 m0 Zkx (exec PP HH 43 m0 EE LL Zkx (ZgS m0)) (ZgS m0)
def Zun := kblk 0 (ZGR m0)
def ZAX := kloop HH 43 m0 Zqg (LL 43 m0 Zqg (Zun m0)) (Zun m0)
def ZGS := kseq HH 43 m0 Zqi (exec PP HH 43 m0 EE LL Zqi (ZgS m0)) (ZgS m0)
def Zuo := kblk 2 (ZGS m0)
def ZGT := kloop HH 43 m0 Zqh (LL 43 m0 Zqh (Zuo m0)) (Zuo m0)
def Zup := kblk 4 (ZgS m0)
def ZGU := kloop HH 43 m0 Zqj (LL 43 m0 Zqj (Zup m0)) (Zup m0)
def ZmN := lp (LL 43 m0 Zqg (Zun m0) [(0, x0), (3, x3), (4, x4), (13, x13), (14, x14)] B)
def Zuq := exec PP HH 43 m0 EE LL ZB2 (ZAX m0) [(0, x0), (3, x3), (4, x4), (13, x13), (14, x14)] B
def Zqf := exec PP HH 43 m0 EE LL Zkx (ZgS m0) [(0, x0), (3, x3), (4, x4)] B
def Zur := exec PP HH 43 m0 EE LL (l2 ZB2) (ZAX m0) [(0, x0), (3, x3), (4, x4), (13, x13), (14, x14)] B
def ZrN := exec PP HH 43 m0 EE LL (l2 Zkx) (ZgS m0) [(0, x0), (3, x3), (4, x4)] B
def Zkv := lp (LL 43 m0 Zqh (Zuo m0) [(0, x0), (3, x3), (4, x4), (6, x6), (49, x49), (50, x50)] B)
def ZrO := exec PP HH 43 m0 EE LL (l2 (l2 Zqh)) (ZGT m0) [(0, x0), (3, x3), (4, x4), (6, x6), (49, x49), (50, x50)] B
def ZrP := exec PP HH 43 m0 EE LL Zqi (ZgS m0) [(0, x0), (4, x4), (6, x6)] B
def Zkw := lp (LL 43 m0 Zqj (Zup m0) [(0, x0), (4, x4), (65, x65), (66, x66), (67, x67)] B)
def ZrQ := exec PP HH 43 m0 EE LL (l2 (l2 Zqj)) (ZGU m0) [(0, x0), (4, x4), (65, x65), (66, x66), (67, x67)] B
theorem ZAY : ZmN m0 x0 x3 x4 x13 x14 B =
 mk (ob (xbin PP .lss 3 x14 x13) fun a =>
 asB a fun b => br b (Zuq m0 x0 x3 x4 x13 x14 (gcB m0 [x0, x3, x4, x13, x14] B))
 (Zqf m0 x0 x3 x4 (gcB m0 [x0, x3, x4] B))) := lq_ (by kernel_rfl)
theorem ZAZ : Zuq m0 x0 x3 x4 x13 x14 B =
 mk (ob (Z1E (shr x0)) fun a =>
 ob (xfld 0 a) fun b =>
 ob (ldN false 1 b B) fun c =>
 ob (xlen PP 23 c) fun d =>
 mk (ob (xfld 6 x3) fun e =>
 ob (ldN false 1 e B) fun f =>
 ob (xidx 7 f (iv 0)) fun g =>
 ob (ldN true 7 g B) fun h =>
 callS false EE 29 [(shr x0), h] B fun i j =>
 mk (ob (Z1E (shr x0)) fun k =>
 ob (xfld 0 k) fun l =>
 ob (ldN false 1 l j) fun n =>
 ob (xlen PP 23 n) fun o =>
 ob (xbin PP .eql 3 o (shr (shr d))) fun p =>
 asB p fun q => br q (Zqf m0 x0 x3 x4 (gcB m0 [x0, x3, x4] j))
 (Zur m0 x0 x3 x4 x13 x14 (gcB m0 [x0, x3, x4, x13, x14] j))))) := by kernel_rfl
theorem ZB1 : Zqf m0 x0 x3 x4 B =
 mk (ob (xfld 2 x3) fun a =>
 ob (ldN false 1 a B) fun b =>
 ob (xbin PP .lss 3 b (iv 0)) fun c =>
 asB c fun d => br d (mk (ob (xfld 6 x3) fun e =>
 ob (ldN false 1 e B) fun f =>
 ob (xidx 7 f (iv 0)) fun g =>
 ob (ldN true 7 g B) fun h =>
 callS false EE 59 [(shr x0), h, (shr x4)] B fun i j =>
 Z4R j))
 (ZrN m0 x0 x3 x4 (gcB m0 [x0, x3, x4] B))) := by kernel_rfl
theorem ZB0 : Zur m0 x0 x3 x4 x13 x14 B =
 mk (ob (xbin PP .add 3 x14 (iv 1)) fun a =>
 ZmN m0 x0 x3 x4 x13 (shr a) (gcB m0 [x0, x3, x4, x13, (shr a)] B)) := by kernel_rfl
theorem Zyd : ZrN m0 x0 x3 x4 B =
 mk (mk (ob (xfld 2 x3) fun a =>
 ob (ldN false 1 a B) fun b =>
 ob (xfld 1 x3) fun c =>
 ob (ldN false 1 c B) fun d =>
 ob (xbin PP .sub 3 b d) fun e =>
 Zkv m0 x0 x3 x4 nilA e (iv 0) (gcB m0 [x0, x3, x4, nilA, e, (iv 0)] B))) := by kernel_rfl
theorem Zyb : Zkv m0 x0 x3 x4 x6 x49 x50 B =
 mk (ob (xbin PP .lss 3 x50 x49) fun a =>
 asB a fun b => br b (ZrO m0 x0 x3 x4 x6 x49 x50 (gcB m0 [x0, x3, x4, x6, x49, x50] B))
 (ZrP m0 x0 x4 x6 (gcB m0 [x0, x4, x6] B))) := lq_ (by kernel_rfl)
theorem Zye : ZrO m0 x0 x3 x4 x6 x49 x50 B =
 mk (ob (Z1D PP 40 [(0, (iv 3))]) fun a =>
 callS false EE 28 [(shr x0), a] B fun b c =>
 ob (xlit PP 96 1 [(0, b)]) fun d =>
 ob (xapp 1 x6 d) fun e =>
 mk (ob (xfld 6 x3) fun f =>
 ob (ldN false 1 f c) fun g =>
 ob (xidx 7 g (iv 0)) fun h =>
 ob (ldN true 7 h c) fun i =>
 callS false EE 29 [(shr x0), i] c fun j k =>
 mk (ob (xbin PP .add 3 x50 (iv 1)) fun l =>
 Zkv m0 x0 x3 x4 e x49 (shr l) (gcB m0 [x0, x3, x4, e, x49, (shr l)] k)))) := by kernel_rfl
theorem Zyf : ZrP m0 x0 x4 x6 B =
 mk (ob (xlen PP 96 (shr x6)) fun a =>
 Zkw m0 x0 x4 (shr x6) a (iv 0) (gcB m0 [x0, x4, (shr x6), a, (iv 0)] B)) := by kernel_rfl
theorem Zyc : Zkw m0 x0 x4 x65 x66 x67 B =
 mk (ob (xbin PP .lss 3 x67 x66) fun a =>
 asB a fun b => br b (ZrQ m0 x0 x4 x65 x66 x67 (gcB m0 [x0, x4, x65, x66, x67] B))
 (Z4R B)) := lq_ (by kernel_rfl)
theorem Zyg : ZrQ m0 x0 x4 x65 x66 x67 B =
 mk (ob (xidx 1 x65 x67) fun a =>
 ob (ldN false 1 a B) fun b =>
 mk (ob (xbin PP .add 3 (shr (shr b)) (iv 1)) fun c =>
 ob (Z1E (shr x0)) fun d =>
 ob (xfld 0 d) fun e =>
 ob (ldN false 1 e B) fun f =>
 ob (xlen PP 23 f) fun g =>
 callS false EE 58 [(shr x0), (shr (shr b)), c, g, (shr x4)] B fun h i =>
 mk (ob (xbin PP .add 3 x67 (iv 1)) fun j =>
 Zkw m0 x0 x4 x65 x66 (shr j) (gcB m0 [x0, x4, x65, x66, (shr j)] i)))) := by kernel_rfl
theorem ZGQ : EE 43 [x0, x1] B =
 (let m0 := B.length
 mk (bx x1 B fun a b =>
 mk (ob (xfld 3 a) fun c =>
 ob (ldN false 1 c b) fun d =>
 ob (xbin PP .eql 3 d (iv 1)) fun e =>
 mk (ob (xfld 1 a) fun f =>
 ob (ldN false 1 f b) fun g =>
 ZmN m0 x0 a (shr e) g (iv 0) (gcB m0 [x0, a, (shr e), g, (iv 0)] b))))) := (E_eq PP XX HH _ _ _).trans (by kernel_rfl)
def Zyh := Z2A Tryd.f44
def Zuw := l2 (l2 Zyh)
def Zql := l1 (l1 (l2 (l1 (l2 (l2 (l2 (l2 (l2 (l1 (l2 (l1 (l2 Zyh))))))))))))
def Zqm := l1 (l1 (l2 (l2 (l1 (l2 (l2 (l2 (l2 (l2 (l2 (l2 (l1 (l2 (l1 (l2 Zyh)))))))))))))))
def Zkz := l2 (l2 Zqm)
def Zus (m0 : Nat) : Kont := kret PP HH 44 Tryd.f44.results
def ZGW := kseq HH 44 m0 Zuw (exec PP HH 44 m0 EE LL Zuw (Zus m0)) (Zus m0)
def ZB3 := kblk 0 (ZGW m0)
def Zut := kblk 1 (ZB3 m0)
def Zuu := kblk 3 (ZB3 m0)
def ZGX := kloop HH 44 m0 Zql (LL 44 m0 Zql (Zut m0)) (Zut m0)
def Zqk := kloop HH 44 m0 Zqm (LL 44 m0 Zqm (Zuu m0)) (Zuu m0)
def ZGY := kseq HH 44 m0 (l2 Zkz) (exec PP HH 44 m0 EE LL (l2 Zkz) (Zqk m0)) (Zqk m0)
def ZB4 := kblk 4 (ZGY m0)
def ZmO := lp (LL 44 m0 Zql (Zut m0) [(2, x2), (3, x3), (23, x23), (24, x24), (25, x25)] B)
def Zky := lp (LL 44 m0 Zqm (Zuu m0) [(2, x2), (3, x3), (45, x45), (46, x46), (47, x47)] B)
def ZiD := exec PP HH 44 m0 EE LL Zuw (Zus m0) [(2, x2), (3, x3)] B
def Zuv := exec PP HH 44 m0 EE LL (l2 (l2 Zql)) (ZGX m0) [(2, x2), (3, x3), (23, x23), (24, x24), (25, x25)] B
def ZrR := exec PP HH 44 m0 EE LL Zkz (Zqk m0) [(2, x2), (3, x3), (45, x45), (46, x46), (47, x47)] B
def ZnZ := exec PP HH 44 m0 EE LL (l1 (l2 (l2 (l2 (l2 (l1 (l1 Zkz))))))) (ZB4 m0) [(2, x2), (45, x45), (46, x46), (47, x47)] B
def ZrS := exec PP HH 44 m0 EE LL (l2 (l2 (l2 (l2 (l2 (l1 (l1 Zkz))))))) (ZB4 m0) [(2, x2), (3, x3), (11, x11), (45, x45), (46, x46), (47, x47)] B
def Zo0 := exec PP HH 44 m0 EE LL (l2 Zkz) (Zqk m0) [(2, x2), (3, x3), (45, x45), (46, x46), (47, x47)] B
theorem ZB5 : ZmO m0 x2 x3 x23 x24 x25 B =
 mk (ob (xbin PP .lss 3 x25 x24) fun a =>
 asB a fun b => br b (Zuv m0 x2 x3 x23 x24 x25 (gcB m0 [x2, x3, x23, x24, x25] B))
 (ZiD m0 x2 x3 (gcB m0 [x2, x3] B))) := lq_ (by kernel_rfl)
theorem Zyi : Zky m0 x2 x3 x45 x46 x47 B =
 mk (ob (xbin PP .lss 3 x47 x46) fun a =>
 asB a fun b => br b (ZrR m0 x2 x3 x45 x46 x47 (gcB m0 [x2, x3, x45, x46, x47] B))
 (ZiD m0 x2 x3 (gcB m0 [x2, x3] B))) := lq_ (by kernel_rfl)
theorem Zyn : ZiD m0 x2 x3 B =
 mk (Z5d (shr (shr x2)) (shr (shr x3)) B) := by kernel_rfl
theorem ZB6 : Zuv m0 x2 x3 x23 x24 x25 B =
 mk (ob (xidx 7 x23 x25) fun a =>
 ob (ldN true 7 a B) fun b =>
 bz PP 31 B fun c d =>
 stN 7 c b d fun e =>
 mk (ob (ldN true 7 c e) fun f =>
 callS false EE 44 [f] e fun g h =>
 ob (xext 0 (shr g)) fun i =>
 ob (xext 1 (shr g)) fun j =>
 mk (ob (xbin PP .add 3 (shr x2) (shr (shr (shr i)))) fun k =>
 ob (Z7I PP false [k, (iv 1048576)]) fun l =>
 callS false EE 60 [(shr x3), (shr (shr (shr j)))] h fun n o =>
 mk (ob (xbin PP .add 3 x25 (iv 1)) fun p =>
 ZmO m0 (shr l) (shr n) x23 x24 (shr p) (gcB m0 [(shr l), (shr n), x23, x24, (shr p)] o))))) := by kernel_rfl
theorem Zyj : ZrR m0 x2 x3 x45 x46 x47 B =
 mk (ob (xidx 7 x45 x47) fun a =>
 ob (ldN true 7 a B) fun b =>
 bz PP 31 B fun c d =>
 stN 7 c b d fun e =>
 mk (ob (ldN true 7 c e) fun f =>
 callS false EE 44 [f] e fun g h =>
 ob (xext 0 (shr g)) fun i =>
 ob (xext 1 (shr g)) fun j =>
 mk (ob (Z7I PP false [(shr x2), (shr (shr (shr i)))]) fun k =>
 mk (ob (xbin PP .lss 3 (shr (shr (shr j))) (iv 0)) fun l =>
 asB (shr l) fun n => br n (ZnZ m0 (shr k) x45 x46 x47 (gcB m0 [(shr k), x45, x46, x47] h))
 (ob (xbin PP .lss 3 (shr x3) (iv 0)) fun o =>
 asB (shr o) fun p => br p (ZnZ m0 (shr k) x45 x46 x47 (gcB m0 [(shr k), x45, x46, x47] h))
 (ZrS m0 (shr k) x3 (shr (shr j)) x45 x46 x47 (gcB m0 [(shr k), x3, (shr (shr j)), x45, x46, x47] h))))))) := by kernel_rfl
theorem Zyk : ZnZ m0 x2 x45 x46 x47 B =
 mk (Zo0 m0 x2 (iv (-1)) x45 x46 x47 (gcB m0 [x2, (iv (-1)), x45, x46, x47] B)) := by kernel_rfl
theorem Zyl : ZrS m0 x2 x3 x11 x45 x46 x47 B =
 mk (ob (Z7I PP true [(shr x3), (shr x11)]) fun a =>
 Zo0 m0 x2 (shr a) x45 x46 x47 (gcB m0 [x2, (shr a), x45, x46, x47] B)) := by kernel_rfl
theorem Zym : Zo0 m0 x2 x3 x45 x46 x47 B =
 mk (ob (xbin PP .add 3 x47 (iv 1)) fun a =>
 Zky m0 x2 x3 x45 x46 (shr a) (gcB m0 [x2, x3, x45, x46, (shr a)] B)) := by kernel_rfl
theorem ZGV : EE 44 [x0] B =
 (let m0 := B.length
 mk (bx x0 B fun a b =>
 mk (ob (xfld 0 a) fun c =>
 ob (ldN false 1 c b) fun d =>
 mk (ob (xbin PP .eql 3 d (iv 1)) fun e =>
 asB (shr e) fun f => br f (mk (Z5d (iv 1) (iv 1) b))
 (mk (ob (xbin PP .eql 3 d (iv 6)) fun g =>
 asB (shr g) fun h => br h (mk (Z5d (iv 0) (iv (-1)) b))
 (mk (ob (xbin PP .eql 3 d (iv 2)) fun i =>
 asB (shr i) fun j => br j (mk (ob (xfld 6 a) fun k =>
 ob (ldN false 1 k b) fun l =>
 ob (xlen PP 29 l) fun n =>
 ZmO m0 (iv 0) (iv 0) l n (iv 0) (gcB m0 [(iv 0), (iv 0), l, n, (iv 0)] b)))
 (mk (ob (xbin PP .eql 3 d (iv 3)) fun o =>
 asB (shr o) fun p => br p (mk (mk (ob (xfld 6 a) fun q =>
 ob (ldN false 1 q b) fun r =>
 ob (xlen PP 29 r) fun s =>
 Zky m0 (iv 1048576) (iv 0) r s (iv 0) (gcB m0 [(iv 1048576), (iv 0), r, s, (iv 0)] b))))
 (mk (ob (xbin PP .eql 3 d (iv 4)) fun t =>
 asB (shr t) fun u => br u (mk (ob (xfld 6 a) fun v =>
 ob (ldN false 1 v b) fun w =>
 ob (xidx 7 w (iv 0)) fun x =>
 ob (ldN true 7 x b) fun y =>
 callS false EE 44 [y] b fun z A =>
 ob (xext 0 (shr z)) fun C =>
 ob (xext 1 (shr z)) fun D =>
 mk (ob (xfld 1 a) fun F =>
 ob (ldN false 1 F A) fun G =>
 ob (xbin PP .mul 3 (shr (shr (shr C))) G) fun I =>
 ob (Z7I PP false [I, (iv 1048576)]) fun J =>
 ob (xfld 2 a) fun M =>
 ob (ldN false 1 M A) fun N =>
 callS false EE 61 [(shr (shr (shr D))), N] A fun O Q =>
 grd (Zl2 [O, (shr (shr (shr D))), N]) (Z5d (shr J) (shr O) Q))))
 (mk (ob (xbin PP .eql 3 d (iv 5)) fun R =>
 asB (shr R) fun S => br S (asB (shr R) fun T => br T (mk (ob (xfld 6 a) fun U =>
 ob (ldN false 1 U b) fun V =>
 ob (xidx 7 V (iv 0)) fun W =>
 ob (ldN true 7 W b) fun Y =>
 callS false EE 44 [Y] b fun Z a0 =>
 ob (xext 0 Z) fun a1 =>
 ob (xext 1 Z) fun a2 =>
 Z5d (shr (shr a1)) (shr (shr a2)) a0))
 (ZiD m0 (iv 0) (iv 0) (gcB m0 [(iv 0), (iv 0)] b)))
 (mk (ob (xbin PP .eql 3 d (iv 8)) fun a3 =>
 asB (shr a3) fun a4 => br a4 (mk (ob (xfld 6 a) fun a5 =>
 ob (ldN false 1 a5 b) fun a6 =>
 ob (xidx 7 a6 (iv 0)) fun a7 =>
 ob (ldN true 7 a7 b) fun a8 =>
 callS false EE 44 [a8] b fun a9 a10 =>
 ob (xext 0 a9) fun a11 =>
 ob (xext 1 a9) fun a12 =>
 Z5d (shr (shr a11)) (shr (shr a12)) a10))
 (ZiD m0 (iv 0) (iv 0) (gcB m0 [(iv 0), (iv 0)] b)))))))))))))))))) := (E_eq PP XX HH _ _ _).trans (by kernel_rfl)
theorem ZGZ : EE 45 [x0, x1] B =
 (let m0 := B.length
 mk (ob (ldN false 1 x0 B) fun a =>
 ob (xfld 6 x1) fun b =>
 ob (ldN false 1 b B) fun c =>
 ob (xidx 7 c (iv 0)) fun d =>
 ob (ldN true 7 d B) fun e =>
 callS false EE 29 [a, e] B fun f g =>
 Z4R g)) := (E_eq PP XX HH _ _ _).trans (by kernel_rfl)
theorem ZH0 : EE 46 [x0, x1] B =
 (let m0 := B.length
 mk (ob (ldN false 1 x0 B) fun a =>
 ob (xfld 6 x1) fun b =>
 ob (ldN false 1 b B) fun c =>
 ob (xidx 7 c (iv 0)) fun d =>
 ob (ldN true 7 d B) fun e =>
 callS false EE 29 [a, e] B fun f g =>
 Z4R g)) := (E_eq PP XX HH _ _ _).trans (by kernel_rfl)
def ZIr := Z2A Tryd.f47
def ZH2 (m0 : Nat) : Kont := kret PP HH 47 Tryd.f47.results
def Zux := exec PP HH 47 m0 EE LL (l2 (l2 ZIr)) (ZH2 m0) [(0, x0)] B
theorem ZB7 : Zux m0 x0 B =
 mk (ob (Z1E (shr x0)) fun a =>
 ob (xfld 0 a) fun b =>
 ob (ldN false 1 b B) fun c =>
 ob (Z1E (shr x0)) fun d =>
 ob (xfld 1 d) fun e =>
 ob (ldN false 1 e B) fun f =>
 callS false EE 62 [c, f] B fun g h =>
 ob (xext 0 (shr g)) fun i =>
 ob (xext 1 (shr g)) fun j =>
 mk (Z1F (shr (shr (shr (shr i)))) h)) := by kernel_rfl
theorem ZH1 : EE 47 [x0] B =
 (let m0 := B.length
 mk (mk (ob (Z1E (shr x0)) fun a =>
 ob (xfld 1 a) fun b =>
 ob (ldN false 1 b B) fun c =>
 ob (Z1E (shr x0)) fun d =>
 ob (xfld 0 d) fun e =>
 ob (ldN false 1 e B) fun f =>
 ob (xlen PP 54 f) fun g =>
 ob (xbin PP .geq 3 c g) fun h =>
 asB h fun i => br i (mk (Z1F (iv (-1)) B))
 (Zux m0 x0 (gcB m0 [x0] B))))) := (E_eq PP XX HH _ _ _).trans (by kernel_rfl)
def ZIs := Z2A Tryd.f48
def Z6x (r0 r1 : AV) (B : List Row) : Option Res :=
 ob (ob (ldN true 7 r0 B) fun v => ob (ob (some r1) fun v => ob (some []) fun vs => some (v :: vs)) fun vs => some (v :: vs)) fun vs => some ((nrmA (match vs with | [v] => v | vs => Z9e (vs.map shr))), B)
def ZH4 (m0 : Nat) : Kont := kret PP HH 48 Tryd.f48.results
def Z8I := exec PP HH 48 m0 EE LL (l2 (l2 (l2 ZIs))) (ZH4 m0) [(2, x2)] B
theorem Zyo : Z8I m0 x2 B =
 mk (ob (Z1D PP 31 []) fun a =>
 stN 7 x2 a B fun b =>
 Z6x x2 (bv true) b) := by kernel_rfl
theorem ZH3 : EE 48 [x0] B =
 (let m0 := B.length
 mk (bz PP 31 B fun a b =>
 mk (ob (Z1E (shr x0)) fun c =>
 ob (xfld 1 c) fun d =>
 ob (ldN false 1 d b) fun e =>
 mk (callS false EE 63 [(shr x0)] b fun f g =>
 mk (mk (ob (xbin PP .eql 3 (shr (shr f)) (iv 46)) fun h =>
 asB (shr h) fun i => br i (mk (callS false EE 65 [(iv 10)] g fun j k =>
 ob (xlit PP 27 1 [(0, j)]) fun l =>
 callS false EE 64 [(bv true), l] k fun n o =>
 stN 7 a n o fun p =>
 Z6x a (bv true) p))
 (mk (ob (xbin PP .eql 3 (shr (shr f)) (iv 94)) fun q =>
 asB (shr q) fun r => br r (mk (ob (Z1D PP 31 [(0, (iv 9)), (4, (iv 0))]) fun s =>
 stN 7 a s g fun t =>
 Z6x a (bv false) t))
 (mk (ob (xbin PP .eql 3 (shr (shr f)) (iv 36)) fun u =>
 asB (shr u) fun v => br v (mk (ob (Z1D PP 31 [(0, (iv 9)), (4, (iv 1))]) fun w =>
 stN 7 a w g fun x =>
 Z6x a (bv false) x))
 (mk (ob (xbin PP .eql 3 (shr (shr f)) (iv 92)) fun y =>
 asB (shr y) fun z => br z (mk (callS false EE 66 [(shr x0), (shr (shr e))] g fun A C =>
 bz PP 31 C fun D F =>
 stN 7 D A F fun G =>
 mk (ob (ldN true 7 D G) fun I =>
 ob (xfld 0 D) fun J =>
 ob (ldN false 1 J G) fun M =>
 ob (xbin PP .neq 3 M (iv 9)) fun N =>
 stN 7 a I G fun O =>
 grd (ZbG J a) (Z6x a (shr N) O))))
 (mk (ob (xbin PP .eql 3 (shr (shr f)) (iv 91)) fun Q =>
 asB (shr Q) fun R => br R (mk (callS false EE 67 [(shr x0), (shr (shr e))] g fun S T =>
 stN 7 a S T fun U =>
 Z6x a (bv true) U))
 (mk (ob (xbin PP .eql 3 (shr (shr f)) (iv 40)) fun V =>
 asB (shr V) fun W => br W (mk (callS false EE 68 [(shr x0), (shr (shr e))] g fun Y Z =>
 ob (xext 0 Y) fun a0 =>
 ob (xext 1 Y) fun a1 =>
 stN 7 a (shr a0) Z fun a2 =>
 Z6x a (shr (shr a1)) a2))
 (mk (ob (xbin PP .eql 3 (shr (shr f)) (iv 42)) fun a3 =>
 asB (shr a3) fun a4 => br a4 (asB (shr a3) fun a5 => br a5 (mk (callS false EE 21 [(shr x0), (iv 23), (shr (shr e))] g fun a6 a7 =>
 Z8I m0 a (gcB m0 [a] a7)))
 (mk (ob (xbin PP .eql 3 (shr (shr f)) (iv 93)) fun a8 =>
 asB (shr a8) fun a9 => br a9 (asB (shr a8) fun a10 => br a10 (mk (callS false EE 21 [(shr x0), (iv 20), (shr (shr e))] g fun a11 a12 =>
 Z8I m0 a (gcB m0 [a] a12)))
 (mk (callS false EE 65 [(shr (shr f))] g fun a13 a14 =>
 ob (xlit PP 27 1 [(0, a13)]) fun a15 =>
 callS false EE 64 [(bv false), a15] a14 fun a16 a17 =>
 stN 7 a a16 a17 fun a18 =>
 Z6x a (bv true) a18)))
 (mk (ob (xbin PP .eql 3 (shr (shr f)) (iv 125)) fun a19 =>
 asB (shr a19) fun a20 => br a20 (mk (callS false EE 21 [(shr x0), (iv 20), (shr (shr e))] g fun a21 a22 =>
 Z8I m0 a (gcB m0 [a] a22)))
 (mk (callS false EE 65 [(shr (shr f))] g fun a23 a24 =>
 ob (xlit PP 27 1 [(0, a23)]) fun a25 =>
 callS false EE 64 [(bv false), a25] a24 fun a26 a27 =>
 stN 7 a a26 a27 fun a28 =>
 Z6x a (bv true) a28)))))))
 (mk (ob (xbin PP .eql 3 (shr (shr f)) (iv 43)) fun a29 =>
 asB (shr a29) fun a30 => br a30 (asB (shr a29) fun a31 => br a31 (mk (callS false EE 21 [(shr x0), (iv 23), (shr (shr e))] g fun a32 a33 =>
 Z8I m0 a (gcB m0 [a] a33)))
 (mk (ob (xbin PP .eql 3 (shr (shr f)) (iv 93)) fun a34 =>
 asB (shr a34) fun a35 => br a35 (asB (shr a34) fun a36 => br a36 (mk (callS false EE 21 [(shr x0), (iv 20), (shr (shr e))] g fun a37 a38 =>
 Z8I m0 a (gcB m0 [a] a38)))
 (mk (callS false EE 65 [(shr (shr f))] g fun a39 a40 =>
 ob (xlit PP 27 1 [(0, a39)]) fun a41 =>
 callS false EE 64 [(bv false), a41] a40 fun a42 a43 =>
 stN 7 a a42 a43 fun a44 =>
 Z6x a (bv true) a44)))
 (mk (ob (xbin PP .eql 3 (shr (shr f)) (iv 125)) fun a45 =>
 asB (shr a45) fun a46 => br a46 (mk (callS false EE 21 [(shr x0), (iv 20), (shr (shr e))] g fun a47 a48 =>
 Z8I m0 a (gcB m0 [a] a48)))
 (mk (callS false EE 65 [(shr (shr f))] g fun a49 a50 =>
 ob (xlit PP 27 1 [(0, a49)]) fun a51 =>
 callS false EE 64 [(bv false), a51] a50 fun a52 a53 =>
 stN 7 a a52 a53 fun a54 =>
 Z6x a (bv true) a54)))))))
 (mk (ob (xbin PP .eql 3 (shr (shr f)) (iv 63)) fun a55 =>
 asB (shr a55) fun a56 => br a56 (asB (shr a55) fun a57 => br a57 (mk (callS false EE 21 [(shr x0), (iv 23), (shr (shr e))] g fun a58 a59 =>
 Z8I m0 a (gcB m0 [a] a59)))
 (mk (ob (xbin PP .eql 3 (shr (shr f)) (iv 93)) fun a60 =>
 asB (shr a60) fun a61 => br a61 (asB (shr a60) fun a62 => br a62 (mk (callS false EE 21 [(shr x0), (iv 20), (shr (shr e))] g fun a63 a64 =>
 Z8I m0 a (gcB m0 [a] a64)))
 (mk (callS false EE 65 [(shr (shr f))] g fun a65 a66 =>
 ob (xlit PP 27 1 [(0, a65)]) fun a67 =>
 callS false EE 64 [(bv false), a67] a66 fun a68 a69 =>
 stN 7 a a68 a69 fun a70 =>
 Z6x a (bv true) a70)))
 (mk (ob (xbin PP .eql 3 (shr (shr f)) (iv 125)) fun a71 =>
 asB (shr a71) fun a72 => br a72 (mk (callS false EE 21 [(shr x0), (iv 20), (shr (shr e))] g fun a73 a74 =>
 Z8I m0 a (gcB m0 [a] a74)))
 (mk (callS false EE 65 [(shr (shr f))] g fun a75 a76 =>
 ob (xlit PP 27 1 [(0, a75)]) fun a77 =>
 callS false EE 64 [(bv false), a77] a76 fun a78 a79 =>
 stN 7 a a78 a79 fun a80 =>
 Z6x a (bv true) a80)))))))
 (mk (ob (xbin PP .eql 3 (shr (shr f)) (iv 123)) fun a81 =>
 asB (shr a81) fun a82 => br a82 (mk (callS false EE 21 [(shr x0), (iv 23), (shr (shr e))] g fun a83 a84 =>
 Z8I m0 a (gcB m0 [a] a84)))
 (mk (ob (xbin PP .eql 3 (shr (shr f)) (iv 93)) fun a85 =>
 asB (shr a85) fun a86 => br a86 (asB (shr a85) fun a87 => br a87 (mk (callS false EE 21 [(shr x0), (iv 20), (shr (shr e))] g fun a88 a89 =>
 Z8I m0 a (gcB m0 [a] a89)))
 (mk (callS false EE 65 [(shr (shr f))] g fun a90 a91 =>
 ob (xlit PP 27 1 [(0, a90)]) fun a92 =>
 callS false EE 64 [(bv false), a92] a91 fun a93 a94 =>
 stN 7 a a93 a94 fun a95 =>
 Z6x a (bv true) a95)))
 (mk (ob (xbin PP .eql 3 (shr (shr f)) (iv 125)) fun a96 =>
 asB (shr a96) fun a97 => br a97 (mk (callS false EE 21 [(shr x0), (iv 20), (shr (shr e))] g fun a98 a99 =>
 Z8I m0 a (gcB m0 [a] a99)))
 (mk (callS false EE 65 [(shr (shr f))] g fun a100 a101 =>
 ob (xlit PP 27 1 [(0, a100)]) fun a102 =>
 callS false EE 64 [(bv false), a102] a101 fun a103 a104 =>
 stN 7 a a103 a104 fun a105 =>
 Z6x a (bv true) a105)))))))))))))))))))))))))))))) := (E_eq PP XX HH _ _ _).trans (by kernel_rfl)
def ZIt := Z2A Tryd.f49
def Zuz := l2 (l2 (l2 (l2 ZIt)))
def Zuy (m0 : Nat) : Kont := kret PP HH 49 Tryd.f49.results
def ZiE := exec PP HH 49 m0 EE LL Zuz (Zuy m0) [(0, x0), (2, x2), (6, x6), (7, x7), (8, x8)] B
def Zo1 := exec PP HH 49 m0 EE LL (l2 Zuz) (Zuy m0) [(0, x0), (6, x6), (8, x8)] B
def ZkA := exec PP HH 49 m0 EE LL (l2 (l2 Zuz)) (Zuy m0) [(6, x6), (8, x8)] B
theorem Zyp : ZiE m0 x0 x2 x6 x7 x8 B =
 mk (ob (xun PP .not (shr x2)) fun a =>
 asB a fun b => br b (mk (callS false EE 21 [(shr x0), (iv 23), (shr x7)] B fun c d =>
 Zo1 m0 x0 x6 x8 (gcB m0 [x0, x6, x8] d)))
 (Zo1 m0 x0 x6 x8 (gcB m0 [x0, x6, x8] B))) := by kernel_rfl
theorem Zyq : Zo1 m0 x0 x6 x8 B =
 mk (callS false EE 19 [(shr x0), (.p (.v (.string (ByteArray.mk #[63]))))] B fun a b =>
 asB (shr a) fun c => br c (mk (ob (xfld 3 x8) fun d =>
 stN 1 d (iv 1) b fun e =>
 ZkA m0 x6 x8 (gcB m0 [x6, x8] e)))
 (mk (callS false EE 19 [(shr x0), (.p (.v (.string (ByteArray.mk #[43]))))] b fun f g =>
 asB (shr f) fun h => br h (mk (ob (xfld 3 x8) fun i =>
 stN 1 i (iv 2) g fun j =>
 ZkA m0 x6 x8 (gcB m0 [x6, x8] j)))
 (ZkA m0 x6 x8 (gcB m0 [x6, x8] g))))) := by kernel_rfl
theorem Zyr : ZkA m0 x6 x8 B =
 mk (ob (ldN true 7 x8 B) fun a =>
 stN 7 x6 a B fun b =>
 Z7F x6 b) := by kernel_rfl
theorem ZH5 : EE 49 [x0, x1, x2] B =
 (let m0 := B.length
 mk (bx x1 B fun a b =>
 bz PP 31 b fun c d =>
 mk (ob (Z1E (shr x0)) fun e =>
 ob (xfld 1 e) fun f =>
 ob (ldN false 1 f d) fun g =>
 mk (ob (ldN true 7 a d) fun h =>
 ob (xlit PP 29 1 [(0, h)]) fun i =>
 ob (Z1D PP 31 [(0, (iv 4)), (2, (iv (-1))), (6, i)]) fun j =>
 bz PP 31 d fun k l =>
 stN 7 k j l fun n =>
 mk (callS false EE 19 [(shr x0), (.p (.v (.string (ByteArray.mk #[42]))))] n fun o q =>
 asB (shr o) fun r => br r (ZiE m0 x0 x2 c (shr g) k (gcB m0 [x0, x2, c, (shr g), k] q))
 (mk (callS false EE 19 [(shr x0), (.p (.v (.string (ByteArray.mk #[43]))))] q fun s t =>
 asB (shr s) fun u => br u (mk (ob (xfld 1 k) fun w =>
 stN 1 w (iv 1) t fun x =>
 ZiE m0 x0 x2 c (shr g) k (gcB m0 [x0, x2, c, (shr g), k] x)))
 (mk (callS false EE 19 [(shr x0), (.p (.v (.string (ByteArray.mk #[63]))))] t fun y z =>
 asB (shr y) fun A => br A (mk (ob (xfld 2 k) fun C =>
 stN 1 C (iv 1) z fun D =>
 ZiE m0 x0 x2 c (shr g) k (gcB m0 [x0, x2, c, (shr g), k] D)))
 (mk (callS false EE 19 [(shr x0), (.p (.v (.string (ByteArray.mk #[123]))))] z fun F G =>
 asB (shr F) fun I => br I (mk (callS false EE 69 [(shr x0), (shr (shr g))] G fun J M =>
 ob (xext 0 (shr J)) fun N =>
 ob (xext 1 (shr J)) fun O =>
 ob (xfld 1 k) fun Q =>
 stN 1 Q (shr N) M fun R =>
 ob (xfld 2 k) fun S =>
 stN 1 S (shr O) R fun T =>
 ZiE m0 x0 x2 c (shr g) k (gcB m0 [x0, x2, c, (shr g), k] T)))
 (mk (ob (ldN true 7 a G) fun U =>
 stN 7 c U G fun V =>
 Z7F c V))))))))))))) := (E_eq PP XX HH _ _ _).trans (by kernel_rfl)
def ZEH := Z2A Tryd.f50
def ZuJ := l2 (l2 ZEH)
def Zqp := l1 (l1 (l2 (l1 (l2 ZEH))))
def ZBm := l2 (l2 Zqp)
def ZuE (m0 : Nat) : Kont := kret PP HH 50 Tryd.f50.results
def ZH7 := kseq HH 50 m0 ZuJ (exec PP HH 50 m0 EE LL ZuJ (ZuE m0)) (ZuE m0)
def ZuF := kblk 0 (ZH7 m0)
def ZBh := kloop HH 50 m0 Zqp (LL 50 m0 Zqp (ZuF m0)) (ZuF m0)
def ZmQ := lp (LL 50 m0 Zqp (ZuF m0) [(0, x0), (1, x1), (7, x7), (8, x8)] B)
def ZuG := exec PP HH 50 m0 EE LL ZBm (ZBh m0) [(0, x0), (1, x1), (7, x7), (8, x8)] B
def ZuI := exec PP HH 50 m0 EE LL ZuJ (ZuE m0) [] B
def ZuH := exec PP HH 50 m0 EE LL (l2 ZBm) (ZBh m0) [(0, x0), (1, x1), (7, x7), (8, x8)] B
theorem ZBi : ZmQ m0 x0 x1 x7 x8 B =
 mk (ob (xbin PP .lss 3 x8 x7) fun a =>
 asB a fun b => br b (ZuG m0 x0 x1 x7 x8 (gcB m0 [x0, x1, x7, x8] B))
 (ZuI m0 (gcB m0 [] B))) := lq_ (by kernel_rfl)
theorem ZBj : ZuG m0 x0 x1 x7 x8 B =
 mk (mk (ob (xidx 2 (shr x0) (shr (shr (shr x8)))) fun a =>
 ob (ldN true 2 a B) fun b =>
 callV HH EE (shr x1) [b] B fun c d =>
 asB c fun e => br e (mk (Z1F (shr (shr (shr (shr x8)))) d))
 (ZuH m0 x0 x1 x7 x8 (gcB m0 [x0, x1, x7, x8] d)))) := by kernel_rfl
theorem ZBl : ZuI m0 B =
 mk (Z1F (iv (-1)) B) := by kernel_rfl
theorem ZBk : ZuH m0 x0 x1 x7 x8 B =
 mk (ob (xbin PP .add 3 x8 (iv 1)) fun a =>
 ZmQ m0 x0 x1 x7 (shr a) (gcB m0 [x0, x1, x7, (shr a)] B)) := by kernel_rfl
theorem ZH6 : EE 50 [x0, x1] B =
 (let m0 := B.length
 mk (mk (ob (xlen PP 28 (shr x0)) fun a =>
 ZmQ m0 x0 x1 a (iv 0) (gcB m0 [x0, x1, a, (iv 0)] B)))) := (E_eq PP XX HH _ _ _).trans (by kernel_rfl)
theorem ZH8 : EE 55 [x0, x1] B =
 (let m0 := B.length
 mk (mk (callS false EE 73 [(shr x0), (shr x1)] B fun a b =>
 ob (xbin PP .geq 3 a (iv 0)) fun c =>
 Z1F (shr c) b))) := (E_eq PP XX HH _ _ _).trans (by kernel_rfl)
theorem ZH9 : EE 56 [x0] B =
 (let m0 := B.length
 mk (bx x0 B fun a b =>
 mk (ob (ldN true 7 a b) fun c =>
 callS false EE 38 [c] b fun d e =>
 ob (xun PP .not d) fun f =>
 Z1F (shr f) e))) := (E_eq PP XX HH _ _ _).trans (by kernel_rfl)
def ZIA := Z2A Tryd.f58
def ZHb (m0 : Nat) : Kont := kret PP HH 58 Tryd.f58.results
def Zqq := exec PP HH 58 m0 EE LL (l2 ZIA) (ZHb m0) [(0, x0), (1, x1), (2, x2), (3, x3)] B
theorem ZBn : Zqq m0 x0 x1 x2 x3 B =
 mk (ob (ncA (shr (Z2d x0))) fun a =>
 ob (flA 0 a) fun b =>
 ob (alA false b B) fun c =>
 ob (ncA (shr (Z2d x0))) fun d =>
 ob (flA 0 d) fun e =>
 ob (alA false e B) fun f =>
 ob (ixA 6 c (shr (Z2d x1))) fun g =>
 ob (flA 1 g) fun h =>
 ob (stEl 1 h (shr (Z2d x2)) B) fun i =>
 ob (ixA 6 f (shr (Z2d x1))) fun j =>
 ob (flA 2 j) fun k =>
 ob (stEl 1 k (shr (Z2d x3)) i) fun l =>
 Z4R l) := by kernel_rfl
theorem ZHa : EE 58 [x0, x1, x2, x3, x4] B =
 (let m0 := B.length
 mk (asB (shr x4) fun a => br a (mk (Zqq m0 x0 x1 (shr (shr x3)) (shr (shr x2)) (gcB m0 [x0, x1, (shr (shr x3)), (shr (shr x2))] B)))
 (Zqq m0 x0 x1 x2 x3 (gcB m0 [x0, x1, x2, x3] B)))) := (E_eq PP XX HH _ _ _).trans (by kernel_rfl)
theorem ZHc : EE 59 [x0, x1, x2] B =
 (let m0 := B.length
 mk (bx x1 B fun a b =>
 mk (ob (Z1D PP 40 [(0, (iv 3))]) fun c =>
 callS false EE 28 [(shr x0), c] b fun d e =>
 mk (ob (Z1E (shr x0)) fun f =>
 ob (xfld 2 f) fun g =>
 ob (ldN false 1 g e) fun h =>
 mk (ob (Z1E (shr x0)) fun i =>
 ob (xfld 2 i) fun j =>
 ob (ldN false 1 j e) fun k =>
 ob (xbin PP .add 3 k (iv 1)) fun l =>
 ob (Z1E (shr x0)) fun n =>
 ob (xfld 2 n) fun o =>
 stN 1 o l e fun p =>
 mk (ob (Z1D PP 40 [(0, (iv 10)), (1, (shr (shr h)))]) fun q =>
 callS false EE 28 [(shr x0), q] p fun r s =>
 mk (ob (ldN true 7 a s) fun t =>
 callS false EE 29 [(shr x0), t] s fun u v =>
 mk (ob (Z1D PP 40 [(0, (iv 11)), (1, (shr (shr h)))]) fun w =>
 callS false EE 28 [(shr x0), w] v fun x y =>
 mk (ob (Z1D PP 40 [(0, (iv 2)), (1, (shr (shr d)))]) fun z =>
 callS false EE 28 [(shr x0), z] y fun A C =>
 mk (ob (xbin PP .add 3 (shr (shr d)) (iv 1)) fun D =>
 ob (Z1E (shr x0)) fun F =>
 ob (xfld 0 F) fun G =>
 ob (ldN false 1 G C) fun I =>
 ob (xlen PP 23 I) fun J =>
 callS false EE 58 [(shr x0), (shr (shr d)), D, J, (shr x2)] C fun M N =>
 Z4R N)))))))))) := (E_eq PP XX HH _ _ _).trans (by kernel_rfl)
def ZEI := Z2A Tryd.f60
def ZuM := l2 (l2 ZEI)
def ZuK (m0 : Nat) : Kont := kret PP HH 60 Tryd.f60.results
def ZHe := kseq HH 60 m0 ZuM (exec PP HH 60 m0 EE LL ZuM (ZuK m0)) (ZuK m0)
def Zqr := exec PP HH 60 m0 EE LL (l1 (l2 (l1 (l2 ZEI)))) (ZHe m0) [] B
def ZuL := exec PP HH 60 m0 EE LL ZuM (ZuK m0) [(0, x0), (1, x1)] B
theorem ZBo : Zqr m0 B =
 mk (Z1F (iv (-1)) B) := by kernel_rfl
theorem ZBp : ZuL m0 x0 x1 B =
 mk (ob (xbin PP .add 3 (shr x0) (shr x1)) fun a =>
 callS false EE 75 [a] B fun b c =>
 Z1F (shr b) c) := by kernel_rfl
theorem ZHd : EE 60 [x0, x1] B =
 (let m0 := B.length
 mk (mk (ob (xbin PP .lss 3 (shr x0) (iv 0)) fun a =>
 asB (shr a) fun b => br b (Zqr m0 (gcB m0 [] B))
 (ob (xbin PP .lss 3 (shr x1) (iv 0)) fun c =>
 asB (shr c) fun d => br d (Zqr m0 (gcB m0 [] B))
 (ZuL m0 x0 x1 (gcB m0 [x0, x1] B)))))) := (E_eq PP XX HH _ _ _).trans (by kernel_rfl)
def Zyw := Z2A Tryd.f61
def ZuR := l2 (l2 Zyw)
def ZBu := l2 (l2 (l1 (l1 (l2 Zyw))))
def ZuN (m0 : Nat) : Kont := kret PP HH 61 Tryd.f61.results
def ZHg := kseq HH 61 m0 ZuR (exec PP HH 61 m0 EE LL ZuR (ZuN m0)) (ZuN m0)
def ZuO := kblk 0 (ZHg m0)
def Zqs := exec PP HH 61 m0 EE LL (l1 (l2 (l1 (l1 (l2 Zyw))))) (ZuO m0) [] B
def ZuP := exec PP HH 61 m0 EE LL ZBu (ZuO m0) [(0, x0), (1, x1)] B
def Zqt := exec PP HH 61 m0 EE LL (l1 (l2 ZBu)) (ZuO m0) [] B
def ZuQ := exec PP HH 61 m0 EE LL ZuR (ZuN m0) [(0, x0), (1, x1)] B
theorem ZBq : Zqs m0 B =
 mk (Z1F (iv 0) B) := by kernel_rfl
theorem ZBr : ZuP m0 x0 x1 B =
 mk (ob (xbin PP .lss 3 (shr x0) (iv 0)) fun a =>
 asB (shr a) fun b => br b (Zqt m0 (gcB m0 [] B))
 (ob (xbin PP .lss 3 (shr x1) (iv 0)) fun c =>
 asB (shr (shr c)) fun d => br d (Zqt m0 (gcB m0 [] B))
 (ZuQ m0 x0 x1 (gcB m0 [x0, x1] B)))) := by kernel_rfl
theorem ZBs : Zqt m0 B =
 mk (Z1F (iv (-1)) B) := by kernel_rfl
theorem ZBt : ZuQ m0 x0 x1 B =
 mk (ob (xbin PP .mul 3 (shr x0) (shr x1)) fun a =>
 callS false EE 75 [a] B fun b c =>
 Z1F (shr b) c) := by kernel_rfl
theorem ZHf : EE 61 [x0, x1] B =
 (let m0 := B.length
 mk (mk (ob (xbin PP .eql 3 (shr x0) (iv 0)) fun a =>
 asB (shr a) fun b => br b (Zqs m0 (gcB m0 [] B))
 (ob (xbin PP .eql 3 (shr x1) (iv 0)) fun c =>
 asB (shr (shr c)) fun d => br d (Zqs m0 (gcB m0 [] B))
 (ZuP m0 x0 x1 (gcB m0 [x0, x1] B)))))) := (E_eq PP XX HH _ _ _).trans (by kernel_rfl)
def ZEJ := Z2A Tryd.f62
def ZmR := l2 (l2 ZEJ)
def ZuU := l2 (l2 ZmR)
def ZkD (m0 : Nat) : Kont := kret PP HH 62 Tryd.f62.results
def ZHi := kseq HH 62 m0 ZmR (exec PP HH 62 m0 EE LL ZmR (ZkD m0)) (ZkD m0)
def ZHj := kseq HH 62 m0 ZuU (exec PP HH 62 m0 EE LL ZuU (ZkD m0)) (ZkD m0)
def Zqu := exec PP HH 62 m0 EE LL (l1 (l2 (l1 (l2 ZEJ)))) (ZHi m0) [] B
def ZuS := exec PP HH 62 m0 EE LL ZmR (ZkD m0) [(0, x0), (1, x1)] B
def ZuT := exec PP HH 62 m0 EE LL (l1 (l2 (l1 (l2 ZmR)))) (ZHj m0) [(0, x0), (1, x1)] B
def Zqv := exec PP HH 62 m0 EE LL ZuU (ZkD m0) [(6, x6), (7, x7)] B
theorem ZBv : Zqu m0 B =
 mk (Z5d (iv 0) (iv 0) B) := by kernel_rfl
theorem ZBw : ZuS m0 x0 x1 B =
 mk (ob (xsl 1 (shr x0) (some (shr x1)) none none) fun a =>
 callS false EE 76 [a] B fun b c =>
 ob (xext 0 (shr b)) fun d =>
 ob (xext 1 (shr b)) fun e =>
 mk (ob (xbin PP .eql 21 (shr (shr (shr d))) (kv .i32 65533)) fun f =>
 asB (shr f) fun g => br g (ob (xbin PP .eql 3 (shr (shr (shr e))) (iv 1)) fun h =>
 asB (shr h) fun i => br i (ZuT m0 x0 x1 (gcB m0 [x0, x1] c))
 (Zqv m0 (shr (shr d)) (shr (shr e)) (gcB m0 [(shr (shr d)), (shr (shr e))] c)))
 (Zqv m0 (shr (shr d)) (shr (shr e)) (gcB m0 [(shr (shr d)), (shr (shr e))] c)))) := by kernel_rfl
theorem ZBx : ZuT m0 x0 x1 B =
 mk (ob (xidx 1 (shr x0) (shr x1)) fun a =>
 ob (ldN false 1 a B) fun b =>
 ob (xcnv PP 5 3 b) fun c =>
 ob (xbin PP .add 3 (iv 1114112) c) fun d =>
 Z5d (shr d) (iv 1) B) := by kernel_rfl
theorem ZBy : Zqv m0 x6 x7 B =
 mk (ob (xcnv PP 21 3 (shr x6)) fun a =>
 Z5d (shr a) (shr (shr x7)) B) := by kernel_rfl
theorem ZHh : EE 62 [x0, x1] B =
 (let m0 := B.length
 mk (mk (ob (xbin PP .lss 3 (shr x1) (iv 0)) fun a =>
 asB (shr a) fun b => br b (Zqu m0 (gcB m0 [] B))
 (ob (xlen PP 54 (shr x0)) fun c =>
 ob (xbin PP .geq 3 (shr x1) c) fun d =>
 asB (shr d) fun e => br e (Zqu m0 (gcB m0 [] B))
 (ZuS m0 x0 x1 (gcB m0 [x0, x1] B)))))) := (E_eq PP XX HH _ _ _).trans (by kernel_rfl)
theorem ZHk : EE 63 [x0] B =
 (let m0 := B.length
 mk (mk (ob (Z1E (shr x0)) fun a =>
 ob (xfld 0 a) fun b =>
 ob (ldN false 1 b B) fun c =>
 ob (Z1E (shr x0)) fun d =>
 ob (xfld 1 d) fun e =>
 ob (ldN false 1 e B) fun f =>
 callS false EE 62 [c, f] B fun g h =>
 ob (xext 0 (shr g)) fun i =>
 ob (xext 1 (shr g)) fun j =>
 mk (ob (Z1E (shr x0)) fun k =>
 ob (xfld 1 k) fun l =>
 ob (ldN false 1 l h) fun n =>
 ob (xbin PP .add 3 n (shr (shr (shr j)))) fun o =>
 ob (Z1E (shr x0)) fun p =>
 ob (xfld 1 p) fun q =>
 stN 1 q o h fun r =>
 mk (Z1F (shr (shr (shr (shr i)))) r))))) := (E_eq PP XX HH _ _ _).trans (by kernel_rfl)
def ZIB := Z2A Tryd.f64
def ZHm (m0 : Nat) : Kont := kret PP HH 64 Tryd.f64.results
def Zqw := exec PP HH 64 m0 EE LL (l2 (l2 (l2 ZIB))) (ZHm m0) [(4, x4), (5, x5)] B
theorem ZBz : Zqw m0 x4 x5 B =
 mk (ob (Z1D PP 31 [(0, (iv 1)), (5, (shr x5))]) fun a =>
 stN 7 x4 a B fun b =>
 Z7F x4 b) := by kernel_rfl
theorem ZHl : EE 64 [x0, x1] B =
 (let m0 := B.length
 mk (bz PP 31 B fun a b =>
 mk (callS false EE 77 [(shr x1)] b fun c d =>
 ob (xext 0 (shr c)) fun e =>
 ob (xext 1 (shr c)) fun f =>
 mk (asB (shr x0) fun g => br g (mk (callS false EE 17 [(shr (shr (shr e)))] d fun h i =>
 ob (xext 0 (shr h)) fun j =>
 ob (xext 1 (shr h)) fun k =>
 Zqw m0 a (shr (shr j)) (gcB m0 [a, (shr (shr j))] i)))
 (Zqw m0 a (shr (shr e)) (gcB m0 [a, (shr (shr e))] d)))))) := (E_eq PP XX HH _ _ _).trans (by kernel_rfl)
def ZFc (r0 : AV) (B : List Row) : Option Res :=
 ob (ob (ldN true 2 r0 B) fun v => ob (some []) fun vs => some (v :: vs)) fun vs => some ((nrmA (match vs with | [v] => v | vs => Z9e (vs.map shr))), B)
theorem ZHn : EE 65 [x0] B =
 (let m0 := B.length
 mk (bz PP 47 B fun a b =>
 mk (ob (Z1D PP 47 [(0, (shr x0)), (1, (shr x0))]) fun c =>
 stN 2 a c b fun d =>
 ZFc a d))) := (E_eq PP XX HH _ _ _).trans (by kernel_rfl)
def ZIC := Z2A Tryd.f66
def ZuW := l2 (l2 (l2 ZIC))
def ZuX := l2 (l2 ZuW)
def Zqx (m0 : Nat) : Kont := kret PP HH 66 Tryd.f66.results
def ZHp := kseq HH 66 m0 ZuX (exec PP HH 66 m0 EE LL ZuX (Zqx m0)) (Zqx m0)
def ZHq := kblk 0 (ZHp m0)
def ZuV := exec PP HH 66 m0 EE LL ZuW (Zqx m0) [(0, x0), (1, x1), (4, x4), (5, x5)] B
def ZrT := exec PP HH 66 m0 EE LL (l1 (l2 (l2 (l2 (l2 (l2 (l2 (l2 (l1 (l1 (l2 ZuW))))))))))) (ZHq m0) [(0, x0), (1, x1), (4, x4), (5, x5)] B
def Zo3 := exec PP HH 66 m0 EE LL ZuX (Zqx m0) [(0, x0), (1, x1), (4, x4), (5, x5)] B
theorem ZBA : ZuV m0 x0 x1 x4 x5 B =
 mk (callS false EE 63 [(shr x0)] B fun a b =>
 mk (callS true EE 78 [(shr x5)] b fun c d =>
 ob (xnil PP .neq 27 (.slice none 0 0) c) fun e =>
 asB (shr e) fun f => br f (mk (ob (xbin PP .lss 3 (shr x5) (iv 97)) fun g =>
 callS true EE 78 [(shr x5)] d fun h i =>
 callS false EE 64 [g, h] i fun j k =>
 stN 7 x4 j k fun l =>
 Z7F x4 l))
 (mk (ob (xbin PP .eql 3 (shr x5) (iv 98)) fun n =>
 asB (shr n) fun o => br o (mk (ob (Z1D PP 31 [(0, (iv 9)), (4, (iv 2))]) fun p =>
 stN 7 x4 p d fun q =>
 Z7F x4 q))
 (mk (ob (xbin PP .eql 3 (shr x5) (iv 66)) fun r =>
 asB (shr r) fun s => br s (mk (ob (Z1D PP 31 [(0, (iv 9)), (4, (iv 3))]) fun t =>
 stN 7 x4 t d fun u =>
 Z7F x4 u))
 (mk (ob (xbin PP .geq 3 (shr x5) (iv 49)) fun v =>
 asB (shr v) fun w => br w (ob (xbin PP .leq 3 (shr x5) (iv 57)) fun x =>
 asB (shr (shr x)) fun y => br y (ZrT m0 x0 x1 x4 x5 (gcB m0 [x0, x1, x4, x5] d))
 (Zo3 m0 x0 x1 x4 x5 (gcB m0 [x0, x1, x4, x5] d)))
 (Zo3 m0 x0 x1 x4 x5 (gcB m0 [x0, x1, x4, x5] d)))))))))) := by kernel_rfl
theorem Zyx : ZrT m0 x0 x1 x4 x5 B =
 mk (ob (Z1E (shr x0)) fun a =>
 ob (xfld 4 a) fun b =>
 ldOwn b B fun c d =>
 ob (xbin PP .sub 3 (shr x5) (iv 48)) fun e =>
 ob (Z1D PP 61 [(0, e), (1, (shr x1))]) fun f =>
 ob (xlit PP 55 1 [(0, f)]) fun g =>
 ob (xapp 2 c g) fun h =>
 ob (Z1E (shr x0)) fun i =>
 ob (xfld 4 i) fun j =>
 stN 1 j h d fun k =>
 mk (ob (xbin PP .sub 3 (shr x5) (iv 48)) fun l =>
 ob (Z1D PP 31 [(0, (iv 6)), (4, l)]) fun n =>
 stN 7 x4 n k fun o =>
 Z7F x4 o)) := by kernel_rfl
theorem Zyy : Zo3 m0 x0 x1 x4 x5 B =
 mk (callS false EE 79 [(shr x0), (shr x5), (shr x1)] B fun a b =>
 callS false EE 65 [a] b fun c d =>
 ob (xlit PP 27 1 [(0, c)]) fun e =>
 callS false EE 64 [(bv false), e] d fun f g =>
 stN 7 x4 f g fun h =>
 Z7F x4 h) := by kernel_rfl
theorem ZHo : EE 66 [x0, x1] B =
 (let m0 := B.length
 mk (bz PP 31 B fun a b =>
 mk (callS false EE 47 [(shr x0)] b fun c d =>
 mk (ob (xbin PP .lss 3 (shr (shr c)) (iv 0)) fun e =>
 asB e fun f => br f (mk (callS false EE 21 [(shr x0), (iv 21), (shr x1)] d fun g h =>
 mk (ob (Z1D PP 31 []) fun i =>
 stN 7 a i h fun j =>
 Z7F a j)))
 (ZuV m0 x0 x1 a (shr c) (gcB m0 [x0, x1, a, (shr c)] d)))))) := (E_eq PP XX HH _ _ _).trans (by kernel_rfl)
def ZEK := Z2A Tryd.f67
def Zv2 := l2 (l2 (l2 (l2 (l2 (l2 ZEK)))))
def Zf9 := l1 (l1 (l1 (l2 (l2 (l2 (l2 (l2 ZEK)))))))
def ZqA := l2 (l2 (l1 (l1 (l2 Zf9))))
def ZqB := l2 (l2 ZqA)
def Zv1 := l2 (l2 ZqB)
def ZqC := l2 (l1 (l2 (l1 (l2 ZqB))))
def ZBF := l2 (l1 (l2 (l2 (l2 (l1 (l2 (l2 (l1 (l2 (l1 (l1 (l2 Zf9))))))))))))
def ZuY (m0 : Nat) : Kont := kret PP HH 67 Tryd.f67.results
def ZHs := kseq HH 67 m0 Zv2 (exec PP HH 67 m0 EE LL Zv2 (ZuY m0)) (ZuY m0)
def ZuZ := kblk 0 (ZHs m0)
def Zqy := kloop HH 67 m0 Zf9 (LL 67 m0 Zf9 (ZuZ m0)) (ZuZ m0)
def ZHt := kseq HH 67 m0 (l2 (l2 Zf9)) (exec PP HH 67 m0 EE LL (l2 (l2 Zf9)) (Zqy m0)) (Zqy m0)
def ZiV := kblk 1 (ZHt m0)
def ZHu := kseq HH 67 m0 ZqA (exec PP HH 67 m0 EE LL ZqA (ZiV m0)) (ZiV m0)
def ZBB := kblk 2 (ZHu m0)
def Zqz := kseq HH 67 m0 Zv1 (exec PP HH 67 m0 EE LL Zv1 (ZiV m0)) (ZiV m0)
def ZHv := kseq HH 67 m0 ZqC (exec PP HH 67 m0 EE LL ZqC (Zqz m0)) (Zqz m0)
def ZmS := lp (LL 67 m0 Zf9 (ZuZ m0) [(0, x0), (1, x1), (4, x4), (5, x5), (6, x6), (7, x7), (8, x8)] B)
def Zv0 := exec PP HH 67 m0 EE LL (l2 Zf9) (Zqy m0) [(0, x0), (1, x1), (4, x4), (5, x5), (6, x6), (7, x7), (8, x8)] B
def ZrX := exec PP HH 67 m0 EE LL Zv2 (ZuY m0) [(4, x4)] B
def Zcm := exec PP HH 67 m0 EE LL (l2 (l2 Zf9)) (Zqy m0) [(0, x0), (1, x1), (4, x4), (5, x5), (6, x6), (7, x7), (8, x8)] B
def ZrU := exec PP HH 67 m0 EE LL ZBF (ZBB m0) [(0, x0), (4, x4), (5, x5), (6, x6)] B
def Zo5 := exec PP HH 67 m0 EE LL ZqA (ZiV m0) [(0, x0), (1, x1), (4, x4), (5, x5), (6, x6), (7, x7), (8, x8), (9, x9)] B
def Zo4 := exec PP HH 67 m0 EE LL (l2 (l2 ZBF)) (ZBB m0) [(4, x4), (6, x6)] B
def ZrV := exec PP HH 67 m0 EE LL ZqB (ZiV m0) [(0, x0), (1, x1), (4, x4), (5, x5), (6, x6), (7, x7), (8, x8), (9, x9), (11, x11)] B
def ZiF := exec PP HH 67 m0 EE LL (l1 (l2 (l2 (l1 (l1 (l2 (l1 (l2 ZqB)))))))) (ZHv m0) [(0, x0), (1, x1), (4, x4), (5, x5), (6, x6), (7, x7), (8, x8), (9, x9)] B
def ZrW := exec PP HH 67 m0 EE LL ZqC (Zqz m0) [(0, x0), (1, x1), (4, x4), (5, x5), (6, x6), (7, x7), (8, x8), (9, x9), (11, x11)] B
def ZiG := exec PP HH 67 m0 EE LL Zv1 (ZiV m0) [(0, x0), (1, x1), (4, x4), (5, x5), (6, x6), (7, x7), (8, x8), (11, x11), (15, x15)] B
def Zo6 := exec PP HH 67 m0 EE LL (l1 (l2 (l2 ZqC))) (Zqz m0) [(0, x0), (1, x1), (4, x4), (5, x5), (6, x6), (7, x7), (8, x8), (9, x9), (11, x11), (15, x15)] B
theorem ZBC : ZmS m0 x0 x1 x4 x5 x6 x7 x8 B =
 mk (ob (Z1E (shr x0)) fun a =>
 ob (xfld 5 a) fun b =>
 ob (xfld 0 b) fun c =>
 ob (ldN false 1 c B) fun d =>
 ob (xbin PP .eql 24 d (iv 0)) fun e =>
 asB e fun f => br f (Zv0 m0 x0 x1 x4 x5 x6 x7 x8 (gcB m0 [x0, x1, x4, x5, x6, x7, x8] B))
 (ZrX m0 x4 (gcB m0 [x4] B))) := lq_ (by kernel_rfl)
theorem ZBE : Zv0 m0 x0 x1 x4 x5 x6 x7 x8 B =
 mk (ob (Z1E (shr x0)) fun a =>
 ob (xfld 1 a) fun b =>
 ob (ldN false 1 b B) fun c =>
 mk (callS false EE 47 [(shr x0)] B fun d e =>
 mk (mk (ob (xbin PP .eql 3 (shr (shr d)) (iv (-1))) fun f =>
 asB (shr f) fun g => br g (mk (callS false EE 21 [(shr x0), (iv 22), (shr x1)] e fun h i =>
 Zcm m0 x0 x1 x4 x5 x6 x7 x8 (gcB m0 [x0, x1, x4, x5, x6, x7, x8] i)))
 (mk (ob (xbin PP .eql 3 (shr (shr d)) (iv 93)) fun j =>
 asB (shr j) fun k => br k (mk (ob (xbin PP .eql 3 (shr x8) (iv 0)) fun l =>
 asB l fun n => br n (mk (callS false EE 21 [(shr x0), (iv 22), (shr x1)] e fun o p =>
 Zcm m0 x0 x1 x4 x5 x6 x7 x8 (gcB m0 [x0, x1, x4, x5, x6, x7, x8] p)))
 (ZrU m0 x0 x4 x5 x6 (gcB m0 [x0, x4, x5, x6] e))))
 (mk (ob (xbin PP .eql 3 (shr (shr d)) (iv 91)) fun q =>
 asB (shr q) fun r => br r (asB (shr q) fun s => br s (mk (callS false EE 21 [(shr x0), (iv 22), (shr (shr c))] e fun t u =>
 Zcm m0 x0 x1 x4 x5 x6 x7 x8 (gcB m0 [x0, x1, x4, x5, x6, x7, x8] u)))
 (Zo5 m0 x0 x1 x4 x5 x6 x7 x8 (shr c) (gcB m0 [x0, x1, x4, x5, x6, x7, x8, (shr c)] e)))
 (mk (ob (xbin PP .eql 3 (shr (shr d)) (iv 45)) fun v =>
 asB (shr v) fun w => br w (mk (callS false EE 21 [(shr x0), (iv 22), (shr (shr c))] e fun x y =>
 Zcm m0 x0 x1 x4 x5 x6 x7 x8 (gcB m0 [x0, x1, x4, x5, x6, x7, x8] y)))
 (Zo5 m0 x0 x1 x4 x5 x6 x7 x8 (shr c) (gcB m0 [x0, x1, x4, x5, x6, x7, x8, (shr c)] e)))))))))))) := by kernel_rfl
theorem ZyH : ZrX m0 x4 B =
 mk (ob (Z1D PP 31 []) fun a =>
 stN 7 x4 a B fun b =>
 Z7F x4 b) := by kernel_rfl
theorem ZBD : Zcm m0 x0 x1 x4 x5 x6 x7 x8 B =
 mk (ob (xbin PP .add 3 (shr x8) (iv 1)) fun a =>
 ZmS m0 x0 x1 x4 x5 x6 x7 (shr a) (gcB m0 [x0, x1, x4, x5, x6, x7, (shr a)] B)) := by kernel_rfl
theorem Zyz : ZrU m0 x0 x4 x5 x6 B =
 mk (callS false EE 63 [(shr x0)] B fun a b =>
 mk (asB (shr x5) fun c => br c (mk (ob (ldN false 1 x6 b) fun d =>
 callS false EE 17 [d] b fun e f =>
 ob (xext 0 (shr e)) fun g =>
 ob (xext 1 (shr e)) fun h =>
 stN 1 x6 (shr g) f fun i =>
 Zo4 m0 x4 x6 (gcB m0 [x4, x6] i)))
 (Zo4 m0 x4 x6 (gcB m0 [x4, x6] b)))) := by kernel_rfl
theorem ZyB : Zo5 m0 x0 x1 x4 x5 x6 x7 x8 x9 B =
 mk (callS true EE 81 [(shr x0)] B fun a b =>
 ob (xext 0 (shr a)) fun c =>
 ob (xext 1 (shr a)) fun d =>
 ob (xext 2 (shr a)) fun e =>
 mk (ob (xnil PP .neq 27 (.slice none 0 0) (shr (shr (shr d)))) fun f =>
 asB f fun g => br g (mk (callS false EE 64 [(shr (shr (shr e))), (shr (shr (shr d)))] b fun h i =>
 bz PP 31 i fun j k =>
 stN 7 j h k fun l =>
 mk (ob (xfld 5 j) fun n =>
 ob (ldN false 1 n l) fun o =>
 callV HH EE (shr x7) [o] l fun p q =>
 mk (callS false EE 47 [(shr x0)] q fun r s =>
 ob (xbin PP .eql 3 r (iv 45)) fun t =>
 asB t fun u => br u (mk (ob (Z1E (shr x0)) fun v =>
 ob (xfld 1 v) fun w =>
 ob (ldN false 1 w s) fun x =>
 callS false EE 21 [(shr x0), (iv 22), x] s fun y z =>
 Zcm m0 x0 x1 x4 x5 x6 x7 x8 (gcB m0 [x0, x1, x4, x5, x6, x7, x8] z)))
 (Zcm m0 x0 x1 x4 x5 x6 x7 x8 (gcB m0 [x0, x1, x4, x5, x6, x7, x8] s))))))
 (ZrV m0 x0 x1 x4 x5 x6 x7 x8 x9 (shr (shr c)) (gcB m0 [x0, x1, x4, x5, x6, x7, x8, x9, (shr (shr c))] b)))) := by kernel_rfl
theorem ZyA : Zo4 m0 x4 x6 B =
 mk (ob (ldN false 1 x6 B) fun a =>
 ob (Z1D PP 31 [(0, (iv 1)), (5, a)]) fun b =>
 stN 7 x4 b B fun c =>
 Z7F x4 c) := by kernel_rfl
theorem ZyC : ZrV m0 x0 x1 x4 x5 x6 x7 x8 x9 x11 B =
 mk (mk (callS false EE 19 [(shr x0), (.p (.v (.string (ByteArray.mk #[45]))))] B fun a b =>
 asB a fun c => br c (mk (callS false EE 47 [(shr x0)] b fun d e =>
 mk (ob (xbin PP .eql 3 (shr (shr d)) (iv 93)) fun f =>
 asB (shr f) fun g => br g (ZiF m0 x0 x1 x4 x5 x6 x7 x8 x9 (gcB m0 [x0, x1, x4, x5, x6, x7, x8, x9] e))
 (ob (xbin PP .eql 3 (shr (shr d)) (iv 91)) fun h =>
 asB (shr (shr h)) fun i => br i (ZiF m0 x0 x1 x4 x5 x6 x7 x8 x9 (gcB m0 [x0, x1, x4, x5, x6, x7, x8, x9] e))
 (ob (xbin PP .eql 3 (shr (shr d)) (iv 45)) fun j =>
 asB (shr (shr j)) fun k => br k (ZiF m0 x0 x1 x4 x5 x6 x7 x8 x9 (gcB m0 [x0, x1, x4, x5, x6, x7, x8, x9] e))
 (ob (xbin PP .lss 3 (shr (shr d)) (iv 0)) fun l =>
 asB (shr l) fun n => br n (ZiF m0 x0 x1 x4 x5 x6 x7 x8 x9 (gcB m0 [x0, x1, x4, x5, x6, x7, x8, x9] e))
 (ZrW m0 x0 x1 x4 x5 x6 x7 x8 x9 x11 (gcB m0 [x0, x1, x4, x5, x6, x7, x8, x9, x11] e))))))))
 (ZiG m0 x0 x1 x4 x5 x6 x7 x8 x11 (shr (shr x11)) (gcB m0 [x0, x1, x4, x5, x6, x7, x8, x11, (shr (shr x11))] b)))) := by kernel_rfl
theorem ZyD : ZiF m0 x0 x1 x4 x5 x6 x7 x8 x9 B =
 mk (callS false EE 21 [(shr x0), (iv 22), (shr x9)] B fun a b =>
 Zcm m0 x0 x1 x4 x5 x6 x7 x8 (gcB m0 [x0, x1, x4, x5, x6, x7, x8] b)) := by kernel_rfl
theorem ZyE : ZrW m0 x0 x1 x4 x5 x6 x7 x8 x9 x11 B =
 mk (callS true EE 81 [(shr x0)] B fun a b =>
 ob (xext 0 (shr a)) fun c =>
 ob (xext 1 (shr a)) fun d =>
 ob (xext 2 (shr a)) fun e =>
 mk (ob (Z1E (shr x0)) fun f =>
 ob (xfld 5 f) fun g =>
 ob (xfld 0 g) fun h =>
 ob (ldN false 1 h b) fun i =>
 ob (xbin PP .eql 24 i (iv 0)) fun j =>
 asB (shr j) fun k => br k (ob (xnil PP .neq 27 (.slice none 0 0) (shr (shr (shr d)))) fun l =>
 asB (shr l) fun n => br n (Zo6 m0 x0 x1 x4 x5 x6 x7 x8 x9 x11 (shr (shr c)) (gcB m0 [x0, x1, x4, x5, x6, x7, x8, x9, x11, (shr (shr c))] b))
 (ob (xbin PP .lss 3 (shr (shr (shr c))) (shr x11)) fun o =>
 asB (shr (shr o)) fun p => br p (Zo6 m0 x0 x1 x4 x5 x6 x7 x8 x9 x11 (shr (shr c)) (gcB m0 [x0, x1, x4, x5, x6, x7, x8, x9, x11, (shr (shr c))] b))
 (ZiG m0 x0 x1 x4 x5 x6 x7 x8 x11 (shr (shr c)) (gcB m0 [x0, x1, x4, x5, x6, x7, x8, x11, (shr (shr c))] b))))
 (ZiG m0 x0 x1 x4 x5 x6 x7 x8 x11 (shr (shr c)) (gcB m0 [x0, x1, x4, x5, x6, x7, x8, x11, (shr (shr c))] b)))) := by kernel_rfl
theorem ZyG : ZiG m0 x0 x1 x4 x5 x6 x7 x8 x11 x15 B =
 mk (ob (Z1E (shr x0)) fun a =>
 ob (xfld 5 a) fun b =>
 ob (xfld 0 b) fun c =>
 ob (ldN false 1 c B) fun d =>
 ob (xbin PP .eql 24 d (iv 0)) fun e =>
 asB e fun f => br f (mk (ob (Z1D PP 47 [(0, (shr x11)), (1, (shr x15))]) fun g =>
 ob (xlit PP 28 1 [(0, g)]) fun h =>
 callV HH EE (shr x7) [h] B fun i j =>
 Zcm m0 x0 x1 x4 x5 x6 x7 x8 (gcB m0 [x0, x1, x4, x5, x6, x7, x8] j)))
 (Zcm m0 x0 x1 x4 x5 x6 x7 x8 (gcB m0 [x0, x1, x4, x5, x6, x7, x8] B))) := by kernel_rfl
theorem ZyF : Zo6 m0 x0 x1 x4 x5 x6 x7 x8 x9 x11 x15 B =
 mk (callS false EE 21 [(shr x0), (iv 22), (shr x9)] B fun a b =>
 ZiG m0 x0 x1 x4 x5 x6 x7 x8 x11 x15 (gcB m0 [x0, x1, x4, x5, x6, x7, x8, x11, x15] b)) := by kernel_rfl
theorem ZHr : EE 67 [x0, x1] B =
 (let m0 := B.length
 mk (bz PP 31 B fun a b =>
 mk (callS false EE 19 [(shr x0), (.p (.v (.string (ByteArray.mk #[94]))))] b fun c d =>
 mk (bz PP 28 d fun e f =>
 mk (mk (ZmS m0 x0 x1 a (shr c) e (shr (.clo 80 ([].map nrmA) ([e].map nrmA))) (iv 0) (gcB m0 [x0, x1, a, (shr c), e, (shr (.clo 80 ([].map nrmA) ([e].map nrmA))), (iv 0)] f))))))) := (E_eq PP XX HH _ _ _).trans (by kernel_rfl)
def ZID := Z2A Tryd.f68
def ZBH := l2 (l2 ZID)
def Zv4 := l2 (l2 ZBH)
def ZqD := l2 (l2 Zv4)
def ZkE (m0 : Nat) : Kont := kret PP HH 68 Tryd.f68.results
def ZHx := kseq HH 68 m0 ZqD (exec PP HH 68 m0 EE LL ZqD (ZkE m0)) (ZkE m0)
def Zv3 := exec PP HH 68 m0 EE LL ZBH (ZkE m0) [(0, x0), (1, x1), (4, x4)] B
def ZeD := exec PP HH 68 m0 EE LL Zv4 (ZkE m0) [(0, x0), (1, x1), (4, x4)] B
def ZrY := exec PP HH 68 m0 EE LL (l1 (l2 (l1 (l2 Zv4)))) (ZHx m0) [(0, x0), (1, x1), (4, x4), (7, x7)] B
def ZkF := exec PP HH 68 m0 EE LL ZqD (ZkE m0) [(0, x0), (4, x4), (7, x7)] B
def ZrZ := exec PP HH 68 m0 EE LL (l2 (l2 ZqD)) (ZkE m0) [(4, x4), (7, x7)] B
theorem ZBG : Zv3 m0 x0 x1 x4 B =
 mk (ob (Z1E (shr x0)) fun a =>
 ob (xfld 3 a) fun b =>
 ob (ldN false 1 b B) fun c =>
 ob (xbin PP .add 3 c (iv 1)) fun d =>
 ob (Z1E (shr x0)) fun e =>
 ob (xfld 3 e) fun f =>
 stN 1 f d B fun g =>
 mk (callS false EE 83 [] g fun h i =>
 callS false EE 82 [h, (.clo 19 ([(shr x0)].map nrmA) ([].map nrmA))] i fun j k =>
 mk (ob (xbin PP .geq 3 (shr (shr j)) (iv 0)) fun l =>
 asB (shr l) fun n => br n (mk (ob (Z1D PP 31 [(0, (iv 7)), (3, (shr (shr j)))]) fun o =>
 stN 7 x4 o k fun q =>
 ZeD m0 x0 x1 x4 (gcB m0 [x0, x1, x4] q)))
 (mk (callS false EE 19 [(shr x0), (.p (.v (.string (ByteArray.mk #[63, 62]))))] k fun r s =>
 asB (shr r) fun t => br t (mk (ob (Z1D PP 31 [(0, (iv 8))]) fun u =>
 stN 7 x4 u s fun w =>
 ZeD m0 x0 x1 x4 (gcB m0 [x0, x1, x4] w)))
 (mk (callS false EE 19 [(shr x0), (.p (.v (.string (ByteArray.mk #[63, 58]))))] s fun x y =>
 asB (shr x) fun z => br z (ZeD m0 x0 x1 x4 (gcB m0 [x0, x1, x4] y))
 (mk (callS false EE 47 [(shr x0)] y fun A C =>
 ob (xbin PP .eql 3 A (iv 63)) fun D =>
 asB (shr D) fun F => br F (mk (callS false EE 21 [(shr x0), (iv 20), (shr x1)] C fun G I =>
 ZeD m0 x0 x1 x4 (gcB m0 [x0, x1, x4] I)))
 (mk (ob (Z1E (shr x0)) fun J =>
 ob (xfld 2 J) fun M =>
 ob (ldN false 1 M C) fun N =>
 ob (xbin PP .eql 3 N (iv 9)) fun O =>
 asB (shr O) fun Q => br Q (mk (callS false EE 21 [(shr x0), (iv 24), (shr x1)] C fun R S =>
 ZeD m0 x0 x1 x4 (gcB m0 [x0, x1, x4] S)))
 (mk (ob (Z1E (shr x0)) fun T =>
 ob (xfld 2 T) fun U =>
 ob (ldN false 1 U C) fun V =>
 ob (xbin PP .add 3 V (iv 1)) fun W =>
 ob (Z1E (shr x0)) fun Y =>
 ob (xfld 2 Y) fun Z =>
 stN 1 Z W C fun a0 =>
 mk (ob (Z1E (shr x0)) fun a1 =>
 ob (xfld 2 a1) fun a2 =>
 ob (ldN false 1 a2 a0) fun a3 =>
 ob (Z1D PP 31 [(0, (iv 5)), (4, a3)]) fun a4 =>
 stN 7 x4 a4 a0 fun a5 =>
 ZeD m0 x0 x1 x4 (gcB m0 [x0, x1, x4] a5))))))))))))))) := by kernel_rfl
theorem ZyI : ZeD m0 x0 x1 x4 B =
 mk (callS false EE 20 [(shr x0)] B fun a b =>
 bz PP 31 b fun c d =>
 stN 7 c a d fun e =>
 mk (ob (Z1E (shr x0)) fun f =>
 ob (xfld 5 f) fun g =>
 ob (xfld 0 g) fun h =>
 ob (ldN false 1 h e) fun i =>
 ob (xbin PP .eql 24 i (iv 0)) fun j =>
 asB (shr j) fun k => br k (callS false EE 19 [(shr x0), (.p (.v (.string (ByteArray.mk #[41]))))] e fun l n =>
 ob (xun PP .not l) fun o =>
 asB (shr o) fun q => br q (ZrY m0 x0 x1 x4 c (gcB m0 [x0, x1, x4, c] n))
 (ZkF m0 x0 x4 c (gcB m0 [x0, x4, c] n)))
 (ZkF m0 x0 x4 c (gcB m0 [x0, x4, c] e)))) := by kernel_rfl
theorem ZyJ : ZrY m0 x0 x1 x4 x7 B =
 mk (callS false EE 21 [(shr x0), (iv 20), (shr x1)] B fun a b =>
 ZkF m0 x0 x4 x7 (gcB m0 [x0, x4, x7] b)) := by kernel_rfl
theorem ZyK : ZkF m0 x0 x4 x7 B =
 mk (ob (Z1E (shr x0)) fun a =>
 ob (xfld 3 a) fun b =>
 ob (ldN false 1 b B) fun c =>
 ob (xbin PP .sub 3 c (iv 1)) fun d =>
 ob (Z1E (shr x0)) fun e =>
 ob (xfld 3 e) fun f =>
 stN 1 f d B fun g =>
 mk (ob (xfld 0 x4) fun h =>
 ob (ldN false 1 h g) fun i =>
 ob (xbin PP .eql 3 i (iv 0)) fun j =>
 asB j fun k => br k (mk (ob (ldN true 7 x7 g) fun l =>
 stN 7 x4 l g fun n =>
 Z6x x4 (bv true) n))
 (ZrZ m0 x4 x7 (gcB m0 [x4, x7] g)))) := by kernel_rfl
theorem ZyL : ZrZ m0 x4 x7 B =
 mk (ob (ldN true 7 x7 B) fun a =>
 ob (xlit PP 29 1 [(0, a)]) fun b =>
 ob (xfld 6 x4) fun c =>
 stN 1 c b B fun d =>
 mk (ob (ldN true 7 x4 d) fun e =>
 ob (xfld 0 x4) fun f =>
 ob (ldN false 1 f d) fun g =>
 ob (xbin PP .neq 3 g (iv 7)) fun h =>
 stN 7 x4 e d fun i =>
 Z6x x4 (shr h) i)) := by kernel_rfl
theorem ZHw : EE 68 [x0, x1] B =
 (let m0 := B.length
 mk (bz PP 31 B fun a b =>
 mk (ob (Z1E (shr x0)) fun c =>
 ob (xfld 3 c) fun d =>
 ob (ldN false 1 d b) fun e =>
 ob (xbin PP .eql 3 e (iv 32)) fun f =>
 asB f fun g => br g (mk (callS false EE 21 [(shr x0), (iv 25), (shr x1)] b fun h i =>
 mk (ob (Z1D PP 31 []) fun j =>
 stN 7 a j i fun k =>
 Z6x a (bv true) k)))
 (Zv3 m0 x0 x1 a (gcB m0 [x0, x1, a] b))))) := (E_eq PP XX HH _ _ _).trans (by kernel_rfl)
def ZEL := Z2A Tryd.f69
def ZiW := l2 (l2 (l2 (l2 ZEL)))
def ZmT := l1 (l2 (l2 (l1 (l2 (l1 (l2 (l2 (l2 ZEL))))))))
def ZkG (m0 : Nat) : Kont := kret PP HH 69 Tryd.f69.results
def ZqE := kseq HH 69 m0 ZiW (exec PP HH 69 m0 EE LL ZiW (ZkG m0)) (ZkG m0)
def ZHz := kseq HH 69 m0 (l2 ZmT) (exec PP HH 69 m0 EE LL (l2 ZmT) (ZqE m0)) (ZqE m0)
def ZHA := kseq HH 69 m0 (l2 ZiW) (exec PP HH 69 m0 EE LL (l2 ZiW) (ZkG m0)) (ZkG m0)
def Zv5 := exec PP HH 69 m0 EE LL ZmT (ZqE m0) [(0, x0), (1, x1), (4, x4)] B
def ZkH := exec PP HH 69 m0 EE LL ZiW (ZkG m0) [(0, x0), (1, x1), (4, x4), (5, x5)] B
def Zv6 := exec PP HH 69 m0 EE LL (l1 (l2 (l1 ZmT))) (ZHz m0) [(4, x4)] B
def ZqF := exec PP HH 69 m0 EE LL (l2 ZmT) (ZqE m0) [(0, x0), (1, x1), (4, x4)] B
def ZiH := exec PP HH 69 m0 EE LL (l1 (l2 (l1 ZiW))) (ZHA m0) [(0, x0), (1, x1), (4, x4), (5, x5)] B
def Zo7 := exec PP HH 69 m0 EE LL (l2 ZiW) (ZkG m0) [(4, x4), (5, x5)] B
theorem ZBI : Zv5 m0 x0 x1 x4 B =
 mk (callS false EE 19 [(shr x0), (.p (.v (.string (ByteArray.mk #[125]))))] B fun a b =>
 asB (shr a) fun c => br c (ob (xbin PP .leq 3 (shr x4) (iv 64)) fun d =>
 asB (shr d) fun e => br e (Zv6 m0 x4 (gcB m0 [x4] b))
 (ZqF m0 x0 x1 x4 (gcB m0 [x0, x1, x4] b)))
 (ZqF m0 x0 x1 x4 (gcB m0 [x0, x1, x4] b))) := by kernel_rfl
theorem ZBL : ZkH m0 x0 x1 x4 x5 B =
 mk (ob (xbin PP .lss 3 (shr x4) (iv 0)) fun a =>
 asB (shr a) fun b => br b (ZiH m0 x0 x1 x4 x5 (gcB m0 [x0, x1, x4, x5] B))
 (ob (xbin PP .lss 3 (shr x5) (shr x4)) fun c =>
 asB (shr (shr c)) fun d => br d (ZiH m0 x0 x1 x4 x5 (gcB m0 [x0, x1, x4, x5] B))
 (ob (xbin PP .gtr 3 (shr x5) (iv 64)) fun e =>
 asB (shr (shr e)) fun f => br f (ZiH m0 x0 x1 x4 x5 (gcB m0 [x0, x1, x4, x5] B))
 (callS false EE 19 [(shr x0), (.p (.v (.string (ByteArray.mk #[125]))))] B fun g h =>
 ob (xun PP .not g) fun i =>
 asB (shr i) fun j => br j (ZiH m0 x0 x1 x4 x5 (gcB m0 [x0, x1, x4, x5] h))
 (Zo7 m0 x4 x5 (gcB m0 [x4, x5] h)))))) := by kernel_rfl
theorem ZBJ : Zv6 m0 x4 B =
 mk (Z5d (shr (shr x4)) (iv (-1)) B) := by kernel_rfl
theorem ZBK : ZqF m0 x0 x1 x4 B =
 mk (ZkH m0 x0 x1 x4 (iv (-2)) (gcB m0 [x0, x1, x4, (iv (-2))] B)) := by kernel_rfl
theorem ZyM : ZiH m0 x0 x1 x4 x5 B =
 mk (callS false EE 21 [(shr x0), (iv 23), (shr x1)] B fun a b =>
 Zo7 m0 x4 x5 (gcB m0 [x4, x5] b)) := by kernel_rfl
theorem ZyN : Zo7 m0 x4 x5 B =
 mk (Z5d (shr (shr x4)) (shr (shr x5)) B) := by kernel_rfl
theorem ZHy : EE 69 [x0, x1] B =
 (let m0 := B.length
 mk (mk (callS false EE 84 [(shr x0)] B fun a b =>
 mk (mk (callS false EE 19 [(shr x0), (.p (.v (.string (ByteArray.mk #[44]))))] b fun c d =>
 asB c fun e => br e (mk (callS false EE 84 [(shr x0)] d fun f g =>
 mk (ob (xbin PP .lss 3 (shr (shr f)) (iv 0)) fun h =>
 asB (shr h) fun i => br i (ob (xbin PP .geq 3 (shr (shr a)) (iv 0)) fun j =>
 asB (shr j) fun k => br k (Zv5 m0 x0 x1 (shr a) (gcB m0 [x0, x1, (shr a)] g))
 (ZkH m0 x0 x1 (shr a) (shr f) (gcB m0 [x0, x1, (shr a), (shr f)] g)))
 (ZkH m0 x0 x1 (shr a) (shr f) (gcB m0 [x0, x1, (shr a), (shr f)] g)))))
 (ZkH m0 x0 x1 (shr a) (shr (shr (shr a))) (gcB m0 [x0, x1, (shr a), (shr (shr (shr a)))] d))))))) := (E_eq PP XX HH _ _ _).trans (by kernel_rfl)
def ZEM := Z2A Tryd.f73
def Zvc := l2 (l2 ZEM)
def ZqG := l1 (l1 (l2 (l1 (l2 ZEM))))
def ZBR := l2 (l2 ZqG)
def Zv7 (m0 : Nat) : Kont := kret PP HH 73 Tryd.f73.results
def ZHC := kseq HH 73 m0 Zvc (exec PP HH 73 m0 EE LL Zvc (Zv7 m0)) (Zv7 m0)
def Zv8 := kblk 0 (ZHC m0)
def ZBM := kloop HH 73 m0 ZqG (LL 73 m0 ZqG (Zv8 m0)) (Zv8 m0)
def ZmU := lp (LL 73 m0 ZqG (Zv8 m0) [(0, x0), (1, x1), (7, x7), (8, x8)] B)
def Zv9 := exec PP HH 73 m0 EE LL ZBR (ZBM m0) [(0, x0), (1, x1), (7, x7), (8, x8)] B
def Zvb := exec PP HH 73 m0 EE LL Zvc (Zv7 m0) [] B
def Zva := exec PP HH 73 m0 EE LL (l2 ZBR) (ZBM m0) [(0, x0), (1, x1), (7, x7), (8, x8)] B
theorem ZBN : ZmU m0 x0 x1 x7 x8 B =
 mk (ob (xbin PP .lss 3 x8 x7) fun a =>
 asB a fun b => br b (Zv9 m0 x0 x1 x7 x8 (gcB m0 [x0, x1, x7, x8] B))
 (Zvb m0 (gcB m0 [] B))) := lq_ (by kernel_rfl)
theorem ZBO : Zv9 m0 x0 x1 x7 x8 B =
 mk (mk (ob (xidx 7 (shr x0) (shr (shr (shr x8)))) fun a =>
 ob (ldN true 7 a B) fun b =>
 callV HH EE (shr x1) [b] B fun c d =>
 asB c fun e => br e (mk (Z1F (shr (shr (shr (shr x8)))) d))
 (Zva m0 x0 x1 x7 x8 (gcB m0 [x0, x1, x7, x8] d)))) := by kernel_rfl
theorem ZBQ : Zvb m0 B =
 mk (Z1F (iv (-1)) B) := by kernel_rfl
theorem ZBP : Zva m0 x0 x1 x7 x8 B =
 mk (ob (xbin PP .add 3 x8 (iv 1)) fun a =>
 ZmU m0 x0 x1 x7 (shr a) (gcB m0 [x0, x1, x7, (shr a)] B)) := by kernel_rfl
theorem ZHB : EE 73 [x0, x1] B =
 (let m0 := B.length
 mk (mk (ob (xlen PP 29 (shr x0)) fun a =>
 ZmU m0 x0 x1 a (iv 0) (gcB m0 [x0, x1, a, (iv 0)] B)))) := (E_eq PP XX HH _ _ _).trans (by kernel_rfl)
def ZIE := Z2A Tryd.f75
def ZHE (m0 : Nat) : Kont := kret PP HH 75 Tryd.f75.results
def Zvd := exec PP HH 75 m0 EE LL (l2 (l2 ZIE)) (ZHE m0) [(0, x0)] B
theorem ZBS : Zvd m0 x0 B =
 mk (Z1F (shr (shr x0)) B) := by kernel_rfl
theorem ZHD : EE 75 [x0] B =
 (let m0 := B.length
 mk (mk (ob (xbin PP .gtr 3 (shr x0) (iv 1048576)) fun a =>
 asB a fun b => br b (mk (Z1F (iv (-1)) B))
 (Zvd m0 x0 (gcB m0 [x0] B))))) := (E_eq PP XX HH _ _ _).trans (by kernel_rfl)
def ZIF := Z2A Tryd.f77
def ZHG (m0 : Nat) : Kont := kret PP HH 77 Tryd.f77.results
def Zve := exec PP HH 77 m0 EE LL (l2 (l2 ZIF)) (ZHG m0) [(0, x0)] B
theorem ZBT : Zve m0 x0 B =
 mk (callS false EE 25 [(shr x0)] B fun a b =>
 Z5d (shr a) (iv 0) b) := by kernel_rfl
theorem ZHF : EE 77 [x0] B =
 (let m0 := B.length
 mk (mk (callS false EE 96 [(shr x0), (.clo 97 [] [])] B fun a b =>
 asB a fun c => br c (mk (Z5d nilA (iv 13) b))
 (Zve m0 x0 (gcB m0 [x0] b))))) := (E_eq PP XX HH _ _ _).trans (by kernel_rfl)
def ZIG := Z2A Tryd.f78
def Z80 (r0 : AV) (B : List Row) : Option Res :=
 ob (ob (some r0) fun v => ob (some []) fun vs => some (v :: vs)) fun vs => some ((match vs with | [v] => v | vs => Z9e (vs.map shr)), B)
def ZHI (m0 : Nat) : Kont := kret PP HH 78 Tryd.f78.results
def ZbR := exec PP HH 78 m0 EE LL (l2 (l2 ZIG)) (ZHI m0) [] B
theorem ZyO : ZbR m0 B =
 mk (Z80 nilA B) := by kernel_rfl
theorem ZHH : EE 78 [x0] B =
 (let m0 := B.length
 mk (mk (mk (ob (xbin PP .eql 3 (shr x0) (iv 100)) fun a =>
 asB (shr a) fun b => br b (asB (shr a) fun c => br c (mk (ob (Z1D PP 47 [(0, (iv 48)), (1, (iv 57))]) fun d =>
 ob (xlit PP 27 1 [(0, d)]) fun e =>
 Z80 e B))
 (mk (ob (xbin PP .eql 3 (shr x0) (iv 119)) fun f =>
 asB (shr f) fun g => br g (asB (shr f) fun h => br h (mk (ob (Z1D PP 47 [(0, (iv 48)), (1, (iv 57))]) fun i =>
 ob (Z1D PP 47 [(0, (iv 65)), (1, (iv 90))]) fun j =>
 callS false EE 65 [(iv 95)] B fun k l =>
 ob (Z1D PP 47 [(0, (iv 97)), (1, (iv 122))]) fun n =>
 ob (xlit PP 27 4 [(0, i), (1, j), (2, k), (3, n)]) fun o =>
 Z80 o l))
 (mk (ob (xbin PP .eql 3 (shr x0) (iv 115)) fun p =>
 asB (shr p) fun q => br q (asB (shr p) fun r => br r (mk (ob (Z1D PP 47 [(0, (iv 9)), (1, (iv 13))]) fun s =>
 callS false EE 65 [(iv 32)] B fun t u =>
 ob (xlit PP 27 2 [(0, s), (1, t)]) fun v =>
 Z80 v u))
 (ZbR m0 (gcB m0 [] B)))
 (mk (ob (xbin PP .eql 3 (shr x0) (iv 83)) fun w =>
 asB (shr w) fun x => br x (mk (ob (Z1D PP 47 [(0, (iv 9)), (1, (iv 13))]) fun y =>
 callS false EE 65 [(iv 32)] B fun z A =>
 ob (xlit PP 27 2 [(0, y), (1, z)]) fun C =>
 Z80 C A))
 (ZbR m0 (gcB m0 [] B)))))))
 (mk (ob (xbin PP .eql 3 (shr x0) (iv 87)) fun D =>
 asB (shr D) fun F => br F (mk (ob (Z1D PP 47 [(0, (iv 48)), (1, (iv 57))]) fun G =>
 ob (Z1D PP 47 [(0, (iv 65)), (1, (iv 90))]) fun I =>
 callS false EE 65 [(iv 95)] B fun J M =>
 ob (Z1D PP 47 [(0, (iv 97)), (1, (iv 122))]) fun N =>
 ob (xlit PP 27 4 [(0, G), (1, I), (2, J), (3, N)]) fun O =>
 Z80 O M))
 (mk (ob (xbin PP .eql 3 (shr x0) (iv 115)) fun Q =>
 asB (shr Q) fun R => br R (asB (shr Q) fun S => br S (mk (ob (Z1D PP 47 [(0, (iv 9)), (1, (iv 13))]) fun T =>
 callS false EE 65 [(iv 32)] B fun U V =>
 ob (xlit PP 27 2 [(0, T), (1, U)]) fun W =>
 Z80 W V))
 (ZbR m0 (gcB m0 [] B)))
 (mk (ob (xbin PP .eql 3 (shr x0) (iv 83)) fun Y =>
 asB (shr Y) fun Z => br Z (mk (ob (Z1D PP 47 [(0, (iv 9)), (1, (iv 13))]) fun a0 =>
 callS false EE 65 [(iv 32)] B fun a1 a2 =>
 ob (xlit PP 27 2 [(0, a0), (1, a1)]) fun a3 =>
 Z80 a3 a2))
 (ZbR m0 (gcB m0 [] B)))))))))))
 (mk (ob (xbin PP .eql 3 (shr x0) (iv 68)) fun a4 =>
 asB (shr a4) fun a5 => br a5 (mk (ob (Z1D PP 47 [(0, (iv 48)), (1, (iv 57))]) fun a6 =>
 ob (xlit PP 27 1 [(0, a6)]) fun a7 =>
 Z80 a7 B))
 (mk (ob (xbin PP .eql 3 (shr x0) (iv 119)) fun a8 =>
 asB (shr a8) fun a9 => br a9 (asB (shr a8) fun a10 => br a10 (mk (ob (Z1D PP 47 [(0, (iv 48)), (1, (iv 57))]) fun a11 =>
 ob (Z1D PP 47 [(0, (iv 65)), (1, (iv 90))]) fun a12 =>
 callS false EE 65 [(iv 95)] B fun a13 a14 =>
 ob (Z1D PP 47 [(0, (iv 97)), (1, (iv 122))]) fun a15 =>
 ob (xlit PP 27 4 [(0, a11), (1, a12), (2, a13), (3, a15)]) fun a16 =>
 Z80 a16 a14))
 (mk (ob (xbin PP .eql 3 (shr x0) (iv 115)) fun a17 =>
 asB (shr a17) fun a18 => br a18 (asB (shr a17) fun a19 => br a19 (mk (ob (Z1D PP 47 [(0, (iv 9)), (1, (iv 13))]) fun a20 =>
 callS false EE 65 [(iv 32)] B fun a21 a22 =>
 ob (xlit PP 27 2 [(0, a20), (1, a21)]) fun a23 =>
 Z80 a23 a22))
 (ZbR m0 (gcB m0 [] B)))
 (mk (ob (xbin PP .eql 3 (shr x0) (iv 83)) fun a24 =>
 asB (shr a24) fun a25 => br a25 (mk (ob (Z1D PP 47 [(0, (iv 9)), (1, (iv 13))]) fun a26 =>
 callS false EE 65 [(iv 32)] B fun a27 a28 =>
 ob (xlit PP 27 2 [(0, a26), (1, a27)]) fun a29 =>
 Z80 a29 a28))
 (ZbR m0 (gcB m0 [] B)))))))
 (mk (ob (xbin PP .eql 3 (shr x0) (iv 87)) fun a30 =>
 asB (shr a30) fun a31 => br a31 (mk (ob (Z1D PP 47 [(0, (iv 48)), (1, (iv 57))]) fun a32 =>
 ob (Z1D PP 47 [(0, (iv 65)), (1, (iv 90))]) fun a33 =>
 callS false EE 65 [(iv 95)] B fun a34 a35 =>
 ob (Z1D PP 47 [(0, (iv 97)), (1, (iv 122))]) fun a36 =>
 ob (xlit PP 27 4 [(0, a32), (1, a33), (2, a34), (3, a36)]) fun a37 =>
 Z80 a37 a35))
 (mk (ob (xbin PP .eql 3 (shr x0) (iv 115)) fun a38 =>
 asB (shr a38) fun a39 => br a39 (asB (shr a38) fun a40 => br a40 (mk (ob (Z1D PP 47 [(0, (iv 9)), (1, (iv 13))]) fun a41 =>
 callS false EE 65 [(iv 32)] B fun a42 a43 =>
 ob (xlit PP 27 2 [(0, a41), (1, a42)]) fun a44 =>
 Z80 a44 a43))
 (ZbR m0 (gcB m0 [] B)))
 (mk (ob (xbin PP .eql 3 (shr x0) (iv 83)) fun a45 =>
 asB (shr a45) fun a46 => br a46 (mk (ob (Z1D PP 47 [(0, (iv 9)), (1, (iv 13))]) fun a47 =>
 callS false EE 65 [(iv 32)] B fun a48 a49 =>
 ob (xlit PP 27 2 [(0, a47), (1, a48)]) fun a50 =>
 Z80 a50 a49))
 (ZbR m0 (gcB m0 [] B)))))))))))))))) := (E_eq PP XX HH _ _ _).trans (by kernel_rfl)
def ZEN := Z2A Tryd.f79
def Zvg := l2 (l2 ZEN)
def Zvf (m0 : Nat) : Kont := kret PP HH 79 Tryd.f79.results
def ZHK := kseq HH 79 m0 Zvg (exec PP HH 79 m0 EE LL Zvg (Zvf m0)) (Zvf m0)
def ZHL := kblk 0 (ZHK m0)
def ZfU := exec PP HH 79 m0 EE LL Zvg (Zvf m0) [(0, x0), (2, x2)] B
def Zs0 := exec PP HH 79 m0 EE LL (l1 (l2 (l2 (l2 (l2 (l2 (l2 (l2 (l2 (l2 (l1 (l1 (l2 ZEN))))))))))))) (ZHL m0) [(1, x1)] B
theorem ZyQ : ZfU m0 x0 x2 B =
 mk (callS false EE 21 [(shr x0), (iv 21), (shr x2)] B fun a b =>
 mk (Z1F (iv 0) b)) := by kernel_rfl
theorem ZyP : Zs0 m0 x1 B =
 mk (Z1F (shr (shr x1)) B) := by kernel_rfl
theorem ZHJ : EE 79 [x0, x1, x2] B =
 (let m0 := B.length
 mk (mk (ob (xbin PP .eql 3 (shr x1) (iv 110)) fun a =>
 asB (shr a) fun b => br b (mk (Z1F (iv 10) B))
 (mk (ob (xbin PP .eql 3 (shr x1) (iv 116)) fun c =>
 asB (shr c) fun d => br d (mk (Z1F (iv 9) B))
 (mk (ob (xbin PP .eql 3 (shr x1) (iv 114)) fun e =>
 asB (shr e) fun f => br f (mk (Z1F (iv 13) B))
 (mk (ob (xbin PP .eql 3 (shr x1) (iv 120)) fun g =>
 asB (shr g) fun h => br h (mk (callS false EE 47 [(shr x0)] B fun i j =>
 callS false EE 98 [i] j fun k l =>
 mk (ob (xbin PP .geq 3 (shr (shr k)) (iv 0)) fun n =>
 asB n fun o => br o (mk (callS false EE 63 [(shr x0)] l fun p q =>
 mk (callS false EE 47 [(shr x0)] q fun r s =>
 callS false EE 98 [r] s fun t u =>
 mk (ob (xbin PP .geq 3 (shr (shr t)) (iv 0)) fun v =>
 asB v fun w => br w (mk (callS false EE 63 [(shr x0)] u fun x y =>
 mk (ob (xbin PP .mul 3 (iv 16) (shr (shr k))) fun z =>
 ob (xbin PP .add 3 z (shr (shr t))) fun A =>
 Z1F (shr A) y)))
 (ZfU m0 x0 x2 (gcB m0 [x0, x2] u))))))
 (ZfU m0 x0 x2 (gcB m0 [x0, x2] l)))))
 (mk (ob (xbin PP .gtr 3 (shr x1) (iv 32)) fun C =>
 asB (shr C) fun D => br D (ob (xbin PP .lss 3 (shr x1) (iv 127)) fun F =>
 asB (shr (shr F)) fun G => br G (ob (Z1D PP 47 [(0, (iv 48)), (1, (iv 57))]) fun I =>
 ob (Z1D PP 47 [(0, (iv 65)), (1, (iv 90))]) fun J =>
 ob (Z1D PP 47 [(0, (iv 97)), (1, (iv 122))]) fun M =>
 ob (xlit PP 28 3 [(0, I), (1, J), (2, M)]) fun N =>
 callS false EE 24 [N, (shr x1)] B fun O Q =>
 ob (xun PP .not O) fun R =>
 asB (shr (shr R)) fun S => br S (Zs0 m0 x1 (gcB m0 [x1] Q))
 (ZfU m0 x0 x2 (gcB m0 [x0, x2] Q)))
 (ZfU m0 x0 x2 (gcB m0 [x0, x2] B)))
 (ZfU m0 x0 x2 (gcB m0 [x0, x2] B))))))))))))) := (E_eq PP XX HH _ _ _).trans (by kernel_rfl)
theorem ZHM : EE 80 [x0, x1] B =
 (let m0 := B.length
 mk (ob (ldN false 1 x1 B) fun a =>
 callS false EE 39 [a, (shr x0)] B fun b c =>
 ob (xext 0 (shr b)) fun d =>
 ob (xext 1 (shr b)) fun e =>
 stN 1 x1 (shr d) c fun f =>
 Z4R f)) := (E_eq PP XX HH _ _ _).trans (by kernel_rfl)
def ZIH := Z2A Tryd.f81
def Zvk := l2 (l2 (l2 ZIH))
def Zo8 (r0 r1 r2 : AV) (B : List Row) : Option Res :=
 ob (ob (some r0) fun v => ob (ob (some r1) fun v => ob (ob (some r2) fun v => ob (some []) fun vs => some (v :: vs)) fun vs => some (v :: vs)) fun vs => some (v :: vs)) fun vs => some ((match vs with | [v] => v | vs => Z9e (vs.map shr)), B)
def Zvh (m0 : Nat) : Kont := kret PP HH 81 Tryd.f81.results
def Zvi := exec PP HH 81 m0 EE LL Zvk (Zvh m0) [(0, x0), (5, x5)] B
def Zvj := exec PP HH 81 m0 EE LL (l2 Zvk) (Zvh m0) [(0, x0), (2, x2), (5, x5)] B
def Zs1 := exec PP HH 81 m0 EE LL (l2 (l2 (l2 Zvk))) (Zvh m0) [(0, x0), (2, x2), (5, x5)] B
theorem ZBU : Zvi m0 x0 x5 B =
 mk (callS false EE 47 [(shr x0)] B fun a b =>
 mk (ob (xbin PP .lss 3 (shr (shr a)) (iv 0)) fun c =>
 asB c fun d => br d (mk (callS false EE 21 [(shr x0), (iv 21), (shr x5)] b fun e f =>
 mk (Zo8 (iv 0) nilA (bv false) f)))
 (Zvj m0 x0 (shr a) x5 (gcB m0 [x0, (shr a), x5] b)))) := by kernel_rfl
theorem ZBV : Zvj m0 x0 x2 x5 B =
 mk (callS false EE 63 [(shr x0)] B fun a b =>
 mk (callS true EE 78 [(shr x2)] b fun c d =>
 mk (ob (xnil PP .neq 27 (.slice none 0 0) (shr c)) fun e =>
 asB e fun f => br f (mk (ob (xbin PP .lss 3 (shr x2) (iv 97)) fun g =>
 Zo8 (iv 0) c (shr g) d))
 (Zs1 m0 x0 x2 x5 (gcB m0 [x0, x2, x5] d))))) := by kernel_rfl
theorem ZyR : Zs1 m0 x0 x2 x5 B =
 mk (callS false EE 79 [(shr x0), (shr x2), (shr x5)] B fun a b =>
 Zo8 (shr a) nilA (bv false) b) := by kernel_rfl
theorem ZHN : EE 81 [x0] B =
 (let m0 := B.length
 mk (mk (ob (Z1E (shr x0)) fun a =>
 ob (xfld 1 a) fun b =>
 ob (ldN false 1 b B) fun c =>
 mk (callS false EE 63 [(shr x0)] B fun d e =>
 mk (ob (xbin PP .neq 3 (shr (shr d)) (iv 92)) fun f =>
 asB f fun g => br g (mk (Zo8 (shr (shr (shr d))) nilA (bv false) e))
 (Zvi m0 x0 (shr c) (gcB m0 [x0, (shr c)] e))))))) := (E_eq PP XX HH _ _ _).trans (by kernel_rfl)
def ZEO := Z2A Tryd.f82
def Zvq := l2 (l2 ZEO)
def ZqH := l1 (l1 (l2 (l1 (l2 ZEO))))
def ZC1 := l2 (l2 ZqH)
def Zvl (m0 : Nat) : Kont := kret PP HH 82 Tryd.f82.results
def ZHP := kseq HH 82 m0 Zvq (exec PP HH 82 m0 EE LL Zvq (Zvl m0)) (Zvl m0)
def Zvm := kblk 0 (ZHP m0)
def ZBW := kloop HH 82 m0 ZqH (LL 82 m0 ZqH (Zvm m0)) (Zvm m0)
def ZmV := lp (LL 82 m0 ZqH (Zvm m0) [(0, x0), (1, x1), (7, x7), (8, x8)] B)
def Zvn := exec PP HH 82 m0 EE LL ZC1 (ZBW m0) [(0, x0), (1, x1), (7, x7), (8, x8)] B
def Zvp := exec PP HH 82 m0 EE LL Zvq (Zvl m0) [] B
def Zvo := exec PP HH 82 m0 EE LL (l2 ZC1) (ZBW m0) [(0, x0), (1, x1), (7, x7), (8, x8)] B
theorem ZBX : ZmV m0 x0 x1 x7 x8 B =
 mk (ob (xbin PP .lss 3 x8 x7) fun a =>
 asB a fun b => br b (Zvn m0 x0 x1 x7 x8 (gcB m0 [x0, x1, x7, x8] B))
 (Zvp m0 (gcB m0 [] B))) := lq_ (by kernel_rfl)
theorem ZBY : Zvn m0 x0 x1 x7 x8 B =
 mk (mk (ob (xidx 1 (shr x0) (shr (shr (shr x8)))) fun a =>
 ob (ldN false 1 a B) fun b =>
 callV HH EE (shr x1) [b] B fun c d =>
 asB c fun e => br e (mk (Z1F (shr (shr (shr (shr x8)))) d))
 (Zvo m0 x0 x1 x7 x8 (gcB m0 [x0, x1, x7, x8] d)))) := by kernel_rfl
theorem ZC0 : Zvp m0 B =
 mk (Z1F (iv (-1)) B) := by kernel_rfl
theorem ZBZ : Zvo m0 x0 x1 x7 x8 B =
 mk (ob (xbin PP .add 3 x8 (iv 1)) fun a =>
 ZmV m0 x0 x1 x7 (shr a) (gcB m0 [x0, x1, x7, (shr a)] B)) := by kernel_rfl
theorem ZHO : EE 82 [x0, x1] B =
 (let m0 := B.length
 mk (mk (ob (xlen PP 121 (shr x0)) fun a =>
 ZmV m0 x0 x1 a (iv 0) (gcB m0 [x0, x1, a, (iv 0)] B)))) := (E_eq PP XX HH _ _ _).trans (by kernel_rfl)
theorem ZHQ : EE 83 [] B =
 (let m0 := B.length
 mk (mk (ob (xlit PP 121 4 [(0, (.p (.v (.string (ByteArray.mk #[63, 61]))))), (1, (.p (.v (.string (ByteArray.mk #[63, 33]))))), (2, (.p (.v (.string (ByteArray.mk #[63, 60, 61]))))), (3, (.p (.v (.string (ByteArray.mk #[63, 60, 33])))))]) fun a =>
 Z1F (shr a) B))) := (E_eq PP XX HH _ _ _).trans (by kernel_rfl)
def ZEP := Z2A Tryd.f84
def Zvu := l2 (l2 (l2 ZEP))
def ZqI := l1 (l1 (l2 (l1 (l2 (l2 ZEP)))))
def Zvr (m0 : Nat) : Kont := kret PP HH 84 Tryd.f84.results
def ZHS := kseq HH 84 m0 Zvu (exec PP HH 84 m0 EE LL Zvu (Zvr m0)) (Zvr m0)
def Zvs := kblk 0 (ZHS m0)
def ZHT := kloop HH 84 m0 ZqI (LL 84 m0 ZqI (Zvs m0)) (Zvs m0)
def ZmW := lp (LL 84 m0 ZqI (Zvs m0) [(0, x0), (3, x3), (4, x4)] B)
def Zvt := exec PP HH 84 m0 EE LL (l2 ZqI) (ZHT m0) [(0, x0), (3, x3), (4, x4)] B
def ZmX := exec PP HH 84 m0 EE LL Zvu (Zvr m0) [(3, x3)] B
theorem ZC2 : ZmW m0 x0 x3 x4 B =
 mk (ob (xbin PP .lss 3 (shr x4) (iv 2)) fun a =>
 asB (shr a) fun b => br b (callS false EE 47 [(shr x0)] B fun c d =>
 ob (xbin PP .geq 3 c (iv 48)) fun e =>
 asB (shr (shr e)) fun f => br f (callS false EE 47 [(shr x0)] d fun g h =>
 ob (xbin PP .leq 3 g (iv 57)) fun i =>
 asB (shr i) fun j => br j (Zvt m0 x0 x3 x4 (gcB m0 [x0, x3, x4] h))
 (ZmX m0 x3 (gcB m0 [x3] h)))
 (ZmX m0 x3 (gcB m0 [x3] d)))
 (ZmX m0 x3 (gcB m0 [x3] B))) := lq_ (by kernel_rfl)
theorem ZC3 : Zvt m0 x0 x3 x4 B =
 mk (ob (Z7I PP true [(shr x3), (iv 0)]) fun a =>
 ob (xbin PP .mul 3 (iv 10) a) fun b =>
 callS false EE 63 [(shr x0)] B fun c d =>
 ob (xbin PP .add 3 b c) fun e =>
 ob (xbin PP .sub 3 e (iv 48)) fun f =>
 mk (ob (xbin PP .add 3 (shr x4) (iv 1)) fun g =>
 ZmW m0 x0 (shr f) (shr g) (gcB m0 [x0, (shr f), (shr g)] d))) := by kernel_rfl
theorem ZC4 : ZmX m0 x3 B =
 mk (Z1F (shr (shr x3)) B) := by kernel_rfl
theorem ZHR : EE 84 [x0] B =
 (let m0 := B.length
 mk (mk (mk (ZmW m0 x0 (iv (-1)) (iv 0) (gcB m0 [x0, (iv (-1)), (iv 0)] B))))) := (E_eq PP XX HH _ _ _).trans (by kernel_rfl)
theorem ZHV : EE 96 [x0, x1] B =
 (let m0 := B.length
 mk (mk (callS false EE 104 [(shr x0), (shr x1)] B fun a b =>
 ob (xbin PP .geq 3 a (iv 0)) fun c =>
 Z1F (shr c) b))) := (E_eq PP XX HH _ _ _).trans (by kernel_rfl)
theorem ZHW : EE 97 [x0] B =
 (let m0 := B.length
 mk (bx x0 B fun a b =>
 mk (ob (ldN true 2 a b) fun c =>
 callS false EE 22 [c] b fun d e =>
 ob (xun PP .not d) fun f =>
 Z1F (shr f) e))) := (E_eq PP XX HH _ _ _).trans (by kernel_rfl)
def ZyV := Z2A Tryd.f98
def Zvz := l2 (l2 ZyV)
def ZC9 := l2 (l2 (l1 (l1 (l2 ZyV))))
def Zvv (m0 : Nat) : Kont := kret PP HH 98 Tryd.f98.results
def ZHY := kseq HH 98 m0 Zvz (exec PP HH 98 m0 EE LL Zvz (Zvv m0)) (Zvv m0)
def Zvw := kblk 0 (ZHY m0)
def Zvx := exec PP HH 98 m0 EE LL (l1 (l2 (l1 (l1 (l2 ZyV))))) (Zvw m0) [(0, x0)] B
def ZqJ := exec PP HH 98 m0 EE LL ZC9 (Zvw m0) [(0, x0)] B
def Zvy := exec PP HH 98 m0 EE LL (l1 (l2 ZC9)) (Zvw m0) [(0, x0)] B
def ZqK := exec PP HH 98 m0 EE LL Zvz (Zvv m0) [] B
theorem ZC5 : Zvx m0 x0 B =
 mk (ob (xbin PP .sub 3 (shr x0) (iv 48)) fun a =>
 Z1F (shr a) B) := by kernel_rfl
theorem ZC6 : ZqJ m0 x0 B =
 mk (ob (xbin PP .geq 3 (shr x0) (iv 97)) fun a =>
 asB (shr a) fun b => br b (ob (xbin PP .leq 3 (shr x0) (iv 102)) fun c =>
 asB (shr (shr c)) fun d => br d (Zvy m0 x0 (gcB m0 [x0] B))
 (ZqK m0 (gcB m0 [] B)))
 (ZqK m0 (gcB m0 [] B))) := by kernel_rfl
theorem ZC7 : Zvy m0 x0 B =
 mk (ob (xbin PP .sub 3 (shr x0) (iv 97)) fun a =>
 ob (xbin PP .add 3 a (iv 10)) fun b =>
 Z1F (shr b) B) := by kernel_rfl
theorem ZC8 : ZqK m0 B =
 mk (Z1F (iv (-1)) B) := by kernel_rfl
theorem ZHX : EE 98 [x0] B =
 (let m0 := B.length
 mk (mk (ob (xbin PP .geq 3 (shr x0) (iv 48)) fun a =>
 asB (shr a) fun b => br b (ob (xbin PP .leq 3 (shr x0) (iv 57)) fun c =>
 asB (shr (shr c)) fun d => br d (Zvx m0 x0 (gcB m0 [x0] B))
 (ZqJ m0 x0 (gcB m0 [x0] B)))
 (ZqJ m0 x0 (gcB m0 [x0] B))))) := (E_eq PP XX HH _ _ _).trans (by kernel_rfl)
def ZzV := Z2A Tryd.f104
def ZrE := l2 (l2 ZzV)
def ZnU := l1 (l1 (l2 (l1 (l2 ZzV))))
def Zx7 := l2 (l2 ZnU)
def Zrz (m0 : Nat) : Kont := kret PP HH 104 Tryd.f104.results
def ZFb := kseq HH 104 m0 ZrE (exec PP HH 104 m0 EE LL ZrE (Zrz m0)) (Zrz m0)
def ZrA := kblk 0 (ZFb m0)
def Zx6 := kloop HH 104 m0 ZnU (LL 104 m0 ZnU (ZrA m0)) (ZrA m0)
def Zkp := lp (LL 104 m0 ZnU (ZrA m0) [(0, x0), (1, x1), (7, x7), (8, x8)] B)
def ZrB := exec PP HH 104 m0 EE LL Zx7 (Zx6 m0) [(0, x0), (1, x1), (7, x7), (8, x8)] B
def ZrD := exec PP HH 104 m0 EE LL ZrE (Zrz m0) [] B
def ZrC := exec PP HH 104 m0 EE LL (l2 Zx7) (Zx6 m0) [(0, x0), (1, x1), (7, x7), (8, x8)] B
theorem ZxS : Zkp m0 x0 x1 x7 x8 B =
 mk (ob (xbin PP .lss 3 x8 x7) fun a =>
 asB a fun b => br b (ZrB m0 x0 x1 x7 x8 (gcB m0 [x0, x1, x7, x8] B))
 (ZrD m0 (gcB m0 [] B))) := lq_ (by kernel_rfl)
theorem ZxT : ZrB m0 x0 x1 x7 x8 B =
 mk (mk (ob (xidx 2 (shr x0) (shr (shr (shr x8)))) fun a =>
 ob (ldN true 2 a B) fun b =>
 callV HH EE (shr x1) [b] B fun c d =>
 asB c fun e => br e (mk (Z1F (shr (shr (shr (shr x8)))) d))
 (ZrC m0 x0 x1 x7 x8 (gcB m0 [x0, x1, x7, x8] d)))) := by kernel_rfl
theorem ZxV : ZrD m0 B =
 mk (Z1F (iv (-1)) B) := by kernel_rfl
theorem ZxU : ZrC m0 x0 x1 x7 x8 B =
 mk (ob (xbin PP .add 3 x8 (iv 1)) fun a =>
 Zkp m0 x0 x1 x7 (shr a) (gcB m0 [x0, x1, x7, (shr a)] B)) := by kernel_rfl
theorem ZFa : EE 104 [x0, x1] B =
 (let m0 := B.length
 mk (mk (ob (xlen PP 27 (shr x0)) fun a =>
 Zkp m0 x0 x1 a (iv 0) (gcB m0 [x0, x1, a, (iv 0)] B)))) := (E_eq PP XX HH _ _ _).trans (by kernel_rfl)
end Go.Proofs.YtocikhhkicahoaaDoor.N2
end
