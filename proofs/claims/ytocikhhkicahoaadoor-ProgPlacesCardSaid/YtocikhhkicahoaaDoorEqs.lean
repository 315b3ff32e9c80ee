/- The functions' equations, by the evaluator. No condition. -/
import Derived.Test.YtocikhhkicahoaaDoorEvA
import Derived.Test.YtocikhhkicahoaaDoorProg
import Derived.KernelRfl
import Derived.Test.YtocikhhkicahoaaDoorEvD

set_option linter.unusedSimpArgs false
set_option linter.unusedVariables false
set_option linter.defProp false
section
namespace Go.Proofs.YtocikhhkicahoaaDoor.N2
open Go Go.Abs
def ZHG : FuncId → Nat → Option (List Nat) := fun f r => (([(3, [(7, [3]), (10, []), (13, [3, 6, 8, 54, 55, 56]), (37, [3, 6, 8, 11, 54, 55, 56]), (39, [3, 6, 8, 54, 55, 56]), (14, [3, 6, 8, 54, 55, 56]), (40, [3, 8]), (11, [3, 6]), (8, [0, 3]), (5, [0]), (3, [0])]),
 (8, [(4, []), (5, [1, 4])]),
 (9, [(4, [5])]),
 (10, [(7, [2, 3, 4, 5]), (9, [2, 3, 4, 5, 50, 51, 52]), (13, [2, 3, 4, 5, 50, 51, 52]), (10, [2, 3, 4, 5, 50, 51, 52]), (16, [2, 3, 4, 5]), (14, [2, 3, 4, 5]), (8, [2, 3, 4, 5]), (3, [0, 2, 3])]),
 (11, [(3, [1, 3, 8, 9, 10]), (4, [1, 3, 8, 9, 10]), (24, [1, 3]), (26, [3]), (7, [1, 3])]),
 (12, [(3, [3, 6, 7, 8]), (6, []), (7, [5, 6, 7, 8]), (8, [3, 6, 7, 8]), (4, [3, 6, 7, 8]), (9, [])]),
 (13, [(3, [3, 6, 7, 8]), (7, [3, 6, 7, 8]), (4, [3, 6, 7, 8]), (8, [3])]),
 (14, [(5, [0, 4, 5]), (8, [0, 4, 5]), (6, [0, 4, 5]), (7, [0, 4, 5]), (9, [4]), (3, [0])]),
 (17, [(3, [0])]),
 (18, [(4, [1])]),
 (19, [(2, []), (3, [0, 1])]),
 (20, [(2, [0, 2, 3]), (3, [0, 2, 3]), (4, [2, 3])]),
 (21, [(2, [0])]),
 (26, [(4, [3, 4, 7, 8, 9]), (8, [3, 6, 7, 8, 9]), (9, [3, 4, 7, 8, 9]), (5, [3, 4, 7, 8, 9]), (12, [3]), (10, [3, 4])]),
 (27, [(5, [])]),
 (29, [(6, [2, 4]), (10, [2, 36, 37, 38]), (11, [2, 36, 37, 38]), (28, [2, 7]), (33, [2, 3, 8])]),
 (30, [(2, [0, 2, 3]), (7, [0, 2, 3]), (3, [0, 2, 3]), (9, [2, 3])]),
 (31, [(6, [0, 1, 4])]),
 (38, [(4, []), (2, [1]), (5, [1])]),
 (39, [(2, []), (3, [0, 1])]),
 (40, [(3, [0, 1, 4, 5, 16, 17, 18]), (4, [0, 1, 4, 5, 16, 17, 18]), (12, [0, 51, 52, 53]), (13, [0, 51, 52, 53]), (10, [0, 1, 4, 5])]),
 (43, [(3, [0, 3, 4, 13, 14]), (7, [0, 3, 4, 13, 14]), (4, [0, 3, 4, 13, 14]), (12, [0, 3, 4, 6, 49, 50]), (13, [0, 3, 4, 6, 49, 50]), (17, [0, 4, 65, 66, 67]), (18, [0, 4, 65, 66, 67]), (16, [0, 4, 6]), (10, [0, 3, 4]), (8, [0, 3, 4])]),
 (44, [(8, [2, 3, 23, 24, 25]), (9, [2, 3, 23, 24, 25]), (16, [2, 3, 45, 46, 47]), (21, [2, 45, 46, 47]), (22, [2, 3, 11, 45, 46, 47]), (23, [2, 3, 45, 46, 47]), (17, [2, 3, 45, 46, 47]), (30, [2, 3])]),
 (47, [(3, [0])]),
 (48, [(26, [2])]),
 (49, [(17, [6, 8]), (13, [0, 6, 8]), (11, [0, 2, 6, 7, 8])]),
 (50, [(2, [0, 1, 7, 8]), (6, [0, 1, 7, 8]), (3, [0, 1, 7, 8]), (7, [])]),
 (58, [(2, [0, 1, 2, 3])]),
 (60, [(2, []), (3, [0, 1])]),
 (61, [(4, []), (2, []), (3, [0, 1]), (5, [0, 1])]),
 (62, [(2, []), (5, [0, 1]), (6, [6, 7]), (3, [0, 1])]),
 (64, [(4, [4, 5])]),
 (66, [(13, [0, 1, 4, 5]), (15, [0, 1, 4, 5]), (5, [0, 1, 4, 5])]),
 (67, [(5, [0, 1, 4, 5, 6, 7, 8]), (18, [4, 6]), (15, [0, 4, 5, 6]), (32, [0, 1, 4, 5, 6, 7, 8, 9]), (35, [0, 1, 4, 5, 6, 7, 8, 9, 11, 15]), (33, [0, 1, 4, 5, 6, 7, 8, 9, 11]), (36, [0, 1, 4, 5, 6, 7, 8, 11, 15]), (28, [0, 1, 4, 5, 6, 7, 8, 9, 11]), (22, [0, 1, 4, 5, 6, 7, 8, 9]), (6, [0, 1, 4, 5, 6, 7, 8]), (7, [0, 1, 4, 5, 6, 7, 8]), (38, [4])]),
 (68, [(19, [0, 1, 4, 7]), (23, [4, 7]), (20, [0, 4, 7]), (17, [0, 1, 4]), (4, [0, 1, 4])]),
 (69, [(7, [4]), (8, [0, 1, 4]), (6, [0, 1, 4]), (10, [0, 1, 4, 5]), (11, [4, 5]), (9, [0, 1, 4, 5])]),
 (73, [(2, [0, 1, 7, 8]), (6, [0, 1, 7, 8]), (3, [0, 1, 7, 8]), (7, [])]),
 (75, [(3, [0])]),
 (77, [(3, [0])]),
 (78, [(11, [])]),
 (79, [(16, [1]), (17, [0, 2])]),
 (81, [(13, [0, 2, 5]), (9, [0, 2, 5]), (5, [0, 5])]),
 (82, [(2, [0, 1, 7, 8]), (6, [0, 1, 7, 8]), (3, [0, 1, 7, 8]), (7, [])]),
 (84, [(3, [0, 3, 4]), (5, [0, 3, 4]), (6, [3])]),
 (98, [(4, [0]), (2, [0]), (3, [0]), (5, [])]),
 (104, [(2, [0, 1, 7, 8]), (6, [0, 1, 7, 8]), (3, [0, 1, 7, 8]), (7, [])])] : List (Nat × List (Nat × List Nat))).lookup f).bind (·.lookup r)
def ownT : FuncId → List Nat := fun f =>
 if f = 14 then [4, 9, 26] else
 if f = 20 then [3, 9] else
 if f = 26 then [3, 17, 31] else
 if f = 28 then [9, 12] else
 if f = 30 then [3, 23] else
 if f = 40 then [4, 28] else
 if f = 43 then [6, 52] else
 if f = 66 then [44] else
 if f = 78 then [2] else
 if f = 81 then [3, 6, 29] else
 []
def rawT : FuncId → Bool := fun f => if f = 23 then true else if f = 78 then true else if f = 81 then true else false
def ZHM : FuncId → List Nat := fun f => []
def alT : FuncId → List Nat := fun f => if f = 40 then [60] else if f = 41 then [18] else if f = 58 then [16, 21] else []
def fzT : FuncId → List Nat := fun f => if f = 18 then [31] else []
def mzT : FuncId → List (Nat × List (Nat × Nat)) := fun f => if f = 18 then [(14, [(0, 6)])] else []
def HH : Hints := ⟨ZHG, ownT, rawT, ZHM, alT, fzT, mzT⟩
def XX : FuncId → Option (List AV → List Row → Option Res) := fun f => if f = 23 then some ZkQ else if f = 25 then some ZkS else if f = 57 then some ZkR else if f = 76 then some ZnJ else none
noncomputable abbrev PP : Program := Tryd.prog
noncomputable abbrev EE : GF := E PP XX HH
noncomputable abbrev LL : LF := L PP XX HH
end Go.Proofs.YtocikhhkicahoaaDoor.N2
end
noncomputable section
namespace Go.Proofs.YtocikhhkicahoaaDoor.N2
open Go Go.Abs
set_option maxRecDepth 100000
variable (m0 : Nat) (x0 x1 x2 x3 x4 x5 x6 x7 x8 x9 x10 x11 x13 x14 x15 x16 x17 x18 x23 x24 x25 x36 x37 x38 x45 x46 x47 x49 x50 x51 x52 x53 x54 x55 x56 x65 x66 x67 : AV) (B : List Row)
theorem lq_ {f m0 : Nat} {c : Code} {K : Kont} {sl : Sl} {B : List Row} {r : Option Res} (h : exec PP HH f m0 EE LL c (kloop HH f m0 c (LL f m0 c K) K) sl B = r) : LL f m0 c K sl B = r := (L_eq PP XX HH f m0 c K sl B).trans h
def ZHW := Z2G Tryd.f3
def Zst := l2 (l2 ZHW)
def ZpA := l2 (l2 (l2 Zst))
def ZpB := l2 (l2 ZpA)
def Zxw := l2 (l2 ZpB)
def Zsu := l1 (l1 (l2 (l1 (l2 ZpB))))
def ZpC := l2 (l2 Zsu)
def Z1M (r0 : AV) (B : List Row) : Option Res :=
 ob (ob (some r0) fun v => ob (some []) fun vs => some (v :: vs)) fun vs => some ((nrmA (match vs with | [v] => v | vs => Z91 (vs.map shr))), B)
def ZeU (m0 : Nat) : Kont := kret PP HH 3 Tryd.f3.results
def ZHl := kseq HH 3 m0 ZpA (exec PP HH 3 m0 EE LL ZpA (ZeU m0)) (ZeU m0)
def ZHm := kseq HH 3 m0 ZpB (exec PP HH 3 m0 EE LL ZpB (ZeU m0)) (ZeU m0)
def ZHn := kseq HH 3 m0 Zxw (exec PP HH 3 m0 EE LL Zxw (ZeU m0)) (ZeU m0)
def Zxs := kblk 0 (ZHn m0)
def Zsr := kloop HH 3 m0 Zsu (LL 3 m0 Zsu (Zxs m0)) (Zxs m0)
def ZHo := kseq HH 3 m0 (l2 ZpC) (exec PP HH 3 m0 EE LL (l2 ZpC) (Zsr m0)) (Zsr m0)
def ZHp := kblk 1 (ZHo m0)
def Zxt := exec PP HH 3 m0 EE LL Zst (ZeU m0) [(0, x0)] B
def Zxu := exec PP HH 3 m0 EE LL (l2 Zst) (ZeU m0) [(0, x0)] B
def Zss := exec PP HH 3 m0 EE LL (l1 (l2 (l1 (l2 (l2 Zst))))) (ZHl m0) [(3, x3)] B
def Zxv := exec PP HH 3 m0 EE LL ZpA (ZeU m0) [(0, x0), (3, x3)] B
def Zpz := exec PP HH 3 m0 EE LL (l1 (l2 (l1 (l2 ZpA)))) (ZHm m0) [] B
def ZtH := exec PP HH 3 m0 EE LL ZpB (ZeU m0) [(3, x3), (6, x6)] B
def Zmg := lp (LL 3 m0 Zsu (Zxs m0) [(3, x3), (6, x6), (8, x8), (54, x54), (55, x55), (56, x56)] B)
def ZtI := exec PP HH 3 m0 EE LL ZpC (Zsr m0) [(3, x3), (6, x6), (8, x8), (54, x54), (55, x55), (56, x56)] B
def ZtK := exec PP HH 3 m0 EE LL Zxw (ZeU m0) [(3, x3), (8, x8)] B
def Z3T := exec PP HH 3 m0 EE LL (l2 (l2 (l2 (l1 (l1 ZpC))))) (ZHp m0) [(3, x3), (6, x6), (8, x8), (11, x11), (54, x54), (55, x55), (56, x56)] B
def ZtJ := exec PP HH 3 m0 EE LL (l2 ZpC) (Zsr m0) [(3, x3), (6, x6), (8, x8), (54, x54), (55, x55), (56, x56)] B
theorem ZCy : Zxt m0 x0 B =
 mk (ob (xlen PP 9 (shr x0)) fun a =>
 ob (xbin PP .gtr 3 a (iv 400)) fun b =>
 asB b fun c => br c (mk (Z1M (bv true) B))
 (Zxu m0 x0 (gcB m0 [x0] B))) := by kernel_rfl
theorem ZCz : Zxu m0 x0 B =
 mk (callS false EE 9 [(shr x0)] B fun a b =>
 ob (xext 0 (shr a)) fun c =>
 ob (xext 1 (shr a)) fun d =>
 ob (xext 2 (shr a)) fun e =>
 mk (ob (xbin PP .neq 24 (shr (shr (shr d))) (iv 0)) fun f =>
 asB (shr f) fun g => br g (Zss m0 (shr (shr c)) (gcB m0 [(shr (shr c))] b))
 (ob (xbin PP .neq 24 (shr (shr (shr e))) (iv 0)) fun h =>
 asB (shr h) fun i => br i (Zss m0 (shr (shr c)) (gcB m0 [(shr (shr c))] b))
 (Zxv m0 x0 (shr (shr c)) (gcB m0 [x0, (shr (shr c))] b))))) := by kernel_rfl
theorem ZCA : Zss m0 x3 B =
 mk (ob (xlen PP 23 (shr x3)) fun a =>
 ob (xbin PP .eql 3 a (iv 0)) fun b =>
 Z1M (shr b) B) := by kernel_rfl
theorem ZCB : Zxv m0 x0 x3 B =
 mk (callS false EE 10 [(shr x0)] B fun a b =>
 ob (xext 0 (shr a)) fun c =>
 ob (xext 1 (shr a)) fun d =>
 bz PP 33 b fun e f =>
 bz PP 35 f fun g h =>
 stN 9 e (shr c) h fun i =>
 stN 2 g (shr d) i fun j =>
 mk (ob (xlen PP 23 (shr x3)) fun k =>
 ob (xfld 0 e) fun l =>
 ob (ldN true 7 l j) fun n =>
 callS false EE 11 [n] j fun o p =>
 ob (xbin PP .add 3 o (iv 3)) fun q =>
 ob (xbin PP .neq 3 k q) fun r =>
 asB (shr r) fun s => br s (Zpz m0 (gcB m0 [] p))
 (ob (xlen PP 23 (shr x3)) fun t =>
 ob (xbin PP .sub 3 t (iv 1)) fun u =>
 ob (xidx 6 (shr x3) u) fun v =>
 ob (xfld 0 v) fun w =>
 ob (ldN false 1 w p) fun x =>
 ob (xbin PP .neq 3 x (iv 0)) fun y =>
 asB (shr y) fun z => br z (Zpz m0 (gcB m0 [] p))
 (ZtH m0 x3 e (gcB m0 [x3, e] p))))) := by kernel_rfl
theorem ZA7 : Zpz m0 B =
 mk (Z1M (bv false) B) := by kernel_rfl
theorem ZA8 : ZtH m0 x3 x6 B =
 mk (mk (ob (xlen PP 23 (shr x3)) fun a =>
 Zmg m0 x3 x6 (iv 0) (shr x3) a (iv 0) (gcB m0 [x3, x6, (iv 0), (shr x3), a, (iv 0)] B))) := by kernel_rfl
theorem ZA6 : Zmg m0 x3 x6 x8 x54 x55 x56 B =
 mk (ob (xbin PP .lss 3 x56 x55) fun a =>
 asB a fun b => br b (ZtI m0 x3 x6 x8 x54 x55 x56 (gcB m0 [x3, x6, x8, x54, x55, x56] B))
 (ZtK m0 x3 x8 (gcB m0 [x3, x8] B))) := lq_ (by kernel_rfl)
theorem ZA9 : ZtI m0 x3 x6 x8 x54 x55 x56 B =
 mk (ob (xidx 6 x54 x56) fun a =>
 ob (ldN true 6 a B) fun b =>
 bz PP 40 B fun c d =>
 stN 6 c b d fun e =>
 mk (mk (ob (xfld 0 c) fun f =>
 ob (ldN false 1 f e) fun g =>
 mk (ob (xbin PP .eql 3 g (iv 0)) fun h =>
 asB (shr h) fun i => br i (mk (ob (xlen PP 23 (shr x3)) fun j =>
 ob (xbin PP .sub 3 j (iv 1)) fun k =>
 ob (xbin PP .eql 3 (shr (shr (shr x56))) k) fun l =>
 Z3T m0 x3 x6 x8 (shr l) x54 x55 x56 (gcB m0 [x3, x6, x8, (shr l), x54, x55, x56] e)))
 (mk (ob (xbin PP .eql 3 g (iv 1)) fun n =>
 asB (shr n) fun o => br o (mk (ob (xfld 5 c) fun p =>
 ob (ldN false 1 p e) fun q =>
 callS false EE 12 [q] e fun r s =>
 Z3T m0 x3 x6 x8 (shr r) x54 x55 x56 (gcB m0 [x3, x6, x8, (shr r), x54, x55, x56] s)))
 (mk (ob (xbin PP .eql 3 g (iv 2)) fun t =>
 asB (shr t) fun u => br u (mk (ob (xfld 1 c) fun v =>
 ob (ldN false 1 v e) fun w =>
 ob (xbin PP .geq 3 w (iv 0)) fun x =>
 asB (shr x) fun y => br y (ob (xfld 1 c) fun z =>
 ob (ldN false 1 z e) fun A =>
 ob (xlen PP 23 (shr x3)) fun C =>
 ob (xbin PP .lss 3 A C) fun D =>
 Z3T m0 x3 x6 x8 (shr (shr D)) x54 x55 x56 (gcB m0 [x3, x6, x8, (shr (shr D)), x54, x55, x56] e))
 (Z3T m0 x3 x6 x8 (bv false) x54 x55 x56 (gcB m0 [x3, x6, x8, (bv false), x54, x55, x56] e))))
 (mk (ob (xbin PP .eql 3 g (iv 3)) fun F =>
 asB (shr F) fun G => br G (mk (ob (xfld 1 c) fun I =>
 ob (ldN false 1 I e) fun J =>
 ob (xbin PP .gtr 3 J (shr (shr (shr x56)))) fun M =>
 asB (shr M) fun N => br N (ob (xfld 2 c) fun O =>
 ob (ldN false 1 O e) fun Q =>
 ob (xbin PP .gtr 3 Q (shr (shr (shr x56)))) fun R =>
 asB (shr (shr R)) fun S => br S (ob (xfld 1 c) fun T =>
 ob (ldN false 1 T e) fun U =>
 ob (xlen PP 23 (shr x3)) fun V =>
 ob (xbin PP .lss 3 U V) fun W =>
 asB (shr (shr W)) fun Y => br Y (ob (xfld 2 c) fun Z =>
 ob (ldN false 1 Z e) fun a0 =>
 ob (xlen PP 23 (shr x3)) fun a1 =>
 ob (xbin PP .lss 3 a0 a1) fun a2 =>
 asB (shr (shr a2)) fun a3 => br a3 (ob (xfld 1 c) fun a4 =>
 ob (ldN false 1 a4 e) fun a5 =>
 ob (xfld 2 c) fun a6 =>
 ob (ldN false 1 a6 e) fun a7 =>
 ob (Z6W PP false [a5, a7]) fun a8 =>
 ob (xbin PP .add 3 (shr (shr (shr x56))) (iv 1)) fun a9 =>
 ob (xbin PP .eql 3 a8 a9) fun a10 =>
 Z3T m0 x3 x6 x8 (shr (shr a10)) x54 x55 x56 (gcB m0 [x3, x6, x8, (shr (shr a10)), x54, x55, x56] e))
 (Z3T m0 x3 x6 x8 (bv false) x54 x55 x56 (gcB m0 [x3, x6, x8, (bv false), x54, x55, x56] e)))
 (Z3T m0 x3 x6 x8 (bv false) x54 x55 x56 (gcB m0 [x3, x6, x8, (bv false), x54, x55, x56] e)))
 (Z3T m0 x3 x6 x8 (bv false) x54 x55 x56 (gcB m0 [x3, x6, x8, (bv false), x54, x55, x56] e)))
 (Z3T m0 x3 x6 x8 (bv false) x54 x55 x56 (gcB m0 [x3, x6, x8, (bv false), x54, x55, x56] e))))
 (mk (ob (xbin PP .eql 3 g (iv 4)) fun a11 =>
 asB (shr a11) fun a12 => br a12 (mk (ob (xfld 1 c) fun a13 =>
 ob (ldN false 1 a13 e) fun a14 =>
 ob (xbin PP .geq 3 a14 (iv 0)) fun a15 =>
 asB (shr a15) fun a16 => br a16 (ob (xfld 1 c) fun a17 =>
 ob (ldN false 1 a17 e) fun a18 =>
 ob (xfld 7 x6) fun a19 =>
 ob (ldN false 1 a19 e) fun a20 =>
 ob (xbin PP .mul 3 (iv 2) a20) fun a21 =>
 ob (xbin PP .add 3 a21 (iv 2)) fun a22 =>
 ob (xbin PP .lss 3 a18 a22) fun a23 =>
 Z3T m0 x3 x6 x8 (shr (shr a23)) x54 x55 x56 (gcB m0 [x3, x6, x8, (shr (shr a23)), x54, x55, x56] e))
 (Z3T m0 x3 x6 x8 (bv false) x54 x55 x56 (gcB m0 [x3, x6, x8, (bv false), x54, x55, x56] e))))
 (mk (ob (xbin PP .eql 3 g (iv 5)) fun a24 =>
 asB (shr a24) fun a25 => br a25 (mk (ob (xfld 1 c) fun a26 =>
 ob (ldN false 1 a26 e) fun a27 =>
 ob (xbin PP .geq 3 a27 (iv 1)) fun a28 =>
 asB (shr a28) fun a29 => br a29 (ob (xfld 1 c) fun a30 =>
 ob (ldN false 1 a30 e) fun a31 =>
 ob (xfld 7 x6) fun a32 =>
 ob (ldN false 1 a32 e) fun a33 =>
 ob (xbin PP .leq 3 a31 a33) fun a34 =>
 Z3T m0 x3 x6 x8 (shr (shr a34)) x54 x55 x56 (gcB m0 [x3, x6, x8, (shr (shr a34)), x54, x55, x56] e))
 (Z3T m0 x3 x6 x8 (bv false) x54 x55 x56 (gcB m0 [x3, x6, x8, (bv false), x54, x55, x56] e))))
 (mk (ob (xbin PP .eql 3 g (iv 7)) fun a35 =>
 asB (shr a35) fun a36 => br a36 (asB (shr a35) fun a37 => br a37 (mk (ob (xfld 2 c) fun a38 =>
 ob (ldN false 1 a38 e) fun a39 =>
 ob (xbin PP .add 3 (shr (shr (shr x56))) (iv 1)) fun a40 =>
 ob (xbin PP .gtr 3 a39 a40) fun a41 =>
 asB (shr a41) fun a42 => br a42 (ob (xfld 2 c) fun a43 =>
 ob (ldN false 1 a43 e) fun a44 =>
 ob (xlen PP 23 (shr x3)) fun a45 =>
 ob (xbin PP .lss 3 a44 a45) fun a46 =>
 asB (shr (shr a46)) fun a47 => br a47 (ob (xfld 2 c) fun a48 =>
 ob (ldN false 1 a48 e) fun a49 =>
 ob (xbin PP .sub 3 a49 (iv 1)) fun a50 =>
 ob (xidx 6 (shr x3) a50) fun a51 =>
 ob (xfld 0 a51) fun a52 =>
 ob (ldN false 1 a52 e) fun a53 =>
 ob (xbin PP .eql 3 a53 (iv 9)) fun a54 =>
 Z3T m0 x3 x6 x8 (shr (shr a54)) x54 x55 x56 (gcB m0 [x3, x6, x8, (shr (shr a54)), x54, x55, x56] e))
 (Z3T m0 x3 x6 x8 (bv false) x54 x55 x56 (gcB m0 [x3, x6, x8, (bv false), x54, x55, x56] e)))
 (Z3T m0 x3 x6 x8 (bv false) x54 x55 x56 (gcB m0 [x3, x6, x8, (bv false), x54, x55, x56] e))))
 (mk (ob (xbin PP .eql 3 g (iv 10)) fun a55 =>
 asB (shr a55) fun a56 => br a56 (mk (ob (xfld 1 c) fun a57 =>
 ob (ldN false 1 a57 e) fun a58 =>
 ob (xbin PP .eql 3 a58 (shr x8)) fun a59 =>
 mk (ob (xbin PP .add 3 (shr x8) (iv 1)) fun a60 =>
 Z3T m0 x3 x6 (shr a60) (shr a59) x54 x55 x56 (gcB m0 [x3, x6, (shr a60), (shr a59), x54, x55, x56] e))))
 (mk (ob (xbin PP .eql 3 g (iv 11)) fun a61 =>
 asB (shr a61) fun a62 => br a62 (mk (ob (xfld 1 c) fun a63 =>
 ob (ldN false 1 a63 e) fun a64 =>
 ob (xbin PP .lss 3 a64 (shr x8)) fun a65 =>
 asB (shr a65) fun a66 => br a66 (ob (xbin PP .add 3 (shr (shr (shr x56))) (iv 1)) fun a67 =>
 ob (xidx 6 (shr x3) a67) fun a68 =>
 ob (xfld 0 a68) fun a69 =>
 ob (ldN false 1 a69 e) fun a70 =>
 ob (xbin PP .eql 3 a70 (iv 2)) fun a71 =>
 asB (shr (shr a71)) fun a72 => br a72 (ob (xbin PP .add 3 (shr (shr (shr x56))) (iv 1)) fun a73 =>
 ob (xidx 6 (shr x3) a73) fun a74 =>
 ob (xfld 1 a74) fun a75 =>
 ob (ldN false 1 a75 e) fun a76 =>
 ob (xidx 6 (shr x3) a76) fun a77 =>
 ob (xfld 0 a77) fun a78 =>
 ob (ldN false 1 a78 e) fun a79 =>
 ob (xbin PP .eql 3 a79 (iv 3)) fun a80 =>
 Z3T m0 x3 x6 x8 (shr (shr a80)) x54 x55 x56 (gcB m0 [x3, x6, x8, (shr (shr a80)), x54, x55, x56] e))
 (Z3T m0 x3 x6 x8 (bv false) x54 x55 x56 (gcB m0 [x3, x6, x8, (bv false), x54, x55, x56] e)))
 (Z3T m0 x3 x6 x8 (bv false) x54 x55 x56 (gcB m0 [x3, x6, x8, (bv false), x54, x55, x56] e))))
 (Z3T m0 x3 x6 x8 (bv true) x54 x55 x56 (gcB m0 [x3, x6, x8, (bv true), x54, x55, x56] e)))))))
 (mk (ob (xbin PP .eql 3 g (iv 8)) fun a81 =>
 asB (shr a81) fun a82 => br a82 (mk (ob (xfld 2 c) fun a83 =>
 ob (ldN false 1 a83 e) fun a84 =>
 ob (xbin PP .add 3 (shr (shr (shr x56))) (iv 1)) fun a85 =>
 ob (xbin PP .gtr 3 a84 a85) fun a86 =>
 asB (shr a86) fun a87 => br a87 (ob (xfld 2 c) fun a88 =>
 ob (ldN false 1 a88 e) fun a89 =>
 ob (xlen PP 23 (shr x3)) fun a90 =>
 ob (xbin PP .lss 3 a89 a90) fun a91 =>
 asB (shr (shr a91)) fun a92 => br a92 (ob (xfld 2 c) fun a93 =>
 ob (ldN false 1 a93 e) fun a94 =>
 ob (xbin PP .sub 3 a94 (iv 1)) fun a95 =>
 ob (xidx 6 (shr x3) a95) fun a96 =>
 ob (xfld 0 a96) fun a97 =>
 ob (ldN false 1 a97 e) fun a98 =>
 ob (xbin PP .eql 3 a98 (iv 9)) fun a99 =>
 Z3T m0 x3 x6 x8 (shr (shr a99)) x54 x55 x56 (gcB m0 [x3, x6, x8, (shr (shr a99)), x54, x55, x56] e))
 (Z3T m0 x3 x6 x8 (bv false) x54 x55 x56 (gcB m0 [x3, x6, x8, (bv false), x54, x55, x56] e)))
 (Z3T m0 x3 x6 x8 (bv false) x54 x55 x56 (gcB m0 [x3, x6, x8, (bv false), x54, x55, x56] e))))
 (mk (ob (xbin PP .eql 3 g (iv 10)) fun a100 =>
 asB (shr a100) fun a101 => br a101 (mk (ob (xfld 1 c) fun a102 =>
 ob (ldN false 1 a102 e) fun a103 =>
 ob (xbin PP .eql 3 a103 (shr x8)) fun a104 =>
 mk (ob (xbin PP .add 3 (shr x8) (iv 1)) fun a105 =>
 Z3T m0 x3 x6 (shr a105) (shr a104) x54 x55 x56 (gcB m0 [x3, x6, (shr a105), (shr a104), x54, x55, x56] e))))
 (mk (ob (xbin PP .eql 3 g (iv 11)) fun a106 =>
 asB (shr a106) fun a107 => br a107 (mk (ob (xfld 1 c) fun a108 =>
 ob (ldN false 1 a108 e) fun a109 =>
 ob (xbin PP .lss 3 a109 (shr x8)) fun a110 =>
 asB (shr a110) fun a111 => br a111 (ob (xbin PP .add 3 (shr (shr (shr x56))) (iv 1)) fun a112 =>
 ob (xidx 6 (shr x3) a112) fun a113 =>
 ob (xfld 0 a113) fun a114 =>
 ob (ldN false 1 a114 e) fun a115 =>
 ob (xbin PP .eql 3 a115 (iv 2)) fun a116 =>
 asB (shr (shr a116)) fun a117 => br a117 (ob (xbin PP .add 3 (shr (shr (shr x56))) (iv 1)) fun a118 =>
 ob (xidx 6 (shr x3) a118) fun a119 =>
 ob (xfld 1 a119) fun a120 =>
 ob (ldN false 1 a120 e) fun a121 =>
 ob (xidx 6 (shr x3) a121) fun a122 =>
 ob (xfld 0 a122) fun a123 =>
 ob (ldN false 1 a123 e) fun a124 =>
 ob (xbin PP .eql 3 a124 (iv 3)) fun a125 =>
 Z3T m0 x3 x6 x8 (shr (shr a125)) x54 x55 x56 (gcB m0 [x3, x6, x8, (shr (shr a125)), x54, x55, x56] e))
 (Z3T m0 x3 x6 x8 (bv false) x54 x55 x56 (gcB m0 [x3, x6, x8, (bv false), x54, x55, x56] e)))
 (Z3T m0 x3 x6 x8 (bv false) x54 x55 x56 (gcB m0 [x3, x6, x8, (bv false), x54, x55, x56] e))))
 (Z3T m0 x3 x6 x8 (bv true) x54 x55 x56 (gcB m0 [x3, x6, x8, (bv true), x54, x55, x56] e)))))))))))))))))))))))) := by kernel_rfl
theorem ZAc : ZtK m0 x3 x8 B =
 mk (callS false EE 13 [(shr x3)] B fun a b =>
 ob (xbin PP .eql 3 a (shr x8)) fun c =>
 Z1M (shr c) b) := by kernel_rfl
theorem ZAa : Z3T m0 x3 x6 x8 x11 x54 x55 x56 B =
 mk (ob (xun PP .not (shr x11)) fun a =>
 asB a fun b => br b (mk (Z1M (bv false) B))
 (ZtJ m0 x3 x6 x8 x54 x55 x56 (gcB m0 [x3, x6, x8, x54, x55, x56] B))) := by kernel_rfl
theorem ZAb : ZtJ m0 x3 x6 x8 x54 x55 x56 B =
 mk (ob (xbin PP .add 3 x56 (iv 1)) fun a =>
 Zmg m0 x3 x6 x8 x54 x55 (shr a) (gcB m0 [x3, x6, x8, x54, x55, (shr a)] B)) := by kernel_rfl
theorem ZHk : EE 3 [x0] B =
 (let m0 := B.length
 mk (mk (callS false EE 8 [] B fun a b =>
 ob (xun PP .not a) fun c =>
 asB c fun d => br d (mk (Z1M (bv false) b))
 (Zxt m0 x0 (gcB m0 [x0] b))))) := (E_eq PP XX HH _ _ _).trans (by kernel_rfl)
def ZGJ := Z2G Tryd.f8
def Zyf := l2 (l2 (l2 (l2 ZGJ)))
def Zyd (m0 : Nat) : Kont := kret PP HH 8 Tryd.f8.results
def ZHC := kseq HH 8 m0 Zyf (exec PP HH 8 m0 EE LL Zyf (Zyd m0)) (Zyd m0)
def Zjk := exec PP HH 8 m0 EE LL (l1 (l2 (l1 (l2 (l2 (l2 ZGJ)))))) (ZHC m0) [] B
def Zye := exec PP HH 8 m0 EE LL Zyf (Zyd m0) [(1, x1), (4, x4)] B
theorem ZCC : Zjk m0 B =
 mk (Z1M (bv false) B) := by kernel_rfl
theorem ZCD : Zye m0 x1 x4 B =
 mk (ob (xidx 6 (shr x1) (iv 1)) fun a =>
 ob (xfld 0 a) fun b =>
 ob (ldN false 1 b B) fun c =>
 ob (xbin PP .eql 3 c (iv 3)) fun d =>
 asB (shr d) fun e => br e (ob (xidx 6 (shr x1) (iv 1)) fun f =>
 ob (xfld 1 f) fun g =>
 ob (ldN false 1 g B) fun h =>
 ob (xbin PP .eql 3 h (iv 2)) fun i =>
 asB (shr (shr i)) fun j => br j (ob (xidx 6 (shr x1) (iv 1)) fun k =>
 ob (xfld 2 k) fun l =>
 ob (ldN false 1 l B) fun n =>
 ob (xbin PP .eql 3 n (iv 4)) fun o =>
 asB (shr (shr o)) fun p => br p (ob (xidx 6 (shr x1) (iv 3)) fun q =>
 ob (xfld 0 q) fun r =>
 ob (ldN false 1 r B) fun s =>
 ob (xbin PP .eql 3 s (iv 2)) fun t =>
 asB (shr (shr t)) fun u => br u (ob (xidx 6 (shr x1) (iv 3)) fun v =>
 ob (xfld 1 v) fun w =>
 ob (ldN false 1 w B) fun x =>
 ob (xbin PP .eql 3 x (iv 5)) fun y =>
 asB (shr (shr y)) fun z => br z (ob (xidx 6 (shr x4) (iv 4)) fun A =>
 ob (xfld 0 A) fun C =>
 ob (ldN false 1 C B) fun D =>
 ob (xbin PP .eql 3 D (iv 11)) fun F =>
 asB (shr (shr F)) fun G => br G (ob (xidx 6 (shr x4) (iv 1)) fun I =>
 ob (xfld 2 I) fun J =>
 ob (ldN false 1 J B) fun M =>
 ob (xbin PP .eql 3 M (iv 6)) fun N =>
 asB (shr (shr N)) fun O => br O (callS false EE 13 [(shr x4)] B fun Q R =>
 ob (xbin PP .eql 3 Q (iv 1)) fun S =>
 Z1M (shr (shr S)) R)
 (Z1M (bv false) B))
 (Z1M (bv false) B))
 (Z1M (bv false) B))
 (Z1M (bv false) B))
 (Z1M (bv false) B))
 (Z1M (bv false) B))
 (Z1M (bv false) B)) := by kernel_rfl
theorem ZHB : EE 8 [] B =
 (let m0 := B.length
 mk (mk (callS false EE 9 [(.p (.v (.string (ByteArray.mk #[97, 124, 98]))))] B fun a b =>
 ob (xext 0 (shr a)) fun c =>
 ob (xext 1 (shr a)) fun d =>
 ob (xext 2 (shr a)) fun e =>
 mk (callS false EE 9 [(.p (.v (.string (ByteArray.mk #[97, 42]))))] b fun f g =>
 ob (xext 0 (shr f)) fun h =>
 ob (xext 1 (shr f)) fun i =>
 ob (xext 2 (shr f)) fun j =>
 mk (ob (xbin PP .neq 24 (shr (shr (shr d))) (iv 0)) fun k =>
 asB (shr k) fun l => br l (Zjk m0 (gcB m0 [] g))
 (ob (xbin PP .neq 24 (shr (shr (shr e))) (iv 0)) fun n =>
 asB (shr (shr n)) fun o => br o (Zjk m0 (gcB m0 [] g))
 (ob (xbin PP .neq 24 (shr (shr (shr i))) (iv 0)) fun q =>
 asB (shr (shr q)) fun r => br r (Zjk m0 (gcB m0 [] g))
 (ob (xbin PP .neq 24 (shr (shr (shr j))) (iv 0)) fun s =>
 asB (shr (shr s)) fun t => br t (Zjk m0 (gcB m0 [] g))
 (ob (xlen PP 23 (shr (shr (shr c)))) fun u =>
 ob (xbin PP .neq 3 u (iv 7)) fun w =>
 asB (shr (shr w)) fun x => br x (Zjk m0 (gcB m0 [] g))
 (ob (xlen PP 23 (shr (shr (shr h)))) fun y =>
 ob (xbin PP .neq 3 y (iv 8)) fun z =>
 asB (shr z) fun A => br A (Zjk m0 (gcB m0 [] g))
 (Zye m0 (shr (shr c)) (shr (shr h)) (gcB m0 [(shr (shr c)), (shr (shr h))] g)))))))))))) := (E_eq PP XX HH _ _ _).trans (by kernel_rfl)
def ZHX := Z2G Tryd.f9
def ZBj (r0 r1 r2 : AV) (B : List Row) : Option Res :=
 ob (ob (some r0) fun v => ob (ob (some r1) fun v => ob (ob (some r2) fun v => ob (some []) fun vs => some (v :: vs)) fun vs => some (v :: vs)) fun vs => some (v :: vs)) fun vs => some ((nrmA (match vs with | [v] => v | vs => Z91 (vs.map shr))), B)
def ZHE (m0 : Nat) : Kont := kret PP HH 9 Tryd.f9.results
def Zyh := exec PP HH 9 m0 EE LL (l2 (l2 (l2 ZHX))) (ZHE m0) [(5, x5)] B
theorem ZCE : Zyh m0 x5 B =
 mk (ob (ldN true 9 x5 B) fun a =>
 callS false EE 18 [a] B fun b c =>
 ob (xext 0 (shr b)) fun d =>
 ob (xext 1 (shr b)) fun e =>
 mk (ZBj (shr (shr (shr (shr d)))) (iv 0) (shr (shr (shr (shr e)))) c)) := by kernel_rfl
theorem ZHD : EE 9 [x0] B =
 (let m0 := B.length
 mk (mk (callS false EE 10 [(shr x0)] B fun a b =>
 ob (xext 0 (shr a)) fun c =>
 ob (xext 1 (shr a)) fun d =>
 bz PP 33 b fun e f =>
 bz PP 35 f fun g h =>
 stN 9 e (shr c) h fun i =>
 stN 2 g (shr d) i fun j =>
 mk (ob (xfld 0 g) fun k =>
 ob (ldN false 1 k j) fun l =>
 ob (xbin PP .neq 24 l (iv 0)) fun n =>
 asB n fun o => br o (mk (ob (xfld 0 g) fun p =>
 ob (ldN false 1 p j) fun q =>
 ZBj nilA (shr q) (iv 0) j))
 (Zyh m0 e (gcB m0 [e] j)))))) := (E_eq PP XX HH _ _ _).trans (by kernel_rfl)
def ZHd := Z2G Tryd.f10
def ZsT := l2 (l2 ZHd)
def Zgy := l2 (l2 (l2 (l2 ZsT)))
def Zpb := l1 (l1 (l2 (l1 Zgy)))
def Zzj := l2 (l2 Zpb)
def Zr7 (r0 r1 : AV) (B : List Row) : Option Res :=
 ob (ob (ldN true 9 r0 B) fun v => ob (ob (ldN true 2 r1 B) fun v => ob (some []) fun vs => some (v :: vs)) fun vs => some (v :: vs)) fun vs => some ((nrmA (match vs with | [v] => v | vs => Z91 (vs.map shr))), B)
def Zgx (m0 : Nat) : Kont := kret PP HH 10 Tryd.f10.results
def ZEM := kseq HH 10 m0 Zgy (exec PP HH 10 m0 EE LL Zgy (Zgx m0)) (Zgx m0)
def ZEN := kseq HH 10 m0 (l2 Zgy) (exec PP HH 10 m0 EE LL (l2 Zgy) (Zgx m0)) (Zgx m0)
def ZsQ := kblk 0 (ZEN m0)
def Zze := kloop HH 10 m0 Zpb (LL 10 m0 Zpb (ZsQ m0)) (ZsQ m0)
def ZsR := exec PP HH 10 m0 EE LL ZsT (Zgx m0) [(0, x0), (2, x2), (3, x3)] B
def ZsS := exec PP HH 10 m0 EE LL (l1 (l2 (l1 (l2 (l2 (l2 ZsT)))))) (ZEM m0) [(2, x2), (3, x3), (4, x4), (5, x5)] B
def Zm4 := exec PP HH 10 m0 EE LL Zgy (Zgx m0) [(2, x2), (3, x3), (4, x4), (5, x5)] B
def Zm3 := lp (LL 10 m0 Zpb (ZsQ m0) [(2, x2), (3, x3), (4, x4), (5, x5), (50, x50), (51, x51), (52, x52)] B)
def Zr4 := exec PP HH 10 m0 EE LL Zzj (Zze m0) [(2, x2), (3, x3), (4, x4), (5, x5), (50, x50), (51, x51), (52, x52)] B
def Zr5 := exec PP HH 10 m0 EE LL (l2 Zgy) (Zgx m0) [(2, x2), (3, x3), (4, x4), (5, x5)] B
def Znp := exec PP HH 10 m0 EE LL (l2 Zzj) (Zze m0) [(2, x2), (3, x3), (4, x4), (5, x5), (50, x50), (51, x51), (52, x52)] B
def Zr6 := exec PP HH 10 m0 EE LL (l2 (l2 Zgy)) (Zgx m0) [(2, x2), (3, x3), (4, x4), (5, x5)] B
theorem Zzg : ZsR m0 x0 x2 x3 B =
 mk (ob (xcnv PP 9 54 (shr x0)) fun a =>
 ob (Z1G PP 57 [(0, a)]) fun b =>
 bx b B fun c d =>
 mk (callS false EE 19 [(shr (shr c)), (.p (.v (.string (ByteArray.mk #[40, 63, 105, 41]))))] d fun e f =>
 ob (Z1G PP 33 [(2, e)]) fun g =>
 bz PP 33 f fun h i =>
 stN 9 h g i fun j =>
 mk (callS false EE 20 [(shr (shr c))] j fun k l =>
 ob (xfld 0 h) fun n =>
 stN 7 n k l fun o =>
 mk (ob (Z1H (shr (shr c))) fun q =>
 ob (xfld 5 q) fun r =>
 ob (xfld 0 r) fun s =>
 ob (ldN false 1 s o) fun t =>
 ob (xbin PP .eql 24 t (iv 0)) fun u =>
 asB (shr u) fun w => br w (ob (Z1H (shr (shr c))) fun x =>
 ob (xfld 1 x) fun y =>
 ob (ldN false 1 y o) fun z =>
 ob (Z1H (shr (shr c))) fun A =>
 ob (xfld 0 A) fun C =>
 ob (ldN false 1 C o) fun D =>
 ob (xlen PP 54 D) fun F =>
 ob (xbin PP .lss 3 z F) fun G =>
 asB (shr G) fun I => br I (ZsS m0 x2 x3 (shr c) h (gcB m0 [x2, x3, (shr c), h] o))
 (Zm4 m0 x2 x3 (shr c) h (gcB m0 [x2, x3, (shr c), h] o)))
 (Zm4 m0 x2 x3 (shr c) h (gcB m0 [x2, x3, (shr c), h] o)))))) := by kernel_rfl
theorem Zzh : ZsS m0 x2 x3 x4 x5 B =
 mk (ob (Z1H (shr x4)) fun a =>
 ob (xfld 1 a) fun b =>
 ob (ldN false 1 b B) fun c =>
 callS false EE 21 [(shr x4), (iv 20), c] B fun d e =>
 Zm4 m0 x2 x3 x4 x5 (gcB m0 [x2, x3, x4, x5] e)) := by kernel_rfl
theorem Zzi : Zm4 m0 x2 x3 x4 x5 B =
 mk (ob (Z1H (shr x4)) fun a =>
 ob (xfld 4 a) fun b =>
 ob (ldN false 1 b B) fun c =>
 ob (xlen PP 55 c) fun d =>
 Zm3 m0 x2 x3 x4 x5 c d (iv 0) (gcB m0 [x2, x3, x4, x5, c, d, (iv 0)] B)) := by kernel_rfl
theorem Zzf : Zm3 m0 x2 x3 x4 x5 x50 x51 x52 B =
 mk (ob (xbin PP .lss 3 x52 x51) fun a =>
 asB a fun b => br b (Zr4 m0 x2 x3 x4 x5 x50 x51 x52 (gcB m0 [x2, x3, x4, x5, x50, x51, x52] B))
 (Zr5 m0 x2 x3 x4 x5 (gcB m0 [x2, x3, x4, x5] B))) := lq_ (by kernel_rfl)
theorem Zxg : Zr4 m0 x2 x3 x4 x5 x50 x51 x52 B =
 mk (ob (xidx 2 x50 x52) fun a =>
 ob (ldN true 2 a B) fun b =>
 bz PP 61 B fun c d =>
 stN 2 c b d fun e =>
 mk (ob (xfld 0 c) fun f =>
 ob (ldN false 1 f e) fun g =>
 ob (Z1H (shr x4)) fun h =>
 ob (xfld 2 h) fun i =>
 ob (ldN false 1 i e) fun j =>
 ob (xbin PP .gtr 3 g j) fun k =>
 asB k fun l => br l (mk (ob (xfld 1 c) fun n =>
 ob (ldN false 1 n e) fun o =>
 callS false EE 21 [(shr x4), (iv 26), o] e fun p q =>
 Znp m0 x2 x3 x4 x5 x50 x51 x52 (gcB m0 [x2, x3, x4, x5, x50, x51, x52] q)))
 (Znp m0 x2 x3 x4 x5 x50 x51 x52 (gcB m0 [x2, x3, x4, x5, x50, x51, x52] e)))) := by kernel_rfl
theorem Zxi : Zr5 m0 x2 x3 x4 x5 B =
 mk (ob (Z1H (shr x4)) fun a =>
 ob (xfld 5 a) fun b =>
 ob (xfld 0 b) fun c =>
 ob (ldN false 1 c B) fun d =>
 ob (xbin PP .neq 24 d (iv 0)) fun e =>
 asB e fun f => br f (mk (ob (Z1G PP 33 []) fun g =>
 ob (Z1H (shr x4)) fun h =>
 ob (xfld 5 h) fun i =>
 ob (ldN true 2 i B) fun j =>
 stN 9 x2 g B fun k =>
 stN 2 x3 j k fun l =>
 grd (Zbp i x2) (Zr7 x2 x3 l)))
 (Zr6 m0 x2 x3 x4 x5 (gcB m0 [x2, x3, x4, x5] B))) := by kernel_rfl
theorem Zxh : Znp m0 x2 x3 x4 x5 x50 x51 x52 B =
 mk (ob (xbin PP .add 3 x52 (iv 1)) fun a =>
 Zm3 m0 x2 x3 x4 x5 x50 x51 (shr a) (gcB m0 [x2, x3, x4, x5, x50, x51, (shr a)] B)) := by kernel_rfl
theorem Zxj : Zr6 m0 x2 x3 x4 x5 B =
 mk (ob (Z1H (shr x4)) fun a =>
 ob (xfld 2 a) fun b =>
 ob (ldN false 1 b B) fun c =>
 ob (xfld 7 x5) fun d =>
 stN 1 d c B fun e =>
 mk (ob (ldN true 9 x5 e) fun f =>
 ob (Z1G PP 35 []) fun g =>
 stN 9 x2 f e fun h =>
 stN 2 x3 g h fun i =>
 Zr7 x2 x3 i)) := by kernel_rfl
theorem ZEL : EE 10 [x0] B =
 (let m0 := B.length
 mk (bz PP 33 B fun a b =>
 bz PP 35 b fun c d =>
 mk (ob (xlen PP 9 (shr x0)) fun e =>
 ob (xbin PP .gtr 3 e (iv 256)) fun f =>
 asB f fun g => br g (mk (ob (Z1G PP 33 []) fun h =>
 ob (Z1G PP 35 [(0, (iv 12))]) fun i =>
 stN 9 a h d fun j =>
 stN 2 c i j fun k =>
 Zr7 a c k))
 (ZsR m0 x0 a c (gcB m0 [x0, a, c] d))))) := (E_eq PP XX HH _ _ _).trans (by kernel_rfl)
def ZDp := Z2G Tryd.f11
def Zis := l2 (l2 (l2 ZDp))
def Zpc := l1 (l1 (l2 (l1 (l2 (l2 ZDp)))))
def Zk3 (m0 : Nat) : Kont := kret PP HH 11 Tryd.f11.results
def ZEP := kseq HH 11 m0 Zis (exec PP HH 11 m0 EE LL Zis (Zk3 m0)) (Zk3 m0)
def ZsU := kblk 0 (ZEP m0)
def ZEQ := kloop HH 11 m0 Zpc (LL 11 m0 Zpc (ZsU m0)) (ZsU m0)
def ZER := kseq HH 11 m0 (l2 Zis) (exec PP HH 11 m0 EE LL (l2 Zis) (Zk3 m0)) (Zk3 m0)
def ZES := kblk 2 (ZER m0)
def Zm5 := lp (LL 11 m0 Zpc (ZsU m0) [(1, x1), (3, x3), (8, x8), (9, x9), (10, x10)] B)
def ZsV := exec PP HH 11 m0 EE LL (l2 (l2 Zpc)) (ZEQ m0) [(1, x1), (3, x3), (8, x8), (9, x9), (10, x10)] B
def ZsW := exec PP HH 11 m0 EE LL Zis (Zk3 m0) [(1, x1), (3, x3)] B
def Z47 := exec PP HH 11 m0 EE LL (l2 Zis) (Zk3 m0) [(3, x3)] B
def Z5G := exec PP HH 11 m0 EE LL (l2 (l2 (l2 (l1 (l2 (l2 (l2 (l2 (l2 (l2 (l2 (l1 (l2 (l1 Zis)))))))))))))) (ZES m0) [(1, x1), (3, x3)] B
theorem Zzk : Zm5 m0 x1 x3 x8 x9 x10 B =
 mk (ob (xbin PP .lss 3 x10 x9) fun a =>
 asB a fun b => br b (ZsV m0 x1 x3 x8 x9 x10 (gcB m0 [x1, x3, x8, x9, x10] B))
 (ZsW m0 x1 x3 (gcB m0 [x1, x3] B))) := lq_ (by kernel_rfl)
theorem Zzl : ZsV m0 x1 x3 x8 x9 x10 B =
 mk (ob (xidx 7 x8 x10) fun a =>
 ob (ldN true 7 a B) fun b =>
 bz PP 31 B fun c d =>
 stN 7 c b d fun e =>
 mk (ob (ldN true 7 c e) fun f =>
 callS false EE 11 [f] e fun g h =>
 ob (xbin PP .add 3 (shr x3) g) fun i =>
 ob (Z6W PP false [i, (iv 1048576)]) fun j =>
 mk (ob (xbin PP .add 3 x10 (iv 1)) fun k =>
 Zm5 m0 x1 (shr j) x8 x9 (shr k) (gcB m0 [x1, (shr j), x8, x9, (shr k)] h)))) := by kernel_rfl
theorem Zzm : ZsW m0 x1 x3 B =
 mk (ob (xfld 0 x1) fun a =>
 ob (ldN false 1 a B) fun b =>
 mk (ob (xbin PP .eql 3 b (iv 1)) fun c =>
 asB (shr c) fun d => br d (asB (shr c) fun e => br e (mk (Z1M (iv 1) B))
 (mk (ob (xbin PP .eql 3 b (iv 3)) fun f =>
 asB (shr f) fun g => br g (mk (ob (xfld 6 x1) fun h =>
 ob (ldN false 1 h B) fun i =>
 ob (xlen PP 29 i) fun j =>
 ob (xbin PP .sub 3 j (iv 1)) fun k =>
 ob (xbin PP .mul 3 (iv 2) k) fun l =>
 ob (xbin PP .add 3 (shr x3) l) fun n =>
 Z47 m0 (shr n) (gcB m0 [(shr n)] B)))
 (mk (ob (xbin PP .eql 3 b (iv 5)) fun o =>
 asB (shr o) fun p => br p (asB (shr o) fun q => br q (mk (ob (xbin PP .add 3 (shr x3) (iv 2)) fun r =>
 Z47 m0 (shr r) (gcB m0 [(shr r)] B)))
 (mk (ob (xbin PP .eql 3 b (iv 4)) fun s =>
 asB (shr s) fun t => br t (mk (mk (ob (xfld 1 x1) fun u =>
 ob (ldN false 1 u B) fun v =>
 ob (xbin PP .mul 3 v (shr (shr (shr x3)))) fun w =>
 mk (ob (xfld 2 x1) fun x =>
 ob (ldN false 1 x B) fun y =>
 ob (xbin PP .lss 3 y (iv 0)) fun z =>
 asB z fun A => br A (mk (ob (xbin PP .add 3 (shr (shr (shr x3))) (iv 4)) fun C =>
 ob (xbin PP .add 3 (shr (shr w)) C) fun D =>
 Z5G m0 x1 (shr D) (gcB m0 [x1, (shr D)] B)))
 (mk (ob (xfld 2 x1) fun F =>
 ob (ldN false 1 F B) fun G =>
 ob (xfld 1 x1) fun I =>
 ob (ldN false 1 I B) fun J =>
 ob (xbin PP .sub 3 G J) fun M =>
 ob (xbin PP .add 3 (shr (shr (shr x3))) (iv 1)) fun N =>
 ob (xbin PP .mul 3 M N) fun O =>
 ob (xbin PP .add 3 (shr (shr w)) O) fun Q =>
 Z5G m0 x1 (shr Q) (gcB m0 [x1, (shr Q)] B)))))))
 (Z47 m0 x3 (gcB m0 [x3] B)))))
 (mk (ob (xbin PP .eql 3 b (iv 7)) fun R =>
 asB (shr R) fun S => br S (asB (shr R) fun T => br T (mk (ob (xbin PP .add 3 (shr x3) (iv 2)) fun U =>
 Z47 m0 (shr U) (gcB m0 [(shr U)] B)))
 (mk (ob (xbin PP .eql 3 b (iv 4)) fun V =>
 asB (shr V) fun W => br W (mk (mk (ob (xfld 1 x1) fun Y =>
 ob (ldN false 1 Y B) fun Z =>
 ob (xbin PP .mul 3 Z (shr (shr (shr x3)))) fun a0 =>
 mk (ob (xfld 2 x1) fun a1 =>
 ob (ldN false 1 a1 B) fun a2 =>
 ob (xbin PP .lss 3 a2 (iv 0)) fun a3 =>
 asB a3 fun a4 => br a4 (mk (ob (xbin PP .add 3 (shr (shr (shr x3))) (iv 4)) fun a5 =>
 ob (xbin PP .add 3 (shr (shr a0)) a5) fun a6 =>
 Z5G m0 x1 (shr a6) (gcB m0 [x1, (shr a6)] B)))
 (mk (ob (xfld 2 x1) fun a7 =>
 ob (ldN false 1 a7 B) fun a8 =>
 ob (xfld 1 x1) fun a9 =>
 ob (ldN false 1 a9 B) fun a10 =>
 ob (xbin PP .sub 3 a8 a10) fun a11 =>
 ob (xbin PP .add 3 (shr (shr (shr x3))) (iv 1)) fun a12 =>
 ob (xbin PP .mul 3 a11 a12) fun a13 =>
 ob (xbin PP .add 3 (shr (shr a0)) a13) fun a14 =>
 Z5G m0 x1 (shr a14) (gcB m0 [x1, (shr a14)] B)))))))
 (Z47 m0 x3 (gcB m0 [x3] B)))))
 (mk (ob (xbin PP .eql 3 b (iv 8)) fun a15 =>
 asB (shr a15) fun a16 => br a16 (mk (ob (xbin PP .add 3 (shr x3) (iv 2)) fun a17 =>
 Z47 m0 (shr a17) (gcB m0 [(shr a17)] B)))
 (mk (ob (xbin PP .eql 3 b (iv 4)) fun a18 =>
 asB (shr a18) fun a19 => br a19 (mk (mk (ob (xfld 1 x1) fun a20 =>
 ob (ldN false 1 a20 B) fun a21 =>
 ob (xbin PP .mul 3 a21 (shr (shr (shr x3)))) fun a22 =>
 mk (ob (xfld 2 x1) fun a23 =>
 ob (ldN false 1 a23 B) fun a24 =>
 ob (xbin PP .lss 3 a24 (iv 0)) fun a25 =>
 asB a25 fun a26 => br a26 (mk (ob (xbin PP .add 3 (shr (shr (shr x3))) (iv 4)) fun a27 =>
 ob (xbin PP .add 3 (shr (shr a22)) a27) fun a28 =>
 Z5G m0 x1 (shr a28) (gcB m0 [x1, (shr a28)] B)))
 (mk (ob (xfld 2 x1) fun a29 =>
 ob (ldN false 1 a29 B) fun a30 =>
 ob (xfld 1 x1) fun a31 =>
 ob (ldN false 1 a31 B) fun a32 =>
 ob (xbin PP .sub 3 a30 a32) fun a33 =>
 ob (xbin PP .add 3 (shr (shr (shr x3))) (iv 1)) fun a34 =>
 ob (xbin PP .mul 3 a33 a34) fun a35 =>
 ob (xbin PP .add 3 (shr (shr a22)) a35) fun a36 =>
 Z5G m0 x1 (shr a36) (gcB m0 [x1, (shr a36)] B)))))))
 (Z47 m0 x3 (gcB m0 [x3] B)))))))))))))
 (mk (ob (xbin PP .eql 3 b (iv 6)) fun a37 =>
 asB (shr a37) fun a38 => br a38 (asB (shr a37) fun a39 => br a39 (mk (Z1M (iv 1) B))
 (mk (ob (xbin PP .eql 3 b (iv 3)) fun a40 =>
 asB (shr a40) fun a41 => br a41 (mk (ob (xfld 6 x1) fun a42 =>
 ob (ldN false 1 a42 B) fun a43 =>
 ob (xlen PP 29 a43) fun a44 =>
 ob (xbin PP .sub 3 a44 (iv 1)) fun a45 =>
 ob (xbin PP .mul 3 (iv 2) a45) fun a46 =>
 ob (xbin PP .add 3 (shr x3) a46) fun a47 =>
 Z47 m0 (shr a47) (gcB m0 [(shr a47)] B)))
 (mk (ob (xbin PP .eql 3 b (iv 5)) fun a48 =>
 asB (shr a48) fun a49 => br a49 (asB (shr a48) fun a50 => br a50 (mk (ob (xbin PP .add 3 (shr x3) (iv 2)) fun a51 =>
 Z47 m0 (shr a51) (gcB m0 [(shr a51)] B)))
 (mk (ob (xbin PP .eql 3 b (iv 4)) fun a52 =>
 asB (shr a52) fun a53 => br a53 (mk (mk (ob (xfld 1 x1) fun a54 =>
 ob (ldN false 1 a54 B) fun a55 =>
 ob (xbin PP .mul 3 a55 (shr (shr (shr x3)))) fun a56 =>
 mk (ob (xfld 2 x1) fun a57 =>
 ob (ldN false 1 a57 B) fun a58 =>
 ob (xbin PP .lss 3 a58 (iv 0)) fun a59 =>
 asB a59 fun a60 => br a60 (mk (ob (xbin PP .add 3 (shr (shr (shr x3))) (iv 4)) fun a61 =>
 ob (xbin PP .add 3 (shr (shr a56)) a61) fun a62 =>
 Z5G m0 x1 (shr a62) (gcB m0 [x1, (shr a62)] B)))
 (mk (ob (xfld 2 x1) fun a63 =>
 ob (ldN false 1 a63 B) fun a64 =>
 ob (xfld 1 x1) fun a65 =>
 ob (ldN false 1 a65 B) fun a66 =>
 ob (xbin PP .sub 3 a64 a66) fun a67 =>
 ob (xbin PP .add 3 (shr (shr (shr x3))) (iv 1)) fun a68 =>
 ob (xbin PP .mul 3 a67 a68) fun a69 =>
 ob (xbin PP .add 3 (shr (shr a56)) a69) fun a70 =>
 Z5G m0 x1 (shr a70) (gcB m0 [x1, (shr a70)] B)))))))
 (Z47 m0 x3 (gcB m0 [x3] B)))))
 (mk (ob (xbin PP .eql 3 b (iv 7)) fun a71 =>
 asB (shr a71) fun a72 => br a72 (asB (shr a71) fun a73 => br a73 (mk (ob (xbin PP .add 3 (shr x3) (iv 2)) fun a74 =>
 Z47 m0 (shr a74) (gcB m0 [(shr a74)] B)))
 (mk (ob (xbin PP .eql 3 b (iv 4)) fun a75 =>
 asB (shr a75) fun a76 => br a76 (mk (mk (ob (xfld 1 x1) fun a77 =>
 ob (ldN false 1 a77 B) fun a78 =>
 ob (xbin PP .mul 3 a78 (shr (shr (shr x3)))) fun a79 =>
 mk (ob (xfld 2 x1) fun a80 =>
 ob (ldN false 1 a80 B) fun a81 =>
 ob (xbin PP .lss 3 a81 (iv 0)) fun a82 =>
 asB a82 fun a83 => br a83 (mk (ob (xbin PP .add 3 (shr (shr (shr x3))) (iv 4)) fun a84 =>
 ob (xbin PP .add 3 (shr (shr a79)) a84) fun a85 =>
 Z5G m0 x1 (shr a85) (gcB m0 [x1, (shr a85)] B)))
 (mk (ob (xfld 2 x1) fun a86 =>
 ob (ldN false 1 a86 B) fun a87 =>
 ob (xfld 1 x1) fun a88 =>
 ob (ldN false 1 a88 B) fun a89 =>
 ob (xbin PP .sub 3 a87 a89) fun a90 =>
 ob (xbin PP .add 3 (shr (shr (shr x3))) (iv 1)) fun a91 =>
 ob (xbin PP .mul 3 a90 a91) fun a92 =>
 ob (xbin PP .add 3 (shr (shr a79)) a92) fun a93 =>
 Z5G m0 x1 (shr a93) (gcB m0 [x1, (shr a93)] B)))))))
 (Z47 m0 x3 (gcB m0 [x3] B)))))
 (mk (ob (xbin PP .eql 3 b (iv 8)) fun a94 =>
 asB (shr a94) fun a95 => br a95 (mk (ob (xbin PP .add 3 (shr x3) (iv 2)) fun a96 =>
 Z47 m0 (shr a96) (gcB m0 [(shr a96)] B)))
 (mk (ob (xbin PP .eql 3 b (iv 4)) fun a97 =>
 asB (shr a97) fun a98 => br a98 (mk (mk (ob (xfld 1 x1) fun a99 =>
 ob (ldN false 1 a99 B) fun a100 =>
 ob (xbin PP .mul 3 a100 (shr (shr (shr x3)))) fun a101 =>
 mk (ob (xfld 2 x1) fun a102 =>
 ob (ldN false 1 a102 B) fun a103 =>
 ob (xbin PP .lss 3 a103 (iv 0)) fun a104 =>
 asB a104 fun a105 => br a105 (mk (ob (xbin PP .add 3 (shr (shr (shr x3))) (iv 4)) fun a106 =>
 ob (xbin PP .add 3 (shr (shr a101)) a106) fun a107 =>
 Z5G m0 x1 (shr a107) (gcB m0 [x1, (shr a107)] B)))
 (mk (ob (xfld 2 x1) fun a108 =>
 ob (ldN false 1 a108 B) fun a109 =>
 ob (xfld 1 x1) fun a110 =>
 ob (ldN false 1 a110 B) fun a111 =>
 ob (xbin PP .sub 3 a109 a111) fun a112 =>
 ob (xbin PP .add 3 (shr (shr (shr x3))) (iv 1)) fun a113 =>
 ob (xbin PP .mul 3 a112 a113) fun a114 =>
 ob (xbin PP .add 3 (shr (shr a101)) a114) fun a115 =>
 Z5G m0 x1 (shr a115) (gcB m0 [x1, (shr a115)] B)))))))
 (Z47 m0 x3 (gcB m0 [x3] B)))))))))))))
 (mk (ob (xbin PP .eql 3 b (iv 9)) fun a116 =>
 asB (shr a116) fun a117 => br a117 (mk (Z1M (iv 1) B))
 (mk (ob (xbin PP .eql 3 b (iv 3)) fun a118 =>
 asB (shr a118) fun a119 => br a119 (mk (ob (xfld 6 x1) fun a120 =>
 ob (ldN false 1 a120 B) fun a121 =>
 ob (xlen PP 29 a121) fun a122 =>
 ob (xbin PP .sub 3 a122 (iv 1)) fun a123 =>
 ob (xbin PP .mul 3 (iv 2) a123) fun a124 =>
 ob (xbin PP .add 3 (shr x3) a124) fun a125 =>
 Z47 m0 (shr a125) (gcB m0 [(shr a125)] B)))
 (mk (ob (xbin PP .eql 3 b (iv 5)) fun a126 =>
 asB (shr a126) fun a127 => br a127 (asB (shr a126) fun a128 => br a128 (mk (ob (xbin PP .add 3 (shr x3) (iv 2)) fun a129 =>
 Z47 m0 (shr a129) (gcB m0 [(shr a129)] B)))
 (mk (ob (xbin PP .eql 3 b (iv 4)) fun a130 =>
 asB (shr a130) fun a131 => br a131 (mk (mk (ob (xfld 1 x1) fun a132 =>
 ob (ldN false 1 a132 B) fun a133 =>
 ob (xbin PP .mul 3 a133 (shr (shr (shr x3)))) fun a134 =>
 mk (ob (xfld 2 x1) fun a135 =>
 ob (ldN false 1 a135 B) fun a136 =>
 ob (xbin PP .lss 3 a136 (iv 0)) fun a137 =>
 asB a137 fun a138 => br a138 (mk (ob (xbin PP .add 3 (shr (shr (shr x3))) (iv 4)) fun a139 =>
 ob (xbin PP .add 3 (shr (shr a134)) a139) fun a140 =>
 Z5G m0 x1 (shr a140) (gcB m0 [x1, (shr a140)] B)))
 (mk (ob (xfld 2 x1) fun a141 =>
 ob (ldN false 1 a141 B) fun a142 =>
 ob (xfld 1 x1) fun a143 =>
 ob (ldN false 1 a143 B) fun a144 =>
 ob (xbin PP .sub 3 a142 a144) fun a145 =>
 ob (xbin PP .add 3 (shr (shr (shr x3))) (iv 1)) fun a146 =>
 ob (xbin PP .mul 3 a145 a146) fun a147 =>
 ob (xbin PP .add 3 (shr (shr a134)) a147) fun a148 =>
 Z5G m0 x1 (shr a148) (gcB m0 [x1, (shr a148)] B)))))))
 (Z47 m0 x3 (gcB m0 [x3] B)))))
 (mk (ob (xbin PP .eql 3 b (iv 7)) fun a149 =>
 asB (shr a149) fun a150 => br a150 (asB (shr a149) fun a151 => br a151 (mk (ob (xbin PP .add 3 (shr x3) (iv 2)) fun a152 =>
 Z47 m0 (shr a152) (gcB m0 [(shr a152)] B)))
 (mk (ob (xbin PP .eql 3 b (iv 4)) fun a153 =>
 asB (shr a153) fun a154 => br a154 (mk (mk (ob (xfld 1 x1) fun a155 =>
 ob (ldN false 1 a155 B) fun a156 =>
 ob (xbin PP .mul 3 a156 (shr (shr (shr x3)))) fun a157 =>
 mk (ob (xfld 2 x1) fun a158 =>
 ob (ldN false 1 a158 B) fun a159 =>
 ob (xbin PP .lss 3 a159 (iv 0)) fun a160 =>
 asB a160 fun a161 => br a161 (mk (ob (xbin PP .add 3 (shr (shr (shr x3))) (iv 4)) fun a162 =>
 ob (xbin PP .add 3 (shr (shr a157)) a162) fun a163 =>
 Z5G m0 x1 (shr a163) (gcB m0 [x1, (shr a163)] B)))
 (mk (ob (xfld 2 x1) fun a164 =>
 ob (ldN false 1 a164 B) fun a165 =>
 ob (xfld 1 x1) fun a166 =>
 ob (ldN false 1 a166 B) fun a167 =>
 ob (xbin PP .sub 3 a165 a167) fun a168 =>
 ob (xbin PP .add 3 (shr (shr (shr x3))) (iv 1)) fun a169 =>
 ob (xbin PP .mul 3 a168 a169) fun a170 =>
 ob (xbin PP .add 3 (shr (shr a157)) a170) fun a171 =>
 Z5G m0 x1 (shr a171) (gcB m0 [x1, (shr a171)] B)))))))
 (Z47 m0 x3 (gcB m0 [x3] B)))))
 (mk (ob (xbin PP .eql 3 b (iv 8)) fun a172 =>
 asB (shr a172) fun a173 => br a173 (mk (ob (xbin PP .add 3 (shr x3) (iv 2)) fun a174 =>
 Z47 m0 (shr a174) (gcB m0 [(shr a174)] B)))
 (mk (ob (xbin PP .eql 3 b (iv 4)) fun a175 =>
 asB (shr a175) fun a176 => br a176 (mk (mk (ob (xfld 1 x1) fun a177 =>
 ob (ldN false 1 a177 B) fun a178 =>
 ob (xbin PP .mul 3 a178 (shr (shr (shr x3)))) fun a179 =>
 mk (ob (xfld 2 x1) fun a180 =>
 ob (ldN false 1 a180 B) fun a181 =>
 ob (xbin PP .lss 3 a181 (iv 0)) fun a182 =>
 asB a182 fun a183 => br a183 (mk (ob (xbin PP .add 3 (shr (shr (shr x3))) (iv 4)) fun a184 =>
 ob (xbin PP .add 3 (shr (shr a179)) a184) fun a185 =>
 Z5G m0 x1 (shr a185) (gcB m0 [x1, (shr a185)] B)))
 (mk (ob (xfld 2 x1) fun a186 =>
 ob (ldN false 1 a186 B) fun a187 =>
 ob (xfld 1 x1) fun a188 =>
 ob (ldN false 1 a188 B) fun a189 =>
 ob (xbin PP .sub 3 a187 a189) fun a190 =>
 ob (xbin PP .add 3 (shr (shr (shr x3))) (iv 1)) fun a191 =>
 ob (xbin PP .mul 3 a190 a191) fun a192 =>
 ob (xbin PP .add 3 (shr (shr a179)) a192) fun a193 =>
 Z5G m0 x1 (shr a193) (gcB m0 [x1, (shr a193)] B)))))))
 (Z47 m0 x3 (gcB m0 [x3] B)))))))))))))))))) := by kernel_rfl
theorem Zxl : Z47 m0 x3 B =
 mk (ob (Z6W PP false [(shr x3), (iv 1048576)]) fun a =>
 Z1M (shr a) B) := by kernel_rfl
theorem Zxk : Z5G m0 x1 x3 B =
 mk (ob (xfld 3 x1) fun a =>
 ob (ldN false 1 a B) fun b =>
 ob (xbin PP .eql 3 b (iv 2)) fun c =>
 asB c fun d => br d (mk (ob (xbin PP .add 3 (shr x3) (iv 2)) fun e =>
 Z47 m0 (shr e) (gcB m0 [(shr e)] B)))
 (Z47 m0 x3 (gcB m0 [x3] B))) := by kernel_rfl
theorem ZEO : EE 11 [x0] B =
 (let m0 := B.length
 mk (bx x0 B fun a b =>
 mk (mk (ob (xfld 6 a) fun c =>
 ob (ldN false 1 c b) fun d =>
 ob (xlen PP 29 d) fun e =>
 Zm5 m0 a (iv 0) d e (iv 0) (gcB m0 [a, (iv 0), d, e, (iv 0)] b))))) := (E_eq PP XX HH _ _ _).trans (by kernel_rfl)
def ZDq := Z2G Tryd.f12
def Zt5 := l2 (l2 (l2 ZDq))
def Zpf := l1 (l1 (l2 (l1 (l2 (l2 ZDq)))))
def Zk4 := l2 (l2 Zpf)
def Zt4 := l2 (l2 (l1 (l1 Zk4)))
def ZsX (m0 : Nat) : Kont := kret PP HH 12 Tryd.f12.results
def ZEU := kseq HH 12 m0 Zt5 (exec PP HH 12 m0 EE LL Zt5 (ZsX m0)) (ZsX m0)
def ZsY := kblk 0 (ZEU m0)
def Zpd := kloop HH 12 m0 Zpf (LL 12 m0 Zpf (ZsY m0)) (ZsY m0)
def ZEV := kseq HH 12 m0 (l2 Zk4) (exec PP HH 12 m0 EE LL (l2 Zk4) (Zpd m0)) (Zpd m0)
def ZsZ := kblk 1 (ZEV m0)
def ZEW := kseq HH 12 m0 Zt4 (exec PP HH 12 m0 EE LL Zt4 (ZsZ m0)) (ZsZ m0)
def Zm6 := lp (LL 12 m0 Zpf (ZsY m0) [(3, x3), (6, x6), (7, x7), (8, x8)] B)
def Zt0 := exec PP HH 12 m0 EE LL Zk4 (Zpd m0) [(3, x3), (6, x6), (7, x7), (8, x8)] B
def Zt3 := exec PP HH 12 m0 EE LL Zt5 (ZsX m0) [] B
def Zpe := exec PP HH 12 m0 EE LL (l1 (l2 (l1 (l2 (l1 (l1 Zk4)))))) (ZEW m0) [] B
def Zt1 := exec PP HH 12 m0 EE LL Zt4 (ZsZ m0) [(5, x5), (6, x6), (7, x7), (8, x8)] B
def Zt2 := exec PP HH 12 m0 EE LL (l2 Zk4) (Zpd m0) [(3, x3), (6, x6), (7, x7), (8, x8)] B
theorem Zzn : Zm6 m0 x3 x6 x7 x8 B =
 mk (ob (xbin PP .lss 3 x8 x7) fun a =>
 asB a fun b => br b (Zt0 m0 x3 x6 x7 x8 (gcB m0 [x3, x6, x7, x8] B))
 (Zt3 m0 (gcB m0 [] B))) := lq_ (by kernel_rfl)
theorem Zzo : Zt0 m0 x3 x6 x7 x8 B =
 mk (ob (xidx 2 x6 x8) fun a =>
 ob (ldN true 2 a B) fun b =>
 bz PP 47 B fun c d =>
 stN 2 c b d fun e =>
 mk (ob (ldN true 2 c e) fun f =>
 callS false EE 22 [f] e fun g h =>
 ob (xun PP .not g) fun i =>
 asB (shr i) fun j => br j (Zpe m0 (gcB m0 [] h))
 (ob (xfld 0 c) fun k =>
 ob (ldN false 1 k h) fun l =>
 ob (xbin PP .add 3 (shr x3) (iv 2)) fun n =>
 ob (xbin PP .lss 3 l n) fun o =>
 asB (shr o) fun p => br p (Zpe m0 (gcB m0 [] h))
 (Zt1 m0 c x6 x7 x8 (gcB m0 [c, x6, x7, x8] h))))) := by kernel_rfl
theorem Zzs : Zt3 m0 B =
 mk (Z1M (bv true) B) := by kernel_rfl
theorem Zzp : Zpe m0 B =
 mk (Z1M (bv false) B) := by kernel_rfl
theorem Zzq : Zt1 m0 x5 x6 x7 x8 B =
 mk (ob (xfld 1 x5) fun a =>
 ob (ldN false 1 a B) fun b =>
 Zt2 m0 (shr b) x6 x7 x8 (gcB m0 [(shr b), x6, x7, x8] B)) := by kernel_rfl
theorem Zzr : Zt2 m0 x3 x6 x7 x8 B =
 mk (ob (xbin PP .add 3 x8 (iv 1)) fun a =>
 Zm6 m0 x3 x6 x7 (shr a) (gcB m0 [x3, x6, x7, (shr a)] B)) := by kernel_rfl
theorem ZET : EE 12 [x0] B =
 (let m0 := B.length
 mk (mk (mk (ob (xlen PP 28 (shr x0)) fun a =>
 Zm6 m0 (iv (-2)) (shr x0) a (iv 0) (gcB m0 [(iv (-2)), (shr x0), a, (iv 0)] B))))) := (E_eq PP XX HH _ _ _).trans (by kernel_rfl)
def ZDr := Z2G Tryd.f13
def Zta := l2 (l2 (l2 ZDr))
def Zph := l1 (l1 (l2 (l1 (l2 (l2 ZDr)))))
def Zzy := l2 (l2 Zph)
def Zt6 (m0 : Nat) : Kont := kret PP HH 13 Tryd.f13.results
def ZEY := kseq HH 13 m0 Zta (exec PP HH 13 m0 EE LL Zta (Zt6 m0)) (Zt6 m0)
def Zt7 := kblk 0 (ZEY m0)
def Zzt := kloop HH 13 m0 Zph (LL 13 m0 Zph (Zt7 m0)) (Zt7 m0)
def Zm7 := lp (LL 13 m0 Zph (Zt7 m0) [(3, x3), (6, x6), (7, x7), (8, x8)] B)
def Zt8 := exec PP HH 13 m0 EE LL Zzy (Zzt m0) [(3, x3), (6, x6), (7, x7), (8, x8)] B
def Zt9 := exec PP HH 13 m0 EE LL Zta (Zt6 m0) [(3, x3)] B
def Zpg := exec PP HH 13 m0 EE LL (l2 Zzy) (Zzt m0) [(3, x3), (6, x6), (7, x7), (8, x8)] B
theorem Zzu : Zm7 m0 x3 x6 x7 x8 B =
 mk (ob (xbin PP .lss 3 x8 x7) fun a =>
 asB a fun b => br b (Zt8 m0 x3 x6 x7 x8 (gcB m0 [x3, x6, x7, x8] B))
 (Zt9 m0 x3 (gcB m0 [x3] B))) := lq_ (by kernel_rfl)
theorem Zzv : Zt8 m0 x3 x6 x7 x8 B =
 mk (ob (xidx 6 x6 x8) fun a =>
 ob (ldN true 6 a B) fun b =>
 bz PP 40 B fun c d =>
 stN 6 c b d fun e =>
 mk (ob (xfld 0 c) fun f =>
 ob (ldN false 1 f e) fun g =>
 ob (xbin PP .eql 3 g (iv 10)) fun h =>
 asB h fun i => br i (mk (ob (xbin PP .add 3 (shr x3) (iv 1)) fun j =>
 Zpg m0 (shr j) x6 x7 x8 (gcB m0 [(shr j), x6, x7, x8] e)))
 (Zpg m0 x3 x6 x7 x8 (gcB m0 [x3, x6, x7, x8] e)))) := by kernel_rfl
theorem Zzx : Zt9 m0 x3 B =
 mk (Z1M (shr (shr x3)) B) := by kernel_rfl
theorem Zzw : Zpg m0 x3 x6 x7 x8 B =
 mk (ob (xbin PP .add 3 x8 (iv 1)) fun a =>
 Zm7 m0 x3 x6 x7 (shr a) (gcB m0 [x3, x6, x7, (shr a)] B)) := by kernel_rfl
theorem ZEX : EE 13 [x0] B =
 (let m0 := B.length
 mk (mk (mk (ob (xlen PP 23 (shr x0)) fun a =>
 Zm7 m0 (iv 0) (shr x0) a (iv 0) (gcB m0 [(iv 0), (shr x0), a, (iv 0)] B))))) := (E_eq PP XX HH _ _ _).trans (by kernel_rfl)
def ZHe := Z2G Tryd.f14
def Ztf := l2 (l2 ZHe)
def Ztg := l2 (l2 Ztf)
def Zgz := l1 (l1 (l2 (l1 (l2 Ztf))))
def Z5e (r0 r1 : AV) (B : List Row) : Option Res :=
 ob (ob (some r0) fun v => ob (ob (some r1) fun v => ob (some []) fun vs => some (v :: vs)) fun vs => some (v :: vs)) fun vs => some ((nrmA (match vs with | [v] => v | vs => Z91 (vs.map shr))), B)
def Zpi (m0 : Nat) : Kont := kret PP HH 14 Tryd.f14.results
def ZF0 := kseq HH 14 m0 Ztg (exec PP HH 14 m0 EE LL Ztg (Zpi m0)) (Zpi m0)
def Ztb := kblk 0 (ZF0 m0)
def Zpj := kloop HH 14 m0 Zgz (LL 14 m0 Zgz (Ztb m0)) (Ztb m0)
def ZF1 := kseq HH 14 m0 (l2 (l2 Zgz)) (exec PP HH 14 m0 EE LL (l2 (l2 Zgz)) (Zpj m0)) (Zpj m0)
def ZF2 := kblk 1 (ZF1 m0)
def Ztc := exec PP HH 14 m0 EE LL Ztf (Zpi m0) [(0, x0)] B
def Zm8 := lp (LL 14 m0 Zgz (Ztb m0) [(0, x0), (4, x4), (5, x5)] B)
def Ztd := exec PP HH 14 m0 EE LL (l2 Zgz) (Zpj m0) [(0, x0), (4, x4), (5, x5)] B
def Zte := exec PP HH 14 m0 EE LL Ztg (Zpi m0) [(4, x4)] B
def Zpl := exec PP HH 14 m0 EE LL (l1 (l2 (l1 (l1 (l2 Zgz))))) (ZF2 m0) [(0, x0), (4, x4), (5, x5)] B
def Zpk := exec PP HH 14 m0 EE LL (l2 (l2 Zgz)) (Zpj m0) [(0, x0), (4, x4), (5, x5)] B
theorem ZzA : Ztc m0 x0 B =
 mk (callS true EE 23 [x0] B fun a b =>
 mk (Zm8 m0 (shr x0) a (kv .i32 65) (gcB m0 [(shr x0), a, (kv .i32 65)] b))) := by kernel_rfl
theorem Zzz : Zm8 m0 x0 x4 x5 B =
 mk (ob (xbin PP .lss 21 (shr x5) (kv .i32 91)) fun a =>
 asB a fun b => br b (Ztd m0 x0 x4 x5 (gcB m0 [x0, x4, x5] B))
 (Zte m0 x4 (gcB m0 [x4] B))) := lq_ (by kernel_rfl)
theorem ZzC : Ztd m0 x0 x4 x5 B =
 mk (ob (xcnv PP 21 3 (shr x5)) fun a =>
 callS false EE 24 [(shr x0), a] B fun b c =>
 asB (shr b) fun d => br d (Zpl m0 x0 x4 x5 (gcB m0 [x0, x4, x5] c))
 (ob (xbin PP .add 21 (shr x5) (kv .i32 32)) fun e =>
 ob (xcnv PP 21 3 e) fun f =>
 callS false EE 24 [(shr x0), f] c fun g h =>
 asB (shr g) fun i => br i (Zpl m0 x0 x4 x5 (gcB m0 [x0, x4, x5] h))
 (Zpk m0 x0 x4 x5 (gcB m0 [x0, x4, x5] h)))) := by kernel_rfl
theorem ZzE : Zte m0 x4 B =
 mk (callS false EE 25 [(shr x4)] B fun a b =>
 Z5e (shr a) (iv 0) b) := by kernel_rfl
theorem ZzD : Zpl m0 x0 x4 x5 B =
 mk (ob (xcnv PP 21 3 (shr x5)) fun a =>
 ob (xcnv PP 21 3 (shr x5)) fun b =>
 ob (Z1G PP 47 [(0, a), (1, b)]) fun c =>
 ob (xbin PP .add 21 (shr x5) (kv .i32 32)) fun d =>
 ob (xcnv PP 21 3 d) fun e =>
 ob (xbin PP .add 21 (shr x5) (kv .i32 32)) fun f =>
 ob (xcnv PP 21 3 f) fun g =>
 ob (Z1G PP 47 [(0, e), (1, g)]) fun h =>
 ob (xlit PP 28 2 [(0, c), (1, h)]) fun i =>
 ob (xapp 2 x4 i) fun j =>
 Zpk m0 x0 j x5 (gcB m0 [x0, j, x5] B)) := by kernel_rfl
theorem ZzB : Zpk m0 x0 x4 x5 B =
 mk (ob (xbin PP .add 21 (shr x5) (kv .i32 1)) fun a =>
 Zm8 m0 x0 x4 (shr a) (gcB m0 [x0, x4, (shr a)] B)) := by kernel_rfl
theorem ZEZ : EE 14 [x0] B =
 (let m0 := B.length
 mk (mk (callS false EE 12 [(shr x0)] B fun a b =>
 ob (xun PP .not a) fun c =>
 asB c fun d => br d (mk (Z5e nilA (iv 10) b))
 (Ztc m0 x0 (gcB m0 [x0] b))))) := (E_eq PP XX HH _ _ _).trans (by kernel_rfl)
def ZHf := Z2G Tryd.f17
def ZF4 (m0 : Nat) : Kont := kret PP HH 17 Tryd.f17.results
def Zth := exec PP HH 17 m0 EE LL (l2 (l2 ZHf)) (ZF4 m0) [(0, x0)] B
theorem ZzF : Zth m0 x0 B =
 mk (callS false EE 26 [(shr x0)] B fun a b =>
 Z5e (shr a) (iv 0) b) := by kernel_rfl
theorem ZF3 : EE 17 [x0] B =
 (let m0 := B.length
 mk (mk (callS false EE 12 [(shr x0)] B fun a b =>
 ob (xun PP .not a) fun c =>
 asB c fun d => br d (mk (Z5e nilA (iv 10) b))
 (Zth m0 x0 (gcB m0 [x0] b))))) := (E_eq PP XX HH _ _ _).trans (by kernel_rfl)
def ZHg := Z2G Tryd.f18
def ZF6 (m0 : Nat) : Kont := kret PP HH 18 Tryd.f18.results
def Zti := exec PP HH 18 m0 EE LL (l2 (l2 ZHg)) (ZF6 m0) [(1, x1)] B
theorem ZzG : Zti m0 x1 B =
 mk (ob (xfld 8 x1) fun a =>
 ob (ldN false 1 a B) fun b =>
 ob (Z1G PP 69 [(1, b)]) fun c =>
 bxM [(0, 6)] c B fun d e =>
 mk (ob (Z1G PP 40 [(0, (iv 4))]) fun f =>
 callS false EE 28 [(shr (shr d)), f] e fun g h =>
 mk (ob (xfld 0 x1) fun i =>
 ob (ldN true 7 i h) fun j =>
 callS false EE 29 [(shr (shr d)), j] h fun k l =>
 mk (ob (Z1G PP 40 [(0, (iv 4)), (1, (iv 1))]) fun n =>
 callS false EE 28 [(shr (shr d)), n] l fun o p =>
 mk (ob (Z1G PP 40 [(0, (iv 0))]) fun q =>
 callS false EE 28 [(shr (shr d)), q] p fun r s =>
 mk (ob (Z1H (shr (shr d))) fun t =>
 ob (xfld 0 t) fun u =>
 ldFz u s fun v w =>
 Z5e (shr v) (iv 0) w)))))) := by kernel_rfl
theorem ZF5 : EE 18 [x0] B =
 (let m0 := B.length
 mk (bx x0 B fun a b =>
 mk (ob (ldN true 9 a b) fun c =>
 callS false EE 27 [c] b fun d e =>
 mk (ob (xbin PP .neq 24 (shr (shr d)) (iv 0)) fun f =>
 asB f fun g => br g (mk (Z5e nilA (shr (shr (shr d))) e))
 (Zti m0 a (gcB m0 [a] e)))))) := (E_eq PP XX HH _ _ _).trans (by kernel_rfl)
def ZDs := Z2G Tryd.f19
def Ztl := l2 (l2 ZDs)
def Ztj (m0 : Nat) : Kont := kret PP HH 19 Tryd.f19.results
def ZF8 := kseq HH 19 m0 Ztl (exec PP HH 19 m0 EE LL Ztl (Ztj m0)) (Ztj m0)
def Zpm := exec PP HH 19 m0 EE LL (l1 (l2 (l1 (l2 ZDs)))) (ZF8 m0) [] B
def Ztk := exec PP HH 19 m0 EE LL Ztl (Ztj m0) [(0, x0), (1, x1)] B
theorem ZzH : Zpm m0 B =
 mk (Z1M (bv false) B) := by kernel_rfl
theorem ZzI : Ztk m0 x0 x1 B =
 mk (ob (Z1H (shr x0)) fun a =>
 ob (xfld 1 a) fun b =>
 ob (ldN false 1 b B) fun c =>
 ob (xlen PP 9 (shr x1)) fun d =>
 ob (xbin PP .add 3 c d) fun e =>
 ob (Z1H (shr x0)) fun f =>
 ob (xfld 1 f) fun g =>
 stN 1 g e B fun h =>
 mk (Z1M (bv true) h)) := by kernel_rfl
theorem ZF7 : EE 19 [x0, x1] B =
 (let m0 := B.length
 mk (mk (ob (Z1H (shr x0)) fun a =>
 ob (xfld 0 a) fun b =>
 ob (ldN false 1 b B) fun c =>
 ob (xlen PP 54 c) fun d =>
 ob (Z1H (shr x0)) fun e =>
 ob (xfld 1 e) fun f =>
 ob (ldN false 1 f B) fun g =>
 ob (xbin PP .sub 3 d g) fun h =>
 ob (xlen PP 9 (shr x1)) fun i =>
 ob (xbin PP .lss 3 h i) fun j =>
 asB (shr j) fun k => br k (Zpm m0 (gcB m0 [] B))
 (ob (Z1H (shr x0)) fun l =>
 ob (xfld 0 l) fun n =>
 ob (ldN false 1 n B) fun o =>
 ob (Z1H (shr x0)) fun p =>
 ob (xfld 1 p) fun q =>
 ob (ldN false 1 q B) fun r =>
 ob (Z1H (shr x0)) fun s =>
 ob (xfld 1 s) fun t =>
 ob (ldN false 1 t B) fun u =>
 ob (xlen PP 9 (shr x1)) fun v =>
 ob (xbin PP .add 3 u v) fun w =>
 ob (xsl 1 o (some r) (some w) none) fun x =>
 ob (xcnv PP 54 9 x) fun y =>
 ob (xbin PP .neq 9 y (shr x1)) fun z =>
 asB (shr z) fun A => br A (Zpm m0 (gcB m0 [] B))
 (Ztk m0 x0 x1 (gcB m0 [x0, x1] B)))))) := (E_eq PP XX HH _ _ _).trans (by kernel_rfl)
def ZDt := Z2G Tryd.f20
def Ztq := l2 (l2 (l2 ZDt))
def Zpn := l1 (l1 (l1 (l2 (l2 ZDt))))
def Z7z (r0 : AV) (B : List Row) : Option Res :=
 ob (ob (ldN true 7 r0 B) fun v => ob (some []) fun vs => some (v :: vs)) fun vs => some ((nrmA (match vs with | [v] => v | vs => Z91 (vs.map shr))), B)
def Ztm (m0 : Nat) : Kont := kret PP HH 20 Tryd.f20.results
def ZFa := kseq HH 20 m0 Ztq (exec PP HH 20 m0 EE LL Ztq (Ztm m0)) (Ztm m0)
def Ztn := kblk 0 (ZFa m0)
def ZFb := kloop HH 20 m0 Zpn (LL 20 m0 Zpn (Ztn m0)) (Ztn m0)
def Zm9 := lp (LL 20 m0 Zpn (Ztn m0) [(0, x0), (2, x2), (3, x3)] B)
def Zto := exec PP HH 20 m0 EE LL (l2 Zpn) (ZFb m0) [(0, x0), (2, x2), (3, x3)] B
def Ztp := exec PP HH 20 m0 EE LL Ztq (Ztm m0) [(2, x2), (3, x3)] B
theorem ZzJ : Zm9 m0 x0 x2 x3 B =
 mk (callS false EE 19 [(shr x0), (.p (.v (.string (ByteArray.mk #[124]))))] B fun a b =>
 asB a fun c => br c (Zto m0 x0 x2 x3 (gcB m0 [x0, x2, x3] b))
 (Ztp m0 x2 x3 (gcB m0 [x2, x3] b))) := lq_ (by kernel_rfl)
theorem ZzK : Zto m0 x0 x2 x3 B =
 mk (callS false EE 30 [(shr x0)] B fun a b =>
 ob (xlit PP 29 1 [(0, a)]) fun c =>
 ob (xapp 7 x3 c) fun d =>
 Zm9 m0 x0 x2 d (gcB m0 [x0, x2, d] b)) := by kernel_rfl
theorem ZzL : Ztp m0 x2 x3 B =
 mk (callS false EE 31 [(iv 3), (shr x3)] B fun a b =>
 stN 7 x2 a b fun c =>
 Z7z x2 c) := by kernel_rfl
theorem ZF9 : EE 20 [x0] B =
 (let m0 := B.length
 mk (bz PP 31 B fun a b =>
 mk (callS false EE 30 [(shr x0)] b fun c d =>
 ob (xlit PP 29 1 [(0, c)]) fun e =>
 Zm9 m0 x0 a e (gcB m0 [x0, a, e] d)))) := (E_eq PP XX HH _ _ _).trans (by kernel_rfl)
def ZHh := Z2G Tryd.f21
def Z4R (B : List Row) : Option Res :=
 ob (some []) fun vs => some ((nrmA (match vs with | [v] => v | vs => Z91 (vs.map shr))), B)
def ZFd (m0 : Nat) : Kont := kret PP HH 21 Tryd.f21.results
def Zpo := exec PP HH 21 m0 EE LL (l2 ZHh) (ZFd m0) [(0, x0)] B
theorem ZzM : Zpo m0 x0 B =
 mk (ob (Z1H (shr x0)) fun a =>
 ob (xfld 0 a) fun b =>
 ob (ldN false 1 b B) fun c =>
 ob (xlen PP 54 c) fun d =>
 ob (Z1H (shr x0)) fun e =>
 ob (xfld 1 e) fun f =>
 stN 1 f d B fun g =>
 Z4R g) := by kernel_rfl
theorem ZFc : EE 21 [x0, x1, x2] B =
 (let m0 := B.length
 mk (ob (Z1H (shr x0)) fun a =>
 ob (xfld 5 a) fun b =>
 ob (xfld 0 b) fun c =>
 ob (ldN false 1 c B) fun d =>
 ob (xbin PP .eql 24 d (iv 0)) fun e =>
 asB e fun f => br f (mk (ob (Z1G PP 35 [(0, (shr x1)), (1, (shr x2))]) fun g =>
 ob (Z1H (shr x0)) fun h =>
 ob (xfld 5 h) fun i =>
 stN 2 i g B fun j =>
 Zpo m0 x0 (gcB m0 [x0] j)))
 (Zpo m0 x0 (gcB m0 [x0] B)))) := (E_eq PP XX HH _ _ _).trans (by kernel_rfl)
theorem ZFe : EE 22 [x0] B =
 (let m0 := B.length
 mk (bx x0 B fun a b =>
 mk (ob (xfld 0 a) fun c =>
 ob (ldN false 1 c b) fun d =>
 ob (xbin PP .geq 3 d (iv 0)) fun e =>
 asB (shr e) fun f => br f (ob (xfld 0 a) fun g =>
 ob (ldN false 1 g b) fun h =>
 ob (xfld 1 a) fun i =>
 ob (ldN false 1 i b) fun j =>
 ob (xbin PP .leq 3 h j) fun k =>
 asB (shr (shr k)) fun l => br l (ob (xfld 1 a) fun n =>
 ob (ldN false 1 n b) fun o =>
 ob (xbin PP .leq 3 o (iv 1114367)) fun p =>
 Z1M (shr (shr p)) b)
 (Z1M (bv false) b))
 (Z1M (bv false) b)))) := (E_eq PP XX HH _ _ _).trans (by kernel_rfl)
theorem ZFf : EE 24 [x0, x1] B =
 (let m0 := B.length
 mk (bx x1 B fun a b =>
 mk (callS false EE 32 [(shr x0), (.clo 33 ([].map nrmA) ([a].map nrmA))] b fun c d =>
 Z1M (shr c) d))) := (E_eq PP XX HH _ _ _).trans (by kernel_rfl)
def ZDu := Z2G Tryd.f26
def Zpt := l2 (l2 (l2 (l2 ZDu)))
def Zps := l1 (l1 (l2 (l1 (l2 (l2 (l2 ZDu))))))
def Zmb := l2 (l2 Zps)
def Zpp (m0 : Nat) : Kont := kret PP HH 26 Tryd.f26.results
def ZFh := kseq HH 26 m0 Zpt (exec PP HH 26 m0 EE LL Zpt (Zpp m0)) (Zpp m0)
def Ztr := kblk 0 (ZFh m0)
def Zpq := kloop HH 26 m0 Zps (LL 26 m0 Zps (Ztr m0)) (Ztr m0)
def ZFi := kseq HH 26 m0 (l2 Zmb) (exec PP HH 26 m0 EE LL (l2 Zmb) (Zpq m0)) (Zpq m0)
def ZFj := kblk 1 (ZFi m0)
def Zma := lp (LL 26 m0 Zps (Ztr m0) [(3, x3), (4, x4), (7, x7), (8, x8), (9, x9)] B)
def Zts := exec PP HH 26 m0 EE LL Zmb (Zpq m0) [(3, x3), (4, x4), (7, x7), (8, x8), (9, x9)] B
def Zr8 := exec PP HH 26 m0 EE LL Zpt (Zpp m0) [(3, x3), (4, x4)] B
def Zpr := exec PP HH 26 m0 EE LL (l2 (l2 (l1 (l1 Zmb)))) (ZFj m0) [(3, x3), (6, x6), (7, x7), (8, x8), (9, x9)] B
def Znq := exec PP HH 26 m0 EE LL (l2 Zpt) (Zpp m0) [(3, x3)] B
def Ztt := exec PP HH 26 m0 EE LL (l2 Zmb) (Zpq m0) [(3, x3), (4, x4), (7, x7), (8, x8), (9, x9)] B
theorem ZzN : Zma m0 x3 x4 x7 x8 x9 B =
 mk (ob (xbin PP .lss 3 x9 x8) fun a =>
 asB a fun b => br b (Zts m0 x3 x4 x7 x8 x9 (gcB m0 [x3, x4, x7, x8, x9] B))
 (Zr8 m0 x3 x4 (gcB m0 [x3, x4] B))) := lq_ (by kernel_rfl)
theorem ZzO : Zts m0 x3 x4 x7 x8 x9 B =
 mk (ob (xidx 2 x7 x9) fun a =>
 ob (ldN true 2 a B) fun b =>
 bz PP 47 B fun c d =>
 stN 2 c b d fun e =>
 mk (ob (xfld 0 c) fun f =>
 ob (ldN false 1 f e) fun g =>
 ob (xbin PP .lss 3 (shr x4) g) fun h =>
 asB h fun i => br i (mk (ob (xfld 0 c) fun j =>
 ob (ldN false 1 j e) fun k =>
 ob (xbin PP .sub 3 k (iv 1)) fun l =>
 ob (Z1G PP 47 [(0, (shr x4)), (1, l)]) fun n =>
 ob (xlit PP 28 1 [(0, n)]) fun o =>
 ob (xapp 2 x3 o) fun p =>
 Zpr m0 p c x7 x8 x9 (gcB m0 [p, c, x7, x8, x9] e)))
 (Zpr m0 x3 c x7 x8 x9 (gcB m0 [x3, c, x7, x8, x9] e)))) := by kernel_rfl
theorem Zxm : Zr8 m0 x3 x4 B =
 mk (ob (xbin PP .leq 3 (shr x4) (iv 1114367)) fun a =>
 asB a fun b => br b (mk (ob (Z1G PP 47 [(0, (shr x4)), (1, (iv 1114367))]) fun c =>
 ob (xlit PP 28 1 [(0, c)]) fun d =>
 ob (xapp 2 x3 d) fun e =>
 Znq m0 e (gcB m0 [e] B)))
 (Znq m0 x3 (gcB m0 [x3] B))) := by kernel_rfl
theorem ZzP : Zpr m0 x3 x6 x7 x8 x9 B =
 mk (ob (xfld 1 x6) fun a =>
 ob (ldN false 1 a B) fun b =>
 ob (xbin PP .add 3 b (iv 1)) fun c =>
 Ztt m0 x3 (shr c) x7 x8 x9 (gcB m0 [x3, (shr c), x7, x8, x9] B)) := by kernel_rfl
theorem Zxn : Znq m0 x3 B =
 mk (Z1M (shr (shr x3)) B) := by kernel_rfl
theorem ZzQ : Ztt m0 x3 x4 x7 x8 x9 B =
 mk (ob (xbin PP .add 3 x9 (iv 1)) fun a =>
 Zma m0 x3 x4 x7 x8 (shr a) (gcB m0 [x3, x4, x7, x8, (shr a)] B)) := by kernel_rfl
theorem ZFg : EE 26 [x0] B =
 (let m0 := B.length
 mk (mk (mk (mk (ob (xlen PP 28 (shr x0)) fun a =>
 Zma m0 nilA (iv 0) (shr x0) a (iv 0) (gcB m0 [nilA, (iv 0), (shr x0), a, (iv 0)] B)))))) := (E_eq PP XX HH _ _ _).trans (by kernel_rfl)
def ZHi := Z2G Tryd.f27
def ZFl (m0 : Nat) : Kont := kret PP HH 27 Tryd.f27.results
def Ztu := exec PP HH 27 m0 EE LL (l2 (l2 ZHi)) (ZFl m0) [] B
theorem ZzR : Ztu m0 B =
 mk (Z1M (iv 0) B) := by kernel_rfl
theorem ZFk : EE 27 [x0] B =
 (let m0 := B.length
 mk (bx x0 B fun a b =>
 mk (ob (xfld 0 a) fun c =>
 ob (ldN true 7 c b) fun d =>
 callS false EE 38 [d] b fun e f =>
 ob (xun PP .not e) fun g =>
 asB (shr g) fun h => br h (mk (Z1M (iv 27) f))
 (mk (ob (xfld 0 a) fun i =>
 ob (ldN true 7 i f) fun j =>
 callS false EE 11 [j] f fun k l =>
 ob (xbin PP .add 3 k (iv 3)) fun n =>
 ob (xbin PP .gtr 3 n (iv 2000)) fun o =>
 asB (shr o) fun p => br p (mk (Z1M (iv 28) l))
 (Ztu m0 (gcB m0 [] l))))))) := (E_eq PP XX HH _ _ _).trans (by kernel_rfl)
theorem ZFm : EE 28 [x0, x1] B =
 (let m0 := B.length
 mk (bx x1 B fun a b =>
 mk (ob (Z1H (shr x0)) fun c =>
 ob (xfld 0 c) fun d =>
 ldOwn d b fun e f =>
 ob (ldN true 6 a f) fun g =>
 ob (xlit PP 23 1 [(0, g)]) fun h =>
 ob (ZnK 6 e h) fun i =>
 ob (Z1H (shr x0)) fun j =>
 ob (xfld 0 j) fun k =>
 stN 1 k i f fun l =>
 grd (Zbp d a) (mk (ob (Z1H (shr x0)) fun n =>
 ob (xfld 0 n) fun o =>
 ob (ldN false 1 o l) fun p =>
 ob (xlen PP 23 p) fun q =>
 ob (xbin PP .sub 3 q (iv 1)) fun r =>
 Z1M (shr r) l))))) := (E_eq PP XX HH _ _ _).trans (by kernel_rfl)
def Zsq := Z2G Tryd.f29
def Zpw := l1 (l1 (l2 (l1 (l2 (l2 (l2 (l1 (l2 (l2 Zsq)))))))))
def ZFo (m0 : Nat) : Kont := kret PP HH 29 Tryd.f29.results
def Zpu := kblk 0 (ZFo m0)
def Ztv := kblk 1 (Zpu m0)
def ZFp := kloop HH 29 m0 Zpw (LL 29 m0 Zpw (Ztv m0)) (Ztv m0)
def Zpv := exec PP HH 29 m0 EE LL (l2 (l2 (l1 (l2 (l1 (l2 (l2 Zsq))))))) (Zpu m0) [(2, x2), (4, x4)] B
def Zk5 := lp (LL 29 m0 Zpw (Ztv m0) [(2, x2), (36, x36), (37, x37), (38, x38)] B)
def Znr := exec PP HH 29 m0 EE LL (l2 (l2 (l1 (l2 (l2 (l2 (l2 (l2 (l2 (l2 (l2 (l2 (l2 (l2 (l1 (l2 (l2 Zsq))))))))))))))))) (Zpu m0) [(2, x2), (7, x7)] B
def Zns := exec PP HH 29 m0 EE LL (l2 (l2 (l1 (l2 (l2 (l2 (l2 (l2 (l2 (l2 (l2 (l2 (l2 (l2 (l2 (l2 (l1 (l2 (l2 Zsq))))))))))))))))))) (Zpu m0) [(2, x2), (3, x3), (8, x8)] B
def Zr9 := exec PP HH 29 m0 EE LL (l2 (l2 Zpw)) (ZFp m0) [(2, x2), (36, x36), (37, x37), (38, x38)] B
theorem ZzS : Zpv m0 x2 x4 B =
 mk (callS false EE 39 [(shr x4), nilA] B fun a b =>
 ob (xext 0 (shr a)) fun c =>
 ob (xext 1 (shr a)) fun d =>
 mk (ob (ldN false 1 x2 b) fun e =>
 ob (Z1G PP 40 [(0, (iv 1)), (5, (shr (shr (shr c))))]) fun f =>
 callS false EE 28 [e, f] b fun g h =>
 Z4R h)) := by kernel_rfl
theorem Zxo : Zk5 m0 x2 x36 x37 x38 B =
 mk (ob (xbin PP .lss 3 x38 x37) fun a =>
 asB a fun b => br b (Zr9 m0 x2 x36 x37 x38 (gcB m0 [x2, x36, x37, x38] B))
 (Z4R B)) := lq_ (by kernel_rfl)
theorem Zxq : Znr m0 x2 x7 B =
 mk (ob (ldN false 1 x2 B) fun a =>
 ob (ldN true 6 x7 B) fun b =>
 callS false EE 28 [a, b] B fun c d =>
 Z4R d) := by kernel_rfl
theorem Zxr : Zns m0 x2 x3 x8 B =
 mk (ob (ldN false 1 x2 B) fun a =>
 ob (ldN true 6 x8 B) fun b =>
 callS false EE 41 [a, b, (.clo 45 ([].map nrmA) ([x2, x3].map nrmA))] B fun c d =>
 Z4R d) := by kernel_rfl
theorem Zxp : Zr9 m0 x2 x36 x37 x38 B =
 mk (ob (xidx 7 x36 x38) fun a =>
 ob (ldN true 7 a B) fun b =>
 bz PP 31 B fun c d =>
 stN 7 c b d fun e =>
 mk (ob (ldN false 1 x2 e) fun f =>
 ob (ldN true 7 c e) fun g =>
 callS false EE 29 [f, g] e fun h i =>
 mk (ob (xbin PP .add 3 x38 (iv 1)) fun j =>
 Zk5 m0 x2 x36 x37 (shr j) (gcB m0 [x2, x36, x37, (shr j)] i)))) := by kernel_rfl
theorem ZFn : EE 29 [x0, x1] B =
 (let m0 := B.length
 mk (bx x0 B fun a b =>
 bx x1 b fun c d =>
 mk (ob (xfld 0 c) fun e =>
 ob (ldN false 1 e d) fun f =>
 mk (ob (xbin PP .eql 3 f (iv 1)) fun g =>
 asB (shr g) fun h => br h (mk (ob (xfld 5 c) fun i =>
 ob (ldN false 1 i d) fun j =>
 mk (ob (ldN false 1 a d) fun k =>
 ob (Z1H k) fun l =>
 ob (xfld 1 l) fun n =>
 ob (ldN false 1 n d) fun o =>
 asB o fun p => br p (mk (callS false EE 14 [(shr (shr j))] d fun q r =>
 ob (xext 0 (shr q)) fun s =>
 ob (xext 1 (shr q)) fun t =>
 Zpv m0 a (shr (shr s)) (gcB m0 [a, (shr (shr s))] r)))
 (Zpv m0 a (shr j) (gcB m0 [a, (shr j)] d)))))
 (mk (ob (xbin PP .eql 3 f (iv 2)) fun u =>
 asB (shr u) fun v => br v (mk (ob (xfld 6 c) fun w =>
 ob (ldN false 1 w d) fun x =>
 ob (xlen PP 29 x) fun y =>
 Zk5 m0 a x y (iv 0) (gcB m0 [a, x, y, (iv 0)] d)))
 (mk (ob (xbin PP .eql 3 f (iv 3)) fun z =>
 asB (shr z) fun A => br A (mk (ob (ldN false 1 a d) fun C =>
 ob (xfld 6 c) fun D =>
 ob (ldN false 1 D d) fun F =>
 callS false EE 40 [C, F] d fun G I =>
 Z4R I))
 (mk (ob (xbin PP .eql 3 f (iv 4)) fun J =>
 asB (shr J) fun M => br M (mk (ob (xfld 3 c) fun N =>
 ob (ldN false 1 N d) fun O =>
 ob (xbin PP .eql 3 O (iv 2)) fun Q =>
 asB Q fun R => br R (mk (ob (ldN false 1 a d) fun S =>
 ob (Z1G PP 40 [(0, (iv 8))]) fun T =>
 callS false EE 41 [S, T, (.clo 42 ([].map nrmA) ([a, c].map nrmA))] d fun U V =>
 Z4R V))
 (mk (ob (ldN false 1 a d) fun W =>
 ob (ldN true 7 c d) fun Y =>
 callS false EE 43 [W, Y] d fun Z a0 =>
 Z4R a0))))
 (mk (ob (xbin PP .eql 3 f (iv 5)) fun a1 =>
 asB (shr a1) fun a2 => br a2 (mk (ob (ldN false 1 a d) fun a3 =>
 ob (xfld 4 c) fun a4 =>
 ob (ldN false 1 a4 d) fun a5 =>
 ob (xbin PP .mul 3 (iv 2) a5) fun a6 =>
 ob (Z1G PP 40 [(0, (iv 4)), (1, a6)]) fun a7 =>
 callS false EE 28 [a3, a7] d fun a8 a9 =>
 mk (ob (ldN false 1 a a9) fun a10 =>
 ob (xfld 6 c) fun a11 =>
 ob (ldN false 1 a11 a9) fun a12 =>
 ob (xidx 7 a12 (iv 0)) fun a13 =>
 ob (ldN true 7 a13 a9) fun a14 =>
 callS false EE 29 [a10, a14] a9 fun a15 a16 =>
 mk (ob (ldN false 1 a a16) fun a17 =>
 ob (xfld 4 c) fun a18 =>
 ob (ldN false 1 a18 a16) fun a19 =>
 ob (xbin PP .mul 3 (iv 2) a19) fun a20 =>
 ob (xbin PP .add 3 a20 (iv 1)) fun a21 =>
 ob (Z1G PP 40 [(0, (iv 4)), (1, a21)]) fun a22 =>
 callS false EE 28 [a17, a22] a16 fun a23 a24 =>
 Z4R a24))))
 (mk (ob (xbin PP .eql 3 f (iv 6)) fun a25 =>
 asB (shr a25) fun a26 => br a26 (mk (ob (xfld 4 c) fun a27 =>
 ob (ldN false 1 a27 d) fun a28 =>
 ob (Z1G PP 40 [(0, (iv 5)), (1, a28)]) fun a29 =>
 bz PP 40 d fun a30 a31 =>
 stN 6 a30 a29 a31 fun a32 =>
 mk (ob (ldN false 1 a a32) fun a33 =>
 ob (Z1H a33) fun a34 =>
 ob (xfld 1 a34) fun a35 =>
 ob (ldN false 1 a35 a32) fun a36 =>
 asB a36 fun a37 => br a37 (mk (ob (xfld 2 a30) fun a38 =>
 stN 1 a38 (iv 1) a32 fun a39 =>
 Znr m0 a a30 (gcB m0 [a, a30] a39)))
 (Znr m0 a a30 (gcB m0 [a, a30] a32)))))
 (mk (ob (xbin PP .eql 3 f (iv 7)) fun a40 =>
 asB (shr a40) fun a41 => br a41 (mk (ob (xfld 3 c) fun a42 =>
 ob (ldN false 1 a42 d) fun a43 =>
 ob (Z1G PP 40 [(0, (iv 7)), (1, a43)]) fun a44 =>
 bz PP 40 d fun a45 a46 =>
 stN 6 a45 a44 a46 fun a47 =>
 mk (ob (xfld 3 c) fun a48 =>
 ob (ldN false 1 a48 a47) fun a49 =>
 ob (xbin PP .geq 3 a49 (iv 2)) fun a50 =>
 asB a50 fun a51 => br a51 (mk (ob (xfld 6 c) fun a52 =>
 ob (ldN false 1 a52 a47) fun a53 =>
 ob (xidx 7 a53 (iv 0)) fun a54 =>
 ob (ldN true 7 a54 a47) fun a55 =>
 callS false EE 44 [a55] a47 fun a56 a57 =>
 ob (xext 0 (shr a56)) fun a58 =>
 ob (xext 1 (shr a56)) fun a59 =>
 ob (xfld 3 a45) fun a60 =>
 stN 1 a60 (shr a58) a57 fun a61 =>
 ob (xfld 4 a45) fun a62 =>
 stN 1 a62 (shr a59) a61 fun a63 =>
 Zns m0 a c a45 (gcB m0 [a, c, a45] a63)))
 (Zns m0 a c a45 (gcB m0 [a, c, a45] a47)))))
 (mk (ob (xbin PP .eql 3 f (iv 8)) fun a64 =>
 asB (shr a64) fun a65 => br a65 (mk (ob (ldN false 1 a d) fun a66 =>
 ob (Z1G PP 40 [(0, (iv 8))]) fun a67 =>
 callS false EE 41 [a66, a67, (.clo 46 ([].map nrmA) ([a, c].map nrmA))] d fun a68 a69 =>
 Z4R a69))
 (mk (ob (xbin PP .eql 3 f (iv 9)) fun a70 =>
 asB (shr a70) fun a71 => br a71 (mk (ob (ldN false 1 a d) fun a72 =>
 ob (xfld 4 c) fun a73 =>
 ob (ldN false 1 a73 d) fun a74 =>
 ob (Z1G PP 40 [(0, (iv 6)), (1, a74)]) fun a75 =>
 callS false EE 28 [a72, a75] d fun a76 a77 =>
 Z4R a77))
 (Z4R d))))))))))))))))))))) := (E_eq PP XX HH _ _ _).trans (by kernel_rfl)
def ZDv := Z2G Tryd.f30
def Ztz := l2 (l2 (l2 (l1 (l2 ZDv))))
def Zme := l1 (l1 (l1 (l2 (l2 (l1 (l2 ZDv))))))
def Ztw (m0 : Nat) : Kont := kret PP HH 30 Tryd.f30.results
def ZFr := kseq HH 30 m0 Ztz (exec PP HH 30 m0 EE LL Ztz (Ztw m0)) (Ztw m0)
def Ztx := kblk 0 (ZFr m0)
def ZzT := kloop HH 30 m0 Zme (LL 30 m0 Zme (Ztx m0)) (Ztx m0)
def ZFs := kblk 1 (ZzT m0)
def Zmc := lp (LL 30 m0 Zme (Ztx m0) [(0, x0), (2, x2), (3, x3)] B)
def Zty := exec PP HH 30 m0 EE LL (l2 Zme) (ZzT m0) [(0, x0), (2, x2), (3, x3)] B
def Zk6 := exec PP HH 30 m0 EE LL Ztz (Ztw m0) [(2, x2), (3, x3)] B
def Zmd := exec PP HH 30 m0 EE LL (l2 (l1 (l2 Zme))) (ZFs m0) [(0, x0), (2, x2), (3, x3)] B
theorem ZzU : Zmc m0 x0 x2 x3 B =
 mk (ob (Z1H (shr x0)) fun a =>
 ob (xfld 5 a) fun b =>
 ob (xfld 0 b) fun c =>
 ob (ldN false 1 c B) fun d =>
 ob (xbin PP .eql 24 d (iv 0)) fun e =>
 asB e fun f => br f (Zty m0 x0 x2 x3 (gcB m0 [x0, x2, x3] B))
 (Zk6 m0 x2 x3 (gcB m0 [x2, x3] B))) := lq_ (by kernel_rfl)
theorem ZzV : Zty m0 x0 x2 x3 B =
 mk (callS false EE 47 [(shr x0)] B fun a b =>
 mk (ob (xbin PP .eql 3 a (iv (-1))) fun c =>
 asB (shr c) fun d => br d (asB (shr c) fun e => br e (Zk6 m0 x2 x3 (gcB m0 [x2, x3] b))
 (Zmd m0 x0 x2 x3 (gcB m0 [x0, x2, x3] b)))
 (mk (ob (xbin PP .eql 3 a (iv 124)) fun f =>
 asB (shr f) fun g => br g (asB (shr f) fun h => br h (Zk6 m0 x2 x3 (gcB m0 [x2, x3] b))
 (Zmd m0 x0 x2 x3 (gcB m0 [x0, x2, x3] b)))
 (mk (ob (xbin PP .eql 3 a (iv 41)) fun i =>
 asB (shr i) fun j => br j (Zk6 m0 x2 x3 (gcB m0 [x2, x3] b))
 (Zmd m0 x0 x2 x3 (gcB m0 [x0, x2, x3] b)))))))) := by kernel_rfl
theorem ZzX : Zk6 m0 x2 x3 B =
 mk (callS false EE 31 [(iv 2), (shr x3)] B fun a b =>
 stN 7 x2 a b fun c =>
 Z7z x2 c) := by kernel_rfl
theorem ZzW : Zmd m0 x0 x2 x3 B =
 mk (callS false EE 48 [(shr x0)] B fun a b =>
 ob (xext 0 (shr a)) fun c =>
 ob (xext 1 (shr a)) fun d =>
 bz PP 31 b fun e f =>
 stN 7 e (shr c) f fun g =>
 mk (ob (ldN true 7 e g) fun h =>
 callS false EE 49 [(shr x0), h, (shr (shr (shr d)))] g fun i j =>
 ob (xlit PP 29 1 [(0, i)]) fun k =>
 ob (xapp 7 x3 k) fun l =>
 Zmc m0 x0 x2 l (gcB m0 [x0, x2, l] j))) := by kernel_rfl
theorem ZFq : EE 30 [x0] B =
 (let m0 := B.length
 mk (bz PP 31 B fun a b =>
 mk (Zmc m0 x0 a nilA (gcB m0 [x0, a, nilA] (gcB m0 [x0, a, nilA] b))))) := (E_eq PP XX HH _ _ _).trans (by kernel_rfl)
def ZHj := Z2G Tryd.f31
def ZFu (m0 : Nat) : Kont := kret PP HH 31 Tryd.f31.results
def ZtA := exec PP HH 31 m0 EE LL (l2 (l2 ZHj)) (ZFu m0) [(0, x0), (1, x1), (4, x4)] B
theorem ZzY : ZtA m0 x0 x1 x4 B =
 mk (ob (Z1G PP 31 [(0, (shr x0)), (6, (shr x1))]) fun a =>
 stN 7 x4 a B fun b =>
 Z7z x4 b) := by kernel_rfl
theorem ZFt : EE 31 [x0, x1] B =
 (let m0 := B.length
 mk (bz PP 31 B fun a b =>
 mk (ob (xlen PP 29 (shr x1)) fun c =>
 mk (ob (xbin PP .eql 3 c (iv 0)) fun d =>
 asB (shr d) fun e => br e (mk (ob (Z1G PP 31 []) fun f =>
 stN 7 a f b fun g =>
 Z7z a g))
 (mk (ob (xbin PP .eql 3 c (iv 1)) fun h =>
 asB (shr h) fun i => br i (mk (ob (xidx 7 (shr x1) (iv 0)) fun j =>
 ob (ldN true 7 j b) fun k =>
 stN 7 a k b fun l =>
 Z7z a l))
 (ZtA m0 x0 x1 a (gcB m0 [x0, x1, a] b)))))))) := (E_eq PP XX HH _ _ _).trans (by kernel_rfl)
theorem ZFv : EE 32 [x0, x1] B =
 (let m0 := B.length
 mk (mk (callS false EE 50 [(shr x0), (shr x1)] B fun a b =>
 ob (xbin PP .geq 3 a (iv 0)) fun c =>
 Z1M (shr c) b))) := (E_eq PP XX HH _ _ _).trans (by kernel_rfl)
theorem ZFw : EE 33 [x0, x1] B =
 (let m0 := B.length
 mk (bx x0 B fun a b =>
 mk (ob (xfld 0 a) fun c =>
 ob (ldN false 1 c b) fun d =>
 ob (ldN false 1 x1 b) fun e =>
 ob (xbin PP .leq 3 d e) fun f =>
 asB (shr f) fun g => br g (ob (ldN false 1 x1 b) fun h =>
 ob (xfld 1 a) fun i =>
 ob (ldN false 1 i b) fun j =>
 ob (xbin PP .leq 3 h j) fun k =>
 Z1M (shr (shr k)) b)
 (Z1M (bv false) b)))) := (E_eq PP XX HH _ _ _).trans (by kernel_rfl)
def ZDw := Z2G Tryd.f38
def ZtD := l2 (l2 ZDw)
def ZA3 := l1 (l2 (l1 (l2 ZDw)))
def ZtB (m0 : Nat) : Kont := kret PP HH 38 Tryd.f38.results
def ZzZ := kseq HH 38 m0 ZtD (exec PP HH 38 m0 EE LL ZtD (ZtB m0)) (ZtB m0)
def ZtC := exec PP HH 38 m0 EE LL ZA3 (ZzZ m0) [(1, x1)] B
def Zmf := exec PP HH 38 m0 EE LL ZtD (ZtB m0) [(1, x1)] B
def Zpx := exec PP HH 38 m0 EE LL (l1 (l2 (l2 ZA3))) (ZzZ m0) [] B
theorem ZA0 : ZtC m0 x1 B =
 mk (ob (xfld 6 x1) fun a =>
 ob (ldN false 1 a B) fun b =>
 ob (xidx 7 b (iv 0)) fun c =>
 ob (ldN true 7 c B) fun d =>
 callS false EE 44 [d] B fun e f =>
 ob (xext 0 (shr e)) fun g =>
 ob (xext 1 (shr e)) fun h =>
 mk (ob (xbin PP .lss 3 (shr (shr (shr h))) (iv 0)) fun i =>
 asB (shr i) fun j => br j (Zpx m0 (gcB m0 [] f))
 (ob (xbin PP .gtr 3 (shr (shr (shr h))) (iv 32)) fun k =>
 asB (shr k) fun l => br l (Zpx m0 (gcB m0 [] f))
 (Zmf m0 x1 (gcB m0 [x1] f))))) := by kernel_rfl
theorem ZA2 : Zmf m0 x1 B =
 mk (ob (xfld 6 x1) fun a =>
 ob (ldN false 1 a B) fun b =>
 callS false EE 55 [b, (.clo 56 [] [])] B fun c d =>
 ob (xun PP .not c) fun e =>
 Z1M (shr e) d) := by kernel_rfl
theorem ZA1 : Zpx m0 B =
 mk (Z1M (bv false) B) := by kernel_rfl
theorem ZFx : EE 38 [x0] B =
 (let m0 := B.length
 mk (bx x0 B fun a b =>
 mk (ob (xfld 0 a) fun c =>
 ob (ldN false 1 c b) fun d =>
 ob (xbin PP .eql 3 d (iv 7)) fun e =>
 asB (shr e) fun f => br f (ob (xfld 3 a) fun g =>
 ob (ldN false 1 g b) fun h =>
 ob (xbin PP .geq 3 h (iv 2)) fun i =>
 asB (shr i) fun j => br j (ZtC m0 a (gcB m0 [a] b))
 (Zmf m0 a (gcB m0 [a] b)))
 (Zmf m0 a (gcB m0 [a] b))))) := (E_eq PP XX HH _ _ _).trans (by kernel_rfl)
def ZDx := Z2G Tryd.f39
def ZtG := l2 (l2 ZDx)
def ZtE (m0 : Nat) : Kont := kret PP HH 39 Tryd.f39.results
def ZFz := kseq HH 39 m0 ZtG (exec PP HH 39 m0 EE LL ZtG (ZtE m0)) (ZtE m0)
def Zpy := exec PP HH 39 m0 EE LL (l1 (l2 (l1 (l2 ZDx)))) (ZFz m0) [] B
def ZtF := exec PP HH 39 m0 EE LL ZtG (ZtE m0) [(0, x0), (1, x1)] B
theorem ZA4 : Zpy m0 B =
 mk (Z5e nilA (iv 10) B) := by kernel_rfl
theorem ZA5 : ZtF m0 x0 x1 B =
 mk (ob (xlit PP 110 2 [(0, (shr x0)), (1, (shr x1))]) fun a =>
 callS false EE 57 [a] B fun b c =>
 callS false EE 25 [b] c fun d e =>
 Z5e (shr d) (iv 0) e) := by kernel_rfl
theorem ZFy : EE 39 [x0, x1] B =
 (let m0 := B.length
 mk (mk (callS false EE 12 [(shr x0)] B fun a b =>
 ob (xun PP .not a) fun c =>
 asB (shr c) fun d => br d (Zpy m0 (gcB m0 [] b))
 (callS false EE 12 [(shr x1)] b fun e f =>
 ob (xun PP .not e) fun g =>
 asB (shr g) fun h => br h (Zpy m0 (gcB m0 [] f))
 (ZtF m0 x0 x1 (gcB m0 [x0, x1] f)))))) := (E_eq PP XX HH _ _ _).trans (by kernel_rfl)
def ZDy := Z2G Tryd.f40
def ZpF := l2 (l2 (l2 ZDy))
def ZpE := l1 (l1 (l2 (l1 (l2 (l2 ZDy)))))
def ZpG := l1 (l1 (l2 (l2 ZpF)))
def ZpD (m0 : Nat) : Kont := kret PP HH 40 Tryd.f40.results
def ZFB := kseq HH 40 m0 ZpF (exec PP HH 40 m0 EE LL ZpF (ZpD m0)) (ZpD m0)
def ZtL := kblk 0 (ZFB m0)
def ZFC := kloop HH 40 m0 ZpE (LL 40 m0 ZpE (ZtL m0)) (ZtL m0)
def ZtM := kblk 2 (ZpD m0)
def ZFD := kloop HH 40 m0 ZpG (LL 40 m0 ZpG (ZtM m0)) (ZtM m0)
def Zmh := lp (LL 40 m0 ZpE (ZtL m0) [(0, x0), (1, x1), (4, x4), (5, x5), (16, x16), (17, x17), (18, x18)] B)
def ZtN := exec PP HH 40 m0 EE LL (l2 (l2 ZpE)) (ZFC m0) [(0, x0), (1, x1), (4, x4), (5, x5), (16, x16), (17, x17), (18, x18)] B
def Zra := exec PP HH 40 m0 EE LL ZpF (ZpD m0) [(0, x0), (1, x1), (4, x4), (5, x5)] B
def Zk7 := lp (LL 40 m0 ZpG (ZtM m0) [(0, x0), (51, x51), (52, x52), (53, x53)] B)
def Zrb := exec PP HH 40 m0 EE LL (l2 (l2 ZpG)) (ZFD m0) [(0, x0), (51, x51), (52, x52), (53, x53)] B
theorem ZAd : Zmh m0 x0 x1 x4 x5 x16 x17 x18 B =
 mk (ob (xbin PP .lss 3 x18 x17) fun a =>
 asB a fun b => br b (ZtN m0 x0 x1 x4 x5 x16 x17 x18 (gcB m0 [x0, x1, x4, x5, x16, x17, x18] B))
 (Zra m0 x0 x1 x4 x5 (gcB m0 [x0, x1, x4, x5] B))) := lq_ (by kernel_rfl)
theorem ZAe : ZtN m0 x0 x1 x4 x5 x16 x17 x18 B =
 mk (ob (xidx 7 x16 x18) fun a =>
 ob (ldN true 7 a B) fun b =>
 bz PP 31 B fun c d =>
 stN 7 c b d fun e =>
 mk (ob (Z1G PP 40 [(0, (iv 3))]) fun f =>
 callS false EE 28 [(shr x0), f] e fun g h =>
 mk (ob (ldN true 7 c h) fun i =>
 callS false EE 29 [(shr x0), i] h fun j k =>
 mk (ob (Z1G PP 40 [(0, (iv 2))]) fun l =>
 callS false EE 28 [(shr x0), l] k fun n o =>
 ob (xlit PP 96 1 [(0, n)]) fun p =>
 ob (xapp 1 x4 p) fun q =>
 mk (ob (xbin PP .add 3 (shr (shr g)) (iv 1)) fun r =>
 ob (Z1H (shr x0)) fun s =>
 ob (xfld 0 s) fun t =>
 ob (ldN false 1 t o) fun u =>
 ob (xlen PP 23 u) fun v =>
 callS false EE 58 [(shr x0), (shr (shr g)), r, v, (bv false)] o fun w x =>
 mk (ob (xbin PP .add 3 x18 (iv 1)) fun y =>
 Zmh m0 x0 x1 q x5 x16 x17 (shr y) (gcB m0 [x0, x1, q, x5, x16, x17, (shr y)] x))))))) := by kernel_rfl
theorem Zxy : Zra m0 x0 x1 x4 x5 B =
 mk (ob (xidx 7 (shr x1) (shr x5)) fun a =>
 ob (ldN true 7 a B) fun b =>
 callS false EE 29 [(shr x0), b] B fun c d =>
 mk (ob (xlen PP 96 (shr x4)) fun e =>
 Zk7 m0 x0 (shr x4) e (iv 0) (gcB m0 [x0, (shr x4), e, (iv 0)] d))) := by kernel_rfl
theorem Zxx : Zk7 m0 x0 x51 x52 x53 B =
 mk (ob (xbin PP .lss 3 x53 x52) fun a =>
 asB a fun b => br b (Zrb m0 x0 x51 x52 x53 (gcB m0 [x0, x51, x52, x53] B))
 (Z4R B)) := lq_ (by kernel_rfl)
theorem Zxz : Zrb m0 x0 x51 x52 x53 B =
 mk (ob (xidx 1 x51 x53) fun a =>
 ob (ldN false 1 a B) fun b =>
 mk (ob (ncA (shr (Z2e x0))) fun c =>
 ob (flA 0 c) fun d =>
 ob (alA false d B) fun e =>
 ob (ncA (shr (Z2e x0))) fun f =>
 ob (flA 0 f) fun g =>
 ob (ldA false false 1 g B) fun h =>
 ob (xlen PP 23 h) fun i =>
 ob (ixA 6 e (shr (Z2e (shr b)))) fun j =>
 ob (flA 1 j) fun k =>
 ob (stEl 1 k (Z2e i) B) fun l =>
 mk (ob (xbin PP .add 3 (Z2e x53) (iv 1)) fun n =>
 Zk7 m0 (Z2e x0) (Z2e x51) (Z2e x52) (shr n) (gcB m0 [(Z2e x0), (Z2e x51), (Z2e x52), (shr n)] l)))) := by kernel_rfl
theorem ZFA : EE 40 [x0, x1] B =
 (let m0 := B.length
 mk (mk (ob (xlen PP 29 (shr x1)) fun a =>
 ob (xbin PP .sub 3 a (iv 1)) fun b =>
 mk (ob (xsl 7 (shr x1) none (some (shr (shr b))) none) fun c =>
 ob (xlen PP 29 c) fun d =>
 Zmh m0 x0 x1 nilA (shr b) c d (iv 0) (gcB m0 [x0, x1, nilA, (shr b), c, d, (iv 0)] B))))) := (E_eq PP XX HH _ _ _).trans (by kernel_rfl)
theorem ZtO : EE 41 [x0, x1, x2] B =
 (let m0 := B.length
 mk (bx x1 B fun a b =>
 mk (ob (ldN true 6 a b) fun c =>
 callS false EE 28 [(shr x0), c] b fun d e =>
 mk (callV HH EE (shr x2) [] e fun f g =>
 mk (ob (Z1G PP 40 [(0, (iv 9))]) fun h =>
 callS false EE 28 [(shr x0), h] g fun i j =>
 mk (ob (ncA (shr (Z2e x0))) fun k =>
 ob (flA 0 k) fun l =>
 ob (alA false l j) fun n =>
 ob (ncA (shr (Z2e x0))) fun o =>
 ob (flA 0 o) fun p =>
 ob (ldA false false 1 p j) fun q =>
 ob (xlen PP 23 q) fun r =>
 ob (ixA 6 n (shr (Z2e (shr d)))) fun s =>
 ob (flA 2 s) fun t =>
 ob (stEl 1 t (Z2e r) j) fun u =>
 Z4R u)))))) := (E_eq PP XX HH _ _ _).trans (by kernel_rfl)
theorem ZFE : EE 42 [x0, x1] B =
 (let m0 := B.length
 mk (ob (ldN false 1 x0 B) fun a =>
 ob (ldN true 7 x1 B) fun b =>
 callS false EE 43 [a, b] B fun c d =>
 Z4R d)) := (E_eq PP XX HH _ _ _).trans (by kernel_rfl)
def ZDz := Z2G Tryd.f43
def Zka := l2 (l2 (l2 ZDz))
def ZpK := l2 (l2 (l2 Zka))
def ZpI := l1 (l1 (l2 (l1 (l2 (l2 ZDz)))))
def ZAk := l2 (l2 ZpI)
def ZpJ := l1 (l1 (l2 (l1 (l2 (l2 Zka)))))
def ZpL := l1 (l1 (l2 ZpK))
def ZgA (m0 : Nat) : Kont := kret PP HH 43 Tryd.f43.results
def ZFG := kseq HH 43 m0 Zka (exec PP HH 43 m0 EE LL Zka (ZgA m0)) (ZgA m0)
def ZtP := kblk 0 (ZFG m0)
def ZAf := kloop HH 43 m0 ZpI (LL 43 m0 ZpI (ZtP m0)) (ZtP m0)
def ZFH := kseq HH 43 m0 ZpK (exec PP HH 43 m0 EE LL ZpK (ZgA m0)) (ZgA m0)
def ZtQ := kblk 2 (ZFH m0)
def ZFI := kloop HH 43 m0 ZpJ (LL 43 m0 ZpJ (ZtQ m0)) (ZtQ m0)
def ZtR := kblk 4 (ZgA m0)
def ZFJ := kloop HH 43 m0 ZpL (LL 43 m0 ZpL (ZtR m0)) (ZtR m0)
def Zmi := lp (LL 43 m0 ZpI (ZtP m0) [(0, x0), (3, x3), (4, x4), (13, x13), (14, x14)] B)
def ZtS := exec PP HH 43 m0 EE LL ZAk (ZAf m0) [(0, x0), (3, x3), (4, x4), (13, x13), (14, x14)] B
def ZpH := exec PP HH 43 m0 EE LL Zka (ZgA m0) [(0, x0), (3, x3), (4, x4)] B
def ZtT := exec PP HH 43 m0 EE LL (l2 ZAk) (ZAf m0) [(0, x0), (3, x3), (4, x4), (13, x13), (14, x14)] B
def Zrc := exec PP HH 43 m0 EE LL (l2 Zka) (ZgA m0) [(0, x0), (3, x3), (4, x4)] B
def Zk8 := lp (LL 43 m0 ZpJ (ZtQ m0) [(0, x0), (3, x3), (4, x4), (6, x6), (49, x49), (50, x50)] B)
def Zrd := exec PP HH 43 m0 EE LL (l2 (l2 ZpJ)) (ZFI m0) [(0, x0), (3, x3), (4, x4), (6, x6), (49, x49), (50, x50)] B
def Zre := exec PP HH 43 m0 EE LL ZpK (ZgA m0) [(0, x0), (4, x4), (6, x6)] B
def Zk9 := lp (LL 43 m0 ZpL (ZtR m0) [(0, x0), (4, x4), (65, x65), (66, x66), (67, x67)] B)
def Zrf := exec PP HH 43 m0 EE LL (l2 (l2 ZpL)) (ZFJ m0) [(0, x0), (4, x4), (65, x65), (66, x66), (67, x67)] B
theorem ZAg : Zmi m0 x0 x3 x4 x13 x14 B =
 mk (ob (xbin PP .lss 3 x14 x13) fun a =>
 asB a fun b => br b (ZtS m0 x0 x3 x4 x13 x14 (gcB m0 [x0, x3, x4, x13, x14] B))
 (ZpH m0 x0 x3 x4 (gcB m0 [x0, x3, x4] B))) := lq_ (by kernel_rfl)
theorem ZAh : ZtS m0 x0 x3 x4 x13 x14 B =
 mk (ob (Z1H (shr x0)) fun a =>
 ob (xfld 0 a) fun b =>
 ob (ldN false 1 b B) fun c =>
 ob (xlen PP 23 c) fun d =>
 mk (ob (xfld 6 x3) fun e =>
 ob (ldN false 1 e B) fun f =>
 ob (xidx 7 f (iv 0)) fun g =>
 ob (ldN true 7 g B) fun h =>
 callS false EE 29 [(shr x0), h] B fun i j =>
 mk (ob (Z1H (shr x0)) fun k =>
 ob (xfld 0 k) fun l =>
 ob (ldN false 1 l j) fun n =>
 ob (xlen PP 23 n) fun o =>
 ob (xbin PP .eql 3 o (shr (shr d))) fun p =>
 asB p fun q => br q (ZpH m0 x0 x3 x4 (gcB m0 [x0, x3, x4] j))
 (ZtT m0 x0 x3 x4 x13 x14 (gcB m0 [x0, x3, x4, x13, x14] j))))) := by kernel_rfl
theorem ZAj : ZpH m0 x0 x3 x4 B =
 mk (ob (xfld 2 x3) fun a =>
 ob (ldN false 1 a B) fun b =>
 ob (xbin PP .lss 3 b (iv 0)) fun c =>
 asB c fun d => br d (mk (ob (xfld 6 x3) fun e =>
 ob (ldN false 1 e B) fun f =>
 ob (xidx 7 f (iv 0)) fun g =>
 ob (ldN true 7 g B) fun h =>
 callS false EE 59 [(shr x0), h, (shr x4)] B fun i j =>
 Z4R j))
 (Zrc m0 x0 x3 x4 (gcB m0 [x0, x3, x4] B))) := by kernel_rfl
theorem ZAi : ZtT m0 x0 x3 x4 x13 x14 B =
 mk (ob (xbin PP .add 3 x14 (iv 1)) fun a =>
 Zmi m0 x0 x3 x4 x13 (shr a) (gcB m0 [x0, x3, x4, x13, (shr a)] B)) := by kernel_rfl
theorem ZxC : Zrc m0 x0 x3 x4 B =
 mk (mk (ob (xfld 2 x3) fun a =>
 ob (ldN false 1 a B) fun b =>
 ob (xfld 1 x3) fun c =>
 ob (ldN false 1 c B) fun d =>
 ob (xbin PP .sub 3 b d) fun e =>
 Zk8 m0 x0 x3 x4 nilA e (iv 0) (gcB m0 [x0, x3, x4, nilA, e, (iv 0)] B))) := by kernel_rfl
theorem ZxA : Zk8 m0 x0 x3 x4 x6 x49 x50 B =
 mk (ob (xbin PP .lss 3 x50 x49) fun a =>
 asB a fun b => br b (Zrd m0 x0 x3 x4 x6 x49 x50 (gcB m0 [x0, x3, x4, x6, x49, x50] B))
 (Zre m0 x0 x4 x6 (gcB m0 [x0, x4, x6] B))) := lq_ (by kernel_rfl)
theorem ZxD : Zrd m0 x0 x3 x4 x6 x49 x50 B =
 mk (ob (Z1G PP 40 [(0, (iv 3))]) fun a =>
 callS false EE 28 [(shr x0), a] B fun b c =>
 ob (xlit PP 96 1 [(0, b)]) fun d =>
 ob (xapp 1 x6 d) fun e =>
 mk (ob (xfld 6 x3) fun f =>
 ob (ldN false 1 f c) fun g =>
 ob (xidx 7 g (iv 0)) fun h =>
 ob (ldN true 7 h c) fun i =>
 callS false EE 29 [(shr x0), i] c fun j k =>
 mk (ob (xbin PP .add 3 x50 (iv 1)) fun l =>
 Zk8 m0 x0 x3 x4 e x49 (shr l) (gcB m0 [x0, x3, x4, e, x49, (shr l)] k)))) := by kernel_rfl
theorem ZxE : Zre m0 x0 x4 x6 B =
 mk (ob (xlen PP 96 (shr x6)) fun a =>
 Zk9 m0 x0 x4 (shr x6) a (iv 0) (gcB m0 [x0, x4, (shr x6), a, (iv 0)] B)) := by kernel_rfl
theorem ZxB : Zk9 m0 x0 x4 x65 x66 x67 B =
 mk (ob (xbin PP .lss 3 x67 x66) fun a =>
 asB a fun b => br b (Zrf m0 x0 x4 x65 x66 x67 (gcB m0 [x0, x4, x65, x66, x67] B))
 (Z4R B)) := lq_ (by kernel_rfl)
theorem ZxF : Zrf m0 x0 x4 x65 x66 x67 B =
 mk (ob (xidx 1 x65 x67) fun a =>
 ob (ldN false 1 a B) fun b =>
 mk (ob (xbin PP .add 3 (shr (shr b)) (iv 1)) fun c =>
 ob (Z1H (shr x0)) fun d =>
 ob (xfld 0 d) fun e =>
 ob (ldN false 1 e B) fun f =>
 ob (xlen PP 23 f) fun g =>
 callS false EE 58 [(shr x0), (shr (shr b)), c, g, (shr x4)] B fun h i =>
 mk (ob (xbin PP .add 3 x67 (iv 1)) fun j =>
 Zk9 m0 x0 x4 x65 x66 (shr j) (gcB m0 [x0, x4, x65, x66, (shr j)] i)))) := by kernel_rfl
theorem ZFF : EE 43 [x0, x1] B =
 (let m0 := B.length
 mk (bx x1 B fun a b =>
 mk (ob (xfld 3 a) fun c =>
 ob (ldN false 1 c b) fun d =>
 ob (xbin PP .eql 3 d (iv 1)) fun e =>
 mk (ob (xfld 1 a) fun f =>
 ob (ldN false 1 f b) fun g =>
 Zmi m0 x0 a (shr e) g (iv 0) (gcB m0 [x0, a, (shr e), g, (iv 0)] b))))) := (E_eq PP XX HH _ _ _).trans (by kernel_rfl)
def ZxG := Z2G Tryd.f44
def ZtY := l2 (l2 ZxG)
def ZpN := l1 (l1 (l2 (l1 (l2 (l2 (l2 (l2 (l2 (l1 (l2 (l1 (l2 ZxG))))))))))))
def ZpO := l1 (l1 (l2 (l2 (l1 (l2 (l2 (l2 (l2 (l2 (l2 (l2 (l1 (l2 (l1 (l2 ZxG)))))))))))))))
def Zkc := l2 (l2 ZpO)
def ZtU (m0 : Nat) : Kont := kret PP HH 44 Tryd.f44.results
def ZFL := kseq HH 44 m0 ZtY (exec PP HH 44 m0 EE LL ZtY (ZtU m0)) (ZtU m0)
def ZAl := kblk 0 (ZFL m0)
def ZtV := kblk 1 (ZAl m0)
def ZtW := kblk 3 (ZAl m0)
def ZFM := kloop HH 44 m0 ZpN (LL 44 m0 ZpN (ZtV m0)) (ZtV m0)
def ZpM := kloop HH 44 m0 ZpO (LL 44 m0 ZpO (ZtW m0)) (ZtW m0)
def ZFN := kseq HH 44 m0 (l2 Zkc) (exec PP HH 44 m0 EE LL (l2 Zkc) (ZpM m0)) (ZpM m0)
def ZAm := kblk 4 (ZFN m0)
def Zmj := lp (LL 44 m0 ZpN (ZtV m0) [(2, x2), (3, x3), (23, x23), (24, x24), (25, x25)] B)
def Zkb := lp (LL 44 m0 ZpO (ZtW m0) [(2, x2), (3, x3), (45, x45), (46, x46), (47, x47)] B)
def Zic := exec PP HH 44 m0 EE LL ZtY (ZtU m0) [(2, x2), (3, x3)] B
def ZtX := exec PP HH 44 m0 EE LL (l2 (l2 ZpN)) (ZFM m0) [(2, x2), (3, x3), (23, x23), (24, x24), (25, x25)] B
def Zrg := exec PP HH 44 m0 EE LL Zkc (ZpM m0) [(2, x2), (3, x3), (45, x45), (46, x46), (47, x47)] B
def Znt := exec PP HH 44 m0 EE LL (l1 (l2 (l2 (l2 (l2 (l1 (l1 Zkc))))))) (ZAm m0) [(2, x2), (45, x45), (46, x46), (47, x47)] B
def Zrh := exec PP HH 44 m0 EE LL (l2 (l2 (l2 (l2 (l2 (l1 (l1 Zkc))))))) (ZAm m0) [(2, x2), (3, x3), (11, x11), (45, x45), (46, x46), (47, x47)] B
def Znu := exec PP HH 44 m0 EE LL (l2 Zkc) (ZpM m0) [(2, x2), (3, x3), (45, x45), (46, x46), (47, x47)] B
theorem ZAn : Zmj m0 x2 x3 x23 x24 x25 B =
 mk (ob (xbin PP .lss 3 x25 x24) fun a =>
 asB a fun b => br b (ZtX m0 x2 x3 x23 x24 x25 (gcB m0 [x2, x3, x23, x24, x25] B))
 (Zic m0 x2 x3 (gcB m0 [x2, x3] B))) := lq_ (by kernel_rfl)
theorem ZxH : Zkb m0 x2 x3 x45 x46 x47 B =
 mk (ob (xbin PP .lss 3 x47 x46) fun a =>
 asB a fun b => br b (Zrg m0 x2 x3 x45 x46 x47 (gcB m0 [x2, x3, x45, x46, x47] B))
 (Zic m0 x2 x3 (gcB m0 [x2, x3] B))) := lq_ (by kernel_rfl)
theorem ZxM : Zic m0 x2 x3 B =
 mk (Z5e (shr (shr x2)) (shr (shr x3)) B) := by kernel_rfl
theorem ZAo : ZtX m0 x2 x3 x23 x24 x25 B =
 mk (ob (xidx 7 x23 x25) fun a =>
 ob (ldN true 7 a B) fun b =>
 bz PP 31 B fun c d =>
 stN 7 c b d fun e =>
 mk (ob (ldN true 7 c e) fun f =>
 callS false EE 44 [f] e fun g h =>
 ob (xext 0 (shr g)) fun i =>
 ob (xext 1 (shr g)) fun j =>
 mk (ob (xbin PP .add 3 (shr x2) (shr (shr (shr i)))) fun k =>
 ob (Z6W PP false [k, (iv 1048576)]) fun l =>
 callS false EE 60 [(shr x3), (shr (shr (shr j)))] h fun n o =>
 mk (ob (xbin PP .add 3 x25 (iv 1)) fun p =>
 Zmj m0 (shr l) (shr n) x23 x24 (shr p) (gcB m0 [(shr l), (shr n), x23, x24, (shr p)] o))))) := by kernel_rfl
theorem ZxI : Zrg m0 x2 x3 x45 x46 x47 B =
 mk (ob (xidx 7 x45 x47) fun a =>
 ob (ldN true 7 a B) fun b =>
 bz PP 31 B fun c d =>
 stN 7 c b d fun e =>
 mk (ob (ldN true 7 c e) fun f =>
 callS false EE 44 [f] e fun g h =>
 ob (xext 0 (shr g)) fun i =>
 ob (xext 1 (shr g)) fun j =>
 mk (ob (Z6W PP false [(shr x2), (shr (shr (shr i)))]) fun k =>
 mk (ob (xbin PP .lss 3 (shr (shr (shr j))) (iv 0)) fun l =>
 asB (shr l) fun n => br n (Znt m0 (shr k) x45 x46 x47 (gcB m0 [(shr k), x45, x46, x47] h))
 (ob (xbin PP .lss 3 (shr x3) (iv 0)) fun o =>
 asB (shr o) fun p => br p (Znt m0 (shr k) x45 x46 x47 (gcB m0 [(shr k), x45, x46, x47] h))
 (Zrh m0 (shr k) x3 (shr (shr j)) x45 x46 x47 (gcB m0 [(shr k), x3, (shr (shr j)), x45, x46, x47] h))))))) := by kernel_rfl
theorem ZxJ : Znt m0 x2 x45 x46 x47 B =
 mk (Znu m0 x2 (iv (-1)) x45 x46 x47 (gcB m0 [x2, (iv (-1)), x45, x46, x47] B)) := by kernel_rfl
theorem ZxK : Zrh m0 x2 x3 x11 x45 x46 x47 B =
 mk (ob (Z6W PP true [(shr x3), (shr x11)]) fun a =>
 Znu m0 x2 (shr a) x45 x46 x47 (gcB m0 [x2, (shr a), x45, x46, x47] B)) := by kernel_rfl
theorem ZxL : Znu m0 x2 x3 x45 x46 x47 B =
 mk (ob (xbin PP .add 3 x47 (iv 1)) fun a =>
 Zkb m0 x2 x3 x45 x46 (shr a) (gcB m0 [x2, x3, x45, x46, (shr a)] B)) := by kernel_rfl
theorem ZFK : EE 44 [x0] B =
 (let m0 := B.length
 mk (bx x0 B fun a b =>
 mk (ob (xfld 0 a) fun c =>
 ob (ldN false 1 c b) fun d =>
 mk (ob (xbin PP .eql 3 d (iv 1)) fun e =>
 asB (shr e) fun f => br f (mk (Z5e (iv 1) (iv 1) b))
 (mk (ob (xbin PP .eql 3 d (iv 6)) fun g =>
 asB (shr g) fun h => br h (mk (Z5e (iv 0) (iv (-1)) b))
 (mk (ob (xbin PP .eql 3 d (iv 2)) fun i =>
 asB (shr i) fun j => br j (mk (ob (xfld 6 a) fun k =>
 ob (ldN false 1 k b) fun l =>
 ob (xlen PP 29 l) fun n =>
 Zmj m0 (iv 0) (iv 0) l n (iv 0) (gcB m0 [(iv 0), (iv 0), l, n, (iv 0)] b)))
 (mk (ob (xbin PP .eql 3 d (iv 3)) fun o =>
 asB (shr o) fun p => br p (mk (mk (ob (xfld 6 a) fun q =>
 ob (ldN false 1 q b) fun r =>
 ob (xlen PP 29 r) fun s =>
 Zkb m0 (iv 1048576) (iv 0) r s (iv 0) (gcB m0 [(iv 1048576), (iv 0), r, s, (iv 0)] b))))
 (mk (ob (xbin PP .eql 3 d (iv 4)) fun t =>
 asB (shr t) fun u => br u (mk (ob (xfld 6 a) fun v =>
 ob (ldN false 1 v b) fun w =>
 ob (xidx 7 w (iv 0)) fun x =>
 ob (ldN true 7 x b) fun y =>
 callS false EE 44 [y] b fun z A =>
 ob (xext 0 (shr z)) fun C =>
 ob (xext 1 (shr z)) fun D =>
 mk (ob (xfld 1 a) fun F =>
 ob (ldN false 1 F A) fun G =>
 ob (xbin PP .mul 3 (shr (shr (shr C))) G) fun I =>
 ob (Z6W PP false [I, (iv 1048576)]) fun J =>
 ob (xfld 2 a) fun M =>
 ob (ldN false 1 M A) fun N =>
 callS false EE 61 [(shr (shr (shr D))), N] A fun O Q =>
 grd (ZkD [O, (shr (shr (shr D))), N]) (Z5e (shr J) (shr O) Q))))
 (mk (ob (xbin PP .eql 3 d (iv 5)) fun R =>
 asB (shr R) fun S => br S (asB (shr R) fun T => br T (mk (ob (xfld 6 a) fun U =>
 ob (ldN false 1 U b) fun V =>
 ob (xidx 7 V (iv 0)) fun W =>
 ob (ldN true 7 W b) fun Y =>
 callS false EE 44 [Y] b fun Z a0 =>
 ob (xext 0 Z) fun a1 =>
 ob (xext 1 Z) fun a2 =>
 Z5e (shr (shr a1)) (shr (shr a2)) a0))
 (Zic m0 (iv 0) (iv 0) (gcB m0 [(iv 0), (iv 0)] b)))
 (mk (ob (xbin PP .eql 3 d (iv 8)) fun a3 =>
 asB (shr a3) fun a4 => br a4 (mk (ob (xfld 6 a) fun a5 =>
 ob (ldN false 1 a5 b) fun a6 =>
 ob (xidx 7 a6 (iv 0)) fun a7 =>
 ob (ldN true 7 a7 b) fun a8 =>
 callS false EE 44 [a8] b fun a9 a10 =>
 ob (xext 0 a9) fun a11 =>
 ob (xext 1 a9) fun a12 =>
 Z5e (shr (shr a11)) (shr (shr a12)) a10))
 (Zic m0 (iv 0) (iv 0) (gcB m0 [(iv 0), (iv 0)] b)))))))))))))))))) := (E_eq PP XX HH _ _ _).trans (by kernel_rfl)
theorem ZFO : EE 45 [x0, x1] B =
 (let m0 := B.length
 mk (ob (ldN false 1 x0 B) fun a =>
 ob (xfld 6 x1) fun b =>
 ob (ldN false 1 b B) fun c =>
 ob (xidx 7 c (iv 0)) fun d =>
 ob (ldN true 7 d B) fun e =>
 callS false EE 29 [a, e] B fun f g =>
 Z4R g)) := (E_eq PP XX HH _ _ _).trans (by kernel_rfl)
theorem ZFP : EE 46 [x0, x1] B =
 (let m0 := B.length
 mk (ob (ldN false 1 x0 B) fun a =>
 ob (xfld 6 x1) fun b =>
 ob (ldN false 1 b B) fun c =>
 ob (xidx 7 c (iv 0)) fun d =>
 ob (ldN true 7 d B) fun e =>
 callS false EE 29 [a, e] B fun f g =>
 Z4R g)) := (E_eq PP XX HH _ _ _).trans (by kernel_rfl)
def ZHq := Z2G Tryd.f47
def ZFR (m0 : Nat) : Kont := kret PP HH 47 Tryd.f47.results
def ZtZ := exec PP HH 47 m0 EE LL (l2 (l2 ZHq)) (ZFR m0) [(0, x0)] B
theorem ZAp : ZtZ m0 x0 B =
 mk (ob (Z1H (shr x0)) fun a =>
 ob (xfld 0 a) fun b =>
 ob (ldN false 1 b B) fun c =>
 ob (Z1H (shr x0)) fun d =>
 ob (xfld 1 d) fun e =>
 ob (ldN false 1 e B) fun f =>
 callS false EE 62 [c, f] B fun g h =>
 ob (xext 0 (shr g)) fun i =>
 ob (xext 1 (shr g)) fun j =>
 mk (Z1M (shr (shr (shr (shr i)))) h)) := by kernel_rfl
theorem ZFQ : EE 47 [x0] B =
 (let m0 := B.length
 mk (mk (ob (Z1H (shr x0)) fun a =>
 ob (xfld 1 a) fun b =>
 ob (ldN false 1 b B) fun c =>
 ob (Z1H (shr x0)) fun d =>
 ob (xfld 0 d) fun e =>
 ob (ldN false 1 e B) fun f =>
 ob (xlen PP 54 f) fun g =>
 ob (xbin PP .geq 3 c g) fun h =>
 asB h fun i => br i (mk (Z1M (iv (-1)) B))
 (ZtZ m0 x0 (gcB m0 [x0] B))))) := (E_eq PP XX HH _ _ _).trans (by kernel_rfl)
def ZHr := Z2G Tryd.f48
def Z6u (r0 r1 : AV) (B : List Row) : Option Res :=
 ob (ob (ldN true 7 r0 B) fun v => ob (ob (some r1) fun v => ob (some []) fun vs => some (v :: vs)) fun vs => some (v :: vs)) fun vs => some ((nrmA (match vs with | [v] => v | vs => Z91 (vs.map shr))), B)
def ZFT (m0 : Nat) : Kont := kret PP HH 48 Tryd.f48.results
def Z8t := exec PP HH 48 m0 EE LL (l2 (l2 (l2 ZHr))) (ZFT m0) [(2, x2)] B
theorem ZxN : Z8t m0 x2 B =
 mk (ob (Z1G PP 31 []) fun a =>
 stN 7 x2 a B fun b =>
 Z6u x2 (bv true) b) := by kernel_rfl
theorem ZFS : EE 48 [x0] B =
 (let m0 := B.length
 mk (bz PP 31 B fun a b =>
 mk (ob (Z1H (shr x0)) fun c =>
 ob (xfld 1 c) fun d =>
 ob (ldN false 1 d b) fun e =>
 mk (callS false EE 63 [(shr x0)] b fun f g =>
 mk (mk (ob (xbin PP .eql 3 (shr (shr f)) (iv 46)) fun h =>
 asB (shr h) fun i => br i (mk (callS false EE 65 [(iv 10)] g fun j k =>
 ob (xlit PP 27 1 [(0, j)]) fun l =>
 callS false EE 64 [(bv true), l] k fun n o =>
 stN 7 a n o fun p =>
 Z6u a (bv true) p))
 (mk (ob (xbin PP .eql 3 (shr (shr f)) (iv 94)) fun q =>
 asB (shr q) fun r => br r (mk (ob (Z1G PP 31 [(0, (iv 9)), (4, (iv 0))]) fun s =>
 stN 7 a s g fun t =>
 Z6u a (bv false) t))
 (mk (ob (xbin PP .eql 3 (shr (shr f)) (iv 36)) fun u =>
 asB (shr u) fun v => br v (mk (ob (Z1G PP 31 [(0, (iv 9)), (4, (iv 1))]) fun w =>
 stN 7 a w g fun x =>
 Z6u a (bv false) x))
 (mk (ob (xbin PP .eql 3 (shr (shr f)) (iv 92)) fun y =>
 asB (shr y) fun z => br z (mk (callS false EE 66 [(shr x0), (shr (shr e))] g fun A C =>
 bz PP 31 C fun D F =>
 stN 7 D A F fun G =>
 mk (ob (ldN true 7 D G) fun I =>
 ob (xfld 0 D) fun J =>
 ob (ldN false 1 J G) fun M =>
 ob (xbin PP .neq 3 M (iv 9)) fun N =>
 stN 7 a I G fun O =>
 grd (Zbp J a) (Z6u a (shr N) O))))
 (mk (ob (xbin PP .eql 3 (shr (shr f)) (iv 91)) fun Q =>
 asB (shr Q) fun R => br R (mk (callS false EE 67 [(shr x0), (shr (shr e))] g fun S T =>
 stN 7 a S T fun U =>
 Z6u a (bv true) U))
 (mk (ob (xbin PP .eql 3 (shr (shr f)) (iv 40)) fun V =>
 asB (shr V) fun W => br W (mk (callS false EE 68 [(shr x0), (shr (shr e))] g fun Y Z =>
 ob (xext 0 Y) fun a0 =>
 ob (xext 1 Y) fun a1 =>
 stN 7 a (shr a0) Z fun a2 =>
 Z6u a (shr (shr a1)) a2))
 (mk (ob (xbin PP .eql 3 (shr (shr f)) (iv 42)) fun a3 =>
 asB (shr a3) fun a4 => br a4 (asB (shr a3) fun a5 => br a5 (mk (callS false EE 21 [(shr x0), (iv 23), (shr (shr e))] g fun a6 a7 =>
 Z8t m0 a (gcB m0 [a] a7)))
 (mk (ob (xbin PP .eql 3 (shr (shr f)) (iv 93)) fun a8 =>
 asB (shr a8) fun a9 => br a9 (asB (shr a8) fun a10 => br a10 (mk (callS false EE 21 [(shr x0), (iv 20), (shr (shr e))] g fun a11 a12 =>
 Z8t m0 a (gcB m0 [a] a12)))
 (mk (callS false EE 65 [(shr (shr f))] g fun a13 a14 =>
 ob (xlit PP 27 1 [(0, a13)]) fun a15 =>
 callS false EE 64 [(bv false), a15] a14 fun a16 a17 =>
 stN 7 a a16 a17 fun a18 =>
 Z6u a (bv true) a18)))
 (mk (ob (xbin PP .eql 3 (shr (shr f)) (iv 125)) fun a19 =>
 asB (shr a19) fun a20 => br a20 (mk (callS false EE 21 [(shr x0), (iv 20), (shr (shr e))] g fun a21 a22 =>
 Z8t m0 a (gcB m0 [a] a22)))
 (mk (callS false EE 65 [(shr (shr f))] g fun a23 a24 =>
 ob (xlit PP 27 1 [(0, a23)]) fun a25 =>
 callS false EE 64 [(bv false), a25] a24 fun a26 a27 =>
 stN 7 a a26 a27 fun a28 =>
 Z6u a (bv true) a28)))))))
 (mk (ob (xbin PP .eql 3 (shr (shr f)) (iv 43)) fun a29 =>
 asB (shr a29) fun a30 => br a30 (asB (shr a29) fun a31 => br a31 (mk (callS false EE 21 [(shr x0), (iv 23), (shr (shr e))] g fun a32 a33 =>
 Z8t m0 a (gcB m0 [a] a33)))
 (mk (ob (xbin PP .eql 3 (shr (shr f)) (iv 93)) fun a34 =>
 asB (shr a34) fun a35 => br a35 (asB (shr a34) fun a36 => br a36 (mk (callS false EE 21 [(shr x0), (iv 20), (shr (shr e))] g fun a37 a38 =>
 Z8t m0 a (gcB m0 [a] a38)))
 (mk (callS false EE 65 [(shr (shr f))] g fun a39 a40 =>
 ob (xlit PP 27 1 [(0, a39)]) fun a41 =>
 callS false EE 64 [(bv false), a41] a40 fun a42 a43 =>
 stN 7 a a42 a43 fun a44 =>
 Z6u a (bv true) a44)))
 (mk (ob (xbin PP .eql 3 (shr (shr f)) (iv 125)) fun a45 =>
 asB (shr a45) fun a46 => br a46 (mk (callS false EE 21 [(shr x0), (iv 20), (shr (shr e))] g fun a47 a48 =>
 Z8t m0 a (gcB m0 [a] a48)))
 (mk (callS false EE 65 [(shr (shr f))] g fun a49 a50 =>
 ob (xlit PP 27 1 [(0, a49)]) fun a51 =>
 callS false EE 64 [(bv false), a51] a50 fun a52 a53 =>
 stN 7 a a52 a53 fun a54 =>
 Z6u a (bv true) a54)))))))
 (mk (ob (xbin PP .eql 3 (shr (shr f)) (iv 63)) fun a55 =>
 asB (shr a55) fun a56 => br a56 (asB (shr a55) fun a57 => br a57 (mk (callS false EE 21 [(shr x0), (iv 23), (shr (shr e))] g fun a58 a59 =>
 Z8t m0 a (gcB m0 [a] a59)))
 (mk (ob (xbin PP .eql 3 (shr (shr f)) (iv 93)) fun a60 =>
 asB (shr a60) fun a61 => br a61 (asB (shr a60) fun a62 => br a62 (mk (callS false EE 21 [(shr x0), (iv 20), (shr (shr e))] g fun a63 a64 =>
 Z8t m0 a (gcB m0 [a] a64)))
 (mk (callS false EE 65 [(shr (shr f))] g fun a65 a66 =>
 ob (xlit PP 27 1 [(0, a65)]) fun a67 =>
 callS false EE 64 [(bv false), a67] a66 fun a68 a69 =>
 stN 7 a a68 a69 fun a70 =>
 Z6u a (bv true) a70)))
 (mk (ob (xbin PP .eql 3 (shr (shr f)) (iv 125)) fun a71 =>
 asB (shr a71) fun a72 => br a72 (mk (callS false EE 21 [(shr x0), (iv 20), (shr (shr e))] g fun a73 a74 =>
 Z8t m0 a (gcB m0 [a] a74)))
 (mk (callS false EE 65 [(shr (shr f))] g fun a75 a76 =>
 ob (xlit PP 27 1 [(0, a75)]) fun a77 =>
 callS false EE 64 [(bv false), a77] a76 fun a78 a79 =>
 stN 7 a a78 a79 fun a80 =>
 Z6u a (bv true) a80)))))))
 (mk (ob (xbin PP .eql 3 (shr (shr f)) (iv 123)) fun a81 =>
 asB (shr a81) fun a82 => br a82 (mk (callS false EE 21 [(shr x0), (iv 23), (shr (shr e))] g fun a83 a84 =>
 Z8t m0 a (gcB m0 [a] a84)))
 (mk (ob (xbin PP .eql 3 (shr (shr f)) (iv 93)) fun a85 =>
 asB (shr a85) fun a86 => br a86 (asB (shr a85) fun a87 => br a87 (mk (callS false EE 21 [(shr x0), (iv 20), (shr (shr e))] g fun a88 a89 =>
 Z8t m0 a (gcB m0 [a] a89)))
 (mk (callS false EE 65 [(shr (shr f))] g fun a90 a91 =>
 ob (xlit PP 27 1 [(0, a90)]) fun a92 =>
 callS false EE 64 [(bv false), a92] a91 fun a93 a94 =>
 stN 7 a a93 a94 fun a95 =>
 Z6u a (bv true) a95)))
 (mk (ob (xbin PP .eql 3 (shr (shr f)) (iv 125)) fun a96 =>
 asB (shr a96) fun a97 => br a97 (mk (callS false EE 21 [(shr x0), (iv 20), (shr (shr e))] g fun a98 a99 =>
 Z8t m0 a (gcB m0 [a] a99)))
 (mk (callS false EE 65 [(shr (shr f))] g fun a100 a101 =>
 ob (xlit PP 27 1 [(0, a100)]) fun a102 =>
 callS false EE 64 [(bv false), a102] a101 fun a103 a104 =>
 stN 7 a a103 a104 fun a105 =>
 Z6u a (bv true) a105)))))))))))))))))))))))))))))) := (E_eq PP XX HH _ _ _).trans (by kernel_rfl)
def ZHs := Z2G Tryd.f49
def Zu1 := l2 (l2 (l2 (l2 ZHs)))
def Zu0 (m0 : Nat) : Kont := kret PP HH 49 Tryd.f49.results
def Zid := exec PP HH 49 m0 EE LL Zu1 (Zu0 m0) [(0, x0), (2, x2), (6, x6), (7, x7), (8, x8)] B
def Znv := exec PP HH 49 m0 EE LL (l2 Zu1) (Zu0 m0) [(0, x0), (6, x6), (8, x8)] B
def Zkd := exec PP HH 49 m0 EE LL (l2 (l2 Zu1)) (Zu0 m0) [(6, x6), (8, x8)] B
theorem ZxO : Zid m0 x0 x2 x6 x7 x8 B =
 mk (ob (xun PP .not (shr x2)) fun a =>
 asB a fun b => br b (mk (callS false EE 21 [(shr x0), (iv 23), (shr x7)] B fun c d =>
 Znv m0 x0 x6 x8 (gcB m0 [x0, x6, x8] d)))
 (Znv m0 x0 x6 x8 (gcB m0 [x0, x6, x8] B))) := by kernel_rfl
theorem ZxP : Znv m0 x0 x6 x8 B =
 mk (callS false EE 19 [(shr x0), (.p (.v (.string (ByteArray.mk #[63]))))] B fun a b =>
 asB (shr a) fun c => br c (mk (ob (xfld 3 x8) fun d =>
 stN 1 d (iv 1) b fun e =>
 Zkd m0 x6 x8 (gcB m0 [x6, x8] e)))
 (mk (callS false EE 19 [(shr x0), (.p (.v (.string (ByteArray.mk #[43]))))] b fun f g =>
 asB (shr f) fun h => br h (mk (ob (xfld 3 x8) fun i =>
 stN 1 i (iv 2) g fun j =>
 Zkd m0 x6 x8 (gcB m0 [x6, x8] j)))
 (Zkd m0 x6 x8 (gcB m0 [x6, x8] g))))) := by kernel_rfl
theorem ZxQ : Zkd m0 x6 x8 B =
 mk (ob (ldN true 7 x8 B) fun a =>
 stN 7 x6 a B fun b =>
 Z7z x6 b) := by kernel_rfl
theorem ZFU : EE 49 [x0, x1, x2] B =
 (let m0 := B.length
 mk (bx x1 B fun a b =>
 bz PP 31 b fun c d =>
 mk (ob (Z1H (shr x0)) fun e =>
 ob (xfld 1 e) fun f =>
 ob (ldN false 1 f d) fun g =>
 mk (ob (ldN true 7 a d) fun h =>
 ob (xlit PP 29 1 [(0, h)]) fun i =>
 ob (Z1G PP 31 [(0, (iv 4)), (2, (iv (-1))), (6, i)]) fun j =>
 bz PP 31 d fun k l =>
 stN 7 k j l fun n =>
 mk (callS false EE 19 [(shr x0), (.p (.v (.string (ByteArray.mk #[42]))))] n fun o q =>
 asB (shr o) fun r => br r (Zid m0 x0 x2 c (shr g) k (gcB m0 [x0, x2, c, (shr g), k] q))
 (mk (callS false EE 19 [(shr x0), (.p (.v (.string (ByteArray.mk #[43]))))] q fun s t =>
 asB (shr s) fun u => br u (mk (ob (xfld 1 k) fun w =>
 stN 1 w (iv 1) t fun x =>
 Zid m0 x0 x2 c (shr g) k (gcB m0 [x0, x2, c, (shr g), k] x)))
 (mk (callS false EE 19 [(shr x0), (.p (.v (.string (ByteArray.mk #[63]))))] t fun y z =>
 asB (shr y) fun A => br A (mk (ob (xfld 2 k) fun C =>
 stN 1 C (iv 1) z fun D =>
 Zid m0 x0 x2 c (shr g) k (gcB m0 [x0, x2, c, (shr g), k] D)))
 (mk (callS false EE 19 [(shr x0), (.p (.v (.string (ByteArray.mk #[123]))))] z fun F G =>
 asB (shr F) fun I => br I (mk (callS false EE 69 [(shr x0), (shr (shr g))] G fun J M =>
 ob (xext 0 (shr J)) fun N =>
 ob (xext 1 (shr J)) fun O =>
 ob (xfld 1 k) fun Q =>
 stN 1 Q (shr N) M fun R =>
 ob (xfld 2 k) fun S =>
 stN 1 S (shr O) R fun T =>
 Zid m0 x0 x2 c (shr g) k (gcB m0 [x0, x2, c, (shr g), k] T)))
 (mk (ob (ldN true 7 a G) fun U =>
 stN 7 c U G fun V =>
 Z7z c V))))))))))))) := (E_eq PP XX HH _ _ _).trans (by kernel_rfl)
def ZDA := Z2G Tryd.f50
def Zu7 := l2 (l2 ZDA)
def ZpP := l1 (l1 (l2 (l1 (l2 ZDA))))
def ZAv := l2 (l2 ZpP)
def Zu2 (m0 : Nat) : Kont := kret PP HH 50 Tryd.f50.results
def ZFW := kseq HH 50 m0 Zu7 (exec PP HH 50 m0 EE LL Zu7 (Zu2 m0)) (Zu2 m0)
def Zu3 := kblk 0 (ZFW m0)
def ZAq := kloop HH 50 m0 ZpP (LL 50 m0 ZpP (Zu3 m0)) (Zu3 m0)
def Zmk := lp (LL 50 m0 ZpP (Zu3 m0) [(0, x0), (1, x1), (7, x7), (8, x8)] B)
def Zu4 := exec PP HH 50 m0 EE LL ZAv (ZAq m0) [(0, x0), (1, x1), (7, x7), (8, x8)] B
def Zu6 := exec PP HH 50 m0 EE LL Zu7 (Zu2 m0) [] B
def Zu5 := exec PP HH 50 m0 EE LL (l2 ZAv) (ZAq m0) [(0, x0), (1, x1), (7, x7), (8, x8)] B
theorem ZAr : Zmk m0 x0 x1 x7 x8 B =
 mk (ob (xbin PP .lss 3 x8 x7) fun a =>
 asB a fun b => br b (Zu4 m0 x0 x1 x7 x8 (gcB m0 [x0, x1, x7, x8] B))
 (Zu6 m0 (gcB m0 [] B))) := lq_ (by kernel_rfl)
theorem ZAs : Zu4 m0 x0 x1 x7 x8 B =
 mk (mk (ob (xidx 2 (shr x0) (shr (shr (shr x8)))) fun a =>
 ob (ldN true 2 a B) fun b =>
 callV HH EE (shr x1) [b] B fun c d =>
 asB c fun e => br e (mk (Z1M (shr (shr (shr (shr x8)))) d))
 (Zu5 m0 x0 x1 x7 x8 (gcB m0 [x0, x1, x7, x8] d)))) := by kernel_rfl
theorem ZAu : Zu6 m0 B =
 mk (Z1M (iv (-1)) B) := by kernel_rfl
theorem ZAt : Zu5 m0 x0 x1 x7 x8 B =
 mk (ob (xbin PP .add 3 x8 (iv 1)) fun a =>
 Zmk m0 x0 x1 x7 (shr a) (gcB m0 [x0, x1, x7, (shr a)] B)) := by kernel_rfl
theorem ZFV : EE 50 [x0, x1] B =
 (let m0 := B.length
 mk (mk (ob (xlen PP 28 (shr x0)) fun a =>
 Zmk m0 x0 x1 a (iv 0) (gcB m0 [x0, x1, a, (iv 0)] B)))) := (E_eq PP XX HH _ _ _).trans (by kernel_rfl)
theorem ZFX : EE 55 [x0, x1] B =
 (let m0 := B.length
 mk (mk (callS false EE 73 [(shr x0), (shr x1)] B fun a b =>
 ob (xbin PP .geq 3 a (iv 0)) fun c =>
 Z1M (shr c) b))) := (E_eq PP XX HH _ _ _).trans (by kernel_rfl)
theorem ZFY : EE 56 [x0] B =
 (let m0 := B.length
 mk (bx x0 B fun a b =>
 mk (ob (ldN true 7 a b) fun c =>
 callS false EE 38 [c] b fun d e =>
 ob (xun PP .not d) fun f =>
 Z1M (shr f) e))) := (E_eq PP XX HH _ _ _).trans (by kernel_rfl)
def ZHt := Z2G Tryd.f58
def ZG0 (m0 : Nat) : Kont := kret PP HH 58 Tryd.f58.results
def ZpQ := exec PP HH 58 m0 EE LL (l2 ZHt) (ZG0 m0) [(0, x0), (1, x1), (2, x2), (3, x3)] B
theorem ZAw : ZpQ m0 x0 x1 x2 x3 B =
 mk (ob (ncA (shr (Z2e x0))) fun a =>
 ob (flA 0 a) fun b =>
 ob (alA false b B) fun c =>
 ob (ncA (shr (Z2e x0))) fun d =>
 ob (flA 0 d) fun e =>
 ob (alA false e B) fun f =>
 ob (ixA 6 c (shr (Z2e x1))) fun g =>
 ob (flA 1 g) fun h =>
 ob (stEl 1 h (shr (Z2e x2)) B) fun i =>
 ob (ixA 6 f (shr (Z2e x1))) fun j =>
 ob (flA 2 j) fun k =>
 ob (stEl 1 k (shr (Z2e x3)) i) fun l =>
 Z4R l) := by kernel_rfl
theorem ZFZ : EE 58 [x0, x1, x2, x3, x4] B =
 (let m0 := B.length
 mk (asB (shr x4) fun a => br a (mk (ZpQ m0 x0 x1 (shr (shr x3)) (shr (shr x2)) (gcB m0 [x0, x1, (shr (shr x3)), (shr (shr x2))] B)))
 (ZpQ m0 x0 x1 x2 x3 (gcB m0 [x0, x1, x2, x3] B)))) := (E_eq PP XX HH _ _ _).trans (by kernel_rfl)
theorem ZG1 : EE 59 [x0, x1, x2] B =
 (let m0 := B.length
 mk (bx x1 B fun a b =>
 mk (ob (Z1G PP 40 [(0, (iv 3))]) fun c =>
 callS false EE 28 [(shr x0), c] b fun d e =>
 mk (ob (Z1H (shr x0)) fun f =>
 ob (xfld 2 f) fun g =>
 ob (ldN false 1 g e) fun h =>
 mk (ob (Z1H (shr x0)) fun i =>
 ob (xfld 2 i) fun j =>
 ob (ldN false 1 j e) fun k =>
 ob (xbin PP .add 3 k (iv 1)) fun l =>
 ob (Z1H (shr x0)) fun n =>
 ob (xfld 2 n) fun o =>
 stN 1 o l e fun p =>
 mk (ob (Z1G PP 40 [(0, (iv 10)), (1, (shr (shr h)))]) fun q =>
 callS false EE 28 [(shr x0), q] p fun r s =>
 mk (ob (ldN true 7 a s) fun t =>
 callS false EE 29 [(shr x0), t] s fun u v =>
 mk (ob (Z1G PP 40 [(0, (iv 11)), (1, (shr (shr h)))]) fun w =>
 callS false EE 28 [(shr x0), w] v fun x y =>
 mk (ob (Z1G PP 40 [(0, (iv 2)), (1, (shr (shr d)))]) fun z =>
 callS false EE 28 [(shr x0), z] y fun A C =>
 mk (ob (xbin PP .add 3 (shr (shr d)) (iv 1)) fun D =>
 ob (Z1H (shr x0)) fun F =>
 ob (xfld 0 F) fun G =>
 ob (ldN false 1 G C) fun I =>
 ob (xlen PP 23 I) fun J =>
 callS false EE 58 [(shr x0), (shr (shr d)), D, J, (shr x2)] C fun M N =>
 Z4R N)))))))))) := (E_eq PP XX HH _ _ _).trans (by kernel_rfl)
def ZDB := Z2G Tryd.f60
def Zua := l2 (l2 ZDB)
def Zu8 (m0 : Nat) : Kont := kret PP HH 60 Tryd.f60.results
def ZG3 := kseq HH 60 m0 Zua (exec PP HH 60 m0 EE LL Zua (Zu8 m0)) (Zu8 m0)
def ZpR := exec PP HH 60 m0 EE LL (l1 (l2 (l1 (l2 ZDB)))) (ZG3 m0) [] B
def Zu9 := exec PP HH 60 m0 EE LL Zua (Zu8 m0) [(0, x0), (1, x1)] B
theorem ZAx : ZpR m0 B =
 mk (Z1M (iv (-1)) B) := by kernel_rfl
theorem ZAy : Zu9 m0 x0 x1 B =
 mk (ob (xbin PP .add 3 (shr x0) (shr x1)) fun a =>
 callS false EE 75 [a] B fun b c =>
 Z1M (shr b) c) := by kernel_rfl
theorem ZG2 : EE 60 [x0, x1] B =
 (let m0 := B.length
 mk (mk (ob (xbin PP .lss 3 (shr x0) (iv 0)) fun a =>
 asB (shr a) fun b => br b (ZpR m0 (gcB m0 [] B))
 (ob (xbin PP .lss 3 (shr x1) (iv 0)) fun c =>
 asB (shr c) fun d => br d (ZpR m0 (gcB m0 [] B))
 (Zu9 m0 x0 x1 (gcB m0 [x0, x1] B)))))) := (E_eq PP XX HH _ _ _).trans (by kernel_rfl)
def ZxR := Z2G Tryd.f61
def Zuf := l2 (l2 ZxR)
def ZAD := l2 (l2 (l1 (l1 (l2 ZxR))))
def Zub (m0 : Nat) : Kont := kret PP HH 61 Tryd.f61.results
def ZG5 := kseq HH 61 m0 Zuf (exec PP HH 61 m0 EE LL Zuf (Zub m0)) (Zub m0)
def Zuc := kblk 0 (ZG5 m0)
def ZpS := exec PP HH 61 m0 EE LL (l1 (l2 (l1 (l1 (l2 ZxR))))) (Zuc m0) [] B
def Zud := exec PP HH 61 m0 EE LL ZAD (Zuc m0) [(0, x0), (1, x1)] B
def ZpT := exec PP HH 61 m0 EE LL (l1 (l2 ZAD)) (Zuc m0) [] B
def Zue := exec PP HH 61 m0 EE LL Zuf (Zub m0) [(0, x0), (1, x1)] B
theorem ZAz : ZpS m0 B =
 mk (Z1M (iv 0) B) := by kernel_rfl
theorem ZAA : Zud m0 x0 x1 B =
 mk (ob (xbin PP .lss 3 (shr x0) (iv 0)) fun a =>
 asB (shr a) fun b => br b (ZpT m0 (gcB m0 [] B))
 (ob (xbin PP .lss 3 (shr x1) (iv 0)) fun c =>
 asB (shr (shr c)) fun d => br d (ZpT m0 (gcB m0 [] B))
 (Zue m0 x0 x1 (gcB m0 [x0, x1] B)))) := by kernel_rfl
theorem ZAB : ZpT m0 B =
 mk (Z1M (iv (-1)) B) := by kernel_rfl
theorem ZAC : Zue m0 x0 x1 B =
 mk (ob (xbin PP .mul 3 (shr x0) (shr x1)) fun a =>
 callS false EE 75 [a] B fun b c =>
 Z1M (shr b) c) := by kernel_rfl
theorem ZG4 : EE 61 [x0, x1] B =
 (let m0 := B.length
 mk (mk (ob (xbin PP .eql 3 (shr x0) (iv 0)) fun a =>
 asB (shr a) fun b => br b (ZpS m0 (gcB m0 [] B))
 (ob (xbin PP .eql 3 (shr x1) (iv 0)) fun c =>
 asB (shr (shr c)) fun d => br d (ZpS m0 (gcB m0 [] B))
 (Zud m0 x0 x1 (gcB m0 [x0, x1] B)))))) := (E_eq PP XX HH _ _ _).trans (by kernel_rfl)
def ZDC := Z2G Tryd.f62
def Zml := l2 (l2 ZDC)
def Zui := l2 (l2 Zml)
def Zke (m0 : Nat) : Kont := kret PP HH 62 Tryd.f62.results
def ZG7 := kseq HH 62 m0 Zml (exec PP HH 62 m0 EE LL Zml (Zke m0)) (Zke m0)
def ZG8 := kseq HH 62 m0 Zui (exec PP HH 62 m0 EE LL Zui (Zke m0)) (Zke m0)
def ZpU := exec PP HH 62 m0 EE LL (l1 (l2 (l1 (l2 ZDC)))) (ZG7 m0) [] B
def Zug := exec PP HH 62 m0 EE LL Zml (Zke m0) [(0, x0), (1, x1)] B
def Zuh := exec PP HH 62 m0 EE LL (l1 (l2 (l1 (l2 Zml)))) (ZG8 m0) [(0, x0), (1, x1)] B
def ZpV := exec PP HH 62 m0 EE LL Zui (Zke m0) [(6, x6), (7, x7)] B
theorem ZAE : ZpU m0 B =
 mk (Z5e (iv 0) (iv 0) B) := by kernel_rfl
theorem ZAF : Zug m0 x0 x1 B =
 mk (ob (xsl 1 (shr x0) (some (shr x1)) none none) fun a =>
 callS false EE 76 [a] B fun b c =>
 ob (xext 0 (shr b)) fun d =>
 ob (xext 1 (shr b)) fun e =>
 mk (ob (xbin PP .eql 21 (shr (shr (shr d))) (kv .i32 65533)) fun f =>
 asB (shr f) fun g => br g (ob (xbin PP .eql 3 (shr (shr (shr e))) (iv 1)) fun h =>
 asB (shr h) fun i => br i (Zuh m0 x0 x1 (gcB m0 [x0, x1] c))
 (ZpV m0 (shr (shr d)) (shr (shr e)) (gcB m0 [(shr (shr d)), (shr (shr e))] c)))
 (ZpV m0 (shr (shr d)) (shr (shr e)) (gcB m0 [(shr (shr d)), (shr (shr e))] c)))) := by kernel_rfl
theorem ZAG : Zuh m0 x0 x1 B =
 mk (ob (xidx 1 (shr x0) (shr x1)) fun a =>
 ob (ldN false 1 a B) fun b =>
 ob (xcnv PP 5 3 b) fun c =>
 ob (xbin PP .add 3 (iv 1114112) c) fun d =>
 Z5e (shr d) (iv 1) B) := by kernel_rfl
theorem ZAH : ZpV m0 x6 x7 B =
 mk (ob (xcnv PP 21 3 (shr x6)) fun a =>
 Z5e (shr a) (shr (shr x7)) B) := by kernel_rfl
theorem ZG6 : EE 62 [x0, x1] B =
 (let m0 := B.length
 mk (mk (ob (xbin PP .lss 3 (shr x1) (iv 0)) fun a =>
 asB (shr a) fun b => br b (ZpU m0 (gcB m0 [] B))
 (ob (xlen PP 54 (shr x0)) fun c =>
 ob (xbin PP .geq 3 (shr x1) c) fun d =>
 asB (shr d) fun e => br e (ZpU m0 (gcB m0 [] B))
 (Zug m0 x0 x1 (gcB m0 [x0, x1] B)))))) := (E_eq PP XX HH _ _ _).trans (by kernel_rfl)
theorem ZG9 : EE 63 [x0] B =
 (let m0 := B.length
 mk (mk (ob (Z1H (shr x0)) fun a =>
 ob (xfld 0 a) fun b =>
 ob (ldN false 1 b B) fun c =>
 ob (Z1H (shr x0)) fun d =>
 ob (xfld 1 d) fun e =>
 ob (ldN false 1 e B) fun f =>
 callS false EE 62 [c, f] B fun g h =>
 ob (xext 0 (shr g)) fun i =>
 ob (xext 1 (shr g)) fun j =>
 mk (ob (Z1H (shr x0)) fun k =>
 ob (xfld 1 k) fun l =>
 ob (ldN false 1 l h) fun n =>
 ob (xbin PP .add 3 n (shr (shr (shr j)))) fun o =>
 ob (Z1H (shr x0)) fun p =>
 ob (xfld 1 p) fun q =>
 stN 1 q o h fun r =>
 mk (Z1M (shr (shr (shr (shr i)))) r))))) := (E_eq PP XX HH _ _ _).trans (by kernel_rfl)
def ZHu := Z2G Tryd.f64
def ZGb (m0 : Nat) : Kont := kret PP HH 64 Tryd.f64.results
def ZpW := exec PP HH 64 m0 EE LL (l2 (l2 (l2 ZHu))) (ZGb m0) [(4, x4), (5, x5)] B
theorem ZAI : ZpW m0 x4 x5 B =
 mk (ob (Z1G PP 31 [(0, (iv 1)), (5, (shr x5))]) fun a =>
 stN 7 x4 a B fun b =>
 Z7z x4 b) := by kernel_rfl
theorem ZGa : EE 64 [x0, x1] B =
 (let m0 := B.length
 mk (bz PP 31 B fun a b =>
 mk (callS false EE 77 [(shr x1)] b fun c d =>
 ob (xext 0 (shr c)) fun e =>
 ob (xext 1 (shr c)) fun f =>
 mk (asB (shr x0) fun g => br g (mk (callS false EE 17 [(shr (shr (shr e)))] d fun h i =>
 ob (xext 0 (shr h)) fun j =>
 ob (xext 1 (shr h)) fun k =>
 ZpW m0 a (shr (shr j)) (gcB m0 [a, (shr (shr j))] i)))
 (ZpW m0 a (shr (shr e)) (gcB m0 [a, (shr (shr e))] d)))))) := (E_eq PP XX HH _ _ _).trans (by kernel_rfl)
def ZE5 (r0 : AV) (B : List Row) : Option Res :=
 ob (ob (ldN true 2 r0 B) fun v => ob (some []) fun vs => some (v :: vs)) fun vs => some ((nrmA (match vs with | [v] => v | vs => Z91 (vs.map shr))), B)
theorem ZGc : EE 65 [x0] B =
 (let m0 := B.length
 mk (bz PP 47 B fun a b =>
 mk (ob (Z1G PP 47 [(0, (shr x0)), (1, (shr x0))]) fun c =>
 stN 2 a c b fun d =>
 ZE5 a d))) := (E_eq PP XX HH _ _ _).trans (by kernel_rfl)
def ZHv := Z2G Tryd.f66
def Zuk := l2 (l2 (l2 ZHv))
def Zul := l2 (l2 Zuk)
def ZpX (m0 : Nat) : Kont := kret PP HH 66 Tryd.f66.results
def ZGe := kseq HH 66 m0 Zul (exec PP HH 66 m0 EE LL Zul (ZpX m0)) (ZpX m0)
def ZGf := kblk 0 (ZGe m0)
def Zuj := exec PP HH 66 m0 EE LL Zuk (ZpX m0) [(0, x0), (1, x1), (4, x4), (5, x5)] B
def Zri := exec PP HH 66 m0 EE LL (l1 (l2 (l2 (l2 (l2 (l2 (l2 (l2 (l1 (l1 (l2 Zuk))))))))))) (ZGf m0) [(0, x0), (1, x1), (4, x4), (5, x5)] B
def Znw := exec PP HH 66 m0 EE LL Zul (ZpX m0) [(0, x0), (1, x1), (4, x4), (5, x5)] B
theorem ZAJ : Zuj m0 x0 x1 x4 x5 B =
 mk (callS false EE 63 [(shr x0)] B fun a b =>
 mk (callS true EE 78 [(shr x5)] b fun c d =>
 ob (xnil PP .neq 27 (.slice none 0 0) c) fun e =>
 asB (shr e) fun f => br f (mk (ob (xbin PP .lss 3 (shr x5) (iv 97)) fun g =>
 callS true EE 78 [(shr x5)] d fun h i =>
 callS false EE 64 [g, h] i fun j k =>
 stN 7 x4 j k fun l =>
 Z7z x4 l))
 (mk (ob (xbin PP .eql 3 (shr x5) (iv 98)) fun n =>
 asB (shr n) fun o => br o (mk (ob (Z1G PP 31 [(0, (iv 9)), (4, (iv 2))]) fun p =>
 stN 7 x4 p d fun q =>
 Z7z x4 q))
 (mk (ob (xbin PP .eql 3 (shr x5) (iv 66)) fun r =>
 asB (shr r) fun s => br s (mk (ob (Z1G PP 31 [(0, (iv 9)), (4, (iv 3))]) fun t =>
 stN 7 x4 t d fun u =>
 Z7z x4 u))
 (mk (ob (xbin PP .geq 3 (shr x5) (iv 49)) fun v =>
 asB (shr v) fun w => br w (ob (xbin PP .leq 3 (shr x5) (iv 57)) fun x =>
 asB (shr (shr x)) fun y => br y (Zri m0 x0 x1 x4 x5 (gcB m0 [x0, x1, x4, x5] d))
 (Znw m0 x0 x1 x4 x5 (gcB m0 [x0, x1, x4, x5] d)))
 (Znw m0 x0 x1 x4 x5 (gcB m0 [x0, x1, x4, x5] d)))))))))) := by kernel_rfl
theorem ZxS : Zri m0 x0 x1 x4 x5 B =
 mk (ob (Z1H (shr x0)) fun a =>
 ob (xfld 4 a) fun b =>
 ldOwn b B fun c d =>
 ob (xbin PP .sub 3 (shr x5) (iv 48)) fun e =>
 ob (Z1G PP 61 [(0, e), (1, (shr x1))]) fun f =>
 ob (xlit PP 55 1 [(0, f)]) fun g =>
 ob (xapp 2 c g) fun h =>
 ob (Z1H (shr x0)) fun i =>
 ob (xfld 4 i) fun j =>
 stN 1 j h d fun k =>
 mk (ob (xbin PP .sub 3 (shr x5) (iv 48)) fun l =>
 ob (Z1G PP 31 [(0, (iv 6)), (4, l)]) fun n =>
 stN 7 x4 n k fun o =>
 Z7z x4 o)) := by kernel_rfl
theorem ZxT : Znw m0 x0 x1 x4 x5 B =
 mk (callS false EE 79 [(shr x0), (shr x5), (shr x1)] B fun a b =>
 callS false EE 65 [a] b fun c d =>
 ob (xlit PP 27 1 [(0, c)]) fun e =>
 callS false EE 64 [(bv false), e] d fun f g =>
 stN 7 x4 f g fun h =>
 Z7z x4 h) := by kernel_rfl
theorem ZGd : EE 66 [x0, x1] B =
 (let m0 := B.length
 mk (bz PP 31 B fun a b =>
 mk (callS false EE 47 [(shr x0)] b fun c d =>
 mk (ob (xbin PP .lss 3 (shr (shr c)) (iv 0)) fun e =>
 asB e fun f => br f (mk (callS false EE 21 [(shr x0), (iv 21), (shr x1)] d fun g h =>
 mk (ob (Z1G PP 31 []) fun i =>
 stN 7 a i h fun j =>
 Z7z a j)))
 (Zuj m0 x0 x1 a (shr c) (gcB m0 [x0, x1, a, (shr c)] d)))))) := (E_eq PP XX HH _ _ _).trans (by kernel_rfl)
def ZDD := Z2G Tryd.f67
def Zuq := l2 (l2 (l2 (l2 (l2 (l2 ZDD)))))
def ZeV := l1 (l1 (l1 (l2 (l2 (l2 (l2 (l2 ZDD)))))))
def Zq0 := l2 (l2 (l1 (l1 (l2 ZeV))))
def Zq1 := l2 (l2 Zq0)
def Zup := l2 (l2 Zq1)
def Zq2 := l2 (l1 (l2 (l1 (l2 Zq1))))
def ZAO := l2 (l1 (l2 (l2 (l2 (l1 (l2 (l2 (l1 (l2 (l1 (l1 (l2 ZeV))))))))))))
def Zum (m0 : Nat) : Kont := kret PP HH 67 Tryd.f67.results
def ZGh := kseq HH 67 m0 Zuq (exec PP HH 67 m0 EE LL Zuq (Zum m0)) (Zum m0)
def Zun := kblk 0 (ZGh m0)
def ZpY := kloop HH 67 m0 ZeV (LL 67 m0 ZeV (Zun m0)) (Zun m0)
def ZGi := kseq HH 67 m0 (l2 (l2 ZeV)) (exec PP HH 67 m0 EE LL (l2 (l2 ZeV)) (ZpY m0)) (ZpY m0)
def Zit := kblk 1 (ZGi m0)
def ZGj := kseq HH 67 m0 Zq0 (exec PP HH 67 m0 EE LL Zq0 (Zit m0)) (Zit m0)
def ZAK := kblk 2 (ZGj m0)
def ZpZ := kseq HH 67 m0 Zup (exec PP HH 67 m0 EE LL Zup (Zit m0)) (Zit m0)
def ZGk := kseq HH 67 m0 Zq2 (exec PP HH 67 m0 EE LL Zq2 (ZpZ m0)) (ZpZ m0)
def Zmm := lp (LL 67 m0 ZeV (Zun m0) [(0, x0), (1, x1), (4, x4), (5, x5), (6, x6), (7, x7), (8, x8)] B)
def Zuo := exec PP HH 67 m0 EE LL (l2 ZeV) (ZpY m0) [(0, x0), (1, x1), (4, x4), (5, x5), (6, x6), (7, x7), (8, x8)] B
def Zrm := exec PP HH 67 m0 EE LL Zuq (Zum m0) [(4, x4)] B
def Zc7 := exec PP HH 67 m0 EE LL (l2 (l2 ZeV)) (ZpY m0) [(0, x0), (1, x1), (4, x4), (5, x5), (6, x6), (7, x7), (8, x8)] B
def Zrj := exec PP HH 67 m0 EE LL ZAO (ZAK m0) [(0, x0), (4, x4), (5, x5), (6, x6)] B
def Zny := exec PP HH 67 m0 EE LL Zq0 (Zit m0) [(0, x0), (1, x1), (4, x4), (5, x5), (6, x6), (7, x7), (8, x8), (9, x9)] B
def Znx := exec PP HH 67 m0 EE LL (l2 (l2 ZAO)) (ZAK m0) [(4, x4), (6, x6)] B
def Zrk := exec PP HH 67 m0 EE LL Zq1 (Zit m0) [(0, x0), (1, x1), (4, x4), (5, x5), (6, x6), (7, x7), (8, x8), (9, x9), (11, x11)] B
def Zie := exec PP HH 67 m0 EE LL (l1 (l2 (l2 (l1 (l1 (l2 (l1 (l2 Zq1)))))))) (ZGk m0) [(0, x0), (1, x1), (4, x4), (5, x5), (6, x6), (7, x7), (8, x8), (9, x9)] B
def Zrl := exec PP HH 67 m0 EE LL Zq2 (ZpZ m0) [(0, x0), (1, x1), (4, x4), (5, x5), (6, x6), (7, x7), (8, x8), (9, x9), (11, x11)] B
def Zif := exec PP HH 67 m0 EE LL Zup (Zit m0) [(0, x0), (1, x1), (4, x4), (5, x5), (6, x6), (7, x7), (8, x8), (11, x11), (15, x15)] B
def Znz := exec PP HH 67 m0 EE LL (l1 (l2 (l2 Zq2))) (ZpZ m0) [(0, x0), (1, x1), (4, x4), (5, x5), (6, x6), (7, x7), (8, x8), (9, x9), (11, x11), (15, x15)] B
theorem ZAL : Zmm m0 x0 x1 x4 x5 x6 x7 x8 B =
 mk (ob (Z1H (shr x0)) fun a =>
 ob (xfld 5 a) fun b =>
 ob (xfld 0 b) fun c =>
 ob (ldN false 1 c B) fun d =>
 ob (xbin PP .eql 24 d (iv 0)) fun e =>
 asB e fun f => br f (Zuo m0 x0 x1 x4 x5 x6 x7 x8 (gcB m0 [x0, x1, x4, x5, x6, x7, x8] B))
 (Zrm m0 x4 (gcB m0 [x4] B))) := lq_ (by kernel_rfl)
theorem ZAN : Zuo m0 x0 x1 x4 x5 x6 x7 x8 B =
 mk (ob (Z1H (shr x0)) fun a =>
 ob (xfld 1 a) fun b =>
 ob (ldN false 1 b B) fun c =>
 mk (callS false EE 47 [(shr x0)] B fun d e =>
 mk (mk (ob (xbin PP .eql 3 (shr (shr d)) (iv (-1))) fun f =>
 asB (shr f) fun g => br g (mk (callS false EE 21 [(shr x0), (iv 22), (shr x1)] e fun h i =>
 Zc7 m0 x0 x1 x4 x5 x6 x7 x8 (gcB m0 [x0, x1, x4, x5, x6, x7, x8] i)))
 (mk (ob (xbin PP .eql 3 (shr (shr d)) (iv 93)) fun j =>
 asB (shr j) fun k => br k (mk (ob (xbin PP .eql 3 (shr x8) (iv 0)) fun l =>
 asB l fun n => br n (mk (callS false EE 21 [(shr x0), (iv 22), (shr x1)] e fun o p =>
 Zc7 m0 x0 x1 x4 x5 x6 x7 x8 (gcB m0 [x0, x1, x4, x5, x6, x7, x8] p)))
 (Zrj m0 x0 x4 x5 x6 (gcB m0 [x0, x4, x5, x6] e))))
 (mk (ob (xbin PP .eql 3 (shr (shr d)) (iv 91)) fun q =>
 asB (shr q) fun r => br r (asB (shr q) fun s => br s (mk (callS false EE 21 [(shr x0), (iv 22), (shr (shr c))] e fun t u =>
 Zc7 m0 x0 x1 x4 x5 x6 x7 x8 (gcB m0 [x0, x1, x4, x5, x6, x7, x8] u)))
 (Zny m0 x0 x1 x4 x5 x6 x7 x8 (shr c) (gcB m0 [x0, x1, x4, x5, x6, x7, x8, (shr c)] e)))
 (mk (ob (xbin PP .eql 3 (shr (shr d)) (iv 45)) fun v =>
 asB (shr v) fun w => br w (mk (callS false EE 21 [(shr x0), (iv 22), (shr (shr c))] e fun x y =>
 Zc7 m0 x0 x1 x4 x5 x6 x7 x8 (gcB m0 [x0, x1, x4, x5, x6, x7, x8] y)))
 (Zny m0 x0 x1 x4 x5 x6 x7 x8 (shr c) (gcB m0 [x0, x1, x4, x5, x6, x7, x8, (shr c)] e)))))))))))) := by kernel_rfl
theorem Zy2 : Zrm m0 x4 B =
 mk (ob (Z1G PP 31 []) fun a =>
 stN 7 x4 a B fun b =>
 Z7z x4 b) := by kernel_rfl
theorem ZAM : Zc7 m0 x0 x1 x4 x5 x6 x7 x8 B =
 mk (ob (xbin PP .add 3 (shr x8) (iv 1)) fun a =>
 Zmm m0 x0 x1 x4 x5 x6 x7 (shr a) (gcB m0 [x0, x1, x4, x5, x6, x7, (shr a)] B)) := by kernel_rfl
theorem ZxU : Zrj m0 x0 x4 x5 x6 B =
 mk (callS false EE 63 [(shr x0)] B fun a b =>
 mk (asB (shr x5) fun c => br c (mk (ob (ldN false 1 x6 b) fun d =>
 callS false EE 17 [d] b fun e f =>
 ob (xext 0 (shr e)) fun g =>
 ob (xext 1 (shr e)) fun h =>
 stN 1 x6 (shr g) f fun i =>
 Znx m0 x4 x6 (gcB m0 [x4, x6] i)))
 (Znx m0 x4 x6 (gcB m0 [x4, x6] b)))) := by kernel_rfl
theorem ZxW : Zny m0 x0 x1 x4 x5 x6 x7 x8 x9 B =
 mk (callS true EE 81 [(shr x0)] B fun a b =>
 ob (xext 0 (shr a)) fun c =>
 ob (xext 1 (shr a)) fun d =>
 ob (xext 2 (shr a)) fun e =>
 mk (ob (xnil PP .neq 27 (.slice none 0 0) (shr (shr (shr d)))) fun f =>
 asB f fun g => br g (mk (callS false EE 64 [(shr (shr (shr e))), (shr (shr (shr d)))] b fun h i =>
 bz PP 31 i fun j k =>
 stN 7 j h k fun l =>
 mk (ob (xfld 5 j) fun n =>
 ob (ldN false 1 n l) fun o =>
 callV HH EE (shr x7) [o] l fun p q =>
 mk (callS false EE 47 [(shr x0)] q fun r s =>
 ob (xbin PP .eql 3 r (iv 45)) fun t =>
 asB t fun u => br u (mk (ob (Z1H (shr x0)) fun v =>
 ob (xfld 1 v) fun w =>
 ob (ldN false 1 w s) fun x =>
 callS false EE 21 [(shr x0), (iv 22), x] s fun y z =>
 Zc7 m0 x0 x1 x4 x5 x6 x7 x8 (gcB m0 [x0, x1, x4, x5, x6, x7, x8] z)))
 (Zc7 m0 x0 x1 x4 x5 x6 x7 x8 (gcB m0 [x0, x1, x4, x5, x6, x7, x8] s))))))
 (Zrk m0 x0 x1 x4 x5 x6 x7 x8 x9 (shr (shr c)) (gcB m0 [x0, x1, x4, x5, x6, x7, x8, x9, (shr (shr c))] b)))) := by kernel_rfl
theorem ZxV : Znx m0 x4 x6 B =
 mk (ob (ldN false 1 x6 B) fun a =>
 ob (Z1G PP 31 [(0, (iv 1)), (5, a)]) fun b =>
 stN 7 x4 b B fun c =>
 Z7z x4 c) := by kernel_rfl
theorem ZxX : Zrk m0 x0 x1 x4 x5 x6 x7 x8 x9 x11 B =
 mk (mk (callS false EE 19 [(shr x0), (.p (.v (.string (ByteArray.mk #[45]))))] B fun a b =>
 asB a fun c => br c (mk (callS false EE 47 [(shr x0)] b fun d e =>
 mk (ob (xbin PP .eql 3 (shr (shr d)) (iv 93)) fun f =>
 asB (shr f) fun g => br g (Zie m0 x0 x1 x4 x5 x6 x7 x8 x9 (gcB m0 [x0, x1, x4, x5, x6, x7, x8, x9] e))
 (ob (xbin PP .eql 3 (shr (shr d)) (iv 91)) fun h =>
 asB (shr (shr h)) fun i => br i (Zie m0 x0 x1 x4 x5 x6 x7 x8 x9 (gcB m0 [x0, x1, x4, x5, x6, x7, x8, x9] e))
 (ob (xbin PP .eql 3 (shr (shr d)) (iv 45)) fun j =>
 asB (shr (shr j)) fun k => br k (Zie m0 x0 x1 x4 x5 x6 x7 x8 x9 (gcB m0 [x0, x1, x4, x5, x6, x7, x8, x9] e))
 (ob (xbin PP .lss 3 (shr (shr d)) (iv 0)) fun l =>
 asB (shr l) fun n => br n (Zie m0 x0 x1 x4 x5 x6 x7 x8 x9 (gcB m0 [x0, x1, x4, x5, x6, x7, x8, x9] e))
 (Zrl m0 x0 x1 x4 x5 x6 x7 x8 x9 x11 (gcB m0 [x0, x1, x4, x5, x6, x7, x8, x9, x11] e))))))))
 (Zif m0 x0 x1 x4 x5 x6 x7 x8 x11 (shr (shr x11)) (gcB m0 [x0, x1, x4, x5, x6, x7, x8, x11, (shr (shr x11))] b)))) := by kernel_rfl
theorem ZxY : Zie m0 x0 x1 x4 x5 x6 x7 x8 x9 B =
 mk (callS false EE 21 [(shr x0), (iv 22), (shr x9)] B fun a b =>
 Zc7 m0 x0 x1 x4 x5 x6 x7 x8 (gcB m0 [x0, x1, x4, x5, x6, x7, x8] b)) := by kernel_rfl
theorem ZxZ : Zrl m0 x0 x1 x4 x5 x6 x7 x8 x9 x11 B =
 mk (callS true EE 81 [(shr x0)] B fun a b =>
 ob (xext 0 (shr a)) fun c =>
 ob (xext 1 (shr a)) fun d =>
 ob (xext 2 (shr a)) fun e =>
 mk (ob (Z1H (shr x0)) fun f =>
 ob (xfld 5 f) fun g =>
 ob (xfld 0 g) fun h =>
 ob (ldN false 1 h b) fun i =>
 ob (xbin PP .eql 24 i (iv 0)) fun j =>
 asB (shr j) fun k => br k (ob (xnil PP .neq 27 (.slice none 0 0) (shr (shr (shr d)))) fun l =>
 asB (shr l) fun n => br n (Znz m0 x0 x1 x4 x5 x6 x7 x8 x9 x11 (shr (shr c)) (gcB m0 [x0, x1, x4, x5, x6, x7, x8, x9, x11, (shr (shr c))] b))
 (ob (xbin PP .lss 3 (shr (shr (shr c))) (shr x11)) fun o =>
 asB (shr (shr o)) fun p => br p (Znz m0 x0 x1 x4 x5 x6 x7 x8 x9 x11 (shr (shr c)) (gcB m0 [x0, x1, x4, x5, x6, x7, x8, x9, x11, (shr (shr c))] b))
 (Zif m0 x0 x1 x4 x5 x6 x7 x8 x11 (shr (shr c)) (gcB m0 [x0, x1, x4, x5, x6, x7, x8, x11, (shr (shr c))] b))))
 (Zif m0 x0 x1 x4 x5 x6 x7 x8 x11 (shr (shr c)) (gcB m0 [x0, x1, x4, x5, x6, x7, x8, x11, (shr (shr c))] b)))) := by kernel_rfl
theorem Zy1 : Zif m0 x0 x1 x4 x5 x6 x7 x8 x11 x15 B =
 mk (ob (Z1H (shr x0)) fun a =>
 ob (xfld 5 a) fun b =>
 ob (xfld 0 b) fun c =>
 ob (ldN false 1 c B) fun d =>
 ob (xbin PP .eql 24 d (iv 0)) fun e =>
 asB e fun f => br f (mk (ob (Z1G PP 47 [(0, (shr x11)), (1, (shr x15))]) fun g =>
 ob (xlit PP 28 1 [(0, g)]) fun h =>
 callV HH EE (shr x7) [h] B fun i j =>
 Zc7 m0 x0 x1 x4 x5 x6 x7 x8 (gcB m0 [x0, x1, x4, x5, x6, x7, x8] j)))
 (Zc7 m0 x0 x1 x4 x5 x6 x7 x8 (gcB m0 [x0, x1, x4, x5, x6, x7, x8] B))) := by kernel_rfl
theorem Zy0 : Znz m0 x0 x1 x4 x5 x6 x7 x8 x9 x11 x15 B =
 mk (callS false EE 21 [(shr x0), (iv 22), (shr x9)] B fun a b =>
 Zif m0 x0 x1 x4 x5 x6 x7 x8 x11 x15 (gcB m0 [x0, x1, x4, x5, x6, x7, x8, x11, x15] b)) := by kernel_rfl
theorem ZGg : EE 67 [x0, x1] B =
 (let m0 := B.length
 mk (bz PP 31 B fun a b =>
 mk (callS false EE 19 [(shr x0), (.p (.v (.string (ByteArray.mk #[94]))))] b fun c d =>
 mk (bz PP 28 d fun e f =>
 mk (mk (Zmm m0 x0 x1 a (shr c) e (shr (.clo 80 ([].map nrmA) ([e].map nrmA))) (iv 0) (gcB m0 [x0, x1, a, (shr c), e, (shr (.clo 80 ([].map nrmA) ([e].map nrmA))), (iv 0)] f))))))) := (E_eq PP XX HH _ _ _).trans (by kernel_rfl)
def ZHw := Z2G Tryd.f68
def ZAQ := l2 (l2 ZHw)
def Zus := l2 (l2 ZAQ)
def Zq3 := l2 (l2 Zus)
def Zkf (m0 : Nat) : Kont := kret PP HH 68 Tryd.f68.results
def ZGm := kseq HH 68 m0 Zq3 (exec PP HH 68 m0 EE LL Zq3 (Zkf m0)) (Zkf m0)
def Zur := exec PP HH 68 m0 EE LL ZAQ (Zkf m0) [(0, x0), (1, x1), (4, x4)] B
def Zeo := exec PP HH 68 m0 EE LL Zus (Zkf m0) [(0, x0), (1, x1), (4, x4)] B
def Zrn := exec PP HH 68 m0 EE LL (l1 (l2 (l1 (l2 Zus)))) (ZGm m0) [(0, x0), (1, x1), (4, x4), (7, x7)] B
def Zkg := exec PP HH 68 m0 EE LL Zq3 (Zkf m0) [(0, x0), (4, x4), (7, x7)] B
def Zro := exec PP HH 68 m0 EE LL (l2 (l2 Zq3)) (Zkf m0) [(4, x4), (7, x7)] B
theorem ZAP : Zur m0 x0 x1 x4 B =
 mk (ob (Z1H (shr x0)) fun a =>
 ob (xfld 3 a) fun b =>
 ob (ldN false 1 b B) fun c =>
 ob (xbin PP .add 3 c (iv 1)) fun d =>
 ob (Z1H (shr x0)) fun e =>
 ob (xfld 3 e) fun f =>
 stN 1 f d B fun g =>
 mk (callS false EE 83 [] g fun h i =>
 callS false EE 82 [h, (.clo 19 ([(shr x0)].map nrmA) ([].map nrmA))] i fun j k =>
 mk (ob (xbin PP .geq 3 (shr (shr j)) (iv 0)) fun l =>
 asB (shr l) fun n => br n (mk (ob (Z1G PP 31 [(0, (iv 7)), (3, (shr (shr j)))]) fun o =>
 stN 7 x4 o k fun q =>
 Zeo m0 x0 x1 x4 (gcB m0 [x0, x1, x4] q)))
 (mk (callS false EE 19 [(shr x0), (.p (.v (.string (ByteArray.mk #[63, 62]))))] k fun r s =>
 asB (shr r) fun t => br t (mk (ob (Z1G PP 31 [(0, (iv 8))]) fun u =>
 stN 7 x4 u s fun w =>
 Zeo m0 x0 x1 x4 (gcB m0 [x0, x1, x4] w)))
 (mk (callS false EE 19 [(shr x0), (.p (.v (.string (ByteArray.mk #[63, 58]))))] s fun x y =>
 asB (shr x) fun z => br z (Zeo m0 x0 x1 x4 (gcB m0 [x0, x1, x4] y))
 (mk (callS false EE 47 [(shr x0)] y fun A C =>
 ob (xbin PP .eql 3 A (iv 63)) fun D =>
 asB (shr D) fun F => br F (mk (callS false EE 21 [(shr x0), (iv 20), (shr x1)] C fun G I =>
 Zeo m0 x0 x1 x4 (gcB m0 [x0, x1, x4] I)))
 (mk (ob (Z1H (shr x0)) fun J =>
 ob (xfld 2 J) fun M =>
 ob (ldN false 1 M C) fun N =>
 ob (xbin PP .eql 3 N (iv 9)) fun O =>
 asB (shr O) fun Q => br Q (mk (callS false EE 21 [(shr x0), (iv 24), (shr x1)] C fun R S =>
 Zeo m0 x0 x1 x4 (gcB m0 [x0, x1, x4] S)))
 (mk (ob (Z1H (shr x0)) fun T =>
 ob (xfld 2 T) fun U =>
 ob (ldN false 1 U C) fun V =>
 ob (xbin PP .add 3 V (iv 1)) fun W =>
 ob (Z1H (shr x0)) fun Y =>
 ob (xfld 2 Y) fun Z =>
 stN 1 Z W C fun a0 =>
 mk (ob (Z1H (shr x0)) fun a1 =>
 ob (xfld 2 a1) fun a2 =>
 ob (ldN false 1 a2 a0) fun a3 =>
 ob (Z1G PP 31 [(0, (iv 5)), (4, a3)]) fun a4 =>
 stN 7 x4 a4 a0 fun a5 =>
 Zeo m0 x0 x1 x4 (gcB m0 [x0, x1, x4] a5))))))))))))))) := by kernel_rfl
theorem Zy3 : Zeo m0 x0 x1 x4 B =
 mk (callS false EE 20 [(shr x0)] B fun a b =>
 bz PP 31 b fun c d =>
 stN 7 c a d fun e =>
 mk (ob (Z1H (shr x0)) fun f =>
 ob (xfld 5 f) fun g =>
 ob (xfld 0 g) fun h =>
 ob (ldN false 1 h e) fun i =>
 ob (xbin PP .eql 24 i (iv 0)) fun j =>
 asB (shr j) fun k => br k (callS false EE 19 [(shr x0), (.p (.v (.string (ByteArray.mk #[41]))))] e fun l n =>
 ob (xun PP .not l) fun o =>
 asB (shr o) fun q => br q (Zrn m0 x0 x1 x4 c (gcB m0 [x0, x1, x4, c] n))
 (Zkg m0 x0 x4 c (gcB m0 [x0, x4, c] n)))
 (Zkg m0 x0 x4 c (gcB m0 [x0, x4, c] e)))) := by kernel_rfl
theorem Zy4 : Zrn m0 x0 x1 x4 x7 B =
 mk (callS false EE 21 [(shr x0), (iv 20), (shr x1)] B fun a b =>
 Zkg m0 x0 x4 x7 (gcB m0 [x0, x4, x7] b)) := by kernel_rfl
theorem Zy5 : Zkg m0 x0 x4 x7 B =
 mk (ob (Z1H (shr x0)) fun a =>
 ob (xfld 3 a) fun b =>
 ob (ldN false 1 b B) fun c =>
 ob (xbin PP .sub 3 c (iv 1)) fun d =>
 ob (Z1H (shr x0)) fun e =>
 ob (xfld 3 e) fun f =>
 stN 1 f d B fun g =>
 mk (ob (xfld 0 x4) fun h =>
 ob (ldN false 1 h g) fun i =>
 ob (xbin PP .eql 3 i (iv 0)) fun j =>
 asB j fun k => br k (mk (ob (ldN true 7 x7 g) fun l =>
 stN 7 x4 l g fun n =>
 Z6u x4 (bv true) n))
 (Zro m0 x4 x7 (gcB m0 [x4, x7] g)))) := by kernel_rfl
theorem Zy6 : Zro m0 x4 x7 B =
 mk (ob (ldN true 7 x7 B) fun a =>
 ob (xlit PP 29 1 [(0, a)]) fun b =>
 ob (xfld 6 x4) fun c =>
 stN 1 c b B fun d =>
 mk (ob (ldN true 7 x4 d) fun e =>
 ob (xfld 0 x4) fun f =>
 ob (ldN false 1 f d) fun g =>
 ob (xbin PP .neq 3 g (iv 7)) fun h =>
 stN 7 x4 e d fun i =>
 Z6u x4 (shr h) i)) := by kernel_rfl
theorem ZGl : EE 68 [x0, x1] B =
 (let m0 := B.length
 mk (bz PP 31 B fun a b =>
 mk (ob (Z1H (shr x0)) fun c =>
 ob (xfld 3 c) fun d =>
 ob (ldN false 1 d b) fun e =>
 ob (xbin PP .eql 3 e (iv 32)) fun f =>
 asB f fun g => br g (mk (callS false EE 21 [(shr x0), (iv 25), (shr x1)] b fun h i =>
 mk (ob (Z1G PP 31 []) fun j =>
 stN 7 a j i fun k =>
 Z6u a (bv true) k)))
 (Zur m0 x0 x1 a (gcB m0 [x0, x1, a] b))))) := (E_eq PP XX HH _ _ _).trans (by kernel_rfl)
def ZDE := Z2G Tryd.f69
def Ziu := l2 (l2 (l2 (l2 ZDE)))
def Zmn := l1 (l2 (l2 (l1 (l2 (l1 (l2 (l2 (l2 ZDE))))))))
def Zkh (m0 : Nat) : Kont := kret PP HH 69 Tryd.f69.results
def Zq4 := kseq HH 69 m0 Ziu (exec PP HH 69 m0 EE LL Ziu (Zkh m0)) (Zkh m0)
def ZGo := kseq HH 69 m0 (l2 Zmn) (exec PP HH 69 m0 EE LL (l2 Zmn) (Zq4 m0)) (Zq4 m0)
def ZGp := kseq HH 69 m0 (l2 Ziu) (exec PP HH 69 m0 EE LL (l2 Ziu) (Zkh m0)) (Zkh m0)
def Zut := exec PP HH 69 m0 EE LL Zmn (Zq4 m0) [(0, x0), (1, x1), (4, x4)] B
def Zki := exec PP HH 69 m0 EE LL Ziu (Zkh m0) [(0, x0), (1, x1), (4, x4), (5, x5)] B
def Zuu := exec PP HH 69 m0 EE LL (l1 (l2 (l1 Zmn))) (ZGo m0) [(4, x4)] B
def Zq5 := exec PP HH 69 m0 EE LL (l2 Zmn) (Zq4 m0) [(0, x0), (1, x1), (4, x4)] B
def Zig := exec PP HH 69 m0 EE LL (l1 (l2 (l1 Ziu))) (ZGp m0) [(0, x0), (1, x1), (4, x4), (5, x5)] B
def ZnA := exec PP HH 69 m0 EE LL (l2 Ziu) (Zkh m0) [(4, x4), (5, x5)] B
theorem ZAR : Zut m0 x0 x1 x4 B =
 mk (callS false EE 19 [(shr x0), (.p (.v (.string (ByteArray.mk #[125]))))] B fun a b =>
 asB (shr a) fun c => br c (ob (xbin PP .leq 3 (shr x4) (iv 64)) fun d =>
 asB (shr d) fun e => br e (Zuu m0 x4 (gcB m0 [x4] b))
 (Zq5 m0 x0 x1 x4 (gcB m0 [x0, x1, x4] b)))
 (Zq5 m0 x0 x1 x4 (gcB m0 [x0, x1, x4] b))) := by kernel_rfl
theorem ZAU : Zki m0 x0 x1 x4 x5 B =
 mk (ob (xbin PP .lss 3 (shr x4) (iv 0)) fun a =>
 asB (shr a) fun b => br b (Zig m0 x0 x1 x4 x5 (gcB m0 [x0, x1, x4, x5] B))
 (ob (xbin PP .lss 3 (shr x5) (shr x4)) fun c =>
 asB (shr (shr c)) fun d => br d (Zig m0 x0 x1 x4 x5 (gcB m0 [x0, x1, x4, x5] B))
 (ob (xbin PP .gtr 3 (shr x5) (iv 64)) fun e =>
 asB (shr (shr e)) fun f => br f (Zig m0 x0 x1 x4 x5 (gcB m0 [x0, x1, x4, x5] B))
 (callS false EE 19 [(shr x0), (.p (.v (.string (ByteArray.mk #[125]))))] B fun g h =>
 ob (xun PP .not g) fun i =>
 asB (shr i) fun j => br j (Zig m0 x0 x1 x4 x5 (gcB m0 [x0, x1, x4, x5] h))
 (ZnA m0 x4 x5 (gcB m0 [x4, x5] h)))))) := by kernel_rfl
theorem ZAS : Zuu m0 x4 B =
 mk (Z5e (shr (shr x4)) (iv (-1)) B) := by kernel_rfl
theorem ZAT : Zq5 m0 x0 x1 x4 B =
 mk (Zki m0 x0 x1 x4 (iv (-2)) (gcB m0 [x0, x1, x4, (iv (-2))] B)) := by kernel_rfl
theorem Zy7 : Zig m0 x0 x1 x4 x5 B =
 mk (callS false EE 21 [(shr x0), (iv 23), (shr x1)] B fun a b =>
 ZnA m0 x4 x5 (gcB m0 [x4, x5] b)) := by kernel_rfl
theorem Zy8 : ZnA m0 x4 x5 B =
 mk (Z5e (shr (shr x4)) (shr (shr x5)) B) := by kernel_rfl
theorem ZGn : EE 69 [x0, x1] B =
 (let m0 := B.length
 mk (mk (callS false EE 84 [(shr x0)] B fun a b =>
 mk (mk (callS false EE 19 [(shr x0), (.p (.v (.string (ByteArray.mk #[44]))))] b fun c d =>
 asB c fun e => br e (mk (callS false EE 84 [(shr x0)] d fun f g =>
 mk (ob (xbin PP .lss 3 (shr (shr f)) (iv 0)) fun h =>
 asB (shr h) fun i => br i (ob (xbin PP .geq 3 (shr (shr a)) (iv 0)) fun j =>
 asB (shr j) fun k => br k (Zut m0 x0 x1 (shr a) (gcB m0 [x0, x1, (shr a)] g))
 (Zki m0 x0 x1 (shr a) (shr f) (gcB m0 [x0, x1, (shr a), (shr f)] g)))
 (Zki m0 x0 x1 (shr a) (shr f) (gcB m0 [x0, x1, (shr a), (shr f)] g)))))
 (Zki m0 x0 x1 (shr a) (shr (shr (shr a))) (gcB m0 [x0, x1, (shr a), (shr (shr (shr a)))] d))))))) := (E_eq PP XX HH _ _ _).trans (by kernel_rfl)
def ZDF := Z2G Tryd.f73
def ZuA := l2 (l2 ZDF)
def Zq6 := l1 (l1 (l2 (l1 (l2 ZDF))))
def ZB0 := l2 (l2 Zq6)
def Zuv (m0 : Nat) : Kont := kret PP HH 73 Tryd.f73.results
def ZGr := kseq HH 73 m0 ZuA (exec PP HH 73 m0 EE LL ZuA (Zuv m0)) (Zuv m0)
def Zuw := kblk 0 (ZGr m0)
def ZAV := kloop HH 73 m0 Zq6 (LL 73 m0 Zq6 (Zuw m0)) (Zuw m0)
def Zmo := lp (LL 73 m0 Zq6 (Zuw m0) [(0, x0), (1, x1), (7, x7), (8, x8)] B)
def Zux := exec PP HH 73 m0 EE LL ZB0 (ZAV m0) [(0, x0), (1, x1), (7, x7), (8, x8)] B
def Zuz := exec PP HH 73 m0 EE LL ZuA (Zuv m0) [] B
def Zuy := exec PP HH 73 m0 EE LL (l2 ZB0) (ZAV m0) [(0, x0), (1, x1), (7, x7), (8, x8)] B
theorem ZAW : Zmo m0 x0 x1 x7 x8 B =
 mk (ob (xbin PP .lss 3 x8 x7) fun a =>
 asB a fun b => br b (Zux m0 x0 x1 x7 x8 (gcB m0 [x0, x1, x7, x8] B))
 (Zuz m0 (gcB m0 [] B))) := lq_ (by kernel_rfl)
theorem ZAX : Zux m0 x0 x1 x7 x8 B =
 mk (mk (ob (xidx 7 (shr x0) (shr (shr (shr x8)))) fun a =>
 ob (ldN true 7 a B) fun b =>
 callV HH EE (shr x1) [b] B fun c d =>
 asB c fun e => br e (mk (Z1M (shr (shr (shr (shr x8)))) d))
 (Zuy m0 x0 x1 x7 x8 (gcB m0 [x0, x1, x7, x8] d)))) := by kernel_rfl
theorem ZAZ : Zuz m0 B =
 mk (Z1M (iv (-1)) B) := by kernel_rfl
theorem ZAY : Zuy m0 x0 x1 x7 x8 B =
 mk (ob (xbin PP .add 3 x8 (iv 1)) fun a =>
 Zmo m0 x0 x1 x7 (shr a) (gcB m0 [x0, x1, x7, (shr a)] B)) := by kernel_rfl
theorem ZGq : EE 73 [x0, x1] B =
 (let m0 := B.length
 mk (mk (ob (xlen PP 29 (shr x0)) fun a =>
 Zmo m0 x0 x1 a (iv 0) (gcB m0 [x0, x1, a, (iv 0)] B)))) := (E_eq PP XX HH _ _ _).trans (by kernel_rfl)
def ZHx := Z2G Tryd.f75
def ZGt (m0 : Nat) : Kont := kret PP HH 75 Tryd.f75.results
def ZuB := exec PP HH 75 m0 EE LL (l2 (l2 ZHx)) (ZGt m0) [(0, x0)] B
theorem ZB1 : ZuB m0 x0 B =
 mk (Z1M (shr (shr x0)) B) := by kernel_rfl
theorem ZGs : EE 75 [x0] B =
 (let m0 := B.length
 mk (mk (ob (xbin PP .gtr 3 (shr x0) (iv 1048576)) fun a =>
 asB a fun b => br b (mk (Z1M (iv (-1)) B))
 (ZuB m0 x0 (gcB m0 [x0] B))))) := (E_eq PP XX HH _ _ _).trans (by kernel_rfl)
def ZHy := Z2G Tryd.f77
def ZGv (m0 : Nat) : Kont := kret PP HH 77 Tryd.f77.results
def ZuC := exec PP HH 77 m0 EE LL (l2 (l2 ZHy)) (ZGv m0) [(0, x0)] B
theorem ZB2 : ZuC m0 x0 B =
 mk (callS false EE 25 [(shr x0)] B fun a b =>
 Z5e (shr a) (iv 0) b) := by kernel_rfl
theorem ZGu : EE 77 [x0] B =
 (let m0 := B.length
 mk (mk (callS false EE 96 [(shr x0), (.clo 97 [] [])] B fun a b =>
 asB a fun c => br c (mk (Z5e nilA (iv 13) b))
 (ZuC m0 x0 (gcB m0 [x0] b))))) := (E_eq PP XX HH _ _ _).trans (by kernel_rfl)
def ZHz := Z2G Tryd.f78
def Z7R (r0 : AV) (B : List Row) : Option Res :=
 ob (ob (some r0) fun v => ob (some []) fun vs => some (v :: vs)) fun vs => some ((match vs with | [v] => v | vs => Z91 (vs.map shr)), B)
def ZGx (m0 : Nat) : Kont := kret PP HH 78 Tryd.f78.results
def ZbB := exec PP HH 78 m0 EE LL (l2 (l2 ZHz)) (ZGx m0) [] B
theorem Zy9 : ZbB m0 B =
 mk (Z7R nilA B) := by kernel_rfl
theorem ZGw : EE 78 [x0] B =
 (let m0 := B.length
 mk (mk (mk (ob (xbin PP .eql 3 (shr x0) (iv 100)) fun a =>
 asB (shr a) fun b => br b (asB (shr a) fun c => br c (mk (ob (Z1G PP 47 [(0, (iv 48)), (1, (iv 57))]) fun d =>
 ob (xlit PP 27 1 [(0, d)]) fun e =>
 Z7R e B))
 (mk (ob (xbin PP .eql 3 (shr x0) (iv 119)) fun f =>
 asB (shr f) fun g => br g (asB (shr f) fun h => br h (mk (ob (Z1G PP 47 [(0, (iv 48)), (1, (iv 57))]) fun i =>
 ob (Z1G PP 47 [(0, (iv 65)), (1, (iv 90))]) fun j =>
 callS false EE 65 [(iv 95)] B fun k l =>
 ob (Z1G PP 47 [(0, (iv 97)), (1, (iv 122))]) fun n =>
 ob (xlit PP 27 4 [(0, i), (1, j), (2, k), (3, n)]) fun o =>
 Z7R o l))
 (mk (ob (xbin PP .eql 3 (shr x0) (iv 115)) fun p =>
 asB (shr p) fun q => br q (asB (shr p) fun r => br r (mk (ob (Z1G PP 47 [(0, (iv 9)), (1, (iv 13))]) fun s =>
 callS false EE 65 [(iv 32)] B fun t u =>
 ob (xlit PP 27 2 [(0, s), (1, t)]) fun v =>
 Z7R v u))
 (ZbB m0 (gcB m0 [] B)))
 (mk (ob (xbin PP .eql 3 (shr x0) (iv 83)) fun w =>
 asB (shr w) fun x => br x (mk (ob (Z1G PP 47 [(0, (iv 9)), (1, (iv 13))]) fun y =>
 callS false EE 65 [(iv 32)] B fun z A =>
 ob (xlit PP 27 2 [(0, y), (1, z)]) fun C =>
 Z7R C A))
 (ZbB m0 (gcB m0 [] B)))))))
 (mk (ob (xbin PP .eql 3 (shr x0) (iv 87)) fun D =>
 asB (shr D) fun F => br F (mk (ob (Z1G PP 47 [(0, (iv 48)), (1, (iv 57))]) fun G =>
 ob (Z1G PP 47 [(0, (iv 65)), (1, (iv 90))]) fun I =>
 callS false EE 65 [(iv 95)] B fun J M =>
 ob (Z1G PP 47 [(0, (iv 97)), (1, (iv 122))]) fun N =>
 ob (xlit PP 27 4 [(0, G), (1, I), (2, J), (3, N)]) fun O =>
 Z7R O M))
 (mk (ob (xbin PP .eql 3 (shr x0) (iv 115)) fun Q =>
 asB (shr Q) fun R => br R (asB (shr Q) fun S => br S (mk (ob (Z1G PP 47 [(0, (iv 9)), (1, (iv 13))]) fun T =>
 callS false EE 65 [(iv 32)] B fun U V =>
 ob (xlit PP 27 2 [(0, T), (1, U)]) fun W =>
 Z7R W V))
 (ZbB m0 (gcB m0 [] B)))
 (mk (ob (xbin PP .eql 3 (shr x0) (iv 83)) fun Y =>
 asB (shr Y) fun Z => br Z (mk (ob (Z1G PP 47 [(0, (iv 9)), (1, (iv 13))]) fun a0 =>
 callS false EE 65 [(iv 32)] B fun a1 a2 =>
 ob (xlit PP 27 2 [(0, a0), (1, a1)]) fun a3 =>
 Z7R a3 a2))
 (ZbB m0 (gcB m0 [] B)))))))))))
 (mk (ob (xbin PP .eql 3 (shr x0) (iv 68)) fun a4 =>
 asB (shr a4) fun a5 => br a5 (mk (ob (Z1G PP 47 [(0, (iv 48)), (1, (iv 57))]) fun a6 =>
 ob (xlit PP 27 1 [(0, a6)]) fun a7 =>
 Z7R a7 B))
 (mk (ob (xbin PP .eql 3 (shr x0) (iv 119)) fun a8 =>
 asB (shr a8) fun a9 => br a9 (asB (shr a8) fun a10 => br a10 (mk (ob (Z1G PP 47 [(0, (iv 48)), (1, (iv 57))]) fun a11 =>
 ob (Z1G PP 47 [(0, (iv 65)), (1, (iv 90))]) fun a12 =>
 callS false EE 65 [(iv 95)] B fun a13 a14 =>
 ob (Z1G PP 47 [(0, (iv 97)), (1, (iv 122))]) fun a15 =>
 ob (xlit PP 27 4 [(0, a11), (1, a12), (2, a13), (3, a15)]) fun a16 =>
 Z7R a16 a14))
 (mk (ob (xbin PP .eql 3 (shr x0) (iv 115)) fun a17 =>
 asB (shr a17) fun a18 => br a18 (asB (shr a17) fun a19 => br a19 (mk (ob (Z1G PP 47 [(0, (iv 9)), (1, (iv 13))]) fun a20 =>
 callS false EE 65 [(iv 32)] B fun a21 a22 =>
 ob (xlit PP 27 2 [(0, a20), (1, a21)]) fun a23 =>
 Z7R a23 a22))
 (ZbB m0 (gcB m0 [] B)))
 (mk (ob (xbin PP .eql 3 (shr x0) (iv 83)) fun a24 =>
 asB (shr a24) fun a25 => br a25 (mk (ob (Z1G PP 47 [(0, (iv 9)), (1, (iv 13))]) fun a26 =>
 callS false EE 65 [(iv 32)] B fun a27 a28 =>
 ob (xlit PP 27 2 [(0, a26), (1, a27)]) fun a29 =>
 Z7R a29 a28))
 (ZbB m0 (gcB m0 [] B)))))))
 (mk (ob (xbin PP .eql 3 (shr x0) (iv 87)) fun a30 =>
 asB (shr a30) fun a31 => br a31 (mk (ob (Z1G PP 47 [(0, (iv 48)), (1, (iv 57))]) fun a32 =>
 ob (Z1G PP 47 [(0, (iv 65)), (1, (iv 90))]) fun a33 =>
 callS false EE 65 [(iv 95)] B fun a34 a35 =>
 ob (Z1G PP 47 [(0, (iv 97)), (1, (iv 122))]) fun a36 =>
 ob (xlit PP 27 4 [(0, a32), (1, a33), (2, a34), (3, a36)]) fun a37 =>
 Z7R a37 a35))
 (mk (ob (xbin PP .eql 3 (shr x0) (iv 115)) fun a38 =>
 asB (shr a38) fun a39 => br a39 (asB (shr a38) fun a40 => br a40 (mk (ob (Z1G PP 47 [(0, (iv 9)), (1, (iv 13))]) fun a41 =>
 callS false EE 65 [(iv 32)] B fun a42 a43 =>
 ob (xlit PP 27 2 [(0, a41), (1, a42)]) fun a44 =>
 Z7R a44 a43))
 (ZbB m0 (gcB m0 [] B)))
 (mk (ob (xbin PP .eql 3 (shr x0) (iv 83)) fun a45 =>
 asB (shr a45) fun a46 => br a46 (mk (ob (Z1G PP 47 [(0, (iv 9)), (1, (iv 13))]) fun a47 =>
 callS false EE 65 [(iv 32)] B fun a48 a49 =>
 ob (xlit PP 27 2 [(0, a47), (1, a48)]) fun a50 =>
 Z7R a50 a49))
 (ZbB m0 (gcB m0 [] B)))))))))))))))) := (E_eq PP XX HH _ _ _).trans (by kernel_rfl)
def ZDG := Z2G Tryd.f79
def ZuE := l2 (l2 ZDG)
def ZuD (m0 : Nat) : Kont := kret PP HH 79 Tryd.f79.results
def ZGz := kseq HH 79 m0 ZuE (exec PP HH 79 m0 EE LL ZuE (ZuD m0)) (ZuD m0)
def ZGA := kblk 0 (ZGz m0)
def ZfC := exec PP HH 79 m0 EE LL ZuE (ZuD m0) [(0, x0), (2, x2)] B
def Zrp := exec PP HH 79 m0 EE LL (l1 (l2 (l2 (l2 (l2 (l2 (l2 (l2 (l2 (l2 (l1 (l1 (l2 ZDG))))))))))))) (ZGA m0) [(1, x1)] B
theorem Zyb : ZfC m0 x0 x2 B =
 mk (callS false EE 21 [(shr x0), (iv 21), (shr x2)] B fun a b =>
 mk (Z1M (iv 0) b)) := by kernel_rfl
theorem Zya : Zrp m0 x1 B =
 mk (Z1M (shr (shr x1)) B) := by kernel_rfl
theorem ZGy : EE 79 [x0, x1, x2] B =
 (let m0 := B.length
 mk (mk (ob (xbin PP .eql 3 (shr x1) (iv 110)) fun a =>
 asB (shr a) fun b => br b (mk (Z1M (iv 10) B))
 (mk (ob (xbin PP .eql 3 (shr x1) (iv 116)) fun c =>
 asB (shr c) fun d => br d (mk (Z1M (iv 9) B))
 (mk (ob (xbin PP .eql 3 (shr x1) (iv 114)) fun e =>
 asB (shr e) fun f => br f (mk (Z1M (iv 13) B))
 (mk (ob (xbin PP .eql 3 (shr x1) (iv 120)) fun g =>
 asB (shr g) fun h => br h (mk (callS false EE 47 [(shr x0)] B fun i j =>
 callS false EE 98 [i] j fun k l =>
 mk (ob (xbin PP .geq 3 (shr (shr k)) (iv 0)) fun n =>
 asB n fun o => br o (mk (callS false EE 63 [(shr x0)] l fun p q =>
 mk (callS false EE 47 [(shr x0)] q fun r s =>
 callS false EE 98 [r] s fun t u =>
 mk (ob (xbin PP .geq 3 (shr (shr t)) (iv 0)) fun v =>
 asB v fun w => br w (mk (callS false EE 63 [(shr x0)] u fun x y =>
 mk (ob (xbin PP .mul 3 (iv 16) (shr (shr k))) fun z =>
 ob (xbin PP .add 3 z (shr (shr t))) fun A =>
 Z1M (shr A) y)))
 (ZfC m0 x0 x2 (gcB m0 [x0, x2] u))))))
 (ZfC m0 x0 x2 (gcB m0 [x0, x2] l)))))
 (mk (ob (xbin PP .gtr 3 (shr x1) (iv 32)) fun C =>
 asB (shr C) fun D => br D (ob (xbin PP .lss 3 (shr x1) (iv 127)) fun F =>
 asB (shr (shr F)) fun G => br G (ob (Z1G PP 47 [(0, (iv 48)), (1, (iv 57))]) fun I =>
 ob (Z1G PP 47 [(0, (iv 65)), (1, (iv 90))]) fun J =>
 ob (Z1G PP 47 [(0, (iv 97)), (1, (iv 122))]) fun M =>
 ob (xlit PP 28 3 [(0, I), (1, J), (2, M)]) fun N =>
 callS false EE 24 [N, (shr x1)] B fun O Q =>
 ob (xun PP .not O) fun R =>
 asB (shr (shr R)) fun S => br S (Zrp m0 x1 (gcB m0 [x1] Q))
 (ZfC m0 x0 x2 (gcB m0 [x0, x2] Q)))
 (ZfC m0 x0 x2 (gcB m0 [x0, x2] B)))
 (ZfC m0 x0 x2 (gcB m0 [x0, x2] B))))))))))))) := (E_eq PP XX HH _ _ _).trans (by kernel_rfl)
theorem ZGB : EE 80 [x0, x1] B =
 (let m0 := B.length
 mk (ob (ldN false 1 x1 B) fun a =>
 callS false EE 39 [a, (shr x0)] B fun b c =>
 ob (xext 0 (shr b)) fun d =>
 ob (xext 1 (shr b)) fun e =>
 stN 1 x1 (shr d) c fun f =>
 Z4R f)) := (E_eq PP XX HH _ _ _).trans (by kernel_rfl)
def ZHA := Z2G Tryd.f81
def ZuI := l2 (l2 (l2 ZHA))
def ZnB (r0 r1 r2 : AV) (B : List Row) : Option Res :=
 ob (ob (some r0) fun v => ob (ob (some r1) fun v => ob (ob (some r2) fun v => ob (some []) fun vs => some (v :: vs)) fun vs => some (v :: vs)) fun vs => some (v :: vs)) fun vs => some ((match vs with | [v] => v | vs => Z91 (vs.map shr)), B)
def ZuF (m0 : Nat) : Kont := kret PP HH 81 Tryd.f81.results
def ZuG := exec PP HH 81 m0 EE LL ZuI (ZuF m0) [(0, x0), (5, x5)] B
def ZuH := exec PP HH 81 m0 EE LL (l2 ZuI) (ZuF m0) [(0, x0), (2, x2), (5, x5)] B
def Zrq := exec PP HH 81 m0 EE LL (l2 (l2 (l2 ZuI))) (ZuF m0) [(0, x0), (2, x2), (5, x5)] B
theorem ZB3 : ZuG m0 x0 x5 B =
 mk (callS false EE 47 [(shr x0)] B fun a b =>
 mk (ob (xbin PP .lss 3 (shr (shr a)) (iv 0)) fun c =>
 asB c fun d => br d (mk (callS false EE 21 [(shr x0), (iv 21), (shr x5)] b fun e f =>
 mk (ZnB (iv 0) nilA (bv false) f)))
 (ZuH m0 x0 (shr a) x5 (gcB m0 [x0, (shr a), x5] b)))) := by kernel_rfl
theorem ZB4 : ZuH m0 x0 x2 x5 B =
 mk (callS false EE 63 [(shr x0)] B fun a b =>
 mk (callS true EE 78 [(shr x2)] b fun c d =>
 mk (ob (xnil PP .neq 27 (.slice none 0 0) (shr c)) fun e =>
 asB e fun f => br f (mk (ob (xbin PP .lss 3 (shr x2) (iv 97)) fun g =>
 ZnB (iv 0) c (shr g) d))
 (Zrq m0 x0 x2 x5 (gcB m0 [x0, x2, x5] d))))) := by kernel_rfl
theorem Zyc : Zrq m0 x0 x2 x5 B =
 mk (callS false EE 79 [(shr x0), (shr x2), (shr x5)] B fun a b =>
 ZnB (shr a) nilA (bv false) b) := by kernel_rfl
theorem ZGC : EE 81 [x0] B =
 (let m0 := B.length
 mk (mk (ob (Z1H (shr x0)) fun a =>
 ob (xfld 1 a) fun b =>
 ob (ldN false 1 b B) fun c =>
 mk (callS false EE 63 [(shr x0)] B fun d e =>
 mk (ob (xbin PP .neq 3 (shr (shr d)) (iv 92)) fun f =>
 asB f fun g => br g (mk (ZnB (shr (shr (shr d))) nilA (bv false) e))
 (ZuG m0 x0 (shr c) (gcB m0 [x0, (shr c)] e))))))) := (E_eq PP XX HH _ _ _).trans (by kernel_rfl)
def ZDH := Z2G Tryd.f82
def ZuO := l2 (l2 ZDH)
def Zq7 := l1 (l1 (l2 (l1 (l2 ZDH))))
def ZBa := l2 (l2 Zq7)
def ZuJ (m0 : Nat) : Kont := kret PP HH 82 Tryd.f82.results
def ZGE := kseq HH 82 m0 ZuO (exec PP HH 82 m0 EE LL ZuO (ZuJ m0)) (ZuJ m0)
def ZuK := kblk 0 (ZGE m0)
def ZB5 := kloop HH 82 m0 Zq7 (LL 82 m0 Zq7 (ZuK m0)) (ZuK m0)
def Zmp := lp (LL 82 m0 Zq7 (ZuK m0) [(0, x0), (1, x1), (7, x7), (8, x8)] B)
def ZuL := exec PP HH 82 m0 EE LL ZBa (ZB5 m0) [(0, x0), (1, x1), (7, x7), (8, x8)] B
def ZuN := exec PP HH 82 m0 EE LL ZuO (ZuJ m0) [] B
def ZuM := exec PP HH 82 m0 EE LL (l2 ZBa) (ZB5 m0) [(0, x0), (1, x1), (7, x7), (8, x8)] B
theorem ZB6 : Zmp m0 x0 x1 x7 x8 B =
 mk (ob (xbin PP .lss 3 x8 x7) fun a =>
 asB a fun b => br b (ZuL m0 x0 x1 x7 x8 (gcB m0 [x0, x1, x7, x8] B))
 (ZuN m0 (gcB m0 [] B))) := lq_ (by kernel_rfl)
theorem ZB7 : ZuL m0 x0 x1 x7 x8 B =
 mk (mk (ob (xidx 1 (shr x0) (shr (shr (shr x8)))) fun a =>
 ob (ldN false 1 a B) fun b =>
 callV HH EE (shr x1) [b] B fun c d =>
 asB c fun e => br e (mk (Z1M (shr (shr (shr (shr x8)))) d))
 (ZuM m0 x0 x1 x7 x8 (gcB m0 [x0, x1, x7, x8] d)))) := by kernel_rfl
theorem ZB9 : ZuN m0 B =
 mk (Z1M (iv (-1)) B) := by kernel_rfl
theorem ZB8 : ZuM m0 x0 x1 x7 x8 B =
 mk (ob (xbin PP .add 3 x8 (iv 1)) fun a =>
 Zmp m0 x0 x1 x7 (shr a) (gcB m0 [x0, x1, x7, (shr a)] B)) := by kernel_rfl
theorem ZGD : EE 82 [x0, x1] B =
 (let m0 := B.length
 mk (mk (ob (xlen PP 121 (shr x0)) fun a =>
 Zmp m0 x0 x1 a (iv 0) (gcB m0 [x0, x1, a, (iv 0)] B)))) := (E_eq PP XX HH _ _ _).trans (by kernel_rfl)
theorem ZGF : EE 83 [] B =
 (let m0 := B.length
 mk (mk (ob (xlit PP 121 4 [(0, (.p (.v (.string (ByteArray.mk #[63, 61]))))), (1, (.p (.v (.string (ByteArray.mk #[63, 33]))))), (2, (.p (.v (.string (ByteArray.mk #[63, 60, 61]))))), (3, (.p (.v (.string (ByteArray.mk #[63, 60, 33])))))]) fun a =>
 Z1M (shr a) B))) := (E_eq PP XX HH _ _ _).trans (by kernel_rfl)
def ZDI := Z2G Tryd.f84
def ZuS := l2 (l2 (l2 ZDI))
def Zq8 := l1 (l1 (l2 (l1 (l2 (l2 ZDI)))))
def ZuP (m0 : Nat) : Kont := kret PP HH 84 Tryd.f84.results
def ZGH := kseq HH 84 m0 ZuS (exec PP HH 84 m0 EE LL ZuS (ZuP m0)) (ZuP m0)
def ZuQ := kblk 0 (ZGH m0)
def ZGI := kloop HH 84 m0 Zq8 (LL 84 m0 Zq8 (ZuQ m0)) (ZuQ m0)
def Zmq := lp (LL 84 m0 Zq8 (ZuQ m0) [(0, x0), (3, x3), (4, x4)] B)
def ZuR := exec PP HH 84 m0 EE LL (l2 Zq8) (ZGI m0) [(0, x0), (3, x3), (4, x4)] B
def Zmr := exec PP HH 84 m0 EE LL ZuS (ZuP m0) [(3, x3)] B
theorem ZBb : Zmq m0 x0 x3 x4 B =
 mk (ob (xbin PP .lss 3 (shr x4) (iv 2)) fun a =>
 asB (shr a) fun b => br b (callS false EE 47 [(shr x0)] B fun c d =>
 ob (xbin PP .geq 3 c (iv 48)) fun e =>
 asB (shr (shr e)) fun f => br f (callS false EE 47 [(shr x0)] d fun g h =>
 ob (xbin PP .leq 3 g (iv 57)) fun i =>
 asB (shr i) fun j => br j (ZuR m0 x0 x3 x4 (gcB m0 [x0, x3, x4] h))
 (Zmr m0 x3 (gcB m0 [x3] h)))
 (Zmr m0 x3 (gcB m0 [x3] d)))
 (Zmr m0 x3 (gcB m0 [x3] B))) := lq_ (by kernel_rfl)
theorem ZBc : ZuR m0 x0 x3 x4 B =
 mk (ob (Z6W PP true [(shr x3), (iv 0)]) fun a =>
 ob (xbin PP .mul 3 (iv 10) a) fun b =>
 callS false EE 63 [(shr x0)] B fun c d =>
 ob (xbin PP .add 3 b c) fun e =>
 ob (xbin PP .sub 3 e (iv 48)) fun f =>
 mk (ob (xbin PP .add 3 (shr x4) (iv 1)) fun g =>
 Zmq m0 x0 (shr f) (shr g) (gcB m0 [x0, (shr f), (shr g)] d))) := by kernel_rfl
theorem ZBd : Zmr m0 x3 B =
 mk (Z1M (shr (shr x3)) B) := by kernel_rfl
theorem ZGG : EE 84 [x0] B =
 (let m0 := B.length
 mk (mk (mk (Zmq m0 x0 (iv (-1)) (iv 0) (gcB m0 [x0, (iv (-1)), (iv 0)] B))))) := (E_eq PP XX HH _ _ _).trans (by kernel_rfl)
theorem ZGK : EE 96 [x0, x1] B =
 (let m0 := B.length
 mk (mk (callS false EE 104 [(shr x0), (shr x1)] B fun a b =>
 ob (xbin PP .geq 3 a (iv 0)) fun c =>
 Z1M (shr c) b))) := (E_eq PP XX HH _ _ _).trans (by kernel_rfl)
theorem ZGL : EE 97 [x0] B =
 (let m0 := B.length
 mk (bx x0 B fun a b =>
 mk (ob (ldN true 2 a b) fun c =>
 callS false EE 22 [c] b fun d e =>
 ob (xun PP .not d) fun f =>
 Z1M (shr f) e))) := (E_eq PP XX HH _ _ _).trans (by kernel_rfl)
def Zyg := Z2G Tryd.f98
def ZuX := l2 (l2 Zyg)
def ZBi := l2 (l2 (l1 (l1 (l2 Zyg))))
def ZuT (m0 : Nat) : Kont := kret PP HH 98 Tryd.f98.results
def ZGN := kseq HH 98 m0 ZuX (exec PP HH 98 m0 EE LL ZuX (ZuT m0)) (ZuT m0)
def ZuU := kblk 0 (ZGN m0)
def ZuV := exec PP HH 98 m0 EE LL (l1 (l2 (l1 (l1 (l2 Zyg))))) (ZuU m0) [(0, x0)] B
def Zq9 := exec PP HH 98 m0 EE LL ZBi (ZuU m0) [(0, x0)] B
def ZuW := exec PP HH 98 m0 EE LL (l1 (l2 ZBi)) (ZuU m0) [(0, x0)] B
def Zqa := exec PP HH 98 m0 EE LL ZuX (ZuT m0) [] B
theorem ZBe : ZuV m0 x0 B =
 mk (ob (xbin PP .sub 3 (shr x0) (iv 48)) fun a =>
 Z1M (shr a) B) := by kernel_rfl
theorem ZBf : Zq9 m0 x0 B =
 mk (ob (xbin PP .geq 3 (shr x0) (iv 97)) fun a =>
 asB (shr a) fun b => br b (ob (xbin PP .leq 3 (shr x0) (iv 102)) fun c =>
 asB (shr (shr c)) fun d => br d (ZuW m0 x0 (gcB m0 [x0] B))
 (Zqa m0 (gcB m0 [] B)))
 (Zqa m0 (gcB m0 [] B))) := by kernel_rfl
theorem ZBg : ZuW m0 x0 B =
 mk (ob (xbin PP .sub 3 (shr x0) (iv 97)) fun a =>
 ob (xbin PP .add 3 a (iv 10)) fun b =>
 Z1M (shr b) B) := by kernel_rfl
theorem ZBh : Zqa m0 B =
 mk (Z1M (iv (-1)) B) := by kernel_rfl
theorem ZGM : EE 98 [x0] B =
 (let m0 := B.length
 mk (mk (ob (xbin PP .geq 3 (shr x0) (iv 48)) fun a =>
 asB (shr a) fun b => br b (ob (xbin PP .leq 3 (shr x0) (iv 57)) fun c =>
 asB (shr (shr c)) fun d => br d (ZuV m0 x0 (gcB m0 [x0] B))
 (Zq9 m0 x0 (gcB m0 [x0] B)))
 (Zq9 m0 x0 (gcB m0 [x0] B))))) := (E_eq PP XX HH _ _ _).trans (by kernel_rfl)
def Zzd := Z2G Tryd.f104
def Zr3 := l2 (l2 Zzd)
def Zno := l1 (l1 (l2 (l1 (l2 Zzd))))
def Zww := l2 (l2 Zno)
def ZqY (m0 : Nat) : Kont := kret PP HH 104 Tryd.f104.results
def ZE4 := kseq HH 104 m0 Zr3 (exec PP HH 104 m0 EE LL Zr3 (ZqY m0)) (ZqY m0)
def ZqZ := kblk 0 (ZE4 m0)
def Zwv := kloop HH 104 m0 Zno (LL 104 m0 Zno (ZqZ m0)) (ZqZ m0)
def Zk2 := lp (LL 104 m0 Zno (ZqZ m0) [(0, x0), (1, x1), (7, x7), (8, x8)] B)
def Zr0 := exec PP HH 104 m0 EE LL Zww (Zwv m0) [(0, x0), (1, x1), (7, x7), (8, x8)] B
def Zr2 := exec PP HH 104 m0 EE LL Zr3 (ZqY m0) [] B
def Zr1 := exec PP HH 104 m0 EE LL (l2 Zww) (Zwv m0) [(0, x0), (1, x1), (7, x7), (8, x8)] B
theorem Zxc : Zk2 m0 x0 x1 x7 x8 B =
 mk (ob (xbin PP .lss 3 x8 x7) fun a =>
 asB a fun b => br b (Zr0 m0 x0 x1 x7 x8 (gcB m0 [x0, x1, x7, x8] B))
 (Zr2 m0 (gcB m0 [] B))) := lq_ (by kernel_rfl)
theorem Zxd : Zr0 m0 x0 x1 x7 x8 B =
 mk (mk (ob (xidx 2 (shr x0) (shr (shr (shr x8)))) fun a =>
 ob (ldN true 2 a B) fun b =>
 callV HH EE (shr x1) [b] B fun c d =>
 asB c fun e => br e (mk (Z1M (shr (shr (shr (shr x8)))) d))
 (Zr1 m0 x0 x1 x7 x8 (gcB m0 [x0, x1, x7, x8] d)))) := by kernel_rfl
theorem Zxf : Zr2 m0 B =
 mk (Z1M (iv (-1)) B) := by kernel_rfl
theorem Zxe : Zr1 m0 x0 x1 x7 x8 B =
 mk (ob (xbin PP .add 3 x8 (iv 1)) fun a =>
 Zk2 m0 x0 x1 x7 (shr a) (gcB m0 [x0, x1, x7, (shr a)] B)) := by kernel_rfl
theorem ZE3 : EE 104 [x0, x1] B =
 (let m0 := B.length
 mk (mk (ob (xlen PP 27 (shr x0)) fun a =>
 Zk2 m0 x0 x1 a (iv 0) (gcB m0 [x0, x1, a, (iv 0)] B)))) := (E_eq PP XX HH _ _ _).trans (by kernel_rfl)
end Go.Proofs.YtocikhhkicahoaaDoor.N2
end
