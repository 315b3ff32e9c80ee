/- The functions' equations, by the evaluator. No condition. -/
import Derived.Test.YtocikhhkicahoaaDoorEvA
import Derived.Test.YtocikhhkicahoaaDoorProg
import Derived.KernelRfl
import Derived.Test.YtocikhhkicahoaaDoorEvD

set_option linter.unusedSimpArgs false
set_option linter.unusedVariables false
set_option linter.defProp false
section
namespace Go.Proofs.YtocikhhkicahoaaDoor.N2
open Go Go.Abs
def ZHH : FuncId → Nat → Option (List Nat) := fun f r => (([(5, [(4, []), (7, [0, 3, 29, 30, 31]), (11, [0, 3, 5, 29, 30, 31]), (12, [0, 3, 29, 30, 31]), (8, [0, 3, 29, 30, 31]), (13, [0, 3]), (5, [0]), (3, [0])]),
 (8, [(4, []), (5, [1, 4])]),
 (9, [(4, [5])]),
 (10, [(7, [2, 3, 4, 5]), (9, [2, 3, 4, 5, 50, 51, 52]), (13, [2, 3, 4, 5, 50, 51, 52]), (10, [2, 3, 4, 5, 50, 51, 52]), (16, [2, 3, 4, 5]), (14, [2, 3, 4, 5]), (8, [2, 3, 4, 5]), (3, [0, 2, 3])]),
 (11, [(3, [1, 3, 8, 9, 10]), (4, [1, 3, 8, 9, 10]), (24, [1, 3]), (26, [3]), (7, [1, 3])]),
 (12, [(3, [3, 6, 7, 8]), (6, []), (7, [5, 6, 7, 8]), (8, [3, 6, 7, 8]), (4, [3, 6, 7, 8]), (9, [])]),
 (13, [(3, [3, 6, 7, 8]), (7, [3, 6, 7, 8]), (4, [3, 6, 7, 8]), (8, [3])]),
 (14, [(5, [0, 4, 5]), (8, [0, 4, 5]), (6, [0, 4, 5]), (7, [0, 4, 5]), (9, [4]), (3, [0])]),
 (15, [(4, [1, 12, 13, 14]), (8, [1, 12, 13, 14]), (5, [1, 12, 13, 14]), (9, []), (3, [0, 1])]),
 (17, [(3, [0])]),
 (18, [(4, [1])]),
 (19, [(2, []), (3, [0, 1])]),
 (20, [(2, [0, 2, 3]), (3, [0, 2, 3]), (4, [2, 3])]),
 (21, [(2, [0])]),
 (26, [(4, [3, 4, 7, 8, 9]), (8, [3, 6, 7, 8, 9]), (9, [3, 4, 7, 8, 9]), (5, [3, 4, 7, 8, 9]), (12, [3]), (10, [3, 4])]),
 (27, [(5, [])]),
 (29, [(6, [2, 4]), (10, [2, 36, 37, 38]), (11, [2, 36, 37, 38]), (28, [2, 7]), (33, [2, 3, 8])]),
 (30, [(2, [0, 2, 3]), (7, [0, 2, 3]), (3, [0, 2, 3]), (9, [2, 3])]),
 (31, [(6, [0, 1, 4])]),
 (38, [(4, []), (2, [1]), (5, [1])]),
 (39, [(2, []), (3, [0, 1])]),
 (40, [(3, [0, 1, 4, 5, 16, 17, 18]), (4, [0, 1, 4, 5, 16, 17, 18]), (12, [0, 51, 52, 53]), (13, [0, 51, 52, 53]), (10, [0, 1, 4, 5])]),
 (43, [(3, [0, 3, 4, 13, 14]), (7, [0, 3, 4, 13, 14]), (4, [0, 3, 4, 13, 14]), (12, [0, 3, 4, 6, 49, 50]), (13, [0, 3, 4, 6, 49, 50]), (17, [0, 4, 65, 66, 67]), (18, [0, 4, 65, 66, 67]), (16, [0, 4, 6]), (10, [0, 3, 4]), (8, [0, 3, 4])]),
 (44, [(8, [2, 3, 23, 24, 25]), (9, [2, 3, 23, 24, 25]), (16, [2, 3, 45, 46, 47]), (21, [2, 45, 46, 47]), (22, [2, 3, 11, 45, 46, 47]), (23, [2, 3, 45, 46, 47]), (17, [2, 3, 45, 46, 47]), (30, [2, 3])]),
 (47, [(3, [0])]),
 (48, [(26, [2])]),
 (49, [(17, [6, 8]), (13, [0, 6, 8]), (11, [0, 2, 6, 7, 8])]),
 (50, [(2, [0, 1, 7, 8]), (6, [0, 1, 7, 8]), (3, [0, 1, 7, 8]), (7, [])]),
 (58, [(2, [0, 1, 2, 3])]),
 (60, [(2, []), (3, [0, 1])]),
 (61, [(4, []), (2, []), (3, [0, 1]), (5, [0, 1])]),
 (62, [(2, []), (5, [0, 1]), (6, [6, 7]), (3, [0, 1])]),
 (64, [(4, [4, 5])]),
 (66, [(13, [0, 1, 4, 5]), (15, [0, 1, 4, 5]), (5, [0, 1, 4, 5])]),
 (67, [(5, [0, 1, 4, 5, 6, 7, 8]), (18, [4, 6]), (15, [0, 4, 5, 6]), (32, [0, 1, 4, 5, 6, 7, 8, 9]), (35, [0, 1, 4, 5, 6, 7, 8, 9, 11, 15]), (33, [0, 1, 4, 5, 6, 7, 8, 9, 11]), (36, [0, 1, 4, 5, 6, 7, 8, 11, 15]), (28, [0, 1, 4, 5, 6, 7, 8, 9, 11]), (22, [0, 1, 4, 5, 6, 7, 8, 9]), (6, [0, 1, 4, 5, 6, 7, 8]), (7, [0, 1, 4, 5, 6, 7, 8]), (38, [4])]),
 (68, [(19, [0, 1, 4, 7]), (23, [4, 7]), (20, [0, 4, 7]), (17, [0, 1, 4]), (4, [0, 1, 4])]),
 (69, [(7, [4]), (8, [0, 1, 4]), (6, [0, 1, 4]), (10, [0, 1, 4, 5]), (11, [4, 5]), (9, [0, 1, 4, 5])]),
 (73, [(2, [0, 1, 7, 8]), (6, [0, 1, 7, 8]), (3, [0, 1, 7, 8]), (7, [])]),
 (75, [(3, [0])]),
 (77, [(3, [0])]),
 (78, [(11, [])]),
 (79, [(16, [1]), (17, [0, 2])]),
 (81, [(13, [0, 2, 5]), (9, [0, 2, 5]), (5, [0, 5])]),
 (82, [(2, [0, 1, 7, 8]), (6, [0, 1, 7, 8]), (3, [0, 1, 7, 8]), (7, [])]),
 (84, [(3, [0, 3, 4]), (5, [0, 3, 4]), (6, [3])]),
 (98, [(4, [0]), (2, [0]), (3, [0]), (5, [])]),
 (104, [(2, [0, 1, 7, 8]), (6, [0, 1, 7, 8]), (3, [0, 1, 7, 8]), (7, [])])] : List (Nat × List (Nat × List Nat))).lookup f).bind (·.lookup r)
def ownT : FuncId → List Nat := fun f =>
 if f = 14 then [4, 9, 26] else
 if f = 20 then [3, 9] else
 if f = 26 then [3, 17, 31] else
 if f = 28 then [9, 12] else
 if f = 30 then [3, 23] else
 if f = 40 then [4, 28] else
 if f = 43 then [6, 52] else
 if f = 66 then [44] else
 if f = 78 then [2] else
 if f = 81 then [3, 6, 29] else
 []
def rawT : FuncId → Bool := fun f => if f = 23 then true else if f = 78 then true else if f = 81 then true else false
def ZHN : FuncId → List Nat := fun f => []
def alT : FuncId → List Nat := fun f => if f = 40 then [60] else if f = 41 then [18] else if f = 58 then [16, 21] else []
def fzT : FuncId → List Nat := fun f => if f = 18 then [31] else []
def mzT : FuncId → List (Nat × List (Nat × Nat)) := fun f => if f = 18 then [(14, [(0, 6)])] else []
def HH : Hints := ⟨ZHH, ownT, rawT, ZHN, alT, fzT, mzT⟩
def XX : FuncId → Option (List AV → List Row → Option Res) := fun f => if f = 23 then some ZkL else if f = 25 then some ZkN else if f = 57 then some ZkM else if f = 76 then some ZnP else none
noncomputable abbrev PP : Program := Tryd.prog
noncomputable abbrev EE : GF := E PP XX HH
noncomputable abbrev LL : LF := L PP XX HH
end Go.Proofs.YtocikhhkicahoaaDoor.N2
end
noncomputable section
namespace Go.Proofs.YtocikhhkicahoaaDoor.N2
open Go Go.Abs
set_option maxRecDepth 100000
variable (m0 : Nat) (x0 x1 x2 x3 x4 x5 x6 x7 x8 x9 x10 x11 x12 x13 x14 x15 x16 x17 x18 x23 x24 x25 x29 x30 x31 x36 x37 x38 x45 x46 x47 x49 x50 x51 x52 x53 x65 x66 x67 : AV) (B : List Row)
theorem lq_ {f m0 : Nat} {c : Code} {K : Kont} {sl : Sl} {B : List Row} {r : Option Res} (h : exec PP HH f m0 EE LL c (kloop HH f m0 c (LL f m0 c K) K) sl B = r) : LL f m0 c K sl B = r := (L_eq PP XX HH f m0 c K sl B).trans h
def ZHY := Z2B Tryd.f5
def ZkX := l2 (l2 ZHY)
def ZxP := l2 (l2 (l2 ZkX))
def Zsv := l1 (l1 (l2 (l1 (l2 (l2 ZkX)))))
def ZpV := l2 (l2 Zsv)
def Z1z (r0 : AV) (B : List Row) : Option Res :=
 ob (ob (some r0) fun v => ob (some []) fun vs => some (v :: vs)) fun vs => some ((nrmA (match vs with | [v] => v | vs => Z97 (vs.map shr))), B)
def ZkW (m0 : Nat) : Kont := kret PP HH 5 Tryd.f5.results
def ZHr := kseq HH 5 m0 (l2 ZkX) (exec PP HH 5 m0 EE LL (l2 ZkX) (ZkW m0)) (ZkW m0)
def ZHs := kseq HH 5 m0 ZxP (exec PP HH 5 m0 EE LL ZxP (ZkW m0)) (ZkW m0)
def ZxL := kblk 0 (ZHs m0)
def Zsu := kloop HH 5 m0 Zsv (LL 5 m0 Zsv (ZxL m0)) (ZxL m0)
def ZHt := kseq HH 5 m0 (l2 ZpV) (exec PP HH 5 m0 EE LL (l2 ZpV) (Zsu m0)) (Zsu m0)
def ZHu := kblk 1 (ZHt m0)
def ZxM := exec PP HH 5 m0 EE LL ZkX (ZkW m0) [(0, x0)] B
def ZpU := exec PP HH 5 m0 EE LL (l1 (l2 (l1 ZkX))) (ZHr m0) [] B
def ZxN := exec PP HH 5 m0 EE LL (l2 ZkX) (ZkW m0) [(0, x0)] B
def ZpT := lp (LL 5 m0 Zsv (ZxL m0) [(0, x0), (3, x3), (29, x29), (30, x30), (31, x31)] B)
def ZxO := exec PP HH 5 m0 EE LL ZpV (Zsu m0) [(0, x0), (3, x3), (29, x29), (30, x30), (31, x31)] B
def Zub := exec PP HH 5 m0 EE LL ZxP (ZkW m0) [(0, x0), (3, x3)] B
def Zu9 := exec PP HH 5 m0 EE LL (l2 (l2 (l1 (l1 ZpV)))) (ZHu m0) [(0, x0), (3, x3), (5, x5), (29, x29), (30, x30), (31, x31)] B
def Zua := exec PP HH 5 m0 EE LL (l2 ZpV) (Zsu m0) [(0, x0), (3, x3), (29, x29), (30, x30), (31, x31)] B
theorem ZCq : ZxM m0 x0 B =
 mk (ob (xlen PP 28 (shr x0)) fun a =>
 ob (xbin PP .gtr 3 a (iv 5)) fun b =>
 asB (shr b) fun c => br c (ZpU m0 (gcB m0 [] B))
 (ob (xlen PP 28 (shr x0)) fun d =>
 ob (xbin PP .eql 3 d (iv 0)) fun e =>
 asB (shr (shr e)) fun f => br f (ZpU m0 (gcB m0 [] B))
 (callS false EE 12 [(shr x0)] B fun g h =>
 ob (xun PP .not g) fun i =>
 asB (shr i) fun j => br j (ZpU m0 (gcB m0 [] h))
 (ZxN m0 x0 (gcB m0 [x0] h))))) := by kernel_rfl
theorem ZCr : ZpU m0 B =
 mk (Z1z (bv true) B) := by kernel_rfl
theorem ZCs : ZxN m0 x0 B =
 mk (mk (ob (xlen PP 28 (shr x0)) fun a =>
 ZpT m0 x0 (.p (.v (.string (ByteArray.mk #[91])))) (shr x0) a (iv 0) (gcB m0 [x0, (.p (.v (.string (ByteArray.mk #[91])))), (shr x0), a, (iv 0)] B))) := by kernel_rfl
theorem ZCp : ZpT m0 x0 x3 x29 x30 x31 B =
 mk (ob (xbin PP .lss 3 x31 x30) fun a =>
 asB a fun b => br b (ZxO m0 x0 x3 x29 x30 x31 (gcB m0 [x0, x3, x29, x30, x31] B))
 (Zub m0 x0 x3 (gcB m0 [x0, x3] B))) := lq_ (by kernel_rfl)
theorem ZCt : ZxO m0 x0 x3 x29 x30 x31 B =
 mk (ob (xidx 2 x29 x31) fun a =>
 ob (ldN true 2 a B) fun b =>
 bz PP 47 B fun c d =>
 stN 2 c b d fun e =>
 mk (ob (xfld 1 c) fun f =>
 ob (ldN false 1 f e) fun g =>
 ob (xbin PP .gtr 3 g (iv 255)) fun h =>
 asB h fun i => br i (mk (Z1z (bv true) e))
 (Zu9 m0 x0 x3 c x29 x30 x31 (gcB m0 [x0, x3, c, x29, x30, x31] e)))) := by kernel_rfl
theorem ZAp : Zub m0 x0 x3 B =
 mk (ob (xbin PP .add 9 (shr x3) (.p (.v (.string (ByteArray.mk #[93]))))) fun a =>
 callS false EE 9 [a] B fun b c =>
 ob (xext 0 (shr b)) fun d =>
 ob (xext 1 (shr b)) fun e =>
 ob (xext 2 (shr b)) fun f =>
 mk (ob (xslS (shr x3) (some (iv 1)) none) fun g =>
 ob (xbin PP .add 9 (.p (.v (.string (ByteArray.mk #[91, 94])))) g) fun h =>
 ob (xbin PP .add 9 h (.p (.v (.string (ByteArray.mk #[93]))))) fun i =>
 callS false EE 9 [i] c fun j k =>
 ob (xext 0 (shr j)) fun l =>
 ob (xext 1 (shr j)) fun n =>
 ob (xext 2 (shr j)) fun o =>
 mk (callS false EE 17 [(shr x0)] k fun q r =>
 ob (xext 0 (shr q)) fun s =>
 ob (xext 1 (shr q)) fun t =>
 mk (ob (xbin PP .eql 24 (shr (shr (shr e))) (iv 0)) fun u =>
 asB (shr u) fun w => br w (ob (xbin PP .eql 24 (shr (shr (shr f))) (iv 0)) fun x =>
 asB (shr (shr x)) fun y => br y (ob (xbin PP .eql 24 (shr (shr (shr n))) (iv 0)) fun z =>
 asB (shr (shr z)) fun A => br A (ob (xbin PP .eql 24 (shr (shr (shr o))) (iv 0)) fun C =>
 asB (shr (shr C)) fun D => br D (ob (xlen PP 23 (shr (shr (shr d)))) fun F =>
 ob (xbin PP .eql 3 F (iv 4)) fun G =>
 asB (shr (shr G)) fun I => br I (ob (xlen PP 23 (shr (shr (shr l)))) fun J =>
 ob (xbin PP .eql 3 J (iv 4)) fun M =>
 asB (shr (shr M)) fun N => br N (ob (xidx 6 (shr (shr (shr d))) (iv 1)) fun O =>
 ob (xfld 0 O) fun Q =>
 ob (ldN false 1 Q r) fun R =>
 ob (xbin PP .eql 3 R (iv 1)) fun S =>
 asB (shr (shr S)) fun T => br T (ob (xidx 6 (shr (shr (shr d))) (iv 1)) fun U =>
 ob (xfld 5 U) fun V =>
 ob (ldN false 1 V r) fun W =>
 callS false EE 15 [W, (shr x0)] r fun Y Z =>
 asB (shr (shr Y)) fun a0 => br a0 (ob (xidx 6 (shr (shr (shr l))) (iv 1)) fun a1 =>
 ob (xfld 5 a1) fun a2 =>
 ob (ldN false 1 a2 Z) fun a3 =>
 callS false EE 15 [a3, (shr (shr (shr s)))] Z fun a4 a5 =>
 Z1z (shr (shr a4)) a5)
 (Z1z (bv false) Z))
 (Z1z (bv false) r))
 (Z1z (bv false) r))
 (Z1z (bv false) r))
 (Z1z (bv false) r))
 (Z1z (bv false) r))
 (Z1z (bv false) r))
 (Z1z (bv false) r))))) := by kernel_rfl
theorem ZAn : Zu9 m0 x0 x3 x5 x29 x30 x31 B =
 mk (ob (xfld 0 x5) fun a =>
 ob (ldN false 1 a B) fun b =>
 callS false EE 16 [b] B fun c d =>
 ob (xbin PP .add 9 c (.p (.v (.string (ByteArray.mk #[45]))))) fun e =>
 ob (xfld 1 x5) fun f =>
 ob (ldN false 1 f d) fun g =>
 callS false EE 16 [g] d fun h i =>
 ob (xbin PP .add 9 e h) fun j =>
 ob (xbin PP .add 9 (shr x3) j) fun k =>
 grd (ZiG [c, b]) (Zua m0 x0 (shr k) x29 x30 x31 (gcB m0 [x0, (shr k), x29, x30, x31] i))) := by kernel_rfl
theorem ZAo : Zua m0 x0 x3 x29 x30 x31 B =
 mk (ob (xbin PP .add 3 x31 (iv 1)) fun a =>
 ZpT m0 x0 x3 x29 x30 (shr a) (gcB m0 [x0, x3, x29, x30, (shr a)] B)) := by kernel_rfl
theorem ZHq : EE 5 [x0] B =
 (let m0 := B.length
 mk (mk (callS false EE 8 [] B fun a b =>
 ob (xun PP .not a) fun c =>
 asB c fun d => br d (mk (Z1z (bv false) b))
 (ZxM m0 x0 (gcB m0 [x0] b))))) := (E_eq PP XX HH _ _ _).trans (by kernel_rfl)
def ZGP := Z2B Tryd.f8
def Zye := l2 (l2 (l2 (l2 ZGP)))
def Zyc (m0 : Nat) : Kont := kret PP HH 8 Tryd.f8.results
def ZHD := kseq HH 8 m0 Zye (exec PP HH 8 m0 EE LL Zye (Zyc m0)) (Zyc m0)
def Zjf := exec PP HH 8 m0 EE LL (l1 (l2 (l1 (l2 (l2 (l2 ZGP)))))) (ZHD m0) [] B
def Zyd := exec PP HH 8 m0 EE LL Zye (Zyc m0) [(1, x1), (4, x4)] B
theorem ZCu : Zjf m0 B =
 mk (Z1z (bv false) B) := by kernel_rfl
theorem ZCv : Zyd m0 x1 x4 B =
 mk (ob (xidx 6 (shr x1) (iv 1)) fun a =>
 ob (xfld 0 a) fun b =>
 ob (ldN false 1 b B) fun c =>
 ob (xbin PP .eql 3 c (iv 3)) fun d =>
 asB (shr d) fun e => br e (ob (xidx 6 (shr x1) (iv 1)) fun f =>
 ob (xfld 1 f) fun g =>
 ob (ldN false 1 g B) fun h =>
 ob (xbin PP .eql 3 h (iv 2)) fun i =>
 asB (shr (shr i)) fun j => br j (ob (xidx 6 (shr x1) (iv 1)) fun k =>
 ob (xfld 2 k) fun l =>
 ob (ldN false 1 l B) fun n =>
 ob (xbin PP .eql 3 n (iv 4)) fun o =>
 asB (shr (shr o)) fun p => br p (ob (xidx 6 (shr x1) (iv 3)) fun q =>
 ob (xfld 0 q) fun r =>
 ob (ldN false 1 r B) fun s =>
 ob (xbin PP .eql 3 s (iv 2)) fun t =>
 asB (shr (shr t)) fun u => br u (ob (xidx 6 (shr x1) (iv 3)) fun v =>
 ob (xfld 1 v) fun w =>
 ob (ldN false 1 w B) fun x =>
 ob (xbin PP .eql 3 x (iv 5)) fun y =>
 asB (shr (shr y)) fun z => br z (ob (xidx 6 (shr x4) (iv 4)) fun A =>
 ob (xfld 0 A) fun C =>
 ob (ldN false 1 C B) fun D =>
 ob (xbin PP .eql 3 D (iv 11)) fun F =>
 asB (shr (shr F)) fun G => br G (ob (xidx 6 (shr x4) (iv 1)) fun I =>
 ob (xfld 2 I) fun J =>
 ob (ldN false 1 J B) fun M =>
 ob (xbin PP .eql 3 M (iv 6)) fun N =>
 asB (shr (shr N)) fun O => br O (callS false EE 13 [(shr x4)] B fun Q R =>
 ob (xbin PP .eql 3 Q (iv 1)) fun S =>
 Z1z (shr (shr S)) R)
 (Z1z (bv false) B))
 (Z1z (bv false) B))
 (Z1z (bv false) B))
 (Z1z (bv false) B))
 (Z1z (bv false) B))
 (Z1z (bv false) B))
 (Z1z (bv false) B)) := by kernel_rfl
theorem ZHC : EE 8 [] B =
 (let m0 := B.length
 mk (mk (callS false EE 9 [(.p (.v (.string (ByteArray.mk #[97, 124, 98]))))] B fun a b =>
 ob (xext 0 (shr a)) fun c =>
 ob (xext 1 (shr a)) fun d =>
 ob (xext 2 (shr a)) fun e =>
 mk (callS false EE 9 [(.p (.v (.string (ByteArray.mk #[97, 42]))))] b fun f g =>
 ob (xext 0 (shr f)) fun h =>
 ob (xext 1 (shr f)) fun i =>
 ob (xext 2 (shr f)) fun j =>
 mk (ob (xbin PP .neq 24 (shr (shr (shr d))) (iv 0)) fun k =>
 asB (shr k) fun l => br l (Zjf m0 (gcB m0 [] g))
 (ob (xbin PP .neq 24 (shr (shr (shr e))) (iv 0)) fun n =>
 asB (shr (shr n)) fun o => br o (Zjf m0 (gcB m0 [] g))
 (ob (xbin PP .neq 24 (shr (shr (shr i))) (iv 0)) fun q =>
 asB (shr (shr q)) fun r => br r (Zjf m0 (gcB m0 [] g))
 (ob (xbin PP .neq 24 (shr (shr (shr j))) (iv 0)) fun s =>
 asB (shr (shr s)) fun t => br t (Zjf m0 (gcB m0 [] g))
 (ob (xlen PP 23 (shr (shr (shr c)))) fun u =>
 ob (xbin PP .neq 3 u (iv 7)) fun w =>
 asB (shr (shr w)) fun x => br x (Zjf m0 (gcB m0 [] g))
 (ob (xlen PP 23 (shr (shr (shr h)))) fun y =>
 ob (xbin PP .neq 3 y (iv 8)) fun z =>
 asB (shr z) fun A => br A (Zjf m0 (gcB m0 [] g))
 (Zyd m0 (shr (shr c)) (shr (shr h)) (gcB m0 [(shr (shr c)), (shr (shr h))] g)))))))))))) := (E_eq PP XX HH _ _ _).trans (by kernel_rfl)
def ZHZ := Z2B Tryd.f9
def ZBc (r0 r1 r2 : AV) (B : List Row) : Option Res :=
 ob (ob (some r0) fun v => ob (ob (some r1) fun v => ob (ob (some r2) fun v => ob (some []) fun vs => some (v :: vs)) fun vs => some (v :: vs)) fun vs => some (v :: vs)) fun vs => some ((nrmA (match vs with | [v] => v | vs => Z97 (vs.map shr))), B)
def ZHF (m0 : Nat) : Kont := kret PP HH 9 Tryd.f9.results
def Zyg := exec PP HH 9 m0 EE LL (l2 (l2 (l2 ZHZ))) (ZHF m0) [(5, x5)] B
theorem ZCw : Zyg m0 x5 B =
 mk (ob (ldN true 9 x5 B) fun a =>
 callS false EE 18 [a] B fun b c =>
 ob (xext 0 (shr b)) fun d =>
 ob (xext 1 (shr b)) fun e =>
 mk (ZBc (shr (shr (shr (shr d)))) (iv 0) (shr (shr (shr (shr e)))) c)) := by kernel_rfl
theorem ZHE : EE 9 [x0] B =
 (let m0 := B.length
 mk (mk (callS false EE 10 [(shr x0)] B fun a b =>
 ob (xext 0 (shr a)) fun c =>
 ob (xext 1 (shr a)) fun d =>
 bz PP 33 b fun e f =>
 bz PP 35 f fun g h =>
 stN 9 e (shr c) h fun i =>
 stN 2 g (shr d) i fun j =>
 mk (ob (xfld 0 g) fun k =>
 ob (ldN false 1 k j) fun l =>
 ob (xbin PP .neq 24 l (iv 0)) fun n =>
 asB n fun o => br o (mk (ob (xfld 0 g) fun p =>
 ob (ldN false 1 p j) fun q =>
 ZBc nilA (shr q) (iv 0) j))
 (Zyg m0 e (gcB m0 [e] j)))))) := (E_eq PP XX HH _ _ _).trans (by kernel_rfl)
def ZHe := Z2B Tryd.f10
def ZsT := l2 (l2 ZHe)
def Zgt := l2 (l2 (l2 (l2 ZsT)))
def Zpf := l1 (l1 (l2 (l1 Zgt)))
def Zz9 := l2 (l2 Zpf)
def Zri (r0 r1 : AV) (B : List Row) : Option Res :=
 ob (ob (ldN true 9 r0 B) fun v => ob (ob (ldN true 2 r1 B) fun v => ob (some []) fun vs => some (v :: vs)) fun vs => some (v :: vs)) fun vs => some ((nrmA (match vs with | [v] => v | vs => Z97 (vs.map shr))), B)
def Zgs (m0 : Nat) : Kont := kret PP HH 10 Tryd.f10.results
def ZEP := kseq HH 10 m0 Zgt (exec PP HH 10 m0 EE LL Zgt (Zgs m0)) (Zgs m0)
def ZEQ := kseq HH 10 m0 (l2 Zgt) (exec PP HH 10 m0 EE LL (l2 Zgt) (Zgs m0)) (Zgs m0)
def ZsQ := kblk 0 (ZEQ m0)
def Zz4 := kloop HH 10 m0 Zpf (LL 10 m0 Zpf (ZsQ m0)) (ZsQ m0)
def ZsR := exec PP HH 10 m0 EE LL ZsT (Zgs m0) [(0, x0), (2, x2), (3, x3)] B
def ZsS := exec PP HH 10 m0 EE LL (l1 (l2 (l1 (l2 (l2 (l2 ZsT)))))) (ZEP m0) [(2, x2), (3, x3), (4, x4), (5, x5)] B
def Zm9 := exec PP HH 10 m0 EE LL Zgt (Zgs m0) [(2, x2), (3, x3), (4, x4), (5, x5)] B
def Zm8 := lp (LL 10 m0 Zpf (ZsQ m0) [(2, x2), (3, x3), (4, x4), (5, x5), (50, x50), (51, x51), (52, x52)] B)
def Zrf := exec PP HH 10 m0 EE LL Zz9 (Zz4 m0) [(2, x2), (3, x3), (4, x4), (5, x5), (50, x50), (51, x51), (52, x52)] B
def Zrg := exec PP HH 10 m0 EE LL (l2 Zgt) (Zgs m0) [(2, x2), (3, x3), (4, x4), (5, x5)] B
def Znu := exec PP HH 10 m0 EE LL (l2 Zz9) (Zz4 m0) [(2, x2), (3, x3), (4, x4), (5, x5), (50, x50), (51, x51), (52, x52)] B
def Zrh := exec PP HH 10 m0 EE LL (l2 (l2 Zgt)) (Zgs m0) [(2, x2), (3, x3), (4, x4), (5, x5)] B
theorem Zz6 : ZsR m0 x0 x2 x3 B =
 mk (ob (xcnv PP 9 54 (shr x0)) fun a =>
 ob (Z1E PP 57 [(0, a)]) fun b =>
 bx b B fun c d =>
 mk (callS false EE 19 [(shr (shr c)), (.p (.v (.string (ByteArray.mk #[40, 63, 105, 41]))))] d fun e f =>
 ob (Z1E PP 33 [(2, e)]) fun g =>
 bz PP 33 f fun h i =>
 stN 9 h g i fun j =>
 mk (callS false EE 20 [(shr (shr c))] j fun k l =>
 ob (xfld 0 h) fun n =>
 stN 7 n k l fun o =>
 mk (ob (Z1F (shr (shr c))) fun q =>
 ob (xfld 5 q) fun r =>
 ob (xfld 0 r) fun s =>
 ob (ldN false 1 s o) fun t =>
 ob (xbin PP .eql 24 t (iv 0)) fun u =>
 asB (shr u) fun w => br w (ob (Z1F (shr (shr c))) fun x =>
 ob (xfld 1 x) fun y =>
 ob (ldN false 1 y o) fun z =>
 ob (Z1F (shr (shr c))) fun A =>
 ob (xfld 0 A) fun C =>
 ob (ldN false 1 C o) fun D =>
 ob (xlen PP 54 D) fun F =>
 ob (xbin PP .lss 3 z F) fun G =>
 asB (shr G) fun I => br I (ZsS m0 x2 x3 (shr c) h (gcB m0 [x2, x3, (shr c), h] o))
 (Zm9 m0 x2 x3 (shr c) h (gcB m0 [x2, x3, (shr c), h] o)))
 (Zm9 m0 x2 x3 (shr c) h (gcB m0 [x2, x3, (shr c), h] o)))))) := by kernel_rfl
theorem Zz7 : ZsS m0 x2 x3 x4 x5 B =
 mk (ob (Z1F (shr x4)) fun a =>
 ob (xfld 1 a) fun b =>
 ob (ldN false 1 b B) fun c =>
 callS false EE 21 [(shr x4), (iv 20), c] B fun d e =>
 Zm9 m0 x2 x3 x4 x5 (gcB m0 [x2, x3, x4, x5] e)) := by kernel_rfl
theorem Zz8 : Zm9 m0 x2 x3 x4 x5 B =
 mk (ob (Z1F (shr x4)) fun a =>
 ob (xfld 4 a) fun b =>
 ob (ldN false 1 b B) fun c =>
 ob (xlen PP 55 c) fun d =>
 Zm8 m0 x2 x3 x4 x5 c d (iv 0) (gcB m0 [x2, x3, x4, x5, c, d, (iv 0)] B)) := by kernel_rfl
theorem Zz5 : Zm8 m0 x2 x3 x4 x5 x50 x51 x52 B =
 mk (ob (xbin PP .lss 3 x52 x51) fun a =>
 asB a fun b => br b (Zrf m0 x2 x3 x4 x5 x50 x51 x52 (gcB m0 [x2, x3, x4, x5, x50, x51, x52] B))
 (Zrg m0 x2 x3 x4 x5 (gcB m0 [x2, x3, x4, x5] B))) := lq_ (by kernel_rfl)
theorem Zxf : Zrf m0 x2 x3 x4 x5 x50 x51 x52 B =
 mk (ob (xidx 2 x50 x52) fun a =>
 ob (ldN true 2 a B) fun b =>
 bz PP 61 B fun c d =>
 stN 2 c b d fun e =>
 mk (ob (xfld 0 c) fun f =>
 ob (ldN false 1 f e) fun g =>
 ob (Z1F (shr x4)) fun h =>
 ob (xfld 2 h) fun i =>
 ob (ldN false 1 i e) fun j =>
 ob (xbin PP .gtr 3 g j) fun k =>
 asB k fun l => br l (mk (ob (xfld 1 c) fun n =>
 ob (ldN false 1 n e) fun o =>
 callS false EE 21 [(shr x4), (iv 26), o] e fun p q =>
 Znu m0 x2 x3 x4 x5 x50 x51 x52 (gcB m0 [x2, x3, x4, x5, x50, x51, x52] q)))
 (Znu m0 x2 x3 x4 x5 x50 x51 x52 (gcB m0 [x2, x3, x4, x5, x50, x51, x52] e)))) := by kernel_rfl
theorem Zxh : Zrg m0 x2 x3 x4 x5 B =
 mk (ob (Z1F (shr x4)) fun a =>
 ob (xfld 5 a) fun b =>
 ob (xfld 0 b) fun c =>
 ob (ldN false 1 c B) fun d =>
 ob (xbin PP .neq 24 d (iv 0)) fun e =>
 asB e fun f => br f (mk (ob (Z1E PP 33 []) fun g =>
 ob (Z1F (shr x4)) fun h =>
 ob (xfld 5 h) fun i =>
 ob (ldN true 2 i B) fun j =>
 stN 9 x2 g B fun k =>
 stN 2 x3 j k fun l =>
 grd (Zbr i x2) (Zri x2 x3 l)))
 (Zrh m0 x2 x3 x4 x5 (gcB m0 [x2, x3, x4, x5] B))) := by kernel_rfl
theorem Zxg : Znu m0 x2 x3 x4 x5 x50 x51 x52 B =
 mk (ob (xbin PP .add 3 x52 (iv 1)) fun a =>
 Zm8 m0 x2 x3 x4 x5 x50 x51 (shr a) (gcB m0 [x2, x3, x4, x5, x50, x51, (shr a)] B)) := by kernel_rfl
theorem Zxi : Zrh m0 x2 x3 x4 x5 B =
 mk (ob (Z1F (shr x4)) fun a =>
 ob (xfld 2 a) fun b =>
 ob (ldN false 1 b B) fun c =>
 ob (xfld 7 x5) fun d =>
 stN 1 d c B fun e =>
 mk (ob (ldN true 9 x5 e) fun f =>
 ob (Z1E PP 35 []) fun g =>
 stN 9 x2 f e fun h =>
 stN 2 x3 g h fun i =>
 Zri x2 x3 i)) := by kernel_rfl
theorem ZEO : EE 10 [x0] B =
 (let m0 := B.length
 mk (bz PP 33 B fun a b =>
 bz PP 35 b fun c d =>
 mk (ob (xlen PP 9 (shr x0)) fun e =>
 ob (xbin PP .gtr 3 e (iv 256)) fun f =>
 asB f fun g => br g (mk (ob (Z1E PP 33 []) fun h =>
 ob (Z1E PP 35 [(0, (iv 12))]) fun i =>
 stN 9 a h d fun j =>
 stN 2 c i j fun k =>
 Zri a c k))
 (ZsR m0 x0 a c (gcB m0 [x0, a, c] d))))) := (E_eq PP XX HH _ _ _).trans (by kernel_rfl)
def ZDj := Z2B Tryd.f11
def Zio := l2 (l2 (l2 ZDj))
def Zpg := l1 (l1 (l2 (l1 (l2 (l2 ZDj)))))
def ZjY (m0 : Nat) : Kont := kret PP HH 11 Tryd.f11.results
def ZES := kseq HH 11 m0 Zio (exec PP HH 11 m0 EE LL Zio (ZjY m0)) (ZjY m0)
def ZsU := kblk 0 (ZES m0)
def ZET := kloop HH 11 m0 Zpg (LL 11 m0 Zpg (ZsU m0)) (ZsU m0)
def ZEU := kseq HH 11 m0 (l2 Zio) (exec PP HH 11 m0 EE LL (l2 Zio) (ZjY m0)) (ZjY m0)
def ZEV := kblk 2 (ZEU m0)
def Zma := lp (LL 11 m0 Zpg (ZsU m0) [(1, x1), (3, x3), (8, x8), (9, x9), (10, x10)] B)
def ZsV := exec PP HH 11 m0 EE LL (l2 (l2 Zpg)) (ZET m0) [(1, x1), (3, x3), (8, x8), (9, x9), (10, x10)] B
def ZsW := exec PP HH 11 m0 EE LL Zio (ZjY m0) [(1, x1), (3, x3)] B
def Z46 := exec PP HH 11 m0 EE LL (l2 Zio) (ZjY m0) [(3, x3)] B
def Z5z := exec PP HH 11 m0 EE LL (l2 (l2 (l2 (l1 (l2 (l2 (l2 (l2 (l2 (l2 (l2 (l1 (l2 (l1 Zio)))))))))))))) (ZEV m0) [(1, x1), (3, x3)] B
theorem Zza : Zma m0 x1 x3 x8 x9 x10 B =
 mk (ob (xbin PP .lss 3 x10 x9) fun a =>
 asB a fun b => br b (ZsV m0 x1 x3 x8 x9 x10 (gcB m0 [x1, x3, x8, x9, x10] B))
 (ZsW m0 x1 x3 (gcB m0 [x1, x3] B))) := lq_ (by kernel_rfl)
theorem Zzb : ZsV m0 x1 x3 x8 x9 x10 B =
 mk (ob (xidx 7 x8 x10) fun a =>
 ob (ldN true 7 a B) fun b =>
 bz PP 31 B fun c d =>
 stN 7 c b d fun e =>
 mk (ob (ldN true 7 c e) fun f =>
 callS false EE 11 [f] e fun g h =>
 ob (xbin PP .add 3 (shr x3) g) fun i =>
 ob (Z7I PP false [i, (iv 1048576)]) fun j =>
 mk (ob (xbin PP .add 3 x10 (iv 1)) fun k =>
 Zma m0 x1 (shr j) x8 x9 (shr k) (gcB m0 [x1, (shr j), x8, x9, (shr k)] h)))) := by kernel_rfl
theorem Zzc : ZsW m0 x1 x3 B =
 mk (ob (xfld 0 x1) fun a =>
 ob (ldN false 1 a B) fun b =>
 mk (ob (xbin PP .eql 3 b (iv 1)) fun c =>
 asB (shr c) fun d => br d (asB (shr c) fun e => br e (mk (Z1z (iv 1) B))
 (mk (ob (xbin PP .eql 3 b (iv 3)) fun f =>
 asB (shr f) fun g => br g (mk (ob (xfld 6 x1) fun h =>
 ob (ldN false 1 h B) fun i =>
 ob (xlen PP 29 i) fun j =>
 ob (xbin PP .sub 3 j (iv 1)) fun k =>
 ob (xbin PP .mul 3 (iv 2) k) fun l =>
 ob (xbin PP .add 3 (shr x3) l) fun n =>
 Z46 m0 (shr n) (gcB m0 [(shr n)] B)))
 (mk (ob (xbin PP .eql 3 b (iv 5)) fun o =>
 asB (shr o) fun p => br p (asB (shr o) fun q => br q (mk (ob (xbin PP .add 3 (shr x3) (iv 2)) fun r =>
 Z46 m0 (shr r) (gcB m0 [(shr r)] B)))
 (mk (ob (xbin PP .eql 3 b (iv 4)) fun s =>
 asB (shr s) fun t => br t (mk (mk (ob (xfld 1 x1) fun u =>
 ob (ldN false 1 u B) fun v =>
 ob (xbin PP .mul 3 v (shr (shr (shr x3)))) fun w =>
 mk (ob (xfld 2 x1) fun x =>
 ob (ldN false 1 x B) fun y =>
 ob (xbin PP .lss 3 y (iv 0)) fun z =>
 asB z fun A => br A (mk (ob (xbin PP .add 3 (shr (shr (shr x3))) (iv 4)) fun C =>
 ob (xbin PP .add 3 (shr (shr w)) C) fun D =>
 Z5z m0 x1 (shr D) (gcB m0 [x1, (shr D)] B)))
 (mk (ob (xfld 2 x1) fun F =>
 ob (ldN false 1 F B) fun G =>
 ob (xfld 1 x1) fun I =>
 ob (ldN false 1 I B) fun J =>
 ob (xbin PP .sub 3 G J) fun M =>
 ob (xbin PP .add 3 (shr (shr (shr x3))) (iv 1)) fun N =>
 ob (xbin PP .mul 3 M N) fun O =>
 ob (xbin PP .add 3 (shr (shr w)) O) fun Q =>
 Z5z m0 x1 (shr Q) (gcB m0 [x1, (shr Q)] B)))))))
 (Z46 m0 x3 (gcB m0 [x3] B)))))
 (mk (ob (xbin PP .eql 3 b (iv 7)) fun R =>
 asB (shr R) fun S => br S (asB (shr R) fun T => br T (mk (ob (xbin PP .add 3 (shr x3) (iv 2)) fun U =>
 Z46 m0 (shr U) (gcB m0 [(shr U)] B)))
 (mk (ob (xbin PP .eql 3 b (iv 4)) fun V =>
 asB (shr V) fun W => br W (mk (mk (ob (xfld 1 x1) fun Y =>
 ob (ldN false 1 Y B) fun Z =>
 ob (xbin PP .mul 3 Z (shr (shr (shr x3)))) fun a0 =>
 mk (ob (xfld 2 x1) fun a1 =>
 ob (ldN false 1 a1 B) fun a2 =>
 ob (xbin PP .lss 3 a2 (iv 0)) fun a3 =>
 asB a3 fun a4 => br a4 (mk (ob (xbin PP .add 3 (shr (shr (shr x3))) (iv 4)) fun a5 =>
 ob (xbin PP .add 3 (shr (shr a0)) a5) fun a6 =>
 Z5z m0 x1 (shr a6) (gcB m0 [x1, (shr a6)] B)))
 (mk (ob (xfld 2 x1) fun a7 =>
 ob (ldN false 1 a7 B) fun a8 =>
 ob (xfld 1 x1) fun a9 =>
 ob (ldN false 1 a9 B) fun a10 =>
 ob (xbin PP .sub 3 a8 a10) fun a11 =>
 ob (xbin PP .add 3 (shr (shr (shr x3))) (iv 1)) fun a12 =>
 ob (xbin PP .mul 3 a11 a12) fun a13 =>
 ob (xbin PP .add 3 (shr (shr a0)) a13) fun a14 =>
 Z5z m0 x1 (shr a14) (gcB m0 [x1, (shr a14)] B)))))))
 (Z46 m0 x3 (gcB m0 [x3] B)))))
 (mk (ob (xbin PP .eql 3 b (iv 8)) fun a15 =>
 asB (shr a15) fun a16 => br a16 (mk (ob (xbin PP .add 3 (shr x3) (iv 2)) fun a17 =>
 Z46 m0 (shr a17) (gcB m0 [(shr a17)] B)))
 (mk (ob (xbin PP .eql 3 b (iv 4)) fun a18 =>
 asB (shr a18) fun a19 => br a19 (mk (mk (ob (xfld 1 x1) fun a20 =>
 ob (ldN false 1 a20 B) fun a21 =>
 ob (xbin PP .mul 3 a21 (shr (shr (shr x3)))) fun a22 =>
 mk (ob (xfld 2 x1) fun a23 =>
 ob (ldN false 1 a23 B) fun a24 =>
 ob (xbin PP .lss 3 a24 (iv 0)) fun a25 =>
 asB a25 fun a26 => br a26 (mk (ob (xbin PP .add 3 (shr (shr (shr x3))) (iv 4)) fun a27 =>
 ob (xbin PP .add 3 (shr (shr a22)) a27) fun a28 =>
 Z5z m0 x1 (shr a28) (gcB m0 [x1, (shr a28)] B)))
 (mk (ob (xfld 2 x1) fun a29 =>
 ob (ldN false 1 a29 B) fun a30 =>
 ob (xfld 1 x1) fun a31 =>
 ob (ldN false 1 a31 B) fun a32 =>
 ob (xbin PP .sub 3 a30 a32) fun a33 =>
 ob (xbin PP .add 3 (shr (shr (shr x3))) (iv 1)) fun a34 =>
 ob (xbin PP .mul 3 a33 a34) fun a35 =>
 ob (xbin PP .add 3 (shr (shr a22)) a35) fun a36 =>
 Z5z m0 x1 (shr a36) (gcB m0 [x1, (shr a36)] B)))))))
 (Z46 m0 x3 (gcB m0 [x3] B)))))))))))))
 (mk (ob (xbin PP .eql 3 b (iv 6)) fun a37 =>
 asB (shr a37) fun a38 => br a38 (asB (shr a37) fun a39 => br a39 (mk (Z1z (iv 1) B))
 (mk (ob (xbin PP .eql 3 b (iv 3)) fun a40 =>
 asB (shr a40) fun a41 => br a41 (mk (ob (xfld 6 x1) fun a42 =>
 ob (ldN false 1 a42 B) fun a43 =>
 ob (xlen PP 29 a43) fun a44 =>
 ob (xbin PP .sub 3 a44 (iv 1)) fun a45 =>
 ob (xbin PP .mul 3 (iv 2) a45) fun a46 =>
 ob (xbin PP .add 3 (shr x3) a46) fun a47 =>
 Z46 m0 (shr a47) (gcB m0 [(shr a47)] B)))
 (mk (ob (xbin PP .eql 3 b (iv 5)) fun a48 =>
 asB (shr a48) fun a49 => br a49 (asB (shr a48) fun a50 => br a50 (mk (ob (xbin PP .add 3 (shr x3) (iv 2)) fun a51 =>
 Z46 m0 (shr a51) (gcB m0 [(shr a51)] B)))
 (mk (ob (xbin PP .eql 3 b (iv 4)) fun a52 =>
 asB (shr a52) fun a53 => br a53 (mk (mk (ob (xfld 1 x1) fun a54 =>
 ob (ldN false 1 a54 B) fun a55 =>
 ob (xbin PP .mul 3 a55 (shr (shr (shr x3)))) fun a56 =>
 mk (ob (xfld 2 x1) fun a57 =>
 ob (ldN false 1 a57 B) fun a58 =>
 ob (xbin PP .lss 3 a58 (iv 0)) fun a59 =>
 asB a59 fun a60 => br a60 (mk (ob (xbin PP .add 3 (shr (shr (shr x3))) (iv 4)) fun a61 =>
 ob (xbin PP .add 3 (shr (shr a56)) a61) fun a62 =>
 Z5z m0 x1 (shr a62) (gcB m0 [x1, (shr a62)] B)))
 (mk (ob (xfld 2 x1) fun a63 =>
 ob (ldN false 1 a63 B) fun a64 =>
 ob (xfld 1 x1) fun a65 =>
 ob (ldN false 1 a65 B) fun a66 =>
 ob (xbin PP .sub 3 a64 a66) fun a67 =>
 ob (xbin PP .add 3 (shr (shr (shr x3))) (iv 1)) fun a68 =>
 ob (xbin PP .mul 3 a67 a68) fun a69 =>
 ob (xbin PP .add 3 (shr (shr a56)) a69) fun a70 =>
 Z5z m0 x1 (shr a70) (gcB m0 [x1, (shr a70)] B)))))))
 (Z46 m0 x3 (gcB m0 [x3] B)))))
 (mk (ob (xbin PP .eql 3 b (iv 7)) fun a71 =>
 asB (shr a71) fun a72 => br a72 (asB (shr a71) fun a73 => br a73 (mk (ob (xbin PP .add 3 (shr x3) (iv 2)) fun a74 =>
 Z46 m0 (shr a74) (gcB m0 [(shr a74)] B)))
 (mk (ob (xbin PP .eql 3 b (iv 4)) fun a75 =>
 asB (shr a75) fun a76 => br a76 (mk (mk (ob (xfld 1 x1) fun a77 =>
 ob (ldN false 1 a77 B) fun a78 =>
 ob (xbin PP .mul 3 a78 (shr (shr (shr x3)))) fun a79 =>
 mk (ob (xfld 2 x1) fun a80 =>
 ob (ldN false 1 a80 B) fun a81 =>
 ob (xbin PP .lss 3 a81 (iv 0)) fun a82 =>
 asB a82 fun a83 => br a83 (mk (ob (xbin PP .add 3 (shr (shr (shr x3))) (iv 4)) fun a84 =>
 ob (xbin PP .add 3 (shr (shr a79)) a84) fun a85 =>
 Z5z m0 x1 (shr a85) (gcB m0 [x1, (shr a85)] B)))
 (mk (ob (xfld 2 x1) fun a86 =>
 ob (ldN false 1 a86 B) fun a87 =>
 ob (xfld 1 x1) fun a88 =>
 ob (ldN false 1 a88 B) fun a89 =>
 ob (xbin PP .sub 3 a87 a89) fun a90 =>
 ob (xbin PP .add 3 (shr (shr (shr x3))) (iv 1)) fun a91 =>
 ob (xbin PP .mul 3 a90 a91) fun a92 =>
 ob (xbin PP .add 3 (shr (shr a79)) a92) fun a93 =>
 Z5z m0 x1 (shr a93) (gcB m0 [x1, (shr a93)] B)))))))
 (Z46 m0 x3 (gcB m0 [x3] B)))))
 (mk (ob (xbin PP .eql 3 b (iv 8)) fun a94 =>
 asB (shr a94) fun a95 => br a95 (mk (ob (xbin PP .add 3 (shr x3) (iv 2)) fun a96 =>
 Z46 m0 (shr a96) (gcB m0 [(shr a96)] B)))
 (mk (ob (xbin PP .eql 3 b (iv 4)) fun a97 =>
 asB (shr a97) fun a98 => br a98 (mk (mk (ob (xfld 1 x1) fun a99 =>
 ob (ldN false 1 a99 B) fun a100 =>
 ob (xbin PP .mul 3 a100 (shr (shr (shr x3)))) fun a101 =>
 mk (ob (xfld 2 x1) fun a102 =>
 ob (ldN false 1 a102 B) fun a103 =>
 ob (xbin PP .lss 3 a103 (iv 0)) fun a104 =>
 asB a104 fun a105 => br a105 (mk (ob (xbin PP .add 3 (shr (shr (shr x3))) (iv 4)) fun a106 =>
 ob (xbin PP .add 3 (shr (shr a101)) a106) fun a107 =>
 Z5z m0 x1 (shr a107) (gcB m0 [x1, (shr a107)] B)))
 (mk (ob (xfld 2 x1) fun a108 =>
 ob (ldN false 1 a108 B) fun a109 =>
 ob (xfld 1 x1) fun a110 =>
 ob (ldN false 1 a110 B) fun a111 =>
 ob (xbin PP .sub 3 a109 a111) fun a112 =>
 ob (xbin PP .add 3 (shr (shr (shr x3))) (iv 1)) fun a113 =>
 ob (xbin PP .mul 3 a112 a113) fun a114 =>
 ob (xbin PP .add 3 (shr (shr a101)) a114) fun a115 =>
 Z5z m0 x1 (shr a115) (gcB m0 [x1, (shr a115)] B)))))))
 (Z46 m0 x3 (gcB m0 [x3] B)))))))))))))
 (mk (ob (xbin PP .eql 3 b (iv 9)) fun a116 =>
 asB (shr a116) fun a117 => br a117 (mk (Z1z (iv 1) B))
 (mk (ob (xbin PP .eql 3 b (iv 3)) fun a118 =>
 asB (shr a118) fun a119 => br a119 (mk (ob (xfld 6 x1) fun a120 =>
 ob (ldN false 1 a120 B) fun a121 =>
 ob (xlen PP 29 a121) fun a122 =>
 ob (xbin PP .sub 3 a122 (iv 1)) fun a123 =>
 ob (xbin PP .mul 3 (iv 2) a123) fun a124 =>
 ob (xbin PP .add 3 (shr x3) a124) fun a125 =>
 Z46 m0 (shr a125) (gcB m0 [(shr a125)] B)))
 (mk (ob (xbin PP .eql 3 b (iv 5)) fun a126 =>
 asB (shr a126) fun a127 => br a127 (asB (shr a126) fun a128 => br a128 (mk (ob (xbin PP .add 3 (shr x3) (iv 2)) fun a129 =>
 Z46 m0 (shr a129) (gcB m0 [(shr a129)] B)))
 (mk (ob (xbin PP .eql 3 b (iv 4)) fun a130 =>
 asB (shr a130) fun a131 => br a131 (mk (mk (ob (xfld 1 x1) fun a132 =>
 ob (ldN false 1 a132 B) fun a133 =>
 ob (xbin PP .mul 3 a133 (shr (shr (shr x3)))) fun a134 =>
 mk (ob (xfld 2 x1) fun a135 =>
 ob (ldN false 1 a135 B) fun a136 =>
 ob (xbin PP .lss 3 a136 (iv 0)) fun a137 =>
 asB a137 fun a138 => br a138 (mk (ob (xbin PP .add 3 (shr (shr (shr x3))) (iv 4)) fun a139 =>
 ob (xbin PP .add 3 (shr (shr a134)) a139) fun a140 =>
 Z5z m0 x1 (shr a140) (gcB m0 [x1, (shr a140)] B)))
 (mk (ob (xfld 2 x1) fun a141 =>
 ob (ldN false 1 a141 B) fun a142 =>
 ob (xfld 1 x1) fun a143 =>
 ob (ldN false 1 a143 B) fun a144 =>
 ob (xbin PP .sub 3 a142 a144) fun a145 =>
 ob (xbin PP .add 3 (shr (shr (shr x3))) (iv 1)) fun a146 =>
 ob (xbin PP .mul 3 a145 a146) fun a147 =>
 ob (xbin PP .add 3 (shr (shr a134)) a147) fun a148 =>
 Z5z m0 x1 (shr a148) (gcB m0 [x1, (shr a148)] B)))))))
 (Z46 m0 x3 (gcB m0 [x3] B)))))
 (mk (ob (xbin PP .eql 3 b (iv 7)) fun a149 =>
 asB (shr a149) fun a150 => br a150 (asB (shr a149) fun a151 => br a151 (mk (ob (xbin PP .add 3 (shr x3) (iv 2)) fun a152 =>
 Z46 m0 (shr a152) (gcB m0 [(shr a152)] B)))
 (mk (ob (xbin PP .eql 3 b (iv 4)) fun a153 =>
 asB (shr a153) fun a154 => br a154 (mk (mk (ob (xfld 1 x1) fun a155 =>
 ob (ldN false 1 a155 B) fun a156 =>
 ob (xbin PP .mul 3 a156 (shr (shr (shr x3)))) fun a157 =>
 mk (ob (xfld 2 x1) fun a158 =>
 ob (ldN false 1 a158 B) fun a159 =>
 ob (xbin PP .lss 3 a159 (iv 0)) fun a160 =>
 asB a160 fun a161 => br a161 (mk (ob (xbin PP .add 3 (shr (shr (shr x3))) (iv 4)) fun a162 =>
 ob (xbin PP .add 3 (shr (shr a157)) a162) fun a163 =>
 Z5z m0 x1 (shr a163) (gcB m0 [x1, (shr a163)] B)))
 (mk (ob (xfld 2 x1) fun a164 =>
 ob (ldN false 1 a164 B) fun a165 =>
 ob (xfld 1 x1) fun a166 =>
 ob (ldN false 1 a166 B) fun a167 =>
 ob (xbin PP .sub 3 a165 a167) fun a168 =>
 ob (xbin PP .add 3 (shr (shr (shr x3))) (iv 1)) fun a169 =>
 ob (xbin PP .mul 3 a168 a169) fun a170 =>
 ob (xbin PP .add 3 (shr (shr a157)) a170) fun a171 =>
 Z5z m0 x1 (shr a171) (gcB m0 [x1, (shr a171)] B)))))))
 (Z46 m0 x3 (gcB m0 [x3] B)))))
 (mk (ob (xbin PP .eql 3 b (iv 8)) fun a172 =>
 asB (shr a172) fun a173 => br a173 (mk (ob (xbin PP .add 3 (shr x3) (iv 2)) fun a174 =>
 Z46 m0 (shr a174) (gcB m0 [(shr a174)] B)))
 (mk (ob (xbin PP .eql 3 b (iv 4)) fun a175 =>
 asB (shr a175) fun a176 => br a176 (mk (mk (ob (xfld 1 x1) fun a177 =>
 ob (ldN false 1 a177 B) fun a178 =>
 ob (xbin PP .mul 3 a178 (shr (shr (shr x3)))) fun a179 =>
 mk (ob (xfld 2 x1) fun a180 =>
 ob (ldN false 1 a180 B) fun a181 =>
 ob (xbin PP .lss 3 a181 (iv 0)) fun a182 =>
 asB a182 fun a183 => br a183 (mk (ob (xbin PP .add 3 (shr (shr (shr x3))) (iv 4)) fun a184 =>
 ob (xbin PP .add 3 (shr (shr a179)) a184) fun a185 =>
 Z5z m0 x1 (shr a185) (gcB m0 [x1, (shr a185)] B)))
 (mk (ob (xfld 2 x1) fun a186 =>
 ob (ldN false 1 a186 B) fun a187 =>
 ob (xfld 1 x1) fun a188 =>
 ob (ldN false 1 a188 B) fun a189 =>
 ob (xbin PP .sub 3 a187 a189) fun a190 =>
 ob (xbin PP .add 3 (shr (shr (shr x3))) (iv 1)) fun a191 =>
 ob (xbin PP .mul 3 a190 a191) fun a192 =>
 ob (xbin PP .add 3 (shr (shr a179)) a192) fun a193 =>
 Z5z m0 x1 (shr a193) (gcB m0 [x1, (shr a193)] B)))))))
 (Z46 m0 x3 (gcB m0 [x3] B)))))))))))))))))) := by kernel_rfl
theorem Zxk : Z46 m0 x3 B =
 mk (ob (Z7I PP false [(shr x3), (iv 1048576)]) fun a =>
 Z1z (shr a) B) := by kernel_rfl
theorem Zxj : Z5z m0 x1 x3 B =
 mk (ob (xfld 3 x1) fun a =>
 ob (ldN false 1 a B) fun b =>
 ob (xbin PP .eql 3 b (iv 2)) fun c =>
 asB c fun d => br d (mk (ob (xbin PP .add 3 (shr x3) (iv 2)) fun e =>
 Z46 m0 (shr e) (gcB m0 [(shr e)] B)))
 (Z46 m0 x3 (gcB m0 [x3] B))) := by kernel_rfl
theorem ZER : EE 11 [x0] B =
 (let m0 := B.length
 mk (bx x0 B fun a b =>
 mk (mk (ob (xfld 6 a) fun c =>
 ob (ldN false 1 c b) fun d =>
 ob (xlen PP 29 d) fun e =>
 Zma m0 a (iv 0) d e (iv 0) (gcB m0 [a, (iv 0), d, e, (iv 0)] b))))) := (E_eq PP XX HH _ _ _).trans (by kernel_rfl)
def ZDk := Z2B Tryd.f12
def Zt5 := l2 (l2 (l2 ZDk))
def Zpj := l1 (l1 (l2 (l1 (l2 (l2 ZDk)))))
def ZjZ := l2 (l2 Zpj)
def Zt4 := l2 (l2 (l1 (l1 ZjZ)))
def ZsX (m0 : Nat) : Kont := kret PP HH 12 Tryd.f12.results
def ZEX := kseq HH 12 m0 Zt5 (exec PP HH 12 m0 EE LL Zt5 (ZsX m0)) (ZsX m0)
def ZsY := kblk 0 (ZEX m0)
def Zph := kloop HH 12 m0 Zpj (LL 12 m0 Zpj (ZsY m0)) (ZsY m0)
def ZEY := kseq HH 12 m0 (l2 ZjZ) (exec PP HH 12 m0 EE LL (l2 ZjZ) (Zph m0)) (Zph m0)
def ZsZ := kblk 1 (ZEY m0)
def ZEZ := kseq HH 12 m0 Zt4 (exec PP HH 12 m0 EE LL Zt4 (ZsZ m0)) (ZsZ m0)
def Zmb := lp (LL 12 m0 Zpj (ZsY m0) [(3, x3), (6, x6), (7, x7), (8, x8)] B)
def Zt0 := exec PP HH 12 m0 EE LL ZjZ (Zph m0) [(3, x3), (6, x6), (7, x7), (8, x8)] B
def Zt3 := exec PP HH 12 m0 EE LL Zt5 (ZsX m0) [] B
def Zpi := exec PP HH 12 m0 EE LL (l1 (l2 (l1 (l2 (l1 (l1 ZjZ)))))) (ZEZ m0) [] B
def Zt1 := exec PP HH 12 m0 EE LL Zt4 (ZsZ m0) [(5, x5), (6, x6), (7, x7), (8, x8)] B
def Zt2 := exec PP HH 12 m0 EE LL (l2 ZjZ) (Zph m0) [(3, x3), (6, x6), (7, x7), (8, x8)] B
theorem Zzd : Zmb m0 x3 x6 x7 x8 B =
 mk (ob (xbin PP .lss 3 x8 x7) fun a =>
 asB a fun b => br b (Zt0 m0 x3 x6 x7 x8 (gcB m0 [x3, x6, x7, x8] B))
 (Zt3 m0 (gcB m0 [] B))) := lq_ (by kernel_rfl)
theorem Zze : Zt0 m0 x3 x6 x7 x8 B =
 mk (ob (xidx 2 x6 x8) fun a =>
 ob (ldN true 2 a B) fun b =>
 bz PP 47 B fun c d =>
 stN 2 c b d fun e =>
 mk (ob (ldN true 2 c e) fun f =>
 callS false EE 22 [f] e fun g h =>
 ob (xun PP .not g) fun i =>
 asB (shr i) fun j => br j (Zpi m0 (gcB m0 [] h))
 (ob (xfld 0 c) fun k =>
 ob (ldN false 1 k h) fun l =>
 ob (xbin PP .add 3 (shr x3) (iv 2)) fun n =>
 ob (xbin PP .lss 3 l n) fun o =>
 asB (shr o) fun p => br p (Zpi m0 (gcB m0 [] h))
 (Zt1 m0 c x6 x7 x8 (gcB m0 [c, x6, x7, x8] h))))) := by kernel_rfl
theorem Zzi : Zt3 m0 B =
 mk (Z1z (bv true) B) := by kernel_rfl
theorem Zzf : Zpi m0 B =
 mk (Z1z (bv false) B) := by kernel_rfl
theorem Zzg : Zt1 m0 x5 x6 x7 x8 B =
 mk (ob (xfld 1 x5) fun a =>
 ob (ldN false 1 a B) fun b =>
 Zt2 m0 (shr b) x6 x7 x8 (gcB m0 [(shr b), x6, x7, x8] B)) := by kernel_rfl
theorem Zzh : Zt2 m0 x3 x6 x7 x8 B =
 mk (ob (xbin PP .add 3 x8 (iv 1)) fun a =>
 Zmb m0 x3 x6 x7 (shr a) (gcB m0 [x3, x6, x7, (shr a)] B)) := by kernel_rfl
theorem ZEW : EE 12 [x0] B =
 (let m0 := B.length
 mk (mk (mk (ob (xlen PP 28 (shr x0)) fun a =>
 Zmb m0 (iv (-2)) (shr x0) a (iv 0) (gcB m0 [(iv (-2)), (shr x0), a, (iv 0)] B))))) := (E_eq PP XX HH _ _ _).trans (by kernel_rfl)
def ZDl := Z2B Tryd.f13
def Zta := l2 (l2 (l2 ZDl))
def Zpl := l1 (l1 (l2 (l1 (l2 (l2 ZDl)))))
def Zzo := l2 (l2 Zpl)
def Zt6 (m0 : Nat) : Kont := kret PP HH 13 Tryd.f13.results
def ZF1 := kseq HH 13 m0 Zta (exec PP HH 13 m0 EE LL Zta (Zt6 m0)) (Zt6 m0)
def Zt7 := kblk 0 (ZF1 m0)
def Zzj := kloop HH 13 m0 Zpl (LL 13 m0 Zpl (Zt7 m0)) (Zt7 m0)
def Zmc := lp (LL 13 m0 Zpl (Zt7 m0) [(3, x3), (6, x6), (7, x7), (8, x8)] B)
def Zt8 := exec PP HH 13 m0 EE LL Zzo (Zzj m0) [(3, x3), (6, x6), (7, x7), (8, x8)] B
def Zt9 := exec PP HH 13 m0 EE LL Zta (Zt6 m0) [(3, x3)] B
def Zpk := exec PP HH 13 m0 EE LL (l2 Zzo) (Zzj m0) [(3, x3), (6, x6), (7, x7), (8, x8)] B
theorem Zzk : Zmc m0 x3 x6 x7 x8 B =
 mk (ob (xbin PP .lss 3 x8 x7) fun a =>
 asB a fun b => br b (Zt8 m0 x3 x6 x7 x8 (gcB m0 [x3, x6, x7, x8] B))
 (Zt9 m0 x3 (gcB m0 [x3] B))) := lq_ (by kernel_rfl)
theorem Zzl : Zt8 m0 x3 x6 x7 x8 B =
 mk (ob (xidx 6 x6 x8) fun a =>
 ob (ldN true 6 a B) fun b =>
 bz PP 40 B fun c d =>
 stN 6 c b d fun e =>
 mk (ob (xfld 0 c) fun f =>
 ob (ldN false 1 f e) fun g =>
 ob (xbin PP .eql 3 g (iv 10)) fun h =>
 asB h fun i => br i (mk (ob (xbin PP .add 3 (shr x3) (iv 1)) fun j =>
 Zpk m0 (shr j) x6 x7 x8 (gcB m0 [(shr j), x6, x7, x8] e)))
 (Zpk m0 x3 x6 x7 x8 (gcB m0 [x3, x6, x7, x8] e)))) := by kernel_rfl
theorem Zzn : Zt9 m0 x3 B =
 mk (Z1z (shr (shr x3)) B) := by kernel_rfl
theorem Zzm : Zpk m0 x3 x6 x7 x8 B =
 mk (ob (xbin PP .add 3 x8 (iv 1)) fun a =>
 Zmc m0 x3 x6 x7 (shr a) (gcB m0 [x3, x6, x7, (shr a)] B)) := by kernel_rfl
theorem ZF0 : EE 13 [x0] B =
 (let m0 := B.length
 mk (mk (mk (ob (xlen PP 23 (shr x0)) fun a =>
 Zmc m0 (iv 0) (shr x0) a (iv 0) (gcB m0 [(iv 0), (shr x0), a, (iv 0)] B))))) := (E_eq PP XX HH _ _ _).trans (by kernel_rfl)
def ZHf := Z2B Tryd.f14
def Ztf := l2 (l2 ZHf)
def Ztg := l2 (l2 Ztf)
def Zgu := l1 (l1 (l2 (l1 (l2 Ztf))))
def Z5b (r0 r1 : AV) (B : List Row) : Option Res :=
 ob (ob (some r0) fun v => ob (ob (some r1) fun v => ob (some []) fun vs => some (v :: vs)) fun vs => some (v :: vs)) fun vs => some ((nrmA (match vs with | [v] => v | vs => Z97 (vs.map shr))), B)
def Zpm (m0 : Nat) : Kont := kret PP HH 14 Tryd.f14.results
def ZF3 := kseq HH 14 m0 Ztg (exec PP HH 14 m0 EE LL Ztg (Zpm m0)) (Zpm m0)
def Ztb := kblk 0 (ZF3 m0)
def Zpn := kloop HH 14 m0 Zgu (LL 14 m0 Zgu (Ztb m0)) (Ztb m0)
def ZF4 := kseq HH 14 m0 (l2 (l2 Zgu)) (exec PP HH 14 m0 EE LL (l2 (l2 Zgu)) (Zpn m0)) (Zpn m0)
def ZF5 := kblk 1 (ZF4 m0)
def Ztc := exec PP HH 14 m0 EE LL Ztf (Zpm m0) [(0, x0)] B
def Zmd := lp (LL 14 m0 Zgu (Ztb m0) [(0, x0), (4, x4), (5, x5)] B)
def Ztd := exec PP HH 14 m0 EE LL (l2 Zgu) (Zpn m0) [(0, x0), (4, x4), (5, x5)] B
def Zte := exec PP HH 14 m0 EE LL Ztg (Zpm m0) [(4, x4)] B
def Zpp := exec PP HH 14 m0 EE LL (l1 (l2 (l1 (l1 (l2 Zgu))))) (ZF5 m0) [(0, x0), (4, x4), (5, x5)] B
def Zpo := exec PP HH 14 m0 EE LL (l2 (l2 Zgu)) (Zpn m0) [(0, x0), (4, x4), (5, x5)] B
theorem Zzq : Ztc m0 x0 B =
 mk (callS true EE 23 [x0] B fun a b =>
 mk (Zmd m0 (shr x0) a (kv .i32 65) (gcB m0 [(shr x0), a, (kv .i32 65)] b))) := by kernel_rfl
theorem Zzp : Zmd m0 x0 x4 x5 B =
 mk (ob (xbin PP .lss 21 (shr x5) (kv .i32 91)) fun a =>
 asB a fun b => br b (Ztd m0 x0 x4 x5 (gcB m0 [x0, x4, x5] B))
 (Zte m0 x4 (gcB m0 [x4] B))) := lq_ (by kernel_rfl)
theorem Zzs : Ztd m0 x0 x4 x5 B =
 mk (ob (xcnv PP 21 3 (shr x5)) fun a =>
 callS false EE 24 [(shr x0), a] B fun b c =>
 asB (shr b) fun d => br d (Zpp m0 x0 x4 x5 (gcB m0 [x0, x4, x5] c))
 (ob (xbin PP .add 21 (shr x5) (kv .i32 32)) fun e =>
 ob (xcnv PP 21 3 e) fun f =>
 callS false EE 24 [(shr x0), f] c fun g h =>
 asB (shr g) fun i => br i (Zpp m0 x0 x4 x5 (gcB m0 [x0, x4, x5] h))
 (Zpo m0 x0 x4 x5 (gcB m0 [x0, x4, x5] h)))) := by kernel_rfl
theorem Zzu : Zte m0 x4 B =
 mk (callS false EE 25 [(shr x4)] B fun a b =>
 Z5b (shr a) (iv 0) b) := by kernel_rfl
theorem Zzt : Zpp m0 x0 x4 x5 B =
 mk (ob (xcnv PP 21 3 (shr x5)) fun a =>
 ob (xcnv PP 21 3 (shr x5)) fun b =>
 ob (Z1E PP 47 [(0, a), (1, b)]) fun c =>
 ob (xbin PP .add 21 (shr x5) (kv .i32 32)) fun d =>
 ob (xcnv PP 21 3 d) fun e =>
 ob (xbin PP .add 21 (shr x5) (kv .i32 32)) fun f =>
 ob (xcnv PP 21 3 f) fun g =>
 ob (Z1E PP 47 [(0, e), (1, g)]) fun h =>
 ob (xlit PP 28 2 [(0, c), (1, h)]) fun i =>
 ob (xapp 2 x4 i) fun j =>
 Zpo m0 x0 j x5 (gcB m0 [x0, j, x5] B)) := by kernel_rfl
theorem Zzr : Zpo m0 x0 x4 x5 B =
 mk (ob (xbin PP .add 21 (shr x5) (kv .i32 1)) fun a =>
 Zmd m0 x0 x4 (shr a) (gcB m0 [x0, x4, (shr a)] B)) := by kernel_rfl
theorem ZF2 : EE 14 [x0] B =
 (let m0 := B.length
 mk (mk (callS false EE 12 [(shr x0)] B fun a b =>
 ob (xun PP .not a) fun c =>
 asB c fun d => br d (mk (Z5b nilA (iv 10) b))
 (Ztc m0 x0 (gcB m0 [x0] b))))) := (E_eq PP XX HH _ _ _).trans (by kernel_rfl)
def ZHg := Z2B Tryd.f15
def Zmf := l2 (l2 ZHg)
def Zpr := l1 (l1 (l2 (l1 Zmf)))
def ZzB := l2 (l2 Zpr)
def Zpq (m0 : Nat) : Kont := kret PP HH 15 Tryd.f15.results
def ZF7 := kseq HH 15 m0 (l2 Zmf) (exec PP HH 15 m0 EE LL (l2 Zmf) (Zpq m0)) (Zpq m0)
def Zth := kblk 0 (ZF7 m0)
def Zzv := kloop HH 15 m0 Zpr (LL 15 m0 Zpr (Zth m0)) (Zth m0)
def Zti := exec PP HH 15 m0 EE LL Zmf (Zpq m0) [(0, x0), (1, x1)] B
def Zme := lp (LL 15 m0 Zpr (Zth m0) [(1, x1), (12, x12), (13, x13), (14, x14)] B)
def Ztj := exec PP HH 15 m0 EE LL ZzB (Zzv m0) [(1, x1), (12, x12), (13, x13), (14, x14)] B
def Ztl := exec PP HH 15 m0 EE LL (l2 Zmf) (Zpq m0) [] B
def Ztk := exec PP HH 15 m0 EE LL (l2 ZzB) (Zzv m0) [(1, x1), (12, x12), (13, x13), (14, x14)] B
theorem Zzx : Zti m0 x0 x1 B =
 mk (ob (xlen PP 28 (shr x0)) fun a =>
 Zme m0 x1 (shr x0) a (iv 0) (gcB m0 [x1, (shr x0), a, (iv 0)] B)) := by kernel_rfl
theorem Zzw : Zme m0 x1 x12 x13 x14 B =
 mk (ob (xbin PP .lss 3 x14 x13) fun a =>
 asB a fun b => br b (Ztj m0 x1 x12 x13 x14 (gcB m0 [x1, x12, x13, x14] B))
 (Ztl m0 (gcB m0 [] B))) := lq_ (by kernel_rfl)
theorem Zzy : Ztj m0 x1 x12 x13 x14 B =
 mk (ob (xidx 2 x12 x14) fun a =>
 ob (ldN true 2 a B) fun b =>
 bz PP 47 B fun c d =>
 stN 2 c b d fun e =>
 mk (ob (ldN true 2 c e) fun f =>
 ob (xidx 2 (shr x1) (shr (shr (shr x14)))) fun g =>
 ob (ldN true 2 g e) fun h =>
 ob (xbin PP .neq 47 f h) fun i =>
 asB i fun j => br j (mk (Z1z (bv false) e))
 (Ztk m0 x1 x12 x13 x14 (gcB m0 [x1, x12, x13, x14] e)))) := by kernel_rfl
theorem ZzA : Ztl m0 B =
 mk (Z1z (bv true) B) := by kernel_rfl
theorem Zzz : Ztk m0 x1 x12 x13 x14 B =
 mk (ob (xbin PP .add 3 x14 (iv 1)) fun a =>
 Zme m0 x1 x12 x13 (shr a) (gcB m0 [x1, x12, x13, (shr a)] B)) := by kernel_rfl
theorem ZF6 : EE 15 [x0, x1] B =
 (let m0 := B.length
 mk (mk (ob (xlen PP 28 (shr x0)) fun a =>
 ob (xlen PP 28 (shr x1)) fun b =>
 ob (xbin PP .neq 3 a b) fun c =>
 asB c fun d => br d (mk (Z1z (bv false) B))
 (Zti m0 x0 x1 (gcB m0 [x0, x1] B))))) := (E_eq PP XX HH _ _ _).trans (by kernel_rfl)
theorem ZF8 : EE 16 [x0] B =
 (let m0 := B.length
 mk (mk (ob (xbin PP .quo 3 (shr x0) (iv 16)) fun a =>
 ob (xbin PP .quo 3 (shr x0) (iv 16)) fun b =>
 ob (xbin PP .add 3 b (iv 1)) fun c =>
 ob (xslS (.p (.v (.string (ByteArray.mk #[48, 49, 50, 51, 52, 53, 54, 55, 56, 57, 97, 98, 99, 100, 101, 102])))) (some a) (some c)) fun d =>
 ob (xbin PP .add 9 (.p (.v (.string (ByteArray.mk #[92, 120])))) d) fun e =>
 ob (xbin PP .rem 3 (shr x0) (iv 16)) fun f =>
 ob (xbin PP .rem 3 (shr x0) (iv 16)) fun g =>
 ob (xbin PP .add 3 g (iv 1)) fun h =>
 ob (xslS (.p (.v (.string (ByteArray.mk #[48, 49, 50, 51, 52, 53, 54, 55, 56, 57, 97, 98, 99, 100, 101, 102])))) (some f) (some h)) fun i =>
 ob (xbin PP .add 9 e i) fun j =>
 Z1z (shr j) B))) := (E_eq PP XX HH _ _ _).trans (by kernel_rfl)
def ZHh := Z2B Tryd.f17
def ZFa (m0 : Nat) : Kont := kret PP HH 17 Tryd.f17.results
def Ztm := exec PP HH 17 m0 EE LL (l2 (l2 ZHh)) (ZFa m0) [(0, x0)] B
theorem ZzC : Ztm m0 x0 B =
 mk (callS false EE 26 [(shr x0)] B fun a b =>
 Z5b (shr a) (iv 0) b) := by kernel_rfl
theorem ZF9 : EE 17 [x0] B =
 (let m0 := B.length
 mk (mk (callS false EE 12 [(shr x0)] B fun a b =>
 ob (xun PP .not a) fun c =>
 asB c fun d => br d (mk (Z5b nilA (iv 10) b))
 (Ztm m0 x0 (gcB m0 [x0] b))))) := (E_eq PP XX HH _ _ _).trans (by kernel_rfl)
def ZHi := Z2B Tryd.f18
def ZFc (m0 : Nat) : Kont := kret PP HH 18 Tryd.f18.results
def Ztn := exec PP HH 18 m0 EE LL (l2 (l2 ZHi)) (ZFc m0) [(1, x1)] B
theorem ZzD : Ztn m0 x1 B =
 mk (ob (xfld 8 x1) fun a =>
 ob (ldN false 1 a B) fun b =>
 ob (Z1E PP 69 [(1, b)]) fun c =>
 bxM [(0, 6)] c B fun d e =>
 mk (ob (Z1E PP 40 [(0, (iv 4))]) fun f =>
 callS false EE 28 [(shr (shr d)), f] e fun g h =>
 mk (ob (xfld 0 x1) fun i =>
 ob (ldN true 7 i h) fun j =>
 callS false EE 29 [(shr (shr d)), j] h fun k l =>
 mk (ob (Z1E PP 40 [(0, (iv 4)), (1, (iv 1))]) fun n =>
 callS false EE 28 [(shr (shr d)), n] l fun o p =>
 mk (ob (Z1E PP 40 [(0, (iv 0))]) fun q =>
 callS false EE 28 [(shr (shr d)), q] p fun r s =>
 mk (ob (Z1F (shr (shr d))) fun t =>
 ob (xfld 0 t) fun u =>
 ldFz u s fun v w =>
 Z5b (shr v) (iv 0) w)))))) := by kernel_rfl
theorem ZFb : EE 18 [x0] B =
 (let m0 := B.length
 mk (bx x0 B fun a b =>
 mk (ob (ldN true 9 a b) fun c =>
 callS false EE 27 [c] b fun d e =>
 mk (ob (xbin PP .neq 24 (shr (shr d)) (iv 0)) fun f =>
 asB f fun g => br g (mk (Z5b nilA (shr (shr (shr d))) e))
 (Ztn m0 a (gcB m0 [a] e)))))) := (E_eq PP XX HH _ _ _).trans (by kernel_rfl)
def ZDm := Z2B Tryd.f19
def Ztq := l2 (l2 ZDm)
def Zto (m0 : Nat) : Kont := kret PP HH 19 Tryd.f19.results
def ZFe := kseq HH 19 m0 Ztq (exec PP HH 19 m0 EE LL Ztq (Zto m0)) (Zto m0)
def Zps := exec PP HH 19 m0 EE LL (l1 (l2 (l1 (l2 ZDm)))) (ZFe m0) [] B
def Ztp := exec PP HH 19 m0 EE LL Ztq (Zto m0) [(0, x0), (1, x1)] B
theorem ZzE : Zps m0 B =
 mk (Z1z (bv false) B) := by kernel_rfl
theorem ZzF : Ztp m0 x0 x1 B =
 mk (ob (Z1F (shr x0)) fun a =>
 ob (xfld 1 a) fun b =>
 ob (ldN false 1 b B) fun c =>
 ob (xlen PP 9 (shr x1)) fun d =>
 ob (xbin PP .add 3 c d) fun e =>
 ob (Z1F (shr x0)) fun f =>
 ob (xfld 1 f) fun g =>
 stN 1 g e B fun h =>
 mk (Z1z (bv true) h)) := by kernel_rfl
theorem ZFd : EE 19 [x0, x1] B =
 (let m0 := B.length
 mk (mk (ob (Z1F (shr x0)) fun a =>
 ob (xfld 0 a) fun b =>
 ob (ldN false 1 b B) fun c =>
 ob (xlen PP 54 c) fun d =>
 ob (Z1F (shr x0)) fun e =>
 ob (xfld 1 e) fun f =>
 ob (ldN false 1 f B) fun g =>
 ob (xbin PP .sub 3 d g) fun h =>
 ob (xlen PP 9 (shr x1)) fun i =>
 ob (xbin PP .lss 3 h i) fun j =>
 asB (shr j) fun k => br k (Zps m0 (gcB m0 [] B))
 (ob (Z1F (shr x0)) fun l =>
 ob (xfld 0 l) fun n =>
 ob (ldN false 1 n B) fun o =>
 ob (Z1F (shr x0)) fun p =>
 ob (xfld 1 p) fun q =>
 ob (ldN false 1 q B) fun r =>
 ob (Z1F (shr x0)) fun s =>
 ob (xfld 1 s) fun t =>
 ob (ldN false 1 t B) fun u =>
 ob (xlen PP 9 (shr x1)) fun v =>
 ob (xbin PP .add 3 u v) fun w =>
 ob (xsl 1 o (some r) (some w) none) fun x =>
 ob (xcnv PP 54 9 x) fun y =>
 ob (xbin PP .neq 9 y (shr x1)) fun z =>
 asB (shr z) fun A => br A (Zps m0 (gcB m0 [] B))
 (Ztp m0 x0 x1 (gcB m0 [x0, x1] B)))))) := (E_eq PP XX HH _ _ _).trans (by kernel_rfl)
def ZDn := Z2B Tryd.f20
def Ztv := l2 (l2 (l2 ZDn))
def Zpt := l1 (l1 (l1 (l2 (l2 ZDn))))
def Z7F (r0 : AV) (B : List Row) : Option Res :=
 ob (ob (ldN true 7 r0 B) fun v => ob (some []) fun vs => some (v :: vs)) fun vs => some ((nrmA (match vs with | [v] => v | vs => Z97 (vs.map shr))), B)
def Ztr (m0 : Nat) : Kont := kret PP HH 20 Tryd.f20.results
def ZFg := kseq HH 20 m0 Ztv (exec PP HH 20 m0 EE LL Ztv (Ztr m0)) (Ztr m0)
def Zts := kblk 0 (ZFg m0)
def ZFh := kloop HH 20 m0 Zpt (LL 20 m0 Zpt (Zts m0)) (Zts m0)
def Zmg := lp (LL 20 m0 Zpt (Zts m0) [(0, x0), (2, x2), (3, x3)] B)
def Ztt := exec PP HH 20 m0 EE LL (l2 Zpt) (ZFh m0) [(0, x0), (2, x2), (3, x3)] B
def Ztu := exec PP HH 20 m0 EE LL Ztv (Ztr m0) [(2, x2), (3, x3)] B
theorem ZzG : Zmg m0 x0 x2 x3 B =
 mk (callS false EE 19 [(shr x0), (.p (.v (.string (ByteArray.mk #[124]))))] B fun a b =>
 asB a fun c => br c (Ztt m0 x0 x2 x3 (gcB m0 [x0, x2, x3] b))
 (Ztu m0 x2 x3 (gcB m0 [x2, x3] b))) := lq_ (by kernel_rfl)
theorem ZzH : Ztt m0 x0 x2 x3 B =
 mk (callS false EE 30 [(shr x0)] B fun a b =>
 ob (xlit PP 29 1 [(0, a)]) fun c =>
 ob (xapp 7 x3 c) fun d =>
 Zmg m0 x0 x2 d (gcB m0 [x0, x2, d] b)) := by kernel_rfl
theorem ZzI : Ztu m0 x2 x3 B =
 mk (callS false EE 31 [(iv 3), (shr x3)] B fun a b =>
 stN 7 x2 a b fun c =>
 Z7F x2 c) := by kernel_rfl
theorem ZFf : EE 20 [x0] B =
 (let m0 := B.length
 mk (bz PP 31 B fun a b =>
 mk (callS false EE 30 [(shr x0)] b fun c d =>
 ob (xlit PP 29 1 [(0, c)]) fun e =>
 Zmg m0 x0 a e (gcB m0 [x0, a, e] d)))) := (E_eq PP XX HH _ _ _).trans (by kernel_rfl)
def ZHj := Z2B Tryd.f21
def Z4Q (B : List Row) : Option Res :=
 ob (some []) fun vs => some ((nrmA (match vs with | [v] => v | vs => Z97 (vs.map shr))), B)
def ZFj (m0 : Nat) : Kont := kret PP HH 21 Tryd.f21.results
def Zpu := exec PP HH 21 m0 EE LL (l2 ZHj) (ZFj m0) [(0, x0)] B
theorem ZzJ : Zpu m0 x0 B =
 mk (ob (Z1F (shr x0)) fun a =>
 ob (xfld 0 a) fun b =>
 ob (ldN false 1 b B) fun c =>
 ob (xlen PP 54 c) fun d =>
 ob (Z1F (shr x0)) fun e =>
 ob (xfld 1 e) fun f =>
 stN 1 f d B fun g =>
 Z4Q g) := by kernel_rfl
theorem ZFi : EE 21 [x0, x1, x2] B =
 (let m0 := B.length
 mk (ob (Z1F (shr x0)) fun a =>
 ob (xfld 5 a) fun b =>
 ob (xfld 0 b) fun c =>
 ob (ldN false 1 c B) fun d =>
 ob (xbin PP .eql 24 d (iv 0)) fun e =>
 asB e fun f => br f (mk (ob (Z1E PP 35 [(0, (shr x1)), (1, (shr x2))]) fun g =>
 ob (Z1F (shr x0)) fun h =>
 ob (xfld 5 h) fun i =>
 stN 2 i g B fun j =>
 Zpu m0 x0 (gcB m0 [x0] j)))
 (Zpu m0 x0 (gcB m0 [x0] B)))) := (E_eq PP XX HH _ _ _).trans (by kernel_rfl)
theorem ZFk : EE 22 [x0] B =
 (let m0 := B.length
 mk (bx x0 B fun a b =>
 mk (ob (xfld 0 a) fun c =>
 ob (ldN false 1 c b) fun d =>
 ob (xbin PP .geq 3 d (iv 0)) fun e =>
 asB (shr e) fun f => br f (ob (xfld 0 a) fun g =>
 ob (ldN false 1 g b) fun h =>
 ob (xfld 1 a) fun i =>
 ob (ldN false 1 i b) fun j =>
 ob (xbin PP .leq 3 h j) fun k =>
 asB (shr (shr k)) fun l => br l (ob (xfld 1 a) fun n =>
 ob (ldN false 1 n b) fun o =>
 ob (xbin PP .leq 3 o (iv 1114367)) fun p =>
 Z1z (shr (shr p)) b)
 (Z1z (bv false) b))
 (Z1z (bv false) b)))) := (E_eq PP XX HH _ _ _).trans (by kernel_rfl)
theorem ZFl : EE 24 [x0, x1] B =
 (let m0 := B.length
 mk (bx x1 B fun a b =>
 mk (callS false EE 32 [(shr x0), (.clo 33 ([].map nrmA) ([a].map nrmA))] b fun c d =>
 Z1z (shr c) d))) := (E_eq PP XX HH _ _ _).trans (by kernel_rfl)
def ZDo := Z2B Tryd.f26
def Zpz := l2 (l2 (l2 (l2 ZDo)))
def Zpy := l1 (l1 (l2 (l1 (l2 (l2 (l2 ZDo))))))
def Zmi := l2 (l2 Zpy)
def Zpv (m0 : Nat) : Kont := kret PP HH 26 Tryd.f26.results
def ZFn := kseq HH 26 m0 Zpz (exec PP HH 26 m0 EE LL Zpz (Zpv m0)) (Zpv m0)
def Ztw := kblk 0 (ZFn m0)
def Zpw := kloop HH 26 m0 Zpy (LL 26 m0 Zpy (Ztw m0)) (Ztw m0)
def ZFo := kseq HH 26 m0 (l2 Zmi) (exec PP HH 26 m0 EE LL (l2 Zmi) (Zpw m0)) (Zpw m0)
def ZFp := kblk 1 (ZFo m0)
def Zmh := lp (LL 26 m0 Zpy (Ztw m0) [(3, x3), (4, x4), (7, x7), (8, x8), (9, x9)] B)
def Ztx := exec PP HH 26 m0 EE LL Zmi (Zpw m0) [(3, x3), (4, x4), (7, x7), (8, x8), (9, x9)] B
def Zrj := exec PP HH 26 m0 EE LL Zpz (Zpv m0) [(3, x3), (4, x4)] B
def Zpx := exec PP HH 26 m0 EE LL (l2 (l2 (l1 (l1 Zmi)))) (ZFp m0) [(3, x3), (6, x6), (7, x7), (8, x8), (9, x9)] B
def Znv := exec PP HH 26 m0 EE LL (l2 Zpz) (Zpv m0) [(3, x3)] B
def Zty := exec PP HH 26 m0 EE LL (l2 Zmi) (Zpw m0) [(3, x3), (4, x4), (7, x7), (8, x8), (9, x9)] B
theorem ZzK : Zmh m0 x3 x4 x7 x8 x9 B =
 mk (ob (xbin PP .lss 3 x9 x8) fun a =>
 asB a fun b => br b (Ztx m0 x3 x4 x7 x8 x9 (gcB m0 [x3, x4, x7, x8, x9] B))
 (Zrj m0 x3 x4 (gcB m0 [x3, x4] B))) := lq_ (by kernel_rfl)
theorem ZzL : Ztx m0 x3 x4 x7 x8 x9 B =
 mk (ob (xidx 2 x7 x9) fun a =>
 ob (ldN true 2 a B) fun b =>
 bz PP 47 B fun c d =>
 stN 2 c b d fun e =>
 mk (ob (xfld 0 c) fun f =>
 ob (ldN false 1 f e) fun g =>
 ob (xbin PP .lss 3 (shr x4) g) fun h =>
 asB h fun i => br i (mk (ob (xfld 0 c) fun j =>
 ob (ldN false 1 j e) fun k =>
 ob (xbin PP .sub 3 k (iv 1)) fun l =>
 ob (Z1E PP 47 [(0, (shr x4)), (1, l)]) fun n =>
 ob (xlit PP 28 1 [(0, n)]) fun o =>
 ob (xapp 2 x3 o) fun p =>
 Zpx m0 p c x7 x8 x9 (gcB m0 [p, c, x7, x8, x9] e)))
 (Zpx m0 x3 c x7 x8 x9 (gcB m0 [x3, c, x7, x8, x9] e)))) := by kernel_rfl
theorem Zxl : Zrj m0 x3 x4 B =
 mk (ob (xbin PP .leq 3 (shr x4) (iv 1114367)) fun a =>
 asB a fun b => br b (mk (ob (Z1E PP 47 [(0, (shr x4)), (1, (iv 1114367))]) fun c =>
 ob (xlit PP 28 1 [(0, c)]) fun d =>
 ob (xapp 2 x3 d) fun e =>
 Znv m0 e (gcB m0 [e] B)))
 (Znv m0 x3 (gcB m0 [x3] B))) := by kernel_rfl
theorem ZzM : Zpx m0 x3 x6 x7 x8 x9 B =
 mk (ob (xfld 1 x6) fun a =>
 ob (ldN false 1 a B) fun b =>
 ob (xbin PP .add 3 b (iv 1)) fun c =>
 Zty m0 x3 (shr c) x7 x8 x9 (gcB m0 [x3, (shr c), x7, x8, x9] B)) := by kernel_rfl
theorem Zxm : Znv m0 x3 B =
 mk (Z1z (shr (shr x3)) B) := by kernel_rfl
theorem ZzN : Zty m0 x3 x4 x7 x8 x9 B =
 mk (ob (xbin PP .add 3 x9 (iv 1)) fun a =>
 Zmh m0 x3 x4 x7 x8 (shr a) (gcB m0 [x3, x4, x7, x8, (shr a)] B)) := by kernel_rfl
theorem ZFm : EE 26 [x0] B =
 (let m0 := B.length
 mk (mk (mk (mk (ob (xlen PP 28 (shr x0)) fun a =>
 Zmh m0 nilA (iv 0) (shr x0) a (iv 0) (gcB m0 [nilA, (iv 0), (shr x0), a, (iv 0)] B)))))) := (E_eq PP XX HH _ _ _).trans (by kernel_rfl)
def ZHk := Z2B Tryd.f27
def ZFr (m0 : Nat) : Kont := kret PP HH 27 Tryd.f27.results
def Ztz := exec PP HH 27 m0 EE LL (l2 (l2 ZHk)) (ZFr m0) [] B
theorem ZzO : Ztz m0 B =
 mk (Z1z (iv 0) B) := by kernel_rfl
theorem ZFq : EE 27 [x0] B =
 (let m0 := B.length
 mk (bx x0 B fun a b =>
 mk (ob (xfld 0 a) fun c =>
 ob (ldN true 7 c b) fun d =>
 callS false EE 38 [d] b fun e f =>
 ob (xun PP .not e) fun g =>
 asB (shr g) fun h => br h (mk (Z1z (iv 27) f))
 (mk (ob (xfld 0 a) fun i =>
 ob (ldN true 7 i f) fun j =>
 callS false EE 11 [j] f fun k l =>
 ob (xbin PP .add 3 k (iv 3)) fun n =>
 ob (xbin PP .gtr 3 n (iv 2000)) fun o =>
 asB (shr o) fun p => br p (mk (Z1z (iv 28) l))
 (Ztz m0 (gcB m0 [] l))))))) := (E_eq PP XX HH _ _ _).trans (by kernel_rfl)
theorem ZFs : EE 28 [x0, x1] B =
 (let m0 := B.length
 mk (bx x1 B fun a b =>
 mk (ob (Z1F (shr x0)) fun c =>
 ob (xfld 0 c) fun d =>
 ldOwn d b fun e f =>
 ob (ldN true 6 a f) fun g =>
 ob (xlit PP 23 1 [(0, g)]) fun h =>
 ob (ZnQ 6 e h) fun i =>
 ob (Z1F (shr x0)) fun j =>
 ob (xfld 0 j) fun k =>
 stN 1 k i f fun l =>
 grd (Zbr d a) (mk (ob (Z1F (shr x0)) fun n =>
 ob (xfld 0 n) fun o =>
 ob (ldN false 1 o l) fun p =>
 ob (xlen PP 23 p) fun q =>
 ob (xbin PP .sub 3 q (iv 1)) fun r =>
 Z1z (shr r) l))))) := (E_eq PP XX HH _ _ _).trans (by kernel_rfl)
def Zst := Z2B Tryd.f29
def ZpC := l1 (l1 (l2 (l1 (l2 (l2 (l2 (l1 (l2 (l2 Zst)))))))))
def ZFu (m0 : Nat) : Kont := kret PP HH 29 Tryd.f29.results
def ZpA := kblk 0 (ZFu m0)
def ZtA := kblk 1 (ZpA m0)
def ZFv := kloop HH 29 m0 ZpC (LL 29 m0 ZpC (ZtA m0)) (ZtA m0)
def ZpB := exec PP HH 29 m0 EE LL (l2 (l2 (l1 (l2 (l1 (l2 (l2 Zst))))))) (ZpA m0) [(2, x2), (4, x4)] B
def Zk0 := lp (LL 29 m0 ZpC (ZtA m0) [(2, x2), (36, x36), (37, x37), (38, x38)] B)
def Znw := exec PP HH 29 m0 EE LL (l2 (l2 (l1 (l2 (l2 (l2 (l2 (l2 (l2 (l2 (l2 (l2 (l2 (l2 (l1 (l2 (l2 Zst))))))))))))))))) (ZpA m0) [(2, x2), (7, x7)] B
def Znx := exec PP HH 29 m0 EE LL (l2 (l2 (l1 (l2 (l2 (l2 (l2 (l2 (l2 (l2 (l2 (l2 (l2 (l2 (l2 (l2 (l1 (l2 (l2 Zst))))))))))))))))))) (ZpA m0) [(2, x2), (3, x3), (8, x8)] B
def Zrk := exec PP HH 29 m0 EE LL (l2 (l2 ZpC)) (ZFv m0) [(2, x2), (36, x36), (37, x37), (38, x38)] B
theorem ZzP : ZpB m0 x2 x4 B =
 mk (callS false EE 39 [(shr x4), nilA] B fun a b =>
 ob (xext 0 (shr a)) fun c =>
 ob (xext 1 (shr a)) fun d =>
 mk (ob (ldN false 1 x2 b) fun e =>
 ob (Z1E PP 40 [(0, (iv 1)), (5, (shr (shr (shr c))))]) fun f =>
 callS false EE 28 [e, f] b fun g h =>
 Z4Q h)) := by kernel_rfl
theorem Zxn : Zk0 m0 x2 x36 x37 x38 B =
 mk (ob (xbin PP .lss 3 x38 x37) fun a =>
 asB a fun b => br b (Zrk m0 x2 x36 x37 x38 (gcB m0 [x2, x36, x37, x38] B))
 (Z4Q B)) := lq_ (by kernel_rfl)
theorem Zxp : Znw m0 x2 x7 B =
 mk (ob (ldN false 1 x2 B) fun a =>
 ob (ldN true 6 x7 B) fun b =>
 callS false EE 28 [a, b] B fun c d =>
 Z4Q d) := by kernel_rfl
theorem Zxq : Znx m0 x2 x3 x8 B =
 mk (ob (ldN false 1 x2 B) fun a =>
 ob (ldN true 6 x8 B) fun b =>
 callS false EE 41 [a, b, (.clo 45 ([].map nrmA) ([x2, x3].map nrmA))] B fun c d =>
 Z4Q d) := by kernel_rfl
theorem Zxo : Zrk m0 x2 x36 x37 x38 B =
 mk (ob (xidx 7 x36 x38) fun a =>
 ob (ldN true 7 a B) fun b =>
 bz PP 31 B fun c d =>
 stN 7 c b d fun e =>
 mk (ob (ldN false 1 x2 e) fun f =>
 ob (ldN true 7 c e) fun g =>
 callS false EE 29 [f, g] e fun h i =>
 mk (ob (xbin PP .add 3 x38 (iv 1)) fun j =>
 Zk0 m0 x2 x36 x37 (shr j) (gcB m0 [x2, x36, x37, (shr j)] i)))) := by kernel_rfl
theorem ZFt : EE 29 [x0, x1] B =
 (let m0 := B.length
 mk (bx x0 B fun a b =>
 bx x1 b fun c d =>
 mk (ob (xfld 0 c) fun e =>
 ob (ldN false 1 e d) fun f =>
 mk (ob (xbin PP .eql 3 f (iv 1)) fun g =>
 asB (shr g) fun h => br h (mk (ob (xfld 5 c) fun i =>
 ob (ldN false 1 i d) fun j =>
 mk (ob (ldN false 1 a d) fun k =>
 ob (Z1F k) fun l =>
 ob (xfld 1 l) fun n =>
 ob (ldN false 1 n d) fun o =>
 asB o fun p => br p (mk (callS false EE 14 [(shr (shr j))] d fun q r =>
 ob (xext 0 (shr q)) fun s =>
 ob (xext 1 (shr q)) fun t =>
 ZpB m0 a (shr (shr s)) (gcB m0 [a, (shr (shr s))] r)))
 (ZpB m0 a (shr j) (gcB m0 [a, (shr j)] d)))))
 (mk (ob (xbin PP .eql 3 f (iv 2)) fun u =>
 asB (shr u) fun v => br v (mk (ob (xfld 6 c) fun w =>
 ob (ldN false 1 w d) fun x =>
 ob (xlen PP 29 x) fun y =>
 Zk0 m0 a x y (iv 0) (gcB m0 [a, x, y, (iv 0)] d)))
 (mk (ob (xbin PP .eql 3 f (iv 3)) fun z =>
 asB (shr z) fun A => br A (mk (ob (ldN false 1 a d) fun C =>
 ob (xfld 6 c) fun D =>
 ob (ldN false 1 D d) fun F =>
 callS false EE 40 [C, F] d fun G I =>
 Z4Q I))
 (mk (ob (xbin PP .eql 3 f (iv 4)) fun J =>
 asB (shr J) fun M => br M (mk (ob (xfld 3 c) fun N =>
 ob (ldN false 1 N d) fun O =>
 ob (xbin PP .eql 3 O (iv 2)) fun Q =>
 asB Q fun R => br R (mk (ob (ldN false 1 a d) fun S =>
 ob (Z1E PP 40 [(0, (iv 8))]) fun T =>
 callS false EE 41 [S, T, (.clo 42 ([].map nrmA) ([a, c].map nrmA))] d fun U V =>
 Z4Q V))
 (mk (ob (ldN false 1 a d) fun W =>
 ob (ldN true 7 c d) fun Y =>
 callS false EE 43 [W, Y] d fun Z a0 =>
 Z4Q a0))))
 (mk (ob (xbin PP .eql 3 f (iv 5)) fun a1 =>
 asB (shr a1) fun a2 => br a2 (mk (ob (ldN false 1 a d) fun a3 =>
 ob (xfld 4 c) fun a4 =>
 ob (ldN false 1 a4 d) fun a5 =>
 ob (xbin PP .mul 3 (iv 2) a5) fun a6 =>
 ob (Z1E PP 40 [(0, (iv 4)), (1, a6)]) fun a7 =>
 callS false EE 28 [a3, a7] d fun a8 a9 =>
 mk (ob (ldN false 1 a a9) fun a10 =>
 ob (xfld 6 c) fun a11 =>
 ob (ldN false 1 a11 a9) fun a12 =>
 ob (xidx 7 a12 (iv 0)) fun a13 =>
 ob (ldN true 7 a13 a9) fun a14 =>
 callS false EE 29 [a10, a14] a9 fun a15 a16 =>
 mk (ob (ldN false 1 a a16) fun a17 =>
 ob (xfld 4 c) fun a18 =>
 ob (ldN false 1 a18 a16) fun a19 =>
 ob (xbin PP .mul 3 (iv 2) a19) fun a20 =>
 ob (xbin PP .add 3 a20 (iv 1)) fun a21 =>
 ob (Z1E PP 40 [(0, (iv 4)), (1, a21)]) fun a22 =>
 callS false EE 28 [a17, a22] a16 fun a23 a24 =>
 Z4Q a24))))
 (mk (ob (xbin PP .eql 3 f (iv 6)) fun a25 =>
 asB (shr a25) fun a26 => br a26 (mk (ob (xfld 4 c) fun a27 =>
 ob (ldN false 1 a27 d) fun a28 =>
 ob (Z1E PP 40 [(0, (iv 5)), (1, a28)]) fun a29 =>
 bz PP 40 d fun a30 a31 =>
 stN 6 a30 a29 a31 fun a32 =>
 mk (ob (ldN false 1 a a32) fun a33 =>
 ob (Z1F a33) fun a34 =>
 ob (xfld 1 a34) fun a35 =>
 ob (ldN false 1 a35 a32) fun a36 =>
 asB a36 fun a37 => br a37 (mk (ob (xfld 2 a30) fun a38 =>
 stN 1 a38 (iv 1) a32 fun a39 =>
 Znw m0 a a30 (gcB m0 [a, a30] a39)))
 (Znw m0 a a30 (gcB m0 [a, a30] a32)))))
 (mk (ob (xbin PP .eql 3 f (iv 7)) fun a40 =>
 asB (shr a40) fun a41 => br a41 (mk (ob (xfld 3 c) fun a42 =>
 ob (ldN false 1 a42 d) fun a43 =>
 ob (Z1E PP 40 [(0, (iv 7)), (1, a43)]) fun a44 =>
 bz PP 40 d fun a45 a46 =>
 stN 6 a45 a44 a46 fun a47 =>
 mk (ob (xfld 3 c) fun a48 =>
 ob (ldN false 1 a48 a47) fun a49 =>
 ob (xbin PP .geq 3 a49 (iv 2)) fun a50 =>
 asB a50 fun a51 => br a51 (mk (ob (xfld 6 c) fun a52 =>
 ob (ldN false 1 a52 a47) fun a53 =>
 ob (xidx 7 a53 (iv 0)) fun a54 =>
 ob (ldN true 7 a54 a47) fun a55 =>
 callS false EE 44 [a55] a47 fun a56 a57 =>
 ob (xext 0 (shr a56)) fun a58 =>
 ob (xext 1 (shr a56)) fun a59 =>
 ob (xfld 3 a45) fun a60 =>
 stN 1 a60 (shr a58) a57 fun a61 =>
 ob (xfld 4 a45) fun a62 =>
 stN 1 a62 (shr a59) a61 fun a63 =>
 Znx m0 a c a45 (gcB m0 [a, c, a45] a63)))
 (Znx m0 a c a45 (gcB m0 [a, c, a45] a47)))))
 (mk (ob (xbin PP .eql 3 f (iv 8)) fun a64 =>
 asB (shr a64) fun a65 => br a65 (mk (ob (ldN false 1 a d) fun a66 =>
 ob (Z1E PP 40 [(0, (iv 8))]) fun a67 =>
 callS false EE 41 [a66, a67, (.clo 46 ([].map nrmA) ([a, c].map nrmA))] d fun a68 a69 =>
 Z4Q a69))
 (mk (ob (xbin PP .eql 3 f (iv 9)) fun a70 =>
 asB (shr a70) fun a71 => br a71 (mk (ob (ldN false 1 a d) fun a72 =>
 ob (xfld 4 c) fun a73 =>
 ob (ldN false 1 a73 d) fun a74 =>
 ob (Z1E PP 40 [(0, (iv 6)), (1, a74)]) fun a75 =>
 callS false EE 28 [a72, a75] d fun a76 a77 =>
 Z4Q a77))
 (Z4Q d))))))))))))))))))))) := (E_eq PP XX HH _ _ _).trans (by kernel_rfl)
def ZDp := Z2B Tryd.f30
def ZtE := l2 (l2 (l2 (l1 (l2 ZDp))))
def Zml := l1 (l1 (l1 (l2 (l2 (l1 (l2 ZDp))))))
def ZtB (m0 : Nat) : Kont := kret PP HH 30 Tryd.f30.results
def ZFx := kseq HH 30 m0 ZtE (exec PP HH 30 m0 EE LL ZtE (ZtB m0)) (ZtB m0)
def ZtC := kblk 0 (ZFx m0)
def ZzQ := kloop HH 30 m0 Zml (LL 30 m0 Zml (ZtC m0)) (ZtC m0)
def ZFy := kblk 1 (ZzQ m0)
def Zmj := lp (LL 30 m0 Zml (ZtC m0) [(0, x0), (2, x2), (3, x3)] B)
def ZtD := exec PP HH 30 m0 EE LL (l2 Zml) (ZzQ m0) [(0, x0), (2, x2), (3, x3)] B
def Zk1 := exec PP HH 30 m0 EE LL ZtE (ZtB m0) [(2, x2), (3, x3)] B
def Zmk := exec PP HH 30 m0 EE LL (l2 (l1 (l2 Zml))) (ZFy m0) [(0, x0), (2, x2), (3, x3)] B
theorem ZzR : Zmj m0 x0 x2 x3 B =
 mk (ob (Z1F (shr x0)) fun a =>
 ob (xfld 5 a) fun b =>
 ob (xfld 0 b) fun c =>
 ob (ldN false 1 c B) fun d =>
 ob (xbin PP .eql 24 d (iv 0)) fun e =>
 asB e fun f => br f (ZtD m0 x0 x2 x3 (gcB m0 [x0, x2, x3] B))
 (Zk1 m0 x2 x3 (gcB m0 [x2, x3] B))) := lq_ (by kernel_rfl)
theorem ZzS : ZtD m0 x0 x2 x3 B =
 mk (callS false EE 47 [(shr x0)] B fun a b =>
 mk (ob (xbin PP .eql 3 a (iv (-1))) fun c =>
 asB (shr c) fun d => br d (asB (shr c) fun e => br e (Zk1 m0 x2 x3 (gcB m0 [x2, x3] b))
 (Zmk m0 x0 x2 x3 (gcB m0 [x0, x2, x3] b)))
 (mk (ob (xbin PP .eql 3 a (iv 124)) fun f =>
 asB (shr f) fun g => br g (asB (shr f) fun h => br h (Zk1 m0 x2 x3 (gcB m0 [x2, x3] b))
 (Zmk m0 x0 x2 x3 (gcB m0 [x0, x2, x3] b)))
 (mk (ob (xbin PP .eql 3 a (iv 41)) fun i =>
 asB (shr i) fun j => br j (Zk1 m0 x2 x3 (gcB m0 [x2, x3] b))
 (Zmk m0 x0 x2 x3 (gcB m0 [x0, x2, x3] b)))))))) := by kernel_rfl
theorem ZzU : Zk1 m0 x2 x3 B =
 mk (callS false EE 31 [(iv 2), (shr x3)] B fun a b =>
 stN 7 x2 a b fun c =>
 Z7F x2 c) := by kernel_rfl
theorem ZzT : Zmk m0 x0 x2 x3 B =
 mk (callS false EE 48 [(shr x0)] B fun a b =>
 ob (xext 0 (shr a)) fun c =>
 ob (xext 1 (shr a)) fun d =>
 bz PP 31 b fun e f =>
 stN 7 e (shr c) f fun g =>
 mk (ob (ldN true 7 e g) fun h =>
 callS false EE 49 [(shr x0), h, (shr (shr (shr d)))] g fun i j =>
 ob (xlit PP 29 1 [(0, i)]) fun k =>
 ob (xapp 7 x3 k) fun l =>
 Zmj m0 x0 x2 l (gcB m0 [x0, x2, l] j))) := by kernel_rfl
theorem ZFw : EE 30 [x0] B =
 (let m0 := B.length
 mk (bz PP 31 B fun a b =>
 mk (Zmj m0 x0 a nilA (gcB m0 [x0, a, nilA] (gcB m0 [x0, a, nilA] b))))) := (E_eq PP XX HH _ _ _).trans (by kernel_rfl)
def ZHl := Z2B Tryd.f31
def ZFA (m0 : Nat) : Kont := kret PP HH 31 Tryd.f31.results
def ZtF := exec PP HH 31 m0 EE LL (l2 (l2 ZHl)) (ZFA m0) [(0, x0), (1, x1), (4, x4)] B
theorem ZzV : ZtF m0 x0 x1 x4 B =
 mk (ob (Z1E PP 31 [(0, (shr x0)), (6, (shr x1))]) fun a =>
 stN 7 x4 a B fun b =>
 Z7F x4 b) := by kernel_rfl
theorem ZFz : EE 31 [x0, x1] B =
 (let m0 := B.length
 mk (bz PP 31 B fun a b =>
 mk (ob (xlen PP 29 (shr x1)) fun c =>
 mk (ob (xbin PP .eql 3 c (iv 0)) fun d =>
 asB (shr d) fun e => br e (mk (ob (Z1E PP 31 []) fun f =>
 stN 7 a f b fun g =>
 Z7F a g))
 (mk (ob (xbin PP .eql 3 c (iv 1)) fun h =>
 asB (shr h) fun i => br i (mk (ob (xidx 7 (shr x1) (iv 0)) fun j =>
 ob (ldN true 7 j b) fun k =>
 stN 7 a k b fun l =>
 Z7F a l))
 (ZtF m0 x0 x1 a (gcB m0 [x0, x1, a] b)))))))) := (E_eq PP XX HH _ _ _).trans (by kernel_rfl)
theorem ZFB : EE 32 [x0, x1] B =
 (let m0 := B.length
 mk (mk (callS false EE 50 [(shr x0), (shr x1)] B fun a b =>
 ob (xbin PP .geq 3 a (iv 0)) fun c =>
 Z1z (shr c) b))) := (E_eq PP XX HH _ _ _).trans (by kernel_rfl)
theorem ZFC : EE 33 [x0, x1] B =
 (let m0 := B.length
 mk (bx x0 B fun a b =>
 mk (ob (xfld 0 a) fun c =>
 ob (ldN false 1 c b) fun d =>
 ob (ldN false 1 x1 b) fun e =>
 ob (xbin PP .leq 3 d e) fun f =>
 asB (shr f) fun g => br g (ob (ldN false 1 x1 b) fun h =>
 ob (xfld 1 a) fun i =>
 ob (ldN false 1 i b) fun j =>
 ob (xbin PP .leq 3 h j) fun k =>
 Z1z (shr (shr k)) b)
 (Z1z (bv false) b)))) := (E_eq PP XX HH _ _ _).trans (by kernel_rfl)
def ZDq := Z2B Tryd.f38
def ZtI := l2 (l2 ZDq)
def ZA0 := l1 (l2 (l1 (l2 ZDq)))
def ZtG (m0 : Nat) : Kont := kret PP HH 38 Tryd.f38.results
def ZzW := kseq HH 38 m0 ZtI (exec PP HH 38 m0 EE LL ZtI (ZtG m0)) (ZtG m0)
def ZtH := exec PP HH 38 m0 EE LL ZA0 (ZzW m0) [(1, x1)] B
def Zmm := exec PP HH 38 m0 EE LL ZtI (ZtG m0) [(1, x1)] B
def ZpD := exec PP HH 38 m0 EE LL (l1 (l2 (l2 ZA0))) (ZzW m0) [] B
theorem ZzX : ZtH m0 x1 B =
 mk (ob (xfld 6 x1) fun a =>
 ob (ldN false 1 a B) fun b =>
 ob (xidx 7 b (iv 0)) fun c =>
 ob (ldN true 7 c B) fun d =>
 callS false EE 44 [d] B fun e f =>
 ob (xext 0 (shr e)) fun g =>
 ob (xext 1 (shr e)) fun h =>
 mk (ob (xbin PP .lss 3 (shr (shr (shr h))) (iv 0)) fun i =>
 asB (shr i) fun j => br j (ZpD m0 (gcB m0 [] f))
 (ob (xbin PP .gtr 3 (shr (shr (shr h))) (iv 32)) fun k =>
 asB (shr k) fun l => br l (ZpD m0 (gcB m0 [] f))
 (Zmm m0 x1 (gcB m0 [x1] f))))) := by kernel_rfl
theorem ZzZ : Zmm m0 x1 B =
 mk (ob (xfld 6 x1) fun a =>
 ob (ldN false 1 a B) fun b =>
 callS false EE 55 [b, (.clo 56 [] [])] B fun c d =>
 ob (xun PP .not c) fun e =>
 Z1z (shr e) d) := by kernel_rfl
theorem ZzY : ZpD m0 B =
 mk (Z1z (bv false) B) := by kernel_rfl
theorem ZFD : EE 38 [x0] B =
 (let m0 := B.length
 mk (bx x0 B fun a b =>
 mk (ob (xfld 0 a) fun c =>
 ob (ldN false 1 c b) fun d =>
 ob (xbin PP .eql 3 d (iv 7)) fun e =>
 asB (shr e) fun f => br f (ob (xfld 3 a) fun g =>
 ob (ldN false 1 g b) fun h =>
 ob (xbin PP .geq 3 h (iv 2)) fun i =>
 asB (shr i) fun j => br j (ZtH m0 a (gcB m0 [a] b))
 (Zmm m0 a (gcB m0 [a] b)))
 (Zmm m0 a (gcB m0 [a] b))))) := (E_eq PP XX HH _ _ _).trans (by kernel_rfl)
def ZDr := Z2B Tryd.f39
def ZtL := l2 (l2 ZDr)
def ZtJ (m0 : Nat) : Kont := kret PP HH 39 Tryd.f39.results
def ZFF := kseq HH 39 m0 ZtL (exec PP HH 39 m0 EE LL ZtL (ZtJ m0)) (ZtJ m0)
def ZpE := exec PP HH 39 m0 EE LL (l1 (l2 (l1 (l2 ZDr)))) (ZFF m0) [] B
def ZtK := exec PP HH 39 m0 EE LL ZtL (ZtJ m0) [(0, x0), (1, x1)] B
theorem ZA1 : ZpE m0 B =
 mk (Z5b nilA (iv 10) B) := by kernel_rfl
theorem ZA2 : ZtK m0 x0 x1 B =
 mk (ob (xlit PP 110 2 [(0, (shr x0)), (1, (shr x1))]) fun a =>
 callS false EE 57 [a] B fun b c =>
 callS false EE 25 [b] c fun d e =>
 Z5b (shr d) (iv 0) e) := by kernel_rfl
theorem ZFE : EE 39 [x0, x1] B =
 (let m0 := B.length
 mk (mk (callS false EE 12 [(shr x0)] B fun a b =>
 ob (xun PP .not a) fun c =>
 asB (shr c) fun d => br d (ZpE m0 (gcB m0 [] b))
 (callS false EE 12 [(shr x1)] b fun e f =>
 ob (xun PP .not e) fun g =>
 asB (shr g) fun h => br h (ZpE m0 (gcB m0 [] f))
 (ZtK m0 x0 x1 (gcB m0 [x0, x1] f)))))) := (E_eq PP XX HH _ _ _).trans (by kernel_rfl)
def ZDs := Z2B Tryd.f40
def ZpH := l2 (l2 (l2 ZDs))
def ZpG := l1 (l1 (l2 (l1 (l2 (l2 ZDs)))))
def ZpI := l1 (l1 (l2 (l2 ZpH)))
def ZpF (m0 : Nat) : Kont := kret PP HH 40 Tryd.f40.results
def ZFH := kseq HH 40 m0 ZpH (exec PP HH 40 m0 EE LL ZpH (ZpF m0)) (ZpF m0)
def ZtM := kblk 0 (ZFH m0)
def ZFI := kloop HH 40 m0 ZpG (LL 40 m0 ZpG (ZtM m0)) (ZtM m0)
def ZtN := kblk 2 (ZpF m0)
def ZFJ := kloop HH 40 m0 ZpI (LL 40 m0 ZpI (ZtN m0)) (ZtN m0)
def Zmn := lp (LL 40 m0 ZpG (ZtM m0) [(0, x0), (1, x1), (4, x4), (5, x5), (16, x16), (17, x17), (18, x18)] B)
def ZtO := exec PP HH 40 m0 EE LL (l2 (l2 ZpG)) (ZFI m0) [(0, x0), (1, x1), (4, x4), (5, x5), (16, x16), (17, x17), (18, x18)] B
def Zrl := exec PP HH 40 m0 EE LL ZpH (ZpF m0) [(0, x0), (1, x1), (4, x4), (5, x5)] B
def Zk2 := lp (LL 40 m0 ZpI (ZtN m0) [(0, x0), (51, x51), (52, x52), (53, x53)] B)
def Zrm := exec PP HH 40 m0 EE LL (l2 (l2 ZpI)) (ZFJ m0) [(0, x0), (51, x51), (52, x52), (53, x53)] B
theorem ZA3 : Zmn m0 x0 x1 x4 x5 x16 x17 x18 B =
 mk (ob (xbin PP .lss 3 x18 x17) fun a =>
 asB a fun b => br b (ZtO m0 x0 x1 x4 x5 x16 x17 x18 (gcB m0 [x0, x1, x4, x5, x16, x17, x18] B))
 (Zrl m0 x0 x1 x4 x5 (gcB m0 [x0, x1, x4, x5] B))) := lq_ (by kernel_rfl)
theorem ZA4 : ZtO m0 x0 x1 x4 x5 x16 x17 x18 B =
 mk (ob (xidx 7 x16 x18) fun a =>
 ob (ldN true 7 a B) fun b =>
 bz PP 31 B fun c d =>
 stN 7 c b d fun e =>
 mk (ob (Z1E PP 40 [(0, (iv 3))]) fun f =>
 callS false EE 28 [(shr x0), f] e fun g h =>
 mk (ob (ldN true 7 c h) fun i =>
 callS false EE 29 [(shr x0), i] h fun j k =>
 mk (ob (Z1E PP 40 [(0, (iv 2))]) fun l =>
 callS false EE 28 [(shr x0), l] k fun n o =>
 ob (xlit PP 96 1 [(0, n)]) fun p =>
 ob (xapp 1 x4 p) fun q =>
 mk (ob (xbin PP .add 3 (shr (shr g)) (iv 1)) fun r =>
 ob (Z1F (shr x0)) fun s =>
 ob (xfld 0 s) fun t =>
 ob (ldN false 1 t o) fun u =>
 ob (xlen PP 23 u) fun v =>
 callS false EE 58 [(shr x0), (shr (shr g)), r, v, (bv false)] o fun w x =>
 mk (ob (xbin PP .add 3 x18 (iv 1)) fun y =>
 Zmn m0 x0 x1 q x5 x16 x17 (shr y) (gcB m0 [x0, x1, q, x5, x16, x17, (shr y)] x))))))) := by kernel_rfl
theorem Zxs : Zrl m0 x0 x1 x4 x5 B =
 mk (ob (xidx 7 (shr x1) (shr x5)) fun a =>
 ob (ldN true 7 a B) fun b =>
 callS false EE 29 [(shr x0), b] B fun c d =>
 mk (ob (xlen PP 96 (shr x4)) fun e =>
 Zk2 m0 x0 (shr x4) e (iv 0) (gcB m0 [x0, (shr x4), e, (iv 0)] d))) := by kernel_rfl
theorem Zxr : Zk2 m0 x0 x51 x52 x53 B =
 mk (ob (xbin PP .lss 3 x53 x52) fun a =>
 asB a fun b => br b (Zrm m0 x0 x51 x52 x53 (gcB m0 [x0, x51, x52, x53] B))
 (Z4Q B)) := lq_ (by kernel_rfl)
theorem Zxt : Zrm m0 x0 x51 x52 x53 B =
 mk (ob (xidx 1 x51 x53) fun a =>
 ob (ldN false 1 a B) fun b =>
 mk (ob (ncA (shr (Z2g x0))) fun c =>
 ob (flA 0 c) fun d =>
 ob (alA false d B) fun e =>
 ob (ncA (shr (Z2g x0))) fun f =>
 ob (flA 0 f) fun g =>
 ob (ldA false false 1 g B) fun h =>
 ob (xlen PP 23 h) fun i =>
 ob (ixA 6 e (shr (Z2g (shr b)))) fun j =>
 ob (flA 1 j) fun k =>
 ob (stEl 1 k (Z2g i) B) fun l =>
 mk (ob (xbin PP .add 3 (Z2g x53) (iv 1)) fun n =>
 Zk2 m0 (Z2g x0) (Z2g x51) (Z2g x52) (shr n) (gcB m0 [(Z2g x0), (Z2g x51), (Z2g x52), (shr n)] l)))) := by kernel_rfl
theorem ZFG : EE 40 [x0, x1] B =
 (let m0 := B.length
 mk (mk (ob (xlen PP 29 (shr x1)) fun a =>
 ob (xbin PP .sub 3 a (iv 1)) fun b =>
 mk (ob (xsl 7 (shr x1) none (some (shr (shr b))) none) fun c =>
 ob (xlen PP 29 c) fun d =>
 Zmn m0 x0 x1 nilA (shr b) c d (iv 0) (gcB m0 [x0, x1, nilA, (shr b), c, d, (iv 0)] B))))) := (E_eq PP XX HH _ _ _).trans (by kernel_rfl)
theorem ZtP : EE 41 [x0, x1, x2] B =
 (let m0 := B.length
 mk (bx x1 B fun a b =>
 mk (ob (ldN true 6 a b) fun c =>
 callS false EE 28 [(shr x0), c] b fun d e =>
 mk (callV HH EE (shr x2) [] e fun f g =>
 mk (ob (Z1E PP 40 [(0, (iv 9))]) fun h =>
 callS false EE 28 [(shr x0), h] g fun i j =>
 mk (ob (ncA (shr (Z2g x0))) fun k =>
 ob (flA 0 k) fun l =>
 ob (alA false l j) fun n =>
 ob (ncA (shr (Z2g x0))) fun o =>
 ob (flA 0 o) fun p =>
 ob (ldA false false 1 p j) fun q =>
 ob (xlen PP 23 q) fun r =>
 ob (ixA 6 n (shr (Z2g (shr d)))) fun s =>
 ob (flA 2 s) fun t =>
 ob (stEl 1 t (Z2g r) j) fun u =>
 Z4Q u)))))) := (E_eq PP XX HH _ _ _).trans (by kernel_rfl)
theorem ZFK : EE 42 [x0, x1] B =
 (let m0 := B.length
 mk (ob (ldN false 1 x0 B) fun a =>
 ob (ldN true 7 x1 B) fun b =>
 callS false EE 43 [a, b] B fun c d =>
 Z4Q d)) := (E_eq PP XX HH _ _ _).trans (by kernel_rfl)
def ZDt := Z2B Tryd.f43
def Zk5 := l2 (l2 (l2 ZDt))
def ZpM := l2 (l2 (l2 Zk5))
def ZpK := l1 (l1 (l2 (l1 (l2 (l2 ZDt)))))
def ZAa := l2 (l2 ZpK)
def ZpL := l1 (l1 (l2 (l1 (l2 (l2 Zk5)))))
def ZpN := l1 (l1 (l2 ZpM))
def Zgv (m0 : Nat) : Kont := kret PP HH 43 Tryd.f43.results
def ZFM := kseq HH 43 m0 Zk5 (exec PP HH 43 m0 EE LL Zk5 (Zgv m0)) (Zgv m0)
def ZtQ := kblk 0 (ZFM m0)
def ZA5 := kloop HH 43 m0 ZpK (LL 43 m0 ZpK (ZtQ m0)) (ZtQ m0)
def ZFN := kseq HH 43 m0 ZpM (exec PP HH 43 m0 EE LL ZpM (Zgv m0)) (Zgv m0)
def ZtR := kblk 2 (ZFN m0)
def ZFO := kloop HH 43 m0 ZpL (LL 43 m0 ZpL (ZtR m0)) (ZtR m0)
def ZtS := kblk 4 (Zgv m0)
def ZFP := kloop HH 43 m0 ZpN (LL 43 m0 ZpN (ZtS m0)) (ZtS m0)
def Zmo := lp (LL 43 m0 ZpK (ZtQ m0) [(0, x0), (3, x3), (4, x4), (13, x13), (14, x14)] B)
def ZtT := exec PP HH 43 m0 EE LL ZAa (ZA5 m0) [(0, x0), (3, x3), (4, x4), (13, x13), (14, x14)] B
def ZpJ := exec PP HH 43 m0 EE LL Zk5 (Zgv m0) [(0, x0), (3, x3), (4, x4)] B
def ZtU := exec PP HH 43 m0 EE LL (l2 ZAa) (ZA5 m0) [(0, x0), (3, x3), (4, x4), (13, x13), (14, x14)] B
def Zrn := exec PP HH 43 m0 EE LL (l2 Zk5) (Zgv m0) [(0, x0), (3, x3), (4, x4)] B
def Zk3 := lp (LL 43 m0 ZpL (ZtR m0) [(0, x0), (3, x3), (4, x4), (6, x6), (49, x49), (50, x50)] B)
def Zro := exec PP HH 43 m0 EE LL (l2 (l2 ZpL)) (ZFO m0) [(0, x0), (3, x3), (4, x4), (6, x6), (49, x49), (50, x50)] B
def Zrp := exec PP HH 43 m0 EE LL ZpM (Zgv m0) [(0, x0), (4, x4), (6, x6)] B
def Zk4 := lp (LL 43 m0 ZpN (ZtS m0) [(0, x0), (4, x4), (65, x65), (66, x66), (67, x67)] B)
def Zrq := exec PP HH 43 m0 EE LL (l2 (l2 ZpN)) (ZFP m0) [(0, x0), (4, x4), (65, x65), (66, x66), (67, x67)] B
theorem ZA6 : Zmo m0 x0 x3 x4 x13 x14 B =
 mk (ob (xbin PP .lss 3 x14 x13) fun a =>
 asB a fun b => br b (ZtT m0 x0 x3 x4 x13 x14 (gcB m0 [x0, x3, x4, x13, x14] B))
 (ZpJ m0 x0 x3 x4 (gcB m0 [x0, x3, x4] B))) := lq_ (by kernel_rfl)
theorem ZA7 : ZtT m0 x0 x3 x4 x13 x14 B =
 mk (ob (Z1F (shr x0)) fun a =>
 ob (xfld 0 a) fun b =>
 ob (ldN false 1 b B) fun c =>
 ob (xlen PP 23 c) fun d =>
 mk (ob (xfld 6 x3) fun e =>
 ob (ldN false 1 e B) fun f =>
 ob (xidx 7 f (iv 0)) fun g =>
 ob (ldN true 7 g B) fun h =>
 callS false EE 29 [(shr x0), h] B fun i j =>
 mk (ob (Z1F (shr x0)) fun k =>
 ob (xfld 0 k) fun l =>
 ob (ldN false 1 l j) fun n =>
 ob (xlen PP 23 n) fun o =>
 ob (xbin PP .eql 3 o (shr (shr d))) fun p =>
 asB p fun q => br q (ZpJ m0 x0 x3 x4 (gcB m0 [x0, x3, x4] j))
 (ZtU m0 x0 x3 x4 x13 x14 (gcB m0 [x0, x3, x4, x13, x14] j))))) := by kernel_rfl
theorem ZA9 : ZpJ m0 x0 x3 x4 B =
 mk (ob (xfld 2 x3) fun a =>
 ob (ldN false 1 a B) fun b =>
 ob (xbin PP .lss 3 b (iv 0)) fun c =>
 asB c fun d => br d (mk (ob (xfld 6 x3) fun e =>
 ob (ldN false 1 e B) fun f =>
 ob (xidx 7 f (iv 0)) fun g =>
 ob (ldN true 7 g B) fun h =>
 callS false EE 59 [(shr x0), h, (shr x4)] B fun i j =>
 Z4Q j))
 (Zrn m0 x0 x3 x4 (gcB m0 [x0, x3, x4] B))) := by kernel_rfl
theorem ZA8 : ZtU m0 x0 x3 x4 x13 x14 B =
 mk (ob (xbin PP .add 3 x14 (iv 1)) fun a =>
 Zmo m0 x0 x3 x4 x13 (shr a) (gcB m0 [x0, x3, x4, x13, (shr a)] B)) := by kernel_rfl
theorem Zxw : Zrn m0 x0 x3 x4 B =
 mk (mk (ob (xfld 2 x3) fun a =>
 ob (ldN false 1 a B) fun b =>
 ob (xfld 1 x3) fun c =>
 ob (ldN false 1 c B) fun d =>
 ob (xbin PP .sub 3 b d) fun e =>
 Zk3 m0 x0 x3 x4 nilA e (iv 0) (gcB m0 [x0, x3, x4, nilA, e, (iv 0)] B))) := by kernel_rfl
theorem Zxu : Zk3 m0 x0 x3 x4 x6 x49 x50 B =
 mk (ob (xbin PP .lss 3 x50 x49) fun a =>
 asB a fun b => br b (Zro m0 x0 x3 x4 x6 x49 x50 (gcB m0 [x0, x3, x4, x6, x49, x50] B))
 (Zrp m0 x0 x4 x6 (gcB m0 [x0, x4, x6] B))) := lq_ (by kernel_rfl)
theorem Zxx : Zro m0 x0 x3 x4 x6 x49 x50 B =
 mk (ob (Z1E PP 40 [(0, (iv 3))]) fun a =>
 callS false EE 28 [(shr x0), a] B fun b c =>
 ob (xlit PP 96 1 [(0, b)]) fun d =>
 ob (xapp 1 x6 d) fun e =>
 mk (ob (xfld 6 x3) fun f =>
 ob (ldN false 1 f c) fun g =>
 ob (xidx 7 g (iv 0)) fun h =>
 ob (ldN true 7 h c) fun i =>
 callS false EE 29 [(shr x0), i] c fun j k =>
 mk (ob (xbin PP .add 3 x50 (iv 1)) fun l =>
 Zk3 m0 x0 x3 x4 e x49 (shr l) (gcB m0 [x0, x3, x4, e, x49, (shr l)] k)))) := by kernel_rfl
theorem Zxy : Zrp m0 x0 x4 x6 B =
 mk (ob (xlen PP 96 (shr x6)) fun a =>
 Zk4 m0 x0 x4 (shr x6) a (iv 0) (gcB m0 [x0, x4, (shr x6), a, (iv 0)] B)) := by kernel_rfl
theorem Zxv : Zk4 m0 x0 x4 x65 x66 x67 B =
 mk (ob (xbin PP .lss 3 x67 x66) fun a =>
 asB a fun b => br b (Zrq m0 x0 x4 x65 x66 x67 (gcB m0 [x0, x4, x65, x66, x67] B))
 (Z4Q B)) := lq_ (by kernel_rfl)
theorem Zxz : Zrq m0 x0 x4 x65 x66 x67 B =
 mk (ob (xidx 1 x65 x67) fun a =>
 ob (ldN false 1 a B) fun b =>
 mk (ob (xbin PP .add 3 (shr (shr b)) (iv 1)) fun c =>
 ob (Z1F (shr x0)) fun d =>
 ob (xfld 0 d) fun e =>
 ob (ldN false 1 e B) fun f =>
 ob (xlen PP 23 f) fun g =>
 callS false EE 58 [(shr x0), (shr (shr b)), c, g, (shr x4)] B fun h i =>
 mk (ob (xbin PP .add 3 x67 (iv 1)) fun j =>
 Zk4 m0 x0 x4 x65 x66 (shr j) (gcB m0 [x0, x4, x65, x66, (shr j)] i)))) := by kernel_rfl
theorem ZFL : EE 43 [x0, x1] B =
 (let m0 := B.length
 mk (bx x1 B fun a b =>
 mk (ob (xfld 3 a) fun c =>
 ob (ldN false 1 c b) fun d =>
 ob (xbin PP .eql 3 d (iv 1)) fun e =>
 mk (ob (xfld 1 a) fun f =>
 ob (ldN false 1 f b) fun g =>
 Zmo m0 x0 a (shr e) g (iv 0) (gcB m0 [x0, a, (shr e), g, (iv 0)] b))))) := (E_eq PP XX HH _ _ _).trans (by kernel_rfl)
def ZxA := Z2B Tryd.f44
def ZtZ := l2 (l2 ZxA)
def ZpP := l1 (l1 (l2 (l1 (l2 (l2 (l2 (l2 (l2 (l1 (l2 (l1 (l2 ZxA))))))))))))
def ZpQ := l1 (l1 (l2 (l2 (l1 (l2 (l2 (l2 (l2 (l2 (l2 (l2 (l1 (l2 (l1 (l2 ZxA)))))))))))))))
def Zk7 := l2 (l2 ZpQ)
def ZtV (m0 : Nat) : Kont := kret PP HH 44 Tryd.f44.results
def ZFR := kseq HH 44 m0 ZtZ (exec PP HH 44 m0 EE LL ZtZ (ZtV m0)) (ZtV m0)
def ZAb := kblk 0 (ZFR m0)
def ZtW := kblk 1 (ZAb m0)
def ZtX := kblk 3 (ZAb m0)
def ZFS := kloop HH 44 m0 ZpP (LL 44 m0 ZpP (ZtW m0)) (ZtW m0)
def ZpO := kloop HH 44 m0 ZpQ (LL 44 m0 ZpQ (ZtX m0)) (ZtX m0)
def ZFT := kseq HH 44 m0 (l2 Zk7) (exec PP HH 44 m0 EE LL (l2 Zk7) (ZpO m0)) (ZpO m0)
def ZAc := kblk 4 (ZFT m0)
def Zmp := lp (LL 44 m0 ZpP (ZtW m0) [(2, x2), (3, x3), (23, x23), (24, x24), (25, x25)] B)
def Zk6 := lp (LL 44 m0 ZpQ (ZtX m0) [(2, x2), (3, x3), (45, x45), (46, x46), (47, x47)] B)
def Zi7 := exec PP HH 44 m0 EE LL ZtZ (ZtV m0) [(2, x2), (3, x3)] B
def ZtY := exec PP HH 44 m0 EE LL (l2 (l2 ZpP)) (ZFS m0) [(2, x2), (3, x3), (23, x23), (24, x24), (25, x25)] B
def Zrr := exec PP HH 44 m0 EE LL Zk7 (ZpO m0) [(2, x2), (3, x3), (45, x45), (46, x46), (47, x47)] B
def Zny := exec PP HH 44 m0 EE LL (l1 (l2 (l2 (l2 (l2 (l1 (l1 Zk7))))))) (ZAc m0) [(2, x2), (45, x45), (46, x46), (47, x47)] B
def Zrs := exec PP HH 44 m0 EE LL (l2 (l2 (l2 (l2 (l2 (l1 (l1 Zk7))))))) (ZAc m0) [(2, x2), (3, x3), (11, x11), (45, x45), (46, x46), (47, x47)] B
def Znz := exec PP HH 44 m0 EE LL (l2 Zk7) (ZpO m0) [(2, x2), (3, x3), (45, x45), (46, x46), (47, x47)] B
theorem ZAd : Zmp m0 x2 x3 x23 x24 x25 B =
 mk (ob (xbin PP .lss 3 x25 x24) fun a =>
 asB a fun b => br b (ZtY m0 x2 x3 x23 x24 x25 (gcB m0 [x2, x3, x23, x24, x25] B))
 (Zi7 m0 x2 x3 (gcB m0 [x2, x3] B))) := lq_ (by kernel_rfl)
theorem ZxB : Zk6 m0 x2 x3 x45 x46 x47 B =
 mk (ob (xbin PP .lss 3 x47 x46) fun a =>
 asB a fun b => br b (Zrr m0 x2 x3 x45 x46 x47 (gcB m0 [x2, x3, x45, x46, x47] B))
 (Zi7 m0 x2 x3 (gcB m0 [x2, x3] B))) := lq_ (by kernel_rfl)
theorem ZxG : Zi7 m0 x2 x3 B =
 mk (Z5b (shr (shr x2)) (shr (shr x3)) B) := by kernel_rfl
theorem ZAe : ZtY m0 x2 x3 x23 x24 x25 B =
 mk (ob (xidx 7 x23 x25) fun a =>
 ob (ldN true 7 a B) fun b =>
 bz PP 31 B fun c d =>
 stN 7 c b d fun e =>
 mk (ob (ldN true 7 c e) fun f =>
 callS false EE 44 [f] e fun g h =>
 ob (xext 0 (shr g)) fun i =>
 ob (xext 1 (shr g)) fun j =>
 mk (ob (xbin PP .add 3 (shr x2) (shr (shr (shr i)))) fun k =>
 ob (Z7I PP false [k, (iv 1048576)]) fun l =>
 callS false EE 60 [(shr x3), (shr (shr (shr j)))] h fun n o =>
 mk (ob (xbin PP .add 3 x25 (iv 1)) fun p =>
 Zmp m0 (shr l) (shr n) x23 x24 (shr p) (gcB m0 [(shr l), (shr n), x23, x24, (shr p)] o))))) := by kernel_rfl
theorem ZxC : Zrr m0 x2 x3 x45 x46 x47 B =
 mk (ob (xidx 7 x45 x47) fun a =>
 ob (ldN true 7 a B) fun b =>
 bz PP 31 B fun c d =>
 stN 7 c b d fun e =>
 mk (ob (ldN true 7 c e) fun f =>
 callS false EE 44 [f] e fun g h =>
 ob (xext 0 (shr g)) fun i =>
 ob (xext 1 (shr g)) fun j =>
 mk (ob (Z7I PP false [(shr x2), (shr (shr (shr i)))]) fun k =>
 mk (ob (xbin PP .lss 3 (shr (shr (shr j))) (iv 0)) fun l =>
 asB (shr l) fun n => br n (Zny m0 (shr k) x45 x46 x47 (gcB m0 [(shr k), x45, x46, x47] h))
 (ob (xbin PP .lss 3 (shr x3) (iv 0)) fun o =>
 asB (shr o) fun p => br p (Zny m0 (shr k) x45 x46 x47 (gcB m0 [(shr k), x45, x46, x47] h))
 (Zrs m0 (shr k) x3 (shr (shr j)) x45 x46 x47 (gcB m0 [(shr k), x3, (shr (shr j)), x45, x46, x47] h))))))) := by kernel_rfl
theorem ZxD : Zny m0 x2 x45 x46 x47 B =
 mk (Znz m0 x2 (iv (-1)) x45 x46 x47 (gcB m0 [x2, (iv (-1)), x45, x46, x47] B)) := by kernel_rfl
theorem ZxE : Zrs m0 x2 x3 x11 x45 x46 x47 B =
 mk (ob (Z7I PP true [(shr x3), (shr x11)]) fun a =>
 Znz m0 x2 (shr a) x45 x46 x47 (gcB m0 [x2, (shr a), x45, x46, x47] B)) := by kernel_rfl
theorem ZxF : Znz m0 x2 x3 x45 x46 x47 B =
 mk (ob (xbin PP .add 3 x47 (iv 1)) fun a =>
 Zk6 m0 x2 x3 x45 x46 (shr a) (gcB m0 [x2, x3, x45, x46, (shr a)] B)) := by kernel_rfl
theorem ZFQ : EE 44 [x0] B =
 (let m0 := B.length
 mk (bx x0 B fun a b =>
 mk (ob (xfld 0 a) fun c =>
 ob (ldN false 1 c b) fun d =>
 mk (ob (xbin PP .eql 3 d (iv 1)) fun e =>
 asB (shr e) fun f => br f (mk (Z5b (iv 1) (iv 1) b))
 (mk (ob (xbin PP .eql 3 d (iv 6)) fun g =>
 asB (shr g) fun h => br h (mk (Z5b (iv 0) (iv (-1)) b))
 (mk (ob (xbin PP .eql 3 d (iv 2)) fun i =>
 asB (shr i) fun j => br j (mk (ob (xfld 6 a) fun k =>
 ob (ldN false 1 k b) fun l =>
 ob (xlen PP 29 l) fun n =>
 Zmp m0 (iv 0) (iv 0) l n (iv 0) (gcB m0 [(iv 0), (iv 0), l, n, (iv 0)] b)))
 (mk (ob (xbin PP .eql 3 d (iv 3)) fun o =>
 asB (shr o) fun p => br p (mk (mk (ob (xfld 6 a) fun q =>
 ob (ldN false 1 q b) fun r =>
 ob (xlen PP 29 r) fun s =>
 Zk6 m0 (iv 1048576) (iv 0) r s (iv 0) (gcB m0 [(iv 1048576), (iv 0), r, s, (iv 0)] b))))
 (mk (ob (xbin PP .eql 3 d (iv 4)) fun t =>
 asB (shr t) fun u => br u (mk (ob (xfld 6 a) fun v =>
 ob (ldN false 1 v b) fun w =>
 ob (xidx 7 w (iv 0)) fun x =>
 ob (ldN true 7 x b) fun y =>
 callS false EE 44 [y] b fun z A =>
 ob (xext 0 (shr z)) fun C =>
 ob (xext 1 (shr z)) fun D =>
 mk (ob (xfld 1 a) fun F =>
 ob (ldN false 1 F A) fun G =>
 ob (xbin PP .mul 3 (shr (shr (shr C))) G) fun I =>
 ob (Z7I PP false [I, (iv 1048576)]) fun J =>
 ob (xfld 2 a) fun M =>
 ob (ldN false 1 M A) fun N =>
 callS false EE 61 [(shr (shr (shr D))), N] A fun O Q =>
 grd (ZiG [O, (shr (shr (shr D))), N]) (Z5b (shr J) (shr O) Q))))
 (mk (ob (xbin PP .eql 3 d (iv 5)) fun R =>
 asB (shr R) fun S => br S (asB (shr R) fun T => br T (mk (ob (xfld 6 a) fun U =>
 ob (ldN false 1 U b) fun V =>
 ob (xidx 7 V (iv 0)) fun W =>
 ob (ldN true 7 W b) fun Y =>
 callS false EE 44 [Y] b fun Z a0 =>
 ob (xext 0 Z) fun a1 =>
 ob (xext 1 Z) fun a2 =>
 Z5b (shr (shr a1)) (shr (shr a2)) a0))
 (Zi7 m0 (iv 0) (iv 0) (gcB m0 [(iv 0), (iv 0)] b)))
 (mk (ob (xbin PP .eql 3 d (iv 8)) fun a3 =>
 asB (shr a3) fun a4 => br a4 (mk (ob (xfld 6 a) fun a5 =>
 ob (ldN false 1 a5 b) fun a6 =>
 ob (xidx 7 a6 (iv 0)) fun a7 =>
 ob (ldN true 7 a7 b) fun a8 =>
 callS false EE 44 [a8] b fun a9 a10 =>
 ob (xext 0 a9) fun a11 =>
 ob (xext 1 a9) fun a12 =>
 Z5b (shr (shr a11)) (shr (shr a12)) a10))
 (Zi7 m0 (iv 0) (iv 0) (gcB m0 [(iv 0), (iv 0)] b)))))))))))))))))) := (E_eq PP XX HH _ _ _).trans (by kernel_rfl)
theorem ZFU : EE 45 [x0, x1] B =
 (let m0 := B.length
 mk (ob (ldN false 1 x0 B) fun a =>
 ob (xfld 6 x1) fun b =>
 ob (ldN false 1 b B) fun c =>
 ob (xidx 7 c (iv 0)) fun d =>
 ob (ldN true 7 d B) fun e =>
 callS false EE 29 [a, e] B fun f g =>
 Z4Q g)) := (E_eq PP XX HH _ _ _).trans (by kernel_rfl)
theorem ZFV : EE 46 [x0, x1] B =
 (let m0 := B.length
 mk (ob (ldN false 1 x0 B) fun a =>
 ob (xfld 6 x1) fun b =>
 ob (ldN false 1 b B) fun c =>
 ob (xidx 7 c (iv 0)) fun d =>
 ob (ldN true 7 d B) fun e =>
 callS false EE 29 [a, e] B fun f g =>
 Z4Q g)) := (E_eq PP XX HH _ _ _).trans (by kernel_rfl)
def ZHm := Z2B Tryd.f47
def ZFX (m0 : Nat) : Kont := kret PP HH 47 Tryd.f47.results
def Zu0 := exec PP HH 47 m0 EE LL (l2 (l2 ZHm)) (ZFX m0) [(0, x0)] B
theorem ZAf : Zu0 m0 x0 B =
 mk (ob (Z1F (shr x0)) fun a =>
 ob (xfld 0 a) fun b =>
 ob (ldN false 1 b B) fun c =>
 ob (Z1F (shr x0)) fun d =>
 ob (xfld 1 d) fun e =>
 ob (ldN false 1 e B) fun f =>
 callS false EE 62 [c, f] B fun g h =>
 ob (xext 0 (shr g)) fun i =>
 ob (xext 1 (shr g)) fun j =>
 mk (Z1z (shr (shr (shr (shr i)))) h)) := by kernel_rfl
theorem ZFW : EE 47 [x0] B =
 (let m0 := B.length
 mk (mk (ob (Z1F (shr x0)) fun a =>
 ob (xfld 1 a) fun b =>
 ob (ldN false 1 b B) fun c =>
 ob (Z1F (shr x0)) fun d =>
 ob (xfld 0 d) fun e =>
 ob (ldN false 1 e B) fun f =>
 ob (xlen PP 54 f) fun g =>
 ob (xbin PP .geq 3 c g) fun h =>
 asB h fun i => br i (mk (Z1z (iv (-1)) B))
 (Zu0 m0 x0 (gcB m0 [x0] B))))) := (E_eq PP XX HH _ _ _).trans (by kernel_rfl)
def ZHn := Z2B Tryd.f48
def Z6t (r0 r1 : AV) (B : List Row) : Option Res :=
 ob (ob (ldN true 7 r0 B) fun v => ob (ob (some r1) fun v => ob (some []) fun vs => some (v :: vs)) fun vs => some (v :: vs)) fun vs => some ((nrmA (match vs with | [v] => v | vs => Z97 (vs.map shr))), B)
def ZFZ (m0 : Nat) : Kont := kret PP HH 48 Tryd.f48.results
def Z8B := exec PP HH 48 m0 EE LL (l2 (l2 (l2 ZHn))) (ZFZ m0) [(2, x2)] B
theorem ZxH : Z8B m0 x2 B =
 mk (ob (Z1E PP 31 []) fun a =>
 stN 7 x2 a B fun b =>
 Z6t x2 (bv true) b) := by kernel_rfl
theorem ZFY : EE 48 [x0] B =
 (let m0 := B.length
 mk (bz PP 31 B fun a b =>
 mk (ob (Z1F (shr x0)) fun c =>
 ob (xfld 1 c) fun d =>
 ob (ldN false 1 d b) fun e =>
 mk (callS false EE 63 [(shr x0)] b fun f g =>
 mk (mk (ob (xbin PP .eql 3 (shr (shr f)) (iv 46)) fun h =>
 asB (shr h) fun i => br i (mk (callS false EE 65 [(iv 10)] g fun j k =>
 ob (xlit PP 27 1 [(0, j)]) fun l =>
 callS false EE 64 [(bv true), l] k fun n o =>
 stN 7 a n o fun p =>
 Z6t a (bv true) p))
 (mk (ob (xbin PP .eql 3 (shr (shr f)) (iv 94)) fun q =>
 asB (shr q) fun r => br r (mk (ob (Z1E PP 31 [(0, (iv 9)), (4, (iv 0))]) fun s =>
 stN 7 a s g fun t =>
 Z6t a (bv false) t))
 (mk (ob (xbin PP .eql 3 (shr (shr f)) (iv 36)) fun u =>
 asB (shr u) fun v => br v (mk (ob (Z1E PP 31 [(0, (iv 9)), (4, (iv 1))]) fun w =>
 stN 7 a w g fun x =>
 Z6t a (bv false) x))
 (mk (ob (xbin PP .eql 3 (shr (shr f)) (iv 92)) fun y =>
 asB (shr y) fun z => br z (mk (callS false EE 66 [(shr x0), (shr (shr e))] g fun A C =>
 bz PP 31 C fun D F =>
 stN 7 D A F fun G =>
 mk (ob (ldN true 7 D G) fun I =>
 ob (xfld 0 D) fun J =>
 ob (ldN false 1 J G) fun M =>
 ob (xbin PP .neq 3 M (iv 9)) fun N =>
 stN 7 a I G fun O =>
 grd (Zbr J a) (Z6t a (shr N) O))))
 (mk (ob (xbin PP .eql 3 (shr (shr f)) (iv 91)) fun Q =>
 asB (shr Q) fun R => br R (mk (callS false EE 67 [(shr x0), (shr (shr e))] g fun S T =>
 stN 7 a S T fun U =>
 Z6t a (bv true) U))
 (mk (ob (xbin PP .eql 3 (shr (shr f)) (iv 40)) fun V =>
 asB (shr V) fun W => br W (mk (callS false EE 68 [(shr x0), (shr (shr e))] g fun Y Z =>
 ob (xext 0 Y) fun a0 =>
 ob (xext 1 Y) fun a1 =>
 stN 7 a (shr a0) Z fun a2 =>
 Z6t a (shr (shr a1)) a2))
 (mk (ob (xbin PP .eql 3 (shr (shr f)) (iv 42)) fun a3 =>
 asB (shr a3) fun a4 => br a4 (asB (shr a3) fun a5 => br a5 (mk (callS false EE 21 [(shr x0), (iv 23), (shr (shr e))] g fun a6 a7 =>
 Z8B m0 a (gcB m0 [a] a7)))
 (mk (ob (xbin PP .eql 3 (shr (shr f)) (iv 93)) fun a8 =>
 asB (shr a8) fun a9 => br a9 (asB (shr a8) fun a10 => br a10 (mk (callS false EE 21 [(shr x0), (iv 20), (shr (shr e))] g fun a11 a12 =>
 Z8B m0 a (gcB m0 [a] a12)))
 (mk (callS false EE 65 [(shr (shr f))] g fun a13 a14 =>
 ob (xlit PP 27 1 [(0, a13)]) fun a15 =>
 callS false EE 64 [(bv false), a15] a14 fun a16 a17 =>
 stN 7 a a16 a17 fun a18 =>
 Z6t a (bv true) a18)))
 (mk (ob (xbin PP .eql 3 (shr (shr f)) (iv 125)) fun a19 =>
 asB (shr a19) fun a20 => br a20 (mk (callS false EE 21 [(shr x0), (iv 20), (shr (shr e))] g fun a21 a22 =>
 Z8B m0 a (gcB m0 [a] a22)))
 (mk (callS false EE 65 [(shr (shr f))] g fun a23 a24 =>
 ob (xlit PP 27 1 [(0, a23)]) fun a25 =>
 callS false EE 64 [(bv false), a25] a24 fun a26 a27 =>
 stN 7 a a26 a27 fun a28 =>
 Z6t a (bv true) a28)))))))
 (mk (ob (xbin PP .eql 3 (shr (shr f)) (iv 43)) fun a29 =>
 asB (shr a29) fun a30 => br a30 (asB (shr a29) fun a31 => br a31 (mk (callS false EE 21 [(shr x0), (iv 23), (shr (shr e))] g fun a32 a33 =>
 Z8B m0 a (gcB m0 [a] a33)))
 (mk (ob (xbin PP .eql 3 (shr (shr f)) (iv 93)) fun a34 =>
 asB (shr a34) fun a35 => br a35 (asB (shr a34) fun a36 => br a36 (mk (callS false EE 21 [(shr x0), (iv 20), (shr (shr e))] g fun a37 a38 =>
 Z8B m0 a (gcB m0 [a] a38)))
 (mk (callS false EE 65 [(shr (shr f))] g fun a39 a40 =>
 ob (xlit PP 27 1 [(0, a39)]) fun a41 =>
 callS false EE 64 [(bv false), a41] a40 fun a42 a43 =>
 stN 7 a a42 a43 fun a44 =>
 Z6t a (bv true) a44)))
 (mk (ob (xbin PP .eql 3 (shr (shr f)) (iv 125)) fun a45 =>
 asB (shr a45) fun a46 => br a46 (mk (callS false EE 21 [(shr x0), (iv 20), (shr (shr e))] g fun a47 a48 =>
 Z8B m0 a (gcB m0 [a] a48)))
 (mk (callS false EE 65 [(shr (shr f))] g fun a49 a50 =>
 ob (xlit PP 27 1 [(0, a49)]) fun a51 =>
 callS false EE 64 [(bv false), a51] a50 fun a52 a53 =>
 stN 7 a a52 a53 fun a54 =>
 Z6t a (bv true) a54)))))))
 (mk (ob (xbin PP .eql 3 (shr (shr f)) (iv 63)) fun a55 =>
 asB (shr a55) fun a56 => br a56 (asB (shr a55) fun a57 => br a57 (mk (callS false EE 21 [(shr x0), (iv 23), (shr (shr e))] g fun a58 a59 =>
 Z8B m0 a (gcB m0 [a] a59)))
 (mk (ob (xbin PP .eql 3 (shr (shr f)) (iv 93)) fun a60 =>
 asB (shr a60) fun a61 => br a61 (asB (shr a60) fun a62 => br a62 (mk (callS false EE 21 [(shr x0), (iv 20), (shr (shr e))] g fun a63 a64 =>
 Z8B m0 a (gcB m0 [a] a64)))
 (mk (callS false EE 65 [(shr (shr f))] g fun a65 a66 =>
 ob (xlit PP 27 1 [(0, a65)]) fun a67 =>
 callS false EE 64 [(bv false), a67] a66 fun a68 a69 =>
 stN 7 a a68 a69 fun a70 =>
 Z6t a (bv true) a70)))
 (mk (ob (xbin PP .eql 3 (shr (shr f)) (iv 125)) fun a71 =>
 asB (shr a71) fun a72 => br a72 (mk (callS false EE 21 [(shr x0), (iv 20), (shr (shr e))] g fun a73 a74 =>
 Z8B m0 a (gcB m0 [a] a74)))
 (mk (callS false EE 65 [(shr (shr f))] g fun a75 a76 =>
 ob (xlit PP 27 1 [(0, a75)]) fun a77 =>
 callS false EE 64 [(bv false), a77] a76 fun a78 a79 =>
 stN 7 a a78 a79 fun a80 =>
 Z6t a (bv true) a80)))))))
 (mk (ob (xbin PP .eql 3 (shr (shr f)) (iv 123)) fun a81 =>
 asB (shr a81) fun a82 => br a82 (mk (callS false EE 21 [(shr x0), (iv 23), (shr (shr e))] g fun a83 a84 =>
 Z8B m0 a (gcB m0 [a] a84)))
 (mk (ob (xbin PP .eql 3 (shr (shr f)) (iv 93)) fun a85 =>
 asB (shr a85) fun a86 => br a86 (asB (shr a85) fun a87 => br a87 (mk (callS false EE 21 [(shr x0), (iv 20), (shr (shr e))] g fun a88 a89 =>
 Z8B m0 a (gcB m0 [a] a89)))
 (mk (callS false EE 65 [(shr (shr f))] g fun a90 a91 =>
 ob (xlit PP 27 1 [(0, a90)]) fun a92 =>
 callS false EE 64 [(bv false), a92] a91 fun a93 a94 =>
 stN 7 a a93 a94 fun a95 =>
 Z6t a (bv true) a95)))
 (mk (ob (xbin PP .eql 3 (shr (shr f)) (iv 125)) fun a96 =>
 asB (shr a96) fun a97 => br a97 (mk (callS false EE 21 [(shr x0), (iv 20), (shr (shr e))] g fun a98 a99 =>
 Z8B m0 a (gcB m0 [a] a99)))
 (mk (callS false EE 65 [(shr (shr f))] g fun a100 a101 =>
 ob (xlit PP 27 1 [(0, a100)]) fun a102 =>
 callS false EE 64 [(bv false), a102] a101 fun a103 a104 =>
 stN 7 a a103 a104 fun a105 =>
 Z6t a (bv true) a105)))))))))))))))))))))))))))))) := (E_eq PP XX HH _ _ _).trans (by kernel_rfl)
def ZHo := Z2B Tryd.f49
def Zu2 := l2 (l2 (l2 (l2 ZHo)))
def Zu1 (m0 : Nat) : Kont := kret PP HH 49 Tryd.f49.results
def Zi8 := exec PP HH 49 m0 EE LL Zu2 (Zu1 m0) [(0, x0), (2, x2), (6, x6), (7, x7), (8, x8)] B
def ZnA := exec PP HH 49 m0 EE LL (l2 Zu2) (Zu1 m0) [(0, x0), (6, x6), (8, x8)] B
def Zk8 := exec PP HH 49 m0 EE LL (l2 (l2 Zu2)) (Zu1 m0) [(6, x6), (8, x8)] B
theorem ZxI : Zi8 m0 x0 x2 x6 x7 x8 B =
 mk (ob (xun PP .not (shr x2)) fun a =>
 asB a fun b => br b (mk (callS false EE 21 [(shr x0), (iv 23), (shr x7)] B fun c d =>
 ZnA m0 x0 x6 x8 (gcB m0 [x0, x6, x8] d)))
 (ZnA m0 x0 x6 x8 (gcB m0 [x0, x6, x8] B))) := by kernel_rfl
theorem ZxJ : ZnA m0 x0 x6 x8 B =
 mk (callS false EE 19 [(shr x0), (.p (.v (.string (ByteArray.mk #[63]))))] B fun a b =>
 asB (shr a) fun c => br c (mk (ob (xfld 3 x8) fun d =>
 stN 1 d (iv 1) b fun e =>
 Zk8 m0 x6 x8 (gcB m0 [x6, x8] e)))
 (mk (callS false EE 19 [(shr x0), (.p (.v (.string (ByteArray.mk #[43]))))] b fun f g =>
 asB (shr f) fun h => br h (mk (ob (xfld 3 x8) fun i =>
 stN 1 i (iv 2) g fun j =>
 Zk8 m0 x6 x8 (gcB m0 [x6, x8] j)))
 (Zk8 m0 x6 x8 (gcB m0 [x6, x8] g))))) := by kernel_rfl
theorem ZxK : Zk8 m0 x6 x8 B =
 mk (ob (ldN true 7 x8 B) fun a =>
 stN 7 x6 a B fun b =>
 Z7F x6 b) := by kernel_rfl
theorem ZG0 : EE 49 [x0, x1, x2] B =
 (let m0 := B.length
 mk (bx x1 B fun a b =>
 bz PP 31 b fun c d =>
 mk (ob (Z1F (shr x0)) fun e =>
 ob (xfld 1 e) fun f =>
 ob (ldN false 1 f d) fun g =>
 mk (ob (ldN true 7 a d) fun h =>
 ob (xlit PP 29 1 [(0, h)]) fun i =>
 ob (Z1E PP 31 [(0, (iv 4)), (2, (iv (-1))), (6, i)]) fun j =>
 bz PP 31 d fun k l =>
 stN 7 k j l fun n =>
 mk (callS false EE 19 [(shr x0), (.p (.v (.string (ByteArray.mk #[42]))))] n fun o q =>
 asB (shr o) fun r => br r (Zi8 m0 x0 x2 c (shr g) k (gcB m0 [x0, x2, c, (shr g), k] q))
 (mk (callS false EE 19 [(shr x0), (.p (.v (.string (ByteArray.mk #[43]))))] q fun s t =>
 asB (shr s) fun u => br u (mk (ob (xfld 1 k) fun w =>
 stN 1 w (iv 1) t fun x =>
 Zi8 m0 x0 x2 c (shr g) k (gcB m0 [x0, x2, c, (shr g), k] x)))
 (mk (callS false EE 19 [(shr x0), (.p (.v (.string (ByteArray.mk #[63]))))] t fun y z =>
 asB (shr y) fun A => br A (mk (ob (xfld 2 k) fun C =>
 stN 1 C (iv 1) z fun D =>
 Zi8 m0 x0 x2 c (shr g) k (gcB m0 [x0, x2, c, (shr g), k] D)))
 (mk (callS false EE 19 [(shr x0), (.p (.v (.string (ByteArray.mk #[123]))))] z fun F G =>
 asB (shr F) fun I => br I (mk (callS false EE 69 [(shr x0), (shr (shr g))] G fun J M =>
 ob (xext 0 (shr J)) fun N =>
 ob (xext 1 (shr J)) fun O =>
 ob (xfld 1 k) fun Q =>
 stN 1 Q (shr N) M fun R =>
 ob (xfld 2 k) fun S =>
 stN 1 S (shr O) R fun T =>
 Zi8 m0 x0 x2 c (shr g) k (gcB m0 [x0, x2, c, (shr g), k] T)))
 (mk (ob (ldN true 7 a G) fun U =>
 stN 7 c U G fun V =>
 Z7F c V))))))))))))) := (E_eq PP XX HH _ _ _).trans (by kernel_rfl)
def ZDu := Z2B Tryd.f50
def Zu8 := l2 (l2 ZDu)
def ZpR := l1 (l1 (l2 (l1 (l2 ZDu))))
def ZAl := l2 (l2 ZpR)
def Zu3 (m0 : Nat) : Kont := kret PP HH 50 Tryd.f50.results
def ZG2 := kseq HH 50 m0 Zu8 (exec PP HH 50 m0 EE LL Zu8 (Zu3 m0)) (Zu3 m0)
def Zu4 := kblk 0 (ZG2 m0)
def ZAg := kloop HH 50 m0 ZpR (LL 50 m0 ZpR (Zu4 m0)) (Zu4 m0)
def Zmq := lp (LL 50 m0 ZpR (Zu4 m0) [(0, x0), (1, x1), (7, x7), (8, x8)] B)
def Zu5 := exec PP HH 50 m0 EE LL ZAl (ZAg m0) [(0, x0), (1, x1), (7, x7), (8, x8)] B
def Zu7 := exec PP HH 50 m0 EE LL Zu8 (Zu3 m0) [] B
def Zu6 := exec PP HH 50 m0 EE LL (l2 ZAl) (ZAg m0) [(0, x0), (1, x1), (7, x7), (8, x8)] B
theorem ZAh : Zmq m0 x0 x1 x7 x8 B =
 mk (ob (xbin PP .lss 3 x8 x7) fun a =>
 asB a fun b => br b (Zu5 m0 x0 x1 x7 x8 (gcB m0 [x0, x1, x7, x8] B))
 (Zu7 m0 (gcB m0 [] B))) := lq_ (by kernel_rfl)
theorem ZAi : Zu5 m0 x0 x1 x7 x8 B =
 mk (mk (ob (xidx 2 (shr x0) (shr (shr (shr x8)))) fun a =>
 ob (ldN true 2 a B) fun b =>
 callV HH EE (shr x1) [b] B fun c d =>
 asB c fun e => br e (mk (Z1z (shr (shr (shr (shr x8)))) d))
 (Zu6 m0 x0 x1 x7 x8 (gcB m0 [x0, x1, x7, x8] d)))) := by kernel_rfl
theorem ZAk : Zu7 m0 B =
 mk (Z1z (iv (-1)) B) := by kernel_rfl
theorem ZAj : Zu6 m0 x0 x1 x7 x8 B =
 mk (ob (xbin PP .add 3 x8 (iv 1)) fun a =>
 Zmq m0 x0 x1 x7 (shr a) (gcB m0 [x0, x1, x7, (shr a)] B)) := by kernel_rfl
theorem ZG1 : EE 50 [x0, x1] B =
 (let m0 := B.length
 mk (mk (ob (xlen PP 28 (shr x0)) fun a =>
 Zmq m0 x0 x1 a (iv 0) (gcB m0 [x0, x1, a, (iv 0)] B)))) := (E_eq PP XX HH _ _ _).trans (by kernel_rfl)
theorem ZG3 : EE 55 [x0, x1] B =
 (let m0 := B.length
 mk (mk (callS false EE 73 [(shr x0), (shr x1)] B fun a b =>
 ob (xbin PP .geq 3 a (iv 0)) fun c =>
 Z1z (shr c) b))) := (E_eq PP XX HH _ _ _).trans (by kernel_rfl)
theorem ZG4 : EE 56 [x0] B =
 (let m0 := B.length
 mk (bx x0 B fun a b =>
 mk (ob (ldN true 7 a b) fun c =>
 callS false EE 38 [c] b fun d e =>
 ob (xun PP .not d) fun f =>
 Z1z (shr f) e))) := (E_eq PP XX HH _ _ _).trans (by kernel_rfl)
def ZHp := Z2B Tryd.f58
def ZG6 (m0 : Nat) : Kont := kret PP HH 58 Tryd.f58.results
def ZpS := exec PP HH 58 m0 EE LL (l2 ZHp) (ZG6 m0) [(0, x0), (1, x1), (2, x2), (3, x3)] B
theorem ZAm : ZpS m0 x0 x1 x2 x3 B =
 mk (ob (ncA (shr (Z2g x0))) fun a =>
 ob (flA 0 a) fun b =>
 ob (alA false b B) fun c =>
 ob (ncA (shr (Z2g x0))) fun d =>
 ob (flA 0 d) fun e =>
 ob (alA false e B) fun f =>
 ob (ixA 6 c (shr (Z2g x1))) fun g =>
 ob (flA 1 g) fun h =>
 ob (stEl 1 h (shr (Z2g x2)) B) fun i =>
 ob (ixA 6 f (shr (Z2g x1))) fun j =>
 ob (flA 2 j) fun k =>
 ob (stEl 1 k (shr (Z2g x3)) i) fun l =>
 Z4Q l) := by kernel_rfl
theorem ZG5 : EE 58 [x0, x1, x2, x3, x4] B =
 (let m0 := B.length
 mk (asB (shr x4) fun a => br a (mk (ZpS m0 x0 x1 (shr (shr x3)) (shr (shr x2)) (gcB m0 [x0, x1, (shr (shr x3)), (shr (shr x2))] B)))
 (ZpS m0 x0 x1 x2 x3 (gcB m0 [x0, x1, x2, x3] B)))) := (E_eq PP XX HH _ _ _).trans (by kernel_rfl)
theorem ZG7 : EE 59 [x0, x1, x2] B =
 (let m0 := B.length
 mk (bx x1 B fun a b =>
 mk (ob (Z1E PP 40 [(0, (iv 3))]) fun c =>
 callS false EE 28 [(shr x0), c] b fun d e =>
 mk (ob (Z1F (shr x0)) fun f =>
 ob (xfld 2 f) fun g =>
 ob (ldN false 1 g e) fun h =>
 mk (ob (Z1F (shr x0)) fun i =>
 ob (xfld 2 i) fun j =>
 ob (ldN false 1 j e) fun k =>
 ob (xbin PP .add 3 k (iv 1)) fun l =>
 ob (Z1F (shr x0)) fun n =>
 ob (xfld 2 n) fun o =>
 stN 1 o l e fun p =>
 mk (ob (Z1E PP 40 [(0, (iv 10)), (1, (shr (shr h)))]) fun q =>
 callS false EE 28 [(shr x0), q] p fun r s =>
 mk (ob (ldN true 7 a s) fun t =>
 callS false EE 29 [(shr x0), t] s fun u v =>
 mk (ob (Z1E PP 40 [(0, (iv 11)), (1, (shr (shr h)))]) fun w =>
 callS false EE 28 [(shr x0), w] v fun x y =>
 mk (ob (Z1E PP 40 [(0, (iv 2)), (1, (shr (shr d)))]) fun z =>
 callS false EE 28 [(shr x0), z] y fun A C =>
 mk (ob (xbin PP .add 3 (shr (shr d)) (iv 1)) fun D =>
 ob (Z1F (shr x0)) fun F =>
 ob (xfld 0 F) fun G =>
 ob (ldN false 1 G C) fun I =>
 ob (xlen PP 23 I) fun J =>
 callS false EE 58 [(shr x0), (shr (shr d)), D, J, (shr x2)] C fun M N =>
 Z4Q N)))))))))) := (E_eq PP XX HH _ _ _).trans (by kernel_rfl)
def ZDv := Z2B Tryd.f60
def Zue := l2 (l2 ZDv)
def Zuc (m0 : Nat) : Kont := kret PP HH 60 Tryd.f60.results
def ZG9 := kseq HH 60 m0 Zue (exec PP HH 60 m0 EE LL Zue (Zuc m0)) (Zuc m0)
def ZpW := exec PP HH 60 m0 EE LL (l1 (l2 (l1 (l2 ZDv)))) (ZG9 m0) [] B
def Zud := exec PP HH 60 m0 EE LL Zue (Zuc m0) [(0, x0), (1, x1)] B
theorem ZAq : ZpW m0 B =
 mk (Z1z (iv (-1)) B) := by kernel_rfl
theorem ZAr : Zud m0 x0 x1 B =
 mk (ob (xbin PP .add 3 (shr x0) (shr x1)) fun a =>
 callS false EE 75 [a] B fun b c =>
 Z1z (shr b) c) := by kernel_rfl
theorem ZG8 : EE 60 [x0, x1] B =
 (let m0 := B.length
 mk (mk (ob (xbin PP .lss 3 (shr x0) (iv 0)) fun a =>
 asB (shr a) fun b => br b (ZpW m0 (gcB m0 [] B))
 (ob (xbin PP .lss 3 (shr x1) (iv 0)) fun c =>
 asB (shr c) fun d => br d (ZpW m0 (gcB m0 [] B))
 (Zud m0 x0 x1 (gcB m0 [x0, x1] B)))))) := (E_eq PP XX HH _ _ _).trans (by kernel_rfl)
def ZxQ := Z2B Tryd.f61
def Zuj := l2 (l2 ZxQ)
def ZAw := l2 (l2 (l1 (l1 (l2 ZxQ))))
def Zuf (m0 : Nat) : Kont := kret PP HH 61 Tryd.f61.results
def ZGb := kseq HH 61 m0 Zuj (exec PP HH 61 m0 EE LL Zuj (Zuf m0)) (Zuf m0)
def Zug := kblk 0 (ZGb m0)
def ZpX := exec PP HH 61 m0 EE LL (l1 (l2 (l1 (l1 (l2 ZxQ))))) (Zug m0) [] B
def Zuh := exec PP HH 61 m0 EE LL ZAw (Zug m0) [(0, x0), (1, x1)] B
def ZpY := exec PP HH 61 m0 EE LL (l1 (l2 ZAw)) (Zug m0) [] B
def Zui := exec PP HH 61 m0 EE LL Zuj (Zuf m0) [(0, x0), (1, x1)] B
theorem ZAs : ZpX m0 B =
 mk (Z1z (iv 0) B) := by kernel_rfl
theorem ZAt : Zuh m0 x0 x1 B =
 mk (ob (xbin PP .lss 3 (shr x0) (iv 0)) fun a =>
 asB (shr a) fun b => br b (ZpY m0 (gcB m0 [] B))
 (ob (xbin PP .lss 3 (shr x1) (iv 0)) fun c =>
 asB (shr (shr c)) fun d => br d (ZpY m0 (gcB m0 [] B))
 (Zui m0 x0 x1 (gcB m0 [x0, x1] B)))) := by kernel_rfl
theorem ZAu : ZpY m0 B =
 mk (Z1z (iv (-1)) B) := by kernel_rfl
theorem ZAv : Zui m0 x0 x1 B =
 mk (ob (xbin PP .mul 3 (shr x0) (shr x1)) fun a =>
 callS false EE 75 [a] B fun b c =>
 Z1z (shr b) c) := by kernel_rfl
theorem ZGa : EE 61 [x0, x1] B =
 (let m0 := B.length
 mk (mk (ob (xbin PP .eql 3 (shr x0) (iv 0)) fun a =>
 asB (shr a) fun b => br b (ZpX m0 (gcB m0 [] B))
 (ob (xbin PP .eql 3 (shr x1) (iv 0)) fun c =>
 asB (shr (shr c)) fun d => br d (ZpX m0 (gcB m0 [] B))
 (Zuh m0 x0 x1 (gcB m0 [x0, x1] B)))))) := (E_eq PP XX HH _ _ _).trans (by kernel_rfl)
def ZDw := Z2B Tryd.f62
def Zmr := l2 (l2 ZDw)
def Zum := l2 (l2 Zmr)
def Zk9 (m0 : Nat) : Kont := kret PP HH 62 Tryd.f62.results
def ZGd := kseq HH 62 m0 Zmr (exec PP HH 62 m0 EE LL Zmr (Zk9 m0)) (Zk9 m0)
def ZGe := kseq HH 62 m0 Zum (exec PP HH 62 m0 EE LL Zum (Zk9 m0)) (Zk9 m0)
def ZpZ := exec PP HH 62 m0 EE LL (l1 (l2 (l1 (l2 ZDw)))) (ZGd m0) [] B
def Zuk := exec PP HH 62 m0 EE LL Zmr (Zk9 m0) [(0, x0), (1, x1)] B
def Zul := exec PP HH 62 m0 EE LL (l1 (l2 (l1 (l2 Zmr)))) (ZGe m0) [(0, x0), (1, x1)] B
def Zq0 := exec PP HH 62 m0 EE LL Zum (Zk9 m0) [(6, x6), (7, x7)] B
theorem ZAx : ZpZ m0 B =
 mk (Z5b (iv 0) (iv 0) B) := by kernel_rfl
theorem ZAy : Zuk m0 x0 x1 B =
 mk (ob (xsl 1 (shr x0) (some (shr x1)) none none) fun a =>
 callS false EE 76 [a] B fun b c =>
 ob (xext 0 (shr b)) fun d =>
 ob (xext 1 (shr b)) fun e =>
 mk (ob (xbin PP .eql 21 (shr (shr (shr d))) (kv .i32 65533)) fun f =>
 asB (shr f) fun g => br g (ob (xbin PP .eql 3 (shr (shr (shr e))) (iv 1)) fun h =>
 asB (shr h) fun i => br i (Zul m0 x0 x1 (gcB m0 [x0, x1] c))
 (Zq0 m0 (shr (shr d)) (shr (shr e)) (gcB m0 [(shr (shr d)), (shr (shr e))] c)))
 (Zq0 m0 (shr (shr d)) (shr (shr e)) (gcB m0 [(shr (shr d)), (shr (shr e))] c)))) := by kernel_rfl
theorem ZAz : Zul m0 x0 x1 B =
 mk (ob (xidx 1 (shr x0) (shr x1)) fun a =>
 ob (ldN false 1 a B) fun b =>
 ob (xcnv PP 5 3 b) fun c =>
 ob (xbin PP .add 3 (iv 1114112) c) fun d =>
 Z5b (shr d) (iv 1) B) := by kernel_rfl
theorem ZAA : Zq0 m0 x6 x7 B =
 mk (ob (xcnv PP 21 3 (shr x6)) fun a =>
 Z5b (shr a) (shr (shr x7)) B) := by kernel_rfl
theorem ZGc : EE 62 [x0, x1] B =
 (let m0 := B.length
 mk (mk (ob (xbin PP .lss 3 (shr x1) (iv 0)) fun a =>
 asB (shr a) fun b => br b (ZpZ m0 (gcB m0 [] B))
 (ob (xlen PP 54 (shr x0)) fun c =>
 ob (xbin PP .geq 3 (shr x1) c) fun d =>
 asB (shr d) fun e => br e (ZpZ m0 (gcB m0 [] B))
 (Zuk m0 x0 x1 (gcB m0 [x0, x1] B)))))) := (E_eq PP XX HH _ _ _).trans (by kernel_rfl)
theorem ZGf : EE 63 [x0] B =
 (let m0 := B.length
 mk (mk (ob (Z1F (shr x0)) fun a =>
 ob (xfld 0 a) fun b =>
 ob (ldN false 1 b B) fun c =>
 ob (Z1F (shr x0)) fun d =>
 ob (xfld 1 d) fun e =>
 ob (ldN false 1 e B) fun f =>
 callS false EE 62 [c, f] B fun g h =>
 ob (xext 0 (shr g)) fun i =>
 ob (xext 1 (shr g)) fun j =>
 mk (ob (Z1F (shr x0)) fun k =>
 ob (xfld 1 k) fun l =>
 ob (ldN false 1 l h) fun n =>
 ob (xbin PP .add 3 n (shr (shr (shr j)))) fun o =>
 ob (Z1F (shr x0)) fun p =>
 ob (xfld 1 p) fun q =>
 stN 1 q o h fun r =>
 mk (Z1z (shr (shr (shr (shr i)))) r))))) := (E_eq PP XX HH _ _ _).trans (by kernel_rfl)
def ZHv := Z2B Tryd.f64
def ZGh (m0 : Nat) : Kont := kret PP HH 64 Tryd.f64.results
def Zq1 := exec PP HH 64 m0 EE LL (l2 (l2 (l2 ZHv))) (ZGh m0) [(4, x4), (5, x5)] B
theorem ZAB : Zq1 m0 x4 x5 B =
 mk (ob (Z1E PP 31 [(0, (iv 1)), (5, (shr x5))]) fun a =>
 stN 7 x4 a B fun b =>
 Z7F x4 b) := by kernel_rfl
theorem ZGg : EE 64 [x0, x1] B =
 (let m0 := B.length
 mk (bz PP 31 B fun a b =>
 mk (callS false EE 77 [(shr x1)] b fun c d =>
 ob (xext 0 (shr c)) fun e =>
 ob (xext 1 (shr c)) fun f =>
 mk (asB (shr x0) fun g => br g (mk (callS false EE 17 [(shr (shr (shr e)))] d fun h i =>
 ob (xext 0 (shr h)) fun j =>
 ob (xext 1 (shr h)) fun k =>
 Zq1 m0 a (shr (shr j)) (gcB m0 [a, (shr (shr j))] i)))
 (Zq1 m0 a (shr (shr e)) (gcB m0 [a, (shr (shr e))] d)))))) := (E_eq PP XX HH _ _ _).trans (by kernel_rfl)
def ZE4 (r0 : AV) (B : List Row) : Option Res :=
 ob (ob (ldN true 2 r0 B) fun v => ob (some []) fun vs => some (v :: vs)) fun vs => some ((nrmA (match vs with | [v] => v | vs => Z97 (vs.map shr))), B)
theorem ZGi : EE 65 [x0] B =
 (let m0 := B.length
 mk (bz PP 47 B fun a b =>
 mk (ob (Z1E PP 47 [(0, (shr x0)), (1, (shr x0))]) fun c =>
 stN 2 a c b fun d =>
 ZE4 a d))) := (E_eq PP XX HH _ _ _).trans (by kernel_rfl)
def ZHw := Z2B Tryd.f66
def Zuo := l2 (l2 (l2 ZHw))
def Zup := l2 (l2 Zuo)
def Zq2 (m0 : Nat) : Kont := kret PP HH 66 Tryd.f66.results
def ZGk := kseq HH 66 m0 Zup (exec PP HH 66 m0 EE LL Zup (Zq2 m0)) (Zq2 m0)
def ZGl := kblk 0 (ZGk m0)
def Zun := exec PP HH 66 m0 EE LL Zuo (Zq2 m0) [(0, x0), (1, x1), (4, x4), (5, x5)] B
def Zrt := exec PP HH 66 m0 EE LL (l1 (l2 (l2 (l2 (l2 (l2 (l2 (l2 (l1 (l1 (l2 Zuo))))))))))) (ZGl m0) [(0, x0), (1, x1), (4, x4), (5, x5)] B
def ZnB := exec PP HH 66 m0 EE LL Zup (Zq2 m0) [(0, x0), (1, x1), (4, x4), (5, x5)] B
theorem ZAC : Zun m0 x0 x1 x4 x5 B =
 mk (callS false EE 63 [(shr x0)] B fun a b =>
 mk (callS true EE 78 [(shr x5)] b fun c d =>
 ob (xnil PP .neq 27 (.slice none 0 0) c) fun e =>
 asB (shr e) fun f => br f (mk (ob (xbin PP .lss 3 (shr x5) (iv 97)) fun g =>
 callS true EE 78 [(shr x5)] d fun h i =>
 callS false EE 64 [g, h] i fun j k =>
 stN 7 x4 j k fun l =>
 Z7F x4 l))
 (mk (ob (xbin PP .eql 3 (shr x5) (iv 98)) fun n =>
 asB (shr n) fun o => br o (mk (ob (Z1E PP 31 [(0, (iv 9)), (4, (iv 2))]) fun p =>
 stN 7 x4 p d fun q =>
 Z7F x4 q))
 (mk (ob (xbin PP .eql 3 (shr x5) (iv 66)) fun r =>
 asB (shr r) fun s => br s (mk (ob (Z1E PP 31 [(0, (iv 9)), (4, (iv 3))]) fun t =>
 stN 7 x4 t d fun u =>
 Z7F x4 u))
 (mk (ob (xbin PP .geq 3 (shr x5) (iv 49)) fun v =>
 asB (shr v) fun w => br w (ob (xbin PP .leq 3 (shr x5) (iv 57)) fun x =>
 asB (shr (shr x)) fun y => br y (Zrt m0 x0 x1 x4 x5 (gcB m0 [x0, x1, x4, x5] d))
 (ZnB m0 x0 x1 x4 x5 (gcB m0 [x0, x1, x4, x5] d)))
 (ZnB m0 x0 x1 x4 x5 (gcB m0 [x0, x1, x4, x5] d)))))))))) := by kernel_rfl
theorem ZxR : Zrt m0 x0 x1 x4 x5 B =
 mk (ob (Z1F (shr x0)) fun a =>
 ob (xfld 4 a) fun b =>
 ldOwn b B fun c d =>
 ob (xbin PP .sub 3 (shr x5) (iv 48)) fun e =>
 ob (Z1E PP 61 [(0, e), (1, (shr x1))]) fun f =>
 ob (xlit PP 55 1 [(0, f)]) fun g =>
 ob (xapp 2 c g) fun h =>
 ob (Z1F (shr x0)) fun i =>
 ob (xfld 4 i) fun j =>
 stN 1 j h d fun k =>
 mk (ob (xbin PP .sub 3 (shr x5) (iv 48)) fun l =>
 ob (Z1E PP 31 [(0, (iv 6)), (4, l)]) fun n =>
 stN 7 x4 n k fun o =>
 Z7F x4 o)) := by kernel_rfl
theorem ZxS : ZnB m0 x0 x1 x4 x5 B =
 mk (callS false EE 79 [(shr x0), (shr x5), (shr x1)] B fun a b =>
 callS false EE 65 [a] b fun c d =>
 ob (xlit PP 27 1 [(0, c)]) fun e =>
 callS false EE 64 [(bv false), e] d fun f g =>
 stN 7 x4 f g fun h =>
 Z7F x4 h) := by kernel_rfl
theorem ZGj : EE 66 [x0, x1] B =
 (let m0 := B.length
 mk (bz PP 31 B fun a b =>
 mk (callS false EE 47 [(shr x0)] b fun c d =>
 mk (ob (xbin PP .lss 3 (shr (shr c)) (iv 0)) fun e =>
 asB e fun f => br f (mk (callS false EE 21 [(shr x0), (iv 21), (shr x1)] d fun g h =>
 mk (ob (Z1E PP 31 []) fun i =>
 stN 7 a i h fun j =>
 Z7F a j)))
 (Zun m0 x0 x1 a (shr c) (gcB m0 [x0, x1, a, (shr c)] d)))))) := (E_eq PP XX HH _ _ _).trans (by kernel_rfl)
def ZDx := Z2B Tryd.f67
def Zuu := l2 (l2 (l2 (l2 (l2 (l2 ZDx)))))
def ZeQ := l1 (l1 (l1 (l2 (l2 (l2 (l2 (l2 ZDx)))))))
def Zq5 := l2 (l2 (l1 (l1 (l2 ZeQ))))
def Zq6 := l2 (l2 Zq5)
def Zut := l2 (l2 Zq6)
def Zq7 := l2 (l1 (l2 (l1 (l2 Zq6))))
def ZAH := l2 (l1 (l2 (l2 (l2 (l1 (l2 (l2 (l1 (l2 (l1 (l1 (l2 ZeQ))))))))))))
def Zuq (m0 : Nat) : Kont := kret PP HH 67 Tryd.f67.results
def ZGn := kseq HH 67 m0 Zuu (exec PP HH 67 m0 EE LL Zuu (Zuq m0)) (Zuq m0)
def Zur := kblk 0 (ZGn m0)
def Zq3 := kloop HH 67 m0 ZeQ (LL 67 m0 ZeQ (Zur m0)) (Zur m0)
def ZGo := kseq HH 67 m0 (l2 (l2 ZeQ)) (exec PP HH 67 m0 EE LL (l2 (l2 ZeQ)) (Zq3 m0)) (Zq3 m0)
def Zip := kblk 1 (ZGo m0)
def ZGp := kseq HH 67 m0 Zq5 (exec PP HH 67 m0 EE LL Zq5 (Zip m0)) (Zip m0)
def ZAD := kblk 2 (ZGp m0)
def Zq4 := kseq HH 67 m0 Zut (exec PP HH 67 m0 EE LL Zut (Zip m0)) (Zip m0)
def ZGq := kseq HH 67 m0 Zq7 (exec PP HH 67 m0 EE LL Zq7 (Zq4 m0)) (Zq4 m0)
def Zms := lp (LL 67 m0 ZeQ (Zur m0) [(0, x0), (1, x1), (4, x4), (5, x5), (6, x6), (7, x7), (8, x8)] B)
def Zus := exec PP HH 67 m0 EE LL (l2 ZeQ) (Zq3 m0) [(0, x0), (1, x1), (4, x4), (5, x5), (6, x6), (7, x7), (8, x8)] B
def Zrx := exec PP HH 67 m0 EE LL Zuu (Zuq m0) [(4, x4)] B
def Zc4 := exec PP HH 67 m0 EE LL (l2 (l2 ZeQ)) (Zq3 m0) [(0, x0), (1, x1), (4, x4), (5, x5), (6, x6), (7, x7), (8, x8)] B
def Zru := exec PP HH 67 m0 EE LL ZAH (ZAD m0) [(0, x0), (4, x4), (5, x5), (6, x6)] B
def ZnD := exec PP HH 67 m0 EE LL Zq5 (Zip m0) [(0, x0), (1, x1), (4, x4), (5, x5), (6, x6), (7, x7), (8, x8), (9, x9)] B
def ZnC := exec PP HH 67 m0 EE LL (l2 (l2 ZAH)) (ZAD m0) [(4, x4), (6, x6)] B
def Zrv := exec PP HH 67 m0 EE LL Zq6 (Zip m0) [(0, x0), (1, x1), (4, x4), (5, x5), (6, x6), (7, x7), (8, x8), (9, x9), (11, x11)] B
def Zi9 := exec PP HH 67 m0 EE LL (l1 (l2 (l2 (l1 (l1 (l2 (l1 (l2 Zq6)))))))) (ZGq m0) [(0, x0), (1, x1), (4, x4), (5, x5), (6, x6), (7, x7), (8, x8), (9, x9)] B
def Zrw := exec PP HH 67 m0 EE LL Zq7 (Zq4 m0) [(0, x0), (1, x1), (4, x4), (5, x5), (6, x6), (7, x7), (8, x8), (9, x9), (11, x11)] B
def Zia := exec PP HH 67 m0 EE LL Zut (Zip m0) [(0, x0), (1, x1), (4, x4), (5, x5), (6, x6), (7, x7), (8, x8), (11, x11), (15, x15)] B
def ZnE := exec PP HH 67 m0 EE LL (l1 (l2 (l2 Zq7))) (Zq4 m0) [(0, x0), (1, x1), (4, x4), (5, x5), (6, x6), (7, x7), (8, x8), (9, x9), (11, x11), (15, x15)] B
theorem ZAE : Zms m0 x0 x1 x4 x5 x6 x7 x8 B =
 mk (ob (Z1F (shr x0)) fun a =>
 ob (xfld 5 a) fun b =>
 ob (xfld 0 b) fun c =>
 ob (ldN false 1 c B) fun d =>
 ob (xbin PP .eql 24 d (iv 0)) fun e =>
 asB e fun f => br f (Zus m0 x0 x1 x4 x5 x6 x7 x8 (gcB m0 [x0, x1, x4, x5, x6, x7, x8] B))
 (Zrx m0 x4 (gcB m0 [x4] B))) := lq_ (by kernel_rfl)
theorem ZAG : Zus m0 x0 x1 x4 x5 x6 x7 x8 B =
 mk (ob (Z1F (shr x0)) fun a =>
 ob (xfld 1 a) fun b =>
 ob (ldN false 1 b B) fun c =>
 mk (callS false EE 47 [(shr x0)] B fun d e =>
 mk (mk (ob (xbin PP .eql 3 (shr (shr d)) (iv (-1))) fun f =>
 asB (shr f) fun g => br g (mk (callS false EE 21 [(shr x0), (iv 22), (shr x1)] e fun h i =>
 Zc4 m0 x0 x1 x4 x5 x6 x7 x8 (gcB m0 [x0, x1, x4, x5, x6, x7, x8] i)))
 (mk (ob (xbin PP .eql 3 (shr (shr d)) (iv 93)) fun j =>
 asB (shr j) fun k => br k (mk (ob (xbin PP .eql 3 (shr x8) (iv 0)) fun l =>
 asB l fun n => br n (mk (callS false EE 21 [(shr x0), (iv 22), (shr x1)] e fun o p =>
 Zc4 m0 x0 x1 x4 x5 x6 x7 x8 (gcB m0 [x0, x1, x4, x5, x6, x7, x8] p)))
 (Zru m0 x0 x4 x5 x6 (gcB m0 [x0, x4, x5, x6] e))))
 (mk (ob (xbin PP .eql 3 (shr (shr d)) (iv 91)) fun q =>
 asB (shr q) fun r => br r (asB (shr q) fun s => br s (mk (callS false EE 21 [(shr x0), (iv 22), (shr (shr c))] e fun t u =>
 Zc4 m0 x0 x1 x4 x5 x6 x7 x8 (gcB m0 [x0, x1, x4, x5, x6, x7, x8] u)))
 (ZnD m0 x0 x1 x4 x5 x6 x7 x8 (shr c) (gcB m0 [x0, x1, x4, x5, x6, x7, x8, (shr c)] e)))
 (mk (ob (xbin PP .eql 3 (shr (shr d)) (iv 45)) fun v =>
 asB (shr v) fun w => br w (mk (callS false EE 21 [(shr x0), (iv 22), (shr (shr c))] e fun x y =>
 Zc4 m0 x0 x1 x4 x5 x6 x7 x8 (gcB m0 [x0, x1, x4, x5, x6, x7, x8] y)))
 (ZnD m0 x0 x1 x4 x5 x6 x7 x8 (shr c) (gcB m0 [x0, x1, x4, x5, x6, x7, x8, (shr c)] e)))))))))))) := by kernel_rfl
theorem Zy1 : Zrx m0 x4 B =
 mk (ob (Z1E PP 31 []) fun a =>
 stN 7 x4 a B fun b =>
 Z7F x4 b) := by kernel_rfl
theorem ZAF : Zc4 m0 x0 x1 x4 x5 x6 x7 x8 B =
 mk (ob (xbin PP .add 3 (shr x8) (iv 1)) fun a =>
 Zms m0 x0 x1 x4 x5 x6 x7 (shr a) (gcB m0 [x0, x1, x4, x5, x6, x7, (shr a)] B)) := by kernel_rfl
theorem ZxT : Zru m0 x0 x4 x5 x6 B =
 mk (callS false EE 63 [(shr x0)] B fun a b =>
 mk (asB (shr x5) fun c => br c (mk (ob (ldN false 1 x6 b) fun d =>
 callS false EE 17 [d] b fun e f =>
 ob (xext 0 (shr e)) fun g =>
 ob (xext 1 (shr e)) fun h =>
 stN 1 x6 (shr g) f fun i =>
 ZnC m0 x4 x6 (gcB m0 [x4, x6] i)))
 (ZnC m0 x4 x6 (gcB m0 [x4, x6] b)))) := by kernel_rfl
theorem ZxV : ZnD m0 x0 x1 x4 x5 x6 x7 x8 x9 B =
 mk (callS true EE 81 [(shr x0)] B fun a b =>
 ob (xext 0 (shr a)) fun c =>
 ob (xext 1 (shr a)) fun d =>
 ob (xext 2 (shr a)) fun e =>
 mk (ob (xnil PP .neq 27 (.slice none 0 0) (shr (shr (shr d)))) fun f =>
 asB f fun g => br g (mk (callS false EE 64 [(shr (shr (shr e))), (shr (shr (shr d)))] b fun h i =>
 bz PP 31 i fun j k =>
 stN 7 j h k fun l =>
 mk (ob (xfld 5 j) fun n =>
 ob (ldN false 1 n l) fun o =>
 callV HH EE (shr x7) [o] l fun p q =>
 mk (callS false EE 47 [(shr x0)] q fun r s =>
 ob (xbin PP .eql 3 r (iv 45)) fun t =>
 asB t fun u => br u (mk (ob (Z1F (shr x0)) fun v =>
 ob (xfld 1 v) fun w =>
 ob (ldN false 1 w s) fun x =>
 callS false EE 21 [(shr x0), (iv 22), x] s fun y z =>
 Zc4 m0 x0 x1 x4 x5 x6 x7 x8 (gcB m0 [x0, x1, x4, x5, x6, x7, x8] z)))
 (Zc4 m0 x0 x1 x4 x5 x6 x7 x8 (gcB m0 [x0, x1, x4, x5, x6, x7, x8] s))))))
 (Zrv m0 x0 x1 x4 x5 x6 x7 x8 x9 (shr (shr c)) (gcB m0 [x0, x1, x4, x5, x6, x7, x8, x9, (shr (shr c))] b)))) := by kernel_rfl
theorem ZxU : ZnC m0 x4 x6 B =
 mk (ob (ldN false 1 x6 B) fun a =>
 ob (Z1E PP 31 [(0, (iv 1)), (5, a)]) fun b =>
 stN 7 x4 b B fun c =>
 Z7F x4 c) := by kernel_rfl
theorem ZxW : Zrv m0 x0 x1 x4 x5 x6 x7 x8 x9 x11 B =
 mk (mk (callS false EE 19 [(shr x0), (.p (.v (.string (ByteArray.mk #[45]))))] B fun a b =>
 asB a fun c => br c (mk (callS false EE 47 [(shr x0)] b fun d e =>
 mk (ob (xbin PP .eql 3 (shr (shr d)) (iv 93)) fun f =>
 asB (shr f) fun g => br g (Zi9 m0 x0 x1 x4 x5 x6 x7 x8 x9 (gcB m0 [x0, x1, x4, x5, x6, x7, x8, x9] e))
 (ob (xbin PP .eql 3 (shr (shr d)) (iv 91)) fun h =>
 asB (shr (shr h)) fun i => br i (Zi9 m0 x0 x1 x4 x5 x6 x7 x8 x9 (gcB m0 [x0, x1, x4, x5, x6, x7, x8, x9] e))
 (ob (xbin PP .eql 3 (shr (shr d)) (iv 45)) fun j =>
 asB (shr (shr j)) fun k => br k (Zi9 m0 x0 x1 x4 x5 x6 x7 x8 x9 (gcB m0 [x0, x1, x4, x5, x6, x7, x8, x9] e))
 (ob (xbin PP .lss 3 (shr (shr d)) (iv 0)) fun l =>
 asB (shr l) fun n => br n (Zi9 m0 x0 x1 x4 x5 x6 x7 x8 x9 (gcB m0 [x0, x1, x4, x5, x6, x7, x8, x9] e))
 (Zrw m0 x0 x1 x4 x5 x6 x7 x8 x9 x11 (gcB m0 [x0, x1, x4, x5, x6, x7, x8, x9, x11] e))))))))
 (Zia m0 x0 x1 x4 x5 x6 x7 x8 x11 (shr (shr x11)) (gcB m0 [x0, x1, x4, x5, x6, x7, x8, x11, (shr (shr x11))] b)))) := by kernel_rfl
theorem ZxX : Zi9 m0 x0 x1 x4 x5 x6 x7 x8 x9 B =
 mk (callS false EE 21 [(shr x0), (iv 22), (shr x9)] B fun a b =>
 Zc4 m0 x0 x1 x4 x5 x6 x7 x8 (gcB m0 [x0, x1, x4, x5, x6, x7, x8] b)) := by kernel_rfl
theorem ZxY : Zrw m0 x0 x1 x4 x5 x6 x7 x8 x9 x11 B =
 mk (callS true EE 81 [(shr x0)] B fun a b =>
 ob (xext 0 (shr a)) fun c =>
 ob (xext 1 (shr a)) fun d =>
 ob (xext 2 (shr a)) fun e =>
 mk (ob (Z1F (shr x0)) fun f =>
 ob (xfld 5 f) fun g =>
 ob (xfld 0 g) fun h =>
 ob (ldN false 1 h b) fun i =>
 ob (xbin PP .eql 24 i (iv 0)) fun j =>
 asB (shr j) fun k => br k (ob (xnil PP .neq 27 (.slice none 0 0) (shr (shr (shr d)))) fun l =>
 asB (shr l) fun n => br n (ZnE m0 x0 x1 x4 x5 x6 x7 x8 x9 x11 (shr (shr c)) (gcB m0 [x0, x1, x4, x5, x6, x7, x8, x9, x11, (shr (shr c))] b))
 (ob (xbin PP .lss 3 (shr (shr (shr c))) (shr x11)) fun o =>
 asB (shr (shr o)) fun p => br p (ZnE m0 x0 x1 x4 x5 x6 x7 x8 x9 x11 (shr (shr c)) (gcB m0 [x0, x1, x4, x5, x6, x7, x8, x9, x11, (shr (shr c))] b))
 (Zia m0 x0 x1 x4 x5 x6 x7 x8 x11 (shr (shr c)) (gcB m0 [x0, x1, x4, x5, x6, x7, x8, x11, (shr (shr c))] b))))
 (Zia m0 x0 x1 x4 x5 x6 x7 x8 x11 (shr (shr c)) (gcB m0 [x0, x1, x4, x5, x6, x7, x8, x11, (shr (shr c))] b)))) := by kernel_rfl
theorem Zy0 : Zia m0 x0 x1 x4 x5 x6 x7 x8 x11 x15 B =
 mk (ob (Z1F (shr x0)) fun a =>
 ob (xfld 5 a) fun b =>
 ob (xfld 0 b) fun c =>
 ob (ldN false 1 c B) fun d =>
 ob (xbin PP .eql 24 d (iv 0)) fun e =>
 asB e fun f => br f (mk (ob (Z1E PP 47 [(0, (shr x11)), (1, (shr x15))]) fun g =>
 ob (xlit PP 28 1 [(0, g)]) fun h =>
 callV HH EE (shr x7) [h] B fun i j =>
 Zc4 m0 x0 x1 x4 x5 x6 x7 x8 (gcB m0 [x0, x1, x4, x5, x6, x7, x8] j)))
 (Zc4 m0 x0 x1 x4 x5 x6 x7 x8 (gcB m0 [x0, x1, x4, x5, x6, x7, x8] B))) := by kernel_rfl
theorem ZxZ : ZnE m0 x0 x1 x4 x5 x6 x7 x8 x9 x11 x15 B =
 mk (callS false EE 21 [(shr x0), (iv 22), (shr x9)] B fun a b =>
 Zia m0 x0 x1 x4 x5 x6 x7 x8 x11 x15 (gcB m0 [x0, x1, x4, x5, x6, x7, x8, x11, x15] b)) := by kernel_rfl
theorem ZGm : EE 67 [x0, x1] B =
 (let m0 := B.length
 mk (bz PP 31 B fun a b =>
 mk (callS false EE 19 [(shr x0), (.p (.v (.string (ByteArray.mk #[94]))))] b fun c d =>
 mk (bz PP 28 d fun e f =>
 mk (mk (Zms m0 x0 x1 a (shr c) e (shr (.clo 80 ([].map nrmA) ([e].map nrmA))) (iv 0) (gcB m0 [x0, x1, a, (shr c), e, (shr (.clo 80 ([].map nrmA) ([e].map nrmA))), (iv 0)] f))))))) := (E_eq PP XX HH _ _ _).trans (by kernel_rfl)
def ZHx := Z2B Tryd.f68
def ZAJ := l2 (l2 ZHx)
def Zuw := l2 (l2 ZAJ)
def Zq8 := l2 (l2 Zuw)
def Zka (m0 : Nat) : Kont := kret PP HH 68 Tryd.f68.results
def ZGs := kseq HH 68 m0 Zq8 (exec PP HH 68 m0 EE LL Zq8 (Zka m0)) (Zka m0)
def Zuv := exec PP HH 68 m0 EE LL ZAJ (Zka m0) [(0, x0), (1, x1), (4, x4)] B
def Zeh := exec PP HH 68 m0 EE LL Zuw (Zka m0) [(0, x0), (1, x1), (4, x4)] B
def Zry := exec PP HH 68 m0 EE LL (l1 (l2 (l1 (l2 Zuw)))) (ZGs m0) [(0, x0), (1, x1), (4, x4), (7, x7)] B
def Zkb := exec PP HH 68 m0 EE LL Zq8 (Zka m0) [(0, x0), (4, x4), (7, x7)] B
def Zrz := exec PP HH 68 m0 EE LL (l2 (l2 Zq8)) (Zka m0) [(4, x4), (7, x7)] B
theorem ZAI : Zuv m0 x0 x1 x4 B =
 mk (ob (Z1F (shr x0)) fun a =>
 ob (xfld 3 a) fun b =>
 ob (ldN false 1 b B) fun c =>
 ob (xbin PP .add 3 c (iv 1)) fun d =>
 ob (Z1F (shr x0)) fun e =>
 ob (xfld 3 e) fun f =>
 stN 1 f d B fun g =>
 mk (callS false EE 83 [] g fun h i =>
 callS false EE 82 [h, (.clo 19 ([(shr x0)].map nrmA) ([].map nrmA))] i fun j k =>
 mk (ob (xbin PP .geq 3 (shr (shr j)) (iv 0)) fun l =>
 asB (shr l) fun n => br n (mk (ob (Z1E PP 31 [(0, (iv 7)), (3, (shr (shr j)))]) fun o =>
 stN 7 x4 o k fun q =>
 Zeh m0 x0 x1 x4 (gcB m0 [x0, x1, x4] q)))
 (mk (callS false EE 19 [(shr x0), (.p (.v (.string (ByteArray.mk #[63, 62]))))] k fun r s =>
 asB (shr r) fun t => br t (mk (ob (Z1E PP 31 [(0, (iv 8))]) fun u =>
 stN 7 x4 u s fun w =>
 Zeh m0 x0 x1 x4 (gcB m0 [x0, x1, x4] w)))
 (mk (callS false EE 19 [(shr x0), (.p (.v (.string (ByteArray.mk #[63, 58]))))] s fun x y =>
 asB (shr x) fun z => br z (Zeh m0 x0 x1 x4 (gcB m0 [x0, x1, x4] y))
 (mk (callS false EE 47 [(shr x0)] y fun A C =>
 ob (xbin PP .eql 3 A (iv 63)) fun D =>
 asB (shr D) fun F => br F (mk (callS false EE 21 [(shr x0), (iv 20), (shr x1)] C fun G I =>
 Zeh m0 x0 x1 x4 (gcB m0 [x0, x1, x4] I)))
 (mk (ob (Z1F (shr x0)) fun J =>
 ob (xfld 2 J) fun M =>
 ob (ldN false 1 M C) fun N =>
 ob (xbin PP .eql 3 N (iv 9)) fun O =>
 asB (shr O) fun Q => br Q (mk (callS false EE 21 [(shr x0), (iv 24), (shr x1)] C fun R S =>
 Zeh m0 x0 x1 x4 (gcB m0 [x0, x1, x4] S)))
 (mk (ob (Z1F (shr x0)) fun T =>
 ob (xfld 2 T) fun U =>
 ob (ldN false 1 U C) fun V =>
 ob (xbin PP .add 3 V (iv 1)) fun W =>
 ob (Z1F (shr x0)) fun Y =>
 ob (xfld 2 Y) fun Z =>
 stN 1 Z W C fun a0 =>
 mk (ob (Z1F (shr x0)) fun a1 =>
 ob (xfld 2 a1) fun a2 =>
 ob (ldN false 1 a2 a0) fun a3 =>
 ob (Z1E PP 31 [(0, (iv 5)), (4, a3)]) fun a4 =>
 stN 7 x4 a4 a0 fun a5 =>
 Zeh m0 x0 x1 x4 (gcB m0 [x0, x1, x4] a5))))))))))))))) := by kernel_rfl
theorem Zy2 : Zeh m0 x0 x1 x4 B =
 mk (callS false EE 20 [(shr x0)] B fun a b =>
 bz PP 31 b fun c d =>
 stN 7 c a d fun e =>
 mk (ob (Z1F (shr x0)) fun f =>
 ob (xfld 5 f) fun g =>
 ob (xfld 0 g) fun h =>
 ob (ldN false 1 h e) fun i =>
 ob (xbin PP .eql 24 i (iv 0)) fun j =>
 asB (shr j) fun k => br k (callS false EE 19 [(shr x0), (.p (.v (.string (ByteArray.mk #[41]))))] e fun l n =>
 ob (xun PP .not l) fun o =>
 asB (shr o) fun q => br q (Zry m0 x0 x1 x4 c (gcB m0 [x0, x1, x4, c] n))
 (Zkb m0 x0 x4 c (gcB m0 [x0, x4, c] n)))
 (Zkb m0 x0 x4 c (gcB m0 [x0, x4, c] e)))) := by kernel_rfl
theorem Zy3 : Zry m0 x0 x1 x4 x7 B =
 mk (callS false EE 21 [(shr x0), (iv 20), (shr x1)] B fun a b =>
 Zkb m0 x0 x4 x7 (gcB m0 [x0, x4, x7] b)) := by kernel_rfl
theorem Zy4 : Zkb m0 x0 x4 x7 B =
 mk (ob (Z1F (shr x0)) fun a =>
 ob (xfld 3 a) fun b =>
 ob (ldN false 1 b B) fun c =>
 ob (xbin PP .sub 3 c (iv 1)) fun d =>
 ob (Z1F (shr x0)) fun e =>
 ob (xfld 3 e) fun f =>
 stN 1 f d B fun g =>
 mk (ob (xfld 0 x4) fun h =>
 ob (ldN false 1 h g) fun i =>
 ob (xbin PP .eql 3 i (iv 0)) fun j =>
 asB j fun k => br k (mk (ob (ldN true 7 x7 g) fun l =>
 stN 7 x4 l g fun n =>
 Z6t x4 (bv true) n))
 (Zrz m0 x4 x7 (gcB m0 [x4, x7] g)))) := by kernel_rfl
theorem Zy5 : Zrz m0 x4 x7 B =
 mk (ob (ldN true 7 x7 B) fun a =>
 ob (xlit PP 29 1 [(0, a)]) fun b =>
 ob (xfld 6 x4) fun c =>
 stN 1 c b B fun d =>
 mk (ob (ldN true 7 x4 d) fun e =>
 ob (xfld 0 x4) fun f =>
 ob (ldN false 1 f d) fun g =>
 ob (xbin PP .neq 3 g (iv 7)) fun h =>
 stN 7 x4 e d fun i =>
 Z6t x4 (shr h) i)) := by kernel_rfl
theorem ZGr : EE 68 [x0, x1] B =
 (let m0 := B.length
 mk (bz PP 31 B fun a b =>
 mk (ob (Z1F (shr x0)) fun c =>
 ob (xfld 3 c) fun d =>
 ob (ldN false 1 d b) fun e =>
 ob (xbin PP .eql 3 e (iv 32)) fun f =>
 asB f fun g => br g (mk (callS false EE 21 [(shr x0), (iv 25), (shr x1)] b fun h i =>
 mk (ob (Z1E PP 31 []) fun j =>
 stN 7 a j i fun k =>
 Z6t a (bv true) k)))
 (Zuv m0 x0 x1 a (gcB m0 [x0, x1, a] b))))) := (E_eq PP XX HH _ _ _).trans (by kernel_rfl)
def ZDy := Z2B Tryd.f69
def Ziq := l2 (l2 (l2 (l2 ZDy)))
def Zmt := l1 (l2 (l2 (l1 (l2 (l1 (l2 (l2 (l2 ZDy))))))))
def Zkc (m0 : Nat) : Kont := kret PP HH 69 Tryd.f69.results
def Zq9 := kseq HH 69 m0 Ziq (exec PP HH 69 m0 EE LL Ziq (Zkc m0)) (Zkc m0)
def ZGu := kseq HH 69 m0 (l2 Zmt) (exec PP HH 69 m0 EE LL (l2 Zmt) (Zq9 m0)) (Zq9 m0)
def ZGv := kseq HH 69 m0 (l2 Ziq) (exec PP HH 69 m0 EE LL (l2 Ziq) (Zkc m0)) (Zkc m0)
def Zux := exec PP HH 69 m0 EE LL Zmt (Zq9 m0) [(0, x0), (1, x1), (4, x4)] B
def Zkd := exec PP HH 69 m0 EE LL Ziq (Zkc m0) [(0, x0), (1, x1), (4, x4), (5, x5)] B
def Zuy := exec PP HH 69 m0 EE LL (l1 (l2 (l1 Zmt))) (ZGu m0) [(4, x4)] B
def Zqa := exec PP HH 69 m0 EE LL (l2 Zmt) (Zq9 m0) [(0, x0), (1, x1), (4, x4)] B
def Zib := exec PP HH 69 m0 EE LL (l1 (l2 (l1 Ziq))) (ZGv m0) [(0, x0), (1, x1), (4, x4), (5, x5)] B
def ZnF := exec PP HH 69 m0 EE LL (l2 Ziq) (Zkc m0) [(4, x4), (5, x5)] B
theorem ZAK : Zux m0 x0 x1 x4 B =
 mk (callS false EE 19 [(shr x0), (.p (.v (.string (ByteArray.mk #[125]))))] B fun a b =>
 asB (shr a) fun c => br c (ob (xbin PP .leq 3 (shr x4) (iv 64)) fun d =>
 asB (shr d) fun e => br e (Zuy m0 x4 (gcB m0 [x4] b))
 (Zqa m0 x0 x1 x4 (gcB m0 [x0, x1, x4] b)))
 (Zqa m0 x0 x1 x4 (gcB m0 [x0, x1, x4] b))) := by kernel_rfl
theorem ZAN : Zkd m0 x0 x1 x4 x5 B =
 mk (ob (xbin PP .lss 3 (shr x4) (iv 0)) fun a =>
 asB (shr a) fun b => br b (Zib m0 x0 x1 x4 x5 (gcB m0 [x0, x1, x4, x5] B))
 (ob (xbin PP .lss 3 (shr x5) (shr x4)) fun c =>
 asB (shr (shr c)) fun d => br d (Zib m0 x0 x1 x4 x5 (gcB m0 [x0, x1, x4, x5] B))
 (ob (xbin PP .gtr 3 (shr x5) (iv 64)) fun e =>
 asB (shr (shr e)) fun f => br f (Zib m0 x0 x1 x4 x5 (gcB m0 [x0, x1, x4, x5] B))
 (callS false EE 19 [(shr x0), (.p (.v (.string (ByteArray.mk #[125]))))] B fun g h =>
 ob (xun PP .not g) fun i =>
 asB (shr i) fun j => br j (Zib m0 x0 x1 x4 x5 (gcB m0 [x0, x1, x4, x5] h))
 (ZnF m0 x4 x5 (gcB m0 [x4, x5] h)))))) := by kernel_rfl
theorem ZAL : Zuy m0 x4 B =
 mk (Z5b (shr (shr x4)) (iv (-1)) B) := by kernel_rfl
theorem ZAM : Zqa m0 x0 x1 x4 B =
 mk (Zkd m0 x0 x1 x4 (iv (-2)) (gcB m0 [x0, x1, x4, (iv (-2))] B)) := by kernel_rfl
theorem Zy6 : Zib m0 x0 x1 x4 x5 B =
 mk (callS false EE 21 [(shr x0), (iv 23), (shr x1)] B fun a b =>
 ZnF m0 x4 x5 (gcB m0 [x4, x5] b)) := by kernel_rfl
theorem Zy7 : ZnF m0 x4 x5 B =
 mk (Z5b (shr (shr x4)) (shr (shr x5)) B) := by kernel_rfl
theorem ZGt : EE 69 [x0, x1] B =
 (let m0 := B.length
 mk (mk (callS false EE 84 [(shr x0)] B fun a b =>
 mk (mk (callS false EE 19 [(shr x0), (.p (.v (.string (ByteArray.mk #[44]))))] b fun c d =>
 asB c fun e => br e (mk (callS false EE 84 [(shr x0)] d fun f g =>
 mk (ob (xbin PP .lss 3 (shr (shr f)) (iv 0)) fun h =>
 asB (shr h) fun i => br i (ob (xbin PP .geq 3 (shr (shr a)) (iv 0)) fun j =>
 asB (shr j) fun k => br k (Zux m0 x0 x1 (shr a) (gcB m0 [x0, x1, (shr a)] g))
 (Zkd m0 x0 x1 (shr a) (shr f) (gcB m0 [x0, x1, (shr a), (shr f)] g)))
 (Zkd m0 x0 x1 (shr a) (shr f) (gcB m0 [x0, x1, (shr a), (shr f)] g)))))
 (Zkd m0 x0 x1 (shr a) (shr (shr (shr a))) (gcB m0 [x0, x1, (shr a), (shr (shr (shr a)))] d))))))) := (E_eq PP XX HH _ _ _).trans (by kernel_rfl)
def ZDz := Z2B Tryd.f73
def ZuE := l2 (l2 ZDz)
def Zqb := l1 (l1 (l2 (l1 (l2 ZDz))))
def ZAT := l2 (l2 Zqb)
def Zuz (m0 : Nat) : Kont := kret PP HH 73 Tryd.f73.results
def ZGx := kseq HH 73 m0 ZuE (exec PP HH 73 m0 EE LL ZuE (Zuz m0)) (Zuz m0)
def ZuA := kblk 0 (ZGx m0)
def ZAO := kloop HH 73 m0 Zqb (LL 73 m0 Zqb (ZuA m0)) (ZuA m0)
def Zmu := lp (LL 73 m0 Zqb (ZuA m0) [(0, x0), (1, x1), (7, x7), (8, x8)] B)
def ZuB := exec PP HH 73 m0 EE LL ZAT (ZAO m0) [(0, x0), (1, x1), (7, x7), (8, x8)] B
def ZuD := exec PP HH 73 m0 EE LL ZuE (Zuz m0) [] B
def ZuC := exec PP HH 73 m0 EE LL (l2 ZAT) (ZAO m0) [(0, x0), (1, x1), (7, x7), (8, x8)] B
theorem ZAP : Zmu m0 x0 x1 x7 x8 B =
 mk (ob (xbin PP .lss 3 x8 x7) fun a =>
 asB a fun b => br b (ZuB m0 x0 x1 x7 x8 (gcB m0 [x0, x1, x7, x8] B))
 (ZuD m0 (gcB m0 [] B))) := lq_ (by kernel_rfl)
theorem ZAQ : ZuB m0 x0 x1 x7 x8 B =
 mk (mk (ob (xidx 7 (shr x0) (shr (shr (shr x8)))) fun a =>
 ob (ldN true 7 a B) fun b =>
 callV HH EE (shr x1) [b] B fun c d =>
 asB c fun e => br e (mk (Z1z (shr (shr (shr (shr x8)))) d))
 (ZuC m0 x0 x1 x7 x8 (gcB m0 [x0, x1, x7, x8] d)))) := by kernel_rfl
theorem ZAS : ZuD m0 B =
 mk (Z1z (iv (-1)) B) := by kernel_rfl
theorem ZAR : ZuC m0 x0 x1 x7 x8 B =
 mk (ob (xbin PP .add 3 x8 (iv 1)) fun a =>
 Zmu m0 x0 x1 x7 (shr a) (gcB m0 [x0, x1, x7, (shr a)] B)) := by kernel_rfl
theorem ZGw : EE 73 [x0, x1] B =
 (let m0 := B.length
 mk (mk (ob (xlen PP 29 (shr x0)) fun a =>
 Zmu m0 x0 x1 a (iv 0) (gcB m0 [x0, x1, a, (iv 0)] B)))) := (E_eq PP XX HH _ _ _).trans (by kernel_rfl)
def ZHy := Z2B Tryd.f75
def ZGz (m0 : Nat) : Kont := kret PP HH 75 Tryd.f75.results
def ZuF := exec PP HH 75 m0 EE LL (l2 (l2 ZHy)) (ZGz m0) [(0, x0)] B
theorem ZAU : ZuF m0 x0 B =
 mk (Z1z (shr (shr x0)) B) := by kernel_rfl
theorem ZGy : EE 75 [x0] B =
 (let m0 := B.length
 mk (mk (ob (xbin PP .gtr 3 (shr x0) (iv 1048576)) fun a =>
 asB a fun b => br b (mk (Z1z (iv (-1)) B))
 (ZuF m0 x0 (gcB m0 [x0] B))))) := (E_eq PP XX HH _ _ _).trans (by kernel_rfl)
def ZHz := Z2B Tryd.f77
def ZGB (m0 : Nat) : Kont := kret PP HH 77 Tryd.f77.results
def ZuG := exec PP HH 77 m0 EE LL (l2 (l2 ZHz)) (ZGB m0) [(0, x0)] B
theorem ZAV : ZuG m0 x0 B =
 mk (callS false EE 25 [(shr x0)] B fun a b =>
 Z5b (shr a) (iv 0) b) := by kernel_rfl
theorem ZGA : EE 77 [x0] B =
 (let m0 := B.length
 mk (mk (callS false EE 96 [(shr x0), (.clo 97 [] [])] B fun a b =>
 asB a fun c => br c (mk (Z5b nilA (iv 13) b))
 (ZuG m0 x0 (gcB m0 [x0] b))))) := (E_eq PP XX HH _ _ _).trans (by kernel_rfl)
def ZHA := Z2B Tryd.f78
def Z7Z (r0 : AV) (B : List Row) : Option Res :=
 ob (ob (some r0) fun v => ob (some []) fun vs => some (v :: vs)) fun vs => some ((match vs with | [v] => v | vs => Z97 (vs.map shr)), B)
def ZGD (m0 : Nat) : Kont := kret PP HH 78 Tryd.f78.results
def ZbA := exec PP HH 78 m0 EE LL (l2 (l2 ZHA)) (ZGD m0) [] B
theorem Zy8 : ZbA m0 B =
 mk (Z7Z nilA B) := by kernel_rfl
theorem ZGC : EE 78 [x0] B =
 (let m0 := B.length
 mk (mk (mk (ob (xbin PP .eql 3 (shr x0) (iv 100)) fun a =>
 asB (shr a) fun b => br b (asB (shr a) fun c => br c (mk (ob (Z1E PP 47 [(0, (iv 48)), (1, (iv 57))]) fun d =>
 ob (xlit PP 27 1 [(0, d)]) fun e =>
 Z7Z e B))
 (mk (ob (xbin PP .eql 3 (shr x0) (iv 119)) fun f =>
 asB (shr f) fun g => br g (asB (shr f) fun h => br h (mk (ob (Z1E PP 47 [(0, (iv 48)), (1, (iv 57))]) fun i =>
 ob (Z1E PP 47 [(0, (iv 65)), (1, (iv 90))]) fun j =>
 callS false EE 65 [(iv 95)] B fun k l =>
 ob (Z1E PP 47 [(0, (iv 97)), (1, (iv 122))]) fun n =>
 ob (xlit PP 27 4 [(0, i), (1, j), (2, k), (3, n)]) fun o =>
 Z7Z o l))
 (mk (ob (xbin PP .eql 3 (shr x0) (iv 115)) fun p =>
 asB (shr p) fun q => br q (asB (shr p) fun r => br r (mk (ob (Z1E PP 47 [(0, (iv 9)), (1, (iv 13))]) fun s =>
 callS false EE 65 [(iv 32)] B fun t u =>
 ob (xlit PP 27 2 [(0, s), (1, t)]) fun v =>
 Z7Z v u))
 (ZbA m0 (gcB m0 [] B)))
 (mk (ob (xbin PP .eql 3 (shr x0) (iv 83)) fun w =>
 asB (shr w) fun x => br x (mk (ob (Z1E PP 47 [(0, (iv 9)), (1, (iv 13))]) fun y =>
 callS false EE 65 [(iv 32)] B fun z A =>
 ob (xlit PP 27 2 [(0, y), (1, z)]) fun C =>
 Z7Z C A))
 (ZbA m0 (gcB m0 [] B)))))))
 (mk (ob (xbin PP .eql 3 (shr x0) (iv 87)) fun D =>
 asB (shr D) fun F => br F (mk (ob (Z1E PP 47 [(0, (iv 48)), (1, (iv 57))]) fun G =>
 ob (Z1E PP 47 [(0, (iv 65)), (1, (iv 90))]) fun I =>
 callS false EE 65 [(iv 95)] B fun J M =>
 ob (Z1E PP 47 [(0, (iv 97)), (1, (iv 122))]) fun N =>
 ob (xlit PP 27 4 [(0, G), (1, I), (2, J), (3, N)]) fun O =>
 Z7Z O M))
 (mk (ob (xbin PP .eql 3 (shr x0) (iv 115)) fun Q =>
 asB (shr Q) fun R => br R (asB (shr Q) fun S => br S (mk (ob (Z1E PP 47 [(0, (iv 9)), (1, (iv 13))]) fun T =>
 callS false EE 65 [(iv 32)] B fun U V =>
 ob (xlit PP 27 2 [(0, T), (1, U)]) fun W =>
 Z7Z W V))
 (ZbA m0 (gcB m0 [] B)))
 (mk (ob (xbin PP .eql 3 (shr x0) (iv 83)) fun Y =>
 asB (shr Y) fun Z => br Z (mk (ob (Z1E PP 47 [(0, (iv 9)), (1, (iv 13))]) fun a0 =>
 callS false EE 65 [(iv 32)] B fun a1 a2 =>
 ob (xlit PP 27 2 [(0, a0), (1, a1)]) fun a3 =>
 Z7Z a3 a2))
 (ZbA m0 (gcB m0 [] B)))))))))))
 (mk (ob (xbin PP .eql 3 (shr x0) (iv 68)) fun a4 =>
 asB (shr a4) fun a5 => br a5 (mk (ob (Z1E PP 47 [(0, (iv 48)), (1, (iv 57))]) fun a6 =>
 ob (xlit PP 27 1 [(0, a6)]) fun a7 =>
 Z7Z a7 B))
 (mk (ob (xbin PP .eql 3 (shr x0) (iv 119)) fun a8 =>
 asB (shr a8) fun a9 => br a9 (asB (shr a8) fun a10 => br a10 (mk (ob (Z1E PP 47 [(0, (iv 48)), (1, (iv 57))]) fun a11 =>
 ob (Z1E PP 47 [(0, (iv 65)), (1, (iv 90))]) fun a12 =>
 callS false EE 65 [(iv 95)] B fun a13 a14 =>
 ob (Z1E PP 47 [(0, (iv 97)), (1, (iv 122))]) fun a15 =>
 ob (xlit PP 27 4 [(0, a11), (1, a12), (2, a13), (3, a15)]) fun a16 =>
 Z7Z a16 a14))
 (mk (ob (xbin PP .eql 3 (shr x0) (iv 115)) fun a17 =>
 asB (shr a17) fun a18 => br a18 (asB (shr a17) fun a19 => br a19 (mk (ob (Z1E PP 47 [(0, (iv 9)), (1, (iv 13))]) fun a20 =>
 callS false EE 65 [(iv 32)] B fun a21 a22 =>
 ob (xlit PP 27 2 [(0, a20), (1, a21)]) fun a23 =>
 Z7Z a23 a22))
 (ZbA m0 (gcB m0 [] B)))
 (mk (ob (xbin PP .eql 3 (shr x0) (iv 83)) fun a24 =>
 asB (shr a24) fun a25 => br a25 (mk (ob (Z1E PP 47 [(0, (iv 9)), (1, (iv 13))]) fun a26 =>
 callS false EE 65 [(iv 32)] B fun a27 a28 =>
 ob (xlit PP 27 2 [(0, a26), (1, a27)]) fun a29 =>
 Z7Z a29 a28))
 (ZbA m0 (gcB m0 [] B)))))))
 (mk (ob (xbin PP .eql 3 (shr x0) (iv 87)) fun a30 =>
 asB (shr a30) fun a31 => br a31 (mk (ob (Z1E PP 47 [(0, (iv 48)), (1, (iv 57))]) fun a32 =>
 ob (Z1E PP 47 [(0, (iv 65)), (1, (iv 90))]) fun a33 =>
 callS false EE 65 [(iv 95)] B fun a34 a35 =>
 ob (Z1E PP 47 [(0, (iv 97)), (1, (iv 122))]) fun a36 =>
 ob (xlit PP 27 4 [(0, a32), (1, a33), (2, a34), (3, a36)]) fun a37 =>
 Z7Z a37 a35))
 (mk (ob (xbin PP .eql 3 (shr x0) (iv 115)) fun a38 =>
 asB (shr a38) fun a39 => br a39 (asB (shr a38) fun a40 => br a40 (mk (ob (Z1E PP 47 [(0, (iv 9)), (1, (iv 13))]) fun a41 =>
 callS false EE 65 [(iv 32)] B fun a42 a43 =>
 ob (xlit PP 27 2 [(0, a41), (1, a42)]) fun a44 =>
 Z7Z a44 a43))
 (ZbA m0 (gcB m0 [] B)))
 (mk (ob (xbin PP .eql 3 (shr x0) (iv 83)) fun a45 =>
 asB (shr a45) fun a46 => br a46 (mk (ob (Z1E PP 47 [(0, (iv 9)), (1, (iv 13))]) fun a47 =>
 callS false EE 65 [(iv 32)] B fun a48 a49 =>
 ob (xlit PP 27 2 [(0, a47), (1, a48)]) fun a50 =>
 Z7Z a50 a49))
 (ZbA m0 (gcB m0 [] B)))))))))))))))) := (E_eq PP XX HH _ _ _).trans (by kernel_rfl)
def ZDA := Z2B Tryd.f79
def ZuI := l2 (l2 ZDA)
def ZuH (m0 : Nat) : Kont := kret PP HH 79 Tryd.f79.results
def ZGF := kseq HH 79 m0 ZuI (exec PP HH 79 m0 EE LL ZuI (ZuH m0)) (ZuH m0)
def ZGG := kblk 0 (ZGF m0)
def ZfA := exec PP HH 79 m0 EE LL ZuI (ZuH m0) [(0, x0), (2, x2)] B
def ZrA := exec PP HH 79 m0 EE LL (l1 (l2 (l2 (l2 (l2 (l2 (l2 (l2 (l2 (l2 (l1 (l1 (l2 ZDA))))))))))))) (ZGG m0) [(1, x1)] B
theorem Zya : ZfA m0 x0 x2 B =
 mk (callS false EE 21 [(shr x0), (iv 21), (shr x2)] B fun a b =>
 mk (Z1z (iv 0) b)) := by kernel_rfl
theorem Zy9 : ZrA m0 x1 B =
 mk (Z1z (shr (shr x1)) B) := by kernel_rfl
theorem ZGE : EE 79 [x0, x1, x2] B =
 (let m0 := B.length
 mk (mk (ob (xbin PP .eql 3 (shr x1) (iv 110)) fun a =>
 asB (shr a) fun b => br b (mk (Z1z (iv 10) B))
 (mk (ob (xbin PP .eql 3 (shr x1) (iv 116)) fun c =>
 asB (shr c) fun d => br d (mk (Z1z (iv 9) B))
 (mk (ob (xbin PP .eql 3 (shr x1) (iv 114)) fun e =>
 asB (shr e) fun f => br f (mk (Z1z (iv 13) B))
 (mk (ob (xbin PP .eql 3 (shr x1) (iv 120)) fun g =>
 asB (shr g) fun h => br h (mk (callS false EE 47 [(shr x0)] B fun i j =>
 callS false EE 98 [i] j fun k l =>
 mk (ob (xbin PP .geq 3 (shr (shr k)) (iv 0)) fun n =>
 asB n fun o => br o (mk (callS false EE 63 [(shr x0)] l fun p q =>
 mk (callS false EE 47 [(shr x0)] q fun r s =>
 callS false EE 98 [r] s fun t u =>
 mk (ob (xbin PP .geq 3 (shr (shr t)) (iv 0)) fun v =>
 asB v fun w => br w (mk (callS false EE 63 [(shr x0)] u fun x y =>
 mk (ob (xbin PP .mul 3 (iv 16) (shr (shr k))) fun z =>
 ob (xbin PP .add 3 z (shr (shr t))) fun A =>
 Z1z (shr A) y)))
 (ZfA m0 x0 x2 (gcB m0 [x0, x2] u))))))
 (ZfA m0 x0 x2 (gcB m0 [x0, x2] l)))))
 (mk (ob (xbin PP .gtr 3 (shr x1) (iv 32)) fun C =>
 asB (shr C) fun D => br D (ob (xbin PP .lss 3 (shr x1) (iv 127)) fun F =>
 asB (shr (shr F)) fun G => br G (ob (Z1E PP 47 [(0, (iv 48)), (1, (iv 57))]) fun I =>
 ob (Z1E PP 47 [(0, (iv 65)), (1, (iv 90))]) fun J =>
 ob (Z1E PP 47 [(0, (iv 97)), (1, (iv 122))]) fun M =>
 ob (xlit PP 28 3 [(0, I), (1, J), (2, M)]) fun N =>
 callS false EE 24 [N, (shr x1)] B fun O Q =>
 ob (xun PP .not O) fun R =>
 asB (shr (shr R)) fun S => br S (ZrA m0 x1 (gcB m0 [x1] Q))
 (ZfA m0 x0 x2 (gcB m0 [x0, x2] Q)))
 (ZfA m0 x0 x2 (gcB m0 [x0, x2] B)))
 (ZfA m0 x0 x2 (gcB m0 [x0, x2] B))))))))))))) := (E_eq PP XX HH _ _ _).trans (by kernel_rfl)
theorem ZGH : EE 80 [x0, x1] B =
 (let m0 := B.length
 mk (ob (ldN false 1 x1 B) fun a =>
 callS false EE 39 [a, (shr x0)] B fun b c =>
 ob (xext 0 (shr b)) fun d =>
 ob (xext 1 (shr b)) fun e =>
 stN 1 x1 (shr d) c fun f =>
 Z4Q f)) := (E_eq PP XX HH _ _ _).trans (by kernel_rfl)
def ZHB := Z2B Tryd.f81
def ZuM := l2 (l2 (l2 ZHB))
def ZnG (r0 r1 r2 : AV) (B : List Row) : Option Res :=
 ob (ob (some r0) fun v => ob (ob (some r1) fun v => ob (ob (some r2) fun v => ob (some []) fun vs => some (v :: vs)) fun vs => some (v :: vs)) fun vs => some (v :: vs)) fun vs => some ((match vs with | [v] => v | vs => Z97 (vs.map shr)), B)
def ZuJ (m0 : Nat) : Kont := kret PP HH 81 Tryd.f81.results
def ZuK := exec PP HH 81 m0 EE LL ZuM (ZuJ m0) [(0, x0), (5, x5)] B
def ZuL := exec PP HH 81 m0 EE LL (l2 ZuM) (ZuJ m0) [(0, x0), (2, x2), (5, x5)] B
def ZrB := exec PP HH 81 m0 EE LL (l2 (l2 (l2 ZuM))) (ZuJ m0) [(0, x0), (2, x2), (5, x5)] B
theorem ZAW : ZuK m0 x0 x5 B =
 mk (callS false EE 47 [(shr x0)] B fun a b =>
 mk (ob (xbin PP .lss 3 (shr (shr a)) (iv 0)) fun c =>
 asB c fun d => br d (mk (callS false EE 21 [(shr x0), (iv 21), (shr x5)] b fun e f =>
 mk (ZnG (iv 0) nilA (bv false) f)))
 (ZuL m0 x0 (shr a) x5 (gcB m0 [x0, (shr a), x5] b)))) := by kernel_rfl
theorem ZAX : ZuL m0 x0 x2 x5 B =
 mk (callS false EE 63 [(shr x0)] B fun a b =>
 mk (callS true EE 78 [(shr x2)] b fun c d =>
 mk (ob (xnil PP .neq 27 (.slice none 0 0) (shr c)) fun e =>
 asB e fun f => br f (mk (ob (xbin PP .lss 3 (shr x2) (iv 97)) fun g =>
 ZnG (iv 0) c (shr g) d))
 (ZrB m0 x0 x2 x5 (gcB m0 [x0, x2, x5] d))))) := by kernel_rfl
theorem Zyb : ZrB m0 x0 x2 x5 B =
 mk (callS false EE 79 [(shr x0), (shr x2), (shr x5)] B fun a b =>
 ZnG (shr a) nilA (bv false) b) := by kernel_rfl
theorem ZGI : EE 81 [x0] B =
 (let m0 := B.length
 mk (mk (ob (Z1F (shr x0)) fun a =>
 ob (xfld 1 a) fun b =>
 ob (ldN false 1 b B) fun c =>
 mk (callS false EE 63 [(shr x0)] B fun d e =>
 mk (ob (xbin PP .neq 3 (shr (shr d)) (iv 92)) fun f =>
 asB f fun g => br g (mk (ZnG (shr (shr (shr d))) nilA (bv false) e))
 (ZuK m0 x0 (shr c) (gcB m0 [x0, (shr c)] e))))))) := (E_eq PP XX HH _ _ _).trans (by kernel_rfl)
def ZDB := Z2B Tryd.f82
def ZuS := l2 (l2 ZDB)
def Zqc := l1 (l1 (l2 (l1 (l2 ZDB))))
def ZB3 := l2 (l2 Zqc)
def ZuN (m0 : Nat) : Kont := kret PP HH 82 Tryd.f82.results
def ZGK := kseq HH 82 m0 ZuS (exec PP HH 82 m0 EE LL ZuS (ZuN m0)) (ZuN m0)
def ZuO := kblk 0 (ZGK m0)
def ZAY := kloop HH 82 m0 Zqc (LL 82 m0 Zqc (ZuO m0)) (ZuO m0)
def Zmv := lp (LL 82 m0 Zqc (ZuO m0) [(0, x0), (1, x1), (7, x7), (8, x8)] B)
def ZuP := exec PP HH 82 m0 EE LL ZB3 (ZAY m0) [(0, x0), (1, x1), (7, x7), (8, x8)] B
def ZuR := exec PP HH 82 m0 EE LL ZuS (ZuN m0) [] B
def ZuQ := exec PP HH 82 m0 EE LL (l2 ZB3) (ZAY m0) [(0, x0), (1, x1), (7, x7), (8, x8)] B
theorem ZAZ : Zmv m0 x0 x1 x7 x8 B =
 mk (ob (xbin PP .lss 3 x8 x7) fun a =>
 asB a fun b => br b (ZuP m0 x0 x1 x7 x8 (gcB m0 [x0, x1, x7, x8] B))
 (ZuR m0 (gcB m0 [] B))) := lq_ (by kernel_rfl)
theorem ZB0 : ZuP m0 x0 x1 x7 x8 B =
 mk (mk (ob (xidx 1 (shr x0) (shr (shr (shr x8)))) fun a =>
 ob (ldN false 1 a B) fun b =>
 callV HH EE (shr x1) [b] B fun c d =>
 asB c fun e => br e (mk (Z1z (shr (shr (shr (shr x8)))) d))
 (ZuQ m0 x0 x1 x7 x8 (gcB m0 [x0, x1, x7, x8] d)))) := by kernel_rfl
theorem ZB2 : ZuR m0 B =
 mk (Z1z (iv (-1)) B) := by kernel_rfl
theorem ZB1 : ZuQ m0 x0 x1 x7 x8 B =
 mk (ob (xbin PP .add 3 x8 (iv 1)) fun a =>
 Zmv m0 x0 x1 x7 (shr a) (gcB m0 [x0, x1, x7, (shr a)] B)) := by kernel_rfl
theorem ZGJ : EE 82 [x0, x1] B =
 (let m0 := B.length
 mk (mk (ob (xlen PP 121 (shr x0)) fun a =>
 Zmv m0 x0 x1 a (iv 0) (gcB m0 [x0, x1, a, (iv 0)] B)))) := (E_eq PP XX HH _ _ _).trans (by kernel_rfl)
theorem ZGL : EE 83 [] B =
 (let m0 := B.length
 mk (mk (ob (xlit PP 121 4 [(0, (.p (.v (.string (ByteArray.mk #[63, 61]))))), (1, (.p (.v (.string (ByteArray.mk #[63, 33]))))), (2, (.p (.v (.string (ByteArray.mk #[63, 60, 61]))))), (3, (.p (.v (.string (ByteArray.mk #[63, 60, 33])))))]) fun a =>
 Z1z (shr a) B))) := (E_eq PP XX HH _ _ _).trans (by kernel_rfl)
def ZDC := Z2B Tryd.f84
def ZuW := l2 (l2 (l2 ZDC))
def Zqd := l1 (l1 (l2 (l1 (l2 (l2 ZDC)))))
def ZuT (m0 : Nat) : Kont := kret PP HH 84 Tryd.f84.results
def ZGN := kseq HH 84 m0 ZuW (exec PP HH 84 m0 EE LL ZuW (ZuT m0)) (ZuT m0)
def ZuU := kblk 0 (ZGN m0)
def ZGO := kloop HH 84 m0 Zqd (LL 84 m0 Zqd (ZuU m0)) (ZuU m0)
def Zmw := lp (LL 84 m0 Zqd (ZuU m0) [(0, x0), (3, x3), (4, x4)] B)
def ZuV := exec PP HH 84 m0 EE LL (l2 Zqd) (ZGO m0) [(0, x0), (3, x3), (4, x4)] B
def Zmx := exec PP HH 84 m0 EE LL ZuW (ZuT m0) [(3, x3)] B
theorem ZB4 : Zmw m0 x0 x3 x4 B =
 mk (ob (xbin PP .lss 3 (shr x4) (iv 2)) fun a =>
 asB (shr a) fun b => br b (callS false EE 47 [(shr x0)] B fun c d =>
 ob (xbin PP .geq 3 c (iv 48)) fun e =>
 asB (shr (shr e)) fun f => br f (callS false EE 47 [(shr x0)] d fun g h =>
 ob (xbin PP .leq 3 g (iv 57)) fun i =>
 asB (shr i) fun j => br j (ZuV m0 x0 x3 x4 (gcB m0 [x0, x3, x4] h))
 (Zmx m0 x3 (gcB m0 [x3] h)))
 (Zmx m0 x3 (gcB m0 [x3] d)))
 (Zmx m0 x3 (gcB m0 [x3] B))) := lq_ (by kernel_rfl)
theorem ZB5 : ZuV m0 x0 x3 x4 B =
 mk (ob (Z7I PP true [(shr x3), (iv 0)]) fun a =>
 ob (xbin PP .mul 3 (iv 10) a) fun b =>
 callS false EE 63 [(shr x0)] B fun c d =>
 ob (xbin PP .add 3 b c) fun e =>
 ob (xbin PP .sub 3 e (iv 48)) fun f =>
 mk (ob (xbin PP .add 3 (shr x4) (iv 1)) fun g =>
 Zmw m0 x0 (shr f) (shr g) (gcB m0 [x0, (shr f), (shr g)] d))) := by kernel_rfl
theorem ZB6 : Zmx m0 x3 B =
 mk (Z1z (shr (shr x3)) B) := by kernel_rfl
theorem ZGM : EE 84 [x0] B =
 (let m0 := B.length
 mk (mk (mk (Zmw m0 x0 (iv (-1)) (iv 0) (gcB m0 [x0, (iv (-1)), (iv 0)] B))))) := (E_eq PP XX HH _ _ _).trans (by kernel_rfl)
theorem ZGQ : EE 96 [x0, x1] B =
 (let m0 := B.length
 mk (mk (callS false EE 104 [(shr x0), (shr x1)] B fun a b =>
 ob (xbin PP .geq 3 a (iv 0)) fun c =>
 Z1z (shr c) b))) := (E_eq PP XX HH _ _ _).trans (by kernel_rfl)
theorem ZGR : EE 97 [x0] B =
 (let m0 := B.length
 mk (bx x0 B fun a b =>
 mk (ob (ldN true 2 a b) fun c =>
 callS false EE 22 [c] b fun d e =>
 ob (xun PP .not d) fun f =>
 Z1z (shr f) e))) := (E_eq PP XX HH _ _ _).trans (by kernel_rfl)
def Zyf := Z2B Tryd.f98
def Zv1 := l2 (l2 Zyf)
def ZBb := l2 (l2 (l1 (l1 (l2 Zyf))))
def ZuX (m0 : Nat) : Kont := kret PP HH 98 Tryd.f98.results
def ZGT := kseq HH 98 m0 Zv1 (exec PP HH 98 m0 EE LL Zv1 (ZuX m0)) (ZuX m0)
def ZuY := kblk 0 (ZGT m0)
def ZuZ := exec PP HH 98 m0 EE LL (l1 (l2 (l1 (l1 (l2 Zyf))))) (ZuY m0) [(0, x0)] B
def Zqe := exec PP HH 98 m0 EE LL ZBb (ZuY m0) [(0, x0)] B
def Zv0 := exec PP HH 98 m0 EE LL (l1 (l2 ZBb)) (ZuY m0) [(0, x0)] B
def Zqf := exec PP HH 98 m0 EE LL Zv1 (ZuX m0) [] B
theorem ZB7 : ZuZ m0 x0 B =
 mk (ob (xbin PP .sub 3 (shr x0) (iv 48)) fun a =>
 Z1z (shr a) B) := by kernel_rfl
theorem ZB8 : Zqe m0 x0 B =
 mk (ob (xbin PP .geq 3 (shr x0) (iv 97)) fun a =>
 asB (shr a) fun b => br b (ob (xbin PP .leq 3 (shr x0) (iv 102)) fun c =>
 asB (shr (shr c)) fun d => br d (Zv0 m0 x0 (gcB m0 [x0] B))
 (Zqf m0 (gcB m0 [] B)))
 (Zqf m0 (gcB m0 [] B))) := by kernel_rfl
theorem ZB9 : Zv0 m0 x0 B =
 mk (ob (xbin PP .sub 3 (shr x0) (iv 97)) fun a =>
 ob (xbin PP .add 3 a (iv 10)) fun b =>
 Z1z (shr b) B) := by kernel_rfl
theorem ZBa : Zqf m0 B =
 mk (Z1z (iv (-1)) B) := by kernel_rfl
theorem ZGS : EE 98 [x0] B =
 (let m0 := B.length
 mk (mk (ob (xbin PP .geq 3 (shr x0) (iv 48)) fun a =>
 asB (shr a) fun b => br b (ob (xbin PP .leq 3 (shr x0) (iv 57)) fun c =>
 asB (shr (shr c)) fun d => br d (ZuZ m0 x0 (gcB m0 [x0] B))
 (Zqe m0 x0 (gcB m0 [x0] B)))
 (Zqe m0 x0 (gcB m0 [x0] B))))) := (E_eq PP XX HH _ _ _).trans (by kernel_rfl)
def Zz3 := Z2B Tryd.f104
def Zre := l2 (l2 Zz3)
def Znt := l1 (l1 (l2 (l1 (l2 Zz3))))
def Zwz := l2 (l2 Znt)
def Zr9 (m0 : Nat) : Kont := kret PP HH 104 Tryd.f104.results
def ZE3 := kseq HH 104 m0 Zre (exec PP HH 104 m0 EE LL Zre (Zr9 m0)) (Zr9 m0)
def Zra := kblk 0 (ZE3 m0)
def Zwy := kloop HH 104 m0 Znt (LL 104 m0 Znt (Zra m0)) (Zra m0)
def ZjX := lp (LL 104 m0 Znt (Zra m0) [(0, x0), (1, x1), (7, x7), (8, x8)] B)
def Zrb := exec PP HH 104 m0 EE LL Zwz (Zwy m0) [(0, x0), (1, x1), (7, x7), (8, x8)] B
def Zrd := exec PP HH 104 m0 EE LL Zre (Zr9 m0) [] B
def Zrc := exec PP HH 104 m0 EE LL (l2 Zwz) (Zwy m0) [(0, x0), (1, x1), (7, x7), (8, x8)] B
theorem Zxb : ZjX m0 x0 x1 x7 x8 B =
 mk (ob (xbin PP .lss 3 x8 x7) fun a =>
 asB a fun b => br b (Zrb m0 x0 x1 x7 x8 (gcB m0 [x0, x1, x7, x8] B))
 (Zrd m0 (gcB m0 [] B))) := lq_ (by kernel_rfl)
theorem Zxc : Zrb m0 x0 x1 x7 x8 B =
 mk (mk (ob (xidx 2 (shr x0) (shr (shr (shr x8)))) fun a =>
 ob (ldN true 2 a B) fun b =>
 callV HH EE (shr x1) [b] B fun c d =>
 asB c fun e => br e (mk (Z1z (shr (shr (shr (shr x8)))) d))
 (Zrc m0 x0 x1 x7 x8 (gcB m0 [x0, x1, x7, x8] d)))) := by kernel_rfl
theorem Zxe : Zrd m0 B =
 mk (Z1z (iv (-1)) B) := by kernel_rfl
theorem Zxd : Zrc m0 x0 x1 x7 x8 B =
 mk (ob (xbin PP .add 3 x8 (iv 1)) fun a =>
 ZjX m0 x0 x1 x7 (shr a) (gcB m0 [x0, x1, x7, (shr a)] B)) := by kernel_rfl
theorem ZE2 : EE 104 [x0, x1] B =
 (let m0 := B.length
 mk (mk (ob (xlen PP 27 (shr x0)) fun a =>
 ZjX m0 x0 x1 a (iv 0) (gcB m0 [x0, x1, a, (iv 0)] B)))) := (E_eq PP XX HH _ _ _).trans (by kernel_rfl)
end Go.Proofs.YtocikhhkicahoaaDoor.N2
end
