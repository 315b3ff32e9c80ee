/- The functions' equations, by the evaluator. No condition. -/
import Derived.Test.YteoeggbihfnbfaaGreatDoorEvA
import Derived.Test.YteoeggbihfnbfaaGreatDoorProg
import Derived.KernelRfl
import Derived.Test.YteoeggbihfnbfaaGreatDoorEvD

set_option linter.unusedSimpArgs false
set_option linter.unusedVariables false
set_option linter.defProp false
section
namespace Go.Proofs.YteoeggbihfnbfaaGreatDoor.N2
open Go Go.Abs
def ZNm : FuncId → Nat → Option (List Nat) := fun f r => (([(8, [(4, []), (7, [3, 5, 35, 36, 37]), (11, [3, 5, 35, 36, 37]), (8, [3, 5, 35, 36, 37]), (15, [3, 5]), (12, [3, 5]), (5, [0, 3]), (3, [0, 3])]),
 (16, [(4, [2, 11, 12, 13]), (10, [2, 11, 12, 13]), (5, [2, 11, 12, 13]), (11, [2]), (3, [1, 2])]),
 (20, [(2, []), (5, [3, 16, 17, 18]), (8, []), (9, [5, 16, 17, 18]), (10, [3, 16, 17, 18]), (6, [3, 16, 17, 18]), (11, []), (3, [1])]),
 (21, [(4, [2, 3])]),
 (22, [(9, [4]), (14, [3, 4, 6, 7, 54, 55, 56]), (15, [3, 4, 6, 7, 54, 55, 56]), (19, [3, 4, 6, 7, 66, 67, 68]), (24, [3, 4, 6, 7, 11, 66, 67, 68]), (25, [3, 4, 6, 7, 66, 67, 68]), (20, [3, 4, 6, 7, 66, 67, 68]), (27, [4, 6, 7, 85, 86, 87]), (28, [4, 6, 7, 85, 86, 87]), (35, [4, 6, 7, 103, 104, 105]), (36, [4, 6, 7, 103, 104, 105]), (39, [4, 6]), (33, [4, 6, 7]), (31, [4, 6, 7]), (26, [3, 4, 6, 7]), (18, [3, 4, 6, 7]), (12, [2, 3, 4, 6]), (10, [2, 3, 4, 6]), (3, [2, 3, 4])]),
 (23, [(7, [4, 5, 6]), (4, [4, 5, 6])]),
 (30, [(2, [0, 7, 8, 9]), (5, []), (7, [0, 7, 8, 9, 27, 28, 29]), (11, [0, 7, 8, 9, 27, 28, 29]), (8, [0, 7, 8, 9, 27, 28, 29]), (6, [0, 4, 7, 8, 9]), (12, [0, 7, 8, 9]), (3, [0, 7, 8, 9]), (13, [0])]),
 (33, [(6, [4]), (7, [0, 3, 4]), (3, [0, 3, 4])]),
 (47, [(7, [2, 3, 4, 5]), (9, [2, 3, 4, 5, 50, 51, 52]), (13, [2, 3, 4, 5, 50, 51, 52]), (10, [2, 3, 4, 5, 50, 51, 52]), (16, [2, 3, 4, 5]), (14, [2, 3, 4, 5]), (8, [2, 3, 4, 5]), (3, [0, 2, 3])]),
 (48, [(5, [])]),
 (61, [(4, [0, 4, 5])]),
 (68, [(2, []), (3, [0, 1])]),
 (69, [(2, [0, 2, 3]), (3, [0, 2, 3]), (4, [2, 3])]),
 (70, [(2, [0])]),
 (71, [(4, []), (2, [1]), (5, [1])]),
 (72, [(3, [1, 3, 8, 9, 10]), (4, [1, 3, 8, 9, 10]), (24, [1, 3]), (26, [3]), (7, [1, 3])]),
 (83, [(2, [0, 1, 7, 8]), (6, [0, 1, 7, 8]), (3, [0, 1, 7, 8]), (7, [])]),
 (84, [(2, [0, 1, 7, 8]), (6, [0, 1, 7, 8]), (3, [0, 1, 7, 8]), (7, [])]),
 (91, [(2, [0, 2, 3]), (7, [0, 2, 3]), (3, [0, 2, 3]), (9, [2, 3])]),
 (92, [(6, [0, 1, 4])]),
 (93, [(8, [2, 3, 23, 24, 25]), (9, [2, 3, 23, 24, 25]), (16, [2, 3, 45, 46, 47]), (21, [2, 45, 46, 47]), (22, [2, 3, 11, 45, 46, 47]), (23, [2, 3, 45, 46, 47]), (17, [2, 3, 45, 46, 47]), (30, [2, 3])]),
 (104, [(3, [0])]),
 (105, [(26, [2])]),
 (106, [(17, [6, 8]), (13, [0, 6, 8]), (11, [0, 2, 6, 7, 8])]),
 (107, [(2, []), (3, [0, 1])]),
 (108, [(4, []), (2, []), (3, [0, 1]), (5, [0, 1])]),
 (109, [(2, [0, 1, 7, 8]), (6, [0, 1, 7, 8]), (3, [0, 1, 7, 8]), (7, [])]),
 (126, [(2, []), (5, [0, 1]), (6, [6, 7]), (3, [0, 1])]),
 (128, [(4, [4, 5])]),
 (130, [(13, [0, 1, 4, 5]), (15, [0, 1, 4, 5]), (5, [0, 1, 4, 5])]),
 (131, [(5, [0, 1, 4, 5, 6, 7, 8]), (18, [4, 6]), (15, [0, 4, 5, 6]), (32, [0, 1, 4, 5, 6, 7, 8, 9]), (35, [0, 1, 4, 5, 6, 7, 8, 9, 11, 15]), (33, [0, 1, 4, 5, 6, 7, 8, 9, 11]), (36, [0, 1, 4, 5, 6, 7, 8, 11, 15]), (28, [0, 1, 4, 5, 6, 7, 8, 9, 11]), (22, [0, 1, 4, 5, 6, 7, 8, 9]), (6, [0, 1, 4, 5, 6, 7, 8]), (7, [0, 1, 4, 5, 6, 7, 8]), (38, [4])]),
 (132, [(19, [0, 1, 4, 7]), (23, [4, 7]), (20, [0, 4, 7]), (17, [0, 1, 4]), (4, [0, 1, 4])]),
 (133, [(7, [4]), (8, [0, 1, 4]), (6, [0, 1, 4]), (10, [0, 1, 4, 5]), (11, [4, 5]), (9, [0, 1, 4, 5])]),
 (134, [(3, [0])]),
 (147, [(3, [0])]),
 (148, [(3, [0])]),
 (149, [(11, [])]),
 (150, [(16, [1]), (17, [0, 2])]),
 (152, [(2, []), (3, [0, 1])]),
 (153, [(13, [0, 2, 5]), (9, [0, 2, 5]), (5, [0, 5])]),
 (154, [(2, [0, 1, 7, 8]), (6, [0, 1, 7, 8]), (3, [0, 1, 7, 8]), (7, [])]),
 (156, [(3, [0, 3, 4]), (5, [0, 3, 4]), (6, [3])]),
 (170, [(3, [3, 6, 7, 8]), (6, []), (7, [5, 6, 7, 8]), (8, [3, 6, 7, 8]), (4, [3, 6, 7, 8]), (9, [])]),
 (171, [(4, [3, 4, 7, 8, 9]), (8, [3, 6, 7, 8, 9]), (9, [3, 4, 7, 8, 9]), (5, [3, 4, 7, 8, 9]), (12, [3]), (10, [3, 4])]),
 (172, [(4, [0]), (2, [0]), (3, [0]), (5, [])]),
 (179, [(2, [0, 1, 7, 8]), (6, [0, 1, 7, 8]), (3, [0, 1, 7, 8]), (7, [])]),
 (191, [(2, [0, 1, 7, 8]), (6, [0, 1, 7, 8]), (3, [0, 1, 7, 8]), (7, [])])] : List (Nat × List (Nat × List Nat))).lookup f).bind (·.lookup r)
def ownT : FuncId → List Nat := fun f =>
 if f = 22 then [110] else
 if f = 61 then [33] else
 if f = 69 then [3, 9] else
 if f = 91 then [3, 23] else
 if f = 130 then [44] else
 if f = 149 then [2] else
 if f = 153 then [3, 6, 29] else
 if f = 171 then [3, 17, 31] else
 []
def rawT : FuncId → Bool := fun f => if f = 149 then true else if f = 153 then true else if f = 178 then true else false
def ZNn : FuncId → List Nat := fun f => if f = 143 then [60] else []
def HH : Hints := ⟨ZNm, ownT, rawT, ZNn⟩
def XX : FuncId → Option (List AV → List Row → Option Res) := fun f => if f = 52 then some ZoV else if f = 62 then some ZBi else if f = 146 then some ZsT else if f = 169 then some ZoU else if f = 174 then some ZoT else none
noncomputable abbrev PP : Program := Tryz.prog
noncomputable abbrev EE : GF := E PP XX HH
noncomputable abbrev LL : LF := L PP XX HH
end Go.Proofs.YteoeggbihfnbfaaGreatDoor.N2
end
noncomputable section
namespace Go.Proofs.YteoeggbihfnbfaaGreatDoor.N2
open Go Go.Abs
set_option maxRecDepth 100000
variable (m0 : Nat) (x0 x1 x2 x3 x4 x5 x6 x7 x8 x9 x10 x11 x12 x13 x15 x16 x17 x18 x23 x24 x25 x27 x28 x29 x35 x36 x37 x45 x46 x47 x50 x51 x52 x54 x55 x56 x66 x67 x68 x85 x86 x87 x103 x104 x105 : AV) (B : List Row)
theorem lq_ {f m0 : Nat} {c : Code} {K : Kont} {sl : Sl} {B : List Row} {r : Option Res} (h : exec PP HH f m0 EE LL c (kloop HH f m0 c (LL f m0 c K) K) sl B = r) : LL f m0 c K sl B = r := (L_eq PP XX HH f m0 c K sl B).trans h
noncomputable def ZNv := Z39 Tryz.f8
def Zpc := l2 (l2 ZNv)
def ZyP := l2 (l2 (l2 Zpc))
def ZyO := l1 (l1 (l2 (l1 (l2 (l2 Zpc)))))
def ZJg := l2 (l2 ZyO)
def Z1s (r0 : AV) (B : List Row) : Option Res :=
 ob (ob (some r0) fun v => ob (some []) fun vs => some (v :: vs)) fun vs => some ((nrmA (match vs with | [v] => v | vs => Z7G (vs.map shr))), B)
def ZmJ (m0 : Nat) : Kont := kret PP HH 8 Tryz.f8.results
def ZNj := kseq HH 8 m0 (l2 Zpc) (exec PP HH 8 m0 EE LL (l2 Zpc) (ZmJ m0)) (ZmJ m0)
def ZNk := kseq HH 8 m0 ZyP (exec PP HH 8 m0 EE LL ZyP (ZmJ m0)) (ZmJ m0)
def ZEG := kblk 0 (ZNk m0)
def ZJf := kloop HH 8 m0 ZyO (LL 8 m0 ZyO (ZEG m0)) (ZEG m0)
def ZEH := exec PP HH 8 m0 EE LL Zpc (ZmJ m0) [(0, x0), (3, x3)] B
def Zvn := exec PP HH 8 m0 EE LL (l1 (l2 (l1 Zpc))) (ZNj m0) [] B
def ZEI := exec PP HH 8 m0 EE LL (l2 Zpc) (ZmJ m0) [(0, x0), (3, x3)] B
def Zvl := lp (LL 8 m0 ZyO (ZEG m0) [(3, x3), (5, x5), (35, x35), (36, x36), (37, x37)] B)
def ZEJ := exec PP HH 8 m0 EE LL ZJg (ZJf m0) [(3, x3), (5, x5), (35, x35), (36, x36), (37, x37)] B
def ZA2 := exec PP HH 8 m0 EE LL ZyP (ZmJ m0) [(3, x3), (5, x5)] B
def Zvm := exec PP HH 8 m0 EE LL (l2 ZJg) (ZJf m0) [(3, x3), (5, x5), (35, x35), (36, x36), (37, x37)] B
def ZA3 := exec PP HH 8 m0 EE LL (l2 ZyP) (ZmJ m0) [(3, x3), (5, x5)] B
theorem ZI9 : ZEH m0 x0 x3 B =
 mk (ob (ldN true 9 x3 B) fun a =>
 ob (xlit PP 59 1 [(0, a)]) fun b =>
 ob (xapp 9 b (shr x0)) fun c =>
 callS false EE 30 [c] B fun d e =>
 ob (xun PP .not d) fun f =>
 asB (shr f) fun g => br g (Zvn m0 (gcB m0 [] e))
 (ob (xlen PP 59 (shr x0)) fun h =>
 ob (xbin PP .gtr 3 h (iv 12)) fun i =>
 asB (shr (shr i)) fun j => br j (Zvn m0 (gcB m0 [] e))
 (ob (ldN true 9 x3 e) fun k =>
 callS false EE 31 [k] e fun l n =>
 ob (xun PP .not l) fun o =>
 asB (shr o) fun p => br p (Zvn m0 (gcB m0 [] n))
 (ZEI m0 x0 x3 (gcB m0 [x0, x3] n))))) := by kernel_rfl
theorem ZIa : Zvn m0 B =
 mk (Z1s (bv true) B) := by kernel_rfl
theorem ZIb : ZEI m0 x0 x3 B =
 mk (callS false EE 32 [] B fun a b =>
 mk (ob (xlen PP 59 (shr x0)) fun c =>
 Zvl m0 x3 (shr a) (shr x0) c (iv 0) (gcB m0 [x3, (shr a), (shr x0), c, (iv 0)] b))) := by kernel_rfl
theorem ZI8 : Zvl m0 x3 x5 x35 x36 x37 B =
 mk (ob (xbin PP .lss 3 x37 x36) fun a =>
 asB a fun b => br b (ZEJ m0 x3 x5 x35 x36 x37 (gcB m0 [x3, x5, x35, x36, x37] B))
 (ZA2 m0 x3 x5 (gcB m0 [x3, x5] B))) := lq_ (by kernel_rfl)
theorem ZIc : ZEJ m0 x3 x5 x35 x36 x37 B =
 mk (ob (xidx 9 x35 x37) fun a =>
 ob (ldN true 9 a B) fun b =>
 bz PP 61 B fun c d =>
 stN 9 c b d fun e =>
 mk (ob (xfld 1 c) fun f =>
 ob (ldN false 1 f e) fun g =>
 ob (xfld 1 x3) fun h =>
 ob (ldN false 1 h e) fun i =>
 ob (xbin PP .neq 3 g i) fun j =>
 asB j fun k => br k (mk (ob (ldN true 9 c e) fun l =>
 callS false EE 33 [(shr x5), l] e fun n o =>
 Zvm m0 x3 x5 x35 x36 x37 (gcB m0 [x3, x5, x35, x36, x37] o)))
 (Zvm m0 x3 x5 x35 x36 x37 (gcB m0 [x3, x5, x35, x36, x37] e)))) := by kernel_rfl
theorem ZGU : ZA2 m0 x3 x5 B =
 mk (ob (xfld 1 x3) fun a =>
 ob (ldN false 1 a B) fun b =>
 callS false EE 34 [(shr x5), b] B fun c d =>
 ob (xext 0 (shr c)) fun e =>
 ob (xext 1 (shr c)) fun f =>
 ob (xext 2 (shr c)) fun g =>
 bz PP 66 d fun h i =>
 stN 4 h (shr f) i fun j =>
 mk (asB (shr (shr (shr g))) fun k => br k (mk (Z1s (bv false) j))
 (ZA3 m0 x3 x5 (gcB m0 [x3, x5] j)))) := by kernel_rfl
theorem ZGT : Zvm m0 x3 x5 x35 x36 x37 B =
 mk (ob (xbin PP .add 3 x37 (iv 1)) fun a =>
 Zvl m0 x3 x5 x35 x36 (shr a) (gcB m0 [x3, x5, x35, x36, (shr a)] B)) := by kernel_rfl
theorem ZGV : ZA3 m0 x3 x5 B =
 mk (ob (ldN true 9 x3 B) fun a =>
 callS false EE 33 [(shr x5), a] B fun b c =>
 ob (xext 0 (shr b)) fun d =>
 ob (xext 1 (shr b)) fun e =>
 bz PP 66 c fun f g =>
 stN 4 f (shr d) g fun h =>
 mk (ob (xfld 1 x3) fun i =>
 ob (ldN false 1 i h) fun j =>
 callS false EE 34 [(shr x5), j] h fun k l =>
 ob (xext 0 (shr k)) fun n =>
 ob (xext 1 (shr k)) fun o =>
 ob (xext 2 (shr k)) fun p =>
 bz PP 66 l fun q r =>
 stN 4 q (shr o) r fun s =>
 mk (ob (xbin PP .eql 30 (shr (shr (shr e))) (iv 0)) fun t =>
 asB (shr t) fun u => br u (ob (xfld 1 f) fun v =>
 ob (xfld 0 v) fun w =>
 ob (ldN false 1 w s) fun x =>
 ob (xbin PP .neq 30 x (iv 31)) fun y =>
 asB (shr (shr y)) fun z => br z (Z1s (bv true) s)
 (ob (xfld 1 f) fun A =>
 ob (xfld 0 A) fun C =>
 ob (ldN false 1 C s) fun D =>
 ob (xbin PP .eql 30 D (iv 31)) fun F =>
 asB (shr F) fun G => br G (asB (shr (shr (shr (shr (shr p))))) fun I => br I (ob (xfld 2 x3) fun J =>
 ob (ldN false 1 J s) fun M =>
 ob (xbin PP .eql 3 (shr (shr (shr n))) M) fun N =>
 asB (shr (shr N)) fun O => br O (ob (ldN true 4 q s) fun Q =>
 ob (ldN true 4 f s) fun R =>
 ob (xbin PP .eql 66 Q R) fun S =>
 Z1s (shr (shr (shr S))) s)
 (Z1s (bv false) s))
 (Z1s (bv false) s))
 (Z1s (bv false) s)))
 (ob (xfld 1 f) fun T =>
 ob (xfld 0 T) fun U =>
 ob (ldN false 1 U s) fun V =>
 ob (xbin PP .eql 30 V (iv 31)) fun W =>
 asB (shr W) fun Y => br Y (asB (shr (shr (shr (shr (shr p))))) fun Z => br Z (ob (xfld 2 x3) fun a0 =>
 ob (ldN false 1 a0 s) fun a1 =>
 ob (xbin PP .eql 3 (shr (shr (shr n))) a1) fun a2 =>
 asB (shr (shr a2)) fun a3 => br a3 (ob (ldN true 4 q s) fun a4 =>
 ob (ldN true 4 f s) fun a5 =>
 ob (xbin PP .eql 66 a4 a5) fun a6 =>
 Z1s (shr (shr (shr a6))) s)
 (Z1s (bv false) s))
 (Z1s (bv false) s))
 (Z1s (bv false) s))))) := by kernel_rfl
theorem ZNi : EE 8 [x0, x1] B =
 (let m0 := B.length
 mk (bx x1 B fun a b =>
 mk (callS false EE 29 [] b fun c d =>
 ob (xun PP .not c) fun e =>
 asB e fun f => br f (mk (Z1s (bv false) d))
 (ZEH m0 x0 a (gcB m0 [x0, a] d))))) := (E_eq PP XX HH _ _ _).trans (by kernel_rfl)
noncomputable def ZN9 := Z39 Tryz.f16
def ZqY := l2 (l2 ZN9)
def ZuQ := l1 (l1 (l2 (l1 ZqY)))
def ZFY := l2 (l2 ZuQ)
def ZnO (r0 : AV) (B : List Row) : Option Res :=
 ob (ob (ldN true 3 r0 B) fun v => ob (some []) fun vs => some (v :: vs)) fun vs => some ((nrmA (match vs with | [v] => v | vs => Z7G (vs.map shr))), B)
def ZuP (m0 : Nat) : Kont := kret PP HH 16 Tryz.f16.results
def ZLL := kseq HH 16 m0 (l2 ZqY) (exec PP HH 16 m0 EE LL (l2 ZqY) (ZuP m0)) (ZuP m0)
def Zz6 := kblk 0 (ZLL m0)
def ZFU := kloop HH 16 m0 ZuQ (LL 16 m0 ZuQ (Zz6 m0)) (Zz6 m0)
def Zz7 := exec PP HH 16 m0 EE LL ZqY (ZuP m0) [(1, x1), (2, x2)] B
def ZqX := lp (LL 16 m0 ZuQ (Zz6 m0) [(2, x2), (11, x11), (12, x12), (13, x13)] B)
def Zz8 := exec PP HH 16 m0 EE LL ZFY (ZFU m0) [(2, x2), (11, x11), (12, x12), (13, x13)] B
def Zx3 := exec PP HH 16 m0 EE LL (l2 ZqY) (ZuP m0) [(2, x2)] B
def Zx2 := exec PP HH 16 m0 EE LL (l2 ZFY) (ZFU m0) [(2, x2), (11, x11), (12, x12), (13, x13)] B
theorem ZFW : Zz7 m0 x1 x2 B =
 mk (ob (xfld 4 x1) fun a =>
 ob (ldN false 1 a B) fun b =>
 ob (xlen PP 22 b) fun c =>
 ZqX m0 x2 b c (iv 0) (gcB m0 [x2, b, c, (iv 0)] B)) := by kernel_rfl
theorem ZFV : ZqX m0 x2 x11 x12 x13 B =
 mk (ob (xbin PP .lss 3 x13 x12) fun a =>
 asB a fun b => br b (Zz8 m0 x2 x11 x12 x13 (gcB m0 [x2, x11, x12, x13] B))
 (Zx3 m0 x2 (gcB m0 [x2] B))) := lq_ (by kernel_rfl)
theorem ZFX : Zz8 m0 x2 x11 x12 x13 B =
 mk (ob (xidx 5 x11 x13) fun a =>
 ob (ldN true 5 a B) fun b =>
 bz PP 43 B fun c d =>
 stN 5 c b d fun e =>
 mk (ob (xfld 4 c) fun f =>
 ob (ldN false 1 f e) fun g =>
 callS false EE 21 [g] e fun h i =>
 bz PP 32 i fun j k =>
 stN 3 j h k fun l =>
 mk (ob (xfld 0 j) fun n =>
 ob (ldN false 1 n l) fun o =>
 ob (xbin PP .neq 30 o (iv 0)) fun p =>
 asB p fun q => br q (mk (ob (xfld 0 c) fun r =>
 ob (ldN false 1 r l) fun s =>
 ob (xfld 1 j) fun t =>
 stN 1 t s l fun u =>
 mk (ob (ldN true 3 j u) fun v =>
 stN 3 x2 v u fun w =>
 ZnO x2 w)))
 (Zx2 m0 x2 x11 x12 x13 (gcB m0 [x2, x11, x12, x13] l))))) := by kernel_rfl
theorem ZDR : Zx3 m0 x2 B =
 mk (ob (Z21 PP 32 []) fun a =>
 stN 3 x2 a B fun b =>
 ZnO x2 b) := by kernel_rfl
theorem ZDQ : Zx2 m0 x2 x11 x12 x13 B =
 mk (ob (xbin PP .add 3 x13 (iv 1)) fun a =>
 ZqX m0 x2 x11 x12 (shr a) (gcB m0 [x2, x11, x12, (shr a)] B)) := by kernel_rfl
theorem ZLK : EE 16 [x0] B =
 (let m0 := B.length
 mk (bx x0 B fun a b =>
 bz PP 32 b fun c d =>
 mk (ob (ldN true 5 a d) fun e =>
 callS false EE 20 [e] d fun f g =>
 ob (xun PP .not f) fun h =>
 asB h fun i => br i (mk (ob (Z21 PP 32 [(0, (iv 10))]) fun j =>
 stN 3 c j g fun k =>
 ZnO c k))
 (Zz7 m0 a c (gcB m0 [a, c] g))))) := (E_eq PP XX HH _ _ _).trans (by kernel_rfl)
noncomputable def ZJ7 := Z39 Tryz.f20
def Zr0 := l2 (l2 ZJ7)
def Zzg := l2 (l2 Zr0)
def ZuU := l1 (l1 (l2 (l1 (l2 Zr0))))
def ZnV := l2 (l2 ZuU)
def Zzf := l2 (l2 (l1 (l1 ZnV)))
def ZnU (m0 : Nat) : Kont := kret PP HH 20 Tryz.f20.results
def ZLN := kseq HH 20 m0 Zr0 (exec PP HH 20 m0 EE LL Zr0 (ZnU m0)) (ZnU m0)
def ZLO := kseq HH 20 m0 Zzg (exec PP HH 20 m0 EE LL Zzg (ZnU m0)) (ZnU m0)
def Zza := kblk 0 (ZLO m0)
def ZuR := kloop HH 20 m0 ZuU (LL 20 m0 ZuU (Zza m0)) (Zza m0)
def ZLP := kseq HH 20 m0 (l2 ZnV) (exec PP HH 20 m0 EE LL (l2 ZnV) (ZuR m0)) (ZuR m0)
def Zzb := kblk 1 (ZLP m0)
def ZLQ := kseq HH 20 m0 Zzf (exec PP HH 20 m0 EE LL Zzf (Zzb m0)) (Zzb m0)
def ZuS := exec PP HH 20 m0 EE LL (l1 (l2 (l1 (l2 ZJ7)))) (ZLN m0) [] B
def Zzc := exec PP HH 20 m0 EE LL Zr0 (ZnU m0) [(1, x1)] B
def ZqZ := lp (LL 20 m0 ZuU (Zza m0) [(3, x3), (16, x16), (17, x17), (18, x18)] B)
def Zzd := exec PP HH 20 m0 EE LL ZnV (ZuR m0) [(3, x3), (16, x16), (17, x17), (18, x18)] B
def Zxy := exec PP HH 20 m0 EE LL Zzg (ZnU m0) [] B
def ZuT := exec PP HH 20 m0 EE LL (l1 (l2 (l1 (l2 (l1 (l1 ZnV)))))) (ZLQ m0) [] B
def Zze := exec PP HH 20 m0 EE LL Zzf (Zzb m0) [(5, x5), (16, x16), (17, x17), (18, x18)] B
def Zxx := exec PP HH 20 m0 EE LL (l2 ZnV) (ZuR m0) [(3, x3), (16, x16), (17, x17), (18, x18)] B
theorem ZG4 : ZuS m0 B =
 mk (Z1s (bv false) B) := by kernel_rfl
theorem ZG5 : Zzc m0 x1 B =
 mk (mk (ob (xfld 4 x1) fun a =>
 ob (ldN false 1 a B) fun b =>
 ob (xlen PP 22 b) fun c =>
 ZqZ m0 (iv 0) b c (iv 0) (gcB m0 [(iv 0), b, c, (iv 0)] B))) := by kernel_rfl
theorem ZG3 : ZqZ m0 x3 x16 x17 x18 B =
 mk (ob (xbin PP .lss 3 x18 x17) fun a =>
 asB a fun b => br b (Zzd m0 x3 x16 x17 x18 (gcB m0 [x3, x16, x17, x18] B))
 (Zxy m0 (gcB m0 [] B))) := lq_ (by kernel_rfl)
theorem ZG6 : Zzd m0 x3 x16 x17 x18 B =
 mk (ob (xidx 5 x16 x18) fun a =>
 ob (ldN true 5 a B) fun b =>
 bz PP 43 B fun c d =>
 stN 5 c b d fun e =>
 mk (ob (ldN true 5 c e) fun f =>
 callS false EE 27 [f] e fun g h =>
 ob (xun PP .not g) fun i =>
 asB (shr i) fun j => br j (ZuT m0 (gcB m0 [] h))
 (ob (xfld 0 c) fun k =>
 ob (ldN false 1 k h) fun l =>
 ob (xbin PP .leq 3 l (shr x3)) fun n =>
 asB (shr n) fun o => br o (ZuT m0 (gcB m0 [] h))
 (Zze m0 c x16 x17 x18 (gcB m0 [c, x16, x17, x18] h))))) := by kernel_rfl
theorem ZEf : Zxy m0 B =
 mk (Z1s (bv true) B) := by kernel_rfl
theorem ZG7 : ZuT m0 B =
 mk (Z1s (bv false) B) := by kernel_rfl
theorem ZG8 : Zze m0 x5 x16 x17 x18 B =
 mk (ob (xfld 0 x5) fun a =>
 ob (ldN false 1 a B) fun b =>
 Zxx m0 (shr b) x16 x17 x18 (gcB m0 [(shr b), x16, x17, x18] B)) := by kernel_rfl
theorem ZEe : Zxx m0 x3 x16 x17 x18 B =
 mk (ob (xbin PP .add 3 x18 (iv 1)) fun a =>
 ZqZ m0 x3 x16 x17 (shr a) (gcB m0 [x3, x16, x17, (shr a)] B)) := by kernel_rfl
theorem ZLM : EE 20 [x0] B =
 (let m0 := B.length
 mk (bx x0 B fun a b =>
 mk (ob (ldN true 5 a b) fun c =>
 callS false EE 46 [c] b fun d e =>
 ob (xun PP .not d) fun f =>
 asB (shr f) fun g => br g (ZuS m0 (gcB m0 [] e))
 (ob (xfld 4 a) fun h =>
 ob (ldN false 1 h e) fun i =>
 ob (xlen PP 22 i) fun j =>
 ob (xbin PP .gtr 3 j (iv 16)) fun k =>
 asB (shr k) fun l => br l (ZuS m0 (gcB m0 [] e))
 (Zzc m0 a (gcB m0 [a] e)))))) := (E_eq PP XX HH _ _ _).trans (by kernel_rfl)
noncomputable def ZNa := Z39 Tryz.f21
def ZLS (m0 : Nat) : Kont := kret PP HH 21 Tryz.f21.results
def Zzh := exec PP HH 21 m0 EE LL (l2 (l2 (l2 ZNa))) (ZLS m0) [(2, x2), (3, x3)] B
theorem ZG9 : Zzh m0 x2 x3 B =
 mk (ob (ldN true 9 x3 B) fun a =>
 callS false EE 48 [a] B fun b c =>
 ob (Z21 PP 32 [(0, b)]) fun d =>
 stN 3 x2 d c fun e =>
 ZnO x2 e) := by kernel_rfl
theorem ZLR : EE 21 [x0] B =
 (let m0 := B.length
 mk (bz PP 32 B fun a b =>
 mk (callS false EE 47 [(shr x0)] b fun c d =>
 ob (xext 0 (shr c)) fun e =>
 ob (xext 1 (shr c)) fun f =>
 bz PP 100 d fun g h =>
 bz PP 102 h fun i j =>
 stN 9 g (shr e) j fun k =>
 stN 2 i (shr f) k fun l =>
 mk (ob (xfld 0 i) fun n =>
 ob (ldN false 1 n l) fun o =>
 ob (xbin PP .neq 30 o (iv 0)) fun p =>
 asB p fun q => br q (mk (ob (xfld 0 i) fun r =>
 ob (ldN false 1 r l) fun s =>
 ob (xfld 1 i) fun t =>
 ob (ldN false 1 t l) fun u =>
 ob (Z21 PP 32 [(0, s), (2, u)]) fun v =>
 stN 3 a v l fun w =>
 ZnO a w))
 (Zzh m0 a g (gcB m0 [a, g] l)))))) := (E_eq PP XX HH _ _ _).trans (by kernel_rfl)
noncomputable def ZNb := Z39 Tryz.f22
def Zzl := l2 (l2 ZNb)
def Zo0 := l2 (l2 (l2 (l2 (l2 (l2 Zzl)))))
def ZbR := l2 (l2 (l2 Zo0))
def ZuX := l1 (l1 (l2 (l1 (l2 (l2 Zo0)))))
def ZuY := l1 (l1 (l2 (l1 ZbR)))
def Zzm := l2 (l2 (l2 (l2 (l2 ZbR))))
def ZuZ := l1 (l1 (l2 (l1 (l2 ZbR))))
def Zr1 := l2 (l2 ZuY)
def Zv0 := l1 (l1 (l2 (l1 (l2 (l2 (l2 (l2 ZbR)))))))
def Zlm (r0 r1 : AV) (B : List Row) : Option Res :=
 ob (ob (ldN true 5 r0 B) fun v => ob (ob (some r1) fun v => ob (some []) fun vs => some (v :: vs)) fun vs => some (v :: vs)) fun vs => some ((nrmA (match vs with | [v] => v | vs => Z7G (vs.map shr))), B)
def Z9d (m0 : Nat) : Kont := kret PP HH 22 Tryz.f22.results
def ZLU := kseq HH 22 m0 Zo0 (exec PP HH 22 m0 EE LL Zo0 (Z9d m0)) (Z9d m0)
def ZLV := kseq HH 22 m0 ZbR (exec PP HH 22 m0 EE LL ZbR (Z9d m0)) (Z9d m0)
def Zzi := kblk 0 (ZLV m0)
def ZLW := kloop HH 22 m0 ZuX (LL 22 m0 ZuX (Zzi m0)) (Zzi m0)
def ZLX := kseq HH 22 m0 (l2 ZbR) (exec PP HH 22 m0 EE LL (l2 ZbR) (Z9d m0)) (Z9d m0)
def Zzj := kblk 2 (ZLX m0)
def ZuV := kloop HH 22 m0 ZuY (LL 22 m0 ZuY (Zzj m0)) (Zzj m0)
def ZLY := kseq HH 22 m0 (l2 Zr1) (exec PP HH 22 m0 EE LL (l2 Zr1) (ZuV m0)) (ZuV m0)
def ZLZ := kblk 3 (ZLY m0)
def ZKG := kseq HH 22 m0 (l2 (l2 ZbR)) (exec PP HH 22 m0 EE LL (l2 (l2 ZbR)) (Z9d m0)) (Z9d m0)
def Zxz := kblk 4 (ZKG m0)
def ZKH := kloop HH 22 m0 ZuZ (LL 22 m0 ZuZ (Zxz m0)) (Zxz m0)
def ZKI := kseq HH 22 m0 Zzm (exec PP HH 22 m0 EE LL Zzm (Z9d m0)) (Z9d m0)
def ZxA := kblk 6 (ZKI m0)
def ZKJ := kloop HH 22 m0 Zv0 (LL 22 m0 Zv0 (ZxA m0)) (ZxA m0)
def Zzk := exec PP HH 22 m0 EE LL Zzl (Z9d m0) [(2, x2), (3, x3), (4, x4)] B
def ZuW := exec PP HH 22 m0 EE LL (l1 (l2 (l1 (l2 (l2 (l2 (l2 (l2 Zzl)))))))) (ZLU m0) [(4, x4)] B
def ZxB := exec PP HH 22 m0 EE LL Zo0 (Z9d m0) [(2, x2), (3, x3), (4, x4), (6, x6)] B
def ZxC := exec PP HH 22 m0 EE LL (l2 Zo0) (Z9d m0) [(2, x2), (3, x3), (4, x4), (6, x6)] B
def ZnW := lp (LL 22 m0 ZuX (Zzi m0) [(3, x3), (4, x4), (6, x6), (7, x7), (54, x54), (55, x55), (56, x56)] B)
def ZxD := exec PP HH 22 m0 EE LL (l2 (l2 ZuX)) (ZLW m0) [(3, x3), (4, x4), (6, x6), (7, x7), (54, x54), (55, x55), (56, x56)] B
def ZxE := exec PP HH 22 m0 EE LL ZbR (Z9d m0) [(3, x3), (4, x4), (6, x6), (7, x7)] B
def ZnX := lp (LL 22 m0 ZuY (Zzj m0) [(3, x3), (4, x4), (6, x6), (7, x7), (66, x66), (67, x67), (68, x68)] B)
def ZxF := exec PP HH 22 m0 EE LL Zr1 (ZuV m0) [(3, x3), (4, x4), (6, x6), (7, x7), (66, x66), (67, x67), (68, x68)] B
def ZxI := exec PP HH 22 m0 EE LL (l2 ZbR) (Z9d m0) [(3, x3), (4, x4), (6, x6), (7, x7)] B
def ZxG := exec PP HH 22 m0 EE LL (l2 (l2 (l1 (l1 Zr1)))) (ZLZ m0) [(3, x3), (4, x4), (6, x6), (7, x7), (11, x11), (66, x66), (67, x67), (68, x68)] B
def ZnY := lp (LL 22 m0 ZuZ (Zxz m0) [(4, x4), (6, x6), (7, x7), (85, x85), (86, x86), (87, x87)] B)
def ZxH := exec PP HH 22 m0 EE LL (l2 Zr1) (ZuV m0) [(3, x3), (4, x4), (6, x6), (7, x7), (66, x66), (67, x67), (68, x68)] B
def ZxJ := exec PP HH 22 m0 EE LL (l2 (l2 ZuZ)) (ZKH m0) [(4, x4), (6, x6), (7, x7), (85, x85), (86, x86), (87, x87)] B
def ZxK := exec PP HH 22 m0 EE LL (l2 (l2 ZbR)) (Z9d m0) [(4, x4), (6, x6), (7, x7)] B
def ZxL := exec PP HH 22 m0 EE LL (l2 (l2 (l2 ZbR))) (Z9d m0) [(4, x4), (6, x6), (7, x7)] B
def ZnZ := lp (LL 22 m0 Zv0 (ZxA m0) [(4, x4), (6, x6), (7, x7), (103, x103), (104, x104), (105, x105)] B)
def ZxM := exec PP HH 22 m0 EE LL (l2 (l2 Zv0)) (ZKJ m0) [(4, x4), (6, x6), (7, x7), (103, x103), (104, x104), (105, x105)] B
def ZxN := exec PP HH 22 m0 EE LL Zzm (Z9d m0) [(4, x4), (6, x6)] B
theorem ZGa : Zzk m0 x2 x3 x4 B =
 mk (ob (ldN true 5 x2 B) fun a =>
 bz PP 24 B fun b c =>
 stN 5 b a c fun d =>
 mk (ob (xfld 0 b) fun e =>
 ob (xfld 0 x3) fun f =>
 ob (ldN false 1 f d) fun g =>
 callS false EE 49 [e, g] d fun h i =>
 mk (ob (xfld 1 b) fun j =>
 ob (xfld 1 x3) fun k =>
 ob (ldN false 1 k i) fun l =>
 callS false EE 49 [j, l] i fun n o =>
 mk (ob (xfld 2 b) fun p =>
 ob (xfld 2 x3) fun q =>
 ob (ldN false 1 q o) fun r =>
 callS false EE 49 [p, r] o fun s t =>
 mk (ob (xfld 3 b) fun u =>
 ob (xfld 3 x3) fun v =>
 ob (ldN false 1 v t) fun w =>
 callS false EE 49 [u, w] t fun x y =>
 mk (ob (ldN true 5 b y) fun z =>
 callS false EE 46 [z] y fun A C =>
 ob (xun PP .not A) fun D =>
 asB (shr D) fun F => br F (ZuW m0 x4 (gcB m0 [x4] C))
 (ob (xfld 4 x3) fun G =>
 ob (ldN false 1 G C) fun I =>
 callS false EE 50 [I, (.clo 27 [] [])] C fun J M =>
 ob (xun PP .not J) fun N =>
 asB (shr N) fun O => br O (ZuW m0 x4 (gcB m0 [x4] M))
 (ZxB m0 x2 x3 x4 b (gcB m0 [x2, x3, x4, b] M))))))))) := by kernel_rfl
theorem ZGb : ZuW m0 x4 B =
 mk (ob (Z21 PP 24 []) fun a =>
 stN 5 x4 a B fun b =>
 Zlm x4 (iv 30) b) := by kernel_rfl
theorem ZEk : ZxB m0 x2 x3 x4 x6 B =
 mk (ob (ldN true 6 x3 B) fun a =>
 callS false EE 51 [a] B fun b c =>
 asB b fun d => br d (mk (ob (Z21 PP 24 []) fun e =>
 stN 5 x4 e c fun f =>
 Zlm x4 (iv 31) f))
 (ZxC m0 x2 x3 x4 x6 (gcB m0 [x2, x3, x4, x6] c))) := by kernel_rfl
theorem ZEl : ZxC m0 x2 x3 x4 x6 B =
 mk (xmake PP 110 B fun a b =>
 mk (ob (xfld 4 x2) fun c =>
 ob (ldN false 1 c b) fun d =>
 ob (xlen PP 22 d) fun e =>
 ZnW m0 x3 x4 x6 (shr a) d e (iv 0) (gcB m0 [x3, x4, x6, (shr a), d, e, (iv 0)] b))) := by kernel_rfl
theorem ZEg : ZnW m0 x3 x4 x6 x7 x54 x55 x56 B =
 mk (ob (xbin PP .lss 3 x56 x55) fun a =>
 asB a fun b => br b (ZxD m0 x3 x4 x6 x7 x54 x55 x56 (gcB m0 [x3, x4, x6, x7, x54, x55, x56] B))
 (ZxE m0 x3 x4 x6 x7 (gcB m0 [x3, x4, x6, x7] B))) := lq_ (by kernel_rfl)
theorem ZEm : ZxD m0 x3 x4 x6 x7 x54 x55 x56 B =
 mk (ob (xidx 5 x54 x56) fun a =>
 ob (ldN true 5 a B) fun b =>
 bz PP 43 B fun c d =>
 stN 5 c b d fun e =>
 mk (ob (xfld 0 c) fun f =>
 ob (ldN false 1 f e) fun g =>
 ob (ldN true 5 c e) fun h =>
 xupd PP 110 (shr x7) g h e fun i =>
 mk (ob (xbin PP .add 3 x56 (iv 1)) fun j =>
 ZnW m0 x3 x4 x6 x7 x54 x55 (shr j) (gcB m0 [x3, x4, x6, x7, x54, x55, (shr j)] i)))) := by kernel_rfl
theorem ZEn : ZxE m0 x3 x4 x6 x7 B =
 mk (ob (xfld 5 x3) fun a =>
 ob (ldN false 1 a B) fun b =>
 ob (xlen PP 27 b) fun c =>
 ZnX m0 x3 x4 x6 x7 b c (iv 0) (gcB m0 [x3, x4, x6, x7, b, c, (iv 0)] B)) := by kernel_rfl
theorem ZEh : ZnX m0 x3 x4 x6 x7 x66 x67 x68 B =
 mk (ob (xbin PP .lss 3 x68 x67) fun a =>
 asB a fun b => br b (ZxF m0 x3 x4 x6 x7 x66 x67 x68 (gcB m0 [x3, x4, x6, x7, x66, x67, x68] B))
 (ZxI m0 x3 x4 x6 x7 (gcB m0 [x3, x4, x6, x7] B))) := lq_ (by kernel_rfl)
theorem ZEo : ZxF m0 x3 x4 x6 x7 x66 x67 x68 B =
 mk (ob (xidx 1 x66 x68) fun a =>
 ob (ldN false 1 a B) fun b =>
 mk (ob (ZbZ PP 110 true (shr x7) (shr (shr b)) B) fun c =>
 ob (xext 0 (shr c)) fun d =>
 ob (xext 1 (shr c)) fun e =>
 bz PP 43 B fun f g =>
 stN 5 f (shr d) g fun h =>
 mk (ob (xun PP .not (shr (shr (shr e)))) fun i =>
 asB i fun j => br j (mk (ob (Z21 PP 24 []) fun k =>
 stN 5 x4 k h fun l =>
 Zlm x4 (iv 32) l))
 (ZxG m0 x3 x4 x6 x7 (shr b) x66 x67 x68 (gcB m0 [x3, x4, x6, x7, (shr b), x66, x67, x68] h))))) := by kernel_rfl
theorem ZEr : ZxI m0 x3 x4 x6 x7 B =
 mk (ob (xfld 4 x3) fun a =>
 ob (ldN false 1 a B) fun b =>
 ob (xlen PP 22 b) fun c =>
 ZnY m0 x4 x6 x7 b c (iv 0) (gcB m0 [x4, x6, x7, b, c, (iv 0)] B)) := by kernel_rfl
theorem ZEp : ZxG m0 x3 x4 x6 x7 x11 x66 x67 x68 B =
 mk (xdel PP 110 (shr x7) (shr x11) B fun a =>
 ZxH m0 x3 x4 x6 x7 x66 x67 x68 (gcB m0 [x3, x4, x6, x7, x66, x67, x68] a)) := by kernel_rfl
theorem ZEi : ZnY m0 x4 x6 x7 x85 x86 x87 B =
 mk (ob (xbin PP .lss 3 x87 x86) fun a =>
 asB a fun b => br b (ZxJ m0 x4 x6 x7 x85 x86 x87 (gcB m0 [x4, x6, x7, x85, x86, x87] B))
 (ZxK m0 x4 x6 x7 (gcB m0 [x4, x6, x7] B))) := lq_ (by kernel_rfl)
theorem ZEq : ZxH m0 x3 x4 x6 x7 x66 x67 x68 B =
 mk (ob (xbin PP .add 3 x68 (iv 1)) fun a =>
 ZnX m0 x3 x4 x6 x7 x66 x67 (shr a) (gcB m0 [x3, x4, x6, x7, x66, x67, (shr a)] B)) := by kernel_rfl
theorem ZEs : ZxJ m0 x4 x6 x7 x85 x86 x87 B =
 mk (ob (xidx 5 x85 x87) fun a =>
 ob (ldN true 5 a B) fun b =>
 bz PP 43 B fun c d =>
 stN 5 c b d fun e =>
 mk (ob (xfld 0 c) fun f =>
 ob (ldN false 1 f e) fun g =>
 ob (ldN true 5 c e) fun h =>
 xupd PP 110 (shr x7) g h e fun i =>
 mk (ob (xbin PP .add 3 x87 (iv 1)) fun j =>
 ZnY m0 x4 x6 x7 x85 x86 (shr j) (gcB m0 [x4, x6, x7, x85, x86, (shr j)] i)))) := by kernel_rfl
theorem ZEt : ZxK m0 x4 x6 x7 B =
 mk (ob (Zqs (shr x7) B) fun a =>
 ob (xbin PP .gtr 3 a (iv 16)) fun b =>
 asB b fun c => br c (mk (ob (Z21 PP 24 []) fun d =>
 stN 5 x4 d B fun e =>
 Zlm x4 (iv 33) e))
 (ZxL m0 x4 x6 x7 (gcB m0 [x4, x6, x7] B))) := by kernel_rfl
theorem ZEu : ZxL m0 x4 x6 x7 B =
 mk (ob (xfld 4 x6) fun a =>
 stN 1 a nilA B fun b =>
 mk (callS false EE 53 [(shr x7)] b fun c d =>
 callS false EE 52 [c] d fun e f =>
 ob (xlen PP 27 e) fun g =>
 ZnZ m0 x4 x6 x7 e g (iv 0) (gcB m0 [x4, x6, x7, e, g, (iv 0)] f))) := by kernel_rfl
theorem ZEj : ZnZ m0 x4 x6 x7 x103 x104 x105 B =
 mk (ob (xbin PP .lss 3 x105 x104) fun a =>
 asB a fun b => br b (ZxM m0 x4 x6 x7 x103 x104 x105 (gcB m0 [x4, x6, x7, x103, x104, x105] B))
 (ZxN m0 x4 x6 (gcB m0 [x4, x6] B))) := lq_ (by kernel_rfl)
theorem ZEv : ZxM m0 x4 x6 x7 x103 x104 x105 B =
 mk (ob (xidx 1 x103 x105) fun a =>
 ob (ldN false 1 a B) fun b =>
 mk (ob (xfld 4 x6) fun c =>
 ldOwn c B fun d e =>
 ob (ZbZ PP 110 false (shr x7) (shr (shr b)) e) fun f =>
 ob (xlit PP 22 1 [(0, f)]) fun g =>
 ob (xapp 5 d g) fun h =>
 ob (xfld 4 x6) fun i =>
 stN 1 i h e fun j =>
 mk (ob (xbin PP .add 3 x105 (iv 1)) fun k =>
 ZnZ m0 x4 x6 x7 x103 x104 (shr k) (gcB m0 [x4, x6, x7, x103, x104, (shr k)] j)))) := by kernel_rfl
theorem ZEw : ZxN m0 x4 x6 B =
 mk (ob (ldN true 5 x6 B) fun a =>
 stN 5 x4 a B fun b =>
 Zlm x4 (iv 0) b) := by kernel_rfl
theorem ZLT : EE 22 [x0, x1] B =
 (let m0 := B.length
 mk (bx x0 B fun a b =>
 bx x1 b fun c d =>
 bz PP 24 d fun e f =>
 mk (ob (ldN true 5 a f) fun g =>
 callS false EE 20 [g] f fun h i =>
 ob (xun PP .not h) fun j =>
 asB j fun k => br k (mk (ob (Z21 PP 24 []) fun l =>
 stN 5 e l i fun n =>
 Zlm e (iv 10) n))
 (Zzk m0 a c e (gcB m0 [a, c, e] i))))) := (E_eq PP XX HH _ _ _).trans (by kernel_rfl)
noncomputable def ZNc := Z39 Tryz.f23
def ZGf := l2 (l2 (l2 ZNc))
def ZxO (r0 r1 : AV) (B : List Row) : Option Res :=
 ob (ob (ldN true 5 r0 B) fun v => ob (ob (ldN true 3 r1 B) fun v => ob (some []) fun vs => some (v :: vs)) fun vs => some (v :: vs)) fun vs => some ((nrmA (match vs with | [v] => v | vs => Z7G (vs.map shr))), B)
def ZGc (m0 : Nat) : Kont := kret PP HH 23 Tryz.f23.results
def Zzn := exec PP HH 23 m0 EE LL ZGf (ZGc m0) [(4, x4), (5, x5), (6, x6)] B
def Zzo := exec PP HH 23 m0 EE LL (l2 ZGf) (ZGc m0) [(4, x4), (5, x5), (6, x6)] B
theorem ZGd : Zzn m0 x4 x5 x6 B =
 mk (ob (ldN true 5 x6 B) fun a =>
 callS false EE 16 [a] B fun b c =>
 bz PP 32 c fun d e =>
 stN 3 d b e fun f =>
 mk (ob (xfld 0 d) fun g =>
 ob (ldN false 1 g f) fun h =>
 ob (xbin PP .neq 30 h (iv 0)) fun i =>
 asB i fun j => br j (mk (ob (Z21 PP 24 []) fun k =>
 ob (ldN true 3 d f) fun l =>
 stN 5 x4 k f fun n =>
 stN 3 x5 l n fun o =>
 grd (Z7m d x4) (ZxO x4 x5 o)))
 (Zzo m0 x4 x5 x6 (gcB m0 [x4, x5, x6] f)))) := by kernel_rfl
theorem ZGe : Zzo m0 x4 x5 x6 B =
 mk (ob (ldN true 5 x6 B) fun a =>
 ob (Z21 PP 32 []) fun b =>
 stN 5 x4 a B fun c =>
 stN 3 x5 b c fun d =>
 ZxO x4 x5 d) := by kernel_rfl
theorem ZM0 : EE 23 [x0, x1] B =
 (let m0 := B.length
 mk (bx x0 B fun a b =>
 bx x1 b fun c d =>
 bz PP 24 d fun e f =>
 bz PP 32 f fun g h =>
 mk (ob (ldN true 5 a h) fun i =>
 ob (ldN true 6 c h) fun j =>
 callS false EE 22 [i, j] h fun k l =>
 ob (xext 0 (shr k)) fun n =>
 ob (xext 1 (shr k)) fun o =>
 bz PP 24 l fun p q =>
 stN 5 p (shr n) q fun r =>
 mk (ob (xbin PP .neq 30 (shr (shr (shr o))) (iv 0)) fun s =>
 asB s fun t => br t (mk (ob (Z21 PP 24 []) fun u =>
 ob (Z21 PP 32 [(0, (shr (shr (shr o))))]) fun v =>
 stN 5 e u r fun w =>
 stN 3 g v w fun x =>
 ZxO e g x))
 (Zzn m0 e g p (gcB m0 [e, g, p] r)))))) := (E_eq PP XX HH _ _ _).trans (by kernel_rfl)
theorem ZM1 : EE 27 [x0] B =
 (let m0 := B.length
 mk (bx x0 B fun a b =>
 mk (ob (xfld 0 a) fun c =>
 ob (ldN false 1 c b) fun d =>
 ob (xbin PP .geq 3 d (iv 1)) fun e =>
 asB (shr e) fun f => br f (ob (xfld 0 a) fun g =>
 ob (ldN false 1 g b) fun h =>
 ob (xbin PP .leq 3 h (iv 1099511627776)) fun i =>
 asB (shr (shr i)) fun j => br j (ob (xfld 1 a) fun k =>
 ob (ldN false 1 k b) fun l =>
 ob (xbin PP .geq 3 l (iv 0)) fun n =>
 asB (shr (shr n)) fun o => br o (ob (xfld 1 a) fun p =>
 ob (ldN false 1 p b) fun q =>
 ob (xbin PP .leq 3 q (iv 1000)) fun r =>
 asB (shr (shr r)) fun s => br s (ob (xfld 2 a) fun t =>
 ob (ldN false 1 t b) fun u =>
 ob (xbin PP .geq 3 u (iv 0)) fun v =>
 asB (shr (shr v)) fun w => br w (ob (xfld 2 a) fun x =>
 ob (ldN false 1 x b) fun y =>
 ob (xbin PP .leq 3 y (iv 255)) fun z =>
 asB (shr (shr z)) fun A => br A (ob (xfld 3 a) fun C =>
 ob (ldN false 1 C b) fun D =>
 ob (xbin PP .geq 3 D (iv 1)) fun F =>
 asB (shr (shr F)) fun G => br G (ob (xfld 3 a) fun I =>
 ob (ldN false 1 I b) fun J =>
 ob (xbin PP .leq 3 J (iv 65535)) fun M =>
 asB (shr (shr M)) fun N => br N (ob (xfld 4 a) fun O =>
 ob (ldN false 1 O b) fun Q =>
 ob (xlen PP 9 Q) fun R =>
 ob (xbin PP .leq 3 R (iv 256)) fun S =>
 Z1s (shr (shr S)) b)
 (Z1s (bv false) b))
 (Z1s (bv false) b))
 (Z1s (bv false) b))
 (Z1s (bv false) b))
 (Z1s (bv false) b))
 (Z1s (bv false) b))
 (Z1s (bv false) b))
 (Z1s (bv false) b)))) := (E_eq PP XX HH _ _ _).trans (by kernel_rfl)
theorem ZM2 : EE 29 [] B =
 (let m0 := B.length
 mk (mk (callS false EE 32 [] B fun a b =>
 mk (callS false EE 55 [(iv 1), (iv 1), (iv 3), (.p (.v (.string (ByteArray.mk #[97]))))] b fun c d =>
 callS false EE 33 [(shr (shr a)), c] d fun e f =>
 ob (xext 0 (shr e)) fun g =>
 ob (xext 1 (shr e)) fun h =>
 bz PP 66 f fun i j =>
 stN 4 i (shr g) j fun k =>
 mk (callS false EE 55 [(iv 1), (iv 1), (iv 3), (.p (.v (.string (ByteArray.mk #[97]))))] k fun l n =>
 callS false EE 33 [(shr (shr a)), l] n fun o q =>
 ob (xext 0 (shr o)) fun r =>
 ob (xext 1 (shr o)) fun s =>
 bz PP 66 q fun t u =>
 stN 4 t (shr r) u fun w =>
 mk (callS false EE 55 [(iv 1), (iv 2), (iv 4), (.p (.v (.string (ByteArray.mk #[40]))))] w fun x y =>
 callS false EE 33 [(shr (shr a)), x] y fun z A =>
 ob (xext 0 (shr z)) fun C =>
 ob (xext 1 (shr z)) fun D =>
 bz PP 66 A fun F G =>
 stN 4 F (shr C) G fun I =>
 mk (ob (xbin PP .eql 30 (shr (shr (shr h))) (iv 0)) fun J =>
 asB (shr J) fun M => br M (ob (xbin PP .eql 30 (shr (shr (shr s))) (iv 0)) fun N =>
 asB (shr (shr N)) fun O => br O (ob (xbin PP .eql 30 (shr (shr (shr D))) (iv 0)) fun Q =>
 asB (shr (shr Q)) fun R => br R (ob (ldN true 4 i I) fun S =>
 ob (Z21 PP 66 [(0, (iv 1))]) fun T =>
 ob (xbin PP .eql 66 S T) fun U =>
 asB (shr (shr U)) fun V => br V (ob (xfld 1 t) fun W =>
 ob (xfld 0 W) fun Y =>
 ob (ldN false 1 Y I) fun Z =>
 ob (xbin PP .eql 30 Z (iv 31)) fun a0 =>
 asB (shr (shr a0)) fun a1 => br a1 (ob (xfld 1 F) fun a2 =>
 ob (ldN true 3 a2 I) fun a3 =>
 ob (Z21 PP 32 [(0, (iv 20)), (1, (iv 4))]) fun a4 =>
 ob (xbin PP .eql 32 a3 a4) fun a5 =>
 asB (shr (shr a5)) fun a6 => br a6 (callS false EE 35 [(shr (shr a))] I fun a7 a8 =>
 ob (xbin PP .eql 3 a7 (iv 1)) fun a9 =>
 Z1s (shr (shr a9)) a8)
 (Z1s (bv false) I))
 (Z1s (bv false) I))
 (Z1s (bv false) I))
 (Z1s (bv false) I))
 (Z1s (bv false) I))
 (Z1s (bv false) I)))))))) := (E_eq PP XX HH _ _ _).trans (by kernel_rfl)
noncomputable def ZJ8 := Z39 Tryz.f30
def Zzv := l2 (l2 ZJ8)
def Zv4 := l1 (l1 (l2 (l1 (l2 ZJ8))))
def Zo1 := l2 (l2 Zv4)
def Zv5 := l2 (l2 (l1 (l1 Zo1)))
def Zv6 := l1 (l1 (l2 Zv5))
def ZGn := l2 (l2 Zv6)
def Zzp (m0 : Nat) : Kont := kret PP HH 30 Tryz.f30.results
def ZM4 := kseq HH 30 m0 Zzv (exec PP HH 30 m0 EE LL Zzv (Zzp m0)) (Zzp m0)
def Zzq := kblk 0 (ZM4 m0)
def Zv1 := kloop HH 30 m0 Zv4 (LL 30 m0 Zv4 (Zzq m0)) (Zzq m0)
def ZM5 := kseq HH 30 m0 (l2 Zo1) (exec PP HH 30 m0 EE LL (l2 Zo1) (Zv1 m0)) (Zv1 m0)
def Zv2 := kblk 1 (ZM5 m0)
def ZM6 := kseq HH 30 m0 Zv5 (exec PP HH 30 m0 EE LL Zv5 (Zv2 m0)) (Zv2 m0)
def Zzr := kblk 2 (Zv2 m0)
def ZGg := kloop HH 30 m0 Zv6 (LL 30 m0 Zv6 (Zzr m0)) (Zzr m0)
def Zr2 := lp (LL 30 m0 Zv4 (Zzq m0) [(0, x0), (7, x7), (8, x8), (9, x9)] B)
def Zzs := exec PP HH 30 m0 EE LL Zo1 (Zv1 m0) [(0, x0), (7, x7), (8, x8), (9, x9)] B
def ZxR := exec PP HH 30 m0 EE LL Zzv (Zzp m0) [(0, x0)] B
def Zv3 := exec PP HH 30 m0 EE LL (l1 (l2 (l1 (l2 (l1 (l1 Zo1)))))) (ZM6 m0) [] B
def Zzt := exec PP HH 30 m0 EE LL Zv5 (Zv2 m0) [(0, x0), (4, x4), (7, x7), (8, x8), (9, x9)] B
def Zr3 := lp (LL 30 m0 Zv6 (Zzr m0) [(0, x0), (7, x7), (8, x8), (9, x9), (27, x27), (28, x28), (29, x29)] B)
def Zzu := exec PP HH 30 m0 EE LL ZGn (ZGg m0) [(0, x0), (7, x7), (8, x8), (9, x9), (27, x27), (28, x28), (29, x29)] B
def ZxQ := exec PP HH 30 m0 EE LL (l2 Zo1) (Zv1 m0) [(0, x0), (7, x7), (8, x8), (9, x9)] B
def ZxP := exec PP HH 30 m0 EE LL (l2 ZGn) (ZGg m0) [(0, x0), (7, x7), (8, x8), (9, x9), (27, x27), (28, x28), (29, x29)] B
theorem ZGh : Zr2 m0 x0 x7 x8 x9 B =
 mk (ob (xbin PP .lss 3 x9 x8) fun a =>
 asB a fun b => br b (Zzs m0 x0 x7 x8 x9 (gcB m0 [x0, x7, x8, x9] B))
 (ZxR m0 x0 (gcB m0 [x0] B))) := lq_ (by kernel_rfl)
theorem ZGj : Zzs m0 x0 x7 x8 x9 B =
 mk (ob (xidx 9 x7 x9) fun a =>
 ob (ldN true 9 a B) fun b =>
 bz PP 61 B fun c d =>
 stN 9 c b d fun e =>
 mk (ob (xfld 3 c) fun f =>
 ob (xfld 4 f) fun g =>
 ob (ldN false 1 g e) fun h =>
 ob (xlen PP 22 h) fun i =>
 ob (xbin PP .gtr 3 i (iv 20)) fun j =>
 asB (shr j) fun k => br k (Zv3 m0 (gcB m0 [] e))
 (ob (xfld 3 c) fun l =>
 ob (xfld 5 l) fun n =>
 ob (ldN false 1 n e) fun o =>
 ob (xlen PP 27 o) fun p =>
 ob (xbin PP .gtr 3 p (iv 20)) fun q =>
 asB (shr q) fun r => br r (Zv3 m0 (gcB m0 [] e))
 (Zzt m0 x0 c x7 x8 x9 (gcB m0 [x0, c, x7, x8, x9] e))))) := by kernel_rfl
theorem ZEz : ZxR m0 x0 B =
 mk (ob (xlen PP 59 (shr x0)) fun a =>
 ob (xbin PP .leq 3 a (iv 70)) fun b =>
 Z1s (shr b) B) := by kernel_rfl
theorem ZGk : Zv3 m0 B =
 mk (Z1s (bv false) B) := by kernel_rfl
theorem ZGl : Zzt m0 x0 x4 x7 x8 x9 B =
 mk (ob (xfld 3 x4) fun a =>
 ob (xfld 4 a) fun b =>
 ob (ldN false 1 b B) fun c =>
 ob (xlen PP 22 c) fun d =>
 Zr3 m0 x0 x7 x8 x9 c d (iv 0) (gcB m0 [x0, x7, x8, x9, c, d, (iv 0)] B)) := by kernel_rfl
theorem ZGi : Zr3 m0 x0 x7 x8 x9 x27 x28 x29 B =
 mk (ob (xbin PP .lss 3 x29 x28) fun a =>
 asB a fun b => br b (Zzu m0 x0 x7 x8 x9 x27 x28 x29 (gcB m0 [x0, x7, x8, x9, x27, x28, x29] B))
 (ZxQ m0 x0 x7 x8 x9 (gcB m0 [x0, x7, x8, x9] B))) := lq_ (by kernel_rfl)
theorem ZGm : Zzu m0 x0 x7 x8 x9 x27 x28 x29 B =
 mk (ob (xidx 5 x27 x29) fun a =>
 ob (ldN true 5 a B) fun b =>
 bz PP 43 B fun c d =>
 stN 5 c b d fun e =>
 mk (ob (xfld 4 c) fun f =>
 ob (ldN false 1 f e) fun g =>
 ob (xlen PP 9 g) fun h =>
 ob (xbin PP .gtr 3 h (iv 300)) fun i =>
 asB i fun j => br j (mk (Z1s (bv false) e))
 (ZxP m0 x0 x7 x8 x9 x27 x28 x29 (gcB m0 [x0, x7, x8, x9, x27, x28, x29] e)))) := by kernel_rfl
theorem ZEy : ZxQ m0 x0 x7 x8 x9 B =
 mk (ob (xbin PP .add 3 x9 (iv 1)) fun a =>
 Zr2 m0 x0 x7 x8 (shr a) (gcB m0 [x0, x7, x8, (shr a)] B)) := by kernel_rfl
theorem ZEx : ZxP m0 x0 x7 x8 x9 x27 x28 x29 B =
 mk (ob (xbin PP .add 3 x29 (iv 1)) fun a =>
 Zr3 m0 x0 x7 x8 x9 x27 x28 (shr a) (gcB m0 [x0, x7, x8, x9, x27, x28, (shr a)] B)) := by kernel_rfl
theorem ZM3 : EE 30 [x0] B =
 (let m0 := B.length
 mk (mk (ob (xlen PP 59 (shr x0)) fun a =>
 Zr2 m0 x0 (shr x0) a (iv 0) (gcB m0 [x0, (shr x0), a, (iv 0)] B)))) := (E_eq PP XX HH _ _ _).trans (by kernel_rfl)
theorem ZM7 : EE 31 [x0] B =
 (let m0 := B.length
 mk (bx x0 B fun a b =>
 mk (ob (xfld 3 a) fun c =>
 ob (ldN true 6 c b) fun d =>
 bz PP 29 b fun e f =>
 stN 6 e d f fun g =>
 mk (ob (xfld 0 a) fun h =>
 ob (ldN false 1 h g) fun i =>
 callS false EE 56 [i, (iv 0)] g fun j k =>
 asB (shr j) fun l => br l (ob (xfld 1 a) fun n =>
 ob (ldN false 1 n k) fun o =>
 callS false EE 56 [o, (iv 1)] k fun p q =>
 asB (shr (shr p)) fun r => br r (ob (xfld 2 a) fun s =>
 ob (ldN false 1 s q) fun t =>
 callS false EE 56 [t, (iv 1)] q fun u v =>
 asB (shr (shr u)) fun w => br w (ob (xfld 0 e) fun x =>
 ob (ldN false 1 x v) fun y =>
 callS false EE 56 [y, (iv (-1))] v fun z A =>
 asB (shr (shr z)) fun C => br C (ob (xfld 1 e) fun D =>
 ob (ldN false 1 D A) fun F =>
 callS false EE 56 [F, (iv (-1))] A fun G I =>
 asB (shr (shr G)) fun J => br J (ob (xfld 2 e) fun M =>
 ob (ldN false 1 M I) fun N =>
 callS false EE 56 [N, (iv (-1))] I fun O Q =>
 asB (shr (shr O)) fun R => br R (ob (xfld 3 e) fun S =>
 ob (ldN false 1 S Q) fun T =>
 callS false EE 56 [T, (iv (-1))] Q fun U V =>
 asB (shr (shr U)) fun W => br W (ob (xfld 4 e) fun Y =>
 ob (ldN false 1 Y V) fun Z =>
 ob (xlen PP 22 Z) fun a0 =>
 ob (xbin PP .leq 3 a0 (iv 16)) fun a1 =>
 asB (shr (shr a1)) fun a2 => br a2 (ob (xfld 5 e) fun a3 =>
 ob (ldN false 1 a3 V) fun a4 =>
 ob (xlen PP 27 a4) fun a5 =>
 ob (xbin PP .leq 3 a5 (iv 16)) fun a6 =>
 asB (shr (shr a6)) fun a7 => br a7 (ob (xfld 4 e) fun a8 =>
 ob (ldN false 1 a8 V) fun a9 =>
 callS false EE 57 [a9, (.clo 58 [] [])] V fun a10 a11 =>
 ob (xun PP .not a10) fun a12 =>
 asB (shr (shr a12)) fun a13 => br a13 (ob (xfld 5 e) fun a14 =>
 ob (ldN false 1 a14 a11) fun a15 =>
 callS false EE 59 [a15, (.clo 60 [] [])] a11 fun a16 a17 =>
 ob (xun PP .not a16) fun a18 =>
 Z1s (shr (shr a18)) a17)
 (Z1s (bv false) a11))
 (Z1s (bv false) V))
 (Z1s (bv false) V))
 (Z1s (bv false) V))
 (Z1s (bv false) Q))
 (Z1s (bv false) I))
 (Z1s (bv false) A))
 (Z1s (bv false) v))
 (Z1s (bv false) q))
 (Z1s (bv false) k))))) := (E_eq PP XX HH _ _ _).trans (by kernel_rfl)
theorem ZM8 : EE 32 [] B =
 (let m0 := B.length
 mk (mk (callS false EE 43 [] B fun a b =>
 ob (xlit PP 121 1 [(0, a)]) fun c =>
 xmake PP 122 b fun d e =>
 ob (Z21 PP 124 [(0, c), (1, d)]) fun f =>
 bx f e fun g h =>
 Z1s (shr g) h))) := (E_eq PP XX HH _ _ _).trans (by kernel_rfl)
noncomputable def ZNd := Z39 Tryz.f33
def Zzy := l2 (l2 ZNd)
def Zzz := l2 (l2 Zzy)
def ZxS (r0 r1 : AV) (B : List Row) : Option Res :=
 ob (ob (ldN true 4 r0 B) fun v => ob (ob (some r1) fun v => ob (some []) fun vs => some (v :: vs)) fun vs => some (v :: vs)) fun vs => some ((nrmA (match vs with | [v] => v | vs => Z7G (vs.map shr))), B)
def Zv7 (m0 : Nat) : Kont := kret PP HH 33 Tryz.f33.results
def ZMa := kseq HH 33 m0 Zzz (exec PP HH 33 m0 EE LL Zzz (Zv7 m0)) (Zv7 m0)
def Zzw := exec PP HH 33 m0 EE LL Zzy (Zv7 m0) [(0, x0), (3, x3), (4, x4)] B
def Zzx := exec PP HH 33 m0 EE LL (l1 (l2 (l2 (l1 (l2 Zzy))))) (ZMa m0) [(4, x4)] B
def Zv8 := exec PP HH 33 m0 EE LL Zzz (Zv7 m0) [(0, x0), (3, x3), (4, x4)] B
theorem ZGo : Zzw m0 x0 x3 x4 B =
 mk (ob (Z2l (shr x0)) fun a =>
 ob (xfld 2 a) fun b =>
 ob (ldN false 1 b B) fun c =>
 ob (xbin PP .add 3 c (iv 1)) fun d =>
 ob (Z2l (shr x0)) fun e =>
 ob (xfld 2 e) fun f =>
 stN 1 f d B fun g =>
 mk (ob (Z2l (shr x0)) fun h =>
 ob (xfld 1 h) fun i =>
 ob (ldN false 1 i g) fun j =>
 ob (xfld 1 x3) fun k =>
 ob (ldN false 1 k g) fun l =>
 ob (ZbZ PP 122 true j l g) fun n =>
 ob (xext 0 (shr n)) fun o =>
 ob (xext 1 (shr n)) fun p =>
 bz PP 126 g fun q r =>
 stN 5 q (shr o) r fun s =>
 grd (Z7m i q) (grd (Z7m k q) (grd (Z7m j q) (mk (asB (shr (shr (shr (shr p)))) fun t => br t (ob (xfld 2 x3) fun u =>
 ob (ldN false 1 u s) fun v =>
 ob (xfld 0 q) fun w =>
 ob (ldN false 1 w s) fun x =>
 ob (xbin PP .leq 3 v x) fun y =>
 asB (shr y) fun z => br z (Zzx m0 x4 (gcB m0 [x4] s))
 (Zv8 m0 x0 x3 x4 (gcB m0 [x0, x3, x4] s)))
 (Zv8 m0 x0 x3 x4 (gcB m0 [x0, x3, x4] s)))))))) := by kernel_rfl
theorem ZGp : Zzx m0 x4 B =
 mk (ob (Z21 PP 32 [(0, (iv 31))]) fun a =>
 ob (Z21 PP 66 [(1, a)]) fun b =>
 stN 4 x4 b B fun c =>
 ZxS x4 (iv 0) c) := by kernel_rfl
theorem ZGq : Zv8 m0 x0 x3 x4 B =
 mk (ob (xfld 3 x3) fun a =>
 ob (ldN true 6 a B) fun b =>
 callS false EE 61 [(shr x0), b] B fun c d =>
 bz PP 66 d fun e f =>
 stN 4 e c f fun g =>
 mk (ob (Z2l (shr x0)) fun h =>
 ob (xfld 1 h) fun i =>
 ob (ldN false 1 i g) fun j =>
 ob (xfld 1 x3) fun k =>
 ob (ldN false 1 k g) fun l =>
 ob (xfld 2 x3) fun n =>
 ob (ldN false 1 n g) fun o =>
 ob (ldN true 4 e g) fun p =>
 ob (Z21 PP 126 [(0, o), (1, p)]) fun q =>
 xupd PP 122 j l q g fun r =>
 mk (ob (ldN true 4 e r) fun s =>
 stN 4 x4 s r fun t =>
 ZxS x4 (iv 0) t))) := by kernel_rfl
theorem ZM9 : EE 33 [x0, x1] B =
 (let m0 := B.length
 mk (bx x1 B fun a b =>
 bz PP 66 b fun c d =>
 mk (ob (ldN true 9 a d) fun e =>
 callS false EE 31 [e] d fun f g =>
 ob (xun PP .not f) fun h =>
 asB h fun i => br i (mk (ob (Z21 PP 66 []) fun j =>
 stN 4 c j g fun k =>
 ZxS c (iv 10) k))
 (Zzw m0 x0 a c (gcB m0 [x0, a, c] g))))) := (E_eq PP XX HH _ _ _).trans (by kernel_rfl)
def ZKK (r0 r1 r2 : AV) (B : List Row) : Option Res :=
 ob (ob (some r0) fun v => ob (ob (ldN true 4 r1 B) fun v => ob (ob (some r2) fun v => ob (some []) fun vs => some (v :: vs)) fun vs => some (v :: vs)) fun vs => some (v :: vs)) fun vs => some ((nrmA (match vs with | [v] => v | vs => Z7G (vs.map shr))), B)
theorem ZMb : EE 34 [x0, x1] B =
 (let m0 := B.length
 mk (bz PP 66 B fun a b =>
 mk (ob (Z2l (shr x0)) fun c =>
 ob (xfld 1 c) fun d =>
 ob (ldN false 1 d b) fun e =>
 ob (ZbZ PP 122 true e (shr x1) b) fun f =>
 ob (xext 0 (shr f)) fun g =>
 ob (xext 1 (shr f)) fun h =>
 bz PP 126 b fun i j =>
 stN 5 i (shr g) j fun k =>
 mk (ob (xfld 0 i) fun l =>
 ob (ldN false 1 l k) fun n =>
 ob (xfld 1 i) fun o =>
 ob (xfld 0 o) fun p =>
 ob (ldN false 1 p k) fun q =>
 ob (xfld 1 i) fun r =>
 ob (xfld 1 r) fun s =>
 ob (ldN true 3 s k) fun t =>
 ob (Z21 PP 66 [(0, q), (1, t)]) fun u =>
 stN 4 a u k fun v =>
 ZKK (shr n) a (shr (shr (shr (shr h)))) v)))) := (E_eq PP XX HH _ _ _).trans (by kernel_rfl)
theorem ZMc : EE 35 [x0] B =
 (let m0 := B.length
 mk (mk (ob (Z2l (shr x0)) fun a =>
 ob (xfld 0 a) fun b =>
 ob (ldN false 1 b B) fun c =>
 ob (xlen PP 121 c) fun d =>
 ob (xbin PP .sub 3 d (iv 1)) fun e =>
 Z1s (shr e) B))) := (E_eq PP XX HH _ _ _).trans (by kernel_rfl)
def ZKL (r0 : AV) (B : List Row) : Option Res :=
 ob (ob (ldN true 5 r0 B) fun v => ob (some []) fun vs => some (v :: vs)) fun vs => some ((nrmA (match vs with | [v] => v | vs => Z7G (vs.map shr))), B)
theorem ZMd : EE 43 [] B =
 (let m0 := B.length
 mk (bz PP 24 B fun a b =>
 mk (ob (Z21 PP 24 [(1, (iv 255)), (2, (iv 10000)), (3, (iv 500))]) fun c =>
 stN 5 a c b fun d =>
 ZKL a d))) := (E_eq PP XX HH _ _ _).trans (by kernel_rfl)
theorem ZMe : EE 46 [x0] B =
 (let m0 := B.length
 mk (bx x0 B fun a b =>
 mk (ob (xfld 0 a) fun c =>
 ob (ldN false 1 c b) fun d =>
 ob (xbin PP .geq 3 d (iv 0)) fun e =>
 asB (shr e) fun f => br f (ob (xfld 0 a) fun g =>
 ob (ldN false 1 g b) fun h =>
 ob (xbin PP .leq 3 h (iv 255)) fun i =>
 asB (shr (shr i)) fun j => br j (ob (xfld 1 a) fun k =>
 ob (ldN false 1 k b) fun l =>
 ob (xbin PP .geq 3 l (iv 0)) fun n =>
 asB (shr (shr n)) fun o => br o (ob (xfld 1 a) fun p =>
 ob (ldN false 1 p b) fun q =>
 ob (xbin PP .leq 3 q (iv 255)) fun r =>
 asB (shr (shr r)) fun s => br s (ob (xfld 2 a) fun t =>
 ob (ldN false 1 t b) fun u =>
 ob (xbin PP .geq 3 u (iv 1)) fun v =>
 asB (shr (shr v)) fun w => br w (ob (xfld 2 a) fun x =>
 ob (ldN false 1 x b) fun y =>
 ob (xbin PP .leq 3 y (iv 1048576)) fun z =>
 asB (shr (shr z)) fun A => br A (ob (xfld 3 a) fun C =>
 ob (ldN false 1 C b) fun D =>
 ob (xbin PP .geq 3 D (iv 0)) fun F =>
 asB (shr (shr F)) fun G => br G (ob (xfld 3 a) fun I =>
 ob (ldN false 1 I b) fun J =>
 ob (xbin PP .leq 3 J (iv 4096)) fun M =>
 Z1s (shr (shr M)) b)
 (Z1s (bv false) b))
 (Z1s (bv false) b))
 (Z1s (bv false) b))
 (Z1s (bv false) b))
 (Z1s (bv false) b))
 (Z1s (bv false) b))
 (Z1s (bv false) b)))) := (E_eq PP XX HH _ _ _).trans (by kernel_rfl)
noncomputable def ZNe := Z39 Tryz.f47
def ZzD := l2 (l2 ZNe)
def ZjR := l2 (l2 (l2 (l2 ZzD)))
def Zv9 := l1 (l1 (l2 (l1 ZjR)))
def ZGw := l2 (l2 Zv9)
def ZxW (r0 r1 : AV) (B : List Row) : Option Res :=
 ob (ob (ldN true 9 r0 B) fun v => ob (ob (ldN true 2 r1 B) fun v => ob (some []) fun vs => some (v :: vs)) fun vs => some (v :: vs)) fun vs => some ((nrmA (match vs with | [v] => v | vs => Z7G (vs.map shr))), B)
def ZjQ (m0 : Nat) : Kont := kret PP HH 47 Tryz.f47.results
def ZMg := kseq HH 47 m0 ZjR (exec PP HH 47 m0 EE LL ZjR (ZjQ m0)) (ZjQ m0)
def ZMh := kseq HH 47 m0 (l2 ZjR) (exec PP HH 47 m0 EE LL (l2 ZjR) (ZjQ m0)) (ZjQ m0)
def ZzA := kblk 0 (ZMh m0)
def ZGr := kloop HH 47 m0 Zv9 (LL 47 m0 Zv9 (ZzA m0)) (ZzA m0)
def ZzB := exec PP HH 47 m0 EE LL ZzD (ZjQ m0) [(0, x0), (2, x2), (3, x3)] B
def ZzC := exec PP HH 47 m0 EE LL (l1 (l2 (l1 (l2 (l2 (l2 ZzD)))))) (ZMg m0) [(2, x2), (3, x3), (4, x4), (5, x5)] B
def Zr5 := exec PP HH 47 m0 EE LL ZjR (ZjQ m0) [(2, x2), (3, x3), (4, x4), (5, x5)] B
def Zr4 := lp (LL 47 m0 Zv9 (ZzA m0) [(2, x2), (3, x3), (4, x4), (5, x5), (50, x50), (51, x51), (52, x52)] B)
def ZxT := exec PP HH 47 m0 EE LL ZGw (ZGr m0) [(2, x2), (3, x3), (4, x4), (5, x5), (50, x50), (51, x51), (52, x52)] B
def ZxU := exec PP HH 47 m0 EE LL (l2 ZjR) (ZjQ m0) [(2, x2), (3, x3), (4, x4), (5, x5)] B
def ZsF := exec PP HH 47 m0 EE LL (l2 ZGw) (ZGr m0) [(2, x2), (3, x3), (4, x4), (5, x5), (50, x50), (51, x51), (52, x52)] B
def ZxV := exec PP HH 47 m0 EE LL (l2 (l2 ZjR)) (ZjQ m0) [(2, x2), (3, x3), (4, x4), (5, x5)] B
theorem ZGt : ZzB m0 x0 x2 x3 B =
 mk (ob (xcnv PP 9 141 (shr x0)) fun a =>
 ob (Z21 PP 144 [(0, a)]) fun b =>
 bx b B fun c d =>
 mk (callS false EE 68 [(shr (shr c)), (.p (.v (.string (ByteArray.mk #[40, 63, 105, 41]))))] d fun e f =>
 ob (Z21 PP 100 [(2, e)]) fun g =>
 bz PP 100 f fun h i =>
 stN 9 h g i fun j =>
 mk (callS false EE 69 [(shr (shr c))] j fun k l =>
 ob (xfld 0 h) fun n =>
 stN 7 n k l fun o =>
 mk (ob (Z2l (shr (shr c))) fun q =>
 ob (xfld 5 q) fun r =>
 ob (xfld 0 r) fun s =>
 ob (ldN false 1 s o) fun t =>
 ob (xbin PP .eql 30 t (iv 0)) fun u =>
 asB (shr u) fun w => br w (ob (Z2l (shr (shr c))) fun x =>
 ob (xfld 1 x) fun y =>
 ob (ldN false 1 y o) fun z =>
 ob (Z2l (shr (shr c))) fun A =>
 ob (xfld 0 A) fun C =>
 ob (ldN false 1 C o) fun D =>
 ob (xlen PP 141 D) fun F =>
 ob (xbin PP .lss 3 z F) fun G =>
 asB (shr G) fun I => br I (ZzC m0 x2 x3 (shr c) h (gcB m0 [x2, x3, (shr c), h] o))
 (Zr5 m0 x2 x3 (shr c) h (gcB m0 [x2, x3, (shr c), h] o)))
 (Zr5 m0 x2 x3 (shr c) h (gcB m0 [x2, x3, (shr c), h] o)))))) := by kernel_rfl
theorem ZGu : ZzC m0 x2 x3 x4 x5 B =
 mk (ob (Z2l (shr x4)) fun a =>
 ob (xfld 1 a) fun b =>
 ob (ldN false 1 b B) fun c =>
 callS false EE 70 [(shr x4), (iv 20), c] B fun d e =>
 Zr5 m0 x2 x3 x4 x5 (gcB m0 [x2, x3, x4, x5] e)) := by kernel_rfl
theorem ZGv : Zr5 m0 x2 x3 x4 x5 B =
 mk (ob (Z2l (shr x4)) fun a =>
 ob (xfld 4 a) fun b =>
 ob (ldN false 1 b B) fun c =>
 ob (xlen PP 142 c) fun d =>
 Zr4 m0 x2 x3 x4 x5 c d (iv 0) (gcB m0 [x2, x3, x4, x5, c, d, (iv 0)] B)) := by kernel_rfl
theorem ZGs : Zr4 m0 x2 x3 x4 x5 x50 x51 x52 B =
 mk (ob (xbin PP .lss 3 x52 x51) fun a =>
 asB a fun b => br b (ZxT m0 x2 x3 x4 x5 x50 x51 x52 (gcB m0 [x2, x3, x4, x5, x50, x51, x52] B))
 (ZxU m0 x2 x3 x4 x5 (gcB m0 [x2, x3, x4, x5] B))) := lq_ (by kernel_rfl)
theorem ZEA : ZxT m0 x2 x3 x4 x5 x50 x51 x52 B =
 mk (ob (xidx 2 x50 x52) fun a =>
 ob (ldN true 2 a B) fun b =>
 bz PP 149 B fun c d =>
 stN 2 c b d fun e =>
 mk (ob (xfld 0 c) fun f =>
 ob (ldN false 1 f e) fun g =>
 ob (Z2l (shr x4)) fun h =>
 ob (xfld 2 h) fun i =>
 ob (ldN false 1 i e) fun j =>
 ob (xbin PP .gtr 3 g j) fun k =>
 asB k fun l => br l (mk (ob (xfld 1 c) fun n =>
 ob (ldN false 1 n e) fun o =>
 callS false EE 70 [(shr x4), (iv 26), o] e fun p q =>
 ZsF m0 x2 x3 x4 x5 x50 x51 x52 (gcB m0 [x2, x3, x4, x5, x50, x51, x52] q)))
 (ZsF m0 x2 x3 x4 x5 x50 x51 x52 (gcB m0 [x2, x3, x4, x5, x50, x51, x52] e)))) := by kernel_rfl
theorem ZEC : ZxU m0 x2 x3 x4 x5 B =
 mk (ob (Z2l (shr x4)) fun a =>
 ob (xfld 5 a) fun b =>
 ob (xfld 0 b) fun c =>
 ob (ldN false 1 c B) fun d =>
 ob (xbin PP .neq 30 d (iv 0)) fun e =>
 asB e fun f => br f (mk (ob (Z21 PP 100 []) fun g =>
 ob (Z2l (shr x4)) fun h =>
 ob (xfld 5 h) fun i =>
 ob (ldN true 2 i B) fun j =>
 stN 9 x2 g B fun k =>
 stN 2 x3 j k fun l =>
 grd (Z7m i x2) (ZxW x2 x3 l)))
 (ZxV m0 x2 x3 x4 x5 (gcB m0 [x2, x3, x4, x5] B))) := by kernel_rfl
theorem ZEB : ZsF m0 x2 x3 x4 x5 x50 x51 x52 B =
 mk (ob (xbin PP .add 3 x52 (iv 1)) fun a =>
 Zr4 m0 x2 x3 x4 x5 x50 x51 (shr a) (gcB m0 [x2, x3, x4, x5, x50, x51, (shr a)] B)) := by kernel_rfl
theorem ZED : ZxV m0 x2 x3 x4 x5 B =
 mk (ob (Z2l (shr x4)) fun a =>
 ob (xfld 2 a) fun b =>
 ob (ldN false 1 b B) fun c =>
 ob (xfld 7 x5) fun d =>
 stN 1 d c B fun e =>
 mk (ob (ldN true 9 x5 e) fun f =>
 ob (Z21 PP 102 []) fun g =>
 stN 9 x2 f e fun h =>
 stN 2 x3 g h fun i =>
 ZxW x2 x3 i)) := by kernel_rfl
theorem ZMf : EE 47 [x0] B =
 (let m0 := B.length
 mk (bz PP 100 B fun a b =>
 bz PP 102 b fun c d =>
 mk (ob (xlen PP 9 (shr x0)) fun e =>
 ob (xbin PP .gtr 3 e (iv 256)) fun f =>
 asB f fun g => br g (mk (ob (Z21 PP 100 []) fun h =>
 ob (Z21 PP 102 [(0, (iv 12))]) fun i =>
 stN 9 a h d fun j =>
 stN 2 c i j fun k =>
 ZxW a c k))
 (ZzB m0 x0 a c (gcB m0 [x0, a, c] d))))) := (E_eq PP XX HH _ _ _).trans (by kernel_rfl)
noncomputable def ZNf := Z39 Tryz.f48
def ZMj (m0 : Nat) : Kont := kret PP HH 48 Tryz.f48.results
def ZzE := exec PP HH 48 m0 EE LL (l2 (l2 ZNf)) (ZMj m0) [] B
theorem ZGx : ZzE m0 B =
 mk (Z1s (iv 0) B) := by kernel_rfl
theorem ZMi : EE 48 [x0] B =
 (let m0 := B.length
 mk (bx x0 B fun a b =>
 mk (ob (xfld 0 a) fun c =>
 ob (ldN true 7 c b) fun d =>
 callS false EE 71 [d] b fun e f =>
 ob (xun PP .not e) fun g =>
 asB (shr g) fun h => br h (mk (Z1s (iv 27) f))
 (mk (ob (xfld 0 a) fun i =>
 ob (ldN true 7 i f) fun j =>
 callS false EE 72 [j] f fun k l =>
 ob (xbin PP .add 3 k (iv 3)) fun n =>
 ob (xbin PP .gtr 3 n (iv 2000)) fun o =>
 asB (shr o) fun p => br p (mk (Z1s (iv 28) l))
 (ZzE m0 (gcB m0 [] l))))))) := (E_eq PP XX HH _ _ _).trans (by kernel_rfl)
def ZsG (B : List Row) : Option Res :=
 ob (some []) fun vs => some ((nrmA (match vs with | [v] => v | vs => Z7G (vs.map shr))), B)
theorem Zva : EE 49 [x0, x1] B =
 (let m0 := B.length
 mk (ob (xbin PP .neq 3 (shr x1) (iv (-1))) fun a =>
 asB a fun b => br b (mk (ob (Z2l (shr x0)) fun c =>
 stN 1 c (shr x1) B fun d =>
 ZsG d))
 (ZsG B))) := (E_eq PP XX HH _ _ _).trans (by kernel_rfl)
theorem ZMk : EE 50 [x0, x1] B =
 (let m0 := B.length
 mk (bx x1 B fun a b =>
 mk (callS false EE 57 [(shr x0), (.clo 73 ([].map nrmA) ([a].map nrmA))] b fun c d =>
 ob (xun PP .not c) fun e =>
 Z1s (shr e) d))) := (E_eq PP XX HH _ _ _).trans (by kernel_rfl)
theorem ZMl : EE 51 [x0] B =
 (let m0 := B.length
 mk (bx x0 B fun a b =>
 mk (xmake PP 152 b fun c d =>
 bz PP 152 d fun e f =>
 stN 1 e c f fun g =>
 mk (bz PP 120 g fun h i =>
 stN 1 h (.clo 74 ([].map nrmA) ([e].map nrmA)) i fun j =>
 mk (ob (xfld 4 a) fun k =>
 ob (ldN false 1 k j) fun l =>
 callS false EE 57 [l, (.clo 75 ([].map nrmA) ([h].map nrmA))] j fun n o =>
 asB (shr n) fun p => br p (Z1s (bv true) o)
 (ob (xfld 5 a) fun q =>
 ob (ldN false 1 q o) fun r =>
 ob (ldN false 1 h o) fun s =>
 callS false EE 59 [r, s] o fun t u =>
 Z1s (shr (shr t)) u)))))) := (E_eq PP XX HH _ _ _).trans (by kernel_rfl)
theorem ZMm : EE 53 [x0] B =
 (let m0 := B.length
 mk (bx x0 B fun a b =>
 mk (Z1s (shr (.clo 78 ([].map nrmA) ([a].map nrmA))) b))) := (E_eq PP XX HH _ _ _).trans (by kernel_rfl)
def ZKM (r0 : AV) (B : List Row) : Option Res :=
 ob (ob (ldN true 9 r0 B) fun v => ob (some []) fun vs => some (v :: vs)) fun vs => some ((nrmA (match vs with | [v] => v | vs => Z7G (vs.map shr))), B)
theorem ZMn : EE 55 [x0, x1, x2, x3] B =
 (let m0 := B.length
 mk (bz PP 61 B fun a b =>
 mk (ob (Z21 PP 43 [(0, (shr x2)), (3, (iv 1)), (4, (shr x3))]) fun c =>
 ob (xlit PP 22 1 [(0, c)]) fun d =>
 ob (Z21 PP 29 [(0, (iv (-1))), (1, (iv (-1))), (2, (iv (-1))), (3, (iv (-1))), (4, d)]) fun e =>
 ob (Z21 PP 61 [(1, (shr x0)), (2, (shr x1)), (3, e)]) fun f =>
 stN 9 a f b fun g =>
 ZKM a g))) := (E_eq PP XX HH _ _ _).trans (by kernel_rfl)
theorem ZMo : EE 56 [x0, x1] B =
 (let m0 := B.length
 mk (mk (ob (xbin PP .geq 3 (shr x0) (shr x1)) fun a =>
 asB (shr a) fun b => br b (ob (xbin PP .leq 3 (shr x0) (iv 1099511627776)) fun c =>
 Z1s (shr (shr c)) B)
 (Z1s (bv false) B)))) := (E_eq PP XX HH _ _ _).trans (by kernel_rfl)
theorem ZzF : EE 57 [x0, x1] B =
 (let m0 := B.length
 mk (mk (callS false EE 83 [(shr x0), (shr x1)] B fun a b =>
 ob (xbin PP .geq 3 a (iv 0)) fun c =>
 Z1s (shr c) b))) := (E_eq PP XX HH _ _ _).trans (by kernel_rfl)
theorem ZMp : EE 58 [x0] B =
 (let m0 := B.length
 mk (bx x0 B fun a b =>
 mk (ob (ldN true 5 a b) fun c =>
 callS false EE 27 [c] b fun d e =>
 ob (xun PP .not d) fun f =>
 Z1s (shr f) e))) := (E_eq PP XX HH _ _ _).trans (by kernel_rfl)
theorem ZGy : EE 59 [x0, x1] B =
 (let m0 := B.length
 mk (mk (callS false EE 84 [(shr x0), (shr x1)] B fun a b =>
 ob (xbin PP .geq 3 a (iv 0)) fun c =>
 Z1s (shr c) b))) := (E_eq PP XX HH _ _ _).trans (by kernel_rfl)
theorem ZMq : EE 60 [x0] B =
 (let m0 := B.length
 mk (mk (callS false EE 56 [(shr x0), (iv 1)] B fun a b =>
 ob (xun PP .not a) fun c =>
 Z1s (shr c) b))) := (E_eq PP XX HH _ _ _).trans (by kernel_rfl)
noncomputable def ZNg := Z39 Tryz.f61
def ZCA (r0 : AV) (B : List Row) : Option Res :=
 ob (ob (ldN true 4 r0 B) fun v => ob (some []) fun vs => some (v :: vs)) fun vs => some ((nrmA (match vs with | [v] => v | vs => Z7G (vs.map shr))), B)
def ZMs (m0 : Nat) : Kont := kret PP HH 61 Tryz.f61.results
def ZzG := exec PP HH 61 m0 EE LL (l2 (l2 (l2 ZNg))) (ZMs m0) [(0, x0), (4, x4), (5, x5)] B
theorem ZGz : ZzG m0 x0 x4 x5 B =
 mk (ob (Z2l (shr x0)) fun a =>
 ob (xfld 0 a) fun b =>
 ldOwn b B fun c d =>
 ob (ldN true 5 x5 d) fun e =>
 ob (xlit PP 121 1 [(0, e)]) fun f =>
 ob (xapp 5 c f) fun g =>
 ob (Z2l (shr x0)) fun h =>
 ob (xfld 0 h) fun i =>
 stN 1 i g d fun j =>
 grd (Z7m b x5) (mk (ob (Z2l (shr x0)) fun k =>
 ob (xfld 0 k) fun l =>
 ob (ldN false 1 l j) fun n =>
 ob (xlen PP 121 n) fun o =>
 ob (xbin PP .sub 3 o (iv 1)) fun p =>
 ob (Z21 PP 66 [(0, p)]) fun q =>
 stN 4 x4 q j fun r =>
 ZCA x4 r))) := by kernel_rfl
theorem ZMr : EE 61 [x0, x1] B =
 (let m0 := B.length
 mk (bx x1 B fun a b =>
 bz PP 66 b fun c d =>
 mk (ob (Z2l (shr x0)) fun e =>
 ob (xfld 0 e) fun f =>
 ob (ldN false 1 f d) fun g =>
 ob (Z2l (shr x0)) fun h =>
 ob (xfld 0 h) fun i =>
 ob (ldN false 1 i d) fun j =>
 ob (xlen PP 121 j) fun k =>
 ob (xbin PP .sub 3 k (iv 1)) fun l =>
 ob (xidx 5 g l) fun n =>
 ob (ldN true 5 n d) fun o =>
 ob (ldN true 6 a d) fun p =>
 callS false EE 23 [o, p] d fun q r =>
 ob (xext 0 (shr q)) fun s =>
 ob (xext 1 (shr q)) fun t =>
 bz PP 24 r fun u v =>
 bz PP 32 v fun w x =>
 stN 5 u (shr s) x fun y =>
 stN 3 w (shr t) y fun z =>
 grd (Z7m f u) (grd (Z7m i u) (grd (Z7m n u) (grd (Z7m a u) (grd (Zkg [q, o, p]) (grd (Z7m f w) (grd (Z7m i w) (grd (Z7m n w) (grd (Z7m a w) (grd (Zkg [q, o, p]) (mk (ob (xfld 0 w) fun A =>
 ob (ldN false 1 A z) fun C =>
 ob (xbin PP .neq 30 C (iv 0)) fun D =>
 asB D fun F => br F (mk (ob (ldN true 3 w z) fun G =>
 ob (Z21 PP 66 [(1, G)]) fun I =>
 stN 4 c I z fun J =>
 ZCA c J))
 (ZzG m0 x0 c u (gcB m0 [x0, c, u] z)))))))))))))))) := (E_eq PP XX HH _ _ _).trans (by kernel_rfl)
noncomputable def ZJ9 := Z39 Tryz.f68
def ZzJ := l2 (l2 ZJ9)
def ZzH (m0 : Nat) : Kont := kret PP HH 68 Tryz.f68.results
def ZMu := kseq HH 68 m0 ZzJ (exec PP HH 68 m0 EE LL ZzJ (ZzH m0)) (ZzH m0)
def Zvb := exec PP HH 68 m0 EE LL (l1 (l2 (l1 (l2 ZJ9)))) (ZMu m0) [] B
def ZzI := exec PP HH 68 m0 EE LL ZzJ (ZzH m0) [(0, x0), (1, x1)] B
theorem ZGA : Zvb m0 B =
 mk (Z1s (bv false) B) := by kernel_rfl
theorem ZGB : ZzI m0 x0 x1 B =
 mk (ob (Z2l (shr x0)) fun a =>
 ob (xfld 1 a) fun b =>
 ob (ldN false 1 b B) fun c =>
 ob (xlen PP 9 (shr x1)) fun d =>
 ob (xbin PP .add 3 c d) fun e =>
 ob (Z2l (shr x0)) fun f =>
 ob (xfld 1 f) fun g =>
 stN 1 g e B fun h =>
 mk (Z1s (bv true) h)) := by kernel_rfl
theorem ZMt : EE 68 [x0, x1] B =
 (let m0 := B.length
 mk (mk (ob (Z2l (shr x0)) fun a =>
 ob (xfld 0 a) fun b =>
 ob (ldN false 1 b B) fun c =>
 ob (xlen PP 141 c) fun d =>
 ob (Z2l (shr x0)) fun e =>
 ob (xfld 1 e) fun f =>
 ob (ldN false 1 f B) fun g =>
 ob (xbin PP .sub 3 d g) fun h =>
 ob (xlen PP 9 (shr x1)) fun i =>
 ob (xbin PP .lss 3 h i) fun j =>
 asB (shr j) fun k => br k (Zvb m0 (gcB m0 [] B))
 (ob (Z2l (shr x0)) fun l =>
 ob (xfld 0 l) fun n =>
 ob (ldN false 1 n B) fun o =>
 ob (Z2l (shr x0)) fun p =>
 ob (xfld 1 p) fun q =>
 ob (ldN false 1 q B) fun r =>
 ob (Z2l (shr x0)) fun s =>
 ob (xfld 1 s) fun t =>
 ob (ldN false 1 t B) fun u =>
 ob (xlen PP 9 (shr x1)) fun v =>
 ob (xbin PP .add 3 u v) fun w =>
 ob (xsl 1 o (some r) (some w) none) fun x =>
 ob (xcnv PP 141 9 x) fun y =>
 ob (xbin PP .neq 9 y (shr x1)) fun z =>
 asB (shr z) fun A => br A (Zvb m0 (gcB m0 [] B))
 (ZzI m0 x0 x1 (gcB m0 [x0, x1] B)))))) := (E_eq PP XX HH _ _ _).trans (by kernel_rfl)
noncomputable def ZJa := Z39 Tryz.f69
def ZzO := l2 (l2 (l2 ZJa))
def Zvc := l1 (l1 (l1 (l2 (l2 ZJa))))
def Z8V (r0 : AV) (B : List Row) : Option Res :=
 ob (ob (ldN true 7 r0 B) fun v => ob (some []) fun vs => some (v :: vs)) fun vs => some ((nrmA (match vs with | [v] => v | vs => Z7G (vs.map shr))), B)
def ZzK (m0 : Nat) : Kont := kret PP HH 69 Tryz.f69.results
def ZMw := kseq HH 69 m0 ZzO (exec PP HH 69 m0 EE LL ZzO (ZzK m0)) (ZzK m0)
def ZzL := kblk 0 (ZMw m0)
def ZMx := kloop HH 69 m0 Zvc (LL 69 m0 Zvc (ZzL m0)) (ZzL m0)
def Zr6 := lp (LL 69 m0 Zvc (ZzL m0) [(0, x0), (2, x2), (3, x3)] B)
def ZzM := exec PP HH 69 m0 EE LL (l2 Zvc) (ZMx m0) [(0, x0), (2, x2), (3, x3)] B
def ZzN := exec PP HH 69 m0 EE LL ZzO (ZzK m0) [(2, x2), (3, x3)] B
theorem ZGC : Zr6 m0 x0 x2 x3 B =
 mk (callS false EE 68 [(shr x0), (.p (.v (.string (ByteArray.mk #[124]))))] B fun a b =>
 asB a fun c => br c (ZzM m0 x0 x2 x3 (gcB m0 [x0, x2, x3] b))
 (ZzN m0 x2 x3 (gcB m0 [x2, x3] b))) := lq_ (by kernel_rfl)
theorem ZGD : ZzM m0 x0 x2 x3 B =
 mk (callS false EE 91 [(shr x0)] B fun a b =>
 ob (xlit PP 96 1 [(0, a)]) fun c =>
 ob (xapp 7 x3 c) fun d =>
 Zr6 m0 x0 x2 d (gcB m0 [x0, x2, d] b)) := by kernel_rfl
theorem ZGE : ZzN m0 x2 x3 B =
 mk (callS false EE 92 [(iv 3), (shr x3)] B fun a b =>
 stN 7 x2 a b fun c =>
 Z8V x2 c) := by kernel_rfl
theorem ZMv : EE 69 [x0] B =
 (let m0 := B.length
 mk (bz PP 98 B fun a b =>
 mk (callS false EE 91 [(shr x0)] b fun c d =>
 ob (xlit PP 96 1 [(0, c)]) fun e =>
 Zr6 m0 x0 a e (gcB m0 [x0, a, e] d)))) := (E_eq PP XX HH _ _ _).trans (by kernel_rfl)
noncomputable def ZNh := Z39 Tryz.f70
def ZMz (m0 : Nat) : Kont := kret PP HH 70 Tryz.f70.results
def Zvd := exec PP HH 70 m0 EE LL (l2 ZNh) (ZMz m0) [(0, x0)] B
theorem ZGF : Zvd m0 x0 B =
 mk (ob (Z2l (shr x0)) fun a =>
 ob (xfld 0 a) fun b =>
 ob (ldN false 1 b B) fun c =>
 ob (xlen PP 141 c) fun d =>
 ob (Z2l (shr x0)) fun e =>
 ob (xfld 1 e) fun f =>
 stN 1 f d B fun g =>
 ZsG g) := by kernel_rfl
theorem ZMy : EE 70 [x0, x1, x2] B =
 (let m0 := B.length
 mk (ob (Z2l (shr x0)) fun a =>
 ob (xfld 5 a) fun b =>
 ob (xfld 0 b) fun c =>
 ob (ldN false 1 c B) fun d =>
 ob (xbin PP .eql 30 d (iv 0)) fun e =>
 asB e fun f => br f (mk (ob (Z21 PP 102 [(0, (shr x1)), (1, (shr x2))]) fun g =>
 ob (Z2l (shr x0)) fun h =>
 ob (xfld 5 h) fun i =>
 stN 2 i g B fun j =>
 Zvd m0 x0 (gcB m0 [x0] j)))
 (Zvd m0 x0 (gcB m0 [x0] B)))) := (E_eq PP XX HH _ _ _).trans (by kernel_rfl)
noncomputable def ZJb := Z39 Tryz.f71
def ZzR := l2 (l2 ZJb)
def ZGK := l1 (l2 (l1 (l2 ZJb)))
def ZzP (m0 : Nat) : Kont := kret PP HH 71 Tryz.f71.results
def ZGG := kseq HH 71 m0 ZzR (exec PP HH 71 m0 EE LL ZzR (ZzP m0)) (ZzP m0)
def ZzQ := exec PP HH 71 m0 EE LL ZGK (ZGG m0) [(1, x1)] B
def Zr7 := exec PP HH 71 m0 EE LL ZzR (ZzP m0) [(1, x1)] B
def Zve := exec PP HH 71 m0 EE LL (l1 (l2 (l2 ZGK))) (ZGG m0) [] B
theorem ZGH : ZzQ m0 x1 B =
 mk (ob (xfld 6 x1) fun a =>
 ob (ldN false 1 a B) fun b =>
 ob (xidx 7 b (iv 0)) fun c =>
 ob (ldN true 7 c B) fun d =>
 callS false EE 93 [d] B fun e f =>
 ob (xext 0 (shr e)) fun g =>
 ob (xext 1 (shr e)) fun h =>
 mk (ob (xbin PP .lss 3 (shr (shr (shr h))) (iv 0)) fun i =>
 asB (shr i) fun j => br j (Zve m0 (gcB m0 [] f))
 (ob (xbin PP .gtr 3 (shr (shr (shr h))) (iv 32)) fun k =>
 asB (shr k) fun l => br l (Zve m0 (gcB m0 [] f))
 (Zr7 m0 x1 (gcB m0 [x1] f))))) := by kernel_rfl
theorem ZGJ : Zr7 m0 x1 B =
 mk (ob (xfld 6 x1) fun a =>
 ob (ldN false 1 a B) fun b =>
 callS false EE 94 [b, (.clo 95 [] [])] B fun c d =>
 ob (xun PP .not c) fun e =>
 Z1s (shr e) d) := by kernel_rfl
theorem ZGI : Zve m0 B =
 mk (Z1s (bv false) B) := by kernel_rfl
theorem ZMA : EE 71 [x0] B =
 (let m0 := B.length
 mk (bx x0 B fun a b =>
 mk (ob (xfld 0 a) fun c =>
 ob (ldN false 1 c b) fun d =>
 ob (xbin PP .eql 3 d (iv 7)) fun e =>
 asB (shr e) fun f => br f (ob (xfld 3 a) fun g =>
 ob (ldN false 1 g b) fun h =>
 ob (xbin PP .geq 3 h (iv 2)) fun i =>
 asB (shr i) fun j => br j (ZzQ m0 a (gcB m0 [a] b))
 (Zr7 m0 a (gcB m0 [a] b)))
 (Zr7 m0 a (gcB m0 [a] b))))) := (E_eq PP XX HH _ _ _).trans (by kernel_rfl)
noncomputable def ZJc := Z39 Tryz.f72
def ZlD := l2 (l2 (l2 ZJc))
def Zvf := l1 (l1 (l2 (l1 (l2 (l2 ZJc)))))
def Zo2 (m0 : Nat) : Kont := kret PP HH 72 Tryz.f72.results
def ZMC := kseq HH 72 m0 ZlD (exec PP HH 72 m0 EE LL ZlD (Zo2 m0)) (Zo2 m0)
def ZzS := kblk 0 (ZMC m0)
def ZMD := kloop HH 72 m0 Zvf (LL 72 m0 Zvf (ZzS m0)) (ZzS m0)
def ZME := kseq HH 72 m0 (l2 ZlD) (exec PP HH 72 m0 EE LL (l2 ZlD) (Zo2 m0)) (Zo2 m0)
def ZMF := kblk 2 (ZME m0)
def Zr8 := lp (LL 72 m0 Zvf (ZzS m0) [(1, x1), (3, x3), (8, x8), (9, x9), (10, x10)] B)
def ZzT := exec PP HH 72 m0 EE LL (l2 (l2 Zvf)) (ZMD m0) [(1, x1), (3, x3), (8, x8), (9, x9), (10, x10)] B
def ZzU := exec PP HH 72 m0 EE LL ZlD (Zo2 m0) [(1, x1), (3, x3)] B
def Z4Z := exec PP HH 72 m0 EE LL (l2 ZlD) (Zo2 m0) [(3, x3)] B
def Z6E := exec PP HH 72 m0 EE LL (l2 (l2 (l2 (l1 (l2 (l2 (l2 (l2 (l2 (l2 (l2 (l1 (l2 (l1 ZlD)))))))))))))) (ZMF m0) [(1, x1), (3, x3)] B
theorem ZGL : Zr8 m0 x1 x3 x8 x9 x10 B =
 mk (ob (xbin PP .lss 3 x10 x9) fun a =>
 asB a fun b => br b (ZzT m0 x1 x3 x8 x9 x10 (gcB m0 [x1, x3, x8, x9, x10] B))
 (ZzU m0 x1 x3 (gcB m0 [x1, x3] B))) := lq_ (by kernel_rfl)
theorem ZGM : ZzT m0 x1 x3 x8 x9 x10 B =
 mk (ob (xidx 7 x8 x10) fun a =>
 ob (ldN true 7 a B) fun b =>
 bz PP 98 B fun c d =>
 stN 7 c b d fun e =>
 mk (ob (ldN true 7 c e) fun f =>
 callS false EE 72 [f] e fun g h =>
 ob (xbin PP .add 3 (shr x3) g) fun i =>
 ob (Z8Z PP false [i, (iv 1048576)]) fun j =>
 mk (ob (xbin PP .add 3 x10 (iv 1)) fun k =>
 Zr8 m0 x1 (shr j) x8 x9 (shr k) (gcB m0 [x1, (shr j), x8, x9, (shr k)] h)))) := by kernel_rfl
theorem ZGN : ZzU m0 x1 x3 B =
 mk (ob (xfld 0 x1) fun a =>
 ob (ldN false 1 a B) fun b =>
 mk (ob (xbin PP .eql 3 b (iv 1)) fun c =>
 asB (shr c) fun d => br d (asB (shr c) fun e => br e (mk (Z1s (iv 1) B))
 (mk (ob (xbin PP .eql 3 b (iv 3)) fun f =>
 asB (shr f) fun g => br g (mk (ob (xfld 6 x1) fun h =>
 ob (ldN false 1 h B) fun i =>
 ob (xlen PP 96 i) fun j =>
 ob (xbin PP .sub 3 j (iv 1)) fun k =>
 ob (xbin PP .mul 3 (iv 2) k) fun l =>
 ob (xbin PP .add 3 (shr x3) l) fun n =>
 Z4Z m0 (shr n) (gcB m0 [(shr n)] B)))
 (mk (ob (xbin PP .eql 3 b (iv 5)) fun o =>
 asB (shr o) fun p => br p (asB (shr o) fun q => br q (mk (ob (xbin PP .add 3 (shr x3) (iv 2)) fun r =>
 Z4Z m0 (shr r) (gcB m0 [(shr r)] B)))
 (mk (ob (xbin PP .eql 3 b (iv 4)) fun s =>
 asB (shr s) fun t => br t (mk (mk (ob (xfld 1 x1) fun u =>
 ob (ldN false 1 u B) fun v =>
 ob (xbin PP .mul 3 v (shr (shr (shr x3)))) fun w =>
 mk (ob (xfld 2 x1) fun x =>
 ob (ldN false 1 x B) fun y =>
 ob (xbin PP .lss 3 y (iv 0)) fun z =>
 asB z fun A => br A (mk (ob (xbin PP .add 3 (shr (shr (shr x3))) (iv 4)) fun C =>
 ob (xbin PP .add 3 (shr (shr w)) C) fun D =>
 Z6E m0 x1 (shr D) (gcB m0 [x1, (shr D)] B)))
 (mk (ob (xfld 2 x1) fun F =>
 ob (ldN false 1 F B) fun G =>
 ob (xfld 1 x1) fun I =>
 ob (ldN false 1 I B) fun J =>
 ob (xbin PP .sub 3 G J) fun M =>
 ob (xbin PP .add 3 (shr (shr (shr x3))) (iv 1)) fun N =>
 ob (xbin PP .mul 3 M N) fun O =>
 ob (xbin PP .add 3 (shr (shr w)) O) fun Q =>
 Z6E m0 x1 (shr Q) (gcB m0 [x1, (shr Q)] B)))))))
 (Z4Z m0 x3 (gcB m0 [x3] B)))))
 (mk (ob (xbin PP .eql 3 b (iv 7)) fun R =>
 asB (shr R) fun S => br S (asB (shr R) fun T => br T (mk (ob (xbin PP .add 3 (shr x3) (iv 2)) fun U =>
 Z4Z m0 (shr U) (gcB m0 [(shr U)] B)))
 (mk (ob (xbin PP .eql 3 b (iv 4)) fun V =>
 asB (shr V) fun W => br W (mk (mk (ob (xfld 1 x1) fun Y =>
 ob (ldN false 1 Y B) fun Z =>
 ob (xbin PP .mul 3 Z (shr (shr (shr x3)))) fun a0 =>
 mk (ob (xfld 2 x1) fun a1 =>
 ob (ldN false 1 a1 B) fun a2 =>
 ob (xbin PP .lss 3 a2 (iv 0)) fun a3 =>
 asB a3 fun a4 => br a4 (mk (ob (xbin PP .add 3 (shr (shr (shr x3))) (iv 4)) fun a5 =>
 ob (xbin PP .add 3 (shr (shr a0)) a5) fun a6 =>
 Z6E m0 x1 (shr a6) (gcB m0 [x1, (shr a6)] B)))
 (mk (ob (xfld 2 x1) fun a7 =>
 ob (ldN false 1 a7 B) fun a8 =>
 ob (xfld 1 x1) fun a9 =>
 ob (ldN false 1 a9 B) fun a10 =>
 ob (xbin PP .sub 3 a8 a10) fun a11 =>
 ob (xbin PP .add 3 (shr (shr (shr x3))) (iv 1)) fun a12 =>
 ob (xbin PP .mul 3 a11 a12) fun a13 =>
 ob (xbin PP .add 3 (shr (shr a0)) a13) fun a14 =>
 Z6E m0 x1 (shr a14) (gcB m0 [x1, (shr a14)] B)))))))
 (Z4Z m0 x3 (gcB m0 [x3] B)))))
 (mk (ob (xbin PP .eql 3 b (iv 8)) fun a15 =>
 asB (shr a15) fun a16 => br a16 (mk (ob (xbin PP .add 3 (shr x3) (iv 2)) fun a17 =>
 Z4Z m0 (shr a17) (gcB m0 [(shr a17)] B)))
 (mk (ob (xbin PP .eql 3 b (iv 4)) fun a18 =>
 asB (shr a18) fun a19 => br a19 (mk (mk (ob (xfld 1 x1) fun a20 =>
 ob (ldN false 1 a20 B) fun a21 =>
 ob (xbin PP .mul 3 a21 (shr (shr (shr x3)))) fun a22 =>
 mk (ob (xfld 2 x1) fun a23 =>
 ob (ldN false 1 a23 B) fun a24 =>
 ob (xbin PP .lss 3 a24 (iv 0)) fun a25 =>
 asB a25 fun a26 => br a26 (mk (ob (xbin PP .add 3 (shr (shr (shr x3))) (iv 4)) fun a27 =>
 ob (xbin PP .add 3 (shr (shr a22)) a27) fun a28 =>
 Z6E m0 x1 (shr a28) (gcB m0 [x1, (shr a28)] B)))
 (mk (ob (xfld 2 x1) fun a29 =>
 ob (ldN false 1 a29 B) fun a30 =>
 ob (xfld 1 x1) fun a31 =>
 ob (ldN false 1 a31 B) fun a32 =>
 ob (xbin PP .sub 3 a30 a32) fun a33 =>
 ob (xbin PP .add 3 (shr (shr (shr x3))) (iv 1)) fun a34 =>
 ob (xbin PP .mul 3 a33 a34) fun a35 =>
 ob (xbin PP .add 3 (shr (shr a22)) a35) fun a36 =>
 Z6E m0 x1 (shr a36) (gcB m0 [x1, (shr a36)] B)))))))
 (Z4Z m0 x3 (gcB m0 [x3] B)))))))))))))
 (mk (ob (xbin PP .eql 3 b (iv 6)) fun a37 =>
 asB (shr a37) fun a38 => br a38 (asB (shr a37) fun a39 => br a39 (mk (Z1s (iv 1) B))
 (mk (ob (xbin PP .eql 3 b (iv 3)) fun a40 =>
 asB (shr a40) fun a41 => br a41 (mk (ob (xfld 6 x1) fun a42 =>
 ob (ldN false 1 a42 B) fun a43 =>
 ob (xlen PP 96 a43) fun a44 =>
 ob (xbin PP .sub 3 a44 (iv 1)) fun a45 =>
 ob (xbin PP .mul 3 (iv 2) a45) fun a46 =>
 ob (xbin PP .add 3 (shr x3) a46) fun a47 =>
 Z4Z m0 (shr a47) (gcB m0 [(shr a47)] B)))
 (mk (ob (xbin PP .eql 3 b (iv 5)) fun a48 =>
 asB (shr a48) fun a49 => br a49 (asB (shr a48) fun a50 => br a50 (mk (ob (xbin PP .add 3 (shr x3) (iv 2)) fun a51 =>
 Z4Z m0 (shr a51) (gcB m0 [(shr a51)] B)))
 (mk (ob (xbin PP .eql 3 b (iv 4)) fun a52 =>
 asB (shr a52) fun a53 => br a53 (mk (mk (ob (xfld 1 x1) fun a54 =>
 ob (ldN false 1 a54 B) fun a55 =>
 ob (xbin PP .mul 3 a55 (shr (shr (shr x3)))) fun a56 =>
 mk (ob (xfld 2 x1) fun a57 =>
 ob (ldN false 1 a57 B) fun a58 =>
 ob (xbin PP .lss 3 a58 (iv 0)) fun a59 =>
 asB a59 fun a60 => br a60 (mk (ob (xbin PP .add 3 (shr (shr (shr x3))) (iv 4)) fun a61 =>
 ob (xbin PP .add 3 (shr (shr a56)) a61) fun a62 =>
 Z6E m0 x1 (shr a62) (gcB m0 [x1, (shr a62)] B)))
 (mk (ob (xfld 2 x1) fun a63 =>
 ob (ldN false 1 a63 B) fun a64 =>
 ob (xfld 1 x1) fun a65 =>
 ob (ldN false 1 a65 B) fun a66 =>
 ob (xbin PP .sub 3 a64 a66) fun a67 =>
 ob (xbin PP .add 3 (shr (shr (shr x3))) (iv 1)) fun a68 =>
 ob (xbin PP .mul 3 a67 a68) fun a69 =>
 ob (xbin PP .add 3 (shr (shr a56)) a69) fun a70 =>
 Z6E m0 x1 (shr a70) (gcB m0 [x1, (shr a70)] B)))))))
 (Z4Z m0 x3 (gcB m0 [x3] B)))))
 (mk (ob (xbin PP .eql 3 b (iv 7)) fun a71 =>
 asB (shr a71) fun a72 => br a72 (asB (shr a71) fun a73 => br a73 (mk (ob (xbin PP .add 3 (shr x3) (iv 2)) fun a74 =>
 Z4Z m0 (shr a74) (gcB m0 [(shr a74)] B)))
 (mk (ob (xbin PP .eql 3 b (iv 4)) fun a75 =>
 asB (shr a75) fun a76 => br a76 (mk (mk (ob (xfld 1 x1) fun a77 =>
 ob (ldN false 1 a77 B) fun a78 =>
 ob (xbin PP .mul 3 a78 (shr (shr (shr x3)))) fun a79 =>
 mk (ob (xfld 2 x1) fun a80 =>
 ob (ldN false 1 a80 B) fun a81 =>
 ob (xbin PP .lss 3 a81 (iv 0)) fun a82 =>
 asB a82 fun a83 => br a83 (mk (ob (xbin PP .add 3 (shr (shr (shr x3))) (iv 4)) fun a84 =>
 ob (xbin PP .add 3 (shr (shr a79)) a84) fun a85 =>
 Z6E m0 x1 (shr a85) (gcB m0 [x1, (shr a85)] B)))
 (mk (ob (xfld 2 x1) fun a86 =>
 ob (ldN false 1 a86 B) fun a87 =>
 ob (xfld 1 x1) fun a88 =>
 ob (ldN false 1 a88 B) fun a89 =>
 ob (xbin PP .sub 3 a87 a89) fun a90 =>
 ob (xbin PP .add 3 (shr (shr (shr x3))) (iv 1)) fun a91 =>
 ob (xbin PP .mul 3 a90 a91) fun a92 =>
 ob (xbin PP .add 3 (shr (shr a79)) a92) fun a93 =>
 Z6E m0 x1 (shr a93) (gcB m0 [x1, (shr a93)] B)))))))
 (Z4Z m0 x3 (gcB m0 [x3] B)))))
 (mk (ob (xbin PP .eql 3 b (iv 8)) fun a94 =>
 asB (shr a94) fun a95 => br a95 (mk (ob (xbin PP .add 3 (shr x3) (iv 2)) fun a96 =>
 Z4Z m0 (shr a96) (gcB m0 [(shr a96)] B)))
 (mk (ob (xbin PP .eql 3 b (iv 4)) fun a97 =>
 asB (shr a97) fun a98 => br a98 (mk (mk (ob (xfld 1 x1) fun a99 =>
 ob (ldN false 1 a99 B) fun a100 =>
 ob (xbin PP .mul 3 a100 (shr (shr (shr x3)))) fun a101 =>
 mk (ob (xfld 2 x1) fun a102 =>
 ob (ldN false 1 a102 B) fun a103 =>
 ob (xbin PP .lss 3 a103 (iv 0)) fun a104 =>
 asB a104 fun a105 => br a105 (mk (ob (xbin PP .add 3 (shr (shr (shr x3))) (iv 4)) fun a106 =>
 ob (xbin PP .add 3 (shr (shr a101)) a106) fun a107 =>
 Z6E m0 x1 (shr a107) (gcB m0 [x1, (shr a107)] B)))
 (mk (ob (xfld 2 x1) fun a108 =>
 ob (ldN false 1 a108 B) fun a109 =>
 ob (xfld 1 x1) fun a110 =>
 ob (ldN false 1 a110 B) fun a111 =>
 ob (xbin PP .sub 3 a109 a111) fun a112 =>
 ob (xbin PP .add 3 (shr (shr (shr x3))) (iv 1)) fun a113 =>
 ob (xbin PP .mul 3 a112 a113) fun a114 =>
 ob (xbin PP .add 3 (shr (shr a101)) a114) fun a115 =>
 Z6E m0 x1 (shr a115) (gcB m0 [x1, (shr a115)] B)))))))
 (Z4Z m0 x3 (gcB m0 [x3] B)))))))))))))
 (mk (ob (xbin PP .eql 3 b (iv 9)) fun a116 =>
 asB (shr a116) fun a117 => br a117 (mk (Z1s (iv 1) B))
 (mk (ob (xbin PP .eql 3 b (iv 3)) fun a118 =>
 asB (shr a118) fun a119 => br a119 (mk (ob (xfld 6 x1) fun a120 =>
 ob (ldN false 1 a120 B) fun a121 =>
 ob (xlen PP 96 a121) fun a122 =>
 ob (xbin PP .sub 3 a122 (iv 1)) fun a123 =>
 ob (xbin PP .mul 3 (iv 2) a123) fun a124 =>
 ob (xbin PP .add 3 (shr x3) a124) fun a125 =>
 Z4Z m0 (shr a125) (gcB m0 [(shr a125)] B)))
 (mk (ob (xbin PP .eql 3 b (iv 5)) fun a126 =>
 asB (shr a126) fun a127 => br a127 (asB (shr a126) fun a128 => br a128 (mk (ob (xbin PP .add 3 (shr x3) (iv 2)) fun a129 =>
 Z4Z m0 (shr a129) (gcB m0 [(shr a129)] B)))
 (mk (ob (xbin PP .eql 3 b (iv 4)) fun a130 =>
 asB (shr a130) fun a131 => br a131 (mk (mk (ob (xfld 1 x1) fun a132 =>
 ob (ldN false 1 a132 B) fun a133 =>
 ob (xbin PP .mul 3 a133 (shr (shr (shr x3)))) fun a134 =>
 mk (ob (xfld 2 x1) fun a135 =>
 ob (ldN false 1 a135 B) fun a136 =>
 ob (xbin PP .lss 3 a136 (iv 0)) fun a137 =>
 asB a137 fun a138 => br a138 (mk (ob (xbin PP .add 3 (shr (shr (shr x3))) (iv 4)) fun a139 =>
 ob (xbin PP .add 3 (shr (shr a134)) a139) fun a140 =>
 Z6E m0 x1 (shr a140) (gcB m0 [x1, (shr a140)] B)))
 (mk (ob (xfld 2 x1) fun a141 =>
 ob (ldN false 1 a141 B) fun a142 =>
 ob (xfld 1 x1) fun a143 =>
 ob (ldN false 1 a143 B) fun a144 =>
 ob (xbin PP .sub 3 a142 a144) fun a145 =>
 ob (xbin PP .add 3 (shr (shr (shr x3))) (iv 1)) fun a146 =>
 ob (xbin PP .mul 3 a145 a146) fun a147 =>
 ob (xbin PP .add 3 (shr (shr a134)) a147) fun a148 =>
 Z6E m0 x1 (shr a148) (gcB m0 [x1, (shr a148)] B)))))))
 (Z4Z m0 x3 (gcB m0 [x3] B)))))
 (mk (ob (xbin PP .eql 3 b (iv 7)) fun a149 =>
 asB (shr a149) fun a150 => br a150 (asB (shr a149) fun a151 => br a151 (mk (ob (xbin PP .add 3 (shr x3) (iv 2)) fun a152 =>
 Z4Z m0 (shr a152) (gcB m0 [(shr a152)] B)))
 (mk (ob (xbin PP .eql 3 b (iv 4)) fun a153 =>
 asB (shr a153) fun a154 => br a154 (mk (mk (ob (xfld 1 x1) fun a155 =>
 ob (ldN false 1 a155 B) fun a156 =>
 ob (xbin PP .mul 3 a156 (shr (shr (shr x3)))) fun a157 =>
 mk (ob (xfld 2 x1) fun a158 =>
 ob (ldN false 1 a158 B) fun a159 =>
 ob (xbin PP .lss 3 a159 (iv 0)) fun a160 =>
 asB a160 fun a161 => br a161 (mk (ob (xbin PP .add 3 (shr (shr (shr x3))) (iv 4)) fun a162 =>
 ob (xbin PP .add 3 (shr (shr a157)) a162) fun a163 =>
 Z6E m0 x1 (shr a163) (gcB m0 [x1, (shr a163)] B)))
 (mk (ob (xfld 2 x1) fun a164 =>
 ob (ldN false 1 a164 B) fun a165 =>
 ob (xfld 1 x1) fun a166 =>
 ob (ldN false 1 a166 B) fun a167 =>
 ob (xbin PP .sub 3 a165 a167) fun a168 =>
 ob (xbin PP .add 3 (shr (shr (shr x3))) (iv 1)) fun a169 =>
 ob (xbin PP .mul 3 a168 a169) fun a170 =>
 ob (xbin PP .add 3 (shr (shr a157)) a170) fun a171 =>
 Z6E m0 x1 (shr a171) (gcB m0 [x1, (shr a171)] B)))))))
 (Z4Z m0 x3 (gcB m0 [x3] B)))))
 (mk (ob (xbin PP .eql 3 b (iv 8)) fun a172 =>
 asB (shr a172) fun a173 => br a173 (mk (ob (xbin PP .add 3 (shr x3) (iv 2)) fun a174 =>
 Z4Z m0 (shr a174) (gcB m0 [(shr a174)] B)))
 (mk (ob (xbin PP .eql 3 b (iv 4)) fun a175 =>
 asB (shr a175) fun a176 => br a176 (mk (mk (ob (xfld 1 x1) fun a177 =>
 ob (ldN false 1 a177 B) fun a178 =>
 ob (xbin PP .mul 3 a178 (shr (shr (shr x3)))) fun a179 =>
 mk (ob (xfld 2 x1) fun a180 =>
 ob (ldN false 1 a180 B) fun a181 =>
 ob (xbin PP .lss 3 a181 (iv 0)) fun a182 =>
 asB a182 fun a183 => br a183 (mk (ob (xbin PP .add 3 (shr (shr (shr x3))) (iv 4)) fun a184 =>
 ob (xbin PP .add 3 (shr (shr a179)) a184) fun a185 =>
 Z6E m0 x1 (shr a185) (gcB m0 [x1, (shr a185)] B)))
 (mk (ob (xfld 2 x1) fun a186 =>
 ob (ldN false 1 a186 B) fun a187 =>
 ob (xfld 1 x1) fun a188 =>
 ob (ldN false 1 a188 B) fun a189 =>
 ob (xbin PP .sub 3 a187 a189) fun a190 =>
 ob (xbin PP .add 3 (shr (shr (shr x3))) (iv 1)) fun a191 =>
 ob (xbin PP .mul 3 a190 a191) fun a192 =>
 ob (xbin PP .add 3 (shr (shr a179)) a192) fun a193 =>
 Z6E m0 x1 (shr a193) (gcB m0 [x1, (shr a193)] B)))))))
 (Z4Z m0 x3 (gcB m0 [x3] B)))))))))))))))))) := by kernel_rfl
theorem ZEF : Z4Z m0 x3 B =
 mk (ob (Z8Z PP false [(shr x3), (iv 1048576)]) fun a =>
 Z1s (shr a) B) := by kernel_rfl
theorem ZEE : Z6E m0 x1 x3 B =
 mk (ob (xfld 3 x1) fun a =>
 ob (ldN false 1 a B) fun b =>
 ob (xbin PP .eql 3 b (iv 2)) fun c =>
 asB c fun d => br d (mk (ob (xbin PP .add 3 (shr x3) (iv 2)) fun e =>
 Z4Z m0 (shr e) (gcB m0 [(shr e)] B)))
 (Z4Z m0 x3 (gcB m0 [x3] B))) := by kernel_rfl
theorem ZMB : EE 72 [x0] B =
 (let m0 := B.length
 mk (bx x0 B fun a b =>
 mk (mk (ob (xfld 6 a) fun c =>
 ob (ldN false 1 c b) fun d =>
 ob (xlen PP 96 d) fun e =>
 Zr8 m0 a (iv 0) d e (iv 0) (gcB m0 [a, (iv 0), d, e, (iv 0)] b))))) := (E_eq PP XX HH _ _ _).trans (by kernel_rfl)
theorem ZMG : EE 73 [x0, x1] B =
 (let m0 := B.length
 mk (bx x0 B fun a b =>
 mk (ob (ldN false 1 x1 b) fun c =>
 ob (ldN true 5 a b) fun d =>
 callV HH EE c [d] b fun e f =>
 ob (xun PP .not e) fun g =>
 Z1s (shr g) f))) := (E_eq PP XX HH _ _ _).trans (by kernel_rfl)
theorem ZMH : EE 74 [x0, x1] B =
 (let m0 := B.length
 mk (mk (ob (ldN false 1 x1 B) fun a =>
 ob (ZbZ PP 152 false a (shr x0) B) fun b =>
 mk (ob (ldN false 1 x1 B) fun c =>
 xupd PP 152 c (shr x0) (bv true) B fun d =>
 mk (Z1s (shr (shr (shr b))) d))))) := (E_eq PP XX HH _ _ _).trans (by kernel_rfl)
theorem ZMI : EE 75 [x0, x1] B =
 (let m0 := B.length
 mk (bx x0 B fun a b =>
 mk (ob (ldN false 1 x1 b) fun c =>
 ob (xfld 0 a) fun d =>
 ob (ldN false 1 d b) fun e =>
 callV HH EE c [e] b fun f g =>
 Z1s (shr f) g))) := (E_eq PP XX HH _ _ _).trans (by kernel_rfl)
noncomputable def ZJd := Z39 Tryz.f83
def ZzY := l2 (l2 ZJd)
def Zvg := l1 (l1 (l2 (l1 (l2 ZJd))))
def ZGP := l2 (l2 Zvg)
def ZzW (m0 : Nat) : Kont := kret PP HH 83 Tryz.f83.results
def ZMJ := kseq HH 83 m0 ZzY (exec PP HH 83 m0 EE LL ZzY (ZzW m0)) (ZzW m0)
def ZzX := kblk 0 (ZMJ m0)
def ZGO := kloop HH 83 m0 Zvg (LL 83 m0 Zvg (ZzX m0)) (ZzX m0)
def ZhR := lp (LL 83 m0 Zvg (ZzX m0) [(0, x0), (1, x1), (7, x7), (8, x8)] B)
def Zra := exec PP HH 83 m0 EE LL ZGP (ZGO m0) [(0, x0), (1, x1), (7, x7), (8, x8)] B
def Zre := exec PP HH 83 m0 EE LL ZzY (ZzW m0) [] B
def Zrc := exec PP HH 83 m0 EE LL (l2 ZGP) (ZGO m0) [(0, x0), (1, x1), (7, x7), (8, x8)] B
theorem Zr9 : ZhR m0 x0 x1 x7 x8 B =
 mk (ob (xbin PP .lss 3 x8 x7) fun a =>
 asB a fun b => br b (Zra m0 x0 x1 x7 x8 (gcB m0 [x0, x1, x7, x8] B))
 (Zre m0 (gcB m0 [] B))) := lq_ (by kernel_rfl)
theorem Zrb : Zra m0 x0 x1 x7 x8 B =
 mk (mk (ob (xidx 5 (shr x0) (shr (shr (shr x8)))) fun a =>
 ob (ldN true 5 a B) fun b =>
 callV HH EE (shr x1) [b] B fun c d =>
 asB c fun e => br e (mk (Z1s (shr (shr (shr (shr x8)))) d))
 (Zrc m0 x0 x1 x7 x8 (gcB m0 [x0, x1, x7, x8] d)))) := by kernel_rfl
theorem Zrf : Zre m0 B =
 mk (Z1s (iv (-1)) B) := by kernel_rfl
theorem Zrd : Zrc m0 x0 x1 x7 x8 B =
 mk (ob (xbin PP .add 3 x8 (iv 1)) fun a =>
 ZhR m0 x0 x1 x7 (shr a) (gcB m0 [x0, x1, x7, (shr a)] B)) := by kernel_rfl
theorem ZzV : EE 83 [x0, x1] B =
 (let m0 := B.length
 mk (mk (ob (xlen PP 22 (shr x0)) fun a =>
 ZhR m0 x0 x1 a (iv 0) (gcB m0 [x0, x1, a, (iv 0)] B)))) := (E_eq PP XX HH _ _ _).trans (by kernel_rfl)
noncomputable def ZJe := Z39 Tryz.f84
def ZA1 := l2 (l2 ZJe)
def Zvk := l1 (l1 (l2 (l1 (l2 ZJe))))
def ZGS := l2 (l2 Zvk)
def ZzZ (m0 : Nat) : Kont := kret PP HH 84 Tryz.f84.results
def ZMK := kseq HH 84 m0 ZA1 (exec PP HH 84 m0 EE LL ZA1 (ZzZ m0)) (ZzZ m0)
def ZA0 := kblk 0 (ZMK m0)
def ZGR := kloop HH 84 m0 Zvk (LL 84 m0 Zvk (ZA0 m0)) (ZA0 m0)
def ZlE := lp (LL 84 m0 Zvk (ZA0 m0) [(0, x0), (1, x1), (7, x7), (8, x8)] B)
def Zvh := exec PP HH 84 m0 EE LL ZGS (ZGR m0) [(0, x0), (1, x1), (7, x7), (8, x8)] B
def Zvj := exec PP HH 84 m0 EE LL ZA1 (ZzZ m0) [] B
def Zvi := exec PP HH 84 m0 EE LL (l2 ZGS) (ZGR m0) [(0, x0), (1, x1), (7, x7), (8, x8)] B
theorem Zyj : ZlE m0 x0 x1 x7 x8 B =
 mk (ob (xbin PP .lss 3 x8 x7) fun a =>
 asB a fun b => br b (Zvh m0 x0 x1 x7 x8 (gcB m0 [x0, x1, x7, x8] B))
 (Zvj m0 (gcB m0 [] B))) := lq_ (by kernel_rfl)
theorem Zyk : Zvh m0 x0 x1 x7 x8 B =
 mk (mk (ob (xidx 1 (shr x0) (shr (shr (shr x8)))) fun a =>
 ob (ldN false 1 a B) fun b =>
 callV HH EE (shr x1) [b] B fun c d =>
 asB c fun e => br e (mk (Z1s (shr (shr (shr (shr x8)))) d))
 (Zvi m0 x0 x1 x7 x8 (gcB m0 [x0, x1, x7, x8] d)))) := by kernel_rfl
theorem Zym : Zvj m0 B =
 mk (Z1s (iv (-1)) B) := by kernel_rfl
theorem Zyl : Zvi m0 x0 x1 x7 x8 B =
 mk (ob (xbin PP .add 3 x8 (iv 1)) fun a =>
 ZlE m0 x0 x1 x7 (shr a) (gcB m0 [x0, x1, x7, (shr a)] B)) := by kernel_rfl
theorem ZGQ : EE 84 [x0, x1] B =
 (let m0 := B.length
 mk (mk (ob (xlen PP 27 (shr x0)) fun a =>
 ZlE m0 x0 x1 a (iv 0) (gcB m0 [x0, x1, a, (iv 0)] B)))) := (E_eq PP XX HH _ _ _).trans (by kernel_rfl)
noncomputable def ZJh := Z39 Tryz.f91
def ZA7 := l2 (l2 (l2 (l1 (l2 ZJh))))
def Zri := l1 (l1 (l1 (l2 (l2 (l1 (l2 ZJh))))))
def ZA4 (m0 : Nat) : Kont := kret PP HH 91 Tryz.f91.results
def ZMM := kseq HH 91 m0 ZA7 (exec PP HH 91 m0 EE LL ZA7 (ZA4 m0)) (ZA4 m0)
def ZA5 := kblk 0 (ZMM m0)
def ZGW := kloop HH 91 m0 Zri (LL 91 m0 Zri (ZA5 m0)) (ZA5 m0)
def ZMN := kblk 1 (ZGW m0)
def Zrg := lp (LL 91 m0 Zri (ZA5 m0) [(0, x0), (2, x2), (3, x3)] B)
def ZA6 := exec PP HH 91 m0 EE LL (l2 Zri) (ZGW m0) [(0, x0), (2, x2), (3, x3)] B
def Zo3 := exec PP HH 91 m0 EE LL ZA7 (ZA4 m0) [(2, x2), (3, x3)] B
def Zrh := exec PP HH 91 m0 EE LL (l2 (l1 (l2 Zri))) (ZMN m0) [(0, x0), (2, x2), (3, x3)] B
theorem ZGX : Zrg m0 x0 x2 x3 B =
 mk (ob (Z2l (shr x0)) fun a =>
 ob (xfld 5 a) fun b =>
 ob (xfld 0 b) fun c =>
 ob (ldN false 1 c B) fun d =>
 ob (xbin PP .eql 30 d (iv 0)) fun e =>
 asB e fun f => br f (ZA6 m0 x0 x2 x3 (gcB m0 [x0, x2, x3] B))
 (Zo3 m0 x2 x3 (gcB m0 [x2, x3] B))) := lq_ (by kernel_rfl)
theorem ZGY : ZA6 m0 x0 x2 x3 B =
 mk (callS false EE 104 [(shr x0)] B fun a b =>
 mk (ob (xbin PP .eql 3 a (iv (-1))) fun c =>
 asB (shr c) fun d => br d (asB (shr c) fun e => br e (Zo3 m0 x2 x3 (gcB m0 [x2, x3] b))
 (Zrh m0 x0 x2 x3 (gcB m0 [x0, x2, x3] b)))
 (mk (ob (xbin PP .eql 3 a (iv 124)) fun f =>
 asB (shr f) fun g => br g (asB (shr f) fun h => br h (Zo3 m0 x2 x3 (gcB m0 [x2, x3] b))
 (Zrh m0 x0 x2 x3 (gcB m0 [x0, x2, x3] b)))
 (mk (ob (xbin PP .eql 3 a (iv 41)) fun i =>
 asB (shr i) fun j => br j (Zo3 m0 x2 x3 (gcB m0 [x2, x3] b))
 (Zrh m0 x0 x2 x3 (gcB m0 [x0, x2, x3] b)))))))) := by kernel_rfl
theorem ZH0 : Zo3 m0 x2 x3 B =
 mk (callS false EE 92 [(iv 2), (shr x3)] B fun a b =>
 stN 7 x2 a b fun c =>
 Z8V x2 c) := by kernel_rfl
theorem ZGZ : Zrh m0 x0 x2 x3 B =
 mk (callS false EE 105 [(shr x0)] B fun a b =>
 ob (xext 0 (shr a)) fun c =>
 ob (xext 1 (shr a)) fun d =>
 bz PP 98 b fun e f =>
 stN 7 e (shr c) f fun g =>
 mk (ob (ldN true 7 e g) fun h =>
 callS false EE 106 [(shr x0), h, (shr (shr (shr d)))] g fun i j =>
 ob (xlit PP 96 1 [(0, i)]) fun k =>
 ob (xapp 7 x3 k) fun l =>
 Zrg m0 x0 x2 l (gcB m0 [x0, x2, l] j))) := by kernel_rfl
theorem ZML : EE 91 [x0] B =
 (let m0 := B.length
 mk (bz PP 98 B fun a b =>
 mk (Zrg m0 x0 a nilA (gcB m0 [x0, a, nilA] (gcB m0 [x0, a, nilA] b))))) := (E_eq PP XX HH _ _ _).trans (by kernel_rfl)
noncomputable def ZNl := Z39 Tryz.f92
def ZMP (m0 : Nat) : Kont := kret PP HH 92 Tryz.f92.results
def ZA8 := exec PP HH 92 m0 EE LL (l2 (l2 ZNl)) (ZMP m0) [(0, x0), (1, x1), (4, x4)] B
theorem ZH1 : ZA8 m0 x0 x1 x4 B =
 mk (ob (Z21 PP 98 [(0, (shr x0)), (6, (shr x1))]) fun a =>
 stN 7 x4 a B fun b =>
 Z8V x4 b) := by kernel_rfl
theorem ZMO : EE 92 [x0, x1] B =
 (let m0 := B.length
 mk (bz PP 98 B fun a b =>
 mk (ob (xlen PP 96 (shr x1)) fun c =>
 mk (ob (xbin PP .eql 3 c (iv 0)) fun d =>
 asB (shr d) fun e => br e (mk (ob (Z21 PP 98 []) fun f =>
 stN 7 a f b fun g =>
 Z8V a g))
 (mk (ob (xbin PP .eql 3 c (iv 1)) fun h =>
 asB (shr h) fun i => br i (mk (ob (xidx 7 (shr x1) (iv 0)) fun j =>
 ob (ldN true 7 j b) fun k =>
 stN 7 a k b fun l =>
 Z8V a l))
 (ZA8 m0 x0 x1 a (gcB m0 [x0, x1, a] b)))))))) := (E_eq PP XX HH _ _ _).trans (by kernel_rfl)
noncomputable def ZEK := Z39 Tryz.f93
def ZAd := l2 (l2 ZEK)
def Zvp := l1 (l1 (l2 (l1 (l2 (l2 (l2 (l2 (l2 (l1 (l2 (l1 (l2 ZEK))))))))))))
def Zvq := l1 (l1 (l2 (l2 (l1 (l2 (l2 (l2 (l2 (l2 (l2 (l2 (l1 (l2 (l1 (l2 ZEK)))))))))))))))
def Zo5 := l2 (l2 Zvq)
def Z8i (r0 r1 : AV) (B : List Row) : Option Res :=
 ob (ob (some r0) fun v => ob (ob (some r1) fun v => ob (some []) fun vs => some (v :: vs)) fun vs => some (v :: vs)) fun vs => some ((nrmA (match vs with | [v] => v | vs => Z7G (vs.map shr))), B)
def ZA9 (m0 : Nat) : Kont := kret PP HH 93 Tryz.f93.results
def ZMR := kseq HH 93 m0 ZAd (exec PP HH 93 m0 EE LL ZAd (ZA9 m0)) (ZA9 m0)
def ZH2 := kblk 0 (ZMR m0)
def ZAa := kblk 1 (ZH2 m0)
def ZAb := kblk 3 (ZH2 m0)
def ZMS := kloop HH 93 m0 Zvp (LL 93 m0 Zvp (ZAa m0)) (ZAa m0)
def Zvo := kloop HH 93 m0 Zvq (LL 93 m0 Zvq (ZAb m0)) (ZAb m0)
def ZMT := kseq HH 93 m0 (l2 Zo5) (exec PP HH 93 m0 EE LL (l2 Zo5) (Zvo m0)) (Zvo m0)
def ZH3 := kblk 4 (ZMT m0)
def Zrj := lp (LL 93 m0 Zvp (ZAa m0) [(2, x2), (3, x3), (23, x23), (24, x24), (25, x25)] B)
def Zo4 := lp (LL 93 m0 Zvq (ZAb m0) [(2, x2), (3, x3), (45, x45), (46, x46), (47, x47)] B)
def Zln := exec PP HH 93 m0 EE LL ZAd (ZA9 m0) [(2, x2), (3, x3)] B
def ZAc := exec PP HH 93 m0 EE LL (l2 (l2 Zvp)) (ZMS m0) [(2, x2), (3, x3), (23, x23), (24, x24), (25, x25)] B
def ZxX := exec PP HH 93 m0 EE LL Zo5 (Zvo m0) [(2, x2), (3, x3), (45, x45), (46, x46), (47, x47)] B
def ZsH := exec PP HH 93 m0 EE LL (l1 (l2 (l2 (l2 (l2 (l1 (l1 Zo5))))))) (ZH3 m0) [(2, x2), (45, x45), (46, x46), (47, x47)] B
def ZxY := exec PP HH 93 m0 EE LL (l2 (l2 (l2 (l2 (l2 (l1 (l1 Zo5))))))) (ZH3 m0) [(2, x2), (3, x3), (11, x11), (45, x45), (46, x46), (47, x47)] B
def ZsI := exec PP HH 93 m0 EE LL (l2 Zo5) (Zvo m0) [(2, x2), (3, x3), (45, x45), (46, x46), (47, x47)] B
theorem ZH4 : Zrj m0 x2 x3 x23 x24 x25 B =
 mk (ob (xbin PP .lss 3 x25 x24) fun a =>
 asB a fun b => br b (ZAc m0 x2 x3 x23 x24 x25 (gcB m0 [x2, x3, x23, x24, x25] B))
 (Zln m0 x2 x3 (gcB m0 [x2, x3] B))) := lq_ (by kernel_rfl)
theorem ZEL : Zo4 m0 x2 x3 x45 x46 x47 B =
 mk (ob (xbin PP .lss 3 x47 x46) fun a =>
 asB a fun b => br b (ZxX m0 x2 x3 x45 x46 x47 (gcB m0 [x2, x3, x45, x46, x47] B))
 (Zln m0 x2 x3 (gcB m0 [x2, x3] B))) := lq_ (by kernel_rfl)
theorem ZEQ : Zln m0 x2 x3 B =
 mk (Z8i (shr (shr x2)) (shr (shr x3)) B) := by kernel_rfl
theorem ZH5 : ZAc m0 x2 x3 x23 x24 x25 B =
 mk (ob (xidx 7 x23 x25) fun a =>
 ob (ldN true 7 a B) fun b =>
 bz PP 98 B fun c d =>
 stN 7 c b d fun e =>
 mk (ob (ldN true 7 c e) fun f =>
 callS false EE 93 [f] e fun g h =>
 ob (xext 0 (shr g)) fun i =>
 ob (xext 1 (shr g)) fun j =>
 mk (ob (xbin PP .add 3 (shr x2) (shr (shr (shr i)))) fun k =>
 ob (Z8Z PP false [k, (iv 1048576)]) fun l =>
 callS false EE 107 [(shr x3), (shr (shr (shr j)))] h fun n o =>
 mk (ob (xbin PP .add 3 x25 (iv 1)) fun p =>
 Zrj m0 (shr l) (shr n) x23 x24 (shr p) (gcB m0 [(shr l), (shr n), x23, x24, (shr p)] o))))) := by kernel_rfl
theorem ZEM : ZxX m0 x2 x3 x45 x46 x47 B =
 mk (ob (xidx 7 x45 x47) fun a =>
 ob (ldN true 7 a B) fun b =>
 bz PP 98 B fun c d =>
 stN 7 c b d fun e =>
 mk (ob (ldN true 7 c e) fun f =>
 callS false EE 93 [f] e fun g h =>
 ob (xext 0 (shr g)) fun i =>
 ob (xext 1 (shr g)) fun j =>
 mk (ob (Z8Z PP false [(shr x2), (shr (shr (shr i)))]) fun k =>
 mk (ob (xbin PP .lss 3 (shr (shr (shr j))) (iv 0)) fun l =>
 asB (shr l) fun n => br n (ZsH m0 (shr k) x45 x46 x47 (gcB m0 [(shr k), x45, x46, x47] h))
 (ob (xbin PP .lss 3 (shr x3) (iv 0)) fun o =>
 asB (shr o) fun p => br p (ZsH m0 (shr k) x45 x46 x47 (gcB m0 [(shr k), x45, x46, x47] h))
 (ZxY m0 (shr k) x3 (shr (shr j)) x45 x46 x47 (gcB m0 [(shr k), x3, (shr (shr j)), x45, x46, x47] h))))))) := by kernel_rfl
theorem ZEN : ZsH m0 x2 x45 x46 x47 B =
 mk (ZsI m0 x2 (iv (-1)) x45 x46 x47 (gcB m0 [x2, (iv (-1)), x45, x46, x47] B)) := by kernel_rfl
theorem ZEO : ZxY m0 x2 x3 x11 x45 x46 x47 B =
 mk (ob (Z8Z PP true [(shr x3), (shr x11)]) fun a =>
 ZsI m0 x2 (shr a) x45 x46 x47 (gcB m0 [x2, (shr a), x45, x46, x47] B)) := by kernel_rfl
theorem ZEP : ZsI m0 x2 x3 x45 x46 x47 B =
 mk (ob (xbin PP .add 3 x47 (iv 1)) fun a =>
 Zo4 m0 x2 x3 x45 x46 (shr a) (gcB m0 [x2, x3, x45, x46, (shr a)] B)) := by kernel_rfl
theorem ZMQ : EE 93 [x0] B =
 (let m0 := B.length
 mk (bx x0 B fun a b =>
 mk (ob (xfld 0 a) fun c =>
 ob (ldN false 1 c b) fun d =>
 mk (ob (xbin PP .eql 3 d (iv 1)) fun e =>
 asB (shr e) fun f => br f (mk (Z8i (iv 1) (iv 1) b))
 (mk (ob (xbin PP .eql 3 d (iv 6)) fun g =>
 asB (shr g) fun h => br h (mk (Z8i (iv 0) (iv (-1)) b))
 (mk (ob (xbin PP .eql 3 d (iv 2)) fun i =>
 asB (shr i) fun j => br j (mk (ob (xfld 6 a) fun k =>
 ob (ldN false 1 k b) fun l =>
 ob (xlen PP 96 l) fun n =>
 Zrj m0 (iv 0) (iv 0) l n (iv 0) (gcB m0 [(iv 0), (iv 0), l, n, (iv 0)] b)))
 (mk (ob (xbin PP .eql 3 d (iv 3)) fun o =>
 asB (shr o) fun p => br p (mk (mk (ob (xfld 6 a) fun q =>
 ob (ldN false 1 q b) fun r =>
 ob (xlen PP 96 r) fun s =>
 Zo4 m0 (iv 1048576) (iv 0) r s (iv 0) (gcB m0 [(iv 1048576), (iv 0), r, s, (iv 0)] b))))
 (mk (ob (xbin PP .eql 3 d (iv 4)) fun t =>
 asB (shr t) fun u => br u (mk (ob (xfld 6 a) fun v =>
 ob (ldN false 1 v b) fun w =>
 ob (xidx 7 w (iv 0)) fun x =>
 ob (ldN true 7 x b) fun y =>
 callS false EE 93 [y] b fun z A =>
 ob (xext 0 (shr z)) fun C =>
 ob (xext 1 (shr z)) fun D =>
 mk (ob (xfld 1 a) fun F =>
 ob (ldN false 1 F A) fun G =>
 ob (xbin PP .mul 3 (shr (shr (shr C))) G) fun I =>
 ob (Z8Z PP false [I, (iv 1048576)]) fun J =>
 ob (xfld 2 a) fun M =>
 ob (ldN false 1 M A) fun N =>
 callS false EE 108 [(shr (shr (shr D))), N] A fun O Q =>
 grd (Zkg [O, (shr (shr (shr D))), N]) (Z8i (shr J) (shr O) Q))))
 (mk (ob (xbin PP .eql 3 d (iv 5)) fun R =>
 asB (shr R) fun S => br S (asB (shr R) fun T => br T (mk (ob (xfld 6 a) fun U =>
 ob (ldN false 1 U b) fun V =>
 ob (xidx 7 V (iv 0)) fun W =>
 ob (ldN true 7 W b) fun Y =>
 callS false EE 93 [Y] b fun Z a0 =>
 ob (xext 0 Z) fun a1 =>
 ob (xext 1 Z) fun a2 =>
 Z8i (shr (shr a1)) (shr (shr a2)) a0))
 (Zln m0 (iv 0) (iv 0) (gcB m0 [(iv 0), (iv 0)] b)))
 (mk (ob (xbin PP .eql 3 d (iv 8)) fun a3 =>
 asB (shr a3) fun a4 => br a4 (mk (ob (xfld 6 a) fun a5 =>
 ob (ldN false 1 a5 b) fun a6 =>
 ob (xidx 7 a6 (iv 0)) fun a7 =>
 ob (ldN true 7 a7 b) fun a8 =>
 callS false EE 93 [a8] b fun a9 a10 =>
 ob (xext 0 a9) fun a11 =>
 ob (xext 1 a9) fun a12 =>
 Z8i (shr (shr a11)) (shr (shr a12)) a10))
 (Zln m0 (iv 0) (iv 0) (gcB m0 [(iv 0), (iv 0)] b)))))))))))))))))) := (E_eq PP XX HH _ _ _).trans (by kernel_rfl)
theorem ZMU : EE 94 [x0, x1] B =
 (let m0 := B.length
 mk (mk (callS false EE 109 [(shr x0), (shr x1)] B fun a b =>
 ob (xbin PP .geq 3 a (iv 0)) fun c =>
 Z1s (shr c) b))) := (E_eq PP XX HH _ _ _).trans (by kernel_rfl)
theorem ZMV : EE 95 [x0] B =
 (let m0 := B.length
 mk (bx x0 B fun a b =>
 mk (ob (ldN true 7 a b) fun c =>
 callS false EE 71 [c] b fun d e =>
 ob (xun PP .not d) fun f =>
 Z1s (shr f) e))) := (E_eq PP XX HH _ _ _).trans (by kernel_rfl)
noncomputable def ZLz := Z39 Tryz.f104
def ZJx (m0 : Nat) : Kont := kret PP HH 104 Tryz.f104.results
def Zwa := exec PP HH 104 m0 EE LL (l2 (l2 ZLz)) (ZJx m0) [(0, x0)] B
theorem ZDd : Zwa m0 x0 B =
 mk (ob (Z2l (shr x0)) fun a =>
 ob (xfld 0 a) fun b =>
 ob (ldN false 1 b B) fun c =>
 ob (Z2l (shr x0)) fun d =>
 ob (xfld 1 d) fun e =>
 ob (ldN false 1 e B) fun f =>
 callS false EE 126 [c, f] B fun g h =>
 ob (xext 0 (shr g)) fun i =>
 ob (xext 1 (shr g)) fun j =>
 mk (Z1s (shr (shr (shr (shr i)))) h)) := by kernel_rfl
theorem ZJw : EE 104 [x0] B =
 (let m0 := B.length
 mk (mk (ob (Z2l (shr x0)) fun a =>
 ob (xfld 1 a) fun b =>
 ob (ldN false 1 b B) fun c =>
 ob (Z2l (shr x0)) fun d =>
 ob (xfld 0 d) fun e =>
 ob (ldN false 1 e B) fun f =>
 ob (xlen PP 141 f) fun g =>
 ob (xbin PP .geq 3 c g) fun h =>
 asB h fun i => br i (mk (Z1s (iv (-1)) B))
 (Zwa m0 x0 (gcB m0 [x0] B))))) := (E_eq PP XX HH _ _ _).trans (by kernel_rfl)
noncomputable def ZLA := Z39 Tryz.f105
def Z6f (r0 r1 : AV) (B : List Row) : Option Res :=
 ob (ob (ldN true 7 r0 B) fun v => ob (ob (some r1) fun v => ob (some []) fun vs => some (v :: vs)) fun vs => some (v :: vs)) fun vs => some ((nrmA (match vs with | [v] => v | vs => Z7G (vs.map shr))), B)
def ZJz (m0 : Nat) : Kont := kret PP HH 105 Tryz.f105.results
def Z8N := exec PP HH 105 m0 EE LL (l2 (l2 (l2 ZLA))) (ZJz m0) [(2, x2)] B
theorem ZBz : Z8N m0 x2 B =
 mk (ob (Z21 PP 98 []) fun a =>
 stN 7 x2 a B fun b =>
 Z6f x2 (bv true) b) := by kernel_rfl
theorem ZJy : EE 105 [x0] B =
 (let m0 := B.length
 mk (bz PP 98 B fun a b =>
 mk (ob (Z2l (shr x0)) fun c =>
 ob (xfld 1 c) fun d =>
 ob (ldN false 1 d b) fun e =>
 mk (callS false EE 127 [(shr x0)] b fun f g =>
 mk (mk (ob (xbin PP .eql 3 (shr (shr f)) (iv 46)) fun h =>
 asB (shr h) fun i => br i (mk (callS false EE 129 [(iv 10)] g fun j k =>
 ob (xlit PP 94 1 [(0, j)]) fun l =>
 callS false EE 128 [(bv true), l] k fun n o =>
 stN 7 a n o fun p =>
 Z6f a (bv true) p))
 (mk (ob (xbin PP .eql 3 (shr (shr f)) (iv 94)) fun q =>
 asB (shr q) fun r => br r (mk (ob (Z21 PP 98 [(0, (iv 9)), (4, (iv 0))]) fun s =>
 stN 7 a s g fun t =>
 Z6f a (bv false) t))
 (mk (ob (xbin PP .eql 3 (shr (shr f)) (iv 36)) fun u =>
 asB (shr u) fun v => br v (mk (ob (Z21 PP 98 [(0, (iv 9)), (4, (iv 1))]) fun w =>
 stN 7 a w g fun x =>
 Z6f a (bv false) x))
 (mk (ob (xbin PP .eql 3 (shr (shr f)) (iv 92)) fun y =>
 asB (shr y) fun z => br z (mk (callS false EE 130 [(shr x0), (shr (shr e))] g fun A C =>
 bz PP 98 C fun D F =>
 stN 7 D A F fun G =>
 mk (ob (ldN true 7 D G) fun I =>
 ob (xfld 0 D) fun J =>
 ob (ldN false 1 J G) fun M =>
 ob (xbin PP .neq 3 M (iv 9)) fun N =>
 stN 7 a I G fun O =>
 grd (Z7m J a) (Z6f a (shr N) O))))
 (mk (ob (xbin PP .eql 3 (shr (shr f)) (iv 91)) fun Q =>
 asB (shr Q) fun R => br R (mk (callS false EE 131 [(shr x0), (shr (shr e))] g fun S T =>
 stN 7 a S T fun U =>
 Z6f a (bv true) U))
 (mk (ob (xbin PP .eql 3 (shr (shr f)) (iv 40)) fun V =>
 asB (shr V) fun W => br W (mk (callS false EE 132 [(shr x0), (shr (shr e))] g fun Y Z =>
 ob (xext 0 Y) fun a0 =>
 ob (xext 1 Y) fun a1 =>
 stN 7 a (shr a0) Z fun a2 =>
 Z6f a (shr (shr a1)) a2))
 (mk (ob (xbin PP .eql 3 (shr (shr f)) (iv 42)) fun a3 =>
 asB (shr a3) fun a4 => br a4 (asB (shr a3) fun a5 => br a5 (mk (callS false EE 70 [(shr x0), (iv 23), (shr (shr e))] g fun a6 a7 =>
 Z8N m0 a (gcB m0 [a] a7)))
 (mk (ob (xbin PP .eql 3 (shr (shr f)) (iv 93)) fun a8 =>
 asB (shr a8) fun a9 => br a9 (asB (shr a8) fun a10 => br a10 (mk (callS false EE 70 [(shr x0), (iv 20), (shr (shr e))] g fun a11 a12 =>
 Z8N m0 a (gcB m0 [a] a12)))
 (mk (callS false EE 129 [(shr (shr f))] g fun a13 a14 =>
 ob (xlit PP 94 1 [(0, a13)]) fun a15 =>
 callS false EE 128 [(bv false), a15] a14 fun a16 a17 =>
 stN 7 a a16 a17 fun a18 =>
 Z6f a (bv true) a18)))
 (mk (ob (xbin PP .eql 3 (shr (shr f)) (iv 125)) fun a19 =>
 asB (shr a19) fun a20 => br a20 (mk (callS false EE 70 [(shr x0), (iv 20), (shr (shr e))] g fun a21 a22 =>
 Z8N m0 a (gcB m0 [a] a22)))
 (mk (callS false EE 129 [(shr (shr f))] g fun a23 a24 =>
 ob (xlit PP 94 1 [(0, a23)]) fun a25 =>
 callS false EE 128 [(bv false), a25] a24 fun a26 a27 =>
 stN 7 a a26 a27 fun a28 =>
 Z6f a (bv true) a28)))))))
 (mk (ob (xbin PP .eql 3 (shr (shr f)) (iv 43)) fun a29 =>
 asB (shr a29) fun a30 => br a30 (asB (shr a29) fun a31 => br a31 (mk (callS false EE 70 [(shr x0), (iv 23), (shr (shr e))] g fun a32 a33 =>
 Z8N m0 a (gcB m0 [a] a33)))
 (mk (ob (xbin PP .eql 3 (shr (shr f)) (iv 93)) fun a34 =>
 asB (shr a34) fun a35 => br a35 (asB (shr a34) fun a36 => br a36 (mk (callS false EE 70 [(shr x0), (iv 20), (shr (shr e))] g fun a37 a38 =>
 Z8N m0 a (gcB m0 [a] a38)))
 (mk (callS false EE 129 [(shr (shr f))] g fun a39 a40 =>
 ob (xlit PP 94 1 [(0, a39)]) fun a41 =>
 callS false EE 128 [(bv false), a41] a40 fun a42 a43 =>
 stN 7 a a42 a43 fun a44 =>
 Z6f a (bv true) a44)))
 (mk (ob (xbin PP .eql 3 (shr (shr f)) (iv 125)) fun a45 =>
 asB (shr a45) fun a46 => br a46 (mk (callS false EE 70 [(shr x0), (iv 20), (shr (shr e))] g fun a47 a48 =>
 Z8N m0 a (gcB m0 [a] a48)))
 (mk (callS false EE 129 [(shr (shr f))] g fun a49 a50 =>
 ob (xlit PP 94 1 [(0, a49)]) fun a51 =>
 callS false EE 128 [(bv false), a51] a50 fun a52 a53 =>
 stN 7 a a52 a53 fun a54 =>
 Z6f a (bv true) a54)))))))
 (mk (ob (xbin PP .eql 3 (shr (shr f)) (iv 63)) fun a55 =>
 asB (shr a55) fun a56 => br a56 (asB (shr a55) fun a57 => br a57 (mk (callS false EE 70 [(shr x0), (iv 23), (shr (shr e))] g fun a58 a59 =>
 Z8N m0 a (gcB m0 [a] a59)))
 (mk (ob (xbin PP .eql 3 (shr (shr f)) (iv 93)) fun a60 =>
 asB (shr a60) fun a61 => br a61 (asB (shr a60) fun a62 => br a62 (mk (callS false EE 70 [(shr x0), (iv 20), (shr (shr e))] g fun a63 a64 =>
 Z8N m0 a (gcB m0 [a] a64)))
 (mk (callS false EE 129 [(shr (shr f))] g fun a65 a66 =>
 ob (xlit PP 94 1 [(0, a65)]) fun a67 =>
 callS false EE 128 [(bv false), a67] a66 fun a68 a69 =>
 stN 7 a a68 a69 fun a70 =>
 Z6f a (bv true) a70)))
 (mk (ob (xbin PP .eql 3 (shr (shr f)) (iv 125)) fun a71 =>
 asB (shr a71) fun a72 => br a72 (mk (callS false EE 70 [(shr x0), (iv 20), (shr (shr e))] g fun a73 a74 =>
 Z8N m0 a (gcB m0 [a] a74)))
 (mk (callS false EE 129 [(shr (shr f))] g fun a75 a76 =>
 ob (xlit PP 94 1 [(0, a75)]) fun a77 =>
 callS false EE 128 [(bv false), a77] a76 fun a78 a79 =>
 stN 7 a a78 a79 fun a80 =>
 Z6f a (bv true) a80)))))))
 (mk (ob (xbin PP .eql 3 (shr (shr f)) (iv 123)) fun a81 =>
 asB (shr a81) fun a82 => br a82 (mk (callS false EE 70 [(shr x0), (iv 23), (shr (shr e))] g fun a83 a84 =>
 Z8N m0 a (gcB m0 [a] a84)))
 (mk (ob (xbin PP .eql 3 (shr (shr f)) (iv 93)) fun a85 =>
 asB (shr a85) fun a86 => br a86 (asB (shr a85) fun a87 => br a87 (mk (callS false EE 70 [(shr x0), (iv 20), (shr (shr e))] g fun a88 a89 =>
 Z8N m0 a (gcB m0 [a] a89)))
 (mk (callS false EE 129 [(shr (shr f))] g fun a90 a91 =>
 ob (xlit PP 94 1 [(0, a90)]) fun a92 =>
 callS false EE 128 [(bv false), a92] a91 fun a93 a94 =>
 stN 7 a a93 a94 fun a95 =>
 Z6f a (bv true) a95)))
 (mk (ob (xbin PP .eql 3 (shr (shr f)) (iv 125)) fun a96 =>
 asB (shr a96) fun a97 => br a97 (mk (callS false EE 70 [(shr x0), (iv 20), (shr (shr e))] g fun a98 a99 =>
 Z8N m0 a (gcB m0 [a] a99)))
 (mk (callS false EE 129 [(shr (shr f))] g fun a100 a101 =>
 ob (xlit PP 94 1 [(0, a100)]) fun a102 =>
 callS false EE 128 [(bv false), a102] a101 fun a103 a104 =>
 stN 7 a a103 a104 fun a105 =>
 Z6f a (bv true) a105)))))))))))))))))))))))))))))) := (E_eq PP XX HH _ _ _).trans (by kernel_rfl)
noncomputable def ZLB := Z39 Tryz.f106
def Zwc := l2 (l2 (l2 (l2 ZLB)))
def Zwb (m0 : Nat) : Kont := kret PP HH 106 Tryz.f106.results
def ZiY := exec PP HH 106 m0 EE LL Zwc (Zwb m0) [(0, x0), (2, x2), (6, x6), (7, x7), (8, x8)] B
def Zp4 := exec PP HH 106 m0 EE LL (l2 Zwc) (Zwb m0) [(0, x0), (6, x6), (8, x8)] B
def ZlB := exec PP HH 106 m0 EE LL (l2 (l2 Zwc)) (Zwb m0) [(6, x6), (8, x8)] B
theorem ZBA : ZiY m0 x0 x2 x6 x7 x8 B =
 mk (ob (xun PP .not (shr x2)) fun a =>
 asB a fun b => br b (mk (callS false EE 70 [(shr x0), (iv 23), (shr x7)] B fun c d =>
 Zp4 m0 x0 x6 x8 (gcB m0 [x0, x6, x8] d)))
 (Zp4 m0 x0 x6 x8 (gcB m0 [x0, x6, x8] B))) := by kernel_rfl
theorem ZBB : Zp4 m0 x0 x6 x8 B =
 mk (callS false EE 68 [(shr x0), (.p (.v (.string (ByteArray.mk #[63]))))] B fun a b =>
 asB (shr a) fun c => br c (mk (ob (xfld 3 x8) fun d =>
 stN 1 d (iv 1) b fun e =>
 ZlB m0 x6 x8 (gcB m0 [x6, x8] e)))
 (mk (callS false EE 68 [(shr x0), (.p (.v (.string (ByteArray.mk #[43]))))] b fun f g =>
 asB (shr f) fun h => br h (mk (ob (xfld 3 x8) fun i =>
 stN 1 i (iv 2) g fun j =>
 ZlB m0 x6 x8 (gcB m0 [x6, x8] j)))
 (ZlB m0 x6 x8 (gcB m0 [x6, x8] g))))) := by kernel_rfl
theorem ZBC : ZlB m0 x6 x8 B =
 mk (ob (ldN true 7 x8 B) fun a =>
 stN 7 x6 a B fun b =>
 Z8V x6 b) := by kernel_rfl
theorem ZJA : EE 106 [x0, x1, x2] B =
 (let m0 := B.length
 mk (bx x1 B fun a b =>
 bz PP 98 b fun c d =>
 mk (ob (Z2l (shr x0)) fun e =>
 ob (xfld 1 e) fun f =>
 ob (ldN false 1 f d) fun g =>
 mk (ob (ldN true 7 a d) fun h =>
 ob (xlit PP 96 1 [(0, h)]) fun i =>
 ob (Z21 PP 98 [(0, (iv 4)), (2, (iv (-1))), (6, i)]) fun j =>
 bz PP 98 d fun k l =>
 stN 7 k j l fun n =>
 mk (callS false EE 68 [(shr x0), (.p (.v (.string (ByteArray.mk #[42]))))] n fun o q =>
 asB (shr o) fun r => br r (ZiY m0 x0 x2 c (shr g) k (gcB m0 [x0, x2, c, (shr g), k] q))
 (mk (callS false EE 68 [(shr x0), (.p (.v (.string (ByteArray.mk #[43]))))] q fun s t =>
 asB (shr s) fun u => br u (mk (ob (xfld 1 k) fun w =>
 stN 1 w (iv 1) t fun x =>
 ZiY m0 x0 x2 c (shr g) k (gcB m0 [x0, x2, c, (shr g), k] x)))
 (mk (callS false EE 68 [(shr x0), (.p (.v (.string (ByteArray.mk #[63]))))] t fun y z =>
 asB (shr y) fun A => br A (mk (ob (xfld 2 k) fun C =>
 stN 1 C (iv 1) z fun D =>
 ZiY m0 x0 x2 c (shr g) k (gcB m0 [x0, x2, c, (shr g), k] D)))
 (mk (callS false EE 68 [(shr x0), (.p (.v (.string (ByteArray.mk #[123]))))] z fun F G =>
 asB (shr F) fun I => br I (mk (callS false EE 133 [(shr x0), (shr (shr g))] G fun J M =>
 ob (xext 0 (shr J)) fun N =>
 ob (xext 1 (shr J)) fun O =>
 ob (xfld 1 k) fun Q =>
 stN 1 Q (shr N) M fun R =>
 ob (xfld 2 k) fun S =>
 stN 1 S (shr O) R fun T =>
 ZiY m0 x0 x2 c (shr g) k (gcB m0 [x0, x2, c, (shr g), k] T)))
 (mk (ob (ldN true 7 a G) fun U =>
 stN 7 c U G fun V =>
 Z8V c V))))))))))))) := (E_eq PP XX HH _ _ _).trans (by kernel_rfl)
noncomputable def ZFL := Z39 Tryz.f107
def Zwf := l2 (l2 ZFL)
def Zwd (m0 : Nat) : Kont := kret PP HH 107 Tryz.f107.results
def ZJC := kseq HH 107 m0 Zwf (exec PP HH 107 m0 EE LL Zwf (Zwd m0)) (Zwd m0)
def Zsa := exec PP HH 107 m0 EE LL (l1 (l2 (l1 (l2 ZFL)))) (ZJC m0) [] B
def Zwe := exec PP HH 107 m0 EE LL Zwf (Zwd m0) [(0, x0), (1, x1)] B
theorem ZDe : Zsa m0 B =
 mk (Z1s (iv (-1)) B) := by kernel_rfl
theorem ZDf : Zwe m0 x0 x1 B =
 mk (ob (xbin PP .add 3 (shr x0) (shr x1)) fun a =>
 callS false EE 134 [a] B fun b c =>
 Z1s (shr b) c) := by kernel_rfl
theorem ZJB : EE 107 [x0, x1] B =
 (let m0 := B.length
 mk (mk (ob (xbin PP .lss 3 (shr x0) (iv 0)) fun a =>
 asB (shr a) fun b => br b (Zsa m0 (gcB m0 [] B))
 (ob (xbin PP .lss 3 (shr x1) (iv 0)) fun c =>
 asB (shr c) fun d => br d (Zsa m0 (gcB m0 [] B))
 (Zwe m0 x0 x1 (gcB m0 [x0, x1] B)))))) := (E_eq PP XX HH _ _ _).trans (by kernel_rfl)
noncomputable def Zz5 := Z39 Tryz.f108
def Zwk := l2 (l2 Zz5)
def ZCn := l2 (l2 (l1 (l1 (l2 Zz5))))
def Zwg (m0 : Nat) : Kont := kret PP HH 108 Tryz.f108.results
def ZJE := kseq HH 108 m0 Zwk (exec PP HH 108 m0 EE LL Zwk (Zwg m0)) (Zwg m0)
def Zwh := kblk 0 (ZJE m0)
def Zsb := exec PP HH 108 m0 EE LL (l1 (l2 (l1 (l1 (l2 Zz5))))) (Zwh m0) [] B
def Zwi := exec PP HH 108 m0 EE LL ZCn (Zwh m0) [(0, x0), (1, x1)] B
def Zsc := exec PP HH 108 m0 EE LL (l1 (l2 ZCn)) (Zwh m0) [] B
def Zwj := exec PP HH 108 m0 EE LL Zwk (Zwg m0) [(0, x0), (1, x1)] B
theorem ZDg : Zsb m0 B =
 mk (Z1s (iv 0) B) := by kernel_rfl
theorem ZDh : Zwi m0 x0 x1 B =
 mk (ob (xbin PP .lss 3 (shr x0) (iv 0)) fun a =>
 asB (shr a) fun b => br b (Zsc m0 (gcB m0 [] B))
 (ob (xbin PP .lss 3 (shr x1) (iv 0)) fun c =>
 asB (shr (shr c)) fun d => br d (Zsc m0 (gcB m0 [] B))
 (Zwj m0 x0 x1 (gcB m0 [x0, x1] B)))) := by kernel_rfl
theorem ZDi : Zsc m0 B =
 mk (Z1s (iv (-1)) B) := by kernel_rfl
theorem ZDj : Zwj m0 x0 x1 B =
 mk (ob (xbin PP .mul 3 (shr x0) (shr x1)) fun a =>
 callS false EE 134 [a] B fun b c =>
 Z1s (shr b) c) := by kernel_rfl
theorem ZJD : EE 108 [x0, x1] B =
 (let m0 := B.length
 mk (mk (ob (xbin PP .eql 3 (shr x0) (iv 0)) fun a =>
 asB (shr a) fun b => br b (Zsb m0 (gcB m0 [] B))
 (ob (xbin PP .eql 3 (shr x1) (iv 0)) fun c =>
 asB (shr (shr c)) fun d => br d (Zsb m0 (gcB m0 [] B))
 (Zwi m0 x0 x1 (gcB m0 [x0, x1] B)))))) := (E_eq PP XX HH _ _ _).trans (by kernel_rfl)
noncomputable def ZFM := Z39 Tryz.f109
def Zwq := l2 (l2 ZFM)
def Zsd := l1 (l1 (l2 (l1 (l2 ZFM))))
def ZCp := l2 (l2 Zsd)
def Zwl (m0 : Nat) : Kont := kret PP HH 109 Tryz.f109.results
def ZJG := kseq HH 109 m0 Zwq (exec PP HH 109 m0 EE LL Zwq (Zwl m0)) (Zwl m0)
def Zwm := kblk 0 (ZJG m0)
def ZCo := kloop HH 109 m0 Zsd (LL 109 m0 Zsd (Zwm m0)) (Zwm m0)
def ZnH := lp (LL 109 m0 Zsd (Zwm m0) [(0, x0), (1, x1), (7, x7), (8, x8)] B)
def Zwn := exec PP HH 109 m0 EE LL ZCp (ZCo m0) [(0, x0), (1, x1), (7, x7), (8, x8)] B
def Zwp := exec PP HH 109 m0 EE LL Zwq (Zwl m0) [] B
def Zwo := exec PP HH 109 m0 EE LL (l2 ZCp) (ZCo m0) [(0, x0), (1, x1), (7, x7), (8, x8)] B
theorem ZDk : ZnH m0 x0 x1 x7 x8 B =
 mk (ob (xbin PP .lss 3 x8 x7) fun a =>
 asB a fun b => br b (Zwn m0 x0 x1 x7 x8 (gcB m0 [x0, x1, x7, x8] B))
 (Zwp m0 (gcB m0 [] B))) := lq_ (by kernel_rfl)
theorem ZDl : Zwn m0 x0 x1 x7 x8 B =
 mk (mk (ob (xidx 7 (shr x0) (shr (shr (shr x8)))) fun a =>
 ob (ldN true 7 a B) fun b =>
 callV HH EE (shr x1) [b] B fun c d =>
 asB c fun e => br e (mk (Z1s (shr (shr (shr (shr x8)))) d))
 (Zwo m0 x0 x1 x7 x8 (gcB m0 [x0, x1, x7, x8] d)))) := by kernel_rfl
theorem ZDn : Zwp m0 B =
 mk (Z1s (iv (-1)) B) := by kernel_rfl
theorem ZDm : Zwo m0 x0 x1 x7 x8 B =
 mk (ob (xbin PP .add 3 x8 (iv 1)) fun a =>
 ZnH m0 x0 x1 x7 (shr a) (gcB m0 [x0, x1, x7, (shr a)] B)) := by kernel_rfl
theorem ZJF : EE 109 [x0, x1] B =
 (let m0 := B.length
 mk (mk (ob (xlen PP 96 (shr x0)) fun a =>
 ZnH m0 x0 x1 a (iv 0) (gcB m0 [x0, x1, a, (iv 0)] B)))) := (E_eq PP XX HH _ _ _).trans (by kernel_rfl)
noncomputable def ZFN := Z39 Tryz.f126
def ZnI := l2 (l2 ZFN)
def Zwt := l2 (l2 ZnI)
def Zlh (m0 : Nat) : Kont := kret PP HH 126 Tryz.f126.results
def ZJI := kseq HH 126 m0 ZnI (exec PP HH 126 m0 EE LL ZnI (Zlh m0)) (Zlh m0)
def ZJJ := kseq HH 126 m0 Zwt (exec PP HH 126 m0 EE LL Zwt (Zlh m0)) (Zlh m0)
def Zse := exec PP HH 126 m0 EE LL (l1 (l2 (l1 (l2 ZFN)))) (ZJI m0) [] B
def Zwr := exec PP HH 126 m0 EE LL ZnI (Zlh m0) [(0, x0), (1, x1)] B
def Zws := exec PP HH 126 m0 EE LL (l1 (l2 (l1 (l2 ZnI)))) (ZJJ m0) [(0, x0), (1, x1)] B
def Zsf := exec PP HH 126 m0 EE LL Zwt (Zlh m0) [(6, x6), (7, x7)] B
theorem ZDo : Zse m0 B =
 mk (Z8i (iv 0) (iv 0) B) := by kernel_rfl
theorem ZDp : Zwr m0 x0 x1 B =
 mk (ob (xsl 1 (shr x0) (some (shr x1)) none none) fun a =>
 callS false EE 146 [a] B fun b c =>
 ob (xext 0 (shr b)) fun d =>
 ob (xext 1 (shr b)) fun e =>
 mk (ob (xbin PP .eql 21 (shr (shr (shr d))) (kv .i32 65533)) fun f =>
 asB (shr f) fun g => br g (ob (xbin PP .eql 3 (shr (shr (shr e))) (iv 1)) fun h =>
 asB (shr h) fun i => br i (Zws m0 x0 x1 (gcB m0 [x0, x1] c))
 (Zsf m0 (shr (shr d)) (shr (shr e)) (gcB m0 [(shr (shr d)), (shr (shr e))] c)))
 (Zsf m0 (shr (shr d)) (shr (shr e)) (gcB m0 [(shr (shr d)), (shr (shr e))] c)))) := by kernel_rfl
theorem ZDq : Zws m0 x0 x1 B =
 mk (ob (xidx 1 (shr x0) (shr x1)) fun a =>
 ob (ldN false 1 a B) fun b =>
 ob (xcnv PP 5 3 b) fun c =>
 ob (xbin PP .add 3 (iv 1114112) c) fun d =>
 Z8i (shr d) (iv 1) B) := by kernel_rfl
theorem ZDr : Zsf m0 x6 x7 B =
 mk (ob (xcnv PP 21 3 (shr x6)) fun a =>
 Z8i (shr a) (shr (shr x7)) B) := by kernel_rfl
theorem ZJH : EE 126 [x0, x1] B =
 (let m0 := B.length
 mk (mk (ob (xbin PP .lss 3 (shr x1) (iv 0)) fun a =>
 asB (shr a) fun b => br b (Zse m0 (gcB m0 [] B))
 (ob (xlen PP 141 (shr x0)) fun c =>
 ob (xbin PP .geq 3 (shr x1) c) fun d =>
 asB (shr d) fun e => br e (Zse m0 (gcB m0 [] B))
 (Zwr m0 x0 x1 (gcB m0 [x0, x1] B)))))) := (E_eq PP XX HH _ _ _).trans (by kernel_rfl)
theorem ZJK : EE 127 [x0] B =
 (let m0 := B.length
 mk (mk (ob (Z2l (shr x0)) fun a =>
 ob (xfld 0 a) fun b =>
 ob (ldN false 1 b B) fun c =>
 ob (Z2l (shr x0)) fun d =>
 ob (xfld 1 d) fun e =>
 ob (ldN false 1 e B) fun f =>
 callS false EE 126 [c, f] B fun g h =>
 ob (xext 0 (shr g)) fun i =>
 ob (xext 1 (shr g)) fun j =>
 mk (ob (Z2l (shr x0)) fun k =>
 ob (xfld 1 k) fun l =>
 ob (ldN false 1 l h) fun n =>
 ob (xbin PP .add 3 n (shr (shr (shr j)))) fun o =>
 ob (Z2l (shr x0)) fun p =>
 ob (xfld 1 p) fun q =>
 stN 1 q o h fun r =>
 mk (Z1s (shr (shr (shr (shr i)))) r))))) := (E_eq PP XX HH _ _ _).trans (by kernel_rfl)
noncomputable def ZLC := Z39 Tryz.f128
def ZJM (m0 : Nat) : Kont := kret PP HH 128 Tryz.f128.results
def Zsg := exec PP HH 128 m0 EE LL (l2 (l2 (l2 ZLC))) (ZJM m0) [(4, x4), (5, x5)] B
theorem ZDs : Zsg m0 x4 x5 B =
 mk (ob (Z21 PP 98 [(0, (iv 1)), (5, (shr x5))]) fun a =>
 stN 7 x4 a B fun b =>
 Z8V x4 b) := by kernel_rfl
theorem ZJL : EE 128 [x0, x1] B =
 (let m0 := B.length
 mk (bz PP 98 B fun a b =>
 mk (callS false EE 147 [(shr x1)] b fun c d =>
 ob (xext 0 (shr c)) fun e =>
 ob (xext 1 (shr c)) fun f =>
 mk (asB (shr x0) fun g => br g (mk (callS false EE 148 [(shr (shr (shr e)))] d fun h i =>
 ob (xext 0 (shr h)) fun j =>
 ob (xext 1 (shr h)) fun k =>
 Zsg m0 a (shr (shr j)) (gcB m0 [a, (shr (shr j))] i)))
 (Zsg m0 a (shr (shr e)) (gcB m0 [a, (shr (shr e))] d)))))) := (E_eq PP XX HH _ _ _).trans (by kernel_rfl)
def ZI7 (r0 : AV) (B : List Row) : Option Res :=
 ob (ob (ldN true 2 r0 B) fun v => ob (some []) fun vs => some (v :: vs)) fun vs => some ((nrmA (match vs with | [v] => v | vs => Z7G (vs.map shr))), B)
theorem ZJN : EE 129 [x0] B =
 (let m0 := B.length
 mk (bz PP 201 B fun a b =>
 mk (ob (Z21 PP 201 [(0, (shr x0)), (1, (shr x0))]) fun c =>
 stN 2 a c b fun d =>
 ZI7 a d))) := (E_eq PP XX HH _ _ _).trans (by kernel_rfl)
noncomputable def ZLD := Z39 Tryz.f130
def Zwv := l2 (l2 (l2 ZLD))
def Zww := l2 (l2 Zwv)
def Zsh (m0 : Nat) : Kont := kret PP HH 130 Tryz.f130.results
def ZJP := kseq HH 130 m0 Zww (exec PP HH 130 m0 EE LL Zww (Zsh m0)) (Zsh m0)
def ZJQ := kblk 0 (ZJP m0)
def Zwu := exec PP HH 130 m0 EE LL Zwv (Zsh m0) [(0, x0), (1, x1), (4, x4), (5, x5)] B
def ZtC := exec PP HH 130 m0 EE LL (l1 (l2 (l2 (l2 (l2 (l2 (l2 (l2 (l1 (l1 (l2 Zwv))))))))))) (ZJQ m0) [(0, x0), (1, x1), (4, x4), (5, x5)] B
def Zp5 := exec PP HH 130 m0 EE LL Zww (Zsh m0) [(0, x0), (1, x1), (4, x4), (5, x5)] B
theorem ZDt : Zwu m0 x0 x1 x4 x5 B =
 mk (callS false EE 127 [(shr x0)] B fun a b =>
 mk (callS true EE 149 [(shr x5)] b fun c d =>
 ob (xnil PP .neq 94 (.slice none 0 0) c) fun e =>
 asB (shr e) fun f => br f (mk (ob (xbin PP .lss 3 (shr x5) (iv 97)) fun g =>
 callS true EE 149 [(shr x5)] d fun h i =>
 callS false EE 128 [g, h] i fun j k =>
 stN 7 x4 j k fun l =>
 Z8V x4 l))
 (mk (ob (xbin PP .eql 3 (shr x5) (iv 98)) fun n =>
 asB (shr n) fun o => br o (mk (ob (Z21 PP 98 [(0, (iv 9)), (4, (iv 2))]) fun p =>
 stN 7 x4 p d fun q =>
 Z8V x4 q))
 (mk (ob (xbin PP .eql 3 (shr x5) (iv 66)) fun r =>
 asB (shr r) fun s => br s (mk (ob (Z21 PP 98 [(0, (iv 9)), (4, (iv 3))]) fun t =>
 stN 7 x4 t d fun u =>
 Z8V x4 u))
 (mk (ob (xbin PP .geq 3 (shr x5) (iv 49)) fun v =>
 asB (shr v) fun w => br w (ob (xbin PP .leq 3 (shr x5) (iv 57)) fun x =>
 asB (shr (shr x)) fun y => br y (ZtC m0 x0 x1 x4 x5 (gcB m0 [x0, x1, x4, x5] d))
 (Zp5 m0 x0 x1 x4 x5 (gcB m0 [x0, x1, x4, x5] d)))
 (Zp5 m0 x0 x1 x4 x5 (gcB m0 [x0, x1, x4, x5] d)))))))))) := by kernel_rfl
theorem ZBD : ZtC m0 x0 x1 x4 x5 B =
 mk (ob (Z2l (shr x0)) fun a =>
 ob (xfld 4 a) fun b =>
 ldOwn b B fun c d =>
 ob (xbin PP .sub 3 (shr x5) (iv 48)) fun e =>
 ob (Z21 PP 149 [(0, e), (1, (shr x1))]) fun f =>
 ob (xlit PP 142 1 [(0, f)]) fun g =>
 ob (xapp 2 c g) fun h =>
 ob (Z2l (shr x0)) fun i =>
 ob (xfld 4 i) fun j =>
 stN 1 j h d fun k =>
 mk (ob (xbin PP .sub 3 (shr x5) (iv 48)) fun l =>
 ob (Z21 PP 98 [(0, (iv 6)), (4, l)]) fun n =>
 stN 7 x4 n k fun o =>
 Z8V x4 o)) := by kernel_rfl
theorem ZBE : Zp5 m0 x0 x1 x4 x5 B =
 mk (callS false EE 150 [(shr x0), (shr x5), (shr x1)] B fun a b =>
 callS false EE 129 [a] b fun c d =>
 ob (xlit PP 94 1 [(0, c)]) fun e =>
 callS false EE 128 [(bv false), e] d fun f g =>
 stN 7 x4 f g fun h =>
 Z8V x4 h) := by kernel_rfl
theorem ZJO : EE 130 [x0, x1] B =
 (let m0 := B.length
 mk (bz PP 98 B fun a b =>
 mk (callS false EE 104 [(shr x0)] b fun c d =>
 mk (ob (xbin PP .lss 3 (shr (shr c)) (iv 0)) fun e =>
 asB e fun f => br f (mk (callS false EE 70 [(shr x0), (iv 21), (shr x1)] d fun g h =>
 mk (ob (Z21 PP 98 []) fun i =>
 stN 7 a i h fun j =>
 Z8V a j)))
 (Zwu m0 x0 x1 a (shr c) (gcB m0 [x0, x1, a, (shr c)] d)))))) := (E_eq PP XX HH _ _ _).trans (by kernel_rfl)
noncomputable def ZFO := Z39 Tryz.f131
def ZwB := l2 (l2 (l2 (l2 (l2 (l2 ZFO)))))
def ZeQ := l1 (l1 (l1 (l2 (l2 (l2 (l2 (l2 ZFO)))))))
def Zsk := l2 (l2 (l1 (l1 (l2 ZeQ))))
def Zsl := l2 (l2 Zsk)
def ZwA := l2 (l2 Zsl)
def Zsm := l2 (l1 (l2 (l1 (l2 Zsl))))
def ZCr := l2 (l1 (l2 (l2 (l2 (l1 (l2 (l2 (l1 (l2 (l1 (l1 (l2 ZeQ))))))))))))
def Zwx (m0 : Nat) : Kont := kret PP HH 131 Tryz.f131.results
def ZJS := kseq HH 131 m0 ZwB (exec PP HH 131 m0 EE LL ZwB (Zwx m0)) (Zwx m0)
def Zwy := kblk 0 (ZJS m0)
def Zsi := kloop HH 131 m0 ZeQ (LL 131 m0 ZeQ (Zwy m0)) (Zwy m0)
def ZJT := kseq HH 131 m0 (l2 (l2 ZeQ)) (exec PP HH 131 m0 EE LL (l2 (l2 ZeQ)) (Zsi m0)) (Zsi m0)
def ZiZ := kblk 1 (ZJT m0)
def ZJU := kseq HH 131 m0 Zsk (exec PP HH 131 m0 EE LL Zsk (ZiZ m0)) (ZiZ m0)
def ZCq := kblk 2 (ZJU m0)
def Zsj := kseq HH 131 m0 ZwA (exec PP HH 131 m0 EE LL ZwA (ZiZ m0)) (ZiZ m0)
def ZJV := kseq HH 131 m0 Zsm (exec PP HH 131 m0 EE LL Zsm (Zsj m0)) (Zsj m0)
def ZnJ := lp (LL 131 m0 ZeQ (Zwy m0) [(0, x0), (1, x1), (4, x4), (5, x5), (6, x6), (7, x7), (8, x8)] B)
def Zwz := exec PP HH 131 m0 EE LL (l2 ZeQ) (Zsi m0) [(0, x0), (1, x1), (4, x4), (5, x5), (6, x6), (7, x7), (8, x8)] B
def ZtG := exec PP HH 131 m0 EE LL ZwB (Zwx m0) [(4, x4)] B
def ZcF := exec PP HH 131 m0 EE LL (l2 (l2 ZeQ)) (Zsi m0) [(0, x0), (1, x1), (4, x4), (5, x5), (6, x6), (7, x7), (8, x8)] B
def ZtD := exec PP HH 131 m0 EE LL ZCr (ZCq m0) [(0, x0), (4, x4), (5, x5), (6, x6)] B
def Zp7 := exec PP HH 131 m0 EE LL Zsk (ZiZ m0) [(0, x0), (1, x1), (4, x4), (5, x5), (6, x6), (7, x7), (8, x8), (9, x9)] B
def Zp6 := exec PP HH 131 m0 EE LL (l2 (l2 ZCr)) (ZCq m0) [(4, x4), (6, x6)] B
def ZtE := exec PP HH 131 m0 EE LL Zsl (ZiZ m0) [(0, x0), (1, x1), (4, x4), (5, x5), (6, x6), (7, x7), (8, x8), (9, x9), (11, x11)] B
def Zj0 := exec PP HH 131 m0 EE LL (l1 (l2 (l2 (l1 (l1 (l2 (l1 (l2 Zsl)))))))) (ZJV m0) [(0, x0), (1, x1), (4, x4), (5, x5), (6, x6), (7, x7), (8, x8), (9, x9)] B
def ZtF := exec PP HH 131 m0 EE LL Zsm (Zsj m0) [(0, x0), (1, x1), (4, x4), (5, x5), (6, x6), (7, x7), (8, x8), (9, x9), (11, x11)] B
def Zj1 := exec PP HH 131 m0 EE LL ZwA (ZiZ m0) [(0, x0), (1, x1), (4, x4), (5, x5), (6, x6), (7, x7), (8, x8), (11, x11), (15, x15)] B
def Zp8 := exec PP HH 131 m0 EE LL (l1 (l2 (l2 Zsm))) (Zsj m0) [(0, x0), (1, x1), (4, x4), (5, x5), (6, x6), (7, x7), (8, x8), (9, x9), (11, x11), (15, x15)] B
theorem ZDu : ZnJ m0 x0 x1 x4 x5 x6 x7 x8 B =
 mk (ob (Z2l (shr x0)) fun a =>
 ob (xfld 5 a) fun b =>
 ob (xfld 0 b) fun c =>
 ob (ldN false 1 c B) fun d =>
 ob (xbin PP .eql 30 d (iv 0)) fun e =>
 asB e fun f => br f (Zwz m0 x0 x1 x4 x5 x6 x7 x8 (gcB m0 [x0, x1, x4, x5, x6, x7, x8] B))
 (ZtG m0 x4 (gcB m0 [x4] B))) := lq_ (by kernel_rfl)
theorem ZDw : Zwz m0 x0 x1 x4 x5 x6 x7 x8 B =
 mk (ob (Z2l (shr x0)) fun a =>
 ob (xfld 1 a) fun b =>
 ob (ldN false 1 b B) fun c =>
 mk (callS false EE 104 [(shr x0)] B fun d e =>
 mk (mk (ob (xbin PP .eql 3 (shr (shr d)) (iv (-1))) fun f =>
 asB (shr f) fun g => br g (mk (callS false EE 70 [(shr x0), (iv 22), (shr x1)] e fun h i =>
 ZcF m0 x0 x1 x4 x5 x6 x7 x8 (gcB m0 [x0, x1, x4, x5, x6, x7, x8] i)))
 (mk (ob (xbin PP .eql 3 (shr (shr d)) (iv 93)) fun j =>
 asB (shr j) fun k => br k (mk (ob (xbin PP .eql 3 (shr x8) (iv 0)) fun l =>
 asB l fun n => br n (mk (callS false EE 70 [(shr x0), (iv 22), (shr x1)] e fun o p =>
 ZcF m0 x0 x1 x4 x5 x6 x7 x8 (gcB m0 [x0, x1, x4, x5, x6, x7, x8] p)))
 (ZtD m0 x0 x4 x5 x6 (gcB m0 [x0, x4, x5, x6] e))))
 (mk (ob (xbin PP .eql 3 (shr (shr d)) (iv 91)) fun q =>
 asB (shr q) fun r => br r (asB (shr q) fun s => br s (mk (callS false EE 70 [(shr x0), (iv 22), (shr (shr c))] e fun t u =>
 ZcF m0 x0 x1 x4 x5 x6 x7 x8 (gcB m0 [x0, x1, x4, x5, x6, x7, x8] u)))
 (Zp7 m0 x0 x1 x4 x5 x6 x7 x8 (shr c) (gcB m0 [x0, x1, x4, x5, x6, x7, x8, (shr c)] e)))
 (mk (ob (xbin PP .eql 3 (shr (shr d)) (iv 45)) fun v =>
 asB (shr v) fun w => br w (mk (callS false EE 70 [(shr x0), (iv 22), (shr (shr c))] e fun x y =>
 ZcF m0 x0 x1 x4 x5 x6 x7 x8 (gcB m0 [x0, x1, x4, x5, x6, x7, x8] y)))
 (Zp7 m0 x0 x1 x4 x5 x6 x7 x8 (shr c) (gcB m0 [x0, x1, x4, x5, x6, x7, x8, (shr c)] e)))))))))))) := by kernel_rfl
theorem ZBN : ZtG m0 x4 B =
 mk (ob (Z21 PP 98 []) fun a =>
 stN 7 x4 a B fun b =>
 Z8V x4 b) := by kernel_rfl
theorem ZDv : ZcF m0 x0 x1 x4 x5 x6 x7 x8 B =
 mk (ob (xbin PP .add 3 (shr x8) (iv 1)) fun a =>
 ZnJ m0 x0 x1 x4 x5 x6 x7 (shr a) (gcB m0 [x0, x1, x4, x5, x6, x7, (shr a)] B)) := by kernel_rfl
theorem ZBF : ZtD m0 x0 x4 x5 x6 B =
 mk (callS false EE 127 [(shr x0)] B fun a b =>
 mk (asB (shr x5) fun c => br c (mk (ob (ldN false 1 x6 b) fun d =>
 callS false EE 148 [d] b fun e f =>
 ob (xext 0 (shr e)) fun g =>
 ob (xext 1 (shr e)) fun h =>
 stN 1 x6 (shr g) f fun i =>
 Zp6 m0 x4 x6 (gcB m0 [x4, x6] i)))
 (Zp6 m0 x4 x6 (gcB m0 [x4, x6] b)))) := by kernel_rfl
theorem ZBH : Zp7 m0 x0 x1 x4 x5 x6 x7 x8 x9 B =
 mk (callS true EE 153 [(shr x0)] B fun a b =>
 ob (xext 0 (shr a)) fun c =>
 ob (xext 1 (shr a)) fun d =>
 ob (xext 2 (shr a)) fun e =>
 mk (ob (xnil PP .neq 94 (.slice none 0 0) (shr (shr (shr d)))) fun f =>
 asB f fun g => br g (mk (callS false EE 128 [(shr (shr (shr e))), (shr (shr (shr d)))] b fun h i =>
 bz PP 98 i fun j k =>
 stN 7 j h k fun l =>
 mk (ob (xfld 5 j) fun n =>
 ob (ldN false 1 n l) fun o =>
 callV HH EE (shr x7) [o] l fun p q =>
 mk (callS false EE 104 [(shr x0)] q fun r s =>
 ob (xbin PP .eql 3 r (iv 45)) fun t =>
 asB t fun u => br u (mk (ob (Z2l (shr x0)) fun v =>
 ob (xfld 1 v) fun w =>
 ob (ldN false 1 w s) fun x =>
 callS false EE 70 [(shr x0), (iv 22), x] s fun y z =>
 ZcF m0 x0 x1 x4 x5 x6 x7 x8 (gcB m0 [x0, x1, x4, x5, x6, x7, x8] z)))
 (ZcF m0 x0 x1 x4 x5 x6 x7 x8 (gcB m0 [x0, x1, x4, x5, x6, x7, x8] s))))))
 (ZtE m0 x0 x1 x4 x5 x6 x7 x8 x9 (shr (shr c)) (gcB m0 [x0, x1, x4, x5, x6, x7, x8, x9, (shr (shr c))] b)))) := by kernel_rfl
theorem ZBG : Zp6 m0 x4 x6 B =
 mk (ob (ldN false 1 x6 B) fun a =>
 ob (Z21 PP 98 [(0, (iv 1)), (5, a)]) fun b =>
 stN 7 x4 b B fun c =>
 Z8V x4 c) := by kernel_rfl
theorem ZBI : ZtE m0 x0 x1 x4 x5 x6 x7 x8 x9 x11 B =
 mk (mk (callS false EE 68 [(shr x0), (.p (.v (.string (ByteArray.mk #[45]))))] B fun a b =>
 asB a fun c => br c (mk (callS false EE 104 [(shr x0)] b fun d e =>
 mk (ob (xbin PP .eql 3 (shr (shr d)) (iv 93)) fun f =>
 asB (shr f) fun g => br g (Zj0 m0 x0 x1 x4 x5 x6 x7 x8 x9 (gcB m0 [x0, x1, x4, x5, x6, x7, x8, x9] e))
 (ob (xbin PP .eql 3 (shr (shr d)) (iv 91)) fun h =>
 asB (shr (shr h)) fun i => br i (Zj0 m0 x0 x1 x4 x5 x6 x7 x8 x9 (gcB m0 [x0, x1, x4, x5, x6, x7, x8, x9] e))
 (ob (xbin PP .eql 3 (shr (shr d)) (iv 45)) fun j =>
 asB (shr (shr j)) fun k => br k (Zj0 m0 x0 x1 x4 x5 x6 x7 x8 x9 (gcB m0 [x0, x1, x4, x5, x6, x7, x8, x9] e))
 (ob (xbin PP .lss 3 (shr (shr d)) (iv 0)) fun l =>
 asB (shr l) fun n => br n (Zj0 m0 x0 x1 x4 x5 x6 x7 x8 x9 (gcB m0 [x0, x1, x4, x5, x6, x7, x8, x9] e))
 (ZtF m0 x0 x1 x4 x5 x6 x7 x8 x9 x11 (gcB m0 [x0, x1, x4, x5, x6, x7, x8, x9, x11] e))))))))
 (Zj1 m0 x0 x1 x4 x5 x6 x7 x8 x11 (shr (shr x11)) (gcB m0 [x0, x1, x4, x5, x6, x7, x8, x11, (shr (shr x11))] b)))) := by kernel_rfl
theorem ZBJ : Zj0 m0 x0 x1 x4 x5 x6 x7 x8 x9 B =
 mk (callS false EE 70 [(shr x0), (iv 22), (shr x9)] B fun a b =>
 ZcF m0 x0 x1 x4 x5 x6 x7 x8 (gcB m0 [x0, x1, x4, x5, x6, x7, x8] b)) := by kernel_rfl
theorem ZBK : ZtF m0 x0 x1 x4 x5 x6 x7 x8 x9 x11 B =
 mk (callS true EE 153 [(shr x0)] B fun a b =>
 ob (xext 0 (shr a)) fun c =>
 ob (xext 1 (shr a)) fun d =>
 ob (xext 2 (shr a)) fun e =>
 mk (ob (Z2l (shr x0)) fun f =>
 ob (xfld 5 f) fun g =>
 ob (xfld 0 g) fun h =>
 ob (ldN false 1 h b) fun i =>
 ob (xbin PP .eql 30 i (iv 0)) fun j =>
 asB (shr j) fun k => br k (ob (xnil PP .neq 94 (.slice none 0 0) (shr (shr (shr d)))) fun l =>
 asB (shr l) fun n => br n (Zp8 m0 x0 x1 x4 x5 x6 x7 x8 x9 x11 (shr (shr c)) (gcB m0 [x0, x1, x4, x5, x6, x7, x8, x9, x11, (shr (shr c))] b))
 (ob (xbin PP .lss 3 (shr (shr (shr c))) (shr x11)) fun o =>
 asB (shr (shr o)) fun p => br p (Zp8 m0 x0 x1 x4 x5 x6 x7 x8 x9 x11 (shr (shr c)) (gcB m0 [x0, x1, x4, x5, x6, x7, x8, x9, x11, (shr (shr c))] b))
 (Zj1 m0 x0 x1 x4 x5 x6 x7 x8 x11 (shr (shr c)) (gcB m0 [x0, x1, x4, x5, x6, x7, x8, x11, (shr (shr c))] b))))
 (Zj1 m0 x0 x1 x4 x5 x6 x7 x8 x11 (shr (shr c)) (gcB m0 [x0, x1, x4, x5, x6, x7, x8, x11, (shr (shr c))] b)))) := by kernel_rfl
theorem ZBM : Zj1 m0 x0 x1 x4 x5 x6 x7 x8 x11 x15 B =
 mk (ob (Z2l (shr x0)) fun a =>
 ob (xfld 5 a) fun b =>
 ob (xfld 0 b) fun c =>
 ob (ldN false 1 c B) fun d =>
 ob (xbin PP .eql 30 d (iv 0)) fun e =>
 asB e fun f => br f (mk (ob (Z21 PP 201 [(0, (shr x11)), (1, (shr x15))]) fun g =>
 ob (xlit PP 95 1 [(0, g)]) fun h =>
 callV HH EE (shr x7) [h] B fun i j =>
 ZcF m0 x0 x1 x4 x5 x6 x7 x8 (gcB m0 [x0, x1, x4, x5, x6, x7, x8] j)))
 (ZcF m0 x0 x1 x4 x5 x6 x7 x8 (gcB m0 [x0, x1, x4, x5, x6, x7, x8] B))) := by kernel_rfl
theorem ZBL : Zp8 m0 x0 x1 x4 x5 x6 x7 x8 x9 x11 x15 B =
 mk (callS false EE 70 [(shr x0), (iv 22), (shr x9)] B fun a b =>
 Zj1 m0 x0 x1 x4 x5 x6 x7 x8 x11 x15 (gcB m0 [x0, x1, x4, x5, x6, x7, x8, x11, x15] b)) := by kernel_rfl
theorem ZJR : EE 131 [x0, x1] B =
 (let m0 := B.length
 mk (bz PP 98 B fun a b =>
 mk (callS false EE 68 [(shr x0), (.p (.v (.string (ByteArray.mk #[94]))))] b fun c d =>
 mk (bz PP 95 d fun e f =>
 mk (mk (ZnJ m0 x0 x1 a (shr c) e (shr (.clo 151 ([].map nrmA) ([e].map nrmA))) (iv 0) (gcB m0 [x0, x1, a, (shr c), e, (shr (.clo 151 ([].map nrmA) ([e].map nrmA))), (iv 0)] f))))))) := (E_eq PP XX HH _ _ _).trans (by kernel_rfl)
noncomputable def ZLE := Z39 Tryz.f132
def ZCs := l2 (l2 ZLE)
def ZwD := l2 (l2 ZCs)
def Zsn := l2 (l2 ZwD)
def Zli (m0 : Nat) : Kont := kret PP HH 132 Tryz.f132.results
def ZJX := kseq HH 132 m0 Zsn (exec PP HH 132 m0 EE LL Zsn (Zli m0)) (Zli m0)
def ZwC := exec PP HH 132 m0 EE LL ZCs (Zli m0) [(0, x0), (1, x1), (4, x4)] B
def Ze6 := exec PP HH 132 m0 EE LL ZwD (Zli m0) [(0, x0), (1, x1), (4, x4)] B
def ZtH := exec PP HH 132 m0 EE LL (l1 (l2 (l1 (l2 ZwD)))) (ZJX m0) [(0, x0), (1, x1), (4, x4), (7, x7)] B
def ZlC := exec PP HH 132 m0 EE LL Zsn (Zli m0) [(0, x0), (4, x4), (7, x7)] B
def ZtI := exec PP HH 132 m0 EE LL (l2 (l2 Zsn)) (Zli m0) [(4, x4), (7, x7)] B
theorem ZDx : ZwC m0 x0 x1 x4 B =
 mk (ob (Z2l (shr x0)) fun a =>
 ob (xfld 3 a) fun b =>
 ob (ldN false 1 b B) fun c =>
 ob (xbin PP .add 3 c (iv 1)) fun d =>
 ob (Z2l (shr x0)) fun e =>
 ob (xfld 3 e) fun f =>
 stN 1 f d B fun g =>
 mk (callS false EE 155 [] g fun h i =>
 callS false EE 154 [h, (.clo 68 ([(shr x0)].map nrmA) ([].map nrmA))] i fun j k =>
 mk (ob (xbin PP .geq 3 (shr (shr j)) (iv 0)) fun l =>
 asB (shr l) fun n => br n (mk (ob (Z21 PP 98 [(0, (iv 7)), (3, (shr (shr j)))]) fun o =>
 stN 7 x4 o k fun q =>
 Ze6 m0 x0 x1 x4 (gcB m0 [x0, x1, x4] q)))
 (mk (callS false EE 68 [(shr x0), (.p (.v (.string (ByteArray.mk #[63, 62]))))] k fun r s =>
 asB (shr r) fun t => br t (mk (ob (Z21 PP 98 [(0, (iv 8))]) fun u =>
 stN 7 x4 u s fun w =>
 Ze6 m0 x0 x1 x4 (gcB m0 [x0, x1, x4] w)))
 (mk (callS false EE 68 [(shr x0), (.p (.v (.string (ByteArray.mk #[63, 58]))))] s fun x y =>
 asB (shr x) fun z => br z (Ze6 m0 x0 x1 x4 (gcB m0 [x0, x1, x4] y))
 (mk (callS false EE 104 [(shr x0)] y fun A C =>
 ob (xbin PP .eql 3 A (iv 63)) fun D =>
 asB (shr D) fun F => br F (mk (callS false EE 70 [(shr x0), (iv 20), (shr x1)] C fun G I =>
 Ze6 m0 x0 x1 x4 (gcB m0 [x0, x1, x4] I)))
 (mk (ob (Z2l (shr x0)) fun J =>
 ob (xfld 2 J) fun M =>
 ob (ldN false 1 M C) fun N =>
 ob (xbin PP .eql 3 N (iv 9)) fun O =>
 asB (shr O) fun Q => br Q (mk (callS false EE 70 [(shr x0), (iv 24), (shr x1)] C fun R S =>
 Ze6 m0 x0 x1 x4 (gcB m0 [x0, x1, x4] S)))
 (mk (ob (Z2l (shr x0)) fun T =>
 ob (xfld 2 T) fun U =>
 ob (ldN false 1 U C) fun V =>
 ob (xbin PP .add 3 V (iv 1)) fun W =>
 ob (Z2l (shr x0)) fun Y =>
 ob (xfld 2 Y) fun Z =>
 stN 1 Z W C fun a0 =>
 mk (ob (Z2l (shr x0)) fun a1 =>
 ob (xfld 2 a1) fun a2 =>
 ob (ldN false 1 a2 a0) fun a3 =>
 ob (Z21 PP 98 [(0, (iv 5)), (4, a3)]) fun a4 =>
 stN 7 x4 a4 a0 fun a5 =>
 Ze6 m0 x0 x1 x4 (gcB m0 [x0, x1, x4] a5))))))))))))))) := by kernel_rfl
theorem ZBO : Ze6 m0 x0 x1 x4 B =
 mk (callS false EE 69 [(shr x0)] B fun a b =>
 bz PP 98 b fun c d =>
 stN 7 c a d fun e =>
 mk (ob (Z2l (shr x0)) fun f =>
 ob (xfld 5 f) fun g =>
 ob (xfld 0 g) fun h =>
 ob (ldN false 1 h e) fun i =>
 ob (xbin PP .eql 30 i (iv 0)) fun j =>
 asB (shr j) fun k => br k (callS false EE 68 [(shr x0), (.p (.v (.string (ByteArray.mk #[41]))))] e fun l n =>
 ob (xun PP .not l) fun o =>
 asB (shr o) fun q => br q (ZtH m0 x0 x1 x4 c (gcB m0 [x0, x1, x4, c] n))
 (ZlC m0 x0 x4 c (gcB m0 [x0, x4, c] n)))
 (ZlC m0 x0 x4 c (gcB m0 [x0, x4, c] e)))) := by kernel_rfl
theorem ZBP : ZtH m0 x0 x1 x4 x7 B =
 mk (callS false EE 70 [(shr x0), (iv 20), (shr x1)] B fun a b =>
 ZlC m0 x0 x4 x7 (gcB m0 [x0, x4, x7] b)) := by kernel_rfl
theorem ZBQ : ZlC m0 x0 x4 x7 B =
 mk (ob (Z2l (shr x0)) fun a =>
 ob (xfld 3 a) fun b =>
 ob (ldN false 1 b B) fun c =>
 ob (xbin PP .sub 3 c (iv 1)) fun d =>
 ob (Z2l (shr x0)) fun e =>
 ob (xfld 3 e) fun f =>
 stN 1 f d B fun g =>
 mk (ob (xfld 0 x4) fun h =>
 ob (ldN false 1 h g) fun i =>
 ob (xbin PP .eql 3 i (iv 0)) fun j =>
 asB j fun k => br k (mk (ob (ldN true 7 x7 g) fun l =>
 stN 7 x4 l g fun n =>
 Z6f x4 (bv true) n))
 (ZtI m0 x4 x7 (gcB m0 [x4, x7] g)))) := by kernel_rfl
theorem ZBR : ZtI m0 x4 x7 B =
 mk (ob (ldN true 7 x7 B) fun a =>
 ob (xlit PP 96 1 [(0, a)]) fun b =>
 ob (xfld 6 x4) fun c =>
 stN 1 c b B fun d =>
 mk (ob (ldN true 7 x4 d) fun e =>
 ob (xfld 0 x4) fun f =>
 ob (ldN false 1 f d) fun g =>
 ob (xbin PP .neq 3 g (iv 7)) fun h =>
 stN 7 x4 e d fun i =>
 Z6f x4 (shr h) i)) := by kernel_rfl
theorem ZJW : EE 132 [x0, x1] B =
 (let m0 := B.length
 mk (bz PP 98 B fun a b =>
 mk (ob (Z2l (shr x0)) fun c =>
 ob (xfld 3 c) fun d =>
 ob (ldN false 1 d b) fun e =>
 ob (xbin PP .eql 3 e (iv 32)) fun f =>
 asB f fun g => br g (mk (callS false EE 70 [(shr x0), (iv 25), (shr x1)] b fun h i =>
 mk (ob (Z21 PP 98 []) fun j =>
 stN 7 a j i fun k =>
 Z6f a (bv true) k)))
 (ZwC m0 x0 x1 a (gcB m0 [x0, x1, a] b))))) := (E_eq PP XX HH _ _ _).trans (by kernel_rfl)
noncomputable def ZFP := Z39 Tryz.f133
def Zj3 := l2 (l2 (l2 (l2 ZFP)))
def ZnK := l1 (l2 (l2 (l1 (l2 (l1 (l2 (l2 (l2 ZFP))))))))
def Zlj (m0 : Nat) : Kont := kret PP HH 133 Tryz.f133.results
def Zso := kseq HH 133 m0 Zj3 (exec PP HH 133 m0 EE LL Zj3 (Zlj m0)) (Zlj m0)
def ZJZ := kseq HH 133 m0 (l2 ZnK) (exec PP HH 133 m0 EE LL (l2 ZnK) (Zso m0)) (Zso m0)
def ZK0 := kseq HH 133 m0 (l2 Zj3) (exec PP HH 133 m0 EE LL (l2 Zj3) (Zlj m0)) (Zlj m0)
def ZwE := exec PP HH 133 m0 EE LL ZnK (Zso m0) [(0, x0), (1, x1), (4, x4)] B
def Zlk := exec PP HH 133 m0 EE LL Zj3 (Zlj m0) [(0, x0), (1, x1), (4, x4), (5, x5)] B
def ZwF := exec PP HH 133 m0 EE LL (l1 (l2 (l1 ZnK))) (ZJZ m0) [(4, x4)] B
def Zsp := exec PP HH 133 m0 EE LL (l2 ZnK) (Zso m0) [(0, x0), (1, x1), (4, x4)] B
def Zj2 := exec PP HH 133 m0 EE LL (l1 (l2 (l1 Zj3))) (ZK0 m0) [(0, x0), (1, x1), (4, x4), (5, x5)] B
def Zp9 := exec PP HH 133 m0 EE LL (l2 Zj3) (Zlj m0) [(4, x4), (5, x5)] B
theorem ZDy : ZwE m0 x0 x1 x4 B =
 mk (callS false EE 68 [(shr x0), (.p (.v (.string (ByteArray.mk #[125]))))] B fun a b =>
 asB (shr a) fun c => br c (ob (xbin PP .leq 3 (shr x4) (iv 64)) fun d =>
 asB (shr d) fun e => br e (ZwF m0 x4 (gcB m0 [x4] b))
 (Zsp m0 x0 x1 x4 (gcB m0 [x0, x1, x4] b)))
 (Zsp m0 x0 x1 x4 (gcB m0 [x0, x1, x4] b))) := by kernel_rfl
theorem ZDB : Zlk m0 x0 x1 x4 x5 B =
 mk (ob (xbin PP .lss 3 (shr x4) (iv 0)) fun a =>
 asB (shr a) fun b => br b (Zj2 m0 x0 x1 x4 x5 (gcB m0 [x0, x1, x4, x5] B))
 (ob (xbin PP .lss 3 (shr x5) (shr x4)) fun c =>
 asB (shr (shr c)) fun d => br d (Zj2 m0 x0 x1 x4 x5 (gcB m0 [x0, x1, x4, x5] B))
 (ob (xbin PP .gtr 3 (shr x5) (iv 64)) fun e =>
 asB (shr (shr e)) fun f => br f (Zj2 m0 x0 x1 x4 x5 (gcB m0 [x0, x1, x4, x5] B))
 (callS false EE 68 [(shr x0), (.p (.v (.string (ByteArray.mk #[125]))))] B fun g h =>
 ob (xun PP .not g) fun i =>
 asB (shr i) fun j => br j (Zj2 m0 x0 x1 x4 x5 (gcB m0 [x0, x1, x4, x5] h))
 (Zp9 m0 x4 x5 (gcB m0 [x4, x5] h)))))) := by kernel_rfl
theorem ZDz : ZwF m0 x4 B =
 mk (Z8i (shr (shr x4)) (iv (-1)) B) := by kernel_rfl
theorem ZDA : Zsp m0 x0 x1 x4 B =
 mk (Zlk m0 x0 x1 x4 (iv (-2)) (gcB m0 [x0, x1, x4, (iv (-2))] B)) := by kernel_rfl
theorem ZBS : Zj2 m0 x0 x1 x4 x5 B =
 mk (callS false EE 70 [(shr x0), (iv 23), (shr x1)] B fun a b =>
 Zp9 m0 x4 x5 (gcB m0 [x4, x5] b)) := by kernel_rfl
theorem ZBT : Zp9 m0 x4 x5 B =
 mk (Z8i (shr (shr x4)) (shr (shr x5)) B) := by kernel_rfl
theorem ZJY : EE 133 [x0, x1] B =
 (let m0 := B.length
 mk (mk (callS false EE 156 [(shr x0)] B fun a b =>
 mk (mk (callS false EE 68 [(shr x0), (.p (.v (.string (ByteArray.mk #[44]))))] b fun c d =>
 asB c fun e => br e (mk (callS false EE 156 [(shr x0)] d fun f g =>
 mk (ob (xbin PP .lss 3 (shr (shr f)) (iv 0)) fun h =>
 asB (shr h) fun i => br i (ob (xbin PP .geq 3 (shr (shr a)) (iv 0)) fun j =>
 asB (shr j) fun k => br k (ZwE m0 x0 x1 (shr a) (gcB m0 [x0, x1, (shr a)] g))
 (Zlk m0 x0 x1 (shr a) (shr f) (gcB m0 [x0, x1, (shr a), (shr f)] g)))
 (Zlk m0 x0 x1 (shr a) (shr f) (gcB m0 [x0, x1, (shr a), (shr f)] g)))))
 (Zlk m0 x0 x1 (shr a) (shr (shr (shr a))) (gcB m0 [x0, x1, (shr a), (shr (shr (shr a)))] d))))))) := (E_eq PP XX HH _ _ _).trans (by kernel_rfl)
noncomputable def ZLF := Z39 Tryz.f134
def ZK2 (m0 : Nat) : Kont := kret PP HH 134 Tryz.f134.results
def ZwG := exec PP HH 134 m0 EE LL (l2 (l2 ZLF)) (ZK2 m0) [(0, x0)] B
theorem ZDC : ZwG m0 x0 B =
 mk (Z1s (shr (shr x0)) B) := by kernel_rfl
theorem ZK1 : EE 134 [x0] B =
 (let m0 := B.length
 mk (mk (ob (xbin PP .gtr 3 (shr x0) (iv 1048576)) fun a =>
 asB a fun b => br b (mk (Z1s (iv (-1)) B))
 (ZwG m0 x0 (gcB m0 [x0] B))))) := (E_eq PP XX HH _ _ _).trans (by kernel_rfl)
noncomputable def ZLG := Z39 Tryz.f147
def ZK4 (m0 : Nat) : Kont := kret PP HH 147 Tryz.f147.results
def ZwH := exec PP HH 147 m0 EE LL (l2 (l2 ZLG)) (ZK4 m0) [(0, x0)] B
theorem ZDD : ZwH m0 x0 B =
 mk (callS false EE 169 [(shr x0)] B fun a b =>
 Z8i (shr a) (iv 0) b) := by kernel_rfl
theorem ZK3 : EE 147 [x0] B =
 (let m0 := B.length
 mk (mk (callS false EE 166 [(shr x0), (.clo 167 [] [])] B fun a b =>
 asB a fun c => br c (mk (Z8i nilA (iv 13) b))
 (ZwH m0 x0 (gcB m0 [x0] b))))) := (E_eq PP XX HH _ _ _).trans (by kernel_rfl)
noncomputable def ZLH := Z39 Tryz.f148
def ZK6 (m0 : Nat) : Kont := kret PP HH 148 Tryz.f148.results
def ZwI := exec PP HH 148 m0 EE LL (l2 (l2 ZLH)) (ZK6 m0) [(0, x0)] B
theorem ZDE : ZwI m0 x0 B =
 mk (callS false EE 171 [(shr x0)] B fun a b =>
 Z8i (shr a) (iv 0) b) := by kernel_rfl
theorem ZK5 : EE 148 [x0] B =
 (let m0 := B.length
 mk (mk (callS false EE 170 [(shr x0)] B fun a b =>
 ob (xun PP .not a) fun c =>
 asB c fun d => br d (mk (Z8i nilA (iv 10) b))
 (ZwI m0 x0 (gcB m0 [x0] b))))) := (E_eq PP XX HH _ _ _).trans (by kernel_rfl)
noncomputable def ZLI := Z39 Tryz.f149
def Z81 (r0 : AV) (B : List Row) : Option Res :=
 ob (ob (some r0) fun v => ob (some []) fun vs => some (v :: vs)) fun vs => some ((match vs with | [v] => v | vs => Z7G (vs.map shr)), B)
def ZK8 (m0 : Nat) : Kont := kret PP HH 149 Tryz.f149.results
def Zc3 := exec PP HH 149 m0 EE LL (l2 (l2 ZLI)) (ZK8 m0) [] B
theorem ZBU : Zc3 m0 B =
 mk (Z81 nilA B) := by kernel_rfl
theorem ZK7 : EE 149 [x0] B =
 (let m0 := B.length
 mk (mk (mk (ob (xbin PP .eql 3 (shr x0) (iv 100)) fun a =>
 asB (shr a) fun b => br b (asB (shr a) fun c => br c (mk (ob (Z21 PP 201 [(0, (iv 48)), (1, (iv 57))]) fun d =>
 ob (xlit PP 94 1 [(0, d)]) fun e =>
 Z81 e B))
 (mk (ob (xbin PP .eql 3 (shr x0) (iv 119)) fun f =>
 asB (shr f) fun g => br g (asB (shr f) fun h => br h (mk (ob (Z21 PP 201 [(0, (iv 48)), (1, (iv 57))]) fun i =>
 ob (Z21 PP 201 [(0, (iv 65)), (1, (iv 90))]) fun j =>
 callS false EE 129 [(iv 95)] B fun k l =>
 ob (Z21 PP 201 [(0, (iv 97)), (1, (iv 122))]) fun n =>
 ob (xlit PP 94 4 [(0, i), (1, j), (2, k), (3, n)]) fun o =>
 Z81 o l))
 (mk (ob (xbin PP .eql 3 (shr x0) (iv 115)) fun p =>
 asB (shr p) fun q => br q (asB (shr p) fun r => br r (mk (ob (Z21 PP 201 [(0, (iv 9)), (1, (iv 13))]) fun s =>
 callS false EE 129 [(iv 32)] B fun t u =>
 ob (xlit PP 94 2 [(0, s), (1, t)]) fun v =>
 Z81 v u))
 (Zc3 m0 (gcB m0 [] B)))
 (mk (ob (xbin PP .eql 3 (shr x0) (iv 83)) fun w =>
 asB (shr w) fun x => br x (mk (ob (Z21 PP 201 [(0, (iv 9)), (1, (iv 13))]) fun y =>
 callS false EE 129 [(iv 32)] B fun z A =>
 ob (xlit PP 94 2 [(0, y), (1, z)]) fun C =>
 Z81 C A))
 (Zc3 m0 (gcB m0 [] B)))))))
 (mk (ob (xbin PP .eql 3 (shr x0) (iv 87)) fun D =>
 asB (shr D) fun F => br F (mk (ob (Z21 PP 201 [(0, (iv 48)), (1, (iv 57))]) fun G =>
 ob (Z21 PP 201 [(0, (iv 65)), (1, (iv 90))]) fun I =>
 callS false EE 129 [(iv 95)] B fun J M =>
 ob (Z21 PP 201 [(0, (iv 97)), (1, (iv 122))]) fun N =>
 ob (xlit PP 94 4 [(0, G), (1, I), (2, J), (3, N)]) fun O =>
 Z81 O M))
 (mk (ob (xbin PP .eql 3 (shr x0) (iv 115)) fun Q =>
 asB (shr Q) fun R => br R (asB (shr Q) fun S => br S (mk (ob (Z21 PP 201 [(0, (iv 9)), (1, (iv 13))]) fun T =>
 callS false EE 129 [(iv 32)] B fun U V =>
 ob (xlit PP 94 2 [(0, T), (1, U)]) fun W =>
 Z81 W V))
 (Zc3 m0 (gcB m0 [] B)))
 (mk (ob (xbin PP .eql 3 (shr x0) (iv 83)) fun Y =>
 asB (shr Y) fun Z => br Z (mk (ob (Z21 PP 201 [(0, (iv 9)), (1, (iv 13))]) fun a0 =>
 callS false EE 129 [(iv 32)] B fun a1 a2 =>
 ob (xlit PP 94 2 [(0, a0), (1, a1)]) fun a3 =>
 Z81 a3 a2))
 (Zc3 m0 (gcB m0 [] B)))))))))))
 (mk (ob (xbin PP .eql 3 (shr x0) (iv 68)) fun a4 =>
 asB (shr a4) fun a5 => br a5 (mk (ob (Z21 PP 201 [(0, (iv 48)), (1, (iv 57))]) fun a6 =>
 ob (xlit PP 94 1 [(0, a6)]) fun a7 =>
 Z81 a7 B))
 (mk (ob (xbin PP .eql 3 (shr x0) (iv 119)) fun a8 =>
 asB (shr a8) fun a9 => br a9 (asB (shr a8) fun a10 => br a10 (mk (ob (Z21 PP 201 [(0, (iv 48)), (1, (iv 57))]) fun a11 =>
 ob (Z21 PP 201 [(0, (iv 65)), (1, (iv 90))]) fun a12 =>
 callS false EE 129 [(iv 95)] B fun a13 a14 =>
 ob (Z21 PP 201 [(0, (iv 97)), (1, (iv 122))]) fun a15 =>
 ob (xlit PP 94 4 [(0, a11), (1, a12), (2, a13), (3, a15)]) fun a16 =>
 Z81 a16 a14))
 (mk (ob (xbin PP .eql 3 (shr x0) (iv 115)) fun a17 =>
 asB (shr a17) fun a18 => br a18 (asB (shr a17) fun a19 => br a19 (mk (ob (Z21 PP 201 [(0, (iv 9)), (1, (iv 13))]) fun a20 =>
 callS false EE 129 [(iv 32)] B fun a21 a22 =>
 ob (xlit PP 94 2 [(0, a20), (1, a21)]) fun a23 =>
 Z81 a23 a22))
 (Zc3 m0 (gcB m0 [] B)))
 (mk (ob (xbin PP .eql 3 (shr x0) (iv 83)) fun a24 =>
 asB (shr a24) fun a25 => br a25 (mk (ob (Z21 PP 201 [(0, (iv 9)), (1, (iv 13))]) fun a26 =>
 callS false EE 129 [(iv 32)] B fun a27 a28 =>
 ob (xlit PP 94 2 [(0, a26), (1, a27)]) fun a29 =>
 Z81 a29 a28))
 (Zc3 m0 (gcB m0 [] B)))))))
 (mk (ob (xbin PP .eql 3 (shr x0) (iv 87)) fun a30 =>
 asB (shr a30) fun a31 => br a31 (mk (ob (Z21 PP 201 [(0, (iv 48)), (1, (iv 57))]) fun a32 =>
 ob (Z21 PP 201 [(0, (iv 65)), (1, (iv 90))]) fun a33 =>
 callS false EE 129 [(iv 95)] B fun a34 a35 =>
 ob (Z21 PP 201 [(0, (iv 97)), (1, (iv 122))]) fun a36 =>
 ob (xlit PP 94 4 [(0, a32), (1, a33), (2, a34), (3, a36)]) fun a37 =>
 Z81 a37 a35))
 (mk (ob (xbin PP .eql 3 (shr x0) (iv 115)) fun a38 =>
 asB (shr a38) fun a39 => br a39 (asB (shr a38) fun a40 => br a40 (mk (ob (Z21 PP 201 [(0, (iv 9)), (1, (iv 13))]) fun a41 =>
 callS false EE 129 [(iv 32)] B fun a42 a43 =>
 ob (xlit PP 94 2 [(0, a41), (1, a42)]) fun a44 =>
 Z81 a44 a43))
 (Zc3 m0 (gcB m0 [] B)))
 (mk (ob (xbin PP .eql 3 (shr x0) (iv 83)) fun a45 =>
 asB (shr a45) fun a46 => br a46 (mk (ob (Z21 PP 201 [(0, (iv 9)), (1, (iv 13))]) fun a47 =>
 callS false EE 129 [(iv 32)] B fun a48 a49 =>
 ob (xlit PP 94 2 [(0, a47), (1, a48)]) fun a50 =>
 Z81 a50 a49))
 (Zc3 m0 (gcB m0 [] B)))))))))))))))) := (E_eq PP XX HH _ _ _).trans (by kernel_rfl)
noncomputable def ZFQ := Z39 Tryz.f150
def ZwK := l2 (l2 ZFQ)
def ZwJ (m0 : Nat) : Kont := kret PP HH 150 Tryz.f150.results
def ZKa := kseq HH 150 m0 ZwK (exec PP HH 150 m0 EE LL ZwK (ZwJ m0)) (ZwJ m0)
def ZKb := kblk 0 (ZKa m0)
def ZgI := exec PP HH 150 m0 EE LL ZwK (ZwJ m0) [(0, x0), (2, x2)] B
def ZtJ := exec PP HH 150 m0 EE LL (l1 (l2 (l2 (l2 (l2 (l2 (l2 (l2 (l2 (l2 (l1 (l1 (l2 ZFQ))))))))))))) (ZKb m0) [(1, x1)] B
theorem ZBW : ZgI m0 x0 x2 B =
 mk (callS false EE 70 [(shr x0), (iv 21), (shr x2)] B fun a b =>
 mk (Z1s (iv 0) b)) := by kernel_rfl
theorem ZBV : ZtJ m0 x1 B =
 mk (Z1s (shr (shr x1)) B) := by kernel_rfl
theorem ZK9 : EE 150 [x0, x1, x2] B =
 (let m0 := B.length
 mk (mk (ob (xbin PP .eql 3 (shr x1) (iv 110)) fun a =>
 asB (shr a) fun b => br b (mk (Z1s (iv 10) B))
 (mk (ob (xbin PP .eql 3 (shr x1) (iv 116)) fun c =>
 asB (shr c) fun d => br d (mk (Z1s (iv 9) B))
 (mk (ob (xbin PP .eql 3 (shr x1) (iv 114)) fun e =>
 asB (shr e) fun f => br f (mk (Z1s (iv 13) B))
 (mk (ob (xbin PP .eql 3 (shr x1) (iv 120)) fun g =>
 asB (shr g) fun h => br h (mk (callS false EE 104 [(shr x0)] B fun i j =>
 callS false EE 172 [i] j fun k l =>
 mk (ob (xbin PP .geq 3 (shr (shr k)) (iv 0)) fun n =>
 asB n fun o => br o (mk (callS false EE 127 [(shr x0)] l fun p q =>
 mk (callS false EE 104 [(shr x0)] q fun r s =>
 callS false EE 172 [r] s fun t u =>
 mk (ob (xbin PP .geq 3 (shr (shr t)) (iv 0)) fun v =>
 asB v fun w => br w (mk (callS false EE 127 [(shr x0)] u fun x y =>
 mk (ob (xbin PP .mul 3 (iv 16) (shr (shr k))) fun z =>
 ob (xbin PP .add 3 z (shr (shr t))) fun A =>
 Z1s (shr A) y)))
 (ZgI m0 x0 x2 (gcB m0 [x0, x2] u))))))
 (ZgI m0 x0 x2 (gcB m0 [x0, x2] l)))))
 (mk (ob (xbin PP .gtr 3 (shr x1) (iv 32)) fun C =>
 asB (shr C) fun D => br D (ob (xbin PP .lss 3 (shr x1) (iv 127)) fun F =>
 asB (shr (shr F)) fun G => br G (ob (Z21 PP 201 [(0, (iv 48)), (1, (iv 57))]) fun I =>
 ob (Z21 PP 201 [(0, (iv 65)), (1, (iv 90))]) fun J =>
 ob (Z21 PP 201 [(0, (iv 97)), (1, (iv 122))]) fun M =>
 ob (xlit PP 95 3 [(0, I), (1, J), (2, M)]) fun N =>
 callS false EE 173 [N, (shr x1)] B fun O Q =>
 ob (xun PP .not O) fun R =>
 asB (shr (shr R)) fun S => br S (ZtJ m0 x1 (gcB m0 [x1] Q))
 (ZgI m0 x0 x2 (gcB m0 [x0, x2] Q)))
 (ZgI m0 x0 x2 (gcB m0 [x0, x2] B)))
 (ZgI m0 x0 x2 (gcB m0 [x0, x2] B))))))))))))) := (E_eq PP XX HH _ _ _).trans (by kernel_rfl)
theorem ZKc : EE 151 [x0, x1] B =
 (let m0 := B.length
 mk (ob (ldN false 1 x1 B) fun a =>
 callS false EE 152 [a, (shr x0)] B fun b c =>
 ob (xext 0 (shr b)) fun d =>
 ob (xext 1 (shr b)) fun e =>
 stN 1 x1 (shr d) c fun f =>
 ZsG f)) := (E_eq PP XX HH _ _ _).trans (by kernel_rfl)
noncomputable def ZFR := Z39 Tryz.f152
def ZwN := l2 (l2 ZFR)
def ZwL (m0 : Nat) : Kont := kret PP HH 152 Tryz.f152.results
def ZKe := kseq HH 152 m0 ZwN (exec PP HH 152 m0 EE LL ZwN (ZwL m0)) (ZwL m0)
def Zsq := exec PP HH 152 m0 EE LL (l1 (l2 (l1 (l2 ZFR)))) (ZKe m0) [] B
def ZwM := exec PP HH 152 m0 EE LL ZwN (ZwL m0) [(0, x0), (1, x1)] B
theorem ZDF : Zsq m0 B =
 mk (Z8i nilA (iv 10) B) := by kernel_rfl
theorem ZDG : ZwM m0 x0 x1 B =
 mk (ob (xlit PP 250 2 [(0, (shr x0)), (1, (shr x1))]) fun a =>
 callS false EE 174 [a] B fun b c =>
 callS false EE 169 [b] c fun d e =>
 Z8i (shr d) (iv 0) e) := by kernel_rfl
theorem ZKd : EE 152 [x0, x1] B =
 (let m0 := B.length
 mk (mk (callS false EE 170 [(shr x0)] B fun a b =>
 ob (xun PP .not a) fun c =>
 asB (shr c) fun d => br d (Zsq m0 (gcB m0 [] b))
 (callS false EE 170 [(shr x1)] b fun e f =>
 ob (xun PP .not e) fun g =>
 asB (shr g) fun h => br h (Zsq m0 (gcB m0 [] f))
 (ZwM m0 x0 x1 (gcB m0 [x0, x1] f)))))) := (E_eq PP XX HH _ _ _).trans (by kernel_rfl)
noncomputable def ZLJ := Z39 Tryz.f153
def ZwR := l2 (l2 (l2 ZLJ))
def Zpa (r0 r1 r2 : AV) (B : List Row) : Option Res :=
 ob (ob (some r0) fun v => ob (ob (some r1) fun v => ob (ob (some r2) fun v => ob (some []) fun vs => some (v :: vs)) fun vs => some (v :: vs)) fun vs => some (v :: vs)) fun vs => some ((match vs with | [v] => v | vs => Z7G (vs.map shr)), B)
def ZwO (m0 : Nat) : Kont := kret PP HH 153 Tryz.f153.results
def ZwP := exec PP HH 153 m0 EE LL ZwR (ZwO m0) [(0, x0), (5, x5)] B
def ZwQ := exec PP HH 153 m0 EE LL (l2 ZwR) (ZwO m0) [(0, x0), (2, x2), (5, x5)] B
def ZtK := exec PP HH 153 m0 EE LL (l2 (l2 (l2 ZwR))) (ZwO m0) [(0, x0), (2, x2), (5, x5)] B
theorem ZDH : ZwP m0 x0 x5 B =
 mk (callS false EE 104 [(shr x0)] B fun a b =>
 mk (ob (xbin PP .lss 3 (shr (shr a)) (iv 0)) fun c =>
 asB c fun d => br d (mk (callS false EE 70 [(shr x0), (iv 21), (shr x5)] b fun e f =>
 mk (Zpa (iv 0) nilA (bv false) f)))
 (ZwQ m0 x0 (shr a) x5 (gcB m0 [x0, (shr a), x5] b)))) := by kernel_rfl
theorem ZDI : ZwQ m0 x0 x2 x5 B =
 mk (callS false EE 127 [(shr x0)] B fun a b =>
 mk (callS true EE 149 [(shr x2)] b fun c d =>
 mk (ob (xnil PP .neq 94 (.slice none 0 0) (shr c)) fun e =>
 asB e fun f => br f (mk (ob (xbin PP .lss 3 (shr x2) (iv 97)) fun g =>
 Zpa (iv 0) c (shr g) d))
 (ZtK m0 x0 x2 x5 (gcB m0 [x0, x2, x5] d))))) := by kernel_rfl
theorem ZBX : ZtK m0 x0 x2 x5 B =
 mk (callS false EE 150 [(shr x0), (shr x2), (shr x5)] B fun a b =>
 Zpa (shr a) nilA (bv false) b) := by kernel_rfl
theorem ZKf : EE 153 [x0] B =
 (let m0 := B.length
 mk (mk (ob (Z2l (shr x0)) fun a =>
 ob (xfld 1 a) fun b =>
 ob (ldN false 1 b B) fun c =>
 mk (callS false EE 127 [(shr x0)] B fun d e =>
 mk (ob (xbin PP .neq 3 (shr (shr d)) (iv 92)) fun f =>
 asB f fun g => br g (mk (Zpa (shr (shr (shr d))) nilA (bv false) e))
 (ZwP m0 x0 (shr c) (gcB m0 [x0, (shr c)] e))))))) := (E_eq PP XX HH _ _ _).trans (by kernel_rfl)
noncomputable def ZFS := Z39 Tryz.f154
def ZwX := l2 (l2 ZFS)
def Zsr := l1 (l1 (l2 (l1 (l2 ZFS))))
def ZCu := l2 (l2 Zsr)
def ZwS (m0 : Nat) : Kont := kret PP HH 154 Tryz.f154.results
def ZKh := kseq HH 154 m0 ZwX (exec PP HH 154 m0 EE LL ZwX (ZwS m0)) (ZwS m0)
def ZwT := kblk 0 (ZKh m0)
def ZCt := kloop HH 154 m0 Zsr (LL 154 m0 Zsr (ZwT m0)) (ZwT m0)
def ZnL := lp (LL 154 m0 Zsr (ZwT m0) [(0, x0), (1, x1), (7, x7), (8, x8)] B)
def ZwU := exec PP HH 154 m0 EE LL ZCu (ZCt m0) [(0, x0), (1, x1), (7, x7), (8, x8)] B
def ZwW := exec PP HH 154 m0 EE LL ZwX (ZwS m0) [] B
def ZwV := exec PP HH 154 m0 EE LL (l2 ZCu) (ZCt m0) [(0, x0), (1, x1), (7, x7), (8, x8)] B
theorem ZDJ : ZnL m0 x0 x1 x7 x8 B =
 mk (ob (xbin PP .lss 3 x8 x7) fun a =>
 asB a fun b => br b (ZwU m0 x0 x1 x7 x8 (gcB m0 [x0, x1, x7, x8] B))
 (ZwW m0 (gcB m0 [] B))) := lq_ (by kernel_rfl)
theorem ZDK : ZwU m0 x0 x1 x7 x8 B =
 mk (mk (ob (xidx 1 (shr x0) (shr (shr (shr x8)))) fun a =>
 ob (ldN false 1 a B) fun b =>
 callV HH EE (shr x1) [b] B fun c d =>
 asB c fun e => br e (mk (Z1s (shr (shr (shr (shr x8)))) d))
 (ZwV m0 x0 x1 x7 x8 (gcB m0 [x0, x1, x7, x8] d)))) := by kernel_rfl
theorem ZDM : ZwW m0 B =
 mk (Z1s (iv (-1)) B) := by kernel_rfl
theorem ZDL : ZwV m0 x0 x1 x7 x8 B =
 mk (ob (xbin PP .add 3 x8 (iv 1)) fun a =>
 ZnL m0 x0 x1 x7 (shr a) (gcB m0 [x0, x1, x7, (shr a)] B)) := by kernel_rfl
theorem ZKg : EE 154 [x0, x1] B =
 (let m0 := B.length
 mk (mk (ob (xlen PP 226 (shr x0)) fun a =>
 ZnL m0 x0 x1 a (iv 0) (gcB m0 [x0, x1, a, (iv 0)] B)))) := (E_eq PP XX HH _ _ _).trans (by kernel_rfl)
theorem ZKi : EE 155 [] B =
 (let m0 := B.length
 mk (mk (ob (xlit PP 226 4 [(0, (.p (.v (.string (ByteArray.mk #[63, 61]))))), (1, (.p (.v (.string (ByteArray.mk #[63, 33]))))), (2, (.p (.v (.string (ByteArray.mk #[63, 60, 61]))))), (3, (.p (.v (.string (ByteArray.mk #[63, 60, 33])))))]) fun a =>
 Z1s (shr a) B))) := (E_eq PP XX HH _ _ _).trans (by kernel_rfl)
noncomputable def ZFT := Z39 Tryz.f156
def Zx1 := l2 (l2 (l2 ZFT))
def Zss := l1 (l1 (l2 (l1 (l2 (l2 ZFT)))))
def ZwY (m0 : Nat) : Kont := kret PP HH 156 Tryz.f156.results
def ZKk := kseq HH 156 m0 Zx1 (exec PP HH 156 m0 EE LL Zx1 (ZwY m0)) (ZwY m0)
def ZwZ := kblk 0 (ZKk m0)
def ZKl := kloop HH 156 m0 Zss (LL 156 m0 Zss (ZwZ m0)) (ZwZ m0)
def ZnM := lp (LL 156 m0 Zss (ZwZ m0) [(0, x0), (3, x3), (4, x4)] B)
def Zx0 := exec PP HH 156 m0 EE LL (l2 Zss) (ZKl m0) [(0, x0), (3, x3), (4, x4)] B
def ZnN := exec PP HH 156 m0 EE LL Zx1 (ZwY m0) [(3, x3)] B
theorem ZDN : ZnM m0 x0 x3 x4 B =
 mk (ob (xbin PP .lss 3 (shr x4) (iv 2)) fun a =>
 asB (shr a) fun b => br b (callS false EE 104 [(shr x0)] B fun c d =>
 ob (xbin PP .geq 3 c (iv 48)) fun e =>
 asB (shr (shr e)) fun f => br f (callS false EE 104 [(shr x0)] d fun g h =>
 ob (xbin PP .leq 3 g (iv 57)) fun i =>
 asB (shr i) fun j => br j (Zx0 m0 x0 x3 x4 (gcB m0 [x0, x3, x4] h))
 (ZnN m0 x3 (gcB m0 [x3] h)))
 (ZnN m0 x3 (gcB m0 [x3] d)))
 (ZnN m0 x3 (gcB m0 [x3] B))) := lq_ (by kernel_rfl)
theorem ZDO : Zx0 m0 x0 x3 x4 B =
 mk (ob (Z8Z PP true [(shr x3), (iv 0)]) fun a =>
 ob (xbin PP .mul 3 (iv 10) a) fun b =>
 callS false EE 127 [(shr x0)] B fun c d =>
 ob (xbin PP .add 3 b c) fun e =>
 ob (xbin PP .sub 3 e (iv 48)) fun f =>
 mk (ob (xbin PP .add 3 (shr x4) (iv 1)) fun g =>
 ZnM m0 x0 (shr f) (shr g) (gcB m0 [x0, (shr f), (shr g)] d))) := by kernel_rfl
theorem ZDP : ZnN m0 x3 B =
 mk (Z1s (shr (shr x3)) B) := by kernel_rfl
theorem ZKj : EE 156 [x0] B =
 (let m0 := B.length
 mk (mk (mk (ZnM m0 x0 (iv (-1)) (iv 0) (gcB m0 [x0, (iv (-1)), (iv 0)] B))))) := (E_eq PP XX HH _ _ _).trans (by kernel_rfl)
theorem ZKm : EE 166 [x0, x1] B =
 (let m0 := B.length
 mk (mk (callS false EE 179 [(shr x0), (shr x1)] B fun a b =>
 ob (xbin PP .geq 3 a (iv 0)) fun c =>
 Z1s (shr c) b))) := (E_eq PP XX HH _ _ _).trans (by kernel_rfl)
theorem ZKn : EE 167 [x0] B =
 (let m0 := B.length
 mk (bx x0 B fun a b =>
 mk (ob (ldN true 2 a b) fun c =>
 callS false EE 168 [c] b fun d e =>
 ob (xun PP .not d) fun f =>
 Z1s (shr f) e))) := (E_eq PP XX HH _ _ _).trans (by kernel_rfl)
theorem ZKo : EE 168 [x0] B =
 (let m0 := B.length
 mk (bx x0 B fun a b =>
 mk (ob (xfld 0 a) fun c =>
 ob (ldN false 1 c b) fun d =>
 ob (xbin PP .geq 3 d (iv 0)) fun e =>
 asB (shr e) fun f => br f (ob (xfld 0 a) fun g =>
 ob (ldN false 1 g b) fun h =>
 ob (xfld 1 a) fun i =>
 ob (ldN false 1 i b) fun j =>
 ob (xbin PP .leq 3 h j) fun k =>
 asB (shr (shr k)) fun l => br l (ob (xfld 1 a) fun n =>
 ob (ldN false 1 n b) fun o =>
 ob (xbin PP .leq 3 o (iv 1114367)) fun p =>
 Z1s (shr (shr p)) b)
 (Z1s (bv false) b))
 (Z1s (bv false) b)))) := (E_eq PP XX HH _ _ _).trans (by kernel_rfl)
noncomputable def ZFZ := Z39 Tryz.f170
def Zxc := l2 (l2 (l2 ZFZ))
def Zsv := l1 (l1 (l2 (l1 (l2 (l2 ZFZ)))))
def Zll := l2 (l2 Zsv)
def Zxb := l2 (l2 (l1 (l1 Zll)))
def Zx4 (m0 : Nat) : Kont := kret PP HH 170 Tryz.f170.results
def ZKq := kseq HH 170 m0 Zxc (exec PP HH 170 m0 EE LL Zxc (Zx4 m0)) (Zx4 m0)
def Zx5 := kblk 0 (ZKq m0)
def Zst := kloop HH 170 m0 Zsv (LL 170 m0 Zsv (Zx5 m0)) (Zx5 m0)
def ZKr := kseq HH 170 m0 (l2 Zll) (exec PP HH 170 m0 EE LL (l2 Zll) (Zst m0)) (Zst m0)
def Zx6 := kblk 1 (ZKr m0)
def ZKs := kseq HH 170 m0 Zxb (exec PP HH 170 m0 EE LL Zxb (Zx6 m0)) (Zx6 m0)
def ZnP := lp (LL 170 m0 Zsv (Zx5 m0) [(3, x3), (6, x6), (7, x7), (8, x8)] B)
def Zx7 := exec PP HH 170 m0 EE LL Zll (Zst m0) [(3, x3), (6, x6), (7, x7), (8, x8)] B
def Zxa := exec PP HH 170 m0 EE LL Zxc (Zx4 m0) [] B
def Zsu := exec PP HH 170 m0 EE LL (l1 (l2 (l1 (l2 (l1 (l1 Zll)))))) (ZKs m0) [] B
def Zx8 := exec PP HH 170 m0 EE LL Zxb (Zx6 m0) [(5, x5), (6, x6), (7, x7), (8, x8)] B
def Zx9 := exec PP HH 170 m0 EE LL (l2 Zll) (Zst m0) [(3, x3), (6, x6), (7, x7), (8, x8)] B
theorem ZDS : ZnP m0 x3 x6 x7 x8 B =
 mk (ob (xbin PP .lss 3 x8 x7) fun a =>
 asB a fun b => br b (Zx7 m0 x3 x6 x7 x8 (gcB m0 [x3, x6, x7, x8] B))
 (Zxa m0 (gcB m0 [] B))) := lq_ (by kernel_rfl)
theorem ZDT : Zx7 m0 x3 x6 x7 x8 B =
 mk (ob (xidx 2 x6 x8) fun a =>
 ob (ldN true 2 a B) fun b =>
 bz PP 201 B fun c d =>
 stN 2 c b d fun e =>
 mk (ob (ldN true 2 c e) fun f =>
 callS false EE 168 [f] e fun g h =>
 ob (xun PP .not g) fun i =>
 asB (shr i) fun j => br j (Zsu m0 (gcB m0 [] h))
 (ob (xfld 0 c) fun k =>
 ob (ldN false 1 k h) fun l =>
 ob (xbin PP .add 3 (shr x3) (iv 2)) fun n =>
 ob (xbin PP .lss 3 l n) fun o =>
 asB (shr o) fun p => br p (Zsu m0 (gcB m0 [] h))
 (Zx8 m0 c x6 x7 x8 (gcB m0 [c, x6, x7, x8] h))))) := by kernel_rfl
theorem ZDX : Zxa m0 B =
 mk (Z1s (bv true) B) := by kernel_rfl
theorem ZDU : Zsu m0 B =
 mk (Z1s (bv false) B) := by kernel_rfl
theorem ZDV : Zx8 m0 x5 x6 x7 x8 B =
 mk (ob (xfld 1 x5) fun a =>
 ob (ldN false 1 a B) fun b =>
 Zx9 m0 (shr b) x6 x7 x8 (gcB m0 [(shr b), x6, x7, x8] B)) := by kernel_rfl
theorem ZDW : Zx9 m0 x3 x6 x7 x8 B =
 mk (ob (xbin PP .add 3 x8 (iv 1)) fun a =>
 ZnP m0 x3 x6 x7 (shr a) (gcB m0 [x3, x6, x7, (shr a)] B)) := by kernel_rfl
theorem ZKp : EE 170 [x0] B =
 (let m0 := B.length
 mk (mk (mk (ob (xlen PP 95 (shr x0)) fun a =>
 ZnP m0 (iv (-2)) (shr x0) a (iv 0) (gcB m0 [(iv (-2)), (shr x0), a, (iv 0)] B))))) := (E_eq PP XX HH _ _ _).trans (by kernel_rfl)
noncomputable def ZG0 := Z39 Tryz.f171
def ZsA := l2 (l2 (l2 (l2 ZG0)))
def Zsz := l1 (l1 (l2 (l1 (l2 (l2 (l2 ZG0))))))
def ZnR := l2 (l2 Zsz)
def Zsw (m0 : Nat) : Kont := kret PP HH 171 Tryz.f171.results
def ZKu := kseq HH 171 m0 ZsA (exec PP HH 171 m0 EE LL ZsA (Zsw m0)) (Zsw m0)
def Zxd := kblk 0 (ZKu m0)
def Zsx := kloop HH 171 m0 Zsz (LL 171 m0 Zsz (Zxd m0)) (Zxd m0)
def ZKv := kseq HH 171 m0 (l2 ZnR) (exec PP HH 171 m0 EE LL (l2 ZnR) (Zsx m0)) (Zsx m0)
def ZKw := kblk 1 (ZKv m0)
def ZnQ := lp (LL 171 m0 Zsz (Zxd m0) [(3, x3), (4, x4), (7, x7), (8, x8), (9, x9)] B)
def Zxe := exec PP HH 171 m0 EE LL ZnR (Zsx m0) [(3, x3), (4, x4), (7, x7), (8, x8), (9, x9)] B
def ZtL := exec PP HH 171 m0 EE LL ZsA (Zsw m0) [(3, x3), (4, x4)] B
def Zsy := exec PP HH 171 m0 EE LL (l2 (l2 (l1 (l1 ZnR)))) (ZKw m0) [(3, x3), (6, x6), (7, x7), (8, x8), (9, x9)] B
def Zpb := exec PP HH 171 m0 EE LL (l2 ZsA) (Zsw m0) [(3, x3)] B
def Zxf := exec PP HH 171 m0 EE LL (l2 ZnR) (Zsx m0) [(3, x3), (4, x4), (7, x7), (8, x8), (9, x9)] B
theorem ZDY : ZnQ m0 x3 x4 x7 x8 x9 B =
 mk (ob (xbin PP .lss 3 x9 x8) fun a =>
 asB a fun b => br b (Zxe m0 x3 x4 x7 x8 x9 (gcB m0 [x3, x4, x7, x8, x9] B))
 (ZtL m0 x3 x4 (gcB m0 [x3, x4] B))) := lq_ (by kernel_rfl)
theorem ZDZ : Zxe m0 x3 x4 x7 x8 x9 B =
 mk (ob (xidx 2 x7 x9) fun a =>
 ob (ldN true 2 a B) fun b =>
 bz PP 201 B fun c d =>
 stN 2 c b d fun e =>
 mk (ob (xfld 0 c) fun f =>
 ob (ldN false 1 f e) fun g =>
 ob (xbin PP .lss 3 (shr x4) g) fun h =>
 asB h fun i => br i (mk (ob (xfld 0 c) fun j =>
 ob (ldN false 1 j e) fun k =>
 ob (xbin PP .sub 3 k (iv 1)) fun l =>
 ob (Z21 PP 201 [(0, (shr x4)), (1, l)]) fun n =>
 ob (xlit PP 95 1 [(0, n)]) fun o =>
 ob (xapp 2 x3 o) fun p =>
 Zsy m0 p c x7 x8 x9 (gcB m0 [p, c, x7, x8, x9] e)))
 (Zsy m0 x3 c x7 x8 x9 (gcB m0 [x3, c, x7, x8, x9] e)))) := by kernel_rfl
theorem ZBY : ZtL m0 x3 x4 B =
 mk (ob (xbin PP .leq 3 (shr x4) (iv 1114367)) fun a =>
 asB a fun b => br b (mk (ob (Z21 PP 201 [(0, (shr x4)), (1, (iv 1114367))]) fun c =>
 ob (xlit PP 95 1 [(0, c)]) fun d =>
 ob (xapp 2 x3 d) fun e =>
 Zpb m0 e (gcB m0 [e] B)))
 (Zpb m0 x3 (gcB m0 [x3] B))) := by kernel_rfl
theorem ZE0 : Zsy m0 x3 x6 x7 x8 x9 B =
 mk (ob (xfld 1 x6) fun a =>
 ob (ldN false 1 a B) fun b =>
 ob (xbin PP .add 3 b (iv 1)) fun c =>
 Zxf m0 x3 (shr c) x7 x8 x9 (gcB m0 [x3, (shr c), x7, x8, x9] B)) := by kernel_rfl
theorem ZBZ : Zpb m0 x3 B =
 mk (Z1s (shr (shr x3)) B) := by kernel_rfl
theorem ZE1 : Zxf m0 x3 x4 x7 x8 x9 B =
 mk (ob (xbin PP .add 3 x9 (iv 1)) fun a =>
 ZnQ m0 x3 x4 x7 x8 (shr a) (gcB m0 [x3, x4, x7, x8, (shr a)] B)) := by kernel_rfl
theorem ZKt : EE 171 [x0] B =
 (let m0 := B.length
 mk (mk (mk (mk (ob (xlen PP 95 (shr x0)) fun a =>
 ZnQ m0 nilA (iv 0) (shr x0) a (iv 0) (gcB m0 [nilA, (iv 0), (shr x0), a, (iv 0)] B)))))) := (E_eq PP XX HH _ _ _).trans (by kernel_rfl)
noncomputable def Zz9 := Z39 Tryz.f172
def Zxk := l2 (l2 Zz9)
def ZCv := l2 (l2 (l1 (l1 (l2 Zz9))))
def Zxg (m0 : Nat) : Kont := kret PP HH 172 Tryz.f172.results
def ZKy := kseq HH 172 m0 Zxk (exec PP HH 172 m0 EE LL Zxk (Zxg m0)) (Zxg m0)
def Zxh := kblk 0 (ZKy m0)
def Zxi := exec PP HH 172 m0 EE LL (l1 (l2 (l1 (l1 (l2 Zz9))))) (Zxh m0) [(0, x0)] B
def ZsB := exec PP HH 172 m0 EE LL ZCv (Zxh m0) [(0, x0)] B
def Zxj := exec PP HH 172 m0 EE LL (l1 (l2 ZCv)) (Zxh m0) [(0, x0)] B
def ZsC := exec PP HH 172 m0 EE LL Zxk (Zxg m0) [] B
theorem ZE2 : Zxi m0 x0 B =
 mk (ob (xbin PP .sub 3 (shr x0) (iv 48)) fun a =>
 Z1s (shr a) B) := by kernel_rfl
theorem ZE3 : ZsB m0 x0 B =
 mk (ob (xbin PP .geq 3 (shr x0) (iv 97)) fun a =>
 asB (shr a) fun b => br b (ob (xbin PP .leq 3 (shr x0) (iv 102)) fun c =>
 asB (shr (shr c)) fun d => br d (Zxj m0 x0 (gcB m0 [x0] B))
 (ZsC m0 (gcB m0 [] B)))
 (ZsC m0 (gcB m0 [] B))) := by kernel_rfl
theorem ZE4 : Zxj m0 x0 B =
 mk (ob (xbin PP .sub 3 (shr x0) (iv 97)) fun a =>
 ob (xbin PP .add 3 a (iv 10)) fun b =>
 Z1s (shr b) B) := by kernel_rfl
theorem ZE5 : ZsC m0 B =
 mk (Z1s (iv (-1)) B) := by kernel_rfl
theorem ZKx : EE 172 [x0] B =
 (let m0 := B.length
 mk (mk (ob (xbin PP .geq 3 (shr x0) (iv 48)) fun a =>
 asB (shr a) fun b => br b (ob (xbin PP .leq 3 (shr x0) (iv 57)) fun c =>
 asB (shr (shr c)) fun d => br d (Zxi m0 x0 (gcB m0 [x0] B))
 (ZsB m0 x0 (gcB m0 [x0] B)))
 (ZsB m0 x0 (gcB m0 [x0] B))))) := (E_eq PP XX HH _ _ _).trans (by kernel_rfl)
theorem ZKz : EE 173 [x0, x1] B =
 (let m0 := B.length
 mk (bx x1 B fun a b =>
 mk (callS false EE 184 [(shr x0), (.clo 185 ([].map nrmA) ([a].map nrmA))] b fun c d =>
 Z1s (shr c) d))) := (E_eq PP XX HH _ _ _).trans (by kernel_rfl)
noncomputable def ZG1 := Z39 Tryz.f179
def Zxq := l2 (l2 ZG1)
def ZsD := l1 (l1 (l2 (l1 (l2 ZG1))))
def ZCx := l2 (l2 ZsD)
def Zxl (m0 : Nat) : Kont := kret PP HH 179 Tryz.f179.results
def ZKB := kseq HH 179 m0 Zxq (exec PP HH 179 m0 EE LL Zxq (Zxl m0)) (Zxl m0)
def Zxm := kblk 0 (ZKB m0)
def ZCw := kloop HH 179 m0 ZsD (LL 179 m0 ZsD (Zxm m0)) (Zxm m0)
def ZnS := lp (LL 179 m0 ZsD (Zxm m0) [(0, x0), (1, x1), (7, x7), (8, x8)] B)
def Zxn := exec PP HH 179 m0 EE LL ZCx (ZCw m0) [(0, x0), (1, x1), (7, x7), (8, x8)] B
def Zxp := exec PP HH 179 m0 EE LL Zxq (Zxl m0) [] B
def Zxo := exec PP HH 179 m0 EE LL (l2 ZCx) (ZCw m0) [(0, x0), (1, x1), (7, x7), (8, x8)] B
theorem ZE6 : ZnS m0 x0 x1 x7 x8 B =
 mk (ob (xbin PP .lss 3 x8 x7) fun a =>
 asB a fun b => br b (Zxn m0 x0 x1 x7 x8 (gcB m0 [x0, x1, x7, x8] B))
 (Zxp m0 (gcB m0 [] B))) := lq_ (by kernel_rfl)
theorem ZE7 : Zxn m0 x0 x1 x7 x8 B =
 mk (mk (ob (xidx 2 (shr x0) (shr (shr (shr x8)))) fun a =>
 ob (ldN true 2 a B) fun b =>
 callV HH EE (shr x1) [b] B fun c d =>
 asB c fun e => br e (mk (Z1s (shr (shr (shr (shr x8)))) d))
 (Zxo m0 x0 x1 x7 x8 (gcB m0 [x0, x1, x7, x8] d)))) := by kernel_rfl
theorem ZE9 : Zxp m0 B =
 mk (Z1s (iv (-1)) B) := by kernel_rfl
theorem ZE8 : Zxo m0 x0 x1 x7 x8 B =
 mk (ob (xbin PP .add 3 x8 (iv 1)) fun a =>
 ZnS m0 x0 x1 x7 (shr a) (gcB m0 [x0, x1, x7, (shr a)] B)) := by kernel_rfl
theorem ZKA : EE 179 [x0, x1] B =
 (let m0 := B.length
 mk (mk (ob (xlen PP 94 (shr x0)) fun a =>
 ZnS m0 x0 x1 a (iv 0) (gcB m0 [x0, x1, a, (iv 0)] B)))) := (E_eq PP XX HH _ _ _).trans (by kernel_rfl)
theorem ZKC : EE 184 [x0, x1] B =
 (let m0 := B.length
 mk (mk (callS false EE 191 [(shr x0), (shr x1)] B fun a b =>
 ob (xbin PP .geq 3 a (iv 0)) fun c =>
 Z1s (shr c) b))) := (E_eq PP XX HH _ _ _).trans (by kernel_rfl)
theorem ZKD : EE 185 [x0, x1] B =
 (let m0 := B.length
 mk (bx x0 B fun a b =>
 mk (ob (xfld 0 a) fun c =>
 ob (ldN false 1 c b) fun d =>
 ob (ldN false 1 x1 b) fun e =>
 ob (xbin PP .leq 3 d e) fun f =>
 asB (shr f) fun g => br g (ob (ldN false 1 x1 b) fun h =>
 ob (xfld 1 a) fun i =>
 ob (ldN false 1 i b) fun j =>
 ob (xbin PP .leq 3 h j) fun k =>
 Z1s (shr (shr k)) b)
 (Z1s (bv false) b)))) := (E_eq PP XX HH _ _ _).trans (by kernel_rfl)
noncomputable def ZG2 := Z39 Tryz.f191
def Zxw := l2 (l2 ZG2)
def ZsE := l1 (l1 (l2 (l1 (l2 ZG2))))
def ZCz := l2 (l2 ZsE)
def Zxr (m0 : Nat) : Kont := kret PP HH 191 Tryz.f191.results
def ZKF := kseq HH 191 m0 Zxw (exec PP HH 191 m0 EE LL Zxw (Zxr m0)) (Zxr m0)
def Zxs := kblk 0 (ZKF m0)
def ZCy := kloop HH 191 m0 ZsE (LL 191 m0 ZsE (Zxs m0)) (Zxs m0)
def ZnT := lp (LL 191 m0 ZsE (Zxs m0) [(0, x0), (1, x1), (7, x7), (8, x8)] B)
def Zxt := exec PP HH 191 m0 EE LL ZCz (ZCy m0) [(0, x0), (1, x1), (7, x7), (8, x8)] B
def Zxv := exec PP HH 191 m0 EE LL Zxw (Zxr m0) [] B
def Zxu := exec PP HH 191 m0 EE LL (l2 ZCz) (ZCy m0) [(0, x0), (1, x1), (7, x7), (8, x8)] B
theorem ZEa : ZnT m0 x0 x1 x7 x8 B =
 mk (ob (xbin PP .lss 3 x8 x7) fun a =>
 asB a fun b => br b (Zxt m0 x0 x1 x7 x8 (gcB m0 [x0, x1, x7, x8] B))
 (Zxv m0 (gcB m0 [] B))) := lq_ (by kernel_rfl)
theorem ZEb : Zxt m0 x0 x1 x7 x8 B =
 mk (mk (ob (xidx 2 (shr x0) (shr (shr (shr x8)))) fun a =>
 ob (ldN true 2 a B) fun b =>
 callV HH EE (shr x1) [b] B fun c d =>
 asB c fun e => br e (mk (Z1s (shr (shr (shr (shr x8)))) d))
 (Zxu m0 x0 x1 x7 x8 (gcB m0 [x0, x1, x7, x8] d)))) := by kernel_rfl
theorem ZEd : Zxv m0 B =
 mk (Z1s (iv (-1)) B) := by kernel_rfl
theorem ZEc : Zxu m0 x0 x1 x7 x8 B =
 mk (ob (xbin PP .add 3 x8 (iv 1)) fun a =>
 ZnT m0 x0 x1 x7 (shr a) (gcB m0 [x0, x1, x7, (shr a)] B)) := by kernel_rfl
theorem ZKE : EE 191 [x0, x1] B =
 (let m0 := B.length
 mk (mk (ob (xlen PP 95 (shr x0)) fun a =>
 ZnT m0 x0 x1 a (iv 0) (gcB m0 [x0, x1, a, (iv 0)] B)))) := (E_eq PP XX HH _ _ _).trans (by kernel_rfl)
end Go.Proofs.YteoeggbihfnbfaaGreatDoor.N2
end
