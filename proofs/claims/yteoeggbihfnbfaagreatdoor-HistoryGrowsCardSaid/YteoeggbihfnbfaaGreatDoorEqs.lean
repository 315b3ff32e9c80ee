/- The functions' equations, by the evaluator. No condition. -/
import Derived.Test.YteoeggbihfnbfaaGreatDoorEvA
import Derived.Test.YteoeggbihfnbfaaGreatDoorProg
import Derived.KernelRfl
import Derived.Test.YteoeggbihfnbfaaGreatDoorEvD

set_option linter.unusedSimpArgs false
set_option linter.unusedVariables false
set_option linter.defProp false
section
namespace Go.Proofs.YteoeggbihfnbfaaGreatDoor.N2
open Go Go.Abs
def ZPX : FuncId → Nat → Option (List Nat) := fun f r => (([(9, [(4, []), (8, [3, 4, 31, 32, 33]), (18, []), (19, [3, 4, 12, 31, 32, 33]), (21, []), (14, [3, 4, 6, 7, 8, 10, 31, 32, 33]), (22, [3, 4, 31, 32, 33]), (9, [3, 4, 31, 32, 33]), (24, [3, 4, 129, 130, 131]), (28, []), (29, [3, 4, 129, 130, 131]), (25, [3, 4, 129, 130, 131]), (30, [3, 4]), (23, [3, 4]), (5, [0]), (3, [0])]),
 (16, [(4, [2, 11, 12, 13]), (10, [2, 11, 12, 13]), (5, [2, 11, 12, 13]), (11, [2]), (3, [1, 2])]),
 (19, [(3, [2, 3, 16, 17, 18]), (4, [2, 3, 16, 17, 18]), (7, [2, 3])]),
 (20, [(2, []), (5, [3, 16, 17, 18]), (8, []), (9, [5, 16, 17, 18]), (10, [3, 16, 17, 18]), (6, [3, 16, 17, 18]), (11, []), (3, [1])]),
 (21, [(4, [2, 3])]),
 (22, [(9, [4]), (14, [3, 4, 6, 7, 54, 55, 56]), (15, [3, 4, 6, 7, 54, 55, 56]), (19, [3, 4, 6, 7, 66, 67, 68]), (24, [3, 4, 6, 7, 11, 66, 67, 68]), (25, [3, 4, 6, 7, 66, 67, 68]), (20, [3, 4, 6, 7, 66, 67, 68]), (27, [4, 6, 7, 85, 86, 87]), (28, [4, 6, 7, 85, 86, 87]), (35, [4, 6, 7, 103, 104, 105]), (36, [4, 6, 7, 103, 104, 105]), (39, [4, 6]), (33, [4, 6, 7]), (31, [4, 6, 7]), (26, [3, 4, 6, 7]), (18, [3, 4, 6, 7]), (12, [2, 3, 4, 6]), (10, [2, 3, 4, 6]), (3, [2, 3, 4])]),
 (23, [(7, [4, 5, 6]), (4, [4, 5, 6])]),
 (26, [(2, []), (4, [2, 3, 5]), (5, [2, 3, 5]), (6, [2, 3, 5]), (8, []), (3, [2, 3])]),
 (30, [(2, [0, 7, 8, 9]), (5, []), (7, [0, 7, 8, 9, 27, 28, 29]), (11, [0, 7, 8, 9, 27, 28, 29]), (8, [0, 7, 8, 9, 27, 28, 29]), (6, [0, 4, 7, 8, 9]), (12, [0, 7, 8, 9]), (3, [0, 7, 8, 9]), (13, [0])]),
 (33, [(6, [4]), (7, [0, 3, 4]), (3, [0, 3, 4])]),
 (36, [(2, [4]), (3, [0, 1, 4])]),
 (47, [(7, [2, 3, 4, 5]), (9, [2, 3, 4, 5, 50, 51, 52]), (13, [2, 3, 4, 5, 50, 51, 52]), (10, [2, 3, 4, 5, 50, 51, 52]), (16, [2, 3, 4, 5]), (14, [2, 3, 4, 5]), (8, [2, 3, 4, 5]), (3, [0, 2, 3])]),
 (48, [(5, [])]),
 (61, [(4, [0, 4, 5])]),
 (68, [(2, []), (3, [0, 1])]),
 (69, [(2, [0, 2, 3]), (3, [0, 2, 3]), (4, [2, 3])]),
 (70, [(2, [0])]),
 (71, [(4, []), (2, [1]), (5, [1])]),
 (72, [(3, [1, 3, 8, 9, 10]), (4, [1, 3, 8, 9, 10]), (24, [1, 3]), (26, [3]), (7, [1, 3])]),
 (83, [(2, [0, 1, 7, 8]), (6, [0, 1, 7, 8]), (3, [0, 1, 7, 8]), (7, [])]),
 (84, [(2, [0, 1, 7, 8]), (6, [0, 1, 7, 8]), (3, [0, 1, 7, 8]), (7, [])]),
 (91, [(2, [0, 2, 3]), (7, [0, 2, 3]), (3, [0, 2, 3]), (9, [2, 3])]),
 (92, [(6, [0, 1, 4])]),
 (93, [(8, [2, 3, 23, 24, 25]), (9, [2, 3, 23, 24, 25]), (16, [2, 3, 45, 46, 47]), (21, [2, 45, 46, 47]), (22, [2, 3, 11, 45, 46, 47]), (23, [2, 3, 45, 46, 47]), (17, [2, 3, 45, 46, 47]), (30, [2, 3])]),
 (104, [(3, [0])]),
 (105, [(26, [2])]),
 (106, [(17, [6, 8]), (13, [0, 6, 8]), (11, [0, 2, 6, 7, 8])]),
 (107, [(2, []), (3, [0, 1])]),
 (108, [(4, []), (2, []), (3, [0, 1]), (5, [0, 1])]),
 (109, [(2, [0, 1, 7, 8]), (6, [0, 1, 7, 8]), (3, [0, 1, 7, 8]), (7, [])]),
 (126, [(2, []), (5, [0, 1]), (6, [6, 7]), (3, [0, 1])]),
 (128, [(4, [4, 5])]),
 (130, [(13, [0, 1, 4, 5]), (15, [0, 1, 4, 5]), (5, [0, 1, 4, 5])]),
 (131, [(5, [0, 1, 4, 5, 6, 7, 8]), (18, [4, 6]), (15, [0, 4, 5, 6]), (32, [0, 1, 4, 5, 6, 7, 8, 9]), (35, [0, 1, 4, 5, 6, 7, 8, 9, 11, 15]), (33, [0, 1, 4, 5, 6, 7, 8, 9, 11]), (36, [0, 1, 4, 5, 6, 7, 8, 11, 15]), (28, [0, 1, 4, 5, 6, 7, 8, 9, 11]), (22, [0, 1, 4, 5, 6, 7, 8, 9]), (6, [0, 1, 4, 5, 6, 7, 8]), (7, [0, 1, 4, 5, 6, 7, 8]), (38, [4])]),
 (132, [(19, [0, 1, 4, 7]), (23, [4, 7]), (20, [0, 4, 7]), (17, [0, 1, 4]), (4, [0, 1, 4])]),
 (133, [(7, [4]), (8, [0, 1, 4]), (6, [0, 1, 4]), (10, [0, 1, 4, 5]), (11, [4, 5]), (9, [0, 1, 4, 5])]),
 (134, [(3, [0])]),
 (147, [(3, [0])]),
 (148, [(3, [0])]),
 (149, [(11, [])]),
 (150, [(16, [1]), (17, [0, 2])]),
 (152, [(2, []), (3, [0, 1])]),
 (153, [(13, [0, 2, 5]), (9, [0, 2, 5]), (5, [0, 5])]),
 (154, [(2, [0, 1, 7, 8]), (6, [0, 1, 7, 8]), (3, [0, 1, 7, 8]), (7, [])]),
 (156, [(3, [0, 3, 4]), (5, [0, 3, 4]), (6, [3])]),
 (170, [(3, [3, 6, 7, 8]), (6, []), (7, [5, 6, 7, 8]), (8, [3, 6, 7, 8]), (4, [3, 6, 7, 8]), (9, [])]),
 (171, [(4, [3, 4, 7, 8, 9]), (8, [3, 6, 7, 8, 9]), (9, [3, 4, 7, 8, 9]), (5, [3, 4, 7, 8, 9]), (12, [3]), (10, [3, 4])]),
 (172, [(4, [0]), (2, [0]), (3, [0]), (5, [])]),
 (179, [(2, [0, 1, 7, 8]), (6, [0, 1, 7, 8]), (3, [0, 1, 7, 8]), (7, [])]),
 (191, [(2, [0, 1, 7, 8]), (6, [0, 1, 7, 8]), (3, [0, 1, 7, 8]), (7, [])])] : List (Nat × List (Nat × List Nat))).lookup f).bind (·.lookup r)
def ownT : FuncId → List Nat := fun f =>
 if f = 9 then [4, 101] else
 if f = 19 then [23] else
 if f = 22 then [110] else
 if f = 61 then [33] else
 if f = 69 then [3, 9] else
 if f = 91 then [3, 23] else
 if f = 130 then [44] else
 if f = 149 then [2] else
 if f = 153 then [3, 6, 29] else
 if f = 171 then [3, 17, 31] else
 []
def rawT : FuncId → Bool := fun f => if f = 149 then true else if f = 153 then true else if f = 178 then true else false
def ZPY : FuncId → List Nat := fun f => if f = 143 then [60] else []
def HH : Hints := ⟨ZPX, ownT, rawT, ZPY⟩
def XX : FuncId → Option (List AV → List Row → Option Res) := fun f => if f = 52 then some Zql else if f = 62 then some ZtJ else if f = 146 then some Zuy else if f = 169 then some Zqk else if f = 174 then some Zqj else none
noncomputable abbrev PP : Program := Tryz.prog
noncomputable abbrev EE : GF := E PP XX HH
noncomputable abbrev LL : LF := L PP XX HH
end Go.Proofs.YteoeggbihfnbfaaGreatDoor.N2
end
noncomputable section
namespace Go.Proofs.YteoeggbihfnbfaaGreatDoor.N2
open Go Go.Abs
set_option maxRecDepth 100000
variable (m0 : Nat) (x0 x1 x2 x3 x4 x5 x6 x7 x8 x9 x10 x11 x12 x13 x15 x16 x17 x18 x23 x24 x25 x27 x28 x29 x31 x32 x33 x45 x46 x47 x50 x51 x52 x54 x55 x56 x66 x67 x68 x85 x86 x87 x103 x104 x105 x129 x130 x131 : AV) (B : List Row)
theorem lq_ {f m0 : Nat} {c : Code} {K : Kont} {sl : Sl} {B : List Row} {r : Option Res} (h : exec PP HH f m0 EE LL c (kloop HH f m0 c (LL f m0 c K) K) sl B = r) : LL f m0 c K sl B = r := (L_eq PP XX HH f m0 c K sl B).trans h
noncomputable def ZQ6 := Z3b Tryz.f9
def ZqC := l2 (l2 ZQ6)
def ZqD := l2 (l2 (l2 (l2 ZqC)))
def ZAE := l1 (l1 (l2 (l1 (l2 (l2 (l2 ZqC))))))
def ZAG := l1 (l1 (l2 (l1 ZqD)))
def Zx7 := l2 (l2 ZAE)
def Zx8 := l2 (l2 ZAG)
def ZAF := l2 (l2 (l2 (l2 (l2 (l1 (l1 Zx7))))))
def ZGZ := l2 (l1 (l2 (l1 (l2 (l2 ZAF)))))
def Z1x (r0 : AV) (B : List Row) : Option Res :=
 ob (ob (some r0) fun v => ob (some []) fun vs => some (v :: vs)) fun vs => some ((nrmA (match vs with | [v] => v | vs => Z8r (vs.map shr))), B)
def ZkP (m0 : Nat) : Kont := kret PP HH 9 Tryz.f9.results
def ZPT := kseq HH 9 m0 (l2 ZqC) (exec PP HH 9 m0 EE LL (l2 ZqC) (ZkP m0)) (ZkP m0)
def ZPU := kseq HH 9 m0 ZqD (exec PP HH 9 m0 EE LL ZqD (ZkP m0)) (ZkP m0)
def ZGU := kblk 0 (ZPU m0)
def ZAB := kloop HH 9 m0 ZAE (LL 9 m0 ZAE (ZGU m0)) (ZGU m0)
def ZPV := kseq HH 9 m0 (l2 Zx7) (exec PP HH 9 m0 EE LL (l2 Zx7) (ZAB m0)) (ZAB m0)
def ZLK := kblk 1 (ZPV m0)
def ZPW := kseq HH 9 m0 (l2 ZqD) (exec PP HH 9 m0 EE LL (l2 ZqD) (ZkP m0)) (ZkP m0)
def ZGV := kblk 3 (ZPW m0)
def ZAC := kblk 2 (ZLK m0)
def ZPr := kseq HH 9 m0 ZGZ (exec PP HH 9 m0 EE LL ZGZ (ZAC m0)) (ZAC m0)
def Zx5 := kloop HH 9 m0 ZAG (LL 9 m0 ZAG (ZGV m0)) (ZGV m0)
def ZPs := kseq HH 9 m0 (l2 Zx8) (exec PP HH 9 m0 EE LL (l2 Zx8) (Zx5 m0)) (Zx5 m0)
def ZPt := kblk 4 (ZPs m0)
def ZGW := exec PP HH 9 m0 EE LL ZqC (ZkP m0) [(0, x0)] B
def ZAD := exec PP HH 9 m0 EE LL (l1 (l2 (l1 ZqC))) (ZPT m0) [] B
def ZGX := exec PP HH 9 m0 EE LL (l2 ZqC) (ZkP m0) [(0, x0)] B
def Zx6 := lp (LL 9 m0 ZAE (ZGU m0) [(3, x3), (4, x4), (31, x31), (32, x32), (33, x33)] B)
def ZGY := exec PP HH 9 m0 EE LL Zx7 (ZAB m0) [(3, x3), (4, x4), (31, x31), (32, x32), (33, x33)] B
def ZCi := exec PP HH 9 m0 EE LL ZqD (ZkP m0) [(3, x3), (4, x4)] B
def Zpw := exec PP HH 9 m0 EE LL (l2 Zx7) (ZAB m0) [(3, x3), (4, x4), (31, x31), (32, x32), (33, x33)] B
def ZCg := exec PP HH 9 m0 EE LL ZAF (ZLK m0) [(3, x3), (4, x4), (6, x6), (7, x7), (8, x8), (10, x10), (31, x31), (32, x32), (33, x33)] B
def ZsU := lp (LL 9 m0 ZAG (ZGV m0) [(3, x3), (4, x4), (129, x129), (130, x130), (131, x131)] B)
def ZmW := exec PP HH 9 m0 EE LL (l1 (l2 (l1 (l1 (l2 (l1 (l2 (l2 ZAF)))))))) (ZPr m0) [] B
def ZCh := exec PP HH 9 m0 EE LL ZGZ (ZAC m0) [(3, x3), (4, x4), (12, x12), (31, x31), (32, x32), (33, x33)] B
def ZsV := exec PP HH 9 m0 EE LL (l1 (l2 (l2 (l2 (l1 (l2 (l2 ZAF))))))) (ZAC m0) [] B
def ZCj := exec PP HH 9 m0 EE LL Zx8 (Zx5 m0) [(3, x3), (4, x4), (129, x129), (130, x130), (131, x131)] B
def ZCl := exec PP HH 9 m0 EE LL (l2 ZqD) (ZkP m0) [(3, x3), (4, x4)] B
def ZsW := exec PP HH 9 m0 EE LL (l1 (l2 (l2 (l2 (l1 (l1 Zx8)))))) (ZPt m0) [] B
def ZCk := exec PP HH 9 m0 EE LL (l2 Zx8) (Zx5 m0) [(3, x3), (4, x4), (129, x129), (130, x130), (131, x131)] B
theorem ZKA : ZGW m0 x0 B =
 mk (callS false EE 30 [(shr x0)] B fun a b =>
 ob (xun PP .not a) fun c =>
 asB (shr c) fun d => br d (ZAD m0 (gcB m0 [] b))
 (ob (xlen PP 59 (shr x0)) fun e =>
 ob (xbin PP .gtr 3 e (iv 16)) fun f =>
 asB (shr f) fun g => br g (ZAD m0 (gcB m0 [] b))
 (ZGX m0 x0 (gcB m0 [x0] b)))) := by kernel_rfl
theorem ZKB : ZAD m0 B =
 mk (Z1x (bv true) B) := by kernel_rfl
theorem ZKC : ZGX m0 x0 B =
 mk (callS false EE 32 [] B fun a b =>
 mk (mk (ob (xlen PP 59 (shr x0)) fun c =>
 Zx6 m0 (shr a) nilA (shr x0) c (iv 0) (gcB m0 [(shr a), nilA, (shr x0), c, (iv 0)] b)))) := by kernel_rfl
theorem ZKz : Zx6 m0 x3 x4 x31 x32 x33 B =
 mk (ob (xbin PP .lss 3 x33 x32) fun a =>
 asB a fun b => br b (ZGY m0 x3 x4 x31 x32 x33 (gcB m0 [x3, x4, x31, x32, x33] B))
 (ZCi m0 x3 x4 (gcB m0 [x3, x4] B))) := lq_ (by kernel_rfl)
theorem ZKD : ZGY m0 x3 x4 x31 x32 x33 B =
 mk (ob (xidx 9 x31 x33) fun a =>
 ob (ldN true 9 a B) fun b =>
 bz PP 61 B fun c d =>
 stN 9 c b d fun e =>
 mk (callS false EE 35 [(shr x3)] e fun f g =>
 mk (callS false EE 36 [(shr x3), (shr (shr f))] g fun h i =>
 ob (xext 0 (shr h)) fun j =>
 ob (xext 1 (shr h)) fun k =>
 bz PP 24 i fun l n =>
 stN 5 l (shr j) n fun o =>
 mk (ob (ldN true 9 c o) fun p =>
 callS false EE 33 [(shr x3), p] o fun q r =>
 ob (xext 0 (shr q)) fun s =>
 ob (xext 1 (shr q)) fun t =>
 bz PP 66 r fun u v =>
 stN 4 u (shr s) v fun w =>
 mk (ob (xbin PP .neq 30 (shr (shr (shr t))) (iv 0)) fun x =>
 asB x fun y => br y (Zpw m0 x3 x4 x31 x32 x33 (gcB m0 [x3, x4, x31, x32, x33] w))
 (ZCg m0 x3 x4 c (shr f) l u x31 x32 x33 (gcB m0 [x3, x4, c, (shr f), l, u, x31, x32, x33] w))))))) := by kernel_rfl
theorem ZJt : ZCi m0 x3 x4 B =
 mk (ob (xlen PP 72 (shr x4)) fun a =>
 ZsU m0 x3 x4 (shr x4) a (iv 0) (gcB m0 [x3, x4, (shr x4), a, (iv 0)] B)) := by kernel_rfl
theorem ZJs : Zpw m0 x3 x4 x31 x32 x33 B =
 mk (ob (xbin PP .add 3 x33 (iv 1)) fun a =>
 Zx6 m0 x3 x4 x31 x32 (shr a) (gcB m0 [x3, x4, x31, x32, (shr a)] B)) := by kernel_rfl
theorem ZJo : ZCg m0 x3 x4 x6 x7 x8 x10 x31 x32 x33 B =
 mk (callS false EE 35 [(shr x3)] B fun a b =>
 callS false EE 36 [(shr x3), a] b fun c d =>
 ob (xext 0 (shr c)) fun e =>
 ob (xext 1 (shr c)) fun f =>
 bz PP 24 d fun g h =>
 stN 5 g (shr e) h fun i =>
 mk (ob (ldN true 5 x8 i) fun j =>
 ob (xfld 3 x6) fun k =>
 ob (ldN true 6 k i) fun l =>
 callS false EE 23 [j, l] i fun n o =>
 ob (xext 0 (shr n)) fun p =>
 ob (xext 1 (shr n)) fun q =>
 bz PP 24 o fun r s =>
 bz PP 32 s fun t u =>
 stN 5 r (shr p) u fun v =>
 stN 3 t (shr q) v fun w =>
 mk (ob (xfld 1 x10) fun x =>
 ob (xfld 0 x) fun y =>
 ob (ldN false 1 y w) fun z =>
 ob (xbin PP .eql 30 z (iv 0)) fun A =>
 asB (shr A) fun C => br C (mk (ob (xfld 0 x10) fun D =>
 ob (ldN false 1 D w) fun F =>
 ob (xbin PP .add 3 (shr x7) (iv 1)) fun G =>
 ob (xbin PP .neq 3 F G) fun I =>
 asB (shr I) fun J => br J (grd (Zb0 [ud, ud]) (ZmW m0 (gcB m0 [] w)))
 (callS false EE 35 [(shr x3)] w fun M N =>
 ob (xbin PP .add 3 (shr x7) (iv 1)) fun O =>
 ob (xbin PP .neq 3 M O) fun Q =>
 asB (shr (shr Q)) fun R => br R (grd (Zb0 [ud, ud]) (ZmW m0 (gcB m0 [] N)))
 (ob (xun PP .not (shr (shr (shr f)))) fun S =>
 asB (shr (shr S)) fun T => br T (grd (Zb0 [ud, ud]) (ZmW m0 (gcB m0 [] N)))
 (ob (xfld 0 t) fun U =>
 ob (ldN false 1 U N) fun V =>
 ob (xbin PP .neq 30 V (iv 0)) fun W =>
 asB (shr (shr W)) fun Y => br Y (grd (Zb0 [ud, ud]) (ZmW m0 (gcB m0 [] N)))
 (ob (ldN true 5 r N) fun Z =>
 callS false EE 19 [Z] N fun a0 a1 =>
 ob (ldN true 5 g a1) fun a2 =>
 callS false EE 19 [a2] a1 fun a3 a4 =>
 callS false EE 26 [a0, a3] a4 fun a5 a6 =>
 ob (xun PP .not a5) fun a7 =>
 grd (Zb0 [a0, Z]) (asB (shr a7) fun a8 => br a8 (ZmW m0 (gcB m0 [] a6))
 (ZCh m0 x3 x4 g x31 x32 x33 (gcB m0 [x3, x4, g, x31, x32, x33] a6)))))))))
 (mk (callS false EE 35 [(shr x3)] w fun a9 a10 =>
 ob (xbin PP .neq 3 a9 (shr x7)) fun a11 =>
 asB (shr a11) fun a12 => br a12 (ZsV m0 (gcB m0 [] a10))
 (ob (xfld 0 x10) fun a13 =>
 ob (ldN false 1 a13 a10) fun a14 =>
 ob (xbin PP .neq 3 a14 (iv 0)) fun a15 =>
 asB (shr (shr a15)) fun a16 => br a16 (ZsV m0 (gcB m0 [] a10))
 (ob (xfld 1 x10) fun a17 =>
 ob (xfld 0 a17) fun a18 =>
 ob (ldN false 1 a18 a10) fun a19 =>
 ob (xbin PP .neq 30 a19 (iv 31)) fun a20 =>
 asB (shr a20) fun a21 => br a21 (ob (xfld 1 x10) fun a22 =>
 ob (ldN true 3 a22 a10) fun a23 =>
 ob (ldN true 3 t a10) fun a24 =>
 ob (xbin PP .neq 32 a23 a24) fun a25 =>
 asB (shr (shr (shr a25))) fun a26 => br a26 (ZsV m0 (gcB m0 [] a10))
 (Zpw m0 x3 x4 x31 x32 x33 (gcB m0 [x3, x4, x31, x32, x33] a10)))
 (Zpw m0 x3 x4 x31 x32 x33 (gcB m0 [x3, x4, x31, x32, x33] a10))))))))) := by kernel_rfl
theorem ZJn : ZsU m0 x3 x4 x129 x130 x131 B =
 mk (ob (xbin PP .lss 3 x131 x130) fun a =>
 asB a fun b => br b (ZCj m0 x3 x4 x129 x130 x131 (gcB m0 [x3, x4, x129, x130, x131] B))
 (ZCl m0 x3 x4 (gcB m0 [x3, x4] B))) := lq_ (by kernel_rfl)
theorem ZJp : ZmW m0 B =
 mk (Z1x (bv false) B) := by kernel_rfl
theorem ZJq : ZCh m0 x3 x4 x12 x31 x32 x33 B =
 mk (ob (ldN true 5 x12 B) fun a =>
 callS false EE 19 [a] B fun b c =>
 ob (xlit PP 72 1 [(0, b)]) fun d =>
 ob (xapp 5 x4 d) fun e =>
 Zpw m0 x3 e x31 x32 x33 (gcB m0 [x3, e, x31, x32, x33] c)) := by kernel_rfl
theorem ZJr : ZsV m0 B =
 mk (Z1x (bv false) B) := by kernel_rfl
theorem ZJu : ZCj m0 x3 x4 x129 x130 x131 B =
 mk (ob (xidx 5 x129 x131) fun a =>
 ob (ldN true 5 a B) fun b =>
 bz PP 40 B fun c d =>
 stN 5 c b d fun e =>
 mk (ob (xbin PP .add 3 (shr (shr (shr x131))) (iv 1)) fun f =>
 callS false EE 36 [(shr x3), f] e fun g h =>
 ob (xext 0 (shr g)) fun i =>
 ob (xext 1 (shr g)) fun j =>
 bz PP 24 h fun k l =>
 stN 5 k (shr i) l fun n =>
 mk (ob (xun PP .not (shr (shr (shr j)))) fun o =>
 asB (shr o) fun p => br p (grd (Zb0 [ud, ud]) (ZsW m0 (gcB m0 [] n)))
 (ob (ldN true 5 k n) fun q =>
 callS false EE 19 [q] n fun r s =>
 ob (ldN true 5 c s) fun t =>
 callS false EE 26 [r, t] s fun u v =>
 ob (xun PP .not u) fun w =>
 asB (shr (shr w)) fun x => br x (grd (Zb0 [r, q]) (ZsW m0 (gcB m0 [] v)))
 (ob (ldN true 5 k v) fun y =>
 callS false EE 16 [y] v fun z A =>
 ob (ZrW false 0 1 z) fun C =>
 ob (xbin PP .neq 30 C (iv 0)) fun D =>
 grd (Zb0 [r, q]) (asB (shr D) fun F => br F (ZsW m0 (gcB m0 [] A))
 (ZCk m0 x3 x4 x129 x130 x131 (gcB m0 [x3, x4, x129, x130, x131] A)))))))) := by kernel_rfl
theorem ZJx : ZCl m0 x3 x4 B =
 mk (ob (xlen PP 72 (shr x4)) fun a =>
 callS false EE 35 [(shr x3)] B fun b c =>
 ob (xbin PP .eql 3 a b) fun d =>
 Z1x (shr d) c) := by kernel_rfl
theorem ZJv : ZsW m0 B =
 mk (Z1x (bv false) B) := by kernel_rfl
theorem ZJw : ZCk m0 x3 x4 x129 x130 x131 B =
 mk (ob (xbin PP .add 3 x131 (iv 1)) fun a =>
 ZsU m0 x3 x4 x129 x130 (shr a) (gcB m0 [x3, x4, x129, x130, (shr a)] B)) := by kernel_rfl
theorem ZPS : EE 9 [x0] B =
 (let m0 := B.length
 mk (mk (callS false EE 29 [] B fun a b =>
 ob (xun PP .not a) fun c =>
 asB c fun d => br d (mk (Z1x (bv false) b))
 (ZGW m0 x0 (gcB m0 [x0] b))))) := (E_eq PP XX HH _ _ _).trans (by kernel_rfl)
noncomputable def ZPI := Z3b Tryz.f16
def Zsv := l2 (l2 ZPI)
def Zwv := l1 (l1 (l2 (l1 Zsv)))
def ZI6 := l2 (l2 Zwv)
def Zpd (r0 : AV) (B : List Row) : Option Res :=
 ob (ob (ldN true 3 r0 B) fun v => ob (some []) fun vs => some (v :: vs)) fun vs => some ((nrmA (match vs with | [v] => v | vs => Z8r (vs.map shr))), B)
def Zwu (m0 : Nat) : Kont := kret PP HH 16 Tryz.f16.results
def ZO9 := kseq HH 16 m0 (l2 Zsv) (exec PP HH 16 m0 EE LL (l2 Zsv) (Zwu m0)) (Zwu m0)
def ZAX := kblk 0 (ZO9 m0)
def ZI2 := kloop HH 16 m0 Zwv (LL 16 m0 Zwv (ZAX m0)) (ZAX m0)
def ZAY := exec PP HH 16 m0 EE LL Zsv (Zwu m0) [(1, x1), (2, x2)] B
def Zsu := lp (LL 16 m0 Zwv (ZAX m0) [(2, x2), (11, x11), (12, x12), (13, x13)] B)
def ZAZ := exec PP HH 16 m0 EE LL ZI6 (ZI2 m0) [(2, x2), (11, x11), (12, x12), (13, x13)] B
def ZyO := exec PP HH 16 m0 EE LL (l2 Zsv) (Zwu m0) [(2, x2)] B
def ZyN := exec PP HH 16 m0 EE LL (l2 ZI6) (ZI2 m0) [(2, x2), (11, x11), (12, x12), (13, x13)] B
theorem ZI4 : ZAY m0 x1 x2 B =
 mk (ob (xfld 4 x1) fun a =>
 ob (ldN false 1 a B) fun b =>
 ob (xlen PP 22 b) fun c =>
 Zsu m0 x2 b c (iv 0) (gcB m0 [x2, b, c, (iv 0)] B)) := by kernel_rfl
theorem ZI3 : Zsu m0 x2 x11 x12 x13 B =
 mk (ob (xbin PP .lss 3 x13 x12) fun a =>
 asB a fun b => br b (ZAZ m0 x2 x11 x12 x13 (gcB m0 [x2, x11, x12, x13] B))
 (ZyO m0 x2 (gcB m0 [x2] B))) := lq_ (by kernel_rfl)
theorem ZI5 : ZAZ m0 x2 x11 x12 x13 B =
 mk (ob (xidx 5 x11 x13) fun a =>
 ob (ldN true 5 a B) fun b =>
 bz PP 43 B fun c d =>
 stN 5 c b d fun e =>
 mk (ob (xfld 4 c) fun f =>
 ob (ldN false 1 f e) fun g =>
 callS false EE 21 [g] e fun h i =>
 bz PP 32 i fun j k =>
 stN 3 j h k fun l =>
 mk (ob (xfld 0 j) fun n =>
 ob (ldN false 1 n l) fun o =>
 ob (xbin PP .neq 30 o (iv 0)) fun p =>
 asB p fun q => br q (mk (ob (xfld 0 c) fun r =>
 ob (ldN false 1 r l) fun s =>
 ob (xfld 1 j) fun t =>
 stN 1 t s l fun u =>
 mk (ob (ldN true 3 j u) fun v =>
 stN 3 x2 v u fun w =>
 Zpd x2 w)))
 (ZyN m0 x2 x11 x12 x13 (gcB m0 [x2, x11, x12, x13] l))))) := by kernel_rfl
theorem ZFY : ZyO m0 x2 B =
 mk (ob (Z21 PP 32 []) fun a =>
 stN 3 x2 a B fun b =>
 Zpd x2 b) := by kernel_rfl
theorem ZFX : ZyN m0 x2 x11 x12 x13 B =
 mk (ob (xbin PP .add 3 x13 (iv 1)) fun a =>
 Zsu m0 x2 x11 x12 (shr a) (gcB m0 [x2, x11, x12, (shr a)] B)) := by kernel_rfl
theorem ZO8 : EE 16 [x0] B =
 (let m0 := B.length
 mk (bx x0 B fun a b =>
 bz PP 32 b fun c d =>
 mk (ob (ldN true 5 a d) fun e =>
 callS false EE 20 [e] d fun f g =>
 ob (xun PP .not f) fun h =>
 asB h fun i => br i (mk (ob (Z21 PP 32 [(0, (iv 10))]) fun j =>
 stN 3 c j g fun k =>
 Zpd c k))
 (ZAY m0 a c (gcB m0 [a, c] g))))) := (E_eq PP XX HH _ _ _).trans (by kernel_rfl)
noncomputable def ZLy := Z3b Tryz.f19
def ZB5 := l2 (l2 (l2 ZLy))
def Zww := l1 (l1 (l2 (l1 (l2 (l2 ZLy)))))
def ZEG (r0 : AV) (B : List Row) : Option Res :=
 ob (ob (ldN true 5 r0 B) fun v => ob (some []) fun vs => some (v :: vs)) fun vs => some ((nrmA (match vs with | [v] => v | vs => Z8r (vs.map shr))), B)
def ZB1 (m0 : Nat) : Kont := kret PP HH 19 Tryz.f19.results
def ZOb := kseq HH 19 m0 ZB5 (exec PP HH 19 m0 EE LL ZB5 (ZB1 m0)) (ZB1 m0)
def ZB2 := kblk 0 (ZOb m0)
def ZOc := kloop HH 19 m0 Zww (LL 19 m0 Zww (ZB2 m0)) (ZB2 m0)
def Zsw := lp (LL 19 m0 Zww (ZB2 m0) [(2, x2), (3, x3), (16, x16), (17, x17), (18, x18)] B)
def ZB3 := exec PP HH 19 m0 EE LL (l2 (l2 Zww)) (ZOc m0) [(2, x2), (3, x3), (16, x16), (17, x17), (18, x18)] B
def ZB4 := exec PP HH 19 m0 EE LL ZB5 (ZB1 m0) [(2, x2), (3, x3)] B
theorem ZIb : Zsw m0 x2 x3 x16 x17 x18 B =
 mk (ob (xbin PP .lss 3 x18 x17) fun a =>
 asB a fun b => br b (ZB3 m0 x2 x3 x16 x17 x18 (gcB m0 [x2, x3, x16, x17, x18] B))
 (ZB4 m0 x2 x3 (gcB m0 [x2, x3] B))) := lq_ (by kernel_rfl)
theorem ZIc : ZB3 m0 x2 x3 x16 x17 x18 B =
 mk (ob (xidx 5 x16 x18) fun a =>
 ob (ldN true 5 a B) fun b =>
 bz PP 43 B fun c d =>
 stN 5 c b d fun e =>
 mk (ob (xfld 4 x3) fun f =>
 ldOwn f e fun g h =>
 ob (ldN true 5 c h) fun i =>
 ob (xlit PP 38 1 [(0, i)]) fun j =>
 ob (xapp 5 g j) fun k =>
 ob (xfld 4 x3) fun l =>
 stN 1 l k h fun n =>
 mk (ob (xbin PP .add 3 x18 (iv 1)) fun o =>
 Zsw m0 x2 x3 x16 x17 (shr o) (gcB m0 [x2, x3, x16, x17, (shr o)] n)))) := by kernel_rfl
theorem ZId : ZB4 m0 x2 x3 B =
 mk (ob (ldN true 5 x3 B) fun a =>
 stN 5 x2 a B fun b =>
 ZEG x2 b) := by kernel_rfl
theorem ZOa : EE 19 [x0] B =
 (let m0 := B.length
 mk (bx x0 B fun a b =>
 bz PP 40 b fun c d =>
 mk (ob (xfld 0 a) fun e =>
 ob (ldN false 1 e d) fun f =>
 ob (xfld 1 a) fun g =>
 ob (ldN false 1 g d) fun h =>
 ob (xfld 2 a) fun i =>
 ob (ldN false 1 i d) fun j =>
 ob (xfld 3 a) fun k =>
 ob (ldN false 1 k d) fun l =>
 ob (Z21 PP 40 [(0, f), (1, h), (2, j), (3, l)]) fun n =>
 bz PP 40 d fun o p =>
 stN 5 o n p fun q =>
 mk (ob (xfld 4 a) fun r =>
 ob (ldN false 1 r q) fun s =>
 ob (xlen PP 22 s) fun t =>
 Zsw m0 c o s t (iv 0) (gcB m0 [c, o, s, t, (iv 0)] q))))) := (E_eq PP XX HH _ _ _).trans (by kernel_rfl)
noncomputable def ZLz := Z3b Tryz.f20
def Zsy := l2 (l2 ZLz)
def ZBc := l2 (l2 Zsy)
def ZwA := l1 (l1 (l2 (l1 (l2 Zsy))))
def Zpk := l2 (l2 ZwA)
def ZBb := l2 (l2 (l1 (l1 Zpk)))
def Zpj (m0 : Nat) : Kont := kret PP HH 20 Tryz.f20.results
def ZOe := kseq HH 20 m0 Zsy (exec PP HH 20 m0 EE LL Zsy (Zpj m0)) (Zpj m0)
def ZOf := kseq HH 20 m0 ZBc (exec PP HH 20 m0 EE LL ZBc (Zpj m0)) (Zpj m0)
def ZB6 := kblk 0 (ZOf m0)
def Zwx := kloop HH 20 m0 ZwA (LL 20 m0 ZwA (ZB6 m0)) (ZB6 m0)
def ZOg := kseq HH 20 m0 (l2 Zpk) (exec PP HH 20 m0 EE LL (l2 Zpk) (Zwx m0)) (Zwx m0)
def ZB7 := kblk 1 (ZOg m0)
def ZOh := kseq HH 20 m0 ZBb (exec PP HH 20 m0 EE LL ZBb (ZB7 m0)) (ZB7 m0)
def Zwy := exec PP HH 20 m0 EE LL (l1 (l2 (l1 (l2 ZLz)))) (ZOe m0) [] B
def ZB8 := exec PP HH 20 m0 EE LL Zsy (Zpj m0) [(1, x1)] B
def Zsx := lp (LL 20 m0 ZwA (ZB6 m0) [(3, x3), (16, x16), (17, x17), (18, x18)] B)
def ZB9 := exec PP HH 20 m0 EE LL Zpk (Zwx m0) [(3, x3), (16, x16), (17, x17), (18, x18)] B
def Zzj := exec PP HH 20 m0 EE LL ZBc (Zpj m0) [] B
def Zwz := exec PP HH 20 m0 EE LL (l1 (l2 (l1 (l2 (l1 (l1 Zpk)))))) (ZOh m0) [] B
def ZBa := exec PP HH 20 m0 EE LL ZBb (ZB7 m0) [(5, x5), (16, x16), (17, x17), (18, x18)] B
def Zzi := exec PP HH 20 m0 EE LL (l2 Zpk) (Zwx m0) [(3, x3), (16, x16), (17, x17), (18, x18)] B
theorem ZIf : Zwy m0 B =
 mk (Z1x (bv false) B) := by kernel_rfl
theorem ZIg : ZB8 m0 x1 B =
 mk (mk (ob (xfld 4 x1) fun a =>
 ob (ldN false 1 a B) fun b =>
 ob (xlen PP 22 b) fun c =>
 Zsx m0 (iv 0) b c (iv 0) (gcB m0 [(iv 0), b, c, (iv 0)] B))) := by kernel_rfl
theorem ZIe : Zsx m0 x3 x16 x17 x18 B =
 mk (ob (xbin PP .lss 3 x18 x17) fun a =>
 asB a fun b => br b (ZB9 m0 x3 x16 x17 x18 (gcB m0 [x3, x16, x17, x18] B))
 (Zzj m0 (gcB m0 [] B))) := lq_ (by kernel_rfl)
theorem ZIh : ZB9 m0 x3 x16 x17 x18 B =
 mk (ob (xidx 5 x16 x18) fun a =>
 ob (ldN true 5 a B) fun b =>
 bz PP 43 B fun c d =>
 stN 5 c b d fun e =>
 mk (ob (ldN true 5 c e) fun f =>
 callS false EE 27 [f] e fun g h =>
 ob (xun PP .not g) fun i =>
 asB (shr i) fun j => br j (Zwz m0 (gcB m0 [] h))
 (ob (xfld 0 c) fun k =>
 ob (ldN false 1 k h) fun l =>
 ob (xbin PP .leq 3 l (shr x3)) fun n =>
 asB (shr n) fun o => br o (Zwz m0 (gcB m0 [] h))
 (ZBa m0 c x16 x17 x18 (gcB m0 [c, x16, x17, x18] h))))) := by kernel_rfl
theorem ZGm : Zzj m0 B =
 mk (Z1x (bv true) B) := by kernel_rfl
theorem ZIi : Zwz m0 B =
 mk (Z1x (bv false) B) := by kernel_rfl
theorem ZIj : ZBa m0 x5 x16 x17 x18 B =
 mk (ob (xfld 0 x5) fun a =>
 ob (ldN false 1 a B) fun b =>
 Zzi m0 (shr b) x16 x17 x18 (gcB m0 [(shr b), x16, x17, x18] B)) := by kernel_rfl
theorem ZGl : Zzi m0 x3 x16 x17 x18 B =
 mk (ob (xbin PP .add 3 x18 (iv 1)) fun a =>
 Zsx m0 x3 x16 x17 (shr a) (gcB m0 [x3, x16, x17, (shr a)] B)) := by kernel_rfl
theorem ZOd : EE 20 [x0] B =
 (let m0 := B.length
 mk (bx x0 B fun a b =>
 mk (ob (ldN true 5 a b) fun c =>
 callS false EE 46 [c] b fun d e =>
 ob (xun PP .not d) fun f =>
 asB (shr f) fun g => br g (Zwy m0 (gcB m0 [] e))
 (ob (xfld 4 a) fun h =>
 ob (ldN false 1 h e) fun i =>
 ob (xlen PP 22 i) fun j =>
 ob (xbin PP .gtr 3 j (iv 16)) fun k =>
 asB (shr k) fun l => br l (Zwy m0 (gcB m0 [] e))
 (ZB8 m0 a (gcB m0 [a] e)))))) := (E_eq PP XX HH _ _ _).trans (by kernel_rfl)
noncomputable def ZPJ := Z3b Tryz.f21
def ZOj (m0 : Nat) : Kont := kret PP HH 21 Tryz.f21.results
def ZBd := exec PP HH 21 m0 EE LL (l2 (l2 (l2 ZPJ))) (ZOj m0) [(2, x2), (3, x3)] B
theorem ZIk : ZBd m0 x2 x3 B =
 mk (ob (ldN true 9 x3 B) fun a =>
 callS false EE 48 [a] B fun b c =>
 ob (Z21 PP 32 [(0, b)]) fun d =>
 stN 3 x2 d c fun e =>
 Zpd x2 e) := by kernel_rfl
theorem ZOi : EE 21 [x0] B =
 (let m0 := B.length
 mk (bz PP 32 B fun a b =>
 mk (callS false EE 47 [(shr x0)] b fun c d =>
 ob (xext 0 (shr c)) fun e =>
 ob (xext 1 (shr c)) fun f =>
 bz PP 100 d fun g h =>
 bz PP 102 h fun i j =>
 stN 9 g (shr e) j fun k =>
 stN 2 i (shr f) k fun l =>
 mk (ob (xfld 0 i) fun n =>
 ob (ldN false 1 n l) fun o =>
 ob (xbin PP .neq 30 o (iv 0)) fun p =>
 asB p fun q => br q (mk (ob (xfld 0 i) fun r =>
 ob (ldN false 1 r l) fun s =>
 ob (xfld 1 i) fun t =>
 ob (ldN false 1 t l) fun u =>
 ob (Z21 PP 32 [(0, s), (2, u)]) fun v =>
 stN 3 a v l fun w =>
 Zpd a w))
 (ZBd m0 a g (gcB m0 [a, g] l)))))) := (E_eq PP XX HH _ _ _).trans (by kernel_rfl)
noncomputable def ZPK := Z3b Tryz.f22
def ZBh := l2 (l2 ZPK)
def Zpp := l2 (l2 (l2 (l2 (l2 (l2 ZBh)))))
def ZcF := l2 (l2 (l2 Zpp))
def ZwD := l1 (l1 (l2 (l1 (l2 (l2 Zpp)))))
def ZwE := l1 (l1 (l2 (l1 ZcF)))
def ZBi := l2 (l2 (l2 (l2 (l2 ZcF))))
def ZwF := l1 (l1 (l2 (l1 (l2 ZcF))))
def Zsz := l2 (l2 ZwE)
def ZwG := l1 (l1 (l2 (l1 (l2 (l2 (l2 (l2 ZcF)))))))
def Zik (r0 r1 : AV) (B : List Row) : Option Res :=
 ob (ob (ldN true 5 r0 B) fun v => ob (ob (some r1) fun v => ob (some []) fun vs => some (v :: vs)) fun vs => some (v :: vs)) fun vs => some ((nrmA (match vs with | [v] => v | vs => Z8r (vs.map shr))), B)
def Z9L (m0 : Nat) : Kont := kret PP HH 22 Tryz.f22.results
def ZOl := kseq HH 22 m0 Zpp (exec PP HH 22 m0 EE LL Zpp (Z9L m0)) (Z9L m0)
def ZOm := kseq HH 22 m0 ZcF (exec PP HH 22 m0 EE LL ZcF (Z9L m0)) (Z9L m0)
def ZBe := kblk 0 (ZOm m0)
def ZOn := kloop HH 22 m0 ZwD (LL 22 m0 ZwD (ZBe m0)) (ZBe m0)
def ZOo := kseq HH 22 m0 (l2 ZcF) (exec PP HH 22 m0 EE LL (l2 ZcF) (Z9L m0)) (Z9L m0)
def ZBf := kblk 2 (ZOo m0)
def ZwB := kloop HH 22 m0 ZwE (LL 22 m0 ZwE (ZBf m0)) (ZBf m0)
def ZOp := kseq HH 22 m0 (l2 Zsz) (exec PP HH 22 m0 EE LL (l2 Zsz) (ZwB m0)) (ZwB m0)
def ZOq := kblk 3 (ZOp m0)
def ZN8 := kseq HH 22 m0 (l2 (l2 ZcF)) (exec PP HH 22 m0 EE LL (l2 (l2 ZcF)) (Z9L m0)) (Z9L m0)
def Zzk := kblk 4 (ZN8 m0)
def ZN9 := kloop HH 22 m0 ZwF (LL 22 m0 ZwF (Zzk m0)) (Zzk m0)
def ZNa := kseq HH 22 m0 ZBi (exec PP HH 22 m0 EE LL ZBi (Z9L m0)) (Z9L m0)
def Zzl := kblk 6 (ZNa m0)
def ZNb := kloop HH 22 m0 ZwG (LL 22 m0 ZwG (Zzl m0)) (Zzl m0)
def ZBg := exec PP HH 22 m0 EE LL ZBh (Z9L m0) [(2, x2), (3, x3), (4, x4)] B
def ZwC := exec PP HH 22 m0 EE LL (l1 (l2 (l1 (l2 (l2 (l2 (l2 (l2 ZBh)))))))) (ZOl m0) [(4, x4)] B
def Zzm := exec PP HH 22 m0 EE LL Zpp (Z9L m0) [(2, x2), (3, x3), (4, x4), (6, x6)] B
def Zzn := exec PP HH 22 m0 EE LL (l2 Zpp) (Z9L m0) [(2, x2), (3, x3), (4, x4), (6, x6)] B
def Zpl := lp (LL 22 m0 ZwD (ZBe m0) [(3, x3), (4, x4), (6, x6), (7, x7), (54, x54), (55, x55), (56, x56)] B)
def Zzo := exec PP HH 22 m0 EE LL (l2 (l2 ZwD)) (ZOn m0) [(3, x3), (4, x4), (6, x6), (7, x7), (54, x54), (55, x55), (56, x56)] B
def Zzp := exec PP HH 22 m0 EE LL ZcF (Z9L m0) [(3, x3), (4, x4), (6, x6), (7, x7)] B
def Zpm := lp (LL 22 m0 ZwE (ZBf m0) [(3, x3), (4, x4), (6, x6), (7, x7), (66, x66), (67, x67), (68, x68)] B)
def Zzq := exec PP HH 22 m0 EE LL Zsz (ZwB m0) [(3, x3), (4, x4), (6, x6), (7, x7), (66, x66), (67, x67), (68, x68)] B
def Zzt := exec PP HH 22 m0 EE LL (l2 ZcF) (Z9L m0) [(3, x3), (4, x4), (6, x6), (7, x7)] B
def Zzr := exec PP HH 22 m0 EE LL (l2 (l2 (l1 (l1 Zsz)))) (ZOq m0) [(3, x3), (4, x4), (6, x6), (7, x7), (11, x11), (66, x66), (67, x67), (68, x68)] B
def Zpn := lp (LL 22 m0 ZwF (Zzk m0) [(4, x4), (6, x6), (7, x7), (85, x85), (86, x86), (87, x87)] B)
def Zzs := exec PP HH 22 m0 EE LL (l2 Zsz) (ZwB m0) [(3, x3), (4, x4), (6, x6), (7, x7), (66, x66), (67, x67), (68, x68)] B
def Zzu := exec PP HH 22 m0 EE LL (l2 (l2 ZwF)) (ZN9 m0) [(4, x4), (6, x6), (7, x7), (85, x85), (86, x86), (87, x87)] B
def Zzv := exec PP HH 22 m0 EE LL (l2 (l2 ZcF)) (Z9L m0) [(4, x4), (6, x6), (7, x7)] B
def Zzw := exec PP HH 22 m0 EE LL (l2 (l2 (l2 ZcF))) (Z9L m0) [(4, x4), (6, x6), (7, x7)] B
def Zpo := lp (LL 22 m0 ZwG (Zzl m0) [(4, x4), (6, x6), (7, x7), (103, x103), (104, x104), (105, x105)] B)
def Zzx := exec PP HH 22 m0 EE LL (l2 (l2 ZwG)) (ZNb m0) [(4, x4), (6, x6), (7, x7), (103, x103), (104, x104), (105, x105)] B
def Zzy := exec PP HH 22 m0 EE LL ZBi (Z9L m0) [(4, x4), (6, x6)] B
theorem ZIl : ZBg m0 x2 x3 x4 B =
 mk (ob (ldN true 5 x2 B) fun a =>
 bz PP 24 B fun b c =>
 stN 5 b a c fun d =>
 mk (ob (xfld 0 b) fun e =>
 ob (xfld 0 x3) fun f =>
 ob (ldN false 1 f d) fun g =>
 callS false EE 49 [e, g] d fun h i =>
 mk (ob (xfld 1 b) fun j =>
 ob (xfld 1 x3) fun k =>
 ob (ldN false 1 k i) fun l =>
 callS false EE 49 [j, l] i fun n o =>
 mk (ob (xfld 2 b) fun p =>
 ob (xfld 2 x3) fun q =>
 ob (ldN false 1 q o) fun r =>
 callS false EE 49 [p, r] o fun s t =>
 mk (ob (xfld 3 b) fun u =>
 ob (xfld 3 x3) fun v =>
 ob (ldN false 1 v t) fun w =>
 callS false EE 49 [u, w] t fun x y =>
 mk (ob (ldN true 5 b y) fun z =>
 callS false EE 46 [z] y fun A C =>
 ob (xun PP .not A) fun D =>
 asB (shr D) fun F => br F (ZwC m0 x4 (gcB m0 [x4] C))
 (ob (xfld 4 x3) fun G =>
 ob (ldN false 1 G C) fun I =>
 callS false EE 50 [I, (.clo 27 [] [])] C fun J M =>
 ob (xun PP .not J) fun N =>
 asB (shr N) fun O => br O (ZwC m0 x4 (gcB m0 [x4] M))
 (Zzm m0 x2 x3 x4 b (gcB m0 [x2, x3, x4, b] M))))))))) := by kernel_rfl
theorem ZIm : ZwC m0 x4 B =
 mk (ob (Z21 PP 24 []) fun a =>
 stN 5 x4 a B fun b =>
 Zik x4 (iv 30) b) := by kernel_rfl
theorem ZGr : Zzm m0 x2 x3 x4 x6 B =
 mk (ob (ldN true 6 x3 B) fun a =>
 callS false EE 51 [a] B fun b c =>
 asB b fun d => br d (mk (ob (Z21 PP 24 []) fun e =>
 stN 5 x4 e c fun f =>
 Zik x4 (iv 31) f))
 (Zzn m0 x2 x3 x4 x6 (gcB m0 [x2, x3, x4, x6] c))) := by kernel_rfl
theorem ZGs : Zzn m0 x2 x3 x4 x6 B =
 mk (xmake PP 110 B fun a b =>
 mk (ob (xfld 4 x2) fun c =>
 ob (ldN false 1 c b) fun d =>
 ob (xlen PP 22 d) fun e =>
 Zpl m0 x3 x4 x6 (shr a) d e (iv 0) (gcB m0 [x3, x4, x6, (shr a), d, e, (iv 0)] b))) := by kernel_rfl
theorem ZGn : Zpl m0 x3 x4 x6 x7 x54 x55 x56 B =
 mk (ob (xbin PP .lss 3 x56 x55) fun a =>
 asB a fun b => br b (Zzo m0 x3 x4 x6 x7 x54 x55 x56 (gcB m0 [x3, x4, x6, x7, x54, x55, x56] B))
 (Zzp m0 x3 x4 x6 x7 (gcB m0 [x3, x4, x6, x7] B))) := lq_ (by kernel_rfl)
theorem ZGt : Zzo m0 x3 x4 x6 x7 x54 x55 x56 B =
 mk (ob (xidx 5 x54 x56) fun a =>
 ob (ldN true 5 a B) fun b =>
 bz PP 43 B fun c d =>
 stN 5 c b d fun e =>
 mk (ob (xfld 0 c) fun f =>
 ob (ldN false 1 f e) fun g =>
 ob (ldN true 5 c e) fun h =>
 xupd PP 110 (shr x7) g h e fun i =>
 mk (ob (xbin PP .add 3 x56 (iv 1)) fun j =>
 Zpl m0 x3 x4 x6 x7 x54 x55 (shr j) (gcB m0 [x3, x4, x6, x7, x54, x55, (shr j)] i)))) := by kernel_rfl
theorem ZGu : Zzp m0 x3 x4 x6 x7 B =
 mk (ob (xfld 5 x3) fun a =>
 ob (ldN false 1 a B) fun b =>
 ob (xlen PP 27 b) fun c =>
 Zpm m0 x3 x4 x6 x7 b c (iv 0) (gcB m0 [x3, x4, x6, x7, b, c, (iv 0)] B)) := by kernel_rfl
theorem ZGo : Zpm m0 x3 x4 x6 x7 x66 x67 x68 B =
 mk (ob (xbin PP .lss 3 x68 x67) fun a =>
 asB a fun b => br b (Zzq m0 x3 x4 x6 x7 x66 x67 x68 (gcB m0 [x3, x4, x6, x7, x66, x67, x68] B))
 (Zzt m0 x3 x4 x6 x7 (gcB m0 [x3, x4, x6, x7] B))) := lq_ (by kernel_rfl)
theorem ZGv : Zzq m0 x3 x4 x6 x7 x66 x67 x68 B =
 mk (ob (xidx 1 x66 x68) fun a =>
 ob (ldN false 1 a B) fun b =>
 mk (ob (Zen PP 110 true (shr x7) (shr (shr b)) B) fun c =>
 ob (xext 0 (shr c)) fun d =>
 ob (xext 1 (shr c)) fun e =>
 bz PP 43 B fun f g =>
 stN 5 f (shr d) g fun h =>
 mk (ob (xun PP .not (shr (shr (shr e)))) fun i =>
 asB i fun j => br j (mk (ob (Z21 PP 24 []) fun k =>
 stN 5 x4 k h fun l =>
 Zik x4 (iv 32) l))
 (Zzr m0 x3 x4 x6 x7 (shr b) x66 x67 x68 (gcB m0 [x3, x4, x6, x7, (shr b), x66, x67, x68] h))))) := by kernel_rfl
theorem ZGy : Zzt m0 x3 x4 x6 x7 B =
 mk (ob (xfld 4 x3) fun a =>
 ob (ldN false 1 a B) fun b =>
 ob (xlen PP 22 b) fun c =>
 Zpn m0 x4 x6 x7 b c (iv 0) (gcB m0 [x4, x6, x7, b, c, (iv 0)] B)) := by kernel_rfl
theorem ZGw : Zzr m0 x3 x4 x6 x7 x11 x66 x67 x68 B =
 mk (xdel PP 110 (shr x7) (shr x11) B fun a =>
 Zzs m0 x3 x4 x6 x7 x66 x67 x68 (gcB m0 [x3, x4, x6, x7, x66, x67, x68] a)) := by kernel_rfl
theorem ZGp : Zpn m0 x4 x6 x7 x85 x86 x87 B =
 mk (ob (xbin PP .lss 3 x87 x86) fun a =>
 asB a fun b => br b (Zzu m0 x4 x6 x7 x85 x86 x87 (gcB m0 [x4, x6, x7, x85, x86, x87] B))
 (Zzv m0 x4 x6 x7 (gcB m0 [x4, x6, x7] B))) := lq_ (by kernel_rfl)
theorem ZGx : Zzs m0 x3 x4 x6 x7 x66 x67 x68 B =
 mk (ob (xbin PP .add 3 x68 (iv 1)) fun a =>
 Zpm m0 x3 x4 x6 x7 x66 x67 (shr a) (gcB m0 [x3, x4, x6, x7, x66, x67, (shr a)] B)) := by kernel_rfl
theorem ZGz : Zzu m0 x4 x6 x7 x85 x86 x87 B =
 mk (ob (xidx 5 x85 x87) fun a =>
 ob (ldN true 5 a B) fun b =>
 bz PP 43 B fun c d =>
 stN 5 c b d fun e =>
 mk (ob (xfld 0 c) fun f =>
 ob (ldN false 1 f e) fun g =>
 ob (ldN true 5 c e) fun h =>
 xupd PP 110 (shr x7) g h e fun i =>
 mk (ob (xbin PP .add 3 x87 (iv 1)) fun j =>
 Zpn m0 x4 x6 x7 x85 x86 (shr j) (gcB m0 [x4, x6, x7, x85, x86, (shr j)] i)))) := by kernel_rfl
theorem ZGA : Zzv m0 x4 x6 x7 B =
 mk (ob (ZrU (shr x7) B) fun a =>
 ob (xbin PP .gtr 3 a (iv 16)) fun b =>
 asB b fun c => br c (mk (ob (Z21 PP 24 []) fun d =>
 stN 5 x4 d B fun e =>
 Zik x4 (iv 33) e))
 (Zzw m0 x4 x6 x7 (gcB m0 [x4, x6, x7] B))) := by kernel_rfl
theorem ZGB : Zzw m0 x4 x6 x7 B =
 mk (ob (xfld 4 x6) fun a =>
 stN 1 a nilA B fun b =>
 mk (callS false EE 53 [(shr x7)] b fun c d =>
 callS false EE 52 [c] d fun e f =>
 ob (xlen PP 27 e) fun g =>
 Zpo m0 x4 x6 x7 e g (iv 0) (gcB m0 [x4, x6, x7, e, g, (iv 0)] f))) := by kernel_rfl
theorem ZGq : Zpo m0 x4 x6 x7 x103 x104 x105 B =
 mk (ob (xbin PP .lss 3 x105 x104) fun a =>
 asB a fun b => br b (Zzx m0 x4 x6 x7 x103 x104 x105 (gcB m0 [x4, x6, x7, x103, x104, x105] B))
 (Zzy m0 x4 x6 (gcB m0 [x4, x6] B))) := lq_ (by kernel_rfl)
theorem ZGC : Zzx m0 x4 x6 x7 x103 x104 x105 B =
 mk (ob (xidx 1 x103 x105) fun a =>
 ob (ldN false 1 a B) fun b =>
 mk (ob (xfld 4 x6) fun c =>
 ldOwn c B fun d e =>
 ob (Zen PP 110 false (shr x7) (shr (shr b)) e) fun f =>
 ob (xlit PP 22 1 [(0, f)]) fun g =>
 ob (xapp 5 d g) fun h =>
 ob (xfld 4 x6) fun i =>
 stN 1 i h e fun j =>
 mk (ob (xbin PP .add 3 x105 (iv 1)) fun k =>
 Zpo m0 x4 x6 x7 x103 x104 (shr k) (gcB m0 [x4, x6, x7, x103, x104, (shr k)] j)))) := by kernel_rfl
theorem ZGD : Zzy m0 x4 x6 B =
 mk (ob (ldN true 5 x6 B) fun a =>
 stN 5 x4 a B fun b =>
 Zik x4 (iv 0) b) := by kernel_rfl
theorem ZOk : EE 22 [x0, x1] B =
 (let m0 := B.length
 mk (bx x0 B fun a b =>
 bx x1 b fun c d =>
 bz PP 24 d fun e f =>
 mk (ob (ldN true 5 a f) fun g =>
 callS false EE 20 [g] f fun h i =>
 ob (xun PP .not h) fun j =>
 asB j fun k => br k (mk (ob (Z21 PP 24 []) fun l =>
 stN 5 e l i fun n =>
 Zik e (iv 10) n))
 (ZBg m0 a c e (gcB m0 [a, c, e] i))))) := (E_eq PP XX HH _ _ _).trans (by kernel_rfl)
noncomputable def ZPL := Z3b Tryz.f23
def ZIq := l2 (l2 (l2 ZPL))
def Zzz (r0 r1 : AV) (B : List Row) : Option Res :=
 ob (ob (ldN true 5 r0 B) fun v => ob (ob (ldN true 3 r1 B) fun v => ob (some []) fun vs => some (v :: vs)) fun vs => some (v :: vs)) fun vs => some ((nrmA (match vs with | [v] => v | vs => Z8r (vs.map shr))), B)
def ZIn (m0 : Nat) : Kont := kret PP HH 23 Tryz.f23.results
def ZBj := exec PP HH 23 m0 EE LL ZIq (ZIn m0) [(4, x4), (5, x5), (6, x6)] B
def ZBk := exec PP HH 23 m0 EE LL (l2 ZIq) (ZIn m0) [(4, x4), (5, x5), (6, x6)] B
theorem ZIo : ZBj m0 x4 x5 x6 B =
 mk (ob (ldN true 5 x6 B) fun a =>
 callS false EE 16 [a] B fun b c =>
 bz PP 32 c fun d e =>
 stN 3 d b e fun f =>
 mk (ob (xfld 0 d) fun g =>
 ob (ldN false 1 g f) fun h =>
 ob (xbin PP .neq 30 h (iv 0)) fun i =>
 asB i fun j => br j (mk (ob (Z21 PP 24 []) fun k =>
 ob (ldN true 3 d f) fun l =>
 stN 5 x4 k f fun n =>
 stN 3 x5 l n fun o =>
 grd (Z7T d x4) (Zzz x4 x5 o)))
 (ZBk m0 x4 x5 x6 (gcB m0 [x4, x5, x6] f)))) := by kernel_rfl
theorem ZIp : ZBk m0 x4 x5 x6 B =
 mk (ob (ldN true 5 x6 B) fun a =>
 ob (Z21 PP 32 []) fun b =>
 stN 5 x4 a B fun c =>
 stN 3 x5 b c fun d =>
 Zzz x4 x5 d) := by kernel_rfl
theorem ZOr : EE 23 [x0, x1] B =
 (let m0 := B.length
 mk (bx x0 B fun a b =>
 bx x1 b fun c d =>
 bz PP 24 d fun e f =>
 bz PP 32 f fun g h =>
 mk (ob (ldN true 5 a h) fun i =>
 ob (ldN true 6 c h) fun j =>
 callS false EE 22 [i, j] h fun k l =>
 ob (xext 0 (shr k)) fun n =>
 ob (xext 1 (shr k)) fun o =>
 bz PP 24 l fun p q =>
 stN 5 p (shr n) q fun r =>
 mk (ob (xbin PP .neq 30 (shr (shr (shr o))) (iv 0)) fun s =>
 asB s fun t => br t (mk (ob (Z21 PP 24 []) fun u =>
 ob (Z21 PP 32 [(0, (shr (shr (shr o))))]) fun v =>
 stN 5 e u r fun w =>
 stN 3 g v w fun x =>
 Zzz e g x))
 (ZBj m0 e g p (gcB m0 [e, g, p] r)))))) := (E_eq PP XX HH _ _ _).trans (by kernel_rfl)
noncomputable def ZLA := Z3b Tryz.f26
def ZmT := l2 (l2 ZLA)
def ZsB := l1 (l1 (l2 (l1 ZmT)))
def Zpq (m0 : Nat) : Kont := kret PP HH 26 Tryz.f26.results
def ZOt := kseq HH 26 m0 ZmT (exec PP HH 26 m0 EE LL ZmT (Zpq m0)) (Zpq m0)
def ZOu := kseq HH 26 m0 (l2 ZmT) (exec PP HH 26 m0 EE LL (l2 ZmT) (Zpq m0)) (Zpq m0)
def ZBl := kblk 0 (ZOu m0)
def ZIr := kloop HH 26 m0 ZsB (LL 26 m0 ZsB (ZBl m0)) (ZBl m0)
def ZmS := exec PP HH 26 m0 EE LL (l1 (l2 (l1 (l2 ZLA)))) (ZOt m0) [] B
def ZBm := exec PP HH 26 m0 EE LL ZmT (Zpq m0) [(2, x2), (3, x3)] B
def ZsA := lp (LL 26 m0 ZsB (ZBl m0) [(2, x2), (3, x3), (5, x5)] B)
def ZBo := exec PP HH 26 m0 EE LL (l2 ZsB) (ZIr m0) [(2, x2), (3, x3), (5, x5)] B
def ZBp := exec PP HH 26 m0 EE LL (l2 ZmT) (Zpq m0) [] B
def ZBn := exec PP HH 26 m0 EE LL (l2 (l2 ZsB)) (ZIr m0) [(2, x2), (3, x3), (5, x5)] B
theorem ZIt : ZmS m0 B =
 mk (Z1x (bv false) B) := by kernel_rfl
theorem ZIu : ZBm m0 x2 x3 B =
 mk (ZsA m0 x2 x3 (iv 0) (gcB m0 [x2, x3, (iv 0)] B)) := by kernel_rfl
theorem ZIs : ZsA m0 x2 x3 x5 B =
 mk (ob (xfld 4 x2) fun a =>
 ob (ldN false 1 a B) fun b =>
 ob (xlen PP 38 b) fun c =>
 ob (xbin PP .lss 3 (shr x5) c) fun d =>
 asB d fun e => br e (ZBo m0 x2 x3 x5 (gcB m0 [x2, x3, x5] B))
 (ZBp m0 (gcB m0 [] B))) := lq_ (by kernel_rfl)
theorem ZIw : ZBo m0 x2 x3 x5 B =
 mk (ob (xfld 4 x2) fun a =>
 ob (ldN false 1 a B) fun b =>
 ob (xidx 5 b (shr x5)) fun c =>
 ob (ldN true 5 c B) fun d =>
 ob (xfld 4 x3) fun e =>
 ob (ldN false 1 e B) fun f =>
 ob (xidx 5 f (shr x5)) fun g =>
 ob (ldN true 5 g B) fun h =>
 ob (xbin PP .neq 93 d h) fun i =>
 asB i fun j => br j (mk (Z1x (bv false) B))
 (ZBn m0 x2 x3 x5 (gcB m0 [x2, x3, x5] B))) := by kernel_rfl
theorem ZIx : ZBp m0 B =
 mk (Z1x (bv true) B) := by kernel_rfl
theorem ZIv : ZBn m0 x2 x3 x5 B =
 mk (ob (xbin PP .add 3 (shr x5) (iv 1)) fun a =>
 ZsA m0 x2 x3 (shr a) (gcB m0 [x2, x3, (shr a)] B)) := by kernel_rfl
theorem ZOs : EE 26 [x0, x1] B =
 (let m0 := B.length
 mk (bx x0 B fun a b =>
 bx x1 b fun c d =>
 mk (ob (xfld 0 a) fun e =>
 ob (ldN false 1 e d) fun f =>
 ob (xfld 0 c) fun g =>
 ob (ldN false 1 g d) fun h =>
 ob (xbin PP .neq 3 f h) fun i =>
 asB (shr i) fun j => br j (ZmS m0 (gcB m0 [] d))
 (ob (xfld 1 a) fun k =>
 ob (ldN false 1 k d) fun l =>
 ob (xfld 1 c) fun n =>
 ob (ldN false 1 n d) fun o =>
 ob (xbin PP .neq 3 l o) fun p =>
 asB (shr (shr p)) fun q => br q (ZmS m0 (gcB m0 [] d))
 (ob (xfld 2 a) fun r =>
 ob (ldN false 1 r d) fun s =>
 ob (xfld 2 c) fun t =>
 ob (ldN false 1 t d) fun u =>
 ob (xbin PP .neq 3 s u) fun v =>
 asB (shr (shr v)) fun w => br w (ZmS m0 (gcB m0 [] d))
 (ob (xfld 3 a) fun x =>
 ob (ldN false 1 x d) fun y =>
 ob (xfld 3 c) fun z =>
 ob (ldN false 1 z d) fun A =>
 ob (xbin PP .neq 3 y A) fun C =>
 asB (shr (shr C)) fun D => br D (ZmS m0 (gcB m0 [] d))
 (ob (xfld 4 a) fun F =>
 ob (ldN false 1 F d) fun G =>
 ob (xlen PP 38 G) fun I =>
 ob (xfld 4 c) fun J =>
 ob (ldN false 1 J d) fun M =>
 ob (xlen PP 38 M) fun N =>
 ob (xbin PP .neq 3 I N) fun O =>
 asB (shr O) fun Q => br Q (ZmS m0 (gcB m0 [] d))
 (ZBm m0 a c (gcB m0 [a, c] d))))))))) := (E_eq PP XX HH _ _ _).trans (by kernel_rfl)
theorem ZOv : EE 27 [x0] B =
 (let m0 := B.length
 mk (bx x0 B fun a b =>
 mk (ob (xfld 0 a) fun c =>
 ob (ldN false 1 c b) fun d =>
 ob (xbin PP .geq 3 d (iv 1)) fun e =>
 asB (shr e) fun f => br f (ob (xfld 0 a) fun g =>
 ob (ldN false 1 g b) fun h =>
 ob (xbin PP .leq 3 h (iv 1099511627776)) fun i =>
 asB (shr (shr i)) fun j => br j (ob (xfld 1 a) fun k =>
 ob (ldN false 1 k b) fun l =>
 ob (xbin PP .geq 3 l (iv 0)) fun n =>
 asB (shr (shr n)) fun o => br o (ob (xfld 1 a) fun p =>
 ob (ldN false 1 p b) fun q =>
 ob (xbin PP .leq 3 q (iv 1000)) fun r =>
 asB (shr (shr r)) fun s => br s (ob (xfld 2 a) fun t =>
 ob (ldN false 1 t b) fun u =>
 ob (xbin PP .geq 3 u (iv 0)) fun v =>
 asB (shr (shr v)) fun w => br w (ob (xfld 2 a) fun x =>
 ob (ldN false 1 x b) fun y =>
 ob (xbin PP .leq 3 y (iv 255)) fun z =>
 asB (shr (shr z)) fun A => br A (ob (xfld 3 a) fun C =>
 ob (ldN false 1 C b) fun D =>
 ob (xbin PP .geq 3 D (iv 1)) fun F =>
 asB (shr (shr F)) fun G => br G (ob (xfld 3 a) fun I =>
 ob (ldN false 1 I b) fun J =>
 ob (xbin PP .leq 3 J (iv 65535)) fun M =>
 asB (shr (shr M)) fun N => br N (ob (xfld 4 a) fun O =>
 ob (ldN false 1 O b) fun Q =>
 ob (xlen PP 9 Q) fun R =>
 ob (xbin PP .leq 3 R (iv 256)) fun S =>
 Z1x (shr (shr S)) b)
 (Z1x (bv false) b))
 (Z1x (bv false) b))
 (Z1x (bv false) b))
 (Z1x (bv false) b))
 (Z1x (bv false) b))
 (Z1x (bv false) b))
 (Z1x (bv false) b))
 (Z1x (bv false) b)))) := (E_eq PP XX HH _ _ _).trans (by kernel_rfl)
theorem ZOw : EE 29 [] B =
 (let m0 := B.length
 mk (mk (callS false EE 32 [] B fun a b =>
 mk (callS false EE 55 [(iv 1), (iv 1), (iv 3), (.p (.v (.string (ByteArray.mk #[97]))))] b fun c d =>
 callS false EE 33 [(shr (shr a)), c] d fun e f =>
 ob (xext 0 (shr e)) fun g =>
 ob (xext 1 (shr e)) fun h =>
 bz PP 66 f fun i j =>
 stN 4 i (shr g) j fun k =>
 mk (callS false EE 55 [(iv 1), (iv 1), (iv 3), (.p (.v (.string (ByteArray.mk #[97]))))] k fun l n =>
 callS false EE 33 [(shr (shr a)), l] n fun o q =>
 ob (xext 0 (shr o)) fun r =>
 ob (xext 1 (shr o)) fun s =>
 bz PP 66 q fun t u =>
 stN 4 t (shr r) u fun w =>
 mk (callS false EE 55 [(iv 1), (iv 2), (iv 4), (.p (.v (.string (ByteArray.mk #[40]))))] w fun x y =>
 callS false EE 33 [(shr (shr a)), x] y fun z A =>
 ob (xext 0 (shr z)) fun C =>
 ob (xext 1 (shr z)) fun D =>
 bz PP 66 A fun F G =>
 stN 4 F (shr C) G fun I =>
 mk (ob (xbin PP .eql 30 (shr (shr (shr h))) (iv 0)) fun J =>
 asB (shr J) fun M => br M (ob (xbin PP .eql 30 (shr (shr (shr s))) (iv 0)) fun N =>
 asB (shr (shr N)) fun O => br O (ob (xbin PP .eql 30 (shr (shr (shr D))) (iv 0)) fun Q =>
 asB (shr (shr Q)) fun R => br R (ob (ldN true 4 i I) fun S =>
 ob (Z21 PP 66 [(0, (iv 1))]) fun T =>
 ob (xbin PP .eql 66 S T) fun U =>
 asB (shr (shr U)) fun V => br V (ob (xfld 1 t) fun W =>
 ob (xfld 0 W) fun Y =>
 ob (ldN false 1 Y I) fun Z =>
 ob (xbin PP .eql 30 Z (iv 31)) fun a0 =>
 asB (shr (shr a0)) fun a1 => br a1 (ob (xfld 1 F) fun a2 =>
 ob (ldN true 3 a2 I) fun a3 =>
 ob (Z21 PP 32 [(0, (iv 20)), (1, (iv 4))]) fun a4 =>
 ob (xbin PP .eql 32 a3 a4) fun a5 =>
 asB (shr (shr a5)) fun a6 => br a6 (callS false EE 35 [(shr (shr a))] I fun a7 a8 =>
 ob (xbin PP .eql 3 a7 (iv 1)) fun a9 =>
 Z1x (shr (shr a9)) a8)
 (Z1x (bv false) I))
 (Z1x (bv false) I))
 (Z1x (bv false) I))
 (Z1x (bv false) I))
 (Z1x (bv false) I))
 (Z1x (bv false) I)))))))) := (E_eq PP XX HH _ _ _).trans (by kernel_rfl)
noncomputable def ZLB := Z3b Tryz.f30
def ZBw := l2 (l2 ZLB)
def ZwK := l1 (l1 (l2 (l1 (l2 ZLB))))
def Zpr := l2 (l2 ZwK)
def ZwL := l2 (l2 (l1 (l1 Zpr)))
def ZwM := l1 (l1 (l2 ZwL))
def ZIF := l2 (l2 ZwM)
def ZBq (m0 : Nat) : Kont := kret PP HH 30 Tryz.f30.results
def ZOy := kseq HH 30 m0 ZBw (exec PP HH 30 m0 EE LL ZBw (ZBq m0)) (ZBq m0)
def ZBr := kblk 0 (ZOy m0)
def ZwH := kloop HH 30 m0 ZwK (LL 30 m0 ZwK (ZBr m0)) (ZBr m0)
def ZOz := kseq HH 30 m0 (l2 Zpr) (exec PP HH 30 m0 EE LL (l2 Zpr) (ZwH m0)) (ZwH m0)
def ZwI := kblk 1 (ZOz m0)
def ZOA := kseq HH 30 m0 ZwL (exec PP HH 30 m0 EE LL ZwL (ZwI m0)) (ZwI m0)
def ZBs := kblk 2 (ZwI m0)
def ZIy := kloop HH 30 m0 ZwM (LL 30 m0 ZwM (ZBs m0)) (ZBs m0)
def ZsC := lp (LL 30 m0 ZwK (ZBr m0) [(0, x0), (7, x7), (8, x8), (9, x9)] B)
def ZBt := exec PP HH 30 m0 EE LL Zpr (ZwH m0) [(0, x0), (7, x7), (8, x8), (9, x9)] B
def ZzC := exec PP HH 30 m0 EE LL ZBw (ZBq m0) [(0, x0)] B
def ZwJ := exec PP HH 30 m0 EE LL (l1 (l2 (l1 (l2 (l1 (l1 Zpr)))))) (ZOA m0) [] B
def ZBu := exec PP HH 30 m0 EE LL ZwL (ZwI m0) [(0, x0), (4, x4), (7, x7), (8, x8), (9, x9)] B
def ZsD := lp (LL 30 m0 ZwM (ZBs m0) [(0, x0), (7, x7), (8, x8), (9, x9), (27, x27), (28, x28), (29, x29)] B)
def ZBv := exec PP HH 30 m0 EE LL ZIF (ZIy m0) [(0, x0), (7, x7), (8, x8), (9, x9), (27, x27), (28, x28), (29, x29)] B
def ZzB := exec PP HH 30 m0 EE LL (l2 Zpr) (ZwH m0) [(0, x0), (7, x7), (8, x8), (9, x9)] B
def ZzA := exec PP HH 30 m0 EE LL (l2 ZIF) (ZIy m0) [(0, x0), (7, x7), (8, x8), (9, x9), (27, x27), (28, x28), (29, x29)] B
theorem ZIz : ZsC m0 x0 x7 x8 x9 B =
 mk (ob (xbin PP .lss 3 x9 x8) fun a =>
 asB a fun b => br b (ZBt m0 x0 x7 x8 x9 (gcB m0 [x0, x7, x8, x9] B))
 (ZzC m0 x0 (gcB m0 [x0] B))) := lq_ (by kernel_rfl)
theorem ZIB : ZBt m0 x0 x7 x8 x9 B =
 mk (ob (xidx 9 x7 x9) fun a =>
 ob (ldN true 9 a B) fun b =>
 bz PP 61 B fun c d =>
 stN 9 c b d fun e =>
 mk (ob (xfld 3 c) fun f =>
 ob (xfld 4 f) fun g =>
 ob (ldN false 1 g e) fun h =>
 ob (xlen PP 22 h) fun i =>
 ob (xbin PP .gtr 3 i (iv 20)) fun j =>
 asB (shr j) fun k => br k (ZwJ m0 (gcB m0 [] e))
 (ob (xfld 3 c) fun l =>
 ob (xfld 5 l) fun n =>
 ob (ldN false 1 n e) fun o =>
 ob (xlen PP 27 o) fun p =>
 ob (xbin PP .gtr 3 p (iv 20)) fun q =>
 asB (shr q) fun r => br r (ZwJ m0 (gcB m0 [] e))
 (ZBu m0 x0 c x7 x8 x9 (gcB m0 [x0, c, x7, x8, x9] e))))) := by kernel_rfl
theorem ZGG : ZzC m0 x0 B =
 mk (ob (xlen PP 59 (shr x0)) fun a =>
 ob (xbin PP .leq 3 a (iv 70)) fun b =>
 Z1x (shr b) B) := by kernel_rfl
theorem ZIC : ZwJ m0 B =
 mk (Z1x (bv false) B) := by kernel_rfl
theorem ZID : ZBu m0 x0 x4 x7 x8 x9 B =
 mk (ob (xfld 3 x4) fun a =>
 ob (xfld 4 a) fun b =>
 ob (ldN false 1 b B) fun c =>
 ob (xlen PP 22 c) fun d =>
 ZsD m0 x0 x7 x8 x9 c d (iv 0) (gcB m0 [x0, x7, x8, x9, c, d, (iv 0)] B)) := by kernel_rfl
theorem ZIA : ZsD m0 x0 x7 x8 x9 x27 x28 x29 B =
 mk (ob (xbin PP .lss 3 x29 x28) fun a =>
 asB a fun b => br b (ZBv m0 x0 x7 x8 x9 x27 x28 x29 (gcB m0 [x0, x7, x8, x9, x27, x28, x29] B))
 (ZzB m0 x0 x7 x8 x9 (gcB m0 [x0, x7, x8, x9] B))) := lq_ (by kernel_rfl)
theorem ZIE : ZBv m0 x0 x7 x8 x9 x27 x28 x29 B =
 mk (ob (xidx 5 x27 x29) fun a =>
 ob (ldN true 5 a B) fun b =>
 bz PP 43 B fun c d =>
 stN 5 c b d fun e =>
 mk (ob (xfld 4 c) fun f =>
 ob (ldN false 1 f e) fun g =>
 ob (xlen PP 9 g) fun h =>
 ob (xbin PP .gtr 3 h (iv 300)) fun i =>
 asB i fun j => br j (mk (Z1x (bv false) e))
 (ZzA m0 x0 x7 x8 x9 x27 x28 x29 (gcB m0 [x0, x7, x8, x9, x27, x28, x29] e)))) := by kernel_rfl
theorem ZGF : ZzB m0 x0 x7 x8 x9 B =
 mk (ob (xbin PP .add 3 x9 (iv 1)) fun a =>
 ZsC m0 x0 x7 x8 (shr a) (gcB m0 [x0, x7, x8, (shr a)] B)) := by kernel_rfl
theorem ZGE : ZzA m0 x0 x7 x8 x9 x27 x28 x29 B =
 mk (ob (xbin PP .add 3 x29 (iv 1)) fun a =>
 ZsD m0 x0 x7 x8 x9 x27 x28 (shr a) (gcB m0 [x0, x7, x8, x9, x27, x28, (shr a)] B)) := by kernel_rfl
theorem ZOx : EE 30 [x0] B =
 (let m0 := B.length
 mk (mk (ob (xlen PP 59 (shr x0)) fun a =>
 ZsC m0 x0 (shr x0) a (iv 0) (gcB m0 [x0, (shr x0), a, (iv 0)] B)))) := (E_eq PP XX HH _ _ _).trans (by kernel_rfl)
theorem ZOB : EE 31 [x0] B =
 (let m0 := B.length
 mk (bx x0 B fun a b =>
 mk (ob (xfld 3 a) fun c =>
 ob (ldN true 6 c b) fun d =>
 bz PP 29 b fun e f =>
 stN 6 e d f fun g =>
 mk (ob (xfld 0 a) fun h =>
 ob (ldN false 1 h g) fun i =>
 callS false EE 56 [i, (iv 0)] g fun j k =>
 asB (shr j) fun l => br l (ob (xfld 1 a) fun n =>
 ob (ldN false 1 n k) fun o =>
 callS false EE 56 [o, (iv 1)] k fun p q =>
 asB (shr (shr p)) fun r => br r (ob (xfld 2 a) fun s =>
 ob (ldN false 1 s q) fun t =>
 callS false EE 56 [t, (iv 1)] q fun u v =>
 asB (shr (shr u)) fun w => br w (ob (xfld 0 e) fun x =>
 ob (ldN false 1 x v) fun y =>
 callS false EE 56 [y, (iv (-1))] v fun z A =>
 asB (shr (shr z)) fun C => br C (ob (xfld 1 e) fun D =>
 ob (ldN false 1 D A) fun F =>
 callS false EE 56 [F, (iv (-1))] A fun G I =>
 asB (shr (shr G)) fun J => br J (ob (xfld 2 e) fun M =>
 ob (ldN false 1 M I) fun N =>
 callS false EE 56 [N, (iv (-1))] I fun O Q =>
 asB (shr (shr O)) fun R => br R (ob (xfld 3 e) fun S =>
 ob (ldN false 1 S Q) fun T =>
 callS false EE 56 [T, (iv (-1))] Q fun U V =>
 asB (shr (shr U)) fun W => br W (ob (xfld 4 e) fun Y =>
 ob (ldN false 1 Y V) fun Z =>
 ob (xlen PP 22 Z) fun a0 =>
 ob (xbin PP .leq 3 a0 (iv 16)) fun a1 =>
 asB (shr (shr a1)) fun a2 => br a2 (ob (xfld 5 e) fun a3 =>
 ob (ldN false 1 a3 V) fun a4 =>
 ob (xlen PP 27 a4) fun a5 =>
 ob (xbin PP .leq 3 a5 (iv 16)) fun a6 =>
 asB (shr (shr a6)) fun a7 => br a7 (ob (xfld 4 e) fun a8 =>
 ob (ldN false 1 a8 V) fun a9 =>
 callS false EE 57 [a9, (.clo 58 [] [])] V fun a10 a11 =>
 ob (xun PP .not a10) fun a12 =>
 asB (shr (shr a12)) fun a13 => br a13 (ob (xfld 5 e) fun a14 =>
 ob (ldN false 1 a14 a11) fun a15 =>
 callS false EE 59 [a15, (.clo 60 [] [])] a11 fun a16 a17 =>
 ob (xun PP .not a16) fun a18 =>
 Z1x (shr (shr a18)) a17)
 (Z1x (bv false) a11))
 (Z1x (bv false) V))
 (Z1x (bv false) V))
 (Z1x (bv false) V))
 (Z1x (bv false) Q))
 (Z1x (bv false) I))
 (Z1x (bv false) A))
 (Z1x (bv false) v))
 (Z1x (bv false) q))
 (Z1x (bv false) k))))) := (E_eq PP XX HH _ _ _).trans (by kernel_rfl)
theorem ZOC : EE 32 [] B =
 (let m0 := B.length
 mk (mk (callS false EE 43 [] B fun a b =>
 ob (xlit PP 121 1 [(0, a)]) fun c =>
 xmake PP 122 b fun d e =>
 ob (Z21 PP 124 [(0, c), (1, d)]) fun f =>
 bx f e fun g h =>
 Z1x (shr g) h))) := (E_eq PP XX HH _ _ _).trans (by kernel_rfl)
noncomputable def ZPM := Z3b Tryz.f33
def ZBz := l2 (l2 ZPM)
def ZBA := l2 (l2 ZBz)
def ZzD (r0 r1 : AV) (B : List Row) : Option Res :=
 ob (ob (ldN true 4 r0 B) fun v => ob (ob (some r1) fun v => ob (some []) fun vs => some (v :: vs)) fun vs => some (v :: vs)) fun vs => some ((nrmA (match vs with | [v] => v | vs => Z8r (vs.map shr))), B)
def ZwN (m0 : Nat) : Kont := kret PP HH 33 Tryz.f33.results
def ZOE := kseq HH 33 m0 ZBA (exec PP HH 33 m0 EE LL ZBA (ZwN m0)) (ZwN m0)
def ZBx := exec PP HH 33 m0 EE LL ZBz (ZwN m0) [(0, x0), (3, x3), (4, x4)] B
def ZBy := exec PP HH 33 m0 EE LL (l1 (l2 (l2 (l1 (l2 ZBz))))) (ZOE m0) [(4, x4)] B
def ZwO := exec PP HH 33 m0 EE LL ZBA (ZwN m0) [(0, x0), (3, x3), (4, x4)] B
theorem ZIG : ZBx m0 x0 x3 x4 B =
 mk (ob (Z2m (shr x0)) fun a =>
 ob (xfld 2 a) fun b =>
 ob (ldN false 1 b B) fun c =>
 ob (xbin PP .add 3 c (iv 1)) fun d =>
 ob (Z2m (shr x0)) fun e =>
 ob (xfld 2 e) fun f =>
 stN 1 f d B fun g =>
 mk (ob (Z2m (shr x0)) fun h =>
 ob (xfld 1 h) fun i =>
 ob (ldN false 1 i g) fun j =>
 ob (xfld 1 x3) fun k =>
 ob (ldN false 1 k g) fun l =>
 ob (Zen PP 122 true j l g) fun n =>
 ob (xext 0 (shr n)) fun o =>
 ob (xext 1 (shr n)) fun p =>
 bz PP 126 g fun q r =>
 stN 5 q (shr o) r fun s =>
 grd (Z7T i q) (grd (Z7T k q) (grd (Z7T j q) (mk (asB (shr (shr (shr (shr p)))) fun t => br t (ob (xfld 2 x3) fun u =>
 ob (ldN false 1 u s) fun v =>
 ob (xfld 0 q) fun w =>
 ob (ldN false 1 w s) fun x =>
 ob (xbin PP .leq 3 v x) fun y =>
 asB (shr y) fun z => br z (ZBy m0 x4 (gcB m0 [x4] s))
 (ZwO m0 x0 x3 x4 (gcB m0 [x0, x3, x4] s)))
 (ZwO m0 x0 x3 x4 (gcB m0 [x0, x3, x4] s)))))))) := by kernel_rfl
theorem ZIH : ZBy m0 x4 B =
 mk (ob (Z21 PP 32 [(0, (iv 31))]) fun a =>
 ob (Z21 PP 66 [(1, a)]) fun b =>
 stN 4 x4 b B fun c =>
 ZzD x4 (iv 0) c) := by kernel_rfl
theorem ZII : ZwO m0 x0 x3 x4 B =
 mk (ob (xfld 3 x3) fun a =>
 ob (ldN true 6 a B) fun b =>
 callS false EE 61 [(shr x0), b] B fun c d =>
 bz PP 66 d fun e f =>
 stN 4 e c f fun g =>
 mk (ob (Z2m (shr x0)) fun h =>
 ob (xfld 1 h) fun i =>
 ob (ldN false 1 i g) fun j =>
 ob (xfld 1 x3) fun k =>
 ob (ldN false 1 k g) fun l =>
 ob (xfld 2 x3) fun n =>
 ob (ldN false 1 n g) fun o =>
 ob (ldN true 4 e g) fun p =>
 ob (Z21 PP 126 [(0, o), (1, p)]) fun q =>
 xupd PP 122 j l q g fun r =>
 mk (ob (ldN true 4 e r) fun s =>
 stN 4 x4 s r fun t =>
 ZzD x4 (iv 0) t))) := by kernel_rfl
theorem ZOD : EE 33 [x0, x1] B =
 (let m0 := B.length
 mk (bx x1 B fun a b =>
 bz PP 66 b fun c d =>
 mk (ob (ldN true 9 a d) fun e =>
 callS false EE 31 [e] d fun f g =>
 ob (xun PP .not f) fun h =>
 asB h fun i => br i (mk (ob (Z21 PP 66 []) fun j =>
 stN 4 c j g fun k =>
 ZzD c (iv 10) k))
 (ZBx m0 x0 a c (gcB m0 [x0, a, c] g))))) := (E_eq PP XX HH _ _ _).trans (by kernel_rfl)
theorem ZOF : EE 35 [x0] B =
 (let m0 := B.length
 mk (mk (ob (Z2m (shr x0)) fun a =>
 ob (xfld 0 a) fun b =>
 ob (ldN false 1 b B) fun c =>
 ob (xlen PP 121 c) fun d =>
 ob (xbin PP .sub 3 d (iv 1)) fun e =>
 Z1x (shr e) B))) := (E_eq PP XX HH _ _ _).trans (by kernel_rfl)
noncomputable def ZLC := Z3b Tryz.f36
def ZBD := l2 (l2 ZLC)
def ZBB (m0 : Nat) : Kont := kret PP HH 36 Tryz.f36.results
def ZOH := kseq HH 36 m0 ZBD (exec PP HH 36 m0 EE LL ZBD (ZBB m0)) (ZBB m0)
def ZwP := exec PP HH 36 m0 EE LL (l1 (l2 (l1 (l2 ZLC)))) (ZOH m0) [(4, x4)] B
def ZBC := exec PP HH 36 m0 EE LL ZBD (ZBB m0) [(0, x0), (1, x1), (4, x4)] B
theorem ZIJ : ZwP m0 x4 B =
 mk (ob (Z21 PP 24 []) fun a =>
 stN 5 x4 a B fun b =>
 Zik x4 (bv false) b) := by kernel_rfl
theorem ZIK : ZBC m0 x0 x1 x4 B =
 mk (ob (Z2m (shr x0)) fun a =>
 ob (xfld 0 a) fun b =>
 ob (ldN false 1 b B) fun c =>
 ob (xidx 5 c (shr x1)) fun d =>
 ob (ldN true 5 d B) fun e =>
 bz PP 24 B fun f g =>
 stN 5 f e g fun h =>
 mk (ob (xfld 4 f) fun i =>
 ob (ldN false 1 i h) fun j =>
 callS false EE 62 [j] h fun k l =>
 ob (xfld 4 f) fun n =>
 stN 1 n k l fun o =>
 mk (ob (ldN true 5 f o) fun p =>
 stN 5 x4 p o fun q =>
 Zik x4 (bv true) q))) := by kernel_rfl
theorem ZOG : EE 36 [x0, x1] B =
 (let m0 := B.length
 mk (bz PP 24 B fun a b =>
 mk (ob (xbin PP .lss 3 (shr x1) (iv 0)) fun c =>
 asB (shr c) fun d => br d (ZwP m0 a (gcB m0 [a] b))
 (ob (Z2m (shr x0)) fun e =>
 ob (xfld 0 e) fun f =>
 ob (ldN false 1 f b) fun g =>
 ob (xlen PP 121 g) fun h =>
 ob (xbin PP .geq 3 (shr x1) h) fun i =>
 asB (shr i) fun j => br j (ZwP m0 a (gcB m0 [a] b))
 (ZBC m0 x0 x1 a (gcB m0 [x0, x1, a] b)))))) := (E_eq PP XX HH _ _ _).trans (by kernel_rfl)
theorem ZOI : EE 43 [] B =
 (let m0 := B.length
 mk (bz PP 24 B fun a b =>
 mk (ob (Z21 PP 24 [(1, (iv 255)), (2, (iv 10000)), (3, (iv 500))]) fun c =>
 stN 5 a c b fun d =>
 ZEG a d))) := (E_eq PP XX HH _ _ _).trans (by kernel_rfl)
theorem ZOJ : EE 46 [x0] B =
 (let m0 := B.length
 mk (bx x0 B fun a b =>
 mk (ob (xfld 0 a) fun c =>
 ob (ldN false 1 c b) fun d =>
 ob (xbin PP .geq 3 d (iv 0)) fun e =>
 asB (shr e) fun f => br f (ob (xfld 0 a) fun g =>
 ob (ldN false 1 g b) fun h =>
 ob (xbin PP .leq 3 h (iv 255)) fun i =>
 asB (shr (shr i)) fun j => br j (ob (xfld 1 a) fun k =>
 ob (ldN false 1 k b) fun l =>
 ob (xbin PP .geq 3 l (iv 0)) fun n =>
 asB (shr (shr n)) fun o => br o (ob (xfld 1 a) fun p =>
 ob (ldN false 1 p b) fun q =>
 ob (xbin PP .leq 3 q (iv 255)) fun r =>
 asB (shr (shr r)) fun s => br s (ob (xfld 2 a) fun t =>
 ob (ldN false 1 t b) fun u =>
 ob (xbin PP .geq 3 u (iv 1)) fun v =>
 asB (shr (shr v)) fun w => br w (ob (xfld 2 a) fun x =>
 ob (ldN false 1 x b) fun y =>
 ob (xbin PP .leq 3 y (iv 1048576)) fun z =>
 asB (shr (shr z)) fun A => br A (ob (xfld 3 a) fun C =>
 ob (ldN false 1 C b) fun D =>
 ob (xbin PP .geq 3 D (iv 0)) fun F =>
 asB (shr (shr F)) fun G => br G (ob (xfld 3 a) fun I =>
 ob (ldN false 1 I b) fun J =>
 ob (xbin PP .leq 3 J (iv 4096)) fun M =>
 Z1x (shr (shr M)) b)
 (Z1x (bv false) b))
 (Z1x (bv false) b))
 (Z1x (bv false) b))
 (Z1x (bv false) b))
 (Z1x (bv false) b))
 (Z1x (bv false) b))
 (Z1x (bv false) b)))) := (E_eq PP XX HH _ _ _).trans (by kernel_rfl)
noncomputable def ZPN := Z3b Tryz.f47
def ZBH := l2 (l2 ZPN)
def Zl3 := l2 (l2 (l2 (l2 ZBH)))
def ZwQ := l1 (l1 (l2 (l1 Zl3)))
def ZIQ := l2 (l2 ZwQ)
def ZzH (r0 r1 : AV) (B : List Row) : Option Res :=
 ob (ob (ldN true 9 r0 B) fun v => ob (ob (ldN true 2 r1 B) fun v => ob (some []) fun vs => some (v :: vs)) fun vs => some (v :: vs)) fun vs => some ((nrmA (match vs with | [v] => v | vs => Z8r (vs.map shr))), B)
def Zl2 (m0 : Nat) : Kont := kret PP HH 47 Tryz.f47.results
def ZOL := kseq HH 47 m0 Zl3 (exec PP HH 47 m0 EE LL Zl3 (Zl2 m0)) (Zl2 m0)
def ZOM := kseq HH 47 m0 (l2 Zl3) (exec PP HH 47 m0 EE LL (l2 Zl3) (Zl2 m0)) (Zl2 m0)
def ZBE := kblk 0 (ZOM m0)
def ZIL := kloop HH 47 m0 ZwQ (LL 47 m0 ZwQ (ZBE m0)) (ZBE m0)
def ZBF := exec PP HH 47 m0 EE LL ZBH (Zl2 m0) [(0, x0), (2, x2), (3, x3)] B
def ZBG := exec PP HH 47 m0 EE LL (l1 (l2 (l1 (l2 (l2 (l2 ZBH)))))) (ZOL m0) [(2, x2), (3, x3), (4, x4), (5, x5)] B
def ZsF := exec PP HH 47 m0 EE LL Zl3 (Zl2 m0) [(2, x2), (3, x3), (4, x4), (5, x5)] B
def ZsE := lp (LL 47 m0 ZwQ (ZBE m0) [(2, x2), (3, x3), (4, x4), (5, x5), (50, x50), (51, x51), (52, x52)] B)
def ZzE := exec PP HH 47 m0 EE LL ZIQ (ZIL m0) [(2, x2), (3, x3), (4, x4), (5, x5), (50, x50), (51, x51), (52, x52)] B
def ZzF := exec PP HH 47 m0 EE LL (l2 Zl3) (Zl2 m0) [(2, x2), (3, x3), (4, x4), (5, x5)] B
def Zul := exec PP HH 47 m0 EE LL (l2 ZIQ) (ZIL m0) [(2, x2), (3, x3), (4, x4), (5, x5), (50, x50), (51, x51), (52, x52)] B
def ZzG := exec PP HH 47 m0 EE LL (l2 (l2 Zl3)) (Zl2 m0) [(2, x2), (3, x3), (4, x4), (5, x5)] B
theorem ZIN : ZBF m0 x0 x2 x3 B =
 mk (ob (xcnv PP 9 141 (shr x0)) fun a =>
 ob (Z21 PP 144 [(0, a)]) fun b =>
 bx b B fun c d =>
 mk (callS false EE 68 [(shr (shr c)), (.p (.v (.string (ByteArray.mk #[40, 63, 105, 41]))))] d fun e f =>
 ob (Z21 PP 100 [(2, e)]) fun g =>
 bz PP 100 f fun h i =>
 stN 9 h g i fun j =>
 mk (callS false EE 69 [(shr (shr c))] j fun k l =>
 ob (xfld 0 h) fun n =>
 stN 7 n k l fun o =>
 mk (ob (Z2m (shr (shr c))) fun q =>
 ob (xfld 5 q) fun r =>
 ob (xfld 0 r) fun s =>
 ob (ldN false 1 s o) fun t =>
 ob (xbin PP .eql 30 t (iv 0)) fun u =>
 asB (shr u) fun w => br w (ob (Z2m (shr (shr c))) fun x =>
 ob (xfld 1 x) fun y =>
 ob (ldN false 1 y o) fun z =>
 ob (Z2m (shr (shr c))) fun A =>
 ob (xfld 0 A) fun C =>
 ob (ldN false 1 C o) fun D =>
 ob (xlen PP 141 D) fun F =>
 ob (xbin PP .lss 3 z F) fun G =>
 asB (shr G) fun I => br I (ZBG m0 x2 x3 (shr c) h (gcB m0 [x2, x3, (shr c), h] o))
 (ZsF m0 x2 x3 (shr c) h (gcB m0 [x2, x3, (shr c), h] o)))
 (ZsF m0 x2 x3 (shr c) h (gcB m0 [x2, x3, (shr c), h] o)))))) := by kernel_rfl
theorem ZIO : ZBG m0 x2 x3 x4 x5 B =
 mk (ob (Z2m (shr x4)) fun a =>
 ob (xfld 1 a) fun b =>
 ob (ldN false 1 b B) fun c =>
 callS false EE 70 [(shr x4), (iv 20), c] B fun d e =>
 ZsF m0 x2 x3 x4 x5 (gcB m0 [x2, x3, x4, x5] e)) := by kernel_rfl
theorem ZIP : ZsF m0 x2 x3 x4 x5 B =
 mk (ob (Z2m (shr x4)) fun a =>
 ob (xfld 4 a) fun b =>
 ob (ldN false 1 b B) fun c =>
 ob (xlen PP 142 c) fun d =>
 ZsE m0 x2 x3 x4 x5 c d (iv 0) (gcB m0 [x2, x3, x4, x5, c, d, (iv 0)] B)) := by kernel_rfl
theorem ZIM : ZsE m0 x2 x3 x4 x5 x50 x51 x52 B =
 mk (ob (xbin PP .lss 3 x52 x51) fun a =>
 asB a fun b => br b (ZzE m0 x2 x3 x4 x5 x50 x51 x52 (gcB m0 [x2, x3, x4, x5, x50, x51, x52] B))
 (ZzF m0 x2 x3 x4 x5 (gcB m0 [x2, x3, x4, x5] B))) := lq_ (by kernel_rfl)
theorem ZGH : ZzE m0 x2 x3 x4 x5 x50 x51 x52 B =
 mk (ob (xidx 2 x50 x52) fun a =>
 ob (ldN true 2 a B) fun b =>
 bz PP 149 B fun c d =>
 stN 2 c b d fun e =>
 mk (ob (xfld 0 c) fun f =>
 ob (ldN false 1 f e) fun g =>
 ob (Z2m (shr x4)) fun h =>
 ob (xfld 2 h) fun i =>
 ob (ldN false 1 i e) fun j =>
 ob (xbin PP .gtr 3 g j) fun k =>
 asB k fun l => br l (mk (ob (xfld 1 c) fun n =>
 ob (ldN false 1 n e) fun o =>
 callS false EE 70 [(shr x4), (iv 26), o] e fun p q =>
 Zul m0 x2 x3 x4 x5 x50 x51 x52 (gcB m0 [x2, x3, x4, x5, x50, x51, x52] q)))
 (Zul m0 x2 x3 x4 x5 x50 x51 x52 (gcB m0 [x2, x3, x4, x5, x50, x51, x52] e)))) := by kernel_rfl
theorem ZGJ : ZzF m0 x2 x3 x4 x5 B =
 mk (ob (Z2m (shr x4)) fun a =>
 ob (xfld 5 a) fun b =>
 ob (xfld 0 b) fun c =>
 ob (ldN false 1 c B) fun d =>
 ob (xbin PP .neq 30 d (iv 0)) fun e =>
 asB e fun f => br f (mk (ob (Z21 PP 100 []) fun g =>
 ob (Z2m (shr x4)) fun h =>
 ob (xfld 5 h) fun i =>
 ob (ldN true 2 i B) fun j =>
 stN 9 x2 g B fun k =>
 stN 2 x3 j k fun l =>
 grd (Z7T i x2) (ZzH x2 x3 l)))
 (ZzG m0 x2 x3 x4 x5 (gcB m0 [x2, x3, x4, x5] B))) := by kernel_rfl
theorem ZGI : Zul m0 x2 x3 x4 x5 x50 x51 x52 B =
 mk (ob (xbin PP .add 3 x52 (iv 1)) fun a =>
 ZsE m0 x2 x3 x4 x5 x50 x51 (shr a) (gcB m0 [x2, x3, x4, x5, x50, x51, (shr a)] B)) := by kernel_rfl
theorem ZGK : ZzG m0 x2 x3 x4 x5 B =
 mk (ob (Z2m (shr x4)) fun a =>
 ob (xfld 2 a) fun b =>
 ob (ldN false 1 b B) fun c =>
 ob (xfld 7 x5) fun d =>
 stN 1 d c B fun e =>
 mk (ob (ldN true 9 x5 e) fun f =>
 ob (Z21 PP 102 []) fun g =>
 stN 9 x2 f e fun h =>
 stN 2 x3 g h fun i =>
 ZzH x2 x3 i)) := by kernel_rfl
theorem ZOK : EE 47 [x0] B =
 (let m0 := B.length
 mk (bz PP 100 B fun a b =>
 bz PP 102 b fun c d =>
 mk (ob (xlen PP 9 (shr x0)) fun e =>
 ob (xbin PP .gtr 3 e (iv 256)) fun f =>
 asB f fun g => br g (mk (ob (Z21 PP 100 []) fun h =>
 ob (Z21 PP 102 [(0, (iv 12))]) fun i =>
 stN 9 a h d fun j =>
 stN 2 c i j fun k =>
 ZzH a c k))
 (ZBF m0 x0 a c (gcB m0 [x0, a, c] d))))) := (E_eq PP XX HH _ _ _).trans (by kernel_rfl)
noncomputable def ZPO := Z3b Tryz.f48
def ZOO (m0 : Nat) : Kont := kret PP HH 48 Tryz.f48.results
def ZBI := exec PP HH 48 m0 EE LL (l2 (l2 ZPO)) (ZOO m0) [] B
theorem ZIR : ZBI m0 B =
 mk (Z1x (iv 0) B) := by kernel_rfl
theorem ZON : EE 48 [x0] B =
 (let m0 := B.length
 mk (bx x0 B fun a b =>
 mk (ob (xfld 0 a) fun c =>
 ob (ldN true 7 c b) fun d =>
 callS false EE 71 [d] b fun e f =>
 ob (xun PP .not e) fun g =>
 asB (shr g) fun h => br h (mk (Z1x (iv 27) f))
 (mk (ob (xfld 0 a) fun i =>
 ob (ldN true 7 i f) fun j =>
 callS false EE 72 [j] f fun k l =>
 ob (xbin PP .add 3 k (iv 3)) fun n =>
 ob (xbin PP .gtr 3 n (iv 2000)) fun o =>
 asB (shr o) fun p => br p (mk (Z1x (iv 28) l))
 (ZBI m0 (gcB m0 [] l))))))) := (E_eq PP XX HH _ _ _).trans (by kernel_rfl)
def Zum (B : List Row) : Option Res :=
 ob (some []) fun vs => some ((nrmA (match vs with | [v] => v | vs => Z8r (vs.map shr))), B)
theorem ZwR : EE 49 [x0, x1] B =
 (let m0 := B.length
 mk (ob (xbin PP .neq 3 (shr x1) (iv (-1))) fun a =>
 asB a fun b => br b (mk (ob (Z2m (shr x0)) fun c =>
 stN 1 c (shr x1) B fun d =>
 Zum d))
 (Zum B))) := (E_eq PP XX HH _ _ _).trans (by kernel_rfl)
theorem ZOP : EE 50 [x0, x1] B =
 (let m0 := B.length
 mk (bx x1 B fun a b =>
 mk (callS false EE 57 [(shr x0), (.clo 73 ([].map nrmA) ([a].map nrmA))] b fun c d =>
 ob (xun PP .not c) fun e =>
 Z1x (shr e) d))) := (E_eq PP XX HH _ _ _).trans (by kernel_rfl)
theorem ZOQ : EE 51 [x0] B =
 (let m0 := B.length
 mk (bx x0 B fun a b =>
 mk (xmake PP 152 b fun c d =>
 bz PP 152 d fun e f =>
 stN 1 e c f fun g =>
 mk (bz PP 120 g fun h i =>
 stN 1 h (.clo 74 ([].map nrmA) ([e].map nrmA)) i fun j =>
 mk (ob (xfld 4 a) fun k =>
 ob (ldN false 1 k j) fun l =>
 callS false EE 57 [l, (.clo 75 ([].map nrmA) ([h].map nrmA))] j fun n o =>
 asB (shr n) fun p => br p (Z1x (bv true) o)
 (ob (xfld 5 a) fun q =>
 ob (ldN false 1 q o) fun r =>
 ob (ldN false 1 h o) fun s =>
 callS false EE 59 [r, s] o fun t u =>
 Z1x (shr (shr t)) u)))))) := (E_eq PP XX HH _ _ _).trans (by kernel_rfl)
theorem ZOR : EE 53 [x0] B =
 (let m0 := B.length
 mk (bx x0 B fun a b =>
 mk (Z1x (shr (.clo 78 ([].map nrmA) ([a].map nrmA))) b))) := (E_eq PP XX HH _ _ _).trans (by kernel_rfl)
def ZNc (r0 : AV) (B : List Row) : Option Res :=
 ob (ob (ldN true 9 r0 B) fun v => ob (some []) fun vs => some (v :: vs)) fun vs => some ((nrmA (match vs with | [v] => v | vs => Z8r (vs.map shr))), B)
theorem ZOS : EE 55 [x0, x1, x2, x3] B =
 (let m0 := B.length
 mk (bz PP 61 B fun a b =>
 mk (ob (Z21 PP 43 [(0, (shr x2)), (3, (iv 1)), (4, (shr x3))]) fun c =>
 ob (xlit PP 22 1 [(0, c)]) fun d =>
 ob (Z21 PP 29 [(0, (iv (-1))), (1, (iv (-1))), (2, (iv (-1))), (3, (iv (-1))), (4, d)]) fun e =>
 ob (Z21 PP 61 [(1, (shr x0)), (2, (shr x1)), (3, e)]) fun f =>
 stN 9 a f b fun g =>
 ZNc a g))) := (E_eq PP XX HH _ _ _).trans (by kernel_rfl)
theorem ZOT : EE 56 [x0, x1] B =
 (let m0 := B.length
 mk (mk (ob (xbin PP .geq 3 (shr x0) (shr x1)) fun a =>
 asB (shr a) fun b => br b (ob (xbin PP .leq 3 (shr x0) (iv 1099511627776)) fun c =>
 Z1x (shr (shr c)) B)
 (Z1x (bv false) B)))) := (E_eq PP XX HH _ _ _).trans (by kernel_rfl)
theorem ZBJ : EE 57 [x0, x1] B =
 (let m0 := B.length
 mk (mk (callS false EE 83 [(shr x0), (shr x1)] B fun a b =>
 ob (xbin PP .geq 3 a (iv 0)) fun c =>
 Z1x (shr c) b))) := (E_eq PP XX HH _ _ _).trans (by kernel_rfl)
theorem ZOU : EE 58 [x0] B =
 (let m0 := B.length
 mk (bx x0 B fun a b =>
 mk (ob (ldN true 5 a b) fun c =>
 callS false EE 27 [c] b fun d e =>
 ob (xun PP .not d) fun f =>
 Z1x (shr f) e))) := (E_eq PP XX HH _ _ _).trans (by kernel_rfl)
theorem ZIS : EE 59 [x0, x1] B =
 (let m0 := B.length
 mk (mk (callS false EE 84 [(shr x0), (shr x1)] B fun a b =>
 ob (xbin PP .geq 3 a (iv 0)) fun c =>
 Z1x (shr c) b))) := (E_eq PP XX HH _ _ _).trans (by kernel_rfl)
theorem ZOV : EE 60 [x0] B =
 (let m0 := B.length
 mk (mk (callS false EE 56 [(shr x0), (iv 1)] B fun a b =>
 ob (xun PP .not a) fun c =>
 Z1x (shr c) b))) := (E_eq PP XX HH _ _ _).trans (by kernel_rfl)
noncomputable def ZPP := Z3b Tryz.f61
def ZEH (r0 : AV) (B : List Row) : Option Res :=
 ob (ob (ldN true 4 r0 B) fun v => ob (some []) fun vs => some (v :: vs)) fun vs => some ((nrmA (match vs with | [v] => v | vs => Z8r (vs.map shr))), B)
def ZOX (m0 : Nat) : Kont := kret PP HH 61 Tryz.f61.results
def ZBK := exec PP HH 61 m0 EE LL (l2 (l2 (l2 ZPP))) (ZOX m0) [(0, x0), (4, x4), (5, x5)] B
theorem ZIT : ZBK m0 x0 x4 x5 B =
 mk (ob (Z2m (shr x0)) fun a =>
 ob (xfld 0 a) fun b =>
 ldOwn b B fun c d =>
 ob (ldN true 5 x5 d) fun e =>
 ob (xlit PP 121 1 [(0, e)]) fun f =>
 ob (xapp 5 c f) fun g =>
 ob (Z2m (shr x0)) fun h =>
 ob (xfld 0 h) fun i =>
 stN 1 i g d fun j =>
 grd (Z7T b x5) (mk (ob (Z2m (shr x0)) fun k =>
 ob (xfld 0 k) fun l =>
 ob (ldN false 1 l j) fun n =>
 ob (xlen PP 121 n) fun o =>
 ob (xbin PP .sub 3 o (iv 1)) fun p =>
 ob (Z21 PP 66 [(0, p)]) fun q =>
 stN 4 x4 q j fun r =>
 ZEH x4 r))) := by kernel_rfl
theorem ZOW : EE 61 [x0, x1] B =
 (let m0 := B.length
 mk (bx x1 B fun a b =>
 bz PP 66 b fun c d =>
 mk (ob (Z2m (shr x0)) fun e =>
 ob (xfld 0 e) fun f =>
 ob (ldN false 1 f d) fun g =>
 ob (Z2m (shr x0)) fun h =>
 ob (xfld 0 h) fun i =>
 ob (ldN false 1 i d) fun j =>
 ob (xlen PP 121 j) fun k =>
 ob (xbin PP .sub 3 k (iv 1)) fun l =>
 ob (xidx 5 g l) fun n =>
 ob (ldN true 5 n d) fun o =>
 ob (ldN true 6 a d) fun p =>
 callS false EE 23 [o, p] d fun q r =>
 ob (xext 0 (shr q)) fun s =>
 ob (xext 1 (shr q)) fun t =>
 bz PP 24 r fun u v =>
 bz PP 32 v fun w x =>
 stN 5 u (shr s) x fun y =>
 stN 3 w (shr t) y fun z =>
 grd (Z7T f u) (grd (Z7T i u) (grd (Z7T n u) (grd (Z7T a u) (grd (Zb0 [q, o, p]) (grd (Z7T f w) (grd (Z7T i w) (grd (Z7T n w) (grd (Z7T a w) (grd (Zb0 [q, o, p]) (mk (ob (xfld 0 w) fun A =>
 ob (ldN false 1 A z) fun C =>
 ob (xbin PP .neq 30 C (iv 0)) fun D =>
 asB D fun F => br F (mk (ob (ldN true 3 w z) fun G =>
 ob (Z21 PP 66 [(1, G)]) fun I =>
 stN 4 c I z fun J =>
 ZEH c J))
 (ZBK m0 x0 c u (gcB m0 [x0, c, u] z)))))))))))))))) := (E_eq PP XX HH _ _ _).trans (by kernel_rfl)
noncomputable def ZLD := Z3b Tryz.f68
def ZBN := l2 (l2 ZLD)
def ZBL (m0 : Nat) : Kont := kret PP HH 68 Tryz.f68.results
def ZOZ := kseq HH 68 m0 ZBN (exec PP HH 68 m0 EE LL ZBN (ZBL m0)) (ZBL m0)
def ZwS := exec PP HH 68 m0 EE LL (l1 (l2 (l1 (l2 ZLD)))) (ZOZ m0) [] B
def ZBM := exec PP HH 68 m0 EE LL ZBN (ZBL m0) [(0, x0), (1, x1)] B
theorem ZIU : ZwS m0 B =
 mk (Z1x (bv false) B) := by kernel_rfl
theorem ZIV : ZBM m0 x0 x1 B =
 mk (ob (Z2m (shr x0)) fun a =>
 ob (xfld 1 a) fun b =>
 ob (ldN false 1 b B) fun c =>
 ob (xlen PP 9 (shr x1)) fun d =>
 ob (xbin PP .add 3 c d) fun e =>
 ob (Z2m (shr x0)) fun f =>
 ob (xfld 1 f) fun g =>
 stN 1 g e B fun h =>
 mk (Z1x (bv true) h)) := by kernel_rfl
theorem ZOY : EE 68 [x0, x1] B =
 (let m0 := B.length
 mk (mk (ob (Z2m (shr x0)) fun a =>
 ob (xfld 0 a) fun b =>
 ob (ldN false 1 b B) fun c =>
 ob (xlen PP 141 c) fun d =>
 ob (Z2m (shr x0)) fun e =>
 ob (xfld 1 e) fun f =>
 ob (ldN false 1 f B) fun g =>
 ob (xbin PP .sub 3 d g) fun h =>
 ob (xlen PP 9 (shr x1)) fun i =>
 ob (xbin PP .lss 3 h i) fun j =>
 asB (shr j) fun k => br k (ZwS m0 (gcB m0 [] B))
 (ob (Z2m (shr x0)) fun l =>
 ob (xfld 0 l) fun n =>
 ob (ldN false 1 n B) fun o =>
 ob (Z2m (shr x0)) fun p =>
 ob (xfld 1 p) fun q =>
 ob (ldN false 1 q B) fun r =>
 ob (Z2m (shr x0)) fun s =>
 ob (xfld 1 s) fun t =>
 ob (ldN false 1 t B) fun u =>
 ob (xlen PP 9 (shr x1)) fun v =>
 ob (xbin PP .add 3 u v) fun w =>
 ob (xsl 1 o (some r) (some w) none) fun x =>
 ob (xcnv PP 141 9 x) fun y =>
 ob (xbin PP .neq 9 y (shr x1)) fun z =>
 asB (shr z) fun A => br A (ZwS m0 (gcB m0 [] B))
 (ZBM m0 x0 x1 (gcB m0 [x0, x1] B)))))) := (E_eq PP XX HH _ _ _).trans (by kernel_rfl)
noncomputable def ZLE := Z3b Tryz.f69
def ZBS := l2 (l2 (l2 ZLE))
def ZwT := l1 (l1 (l1 (l2 (l2 ZLE))))
def Z9t (r0 : AV) (B : List Row) : Option Res :=
 ob (ob (ldN true 7 r0 B) fun v => ob (some []) fun vs => some (v :: vs)) fun vs => some ((nrmA (match vs with | [v] => v | vs => Z8r (vs.map shr))), B)
def ZBO (m0 : Nat) : Kont := kret PP HH 69 Tryz.f69.results
def ZP1 := kseq HH 69 m0 ZBS (exec PP HH 69 m0 EE LL ZBS (ZBO m0)) (ZBO m0)
def ZBP := kblk 0 (ZP1 m0)
def ZP2 := kloop HH 69 m0 ZwT (LL 69 m0 ZwT (ZBP m0)) (ZBP m0)
def ZsG := lp (LL 69 m0 ZwT (ZBP m0) [(0, x0), (2, x2), (3, x3)] B)
def ZBQ := exec PP HH 69 m0 EE LL (l2 ZwT) (ZP2 m0) [(0, x0), (2, x2), (3, x3)] B
def ZBR := exec PP HH 69 m0 EE LL ZBS (ZBO m0) [(2, x2), (3, x3)] B
theorem ZIW : ZsG m0 x0 x2 x3 B =
 mk (callS false EE 68 [(shr x0), (.p (.v (.string (ByteArray.mk #[124]))))] B fun a b =>
 asB a fun c => br c (ZBQ m0 x0 x2 x3 (gcB m0 [x0, x2, x3] b))
 (ZBR m0 x2 x3 (gcB m0 [x2, x3] b))) := lq_ (by kernel_rfl)
theorem ZIX : ZBQ m0 x0 x2 x3 B =
 mk (callS false EE 91 [(shr x0)] B fun a b =>
 ob (xlit PP 96 1 [(0, a)]) fun c =>
 ob (xapp 7 x3 c) fun d =>
 ZsG m0 x0 x2 d (gcB m0 [x0, x2, d] b)) := by kernel_rfl
theorem ZIY : ZBR m0 x2 x3 B =
 mk (callS false EE 92 [(iv 3), (shr x3)] B fun a b =>
 stN 7 x2 a b fun c =>
 Z9t x2 c) := by kernel_rfl
theorem ZP0 : EE 69 [x0] B =
 (let m0 := B.length
 mk (bz PP 98 B fun a b =>
 mk (callS false EE 91 [(shr x0)] b fun c d =>
 ob (xlit PP 96 1 [(0, c)]) fun e =>
 ZsG m0 x0 a e (gcB m0 [x0, a, e] d)))) := (E_eq PP XX HH _ _ _).trans (by kernel_rfl)
noncomputable def ZPQ := Z3b Tryz.f70
def ZP4 (m0 : Nat) : Kont := kret PP HH 70 Tryz.f70.results
def ZwU := exec PP HH 70 m0 EE LL (l2 ZPQ) (ZP4 m0) [(0, x0)] B
theorem ZIZ : ZwU m0 x0 B =
 mk (ob (Z2m (shr x0)) fun a =>
 ob (xfld 0 a) fun b =>
 ob (ldN false 1 b B) fun c =>
 ob (xlen PP 141 c) fun d =>
 ob (Z2m (shr x0)) fun e =>
 ob (xfld 1 e) fun f =>
 stN 1 f d B fun g =>
 Zum g) := by kernel_rfl
theorem ZP3 : EE 70 [x0, x1, x2] B =
 (let m0 := B.length
 mk (ob (Z2m (shr x0)) fun a =>
 ob (xfld 5 a) fun b =>
 ob (xfld 0 b) fun c =>
 ob (ldN false 1 c B) fun d =>
 ob (xbin PP .eql 30 d (iv 0)) fun e =>
 asB e fun f => br f (mk (ob (Z21 PP 102 [(0, (shr x1)), (1, (shr x2))]) fun g =>
 ob (Z2m (shr x0)) fun h =>
 ob (xfld 5 h) fun i =>
 stN 2 i g B fun j =>
 ZwU m0 x0 (gcB m0 [x0] j)))
 (ZwU m0 x0 (gcB m0 [x0] B)))) := (E_eq PP XX HH _ _ _).trans (by kernel_rfl)
noncomputable def ZLF := Z3b Tryz.f71
def ZBV := l2 (l2 ZLF)
def ZJ4 := l1 (l2 (l1 (l2 ZLF)))
def ZBT (m0 : Nat) : Kont := kret PP HH 71 Tryz.f71.results
def ZJ0 := kseq HH 71 m0 ZBV (exec PP HH 71 m0 EE LL ZBV (ZBT m0)) (ZBT m0)
def ZBU := exec PP HH 71 m0 EE LL ZJ4 (ZJ0 m0) [(1, x1)] B
def ZsH := exec PP HH 71 m0 EE LL ZBV (ZBT m0) [(1, x1)] B
def ZwV := exec PP HH 71 m0 EE LL (l1 (l2 (l2 ZJ4))) (ZJ0 m0) [] B
theorem ZJ1 : ZBU m0 x1 B =
 mk (ob (xfld 6 x1) fun a =>
 ob (ldN false 1 a B) fun b =>
 ob (xidx 7 b (iv 0)) fun c =>
 ob (ldN true 7 c B) fun d =>
 callS false EE 93 [d] B fun e f =>
 ob (xext 0 (shr e)) fun g =>
 ob (xext 1 (shr e)) fun h =>
 mk (ob (xbin PP .lss 3 (shr (shr (shr h))) (iv 0)) fun i =>
 asB (shr i) fun j => br j (ZwV m0 (gcB m0 [] f))
 (ob (xbin PP .gtr 3 (shr (shr (shr h))) (iv 32)) fun k =>
 asB (shr k) fun l => br l (ZwV m0 (gcB m0 [] f))
 (ZsH m0 x1 (gcB m0 [x1] f))))) := by kernel_rfl
theorem ZJ3 : ZsH m0 x1 B =
 mk (ob (xfld 6 x1) fun a =>
 ob (ldN false 1 a B) fun b =>
 callS false EE 94 [b, (.clo 95 [] [])] B fun c d =>
 ob (xun PP .not c) fun e =>
 Z1x (shr e) d) := by kernel_rfl
theorem ZJ2 : ZwV m0 B =
 mk (Z1x (bv false) B) := by kernel_rfl
theorem ZP5 : EE 71 [x0] B =
 (let m0 := B.length
 mk (bx x0 B fun a b =>
 mk (ob (xfld 0 a) fun c =>
 ob (ldN false 1 c b) fun d =>
 ob (xbin PP .eql 3 d (iv 7)) fun e =>
 asB (shr e) fun f => br f (ob (xfld 3 a) fun g =>
 ob (ldN false 1 g b) fun h =>
 ob (xbin PP .geq 3 h (iv 2)) fun i =>
 asB (shr i) fun j => br j (ZBU m0 a (gcB m0 [a] b))
 (ZsH m0 a (gcB m0 [a] b)))
 (ZsH m0 a (gcB m0 [a] b))))) := (E_eq PP XX HH _ _ _).trans (by kernel_rfl)
noncomputable def ZLG := Z3b Tryz.f72
def ZmU := l2 (l2 (l2 ZLG))
def ZwW := l1 (l1 (l2 (l1 (l2 (l2 ZLG)))))
def Zps (m0 : Nat) : Kont := kret PP HH 72 Tryz.f72.results
def ZP7 := kseq HH 72 m0 ZmU (exec PP HH 72 m0 EE LL ZmU (Zps m0)) (Zps m0)
def ZBW := kblk 0 (ZP7 m0)
def ZP8 := kloop HH 72 m0 ZwW (LL 72 m0 ZwW (ZBW m0)) (ZBW m0)
def ZP9 := kseq HH 72 m0 (l2 ZmU) (exec PP HH 72 m0 EE LL (l2 ZmU) (Zps m0)) (Zps m0)
def ZPa := kblk 2 (ZP9 m0)
def ZsI := lp (LL 72 m0 ZwW (ZBW m0) [(1, x1), (3, x3), (8, x8), (9, x9), (10, x10)] B)
def ZBX := exec PP HH 72 m0 EE LL (l2 (l2 ZwW)) (ZP8 m0) [(1, x1), (3, x3), (8, x8), (9, x9), (10, x10)] B
def ZBY := exec PP HH 72 m0 EE LL ZmU (Zps m0) [(1, x1), (3, x3)] B
def Z5m := exec PP HH 72 m0 EE LL (l2 ZmU) (Zps m0) [(3, x3)] B
def Z76 := exec PP HH 72 m0 EE LL (l2 (l2 (l2 (l1 (l2 (l2 (l2 (l2 (l2 (l2 (l2 (l1 (l2 (l1 ZmU)))))))))))))) (ZPa m0) [(1, x1), (3, x3)] B
theorem ZJ5 : ZsI m0 x1 x3 x8 x9 x10 B =
 mk (ob (xbin PP .lss 3 x10 x9) fun a =>
 asB a fun b => br b (ZBX m0 x1 x3 x8 x9 x10 (gcB m0 [x1, x3, x8, x9, x10] B))
 (ZBY m0 x1 x3 (gcB m0 [x1, x3] B))) := lq_ (by kernel_rfl)
theorem ZJ6 : ZBX m0 x1 x3 x8 x9 x10 B =
 mk (ob (xidx 7 x8 x10) fun a =>
 ob (ldN true 7 a B) fun b =>
 bz PP 98 B fun c d =>
 stN 7 c b d fun e =>
 mk (ob (ldN true 7 c e) fun f =>
 callS false EE 72 [f] e fun g h =>
 ob (xbin PP .add 3 (shr x3) g) fun i =>
 ob (Z9x PP false [i, (iv 1048576)]) fun j =>
 mk (ob (xbin PP .add 3 x10 (iv 1)) fun k =>
 ZsI m0 x1 (shr j) x8 x9 (shr k) (gcB m0 [x1, (shr j), x8, x9, (shr k)] h)))) := by kernel_rfl
theorem ZJ7 : ZBY m0 x1 x3 B =
 mk (ob (xfld 0 x1) fun a =>
 ob (ldN false 1 a B) fun b =>
 mk (ob (xbin PP .eql 3 b (iv 1)) fun c =>
 asB (shr c) fun d => br d (asB (shr c) fun e => br e (mk (Z1x (iv 1) B))
 (mk (ob (xbin PP .eql 3 b (iv 3)) fun f =>
 asB (shr f) fun g => br g (mk (ob (xfld 6 x1) fun h =>
 ob (ldN false 1 h B) fun i =>
 ob (xlen PP 96 i) fun j =>
 ob (xbin PP .sub 3 j (iv 1)) fun k =>
 ob (xbin PP .mul 3 (iv 2) k) fun l =>
 ob (xbin PP .add 3 (shr x3) l) fun n =>
 Z5m m0 (shr n) (gcB m0 [(shr n)] B)))
 (mk (ob (xbin PP .eql 3 b (iv 5)) fun o =>
 asB (shr o) fun p => br p (asB (shr o) fun q => br q (mk (ob (xbin PP .add 3 (shr x3) (iv 2)) fun r =>
 Z5m m0 (shr r) (gcB m0 [(shr r)] B)))
 (mk (ob (xbin PP .eql 3 b (iv 4)) fun s =>
 asB (shr s) fun t => br t (mk (mk (ob (xfld 1 x1) fun u =>
 ob (ldN false 1 u B) fun v =>
 ob (xbin PP .mul 3 v (shr (shr (shr x3)))) fun w =>
 mk (ob (xfld 2 x1) fun x =>
 ob (ldN false 1 x B) fun y =>
 ob (xbin PP .lss 3 y (iv 0)) fun z =>
 asB z fun A => br A (mk (ob (xbin PP .add 3 (shr (shr (shr x3))) (iv 4)) fun C =>
 ob (xbin PP .add 3 (shr (shr w)) C) fun D =>
 Z76 m0 x1 (shr D) (gcB m0 [x1, (shr D)] B)))
 (mk (ob (xfld 2 x1) fun F =>
 ob (ldN false 1 F B) fun G =>
 ob (xfld 1 x1) fun I =>
 ob (ldN false 1 I B) fun J =>
 ob (xbin PP .sub 3 G J) fun M =>
 ob (xbin PP .add 3 (shr (shr (shr x3))) (iv 1)) fun N =>
 ob (xbin PP .mul 3 M N) fun O =>
 ob (xbin PP .add 3 (shr (shr w)) O) fun Q =>
 Z76 m0 x1 (shr Q) (gcB m0 [x1, (shr Q)] B)))))))
 (Z5m m0 x3 (gcB m0 [x3] B)))))
 (mk (ob (xbin PP .eql 3 b (iv 7)) fun R =>
 asB (shr R) fun S => br S (asB (shr R) fun T => br T (mk (ob (xbin PP .add 3 (shr x3) (iv 2)) fun U =>
 Z5m m0 (shr U) (gcB m0 [(shr U)] B)))
 (mk (ob (xbin PP .eql 3 b (iv 4)) fun V =>
 asB (shr V) fun W => br W (mk (mk (ob (xfld 1 x1) fun Y =>
 ob (ldN false 1 Y B) fun Z =>
 ob (xbin PP .mul 3 Z (shr (shr (shr x3)))) fun a0 =>
 mk (ob (xfld 2 x1) fun a1 =>
 ob (ldN false 1 a1 B) fun a2 =>
 ob (xbin PP .lss 3 a2 (iv 0)) fun a3 =>
 asB a3 fun a4 => br a4 (mk (ob (xbin PP .add 3 (shr (shr (shr x3))) (iv 4)) fun a5 =>
 ob (xbin PP .add 3 (shr (shr a0)) a5) fun a6 =>
 Z76 m0 x1 (shr a6) (gcB m0 [x1, (shr a6)] B)))
 (mk (ob (xfld 2 x1) fun a7 =>
 ob (ldN false 1 a7 B) fun a8 =>
 ob (xfld 1 x1) fun a9 =>
 ob (ldN false 1 a9 B) fun a10 =>
 ob (xbin PP .sub 3 a8 a10) fun a11 =>
 ob (xbin PP .add 3 (shr (shr (shr x3))) (iv 1)) fun a12 =>
 ob (xbin PP .mul 3 a11 a12) fun a13 =>
 ob (xbin PP .add 3 (shr (shr a0)) a13) fun a14 =>
 Z76 m0 x1 (shr a14) (gcB m0 [x1, (shr a14)] B)))))))
 (Z5m m0 x3 (gcB m0 [x3] B)))))
 (mk (ob (xbin PP .eql 3 b (iv 8)) fun a15 =>
 asB (shr a15) fun a16 => br a16 (mk (ob (xbin PP .add 3 (shr x3) (iv 2)) fun a17 =>
 Z5m m0 (shr a17) (gcB m0 [(shr a17)] B)))
 (mk (ob (xbin PP .eql 3 b (iv 4)) fun a18 =>
 asB (shr a18) fun a19 => br a19 (mk (mk (ob (xfld 1 x1) fun a20 =>
 ob (ldN false 1 a20 B) fun a21 =>
 ob (xbin PP .mul 3 a21 (shr (shr (shr x3)))) fun a22 =>
 mk (ob (xfld 2 x1) fun a23 =>
 ob (ldN false 1 a23 B) fun a24 =>
 ob (xbin PP .lss 3 a24 (iv 0)) fun a25 =>
 asB a25 fun a26 => br a26 (mk (ob (xbin PP .add 3 (shr (shr (shr x3))) (iv 4)) fun a27 =>
 ob (xbin PP .add 3 (shr (shr a22)) a27) fun a28 =>
 Z76 m0 x1 (shr a28) (gcB m0 [x1, (shr a28)] B)))
 (mk (ob (xfld 2 x1) fun a29 =>
 ob (ldN false 1 a29 B) fun a30 =>
 ob (xfld 1 x1) fun a31 =>
 ob (ldN false 1 a31 B) fun a32 =>
 ob (xbin PP .sub 3 a30 a32) fun a33 =>
 ob (xbin PP .add 3 (shr (shr (shr x3))) (iv 1)) fun a34 =>
 ob (xbin PP .mul 3 a33 a34) fun a35 =>
 ob (xbin PP .add 3 (shr (shr a22)) a35) fun a36 =>
 Z76 m0 x1 (shr a36) (gcB m0 [x1, (shr a36)] B)))))))
 (Z5m m0 x3 (gcB m0 [x3] B)))))))))))))
 (mk (ob (xbin PP .eql 3 b (iv 6)) fun a37 =>
 asB (shr a37) fun a38 => br a38 (asB (shr a37) fun a39 => br a39 (mk (Z1x (iv 1) B))
 (mk (ob (xbin PP .eql 3 b (iv 3)) fun a40 =>
 asB (shr a40) fun a41 => br a41 (mk (ob (xfld 6 x1) fun a42 =>
 ob (ldN false 1 a42 B) fun a43 =>
 ob (xlen PP 96 a43) fun a44 =>
 ob (xbin PP .sub 3 a44 (iv 1)) fun a45 =>
 ob (xbin PP .mul 3 (iv 2) a45) fun a46 =>
 ob (xbin PP .add 3 (shr x3) a46) fun a47 =>
 Z5m m0 (shr a47) (gcB m0 [(shr a47)] B)))
 (mk (ob (xbin PP .eql 3 b (iv 5)) fun a48 =>
 asB (shr a48) fun a49 => br a49 (asB (shr a48) fun a50 => br a50 (mk (ob (xbin PP .add 3 (shr x3) (iv 2)) fun a51 =>
 Z5m m0 (shr a51) (gcB m0 [(shr a51)] B)))
 (mk (ob (xbin PP .eql 3 b (iv 4)) fun a52 =>
 asB (shr a52) fun a53 => br a53 (mk (mk (ob (xfld 1 x1) fun a54 =>
 ob (ldN false 1 a54 B) fun a55 =>
 ob (xbin PP .mul 3 a55 (shr (shr (shr x3)))) fun a56 =>
 mk (ob (xfld 2 x1) fun a57 =>
 ob (ldN false 1 a57 B) fun a58 =>
 ob (xbin PP .lss 3 a58 (iv 0)) fun a59 =>
 asB a59 fun a60 => br a60 (mk (ob (xbin PP .add 3 (shr (shr (shr x3))) (iv 4)) fun a61 =>
 ob (xbin PP .add 3 (shr (shr a56)) a61) fun a62 =>
 Z76 m0 x1 (shr a62) (gcB m0 [x1, (shr a62)] B)))
 (mk (ob (xfld 2 x1) fun a63 =>
 ob (ldN false 1 a63 B) fun a64 =>
 ob (xfld 1 x1) fun a65 =>
 ob (ldN false 1 a65 B) fun a66 =>
 ob (xbin PP .sub 3 a64 a66) fun a67 =>
 ob (xbin PP .add 3 (shr (shr (shr x3))) (iv 1)) fun a68 =>
 ob (xbin PP .mul 3 a67 a68) fun a69 =>
 ob (xbin PP .add 3 (shr (shr a56)) a69) fun a70 =>
 Z76 m0 x1 (shr a70) (gcB m0 [x1, (shr a70)] B)))))))
 (Z5m m0 x3 (gcB m0 [x3] B)))))
 (mk (ob (xbin PP .eql 3 b (iv 7)) fun a71 =>
 asB (shr a71) fun a72 => br a72 (asB (shr a71) fun a73 => br a73 (mk (ob (xbin PP .add 3 (shr x3) (iv 2)) fun a74 =>
 Z5m m0 (shr a74) (gcB m0 [(shr a74)] B)))
 (mk (ob (xbin PP .eql 3 b (iv 4)) fun a75 =>
 asB (shr a75) fun a76 => br a76 (mk (mk (ob (xfld 1 x1) fun a77 =>
 ob (ldN false 1 a77 B) fun a78 =>
 ob (xbin PP .mul 3 a78 (shr (shr (shr x3)))) fun a79 =>
 mk (ob (xfld 2 x1) fun a80 =>
 ob (ldN false 1 a80 B) fun a81 =>
 ob (xbin PP .lss 3 a81 (iv 0)) fun a82 =>
 asB a82 fun a83 => br a83 (mk (ob (xbin PP .add 3 (shr (shr (shr x3))) (iv 4)) fun a84 =>
 ob (xbin PP .add 3 (shr (shr a79)) a84) fun a85 =>
 Z76 m0 x1 (shr a85) (gcB m0 [x1, (shr a85)] B)))
 (mk (ob (xfld 2 x1) fun a86 =>
 ob (ldN false 1 a86 B) fun a87 =>
 ob (xfld 1 x1) fun a88 =>
 ob (ldN false 1 a88 B) fun a89 =>
 ob (xbin PP .sub 3 a87 a89) fun a90 =>
 ob (xbin PP .add 3 (shr (shr (shr x3))) (iv 1)) fun a91 =>
 ob (xbin PP .mul 3 a90 a91) fun a92 =>
 ob (xbin PP .add 3 (shr (shr a79)) a92) fun a93 =>
 Z76 m0 x1 (shr a93) (gcB m0 [x1, (shr a93)] B)))))))
 (Z5m m0 x3 (gcB m0 [x3] B)))))
 (mk (ob (xbin PP .eql 3 b (iv 8)) fun a94 =>
 asB (shr a94) fun a95 => br a95 (mk (ob (xbin PP .add 3 (shr x3) (iv 2)) fun a96 =>
 Z5m m0 (shr a96) (gcB m0 [(shr a96)] B)))
 (mk (ob (xbin PP .eql 3 b (iv 4)) fun a97 =>
 asB (shr a97) fun a98 => br a98 (mk (mk (ob (xfld 1 x1) fun a99 =>
 ob (ldN false 1 a99 B) fun a100 =>
 ob (xbin PP .mul 3 a100 (shr (shr (shr x3)))) fun a101 =>
 mk (ob (xfld 2 x1) fun a102 =>
 ob (ldN false 1 a102 B) fun a103 =>
 ob (xbin PP .lss 3 a103 (iv 0)) fun a104 =>
 asB a104 fun a105 => br a105 (mk (ob (xbin PP .add 3 (shr (shr (shr x3))) (iv 4)) fun a106 =>
 ob (xbin PP .add 3 (shr (shr a101)) a106) fun a107 =>
 Z76 m0 x1 (shr a107) (gcB m0 [x1, (shr a107)] B)))
 (mk (ob (xfld 2 x1) fun a108 =>
 ob (ldN false 1 a108 B) fun a109 =>
 ob (xfld 1 x1) fun a110 =>
 ob (ldN false 1 a110 B) fun a111 =>
 ob (xbin PP .sub 3 a109 a111) fun a112 =>
 ob (xbin PP .add 3 (shr (shr (shr x3))) (iv 1)) fun a113 =>
 ob (xbin PP .mul 3 a112 a113) fun a114 =>
 ob (xbin PP .add 3 (shr (shr a101)) a114) fun a115 =>
 Z76 m0 x1 (shr a115) (gcB m0 [x1, (shr a115)] B)))))))
 (Z5m m0 x3 (gcB m0 [x3] B)))))))))))))
 (mk (ob (xbin PP .eql 3 b (iv 9)) fun a116 =>
 asB (shr a116) fun a117 => br a117 (mk (Z1x (iv 1) B))
 (mk (ob (xbin PP .eql 3 b (iv 3)) fun a118 =>
 asB (shr a118) fun a119 => br a119 (mk (ob (xfld 6 x1) fun a120 =>
 ob (ldN false 1 a120 B) fun a121 =>
 ob (xlen PP 96 a121) fun a122 =>
 ob (xbin PP .sub 3 a122 (iv 1)) fun a123 =>
 ob (xbin PP .mul 3 (iv 2) a123) fun a124 =>
 ob (xbin PP .add 3 (shr x3) a124) fun a125 =>
 Z5m m0 (shr a125) (gcB m0 [(shr a125)] B)))
 (mk (ob (xbin PP .eql 3 b (iv 5)) fun a126 =>
 asB (shr a126) fun a127 => br a127 (asB (shr a126) fun a128 => br a128 (mk (ob (xbin PP .add 3 (shr x3) (iv 2)) fun a129 =>
 Z5m m0 (shr a129) (gcB m0 [(shr a129)] B)))
 (mk (ob (xbin PP .eql 3 b (iv 4)) fun a130 =>
 asB (shr a130) fun a131 => br a131 (mk (mk (ob (xfld 1 x1) fun a132 =>
 ob (ldN false 1 a132 B) fun a133 =>
 ob (xbin PP .mul 3 a133 (shr (shr (shr x3)))) fun a134 =>
 mk (ob (xfld 2 x1) fun a135 =>
 ob (ldN false 1 a135 B) fun a136 =>
 ob (xbin PP .lss 3 a136 (iv 0)) fun a137 =>
 asB a137 fun a138 => br a138 (mk (ob (xbin PP .add 3 (shr (shr (shr x3))) (iv 4)) fun a139 =>
 ob (xbin PP .add 3 (shr (shr a134)) a139) fun a140 =>
 Z76 m0 x1 (shr a140) (gcB m0 [x1, (shr a140)] B)))
 (mk (ob (xfld 2 x1) fun a141 =>
 ob (ldN false 1 a141 B) fun a142 =>
 ob (xfld 1 x1) fun a143 =>
 ob (ldN false 1 a143 B) fun a144 =>
 ob (xbin PP .sub 3 a142 a144) fun a145 =>
 ob (xbin PP .add 3 (shr (shr (shr x3))) (iv 1)) fun a146 =>
 ob (xbin PP .mul 3 a145 a146) fun a147 =>
 ob (xbin PP .add 3 (shr (shr a134)) a147) fun a148 =>
 Z76 m0 x1 (shr a148) (gcB m0 [x1, (shr a148)] B)))))))
 (Z5m m0 x3 (gcB m0 [x3] B)))))
 (mk (ob (xbin PP .eql 3 b (iv 7)) fun a149 =>
 asB (shr a149) fun a150 => br a150 (asB (shr a149) fun a151 => br a151 (mk (ob (xbin PP .add 3 (shr x3) (iv 2)) fun a152 =>
 Z5m m0 (shr a152) (gcB m0 [(shr a152)] B)))
 (mk (ob (xbin PP .eql 3 b (iv 4)) fun a153 =>
 asB (shr a153) fun a154 => br a154 (mk (mk (ob (xfld 1 x1) fun a155 =>
 ob (ldN false 1 a155 B) fun a156 =>
 ob (xbin PP .mul 3 a156 (shr (shr (shr x3)))) fun a157 =>
 mk (ob (xfld 2 x1) fun a158 =>
 ob (ldN false 1 a158 B) fun a159 =>
 ob (xbin PP .lss 3 a159 (iv 0)) fun a160 =>
 asB a160 fun a161 => br a161 (mk (ob (xbin PP .add 3 (shr (shr (shr x3))) (iv 4)) fun a162 =>
 ob (xbin PP .add 3 (shr (shr a157)) a162) fun a163 =>
 Z76 m0 x1 (shr a163) (gcB m0 [x1, (shr a163)] B)))
 (mk (ob (xfld 2 x1) fun a164 =>
 ob (ldN false 1 a164 B) fun a165 =>
 ob (xfld 1 x1) fun a166 =>
 ob (ldN false 1 a166 B) fun a167 =>
 ob (xbin PP .sub 3 a165 a167) fun a168 =>
 ob (xbin PP .add 3 (shr (shr (shr x3))) (iv 1)) fun a169 =>
 ob (xbin PP .mul 3 a168 a169) fun a170 =>
 ob (xbin PP .add 3 (shr (shr a157)) a170) fun a171 =>
 Z76 m0 x1 (shr a171) (gcB m0 [x1, (shr a171)] B)))))))
 (Z5m m0 x3 (gcB m0 [x3] B)))))
 (mk (ob (xbin PP .eql 3 b (iv 8)) fun a172 =>
 asB (shr a172) fun a173 => br a173 (mk (ob (xbin PP .add 3 (shr x3) (iv 2)) fun a174 =>
 Z5m m0 (shr a174) (gcB m0 [(shr a174)] B)))
 (mk (ob (xbin PP .eql 3 b (iv 4)) fun a175 =>
 asB (shr a175) fun a176 => br a176 (mk (mk (ob (xfld 1 x1) fun a177 =>
 ob (ldN false 1 a177 B) fun a178 =>
 ob (xbin PP .mul 3 a178 (shr (shr (shr x3)))) fun a179 =>
 mk (ob (xfld 2 x1) fun a180 =>
 ob (ldN false 1 a180 B) fun a181 =>
 ob (xbin PP .lss 3 a181 (iv 0)) fun a182 =>
 asB a182 fun a183 => br a183 (mk (ob (xbin PP .add 3 (shr (shr (shr x3))) (iv 4)) fun a184 =>
 ob (xbin PP .add 3 (shr (shr a179)) a184) fun a185 =>
 Z76 m0 x1 (shr a185) (gcB m0 [x1, (shr a185)] B)))
 (mk (ob (xfld 2 x1) fun a186 =>
 ob (ldN false 1 a186 B) fun a187 =>
 ob (xfld 1 x1) fun a188 =>
 ob (ldN false 1 a188 B) fun a189 =>
 ob (xbin PP .sub 3 a187 a189) fun a190 =>
 ob (xbin PP .add 3 (shr (shr (shr x3))) (iv 1)) fun a191 =>
 ob (xbin PP .mul 3 a190 a191) fun a192 =>
 ob (xbin PP .add 3 (shr (shr a179)) a192) fun a193 =>
 Z76 m0 x1 (shr a193) (gcB m0 [x1, (shr a193)] B)))))))
 (Z5m m0 x3 (gcB m0 [x3] B)))))))))))))))))) := by kernel_rfl
theorem ZGM : Z5m m0 x3 B =
 mk (ob (Z9x PP false [(shr x3), (iv 1048576)]) fun a =>
 Z1x (shr a) B) := by kernel_rfl
theorem ZGL : Z76 m0 x1 x3 B =
 mk (ob (xfld 3 x1) fun a =>
 ob (ldN false 1 a B) fun b =>
 ob (xbin PP .eql 3 b (iv 2)) fun c =>
 asB c fun d => br d (mk (ob (xbin PP .add 3 (shr x3) (iv 2)) fun e =>
 Z5m m0 (shr e) (gcB m0 [(shr e)] B)))
 (Z5m m0 x3 (gcB m0 [x3] B))) := by kernel_rfl
theorem ZP6 : EE 72 [x0] B =
 (let m0 := B.length
 mk (bx x0 B fun a b =>
 mk (mk (ob (xfld 6 a) fun c =>
 ob (ldN false 1 c b) fun d =>
 ob (xlen PP 96 d) fun e =>
 ZsI m0 a (iv 0) d e (iv 0) (gcB m0 [a, (iv 0), d, e, (iv 0)] b))))) := (E_eq PP XX HH _ _ _).trans (by kernel_rfl)
theorem ZPb : EE 73 [x0, x1] B =
 (let m0 := B.length
 mk (bx x0 B fun a b =>
 mk (ob (ldN false 1 x1 b) fun c =>
 ob (ldN true 5 a b) fun d =>
 callV HH EE c [d] b fun e f =>
 ob (xun PP .not e) fun g =>
 Z1x (shr g) f))) := (E_eq PP XX HH _ _ _).trans (by kernel_rfl)
theorem ZPc : EE 74 [x0, x1] B =
 (let m0 := B.length
 mk (mk (ob (ldN false 1 x1 B) fun a =>
 ob (Zen PP 152 false a (shr x0) B) fun b =>
 mk (ob (ldN false 1 x1 B) fun c =>
 xupd PP 152 c (shr x0) (bv true) B fun d =>
 mk (Z1x (shr (shr (shr b))) d))))) := (E_eq PP XX HH _ _ _).trans (by kernel_rfl)
theorem ZPd : EE 75 [x0, x1] B =
 (let m0 := B.length
 mk (bx x0 B fun a b =>
 mk (ob (ldN false 1 x1 b) fun c =>
 ob (xfld 0 a) fun d =>
 ob (ldN false 1 d b) fun e =>
 callV HH EE c [e] b fun f g =>
 Z1x (shr f) g))) := (E_eq PP XX HH _ _ _).trans (by kernel_rfl)
noncomputable def ZLH := Z3b Tryz.f83
def ZC2 := l2 (l2 ZLH)
def ZwX := l1 (l1 (l2 (l1 (l2 ZLH))))
def ZJ9 := l2 (l2 ZwX)
def ZC0 (m0 : Nat) : Kont := kret PP HH 83 Tryz.f83.results
def ZPe := kseq HH 83 m0 ZC2 (exec PP HH 83 m0 EE LL ZC2 (ZC0 m0)) (ZC0 m0)
def ZC1 := kblk 0 (ZPe m0)
def ZJ8 := kloop HH 83 m0 ZwX (LL 83 m0 ZwX (ZC1 m0)) (ZC1 m0)
def Zj3 := lp (LL 83 m0 ZwX (ZC1 m0) [(0, x0), (1, x1), (7, x7), (8, x8)] B)
def ZsK := exec PP HH 83 m0 EE LL ZJ9 (ZJ8 m0) [(0, x0), (1, x1), (7, x7), (8, x8)] B
def ZsO := exec PP HH 83 m0 EE LL ZC2 (ZC0 m0) [] B
def ZsM := exec PP HH 83 m0 EE LL (l2 ZJ9) (ZJ8 m0) [(0, x0), (1, x1), (7, x7), (8, x8)] B
theorem ZsJ : Zj3 m0 x0 x1 x7 x8 B =
 mk (ob (xbin PP .lss 3 x8 x7) fun a =>
 asB a fun b => br b (ZsK m0 x0 x1 x7 x8 (gcB m0 [x0, x1, x7, x8] B))
 (ZsO m0 (gcB m0 [] B))) := lq_ (by kernel_rfl)
theorem ZsL : ZsK m0 x0 x1 x7 x8 B =
 mk (mk (ob (xidx 5 (shr x0) (shr (shr (shr x8)))) fun a =>
 ob (ldN true 5 a B) fun b =>
 callV HH EE (shr x1) [b] B fun c d =>
 asB c fun e => br e (mk (Z1x (shr (shr (shr (shr x8)))) d))
 (ZsM m0 x0 x1 x7 x8 (gcB m0 [x0, x1, x7, x8] d)))) := by kernel_rfl
theorem ZsP : ZsO m0 B =
 mk (Z1x (iv (-1)) B) := by kernel_rfl
theorem ZsN : ZsM m0 x0 x1 x7 x8 B =
 mk (ob (xbin PP .add 3 x8 (iv 1)) fun a =>
 Zj3 m0 x0 x1 x7 (shr a) (gcB m0 [x0, x1, x7, (shr a)] B)) := by kernel_rfl
theorem ZBZ : EE 83 [x0, x1] B =
 (let m0 := B.length
 mk (mk (ob (xlen PP 22 (shr x0)) fun a =>
 Zj3 m0 x0 x1 a (iv 0) (gcB m0 [x0, x1, a, (iv 0)] B)))) := (E_eq PP XX HH _ _ _).trans (by kernel_rfl)
noncomputable def ZLI := Z3b Tryz.f84
def ZC5 := l2 (l2 ZLI)
def Zx1 := l1 (l1 (l2 (l1 (l2 ZLI))))
def ZJc := l2 (l2 Zx1)
def ZC3 (m0 : Nat) : Kont := kret PP HH 84 Tryz.f84.results
def ZPf := kseq HH 84 m0 ZC5 (exec PP HH 84 m0 EE LL ZC5 (ZC3 m0)) (ZC3 m0)
def ZC4 := kblk 0 (ZPf m0)
def ZJb := kloop HH 84 m0 Zx1 (LL 84 m0 Zx1 (ZC4 m0)) (ZC4 m0)
def ZmV := lp (LL 84 m0 Zx1 (ZC4 m0) [(0, x0), (1, x1), (7, x7), (8, x8)] B)
def ZwY := exec PP HH 84 m0 EE LL ZJc (ZJb m0) [(0, x0), (1, x1), (7, x7), (8, x8)] B
def Zx0 := exec PP HH 84 m0 EE LL ZC5 (ZC3 m0) [] B
def ZwZ := exec PP HH 84 m0 EE LL (l2 ZJc) (ZJb m0) [(0, x0), (1, x1), (7, x7), (8, x8)] B
theorem ZA6 : ZmV m0 x0 x1 x7 x8 B =
 mk (ob (xbin PP .lss 3 x8 x7) fun a =>
 asB a fun b => br b (ZwY m0 x0 x1 x7 x8 (gcB m0 [x0, x1, x7, x8] B))
 (Zx0 m0 (gcB m0 [] B))) := lq_ (by kernel_rfl)
theorem ZA7 : ZwY m0 x0 x1 x7 x8 B =
 mk (mk (ob (xidx 1 (shr x0) (shr (shr (shr x8)))) fun a =>
 ob (ldN false 1 a B) fun b =>
 callV HH EE (shr x1) [b] B fun c d =>
 asB c fun e => br e (mk (Z1x (shr (shr (shr (shr x8)))) d))
 (ZwZ m0 x0 x1 x7 x8 (gcB m0 [x0, x1, x7, x8] d)))) := by kernel_rfl
theorem ZA9 : Zx0 m0 B =
 mk (Z1x (iv (-1)) B) := by kernel_rfl
theorem ZA8 : ZwZ m0 x0 x1 x7 x8 B =
 mk (ob (xbin PP .add 3 x8 (iv 1)) fun a =>
 ZmV m0 x0 x1 x7 (shr a) (gcB m0 [x0, x1, x7, (shr a)] B)) := by kernel_rfl
theorem ZJa : EE 84 [x0, x1] B =
 (let m0 := B.length
 mk (mk (ob (xlen PP 27 (shr x0)) fun a =>
 ZmV m0 x0 x1 a (iv 0) (gcB m0 [x0, x1, a, (iv 0)] B)))) := (E_eq PP XX HH _ _ _).trans (by kernel_rfl)
noncomputable def ZLJ := Z3b Tryz.f91
def ZC9 := l2 (l2 (l2 (l1 (l2 ZLJ))))
def ZsS := l1 (l1 (l1 (l2 (l2 (l1 (l2 ZLJ))))))
def ZC6 (m0 : Nat) : Kont := kret PP HH 91 Tryz.f91.results
def ZPh := kseq HH 91 m0 ZC9 (exec PP HH 91 m0 EE LL ZC9 (ZC6 m0)) (ZC6 m0)
def ZC7 := kblk 0 (ZPh m0)
def ZJd := kloop HH 91 m0 ZsS (LL 91 m0 ZsS (ZC7 m0)) (ZC7 m0)
def ZPi := kblk 1 (ZJd m0)
def ZsQ := lp (LL 91 m0 ZsS (ZC7 m0) [(0, x0), (2, x2), (3, x3)] B)
def ZC8 := exec PP HH 91 m0 EE LL (l2 ZsS) (ZJd m0) [(0, x0), (2, x2), (3, x3)] B
def Zpt := exec PP HH 91 m0 EE LL ZC9 (ZC6 m0) [(2, x2), (3, x3)] B
def ZsR := exec PP HH 91 m0 EE LL (l2 (l1 (l2 ZsS))) (ZPi m0) [(0, x0), (2, x2), (3, x3)] B
theorem ZJe : ZsQ m0 x0 x2 x3 B =
 mk (ob (Z2m (shr x0)) fun a =>
 ob (xfld 5 a) fun b =>
 ob (xfld 0 b) fun c =>
 ob (ldN false 1 c B) fun d =>
 ob (xbin PP .eql 30 d (iv 0)) fun e =>
 asB e fun f => br f (ZC8 m0 x0 x2 x3 (gcB m0 [x0, x2, x3] B))
 (Zpt m0 x2 x3 (gcB m0 [x2, x3] B))) := lq_ (by kernel_rfl)
theorem ZJf : ZC8 m0 x0 x2 x3 B =
 mk (callS false EE 104 [(shr x0)] B fun a b =>
 mk (ob (xbin PP .eql 3 a (iv (-1))) fun c =>
 asB (shr c) fun d => br d (asB (shr c) fun e => br e (Zpt m0 x2 x3 (gcB m0 [x2, x3] b))
 (ZsR m0 x0 x2 x3 (gcB m0 [x0, x2, x3] b)))
 (mk (ob (xbin PP .eql 3 a (iv 124)) fun f =>
 asB (shr f) fun g => br g (asB (shr f) fun h => br h (Zpt m0 x2 x3 (gcB m0 [x2, x3] b))
 (ZsR m0 x0 x2 x3 (gcB m0 [x0, x2, x3] b)))
 (mk (ob (xbin PP .eql 3 a (iv 41)) fun i =>
 asB (shr i) fun j => br j (Zpt m0 x2 x3 (gcB m0 [x2, x3] b))
 (ZsR m0 x0 x2 x3 (gcB m0 [x0, x2, x3] b)))))))) := by kernel_rfl
theorem ZJh : Zpt m0 x2 x3 B =
 mk (callS false EE 92 [(iv 2), (shr x3)] B fun a b =>
 stN 7 x2 a b fun c =>
 Z9t x2 c) := by kernel_rfl
theorem ZJg : ZsR m0 x0 x2 x3 B =
 mk (callS false EE 105 [(shr x0)] B fun a b =>
 ob (xext 0 (shr a)) fun c =>
 ob (xext 1 (shr a)) fun d =>
 bz PP 98 b fun e f =>
 stN 7 e (shr c) f fun g =>
 mk (ob (ldN true 7 e g) fun h =>
 callS false EE 106 [(shr x0), h, (shr (shr (shr d)))] g fun i j =>
 ob (xlit PP 96 1 [(0, i)]) fun k =>
 ob (xapp 7 x3 k) fun l =>
 ZsQ m0 x0 x2 l (gcB m0 [x0, x2, l] j))) := by kernel_rfl
theorem ZPg : EE 91 [x0] B =
 (let m0 := B.length
 mk (bz PP 98 B fun a b =>
 mk (ZsQ m0 x0 a nilA (gcB m0 [x0, a, nilA] (gcB m0 [x0, a, nilA] b))))) := (E_eq PP XX HH _ _ _).trans (by kernel_rfl)
noncomputable def ZPR := Z3b Tryz.f92
def ZPk (m0 : Nat) : Kont := kret PP HH 92 Tryz.f92.results
def ZCa := exec PP HH 92 m0 EE LL (l2 (l2 ZPR)) (ZPk m0) [(0, x0), (1, x1), (4, x4)] B
theorem ZJi : ZCa m0 x0 x1 x4 B =
 mk (ob (Z21 PP 98 [(0, (shr x0)), (6, (shr x1))]) fun a =>
 stN 7 x4 a B fun b =>
 Z9t x4 b) := by kernel_rfl
theorem ZPj : EE 92 [x0, x1] B =
 (let m0 := B.length
 mk (bz PP 98 B fun a b =>
 mk (ob (xlen PP 96 (shr x1)) fun c =>
 mk (ob (xbin PP .eql 3 c (iv 0)) fun d =>
 asB (shr d) fun e => br e (mk (ob (Z21 PP 98 []) fun f =>
 stN 7 a f b fun g =>
 Z9t a g))
 (mk (ob (xbin PP .eql 3 c (iv 1)) fun h =>
 asB (shr h) fun i => br i (mk (ob (xidx 7 (shr x1) (iv 0)) fun j =>
 ob (ldN true 7 j b) fun k =>
 stN 7 a k b fun l =>
 Z9t a l))
 (ZCa m0 x0 x1 a (gcB m0 [x0, x1, a] b)))))))) := (E_eq PP XX HH _ _ _).trans (by kernel_rfl)
noncomputable def ZGN := Z3b Tryz.f93
def ZCf := l2 (l2 ZGN)
def Zx3 := l1 (l1 (l2 (l1 (l2 (l2 (l2 (l2 (l2 (l1 (l2 (l1 (l2 ZGN))))))))))))
def Zx4 := l1 (l1 (l2 (l2 (l1 (l2 (l2 (l2 (l2 (l2 (l2 (l2 (l1 (l2 (l1 (l2 ZGN)))))))))))))))
def Zpv := l2 (l2 Zx4)
def Z8N (r0 r1 : AV) (B : List Row) : Option Res :=
 ob (ob (some r0) fun v => ob (ob (some r1) fun v => ob (some []) fun vs => some (v :: vs)) fun vs => some (v :: vs)) fun vs => some ((nrmA (match vs with | [v] => v | vs => Z8r (vs.map shr))), B)
def ZCb (m0 : Nat) : Kont := kret PP HH 93 Tryz.f93.results
def ZPm := kseq HH 93 m0 ZCf (exec PP HH 93 m0 EE LL ZCf (ZCb m0)) (ZCb m0)
def ZJj := kblk 0 (ZPm m0)
def ZCc := kblk 1 (ZJj m0)
def ZCd := kblk 3 (ZJj m0)
def ZPn := kloop HH 93 m0 Zx3 (LL 93 m0 Zx3 (ZCc m0)) (ZCc m0)
def Zx2 := kloop HH 93 m0 Zx4 (LL 93 m0 Zx4 (ZCd m0)) (ZCd m0)
def ZPo := kseq HH 93 m0 (l2 Zpv) (exec PP HH 93 m0 EE LL (l2 Zpv) (Zx2 m0)) (Zx2 m0)
def ZJk := kblk 4 (ZPo m0)
def ZsT := lp (LL 93 m0 Zx3 (ZCc m0) [(2, x2), (3, x3), (23, x23), (24, x24), (25, x25)] B)
def Zpu := lp (LL 93 m0 Zx4 (ZCd m0) [(2, x2), (3, x3), (45, x45), (46, x46), (47, x47)] B)
def ZmC := exec PP HH 93 m0 EE LL ZCf (ZCb m0) [(2, x2), (3, x3)] B
def ZCe := exec PP HH 93 m0 EE LL (l2 (l2 Zx3)) (ZPn m0) [(2, x2), (3, x3), (23, x23), (24, x24), (25, x25)] B
def ZzI := exec PP HH 93 m0 EE LL Zpv (Zx2 m0) [(2, x2), (3, x3), (45, x45), (46, x46), (47, x47)] B
def Zun := exec PP HH 93 m0 EE LL (l1 (l2 (l2 (l2 (l2 (l1 (l1 Zpv))))))) (ZJk m0) [(2, x2), (45, x45), (46, x46), (47, x47)] B
def ZzJ := exec PP HH 93 m0 EE LL (l2 (l2 (l2 (l2 (l2 (l1 (l1 Zpv))))))) (ZJk m0) [(2, x2), (3, x3), (11, x11), (45, x45), (46, x46), (47, x47)] B
def Zuo := exec PP HH 93 m0 EE LL (l2 Zpv) (Zx2 m0) [(2, x2), (3, x3), (45, x45), (46, x46), (47, x47)] B
theorem ZJl : ZsT m0 x2 x3 x23 x24 x25 B =
 mk (ob (xbin PP .lss 3 x25 x24) fun a =>
 asB a fun b => br b (ZCe m0 x2 x3 x23 x24 x25 (gcB m0 [x2, x3, x23, x24, x25] B))
 (ZmC m0 x2 x3 (gcB m0 [x2, x3] B))) := lq_ (by kernel_rfl)
theorem ZGO : Zpu m0 x2 x3 x45 x46 x47 B =
 mk (ob (xbin PP .lss 3 x47 x46) fun a =>
 asB a fun b => br b (ZzI m0 x2 x3 x45 x46 x47 (gcB m0 [x2, x3, x45, x46, x47] B))
 (ZmC m0 x2 x3 (gcB m0 [x2, x3] B))) := lq_ (by kernel_rfl)
theorem ZGT : ZmC m0 x2 x3 B =
 mk (Z8N (shr (shr x2)) (shr (shr x3)) B) := by kernel_rfl
theorem ZJm : ZCe m0 x2 x3 x23 x24 x25 B =
 mk (ob (xidx 7 x23 x25) fun a =>
 ob (ldN true 7 a B) fun b =>
 bz PP 98 B fun c d =>
 stN 7 c b d fun e =>
 mk (ob (ldN true 7 c e) fun f =>
 callS false EE 93 [f] e fun g h =>
 ob (xext 0 (shr g)) fun i =>
 ob (xext 1 (shr g)) fun j =>
 mk (ob (xbin PP .add 3 (shr x2) (shr (shr (shr i)))) fun k =>
 ob (Z9x PP false [k, (iv 1048576)]) fun l =>
 callS false EE 107 [(shr x3), (shr (shr (shr j)))] h fun n o =>
 mk (ob (xbin PP .add 3 x25 (iv 1)) fun p =>
 ZsT m0 (shr l) (shr n) x23 x24 (shr p) (gcB m0 [(shr l), (shr n), x23, x24, (shr p)] o))))) := by kernel_rfl
theorem ZGP : ZzI m0 x2 x3 x45 x46 x47 B =
 mk (ob (xidx 7 x45 x47) fun a =>
 ob (ldN true 7 a B) fun b =>
 bz PP 98 B fun c d =>
 stN 7 c b d fun e =>
 mk (ob (ldN true 7 c e) fun f =>
 callS false EE 93 [f] e fun g h =>
 ob (xext 0 (shr g)) fun i =>
 ob (xext 1 (shr g)) fun j =>
 mk (ob (Z9x PP false [(shr x2), (shr (shr (shr i)))]) fun k =>
 mk (ob (xbin PP .lss 3 (shr (shr (shr j))) (iv 0)) fun l =>
 asB (shr l) fun n => br n (Zun m0 (shr k) x45 x46 x47 (gcB m0 [(shr k), x45, x46, x47] h))
 (ob (xbin PP .lss 3 (shr x3) (iv 0)) fun o =>
 asB (shr o) fun p => br p (Zun m0 (shr k) x45 x46 x47 (gcB m0 [(shr k), x45, x46, x47] h))
 (ZzJ m0 (shr k) x3 (shr (shr j)) x45 x46 x47 (gcB m0 [(shr k), x3, (shr (shr j)), x45, x46, x47] h))))))) := by kernel_rfl
theorem ZGQ : Zun m0 x2 x45 x46 x47 B =
 mk (Zuo m0 x2 (iv (-1)) x45 x46 x47 (gcB m0 [x2, (iv (-1)), x45, x46, x47] B)) := by kernel_rfl
theorem ZGR : ZzJ m0 x2 x3 x11 x45 x46 x47 B =
 mk (ob (Z9x PP true [(shr x3), (shr x11)]) fun a =>
 Zuo m0 x2 (shr a) x45 x46 x47 (gcB m0 [x2, (shr a), x45, x46, x47] B)) := by kernel_rfl
theorem ZGS : Zuo m0 x2 x3 x45 x46 x47 B =
 mk (ob (xbin PP .add 3 x47 (iv 1)) fun a =>
 Zpu m0 x2 x3 x45 x46 (shr a) (gcB m0 [x2, x3, x45, x46, (shr a)] B)) := by kernel_rfl
theorem ZPl : EE 93 [x0] B =
 (let m0 := B.length
 mk (bx x0 B fun a b =>
 mk (ob (xfld 0 a) fun c =>
 ob (ldN false 1 c b) fun d =>
 mk (ob (xbin PP .eql 3 d (iv 1)) fun e =>
 asB (shr e) fun f => br f (mk (Z8N (iv 1) (iv 1) b))
 (mk (ob (xbin PP .eql 3 d (iv 6)) fun g =>
 asB (shr g) fun h => br h (mk (Z8N (iv 0) (iv (-1)) b))
 (mk (ob (xbin PP .eql 3 d (iv 2)) fun i =>
 asB (shr i) fun j => br j (mk (ob (xfld 6 a) fun k =>
 ob (ldN false 1 k b) fun l =>
 ob (xlen PP 96 l) fun n =>
 ZsT m0 (iv 0) (iv 0) l n (iv 0) (gcB m0 [(iv 0), (iv 0), l, n, (iv 0)] b)))
 (mk (ob (xbin PP .eql 3 d (iv 3)) fun o =>
 asB (shr o) fun p => br p (mk (mk (ob (xfld 6 a) fun q =>
 ob (ldN false 1 q b) fun r =>
 ob (xlen PP 96 r) fun s =>
 Zpu m0 (iv 1048576) (iv 0) r s (iv 0) (gcB m0 [(iv 1048576), (iv 0), r, s, (iv 0)] b))))
 (mk (ob (xbin PP .eql 3 d (iv 4)) fun t =>
 asB (shr t) fun u => br u (mk (ob (xfld 6 a) fun v =>
 ob (ldN false 1 v b) fun w =>
 ob (xidx 7 w (iv 0)) fun x =>
 ob (ldN true 7 x b) fun y =>
 callS false EE 93 [y] b fun z A =>
 ob (xext 0 (shr z)) fun C =>
 ob (xext 1 (shr z)) fun D =>
 mk (ob (xfld 1 a) fun F =>
 ob (ldN false 1 F A) fun G =>
 ob (xbin PP .mul 3 (shr (shr (shr C))) G) fun I =>
 ob (Z9x PP false [I, (iv 1048576)]) fun J =>
 ob (xfld 2 a) fun M =>
 ob (ldN false 1 M A) fun N =>
 callS false EE 108 [(shr (shr (shr D))), N] A fun O Q =>
 grd (Zb0 [O, (shr (shr (shr D))), N]) (Z8N (shr J) (shr O) Q))))
 (mk (ob (xbin PP .eql 3 d (iv 5)) fun R =>
 asB (shr R) fun S => br S (asB (shr R) fun T => br T (mk (ob (xfld 6 a) fun U =>
 ob (ldN false 1 U b) fun V =>
 ob (xidx 7 V (iv 0)) fun W =>
 ob (ldN true 7 W b) fun Y =>
 callS false EE 93 [Y] b fun Z a0 =>
 ob (xext 0 Z) fun a1 =>
 ob (xext 1 Z) fun a2 =>
 Z8N (shr (shr a1)) (shr (shr a2)) a0))
 (ZmC m0 (iv 0) (iv 0) (gcB m0 [(iv 0), (iv 0)] b)))
 (mk (ob (xbin PP .eql 3 d (iv 8)) fun a3 =>
 asB (shr a3) fun a4 => br a4 (mk (ob (xfld 6 a) fun a5 =>
 ob (ldN false 1 a5 b) fun a6 =>
 ob (xidx 7 a6 (iv 0)) fun a7 =>
 ob (ldN true 7 a7 b) fun a8 =>
 callS false EE 93 [a8] b fun a9 a10 =>
 ob (xext 0 a9) fun a11 =>
 ob (xext 1 a9) fun a12 =>
 Z8N (shr (shr a11)) (shr (shr a12)) a10))
 (ZmC m0 (iv 0) (iv 0) (gcB m0 [(iv 0), (iv 0)] b)))))))))))))))))) := (E_eq PP XX HH _ _ _).trans (by kernel_rfl)
theorem ZPp : EE 94 [x0, x1] B =
 (let m0 := B.length
 mk (mk (callS false EE 109 [(shr x0), (shr x1)] B fun a b =>
 ob (xbin PP .geq 3 a (iv 0)) fun c =>
 Z1x (shr c) b))) := (E_eq PP XX HH _ _ _).trans (by kernel_rfl)
theorem ZPq : EE 95 [x0] B =
 (let m0 := B.length
 mk (bx x0 B fun a b =>
 mk (ob (ldN true 7 a b) fun c =>
 callS false EE 71 [c] b fun d e =>
 ob (xun PP .not d) fun f =>
 Z1x (shr f) e))) := (E_eq PP XX HH _ _ _).trans (by kernel_rfl)
noncomputable def ZNX := Z3b Tryz.f104
def ZLZ (m0 : Nat) : Kont := kret PP HH 104 Tryz.f104.results
def ZxV := exec PP HH 104 m0 EE LL (l2 (l2 ZNX)) (ZLZ m0) [(0, x0)] B
theorem ZFk : ZxV m0 x0 B =
 mk (ob (Z2m (shr x0)) fun a =>
 ob (xfld 0 a) fun b =>
 ob (ldN false 1 b B) fun c =>
 ob (Z2m (shr x0)) fun d =>
 ob (xfld 1 d) fun e =>
 ob (ldN false 1 e B) fun f =>
 callS false EE 126 [c, f] B fun g h =>
 ob (xext 0 (shr g)) fun i =>
 ob (xext 1 (shr g)) fun j =>
 mk (Z1x (shr (shr (shr (shr i)))) h)) := by kernel_rfl
theorem ZLY : EE 104 [x0] B =
 (let m0 := B.length
 mk (mk (ob (Z2m (shr x0)) fun a =>
 ob (xfld 1 a) fun b =>
 ob (ldN false 1 b B) fun c =>
 ob (Z2m (shr x0)) fun d =>
 ob (xfld 0 d) fun e =>
 ob (ldN false 1 e B) fun f =>
 ob (xlen PP 141 f) fun g =>
 ob (xbin PP .geq 3 c g) fun h =>
 asB h fun i => br i (mk (Z1x (iv (-1)) B))
 (ZxV m0 x0 (gcB m0 [x0] B))))) := (E_eq PP XX HH _ _ _).trans (by kernel_rfl)
noncomputable def ZNY := Z3b Tryz.f105
def Z6H (r0 r1 : AV) (B : List Row) : Option Res :=
 ob (ob (ldN true 7 r0 B) fun v => ob (ob (some r1) fun v => ob (some []) fun vs => some (v :: vs)) fun vs => some (v :: vs)) fun vs => some ((nrmA (match vs with | [v] => v | vs => Z8r (vs.map shr))), B)
def ZM1 (m0 : Nat) : Kont := kret PP HH 105 Tryz.f105.results
def Z9l := exec PP HH 105 m0 EE LL (l2 (l2 (l2 ZNY))) (ZM1 m0) [(2, x2)] B
theorem ZDF : Z9l m0 x2 B =
 mk (ob (Z21 PP 98 []) fun a =>
 stN 7 x2 a B fun b =>
 Z6H x2 (bv true) b) := by kernel_rfl
theorem ZM0 : EE 105 [x0] B =
 (let m0 := B.length
 mk (bz PP 98 B fun a b =>
 mk (ob (Z2m (shr x0)) fun c =>
 ob (xfld 1 c) fun d =>
 ob (ldN false 1 d b) fun e =>
 mk (callS false EE 127 [(shr x0)] b fun f g =>
 mk (mk (ob (xbin PP .eql 3 (shr (shr f)) (iv 46)) fun h =>
 asB (shr h) fun i => br i (mk (callS false EE 129 [(iv 10)] g fun j k =>
 ob (xlit PP 94 1 [(0, j)]) fun l =>
 callS false EE 128 [(bv true), l] k fun n o =>
 stN 7 a n o fun p =>
 Z6H a (bv true) p))
 (mk (ob (xbin PP .eql 3 (shr (shr f)) (iv 94)) fun q =>
 asB (shr q) fun r => br r (mk (ob (Z21 PP 98 [(0, (iv 9)), (4, (iv 0))]) fun s =>
 stN 7 a s g fun t =>
 Z6H a (bv false) t))
 (mk (ob (xbin PP .eql 3 (shr (shr f)) (iv 36)) fun u =>
 asB (shr u) fun v => br v (mk (ob (Z21 PP 98 [(0, (iv 9)), (4, (iv 1))]) fun w =>
 stN 7 a w g fun x =>
 Z6H a (bv false) x))
 (mk (ob (xbin PP .eql 3 (shr (shr f)) (iv 92)) fun y =>
 asB (shr y) fun z => br z (mk (callS false EE 130 [(shr x0), (shr (shr e))] g fun A C =>
 bz PP 98 C fun D F =>
 stN 7 D A F fun G =>
 mk (ob (ldN true 7 D G) fun I =>
 ob (xfld 0 D) fun J =>
 ob (ldN false 1 J G) fun M =>
 ob (xbin PP .neq 3 M (iv 9)) fun N =>
 stN 7 a I G fun O =>
 grd (Z7T J a) (Z6H a (shr N) O))))
 (mk (ob (xbin PP .eql 3 (shr (shr f)) (iv 91)) fun Q =>
 asB (shr Q) fun R => br R (mk (callS false EE 131 [(shr x0), (shr (shr e))] g fun S T =>
 stN 7 a S T fun U =>
 Z6H a (bv true) U))
 (mk (ob (xbin PP .eql 3 (shr (shr f)) (iv 40)) fun V =>
 asB (shr V) fun W => br W (mk (callS false EE 132 [(shr x0), (shr (shr e))] g fun Y Z =>
 ob (xext 0 Y) fun a0 =>
 ob (xext 1 Y) fun a1 =>
 stN 7 a (shr a0) Z fun a2 =>
 Z6H a (shr (shr a1)) a2))
 (mk (ob (xbin PP .eql 3 (shr (shr f)) (iv 42)) fun a3 =>
 asB (shr a3) fun a4 => br a4 (asB (shr a3) fun a5 => br a5 (mk (callS false EE 70 [(shr x0), (iv 23), (shr (shr e))] g fun a6 a7 =>
 Z9l m0 a (gcB m0 [a] a7)))
 (mk (ob (xbin PP .eql 3 (shr (shr f)) (iv 93)) fun a8 =>
 asB (shr a8) fun a9 => br a9 (asB (shr a8) fun a10 => br a10 (mk (callS false EE 70 [(shr x0), (iv 20), (shr (shr e))] g fun a11 a12 =>
 Z9l m0 a (gcB m0 [a] a12)))
 (mk (callS false EE 129 [(shr (shr f))] g fun a13 a14 =>
 ob (xlit PP 94 1 [(0, a13)]) fun a15 =>
 callS false EE 128 [(bv false), a15] a14 fun a16 a17 =>
 stN 7 a a16 a17 fun a18 =>
 Z6H a (bv true) a18)))
 (mk (ob (xbin PP .eql 3 (shr (shr f)) (iv 125)) fun a19 =>
 asB (shr a19) fun a20 => br a20 (mk (callS false EE 70 [(shr x0), (iv 20), (shr (shr e))] g fun a21 a22 =>
 Z9l m0 a (gcB m0 [a] a22)))
 (mk (callS false EE 129 [(shr (shr f))] g fun a23 a24 =>
 ob (xlit PP 94 1 [(0, a23)]) fun a25 =>
 callS false EE 128 [(bv false), a25] a24 fun a26 a27 =>
 stN 7 a a26 a27 fun a28 =>
 Z6H a (bv true) a28)))))))
 (mk (ob (xbin PP .eql 3 (shr (shr f)) (iv 43)) fun a29 =>
 asB (shr a29) fun a30 => br a30 (asB (shr a29) fun a31 => br a31 (mk (callS false EE 70 [(shr x0), (iv 23), (shr (shr e))] g fun a32 a33 =>
 Z9l m0 a (gcB m0 [a] a33)))
 (mk (ob (xbin PP .eql 3 (shr (shr f)) (iv 93)) fun a34 =>
 asB (shr a34) fun a35 => br a35 (asB (shr a34) fun a36 => br a36 (mk (callS false EE 70 [(shr x0), (iv 20), (shr (shr e))] g fun a37 a38 =>
 Z9l m0 a (gcB m0 [a] a38)))
 (mk (callS false EE 129 [(shr (shr f))] g fun a39 a40 =>
 ob (xlit PP 94 1 [(0, a39)]) fun a41 =>
 callS false EE 128 [(bv false), a41] a40 fun a42 a43 =>
 stN 7 a a42 a43 fun a44 =>
 Z6H a (bv true) a44)))
 (mk (ob (xbin PP .eql 3 (shr (shr f)) (iv 125)) fun a45 =>
 asB (shr a45) fun a46 => br a46 (mk (callS false EE 70 [(shr x0), (iv 20), (shr (shr e))] g fun a47 a48 =>
 Z9l m0 a (gcB m0 [a] a48)))
 (mk (callS false EE 129 [(shr (shr f))] g fun a49 a50 =>
 ob (xlit PP 94 1 [(0, a49)]) fun a51 =>
 callS false EE 128 [(bv false), a51] a50 fun a52 a53 =>
 stN 7 a a52 a53 fun a54 =>
 Z6H a (bv true) a54)))))))
 (mk (ob (xbin PP .eql 3 (shr (shr f)) (iv 63)) fun a55 =>
 asB (shr a55) fun a56 => br a56 (asB (shr a55) fun a57 => br a57 (mk (callS false EE 70 [(shr x0), (iv 23), (shr (shr e))] g fun a58 a59 =>
 Z9l m0 a (gcB m0 [a] a59)))
 (mk (ob (xbin PP .eql 3 (shr (shr f)) (iv 93)) fun a60 =>
 asB (shr a60) fun a61 => br a61 (asB (shr a60) fun a62 => br a62 (mk (callS false EE 70 [(shr x0), (iv 20), (shr (shr e))] g fun a63 a64 =>
 Z9l m0 a (gcB m0 [a] a64)))
 (mk (callS false EE 129 [(shr (shr f))] g fun a65 a66 =>
 ob (xlit PP 94 1 [(0, a65)]) fun a67 =>
 callS false EE 128 [(bv false), a67] a66 fun a68 a69 =>
 stN 7 a a68 a69 fun a70 =>
 Z6H a (bv true) a70)))
 (mk (ob (xbin PP .eql 3 (shr (shr f)) (iv 125)) fun a71 =>
 asB (shr a71) fun a72 => br a72 (mk (callS false EE 70 [(shr x0), (iv 20), (shr (shr e))] g fun a73 a74 =>
 Z9l m0 a (gcB m0 [a] a74)))
 (mk (callS false EE 129 [(shr (shr f))] g fun a75 a76 =>
 ob (xlit PP 94 1 [(0, a75)]) fun a77 =>
 callS false EE 128 [(bv false), a77] a76 fun a78 a79 =>
 stN 7 a a78 a79 fun a80 =>
 Z6H a (bv true) a80)))))))
 (mk (ob (xbin PP .eql 3 (shr (shr f)) (iv 123)) fun a81 =>
 asB (shr a81) fun a82 => br a82 (mk (callS false EE 70 [(shr x0), (iv 23), (shr (shr e))] g fun a83 a84 =>
 Z9l m0 a (gcB m0 [a] a84)))
 (mk (ob (xbin PP .eql 3 (shr (shr f)) (iv 93)) fun a85 =>
 asB (shr a85) fun a86 => br a86 (asB (shr a85) fun a87 => br a87 (mk (callS false EE 70 [(shr x0), (iv 20), (shr (shr e))] g fun a88 a89 =>
 Z9l m0 a (gcB m0 [a] a89)))
 (mk (callS false EE 129 [(shr (shr f))] g fun a90 a91 =>
 ob (xlit PP 94 1 [(0, a90)]) fun a92 =>
 callS false EE 128 [(bv false), a92] a91 fun a93 a94 =>
 stN 7 a a93 a94 fun a95 =>
 Z6H a (bv true) a95)))
 (mk (ob (xbin PP .eql 3 (shr (shr f)) (iv 125)) fun a96 =>
 asB (shr a96) fun a97 => br a97 (mk (callS false EE 70 [(shr x0), (iv 20), (shr (shr e))] g fun a98 a99 =>
 Z9l m0 a (gcB m0 [a] a99)))
 (mk (callS false EE 129 [(shr (shr f))] g fun a100 a101 =>
 ob (xlit PP 94 1 [(0, a100)]) fun a102 =>
 callS false EE 128 [(bv false), a102] a101 fun a103 a104 =>
 stN 7 a a103 a104 fun a105 =>
 Z6H a (bv true) a105)))))))))))))))))))))))))))))) := (E_eq PP XX HH _ _ _).trans (by kernel_rfl)
noncomputable def ZNZ := Z3b Tryz.f106
def ZxX := l2 (l2 (l2 (l2 ZNZ)))
def ZxW (m0 : Nat) : Kont := kret PP HH 106 Tryz.f106.results
def Zk6 := exec PP HH 106 m0 EE LL ZxX (ZxW m0) [(0, x0), (2, x2), (6, x6), (7, x7), (8, x8)] B
def Zqu := exec PP HH 106 m0 EE LL (l2 ZxX) (ZxW m0) [(0, x0), (6, x6), (8, x8)] B
def ZmQ := exec PP HH 106 m0 EE LL (l2 (l2 ZxX)) (ZxW m0) [(6, x6), (8, x8)] B
theorem ZDG : Zk6 m0 x0 x2 x6 x7 x8 B =
 mk (ob (xun PP .not (shr x2)) fun a =>
 asB a fun b => br b (mk (callS false EE 70 [(shr x0), (iv 23), (shr x7)] B fun c d =>
 Zqu m0 x0 x6 x8 (gcB m0 [x0, x6, x8] d)))
 (Zqu m0 x0 x6 x8 (gcB m0 [x0, x6, x8] B))) := by kernel_rfl
theorem ZDH : Zqu m0 x0 x6 x8 B =
 mk (callS false EE 68 [(shr x0), (.p (.v (.string (ByteArray.mk #[63]))))] B fun a b =>
 asB (shr a) fun c => br c (mk (ob (xfld 3 x8) fun d =>
 stN 1 d (iv 1) b fun e =>
 ZmQ m0 x6 x8 (gcB m0 [x6, x8] e)))
 (mk (callS false EE 68 [(shr x0), (.p (.v (.string (ByteArray.mk #[43]))))] b fun f g =>
 asB (shr f) fun h => br h (mk (ob (xfld 3 x8) fun i =>
 stN 1 i (iv 2) g fun j =>
 ZmQ m0 x6 x8 (gcB m0 [x6, x8] j)))
 (ZmQ m0 x6 x8 (gcB m0 [x6, x8] g))))) := by kernel_rfl
theorem ZDI : ZmQ m0 x6 x8 B =
 mk (ob (ldN true 7 x8 B) fun a =>
 stN 7 x6 a B fun b =>
 Z9t x6 b) := by kernel_rfl
theorem ZM2 : EE 106 [x0, x1, x2] B =
 (let m0 := B.length
 mk (bx x1 B fun a b =>
 bz PP 98 b fun c d =>
 mk (ob (Z2m (shr x0)) fun e =>
 ob (xfld 1 e) fun f =>
 ob (ldN false 1 f d) fun g =>
 mk (ob (ldN true 7 a d) fun h =>
 ob (xlit PP 96 1 [(0, h)]) fun i =>
 ob (Z21 PP 98 [(0, (iv 4)), (2, (iv (-1))), (6, i)]) fun j =>
 bz PP 98 d fun k l =>
 stN 7 k j l fun n =>
 mk (callS false EE 68 [(shr x0), (.p (.v (.string (ByteArray.mk #[42]))))] n fun o q =>
 asB (shr o) fun r => br r (Zk6 m0 x0 x2 c (shr g) k (gcB m0 [x0, x2, c, (shr g), k] q))
 (mk (callS false EE 68 [(shr x0), (.p (.v (.string (ByteArray.mk #[43]))))] q fun s t =>
 asB (shr s) fun u => br u (mk (ob (xfld 1 k) fun w =>
 stN 1 w (iv 1) t fun x =>
 Zk6 m0 x0 x2 c (shr g) k (gcB m0 [x0, x2, c, (shr g), k] x)))
 (mk (callS false EE 68 [(shr x0), (.p (.v (.string (ByteArray.mk #[63]))))] t fun y z =>
 asB (shr y) fun A => br A (mk (ob (xfld 2 k) fun C =>
 stN 1 C (iv 1) z fun D =>
 Zk6 m0 x0 x2 c (shr g) k (gcB m0 [x0, x2, c, (shr g), k] D)))
 (mk (callS false EE 68 [(shr x0), (.p (.v (.string (ByteArray.mk #[123]))))] z fun F G =>
 asB (shr F) fun I => br I (mk (callS false EE 133 [(shr x0), (shr (shr g))] G fun J M =>
 ob (xext 0 (shr J)) fun N =>
 ob (xext 1 (shr J)) fun O =>
 ob (xfld 1 k) fun Q =>
 stN 1 Q (shr N) M fun R =>
 ob (xfld 2 k) fun S =>
 stN 1 S (shr O) R fun T =>
 Zk6 m0 x0 x2 c (shr g) k (gcB m0 [x0, x2, c, (shr g), k] T)))
 (mk (ob (ldN true 7 a G) fun U =>
 stN 7 c U G fun V =>
 Z9t c V))))))))))))) := (E_eq PP XX HH _ _ _).trans (by kernel_rfl)
noncomputable def ZHT := Z3b Tryz.f107
def Zy0 := l2 (l2 ZHT)
def ZxY (m0 : Nat) : Kont := kret PP HH 107 Tryz.f107.results
def ZM4 := kseq HH 107 m0 Zy0 (exec PP HH 107 m0 EE LL Zy0 (ZxY m0)) (ZxY m0)
def ZtQ := exec PP HH 107 m0 EE LL (l1 (l2 (l1 (l2 ZHT)))) (ZM4 m0) [] B
def ZxZ := exec PP HH 107 m0 EE LL Zy0 (ZxY m0) [(0, x0), (1, x1)] B
theorem ZFl : ZtQ m0 B =
 mk (Z1x (iv (-1)) B) := by kernel_rfl
theorem ZFm : ZxZ m0 x0 x1 B =
 mk (ob (xbin PP .add 3 (shr x0) (shr x1)) fun a =>
 callS false EE 134 [a] B fun b c =>
 Z1x (shr b) c) := by kernel_rfl
theorem ZM3 : EE 107 [x0, x1] B =
 (let m0 := B.length
 mk (mk (ob (xbin PP .lss 3 (shr x0) (iv 0)) fun a =>
 asB (shr a) fun b => br b (ZtQ m0 (gcB m0 [] B))
 (ob (xbin PP .lss 3 (shr x1) (iv 0)) fun c =>
 asB (shr c) fun d => br d (ZtQ m0 (gcB m0 [] B))
 (ZxZ m0 x0 x1 (gcB m0 [x0, x1] B)))))) := (E_eq PP XX HH _ _ _).trans (by kernel_rfl)
noncomputable def ZAW := Z3b Tryz.f108
def Zy5 := l2 (l2 ZAW)
def ZEt := l2 (l2 (l1 (l1 (l2 ZAW))))
def Zy1 (m0 : Nat) : Kont := kret PP HH 108 Tryz.f108.results
def ZM6 := kseq HH 108 m0 Zy5 (exec PP HH 108 m0 EE LL Zy5 (Zy1 m0)) (Zy1 m0)
def Zy2 := kblk 0 (ZM6 m0)
def ZtR := exec PP HH 108 m0 EE LL (l1 (l2 (l1 (l1 (l2 ZAW))))) (Zy2 m0) [] B
def Zy3 := exec PP HH 108 m0 EE LL ZEt (Zy2 m0) [(0, x0), (1, x1)] B
def ZtS := exec PP HH 108 m0 EE LL (l1 (l2 ZEt)) (Zy2 m0) [] B
def Zy4 := exec PP HH 108 m0 EE LL Zy5 (Zy1 m0) [(0, x0), (1, x1)] B
theorem ZFn : ZtR m0 B =
 mk (Z1x (iv 0) B) := by kernel_rfl
theorem ZFo : Zy3 m0 x0 x1 B =
 mk (ob (xbin PP .lss 3 (shr x0) (iv 0)) fun a =>
 asB (shr a) fun b => br b (ZtS m0 (gcB m0 [] B))
 (ob (xbin PP .lss 3 (shr x1) (iv 0)) fun c =>
 asB (shr (shr c)) fun d => br d (ZtS m0 (gcB m0 [] B))
 (Zy4 m0 x0 x1 (gcB m0 [x0, x1] B)))) := by kernel_rfl
theorem ZFp : ZtS m0 B =
 mk (Z1x (iv (-1)) B) := by kernel_rfl
theorem ZFq : Zy4 m0 x0 x1 B =
 mk (ob (xbin PP .mul 3 (shr x0) (shr x1)) fun a =>
 callS false EE 134 [a] B fun b c =>
 Z1x (shr b) c) := by kernel_rfl
theorem ZM5 : EE 108 [x0, x1] B =
 (let m0 := B.length
 mk (mk (ob (xbin PP .eql 3 (shr x0) (iv 0)) fun a =>
 asB (shr a) fun b => br b (ZtR m0 (gcB m0 [] B))
 (ob (xbin PP .eql 3 (shr x1) (iv 0)) fun c =>
 asB (shr (shr c)) fun d => br d (ZtR m0 (gcB m0 [] B))
 (Zy3 m0 x0 x1 (gcB m0 [x0, x1] B)))))) := (E_eq PP XX HH _ _ _).trans (by kernel_rfl)
noncomputable def ZHU := Z3b Tryz.f109
def Zyb := l2 (l2 ZHU)
def ZtT := l1 (l1 (l2 (l1 (l2 ZHU))))
def ZEv := l2 (l2 ZtT)
def Zy6 (m0 : Nat) : Kont := kret PP HH 109 Tryz.f109.results
def ZM8 := kseq HH 109 m0 Zyb (exec PP HH 109 m0 EE LL Zyb (Zy6 m0)) (Zy6 m0)
def Zy7 := kblk 0 (ZM8 m0)
def ZEu := kloop HH 109 m0 ZtT (LL 109 m0 ZtT (Zy7 m0)) (Zy7 m0)
def Zp6 := lp (LL 109 m0 ZtT (Zy7 m0) [(0, x0), (1, x1), (7, x7), (8, x8)] B)
def Zy8 := exec PP HH 109 m0 EE LL ZEv (ZEu m0) [(0, x0), (1, x1), (7, x7), (8, x8)] B
def Zya := exec PP HH 109 m0 EE LL Zyb (Zy6 m0) [] B
def Zy9 := exec PP HH 109 m0 EE LL (l2 ZEv) (ZEu m0) [(0, x0), (1, x1), (7, x7), (8, x8)] B
theorem ZFr : Zp6 m0 x0 x1 x7 x8 B =
 mk (ob (xbin PP .lss 3 x8 x7) fun a =>
 asB a fun b => br b (Zy8 m0 x0 x1 x7 x8 (gcB m0 [x0, x1, x7, x8] B))
 (Zya m0 (gcB m0 [] B))) := lq_ (by kernel_rfl)
theorem ZFs : Zy8 m0 x0 x1 x7 x8 B =
 mk (mk (ob (xidx 7 (shr x0) (shr (shr (shr x8)))) fun a =>
 ob (ldN true 7 a B) fun b =>
 callV HH EE (shr x1) [b] B fun c d =>
 asB c fun e => br e (mk (Z1x (shr (shr (shr (shr x8)))) d))
 (Zy9 m0 x0 x1 x7 x8 (gcB m0 [x0, x1, x7, x8] d)))) := by kernel_rfl
theorem ZFu : Zya m0 B =
 mk (Z1x (iv (-1)) B) := by kernel_rfl
theorem ZFt : Zy9 m0 x0 x1 x7 x8 B =
 mk (ob (xbin PP .add 3 x8 (iv 1)) fun a =>
 Zp6 m0 x0 x1 x7 (shr a) (gcB m0 [x0, x1, x7, (shr a)] B)) := by kernel_rfl
theorem ZM7 : EE 109 [x0, x1] B =
 (let m0 := B.length
 mk (mk (ob (xlen PP 96 (shr x0)) fun a =>
 Zp6 m0 x0 x1 a (iv 0) (gcB m0 [x0, x1, a, (iv 0)] B)))) := (E_eq PP XX HH _ _ _).trans (by kernel_rfl)
noncomputable def ZHV := Z3b Tryz.f126
def Zp7 := l2 (l2 ZHV)
def Zye := l2 (l2 Zp7)
def Zmx (m0 : Nat) : Kont := kret PP HH 126 Tryz.f126.results
def ZMa := kseq HH 126 m0 Zp7 (exec PP HH 126 m0 EE LL Zp7 (Zmx m0)) (Zmx m0)
def ZMb := kseq HH 126 m0 Zye (exec PP HH 126 m0 EE LL Zye (Zmx m0)) (Zmx m0)
def ZtU := exec PP HH 126 m0 EE LL (l1 (l2 (l1 (l2 ZHV)))) (ZMa m0) [] B
def Zyc := exec PP HH 126 m0 EE LL Zp7 (Zmx m0) [(0, x0), (1, x1)] B
def Zyd := exec PP HH 126 m0 EE LL (l1 (l2 (l1 (l2 Zp7)))) (ZMb m0) [(0, x0), (1, x1)] B
def ZtV := exec PP HH 126 m0 EE LL Zye (Zmx m0) [(6, x6), (7, x7)] B
theorem ZFv : ZtU m0 B =
 mk (Z8N (iv 0) (iv 0) B) := by kernel_rfl
theorem ZFw : Zyc m0 x0 x1 B =
 mk (ob (xsl 1 (shr x0) (some (shr x1)) none none) fun a =>
 callS false EE 146 [a] B fun b c =>
 ob (xext 0 (shr b)) fun d =>
 ob (xext 1 (shr b)) fun e =>
 mk (ob (xbin PP .eql 21 (shr (shr (shr d))) (kv .i32 65533)) fun f =>
 asB (shr f) fun g => br g (ob (xbin PP .eql 3 (shr (shr (shr e))) (iv 1)) fun h =>
 asB (shr h) fun i => br i (Zyd m0 x0 x1 (gcB m0 [x0, x1] c))
 (ZtV m0 (shr (shr d)) (shr (shr e)) (gcB m0 [(shr (shr d)), (shr (shr e))] c)))
 (ZtV m0 (shr (shr d)) (shr (shr e)) (gcB m0 [(shr (shr d)), (shr (shr e))] c)))) := by kernel_rfl
theorem ZFx : Zyd m0 x0 x1 B =
 mk (ob (xidx 1 (shr x0) (shr x1)) fun a =>
 ob (ldN false 1 a B) fun b =>
 ob (xcnv PP 5 3 b) fun c =>
 ob (xbin PP .add 3 (iv 1114112) c) fun d =>
 Z8N (shr d) (iv 1) B) := by kernel_rfl
theorem ZFy : ZtV m0 x6 x7 B =
 mk (ob (xcnv PP 21 3 (shr x6)) fun a =>
 Z8N (shr a) (shr (shr x7)) B) := by kernel_rfl
theorem ZM9 : EE 126 [x0, x1] B =
 (let m0 := B.length
 mk (mk (ob (xbin PP .lss 3 (shr x1) (iv 0)) fun a =>
 asB (shr a) fun b => br b (ZtU m0 (gcB m0 [] B))
 (ob (xlen PP 141 (shr x0)) fun c =>
 ob (xbin PP .geq 3 (shr x1) c) fun d =>
 asB (shr d) fun e => br e (ZtU m0 (gcB m0 [] B))
 (Zyc m0 x0 x1 (gcB m0 [x0, x1] B)))))) := (E_eq PP XX HH _ _ _).trans (by kernel_rfl)
theorem ZMc : EE 127 [x0] B =
 (let m0 := B.length
 mk (mk (ob (Z2m (shr x0)) fun a =>
 ob (xfld 0 a) fun b =>
 ob (ldN false 1 b B) fun c =>
 ob (Z2m (shr x0)) fun d =>
 ob (xfld 1 d) fun e =>
 ob (ldN false 1 e B) fun f =>
 callS false EE 126 [c, f] B fun g h =>
 ob (xext 0 (shr g)) fun i =>
 ob (xext 1 (shr g)) fun j =>
 mk (ob (Z2m (shr x0)) fun k =>
 ob (xfld 1 k) fun l =>
 ob (ldN false 1 l h) fun n =>
 ob (xbin PP .add 3 n (shr (shr (shr j)))) fun o =>
 ob (Z2m (shr x0)) fun p =>
 ob (xfld 1 p) fun q =>
 stN 1 q o h fun r =>
 mk (Z1x (shr (shr (shr (shr i)))) r))))) := (E_eq PP XX HH _ _ _).trans (by kernel_rfl)
noncomputable def ZO0 := Z3b Tryz.f128
def ZMe (m0 : Nat) : Kont := kret PP HH 128 Tryz.f128.results
def ZtW := exec PP HH 128 m0 EE LL (l2 (l2 (l2 ZO0))) (ZMe m0) [(4, x4), (5, x5)] B
theorem ZFz : ZtW m0 x4 x5 B =
 mk (ob (Z21 PP 98 [(0, (iv 1)), (5, (shr x5))]) fun a =>
 stN 7 x4 a B fun b =>
 Z9t x4 b) := by kernel_rfl
theorem ZMd : EE 128 [x0, x1] B =
 (let m0 := B.length
 mk (bz PP 98 B fun a b =>
 mk (callS false EE 147 [(shr x1)] b fun c d =>
 ob (xext 0 (shr c)) fun e =>
 ob (xext 1 (shr c)) fun f =>
 mk (asB (shr x0) fun g => br g (mk (callS false EE 148 [(shr (shr (shr e)))] d fun h i =>
 ob (xext 0 (shr h)) fun j =>
 ob (xext 1 (shr h)) fun k =>
 ZtW m0 a (shr (shr j)) (gcB m0 [a, (shr (shr j))] i)))
 (ZtW m0 a (shr (shr e)) (gcB m0 [a, (shr (shr e))] d)))))) := (E_eq PP XX HH _ _ _).trans (by kernel_rfl)
def ZKy (r0 : AV) (B : List Row) : Option Res :=
 ob (ob (ldN true 2 r0 B) fun v => ob (some []) fun vs => some (v :: vs)) fun vs => some ((nrmA (match vs with | [v] => v | vs => Z8r (vs.map shr))), B)
theorem ZMf : EE 129 [x0] B =
 (let m0 := B.length
 mk (bz PP 201 B fun a b =>
 mk (ob (Z21 PP 201 [(0, (shr x0)), (1, (shr x0))]) fun c =>
 stN 2 a c b fun d =>
 ZKy a d))) := (E_eq PP XX HH _ _ _).trans (by kernel_rfl)
noncomputable def ZO1 := Z3b Tryz.f130
def Zyg := l2 (l2 (l2 ZO1))
def Zyh := l2 (l2 Zyg)
def ZtX (m0 : Nat) : Kont := kret PP HH 130 Tryz.f130.results
def ZMh := kseq HH 130 m0 Zyh (exec PP HH 130 m0 EE LL Zyh (ZtX m0)) (ZtX m0)
def ZMi := kblk 0 (ZMh m0)
def Zyf := exec PP HH 130 m0 EE LL Zyg (ZtX m0) [(0, x0), (1, x1), (4, x4), (5, x5)] B
def Zvh := exec PP HH 130 m0 EE LL (l1 (l2 (l2 (l2 (l2 (l2 (l2 (l2 (l1 (l1 (l2 Zyg))))))))))) (ZMi m0) [(0, x0), (1, x1), (4, x4), (5, x5)] B
def Zqv := exec PP HH 130 m0 EE LL Zyh (ZtX m0) [(0, x0), (1, x1), (4, x4), (5, x5)] B
theorem ZFA : Zyf m0 x0 x1 x4 x5 B =
 mk (callS false EE 127 [(shr x0)] B fun a b =>
 mk (callS true EE 149 [(shr x5)] b fun c d =>
 ob (xnil PP .neq 94 (.slice none 0 0) c) fun e =>
 asB (shr e) fun f => br f (mk (ob (xbin PP .lss 3 (shr x5) (iv 97)) fun g =>
 callS true EE 149 [(shr x5)] d fun h i =>
 callS false EE 128 [g, h] i fun j k =>
 stN 7 x4 j k fun l =>
 Z9t x4 l))
 (mk (ob (xbin PP .eql 3 (shr x5) (iv 98)) fun n =>
 asB (shr n) fun o => br o (mk (ob (Z21 PP 98 [(0, (iv 9)), (4, (iv 2))]) fun p =>
 stN 7 x4 p d fun q =>
 Z9t x4 q))
 (mk (ob (xbin PP .eql 3 (shr x5) (iv 66)) fun r =>
 asB (shr r) fun s => br s (mk (ob (Z21 PP 98 [(0, (iv 9)), (4, (iv 3))]) fun t =>
 stN 7 x4 t d fun u =>
 Z9t x4 u))
 (mk (ob (xbin PP .geq 3 (shr x5) (iv 49)) fun v =>
 asB (shr v) fun w => br w (ob (xbin PP .leq 3 (shr x5) (iv 57)) fun x =>
 asB (shr (shr x)) fun y => br y (Zvh m0 x0 x1 x4 x5 (gcB m0 [x0, x1, x4, x5] d))
 (Zqv m0 x0 x1 x4 x5 (gcB m0 [x0, x1, x4, x5] d)))
 (Zqv m0 x0 x1 x4 x5 (gcB m0 [x0, x1, x4, x5] d)))))))))) := by kernel_rfl
theorem ZDJ : Zvh m0 x0 x1 x4 x5 B =
 mk (ob (Z2m (shr x0)) fun a =>
 ob (xfld 4 a) fun b =>
 ldOwn b B fun c d =>
 ob (xbin PP .sub 3 (shr x5) (iv 48)) fun e =>
 ob (Z21 PP 149 [(0, e), (1, (shr x1))]) fun f =>
 ob (xlit PP 142 1 [(0, f)]) fun g =>
 ob (xapp 2 c g) fun h =>
 ob (Z2m (shr x0)) fun i =>
 ob (xfld 4 i) fun j =>
 stN 1 j h d fun k =>
 mk (ob (xbin PP .sub 3 (shr x5) (iv 48)) fun l =>
 ob (Z21 PP 98 [(0, (iv 6)), (4, l)]) fun n =>
 stN 7 x4 n k fun o =>
 Z9t x4 o)) := by kernel_rfl
theorem ZDK : Zqv m0 x0 x1 x4 x5 B =
 mk (callS false EE 150 [(shr x0), (shr x5), (shr x1)] B fun a b =>
 callS false EE 129 [a] b fun c d =>
 ob (xlit PP 94 1 [(0, c)]) fun e =>
 callS false EE 128 [(bv false), e] d fun f g =>
 stN 7 x4 f g fun h =>
 Z9t x4 h) := by kernel_rfl
theorem ZMg : EE 130 [x0, x1] B =
 (let m0 := B.length
 mk (bz PP 98 B fun a b =>
 mk (callS false EE 104 [(shr x0)] b fun c d =>
 mk (ob (xbin PP .lss 3 (shr (shr c)) (iv 0)) fun e =>
 asB e fun f => br f (mk (callS false EE 70 [(shr x0), (iv 21), (shr x1)] d fun g h =>
 mk (ob (Z21 PP 98 []) fun i =>
 stN 7 a i h fun j =>
 Z9t a j)))
 (Zyf m0 x0 x1 a (shr c) (gcB m0 [x0, x1, a, (shr c)] d)))))) := (E_eq PP XX HH _ _ _).trans (by kernel_rfl)
noncomputable def ZHW := Z3b Tryz.f131
def Zym := l2 (l2 (l2 (l2 (l2 (l2 ZHW)))))
def ZfT := l1 (l1 (l1 (l2 (l2 (l2 (l2 (l2 ZHW)))))))
def Zu0 := l2 (l2 (l1 (l1 (l2 ZfT))))
def Zu1 := l2 (l2 Zu0)
def Zyl := l2 (l2 Zu1)
def Zu2 := l2 (l1 (l2 (l1 (l2 Zu1))))
def ZEx := l2 (l1 (l2 (l2 (l2 (l1 (l2 (l2 (l1 (l2 (l1 (l1 (l2 ZfT))))))))))))
def Zyi (m0 : Nat) : Kont := kret PP HH 131 Tryz.f131.results
def ZMk := kseq HH 131 m0 Zym (exec PP HH 131 m0 EE LL Zym (Zyi m0)) (Zyi m0)
def Zyj := kblk 0 (ZMk m0)
def ZtY := kloop HH 131 m0 ZfT (LL 131 m0 ZfT (Zyj m0)) (Zyj m0)
def ZMl := kseq HH 131 m0 (l2 (l2 ZfT)) (exec PP HH 131 m0 EE LL (l2 (l2 ZfT)) (ZtY m0)) (ZtY m0)
def Zk7 := kblk 1 (ZMl m0)
def ZMm := kseq HH 131 m0 Zu0 (exec PP HH 131 m0 EE LL Zu0 (Zk7 m0)) (Zk7 m0)
def ZEw := kblk 2 (ZMm m0)
def ZtZ := kseq HH 131 m0 Zyl (exec PP HH 131 m0 EE LL Zyl (Zk7 m0)) (Zk7 m0)
def ZMn := kseq HH 131 m0 Zu2 (exec PP HH 131 m0 EE LL Zu2 (ZtZ m0)) (ZtZ m0)
def Zp8 := lp (LL 131 m0 ZfT (Zyj m0) [(0, x0), (1, x1), (4, x4), (5, x5), (6, x6), (7, x7), (8, x8)] B)
def Zyk := exec PP HH 131 m0 EE LL (l2 ZfT) (ZtY m0) [(0, x0), (1, x1), (4, x4), (5, x5), (6, x6), (7, x7), (8, x8)] B
def Zvl := exec PP HH 131 m0 EE LL Zym (Zyi m0) [(4, x4)] B
def Zdy := exec PP HH 131 m0 EE LL (l2 (l2 ZfT)) (ZtY m0) [(0, x0), (1, x1), (4, x4), (5, x5), (6, x6), (7, x7), (8, x8)] B
def Zvi := exec PP HH 131 m0 EE LL ZEx (ZEw m0) [(0, x0), (4, x4), (5, x5), (6, x6)] B
def Zqx := exec PP HH 131 m0 EE LL Zu0 (Zk7 m0) [(0, x0), (1, x1), (4, x4), (5, x5), (6, x6), (7, x7), (8, x8), (9, x9)] B
def Zqw := exec PP HH 131 m0 EE LL (l2 (l2 ZEx)) (ZEw m0) [(4, x4), (6, x6)] B
def Zvj := exec PP HH 131 m0 EE LL Zu1 (Zk7 m0) [(0, x0), (1, x1), (4, x4), (5, x5), (6, x6), (7, x7), (8, x8), (9, x9), (11, x11)] B
def Zk8 := exec PP HH 131 m0 EE LL (l1 (l2 (l2 (l1 (l1 (l2 (l1 (l2 Zu1)))))))) (ZMn m0) [(0, x0), (1, x1), (4, x4), (5, x5), (6, x6), (7, x7), (8, x8), (9, x9)] B
def Zvk := exec PP HH 131 m0 EE LL Zu2 (ZtZ m0) [(0, x0), (1, x1), (4, x4), (5, x5), (6, x6), (7, x7), (8, x8), (9, x9), (11, x11)] B
def Zk9 := exec PP HH 131 m0 EE LL Zyl (Zk7 m0) [(0, x0), (1, x1), (4, x4), (5, x5), (6, x6), (7, x7), (8, x8), (11, x11), (15, x15)] B
def Zqy := exec PP HH 131 m0 EE LL (l1 (l2 (l2 Zu2))) (ZtZ m0) [(0, x0), (1, x1), (4, x4), (5, x5), (6, x6), (7, x7), (8, x8), (9, x9), (11, x11), (15, x15)] B
theorem ZFB : Zp8 m0 x0 x1 x4 x5 x6 x7 x8 B =
 mk (ob (Z2m (shr x0)) fun a =>
 ob (xfld 5 a) fun b =>
 ob (xfld 0 b) fun c =>
 ob (ldN false 1 c B) fun d =>
 ob (xbin PP .eql 30 d (iv 0)) fun e =>
 asB e fun f => br f (Zyk m0 x0 x1 x4 x5 x6 x7 x8 (gcB m0 [x0, x1, x4, x5, x6, x7, x8] B))
 (Zvl m0 x4 (gcB m0 [x4] B))) := lq_ (by kernel_rfl)
theorem ZFD : Zyk m0 x0 x1 x4 x5 x6 x7 x8 B =
 mk (ob (Z2m (shr x0)) fun a =>
 ob (xfld 1 a) fun b =>
 ob (ldN false 1 b B) fun c =>
 mk (callS false EE 104 [(shr x0)] B fun d e =>
 mk (mk (ob (xbin PP .eql 3 (shr (shr d)) (iv (-1))) fun f =>
 asB (shr f) fun g => br g (mk (callS false EE 70 [(shr x0), (iv 22), (shr x1)] e fun h i =>
 Zdy m0 x0 x1 x4 x5 x6 x7 x8 (gcB m0 [x0, x1, x4, x5, x6, x7, x8] i)))
 (mk (ob (xbin PP .eql 3 (shr (shr d)) (iv 93)) fun j =>
 asB (shr j) fun k => br k (mk (ob (xbin PP .eql 3 (shr x8) (iv 0)) fun l =>
 asB l fun n => br n (mk (callS false EE 70 [(shr x0), (iv 22), (shr x1)] e fun o p =>
 Zdy m0 x0 x1 x4 x5 x6 x7 x8 (gcB m0 [x0, x1, x4, x5, x6, x7, x8] p)))
 (Zvi m0 x0 x4 x5 x6 (gcB m0 [x0, x4, x5, x6] e))))
 (mk (ob (xbin PP .eql 3 (shr (shr d)) (iv 91)) fun q =>
 asB (shr q) fun r => br r (asB (shr q) fun s => br s (mk (callS false EE 70 [(shr x0), (iv 22), (shr (shr c))] e fun t u =>
 Zdy m0 x0 x1 x4 x5 x6 x7 x8 (gcB m0 [x0, x1, x4, x5, x6, x7, x8] u)))
 (Zqx m0 x0 x1 x4 x5 x6 x7 x8 (shr c) (gcB m0 [x0, x1, x4, x5, x6, x7, x8, (shr c)] e)))
 (mk (ob (xbin PP .eql 3 (shr (shr d)) (iv 45)) fun v =>
 asB (shr v) fun w => br w (mk (callS false EE 70 [(shr x0), (iv 22), (shr (shr c))] e fun x y =>
 Zdy m0 x0 x1 x4 x5 x6 x7 x8 (gcB m0 [x0, x1, x4, x5, x6, x7, x8] y)))
 (Zqx m0 x0 x1 x4 x5 x6 x7 x8 (shr c) (gcB m0 [x0, x1, x4, x5, x6, x7, x8, (shr c)] e)))))))))))) := by kernel_rfl
theorem ZDT : Zvl m0 x4 B =
 mk (ob (Z21 PP 98 []) fun a =>
 stN 7 x4 a B fun b =>
 Z9t x4 b) := by kernel_rfl
theorem ZFC : Zdy m0 x0 x1 x4 x5 x6 x7 x8 B =
 mk (ob (xbin PP .add 3 (shr x8) (iv 1)) fun a =>
 Zp8 m0 x0 x1 x4 x5 x6 x7 (shr a) (gcB m0 [x0, x1, x4, x5, x6, x7, (shr a)] B)) := by kernel_rfl
theorem ZDL : Zvi m0 x0 x4 x5 x6 B =
 mk (callS false EE 127 [(shr x0)] B fun a b =>
 mk (asB (shr x5) fun c => br c (mk (ob (ldN false 1 x6 b) fun d =>
 callS false EE 148 [d] b fun e f =>
 ob (xext 0 (shr e)) fun g =>
 ob (xext 1 (shr e)) fun h =>
 stN 1 x6 (shr g) f fun i =>
 Zqw m0 x4 x6 (gcB m0 [x4, x6] i)))
 (Zqw m0 x4 x6 (gcB m0 [x4, x6] b)))) := by kernel_rfl
theorem ZDN : Zqx m0 x0 x1 x4 x5 x6 x7 x8 x9 B =
 mk (callS true EE 153 [(shr x0)] B fun a b =>
 ob (xext 0 (shr a)) fun c =>
 ob (xext 1 (shr a)) fun d =>
 ob (xext 2 (shr a)) fun e =>
 mk (ob (xnil PP .neq 94 (.slice none 0 0) (shr (shr (shr d)))) fun f =>
 asB f fun g => br g (mk (callS false EE 128 [(shr (shr (shr e))), (shr (shr (shr d)))] b fun h i =>
 bz PP 98 i fun j k =>
 stN 7 j h k fun l =>
 mk (ob (xfld 5 j) fun n =>
 ob (ldN false 1 n l) fun o =>
 callV HH EE (shr x7) [o] l fun p q =>
 mk (callS false EE 104 [(shr x0)] q fun r s =>
 ob (xbin PP .eql 3 r (iv 45)) fun t =>
 asB t fun u => br u (mk (ob (Z2m (shr x0)) fun v =>
 ob (xfld 1 v) fun w =>
 ob (ldN false 1 w s) fun x =>
 callS false EE 70 [(shr x0), (iv 22), x] s fun y z =>
 Zdy m0 x0 x1 x4 x5 x6 x7 x8 (gcB m0 [x0, x1, x4, x5, x6, x7, x8] z)))
 (Zdy m0 x0 x1 x4 x5 x6 x7 x8 (gcB m0 [x0, x1, x4, x5, x6, x7, x8] s))))))
 (Zvj m0 x0 x1 x4 x5 x6 x7 x8 x9 (shr (shr c)) (gcB m0 [x0, x1, x4, x5, x6, x7, x8, x9, (shr (shr c))] b)))) := by kernel_rfl
theorem ZDM : Zqw m0 x4 x6 B =
 mk (ob (ldN false 1 x6 B) fun a =>
 ob (Z21 PP 98 [(0, (iv 1)), (5, a)]) fun b =>
 stN 7 x4 b B fun c =>
 Z9t x4 c) := by kernel_rfl
theorem ZDO : Zvj m0 x0 x1 x4 x5 x6 x7 x8 x9 x11 B =
 mk (mk (callS false EE 68 [(shr x0), (.p (.v (.string (ByteArray.mk #[45]))))] B fun a b =>
 asB a fun c => br c (mk (callS false EE 104 [(shr x0)] b fun d e =>
 mk (ob (xbin PP .eql 3 (shr (shr d)) (iv 93)) fun f =>
 asB (shr f) fun g => br g (Zk8 m0 x0 x1 x4 x5 x6 x7 x8 x9 (gcB m0 [x0, x1, x4, x5, x6, x7, x8, x9] e))
 (ob (xbin PP .eql 3 (shr (shr d)) (iv 91)) fun h =>
 asB (shr (shr h)) fun i => br i (Zk8 m0 x0 x1 x4 x5 x6 x7 x8 x9 (gcB m0 [x0, x1, x4, x5, x6, x7, x8, x9] e))
 (ob (xbin PP .eql 3 (shr (shr d)) (iv 45)) fun j =>
 asB (shr (shr j)) fun k => br k (Zk8 m0 x0 x1 x4 x5 x6 x7 x8 x9 (gcB m0 [x0, x1, x4, x5, x6, x7, x8, x9] e))
 (ob (xbin PP .lss 3 (shr (shr d)) (iv 0)) fun l =>
 asB (shr l) fun n => br n (Zk8 m0 x0 x1 x4 x5 x6 x7 x8 x9 (gcB m0 [x0, x1, x4, x5, x6, x7, x8, x9] e))
 (Zvk m0 x0 x1 x4 x5 x6 x7 x8 x9 x11 (gcB m0 [x0, x1, x4, x5, x6, x7, x8, x9, x11] e))))))))
 (Zk9 m0 x0 x1 x4 x5 x6 x7 x8 x11 (shr (shr x11)) (gcB m0 [x0, x1, x4, x5, x6, x7, x8, x11, (shr (shr x11))] b)))) := by kernel_rfl
theorem ZDP : Zk8 m0 x0 x1 x4 x5 x6 x7 x8 x9 B =
 mk (callS false EE 70 [(shr x0), (iv 22), (shr x9)] B fun a b =>
 Zdy m0 x0 x1 x4 x5 x6 x7 x8 (gcB m0 [x0, x1, x4, x5, x6, x7, x8] b)) := by kernel_rfl
theorem ZDQ : Zvk m0 x0 x1 x4 x5 x6 x7 x8 x9 x11 B =
 mk (callS true EE 153 [(shr x0)] B fun a b =>
 ob (xext 0 (shr a)) fun c =>
 ob (xext 1 (shr a)) fun d =>
 ob (xext 2 (shr a)) fun e =>
 mk (ob (Z2m (shr x0)) fun f =>
 ob (xfld 5 f) fun g =>
 ob (xfld 0 g) fun h =>
 ob (ldN false 1 h b) fun i =>
 ob (xbin PP .eql 30 i (iv 0)) fun j =>
 asB (shr j) fun k => br k (ob (xnil PP .neq 94 (.slice none 0 0) (shr (shr (shr d)))) fun l =>
 asB (shr l) fun n => br n (Zqy m0 x0 x1 x4 x5 x6 x7 x8 x9 x11 (shr (shr c)) (gcB m0 [x0, x1, x4, x5, x6, x7, x8, x9, x11, (shr (shr c))] b))
 (ob (xbin PP .lss 3 (shr (shr (shr c))) (shr x11)) fun o =>
 asB (shr (shr o)) fun p => br p (Zqy m0 x0 x1 x4 x5 x6 x7 x8 x9 x11 (shr (shr c)) (gcB m0 [x0, x1, x4, x5, x6, x7, x8, x9, x11, (shr (shr c))] b))
 (Zk9 m0 x0 x1 x4 x5 x6 x7 x8 x11 (shr (shr c)) (gcB m0 [x0, x1, x4, x5, x6, x7, x8, x11, (shr (shr c))] b))))
 (Zk9 m0 x0 x1 x4 x5 x6 x7 x8 x11 (shr (shr c)) (gcB m0 [x0, x1, x4, x5, x6, x7, x8, x11, (shr (shr c))] b)))) := by kernel_rfl
theorem ZDS : Zk9 m0 x0 x1 x4 x5 x6 x7 x8 x11 x15 B =
 mk (ob (Z2m (shr x0)) fun a =>
 ob (xfld 5 a) fun b =>
 ob (xfld 0 b) fun c =>
 ob (ldN false 1 c B) fun d =>
 ob (xbin PP .eql 30 d (iv 0)) fun e =>
 asB e fun f => br f (mk (ob (Z21 PP 201 [(0, (shr x11)), (1, (shr x15))]) fun g =>
 ob (xlit PP 95 1 [(0, g)]) fun h =>
 callV HH EE (shr x7) [h] B fun i j =>
 Zdy m0 x0 x1 x4 x5 x6 x7 x8 (gcB m0 [x0, x1, x4, x5, x6, x7, x8] j)))
 (Zdy m0 x0 x1 x4 x5 x6 x7 x8 (gcB m0 [x0, x1, x4, x5, x6, x7, x8] B))) := by kernel_rfl
theorem ZDR : Zqy m0 x0 x1 x4 x5 x6 x7 x8 x9 x11 x15 B =
 mk (callS false EE 70 [(shr x0), (iv 22), (shr x9)] B fun a b =>
 Zk9 m0 x0 x1 x4 x5 x6 x7 x8 x11 x15 (gcB m0 [x0, x1, x4, x5, x6, x7, x8, x11, x15] b)) := by kernel_rfl
theorem ZMj : EE 131 [x0, x1] B =
 (let m0 := B.length
 mk (bz PP 98 B fun a b =>
 mk (callS false EE 68 [(shr x0), (.p (.v (.string (ByteArray.mk #[94]))))] b fun c d =>
 mk (bz PP 95 d fun e f =>
 mk (mk (Zp8 m0 x0 x1 a (shr c) e (shr (.clo 151 ([].map nrmA) ([e].map nrmA))) (iv 0) (gcB m0 [x0, x1, a, (shr c), e, (shr (.clo 151 ([].map nrmA) ([e].map nrmA))), (iv 0)] f))))))) := (E_eq PP XX HH _ _ _).trans (by kernel_rfl)
noncomputable def ZO2 := Z3b Tryz.f132
def ZEy := l2 (l2 ZO2)
def Zyo := l2 (l2 ZEy)
def Zu3 := l2 (l2 Zyo)
def Zmy (m0 : Nat) : Kont := kret PP HH 132 Tryz.f132.results
def ZMp := kseq HH 132 m0 Zu3 (exec PP HH 132 m0 EE LL Zu3 (Zmy m0)) (Zmy m0)
def Zyn := exec PP HH 132 m0 EE LL ZEy (Zmy m0) [(0, x0), (1, x1), (4, x4)] B
def Zf3 := exec PP HH 132 m0 EE LL Zyo (Zmy m0) [(0, x0), (1, x1), (4, x4)] B
def Zvm := exec PP HH 132 m0 EE LL (l1 (l2 (l1 (l2 Zyo)))) (ZMp m0) [(0, x0), (1, x1), (4, x4), (7, x7)] B
def ZmR := exec PP HH 132 m0 EE LL Zu3 (Zmy m0) [(0, x0), (4, x4), (7, x7)] B
def Zvn := exec PP HH 132 m0 EE LL (l2 (l2 Zu3)) (Zmy m0) [(4, x4), (7, x7)] B
theorem ZFE : Zyn m0 x0 x1 x4 B =
 mk (ob (Z2m (shr x0)) fun a =>
 ob (xfld 3 a) fun b =>
 ob (ldN false 1 b B) fun c =>
 ob (xbin PP .add 3 c (iv 1)) fun d =>
 ob (Z2m (shr x0)) fun e =>
 ob (xfld 3 e) fun f =>
 stN 1 f d B fun g =>
 mk (callS false EE 155 [] g fun h i =>
 callS false EE 154 [h, (.clo 68 ([(shr x0)].map nrmA) ([].map nrmA))] i fun j k =>
 mk (ob (xbin PP .geq 3 (shr (shr j)) (iv 0)) fun l =>
 asB (shr l) fun n => br n (mk (ob (Z21 PP 98 [(0, (iv 7)), (3, (shr (shr j)))]) fun o =>
 stN 7 x4 o k fun q =>
 Zf3 m0 x0 x1 x4 (gcB m0 [x0, x1, x4] q)))
 (mk (callS false EE 68 [(shr x0), (.p (.v (.string (ByteArray.mk #[63, 62]))))] k fun r s =>
 asB (shr r) fun t => br t (mk (ob (Z21 PP 98 [(0, (iv 8))]) fun u =>
 stN 7 x4 u s fun w =>
 Zf3 m0 x0 x1 x4 (gcB m0 [x0, x1, x4] w)))
 (mk (callS false EE 68 [(shr x0), (.p (.v (.string (ByteArray.mk #[63, 58]))))] s fun x y =>
 asB (shr x) fun z => br z (Zf3 m0 x0 x1 x4 (gcB m0 [x0, x1, x4] y))
 (mk (callS false EE 104 [(shr x0)] y fun A C =>
 ob (xbin PP .eql 3 A (iv 63)) fun D =>
 asB (shr D) fun F => br F (mk (callS false EE 70 [(shr x0), (iv 20), (shr x1)] C fun G I =>
 Zf3 m0 x0 x1 x4 (gcB m0 [x0, x1, x4] I)))
 (mk (ob (Z2m (shr x0)) fun J =>
 ob (xfld 2 J) fun M =>
 ob (ldN false 1 M C) fun N =>
 ob (xbin PP .eql 3 N (iv 9)) fun O =>
 asB (shr O) fun Q => br Q (mk (callS false EE 70 [(shr x0), (iv 24), (shr x1)] C fun R S =>
 Zf3 m0 x0 x1 x4 (gcB m0 [x0, x1, x4] S)))
 (mk (ob (Z2m (shr x0)) fun T =>
 ob (xfld 2 T) fun U =>
 ob (ldN false 1 U C) fun V =>
 ob (xbin PP .add 3 V (iv 1)) fun W =>
 ob (Z2m (shr x0)) fun Y =>
 ob (xfld 2 Y) fun Z =>
 stN 1 Z W C fun a0 =>
 mk (ob (Z2m (shr x0)) fun a1 =>
 ob (xfld 2 a1) fun a2 =>
 ob (ldN false 1 a2 a0) fun a3 =>
 ob (Z21 PP 98 [(0, (iv 5)), (4, a3)]) fun a4 =>
 stN 7 x4 a4 a0 fun a5 =>
 Zf3 m0 x0 x1 x4 (gcB m0 [x0, x1, x4] a5))))))))))))))) := by kernel_rfl
theorem ZDU : Zf3 m0 x0 x1 x4 B =
 mk (callS false EE 69 [(shr x0)] B fun a b =>
 bz PP 98 b fun c d =>
 stN 7 c a d fun e =>
 mk (ob (Z2m (shr x0)) fun f =>
 ob (xfld 5 f) fun g =>
 ob (xfld 0 g) fun h =>
 ob (ldN false 1 h e) fun i =>
 ob (xbin PP .eql 30 i (iv 0)) fun j =>
 asB (shr j) fun k => br k (callS false EE 68 [(shr x0), (.p (.v (.string (ByteArray.mk #[41]))))] e fun l n =>
 ob (xun PP .not l) fun o =>
 asB (shr o) fun q => br q (Zvm m0 x0 x1 x4 c (gcB m0 [x0, x1, x4, c] n))
 (ZmR m0 x0 x4 c (gcB m0 [x0, x4, c] n)))
 (ZmR m0 x0 x4 c (gcB m0 [x0, x4, c] e)))) := by kernel_rfl
theorem ZDV : Zvm m0 x0 x1 x4 x7 B =
 mk (callS false EE 70 [(shr x0), (iv 20), (shr x1)] B fun a b =>
 ZmR m0 x0 x4 x7 (gcB m0 [x0, x4, x7] b)) := by kernel_rfl
theorem ZDW : ZmR m0 x0 x4 x7 B =
 mk (ob (Z2m (shr x0)) fun a =>
 ob (xfld 3 a) fun b =>
 ob (ldN false 1 b B) fun c =>
 ob (xbin PP .sub 3 c (iv 1)) fun d =>
 ob (Z2m (shr x0)) fun e =>
 ob (xfld 3 e) fun f =>
 stN 1 f d B fun g =>
 mk (ob (xfld 0 x4) fun h =>
 ob (ldN false 1 h g) fun i =>
 ob (xbin PP .eql 3 i (iv 0)) fun j =>
 asB j fun k => br k (mk (ob (ldN true 7 x7 g) fun l =>
 stN 7 x4 l g fun n =>
 Z6H x4 (bv true) n))
 (Zvn m0 x4 x7 (gcB m0 [x4, x7] g)))) := by kernel_rfl
theorem ZDX : Zvn m0 x4 x7 B =
 mk (ob (ldN true 7 x7 B) fun a =>
 ob (xlit PP 96 1 [(0, a)]) fun b =>
 ob (xfld 6 x4) fun c =>
 stN 1 c b B fun d =>
 mk (ob (ldN true 7 x4 d) fun e =>
 ob (xfld 0 x4) fun f =>
 ob (ldN false 1 f d) fun g =>
 ob (xbin PP .neq 3 g (iv 7)) fun h =>
 stN 7 x4 e d fun i =>
 Z6H x4 (shr h) i)) := by kernel_rfl
theorem ZMo : EE 132 [x0, x1] B =
 (let m0 := B.length
 mk (bz PP 98 B fun a b =>
 mk (ob (Z2m (shr x0)) fun c =>
 ob (xfld 3 c) fun d =>
 ob (ldN false 1 d b) fun e =>
 ob (xbin PP .eql 3 e (iv 32)) fun f =>
 asB f fun g => br g (mk (callS false EE 70 [(shr x0), (iv 25), (shr x1)] b fun h i =>
 mk (ob (Z21 PP 98 []) fun j =>
 stN 7 a j i fun k =>
 Z6H a (bv true) k)))
 (Zyn m0 x0 x1 a (gcB m0 [x0, x1, a] b))))) := (E_eq PP XX HH _ _ _).trans (by kernel_rfl)
noncomputable def ZHX := Z3b Tryz.f133
def Zkb := l2 (l2 (l2 (l2 ZHX)))
def Zp9 := l1 (l2 (l2 (l1 (l2 (l1 (l2 (l2 (l2 ZHX))))))))
def Zmz (m0 : Nat) : Kont := kret PP HH 133 Tryz.f133.results
def Zu4 := kseq HH 133 m0 Zkb (exec PP HH 133 m0 EE LL Zkb (Zmz m0)) (Zmz m0)
def ZMr := kseq HH 133 m0 (l2 Zp9) (exec PP HH 133 m0 EE LL (l2 Zp9) (Zu4 m0)) (Zu4 m0)
def ZMs := kseq HH 133 m0 (l2 Zkb) (exec PP HH 133 m0 EE LL (l2 Zkb) (Zmz m0)) (Zmz m0)
def Zyp := exec PP HH 133 m0 EE LL Zp9 (Zu4 m0) [(0, x0), (1, x1), (4, x4)] B
def ZmA := exec PP HH 133 m0 EE LL Zkb (Zmz m0) [(0, x0), (1, x1), (4, x4), (5, x5)] B
def Zyq := exec PP HH 133 m0 EE LL (l1 (l2 (l1 Zp9))) (ZMr m0) [(4, x4)] B
def Zu5 := exec PP HH 133 m0 EE LL (l2 Zp9) (Zu4 m0) [(0, x0), (1, x1), (4, x4)] B
def Zka := exec PP HH 133 m0 EE LL (l1 (l2 (l1 Zkb))) (ZMs m0) [(0, x0), (1, x1), (4, x4), (5, x5)] B
def Zqz := exec PP HH 133 m0 EE LL (l2 Zkb) (Zmz m0) [(4, x4), (5, x5)] B
theorem ZFF : Zyp m0 x0 x1 x4 B =
 mk (callS false EE 68 [(shr x0), (.p (.v (.string (ByteArray.mk #[125]))))] B fun a b =>
 asB (shr a) fun c => br c (ob (xbin PP .leq 3 (shr x4) (iv 64)) fun d =>
 asB (shr d) fun e => br e (Zyq m0 x4 (gcB m0 [x4] b))
 (Zu5 m0 x0 x1 x4 (gcB m0 [x0, x1, x4] b)))
 (Zu5 m0 x0 x1 x4 (gcB m0 [x0, x1, x4] b))) := by kernel_rfl
theorem ZFI : ZmA m0 x0 x1 x4 x5 B =
 mk (ob (xbin PP .lss 3 (shr x4) (iv 0)) fun a =>
 asB (shr a) fun b => br b (Zka m0 x0 x1 x4 x5 (gcB m0 [x0, x1, x4, x5] B))
 (ob (xbin PP .lss 3 (shr x5) (shr x4)) fun c =>
 asB (shr (shr c)) fun d => br d (Zka m0 x0 x1 x4 x5 (gcB m0 [x0, x1, x4, x5] B))
 (ob (xbin PP .gtr 3 (shr x5) (iv 64)) fun e =>
 asB (shr (shr e)) fun f => br f (Zka m0 x0 x1 x4 x5 (gcB m0 [x0, x1, x4, x5] B))
 (callS false EE 68 [(shr x0), (.p (.v (.string (ByteArray.mk #[125]))))] B fun g h =>
 ob (xun PP .not g) fun i =>
 asB (shr i) fun j => br j (Zka m0 x0 x1 x4 x5 (gcB m0 [x0, x1, x4, x5] h))
 (Zqz m0 x4 x5 (gcB m0 [x4, x5] h)))))) := by kernel_rfl
theorem ZFG : Zyq m0 x4 B =
 mk (Z8N (shr (shr x4)) (iv (-1)) B) := by kernel_rfl
theorem ZFH : Zu5 m0 x0 x1 x4 B =
 mk (ZmA m0 x0 x1 x4 (iv (-2)) (gcB m0 [x0, x1, x4, (iv (-2))] B)) := by kernel_rfl
theorem ZDY : Zka m0 x0 x1 x4 x5 B =
 mk (callS false EE 70 [(shr x0), (iv 23), (shr x1)] B fun a b =>
 Zqz m0 x4 x5 (gcB m0 [x4, x5] b)) := by kernel_rfl
theorem ZDZ : Zqz m0 x4 x5 B =
 mk (Z8N (shr (shr x4)) (shr (shr x5)) B) := by kernel_rfl
theorem ZMq : EE 133 [x0, x1] B =
 (let m0 := B.length
 mk (mk (callS false EE 156 [(shr x0)] B fun a b =>
 mk (mk (callS false EE 68 [(shr x0), (.p (.v (.string (ByteArray.mk #[44]))))] b fun c d =>
 asB c fun e => br e (mk (callS false EE 156 [(shr x0)] d fun f g =>
 mk (ob (xbin PP .lss 3 (shr (shr f)) (iv 0)) fun h =>
 asB (shr h) fun i => br i (ob (xbin PP .geq 3 (shr (shr a)) (iv 0)) fun j =>
 asB (shr j) fun k => br k (Zyp m0 x0 x1 (shr a) (gcB m0 [x0, x1, (shr a)] g))
 (ZmA m0 x0 x1 (shr a) (shr f) (gcB m0 [x0, x1, (shr a), (shr f)] g)))
 (ZmA m0 x0 x1 (shr a) (shr f) (gcB m0 [x0, x1, (shr a), (shr f)] g)))))
 (ZmA m0 x0 x1 (shr a) (shr (shr (shr a))) (gcB m0 [x0, x1, (shr a), (shr (shr (shr a)))] d))))))) := (E_eq PP XX HH _ _ _).trans (by kernel_rfl)
noncomputable def ZO3 := Z3b Tryz.f134
def ZMu (m0 : Nat) : Kont := kret PP HH 134 Tryz.f134.results
def Zyr := exec PP HH 134 m0 EE LL (l2 (l2 ZO3)) (ZMu m0) [(0, x0)] B
theorem ZFJ : Zyr m0 x0 B =
 mk (Z1x (shr (shr x0)) B) := by kernel_rfl
theorem ZMt : EE 134 [x0] B =
 (let m0 := B.length
 mk (mk (ob (xbin PP .gtr 3 (shr x0) (iv 1048576)) fun a =>
 asB a fun b => br b (mk (Z1x (iv (-1)) B))
 (Zyr m0 x0 (gcB m0 [x0] B))))) := (E_eq PP XX HH _ _ _).trans (by kernel_rfl)
noncomputable def ZO4 := Z3b Tryz.f147
def ZMw (m0 : Nat) : Kont := kret PP HH 147 Tryz.f147.results
def Zys := exec PP HH 147 m0 EE LL (l2 (l2 ZO4)) (ZMw m0) [(0, x0)] B
theorem ZFK : Zys m0 x0 B =
 mk (callS false EE 169 [(shr x0)] B fun a b =>
 Z8N (shr a) (iv 0) b) := by kernel_rfl
theorem ZMv : EE 147 [x0] B =
 (let m0 := B.length
 mk (mk (callS false EE 166 [(shr x0), (.clo 167 [] [])] B fun a b =>
 asB a fun c => br c (mk (Z8N nilA (iv 13) b))
 (Zys m0 x0 (gcB m0 [x0] b))))) := (E_eq PP XX HH _ _ _).trans (by kernel_rfl)
noncomputable def ZO5 := Z3b Tryz.f148
def ZMy (m0 : Nat) : Kont := kret PP HH 148 Tryz.f148.results
def Zyt := exec PP HH 148 m0 EE LL (l2 (l2 ZO5)) (ZMy m0) [(0, x0)] B
theorem ZFL : Zyt m0 x0 B =
 mk (callS false EE 171 [(shr x0)] B fun a b =>
 Z8N (shr a) (iv 0) b) := by kernel_rfl
theorem ZMx : EE 148 [x0] B =
 (let m0 := B.length
 mk (mk (callS false EE 170 [(shr x0)] B fun a b =>
 ob (xun PP .not a) fun c =>
 asB c fun d => br d (mk (Z8N nilA (iv 10) b))
 (Zyt m0 x0 (gcB m0 [x0] b))))) := (E_eq PP XX HH _ _ _).trans (by kernel_rfl)
noncomputable def ZO6 := Z3b Tryz.f149
def Z8w (r0 : AV) (B : List Row) : Option Res :=
 ob (ob (some r0) fun v => ob (some []) fun vs => some (v :: vs)) fun vs => some ((match vs with | [v] => v | vs => Z8r (vs.map shr)), B)
def ZMA (m0 : Nat) : Kont := kret PP HH 149 Tryz.f149.results
def ZcU := exec PP HH 149 m0 EE LL (l2 (l2 ZO6)) (ZMA m0) [] B
theorem ZE0 : ZcU m0 B =
 mk (Z8w nilA B) := by kernel_rfl
theorem ZMz : EE 149 [x0] B =
 (let m0 := B.length
 mk (mk (mk (ob (xbin PP .eql 3 (shr x0) (iv 100)) fun a =>
 asB (shr a) fun b => br b (asB (shr a) fun c => br c (mk (ob (Z21 PP 201 [(0, (iv 48)), (1, (iv 57))]) fun d =>
 ob (xlit PP 94 1 [(0, d)]) fun e =>
 Z8w e B))
 (mk (ob (xbin PP .eql 3 (shr x0) (iv 119)) fun f =>
 asB (shr f) fun g => br g (asB (shr f) fun h => br h (mk (ob (Z21 PP 201 [(0, (iv 48)), (1, (iv 57))]) fun i =>
 ob (Z21 PP 201 [(0, (iv 65)), (1, (iv 90))]) fun j =>
 callS false EE 129 [(iv 95)] B fun k l =>
 ob (Z21 PP 201 [(0, (iv 97)), (1, (iv 122))]) fun n =>
 ob (xlit PP 94 4 [(0, i), (1, j), (2, k), (3, n)]) fun o =>
 Z8w o l))
 (mk (ob (xbin PP .eql 3 (shr x0) (iv 115)) fun p =>
 asB (shr p) fun q => br q (asB (shr p) fun r => br r (mk (ob (Z21 PP 201 [(0, (iv 9)), (1, (iv 13))]) fun s =>
 callS false EE 129 [(iv 32)] B fun t u =>
 ob (xlit PP 94 2 [(0, s), (1, t)]) fun v =>
 Z8w v u))
 (ZcU m0 (gcB m0 [] B)))
 (mk (ob (xbin PP .eql 3 (shr x0) (iv 83)) fun w =>
 asB (shr w) fun x => br x (mk (ob (Z21 PP 201 [(0, (iv 9)), (1, (iv 13))]) fun y =>
 callS false EE 129 [(iv 32)] B fun z A =>
 ob (xlit PP 94 2 [(0, y), (1, z)]) fun C =>
 Z8w C A))
 (ZcU m0 (gcB m0 [] B)))))))
 (mk (ob (xbin PP .eql 3 (shr x0) (iv 87)) fun D =>
 asB (shr D) fun F => br F (mk (ob (Z21 PP 201 [(0, (iv 48)), (1, (iv 57))]) fun G =>
 ob (Z21 PP 201 [(0, (iv 65)), (1, (iv 90))]) fun I =>
 callS false EE 129 [(iv 95)] B fun J M =>
 ob (Z21 PP 201 [(0, (iv 97)), (1, (iv 122))]) fun N =>
 ob (xlit PP 94 4 [(0, G), (1, I), (2, J), (3, N)]) fun O =>
 Z8w O M))
 (mk (ob (xbin PP .eql 3 (shr x0) (iv 115)) fun Q =>
 asB (shr Q) fun R => br R (asB (shr Q) fun S => br S (mk (ob (Z21 PP 201 [(0, (iv 9)), (1, (iv 13))]) fun T =>
 callS false EE 129 [(iv 32)] B fun U V =>
 ob (xlit PP 94 2 [(0, T), (1, U)]) fun W =>
 Z8w W V))
 (ZcU m0 (gcB m0 [] B)))
 (mk (ob (xbin PP .eql 3 (shr x0) (iv 83)) fun Y =>
 asB (shr Y) fun Z => br Z (mk (ob (Z21 PP 201 [(0, (iv 9)), (1, (iv 13))]) fun a0 =>
 callS false EE 129 [(iv 32)] B fun a1 a2 =>
 ob (xlit PP 94 2 [(0, a0), (1, a1)]) fun a3 =>
 Z8w a3 a2))
 (ZcU m0 (gcB m0 [] B)))))))))))
 (mk (ob (xbin PP .eql 3 (shr x0) (iv 68)) fun a4 =>
 asB (shr a4) fun a5 => br a5 (mk (ob (Z21 PP 201 [(0, (iv 48)), (1, (iv 57))]) fun a6 =>
 ob (xlit PP 94 1 [(0, a6)]) fun a7 =>
 Z8w a7 B))
 (mk (ob (xbin PP .eql 3 (shr x0) (iv 119)) fun a8 =>
 asB (shr a8) fun a9 => br a9 (asB (shr a8) fun a10 => br a10 (mk (ob (Z21 PP 201 [(0, (iv 48)), (1, (iv 57))]) fun a11 =>
 ob (Z21 PP 201 [(0, (iv 65)), (1, (iv 90))]) fun a12 =>
 callS false EE 129 [(iv 95)] B fun a13 a14 =>
 ob (Z21 PP 201 [(0, (iv 97)), (1, (iv 122))]) fun a15 =>
 ob (xlit PP 94 4 [(0, a11), (1, a12), (2, a13), (3, a15)]) fun a16 =>
 Z8w a16 a14))
 (mk (ob (xbin PP .eql 3 (shr x0) (iv 115)) fun a17 =>
 asB (shr a17) fun a18 => br a18 (asB (shr a17) fun a19 => br a19 (mk (ob (Z21 PP 201 [(0, (iv 9)), (1, (iv 13))]) fun a20 =>
 callS false EE 129 [(iv 32)] B fun a21 a22 =>
 ob (xlit PP 94 2 [(0, a20), (1, a21)]) fun a23 =>
 Z8w a23 a22))
 (ZcU m0 (gcB m0 [] B)))
 (mk (ob (xbin PP .eql 3 (shr x0) (iv 83)) fun a24 =>
 asB (shr a24) fun a25 => br a25 (mk (ob (Z21 PP 201 [(0, (iv 9)), (1, (iv 13))]) fun a26 =>
 callS false EE 129 [(iv 32)] B fun a27 a28 =>
 ob (xlit PP 94 2 [(0, a26), (1, a27)]) fun a29 =>
 Z8w a29 a28))
 (ZcU m0 (gcB m0 [] B)))))))
 (mk (ob (xbin PP .eql 3 (shr x0) (iv 87)) fun a30 =>
 asB (shr a30) fun a31 => br a31 (mk (ob (Z21 PP 201 [(0, (iv 48)), (1, (iv 57))]) fun a32 =>
 ob (Z21 PP 201 [(0, (iv 65)), (1, (iv 90))]) fun a33 =>
 callS false EE 129 [(iv 95)] B fun a34 a35 =>
 ob (Z21 PP 201 [(0, (iv 97)), (1, (iv 122))]) fun a36 =>
 ob (xlit PP 94 4 [(0, a32), (1, a33), (2, a34), (3, a36)]) fun a37 =>
 Z8w a37 a35))
 (mk (ob (xbin PP .eql 3 (shr x0) (iv 115)) fun a38 =>
 asB (shr a38) fun a39 => br a39 (asB (shr a38) fun a40 => br a40 (mk (ob (Z21 PP 201 [(0, (iv 9)), (1, (iv 13))]) fun a41 =>
 callS false EE 129 [(iv 32)] B fun a42 a43 =>
 ob (xlit PP 94 2 [(0, a41), (1, a42)]) fun a44 =>
 Z8w a44 a43))
 (ZcU m0 (gcB m0 [] B)))
 (mk (ob (xbin PP .eql 3 (shr x0) (iv 83)) fun a45 =>
 asB (shr a45) fun a46 => br a46 (mk (ob (Z21 PP 201 [(0, (iv 9)), (1, (iv 13))]) fun a47 =>
 callS false EE 129 [(iv 32)] B fun a48 a49 =>
 ob (xlit PP 94 2 [(0, a47), (1, a48)]) fun a50 =>
 Z8w a50 a49))
 (ZcU m0 (gcB m0 [] B)))))))))))))))) := (E_eq PP XX HH _ _ _).trans (by kernel_rfl)
noncomputable def ZHY := Z3b Tryz.f150
def Zyv := l2 (l2 ZHY)
def Zyu (m0 : Nat) : Kont := kret PP HH 150 Tryz.f150.results
def ZMC := kseq HH 150 m0 Zyv (exec PP HH 150 m0 EE LL Zyv (Zyu m0)) (Zyu m0)
def ZMD := kblk 0 (ZMC m0)
def ZhS := exec PP HH 150 m0 EE LL Zyv (Zyu m0) [(0, x0), (2, x2)] B
def Zvo := exec PP HH 150 m0 EE LL (l1 (l2 (l2 (l2 (l2 (l2 (l2 (l2 (l2 (l2 (l1 (l1 (l2 ZHY))))))))))))) (ZMD m0) [(1, x1)] B
theorem ZE2 : ZhS m0 x0 x2 B =
 mk (callS false EE 70 [(shr x0), (iv 21), (shr x2)] B fun a b =>
 mk (Z1x (iv 0) b)) := by kernel_rfl
theorem ZE1 : Zvo m0 x1 B =
 mk (Z1x (shr (shr x1)) B) := by kernel_rfl
theorem ZMB : EE 150 [x0, x1, x2] B =
 (let m0 := B.length
 mk (mk (ob (xbin PP .eql 3 (shr x1) (iv 110)) fun a =>
 asB (shr a) fun b => br b (mk (Z1x (iv 10) B))
 (mk (ob (xbin PP .eql 3 (shr x1) (iv 116)) fun c =>
 asB (shr c) fun d => br d (mk (Z1x (iv 9) B))
 (mk (ob (xbin PP .eql 3 (shr x1) (iv 114)) fun e =>
 asB (shr e) fun f => br f (mk (Z1x (iv 13) B))
 (mk (ob (xbin PP .eql 3 (shr x1) (iv 120)) fun g =>
 asB (shr g) fun h => br h (mk (callS false EE 104 [(shr x0)] B fun i j =>
 callS false EE 172 [i] j fun k l =>
 mk (ob (xbin PP .geq 3 (shr (shr k)) (iv 0)) fun n =>
 asB n fun o => br o (mk (callS false EE 127 [(shr x0)] l fun p q =>
 mk (callS false EE 104 [(shr x0)] q fun r s =>
 callS false EE 172 [r] s fun t u =>
 mk (ob (xbin PP .geq 3 (shr (shr t)) (iv 0)) fun v =>
 asB v fun w => br w (mk (callS false EE 127 [(shr x0)] u fun x y =>
 mk (ob (xbin PP .mul 3 (iv 16) (shr (shr k))) fun z =>
 ob (xbin PP .add 3 z (shr (shr t))) fun A =>
 Z1x (shr A) y)))
 (ZhS m0 x0 x2 (gcB m0 [x0, x2] u))))))
 (ZhS m0 x0 x2 (gcB m0 [x0, x2] l)))))
 (mk (ob (xbin PP .gtr 3 (shr x1) (iv 32)) fun C =>
 asB (shr C) fun D => br D (ob (xbin PP .lss 3 (shr x1) (iv 127)) fun F =>
 asB (shr (shr F)) fun G => br G (ob (Z21 PP 201 [(0, (iv 48)), (1, (iv 57))]) fun I =>
 ob (Z21 PP 201 [(0, (iv 65)), (1, (iv 90))]) fun J =>
 ob (Z21 PP 201 [(0, (iv 97)), (1, (iv 122))]) fun M =>
 ob (xlit PP 95 3 [(0, I), (1, J), (2, M)]) fun N =>
 callS false EE 173 [N, (shr x1)] B fun O Q =>
 ob (xun PP .not O) fun R =>
 asB (shr (shr R)) fun S => br S (Zvo m0 x1 (gcB m0 [x1] Q))
 (ZhS m0 x0 x2 (gcB m0 [x0, x2] Q)))
 (ZhS m0 x0 x2 (gcB m0 [x0, x2] B)))
 (ZhS m0 x0 x2 (gcB m0 [x0, x2] B))))))))))))) := (E_eq PP XX HH _ _ _).trans (by kernel_rfl)
theorem ZME : EE 151 [x0, x1] B =
 (let m0 := B.length
 mk (ob (ldN false 1 x1 B) fun a =>
 callS false EE 152 [a, (shr x0)] B fun b c =>
 ob (xext 0 (shr b)) fun d =>
 ob (xext 1 (shr b)) fun e =>
 stN 1 x1 (shr d) c fun f =>
 Zum f)) := (E_eq PP XX HH _ _ _).trans (by kernel_rfl)
noncomputable def ZHZ := Z3b Tryz.f152
def Zyy := l2 (l2 ZHZ)
def Zyw (m0 : Nat) : Kont := kret PP HH 152 Tryz.f152.results
def ZMG := kseq HH 152 m0 Zyy (exec PP HH 152 m0 EE LL Zyy (Zyw m0)) (Zyw m0)
def Zu6 := exec PP HH 152 m0 EE LL (l1 (l2 (l1 (l2 ZHZ)))) (ZMG m0) [] B
def Zyx := exec PP HH 152 m0 EE LL Zyy (Zyw m0) [(0, x0), (1, x1)] B
theorem ZFM : Zu6 m0 B =
 mk (Z8N nilA (iv 10) B) := by kernel_rfl
theorem ZFN : Zyx m0 x0 x1 B =
 mk (ob (xlit PP 250 2 [(0, (shr x0)), (1, (shr x1))]) fun a =>
 callS false EE 174 [a] B fun b c =>
 callS false EE 169 [b] c fun d e =>
 Z8N (shr d) (iv 0) e) := by kernel_rfl
theorem ZMF : EE 152 [x0, x1] B =
 (let m0 := B.length
 mk (mk (callS false EE 170 [(shr x0)] B fun a b =>
 ob (xun PP .not a) fun c =>
 asB (shr c) fun d => br d (Zu6 m0 (gcB m0 [] b))
 (callS false EE 170 [(shr x1)] b fun e f =>
 ob (xun PP .not e) fun g =>
 asB (shr g) fun h => br h (Zu6 m0 (gcB m0 [] f))
 (Zyx m0 x0 x1 (gcB m0 [x0, x1] f)))))) := (E_eq PP XX HH _ _ _).trans (by kernel_rfl)
noncomputable def ZO7 := Z3b Tryz.f153
def ZyC := l2 (l2 (l2 ZO7))
def ZqA (r0 r1 r2 : AV) (B : List Row) : Option Res :=
 ob (ob (some r0) fun v => ob (ob (some r1) fun v => ob (ob (some r2) fun v => ob (some []) fun vs => some (v :: vs)) fun vs => some (v :: vs)) fun vs => some (v :: vs)) fun vs => some ((match vs with | [v] => v | vs => Z8r (vs.map shr)), B)
def Zyz (m0 : Nat) : Kont := kret PP HH 153 Tryz.f153.results
def ZyA := exec PP HH 153 m0 EE LL ZyC (Zyz m0) [(0, x0), (5, x5)] B
def ZyB := exec PP HH 153 m0 EE LL (l2 ZyC) (Zyz m0) [(0, x0), (2, x2), (5, x5)] B
def Zvp := exec PP HH 153 m0 EE LL (l2 (l2 (l2 ZyC))) (Zyz m0) [(0, x0), (2, x2), (5, x5)] B
theorem ZFO : ZyA m0 x0 x5 B =
 mk (callS false EE 104 [(shr x0)] B fun a b =>
 mk (ob (xbin PP .lss 3 (shr (shr a)) (iv 0)) fun c =>
 asB c fun d => br d (mk (callS false EE 70 [(shr x0), (iv 21), (shr x5)] b fun e f =>
 mk (ZqA (iv 0) nilA (bv false) f)))
 (ZyB m0 x0 (shr a) x5 (gcB m0 [x0, (shr a), x5] b)))) := by kernel_rfl
theorem ZFP : ZyB m0 x0 x2 x5 B =
 mk (callS false EE 127 [(shr x0)] B fun a b =>
 mk (callS true EE 149 [(shr x2)] b fun c d =>
 mk (ob (xnil PP .neq 94 (.slice none 0 0) (shr c)) fun e =>
 asB e fun f => br f (mk (ob (xbin PP .lss 3 (shr x2) (iv 97)) fun g =>
 ZqA (iv 0) c (shr g) d))
 (Zvp m0 x0 x2 x5 (gcB m0 [x0, x2, x5] d))))) := by kernel_rfl
theorem ZE3 : Zvp m0 x0 x2 x5 B =
 mk (callS false EE 150 [(shr x0), (shr x2), (shr x5)] B fun a b =>
 ZqA (shr a) nilA (bv false) b) := by kernel_rfl
theorem ZMH : EE 153 [x0] B =
 (let m0 := B.length
 mk (mk (ob (Z2m (shr x0)) fun a =>
 ob (xfld 1 a) fun b =>
 ob (ldN false 1 b B) fun c =>
 mk (callS false EE 127 [(shr x0)] B fun d e =>
 mk (ob (xbin PP .neq 3 (shr (shr d)) (iv 92)) fun f =>
 asB f fun g => br g (mk (ZqA (shr (shr (shr d))) nilA (bv false) e))
 (ZyA m0 x0 (shr c) (gcB m0 [x0, (shr c)] e))))))) := (E_eq PP XX HH _ _ _).trans (by kernel_rfl)
noncomputable def ZI0 := Z3b Tryz.f154
def ZyI := l2 (l2 ZI0)
def Zu7 := l1 (l1 (l2 (l1 (l2 ZI0))))
def ZEA := l2 (l2 Zu7)
def ZyD (m0 : Nat) : Kont := kret PP HH 154 Tryz.f154.results
def ZMJ := kseq HH 154 m0 ZyI (exec PP HH 154 m0 EE LL ZyI (ZyD m0)) (ZyD m0)
def ZyE := kblk 0 (ZMJ m0)
def ZEz := kloop HH 154 m0 Zu7 (LL 154 m0 Zu7 (ZyE m0)) (ZyE m0)
def Zpa := lp (LL 154 m0 Zu7 (ZyE m0) [(0, x0), (1, x1), (7, x7), (8, x8)] B)
def ZyF := exec PP HH 154 m0 EE LL ZEA (ZEz m0) [(0, x0), (1, x1), (7, x7), (8, x8)] B
def ZyH := exec PP HH 154 m0 EE LL ZyI (ZyD m0) [] B
def ZyG := exec PP HH 154 m0 EE LL (l2 ZEA) (ZEz m0) [(0, x0), (1, x1), (7, x7), (8, x8)] B
theorem ZFQ : Zpa m0 x0 x1 x7 x8 B =
 mk (ob (xbin PP .lss 3 x8 x7) fun a =>
 asB a fun b => br b (ZyF m0 x0 x1 x7 x8 (gcB m0 [x0, x1, x7, x8] B))
 (ZyH m0 (gcB m0 [] B))) := lq_ (by kernel_rfl)
theorem ZFR : ZyF m0 x0 x1 x7 x8 B =
 mk (mk (ob (xidx 1 (shr x0) (shr (shr (shr x8)))) fun a =>
 ob (ldN false 1 a B) fun b =>
 callV HH EE (shr x1) [b] B fun c d =>
 asB c fun e => br e (mk (Z1x (shr (shr (shr (shr x8)))) d))
 (ZyG m0 x0 x1 x7 x8 (gcB m0 [x0, x1, x7, x8] d)))) := by kernel_rfl
theorem ZFT : ZyH m0 B =
 mk (Z1x (iv (-1)) B) := by kernel_rfl
theorem ZFS : ZyG m0 x0 x1 x7 x8 B =
 mk (ob (xbin PP .add 3 x8 (iv 1)) fun a =>
 Zpa m0 x0 x1 x7 (shr a) (gcB m0 [x0, x1, x7, (shr a)] B)) := by kernel_rfl
theorem ZMI : EE 154 [x0, x1] B =
 (let m0 := B.length
 mk (mk (ob (xlen PP 226 (shr x0)) fun a =>
 Zpa m0 x0 x1 a (iv 0) (gcB m0 [x0, x1, a, (iv 0)] B)))) := (E_eq PP XX HH _ _ _).trans (by kernel_rfl)
theorem ZMK : EE 155 [] B =
 (let m0 := B.length
 mk (mk (ob (xlit PP 226 4 [(0, (.p (.v (.string (ByteArray.mk #[63, 61]))))), (1, (.p (.v (.string (ByteArray.mk #[63, 33]))))), (2, (.p (.v (.string (ByteArray.mk #[63, 60, 61]))))), (3, (.p (.v (.string (ByteArray.mk #[63, 60, 33])))))]) fun a =>
 Z1x (shr a) B))) := (E_eq PP XX HH _ _ _).trans (by kernel_rfl)
noncomputable def ZI1 := Z3b Tryz.f156
def ZyM := l2 (l2 (l2 ZI1))
def Zu8 := l1 (l1 (l2 (l1 (l2 (l2 ZI1)))))
def ZyJ (m0 : Nat) : Kont := kret PP HH 156 Tryz.f156.results
def ZMM := kseq HH 156 m0 ZyM (exec PP HH 156 m0 EE LL ZyM (ZyJ m0)) (ZyJ m0)
def ZyK := kblk 0 (ZMM m0)
def ZMN := kloop HH 156 m0 Zu8 (LL 156 m0 Zu8 (ZyK m0)) (ZyK m0)
def Zpb := lp (LL 156 m0 Zu8 (ZyK m0) [(0, x0), (3, x3), (4, x4)] B)
def ZyL := exec PP HH 156 m0 EE LL (l2 Zu8) (ZMN m0) [(0, x0), (3, x3), (4, x4)] B
def Zpc := exec PP HH 156 m0 EE LL ZyM (ZyJ m0) [(3, x3)] B
theorem ZFU : Zpb m0 x0 x3 x4 B =
 mk (ob (xbin PP .lss 3 (shr x4) (iv 2)) fun a =>
 asB (shr a) fun b => br b (callS false EE 104 [(shr x0)] B fun c d =>
 ob (xbin PP .geq 3 c (iv 48)) fun e =>
 asB (shr (shr e)) fun f => br f (callS false EE 104 [(shr x0)] d fun g h =>
 ob (xbin PP .leq 3 g (iv 57)) fun i =>
 asB (shr i) fun j => br j (ZyL m0 x0 x3 x4 (gcB m0 [x0, x3, x4] h))
 (Zpc m0 x3 (gcB m0 [x3] h)))
 (Zpc m0 x3 (gcB m0 [x3] d)))
 (Zpc m0 x3 (gcB m0 [x3] B))) := lq_ (by kernel_rfl)
theorem ZFV : ZyL m0 x0 x3 x4 B =
 mk (ob (Z9x PP true [(shr x3), (iv 0)]) fun a =>
 ob (xbin PP .mul 3 (iv 10) a) fun b =>
 callS false EE 127 [(shr x0)] B fun c d =>
 ob (xbin PP .add 3 b c) fun e =>
 ob (xbin PP .sub 3 e (iv 48)) fun f =>
 mk (ob (xbin PP .add 3 (shr x4) (iv 1)) fun g =>
 Zpb m0 x0 (shr f) (shr g) (gcB m0 [x0, (shr f), (shr g)] d))) := by kernel_rfl
theorem ZFW : Zpc m0 x3 B =
 mk (Z1x (shr (shr x3)) B) := by kernel_rfl
theorem ZML : EE 156 [x0] B =
 (let m0 := B.length
 mk (mk (mk (Zpb m0 x0 (iv (-1)) (iv 0) (gcB m0 [x0, (iv (-1)), (iv 0)] B))))) := (E_eq PP XX HH _ _ _).trans (by kernel_rfl)
theorem ZMO : EE 166 [x0, x1] B =
 (let m0 := B.length
 mk (mk (callS false EE 179 [(shr x0), (shr x1)] B fun a b =>
 ob (xbin PP .geq 3 a (iv 0)) fun c =>
 Z1x (shr c) b))) := (E_eq PP XX HH _ _ _).trans (by kernel_rfl)
theorem ZMP : EE 167 [x0] B =
 (let m0 := B.length
 mk (bx x0 B fun a b =>
 mk (ob (ldN true 2 a b) fun c =>
 callS false EE 168 [c] b fun d e =>
 ob (xun PP .not d) fun f =>
 Z1x (shr f) e))) := (E_eq PP XX HH _ _ _).trans (by kernel_rfl)
theorem ZMQ : EE 168 [x0] B =
 (let m0 := B.length
 mk (bx x0 B fun a b =>
 mk (ob (xfld 0 a) fun c =>
 ob (ldN false 1 c b) fun d =>
 ob (xbin PP .geq 3 d (iv 0)) fun e =>
 asB (shr e) fun f => br f (ob (xfld 0 a) fun g =>
 ob (ldN false 1 g b) fun h =>
 ob (xfld 1 a) fun i =>
 ob (ldN false 1 i b) fun j =>
 ob (xbin PP .leq 3 h j) fun k =>
 asB (shr (shr k)) fun l => br l (ob (xfld 1 a) fun n =>
 ob (ldN false 1 n b) fun o =>
 ob (xbin PP .leq 3 o (iv 1114367)) fun p =>
 Z1x (shr (shr p)) b)
 (Z1x (bv false) b))
 (Z1x (bv false) b)))) := (E_eq PP XX HH _ _ _).trans (by kernel_rfl)
noncomputable def ZI7 := Z3b Tryz.f170
def ZyX := l2 (l2 (l2 ZI7))
def Zub := l1 (l1 (l2 (l1 (l2 (l2 ZI7)))))
def ZmB := l2 (l2 Zub)
def ZyW := l2 (l2 (l1 (l1 ZmB)))
def ZyP (m0 : Nat) : Kont := kret PP HH 170 Tryz.f170.results
def ZMS := kseq HH 170 m0 ZyX (exec PP HH 170 m0 EE LL ZyX (ZyP m0)) (ZyP m0)
def ZyQ := kblk 0 (ZMS m0)
def Zu9 := kloop HH 170 m0 Zub (LL 170 m0 Zub (ZyQ m0)) (ZyQ m0)
def ZMT := kseq HH 170 m0 (l2 ZmB) (exec PP HH 170 m0 EE LL (l2 ZmB) (Zu9 m0)) (Zu9 m0)
def ZyR := kblk 1 (ZMT m0)
def ZMU := kseq HH 170 m0 ZyW (exec PP HH 170 m0 EE LL ZyW (ZyR m0)) (ZyR m0)
def Zpe := lp (LL 170 m0 Zub (ZyQ m0) [(3, x3), (6, x6), (7, x7), (8, x8)] B)
def ZyS := exec PP HH 170 m0 EE LL ZmB (Zu9 m0) [(3, x3), (6, x6), (7, x7), (8, x8)] B
def ZyV := exec PP HH 170 m0 EE LL ZyX (ZyP m0) [] B
def Zua := exec PP HH 170 m0 EE LL (l1 (l2 (l1 (l2 (l1 (l1 ZmB)))))) (ZMU m0) [] B
def ZyT := exec PP HH 170 m0 EE LL ZyW (ZyR m0) [(5, x5), (6, x6), (7, x7), (8, x8)] B
def ZyU := exec PP HH 170 m0 EE LL (l2 ZmB) (Zu9 m0) [(3, x3), (6, x6), (7, x7), (8, x8)] B
theorem ZFZ : Zpe m0 x3 x6 x7 x8 B =
 mk (ob (xbin PP .lss 3 x8 x7) fun a =>
 asB a fun b => br b (ZyS m0 x3 x6 x7 x8 (gcB m0 [x3, x6, x7, x8] B))
 (ZyV m0 (gcB m0 [] B))) := lq_ (by kernel_rfl)
theorem ZG0 : ZyS m0 x3 x6 x7 x8 B =
 mk (ob (xidx 2 x6 x8) fun a =>
 ob (ldN true 2 a B) fun b =>
 bz PP 201 B fun c d =>
 stN 2 c b d fun e =>
 mk (ob (ldN true 2 c e) fun f =>
 callS false EE 168 [f] e fun g h =>
 ob (xun PP .not g) fun i =>
 asB (shr i) fun j => br j (Zua m0 (gcB m0 [] h))
 (ob (xfld 0 c) fun k =>
 ob (ldN false 1 k h) fun l =>
 ob (xbin PP .add 3 (shr x3) (iv 2)) fun n =>
 ob (xbin PP .lss 3 l n) fun o =>
 asB (shr o) fun p => br p (Zua m0 (gcB m0 [] h))
 (ZyT m0 c x6 x7 x8 (gcB m0 [c, x6, x7, x8] h))))) := by kernel_rfl
theorem ZG4 : ZyV m0 B =
 mk (Z1x (bv true) B) := by kernel_rfl
theorem ZG1 : Zua m0 B =
 mk (Z1x (bv false) B) := by kernel_rfl
theorem ZG2 : ZyT m0 x5 x6 x7 x8 B =
 mk (ob (xfld 1 x5) fun a =>
 ob (ldN false 1 a B) fun b =>
 ZyU m0 (shr b) x6 x7 x8 (gcB m0 [(shr b), x6, x7, x8] B)) := by kernel_rfl
theorem ZG3 : ZyU m0 x3 x6 x7 x8 B =
 mk (ob (xbin PP .add 3 x8 (iv 1)) fun a =>
 Zpe m0 x3 x6 x7 (shr a) (gcB m0 [x3, x6, x7, (shr a)] B)) := by kernel_rfl
theorem ZMR : EE 170 [x0] B =
 (let m0 := B.length
 mk (mk (mk (ob (xlen PP 95 (shr x0)) fun a =>
 Zpe m0 (iv (-2)) (shr x0) a (iv 0) (gcB m0 [(iv (-2)), (shr x0), a, (iv 0)] B))))) := (E_eq PP XX HH _ _ _).trans (by kernel_rfl)
noncomputable def ZI8 := Z3b Tryz.f171
def Zug := l2 (l2 (l2 (l2 ZI8)))
def Zuf := l1 (l1 (l2 (l1 (l2 (l2 (l2 ZI8))))))
def Zpg := l2 (l2 Zuf)
def Zuc (m0 : Nat) : Kont := kret PP HH 171 Tryz.f171.results
def ZMW := kseq HH 171 m0 Zug (exec PP HH 171 m0 EE LL Zug (Zuc m0)) (Zuc m0)
def ZyY := kblk 0 (ZMW m0)
def Zud := kloop HH 171 m0 Zuf (LL 171 m0 Zuf (ZyY m0)) (ZyY m0)
def ZMX := kseq HH 171 m0 (l2 Zpg) (exec PP HH 171 m0 EE LL (l2 Zpg) (Zud m0)) (Zud m0)
def ZMY := kblk 1 (ZMX m0)
def Zpf := lp (LL 171 m0 Zuf (ZyY m0) [(3, x3), (4, x4), (7, x7), (8, x8), (9, x9)] B)
def ZyZ := exec PP HH 171 m0 EE LL Zpg (Zud m0) [(3, x3), (4, x4), (7, x7), (8, x8), (9, x9)] B
def Zvq := exec PP HH 171 m0 EE LL Zug (Zuc m0) [(3, x3), (4, x4)] B
def Zue := exec PP HH 171 m0 EE LL (l2 (l2 (l1 (l1 Zpg)))) (ZMY m0) [(3, x3), (6, x6), (7, x7), (8, x8), (9, x9)] B
def ZqB := exec PP HH 171 m0 EE LL (l2 Zug) (Zuc m0) [(3, x3)] B
def Zz0 := exec PP HH 171 m0 EE LL (l2 Zpg) (Zud m0) [(3, x3), (4, x4), (7, x7), (8, x8), (9, x9)] B
theorem ZG5 : Zpf m0 x3 x4 x7 x8 x9 B =
 mk (ob (xbin PP .lss 3 x9 x8) fun a =>
 asB a fun b => br b (ZyZ m0 x3 x4 x7 x8 x9 (gcB m0 [x3, x4, x7, x8, x9] B))
 (Zvq m0 x3 x4 (gcB m0 [x3, x4] B))) := lq_ (by kernel_rfl)
theorem ZG6 : ZyZ m0 x3 x4 x7 x8 x9 B =
 mk (ob (xidx 2 x7 x9) fun a =>
 ob (ldN true 2 a B) fun b =>
 bz PP 201 B fun c d =>
 stN 2 c b d fun e =>
 mk (ob (xfld 0 c) fun f =>
 ob (ldN false 1 f e) fun g =>
 ob (xbin PP .lss 3 (shr x4) g) fun h =>
 asB h fun i => br i (mk (ob (xfld 0 c) fun j =>
 ob (ldN false 1 j e) fun k =>
 ob (xbin PP .sub 3 k (iv 1)) fun l =>
 ob (Z21 PP 201 [(0, (shr x4)), (1, l)]) fun n =>
 ob (xlit PP 95 1 [(0, n)]) fun o =>
 ob (xapp 2 x3 o) fun p =>
 Zue m0 p c x7 x8 x9 (gcB m0 [p, c, x7, x8, x9] e)))
 (Zue m0 x3 c x7 x8 x9 (gcB m0 [x3, c, x7, x8, x9] e)))) := by kernel_rfl
theorem ZE4 : Zvq m0 x3 x4 B =
 mk (ob (xbin PP .leq 3 (shr x4) (iv 1114367)) fun a =>
 asB a fun b => br b (mk (ob (Z21 PP 201 [(0, (shr x4)), (1, (iv 1114367))]) fun c =>
 ob (xlit PP 95 1 [(0, c)]) fun d =>
 ob (xapp 2 x3 d) fun e =>
 ZqB m0 e (gcB m0 [e] B)))
 (ZqB m0 x3 (gcB m0 [x3] B))) := by kernel_rfl
theorem ZG7 : Zue m0 x3 x6 x7 x8 x9 B =
 mk (ob (xfld 1 x6) fun a =>
 ob (ldN false 1 a B) fun b =>
 ob (xbin PP .add 3 b (iv 1)) fun c =>
 Zz0 m0 x3 (shr c) x7 x8 x9 (gcB m0 [x3, (shr c), x7, x8, x9] B)) := by kernel_rfl
theorem ZE5 : ZqB m0 x3 B =
 mk (Z1x (shr (shr x3)) B) := by kernel_rfl
theorem ZG8 : Zz0 m0 x3 x4 x7 x8 x9 B =
 mk (ob (xbin PP .add 3 x9 (iv 1)) fun a =>
 Zpf m0 x3 x4 x7 x8 (shr a) (gcB m0 [x3, x4, x7, x8, (shr a)] B)) := by kernel_rfl
theorem ZMV : EE 171 [x0] B =
 (let m0 := B.length
 mk (mk (mk (mk (ob (xlen PP 95 (shr x0)) fun a =>
 Zpf m0 nilA (iv 0) (shr x0) a (iv 0) (gcB m0 [nilA, (iv 0), (shr x0), a, (iv 0)] B)))))) := (E_eq PP XX HH _ _ _).trans (by kernel_rfl)
noncomputable def ZB0 := Z3b Tryz.f172
def Zz5 := l2 (l2 ZB0)
def ZEB := l2 (l2 (l1 (l1 (l2 ZB0))))
def Zz1 (m0 : Nat) : Kont := kret PP HH 172 Tryz.f172.results
def ZN0 := kseq HH 172 m0 Zz5 (exec PP HH 172 m0 EE LL Zz5 (Zz1 m0)) (Zz1 m0)
def Zz2 := kblk 0 (ZN0 m0)
def Zz3 := exec PP HH 172 m0 EE LL (l1 (l2 (l1 (l1 (l2 ZB0))))) (Zz2 m0) [(0, x0)] B
def Zuh := exec PP HH 172 m0 EE LL ZEB (Zz2 m0) [(0, x0)] B
def Zz4 := exec PP HH 172 m0 EE LL (l1 (l2 ZEB)) (Zz2 m0) [(0, x0)] B
def Zui := exec PP HH 172 m0 EE LL Zz5 (Zz1 m0) [] B
theorem ZG9 : Zz3 m0 x0 B =
 mk (ob (xbin PP .sub 3 (shr x0) (iv 48)) fun a =>
 Z1x (shr a) B) := by kernel_rfl
theorem ZGa : Zuh m0 x0 B =
 mk (ob (xbin PP .geq 3 (shr x0) (iv 97)) fun a =>
 asB (shr a) fun b => br b (ob (xbin PP .leq 3 (shr x0) (iv 102)) fun c =>
 asB (shr (shr c)) fun d => br d (Zz4 m0 x0 (gcB m0 [x0] B))
 (Zui m0 (gcB m0 [] B)))
 (Zui m0 (gcB m0 [] B))) := by kernel_rfl
theorem ZGb : Zz4 m0 x0 B =
 mk (ob (xbin PP .sub 3 (shr x0) (iv 97)) fun a =>
 ob (xbin PP .add 3 a (iv 10)) fun b =>
 Z1x (shr b) B) := by kernel_rfl
theorem ZGc : Zui m0 B =
 mk (Z1x (iv (-1)) B) := by kernel_rfl
theorem ZMZ : EE 172 [x0] B =
 (let m0 := B.length
 mk (mk (ob (xbin PP .geq 3 (shr x0) (iv 48)) fun a =>
 asB (shr a) fun b => br b (ob (xbin PP .leq 3 (shr x0) (iv 57)) fun c =>
 asB (shr (shr c)) fun d => br d (Zz3 m0 x0 (gcB m0 [x0] B))
 (Zuh m0 x0 (gcB m0 [x0] B)))
 (Zuh m0 x0 (gcB m0 [x0] B))))) := (E_eq PP XX HH _ _ _).trans (by kernel_rfl)
theorem ZN1 : EE 173 [x0, x1] B =
 (let m0 := B.length
 mk (bx x1 B fun a b =>
 mk (callS false EE 184 [(shr x0), (.clo 185 ([].map nrmA) ([a].map nrmA))] b fun c d =>
 Z1x (shr c) d))) := (E_eq PP XX HH _ _ _).trans (by kernel_rfl)
noncomputable def ZI9 := Z3b Tryz.f179
def Zzb := l2 (l2 ZI9)
def Zuj := l1 (l1 (l2 (l1 (l2 ZI9))))
def ZED := l2 (l2 Zuj)
def Zz6 (m0 : Nat) : Kont := kret PP HH 179 Tryz.f179.results
def ZN3 := kseq HH 179 m0 Zzb (exec PP HH 179 m0 EE LL Zzb (Zz6 m0)) (Zz6 m0)
def Zz7 := kblk 0 (ZN3 m0)
def ZEC := kloop HH 179 m0 Zuj (LL 179 m0 Zuj (Zz7 m0)) (Zz7 m0)
def Zph := lp (LL 179 m0 Zuj (Zz7 m0) [(0, x0), (1, x1), (7, x7), (8, x8)] B)
def Zz8 := exec PP HH 179 m0 EE LL ZED (ZEC m0) [(0, x0), (1, x1), (7, x7), (8, x8)] B
def Zza := exec PP HH 179 m0 EE LL Zzb (Zz6 m0) [] B
def Zz9 := exec PP HH 179 m0 EE LL (l2 ZED) (ZEC m0) [(0, x0), (1, x1), (7, x7), (8, x8)] B
theorem ZGd : Zph m0 x0 x1 x7 x8 B =
 mk (ob (xbin PP .lss 3 x8 x7) fun a =>
 asB a fun b => br b (Zz8 m0 x0 x1 x7 x8 (gcB m0 [x0, x1, x7, x8] B))
 (Zza m0 (gcB m0 [] B))) := lq_ (by kernel_rfl)
theorem ZGe : Zz8 m0 x0 x1 x7 x8 B =
 mk (mk (ob (xidx 2 (shr x0) (shr (shr (shr x8)))) fun a =>
 ob (ldN true 2 a B) fun b =>
 callV HH EE (shr x1) [b] B fun c d =>
 asB c fun e => br e (mk (Z1x (shr (shr (shr (shr x8)))) d))
 (Zz9 m0 x0 x1 x7 x8 (gcB m0 [x0, x1, x7, x8] d)))) := by kernel_rfl
theorem ZGg : Zza m0 B =
 mk (Z1x (iv (-1)) B) := by kernel_rfl
theorem ZGf : Zz9 m0 x0 x1 x7 x8 B =
 mk (ob (xbin PP .add 3 x8 (iv 1)) fun a =>
 Zph m0 x0 x1 x7 (shr a) (gcB m0 [x0, x1, x7, (shr a)] B)) := by kernel_rfl
theorem ZN2 : EE 179 [x0, x1] B =
 (let m0 := B.length
 mk (mk (ob (xlen PP 94 (shr x0)) fun a =>
 Zph m0 x0 x1 a (iv 0) (gcB m0 [x0, x1, a, (iv 0)] B)))) := (E_eq PP XX HH _ _ _).trans (by kernel_rfl)
theorem ZN4 : EE 184 [x0, x1] B =
 (let m0 := B.length
 mk (mk (callS false EE 191 [(shr x0), (shr x1)] B fun a b =>
 ob (xbin PP .geq 3 a (iv 0)) fun c =>
 Z1x (shr c) b))) := (E_eq PP XX HH _ _ _).trans (by kernel_rfl)
theorem ZN5 : EE 185 [x0, x1] B =
 (let m0 := B.length
 mk (bx x0 B fun a b =>
 mk (ob (xfld 0 a) fun c =>
 ob (ldN false 1 c b) fun d =>
 ob (ldN false 1 x1 b) fun e =>
 ob (xbin PP .leq 3 d e) fun f =>
 asB (shr f) fun g => br g (ob (ldN false 1 x1 b) fun h =>
 ob (xfld 1 a) fun i =>
 ob (ldN false 1 i b) fun j =>
 ob (xbin PP .leq 3 h j) fun k =>
 Z1x (shr (shr k)) b)
 (Z1x (bv false) b)))) := (E_eq PP XX HH _ _ _).trans (by kernel_rfl)
noncomputable def ZIa := Z3b Tryz.f191
def Zzh := l2 (l2 ZIa)
def Zuk := l1 (l1 (l2 (l1 (l2 ZIa))))
def ZEF := l2 (l2 Zuk)
def Zzc (m0 : Nat) : Kont := kret PP HH 191 Tryz.f191.results
def ZN7 := kseq HH 191 m0 Zzh (exec PP HH 191 m0 EE LL Zzh (Zzc m0)) (Zzc m0)
def Zzd := kblk 0 (ZN7 m0)
def ZEE := kloop HH 191 m0 Zuk (LL 191 m0 Zuk (Zzd m0)) (Zzd m0)
def Zpi := lp (LL 191 m0 Zuk (Zzd m0) [(0, x0), (1, x1), (7, x7), (8, x8)] B)
def Zze := exec PP HH 191 m0 EE LL ZEF (ZEE m0) [(0, x0), (1, x1), (7, x7), (8, x8)] B
def Zzg := exec PP HH 191 m0 EE LL Zzh (Zzc m0) [] B
def Zzf := exec PP HH 191 m0 EE LL (l2 ZEF) (ZEE m0) [(0, x0), (1, x1), (7, x7), (8, x8)] B
theorem ZGh : Zpi m0 x0 x1 x7 x8 B =
 mk (ob (xbin PP .lss 3 x8 x7) fun a =>
 asB a fun b => br b (Zze m0 x0 x1 x7 x8 (gcB m0 [x0, x1, x7, x8] B))
 (Zzg m0 (gcB m0 [] B))) := lq_ (by kernel_rfl)
theorem ZGi : Zze m0 x0 x1 x7 x8 B =
 mk (mk (ob (xidx 2 (shr x0) (shr (shr (shr x8)))) fun a =>
 ob (ldN true 2 a B) fun b =>
 callV HH EE (shr x1) [b] B fun c d =>
 asB c fun e => br e (mk (Z1x (shr (shr (shr (shr x8)))) d))
 (Zzf m0 x0 x1 x7 x8 (gcB m0 [x0, x1, x7, x8] d)))) := by kernel_rfl
theorem ZGk : Zzg m0 B =
 mk (Z1x (iv (-1)) B) := by kernel_rfl
theorem ZGj : Zzf m0 x0 x1 x7 x8 B =
 mk (ob (xbin PP .add 3 x8 (iv 1)) fun a =>
 Zpi m0 x0 x1 x7 (shr a) (gcB m0 [x0, x1, x7, (shr a)] B)) := by kernel_rfl
theorem ZN6 : EE 191 [x0, x1] B =
 (let m0 := B.length
 mk (mk (ob (xlen PP 95 (shr x0)) fun a =>
 Zpi m0 x0 x1 a (iv 0) (gcB m0 [x0, x1, a, (iv 0)] B)))) := (E_eq PP XX HH _ _ _).trans (by kernel_rfl)
end Go.Proofs.YteoeggbihfnbfaaGreatDoor.N2
end
