/- The functions' equations, by the evaluator. No condition. -/
import Derived.Test.YtocikhhkicahoaaDoorEvA
import Derived.Test.YtocikhhkicahoaaDoorProg
import Derived.KernelRfl
import Derived.Test.YtocikhhkicahoaaDoorEvD

set_option linter.unusedSimpArgs false
set_option linter.unusedVariables false
set_option linter.defProp false
section
namespace Go.Proofs.YtocikhhkicahoaaDoor.N2
open Go Go.Abs
def ZIx:FuncId → Nat → Option (List Nat):=fun f r => (([(6,[(4,[]),(9,[]),(12,[]),(14,[5,11,14,117,118,119]),(18,[]),(23,[]),(19,[5,11,14,16,17,117,118,119]),(32,[5,11,14,117,118,119]),(15,[5,11,14,117,118,119]),(33,[]),(13,[5,8,11,14]),(10,[5,8,11]),(5,[0,1]),(3,[0,1])]),
 (8,[(4,[]),(5,[1,4])]),
 (9,[(4,[5])]),
 (10,[(7,[2,3,4,5]),(9,[2,3,4,5,50,51,52]),(13,[2,3,4,5,50,51,52]),(10,[2,3,4,5,50,51,52]),(16,[2,3,4,5]),(14,[2,3,4,5]),(8,[2,3,4,5]),(3,[0,2,3])]),
 (11,[(3,[1,3,8,9,10]),(4,[1,3,8,9,10]),(24,[1,3]),(26,[3]),(7,[1,3])]),
 (12,[(3,[3,6,7,8]),(6,[]),(7,[5,6,7,8]),(8,[3,6,7,8]),(4,[3,6,7,8]),(9,[])]),
 (13,[(3,[3,6,7,8]),(7,[3,6,7,8]),(4,[3,6,7,8]),(8,[3])]),
 (14,[(5,[0,4,5]),(8,[0,4,5]),(6,[0,4,5]),(7,[0,4,5]),(9,[4]),(3,[0])]),
 (17,[(3,[0])]),
 (18,[(4,[1])]),
 (19,[(2,[]),(3,[0,1])]),
 (20,[(2,[0,2,3]),(3,[0,2,3]),(4,[2,3])]),
 (21,[(2,[0])]),
 (26,[(4,[3,4,7,8,9]),(8,[3,6,7,8,9]),(9,[3,4,7,8,9]),(5,[3,4,7,8,9]),(12,[3]),(10,[3,4])]),
 (27,[(5,[])]),
 (29,[(6,[2,4]),(10,[2,36,37,38]),(11,[2,36,37,38]),(28,[2,7]),(33,[2,3,8])]),
 (30,[(2,[0,2,3]),(7,[0,2,3]),(3,[0,2,3]),(9,[2,3])]),
 (31,[(6,[0,1,4])]),
 (38,[(4,[]),(2,[1]),(5,[1])]),
 (39,[(2,[]),(3,[0,1])]),
 (40,[(3,[0,1,4,5,16,17,18]),(4,[0,1,4,5,16,17,18]),(12,[0,51,52,53]),(13,[0,51,52,53]),(10,[0,1,4,5])]),
 (43,[(3,[0,3,4,13,14]),(7,[0,3,4,13,14]),(4,[0,3,4,13,14]),(12,[0,3,4,6,49,50]),(13,[0,3,4,6,49,50]),(17,[0,4,65,66,67]),(18,[0,4,65,66,67]),(16,[0,4,6]),(10,[0,3,4]),(8,[0,3,4])]),
 (44,[(8,[2,3,23,24,25]),(9,[2,3,23,24,25]),(16,[2,3,45,46,47]),(21,[2,45,46,47]),(22,[2,3,11,45,46,47]),(23,[2,3,45,46,47]),(17,[2,3,45,46,47]),(30,[2,3])]),
 (47,[(3,[0])]),
 (48,[(26,[2])]),
 (49,[(17,[6,8]),(13,[0,6,8]),(11,[0,2,6,7,8])]),
 (50,[(2,[0,1,7,8]),(6,[0,1,7,8]),(3,[0,1,7,8]),(7,[])]),
 (58,[(2,[0,1,2,3])]),
 (60,[(2,[]),(3,[0,1])]),
 (61,[(4,[]),(2,[]),(3,[0,1]),(5,[0,1])]),
 (62,[(2,[]),(5,[0,1]),(6,[6,7]),(3,[0,1])]),
 (64,[(4,[4,5])]),
 (66,[(13,[0,1,4,5]),(15,[0,1,4,5]),(5,[0,1,4,5])]),
 (67,[(5,[0,1,4,5,6,7,8]),(18,[4,6]),(15,[0,4,5,6]),(32,[0,1,4,5,6,7,8,9]),(35,[0,1,4,5,6,7,8,9,11,15]),(33,[0,1,4,5,6,7,8,9,11]),(36,[0,1,4,5,6,7,8,11,15]),(28,[0,1,4,5,6,7,8,9,11]),(22,[0,1,4,5,6,7,8,9]),(6,[0,1,4,5,6,7,8]),(7,[0,1,4,5,6,7,8]),(38,[4])]),
 (68,[(19,[0,1,4,7]),(23,[4,7]),(20,[0,4,7]),(17,[0,1,4]),(4,[0,1,4])]),
 (69,[(7,[4]),(8,[0,1,4]),(6,[0,1,4]),(10,[0,1,4,5]),(11,[4,5]),(9,[0,1,4,5])]),
 (73,[(2,[0,1,7,8]),(6,[0,1,7,8]),(3,[0,1,7,8]),(7,[])]),
 (75,[(3,[0])]),
 (77,[(3,[0])]),
 (78,[(11,[])]),
 (79,[(16,[1]),(17,[0,2])]),
 (81,[(13,[0,2,5]),(9,[0,2,5]),(5,[0,5])]),
 (82,[(2,[0,1,7,8]),(6,[0,1,7,8]),(3,[0,1,7,8]),(7,[])]),
 (84,[(3,[0,3,4]),(5,[0,3,4]),(6,[3])]),
 (98,[(4,[0]),(2,[0]),(3,[0]),(5,[])]),
 (104,[(2,[0,1,7,8]),(6,[0,1,7,8]),(3,[0,1,7,8]),(7,[])])]:List (Nat × List (Nat × List Nat))).lookup f).bind (·.lookup r)
def ownT:FuncId → List Nat:=fun f =>
 if f = 14 then [4,9,26] else
 if f = 20 then [3,9] else
 if f = 26 then [3,17,31] else
 if f = 28 then [9,12] else
 if f = 30 then [3,23] else
 if f = 40 then [4,28] else
 if f = 43 then [6,52] else
 if f = 66 then [44] else
 if f = 78 then [2] else
 if f = 81 then [3,6,29] else
 []
def rawT:FuncId → Bool:=fun f => if f = 23 then true else if f = 78 then true else if f = 81 then true else false
def ZIC:FuncId → List Nat:=fun f => []
def alT:FuncId → List Nat:=fun f => if f = 40 then [60] else if f = 41 then [18] else if f = 58 then [16,21] else []
def fzT:FuncId → List Nat:=fun f => if f = 18 then [31] else []
def mzT:FuncId → List (Nat × List (Nat × Nat)):=fun f => if f = 18 then [(14,[(0,6)])] else []
def HH:Hints:=⟨ZIx,ownT,rawT,ZIC,alT,fzT,mzT⟩
def XX:FuncId → Option (List AV → List Row → Option Res):=fun f => if f = 23 then some Zlf else if f = 25 then some Zlh else if f = 57 then some Zlg else if f = 76 then some Zod else none
noncomputable abbrev PP:Program:=Tryd.prog
noncomputable abbrev EE:GF:=E PP XX HH
noncomputable abbrev LL:LF:=L PP XX HH
end Go.Proofs.YtocikhhkicahoaaDoor.N2
end
noncomputable section
namespace Go.Proofs.YtocikhhkicahoaaDoor.N2
open Go Go.Abs
set_option maxRecDepth 100000
variable (m0:Nat) (x0 x1 x2 x3 x4 x5 x6 x7 x8 x9 x10 x11 x13 x14 x15 x16 x17 x18 x23 x24 x25 x36 x37 x38 x45 x46 x47 x49 x50 x51 x52 x53 x65 x66 x67 x117 x118 x119:AV) (B:List Row)
theorem lq_ {f m0:Nat} {c:Code} {K:Kont} {sl:Sl} {B:List Row} {r:Option Res} (h:exec PP HH f m0 EE LL c (kloop HH f m0 c (LL f m0 c K) K) sl B = r):LL f m0 c K sl B = r:=(L_eq PP XX HH f m0 c K sl B).trans h
def ZIN:=Z2K Tryd.f6
def Zlp:=l2 (l2 ZIN)
def Zqy:=l2 (l2 (l2 (l2 (l2 Zlp))))
def Zlq:=l2 (l2 Zqy)
def Zt2:=l1 (l1 (l2 (l1 Zlq)))
def Zo2:=l2 (l2 Zt2)
def Zt3:=l2 (l2 (l2 (l1 (l1 Zo2))))
def Z1B (r0:AV) (B:List Row):Option Res :=
 ob (ob (some r0) fun v => ob (some []) fun vs => some (v :: vs)) fun vs => some ((nrmA (match vs with | [v] => v | vs => Z98 (vs.map shr))),B)
def Zd2 (m0:Nat):Kont:=kret PP HH 6 Tryd.f6.results
def ZIi:=kseq HH 6 m0 (l2 Zlp) (exec PP HH 6 m0 EE LL (l2 Zlp) (Zd2 m0)) (Zd2 m0)
def ZIj:=kseq HH 6 m0 Zqy (exec PP HH 6 m0 EE LL Zqy (Zd2 m0)) (Zd2 m0)
def ZIk:=kseq HH 6 m0 Zlq (exec PP HH 6 m0 EE LL Zlq (Zd2 m0)) (Zd2 m0)
def ZIl:=kseq HH 6 m0 (l2 Zlq) (exec PP HH 6 m0 EE LL (l2 Zlq) (Zd2 m0)) (Zd2 m0)
def ZyI:=kblk 0 (ZIl m0)
def ZsZ:=kloop HH 6 m0 Zt2 (LL 6 m0 Zt2 (ZyI m0)) (ZyI m0)
def ZIm:=kseq HH 6 m0 (l2 Zo2) (exec PP HH 6 m0 EE LL (l2 Zo2) (ZsZ m0)) (ZsZ m0)
def Zt0:=kblk 1 (ZIm m0)
def ZIn:=kseq HH 6 m0 Zt3 (exec PP HH 6 m0 EE LL Zt3 (Zt0 m0)) (Zt0 m0)
def ZHd:=kblk 2 (Zt0 m0)
def ZyJ:=exec PP HH 6 m0 EE LL Zlp (Zd2 m0) [(0,x0),(1,x1)] B
def Zt1:=exec PP HH 6 m0 EE LL (l1 (l2 (l1 Zlp))) (ZIi m0) [] B
def ZyK:=exec PP HH 6 m0 EE LL (l2 Zlp) (Zd2 m0) [(0,x0),(1,x1)] B
def Zf5:=exec PP HH 6 m0 EE LL (l1 (l2 (l1 (l2 (l2 (l2 (l2 Zlp))))))) (ZIj m0) [] B
def ZkG:=exec PP HH 6 m0 EE LL Zqy (Zd2 m0) [(5,x5),(8,x8),(11,x11)] B
def Zqx:=exec PP HH 6 m0 EE LL (l1 (l2 (l1 (l2 Zqy)))) (ZIk m0) [] B
def Zv1:=exec PP HH 6 m0 EE LL Zlq (Zd2 m0) [(5,x5),(8,x8),(11,x11),(14,x14)] B
def ZmQ:=lp (LL 6 m0 Zt2 (ZyI m0) [(5,x5),(11,x11),(14,x14),(117,x117),(118,x118),(119,x119)] B)
def Zv2:=exec PP HH 6 m0 EE LL Zo2 (ZsZ m0) [(5,x5),(11,x11),(14,x14),(117,x117),(118,x118),(119,x119)] B
def Zv4:=exec PP HH 6 m0 EE LL (l2 Zlq) (Zd2 m0) [] B
def ZkH:=exec PP HH 6 m0 EE LL (l1 (l2 (l1 (l2 (l2 (l1 (l1 Zo2))))))) (ZIn m0) [] B
def Zv3:=exec PP HH 6 m0 EE LL Zt3 (Zt0 m0) [(5,x5),(11,x11),(14,x14),(16,x16),(17,x17),(117,x117),(118,x118),(119,x119)] B
def ZkI:=exec PP HH 6 m0 EE LL (l1 (l2 (l1 (l2 (l1 (l2 Zt3)))))) (ZHd m0) [] B
def Z4U:=exec PP HH 6 m0 EE LL (l2 Zo2) (ZsZ m0) [(5,x5),(11,x11),(14,x14),(117,x117),(118,x118),(119,x119)] B
theorem ZD7:ZyJ m0 x0 x1 B =
 mk (ob (xlen PP 9 (shr x0)) fun a =>
 ob (xbin PP .gtr 3 a (iv 100)) fun b =>
 asB (shr b) fun c => br c (Zt1 m0 (gcB m0 [] B))
 (ob (xlen PP 9 (shr x1)) fun d =>
 ob (xbin PP .gtr 3 d (iv 100)) fun e =>
 asB (shr e) fun f => br f (Zt1 m0 (gcB m0 [] B))
 (ZyK m0 x0 x1 (gcB m0 [x0,x1] B)))):=by kernel_rfl
theorem ZD8:Zt1 m0 B =
 mk (Z1B (bv true) B):=by kernel_rfl
theorem ZD9:ZyK m0 x0 x1 B =
 mk (callS false EE 9 [(shr x0)] B fun a b =>
 ob (xext 0 (shr a)) fun c =>
 ob (xext 1 (shr a)) fun d =>
 ob (xext 2 (shr a)) fun e =>
 mk (callS false EE 9 [(shr x1)] b fun f g =>
 ob (xext 0 (shr f)) fun h =>
 ob (xext 1 (shr f)) fun i =>
 ob (xext 2 (shr f)) fun j =>
 mk (ob (xbin PP .add 9 (.p (.v (.string (ByteArray.mk #[40,63,58])))) (shr x0)) fun k =>
 ob (xbin PP .add 9 k (.p (.v (.string (ByteArray.mk #[41,40,63,58]))))) fun l =>
 ob (xbin PP .add 9 l (shr x1)) fun n =>
 ob (xbin PP .add 9 n (.p (.v (.string (ByteArray.mk #[41]))))) fun o =>
 callS false EE 9 [o] g fun q r =>
 ob (xext 0 (shr q)) fun s =>
 ob (xext 1 (shr q)) fun t =>
 ob (xext 2 (shr q)) fun u =>
 mk (ob (xbin PP .neq 24 (shr (shr (shr d))) (iv 0)) fun w =>
 asB (shr w) fun x => br x (Zf5 m0 (gcB m0 [] r))
 (ob (xbin PP .neq 24 (shr (shr (shr i))) (iv 0)) fun y =>
 asB (shr (shr y)) fun z => br z (Zf5 m0 (gcB m0 [] r))
 (ob (xbin PP .neq 24 (shr (shr (shr t))) (iv 0)) fun A =>
 asB (shr (shr A)) fun C => br C (Zf5 m0 (gcB m0 [] r))
 (ob (xbin PP .neq 24 (shr (shr (shr e))) (iv 0)) fun D =>
 asB (shr (shr D)) fun F => br F (Zf5 m0 (gcB m0 [] r))
 (ob (xbin PP .neq 24 (shr (shr (shr j))) (iv 0)) fun G =>
 asB (shr (shr G)) fun I => br I (Zf5 m0 (gcB m0 [] r))
 (ob (xbin PP .neq 24 (shr (shr (shr u))) (iv 0)) fun J =>
 asB (shr (shr J)) fun M => br M (Zf5 m0 (gcB m0 [] r))
 (ob (xlen PP 9 (shr x0)) fun N =>
 ob (xbin PP .gtr 3 N (iv 3)) fun O =>
 asB (shr O) fun Q => br Q (ob (xslS (shr x0) none (some (iv 4))) fun R =>
 ob (xbin PP .eql 9 R (.p (.v (.string (ByteArray.mk #[40,63,105,41]))))) fun S =>
 asB (shr (shr (shr S))) fun T => br T (Zf5 m0 (gcB m0 [] r))
 (ob (xlen PP 9 (shr x1)) fun U =>
 ob (xbin PP .gtr 3 U (iv 3)) fun V =>
 asB (shr V) fun W => br W (ob (xslS (shr x1) none (some (iv 4))) fun Y =>
 ob (xbin PP .eql 9 Y (.p (.v (.string (ByteArray.mk #[40,63,105,41]))))) fun Z =>
 asB (shr (shr Z)) fun a0 => br a0 (Zf5 m0 (gcB m0 [] r))
 (ZkG m0 (shr (shr c)) (shr (shr h)) (shr (shr s)) (gcB m0 [(shr (shr c)),(shr (shr h)),(shr (shr s))] r)))
 (ZkG m0 (shr (shr c)) (shr (shr h)) (shr (shr s)) (gcB m0 [(shr (shr c)),(shr (shr h)),(shr (shr s))] r))))
 (ob (xlen PP 9 (shr x1)) fun a1 =>
 ob (xbin PP .gtr 3 a1 (iv 3)) fun a2 =>
 asB (shr a2) fun a3 => br a3 (ob (xslS (shr x1) none (some (iv 4))) fun a4 =>
 ob (xbin PP .eql 9 a4 (.p (.v (.string (ByteArray.mk #[40,63,105,41]))))) fun a5 =>
 asB (shr (shr a5)) fun a6 => br a6 (Zf5 m0 (gcB m0 [] r))
 (ZkG m0 (shr (shr c)) (shr (shr h)) (shr (shr s)) (gcB m0 [(shr (shr c)),(shr (shr h)),(shr (shr s))] r)))
 (ZkG m0 (shr (shr c)) (shr (shr h)) (shr (shr s)) (gcB m0 [(shr (shr c)),(shr (shr h)),(shr (shr s))] r))))))))))))):=by kernel_rfl
theorem ZDa:Zf5 m0 B =
 mk (Z1B (bv true) B):=by kernel_rfl
theorem ZBp:ZkG m0 x5 x8 x11 B =
 mk (ob (xlen PP 23 (shr x5)) fun a =>
 ob (xbin PP .sub 3 a (iv 3)) fun b =>
 mk (ob (xlen PP 23 (shr x11)) fun c =>
 ob (xlen PP 23 (shr x8)) fun d =>
 ob (xbin PP .add 3 (shr (shr b)) d) fun e =>
 ob (xbin PP .neq 3 c e) fun f =>
 asB (shr f) fun g => br g (Zqx m0 (gcB m0 [] B))
 (callS false EE 13 [(shr x11)] B fun h i =>
 callS false EE 13 [(shr x5)] i fun j k =>
 callS false EE 13 [(shr x8)] k fun l n =>
 ob (xbin PP .add 3 j l) fun o =>
 ob (xbin PP .neq 3 h o) fun p =>
 asB (shr p) fun q => br q (Zqx m0 (gcB m0 [] n))
 (Zv1 m0 x5 x8 x11 (shr b) (gcB m0 [x5,x8,x11,(shr b)] n))))):=by kernel_rfl
theorem ZBq:Zqx m0 B =
 mk (Z1B (bv false) B):=by kernel_rfl
theorem ZBr:Zv1 m0 x5 x8 x11 x14 B =
 mk (ob (xlen PP 23 (shr x8)) fun a =>
 ob (xbin PP .sub 3 a (iv 2)) fun b =>
 ob (xsl 6 (shr x8) (some (iv 1)) (some b) none) fun c =>
 ob (xlen PP 23 c) fun d =>
 ZmQ m0 x5 x11 x14 c d (iv 0) (gcB m0 [x5,x11,x14,c,d,(iv 0)] B)):=by kernel_rfl
theorem ZBo:ZmQ m0 x5 x11 x14 x117 x118 x119 B =
 mk (ob (xbin PP .lss 3 x119 x118) fun a =>
 asB a fun b => br b (Zv2 m0 x5 x11 x14 x117 x118 x119 (gcB m0 [x5,x11,x14,x117,x118,x119] B))
 (Zv4 m0 (gcB m0 [] B))):=lq_ (by kernel_rfl)
theorem ZBs:Zv2 m0 x5 x11 x14 x117 x118 x119 B =
 mk (ob (xidx 6 x117 x119) fun a =>
 ob (ldN true 6 a B) fun b =>
 bz PP 40 B fun c d =>
 stN 6 c b d fun e =>
 mk (ob (xbin PP .add 3 (shr (shr (shr x119))) (iv 1)) fun f =>
 ob (xbin PP .add 3 f (shr x14)) fun g =>
 ob (xidx 6 (shr x11) g) fun h =>
 ob (ldN true 6 h e) fun i =>
 bz PP 40 e fun j k =>
 stN 6 j i k fun l =>
 mk (ob (xfld 0 c) fun n =>
 ob (ldN false 1 n l) fun o =>
 ob (xfld 0 j) fun p =>
 ob (ldN false 1 p l) fun q =>
 ob (xbin PP .neq 3 o q) fun r =>
 asB (shr r) fun s => br s (ZkH m0 (gcB m0 [] l))
 (ob (xfld 3 c) fun t =>
 ob (ldN false 1 t l) fun u =>
 ob (xfld 3 j) fun v =>
 ob (ldN false 1 v l) fun w =>
 ob (xbin PP .neq 3 u w) fun x =>
 asB (shr (shr x)) fun y => br y (ZkH m0 (gcB m0 [] l))
 (ob (xfld 4 c) fun z =>
 ob (ldN false 1 z l) fun A =>
 ob (xfld 4 j) fun C =>
 ob (ldN false 1 C l) fun D =>
 ob (xbin PP .neq 3 A D) fun F =>
 asB (shr (shr F)) fun G => br G (ZkH m0 (gcB m0 [] l))
 (ob (xfld 5 c) fun I =>
 ob (ldN false 1 I l) fun J =>
 ob (xlen PP 28 J) fun M =>
 ob (xfld 5 j) fun N =>
 ob (ldN false 1 N l) fun O =>
 ob (xlen PP 28 O) fun Q =>
 ob (xbin PP .neq 3 M Q) fun R =>
 asB (shr R) fun S => br S (ZkH m0 (gcB m0 [] l))
 (Zv3 m0 x5 x11 x14 c j x117 x118 x119 (gcB m0 [x5,x11,x14,c,j,x117,x118,x119] l)))))))):=by kernel_rfl
theorem ZBx:Zv4 m0 B =
 mk (Z1B (bv true) B):=by kernel_rfl
theorem ZBt:ZkH m0 B =
 mk (Z1B (bv false) B):=by kernel_rfl
theorem ZBu:Zv3 m0 x5 x11 x14 x16 x17 x117 x118 x119 B =
 mk (ob (xfld 0 x16) fun a =>
 ob (ldN false 1 a B) fun b =>
 mk (ob (xbin PP .eql 3 b (iv 2)) fun c =>
 asB (shr c) fun d => br d (asB (shr c) fun e => br e (mk (ob (xfld 1 x17) fun f =>
 ob (ldN false 1 f B) fun g =>
 ob (xfld 1 x16) fun h =>
 ob (ldN false 1 h B) fun i =>
 ob (xbin PP .add 3 i (shr x14)) fun j =>
 ob (xbin PP .neq 3 g j) fun k =>
 asB (shr k) fun l => br l (ZkI m0 (gcB m0 [] B))
 (ob (xfld 0 x16) fun n =>
 ob (ldN false 1 n B) fun o =>
 ob (xbin PP .eql 3 o (iv 3)) fun p =>
 asB (shr p) fun q => br q (ob (xfld 2 x17) fun r =>
 ob (ldN false 1 r B) fun s =>
 ob (xfld 2 x16) fun t =>
 ob (ldN false 1 t B) fun u =>
 ob (xbin PP .add 3 u (shr x14)) fun v =>
 ob (xbin PP .neq 3 s v) fun w =>
 asB (shr (shr w)) fun x => br x (ZkI m0 (gcB m0 [] B))
 (Z4U m0 x5 x11 x14 x117 x118 x119 (gcB m0 [x5,x11,x14,x117,x118,x119] B)))
 (Z4U m0 x5 x11 x14 x117 x118 x119 (gcB m0 [x5,x11,x14,x117,x118,x119] B)))))
 (mk (ob (xbin PP .eql 3 b (iv 7)) fun y =>
 asB (shr y) fun z => br z (asB (shr y) fun A => br A (mk (ob (xfld 2 x17) fun C =>
 ob (ldN false 1 C B) fun D =>
 ob (xfld 2 x16) fun F =>
 ob (ldN false 1 F B) fun G =>
 ob (xbin PP .add 3 G (shr x14)) fun I =>
 ob (xbin PP .neq 3 D I) fun J =>
 asB J fun M => br M (mk (Z1B (bv false) B))
 (Z4U m0 x5 x11 x14 x117 x118 x119 (gcB m0 [x5,x11,x14,x117,x118,x119] B))))
 (mk (ob (xbin PP .eql 3 b (iv 10)) fun N =>
 asB (shr N) fun O => br O (asB (shr N) fun Q => br Q (mk (ob (xfld 1 x17) fun R =>
 ob (ldN false 1 R B) fun S =>
 ob (xfld 1 x16) fun T =>
 ob (ldN false 1 T B) fun U =>
 callS false EE 13 [(shr x5)] B fun V W =>
 ob (xbin PP .add 3 U V) fun Y =>
 ob (xbin PP .neq 3 S Y) fun Z =>
 grd (Z6r [V,(shr x5)]) (grd (Z6r [V,(shr x5)]) (asB Z fun a0 => br a0 (mk (Z1B (bv false) W))
 (Z4U m0 x5 x11 x14 x117 x118 x119 (gcB m0 [x5,x11,x14,x117,x118,x119] W))))))
 (Z4U m0 x5 x11 x14 x117 x118 x119 (gcB m0 [x5,x11,x14,x117,x118,x119] B)))
 (mk (ob (xbin PP .eql 3 b (iv 11)) fun a1 =>
 asB (shr a1) fun a2 => br a2 (mk (ob (xfld 1 x17) fun a3 =>
 ob (ldN false 1 a3 B) fun a4 =>
 ob (xfld 1 x16) fun a5 =>
 ob (ldN false 1 a5 B) fun a6 =>
 callS false EE 13 [(shr x5)] B fun a7 a8 =>
 ob (xbin PP .add 3 a6 a7) fun a9 =>
 ob (xbin PP .neq 3 a4 a9) fun a10 =>
 grd (Z6r [a7,(shr x5)]) (grd (Z6r [a7,(shr x5)]) (asB a10 fun a11 => br a11 (mk (Z1B (bv false) a8))
 (Z4U m0 x5 x11 x14 x117 x118 x119 (gcB m0 [x5,x11,x14,x117,x118,x119] a8))))))
 (Z4U m0 x5 x11 x14 x117 x118 x119 (gcB m0 [x5,x11,x14,x117,x118,x119] B)))))))
 (mk (ob (xbin PP .eql 3 b (iv 8)) fun a12 =>
 asB (shr a12) fun a13 => br a13 (mk (ob (xfld 2 x17) fun a14 =>
 ob (ldN false 1 a14 B) fun a15 =>
 ob (xfld 2 x16) fun a16 =>
 ob (ldN false 1 a16 B) fun a17 =>
 ob (xbin PP .add 3 a17 (shr x14)) fun a18 =>
 ob (xbin PP .neq 3 a15 a18) fun a19 =>
 asB a19 fun a20 => br a20 (mk (Z1B (bv false) B))
 (Z4U m0 x5 x11 x14 x117 x118 x119 (gcB m0 [x5,x11,x14,x117,x118,x119] B))))
 (mk (ob (xbin PP .eql 3 b (iv 10)) fun a21 =>
 asB (shr a21) fun a22 => br a22 (asB (shr a21) fun a23 => br a23 (mk (ob (xfld 1 x17) fun a24 =>
 ob (ldN false 1 a24 B) fun a25 =>
 ob (xfld 1 x16) fun a26 =>
 ob (ldN false 1 a26 B) fun a27 =>
 callS false EE 13 [(shr x5)] B fun a28 a29 =>
 ob (xbin PP .add 3 a27 a28) fun a30 =>
 ob (xbin PP .neq 3 a25 a30) fun a31 =>
 grd (Z6r [a28,(shr x5)]) (grd (Z6r [a28,(shr x5)]) (asB a31 fun a32 => br a32 (mk (Z1B (bv false) a29))
 (Z4U m0 x5 x11 x14 x117 x118 x119 (gcB m0 [x5,x11,x14,x117,x118,x119] a29))))))
 (Z4U m0 x5 x11 x14 x117 x118 x119 (gcB m0 [x5,x11,x14,x117,x118,x119] B)))
 (mk (ob (xbin PP .eql 3 b (iv 11)) fun a33 =>
 asB (shr a33) fun a34 => br a34 (mk (ob (xfld 1 x17) fun a35 =>
 ob (ldN false 1 a35 B) fun a36 =>
 ob (xfld 1 x16) fun a37 =>
 ob (ldN false 1 a37 B) fun a38 =>
 callS false EE 13 [(shr x5)] B fun a39 a40 =>
 ob (xbin PP .add 3 a38 a39) fun a41 =>
 ob (xbin PP .neq 3 a36 a41) fun a42 =>
 grd (Z6r [a39,(shr x5)]) (grd (Z6r [a39,(shr x5)]) (asB a42 fun a43 => br a43 (mk (Z1B (bv false) a40))
 (Z4U m0 x5 x11 x14 x117 x118 x119 (gcB m0 [x5,x11,x14,x117,x118,x119] a40))))))
 (Z4U m0 x5 x11 x14 x117 x118 x119 (gcB m0 [x5,x11,x14,x117,x118,x119] B)))))))))))
 (mk (ob (xbin PP .eql 3 b (iv 3)) fun a44 =>
 asB (shr a44) fun a45 => br a45 (mk (ob (xfld 1 x17) fun a46 =>
 ob (ldN false 1 a46 B) fun a47 =>
 ob (xfld 1 x16) fun a48 =>
 ob (ldN false 1 a48 B) fun a49 =>
 ob (xbin PP .add 3 a49 (shr x14)) fun a50 =>
 ob (xbin PP .neq 3 a47 a50) fun a51 =>
 asB (shr a51) fun a52 => br a52 (ZkI m0 (gcB m0 [] B))
 (ob (xfld 0 x16) fun a53 =>
 ob (ldN false 1 a53 B) fun a54 =>
 ob (xbin PP .eql 3 a54 (iv 3)) fun a55 =>
 asB (shr a55) fun a56 => br a56 (ob (xfld 2 x17) fun a57 =>
 ob (ldN false 1 a57 B) fun a58 =>
 ob (xfld 2 x16) fun a59 =>
 ob (ldN false 1 a59 B) fun a60 =>
 ob (xbin PP .add 3 a60 (shr x14)) fun a61 =>
 ob (xbin PP .neq 3 a58 a61) fun a62 =>
 asB (shr (shr a62)) fun a63 => br a63 (ZkI m0 (gcB m0 [] B))
 (Z4U m0 x5 x11 x14 x117 x118 x119 (gcB m0 [x5,x11,x14,x117,x118,x119] B)))
 (Z4U m0 x5 x11 x14 x117 x118 x119 (gcB m0 [x5,x11,x14,x117,x118,x119] B)))))
 (mk (ob (xbin PP .eql 3 b (iv 7)) fun a64 =>
 asB (shr a64) fun a65 => br a65 (asB (shr a64) fun a66 => br a66 (mk (ob (xfld 2 x17) fun a67 =>
 ob (ldN false 1 a67 B) fun a68 =>
 ob (xfld 2 x16) fun a69 =>
 ob (ldN false 1 a69 B) fun a70 =>
 ob (xbin PP .add 3 a70 (shr x14)) fun a71 =>
 ob (xbin PP .neq 3 a68 a71) fun a72 =>
 asB a72 fun a73 => br a73 (mk (Z1B (bv false) B))
 (Z4U m0 x5 x11 x14 x117 x118 x119 (gcB m0 [x5,x11,x14,x117,x118,x119] B))))
 (mk (ob (xbin PP .eql 3 b (iv 10)) fun a74 =>
 asB (shr a74) fun a75 => br a75 (asB (shr a74) fun a76 => br a76 (mk (ob (xfld 1 x17) fun a77 =>
 ob (ldN false 1 a77 B) fun a78 =>
 ob (xfld 1 x16) fun a79 =>
 ob (ldN false 1 a79 B) fun a80 =>
 callS false EE 13 [(shr x5)] B fun a81 a82 =>
 ob (xbin PP .add 3 a80 a81) fun a83 =>
 ob (xbin PP .neq 3 a78 a83) fun a84 =>
 grd (Z6r [a81,(shr x5)]) (grd (Z6r [a81,(shr x5)]) (asB a84 fun a85 => br a85 (mk (Z1B (bv false) a82))
 (Z4U m0 x5 x11 x14 x117 x118 x119 (gcB m0 [x5,x11,x14,x117,x118,x119] a82))))))
 (Z4U m0 x5 x11 x14 x117 x118 x119 (gcB m0 [x5,x11,x14,x117,x118,x119] B)))
 (mk (ob (xbin PP .eql 3 b (iv 11)) fun a86 =>
 asB (shr a86) fun a87 => br a87 (mk (ob (xfld 1 x17) fun a88 =>
 ob (ldN false 1 a88 B) fun a89 =>
 ob (xfld 1 x16) fun a90 =>
 ob (ldN false 1 a90 B) fun a91 =>
 callS false EE 13 [(shr x5)] B fun a92 a93 =>
 ob (xbin PP .add 3 a91 a92) fun a94 =>
 ob (xbin PP .neq 3 a89 a94) fun a95 =>
 grd (Z6r [a92,(shr x5)]) (grd (Z6r [a92,(shr x5)]) (asB a95 fun a96 => br a96 (mk (Z1B (bv false) a93))
 (Z4U m0 x5 x11 x14 x117 x118 x119 (gcB m0 [x5,x11,x14,x117,x118,x119] a93))))))
 (Z4U m0 x5 x11 x14 x117 x118 x119 (gcB m0 [x5,x11,x14,x117,x118,x119] B)))))))
 (mk (ob (xbin PP .eql 3 b (iv 8)) fun a97 =>
 asB (shr a97) fun a98 => br a98 (mk (ob (xfld 2 x17) fun a99 =>
 ob (ldN false 1 a99 B) fun a100 =>
 ob (xfld 2 x16) fun a101 =>
 ob (ldN false 1 a101 B) fun a102 =>
 ob (xbin PP .add 3 a102 (shr x14)) fun a103 =>
 ob (xbin PP .neq 3 a100 a103) fun a104 =>
 asB a104 fun a105 => br a105 (mk (Z1B (bv false) B))
 (Z4U m0 x5 x11 x14 x117 x118 x119 (gcB m0 [x5,x11,x14,x117,x118,x119] B))))
 (mk (ob (xbin PP .eql 3 b (iv 10)) fun a106 =>
 asB (shr a106) fun a107 => br a107 (asB (shr a106) fun a108 => br a108 (mk (ob (xfld 1 x17) fun a109 =>
 ob (ldN false 1 a109 B) fun a110 =>
 ob (xfld 1 x16) fun a111 =>
 ob (ldN false 1 a111 B) fun a112 =>
 callS false EE 13 [(shr x5)] B fun a113 a114 =>
 ob (xbin PP .add 3 a112 a113) fun a115 =>
 ob (xbin PP .neq 3 a110 a115) fun a116 =>
 grd (Z6r [a113,(shr x5)]) (grd (Z6r [a113,(shr x5)]) (asB a116 fun a117 => br a117 (mk (Z1B (bv false) a114))
 (Z4U m0 x5 x11 x14 x117 x118 x119 (gcB m0 [x5,x11,x14,x117,x118,x119] a114))))))
 (Z4U m0 x5 x11 x14 x117 x118 x119 (gcB m0 [x5,x11,x14,x117,x118,x119] B)))
 (mk (ob (xbin PP .eql 3 b (iv 11)) fun a118 =>
 asB (shr a118) fun a119 => br a119 (mk (ob (xfld 1 x17) fun a120 =>
 ob (ldN false 1 a120 B) fun a121 =>
 ob (xfld 1 x16) fun a122 =>
 ob (ldN false 1 a122 B) fun a123 =>
 callS false EE 13 [(shr x5)] B fun a124 a125 =>
 ob (xbin PP .add 3 a123 a124) fun a126 =>
 ob (xbin PP .neq 3 a121 a126) fun a127 =>
 grd (Z6r [a124,(shr x5)]) (grd (Z6r [a124,(shr x5)]) (asB a127 fun a128 => br a128 (mk (Z1B (bv false) a125))
 (Z4U m0 x5 x11 x14 x117 x118 x119 (gcB m0 [x5,x11,x14,x117,x118,x119] a125))))))
 (Z4U m0 x5 x11 x14 x117 x118 x119 (gcB m0 [x5,x11,x14,x117,x118,x119] B)))))))))))))):=by kernel_rfl
theorem ZBv:ZkI m0 B =
 mk (Z1B (bv false) B):=by kernel_rfl
theorem ZBw:Z4U m0 x5 x11 x14 x117 x118 x119 B =
 mk (ob (xbin PP .add 3 x119 (iv 1)) fun a =>
 ZmQ m0 x5 x11 x14 x117 x118 (shr a) (gcB m0 [x5,x11,x14,x117,x118,(shr a)] B)):=by kernel_rfl
theorem ZIh:EE 6 [x0,x1] B =
 (let m0:=B.length
 mk (mk (callS false EE 8 [] B fun a b =>
 ob (xun PP .not a) fun c =>
 asB c fun d => br d (mk (Z1B (bv false) b))
 (ZyJ m0 x0 x1 (gcB m0 [x0,x1] b))))):=(E_eq PP XX HH _ _ _).trans (by kernel_rfl)
def ZHx:=Z2K Tryd.f8
def ZyR:=l2 (l2 (l2 (l2 ZHx)))
def ZyP (m0:Nat):Kont:=kret PP HH 8 Tryd.f8.results
def ZIt:=kseq HH 8 m0 ZyR (exec PP HH 8 m0 EE LL ZyR (ZyP m0)) (ZyP m0)
def ZjA:=exec PP HH 8 m0 EE LL (l1 (l2 (l1 (l2 (l2 (l2 ZHx)))))) (ZIt m0) [] B
def ZyQ:=exec PP HH 8 m0 EE LL ZyR (ZyP m0) [(1,x1),(4,x4)] B
theorem ZDb:ZjA m0 B =
 mk (Z1B (bv false) B):=by kernel_rfl
theorem ZDc:ZyQ m0 x1 x4 B =
 mk (ob (xidx 6 (shr x1) (iv 1)) fun a =>
 ob (xfld 0 a) fun b =>
 ob (ldN false 1 b B) fun c =>
 ob (xbin PP .eql 3 c (iv 3)) fun d =>
 asB (shr d) fun e => br e (ob (xidx 6 (shr x1) (iv 1)) fun f =>
 ob (xfld 1 f) fun g =>
 ob (ldN false 1 g B) fun h =>
 ob (xbin PP .eql 3 h (iv 2)) fun i =>
 asB (shr (shr i)) fun j => br j (ob (xidx 6 (shr x1) (iv 1)) fun k =>
 ob (xfld 2 k) fun l =>
 ob (ldN false 1 l B) fun n =>
 ob (xbin PP .eql 3 n (iv 4)) fun o =>
 asB (shr (shr o)) fun p => br p (ob (xidx 6 (shr x1) (iv 3)) fun q =>
 ob (xfld 0 q) fun r =>
 ob (ldN false 1 r B) fun s =>
 ob (xbin PP .eql 3 s (iv 2)) fun t =>
 asB (shr (shr t)) fun u => br u (ob (xidx 6 (shr x1) (iv 3)) fun v =>
 ob (xfld 1 v) fun w =>
 ob (ldN false 1 w B) fun x =>
 ob (xbin PP .eql 3 x (iv 5)) fun y =>
 asB (shr (shr y)) fun z => br z (ob (xidx 6 (shr x4) (iv 4)) fun A =>
 ob (xfld 0 A) fun C =>
 ob (ldN false 1 C B) fun D =>
 ob (xbin PP .eql 3 D (iv 11)) fun F =>
 asB (shr (shr F)) fun G => br G (ob (xidx 6 (shr x4) (iv 1)) fun I =>
 ob (xfld 2 I) fun J =>
 ob (ldN false 1 J B) fun M =>
 ob (xbin PP .eql 3 M (iv 6)) fun N =>
 asB (shr (shr N)) fun O => br O (callS false EE 13 [(shr x4)] B fun Q R =>
 ob (xbin PP .eql 3 Q (iv 1)) fun S =>
 Z1B (shr (shr S)) R)
 (Z1B (bv false) B))
 (Z1B (bv false) B))
 (Z1B (bv false) B))
 (Z1B (bv false) B))
 (Z1B (bv false) B))
 (Z1B (bv false) B))
 (Z1B (bv false) B)):=by kernel_rfl
theorem ZIs:EE 8 [] B =
 (let m0:=B.length
 mk (mk (callS false EE 9 [(.p (.v (.string (ByteArray.mk #[97,124,98]))))] B fun a b =>
 ob (xext 0 (shr a)) fun c =>
 ob (xext 1 (shr a)) fun d =>
 ob (xext 2 (shr a)) fun e =>
 mk (callS false EE 9 [(.p (.v (.string (ByteArray.mk #[97,42]))))] b fun f g =>
 ob (xext 0 (shr f)) fun h =>
 ob (xext 1 (shr f)) fun i =>
 ob (xext 2 (shr f)) fun j =>
 mk (ob (xbin PP .neq 24 (shr (shr (shr d))) (iv 0)) fun k =>
 asB (shr k) fun l => br l (ZjA m0 (gcB m0 [] g))
 (ob (xbin PP .neq 24 (shr (shr (shr e))) (iv 0)) fun n =>
 asB (shr (shr n)) fun o => br o (ZjA m0 (gcB m0 [] g))
 (ob (xbin PP .neq 24 (shr (shr (shr i))) (iv 0)) fun q =>
 asB (shr (shr q)) fun r => br r (ZjA m0 (gcB m0 [] g))
 (ob (xbin PP .neq 24 (shr (shr (shr j))) (iv 0)) fun s =>
 asB (shr (shr s)) fun t => br t (ZjA m0 (gcB m0 [] g))
 (ob (xlen PP 23 (shr (shr (shr c)))) fun u =>
 ob (xbin PP .neq 3 u (iv 7)) fun w =>
 asB (shr (shr w)) fun x => br x (ZjA m0 (gcB m0 [] g))
 (ob (xlen PP 23 (shr (shr (shr h)))) fun y =>
 ob (xbin PP .neq 3 y (iv 8)) fun z =>
 asB (shr z) fun A => br A (ZjA m0 (gcB m0 [] g))
 (ZyQ m0 (shr (shr c)) (shr (shr h)) (gcB m0 [(shr (shr c)),(shr (shr h))] g)))))))))))):=(E_eq PP XX HH _ _ _).trans (by kernel_rfl)
def ZIO:=Z2K Tryd.f9
def ZBW (r0 r1 r2:AV) (B:List Row):Option Res :=
 ob (ob (some r0) fun v => ob (ob (some r1) fun v => ob (ob (some r2) fun v => ob (some []) fun vs => some (v :: vs)) fun vs => some (v :: vs)) fun vs => some (v :: vs)) fun vs => some ((nrmA (match vs with | [v] => v | vs => Z98 (vs.map shr))),B)
def ZIv (m0:Nat):Kont:=kret PP HH 9 Tryd.f9.results
def ZyT:=exec PP HH 9 m0 EE LL (l2 (l2 (l2 ZIO))) (ZIv m0) [(5,x5)] B
theorem ZDd:ZyT m0 x5 B =
 mk (ob (ldN true 9 x5 B) fun a =>
 callS false EE 18 [a] B fun b c =>
 ob (xext 0 (shr b)) fun d =>
 ob (xext 1 (shr b)) fun e =>
 mk (ZBW (shr (shr (shr (shr d)))) (iv 0) (shr (shr (shr (shr e)))) c)):=by kernel_rfl
theorem ZIu:EE 9 [x0] B =
 (let m0:=B.length
 mk (mk (callS false EE 10 [(shr x0)] B fun a b =>
 ob (xext 0 (shr a)) fun c =>
 ob (xext 1 (shr a)) fun d =>
 bz PP 33 b fun e f =>
 bz PP 35 f fun g h =>
 stN 9 e (shr c) h fun i =>
 stN 2 g (shr d) i fun j =>
 mk (ob (xfld 0 g) fun k =>
 ob (ldN false 1 k j) fun l =>
 ob (xbin PP .neq 24 l (iv 0)) fun n =>
 asB n fun o => br o (mk (ob (xfld 0 g) fun p =>
 ob (ldN false 1 p j) fun q =>
 ZBW nilA (shr q) (iv 0) j))
 (ZyT m0 e (gcB m0 [e] j)))))):=(E_eq PP XX HH _ _ _).trans (by kernel_rfl)
def ZI3:=Z2K Tryd.f10
def Ztt:=l2 (l2 ZI3)
def ZgH:=l2 (l2 (l2 (l2 Ztt)))
def ZpG:=l1 (l1 (l2 (l1 ZgH)))
def ZzT:=l2 (l2 ZpG)
def ZrE (r0 r1:AV) (B:List Row):Option Res :=
 ob (ob (ldN true 9 r0 B) fun v => ob (ob (ldN true 2 r1 B) fun v => ob (some []) fun vs => some (v :: vs)) fun vs => some (v :: vs)) fun vs => some ((nrmA (match vs with | [v] => v | vs => Z98 (vs.map shr))),B)
def ZgG (m0:Nat):Kont:=kret PP HH 10 Tryd.f10.results
def ZFz:=kseq HH 10 m0 ZgH (exec PP HH 10 m0 EE LL ZgH (ZgG m0)) (ZgG m0)
def ZFA:=kseq HH 10 m0 (l2 ZgH) (exec PP HH 10 m0 EE LL (l2 ZgH) (ZgG m0)) (ZgG m0)
def Ztq:=kblk 0 (ZFA m0)
def ZzO:=kloop HH 10 m0 ZpG (LL 10 m0 ZpG (Ztq m0)) (Ztq m0)
def Ztr:=exec PP HH 10 m0 EE LL Ztt (ZgG m0) [(0,x0),(2,x2),(3,x3)] B
def Zts:=exec PP HH 10 m0 EE LL (l1 (l2 (l1 (l2 (l2 (l2 Ztt)))))) (ZFz m0) [(2,x2),(3,x3),(4,x4),(5,x5)] B
def Zmx:=exec PP HH 10 m0 EE LL ZgH (ZgG m0) [(2,x2),(3,x3),(4,x4),(5,x5)] B
def Zmw:=lp (LL 10 m0 ZpG (Ztq m0) [(2,x2),(3,x3),(4,x4),(5,x5),(50,x50),(51,x51),(52,x52)] B)
def ZrB:=exec PP HH 10 m0 EE LL ZzT (ZzO m0) [(2,x2),(3,x3),(4,x4),(5,x5),(50,x50),(51,x51),(52,x52)] B
def ZrC:=exec PP HH 10 m0 EE LL (l2 ZgH) (ZgG m0) [(2,x2),(3,x3),(4,x4),(5,x5)] B
def ZnQ:=exec PP HH 10 m0 EE LL (l2 ZzT) (ZzO m0) [(2,x2),(3,x3),(4,x4),(5,x5),(50,x50),(51,x51),(52,x52)] B
def ZrD:=exec PP HH 10 m0 EE LL (l2 (l2 ZgH)) (ZgG m0) [(2,x2),(3,x3),(4,x4),(5,x5)] B
theorem ZzQ:Ztr m0 x0 x2 x3 B =
 mk (ob (xcnv PP 9 54 (shr x0)) fun a =>
 ob (Z1I PP 57 [(0,a)]) fun b =>
 bx b B fun c d =>
 mk (callS false EE 19 [(shr (shr c)),(.p (.v (.string (ByteArray.mk #[40,63,105,41]))))] d fun e f =>
 ob (Z1I PP 33 [(2,e)]) fun g =>
 bz PP 33 f fun h i =>
 stN 9 h g i fun j =>
 mk (callS false EE 20 [(shr (shr c))] j fun k l =>
 ob (xfld 0 h) fun n =>
 stN 7 n k l fun o =>
 mk (ob (Z1J (shr (shr c))) fun q =>
 ob (xfld 5 q) fun r =>
 ob (xfld 0 r) fun s =>
 ob (ldN false 1 s o) fun t =>
 ob (xbin PP .eql 24 t (iv 0)) fun u =>
 asB (shr u) fun w => br w (ob (Z1J (shr (shr c))) fun x =>
 ob (xfld 1 x) fun y =>
 ob (ldN false 1 y o) fun z =>
 ob (Z1J (shr (shr c))) fun A =>
 ob (xfld 0 A) fun C =>
 ob (ldN false 1 C o) fun D =>
 ob (xlen PP 54 D) fun F =>
 ob (xbin PP .lss 3 z F) fun G =>
 asB (shr G) fun I => br I (Zts m0 x2 x3 (shr c) h (gcB m0 [x2,x3,(shr c),h] o))
 (Zmx m0 x2 x3 (shr c) h (gcB m0 [x2,x3,(shr c),h] o)))
 (Zmx m0 x2 x3 (shr c) h (gcB m0 [x2,x3,(shr c),h] o)))))):=by kernel_rfl
theorem ZzR:Zts m0 x2 x3 x4 x5 B =
 mk (ob (Z1J (shr x4)) fun a =>
 ob (xfld 1 a) fun b =>
 ob (ldN false 1 b B) fun c =>
 callS false EE 21 [(shr x4),(iv 20),c] B fun d e =>
 Zmx m0 x2 x3 x4 x5 (gcB m0 [x2,x3,x4,x5] e)):=by kernel_rfl
theorem ZzS:Zmx m0 x2 x3 x4 x5 B =
 mk (ob (Z1J (shr x4)) fun a =>
 ob (xfld 4 a) fun b =>
 ob (ldN false 1 b B) fun c =>
 ob (xlen PP 55 c) fun d =>
 Zmw m0 x2 x3 x4 x5 c d (iv 0) (gcB m0 [x2,x3,x4,x5,c,d,(iv 0)] B)):=by kernel_rfl
theorem ZzP:Zmw m0 x2 x3 x4 x5 x50 x51 x52 B =
 mk (ob (xbin PP .lss 3 x52 x51) fun a =>
 asB a fun b => br b (ZrB m0 x2 x3 x4 x5 x50 x51 x52 (gcB m0 [x2,x3,x4,x5,x50,x51,x52] B))
 (ZrC m0 x2 x3 x4 x5 (gcB m0 [x2,x3,x4,x5] B))):=lq_ (by kernel_rfl)
theorem ZxU:ZrB m0 x2 x3 x4 x5 x50 x51 x52 B =
 mk (ob (xidx 2 x50 x52) fun a =>
 ob (ldN true 2 a B) fun b =>
 bz PP 61 B fun c d =>
 stN 2 c b d fun e =>
 mk (ob (xfld 0 c) fun f =>
 ob (ldN false 1 f e) fun g =>
 ob (Z1J (shr x4)) fun h =>
 ob (xfld 2 h) fun i =>
 ob (ldN false 1 i e) fun j =>
 ob (xbin PP .gtr 3 g j) fun k =>
 asB k fun l => br l (mk (ob (xfld 1 c) fun n =>
 ob (ldN false 1 n e) fun o =>
 callS false EE 21 [(shr x4),(iv 26),o] e fun p q =>
 ZnQ m0 x2 x3 x4 x5 x50 x51 x52 (gcB m0 [x2,x3,x4,x5,x50,x51,x52] q)))
 (ZnQ m0 x2 x3 x4 x5 x50 x51 x52 (gcB m0 [x2,x3,x4,x5,x50,x51,x52] e)))):=by kernel_rfl
theorem ZxW:ZrC m0 x2 x3 x4 x5 B =
 mk (ob (Z1J (shr x4)) fun a =>
 ob (xfld 5 a) fun b =>
 ob (xfld 0 b) fun c =>
 ob (ldN false 1 c B) fun d =>
 ob (xbin PP .neq 24 d (iv 0)) fun e =>
 asB e fun f => br f (mk (ob (Z1I PP 33 []) fun g =>
 ob (Z1J (shr x4)) fun h =>
 ob (xfld 5 h) fun i =>
 ob (ldN true 2 i B) fun j =>
 stN 9 x2 g B fun k =>
 stN 2 x3 j k fun l =>
 grd (ZbB i x2) (ZrE x2 x3 l)))
 (ZrD m0 x2 x3 x4 x5 (gcB m0 [x2,x3,x4,x5] B))):=by kernel_rfl
theorem ZxV:ZnQ m0 x2 x3 x4 x5 x50 x51 x52 B =
 mk (ob (xbin PP .add 3 x52 (iv 1)) fun a =>
 Zmw m0 x2 x3 x4 x5 x50 x51 (shr a) (gcB m0 [x2,x3,x4,x5,x50,x51,(shr a)] B)):=by kernel_rfl
theorem ZxX:ZrD m0 x2 x3 x4 x5 B =
 mk (ob (Z1J (shr x4)) fun a =>
 ob (xfld 2 a) fun b =>
 ob (ldN false 1 b B) fun c =>
 ob (xfld 7 x5) fun d =>
 stN 1 d c B fun e =>
 mk (ob (ldN true 9 x5 e) fun f =>
 ob (Z1I PP 35 []) fun g =>
 stN 9 x2 f e fun h =>
 stN 2 x3 g h fun i =>
 ZrE x2 x3 i)):=by kernel_rfl
theorem ZFy:EE 10 [x0] B =
 (let m0:=B.length
 mk (bz PP 33 B fun a b =>
 bz PP 35 b fun c d =>
 mk (ob (xlen PP 9 (shr x0)) fun e =>
 ob (xbin PP .gtr 3 e (iv 256)) fun f =>
 asB f fun g => br g (mk (ob (Z1I PP 33 []) fun h =>
 ob (Z1I PP 35 [(0,(iv 12))]) fun i =>
 stN 9 a h d fun j =>
 stN 2 c i j fun k =>
 ZrE a c k))
 (Ztr m0 x0 a c (gcB m0 [x0,a,c] d))))):=(E_eq PP XX HH _ _ _).trans (by kernel_rfl)
def ZE8:=Z2K Tryd.f11
def ZiL:=l2 (l2 (l2 ZE8))
def ZpH:=l1 (l1 (l2 (l1 (l2 (l2 ZE8)))))
def Zkq (m0:Nat):Kont:=kret PP HH 11 Tryd.f11.results
def ZFC:=kseq HH 11 m0 ZiL (exec PP HH 11 m0 EE LL ZiL (Zkq m0)) (Zkq m0)
def Ztu:=kblk 0 (ZFC m0)
def ZFD:=kloop HH 11 m0 ZpH (LL 11 m0 ZpH (Ztu m0)) (Ztu m0)
def ZFE:=kseq HH 11 m0 (l2 ZiL) (exec PP HH 11 m0 EE LL (l2 ZiL) (Zkq m0)) (Zkq m0)
def ZFF:=kblk 2 (ZFE m0)
def Zmy:=lp (LL 11 m0 ZpH (Ztu m0) [(1,x1),(3,x3),(8,x8),(9,x9),(10,x10)] B)
def Ztv:=exec PP HH 11 m0 EE LL (l2 (l2 ZpH)) (ZFD m0) [(1,x1),(3,x3),(8,x8),(9,x9),(10,x10)] B
def Ztw:=exec PP HH 11 m0 EE LL ZiL (Zkq m0) [(1,x1),(3,x3)] B
def Z4f:=exec PP HH 11 m0 EE LL (l2 ZiL) (Zkq m0) [(3,x3)] B
def Z5K:=exec PP HH 11 m0 EE LL (l2 (l2 (l2 (l1 (l2 (l2 (l2 (l2 (l2 (l2 (l2 (l1 (l2 (l1 ZiL)))))))))))))) (ZFF m0) [(1,x1),(3,x3)] B
theorem ZzU:Zmy m0 x1 x3 x8 x9 x10 B =
 mk (ob (xbin PP .lss 3 x10 x9) fun a =>
 asB a fun b => br b (Ztv m0 x1 x3 x8 x9 x10 (gcB m0 [x1,x3,x8,x9,x10] B))
 (Ztw m0 x1 x3 (gcB m0 [x1,x3] B))):=lq_ (by kernel_rfl)
theorem ZzV:Ztv m0 x1 x3 x8 x9 x10 B =
 mk (ob (xidx 7 x8 x10) fun a =>
 ob (ldN true 7 a B) fun b =>
 bz PP 31 B fun c d =>
 stN 7 c b d fun e =>
 mk (ob (ldN true 7 c e) fun f =>
 callS false EE 11 [f] e fun g h =>
 ob (xbin PP .add 3 (shr x3) g) fun i =>
 ob (Z7J PP false [i,(iv 1048576)]) fun j =>
 mk (ob (xbin PP .add 3 x10 (iv 1)) fun k =>
 Zmy m0 x1 (shr j) x8 x9 (shr k) (gcB m0 [x1,(shr j),x8,x9,(shr k)] h)))):=by kernel_rfl
theorem ZzW:Ztw m0 x1 x3 B =
 mk (ob (xfld 0 x1) fun a =>
 ob (ldN false 1 a B) fun b =>
 mk (ob (xbin PP .eql 3 b (iv 1)) fun c =>
 asB (shr c) fun d => br d (asB (shr c) fun e => br e (mk (Z1B (iv 1) B))
 (mk (ob (xbin PP .eql 3 b (iv 3)) fun f =>
 asB (shr f) fun g => br g (mk (ob (xfld 6 x1) fun h =>
 ob (ldN false 1 h B) fun i =>
 ob (xlen PP 29 i) fun j =>
 ob (xbin PP .sub 3 j (iv 1)) fun k =>
 ob (xbin PP .mul 3 (iv 2) k) fun l =>
 ob (xbin PP .add 3 (shr x3) l) fun n =>
 Z4f m0 (shr n) (gcB m0 [(shr n)] B)))
 (mk (ob (xbin PP .eql 3 b (iv 5)) fun o =>
 asB (shr o) fun p => br p (asB (shr o) fun q => br q (mk (ob (xbin PP .add 3 (shr x3) (iv 2)) fun r =>
 Z4f m0 (shr r) (gcB m0 [(shr r)] B)))
 (mk (ob (xbin PP .eql 3 b (iv 4)) fun s =>
 asB (shr s) fun t => br t (mk (mk (ob (xfld 1 x1) fun u =>
 ob (ldN false 1 u B) fun v =>
 ob (xbin PP .mul 3 v (shr (shr (shr x3)))) fun w =>
 mk (ob (xfld 2 x1) fun x =>
 ob (ldN false 1 x B) fun y =>
 ob (xbin PP .lss 3 y (iv 0)) fun z =>
 asB z fun A => br A (mk (ob (xbin PP .add 3 (shr (shr (shr x3))) (iv 4)) fun C =>
 ob (xbin PP .add 3 (shr (shr w)) C) fun D =>
 Z5K m0 x1 (shr D) (gcB m0 [x1,(shr D)] B)))
 (mk (ob (xfld 2 x1) fun F =>
 ob (ldN false 1 F B) fun G =>
 ob (xfld 1 x1) fun I =>
 ob (ldN false 1 I B) fun J =>
 ob (xbin PP .sub 3 G J) fun M =>
 ob (xbin PP .add 3 (shr (shr (shr x3))) (iv 1)) fun N =>
 ob (xbin PP .mul 3 M N) fun O =>
 ob (xbin PP .add 3 (shr (shr w)) O) fun Q =>
 Z5K m0 x1 (shr Q) (gcB m0 [x1,(shr Q)] B)))))))
 (Z4f m0 x3 (gcB m0 [x3] B)))))
 (mk (ob (xbin PP .eql 3 b (iv 7)) fun R =>
 asB (shr R) fun S => br S (asB (shr R) fun T => br T (mk (ob (xbin PP .add 3 (shr x3) (iv 2)) fun U =>
 Z4f m0 (shr U) (gcB m0 [(shr U)] B)))
 (mk (ob (xbin PP .eql 3 b (iv 4)) fun V =>
 asB (shr V) fun W => br W (mk (mk (ob (xfld 1 x1) fun Y =>
 ob (ldN false 1 Y B) fun Z =>
 ob (xbin PP .mul 3 Z (shr (shr (shr x3)))) fun a0 =>
 mk (ob (xfld 2 x1) fun a1 =>
 ob (ldN false 1 a1 B) fun a2 =>
 ob (xbin PP .lss 3 a2 (iv 0)) fun a3 =>
 asB a3 fun a4 => br a4 (mk (ob (xbin PP .add 3 (shr (shr (shr x3))) (iv 4)) fun a5 =>
 ob (xbin PP .add 3 (shr (shr a0)) a5) fun a6 =>
 Z5K m0 x1 (shr a6) (gcB m0 [x1,(shr a6)] B)))
 (mk (ob (xfld 2 x1) fun a7 =>
 ob (ldN false 1 a7 B) fun a8 =>
 ob (xfld 1 x1) fun a9 =>
 ob (ldN false 1 a9 B) fun a10 =>
 ob (xbin PP .sub 3 a8 a10) fun a11 =>
 ob (xbin PP .add 3 (shr (shr (shr x3))) (iv 1)) fun a12 =>
 ob (xbin PP .mul 3 a11 a12) fun a13 =>
 ob (xbin PP .add 3 (shr (shr a0)) a13) fun a14 =>
 Z5K m0 x1 (shr a14) (gcB m0 [x1,(shr a14)] B)))))))
 (Z4f m0 x3 (gcB m0 [x3] B)))))
 (mk (ob (xbin PP .eql 3 b (iv 8)) fun a15 =>
 asB (shr a15) fun a16 => br a16 (mk (ob (xbin PP .add 3 (shr x3) (iv 2)) fun a17 =>
 Z4f m0 (shr a17) (gcB m0 [(shr a17)] B)))
 (mk (ob (xbin PP .eql 3 b (iv 4)) fun a18 =>
 asB (shr a18) fun a19 => br a19 (mk (mk (ob (xfld 1 x1) fun a20 =>
 ob (ldN false 1 a20 B) fun a21 =>
 ob (xbin PP .mul 3 a21 (shr (shr (shr x3)))) fun a22 =>
 mk (ob (xfld 2 x1) fun a23 =>
 ob (ldN false 1 a23 B) fun a24 =>
 ob (xbin PP .lss 3 a24 (iv 0)) fun a25 =>
 asB a25 fun a26 => br a26 (mk (ob (xbin PP .add 3 (shr (shr (shr x3))) (iv 4)) fun a27 =>
 ob (xbin PP .add 3 (shr (shr a22)) a27) fun a28 =>
 Z5K m0 x1 (shr a28) (gcB m0 [x1,(shr a28)] B)))
 (mk (ob (xfld 2 x1) fun a29 =>
 ob (ldN false 1 a29 B) fun a30 =>
 ob (xfld 1 x1) fun a31 =>
 ob (ldN false 1 a31 B) fun a32 =>
 ob (xbin PP .sub 3 a30 a32) fun a33 =>
 ob (xbin PP .add 3 (shr (shr (shr x3))) (iv 1)) fun a34 =>
 ob (xbin PP .mul 3 a33 a34) fun a35 =>
 ob (xbin PP .add 3 (shr (shr a22)) a35) fun a36 =>
 Z5K m0 x1 (shr a36) (gcB m0 [x1,(shr a36)] B)))))))
 (Z4f m0 x3 (gcB m0 [x3] B)))))))))))))
 (mk (ob (xbin PP .eql 3 b (iv 6)) fun a37 =>
 asB (shr a37) fun a38 => br a38 (asB (shr a37) fun a39 => br a39 (mk (Z1B (iv 1) B))
 (mk (ob (xbin PP .eql 3 b (iv 3)) fun a40 =>
 asB (shr a40) fun a41 => br a41 (mk (ob (xfld 6 x1) fun a42 =>
 ob (ldN false 1 a42 B) fun a43 =>
 ob (xlen PP 29 a43) fun a44 =>
 ob (xbin PP .sub 3 a44 (iv 1)) fun a45 =>
 ob (xbin PP .mul 3 (iv 2) a45) fun a46 =>
 ob (xbin PP .add 3 (shr x3) a46) fun a47 =>
 Z4f m0 (shr a47) (gcB m0 [(shr a47)] B)))
 (mk (ob (xbin PP .eql 3 b (iv 5)) fun a48 =>
 asB (shr a48) fun a49 => br a49 (asB (shr a48) fun a50 => br a50 (mk (ob (xbin PP .add 3 (shr x3) (iv 2)) fun a51 =>
 Z4f m0 (shr a51) (gcB m0 [(shr a51)] B)))
 (mk (ob (xbin PP .eql 3 b (iv 4)) fun a52 =>
 asB (shr a52) fun a53 => br a53 (mk (mk (ob (xfld 1 x1) fun a54 =>
 ob (ldN false 1 a54 B) fun a55 =>
 ob (xbin PP .mul 3 a55 (shr (shr (shr x3)))) fun a56 =>
 mk (ob (xfld 2 x1) fun a57 =>
 ob (ldN false 1 a57 B) fun a58 =>
 ob (xbin PP .lss 3 a58 (iv 0)) fun a59 =>
 asB a59 fun a60 => br a60 (mk (ob (xbin PP .add 3 (shr (shr (shr x3))) (iv 4)) fun a61 =>
 ob (xbin PP .add 3 (shr (shr a56)) a61) fun a62 =>
 Z5K m0 x1 (shr a62) (gcB m0 [x1,(shr a62)] B)))
 (mk (ob (xfld 2 x1) fun a63 =>
 ob (ldN false 1 a63 B) fun a64 =>
 ob (xfld 1 x1) fun a65 =>
 ob (ldN false 1 a65 B) fun a66 =>
 ob (xbin PP .sub 3 a64 a66) fun a67 =>
 ob (xbin PP .add 3 (shr (shr (shr x3))) (iv 1)) fun a68 =>
 ob (xbin PP .mul 3 a67 a68) fun a69 =>
 ob (xbin PP .add 3 (shr (shr a56)) a69) fun a70 =>
 Z5K m0 x1 (shr a70) (gcB m0 [x1,(shr a70)] B)))))))
 (Z4f m0 x3 (gcB m0 [x3] B)))))
 (mk (ob (xbin PP .eql 3 b (iv 7)) fun a71 =>
 asB (shr a71) fun a72 => br a72 (asB (shr a71) fun a73 => br a73 (mk (ob (xbin PP .add 3 (shr x3) (iv 2)) fun a74 =>
 Z4f m0 (shr a74) (gcB m0 [(shr a74)] B)))
 (mk (ob (xbin PP .eql 3 b (iv 4)) fun a75 =>
 asB (shr a75) fun a76 => br a76 (mk (mk (ob (xfld 1 x1) fun a77 =>
 ob (ldN false 1 a77 B) fun a78 =>
 ob (xbin PP .mul 3 a78 (shr (shr (shr x3)))) fun a79 =>
 mk (ob (xfld 2 x1) fun a80 =>
 ob (ldN false 1 a80 B) fun a81 =>
 ob (xbin PP .lss 3 a81 (iv 0)) fun a82 =>
 asB a82 fun a83 => br a83 (mk (ob (xbin PP .add 3 (shr (shr (shr x3))) (iv 4)) fun a84 =>
 ob (xbin PP .add 3 (shr (shr a79)) a84) fun a85 =>
 Z5K m0 x1 (shr a85) (gcB m0 [x1,(shr a85)] B)))
 (mk (ob (xfld 2 x1) fun a86 =>
 ob (ldN false 1 a86 B) fun a87 =>
 ob (xfld 1 x1) fun a88 =>
 ob (ldN false 1 a88 B) fun a89 =>
 ob (xbin PP .sub 3 a87 a89) fun a90 =>
 ob (xbin PP .add 3 (shr (shr (shr x3))) (iv 1)) fun a91 =>
 ob (xbin PP .mul 3 a90 a91) fun a92 =>
 ob (xbin PP .add 3 (shr (shr a79)) a92) fun a93 =>
 Z5K m0 x1 (shr a93) (gcB m0 [x1,(shr a93)] B)))))))
 (Z4f m0 x3 (gcB m0 [x3] B)))))
 (mk (ob (xbin PP .eql 3 b (iv 8)) fun a94 =>
 asB (shr a94) fun a95 => br a95 (mk (ob (xbin PP .add 3 (shr x3) (iv 2)) fun a96 =>
 Z4f m0 (shr a96) (gcB m0 [(shr a96)] B)))
 (mk (ob (xbin PP .eql 3 b (iv 4)) fun a97 =>
 asB (shr a97) fun a98 => br a98 (mk (mk (ob (xfld 1 x1) fun a99 =>
 ob (ldN false 1 a99 B) fun a100 =>
 ob (xbin PP .mul 3 a100 (shr (shr (shr x3)))) fun a101 =>
 mk (ob (xfld 2 x1) fun a102 =>
 ob (ldN false 1 a102 B) fun a103 =>
 ob (xbin PP .lss 3 a103 (iv 0)) fun a104 =>
 asB a104 fun a105 => br a105 (mk (ob (xbin PP .add 3 (shr (shr (shr x3))) (iv 4)) fun a106 =>
 ob (xbin PP .add 3 (shr (shr a101)) a106) fun a107 =>
 Z5K m0 x1 (shr a107) (gcB m0 [x1,(shr a107)] B)))
 (mk (ob (xfld 2 x1) fun a108 =>
 ob (ldN false 1 a108 B) fun a109 =>
 ob (xfld 1 x1) fun a110 =>
 ob (ldN false 1 a110 B) fun a111 =>
 ob (xbin PP .sub 3 a109 a111) fun a112 =>
 ob (xbin PP .add 3 (shr (shr (shr x3))) (iv 1)) fun a113 =>
 ob (xbin PP .mul 3 a112 a113) fun a114 =>
 ob (xbin PP .add 3 (shr (shr a101)) a114) fun a115 =>
 Z5K m0 x1 (shr a115) (gcB m0 [x1,(shr a115)] B)))))))
 (Z4f m0 x3 (gcB m0 [x3] B)))))))))))))
 (mk (ob (xbin PP .eql 3 b (iv 9)) fun a116 =>
 asB (shr a116) fun a117 => br a117 (mk (Z1B (iv 1) B))
 (mk (ob (xbin PP .eql 3 b (iv 3)) fun a118 =>
 asB (shr a118) fun a119 => br a119 (mk (ob (xfld 6 x1) fun a120 =>
 ob (ldN false 1 a120 B) fun a121 =>
 ob (xlen PP 29 a121) fun a122 =>
 ob (xbin PP .sub 3 a122 (iv 1)) fun a123 =>
 ob (xbin PP .mul 3 (iv 2) a123) fun a124 =>
 ob (xbin PP .add 3 (shr x3) a124) fun a125 =>
 Z4f m0 (shr a125) (gcB m0 [(shr a125)] B)))
 (mk (ob (xbin PP .eql 3 b (iv 5)) fun a126 =>
 asB (shr a126) fun a127 => br a127 (asB (shr a126) fun a128 => br a128 (mk (ob (xbin PP .add 3 (shr x3) (iv 2)) fun a129 =>
 Z4f m0 (shr a129) (gcB m0 [(shr a129)] B)))
 (mk (ob (xbin PP .eql 3 b (iv 4)) fun a130 =>
 asB (shr a130) fun a131 => br a131 (mk (mk (ob (xfld 1 x1) fun a132 =>
 ob (ldN false 1 a132 B) fun a133 =>
 ob (xbin PP .mul 3 a133 (shr (shr (shr x3)))) fun a134 =>
 mk (ob (xfld 2 x1) fun a135 =>
 ob (ldN false 1 a135 B) fun a136 =>
 ob (xbin PP .lss 3 a136 (iv 0)) fun a137 =>
 asB a137 fun a138 => br a138 (mk (ob (xbin PP .add 3 (shr (shr (shr x3))) (iv 4)) fun a139 =>
 ob (xbin PP .add 3 (shr (shr a134)) a139) fun a140 =>
 Z5K m0 x1 (shr a140) (gcB m0 [x1,(shr a140)] B)))
 (mk (ob (xfld 2 x1) fun a141 =>
 ob (ldN false 1 a141 B) fun a142 =>
 ob (xfld 1 x1) fun a143 =>
 ob (ldN false 1 a143 B) fun a144 =>
 ob (xbin PP .sub 3 a142 a144) fun a145 =>
 ob (xbin PP .add 3 (shr (shr (shr x3))) (iv 1)) fun a146 =>
 ob (xbin PP .mul 3 a145 a146) fun a147 =>
 ob (xbin PP .add 3 (shr (shr a134)) a147) fun a148 =>
 Z5K m0 x1 (shr a148) (gcB m0 [x1,(shr a148)] B)))))))
 (Z4f m0 x3 (gcB m0 [x3] B)))))
 (mk (ob (xbin PP .eql 3 b (iv 7)) fun a149 =>
 asB (shr a149) fun a150 => br a150 (asB (shr a149) fun a151 => br a151 (mk (ob (xbin PP .add 3 (shr x3) (iv 2)) fun a152 =>
 Z4f m0 (shr a152) (gcB m0 [(shr a152)] B)))
 (mk (ob (xbin PP .eql 3 b (iv 4)) fun a153 =>
 asB (shr a153) fun a154 => br a154 (mk (mk (ob (xfld 1 x1) fun a155 =>
 ob (ldN false 1 a155 B) fun a156 =>
 ob (xbin PP .mul 3 a156 (shr (shr (shr x3)))) fun a157 =>
 mk (ob (xfld 2 x1) fun a158 =>
 ob (ldN false 1 a158 B) fun a159 =>
 ob (xbin PP .lss 3 a159 (iv 0)) fun a160 =>
 asB a160 fun a161 => br a161 (mk (ob (xbin PP .add 3 (shr (shr (shr x3))) (iv 4)) fun a162 =>
 ob (xbin PP .add 3 (shr (shr a157)) a162) fun a163 =>
 Z5K m0 x1 (shr a163) (gcB m0 [x1,(shr a163)] B)))
 (mk (ob (xfld 2 x1) fun a164 =>
 ob (ldN false 1 a164 B) fun a165 =>
 ob (xfld 1 x1) fun a166 =>
 ob (ldN false 1 a166 B) fun a167 =>
 ob (xbin PP .sub 3 a165 a167) fun a168 =>
 ob (xbin PP .add 3 (shr (shr (shr x3))) (iv 1)) fun a169 =>
 ob (xbin PP .mul 3 a168 a169) fun a170 =>
 ob (xbin PP .add 3 (shr (shr a157)) a170) fun a171 =>
 Z5K m0 x1 (shr a171) (gcB m0 [x1,(shr a171)] B)))))))
 (Z4f m0 x3 (gcB m0 [x3] B)))))
 (mk (ob (xbin PP .eql 3 b (iv 8)) fun a172 =>
 asB (shr a172) fun a173 => br a173 (mk (ob (xbin PP .add 3 (shr x3) (iv 2)) fun a174 =>
 Z4f m0 (shr a174) (gcB m0 [(shr a174)] B)))
 (mk (ob (xbin PP .eql 3 b (iv 4)) fun a175 =>
 asB (shr a175) fun a176 => br a176 (mk (mk (ob (xfld 1 x1) fun a177 =>
 ob (ldN false 1 a177 B) fun a178 =>
 ob (xbin PP .mul 3 a178 (shr (shr (shr x3)))) fun a179 =>
 mk (ob (xfld 2 x1) fun a180 =>
 ob (ldN false 1 a180 B) fun a181 =>
 ob (xbin PP .lss 3 a181 (iv 0)) fun a182 =>
 asB a182 fun a183 => br a183 (mk (ob (xbin PP .add 3 (shr (shr (shr x3))) (iv 4)) fun a184 =>
 ob (xbin PP .add 3 (shr (shr a179)) a184) fun a185 =>
 Z5K m0 x1 (shr a185) (gcB m0 [x1,(shr a185)] B)))
 (mk (ob (xfld 2 x1) fun a186 =>
 ob (ldN false 1 a186 B) fun a187 =>
 ob (xfld 1 x1) fun a188 =>
 ob (ldN false 1 a188 B) fun a189 =>
 ob (xbin PP .sub 3 a187 a189) fun a190 =>
 ob (xbin PP .add 3 (shr (shr (shr x3))) (iv 1)) fun a191 =>
 ob (xbin PP .mul 3 a190 a191) fun a192 =>
 ob (xbin PP .add 3 (shr (shr a179)) a192) fun a193 =>
 Z5K m0 x1 (shr a193) (gcB m0 [x1,(shr a193)] B)))))))
 (Z4f m0 x3 (gcB m0 [x3] B)))))))))))))))))):=by kernel_rfl
theorem ZxZ:Z4f m0 x3 B =
 mk (ob (Z7J PP false [(shr x3),(iv 1048576)]) fun a =>
 Z1B (shr a) B):=by kernel_rfl
theorem ZxY:Z5K m0 x1 x3 B =
 mk (ob (xfld 3 x1) fun a =>
 ob (ldN false 1 a B) fun b =>
 ob (xbin PP .eql 3 b (iv 2)) fun c =>
 asB c fun d => br d (mk (ob (xbin PP .add 3 (shr x3) (iv 2)) fun e =>
 Z4f m0 (shr e) (gcB m0 [(shr e)] B)))
 (Z4f m0 x3 (gcB m0 [x3] B))):=by kernel_rfl
theorem ZFB:EE 11 [x0] B =
 (let m0:=B.length
 mk (bx x0 B fun a b =>
 mk (mk (ob (xfld 6 a) fun c =>
 ob (ldN false 1 c b) fun d =>
 ob (xlen PP 29 d) fun e =>
 Zmy m0 a (iv 0) d e (iv 0) (gcB m0 [a,(iv 0),d,e,(iv 0)] b))))):=(E_eq PP XX HH _ _ _).trans (by kernel_rfl)
def ZE9:=Z2K Tryd.f12
def ZtF:=l2 (l2 (l2 ZE9))
def ZpK:=l1 (l1 (l2 (l1 (l2 (l2 ZE9)))))
def Zkr:=l2 (l2 ZpK)
def ZtE:=l2 (l2 (l1 (l1 Zkr)))
def Ztx (m0:Nat):Kont:=kret PP HH 12 Tryd.f12.results
def ZFH:=kseq HH 12 m0 ZtF (exec PP HH 12 m0 EE LL ZtF (Ztx m0)) (Ztx m0)
def Zty:=kblk 0 (ZFH m0)
def ZpI:=kloop HH 12 m0 ZpK (LL 12 m0 ZpK (Zty m0)) (Zty m0)
def ZFI:=kseq HH 12 m0 (l2 Zkr) (exec PP HH 12 m0 EE LL (l2 Zkr) (ZpI m0)) (ZpI m0)
def Ztz:=kblk 1 (ZFI m0)
def ZFJ:=kseq HH 12 m0 ZtE (exec PP HH 12 m0 EE LL ZtE (Ztz m0)) (Ztz m0)
def Zmz:=lp (LL 12 m0 ZpK (Zty m0) [(3,x3),(6,x6),(7,x7),(8,x8)] B)
def ZtA:=exec PP HH 12 m0 EE LL Zkr (ZpI m0) [(3,x3),(6,x6),(7,x7),(8,x8)] B
def ZtD:=exec PP HH 12 m0 EE LL ZtF (Ztx m0) [] B
def ZpJ:=exec PP HH 12 m0 EE LL (l1 (l2 (l1 (l2 (l1 (l1 Zkr)))))) (ZFJ m0) [] B
def ZtB:=exec PP HH 12 m0 EE LL ZtE (Ztz m0) [(5,x5),(6,x6),(7,x7),(8,x8)] B
def ZtC:=exec PP HH 12 m0 EE LL (l2 Zkr) (ZpI m0) [(3,x3),(6,x6),(7,x7),(8,x8)] B
theorem ZzX:Zmz m0 x3 x6 x7 x8 B =
 mk (ob (xbin PP .lss 3 x8 x7) fun a =>
 asB a fun b => br b (ZtA m0 x3 x6 x7 x8 (gcB m0 [x3,x6,x7,x8] B))
 (ZtD m0 (gcB m0 [] B))):=lq_ (by kernel_rfl)
theorem ZzY:ZtA m0 x3 x6 x7 x8 B =
 mk (ob (xidx 2 x6 x8) fun a =>
 ob (ldN true 2 a B) fun b =>
 bz PP 47 B fun c d =>
 stN 2 c b d fun e =>
 mk (ob (ldN true 2 c e) fun f =>
 callS false EE 22 [f] e fun g h =>
 ob (xun PP .not g) fun i =>
 asB (shr i) fun j => br j (ZpJ m0 (gcB m0 [] h))
 (ob (xfld 0 c) fun k =>
 ob (ldN false 1 k h) fun l =>
 ob (xbin PP .add 3 (shr x3) (iv 2)) fun n =>
 ob (xbin PP .lss 3 l n) fun o =>
 asB (shr o) fun p => br p (ZpJ m0 (gcB m0 [] h))
 (ZtB m0 c x6 x7 x8 (gcB m0 [c,x6,x7,x8] h))))):=by kernel_rfl
theorem ZA2:ZtD m0 B =
 mk (Z1B (bv true) B):=by kernel_rfl
theorem ZzZ:ZpJ m0 B =
 mk (Z1B (bv false) B):=by kernel_rfl
theorem ZA0:ZtB m0 x5 x6 x7 x8 B =
 mk (ob (xfld 1 x5) fun a =>
 ob (ldN false 1 a B) fun b =>
 ZtC m0 (shr b) x6 x7 x8 (gcB m0 [(shr b),x6,x7,x8] B)):=by kernel_rfl
theorem ZA1:ZtC m0 x3 x6 x7 x8 B =
 mk (ob (xbin PP .add 3 x8 (iv 1)) fun a =>
 Zmz m0 x3 x6 x7 (shr a) (gcB m0 [x3,x6,x7,(shr a)] B)):=by kernel_rfl
theorem ZFG:EE 12 [x0] B =
 (let m0:=B.length
 mk (mk (mk (ob (xlen PP 28 (shr x0)) fun a =>
 Zmz m0 (iv (-2)) (shr x0) a (iv 0) (gcB m0 [(iv (-2)),(shr x0),a,(iv 0)] B))))):=(E_eq PP XX HH _ _ _).trans (by kernel_rfl)
def ZEa:=Z2K Tryd.f13
def ZtK:=l2 (l2 (l2 ZEa))
def ZpM:=l1 (l1 (l2 (l1 (l2 (l2 ZEa)))))
def ZA8:=l2 (l2 ZpM)
def ZtG (m0:Nat):Kont:=kret PP HH 13 Tryd.f13.results
def ZFL:=kseq HH 13 m0 ZtK (exec PP HH 13 m0 EE LL ZtK (ZtG m0)) (ZtG m0)
def ZtH:=kblk 0 (ZFL m0)
def ZA3:=kloop HH 13 m0 ZpM (LL 13 m0 ZpM (ZtH m0)) (ZtH m0)
def ZmA:=lp (LL 13 m0 ZpM (ZtH m0) [(3,x3),(6,x6),(7,x7),(8,x8)] B)
def ZtI:=exec PP HH 13 m0 EE LL ZA8 (ZA3 m0) [(3,x3),(6,x6),(7,x7),(8,x8)] B
def ZtJ:=exec PP HH 13 m0 EE LL ZtK (ZtG m0) [(3,x3)] B
def ZpL:=exec PP HH 13 m0 EE LL (l2 ZA8) (ZA3 m0) [(3,x3),(6,x6),(7,x7),(8,x8)] B
theorem ZA4:ZmA m0 x3 x6 x7 x8 B =
 mk (ob (xbin PP .lss 3 x8 x7) fun a =>
 asB a fun b => br b (ZtI m0 x3 x6 x7 x8 (gcB m0 [x3,x6,x7,x8] B))
 (ZtJ m0 x3 (gcB m0 [x3] B))):=lq_ (by kernel_rfl)
theorem ZA5:ZtI m0 x3 x6 x7 x8 B =
 mk (ob (xidx 6 x6 x8) fun a =>
 ob (ldN true 6 a B) fun b =>
 bz PP 40 B fun c d =>
 stN 6 c b d fun e =>
 mk (ob (xfld 0 c) fun f =>
 ob (ldN false 1 f e) fun g =>
 ob (xbin PP .eql 3 g (iv 10)) fun h =>
 asB h fun i => br i (mk (ob (xbin PP .add 3 (shr x3) (iv 1)) fun j =>
 ZpL m0 (shr j) x6 x7 x8 (gcB m0 [(shr j),x6,x7,x8] e)))
 (ZpL m0 x3 x6 x7 x8 (gcB m0 [x3,x6,x7,x8] e)))):=by kernel_rfl
theorem ZA7:ZtJ m0 x3 B =
 mk (Z1B (shr (shr x3)) B):=by kernel_rfl
theorem ZA6:ZpL m0 x3 x6 x7 x8 B =
 mk (ob (xbin PP .add 3 x8 (iv 1)) fun a =>
 ZmA m0 x3 x6 x7 (shr a) (gcB m0 [x3,x6,x7,(shr a)] B)):=by kernel_rfl
theorem ZFK:EE 13 [x0] B =
 (let m0:=B.length
 mk (mk (mk (ob (xlen PP 23 (shr x0)) fun a =>
 ZmA m0 (iv 0) (shr x0) a (iv 0) (gcB m0 [(iv 0),(shr x0),a,(iv 0)] B))))):=(E_eq PP XX HH _ _ _).trans (by kernel_rfl)
def ZI4:=Z2K Tryd.f14
def ZtP:=l2 (l2 ZI4)
def ZtQ:=l2 (l2 ZtP)
def ZgI:=l1 (l1 (l2 (l1 (l2 ZtP))))
def Z5o (r0 r1:AV) (B:List Row):Option Res :=
 ob (ob (some r0) fun v => ob (ob (some r1) fun v => ob (some []) fun vs => some (v :: vs)) fun vs => some (v :: vs)) fun vs => some ((nrmA (match vs with | [v] => v | vs => Z98 (vs.map shr))),B)
def ZpN (m0:Nat):Kont:=kret PP HH 14 Tryd.f14.results
def ZFN:=kseq HH 14 m0 ZtQ (exec PP HH 14 m0 EE LL ZtQ (ZpN m0)) (ZpN m0)
def ZtL:=kblk 0 (ZFN m0)
def ZpO:=kloop HH 14 m0 ZgI (LL 14 m0 ZgI (ZtL m0)) (ZtL m0)
def ZFO:=kseq HH 14 m0 (l2 (l2 ZgI)) (exec PP HH 14 m0 EE LL (l2 (l2 ZgI)) (ZpO m0)) (ZpO m0)
def ZFP:=kblk 1 (ZFO m0)
def ZtM:=exec PP HH 14 m0 EE LL ZtP (ZpN m0) [(0,x0)] B
def ZmB:=lp (LL 14 m0 ZgI (ZtL m0) [(0,x0),(4,x4),(5,x5)] B)
def ZtN:=exec PP HH 14 m0 EE LL (l2 ZgI) (ZpO m0) [(0,x0),(4,x4),(5,x5)] B
def ZtO:=exec PP HH 14 m0 EE LL ZtQ (ZpN m0) [(4,x4)] B
def ZpQ:=exec PP HH 14 m0 EE LL (l1 (l2 (l1 (l1 (l2 ZgI))))) (ZFP m0) [(0,x0),(4,x4),(5,x5)] B
def ZpP:=exec PP HH 14 m0 EE LL (l2 (l2 ZgI)) (ZpO m0) [(0,x0),(4,x4),(5,x5)] B
theorem ZAa:ZtM m0 x0 B =
 mk (callS true EE 23 [x0] B fun a b =>
 mk (ZmB m0 (shr x0) a (kv .i32 65) (gcB m0 [(shr x0),a,(kv .i32 65)] b))):=by kernel_rfl
theorem ZA9:ZmB m0 x0 x4 x5 B =
 mk (ob (xbin PP .lss 21 (shr x5) (kv .i32 91)) fun a =>
 asB a fun b => br b (ZtN m0 x0 x4 x5 (gcB m0 [x0,x4,x5] B))
 (ZtO m0 x4 (gcB m0 [x4] B))):=lq_ (by kernel_rfl)
theorem ZAc:ZtN m0 x0 x4 x5 B =
 mk (ob (xcnv PP 21 3 (shr x5)) fun a =>
 callS false EE 24 [(shr x0),a] B fun b c =>
 asB (shr b) fun d => br d (ZpQ m0 x0 x4 x5 (gcB m0 [x0,x4,x5] c))
 (ob (xbin PP .add 21 (shr x5) (kv .i32 32)) fun e =>
 ob (xcnv PP 21 3 e) fun f =>
 callS false EE 24 [(shr x0),f] c fun g h =>
 asB (shr g) fun i => br i (ZpQ m0 x0 x4 x5 (gcB m0 [x0,x4,x5] h))
 (ZpP m0 x0 x4 x5 (gcB m0 [x0,x4,x5] h)))):=by kernel_rfl
theorem ZAe:ZtO m0 x4 B =
 mk (callS false EE 25 [(shr x4)] B fun a b =>
 Z5o (shr a) (iv 0) b):=by kernel_rfl
theorem ZAd:ZpQ m0 x0 x4 x5 B =
 mk (ob (xcnv PP 21 3 (shr x5)) fun a =>
 ob (xcnv PP 21 3 (shr x5)) fun b =>
 ob (Z1I PP 47 [(0,a),(1,b)]) fun c =>
 ob (xbin PP .add 21 (shr x5) (kv .i32 32)) fun d =>
 ob (xcnv PP 21 3 d) fun e =>
 ob (xbin PP .add 21 (shr x5) (kv .i32 32)) fun f =>
 ob (xcnv PP 21 3 f) fun g =>
 ob (Z1I PP 47 [(0,e),(1,g)]) fun h =>
 ob (xlit PP 28 2 [(0,c),(1,h)]) fun i =>
 ob (xapp 2 x4 i) fun j =>
 ZpP m0 x0 j x5 (gcB m0 [x0,j,x5] B)):=by kernel_rfl
theorem ZAb:ZpP m0 x0 x4 x5 B =
 mk (ob (xbin PP .add 21 (shr x5) (kv .i32 1)) fun a =>
 ZmB m0 x0 x4 (shr a) (gcB m0 [x0,x4,(shr a)] B)):=by kernel_rfl
theorem ZFM:EE 14 [x0] B =
 (let m0:=B.length
 mk (mk (callS false EE 12 [(shr x0)] B fun a b =>
 ob (xun PP .not a) fun c =>
 asB c fun d => br d (mk (Z5o nilA (iv 10) b))
 (ZtM m0 x0 (gcB m0 [x0] b))))):=(E_eq PP XX HH _ _ _).trans (by kernel_rfl)
def ZI5:=Z2K Tryd.f17
def ZFR (m0:Nat):Kont:=kret PP HH 17 Tryd.f17.results
def ZtR:=exec PP HH 17 m0 EE LL (l2 (l2 ZI5)) (ZFR m0) [(0,x0)] B
theorem ZAf:ZtR m0 x0 B =
 mk (callS false EE 26 [(shr x0)] B fun a b =>
 Z5o (shr a) (iv 0) b):=by kernel_rfl
theorem ZFQ:EE 17 [x0] B =
 (let m0:=B.length
 mk (mk (callS false EE 12 [(shr x0)] B fun a b =>
 ob (xun PP .not a) fun c =>
 asB c fun d => br d (mk (Z5o nilA (iv 10) b))
 (ZtR m0 x0 (gcB m0 [x0] b))))):=(E_eq PP XX HH _ _ _).trans (by kernel_rfl)
def ZI6:=Z2K Tryd.f18
def ZFT (m0:Nat):Kont:=kret PP HH 18 Tryd.f18.results
def ZtS:=exec PP HH 18 m0 EE LL (l2 (l2 ZI6)) (ZFT m0) [(1,x1)] B
theorem ZAg:ZtS m0 x1 B =
 mk (ob (xfld 8 x1) fun a =>
 ob (ldN false 1 a B) fun b =>
 ob (Z1I PP 69 [(1,b)]) fun c =>
 bxM [(0,6)] c B fun d e =>
 mk (ob (Z1I PP 40 [(0,(iv 4))]) fun f =>
 callS false EE 28 [(shr (shr d)),f] e fun g h =>
 mk (ob (xfld 0 x1) fun i =>
 ob (ldN true 7 i h) fun j =>
 callS false EE 29 [(shr (shr d)),j] h fun k l =>
 mk (ob (Z1I PP 40 [(0,(iv 4)),(1,(iv 1))]) fun n =>
 callS false EE 28 [(shr (shr d)),n] l fun o p =>
 mk (ob (Z1I PP 40 [(0,(iv 0))]) fun q =>
 callS false EE 28 [(shr (shr d)),q] p fun r s =>
 mk (ob (Z1J (shr (shr d))) fun t =>
 ob (xfld 0 t) fun u =>
 ldFz u s fun v w =>
 Z5o (shr v) (iv 0) w)))))):=by kernel_rfl
theorem ZFS:EE 18 [x0] B =
 (let m0:=B.length
 mk (bx x0 B fun a b =>
 mk (ob (ldN true 9 a b) fun c =>
 callS false EE 27 [c] b fun d e =>
 mk (ob (xbin PP .neq 24 (shr (shr d)) (iv 0)) fun f =>
 asB f fun g => br g (mk (Z5o nilA (shr (shr (shr d))) e))
 (ZtS m0 a (gcB m0 [a] e)))))):=(E_eq PP XX HH _ _ _).trans (by kernel_rfl)
def ZEb:=Z2K Tryd.f19
def ZtV:=l2 (l2 ZEb)
def ZtT (m0:Nat):Kont:=kret PP HH 19 Tryd.f19.results
def ZFV:=kseq HH 19 m0 ZtV (exec PP HH 19 m0 EE LL ZtV (ZtT m0)) (ZtT m0)
def ZpR:=exec PP HH 19 m0 EE LL (l1 (l2 (l1 (l2 ZEb)))) (ZFV m0) [] B
def ZtU:=exec PP HH 19 m0 EE LL ZtV (ZtT m0) [(0,x0),(1,x1)] B
theorem ZAh:ZpR m0 B =
 mk (Z1B (bv false) B):=by kernel_rfl
theorem ZAi:ZtU m0 x0 x1 B =
 mk (ob (Z1J (shr x0)) fun a =>
 ob (xfld 1 a) fun b =>
 ob (ldN false 1 b B) fun c =>
 ob (xlen PP 9 (shr x1)) fun d =>
 ob (xbin PP .add 3 c d) fun e =>
 ob (Z1J (shr x0)) fun f =>
 ob (xfld 1 f) fun g =>
 stN 1 g e B fun h =>
 mk (Z1B (bv true) h)):=by kernel_rfl
theorem ZFU:EE 19 [x0,x1] B =
 (let m0:=B.length
 mk (mk (ob (Z1J (shr x0)) fun a =>
 ob (xfld 0 a) fun b =>
 ob (ldN false 1 b B) fun c =>
 ob (xlen PP 54 c) fun d =>
 ob (Z1J (shr x0)) fun e =>
 ob (xfld 1 e) fun f =>
 ob (ldN false 1 f B) fun g =>
 ob (xbin PP .sub 3 d g) fun h =>
 ob (xlen PP 9 (shr x1)) fun i =>
 ob (xbin PP .lss 3 h i) fun j =>
 asB (shr j) fun k => br k (ZpR m0 (gcB m0 [] B))
 (ob (Z1J (shr x0)) fun l =>
 ob (xfld 0 l) fun n =>
 ob (ldN false 1 n B) fun o =>
 ob (Z1J (shr x0)) fun p =>
 ob (xfld 1 p) fun q =>
 ob (ldN false 1 q B) fun r =>
 ob (Z1J (shr x0)) fun s =>
 ob (xfld 1 s) fun t =>
 ob (ldN false 1 t B) fun u =>
 ob (xlen PP 9 (shr x1)) fun v =>
 ob (xbin PP .add 3 u v) fun w =>
 ob (xsl 1 o (some r) (some w) none) fun x =>
 ob (xcnv PP 54 9 x) fun y =>
 ob (xbin PP .neq 9 y (shr x1)) fun z =>
 asB (shr z) fun A => br A (ZpR m0 (gcB m0 [] B))
 (ZtU m0 x0 x1 (gcB m0 [x0,x1] B)))))):=(E_eq PP XX HH _ _ _).trans (by kernel_rfl)
def ZEc:=Z2K Tryd.f20
def Zu0:=l2 (l2 (l2 ZEc))
def ZpS:=l1 (l1 (l1 (l2 (l2 ZEc))))
def Z7G (r0:AV) (B:List Row):Option Res :=
 ob (ob (ldN true 7 r0 B) fun v => ob (some []) fun vs => some (v :: vs)) fun vs => some ((nrmA (match vs with | [v] => v | vs => Z98 (vs.map shr))),B)
def ZtW (m0:Nat):Kont:=kret PP HH 20 Tryd.f20.results
def ZFX:=kseq HH 20 m0 Zu0 (exec PP HH 20 m0 EE LL Zu0 (ZtW m0)) (ZtW m0)
def ZtX:=kblk 0 (ZFX m0)
def ZFY:=kloop HH 20 m0 ZpS (LL 20 m0 ZpS (ZtX m0)) (ZtX m0)
def ZmC:=lp (LL 20 m0 ZpS (ZtX m0) [(0,x0),(2,x2),(3,x3)] B)
def ZtY:=exec PP HH 20 m0 EE LL (l2 ZpS) (ZFY m0) [(0,x0),(2,x2),(3,x3)] B
def ZtZ:=exec PP HH 20 m0 EE LL Zu0 (ZtW m0) [(2,x2),(3,x3)] B
theorem ZAj:ZmC m0 x0 x2 x3 B =
 mk (callS false EE 19 [(shr x0),(.p (.v (.string (ByteArray.mk #[124]))))] B fun a b =>
 asB a fun c => br c (ZtY m0 x0 x2 x3 (gcB m0 [x0,x2,x3] b))
 (ZtZ m0 x2 x3 (gcB m0 [x2,x3] b))):=lq_ (by kernel_rfl)
theorem ZAk:ZtY m0 x0 x2 x3 B =
 mk (callS false EE 30 [(shr x0)] B fun a b =>
 ob (xlit PP 29 1 [(0,a)]) fun c =>
 ob (xapp 7 x3 c) fun d =>
 ZmC m0 x0 x2 d (gcB m0 [x0,x2,d] b)):=by kernel_rfl
theorem ZAl:ZtZ m0 x2 x3 B =
 mk (callS false EE 31 [(iv 3),(shr x3)] B fun a b =>
 stN 7 x2 a b fun c =>
 Z7G x2 c):=by kernel_rfl
theorem ZFW:EE 20 [x0] B =
 (let m0:=B.length
 mk (bz PP 31 B fun a b =>
 mk (callS false EE 30 [(shr x0)] b fun c d =>
 ob (xlit PP 29 1 [(0,c)]) fun e =>
 ZmC m0 x0 a e (gcB m0 [x0,a,e] d)))):=(E_eq PP XX HH _ _ _).trans (by kernel_rfl)
def ZI7:=Z2K Tryd.f21
def Z4Y (B:List Row):Option Res :=
 ob (some []) fun vs => some ((nrmA (match vs with | [v] => v | vs => Z98 (vs.map shr))),B)
def ZG0 (m0:Nat):Kont:=kret PP HH 21 Tryd.f21.results
def ZpT:=exec PP HH 21 m0 EE LL (l2 ZI7) (ZG0 m0) [(0,x0)] B
theorem ZAm:ZpT m0 x0 B =
 mk (ob (Z1J (shr x0)) fun a =>
 ob (xfld 0 a) fun b =>
 ob (ldN false 1 b B) fun c =>
 ob (xlen PP 54 c) fun d =>
 ob (Z1J (shr x0)) fun e =>
 ob (xfld 1 e) fun f =>
 stN 1 f d B fun g =>
 Z4Y g):=by kernel_rfl
theorem ZFZ:EE 21 [x0,x1,x2] B =
 (let m0:=B.length
 mk (ob (Z1J (shr x0)) fun a =>
 ob (xfld 5 a) fun b =>
 ob (xfld 0 b) fun c =>
 ob (ldN false 1 c B) fun d =>
 ob (xbin PP .eql 24 d (iv 0)) fun e =>
 asB e fun f => br f (mk (ob (Z1I PP 35 [(0,(shr x1)),(1,(shr x2))]) fun g =>
 ob (Z1J (shr x0)) fun h =>
 ob (xfld 5 h) fun i =>
 stN 2 i g B fun j =>
 ZpT m0 x0 (gcB m0 [x0] j)))
 (ZpT m0 x0 (gcB m0 [x0] B)))):=(E_eq PP XX HH _ _ _).trans (by kernel_rfl)
theorem ZG1:EE 22 [x0] B =
 (let m0:=B.length
 mk (bx x0 B fun a b =>
 mk (ob (xfld 0 a) fun c =>
 ob (ldN false 1 c b) fun d =>
 ob (xbin PP .geq 3 d (iv 0)) fun e =>
 asB (shr e) fun f => br f (ob (xfld 0 a) fun g =>
 ob (ldN false 1 g b) fun h =>
 ob (xfld 1 a) fun i =>
 ob (ldN false 1 i b) fun j =>
 ob (xbin PP .leq 3 h j) fun k =>
 asB (shr (shr k)) fun l => br l (ob (xfld 1 a) fun n =>
 ob (ldN false 1 n b) fun o =>
 ob (xbin PP .leq 3 o (iv 1114367)) fun p =>
 Z1B (shr (shr p)) b)
 (Z1B (bv false) b))
 (Z1B (bv false) b)))):=(E_eq PP XX HH _ _ _).trans (by kernel_rfl)
theorem ZG2:EE 24 [x0,x1] B =
 (let m0:=B.length
 mk (bx x1 B fun a b =>
 mk (callS false EE 32 [(shr x0),(.clo 33 ([].map nrmA) ([a].map nrmA))] b fun c d =>
 Z1B (shr c) d))):=(E_eq PP XX HH _ _ _).trans (by kernel_rfl)
def ZEd:=Z2K Tryd.f26
def ZpY:=l2 (l2 (l2 (l2 ZEd)))
def ZpX:=l1 (l1 (l2 (l1 (l2 (l2 (l2 ZEd))))))
def ZmE:=l2 (l2 ZpX)
def ZpU (m0:Nat):Kont:=kret PP HH 26 Tryd.f26.results
def ZG4:=kseq HH 26 m0 ZpY (exec PP HH 26 m0 EE LL ZpY (ZpU m0)) (ZpU m0)
def Zu1:=kblk 0 (ZG4 m0)
def ZpV:=kloop HH 26 m0 ZpX (LL 26 m0 ZpX (Zu1 m0)) (Zu1 m0)
def ZG5:=kseq HH 26 m0 (l2 ZmE) (exec PP HH 26 m0 EE LL (l2 ZmE) (ZpV m0)) (ZpV m0)
def ZG6:=kblk 1 (ZG5 m0)
def ZmD:=lp (LL 26 m0 ZpX (Zu1 m0) [(3,x3),(4,x4),(7,x7),(8,x8),(9,x9)] B)
def Zu2:=exec PP HH 26 m0 EE LL ZmE (ZpV m0) [(3,x3),(4,x4),(7,x7),(8,x8),(9,x9)] B
def ZrF:=exec PP HH 26 m0 EE LL ZpY (ZpU m0) [(3,x3),(4,x4)] B
def ZpW:=exec PP HH 26 m0 EE LL (l2 (l2 (l1 (l1 ZmE)))) (ZG6 m0) [(3,x3),(6,x6),(7,x7),(8,x8),(9,x9)] B
def ZnR:=exec PP HH 26 m0 EE LL (l2 ZpY) (ZpU m0) [(3,x3)] B
def Zu3:=exec PP HH 26 m0 EE LL (l2 ZmE) (ZpV m0) [(3,x3),(4,x4),(7,x7),(8,x8),(9,x9)] B
theorem ZAn:ZmD m0 x3 x4 x7 x8 x9 B =
 mk (ob (xbin PP .lss 3 x9 x8) fun a =>
 asB a fun b => br b (Zu2 m0 x3 x4 x7 x8 x9 (gcB m0 [x3,x4,x7,x8,x9] B))
 (ZrF m0 x3 x4 (gcB m0 [x3,x4] B))):=lq_ (by kernel_rfl)
theorem ZAo:Zu2 m0 x3 x4 x7 x8 x9 B =
 mk (ob (xidx 2 x7 x9) fun a =>
 ob (ldN true 2 a B) fun b =>
 bz PP 47 B fun c d =>
 stN 2 c b d fun e =>
 mk (ob (xfld 0 c) fun f =>
 ob (ldN false 1 f e) fun g =>
 ob (xbin PP .lss 3 (shr x4) g) fun h =>
 asB h fun i => br i (mk (ob (xfld 0 c) fun j =>
 ob (ldN false 1 j e) fun k =>
 ob (xbin PP .sub 3 k (iv 1)) fun l =>
 ob (Z1I PP 47 [(0,(shr x4)),(1,l)]) fun n =>
 ob (xlit PP 28 1 [(0,n)]) fun o =>
 ob (xapp 2 x3 o) fun p =>
 ZpW m0 p c x7 x8 x9 (gcB m0 [p,c,x7,x8,x9] e)))
 (ZpW m0 x3 c x7 x8 x9 (gcB m0 [x3,c,x7,x8,x9] e)))):=by kernel_rfl
theorem Zy0:ZrF m0 x3 x4 B =
 mk (ob (xbin PP .leq 3 (shr x4) (iv 1114367)) fun a =>
 asB a fun b => br b (mk (ob (Z1I PP 47 [(0,(shr x4)),(1,(iv 1114367))]) fun c =>
 ob (xlit PP 28 1 [(0,c)]) fun d =>
 ob (xapp 2 x3 d) fun e =>
 ZnR m0 e (gcB m0 [e] B)))
 (ZnR m0 x3 (gcB m0 [x3] B))):=by kernel_rfl
theorem ZAp:ZpW m0 x3 x6 x7 x8 x9 B =
 mk (ob (xfld 1 x6) fun a =>
 ob (ldN false 1 a B) fun b =>
 ob (xbin PP .add 3 b (iv 1)) fun c =>
 Zu3 m0 x3 (shr c) x7 x8 x9 (gcB m0 [x3,(shr c),x7,x8,x9] B)):=by kernel_rfl
theorem Zy1:ZnR m0 x3 B =
 mk (Z1B (shr (shr x3)) B):=by kernel_rfl
theorem ZAq:Zu3 m0 x3 x4 x7 x8 x9 B =
 mk (ob (xbin PP .add 3 x9 (iv 1)) fun a =>
 ZmD m0 x3 x4 x7 x8 (shr a) (gcB m0 [x3,x4,x7,x8,(shr a)] B)):=by kernel_rfl
theorem ZG3:EE 26 [x0] B =
 (let m0:=B.length
 mk (mk (mk (mk (ob (xlen PP 28 (shr x0)) fun a =>
 ZmD m0 nilA (iv 0) (shr x0) a (iv 0) (gcB m0 [nilA,(iv 0),(shr x0),a,(iv 0)] B)))))):=(E_eq PP XX HH _ _ _).trans (by kernel_rfl)
def ZI8:=Z2K Tryd.f27
def ZG8 (m0:Nat):Kont:=kret PP HH 27 Tryd.f27.results
def Zu4:=exec PP HH 27 m0 EE LL (l2 (l2 ZI8)) (ZG8 m0) [] B
theorem ZAr:Zu4 m0 B =
 mk (Z1B (iv 0) B):=by kernel_rfl
theorem ZG7:EE 27 [x0] B =
 (let m0:=B.length
 mk (bx x0 B fun a b =>
 mk (ob (xfld 0 a) fun c =>
 ob (ldN true 7 c b) fun d =>
 callS false EE 38 [d] b fun e f =>
 ob (xun PP .not e) fun g =>
 asB (shr g) fun h => br h (mk (Z1B (iv 27) f))
 (mk (ob (xfld 0 a) fun i =>
 ob (ldN true 7 i f) fun j =>
 callS false EE 11 [j] f fun k l =>
 ob (xbin PP .add 3 k (iv 3)) fun n =>
 ob (xbin PP .gtr 3 n (iv 2000)) fun o =>
 asB (shr o) fun p => br p (mk (Z1B (iv 28) l))
 (Zu4 m0 (gcB m0 [] l))))))):=(E_eq PP XX HH _ _ _).trans (by kernel_rfl)
theorem ZG9:EE 28 [x0,x1] B =
 (let m0:=B.length
 mk (bx x1 B fun a b =>
 mk (ob (Z1J (shr x0)) fun c =>
 ob (xfld 0 c) fun d =>
 ldOwn d b fun e f =>
 ob (ldN true 6 a f) fun g =>
 ob (xlit PP 23 1 [(0,g)]) fun h =>
 ob (Zoe 6 e h) fun i =>
 ob (Z1J (shr x0)) fun j =>
 ob (xfld 0 j) fun k =>
 stN 1 k i f fun l =>
 grd (ZbB d a) (mk (ob (Z1J (shr x0)) fun n =>
 ob (xfld 0 n) fun o =>
 ob (ldN false 1 o l) fun p =>
 ob (xlen PP 23 p) fun q =>
 ob (xbin PP .sub 3 q (iv 1)) fun r =>
 Z1B (shr r) l))))):=(E_eq PP XX HH _ _ _).trans (by kernel_rfl)
def ZsY:=Z2K Tryd.f29
def Zq1:=l1 (l1 (l2 (l1 (l2 (l2 (l2 (l1 (l2 (l2 ZsY)))))))))
def ZGb (m0:Nat):Kont:=kret PP HH 29 Tryd.f29.results
def ZpZ:=kblk 0 (ZGb m0)
def Zu5:=kblk 1 (ZpZ m0)
def ZGc:=kloop HH 29 m0 Zq1 (LL 29 m0 Zq1 (Zu5 m0)) (Zu5 m0)
def Zq0:=exec PP HH 29 m0 EE LL (l2 (l2 (l1 (l2 (l1 (l2 (l2 ZsY))))))) (ZpZ m0) [(2,x2),(4,x4)] B
def Zks:=lp (LL 29 m0 Zq1 (Zu5 m0) [(2,x2),(36,x36),(37,x37),(38,x38)] B)
def ZnS:=exec PP HH 29 m0 EE LL (l2 (l2 (l1 (l2 (l2 (l2 (l2 (l2 (l2 (l2 (l2 (l2 (l2 (l2 (l1 (l2 (l2 ZsY))))))))))))))))) (ZpZ m0) [(2,x2),(7,x7)] B
def ZnT:=exec PP HH 29 m0 EE LL (l2 (l2 (l1 (l2 (l2 (l2 (l2 (l2 (l2 (l2 (l2 (l2 (l2 (l2 (l2 (l2 (l1 (l2 (l2 ZsY))))))))))))))))))) (ZpZ m0) [(2,x2),(3,x3),(8,x8)] B
def ZrG:=exec PP HH 29 m0 EE LL (l2 (l2 Zq1)) (ZGc m0) [(2,x2),(36,x36),(37,x37),(38,x38)] B
theorem ZAs:Zq0 m0 x2 x4 B =
 mk (callS false EE 39 [(shr x4),nilA] B fun a b =>
 ob (xext 0 (shr a)) fun c =>
 ob (xext 1 (shr a)) fun d =>
 mk (ob (ldN false 1 x2 b) fun e =>
 ob (Z1I PP 40 [(0,(iv 1)),(5,(shr (shr (shr c))))]) fun f =>
 callS false EE 28 [e,f] b fun g h =>
 Z4Y h)):=by kernel_rfl
theorem Zy2:Zks m0 x2 x36 x37 x38 B =
 mk (ob (xbin PP .lss 3 x38 x37) fun a =>
 asB a fun b => br b (ZrG m0 x2 x36 x37 x38 (gcB m0 [x2,x36,x37,x38] B))
 (Z4Y B)):=lq_ (by kernel_rfl)
theorem Zy4:ZnS m0 x2 x7 B =
 mk (ob (ldN false 1 x2 B) fun a =>
 ob (ldN true 6 x7 B) fun b =>
 callS false EE 28 [a,b] B fun c d =>
 Z4Y d):=by kernel_rfl
theorem Zy5:ZnT m0 x2 x3 x8 B =
 mk (ob (ldN false 1 x2 B) fun a =>
 ob (ldN true 6 x8 B) fun b =>
 callS false EE 41 [a,b,(.clo 45 ([].map nrmA) ([x2,x3].map nrmA))] B fun c d =>
 Z4Y d):=by kernel_rfl
theorem Zy3:ZrG m0 x2 x36 x37 x38 B =
 mk (ob (xidx 7 x36 x38) fun a =>
 ob (ldN true 7 a B) fun b =>
 bz PP 31 B fun c d =>
 stN 7 c b d fun e =>
 mk (ob (ldN false 1 x2 e) fun f =>
 ob (ldN true 7 c e) fun g =>
 callS false EE 29 [f,g] e fun h i =>
 mk (ob (xbin PP .add 3 x38 (iv 1)) fun j =>
 Zks m0 x2 x36 x37 (shr j) (gcB m0 [x2,x36,x37,(shr j)] i)))):=by kernel_rfl
theorem ZGa:EE 29 [x0,x1] B =
 (let m0:=B.length
 mk (bx x0 B fun a b =>
 bx x1 b fun c d =>
 mk (ob (xfld 0 c) fun e =>
 ob (ldN false 1 e d) fun f =>
 mk (ob (xbin PP .eql 3 f (iv 1)) fun g =>
 asB (shr g) fun h => br h (mk (ob (xfld 5 c) fun i =>
 ob (ldN false 1 i d) fun j =>
 mk (ob (ldN false 1 a d) fun k =>
 ob (Z1J k) fun l =>
 ob (xfld 1 l) fun n =>
 ob (ldN false 1 n d) fun o =>
 asB o fun p => br p (mk (callS false EE 14 [(shr (shr j))] d fun q r =>
 ob (xext 0 (shr q)) fun s =>
 ob (xext 1 (shr q)) fun t =>
 Zq0 m0 a (shr (shr s)) (gcB m0 [a,(shr (shr s))] r)))
 (Zq0 m0 a (shr j) (gcB m0 [a,(shr j)] d)))))
 (mk (ob (xbin PP .eql 3 f (iv 2)) fun u =>
 asB (shr u) fun v => br v (mk (ob (xfld 6 c) fun w =>
 ob (ldN false 1 w d) fun x =>
 ob (xlen PP 29 x) fun y =>
 Zks m0 a x y (iv 0) (gcB m0 [a,x,y,(iv 0)] d)))
 (mk (ob (xbin PP .eql 3 f (iv 3)) fun z =>
 asB (shr z) fun A => br A (mk (ob (ldN false 1 a d) fun C =>
 ob (xfld 6 c) fun D =>
 ob (ldN false 1 D d) fun F =>
 callS false EE 40 [C,F] d fun G I =>
 Z4Y I))
 (mk (ob (xbin PP .eql 3 f (iv 4)) fun J =>
 asB (shr J) fun M => br M (mk (ob (xfld 3 c) fun N =>
 ob (ldN false 1 N d) fun O =>
 ob (xbin PP .eql 3 O (iv 2)) fun Q =>
 asB Q fun R => br R (mk (ob (ldN false 1 a d) fun S =>
 ob (Z1I PP 40 [(0,(iv 8))]) fun T =>
 callS false EE 41 [S,T,(.clo 42 ([].map nrmA) ([a,c].map nrmA))] d fun U V =>
 Z4Y V))
 (mk (ob (ldN false 1 a d) fun W =>
 ob (ldN true 7 c d) fun Y =>
 callS false EE 43 [W,Y] d fun Z a0 =>
 Z4Y a0))))
 (mk (ob (xbin PP .eql 3 f (iv 5)) fun a1 =>
 asB (shr a1) fun a2 => br a2 (mk (ob (ldN false 1 a d) fun a3 =>
 ob (xfld 4 c) fun a4 =>
 ob (ldN false 1 a4 d) fun a5 =>
 ob (xbin PP .mul 3 (iv 2) a5) fun a6 =>
 ob (Z1I PP 40 [(0,(iv 4)),(1,a6)]) fun a7 =>
 callS false EE 28 [a3,a7] d fun a8 a9 =>
 mk (ob (ldN false 1 a a9) fun a10 =>
 ob (xfld 6 c) fun a11 =>
 ob (ldN false 1 a11 a9) fun a12 =>
 ob (xidx 7 a12 (iv 0)) fun a13 =>
 ob (ldN true 7 a13 a9) fun a14 =>
 callS false EE 29 [a10,a14] a9 fun a15 a16 =>
 mk (ob (ldN false 1 a a16) fun a17 =>
 ob (xfld 4 c) fun a18 =>
 ob (ldN false 1 a18 a16) fun a19 =>
 ob (xbin PP .mul 3 (iv 2) a19) fun a20 =>
 ob (xbin PP .add 3 a20 (iv 1)) fun a21 =>
 ob (Z1I PP 40 [(0,(iv 4)),(1,a21)]) fun a22 =>
 callS false EE 28 [a17,a22] a16 fun a23 a24 =>
 Z4Y a24))))
 (mk (ob (xbin PP .eql 3 f (iv 6)) fun a25 =>
 asB (shr a25) fun a26 => br a26 (mk (ob (xfld 4 c) fun a27 =>
 ob (ldN false 1 a27 d) fun a28 =>
 ob (Z1I PP 40 [(0,(iv 5)),(1,a28)]) fun a29 =>
 bz PP 40 d fun a30 a31 =>
 stN 6 a30 a29 a31 fun a32 =>
 mk (ob (ldN false 1 a a32) fun a33 =>
 ob (Z1J a33) fun a34 =>
 ob (xfld 1 a34) fun a35 =>
 ob (ldN false 1 a35 a32) fun a36 =>
 asB a36 fun a37 => br a37 (mk (ob (xfld 2 a30) fun a38 =>
 stN 1 a38 (iv 1) a32 fun a39 =>
 ZnS m0 a a30 (gcB m0 [a,a30] a39)))
 (ZnS m0 a a30 (gcB m0 [a,a30] a32)))))
 (mk (ob (xbin PP .eql 3 f (iv 7)) fun a40 =>
 asB (shr a40) fun a41 => br a41 (mk (ob (xfld 3 c) fun a42 =>
 ob (ldN false 1 a42 d) fun a43 =>
 ob (Z1I PP 40 [(0,(iv 7)),(1,a43)]) fun a44 =>
 bz PP 40 d fun a45 a46 =>
 stN 6 a45 a44 a46 fun a47 =>
 mk (ob (xfld 3 c) fun a48 =>
 ob (ldN false 1 a48 a47) fun a49 =>
 ob (xbin PP .geq 3 a49 (iv 2)) fun a50 =>
 asB a50 fun a51 => br a51 (mk (ob (xfld 6 c) fun a52 =>
 ob (ldN false 1 a52 a47) fun a53 =>
 ob (xidx 7 a53 (iv 0)) fun a54 =>
 ob (ldN true 7 a54 a47) fun a55 =>
 callS false EE 44 [a55] a47 fun a56 a57 =>
 ob (xext 0 (shr a56)) fun a58 =>
 ob (xext 1 (shr a56)) fun a59 =>
 ob (xfld 3 a45) fun a60 =>
 stN 1 a60 (shr a58) a57 fun a61 =>
 ob (xfld 4 a45) fun a62 =>
 stN 1 a62 (shr a59) a61 fun a63 =>
 ZnT m0 a c a45 (gcB m0 [a,c,a45] a63)))
 (ZnT m0 a c a45 (gcB m0 [a,c,a45] a47)))))
 (mk (ob (xbin PP .eql 3 f (iv 8)) fun a64 =>
 asB (shr a64) fun a65 => br a65 (mk (ob (ldN false 1 a d) fun a66 =>
 ob (Z1I PP 40 [(0,(iv 8))]) fun a67 =>
 callS false EE 41 [a66,a67,(.clo 46 ([].map nrmA) ([a,c].map nrmA))] d fun a68 a69 =>
 Z4Y a69))
 (mk (ob (xbin PP .eql 3 f (iv 9)) fun a70 =>
 asB (shr a70) fun a71 => br a71 (mk (ob (ldN false 1 a d) fun a72 =>
 ob (xfld 4 c) fun a73 =>
 ob (ldN false 1 a73 d) fun a74 =>
 ob (Z1I PP 40 [(0,(iv 6)),(1,a74)]) fun a75 =>
 callS false EE 28 [a72,a75] d fun a76 a77 =>
 Z4Y a77))
 (Z4Y d))))))))))))))))))))):=(E_eq PP XX HH _ _ _).trans (by kernel_rfl)
def ZEe:=Z2K Tryd.f30
def Zu9:=l2 (l2 (l2 (l1 (l2 ZEe))))
def ZmH:=l1 (l1 (l1 (l2 (l2 (l1 (l2 ZEe))))))
def Zu6 (m0:Nat):Kont:=kret PP HH 30 Tryd.f30.results
def ZGe:=kseq HH 30 m0 Zu9 (exec PP HH 30 m0 EE LL Zu9 (Zu6 m0)) (Zu6 m0)
def Zu7:=kblk 0 (ZGe m0)
def ZAt:=kloop HH 30 m0 ZmH (LL 30 m0 ZmH (Zu7 m0)) (Zu7 m0)
def ZGf:=kblk 1 (ZAt m0)
def ZmF:=lp (LL 30 m0 ZmH (Zu7 m0) [(0,x0),(2,x2),(3,x3)] B)
def Zu8:=exec PP HH 30 m0 EE LL (l2 ZmH) (ZAt m0) [(0,x0),(2,x2),(3,x3)] B
def Zkt:=exec PP HH 30 m0 EE LL Zu9 (Zu6 m0) [(2,x2),(3,x3)] B
def ZmG:=exec PP HH 30 m0 EE LL (l2 (l1 (l2 ZmH))) (ZGf m0) [(0,x0),(2,x2),(3,x3)] B
theorem ZAu:ZmF m0 x0 x2 x3 B =
 mk (ob (Z1J (shr x0)) fun a =>
 ob (xfld 5 a) fun b =>
 ob (xfld 0 b) fun c =>
 ob (ldN false 1 c B) fun d =>
 ob (xbin PP .eql 24 d (iv 0)) fun e =>
 asB e fun f => br f (Zu8 m0 x0 x2 x3 (gcB m0 [x0,x2,x3] B))
 (Zkt m0 x2 x3 (gcB m0 [x2,x3] B))):=lq_ (by kernel_rfl)
theorem ZAv:Zu8 m0 x0 x2 x3 B =
 mk (callS false EE 47 [(shr x0)] B fun a b =>
 mk (ob (xbin PP .eql 3 a (iv (-1))) fun c =>
 asB (shr c) fun d => br d (asB (shr c) fun e => br e (Zkt m0 x2 x3 (gcB m0 [x2,x3] b))
 (ZmG m0 x0 x2 x3 (gcB m0 [x0,x2,x3] b)))
 (mk (ob (xbin PP .eql 3 a (iv 124)) fun f =>
 asB (shr f) fun g => br g (asB (shr f) fun h => br h (Zkt m0 x2 x3 (gcB m0 [x2,x3] b))
 (ZmG m0 x0 x2 x3 (gcB m0 [x0,x2,x3] b)))
 (mk (ob (xbin PP .eql 3 a (iv 41)) fun i =>
 asB (shr i) fun j => br j (Zkt m0 x2 x3 (gcB m0 [x2,x3] b))
 (ZmG m0 x0 x2 x3 (gcB m0 [x0,x2,x3] b)))))))):=by kernel_rfl
theorem ZAx:Zkt m0 x2 x3 B =
 mk (callS false EE 31 [(iv 2),(shr x3)] B fun a b =>
 stN 7 x2 a b fun c =>
 Z7G x2 c):=by kernel_rfl
theorem ZAw:ZmG m0 x0 x2 x3 B =
 mk (callS false EE 48 [(shr x0)] B fun a b =>
 ob (xext 0 (shr a)) fun c =>
 ob (xext 1 (shr a)) fun d =>
 bz PP 31 b fun e f =>
 stN 7 e (shr c) f fun g =>
 mk (ob (ldN true 7 e g) fun h =>
 callS false EE 49 [(shr x0),h,(shr (shr (shr d)))] g fun i j =>
 ob (xlit PP 29 1 [(0,i)]) fun k =>
 ob (xapp 7 x3 k) fun l =>
 ZmF m0 x0 x2 l (gcB m0 [x0,x2,l] j))):=by kernel_rfl
theorem ZGd:EE 30 [x0] B =
 (let m0:=B.length
 mk (bz PP 31 B fun a b =>
 mk (ZmF m0 x0 a nilA (gcB m0 [x0,a,nilA] (gcB m0 [x0,a,nilA] b))))):=(E_eq PP XX HH _ _ _).trans (by kernel_rfl)
def ZI9:=Z2K Tryd.f31
def ZGh (m0:Nat):Kont:=kret PP HH 31 Tryd.f31.results
def Zua:=exec PP HH 31 m0 EE LL (l2 (l2 ZI9)) (ZGh m0) [(0,x0),(1,x1),(4,x4)] B
theorem ZAy:Zua m0 x0 x1 x4 B =
 mk (ob (Z1I PP 31 [(0,(shr x0)),(6,(shr x1))]) fun a =>
 stN 7 x4 a B fun b =>
 Z7G x4 b):=by kernel_rfl
theorem ZGg:EE 31 [x0,x1] B =
 (let m0:=B.length
 mk (bz PP 31 B fun a b =>
 mk (ob (xlen PP 29 (shr x1)) fun c =>
 mk (ob (xbin PP .eql 3 c (iv 0)) fun d =>
 asB (shr d) fun e => br e (mk (ob (Z1I PP 31 []) fun f =>
 stN 7 a f b fun g =>
 Z7G a g))
 (mk (ob (xbin PP .eql 3 c (iv 1)) fun h =>
 asB (shr h) fun i => br i (mk (ob (xidx 7 (shr x1) (iv 0)) fun j =>
 ob (ldN true 7 j b) fun k =>
 stN 7 a k b fun l =>
 Z7G a l))
 (Zua m0 x0 x1 a (gcB m0 [x0,x1,a] b)))))))):=(E_eq PP XX HH _ _ _).trans (by kernel_rfl)
theorem ZGi:EE 32 [x0,x1] B =
 (let m0:=B.length
 mk (mk (callS false EE 50 [(shr x0),(shr x1)] B fun a b =>
 ob (xbin PP .geq 3 a (iv 0)) fun c =>
 Z1B (shr c) b))):=(E_eq PP XX HH _ _ _).trans (by kernel_rfl)
theorem ZGj:EE 33 [x0,x1] B =
 (let m0:=B.length
 mk (bx x0 B fun a b =>
 mk (ob (xfld 0 a) fun c =>
 ob (ldN false 1 c b) fun d =>
 ob (ldN false 1 x1 b) fun e =>
 ob (xbin PP .leq 3 d e) fun f =>
 asB (shr f) fun g => br g (ob (ldN false 1 x1 b) fun h =>
 ob (xfld 1 a) fun i =>
 ob (ldN false 1 i b) fun j =>
 ob (xbin PP .leq 3 h j) fun k =>
 Z1B (shr (shr k)) b)
 (Z1B (bv false) b)))):=(E_eq PP XX HH _ _ _).trans (by kernel_rfl)
def ZEf:=Z2K Tryd.f38
def Zud:=l2 (l2 ZEf)
def ZAD:=l1 (l2 (l1 (l2 ZEf)))
def Zub (m0:Nat):Kont:=kret PP HH 38 Tryd.f38.results
def ZAz:=kseq HH 38 m0 Zud (exec PP HH 38 m0 EE LL Zud (Zub m0)) (Zub m0)
def Zuc:=exec PP HH 38 m0 EE LL ZAD (ZAz m0) [(1,x1)] B
def ZmI:=exec PP HH 38 m0 EE LL Zud (Zub m0) [(1,x1)] B
def Zq2:=exec PP HH 38 m0 EE LL (l1 (l2 (l2 ZAD))) (ZAz m0) [] B
theorem ZAA:Zuc m0 x1 B =
 mk (ob (xfld 6 x1) fun a =>
 ob (ldN false 1 a B) fun b =>
 ob (xidx 7 b (iv 0)) fun c =>
 ob (ldN true 7 c B) fun d =>
 callS false EE 44 [d] B fun e f =>
 ob (xext 0 (shr e)) fun g =>
 ob (xext 1 (shr e)) fun h =>
 mk (ob (xbin PP .lss 3 (shr (shr (shr h))) (iv 0)) fun i =>
 asB (shr i) fun j => br j (Zq2 m0 (gcB m0 [] f))
 (ob (xbin PP .gtr 3 (shr (shr (shr h))) (iv 32)) fun k =>
 asB (shr k) fun l => br l (Zq2 m0 (gcB m0 [] f))
 (ZmI m0 x1 (gcB m0 [x1] f))))):=by kernel_rfl
theorem ZAC:ZmI m0 x1 B =
 mk (ob (xfld 6 x1) fun a =>
 ob (ldN false 1 a B) fun b =>
 callS false EE 55 [b,(.clo 56 [] [])] B fun c d =>
 ob (xun PP .not c) fun e =>
 Z1B (shr e) d):=by kernel_rfl
theorem ZAB:Zq2 m0 B =
 mk (Z1B (bv false) B):=by kernel_rfl
theorem ZGk:EE 38 [x0] B =
 (let m0:=B.length
 mk (bx x0 B fun a b =>
 mk (ob (xfld 0 a) fun c =>
 ob (ldN false 1 c b) fun d =>
 ob (xbin PP .eql 3 d (iv 7)) fun e =>
 asB (shr e) fun f => br f (ob (xfld 3 a) fun g =>
 ob (ldN false 1 g b) fun h =>
 ob (xbin PP .geq 3 h (iv 2)) fun i =>
 asB (shr i) fun j => br j (Zuc m0 a (gcB m0 [a] b))
 (ZmI m0 a (gcB m0 [a] b)))
 (ZmI m0 a (gcB m0 [a] b))))):=(E_eq PP XX HH _ _ _).trans (by kernel_rfl)
def ZEg:=Z2K Tryd.f39
def Zug:=l2 (l2 ZEg)
def Zue (m0:Nat):Kont:=kret PP HH 39 Tryd.f39.results
def ZGm:=kseq HH 39 m0 Zug (exec PP HH 39 m0 EE LL Zug (Zue m0)) (Zue m0)
def Zq3:=exec PP HH 39 m0 EE LL (l1 (l2 (l1 (l2 ZEg)))) (ZGm m0) [] B
def Zuf:=exec PP HH 39 m0 EE LL Zug (Zue m0) [(0,x0),(1,x1)] B
theorem ZAE:Zq3 m0 B =
 mk (Z5o nilA (iv 10) B):=by kernel_rfl
theorem ZAF:Zuf m0 x0 x1 B =
 mk (ob (xlit PP 110 2 [(0,(shr x0)),(1,(shr x1))]) fun a =>
 callS false EE 57 [a] B fun b c =>
 callS false EE 25 [b] c fun d e =>
 Z5o (shr d) (iv 0) e):=by kernel_rfl
theorem ZGl:EE 39 [x0,x1] B =
 (let m0:=B.length
 mk (mk (callS false EE 12 [(shr x0)] B fun a b =>
 ob (xun PP .not a) fun c =>
 asB (shr c) fun d => br d (Zq3 m0 (gcB m0 [] b))
 (callS false EE 12 [(shr x1)] b fun e f =>
 ob (xun PP .not e) fun g =>
 asB (shr g) fun h => br h (Zq3 m0 (gcB m0 [] f))
 (Zuf m0 x0 x1 (gcB m0 [x0,x1] f)))))):=(E_eq PP XX HH _ _ _).trans (by kernel_rfl)
def ZEh:=Z2K Tryd.f40
def Zq6:=l2 (l2 (l2 ZEh))
def Zq5:=l1 (l1 (l2 (l1 (l2 (l2 ZEh)))))
def Zq7:=l1 (l1 (l2 (l2 Zq6)))
def Zq4 (m0:Nat):Kont:=kret PP HH 40 Tryd.f40.results
def ZGo:=kseq HH 40 m0 Zq6 (exec PP HH 40 m0 EE LL Zq6 (Zq4 m0)) (Zq4 m0)
def Zuh:=kblk 0 (ZGo m0)
def ZGp:=kloop HH 40 m0 Zq5 (LL 40 m0 Zq5 (Zuh m0)) (Zuh m0)
def Zui:=kblk 2 (Zq4 m0)
def ZGq:=kloop HH 40 m0 Zq7 (LL 40 m0 Zq7 (Zui m0)) (Zui m0)
def ZmJ:=lp (LL 40 m0 Zq5 (Zuh m0) [(0,x0),(1,x1),(4,x4),(5,x5),(16,x16),(17,x17),(18,x18)] B)
def Zuj:=exec PP HH 40 m0 EE LL (l2 (l2 Zq5)) (ZGp m0) [(0,x0),(1,x1),(4,x4),(5,x5),(16,x16),(17,x17),(18,x18)] B
def ZrH:=exec PP HH 40 m0 EE LL Zq6 (Zq4 m0) [(0,x0),(1,x1),(4,x4),(5,x5)] B
def Zku:=lp (LL 40 m0 Zq7 (Zui m0) [(0,x0),(51,x51),(52,x52),(53,x53)] B)
def ZrI:=exec PP HH 40 m0 EE LL (l2 (l2 Zq7)) (ZGq m0) [(0,x0),(51,x51),(52,x52),(53,x53)] B
theorem ZAG:ZmJ m0 x0 x1 x4 x5 x16 x17 x18 B =
 mk (ob (xbin PP .lss 3 x18 x17) fun a =>
 asB a fun b => br b (Zuj m0 x0 x1 x4 x5 x16 x17 x18 (gcB m0 [x0,x1,x4,x5,x16,x17,x18] B))
 (ZrH m0 x0 x1 x4 x5 (gcB m0 [x0,x1,x4,x5] B))):=lq_ (by kernel_rfl)
theorem ZAH:Zuj m0 x0 x1 x4 x5 x16 x17 x18 B =
 mk (ob (xidx 7 x16 x18) fun a =>
 ob (ldN true 7 a B) fun b =>
 bz PP 31 B fun c d =>
 stN 7 c b d fun e =>
 mk (ob (Z1I PP 40 [(0,(iv 3))]) fun f =>
 callS false EE 28 [(shr x0),f] e fun g h =>
 mk (ob (ldN true 7 c h) fun i =>
 callS false EE 29 [(shr x0),i] h fun j k =>
 mk (ob (Z1I PP 40 [(0,(iv 2))]) fun l =>
 callS false EE 28 [(shr x0),l] k fun n o =>
 ob (xlit PP 96 1 [(0,n)]) fun p =>
 ob (xapp 1 x4 p) fun q =>
 mk (ob (xbin PP .add 3 (shr (shr g)) (iv 1)) fun r =>
 ob (Z1J (shr x0)) fun s =>
 ob (xfld 0 s) fun t =>
 ob (ldN false 1 t o) fun u =>
 ob (xlen PP 23 u) fun v =>
 callS false EE 58 [(shr x0),(shr (shr g)),r,v,(bv false)] o fun w x =>
 mk (ob (xbin PP .add 3 x18 (iv 1)) fun y =>
 ZmJ m0 x0 x1 q x5 x16 x17 (shr y) (gcB m0 [x0,x1,q,x5,x16,x17,(shr y)] x))))))):=by kernel_rfl
theorem Zy7:ZrH m0 x0 x1 x4 x5 B =
 mk (ob (xidx 7 (shr x1) (shr x5)) fun a =>
 ob (ldN true 7 a B) fun b =>
 callS false EE 29 [(shr x0),b] B fun c d =>
 mk (ob (xlen PP 96 (shr x4)) fun e =>
 Zku m0 x0 (shr x4) e (iv 0) (gcB m0 [x0,(shr x4),e,(iv 0)] d))):=by kernel_rfl
theorem Zy6:Zku m0 x0 x51 x52 x53 B =
 mk (ob (xbin PP .lss 3 x53 x52) fun a =>
 asB a fun b => br b (ZrI m0 x0 x51 x52 x53 (gcB m0 [x0,x51,x52,x53] B))
 (Z4Y B)):=lq_ (by kernel_rfl)
theorem Zy8:ZrI m0 x0 x51 x52 x53 B =
 mk (ob (xidx 1 x51 x53) fun a =>
 ob (ldN false 1 a B) fun b =>
 mk (ob (ncA (shr (Z2g x0))) fun c =>
 ob (flA 0 c) fun d =>
 ob (alA false d B) fun e =>
 ob (ncA (shr (Z2g x0))) fun f =>
 ob (flA 0 f) fun g =>
 ob (ldA false false 1 g B) fun h =>
 ob (xlen PP 23 h) fun i =>
 ob (ixA 6 e (shr (Z2g (shr b)))) fun j =>
 ob (flA 1 j) fun k =>
 ob (stEl 1 k (Z2g i) B) fun l =>
 mk (ob (xbin PP .add 3 (Z2g x53) (iv 1)) fun n =>
 Zku m0 (Z2g x0) (Z2g x51) (Z2g x52) (shr n) (gcB m0 [(Z2g x0),(Z2g x51),(Z2g x52),(shr n)] l)))):=by kernel_rfl
theorem ZGn:EE 40 [x0,x1] B =
 (let m0:=B.length
 mk (mk (ob (xlen PP 29 (shr x1)) fun a =>
 ob (xbin PP .sub 3 a (iv 1)) fun b =>
 mk (ob (xsl 7 (shr x1) none (some (shr (shr b))) none) fun c =>
 ob (xlen PP 29 c) fun d =>
 ZmJ m0 x0 x1 nilA (shr b) c d (iv 0) (gcB m0 [x0,x1,nilA,(shr b),c,d,(iv 0)] B))))):=(E_eq PP XX HH _ _ _).trans (by kernel_rfl)
theorem Zuk:EE 41 [x0,x1,x2] B =
 (let m0:=B.length
 mk (bx x1 B fun a b =>
 mk (ob (ldN true 6 a b) fun c =>
 callS false EE 28 [(shr x0),c] b fun d e =>
 mk (callV HH EE (shr x2) [] e fun f g =>
 mk (ob (Z1I PP 40 [(0,(iv 9))]) fun h =>
 callS false EE 28 [(shr x0),h] g fun i j =>
 mk (ob (ncA (shr (Z2g x0))) fun k =>
 ob (flA 0 k) fun l =>
 ob (alA false l j) fun n =>
 ob (ncA (shr (Z2g x0))) fun o =>
 ob (flA 0 o) fun p =>
 ob (ldA false false 1 p j) fun q =>
 ob (xlen PP 23 q) fun r =>
 ob (ixA 6 n (shr (Z2g (shr d)))) fun s =>
 ob (flA 2 s) fun t =>
 ob (stEl 1 t (Z2g r) j) fun u =>
 Z4Y u)))))):=(E_eq PP XX HH _ _ _).trans (by kernel_rfl)
theorem ZGr:EE 42 [x0,x1] B =
 (let m0:=B.length
 mk (ob (ldN false 1 x0 B) fun a =>
 ob (ldN true 7 x1 B) fun b =>
 callS false EE 43 [a,b] B fun c d =>
 Z4Y d)):=(E_eq PP XX HH _ _ _).trans (by kernel_rfl)
def ZEi:=Z2K Tryd.f43
def Zkx:=l2 (l2 (l2 ZEi))
def Zqb:=l2 (l2 (l2 Zkx))
def Zq9:=l1 (l1 (l2 (l1 (l2 (l2 ZEi)))))
def ZAN:=l2 (l2 Zq9)
def Zqa:=l1 (l1 (l2 (l1 (l2 (l2 Zkx)))))
def Zqc:=l1 (l1 (l2 Zqb))
def ZgJ (m0:Nat):Kont:=kret PP HH 43 Tryd.f43.results
def ZGt:=kseq HH 43 m0 Zkx (exec PP HH 43 m0 EE LL Zkx (ZgJ m0)) (ZgJ m0)
def Zul:=kblk 0 (ZGt m0)
def ZAI:=kloop HH 43 m0 Zq9 (LL 43 m0 Zq9 (Zul m0)) (Zul m0)
def ZGu:=kseq HH 43 m0 Zqb (exec PP HH 43 m0 EE LL Zqb (ZgJ m0)) (ZgJ m0)
def Zum:=kblk 2 (ZGu m0)
def ZGv:=kloop HH 43 m0 Zqa (LL 43 m0 Zqa (Zum m0)) (Zum m0)
def Zun:=kblk 4 (ZgJ m0)
def ZGw:=kloop HH 43 m0 Zqc (LL 43 m0 Zqc (Zun m0)) (Zun m0)
def ZmK:=lp (LL 43 m0 Zq9 (Zul m0) [(0,x0),(3,x3),(4,x4),(13,x13),(14,x14)] B)
def Zuo:=exec PP HH 43 m0 EE LL ZAN (ZAI m0) [(0,x0),(3,x3),(4,x4),(13,x13),(14,x14)] B
def Zq8:=exec PP HH 43 m0 EE LL Zkx (ZgJ m0) [(0,x0),(3,x3),(4,x4)] B
def Zup:=exec PP HH 43 m0 EE LL (l2 ZAN) (ZAI m0) [(0,x0),(3,x3),(4,x4),(13,x13),(14,x14)] B
def ZrJ:=exec PP HH 43 m0 EE LL (l2 Zkx) (ZgJ m0) [(0,x0),(3,x3),(4,x4)] B
def Zkv:=lp (LL 43 m0 Zqa (Zum m0) [(0,x0),(3,x3),(4,x4),(6,x6),(49,x49),(50,x50)] B)
def ZrK:=exec PP HH 43 m0 EE LL (l2 (l2 Zqa)) (ZGv m0) [(0,x0),(3,x3),(4,x4),(6,x6),(49,x49),(50,x50)] B
def ZrL:=exec PP HH 43 m0 EE LL Zqb (ZgJ m0) [(0,x0),(4,x4),(6,x6)] B
def Zkw:=lp (LL 43 m0 Zqc (Zun m0) [(0,x0),(4,x4),(65,x65),(66,x66),(67,x67)] B)
def ZrM:=exec PP HH 43 m0 EE LL (l2 (l2 Zqc)) (ZGw m0) [(0,x0),(4,x4),(65,x65),(66,x66),(67,x67)] B
theorem ZAJ:ZmK m0 x0 x3 x4 x13 x14 B =
 mk (ob (xbin PP .lss 3 x14 x13) fun a =>
 asB a fun b => br b (Zuo m0 x0 x3 x4 x13 x14 (gcB m0 [x0,x3,x4,x13,x14] B))
 (Zq8 m0 x0 x3 x4 (gcB m0 [x0,x3,x4] B))):=lq_ (by kernel_rfl)
theorem ZAK:Zuo m0 x0 x3 x4 x13 x14 B =
 mk (ob (Z1J (shr x0)) fun a =>
 ob (xfld 0 a) fun b =>
 ob (ldN false 1 b B) fun c =>
 ob (xlen PP 23 c) fun d =>
 mk (ob (xfld 6 x3) fun e =>
 ob (ldN false 1 e B) fun f =>
 ob (xidx 7 f (iv 0)) fun g =>
 ob (ldN true 7 g B) fun h =>
 callS false EE 29 [(shr x0),h] B fun i j =>
 mk (ob (Z1J (shr x0)) fun k =>
 ob (xfld 0 k) fun l =>
 ob (ldN false 1 l j) fun n =>
 ob (xlen PP 23 n) fun o =>
 ob (xbin PP .eql 3 o (shr (shr d))) fun p =>
 asB p fun q => br q (Zq8 m0 x0 x3 x4 (gcB m0 [x0,x3,x4] j))
 (Zup m0 x0 x3 x4 x13 x14 (gcB m0 [x0,x3,x4,x13,x14] j))))):=by kernel_rfl
theorem ZAM:Zq8 m0 x0 x3 x4 B =
 mk (ob (xfld 2 x3) fun a =>
 ob (ldN false 1 a B) fun b =>
 ob (xbin PP .lss 3 b (iv 0)) fun c =>
 asB c fun d => br d (mk (ob (xfld 6 x3) fun e =>
 ob (ldN false 1 e B) fun f =>
 ob (xidx 7 f (iv 0)) fun g =>
 ob (ldN true 7 g B) fun h =>
 callS false EE 59 [(shr x0),h,(shr x4)] B fun i j =>
 Z4Y j))
 (ZrJ m0 x0 x3 x4 (gcB m0 [x0,x3,x4] B))):=by kernel_rfl
theorem ZAL:Zup m0 x0 x3 x4 x13 x14 B =
 mk (ob (xbin PP .add 3 x14 (iv 1)) fun a =>
 ZmK m0 x0 x3 x4 x13 (shr a) (gcB m0 [x0,x3,x4,x13,(shr a)] B)):=by kernel_rfl
theorem Zyb:ZrJ m0 x0 x3 x4 B =
 mk (mk (ob (xfld 2 x3) fun a =>
 ob (ldN false 1 a B) fun b =>
 ob (xfld 1 x3) fun c =>
 ob (ldN false 1 c B) fun d =>
 ob (xbin PP .sub 3 b d) fun e =>
 Zkv m0 x0 x3 x4 nilA e (iv 0) (gcB m0 [x0,x3,x4,nilA,e,(iv 0)] B))):=by kernel_rfl
theorem Zy9:Zkv m0 x0 x3 x4 x6 x49 x50 B =
 mk (ob (xbin PP .lss 3 x50 x49) fun a =>
 asB a fun b => br b (ZrK m0 x0 x3 x4 x6 x49 x50 (gcB m0 [x0,x3,x4,x6,x49,x50] B))
 (ZrL m0 x0 x4 x6 (gcB m0 [x0,x4,x6] B))):=lq_ (by kernel_rfl)
theorem Zyc:ZrK m0 x0 x3 x4 x6 x49 x50 B =
 mk (ob (Z1I PP 40 [(0,(iv 3))]) fun a =>
 callS false EE 28 [(shr x0),a] B fun b c =>
 ob (xlit PP 96 1 [(0,b)]) fun d =>
 ob (xapp 1 x6 d) fun e =>
 mk (ob (xfld 6 x3) fun f =>
 ob (ldN false 1 f c) fun g =>
 ob (xidx 7 g (iv 0)) fun h =>
 ob (ldN true 7 h c) fun i =>
 callS false EE 29 [(shr x0),i] c fun j k =>
 mk (ob (xbin PP .add 3 x50 (iv 1)) fun l =>
 Zkv m0 x0 x3 x4 e x49 (shr l) (gcB m0 [x0,x3,x4,e,x49,(shr l)] k)))):=by kernel_rfl
theorem Zyd:ZrL m0 x0 x4 x6 B =
 mk (ob (xlen PP 96 (shr x6)) fun a =>
 Zkw m0 x0 x4 (shr x6) a (iv 0) (gcB m0 [x0,x4,(shr x6),a,(iv 0)] B)):=by kernel_rfl
theorem Zya:Zkw m0 x0 x4 x65 x66 x67 B =
 mk (ob (xbin PP .lss 3 x67 x66) fun a =>
 asB a fun b => br b (ZrM m0 x0 x4 x65 x66 x67 (gcB m0 [x0,x4,x65,x66,x67] B))
 (Z4Y B)):=lq_ (by kernel_rfl)
theorem Zye:ZrM m0 x0 x4 x65 x66 x67 B =
 mk (ob (xidx 1 x65 x67) fun a =>
 ob (ldN false 1 a B) fun b =>
 mk (ob (xbin PP .add 3 (shr (shr b)) (iv 1)) fun c =>
 ob (Z1J (shr x0)) fun d =>
 ob (xfld 0 d) fun e =>
 ob (ldN false 1 e B) fun f =>
 ob (xlen PP 23 f) fun g =>
 callS false EE 58 [(shr x0),(shr (shr b)),c,g,(shr x4)] B fun h i =>
 mk (ob (xbin PP .add 3 x67 (iv 1)) fun j =>
 Zkw m0 x0 x4 x65 x66 (shr j) (gcB m0 [x0,x4,x65,x66,(shr j)] i)))):=by kernel_rfl
theorem ZGs:EE 43 [x0,x1] B =
 (let m0:=B.length
 mk (bx x1 B fun a b =>
 mk (ob (xfld 3 a) fun c =>
 ob (ldN false 1 c b) fun d =>
 ob (xbin PP .eql 3 d (iv 1)) fun e =>
 mk (ob (xfld 1 a) fun f =>
 ob (ldN false 1 f b) fun g =>
 ZmK m0 x0 a (shr e) g (iv 0) (gcB m0 [x0,a,(shr e),g,(iv 0)] b))))):=(E_eq PP XX HH _ _ _).trans (by kernel_rfl)
def Zyf:=Z2K Tryd.f44
def Zuu:=l2 (l2 Zyf)
def Zqe:=l1 (l1 (l2 (l1 (l2 (l2 (l2 (l2 (l2 (l1 (l2 (l1 (l2 Zyf))))))))))))
def Zqf:=l1 (l1 (l2 (l2 (l1 (l2 (l2 (l2 (l2 (l2 (l2 (l2 (l1 (l2 (l1 (l2 Zyf)))))))))))))))
def Zkz:=l2 (l2 Zqf)
def Zuq (m0:Nat):Kont:=kret PP HH 44 Tryd.f44.results
def ZGy:=kseq HH 44 m0 Zuu (exec PP HH 44 m0 EE LL Zuu (Zuq m0)) (Zuq m0)
def ZAO:=kblk 0 (ZGy m0)
def Zur:=kblk 1 (ZAO m0)
def Zus:=kblk 3 (ZAO m0)
def ZGz:=kloop HH 44 m0 Zqe (LL 44 m0 Zqe (Zur m0)) (Zur m0)
def Zqd:=kloop HH 44 m0 Zqf (LL 44 m0 Zqf (Zus m0)) (Zus m0)
def ZGA:=kseq HH 44 m0 (l2 Zkz) (exec PP HH 44 m0 EE LL (l2 Zkz) (Zqd m0)) (Zqd m0)
def ZAP:=kblk 4 (ZGA m0)
def ZmL:=lp (LL 44 m0 Zqe (Zur m0) [(2,x2),(3,x3),(23,x23),(24,x24),(25,x25)] B)
def Zky:=lp (LL 44 m0 Zqf (Zus m0) [(2,x2),(3,x3),(45,x45),(46,x46),(47,x47)] B)
def Zir:=exec PP HH 44 m0 EE LL Zuu (Zuq m0) [(2,x2),(3,x3)] B
def Zut:=exec PP HH 44 m0 EE LL (l2 (l2 Zqe)) (ZGz m0) [(2,x2),(3,x3),(23,x23),(24,x24),(25,x25)] B
def ZrN:=exec PP HH 44 m0 EE LL Zkz (Zqd m0) [(2,x2),(3,x3),(45,x45),(46,x46),(47,x47)] B
def ZnU:=exec PP HH 44 m0 EE LL (l1 (l2 (l2 (l2 (l2 (l1 (l1 Zkz))))))) (ZAP m0) [(2,x2),(45,x45),(46,x46),(47,x47)] B
def ZrO:=exec PP HH 44 m0 EE LL (l2 (l2 (l2 (l2 (l2 (l1 (l1 Zkz))))))) (ZAP m0) [(2,x2),(3,x3),(11,x11),(45,x45),(46,x46),(47,x47)] B
def ZnV:=exec PP HH 44 m0 EE LL (l2 Zkz) (Zqd m0) [(2,x2),(3,x3),(45,x45),(46,x46),(47,x47)] B
theorem ZAQ:ZmL m0 x2 x3 x23 x24 x25 B =
 mk (ob (xbin PP .lss 3 x25 x24) fun a =>
 asB a fun b => br b (Zut m0 x2 x3 x23 x24 x25 (gcB m0 [x2,x3,x23,x24,x25] B))
 (Zir m0 x2 x3 (gcB m0 [x2,x3] B))):=lq_ (by kernel_rfl)
theorem Zyg:Zky m0 x2 x3 x45 x46 x47 B =
 mk (ob (xbin PP .lss 3 x47 x46) fun a =>
 asB a fun b => br b (ZrN m0 x2 x3 x45 x46 x47 (gcB m0 [x2,x3,x45,x46,x47] B))
 (Zir m0 x2 x3 (gcB m0 [x2,x3] B))):=lq_ (by kernel_rfl)
theorem Zyl:Zir m0 x2 x3 B =
 mk (Z5o (shr (shr x2)) (shr (shr x3)) B):=by kernel_rfl
theorem ZAR:Zut m0 x2 x3 x23 x24 x25 B =
 mk (ob (xidx 7 x23 x25) fun a =>
 ob (ldN true 7 a B) fun b =>
 bz PP 31 B fun c d =>
 stN 7 c b d fun e =>
 mk (ob (ldN true 7 c e) fun f =>
 callS false EE 44 [f] e fun g h =>
 ob (xext 0 (shr g)) fun i =>
 ob (xext 1 (shr g)) fun j =>
 mk (ob (xbin PP .add 3 (shr x2) (shr (shr (shr i)))) fun k =>
 ob (Z7J PP false [k,(iv 1048576)]) fun l =>
 callS false EE 60 [(shr x3),(shr (shr (shr j)))] h fun n o =>
 mk (ob (xbin PP .add 3 x25 (iv 1)) fun p =>
 ZmL m0 (shr l) (shr n) x23 x24 (shr p) (gcB m0 [(shr l),(shr n),x23,x24,(shr p)] o))))):=by kernel_rfl
theorem Zyh:ZrN m0 x2 x3 x45 x46 x47 B =
 mk (ob (xidx 7 x45 x47) fun a =>
 ob (ldN true 7 a B) fun b =>
 bz PP 31 B fun c d =>
 stN 7 c b d fun e =>
 mk (ob (ldN true 7 c e) fun f =>
 callS false EE 44 [f] e fun g h =>
 ob (xext 0 (shr g)) fun i =>
 ob (xext 1 (shr g)) fun j =>
 mk (ob (Z7J PP false [(shr x2),(shr (shr (shr i)))]) fun k =>
 mk (ob (xbin PP .lss 3 (shr (shr (shr j))) (iv 0)) fun l =>
 asB (shr l) fun n => br n (ZnU m0 (shr k) x45 x46 x47 (gcB m0 [(shr k),x45,x46,x47] h))
 (ob (xbin PP .lss 3 (shr x3) (iv 0)) fun o =>
 asB (shr o) fun p => br p (ZnU m0 (shr k) x45 x46 x47 (gcB m0 [(shr k),x45,x46,x47] h))
 (ZrO m0 (shr k) x3 (shr (shr j)) x45 x46 x47 (gcB m0 [(shr k),x3,(shr (shr j)),x45,x46,x47] h))))))):=by kernel_rfl
theorem Zyi:ZnU m0 x2 x45 x46 x47 B =
 mk (ZnV m0 x2 (iv (-1)) x45 x46 x47 (gcB m0 [x2,(iv (-1)),x45,x46,x47] B)):=by kernel_rfl
theorem Zyj:ZrO m0 x2 x3 x11 x45 x46 x47 B =
 mk (ob (Z7J PP true [(shr x3),(shr x11)]) fun a =>
 ZnV m0 x2 (shr a) x45 x46 x47 (gcB m0 [x2,(shr a),x45,x46,x47] B)):=by kernel_rfl
theorem Zyk:ZnV m0 x2 x3 x45 x46 x47 B =
 mk (ob (xbin PP .add 3 x47 (iv 1)) fun a =>
 Zky m0 x2 x3 x45 x46 (shr a) (gcB m0 [x2,x3,x45,x46,(shr a)] B)):=by kernel_rfl
theorem ZGx:EE 44 [x0] B =
 (let m0:=B.length
 mk (bx x0 B fun a b =>
 mk (ob (xfld 0 a) fun c =>
 ob (ldN false 1 c b) fun d =>
 mk (ob (xbin PP .eql 3 d (iv 1)) fun e =>
 asB (shr e) fun f => br f (mk (Z5o (iv 1) (iv 1) b))
 (mk (ob (xbin PP .eql 3 d (iv 6)) fun g =>
 asB (shr g) fun h => br h (mk (Z5o (iv 0) (iv (-1)) b))
 (mk (ob (xbin PP .eql 3 d (iv 2)) fun i =>
 asB (shr i) fun j => br j (mk (ob (xfld 6 a) fun k =>
 ob (ldN false 1 k b) fun l =>
 ob (xlen PP 29 l) fun n =>
 ZmL m0 (iv 0) (iv 0) l n (iv 0) (gcB m0 [(iv 0),(iv 0),l,n,(iv 0)] b)))
 (mk (ob (xbin PP .eql 3 d (iv 3)) fun o =>
 asB (shr o) fun p => br p (mk (mk (ob (xfld 6 a) fun q =>
 ob (ldN false 1 q b) fun r =>
 ob (xlen PP 29 r) fun s =>
 Zky m0 (iv 1048576) (iv 0) r s (iv 0) (gcB m0 [(iv 1048576),(iv 0),r,s,(iv 0)] b))))
 (mk (ob (xbin PP .eql 3 d (iv 4)) fun t =>
 asB (shr t) fun u => br u (mk (ob (xfld 6 a) fun v =>
 ob (ldN false 1 v b) fun w =>
 ob (xidx 7 w (iv 0)) fun x =>
 ob (ldN true 7 x b) fun y =>
 callS false EE 44 [y] b fun z A =>
 ob (xext 0 (shr z)) fun C =>
 ob (xext 1 (shr z)) fun D =>
 mk (ob (xfld 1 a) fun F =>
 ob (ldN false 1 F A) fun G =>
 ob (xbin PP .mul 3 (shr (shr (shr C))) G) fun I =>
 ob (Z7J PP false [I,(iv 1048576)]) fun J =>
 ob (xfld 2 a) fun M =>
 ob (ldN false 1 M A) fun N =>
 callS false EE 61 [(shr (shr (shr D))),N] A fun O Q =>
 grd (Z6r [O,(shr (shr (shr D))),N]) (Z5o (shr J) (shr O) Q))))
 (mk (ob (xbin PP .eql 3 d (iv 5)) fun R =>
 asB (shr R) fun S => br S (asB (shr R) fun T => br T (mk (ob (xfld 6 a) fun U =>
 ob (ldN false 1 U b) fun V =>
 ob (xidx 7 V (iv 0)) fun W =>
 ob (ldN true 7 W b) fun Y =>
 callS false EE 44 [Y] b fun Z a0 =>
 ob (xext 0 Z) fun a1 =>
 ob (xext 1 Z) fun a2 =>
 Z5o (shr (shr a1)) (shr (shr a2)) a0))
 (Zir m0 (iv 0) (iv 0) (gcB m0 [(iv 0),(iv 0)] b)))
 (mk (ob (xbin PP .eql 3 d (iv 8)) fun a3 =>
 asB (shr a3) fun a4 => br a4 (mk (ob (xfld 6 a) fun a5 =>
 ob (ldN false 1 a5 b) fun a6 =>
 ob (xidx 7 a6 (iv 0)) fun a7 =>
 ob (ldN true 7 a7 b) fun a8 =>
 callS false EE 44 [a8] b fun a9 a10 =>
 ob (xext 0 a9) fun a11 =>
 ob (xext 1 a9) fun a12 =>
 Z5o (shr (shr a11)) (shr (shr a12)) a10))
 (Zir m0 (iv 0) (iv 0) (gcB m0 [(iv 0),(iv 0)] b)))))))))))))))))):=(E_eq PP XX HH _ _ _).trans (by kernel_rfl)
theorem ZGB:EE 45 [x0,x1] B =
 (let m0:=B.length
 mk (ob (ldN false 1 x0 B) fun a =>
 ob (xfld 6 x1) fun b =>
 ob (ldN false 1 b B) fun c =>
 ob (xidx 7 c (iv 0)) fun d =>
 ob (ldN true 7 d B) fun e =>
 callS false EE 29 [a,e] B fun f g =>
 Z4Y g)):=(E_eq PP XX HH _ _ _).trans (by kernel_rfl)
theorem ZGC:EE 46 [x0,x1] B =
 (let m0:=B.length
 mk (ob (ldN false 1 x0 B) fun a =>
 ob (xfld 6 x1) fun b =>
 ob (ldN false 1 b B) fun c =>
 ob (xidx 7 c (iv 0)) fun d =>
 ob (ldN true 7 d B) fun e =>
 callS false EE 29 [a,e] B fun f g =>
 Z4Y g)):=(E_eq PP XX HH _ _ _).trans (by kernel_rfl)
def ZIa:=Z2K Tryd.f47
def ZGE (m0:Nat):Kont:=kret PP HH 47 Tryd.f47.results
def Zuv:=exec PP HH 47 m0 EE LL (l2 (l2 ZIa)) (ZGE m0) [(0,x0)] B
theorem ZAS:Zuv m0 x0 B =
 mk (ob (Z1J (shr x0)) fun a =>
 ob (xfld 0 a) fun b =>
 ob (ldN false 1 b B) fun c =>
 ob (Z1J (shr x0)) fun d =>
 ob (xfld 1 d) fun e =>
 ob (ldN false 1 e B) fun f =>
 callS false EE 62 [c,f] B fun g h =>
 ob (xext 0 (shr g)) fun i =>
 ob (xext 1 (shr g)) fun j =>
 mk (Z1B (shr (shr (shr (shr i)))) h)):=by kernel_rfl
theorem ZGD:EE 47 [x0] B =
 (let m0:=B.length
 mk (mk (ob (Z1J (shr x0)) fun a =>
 ob (xfld 1 a) fun b =>
 ob (ldN false 1 b B) fun c =>
 ob (Z1J (shr x0)) fun d =>
 ob (xfld 0 d) fun e =>
 ob (ldN false 1 e B) fun f =>
 ob (xlen PP 54 f) fun g =>
 ob (xbin PP .geq 3 c g) fun h =>
 asB h fun i => br i (mk (Z1B (iv (-1)) B))
 (Zuv m0 x0 (gcB m0 [x0] B))))):=(E_eq PP XX HH _ _ _).trans (by kernel_rfl)
def ZIb:=Z2K Tryd.f48
def Z6E (r0 r1:AV) (B:List Row):Option Res :=
 ob (ob (ldN true 7 r0 B) fun v => ob (ob (some r1) fun v => ob (some []) fun vs => some (v :: vs)) fun vs => some (v :: vs)) fun vs => some ((nrmA (match vs with | [v] => v | vs => Z98 (vs.map shr))),B)
def ZGG (m0:Nat):Kont:=kret PP HH 48 Tryd.f48.results
def Z8F:=exec PP HH 48 m0 EE LL (l2 (l2 (l2 ZIb))) (ZGG m0) [(2,x2)] B
theorem Zym:Z8F m0 x2 B =
 mk (ob (Z1I PP 31 []) fun a =>
 stN 7 x2 a B fun b =>
 Z6E x2 (bv true) b):=by kernel_rfl
theorem ZGF:EE 48 [x0] B =
 (let m0:=B.length
 mk (bz PP 31 B fun a b =>
 mk (ob (Z1J (shr x0)) fun c =>
 ob (xfld 1 c) fun d =>
 ob (ldN false 1 d b) fun e =>
 mk (callS false EE 63 [(shr x0)] b fun f g =>
 mk (mk (ob (xbin PP .eql 3 (shr (shr f)) (iv 46)) fun h =>
 asB (shr h) fun i => br i (mk (callS false EE 65 [(iv 10)] g fun j k =>
 ob (xlit PP 27 1 [(0,j)]) fun l =>
 callS false EE 64 [(bv true),l] k fun n o =>
 stN 7 a n o fun p =>
 Z6E a (bv true) p))
 (mk (ob (xbin PP .eql 3 (shr (shr f)) (iv 94)) fun q =>
 asB (shr q) fun r => br r (mk (ob (Z1I PP 31 [(0,(iv 9)),(4,(iv 0))]) fun s =>
 stN 7 a s g fun t =>
 Z6E a (bv false) t))
 (mk (ob (xbin PP .eql 3 (shr (shr f)) (iv 36)) fun u =>
 asB (shr u) fun v => br v (mk (ob (Z1I PP 31 [(0,(iv 9)),(4,(iv 1))]) fun w =>
 stN 7 a w g fun x =>
 Z6E a (bv false) x))
 (mk (ob (xbin PP .eql 3 (shr (shr f)) (iv 92)) fun y =>
 asB (shr y) fun z => br z (mk (callS false EE 66 [(shr x0),(shr (shr e))] g fun A C =>
 bz PP 31 C fun D F =>
 stN 7 D A F fun G =>
 mk (ob (ldN true 7 D G) fun I =>
 ob (xfld 0 D) fun J =>
 ob (ldN false 1 J G) fun M =>
 ob (xbin PP .neq 3 M (iv 9)) fun N =>
 stN 7 a I G fun O =>
 grd (ZbB J a) (Z6E a (shr N) O))))
 (mk (ob (xbin PP .eql 3 (shr (shr f)) (iv 91)) fun Q =>
 asB (shr Q) fun R => br R (mk (callS false EE 67 [(shr x0),(shr (shr e))] g fun S T =>
 stN 7 a S T fun U =>
 Z6E a (bv true) U))
 (mk (ob (xbin PP .eql 3 (shr (shr f)) (iv 40)) fun V =>
 asB (shr V) fun W => br W (mk (callS false EE 68 [(shr x0),(shr (shr e))] g fun Y Z =>
 ob (xext 0 Y) fun a0 =>
 ob (xext 1 Y) fun a1 =>
 stN 7 a (shr a0) Z fun a2 =>
 Z6E a (shr (shr a1)) a2))
 (mk (ob (xbin PP .eql 3 (shr (shr f)) (iv 42)) fun a3 =>
 asB (shr a3) fun a4 => br a4 (asB (shr a3) fun a5 => br a5 (mk (callS false EE 21 [(shr x0),(iv 23),(shr (shr e))] g fun a6 a7 =>
 Z8F m0 a (gcB m0 [a] a7)))
 (mk (ob (xbin PP .eql 3 (shr (shr f)) (iv 93)) fun a8 =>
 asB (shr a8) fun a9 => br a9 (asB (shr a8) fun a10 => br a10 (mk (callS false EE 21 [(shr x0),(iv 20),(shr (shr e))] g fun a11 a12 =>
 Z8F m0 a (gcB m0 [a] a12)))
 (mk (callS false EE 65 [(shr (shr f))] g fun a13 a14 =>
 ob (xlit PP 27 1 [(0,a13)]) fun a15 =>
 callS false EE 64 [(bv false),a15] a14 fun a16 a17 =>
 stN 7 a a16 a17 fun a18 =>
 Z6E a (bv true) a18)))
 (mk (ob (xbin PP .eql 3 (shr (shr f)) (iv 125)) fun a19 =>
 asB (shr a19) fun a20 => br a20 (mk (callS false EE 21 [(shr x0),(iv 20),(shr (shr e))] g fun a21 a22 =>
 Z8F m0 a (gcB m0 [a] a22)))
 (mk (callS false EE 65 [(shr (shr f))] g fun a23 a24 =>
 ob (xlit PP 27 1 [(0,a23)]) fun a25 =>
 callS false EE 64 [(bv false),a25] a24 fun a26 a27 =>
 stN 7 a a26 a27 fun a28 =>
 Z6E a (bv true) a28)))))))
 (mk (ob (xbin PP .eql 3 (shr (shr f)) (iv 43)) fun a29 =>
 asB (shr a29) fun a30 => br a30 (asB (shr a29) fun a31 => br a31 (mk (callS false EE 21 [(shr x0),(iv 23),(shr (shr e))] g fun a32 a33 =>
 Z8F m0 a (gcB m0 [a] a33)))
 (mk (ob (xbin PP .eql 3 (shr (shr f)) (iv 93)) fun a34 =>
 asB (shr a34) fun a35 => br a35 (asB (shr a34) fun a36 => br a36 (mk (callS false EE 21 [(shr x0),(iv 20),(shr (shr e))] g fun a37 a38 =>
 Z8F m0 a (gcB m0 [a] a38)))
 (mk (callS false EE 65 [(shr (shr f))] g fun a39 a40 =>
 ob (xlit PP 27 1 [(0,a39)]) fun a41 =>
 callS false EE 64 [(bv false),a41] a40 fun a42 a43 =>
 stN 7 a a42 a43 fun a44 =>
 Z6E a (bv true) a44)))
 (mk (ob (xbin PP .eql 3 (shr (shr f)) (iv 125)) fun a45 =>
 asB (shr a45) fun a46 => br a46 (mk (callS false EE 21 [(shr x0),(iv 20),(shr (shr e))] g fun a47 a48 =>
 Z8F m0 a (gcB m0 [a] a48)))
 (mk (callS false EE 65 [(shr (shr f))] g fun a49 a50 =>
 ob (xlit PP 27 1 [(0,a49)]) fun a51 =>
 callS false EE 64 [(bv false),a51] a50 fun a52 a53 =>
 stN 7 a a52 a53 fun a54 =>
 Z6E a (bv true) a54)))))))
 (mk (ob (xbin PP .eql 3 (shr (shr f)) (iv 63)) fun a55 =>
 asB (shr a55) fun a56 => br a56 (asB (shr a55) fun a57 => br a57 (mk (callS false EE 21 [(shr x0),(iv 23),(shr (shr e))] g fun a58 a59 =>
 Z8F m0 a (gcB m0 [a] a59)))
 (mk (ob (xbin PP .eql 3 (shr (shr f)) (iv 93)) fun a60 =>
 asB (shr a60) fun a61 => br a61 (asB (shr a60) fun a62 => br a62 (mk (callS false EE 21 [(shr x0),(iv 20),(shr (shr e))] g fun a63 a64 =>
 Z8F m0 a (gcB m0 [a] a64)))
 (mk (callS false EE 65 [(shr (shr f))] g fun a65 a66 =>
 ob (xlit PP 27 1 [(0,a65)]) fun a67 =>
 callS false EE 64 [(bv false),a67] a66 fun a68 a69 =>
 stN 7 a a68 a69 fun a70 =>
 Z6E a (bv true) a70)))
 (mk (ob (xbin PP .eql 3 (shr (shr f)) (iv 125)) fun a71 =>
 asB (shr a71) fun a72 => br a72 (mk (callS false EE 21 [(shr x0),(iv 20),(shr (shr e))] g fun a73 a74 =>
 Z8F m0 a (gcB m0 [a] a74)))
 (mk (callS false EE 65 [(shr (shr f))] g fun a75 a76 =>
 ob (xlit PP 27 1 [(0,a75)]) fun a77 =>
 callS false EE 64 [(bv false),a77] a76 fun a78 a79 =>
 stN 7 a a78 a79 fun a80 =>
 Z6E a (bv true) a80)))))))
 (mk (ob (xbin PP .eql 3 (shr (shr f)) (iv 123)) fun a81 =>
 asB (shr a81) fun a82 => br a82 (mk (callS false EE 21 [(shr x0),(iv 23),(shr (shr e))] g fun a83 a84 =>
 Z8F m0 a (gcB m0 [a] a84)))
 (mk (ob (xbin PP .eql 3 (shr (shr f)) (iv 93)) fun a85 =>
 asB (shr a85) fun a86 => br a86 (asB (shr a85) fun a87 => br a87 (mk (callS false EE 21 [(shr x0),(iv 20),(shr (shr e))] g fun a88 a89 =>
 Z8F m0 a (gcB m0 [a] a89)))
 (mk (callS false EE 65 [(shr (shr f))] g fun a90 a91 =>
 ob (xlit PP 27 1 [(0,a90)]) fun a92 =>
 callS false EE 64 [(bv false),a92] a91 fun a93 a94 =>
 stN 7 a a93 a94 fun a95 =>
 Z6E a (bv true) a95)))
 (mk (ob (xbin PP .eql 3 (shr (shr f)) (iv 125)) fun a96 =>
 asB (shr a96) fun a97 => br a97 (mk (callS false EE 21 [(shr x0),(iv 20),(shr (shr e))] g fun a98 a99 =>
 Z8F m0 a (gcB m0 [a] a99)))
 (mk (callS false EE 65 [(shr (shr f))] g fun a100 a101 =>
 ob (xlit PP 27 1 [(0,a100)]) fun a102 =>
 callS false EE 64 [(bv false),a102] a101 fun a103 a104 =>
 stN 7 a a103 a104 fun a105 =>
 Z6E a (bv true) a105)))))))))))))))))))))))))))))):=(E_eq PP XX HH _ _ _).trans (by kernel_rfl)
def ZIc:=Z2K Tryd.f49
def Zux:=l2 (l2 (l2 (l2 ZIc)))
def Zuw (m0:Nat):Kont:=kret PP HH 49 Tryd.f49.results
def Zis:=exec PP HH 49 m0 EE LL Zux (Zuw m0) [(0,x0),(2,x2),(6,x6),(7,x7),(8,x8)] B
def ZnW:=exec PP HH 49 m0 EE LL (l2 Zux) (Zuw m0) [(0,x0),(6,x6),(8,x8)] B
def ZkA:=exec PP HH 49 m0 EE LL (l2 (l2 Zux)) (Zuw m0) [(6,x6),(8,x8)] B
theorem Zyn:Zis m0 x0 x2 x6 x7 x8 B =
 mk (ob (xun PP .not (shr x2)) fun a =>
 asB a fun b => br b (mk (callS false EE 21 [(shr x0),(iv 23),(shr x7)] B fun c d =>
 ZnW m0 x0 x6 x8 (gcB m0 [x0,x6,x8] d)))
 (ZnW m0 x0 x6 x8 (gcB m0 [x0,x6,x8] B))):=by kernel_rfl
theorem Zyo:ZnW m0 x0 x6 x8 B =
 mk (callS false EE 19 [(shr x0),(.p (.v (.string (ByteArray.mk #[63]))))] B fun a b =>
 asB (shr a) fun c => br c (mk (ob (xfld 3 x8) fun d =>
 stN 1 d (iv 1) b fun e =>
 ZkA m0 x6 x8 (gcB m0 [x6,x8] e)))
 (mk (callS false EE 19 [(shr x0),(.p (.v (.string (ByteArray.mk #[43]))))] b fun f g =>
 asB (shr f) fun h => br h (mk (ob (xfld 3 x8) fun i =>
 stN 1 i (iv 2) g fun j =>
 ZkA m0 x6 x8 (gcB m0 [x6,x8] j)))
 (ZkA m0 x6 x8 (gcB m0 [x6,x8] g))))):=by kernel_rfl
theorem Zyp:ZkA m0 x6 x8 B =
 mk (ob (ldN true 7 x8 B) fun a =>
 stN 7 x6 a B fun b =>
 Z7G x6 b):=by kernel_rfl
theorem ZGH:EE 49 [x0,x1,x2] B =
 (let m0:=B.length
 mk (bx x1 B fun a b =>
 bz PP 31 b fun c d =>
 mk (ob (Z1J (shr x0)) fun e =>
 ob (xfld 1 e) fun f =>
 ob (ldN false 1 f d) fun g =>
 mk (ob (ldN true 7 a d) fun h =>
 ob (xlit PP 29 1 [(0,h)]) fun i =>
 ob (Z1I PP 31 [(0,(iv 4)),(2,(iv (-1))),(6,i)]) fun j =>
 bz PP 31 d fun k l =>
 stN 7 k j l fun n =>
 mk (callS false EE 19 [(shr x0),(.p (.v (.string (ByteArray.mk #[42]))))] n fun o q =>
 asB (shr o) fun r => br r (Zis m0 x0 x2 c (shr g) k (gcB m0 [x0,x2,c,(shr g),k] q))
 (mk (callS false EE 19 [(shr x0),(.p (.v (.string (ByteArray.mk #[43]))))] q fun s t =>
 asB (shr s) fun u => br u (mk (ob (xfld 1 k) fun w =>
 stN 1 w (iv 1) t fun x =>
 Zis m0 x0 x2 c (shr g) k (gcB m0 [x0,x2,c,(shr g),k] x)))
 (mk (callS false EE 19 [(shr x0),(.p (.v (.string (ByteArray.mk #[63]))))] t fun y z =>
 asB (shr y) fun A => br A (mk (ob (xfld 2 k) fun C =>
 stN 1 C (iv 1) z fun D =>
 Zis m0 x0 x2 c (shr g) k (gcB m0 [x0,x2,c,(shr g),k] D)))
 (mk (callS false EE 19 [(shr x0),(.p (.v (.string (ByteArray.mk #[123]))))] z fun F G =>
 asB (shr F) fun I => br I (mk (callS false EE 69 [(shr x0),(shr (shr g))] G fun J M =>
 ob (xext 0 (shr J)) fun N =>
 ob (xext 1 (shr J)) fun O =>
 ob (xfld 1 k) fun Q =>
 stN 1 Q (shr N) M fun R =>
 ob (xfld 2 k) fun S =>
 stN 1 S (shr O) R fun T =>
 Zis m0 x0 x2 c (shr g) k (gcB m0 [x0,x2,c,(shr g),k] T)))
 (mk (ob (ldN true 7 a G) fun U =>
 stN 7 c U G fun V =>
 Z7G c V))))))))))))):=(E_eq PP XX HH _ _ _).trans (by kernel_rfl)
def ZEj:=Z2K Tryd.f50
def ZuD:=l2 (l2 ZEj)
def Zqg:=l1 (l1 (l2 (l1 (l2 ZEj))))
def ZAY:=l2 (l2 Zqg)
def Zuy (m0:Nat):Kont:=kret PP HH 50 Tryd.f50.results
def ZGJ:=kseq HH 50 m0 ZuD (exec PP HH 50 m0 EE LL ZuD (Zuy m0)) (Zuy m0)
def Zuz:=kblk 0 (ZGJ m0)
def ZAT:=kloop HH 50 m0 Zqg (LL 50 m0 Zqg (Zuz m0)) (Zuz m0)
def ZmM:=lp (LL 50 m0 Zqg (Zuz m0) [(0,x0),(1,x1),(7,x7),(8,x8)] B)
def ZuA:=exec PP HH 50 m0 EE LL ZAY (ZAT m0) [(0,x0),(1,x1),(7,x7),(8,x8)] B
def ZuC:=exec PP HH 50 m0 EE LL ZuD (Zuy m0) [] B
def ZuB:=exec PP HH 50 m0 EE LL (l2 ZAY) (ZAT m0) [(0,x0),(1,x1),(7,x7),(8,x8)] B
theorem ZAU:ZmM m0 x0 x1 x7 x8 B =
 mk (ob (xbin PP .lss 3 x8 x7) fun a =>
 asB a fun b => br b (ZuA m0 x0 x1 x7 x8 (gcB m0 [x0,x1,x7,x8] B))
 (ZuC m0 (gcB m0 [] B))):=lq_ (by kernel_rfl)
theorem ZAV:ZuA m0 x0 x1 x7 x8 B =
 mk (mk (ob (xidx 2 (shr x0) (shr (shr (shr x8)))) fun a =>
 ob (ldN true 2 a B) fun b =>
 callV HH EE (shr x1) [b] B fun c d =>
 asB c fun e => br e (mk (Z1B (shr (shr (shr (shr x8)))) d))
 (ZuB m0 x0 x1 x7 x8 (gcB m0 [x0,x1,x7,x8] d)))):=by kernel_rfl
theorem ZAX:ZuC m0 B =
 mk (Z1B (iv (-1)) B):=by kernel_rfl
theorem ZAW:ZuB m0 x0 x1 x7 x8 B =
 mk (ob (xbin PP .add 3 x8 (iv 1)) fun a =>
 ZmM m0 x0 x1 x7 (shr a) (gcB m0 [x0,x1,x7,(shr a)] B)):=by kernel_rfl
theorem ZGI:EE 50 [x0,x1] B =
 (let m0:=B.length
 mk (mk (ob (xlen PP 28 (shr x0)) fun a =>
 ZmM m0 x0 x1 a (iv 0) (gcB m0 [x0,x1,a,(iv 0)] B)))):=(E_eq PP XX HH _ _ _).trans (by kernel_rfl)
theorem ZGK:EE 55 [x0,x1] B =
 (let m0:=B.length
 mk (mk (callS false EE 73 [(shr x0),(shr x1)] B fun a b =>
 ob (xbin PP .geq 3 a (iv 0)) fun c =>
 Z1B (shr c) b))):=(E_eq PP XX HH _ _ _).trans (by kernel_rfl)
theorem ZGL:EE 56 [x0] B =
 (let m0:=B.length
 mk (bx x0 B fun a b =>
 mk (ob (ldN true 7 a b) fun c =>
 callS false EE 38 [c] b fun d e =>
 ob (xun PP .not d) fun f =>
 Z1B (shr f) e))):=(E_eq PP XX HH _ _ _).trans (by kernel_rfl)
def ZId:=Z2K Tryd.f58
def ZGN (m0:Nat):Kont:=kret PP HH 58 Tryd.f58.results
def Zqh:=exec PP HH 58 m0 EE LL (l2 ZId) (ZGN m0) [(0,x0),(1,x1),(2,x2),(3,x3)] B
theorem ZAZ:Zqh m0 x0 x1 x2 x3 B =
 mk (ob (ncA (shr (Z2g x0))) fun a =>
 ob (flA 0 a) fun b =>
 ob (alA false b B) fun c =>
 ob (ncA (shr (Z2g x0))) fun d =>
 ob (flA 0 d) fun e =>
 ob (alA false e B) fun f =>
 ob (ixA 6 c (shr (Z2g x1))) fun g =>
 ob (flA 1 g) fun h =>
 ob (stEl 1 h (shr (Z2g x2)) B) fun i =>
 ob (ixA 6 f (shr (Z2g x1))) fun j =>
 ob (flA 2 j) fun k =>
 ob (stEl 1 k (shr (Z2g x3)) i) fun l =>
 Z4Y l):=by kernel_rfl
theorem ZGM:EE 58 [x0,x1,x2,x3,x4] B =
 (let m0:=B.length
 mk (asB (shr x4) fun a => br a (mk (Zqh m0 x0 x1 (shr (shr x3)) (shr (shr x2)) (gcB m0 [x0,x1,(shr (shr x3)),(shr (shr x2))] B)))
 (Zqh m0 x0 x1 x2 x3 (gcB m0 [x0,x1,x2,x3] B)))):=(E_eq PP XX HH _ _ _).trans (by kernel_rfl)
theorem ZGO:EE 59 [x0,x1,x2] B =
 (let m0:=B.length
 mk (bx x1 B fun a b =>
 mk (ob (Z1I PP 40 [(0,(iv 3))]) fun c =>
 callS false EE 28 [(shr x0),c] b fun d e =>
 mk (ob (Z1J (shr x0)) fun f =>
 ob (xfld 2 f) fun g =>
 ob (ldN false 1 g e) fun h =>
 mk (ob (Z1J (shr x0)) fun i =>
 ob (xfld 2 i) fun j =>
 ob (ldN false 1 j e) fun k =>
 ob (xbin PP .add 3 k (iv 1)) fun l =>
 ob (Z1J (shr x0)) fun n =>
 ob (xfld 2 n) fun o =>
 stN 1 o l e fun p =>
 mk (ob (Z1I PP 40 [(0,(iv 10)),(1,(shr (shr h)))]) fun q =>
 callS false EE 28 [(shr x0),q] p fun r s =>
 mk (ob (ldN true 7 a s) fun t =>
 callS false EE 29 [(shr x0),t] s fun u v =>
 mk (ob (Z1I PP 40 [(0,(iv 11)),(1,(shr (shr h)))]) fun w =>
 callS false EE 28 [(shr x0),w] v fun x y =>
 mk (ob (Z1I PP 40 [(0,(iv 2)),(1,(shr (shr d)))]) fun z =>
 callS false EE 28 [(shr x0),z] y fun A C =>
 mk (ob (xbin PP .add 3 (shr (shr d)) (iv 1)) fun D =>
 ob (Z1J (shr x0)) fun F =>
 ob (xfld 0 F) fun G =>
 ob (ldN false 1 G C) fun I =>
 ob (xlen PP 23 I) fun J =>
 callS false EE 58 [(shr x0),(shr (shr d)),D,J,(shr x2)] C fun M N =>
 Z4Y N)))))))))):=(E_eq PP XX HH _ _ _).trans (by kernel_rfl)
def ZEk:=Z2K Tryd.f60
def ZuG:=l2 (l2 ZEk)
def ZuE (m0:Nat):Kont:=kret PP HH 60 Tryd.f60.results
def ZGQ:=kseq HH 60 m0 ZuG (exec PP HH 60 m0 EE LL ZuG (ZuE m0)) (ZuE m0)
def Zqi:=exec PP HH 60 m0 EE LL (l1 (l2 (l1 (l2 ZEk)))) (ZGQ m0) [] B
def ZuF:=exec PP HH 60 m0 EE LL ZuG (ZuE m0) [(0,x0),(1,x1)] B
theorem ZB0:Zqi m0 B =
 mk (Z1B (iv (-1)) B):=by kernel_rfl
theorem ZB1:ZuF m0 x0 x1 B =
 mk (ob (xbin PP .add 3 (shr x0) (shr x1)) fun a =>
 callS false EE 75 [a] B fun b c =>
 Z1B (shr b) c):=by kernel_rfl
theorem ZGP:EE 60 [x0,x1] B =
 (let m0:=B.length
 mk (mk (ob (xbin PP .lss 3 (shr x0) (iv 0)) fun a =>
 asB (shr a) fun b => br b (Zqi m0 (gcB m0 [] B))
 (ob (xbin PP .lss 3 (shr x1) (iv 0)) fun c =>
 asB (shr c) fun d => br d (Zqi m0 (gcB m0 [] B))
 (ZuF m0 x0 x1 (gcB m0 [x0,x1] B)))))):=(E_eq PP XX HH _ _ _).trans (by kernel_rfl)
def Zyq:=Z2K Tryd.f61
def ZuL:=l2 (l2 Zyq)
def ZB6:=l2 (l2 (l1 (l1 (l2 Zyq))))
def ZuH (m0:Nat):Kont:=kret PP HH 61 Tryd.f61.results
def ZGS:=kseq HH 61 m0 ZuL (exec PP HH 61 m0 EE LL ZuL (ZuH m0)) (ZuH m0)
def ZuI:=kblk 0 (ZGS m0)
def Zqj:=exec PP HH 61 m0 EE LL (l1 (l2 (l1 (l1 (l2 Zyq))))) (ZuI m0) [] B
def ZuJ:=exec PP HH 61 m0 EE LL ZB6 (ZuI m0) [(0,x0),(1,x1)] B
def Zqk:=exec PP HH 61 m0 EE LL (l1 (l2 ZB6)) (ZuI m0) [] B
def ZuK:=exec PP HH 61 m0 EE LL ZuL (ZuH m0) [(0,x0),(1,x1)] B
theorem ZB2:Zqj m0 B =
 mk (Z1B (iv 0) B):=by kernel_rfl
theorem ZB3:ZuJ m0 x0 x1 B =
 mk (ob (xbin PP .lss 3 (shr x0) (iv 0)) fun a =>
 asB (shr a) fun b => br b (Zqk m0 (gcB m0 [] B))
 (ob (xbin PP .lss 3 (shr x1) (iv 0)) fun c =>
 asB (shr (shr c)) fun d => br d (Zqk m0 (gcB m0 [] B))
 (ZuK m0 x0 x1 (gcB m0 [x0,x1] B)))):=by kernel_rfl
theorem ZB4:Zqk m0 B =
 mk (Z1B (iv (-1)) B):=by kernel_rfl
theorem ZB5:ZuK m0 x0 x1 B =
 mk (ob (xbin PP .mul 3 (shr x0) (shr x1)) fun a =>
 callS false EE 75 [a] B fun b c =>
 Z1B (shr b) c):=by kernel_rfl
theorem ZGR:EE 61 [x0,x1] B =
 (let m0:=B.length
 mk (mk (ob (xbin PP .eql 3 (shr x0) (iv 0)) fun a =>
 asB (shr a) fun b => br b (Zqj m0 (gcB m0 [] B))
 (ob (xbin PP .eql 3 (shr x1) (iv 0)) fun c =>
 asB (shr (shr c)) fun d => br d (Zqj m0 (gcB m0 [] B))
 (ZuJ m0 x0 x1 (gcB m0 [x0,x1] B)))))):=(E_eq PP XX HH _ _ _).trans (by kernel_rfl)
def ZEl:=Z2K Tryd.f62
def ZmN:=l2 (l2 ZEl)
def ZuO:=l2 (l2 ZmN)
def ZkB (m0:Nat):Kont:=kret PP HH 62 Tryd.f62.results
def ZGU:=kseq HH 62 m0 ZmN (exec PP HH 62 m0 EE LL ZmN (ZkB m0)) (ZkB m0)
def ZGV:=kseq HH 62 m0 ZuO (exec PP HH 62 m0 EE LL ZuO (ZkB m0)) (ZkB m0)
def Zql:=exec PP HH 62 m0 EE LL (l1 (l2 (l1 (l2 ZEl)))) (ZGU m0) [] B
def ZuM:=exec PP HH 62 m0 EE LL ZmN (ZkB m0) [(0,x0),(1,x1)] B
def ZuN:=exec PP HH 62 m0 EE LL (l1 (l2 (l1 (l2 ZmN)))) (ZGV m0) [(0,x0),(1,x1)] B
def Zqm:=exec PP HH 62 m0 EE LL ZuO (ZkB m0) [(6,x6),(7,x7)] B
theorem ZB7:Zql m0 B =
 mk (Z5o (iv 0) (iv 0) B):=by kernel_rfl
theorem ZB8:ZuM m0 x0 x1 B =
 mk (ob (xsl 1 (shr x0) (some (shr x1)) none none) fun a =>
 callS false EE 76 [a] B fun b c =>
 ob (xext 0 (shr b)) fun d =>
 ob (xext 1 (shr b)) fun e =>
 mk (ob (xbin PP .eql 21 (shr (shr (shr d))) (kv .i32 65533)) fun f =>
 asB (shr f) fun g => br g (ob (xbin PP .eql 3 (shr (shr (shr e))) (iv 1)) fun h =>
 asB (shr h) fun i => br i (ZuN m0 x0 x1 (gcB m0 [x0,x1] c))
 (Zqm m0 (shr (shr d)) (shr (shr e)) (gcB m0 [(shr (shr d)),(shr (shr e))] c)))
 (Zqm m0 (shr (shr d)) (shr (shr e)) (gcB m0 [(shr (shr d)),(shr (shr e))] c)))):=by kernel_rfl
theorem ZB9:ZuN m0 x0 x1 B =
 mk (ob (xidx 1 (shr x0) (shr x1)) fun a =>
 ob (ldN false 1 a B) fun b =>
 ob (xcnv PP 5 3 b) fun c =>
 ob (xbin PP .add 3 (iv 1114112) c) fun d =>
 Z5o (shr d) (iv 1) B):=by kernel_rfl
theorem ZBa:Zqm m0 x6 x7 B =
 mk (ob (xcnv PP 21 3 (shr x6)) fun a =>
 Z5o (shr a) (shr (shr x7)) B):=by kernel_rfl
theorem ZGT:EE 62 [x0,x1] B =
 (let m0:=B.length
 mk (mk (ob (xbin PP .lss 3 (shr x1) (iv 0)) fun a =>
 asB (shr a) fun b => br b (Zql m0 (gcB m0 [] B))
 (ob (xlen PP 54 (shr x0)) fun c =>
 ob (xbin PP .geq 3 (shr x1) c) fun d =>
 asB (shr d) fun e => br e (Zql m0 (gcB m0 [] B))
 (ZuM m0 x0 x1 (gcB m0 [x0,x1] B)))))):=(E_eq PP XX HH _ _ _).trans (by kernel_rfl)
theorem ZGW:EE 63 [x0] B =
 (let m0:=B.length
 mk (mk (ob (Z1J (shr x0)) fun a =>
 ob (xfld 0 a) fun b =>
 ob (ldN false 1 b B) fun c =>
 ob (Z1J (shr x0)) fun d =>
 ob (xfld 1 d) fun e =>
 ob (ldN false 1 e B) fun f =>
 callS false EE 62 [c,f] B fun g h =>
 ob (xext 0 (shr g)) fun i =>
 ob (xext 1 (shr g)) fun j =>
 mk (ob (Z1J (shr x0)) fun k =>
 ob (xfld 1 k) fun l =>
 ob (ldN false 1 l h) fun n =>
 ob (xbin PP .add 3 n (shr (shr (shr j)))) fun o =>
 ob (Z1J (shr x0)) fun p =>
 ob (xfld 1 p) fun q =>
 stN 1 q o h fun r =>
 mk (Z1B (shr (shr (shr (shr i)))) r))))):=(E_eq PP XX HH _ _ _).trans (by kernel_rfl)
def ZIe:=Z2K Tryd.f64
def ZGY (m0:Nat):Kont:=kret PP HH 64 Tryd.f64.results
def Zqn:=exec PP HH 64 m0 EE LL (l2 (l2 (l2 ZIe))) (ZGY m0) [(4,x4),(5,x5)] B
theorem ZBb:Zqn m0 x4 x5 B =
 mk (ob (Z1I PP 31 [(0,(iv 1)),(5,(shr x5))]) fun a =>
 stN 7 x4 a B fun b =>
 Z7G x4 b):=by kernel_rfl
theorem ZGX:EE 64 [x0,x1] B =
 (let m0:=B.length
 mk (bz PP 31 B fun a b =>
 mk (callS false EE 77 [(shr x1)] b fun c d =>
 ob (xext 0 (shr c)) fun e =>
 ob (xext 1 (shr c)) fun f =>
 mk (asB (shr x0) fun g => br g (mk (callS false EE 17 [(shr (shr (shr e)))] d fun h i =>
 ob (xext 0 (shr h)) fun j =>
 ob (xext 1 (shr h)) fun k =>
 Zqn m0 a (shr (shr j)) (gcB m0 [a,(shr (shr j))] i)))
 (Zqn m0 a (shr (shr e)) (gcB m0 [a,(shr (shr e))] d)))))):=(E_eq PP XX HH _ _ _).trans (by kernel_rfl)
def ZEP (r0:AV) (B:List Row):Option Res :=
 ob (ob (ldN true 2 r0 B) fun v => ob (some []) fun vs => some (v :: vs)) fun vs => some ((nrmA (match vs with | [v] => v | vs => Z98 (vs.map shr))),B)
theorem ZGZ:EE 65 [x0] B =
 (let m0:=B.length
 mk (bz PP 47 B fun a b =>
 mk (ob (Z1I PP 47 [(0,(shr x0)),(1,(shr x0))]) fun c =>
 stN 2 a c b fun d =>
 ZEP a d))):=(E_eq PP XX HH _ _ _).trans (by kernel_rfl)
def ZIf:=Z2K Tryd.f66
def ZuQ:=l2 (l2 (l2 ZIf))
def ZuR:=l2 (l2 ZuQ)
def Zqo (m0:Nat):Kont:=kret PP HH 66 Tryd.f66.results
def ZH1:=kseq HH 66 m0 ZuR (exec PP HH 66 m0 EE LL ZuR (Zqo m0)) (Zqo m0)
def ZH2:=kblk 0 (ZH1 m0)
def ZuP:=exec PP HH 66 m0 EE LL ZuQ (Zqo m0) [(0,x0),(1,x1),(4,x4),(5,x5)] B
def ZrP:=exec PP HH 66 m0 EE LL (l1 (l2 (l2 (l2 (l2 (l2 (l2 (l2 (l1 (l1 (l2 ZuQ))))))))))) (ZH2 m0) [(0,x0),(1,x1),(4,x4),(5,x5)] B
def ZnX:=exec PP HH 66 m0 EE LL ZuR (Zqo m0) [(0,x0),(1,x1),(4,x4),(5,x5)] B
theorem ZBc:ZuP m0 x0 x1 x4 x5 B =
 mk (callS false EE 63 [(shr x0)] B fun a b =>
 mk (callS true EE 78 [(shr x5)] b fun c d =>
 ob (xnil PP .neq 27 (.slice none 0 0) c) fun e =>
 asB (shr e) fun f => br f (mk (ob (xbin PP .lss 3 (shr x5) (iv 97)) fun g =>
 callS true EE 78 [(shr x5)] d fun h i =>
 callS false EE 64 [g,h] i fun j k =>
 stN 7 x4 j k fun l =>
 Z7G x4 l))
 (mk (ob (xbin PP .eql 3 (shr x5) (iv 98)) fun n =>
 asB (shr n) fun o => br o (mk (ob (Z1I PP 31 [(0,(iv 9)),(4,(iv 2))]) fun p =>
 stN 7 x4 p d fun q =>
 Z7G x4 q))
 (mk (ob (xbin PP .eql 3 (shr x5) (iv 66)) fun r =>
 asB (shr r) fun s => br s (mk (ob (Z1I PP 31 [(0,(iv 9)),(4,(iv 3))]) fun t =>
 stN 7 x4 t d fun u =>
 Z7G x4 u))
 (mk (ob (xbin PP .geq 3 (shr x5) (iv 49)) fun v =>
 asB (shr v) fun w => br w (ob (xbin PP .leq 3 (shr x5) (iv 57)) fun x =>
 asB (shr (shr x)) fun y => br y (ZrP m0 x0 x1 x4 x5 (gcB m0 [x0,x1,x4,x5] d))
 (ZnX m0 x0 x1 x4 x5 (gcB m0 [x0,x1,x4,x5] d)))
 (ZnX m0 x0 x1 x4 x5 (gcB m0 [x0,x1,x4,x5] d)))))))))):=by kernel_rfl
theorem Zyr:ZrP m0 x0 x1 x4 x5 B =
 mk (ob (Z1J (shr x0)) fun a =>
 ob (xfld 4 a) fun b =>
 ldOwn b B fun c d =>
 ob (xbin PP .sub 3 (shr x5) (iv 48)) fun e =>
 ob (Z1I PP 61 [(0,e),(1,(shr x1))]) fun f =>
 ob (xlit PP 55 1 [(0,f)]) fun g =>
 ob (xapp 2 c g) fun h =>
 ob (Z1J (shr x0)) fun i =>
 ob (xfld 4 i) fun j =>
 stN 1 j h d fun k =>
 mk (ob (xbin PP .sub 3 (shr x5) (iv 48)) fun l =>
 ob (Z1I PP 31 [(0,(iv 6)),(4,l)]) fun n =>
 stN 7 x4 n k fun o =>
 Z7G x4 o)):=by kernel_rfl
theorem Zys:ZnX m0 x0 x1 x4 x5 B =
 mk (callS false EE 79 [(shr x0),(shr x5),(shr x1)] B fun a b =>
 callS false EE 65 [a] b fun c d =>
 ob (xlit PP 27 1 [(0,c)]) fun e =>
 callS false EE 64 [(bv false),e] d fun f g =>
 stN 7 x4 f g fun h =>
 Z7G x4 h):=by kernel_rfl
theorem ZH0:EE 66 [x0,x1] B =
 (let m0:=B.length
 mk (bz PP 31 B fun a b =>
 mk (callS false EE 47 [(shr x0)] b fun c d =>
 mk (ob (xbin PP .lss 3 (shr (shr c)) (iv 0)) fun e =>
 asB e fun f => br f (mk (callS false EE 21 [(shr x0),(iv 21),(shr x1)] d fun g h =>
 mk (ob (Z1I PP 31 []) fun i =>
 stN 7 a i h fun j =>
 Z7G a j)))
 (ZuP m0 x0 x1 a (shr c) (gcB m0 [x0,x1,a,(shr c)] d)))))):=(E_eq PP XX HH _ _ _).trans (by kernel_rfl)
def ZEm:=Z2K Tryd.f67
def ZuW:=l2 (l2 (l2 (l2 (l2 (l2 ZEm)))))
def Zf4:=l1 (l1 (l1 (l2 (l2 (l2 (l2 (l2 ZEm)))))))
def Zqr:=l2 (l2 (l1 (l1 (l2 Zf4))))
def Zqs:=l2 (l2 Zqr)
def ZuV:=l2 (l2 Zqs)
def Zqt:=l2 (l1 (l2 (l1 (l2 Zqs))))
def ZBh:=l2 (l1 (l2 (l2 (l2 (l1 (l2 (l2 (l1 (l2 (l1 (l1 (l2 Zf4))))))))))))
def ZuS (m0:Nat):Kont:=kret PP HH 67 Tryd.f67.results
def ZH4:=kseq HH 67 m0 ZuW (exec PP HH 67 m0 EE LL ZuW (ZuS m0)) (ZuS m0)
def ZuT:=kblk 0 (ZH4 m0)
def Zqp:=kloop HH 67 m0 Zf4 (LL 67 m0 Zf4 (ZuT m0)) (ZuT m0)
def ZH5:=kseq HH 67 m0 (l2 (l2 Zf4)) (exec PP HH 67 m0 EE LL (l2 (l2 Zf4)) (Zqp m0)) (Zqp m0)
def ZiM:=kblk 1 (ZH5 m0)
def ZH6:=kseq HH 67 m0 Zqr (exec PP HH 67 m0 EE LL Zqr (ZiM m0)) (ZiM m0)
def ZBd:=kblk 2 (ZH6 m0)
def Zqq:=kseq HH 67 m0 ZuV (exec PP HH 67 m0 EE LL ZuV (ZiM m0)) (ZiM m0)
def ZH7:=kseq HH 67 m0 Zqt (exec PP HH 67 m0 EE LL Zqt (Zqq m0)) (Zqq m0)
def ZmO:=lp (LL 67 m0 Zf4 (ZuT m0) [(0,x0),(1,x1),(4,x4),(5,x5),(6,x6),(7,x7),(8,x8)] B)
def ZuU:=exec PP HH 67 m0 EE LL (l2 Zf4) (Zqp m0) [(0,x0),(1,x1),(4,x4),(5,x5),(6,x6),(7,x7),(8,x8)] B
def ZrT:=exec PP HH 67 m0 EE LL ZuW (ZuS m0) [(4,x4)] B
def Zch:=exec PP HH 67 m0 EE LL (l2 (l2 Zf4)) (Zqp m0) [(0,x0),(1,x1),(4,x4),(5,x5),(6,x6),(7,x7),(8,x8)] B
def ZrQ:=exec PP HH 67 m0 EE LL ZBh (ZBd m0) [(0,x0),(4,x4),(5,x5),(6,x6)] B
def ZnZ:=exec PP HH 67 m0 EE LL Zqr (ZiM m0) [(0,x0),(1,x1),(4,x4),(5,x5),(6,x6),(7,x7),(8,x8),(9,x9)] B
def ZnY:=exec PP HH 67 m0 EE LL (l2 (l2 ZBh)) (ZBd m0) [(4,x4),(6,x6)] B
def ZrR:=exec PP HH 67 m0 EE LL Zqs (ZiM m0) [(0,x0),(1,x1),(4,x4),(5,x5),(6,x6),(7,x7),(8,x8),(9,x9),(11,x11)] B
def Zit:=exec PP HH 67 m0 EE LL (l1 (l2 (l2 (l1 (l1 (l2 (l1 (l2 Zqs)))))))) (ZH7 m0) [(0,x0),(1,x1),(4,x4),(5,x5),(6,x6),(7,x7),(8,x8),(9,x9)] B
def ZrS:=exec PP HH 67 m0 EE LL Zqt (Zqq m0) [(0,x0),(1,x1),(4,x4),(5,x5),(6,x6),(7,x7),(8,x8),(9,x9),(11,x11)] B
def Ziu:=exec PP HH 67 m0 EE LL ZuV (ZiM m0) [(0,x0),(1,x1),(4,x4),(5,x5),(6,x6),(7,x7),(8,x8),(11,x11),(15,x15)] B
def Zo0:=exec PP HH 67 m0 EE LL (l1 (l2 (l2 Zqt))) (Zqq m0) [(0,x0),(1,x1),(4,x4),(5,x5),(6,x6),(7,x7),(8,x8),(9,x9),(11,x11),(15,x15)] B
theorem ZBe:ZmO m0 x0 x1 x4 x5 x6 x7 x8 B =
 mk (ob (Z1J (shr x0)) fun a =>
 ob (xfld 5 a) fun b =>
 ob (xfld 0 b) fun c =>
 ob (ldN false 1 c B) fun d =>
 ob (xbin PP .eql 24 d (iv 0)) fun e =>
 asB e fun f => br f (ZuU m0 x0 x1 x4 x5 x6 x7 x8 (gcB m0 [x0,x1,x4,x5,x6,x7,x8] B))
 (ZrT m0 x4 (gcB m0 [x4] B))):=lq_ (by kernel_rfl)
theorem ZBg:ZuU m0 x0 x1 x4 x5 x6 x7 x8 B =
 mk (ob (Z1J (shr x0)) fun a =>
 ob (xfld 1 a) fun b =>
 ob (ldN false 1 b B) fun c =>
 mk (callS false EE 47 [(shr x0)] B fun d e =>
 mk (mk (ob (xbin PP .eql 3 (shr (shr d)) (iv (-1))) fun f =>
 asB (shr f) fun g => br g (mk (callS false EE 21 [(shr x0),(iv 22),(shr x1)] e fun h i =>
 Zch m0 x0 x1 x4 x5 x6 x7 x8 (gcB m0 [x0,x1,x4,x5,x6,x7,x8] i)))
 (mk (ob (xbin PP .eql 3 (shr (shr d)) (iv 93)) fun j =>
 asB (shr j) fun k => br k (mk (ob (xbin PP .eql 3 (shr x8) (iv 0)) fun l =>
 asB l fun n => br n (mk (callS false EE 21 [(shr x0),(iv 22),(shr x1)] e fun o p =>
 Zch m0 x0 x1 x4 x5 x6 x7 x8 (gcB m0 [x0,x1,x4,x5,x6,x7,x8] p)))
 (ZrQ m0 x0 x4 x5 x6 (gcB m0 [x0,x4,x5,x6] e))))
 (mk (ob (xbin PP .eql 3 (shr (shr d)) (iv 91)) fun q =>
 asB (shr q) fun r => br r (asB (shr q) fun s => br s (mk (callS false EE 21 [(shr x0),(iv 22),(shr (shr c))] e fun t u =>
 Zch m0 x0 x1 x4 x5 x6 x7 x8 (gcB m0 [x0,x1,x4,x5,x6,x7,x8] u)))
 (ZnZ m0 x0 x1 x4 x5 x6 x7 x8 (shr c) (gcB m0 [x0,x1,x4,x5,x6,x7,x8,(shr c)] e)))
 (mk (ob (xbin PP .eql 3 (shr (shr d)) (iv 45)) fun v =>
 asB (shr v) fun w => br w (mk (callS false EE 21 [(shr x0),(iv 22),(shr (shr c))] e fun x y =>
 Zch m0 x0 x1 x4 x5 x6 x7 x8 (gcB m0 [x0,x1,x4,x5,x6,x7,x8] y)))
 (ZnZ m0 x0 x1 x4 x5 x6 x7 x8 (shr c) (gcB m0 [x0,x1,x4,x5,x6,x7,x8,(shr c)] e)))))))))))):=by kernel_rfl
theorem ZyB:ZrT m0 x4 B =
 mk (ob (Z1I PP 31 []) fun a =>
 stN 7 x4 a B fun b =>
 Z7G x4 b):=by kernel_rfl
theorem ZBf:Zch m0 x0 x1 x4 x5 x6 x7 x8 B =
 mk (ob (xbin PP .add 3 (shr x8) (iv 1)) fun a =>
 ZmO m0 x0 x1 x4 x5 x6 x7 (shr a) (gcB m0 [x0,x1,x4,x5,x6,x7,(shr a)] B)):=by kernel_rfl
theorem Zyt:ZrQ m0 x0 x4 x5 x6 B =
 mk (callS false EE 63 [(shr x0)] B fun a b =>
 mk (asB (shr x5) fun c => br c (mk (ob (ldN false 1 x6 b) fun d =>
 callS false EE 17 [d] b fun e f =>
 ob (xext 0 (shr e)) fun g =>
 ob (xext 1 (shr e)) fun h =>
 stN 1 x6 (shr g) f fun i =>
 ZnY m0 x4 x6 (gcB m0 [x4,x6] i)))
 (ZnY m0 x4 x6 (gcB m0 [x4,x6] b)))):=by kernel_rfl
theorem Zyv:ZnZ m0 x0 x1 x4 x5 x6 x7 x8 x9 B =
 mk (callS true EE 81 [(shr x0)] B fun a b =>
 ob (xext 0 (shr a)) fun c =>
 ob (xext 1 (shr a)) fun d =>
 ob (xext 2 (shr a)) fun e =>
 mk (ob (xnil PP .neq 27 (.slice none 0 0) (shr (shr (shr d)))) fun f =>
 asB f fun g => br g (mk (callS false EE 64 [(shr (shr (shr e))),(shr (shr (shr d)))] b fun h i =>
 bz PP 31 i fun j k =>
 stN 7 j h k fun l =>
 mk (ob (xfld 5 j) fun n =>
 ob (ldN false 1 n l) fun o =>
 callV HH EE (shr x7) [o] l fun p q =>
 mk (callS false EE 47 [(shr x0)] q fun r s =>
 ob (xbin PP .eql 3 r (iv 45)) fun t =>
 asB t fun u => br u (mk (ob (Z1J (shr x0)) fun v =>
 ob (xfld 1 v) fun w =>
 ob (ldN false 1 w s) fun x =>
 callS false EE 21 [(shr x0),(iv 22),x] s fun y z =>
 Zch m0 x0 x1 x4 x5 x6 x7 x8 (gcB m0 [x0,x1,x4,x5,x6,x7,x8] z)))
 (Zch m0 x0 x1 x4 x5 x6 x7 x8 (gcB m0 [x0,x1,x4,x5,x6,x7,x8] s))))))
 (ZrR m0 x0 x1 x4 x5 x6 x7 x8 x9 (shr (shr c)) (gcB m0 [x0,x1,x4,x5,x6,x7,x8,x9,(shr (shr c))] b)))):=by kernel_rfl
theorem Zyu:ZnY m0 x4 x6 B =
 mk (ob (ldN false 1 x6 B) fun a =>
 ob (Z1I PP 31 [(0,(iv 1)),(5,a)]) fun b =>
 stN 7 x4 b B fun c =>
 Z7G x4 c):=by kernel_rfl
theorem Zyw:ZrR m0 x0 x1 x4 x5 x6 x7 x8 x9 x11 B =
 mk (mk (callS false EE 19 [(shr x0),(.p (.v (.string (ByteArray.mk #[45]))))] B fun a b =>
 asB a fun c => br c (mk (callS false EE 47 [(shr x0)] b fun d e =>
 mk (ob (xbin PP .eql 3 (shr (shr d)) (iv 93)) fun f =>
 asB (shr f) fun g => br g (Zit m0 x0 x1 x4 x5 x6 x7 x8 x9 (gcB m0 [x0,x1,x4,x5,x6,x7,x8,x9] e))
 (ob (xbin PP .eql 3 (shr (shr d)) (iv 91)) fun h =>
 asB (shr (shr h)) fun i => br i (Zit m0 x0 x1 x4 x5 x6 x7 x8 x9 (gcB m0 [x0,x1,x4,x5,x6,x7,x8,x9] e))
 (ob (xbin PP .eql 3 (shr (shr d)) (iv 45)) fun j =>
 asB (shr (shr j)) fun k => br k (Zit m0 x0 x1 x4 x5 x6 x7 x8 x9 (gcB m0 [x0,x1,x4,x5,x6,x7,x8,x9] e))
 (ob (xbin PP .lss 3 (shr (shr d)) (iv 0)) fun l =>
 asB (shr l) fun n => br n (Zit m0 x0 x1 x4 x5 x6 x7 x8 x9 (gcB m0 [x0,x1,x4,x5,x6,x7,x8,x9] e))
 (ZrS m0 x0 x1 x4 x5 x6 x7 x8 x9 x11 (gcB m0 [x0,x1,x4,x5,x6,x7,x8,x9,x11] e))))))))
 (Ziu m0 x0 x1 x4 x5 x6 x7 x8 x11 (shr (shr x11)) (gcB m0 [x0,x1,x4,x5,x6,x7,x8,x11,(shr (shr x11))] b)))):=by kernel_rfl
theorem Zyx:Zit m0 x0 x1 x4 x5 x6 x7 x8 x9 B =
 mk (callS false EE 21 [(shr x0),(iv 22),(shr x9)] B fun a b =>
 Zch m0 x0 x1 x4 x5 x6 x7 x8 (gcB m0 [x0,x1,x4,x5,x6,x7,x8] b)):=by kernel_rfl
theorem Zyy:ZrS m0 x0 x1 x4 x5 x6 x7 x8 x9 x11 B =
 mk (callS true EE 81 [(shr x0)] B fun a b =>
 ob (xext 0 (shr a)) fun c =>
 ob (xext 1 (shr a)) fun d =>
 ob (xext 2 (shr a)) fun e =>
 mk (ob (Z1J (shr x0)) fun f =>
 ob (xfld 5 f) fun g =>
 ob (xfld 0 g) fun h =>
 ob (ldN false 1 h b) fun i =>
 ob (xbin PP .eql 24 i (iv 0)) fun j =>
 asB (shr j) fun k => br k (ob (xnil PP .neq 27 (.slice none 0 0) (shr (shr (shr d)))) fun l =>
 asB (shr l) fun n => br n (Zo0 m0 x0 x1 x4 x5 x6 x7 x8 x9 x11 (shr (shr c)) (gcB m0 [x0,x1,x4,x5,x6,x7,x8,x9,x11,(shr (shr c))] b))
 (ob (xbin PP .lss 3 (shr (shr (shr c))) (shr x11)) fun o =>
 asB (shr (shr o)) fun p => br p (Zo0 m0 x0 x1 x4 x5 x6 x7 x8 x9 x11 (shr (shr c)) (gcB m0 [x0,x1,x4,x5,x6,x7,x8,x9,x11,(shr (shr c))] b))
 (Ziu m0 x0 x1 x4 x5 x6 x7 x8 x11 (shr (shr c)) (gcB m0 [x0,x1,x4,x5,x6,x7,x8,x11,(shr (shr c))] b))))
 (Ziu m0 x0 x1 x4 x5 x6 x7 x8 x11 (shr (shr c)) (gcB m0 [x0,x1,x4,x5,x6,x7,x8,x11,(shr (shr c))] b)))):=by kernel_rfl
theorem ZyA:Ziu m0 x0 x1 x4 x5 x6 x7 x8 x11 x15 B =
 mk (ob (Z1J (shr x0)) fun a =>
 ob (xfld 5 a) fun b =>
 ob (xfld 0 b) fun c =>
 ob (ldN false 1 c B) fun d =>
 ob (xbin PP .eql 24 d (iv 0)) fun e =>
 asB e fun f => br f (mk (ob (Z1I PP 47 [(0,(shr x11)),(1,(shr x15))]) fun g =>
 ob (xlit PP 28 1 [(0,g)]) fun h =>
 callV HH EE (shr x7) [h] B fun i j =>
 Zch m0 x0 x1 x4 x5 x6 x7 x8 (gcB m0 [x0,x1,x4,x5,x6,x7,x8] j)))
 (Zch m0 x0 x1 x4 x5 x6 x7 x8 (gcB m0 [x0,x1,x4,x5,x6,x7,x8] B))):=by kernel_rfl
theorem Zyz:Zo0 m0 x0 x1 x4 x5 x6 x7 x8 x9 x11 x15 B =
 mk (callS false EE 21 [(shr x0),(iv 22),(shr x9)] B fun a b =>
 Ziu m0 x0 x1 x4 x5 x6 x7 x8 x11 x15 (gcB m0 [x0,x1,x4,x5,x6,x7,x8,x11,x15] b)):=by kernel_rfl
theorem ZH3:EE 67 [x0,x1] B =
 (let m0:=B.length
 mk (bz PP 31 B fun a b =>
 mk (callS false EE 19 [(shr x0),(.p (.v (.string (ByteArray.mk #[94]))))] b fun c d =>
 mk (bz PP 28 d fun e f =>
 mk (mk (ZmO m0 x0 x1 a (shr c) e (shr (.clo 80 ([].map nrmA) ([e].map nrmA))) (iv 0) (gcB m0 [x0,x1,a,(shr c),e,(shr (.clo 80 ([].map nrmA) ([e].map nrmA))),(iv 0)] f))))))):=(E_eq PP XX HH _ _ _).trans (by kernel_rfl)
def ZIg:=Z2K Tryd.f68
def ZBj:=l2 (l2 ZIg)
def ZuY:=l2 (l2 ZBj)
def Zqu:=l2 (l2 ZuY)
def ZkC (m0:Nat):Kont:=kret PP HH 68 Tryd.f68.results
def ZH9:=kseq HH 68 m0 Zqu (exec PP HH 68 m0 EE LL Zqu (ZkC m0)) (ZkC m0)
def ZuX:=exec PP HH 68 m0 EE LL ZBj (ZkC m0) [(0,x0),(1,x1),(4,x4)] B
def Zey:=exec PP HH 68 m0 EE LL ZuY (ZkC m0) [(0,x0),(1,x1),(4,x4)] B
def ZrU:=exec PP HH 68 m0 EE LL (l1 (l2 (l1 (l2 ZuY)))) (ZH9 m0) [(0,x0),(1,x1),(4,x4),(7,x7)] B
def ZkD:=exec PP HH 68 m0 EE LL Zqu (ZkC m0) [(0,x0),(4,x4),(7,x7)] B
def ZrV:=exec PP HH 68 m0 EE LL (l2 (l2 Zqu)) (ZkC m0) [(4,x4),(7,x7)] B
theorem ZBi:ZuX m0 x0 x1 x4 B =
 mk (ob (Z1J (shr x0)) fun a =>
 ob (xfld 3 a) fun b =>
 ob (ldN false 1 b B) fun c =>
 ob (xbin PP .add 3 c (iv 1)) fun d =>
 ob (Z1J (shr x0)) fun e =>
 ob (xfld 3 e) fun f =>
 stN 1 f d B fun g =>
 mk (callS false EE 83 [] g fun h i =>
 callS false EE 82 [h,(.clo 19 ([(shr x0)].map nrmA) ([].map nrmA))] i fun j k =>
 mk (ob (xbin PP .geq 3 (shr (shr j)) (iv 0)) fun l =>
 asB (shr l) fun n => br n (mk (ob (Z1I PP 31 [(0,(iv 7)),(3,(shr (shr j)))]) fun o =>
 stN 7 x4 o k fun q =>
 Zey m0 x0 x1 x4 (gcB m0 [x0,x1,x4] q)))
 (mk (callS false EE 19 [(shr x0),(.p (.v (.string (ByteArray.mk #[63,62]))))] k fun r s =>
 asB (shr r) fun t => br t (mk (ob (Z1I PP 31 [(0,(iv 8))]) fun u =>
 stN 7 x4 u s fun w =>
 Zey m0 x0 x1 x4 (gcB m0 [x0,x1,x4] w)))
 (mk (callS false EE 19 [(shr x0),(.p (.v (.string (ByteArray.mk #[63,58]))))] s fun x y =>
 asB (shr x) fun z => br z (Zey m0 x0 x1 x4 (gcB m0 [x0,x1,x4] y))
 (mk (callS false EE 47 [(shr x0)] y fun A C =>
 ob (xbin PP .eql 3 A (iv 63)) fun D =>
 asB (shr D) fun F => br F (mk (callS false EE 21 [(shr x0),(iv 20),(shr x1)] C fun G I =>
 Zey m0 x0 x1 x4 (gcB m0 [x0,x1,x4] I)))
 (mk (ob (Z1J (shr x0)) fun J =>
 ob (xfld 2 J) fun M =>
 ob (ldN false 1 M C) fun N =>
 ob (xbin PP .eql 3 N (iv 9)) fun O =>
 asB (shr O) fun Q => br Q (mk (callS false EE 21 [(shr x0),(iv 24),(shr x1)] C fun R S =>
 Zey m0 x0 x1 x4 (gcB m0 [x0,x1,x4] S)))
 (mk (ob (Z1J (shr x0)) fun T =>
 ob (xfld 2 T) fun U =>
 ob (ldN false 1 U C) fun V =>
 ob (xbin PP .add 3 V (iv 1)) fun W =>
 ob (Z1J (shr x0)) fun Y =>
 ob (xfld 2 Y) fun Z =>
 stN 1 Z W C fun a0 =>
 mk (ob (Z1J (shr x0)) fun a1 =>
 ob (xfld 2 a1) fun a2 =>
 ob (ldN false 1 a2 a0) fun a3 =>
 ob (Z1I PP 31 [(0,(iv 5)),(4,a3)]) fun a4 =>
 stN 7 x4 a4 a0 fun a5 =>
 Zey m0 x0 x1 x4 (gcB m0 [x0,x1,x4] a5))))))))))))))):=by kernel_rfl
theorem ZyC:Zey m0 x0 x1 x4 B =
 mk (callS false EE 20 [(shr x0)] B fun a b =>
 bz PP 31 b fun c d =>
 stN 7 c a d fun e =>
 mk (ob (Z1J (shr x0)) fun f =>
 ob (xfld 5 f) fun g =>
 ob (xfld 0 g) fun h =>
 ob (ldN false 1 h e) fun i =>
 ob (xbin PP .eql 24 i (iv 0)) fun j =>
 asB (shr j) fun k => br k (callS false EE 19 [(shr x0),(.p (.v (.string (ByteArray.mk #[41]))))] e fun l n =>
 ob (xun PP .not l) fun o =>
 asB (shr o) fun q => br q (ZrU m0 x0 x1 x4 c (gcB m0 [x0,x1,x4,c] n))
 (ZkD m0 x0 x4 c (gcB m0 [x0,x4,c] n)))
 (ZkD m0 x0 x4 c (gcB m0 [x0,x4,c] e)))):=by kernel_rfl
theorem ZyD:ZrU m0 x0 x1 x4 x7 B =
 mk (callS false EE 21 [(shr x0),(iv 20),(shr x1)] B fun a b =>
 ZkD m0 x0 x4 x7 (gcB m0 [x0,x4,x7] b)):=by kernel_rfl
theorem ZyE:ZkD m0 x0 x4 x7 B =
 mk (ob (Z1J (shr x0)) fun a =>
 ob (xfld 3 a) fun b =>
 ob (ldN false 1 b B) fun c =>
 ob (xbin PP .sub 3 c (iv 1)) fun d =>
 ob (Z1J (shr x0)) fun e =>
 ob (xfld 3 e) fun f =>
 stN 1 f d B fun g =>
 mk (ob (xfld 0 x4) fun h =>
 ob (ldN false 1 h g) fun i =>
 ob (xbin PP .eql 3 i (iv 0)) fun j =>
 asB j fun k => br k (mk (ob (ldN true 7 x7 g) fun l =>
 stN 7 x4 l g fun n =>
 Z6E x4 (bv true) n))
 (ZrV m0 x4 x7 (gcB m0 [x4,x7] g)))):=by kernel_rfl
theorem ZyF:ZrV m0 x4 x7 B =
 mk (ob (ldN true 7 x7 B) fun a =>
 ob (xlit PP 29 1 [(0,a)]) fun b =>
 ob (xfld 6 x4) fun c =>
 stN 1 c b B fun d =>
 mk (ob (ldN true 7 x4 d) fun e =>
 ob (xfld 0 x4) fun f =>
 ob (ldN false 1 f d) fun g =>
 ob (xbin PP .neq 3 g (iv 7)) fun h =>
 stN 7 x4 e d fun i =>
 Z6E x4 (shr h) i)):=by kernel_rfl
theorem ZH8:EE 68 [x0,x1] B =
 (let m0:=B.length
 mk (bz PP 31 B fun a b =>
 mk (ob (Z1J (shr x0)) fun c =>
 ob (xfld 3 c) fun d =>
 ob (ldN false 1 d b) fun e =>
 ob (xbin PP .eql 3 e (iv 32)) fun f =>
 asB f fun g => br g (mk (callS false EE 21 [(shr x0),(iv 25),(shr x1)] b fun h i =>
 mk (ob (Z1I PP 31 []) fun j =>
 stN 7 a j i fun k =>
 Z6E a (bv true) k)))
 (ZuX m0 x0 x1 a (gcB m0 [x0,x1,a] b))))):=(E_eq PP XX HH _ _ _).trans (by kernel_rfl)
def ZEn:=Z2K Tryd.f69
def ZiN:=l2 (l2 (l2 (l2 ZEn)))
def ZmP:=l1 (l2 (l2 (l1 (l2 (l1 (l2 (l2 (l2 ZEn))))))))
def ZkE (m0:Nat):Kont:=kret PP HH 69 Tryd.f69.results
def Zqv:=kseq HH 69 m0 ZiN (exec PP HH 69 m0 EE LL ZiN (ZkE m0)) (ZkE m0)
def ZHb:=kseq HH 69 m0 (l2 ZmP) (exec PP HH 69 m0 EE LL (l2 ZmP) (Zqv m0)) (Zqv m0)
def ZHc:=kseq HH 69 m0 (l2 ZiN) (exec PP HH 69 m0 EE LL (l2 ZiN) (ZkE m0)) (ZkE m0)
def ZuZ:=exec PP HH 69 m0 EE LL ZmP (Zqv m0) [(0,x0),(1,x1),(4,x4)] B
def ZkF:=exec PP HH 69 m0 EE LL ZiN (ZkE m0) [(0,x0),(1,x1),(4,x4),(5,x5)] B
def Zv0:=exec PP HH 69 m0 EE LL (l1 (l2 (l1 ZmP))) (ZHb m0) [(4,x4)] B
def Zqw:=exec PP HH 69 m0 EE LL (l2 ZmP) (Zqv m0) [(0,x0),(1,x1),(4,x4)] B
def Ziv:=exec PP HH 69 m0 EE LL (l1 (l2 (l1 ZiN))) (ZHc m0) [(0,x0),(1,x1),(4,x4),(5,x5)] B
def Zo1:=exec PP HH 69 m0 EE LL (l2 ZiN) (ZkE m0) [(4,x4),(5,x5)] B
theorem ZBk:ZuZ m0 x0 x1 x4 B =
 mk (callS false EE 19 [(shr x0),(.p (.v (.string (ByteArray.mk #[125]))))] B fun a b =>
 asB (shr a) fun c => br c (ob (xbin PP .leq 3 (shr x4) (iv 64)) fun d =>
 asB (shr d) fun e => br e (Zv0 m0 x4 (gcB m0 [x4] b))
 (Zqw m0 x0 x1 x4 (gcB m0 [x0,x1,x4] b)))
 (Zqw m0 x0 x1 x4 (gcB m0 [x0,x1,x4] b))):=by kernel_rfl
theorem ZBn:ZkF m0 x0 x1 x4 x5 B =
 mk (ob (xbin PP .lss 3 (shr x4) (iv 0)) fun a =>
 asB (shr a) fun b => br b (Ziv m0 x0 x1 x4 x5 (gcB m0 [x0,x1,x4,x5] B))
 (ob (xbin PP .lss 3 (shr x5) (shr x4)) fun c =>
 asB (shr (shr c)) fun d => br d (Ziv m0 x0 x1 x4 x5 (gcB m0 [x0,x1,x4,x5] B))
 (ob (xbin PP .gtr 3 (shr x5) (iv 64)) fun e =>
 asB (shr (shr e)) fun f => br f (Ziv m0 x0 x1 x4 x5 (gcB m0 [x0,x1,x4,x5] B))
 (callS false EE 19 [(shr x0),(.p (.v (.string (ByteArray.mk #[125]))))] B fun g h =>
 ob (xun PP .not g) fun i =>
 asB (shr i) fun j => br j (Ziv m0 x0 x1 x4 x5 (gcB m0 [x0,x1,x4,x5] h))
 (Zo1 m0 x4 x5 (gcB m0 [x4,x5] h)))))):=by kernel_rfl
theorem ZBl:Zv0 m0 x4 B =
 mk (Z5o (shr (shr x4)) (iv (-1)) B):=by kernel_rfl
theorem ZBm:Zqw m0 x0 x1 x4 B =
 mk (ZkF m0 x0 x1 x4 (iv (-2)) (gcB m0 [x0,x1,x4,(iv (-2))] B)):=by kernel_rfl
theorem ZyG:Ziv m0 x0 x1 x4 x5 B =
 mk (callS false EE 21 [(shr x0),(iv 23),(shr x1)] B fun a b =>
 Zo1 m0 x4 x5 (gcB m0 [x4,x5] b)):=by kernel_rfl
theorem ZyH:Zo1 m0 x4 x5 B =
 mk (Z5o (shr (shr x4)) (shr (shr x5)) B):=by kernel_rfl
theorem ZHa:EE 69 [x0,x1] B =
 (let m0:=B.length
 mk (mk (callS false EE 84 [(shr x0)] B fun a b =>
 mk (mk (callS false EE 19 [(shr x0),(.p (.v (.string (ByteArray.mk #[44]))))] b fun c d =>
 asB c fun e => br e (mk (callS false EE 84 [(shr x0)] d fun f g =>
 mk (ob (xbin PP .lss 3 (shr (shr f)) (iv 0)) fun h =>
 asB (shr h) fun i => br i (ob (xbin PP .geq 3 (shr (shr a)) (iv 0)) fun j =>
 asB (shr j) fun k => br k (ZuZ m0 x0 x1 (shr a) (gcB m0 [x0,x1,(shr a)] g))
 (ZkF m0 x0 x1 (shr a) (shr f) (gcB m0 [x0,x1,(shr a),(shr f)] g)))
 (ZkF m0 x0 x1 (shr a) (shr f) (gcB m0 [x0,x1,(shr a),(shr f)] g)))))
 (ZkF m0 x0 x1 (shr a) (shr (shr (shr a))) (gcB m0 [x0,x1,(shr a),(shr (shr (shr a)))] d))))))):=(E_eq PP XX HH _ _ _).trans (by kernel_rfl)
def ZEo:=Z2K Tryd.f73
def Zva:=l2 (l2 ZEo)
def Zqz:=l1 (l1 (l2 (l1 (l2 ZEo))))
def ZBD:=l2 (l2 Zqz)
def Zv5 (m0:Nat):Kont:=kret PP HH 73 Tryd.f73.results
def ZHf:=kseq HH 73 m0 Zva (exec PP HH 73 m0 EE LL Zva (Zv5 m0)) (Zv5 m0)
def Zv6:=kblk 0 (ZHf m0)
def ZBy:=kloop HH 73 m0 Zqz (LL 73 m0 Zqz (Zv6 m0)) (Zv6 m0)
def ZmR:=lp (LL 73 m0 Zqz (Zv6 m0) [(0,x0),(1,x1),(7,x7),(8,x8)] B)
def Zv7:=exec PP HH 73 m0 EE LL ZBD (ZBy m0) [(0,x0),(1,x1),(7,x7),(8,x8)] B
def Zv9:=exec PP HH 73 m0 EE LL Zva (Zv5 m0) [] B
def Zv8:=exec PP HH 73 m0 EE LL (l2 ZBD) (ZBy m0) [(0,x0),(1,x1),(7,x7),(8,x8)] B
theorem ZBz:ZmR m0 x0 x1 x7 x8 B =
 mk (ob (xbin PP .lss 3 x8 x7) fun a =>
 asB a fun b => br b (Zv7 m0 x0 x1 x7 x8 (gcB m0 [x0,x1,x7,x8] B))
 (Zv9 m0 (gcB m0 [] B))):=lq_ (by kernel_rfl)
theorem ZBA:Zv7 m0 x0 x1 x7 x8 B =
 mk (mk (ob (xidx 7 (shr x0) (shr (shr (shr x8)))) fun a =>
 ob (ldN true 7 a B) fun b =>
 callV HH EE (shr x1) [b] B fun c d =>
 asB c fun e => br e (mk (Z1B (shr (shr (shr (shr x8)))) d))
 (Zv8 m0 x0 x1 x7 x8 (gcB m0 [x0,x1,x7,x8] d)))):=by kernel_rfl
theorem ZBC:Zv9 m0 B =
 mk (Z1B (iv (-1)) B):=by kernel_rfl
theorem ZBB:Zv8 m0 x0 x1 x7 x8 B =
 mk (ob (xbin PP .add 3 x8 (iv 1)) fun a =>
 ZmR m0 x0 x1 x7 (shr a) (gcB m0 [x0,x1,x7,(shr a)] B)):=by kernel_rfl
theorem ZHe:EE 73 [x0,x1] B =
 (let m0:=B.length
 mk (mk (ob (xlen PP 29 (shr x0)) fun a =>
 ZmR m0 x0 x1 a (iv 0) (gcB m0 [x0,x1,a,(iv 0)] B)))):=(E_eq PP XX HH _ _ _).trans (by kernel_rfl)
def ZIo:=Z2K Tryd.f75
def ZHh (m0:Nat):Kont:=kret PP HH 75 Tryd.f75.results
def Zvb:=exec PP HH 75 m0 EE LL (l2 (l2 ZIo)) (ZHh m0) [(0,x0)] B
theorem ZBE:Zvb m0 x0 B =
 mk (Z1B (shr (shr x0)) B):=by kernel_rfl
theorem ZHg:EE 75 [x0] B =
 (let m0:=B.length
 mk (mk (ob (xbin PP .gtr 3 (shr x0) (iv 1048576)) fun a =>
 asB a fun b => br b (mk (Z1B (iv (-1)) B))
 (Zvb m0 x0 (gcB m0 [x0] B))))):=(E_eq PP XX HH _ _ _).trans (by kernel_rfl)
def ZIp:=Z2K Tryd.f77
def ZHj (m0:Nat):Kont:=kret PP HH 77 Tryd.f77.results
def Zvc:=exec PP HH 77 m0 EE LL (l2 (l2 ZIp)) (ZHj m0) [(0,x0)] B
theorem ZBF:Zvc m0 x0 B =
 mk (callS false EE 25 [(shr x0)] B fun a b =>
 Z5o (shr a) (iv 0) b):=by kernel_rfl
theorem ZHi:EE 77 [x0] B =
 (let m0:=B.length
 mk (mk (callS false EE 96 [(shr x0),(.clo 97 [] [])] B fun a b =>
 asB a fun c => br c (mk (Z5o nilA (iv 13) b))
 (Zvc m0 x0 (gcB m0 [x0] b))))):=(E_eq PP XX HH _ _ _).trans (by kernel_rfl)
def ZIq:=Z2K Tryd.f78
def Z80 (r0:AV) (B:List Row):Option Res :=
 ob (ob (some r0) fun v => ob (some []) fun vs => some (v :: vs)) fun vs => some ((match vs with | [v] => v | vs => Z98 (vs.map shr)),B)
def ZHl (m0:Nat):Kont:=kret PP HH 78 Tryd.f78.results
def ZbM:=exec PP HH 78 m0 EE LL (l2 (l2 ZIq)) (ZHl m0) [] B
theorem ZyL:ZbM m0 B =
 mk (Z80 nilA B):=by kernel_rfl
theorem ZHk:EE 78 [x0] B =
 (let m0:=B.length
 mk (mk (mk (ob (xbin PP .eql 3 (shr x0) (iv 100)) fun a =>
 asB (shr a) fun b => br b (asB (shr a) fun c => br c (mk (ob (Z1I PP 47 [(0,(iv 48)),(1,(iv 57))]) fun d =>
 ob (xlit PP 27 1 [(0,d)]) fun e =>
 Z80 e B))
 (mk (ob (xbin PP .eql 3 (shr x0) (iv 119)) fun f =>
 asB (shr f) fun g => br g (asB (shr f) fun h => br h (mk (ob (Z1I PP 47 [(0,(iv 48)),(1,(iv 57))]) fun i =>
 ob (Z1I PP 47 [(0,(iv 65)),(1,(iv 90))]) fun j =>
 callS false EE 65 [(iv 95)] B fun k l =>
 ob (Z1I PP 47 [(0,(iv 97)),(1,(iv 122))]) fun n =>
 ob (xlit PP 27 4 [(0,i),(1,j),(2,k),(3,n)]) fun o =>
 Z80 o l))
 (mk (ob (xbin PP .eql 3 (shr x0) (iv 115)) fun p =>
 asB (shr p) fun q => br q (asB (shr p) fun r => br r (mk (ob (Z1I PP 47 [(0,(iv 9)),(1,(iv 13))]) fun s =>
 callS false EE 65 [(iv 32)] B fun t u =>
 ob (xlit PP 27 2 [(0,s),(1,t)]) fun v =>
 Z80 v u))
 (ZbM m0 (gcB m0 [] B)))
 (mk (ob (xbin PP .eql 3 (shr x0) (iv 83)) fun w =>
 asB (shr w) fun x => br x (mk (ob (Z1I PP 47 [(0,(iv 9)),(1,(iv 13))]) fun y =>
 callS false EE 65 [(iv 32)] B fun z A =>
 ob (xlit PP 27 2 [(0,y),(1,z)]) fun C =>
 Z80 C A))
 (ZbM m0 (gcB m0 [] B)))))))
 (mk (ob (xbin PP .eql 3 (shr x0) (iv 87)) fun D =>
 asB (shr D) fun F => br F (mk (ob (Z1I PP 47 [(0,(iv 48)),(1,(iv 57))]) fun G =>
 ob (Z1I PP 47 [(0,(iv 65)),(1,(iv 90))]) fun I =>
 callS false EE 65 [(iv 95)] B fun J M =>
 ob (Z1I PP 47 [(0,(iv 97)),(1,(iv 122))]) fun N =>
 ob (xlit PP 27 4 [(0,G),(1,I),(2,J),(3,N)]) fun O =>
 Z80 O M))
 (mk (ob (xbin PP .eql 3 (shr x0) (iv 115)) fun Q =>
 asB (shr Q) fun R => br R (asB (shr Q) fun S => br S (mk (ob (Z1I PP 47 [(0,(iv 9)),(1,(iv 13))]) fun T =>
 callS false EE 65 [(iv 32)] B fun U V =>
 ob (xlit PP 27 2 [(0,T),(1,U)]) fun W =>
 Z80 W V))
 (ZbM m0 (gcB m0 [] B)))
 (mk (ob (xbin PP .eql 3 (shr x0) (iv 83)) fun Y =>
 asB (shr Y) fun Z => br Z (mk (ob (Z1I PP 47 [(0,(iv 9)),(1,(iv 13))]) fun a0 =>
 callS false EE 65 [(iv 32)] B fun a1 a2 =>
 ob (xlit PP 27 2 [(0,a0),(1,a1)]) fun a3 =>
 Z80 a3 a2))
 (ZbM m0 (gcB m0 [] B)))))))))))
 (mk (ob (xbin PP .eql 3 (shr x0) (iv 68)) fun a4 =>
 asB (shr a4) fun a5 => br a5 (mk (ob (Z1I PP 47 [(0,(iv 48)),(1,(iv 57))]) fun a6 =>
 ob (xlit PP 27 1 [(0,a6)]) fun a7 =>
 Z80 a7 B))
 (mk (ob (xbin PP .eql 3 (shr x0) (iv 119)) fun a8 =>
 asB (shr a8) fun a9 => br a9 (asB (shr a8) fun a10 => br a10 (mk (ob (Z1I PP 47 [(0,(iv 48)),(1,(iv 57))]) fun a11 =>
 ob (Z1I PP 47 [(0,(iv 65)),(1,(iv 90))]) fun a12 =>
 callS false EE 65 [(iv 95)] B fun a13 a14 =>
 ob (Z1I PP 47 [(0,(iv 97)),(1,(iv 122))]) fun a15 =>
 ob (xlit PP 27 4 [(0,a11),(1,a12),(2,a13),(3,a15)]) fun a16 =>
 Z80 a16 a14))
 (mk (ob (xbin PP .eql 3 (shr x0) (iv 115)) fun a17 =>
 asB (shr a17) fun a18 => br a18 (asB (shr a17) fun a19 => br a19 (mk (ob (Z1I PP 47 [(0,(iv 9)),(1,(iv 13))]) fun a20 =>
 callS false EE 65 [(iv 32)] B fun a21 a22 =>
 ob (xlit PP 27 2 [(0,a20),(1,a21)]) fun a23 =>
 Z80 a23 a22))
 (ZbM m0 (gcB m0 [] B)))
 (mk (ob (xbin PP .eql 3 (shr x0) (iv 83)) fun a24 =>
 asB (shr a24) fun a25 => br a25 (mk (ob (Z1I PP 47 [(0,(iv 9)),(1,(iv 13))]) fun a26 =>
 callS false EE 65 [(iv 32)] B fun a27 a28 =>
 ob (xlit PP 27 2 [(0,a26),(1,a27)]) fun a29 =>
 Z80 a29 a28))
 (ZbM m0 (gcB m0 [] B)))))))
 (mk (ob (xbin PP .eql 3 (shr x0) (iv 87)) fun a30 =>
 asB (shr a30) fun a31 => br a31 (mk (ob (Z1I PP 47 [(0,(iv 48)),(1,(iv 57))]) fun a32 =>
 ob (Z1I PP 47 [(0,(iv 65)),(1,(iv 90))]) fun a33 =>
 callS false EE 65 [(iv 95)] B fun a34 a35 =>
 ob (Z1I PP 47 [(0,(iv 97)),(1,(iv 122))]) fun a36 =>
 ob (xlit PP 27 4 [(0,a32),(1,a33),(2,a34),(3,a36)]) fun a37 =>
 Z80 a37 a35))
 (mk (ob (xbin PP .eql 3 (shr x0) (iv 115)) fun a38 =>
 asB (shr a38) fun a39 => br a39 (asB (shr a38) fun a40 => br a40 (mk (ob (Z1I PP 47 [(0,(iv 9)),(1,(iv 13))]) fun a41 =>
 callS false EE 65 [(iv 32)] B fun a42 a43 =>
 ob (xlit PP 27 2 [(0,a41),(1,a42)]) fun a44 =>
 Z80 a44 a43))
 (ZbM m0 (gcB m0 [] B)))
 (mk (ob (xbin PP .eql 3 (shr x0) (iv 83)) fun a45 =>
 asB (shr a45) fun a46 => br a46 (mk (ob (Z1I PP 47 [(0,(iv 9)),(1,(iv 13))]) fun a47 =>
 callS false EE 65 [(iv 32)] B fun a48 a49 =>
 ob (xlit PP 27 2 [(0,a47),(1,a48)]) fun a50 =>
 Z80 a50 a49))
 (ZbM m0 (gcB m0 [] B)))))))))))))))):=(E_eq PP XX HH _ _ _).trans (by kernel_rfl)
def ZEp:=Z2K Tryd.f79
def Zve:=l2 (l2 ZEp)
def Zvd (m0:Nat):Kont:=kret PP HH 79 Tryd.f79.results
def ZHn:=kseq HH 79 m0 Zve (exec PP HH 79 m0 EE LL Zve (Zvd m0)) (Zvd m0)
def ZHo:=kblk 0 (ZHn m0)
def ZfK:=exec PP HH 79 m0 EE LL Zve (Zvd m0) [(0,x0),(2,x2)] B
def ZrW:=exec PP HH 79 m0 EE LL (l1 (l2 (l2 (l2 (l2 (l2 (l2 (l2 (l2 (l2 (l1 (l1 (l2 ZEp))))))))))))) (ZHo m0) [(1,x1)] B
theorem ZyN:ZfK m0 x0 x2 B =
 mk (callS false EE 21 [(shr x0),(iv 21),(shr x2)] B fun a b =>
 mk (Z1B (iv 0) b)):=by kernel_rfl
theorem ZyM:ZrW m0 x1 B =
 mk (Z1B (shr (shr x1)) B):=by kernel_rfl
theorem ZHm:EE 79 [x0,x1,x2] B =
 (let m0:=B.length
 mk (mk (ob (xbin PP .eql 3 (shr x1) (iv 110)) fun a =>
 asB (shr a) fun b => br b (mk (Z1B (iv 10) B))
 (mk (ob (xbin PP .eql 3 (shr x1) (iv 116)) fun c =>
 asB (shr c) fun d => br d (mk (Z1B (iv 9) B))
 (mk (ob (xbin PP .eql 3 (shr x1) (iv 114)) fun e =>
 asB (shr e) fun f => br f (mk (Z1B (iv 13) B))
 (mk (ob (xbin PP .eql 3 (shr x1) (iv 120)) fun g =>
 asB (shr g) fun h => br h (mk (callS false EE 47 [(shr x0)] B fun i j =>
 callS false EE 98 [i] j fun k l =>
 mk (ob (xbin PP .geq 3 (shr (shr k)) (iv 0)) fun n =>
 asB n fun o => br o (mk (callS false EE 63 [(shr x0)] l fun p q =>
 mk (callS false EE 47 [(shr x0)] q fun r s =>
 callS false EE 98 [r] s fun t u =>
 mk (ob (xbin PP .geq 3 (shr (shr t)) (iv 0)) fun v =>
 asB v fun w => br w (mk (callS false EE 63 [(shr x0)] u fun x y =>
 mk (ob (xbin PP .mul 3 (iv 16) (shr (shr k))) fun z =>
 ob (xbin PP .add 3 z (shr (shr t))) fun A =>
 Z1B (shr A) y)))
 (ZfK m0 x0 x2 (gcB m0 [x0,x2] u))))))
 (ZfK m0 x0 x2 (gcB m0 [x0,x2] l)))))
 (mk (ob (xbin PP .gtr 3 (shr x1) (iv 32)) fun C =>
 asB (shr C) fun D => br D (ob (xbin PP .lss 3 (shr x1) (iv 127)) fun F =>
 asB (shr (shr F)) fun G => br G (ob (Z1I PP 47 [(0,(iv 48)),(1,(iv 57))]) fun I =>
 ob (Z1I PP 47 [(0,(iv 65)),(1,(iv 90))]) fun J =>
 ob (Z1I PP 47 [(0,(iv 97)),(1,(iv 122))]) fun M =>
 ob (xlit PP 28 3 [(0,I),(1,J),(2,M)]) fun N =>
 callS false EE 24 [N,(shr x1)] B fun O Q =>
 ob (xun PP .not O) fun R =>
 asB (shr (shr R)) fun S => br S (ZrW m0 x1 (gcB m0 [x1] Q))
 (ZfK m0 x0 x2 (gcB m0 [x0,x2] Q)))
 (ZfK m0 x0 x2 (gcB m0 [x0,x2] B)))
 (ZfK m0 x0 x2 (gcB m0 [x0,x2] B))))))))))))):=(E_eq PP XX HH _ _ _).trans (by kernel_rfl)
theorem ZHp:EE 80 [x0,x1] B =
 (let m0:=B.length
 mk (ob (ldN false 1 x1 B) fun a =>
 callS false EE 39 [a,(shr x0)] B fun b c =>
 ob (xext 0 (shr b)) fun d =>
 ob (xext 1 (shr b)) fun e =>
 stN 1 x1 (shr d) c fun f =>
 Z4Y f)):=(E_eq PP XX HH _ _ _).trans (by kernel_rfl)
def ZIr:=Z2K Tryd.f81
def Zvi:=l2 (l2 (l2 ZIr))
def Zo3 (r0 r1 r2:AV) (B:List Row):Option Res :=
 ob (ob (some r0) fun v => ob (ob (some r1) fun v => ob (ob (some r2) fun v => ob (some []) fun vs => some (v :: vs)) fun vs => some (v :: vs)) fun vs => some (v :: vs)) fun vs => some ((match vs with | [v] => v | vs => Z98 (vs.map shr)),B)
def Zvf (m0:Nat):Kont:=kret PP HH 81 Tryd.f81.results
def Zvg:=exec PP HH 81 m0 EE LL Zvi (Zvf m0) [(0,x0),(5,x5)] B
def Zvh:=exec PP HH 81 m0 EE LL (l2 Zvi) (Zvf m0) [(0,x0),(2,x2),(5,x5)] B
def ZrX:=exec PP HH 81 m0 EE LL (l2 (l2 (l2 Zvi))) (Zvf m0) [(0,x0),(2,x2),(5,x5)] B
theorem ZBG:Zvg m0 x0 x5 B =
 mk (callS false EE 47 [(shr x0)] B fun a b =>
 mk (ob (xbin PP .lss 3 (shr (shr a)) (iv 0)) fun c =>
 asB c fun d => br d (mk (callS false EE 21 [(shr x0),(iv 21),(shr x5)] b fun e f =>
 mk (Zo3 (iv 0) nilA (bv false) f)))
 (Zvh m0 x0 (shr a) x5 (gcB m0 [x0,(shr a),x5] b)))):=by kernel_rfl
theorem ZBH:Zvh m0 x0 x2 x5 B =
 mk (callS false EE 63 [(shr x0)] B fun a b =>
 mk (callS true EE 78 [(shr x2)] b fun c d =>
 mk (ob (xnil PP .neq 27 (.slice none 0 0) (shr c)) fun e =>
 asB e fun f => br f (mk (ob (xbin PP .lss 3 (shr x2) (iv 97)) fun g =>
 Zo3 (iv 0) c (shr g) d))
 (ZrX m0 x0 x2 x5 (gcB m0 [x0,x2,x5] d))))):=by kernel_rfl
theorem ZyO:ZrX m0 x0 x2 x5 B =
 mk (callS false EE 79 [(shr x0),(shr x2),(shr x5)] B fun a b =>
 Zo3 (shr a) nilA (bv false) b):=by kernel_rfl
theorem ZHq:EE 81 [x0] B =
 (let m0:=B.length
 mk (mk (ob (Z1J (shr x0)) fun a =>
 ob (xfld 1 a) fun b =>
 ob (ldN false 1 b B) fun c =>
 mk (callS false EE 63 [(shr x0)] B fun d e =>
 mk (ob (xbin PP .neq 3 (shr (shr d)) (iv 92)) fun f =>
 asB f fun g => br g (mk (Zo3 (shr (shr (shr d))) nilA (bv false) e))
 (Zvg m0 x0 (shr c) (gcB m0 [x0,(shr c)] e))))))):=(E_eq PP XX HH _ _ _).trans (by kernel_rfl)
def ZEq:=Z2K Tryd.f82
def Zvo:=l2 (l2 ZEq)
def ZqA:=l1 (l1 (l2 (l1 (l2 ZEq))))
def ZBN:=l2 (l2 ZqA)
def Zvj (m0:Nat):Kont:=kret PP HH 82 Tryd.f82.results
def ZHs:=kseq HH 82 m0 Zvo (exec PP HH 82 m0 EE LL Zvo (Zvj m0)) (Zvj m0)
def Zvk:=kblk 0 (ZHs m0)
def ZBI:=kloop HH 82 m0 ZqA (LL 82 m0 ZqA (Zvk m0)) (Zvk m0)
def ZmS:=lp (LL 82 m0 ZqA (Zvk m0) [(0,x0),(1,x1),(7,x7),(8,x8)] B)
def Zvl:=exec PP HH 82 m0 EE LL ZBN (ZBI m0) [(0,x0),(1,x1),(7,x7),(8,x8)] B
def Zvn:=exec PP HH 82 m0 EE LL Zvo (Zvj m0) [] B
def Zvm:=exec PP HH 82 m0 EE LL (l2 ZBN) (ZBI m0) [(0,x0),(1,x1),(7,x7),(8,x8)] B
theorem ZBJ:ZmS m0 x0 x1 x7 x8 B =
 mk (ob (xbin PP .lss 3 x8 x7) fun a =>
 asB a fun b => br b (Zvl m0 x0 x1 x7 x8 (gcB m0 [x0,x1,x7,x8] B))
 (Zvn m0 (gcB m0 [] B))):=lq_ (by kernel_rfl)
theorem ZBK:Zvl m0 x0 x1 x7 x8 B =
 mk (mk (ob (xidx 1 (shr x0) (shr (shr (shr x8)))) fun a =>
 ob (ldN false 1 a B) fun b =>
 callV HH EE (shr x1) [b] B fun c d =>
 asB c fun e => br e (mk (Z1B (shr (shr (shr (shr x8)))) d))
 (Zvm m0 x0 x1 x7 x8 (gcB m0 [x0,x1,x7,x8] d)))):=by kernel_rfl
theorem ZBM:Zvn m0 B =
 mk (Z1B (iv (-1)) B):=by kernel_rfl
theorem ZBL:Zvm m0 x0 x1 x7 x8 B =
 mk (ob (xbin PP .add 3 x8 (iv 1)) fun a =>
 ZmS m0 x0 x1 x7 (shr a) (gcB m0 [x0,x1,x7,(shr a)] B)):=by kernel_rfl
theorem ZHr:EE 82 [x0,x1] B =
 (let m0:=B.length
 mk (mk (ob (xlen PP 121 (shr x0)) fun a =>
 ZmS m0 x0 x1 a (iv 0) (gcB m0 [x0,x1,a,(iv 0)] B)))):=(E_eq PP XX HH _ _ _).trans (by kernel_rfl)
theorem ZHt:EE 83 [] B =
 (let m0:=B.length
 mk (mk (ob (xlit PP 121 4 [(0,(.p (.v (.string (ByteArray.mk #[63,61]))))),(1,(.p (.v (.string (ByteArray.mk #[63,33]))))),(2,(.p (.v (.string (ByteArray.mk #[63,60,61]))))),(3,(.p (.v (.string (ByteArray.mk #[63,60,33])))))]) fun a =>
 Z1B (shr a) B))):=(E_eq PP XX HH _ _ _).trans (by kernel_rfl)
def ZEr:=Z2K Tryd.f84
def Zvs:=l2 (l2 (l2 ZEr))
def ZqB:=l1 (l1 (l2 (l1 (l2 (l2 ZEr)))))
def Zvp (m0:Nat):Kont:=kret PP HH 84 Tryd.f84.results
def ZHv:=kseq HH 84 m0 Zvs (exec PP HH 84 m0 EE LL Zvs (Zvp m0)) (Zvp m0)
def Zvq:=kblk 0 (ZHv m0)
def ZHw:=kloop HH 84 m0 ZqB (LL 84 m0 ZqB (Zvq m0)) (Zvq m0)
def ZmT:=lp (LL 84 m0 ZqB (Zvq m0) [(0,x0),(3,x3),(4,x4)] B)
def Zvr:=exec PP HH 84 m0 EE LL (l2 ZqB) (ZHw m0) [(0,x0),(3,x3),(4,x4)] B
def ZmU:=exec PP HH 84 m0 EE LL Zvs (Zvp m0) [(3,x3)] B
theorem ZBO:ZmT m0 x0 x3 x4 B =
 mk (ob (xbin PP .lss 3 (shr x4) (iv 2)) fun a =>
 asB (shr a) fun b => br b (callS false EE 47 [(shr x0)] B fun c d =>
 ob (xbin PP .geq 3 c (iv 48)) fun e =>
 asB (shr (shr e)) fun f => br f (callS false EE 47 [(shr x0)] d fun g h =>
 ob (xbin PP .leq 3 g (iv 57)) fun i =>
 asB (shr i) fun j => br j (Zvr m0 x0 x3 x4 (gcB m0 [x0,x3,x4] h))
 (ZmU m0 x3 (gcB m0 [x3] h)))
 (ZmU m0 x3 (gcB m0 [x3] d)))
 (ZmU m0 x3 (gcB m0 [x3] B))):=lq_ (by kernel_rfl)
theorem ZBP:Zvr m0 x0 x3 x4 B =
 mk (ob (Z7J PP true [(shr x3),(iv 0)]) fun a =>
 ob (xbin PP .mul 3 (iv 10) a) fun b =>
 callS false EE 63 [(shr x0)] B fun c d =>
 ob (xbin PP .add 3 b c) fun e =>
 ob (xbin PP .sub 3 e (iv 48)) fun f =>
 mk (ob (xbin PP .add 3 (shr x4) (iv 1)) fun g =>
 ZmT m0 x0 (shr f) (shr g) (gcB m0 [x0,(shr f),(shr g)] d))):=by kernel_rfl
theorem ZBQ:ZmU m0 x3 B =
 mk (Z1B (shr (shr x3)) B):=by kernel_rfl
theorem ZHu:EE 84 [x0] B =
 (let m0:=B.length
 mk (mk (mk (ZmT m0 x0 (iv (-1)) (iv 0) (gcB m0 [x0,(iv (-1)),(iv 0)] B))))):=(E_eq PP XX HH _ _ _).trans (by kernel_rfl)
theorem ZHy:EE 96 [x0,x1] B =
 (let m0:=B.length
 mk (mk (callS false EE 104 [(shr x0),(shr x1)] B fun a b =>
 ob (xbin PP .geq 3 a (iv 0)) fun c =>
 Z1B (shr c) b))):=(E_eq PP XX HH _ _ _).trans (by kernel_rfl)
theorem ZHz:EE 97 [x0] B =
 (let m0:=B.length
 mk (bx x0 B fun a b =>
 mk (ob (ldN true 2 a b) fun c =>
 callS false EE 22 [c] b fun d e =>
 ob (xun PP .not d) fun f =>
 Z1B (shr f) e))):=(E_eq PP XX HH _ _ _).trans (by kernel_rfl)
def ZyS:=Z2K Tryd.f98
def Zvx:=l2 (l2 ZyS)
def ZBV:=l2 (l2 (l1 (l1 (l2 ZyS))))
def Zvt (m0:Nat):Kont:=kret PP HH 98 Tryd.f98.results
def ZHB:=kseq HH 98 m0 Zvx (exec PP HH 98 m0 EE LL Zvx (Zvt m0)) (Zvt m0)
def Zvu:=kblk 0 (ZHB m0)
def Zvv:=exec PP HH 98 m0 EE LL (l1 (l2 (l1 (l1 (l2 ZyS))))) (Zvu m0) [(0,x0)] B
def ZqC:=exec PP HH 98 m0 EE LL ZBV (Zvu m0) [(0,x0)] B
def Zvw:=exec PP HH 98 m0 EE LL (l1 (l2 ZBV)) (Zvu m0) [(0,x0)] B
def ZqD:=exec PP HH 98 m0 EE LL Zvx (Zvt m0) [] B
theorem ZBR:Zvv m0 x0 B =
 mk (ob (xbin PP .sub 3 (shr x0) (iv 48)) fun a =>
 Z1B (shr a) B):=by kernel_rfl
theorem ZBS:ZqC m0 x0 B =
 mk (ob (xbin PP .geq 3 (shr x0) (iv 97)) fun a =>
 asB (shr a) fun b => br b (ob (xbin PP .leq 3 (shr x0) (iv 102)) fun c =>
 asB (shr (shr c)) fun d => br d (Zvw m0 x0 (gcB m0 [x0] B))
 (ZqD m0 (gcB m0 [] B)))
 (ZqD m0 (gcB m0 [] B))):=by kernel_rfl
theorem ZBT:Zvw m0 x0 B =
 mk (ob (xbin PP .sub 3 (shr x0) (iv 97)) fun a =>
 ob (xbin PP .add 3 a (iv 10)) fun b =>
 Z1B (shr b) B):=by kernel_rfl
theorem ZBU:ZqD m0 B =
 mk (Z1B (iv (-1)) B):=by kernel_rfl
theorem ZHA:EE 98 [x0] B =
 (let m0:=B.length
 mk (mk (ob (xbin PP .geq 3 (shr x0) (iv 48)) fun a =>
 asB (shr a) fun b => br b (ob (xbin PP .leq 3 (shr x0) (iv 57)) fun c =>
 asB (shr (shr c)) fun d => br d (Zvv m0 x0 (gcB m0 [x0] B))
 (ZqC m0 x0 (gcB m0 [x0] B)))
 (ZqC m0 x0 (gcB m0 [x0] B))))):=(E_eq PP XX HH _ _ _).trans (by kernel_rfl)
def ZzN:=Z2K Tryd.f104
def ZrA:=l2 (l2 ZzN)
def ZnP:=l1 (l1 (l2 (l1 (l2 ZzN))))
def Zxa:=l2 (l2 ZnP)
def Zrv (m0:Nat):Kont:=kret PP HH 104 Tryd.f104.results
def ZEO:=kseq HH 104 m0 ZrA (exec PP HH 104 m0 EE LL ZrA (Zrv m0)) (Zrv m0)
def Zrw:=kblk 0 (ZEO m0)
def Zx9:=kloop HH 104 m0 ZnP (LL 104 m0 ZnP (Zrw m0)) (Zrw m0)
def Zkp:=lp (LL 104 m0 ZnP (Zrw m0) [(0,x0),(1,x1),(7,x7),(8,x8)] B)
def Zrx:=exec PP HH 104 m0 EE LL Zxa (Zx9 m0) [(0,x0),(1,x1),(7,x7),(8,x8)] B
def Zrz:=exec PP HH 104 m0 EE LL ZrA (Zrv m0) [] B
def Zry:=exec PP HH 104 m0 EE LL (l2 Zxa) (Zx9 m0) [(0,x0),(1,x1),(7,x7),(8,x8)] B
theorem ZxQ:Zkp m0 x0 x1 x7 x8 B =
 mk (ob (xbin PP .lss 3 x8 x7) fun a =>
 asB a fun b => br b (Zrx m0 x0 x1 x7 x8 (gcB m0 [x0,x1,x7,x8] B))
 (Zrz m0 (gcB m0 [] B))):=lq_ (by kernel_rfl)
theorem ZxR:Zrx m0 x0 x1 x7 x8 B =
 mk (mk (ob (xidx 2 (shr x0) (shr (shr (shr x8)))) fun a =>
 ob (ldN true 2 a B) fun b =>
 callV HH EE (shr x1) [b] B fun c d =>
 asB c fun e => br e (mk (Z1B (shr (shr (shr (shr x8)))) d))
 (Zry m0 x0 x1 x7 x8 (gcB m0 [x0,x1,x7,x8] d)))):=by kernel_rfl
theorem ZxT:Zrz m0 B =
 mk (Z1B (iv (-1)) B):=by kernel_rfl
theorem ZxS:Zry m0 x0 x1 x7 x8 B =
 mk (ob (xbin PP .add 3 x8 (iv 1)) fun a =>
 Zkp m0 x0 x1 x7 (shr a) (gcB m0 [x0,x1,x7,(shr a)] B)):=by kernel_rfl
theorem ZEN:EE 104 [x0,x1] B =
 (let m0:=B.length
 mk (mk (ob (xlen PP 27 (shr x0)) fun a =>
 Zkp m0 x0 x1 a (iv 0) (gcB m0 [x0,x1,a,(iv 0)] B)))):=(E_eq PP XX HH _ _ _).trans (by kernel_rfl)
end Go.Proofs.YtocikhhkicahoaaDoor.N2
end
