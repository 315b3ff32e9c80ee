/- The functions' equations, by the evaluator. No condition. -/
import Derived.Test.YteoeggbihfnbfaaGreatDoorEvA
import Derived.Test.YteoeggbihfnbfaaGreatDoorProg
import Derived.KernelRfl
import Derived.Test.YteoeggbihfnbfaaGreatDoorEvD

set_option linter.unusedSimpArgs false
set_option linter.unusedVariables false
set_option linter.defProp false
section
namespace Go.Proofs.YteoeggbihfnbfaaGreatDoor.N2
open Go Go.Abs
def ZPy : FuncId → Nat → Option (List Nat) := fun f r => (([(10, [(4, []), (7, [0, 1, 5, 6, 36, 37, 38]), (16, []), (14, [0, 1, 5, 6, 7, 36, 37, 38]), (13, [0, 1, 5, 6, 7, 36, 37, 38]), (17, [0, 1, 5, 6, 36, 37, 38]), (8, [0, 1, 5, 6, 36, 37, 38]), (18, [5, 6]), (5, [0, 1]), (3, [0, 1])]),
 (16, [(4, [2, 11, 12, 13]), (10, [2, 11, 12, 13]), (5, [2, 11, 12, 13]), (11, [2]), (3, [1, 2])]),
 (19, [(3, [2, 3, 16, 17, 18]), (4, [2, 3, 16, 17, 18]), (7, [2, 3])]),
 (20, [(2, []), (5, [3, 16, 17, 18]), (8, []), (9, [5, 16, 17, 18]), (10, [3, 16, 17, 18]), (6, [3, 16, 17, 18]), (11, []), (3, [1])]),
 (21, [(4, [2, 3])]),
 (22, [(9, [4]), (14, [3, 4, 6, 7, 54, 55, 56]), (15, [3, 4, 6, 7, 54, 55, 56]), (19, [3, 4, 6, 7, 66, 67, 68]), (24, [3, 4, 6, 7, 11, 66, 67, 68]), (25, [3, 4, 6, 7, 66, 67, 68]), (20, [3, 4, 6, 7, 66, 67, 68]), (27, [4, 6, 7, 85, 86, 87]), (28, [4, 6, 7, 85, 86, 87]), (35, [4, 6, 7, 103, 104, 105]), (36, [4, 6, 7, 103, 104, 105]), (39, [4, 6]), (33, [4, 6, 7]), (31, [4, 6, 7]), (26, [3, 4, 6, 7]), (18, [3, 4, 6, 7]), (12, [2, 3, 4, 6]), (10, [2, 3, 4, 6]), (3, [2, 3, 4])]),
 (23, [(7, [4, 5, 6]), (4, [4, 5, 6])]),
 (26, [(2, []), (4, [2, 3, 5]), (5, [2, 3, 5]), (6, [2, 3, 5]), (8, []), (3, [2, 3])]),
 (30, [(2, [0, 7, 8, 9]), (5, []), (7, [0, 7, 8, 9, 27, 28, 29]), (11, [0, 7, 8, 9, 27, 28, 29]), (8, [0, 7, 8, 9, 27, 28, 29]), (6, [0, 4, 7, 8, 9]), (12, [0, 7, 8, 9]), (3, [0, 7, 8, 9]), (13, [0])]),
 (33, [(6, [4]), (7, [0, 3, 4]), (3, [0, 3, 4])]),
 (36, [(2, [4]), (3, [0, 1, 4])]),
 (47, [(7, [2, 3, 4, 5]), (9, [2, 3, 4, 5, 50, 51, 52]), (13, [2, 3, 4, 5, 50, 51, 52]), (10, [2, 3, 4, 5, 50, 51, 52]), (16, [2, 3, 4, 5]), (14, [2, 3, 4, 5]), (8, [2, 3, 4, 5]), (3, [0, 2, 3])]),
 (48, [(5, [])]),
 (61, [(4, [0, 4, 5])]),
 (68, [(2, []), (3, [0, 1])]),
 (69, [(2, [0, 2, 3]), (3, [0, 2, 3]), (4, [2, 3])]),
 (70, [(2, [0])]),
 (71, [(4, []), (2, [1]), (5, [1])]),
 (72, [(3, [1, 3, 8, 9, 10]), (4, [1, 3, 8, 9, 10]), (24, [1, 3]), (26, [3]), (7, [1, 3])]),
 (83, [(2, [0, 1, 7, 8]), (6, [0, 1, 7, 8]), (3, [0, 1, 7, 8]), (7, [])]),
 (84, [(2, [0, 1, 7, 8]), (6, [0, 1, 7, 8]), (3, [0, 1, 7, 8]), (7, [])]),
 (91, [(2, [0, 2, 3]), (7, [0, 2, 3]), (3, [0, 2, 3]), (9, [2, 3])]),
 (92, [(6, [0, 1, 4])]),
 (93, [(8, [2, 3, 23, 24, 25]), (9, [2, 3, 23, 24, 25]), (16, [2, 3, 45, 46, 47]), (21, [2, 45, 46, 47]), (22, [2, 3, 11, 45, 46, 47]), (23, [2, 3, 45, 46, 47]), (17, [2, 3, 45, 46, 47]), (30, [2, 3])]),
 (104, [(3, [0])]),
 (105, [(26, [2])]),
 (106, [(17, [6, 8]), (13, [0, 6, 8]), (11, [0, 2, 6, 7, 8])]),
 (107, [(2, []), (3, [0, 1])]),
 (108, [(4, []), (2, []), (3, [0, 1]), (5, [0, 1])]),
 (109, [(2, [0, 1, 7, 8]), (6, [0, 1, 7, 8]), (3, [0, 1, 7, 8]), (7, [])]),
 (126, [(2, []), (5, [0, 1]), (6, [6, 7]), (3, [0, 1])]),
 (128, [(4, [4, 5])]),
 (130, [(13, [0, 1, 4, 5]), (15, [0, 1, 4, 5]), (5, [0, 1, 4, 5])]),
 (131, [(5, [0, 1, 4, 5, 6, 7, 8]), (18, [4, 6]), (15, [0, 4, 5, 6]), (32, [0, 1, 4, 5, 6, 7, 8, 9]), (35, [0, 1, 4, 5, 6, 7, 8, 9, 11, 15]), (33, [0, 1, 4, 5, 6, 7, 8, 9, 11]), (36, [0, 1, 4, 5, 6, 7, 8, 11, 15]), (28, [0, 1, 4, 5, 6, 7, 8, 9, 11]), (22, [0, 1, 4, 5, 6, 7, 8, 9]), (6, [0, 1, 4, 5, 6, 7, 8]), (7, [0, 1, 4, 5, 6, 7, 8]), (38, [4])]),
 (132, [(19, [0, 1, 4, 7]), (23, [4, 7]), (20, [0, 4, 7]), (17, [0, 1, 4]), (4, [0, 1, 4])]),
 (133, [(7, [4]), (8, [0, 1, 4]), (6, [0, 1, 4]), (10, [0, 1, 4, 5]), (11, [4, 5]), (9, [0, 1, 4, 5])]),
 (134, [(3, [0])]),
 (147, [(3, [0])]),
 (148, [(3, [0])]),
 (149, [(11, [])]),
 (150, [(16, [1]), (17, [0, 2])]),
 (152, [(2, []), (3, [0, 1])]),
 (153, [(13, [0, 2, 5]), (9, [0, 2, 5]), (5, [0, 5])]),
 (154, [(2, [0, 1, 7, 8]), (6, [0, 1, 7, 8]), (3, [0, 1, 7, 8]), (7, [])]),
 (156, [(3, [0, 3, 4]), (5, [0, 3, 4]), (6, [3])]),
 (170, [(3, [3, 6, 7, 8]), (6, []), (7, [5, 6, 7, 8]), (8, [3, 6, 7, 8]), (4, [3, 6, 7, 8]), (9, [])]),
 (171, [(4, [3, 4, 7, 8, 9]), (8, [3, 6, 7, 8, 9]), (9, [3, 4, 7, 8, 9]), (5, [3, 4, 7, 8, 9]), (12, [3]), (10, [3, 4])]),
 (172, [(4, [0]), (2, [0]), (3, [0]), (5, [])]),
 (179, [(2, [0, 1, 7, 8]), (6, [0, 1, 7, 8]), (3, [0, 1, 7, 8]), (7, [])]),
 (191, [(2, [0, 1, 7, 8]), (6, [0, 1, 7, 8]), (3, [0, 1, 7, 8]), (7, [])])] : List (Nat × List (Nat × List Nat))).lookup f).bind (·.lookup r)
def ownT : FuncId → List Nat := fun f =>
 if f = 19 then [23] else
 if f = 22 then [110] else
 if f = 61 then [33] else
 if f = 69 then [3, 9] else
 if f = 91 then [3, 23] else
 if f = 130 then [44] else
 if f = 149 then [2] else
 if f = 153 then [3, 6, 29] else
 if f = 171 then [3, 17, 31] else
 []
def rawT : FuncId → Bool := fun f => if f = 149 then true else if f = 153 then true else if f = 178 then true else false
def ZPz : FuncId → List Nat := fun f => if f = 143 then [60] else []
def HH : Hints := ⟨ZPy, ownT, rawT, ZPz⟩
def XX : FuncId → Option (List AV → List Row → Option Res) := fun f => if f = 52 then some Zq2 else if f = 62 then some Ztp else if f = 146 then some Zue else if f = 169 then some Zq1 else if f = 174 then some Zq0 else none
noncomputable abbrev PP : Program := Tryz.prog
noncomputable abbrev EE : GF := E PP XX HH
noncomputable abbrev LL : LF := L PP XX HH
end Go.Proofs.YteoeggbihfnbfaaGreatDoor.N2
end
noncomputable section
namespace Go.Proofs.YteoeggbihfnbfaaGreatDoor.N2
open Go Go.Abs
set_option maxRecDepth 100000
variable (m0 : Nat) (x0 x1 x2 x3 x4 x5 x6 x7 x8 x9 x10 x11 x12 x13 x15 x16 x17 x18 x23 x24 x25 x27 x28 x29 x36 x37 x38 x45 x46 x47 x50 x51 x52 x54 x55 x56 x66 x67 x68 x85 x86 x87 x103 x104 x105 : AV) (B : List Row)
theorem lq_ {f m0 : Nat} {c : Code} {K : Kont} {sl : Sl} {B : List Row} {r : Option Res} (h : exec PP HH f m0 EE LL c (kloop HH f m0 c (LL f m0 c K) K) sl B = r) : LL f m0 c K sl B = r := (L_eq PP XX HH f m0 c K sl B).trans h
noncomputable def ZPn := Z39 Tryz.f10
def ZmF := l2 (l2 ZPn)
def ZAI := l2 (l2 (l2 ZmF))
def Zwg := l1 (l1 (l2 (l1 (l2 (l2 ZmF)))))
def Zsd := l2 (l2 Zwg)
def ZHE := l2 (l2 (l2 (l2 (l1 (l1 Zsd)))))
def ZHF := l1 (l2 ZHE)
def Z1j (r0 : AV) (B : List Row) : Option Res :=
 ob (ob (some r0) fun v => ob (some []) fun vs => some (v :: vs)) fun vs => some ((nrmA (match vs with | [v] => v | vs => Z8h (vs.map shr))), B)
def ZmE (m0 : Nat) : Kont := kret PP HH 10 Tryz.f10.results
def ZNG := kseq HH 10 m0 (l2 ZmF) (exec PP HH 10 m0 EE LL (l2 ZmF) (ZmE m0)) (ZmE m0)
def ZNH := kseq HH 10 m0 ZAI (exec PP HH 10 m0 EE LL ZAI (ZmE m0)) (ZmE m0)
def ZAD := kblk 0 (ZNH m0)
def Zwf := kloop HH 10 m0 Zwg (LL 10 m0 Zwg (ZAD m0)) (ZAD m0)
def ZNI := kseq HH 10 m0 (l2 Zsd) (exec PP HH 10 m0 EE LL (l2 Zsd) (Zwf m0)) (Zwf m0)
def ZAE := kblk 1 (ZNI m0)
def ZAF := exec PP HH 10 m0 EE LL ZmF (ZmE m0) [(0, x0), (1, x1)] B
def Zsc := exec PP HH 10 m0 EE LL (l1 (l2 (l1 ZmF))) (ZNG m0) [] B
def ZAG := exec PP HH 10 m0 EE LL (l2 ZmF) (ZmE m0) [(0, x0), (1, x1)] B
def Zsb := lp (LL 10 m0 Zwg (ZAD m0) [(0, x0), (1, x1), (5, x5), (6, x6), (36, x36), (37, x37), (38, x38)] B)
def ZAH := exec PP HH 10 m0 EE LL Zsd (Zwf m0) [(0, x0), (1, x1), (5, x5), (6, x6), (36, x36), (37, x37), (38, x38)] B
def ZxY := exec PP HH 10 m0 EE LL ZAI (ZmE m0) [(5, x5), (6, x6)] B
def ZxW := exec PP HH 10 m0 EE LL ZHE (ZAE m0) [(0, x0), (1, x1), (5, x5), (6, x6), (7, x7), (36, x36), (37, x37), (38, x38)] B
def ZxX := exec PP HH 10 m0 EE LL ZHF (ZAE m0) [(0, x0), (1, x1), (5, x5), (6, x6), (7, x7), (36, x36), (37, x37), (38, x38)] B
def ZjT := exec PP HH 10 m0 EE LL (l2 Zsd) (Zwf m0) [(0, x0), (1, x1), (5, x5), (6, x6), (36, x36), (37, x37), (38, x38)] B
def Ztz := exec PP HH 10 m0 EE LL (l1 (l2 (l2 ZHF))) (ZAE m0) [] B
theorem ZHA : ZAF m0 x0 x1 B =
 mk (callS false EE 30 [(shr x0)] B fun a b =>
 ob (xun PP .not a) fun c =>
 asB (shr c) fun d => br d (Zsc m0 (gcB m0 [] b))
 (ob (xlen PP 59 (shr x0)) fun e =>
 ob (xbin PP .gtr 3 e (iv 12)) fun f =>
 asB (shr (shr f)) fun g => br g (Zsc m0 (gcB m0 [] b))
 (ob (xlen PP 27 (shr x1)) fun h =>
 ob (xbin PP .gtr 3 h (iv 20)) fun i =>
 asB (shr i) fun j => br j (Zsc m0 (gcB m0 [] b))
 (ZAG m0 x0 x1 (gcB m0 [x0, x1] b))))) := by kernel_rfl
theorem ZHB : Zsc m0 B =
 mk (Z1j (bv true) B) := by kernel_rfl
theorem ZHC : ZAG m0 x0 x1 B =
 mk (callS false EE 32 [] B fun a b =>
 callS false EE 32 [] b fun c d =>
 mk (ob (xlen PP 59 (shr x0)) fun e =>
 Zsb m0 x0 x1 (shr a) (shr c) (shr x0) e (iv 0) (gcB m0 [x0, x1, (shr a), (shr c), (shr x0), e, (iv 0)] d))) := by kernel_rfl
theorem ZHz : Zsb m0 x0 x1 x5 x6 x36 x37 x38 B =
 mk (ob (xbin PP .lss 3 x38 x37) fun a =>
 asB a fun b => br b (ZAH m0 x0 x1 x5 x6 x36 x37 x38 (gcB m0 [x0, x1, x5, x6, x36, x37, x38] B))
 (ZxY m0 x5 x6 (gcB m0 [x5, x6] B))) := lq_ (by kernel_rfl)
theorem ZHD : ZAH m0 x0 x1 x5 x6 x36 x37 x38 B =
 mk (ob (xidx 9 x36 x38) fun a =>
 ob (ldN true 9 a B) fun b =>
 bz PP 61 B fun c d =>
 stN 9 c b d fun e =>
 mk (ob (ldN true 9 c e) fun f =>
 callS false EE 33 [(shr x5), f] e fun g h =>
 ob (xext 0 (shr g)) fun i =>
 ob (xext 1 (shr g)) fun j =>
 bz PP 66 h fun k l =>
 stN 4 k (shr i) l fun n =>
 mk (ob (ldN true 9 c n) fun o =>
 callS false EE 33 [(shr x6), o] n fun p q =>
 ob (xext 0 (shr p)) fun r =>
 ob (xext 1 (shr p)) fun s =>
 bz PP 66 q fun t u =>
 stN 4 t (shr r) u fun v =>
 mk (ob (ldN true 4 k v) fun w =>
 ob (ldN true 4 t v) fun x =>
 ob (xbin PP .neq 66 w x) fun y =>
 asB y fun z => br z (mk (Z1j (bv false) v))
 (ZxW m0 x0 x1 x5 x6 (shr (shr x38)) x36 x37 x38 (gcB m0 [x0, x1, x5, x6, (shr (shr x38)), x36, x37, x38] v)))))) := by kernel_rfl
theorem ZFe : ZxY m0 x5 x6 B =
 mk (callS false EE 35 [(shr x5)] B fun a b =>
 callS false EE 36 [(shr x5), a] b fun c d =>
 ob (xext 0 (shr c)) fun e =>
 ob (xext 1 (shr c)) fun f =>
 bz PP 24 d fun g h =>
 stN 5 g (shr e) h fun i =>
 mk (callS false EE 35 [(shr x6)] i fun j k =>
 callS false EE 36 [(shr x6), j] k fun l n =>
 ob (xext 0 (shr l)) fun o =>
 ob (xext 1 (shr l)) fun p =>
 bz PP 24 n fun q r =>
 stN 5 q (shr o) r fun s =>
 mk (callS false EE 35 [(shr x5)] s fun t u =>
 callS false EE 35 [(shr x6)] u fun v w =>
 ob (xbin PP .eql 3 t v) fun x =>
 asB (shr x) fun y => br y (ob (ldN true 5 g w) fun z =>
 callS false EE 19 [z] w fun A C =>
 ob (ldN true 5 q C) fun D =>
 callS false EE 19 [D] C fun F G =>
 callS false EE 26 [A, F] G fun I J =>
 grd (Zha [A, z]) (Z1j (shr (shr I)) J))
 (grd (Zha [ud, ud]) (Z1j (bv false) w))))) := by kernel_rfl
theorem ZFa : ZxW m0 x0 x1 x5 x6 x7 x36 x37 x38 B =
 mk (ob (xlen PP 27 (shr x1)) fun a =>
 ob (xbin PP .lss 3 (shr x7) a) fun b =>
 asB (shr b) fun c => br c (ob (xidx 1 (shr x1) (shr x7)) fun d =>
 ob (ldN false 1 d B) fun e =>
 ob (xbin PP .geq 3 e (iv 0)) fun f =>
 asB (shr (shr f)) fun g => br g (ob (xidx 1 (shr x1) (shr x7)) fun h =>
 ob (ldN false 1 h B) fun i =>
 ob (xbin PP .leq 3 i (shr x7)) fun j =>
 asB (shr j) fun k => br k (ZxX m0 x0 x1 x5 x6 x7 x36 x37 x38 (gcB m0 [x0, x1, x5, x6, x7, x36, x37, x38] B))
 (ZjT m0 x0 x1 x5 x6 x36 x37 x38 (gcB m0 [x0, x1, x5, x6, x36, x37, x38] B)))
 (ZjT m0 x0 x1 x5 x6 x36 x37 x38 (gcB m0 [x0, x1, x5, x6, x36, x37, x38] B)))
 (ZjT m0 x0 x1 x5 x6 x36 x37 x38 (gcB m0 [x0, x1, x5, x6, x36, x37, x38] B))) := by kernel_rfl
theorem ZFb : ZxX m0 x0 x1 x5 x6 x7 x36 x37 x38 B =
 mk (ob (xidx 1 (shr x1) (shr x7)) fun a =>
 ob (ldN false 1 a B) fun b =>
 ob (xidx 9 (shr x0) b) fun c =>
 ob (ldN true 9 c B) fun d =>
 callS false EE 33 [(shr x6), d] B fun e f =>
 ob (xext 0 (shr e)) fun g =>
 ob (xext 1 (shr e)) fun h =>
 bz PP 66 f fun i j =>
 stN 4 i (shr g) j fun k =>
 mk (ob (xbin PP .eql 30 (shr (shr (shr h))) (iv 0)) fun l =>
 asB (shr l) fun n => br n (ob (xfld 1 i) fun o =>
 ob (xfld 0 o) fun p =>
 ob (ldN false 1 p k) fun q =>
 ob (xbin PP .neq 30 q (iv 31)) fun r =>
 asB (shr r) fun s => br s (Ztz m0 (gcB m0 [] k))
 (ob (xfld 0 i) fun t =>
 ob (ldN false 1 t k) fun u =>
 ob (xbin PP .neq 3 u (iv 0)) fun v =>
 asB (shr (shr v)) fun w => br w (Ztz m0 (gcB m0 [] k))
 (ZjT m0 x0 x1 x5 x6 x36 x37 x38 (gcB m0 [x0, x1, x5, x6, x36, x37, x38] k))))
 (ZjT m0 x0 x1 x5 x6 x36 x37 x38 (gcB m0 [x0, x1, x5, x6, x36, x37, x38] k)))) := by kernel_rfl
theorem ZFd : ZjT m0 x0 x1 x5 x6 x36 x37 x38 B =
 mk (ob (xbin PP .add 3 x38 (iv 1)) fun a =>
 Zsb m0 x0 x1 x5 x6 x36 x37 (shr a) (gcB m0 [x0, x1, x5, x6, x36, x37, (shr a)] B)) := by kernel_rfl
theorem ZFc : Ztz m0 B =
 mk (Z1j (bv false) B) := by kernel_rfl
theorem ZNF : EE 10 [x0, x1] B =
 (let m0 := B.length
 mk (mk (callS false EE 29 [] B fun a b =>
 ob (xun PP .not a) fun c =>
 asB c fun d => br d (mk (Z1j (bv false) b))
 (ZAF m0 x0 x1 (gcB m0 [x0, x1] b))))) := (E_eq PP XX HH _ _ _).trans (by kernel_rfl)
noncomputable def ZPo := Z39 Tryz.f16
def Zsf := l2 (l2 ZPo)
def Zwi := l1 (l1 (l2 (l1 Zsf)))
def ZHR := l2 (l2 Zwi)
def ZoV (r0 : AV) (B : List Row) : Option Res :=
 ob (ob (ldN true 3 r0 B) fun v => ob (some []) fun vs => some (v :: vs)) fun vs => some ((nrmA (match vs with | [v] => v | vs => Z8h (vs.map shr))), B)
def Zwh (m0 : Nat) : Kont := kret PP HH 16 Tryz.f16.results
def ZNS := kseq HH 16 m0 (l2 Zsf) (exec PP HH 16 m0 EE LL (l2 Zsf) (Zwh m0)) (Zwh m0)
def ZAJ := kblk 0 (ZNS m0)
def ZHN := kloop HH 16 m0 Zwi (LL 16 m0 Zwi (ZAJ m0)) (ZAJ m0)
def ZAK := exec PP HH 16 m0 EE LL Zsf (Zwh m0) [(1, x1), (2, x2)] B
def Zse := lp (LL 16 m0 Zwi (ZAJ m0) [(2, x2), (11, x11), (12, x12), (13, x13)] B)
def ZAL := exec PP HH 16 m0 EE LL ZHR (ZHN m0) [(2, x2), (11, x11), (12, x12), (13, x13)] B
def ZyB := exec PP HH 16 m0 EE LL (l2 Zsf) (Zwh m0) [(2, x2)] B
def ZyA := exec PP HH 16 m0 EE LL (l2 ZHR) (ZHN m0) [(2, x2), (11, x11), (12, x12), (13, x13)] B
theorem ZHP : ZAK m0 x1 x2 B =
 mk (ob (xfld 4 x1) fun a =>
 ob (ldN false 1 a B) fun b =>
 ob (xlen PP 22 b) fun c =>
 Zse m0 x2 b c (iv 0) (gcB m0 [x2, b, c, (iv 0)] B)) := by kernel_rfl
theorem ZHO : Zse m0 x2 x11 x12 x13 B =
 mk (ob (xbin PP .lss 3 x13 x12) fun a =>
 asB a fun b => br b (ZAL m0 x2 x11 x12 x13 (gcB m0 [x2, x11, x12, x13] B))
 (ZyB m0 x2 (gcB m0 [x2] B))) := lq_ (by kernel_rfl)
theorem ZHQ : ZAL m0 x2 x11 x12 x13 B =
 mk (ob (xidx 5 x11 x13) fun a =>
 ob (ldN true 5 a B) fun b =>
 bz PP 43 B fun c d =>
 stN 5 c b d fun e =>
 mk (ob (xfld 4 c) fun f =>
 ob (ldN false 1 f e) fun g =>
 callS false EE 21 [g] e fun h i =>
 bz PP 32 i fun j k =>
 stN 3 j h k fun l =>
 mk (ob (xfld 0 j) fun n =>
 ob (ldN false 1 n l) fun o =>
 ob (xbin PP .neq 30 o (iv 0)) fun p =>
 asB p fun q => br q (mk (ob (xfld 0 c) fun r =>
 ob (ldN false 1 r l) fun s =>
 ob (xfld 1 j) fun t =>
 stN 1 t s l fun u =>
 mk (ob (ldN true 3 j u) fun v =>
 stN 3 x2 v u fun w =>
 ZoV x2 w)))
 (ZyA m0 x2 x11 x12 x13 (gcB m0 [x2, x11, x12, x13] l))))) := by kernel_rfl
theorem ZFI : ZyB m0 x2 B =
 mk (ob (Z2a PP 32 []) fun a =>
 stN 3 x2 a B fun b =>
 ZoV x2 b) := by kernel_rfl
theorem ZFH : ZyA m0 x2 x11 x12 x13 B =
 mk (ob (xbin PP .add 3 x13 (iv 1)) fun a =>
 Zse m0 x2 x11 x12 (shr a) (gcB m0 [x2, x11, x12, (shr a)] B)) := by kernel_rfl
theorem ZNR : EE 16 [x0] B =
 (let m0 := B.length
 mk (bx x0 B fun a b =>
 bz PP 32 b fun c d =>
 mk (ob (ldN true 5 a d) fun e =>
 callS false EE 20 [e] d fun f g =>
 ob (xun PP .not f) fun h =>
 asB h fun i => br i (mk (ob (Z2a PP 32 [(0, (iv 10))]) fun j =>
 stN 3 c j g fun k =>
 ZoV c k))
 (ZAK m0 a c (gcB m0 [a, c] g))))) := (E_eq PP XX HH _ _ _).trans (by kernel_rfl)
noncomputable def ZL9 := Z39 Tryz.f19
def ZAR := l2 (l2 (l2 ZL9))
def Zwj := l1 (l1 (l2 (l1 (l2 (l2 ZL9)))))
def ZEm (r0 : AV) (B : List Row) : Option Res :=
 ob (ob (ldN true 5 r0 B) fun v => ob (some []) fun vs => some (v :: vs)) fun vs => some ((nrmA (match vs with | [v] => v | vs => Z8h (vs.map shr))), B)
def ZAN (m0 : Nat) : Kont := kret PP HH 19 Tryz.f19.results
def ZNU := kseq HH 19 m0 ZAR (exec PP HH 19 m0 EE LL ZAR (ZAN m0)) (ZAN m0)
def ZAO := kblk 0 (ZNU m0)
def ZNV := kloop HH 19 m0 Zwj (LL 19 m0 Zwj (ZAO m0)) (ZAO m0)
def Zsg := lp (LL 19 m0 Zwj (ZAO m0) [(2, x2), (3, x3), (16, x16), (17, x17), (18, x18)] B)
def ZAP := exec PP HH 19 m0 EE LL (l2 (l2 Zwj)) (ZNV m0) [(2, x2), (3, x3), (16, x16), (17, x17), (18, x18)] B
def ZAQ := exec PP HH 19 m0 EE LL ZAR (ZAN m0) [(2, x2), (3, x3)] B
theorem ZHW : Zsg m0 x2 x3 x16 x17 x18 B =
 mk (ob (xbin PP .lss 3 x18 x17) fun a =>
 asB a fun b => br b (ZAP m0 x2 x3 x16 x17 x18 (gcB m0 [x2, x3, x16, x17, x18] B))
 (ZAQ m0 x2 x3 (gcB m0 [x2, x3] B))) := lq_ (by kernel_rfl)
theorem ZHX : ZAP m0 x2 x3 x16 x17 x18 B =
 mk (ob (xidx 5 x16 x18) fun a =>
 ob (ldN true 5 a B) fun b =>
 bz PP 43 B fun c d =>
 stN 5 c b d fun e =>
 mk (ob (xfld 4 x3) fun f =>
 ldOwn f e fun g h =>
 ob (ldN true 5 c h) fun i =>
 ob (xlit PP 38 1 [(0, i)]) fun j =>
 ob (xapp 5 g j) fun k =>
 ob (xfld 4 x3) fun l =>
 stN 1 l k h fun n =>
 mk (ob (xbin PP .add 3 x18 (iv 1)) fun o =>
 Zsg m0 x2 x3 x16 x17 (shr o) (gcB m0 [x2, x3, x16, x17, (shr o)] n)))) := by kernel_rfl
theorem ZHY : ZAQ m0 x2 x3 B =
 mk (ob (ldN true 5 x3 B) fun a =>
 stN 5 x2 a B fun b =>
 ZEm x2 b) := by kernel_rfl
theorem ZNT : EE 19 [x0] B =
 (let m0 := B.length
 mk (bx x0 B fun a b =>
 bz PP 40 b fun c d =>
 mk (ob (xfld 0 a) fun e =>
 ob (ldN false 1 e d) fun f =>
 ob (xfld 1 a) fun g =>
 ob (ldN false 1 g d) fun h =>
 ob (xfld 2 a) fun i =>
 ob (ldN false 1 i d) fun j =>
 ob (xfld 3 a) fun k =>
 ob (ldN false 1 k d) fun l =>
 ob (Z2a PP 40 [(0, f), (1, h), (2, j), (3, l)]) fun n =>
 bz PP 40 d fun o p =>
 stN 5 o n p fun q =>
 mk (ob (xfld 4 a) fun r =>
 ob (ldN false 1 r q) fun s =>
 ob (xlen PP 22 s) fun t =>
 Zsg m0 c o s t (iv 0) (gcB m0 [c, o, s, t, (iv 0)] q))))) := (E_eq PP XX HH _ _ _).trans (by kernel_rfl)
noncomputable def ZLa := Z39 Tryz.f20
def Zsi := l2 (l2 ZLa)
def ZAY := l2 (l2 Zsi)
def Zwn := l1 (l1 (l2 (l1 (l2 Zsi))))
def Zp2 := l2 (l2 Zwn)
def ZAX := l2 (l2 (l1 (l1 Zp2)))
def Zp1 (m0 : Nat) : Kont := kret PP HH 20 Tryz.f20.results
def ZNX := kseq HH 20 m0 Zsi (exec PP HH 20 m0 EE LL Zsi (Zp1 m0)) (Zp1 m0)
def ZNY := kseq HH 20 m0 ZAY (exec PP HH 20 m0 EE LL ZAY (Zp1 m0)) (Zp1 m0)
def ZAS := kblk 0 (ZNY m0)
def Zwk := kloop HH 20 m0 Zwn (LL 20 m0 Zwn (ZAS m0)) (ZAS m0)
def ZNZ := kseq HH 20 m0 (l2 Zp2) (exec PP HH 20 m0 EE LL (l2 Zp2) (Zwk m0)) (Zwk m0)
def ZAT := kblk 1 (ZNZ m0)
def ZO0 := kseq HH 20 m0 ZAX (exec PP HH 20 m0 EE LL ZAX (ZAT m0)) (ZAT m0)
def Zwl := exec PP HH 20 m0 EE LL (l1 (l2 (l1 (l2 ZLa)))) (ZNX m0) [] B
def ZAU := exec PP HH 20 m0 EE LL Zsi (Zp1 m0) [(1, x1)] B
def Zsh := lp (LL 20 m0 Zwn (ZAS m0) [(3, x3), (16, x16), (17, x17), (18, x18)] B)
def ZAV := exec PP HH 20 m0 EE LL Zp2 (Zwk m0) [(3, x3), (16, x16), (17, x17), (18, x18)] B
def Zz6 := exec PP HH 20 m0 EE LL ZAY (Zp1 m0) [] B
def Zwm := exec PP HH 20 m0 EE LL (l1 (l2 (l1 (l2 (l1 (l1 Zp2)))))) (ZO0 m0) [] B
def ZAW := exec PP HH 20 m0 EE LL ZAX (ZAT m0) [(5, x5), (16, x16), (17, x17), (18, x18)] B
def Zz5 := exec PP HH 20 m0 EE LL (l2 Zp2) (Zwk m0) [(3, x3), (16, x16), (17, x17), (18, x18)] B
theorem ZI0 : Zwl m0 B =
 mk (Z1j (bv false) B) := by kernel_rfl
theorem ZI1 : ZAU m0 x1 B =
 mk (mk (ob (xfld 4 x1) fun a =>
 ob (ldN false 1 a B) fun b =>
 ob (xlen PP 22 b) fun c =>
 Zsh m0 (iv 0) b c (iv 0) (gcB m0 [(iv 0), b, c, (iv 0)] B))) := by kernel_rfl
theorem ZHZ : Zsh m0 x3 x16 x17 x18 B =
 mk (ob (xbin PP .lss 3 x18 x17) fun a =>
 asB a fun b => br b (ZAV m0 x3 x16 x17 x18 (gcB m0 [x3, x16, x17, x18] B))
 (Zz6 m0 (gcB m0 [] B))) := lq_ (by kernel_rfl)
theorem ZI2 : ZAV m0 x3 x16 x17 x18 B =
 mk (ob (xidx 5 x16 x18) fun a =>
 ob (ldN true 5 a B) fun b =>
 bz PP 43 B fun c d =>
 stN 5 c b d fun e =>
 mk (ob (ldN true 5 c e) fun f =>
 callS false EE 27 [f] e fun g h =>
 ob (xun PP .not g) fun i =>
 asB (shr i) fun j => br j (Zwm m0 (gcB m0 [] h))
 (ob (xfld 0 c) fun k =>
 ob (ldN false 1 k h) fun l =>
 ob (xbin PP .leq 3 l (shr x3)) fun n =>
 asB (shr n) fun o => br o (Zwm m0 (gcB m0 [] h))
 (ZAW m0 c x16 x17 x18 (gcB m0 [c, x16, x17, x18] h))))) := by kernel_rfl
theorem ZG6 : Zz6 m0 B =
 mk (Z1j (bv true) B) := by kernel_rfl
theorem ZI3 : Zwm m0 B =
 mk (Z1j (bv false) B) := by kernel_rfl
theorem ZI4 : ZAW m0 x5 x16 x17 x18 B =
 mk (ob (xfld 0 x5) fun a =>
 ob (ldN false 1 a B) fun b =>
 Zz5 m0 (shr b) x16 x17 x18 (gcB m0 [(shr b), x16, x17, x18] B)) := by kernel_rfl
theorem ZG5 : Zz5 m0 x3 x16 x17 x18 B =
 mk (ob (xbin PP .add 3 x18 (iv 1)) fun a =>
 Zsh m0 x3 x16 x17 (shr a) (gcB m0 [x3, x16, x17, (shr a)] B)) := by kernel_rfl
theorem ZNW : EE 20 [x0] B =
 (let m0 := B.length
 mk (bx x0 B fun a b =>
 mk (ob (ldN true 5 a b) fun c =>
 callS false EE 46 [c] b fun d e =>
 ob (xun PP .not d) fun f =>
 asB (shr f) fun g => br g (Zwl m0 (gcB m0 [] e))
 (ob (xfld 4 a) fun h =>
 ob (ldN false 1 h e) fun i =>
 ob (xlen PP 22 i) fun j =>
 ob (xbin PP .gtr 3 j (iv 16)) fun k =>
 asB (shr k) fun l => br l (Zwl m0 (gcB m0 [] e))
 (ZAU m0 a (gcB m0 [a] e)))))) := (E_eq PP XX HH _ _ _).trans (by kernel_rfl)
noncomputable def ZPp := Z39 Tryz.f21
def ZO2 (m0 : Nat) : Kont := kret PP HH 21 Tryz.f21.results
def ZAZ := exec PP HH 21 m0 EE LL (l2 (l2 (l2 ZPp))) (ZO2 m0) [(2, x2), (3, x3)] B
theorem ZI5 : ZAZ m0 x2 x3 B =
 mk (ob (ldN true 9 x3 B) fun a =>
 callS false EE 48 [a] B fun b c =>
 ob (Z2a PP 32 [(0, b)]) fun d =>
 stN 3 x2 d c fun e =>
 ZoV x2 e) := by kernel_rfl
theorem ZO1 : EE 21 [x0] B =
 (let m0 := B.length
 mk (bz PP 32 B fun a b =>
 mk (callS false EE 47 [(shr x0)] b fun c d =>
 ob (xext 0 (shr c)) fun e =>
 ob (xext 1 (shr c)) fun f =>
 bz PP 100 d fun g h =>
 bz PP 102 h fun i j =>
 stN 9 g (shr e) j fun k =>
 stN 2 i (shr f) k fun l =>
 mk (ob (xfld 0 i) fun n =>
 ob (ldN false 1 n l) fun o =>
 ob (xbin PP .neq 30 o (iv 0)) fun p =>
 asB p fun q => br q (mk (ob (xfld 0 i) fun r =>
 ob (ldN false 1 r l) fun s =>
 ob (xfld 1 i) fun t =>
 ob (ldN false 1 t l) fun u =>
 ob (Z2a PP 32 [(0, s), (2, u)]) fun v =>
 stN 3 a v l fun w =>
 ZoV a w))
 (ZAZ m0 a g (gcB m0 [a, g] l)))))) := (E_eq PP XX HH _ _ _).trans (by kernel_rfl)
noncomputable def ZPq := Z39 Tryz.f22
def ZB3 := l2 (l2 ZPq)
def Zp7 := l2 (l2 (l2 (l2 (l2 (l2 ZB3)))))
def Zct := l2 (l2 (l2 Zp7))
def Zwq := l1 (l1 (l2 (l1 (l2 (l2 Zp7)))))
def Zwr := l1 (l1 (l2 (l1 Zct)))
def Zws := l1 (l1 (l2 (l1 (l2 Zct))))
def ZB4 := l2 (l2 (l2 (l2 (l2 Zct))))
def Zsj := l2 (l2 Zwr)
def Zwt := l1 (l1 (l2 (l1 (l2 (l2 (l2 (l2 Zct)))))))
def Zi4 (r0 r1 : AV) (B : List Row) : Option Res :=
 ob (ob (ldN true 5 r0 B) fun v => ob (ob (some r1) fun v => ob (some []) fun vs => some (v :: vs)) fun vs => some (v :: vs)) fun vs => some ((nrmA (match vs with | [v] => v | vs => Z8h (vs.map shr))), B)
def Z9E (m0 : Nat) : Kont := kret PP HH 22 Tryz.f22.results
def ZO4 := kseq HH 22 m0 Zp7 (exec PP HH 22 m0 EE LL Zp7 (Z9E m0)) (Z9E m0)
def ZO5 := kseq HH 22 m0 Zct (exec PP HH 22 m0 EE LL Zct (Z9E m0)) (Z9E m0)
def ZB0 := kblk 0 (ZO5 m0)
def ZO6 := kloop HH 22 m0 Zwq (LL 22 m0 Zwq (ZB0 m0)) (ZB0 m0)
def ZO7 := kseq HH 22 m0 (l2 Zct) (exec PP HH 22 m0 EE LL (l2 Zct) (Z9E m0)) (Z9E m0)
def ZB1 := kblk 2 (ZO7 m0)
def Zwo := kloop HH 22 m0 Zwr (LL 22 m0 Zwr (ZB1 m0)) (ZB1 m0)
def ZO8 := kseq HH 22 m0 (l2 Zsj) (exec PP HH 22 m0 EE LL (l2 Zsj) (Zwo m0)) (Zwo m0)
def ZO9 := kblk 3 (ZO8 m0)
def ZMK := kseq HH 22 m0 (l2 (l2 Zct)) (exec PP HH 22 m0 EE LL (l2 (l2 Zct)) (Z9E m0)) (Z9E m0)
def Zz7 := kblk 4 (ZMK m0)
def ZML := kloop HH 22 m0 Zws (LL 22 m0 Zws (Zz7 m0)) (Zz7 m0)
def ZMM := kseq HH 22 m0 ZB4 (exec PP HH 22 m0 EE LL ZB4 (Z9E m0)) (Z9E m0)
def Zz8 := kblk 6 (ZMM m0)
def ZMN := kloop HH 22 m0 Zwt (LL 22 m0 Zwt (Zz8 m0)) (Zz8 m0)
def ZB2 := exec PP HH 22 m0 EE LL ZB3 (Z9E m0) [(2, x2), (3, x3), (4, x4)] B
def Zwp := exec PP HH 22 m0 EE LL (l1 (l2 (l1 (l2 (l2 (l2 (l2 (l2 ZB3)))))))) (ZO4 m0) [(4, x4)] B
def Zz9 := exec PP HH 22 m0 EE LL Zp7 (Z9E m0) [(2, x2), (3, x3), (4, x4), (6, x6)] B
def Zza := exec PP HH 22 m0 EE LL (l2 Zp7) (Z9E m0) [(2, x2), (3, x3), (4, x4), (6, x6)] B
def Zp3 := lp (LL 22 m0 Zwq (ZB0 m0) [(3, x3), (4, x4), (6, x6), (7, x7), (54, x54), (55, x55), (56, x56)] B)
def Zzb := exec PP HH 22 m0 EE LL (l2 (l2 Zwq)) (ZO6 m0) [(3, x3), (4, x4), (6, x6), (7, x7), (54, x54), (55, x55), (56, x56)] B
def Zzc := exec PP HH 22 m0 EE LL Zct (Z9E m0) [(3, x3), (4, x4), (6, x6), (7, x7)] B
def Zp4 := lp (LL 22 m0 Zwr (ZB1 m0) [(3, x3), (4, x4), (6, x6), (7, x7), (66, x66), (67, x67), (68, x68)] B)
def Zzd := exec PP HH 22 m0 EE LL Zsj (Zwo m0) [(3, x3), (4, x4), (6, x6), (7, x7), (66, x66), (67, x67), (68, x68)] B
def Zzg := exec PP HH 22 m0 EE LL (l2 Zct) (Z9E m0) [(3, x3), (4, x4), (6, x6), (7, x7)] B
def Zze := exec PP HH 22 m0 EE LL (l2 (l2 (l1 (l1 Zsj)))) (ZO9 m0) [(3, x3), (4, x4), (6, x6), (7, x7), (11, x11), (66, x66), (67, x67), (68, x68)] B
def Zp5 := lp (LL 22 m0 Zws (Zz7 m0) [(4, x4), (6, x6), (7, x7), (85, x85), (86, x86), (87, x87)] B)
def Zzf := exec PP HH 22 m0 EE LL (l2 Zsj) (Zwo m0) [(3, x3), (4, x4), (6, x6), (7, x7), (66, x66), (67, x67), (68, x68)] B
def Zzh := exec PP HH 22 m0 EE LL (l2 (l2 Zws)) (ZML m0) [(4, x4), (6, x6), (7, x7), (85, x85), (86, x86), (87, x87)] B
def Zzi := exec PP HH 22 m0 EE LL (l2 (l2 Zct)) (Z9E m0) [(4, x4), (6, x6), (7, x7)] B
def Zzj := exec PP HH 22 m0 EE LL (l2 (l2 (l2 Zct))) (Z9E m0) [(4, x4), (6, x6), (7, x7)] B
def Zp6 := lp (LL 22 m0 Zwt (Zz8 m0) [(4, x4), (6, x6), (7, x7), (103, x103), (104, x104), (105, x105)] B)
def Zzk := exec PP HH 22 m0 EE LL (l2 (l2 Zwt)) (ZMN m0) [(4, x4), (6, x6), (7, x7), (103, x103), (104, x104), (105, x105)] B
def Zzl := exec PP HH 22 m0 EE LL ZB4 (Z9E m0) [(4, x4), (6, x6)] B
theorem ZI6 : ZB2 m0 x2 x3 x4 B =
 mk (ob (ldN true 5 x2 B) fun a =>
 bz PP 24 B fun b c =>
 stN 5 b a c fun d =>
 mk (ob (xfld 0 b) fun e =>
 ob (xfld 0 x3) fun f =>
 ob (ldN false 1 f d) fun g =>
 callS false EE 49 [e, g] d fun h i =>
 mk (ob (xfld 1 b) fun j =>
 ob (xfld 1 x3) fun k =>
 ob (ldN false 1 k i) fun l =>
 callS false EE 49 [j, l] i fun n o =>
 mk (ob (xfld 2 b) fun p =>
 ob (xfld 2 x3) fun q =>
 ob (ldN false 1 q o) fun r =>
 callS false EE 49 [p, r] o fun s t =>
 mk (ob (xfld 3 b) fun u =>
 ob (xfld 3 x3) fun v =>
 ob (ldN false 1 v t) fun w =>
 callS false EE 49 [u, w] t fun x y =>
 mk (ob (ldN true 5 b y) fun z =>
 callS false EE 46 [z] y fun A C =>
 ob (xun PP .not A) fun D =>
 asB (shr D) fun F => br F (Zwp m0 x4 (gcB m0 [x4] C))
 (ob (xfld 4 x3) fun G =>
 ob (ldN false 1 G C) fun I =>
 callS false EE 50 [I, (.clo 27 [] [])] C fun J M =>
 ob (xun PP .not J) fun N =>
 asB (shr N) fun O => br O (Zwp m0 x4 (gcB m0 [x4] M))
 (Zz9 m0 x2 x3 x4 b (gcB m0 [x2, x3, x4, b] M))))))))) := by kernel_rfl
theorem ZI7 : Zwp m0 x4 B =
 mk (ob (Z2a PP 24 []) fun a =>
 stN 5 x4 a B fun b =>
 Zi4 x4 (iv 30) b) := by kernel_rfl
theorem ZGb : Zz9 m0 x2 x3 x4 x6 B =
 mk (ob (ldN true 6 x3 B) fun a =>
 callS false EE 51 [a] B fun b c =>
 asB b fun d => br d (mk (ob (Z2a PP 24 []) fun e =>
 stN 5 x4 e c fun f =>
 Zi4 x4 (iv 31) f))
 (Zza m0 x2 x3 x4 x6 (gcB m0 [x2, x3, x4, x6] c))) := by kernel_rfl
theorem ZGc : Zza m0 x2 x3 x4 x6 B =
 mk (xmake PP 110 B fun a b =>
 mk (ob (xfld 4 x2) fun c =>
 ob (ldN false 1 c b) fun d =>
 ob (xlen PP 22 d) fun e =>
 Zp3 m0 x3 x4 x6 (shr a) d e (iv 0) (gcB m0 [x3, x4, x6, (shr a), d, e, (iv 0)] b))) := by kernel_rfl
theorem ZG7 : Zp3 m0 x3 x4 x6 x7 x54 x55 x56 B =
 mk (ob (xbin PP .lss 3 x56 x55) fun a =>
 asB a fun b => br b (Zzb m0 x3 x4 x6 x7 x54 x55 x56 (gcB m0 [x3, x4, x6, x7, x54, x55, x56] B))
 (Zzc m0 x3 x4 x6 x7 (gcB m0 [x3, x4, x6, x7] B))) := lq_ (by kernel_rfl)
theorem ZGd : Zzb m0 x3 x4 x6 x7 x54 x55 x56 B =
 mk (ob (xidx 5 x54 x56) fun a =>
 ob (ldN true 5 a B) fun b =>
 bz PP 43 B fun c d =>
 stN 5 c b d fun e =>
 mk (ob (xfld 0 c) fun f =>
 ob (ldN false 1 f e) fun g =>
 ob (ldN true 5 c e) fun h =>
 xupd PP 110 (shr x7) g h e fun i =>
 mk (ob (xbin PP .add 3 x56 (iv 1)) fun j =>
 Zp3 m0 x3 x4 x6 x7 x54 x55 (shr j) (gcB m0 [x3, x4, x6, x7, x54, x55, (shr j)] i)))) := by kernel_rfl
theorem ZGe : Zzc m0 x3 x4 x6 x7 B =
 mk (ob (xfld 5 x3) fun a =>
 ob (ldN false 1 a B) fun b =>
 ob (xlen PP 27 b) fun c =>
 Zp4 m0 x3 x4 x6 x7 b c (iv 0) (gcB m0 [x3, x4, x6, x7, b, c, (iv 0)] B)) := by kernel_rfl
theorem ZG8 : Zp4 m0 x3 x4 x6 x7 x66 x67 x68 B =
 mk (ob (xbin PP .lss 3 x68 x67) fun a =>
 asB a fun b => br b (Zzd m0 x3 x4 x6 x7 x66 x67 x68 (gcB m0 [x3, x4, x6, x7, x66, x67, x68] B))
 (Zzg m0 x3 x4 x6 x7 (gcB m0 [x3, x4, x6, x7] B))) := lq_ (by kernel_rfl)
theorem ZGf : Zzd m0 x3 x4 x6 x7 x66 x67 x68 B =
 mk (ob (xidx 1 x66 x68) fun a =>
 ob (ldN false 1 a B) fun b =>
 mk (ob (Ze8 PP 110 true (shr x7) (shr (shr b)) B) fun c =>
 ob (xext 0 (shr c)) fun d =>
 ob (xext 1 (shr c)) fun e =>
 bz PP 43 B fun f g =>
 stN 5 f (shr d) g fun h =>
 mk (ob (xun PP .not (shr (shr (shr e)))) fun i =>
 asB i fun j => br j (mk (ob (Z2a PP 24 []) fun k =>
 stN 5 x4 k h fun l =>
 Zi4 x4 (iv 32) l))
 (Zze m0 x3 x4 x6 x7 (shr b) x66 x67 x68 (gcB m0 [x3, x4, x6, x7, (shr b), x66, x67, x68] h))))) := by kernel_rfl
theorem ZGi : Zzg m0 x3 x4 x6 x7 B =
 mk (ob (xfld 4 x3) fun a =>
 ob (ldN false 1 a B) fun b =>
 ob (xlen PP 22 b) fun c =>
 Zp5 m0 x4 x6 x7 b c (iv 0) (gcB m0 [x4, x6, x7, b, c, (iv 0)] B)) := by kernel_rfl
theorem ZGg : Zze m0 x3 x4 x6 x7 x11 x66 x67 x68 B =
 mk (xdel PP 110 (shr x7) (shr x11) B fun a =>
 Zzf m0 x3 x4 x6 x7 x66 x67 x68 (gcB m0 [x3, x4, x6, x7, x66, x67, x68] a)) := by kernel_rfl
theorem ZG9 : Zp5 m0 x4 x6 x7 x85 x86 x87 B =
 mk (ob (xbin PP .lss 3 x87 x86) fun a =>
 asB a fun b => br b (Zzh m0 x4 x6 x7 x85 x86 x87 (gcB m0 [x4, x6, x7, x85, x86, x87] B))
 (Zzi m0 x4 x6 x7 (gcB m0 [x4, x6, x7] B))) := lq_ (by kernel_rfl)
theorem ZGh : Zzf m0 x3 x4 x6 x7 x66 x67 x68 B =
 mk (ob (xbin PP .add 3 x68 (iv 1)) fun a =>
 Zp4 m0 x3 x4 x6 x7 x66 x67 (shr a) (gcB m0 [x3, x4, x6, x7, x66, x67, (shr a)] B)) := by kernel_rfl
theorem ZGj : Zzh m0 x4 x6 x7 x85 x86 x87 B =
 mk (ob (xidx 5 x85 x87) fun a =>
 ob (ldN true 5 a B) fun b =>
 bz PP 43 B fun c d =>
 stN 5 c b d fun e =>
 mk (ob (xfld 0 c) fun f =>
 ob (ldN false 1 f e) fun g =>
 ob (ldN true 5 c e) fun h =>
 xupd PP 110 (shr x7) g h e fun i =>
 mk (ob (xbin PP .add 3 x87 (iv 1)) fun j =>
 Zp5 m0 x4 x6 x7 x85 x86 (shr j) (gcB m0 [x4, x6, x7, x85, x86, (shr j)] i)))) := by kernel_rfl
theorem ZGk : Zzi m0 x4 x6 x7 B =
 mk (ob (ZrB (shr x7) B) fun a =>
 ob (xbin PP .gtr 3 a (iv 16)) fun b =>
 asB b fun c => br c (mk (ob (Z2a PP 24 []) fun d =>
 stN 5 x4 d B fun e =>
 Zi4 x4 (iv 33) e))
 (Zzj m0 x4 x6 x7 (gcB m0 [x4, x6, x7] B))) := by kernel_rfl
theorem ZGl : Zzj m0 x4 x6 x7 B =
 mk (ob (xfld 4 x6) fun a =>
 stN 1 a nilA B fun b =>
 mk (callS false EE 53 [(shr x7)] b fun c d =>
 callS false EE 52 [c] d fun e f =>
 ob (xlen PP 27 e) fun g =>
 Zp6 m0 x4 x6 x7 e g (iv 0) (gcB m0 [x4, x6, x7, e, g, (iv 0)] f))) := by kernel_rfl
theorem ZGa : Zp6 m0 x4 x6 x7 x103 x104 x105 B =
 mk (ob (xbin PP .lss 3 x105 x104) fun a =>
 asB a fun b => br b (Zzk m0 x4 x6 x7 x103 x104 x105 (gcB m0 [x4, x6, x7, x103, x104, x105] B))
 (Zzl m0 x4 x6 (gcB m0 [x4, x6] B))) := lq_ (by kernel_rfl)
theorem ZGm : Zzk m0 x4 x6 x7 x103 x104 x105 B =
 mk (ob (xidx 1 x103 x105) fun a =>
 ob (ldN false 1 a B) fun b =>
 mk (ob (xfld 4 x6) fun c =>
 ldOwn c B fun d e =>
 ob (Ze8 PP 110 false (shr x7) (shr (shr b)) e) fun f =>
 ob (xlit PP 22 1 [(0, f)]) fun g =>
 ob (xapp 5 d g) fun h =>
 ob (xfld 4 x6) fun i =>
 stN 1 i h e fun j =>
 mk (ob (xbin PP .add 3 x105 (iv 1)) fun k =>
 Zp6 m0 x4 x6 x7 x103 x104 (shr k) (gcB m0 [x4, x6, x7, x103, x104, (shr k)] j)))) := by kernel_rfl
theorem ZGn : Zzl m0 x4 x6 B =
 mk (ob (ldN true 5 x6 B) fun a =>
 stN 5 x4 a B fun b =>
 Zi4 x4 (iv 0) b) := by kernel_rfl
theorem ZO3 : EE 22 [x0, x1] B =
 (let m0 := B.length
 mk (bx x0 B fun a b =>
 bx x1 b fun c d =>
 bz PP 24 d fun e f =>
 mk (ob (ldN true 5 a f) fun g =>
 callS false EE 20 [g] f fun h i =>
 ob (xun PP .not h) fun j =>
 asB j fun k => br k (mk (ob (Z2a PP 24 []) fun l =>
 stN 5 e l i fun n =>
 Zi4 e (iv 10) n))
 (ZB2 m0 a c e (gcB m0 [a, c, e] i))))) := (E_eq PP XX HH _ _ _).trans (by kernel_rfl)
noncomputable def ZPr := Z39 Tryz.f23
def ZIb := l2 (l2 (l2 ZPr))
def Zzm (r0 r1 : AV) (B : List Row) : Option Res :=
 ob (ob (ldN true 5 r0 B) fun v => ob (ob (ldN true 3 r1 B) fun v => ob (some []) fun vs => some (v :: vs)) fun vs => some (v :: vs)) fun vs => some ((nrmA (match vs with | [v] => v | vs => Z8h (vs.map shr))), B)
def ZI8 (m0 : Nat) : Kont := kret PP HH 23 Tryz.f23.results
def ZB5 := exec PP HH 23 m0 EE LL ZIb (ZI8 m0) [(4, x4), (5, x5), (6, x6)] B
def ZB6 := exec PP HH 23 m0 EE LL (l2 ZIb) (ZI8 m0) [(4, x4), (5, x5), (6, x6)] B
theorem ZI9 : ZB5 m0 x4 x5 x6 B =
 mk (ob (ldN true 5 x6 B) fun a =>
 callS false EE 16 [a] B fun b c =>
 bz PP 32 c fun d e =>
 stN 3 d b e fun f =>
 mk (ob (xfld 0 d) fun g =>
 ob (ldN false 1 g f) fun h =>
 ob (xbin PP .neq 30 h (iv 0)) fun i =>
 asB i fun j => br j (mk (ob (Z2a PP 24 []) fun k =>
 ob (ldN true 3 d f) fun l =>
 stN 5 x4 k f fun n =>
 stN 3 x5 l n fun o =>
 grd (Z7I d x4) (Zzm x4 x5 o)))
 (ZB6 m0 x4 x5 x6 (gcB m0 [x4, x5, x6] f)))) := by kernel_rfl
theorem ZIa : ZB6 m0 x4 x5 x6 B =
 mk (ob (ldN true 5 x6 B) fun a =>
 ob (Z2a PP 32 []) fun b =>
 stN 5 x4 a B fun c =>
 stN 3 x5 b c fun d =>
 Zzm x4 x5 d) := by kernel_rfl
theorem ZOa : EE 23 [x0, x1] B =
 (let m0 := B.length
 mk (bx x0 B fun a b =>
 bx x1 b fun c d =>
 bz PP 24 d fun e f =>
 bz PP 32 f fun g h =>
 mk (ob (ldN true 5 a h) fun i =>
 ob (ldN true 6 c h) fun j =>
 callS false EE 22 [i, j] h fun k l =>
 ob (xext 0 (shr k)) fun n =>
 ob (xext 1 (shr k)) fun o =>
 bz PP 24 l fun p q =>
 stN 5 p (shr n) q fun r =>
 mk (ob (xbin PP .neq 30 (shr (shr (shr o))) (iv 0)) fun s =>
 asB s fun t => br t (mk (ob (Z2a PP 24 []) fun u =>
 ob (Z2a PP 32 [(0, (shr (shr (shr o))))]) fun v =>
 stN 5 e u r fun w =>
 stN 3 g v w fun x =>
 Zzm e g x))
 (ZB5 m0 e g p (gcB m0 [e, g, p] r)))))) := (E_eq PP XX HH _ _ _).trans (by kernel_rfl)
noncomputable def ZLb := Z39 Tryz.f26
def ZmI := l2 (l2 ZLb)
def Zsl := l1 (l1 (l2 (l1 ZmI)))
def Zp8 (m0 : Nat) : Kont := kret PP HH 26 Tryz.f26.results
def ZOc := kseq HH 26 m0 ZmI (exec PP HH 26 m0 EE LL ZmI (Zp8 m0)) (Zp8 m0)
def ZOd := kseq HH 26 m0 (l2 ZmI) (exec PP HH 26 m0 EE LL (l2 ZmI) (Zp8 m0)) (Zp8 m0)
def ZB7 := kblk 0 (ZOd m0)
def ZIc := kloop HH 26 m0 Zsl (LL 26 m0 Zsl (ZB7 m0)) (ZB7 m0)
def ZmH := exec PP HH 26 m0 EE LL (l1 (l2 (l1 (l2 ZLb)))) (ZOc m0) [] B
def ZB8 := exec PP HH 26 m0 EE LL ZmI (Zp8 m0) [(2, x2), (3, x3)] B
def Zsk := lp (LL 26 m0 Zsl (ZB7 m0) [(2, x2), (3, x3), (5, x5)] B)
def ZBa := exec PP HH 26 m0 EE LL (l2 Zsl) (ZIc m0) [(2, x2), (3, x3), (5, x5)] B
def ZBb := exec PP HH 26 m0 EE LL (l2 ZmI) (Zp8 m0) [] B
def ZB9 := exec PP HH 26 m0 EE LL (l2 (l2 Zsl)) (ZIc m0) [(2, x2), (3, x3), (5, x5)] B
theorem ZIe : ZmH m0 B =
 mk (Z1j (bv false) B) := by kernel_rfl
theorem ZIf : ZB8 m0 x2 x3 B =
 mk (Zsk m0 x2 x3 (iv 0) (gcB m0 [x2, x3, (iv 0)] B)) := by kernel_rfl
theorem ZId : Zsk m0 x2 x3 x5 B =
 mk (ob (xfld 4 x2) fun a =>
 ob (ldN false 1 a B) fun b =>
 ob (xlen PP 38 b) fun c =>
 ob (xbin PP .lss 3 (shr x5) c) fun d =>
 asB d fun e => br e (ZBa m0 x2 x3 x5 (gcB m0 [x2, x3, x5] B))
 (ZBb m0 (gcB m0 [] B))) := lq_ (by kernel_rfl)
theorem ZIh : ZBa m0 x2 x3 x5 B =
 mk (ob (xfld 4 x2) fun a =>
 ob (ldN false 1 a B) fun b =>
 ob (xidx 5 b (shr x5)) fun c =>
 ob (ldN true 5 c B) fun d =>
 ob (xfld 4 x3) fun e =>
 ob (ldN false 1 e B) fun f =>
 ob (xidx 5 f (shr x5)) fun g =>
 ob (ldN true 5 g B) fun h =>
 ob (xbin PP .neq 93 d h) fun i =>
 asB i fun j => br j (mk (Z1j (bv false) B))
 (ZB9 m0 x2 x3 x5 (gcB m0 [x2, x3, x5] B))) := by kernel_rfl
theorem ZIi : ZBb m0 B =
 mk (Z1j (bv true) B) := by kernel_rfl
theorem ZIg : ZB9 m0 x2 x3 x5 B =
 mk (ob (xbin PP .add 3 (shr x5) (iv 1)) fun a =>
 Zsk m0 x2 x3 (shr a) (gcB m0 [x2, x3, (shr a)] B)) := by kernel_rfl
theorem ZOb : EE 26 [x0, x1] B =
 (let m0 := B.length
 mk (bx x0 B fun a b =>
 bx x1 b fun c d =>
 mk (ob (xfld 0 a) fun e =>
 ob (ldN false 1 e d) fun f =>
 ob (xfld 0 c) fun g =>
 ob (ldN false 1 g d) fun h =>
 ob (xbin PP .neq 3 f h) fun i =>
 asB (shr i) fun j => br j (ZmH m0 (gcB m0 [] d))
 (ob (xfld 1 a) fun k =>
 ob (ldN false 1 k d) fun l =>
 ob (xfld 1 c) fun n =>
 ob (ldN false 1 n d) fun o =>
 ob (xbin PP .neq 3 l o) fun p =>
 asB (shr (shr p)) fun q => br q (ZmH m0 (gcB m0 [] d))
 (ob (xfld 2 a) fun r =>
 ob (ldN false 1 r d) fun s =>
 ob (xfld 2 c) fun t =>
 ob (ldN false 1 t d) fun u =>
 ob (xbin PP .neq 3 s u) fun v =>
 asB (shr (shr v)) fun w => br w (ZmH m0 (gcB m0 [] d))
 (ob (xfld 3 a) fun x =>
 ob (ldN false 1 x d) fun y =>
 ob (xfld 3 c) fun z =>
 ob (ldN false 1 z d) fun A =>
 ob (xbin PP .neq 3 y A) fun C =>
 asB (shr (shr C)) fun D => br D (ZmH m0 (gcB m0 [] d))
 (ob (xfld 4 a) fun F =>
 ob (ldN false 1 F d) fun G =>
 ob (xlen PP 38 G) fun I =>
 ob (xfld 4 c) fun J =>
 ob (ldN false 1 J d) fun M =>
 ob (xlen PP 38 M) fun N =>
 ob (xbin PP .neq 3 I N) fun O =>
 asB (shr O) fun Q => br Q (ZmH m0 (gcB m0 [] d))
 (ZB8 m0 a c (gcB m0 [a, c] d))))))))) := (E_eq PP XX HH _ _ _).trans (by kernel_rfl)
theorem ZOe : EE 27 [x0] B =
 (let m0 := B.length
 mk (bx x0 B fun a b =>
 mk (ob (xfld 0 a) fun c =>
 ob (ldN false 1 c b) fun d =>
 ob (xbin PP .geq 3 d (iv 1)) fun e =>
 asB (shr e) fun f => br f (ob (xfld 0 a) fun g =>
 ob (ldN false 1 g b) fun h =>
 ob (xbin PP .leq 3 h (iv 1099511627776)) fun i =>
 asB (shr (shr i)) fun j => br j (ob (xfld 1 a) fun k =>
 ob (ldN false 1 k b) fun l =>
 ob (xbin PP .geq 3 l (iv 0)) fun n =>
 asB (shr (shr n)) fun o => br o (ob (xfld 1 a) fun p =>
 ob (ldN false 1 p b) fun q =>
 ob (xbin PP .leq 3 q (iv 1000)) fun r =>
 asB (shr (shr r)) fun s => br s (ob (xfld 2 a) fun t =>
 ob (ldN false 1 t b) fun u =>
 ob (xbin PP .geq 3 u (iv 0)) fun v =>
 asB (shr (shr v)) fun w => br w (ob (xfld 2 a) fun x =>
 ob (ldN false 1 x b) fun y =>
 ob (xbin PP .leq 3 y (iv 255)) fun z =>
 asB (shr (shr z)) fun A => br A (ob (xfld 3 a) fun C =>
 ob (ldN false 1 C b) fun D =>
 ob (xbin PP .geq 3 D (iv 1)) fun F =>
 asB (shr (shr F)) fun G => br G (ob (xfld 3 a) fun I =>
 ob (ldN false 1 I b) fun J =>
 ob (xbin PP .leq 3 J (iv 65535)) fun M =>
 asB (shr (shr M)) fun N => br N (ob (xfld 4 a) fun O =>
 ob (ldN false 1 O b) fun Q =>
 ob (xlen PP 9 Q) fun R =>
 ob (xbin PP .leq 3 R (iv 256)) fun S =>
 Z1j (shr (shr S)) b)
 (Z1j (bv false) b))
 (Z1j (bv false) b))
 (Z1j (bv false) b))
 (Z1j (bv false) b))
 (Z1j (bv false) b))
 (Z1j (bv false) b))
 (Z1j (bv false) b))
 (Z1j (bv false) b)))) := (E_eq PP XX HH _ _ _).trans (by kernel_rfl)
theorem ZOf : EE 29 [] B =
 (let m0 := B.length
 mk (mk (callS false EE 32 [] B fun a b =>
 mk (callS false EE 55 [(iv 1), (iv 1), (iv 3), (.p (.v (.string (ByteArray.mk #[97]))))] b fun c d =>
 callS false EE 33 [(shr (shr a)), c] d fun e f =>
 ob (xext 0 (shr e)) fun g =>
 ob (xext 1 (shr e)) fun h =>
 bz PP 66 f fun i j =>
 stN 4 i (shr g) j fun k =>
 mk (callS false EE 55 [(iv 1), (iv 1), (iv 3), (.p (.v (.string (ByteArray.mk #[97]))))] k fun l n =>
 callS false EE 33 [(shr (shr a)), l] n fun o q =>
 ob (xext 0 (shr o)) fun r =>
 ob (xext 1 (shr o)) fun s =>
 bz PP 66 q fun t u =>
 stN 4 t (shr r) u fun w =>
 mk (callS false EE 55 [(iv 1), (iv 2), (iv 4), (.p (.v (.string (ByteArray.mk #[40]))))] w fun x y =>
 callS false EE 33 [(shr (shr a)), x] y fun z A =>
 ob (xext 0 (shr z)) fun C =>
 ob (xext 1 (shr z)) fun D =>
 bz PP 66 A fun F G =>
 stN 4 F (shr C) G fun I =>
 mk (ob (xbin PP .eql 30 (shr (shr (shr h))) (iv 0)) fun J =>
 asB (shr J) fun M => br M (ob (xbin PP .eql 30 (shr (shr (shr s))) (iv 0)) fun N =>
 asB (shr (shr N)) fun O => br O (ob (xbin PP .eql 30 (shr (shr (shr D))) (iv 0)) fun Q =>
 asB (shr (shr Q)) fun R => br R (ob (ldN true 4 i I) fun S =>
 ob (Z2a PP 66 [(0, (iv 1))]) fun T =>
 ob (xbin PP .eql 66 S T) fun U =>
 asB (shr (shr U)) fun V => br V (ob (xfld 1 t) fun W =>
 ob (xfld 0 W) fun Y =>
 ob (ldN false 1 Y I) fun Z =>
 ob (xbin PP .eql 30 Z (iv 31)) fun a0 =>
 asB (shr (shr a0)) fun a1 => br a1 (ob (xfld 1 F) fun a2 =>
 ob (ldN true 3 a2 I) fun a3 =>
 ob (Z2a PP 32 [(0, (iv 20)), (1, (iv 4))]) fun a4 =>
 ob (xbin PP .eql 32 a3 a4) fun a5 =>
 asB (shr (shr a5)) fun a6 => br a6 (callS false EE 35 [(shr (shr a))] I fun a7 a8 =>
 ob (xbin PP .eql 3 a7 (iv 1)) fun a9 =>
 Z1j (shr (shr a9)) a8)
 (Z1j (bv false) I))
 (Z1j (bv false) I))
 (Z1j (bv false) I))
 (Z1j (bv false) I))
 (Z1j (bv false) I))
 (Z1j (bv false) I)))))))) := (E_eq PP XX HH _ _ _).trans (by kernel_rfl)
noncomputable def ZLc := Z39 Tryz.f30
def ZBi := l2 (l2 ZLc)
def Zwx := l1 (l1 (l2 (l1 (l2 ZLc))))
def Zp9 := l2 (l2 Zwx)
def Zwy := l2 (l2 (l1 (l1 Zp9)))
def Zwz := l1 (l1 (l2 Zwy))
def ZIq := l2 (l2 Zwz)
def ZBc (m0 : Nat) : Kont := kret PP HH 30 Tryz.f30.results
def ZOh := kseq HH 30 m0 ZBi (exec PP HH 30 m0 EE LL ZBi (ZBc m0)) (ZBc m0)
def ZBd := kblk 0 (ZOh m0)
def Zwu := kloop HH 30 m0 Zwx (LL 30 m0 Zwx (ZBd m0)) (ZBd m0)
def ZOi := kseq HH 30 m0 (l2 Zp9) (exec PP HH 30 m0 EE LL (l2 Zp9) (Zwu m0)) (Zwu m0)
def Zwv := kblk 1 (ZOi m0)
def ZOj := kseq HH 30 m0 Zwy (exec PP HH 30 m0 EE LL Zwy (Zwv m0)) (Zwv m0)
def ZBe := kblk 2 (Zwv m0)
def ZIj := kloop HH 30 m0 Zwz (LL 30 m0 Zwz (ZBe m0)) (ZBe m0)
def Zsm := lp (LL 30 m0 Zwx (ZBd m0) [(0, x0), (7, x7), (8, x8), (9, x9)] B)
def ZBf := exec PP HH 30 m0 EE LL Zp9 (Zwu m0) [(0, x0), (7, x7), (8, x8), (9, x9)] B
def Zzp := exec PP HH 30 m0 EE LL ZBi (ZBc m0) [(0, x0)] B
def Zww := exec PP HH 30 m0 EE LL (l1 (l2 (l1 (l2 (l1 (l1 Zp9)))))) (ZOj m0) [] B
def ZBg := exec PP HH 30 m0 EE LL Zwy (Zwv m0) [(0, x0), (4, x4), (7, x7), (8, x8), (9, x9)] B
def Zsn := lp (LL 30 m0 Zwz (ZBe m0) [(0, x0), (7, x7), (8, x8), (9, x9), (27, x27), (28, x28), (29, x29)] B)
def ZBh := exec PP HH 30 m0 EE LL ZIq (ZIj m0) [(0, x0), (7, x7), (8, x8), (9, x9), (27, x27), (28, x28), (29, x29)] B
def Zzo := exec PP HH 30 m0 EE LL (l2 Zp9) (Zwu m0) [(0, x0), (7, x7), (8, x8), (9, x9)] B
def Zzn := exec PP HH 30 m0 EE LL (l2 ZIq) (ZIj m0) [(0, x0), (7, x7), (8, x8), (9, x9), (27, x27), (28, x28), (29, x29)] B
theorem ZIk : Zsm m0 x0 x7 x8 x9 B =
 mk (ob (xbin PP .lss 3 x9 x8) fun a =>
 asB a fun b => br b (ZBf m0 x0 x7 x8 x9 (gcB m0 [x0, x7, x8, x9] B))
 (Zzp m0 x0 (gcB m0 [x0] B))) := lq_ (by kernel_rfl)
theorem ZIm : ZBf m0 x0 x7 x8 x9 B =
 mk (ob (xidx 9 x7 x9) fun a =>
 ob (ldN true 9 a B) fun b =>
 bz PP 61 B fun c d =>
 stN 9 c b d fun e =>
 mk (ob (xfld 3 c) fun f =>
 ob (xfld 4 f) fun g =>
 ob (ldN false 1 g e) fun h =>
 ob (xlen PP 22 h) fun i =>
 ob (xbin PP .gtr 3 i (iv 20)) fun j =>
 asB (shr j) fun k => br k (Zww m0 (gcB m0 [] e))
 (ob (xfld 3 c) fun l =>
 ob (xfld 5 l) fun n =>
 ob (ldN false 1 n e) fun o =>
 ob (xlen PP 27 o) fun p =>
 ob (xbin PP .gtr 3 p (iv 20)) fun q =>
 asB (shr q) fun r => br r (Zww m0 (gcB m0 [] e))
 (ZBg m0 x0 c x7 x8 x9 (gcB m0 [x0, c, x7, x8, x9] e))))) := by kernel_rfl
theorem ZGq : Zzp m0 x0 B =
 mk (ob (xlen PP 59 (shr x0)) fun a =>
 ob (xbin PP .leq 3 a (iv 70)) fun b =>
 Z1j (shr b) B) := by kernel_rfl
theorem ZIn : Zww m0 B =
 mk (Z1j (bv false) B) := by kernel_rfl
theorem ZIo : ZBg m0 x0 x4 x7 x8 x9 B =
 mk (ob (xfld 3 x4) fun a =>
 ob (xfld 4 a) fun b =>
 ob (ldN false 1 b B) fun c =>
 ob (xlen PP 22 c) fun d =>
 Zsn m0 x0 x7 x8 x9 c d (iv 0) (gcB m0 [x0, x7, x8, x9, c, d, (iv 0)] B)) := by kernel_rfl
theorem ZIl : Zsn m0 x0 x7 x8 x9 x27 x28 x29 B =
 mk (ob (xbin PP .lss 3 x29 x28) fun a =>
 asB a fun b => br b (ZBh m0 x0 x7 x8 x9 x27 x28 x29 (gcB m0 [x0, x7, x8, x9, x27, x28, x29] B))
 (Zzo m0 x0 x7 x8 x9 (gcB m0 [x0, x7, x8, x9] B))) := lq_ (by kernel_rfl)
theorem ZIp : ZBh m0 x0 x7 x8 x9 x27 x28 x29 B =
 mk (ob (xidx 5 x27 x29) fun a =>
 ob (ldN true 5 a B) fun b =>
 bz PP 43 B fun c d =>
 stN 5 c b d fun e =>
 mk (ob (xfld 4 c) fun f =>
 ob (ldN false 1 f e) fun g =>
 ob (xlen PP 9 g) fun h =>
 ob (xbin PP .gtr 3 h (iv 300)) fun i =>
 asB i fun j => br j (mk (Z1j (bv false) e))
 (Zzn m0 x0 x7 x8 x9 x27 x28 x29 (gcB m0 [x0, x7, x8, x9, x27, x28, x29] e)))) := by kernel_rfl
theorem ZGp : Zzo m0 x0 x7 x8 x9 B =
 mk (ob (xbin PP .add 3 x9 (iv 1)) fun a =>
 Zsm m0 x0 x7 x8 (shr a) (gcB m0 [x0, x7, x8, (shr a)] B)) := by kernel_rfl
theorem ZGo : Zzn m0 x0 x7 x8 x9 x27 x28 x29 B =
 mk (ob (xbin PP .add 3 x29 (iv 1)) fun a =>
 Zsn m0 x0 x7 x8 x9 x27 x28 (shr a) (gcB m0 [x0, x7, x8, x9, x27, x28, (shr a)] B)) := by kernel_rfl
theorem ZOg : EE 30 [x0] B =
 (let m0 := B.length
 mk (mk (ob (xlen PP 59 (shr x0)) fun a =>
 Zsm m0 x0 (shr x0) a (iv 0) (gcB m0 [x0, (shr x0), a, (iv 0)] B)))) := (E_eq PP XX HH _ _ _).trans (by kernel_rfl)
theorem ZOk : EE 31 [x0] B =
 (let m0 := B.length
 mk (bx x0 B fun a b =>
 mk (ob (xfld 3 a) fun c =>
 ob (ldN true 6 c b) fun d =>
 bz PP 29 b fun e f =>
 stN 6 e d f fun g =>
 mk (ob (xfld 0 a) fun h =>
 ob (ldN false 1 h g) fun i =>
 callS false EE 56 [i, (iv 0)] g fun j k =>
 asB (shr j) fun l => br l (ob (xfld 1 a) fun n =>
 ob (ldN false 1 n k) fun o =>
 callS false EE 56 [o, (iv 1)] k fun p q =>
 asB (shr (shr p)) fun r => br r (ob (xfld 2 a) fun s =>
 ob (ldN false 1 s q) fun t =>
 callS false EE 56 [t, (iv 1)] q fun u v =>
 asB (shr (shr u)) fun w => br w (ob (xfld 0 e) fun x =>
 ob (ldN false 1 x v) fun y =>
 callS false EE 56 [y, (iv (-1))] v fun z A =>
 asB (shr (shr z)) fun C => br C (ob (xfld 1 e) fun D =>
 ob (ldN false 1 D A) fun F =>
 callS false EE 56 [F, (iv (-1))] A fun G I =>
 asB (shr (shr G)) fun J => br J (ob (xfld 2 e) fun M =>
 ob (ldN false 1 M I) fun N =>
 callS false EE 56 [N, (iv (-1))] I fun O Q =>
 asB (shr (shr O)) fun R => br R (ob (xfld 3 e) fun S =>
 ob (ldN false 1 S Q) fun T =>
 callS false EE 56 [T, (iv (-1))] Q fun U V =>
 asB (shr (shr U)) fun W => br W (ob (xfld 4 e) fun Y =>
 ob (ldN false 1 Y V) fun Z =>
 ob (xlen PP 22 Z) fun a0 =>
 ob (xbin PP .leq 3 a0 (iv 16)) fun a1 =>
 asB (shr (shr a1)) fun a2 => br a2 (ob (xfld 5 e) fun a3 =>
 ob (ldN false 1 a3 V) fun a4 =>
 ob (xlen PP 27 a4) fun a5 =>
 ob (xbin PP .leq 3 a5 (iv 16)) fun a6 =>
 asB (shr (shr a6)) fun a7 => br a7 (ob (xfld 4 e) fun a8 =>
 ob (ldN false 1 a8 V) fun a9 =>
 callS false EE 57 [a9, (.clo 58 [] [])] V fun a10 a11 =>
 ob (xun PP .not a10) fun a12 =>
 asB (shr (shr a12)) fun a13 => br a13 (ob (xfld 5 e) fun a14 =>
 ob (ldN false 1 a14 a11) fun a15 =>
 callS false EE 59 [a15, (.clo 60 [] [])] a11 fun a16 a17 =>
 ob (xun PP .not a16) fun a18 =>
 Z1j (shr (shr a18)) a17)
 (Z1j (bv false) a11))
 (Z1j (bv false) V))
 (Z1j (bv false) V))
 (Z1j (bv false) V))
 (Z1j (bv false) Q))
 (Z1j (bv false) I))
 (Z1j (bv false) A))
 (Z1j (bv false) v))
 (Z1j (bv false) q))
 (Z1j (bv false) k))))) := (E_eq PP XX HH _ _ _).trans (by kernel_rfl)
theorem ZOl : EE 32 [] B =
 (let m0 := B.length
 mk (mk (callS false EE 43 [] B fun a b =>
 ob (xlit PP 121 1 [(0, a)]) fun c =>
 xmake PP 122 b fun d e =>
 ob (Z2a PP 124 [(0, c), (1, d)]) fun f =>
 bx f e fun g h =>
 Z1j (shr g) h))) := (E_eq PP XX HH _ _ _).trans (by kernel_rfl)
noncomputable def ZPs := Z39 Tryz.f33
def ZBl := l2 (l2 ZPs)
def ZBm := l2 (l2 ZBl)
def Zzq (r0 r1 : AV) (B : List Row) : Option Res :=
 ob (ob (ldN true 4 r0 B) fun v => ob (ob (some r1) fun v => ob (some []) fun vs => some (v :: vs)) fun vs => some (v :: vs)) fun vs => some ((nrmA (match vs with | [v] => v | vs => Z8h (vs.map shr))), B)
def ZwA (m0 : Nat) : Kont := kret PP HH 33 Tryz.f33.results
def ZOn := kseq HH 33 m0 ZBm (exec PP HH 33 m0 EE LL ZBm (ZwA m0)) (ZwA m0)
def ZBj := exec PP HH 33 m0 EE LL ZBl (ZwA m0) [(0, x0), (3, x3), (4, x4)] B
def ZBk := exec PP HH 33 m0 EE LL (l1 (l2 (l2 (l1 (l2 ZBl))))) (ZOn m0) [(4, x4)] B
def ZwB := exec PP HH 33 m0 EE LL ZBm (ZwA m0) [(0, x0), (3, x3), (4, x4)] B
theorem ZIr : ZBj m0 x0 x3 x4 B =
 mk (ob (Z2l (shr x0)) fun a =>
 ob (xfld 2 a) fun b =>
 ob (ldN false 1 b B) fun c =>
 ob (xbin PP .add 3 c (iv 1)) fun d =>
 ob (Z2l (shr x0)) fun e =>
 ob (xfld 2 e) fun f =>
 stN 1 f d B fun g =>
 mk (ob (Z2l (shr x0)) fun h =>
 ob (xfld 1 h) fun i =>
 ob (ldN false 1 i g) fun j =>
 ob (xfld 1 x3) fun k =>
 ob (ldN false 1 k g) fun l =>
 ob (Ze8 PP 122 true j l g) fun n =>
 ob (xext 0 (shr n)) fun o =>
 ob (xext 1 (shr n)) fun p =>
 bz PP 126 g fun q r =>
 stN 5 q (shr o) r fun s =>
 grd (Z7I i q) (grd (Z7I k q) (grd (Z7I j q) (mk (asB (shr (shr (shr (shr p)))) fun t => br t (ob (xfld 2 x3) fun u =>
 ob (ldN false 1 u s) fun v =>
 ob (xfld 0 q) fun w =>
 ob (ldN false 1 w s) fun x =>
 ob (xbin PP .leq 3 v x) fun y =>
 asB (shr y) fun z => br z (ZBk m0 x4 (gcB m0 [x4] s))
 (ZwB m0 x0 x3 x4 (gcB m0 [x0, x3, x4] s)))
 (ZwB m0 x0 x3 x4 (gcB m0 [x0, x3, x4] s)))))))) := by kernel_rfl
theorem ZIs : ZBk m0 x4 B =
 mk (ob (Z2a PP 32 [(0, (iv 31))]) fun a =>
 ob (Z2a PP 66 [(1, a)]) fun b =>
 stN 4 x4 b B fun c =>
 Zzq x4 (iv 0) c) := by kernel_rfl
theorem ZIt : ZwB m0 x0 x3 x4 B =
 mk (ob (xfld 3 x3) fun a =>
 ob (ldN true 6 a B) fun b =>
 callS false EE 61 [(shr x0), b] B fun c d =>
 bz PP 66 d fun e f =>
 stN 4 e c f fun g =>
 mk (ob (Z2l (shr x0)) fun h =>
 ob (xfld 1 h) fun i =>
 ob (ldN false 1 i g) fun j =>
 ob (xfld 1 x3) fun k =>
 ob (ldN false 1 k g) fun l =>
 ob (xfld 2 x3) fun n =>
 ob (ldN false 1 n g) fun o =>
 ob (ldN true 4 e g) fun p =>
 ob (Z2a PP 126 [(0, o), (1, p)]) fun q =>
 xupd PP 122 j l q g fun r =>
 mk (ob (ldN true 4 e r) fun s =>
 stN 4 x4 s r fun t =>
 Zzq x4 (iv 0) t))) := by kernel_rfl
theorem ZOm : EE 33 [x0, x1] B =
 (let m0 := B.length
 mk (bx x1 B fun a b =>
 bz PP 66 b fun c d =>
 mk (ob (ldN true 9 a d) fun e =>
 callS false EE 31 [e] d fun f g =>
 ob (xun PP .not f) fun h =>
 asB h fun i => br i (mk (ob (Z2a PP 66 []) fun j =>
 stN 4 c j g fun k =>
 Zzq c (iv 10) k))
 (ZBj m0 x0 a c (gcB m0 [x0, a, c] g))))) := (E_eq PP XX HH _ _ _).trans (by kernel_rfl)
theorem ZOo : EE 35 [x0] B =
 (let m0 := B.length
 mk (mk (ob (Z2l (shr x0)) fun a =>
 ob (xfld 0 a) fun b =>
 ob (ldN false 1 b B) fun c =>
 ob (xlen PP 121 c) fun d =>
 ob (xbin PP .sub 3 d (iv 1)) fun e =>
 Z1j (shr e) B))) := (E_eq PP XX HH _ _ _).trans (by kernel_rfl)
noncomputable def ZLd := Z39 Tryz.f36
def ZBp := l2 (l2 ZLd)
def ZBn (m0 : Nat) : Kont := kret PP HH 36 Tryz.f36.results
def ZOq := kseq HH 36 m0 ZBp (exec PP HH 36 m0 EE LL ZBp (ZBn m0)) (ZBn m0)
def ZwC := exec PP HH 36 m0 EE LL (l1 (l2 (l1 (l2 ZLd)))) (ZOq m0) [(4, x4)] B
def ZBo := exec PP HH 36 m0 EE LL ZBp (ZBn m0) [(0, x0), (1, x1), (4, x4)] B
theorem ZIu : ZwC m0 x4 B =
 mk (ob (Z2a PP 24 []) fun a =>
 stN 5 x4 a B fun b =>
 Zi4 x4 (bv false) b) := by kernel_rfl
theorem ZIv : ZBo m0 x0 x1 x4 B =
 mk (ob (Z2l (shr x0)) fun a =>
 ob (xfld 0 a) fun b =>
 ob (ldN false 1 b B) fun c =>
 ob (xidx 5 c (shr x1)) fun d =>
 ob (ldN true 5 d B) fun e =>
 bz PP 24 B fun f g =>
 stN 5 f e g fun h =>
 mk (ob (xfld 4 f) fun i =>
 ob (ldN false 1 i h) fun j =>
 callS false EE 62 [j] h fun k l =>
 ob (xfld 4 f) fun n =>
 stN 1 n k l fun o =>
 mk (ob (ldN true 5 f o) fun p =>
 stN 5 x4 p o fun q =>
 Zi4 x4 (bv true) q))) := by kernel_rfl
theorem ZOp : EE 36 [x0, x1] B =
 (let m0 := B.length
 mk (bz PP 24 B fun a b =>
 mk (ob (xbin PP .lss 3 (shr x1) (iv 0)) fun c =>
 asB (shr c) fun d => br d (ZwC m0 a (gcB m0 [a] b))
 (ob (Z2l (shr x0)) fun e =>
 ob (xfld 0 e) fun f =>
 ob (ldN false 1 f b) fun g =>
 ob (xlen PP 121 g) fun h =>
 ob (xbin PP .geq 3 (shr x1) h) fun i =>
 asB (shr i) fun j => br j (ZwC m0 a (gcB m0 [a] b))
 (ZBo m0 x0 x1 a (gcB m0 [x0, x1, a] b)))))) := (E_eq PP XX HH _ _ _).trans (by kernel_rfl)
theorem ZOr : EE 43 [] B =
 (let m0 := B.length
 mk (bz PP 24 B fun a b =>
 mk (ob (Z2a PP 24 [(1, (iv 255)), (2, (iv 10000)), (3, (iv 500))]) fun c =>
 stN 5 a c b fun d =>
 ZEm a d))) := (E_eq PP XX HH _ _ _).trans (by kernel_rfl)
theorem ZOs : EE 46 [x0] B =
 (let m0 := B.length
 mk (bx x0 B fun a b =>
 mk (ob (xfld 0 a) fun c =>
 ob (ldN false 1 c b) fun d =>
 ob (xbin PP .geq 3 d (iv 0)) fun e =>
 asB (shr e) fun f => br f (ob (xfld 0 a) fun g =>
 ob (ldN false 1 g b) fun h =>
 ob (xbin PP .leq 3 h (iv 255)) fun i =>
 asB (shr (shr i)) fun j => br j (ob (xfld 1 a) fun k =>
 ob (ldN false 1 k b) fun l =>
 ob (xbin PP .geq 3 l (iv 0)) fun n =>
 asB (shr (shr n)) fun o => br o (ob (xfld 1 a) fun p =>
 ob (ldN false 1 p b) fun q =>
 ob (xbin PP .leq 3 q (iv 255)) fun r =>
 asB (shr (shr r)) fun s => br s (ob (xfld 2 a) fun t =>
 ob (ldN false 1 t b) fun u =>
 ob (xbin PP .geq 3 u (iv 1)) fun v =>
 asB (shr (shr v)) fun w => br w (ob (xfld 2 a) fun x =>
 ob (ldN false 1 x b) fun y =>
 ob (xbin PP .leq 3 y (iv 1048576)) fun z =>
 asB (shr (shr z)) fun A => br A (ob (xfld 3 a) fun C =>
 ob (ldN false 1 C b) fun D =>
 ob (xbin PP .geq 3 D (iv 0)) fun F =>
 asB (shr (shr F)) fun G => br G (ob (xfld 3 a) fun I =>
 ob (ldN false 1 I b) fun J =>
 ob (xbin PP .leq 3 J (iv 4096)) fun M =>
 Z1j (shr (shr M)) b)
 (Z1j (bv false) b))
 (Z1j (bv false) b))
 (Z1j (bv false) b))
 (Z1j (bv false) b))
 (Z1j (bv false) b))
 (Z1j (bv false) b))
 (Z1j (bv false) b)))) := (E_eq PP XX HH _ _ _).trans (by kernel_rfl)
noncomputable def ZPt := Z39 Tryz.f47
def ZBt := l2 (l2 ZPt)
def ZkR := l2 (l2 (l2 (l2 ZBt)))
def ZwD := l1 (l1 (l2 (l1 ZkR)))
def ZIB := l2 (l2 ZwD)
def Zzu (r0 r1 : AV) (B : List Row) : Option Res :=
 ob (ob (ldN true 9 r0 B) fun v => ob (ob (ldN true 2 r1 B) fun v => ob (some []) fun vs => some (v :: vs)) fun vs => some (v :: vs)) fun vs => some ((nrmA (match vs with | [v] => v | vs => Z8h (vs.map shr))), B)
def ZkQ (m0 : Nat) : Kont := kret PP HH 47 Tryz.f47.results
def ZOu := kseq HH 47 m0 ZkR (exec PP HH 47 m0 EE LL ZkR (ZkQ m0)) (ZkQ m0)
def ZOv := kseq HH 47 m0 (l2 ZkR) (exec PP HH 47 m0 EE LL (l2 ZkR) (ZkQ m0)) (ZkQ m0)
def ZBq := kblk 0 (ZOv m0)
def ZIw := kloop HH 47 m0 ZwD (LL 47 m0 ZwD (ZBq m0)) (ZBq m0)
def ZBr := exec PP HH 47 m0 EE LL ZBt (ZkQ m0) [(0, x0), (2, x2), (3, x3)] B
def ZBs := exec PP HH 47 m0 EE LL (l1 (l2 (l1 (l2 (l2 (l2 ZBt)))))) (ZOu m0) [(2, x2), (3, x3), (4, x4), (5, x5)] B
def Zsp := exec PP HH 47 m0 EE LL ZkR (ZkQ m0) [(2, x2), (3, x3), (4, x4), (5, x5)] B
def Zso := lp (LL 47 m0 ZwD (ZBq m0) [(2, x2), (3, x3), (4, x4), (5, x5), (50, x50), (51, x51), (52, x52)] B)
def Zzr := exec PP HH 47 m0 EE LL ZIB (ZIw m0) [(2, x2), (3, x3), (4, x4), (5, x5), (50, x50), (51, x51), (52, x52)] B
def Zzs := exec PP HH 47 m0 EE LL (l2 ZkR) (ZkQ m0) [(2, x2), (3, x3), (4, x4), (5, x5)] B
def Zu1 := exec PP HH 47 m0 EE LL (l2 ZIB) (ZIw m0) [(2, x2), (3, x3), (4, x4), (5, x5), (50, x50), (51, x51), (52, x52)] B
def Zzt := exec PP HH 47 m0 EE LL (l2 (l2 ZkR)) (ZkQ m0) [(2, x2), (3, x3), (4, x4), (5, x5)] B
theorem ZIy : ZBr m0 x0 x2 x3 B =
 mk (ob (xcnv PP 9 141 (shr x0)) fun a =>
 ob (Z2a PP 144 [(0, a)]) fun b =>
 bx b B fun c d =>
 mk (callS false EE 68 [(shr (shr c)), (.p (.v (.string (ByteArray.mk #[40, 63, 105, 41]))))] d fun e f =>
 ob (Z2a PP 100 [(2, e)]) fun g =>
 bz PP 100 f fun h i =>
 stN 9 h g i fun j =>
 mk (callS false EE 69 [(shr (shr c))] j fun k l =>
 ob (xfld 0 h) fun n =>
 stN 7 n k l fun o =>
 mk (ob (Z2l (shr (shr c))) fun q =>
 ob (xfld 5 q) fun r =>
 ob (xfld 0 r) fun s =>
 ob (ldN false 1 s o) fun t =>
 ob (xbin PP .eql 30 t (iv 0)) fun u =>
 asB (shr u) fun w => br w (ob (Z2l (shr (shr c))) fun x =>
 ob (xfld 1 x) fun y =>
 ob (ldN false 1 y o) fun z =>
 ob (Z2l (shr (shr c))) fun A =>
 ob (xfld 0 A) fun C =>
 ob (ldN false 1 C o) fun D =>
 ob (xlen PP 141 D) fun F =>
 ob (xbin PP .lss 3 z F) fun G =>
 asB (shr G) fun I => br I (ZBs m0 x2 x3 (shr c) h (gcB m0 [x2, x3, (shr c), h] o))
 (Zsp m0 x2 x3 (shr c) h (gcB m0 [x2, x3, (shr c), h] o)))
 (Zsp m0 x2 x3 (shr c) h (gcB m0 [x2, x3, (shr c), h] o)))))) := by kernel_rfl
theorem ZIz : ZBs m0 x2 x3 x4 x5 B =
 mk (ob (Z2l (shr x4)) fun a =>
 ob (xfld 1 a) fun b =>
 ob (ldN false 1 b B) fun c =>
 callS false EE 70 [(shr x4), (iv 20), c] B fun d e =>
 Zsp m0 x2 x3 x4 x5 (gcB m0 [x2, x3, x4, x5] e)) := by kernel_rfl
theorem ZIA : Zsp m0 x2 x3 x4 x5 B =
 mk (ob (Z2l (shr x4)) fun a =>
 ob (xfld 4 a) fun b =>
 ob (ldN false 1 b B) fun c =>
 ob (xlen PP 142 c) fun d =>
 Zso m0 x2 x3 x4 x5 c d (iv 0) (gcB m0 [x2, x3, x4, x5, c, d, (iv 0)] B)) := by kernel_rfl
theorem ZIx : Zso m0 x2 x3 x4 x5 x50 x51 x52 B =
 mk (ob (xbin PP .lss 3 x52 x51) fun a =>
 asB a fun b => br b (Zzr m0 x2 x3 x4 x5 x50 x51 x52 (gcB m0 [x2, x3, x4, x5, x50, x51, x52] B))
 (Zzs m0 x2 x3 x4 x5 (gcB m0 [x2, x3, x4, x5] B))) := lq_ (by kernel_rfl)
theorem ZGr : Zzr m0 x2 x3 x4 x5 x50 x51 x52 B =
 mk (ob (xidx 2 x50 x52) fun a =>
 ob (ldN true 2 a B) fun b =>
 bz PP 149 B fun c d =>
 stN 2 c b d fun e =>
 mk (ob (xfld 0 c) fun f =>
 ob (ldN false 1 f e) fun g =>
 ob (Z2l (shr x4)) fun h =>
 ob (xfld 2 h) fun i =>
 ob (ldN false 1 i e) fun j =>
 ob (xbin PP .gtr 3 g j) fun k =>
 asB k fun l => br l (mk (ob (xfld 1 c) fun n =>
 ob (ldN false 1 n e) fun o =>
 callS false EE 70 [(shr x4), (iv 26), o] e fun p q =>
 Zu1 m0 x2 x3 x4 x5 x50 x51 x52 (gcB m0 [x2, x3, x4, x5, x50, x51, x52] q)))
 (Zu1 m0 x2 x3 x4 x5 x50 x51 x52 (gcB m0 [x2, x3, x4, x5, x50, x51, x52] e)))) := by kernel_rfl
theorem ZGt : Zzs m0 x2 x3 x4 x5 B =
 mk (ob (Z2l (shr x4)) fun a =>
 ob (xfld 5 a) fun b =>
 ob (xfld 0 b) fun c =>
 ob (ldN false 1 c B) fun d =>
 ob (xbin PP .neq 30 d (iv 0)) fun e =>
 asB e fun f => br f (mk (ob (Z2a PP 100 []) fun g =>
 ob (Z2l (shr x4)) fun h =>
 ob (xfld 5 h) fun i =>
 ob (ldN true 2 i B) fun j =>
 stN 9 x2 g B fun k =>
 stN 2 x3 j k fun l =>
 grd (Z7I i x2) (Zzu x2 x3 l)))
 (Zzt m0 x2 x3 x4 x5 (gcB m0 [x2, x3, x4, x5] B))) := by kernel_rfl
theorem ZGs : Zu1 m0 x2 x3 x4 x5 x50 x51 x52 B =
 mk (ob (xbin PP .add 3 x52 (iv 1)) fun a =>
 Zso m0 x2 x3 x4 x5 x50 x51 (shr a) (gcB m0 [x2, x3, x4, x5, x50, x51, (shr a)] B)) := by kernel_rfl
theorem ZGu : Zzt m0 x2 x3 x4 x5 B =
 mk (ob (Z2l (shr x4)) fun a =>
 ob (xfld 2 a) fun b =>
 ob (ldN false 1 b B) fun c =>
 ob (xfld 7 x5) fun d =>
 stN 1 d c B fun e =>
 mk (ob (ldN true 9 x5 e) fun f =>
 ob (Z2a PP 102 []) fun g =>
 stN 9 x2 f e fun h =>
 stN 2 x3 g h fun i =>
 Zzu x2 x3 i)) := by kernel_rfl
theorem ZOt : EE 47 [x0] B =
 (let m0 := B.length
 mk (bz PP 100 B fun a b =>
 bz PP 102 b fun c d =>
 mk (ob (xlen PP 9 (shr x0)) fun e =>
 ob (xbin PP .gtr 3 e (iv 256)) fun f =>
 asB f fun g => br g (mk (ob (Z2a PP 100 []) fun h =>
 ob (Z2a PP 102 [(0, (iv 12))]) fun i =>
 stN 9 a h d fun j =>
 stN 2 c i j fun k =>
 Zzu a c k))
 (ZBr m0 x0 a c (gcB m0 [x0, a, c] d))))) := (E_eq PP XX HH _ _ _).trans (by kernel_rfl)
noncomputable def ZPu := Z39 Tryz.f48
def ZOx (m0 : Nat) : Kont := kret PP HH 48 Tryz.f48.results
def ZBu := exec PP HH 48 m0 EE LL (l2 (l2 ZPu)) (ZOx m0) [] B
theorem ZIC : ZBu m0 B =
 mk (Z1j (iv 0) B) := by kernel_rfl
theorem ZOw : EE 48 [x0] B =
 (let m0 := B.length
 mk (bx x0 B fun a b =>
 mk (ob (xfld 0 a) fun c =>
 ob (ldN true 7 c b) fun d =>
 callS false EE 71 [d] b fun e f =>
 ob (xun PP .not e) fun g =>
 asB (shr g) fun h => br h (mk (Z1j (iv 27) f))
 (mk (ob (xfld 0 a) fun i =>
 ob (ldN true 7 i f) fun j =>
 callS false EE 72 [j] f fun k l =>
 ob (xbin PP .add 3 k (iv 3)) fun n =>
 ob (xbin PP .gtr 3 n (iv 2000)) fun o =>
 asB (shr o) fun p => br p (mk (Z1j (iv 28) l))
 (ZBu m0 (gcB m0 [] l))))))) := (E_eq PP XX HH _ _ _).trans (by kernel_rfl)
def Zu2 (B : List Row) : Option Res :=
 ob (some []) fun vs => some ((nrmA (match vs with | [v] => v | vs => Z8h (vs.map shr))), B)
theorem ZwE : EE 49 [x0, x1] B =
 (let m0 := B.length
 mk (ob (xbin PP .neq 3 (shr x1) (iv (-1))) fun a =>
 asB a fun b => br b (mk (ob (Z2l (shr x0)) fun c =>
 stN 1 c (shr x1) B fun d =>
 Zu2 d))
 (Zu2 B))) := (E_eq PP XX HH _ _ _).trans (by kernel_rfl)
theorem ZOy : EE 50 [x0, x1] B =
 (let m0 := B.length
 mk (bx x1 B fun a b =>
 mk (callS false EE 57 [(shr x0), (.clo 73 ([].map nrmA) ([a].map nrmA))] b fun c d =>
 ob (xun PP .not c) fun e =>
 Z1j (shr e) d))) := (E_eq PP XX HH _ _ _).trans (by kernel_rfl)
theorem ZOz : EE 51 [x0] B =
 (let m0 := B.length
 mk (bx x0 B fun a b =>
 mk (xmake PP 152 b fun c d =>
 bz PP 152 d fun e f =>
 stN 1 e c f fun g =>
 mk (bz PP 120 g fun h i =>
 stN 1 h (.clo 74 ([].map nrmA) ([e].map nrmA)) i fun j =>
 mk (ob (xfld 4 a) fun k =>
 ob (ldN false 1 k j) fun l =>
 callS false EE 57 [l, (.clo 75 ([].map nrmA) ([h].map nrmA))] j fun n o =>
 asB (shr n) fun p => br p (Z1j (bv true) o)
 (ob (xfld 5 a) fun q =>
 ob (ldN false 1 q o) fun r =>
 ob (ldN false 1 h o) fun s =>
 callS false EE 59 [r, s] o fun t u =>
 Z1j (shr (shr t)) u)))))) := (E_eq PP XX HH _ _ _).trans (by kernel_rfl)
theorem ZOA : EE 53 [x0] B =
 (let m0 := B.length
 mk (bx x0 B fun a b =>
 mk (Z1j (shr (.clo 78 ([].map nrmA) ([a].map nrmA))) b))) := (E_eq PP XX HH _ _ _).trans (by kernel_rfl)
def ZMO (r0 : AV) (B : List Row) : Option Res :=
 ob (ob (ldN true 9 r0 B) fun v => ob (some []) fun vs => some (v :: vs)) fun vs => some ((nrmA (match vs with | [v] => v | vs => Z8h (vs.map shr))), B)
theorem ZOB : EE 55 [x0, x1, x2, x3] B =
 (let m0 := B.length
 mk (bz PP 61 B fun a b =>
 mk (ob (Z2a PP 43 [(0, (shr x2)), (3, (iv 1)), (4, (shr x3))]) fun c =>
 ob (xlit PP 22 1 [(0, c)]) fun d =>
 ob (Z2a PP 29 [(0, (iv (-1))), (1, (iv (-1))), (2, (iv (-1))), (3, (iv (-1))), (4, d)]) fun e =>
 ob (Z2a PP 61 [(1, (shr x0)), (2, (shr x1)), (3, e)]) fun f =>
 stN 9 a f b fun g =>
 ZMO a g))) := (E_eq PP XX HH _ _ _).trans (by kernel_rfl)
theorem ZOC : EE 56 [x0, x1] B =
 (let m0 := B.length
 mk (mk (ob (xbin PP .geq 3 (shr x0) (shr x1)) fun a =>
 asB (shr a) fun b => br b (ob (xbin PP .leq 3 (shr x0) (iv 1099511627776)) fun c =>
 Z1j (shr (shr c)) B)
 (Z1j (bv false) B)))) := (E_eq PP XX HH _ _ _).trans (by kernel_rfl)
theorem ZBv : EE 57 [x0, x1] B =
 (let m0 := B.length
 mk (mk (callS false EE 83 [(shr x0), (shr x1)] B fun a b =>
 ob (xbin PP .geq 3 a (iv 0)) fun c =>
 Z1j (shr c) b))) := (E_eq PP XX HH _ _ _).trans (by kernel_rfl)
theorem ZOD : EE 58 [x0] B =
 (let m0 := B.length
 mk (bx x0 B fun a b =>
 mk (ob (ldN true 5 a b) fun c =>
 callS false EE 27 [c] b fun d e =>
 ob (xun PP .not d) fun f =>
 Z1j (shr f) e))) := (E_eq PP XX HH _ _ _).trans (by kernel_rfl)
theorem ZID : EE 59 [x0, x1] B =
 (let m0 := B.length
 mk (mk (callS false EE 84 [(shr x0), (shr x1)] B fun a b =>
 ob (xbin PP .geq 3 a (iv 0)) fun c =>
 Z1j (shr c) b))) := (E_eq PP XX HH _ _ _).trans (by kernel_rfl)
theorem ZOE : EE 60 [x0] B =
 (let m0 := B.length
 mk (mk (callS false EE 56 [(shr x0), (iv 1)] B fun a b =>
 ob (xun PP .not a) fun c =>
 Z1j (shr c) b))) := (E_eq PP XX HH _ _ _).trans (by kernel_rfl)
noncomputable def ZPv := Z39 Tryz.f61
def ZEn (r0 : AV) (B : List Row) : Option Res :=
 ob (ob (ldN true 4 r0 B) fun v => ob (some []) fun vs => some (v :: vs)) fun vs => some ((nrmA (match vs with | [v] => v | vs => Z8h (vs.map shr))), B)
def ZOG (m0 : Nat) : Kont := kret PP HH 61 Tryz.f61.results
def ZBw := exec PP HH 61 m0 EE LL (l2 (l2 (l2 ZPv))) (ZOG m0) [(0, x0), (4, x4), (5, x5)] B
theorem ZIE : ZBw m0 x0 x4 x5 B =
 mk (ob (Z2l (shr x0)) fun a =>
 ob (xfld 0 a) fun b =>
 ldOwn b B fun c d =>
 ob (ldN true 5 x5 d) fun e =>
 ob (xlit PP 121 1 [(0, e)]) fun f =>
 ob (xapp 5 c f) fun g =>
 ob (Z2l (shr x0)) fun h =>
 ob (xfld 0 h) fun i =>
 stN 1 i g d fun j =>
 grd (Z7I b x5) (mk (ob (Z2l (shr x0)) fun k =>
 ob (xfld 0 k) fun l =>
 ob (ldN false 1 l j) fun n =>
 ob (xlen PP 121 n) fun o =>
 ob (xbin PP .sub 3 o (iv 1)) fun p =>
 ob (Z2a PP 66 [(0, p)]) fun q =>
 stN 4 x4 q j fun r =>
 ZEn x4 r))) := by kernel_rfl
theorem ZOF : EE 61 [x0, x1] B =
 (let m0 := B.length
 mk (bx x1 B fun a b =>
 bz PP 66 b fun c d =>
 mk (ob (Z2l (shr x0)) fun e =>
 ob (xfld 0 e) fun f =>
 ob (ldN false 1 f d) fun g =>
 ob (Z2l (shr x0)) fun h =>
 ob (xfld 0 h) fun i =>
 ob (ldN false 1 i d) fun j =>
 ob (xlen PP 121 j) fun k =>
 ob (xbin PP .sub 3 k (iv 1)) fun l =>
 ob (xidx 5 g l) fun n =>
 ob (ldN true 5 n d) fun o =>
 ob (ldN true 6 a d) fun p =>
 callS false EE 23 [o, p] d fun q r =>
 ob (xext 0 (shr q)) fun s =>
 ob (xext 1 (shr q)) fun t =>
 bz PP 24 r fun u v =>
 bz PP 32 v fun w x =>
 stN 5 u (shr s) x fun y =>
 stN 3 w (shr t) y fun z =>
 grd (Z7I f u) (grd (Z7I i u) (grd (Z7I n u) (grd (Z7I a u) (grd (Zha [q, o, p]) (grd (Z7I f w) (grd (Z7I i w) (grd (Z7I n w) (grd (Z7I a w) (grd (Zha [q, o, p]) (mk (ob (xfld 0 w) fun A =>
 ob (ldN false 1 A z) fun C =>
 ob (xbin PP .neq 30 C (iv 0)) fun D =>
 asB D fun F => br F (mk (ob (ldN true 3 w z) fun G =>
 ob (Z2a PP 66 [(1, G)]) fun I =>
 stN 4 c I z fun J =>
 ZEn c J))
 (ZBw m0 x0 c u (gcB m0 [x0, c, u] z)))))))))))))))) := (E_eq PP XX HH _ _ _).trans (by kernel_rfl)
noncomputable def ZLe := Z39 Tryz.f68
def ZBz := l2 (l2 ZLe)
def ZBx (m0 : Nat) : Kont := kret PP HH 68 Tryz.f68.results
def ZOI := kseq HH 68 m0 ZBz (exec PP HH 68 m0 EE LL ZBz (ZBx m0)) (ZBx m0)
def ZwF := exec PP HH 68 m0 EE LL (l1 (l2 (l1 (l2 ZLe)))) (ZOI m0) [] B
def ZBy := exec PP HH 68 m0 EE LL ZBz (ZBx m0) [(0, x0), (1, x1)] B
theorem ZIF : ZwF m0 B =
 mk (Z1j (bv false) B) := by kernel_rfl
theorem ZIG : ZBy m0 x0 x1 B =
 mk (ob (Z2l (shr x0)) fun a =>
 ob (xfld 1 a) fun b =>
 ob (ldN false 1 b B) fun c =>
 ob (xlen PP 9 (shr x1)) fun d =>
 ob (xbin PP .add 3 c d) fun e =>
 ob (Z2l (shr x0)) fun f =>
 ob (xfld 1 f) fun g =>
 stN 1 g e B fun h =>
 mk (Z1j (bv true) h)) := by kernel_rfl
theorem ZOH : EE 68 [x0, x1] B =
 (let m0 := B.length
 mk (mk (ob (Z2l (shr x0)) fun a =>
 ob (xfld 0 a) fun b =>
 ob (ldN false 1 b B) fun c =>
 ob (xlen PP 141 c) fun d =>
 ob (Z2l (shr x0)) fun e =>
 ob (xfld 1 e) fun f =>
 ob (ldN false 1 f B) fun g =>
 ob (xbin PP .sub 3 d g) fun h =>
 ob (xlen PP 9 (shr x1)) fun i =>
 ob (xbin PP .lss 3 h i) fun j =>
 asB (shr j) fun k => br k (ZwF m0 (gcB m0 [] B))
 (ob (Z2l (shr x0)) fun l =>
 ob (xfld 0 l) fun n =>
 ob (ldN false 1 n B) fun o =>
 ob (Z2l (shr x0)) fun p =>
 ob (xfld 1 p) fun q =>
 ob (ldN false 1 q B) fun r =>
 ob (Z2l (shr x0)) fun s =>
 ob (xfld 1 s) fun t =>
 ob (ldN false 1 t B) fun u =>
 ob (xlen PP 9 (shr x1)) fun v =>
 ob (xbin PP .add 3 u v) fun w =>
 ob (xsl 1 o (some r) (some w) none) fun x =>
 ob (xcnv PP 141 9 x) fun y =>
 ob (xbin PP .neq 9 y (shr x1)) fun z =>
 asB (shr z) fun A => br A (ZwF m0 (gcB m0 [] B))
 (ZBy m0 x0 x1 (gcB m0 [x0, x1] B)))))) := (E_eq PP XX HH _ _ _).trans (by kernel_rfl)
noncomputable def ZLf := Z39 Tryz.f69
def ZBE := l2 (l2 (l2 ZLf))
def ZwG := l1 (l1 (l1 (l2 (l2 ZLf))))
def Z9m (r0 : AV) (B : List Row) : Option Res :=
 ob (ob (ldN true 7 r0 B) fun v => ob (some []) fun vs => some (v :: vs)) fun vs => some ((nrmA (match vs with | [v] => v | vs => Z8h (vs.map shr))), B)
def ZBA (m0 : Nat) : Kont := kret PP HH 69 Tryz.f69.results
def ZOK := kseq HH 69 m0 ZBE (exec PP HH 69 m0 EE LL ZBE (ZBA m0)) (ZBA m0)
def ZBB := kblk 0 (ZOK m0)
def ZOL := kloop HH 69 m0 ZwG (LL 69 m0 ZwG (ZBB m0)) (ZBB m0)
def Zsq := lp (LL 69 m0 ZwG (ZBB m0) [(0, x0), (2, x2), (3, x3)] B)
def ZBC := exec PP HH 69 m0 EE LL (l2 ZwG) (ZOL m0) [(0, x0), (2, x2), (3, x3)] B
def ZBD := exec PP HH 69 m0 EE LL ZBE (ZBA m0) [(2, x2), (3, x3)] B
theorem ZIH : Zsq m0 x0 x2 x3 B =
 mk (callS false EE 68 [(shr x0), (.p (.v (.string (ByteArray.mk #[124]))))] B fun a b =>
 asB a fun c => br c (ZBC m0 x0 x2 x3 (gcB m0 [x0, x2, x3] b))
 (ZBD m0 x2 x3 (gcB m0 [x2, x3] b))) := lq_ (by kernel_rfl)
theorem ZII : ZBC m0 x0 x2 x3 B =
 mk (callS false EE 91 [(shr x0)] B fun a b =>
 ob (xlit PP 96 1 [(0, a)]) fun c =>
 ob (xapp 7 x3 c) fun d =>
 Zsq m0 x0 x2 d (gcB m0 [x0, x2, d] b)) := by kernel_rfl
theorem ZIJ : ZBD m0 x2 x3 B =
 mk (callS false EE 92 [(iv 3), (shr x3)] B fun a b =>
 stN 7 x2 a b fun c =>
 Z9m x2 c) := by kernel_rfl
theorem ZOJ : EE 69 [x0] B =
 (let m0 := B.length
 mk (bz PP 98 B fun a b =>
 mk (callS false EE 91 [(shr x0)] b fun c d =>
 ob (xlit PP 96 1 [(0, c)]) fun e =>
 Zsq m0 x0 a e (gcB m0 [x0, a, e] d)))) := (E_eq PP XX HH _ _ _).trans (by kernel_rfl)
noncomputable def ZPw := Z39 Tryz.f70
def ZON (m0 : Nat) : Kont := kret PP HH 70 Tryz.f70.results
def ZwH := exec PP HH 70 m0 EE LL (l2 ZPw) (ZON m0) [(0, x0)] B
theorem ZIK : ZwH m0 x0 B =
 mk (ob (Z2l (shr x0)) fun a =>
 ob (xfld 0 a) fun b =>
 ob (ldN false 1 b B) fun c =>
 ob (xlen PP 141 c) fun d =>
 ob (Z2l (shr x0)) fun e =>
 ob (xfld 1 e) fun f =>
 stN 1 f d B fun g =>
 Zu2 g) := by kernel_rfl
theorem ZOM : EE 70 [x0, x1, x2] B =
 (let m0 := B.length
 mk (ob (Z2l (shr x0)) fun a =>
 ob (xfld 5 a) fun b =>
 ob (xfld 0 b) fun c =>
 ob (ldN false 1 c B) fun d =>
 ob (xbin PP .eql 30 d (iv 0)) fun e =>
 asB e fun f => br f (mk (ob (Z2a PP 102 [(0, (shr x1)), (1, (shr x2))]) fun g =>
 ob (Z2l (shr x0)) fun h =>
 ob (xfld 5 h) fun i =>
 stN 2 i g B fun j =>
 ZwH m0 x0 (gcB m0 [x0] j)))
 (ZwH m0 x0 (gcB m0 [x0] B)))) := (E_eq PP XX HH _ _ _).trans (by kernel_rfl)
noncomputable def ZLg := Z39 Tryz.f71
def ZBH := l2 (l2 ZLg)
def ZIP := l1 (l2 (l1 (l2 ZLg)))
def ZBF (m0 : Nat) : Kont := kret PP HH 71 Tryz.f71.results
def ZIL := kseq HH 71 m0 ZBH (exec PP HH 71 m0 EE LL ZBH (ZBF m0)) (ZBF m0)
def ZBG := exec PP HH 71 m0 EE LL ZIP (ZIL m0) [(1, x1)] B
def Zsr := exec PP HH 71 m0 EE LL ZBH (ZBF m0) [(1, x1)] B
def ZwI := exec PP HH 71 m0 EE LL (l1 (l2 (l2 ZIP))) (ZIL m0) [] B
theorem ZIM : ZBG m0 x1 B =
 mk (ob (xfld 6 x1) fun a =>
 ob (ldN false 1 a B) fun b =>
 ob (xidx 7 b (iv 0)) fun c =>
 ob (ldN true 7 c B) fun d =>
 callS false EE 93 [d] B fun e f =>
 ob (xext 0 (shr e)) fun g =>
 ob (xext 1 (shr e)) fun h =>
 mk (ob (xbin PP .lss 3 (shr (shr (shr h))) (iv 0)) fun i =>
 asB (shr i) fun j => br j (ZwI m0 (gcB m0 [] f))
 (ob (xbin PP .gtr 3 (shr (shr (shr h))) (iv 32)) fun k =>
 asB (shr k) fun l => br l (ZwI m0 (gcB m0 [] f))
 (Zsr m0 x1 (gcB m0 [x1] f))))) := by kernel_rfl
theorem ZIO : Zsr m0 x1 B =
 mk (ob (xfld 6 x1) fun a =>
 ob (ldN false 1 a B) fun b =>
 callS false EE 94 [b, (.clo 95 [] [])] B fun c d =>
 ob (xun PP .not c) fun e =>
 Z1j (shr e) d) := by kernel_rfl
theorem ZIN : ZwI m0 B =
 mk (Z1j (bv false) B) := by kernel_rfl
theorem ZOO : EE 71 [x0] B =
 (let m0 := B.length
 mk (bx x0 B fun a b =>
 mk (ob (xfld 0 a) fun c =>
 ob (ldN false 1 c b) fun d =>
 ob (xbin PP .eql 3 d (iv 7)) fun e =>
 asB (shr e) fun f => br f (ob (xfld 3 a) fun g =>
 ob (ldN false 1 g b) fun h =>
 ob (xbin PP .geq 3 h (iv 2)) fun i =>
 asB (shr i) fun j => br j (ZBG m0 a (gcB m0 [a] b))
 (Zsr m0 a (gcB m0 [a] b)))
 (Zsr m0 a (gcB m0 [a] b))))) := (E_eq PP XX HH _ _ _).trans (by kernel_rfl)
noncomputable def ZLh := Z39 Tryz.f72
def ZmJ := l2 (l2 (l2 ZLh))
def ZwJ := l1 (l1 (l2 (l1 (l2 (l2 ZLh)))))
def Zpa (m0 : Nat) : Kont := kret PP HH 72 Tryz.f72.results
def ZOQ := kseq HH 72 m0 ZmJ (exec PP HH 72 m0 EE LL ZmJ (Zpa m0)) (Zpa m0)
def ZBI := kblk 0 (ZOQ m0)
def ZOR := kloop HH 72 m0 ZwJ (LL 72 m0 ZwJ (ZBI m0)) (ZBI m0)
def ZOS := kseq HH 72 m0 (l2 ZmJ) (exec PP HH 72 m0 EE LL (l2 ZmJ) (Zpa m0)) (Zpa m0)
def ZOT := kblk 2 (ZOS m0)
def Zss := lp (LL 72 m0 ZwJ (ZBI m0) [(1, x1), (3, x3), (8, x8), (9, x9), (10, x10)] B)
def ZBJ := exec PP HH 72 m0 EE LL (l2 (l2 ZwJ)) (ZOR m0) [(1, x1), (3, x3), (8, x8), (9, x9), (10, x10)] B
def ZBK := exec PP HH 72 m0 EE LL ZmJ (Zpa m0) [(1, x1), (3, x3)] B
def Z5h := exec PP HH 72 m0 EE LL (l2 ZmJ) (Zpa m0) [(3, x3)] B
def Z6Y := exec PP HH 72 m0 EE LL (l2 (l2 (l2 (l1 (l2 (l2 (l2 (l2 (l2 (l2 (l2 (l1 (l2 (l1 ZmJ)))))))))))))) (ZOT m0) [(1, x1), (3, x3)] B
theorem ZIQ : Zss m0 x1 x3 x8 x9 x10 B =
 mk (ob (xbin PP .lss 3 x10 x9) fun a =>
 asB a fun b => br b (ZBJ m0 x1 x3 x8 x9 x10 (gcB m0 [x1, x3, x8, x9, x10] B))
 (ZBK m0 x1 x3 (gcB m0 [x1, x3] B))) := lq_ (by kernel_rfl)
theorem ZIR : ZBJ m0 x1 x3 x8 x9 x10 B =
 mk (ob (xidx 7 x8 x10) fun a =>
 ob (ldN true 7 a B) fun b =>
 bz PP 98 B fun c d =>
 stN 7 c b d fun e =>
 mk (ob (ldN true 7 c e) fun f =>
 callS false EE 72 [f] e fun g h =>
 ob (xbin PP .add 3 (shr x3) g) fun i =>
 ob (Z9q PP false [i, (iv 1048576)]) fun j =>
 mk (ob (xbin PP .add 3 x10 (iv 1)) fun k =>
 Zss m0 x1 (shr j) x8 x9 (shr k) (gcB m0 [x1, (shr j), x8, x9, (shr k)] h)))) := by kernel_rfl
theorem ZIS : ZBK m0 x1 x3 B =
 mk (ob (xfld 0 x1) fun a =>
 ob (ldN false 1 a B) fun b =>
 mk (ob (xbin PP .eql 3 b (iv 1)) fun c =>
 asB (shr c) fun d => br d (asB (shr c) fun e => br e (mk (Z1j (iv 1) B))
 (mk (ob (xbin PP .eql 3 b (iv 3)) fun f =>
 asB (shr f) fun g => br g (mk (ob (xfld 6 x1) fun h =>
 ob (ldN false 1 h B) fun i =>
 ob (xlen PP 96 i) fun j =>
 ob (xbin PP .sub 3 j (iv 1)) fun k =>
 ob (xbin PP .mul 3 (iv 2) k) fun l =>
 ob (xbin PP .add 3 (shr x3) l) fun n =>
 Z5h m0 (shr n) (gcB m0 [(shr n)] B)))
 (mk (ob (xbin PP .eql 3 b (iv 5)) fun o =>
 asB (shr o) fun p => br p (asB (shr o) fun q => br q (mk (ob (xbin PP .add 3 (shr x3) (iv 2)) fun r =>
 Z5h m0 (shr r) (gcB m0 [(shr r)] B)))
 (mk (ob (xbin PP .eql 3 b (iv 4)) fun s =>
 asB (shr s) fun t => br t (mk (mk (ob (xfld 1 x1) fun u =>
 ob (ldN false 1 u B) fun v =>
 ob (xbin PP .mul 3 v (shr (shr (shr x3)))) fun w =>
 mk (ob (xfld 2 x1) fun x =>
 ob (ldN false 1 x B) fun y =>
 ob (xbin PP .lss 3 y (iv 0)) fun z =>
 asB z fun A => br A (mk (ob (xbin PP .add 3 (shr (shr (shr x3))) (iv 4)) fun C =>
 ob (xbin PP .add 3 (shr (shr w)) C) fun D =>
 Z6Y m0 x1 (shr D) (gcB m0 [x1, (shr D)] B)))
 (mk (ob (xfld 2 x1) fun F =>
 ob (ldN false 1 F B) fun G =>
 ob (xfld 1 x1) fun I =>
 ob (ldN false 1 I B) fun J =>
 ob (xbin PP .sub 3 G J) fun M =>
 ob (xbin PP .add 3 (shr (shr (shr x3))) (iv 1)) fun N =>
 ob (xbin PP .mul 3 M N) fun O =>
 ob (xbin PP .add 3 (shr (shr w)) O) fun Q =>
 Z6Y m0 x1 (shr Q) (gcB m0 [x1, (shr Q)] B)))))))
 (Z5h m0 x3 (gcB m0 [x3] B)))))
 (mk (ob (xbin PP .eql 3 b (iv 7)) fun R =>
 asB (shr R) fun S => br S (asB (shr R) fun T => br T (mk (ob (xbin PP .add 3 (shr x3) (iv 2)) fun U =>
 Z5h m0 (shr U) (gcB m0 [(shr U)] B)))
 (mk (ob (xbin PP .eql 3 b (iv 4)) fun V =>
 asB (shr V) fun W => br W (mk (mk (ob (xfld 1 x1) fun Y =>
 ob (ldN false 1 Y B) fun Z =>
 ob (xbin PP .mul 3 Z (shr (shr (shr x3)))) fun a0 =>
 mk (ob (xfld 2 x1) fun a1 =>
 ob (ldN false 1 a1 B) fun a2 =>
 ob (xbin PP .lss 3 a2 (iv 0)) fun a3 =>
 asB a3 fun a4 => br a4 (mk (ob (xbin PP .add 3 (shr (shr (shr x3))) (iv 4)) fun a5 =>
 ob (xbin PP .add 3 (shr (shr a0)) a5) fun a6 =>
 Z6Y m0 x1 (shr a6) (gcB m0 [x1, (shr a6)] B)))
 (mk (ob (xfld 2 x1) fun a7 =>
 ob (ldN false 1 a7 B) fun a8 =>
 ob (xfld 1 x1) fun a9 =>
 ob (ldN false 1 a9 B) fun a10 =>
 ob (xbin PP .sub 3 a8 a10) fun a11 =>
 ob (xbin PP .add 3 (shr (shr (shr x3))) (iv 1)) fun a12 =>
 ob (xbin PP .mul 3 a11 a12) fun a13 =>
 ob (xbin PP .add 3 (shr (shr a0)) a13) fun a14 =>
 Z6Y m0 x1 (shr a14) (gcB m0 [x1, (shr a14)] B)))))))
 (Z5h m0 x3 (gcB m0 [x3] B)))))
 (mk (ob (xbin PP .eql 3 b (iv 8)) fun a15 =>
 asB (shr a15) fun a16 => br a16 (mk (ob (xbin PP .add 3 (shr x3) (iv 2)) fun a17 =>
 Z5h m0 (shr a17) (gcB m0 [(shr a17)] B)))
 (mk (ob (xbin PP .eql 3 b (iv 4)) fun a18 =>
 asB (shr a18) fun a19 => br a19 (mk (mk (ob (xfld 1 x1) fun a20 =>
 ob (ldN false 1 a20 B) fun a21 =>
 ob (xbin PP .mul 3 a21 (shr (shr (shr x3)))) fun a22 =>
 mk (ob (xfld 2 x1) fun a23 =>
 ob (ldN false 1 a23 B) fun a24 =>
 ob (xbin PP .lss 3 a24 (iv 0)) fun a25 =>
 asB a25 fun a26 => br a26 (mk (ob (xbin PP .add 3 (shr (shr (shr x3))) (iv 4)) fun a27 =>
 ob (xbin PP .add 3 (shr (shr a22)) a27) fun a28 =>
 Z6Y m0 x1 (shr a28) (gcB m0 [x1, (shr a28)] B)))
 (mk (ob (xfld 2 x1) fun a29 =>
 ob (ldN false 1 a29 B) fun a30 =>
 ob (xfld 1 x1) fun a31 =>
 ob (ldN false 1 a31 B) fun a32 =>
 ob (xbin PP .sub 3 a30 a32) fun a33 =>
 ob (xbin PP .add 3 (shr (shr (shr x3))) (iv 1)) fun a34 =>
 ob (xbin PP .mul 3 a33 a34) fun a35 =>
 ob (xbin PP .add 3 (shr (shr a22)) a35) fun a36 =>
 Z6Y m0 x1 (shr a36) (gcB m0 [x1, (shr a36)] B)))))))
 (Z5h m0 x3 (gcB m0 [x3] B)))))))))))))
 (mk (ob (xbin PP .eql 3 b (iv 6)) fun a37 =>
 asB (shr a37) fun a38 => br a38 (asB (shr a37) fun a39 => br a39 (mk (Z1j (iv 1) B))
 (mk (ob (xbin PP .eql 3 b (iv 3)) fun a40 =>
 asB (shr a40) fun a41 => br a41 (mk (ob (xfld 6 x1) fun a42 =>
 ob (ldN false 1 a42 B) fun a43 =>
 ob (xlen PP 96 a43) fun a44 =>
 ob (xbin PP .sub 3 a44 (iv 1)) fun a45 =>
 ob (xbin PP .mul 3 (iv 2) a45) fun a46 =>
 ob (xbin PP .add 3 (shr x3) a46) fun a47 =>
 Z5h m0 (shr a47) (gcB m0 [(shr a47)] B)))
 (mk (ob (xbin PP .eql 3 b (iv 5)) fun a48 =>
 asB (shr a48) fun a49 => br a49 (asB (shr a48) fun a50 => br a50 (mk (ob (xbin PP .add 3 (shr x3) (iv 2)) fun a51 =>
 Z5h m0 (shr a51) (gcB m0 [(shr a51)] B)))
 (mk (ob (xbin PP .eql 3 b (iv 4)) fun a52 =>
 asB (shr a52) fun a53 => br a53 (mk (mk (ob (xfld 1 x1) fun a54 =>
 ob (ldN false 1 a54 B) fun a55 =>
 ob (xbin PP .mul 3 a55 (shr (shr (shr x3)))) fun a56 =>
 mk (ob (xfld 2 x1) fun a57 =>
 ob (ldN false 1 a57 B) fun a58 =>
 ob (xbin PP .lss 3 a58 (iv 0)) fun a59 =>
 asB a59 fun a60 => br a60 (mk (ob (xbin PP .add 3 (shr (shr (shr x3))) (iv 4)) fun a61 =>
 ob (xbin PP .add 3 (shr (shr a56)) a61) fun a62 =>
 Z6Y m0 x1 (shr a62) (gcB m0 [x1, (shr a62)] B)))
 (mk (ob (xfld 2 x1) fun a63 =>
 ob (ldN false 1 a63 B) fun a64 =>
 ob (xfld 1 x1) fun a65 =>
 ob (ldN false 1 a65 B) fun a66 =>
 ob (xbin PP .sub 3 a64 a66) fun a67 =>
 ob (xbin PP .add 3 (shr (shr (shr x3))) (iv 1)) fun a68 =>
 ob (xbin PP .mul 3 a67 a68) fun a69 =>
 ob (xbin PP .add 3 (shr (shr a56)) a69) fun a70 =>
 Z6Y m0 x1 (shr a70) (gcB m0 [x1, (shr a70)] B)))))))
 (Z5h m0 x3 (gcB m0 [x3] B)))))
 (mk (ob (xbin PP .eql 3 b (iv 7)) fun a71 =>
 asB (shr a71) fun a72 => br a72 (asB (shr a71) fun a73 => br a73 (mk (ob (xbin PP .add 3 (shr x3) (iv 2)) fun a74 =>
 Z5h m0 (shr a74) (gcB m0 [(shr a74)] B)))
 (mk (ob (xbin PP .eql 3 b (iv 4)) fun a75 =>
 asB (shr a75) fun a76 => br a76 (mk (mk (ob (xfld 1 x1) fun a77 =>
 ob (ldN false 1 a77 B) fun a78 =>
 ob (xbin PP .mul 3 a78 (shr (shr (shr x3)))) fun a79 =>
 mk (ob (xfld 2 x1) fun a80 =>
 ob (ldN false 1 a80 B) fun a81 =>
 ob (xbin PP .lss 3 a81 (iv 0)) fun a82 =>
 asB a82 fun a83 => br a83 (mk (ob (xbin PP .add 3 (shr (shr (shr x3))) (iv 4)) fun a84 =>
 ob (xbin PP .add 3 (shr (shr a79)) a84) fun a85 =>
 Z6Y m0 x1 (shr a85) (gcB m0 [x1, (shr a85)] B)))
 (mk (ob (xfld 2 x1) fun a86 =>
 ob (ldN false 1 a86 B) fun a87 =>
 ob (xfld 1 x1) fun a88 =>
 ob (ldN false 1 a88 B) fun a89 =>
 ob (xbin PP .sub 3 a87 a89) fun a90 =>
 ob (xbin PP .add 3 (shr (shr (shr x3))) (iv 1)) fun a91 =>
 ob (xbin PP .mul 3 a90 a91) fun a92 =>
 ob (xbin PP .add 3 (shr (shr a79)) a92) fun a93 =>
 Z6Y m0 x1 (shr a93) (gcB m0 [x1, (shr a93)] B)))))))
 (Z5h m0 x3 (gcB m0 [x3] B)))))
 (mk (ob (xbin PP .eql 3 b (iv 8)) fun a94 =>
 asB (shr a94) fun a95 => br a95 (mk (ob (xbin PP .add 3 (shr x3) (iv 2)) fun a96 =>
 Z5h m0 (shr a96) (gcB m0 [(shr a96)] B)))
 (mk (ob (xbin PP .eql 3 b (iv 4)) fun a97 =>
 asB (shr a97) fun a98 => br a98 (mk (mk (ob (xfld 1 x1) fun a99 =>
 ob (ldN false 1 a99 B) fun a100 =>
 ob (xbin PP .mul 3 a100 (shr (shr (shr x3)))) fun a101 =>
 mk (ob (xfld 2 x1) fun a102 =>
 ob (ldN false 1 a102 B) fun a103 =>
 ob (xbin PP .lss 3 a103 (iv 0)) fun a104 =>
 asB a104 fun a105 => br a105 (mk (ob (xbin PP .add 3 (shr (shr (shr x3))) (iv 4)) fun a106 =>
 ob (xbin PP .add 3 (shr (shr a101)) a106) fun a107 =>
 Z6Y m0 x1 (shr a107) (gcB m0 [x1, (shr a107)] B)))
 (mk (ob (xfld 2 x1) fun a108 =>
 ob (ldN false 1 a108 B) fun a109 =>
 ob (xfld 1 x1) fun a110 =>
 ob (ldN false 1 a110 B) fun a111 =>
 ob (xbin PP .sub 3 a109 a111) fun a112 =>
 ob (xbin PP .add 3 (shr (shr (shr x3))) (iv 1)) fun a113 =>
 ob (xbin PP .mul 3 a112 a113) fun a114 =>
 ob (xbin PP .add 3 (shr (shr a101)) a114) fun a115 =>
 Z6Y m0 x1 (shr a115) (gcB m0 [x1, (shr a115)] B)))))))
 (Z5h m0 x3 (gcB m0 [x3] B)))))))))))))
 (mk (ob (xbin PP .eql 3 b (iv 9)) fun a116 =>
 asB (shr a116) fun a117 => br a117 (mk (Z1j (iv 1) B))
 (mk (ob (xbin PP .eql 3 b (iv 3)) fun a118 =>
 asB (shr a118) fun a119 => br a119 (mk (ob (xfld 6 x1) fun a120 =>
 ob (ldN false 1 a120 B) fun a121 =>
 ob (xlen PP 96 a121) fun a122 =>
 ob (xbin PP .sub 3 a122 (iv 1)) fun a123 =>
 ob (xbin PP .mul 3 (iv 2) a123) fun a124 =>
 ob (xbin PP .add 3 (shr x3) a124) fun a125 =>
 Z5h m0 (shr a125) (gcB m0 [(shr a125)] B)))
 (mk (ob (xbin PP .eql 3 b (iv 5)) fun a126 =>
 asB (shr a126) fun a127 => br a127 (asB (shr a126) fun a128 => br a128 (mk (ob (xbin PP .add 3 (shr x3) (iv 2)) fun a129 =>
 Z5h m0 (shr a129) (gcB m0 [(shr a129)] B)))
 (mk (ob (xbin PP .eql 3 b (iv 4)) fun a130 =>
 asB (shr a130) fun a131 => br a131 (mk (mk (ob (xfld 1 x1) fun a132 =>
 ob (ldN false 1 a132 B) fun a133 =>
 ob (xbin PP .mul 3 a133 (shr (shr (shr x3)))) fun a134 =>
 mk (ob (xfld 2 x1) fun a135 =>
 ob (ldN false 1 a135 B) fun a136 =>
 ob (xbin PP .lss 3 a136 (iv 0)) fun a137 =>
 asB a137 fun a138 => br a138 (mk (ob (xbin PP .add 3 (shr (shr (shr x3))) (iv 4)) fun a139 =>
 ob (xbin PP .add 3 (shr (shr a134)) a139) fun a140 =>
 Z6Y m0 x1 (shr a140) (gcB m0 [x1, (shr a140)] B)))
 (mk (ob (xfld 2 x1) fun a141 =>
 ob (ldN false 1 a141 B) fun a142 =>
 ob (xfld 1 x1) fun a143 =>
 ob (ldN false 1 a143 B) fun a144 =>
 ob (xbin PP .sub 3 a142 a144) fun a145 =>
 ob (xbin PP .add 3 (shr (shr (shr x3))) (iv 1)) fun a146 =>
 ob (xbin PP .mul 3 a145 a146) fun a147 =>
 ob (xbin PP .add 3 (shr (shr a134)) a147) fun a148 =>
 Z6Y m0 x1 (shr a148) (gcB m0 [x1, (shr a148)] B)))))))
 (Z5h m0 x3 (gcB m0 [x3] B)))))
 (mk (ob (xbin PP .eql 3 b (iv 7)) fun a149 =>
 asB (shr a149) fun a150 => br a150 (asB (shr a149) fun a151 => br a151 (mk (ob (xbin PP .add 3 (shr x3) (iv 2)) fun a152 =>
 Z5h m0 (shr a152) (gcB m0 [(shr a152)] B)))
 (mk (ob (xbin PP .eql 3 b (iv 4)) fun a153 =>
 asB (shr a153) fun a154 => br a154 (mk (mk (ob (xfld 1 x1) fun a155 =>
 ob (ldN false 1 a155 B) fun a156 =>
 ob (xbin PP .mul 3 a156 (shr (shr (shr x3)))) fun a157 =>
 mk (ob (xfld 2 x1) fun a158 =>
 ob (ldN false 1 a158 B) fun a159 =>
 ob (xbin PP .lss 3 a159 (iv 0)) fun a160 =>
 asB a160 fun a161 => br a161 (mk (ob (xbin PP .add 3 (shr (shr (shr x3))) (iv 4)) fun a162 =>
 ob (xbin PP .add 3 (shr (shr a157)) a162) fun a163 =>
 Z6Y m0 x1 (shr a163) (gcB m0 [x1, (shr a163)] B)))
 (mk (ob (xfld 2 x1) fun a164 =>
 ob (ldN false 1 a164 B) fun a165 =>
 ob (xfld 1 x1) fun a166 =>
 ob (ldN false 1 a166 B) fun a167 =>
 ob (xbin PP .sub 3 a165 a167) fun a168 =>
 ob (xbin PP .add 3 (shr (shr (shr x3))) (iv 1)) fun a169 =>
 ob (xbin PP .mul 3 a168 a169) fun a170 =>
 ob (xbin PP .add 3 (shr (shr a157)) a170) fun a171 =>
 Z6Y m0 x1 (shr a171) (gcB m0 [x1, (shr a171)] B)))))))
 (Z5h m0 x3 (gcB m0 [x3] B)))))
 (mk (ob (xbin PP .eql 3 b (iv 8)) fun a172 =>
 asB (shr a172) fun a173 => br a173 (mk (ob (xbin PP .add 3 (shr x3) (iv 2)) fun a174 =>
 Z5h m0 (shr a174) (gcB m0 [(shr a174)] B)))
 (mk (ob (xbin PP .eql 3 b (iv 4)) fun a175 =>
 asB (shr a175) fun a176 => br a176 (mk (mk (ob (xfld 1 x1) fun a177 =>
 ob (ldN false 1 a177 B) fun a178 =>
 ob (xbin PP .mul 3 a178 (shr (shr (shr x3)))) fun a179 =>
 mk (ob (xfld 2 x1) fun a180 =>
 ob (ldN false 1 a180 B) fun a181 =>
 ob (xbin PP .lss 3 a181 (iv 0)) fun a182 =>
 asB a182 fun a183 => br a183 (mk (ob (xbin PP .add 3 (shr (shr (shr x3))) (iv 4)) fun a184 =>
 ob (xbin PP .add 3 (shr (shr a179)) a184) fun a185 =>
 Z6Y m0 x1 (shr a185) (gcB m0 [x1, (shr a185)] B)))
 (mk (ob (xfld 2 x1) fun a186 =>
 ob (ldN false 1 a186 B) fun a187 =>
 ob (xfld 1 x1) fun a188 =>
 ob (ldN false 1 a188 B) fun a189 =>
 ob (xbin PP .sub 3 a187 a189) fun a190 =>
 ob (xbin PP .add 3 (shr (shr (shr x3))) (iv 1)) fun a191 =>
 ob (xbin PP .mul 3 a190 a191) fun a192 =>
 ob (xbin PP .add 3 (shr (shr a179)) a192) fun a193 =>
 Z6Y m0 x1 (shr a193) (gcB m0 [x1, (shr a193)] B)))))))
 (Z5h m0 x3 (gcB m0 [x3] B)))))))))))))))))) := by kernel_rfl
theorem ZGw : Z5h m0 x3 B =
 mk (ob (Z9q PP false [(shr x3), (iv 1048576)]) fun a =>
 Z1j (shr a) B) := by kernel_rfl
theorem ZGv : Z6Y m0 x1 x3 B =
 mk (ob (xfld 3 x1) fun a =>
 ob (ldN false 1 a B) fun b =>
 ob (xbin PP .eql 3 b (iv 2)) fun c =>
 asB c fun d => br d (mk (ob (xbin PP .add 3 (shr x3) (iv 2)) fun e =>
 Z5h m0 (shr e) (gcB m0 [(shr e)] B)))
 (Z5h m0 x3 (gcB m0 [x3] B))) := by kernel_rfl
theorem ZOP : EE 72 [x0] B =
 (let m0 := B.length
 mk (bx x0 B fun a b =>
 mk (mk (ob (xfld 6 a) fun c =>
 ob (ldN false 1 c b) fun d =>
 ob (xlen PP 96 d) fun e =>
 Zss m0 a (iv 0) d e (iv 0) (gcB m0 [a, (iv 0), d, e, (iv 0)] b))))) := (E_eq PP XX HH _ _ _).trans (by kernel_rfl)
theorem ZOU : EE 73 [x0, x1] B =
 (let m0 := B.length
 mk (bx x0 B fun a b =>
 mk (ob (ldN false 1 x1 b) fun c =>
 ob (ldN true 5 a b) fun d =>
 callV HH EE c [d] b fun e f =>
 ob (xun PP .not e) fun g =>
 Z1j (shr g) f))) := (E_eq PP XX HH _ _ _).trans (by kernel_rfl)
theorem ZOV : EE 74 [x0, x1] B =
 (let m0 := B.length
 mk (mk (ob (ldN false 1 x1 B) fun a =>
 ob (Ze8 PP 152 false a (shr x0) B) fun b =>
 mk (ob (ldN false 1 x1 B) fun c =>
 xupd PP 152 c (shr x0) (bv true) B fun d =>
 mk (Z1j (shr (shr (shr b))) d))))) := (E_eq PP XX HH _ _ _).trans (by kernel_rfl)
theorem ZOW : EE 75 [x0, x1] B =
 (let m0 := B.length
 mk (bx x0 B fun a b =>
 mk (ob (ldN false 1 x1 b) fun c =>
 ob (xfld 0 a) fun d =>
 ob (ldN false 1 d b) fun e =>
 callV HH EE c [e] b fun f g =>
 Z1j (shr f) g))) := (E_eq PP XX HH _ _ _).trans (by kernel_rfl)
noncomputable def ZLi := Z39 Tryz.f83
def ZBO := l2 (l2 ZLi)
def ZwK := l1 (l1 (l2 (l1 (l2 ZLi))))
def ZIU := l2 (l2 ZwK)
def ZBM (m0 : Nat) : Kont := kret PP HH 83 Tryz.f83.results
def ZOX := kseq HH 83 m0 ZBO (exec PP HH 83 m0 EE LL ZBO (ZBM m0)) (ZBM m0)
def ZBN := kblk 0 (ZOX m0)
def ZIT := kloop HH 83 m0 ZwK (LL 83 m0 ZwK (ZBN m0)) (ZBN m0)
def ZiR := lp (LL 83 m0 ZwK (ZBN m0) [(0, x0), (1, x1), (7, x7), (8, x8)] B)
def Zsu := exec PP HH 83 m0 EE LL ZIU (ZIT m0) [(0, x0), (1, x1), (7, x7), (8, x8)] B
def Zsy := exec PP HH 83 m0 EE LL ZBO (ZBM m0) [] B
def Zsw := exec PP HH 83 m0 EE LL (l2 ZIU) (ZIT m0) [(0, x0), (1, x1), (7, x7), (8, x8)] B
theorem Zst : ZiR m0 x0 x1 x7 x8 B =
 mk (ob (xbin PP .lss 3 x8 x7) fun a =>
 asB a fun b => br b (Zsu m0 x0 x1 x7 x8 (gcB m0 [x0, x1, x7, x8] B))
 (Zsy m0 (gcB m0 [] B))) := lq_ (by kernel_rfl)
theorem Zsv : Zsu m0 x0 x1 x7 x8 B =
 mk (mk (ob (xidx 5 (shr x0) (shr (shr (shr x8)))) fun a =>
 ob (ldN true 5 a B) fun b =>
 callV HH EE (shr x1) [b] B fun c d =>
 asB c fun e => br e (mk (Z1j (shr (shr (shr (shr x8)))) d))
 (Zsw m0 x0 x1 x7 x8 (gcB m0 [x0, x1, x7, x8] d)))) := by kernel_rfl
theorem Zsz : Zsy m0 B =
 mk (Z1j (iv (-1)) B) := by kernel_rfl
theorem Zsx : Zsw m0 x0 x1 x7 x8 B =
 mk (ob (xbin PP .add 3 x8 (iv 1)) fun a =>
 ZiR m0 x0 x1 x7 (shr a) (gcB m0 [x0, x1, x7, (shr a)] B)) := by kernel_rfl
theorem ZBL : EE 83 [x0, x1] B =
 (let m0 := B.length
 mk (mk (ob (xlen PP 22 (shr x0)) fun a =>
 ZiR m0 x0 x1 a (iv 0) (gcB m0 [x0, x1, a, (iv 0)] B)))) := (E_eq PP XX HH _ _ _).trans (by kernel_rfl)
noncomputable def ZLj := Z39 Tryz.f84
def ZBR := l2 (l2 ZLj)
def ZwO := l1 (l1 (l2 (l1 (l2 ZLj))))
def ZIX := l2 (l2 ZwO)
def ZBP (m0 : Nat) : Kont := kret PP HH 84 Tryz.f84.results
def ZOY := kseq HH 84 m0 ZBR (exec PP HH 84 m0 EE LL ZBR (ZBP m0)) (ZBP m0)
def ZBQ := kblk 0 (ZOY m0)
def ZIW := kloop HH 84 m0 ZwO (LL 84 m0 ZwO (ZBQ m0)) (ZBQ m0)
def ZmK := lp (LL 84 m0 ZwO (ZBQ m0) [(0, x0), (1, x1), (7, x7), (8, x8)] B)
def ZwL := exec PP HH 84 m0 EE LL ZIX (ZIW m0) [(0, x0), (1, x1), (7, x7), (8, x8)] B
def ZwN := exec PP HH 84 m0 EE LL ZBR (ZBP m0) [] B
def ZwM := exec PP HH 84 m0 EE LL (l2 ZIX) (ZIW m0) [(0, x0), (1, x1), (7, x7), (8, x8)] B
theorem ZzS : ZmK m0 x0 x1 x7 x8 B =
 mk (ob (xbin PP .lss 3 x8 x7) fun a =>
 asB a fun b => br b (ZwL m0 x0 x1 x7 x8 (gcB m0 [x0, x1, x7, x8] B))
 (ZwN m0 (gcB m0 [] B))) := lq_ (by kernel_rfl)
theorem ZzT : ZwL m0 x0 x1 x7 x8 B =
 mk (mk (ob (xidx 1 (shr x0) (shr (shr (shr x8)))) fun a =>
 ob (ldN false 1 a B) fun b =>
 callV HH EE (shr x1) [b] B fun c d =>
 asB c fun e => br e (mk (Z1j (shr (shr (shr (shr x8)))) d))
 (ZwM m0 x0 x1 x7 x8 (gcB m0 [x0, x1, x7, x8] d)))) := by kernel_rfl
theorem ZzV : ZwN m0 B =
 mk (Z1j (iv (-1)) B) := by kernel_rfl
theorem ZzU : ZwM m0 x0 x1 x7 x8 B =
 mk (ob (xbin PP .add 3 x8 (iv 1)) fun a =>
 ZmK m0 x0 x1 x7 (shr a) (gcB m0 [x0, x1, x7, (shr a)] B)) := by kernel_rfl
theorem ZIV : EE 84 [x0, x1] B =
 (let m0 := B.length
 mk (mk (ob (xlen PP 27 (shr x0)) fun a =>
 ZmK m0 x0 x1 a (iv 0) (gcB m0 [x0, x1, a, (iv 0)] B)))) := (E_eq PP XX HH _ _ _).trans (by kernel_rfl)
noncomputable def ZLk := Z39 Tryz.f91
def ZBV := l2 (l2 (l2 (l1 (l2 ZLk))))
def ZsC := l1 (l1 (l1 (l2 (l2 (l1 (l2 ZLk))))))
def ZBS (m0 : Nat) : Kont := kret PP HH 91 Tryz.f91.results
def ZP0 := kseq HH 91 m0 ZBV (exec PP HH 91 m0 EE LL ZBV (ZBS m0)) (ZBS m0)
def ZBT := kblk 0 (ZP0 m0)
def ZIY := kloop HH 91 m0 ZsC (LL 91 m0 ZsC (ZBT m0)) (ZBT m0)
def ZP1 := kblk 1 (ZIY m0)
def ZsA := lp (LL 91 m0 ZsC (ZBT m0) [(0, x0), (2, x2), (3, x3)] B)
def ZBU := exec PP HH 91 m0 EE LL (l2 ZsC) (ZIY m0) [(0, x0), (2, x2), (3, x3)] B
def Zpb := exec PP HH 91 m0 EE LL ZBV (ZBS m0) [(2, x2), (3, x3)] B
def ZsB := exec PP HH 91 m0 EE LL (l2 (l1 (l2 ZsC))) (ZP1 m0) [(0, x0), (2, x2), (3, x3)] B
theorem ZIZ : ZsA m0 x0 x2 x3 B =
 mk (ob (Z2l (shr x0)) fun a =>
 ob (xfld 5 a) fun b =>
 ob (xfld 0 b) fun c =>
 ob (ldN false 1 c B) fun d =>
 ob (xbin PP .eql 30 d (iv 0)) fun e =>
 asB e fun f => br f (ZBU m0 x0 x2 x3 (gcB m0 [x0, x2, x3] B))
 (Zpb m0 x2 x3 (gcB m0 [x2, x3] B))) := lq_ (by kernel_rfl)
theorem ZJ0 : ZBU m0 x0 x2 x3 B =
 mk (callS false EE 104 [(shr x0)] B fun a b =>
 mk (ob (xbin PP .eql 3 a (iv (-1))) fun c =>
 asB (shr c) fun d => br d (asB (shr c) fun e => br e (Zpb m0 x2 x3 (gcB m0 [x2, x3] b))
 (ZsB m0 x0 x2 x3 (gcB m0 [x0, x2, x3] b)))
 (mk (ob (xbin PP .eql 3 a (iv 124)) fun f =>
 asB (shr f) fun g => br g (asB (shr f) fun h => br h (Zpb m0 x2 x3 (gcB m0 [x2, x3] b))
 (ZsB m0 x0 x2 x3 (gcB m0 [x0, x2, x3] b)))
 (mk (ob (xbin PP .eql 3 a (iv 41)) fun i =>
 asB (shr i) fun j => br j (Zpb m0 x2 x3 (gcB m0 [x2, x3] b))
 (ZsB m0 x0 x2 x3 (gcB m0 [x0, x2, x3] b)))))))) := by kernel_rfl
theorem ZJ2 : Zpb m0 x2 x3 B =
 mk (callS false EE 92 [(iv 2), (shr x3)] B fun a b =>
 stN 7 x2 a b fun c =>
 Z9m x2 c) := by kernel_rfl
theorem ZJ1 : ZsB m0 x0 x2 x3 B =
 mk (callS false EE 105 [(shr x0)] B fun a b =>
 ob (xext 0 (shr a)) fun c =>
 ob (xext 1 (shr a)) fun d =>
 bz PP 98 b fun e f =>
 stN 7 e (shr c) f fun g =>
 mk (ob (ldN true 7 e g) fun h =>
 callS false EE 106 [(shr x0), h, (shr (shr (shr d)))] g fun i j =>
 ob (xlit PP 96 1 [(0, i)]) fun k =>
 ob (xapp 7 x3 k) fun l =>
 ZsA m0 x0 x2 l (gcB m0 [x0, x2, l] j))) := by kernel_rfl
theorem ZOZ : EE 91 [x0] B =
 (let m0 := B.length
 mk (bz PP 98 B fun a b =>
 mk (ZsA m0 x0 a nilA (gcB m0 [x0, a, nilA] (gcB m0 [x0, a, nilA] b))))) := (E_eq PP XX HH _ _ _).trans (by kernel_rfl)
noncomputable def ZPx := Z39 Tryz.f92
def ZP3 (m0 : Nat) : Kont := kret PP HH 92 Tryz.f92.results
def ZBW := exec PP HH 92 m0 EE LL (l2 (l2 ZPx)) (ZP3 m0) [(0, x0), (1, x1), (4, x4)] B
theorem ZJ3 : ZBW m0 x0 x1 x4 B =
 mk (ob (Z2a PP 98 [(0, (shr x0)), (6, (shr x1))]) fun a =>
 stN 7 x4 a B fun b =>
 Z9m x4 b) := by kernel_rfl
theorem ZP2 : EE 92 [x0, x1] B =
 (let m0 := B.length
 mk (bz PP 98 B fun a b =>
 mk (ob (xlen PP 96 (shr x1)) fun c =>
 mk (ob (xbin PP .eql 3 c (iv 0)) fun d =>
 asB (shr d) fun e => br e (mk (ob (Z2a PP 98 []) fun f =>
 stN 7 a f b fun g =>
 Z9m a g))
 (mk (ob (xbin PP .eql 3 c (iv 1)) fun h =>
 asB (shr h) fun i => br i (mk (ob (xidx 7 (shr x1) (iv 0)) fun j =>
 ob (ldN true 7 j b) fun k =>
 stN 7 a k b fun l =>
 Z9m a l))
 (ZBW m0 x0 x1 a (gcB m0 [x0, x1, a] b)))))))) := (E_eq PP XX HH _ _ _).trans (by kernel_rfl)
noncomputable def ZGx := Z39 Tryz.f93
def ZC1 := l2 (l2 ZGx)
def ZwQ := l1 (l1 (l2 (l1 (l2 (l2 (l2 (l2 (l2 (l1 (l2 (l1 (l2 ZGx))))))))))))
def ZwR := l1 (l1 (l2 (l2 (l1 (l2 (l2 (l2 (l2 (l2 (l2 (l2 (l1 (l2 (l1 (l2 ZGx)))))))))))))))
def Zpd := l2 (l2 ZwR)
def Z8D (r0 r1 : AV) (B : List Row) : Option Res :=
 ob (ob (some r0) fun v => ob (ob (some r1) fun v => ob (some []) fun vs => some (v :: vs)) fun vs => some (v :: vs)) fun vs => some ((nrmA (match vs with | [v] => v | vs => Z8h (vs.map shr))), B)
def ZBX (m0 : Nat) : Kont := kret PP HH 93 Tryz.f93.results
def ZP5 := kseq HH 93 m0 ZC1 (exec PP HH 93 m0 EE LL ZC1 (ZBX m0)) (ZBX m0)
def ZJ4 := kblk 0 (ZP5 m0)
def ZBY := kblk 1 (ZJ4 m0)
def ZBZ := kblk 3 (ZJ4 m0)
def ZP6 := kloop HH 93 m0 ZwQ (LL 93 m0 ZwQ (ZBY m0)) (ZBY m0)
def ZwP := kloop HH 93 m0 ZwR (LL 93 m0 ZwR (ZBZ m0)) (ZBZ m0)
def ZP7 := kseq HH 93 m0 (l2 Zpd) (exec PP HH 93 m0 EE LL (l2 Zpd) (ZwP m0)) (ZwP m0)
def ZJ5 := kblk 4 (ZP7 m0)
def ZsD := lp (LL 93 m0 ZwQ (ZBY m0) [(2, x2), (3, x3), (23, x23), (24, x24), (25, x25)] B)
def Zpc := lp (LL 93 m0 ZwR (ZBZ m0) [(2, x2), (3, x3), (45, x45), (46, x46), (47, x47)] B)
def Zmq := exec PP HH 93 m0 EE LL ZC1 (ZBX m0) [(2, x2), (3, x3)] B
def ZC0 := exec PP HH 93 m0 EE LL (l2 (l2 ZwQ)) (ZP6 m0) [(2, x2), (3, x3), (23, x23), (24, x24), (25, x25)] B
def Zzv := exec PP HH 93 m0 EE LL Zpd (ZwP m0) [(2, x2), (3, x3), (45, x45), (46, x46), (47, x47)] B
def Zu3 := exec PP HH 93 m0 EE LL (l1 (l2 (l2 (l2 (l2 (l1 (l1 Zpd))))))) (ZJ5 m0) [(2, x2), (45, x45), (46, x46), (47, x47)] B
def Zzw := exec PP HH 93 m0 EE LL (l2 (l2 (l2 (l2 (l2 (l1 (l1 Zpd))))))) (ZJ5 m0) [(2, x2), (3, x3), (11, x11), (45, x45), (46, x46), (47, x47)] B
def Zu4 := exec PP HH 93 m0 EE LL (l2 Zpd) (ZwP m0) [(2, x2), (3, x3), (45, x45), (46, x46), (47, x47)] B
theorem ZJ6 : ZsD m0 x2 x3 x23 x24 x25 B =
 mk (ob (xbin PP .lss 3 x25 x24) fun a =>
 asB a fun b => br b (ZC0 m0 x2 x3 x23 x24 x25 (gcB m0 [x2, x3, x23, x24, x25] B))
 (Zmq m0 x2 x3 (gcB m0 [x2, x3] B))) := lq_ (by kernel_rfl)
theorem ZGy : Zpc m0 x2 x3 x45 x46 x47 B =
 mk (ob (xbin PP .lss 3 x47 x46) fun a =>
 asB a fun b => br b (Zzv m0 x2 x3 x45 x46 x47 (gcB m0 [x2, x3, x45, x46, x47] B))
 (Zmq m0 x2 x3 (gcB m0 [x2, x3] B))) := lq_ (by kernel_rfl)
theorem ZGD : Zmq m0 x2 x3 B =
 mk (Z8D (shr (shr x2)) (shr (shr x3)) B) := by kernel_rfl
theorem ZJ7 : ZC0 m0 x2 x3 x23 x24 x25 B =
 mk (ob (xidx 7 x23 x25) fun a =>
 ob (ldN true 7 a B) fun b =>
 bz PP 98 B fun c d =>
 stN 7 c b d fun e =>
 mk (ob (ldN true 7 c e) fun f =>
 callS false EE 93 [f] e fun g h =>
 ob (xext 0 (shr g)) fun i =>
 ob (xext 1 (shr g)) fun j =>
 mk (ob (xbin PP .add 3 (shr x2) (shr (shr (shr i)))) fun k =>
 ob (Z9q PP false [k, (iv 1048576)]) fun l =>
 callS false EE 107 [(shr x3), (shr (shr (shr j)))] h fun n o =>
 mk (ob (xbin PP .add 3 x25 (iv 1)) fun p =>
 ZsD m0 (shr l) (shr n) x23 x24 (shr p) (gcB m0 [(shr l), (shr n), x23, x24, (shr p)] o))))) := by kernel_rfl
theorem ZGz : Zzv m0 x2 x3 x45 x46 x47 B =
 mk (ob (xidx 7 x45 x47) fun a =>
 ob (ldN true 7 a B) fun b =>
 bz PP 98 B fun c d =>
 stN 7 c b d fun e =>
 mk (ob (ldN true 7 c e) fun f =>
 callS false EE 93 [f] e fun g h =>
 ob (xext 0 (shr g)) fun i =>
 ob (xext 1 (shr g)) fun j =>
 mk (ob (Z9q PP false [(shr x2), (shr (shr (shr i)))]) fun k =>
 mk (ob (xbin PP .lss 3 (shr (shr (shr j))) (iv 0)) fun l =>
 asB (shr l) fun n => br n (Zu3 m0 (shr k) x45 x46 x47 (gcB m0 [(shr k), x45, x46, x47] h))
 (ob (xbin PP .lss 3 (shr x3) (iv 0)) fun o =>
 asB (shr o) fun p => br p (Zu3 m0 (shr k) x45 x46 x47 (gcB m0 [(shr k), x45, x46, x47] h))
 (Zzw m0 (shr k) x3 (shr (shr j)) x45 x46 x47 (gcB m0 [(shr k), x3, (shr (shr j)), x45, x46, x47] h))))))) := by kernel_rfl
theorem ZGA : Zu3 m0 x2 x45 x46 x47 B =
 mk (Zu4 m0 x2 (iv (-1)) x45 x46 x47 (gcB m0 [x2, (iv (-1)), x45, x46, x47] B)) := by kernel_rfl
theorem ZGB : Zzw m0 x2 x3 x11 x45 x46 x47 B =
 mk (ob (Z9q PP true [(shr x3), (shr x11)]) fun a =>
 Zu4 m0 x2 (shr a) x45 x46 x47 (gcB m0 [x2, (shr a), x45, x46, x47] B)) := by kernel_rfl
theorem ZGC : Zu4 m0 x2 x3 x45 x46 x47 B =
 mk (ob (xbin PP .add 3 x47 (iv 1)) fun a =>
 Zpc m0 x2 x3 x45 x46 (shr a) (gcB m0 [x2, x3, x45, x46, (shr a)] B)) := by kernel_rfl
theorem ZP4 : EE 93 [x0] B =
 (let m0 := B.length
 mk (bx x0 B fun a b =>
 mk (ob (xfld 0 a) fun c =>
 ob (ldN false 1 c b) fun d =>
 mk (ob (xbin PP .eql 3 d (iv 1)) fun e =>
 asB (shr e) fun f => br f (mk (Z8D (iv 1) (iv 1) b))
 (mk (ob (xbin PP .eql 3 d (iv 6)) fun g =>
 asB (shr g) fun h => br h (mk (Z8D (iv 0) (iv (-1)) b))
 (mk (ob (xbin PP .eql 3 d (iv 2)) fun i =>
 asB (shr i) fun j => br j (mk (ob (xfld 6 a) fun k =>
 ob (ldN false 1 k b) fun l =>
 ob (xlen PP 96 l) fun n =>
 ZsD m0 (iv 0) (iv 0) l n (iv 0) (gcB m0 [(iv 0), (iv 0), l, n, (iv 0)] b)))
 (mk (ob (xbin PP .eql 3 d (iv 3)) fun o =>
 asB (shr o) fun p => br p (mk (mk (ob (xfld 6 a) fun q =>
 ob (ldN false 1 q b) fun r =>
 ob (xlen PP 96 r) fun s =>
 Zpc m0 (iv 1048576) (iv 0) r s (iv 0) (gcB m0 [(iv 1048576), (iv 0), r, s, (iv 0)] b))))
 (mk (ob (xbin PP .eql 3 d (iv 4)) fun t =>
 asB (shr t) fun u => br u (mk (ob (xfld 6 a) fun v =>
 ob (ldN false 1 v b) fun w =>
 ob (xidx 7 w (iv 0)) fun x =>
 ob (ldN true 7 x b) fun y =>
 callS false EE 93 [y] b fun z A =>
 ob (xext 0 (shr z)) fun C =>
 ob (xext 1 (shr z)) fun D =>
 mk (ob (xfld 1 a) fun F =>
 ob (ldN false 1 F A) fun G =>
 ob (xbin PP .mul 3 (shr (shr (shr C))) G) fun I =>
 ob (Z9q PP false [I, (iv 1048576)]) fun J =>
 ob (xfld 2 a) fun M =>
 ob (ldN false 1 M A) fun N =>
 callS false EE 108 [(shr (shr (shr D))), N] A fun O Q =>
 grd (Zha [O, (shr (shr (shr D))), N]) (Z8D (shr J) (shr O) Q))))
 (mk (ob (xbin PP .eql 3 d (iv 5)) fun R =>
 asB (shr R) fun S => br S (asB (shr R) fun T => br T (mk (ob (xfld 6 a) fun U =>
 ob (ldN false 1 U b) fun V =>
 ob (xidx 7 V (iv 0)) fun W =>
 ob (ldN true 7 W b) fun Y =>
 callS false EE 93 [Y] b fun Z a0 =>
 ob (xext 0 Z) fun a1 =>
 ob (xext 1 Z) fun a2 =>
 Z8D (shr (shr a1)) (shr (shr a2)) a0))
 (Zmq m0 (iv 0) (iv 0) (gcB m0 [(iv 0), (iv 0)] b)))
 (mk (ob (xbin PP .eql 3 d (iv 8)) fun a3 =>
 asB (shr a3) fun a4 => br a4 (mk (ob (xfld 6 a) fun a5 =>
 ob (ldN false 1 a5 b) fun a6 =>
 ob (xidx 7 a6 (iv 0)) fun a7 =>
 ob (ldN true 7 a7 b) fun a8 =>
 callS false EE 93 [a8] b fun a9 a10 =>
 ob (xext 0 a9) fun a11 =>
 ob (xext 1 a9) fun a12 =>
 Z8D (shr (shr a11)) (shr (shr a12)) a10))
 (Zmq m0 (iv 0) (iv 0) (gcB m0 [(iv 0), (iv 0)] b)))))))))))))))))) := (E_eq PP XX HH _ _ _).trans (by kernel_rfl)
theorem ZP8 : EE 94 [x0, x1] B =
 (let m0 := B.length
 mk (mk (callS false EE 109 [(shr x0), (shr x1)] B fun a b =>
 ob (xbin PP .geq 3 a (iv 0)) fun c =>
 Z1j (shr c) b))) := (E_eq PP XX HH _ _ _).trans (by kernel_rfl)
theorem ZP9 : EE 95 [x0] B =
 (let m0 := B.length
 mk (bx x0 B fun a b =>
 mk (ob (ldN true 7 a b) fun c =>
 callS false EE 71 [c] b fun d e =>
 ob (xun PP .not d) fun f =>
 Z1j (shr f) e))) := (E_eq PP XX HH _ _ _).trans (by kernel_rfl)
noncomputable def ZNC := Z39 Tryz.f104
def ZLB (m0 : Nat) : Kont := kret PP HH 104 Tryz.f104.results
def ZxF := exec PP HH 104 m0 EE LL (l2 (l2 ZNC)) (ZLB m0) [(0, x0)] B
theorem ZEZ : ZxF m0 x0 B =
 mk (ob (Z2l (shr x0)) fun a =>
 ob (xfld 0 a) fun b =>
 ob (ldN false 1 b B) fun c =>
 ob (Z2l (shr x0)) fun d =>
 ob (xfld 1 d) fun e =>
 ob (ldN false 1 e B) fun f =>
 callS false EE 126 [c, f] B fun g h =>
 ob (xext 0 (shr g)) fun i =>
 ob (xext 1 (shr g)) fun j =>
 mk (Z1j (shr (shr (shr (shr i)))) h)) := by kernel_rfl
theorem ZLA : EE 104 [x0] B =
 (let m0 := B.length
 mk (mk (ob (Z2l (shr x0)) fun a =>
 ob (xfld 1 a) fun b =>
 ob (ldN false 1 b B) fun c =>
 ob (Z2l (shr x0)) fun d =>
 ob (xfld 0 d) fun e =>
 ob (ldN false 1 e B) fun f =>
 ob (xlen PP 141 f) fun g =>
 ob (xbin PP .geq 3 c g) fun h =>
 asB h fun i => br i (mk (Z1j (iv (-1)) B))
 (ZxF m0 x0 (gcB m0 [x0] B))))) := (E_eq PP XX HH _ _ _).trans (by kernel_rfl)
noncomputable def ZND := Z39 Tryz.f105
def Z6z (r0 r1 : AV) (B : List Row) : Option Res :=
 ob (ob (ldN true 7 r0 B) fun v => ob (ob (some r1) fun v => ob (some []) fun vs => some (v :: vs)) fun vs => some (v :: vs)) fun vs => some ((nrmA (match vs with | [v] => v | vs => Z8h (vs.map shr))), B)
def ZLD (m0 : Nat) : Kont := kret PP HH 105 Tryz.f105.results
def Z9d := exec PP HH 105 m0 EE LL (l2 (l2 (l2 ZND))) (ZLD m0) [(2, x2)] B
theorem ZDl : Z9d m0 x2 B =
 mk (ob (Z2a PP 98 []) fun a =>
 stN 7 x2 a B fun b =>
 Z6z x2 (bv true) b) := by kernel_rfl
theorem ZLC : EE 105 [x0] B =
 (let m0 := B.length
 mk (bz PP 98 B fun a b =>
 mk (ob (Z2l (shr x0)) fun c =>
 ob (xfld 1 c) fun d =>
 ob (ldN false 1 d b) fun e =>
 mk (callS false EE 127 [(shr x0)] b fun f g =>
 mk (mk (ob (xbin PP .eql 3 (shr (shr f)) (iv 46)) fun h =>
 asB (shr h) fun i => br i (mk (callS false EE 129 [(iv 10)] g fun j k =>
 ob (xlit PP 94 1 [(0, j)]) fun l =>
 callS false EE 128 [(bv true), l] k fun n o =>
 stN 7 a n o fun p =>
 Z6z a (bv true) p))
 (mk (ob (xbin PP .eql 3 (shr (shr f)) (iv 94)) fun q =>
 asB (shr q) fun r => br r (mk (ob (Z2a PP 98 [(0, (iv 9)), (4, (iv 0))]) fun s =>
 stN 7 a s g fun t =>
 Z6z a (bv false) t))
 (mk (ob (xbin PP .eql 3 (shr (shr f)) (iv 36)) fun u =>
 asB (shr u) fun v => br v (mk (ob (Z2a PP 98 [(0, (iv 9)), (4, (iv 1))]) fun w =>
 stN 7 a w g fun x =>
 Z6z a (bv false) x))
 (mk (ob (xbin PP .eql 3 (shr (shr f)) (iv 92)) fun y =>
 asB (shr y) fun z => br z (mk (callS false EE 130 [(shr x0), (shr (shr e))] g fun A C =>
 bz PP 98 C fun D F =>
 stN 7 D A F fun G =>
 mk (ob (ldN true 7 D G) fun I =>
 ob (xfld 0 D) fun J =>
 ob (ldN false 1 J G) fun M =>
 ob (xbin PP .neq 3 M (iv 9)) fun N =>
 stN 7 a I G fun O =>
 grd (Z7I J a) (Z6z a (shr N) O))))
 (mk (ob (xbin PP .eql 3 (shr (shr f)) (iv 91)) fun Q =>
 asB (shr Q) fun R => br R (mk (callS false EE 131 [(shr x0), (shr (shr e))] g fun S T =>
 stN 7 a S T fun U =>
 Z6z a (bv true) U))
 (mk (ob (xbin PP .eql 3 (shr (shr f)) (iv 40)) fun V =>
 asB (shr V) fun W => br W (mk (callS false EE 132 [(shr x0), (shr (shr e))] g fun Y Z =>
 ob (xext 0 Y) fun a0 =>
 ob (xext 1 Y) fun a1 =>
 stN 7 a (shr a0) Z fun a2 =>
 Z6z a (shr (shr a1)) a2))
 (mk (ob (xbin PP .eql 3 (shr (shr f)) (iv 42)) fun a3 =>
 asB (shr a3) fun a4 => br a4 (asB (shr a3) fun a5 => br a5 (mk (callS false EE 70 [(shr x0), (iv 23), (shr (shr e))] g fun a6 a7 =>
 Z9d m0 a (gcB m0 [a] a7)))
 (mk (ob (xbin PP .eql 3 (shr (shr f)) (iv 93)) fun a8 =>
 asB (shr a8) fun a9 => br a9 (asB (shr a8) fun a10 => br a10 (mk (callS false EE 70 [(shr x0), (iv 20), (shr (shr e))] g fun a11 a12 =>
 Z9d m0 a (gcB m0 [a] a12)))
 (mk (callS false EE 129 [(shr (shr f))] g fun a13 a14 =>
 ob (xlit PP 94 1 [(0, a13)]) fun a15 =>
 callS false EE 128 [(bv false), a15] a14 fun a16 a17 =>
 stN 7 a a16 a17 fun a18 =>
 Z6z a (bv true) a18)))
 (mk (ob (xbin PP .eql 3 (shr (shr f)) (iv 125)) fun a19 =>
 asB (shr a19) fun a20 => br a20 (mk (callS false EE 70 [(shr x0), (iv 20), (shr (shr e))] g fun a21 a22 =>
 Z9d m0 a (gcB m0 [a] a22)))
 (mk (callS false EE 129 [(shr (shr f))] g fun a23 a24 =>
 ob (xlit PP 94 1 [(0, a23)]) fun a25 =>
 callS false EE 128 [(bv false), a25] a24 fun a26 a27 =>
 stN 7 a a26 a27 fun a28 =>
 Z6z a (bv true) a28)))))))
 (mk (ob (xbin PP .eql 3 (shr (shr f)) (iv 43)) fun a29 =>
 asB (shr a29) fun a30 => br a30 (asB (shr a29) fun a31 => br a31 (mk (callS false EE 70 [(shr x0), (iv 23), (shr (shr e))] g fun a32 a33 =>
 Z9d m0 a (gcB m0 [a] a33)))
 (mk (ob (xbin PP .eql 3 (shr (shr f)) (iv 93)) fun a34 =>
 asB (shr a34) fun a35 => br a35 (asB (shr a34) fun a36 => br a36 (mk (callS false EE 70 [(shr x0), (iv 20), (shr (shr e))] g fun a37 a38 =>
 Z9d m0 a (gcB m0 [a] a38)))
 (mk (callS false EE 129 [(shr (shr f))] g fun a39 a40 =>
 ob (xlit PP 94 1 [(0, a39)]) fun a41 =>
 callS false EE 128 [(bv false), a41] a40 fun a42 a43 =>
 stN 7 a a42 a43 fun a44 =>
 Z6z a (bv true) a44)))
 (mk (ob (xbin PP .eql 3 (shr (shr f)) (iv 125)) fun a45 =>
 asB (shr a45) fun a46 => br a46 (mk (callS false EE 70 [(shr x0), (iv 20), (shr (shr e))] g fun a47 a48 =>
 Z9d m0 a (gcB m0 [a] a48)))
 (mk (callS false EE 129 [(shr (shr f))] g fun a49 a50 =>
 ob (xlit PP 94 1 [(0, a49)]) fun a51 =>
 callS false EE 128 [(bv false), a51] a50 fun a52 a53 =>
 stN 7 a a52 a53 fun a54 =>
 Z6z a (bv true) a54)))))))
 (mk (ob (xbin PP .eql 3 (shr (shr f)) (iv 63)) fun a55 =>
 asB (shr a55) fun a56 => br a56 (asB (shr a55) fun a57 => br a57 (mk (callS false EE 70 [(shr x0), (iv 23), (shr (shr e))] g fun a58 a59 =>
 Z9d m0 a (gcB m0 [a] a59)))
 (mk (ob (xbin PP .eql 3 (shr (shr f)) (iv 93)) fun a60 =>
 asB (shr a60) fun a61 => br a61 (asB (shr a60) fun a62 => br a62 (mk (callS false EE 70 [(shr x0), (iv 20), (shr (shr e))] g fun a63 a64 =>
 Z9d m0 a (gcB m0 [a] a64)))
 (mk (callS false EE 129 [(shr (shr f))] g fun a65 a66 =>
 ob (xlit PP 94 1 [(0, a65)]) fun a67 =>
 callS false EE 128 [(bv false), a67] a66 fun a68 a69 =>
 stN 7 a a68 a69 fun a70 =>
 Z6z a (bv true) a70)))
 (mk (ob (xbin PP .eql 3 (shr (shr f)) (iv 125)) fun a71 =>
 asB (shr a71) fun a72 => br a72 (mk (callS false EE 70 [(shr x0), (iv 20), (shr (shr e))] g fun a73 a74 =>
 Z9d m0 a (gcB m0 [a] a74)))
 (mk (callS false EE 129 [(shr (shr f))] g fun a75 a76 =>
 ob (xlit PP 94 1 [(0, a75)]) fun a77 =>
 callS false EE 128 [(bv false), a77] a76 fun a78 a79 =>
 stN 7 a a78 a79 fun a80 =>
 Z6z a (bv true) a80)))))))
 (mk (ob (xbin PP .eql 3 (shr (shr f)) (iv 123)) fun a81 =>
 asB (shr a81) fun a82 => br a82 (mk (callS false EE 70 [(shr x0), (iv 23), (shr (shr e))] g fun a83 a84 =>
 Z9d m0 a (gcB m0 [a] a84)))
 (mk (ob (xbin PP .eql 3 (shr (shr f)) (iv 93)) fun a85 =>
 asB (shr a85) fun a86 => br a86 (asB (shr a85) fun a87 => br a87 (mk (callS false EE 70 [(shr x0), (iv 20), (shr (shr e))] g fun a88 a89 =>
 Z9d m0 a (gcB m0 [a] a89)))
 (mk (callS false EE 129 [(shr (shr f))] g fun a90 a91 =>
 ob (xlit PP 94 1 [(0, a90)]) fun a92 =>
 callS false EE 128 [(bv false), a92] a91 fun a93 a94 =>
 stN 7 a a93 a94 fun a95 =>
 Z6z a (bv true) a95)))
 (mk (ob (xbin PP .eql 3 (shr (shr f)) (iv 125)) fun a96 =>
 asB (shr a96) fun a97 => br a97 (mk (callS false EE 70 [(shr x0), (iv 20), (shr (shr e))] g fun a98 a99 =>
 Z9d m0 a (gcB m0 [a] a99)))
 (mk (callS false EE 129 [(shr (shr f))] g fun a100 a101 =>
 ob (xlit PP 94 1 [(0, a100)]) fun a102 =>
 callS false EE 128 [(bv false), a102] a101 fun a103 a104 =>
 stN 7 a a103 a104 fun a105 =>
 Z6z a (bv true) a105)))))))))))))))))))))))))))))) := (E_eq PP XX HH _ _ _).trans (by kernel_rfl)
noncomputable def ZNE := Z39 Tryz.f106
def ZxH := l2 (l2 (l2 (l2 ZNE)))
def ZxG (m0 : Nat) : Kont := kret PP HH 106 Tryz.f106.results
def ZjS := exec PP HH 106 m0 EE LL ZxH (ZxG m0) [(0, x0), (2, x2), (6, x6), (7, x7), (8, x8)] B
def Zqb := exec PP HH 106 m0 EE LL (l2 ZxH) (ZxG m0) [(0, x0), (6, x6), (8, x8)] B
def ZmD := exec PP HH 106 m0 EE LL (l2 (l2 ZxH)) (ZxG m0) [(6, x6), (8, x8)] B
theorem ZDm : ZjS m0 x0 x2 x6 x7 x8 B =
 mk (ob (xun PP .not (shr x2)) fun a =>
 asB a fun b => br b (mk (callS false EE 70 [(shr x0), (iv 23), (shr x7)] B fun c d =>
 Zqb m0 x0 x6 x8 (gcB m0 [x0, x6, x8] d)))
 (Zqb m0 x0 x6 x8 (gcB m0 [x0, x6, x8] B))) := by kernel_rfl
theorem ZDn : Zqb m0 x0 x6 x8 B =
 mk (callS false EE 68 [(shr x0), (.p (.v (.string (ByteArray.mk #[63]))))] B fun a b =>
 asB (shr a) fun c => br c (mk (ob (xfld 3 x8) fun d =>
 stN 1 d (iv 1) b fun e =>
 ZmD m0 x6 x8 (gcB m0 [x6, x8] e)))
 (mk (callS false EE 68 [(shr x0), (.p (.v (.string (ByteArray.mk #[43]))))] b fun f g =>
 asB (shr f) fun h => br h (mk (ob (xfld 3 x8) fun i =>
 stN 1 i (iv 2) g fun j =>
 ZmD m0 x6 x8 (gcB m0 [x6, x8] j)))
 (ZmD m0 x6 x8 (gcB m0 [x6, x8] g))))) := by kernel_rfl
theorem ZDo : ZmD m0 x6 x8 B =
 mk (ob (ldN true 7 x8 B) fun a =>
 stN 7 x6 a B fun b =>
 Z9m x6 b) := by kernel_rfl
theorem ZLE : EE 106 [x0, x1, x2] B =
 (let m0 := B.length
 mk (bx x1 B fun a b =>
 bz PP 98 b fun c d =>
 mk (ob (Z2l (shr x0)) fun e =>
 ob (xfld 1 e) fun f =>
 ob (ldN false 1 f d) fun g =>
 mk (ob (ldN true 7 a d) fun h =>
 ob (xlit PP 96 1 [(0, h)]) fun i =>
 ob (Z2a PP 98 [(0, (iv 4)), (2, (iv (-1))), (6, i)]) fun j =>
 bz PP 98 d fun k l =>
 stN 7 k j l fun n =>
 mk (callS false EE 68 [(shr x0), (.p (.v (.string (ByteArray.mk #[42]))))] n fun o q =>
 asB (shr o) fun r => br r (ZjS m0 x0 x2 c (shr g) k (gcB m0 [x0, x2, c, (shr g), k] q))
 (mk (callS false EE 68 [(shr x0), (.p (.v (.string (ByteArray.mk #[43]))))] q fun s t =>
 asB (shr s) fun u => br u (mk (ob (xfld 1 k) fun w =>
 stN 1 w (iv 1) t fun x =>
 ZjS m0 x0 x2 c (shr g) k (gcB m0 [x0, x2, c, (shr g), k] x)))
 (mk (callS false EE 68 [(shr x0), (.p (.v (.string (ByteArray.mk #[63]))))] t fun y z =>
 asB (shr y) fun A => br A (mk (ob (xfld 2 k) fun C =>
 stN 1 C (iv 1) z fun D =>
 ZjS m0 x0 x2 c (shr g) k (gcB m0 [x0, x2, c, (shr g), k] D)))
 (mk (callS false EE 68 [(shr x0), (.p (.v (.string (ByteArray.mk #[123]))))] z fun F G =>
 asB (shr F) fun I => br I (mk (callS false EE 133 [(shr x0), (shr (shr g))] G fun J M =>
 ob (xext 0 (shr J)) fun N =>
 ob (xext 1 (shr J)) fun O =>
 ob (xfld 1 k) fun Q =>
 stN 1 Q (shr N) M fun R =>
 ob (xfld 2 k) fun S =>
 stN 1 S (shr O) R fun T =>
 ZjS m0 x0 x2 c (shr g) k (gcB m0 [x0, x2, c, (shr g), k] T)))
 (mk (ob (ldN true 7 a G) fun U =>
 stN 7 c U G fun V =>
 Z9m c V))))))))))))) := (E_eq PP XX HH _ _ _).trans (by kernel_rfl)
noncomputable def ZHx := Z39 Tryz.f107
def ZxK := l2 (l2 ZHx)
def ZxI (m0 : Nat) : Kont := kret PP HH 107 Tryz.f107.results
def ZLG := kseq HH 107 m0 ZxK (exec PP HH 107 m0 EE LL ZxK (ZxI m0)) (ZxI m0)
def Ztv := exec PP HH 107 m0 EE LL (l1 (l2 (l1 (l2 ZHx)))) (ZLG m0) [] B
def ZxJ := exec PP HH 107 m0 EE LL ZxK (ZxI m0) [(0, x0), (1, x1)] B
theorem ZF0 : Ztv m0 B =
 mk (Z1j (iv (-1)) B) := by kernel_rfl
theorem ZF1 : ZxJ m0 x0 x1 B =
 mk (ob (xbin PP .add 3 (shr x0) (shr x1)) fun a =>
 callS false EE 134 [a] B fun b c =>
 Z1j (shr b) c) := by kernel_rfl
theorem ZLF : EE 107 [x0, x1] B =
 (let m0 := B.length
 mk (mk (ob (xbin PP .lss 3 (shr x0) (iv 0)) fun a =>
 asB (shr a) fun b => br b (Ztv m0 (gcB m0 [] B))
 (ob (xbin PP .lss 3 (shr x1) (iv 0)) fun c =>
 asB (shr c) fun d => br d (Ztv m0 (gcB m0 [] B))
 (ZxJ m0 x0 x1 (gcB m0 [x0, x1] B)))))) := (E_eq PP XX HH _ _ _).trans (by kernel_rfl)
noncomputable def ZAC := Z39 Tryz.f108
def ZxP := l2 (l2 ZAC)
def ZE9 := l2 (l2 (l1 (l1 (l2 ZAC))))
def ZxL (m0 : Nat) : Kont := kret PP HH 108 Tryz.f108.results
def ZLI := kseq HH 108 m0 ZxP (exec PP HH 108 m0 EE LL ZxP (ZxL m0)) (ZxL m0)
def ZxM := kblk 0 (ZLI m0)
def Ztw := exec PP HH 108 m0 EE LL (l1 (l2 (l1 (l1 (l2 ZAC))))) (ZxM m0) [] B
def ZxN := exec PP HH 108 m0 EE LL ZE9 (ZxM m0) [(0, x0), (1, x1)] B
def Ztx := exec PP HH 108 m0 EE LL (l1 (l2 ZE9)) (ZxM m0) [] B
def ZxO := exec PP HH 108 m0 EE LL ZxP (ZxL m0) [(0, x0), (1, x1)] B
theorem ZF2 : Ztw m0 B =
 mk (Z1j (iv 0) B) := by kernel_rfl
theorem ZF3 : ZxN m0 x0 x1 B =
 mk (ob (xbin PP .lss 3 (shr x0) (iv 0)) fun a =>
 asB (shr a) fun b => br b (Ztx m0 (gcB m0 [] B))
 (ob (xbin PP .lss 3 (shr x1) (iv 0)) fun c =>
 asB (shr (shr c)) fun d => br d (Ztx m0 (gcB m0 [] B))
 (ZxO m0 x0 x1 (gcB m0 [x0, x1] B)))) := by kernel_rfl
theorem ZF4 : Ztx m0 B =
 mk (Z1j (iv (-1)) B) := by kernel_rfl
theorem ZF5 : ZxO m0 x0 x1 B =
 mk (ob (xbin PP .mul 3 (shr x0) (shr x1)) fun a =>
 callS false EE 134 [a] B fun b c =>
 Z1j (shr b) c) := by kernel_rfl
theorem ZLH : EE 108 [x0, x1] B =
 (let m0 := B.length
 mk (mk (ob (xbin PP .eql 3 (shr x0) (iv 0)) fun a =>
 asB (shr a) fun b => br b (Ztw m0 (gcB m0 [] B))
 (ob (xbin PP .eql 3 (shr x1) (iv 0)) fun c =>
 asB (shr (shr c)) fun d => br d (Ztw m0 (gcB m0 [] B))
 (ZxN m0 x0 x1 (gcB m0 [x0, x1] B)))))) := (E_eq PP XX HH _ _ _).trans (by kernel_rfl)
noncomputable def ZHy := Z39 Tryz.f109
def ZxV := l2 (l2 ZHy)
def Zty := l1 (l1 (l2 (l1 (l2 ZHy))))
def ZEb := l2 (l2 Zty)
def ZxQ (m0 : Nat) : Kont := kret PP HH 109 Tryz.f109.results
def ZLK := kseq HH 109 m0 ZxV (exec PP HH 109 m0 EE LL ZxV (ZxQ m0)) (ZxQ m0)
def ZxR := kblk 0 (ZLK m0)
def ZEa := kloop HH 109 m0 Zty (LL 109 m0 Zty (ZxR m0)) (ZxR m0)
def ZoO := lp (LL 109 m0 Zty (ZxR m0) [(0, x0), (1, x1), (7, x7), (8, x8)] B)
def ZxS := exec PP HH 109 m0 EE LL ZEb (ZEa m0) [(0, x0), (1, x1), (7, x7), (8, x8)] B
def ZxU := exec PP HH 109 m0 EE LL ZxV (ZxQ m0) [] B
def ZxT := exec PP HH 109 m0 EE LL (l2 ZEb) (ZEa m0) [(0, x0), (1, x1), (7, x7), (8, x8)] B
theorem ZF6 : ZoO m0 x0 x1 x7 x8 B =
 mk (ob (xbin PP .lss 3 x8 x7) fun a =>
 asB a fun b => br b (ZxS m0 x0 x1 x7 x8 (gcB m0 [x0, x1, x7, x8] B))
 (ZxU m0 (gcB m0 [] B))) := lq_ (by kernel_rfl)
theorem ZF7 : ZxS m0 x0 x1 x7 x8 B =
 mk (mk (ob (xidx 7 (shr x0) (shr (shr (shr x8)))) fun a =>
 ob (ldN true 7 a B) fun b =>
 callV HH EE (shr x1) [b] B fun c d =>
 asB c fun e => br e (mk (Z1j (shr (shr (shr (shr x8)))) d))
 (ZxT m0 x0 x1 x7 x8 (gcB m0 [x0, x1, x7, x8] d)))) := by kernel_rfl
theorem ZF9 : ZxU m0 B =
 mk (Z1j (iv (-1)) B) := by kernel_rfl
theorem ZF8 : ZxT m0 x0 x1 x7 x8 B =
 mk (ob (xbin PP .add 3 x8 (iv 1)) fun a =>
 ZoO m0 x0 x1 x7 (shr a) (gcB m0 [x0, x1, x7, (shr a)] B)) := by kernel_rfl
theorem ZLJ : EE 109 [x0, x1] B =
 (let m0 := B.length
 mk (mk (ob (xlen PP 96 (shr x0)) fun a =>
 ZoO m0 x0 x1 a (iv 0) (gcB m0 [x0, x1, a, (iv 0)] B)))) := (E_eq PP XX HH _ _ _).trans (by kernel_rfl)
noncomputable def ZHG := Z39 Tryz.f126
def ZoP := l2 (l2 ZHG)
def Zy1 := l2 (l2 ZoP)
def Zml (m0 : Nat) : Kont := kret PP HH 126 Tryz.f126.results
def ZLM := kseq HH 126 m0 ZoP (exec PP HH 126 m0 EE LL ZoP (Zml m0)) (Zml m0)
def ZLN := kseq HH 126 m0 Zy1 (exec PP HH 126 m0 EE LL Zy1 (Zml m0)) (Zml m0)
def ZtA := exec PP HH 126 m0 EE LL (l1 (l2 (l1 (l2 ZHG)))) (ZLM m0) [] B
def ZxZ := exec PP HH 126 m0 EE LL ZoP (Zml m0) [(0, x0), (1, x1)] B
def Zy0 := exec PP HH 126 m0 EE LL (l1 (l2 (l1 (l2 ZoP)))) (ZLN m0) [(0, x0), (1, x1)] B
def ZtB := exec PP HH 126 m0 EE LL Zy1 (Zml m0) [(6, x6), (7, x7)] B
theorem ZFf : ZtA m0 B =
 mk (Z8D (iv 0) (iv 0) B) := by kernel_rfl
theorem ZFg : ZxZ m0 x0 x1 B =
 mk (ob (xsl 1 (shr x0) (some (shr x1)) none none) fun a =>
 callS false EE 146 [a] B fun b c =>
 ob (xext 0 (shr b)) fun d =>
 ob (xext 1 (shr b)) fun e =>
 mk (ob (xbin PP .eql 21 (shr (shr (shr d))) (kv .i32 65533)) fun f =>
 asB (shr f) fun g => br g (ob (xbin PP .eql 3 (shr (shr (shr e))) (iv 1)) fun h =>
 asB (shr h) fun i => br i (Zy0 m0 x0 x1 (gcB m0 [x0, x1] c))
 (ZtB m0 (shr (shr d)) (shr (shr e)) (gcB m0 [(shr (shr d)), (shr (shr e))] c)))
 (ZtB m0 (shr (shr d)) (shr (shr e)) (gcB m0 [(shr (shr d)), (shr (shr e))] c)))) := by kernel_rfl
theorem ZFh : Zy0 m0 x0 x1 B =
 mk (ob (xidx 1 (shr x0) (shr x1)) fun a =>
 ob (ldN false 1 a B) fun b =>
 ob (xcnv PP 5 3 b) fun c =>
 ob (xbin PP .add 3 (iv 1114112) c) fun d =>
 Z8D (shr d) (iv 1) B) := by kernel_rfl
theorem ZFi : ZtB m0 x6 x7 B =
 mk (ob (xcnv PP 21 3 (shr x6)) fun a =>
 Z8D (shr a) (shr (shr x7)) B) := by kernel_rfl
theorem ZLL : EE 126 [x0, x1] B =
 (let m0 := B.length
 mk (mk (ob (xbin PP .lss 3 (shr x1) (iv 0)) fun a =>
 asB (shr a) fun b => br b (ZtA m0 (gcB m0 [] B))
 (ob (xlen PP 141 (shr x0)) fun c =>
 ob (xbin PP .geq 3 (shr x1) c) fun d =>
 asB (shr d) fun e => br e (ZtA m0 (gcB m0 [] B))
 (ZxZ m0 x0 x1 (gcB m0 [x0, x1] B)))))) := (E_eq PP XX HH _ _ _).trans (by kernel_rfl)
theorem ZLO : EE 127 [x0] B =
 (let m0 := B.length
 mk (mk (ob (Z2l (shr x0)) fun a =>
 ob (xfld 0 a) fun b =>
 ob (ldN false 1 b B) fun c =>
 ob (Z2l (shr x0)) fun d =>
 ob (xfld 1 d) fun e =>
 ob (ldN false 1 e B) fun f =>
 callS false EE 126 [c, f] B fun g h =>
 ob (xext 0 (shr g)) fun i =>
 ob (xext 1 (shr g)) fun j =>
 mk (ob (Z2l (shr x0)) fun k =>
 ob (xfld 1 k) fun l =>
 ob (ldN false 1 l h) fun n =>
 ob (xbin PP .add 3 n (shr (shr (shr j)))) fun o =>
 ob (Z2l (shr x0)) fun p =>
 ob (xfld 1 p) fun q =>
 stN 1 q o h fun r =>
 mk (Z1j (shr (shr (shr (shr i)))) r))))) := (E_eq PP XX HH _ _ _).trans (by kernel_rfl)
noncomputable def ZNJ := Z39 Tryz.f128
def ZLQ (m0 : Nat) : Kont := kret PP HH 128 Tryz.f128.results
def ZtC := exec PP HH 128 m0 EE LL (l2 (l2 (l2 ZNJ))) (ZLQ m0) [(4, x4), (5, x5)] B
theorem ZFj : ZtC m0 x4 x5 B =
 mk (ob (Z2a PP 98 [(0, (iv 1)), (5, (shr x5))]) fun a =>
 stN 7 x4 a B fun b =>
 Z9m x4 b) := by kernel_rfl
theorem ZLP : EE 128 [x0, x1] B =
 (let m0 := B.length
 mk (bz PP 98 B fun a b =>
 mk (callS false EE 147 [(shr x1)] b fun c d =>
 ob (xext 0 (shr c)) fun e =>
 ob (xext 1 (shr c)) fun f =>
 mk (asB (shr x0) fun g => br g (mk (callS false EE 148 [(shr (shr (shr e)))] d fun h i =>
 ob (xext 0 (shr h)) fun j =>
 ob (xext 1 (shr h)) fun k =>
 ZtC m0 a (shr (shr j)) (gcB m0 [a, (shr (shr j))] i)))
 (ZtC m0 a (shr (shr e)) (gcB m0 [a, (shr (shr e))] d)))))) := (E_eq PP XX HH _ _ _).trans (by kernel_rfl)
def ZK8 (r0 : AV) (B : List Row) : Option Res :=
 ob (ob (ldN true 2 r0 B) fun v => ob (some []) fun vs => some (v :: vs)) fun vs => some ((nrmA (match vs with | [v] => v | vs => Z8h (vs.map shr))), B)
theorem ZLR : EE 129 [x0] B =
 (let m0 := B.length
 mk (bz PP 201 B fun a b =>
 mk (ob (Z2a PP 201 [(0, (shr x0)), (1, (shr x0))]) fun c =>
 stN 2 a c b fun d =>
 ZK8 a d))) := (E_eq PP XX HH _ _ _).trans (by kernel_rfl)
noncomputable def ZNK := Z39 Tryz.f130
def Zy3 := l2 (l2 (l2 ZNK))
def Zy4 := l2 (l2 Zy3)
def ZtD (m0 : Nat) : Kont := kret PP HH 130 Tryz.f130.results
def ZLT := kseq HH 130 m0 Zy4 (exec PP HH 130 m0 EE LL Zy4 (ZtD m0)) (ZtD m0)
def ZLU := kblk 0 (ZLT m0)
def Zy2 := exec PP HH 130 m0 EE LL Zy3 (ZtD m0) [(0, x0), (1, x1), (4, x4), (5, x5)] B
def Zv1 := exec PP HH 130 m0 EE LL (l1 (l2 (l2 (l2 (l2 (l2 (l2 (l2 (l1 (l1 (l2 Zy3))))))))))) (ZLU m0) [(0, x0), (1, x1), (4, x4), (5, x5)] B
def Zqc := exec PP HH 130 m0 EE LL Zy4 (ZtD m0) [(0, x0), (1, x1), (4, x4), (5, x5)] B
theorem ZFk : Zy2 m0 x0 x1 x4 x5 B =
 mk (callS false EE 127 [(shr x0)] B fun a b =>
 mk (callS true EE 149 [(shr x5)] b fun c d =>
 ob (xnil PP .neq 94 (.slice none 0 0) c) fun e =>
 asB (shr e) fun f => br f (mk (ob (xbin PP .lss 3 (shr x5) (iv 97)) fun g =>
 callS true EE 149 [(shr x5)] d fun h i =>
 callS false EE 128 [g, h] i fun j k =>
 stN 7 x4 j k fun l =>
 Z9m x4 l))
 (mk (ob (xbin PP .eql 3 (shr x5) (iv 98)) fun n =>
 asB (shr n) fun o => br o (mk (ob (Z2a PP 98 [(0, (iv 9)), (4, (iv 2))]) fun p =>
 stN 7 x4 p d fun q =>
 Z9m x4 q))
 (mk (ob (xbin PP .eql 3 (shr x5) (iv 66)) fun r =>
 asB (shr r) fun s => br s (mk (ob (Z2a PP 98 [(0, (iv 9)), (4, (iv 3))]) fun t =>
 stN 7 x4 t d fun u =>
 Z9m x4 u))
 (mk (ob (xbin PP .geq 3 (shr x5) (iv 49)) fun v =>
 asB (shr v) fun w => br w (ob (xbin PP .leq 3 (shr x5) (iv 57)) fun x =>
 asB (shr (shr x)) fun y => br y (Zv1 m0 x0 x1 x4 x5 (gcB m0 [x0, x1, x4, x5] d))
 (Zqc m0 x0 x1 x4 x5 (gcB m0 [x0, x1, x4, x5] d)))
 (Zqc m0 x0 x1 x4 x5 (gcB m0 [x0, x1, x4, x5] d)))))))))) := by kernel_rfl
theorem ZDp : Zv1 m0 x0 x1 x4 x5 B =
 mk (ob (Z2l (shr x0)) fun a =>
 ob (xfld 4 a) fun b =>
 ldOwn b B fun c d =>
 ob (xbin PP .sub 3 (shr x5) (iv 48)) fun e =>
 ob (Z2a PP 149 [(0, e), (1, (shr x1))]) fun f =>
 ob (xlit PP 142 1 [(0, f)]) fun g =>
 ob (xapp 2 c g) fun h =>
 ob (Z2l (shr x0)) fun i =>
 ob (xfld 4 i) fun j =>
 stN 1 j h d fun k =>
 mk (ob (xbin PP .sub 3 (shr x5) (iv 48)) fun l =>
 ob (Z2a PP 98 [(0, (iv 6)), (4, l)]) fun n =>
 stN 7 x4 n k fun o =>
 Z9m x4 o)) := by kernel_rfl
theorem ZDq : Zqc m0 x0 x1 x4 x5 B =
 mk (callS false EE 150 [(shr x0), (shr x5), (shr x1)] B fun a b =>
 callS false EE 129 [a] b fun c d =>
 ob (xlit PP 94 1 [(0, c)]) fun e =>
 callS false EE 128 [(bv false), e] d fun f g =>
 stN 7 x4 f g fun h =>
 Z9m x4 h) := by kernel_rfl
theorem ZLS : EE 130 [x0, x1] B =
 (let m0 := B.length
 mk (bz PP 98 B fun a b =>
 mk (callS false EE 104 [(shr x0)] b fun c d =>
 mk (ob (xbin PP .lss 3 (shr (shr c)) (iv 0)) fun e =>
 asB e fun f => br f (mk (callS false EE 70 [(shr x0), (iv 21), (shr x1)] d fun g h =>
 mk (ob (Z2a PP 98 []) fun i =>
 stN 7 a i h fun j =>
 Z9m a j)))
 (Zy2 m0 x0 x1 a (shr c) (gcB m0 [x0, x1, a, (shr c)] d)))))) := (E_eq PP XX HH _ _ _).trans (by kernel_rfl)
noncomputable def ZHH := Z39 Tryz.f131
def Zy9 := l2 (l2 (l2 (l2 (l2 (l2 ZHH)))))
def Zfz := l1 (l1 (l1 (l2 (l2 (l2 (l2 (l2 ZHH)))))))
def ZtG := l2 (l2 (l1 (l1 (l2 Zfz))))
def ZtH := l2 (l2 ZtG)
def Zy8 := l2 (l2 ZtH)
def ZtI := l2 (l1 (l2 (l1 (l2 ZtH))))
def ZEd := l2 (l1 (l2 (l2 (l2 (l1 (l2 (l2 (l1 (l2 (l1 (l1 (l2 Zfz))))))))))))
def Zy5 (m0 : Nat) : Kont := kret PP HH 131 Tryz.f131.results
def ZLW := kseq HH 131 m0 Zy9 (exec PP HH 131 m0 EE LL Zy9 (Zy5 m0)) (Zy5 m0)
def Zy6 := kblk 0 (ZLW m0)
def ZtE := kloop HH 131 m0 Zfz (LL 131 m0 Zfz (Zy6 m0)) (Zy6 m0)
def ZLX := kseq HH 131 m0 (l2 (l2 Zfz)) (exec PP HH 131 m0 EE LL (l2 (l2 Zfz)) (ZtE m0)) (ZtE m0)
def ZjU := kblk 1 (ZLX m0)
def ZLY := kseq HH 131 m0 ZtG (exec PP HH 131 m0 EE LL ZtG (ZjU m0)) (ZjU m0)
def ZEc := kblk 2 (ZLY m0)
def ZtF := kseq HH 131 m0 Zy8 (exec PP HH 131 m0 EE LL Zy8 (ZjU m0)) (ZjU m0)
def ZLZ := kseq HH 131 m0 ZtI (exec PP HH 131 m0 EE LL ZtI (ZtF m0)) (ZtF m0)
def ZoQ := lp (LL 131 m0 Zfz (Zy6 m0) [(0, x0), (1, x1), (4, x4), (5, x5), (6, x6), (7, x7), (8, x8)] B)
def Zy7 := exec PP HH 131 m0 EE LL (l2 Zfz) (ZtE m0) [(0, x0), (1, x1), (4, x4), (5, x5), (6, x6), (7, x7), (8, x8)] B
def Zv5 := exec PP HH 131 m0 EE LL Zy9 (Zy5 m0) [(4, x4)] B
def Zdi := exec PP HH 131 m0 EE LL (l2 (l2 Zfz)) (ZtE m0) [(0, x0), (1, x1), (4, x4), (5, x5), (6, x6), (7, x7), (8, x8)] B
def Zv2 := exec PP HH 131 m0 EE LL ZEd (ZEc m0) [(0, x0), (4, x4), (5, x5), (6, x6)] B
def Zqe := exec PP HH 131 m0 EE LL ZtG (ZjU m0) [(0, x0), (1, x1), (4, x4), (5, x5), (6, x6), (7, x7), (8, x8), (9, x9)] B
def Zqd := exec PP HH 131 m0 EE LL (l2 (l2 ZEd)) (ZEc m0) [(4, x4), (6, x6)] B
def Zv3 := exec PP HH 131 m0 EE LL ZtH (ZjU m0) [(0, x0), (1, x1), (4, x4), (5, x5), (6, x6), (7, x7), (8, x8), (9, x9), (11, x11)] B
def ZjV := exec PP HH 131 m0 EE LL (l1 (l2 (l2 (l1 (l1 (l2 (l1 (l2 ZtH)))))))) (ZLZ m0) [(0, x0), (1, x1), (4, x4), (5, x5), (6, x6), (7, x7), (8, x8), (9, x9)] B
def Zv4 := exec PP HH 131 m0 EE LL ZtI (ZtF m0) [(0, x0), (1, x1), (4, x4), (5, x5), (6, x6), (7, x7), (8, x8), (9, x9), (11, x11)] B
def ZjW := exec PP HH 131 m0 EE LL Zy8 (ZjU m0) [(0, x0), (1, x1), (4, x4), (5, x5), (6, x6), (7, x7), (8, x8), (11, x11), (15, x15)] B
def Zqf := exec PP HH 131 m0 EE LL (l1 (l2 (l2 ZtI))) (ZtF m0) [(0, x0), (1, x1), (4, x4), (5, x5), (6, x6), (7, x7), (8, x8), (9, x9), (11, x11), (15, x15)] B
theorem ZFl : ZoQ m0 x0 x1 x4 x5 x6 x7 x8 B =
 mk (ob (Z2l (shr x0)) fun a =>
 ob (xfld 5 a) fun b =>
 ob (xfld 0 b) fun c =>
 ob (ldN false 1 c B) fun d =>
 ob (xbin PP .eql 30 d (iv 0)) fun e =>
 asB e fun f => br f (Zy7 m0 x0 x1 x4 x5 x6 x7 x8 (gcB m0 [x0, x1, x4, x5, x6, x7, x8] B))
 (Zv5 m0 x4 (gcB m0 [x4] B))) := lq_ (by kernel_rfl)
theorem ZFn : Zy7 m0 x0 x1 x4 x5 x6 x7 x8 B =
 mk (ob (Z2l (shr x0)) fun a =>
 ob (xfld 1 a) fun b =>
 ob (ldN false 1 b B) fun c =>
 mk (callS false EE 104 [(shr x0)] B fun d e =>
 mk (mk (ob (xbin PP .eql 3 (shr (shr d)) (iv (-1))) fun f =>
 asB (shr f) fun g => br g (mk (callS false EE 70 [(shr x0), (iv 22), (shr x1)] e fun h i =>
 Zdi m0 x0 x1 x4 x5 x6 x7 x8 (gcB m0 [x0, x1, x4, x5, x6, x7, x8] i)))
 (mk (ob (xbin PP .eql 3 (shr (shr d)) (iv 93)) fun j =>
 asB (shr j) fun k => br k (mk (ob (xbin PP .eql 3 (shr x8) (iv 0)) fun l =>
 asB l fun n => br n (mk (callS false EE 70 [(shr x0), (iv 22), (shr x1)] e fun o p =>
 Zdi m0 x0 x1 x4 x5 x6 x7 x8 (gcB m0 [x0, x1, x4, x5, x6, x7, x8] p)))
 (Zv2 m0 x0 x4 x5 x6 (gcB m0 [x0, x4, x5, x6] e))))
 (mk (ob (xbin PP .eql 3 (shr (shr d)) (iv 91)) fun q =>
 asB (shr q) fun r => br r (asB (shr q) fun s => br s (mk (callS false EE 70 [(shr x0), (iv 22), (shr (shr c))] e fun t u =>
 Zdi m0 x0 x1 x4 x5 x6 x7 x8 (gcB m0 [x0, x1, x4, x5, x6, x7, x8] u)))
 (Zqe m0 x0 x1 x4 x5 x6 x7 x8 (shr c) (gcB m0 [x0, x1, x4, x5, x6, x7, x8, (shr c)] e)))
 (mk (ob (xbin PP .eql 3 (shr (shr d)) (iv 45)) fun v =>
 asB (shr v) fun w => br w (mk (callS false EE 70 [(shr x0), (iv 22), (shr (shr c))] e fun x y =>
 Zdi m0 x0 x1 x4 x5 x6 x7 x8 (gcB m0 [x0, x1, x4, x5, x6, x7, x8] y)))
 (Zqe m0 x0 x1 x4 x5 x6 x7 x8 (shr c) (gcB m0 [x0, x1, x4, x5, x6, x7, x8, (shr c)] e)))))))))))) := by kernel_rfl
theorem ZDz : Zv5 m0 x4 B =
 mk (ob (Z2a PP 98 []) fun a =>
 stN 7 x4 a B fun b =>
 Z9m x4 b) := by kernel_rfl
theorem ZFm : Zdi m0 x0 x1 x4 x5 x6 x7 x8 B =
 mk (ob (xbin PP .add 3 (shr x8) (iv 1)) fun a =>
 ZoQ m0 x0 x1 x4 x5 x6 x7 (shr a) (gcB m0 [x0, x1, x4, x5, x6, x7, (shr a)] B)) := by kernel_rfl
theorem ZDr : Zv2 m0 x0 x4 x5 x6 B =
 mk (callS false EE 127 [(shr x0)] B fun a b =>
 mk (asB (shr x5) fun c => br c (mk (ob (ldN false 1 x6 b) fun d =>
 callS false EE 148 [d] b fun e f =>
 ob (xext 0 (shr e)) fun g =>
 ob (xext 1 (shr e)) fun h =>
 stN 1 x6 (shr g) f fun i =>
 Zqd m0 x4 x6 (gcB m0 [x4, x6] i)))
 (Zqd m0 x4 x6 (gcB m0 [x4, x6] b)))) := by kernel_rfl
theorem ZDt : Zqe m0 x0 x1 x4 x5 x6 x7 x8 x9 B =
 mk (callS true EE 153 [(shr x0)] B fun a b =>
 ob (xext 0 (shr a)) fun c =>
 ob (xext 1 (shr a)) fun d =>
 ob (xext 2 (shr a)) fun e =>
 mk (ob (xnil PP .neq 94 (.slice none 0 0) (shr (shr (shr d)))) fun f =>
 asB f fun g => br g (mk (callS false EE 128 [(shr (shr (shr e))), (shr (shr (shr d)))] b fun h i =>
 bz PP 98 i fun j k =>
 stN 7 j h k fun l =>
 mk (ob (xfld 5 j) fun n =>
 ob (ldN false 1 n l) fun o =>
 callV HH EE (shr x7) [o] l fun p q =>
 mk (callS false EE 104 [(shr x0)] q fun r s =>
 ob (xbin PP .eql 3 r (iv 45)) fun t =>
 asB t fun u => br u (mk (ob (Z2l (shr x0)) fun v =>
 ob (xfld 1 v) fun w =>
 ob (ldN false 1 w s) fun x =>
 callS false EE 70 [(shr x0), (iv 22), x] s fun y z =>
 Zdi m0 x0 x1 x4 x5 x6 x7 x8 (gcB m0 [x0, x1, x4, x5, x6, x7, x8] z)))
 (Zdi m0 x0 x1 x4 x5 x6 x7 x8 (gcB m0 [x0, x1, x4, x5, x6, x7, x8] s))))))
 (Zv3 m0 x0 x1 x4 x5 x6 x7 x8 x9 (shr (shr c)) (gcB m0 [x0, x1, x4, x5, x6, x7, x8, x9, (shr (shr c))] b)))) := by kernel_rfl
theorem ZDs : Zqd m0 x4 x6 B =
 mk (ob (ldN false 1 x6 B) fun a =>
 ob (Z2a PP 98 [(0, (iv 1)), (5, a)]) fun b =>
 stN 7 x4 b B fun c =>
 Z9m x4 c) := by kernel_rfl
theorem ZDu : Zv3 m0 x0 x1 x4 x5 x6 x7 x8 x9 x11 B =
 mk (mk (callS false EE 68 [(shr x0), (.p (.v (.string (ByteArray.mk #[45]))))] B fun a b =>
 asB a fun c => br c (mk (callS false EE 104 [(shr x0)] b fun d e =>
 mk (ob (xbin PP .eql 3 (shr (shr d)) (iv 93)) fun f =>
 asB (shr f) fun g => br g (ZjV m0 x0 x1 x4 x5 x6 x7 x8 x9 (gcB m0 [x0, x1, x4, x5, x6, x7, x8, x9] e))
 (ob (xbin PP .eql 3 (shr (shr d)) (iv 91)) fun h =>
 asB (shr (shr h)) fun i => br i (ZjV m0 x0 x1 x4 x5 x6 x7 x8 x9 (gcB m0 [x0, x1, x4, x5, x6, x7, x8, x9] e))
 (ob (xbin PP .eql 3 (shr (shr d)) (iv 45)) fun j =>
 asB (shr (shr j)) fun k => br k (ZjV m0 x0 x1 x4 x5 x6 x7 x8 x9 (gcB m0 [x0, x1, x4, x5, x6, x7, x8, x9] e))
 (ob (xbin PP .lss 3 (shr (shr d)) (iv 0)) fun l =>
 asB (shr l) fun n => br n (ZjV m0 x0 x1 x4 x5 x6 x7 x8 x9 (gcB m0 [x0, x1, x4, x5, x6, x7, x8, x9] e))
 (Zv4 m0 x0 x1 x4 x5 x6 x7 x8 x9 x11 (gcB m0 [x0, x1, x4, x5, x6, x7, x8, x9, x11] e))))))))
 (ZjW m0 x0 x1 x4 x5 x6 x7 x8 x11 (shr (shr x11)) (gcB m0 [x0, x1, x4, x5, x6, x7, x8, x11, (shr (shr x11))] b)))) := by kernel_rfl
theorem ZDv : ZjV m0 x0 x1 x4 x5 x6 x7 x8 x9 B =
 mk (callS false EE 70 [(shr x0), (iv 22), (shr x9)] B fun a b =>
 Zdi m0 x0 x1 x4 x5 x6 x7 x8 (gcB m0 [x0, x1, x4, x5, x6, x7, x8] b)) := by kernel_rfl
theorem ZDw : Zv4 m0 x0 x1 x4 x5 x6 x7 x8 x9 x11 B =
 mk (callS true EE 153 [(shr x0)] B fun a b =>
 ob (xext 0 (shr a)) fun c =>
 ob (xext 1 (shr a)) fun d =>
 ob (xext 2 (shr a)) fun e =>
 mk (ob (Z2l (shr x0)) fun f =>
 ob (xfld 5 f) fun g =>
 ob (xfld 0 g) fun h =>
 ob (ldN false 1 h b) fun i =>
 ob (xbin PP .eql 30 i (iv 0)) fun j =>
 asB (shr j) fun k => br k (ob (xnil PP .neq 94 (.slice none 0 0) (shr (shr (shr d)))) fun l =>
 asB (shr l) fun n => br n (Zqf m0 x0 x1 x4 x5 x6 x7 x8 x9 x11 (shr (shr c)) (gcB m0 [x0, x1, x4, x5, x6, x7, x8, x9, x11, (shr (shr c))] b))
 (ob (xbin PP .lss 3 (shr (shr (shr c))) (shr x11)) fun o =>
 asB (shr (shr o)) fun p => br p (Zqf m0 x0 x1 x4 x5 x6 x7 x8 x9 x11 (shr (shr c)) (gcB m0 [x0, x1, x4, x5, x6, x7, x8, x9, x11, (shr (shr c))] b))
 (ZjW m0 x0 x1 x4 x5 x6 x7 x8 x11 (shr (shr c)) (gcB m0 [x0, x1, x4, x5, x6, x7, x8, x11, (shr (shr c))] b))))
 (ZjW m0 x0 x1 x4 x5 x6 x7 x8 x11 (shr (shr c)) (gcB m0 [x0, x1, x4, x5, x6, x7, x8, x11, (shr (shr c))] b)))) := by kernel_rfl
theorem ZDy : ZjW m0 x0 x1 x4 x5 x6 x7 x8 x11 x15 B =
 mk (ob (Z2l (shr x0)) fun a =>
 ob (xfld 5 a) fun b =>
 ob (xfld 0 b) fun c =>
 ob (ldN false 1 c B) fun d =>
 ob (xbin PP .eql 30 d (iv 0)) fun e =>
 asB e fun f => br f (mk (ob (Z2a PP 201 [(0, (shr x11)), (1, (shr x15))]) fun g =>
 ob (xlit PP 95 1 [(0, g)]) fun h =>
 callV HH EE (shr x7) [h] B fun i j =>
 Zdi m0 x0 x1 x4 x5 x6 x7 x8 (gcB m0 [x0, x1, x4, x5, x6, x7, x8] j)))
 (Zdi m0 x0 x1 x4 x5 x6 x7 x8 (gcB m0 [x0, x1, x4, x5, x6, x7, x8] B))) := by kernel_rfl
theorem ZDx : Zqf m0 x0 x1 x4 x5 x6 x7 x8 x9 x11 x15 B =
 mk (callS false EE 70 [(shr x0), (iv 22), (shr x9)] B fun a b =>
 ZjW m0 x0 x1 x4 x5 x6 x7 x8 x11 x15 (gcB m0 [x0, x1, x4, x5, x6, x7, x8, x11, x15] b)) := by kernel_rfl
theorem ZLV : EE 131 [x0, x1] B =
 (let m0 := B.length
 mk (bz PP 98 B fun a b =>
 mk (callS false EE 68 [(shr x0), (.p (.v (.string (ByteArray.mk #[94]))))] b fun c d =>
 mk (bz PP 95 d fun e f =>
 mk (mk (ZoQ m0 x0 x1 a (shr c) e (shr (.clo 151 ([].map nrmA) ([e].map nrmA))) (iv 0) (gcB m0 [x0, x1, a, (shr c), e, (shr (.clo 151 ([].map nrmA) ([e].map nrmA))), (iv 0)] f))))))) := (E_eq PP XX HH _ _ _).trans (by kernel_rfl)
noncomputable def ZNL := Z39 Tryz.f132
def ZEe := l2 (l2 ZNL)
def Zyb := l2 (l2 ZEe)
def ZtJ := l2 (l2 Zyb)
def Zmm (m0 : Nat) : Kont := kret PP HH 132 Tryz.f132.results
def ZM1 := kseq HH 132 m0 ZtJ (exec PP HH 132 m0 EE LL ZtJ (Zmm m0)) (Zmm m0)
def Zya := exec PP HH 132 m0 EE LL ZEe (Zmm m0) [(0, x0), (1, x1), (4, x4)] B
def ZeM := exec PP HH 132 m0 EE LL Zyb (Zmm m0) [(0, x0), (1, x1), (4, x4)] B
def Zv6 := exec PP HH 132 m0 EE LL (l1 (l2 (l1 (l2 Zyb)))) (ZM1 m0) [(0, x0), (1, x1), (4, x4), (7, x7)] B
def ZmG := exec PP HH 132 m0 EE LL ZtJ (Zmm m0) [(0, x0), (4, x4), (7, x7)] B
def Zv7 := exec PP HH 132 m0 EE LL (l2 (l2 ZtJ)) (Zmm m0) [(4, x4), (7, x7)] B
theorem ZFo : Zya m0 x0 x1 x4 B =
 mk (ob (Z2l (shr x0)) fun a =>
 ob (xfld 3 a) fun b =>
 ob (ldN false 1 b B) fun c =>
 ob (xbin PP .add 3 c (iv 1)) fun d =>
 ob (Z2l (shr x0)) fun e =>
 ob (xfld 3 e) fun f =>
 stN 1 f d B fun g =>
 mk (callS false EE 155 [] g fun h i =>
 callS false EE 154 [h, (.clo 68 ([(shr x0)].map nrmA) ([].map nrmA))] i fun j k =>
 mk (ob (xbin PP .geq 3 (shr (shr j)) (iv 0)) fun l =>
 asB (shr l) fun n => br n (mk (ob (Z2a PP 98 [(0, (iv 7)), (3, (shr (shr j)))]) fun o =>
 stN 7 x4 o k fun q =>
 ZeM m0 x0 x1 x4 (gcB m0 [x0, x1, x4] q)))
 (mk (callS false EE 68 [(shr x0), (.p (.v (.string (ByteArray.mk #[63, 62]))))] k fun r s =>
 asB (shr r) fun t => br t (mk (ob (Z2a PP 98 [(0, (iv 8))]) fun u =>
 stN 7 x4 u s fun w =>
 ZeM m0 x0 x1 x4 (gcB m0 [x0, x1, x4] w)))
 (mk (callS false EE 68 [(shr x0), (.p (.v (.string (ByteArray.mk #[63, 58]))))] s fun x y =>
 asB (shr x) fun z => br z (ZeM m0 x0 x1 x4 (gcB m0 [x0, x1, x4] y))
 (mk (callS false EE 104 [(shr x0)] y fun A C =>
 ob (xbin PP .eql 3 A (iv 63)) fun D =>
 asB (shr D) fun F => br F (mk (callS false EE 70 [(shr x0), (iv 20), (shr x1)] C fun G I =>
 ZeM m0 x0 x1 x4 (gcB m0 [x0, x1, x4] I)))
 (mk (ob (Z2l (shr x0)) fun J =>
 ob (xfld 2 J) fun M =>
 ob (ldN false 1 M C) fun N =>
 ob (xbin PP .eql 3 N (iv 9)) fun O =>
 asB (shr O) fun Q => br Q (mk (callS false EE 70 [(shr x0), (iv 24), (shr x1)] C fun R S =>
 ZeM m0 x0 x1 x4 (gcB m0 [x0, x1, x4] S)))
 (mk (ob (Z2l (shr x0)) fun T =>
 ob (xfld 2 T) fun U =>
 ob (ldN false 1 U C) fun V =>
 ob (xbin PP .add 3 V (iv 1)) fun W =>
 ob (Z2l (shr x0)) fun Y =>
 ob (xfld 2 Y) fun Z =>
 stN 1 Z W C fun a0 =>
 mk (ob (Z2l (shr x0)) fun a1 =>
 ob (xfld 2 a1) fun a2 =>
 ob (ldN false 1 a2 a0) fun a3 =>
 ob (Z2a PP 98 [(0, (iv 5)), (4, a3)]) fun a4 =>
 stN 7 x4 a4 a0 fun a5 =>
 ZeM m0 x0 x1 x4 (gcB m0 [x0, x1, x4] a5))))))))))))))) := by kernel_rfl
theorem ZDA : ZeM m0 x0 x1 x4 B =
 mk (callS false EE 69 [(shr x0)] B fun a b =>
 bz PP 98 b fun c d =>
 stN 7 c a d fun e =>
 mk (ob (Z2l (shr x0)) fun f =>
 ob (xfld 5 f) fun g =>
 ob (xfld 0 g) fun h =>
 ob (ldN false 1 h e) fun i =>
 ob (xbin PP .eql 30 i (iv 0)) fun j =>
 asB (shr j) fun k => br k (callS false EE 68 [(shr x0), (.p (.v (.string (ByteArray.mk #[41]))))] e fun l n =>
 ob (xun PP .not l) fun o =>
 asB (shr o) fun q => br q (Zv6 m0 x0 x1 x4 c (gcB m0 [x0, x1, x4, c] n))
 (ZmG m0 x0 x4 c (gcB m0 [x0, x4, c] n)))
 (ZmG m0 x0 x4 c (gcB m0 [x0, x4, c] e)))) := by kernel_rfl
theorem ZDB : Zv6 m0 x0 x1 x4 x7 B =
 mk (callS false EE 70 [(shr x0), (iv 20), (shr x1)] B fun a b =>
 ZmG m0 x0 x4 x7 (gcB m0 [x0, x4, x7] b)) := by kernel_rfl
theorem ZDC : ZmG m0 x0 x4 x7 B =
 mk (ob (Z2l (shr x0)) fun a =>
 ob (xfld 3 a) fun b =>
 ob (ldN false 1 b B) fun c =>
 ob (xbin PP .sub 3 c (iv 1)) fun d =>
 ob (Z2l (shr x0)) fun e =>
 ob (xfld 3 e) fun f =>
 stN 1 f d B fun g =>
 mk (ob (xfld 0 x4) fun h =>
 ob (ldN false 1 h g) fun i =>
 ob (xbin PP .eql 3 i (iv 0)) fun j =>
 asB j fun k => br k (mk (ob (ldN true 7 x7 g) fun l =>
 stN 7 x4 l g fun n =>
 Z6z x4 (bv true) n))
 (Zv7 m0 x4 x7 (gcB m0 [x4, x7] g)))) := by kernel_rfl
theorem ZDD : Zv7 m0 x4 x7 B =
 mk (ob (ldN true 7 x7 B) fun a =>
 ob (xlit PP 96 1 [(0, a)]) fun b =>
 ob (xfld 6 x4) fun c =>
 stN 1 c b B fun d =>
 mk (ob (ldN true 7 x4 d) fun e =>
 ob (xfld 0 x4) fun f =>
 ob (ldN false 1 f d) fun g =>
 ob (xbin PP .neq 3 g (iv 7)) fun h =>
 stN 7 x4 e d fun i =>
 Z6z x4 (shr h) i)) := by kernel_rfl
theorem ZM0 : EE 132 [x0, x1] B =
 (let m0 := B.length
 mk (bz PP 98 B fun a b =>
 mk (ob (Z2l (shr x0)) fun c =>
 ob (xfld 3 c) fun d =>
 ob (ldN false 1 d b) fun e =>
 ob (xbin PP .eql 3 e (iv 32)) fun f =>
 asB f fun g => br g (mk (callS false EE 70 [(shr x0), (iv 25), (shr x1)] b fun h i =>
 mk (ob (Z2a PP 98 []) fun j =>
 stN 7 a j i fun k =>
 Z6z a (bv true) k)))
 (Zya m0 x0 x1 a (gcB m0 [x0, x1, a] b))))) := (E_eq PP XX HH _ _ _).trans (by kernel_rfl)
noncomputable def ZHI := Z39 Tryz.f133
def ZjY := l2 (l2 (l2 (l2 ZHI)))
def ZoR := l1 (l2 (l2 (l1 (l2 (l1 (l2 (l2 (l2 ZHI))))))))
def Zmn (m0 : Nat) : Kont := kret PP HH 133 Tryz.f133.results
def ZtK := kseq HH 133 m0 ZjY (exec PP HH 133 m0 EE LL ZjY (Zmn m0)) (Zmn m0)
def ZM3 := kseq HH 133 m0 (l2 ZoR) (exec PP HH 133 m0 EE LL (l2 ZoR) (ZtK m0)) (ZtK m0)
def ZM4 := kseq HH 133 m0 (l2 ZjY) (exec PP HH 133 m0 EE LL (l2 ZjY) (Zmn m0)) (Zmn m0)
def Zyc := exec PP HH 133 m0 EE LL ZoR (ZtK m0) [(0, x0), (1, x1), (4, x4)] B
def Zmo := exec PP HH 133 m0 EE LL ZjY (Zmn m0) [(0, x0), (1, x1), (4, x4), (5, x5)] B
def Zyd := exec PP HH 133 m0 EE LL (l1 (l2 (l1 ZoR))) (ZM3 m0) [(4, x4)] B
def ZtL := exec PP HH 133 m0 EE LL (l2 ZoR) (ZtK m0) [(0, x0), (1, x1), (4, x4)] B
def ZjX := exec PP HH 133 m0 EE LL (l1 (l2 (l1 ZjY))) (ZM4 m0) [(0, x0), (1, x1), (4, x4), (5, x5)] B
def Zqg := exec PP HH 133 m0 EE LL (l2 ZjY) (Zmn m0) [(4, x4), (5, x5)] B
theorem ZFp : Zyc m0 x0 x1 x4 B =
 mk (callS false EE 68 [(shr x0), (.p (.v (.string (ByteArray.mk #[125]))))] B fun a b =>
 asB (shr a) fun c => br c (ob (xbin PP .leq 3 (shr x4) (iv 64)) fun d =>
 asB (shr d) fun e => br e (Zyd m0 x4 (gcB m0 [x4] b))
 (ZtL m0 x0 x1 x4 (gcB m0 [x0, x1, x4] b)))
 (ZtL m0 x0 x1 x4 (gcB m0 [x0, x1, x4] b))) := by kernel_rfl
theorem ZFs : Zmo m0 x0 x1 x4 x5 B =
 mk (ob (xbin PP .lss 3 (shr x4) (iv 0)) fun a =>
 asB (shr a) fun b => br b (ZjX m0 x0 x1 x4 x5 (gcB m0 [x0, x1, x4, x5] B))
 (ob (xbin PP .lss 3 (shr x5) (shr x4)) fun c =>
 asB (shr (shr c)) fun d => br d (ZjX m0 x0 x1 x4 x5 (gcB m0 [x0, x1, x4, x5] B))
 (ob (xbin PP .gtr 3 (shr x5) (iv 64)) fun e =>
 asB (shr (shr e)) fun f => br f (ZjX m0 x0 x1 x4 x5 (gcB m0 [x0, x1, x4, x5] B))
 (callS false EE 68 [(shr x0), (.p (.v (.string (ByteArray.mk #[125]))))] B fun g h =>
 ob (xun PP .not g) fun i =>
 asB (shr i) fun j => br j (ZjX m0 x0 x1 x4 x5 (gcB m0 [x0, x1, x4, x5] h))
 (Zqg m0 x4 x5 (gcB m0 [x4, x5] h)))))) := by kernel_rfl
theorem ZFq : Zyd m0 x4 B =
 mk (Z8D (shr (shr x4)) (iv (-1)) B) := by kernel_rfl
theorem ZFr : ZtL m0 x0 x1 x4 B =
 mk (Zmo m0 x0 x1 x4 (iv (-2)) (gcB m0 [x0, x1, x4, (iv (-2))] B)) := by kernel_rfl
theorem ZDE : ZjX m0 x0 x1 x4 x5 B =
 mk (callS false EE 70 [(shr x0), (iv 23), (shr x1)] B fun a b =>
 Zqg m0 x4 x5 (gcB m0 [x4, x5] b)) := by kernel_rfl
theorem ZDF : Zqg m0 x4 x5 B =
 mk (Z8D (shr (shr x4)) (shr (shr x5)) B) := by kernel_rfl
theorem ZM2 : EE 133 [x0, x1] B =
 (let m0 := B.length
 mk (mk (callS false EE 156 [(shr x0)] B fun a b =>
 mk (mk (callS false EE 68 [(shr x0), (.p (.v (.string (ByteArray.mk #[44]))))] b fun c d =>
 asB c fun e => br e (mk (callS false EE 156 [(shr x0)] d fun f g =>
 mk (ob (xbin PP .lss 3 (shr (shr f)) (iv 0)) fun h =>
 asB (shr h) fun i => br i (ob (xbin PP .geq 3 (shr (shr a)) (iv 0)) fun j =>
 asB (shr j) fun k => br k (Zyc m0 x0 x1 (shr a) (gcB m0 [x0, x1, (shr a)] g))
 (Zmo m0 x0 x1 (shr a) (shr f) (gcB m0 [x0, x1, (shr a), (shr f)] g)))
 (Zmo m0 x0 x1 (shr a) (shr f) (gcB m0 [x0, x1, (shr a), (shr f)] g)))))
 (Zmo m0 x0 x1 (shr a) (shr (shr (shr a))) (gcB m0 [x0, x1, (shr a), (shr (shr (shr a)))] d))))))) := (E_eq PP XX HH _ _ _).trans (by kernel_rfl)
noncomputable def ZNM := Z39 Tryz.f134
def ZM6 (m0 : Nat) : Kont := kret PP HH 134 Tryz.f134.results
def Zye := exec PP HH 134 m0 EE LL (l2 (l2 ZNM)) (ZM6 m0) [(0, x0)] B
theorem ZFt : Zye m0 x0 B =
 mk (Z1j (shr (shr x0)) B) := by kernel_rfl
theorem ZM5 : EE 134 [x0] B =
 (let m0 := B.length
 mk (mk (ob (xbin PP .gtr 3 (shr x0) (iv 1048576)) fun a =>
 asB a fun b => br b (mk (Z1j (iv (-1)) B))
 (Zye m0 x0 (gcB m0 [x0] B))))) := (E_eq PP XX HH _ _ _).trans (by kernel_rfl)
noncomputable def ZNN := Z39 Tryz.f147
def ZM8 (m0 : Nat) : Kont := kret PP HH 147 Tryz.f147.results
def Zyf := exec PP HH 147 m0 EE LL (l2 (l2 ZNN)) (ZM8 m0) [(0, x0)] B
theorem ZFu : Zyf m0 x0 B =
 mk (callS false EE 169 [(shr x0)] B fun a b =>
 Z8D (shr a) (iv 0) b) := by kernel_rfl
theorem ZM7 : EE 147 [x0] B =
 (let m0 := B.length
 mk (mk (callS false EE 166 [(shr x0), (.clo 167 [] [])] B fun a b =>
 asB a fun c => br c (mk (Z8D nilA (iv 13) b))
 (Zyf m0 x0 (gcB m0 [x0] b))))) := (E_eq PP XX HH _ _ _).trans (by kernel_rfl)
noncomputable def ZNO := Z39 Tryz.f148
def ZMa (m0 : Nat) : Kont := kret PP HH 148 Tryz.f148.results
def Zyg := exec PP HH 148 m0 EE LL (l2 (l2 ZNO)) (ZMa m0) [(0, x0)] B
theorem ZFv : Zyg m0 x0 B =
 mk (callS false EE 171 [(shr x0)] B fun a b =>
 Z8D (shr a) (iv 0) b) := by kernel_rfl
theorem ZM9 : EE 148 [x0] B =
 (let m0 := B.length
 mk (mk (callS false EE 170 [(shr x0)] B fun a b =>
 ob (xun PP .not a) fun c =>
 asB c fun d => br d (mk (Z8D nilA (iv 10) b))
 (Zyg m0 x0 (gcB m0 [x0] b))))) := (E_eq PP XX HH _ _ _).trans (by kernel_rfl)
noncomputable def ZNP := Z39 Tryz.f149
def Z8l (r0 : AV) (B : List Row) : Option Res :=
 ob (ob (some r0) fun v => ob (some []) fun vs => some (v :: vs)) fun vs => some ((match vs with | [v] => v | vs => Z8h (vs.map shr)), B)
def ZMc (m0 : Nat) : Kont := kret PP HH 149 Tryz.f149.results
def ZcH := exec PP HH 149 m0 EE LL (l2 (l2 ZNP)) (ZMc m0) [] B
theorem ZDG : ZcH m0 B =
 mk (Z8l nilA B) := by kernel_rfl
theorem ZMb : EE 149 [x0] B =
 (let m0 := B.length
 mk (mk (mk (ob (xbin PP .eql 3 (shr x0) (iv 100)) fun a =>
 asB (shr a) fun b => br b (asB (shr a) fun c => br c (mk (ob (Z2a PP 201 [(0, (iv 48)), (1, (iv 57))]) fun d =>
 ob (xlit PP 94 1 [(0, d)]) fun e =>
 Z8l e B))
 (mk (ob (xbin PP .eql 3 (shr x0) (iv 119)) fun f =>
 asB (shr f) fun g => br g (asB (shr f) fun h => br h (mk (ob (Z2a PP 201 [(0, (iv 48)), (1, (iv 57))]) fun i =>
 ob (Z2a PP 201 [(0, (iv 65)), (1, (iv 90))]) fun j =>
 callS false EE 129 [(iv 95)] B fun k l =>
 ob (Z2a PP 201 [(0, (iv 97)), (1, (iv 122))]) fun n =>
 ob (xlit PP 94 4 [(0, i), (1, j), (2, k), (3, n)]) fun o =>
 Z8l o l))
 (mk (ob (xbin PP .eql 3 (shr x0) (iv 115)) fun p =>
 asB (shr p) fun q => br q (asB (shr p) fun r => br r (mk (ob (Z2a PP 201 [(0, (iv 9)), (1, (iv 13))]) fun s =>
 callS false EE 129 [(iv 32)] B fun t u =>
 ob (xlit PP 94 2 [(0, s), (1, t)]) fun v =>
 Z8l v u))
 (ZcH m0 (gcB m0 [] B)))
 (mk (ob (xbin PP .eql 3 (shr x0) (iv 83)) fun w =>
 asB (shr w) fun x => br x (mk (ob (Z2a PP 201 [(0, (iv 9)), (1, (iv 13))]) fun y =>
 callS false EE 129 [(iv 32)] B fun z A =>
 ob (xlit PP 94 2 [(0, y), (1, z)]) fun C =>
 Z8l C A))
 (ZcH m0 (gcB m0 [] B)))))))
 (mk (ob (xbin PP .eql 3 (shr x0) (iv 87)) fun D =>
 asB (shr D) fun F => br F (mk (ob (Z2a PP 201 [(0, (iv 48)), (1, (iv 57))]) fun G =>
 ob (Z2a PP 201 [(0, (iv 65)), (1, (iv 90))]) fun I =>
 callS false EE 129 [(iv 95)] B fun J M =>
 ob (Z2a PP 201 [(0, (iv 97)), (1, (iv 122))]) fun N =>
 ob (xlit PP 94 4 [(0, G), (1, I), (2, J), (3, N)]) fun O =>
 Z8l O M))
 (mk (ob (xbin PP .eql 3 (shr x0) (iv 115)) fun Q =>
 asB (shr Q) fun R => br R (asB (shr Q) fun S => br S (mk (ob (Z2a PP 201 [(0, (iv 9)), (1, (iv 13))]) fun T =>
 callS false EE 129 [(iv 32)] B fun U V =>
 ob (xlit PP 94 2 [(0, T), (1, U)]) fun W =>
 Z8l W V))
 (ZcH m0 (gcB m0 [] B)))
 (mk (ob (xbin PP .eql 3 (shr x0) (iv 83)) fun Y =>
 asB (shr Y) fun Z => br Z (mk (ob (Z2a PP 201 [(0, (iv 9)), (1, (iv 13))]) fun a0 =>
 callS false EE 129 [(iv 32)] B fun a1 a2 =>
 ob (xlit PP 94 2 [(0, a0), (1, a1)]) fun a3 =>
 Z8l a3 a2))
 (ZcH m0 (gcB m0 [] B)))))))))))
 (mk (ob (xbin PP .eql 3 (shr x0) (iv 68)) fun a4 =>
 asB (shr a4) fun a5 => br a5 (mk (ob (Z2a PP 201 [(0, (iv 48)), (1, (iv 57))]) fun a6 =>
 ob (xlit PP 94 1 [(0, a6)]) fun a7 =>
 Z8l a7 B))
 (mk (ob (xbin PP .eql 3 (shr x0) (iv 119)) fun a8 =>
 asB (shr a8) fun a9 => br a9 (asB (shr a8) fun a10 => br a10 (mk (ob (Z2a PP 201 [(0, (iv 48)), (1, (iv 57))]) fun a11 =>
 ob (Z2a PP 201 [(0, (iv 65)), (1, (iv 90))]) fun a12 =>
 callS false EE 129 [(iv 95)] B fun a13 a14 =>
 ob (Z2a PP 201 [(0, (iv 97)), (1, (iv 122))]) fun a15 =>
 ob (xlit PP 94 4 [(0, a11), (1, a12), (2, a13), (3, a15)]) fun a16 =>
 Z8l a16 a14))
 (mk (ob (xbin PP .eql 3 (shr x0) (iv 115)) fun a17 =>
 asB (shr a17) fun a18 => br a18 (asB (shr a17) fun a19 => br a19 (mk (ob (Z2a PP 201 [(0, (iv 9)), (1, (iv 13))]) fun a20 =>
 callS false EE 129 [(iv 32)] B fun a21 a22 =>
 ob (xlit PP 94 2 [(0, a20), (1, a21)]) fun a23 =>
 Z8l a23 a22))
 (ZcH m0 (gcB m0 [] B)))
 (mk (ob (xbin PP .eql 3 (shr x0) (iv 83)) fun a24 =>
 asB (shr a24) fun a25 => br a25 (mk (ob (Z2a PP 201 [(0, (iv 9)), (1, (iv 13))]) fun a26 =>
 callS false EE 129 [(iv 32)] B fun a27 a28 =>
 ob (xlit PP 94 2 [(0, a26), (1, a27)]) fun a29 =>
 Z8l a29 a28))
 (ZcH m0 (gcB m0 [] B)))))))
 (mk (ob (xbin PP .eql 3 (shr x0) (iv 87)) fun a30 =>
 asB (shr a30) fun a31 => br a31 (mk (ob (Z2a PP 201 [(0, (iv 48)), (1, (iv 57))]) fun a32 =>
 ob (Z2a PP 201 [(0, (iv 65)), (1, (iv 90))]) fun a33 =>
 callS false EE 129 [(iv 95)] B fun a34 a35 =>
 ob (Z2a PP 201 [(0, (iv 97)), (1, (iv 122))]) fun a36 =>
 ob (xlit PP 94 4 [(0, a32), (1, a33), (2, a34), (3, a36)]) fun a37 =>
 Z8l a37 a35))
 (mk (ob (xbin PP .eql 3 (shr x0) (iv 115)) fun a38 =>
 asB (shr a38) fun a39 => br a39 (asB (shr a38) fun a40 => br a40 (mk (ob (Z2a PP 201 [(0, (iv 9)), (1, (iv 13))]) fun a41 =>
 callS false EE 129 [(iv 32)] B fun a42 a43 =>
 ob (xlit PP 94 2 [(0, a41), (1, a42)]) fun a44 =>
 Z8l a44 a43))
 (ZcH m0 (gcB m0 [] B)))
 (mk (ob (xbin PP .eql 3 (shr x0) (iv 83)) fun a45 =>
 asB (shr a45) fun a46 => br a46 (mk (ob (Z2a PP 201 [(0, (iv 9)), (1, (iv 13))]) fun a47 =>
 callS false EE 129 [(iv 32)] B fun a48 a49 =>
 ob (xlit PP 94 2 [(0, a47), (1, a48)]) fun a50 =>
 Z8l a50 a49))
 (ZcH m0 (gcB m0 [] B)))))))))))))))) := (E_eq PP XX HH _ _ _).trans (by kernel_rfl)
noncomputable def ZHJ := Z39 Tryz.f150
def Zyi := l2 (l2 ZHJ)
def Zyh (m0 : Nat) : Kont := kret PP HH 150 Tryz.f150.results
def ZMe := kseq HH 150 m0 Zyi (exec PP HH 150 m0 EE LL Zyi (Zyh m0)) (Zyh m0)
def ZMf := kblk 0 (ZMe m0)
def Zhz := exec PP HH 150 m0 EE LL Zyi (Zyh m0) [(0, x0), (2, x2)] B
def Zv8 := exec PP HH 150 m0 EE LL (l1 (l2 (l2 (l2 (l2 (l2 (l2 (l2 (l2 (l2 (l1 (l1 (l2 ZHJ))))))))))))) (ZMf m0) [(1, x1)] B
theorem ZDI : Zhz m0 x0 x2 B =
 mk (callS false EE 70 [(shr x0), (iv 21), (shr x2)] B fun a b =>
 mk (Z1j (iv 0) b)) := by kernel_rfl
theorem ZDH : Zv8 m0 x1 B =
 mk (Z1j (shr (shr x1)) B) := by kernel_rfl
theorem ZMd : EE 150 [x0, x1, x2] B =
 (let m0 := B.length
 mk (mk (ob (xbin PP .eql 3 (shr x1) (iv 110)) fun a =>
 asB (shr a) fun b => br b (mk (Z1j (iv 10) B))
 (mk (ob (xbin PP .eql 3 (shr x1) (iv 116)) fun c =>
 asB (shr c) fun d => br d (mk (Z1j (iv 9) B))
 (mk (ob (xbin PP .eql 3 (shr x1) (iv 114)) fun e =>
 asB (shr e) fun f => br f (mk (Z1j (iv 13) B))
 (mk (ob (xbin PP .eql 3 (shr x1) (iv 120)) fun g =>
 asB (shr g) fun h => br h (mk (callS false EE 104 [(shr x0)] B fun i j =>
 callS false EE 172 [i] j fun k l =>
 mk (ob (xbin PP .geq 3 (shr (shr k)) (iv 0)) fun n =>
 asB n fun o => br o (mk (callS false EE 127 [(shr x0)] l fun p q =>
 mk (callS false EE 104 [(shr x0)] q fun r s =>
 callS false EE 172 [r] s fun t u =>
 mk (ob (xbin PP .geq 3 (shr (shr t)) (iv 0)) fun v =>
 asB v fun w => br w (mk (callS false EE 127 [(shr x0)] u fun x y =>
 mk (ob (xbin PP .mul 3 (iv 16) (shr (shr k))) fun z =>
 ob (xbin PP .add 3 z (shr (shr t))) fun A =>
 Z1j (shr A) y)))
 (Zhz m0 x0 x2 (gcB m0 [x0, x2] u))))))
 (Zhz m0 x0 x2 (gcB m0 [x0, x2] l)))))
 (mk (ob (xbin PP .gtr 3 (shr x1) (iv 32)) fun C =>
 asB (shr C) fun D => br D (ob (xbin PP .lss 3 (shr x1) (iv 127)) fun F =>
 asB (shr (shr F)) fun G => br G (ob (Z2a PP 201 [(0, (iv 48)), (1, (iv 57))]) fun I =>
 ob (Z2a PP 201 [(0, (iv 65)), (1, (iv 90))]) fun J =>
 ob (Z2a PP 201 [(0, (iv 97)), (1, (iv 122))]) fun M =>
 ob (xlit PP 95 3 [(0, I), (1, J), (2, M)]) fun N =>
 callS false EE 173 [N, (shr x1)] B fun O Q =>
 ob (xun PP .not O) fun R =>
 asB (shr (shr R)) fun S => br S (Zv8 m0 x1 (gcB m0 [x1] Q))
 (Zhz m0 x0 x2 (gcB m0 [x0, x2] Q)))
 (Zhz m0 x0 x2 (gcB m0 [x0, x2] B)))
 (Zhz m0 x0 x2 (gcB m0 [x0, x2] B))))))))))))) := (E_eq PP XX HH _ _ _).trans (by kernel_rfl)
theorem ZMg : EE 151 [x0, x1] B =
 (let m0 := B.length
 mk (ob (ldN false 1 x1 B) fun a =>
 callS false EE 152 [a, (shr x0)] B fun b c =>
 ob (xext 0 (shr b)) fun d =>
 ob (xext 1 (shr b)) fun e =>
 stN 1 x1 (shr d) c fun f =>
 Zu2 f)) := (E_eq PP XX HH _ _ _).trans (by kernel_rfl)
noncomputable def ZHK := Z39 Tryz.f152
def Zyl := l2 (l2 ZHK)
def Zyj (m0 : Nat) : Kont := kret PP HH 152 Tryz.f152.results
def ZMi := kseq HH 152 m0 Zyl (exec PP HH 152 m0 EE LL Zyl (Zyj m0)) (Zyj m0)
def ZtM := exec PP HH 152 m0 EE LL (l1 (l2 (l1 (l2 ZHK)))) (ZMi m0) [] B
def Zyk := exec PP HH 152 m0 EE LL Zyl (Zyj m0) [(0, x0), (1, x1)] B
theorem ZFw : ZtM m0 B =
 mk (Z8D nilA (iv 10) B) := by kernel_rfl
theorem ZFx : Zyk m0 x0 x1 B =
 mk (ob (xlit PP 250 2 [(0, (shr x0)), (1, (shr x1))]) fun a =>
 callS false EE 174 [a] B fun b c =>
 callS false EE 169 [b] c fun d e =>
 Z8D (shr d) (iv 0) e) := by kernel_rfl
theorem ZMh : EE 152 [x0, x1] B =
 (let m0 := B.length
 mk (mk (callS false EE 170 [(shr x0)] B fun a b =>
 ob (xun PP .not a) fun c =>
 asB (shr c) fun d => br d (ZtM m0 (gcB m0 [] b))
 (callS false EE 170 [(shr x1)] b fun e f =>
 ob (xun PP .not e) fun g =>
 asB (shr g) fun h => br h (ZtM m0 (gcB m0 [] f))
 (Zyk m0 x0 x1 (gcB m0 [x0, x1] f)))))) := (E_eq PP XX HH _ _ _).trans (by kernel_rfl)
noncomputable def ZNQ := Z39 Tryz.f153
def Zyp := l2 (l2 (l2 ZNQ))
def Zqh (r0 r1 r2 : AV) (B : List Row) : Option Res :=
 ob (ob (some r0) fun v => ob (ob (some r1) fun v => ob (ob (some r2) fun v => ob (some []) fun vs => some (v :: vs)) fun vs => some (v :: vs)) fun vs => some (v :: vs)) fun vs => some ((match vs with | [v] => v | vs => Z8h (vs.map shr)), B)
def Zym (m0 : Nat) : Kont := kret PP HH 153 Tryz.f153.results
def Zyn := exec PP HH 153 m0 EE LL Zyp (Zym m0) [(0, x0), (5, x5)] B
def Zyo := exec PP HH 153 m0 EE LL (l2 Zyp) (Zym m0) [(0, x0), (2, x2), (5, x5)] B
def Zv9 := exec PP HH 153 m0 EE LL (l2 (l2 (l2 Zyp))) (Zym m0) [(0, x0), (2, x2), (5, x5)] B
theorem ZFy : Zyn m0 x0 x5 B =
 mk (callS false EE 104 [(shr x0)] B fun a b =>
 mk (ob (xbin PP .lss 3 (shr (shr a)) (iv 0)) fun c =>
 asB c fun d => br d (mk (callS false EE 70 [(shr x0), (iv 21), (shr x5)] b fun e f =>
 mk (Zqh (iv 0) nilA (bv false) f)))
 (Zyo m0 x0 (shr a) x5 (gcB m0 [x0, (shr a), x5] b)))) := by kernel_rfl
theorem ZFz : Zyo m0 x0 x2 x5 B =
 mk (callS false EE 127 [(shr x0)] B fun a b =>
 mk (callS true EE 149 [(shr x2)] b fun c d =>
 mk (ob (xnil PP .neq 94 (.slice none 0 0) (shr c)) fun e =>
 asB e fun f => br f (mk (ob (xbin PP .lss 3 (shr x2) (iv 97)) fun g =>
 Zqh (iv 0) c (shr g) d))
 (Zv9 m0 x0 x2 x5 (gcB m0 [x0, x2, x5] d))))) := by kernel_rfl
theorem ZDJ : Zv9 m0 x0 x2 x5 B =
 mk (callS false EE 150 [(shr x0), (shr x2), (shr x5)] B fun a b =>
 Zqh (shr a) nilA (bv false) b) := by kernel_rfl
theorem ZMj : EE 153 [x0] B =
 (let m0 := B.length
 mk (mk (ob (Z2l (shr x0)) fun a =>
 ob (xfld 1 a) fun b =>
 ob (ldN false 1 b B) fun c =>
 mk (callS false EE 127 [(shr x0)] B fun d e =>
 mk (ob (xbin PP .neq 3 (shr (shr d)) (iv 92)) fun f =>
 asB f fun g => br g (mk (Zqh (shr (shr (shr d))) nilA (bv false) e))
 (Zyn m0 x0 (shr c) (gcB m0 [x0, (shr c)] e))))))) := (E_eq PP XX HH _ _ _).trans (by kernel_rfl)
noncomputable def ZHL := Z39 Tryz.f154
def Zyv := l2 (l2 ZHL)
def ZtN := l1 (l1 (l2 (l1 (l2 ZHL))))
def ZEg := l2 (l2 ZtN)
def Zyq (m0 : Nat) : Kont := kret PP HH 154 Tryz.f154.results
def ZMl := kseq HH 154 m0 Zyv (exec PP HH 154 m0 EE LL Zyv (Zyq m0)) (Zyq m0)
def Zyr := kblk 0 (ZMl m0)
def ZEf := kloop HH 154 m0 ZtN (LL 154 m0 ZtN (Zyr m0)) (Zyr m0)
def ZoS := lp (LL 154 m0 ZtN (Zyr m0) [(0, x0), (1, x1), (7, x7), (8, x8)] B)
def Zys := exec PP HH 154 m0 EE LL ZEg (ZEf m0) [(0, x0), (1, x1), (7, x7), (8, x8)] B
def Zyu := exec PP HH 154 m0 EE LL Zyv (Zyq m0) [] B
def Zyt := exec PP HH 154 m0 EE LL (l2 ZEg) (ZEf m0) [(0, x0), (1, x1), (7, x7), (8, x8)] B
theorem ZFA : ZoS m0 x0 x1 x7 x8 B =
 mk (ob (xbin PP .lss 3 x8 x7) fun a =>
 asB a fun b => br b (Zys m0 x0 x1 x7 x8 (gcB m0 [x0, x1, x7, x8] B))
 (Zyu m0 (gcB m0 [] B))) := lq_ (by kernel_rfl)
theorem ZFB : Zys m0 x0 x1 x7 x8 B =
 mk (mk (ob (xidx 1 (shr x0) (shr (shr (shr x8)))) fun a =>
 ob (ldN false 1 a B) fun b =>
 callV HH EE (shr x1) [b] B fun c d =>
 asB c fun e => br e (mk (Z1j (shr (shr (shr (shr x8)))) d))
 (Zyt m0 x0 x1 x7 x8 (gcB m0 [x0, x1, x7, x8] d)))) := by kernel_rfl
theorem ZFD : Zyu m0 B =
 mk (Z1j (iv (-1)) B) := by kernel_rfl
theorem ZFC : Zyt m0 x0 x1 x7 x8 B =
 mk (ob (xbin PP .add 3 x8 (iv 1)) fun a =>
 ZoS m0 x0 x1 x7 (shr a) (gcB m0 [x0, x1, x7, (shr a)] B)) := by kernel_rfl
theorem ZMk : EE 154 [x0, x1] B =
 (let m0 := B.length
 mk (mk (ob (xlen PP 226 (shr x0)) fun a =>
 ZoS m0 x0 x1 a (iv 0) (gcB m0 [x0, x1, a, (iv 0)] B)))) := (E_eq PP XX HH _ _ _).trans (by kernel_rfl)
theorem ZMm : EE 155 [] B =
 (let m0 := B.length
 mk (mk (ob (xlit PP 226 4 [(0, (.p (.v (.string (ByteArray.mk #[63, 61]))))), (1, (.p (.v (.string (ByteArray.mk #[63, 33]))))), (2, (.p (.v (.string (ByteArray.mk #[63, 60, 61]))))), (3, (.p (.v (.string (ByteArray.mk #[63, 60, 33])))))]) fun a =>
 Z1j (shr a) B))) := (E_eq PP XX HH _ _ _).trans (by kernel_rfl)
noncomputable def ZHM := Z39 Tryz.f156
def Zyz := l2 (l2 (l2 ZHM))
def ZtO := l1 (l1 (l2 (l1 (l2 (l2 ZHM)))))
def Zyw (m0 : Nat) : Kont := kret PP HH 156 Tryz.f156.results
def ZMo := kseq HH 156 m0 Zyz (exec PP HH 156 m0 EE LL Zyz (Zyw m0)) (Zyw m0)
def Zyx := kblk 0 (ZMo m0)
def ZMp := kloop HH 156 m0 ZtO (LL 156 m0 ZtO (Zyx m0)) (Zyx m0)
def ZoT := lp (LL 156 m0 ZtO (Zyx m0) [(0, x0), (3, x3), (4, x4)] B)
def Zyy := exec PP HH 156 m0 EE LL (l2 ZtO) (ZMp m0) [(0, x0), (3, x3), (4, x4)] B
def ZoU := exec PP HH 156 m0 EE LL Zyz (Zyw m0) [(3, x3)] B
theorem ZFE : ZoT m0 x0 x3 x4 B =
 mk (ob (xbin PP .lss 3 (shr x4) (iv 2)) fun a =>
 asB (shr a) fun b => br b (callS false EE 104 [(shr x0)] B fun c d =>
 ob (xbin PP .geq 3 c (iv 48)) fun e =>
 asB (shr (shr e)) fun f => br f (callS false EE 104 [(shr x0)] d fun g h =>
 ob (xbin PP .leq 3 g (iv 57)) fun i =>
 asB (shr i) fun j => br j (Zyy m0 x0 x3 x4 (gcB m0 [x0, x3, x4] h))
 (ZoU m0 x3 (gcB m0 [x3] h)))
 (ZoU m0 x3 (gcB m0 [x3] d)))
 (ZoU m0 x3 (gcB m0 [x3] B))) := lq_ (by kernel_rfl)
theorem ZFF : Zyy m0 x0 x3 x4 B =
 mk (ob (Z9q PP true [(shr x3), (iv 0)]) fun a =>
 ob (xbin PP .mul 3 (iv 10) a) fun b =>
 callS false EE 127 [(shr x0)] B fun c d =>
 ob (xbin PP .add 3 b c) fun e =>
 ob (xbin PP .sub 3 e (iv 48)) fun f =>
 mk (ob (xbin PP .add 3 (shr x4) (iv 1)) fun g =>
 ZoT m0 x0 (shr f) (shr g) (gcB m0 [x0, (shr f), (shr g)] d))) := by kernel_rfl
theorem ZFG : ZoU m0 x3 B =
 mk (Z1j (shr (shr x3)) B) := by kernel_rfl
theorem ZMn : EE 156 [x0] B =
 (let m0 := B.length
 mk (mk (mk (ZoT m0 x0 (iv (-1)) (iv 0) (gcB m0 [x0, (iv (-1)), (iv 0)] B))))) := (E_eq PP XX HH _ _ _).trans (by kernel_rfl)
theorem ZMq : EE 166 [x0, x1] B =
 (let m0 := B.length
 mk (mk (callS false EE 179 [(shr x0), (shr x1)] B fun a b =>
 ob (xbin PP .geq 3 a (iv 0)) fun c =>
 Z1j (shr c) b))) := (E_eq PP XX HH _ _ _).trans (by kernel_rfl)
theorem ZMr : EE 167 [x0] B =
 (let m0 := B.length
 mk (bx x0 B fun a b =>
 mk (ob (ldN true 2 a b) fun c =>
 callS false EE 168 [c] b fun d e =>
 ob (xun PP .not d) fun f =>
 Z1j (shr f) e))) := (E_eq PP XX HH _ _ _).trans (by kernel_rfl)
theorem ZMs : EE 168 [x0] B =
 (let m0 := B.length
 mk (bx x0 B fun a b =>
 mk (ob (xfld 0 a) fun c =>
 ob (ldN false 1 c b) fun d =>
 ob (xbin PP .geq 3 d (iv 0)) fun e =>
 asB (shr e) fun f => br f (ob (xfld 0 a) fun g =>
 ob (ldN false 1 g b) fun h =>
 ob (xfld 1 a) fun i =>
 ob (ldN false 1 i b) fun j =>
 ob (xbin PP .leq 3 h j) fun k =>
 asB (shr (shr k)) fun l => br l (ob (xfld 1 a) fun n =>
 ob (ldN false 1 n b) fun o =>
 ob (xbin PP .leq 3 o (iv 1114367)) fun p =>
 Z1j (shr (shr p)) b)
 (Z1j (bv false) b))
 (Z1j (bv false) b)))) := (E_eq PP XX HH _ _ _).trans (by kernel_rfl)
noncomputable def ZHS := Z39 Tryz.f170
def ZyK := l2 (l2 (l2 ZHS))
def ZtR := l1 (l1 (l2 (l1 (l2 (l2 ZHS)))))
def Zmp := l2 (l2 ZtR)
def ZyJ := l2 (l2 (l1 (l1 Zmp)))
def ZyC (m0 : Nat) : Kont := kret PP HH 170 Tryz.f170.results
def ZMu := kseq HH 170 m0 ZyK (exec PP HH 170 m0 EE LL ZyK (ZyC m0)) (ZyC m0)
def ZyD := kblk 0 (ZMu m0)
def ZtP := kloop HH 170 m0 ZtR (LL 170 m0 ZtR (ZyD m0)) (ZyD m0)
def ZMv := kseq HH 170 m0 (l2 Zmp) (exec PP HH 170 m0 EE LL (l2 Zmp) (ZtP m0)) (ZtP m0)
def ZyE := kblk 1 (ZMv m0)
def ZMw := kseq HH 170 m0 ZyJ (exec PP HH 170 m0 EE LL ZyJ (ZyE m0)) (ZyE m0)
def ZoW := lp (LL 170 m0 ZtR (ZyD m0) [(3, x3), (6, x6), (7, x7), (8, x8)] B)
def ZyF := exec PP HH 170 m0 EE LL Zmp (ZtP m0) [(3, x3), (6, x6), (7, x7), (8, x8)] B
def ZyI := exec PP HH 170 m0 EE LL ZyK (ZyC m0) [] B
def ZtQ := exec PP HH 170 m0 EE LL (l1 (l2 (l1 (l2 (l1 (l1 Zmp)))))) (ZMw m0) [] B
def ZyG := exec PP HH 170 m0 EE LL ZyJ (ZyE m0) [(5, x5), (6, x6), (7, x7), (8, x8)] B
def ZyH := exec PP HH 170 m0 EE LL (l2 Zmp) (ZtP m0) [(3, x3), (6, x6), (7, x7), (8, x8)] B
theorem ZFJ : ZoW m0 x3 x6 x7 x8 B =
 mk (ob (xbin PP .lss 3 x8 x7) fun a =>
 asB a fun b => br b (ZyF m0 x3 x6 x7 x8 (gcB m0 [x3, x6, x7, x8] B))
 (ZyI m0 (gcB m0 [] B))) := lq_ (by kernel_rfl)
theorem ZFK : ZyF m0 x3 x6 x7 x8 B =
 mk (ob (xidx 2 x6 x8) fun a =>
 ob (ldN true 2 a B) fun b =>
 bz PP 201 B fun c d =>
 stN 2 c b d fun e =>
 mk (ob (ldN true 2 c e) fun f =>
 callS false EE 168 [f] e fun g h =>
 ob (xun PP .not g) fun i =>
 asB (shr i) fun j => br j (ZtQ m0 (gcB m0 [] h))
 (ob (xfld 0 c) fun k =>
 ob (ldN false 1 k h) fun l =>
 ob (xbin PP .add 3 (shr x3) (iv 2)) fun n =>
 ob (xbin PP .lss 3 l n) fun o =>
 asB (shr o) fun p => br p (ZtQ m0 (gcB m0 [] h))
 (ZyG m0 c x6 x7 x8 (gcB m0 [c, x6, x7, x8] h))))) := by kernel_rfl
theorem ZFO : ZyI m0 B =
 mk (Z1j (bv true) B) := by kernel_rfl
theorem ZFL : ZtQ m0 B =
 mk (Z1j (bv false) B) := by kernel_rfl
theorem ZFM : ZyG m0 x5 x6 x7 x8 B =
 mk (ob (xfld 1 x5) fun a =>
 ob (ldN false 1 a B) fun b =>
 ZyH m0 (shr b) x6 x7 x8 (gcB m0 [(shr b), x6, x7, x8] B)) := by kernel_rfl
theorem ZFN : ZyH m0 x3 x6 x7 x8 B =
 mk (ob (xbin PP .add 3 x8 (iv 1)) fun a =>
 ZoW m0 x3 x6 x7 (shr a) (gcB m0 [x3, x6, x7, (shr a)] B)) := by kernel_rfl
theorem ZMt : EE 170 [x0] B =
 (let m0 := B.length
 mk (mk (mk (ob (xlen PP 95 (shr x0)) fun a =>
 ZoW m0 (iv (-2)) (shr x0) a (iv 0) (gcB m0 [(iv (-2)), (shr x0), a, (iv 0)] B))))) := (E_eq PP XX HH _ _ _).trans (by kernel_rfl)
noncomputable def ZHT := Z39 Tryz.f171
def ZtW := l2 (l2 (l2 (l2 ZHT)))
def ZtV := l1 (l1 (l2 (l1 (l2 (l2 (l2 ZHT))))))
def ZoY := l2 (l2 ZtV)
def ZtS (m0 : Nat) : Kont := kret PP HH 171 Tryz.f171.results
def ZMy := kseq HH 171 m0 ZtW (exec PP HH 171 m0 EE LL ZtW (ZtS m0)) (ZtS m0)
def ZyL := kblk 0 (ZMy m0)
def ZtT := kloop HH 171 m0 ZtV (LL 171 m0 ZtV (ZyL m0)) (ZyL m0)
def ZMz := kseq HH 171 m0 (l2 ZoY) (exec PP HH 171 m0 EE LL (l2 ZoY) (ZtT m0)) (ZtT m0)
def ZMA := kblk 1 (ZMz m0)
def ZoX := lp (LL 171 m0 ZtV (ZyL m0) [(3, x3), (4, x4), (7, x7), (8, x8), (9, x9)] B)
def ZyM := exec PP HH 171 m0 EE LL ZoY (ZtT m0) [(3, x3), (4, x4), (7, x7), (8, x8), (9, x9)] B
def Zva := exec PP HH 171 m0 EE LL ZtW (ZtS m0) [(3, x3), (4, x4)] B
def ZtU := exec PP HH 171 m0 EE LL (l2 (l2 (l1 (l1 ZoY)))) (ZMA m0) [(3, x3), (6, x6), (7, x7), (8, x8), (9, x9)] B
def Zqi := exec PP HH 171 m0 EE LL (l2 ZtW) (ZtS m0) [(3, x3)] B
def ZyN := exec PP HH 171 m0 EE LL (l2 ZoY) (ZtT m0) [(3, x3), (4, x4), (7, x7), (8, x8), (9, x9)] B
theorem ZFP : ZoX m0 x3 x4 x7 x8 x9 B =
 mk (ob (xbin PP .lss 3 x9 x8) fun a =>
 asB a fun b => br b (ZyM m0 x3 x4 x7 x8 x9 (gcB m0 [x3, x4, x7, x8, x9] B))
 (Zva m0 x3 x4 (gcB m0 [x3, x4] B))) := lq_ (by kernel_rfl)
theorem ZFQ : ZyM m0 x3 x4 x7 x8 x9 B =
 mk (ob (xidx 2 x7 x9) fun a =>
 ob (ldN true 2 a B) fun b =>
 bz PP 201 B fun c d =>
 stN 2 c b d fun e =>
 mk (ob (xfld 0 c) fun f =>
 ob (ldN false 1 f e) fun g =>
 ob (xbin PP .lss 3 (shr x4) g) fun h =>
 asB h fun i => br i (mk (ob (xfld 0 c) fun j =>
 ob (ldN false 1 j e) fun k =>
 ob (xbin PP .sub 3 k (iv 1)) fun l =>
 ob (Z2a PP 201 [(0, (shr x4)), (1, l)]) fun n =>
 ob (xlit PP 95 1 [(0, n)]) fun o =>
 ob (xapp 2 x3 o) fun p =>
 ZtU m0 p c x7 x8 x9 (gcB m0 [p, c, x7, x8, x9] e)))
 (ZtU m0 x3 c x7 x8 x9 (gcB m0 [x3, c, x7, x8, x9] e)))) := by kernel_rfl
theorem ZDK : Zva m0 x3 x4 B =
 mk (ob (xbin PP .leq 3 (shr x4) (iv 1114367)) fun a =>
 asB a fun b => br b (mk (ob (Z2a PP 201 [(0, (shr x4)), (1, (iv 1114367))]) fun c =>
 ob (xlit PP 95 1 [(0, c)]) fun d =>
 ob (xapp 2 x3 d) fun e =>
 Zqi m0 e (gcB m0 [e] B)))
 (Zqi m0 x3 (gcB m0 [x3] B))) := by kernel_rfl
theorem ZFR : ZtU m0 x3 x6 x7 x8 x9 B =
 mk (ob (xfld 1 x6) fun a =>
 ob (ldN false 1 a B) fun b =>
 ob (xbin PP .add 3 b (iv 1)) fun c =>
 ZyN m0 x3 (shr c) x7 x8 x9 (gcB m0 [x3, (shr c), x7, x8, x9] B)) := by kernel_rfl
theorem ZDL : Zqi m0 x3 B =
 mk (Z1j (shr (shr x3)) B) := by kernel_rfl
theorem ZFS : ZyN m0 x3 x4 x7 x8 x9 B =
 mk (ob (xbin PP .add 3 x9 (iv 1)) fun a =>
 ZoX m0 x3 x4 x7 x8 (shr a) (gcB m0 [x3, x4, x7, x8, (shr a)] B)) := by kernel_rfl
theorem ZMx : EE 171 [x0] B =
 (let m0 := B.length
 mk (mk (mk (mk (ob (xlen PP 95 (shr x0)) fun a =>
 ZoX m0 nilA (iv 0) (shr x0) a (iv 0) (gcB m0 [nilA, (iv 0), (shr x0), a, (iv 0)] B)))))) := (E_eq PP XX HH _ _ _).trans (by kernel_rfl)
noncomputable def ZAM := Z39 Tryz.f172
def ZyS := l2 (l2 ZAM)
def ZEh := l2 (l2 (l1 (l1 (l2 ZAM))))
def ZyO (m0 : Nat) : Kont := kret PP HH 172 Tryz.f172.results
def ZMC := kseq HH 172 m0 ZyS (exec PP HH 172 m0 EE LL ZyS (ZyO m0)) (ZyO m0)
def ZyP := kblk 0 (ZMC m0)
def ZyQ := exec PP HH 172 m0 EE LL (l1 (l2 (l1 (l1 (l2 ZAM))))) (ZyP m0) [(0, x0)] B
def ZtX := exec PP HH 172 m0 EE LL ZEh (ZyP m0) [(0, x0)] B
def ZyR := exec PP HH 172 m0 EE LL (l1 (l2 ZEh)) (ZyP m0) [(0, x0)] B
def ZtY := exec PP HH 172 m0 EE LL ZyS (ZyO m0) [] B
theorem ZFT : ZyQ m0 x0 B =
 mk (ob (xbin PP .sub 3 (shr x0) (iv 48)) fun a =>
 Z1j (shr a) B) := by kernel_rfl
theorem ZFU : ZtX m0 x0 B =
 mk (ob (xbin PP .geq 3 (shr x0) (iv 97)) fun a =>
 asB (shr a) fun b => br b (ob (xbin PP .leq 3 (shr x0) (iv 102)) fun c =>
 asB (shr (shr c)) fun d => br d (ZyR m0 x0 (gcB m0 [x0] B))
 (ZtY m0 (gcB m0 [] B)))
 (ZtY m0 (gcB m0 [] B))) := by kernel_rfl
theorem ZFV : ZyR m0 x0 B =
 mk (ob (xbin PP .sub 3 (shr x0) (iv 97)) fun a =>
 ob (xbin PP .add 3 a (iv 10)) fun b =>
 Z1j (shr b) B) := by kernel_rfl
theorem ZFW : ZtY m0 B =
 mk (Z1j (iv (-1)) B) := by kernel_rfl
theorem ZMB : EE 172 [x0] B =
 (let m0 := B.length
 mk (mk (ob (xbin PP .geq 3 (shr x0) (iv 48)) fun a =>
 asB (shr a) fun b => br b (ob (xbin PP .leq 3 (shr x0) (iv 57)) fun c =>
 asB (shr (shr c)) fun d => br d (ZyQ m0 x0 (gcB m0 [x0] B))
 (ZtX m0 x0 (gcB m0 [x0] B)))
 (ZtX m0 x0 (gcB m0 [x0] B))))) := (E_eq PP XX HH _ _ _).trans (by kernel_rfl)
theorem ZMD : EE 173 [x0, x1] B =
 (let m0 := B.length
 mk (bx x1 B fun a b =>
 mk (callS false EE 184 [(shr x0), (.clo 185 ([].map nrmA) ([a].map nrmA))] b fun c d =>
 Z1j (shr c) d))) := (E_eq PP XX HH _ _ _).trans (by kernel_rfl)
noncomputable def ZHU := Z39 Tryz.f179
def ZyY := l2 (l2 ZHU)
def ZtZ := l1 (l1 (l2 (l1 (l2 ZHU))))
def ZEj := l2 (l2 ZtZ)
def ZyT (m0 : Nat) : Kont := kret PP HH 179 Tryz.f179.results
def ZMF := kseq HH 179 m0 ZyY (exec PP HH 179 m0 EE LL ZyY (ZyT m0)) (ZyT m0)
def ZyU := kblk 0 (ZMF m0)
def ZEi := kloop HH 179 m0 ZtZ (LL 179 m0 ZtZ (ZyU m0)) (ZyU m0)
def ZoZ := lp (LL 179 m0 ZtZ (ZyU m0) [(0, x0), (1, x1), (7, x7), (8, x8)] B)
def ZyV := exec PP HH 179 m0 EE LL ZEj (ZEi m0) [(0, x0), (1, x1), (7, x7), (8, x8)] B
def ZyX := exec PP HH 179 m0 EE LL ZyY (ZyT m0) [] B
def ZyW := exec PP HH 179 m0 EE LL (l2 ZEj) (ZEi m0) [(0, x0), (1, x1), (7, x7), (8, x8)] B
theorem ZFX : ZoZ m0 x0 x1 x7 x8 B =
 mk (ob (xbin PP .lss 3 x8 x7) fun a =>
 asB a fun b => br b (ZyV m0 x0 x1 x7 x8 (gcB m0 [x0, x1, x7, x8] B))
 (ZyX m0 (gcB m0 [] B))) := lq_ (by kernel_rfl)
theorem ZFY : ZyV m0 x0 x1 x7 x8 B =
 mk (mk (ob (xidx 2 (shr x0) (shr (shr (shr x8)))) fun a =>
 ob (ldN true 2 a B) fun b =>
 callV HH EE (shr x1) [b] B fun c d =>
 asB c fun e => br e (mk (Z1j (shr (shr (shr (shr x8)))) d))
 (ZyW m0 x0 x1 x7 x8 (gcB m0 [x0, x1, x7, x8] d)))) := by kernel_rfl
theorem ZG0 : ZyX m0 B =
 mk (Z1j (iv (-1)) B) := by kernel_rfl
theorem ZFZ : ZyW m0 x0 x1 x7 x8 B =
 mk (ob (xbin PP .add 3 x8 (iv 1)) fun a =>
 ZoZ m0 x0 x1 x7 (shr a) (gcB m0 [x0, x1, x7, (shr a)] B)) := by kernel_rfl
theorem ZME : EE 179 [x0, x1] B =
 (let m0 := B.length
 mk (mk (ob (xlen PP 94 (shr x0)) fun a =>
 ZoZ m0 x0 x1 a (iv 0) (gcB m0 [x0, x1, a, (iv 0)] B)))) := (E_eq PP XX HH _ _ _).trans (by kernel_rfl)
theorem ZMG : EE 184 [x0, x1] B =
 (let m0 := B.length
 mk (mk (callS false EE 191 [(shr x0), (shr x1)] B fun a b =>
 ob (xbin PP .geq 3 a (iv 0)) fun c =>
 Z1j (shr c) b))) := (E_eq PP XX HH _ _ _).trans (by kernel_rfl)
theorem ZMH : EE 185 [x0, x1] B =
 (let m0 := B.length
 mk (bx x0 B fun a b =>
 mk (ob (xfld 0 a) fun c =>
 ob (ldN false 1 c b) fun d =>
 ob (ldN false 1 x1 b) fun e =>
 ob (xbin PP .leq 3 d e) fun f =>
 asB (shr f) fun g => br g (ob (ldN false 1 x1 b) fun h =>
 ob (xfld 1 a) fun i =>
 ob (ldN false 1 i b) fun j =>
 ob (xbin PP .leq 3 h j) fun k =>
 Z1j (shr (shr k)) b)
 (Z1j (bv false) b)))) := (E_eq PP XX HH _ _ _).trans (by kernel_rfl)
noncomputable def ZHV := Z39 Tryz.f191
def Zz4 := l2 (l2 ZHV)
def Zu0 := l1 (l1 (l2 (l1 (l2 ZHV))))
def ZEl := l2 (l2 Zu0)
def ZyZ (m0 : Nat) : Kont := kret PP HH 191 Tryz.f191.results
def ZMJ := kseq HH 191 m0 Zz4 (exec PP HH 191 m0 EE LL Zz4 (ZyZ m0)) (ZyZ m0)
def Zz0 := kblk 0 (ZMJ m0)
def ZEk := kloop HH 191 m0 Zu0 (LL 191 m0 Zu0 (Zz0 m0)) (Zz0 m0)
def Zp0 := lp (LL 191 m0 Zu0 (Zz0 m0) [(0, x0), (1, x1), (7, x7), (8, x8)] B)
def Zz1 := exec PP HH 191 m0 EE LL ZEl (ZEk m0) [(0, x0), (1, x1), (7, x7), (8, x8)] B
def Zz3 := exec PP HH 191 m0 EE LL Zz4 (ZyZ m0) [] B
def Zz2 := exec PP HH 191 m0 EE LL (l2 ZEl) (ZEk m0) [(0, x0), (1, x1), (7, x7), (8, x8)] B
theorem ZG1 : Zp0 m0 x0 x1 x7 x8 B =
 mk (ob (xbin PP .lss 3 x8 x7) fun a =>
 asB a fun b => br b (Zz1 m0 x0 x1 x7 x8 (gcB m0 [x0, x1, x7, x8] B))
 (Zz3 m0 (gcB m0 [] B))) := lq_ (by kernel_rfl)
theorem ZG2 : Zz1 m0 x0 x1 x7 x8 B =
 mk (mk (ob (xidx 2 (shr x0) (shr (shr (shr x8)))) fun a =>
 ob (ldN true 2 a B) fun b =>
 callV HH EE (shr x1) [b] B fun c d =>
 asB c fun e => br e (mk (Z1j (shr (shr (shr (shr x8)))) d))
 (Zz2 m0 x0 x1 x7 x8 (gcB m0 [x0, x1, x7, x8] d)))) := by kernel_rfl
theorem ZG4 : Zz3 m0 B =
 mk (Z1j (iv (-1)) B) := by kernel_rfl
theorem ZG3 : Zz2 m0 x0 x1 x7 x8 B =
 mk (ob (xbin PP .add 3 x8 (iv 1)) fun a =>
 Zp0 m0 x0 x1 x7 (shr a) (gcB m0 [x0, x1, x7, (shr a)] B)) := by kernel_rfl
theorem ZMI : EE 191 [x0, x1] B =
 (let m0 := B.length
 mk (mk (ob (xlen PP 95 (shr x0)) fun a =>
 Zp0 m0 x0 x1 a (iv 0) (gcB m0 [x0, x1, a, (iv 0)] B)))) := (E_eq PP XX HH _ _ _).trans (by kernel_rfl)
end Go.Proofs.YteoeggbihfnbfaaGreatDoor.N2
end
