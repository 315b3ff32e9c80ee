/- The functions' equations, by the evaluator. No condition. -/
import Derived.Test.YtbmmhbpalkepeaaEvA
import Derived.Test.YtbmmhbpalkepeaaProg
import Derived.KernelRfl
import Derived.Test.YtbmmhbpalkepeaaExt

set_option linter.unusedSimpArgs false
set_option linter.unusedVariables false
set_option linter.defProp false
section
namespace Go.Proofs.Ytbmmhbpalkepeaa.N2
open Go Go.Abs
def Zf8 : FuncId → Nat → Option (List Nat) := fun f r => (([(3, [(4, []), (10, []), (12, [3, 4, 5, 7, 85, 86]), (15, []), (16, [3, 4, 5, 7, 85, 86]), (13, [3, 4, 5, 7, 85, 86]), (18, [3, 4, 5, 7, 99, 100, 101]), (21, [3, 4, 5, 7, 14, 99, 100, 101, 106, 107, 108]), (25, [3, 4, 5, 7, 14, 99, 100, 101, 106, 107, 108]), (22, [3, 4, 5, 7, 14, 99, 100, 101, 106, 107, 108]), (26, [3, 4, 5, 7, 99, 100, 101]), (19, [3, 4, 5, 7, 99, 100, 101]), (30, []), (31, [4, 17, 19]), (27, [3, 4, 5, 7]), (17, [3, 4, 5, 7]), (11, [3, 4, 5, 7]), (8, [3, 4, 5, 7]), (5, [3, 4, 5]), (3, [3, 4, 5])]),
 (4, [(12, [2, 3, 5, 7, 43, 44]), (13, [2, 3, 5, 7, 43, 44]), (17, [3, 5, 7, 55, 56]), (18, [3, 5, 7, 55, 56]), (21, [5, 7]), (16, [3, 5, 7]), (9, [2, 3, 5]), (5, [2, 3]), (3, [2, 3])]),
 (5, [(11, [1, 4, 5, 6, 7]), (5, [1]), (3, [1])]),
 (6, [(8, []), (11, [2, 7, 10, 11, 12, 60, 61, 62]), (15, [2, 7, 10, 11, 12, 60, 61, 62]), (12, [2, 7, 10, 11, 12, 60, 61, 62]), (16, [7, 10, 11, 12]), (9, [2, 3, 7, 10]), (5, [2, 3, 4]), (3, [2, 3, 4])]),
 (7, [(4, []), (18, [3, 10, 11, 12, 13, 15, 17, 18]), (10, [2, 3, 5, 6, 9]), (5, [2, 3]), (3, [2, 3])]),
 (8, [(4, []), (7, [5, 6]), (10, []), (13, [2, 3, 5, 9, 78, 79, 80]), (17, []), (18, [2, 3, 5, 11, 78, 79, 80]), (19, [2, 3, 5, 9, 78, 79, 80]), (14, [2, 3, 5, 9, 78, 79, 80]), (22, [2, 3, 5, 9, 107, 108, 109]), (26, [2, 3, 5, 15, 107, 108, 109]), (27, [2, 3, 5, 9, 107, 108, 109]), (23, [2, 3, 5, 9, 107, 108, 109]), (28, [2, 3, 5]), (20, [2, 3, 5]), (11, [2, 3, 5]), (8, [2, 3, 5, 6]), (5, [2, 3]), (3, [2, 3])]),
 (9, [(12, [6, 34, 35, 36]), (16, [6, 34, 35, 36]), (13, [6, 34, 35, 36]), (17, []), (11, [5, 6]), (8, [1, 2, 5]), (5, [1, 2]), (3, [1, 2])]),
 (12, [(9, [4]), (14, [3, 4, 6, 7, 54, 55, 56]), (15, [3, 4, 6, 7, 54, 55, 56]), (19, [3, 4, 6, 7, 66, 67, 68]), (24, [3, 4, 6, 7, 11, 66, 67, 68]), (25, [3, 4, 6, 7, 66, 67, 68]), (20, [3, 4, 6, 7, 66, 67, 68]), (27, [4, 6, 7, 85, 86, 87]), (28, [4, 6, 7, 85, 86, 87]), (35, [4, 6, 7, 103, 104, 105]), (36, [4, 6, 7, 103, 104, 105]), (39, [4, 6]), (33, [4, 6, 7]), (31, [4, 6, 7]), (26, [3, 4, 6, 7]), (18, [3, 4, 6, 7]), (12, [2, 3, 4, 6]), (10, [2, 3, 4, 6]), (3, [2, 3, 4])]),
 (13, [(2, []), (4, [2, 3, 5]), (5, [2, 3, 5]), (6, [2, 3, 5]), (8, []), (3, [2, 3])]),
 (14, [(3, [2, 3, 16, 17, 18]), (4, [2, 3, 16, 17, 18]), (7, [2, 3])]),
 (15, [(3, [3, 11, 12, 13]), (4, [3, 11, 12, 13]), (7, [3])]),
 (16, [(2, []), (5, [3, 16, 17, 18]), (8, []), (9, [5, 16, 17, 18]), (10, [3, 16, 17, 18]), (6, [3, 16, 17, 18]), (11, []), (3, [1])]),
 (17, [(7, [2, 3, 4, 6, 7]), (8, [2, 3, 4, 6, 7]), (9, [2, 3, 4, 6, 7]), (14, [2, 3, 4, 6, 8]), (15, [2, 3, 4, 6, 8]), (16, [2, 3, 4, 6, 8]), (19, [2, 3, 4, 6, 9]), (23, [2, 3, 4, 6, 9, 10, 11]), (25, [2, 3, 4, 6, 9, 10, 11]), (26, [2, 3, 4, 6, 9, 10]), (20, [2, 3, 4, 6, 9]), (21, [2, 3, 4, 6, 9]), (29, [3, 4, 6, 12]), (31, [3, 4, 6, 12]), (34, [4, 6]), (32, [4, 6]), (28, [3, 4, 6]), (18, [2, 3, 4, 6]), (13, [2, 3, 4, 6]), (11, [2, 3, 4, 6]), (6, [2, 3, 4, 6]), (3, [2, 3, 4])]),
 (18, [(3, [2, 3, 18, 19, 20]), (4, [2, 3, 18, 19, 20]), (7, [2, 3])]),
 (19, [(2, []), (4, [1, 3]), (7, []), (5, [1, 3]), (6, [1, 3]), (8, []), (3, [1])]),
 (20, [(2, [1, 4, 9, 10, 11]), (6, [1, 4, 9, 10, 11]), (3, [1, 4, 9, 10, 11]), (7, [4])]),
 (22, [(2, [4]), (5, [2, 3, 4, 6, 46, 47, 48]), (9, [2, 3, 4, 6, 8, 46, 47, 48]), (10, [2, 3, 4, 6, 46, 47, 48]), (6, [2, 3, 4, 6, 46, 47, 48]), (12, [3, 4, 6, 74, 75, 76]), (17, [3, 4, 6, 74, 75, 76]), (13, [3, 4, 6, 74, 75, 76]), (18, [4, 6]), (11, [2, 3, 4, 6]), (3, [2, 3, 4])]),
 (23, [(5, [1, 2, 5, 12, 13, 14]), (9, [1, 2, 5, 12, 13, 14]), (6, [1, 2, 5, 12, 13, 14]), (10, [2, 5]), (3, [1, 2])]),
 (24, [(3, [1, 2, 5, 6]), (6, [1, 2, 5, 6, 7]), (9, [1, 2, 5, 6, 7]), (7, [1, 2, 5, 6, 7]), (8, [1, 2, 5, 6, 7]), (4, [1, 2, 5, 6]), (5, [1, 2, 5, 6]), (10, [5])]),
 (32, [(3, [0])]),
 (35, [(3, [1, 3, 4]), (5, [1, 3, 4]), (8, [3, 5]), (11, [3, 5, 6]), (12, [3, 5, 6]), (13, [3, 5, 6]), (9, [3, 5]), (10, [3, 5]), (15, []), (6, [1, 3])]),
 (36, [(2, [0, 1, 5]), (3, [0, 1, 5]), (4, [0, 1, 5]), (6, [])]),
 (37, [(4, [0, 3, 5, 6, 7]), (7, [0, 3, 5, 7]), (9, [0, 3, 5, 6, 7]), (5, [0, 3, 5, 6, 7]), (6, [0, 3, 5, 6, 7]), (13, [5]), (11, [3, 5, 6])]),
 (38, [(3, [1])]),
 (41, [(6, []), (13, []), (11, [0, 1]), (9, [0, 1]), (7, [0, 1, 6])]),
 (52, [(2, [0, 1, 7, 8]), (6, [0, 1, 7, 8]), (3, [0, 1, 7, 8]), (7, [])]),
 (53, [(2, [0, 1, 7, 8]), (6, [0, 1, 7, 8]), (3, [0, 1, 7, 8]), (7, [])])] : List (Nat × List (Nat × List Nat))).lookup f).bind (·.lookup r)
def ownT : FuncId → List Nat := fun f =>
 if f = 12 then [110] else
 if f = 14 then [23] else
 if f = 15 then [3, 17] else
 if f = 17 then [109] else
 if f = 18 then [25] else
 if f = 22 then [67, 90] else
 if f = 23 then [5, 24] else
 if f = 24 then [5, 38] else
 if f = 35 then [3, 14, 23] else
 if f = 37 then [5, 26, 38, 47] else
 []
def rawT : FuncId → Bool := fun f => false
def Zff : FuncId → List Nat := fun f => []
def HH : Hints := ⟨Zf8, ownT, rawT, Zff⟩
def XX : FuncId → Option (List AV → List Row → Option Res) := fun f => if f = 30 then some Z5C else if f = 39 then some ZdZ else none
noncomputable abbrev PP : Program := Try.prog
noncomputable abbrev EE : GF := E PP XX HH
noncomputable abbrev LL : LF := L PP XX HH
end Go.Proofs.Ytbmmhbpalkepeaa.N2
end
noncomputable section
namespace Go.Proofs.Ytbmmhbpalkepeaa.N2
open Go Go.Abs
set_option maxRecDepth 100000
variable (m0 : Nat) (x0 x1 x2 x3 x4 x5 x6 x7 x8 x9 x10 x11 x12 x13 x14 x15 x16 x17 x18 x19 x20 x34 x35 x36 x43 x44 x46 x47 x48 x54 x55 x56 x60 x61 x62 x66 x67 x68 x74 x75 x76 x78 x79 x80 x85 x86 x87 x99 x100 x101 x103 x104 x105 x106 x107 x108 x109 : AV) (B : List Row)
theorem lq_ {f m0 : Nat} {c : Code} {K : Kont} {sl : Sl} {B : List Row} {r : Option Res} (h : exec PP HH f m0 EE LL c (kloop HH f m0 c (LL f m0 c K) K) sl B = r) : LL f m0 c K sl B = r := (L_eq PP XX HH f m0 c K sl B).trans h
def ZmD := Z3c Try.f3
def Zms := l2 (l2 ZmD)
def Zev := l2 (l2 (l2 Zms))
def Zmt := l1 (l1 (l2 (l1 (l2 Zev))))
def ZR (r0 : AV) (B : List Row) : Option Res :=
 ob (ob (some r0) fun v => ob (some []) fun vs => some (v :: vs)) fun vs => some ((nrmA (match vs with | [v] => v | vs => Z2P (vs.map shr))), B)
def ZiW (m0 : Nat) : Kont := kret PP HH 3 Try.f3.results
def Zmq := kseq HH 3 m0 (l2 (l2 Zev)) (exec PP HH 3 m0 EE LL (l2 (l2 Zev)) (ZiW m0)) (ZiW m0)
def Zmr := kblk 0 (Zmq m0)
def Zlc := lp (LL 3 m0 Zmt (Zmr m0) [(3, x3), (4, x4), (5, x5), (7, x7), (85, x85), (86, x86)] B)
def Z3w := Z3c Try.f9
def Zex := l2 (l2 Z3w)
def Zj0 := l2 (l2 (l2 Zex))
def Z98 := l2 (l2 Zj0)
def Zb3 := l1 (l1 (l2 (l1 Z98)))
def Zj1 := l2 (l2 Zb3)
def Z2G (m0 : Nat) : Kont := kret PP HH 9 Try.f9.results
def Zew := kseq HH 9 m0 (l2 Z98) (exec PP HH 9 m0 EE LL (l2 Z98) (Z2G m0)) (Z2G m0)
def Z5L := kblk 0 (Zew m0)
def Z97 := kloop HH 9 m0 Zb3 (LL 9 m0 Zb3 (Z5L m0)) (Z5L m0)
def Z7y := exec PP HH 9 m0 EE LL Zex (Z2G m0) [(1, x1), (2, x2)] B
def Z7z := exec PP HH 9 m0 EE LL (l2 Zex) (Z2G m0) [(1, x1), (2, x2)] B
def Z7A := exec PP HH 9 m0 EE LL Zj0 (Z2G m0) [(1, x1), (2, x2), (5, x5)] B
def Z5i := exec PP HH 9 m0 EE LL Z98 (Z2G m0) [(5, x5), (6, x6)] B
def Z3e := lp (LL 9 m0 Zb3 (Z5L m0) [(6, x6), (34, x34), (35, x35), (36, x36)] B)
def Z5j := exec PP HH 9 m0 EE LL Zj1 (Z97 m0) [(6, x6), (34, x34), (35, x35), (36, x36)] B
def Z5l := exec PP HH 9 m0 EE LL (l2 Z98) (Z2G m0) [] B
def Z5k := exec PP HH 9 m0 EE LL (l2 Zj1) (Z97 m0) [(6, x6), (34, x34), (35, x35), (36, x36)] B
theorem ZbT : Z7y m0 x1 x2 B =
 mk (ob (ldN true 5 x2 B) fun a =>
 ob (Z2u PP 27 []) fun b =>
 callS false EE 11 [a, b] B fun c d =>
 ob (xun PP .not c) fun e =>
 asB e fun f => br f (mk (ZR (bv true) d))
 (Z7z m0 x1 x2 (gcB m0 [x1, x2] d))) := by kernel_rfl
theorem ZbU : Z7z m0 x1 x2 B =
 mk (ob (ldN true 5 x2 B) fun a =>
 callS false EE 23 [a, (shr x1)] B fun b c =>
 mk (ob (ldN true 5 x2 c) fun d =>
 callS false EE 14 [d] c fun e f =>
 callS false EE 19 [e] f fun g h =>
 ob (xun PP .not g) fun i =>
 asB i fun j => br j (mk (ob (xlen PP 25 (shr (shr b))) fun k =>
 ob (xbin PP .eql 3 k (iv 0)) fun l =>
 ZR (shr l) h))
 (Z7A m0 x1 x2 (shr b) (gcB m0 [x1, x2, (shr b)] h)))) := by kernel_rfl
theorem ZbV : Z7A m0 x1 x2 x5 B =
 mk (ob (ldN true 5 x2 B) fun a =>
 callS false EE 14 [a] B fun b c =>
 callS false EE 24 [b, (shr x1)] c fun d e =>
 mk (ob (xlen PP 25 (shr x5)) fun f =>
 ob (xlen PP 25 (shr (shr d))) fun g =>
 ob (xbin PP .neq 3 f g) fun h =>
 asB h fun i => br i (mk (ZR (bv false) e))
 (Z5i m0 x5 (shr d) (gcB m0 [x5, (shr d)] e)))) := by kernel_rfl
theorem Zao : Z5i m0 x5 x6 B =
 mk (ob (xlen PP 25 (shr x5)) fun a =>
 Z3e m0 x6 (shr x5) a (iv 0) (gcB m0 [x6, (shr x5), a, (iv 0)] B)) := by kernel_rfl
theorem Zan : Z3e m0 x6 x34 x35 x36 B =
 mk (ob (xbin PP .lss 3 x36 x35) fun a =>
 asB a fun b => br b (Z5j m0 x6 x34 x35 x36 (gcB m0 [x6, x34, x35, x36] B))
 (Z5l m0 (gcB m0 [] B))) := lq_ (by kernel_rfl)
theorem Zap : Z5j m0 x6 x34 x35 x36 B =
 mk (ob (xidx 1 x34 x36) fun a =>
 ob (ldN false 1 a B) fun b =>
 mk (ob (xidx 1 (shr x6) (shr (shr (shr x36)))) fun c =>
 ob (ldN false 1 c B) fun d =>
 ob (xbin PP .neq 3 (shr (shr b)) d) fun e =>
 asB e fun f => br f (mk (ZR (bv false) B))
 (Z5k m0 x6 x34 x35 x36 (gcB m0 [x6, x34, x35, x36] B)))) := by kernel_rfl
theorem Zar : Z5l m0 B =
 mk (ZR (bv true) B) := by kernel_rfl
theorem Zaq : Z5k m0 x6 x34 x35 x36 B =
 mk (ob (xbin PP .add 3 x36 (iv 1)) fun a =>
 Z3e m0 x6 x34 x35 (shr a) (gcB m0 [x6, x34, x35, (shr a)] B)) := by kernel_rfl
theorem ZiZ : EE 9 [x0, x1] B =
 (let m0 := B.length
 mk (bx x0 B fun a b =>
 mk (callS false EE 10 [] b fun c d =>
 ob (xun PP .not c) fun e =>
 asB e fun f => br f (mk (ZR (bv false) d))
 (Z7y m0 x1 a (gcB m0 [x1, a] d))))) := (E_eq PP XX HH _ _ _).trans (by kernel_rfl)
theorem ZkC : EE 10 [] B =
 (let m0 := B.length
 mk (mk (callS false EE 25 [] B fun a b =>
 ob (Z2u PP 43 [(0, (iv 3)), (3, (iv 1)), (4, (.p (.v (.string (ByteArray.mk #[97])))))]) fun c =>
 ob (xlit PP 22 1 [(0, c)]) fun d =>
 ob (Z2u PP 27 [(0, (iv (-1))), (1, (iv 7)), (2, (iv (-1))), (3, (iv (-1))), (4, d)]) fun e =>
 callS false EE 12 [a, e] b fun f g =>
 ob (xext 0 (shr f)) fun h =>
 ob (xext 1 (shr f)) fun i =>
 bz PP 24 g fun j k =>
 stN 5 j (shr h) k fun l =>
 mk (ob (xbin PP .eql 30 (shr (shr (shr i))) (iv 0)) fun n =>
 asB (shr n) fun o => br o (ob (xfld 1 j) fun q =>
 ob (ldN false 1 q l) fun r =>
 ob (xbin PP .eql 3 r (iv 7)) fun s =>
 asB (shr (shr s)) fun t => br t (ob (xfld 4 j) fun u =>
 ob (ldN false 1 u l) fun w =>
 ob (xlen PP 22 w) fun x =>
 ob (xbin PP .eql 3 x (iv 1)) fun y =>
 asB (shr (shr y)) fun z => br z (ob (xfld 4 j) fun A =>
 ob (ldN false 1 A l) fun C =>
 ob (xidx 5 C (iv 0)) fun D =>
 ob (xfld 0 D) fun F =>
 ob (ldN false 1 F l) fun G =>
 ob (xbin PP .eql 3 G (iv 3)) fun I =>
 asB (shr (shr I)) fun J => br J (ob (xfld 2 j) fun M =>
 ob (ldN false 1 M l) fun N =>
 ob (xbin PP .eql 3 N (iv 10000)) fun O =>
 ZR (shr (shr O)) l)
 (ZR (bv false) l))
 (ZR (bv false) l))
 (ZR (bv false) l))
 (ZR (bv false) l))))) := (E_eq PP XX HH _ _ _).trans (by kernel_rfl)
theorem ZkD : EE 11 [x0, x1] B =
 (let m0 := B.length
 mk (bx x0 B fun a b =>
 bx x1 b fun c d =>
 mk (ob (xfld 4 a) fun e =>
 ob (ldN false 1 e d) fun f =>
 ob (xlen PP 22 f) fun g =>
 ob (xbin PP .leq 3 g (iv 40)) fun h =>
 asB (shr h) fun i => br i (ob (xfld 4 c) fun j =>
 ob (ldN false 1 j d) fun k =>
 ob (xlen PP 22 k) fun l =>
 ob (xbin PP .leq 3 l (iv 40)) fun n =>
 asB (shr (shr n)) fun o => br o (ob (xfld 5 c) fun p =>
 ob (ldN false 1 p d) fun q =>
 ob (xlen PP 25 q) fun r =>
 ob (xbin PP .leq 3 r (iv 40)) fun s =>
 ZR (shr (shr s)) d)
 (ZR (bv false) d))
 (ZR (bv false) d)))) := (E_eq PP XX HH _ _ _).trans (by kernel_rfl)
def Zmp := Z3c Try.f12
def Zbk := l2 (l2 Zmp)
def Z5e := l2 (l2 (l2 (l2 (l2 (l2 Zbk)))))
def Z2s := l2 (l2 (l2 Z5e))
def Z8M := l1 (l1 (l2 (l1 (l2 (l2 Z5e)))))
def Z8N := l1 (l1 (l2 (l1 Z2s)))
def Zbl := l2 (l2 (l2 (l2 (l2 Z2s))))
def Z8O := l1 (l1 (l2 (l1 (l2 Z2s))))
def Z6x := l2 (l2 Z8N)
def Z8P := l1 (l1 (l2 (l1 (l2 (l2 (l2 (l2 Z2s)))))))
def Z4p (r0 r1 : AV) (B : List Row) : Option Res :=
 ob (ob (ldN true 5 r0 B) fun v => ob (ob (some r1) fun v => ob (some []) fun vs => some (v :: vs)) fun vs => some (v :: vs)) fun vs => some ((nrmA (match vs with | [v] => v | vs => Z2P (vs.map shr))), B)
def Z1Z (m0 : Nat) : Kont := kret PP HH 12 Try.f12.results
def ZkF := kseq HH 12 m0 Z5e (exec PP HH 12 m0 EE LL Z5e (Z1Z m0)) (Z1Z m0)
def ZkG := kseq HH 12 m0 Z2s (exec PP HH 12 m0 EE LL Z2s (Z1Z m0)) (Z1Z m0)
def Zbh := kblk 0 (ZkG m0)
def ZkH := kloop HH 12 m0 Z8M (LL 12 m0 Z8M (Zbh m0)) (Zbh m0)
def ZkI := kseq HH 12 m0 (l2 Z2s) (exec PP HH 12 m0 EE LL (l2 Z2s) (Z1Z m0)) (Z1Z m0)
def Zbi := kblk 2 (ZkI m0)
def Z8K := kloop HH 12 m0 Z8N (LL 12 m0 Z8N (Zbi m0)) (Zbi m0)
def ZkJ := kseq HH 12 m0 (l2 Z6x) (exec PP HH 12 m0 EE LL (l2 Z6x) (Z8K m0)) (Z8K m0)
def ZkK := kblk 3 (ZkJ m0)
def Zjn := kseq HH 12 m0 (l2 (l2 Z2s)) (exec PP HH 12 m0 EE LL (l2 (l2 Z2s)) (Z1Z m0)) (Z1Z m0)
def Z9O := kblk 4 (Zjn m0)
def Zjo := kloop HH 12 m0 Z8O (LL 12 m0 Z8O (Z9O m0)) (Z9O m0)
def Zjp := kseq HH 12 m0 Zbl (exec PP HH 12 m0 EE LL Zbl (Z1Z m0)) (Z1Z m0)
def Z9P := kblk 6 (Zjp m0)
def Zjq := kloop HH 12 m0 Z8P (LL 12 m0 Z8P (Z9P m0)) (Z9P m0)
def Zbj := exec PP HH 12 m0 EE LL Zbk (Z1Z m0) [(2, x2), (3, x3), (4, x4)] B
def Z8L := exec PP HH 12 m0 EE LL (l1 (l2 (l1 (l2 (l2 (l2 (l2 (l2 Zbk)))))))) (ZkF m0) [(4, x4)] B
def Z9Q := exec PP HH 12 m0 EE LL Z5e (Z1Z m0) [(2, x2), (3, x3), (4, x4), (6, x6)] B
def Z9R := exec PP HH 12 m0 EE LL (l2 Z5e) (Z1Z m0) [(2, x2), (3, x3), (4, x4), (6, x6)] B
def Z5a := lp (LL 12 m0 Z8M (Zbh m0) [(3, x3), (4, x4), (6, x6), (7, x7), (54, x54), (55, x55), (56, x56)] B)
def Z9S := exec PP HH 12 m0 EE LL (l2 (l2 Z8M)) (ZkH m0) [(3, x3), (4, x4), (6, x6), (7, x7), (54, x54), (55, x55), (56, x56)] B
def Z9T := exec PP HH 12 m0 EE LL Z2s (Z1Z m0) [(3, x3), (4, x4), (6, x6), (7, x7)] B
def Z5b := lp (LL 12 m0 Z8N (Zbi m0) [(3, x3), (4, x4), (6, x6), (7, x7), (66, x66), (67, x67), (68, x68)] B)
def Z9U := exec PP HH 12 m0 EE LL Z6x (Z8K m0) [(3, x3), (4, x4), (6, x6), (7, x7), (66, x66), (67, x67), (68, x68)] B
def Z9X := exec PP HH 12 m0 EE LL (l2 Z2s) (Z1Z m0) [(3, x3), (4, x4), (6, x6), (7, x7)] B
def Z9V := exec PP HH 12 m0 EE LL (l2 (l2 (l1 (l1 Z6x)))) (ZkK m0) [(3, x3), (4, x4), (6, x6), (7, x7), (11, x11), (66, x66), (67, x67), (68, x68)] B
def Z5c := lp (LL 12 m0 Z8O (Z9O m0) [(4, x4), (6, x6), (7, x7), (85, x85), (86, x86), (87, x87)] B)
def Z9W := exec PP HH 12 m0 EE LL (l2 Z6x) (Z8K m0) [(3, x3), (4, x4), (6, x6), (7, x7), (66, x66), (67, x67), (68, x68)] B
def Z9Y := exec PP HH 12 m0 EE LL (l2 (l2 Z8O)) (Zjo m0) [(4, x4), (6, x6), (7, x7), (85, x85), (86, x86), (87, x87)] B
def Z9Z := exec PP HH 12 m0 EE LL (l2 (l2 Z2s)) (Z1Z m0) [(4, x4), (6, x6), (7, x7)] B
def Za0 := exec PP HH 12 m0 EE LL (l2 (l2 (l2 Z2s))) (Z1Z m0) [(4, x4), (6, x6), (7, x7)] B
def Z5d := lp (LL 12 m0 Z8P (Z9P m0) [(4, x4), (6, x6), (7, x7), (103, x103), (104, x104), (105, x105)] B)
def Za1 := exec PP HH 12 m0 EE LL (l2 (l2 Z8P)) (Zjq m0) [(4, x4), (6, x6), (7, x7), (103, x103), (104, x104), (105, x105)] B
def Za2 := exec PP HH 12 m0 EE LL Zbl (Z1Z m0) [(4, x4), (6, x6)] B
theorem ZfR : Zbj m0 x2 x3 x4 B =
 mk (ob (ldN true 5 x2 B) fun a =>
 bz PP 24 B fun b c =>
 stN 5 b a c fun d =>
 mk (ob (xfld 0 b) fun e =>
 ob (xfld 0 x3) fun f =>
 ob (ldN false 1 f d) fun g =>
 callS false EE 26 [e, g] d fun h i =>
 mk (ob (xfld 1 b) fun j =>
 ob (xfld 1 x3) fun k =>
 ob (ldN false 1 k i) fun l =>
 callS false EE 26 [j, l] i fun n o =>
 mk (ob (xfld 2 b) fun p =>
 ob (xfld 2 x3) fun q =>
 ob (ldN false 1 q o) fun r =>
 callS false EE 26 [p, r] o fun s t =>
 mk (ob (xfld 3 b) fun u =>
 ob (xfld 3 x3) fun v =>
 ob (ldN false 1 v t) fun w =>
 callS false EE 26 [u, w] t fun x y =>
 mk (ob (ldN true 5 b y) fun z =>
 callS false EE 27 [z] y fun A C =>
 ob (xun PP .not A) fun D =>
 asB (shr D) fun F => br F (Z8L m0 x4 (gcB m0 [x4] C))
 (ob (xfld 4 x3) fun G =>
 ob (ldN false 1 G C) fun I =>
 callS false EE 28 [I, (.clo 21 [] [])] C fun J M =>
 ob (xun PP .not J) fun N =>
 asB (shr N) fun O => br O (Z8L m0 x4 (gcB m0 [x4] M))
 (Z9Q m0 x2 x3 x4 b (gcB m0 [x2, x3, x4, b] M))))))))) := by kernel_rfl
theorem ZfS : Z8L m0 x4 B =
 mk (ob (Z2u PP 24 []) fun a =>
 stN 5 x4 a B fun b =>
 Z4p x4 (iv 30) b) := by kernel_rfl
theorem Zef : Z9Q m0 x2 x3 x4 x6 B =
 mk (ob (ldN true 6 x3 B) fun a =>
 callS false EE 29 [a] B fun b c =>
 asB b fun d => br d (mk (ob (Z2u PP 24 []) fun e =>
 stN 5 x4 e c fun f =>
 Z4p x4 (iv 31) f))
 (Z9R m0 x2 x3 x4 x6 (gcB m0 [x2, x3, x4, x6] c))) := by kernel_rfl
theorem Zeg : Z9R m0 x2 x3 x4 x6 B =
 mk (xmake PP 64 B fun a b =>
 mk (ob (xfld 4 x2) fun c =>
 ob (ldN false 1 c b) fun d =>
 ob (xlen PP 22 d) fun e =>
 Z5a m0 x3 x4 x6 (shr a) d e (iv 0) (gcB m0 [x3, x4, x6, (shr a), d, e, (iv 0)] b))) := by kernel_rfl
theorem Zeb : Z5a m0 x3 x4 x6 x7 x54 x55 x56 B =
 mk (ob (xbin PP .lss 3 x56 x55) fun a =>
 asB a fun b => br b (Z9S m0 x3 x4 x6 x7 x54 x55 x56 (gcB m0 [x3, x4, x6, x7, x54, x55, x56] B))
 (Z9T m0 x3 x4 x6 x7 (gcB m0 [x3, x4, x6, x7] B))) := lq_ (by kernel_rfl)
theorem Zeh : Z9S m0 x3 x4 x6 x7 x54 x55 x56 B =
 mk (ob (xidx 5 x54 x56) fun a =>
 ob (ldN true 5 a B) fun b =>
 bz PP 43 B fun c d =>
 stN 5 c b d fun e =>
 mk (ob (xfld 0 c) fun f =>
 ob (ldN false 1 f e) fun g =>
 ob (ldN true 5 c e) fun h =>
 xupd PP 64 (shr x7) g h e fun i =>
 mk (ob (xbin PP .add 3 x56 (iv 1)) fun j =>
 Z5a m0 x3 x4 x6 x7 x54 x55 (shr j) (gcB m0 [x3, x4, x6, x7, x54, x55, (shr j)] i)))) := by kernel_rfl
theorem Zei : Z9T m0 x3 x4 x6 x7 B =
 mk (ob (xfld 5 x3) fun a =>
 ob (ldN false 1 a B) fun b =>
 ob (xlen PP 25 b) fun c =>
 Z5b m0 x3 x4 x6 x7 b c (iv 0) (gcB m0 [x3, x4, x6, x7, b, c, (iv 0)] B)) := by kernel_rfl
theorem Zec : Z5b m0 x3 x4 x6 x7 x66 x67 x68 B =
 mk (ob (xbin PP .lss 3 x68 x67) fun a =>
 asB a fun b => br b (Z9U m0 x3 x4 x6 x7 x66 x67 x68 (gcB m0 [x3, x4, x6, x7, x66, x67, x68] B))
 (Z9X m0 x3 x4 x6 x7 (gcB m0 [x3, x4, x6, x7] B))) := lq_ (by kernel_rfl)
theorem Zej : Z9U m0 x3 x4 x6 x7 x66 x67 x68 B =
 mk (ob (xidx 1 x66 x68) fun a =>
 ob (ldN false 1 a B) fun b =>
 mk (ob (Z34 PP 64 true (shr x7) (shr (shr b)) B) fun c =>
 ob (xext 0 (shr c)) fun d =>
 ob (xext 1 (shr c)) fun e =>
 bz PP 43 B fun f g =>
 stN 5 f (shr d) g fun h =>
 mk (ob (xun PP .not (shr (shr (shr e)))) fun i =>
 asB i fun j => br j (mk (ob (Z2u PP 24 []) fun k =>
 stN 5 x4 k h fun l =>
 Z4p x4 (iv 32) l))
 (Z9V m0 x3 x4 x6 x7 (shr b) x66 x67 x68 (gcB m0 [x3, x4, x6, x7, (shr b), x66, x67, x68] h))))) := by kernel_rfl
theorem Zem : Z9X m0 x3 x4 x6 x7 B =
 mk (ob (xfld 4 x3) fun a =>
 ob (ldN false 1 a B) fun b =>
 ob (xlen PP 22 b) fun c =>
 Z5c m0 x4 x6 x7 b c (iv 0) (gcB m0 [x4, x6, x7, b, c, (iv 0)] B)) := by kernel_rfl
theorem Zek : Z9V m0 x3 x4 x6 x7 x11 x66 x67 x68 B =
 mk (xdel PP 64 (shr x7) (shr x11) B fun a =>
 Z9W m0 x3 x4 x6 x7 x66 x67 x68 (gcB m0 [x3, x4, x6, x7, x66, x67, x68] a)) := by kernel_rfl
theorem Zed : Z5c m0 x4 x6 x7 x85 x86 x87 B =
 mk (ob (xbin PP .lss 3 x87 x86) fun a =>
 asB a fun b => br b (Z9Y m0 x4 x6 x7 x85 x86 x87 (gcB m0 [x4, x6, x7, x85, x86, x87] B))
 (Z9Z m0 x4 x6 x7 (gcB m0 [x4, x6, x7] B))) := lq_ (by kernel_rfl)
theorem Zel : Z9W m0 x3 x4 x6 x7 x66 x67 x68 B =
 mk (ob (xbin PP .add 3 x68 (iv 1)) fun a =>
 Z5b m0 x3 x4 x6 x7 x66 x67 (shr a) (gcB m0 [x3, x4, x6, x7, x66, x67, (shr a)] B)) := by kernel_rfl
theorem Zen : Z9Y m0 x4 x6 x7 x85 x86 x87 B =
 mk (ob (xidx 5 x85 x87) fun a =>
 ob (ldN true 5 a B) fun b =>
 bz PP 43 B fun c d =>
 stN 5 c b d fun e =>
 mk (ob (xfld 0 c) fun f =>
 ob (ldN false 1 f e) fun g =>
 ob (ldN true 5 c e) fun h =>
 xupd PP 64 (shr x7) g h e fun i =>
 mk (ob (xbin PP .add 3 x87 (iv 1)) fun j =>
 Z5c m0 x4 x6 x7 x85 x86 (shr j) (gcB m0 [x4, x6, x7, x85, x86, (shr j)] i)))) := by kernel_rfl
theorem Zeo : Z9Z m0 x4 x6 x7 B =
 mk (ob (Z6e (shr x7) B) fun a =>
 ob (xbin PP .gtr 3 a (iv 16)) fun b =>
 asB b fun c => br c (mk (ob (Z2u PP 24 []) fun d =>
 stN 5 x4 d B fun e =>
 Z4p x4 (iv 33) e))
 (Za0 m0 x4 x6 x7 (gcB m0 [x4, x6, x7] B))) := by kernel_rfl
theorem Zep : Za0 m0 x4 x6 x7 B =
 mk (ob (xfld 4 x6) fun a =>
 stN 1 a nilA B fun b =>
 mk (callS false EE 31 [(shr x7)] b fun c d =>
 callS false EE 30 [c] d fun e f =>
 ob (xlen PP 25 e) fun g =>
 Z5d m0 x4 x6 x7 e g (iv 0) (gcB m0 [x4, x6, x7, e, g, (iv 0)] f))) := by kernel_rfl
theorem Zee : Z5d m0 x4 x6 x7 x103 x104 x105 B =
 mk (ob (xbin PP .lss 3 x105 x104) fun a =>
 asB a fun b => br b (Za1 m0 x4 x6 x7 x103 x104 x105 (gcB m0 [x4, x6, x7, x103, x104, x105] B))
 (Za2 m0 x4 x6 (gcB m0 [x4, x6] B))) := lq_ (by kernel_rfl)
theorem Zeq : Za1 m0 x4 x6 x7 x103 x104 x105 B =
 mk (ob (xidx 1 x103 x105) fun a =>
 ob (ldN false 1 a B) fun b =>
 mk (ob (xfld 4 x6) fun c =>
 ldOwn c B fun d e =>
 ob (Z34 PP 64 false (shr x7) (shr (shr b)) e) fun f =>
 ob (xlit PP 22 1 [(0, f)]) fun g =>
 ob (xapp 5 d g) fun h =>
 ob (xfld 4 x6) fun i =>
 stN 1 i h e fun j =>
 mk (ob (xbin PP .add 3 x105 (iv 1)) fun k =>
 Z5d m0 x4 x6 x7 x103 x104 (shr k) (gcB m0 [x4, x6, x7, x103, x104, (shr k)] j)))) := by kernel_rfl
theorem Zer : Za2 m0 x4 x6 B =
 mk (ob (ldN true 5 x6 B) fun a =>
 stN 5 x4 a B fun b =>
 Z4p x4 (iv 0) b) := by kernel_rfl
theorem ZkE : EE 12 [x0, x1] B =
 (let m0 := B.length
 mk (bx x0 B fun a b =>
 bx x1 b fun c d =>
 bz PP 24 d fun e f =>
 mk (ob (ldN true 5 a f) fun g =>
 callS false EE 16 [g] f fun h i =>
 ob (xun PP .not h) fun j =>
 asB j fun k => br k (mk (ob (Z2u PP 24 []) fun l =>
 stN 5 e l i fun n =>
 Z4p e (iv 10) n))
 (Zbj m0 a c e (gcB m0 [a, c, e] i))))) := (E_eq PP XX HH _ _ _).trans (by kernel_rfl)
def ZiS := Z3c Try.f14
def Zbq := l2 (l2 (l2 ZiS))
def Z8Q := l1 (l1 (l2 (l1 (l2 (l2 ZiS)))))
def ZdC (r0 : AV) (B : List Row) : Option Res :=
 ob (ob (ldN true 5 r0 B) fun v => ob (some []) fun vs => some (v :: vs)) fun vs => some ((nrmA (match vs with | [v] => v | vs => Z2P (vs.map shr))), B)
def Zbm (m0 : Nat) : Kont := kret PP HH 14 Try.f14.results
def ZkM := kseq HH 14 m0 Zbq (exec PP HH 14 m0 EE LL Zbq (Zbm m0)) (Zbm m0)
def Zbn := kblk 0 (ZkM m0)
def ZkN := kloop HH 14 m0 Z8Q (LL 14 m0 Z8Q (Zbn m0)) (Zbn m0)
def Z6y := lp (LL 14 m0 Z8Q (Zbn m0) [(2, x2), (3, x3), (16, x16), (17, x17), (18, x18)] B)
def Zbo := exec PP HH 14 m0 EE LL (l2 (l2 Z8Q)) (ZkN m0) [(2, x2), (3, x3), (16, x16), (17, x17), (18, x18)] B
def Zbp := exec PP HH 14 m0 EE LL Zbq (Zbm m0) [(2, x2), (3, x3)] B
theorem ZfT : Z6y m0 x2 x3 x16 x17 x18 B =
 mk (ob (xbin PP .lss 3 x18 x17) fun a =>
 asB a fun b => br b (Zbo m0 x2 x3 x16 x17 x18 (gcB m0 [x2, x3, x16, x17, x18] B))
 (Zbp m0 x2 x3 (gcB m0 [x2, x3] B))) := lq_ (by kernel_rfl)
theorem ZfU : Zbo m0 x2 x3 x16 x17 x18 B =
 mk (ob (xidx 5 x16 x18) fun a =>
 ob (ldN true 5 a B) fun b =>
 bz PP 43 B fun c d =>
 stN 5 c b d fun e =>
 mk (ob (xfld 4 x3) fun f =>
 ldOwn f e fun g h =>
 ob (ldN true 5 c h) fun i =>
 ob (xlit PP 34 1 [(0, i)]) fun j =>
 ob (xapp 5 g j) fun k =>
 ob (xfld 4 x3) fun l =>
 stN 1 l k h fun n =>
 mk (ob (xbin PP .add 3 x18 (iv 1)) fun o =>
 Z6y m0 x2 x3 x16 x17 (shr o) (gcB m0 [x2, x3, x16, x17, (shr o)] n)))) := by kernel_rfl
theorem ZfV : Zbp m0 x2 x3 B =
 mk (ob (ldN true 5 x3 B) fun a =>
 stN 5 x2 a B fun b =>
 ZdC x2 b) := by kernel_rfl
theorem ZkL : EE 14 [x0] B =
 (let m0 := B.length
 mk (bx x0 B fun a b =>
 bz PP 36 b fun c d =>
 mk (ob (xfld 0 a) fun e =>
 ob (ldN false 1 e d) fun f =>
 ob (xfld 1 a) fun g =>
 ob (ldN false 1 g d) fun h =>
 ob (xfld 2 a) fun i =>
 ob (ldN false 1 i d) fun j =>
 ob (xfld 3 a) fun k =>
 ob (ldN false 1 k d) fun l =>
 ob (Z2u PP 36 [(0, f), (1, h), (2, j), (3, l)]) fun n =>
 bz PP 36 d fun o p =>
 stN 5 o n p fun q =>
 mk (ob (xfld 4 a) fun r =>
 ob (ldN false 1 r q) fun s =>
 ob (xlen PP 22 s) fun t =>
 Z6y m0 c o s t (iv 0) (gcB m0 [c, o, s, t, (iv 0)] q))))) := (E_eq PP XX HH _ _ _).trans (by kernel_rfl)
def ZiT := Z3c Try.f16
def Z6A := l2 (l2 ZiT)
def Zbx := l2 (l2 Z6A)
def Z8U := l1 (l1 (l2 (l1 (l2 Z6A))))
def Z5g := l2 (l2 Z8U)
def Zbw := l2 (l2 (l1 (l1 Z5g)))
def Z5f (m0 : Nat) : Kont := kret PP HH 16 Try.f16.results
def ZkP := kseq HH 16 m0 Z6A (exec PP HH 16 m0 EE LL Z6A (Z5f m0)) (Z5f m0)
def ZkQ := kseq HH 16 m0 Zbx (exec PP HH 16 m0 EE LL Zbx (Z5f m0)) (Z5f m0)
def Zbr := kblk 0 (ZkQ m0)
def Z8R := kloop HH 16 m0 Z8U (LL 16 m0 Z8U (Zbr m0)) (Zbr m0)
def ZkR := kseq HH 16 m0 (l2 Z5g) (exec PP HH 16 m0 EE LL (l2 Z5g) (Z8R m0)) (Z8R m0)
def Zbs := kblk 1 (ZkR m0)
def ZkS := kseq HH 16 m0 Zbw (exec PP HH 16 m0 EE LL Zbw (Zbs m0)) (Zbs m0)
def Z8S := exec PP HH 16 m0 EE LL (l1 (l2 (l1 (l2 ZiT)))) (ZkP m0) [] B
def Zbt := exec PP HH 16 m0 EE LL Z6A (Z5f m0) [(1, x1)] B
def Z6z := lp (LL 16 m0 Z8U (Zbr m0) [(3, x3), (16, x16), (17, x17), (18, x18)] B)
def Zbu := exec PP HH 16 m0 EE LL Z5g (Z8R m0) [(3, x3), (16, x16), (17, x17), (18, x18)] B
def Za4 := exec PP HH 16 m0 EE LL Zbx (Z5f m0) [] B
def Z8T := exec PP HH 16 m0 EE LL (l1 (l2 (l1 (l2 (l1 (l1 Z5g)))))) (ZkS m0) [] B
def Zbv := exec PP HH 16 m0 EE LL Zbw (Zbs m0) [(5, x5), (16, x16), (17, x17), (18, x18)] B
def Za3 := exec PP HH 16 m0 EE LL (l2 Z5g) (Z8R m0) [(3, x3), (16, x16), (17, x17), (18, x18)] B
theorem ZfX : Z8S m0 B =
 mk (ZR (bv false) B) := by kernel_rfl
theorem ZfY : Zbt m0 x1 B =
 mk (mk (ob (xfld 4 x1) fun a =>
 ob (ldN false 1 a B) fun b =>
 ob (xlen PP 22 b) fun c =>
 Z6z m0 (iv 0) b c (iv 0) (gcB m0 [(iv 0), b, c, (iv 0)] B))) := by kernel_rfl
theorem ZfW : Z6z m0 x3 x16 x17 x18 B =
 mk (ob (xbin PP .lss 3 x18 x17) fun a =>
 asB a fun b => br b (Zbu m0 x3 x16 x17 x18 (gcB m0 [x3, x16, x17, x18] B))
 (Za4 m0 (gcB m0 [] B))) := lq_ (by kernel_rfl)
theorem ZfZ : Zbu m0 x3 x16 x17 x18 B =
 mk (ob (xidx 5 x16 x18) fun a =>
 ob (ldN true 5 a B) fun b =>
 bz PP 43 B fun c d =>
 stN 5 c b d fun e =>
 mk (ob (ldN true 5 c e) fun f =>
 callS false EE 21 [f] e fun g h =>
 ob (xun PP .not g) fun i =>
 asB (shr i) fun j => br j (Z8T m0 (gcB m0 [] h))
 (ob (xfld 0 c) fun k =>
 ob (ldN false 1 k h) fun l =>
 ob (xbin PP .leq 3 l (shr x3)) fun n =>
 asB (shr n) fun o => br o (Z8T m0 (gcB m0 [] h))
 (Zbv m0 c x16 x17 x18 (gcB m0 [c, x16, x17, x18] h))))) := by kernel_rfl
theorem Zet : Za4 m0 B =
 mk (ZR (bv true) B) := by kernel_rfl
theorem Zg0 : Z8T m0 B =
 mk (ZR (bv false) B) := by kernel_rfl
theorem Zg1 : Zbv m0 x5 x16 x17 x18 B =
 mk (ob (xfld 0 x5) fun a =>
 ob (ldN false 1 a B) fun b =>
 Za3 m0 (shr b) x16 x17 x18 (gcB m0 [(shr b), x16, x17, x18] B)) := by kernel_rfl
theorem Zes : Za3 m0 x3 x16 x17 x18 B =
 mk (ob (xbin PP .add 3 x18 (iv 1)) fun a =>
 Z6z m0 x3 x16 x17 (shr a) (gcB m0 [x3, x16, x17, (shr a)] B)) := by kernel_rfl
theorem ZkO : EE 16 [x0] B =
 (let m0 := B.length
 mk (bx x0 B fun a b =>
 mk (ob (ldN true 5 a b) fun c =>
 callS false EE 27 [c] b fun d e =>
 ob (xun PP .not d) fun f =>
 asB (shr f) fun g => br g (Z8S m0 (gcB m0 [] e))
 (ob (xfld 4 a) fun h =>
 ob (ldN false 1 h e) fun i =>
 ob (xlen PP 22 i) fun j =>
 ob (xbin PP .gtr 3 j (iv 16)) fun k =>
 asB (shr k) fun l => br l (Z8S m0 (gcB m0 [] e))
 (Zbt m0 a (gcB m0 [a] e)))))) := (E_eq PP XX HH _ _ _).trans (by kernel_rfl)
def ZiU := Z3c Try.f19
def Z4w := l2 (l2 ZiU)
def Z3X := l1 (l1 (l2 (l1 Z4w)))
def Z5h (m0 : Nat) : Kont := kret PP HH 19 Try.f19.results
def ZkU := kseq HH 19 m0 Z4w (exec PP HH 19 m0 EE LL Z4w (Z5h m0)) (Z5h m0)
def ZkV := kseq HH 19 m0 (l2 Z4w) (exec PP HH 19 m0 EE LL (l2 Z4w) (Z5h m0)) (Z5h m0)
def Zby := kblk 0 (ZkV m0)
def Z8V := kloop HH 19 m0 Z3X (LL 19 m0 Z3X (Zby m0)) (Zby m0)
def ZkW := kseq HH 19 m0 (l2 (l2 Z3X)) (exec PP HH 19 m0 EE LL (l2 (l2 Z3X)) (Z8V m0)) (Z8V m0)
def ZkX := kblk 1 (ZkW m0)
def Z8W := exec PP HH 19 m0 EE LL (l1 (l2 (l1 (l2 ZiU)))) (ZkU m0) [] B
def Zbz := exec PP HH 19 m0 EE LL Z4w (Z5h m0) [(1, x1)] B
def Z6B := lp (LL 19 m0 Z3X (Zby m0) [(1, x1), (3, x3)] B)
def ZbA := exec PP HH 19 m0 EE LL (l2 Z3X) (Z8V m0) [(1, x1), (3, x3)] B
def ZbB := exec PP HH 19 m0 EE LL (l2 Z4w) (Z5h m0) [] B
def Z8Y := exec PP HH 19 m0 EE LL (l1 (l2 (l1 (l1 (l2 Z3X))))) (ZkX m0) [] B
def Z8X := exec PP HH 19 m0 EE LL (l2 (l2 Z3X)) (Z8V m0) [(1, x1), (3, x3)] B
theorem Zg3 : Z8W m0 B =
 mk (ZR (bv false) B) := by kernel_rfl
theorem Zg4 : Zbz m0 x1 B =
 mk (Z6B m0 x1 (iv 0) (gcB m0 [x1, (iv 0)] B)) := by kernel_rfl
theorem Zg2 : Z6B m0 x1 x3 B =
 mk (ob (xfld 4 x1) fun a =>
 ob (ldN false 1 a B) fun b =>
 ob (xlen PP 34 b) fun c =>
 ob (xbin PP .lss 3 (shr x3) c) fun d =>
 asB d fun e => br e (ZbA m0 x1 x3 (gcB m0 [x1, x3] B))
 (ZbB m0 (gcB m0 [] B))) := lq_ (by kernel_rfl)
theorem Zg6 : ZbA m0 x1 x3 B =
 mk (ob (xfld 4 x1) fun a =>
 ob (ldN false 1 a B) fun b =>
 ob (xidx 5 b (shr x3)) fun c =>
 ob (ldN true 5 c B) fun d =>
 callS false EE 34 [d] B fun e f =>
 ob (xun PP .not e) fun g =>
 asB (shr g) fun h => br h (Z8Y m0 (gcB m0 [] f))
 (ob (xbin PP .gtr 3 (shr x3) (iv 0)) fun i =>
 asB (shr i) fun j => br j (ob (xfld 4 x1) fun k =>
 ob (ldN false 1 k f) fun l =>
 ob (xidx 5 l (shr x3)) fun n =>
 ob (xfld 0 n) fun o =>
 ob (ldN false 1 o f) fun p =>
 ob (xfld 4 x1) fun q =>
 ob (ldN false 1 q f) fun r =>
 ob (xbin PP .sub 3 (shr x3) (iv 1)) fun s =>
 ob (xidx 5 r s) fun t =>
 ob (xfld 0 t) fun u =>
 ob (ldN false 1 u f) fun v =>
 ob (xbin PP .leq 3 p v) fun w =>
 asB (shr (shr w)) fun x => br x (Z8Y m0 (gcB m0 [] f))
 (Z8X m0 x1 x3 (gcB m0 [x1, x3] f)))
 (Z8X m0 x1 x3 (gcB m0 [x1, x3] f)))) := by kernel_rfl
theorem Zg8 : ZbB m0 B =
 mk (ZR (bv true) B) := by kernel_rfl
theorem Zg7 : Z8Y m0 B =
 mk (ZR (bv false) B) := by kernel_rfl
theorem Zg5 : Z8X m0 x1 x3 B =
 mk (ob (xbin PP .add 3 (shr x3) (iv 1)) fun a =>
 Z6B m0 x1 (shr a) (gcB m0 [x1, (shr a)] B)) := by kernel_rfl
theorem ZkT : EE 19 [x0] B =
 (let m0 := B.length
 mk (bx x0 B fun a b =>
 mk (ob (ldN true 5 a b) fun c =>
 callS false EE 33 [c] b fun d e =>
 ob (xun PP .not d) fun f =>
 asB (shr f) fun g => br g (Z8W m0 (gcB m0 [] e))
 (ob (xfld 4 a) fun h =>
 ob (ldN false 1 h e) fun i =>
 ob (xlen PP 34 i) fun j =>
 ob (xbin PP .gtr 3 j (iv 16)) fun k =>
 asB (shr k) fun l => br l (Z8W m0 (gcB m0 [] e))
 (Zbz m0 a (gcB m0 [a] e)))))) := (E_eq PP XX HH _ _ _).trans (by kernel_rfl)
theorem ZkY : EE 21 [x0] B =
 (let m0 := B.length
 mk (bx x0 B fun a b =>
 mk (ob (xfld 0 a) fun c =>
 ob (ldN false 1 c b) fun d =>
 ob (xbin PP .geq 3 d (iv 1)) fun e =>
 asB (shr e) fun f => br f (ob (xfld 0 a) fun g =>
 ob (ldN false 1 g b) fun h =>
 ob (xbin PP .leq 3 h (iv 1099511627776)) fun i =>
 asB (shr (shr i)) fun j => br j (ob (xfld 1 a) fun k =>
 ob (ldN false 1 k b) fun l =>
 ob (xbin PP .geq 3 l (iv 0)) fun n =>
 asB (shr (shr n)) fun o => br o (ob (xfld 1 a) fun p =>
 ob (ldN false 1 p b) fun q =>
 ob (xbin PP .leq 3 q (iv 1000)) fun r =>
 asB (shr (shr r)) fun s => br s (ob (xfld 2 a) fun t =>
 ob (ldN false 1 t b) fun u =>
 ob (xbin PP .geq 3 u (iv 0)) fun v =>
 asB (shr (shr v)) fun w => br w (ob (xfld 2 a) fun x =>
 ob (ldN false 1 x b) fun y =>
 ob (xbin PP .leq 3 y (iv 255)) fun z =>
 asB (shr (shr z)) fun A => br A (ob (xfld 3 a) fun C =>
 ob (ldN false 1 C b) fun D =>
 ob (xbin PP .geq 3 D (iv 1)) fun F =>
 asB (shr (shr F)) fun G => br G (ob (xfld 3 a) fun I =>
 ob (ldN false 1 I b) fun J =>
 ob (xbin PP .leq 3 J (iv 65535)) fun M =>
 asB (shr (shr M)) fun N => br N (ob (xfld 4 a) fun O =>
 ob (ldN false 1 O b) fun Q =>
 ob (xlen PP 9 Q) fun R =>
 ob (xbin PP .leq 3 R (iv 256)) fun S =>
 ZR (shr (shr S)) b)
 (ZR (bv false) b))
 (ZR (bv false) b))
 (ZR (bv false) b))
 (ZR (bv false) b))
 (ZR (bv false) b))
 (ZR (bv false) b))
 (ZR (bv false) b))
 (ZR (bv false) b)))) := (E_eq PP XX HH _ _ _).trans (by kernel_rfl)
def ZiV := Z3c Try.f24
def ZbJ := l2 (l2 (l2 ZiV))
def Z3Y := l1 (l1 (l2 (l1 (l2 (l2 ZiV)))))
def Z3Z := l1 (l1 (l2 (l1 (l1 (l2 Z3Y)))))
def ZbC (m0 : Nat) : Kont := kret PP HH 24 Try.f24.results
def Zl0 := kseq HH 24 m0 ZbJ (exec PP HH 24 m0 EE LL ZbJ (ZbC m0)) (ZbC m0)
def ZbD := kblk 0 (Zl0 m0)
def Z8Z := kloop HH 24 m0 Z3Y (LL 24 m0 Z3Y (ZbD m0)) (ZbD m0)
def Zl1 := kseq HH 24 m0 (l2 (l2 Z3Y)) (exec PP HH 24 m0 EE LL (l2 (l2 Z3Y)) (Z8Z m0)) (Z8Z m0)
def Zl2 := kblk 1 (Zl1 m0)
def ZbE := kblk 2 (Zl2 m0)
def Z90 := kloop HH 24 m0 Z3Z (LL 24 m0 Z3Z (ZbE m0)) (ZbE m0)
def Zl3 := kseq HH 24 m0 (l2 (l2 Z3Z)) (exec PP HH 24 m0 EE LL (l2 (l2 Z3Z)) (Z90 m0)) (Z90 m0)
def Zl4 := kblk 3 (Zl3 m0)
def Z6C := lp (LL 24 m0 Z3Y (ZbD m0) [(1, x1), (2, x2), (5, x5), (6, x6)] B)
def ZbG := exec PP HH 24 m0 EE LL (l2 Z3Y) (Z8Z m0) [(1, x1), (2, x2), (5, x5), (6, x6)] B
def Za5 := exec PP HH 24 m0 EE LL ZbJ (ZbC m0) [(5, x5)] B
def Z6D := lp (LL 24 m0 Z3Z (ZbE m0) [(1, x1), (2, x2), (5, x5), (6, x6), (7, x7)] B)
def ZbH := exec PP HH 24 m0 EE LL (l2 Z3Z) (Z90 m0) [(1, x1), (2, x2), (5, x5), (6, x6), (7, x7)] B
def ZbF := exec PP HH 24 m0 EE LL (l2 (l2 Z3Y)) (Z8Z m0) [(1, x1), (2, x2), (5, x5), (6, x6)] B
def ZbI := exec PP HH 24 m0 EE LL (l1 (l2 (l1 (l1 (l2 Z3Z))))) (Zl4 m0) [(1, x1), (2, x2), (5, x5), (6, x6), (7, x7)] B
def Z6E := exec PP HH 24 m0 EE LL (l2 (l2 Z3Z)) (Z90 m0) [(1, x1), (2, x2), (5, x5), (6, x6), (7, x7)] B
theorem Zg9 : Z6C m0 x1 x2 x5 x6 B =
 mk (ob (xbin PP .geq 3 (shr x6) (iv 0)) fun a =>
 asB a fun b => br b (ZbG m0 x1 x2 x5 x6 (gcB m0 [x1, x2, x5, x6] B))
 (Za5 m0 x5 (gcB m0 [x5] B))) := lq_ (by kernel_rfl)
theorem Zgc : ZbG m0 x1 x2 x5 x6 B =
 mk (Z6D m0 x1 x2 x5 x6 (iv 0) (gcB m0 [x1, x2, x5, x6, (iv 0)] B)) := by kernel_rfl
theorem Zeu : Za5 m0 x5 B =
 mk (ZR (shr (shr x5)) B) := by kernel_rfl
theorem Zga : Z6D m0 x1 x2 x5 x6 x7 B =
 mk (ob (xfld 4 x2) fun a =>
 ob (ldN false 1 a B) fun b =>
 ob (xlen PP 34 b) fun c =>
 ob (xbin PP .lss 3 (shr x7) c) fun d =>
 asB d fun e => br e (ZbH m0 x1 x2 x5 x6 x7 (gcB m0 [x1, x2, x5, x6, x7] B))
 (ZbF m0 x1 x2 x5 x6 (gcB m0 [x1, x2, x5, x6] B))) := lq_ (by kernel_rfl)
theorem Zge : ZbH m0 x1 x2 x5 x6 x7 B =
 mk (ob (xfld 4 x2) fun a =>
 ob (ldN false 1 a B) fun b =>
 ob (xidx 5 b (shr x7)) fun c =>
 ob (xfld 1 c) fun d =>
 ob (ldN false 1 d B) fun e =>
 ob (xbin PP .eql 3 e (shr x6)) fun f =>
 asB (shr f) fun g => br g (ob (xfld 4 x2) fun h =>
 ob (ldN false 1 h B) fun i =>
 ob (xidx 5 i (shr x7)) fun j =>
 ob (xfld 3 j) fun k =>
 ob (ldN false 1 k B) fun l =>
 ob (xbin PP .and 3 l (shr x1)) fun n =>
 ob (xbin PP .neq 3 n (iv 0)) fun o =>
 asB (shr o) fun p => br p (ZbI m0 x1 x2 x5 x6 x7 (gcB m0 [x1, x2, x5, x6, x7] B))
 (Z6E m0 x1 x2 x5 x6 x7 (gcB m0 [x1, x2, x5, x6, x7] B)))
 (Z6E m0 x1 x2 x5 x6 x7 (gcB m0 [x1, x2, x5, x6, x7] B))) := by kernel_rfl
theorem Zgb : ZbF m0 x1 x2 x5 x6 B =
 mk (ob (xbin PP .sub 3 (shr x6) (iv 1)) fun a =>
 Z6C m0 x1 x2 x5 (shr a) (gcB m0 [x1, x2, x5, (shr a)] B)) := by kernel_rfl
theorem Zgf : ZbI m0 x1 x2 x5 x6 x7 B =
 mk (ob (xlit PP 25 1 [(0, (shr x7))]) fun a =>
 ob (xapp 1 x5 a) fun b =>
 Z6E m0 x1 x2 b x6 x7 (gcB m0 [x1, x2, b, x6, x7] B)) := by kernel_rfl
theorem Zgd : Z6E m0 x1 x2 x5 x6 x7 B =
 mk (ob (xbin PP .add 3 (shr x7) (iv 1)) fun a =>
 Z6D m0 x1 x2 x5 x6 (shr a) (gcB m0 [x1, x2, x5, x6, (shr a)] B)) := by kernel_rfl
theorem ZkZ : EE 24 [x0, x1] B =
 (let m0 := B.length
 mk (bx x0 B fun a b =>
 mk (mk (Z6C m0 x1 a nilA (iv 1000) (gcB m0 [x1, a, nilA, (iv 1000)] b))))) := (E_eq PP XX HH _ _ _).trans (by kernel_rfl)
theorem Zl5 : EE 25 [] B =
 (let m0 := B.length
 mk (bz PP 24 B fun a b =>
 mk (ob (Z2u PP 24 [(1, (iv 255)), (2, (iv 10000)), (3, (iv 500))]) fun c =>
 stN 5 a c b fun d =>
 ZdC a d))) := (E_eq PP XX HH _ _ _).trans (by kernel_rfl)
def ZdD (B : List Row) : Option Res :=
 ob (some []) fun vs => some ((nrmA (match vs with | [v] => v | vs => Z2P (vs.map shr))), B)
theorem Z91 : EE 26 [x0, x1] B =
 (let m0 := B.length
 mk (ob (xbin PP .neq 3 (shr x1) (iv (-1))) fun a =>
 asB a fun b => br b (mk (ob (Z7E (shr x0)) fun c =>
 stN 1 c (shr x1) B fun d =>
 ZdD d))
 (ZdD B))) := (E_eq PP XX HH _ _ _).trans (by kernel_rfl)
theorem Zl6 : EE 27 [x0] B =
 (let m0 := B.length
 mk (bx x0 B fun a b =>
 mk (ob (xfld 0 a) fun c =>
 ob (ldN false 1 c b) fun d =>
 ob (xbin PP .geq 3 d (iv 0)) fun e =>
 asB (shr e) fun f => br f (ob (xfld 0 a) fun g =>
 ob (ldN false 1 g b) fun h =>
 ob (xbin PP .leq 3 h (iv 255)) fun i =>
 asB (shr (shr i)) fun j => br j (ob (xfld 1 a) fun k =>
 ob (ldN false 1 k b) fun l =>
 ob (xbin PP .geq 3 l (iv 0)) fun n =>
 asB (shr (shr n)) fun o => br o (ob (xfld 1 a) fun p =>
 ob (ldN false 1 p b) fun q =>
 ob (xbin PP .leq 3 q (iv 255)) fun r =>
 asB (shr (shr r)) fun s => br s (ob (xfld 2 a) fun t =>
 ob (ldN false 1 t b) fun u =>
 ob (xbin PP .geq 3 u (iv 1)) fun v =>
 asB (shr (shr v)) fun w => br w (ob (xfld 2 a) fun x =>
 ob (ldN false 1 x b) fun y =>
 ob (xbin PP .leq 3 y (iv 1048576)) fun z =>
 asB (shr (shr z)) fun A => br A (ob (xfld 3 a) fun C =>
 ob (ldN false 1 C b) fun D =>
 ob (xbin PP .geq 3 D (iv 0)) fun F =>
 asB (shr (shr F)) fun G => br G (ob (xfld 3 a) fun I =>
 ob (ldN false 1 I b) fun J =>
 ob (xbin PP .leq 3 J (iv 4096)) fun M =>
 ZR (shr (shr M)) b)
 (ZR (bv false) b))
 (ZR (bv false) b))
 (ZR (bv false) b))
 (ZR (bv false) b))
 (ZR (bv false) b))
 (ZR (bv false) b))
 (ZR (bv false) b)))) := (E_eq PP XX HH _ _ _).trans (by kernel_rfl)
theorem Zl7 : EE 28 [x0, x1] B =
 (let m0 := B.length
 mk (bx x1 B fun a b =>
 mk (callS false EE 42 [(shr x0), (.clo 43 ([].map nrmA) ([a].map nrmA))] b fun c d =>
 ob (xun PP .not c) fun e =>
 ZR (shr e) d))) := (E_eq PP XX HH _ _ _).trans (by kernel_rfl)
theorem Zl8 : EE 29 [x0] B =
 (let m0 := B.length
 mk (bx x0 B fun a b =>
 mk (xmake PP 75 b fun c d =>
 bz PP 75 d fun e f =>
 stN 1 e c f fun g =>
 mk (bz PP 76 g fun h i =>
 stN 1 h (.clo 44 ([].map nrmA) ([e].map nrmA)) i fun j =>
 mk (ob (xfld 4 a) fun k =>
 ob (ldN false 1 k j) fun l =>
 callS false EE 42 [l, (.clo 45 ([].map nrmA) ([h].map nrmA))] j fun n o =>
 asB (shr n) fun p => br p (ZR (bv true) o)
 (ob (xfld 5 a) fun q =>
 ob (ldN false 1 q o) fun r =>
 ob (ldN false 1 h o) fun s =>
 callS false EE 46 [r, s] o fun t u =>
 ZR (shr (shr t)) u)))))) := (E_eq PP XX HH _ _ _).trans (by kernel_rfl)
theorem Zl9 : EE 31 [x0] B =
 (let m0 := B.length
 mk (bx x0 B fun a b =>
 mk (ZR (shr (.clo 49 ([].map nrmA) ([a].map nrmA))) b))) := (E_eq PP XX HH _ _ _).trans (by kernel_rfl)
theorem Zla : EE 33 [x0] B =
 (let m0 := B.length
 mk (bx x0 B fun a b =>
 mk (ob (xfld 0 a) fun c =>
 ob (ldN false 1 c b) fun d =>
 ob (xbin PP .geq 3 d (iv 0)) fun e =>
 asB (shr e) fun f => br f (ob (xfld 0 a) fun g =>
 ob (ldN false 1 g b) fun h =>
 ob (xbin PP .leq 3 h (iv 255)) fun i =>
 asB (shr (shr i)) fun j => br j (ob (xfld 1 a) fun k =>
 ob (ldN false 1 k b) fun l =>
 ob (xbin PP .geq 3 l (iv 0)) fun n =>
 asB (shr (shr n)) fun o => br o (ob (xfld 1 a) fun p =>
 ob (ldN false 1 p b) fun q =>
 ob (xbin PP .leq 3 q (iv 255)) fun r =>
 asB (shr (shr r)) fun s => br s (ob (xfld 2 a) fun t =>
 ob (ldN false 1 t b) fun u =>
 ob (xbin PP .geq 3 u (iv 1)) fun v =>
 asB (shr (shr v)) fun w => br w (ob (xfld 2 a) fun x =>
 ob (ldN false 1 x b) fun y =>
 ob (xbin PP .leq 3 y (iv 1048576)) fun z =>
 asB (shr (shr z)) fun A => br A (ob (xfld 3 a) fun C =>
 ob (ldN false 1 C b) fun D =>
 ob (xbin PP .geq 3 D (iv 0)) fun F =>
 asB (shr (shr F)) fun G => br G (ob (xfld 3 a) fun I =>
 ob (ldN false 1 I b) fun J =>
 ob (xbin PP .leq 3 J (iv 4096)) fun M =>
 ZR (shr (shr M)) b)
 (ZR (bv false) b))
 (ZR (bv false) b))
 (ZR (bv false) b))
 (ZR (bv false) b))
 (ZR (bv false) b))
 (ZR (bv false) b))
 (ZR (bv false) b)))) := (E_eq PP XX HH _ _ _).trans (by kernel_rfl)
theorem Zlb : EE 34 [x0] B =
 (let m0 := B.length
 mk (bx x0 B fun a b =>
 mk (ob (xfld 0 a) fun c =>
 ob (ldN false 1 c b) fun d =>
 ob (xbin PP .geq 3 d (iv 1)) fun e =>
 asB (shr e) fun f => br f (ob (xfld 0 a) fun g =>
 ob (ldN false 1 g b) fun h =>
 ob (xbin PP .leq 3 h (iv 1099511627776)) fun i =>
 asB (shr (shr i)) fun j => br j (ob (xfld 1 a) fun k =>
 ob (ldN false 1 k b) fun l =>
 ob (xbin PP .geq 3 l (iv 0)) fun n =>
 asB (shr (shr n)) fun o => br o (ob (xfld 1 a) fun p =>
 ob (ldN false 1 p b) fun q =>
 ob (xbin PP .leq 3 q (iv 1000)) fun r =>
 asB (shr (shr r)) fun s => br s (ob (xfld 2 a) fun t =>
 ob (ldN false 1 t b) fun u =>
 ob (xbin PP .geq 3 u (iv 0)) fun v =>
 asB (shr (shr v)) fun w => br w (ob (xfld 2 a) fun x =>
 ob (ldN false 1 x b) fun y =>
 ob (xbin PP .leq 3 y (iv 255)) fun z =>
 asB (shr (shr z)) fun A => br A (ob (xfld 3 a) fun C =>
 ob (ldN false 1 C b) fun D =>
 ob (xbin PP .geq 3 D (iv 1)) fun F =>
 asB (shr (shr F)) fun G => br G (ob (xfld 3 a) fun I =>
 ob (ldN false 1 I b) fun J =>
 ob (xbin PP .leq 3 J (iv 65535)) fun M =>
 asB (shr (shr M)) fun N => br N (ob (xfld 4 a) fun O =>
 ob (ldN false 1 O b) fun Q =>
 ob (xlen PP 9 Q) fun R =>
 ob (xbin PP .leq 3 R (iv 256)) fun S =>
 ZR (shr (shr S)) b)
 (ZR (bv false) b))
 (ZR (bv false) b))
 (ZR (bv false) b))
 (ZR (bv false) b))
 (ZR (bv false) b))
 (ZR (bv false) b))
 (ZR (bv false) b))
 (ZR (bv false) b)))) := (E_eq PP XX HH _ _ _).trans (by kernel_rfl)
theorem Zgg : EE 42 [x0, x1] B =
 (let m0 := B.length
 mk (mk (callS false EE 52 [(shr x0), (shr x1)] B fun a b =>
 ob (xbin PP .geq 3 a (iv 0)) fun c =>
 ZR (shr c) b))) := (E_eq PP XX HH _ _ _).trans (by kernel_rfl)
theorem Zld : EE 43 [x0, x1] B =
 (let m0 := B.length
 mk (bx x0 B fun a b =>
 mk (ob (ldN false 1 x1 b) fun c =>
 ob (ldN true 5 a b) fun d =>
 callV HH EE c [d] b fun e f =>
 ob (xun PP .not e) fun g =>
 ZR (shr g) f))) := (E_eq PP XX HH _ _ _).trans (by kernel_rfl)
theorem Zle : EE 44 [x0, x1] B =
 (let m0 := B.length
 mk (mk (ob (ldN false 1 x1 B) fun a =>
 ob (Z34 PP 75 false a (shr x0) B) fun b =>
 mk (ob (ldN false 1 x1 B) fun c =>
 xupd PP 75 c (shr x0) (bv true) B fun d =>
 mk (ZR (shr (shr (shr b))) d))))) := (E_eq PP XX HH _ _ _).trans (by kernel_rfl)
theorem Zlf : EE 45 [x0, x1] B =
 (let m0 := B.length
 mk (bx x0 B fun a b =>
 mk (ob (ldN false 1 x1 b) fun c =>
 ob (xfld 0 a) fun d =>
 ob (ldN false 1 d b) fun e =>
 callV HH EE c [e] b fun f g =>
 ZR (shr f) g))) := (E_eq PP XX HH _ _ _).trans (by kernel_rfl)
theorem Zlg : EE 46 [x0, x1] B =
 (let m0 := B.length
 mk (mk (callS false EE 53 [(shr x0), (shr x1)] B fun a b =>
 ob (xbin PP .geq 3 a (iv 0)) fun c =>
 ZR (shr c) b))) := (E_eq PP XX HH _ _ _).trans (by kernel_rfl)
def ZiX := Z3c Try.f52
def ZbM := l2 (l2 ZiX)
def Z95 := l1 (l1 (l2 (l1 (l2 ZiX))))
def Zgj := l2 (l2 Z95)
def ZbK (m0 : Nat) : Kont := kret PP HH 52 Try.f52.results
def Zlh := kseq HH 52 m0 ZbM (exec PP HH 52 m0 EE LL ZbM (ZbK m0)) (ZbK m0)
def ZbL := kblk 0 (Zlh m0)
def Zgi := kloop HH 52 m0 Z95 (LL 52 m0 Z95 (ZbL m0)) (ZbL m0)
def Z4x := lp (LL 52 m0 Z95 (ZbL m0) [(0, x0), (1, x1), (7, x7), (8, x8)] B)
def Z92 := exec PP HH 52 m0 EE LL Zgj (Zgi m0) [(0, x0), (1, x1), (7, x7), (8, x8)] B
def Z94 := exec PP HH 52 m0 EE LL ZbM (ZbK m0) [] B
def Z93 := exec PP HH 52 m0 EE LL (l2 Zgj) (Zgi m0) [(0, x0), (1, x1), (7, x7), (8, x8)] B
theorem Zaj : Z4x m0 x0 x1 x7 x8 B =
 mk (ob (xbin PP .lss 3 x8 x7) fun a =>
 asB a fun b => br b (Z92 m0 x0 x1 x7 x8 (gcB m0 [x0, x1, x7, x8] B))
 (Z94 m0 (gcB m0 [] B))) := lq_ (by kernel_rfl)
theorem Zak : Z92 m0 x0 x1 x7 x8 B =
 mk (mk (ob (xidx 5 (shr x0) (shr (shr (shr x8)))) fun a =>
 ob (ldN true 5 a B) fun b =>
 callV HH EE (shr x1) [b] B fun c d =>
 asB c fun e => br e (mk (ZR (shr (shr (shr (shr x8)))) d))
 (Z93 m0 x0 x1 x7 x8 (gcB m0 [x0, x1, x7, x8] d)))) := by kernel_rfl
theorem Zam : Z94 m0 B =
 mk (ZR (iv (-1)) B) := by kernel_rfl
theorem Zal : Z93 m0 x0 x1 x7 x8 B =
 mk (ob (xbin PP .add 3 x8 (iv 1)) fun a =>
 Z4x m0 x0 x1 x7 (shr a) (gcB m0 [x0, x1, x7, (shr a)] B)) := by kernel_rfl
theorem Zgh : EE 52 [x0, x1] B =
 (let m0 := B.length
 mk (mk (ob (xlen PP 22 (shr x0)) fun a =>
 Z4x m0 x0 x1 a (iv 0) (gcB m0 [x0, x1, a, (iv 0)] B)))) := (E_eq PP XX HH _ _ _).trans (by kernel_rfl)
def ZiY := Z3c Try.f53
def ZbS := l2 (l2 ZiY)
def Z96 := l1 (l1 (l2 (l1 (l2 ZiY))))
def Zgp := l2 (l2 Z96)
def ZbN (m0 : Nat) : Kont := kret PP HH 53 Try.f53.results
def Zlj := kseq HH 53 m0 ZbS (exec PP HH 53 m0 EE LL ZbS (ZbN m0)) (ZbN m0)
def ZbO := kblk 0 (Zlj m0)
def Zgk := kloop HH 53 m0 Z96 (LL 53 m0 Z96 (ZbO m0)) (ZbO m0)
def Z6F := lp (LL 53 m0 Z96 (ZbO m0) [(0, x0), (1, x1), (7, x7), (8, x8)] B)
def ZbP := exec PP HH 53 m0 EE LL Zgp (Zgk m0) [(0, x0), (1, x1), (7, x7), (8, x8)] B
def ZbR := exec PP HH 53 m0 EE LL ZbS (ZbN m0) [] B
def ZbQ := exec PP HH 53 m0 EE LL (l2 Zgp) (Zgk m0) [(0, x0), (1, x1), (7, x7), (8, x8)] B
theorem Zgl : Z6F m0 x0 x1 x7 x8 B =
 mk (ob (xbin PP .lss 3 x8 x7) fun a =>
 asB a fun b => br b (ZbP m0 x0 x1 x7 x8 (gcB m0 [x0, x1, x7, x8] B))
 (ZbR m0 (gcB m0 [] B))) := lq_ (by kernel_rfl)
theorem Zgm : ZbP m0 x0 x1 x7 x8 B =
 mk (mk (ob (xidx 1 (shr x0) (shr (shr (shr x8)))) fun a =>
 ob (ldN false 1 a B) fun b =>
 callV HH EE (shr x1) [b] B fun c d =>
 asB c fun e => br e (mk (ZR (shr (shr (shr (shr x8)))) d))
 (ZbQ m0 x0 x1 x7 x8 (gcB m0 [x0, x1, x7, x8] d)))) := by kernel_rfl
theorem Zgo : ZbR m0 B =
 mk (ZR (iv (-1)) B) := by kernel_rfl
theorem Zgn : ZbQ m0 x0 x1 x7 x8 B =
 mk (ob (xbin PP .add 3 x8 (iv 1)) fun a =>
 Z6F m0 x0 x1 x7 (shr a) (gcB m0 [x0, x1, x7, (shr a)] B)) := by kernel_rfl
theorem Zli : EE 53 [x0, x1] B =
 (let m0 := B.length
 mk (mk (ob (xlen PP 25 (shr x0)) fun a =>
 Z6F m0 x0 x1 a (iv 0) (gcB m0 [x0, x1, a, (iv 0)] B)))) := (E_eq PP XX HH _ _ _).trans (by kernel_rfl)
end Go.Proofs.Ytbmmhbpalkepeaa.N2
end
