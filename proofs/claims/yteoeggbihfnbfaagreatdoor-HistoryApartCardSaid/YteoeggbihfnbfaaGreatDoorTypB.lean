/- The functions' typed texts. No condition. -/
import Derived.Test.YteoeggbihfnbfaaGreatDoorTypA

set_option linter.unusedSimpArgs false
set_option linter.unusedVariables false
set_option linter.defProp false
noncomputable section
namespace Go.Proofs.YteoeggbihfnbfaaGreatDoor.N2
open Go Go.Abs
set_option maxRecDepth 100000
def Z47 : Option Bool :=
 some true
theorem Z7c : Sim Z12 Z47 (Zvn 0 []) := by
 unfold Z47
 refine zf (ZIa ..)<|ze ?_
 exact zr ((bv true), []) ⟨_, rfl⟩
def Z5Y (x0 : List ZX) (b0 : ZX) : Option Bool :=
 (Zdv).bind fun r1 =>
 Z4Q x0 (x0.length : Int) 0 b0 r1.1 r1.2.1 r1.2.2
theorem ZeW (x0 : List ZX) b0 ox0 z1o z1m : Sim Z12 (Z5Y x0 b0) (ZEI 0 (ZP ox0 (x0.map Z1X)) (.ptr 0 0) [(Z10 b0 z1o z1m)]) := by
 unfold Z5Y
 refine zf (ZIb ..)<|ze<|zi fun r1 hr1 => ?_
 obtain ⟨_, er1, zlp, _, zu6, rfl, _⟩ := ZlF r1 hr1
 refine zc [] (.ptr 2 0) [(Z10 b0 z1o z1m), (rM_ ZK r1.1), [(ZP zlp (r1.2.1.map ZU)), (.mp 1), (iv r1.2.2)]] er1<|ze<|zp (iv (x0.length : Int)) (et_ (Z32 (P := PP) (t := 59) (d := 61) (by kernel_rfl) Z1X (shrO ox0) x0)) ?_
 exact zk (Zaf x0 (x0.length : Int) 0 b0 r1.1 r1.2.1 r1.2.2 (shrO ox0) z1o z1m zlp zu6)
def Z5X (x0 : List ZX) (b0 : ZX) : Option Bool :=
 (lapp ([b0] : List ZX) x0).bind fun a1 =>
 (Z95 a1).bind fun r2 =>
 if (!r2) = true then
 Z47
 else
 (if (decide (12 < (x0.length : Int))) = true then
 Z47
 else
 ((Z9N b0).bind fun r3 =>
 if (!r3) = true then
 Z47
 else
 (Z5Y x0 b0)))
theorem ZeV (x0 : List ZX) b0 ox0 z1o z1m : Sim Z12 (Z5X x0 b0) (ZEH 0 (ZP ox0 (x0.map Z1X)) (.ptr 0 0) [(Z10 b0 z1o z1m)]) := by
 unfold Z5X
 refine zf (ZI9 ..)<|ze<|zq<|zq<|zi fun a1 ha1 => zp (ZP (apo .ex ((x0).map Z1X)) (a1.map Z1X)) (Eq.trans (by kernel_rfl) <| Zhr (n := 9) (o := .ex) (o' := (shrO ox0)) (e := Z1X) (ys := x0) (fun _ => rfl) (by decide) rfl ha1)<|zi fun r2 hr2 => ?_
 obtain ⟨_, er2, _, rfl⟩ := Zku a1 .sh r2 hr2
 refine zc [] (bv r2) [(Z10 b0 z1o z1m)] er2<|zq ?_
 refine za (!r2) ?_ ?_
 ·exact zk Z7c
 ·refine zp (iv (x0.length : Int)) (et_ (Z32 (P := PP) (t := 59) (d := 61) (by kernel_rfl) Z1X (shrO ox0) x0))<|zq ?_
  refine za (decide (12 < (x0.length : Int))) ?_ ?_
  ·exact zk Z7c
  ·refine zq<|zi fun r3 hr3 => ?_
   obtain ⟨_, er3, _, rfl⟩ := Zhe b0 .sh .sh r3 hr3
   refine zc [] (bv r3) [(Z10 b0 z1o z1m)] er3<|zq ?_
   refine za (!r3) ?_ ?_
   ·exact zk Z7c
   ·exact zk (ZeW x0 b0 ox0 z1o z1m)
def Z76 (x0 : List ZX) (x1 : ZX) : Option Bool :=
 (Z9C).bind fun r1 =>
 if (!r1) = true then
 (some false)
 else
 (Z5X x0 x1)
theorem ZgK (x0 : List ZX) x1 ox0 z2J z2z : Sim Z12 (Z76 x0 x1) (EE 8 [(ZP ox0 (x0.map Z1X)), (pA_ (Z3e x1 z2J z2z))] []) := by
 unfold Z76
 refine zf (ZNi ..)<|ze<|zx (.ptr 0 0) [(Z10 x1 z2J z2z)]<|ze<|zi fun r1 hr1 => ?_
 obtain ⟨_, er1, _, rfl⟩ := ZkU r1 hr1
 refine zc [] (bv r1) [(Z10 x1 z2J z2z)] er1<|zq ?_
 refine za (!r1) ?_ ?_
 ·refine ze ?_
  exact zr ((bv false), [(Z10 x1 z2J z2z)]) ⟨_, rfl⟩
 ·exact zk (ZeV x0 x1 ox0 z2J z2z)
theorem Zht x0 x1 {r} (h : Z76 x0 x1 = some r) : Z9m x0 x1 = some r :=
 Z1g (fun _ _ ha hb => ru_ Z2o (ha .ex .ex .ex) (hb .ex .ex .ex)) (fun ox0 z2J z2z => ZgK x0 x1 ox0 z2J z2z r h)
def Z40 (x35 : List ZX) (x36 x37 : Int) (b0 : ZX) (zY : List (Int × ZT)) (z16 : List ZE) (z4y : Int) : Option Bool :=
 Z4Q x35 x36 (IntKind.i64.wrap (x37 + 1)) b0 zY z16 z4y
theorem Z9M (x35 : List ZX) x36 x37 b0 zY (z16 : List ZE) z4y ox35 z1o z1m z1R (z9P : ZW z1R = true) : Sim Z12 (Z40 x35 x36 x37 b0 zY z16 z4y) (Zvm 0 (.ptr 0 0) (.ptr 2 0) (ZP ox35 (x35.map Z1X)) (iv x36) (iv x37) [(Z10 b0 z1o z1m), (rM_ ZK zY), [(ZP z1R (z16.map ZU)), (.mp 1), (iv z4y)]]) := by
 unfold Z40
 refine zf (ZGT ..)<|ze<|zq ?_
 exact zk (Zaf x35 x36 (IntKind.i64.wrap (x37 + 1)) b0 zY z16 z4y ox35 z1o z1m z1R z9P)
def Z5Z (x35 : List ZX) (x36 x37 : Int) (b0 : ZX) (zY : List (Int × ZT)) (z16 : List ZE) (z4y : Int) : Option Bool :=
 (lget x35 x37).bind fun a1 =>
 if (a1.Client != b0.Client) = true then
 ((Z3A a1 z16 z4y zY).bind fun r2 =>
 Z40 x35 x36 x37 b0 r2.2.2.2.2 r2.2.2.1 r2.2.2.2.1)
 else
 (Z40 x35 x36 x37 b0 zY z16 z4y)
theorem ZeX (x35 : List ZX) x36 x37 b0 zY (z16 : List ZE) z4y ox35 z1o z1m z1R (z9P : ZW z1R = true) : Sim Z12 (Z5Z x35 x36 x37 b0 zY z16 z4y) (ZEJ 0 (.ptr 0 0) (.ptr 2 0) (ZP ox35 (x35.map Z1X)) (iv x36) (iv x37) [(Z10 b0 z1o z1m), (rM_ ZK zY), [(ZP z1R (z16.map ZU)), (.mp 1), (iv z4y)]]) := by
 unfold Z5Z
 refine zf (ZIc ..)<|ze<|zi fun a1 ha1 => zp (.cptr (Z3e a1 .sh .sh)) (et_ (Z45 (o := ox35) (k := .i64) (n := 9) (e := Z1X) (cs := ZbA) (fun _ => rfl) (fun _ => rfl) (by decide) ha1))<|zq<|zz (.ptr 3 0) [(Z10 b0 z1o z1m), (rM_ ZK zY), [(ZP z1R (z16.map ZU)), (.mp 1), (iv z4y)], (Z10 ZJ4 .nl .nl)]<|zt [(Z10 b0 z1o z1m), (rM_ ZK zY), [(ZP z1R (z16.map ZU)), (.mp 1), (iv z4y)], (Z10 a1 .sh .sh)]<|ze<|zq<|zq<|zq<|zq<|zq ?_
 refine za (a1.Client != b0.Client) ?_ ?_
 ·refine ze<|zq<|zi fun r2 hr2 => ?_
  obtain ⟨_, er2, zCO, _, zIi, rfl⟩ := Z5D a1 z16 z4y zY .sh .sh z1R z9P r2 hr2
  refine zc [2, 1] (.p (.tup [(.agg (Z1q r2.1)), (.v (.int .i64 r2.2.1))])) [(Z10 b0 z1o z1m), (rM_ ZK r2.2.2.2.2), [(ZP zCO (r2.2.2.1.map ZU)), (.mp 1), (iv r2.2.2.2.1)], (Z10 a1 .sh .sh)] er2 ?_
  exact zk (Z9M x35 x36 x37 b0 r2.2.2.2.2 r2.2.2.1 r2.2.2.2.1 ox35 z1o z1m zCO zIi)
 ·exact zk (Z9M x35 x36 x37 b0 zY z16 z4y ox35 z1o z1m z1R z9P)
def Z5L (b0 : ZX) (zY : List (Int × ZT)) (z16 : List ZE) (z4y : Int) : Option Bool :=
 (Z3A b0 z16 z4y zY).bind fun r1 =>
 (Z5U b0.Client r1.2.2.2.2).bind fun r2 =>
 if (r1.2.1 == 0) = true then
 (if (r1.1.Verdict.Code != 31) = true then
 (some true)
 else
 (if (r1.1.Verdict.Code == 31) = true then
 (if r2.2.2 = true then
 (if (r2.1 == b0.Request) = true then
 (some (((r2.2.1.Version == r1.1.Version) && ((r2.2.1.Verdict.Code == r1.1.Verdict.Code) && ((r2.2.1.Verdict.Rule == r1.1.Verdict.Rule) && ((r2.2.1.Verdict.At == r1.1.Verdict.At) && true))))))
 else
 (some false))
 else
 (some false))
 else
 (some false)))
 else
 (if (r1.1.Verdict.Code == 31) = true then
 (if r2.2.2 = true then
 (if (r2.1 == b0.Request) = true then
 (some (((r2.2.1.Version == r1.1.Version) && ((r2.2.1.Verdict.Code == r1.1.Verdict.Code) && ((r2.2.1.Verdict.Rule == r1.1.Verdict.Rule) && ((r2.2.1.Verdict.At == r1.1.Verdict.At) && true))))))
 else
 (some false))
 else
 (some false))
 else
 (some false))
theorem Zea b0 zY (z16 : List ZE) z4y z1o z1m z1R (z9P : ZW z1R = true) : Sim Z12 (Z5L b0 zY z16 z4y) (ZA3 0 (.ptr 0 0) (.ptr 2 0) [(Z10 b0 z1o z1m), (rM_ ZK zY), [(ZP z1R (z16.map ZU)), (.mp 1), (iv z4y)]]) := by
 unfold Z5L
 refine zf (ZGV ..)<|ze<|zq<|zi fun r1 hr1 => ?_
 obtain ⟨_, er1, z4h, _, zu7, rfl⟩ := Z5D b0 z16 z4y zY .sh .sh z1R z9P r1 hr1
 refine zc [2, 1] (.p (.tup [(.agg (Z1q r1.1)), (.v (.int .i64 r1.2.1))])) [(Z10 b0 z1o z1m), (rM_ ZK r1.2.2.2.2), [(ZP z4h (r1.2.2.1.map ZU)), (.mp 1), (iv r1.2.2.2.1)]] er1<|zq<|zq<|zz (.ptr 3 0) [(Z10 b0 z1o z1m), (rM_ ZK r1.2.2.2.2), [(ZP z4h (r1.2.2.1.map ZU)), (.mp 1), (iv r1.2.2.2.1)], (ZF Z3y)]<|zt [(Z10 b0 z1o z1m), (rM_ ZK r1.2.2.2.2), [(ZP z4h (r1.2.2.1.map ZU)), (.mp 1), (iv r1.2.2.2.1)], (ZF r1.1)]<|ze<|zq<|zq<|zi fun r2 hr2 => ?_
 obtain ⟨_, er2, _, rfl⟩ := Zcc b0.Client r1.2.2.1 r1.2.2.2.1 r1.2.2.2.2 z4h zu7 r2 hr2
 refine zc [2, 1] (.p (.tup [(.v (.int .i64 r2.1)), (.agg (Z1q r2.2.1)), (.v (.bool r2.2.2))])) [(Z10 b0 z1o z1m), (rM_ ZK r1.2.2.2.2), [(ZP z4h (r1.2.2.1.map ZU)), (.mp 1), (iv r1.2.2.2.1)], (ZF r1.1)] er2<|zq<|zq<|zq<|zz (.ptr 4 0) [(Z10 b0 z1o z1m), (rM_ ZK r1.2.2.2.2), [(ZP z4h (r1.2.2.1.map ZU)), (.mp 1), (iv r1.2.2.2.1)], (ZF r1.1), (ZF Z3y)]<|zt [(Z10 b0 z1o z1m), (rM_ ZK r1.2.2.2.2), [(ZP z4h (r1.2.2.1.map ZU)), (.mp 1), (iv r1.2.2.2.1)], (ZF r1.1), (ZF r2.2.1)]<|ze<|zq ?_
 refine za (r1.2.1 == 0) ?_ ?_
 ·refine zq<|zq<|zq<|zq ?_
  refine za (r1.1.Verdict.Code != 31) ?_ ?_
  ·exact zr ((bv true), [(Z10 b0 z1o z1m), (rM_ ZK r1.2.2.2.2), [(ZP z4h (r1.2.2.1.map ZU)), (.mp 1), (iv r1.2.2.2.1)], (ZF r1.1), (ZF r2.2.1)]) ⟨_, rfl⟩
  ·refine zq<|zq<|zq<|zq ?_
   refine za (r1.1.Verdict.Code == 31) ?_ ?_
   ·refine za r2.2.2 ?_ ?_
    ·refine zq<|zq<|zq ?_
     refine za (r2.1 == b0.Request) ?_ ?_
     ·refine zq<|zq<|zp (bv ((r2.2.1.Version == r1.1.Version) && ((r2.2.1.Verdict.Code == r1.1.Verdict.Code) && ((r2.2.1.Verdict.Rule == r1.1.Verdict.Rule) && ((r2.2.1.Verdict.At == r1.1.Verdict.At) && true))))) (Eq.trans (b := xbin PP .eql 66 (pA_ (Z1q r2.2.1)) (pA_ (Z1q r1.1))) (by kernel_rfl) (Zuz (by kernel_rfl) (by kernel_rfl) (by kernel_rfl) (by kernel_rfl) (by kernel_rfl))) ?_
      exact zr ((bv ((r2.2.1.Version == r1.1.Version) && ((r2.2.1.Verdict.Code == r1.1.Verdict.Code) && ((r2.2.1.Verdict.Rule == r1.1.Verdict.Rule) && ((r2.2.1.Verdict.At == r1.1.Verdict.At) && true))))), [(Z10 b0 z1o z1m), (rM_ ZK r1.2.2.2.2), [(ZP z4h (r1.2.2.1.map ZU)), (.mp 1), (iv r1.2.2.2.1)], (ZF r1.1), (ZF r2.2.1)]) ⟨_, rfl⟩
     ·exact zr ((bv false), [(Z10 b0 z1o z1m), (rM_ ZK r1.2.2.2.2), [(ZP z4h (r1.2.2.1.map ZU)), (.mp 1), (iv r1.2.2.2.1)], (ZF r1.1), (ZF r2.2.1)]) ⟨_, rfl⟩
    ·exact zr ((bv false), [(Z10 b0 z1o z1m), (rM_ ZK r1.2.2.2.2), [(ZP z4h (r1.2.2.1.map ZU)), (.mp 1), (iv r1.2.2.2.1)], (ZF r1.1), (ZF r2.2.1)]) ⟨_, rfl⟩
   ·exact zr ((bv false), [(Z10 b0 z1o z1m), (rM_ ZK r1.2.2.2.2), [(ZP z4h (r1.2.2.1.map ZU)), (.mp 1), (iv r1.2.2.2.1)], (ZF r1.1), (ZF r2.2.1)]) ⟨_, rfl⟩
 ·refine zq<|zq<|zq<|zq ?_
  refine za (r1.1.Verdict.Code == 31) ?_ ?_
  ·refine za r2.2.2 ?_ ?_
   ·refine zq<|zq<|zq ?_
    refine za (r2.1 == b0.Request) ?_ ?_
    ·refine zq<|zq<|zp (bv ((r2.2.1.Version == r1.1.Version) && ((r2.2.1.Verdict.Code == r1.1.Verdict.Code) && ((r2.2.1.Verdict.Rule == r1.1.Verdict.Rule) && ((r2.2.1.Verdict.At == r1.1.Verdict.At) && true))))) (Eq.trans (b := xbin PP .eql 66 (pA_ (Z1q r2.2.1)) (pA_ (Z1q r1.1))) (by kernel_rfl) (Zuz (by kernel_rfl) (by kernel_rfl) (by kernel_rfl) (by kernel_rfl) (by kernel_rfl))) ?_
     exact zr ((bv ((r2.2.1.Version == r1.1.Version) && ((r2.2.1.Verdict.Code == r1.1.Verdict.Code) && ((r2.2.1.Verdict.Rule == r1.1.Verdict.Rule) && ((r2.2.1.Verdict.At == r1.1.Verdict.At) && true))))), [(Z10 b0 z1o z1m), (rM_ ZK r1.2.2.2.2), [(ZP z4h (r1.2.2.1.map ZU)), (.mp 1), (iv r1.2.2.2.1)], (ZF r1.1), (ZF r2.2.1)]) ⟨_, rfl⟩
    ·exact zr ((bv false), [(Z10 b0 z1o z1m), (rM_ ZK r1.2.2.2.2), [(ZP z4h (r1.2.2.1.map ZU)), (.mp 1), (iv r1.2.2.2.1)], (ZF r1.1), (ZF r2.2.1)]) ⟨_, rfl⟩
   ·exact zr ((bv false), [(Z10 b0 z1o z1m), (rM_ ZK r1.2.2.2.2), [(ZP z4h (r1.2.2.1.map ZU)), (.mp 1), (iv r1.2.2.2.1)], (ZF r1.1), (ZF r2.2.1)]) ⟨_, rfl⟩
  ·exact zr ((bv false), [(Z10 b0 z1o z1m), (rM_ ZK r1.2.2.2.2), [(ZP z4h (r1.2.2.1.map ZU)), (.mp 1), (iv r1.2.2.2.1)], (ZF r1.1), (ZF r2.2.1)]) ⟨_, rfl⟩
def Z4G (b0 : ZX) (zY : List (Int × ZT)) (z16 : List ZE) (z4y : Int) : Option Bool :=
 (Z5U b0.Client zY).bind fun r1 =>
 if r1.2.2 = true then
 (some false)
 else
 (Z5L b0 zY z16 z4y)
theorem Ze9 b0 zY (z16 : List ZE) z4y z1o z1m z1R (z9P : ZW z1R = true) : Sim Z12 (Z4G b0 zY z16 z4y) (ZA2 0 (.ptr 0 0) (.ptr 2 0) [(Z10 b0 z1o z1m), (rM_ ZK zY), [(ZP z1R (z16.map ZU)), (.mp 1), (iv z4y)]]) := by
 unfold Z4G
 refine zf (ZGU ..)<|ze<|zq<|zq<|zi fun r1 hr1 => ?_
 obtain ⟨_, er1, _, rfl⟩ := Zcc b0.Client z16 z4y zY z1R z9P r1 hr1
 refine zc [2, 1] (.p (.tup [(.v (.int .i64 r1.1)), (.agg (Z1q r1.2.1)), (.v (.bool r1.2.2))])) [(Z10 b0 z1o z1m), (rM_ ZK zY), [(ZP z1R (z16.map ZU)), (.mp 1), (iv z4y)]] er1<|zq<|zq<|zq<|zz (.ptr 3 0) [(Z10 b0 z1o z1m), (rM_ ZK zY), [(ZP z1R (z16.map ZU)), (.mp 1), (iv z4y)], (ZF Z3y)]<|zt [(Z10 b0 z1o z1m), (rM_ ZK zY), [(ZP z1R (z16.map ZU)), (.mp 1), (iv z4y)], (ZF r1.2.1)]<|ze ?_
 refine za r1.2.2 ?_ ?_
 ·refine ze ?_
  exact zr ((bv false), [(Z10 b0 z1o z1m), (rM_ ZK zY), [(ZP z1R (z16.map ZU)), (.mp 1), (iv z4y)], (ZF r1.2.1)]) ⟨_, rfl⟩
 ·exact zk (Zea b0 zY z16 z4y z1o z1m z1R z9P)
def Z4N (x35 : List ZX) (x36 x37 : Int) (b0 : ZX) (zY : List (Int × ZT)) (z16 : List ZE) (z4y : Int) : Option Bool :=
 if (decide (x37 < x36)) = true then
 (Z5Z x35 x36 x37 b0 zY z16 z4y)
 else
 (Z4G b0 zY z16 z4y)
theorem ZeU (x35 : List ZX) x36 x37 b0 zY (z16 : List ZE) z4y ox35 z1o z1m z1R (z9P : ZW z1R = true) : Sim Z12 (Z4N x35 x36 x37 b0 zY z16 z4y) (Zvl 0 (.ptr 0 0) (.ptr 2 0) (ZP ox35 (x35.map Z1X)) (iv x36) (iv x37) [(Z10 b0 z1o z1m), (rM_ ZK zY), [(ZP z1R (z16.map ZU)), (.mp 1), (iv z4y)]]) := by
 unfold Z4N
 refine zf (ZI8 ..)<|ze<|zq ?_
 refine za (decide (x37 < x36)) ?_ ?_
 ·exact zk (ZeX x35 x36 x37 b0 zY z16 z4y ox35 z1o z1m z1R z9P)
 ·exact zk (Ze9 b0 zY z16 z4y z1o z1m z1R z9P)
theorem Zae x35 x36 x37 b0 zY z16 z4y {r} (h : Z4N x35 x36 x37 b0 zY z16 z4y = some r) : Z4Q x35 x36 x37 b0 zY z16 z4y = some r :=
 Z1g (fun _ _ ha hb => ru_ Z2o (ha .ex .ex .ex .ex rfl) (hb .ex .ex .ex .ex rfl)) (fun ox35 z1o z1m z1R z9P => ZeU x35 x36 x37 b0 zY z16 z4y ox35 z1o z1m z1R z9P r h)
def Z9w : Option Bool :=
 (Zdv).bind fun r1 =>
 (Z6g 1 1 3 (ByteArray.mk #[97])).bind fun r2 =>
 (Z3A r2 r1.2.1 r1.2.2 r1.1).bind fun r3 =>
 (Z6g 1 1 3 (ByteArray.mk #[97])).bind fun r4 =>
 (Z3A r4 r3.2.2.1 r3.2.2.2.1 r3.2.2.2.2).bind fun r5 =>
 (Z6g 1 2 4 (ByteArray.mk #[40])).bind fun r6 =>
 (Z3A r6 r5.2.2.1 r5.2.2.2.1 r5.2.2.2.2).bind fun r7 =>
 if (r3.2.1 == 0) = true then
 (if (r5.2.1 == 0) = true then
 (if (r7.2.1 == 0) = true then
 (if (((r3.1.Version == 1) && ((r3.1.Verdict.Code == 0) && ((r3.1.Verdict.Rule == 0) && ((r3.1.Verdict.At == 0) && true))))) = true then
 (if (r5.1.Verdict.Code == 31) = true then
 (if ((r7.1.Verdict.Code == 20) && ((r7.1.Verdict.Rule == 4) && ((r7.1.Verdict.At == 0) && true))) = true then
 ((Z6R r7.2.2.1).bind fun r8 =>
 some (r8 == 1))
 else
 (some false))
 else
 (some false))
 else
 (some false))
 else
 (some false))
 else
 (some false))
 else
 (some false)
theorem Zks : Sim Z12 Z9w (EE 29 [] []) := by
 unfold Z9w
 refine zf (ZM2 ..)<|ze<|ze<|zi fun r1 hr1 => ?_
 obtain ⟨_, er1, zlp, _, zu6, rfl, _⟩ := ZlF r1 hr1
 refine zc [] (.ptr 1 0) [(rM_ ZK r1.1), [(ZP zlp (r1.2.1.map ZU)), (.mp 0), (iv r1.2.2)]] er1<|ze<|zi fun r2 hr2 => ?_
 obtain ⟨_, er2, _, rfl⟩ := Zc5 1 1 3 (ByteArray.mk #[97]) r2 hr2
 refine zc [] (pA_ (Z3e r2 .sh .sh)) [(rM_ ZK r1.1), [(ZP zlp (r1.2.1.map ZU)), (.mp 0), (iv r1.2.2)]] er2<|zi fun r3 hr3 => ?_
 obtain ⟨_, er3, zoJ, _, zIj, rfl⟩ := Z5D r2 r1.2.1 r1.2.2 r1.1 .sh .sh zlp zu6 r3 hr3
 refine zc [1, 0] (.p (.tup [(.agg (Z1q r3.1)), (.v (.int .i64 r3.2.1))])) [(rM_ ZK r3.2.2.2.2), [(ZP zoJ (r3.2.2.1.map ZU)), (.mp 0), (iv r3.2.2.2.1)]] er3<|zq<|zq<|zz (.ptr 2 0) [(rM_ ZK r3.2.2.2.2), [(ZP zoJ (r3.2.2.1.map ZU)), (.mp 0), (iv r3.2.2.2.1)], (ZF Z3y)]<|zt [(rM_ ZK r3.2.2.2.2), [(ZP zoJ (r3.2.2.1.map ZU)), (.mp 0), (iv r3.2.2.2.1)], (ZF r3.1)]<|ze<|zi fun r4 hr4 => ?_
 obtain ⟨_, er4, _, rfl⟩ := Zc5 1 1 3 (ByteArray.mk #[97]) r4 hr4
 refine zc [] (pA_ (Z3e r4 .sh .sh)) [(rM_ ZK r3.2.2.2.2), [(ZP zoJ (r3.2.2.1.map ZU)), (.mp 0), (iv r3.2.2.2.1)], (ZF r3.1)] er4<|zi fun r5 hr5 => ?_
 obtain ⟨_, er5, zoL, _, zIl, rfl⟩ := Z5D r4 r3.2.2.1 r3.2.2.2.1 r3.2.2.2.2 .sh .sh zoJ zIj r5 hr5
 refine zc [1, 0] (.p (.tup [(.agg (Z1q r5.1)), (.v (.int .i64 r5.2.1))])) [(rM_ ZK r5.2.2.2.2), [(ZP zoL (r5.2.2.1.map ZU)), (.mp 0), (iv r5.2.2.2.1)], (ZF r3.1)] er5<|zq<|zq<|zz (.ptr 3 0) [(rM_ ZK r5.2.2.2.2), [(ZP zoL (r5.2.2.1.map ZU)), (.mp 0), (iv r5.2.2.2.1)], (ZF r3.1), (ZF Z3y)]<|zt [(rM_ ZK r5.2.2.2.2), [(ZP zoL (r5.2.2.1.map ZU)), (.mp 0), (iv r5.2.2.2.1)], (ZF r3.1), (ZF r5.1)]<|ze<|zi fun r6 hr6 => ?_
 obtain ⟨_, er6, _, rfl⟩ := Zc5 1 2 4 (ByteArray.mk #[40]) r6 hr6
 refine zc [] (pA_ (Z3e r6 .sh .sh)) [(rM_ ZK r5.2.2.2.2), [(ZP zoL (r5.2.2.1.map ZU)), (.mp 0), (iv r5.2.2.2.1)], (ZF r3.1), (ZF r5.1)] er6<|zi fun r7 hr7 => ?_
 obtain ⟨_, er7, zbB, _, zIn, rfl⟩ := Z5D r6 r5.2.2.1 r5.2.2.2.1 r5.2.2.2.2 .sh .sh zoL zIl r7 hr7
 refine zc [1, 0] (.p (.tup [(.agg (Z1q r7.1)), (.v (.int .i64 r7.2.1))])) [(rM_ ZK r7.2.2.2.2), [(ZP zbB (r7.2.2.1.map ZU)), (.mp 0), (iv r7.2.2.2.1)], (ZF r3.1), (ZF r5.1)] er7<|zq<|zq<|zz (.ptr 4 0) [(rM_ ZK r7.2.2.2.2), [(ZP zbB (r7.2.2.1.map ZU)), (.mp 0), (iv r7.2.2.2.1)], (ZF r3.1), (ZF r5.1), (ZF Z3y)]<|zt [(rM_ ZK r7.2.2.2.2), [(ZP zbB (r7.2.2.1.map ZU)), (.mp 0), (iv r7.2.2.2.1)], (ZF r3.1), (ZF r5.1), (ZF r7.1)]<|ze<|zq ?_
 refine za (r3.2.1 == 0) ?_ ?_
 ·refine zq ?_
  refine za (r5.2.1 == 0) ?_ ?_
  ·refine zq ?_
   refine za (r7.2.1 == 0) ?_ ?_
   ·refine zq<|zq<|zp (bv ((r3.1.Version == 1) && ((r3.1.Verdict.Code == 0) && ((r3.1.Verdict.Rule == 0) && ((r3.1.Verdict.At == 0) && true))))) (Eq.trans (b := xbin PP .eql 66 (pA_ (Z1q r3.1)) (pA_ (Z1q (Z1c.mk 1 Z7o)))) (by kernel_rfl) (Zuz (by kernel_rfl) (by kernel_rfl) (by kernel_rfl) (by kernel_rfl) (by kernel_rfl))) ?_
    refine za (((r3.1.Version == 1) && ((r3.1.Verdict.Code == 0) && ((r3.1.Verdict.Rule == 0) && ((r3.1.Verdict.At == 0) && true))))) ?_ ?_
    ·refine zq<|zq<|zq<|zq ?_
     refine za (r5.1.Verdict.Code == 31) ?_ ?_
     ·refine zq<|zq<|zq<|zp (bv ((r7.1.Verdict.Code == 20) && ((r7.1.Verdict.Rule == 4) && ((r7.1.Verdict.At == 0) && true)))) (Eq.trans (b := xbin PP .eql 32 (pA_ (Z1U r7.1.Verdict)) (pA_ (Z1U (ZR.mk 20 4 0)))) (by kernel_rfl) (ZLs (by kernel_rfl) (by kernel_rfl) (by kernel_rfl) (by kernel_rfl) (by kernel_rfl))) ?_
      refine za ((r7.1.Verdict.Code == 20) && ((r7.1.Verdict.Rule == 4) && ((r7.1.Verdict.At == 0) && true))) ?_ ?_
      ·refine zi fun r8 hr8 => ?_
       obtain ⟨_, er8, _, rfl⟩ := ZgO r7.2.2.1 r7.2.2.2.1 r7.2.2.2.2 zbB zIn r8 hr8
       refine zc [1, 0] (iv r8) [(rM_ ZK r7.2.2.2.2), [(ZP zbB (r7.2.2.1.map ZU)), (.mp 0), (iv r7.2.2.2.1)], (ZF r3.1), (ZF r5.1), (ZF r7.1)] er8<|zq ?_
       exact zr ((bv (r8 == 1)), [(rM_ ZK r7.2.2.2.2), [(ZP zbB (r7.2.2.1.map ZU)), (.mp 0), (iv r7.2.2.2.1)], (ZF r3.1), (ZF r5.1), (ZF r7.1)]) ⟨_, rfl⟩
      ·exact zr ((bv false), [(rM_ ZK r7.2.2.2.2), [(ZP zbB (r7.2.2.1.map ZU)), (.mp 0), (iv r7.2.2.2.1)], (ZF r3.1), (ZF r5.1), (ZF r7.1)]) ⟨_, rfl⟩
     ·exact zr ((bv false), [(rM_ ZK r7.2.2.2.2), [(ZP zbB (r7.2.2.1.map ZU)), (.mp 0), (iv r7.2.2.2.1)], (ZF r3.1), (ZF r5.1), (ZF r7.1)]) ⟨_, rfl⟩
    ·exact zr ((bv false), [(rM_ ZK r7.2.2.2.2), [(ZP zbB (r7.2.2.1.map ZU)), (.mp 0), (iv r7.2.2.2.1)], (ZF r3.1), (ZF r5.1), (ZF r7.1)]) ⟨_, rfl⟩
   ·exact zr ((bv false), [(rM_ ZK r7.2.2.2.2), [(ZP zbB (r7.2.2.1.map ZU)), (.mp 0), (iv r7.2.2.2.1)], (ZF r3.1), (ZF r5.1), (ZF r7.1)]) ⟨_, rfl⟩
  ·exact zr ((bv false), [(rM_ ZK r7.2.2.2.2), [(ZP zbB (r7.2.2.1.map ZU)), (.mp 0), (iv r7.2.2.2.1)], (ZF r3.1), (ZF r5.1), (ZF r7.1)]) ⟨_, rfl⟩
 ·exact zr ((bv false), [(rM_ ZK r7.2.2.2.2), [(ZP zbB (r7.2.2.1.map ZU)), (.mp 0), (iv r7.2.2.2.1)], (ZF r3.1), (ZF r5.1), (ZF r7.1)]) ⟨_, rfl⟩
theorem ZkT {r} (h : Z9w = some r) : Z9C = some r :=
 Z1g (fun _ _ ha hb => ru_ Z2o ha hb) (Zks r h)
def Zgt : Option ((List (Int × ZT)) × (List ZE) × Int) :=
 (ZhZ).bind fun r1 =>
 some (([] : List (Int × ZT)), ([r1] : List ZE), 0)
theorem Zt2 : Sim Zgp Zgt (EE 32 [] []) := by
 unfold Zgt
 refine zf (ZM8 ..)<|ze<|ze<|zi fun r1 hr1 => ?_
 obtain ⟨_, er1, _, rfl⟩ := ZvA r1 hr1
 refine zc [] (pA_ (Z1V r1 .sh)) [] er1<|zq<|zm (.mp 0) [(rM_ ZK ([] : List (Int × ZT)))]<|zq<|zx (.ptr 1 0) [(rM_ ZK ([] : List (Int × ZT))), [(ZP .ex (([r1] : List ZE).map ZU)), (.mp 0), (iv 0)]] ?_
 exact zr ((.ptr 1 0), [(rM_ ZK ([] : List (Int × ZT))), [(ZP .ex (([r1] : List ZE).map ZU)), (.mp 0), (iv 0)]]) ⟨.ex, [], rfl, rfl, rfl⟩
theorem ZtN {r} (h : Zgt = some r) : Zdv = some r :=
 Z1g (fun _ _ ha hb => ru_ ZuC ha hb) (Zt2 r h)
def Zlv : Option ZE :=
 some (ZE.mk 0 255 10000 500 ([] : List ZA))
theorem ZtU : Sim ZhK Zlv (EE 43 [] []) := by
 unfold Zlv
 refine zf (ZMd ..)<|ze<|zz (.ptr 0 0) [(ZC Z5i .nl)]<|ze<|zq<|zt [(Z2G 0 255 10000 500 ([] : List ZA) .nl)] ?_
 exact zr ((pA_ (Z1V (ZE.mk 0 255 10000 500 ([] : List ZA)) .sh)), [(Z2G 0 255 10000 500 ([] : List ZA) .nl)]) ⟨_, rfl⟩
theorem Zvz {r} (h : Zlv = some r) : ZhZ = some r :=
 Z1g (fun _ _ ha hb => ru_ Zw8 ha hb) (ZtU r h)
def ZdM (x0 x1 x2 : Int) (x3 : ByteArray) : Option ZX :=
 some (ZX.mk 0 x0 x1 (Z1e.mk (-1) (-1) (-1) (-1) ([(ZA.mk x2 0 0 1 x3)] : List ZA) ([] : List Int)))
theorem Zmg x0 x1 x2 x3 : Sim Zbf (ZdM x0 x1 x2 x3) (EE 55 [(iv x0), (iv x1), (iv x2), (.p (.v (.string x3)))] []) := by
 unfold ZdM
 refine zf (ZMn ..)<|ze<|zz (.ptr 0 0) [(Z10 ZJ4 .nl .nl)]<|ze<|zq<|zq<|zq<|zq<|zt [(Z10 (ZX.mk 0 x0 x1 (Z1e.mk (-1) (-1) (-1) (-1) ([(ZA.mk x2 0 0 1 x3)] : List ZA) ([] : List Int))) .ex .nl)] ?_
 exact zr ((pA_ (Z3e (ZX.mk 0 x0 x1 (Z1e.mk (-1) (-1) (-1) (-1) ([(ZA.mk x2 0 0 1 x3)] : List ZA) ([] : List Int))) .sh .sh)), [(Z10 (ZX.mk 0 x0 x1 (Z1e.mk (-1) (-1) (-1) (-1) ([(ZA.mk x2 0 0 1 x3)] : List ZA) ([] : List Int))) .ex .nl)]) ⟨_, rfl⟩
theorem ZfU x0 x1 x2 x3 {r} (h : ZdM x0 x1 x2 x3 = some r) : Z6g x0 x1 x2 x3 = some r :=
 Z1g (fun _ _ ha hb => ru_ Znz ha hb) (Zmg x0 x1 x2 x3 r h)
def Z9k (z14 : List ZE) (z29 : Int) (zY : List (Int × ZT)) : Option (Z1c × Int × (List ZE) × Int × (List (Int × ZT))) :=
 some ((Z1c.mk 0 (ZR.mk 31 0 0)), 0, z14, z29, zY)
theorem ZgM (z14 : List ZE) z29 zY b2 b3 z1O z31 z2Q (z3V : ZW z1O = true) : Sim Z4r (Z9k z14 z29 zY) (Zzx 2 (.ptr 3 0) [[(ZP z1O (z14.map ZU)), (.mp 1), (iv z29)], (rM_ ZK zY), (Z10 b2 z31 z2Q), (ZF b3)]) := by
 unfold Z9k
 refine zf (ZGp ..)<|ze<|zq<|zq<|zt [[(ZP z1O (z14.map ZU)), (.mp 1), (iv z29)], (rM_ ZK zY), (Z10 b2 z31 z2Q), (Zy6 0 31 0 0)] ?_
 exact zr ((.p (.tup [(.agg (Z1q (Z1c.mk 0 (ZR.mk 31 0 0)))), (.v (.int .i64 0))])), [[(ZP z1O (z14.map ZU)), (.mp 1), (iv z29)], (rM_ ZK zY), (Z10 b2 z31 z2Q), (Zy6 0 31 0 0)]) ⟨z1O, _, z3V, rfl⟩
def Z4B (z14 : List ZE) (z29 : Int) (zY : List (Int × ZT)) (b2 : ZX) : Option (Z1c × Int × (List ZE) × Int × (List (Int × ZT))) :=
 (Z7d b2.Delta z14).bind fun r1 =>
 some (r1.1, 0, r1.2, z29, (putM zY b2.Client (ZT.mk b2.Request (Z1c.mk r1.1.Version (ZR.mk r1.1.Verdict.Code r1.1.Verdict.Rule r1.1.Verdict.At)))))
theorem ZaZ (z14 : List ZE) z29 zY b2 b3 z1O z31 z2Q (z3V : ZW z1O = true) : Sim Z4r (Z4B z14 z29 zY b2) (Zv8 2 (.ptr 0 0) (.ptr 2 0) (.ptr 3 0) [[(ZP z1O (z14.map ZU)), (.mp 1), (iv z29)], (rM_ ZK zY), (Z10 b2 z31 z2Q), (ZF b3)]) := by
 unfold Z4B
 refine zf (ZGq ..)<|ze<|zq<|zq<|zi fun r1 hr1 => ?_
 obtain ⟨_, er1, z4h, _, zu7, rfl⟩ := Zhz b2.Delta z14 z29 zY .sh .sh z1O z3V r1 hr1
 refine zc [0, 1] (pA_ (Z1q r1.1)) [[(ZP z4h (r1.2.map ZU)), (.mp 1), (iv z29)], (rM_ ZK zY), (Z10 b2 z31 z2Q), (ZF b3)] er1<|zz (.ptr 4 0) [[(ZP z4h (r1.2.map ZU)), (.mp 1), (iv z29)], (rM_ ZK zY), (Z10 b2 z31 z2Q), (ZF b3), (ZF Z3y)]<|zt [[(ZP z4h (r1.2.map ZU)), (.mp 1), (iv z29)], (rM_ ZK zY), (Z10 b2 z31 z2Q), (ZF b3), (ZF r1.1)]<|ze<|zq<|zq<|zq<|zq<|zq<|zq<|zq<|zq<|zq ?_
 refine Sim.xupd (B2 := [[(ZP z4h (r1.2.map ZU)), (.mp 1), (iv z29)], (rM_ ZK (putM zY b2.Client (ZT.mk b2.Request (Z1c.mk r1.1.Version (ZR.mk r1.1.Verdict.Code r1.1.Verdict.Rule r1.1.Verdict.At))))), (Z10 b2 z31 z2Q), (ZF b3), (ZF r1.1)]) (fun K => Eq.trans (b := xupd PP 122 (.mp 1) (iv b2.Client) (pA_ (Za1 (ZT.mk b2.Request (Z1c.mk r1.1.Version (ZR.mk r1.1.Verdict.Code r1.1.Verdict.Rule r1.1.Verdict.At))))) [[(ZP z4h (r1.2.map ZU)), (.mp 1), (iv z29)], (rM_ ZK zY), (Z10 b2 z31 z2Q), (ZF b3), (ZF r1.1)] K) (by kernel_rfl) <| ZsV (P := PP) (t := 122) (K := K) (B2 := [[(ZP z4h (r1.2.map ZU)), (.mp 1), (iv z29)], (rM_ ZK (putM zY b2.Client (ZT.mk b2.Request (Z1c.mk r1.1.Version (ZR.mk r1.1.Verdict.Code r1.1.Verdict.Rule r1.1.Verdict.At))))), (Z10 b2 z31 z2Q), (ZF b3), (ZF r1.1)]) (e := ZK) (a := (ZT.mk b2.Request (Z1c.mk r1.1.Version (ZR.mk r1.1.Verdict.Code r1.1.Verdict.Rule r1.1.Verdict.At)))) (es := zY) (te := 126) (by kernel_rfl) (by kernel_rfl) (by kernel_rfl) (by kernel_rfl) (by kernel_rfl)) ?_
 refine ze<|zq<|zt [[(ZP z4h (r1.2.map ZU)), (.mp 1), (iv z29)], (rM_ ZK (putM zY b2.Client (ZT.mk b2.Request (Z1c.mk r1.1.Version (ZR.mk r1.1.Verdict.Code r1.1.Verdict.Rule r1.1.Verdict.At))))), (Z10 b2 z31 z2Q), (ZF r1.1), (ZF r1.1)] ?_
 exact zr ((.p (.tup [(.agg (Z1q r1.1)), (.v (.int .i64 0))])), [[(ZP z4h (r1.2.map ZU)), (.mp 1), (iv z29)], (rM_ ZK (putM zY b2.Client (ZT.mk b2.Request (Z1c.mk r1.1.Version (ZR.mk r1.1.Verdict.Code r1.1.Verdict.Rule r1.1.Verdict.At))))), (Z10 b2 z31 z2Q), (ZF r1.1), (ZF r1.1)]) ⟨z4h, _, zu7, rfl⟩
def Z4A (z14 : List ZE) (z29 : Int) (zY : List (Int × ZT)) (b2 : ZX) : Option (Z1c × Int × (List ZE) × Int × (List (Int × ZT))) :=
 if ((getM zY b2.Client).isSome) = true then
 (if ((decide (b2.Request ≤ ((getM zY b2.Client).getD (ZT.mk 0 (Z1c.mk 0 (ZR.mk 0 0 0)))).request))) = true then
 (Z9k z14 (IntKind.i64.wrap (z29 + 1)) zY)
 else
 (Z4B z14 (IntKind.i64.wrap (z29 + 1)) zY b2))
 else
 (Z4B z14 (IntKind.i64.wrap (z29 + 1)) zY b2)
theorem ZgL (z14 : List ZE) z29 zY b2 b3 z1O z31 z2Q (z3V : ZW z1O = true) : Sim Z4r (Z4A z14 z29 zY b2) (Zzw 2 (.ptr 0 0) (.ptr 2 0) (.ptr 3 0) [[(ZP z1O (z14.map ZU)), (.mp 1), (iv z29)], (rM_ ZK zY), (Z10 b2 z31 z2Q), (ZF b3)]) := by
 unfold Z4A
 refine zf (ZGo ..)<|ze<|zq<|zq<|zq<|zq<|zq<|zq<|zt [[(ZP z1O (z14.map ZU)), (.mp 1), (iv (IntKind.i64.wrap (z29 + 1)))], (rM_ ZK zY), (Z10 b2 z31 z2Q), (ZF b3)]<|ze<|zq<|zq<|zq<|zq<|zq<|zp (.p (.tup [(.agg (Za1 ((getM zY b2.Client).getD (ZT.mk 0 Z3y)))), (.v (.bool (getM zY b2.Client).isSome))])) (Eq.trans (b := ZbZ PP 122 true (.mp 1) (iv b2.Client) [[(ZP z1O (z14.map ZU)), (.mp 1), (iv (IntKind.i64.wrap (z29 + 1)))], (rM_ ZK zY), (Z10 b2 z31 z2Q), (ZF b3)]) (by kernel_rfl) <| (Zma (e := ZK) (z := (ZT.mk 0 Z3y)) (es := zY) (te := 126) (by kernel_rfl) (by kernel_rfl) (by kernel_rfl) true).trans (by kernel_rfl))<|zq<|zq<|zz (.ptr 4 0) [[(ZP z1O (z14.map ZU)), (.mp 1), (iv (IntKind.i64.wrap (z29 + 1)))], (rM_ ZK zY), (Z10 b2 z31 z2Q), (ZF b3), (Za2 (ZT.mk 0 Z3y))]<|zt [[(ZP z1O (z14.map ZU)), (.mp 1), (iv (IntKind.i64.wrap (z29 + 1)))], (rM_ ZK zY), (Z10 b2 z31 z2Q), (ZF b3), (Za2 ((getM zY b2.Client).getD (ZT.mk 0 Z3y)))]<|zg<|zg<|zg<|ze ?_
 refine za ((getM zY b2.Client).isSome) ?_ ?_
 ·refine zq<|zq<|zq<|zq<|zq ?_
  refine za (decide (b2.Request ≤ ((getM zY b2.Client).getD (ZT.mk 0 Z3y)).request)) ?_ ?_
  ·exact zk (ZgM z14 (IntKind.i64.wrap (z29 + 1)) zY b2 b3 z1O z31 z2Q z3V)
  ·exact zk (ZaZ z14 (IntKind.i64.wrap (z29 + 1)) zY b2 b3 z1O z31 z2Q z3V)
 ·exact zk (ZaZ z14 (IntKind.i64.wrap (z29 + 1)) zY b2 b3 z1O z31 z2Q z3V)
def Z6j (x1 : ZX) (z14 : List ZE) (z29 : Int) (zY : List (Int × ZT)) : Option (Z1c × Int × (List ZE) × Int × (List (Int × ZT))) :=
 (Z9N x1).bind fun r1 =>
 if (!r1) = true then
 (some ((Z1c.mk 0 (ZR.mk 0 0 0)), 10, z14, z29, zY))
 else
 (Z4A z14 z29 zY x1)
theorem Zix x1 (z14 : List ZE) z29 zY z2J z2z z1O (z3V : ZW z1O = true) : Sim Z4r (Z6j x1 z14 z29 zY) (EE 33 [(.ptr 0 0), (pA_ (Z3e x1 z2J z2z))] [[(ZP z1O (z14.map ZU)), (.mp 1), (iv z29)], (rM_ ZK zY)]) := by
 unfold Z6j
 refine zf (ZM9 ..)<|ze<|zx (.ptr 2 0) [[(ZP z1O (z14.map ZU)), (.mp 1), (iv z29)], (rM_ ZK zY), (Z10 x1 z2J z2z)]<|zz (.ptr 3 0) [[(ZP z1O (z14.map ZU)), (.mp 1), (iv z29)], (rM_ ZK zY), (Z10 x1 z2J z2z), (ZF Z3y)]<|ze<|zq<|zi fun r1 hr1 => ?_
 obtain ⟨_, er1, _, rfl⟩ := Zhe x1 .sh .sh r1 hr1
 refine zc [] (bv r1) [[(ZP z1O (z14.map ZU)), (.mp 1), (iv z29)], (rM_ ZK zY), (Z10 x1 z2J z2z), (ZF Z3y)] er1<|zq ?_
 refine za (!r1) ?_ ?_
 ·refine ze<|zq<|zt [[(ZP z1O (z14.map ZU)), (.mp 1), (iv z29)], (rM_ ZK zY), (Z10 x1 z2J z2z), (ZF Z3y)] ?_
  exact zr ((.p (.tup [(.agg (Z1q Z3y)), (.v (.int .i64 10))])), [[(ZP z1O (z14.map ZU)), (.mp 1), (iv z29)], (rM_ ZK zY), (Z10 x1 z2J z2z), (ZF Z3y)]) ⟨z1O, _, z3V, rfl⟩
 ·exact zk (ZgL z14 z29 zY x1 Z3y z1O z2J z2z z3V)
theorem ZcH x1 z14 z29 zY {r} (h : Z6j x1 z14 z29 zY = some r) : Z3A x1 z14 z29 zY = some r :=
 Z1g (fun _ _ ha hb => ru_ ZjJ (ha .ex .ex .ex rfl) (hb .ex .ex .ex rfl)) (fun z2J z2z z1O z3V => Zix x1 z14 z29 zY z2J z2z z1O z3V r h)
def ZbK (x0 : ZX) : Option Bool :=
 (Z5V x0.View 0).bind fun r1 =>
 if r1 = true then
 ((Z5V x0.Client 1).bind fun r2 =>
 if r2 = true then
 ((Z5V x0.Request 1).bind fun r3 =>
 if r3 = true then
 ((Z5V x0.Delta.Default (-1)).bind fun r4 =>
 if r4 = true then
 ((Z5V x0.Delta.Closed (-1)).bind fun r5 =>
 if r5 = true then
 ((Z5V x0.Delta.Fuel (-1)).bind fun r6 =>
 if r6 = true then
 ((Z5V x0.Delta.Stack (-1)).bind fun r7 =>
 if r7 = true then
 (if (decide ((x0.Delta.Put.length : Int) ≤ 16)) = true then
 (if (decide ((x0.Delta.Drop.length : Int) ≤ 16)) = true then
 ((Z6w x0.Delta.Put).bind fun r8 =>
 if (!r8) = true then
 ((Z6V x0.Delta.Drop).bind fun r9 =>
 some (!r9))
 else
 (some false))
 else
 (some false))
 else
 (some false))
 else
 (some false))
 else
 (some false))
 else
 (some false))
 else
 (some false))
 else
 (some false))
 else
 (some false))
 else
 (some false)
theorem Zn9 x0 z1x z1p : Sim Z12 (ZbK x0) (EE 31 [(pA_ (Z3e x0 z1x z1p))] []) := by
 unfold ZbK
 refine zf (ZM7 ..)<|ze<|zx (.ptr 0 0) [(Z10 x0 z1x z1p)]<|ze<|zq<|zq<|zz (.ptr 1 0) [(Z10 x0 z1x z1p), (ZI (Z1e.mk 0 0 0 0 ([] : List ZA) ([] : List Int)) .nl .nl)]<|zt [(Z10 x0 z1x z1p), (ZI x0.Delta (shrO z1x) (shrO z1p))]<|ze<|zq<|zq<|zi fun r1 hr1 => ?_
 obtain ⟨_, er1, _, rfl⟩ := Z71 x0.View 0 r1 hr1
 refine zc [] (bv r1) [(Z10 x0 z1x z1p), (ZI x0.Delta (shrO z1x) (shrO z1p))] er1 ?_
 refine za r1 ?_ ?_
 ·refine zq<|zq<|zi fun r2 hr2 => ?_
  obtain ⟨_, er2, _, rfl⟩ := Z71 x0.Client 1 r2 hr2
  refine zc [] (bv r2) [(Z10 x0 z1x z1p), (ZI x0.Delta (shrO z1x) (shrO z1p))] er2 ?_
  refine za r2 ?_ ?_
  ·refine zq<|zq<|zi fun r3 hr3 => ?_
   obtain ⟨_, er3, _, rfl⟩ := Z71 x0.Request 1 r3 hr3
   refine zc [] (bv r3) [(Z10 x0 z1x z1p), (ZI x0.Delta (shrO z1x) (shrO z1p))] er3 ?_
   refine za r3 ?_ ?_
   ·refine zq<|zq<|zi fun r4 hr4 => ?_
    obtain ⟨_, er4, _, rfl⟩ := Z71 x0.Delta.Default (-1) r4 hr4
    refine zc [] (bv r4) [(Z10 x0 z1x z1p), (ZI x0.Delta (shrO z1x) (shrO z1p))] er4 ?_
    refine za r4 ?_ ?_
    ·refine zq<|zq<|zi fun r5 hr5 => ?_
     obtain ⟨_, er5, _, rfl⟩ := Z71 x0.Delta.Closed (-1) r5 hr5
     refine zc [] (bv r5) [(Z10 x0 z1x z1p), (ZI x0.Delta (shrO z1x) (shrO z1p))] er5 ?_
     refine za r5 ?_ ?_
     ·refine zq<|zq<|zi fun r6 hr6 => ?_
      obtain ⟨_, er6, _, rfl⟩ := Z71 x0.Delta.Fuel (-1) r6 hr6
      refine zc [] (bv r6) [(Z10 x0 z1x z1p), (ZI x0.Delta (shrO z1x) (shrO z1p))] er6 ?_
      refine za r6 ?_ ?_
      ·refine zq<|zq<|zi fun r7 hr7 => ?_
       obtain ⟨_, er7, _, rfl⟩ := Z71 x0.Delta.Stack (-1) r7 hr7
       refine zc [] (bv r7) [(Z10 x0 z1x z1p), (ZI x0.Delta (shrO z1x) (shrO z1p))] er7 ?_
       refine za r7 ?_ ?_
       ·refine zq<|zq<|zp (iv (x0.Delta.Put.length : Int)) (et_ (Z32 (P := PP) (t := 22) (d := 43) (by kernel_rfl) ZG (shrO (shrO z1x)) x0.Delta.Put))<|zq ?_
        refine za (decide ((x0.Delta.Put.length : Int) ≤ 16)) ?_ ?_
        ·refine zq<|zq<|zp (iv (x0.Delta.Drop.length : Int)) (et_ (Z32 (P := PP) (t := 27) (d := 3) (by kernel_rfl) (eI .i64) (shrO (shrO z1p)) x0.Delta.Drop))<|zq ?_
         refine za (decide ((x0.Delta.Drop.length : Int) ≤ 16)) ?_ ?_
         ·refine zq<|zq<|zi fun r8 hr8 => ?_
          obtain ⟨_, er8, _, rfl⟩ := Zg5 x0.Delta.Put .sh r8 hr8
          refine zc [] (bv r8) [(Z10 x0 z1x z1p), (ZI x0.Delta (shrO z1x) (shrO z1p))] er8<|zq ?_
          refine za (!r8) ?_ ?_
          ·refine zq<|zq<|zi fun r9 hr9 => ?_
           obtain ⟨_, er9, _, rfl⟩ := ZgT x0.Delta.Drop .sh r9 hr9
           refine zc [] (bv r9) [(Z10 x0 z1x z1p), (ZI x0.Delta (shrO z1x) (shrO z1p))] er9<|zq ?_
           exact zr ((bv (!r9)), [(Z10 x0 z1x z1p), (ZI x0.Delta (shrO z1x) (shrO z1p))]) ⟨_, rfl⟩
          ·exact zr ((bv false), [(Z10 x0 z1x z1p), (ZI x0.Delta (shrO z1x) (shrO z1p))]) ⟨_, rfl⟩
         ·exact zr ((bv false), [(Z10 x0 z1x z1p), (ZI x0.Delta (shrO z1x) (shrO z1p))]) ⟨_, rfl⟩
        ·exact zr ((bv false), [(Z10 x0 z1x z1p), (ZI x0.Delta (shrO z1x) (shrO z1p))]) ⟨_, rfl⟩
       ·exact zr ((bv false), [(Z10 x0 z1x z1p), (ZI x0.Delta (shrO z1x) (shrO z1p))]) ⟨_, rfl⟩
      ·exact zr ((bv false), [(Z10 x0 z1x z1p), (ZI x0.Delta (shrO z1x) (shrO z1p))]) ⟨_, rfl⟩
     ·exact zr ((bv false), [(Z10 x0 z1x z1p), (ZI x0.Delta (shrO z1x) (shrO z1p))]) ⟨_, rfl⟩
    ·exact zr ((bv false), [(Z10 x0 z1x z1p), (ZI x0.Delta (shrO z1x) (shrO z1p))]) ⟨_, rfl⟩
   ·exact zr ((bv false), [(Z10 x0 z1x z1p), (ZI x0.Delta (shrO z1x) (shrO z1p))]) ⟨_, rfl⟩
  ·exact zr ((bv false), [(Z10 x0 z1x z1p), (ZI x0.Delta (shrO z1x) (shrO z1p))]) ⟨_, rfl⟩
 ·exact zr ((bv false), [(Z10 x0 z1x z1p), (ZI x0.Delta (shrO z1x) (shrO z1p))]) ⟨_, rfl⟩
theorem Zo9 x0 {r} (h : ZbK x0 = some r) : Z9N x0 = some r :=
 Z1g (fun _ _ ha hb => ru_ Z2o (ha .ex .ex) (hb .ex .ex)) (fun z1x z1p => Zn9 x0 z1x z1p r h)
def Zgu (x0 x1 : Int) : Option Bool :=
 if (decide (x1 ≤ x0)) = true then
 (some (decide (x0 ≤ 1099511627776)))
 else
 (some false)
theorem Zt3 x0 x1 : Sim Z12 (Zgu x0 x1) (EE 56 [(iv x0), (iv x1)] []) := by
 unfold Zgu
 refine zf (ZMo ..)<|ze<|ze<|zq ?_
 refine za (decide (x1 ≤ x0)) ?_ ?_
 ·refine zq ?_
  exact zr ((bv (decide (x0 ≤ 1099511627776))), []) ⟨_, rfl⟩
 ·exact zr ((bv false), []) ⟨_, rfl⟩
theorem ZtO x0 x1 {r} (h : Zgu x0 x1 = some r) : Z5V x0 x1 = some r :=
 Z1g (fun _ _ ha hb => ru_ Z2o ha hb) (Zt3 x0 x1 r h)
def Z6o (x0 : List ZA) : Option Bool :=
 (Z7D x0).bind fun r1 =>
 some (decide (0 ≤ r1))
theorem Zfu (x0 : List ZA) ox0 : Sim Z12 (Z6o x0) (EE 57 [(ZP ox0 (x0.map ZG)), (.clo 58 [] [])] []) := by
 unfold Z6o
 refine zf (ZzF ..)<|ze<|ze<|zi fun r1 hr1 => ?_
 obtain ⟨_, er1, _, rfl⟩ := Zi9 x0 .sh r1 hr1
 refine zc [] (iv r1) [] er1<|zq ?_
 exact zr ((bv (decide (0 ≤ r1))), []) ⟨_, rfl⟩
theorem Zg4 x0 {r} (h : Z6o x0 = some r) : Z6w x0 = some r :=
 Z1g (fun _ _ ha hb => ru_ Z2o (ha .ex) (hb .ex)) (fun ox0 => Zfu x0 ox0 r h)
def Z7y (x0 : List ZA) : Option Int :=
 Z5b x0 (x0.length : Int) 0
theorem ZhF (x0 : List ZA) ox0 : Sim ZL (Z7y x0) (EE 83 [(ZP ox0 (x0.map ZG)), (.clo 58 [] [])] []) := by
 unfold Z7y
 refine zf (ZzV ..)<|ze<|ze<|zp (iv (x0.length : Int)) (et_ (Z32 (P := PP) (t := 22) (d := 43) (by kernel_rfl) ZG (shrO ox0) x0)) ?_
 exact zk (ZaC x0 (x0.length : Int) 0 ox0)
theorem Zi8 x0 {r} (h : Z7y x0 = some r) : Z7D x0 = some r :=
 Z1g (fun _ _ ha hb => ru_ Z2h (ha .ex) (hb .ex)) (fun ox0 => ZhF x0 ox0 r h)
def Z6s (x0 : List ZA) (x7 x8 : Int) : Option Int :=
 Z5b x0 x7 (IntKind.i64.wrap (x8 + 1))
theorem ZfD (x0 : List ZA) x7 x8 ox0 : Sim ZL (Z6s x0 x7 x8) (Zrc 0 (ZP ox0 (x0.map ZG)) (.clo 58 [] []) (iv x7) (iv x8) []) := by
 unfold Z6s
 refine zf (Zrd ..)<|ze<|zq ?_
 exact zk (ZaC x0 x7 (IntKind.i64.wrap (x8 + 1)) ox0)
def Z53 (x0 : List ZA) (x7 x8 : Int) : Option Int :=
 (lget x0 x8).bind fun a1 =>
 (Zas a1).bind fun r2 =>
 if r2 = true then
 (some x8)
 else
 (Z6s x0 x7 x8)
theorem ZfC (x0 : List ZA) x7 x8 ox0 : Sim ZL (Z53 x0 x7 x8) (Zra 0 (ZP ox0 (x0.map ZG)) (.clo 58 [] []) (iv x7) (iv x8) []) := by
 unfold Z53
 refine zf (Zrb ..)<|ze<|ze<|zi fun a1 ha1 => zp (.cptr (Z2m a1)) (et_ (Z45 (o := (shrO ox0)) (k := .i64) (n := 5) (e := ZG) (cs := Z5S) (fun _ => rfl) (fun _ => rfl) (by decide) ha1))<|zq<|zi fun r2 hr2 => ?_
 obtain ⟨_, er2, _, rfl⟩ := Zmk a1 r2 hr2
 refine zv [] (bv r2) [] er2 ?_
 refine za r2 ?_ ?_
 ·refine ze ?_
  exact zr ((iv x8), []) ⟨_, rfl⟩
 ·exact zk (ZfD x0 x7 x8 ox0)
def Z8J : Option Int :=
 some (-1)
theorem ZfE : Sim ZL Z8J (Zre 0 []) := by
 unfold Z8J
 refine zf (Zrf ..)<|ze ?_
 exact zr ((iv (-1)), []) ⟨_, rfl⟩
def Z4d (x0 : List ZA) (x7 x8 : Int) : Option Int :=
 if (decide (x8 < x7)) = true then
 (Z53 x0 x7 x8)
 else
 Z8J
theorem ZfB (x0 : List ZA) x7 x8 ox0 : Sim ZL (Z4d x0 x7 x8) (ZhR 0 (ZP ox0 (x0.map ZG)) (.clo 58 [] []) (iv x7) (iv x8) []) := by
 unfold Z4d
 refine zf (Zr9 ..)<|ze<|zq ?_
 refine za (decide (x8 < x7)) ?_ ?_
 ·exact zk (ZfC x0 x7 x8 ox0)
 ·exact zk ZfE
theorem Z7O x0 x7 x8 {r} (h : Z4d x0 x7 x8 = some r) : Z5b x0 x7 x8 = some r :=
 Z1g (fun _ _ ha hb => ru_ Z2h (ha .ex) (hb .ex)) (fun ox0 => ZfB x0 x7 x8 ox0 r h)
def Zan (x0 : ZA) : Option Bool :=
 (Z8X x0).bind fun r1 =>
 some (!r1)
theorem ZlI x0 : Sim Z12 (Zan x0) (EE 58 [(pA_ (Z2m x0))] []) := by
 unfold Zan
 refine zf (ZMp ..)<|ze<|zx (.ptr 0 0) [(Z1P x0)]<|ze<|zq<|zi fun r1 hr1 => ?_
 obtain ⟨_, er1, _, rfl⟩ := Zdl x0 r1 hr1
 refine zc [] (bv r1) [(Z1P x0)] er1<|zq ?_
 exact zr ((bv (!r1)), [(Z1P x0)]) ⟨_, rfl⟩
theorem Zmj x0 {r} (h : Zan x0 = some r) : Zas x0 = some r :=
 Z1g (fun _ _ ha hb => ru_ Z2o ha hb) (ZlI x0 r h)
def Zcm (x0 : ZA) : Option Bool :=
 if (decide (1 ≤ x0.ID)) = true then
 (if (decide (x0.ID ≤ 1099511627776)) = true then
 (if (decide (0 ≤ x0.Priority)) = true then
 (if (decide (x0.Priority ≤ 1000)) = true then
 (if (decide (0 ≤ x0.Action)) = true then
 (if (decide (x0.Action ≤ 255)) = true then
 (if (decide (1 ≤ x0.Scope)) = true then
 (if (decide (x0.Scope ≤ 65535)) = true then
 (some (decide ((x0.Pattern.size : Int) ≤ 256)))
 else
 (some false))
 else
 (some false))
 else
 (some false))
 else
 (some false))
 else
 (some false))
 else
 (some false))
 else
 (some false))
 else
 (some false)
theorem Zoi x0 : Sim Z12 (Zcm x0) (EE 27 [(pA_ (Z2m x0))] []) := by
 unfold Zcm
 refine zf (ZM1 ..)<|ze<|zx (.ptr 0 0) [(Z1P x0)]<|ze<|zq<|zq<|zq ?_
 refine za (decide (1 ≤ x0.ID)) ?_ ?_
 ·refine zq<|zq<|zq ?_
  refine za (decide (x0.ID ≤ 1099511627776)) ?_ ?_
  ·refine zq<|zq<|zq ?_
   refine za (decide (0 ≤ x0.Priority)) ?_ ?_
   ·refine zq<|zq<|zq ?_
    refine za (decide (x0.Priority ≤ 1000)) ?_ ?_
    ·refine zq<|zq<|zq ?_
     refine za (decide (0 ≤ x0.Action)) ?_ ?_
     ·refine zq<|zq<|zq ?_
      refine za (decide (x0.Action ≤ 255)) ?_ ?_
      ·refine zq<|zq<|zq ?_
       refine za (decide (1 ≤ x0.Scope)) ?_ ?_
       ·refine zq<|zq<|zq ?_
        refine za (decide (x0.Scope ≤ 65535)) ?_ ?_
        ·refine zq<|zq<|zq<|zq ?_
         exact zr ((bv (decide ((x0.Pattern.size : Int) ≤ 256))), [(Z1P x0)]) ⟨_, rfl⟩
        ·exact zr ((bv false), [(Z1P x0)]) ⟨_, rfl⟩
       ·exact zr ((bv false), [(Z1P x0)]) ⟨_, rfl⟩
      ·exact zr ((bv false), [(Z1P x0)]) ⟨_, rfl⟩
     ·exact zr ((bv false), [(Z1P x0)]) ⟨_, rfl⟩
    ·exact zr ((bv false), [(Z1P x0)]) ⟨_, rfl⟩
   ·exact zr ((bv false), [(Z1P x0)]) ⟨_, rfl⟩
  ·exact zr ((bv false), [(Z1P x0)]) ⟨_, rfl⟩
 ·exact zr ((bv false), [(Z1P x0)]) ⟨_, rfl⟩
theorem ZpH x0 {r} (h : Zcm x0 = some r) : Z8X x0 = some r :=
 Z1g (fun _ _ ha hb => ru_ Z2o ha hb) (Zoi x0 r h)
def Z6M (x0 : List Int) : Option Bool :=
 (Z7X x0).bind fun r1 =>
 some (decide (0 ≤ r1))
theorem Zgb (x0 : List Int) ox0 : Sim Z12 (Z6M x0) (EE 59 [(ZP ox0 (x0.map (eI .i64))), (.clo 60 [] [])] []) := by
 unfold Z6M
 refine zf (ZGy ..)<|ze<|ze<|zi fun r1 hr1 => ?_
 obtain ⟨_, er1, _, rfl⟩ := ZiE x0 .sh r1 hr1
 refine zc [] (iv r1) [] er1<|zq ?_
 exact zr ((bv (decide (0 ≤ r1))), []) ⟨_, rfl⟩
theorem ZgS x0 {r} (h : Z6M x0 = some r) : Z6V x0 = some r :=
 Z1g (fun _ _ ha hb => ru_ Z2o (ha .ex) (hb .ex)) (fun ox0 => Zgb x0 ox0 r h)
def Z7V (x0 : List Int) : Option Int :=
 Z5q x0 (x0.length : Int) 0
theorem Zif (x0 : List Int) ox0 : Sim ZL (Z7V x0) (EE 84 [(ZP ox0 (x0.map (eI .i64))), (.clo 60 [] [])] []) := by
 unfold Z7V
 refine zf (ZGQ ..)<|ze<|ze<|zp (iv (x0.length : Int)) (et_ (Z32 (P := PP) (t := 27) (d := 3) (by kernel_rfl) (eI .i64) (shrO ox0) x0)) ?_
 exact zk (Zb7 x0 (x0.length : Int) 0 ox0)
theorem ZiD x0 {r} (h : Z7V x0 = some r) : Z7X x0 = some r :=
 Z1g (fun _ _ ha hb => ru_ Z2h (ha .ex) (hb .ex)) (fun ox0 => Zif x0 ox0 r h)
def Z6O (x0 : List Int) (x7 x8 : Int) : Option Int :=
 Z5q x0 x7 (IntKind.i64.wrap (x8 + 1))
theorem Zgi (x0 : List Int) x7 x8 ox0 : Sim ZL (Z6O x0 x7 x8) (Zvi 0 (ZP ox0 (x0.map (eI .i64))) (.clo 60 [] []) (iv x7) (iv x8) []) := by
 unfold Z6O
 refine zf (Zyl ..)<|ze<|zq ?_
 exact zk (Zb7 x0 x7 (IntKind.i64.wrap (x8 + 1)) ox0)
def Z5o (x0 : List Int) (x7 x8 : Int) : Option Int :=
 (lget x0 x8).bind fun a1 =>
 (Zat a1).bind fun r2 =>
 if r2 = true then
 (some x8)
 else
 (Z6O x0 x7 x8)
theorem Zgh (x0 : List Int) x7 x8 ox0 : Sim ZL (Z5o x0 x7 x8) (Zvh 0 (ZP ox0 (x0.map (eI .i64))) (.clo 60 [] []) (iv x7) (iv x8) []) := by
 unfold Z5o
 refine zf (Zyk ..)<|ze<|ze<|zi fun a1 ha1 => zp (.cptr [(.v (.int .i64 a1))]) (et_ (Z45 (o := (shrO ox0)) (k := .i64) (n := 1) (e := (eI .i64)) (cs := (fun a => [(eI .i64) a])) (fun _ => rfl) (fun _ => rfl) (by decide) ha1))<|zq<|zi fun r2 hr2 => ?_
 obtain ⟨_, er2, _, rfl⟩ := Zmm a1 r2 hr2
 refine zv [] (bv r2) [] er2 ?_
 refine za r2 ?_ ?_
 ·refine ze ?_
  exact zr ((iv x8), []) ⟨_, rfl⟩
 ·exact zk (Zgi x0 x7 x8 ox0)
def Z91 : Option Int :=
 some (-1)
theorem Zgj : Sim ZL Z91 (Zvj 0 []) := by
 unfold Z91
 refine zf (Zym ..)<|ze ?_
 exact zr ((iv (-1)), []) ⟨_, rfl⟩
def Z4q (x0 : List Int) (x7 x8 : Int) : Option Int :=
 if (decide (x8 < x7)) = true then
 (Z5o x0 x7 x8)
 else
 Z91
theorem Zgg (x0 : List Int) x7 x8 ox0 : Sim ZL (Z4q x0 x7 x8) (ZlE 0 (ZP ox0 (x0.map (eI .i64))) (.clo 60 [] []) (iv x7) (iv x8) []) := by
 unfold Z4q
 refine zf (Zyj ..)<|ze<|zq ?_
 refine za (decide (x8 < x7)) ?_ ?_
 ·exact zk (Zgh x0 x7 x8 ox0)
 ·exact zk Zgj
theorem Z84 x0 x7 x8 {r} (h : Z4q x0 x7 x8 = some r) : Z5q x0 x7 x8 = some r :=
 Z1g (fun _ _ ha hb => ru_ Z2h (ha .ex) (hb .ex)) (fun ox0 => Zgg x0 x7 x8 ox0 r h)
def Zao (x0 : Int) : Option Bool :=
 (Z5V x0 1).bind fun r1 =>
 some (!r1)
theorem ZlJ x0 : Sim Z12 (Zao x0) (EE 60 [(iv x0)] []) := by
 unfold Zao
 refine zf (ZMq ..)<|ze<|ze<|zi fun r1 hr1 => ?_
 obtain ⟨_, er1, _, rfl⟩ := Z71 x0 1 r1 hr1
 refine zc [] (bv r1) [] er1<|zq ?_
 exact zr ((bv (!r1)), []) ⟨_, rfl⟩
theorem Zml x0 {r} (h : Zao x0 = some r) : Zat x0 = some r :=
 Z1g (fun _ _ ha hb => ru_ Z2o ha hb) (ZlJ x0 r h)
def Z60 (z14 : List ZE) (b4 : ZE) : Option (Z1c × (List ZE)) :=
 (lapp z14 ([b4] : List ZE)).bind fun a1 =>
 some ((Z1c.mk (IntKind.i64.wrap ((a1.length : Int) - 1)) (ZR.mk 0 0 0)), a1)
theorem ZeY (z14 : List ZE) z29 zY b2 b3 b4 z1O zoE zm1 z3Q (z3V : ZW z1O = true) : Sim (Z5u z29 zY) (Z60 z14 b4) (ZzG 2 (.ptr 0 0) (.ptr 3 0) (.ptr 4 0) [[(ZP z1O (z14.map ZU)), (.mp 1), (iv z29)], (rM_ ZK zY), (ZI b2 zoE zm1), (ZF b3), (ZC b4 z3Q)]) := by
 unfold Z60
 refine zf (ZGz ..)<|ze<|zq<|zq<|zw (ZP z1O (z14.map ZU)) [[(ZP (shrO z1O) (z14.map ZU)), (.mp 1), (iv z29)], (rM_ ZK zY), (ZI b2 zoE zm1), (ZF b3), (ZC b4 z3Q)]<|zq<|zq<|zi fun a1 ha1 => zp (ZP .un (a1.map ZU)) (Eq.trans (by kernel_rfl) <| Zhr (n := 5) (o := z1O) (o' := .ex) (e := ZU) (ys := ([b4] : List ZE)) (fun _ => rfl) (by decide) z3V ha1)<|zq<|zq<|zt [[(ZP .un (a1.map ZU)), (.mp 1), (iv z29)], (rM_ ZK zY), (ZI b2 zoE zm1), (ZF b3), (ZC b4 z3Q)]<|zg<|ze<|zq<|zq<|zq<|zp (iv (a1.length : Int)) (et_ (Z32 (P := PP) (t := 121) (d := 24) (by kernel_rfl) ZU .sh a1))<|zq<|zq<|zt [[(ZP .un (a1.map ZU)), (.mp 1), (iv z29)], (rM_ ZK zY), (ZI b2 zoE zm1), (ZF (Z1c.mk (IntKind.i64.wrap ((a1.length : Int) - 1)) Z7o)), (ZC b4 z3Q)] ?_
 exact zr ((pA_ (Z1q (Z1c.mk (IntKind.i64.wrap ((a1.length : Int) - 1)) Z7o))), [[(ZP .un (a1.map ZU)), (.mp 1), (iv z29)], (rM_ ZK zY), (ZI b2 zoE zm1), (ZF (Z1c.mk (IntKind.i64.wrap ((a1.length : Int) - 1)) Z7o)), (ZC b4 z3Q)]) ⟨.un, _, rfl, rfl⟩
def Z77 (x1 : Z1e) (z14 : List ZE) : Option (Z1c × (List ZE)) :=
 (lget z14 (IntKind.i64.wrap ((z14.length : Int) - 1))).bind fun a1 =>
 (Zdm a1 x1).bind fun r2 =>
 if (r2.2.Code != 0) = true then
 (some ((Z1c.mk 0 (ZR.mk r2.2.Code r2.2.Rule r2.2.At)), z14))
 else
 (Z60 z14 r2.1)
theorem ZgP x1 (z14 : List ZE) z29 zY z2E z2q z1O (z3V : ZW z1O = true) : Sim (Z5u z29 zY) (Z77 x1 z14) (EE 61 [(.ptr 0 0), (pA_ (Z4D x1 z2E z2q))] [[(ZP z1O (z14.map ZU)), (.mp 1), (iv z29)], (rM_ ZK zY)]) := by
 unfold Z77
 refine zf (ZMr ..)<|ze<|zx (.ptr 2 0) [[(ZP z1O (z14.map ZU)), (.mp 1), (iv z29)], (rM_ ZK zY), (ZI x1 z2E z2q)]<|zz (.ptr 3 0) [[(ZP z1O (z14.map ZU)), (.mp 1), (iv z29)], (rM_ ZK zY), (ZI x1 z2E z2q), (ZF Z3y)]<|ze<|zq<|zq<|zq<|zq<|zq<|zq<|zp (iv (z14.length : Int)) (et_ (Z32 (P := PP) (t := 121) (d := 24) (by kernel_rfl) ZU (shrO z1O) z14))<|zq<|zi fun a1 ha1 => zp (.cptr (Z1V a1 .sh)) (et_ (Z45 (o := (shrO z1O)) (k := .i64) (n := 5) (e := ZU) (cs := ZjD) (fun _ => rfl) (fun _ => rfl) (by decide) ha1))<|zq<|zq<|zi fun r2 hr2 => ?_
 obtain ⟨_, er2, _, rfl⟩ := ZqP a1 x1 .sh .sh .sh r2 hr2
 refine zc [] (.p (.tup [(.agg (Z1V r2.1 .sh)), (.agg (Z1U r2.2))])) [[(ZP z1O (z14.map ZU)), (.mp 1), (iv z29)], (rM_ ZK zY), (ZI x1 z2E z2q), (ZF Z3y)] er2<|zq<|zq<|zz (.ptr 4 0) [[(ZP z1O (z14.map ZU)), (.mp 1), (iv z29)], (rM_ ZK zY), (ZI x1 z2E z2q), (ZF Z3y), (ZC Z5i .nl)]<|zz (.ptr 5 0) [[(ZP z1O (z14.map ZU)), (.mp 1), (iv z29)], (rM_ ZK zY), (ZI x1 z2E z2q), (ZF Z3y), (ZC Z5i .nl), (Z1b Z7o)]<|zt [[(ZP z1O (z14.map ZU)), (.mp 1), (iv z29)], (rM_ ZK zY), (ZI x1 z2E z2q), (ZF Z3y), (ZC r2.1 .sh), (Z1b Z7o)]<|zt [[(ZP z1O (z14.map ZU)), (.mp 1), (iv z29)], (rM_ ZK zY), (ZI x1 z2E z2q), (ZF Z3y), (ZC r2.1 .sh), (Z1b r2.2)]<|zg<|zg<|zg<|zg<|zg<|zg<|zg<|zg<|zg<|zg<|ze<|zq<|zq<|zq ?_
 refine za (r2.2.Code != 0) ?_ ?_
 ·refine ze<|zq<|zq<|zt [[(ZP z1O (z14.map ZU)), (.mp 1), (iv z29)], (rM_ ZK zY), (ZI x1 z2E z2q), (Zy6 0 r2.2.Code r2.2.Rule r2.2.At), (ZC r2.1 .sh), (Z1b r2.2)] ?_
  exact zr ((pA_ (Z1q (Z1c.mk 0 (ZR.mk r2.2.Code r2.2.Rule r2.2.At)))), [[(ZP z1O (z14.map ZU)), (.mp 1), (iv z29)], (rM_ ZK zY), (ZI x1 z2E z2q), (Zy6 0 r2.2.Code r2.2.Rule r2.2.At), (ZC r2.1 .sh), (Z1b r2.2)]) ⟨z1O, _, z3V, rfl⟩
 ·exact zk (ZeY z14 z29 zY x1 Z3y r2.1 z1O z2E z2q .sh z3V)
theorem Zhy x1 z14 {r} (h : Z77 x1 z14 = some r) : Z7d x1 z14 = some r :=
 Z1g (fun _ _ ha hb => ru_ (ZhJ _ _) (ha default default .ex .ex .ex rfl) (hb default default .ex .ex .ex rfl)) (fun z29 zY z2E z2q z1O z3V => ZgP x1 z14 z29 zY z2E z2q z1O z3V r h)
def Zbr (b4 : ZE) : Option (ZE × ZR) :=
 some (b4, (ZR.mk 0 0 0))
theorem ZmE b0 b1 b2 b3 b4 zD z15 z11 zV z3Q (z1I : ZW zV = true) : Sim Z9j (Zbr b4) (Zzo 0 (.ptr 2 0) (.ptr 3 0) (.ptr 4 0) [(ZC b0 zD), (ZI b1 z15 z11), (ZC b2 zV), (Z1b b3), (ZC b4 z3Q)]) := by
 unfold Zbr
 refine zf (ZGe ..)<|ze<|zq<|zq<|zt [(ZC b0 zD), (ZI b1 z15 z11), (ZC b4 (shrO z3Q)), (Z1b b3), (ZC b4 z3Q)]<|zt [(ZC b0 zD), (ZI b1 z15 z11), (ZC b4 (shrO z3Q)), (Z1b Z7o), (ZC b4 z3Q)] ?_
 exact zr ((.p (.tup [(.agg (Z1V b4 .sh)), (.agg (Z1U Z7o))])), [(ZC b0 zD), (ZI b1 z15 z11), (ZC b4 (shrO z3Q)), (Z1b Z7o), (ZC b4 z3Q)]) ⟨_, rfl⟩
def Zbq (b4 : ZE) : Option (ZE × ZR) :=
 (Ze1 b4).bind fun r1 =>
 if (r1.Code != 0) = true then
 (some ((ZE.mk 0 0 0 0 ([] : List ZA)), r1))
 else
 (Zbr b4)
theorem ZmD b0 b1 b2 b3 b4 zD z15 z11 zV z3Q (z1I : ZW zV = true) : Sim Z9j (Zbq b4) (Zzn 0 (.ptr 2 0) (.ptr 3 0) (.ptr 4 0) [(ZC b0 zD), (ZI b1 z15 z11), (ZC b2 zV), (Z1b b3), (ZC b4 z3Q)]) := by
 unfold Zbq
 refine zf (ZGd ..)<|ze<|zq<|zi fun r1 hr1 => ?_
 obtain ⟨_, er1, _, rfl⟩ := ZrA b4 .sh r1 hr1
 refine zc [] (pA_ (Z1U r1)) [(ZC b0 zD), (ZI b1 z15 z11), (ZC b2 zV), (Z1b b3), (ZC b4 z3Q)] er1<|zz (.ptr 5 0) [(ZC b0 zD), (ZI b1 z15 z11), (ZC b2 zV), (Z1b b3), (ZC b4 z3Q), (Z1b Z7o)]<|zt [(ZC b0 zD), (ZI b1 z15 z11), (ZC b2 zV), (Z1b b3), (ZC b4 z3Q), (Z1b r1)]<|ze<|zq<|zq<|zq ?_
 refine za (r1.Code != 0) ?_ ?_
 ·refine ze<|zq<|zq<|zt [(ZC b0 zD), (ZI b1 z15 z11), (ZC Z5i .nl), (Z1b b3), (ZC b4 z3Q), (Z1b r1)]<|zt [(ZC b0 zD), (ZI b1 z15 z11), (ZC Z5i .nl), (Z1b r1), (ZC b4 z3Q), (Z1b r1)]<|zg ?_
  exact zr ((.p (.tup [(.agg (Z1V Z5i .sh)), (.agg (Z1U r1))])), [(ZC b0 zD), (ZI b1 z15 z11), (ZC Z5i .nl), (Z1b r1), (ZC b4 z3Q), (Z1b r1)]) ⟨_, rfl⟩
 ·exact zk (ZmE b0 b1 b2 b3 b4 zD z15 z11 zV z3Q z1I)
def Zdg (x0 : ZE) (x1 : Z1e) : Option (ZE × ZR) :=
 (Zek x0 x1).bind fun r1 =>
 if (r1.2 != 0) = true then
 (some ((ZE.mk 0 0 0 0 ([] : List ZA)), (ZR.mk r1.2 0 0)))
 else
 (Zbq r1.1)
theorem ZpW x0 x1 z1w z2E z2q : Sim Z9j (Zdg x0 x1) (EE 23 [(pA_ (Z1V x0 z1w)), (pA_ (Z4D x1 z2E z2q))] []) := by
 unfold Zdg
 refine zf (ZM0 ..)<|ze<|zx (.ptr 0 0) [(ZC x0 z1w)]<|zx (.ptr 1 0) [(ZC x0 z1w), (ZI x1 z2E z2q)]<|zz (.ptr 2 0) [(ZC x0 z1w), (ZI x1 z2E z2q), (ZC Z5i .nl)]<|zz (.ptr 3 0) [(ZC x0 z1w), (ZI x1 z2E z2q), (ZC Z5i .nl), (Z1b Z7o)]<|ze<|zq<|zq<|zi fun r1 hr1 => ?_
 obtain ⟨_, er1, _, rfl⟩ := Zvy x0 x1 .sh .sh .sh r1 hr1
 refine zc [] (.p (.tup [(.agg (Z1V r1.1 .sh)), (.v (.int .i64 r1.2))])) [(ZC x0 z1w), (ZI x1 z2E z2q), (ZC Z5i .nl), (Z1b Z7o)] er1<|zq<|zq<|zz (.ptr 4 0) [(ZC x0 z1w), (ZI x1 z2E z2q), (ZC Z5i .nl), (Z1b Z7o), (ZC Z5i .nl)]<|zt [(ZC x0 z1w), (ZI x1 z2E z2q), (ZC Z5i .nl), (Z1b Z7o), (ZC r1.1 .sh)]<|ze<|zq ?_
 refine za (r1.2 != 0) ?_ ?_
 ·refine ze<|zq<|zq<|zt [(ZC x0 z1w), (ZI x1 z2E z2q), (ZC Z5i .nl), (Z1b Z7o), (ZC r1.1 .sh)]<|zt [(ZC x0 z1w), (ZI x1 z2E z2q), (ZC Z5i .nl), (Zjm r1.2 0 0), (ZC r1.1 .sh)] ?_
  exact zr ((.p (.tup [(.agg (Z1V Z5i .sh)), (.agg (Z1U (ZR.mk r1.2 0 0)))])), [(ZC x0 z1w), (ZI x1 z2E z2q), (ZC Z5i .nl), (Zjm r1.2 0 0), (ZC r1.1 .sh)]) ⟨_, rfl⟩
 ·exact zk (ZmD x0 x1 Z5i Z7o r1.1 z1w z2E z2q .nl .sh rfl)
theorem ZqO x0 x1 {r} (h : Zdg x0 x1 = some r) : Zdm x0 x1 = some r :=
 Z1g (fun _ _ ha hb => ru_ ZqS (ha .ex .ex .ex) (hb .ex .ex .ex)) (fun z1w z2E z2q => ZpW x0 x1 z1w z2E z2q r h)
def ZbL : Option (ZE × Int) :=
 some ((ZE.mk 0 0 0 0 ([] : List ZA)), 30)
theorem ZiQ b0 b1 b2 zD z15 z11 zV (z1I : ZW zV = true) : Sim Z2O ZbL (ZuW 0 (.ptr 2 0) [(ZC b0 zD), (ZI b1 z15 z11), (ZC b2 zV)]) := by
 unfold ZbL
 refine zf (ZGb ..)<|ze<|zq<|zt [(ZC b0 zD), (ZI b1 z15 z11), (ZC Z5i .nl)] ?_
 exact zr ((.p (.tup [(.agg (Z1V Z5i .sh)), (.v (.int .i64 30))])), [(ZC b0 zD), (ZI b1 z15 z11), (ZC Z5i .nl)]) ⟨_, rfl⟩
def Zd1 (b0 : ZE) (b1 : Z1e) (zJ zO zZ zQ : Int) : Option (ZE × Int) :=
 Zb0 b0.Rules (b0.Rules.length : Int) 0 b1 zJ zO zZ zQ ([] : List (Int × ZA))
theorem Zpv b0 b1 b2 zJ zO zZ zQ z19 zD z15 z11 zV z17 (z1I : ZW zV = true) : Sim Z2O (Zd1 b0 b1 zJ zO zZ zQ) (ZxC 0 (.ptr 0 0) (.ptr 1 0) (.ptr 2 0) (.ptr 3 0) [(ZC b0 zD), (ZI b1 z15 z11), (ZC b2 zV), (Z2G zJ zO zZ zQ z19 z17)]) := by
 unfold Zd1
 refine zf (ZEl ..)<|ze<|zm (.mp 4) [(ZC b0 zD), (ZI b1 z15 z11), (ZC b2 zV), (Z2G zJ zO zZ zQ z19 z17), (rM_ ZG ([] : List (Int × ZA)))]<|ze<|zq<|zq<|zp (iv (b0.Rules.length : Int)) (et_ (Z32 (P := PP) (t := 22) (d := 43) (by kernel_rfl) ZG (shrO zD) b0.Rules)) ?_
 exact zk (ZiJ b0.Rules (b0.Rules.length : Int) 0 b0 b1 b2 zJ zO zZ zQ z19 ([] : List (Int × ZA)) (shrO zD) zD z15 z11 zV z17 z1I)
def Zd0 (b0 : ZE) (b1 : Z1e) (zJ zO zZ zQ : Int) : Option (ZE × Int) :=
 (ZbV b1).bind fun r1 =>
 if r1 = true then
 (some ((ZE.mk 0 0 0 0 ([] : List ZA)), 31))
 else
 (Zd1 b0 b1 zJ zO zZ zQ)
theorem Zpu b0 b1 b2 zJ zO zZ zQ z19 zD z15 z11 zV z17 (z1I : ZW zV = true) : Sim Z2O (Zd0 b0 b1 zJ zO zZ zQ) (ZxB 0 (.ptr 0 0) (.ptr 1 0) (.ptr 2 0) (.ptr 3 0) [(ZC b0 zD), (ZI b1 z15 z11), (ZC b2 zV), (Z2G zJ zO zZ zQ z19 z17)]) := by
 unfold Zd0
 refine zf (ZEk ..)<|ze<|zq<|zi fun r1 hr1 => ?_
 obtain ⟨_, er1, _, rfl⟩ := Zoh b1 .sh .sh r1 hr1
 refine zc [] (bv r1) [(ZC b0 zD), (ZI b1 z15 z11), (ZC b2 zV), (Z2G zJ zO zZ zQ z19 z17)] er1 ?_
 refine za r1 ?_ ?_
 ·refine ze<|zq<|zt [(ZC b0 zD), (ZI b1 z15 z11), (ZC Z5i .nl), (Z2G zJ zO zZ zQ z19 z17)] ?_
  exact zr ((.p (.tup [(.agg (Z1V Z5i .sh)), (.v (.int .i64 31))])), [(ZC b0 zD), (ZI b1 z15 z11), (ZC Z5i .nl), (Z2G zJ zO zZ zQ z19 z17)]) ⟨_, rfl⟩
 ·exact zk (Zpv b0 b1 b2 zJ zO zZ zQ z19 zD z15 z11 zV z17 z1I)
def ZdS (b0 : ZE) (b1 : Z1e) : Option (ZE × Int) :=
 (ZgC b1.Default b0.Default).bind fun r1 =>
 (Zcw b1.Closed b0.Closed).bind fun r2 =>
 (Zcv b1.Fuel b0.Fuel).bind fun r3 =>
 (Zcu b1.Stack b0.Stack).bind fun r4 =>
 (Z9g (ZE.mk r1 r2 r3 r4 b0.Rules)).bind fun r5 =>
 if (!r5) = true then
 ZbL
 else
 ((Zbw b1.Put).bind fun r6 =>
 if (!r6) = true then
 ZbL
 else
 (Zd0 b0 b1 r1 r2 r3 r4))
theorem ZqH b0 b1 b2 zD z15 z11 zV (z1I : ZW zV = true) : Sim Z2O (ZdS b0 b1) (Zzk 0 (.ptr 0 0) (.ptr 1 0) (.ptr 2 0) [(ZC b0 zD), (ZI b1 z15 z11), (ZC b2 zV)]) := by
 unfold ZdS
 refine zf (ZGa ..)<|ze<|zq<|zz (.ptr 3 0) [(ZC b0 zD), (ZI b1 z15 z11), (ZC b2 zV), (ZC Z5i .nl)]<|zt [(ZC b0 zD), (ZI b1 z15 z11), (ZC b2 zV), (ZC b0 (shrO zD))]<|ze<|zq<|zq<|zq<|zi fun r1 hr1 => ?_
 obtain ⟨_, er1, _, rfl⟩ := ZtW b1.Default b0.Default b0.Closed b0.Fuel b0.Stack b0.Rules (shrO zD) r1 hr1
 refine zc [3] (.p (.tup [])) [(ZC b0 zD), (ZI b1 z15 z11), (ZC b2 zV), (Z2G r1 b0.Closed b0.Fuel b0.Stack b0.Rules (shrO zD))] er1<|ze<|zq<|zq<|zq<|zi fun r2 hr2 => ?_
 obtain ⟨_, er2, _, rfl⟩ := ZpO b1.Closed r1 b0.Closed b0.Fuel b0.Stack b0.Rules (shrO zD) r2 hr2
 refine zc [3] (.p (.tup [])) [(ZC b0 zD), (ZI b1 z15 z11), (ZC b2 zV), (Z2G r1 r2 b0.Fuel b0.Stack b0.Rules (shrO zD))] er2<|ze<|zq<|zq<|zq<|zi fun r3 hr3 => ?_
 obtain ⟨_, er3, _, rfl⟩ := ZpM b1.Fuel r1 r2 b0.Fuel b0.Stack b0.Rules (shrO zD) r3 hr3
 refine zc [3] (.p (.tup [])) [(ZC b0 zD), (ZI b1 z15 z11), (ZC b2 zV), (Z2G r1 r2 r3 b0.Stack b0.Rules (shrO zD))] er3<|ze<|zq<|zq<|zq<|zi fun r4 hr4 => ?_
 obtain ⟨_, er4, _, rfl⟩ := ZpK b1.Stack r1 r2 r3 b0.Stack b0.Rules (shrO zD) r4 hr4
 refine zc [3] (.p (.tup [])) [(ZC b0 zD), (ZI b1 z15 z11), (ZC b2 zV), (Z2G r1 r2 r3 r4 b0.Rules (shrO zD))] er4<|ze<|zq<|zi fun r5 hr5 => ?_
 obtain ⟨_, er5, _, rfl⟩ := Zg0 (ZE.mk r1 r2 r3 r4 b0.Rules) .sh r5 hr5
 refine zc [] (bv r5) [(ZC b0 zD), (ZI b1 z15 z11), (ZC b2 zV), (Z2G r1 r2 r3 r4 b0.Rules (shrO zD))] er5<|zq ?_
 refine za (!r5) ?_ ?_
 ·exact zk (ZiQ b0 b1 b2 zD z15 z11 zV z1I)
 ·refine zq<|zq<|zi fun r6 hr6 => ?_
  obtain ⟨_, er6, _, rfl⟩ := Znl b1.Put .sh r6 hr6
  refine zc [] (bv r6) [(ZC b0 zD), (ZI b1 z15 z11), (ZC b2 zV), (Z2G r1 r2 r3 r4 b0.Rules (shrO zD))] er6<|zq ?_
  refine za (!r6) ?_ ?_
  ·exact zk (ZiQ b0 b1 b2 zD z15 z11 zV z1I)
  ·exact zk (Zpu b0 b1 b2 r1 r2 r3 r4 b0.Rules zD z15 z11 zV (shrO zD) z1I)
def ZhM (x0 : ZE) (x1 : Z1e) : Option (ZE × Int) :=
 (Zb4 x0).bind fun r1 =>
 if (!r1) = true then
 (some ((ZE.mk 0 0 0 0 ([] : List ZA)), 10))
 else
 (ZdS x0 x1)
theorem ZtT x0 x1 z1w z2E z2q : Sim Z2O (ZhM x0 x1) (EE 22 [(pA_ (Z1V x0 z1w)), (pA_ (Z4D x1 z2E z2q))] []) := by
 unfold ZhM
 refine zf (ZLT ..)<|ze<|zx (.ptr 0 0) [(ZC x0 z1w)]<|zx (.ptr 1 0) [(ZC x0 z1w), (ZI x1 z2E z2q)]<|zz (.ptr 2 0) [(ZC x0 z1w), (ZI x1 z2E z2q), (ZC Z5i .nl)]<|ze<|zq<|zi fun r1 hr1 => ?_
 obtain ⟨_, er1, _, rfl⟩ := ZiR x0 .sh r1 hr1
 refine zc [] (bv r1) [(ZC x0 z1w), (ZI x1 z2E z2q), (ZC Z5i .nl)] er1<|zq ?_
 refine za (!r1) ?_ ?_
 ·refine ze<|zq<|zt [(ZC x0 z1w), (ZI x1 z2E z2q), (ZC Z5i .nl)] ?_
  exact zr ((.p (.tup [(.agg (Z1V Z5i .sh)), (.v (.int .i64 10))])), [(ZC x0 z1w), (ZI x1 z2E z2q), (ZC Z5i .nl)]) ⟨_, rfl⟩
 ·exact zk (ZqH x0 x1 Z5i z1w z2E z2q .nl rfl)
theorem Zvx x0 x1 {r} (h : ZhM x0 x1 = some r) : Zek x0 x1 = some r :=
 Z1g (fun _ _ ha hb => ru_ Zcy (ha .ex .ex .ex) (hb .ex .ex .ex)) (fun z1w z2E z2q => ZtT x0 x1 z1w z2E z2q r h)
def Zd2 (x54 : List ZA) (x55 x56 : Int) (b1 : Z1e) (zJ zO zZ zQ : Int) (z1z : List (Int × ZA)) : Option (ZE × Int) :=
 (lget x54 x56).bind fun a1 =>
 Zb0 x54 x55 (IntKind.i64.wrap (x56 + 1)) b1 zJ zO zZ zQ (putM z1z a1.ID a1)
theorem Zpw (x54 : List ZA) x55 x56 b0 b1 b2 zJ zO zZ zQ z19 z1z ox54 zD z15 z11 zV z17 (z1I : ZW zV = true) : Sim Z2O (Zd2 x54 x55 x56 b1 zJ zO zZ zQ z1z) (ZxD 0 (.ptr 1 0) (.ptr 2 0) (.ptr 3 0) (.mp 4) (ZP ox54 (x54.map ZG)) (iv x55) (iv x56) [(ZC b0 zD), (ZI b1 z15 z11), (ZC b2 zV), (Z2G zJ zO zZ zQ z19 z17), (rM_ ZG z1z)]) := by
 unfold Zd2
 refine zf (ZEm ..)<|ze<|zi fun a1 ha1 => zp (.cptr (Z2m a1)) (et_ (Z45 (o := ox54) (k := .i64) (n := 5) (e := ZG) (cs := Z5S) (fun _ => rfl) (fun _ => rfl) (by decide) ha1))<|zq<|zz (.ptr 5 0) [(ZC b0 zD), (ZI b1 z15 z11), (ZC b2 zV), (Z2G zJ zO zZ zQ z19 z17), (rM_ ZG z1z), (Z1P (ZA.mk 0 0 0 0 (ByteArray.mk #[])))]<|zt [(ZC b0 zD), (ZI b1 z15 z11), (ZC b2 zV), (Z2G zJ zO zZ zQ z19 z17), (rM_ ZG z1z), (Z1P a1)]<|ze<|zq<|zq<|zq ?_
 refine Sim.xupd (B2 := [(ZC b0 zD), (ZI b1 z15 z11), (ZC b2 zV), (Z2G zJ zO zZ zQ z19 z17), (rM_ ZG (putM z1z a1.ID a1)), (Z1P a1)]) (fun K => Eq.trans (b := xupd PP 110 (.mp 4) (iv a1.ID) (pA_ (Z2m a1)) [(ZC b0 zD), (ZI b1 z15 z11), (ZC b2 zV), (Z2G zJ zO zZ zQ z19 z17), (rM_ ZG z1z), (Z1P a1)] K) (by kernel_rfl) <| ZsV (P := PP) (t := 110) (K := K) (B2 := [(ZC b0 zD), (ZI b1 z15 z11), (ZC b2 zV), (Z2G zJ zO zZ zQ z19 z17), (rM_ ZG (putM z1z a1.ID a1)), (Z1P a1)]) (e := ZG) (a := a1) (es := z1z) (te := 43) (by kernel_rfl) (by kernel_rfl) (by kernel_rfl) (by kernel_rfl) (by kernel_rfl)) ?_
 refine ze<|zq ?_
 exact zk (ZiJ x54 x55 (IntKind.i64.wrap (x56 + 1)) b0 b1 b2 zJ zO zZ zQ z19 (putM z1z a1.ID a1) ox54 zD z15 z11 zV z17 z1I)
def ZaS (b1 : Z1e) (zJ zO zZ zQ : Int) (z1z : List (Int × ZA)) : Option (ZE × Int) :=
 Zb1 b1.Drop (b1.Drop.length : Int) 0 b1 zJ zO zZ zQ z1z
theorem Zpx b0 b1 b2 zJ zO zZ zQ z19 z1z zD z15 z11 zV z17 (z1I : ZW zV = true) : Sim Z2O (ZaS b1 zJ zO zZ zQ z1z) (ZxE 0 (.ptr 1 0) (.ptr 2 0) (.ptr 3 0) (.mp 4) [(ZC b0 zD), (ZI b1 z15 z11), (ZC b2 zV), (Z2G zJ zO zZ zQ z19 z17), (rM_ ZG z1z)]) := by
 unfold ZaS
 refine zf (ZEn ..)<|ze<|zq<|zq<|zp (iv (b1.Drop.length : Int)) (et_ (Z32 (P := PP) (t := 27) (d := 3) (by kernel_rfl) (eI .i64) (shrO z11) b1.Drop)) ?_
 exact zk (ZiL b1.Drop (b1.Drop.length : Int) 0 b0 b1 b2 zJ zO zZ zQ z19 z1z (shrO z11) zD z15 z11 zV z17 z1I)
def ZaO (x54 : List ZA) (x55 x56 : Int) (b1 : Z1e) (zJ zO zZ zQ : Int) (z1z : List (Int × ZA)) : Option (ZE × Int) :=
 if (decide (x56 < x55)) = true then
 (Zd2 x54 x55 x56 b1 zJ zO zZ zQ z1z)
 else
 (ZaS b1 zJ zO zZ zQ z1z)
theorem Zpn (x54 : List ZA) x55 x56 b0 b1 b2 zJ zO zZ zQ z19 z1z ox54 zD z15 z11 zV z17 (z1I : ZW zV = true) : Sim Z2O (ZaO x54 x55 x56 b1 zJ zO zZ zQ z1z) (ZnW 0 (.ptr 1 0) (.ptr 2 0) (.ptr 3 0) (.mp 4) (ZP ox54 (x54.map ZG)) (iv x55) (iv x56) [(ZC b0 zD), (ZI b1 z15 z11), (ZC b2 zV), (Z2G zJ zO zZ zQ z19 z17), (rM_ ZG z1z)]) := by
 unfold ZaO
 refine zf (ZEg ..)<|ze<|zq ?_
 refine za (decide (x56 < x55)) ?_ ?_
 ·exact zk (Zpw x54 x55 x56 b0 b1 b2 zJ zO zZ zQ z19 z1z ox54 zD z15 z11 zV z17 z1I)
 ·exact zk (Zpx b0 b1 b2 zJ zO zZ zQ z19 z1z zD z15 z11 zV z17 z1I)
theorem ZiI x54 x55 x56 b1 zJ zO zZ zQ z1z {r} (h : ZaO x54 x55 x56 b1 zJ zO zZ zQ z1z = some r) : Zb0 x54 x55 x56 b1 zJ zO zZ zQ z1z = some r :=
 Z1g (fun _ _ ha hb => ru_ Zcy (ha default default default .ex .ex .ex .ex .ex .ex rfl) (hb default default default .ex .ex .ex .ex .ex .ex rfl)) (fun b0 b2 z19 ox54 zD z15 z11 zV z17 z1I => Zpn x54 x55 x56 b0 b1 b2 zJ zO zZ zQ z19 z1z ox54 zD z15 z11 zV z17 z1I r h)
def Zd5 (x66 : List Int) (x67 x68 : Int) (b1 : Z1e) (zJ zO zZ zQ : Int) (z1z : List (Int × ZA)) : Option (ZE × Int) :=
 Zb1 x66 x67 (IntKind.i64.wrap (x68 + 1)) b1 zJ zO zZ zQ z1z
theorem ZpA (x66 : List Int) x67 x68 b0 b1 b2 zJ zO zZ zQ z19 z1z ox66 zD z15 z11 zV z17 (z1I : ZW zV = true) : Sim Z2O (Zd5 x66 x67 x68 b1 zJ zO zZ zQ z1z) (ZxH 0 (.ptr 1 0) (.ptr 2 0) (.ptr 3 0) (.mp 4) (ZP ox66 (x66.map (eI .i64))) (iv x67) (iv x68) [(ZC b0 zD), (ZI b1 z15 z11), (ZC b2 zV), (Z2G zJ zO zZ zQ z19 z17), (rM_ ZG z1z)]) := by
 unfold Zd5
 refine zf (ZEq ..)<|ze<|zq ?_
 exact zk (ZiL x66 x67 (IntKind.i64.wrap (x68 + 1)) b0 b1 b2 zJ zO zZ zQ z19 z1z ox66 zD z15 z11 zV z17 z1I)
def Zd4 (x11 : Int) (x66 : List Int) (x67 x68 : Int) (b1 : Z1e) (zJ zO zZ zQ : Int) (z1z : List (Int × ZA)) : Option (ZE × Int) :=
 Zd5 x66 x67 x68 b1 zJ zO zZ zQ (delM z1z x11)
theorem Zpz x11 (x66 : List Int) x67 x68 b0 b1 b2 zJ zO zZ zQ z19 z1z ox66 zD z15 z11 zV z17 (z1I : ZW zV = true) : Sim Z2O (Zd4 x11 x66 x67 x68 b1 zJ zO zZ zQ z1z) (ZxG 0 (.ptr 1 0) (.ptr 2 0) (.ptr 3 0) (.mp 4) (iv x11) (ZP ox66 (x66.map (eI .i64))) (iv x67) (iv x68) [(ZC b0 zD), (ZI b1 z15 z11), (ZC b2 zV), (Z2G zJ zO zZ zQ z19 z17), (rM_ ZG z1z)]) := by
 unfold Zd4
 refine zf (ZEp ..)<|ze ?_
 refine Sim.xdel (B2 := [(ZC b0 zD), (ZI b1 z15 z11), (ZC b2 zV), (Z2G zJ zO zZ zQ z19 z17), (rM_ ZG (delM z1z x11))]) (fun K => Eq.trans (b := xdel PP 110 (.mp 4) (iv x11) [(ZC b0 zD), (ZI b1 z15 z11), (ZC b2 zV), (Z2G zJ zO zZ zQ z19 z17), (rM_ ZG z1z)] K) (by kernel_rfl) <| ZLr (P := PP) (t := 110) (K := K) (B2 := [(ZC b0 zD), (ZI b1 z15 z11), (ZC b2 zV), (Z2G zJ zO zZ zQ z19 z17), (rM_ ZG (delM z1z x11))]) (e := ZG) (es := z1z) (te := 43) (by kernel_rfl) (by kernel_rfl) (by kernel_rfl)) ?_
 exact zk (ZpA x66 x67 x68 b0 b1 b2 zJ zO zZ zQ z19 (delM z1z x11) ox66 zD z15 z11 zV z17 z1I)
def Zd3 (x66 : List Int) (x67 x68 : Int) (b1 : Z1e) (zJ zO zZ zQ : Int) (z1z : List (Int × ZA)) : Option (ZE × Int) :=
 (lget x66 x68).bind fun a1 =>
 if (!(getM z1z a1).isSome) = true then
 (some ((ZE.mk 0 0 0 0 ([] : List ZA)), 32))
 else
 (Zd4 a1 x66 x67 x68 b1 zJ zO zZ zQ z1z)
theorem Zpy (x66 : List Int) x67 x68 b0 b1 b2 zJ zO zZ zQ z19 z1z ox66 zD z15 z11 zV z17 (z1I : ZW zV = true) : Sim Z2O (Zd3 x66 x67 x68 b1 zJ zO zZ zQ z1z) (ZxF 0 (.ptr 1 0) (.ptr 2 0) (.ptr 3 0) (.mp 4) (ZP ox66 (x66.map (eI .i64))) (iv x67) (iv x68) [(ZC b0 zD), (ZI b1 z15 z11), (ZC b2 zV), (Z2G zJ zO zZ zQ z19 z17), (rM_ ZG z1z)]) := by
 unfold Zd3
 refine zf (ZEo ..)<|ze<|zi fun a1 ha1 => zp (.cptr [(.v (.int .i64 a1))]) (et_ (Z45 (o := ox66) (k := .i64) (n := 1) (e := (eI .i64)) (cs := (fun a => [(eI .i64) a])) (fun _ => rfl) (fun _ => rfl) (by decide) ha1))<|zq<|ze<|zp (.p (.tup [(.agg (Z2m ((getM z1z a1).getD (ZA.mk 0 0 0 0 (ByteArray.mk #[]))))), (.v (.bool (getM z1z a1).isSome))])) (Eq.trans (b := ZbZ PP 110 true (.mp 4) (iv a1) [(ZC b0 zD), (ZI b1 z15 z11), (ZC b2 zV), (Z2G zJ zO zZ zQ z19 z17), (rM_ ZG z1z)]) (by kernel_rfl) <| (Zma (e := ZG) (z := (ZA.mk 0 0 0 0 (ByteArray.mk #[]))) (es := z1z) (te := 43) (by kernel_rfl) (by kernel_rfl) (by kernel_rfl) true).trans (by kernel_rfl))<|zq<|zq<|zz (.ptr 5 0) [(ZC b0 zD), (ZI b1 z15 z11), (ZC b2 zV), (Z2G zJ zO zZ zQ z19 z17), (rM_ ZG z1z), (Z1P (ZA.mk 0 0 0 0 (ByteArray.mk #[])))]<|zt [(ZC b0 zD), (ZI b1 z15 z11), (ZC b2 zV), (Z2G zJ zO zZ zQ z19 z17), (rM_ ZG z1z), (Z1P ((getM z1z a1).getD (ZA.mk 0 0 0 0 (ByteArray.mk #[]))))]<|ze<|zq ?_
 refine za (!(getM z1z a1).isSome) ?_ ?_
 ·refine ze<|zq<|zt [(ZC b0 zD), (ZI b1 z15 z11), (ZC Z5i .nl), (Z2G zJ zO zZ zQ z19 z17), (rM_ ZG z1z), (Z1P ((getM z1z a1).getD (ZA.mk 0 0 0 0 (ByteArray.mk #[]))))] ?_
  exact zr ((.p (.tup [(.agg (Z1V Z5i .sh)), (.v (.int .i64 32))])), [(ZC b0 zD), (ZI b1 z15 z11), (ZC Z5i .nl), (Z2G zJ zO zZ zQ z19 z17), (rM_ ZG z1z), (Z1P ((getM z1z a1).getD (ZA.mk 0 0 0 0 (ByteArray.mk #[]))))]) ⟨_, rfl⟩
 ·exact zk (Zpz a1 x66 x67 x68 b0 b1 b2 zJ zO zZ zQ z19 z1z ox66 zD z15 z11 zV z17 z1I)
def ZaT (b1 : Z1e) (zJ zO zZ zQ : Int) (z1z : List (Int × ZA)) : Option (ZE × Int) :=
 Zb2 b1.Put (b1.Put.length : Int) 0 zJ zO zZ zQ z1z
theorem ZpB b0 b1 b2 zJ zO zZ zQ z19 z1z zD z15 z11 zV z17 (z1I : ZW zV = true) : Sim Z2O (ZaT b1 zJ zO zZ zQ z1z) (ZxI 0 (.ptr 1 0) (.ptr 2 0) (.ptr 3 0) (.mp 4) [(ZC b0 zD), (ZI b1 z15 z11), (ZC b2 zV), (Z2G zJ zO zZ zQ z19 z17), (rM_ ZG z1z)]) := by
 unfold ZaT
 refine zf (ZEr ..)<|ze<|zq<|zq<|zp (iv (b1.Put.length : Int)) (et_ (Z32 (P := PP) (t := 22) (d := 43) (by kernel_rfl) ZG (shrO z15) b1.Put)) ?_
 exact zk (ZiN b1.Put (b1.Put.length : Int) 0 b0 b1 b2 zJ zO zZ zQ z19 z1z (shrO z15) zD z15 z11 zV z17 z1I)
def ZaP (x66 : List Int) (x67 x68 : Int) (b1 : Z1e) (zJ zO zZ zQ : Int) (z1z : List (Int × ZA)) : Option (ZE × Int) :=
 if (decide (x68 < x67)) = true then
 (Zd3 x66 x67 x68 b1 zJ zO zZ zQ z1z)
 else
 (ZaT b1 zJ zO zZ zQ z1z)
theorem Zpp (x66 : List Int) x67 x68 b0 b1 b2 zJ zO zZ zQ z19 z1z ox66 zD z15 z11 zV z17 (z1I : ZW zV = true) : Sim Z2O (ZaP x66 x67 x68 b1 zJ zO zZ zQ z1z) (ZnX 0 (.ptr 1 0) (.ptr 2 0) (.ptr 3 0) (.mp 4) (ZP ox66 (x66.map (eI .i64))) (iv x67) (iv x68) [(ZC b0 zD), (ZI b1 z15 z11), (ZC b2 zV), (Z2G zJ zO zZ zQ z19 z17), (rM_ ZG z1z)]) := by
 unfold ZaP
 refine zf (ZEh ..)<|ze<|zq ?_
 refine za (decide (x68 < x67)) ?_ ?_
 ·exact zk (Zpy x66 x67 x68 b0 b1 b2 zJ zO zZ zQ z19 z1z ox66 zD z15 z11 zV z17 z1I)
 ·exact zk (ZpB b0 b1 b2 zJ zO zZ zQ z19 z1z zD z15 z11 zV z17 z1I)
theorem ZiK x66 x67 x68 b1 zJ zO zZ zQ z1z {r} (h : ZaP x66 x67 x68 b1 zJ zO zZ zQ z1z = some r) : Zb1 x66 x67 x68 b1 zJ zO zZ zQ z1z = some r :=
 Z1g (fun _ _ ha hb => ru_ Zcy (ha default default default .ex .ex .ex .ex .ex .ex rfl) (hb default default default .ex .ex .ex .ex .ex .ex rfl)) (fun b0 b2 z19 ox66 zD z15 z11 zV z17 z1I => Zpp x66 x67 x68 b0 b1 b2 zJ zO zZ zQ z19 z1z ox66 zD z15 z11 zV z17 z1I r h)
def Zd6 (x85 : List ZA) (x86 x87 zJ zO zZ zQ : Int) (z1z : List (Int × ZA)) : Option (ZE × Int) :=
 (lget x85 x87).bind fun a1 =>
 Zb2 x85 x86 (IntKind.i64.wrap (x87 + 1)) zJ zO zZ zQ (putM z1z a1.ID a1)
theorem ZpC (x85 : List ZA) x86 x87 b0 b1 b2 zJ zO zZ zQ z19 z1z ox85 zD z15 z11 zV z17 (z1I : ZW zV = true) : Sim Z2O (Zd6 x85 x86 x87 zJ zO zZ zQ z1z) (ZxJ 0 (.ptr 2 0) (.ptr 3 0) (.mp 4) (ZP ox85 (x85.map ZG)) (iv x86) (iv x87) [(ZC b0 zD), (ZI b1 z15 z11), (ZC b2 zV), (Z2G zJ zO zZ zQ z19 z17), (rM_ ZG z1z)]) := by
 unfold Zd6
 refine zf (ZEs ..)<|ze<|zi fun a1 ha1 => zp (.cptr (Z2m a1)) (et_ (Z45 (o := ox85) (k := .i64) (n := 5) (e := ZG) (cs := Z5S) (fun _ => rfl) (fun _ => rfl) (by decide) ha1))<|zq<|zz (.ptr 5 0) [(ZC b0 zD), (ZI b1 z15 z11), (ZC b2 zV), (Z2G zJ zO zZ zQ z19 z17), (rM_ ZG z1z), (Z1P (ZA.mk 0 0 0 0 (ByteArray.mk #[])))]<|zt [(ZC b0 zD), (ZI b1 z15 z11), (ZC b2 zV), (Z2G zJ zO zZ zQ z19 z17), (rM_ ZG z1z), (Z1P a1)]<|ze<|zq<|zq<|zq ?_
 refine Sim.xupd (B2 := [(ZC b0 zD), (ZI b1 z15 z11), (ZC b2 zV), (Z2G zJ zO zZ zQ z19 z17), (rM_ ZG (putM z1z a1.ID a1)), (Z1P a1)]) (fun K => Eq.trans (b := xupd PP 110 (.mp 4) (iv a1.ID) (pA_ (Z2m a1)) [(ZC b0 zD), (ZI b1 z15 z11), (ZC b2 zV), (Z2G zJ zO zZ zQ z19 z17), (rM_ ZG z1z), (Z1P a1)] K) (by kernel_rfl) <| ZsV (P := PP) (t := 110) (K := K) (B2 := [(ZC b0 zD), (ZI b1 z15 z11), (ZC b2 zV), (Z2G zJ zO zZ zQ z19 z17), (rM_ ZG (putM z1z a1.ID a1)), (Z1P a1)]) (e := ZG) (a := a1) (es := z1z) (te := 43) (by kernel_rfl) (by kernel_rfl) (by kernel_rfl) (by kernel_rfl) (by kernel_rfl)) ?_
 refine ze<|zq ?_
 exact zk (ZiN x85 x86 (IntKind.i64.wrap (x87 + 1)) b0 b1 b2 zJ zO zZ zQ z19 (putM z1z a1.ID a1) ox85 zD z15 z11 zV z17 z1I)
def Zd7 (zJ zO zZ zQ : Int) (z1z : List (Int × ZA)) : Option (ZE × Int) :=
 (Zar).bind fun r1 =>
 (Zbz z1z).bind fun r2 =>
 Zb3 r2 (r2.length : Int) 0 zJ zO zZ zQ ([] : List ZA) z1z
theorem ZpE b0 b1 b2 zJ zO zZ zQ z19 z1z zD z15 z11 zV z17 (z1I : ZW zV = true) : Sim Z2O (Zd7 zJ zO zZ zQ z1z) (ZxL 0 (.ptr 2 0) (.ptr 3 0) (.mp 4) [(ZC b0 zD), (ZI b1 z15 z11), (ZC b2 zV), (Z2G zJ zO zZ zQ z19 z17), (rM_ ZG z1z)]) := by
 unfold Zd7
 refine zf (ZEu ..)<|ze<|zq<|zt [(ZC b0 zD), (ZI b1 z15 z11), (ZC b2 zV), (Z2G zJ zO zZ zQ ([] : List ZA) .nl), (rM_ ZG z1z)]<|ze<|zi fun r1 hr1 => ?_
 obtain ⟨_, er1, _, rfl, _⟩ := Zmi z1z r1 hr1
 refine zc [4] (.clo 78 [] [(.ptr 5 0)]) [(ZC b0 zD), (ZI b1 z15 z11), (ZC b2 zV), (Z2G zJ zO zZ zQ ([] : List ZA) .nl), (rM_ ZG z1z), [(.mp 4)]] er1<|zi fun r2 hr2 => ?_
 obtain ⟨_, er2, _, rfl⟩ := Zky z1z r2 hr2
 refine zc [5, 4] (ZP .sh (r2.map (eI .i64))) [(ZC b0 zD), (ZI b1 z15 z11), (ZC b2 zV), (Z2G zJ zO zZ zQ ([] : List ZA) .nl), (rM_ ZG z1z), [(.mp 4)]] er2<|zp (iv (r2.length : Int)) (et_ (Z32 (P := PP) (t := 27) (d := 3) (by kernel_rfl) (eI .i64) .sh r2)) ?_
 exact zk (ZiP r2 (r2.length : Int) 0 b0 b1 b2 zJ zO zZ zQ ([] : List ZA) z1z .sh zD z15 z11 zV .nl z1I rfl)
def ZaU (zJ zO zZ zQ : Int) (z1z : List (Int × ZA)) : Option (ZE × Int) :=
 if (decide (16 < (z1z.length : Int))) = true then
 (some ((ZE.mk 0 0 0 0 ([] : List ZA)), 33))
 else
 (Zd7 zJ zO zZ zQ z1z)
theorem ZpD b0 b1 b2 zJ zO zZ zQ z19 z1z zD z15 z11 zV z17 (z1I : ZW zV = true) : Sim Z2O (ZaU zJ zO zZ zQ z1z) (ZxK 0 (.ptr 2 0) (.ptr 3 0) (.mp 4) [(ZC b0 zD), (ZI b1 z15 z11), (ZC b2 zV), (Z2G zJ zO zZ zQ z19 z17), (rM_ ZG z1z)]) := by
 unfold ZaU
 refine zf (ZEt ..)<|ze<|zp (iv (z1z.length : Int)) (Eq.trans (b := Zqs (.mp 4) [(ZC b0 zD), (ZI b1 z15 z11), (ZC b2 zV), (Z2G zJ zO zZ zQ z19 z17), (rM_ ZG z1z)]) (by kernel_rfl) (ZJ3 (e := ZG) (es := z1z) (by kernel_rfl)))<|zq ?_
 refine za (decide (16 < (z1z.length : Int))) ?_ ?_
 ·refine ze<|zq<|zt [(ZC b0 zD), (ZI b1 z15 z11), (ZC Z5i .nl), (Z2G zJ zO zZ zQ z19 z17), (rM_ ZG z1z)] ?_
  exact zr ((.p (.tup [(.agg (Z1V Z5i .sh)), (.v (.int .i64 33))])), [(ZC b0 zD), (ZI b1 z15 z11), (ZC Z5i .nl), (Z2G zJ zO zZ zQ z19 z17), (rM_ ZG z1z)]) ⟨_, rfl⟩
 ·exact zk (ZpE b0 b1 b2 zJ zO zZ zQ z19 z1z zD z15 z11 zV z17 z1I)
def ZaQ (x85 : List ZA) (x86 x87 zJ zO zZ zQ : Int) (z1z : List (Int × ZA)) : Option (ZE × Int) :=
 if (decide (x87 < x86)) = true then
 (Zd6 x85 x86 x87 zJ zO zZ zQ z1z)
 else
 (ZaU zJ zO zZ zQ z1z)
theorem Zpr (x85 : List ZA) x86 x87 b0 b1 b2 zJ zO zZ zQ z19 z1z ox85 zD z15 z11 zV z17 (z1I : ZW zV = true) : Sim Z2O (ZaQ x85 x86 x87 zJ zO zZ zQ z1z) (ZnY 0 (.ptr 2 0) (.ptr 3 0) (.mp 4) (ZP ox85 (x85.map ZG)) (iv x86) (iv x87) [(ZC b0 zD), (ZI b1 z15 z11), (ZC b2 zV), (Z2G zJ zO zZ zQ z19 z17), (rM_ ZG z1z)]) := by
 unfold ZaQ
 refine zf (ZEi ..)<|ze<|zq ?_
 refine za (decide (x87 < x86)) ?_ ?_
 ·exact zk (ZpC x85 x86 x87 b0 b1 b2 zJ zO zZ zQ z19 z1z ox85 zD z15 z11 zV z17 z1I)
 ·exact zk (ZpD b0 b1 b2 zJ zO zZ zQ z19 z1z zD z15 z11 zV z17 z1I)
theorem ZiM x85 x86 x87 zJ zO zZ zQ z1z {r} (h : ZaQ x85 x86 x87 zJ zO zZ zQ z1z = some r) : Zb2 x85 x86 x87 zJ zO zZ zQ z1z = some r :=
 Z1g (fun _ _ ha hb => ru_ Zcy (ha default default default default .ex .ex .ex .ex .ex .ex rfl) (hb default default default default .ex .ex .ex .ex .ex .ex rfl)) (fun b0 b1 b2 z19 ox85 zD z15 z11 zV z17 z1I => Zpr x85 x86 x87 b0 b1 b2 zJ zO zZ zQ z19 z1z ox85 zD z15 z11 zV z17 z1I r h)
def Zd8 (x103 : List Int) (x104 x105 zJ zO zZ zQ : Int) (z19 : List ZA) (z1z : List (Int × ZA)) : Option (ZE × Int) :=
 (lget x103 x105).bind fun a1 =>
 (lapp z19 ([((getM z1z a1).getD (ZA.mk 0 0 0 0 (ByteArray.mk #[])))] : List ZA)).bind fun a2 =>
 Zb3 x103 x104 (IntKind.i64.wrap (x105 + 1)) zJ zO zZ zQ a2 z1z
theorem ZpF (x103 : List Int) x104 x105 b0 b1 b2 zJ zO zZ zQ z19 z1z ox103 zD z15 z11 zV z17 (z1I : ZW zV = true) (z9D : ZW z17 = true) : Sim Z2O (Zd8 x103 x104 x105 zJ zO zZ zQ z19 z1z) (ZxM 0 (.ptr 2 0) (.ptr 3 0) (.mp 4) (ZP ox103 (x103.map (eI .i64))) (iv x104) (iv x105) [(ZC b0 zD), (ZI b1 z15 z11), (ZC b2 zV), (Z2G zJ zO zZ zQ z19 z17), (rM_ ZG z1z)]) := by
 unfold Zd8
 refine zf (ZEv ..)<|ze<|zi fun a1 ha1 => zp (.cptr [(.v (.int .i64 a1))]) (et_ (Z45 (o := ox103) (k := .i64) (n := 1) (e := (eI .i64)) (cs := (fun a => [(eI .i64) a])) (fun _ => rfl) (fun _ => rfl) (by decide) ha1))<|zq<|ze<|zq<|zw (ZP z17 (z19.map ZG)) [(ZC b0 zD), (ZI b1 z15 z11), (ZC b2 zV), (Z2G zJ zO zZ zQ z19 (shrO z17)), (rM_ ZG z1z)]<|zp (pA_ (Z2m ((getM z1z a1).getD (ZA.mk 0 0 0 0 (ByteArray.mk #[]))))) (Eq.trans (b := ZbZ PP 110 false (.mp 4) (iv a1) [(ZC b0 zD), (ZI b1 z15 z11), (ZC b2 zV), (Z2G zJ zO zZ zQ z19 (shrO z17)), (rM_ ZG z1z)]) (by kernel_rfl) <| (Zma (e := ZG) (z := (ZA.mk 0 0 0 0 (ByteArray.mk #[]))) (es := z1z) (te := 43) (by kernel_rfl) (by kernel_rfl) (by kernel_rfl) false).trans (by kernel_rfl))<|zq<|zi fun a2 ha2 => zp (ZP .un (a2.map ZG)) (Eq.trans (by kernel_rfl) <| Zhr (n := 5) (o := z17) (o' := .ex) (e := ZG) (ys := ([((getM z1z a1).getD (ZA.mk 0 0 0 0 (ByteArray.mk #[])))] : List ZA)) (fun _ => rfl) (by decide) z9D ha2)<|zq<|zt [(ZC b0 zD), (ZI b1 z15 z11), (ZC b2 zV), (Z2G zJ zO zZ zQ a2 .un), (rM_ ZG z1z)]<|ze<|zq ?_
 exact zk (ZiP x103 x104 (IntKind.i64.wrap (x105 + 1)) b0 b1 b2 zJ zO zZ zQ a2 z1z ox103 zD z15 z11 zV .un z1I rfl)
def Zd9 (zJ zO zZ zQ : Int) (z19 : List ZA) : Option (ZE × Int) :=
 some ((ZE.mk zJ zO zZ zQ z19), 0)
theorem ZpG b0 b1 b2 zJ zO zZ zQ z19 zD z15 z11 zV z17 (z1I : ZW zV = true) (z9D : ZW z17 = true) : Sim Z2O (Zd9 zJ zO zZ zQ z19) (ZxN 0 (.ptr 2 0) (.ptr 3 0) [(ZC b0 zD), (ZI b1 z15 z11), (ZC b2 zV), (Z2G zJ zO zZ zQ z19 z17)]) := by
 unfold Zd9
 refine zf (ZEw ..)<|ze<|zq<|zt [(ZC b0 zD), (ZI b1 z15 z11), (Z2G zJ zO zZ zQ z19 (shrO z17)), (Z2G zJ zO zZ zQ z19 z17)] ?_
 exact zr ((.p (.tup [(.agg (Z1V (ZE.mk zJ zO zZ zQ z19) .sh)), (.v (.int .i64 0))])), [(ZC b0 zD), (ZI b1 z15 z11), (Z2G zJ zO zZ zQ z19 (shrO z17)), (Z2G zJ zO zZ zQ z19 z17)]) ⟨_, rfl⟩
def ZaR (x103 : List Int) (x104 x105 zJ zO zZ zQ : Int) (z19 : List ZA) (z1z : List (Int × ZA)) : Option (ZE × Int) :=
 if (decide (x105 < x104)) = true then
 (Zd8 x103 x104 x105 zJ zO zZ zQ z19 z1z)
 else
 (Zd9 zJ zO zZ zQ z19)
theorem Zpt (x103 : List Int) x104 x105 b0 b1 b2 zJ zO zZ zQ z19 z1z ox103 zD z15 z11 zV z17 (z1I : ZW zV = true) (z9D : ZW z17 = true) : Sim Z2O (ZaR x103 x104 x105 zJ zO zZ zQ z19 z1z) (ZnZ 0 (.ptr 2 0) (.ptr 3 0) (.mp 4) (ZP ox103 (x103.map (eI .i64))) (iv x104) (iv x105) [(ZC b0 zD), (ZI b1 z15 z11), (ZC b2 zV), (Z2G zJ zO zZ zQ z19 z17), (rM_ ZG z1z)]) := by
 unfold ZaR
 refine zf (ZEj ..)<|ze<|zq ?_
 refine za (decide (x105 < x104)) ?_ ?_
 ·exact zk (ZpF x103 x104 x105 b0 b1 b2 zJ zO zZ zQ z19 z1z ox103 zD z15 z11 zV z17 z1I z9D)
 ·exact zk (ZpG b0 b1 b2 zJ zO zZ zQ z19 zD z15 z11 zV z17 z1I z9D)
theorem ZiO x103 x104 x105 zJ zO zZ zQ z19 z1z {r} (h : ZaR x103 x104 x105 zJ zO zZ zQ z19 z1z = some r) : Zb3 x103 x104 x105 zJ zO zZ zQ z19 z1z = some r :=
 Z1g (fun _ _ ha hb => ru_ Zcy (ha default default default .ex .ex .ex .ex .ex .ex rfl rfl) (hb default default default .ex .ex .ex .ex .ex .ex rfl rfl)) (fun b0 b1 b2 ox103 zD z15 z11 zV z17 z1I z9D => Zpt x103 x104 x105 b0 b1 b2 zJ zO zZ zQ z19 z1z ox103 zD z15 z11 zV z17 z1I z9D r h)
def Z9b : Option Bool :=
 some false
theorem Zfk : Sim Z12 Z9b (ZuS 0 []) := by
 unfold Z9b
 refine zf (ZG4 ..)<|ze ?_
 exact zr ((bv false), []) ⟨_, rfl⟩
def Zbl (b0 : ZE) : Option Bool :=
 Z9f 0 b0.Rules (b0.Rules.length : Int) 0
theorem Zmx b0 zD : Sim Z12 (Zbl b0) (Zzc 0 (.ptr 0 0) [(ZC b0 zD)]) := by
 unfold Zbl
 refine zf (ZG5 ..)<|ze<|ze<|zq<|zq<|zp (iv (b0.Rules.length : Int)) (et_ (Z32 (P := PP) (t := 22) (d := 43) (by kernel_rfl) ZG (shrO zD) b0.Rules)) ?_
 exact zk (ZfZ 0 b0.Rules (b0.Rules.length : Int) 0 (shrO zD))
def Zda (x0 : ZE) : Option Bool :=
 (Z9g x0).bind fun r1 =>
 if (!r1) = true then
 Z9b
 else
 (if (decide (16 < (x0.Rules.length : Int))) = true then
 Z9b
 else
 (Zbl x0))
theorem ZpI x0 z1w : Sim Z12 (Zda x0) (EE 20 [(pA_ (Z1V x0 z1w))] []) := by
 unfold Zda
 refine zf (ZLM ..)<|ze<|zx (.ptr 0 0) [(ZC x0 z1w)]<|ze<|zq<|zi fun r1 hr1 => ?_
 obtain ⟨_, er1, _, rfl⟩ := Zg0 x0 .sh r1 hr1
 refine zc [] (bv r1) [(ZC x0 z1w)] er1<|zq ?_
 refine za (!r1) ?_ ?_
 ·exact zk Zfk
 ·refine zq<|zq<|zp (iv (x0.Rules.length : Int)) (et_ (Z32 (P := PP) (t := 22) (d := 43) (by kernel_rfl) ZG (shrO z1w) x0.Rules))<|zq ?_
  refine za (decide (16 < (x0.Rules.length : Int))) ?_ ?_
  ·exact zk Zfk
  ·exact zk (Zmx x0 z1w)
theorem ZqI x0 {r} (h : Zda x0 = some r) : Zb4 x0 = some r :=
 Z1g (fun _ _ ha hb => ru_ Z2o (ha .ex) (hb .ex)) (fun z1w => ZpI x0 z1w r h)
def Z9c : Option Bool :=
 some false
theorem Zfl : Sim Z12 Z9c (ZuT 0 []) := by
 unfold Z9c
 refine zf (ZG7 ..)<|ze ?_
 exact zr ((bv false), []) ⟨_, rfl⟩
def Zaq (x3 : Int) (x16 : List ZA) (x17 x18 : Int) : Option Bool :=
 Z9f x3 x16 x17 (IntKind.i64.wrap (x18 + 1))
theorem ZlS x3 (x16 : List ZA) x17 x18 ox16 : Sim Z12 (Zaq x3 x16 x17 x18) (Zxx 0 (iv x3) (ZP ox16 (x16.map ZG)) (iv x17) (iv x18) []) := by
 unfold Zaq
 refine zf (ZEe ..)<|ze<|zq ?_
 exact zk (ZfZ x3 x16 x17 (IntKind.i64.wrap (x18 + 1)) ox16)
def Zbn (x16 : List ZA) (x17 x18 : Int) (b0 : ZA) : Option Bool :=
 Zaq b0.ID x16 x17 x18
theorem Zmz (x16 : List ZA) x17 x18 b0 ox16 : Sim Z12 (Zbn x16 x17 x18 b0) (Zze 0 (.ptr 0 0) (ZP ox16 (x16.map ZG)) (iv x17) (iv x18) [(Z1P b0)]) := by
 unfold Zbn
 refine zf (ZG8 ..)<|ze<|zq<|zq ?_
 exact zk (ZlS b0.ID x16 x17 x18 ox16)
def Zbm (x3 : Int) (x16 : List ZA) (x17 x18 : Int) : Option Bool :=
 (lget x16 x18).bind fun a1 =>
 (Z8X a1).bind fun r2 =>
 if (!r2) = true then
 Z9c
 else
 (if (decide (a1.ID ≤ x3)) = true then
 Z9c
 else
 (Zbn x16 x17 x18 a1))
theorem Zmy x3 (x16 : List ZA) x17 x18 ox16 : Sim Z12 (Zbm x3 x16 x17 x18) (Zzd 0 (iv x3) (ZP ox16 (x16.map ZG)) (iv x17) (iv x18) []) := by
 unfold Zbm
 refine zf (ZG6 ..)<|ze<|zi fun a1 ha1 => zp (.cptr (Z2m a1)) (et_ (Z45 (o := ox16) (k := .i64) (n := 5) (e := ZG) (cs := Z5S) (fun _ => rfl) (fun _ => rfl) (by decide) ha1))<|zq<|zz (.ptr 0 0) [(Z1P (ZA.mk 0 0 0 0 (ByteArray.mk #[])))]<|zt [(Z1P a1)]<|ze<|zq<|zi fun r2 hr2 => ?_
 obtain ⟨_, er2, _, rfl⟩ := Zdl a1 r2 hr2
 refine zc [] (bv r2) [(Z1P a1)] er2<|zq ?_
 refine za (!r2) ?_ ?_
 ·exact zk Zfl
 ·refine zq<|zq<|zq ?_
  refine za (decide (a1.ID ≤ x3)) ?_ ?_
  ·exact zk Zfl
  ·exact zk (Zmz x16 x17 x18 a1 ox16)
def Zdb : Option Bool :=
 some true
theorem ZlT : Sim Z12 Zdb (Zxy 0 []) := by
 unfold Zdb
 refine zf (ZEf ..)<|ze ?_
 exact zr ((bv true), []) ⟨_, rfl⟩
def Z9a (x3 : Int) (x16 : List ZA) (x17 x18 : Int) : Option Bool :=
 if (decide (x18 < x17)) = true then
 (Zbm x3 x16 x17 x18)
 else
 Zdb
theorem Zmw x3 (x16 : List ZA) x17 x18 ox16 : Sim Z12 (Z9a x3 x16 x17 x18) (ZqZ 0 (iv x3) (ZP ox16 (x16.map ZG)) (iv x17) (iv x18) []) := by
 unfold Z9a
 refine zf (ZG3 ..)<|ze<|zq ?_
 refine za (decide (x18 < x17)) ?_ ?_
 ·exact zk (Zmy x3 x16 x17 x18 ox16)
 ·exact zk ZlT
theorem ZfY x3 x16 x17 x18 {r} (h : Z9a x3 x16 x17 x18 = some r) : Z9f x3 x16 x17 x18 = some r :=
 Z1g (fun _ _ ha hb => ru_ Z2o (ha .ex) (hb .ex)) (fun ox16 => Zmw x3 x16 x17 x18 ox16 r h)
def Zbo (x0 : ZE) : Option Bool :=
 if (decide (0 ≤ x0.Default)) = true then
 (if (decide (x0.Default ≤ 255)) = true then
 (if (decide (0 ≤ x0.Closed)) = true then
 (if (decide (x0.Closed ≤ 255)) = true then
 (if (decide (1 ≤ x0.Fuel)) = true then
 (if (decide (x0.Fuel ≤ 1048576)) = true then
 (if (decide (0 ≤ x0.Stack)) = true then
 (some (decide (x0.Stack ≤ 4096)))
 else
 (some false))
 else
 (some false))
 else
 (some false))
 else
 (some false))
 else
 (some false))
 else
 (some false))
 else
 (some false)
theorem ZmA x0 z1w : Sim Z12 (Zbo x0) (EE 46 [(pA_ (Z1V x0 z1w))] []) := by
 unfold Zbo
 refine zf (ZMe ..)<|ze<|zx (.ptr 0 0) [(ZC x0 z1w)]<|ze<|zq<|zq<|zq ?_
 refine za (decide (0 ≤ x0.Default)) ?_ ?_
 ·refine zq<|zq<|zq ?_
  refine za (decide (x0.Default ≤ 255)) ?_ ?_
  ·refine zq<|zq<|zq ?_
   refine za (decide (0 ≤ x0.Closed)) ?_ ?_
   ·refine zq<|zq<|zq ?_
    refine za (decide (x0.Closed ≤ 255)) ?_ ?_
    ·refine zq<|zq<|zq ?_
     refine za (decide (1 ≤ x0.Fuel)) ?_ ?_
     ·refine zq<|zq<|zq ?_
      refine za (decide (x0.Fuel ≤ 1048576)) ?_ ?_
      ·refine zq<|zq<|zq ?_
       refine za (decide (0 ≤ x0.Stack)) ?_ ?_
       ·refine zq<|zq<|zq ?_
        exact zr ((bv (decide (x0.Stack ≤ 4096))), [(ZC x0 z1w)]) ⟨_, rfl⟩
       ·exact zr ((bv false), [(ZC x0 z1w)]) ⟨_, rfl⟩
      ·exact zr ((bv false), [(ZC x0 z1w)]) ⟨_, rfl⟩
     ·exact zr ((bv false), [(ZC x0 z1w)]) ⟨_, rfl⟩
    ·exact zr ((bv false), [(ZC x0 z1w)]) ⟨_, rfl⟩
   ·exact zr ((bv false), [(ZC x0 z1w)]) ⟨_, rfl⟩
  ·exact zr ((bv false), [(ZC x0 z1w)]) ⟨_, rfl⟩
 ·exact zr ((bv false), [(ZC x0 z1w)]) ⟨_, rfl⟩
theorem Znj x0 {r} (h : Zbo x0 = some r) : Z9g x0 = some r :=
 Z1g (fun _ _ ha hb => ru_ Z2o (ha .ex) (hb .ex)) (fun z1w => ZmA x0 z1w r h)
def Zgw (x1 z1G : Int) : Option Int :=
 if (x1 != (-1)) = true then
 (some x1)
 else
 (some z1G)
theorem Zt7 x1 z1G z1N z2f z1T z1Q zD : Sim (Zgr z1N z2f z1T z1Q zD) (Zgw x1 z1G) (EE 49 [(.ptr 0 0), (iv x1)] [(Z2G z1G z1N z2f z1T z1Q zD)]) := by
 unfold Zgw
 refine zf (Zva ..)<|ze<|zq ?_
 refine za (x1 != (-1)) ?_ ?_
 ·refine ze<|zq<|zt [(Z2G x1 z1N z2f z1T z1Q zD)] ?_
  exact zr ((.p (.tup [])), [(Z2G x1 z1N z2f z1T z1Q zD)]) ⟨_, rfl⟩
 ·exact zr ((.p (.tup [])), [(Z2G z1G z1N z2f z1T z1Q zD)]) ⟨_, rfl⟩
theorem ZtV x1 z1G {r} (h : Zgw x1 z1G = some r) : ZgC x1 z1G = some r :=
 Z1g (fun _ _ ha hb => ru_ (ZuE _ _ _ _ _) (ha default default default default .ex) (hb default default default default .ex)) (fun z1N z2f z1T z1Q zD => Zt7 x1 z1G z1N z2f z1T z1Q zD r h)
def Zcp (x1 z1N : Int) : Option Int :=
 if (x1 != (-1)) = true then
 (some x1)
 else
 (some z1N)
theorem Zoo x1 z1G z1N z2f z1T z1Q zD : Sim (Zci z1G z2f z1T z1Q zD) (Zcp x1 z1N) (EE 49 [(.ptr 0 1), (iv x1)] [(Z2G z1G z1N z2f z1T z1Q zD)]) := by
 unfold Zcp
 refine zf (Zva ..)<|ze<|zq ?_
 refine za (x1 != (-1)) ?_ ?_
 ·refine ze<|zq<|zt [(Z2G z1G x1 z2f z1T z1Q zD)] ?_
  exact zr ((.p (.tup [])), [(Z2G z1G x1 z2f z1T z1Q zD)]) ⟨_, rfl⟩
 ·exact zr ((.p (.tup [])), [(Z2G z1G z1N z2f z1T z1Q zD)]) ⟨_, rfl⟩
theorem ZpN x1 z1N {r} (h : Zcp x1 z1N = some r) : Zcw x1 z1N = some r :=
 Z1g (fun _ _ ha hb => ru_ (ZqB _ _ _ _ _) (ha default default default default .ex) (hb default default default default .ex)) (fun z1G z2f z1T z1Q zD => Zoo x1 z1G z1N z2f z1T z1Q zD r h)
def Zco (x1 z2f : Int) : Option Int :=
 if (x1 != (-1)) = true then
 (some x1)
 else
 (some z2f)
theorem Zom x1 z1G z1N z2f z1T z1Q zD : Sim (Zch z1G z1N z1T z1Q zD) (Zco x1 z2f) (EE 49 [(.ptr 0 2), (iv x1)] [(Z2G z1G z1N z2f z1T z1Q zD)]) := by
 unfold Zco
 refine zf (Zva ..)<|ze<|zq ?_
 refine za (x1 != (-1)) ?_ ?_
 ·refine ze<|zq<|zt [(Z2G z1G z1N x1 z1T z1Q zD)] ?_
  exact zr ((.p (.tup [])), [(Z2G z1G z1N x1 z1T z1Q zD)]) ⟨_, rfl⟩
 ·exact zr ((.p (.tup [])), [(Z2G z1G z1N z2f z1T z1Q zD)]) ⟨_, rfl⟩
theorem ZpL x1 z2f {r} (h : Zco x1 z2f = some r) : Zcv x1 z2f = some r :=
 Z1g (fun _ _ ha hb => ru_ (ZqA _ _ _ _ _) (ha default default default default .ex) (hb default default default default .ex)) (fun z1G z1N z1T z1Q zD => Zom x1 z1G z1N z2f z1T z1Q zD r h)
def Zcn (x1 z1T : Int) : Option Int :=
 if (x1 != (-1)) = true then
 (some x1)
 else
 (some z1T)
theorem Zok x1 z1G z1N z2f z1T z1Q zD : Sim (Zcg z1G z1N z2f z1Q zD) (Zcn x1 z1T) (EE 49 [(.ptr 0 3), (iv x1)] [(Z2G z1G z1N z2f z1T z1Q zD)]) := by
 unfold Zcn
 refine zf (Zva ..)<|ze<|zq ?_
 refine za (x1 != (-1)) ?_ ?_
 ·refine ze<|zq<|zt [(Z2G z1G z1N z2f x1 z1Q zD)] ?_
  exact zr ((.p (.tup [])), [(Z2G z1G z1N z2f x1 z1Q zD)]) ⟨_, rfl⟩
 ·exact zr ((.p (.tup [])), [(Z2G z1G z1N z2f z1T z1Q zD)]) ⟨_, rfl⟩
theorem ZpJ x1 z1T {r} (h : Zcn x1 z1T = some r) : Zcu x1 z1T = some r :=
 Z1g (fun _ _ ha hb => ru_ (Zqz _ _ _ _ _) (ha default default default default .ex) (hb default default default default .ex)) (fun z1G z1N z2f z1Q zD => Zok x1 z1G z1N z2f z1T z1Q zD r h)
def Zbp (x0 : List ZA) : Option Bool :=
 (Z6x x0).bind fun r1 =>
 some (!r1)
theorem ZmB (x0 : List ZA) ox0 : Sim Z12 (Zbp x0) (EE 50 [(ZP ox0 (x0.map ZG)), (.clo 27 [] [])] []) := by
 unfold Zbp
 refine zf (ZMk ..)<|ze<|zx (.ptr 0 0) [[(.clo 27 [] [])]]<|ze<|zi fun r1 hr1 => ?_
 obtain ⟨_, er1, _, rfl⟩ := Zg7 x0 .sh r1 hr1
 refine zc [0] (bv r1) [[(.clo 27 [] [])]] er1<|zq ?_
 exact zr ((bv (!r1)), [[(.clo 27 [] [])]]) ⟨_, rfl⟩
theorem Znk x0 {r} (h : Zbp x0 = some r) : Zbw x0 = some r :=
 Z1g (fun _ _ ha hb => ru_ Z2o (ha .ex) (hb .ex)) (fun ox0 => ZmB x0 ox0 r h)
def Z6p (x0 : List ZA) : Option Bool :=
 (Z7E x0).bind fun r1 =>
 some (decide (0 ≤ r1))
theorem Zfv (x0 : List ZA) ox0 : Sim Z6A (Z6p x0) (EE 57 [(ZP ox0 (x0.map ZG)), (.clo 73 [] [(.ptr 0 0)])] [[(.clo 27 [] [])]]) := by
 unfold Z6p
 refine zf (ZzF ..)<|ze<|ze<|zi fun r1 hr1 => ?_
 obtain ⟨_, er1, _, rfl⟩ := Zib x0 .sh r1 hr1
 refine zc [0] (iv r1) [[(.clo 27 [] [])]] er1<|zq ?_
 exact zr ((bv (decide (0 ≤ r1))), [[(.clo 27 [] [])]]) ⟨_, rfl⟩
theorem Zg6 x0 {r} (h : Z6p x0 = some r) : Z6x x0 = some r :=
 Z1g (fun _ _ ha hb => ru_ Zfh (ha .ex) (hb .ex)) (fun ox0 => Zfv x0 ox0 r h)
def Z7z (x0 : List ZA) : Option Int :=
 Z5c x0 (x0.length : Int) 0
theorem ZhG (x0 : List ZA) ox0 : Sim Z3k (Z7z x0) (EE 83 [(ZP ox0 (x0.map ZG)), (.clo 73 [] [(.ptr 0 0)])] [[(.clo 27 [] [])]]) := by
 unfold Z7z
 refine zf (ZzV ..)<|ze<|ze<|zp (iv (x0.length : Int)) (et_ (Z32 (P := PP) (t := 22) (d := 43) (by kernel_rfl) ZG (shrO ox0) x0)) ?_
 exact zk (ZaD x0 (x0.length : Int) 0 ox0)
theorem Zia x0 {r} (h : Z7z x0 = some r) : Z7E x0 = some r :=
 Z1g (fun _ _ ha hb => ru_ Zc8 (ha .ex) (hb .ex)) (fun ox0 => ZhG x0 ox0 r h)
def Z6t (x0 : List ZA) (x7 x8 : Int) : Option Int :=
 Z5c x0 x7 (IntKind.i64.wrap (x8 + 1))
theorem ZfH (x0 : List ZA) x7 x8 ox0 : Sim Z3k (Z6t x0 x7 x8) (Zrc 1 (ZP ox0 (x0.map ZG)) (.clo 73 [] [(.ptr 0 0)]) (iv x7) (iv x8) [[(.clo 27 [] [])]]) := by
 unfold Z6t
 refine zf (Zrd ..)<|ze<|zq ?_
 exact zk (ZaD x0 x7 (IntKind.i64.wrap (x8 + 1)) ox0)
def Z54 (x0 : List ZA) (x7 x8 : Int) : Option Int :=
 (lget x0 x8).bind fun a1 =>
 (Z8o a1).bind fun r2 =>
 if r2 = true then
 (some x8)
 else
 (Z6t x0 x7 x8)
theorem ZfG (x0 : List ZA) x7 x8 ox0 : Sim Z3k (Z54 x0 x7 x8) (Zra 1 (ZP ox0 (x0.map ZG)) (.clo 73 [] [(.ptr 0 0)]) (iv x7) (iv x8) [[(.clo 27 [] [])]]) := by
 unfold Z54
 refine zf (Zrb ..)<|ze<|ze<|zi fun a1 ha1 => zp (.cptr (Z2m a1)) (et_ (Z45 (o := (shrO ox0)) (k := .i64) (n := 5) (e := ZG) (cs := Z5S) (fun _ => rfl) (fun _ => rfl) (by decide) ha1))<|zq<|zi fun r2 hr2 => ?_
 obtain ⟨_, er2, _, rfl⟩ := ZlU a1 r2 hr2
 refine zv [0] (bv r2) [[(.clo 27 [] [])]] er2 ?_
 refine za r2 ?_ ?_
 ·refine ze ?_
  exact zr ((iv x8), [[(.clo 27 [] [])]]) ⟨_, rfl⟩
 ·exact zk (ZfH x0 x7 x8 ox0)
def Z8K : Option Int :=
 some (-1)
theorem ZfI : Sim Z3k Z8K (Zre 1 [[(.clo 27 [] [])]]) := by
 unfold Z8K
 refine zf (Zrf ..)<|ze ?_
 exact zr ((iv (-1)), [[(.clo 27 [] [])]]) ⟨_, rfl⟩
def Z4e (x0 : List ZA) (x7 x8 : Int) : Option Int :=
 if (decide (x8 < x7)) = true then
 (Z54 x0 x7 x8)
 else
 Z8K
theorem ZfF (x0 : List ZA) x7 x8 ox0 : Sim Z3k (Z4e x0 x7 x8) (ZhR 1 (ZP ox0 (x0.map ZG)) (.clo 73 [] [(.ptr 0 0)]) (iv x7) (iv x8) [[(.clo 27 [] [])]]) := by
 unfold Z4e
 refine zf (Zr9 ..)<|ze<|zq ?_
 refine za (decide (x8 < x7)) ?_ ?_
 ·exact zk (ZfG x0 x7 x8 ox0)
 ·exact zk ZfI
theorem Z7P x0 x7 x8 {r} (h : Z4e x0 x7 x8 = some r) : Z5c x0 x7 x8 = some r :=
 Z1g (fun _ _ ha hb => ru_ Zc8 (ha .ex) (hb .ex)) (fun ox0 => ZfF x0 x7 x8 ox0 r h)
def Z8f (x0 : ZA) : Option Bool :=
 (Z8X x0).bind fun r1 =>
 some (!r1)
theorem Zl6 x0 : Sim Z6A (Z8f x0) (EE 73 [(pA_ (Z2m x0)), (.ptr 0 0)] [[(.clo 27 [] [])]]) := by
 unfold Z8f
 refine zf (ZMG ..)<|ze<|zx (.ptr 1 0) [[(.clo 27 [] [])], (Z1P x0)]<|ze<|zq<|zq<|zi fun r1 hr1 => ?_
 obtain ⟨_, er1, _, rfl⟩ := Zdl x0 r1 hr1
 refine zv [] (bv r1) [[(.clo 27 [] [])], (Z1P x0)] er1<|zq ?_
 exact zr ((bv (!r1)), [[(.clo 27 [] [])], (Z1P x0)]) ⟨_, rfl⟩
theorem Zel x0 {r} (h : Z8f x0 = some r) : Z8o x0 = some r :=
 Z1g (fun _ _ ha hb => ru_ Zfh ha hb) (Zl6 x0 r h)
def ZbM (x0 : Z1e) : Option Bool :=
 (Z6y x0.Put ([] : List (Int × Bool))).bind fun r1 =>
 if r1.1 = true then
 (some true)
 else
 ((Z6U x0.Drop r1.2).bind fun r2 =>
 some r2.1)
theorem Znh x0 z7K z6h : Sim Z12 (ZbM x0) (EE 51 [(pA_ (Z4D x0 z7K z6h))] []) := by
 unfold ZbM
 refine zf (ZMl ..)<|ze<|zx (.ptr 0 0) [(ZI x0 z7K z6h)]<|ze<|zm (.mp 1) [(ZI x0 z7K z6h), (rM_ eB ([] : List (Int × Bool)))]<|zz (.ptr 2 0) [(ZI x0 z7K z6h), (rM_ eB ([] : List (Int × Bool))), [(.p (.v (.map none)))]]<|zt [(ZI x0 z7K z6h), (rM_ eB ([] : List (Int × Bool))), [(.mp 1)]]<|ze<|zz (.ptr 3 0) [(ZI x0 z7K z6h), (rM_ eB ([] : List (Int × Bool))), [(.mp 1)], [(.p (.v .nilFunc))]]<|zt [(ZI x0 z7K z6h), (rM_ eB ([] : List (Int × Bool))), [(.mp 1)], [(.clo 74 [] [(.ptr 2 0)])]]<|ze<|zq<|zq<|zi fun r1 hr1 => ?_
 obtain ⟨_, er1, _, rfl⟩ := Zg9 x0.Put ([] : List (Int × Bool)) .sh r1 hr1
 refine zc [3, 2, 1] (bv r1.1) [(ZI x0 z7K z6h), (rM_ eB r1.2), [(.mp 1)], [(.clo 74 [] [(.ptr 2 0)])]] er1 ?_
 refine za r1.1 ?_ ?_
 ·exact zr ((bv true), [(ZI x0 z7K z6h), (rM_ eB r1.2), [(.mp 1)], [(.clo 74 [] [(.ptr 2 0)])]]) ⟨_, rfl⟩
 ·refine zq<|zq<|zq<|zi fun r2 hr2 => ?_
  obtain ⟨_, er2, _, rfl⟩ := ZgR x0.Drop r1.2 .sh r2 hr2
  refine zc [2, 1] (bv r2.1) [(ZI x0 z7K z6h), (rM_ eB r2.2), [(.mp 1)], [(.clo 74 [] [(.ptr 2 0)])]] er2 ?_
  exact zr ((bv r2.1), [(ZI x0 z7K z6h), (rM_ eB r2.2), [(.mp 1)], [(.clo 74 [] [(.ptr 2 0)])]]) ⟨_, rfl⟩
theorem Zog x0 {r} (h : ZbM x0 = some r) : ZbV x0 = some r :=
 Z1g (fun _ _ ha hb => ru_ Z2o (ha .ex .ex) (hb .ex .ex)) (fun z7K z6h => Znh x0 z7K z6h r h)
def Z6q (x0 : List ZA) (z16 : List (Int × Bool)) : Option (Bool × (List (Int × Bool))) :=
 (Z7F x0 z16).bind fun r1 =>
 some ((decide (0 ≤ r1.1)), r1.2)
theorem Zfw (x0 : List ZA) z16 ox0 : Sim Z5y (Z6q x0 z16) (EE 57 [(ZP ox0 (x0.map ZG)), (.clo 75 [] [(.ptr 0 0)])] [[(.clo 74 [] [(.ptr 1 0)])], [(.mp 2)], (rM_ eB z16)]) := by
 unfold Z6q
 refine zf (ZzF ..)<|ze<|ze<|zi fun r1 hr1 => ?_
 obtain ⟨_, er1, _, rfl⟩ := Zid x0 z16 .sh r1 hr1
 refine zc [0, 1, 2] (iv r1.1) [[(.clo 74 [] [(.ptr 1 0)])], [(.mp 2)], (rM_ eB r1.2)] er1<|zq ?_
 exact zr ((bv (decide (0 ≤ r1.1))), [[(.clo 74 [] [(.ptr 1 0)])], [(.mp 2)], (rM_ eB r1.2)]) ⟨_, rfl⟩
theorem Zg8 x0 z16 {r} (h : Z6q x0 z16 = some r) : Z6y x0 z16 = some r :=
 Z1g (fun _ _ ha hb => ru_ Zdt (ha .ex) (hb .ex)) (fun ox0 => Zfw x0 z16 ox0 r h)
def Z7A (x0 : List ZA) (z16 : List (Int × Bool)) : Option (Int × (List (Int × Bool))) :=
 Z5d x0 (x0.length : Int) 0 z16
theorem ZhH (x0 : List ZA) z16 ox0 : Sim Z3l (Z7A x0 z16) (EE 83 [(ZP ox0 (x0.map ZG)), (.clo 75 [] [(.ptr 0 0)])] [[(.clo 74 [] [(.ptr 1 0)])], [(.mp 2)], (rM_ eB z16)]) := by
 unfold Z7A
 refine zf (ZzV ..)<|ze<|ze<|zp (iv (x0.length : Int)) (et_ (Z32 (P := PP) (t := 22) (d := 43) (by kernel_rfl) ZG (shrO ox0) x0)) ?_
 exact zk (ZaE x0 (x0.length : Int) 0 z16 ox0)
theorem Zic x0 z16 {r} (h : Z7A x0 z16 = some r) : Z7F x0 z16 = some r :=
 Z1g (fun _ _ ha hb => ru_ Zc9 (ha .ex) (hb .ex)) (fun ox0 => ZhH x0 z16 ox0 r h)
def Z6u (x0 : List ZA) (x7 x8 : Int) (z16 : List (Int × Bool)) : Option (Int × (List (Int × Bool))) :=
 Z5d x0 x7 (IntKind.i64.wrap (x8 + 1)) z16
theorem ZfL (x0 : List ZA) x7 x8 z16 ox0 : Sim Z3l (Z6u x0 x7 x8 z16) (Zrc 3 (ZP ox0 (x0.map ZG)) (.clo 75 [] [(.ptr 0 0)]) (iv x7) (iv x8) [[(.clo 74 [] [(.ptr 1 0)])], [(.mp 2)], (rM_ eB z16)]) := by
 unfold Z6u
 refine zf (Zrd ..)<|ze<|zq ?_
 exact zk (ZaE x0 x7 (IntKind.i64.wrap (x8 + 1)) z16 ox0)
def Z55 (x0 : List ZA) (x7 x8 : Int) (z16 : List (Int × Bool)) : Option (Int × (List (Int × Bool))) :=
 (lget x0 x8).bind fun a1 =>
 (Z8P a1 z16).bind fun r2 =>
 if r2.1 = true then
 (some (x8, r2.2))
 else
 (Z6u x0 x7 x8 r2.2)
theorem ZfK (x0 : List ZA) x7 x8 z16 ox0 : Sim Z3l (Z55 x0 x7 x8 z16) (Zra 3 (ZP ox0 (x0.map ZG)) (.clo 75 [] [(.ptr 0 0)]) (iv x7) (iv x8) [[(.clo 74 [] [(.ptr 1 0)])], [(.mp 2)], (rM_ eB z16)]) := by
 unfold Z55
 refine zf (Zrb ..)<|ze<|ze<|zi fun a1 ha1 => zp (.cptr (Z2m a1)) (et_ (Z45 (o := (shrO ox0)) (k := .i64) (n := 5) (e := ZG) (cs := Z5S) (fun _ => rfl) (fun _ => rfl) (by decide) ha1))<|zq<|zi fun r2 hr2 => ?_
 obtain ⟨_, er2, _, rfl⟩ := Zk4 a1 z16 r2 hr2
 refine zv [0, 1, 2] (bv r2.1) [[(.clo 74 [] [(.ptr 1 0)])], [(.mp 2)], (rM_ eB r2.2)] er2 ?_
 refine za r2.1 ?_ ?_
 ·refine ze ?_
  exact zr ((iv x8), [[(.clo 74 [] [(.ptr 1 0)])], [(.mp 2)], (rM_ eB r2.2)]) ⟨_, rfl⟩
 ·exact zk (ZfL x0 x7 x8 r2.2 ox0)
def Z8L (z16 : List (Int × Bool)) : Option (Int × (List (Int × Bool))) :=
 some ((-1), z16)
theorem ZfM z16 : Sim Z3l (Z8L z16) (Zre 3 [[(.clo 74 [] [(.ptr 1 0)])], [(.mp 2)], (rM_ eB z16)]) := by
 unfold Z8L
 refine zf (Zrf ..)<|ze ?_
 exact zr ((iv (-1)), [[(.clo 74 [] [(.ptr 1 0)])], [(.mp 2)], (rM_ eB z16)]) ⟨_, rfl⟩
def Z4f (x0 : List ZA) (x7 x8 : Int) (z16 : List (Int × Bool)) : Option (Int × (List (Int × Bool))) :=
 if (decide (x8 < x7)) = true then
 (Z55 x0 x7 x8 z16)
 else
 (Z8L z16)
theorem ZfJ (x0 : List ZA) x7 x8 z16 ox0 : Sim Z3l (Z4f x0 x7 x8 z16) (ZhR 3 (ZP ox0 (x0.map ZG)) (.clo 75 [] [(.ptr 0 0)]) (iv x7) (iv x8) [[(.clo 74 [] [(.ptr 1 0)])], [(.mp 2)], (rM_ eB z16)]) := by
 unfold Z4f
 refine zf (Zr9 ..)<|ze<|zq ?_
 refine za (decide (x8 < x7)) ?_ ?_
 ·exact zk (ZfK x0 x7 x8 z16 ox0)
 ·exact zk (ZfM z16)
theorem Z7Q x0 x7 x8 z16 {r} (h : Z4f x0 x7 x8 z16 = some r) : Z5d x0 x7 x8 z16 = some r :=
 Z1g (fun _ _ ha hb => ru_ Zc9 (ha .ex) (hb .ex)) (fun ox0 => ZfJ x0 x7 x8 z16 ox0 r h)
def Z8H (x0 : ZA) (z16 : List (Int × Bool)) : Option (Bool × (List (Int × Bool))) :=
 (Z72 x0.ID z16).bind fun r1 =>
 some (r1.1, r1.2)
theorem Zjj x0 z16 : Sim Z5y (Z8H x0 z16) (EE 75 [(pA_ (Z2m x0)), (.ptr 0 0)] [[(.clo 74 [] [(.ptr 1 0)])], [(.mp 2)], (rM_ eB z16)]) := by
 unfold Z8H
 refine zf (ZMI ..)<|ze<|zx (.ptr 3 0) [[(.clo 74 [] [(.ptr 1 0)])], [(.mp 2)], (rM_ eB z16), (Z1P x0)]<|ze<|zq<|zq<|zq<|zi fun r1 hr1 => ?_
 obtain ⟨_, er1, _, rfl⟩ := ZcR x0.ID z16 r1 hr1
 refine zv [1, 2] (bv r1.1) [[(.clo 74 [] [(.ptr 1 0)])], [(.mp 2)], (rM_ eB r1.2), (Z1P x0)] er1 ?_
 exact zr ((bv r1.1), [[(.clo 74 [] [(.ptr 1 0)])], [(.mp 2)], (rM_ eB r1.2), (Z1P x0)]) ⟨_, rfl⟩
theorem Zk3 x0 z16 {r} (h : Z8H x0 z16 = some r) : Z8P x0 z16 = some r :=
 Z1g (fun _ _ ha hb => ru_ Zdt ha hb) (Zjj x0 z16 r h)
def ZaV (x0 : Int) (zY : List (Int × Bool)) : Option (Bool × (List (Int × Bool))) :=
 some (((getM zY x0).getD false), (putM zY x0 true))
theorem Zji x0 zY : Sim Z5x (ZaV x0 zY) (EE 74 [(iv x0), (.ptr 0 0)] [[(.mp 1)], (rM_ eB zY)]) := by
 unfold ZaV
 refine zf (ZMH ..)<|ze<|ze<|zq<|zp (bv ((getM zY x0).getD false)) (Eq.trans (b := ZbZ PP 152 false (.mp 1) (iv x0) [[(.mp 1)], (rM_ eB zY)]) (by kernel_rfl) <| (Zma (e := eB) (z := false) (es := zY) (te := 4) (by kernel_rfl) (by kernel_rfl) (by kernel_rfl) false).trans (by kernel_rfl))<|ze<|zq ?_
 refine Sim.xupd (B2 := [[(.mp 1)], (rM_ eB (putM zY x0 true))]) (fun K => Eq.trans (b := xupd PP 152 (.mp 1) (iv x0) (bv true) [[(.mp 1)], (rM_ eB zY)] K) (by kernel_rfl) <| ZsV (P := PP) (t := 152) (K := K) (B2 := [[(.mp 1)], (rM_ eB (putM zY x0 true))]) (e := eB) (a := true) (es := zY) (te := 4) (by kernel_rfl) (by kernel_rfl) (by kernel_rfl) (by kernel_rfl) (by kernel_rfl)) ?_
 refine ze ?_
 exact zr ((bv ((getM zY x0).getD false)), [[(.mp 1)], (rM_ eB (putM zY x0 true))]) ⟨_, rfl⟩
theorem Zk2 x0 zY {r} (h : ZaV x0 zY = some r) : Z72 x0 zY = some r :=
 Z1g (fun _ _ ha hb => ru_ Zds ha hb) (Zji x0 zY r h)
def Z6L (x0 : List Int) (zY : List (Int × Bool)) : Option (Bool × (List (Int × Bool))) :=
 (Z7W x0 zY).bind fun r1 =>
 some ((decide (0 ≤ r1.1)), r1.2)
theorem Zga (x0 : List Int) zY ox0 : Sim Z5x (Z6L x0 zY) (EE 59 [(ZP ox0 (x0.map (eI .i64))), (.clo 74 [] [(.ptr 0 0)])] [[(.mp 1)], (rM_ eB zY)]) := by
 unfold Z6L
 refine zf (ZGy ..)<|ze<|ze<|zi fun r1 hr1 => ?_
 obtain ⟨_, er1, _, rfl⟩ := ZiC x0 zY .sh r1 hr1
 refine zc [0, 1] (iv r1.1) [[(.mp 1)], (rM_ eB r1.2)] er1<|zq ?_
 exact zr ((bv (decide (0 ≤ r1.1))), [[(.mp 1)], (rM_ eB r1.2)]) ⟨_, rfl⟩
theorem ZgQ x0 zY {r} (h : Z6L x0 zY = some r) : Z6U x0 zY = some r :=
 Z1g (fun _ _ ha hb => ru_ Zds (ha .ex) (hb .ex)) (fun ox0 => Zga x0 zY ox0 r h)
def Z7U (x0 : List Int) (zY : List (Int × Bool)) : Option (Int × (List (Int × Bool))) :=
 Z5p x0 (x0.length : Int) 0 zY
theorem Zie (x0 : List Int) zY ox0 : Sim Z3s (Z7U x0 zY) (EE 84 [(ZP ox0 (x0.map (eI .i64))), (.clo 74 [] [(.ptr 0 0)])] [[(.mp 1)], (rM_ eB zY)]) := by
 unfold Z7U
 refine zf (ZGQ ..)<|ze<|ze<|zp (iv (x0.length : Int)) (et_ (Z32 (P := PP) (t := 27) (d := 3) (by kernel_rfl) (eI .i64) (shrO ox0) x0)) ?_
 exact zk (Zb6 x0 (x0.length : Int) 0 zY ox0)
theorem ZiB x0 zY {r} (h : Z7U x0 zY = some r) : Z7W x0 zY = some r :=
 Z1g (fun _ _ ha hb => ru_ Zcz (ha .ex) (hb .ex)) (fun ox0 => Zie x0 zY ox0 r h)
def Z6N (x0 : List Int) (x7 x8 : Int) (zY : List (Int × Bool)) : Option (Int × (List (Int × Bool))) :=
 Z5p x0 x7 (IntKind.i64.wrap (x8 + 1)) zY
theorem Zge (x0 : List Int) x7 x8 zY ox0 : Sim Z3s (Z6N x0 x7 x8 zY) (Zvi 2 (ZP ox0 (x0.map (eI .i64))) (.clo 74 [] [(.ptr 0 0)]) (iv x7) (iv x8) [[(.mp 1)], (rM_ eB zY)]) := by
 unfold Z6N
 refine zf (Zyl ..)<|ze<|zq ?_
 exact zk (Zb6 x0 x7 (IntKind.i64.wrap (x8 + 1)) zY ox0)
def Z5n (x0 : List Int) (x7 x8 : Int) (zY : List (Int × Bool)) : Option (Int × (List (Int × Bool))) :=
 (lget x0 x8).bind fun a1 =>
 (Z72 a1 zY).bind fun r2 =>
 if r2.1 = true then
 (some (x8, r2.2))
 else
 (Z6N x0 x7 x8 r2.2)
theorem Zgd (x0 : List Int) x7 x8 zY ox0 : Sim Z3s (Z5n x0 x7 x8 zY) (Zvh 2 (ZP ox0 (x0.map (eI .i64))) (.clo 74 [] [(.ptr 0 0)]) (iv x7) (iv x8) [[(.mp 1)], (rM_ eB zY)]) := by
 unfold Z5n
 refine zf (Zyk ..)<|ze<|ze<|zi fun a1 ha1 => zp (.cptr [(.v (.int .i64 a1))]) (et_ (Z45 (o := (shrO ox0)) (k := .i64) (n := 1) (e := (eI .i64)) (cs := (fun a => [(eI .i64) a])) (fun _ => rfl) (fun _ => rfl) (by decide) ha1))<|zq<|zi fun r2 hr2 => ?_
 obtain ⟨_, er2, _, rfl⟩ := ZcR a1 zY r2 hr2
 refine zv [0, 1] (bv r2.1) [[(.mp 1)], (rM_ eB r2.2)] er2 ?_
 refine za r2.1 ?_ ?_
 ·refine ze ?_
  exact zr ((iv x8), [[(.mp 1)], (rM_ eB r2.2)]) ⟨_, rfl⟩
 ·exact zk (Zge x0 x7 x8 r2.2 ox0)
def Z90 (zY : List (Int × Bool)) : Option (Int × (List (Int × Bool))) :=
 some ((-1), zY)
theorem Zgf zY : Sim Z3s (Z90 zY) (Zvj 2 [[(.mp 1)], (rM_ eB zY)]) := by
 unfold Z90
 refine zf (Zym ..)<|ze ?_
 exact zr ((iv (-1)), [[(.mp 1)], (rM_ eB zY)]) ⟨_, rfl⟩
def Z4p (x0 : List Int) (x7 x8 : Int) (zY : List (Int × Bool)) : Option (Int × (List (Int × Bool))) :=
 if (decide (x8 < x7)) = true then
 (Z5n x0 x7 x8 zY)
 else
 (Z90 zY)
theorem Zgc (x0 : List Int) x7 x8 zY ox0 : Sim Z3s (Z4p x0 x7 x8 zY) (ZlE 2 (ZP ox0 (x0.map (eI .i64))) (.clo 74 [] [(.ptr 0 0)]) (iv x7) (iv x8) [[(.mp 1)], (rM_ eB zY)]) := by
 unfold Z4p
 refine zf (Zyj ..)<|ze<|zq ?_
 refine za (decide (x8 < x7)) ?_ ?_
 ·exact zk (Zgd x0 x7 x8 zY ox0)
 ·exact zk (Zgf zY)
theorem Z83 x0 x7 x8 zY {r} (h : Z4p x0 x7 x8 zY = some r) : Z5p x0 x7 x8 zY = some r :=
 Z1g (fun _ _ ha hb => ru_ Zcz (ha .ex) (hb .ex)) (fun ox0 => Zgc x0 x7 x8 zY ox0 r h)
def ZcY : Option Unit :=
 some ()
theorem ZlG z14 : Sim (Zak z14) ZcY (EE 53 [(.mp 0)] [(rM_ ZG z14)]) := by
 unfold ZcY
 refine zf (ZMm ..)<|ze<|zx (.ptr 1 0) [(rM_ ZG z14), [(.mp 0)]]<|ze ?_
 exact zr ((.clo 78 [] [(.ptr 1 0)]), [(rM_ ZG z14), [(.mp 0)]]) ⟨[], rfl, rfl⟩
theorem Zmh {r} (h : ZcY = some r) : Zar = some r :=
 Z1g (fun _ _ ha hb => ru_ (Zn0 _) (ha default) (hb default)) (fun z14 => ZlG z14 r h)
def ZbO (b0 : ZE) : Option ZR :=
 Z9O b0.Rules (b0.Rules.length : Int) 0
theorem Zno b0 b1 zD : Sim Z3L (ZbO b0) (Zz7 0 (.ptr 0 0) (.ptr 1 0) [(ZC b0 zD), (Z1b b1)]) := by
 unfold ZbO
 refine zf (ZFW ..)<|ze<|zq<|zq<|zp (iv (b0.Rules.length : Int)) (et_ (Z32 (P := PP) (t := 22) (d := 43) (by kernel_rfl) ZG (shrO zD) b0.Rules)) ?_
 exact zk (Zhn b0.Rules (b0.Rules.length : Int) 0 b0 b1 (shrO zD) zD)
def ZdW (x0 : ZE) : Option ZR :=
 (Zb4 x0).bind fun r1 =>
 if (!r1) = true then
 (some (ZR.mk 10 0 0))
 else
 (ZbO x0)
theorem ZqQ x0 z1w : Sim Z3L (ZdW x0) (EE 16 [(pA_ (Z1V x0 z1w))] []) := by
 unfold ZdW
 refine zf (ZLK ..)<|ze<|zx (.ptr 0 0) [(ZC x0 z1w)]<|zz (.ptr 1 0) [(ZC x0 z1w), (Z1b Z7o)]<|ze<|zq<|zi fun r1 hr1 => ?_
 obtain ⟨_, er1, _, rfl⟩ := ZiR x0 .sh r1 hr1
 refine zc [] (bv r1) [(ZC x0 z1w), (Z1b Z7o)] er1<|zq ?_
 refine za (!r1) ?_ ?_
 ·refine ze<|zq<|zt [(ZC x0 z1w), (Zjm 10 0 0)] ?_
  exact zr ((pA_ (Z1U (ZR.mk 10 0 0))), [(ZC x0 z1w), (Zjm 10 0 0)]) ⟨_, rfl⟩
 ·exact zk (Zno x0 Z7o z1w)
theorem Zrz x0 {r} (h : ZdW x0 = some r) : Ze1 x0 = some r :=
 Z1g (fun _ _ ha hb => ru_ ZdL (ha .ex) (hb .ex)) (fun z1w => ZqQ x0 z1w r h)
def Zbs (x11 : List ZA) (x12 x13 : Int) : Option ZR :=
 Z9O x11 x12 (IntKind.i64.wrap (x13 + 1))
theorem ZmF (x11 : List ZA) x12 x13 b0 b1 ox11 zD : Sim Z3L (Zbs x11 x12 x13) (Zx2 0 (.ptr 1 0) (ZP ox11 (x11.map ZG)) (iv x12) (iv x13) [(ZC b0 zD), (Z1b b1)]) := by
 unfold Zbs
 refine zf (ZDQ ..)<|ze<|zq ?_
 exact zk (Zhn x11 x12 (IntKind.i64.wrap (x13 + 1)) b0 b1 ox11 zD)
def ZbP (x11 : List ZA) (x12 x13 : Int) : Option ZR :=
 (lget x11 x13).bind fun a1 =>
 (Z6e a1.Pattern).bind fun r2 =>
 if (r2.Code != 0) = true then
 (some (ZR.mk r2.Code a1.ID r2.At))
 else
 (Zbs x11 x12 x13)
theorem Znp (x11 : List ZA) x12 x13 b0 b1 ox11 zD : Sim Z3L (ZbP x11 x12 x13) (Zz8 0 (.ptr 1 0) (ZP ox11 (x11.map ZG)) (iv x12) (iv x13) [(ZC b0 zD), (Z1b b1)]) := by
 unfold ZbP
 refine zf (ZFX ..)<|ze<|zi fun a1 ha1 => zp (.cptr (Z2m a1)) (et_ (Z45 (o := ox11) (k := .i64) (n := 5) (e := ZG) (cs := Z5S) (fun _ => rfl) (fun _ => rfl) (by decide) ha1))<|zq<|zz (.ptr 2 0) [(ZC b0 zD), (Z1b b1), (Z1P (ZA.mk 0 0 0 0 (ByteArray.mk #[])))]<|zt [(ZC b0 zD), (Z1b b1), (Z1P a1)]<|ze<|zq<|zq<|zi fun r2 hr2 => ?_
 obtain ⟨_, er2, _, rfl⟩ := ZpX a1.Pattern r2 hr2
 refine zc [] (pA_ (Z1U r2)) [(ZC b0 zD), (Z1b b1), (Z1P a1)] er2<|zz (.ptr 3 0) [(ZC b0 zD), (Z1b b1), (Z1P a1), (Z1b Z7o)]<|zt [(ZC b0 zD), (Z1b b1), (Z1P a1), (Z1b r2)]<|ze<|zq<|zq<|zq ?_
 refine za (r2.Code != 0) ?_ ?_
 ·refine ze<|zq<|zq<|zq<|zt [(ZC b0 zD), (Z1b b1), (Z1P a1), (Zjm r2.Code a1.ID r2.At)]<|ze<|zq<|zt [(ZC b0 zD), (Zjm r2.Code a1.ID r2.At), (Z1P a1), (Zjm r2.Code a1.ID r2.At)] ?_
  exact zr ((pA_ (Z1U (ZR.mk r2.Code a1.ID r2.At))), [(ZC b0 zD), (Zjm r2.Code a1.ID r2.At), (Z1P a1), (Zjm r2.Code a1.ID r2.At)]) ⟨_, rfl⟩
 ·exact zk (ZmF x11 x12 x13 b0 b1 ox11 zD)
def Zbt : Option ZR :=
 some (ZR.mk 0 0 0)
theorem ZmG b0 b1 zD : Sim Z3L Zbt (Zx3 0 (.ptr 1 0) [(ZC b0 zD), (Z1b b1)]) := by
 unfold Zbt
 refine zf (ZDR ..)<|ze<|zq<|zt [(ZC b0 zD), (Z1b Z7o)] ?_
 exact zr ((pA_ (Z1U Z7o)), [(ZC b0 zD), (Z1b Z7o)]) ⟨_, rfl⟩
def Z9K (x11 : List ZA) (x12 x13 : Int) : Option ZR :=
 if (decide (x13 < x12)) = true then
 (ZbP x11 x12 x13)
 else
 Zbt
theorem Znn (x11 : List ZA) x12 x13 b0 b1 ox11 zD : Sim Z3L (Z9K x11 x12 x13) (ZqX 0 (.ptr 1 0) (ZP ox11 (x11.map ZG)) (iv x12) (iv x13) [(ZC b0 zD), (Z1b b1)]) := by
 unfold Z9K
 refine zf (ZFV ..)<|ze<|zq ?_
 refine za (decide (x13 < x12)) ?_ ?_
 ·exact zk (Znp x11 x12 x13 b0 b1 ox11 zD)
 ·exact zk (ZmG b0 b1 zD)
theorem Zhm x11 x12 x13 {r} (h : Z9K x11 x12 x13 = some r) : Z9O x11 x12 x13 = some r :=
 Z1g (fun _ _ ha hb => ru_ ZdL (ha default default .ex .ex) (hb default default .ex .ex)) (fun b0 b1 ox11 zD => Znn x11 x12 x13 b0 b1 ox11 zD r h)
def Z8M (b1 : Z1M) : Option ZR :=
 (ZgD b1).bind fun r1 =>
 some (ZR.mk r1 0 0)
theorem ZlW b0 b1 zev zdC : Sim Z3L (Z8M b1) (Zzh 0 (.ptr 0 0) (.ptr 1 0) [(Z1b b0), (Z1r b1 zev zdC)]) := by
 unfold Z8M
 refine zf (ZG9 ..)<|ze<|zq<|zi fun r1 hr1 => ?_
 obtain ⟨_, er1, _, rfl⟩ := ZtY b1 .sh .sh r1 hr1
 refine zc [] (iv r1) [(Z1b b0), (Z1r b1 zev zdC)] er1<|zq<|zt [(Zjm r1 0 0), (Z1r b1 zev zdC)] ?_
 exact zr ((pA_ (Z1U (ZR.mk r1 0 0))), [(Zjm r1 0 0), (Z1r b1 zev zdC)]) ⟨_, rfl⟩
def Z7r (x0 : ByteArray) : Option ZR :=
 (ZgA x0).bind fun r1 =>
 if (r1.2.Code != 0) = true then
 (some (ZR.mk r1.2.Code 0 r1.2.At))
 else
 (Z8M r1.1)
theorem Zov x0 : Sim Z3L (Z7r x0) (EE 21 [(.p (.v (.string x0)))] []) := by
 unfold Z7r
 refine zf (ZLR ..)<|ze<|zz (.ptr 0 0) [(Z1b Z7o)]<|ze<|zi fun r1 hr1 => ?_
 obtain ⟨_, er1, _, rfl⟩ := ZtQ x0 r1 hr1
 refine zc [] (.p (.tup [(.agg (Z43 r1.1 .sh .sh)), (.agg (Z6a r1.2))])) [(Z1b Z7o)] er1<|zq<|zq<|zz (.ptr 1 0) [(Z1b Z7o), (Z1r ZfO .nl .nl)]<|zz (.ptr 2 0) [(Z1b Z7o), (Z1r ZfO .nl .nl), (Z2a Ziw)]<|zt [(Z1b Z7o), (Z1r r1.1 .sh .sh), (Z2a Ziw)]<|zt [(Z1b Z7o), (Z1r r1.1 .sh .sh), (Z2a r1.2)]<|ze<|zq<|zq<|zq ?_
 refine za (r1.2.Code != 0) ?_ ?_
 ·refine ze<|zq<|zq<|zq<|zq<|zq<|zt [(Zjm r1.2.Code 0 r1.2.At), (Z1r r1.1 .sh .sh), (Z2a r1.2)] ?_
  exact zr ((pA_ (Z1U (ZR.mk r1.2.Code 0 r1.2.At))), [(Zjm r1.2.Code 0 r1.2.At), (Z1r r1.1 .sh .sh), (Z2a r1.2)]) ⟨_, rfl⟩
 ·exact zk (ZlW Z7o r1.1 .sh .sh)
theorem Zax x0 {r} (h : Z7r x0 = some r) : Z6e x0 = some r :=
 Z1g (fun _ _ ha hb => ru_ ZdL ha hb) (Zov x0 r h)
def Z5M (z3E : List Int) (z1y : Int) (z2A : List Zz) (z1d z1B z1j z1D z1C z1k z1u : Int) (z1v : List Zi) (z1i : List Zj) (z2d : Bool) : Option (Z1M × Z1n) :=
 Z9n z2A (z2A.length : Int) 0 z3E z1y z1d z1B z1j z1D z1C z1k z1u z1v z1i z2d
theorem Zdj b0 b1 z3E z3v z1y z3d z2A z1d z1B z1j z1D z1C z1k z1u z1v z1i z2W z2d z1L z1E z4m z2p z1Y z1S (z2Z : ZW z1L = true) (z2P : ZW z1E = true) (z4v : ZW z2p = true) : Sim Z4U (Z5M z3E z1y z2A z1d z1B z1j z1D z1C z1k z1u z1v z1i z2d) (Zr5 0 (.ptr 0 0) (.ptr 1 0) (.ptr 2 0) (.ptr 3 0) [(Z1r b0 z1L z1E), (Z2a b1), (ZS z3E z3v z1y z3d z2A z1d z1B z4m z2p), (Zb9 z1j z1D z1C z1k z1u z1v z1i z2W z2d z1Y z1S)]) := by
 unfold Z5M
 refine zf (ZGv ..)<|ze<|zq<|zq<|zq<|zp (iv (z2A.length : Int)) (et_ (Z32 (P := PP) (t := 142) (d := 149) (by kernel_rfl) Z3u (shrO z2p) z2A)) ?_
 exact zk (ZiH z2A (z2A.length : Int) 0 b0 b1 z3E z3v z1y z3d z2A z1d z1B z1j z1D z1C z1k z1u z1v z1i z2W z2d (shrO z2p) z1L z1E z4m z2p z1Y z1S z2Z z2P z4v)
def ZaK (z3E : List Int) (z3v z1y : Int) (z2A : List Zz) (z1d z1B z1j z1D z1C z1k z1u : Int) (z1v : List Zi) (z1i : List Zj) (z2d : Bool) : Option (Z1M × Z1n) :=
 (Z1A 20 z3v z3E z1d z1B).bind fun r1 =>
 Z5M z3E z1y z2A r1.2.1 r1.2.2 z1j z1D z1C z1k z1u z1v z1i z2d
theorem Zpk b0 b1 z3E z3v z1y z3d z2A z1d z1B z1j z1D z1C z1k z1u z1v z1i z2W z2d z1L z1E z4m z2p z1Y z1S (z2Z : ZW z1L = true) (z2P : ZW z1E = true) (z4v : ZW z2p = true) : Sim Z4U (ZaK z3E z3v z1y z2A z1d z1B z1j z1D z1C z1k z1u z1v z1i z2d) (ZzC 0 (.ptr 0 0) (.ptr 1 0) (.ptr 2 0) (.ptr 3 0) [(Z1r b0 z1L z1E), (Z2a b1), (ZS z3E z3v z1y z3d z2A z1d z1B z4m z2p), (Zb9 z1j z1D z1C z1k z1u z1v z1i z2W z2d z1Y z1S)]) := by
 unfold ZaK
 refine zf (ZGu ..)<|ze<|zq<|zq<|zq<|zi fun r1 hr1 => ?_
 obtain ⟨_, er1, _, rfl⟩ := Z1F 20 z3v z3E z3v z1y z3d z2A z1d z1B z4m z2p z4v r1 hr1
 refine zc [2] (.p (.tup [])) [(Z1r b0 z1L z1E), (Z2a b1), (ZS z3E r1.1 z1y z3d z2A r1.2.1 r1.2.2 z4m z2p), (Zb9 z1j z1D z1C z1k z1u z1v z1i z2W z2d z1Y z1S)] er1 ?_
 exact zk (Zdj b0 b1 z3E r1.1 z1y z3d z2A r1.2.1 r1.2.2 z1j z1D z1C z1k z1u z1v z1i z2W z2d z1L z1E z4m z2p z1Y z1S z2Z z2P z4v)
def ZcZ (x0 : ByteArray) : Option (Z1M × Z1n) :=
 (Z2j (ByteArray.mk #[40, 63, 105, 41]) (Z56 x0) 0).bind fun r1 =>
 (Z58 (Z56 x0) r1.2 0 0 ([] : List Zz) 0 0).bind fun r2 =>
 if (r2.2.2.2.2.2.1 == 0) = true then
 (if (decide (r2.2.1 < ((Z56 x0).length : Int))) = true then
 (ZaK (Z56 x0) r2.2.1 r2.2.2.1 r2.2.2.2.2.1 r2.2.2.2.2.2.1 r2.2.2.2.2.2.2 r2.1.Kind r2.1.Lo r2.1.Hi r2.1.Mode r2.1.Ref r2.1.Set r2.1.Kids r1.1)
 else
 (Z5M (Z56 x0) r2.2.2.1 r2.2.2.2.2.1 r2.2.2.2.2.2.1 r2.2.2.2.2.2.2 r2.1.Kind r2.1.Lo r2.1.Hi r2.1.Mode r2.1.Ref r2.1.Set r2.1.Kids r1.1))
 else
 (Z5M (Z56 x0) r2.2.2.1 r2.2.2.2.2.1 r2.2.2.2.2.2.1 r2.2.2.2.2.2.2 r2.1.Kind r2.1.Lo r2.1.Hi r2.1.Mode r2.1.Ref r2.1.Set r2.1.Kids r1.1)
theorem Zpj x0 b0 b1 z1L z1E (z2Z : ZW z1L = true) (z2P : ZW z1E = true) : Sim Z4U (ZcZ x0) (ZzB 0 (.p (.v (.string x0))) (.ptr 0 0) (.ptr 1 0) [(Z1r b0 z1L z1E), (Z2a b1)]) := by
 unfold ZcZ
 refine zf (ZGt ..)<|ze<|zp (ZP .sh ((Z56 x0).map (eI .u8))) (et_ (ZJ1 (P := PP) (s := 9) (d := 141) (by kernel_rfl) (by kernel_rfl) x0))<|zq<|zx (.ptr 2 0) [(Z1r b0 z1L z1E), (Z2a b1), (Z4F (Z2c.mk (Z56 x0) 0 0 0 ([] : List Zz) Ziw) .sh .nl)]<|ze<|zi fun r1 hr1 => ?_
 obtain ⟨_, er1, _, rfl⟩ := Z2u (ByteArray.mk #[40, 63, 105, 41]) (Z56 x0) 0 0 0 ([] : List Zz) 0 0 .sh .nl rfl r1 hr1
 refine zc [2] (bv r1.1) [(Z1r b0 z1L z1E), (Z2a b1), (Z4F (Z2c.mk (Z56 x0) r1.2 0 0 ([] : List Zz) Ziw) .sh .nl)] er1<|zq<|zz (.ptr 3 0) [(Z1r b0 z1L z1E), (Z2a b1), (Z4F (Z2c.mk (Z56 x0) r1.2 0 0 ([] : List Zz) Ziw) .sh .nl), (Z1r ZfO .nl .nl)]<|zt [(Z1r b0 z1L z1E), (Z2a b1), (Z4F (Z2c.mk (Z56 x0) r1.2 0 0 ([] : List Zz) Ziw) .sh .nl), (Z1r (Z1M.mk Z2g 0 r1.1) .nl .nl)]<|ze<|zi fun r2 hr2 => ?_
 obtain ⟨_, er2, zoI, _, zu8, rfl⟩ := Zhh (Z56 x0) r1.2 0 0 ([] : List Zz) 0 0 .sh .nl rfl r2 hr2
 refine zc [2] (pA_ (ZN r2.1 .sh .sh)) [(Z1r b0 z1L z1E), (Z2a b1), (ZS (Z56 x0) r2.2.1 r2.2.2.1 r2.2.2.2.1 r2.2.2.2.2.1 r2.2.2.2.2.2.1 r2.2.2.2.2.2.2 .sh zoI), (Z1r (Z1M.mk Z2g 0 r1.1) .nl .nl)] er2<|zq<|zt [(Z1r b0 z1L z1E), (Z2a b1), (ZS (Z56 x0) r2.2.1 r2.2.2.1 r2.2.2.2.1 r2.2.2.2.2.1 r2.2.2.2.2.2.1 r2.2.2.2.2.2.2 .sh zoI), (Zb9 r2.1.Kind r2.1.Lo r2.1.Hi r2.1.Mode r2.1.Ref r2.1.Set r2.1.Kids 0 r1.1 .sh .sh)]<|ze<|zq<|zq<|zq<|zq<|zq ?_
 refine za (r2.2.2.2.2.2.1 == 0) ?_ ?_
 ·refine zq<|zq<|zq<|zq<|zq<|zq<|zp (iv ((Z56 x0).length : Int)) (et_ (Z32 (P := PP) (t := 141) (d := 5) (by kernel_rfl) (eI .u8) .sh (Z56 x0)))<|zq ?_
  refine za (decide (r2.2.1 < ((Z56 x0).length : Int))) ?_ ?_
  ·exact zk (Zpk b0 b1 (Z56 x0) r2.2.1 r2.2.2.1 r2.2.2.2.1 r2.2.2.2.2.1 r2.2.2.2.2.2.1 r2.2.2.2.2.2.2 r2.1.Kind r2.1.Lo r2.1.Hi r2.1.Mode r2.1.Ref r2.1.Set r2.1.Kids 0 r1.1 z1L z1E .sh zoI .sh .sh z2Z z2P zu8)
  ·exact zk (Zdj b0 b1 (Z56 x0) r2.2.1 r2.2.2.1 r2.2.2.2.1 r2.2.2.2.2.1 r2.2.2.2.2.2.1 r2.2.2.2.2.2.2 r2.1.Kind r2.1.Lo r2.1.Hi r2.1.Mode r2.1.Ref r2.1.Set r2.1.Kids 0 r1.1 z1L z1E .sh zoI .sh .sh z2Z z2P zu8)
 ·exact zk (Zdj b0 b1 (Z56 x0) r2.2.1 r2.2.2.1 r2.2.2.2.1 r2.2.2.2.2.1 r2.2.2.2.2.2.1 r2.2.2.2.2.2.2 r2.1.Kind r2.1.Lo r2.1.Hi r2.1.Mode r2.1.Ref r2.1.Set r2.1.Kids 0 r1.1 z1L z1E .sh zoI .sh .sh z2Z z2P zu8)
def Zgv (x0 : ByteArray) : Option (Z1M × Z1n) :=
 if (decide (256 < (x0.size : Int))) = true then
 (some ((Z1M.mk (Zj.mk 0 0 0 0 0 ([] : List Zi) ([] : List Zj)) 0 false), (Z1n.mk 12 0)))
 else
 (ZcZ x0)
theorem Zt4 x0 : Sim Z4U (Zgv x0) (EE 47 [(.p (.v (.string x0)))] []) := by
 unfold Zgv
 refine zf (ZMf ..)<|ze<|zz (.ptr 0 0) [(Z1r ZfO .nl .nl)]<|zz (.ptr 1 0) [(Z1r ZfO .nl .nl), (Z2a Ziw)]<|ze<|zq<|zq ?_
 refine za (decide (256 < (x0.size : Int))) ?_ ?_
 ·refine ze<|zq<|zq<|zt [(Z1r ZfO .nl .nl), (Z2a Ziw)]<|zt [(Z1r ZfO .nl .nl), (Z2a (Z1n.mk 12 0))] ?_
  exact zr ((.p (.tup [(.agg (Z43 ZfO .sh .sh)), (.agg (Z6a (Z1n.mk 12 0)))])), [(Z1r ZfO .nl .nl), (Z2a (Z1n.mk 12 0))]) ⟨_, rfl⟩
 ·exact zk (Zpj x0 ZfO Ziw .nl .nl rfl rfl)
theorem ZtP x0 {r} (h : Zgv x0 = some r) : ZgA x0 = some r :=
 Z1g (fun _ _ ha hb => ru_ ZmH ha hb) (Zt4 x0 r h)
def Z6d (x50 : List Zz) (x51 x52 : Int) (z3E : List Int) (z1y z1d z1B z1j z1D z1C z1k z1u : Int) (z1v : List Zi) (z1i : List Zj) (z2d : Bool) : Option (Z1M × Z1n) :=
 Z9n x50 x51 (IntKind.i64.wrap (x52 + 1)) z3E z1y z1d z1B z1j z1D z1C z1k z1u z1v z1i z2d
theorem Zhf (x50 : List Zz) x51 x52 b0 b1 z3E z3v z1y z3d z2A z1d z1B z1j z1D z1C z1k z1u z1v z1i z2W z2d ox50 z1L z1E z4m z2p z1Y z1S (z2Z : ZW z1L = true) (z2P : ZW z1E = true) (z4v : ZW z2p = true) : Sim Z4U (Z6d x50 x51 x52 z3E z1y z1d z1B z1j z1D z1C z1k z1u z1v z1i z2d) (ZsF 0 (.ptr 0 0) (.ptr 1 0) (.ptr 2 0) (.ptr 3 0) (ZP ox50 (x50.map Z3u)) (iv x51) (iv x52) [(Z1r b0 z1L z1E), (Z2a b1), (ZS z3E z3v z1y z3d z2A z1d z1B z4m z2p), (Zb9 z1j z1D z1C z1k z1u z1v z1i z2W z2d z1Y z1S)]) := by
 unfold Z6d
 refine zf (ZEB ..)<|ze<|zq ?_
 exact zk (ZiH x50 x51 (IntKind.i64.wrap (x52 + 1)) b0 b1 z3E z3v z1y z3d z2A z1d z1B z1j z1D z1C z1k z1u z1v z1i z2W z2d ox50 z1L z1E z4m z2p z1Y z1S z2Z z2P z4v)
def Za8 (x50 : List Zz) (x51 x52 : Int) (z3E : List Int) (z1y z1d z1B z1j z1D z1C z1k z1u : Int) (z1v : List Zi) (z1i : List Zj) (z2d : Bool) : Option (Z1M × Z1n) :=
 (lget x50 x52).bind fun a1 =>
 if (decide (z1y < a1.group)) = true then
 ((Z1A 26 a1.at_ z3E z1d z1B).bind fun r2 =>
 Z6d x50 x51 x52 z3E z1y r2.2.1 r2.2.2 z1j z1D z1C z1k z1u z1v z1i z2d)
 else
 (Z6d x50 x51 x52 z3E z1y z1d z1B z1j z1D z1C z1k z1u z1v z1i z2d)
theorem Zoa (x50 : List Zz) x51 x52 b0 b1 z3E z3v z1y z3d z2A z1d z1B z1j z1D z1C z1k z1u z1v z1i z2W z2d ox50 z1L z1E z4m z2p z1Y z1S (z2Z : ZW z1L = true) (z2P : ZW z1E = true) (z4v : ZW z2p = true) : Sim Z4U (Za8 x50 x51 x52 z3E z1y z1d z1B z1j z1D z1C z1k z1u z1v z1i z2d) (ZxT 0 (.ptr 0 0) (.ptr 1 0) (.ptr 2 0) (.ptr 3 0) (ZP ox50 (x50.map Z3u)) (iv x51) (iv x52) [(Z1r b0 z1L z1E), (Z2a b1), (ZS z3E z3v z1y z3d z2A z1d z1B z4m z2p), (Zb9 z1j z1D z1C z1k z1u z1v z1i z2W z2d z1Y z1S)]) := by
 unfold Za8
 refine zf (ZEA ..)<|ze<|zi fun a1 ha1 => zp (.cptr (Zh2 a1)) (et_ (Z45 (o := ox50) (k := .i64) (n := 2) (e := Z3u) (cs := Zdh) (fun _ => rfl) (fun _ => rfl) (by decide) ha1))<|zq<|zz (.ptr 4 0) [(Z1r b0 z1L z1E), (Z2a b1), (ZS z3E z3v z1y z3d z2A z1d z1B z4m z2p), (Zb9 z1j z1D z1C z1k z1u z1v z1i z2W z2d z1Y z1S), (Zh7 (Zz.mk 0 0))]<|zt [(Z1r b0 z1L z1E), (Z2a b1), (ZS z3E z3v z1y z3d z2A z1d z1B z4m z2p), (Zb9 z1j z1D z1C z1k z1u z1v z1i z2W z2d z1Y z1S), (Zh7 a1)]<|ze<|zq<|zq<|zq<|zq<|zq<|zq ?_
 refine za (decide (z1y < a1.group)) ?_ ?_
 ·refine ze<|zq<|zq<|zi fun r2 hr2 => ?_
  obtain ⟨_, er2, _, rfl⟩ := Z1F 26 a1.at_ z3E z3v z1y z3d z2A z1d z1B z4m z2p z4v r2 hr2
  refine zc [2] (.p (.tup [])) [(Z1r b0 z1L z1E), (Z2a b1), (ZS z3E r2.1 z1y z3d z2A r2.2.1 r2.2.2 z4m z2p), (Zb9 z1j z1D z1C z1k z1u z1v z1i z2W z2d z1Y z1S), (Zh7 a1)] er2 ?_
  exact zk (Zhf x50 x51 x52 b0 b1 z3E r2.1 z1y z3d z2A r2.2.1 r2.2.2 z1j z1D z1C z1k z1u z1v z1i z2W z2d ox50 z1L z1E z4m z2p z1Y z1S z2Z z2P z4v)
 ·exact zk (Zhf x50 x51 x52 b0 b1 z3E z3v z1y z3d z2A z1d z1B z1j z1D z1C z1k z1u z1v z1i z2W z2d ox50 z1L z1E z4m z2p z1Y z1S z2Z z2P z4v)
def Zfn (z1y z1j z1D z1C z1k z1u : Int) (z1v : List Zi) (z1i : List Zj) (z2d : Bool) : Option (Z1M × Z1n) :=
 some ((Z1M.mk (Zj.mk z1j z1D z1C z1k z1u z1v z1i) z1y z2d), (Z1n.mk 0 0))
theorem Zoc b0 b1 z3E z3v z1y z3d z2A z1d z1B z1j z1D z1C z1k z1u z1v z1i z2W z2d z1L z1E z4m z2p z1Y z1S (z2Z : ZW z1L = true) (z2P : ZW z1E = true) (z4v : ZW z2p = true) : Sim Z4U (Zfn z1y z1j z1D z1C z1k z1u z1v z1i z2d) (ZxV 0 (.ptr 0 0) (.ptr 1 0) (.ptr 2 0) (.ptr 3 0) [(Z1r b0 z1L z1E), (Z2a b1), (ZS z3E z3v z1y z3d z2A z1d z1B z4m z2p), (Zb9 z1j z1D z1C z1k z1u z1v z1i z2W z2d z1Y z1S)]) := by
 unfold Zfn
 refine zf (ZED ..)<|ze<|zq<|zq<|zq<|zq<|zt [(Z1r b0 z1L z1E), (Z2a b1), (ZS z3E z3v z1y z3d z2A z1d z1B z4m z2p), (Zb9 z1j z1D z1C z1k z1u z1v z1i z1y z2d z1Y z1S)]<|ze<|zq<|zq<|zt [(Zb9 z1j z1D z1C z1k z1u z1v z1i z1y z2d (shrO z1Y) (shrO z1S)), (Z2a b1), (ZS z3E z3v z1y z3d z2A z1d z1B z4m z2p), (Zb9 z1j z1D z1C z1k z1u z1v z1i z1y z2d z1Y z1S)]<|zt [(Zb9 z1j z1D z1C z1k z1u z1v z1i z1y z2d (shrO z1Y) (shrO z1S)), (Z2a Ziw), (ZS z3E z3v z1y z3d z2A z1d z1B z4m z2p), (Zb9 z1j z1D z1C z1k z1u z1v z1i z1y z2d z1Y z1S)] ?_
 exact zr ((.p (.tup [(.agg (Z43 (Z1M.mk (Zj.mk z1j z1D z1C z1k z1u z1v z1i) z1y z2d) .sh .sh)), (.agg (Z6a Ziw))])), [(Zb9 z1j z1D z1C z1k z1u z1v z1i z1y z2d (shrO z1Y) (shrO z1S)), (Z2a Ziw), (ZS z3E z3v z1y z3d z2A z1d z1B z4m z2p), (Zb9 z1j z1D z1C z1k z1u z1v z1i z1y z2d z1Y z1S)]) ⟨_, rfl⟩
def Za9 (z1y z1d z1B z1j z1D z1C z1k z1u : Int) (z1v : List Zi) (z1i : List Zj) (z2d : Bool) : Option (Z1M × Z1n) :=
 if (z1d != 0) = true then
 (some ((Z1M.mk (Zj.mk 0 0 0 0 0 ([] : List Zi) ([] : List Zj)) 0 false), (Z1n.mk z1d z1B)))
 else
 (Zfn z1y z1j z1D z1C z1k z1u z1v z1i z2d)
theorem Zob b0 b1 z3E z3v z1y z3d z2A z1d z1B z1j z1D z1C z1k z1u z1v z1i z2W z2d z1L z1E z4m z2p z1Y z1S (z2Z : ZW z1L = true) (z2P : ZW z1E = true) (z4v : ZW z2p = true) : Sim Z4U (Za9 z1y z1d z1B z1j z1D z1C z1k z1u z1v z1i z2d) (ZxU 0 (.ptr 0 0) (.ptr 1 0) (.ptr 2 0) (.ptr 3 0) [(Z1r b0 z1L z1E), (Z2a b1), (ZS z3E z3v z1y z3d z2A z1d z1B z4m z2p), (Zb9 z1j z1D z1C z1k z1u z1v z1i z2W z2d z1Y z1S)]) := by
 unfold Za9
 refine zf (ZEC ..)<|ze<|zq<|zq<|zq<|zq<|zq ?_
 refine za (z1d != 0) ?_ ?_
 ·refine ze<|zq<|zq<|zq<|zq<|zt [(Z1r ZfO .nl .nl), (Z2a b1), (ZS z3E z3v z1y z3d z2A z1d z1B z4m z2p), (Zb9 z1j z1D z1C z1k z1u z1v z1i z2W z2d z1Y z1S)]<|zt [(Z1r ZfO .nl .nl), (Z2a (Z1n.mk z1d z1B)), (ZS z3E z3v z1y z3d z2A z1d z1B z4m z2p), (Zb9 z1j z1D z1C z1k z1u z1v z1i z2W z2d z1Y z1S)]<|zg ?_
  exact zr ((.p (.tup [(.agg (Z43 ZfO .sh .sh)), (.agg (Z6a (Z1n.mk z1d z1B)))])), [(Z1r ZfO .nl .nl), (Z2a (Z1n.mk z1d z1B)), (ZS z3E z3v z1y z3d z2A z1d z1B z4m z2p), (Zb9 z1j z1D z1C z1k z1u z1v z1i z2W z2d z1Y z1S)]) ⟨_, rfl⟩
 ·exact zk (Zoc b0 b1 z3E z3v z1y z3d z2A z1d z1B z1j z1D z1C z1k z1u z1v z1i z2W z2d z1L z1E z4m z2p z1Y z1S z2Z z2P z4v)
def Z7Z (x50 : List Zz) (x51 x52 : Int) (z3E : List Int) (z1y z1d z1B z1j z1D z1C z1k z1u : Int) (z1v : List Zi) (z1i : List Zj) (z2d : Bool) : Option (Z1M × Z1n) :=
 if (decide (x52 < x51)) = true then
 (Za8 x50 x51 x52 z3E z1y z1d z1B z1j z1D z1C z1k z1u z1v z1i z2d)
 else
 (Za9 z1y z1d z1B z1j z1D z1C z1k z1u z1v z1i z2d)
theorem Zpi (x50 : List Zz) x51 x52 b0 b1 z3E z3v z1y z3d z2A z1d z1B z1j z1D z1C z1k z1u z1v z1i z2W z2d ox50 z1L z1E z4m z2p z1Y z1S (z2Z : ZW z1L = true) (z2P : ZW z1E = true) (z4v : ZW z2p = true) : Sim Z4U (Z7Z x50 x51 x52 z3E z1y z1d z1B z1j z1D z1C z1k z1u z1v z1i z2d) (Zr4 0 (.ptr 0 0) (.ptr 1 0) (.ptr 2 0) (.ptr 3 0) (ZP ox50 (x50.map Z3u)) (iv x51) (iv x52) [(Z1r b0 z1L z1E), (Z2a b1), (ZS z3E z3v z1y z3d z2A z1d z1B z4m z2p), (Zb9 z1j z1D z1C z1k z1u z1v z1i z2W z2d z1Y z1S)]) := by
 unfold Z7Z
 refine zf (ZGs ..)<|ze<|zq ?_
 refine za (decide (x52 < x51)) ?_ ?_
 ·exact zk (Zoa x50 x51 x52 b0 b1 z3E z3v z1y z3d z2A z1d z1B z1j z1D z1C z1k z1u z1v z1i z2W z2d ox50 z1L z1E z4m z2p z1Y z1S z2Z z2P z4v)
 ·exact zk (Zob b0 b1 z3E z3v z1y z3d z2A z1d z1B z1j z1D z1C z1k z1u z1v z1i z2W z2d z1L z1E z4m z2p z1Y z1S z2Z z2P z4v)
theorem Zbu x50 x51 x52 z3E z1y z1d z1B z1j z1D z1C z1k z1u z1v z1i z2d {r} (h : Z7Z x50 x51 x52 z3E z1y z1d z1B z1j z1D z1C z1k z1u z1v z1i z2d = some r) : Z9n x50 x51 x52 z3E z1y z1d z1B z1j z1D z1C z1k z1u z1v z1i z2d = some r :=
 Z1g (fun _ _ ha hb => ru_ ZmH (ha default default default default default default .ex .ex .ex .ex .ex .ex .ex rfl rfl rfl) (hb default default default default default default .ex .ex .ex .ex .ex .ex .ex rfl rfl rfl)) (fun b0 b1 z3v z3d z2A z2W ox50 z1L z1E z4m z2p z1Y z1S z2Z z2P z4v => Zpi x50 x51 x52 b0 b1 z3E z3v z1y z3d z2A z1d z1B z1j z1D z1C z1k z1u z1v z1i z2W z2d ox50 z1L z1E z4m z2p z1Y z1S z2Z z2P z4v r h)
def Z9z (zn : Int) : Option (Bool × Int) :=
 some (false, zn)
theorem Zdz zl zn z7 zd zh z2 z6 zu zb (zy : ZW zb = true) : Sim (Z7I zl z7 zd zh z2 z6 zu zb) (Z9z zn) (Zvb 1 [(ZS zl zn z7 zd zh z2 z6 zu zb)]) := by
 unfold Z9z
 refine zf (ZGA ..)<|ze ?_
 exact zr ((bv false), [(ZS zl zn z7 zd zh z2 z6 zu zb)]) ⟨_, rfl⟩
def Z9A (x1 : ByteArray) (zn : Int) : Option (Bool × Int) :=
 some (true, (IntKind.i64.wrap (zn + (x1.size : Int))))
theorem Zkx x1 zl zn z7 zd zh z2 z6 zu zb (zy : ZW zb = true) : Sim (Z7I zl z7 zd zh z2 z6 zu zb) (Z9A x1 zn) (ZzI 1 (.ptr 0 0) (.p (.v (.string x1))) [(ZS zl zn z7 zd zh z2 z6 zu zb)]) := by
 unfold Z9A
 refine zf (ZGB ..)<|ze<|zq<|zq<|zq<|zq<|zq<|zq<|zq<|zt [(ZS zl (IntKind.i64.wrap (zn + (x1.size : Int))) z7 zd zh z2 z6 zu zb)]<|ze ?_
 exact zr ((bv true), [(ZS zl (IntKind.i64.wrap (zn + (x1.size : Int))) z7 zd zh z2 z6 zu zb)]) ⟨_, rfl⟩
def Zbk (x1 : ByteArray) (zl : List Int) (zn : Int) : Option (Bool × Int) :=
 if ((decide ((IntKind.i64.wrap ((zl.length : Int) - zn)) < (x1.size : Int)))) = true then
 (Z9z zn)
 else
 ((lsl zl zn (IntKind.i64.wrap (zn + (x1.size : Int)))).bind fun a1 =>
 if (!(seq (strI a1) x1)) = true then
 (Z9z zn)
 else
 (Z9A x1 zn))
theorem Zmv x1 zl zn z7 zd zh z2 z6 zu zb (zy : ZW zb = true) : Sim (Z7I zl z7 zd zh z2 z6 zu zb) (Zbk x1 zl zn) (EE 68 [(.ptr 0 0), (.p (.v (.string x1)))] [(ZS zl zn z7 zd zh z2 z6 zu zb)]) := by
 unfold Zbk
 refine zf (ZMt ..)<|ze<|ze<|zq<|zq<|zq<|zp (iv (zl.length : Int)) (et_ (Z32 (P := PP) (t := 141) (d := 5) (by kernel_rfl) (eI .u8) (shrO zu) zl))<|zq<|zq<|zq<|zq<|zq<|zq ?_
 refine za ((decide ((IntKind.i64.wrap ((zl.length : Int) - zn)) < (x1.size : Int)))) ?_ ?_
 ·exact zk (Zdz zl zn z7 zd zh z2 z6 zu zb zy)
 ·refine zq<|zq<|zq<|zq<|zq<|zq<|zq<|zq<|zq<|zq<|zq<|zi fun a1 ha1 => zp (ZP (slO (shrO zu)) (a1.map (eI .u8))) (Eq.trans (by kernel_rfl) <| ZHT (n := 1) (o := (shrO zu)) (lo := (some (iv zn))) (hi := (some (iv (IntKind.i64.wrap (zn + (x1.size : Int)))))) (e := (eI .u8)) (fun _ => rfl) (by decide) (by kernel_rfl) (by kernel_rfl) ha1)<|zp (.p (.v (.string (strI a1)))) (et_ (ZJ2 (P := PP) (s := 141) (d := 9) (by kernel_rfl) (slO (shrO zu)) a1))<|zq ?_
  refine za (!(seq (strI a1) x1)) ?_ ?_
  ·exact zk (Zdz zl zn z7 zd zh z2 z6 zu zb zy)
  ·exact zk (Zkx x1 zl zn z7 zd zh z2 z6 zu zb zy)
theorem Zng x1 zl zn {r} (h : Zbk x1 zl zn = some r) : Z2j x1 zl zn = some r :=
 Z1g (fun _ _ ha hb => ru_ (ZnC _ _ _ _ _ _ _ _) (ha default default default default default .ex .ex rfl) (hb default default default default default .ex .ex rfl)) (fun z7 zd zh z2 z6 zu zb zy => Zmv x1 zl zn z7 zd zh z2 z6 zu zb zy r h)
def Z89 (zl : List Int) (zn z7 zd : Int) (zh : List Zz) (z2 z6 : Int) : Option (Zj × Int × Int × Int × (List Zz) × Int × Int) :=
 (Z8l zl zn z7 zd zh z2 z6).bind fun r1 =>
 Z6F ([r1.1] : List Zj) zl r1.2.1 r1.2.2.1 r1.2.2.2.1 r1.2.2.2.2.1 r1.2.2.2.2.2.1 r1.2.2.2.2.2.2
theorem Zna zl zn z7 zd zh z2 z6 zu zb (zy : ZW zb = true) : Sim (Z37 zl zu) (Z89 zl zn z7 zd zh z2 z6) (EE 69 [(.ptr 0 0)] [(ZS zl zn z7 zd zh z2 z6 zu zb)]) := by
 unfold Z89
 refine zf (ZMv ..)<|ze<|zz (.ptr 1 0) [(ZS zl zn z7 zd zh z2 z6 zu zb), (Zv Z2g .nl .nl)]<|ze<|zi fun r1 hr1 => ?_
 obtain ⟨_, er1, z6c, _, zb8, rfl⟩ := Zhj zl zn z7 zd zh z2 z6 zu zb zy r1 hr1
 refine zc [0] (pA_ (ZN r1.1 .sh .sh)) [(ZS zl r1.2.1 r1.2.2.1 r1.2.2.2.1 r1.2.2.2.2.1 r1.2.2.2.2.2.1 r1.2.2.2.2.2.2 zu z6c), (Zv Z2g .nl .nl)] er1<|zp (ZP .ex (([r1.1] : List Zj).map Z13)) (Eq.trans (b := some (ZP .ex [.agg (Z3D r1.1)])) (by kernel_rfl) (by simp only [Z8x, Zm4, Z5O])) ?_
 exact zk (Zec ([r1.1] : List Zj) zl r1.2.1 r1.2.2.1 r1.2.2.2.1 r1.2.2.2.2.1 r1.2.2.2.2.2.1 r1.2.2.2.2.2.2 Z2g .ex zu z6c .nl .nl rfl zb8 rfl rfl)
theorem Zhg zl zn z7 zd zh z2 z6 {r} (h : Z89 zl zn z7 zd zh z2 z6 = some r) : Z58 zl zn z7 zd zh z2 z6 = some r :=
 Z1g (fun _ _ ha hb => ru_ (Zal _ _) (ha .ex .ex rfl) (hb .ex .ex rfl)) (fun zu zb zy => Zna zl zn z7 zd zh z2 z6 zu zb zy r h)
def Z9X (x3 : List Zj) (zl : List Int) (zn z7 zd : Int) (zh : List Zz) (z2 z6 : Int) : Option (Zj × Int × Int × Int × (List Zz) × Int × Int) :=
 (Z8l zl zn z7 zd zh z2 z6).bind fun r1 =>
 (lapp x3 ([r1.1] : List Zj)).bind fun a2 =>
 Z6F a2 zl r1.2.1 r1.2.2.1 r1.2.2.2.1 r1.2.2.2.2.1 r1.2.2.2.2.2.1 r1.2.2.2.2.2.2
theorem ZkW (x3 : List Zj) zl zn z7 zd zh z2 z6 b1 ox3 zu zb zM zH (hox3 : ZW ox3 = true) (zy : ZW zb = true) (z1t : ZW zM = true) (z1f : ZW zH = true) : Sim (Z37 zl zu) (Z9X x3 zl zn z7 zd zh z2 z6) (ZzM 1 (.ptr 0 0) (.ptr 1 0) (ZP ox3 (x3.map Z13)) [(ZS zl zn z7 zd zh z2 z6 zu zb), (Zv b1 zM zH)]) := by
 unfold Z9X
 refine zf (ZGD ..)<|ze<|zi fun r1 hr1 => ?_
 obtain ⟨_, er1, z6c, _, zb8, rfl⟩ := Zhj zl zn z7 zd zh z2 z6 zu zb zy r1 hr1
 refine zc [0] (pA_ (ZN r1.1 .sh .sh)) [(ZS zl r1.2.1 r1.2.2.1 r1.2.2.2.1 r1.2.2.2.2.1 r1.2.2.2.2.2.1 r1.2.2.2.2.2.2 zu z6c), (Zv b1 zM zH)] er1<|zp (ZP .ex (([r1.1] : List Zj).map Z13)) (Eq.trans (b := some (ZP .ex [.agg (Z3D r1.1)])) (by kernel_rfl) (by simp only [Z8x, Zm4, Z5O]))<|zi fun a2 ha2 => zp (ZP .un (a2.map Z13)) (Eq.trans (by kernel_rfl) <| Zhr (n := 7) (o := ox3) (o' := .ex) (e := Z13) (ys := ([r1.1] : List Zj)) ZoA (by decide) hox3 ha2) ?_
 exact zk (Zec a2 zl r1.2.1 r1.2.2.1 r1.2.2.2.1 r1.2.2.2.2.1 r1.2.2.2.2.2.1 r1.2.2.2.2.2.2 b1 .un zu z6c zM zH rfl zb8 z1t z1f)
def Z8a (x3 : List Zj) (zn z7 zd : Int) (zh : List Zz) (z2 z6 : Int) : Option (Zj × Int × Int × Int × (List Zz) × Int × Int) :=
 (ZcI 3 x3).bind fun r1 =>
 some (r1, zn, z7, zd, zh, z2, z6)
theorem ZkX (x3 : List Zj) zl zn z7 zd zh z2 z6 b1 ox3 zu zb zM zH (hox3 : ZW ox3 = true) (zy : ZW zb = true) (z1t : ZW zM = true) (z1f : ZW zH = true) : Sim (Z37 zl zu) (Z8a x3 zn z7 zd zh z2 z6) (ZzN 1 (.ptr 1 0) (ZP ox3 (x3.map Z13)) [(ZS zl zn z7 zd zh z2 z6 zu zb), (Zv b1 zM zH)]) := by
 unfold Z8a
 refine zf (ZGE ..)<|ze<|zi fun r1 hr1 => ?_
 obtain ⟨_, er1, _, rfl⟩ := ZkJ 3 x3 .sh r1 hr1
 refine zc [] (pA_ (ZN r1 .sh .sh)) [(ZS zl zn z7 zd zh z2 z6 zu zb), (Zv b1 zM zH)] er1<|zt [(ZS zl zn z7 zd zh z2 z6 zu zb), (Zv r1 .sh .sh)] ?_
 exact zr ((pA_ (ZN r1 .sh .sh)), [(ZS zl zn z7 zd zh z2 z6 zu zb), (Zv r1 .sh .sh)]) ⟨zb, _, zy, rfl⟩
def Z6B (x3 : List Zj) (zl : List Int) (zn z7 zd : Int) (zh : List Zz) (z2 z6 : Int) : Option (Zj × Int × Int × Int × (List Zz) × Int × Int) :=
 (Z2j (ByteArray.mk #[124]) zl zn).bind fun r1 =>
 if r1.1 = true then
 (Z9X x3 zl r1.2 z7 zd zh z2 z6)
 else
 (Z8a x3 r1.2 z7 zd zh z2 z6)
theorem ZkV (x3 : List Zj) zl zn z7 zd zh z2 z6 b1 ox3 zu zb zM zH (hox3 : ZW ox3 = true) (zy : ZW zb = true) (z1t : ZW zM = true) (z1f : ZW zH = true) : Sim (Z37 zl zu) (Z6B x3 zl zn z7 zd zh z2 z6) (Zr6 1 (.ptr 0 0) (.ptr 1 0) (ZP ox3 (x3.map Z13)) [(ZS zl zn z7 zd zh z2 z6 zu zb), (Zv b1 zM zH)]) := by
 unfold Z6B
 refine zf (ZGC ..)<|ze<|zi fun r1 hr1 => ?_
 obtain ⟨_, er1, _, rfl⟩ := Z2u (ByteArray.mk #[124]) zl zn z7 zd zh z2 z6 zu zb zy r1 hr1
 refine zc [0] (bv r1.1) [(ZS zl r1.2 z7 zd zh z2 z6 zu zb), (Zv b1 zM zH)] er1 ?_
 refine za r1.1 ?_ ?_
 ·exact zk (ZkW x3 zl r1.2 z7 zd zh z2 z6 b1 ox3 zu zb zM zH hox3 zy z1t z1f)
 ·exact zk (ZkX x3 zl r1.2 z7 zd zh z2 z6 b1 ox3 zu zb zM zH hox3 zy z1t z1f)
theorem Zeb x3 zl zn z7 zd zh z2 z6 {r} (h : Z6B x3 zl zn z7 zd zh z2 z6 = some r) : Z6F x3 zl zn z7 zd zh z2 z6 = some r :=
 Z1g (fun _ _ ha hb => ru_ (Zal _ _) (ha default .ex .ex .ex .ex .ex rfl rfl rfl rfl) (hb default .ex .ex .ex .ex .ex rfl rfl rfl rfl)) (fun b1 ox3 zu zb zM zH hox3 zy z1t z1f => ZkV x3 zl zn z7 zd zh z2 z6 b1 ox3 zu zb zM zH hox3 zy z1t z1f r h)
def Z9H (zl : List Int) (zn z7 zd : Int) (zh : List Zz) (z2 z6 : Int) : Option (Zj × Int × Int × Int × (List Zz) × Int × Int) :=
 Z6G ([] : List Zj) zl zn z7 zd zh z2 z6
theorem Znd zl zn z7 zd zh z2 z6 zu zb (zy : ZW zb = true) : Sim (Z37 zl zu) (Z9H zl zn z7 zd zh z2 z6) (EE 91 [(.ptr 0 0)] [(ZS zl zn z7 zd zh z2 z6 zu zb)]) := by
 unfold Z9H
 refine zf (ZML ..)<|ze<|zz (.ptr 1 0) [(ZS zl zn z7 zd zh z2 z6 zu zb), (Zv Z2g .nl .nl)]<|ze ?_
 exact zk (Zee ([] : List Zj) zl zn z7 zd zh z2 z6 Z2g .nl zu zb .nl .nl rfl zy rfl rfl)
theorem Zhi zl zn z7 zd zh z2 z6 {r} (h : Z9H zl zn z7 zd zh z2 z6 = some r) : Z8l zl zn z7 zd zh z2 z6 = some r :=
 Z1g (fun _ _ ha hb => ru_ (Zal _ _) (ha .ex .ex rfl) (hb .ex .ex rfl)) (fun zu zb zy => Znd zl zn z7 zd zh z2 z6 zu zb zy r h)
def Z4b (x3 : List Zj) (zn z7 zd : Int) (zh : List Zz) (z2 z6 : Int) : Option (Zj × Int × Int × Int × (List Zz) × Int × Int) :=
 (ZcI 2 x3).bind fun r1 =>
 some (r1, zn, z7, zd, zh, z2, z6)
theorem Z8r (x3 : List Zj) zl zn z7 zd zh z2 z6 b1 ox3 zu zb zM zH (hox3 : ZW ox3 = true) (zy : ZW zb = true) (z1t : ZW zM = true) (z1f : ZW zH = true) : Sim (Z37 zl zu) (Z4b x3 zn z7 zd zh z2 z6) (Zo3 1 (.ptr 1 0) (ZP ox3 (x3.map Z13)) [(ZS zl zn z7 zd zh z2 z6 zu zb), (Zv b1 zM zH)]) := by
 unfold Z4b
 refine zf (ZH0 ..)<|ze<|zi fun r1 hr1 => ?_
 obtain ⟨_, er1, _, rfl⟩ := ZkJ 2 x3 .sh r1 hr1
 refine zc [] (pA_ (ZN r1 .sh .sh)) [(ZS zl zn z7 zd zh z2 z6 zu zb), (Zv b1 zM zH)] er1<|zt [(ZS zl zn z7 zd zh z2 z6 zu zb), (Zv r1 .sh .sh)] ?_
 exact zr ((pA_ (ZN r1 .sh .sh)), [(ZS zl zn z7 zd zh z2 z6 zu zb), (Zv r1 .sh .sh)]) ⟨zb, _, zy, rfl⟩
def Z5z (x3 : List Zj) (zl : List Int) (zn z7 zd : Int) (zh : List Zz) (z2 z6 : Int) : Option (Zj × Int × Int × Int × (List Zz) × Int × Int) :=
 (Zbv zl zn z7 zd zh z2 z6).bind fun r1 =>
 (Z8n r1.1 r1.2.1 zl r1.2.2.1 r1.2.2.2.1 r1.2.2.2.2.1 r1.2.2.2.2.2.1 r1.2.2.2.2.2.2.1 r1.2.2.2.2.2.2.2).bind fun r2 =>
 (lapp x3 ([r2.1] : List Zj)).bind fun a3 =>
 Z6G a3 zl r2.2.1 r1.2.2.2.1 r1.2.2.2.2.1 r1.2.2.2.2.2.1 r2.2.2.1 r2.2.2.2
theorem Zau (x3 : List Zj) zl zn z7 zd zh z2 z6 b1 ox3 zu zb zM zH (hox3 : ZW ox3 = true) (zy : ZW zb = true) (z1t : ZW zM = true) (z1f : ZW zH = true) : Sim (Z37 zl zu) (Z5z x3 zl zn z7 zd zh z2 z6) (Zrh 1 (.ptr 0 0) (.ptr 1 0) (ZP ox3 (x3.map Z13)) [(ZS zl zn z7 zd zh z2 z6 zu zb), (Zv b1 zM zH)]) := by
 unfold Z5z
 refine zf (ZGZ ..)<|ze<|zi fun r1 hr1 => ?_
 obtain ⟨_, er1, z6c, _, zb8, rfl⟩ := Znc zl zn z7 zd zh z2 z6 zu zb zy r1 hr1
 refine zc [0] (.p (.tup [(.agg (ZN r1.1 .sh .sh)), (.v (.bool r1.2.1))])) [(ZS zl r1.2.2.1 r1.2.2.2.1 r1.2.2.2.2.1 r1.2.2.2.2.2.1 r1.2.2.2.2.2.2.1 r1.2.2.2.2.2.2.2 zu z6c), (Zv b1 zM zH)] er1<|zq<|zq<|zz (.ptr 2 0) [(ZS zl r1.2.2.1 r1.2.2.2.1 r1.2.2.2.2.1 r1.2.2.2.2.2.1 r1.2.2.2.2.2.2.1 r1.2.2.2.2.2.2.2 zu z6c), (Zv b1 zM zH), (Zv Z2g .nl .nl)]<|zt [(ZS zl r1.2.2.1 r1.2.2.2.1 r1.2.2.2.2.1 r1.2.2.2.2.2.1 r1.2.2.2.2.2.2.1 r1.2.2.2.2.2.2.2 zu z6c), (Zv b1 zM zH), (Zv r1.1 .sh .sh)]<|ze<|zq<|zi fun r2 hr2 => ?_
 obtain ⟨_, er2, _, rfl⟩ := ZlR r1.1 r1.2.1 zl r1.2.2.1 r1.2.2.2.1 r1.2.2.2.2.1 r1.2.2.2.2.2.1 r1.2.2.2.2.2.2.1 r1.2.2.2.2.2.2.2 .sh .sh zu z6c zb8 r2 hr2
 refine zc [0] (pA_ (ZN r2.1 .sh .sh)) [(ZS zl r2.2.1 r1.2.2.2.1 r1.2.2.2.2.1 r1.2.2.2.2.2.1 r2.2.2.1 r2.2.2.2 zu z6c), (Zv b1 zM zH), (Zv r1.1 .sh .sh)] er2<|zp (ZP .ex (([r2.1] : List Zj).map Z13)) (Eq.trans (b := some (ZP .ex [.agg (Z3D r2.1)])) (by kernel_rfl) (by simp only [Z8x, Zm4, Z5O]))<|zi fun a3 ha3 => zp (ZP .un (a3.map Z13)) (Eq.trans (by kernel_rfl) <| Zhr (n := 7) (o := ox3) (o' := .ex) (e := Z13) (ys := ([r2.1] : List Zj)) ZoA (by decide) hox3 ha3) ?_
 exact zk (Zee a3 zl r2.2.1 r1.2.2.2.1 r1.2.2.2.2.1 r1.2.2.2.2.2.1 r2.2.2.1 r2.2.2.2 b1 .un zu z6c zM zH rfl zb8 z1t z1f)
def Z8c (x3 : List Zj) (zl : List Int) (zn z7 zd : Int) (zh : List Zz) (z2 z6 : Int) : Option (Zj × Int × Int × Int × (List Zz) × Int × Int) :=
 (Z3h (Z2c.mk zl zn z7 zd zh (Z1n.mk z2 z6))).bind fun r1 =>
 if (r1 == (-1)) = true then
 (if (r1 == (-1)) = true then
 (Z4b x3 zn z7 zd zh z2 z6)
 else
 (Z5z x3 zl zn z7 zd zh z2 z6))
 else
 (if (r1 == 124) = true then
 (if (r1 == 124) = true then
 (Z4b x3 zn z7 zd zh z2 z6)
 else
 (Z5z x3 zl zn z7 zd zh z2 z6))
 else
 (if (r1 == 41) = true then
 (Z4b x3 zn z7 zd zh z2 z6)
 else
 (Z5z x3 zl zn z7 zd zh z2 z6)))
theorem ZkZ (x3 : List Zj) zl zn z7 zd zh z2 z6 b1 ox3 zu zb zM zH (hox3 : ZW ox3 = true) (zy : ZW zb = true) (z1t : ZW zM = true) (z1f : ZW zH = true) : Sim (Z37 zl zu) (Z8c x3 zl zn z7 zd zh z2 z6) (ZA6 1 (.ptr 0 0) (.ptr 1 0) (ZP ox3 (x3.map Z13)) [(ZS zl zn z7 zd zh z2 z6 zu zb), (Zv b1 zM zH)]) := by
 unfold Z8c
 refine zf (ZGY ..)<|ze<|zi fun r1 hr1 => ?_
 obtain ⟨_, er1, _, rfl⟩ := Z3q (Z2c.mk zl zn z7 zd zh (Z1n.mk z2 z6)) zu zb zy r1 hr1
 refine zc [0] (iv r1) [(ZS zl zn z7 zd zh z2 z6 zu zb), (Zv b1 zM zH)] er1<|ze<|zq ?_
 refine za (r1 == (-1)) ?_ ?_
 ·refine za (r1 == (-1)) ?_ ?_
  ·exact zk (Z8r x3 zl zn z7 zd zh z2 z6 b1 ox3 zu zb zM zH hox3 zy z1t z1f)
  ·exact zk (Zau x3 zl zn z7 zd zh z2 z6 b1 ox3 zu zb zM zH hox3 zy z1t z1f)
 ·refine ze<|zq ?_
  refine za (r1 == 124) ?_ ?_
  ·refine za (r1 == 124) ?_ ?_
   ·exact zk (Z8r x3 zl zn z7 zd zh z2 z6 b1 ox3 zu zb zM zH hox3 zy z1t z1f)
   ·exact zk (Zau x3 zl zn z7 zd zh z2 z6 b1 ox3 zu zb zM zH hox3 zy z1t z1f)
  ·refine ze<|zq ?_
   refine za (r1 == 41) ?_ ?_
   ·exact zk (Z8r x3 zl zn z7 zd zh z2 z6 b1 ox3 zu zb zM zH hox3 zy z1t z1f)
   ·exact zk (Zau x3 zl zn z7 zd zh z2 z6 b1 ox3 zu zb zM zH hox3 zy z1t z1f)
def Z8b (x3 : List Zj) (zl : List Int) (zn z7 zd : Int) (zh : List Zz) (z2 z6 : Int) : Option (Zj × Int × Int × Int × (List Zz) × Int × Int) :=
 if (z2 == 0) = true then
 (Z8c x3 zl zn z7 zd zh z2 z6)
 else
 (Z4b x3 zn z7 zd zh z2 z6)
theorem ZkY (x3 : List Zj) zl zn z7 zd zh z2 z6 b1 ox3 zu zb zM zH (hox3 : ZW ox3 = true) (zy : ZW zb = true) (z1t : ZW zM = true) (z1f : ZW zH = true) : Sim (Z37 zl zu) (Z8b x3 zl zn z7 zd zh z2 z6) (Zrg 1 (.ptr 0 0) (.ptr 1 0) (ZP ox3 (x3.map Z13)) [(ZS zl zn z7 zd zh z2 z6 zu zb), (Zv b1 zM zH)]) := by
 unfold Z8b
 refine zf (ZGX ..)<|ze<|zq<|zq<|zq<|zq<|zq ?_
 refine za (z2 == 0) ?_ ?_
 ·exact zk (ZkZ x3 zl zn z7 zd zh z2 z6 b1 ox3 zu zb zM zH hox3 zy z1t z1f)
 ·exact zk (Z8r x3 zl zn z7 zd zh z2 z6 b1 ox3 zu zb zM zH hox3 zy z1t z1f)
theorem Zed x3 zl zn z7 zd zh z2 z6 {r} (h : Z8b x3 zl zn z7 zd zh z2 z6 = some r) : Z6G x3 zl zn z7 zd zh z2 z6 = some r :=
 Z1g (fun _ _ ha hb => ru_ (Zal _ _) (ha default .ex .ex .ex .ex .ex rfl rfl rfl rfl) (hb default .ex .ex .ex .ex .ex rfl rfl rfl rfl)) (fun b1 ox3 zu zb zM zH hox3 zy z1t z1f => ZkY x3 zl zn z7 zd zh z2 z6 b1 ox3 zu zb zM zH hox3 zy z1t z1f r h)
def Z9y (b0 : Z2c) : Option Int :=
 (Zgl b0.b b0.at_).bind fun r1 =>
 some r1.1
theorem Zkw b0 zu zb (zy : ZW zb = true) : Sim (Z97 b0 zu zb) (Z9y b0) (Zwa 1 (.ptr 0 0) [(Z4F b0 zu zb)]) := by
 unfold Z9y
 refine zf (ZDd ..)<|ze<|zq<|zq<|zq<|zq<|zq<|zq<|zi fun r1 hr1 => ?_
 obtain ⟨_, er1, _, rfl⟩ := Zou b0.b b0.at_ .sh r1 hr1
 refine zc [] (.p (.tup [(.v (.int .i64 r1.1)), (.v (.int .i64 r1.2))])) [(Z4F b0 zu zb)] er1<|zq<|zq<|ze ?_
 exact zr ((iv r1.1), [(Z4F b0 zu zb)]) ⟨_, rfl⟩
def Zbi (b0 : Z2c) : Option Int :=
 if (decide ((b0.b.length : Int) ≤ b0.at_)) = true then
 (some (-1))
 else
 (Z9y b0)
theorem Zms b0 zu zb (zy : ZW zb = true) : Sim (Z97 b0 zu zb) (Zbi b0) (EE 104 [(.ptr 0 0)] [(Z4F b0 zu zb)]) := by
 unfold Zbi
 refine zf (ZJw ..)<|ze<|ze<|zq<|zq<|zq<|zq<|zq<|zq<|zp (iv (b0.b.length : Int)) (et_ (Z32 (P := PP) (t := 141) (d := 5) (by kernel_rfl) (eI .u8) (shrO zu) b0.b))<|zq ?_
 refine za (decide ((b0.b.length : Int) ≤ b0.at_)) ?_ ?_
 ·refine ze ?_
  exact zr ((iv (-1)), [(Z4F b0 zu zb)]) ⟨_, rfl⟩
 ·exact zk (Zkw b0 zu zb zy)
theorem Zne b0 {r} (h : Zbi b0 = some r) : Z3h b0 = some r :=
 Z1g (fun _ _ ha hb => ru_ (ZnB _ _ _) (ha .ex .ex rfl) (hb .ex .ex rfl)) (fun zu zb zy => Zms b0 zu zb zy r h)
def ZeL : Option (Int × Int) :=
 some (0, 0)
theorem Zka : Sim Z3S ZeL (Zse 0 []) := by
 unfold ZeL
 refine zf (ZDo ..)<|ze ?_
 exact zr ((.p (.tup [(.v (.int .i64 0)), (.v (.int .i64 0))])), []) ⟨_, rfl⟩
def ZeN (x0 : List Int) (x1 : Int) : Option (Int × Int) :=
 (lget x0 x1).bind fun a1 =>
 some ((IntKind.i64.wrap (1114112 + (IntKind.i64.wrap a1))), 1)
theorem Zry (x0 : List Int) x1 ox0 : Sim Z3S (ZeN x0 x1) (Zws 0 (ZP ox0 (x0.map (eI .u8))) (iv x1) []) := by
 unfold ZeN
 refine zf (ZDq ..)<|ze<|zi fun a1 ha1 => zp (.cptr [(.v (.int .u8 a1))]) (et_ (Z45 (o := (shrO ox0)) (k := .i64) (n := 1) (e := (eI .u8)) (cs := (fun a => [(eI .u8) a])) (fun _ => rfl) (fun _ => rfl) (by decide) ha1))<|zq<|zq<|zq ?_
 exact zr ((.p (.tup [(.v (.int .i64 (IntKind.i64.wrap (1114112 + (IntKind.i64.wrap a1))))), (.v (.int .i64 1))])), []) ⟨_, rfl⟩
def ZaH (x6 x7 : Int) : Option (Int × Int) :=
 some ((IntKind.i64.wrap x6), x7)
theorem Zkb x6 x7 : Sim Z3S (ZaH x6 x7) (Zsf 0 (.p (.v (.int .i32 x6))) (iv x7) []) := by
 unfold ZaH
 refine zf (ZDr ..)<|ze<|zq ?_
 exact zr ((.p (.tup [(.v (.int .i64 (IntKind.i64.wrap x6))), (.v (.int .i64 x7))])), []) ⟨_, rfl⟩
def ZeM (x0 : List Int) (x1 : Int) : Option (Int × Int) :=
 (lsl x0 x1 (x0.length : Int)).bind fun a1 =>
 (Zaw a1).bind fun r2 =>
 if (r2.1 == 65533) = true then
 (if (r2.2 == 1) = true then
 (ZeN x0 x1)
 else
 (ZaH r2.1 r2.2))
 else
 (ZaH r2.1 r2.2)
theorem Zrx (x0 : List Int) x1 ox0 : Sim Z3S (ZeM x0 x1) (Zwr 0 (ZP ox0 (x0.map (eI .u8))) (iv x1) []) := by
 unfold ZeM
 refine zf (ZDp ..)<|ze<|zi fun a1 ha1 => zp (ZP (slO (shrO ox0)) (a1.map (eI .u8))) (Eq.trans (by kernel_rfl) <| ZHT (n := 1) (o := (shrO ox0)) (lo := (some (iv x1))) (hi := none) (e := (eI .u8)) (fun _ => rfl) (by decide) (by kernel_rfl) (by kernel_rfl) ha1)<|zi fun r2 hr2 => ?_
 obtain ⟨_, er2, _, rfl⟩ := Zjk a1 .sh r2 hr2
 refine zc [] (.p (.tup [(.v (.int .i32 r2.1)), (.v (.int .i64 r2.2))])) [] er2<|zq<|zq<|ze<|zq ?_
 refine za (r2.1 == 65533) ?_ ?_
 ·refine zq ?_
  refine za (r2.2 == 1) ?_ ?_
  ·exact zk (Zry x0 x1 ox0)
  ·exact zk (Zkb r2.1 r2.2)
 ·exact zk (Zkb r2.1 r2.2)
def ZjC (x0 : List Int) (x1 : Int) : Option (Int × Int) :=
 if (decide (x1 < 0)) = true then
 ZeL
 else
 (if (decide ((x0.length : Int) ≤ x1)) = true then
 ZeL
 else
 (ZeM x0 x1))
theorem ZvD (x0 : List Int) x1 ox0 : Sim Z3S (ZjC x0 x1) (EE 126 [(ZP ox0 (x0.map (eI .u8))), (iv x1)] []) := by
 unfold ZjC
 refine zf (ZJH ..)<|ze<|ze<|zq ?_
 refine za (decide (x1 < 0)) ?_ ?_
 ·exact zk Zka
 ·refine zp (iv (x0.length : Int)) (et_ (Z32 (P := PP) (t := 141) (d := 5) (by kernel_rfl) (eI .u8) (shrO ox0) x0))<|zq ?_
  refine za (decide ((x0.length : Int) ≤ x1)) ?_ ?_
  ·exact zk Zka
  ·exact zk (Zrx x0 x1 ox0)
theorem Zy5 x0 x1 {r} (h : ZjC x0 x1 = some r) : Zgl x0 x1 = some r :=
 Z1g (fun _ _ ha hb => ru_ Zgs (ha .ex) (hb .ex)) (fun ox0 => ZvD x0 x1 ox0 r h)
def Zfo (x0 : Int) (x1 : List Zj) : Option Zj :=
 some (Zj.mk x0 0 0 0 0 ([] : List Zi) x1)
theorem Zoe x0 (x1 : List Zj) b0 ox1 z2x z20 (zIh : ZW z2x = true) (zHb : ZW z20 = true) : Sim Z85 (Zfo x0 x1) (ZA8 0 (iv x0) (ZP ox1 (x1.map Z13)) (.ptr 0 0) [(Zv b0 z2x z20)]) := by
 unfold Zfo
 refine zf (ZH1 ..)<|ze<|zq<|zt [(Z3n x0 0 0 0 0 ([] : List Zi) x1 .nl (shrO (shrO ox1)))] ?_
 exact zr ((pA_ (ZN (Zj.mk x0 0 0 0 0 ([] : List Zi) x1) .sh .sh)), [(Z3n x0 0 0 0 0 ([] : List Zi) x1 .nl (shrO (shrO ox1)))]) ⟨_, rfl⟩
def ZeI (x0 : Int) (x1 : List Zj) : Option Zj :=
 if ((x1.length : Int) == 0) = true then
 (some (Zj.mk 0 0 0 0 0 ([] : List Zi) ([] : List Zj)))
 else
 (if ((x1.length : Int) == 1) = true then
 ((lget x1 0).bind fun a1 =>
 some a1)
 else
 (Zfo x0 x1))
theorem Zru x0 (x1 : List Zj) ox1 : Sim Z85 (ZeI x0 x1) (EE 92 [(iv x0), (ZP ox1 (x1.map Z13))] []) := by
 unfold ZeI
 refine zf (ZMO ..)<|ze<|zz (.ptr 0 0) [(Zv Z2g .nl .nl)]<|ze<|zp (iv (x1.length : Int)) (et_ (Z32 (P := PP) (t := 96) (d := 98) (by kernel_rfl) Z13 (shrO ox1) x1))<|ze<|zq ?_
 refine za ((x1.length : Int) == 0) ?_ ?_
 ·refine ze<|zq<|zt [(Zv Z2g .nl .nl)] ?_
  exact zr ((pA_ (ZN Z2g .sh .sh)), [(Zv Z2g .nl .nl)]) ⟨_, rfl⟩
 ·refine ze<|zq ?_
  refine za ((x1.length : Int) == 1) ?_ ?_
  ·refine ze<|zi fun a1 ha1 => zp (.cptr (ZN a1 .sh .sh)) (et_ (Z45 (o := (shrO ox1)) (k := .i64) (n := 7) (e := Z13) (cs := Z3D) Z7l (fun _ => rfl) (by decide) ha1))<|zq<|zt [(Zv a1 .sh .sh)] ?_
   exact zr ((pA_ (ZN a1 .sh .sh)), [(Zv a1 .sh .sh)]) ⟨_, rfl⟩
  ·exact zk (Zoe x0 x1 Z2g ox1 .nl .nl rfl rfl)
theorem Zt5 x0 x1 {r} (h : ZeI x0 x1 = some r) : ZcI x0 x1 = some r :=
 Z1g (fun _ _ ha hb => ru_ Zlt (ha .ex) (hb .ex)) (fun ox1 => Zru x0 x1 ox1 r h)
def Z2B (zn z7 zd : Int) (zh : List Zz) (z2 z6 : Int) : Option (Zj × Bool × Int × Int × Int × (List Zz) × Int × Int) :=
 some ((Zj.mk 0 0 0 0 0 ([] : List Zi) ([] : List Zj)), true, zn, z7, zd, zh, z2, z6)
theorem Z2I zl zn z7 zd zh z2 z6 b1 zu zb zM zH (zy : ZW zb = true) (z1t : ZW zM = true) (z1f : ZW zH = true) : Sim (Z3r zl zu) (Z2B zn z7 zd zh z2 z6) (Z8N 1 (.ptr 1 0) [(ZS zl zn z7 zd zh z2 z6 zu zb), (Zv b1 zM zH)]) := by
 unfold Z2B
 refine zf (ZBz ..)<|ze<|zq<|zt [(ZS zl zn z7 zd zh z2 z6 zu zb), (Zv Z2g .nl .nl)] ?_
 exact zr ((.p (.tup [(.agg (ZN Z2g .sh .sh)), (.v (.bool true))])), [(ZS zl zn z7 zd zh z2 z6 zu zb), (Zv Z2g .nl .nl)]) ⟨zb, _, zy, rfl⟩
def Z98 (zl : List Int) (zn z7 zd : Int) (zh : List Zz) (z2 z6 : Int) : Option (Zj × Bool × Int × Int × Int × (List Zz) × Int × Int) :=
 (Z3U zl zn).bind fun r1 =>
 if (r1.1 == 46) = true then
 ((Z35 10).bind fun r2 =>
 (Z4M true ([r2] : List Zi)).bind fun r3 =>
 some (r3, true, r1.2, z7, zd, zh, z2, z6))
 else
 (if (r1.1 == 94) = true then
 (some ((Zj.mk 9 0 0 0 0 ([] : List Zi) ([] : List Zj)), false, r1.2, z7, zd, zh, z2, z6))
 else
 (if (r1.1 == 36) = true then
 (some ((Zj.mk 9 0 0 0 1 ([] : List Zi) ([] : List Zj)), false, r1.2, z7, zd, zh, z2, z6))
 else
 (if (r1.1 == 92) = true then
 ((Z5E zn zl r1.2 z7 zd zh z2 z6).bind fun r4 =>
 some (r4.1, (r4.1.Kind != 9), r4.2.1, z7, zd, r4.2.2.1, r4.2.2.2.1, r4.2.2.2.2))
 else
 (if (r1.1 == 91) = true then
 ((Zav zn zl r1.2 z7 zd zh z2 z6).bind fun r5 =>
 some (r5.1, true, r5.2.1, z7, zd, zh, r5.2.2.1, r5.2.2.2))
 else
 (if (r1.1 == 40) = true then
 ((Z5P zn zl r1.2 z7 zd zh z2 z6).bind fun r6 =>
 some (r6.1, r6.2.1, r6.2.2.1, r6.2.2.2.1, r6.2.2.2.2.1, r6.2.2.2.2.2.1, r6.2.2.2.2.2.2.1, r6.2.2.2.2.2.2.2))
 else
 (if (r1.1 == 42) = true then
 (if (r1.1 == 42) = true then
 ((Z1A 23 zn zl z2 z6).bind fun r7 =>
 Z2B r7.1 z7 zd zh r7.2.1 r7.2.2)
 else
 (if (r1.1 == 93) = true then
 (if (r1.1 == 93) = true then
 ((Z1A 20 zn zl z2 z6).bind fun r8 =>
 Z2B r8.1 z7 zd zh r8.2.1 r8.2.2)
 else
 ((Z35 r1.1).bind fun r9 =>
 (Z4M false ([r9] : List Zi)).bind fun r10 =>
 some (r10, true, r1.2, z7, zd, zh, z2, z6)))
 else
 (if (r1.1 == 125) = true then
 ((Z1A 20 zn zl z2 z6).bind fun r11 =>
 Z2B r11.1 z7 zd zh r11.2.1 r11.2.2)
 else
 ((Z35 r1.1).bind fun r12 =>
 (Z4M false ([r12] : List Zi)).bind fun r13 =>
 some (r13, true, r1.2, z7, zd, zh, z2, z6)))))
 else
 (if (r1.1 == 43) = true then
 (if (r1.1 == 43) = true then
 ((Z1A 23 zn zl z2 z6).bind fun r14 =>
 Z2B r14.1 z7 zd zh r14.2.1 r14.2.2)
 else
 (if (r1.1 == 93) = true then
 (if (r1.1 == 93) = true then
 ((Z1A 20 zn zl z2 z6).bind fun r15 =>
 Z2B r15.1 z7 zd zh r15.2.1 r15.2.2)
 else
 ((Z35 r1.1).bind fun r16 =>
 (Z4M false ([r16] : List Zi)).bind fun r17 =>
 some (r17, true, r1.2, z7, zd, zh, z2, z6)))
 else
 (if (r1.1 == 125) = true then
 ((Z1A 20 zn zl z2 z6).bind fun r18 =>
 Z2B r18.1 z7 zd zh r18.2.1 r18.2.2)
 else
 ((Z35 r1.1).bind fun r19 =>
 (Z4M false ([r19] : List Zi)).bind fun r20 =>
 some (r20, true, r1.2, z7, zd, zh, z2, z6)))))
 else
 (if (r1.1 == 63) = true then
 (if (r1.1 == 63) = true then
 ((Z1A 23 zn zl z2 z6).bind fun r21 =>
 Z2B r21.1 z7 zd zh r21.2.1 r21.2.2)
 else
 (if (r1.1 == 93) = true then
 (if (r1.1 == 93) = true then
 ((Z1A 20 zn zl z2 z6).bind fun r22 =>
 Z2B r22.1 z7 zd zh r22.2.1 r22.2.2)
 else
 ((Z35 r1.1).bind fun r23 =>
 (Z4M false ([r23] : List Zi)).bind fun r24 =>
 some (r24, true, r1.2, z7, zd, zh, z2, z6)))
 else
 (if (r1.1 == 125) = true then
 ((Z1A 20 zn zl z2 z6).bind fun r25 =>
 Z2B r25.1 z7 zd zh r25.2.1 r25.2.2)
 else
 ((Z35 r1.1).bind fun r26 =>
 (Z4M false ([r26] : List Zi)).bind fun r27 =>
 some (r27, true, r1.2, z7, zd, zh, z2, z6)))))
 else
 (if (r1.1 == 123) = true then
 ((Z1A 23 zn zl z2 z6).bind fun r28 =>
 Z2B r28.1 z7 zd zh r28.2.1 r28.2.2)
 else
 (if (r1.1 == 93) = true then
 (if (r1.1 == 93) = true then
 ((Z1A 20 zn zl z2 z6).bind fun r29 =>
 Z2B r29.1 z7 zd zh r29.2.1 r29.2.2)
 else
 ((Z35 r1.1).bind fun r30 =>
 (Z4M false ([r30] : List Zi)).bind fun r31 =>
 some (r31, true, r1.2, z7, zd, zh, z2, z6)))
 else
 (if (r1.1 == 125) = true then
 ((Z1A 20 zn zl z2 z6).bind fun r32 =>
 Z2B r32.1 z7 zd zh r32.2.1 r32.2.2)
 else
 ((Z35 r1.1).bind fun r33 =>
 (Z4M false ([r33] : List Zi)).bind fun r34 =>
 some (r34, true, r1.2, z7, zd, zh, z2, z6)))))))))))))
theorem Zmn zl zn z7 zd zh z2 z6 zu zb (zy : ZW zb = true) : Sim (Z3r zl zu) (Z98 zl zn z7 zd zh z2 z6) (EE 105 [(.ptr 0 0)] [(ZS zl zn z7 zd zh z2 z6 zu zb)]) := by
 unfold Z98
 refine zf (ZJy ..)<|ze<|zz (.ptr 1 0) [(ZS zl zn z7 zd zh z2 z6 zu zb), (Zv Z2g .nl .nl)]<|ze<|zq<|zq<|zq<|ze<|zi fun r1 hr1 => ?_
 obtain ⟨_, er1, _, rfl⟩ := Z4u zl zn z7 zd zh z2 z6 zu zb zy r1 hr1
 refine zc [0] (iv r1.1) [(ZS zl r1.2 z7 zd zh z2 z6 zu zb), (Zv Z2g .nl .nl)] er1<|ze<|ze<|zq ?_
 refine za (r1.1 == 46) ?_ ?_
 ·refine ze<|zi fun r2 hr2 => ?_
  obtain ⟨_, er2, _, rfl⟩ := Z2U 10 r2 hr2
  refine zc [] (pA_ (Z18 r2)) [(ZS zl r1.2 z7 zd zh z2 z6 zu zb), (Zv Z2g .nl .nl)] er2<|zq<|zi fun r3 hr3 => ?_
  obtain ⟨_, er3, _, rfl⟩ := Z51 true ([r2] : List Zi) .sh r3 hr3
  refine zc [] (pA_ (ZN r3 .sh .sh)) [(ZS zl r1.2 z7 zd zh z2 z6 zu zb), (Zv Z2g .nl .nl)] er3<|zt [(ZS zl r1.2 z7 zd zh z2 z6 zu zb), (Zv r3 .sh .sh)] ?_
  exact zr ((.p (.tup [(.agg (ZN r3 .sh .sh)), (.v (.bool true))])), [(ZS zl r1.2 z7 zd zh z2 z6 zu zb), (Zv r3 .sh .sh)]) ⟨zb, _, zy, rfl⟩
 ·refine ze<|zq ?_
  refine za (r1.1 == 94) ?_ ?_
  ·refine ze<|zq<|zt [(ZS zl r1.2 z7 zd zh z2 z6 zu zb), (Z3n 9 0 0 0 0 ([] : List Zi) ([] : List Zj) .nl .nl)] ?_
   exact zr ((.p (.tup [(.agg (ZN (Zj.mk 9 0 0 0 0 ([] : List Zi) ([] : List Zj)) .sh .sh)), (.v (.bool false))])), [(ZS zl r1.2 z7 zd zh z2 z6 zu zb), (Z3n 9 0 0 0 0 ([] : List Zi) ([] : List Zj) .nl .nl)]) ⟨zb, _, zy, rfl⟩
  ·refine ze<|zq ?_
   refine za (r1.1 == 36) ?_ ?_
   ·refine ze<|zq<|zt [(ZS zl r1.2 z7 zd zh z2 z6 zu zb), (Z3n 9 0 0 0 1 ([] : List Zi) ([] : List Zj) .nl .nl)] ?_
    exact zr ((.p (.tup [(.agg (ZN (Zj.mk 9 0 0 0 1 ([] : List Zi) ([] : List Zj)) .sh .sh)), (.v (.bool false))])), [(ZS zl r1.2 z7 zd zh z2 z6 zu zb), (Z3n 9 0 0 0 1 ([] : List Zi) ([] : List Zj) .nl .nl)]) ⟨zb, _, zy, rfl⟩
   ·refine ze<|zq ?_
    refine za (r1.1 == 92) ?_ ?_
    ·refine ze<|zi fun r4 hr4 => ?_
     obtain ⟨_, er4, zlq, _, zIk, rfl⟩ := ZlN zn zl r1.2 z7 zd zh z2 z6 zu zb zy r4 hr4
     refine zc [0] (pA_ (ZN r4.1 .sh .sh)) [(ZS zl r4.2.1 z7 zd r4.2.2.1 r4.2.2.2.1 r4.2.2.2.2 zu zlq), (Zv Z2g .nl .nl)] er4<|zz (.ptr 2 0) [(ZS zl r4.2.1 z7 zd r4.2.2.1 r4.2.2.2.1 r4.2.2.2.2 zu zlq), (Zv Z2g .nl .nl), (Zv Z2g .nl .nl)]<|zt [(ZS zl r4.2.1 z7 zd r4.2.2.1 r4.2.2.2.1 r4.2.2.2.2 zu zlq), (Zv Z2g .nl .nl), (Zv r4.1 .sh .sh)]<|ze<|zq<|zq<|zq<|zq<|zt [(ZS zl r4.2.1 z7 zd r4.2.2.1 r4.2.2.2.1 r4.2.2.2.2 zu zlq), (Zv r4.1 .sh .sh), (Zv r4.1 .sh .sh)]<|zg ?_
     exact zr ((.p (.tup [(.agg (ZN r4.1 .sh .sh)), (.v (.bool (r4.1.Kind != 9)))])), [(ZS zl r4.2.1 z7 zd r4.2.2.1 r4.2.2.2.1 r4.2.2.2.2 zu zlq), (Zv r4.1 .sh .sh), (Zv r4.1 .sh .sh)]) ⟨zlq, _, zIk, rfl⟩
    ·refine ze<|zq ?_
     refine za (r1.1 == 91) ?_ ?_
     ·refine ze<|zi fun r5 hr5 => ?_
      obtain ⟨_, er5, _, rfl⟩ := Zmp zn zl r1.2 z7 zd zh z2 z6 zu zb zy r5 hr5
      refine zc [0] (pA_ (ZN r5.1 .sh .sh)) [(ZS zl r5.2.1 z7 zd zh r5.2.2.1 r5.2.2.2 zu zb), (Zv Z2g .nl .nl)] er5<|zt [(ZS zl r5.2.1 z7 zd zh r5.2.2.1 r5.2.2.2 zu zb), (Zv r5.1 .sh .sh)] ?_
      exact zr ((.p (.tup [(.agg (ZN r5.1 .sh .sh)), (.v (.bool true))])), [(ZS zl r5.2.1 z7 zd zh r5.2.2.1 r5.2.2.2 zu zb), (Zv r5.1 .sh .sh)]) ⟨zb, _, zy, rfl⟩
     ·refine ze<|zq ?_
      refine za (r1.1 == 40) ?_ ?_
      ·refine ze<|zi fun r6 hr6 => ?_
       obtain ⟨_, er6, zsP, _, zIm, rfl⟩ := Zmr zn zl r1.2 z7 zd zh z2 z6 zu zb zy r6 hr6
       refine zc [0] (.p (.tup [(.agg (ZN r6.1 .sh .sh)), (.v (.bool r6.2.1))])) [(ZS zl r6.2.2.1 r6.2.2.2.1 r6.2.2.2.2.1 r6.2.2.2.2.2.1 r6.2.2.2.2.2.2.1 r6.2.2.2.2.2.2.2 zu zsP), (Zv Z2g .nl .nl)] er6<|zq<|zq<|zt [(ZS zl r6.2.2.1 r6.2.2.2.1 r6.2.2.2.2.1 r6.2.2.2.2.2.1 r6.2.2.2.2.2.2.1 r6.2.2.2.2.2.2.2 zu zsP), (Zv r6.1 .sh .sh)] ?_
       exact zr ((.p (.tup [(.agg (ZN r6.1 .sh .sh)), (.v (.bool r6.2.1))])), [(ZS zl r6.2.2.1 r6.2.2.2.1 r6.2.2.2.2.1 r6.2.2.2.2.2.1 r6.2.2.2.2.2.2.1 r6.2.2.2.2.2.2.2 zu zsP), (Zv r6.1 .sh .sh)]) ⟨zsP, _, zIm, rfl⟩
      ·refine ze<|zq ?_
       refine za (r1.1 == 42) ?_ ?_
       ·refine za (r1.1 == 42) ?_ ?_
        ·refine ze<|zi fun r7 hr7 => ?_
         obtain ⟨_, er7, _, rfl⟩ := Z1F 23 zn zl r1.2 z7 zd zh z2 z6 zu zb zy r7 hr7
         refine zc [0] (.p (.tup [])) [(ZS zl r7.1 z7 zd zh r7.2.1 r7.2.2 zu zb), (Zv Z2g .nl .nl)] er7 ?_
         exact zk (Z2I zl r7.1 z7 zd zh r7.2.1 r7.2.2 Z2g zu zb .nl .nl zy rfl rfl)
        ·refine ze<|zq ?_
         refine za (r1.1 == 93) ?_ ?_
         ·refine za (r1.1 == 93) ?_ ?_
          ·refine ze<|zi fun r8 hr8 => ?_
           obtain ⟨_, er8, _, rfl⟩ := Z1F 20 zn zl r1.2 z7 zd zh z2 z6 zu zb zy r8 hr8
           refine zc [0] (.p (.tup [])) [(ZS zl r8.1 z7 zd zh r8.2.1 r8.2.2 zu zb), (Zv Z2g .nl .nl)] er8 ?_
           exact zk (Z2I zl r8.1 z7 zd zh r8.2.1 r8.2.2 Z2g zu zb .nl .nl zy rfl rfl)
          ·refine ze<|zi fun r9 hr9 => ?_
           obtain ⟨_, er9, _, rfl⟩ := Z2U r1.1 r9 hr9
           refine zc [] (pA_ (Z18 r9)) [(ZS zl r1.2 z7 zd zh z2 z6 zu zb), (Zv Z2g .nl .nl)] er9<|zq<|zi fun r10 hr10 => ?_
           obtain ⟨_, er10, _, rfl⟩ := Z51 false ([r9] : List Zi) .sh r10 hr10
           refine zc [] (pA_ (ZN r10 .sh .sh)) [(ZS zl r1.2 z7 zd zh z2 z6 zu zb), (Zv Z2g .nl .nl)] er10<|zt [(ZS zl r1.2 z7 zd zh z2 z6 zu zb), (Zv r10 .sh .sh)] ?_
           exact zr ((.p (.tup [(.agg (ZN r10 .sh .sh)), (.v (.bool true))])), [(ZS zl r1.2 z7 zd zh z2 z6 zu zb), (Zv r10 .sh .sh)]) ⟨zb, _, zy, rfl⟩
         ·refine ze<|zq ?_
          refine za (r1.1 == 125) ?_ ?_
          ·refine ze<|zi fun r11 hr11 => ?_
           obtain ⟨_, er11, _, rfl⟩ := Z1F 20 zn zl r1.2 z7 zd zh z2 z6 zu zb zy r11 hr11
           refine zc [0] (.p (.tup [])) [(ZS zl r11.1 z7 zd zh r11.2.1 r11.2.2 zu zb), (Zv Z2g .nl .nl)] er11 ?_
           exact zk (Z2I zl r11.1 z7 zd zh r11.2.1 r11.2.2 Z2g zu zb .nl .nl zy rfl rfl)
          ·refine ze<|zi fun r12 hr12 => ?_
           obtain ⟨_, er12, _, rfl⟩ := Z2U r1.1 r12 hr12
           refine zc [] (pA_ (Z18 r12)) [(ZS zl r1.2 z7 zd zh z2 z6 zu zb), (Zv Z2g .nl .nl)] er12<|zq<|zi fun r13 hr13 => ?_
           obtain ⟨_, er13, _, rfl⟩ := Z51 false ([r12] : List Zi) .sh r13 hr13
           refine zc [] (pA_ (ZN r13 .sh .sh)) [(ZS zl r1.2 z7 zd zh z2 z6 zu zb), (Zv Z2g .nl .nl)] er13<|zt [(ZS zl r1.2 z7 zd zh z2 z6 zu zb), (Zv r13 .sh .sh)] ?_
           exact zr ((.p (.tup [(.agg (ZN r13 .sh .sh)), (.v (.bool true))])), [(ZS zl r1.2 z7 zd zh z2 z6 zu zb), (Zv r13 .sh .sh)]) ⟨zb, _, zy, rfl⟩
       ·refine ze<|zq ?_
        refine za (r1.1 == 43) ?_ ?_
        ·refine za (r1.1 == 43) ?_ ?_
         ·refine ze<|zi fun r14 hr14 => ?_
          obtain ⟨_, er14, _, rfl⟩ := Z1F 23 zn zl r1.2 z7 zd zh z2 z6 zu zb zy r14 hr14
          refine zc [0] (.p (.tup [])) [(ZS zl r14.1 z7 zd zh r14.2.1 r14.2.2 zu zb), (Zv Z2g .nl .nl)] er14 ?_
          exact zk (Z2I zl r14.1 z7 zd zh r14.2.1 r14.2.2 Z2g zu zb .nl .nl zy rfl rfl)
         ·refine ze<|zq ?_
          refine za (r1.1 == 93) ?_ ?_
          ·refine za (r1.1 == 93) ?_ ?_
           ·refine ze<|zi fun r15 hr15 => ?_
            obtain ⟨_, er15, _, rfl⟩ := Z1F 20 zn zl r1.2 z7 zd zh z2 z6 zu zb zy r15 hr15
            refine zc [0] (.p (.tup [])) [(ZS zl r15.1 z7 zd zh r15.2.1 r15.2.2 zu zb), (Zv Z2g .nl .nl)] er15 ?_
            exact zk (Z2I zl r15.1 z7 zd zh r15.2.1 r15.2.2 Z2g zu zb .nl .nl zy rfl rfl)
           ·refine ze<|zi fun r16 hr16 => ?_
            obtain ⟨_, er16, _, rfl⟩ := Z2U r1.1 r16 hr16
            refine zc [] (pA_ (Z18 r16)) [(ZS zl r1.2 z7 zd zh z2 z6 zu zb), (Zv Z2g .nl .nl)] er16<|zq<|zi fun r17 hr17 => ?_
            obtain ⟨_, er17, _, rfl⟩ := Z51 false ([r16] : List Zi) .sh r17 hr17
            refine zc [] (pA_ (ZN r17 .sh .sh)) [(ZS zl r1.2 z7 zd zh z2 z6 zu zb), (Zv Z2g .nl .nl)] er17<|zt [(ZS zl r1.2 z7 zd zh z2 z6 zu zb), (Zv r17 .sh .sh)] ?_
            exact zr ((.p (.tup [(.agg (ZN r17 .sh .sh)), (.v (.bool true))])), [(ZS zl r1.2 z7 zd zh z2 z6 zu zb), (Zv r17 .sh .sh)]) ⟨zb, _, zy, rfl⟩
          ·refine ze<|zq ?_
           refine za (r1.1 == 125) ?_ ?_
           ·refine ze<|zi fun r18 hr18 => ?_
            obtain ⟨_, er18, _, rfl⟩ := Z1F 20 zn zl r1.2 z7 zd zh z2 z6 zu zb zy r18 hr18
            refine zc [0] (.p (.tup [])) [(ZS zl r18.1 z7 zd zh r18.2.1 r18.2.2 zu zb), (Zv Z2g .nl .nl)] er18 ?_
            exact zk (Z2I zl r18.1 z7 zd zh r18.2.1 r18.2.2 Z2g zu zb .nl .nl zy rfl rfl)
           ·refine ze<|zi fun r19 hr19 => ?_
            obtain ⟨_, er19, _, rfl⟩ := Z2U r1.1 r19 hr19
            refine zc [] (pA_ (Z18 r19)) [(ZS zl r1.2 z7 zd zh z2 z6 zu zb), (Zv Z2g .nl .nl)] er19<|zq<|zi fun r20 hr20 => ?_
            obtain ⟨_, er20, _, rfl⟩ := Z51 false ([r19] : List Zi) .sh r20 hr20
            refine zc [] (pA_ (ZN r20 .sh .sh)) [(ZS zl r1.2 z7 zd zh z2 z6 zu zb), (Zv Z2g .nl .nl)] er20<|zt [(ZS zl r1.2 z7 zd zh z2 z6 zu zb), (Zv r20 .sh .sh)] ?_
            exact zr ((.p (.tup [(.agg (ZN r20 .sh .sh)), (.v (.bool true))])), [(ZS zl r1.2 z7 zd zh z2 z6 zu zb), (Zv r20 .sh .sh)]) ⟨zb, _, zy, rfl⟩
        ·refine ze<|zq ?_
         refine za (r1.1 == 63) ?_ ?_
         ·refine za (r1.1 == 63) ?_ ?_
          ·refine ze<|zi fun r21 hr21 => ?_
           obtain ⟨_, er21, _, rfl⟩ := Z1F 23 zn zl r1.2 z7 zd zh z2 z6 zu zb zy r21 hr21
           refine zc [0] (.p (.tup [])) [(ZS zl r21.1 z7 zd zh r21.2.1 r21.2.2 zu zb), (Zv Z2g .nl .nl)] er21 ?_
           exact zk (Z2I zl r21.1 z7 zd zh r21.2.1 r21.2.2 Z2g zu zb .nl .nl zy rfl rfl)
          ·refine ze<|zq ?_
           refine za (r1.1 == 93) ?_ ?_
           ·refine za (r1.1 == 93) ?_ ?_
            ·refine ze<|zi fun r22 hr22 => ?_
             obtain ⟨_, er22, _, rfl⟩ := Z1F 20 zn zl r1.2 z7 zd zh z2 z6 zu zb zy r22 hr22
             refine zc [0] (.p (.tup [])) [(ZS zl r22.1 z7 zd zh r22.2.1 r22.2.2 zu zb), (Zv Z2g .nl .nl)] er22 ?_
             exact zk (Z2I zl r22.1 z7 zd zh r22.2.1 r22.2.2 Z2g zu zb .nl .nl zy rfl rfl)
            ·refine ze<|zi fun r23 hr23 => ?_
             obtain ⟨_, er23, _, rfl⟩ := Z2U r1.1 r23 hr23
             refine zc [] (pA_ (Z18 r23)) [(ZS zl r1.2 z7 zd zh z2 z6 zu zb), (Zv Z2g .nl .nl)] er23<|zq<|zi fun r24 hr24 => ?_
             obtain ⟨_, er24, _, rfl⟩ := Z51 false ([r23] : List Zi) .sh r24 hr24
             refine zc [] (pA_ (ZN r24 .sh .sh)) [(ZS zl r1.2 z7 zd zh z2 z6 zu zb), (Zv Z2g .nl .nl)] er24<|zt [(ZS zl r1.2 z7 zd zh z2 z6 zu zb), (Zv r24 .sh .sh)] ?_
             exact zr ((.p (.tup [(.agg (ZN r24 .sh .sh)), (.v (.bool true))])), [(ZS zl r1.2 z7 zd zh z2 z6 zu zb), (Zv r24 .sh .sh)]) ⟨zb, _, zy, rfl⟩
           ·refine ze<|zq ?_
            refine za (r1.1 == 125) ?_ ?_
            ·refine ze<|zi fun r25 hr25 => ?_
             obtain ⟨_, er25, _, rfl⟩ := Z1F 20 zn zl r1.2 z7 zd zh z2 z6 zu zb zy r25 hr25
             refine zc [0] (.p (.tup [])) [(ZS zl r25.1 z7 zd zh r25.2.1 r25.2.2 zu zb), (Zv Z2g .nl .nl)] er25 ?_
             exact zk (Z2I zl r25.1 z7 zd zh r25.2.1 r25.2.2 Z2g zu zb .nl .nl zy rfl rfl)
            ·refine ze<|zi fun r26 hr26 => ?_
             obtain ⟨_, er26, _, rfl⟩ := Z2U r1.1 r26 hr26
             refine zc [] (pA_ (Z18 r26)) [(ZS zl r1.2 z7 zd zh z2 z6 zu zb), (Zv Z2g .nl .nl)] er26<|zq<|zi fun r27 hr27 => ?_
             obtain ⟨_, er27, _, rfl⟩ := Z51 false ([r26] : List Zi) .sh r27 hr27
             refine zc [] (pA_ (ZN r27 .sh .sh)) [(ZS zl r1.2 z7 zd zh z2 z6 zu zb), (Zv Z2g .nl .nl)] er27<|zt [(ZS zl r1.2 z7 zd zh z2 z6 zu zb), (Zv r27 .sh .sh)] ?_
             exact zr ((.p (.tup [(.agg (ZN r27 .sh .sh)), (.v (.bool true))])), [(ZS zl r1.2 z7 zd zh z2 z6 zu zb), (Zv r27 .sh .sh)]) ⟨zb, _, zy, rfl⟩
         ·refine ze<|zq ?_
          refine za (r1.1 == 123) ?_ ?_
          ·refine ze<|zi fun r28 hr28 => ?_
           obtain ⟨_, er28, _, rfl⟩ := Z1F 23 zn zl r1.2 z7 zd zh z2 z6 zu zb zy r28 hr28
           refine zc [0] (.p (.tup [])) [(ZS zl r28.1 z7 zd zh r28.2.1 r28.2.2 zu zb), (Zv Z2g .nl .nl)] er28 ?_
           exact zk (Z2I zl r28.1 z7 zd zh r28.2.1 r28.2.2 Z2g zu zb .nl .nl zy rfl rfl)
          ·refine ze<|zq ?_
           refine za (r1.1 == 93) ?_ ?_
           ·refine za (r1.1 == 93) ?_ ?_
            ·refine ze<|zi fun r29 hr29 => ?_
             obtain ⟨_, er29, _, rfl⟩ := Z1F 20 zn zl r1.2 z7 zd zh z2 z6 zu zb zy r29 hr29
             refine zc [0] (.p (.tup [])) [(ZS zl r29.1 z7 zd zh r29.2.1 r29.2.2 zu zb), (Zv Z2g .nl .nl)] er29 ?_
             exact zk (Z2I zl r29.1 z7 zd zh r29.2.1 r29.2.2 Z2g zu zb .nl .nl zy rfl rfl)
            ·refine ze<|zi fun r30 hr30 => ?_
             obtain ⟨_, er30, _, rfl⟩ := Z2U r1.1 r30 hr30
             refine zc [] (pA_ (Z18 r30)) [(ZS zl r1.2 z7 zd zh z2 z6 zu zb), (Zv Z2g .nl .nl)] er30<|zq<|zi fun r31 hr31 => ?_
             obtain ⟨_, er31, _, rfl⟩ := Z51 false ([r30] : List Zi) .sh r31 hr31
             refine zc [] (pA_ (ZN r31 .sh .sh)) [(ZS zl r1.2 z7 zd zh z2 z6 zu zb), (Zv Z2g .nl .nl)] er31<|zt [(ZS zl r1.2 z7 zd zh z2 z6 zu zb), (Zv r31 .sh .sh)] ?_
             exact zr ((.p (.tup [(.agg (ZN r31 .sh .sh)), (.v (.bool true))])), [(ZS zl r1.2 z7 zd zh z2 z6 zu zb), (Zv r31 .sh .sh)]) ⟨zb, _, zy, rfl⟩
           ·refine ze<|zq ?_
            refine za (r1.1 == 125) ?_ ?_
            ·refine ze<|zi fun r32 hr32 => ?_
             obtain ⟨_, er32, _, rfl⟩ := Z1F 20 zn zl r1.2 z7 zd zh z2 z6 zu zb zy r32 hr32
             refine zc [0] (.p (.tup [])) [(ZS zl r32.1 z7 zd zh r32.2.1 r32.2.2 zu zb), (Zv Z2g .nl .nl)] er32 ?_
             exact zk (Z2I zl r32.1 z7 zd zh r32.2.1 r32.2.2 Z2g zu zb .nl .nl zy rfl rfl)
            ·refine ze<|zi fun r33 hr33 => ?_
             obtain ⟨_, er33, _, rfl⟩ := Z2U r1.1 r33 hr33
             refine zc [] (pA_ (Z18 r33)) [(ZS zl r1.2 z7 zd zh z2 z6 zu zb), (Zv Z2g .nl .nl)] er33<|zq<|zi fun r34 hr34 => ?_
             obtain ⟨_, er34, _, rfl⟩ := Z51 false ([r33] : List Zi) .sh r34 hr34
             refine zc [] (pA_ (ZN r34 .sh .sh)) [(ZS zl r1.2 z7 zd zh z2 z6 zu zb), (Zv Z2g .nl .nl)] er34<|zt [(ZS zl r1.2 z7 zd zh z2 z6 zu zb), (Zv r34 .sh .sh)] ?_
             exact zr ((.p (.tup [(.agg (ZN r34 .sh .sh)), (.v (.bool true))])), [(ZS zl r1.2 z7 zd zh z2 z6 zu zb), (Zv r34 .sh .sh)]) ⟨zb, _, zy, rfl⟩
theorem Znb zl zn z7 zd zh z2 z6 {r} (h : Z98 zl zn z7 zd zh z2 z6 = some r) : Zbv zl zn z7 zd zh z2 z6 = some r :=
 Z1g (fun _ _ ha hb => ru_ (ZfP _ _) (ha .ex .ex rfl) (hb .ex .ex rfl)) (fun zu zb zy => Zmn zl zn z7 zd zh z2 z6 zu zb zy r h)
def Zbj (zl : List Int) (zn : Int) : Option (Int × Int) :=
 (Zgl zl zn).bind fun r1 =>
 some (r1.1, (IntKind.i64.wrap (zn + r1.2)))
theorem Zmu zl zn z7 zd zh z2 z6 zu zb (zy : ZW zb = true) : Sim (Z2L zl z7 zd zh z2 z6 zu zb) (Zbj zl zn) (EE 127 [(.ptr 0 0)] [(ZS zl zn z7 zd zh z2 z6 zu zb)]) := by
 unfold Zbj
 refine zf (ZJK ..)<|ze<|ze<|zq<|zq<|zq<|zq<|zq<|zq<|zi fun r1 hr1 => ?_
 obtain ⟨_, er1, _, rfl⟩ := Zou zl zn .sh r1 hr1
 refine zc [] (.p (.tup [(.v (.int .i64 r1.1)), (.v (.int .i64 r1.2))])) [(ZS zl zn z7 zd zh z2 z6 zu zb)] er1<|zq<|zq<|ze<|zq<|zq<|zq<|zq<|zq<|zq<|zt [(ZS zl (IntKind.i64.wrap (zn + r1.2)) z7 zd zh z2 z6 zu zb)]<|ze ?_
 exact zr ((iv r1.1), [(ZS zl (IntKind.i64.wrap (zn + r1.2)) z7 zd zh z2 z6 zu zb)]) ⟨_, rfl⟩
theorem Znf zl zn {r} (h : Zbj zl zn = some r) : Z3U zl zn = some r :=
 Z1g (fun _ _ ha hb => ru_ (Z86 _ _ _ _ _ _ _ _) (ha default default default default default .ex .ex rfl) (hb default default default default default .ex .ex rfl)) (fun z7 zd zh z2 z6 zu zb zy => Zmu zl zn z7 zd zh z2 z6 zu zb zy r h)
def Zn2 (x0 : Int) : Option Zi :=
 some (Zi.mk x0 x0)
theorem Zvv x0 : Sim Zjy (Zn2 x0) (EE 129 [(iv x0)] []) := by
 unfold Zn2
 refine zf (ZJN ..)<|ze<|zz (.ptr 0 0) [(Z36 (Zi.mk 0 0))]<|ze<|zq<|zt [(Z36 (Zi.mk x0 x0))] ?_
 exact zr ((pA_ (Z18 (Zi.mk x0 x0))), [(Z36 (Zi.mk x0 x0))]) ⟨_, rfl⟩
theorem Zy1 x0 {r} (h : Zn2 x0 = some r) : Z35 x0 = some r :=
 Z1g (fun _ _ ha hb => ru_ ZyH ha hb) (Zvv x0 r h)
def ZeJ (x5 : List Zi) : Option Zj :=
 some (Zj.mk 1 0 0 0 0 x5 ([] : List Zj))
theorem Zk1 (x5 : List Zi) b0 ox5 z2x z20 (zIh : ZW z2x = true) (zHb : ZW z20 = true) : Sim Z85 (ZeJ x5) (Zsg 0 (.ptr 0 0) (ZP ox5 (x5.map ZB)) [(Zv b0 z2x z20)]) := by
 unfold ZeJ
 refine zf (ZDs ..)<|ze<|zq<|zt [(Z3n 1 0 0 0 0 x5 ([] : List Zj) (shrO (shrO ox5)) .nl)] ?_
 exact zr ((pA_ (ZN (Zj.mk 1 0 0 0 0 x5 ([] : List Zj)) .sh .sh)), [(Z3n 1 0 0 0 0 x5 ([] : List Zj) (shrO (shrO ox5)) .nl)]) ⟨_, rfl⟩
def ZjA (x0 : Bool) (x1 : List Zi) : Option Zj :=
 (ZhS x1).bind fun r1 =>
 if x0 = true then
 ((ZbT r1.1).bind fun r2 =>
 ZeJ r2.1)
 else
 (ZeJ r1.1)
theorem Zvw x0 (x1 : List Zi) ox1 : Sim Z85 (ZjA x0 x1) (EE 128 [(bv x0), (ZP ox1 (x1.map ZB))] []) := by
 unfold ZjA
 refine zf (ZJL ..)<|ze<|zz (.ptr 0 0) [(Zv Z2g .nl .nl)]<|ze<|zi fun r1 hr1 => ?_
 obtain ⟨_, er1, _, rfl⟩ := Zvt x1 .sh r1 hr1
 refine zc [] (.p (.tup [(.lst .sh (r1.1.map ZB)), (.v (.int .i64 r1.2))])) [(Zv Z2g .nl .nl)] er1<|zq<|zq<|ze ?_
 refine za x0 ?_ ?_
 ·refine ze<|zi fun r2 hr2 => ?_
  obtain ⟨_, er2, _, rfl⟩ := ZjT r1.1 .sh r2 hr2
  refine zc [] (.p (.tup [(.lst .sh (r2.1.map ZB)), (.v (.int .i64 r2.2))])) [(Zv Z2g .nl .nl)] er2<|zq<|zq ?_
  exact zk (Zk1 r2.1 Z2g .sh .nl .nl rfl rfl)
 ·exact zk (Zk1 r1.1 Z2g .sh .nl .nl rfl rfl)
theorem Zy2 x0 x1 {r} (h : ZjA x0 x1 = some r) : Z4M x0 x1 = some r :=
 Z1g (fun _ _ ha hb => ru_ Zlt (ha .ex) (hb .ex)) (fun ox1 => Zvw x0 x1 ox1 r h)
def ZdO (x0 : List Zi) : Option ((List Zi) × Int) :=
 (ZeT x0).bind fun r1 =>
 some (r1, 0)
theorem ZqD (x0 : List Zi) ox0 : Sim Z5Q (ZdO x0) (ZwH 0 (ZP ox0 (x0.map ZB)) []) := by
 unfold ZdO
 refine zf (ZDD ..)<|ze<|zi fun r1 hr1 => ?_
 obtain ⟨_, er1, _, rfl⟩ := ZkI x0 .sh r1 hr1
 refine zc [] (ZP .sh (r1.map ZB)) [] er1 ?_
 exact zr ((.p (.tup [(.lst .sh (r1.map ZB)), (.v (.int .i64 0))])), []) ⟨_, rfl⟩
def ZhL (x0 : List Zi) : Option ((List Zi) × Int) :=
 (Z67 x0).bind fun r1 =>
 if r1 = true then
 (some (([] : List Zi), 13))
 else
 (ZdO x0)
theorem ZtM (x0 : List Zi) ox0 : Sim Z5Q (ZhL x0) (EE 147 [(ZP ox0 (x0.map ZB))] []) := by
 unfold ZhL
 refine zf (ZK3 ..)<|ze<|ze<|zi fun r1 hr1 => ?_
 obtain ⟨_, er1, _, rfl⟩ := Zft x0 .sh r1 hr1
 refine zc [] (bv r1) [] er1 ?_
 refine za r1 ?_ ?_
 ·refine ze ?_
  exact zr ((.p (.tup [(.lst .sh []), (.v (.int .i64 13))])), []) ⟨_, rfl⟩
 ·exact zk (ZqD x0 ox0)
theorem Zvs x0 {r} (h : ZhL x0 = some r) : ZhS x0 = some r :=
 Z1g (fun _ _ ha hb => ru_ ZiU (ha .ex) (hb .ex)) (fun ox0 => ZtM x0 ox0 r h)
def Z62 (x0 : List Zi) : Option Bool :=
 (Z7i x0).bind fun r1 =>
 some (decide (0 ≤ r1))
theorem Zf0 (x0 : List Zi) ox0 : Sim Z12 (Z62 x0) (EE 166 [(ZP ox0 (x0.map ZB)), (.clo 167 [] [])] []) := by
 unfold Z62
 refine zf (ZKm ..)<|ze<|ze<|zi fun r1 hr1 => ?_
 obtain ⟨_, er1, _, rfl⟩ := ZhE x0 .sh r1 hr1
 refine zc [] (iv r1) [] er1<|zq ?_
 exact zr ((bv (decide (0 ≤ r1))), []) ⟨_, rfl⟩
theorem Zfs x0 {r} (h : Z62 x0 = some r) : Z67 x0 = some r :=
 Z1g (fun _ _ ha hb => ru_ Z2o (ha .ex) (hb .ex)) (fun ox0 => Zf0 x0 ox0 r h)
def Z7a (x0 : List Zi) : Option Int :=
 Z4S x0 (x0.length : Int) 0
theorem ZgV (x0 : List Zi) ox0 : Sim ZL (Z7a x0) (EE 179 [(ZP ox0 (x0.map ZB)), (.clo 167 [] [])] []) := by
 unfold Z7a
 refine zf (ZKA ..)<|ze<|ze<|zp (iv (x0.length : Int)) (et_ (Z32 (P := PP) (t := 94) (d := 201) (by kernel_rfl) ZB (shrO ox0) x0)) ?_
 exact zk (Zaj x0 (x0.length : Int) 0 ox0)
theorem ZhD x0 {r} (h : Z7a x0 = some r) : Z7i x0 = some r :=
 Z1g (fun _ _ ha hb => ru_ Z2h (ha .ex) (hb .ex)) (fun ox0 => ZgV x0 ox0 r h)
def Z65 (x0 : List Zi) (x7 x8 : Int) : Option Int :=
 Z4S x0 x7 (IntKind.i64.wrap (x8 + 1))
theorem Zf7 (x0 : List Zi) x7 x8 ox0 : Sim ZL (Z65 x0 x7 x8) (Zxo 0 (ZP ox0 (x0.map ZB)) (.clo 167 [] []) (iv x7) (iv x8) []) := by
 unfold Z65
 refine zf (ZE8 ..)<|ze<|zq ?_
 exact zk (Zaj x0 x7 (IntKind.i64.wrap (x8 + 1)) ox0)
def Z64 (x0 : List Zi) (x7 x8 : Int) : Option Int :=
 (lget x0 x8).bind fun a1 =>
 (ZeR a1).bind fun r2 =>
 if r2 = true then
 (some x8)
 else
 (Z65 x0 x7 x8)
theorem Zf6 (x0 : List Zi) x7 x8 ox0 : Sim ZL (Z64 x0 x7 x8) (Zxn 0 (ZP ox0 (x0.map ZB)) (.clo 167 [] []) (iv x7) (iv x8) []) := by
 unfold Z64
 refine zf (ZE7 ..)<|ze<|ze<|zi fun a1 ha1 => zp (.cptr (Z18 a1)) (et_ (Z45 (o := (shrO ox0)) (k := .i64) (n := 2) (e := ZB) (cs := Z9l) (fun _ => rfl) (fun _ => rfl) (by decide) ha1))<|zq<|zi fun r2 hr2 => ?_
 obtain ⟨_, er2, _, rfl⟩ := ZsZ a1 r2 hr2
 refine zv [] (bv r2) [] er2 ?_
 refine za r2 ?_ ?_
 ·refine ze ?_
  exact zr ((iv x8), []) ⟨_, rfl⟩
 ·exact zk (Zf7 x0 x7 x8 ox0)
def Z8w : Option Int :=
 some (-1)
theorem Zf8 : Sim ZL Z8w (Zxp 0 []) := by
 unfold Z8w
 refine zf (ZE9 ..)<|ze ?_
 exact zr ((iv (-1)), []) ⟨_, rfl⟩
def Z4P (x0 : List Zi) (x7 x8 : Int) : Option Int :=
 if (decide (x8 < x7)) = true then
 (Z64 x0 x7 x8)
 else
 Z8w
theorem Zf5 (x0 : List Zi) x7 x8 ox0 : Sim ZL (Z4P x0 x7 x8) (ZnS 0 (ZP ox0 (x0.map ZB)) (.clo 167 [] []) (iv x7) (iv x8) []) := by
 unfold Z4P
 refine zf (ZE6 ..)<|ze<|zq ?_
 refine za (decide (x8 < x7)) ?_ ?_
 ·exact zk (Zf6 x0 x7 x8 ox0)
 ·exact zk Zf8
theorem Zai x0 x7 x8 {r} (h : Z4P x0 x7 x8 = some r) : Z4S x0 x7 x8 = some r :=
 Z1g (fun _ _ ha hb => ru_ Z2h (ha .ex) (hb .ex)) (fun ox0 => Zf5 x0 x7 x8 ox0 r h)
def ZeE (x0 : Zi) : Option Bool :=
 (Z9e x0).bind fun r1 =>
 some (!r1)
theorem Zrl x0 : Sim Z12 (ZeE x0) (EE 167 [(pA_ (Z18 x0))] []) := by
 unfold ZeE
 refine zf (ZKn ..)<|ze<|zx (.ptr 0 0) [(Z36 x0)]<|ze<|zq<|zi fun r1 hr1 => ?_
 obtain ⟨_, er1, _, rfl⟩ := ZfS x0 r1 hr1
 refine zc [] (bv r1) [(Z36 x0)] er1<|zq ?_
 exact zr ((bv (!r1)), [(Z36 x0)]) ⟨_, rfl⟩
theorem ZsY x0 {r} (h : ZeE x0 = some r) : ZeR x0 = some r :=
 Z1g (fun _ _ ha hb => ru_ Z2o ha hb) (Zrl x0 r h)
def Zbg (x0 : Zi) : Option Bool :=
 if (decide (0 ≤ x0.Lo)) = true then
 (if (decide (x0.Lo ≤ x0.Hi)) = true then
 (some (decide (x0.Hi ≤ 1114367)))
 else
 (some false))
 else
 (some false)
theorem Zme x0 : Sim Z12 (Zbg x0) (EE 168 [(pA_ (Z18 x0))] []) := by
 unfold Zbg
 refine zf (ZKo ..)<|ze<|zx (.ptr 0 0) [(Z36 x0)]<|ze<|zq<|zq<|zq ?_
 refine za (decide (0 ≤ x0.Lo)) ?_ ?_
 ·refine zq<|zq<|zq<|zq<|zq ?_
  refine za (decide (x0.Lo ≤ x0.Hi)) ?_ ?_
  ·refine zq<|zq<|zq ?_
   exact zr ((bv (decide (x0.Hi ≤ 1114367))), [(Z36 x0)]) ⟨_, rfl⟩
  ·exact zr ((bv false), [(Z36 x0)]) ⟨_, rfl⟩
 ·exact zr ((bv false), [(Z36 x0)]) ⟨_, rfl⟩
theorem Zn3 x0 {r} (h : Zbg x0 = some r) : Z9e x0 = some r :=
 Z1g (fun _ _ ha hb => ru_ Z2o ha hb) (Zme x0 r h)
def ZbH (x0 : List Zi) : Option ((List Zi) × Int) :=
 (ZdZ x0).bind fun r1 =>
 some (r1, 0)
theorem Zn5 (x0 : List Zi) ox0 : Sim Z5Q (ZbH x0) (ZwI 0 (ZP ox0 (x0.map ZB)) []) := by
 unfold ZbH
 refine zf (ZDE ..)<|ze<|zi fun r1 hr1 => ?_
 obtain ⟨_, er1, _, rfl⟩ := Zrr x0 .sh r1 hr1
 refine zc [] (ZP .sh (r1.map ZB)) [] er1 ?_
 exact zr ((.p (.tup [(.lst .sh (r1.map ZB)), (.v (.int .i64 0))])), []) ⟨_, rfl⟩
def ZdQ (x0 : List Zi) : Option ((List Zi) × Int) :=
 (Z8j x0).bind fun r1 =>
 if (!r1) = true then
 (some (([] : List Zi), 10))
 else
 (ZbH x0)
theorem ZqF (x0 : List Zi) ox0 : Sim Z5Q (ZdQ x0) (EE 148 [(ZP ox0 (x0.map ZB))] []) := by
 unfold ZdQ
 refine zf (ZK5 ..)<|ze<|ze<|zi fun r1 hr1 => ?_
 obtain ⟨_, er1, _, rfl⟩ := ZcG x0 .sh r1 hr1
 refine zc [] (bv r1) [] er1<|zq ?_
 refine za (!r1) ?_ ?_
 ·refine ze ?_
  exact zr ((.p (.tup [(.lst .sh []), (.v (.int .i64 10))])), []) ⟨_, rfl⟩
 ·exact zk (Zn5 x0 ox0)
theorem Zro x0 {r} (h : ZdQ x0 = some r) : ZbT x0 = some r :=
 Z1g (fun _ _ ha hb => ru_ ZiU (ha .ex) (hb .ex)) (fun ox0 => ZqF x0 ox0 r h)
def ZbG (x0 : List Zi) : Option Bool :=
 Z8k (-2) x0 (x0.length : Int) 0
theorem Zn4 (x0 : List Zi) ox0 : Sim Z12 (ZbG x0) (EE 170 [(ZP ox0 (x0.map ZB))] []) := by
 unfold ZbG
 refine zf (ZKp ..)<|ze<|ze<|ze<|zp (iv (x0.length : Int)) (et_ (Z32 (P := PP) (t := 95) (d := 201) (by kernel_rfl) ZB (shrO ox0) x0)) ?_
 exact zk (Ze8 (-2) x0 (x0.length : Int) 0 (shrO ox0))
theorem Zo7 x0 {r} (h : ZbG x0 = some r) : Z8j x0 = some r :=
 Z1g (fun _ _ ha hb => ru_ Z2o (ha .ex) (hb .ex)) (fun ox0 => Zn4 x0 ox0 r h)
def Z9U : Option Bool :=
 some false
theorem ZdY : Sim Z12 Z9U (Zsu 0 []) := by
 unfold Z9U
 refine zf (ZDU ..)<|ze ?_
 exact zr ((bv false), []) ⟨_, rfl⟩
def Z9W (x3 : Int) (x6 : List Zi) (x7 x8 : Int) : Option Bool :=
 Z8k x3 x6 x7 (IntKind.i64.wrap (x8 + 1))
theorem ZkR x3 (x6 : List Zi) x7 x8 ox6 : Sim Z12 (Z9W x3 x6 x7 x8) (Zx9 0 (iv x3) (ZP ox6 (x6.map ZB)) (iv x7) (iv x8) []) := by
 unfold Z9W
 refine zf (ZDW ..)<|ze<|zq ?_
 exact zk (Ze8 x3 x6 x7 (IntKind.i64.wrap (x8 + 1)) ox6)
def Z9V (x6 : List Zi) (x7 x8 : Int) (b0 : Zi) : Option Bool :=
 Z9W b0.Hi x6 x7 x8
theorem ZkQ (x6 : List Zi) x7 x8 b0 ox6 : Sim Z12 (Z9V x6 x7 x8 b0) (Zx8 0 (.ptr 0 0) (ZP ox6 (x6.map ZB)) (iv x7) (iv x8) [(Z36 b0)]) := by
 unfold Z9V
 refine zf (ZDV ..)<|ze<|zq<|zq ?_
 exact zk (ZkR b0.Hi x6 x7 x8 ox6)
def Z9T (x3 : Int) (x6 : List Zi) (x7 x8 : Int) : Option Bool :=
 (lget x6 x8).bind fun a1 =>
 (Z9e a1).bind fun r2 =>
 if (!r2) = true then
 Z9U
 else
 (if (decide (a1.Lo < (IntKind.i64.wrap (x3 + 2)))) = true then
 Z9U
 else
 (Z9V x6 x7 x8 a1))
theorem ZkP x3 (x6 : List Zi) x7 x8 ox6 : Sim Z12 (Z9T x3 x6 x7 x8) (Zx7 0 (iv x3) (ZP ox6 (x6.map ZB)) (iv x7) (iv x8) []) := by
 unfold Z9T
 refine zf (ZDT ..)<|ze<|zi fun a1 ha1 => zp (.cptr (Z18 a1)) (et_ (Z45 (o := ox6) (k := .i64) (n := 2) (e := ZB) (cs := Z9l) (fun _ => rfl) (fun _ => rfl) (by decide) ha1))<|zq<|zz (.ptr 0 0) [(Z36 (Zi.mk 0 0))]<|zt [(Z36 a1)]<|ze<|zq<|zi fun r2 hr2 => ?_
 obtain ⟨_, er2, _, rfl⟩ := ZfS a1 r2 hr2
 refine zc [] (bv r2) [(Z36 a1)] er2<|zq ?_
 refine za (!r2) ?_ ?_
 ·exact zk ZdY
 ·refine zq<|zq<|zq<|zq ?_
  refine za (decide (a1.Lo < (IntKind.i64.wrap (x3 + 2)))) ?_ ?_
  ·exact zk ZdY
  ·exact zk (ZkQ x6 x7 x8 a1 ox6)
def ZcA : Option Bool :=
 some true
theorem ZkS : Sim Z12 ZcA (Zxa 0 []) := by
 unfold ZcA
 refine zf (ZDX ..)<|ze ?_
 exact zr ((bv true), []) ⟨_, rfl⟩
def Z87 (x3 : Int) (x6 : List Zi) (x7 x8 : Int) : Option Bool :=
 if (decide (x8 < x7)) = true then
 (Z9T x3 x6 x7 x8)
 else
 ZcA
theorem ZkO x3 (x6 : List Zi) x7 x8 ox6 : Sim Z12 (Z87 x3 x6 x7 x8) (ZnP 0 (iv x3) (ZP ox6 (x6.map ZB)) (iv x7) (iv x8) []) := by
 unfold Z87
 refine zf (ZDS ..)<|ze<|zq ?_
 refine za (decide (x8 < x7)) ?_ ?_
 ·exact zk (ZkP x3 x6 x7 x8 ox6)
 ·exact zk ZkS
theorem Ze7 x3 x6 x7 x8 {r} (h : Z87 x3 x6 x7 x8 = some r) : Z8k x3 x6 x7 x8 = some r :=
 Z1g (fun _ _ ha hb => ru_ Z2o (ha .ex) (hb .ex)) (fun ox6 => ZkO x3 x6 x7 x8 ox6 r h)
def ZdR (x0 : List Zi) : Option (List Zi) :=
 Z9L ([] : List Zi) 0 x0 (x0.length : Int) 0
theorem ZqG (x0 : List Zi) ox0 : Sim Z4x (ZdR x0) (EE 171 [(ZP ox0 (x0.map ZB))] []) := by
 unfold ZdR
 refine zf (ZKt ..)<|ze<|ze<|ze<|ze<|zp (iv (x0.length : Int)) (et_ (Z32 (P := PP) (t := 95) (d := 201) (by kernel_rfl) ZB (shrO ox0) x0)) ?_
 exact zk (Zhd ([] : List Zi) 0 x0 (x0.length : Int) 0 .nl (shrO ox0) rfl)
theorem Zrq x0 {r} (h : ZdR x0 = some r) : ZdZ x0 = some r :=
 Z1g (fun _ _ ha hb => ru_ ZcX (ha .ex) (hb .ex)) (fun ox0 => ZqG x0 ox0 r h)
def ZbJ (x3 : List Zi) (x4 : Int) (x7 : List Zi) (x8 x9 : Int) : Option (List Zi) :=
 Z9L x3 x4 x7 x8 (IntKind.i64.wrap (x9 + 1))
theorem Zn8 (x3 : List Zi) x4 (x7 : List Zi) x8 x9 ox3 ox7 (hox3 : ZW ox3 = true) : Sim Z4x (ZbJ x3 x4 x7 x8 x9) (Zxf 0 (ZP ox3 (x3.map ZB)) (iv x4) (ZP ox7 (x7.map ZB)) (iv x8) (iv x9) []) := by
 unfold ZbJ
 refine zf (ZE1 ..)<|ze<|zq ?_
 exact zk (Zhd x3 x4 x7 x8 (IntKind.i64.wrap (x9 + 1)) ox3 ox7 hox3)
def Z88 (x3 x7 : List Zi) (x8 x9 : Int) (b0 : Zi) : Option (List Zi) :=
 ZbJ x3 (IntKind.i64.wrap (b0.Hi + 1)) x7 x8 x9
theorem ZfT (x3 x7 : List Zi) x8 x9 b0 ox3 ox7 (hox3 : ZW ox3 = true) : Sim Z4x (Z88 x3 x7 x8 x9 b0) (Zsy 0 (ZP ox3 (x3.map ZB)) (.ptr 0 0) (ZP ox7 (x7.map ZB)) (iv x8) (iv x9) [(Z36 b0)]) := by
 unfold Z88
 refine zf (ZE0 ..)<|ze<|zq<|zq<|zq ?_
 exact zk (Zn8 x3 (IntKind.i64.wrap (b0.Hi + 1)) x7 x8 x9 ox3 ox7 hox3)
def ZbI (x3 : List Zi) (x4 : Int) (x7 : List Zi) (x8 x9 : Int) : Option (List Zi) :=
 (lget x7 x9).bind fun a1 =>
 if (decide (x4 < a1.Lo)) = true then
 ((lapp x3 ([(Zi.mk x4 (IntKind.i64.wrap (a1.Lo - 1)))] : List Zi)).bind fun a2 =>
 Z88 a2 x7 x8 x9 a1)
 else
 (Z88 x3 x7 x8 x9 a1)
theorem Zn7 (x3 : List Zi) x4 (x7 : List Zi) x8 x9 ox3 ox7 (hox3 : ZW ox3 = true) : Sim Z4x (ZbI x3 x4 x7 x8 x9) (Zxe 0 (ZP ox3 (x3.map ZB)) (iv x4) (ZP ox7 (x7.map ZB)) (iv x8) (iv x9) []) := by
 unfold ZbI
 refine zf (ZDZ ..)<|ze<|zi fun a1 ha1 => zp (.cptr (Z18 a1)) (et_ (Z45 (o := ox7) (k := .i64) (n := 2) (e := ZB) (cs := Z9l) (fun _ => rfl) (fun _ => rfl) (by decide) ha1))<|zq<|zz (.ptr 0 0) [(Z36 (Zi.mk 0 0))]<|zt [(Z36 a1)]<|ze<|zq<|zq<|zq ?_
 refine za (decide (x4 < a1.Lo)) ?_ ?_
 ·refine ze<|zq<|zq<|zq<|zq<|zq<|zi fun a2 ha2 => zp (ZP .un (a2.map ZB)) (Eq.trans (by kernel_rfl) <| Zhr (n := 2) (o := ox3) (o' := .ex) (e := ZB) (ys := ([(Zi.mk x4 (IntKind.i64.wrap (a1.Lo - 1)))] : List Zi)) (fun _ => rfl) (by decide) hox3 ha2) ?_
  exact zk (ZfT a2 x7 x8 x9 a1 .un ox7 rfl)
 ·exact zk (ZfT x3 x7 x8 x9 a1 ox3 ox7 hox3)
def Z7J (x3 : List Zi) : Option (List Zi) :=
 some x3
theorem Zfi (x3 : List Zi) ox3 (hox3 : ZW ox3 = true) : Sim Z4x (Z7J x3) (Zpb 0 (ZP ox3 (x3.map ZB)) []) := by
 unfold Z7J
 refine zf (ZBZ ..)<|ze ?_
 exact zr ((ZP .sh (x3.map ZB)), []) ⟨_, rfl⟩
def Zbh (x3 : List Zi) (x4 : Int) : Option (List Zi) :=
 if (decide (x4 ≤ 1114367)) = true then
 ((lapp x3 ([(Zi.mk x4 1114367)] : List Zi)).bind fun a1 =>
 Z7J a1)
 else
 (Z7J x3)
theorem Zmf (x3 : List Zi) x4 ox3 (hox3 : ZW ox3 = true) : Sim Z4x (Zbh x3 x4) (ZtL 0 (ZP ox3 (x3.map ZB)) (iv x4) []) := by
 unfold Zbh
 refine zf (ZBY ..)<|ze<|zq ?_
 refine za (decide (x4 ≤ 1114367)) ?_ ?_
 ·refine ze<|zq<|zq<|zi fun a1 ha1 => zp (ZP .un (a1.map ZB)) (Eq.trans (by kernel_rfl) <| Zhr (n := 2) (o := ox3) (o' := .ex) (e := ZB) (ys := ([(Zi.mk x4 1114367)] : List Zi)) (fun _ => rfl) (by decide) hox3 ha1) ?_
  exact zk (Zfi a1 .un rfl)
 ·exact zk (Zfi x3 ox3 hox3)
def Z9G (x3 : List Zi) (x4 : Int) (x7 : List Zi) (x8 x9 : Int) : Option (List Zi) :=
 if (decide (x9 < x8)) = true then
 (ZbI x3 x4 x7 x8 x9)
 else
 (Zbh x3 x4)
theorem Zn6 (x3 : List Zi) x4 (x7 : List Zi) x8 x9 ox3 ox7 (hox3 : ZW ox3 = true) : Sim Z4x (Z9G x3 x4 x7 x8 x9) (ZnQ 0 (ZP ox3 (x3.map ZB)) (iv x4) (ZP ox7 (x7.map ZB)) (iv x8) (iv x9) []) := by
 unfold Z9G
 refine zf (ZDY ..)<|ze<|zq ?_
 refine za (decide (x9 < x8)) ?_ ?_
 ·exact zk (Zn7 x3 x4 x7 x8 x9 ox3 ox7 hox3)
 ·exact zk (Zmf x3 x4 ox3 hox3)
theorem Zhc x3 x4 x7 x8 x9 {r} (h : Z9G x3 x4 x7 x8 x9 = some r) : Z9L x3 x4 x7 x8 x9 = some r :=
 Z1g (fun _ _ ha hb => ru_ ZcX (ha .ex .ex rfl) (hb .ex .ex rfl)) (fun ox3 ox7 hox3 => Zn6 x3 x4 x7 x8 x9 ox3 ox7 hox3 r h)
def Z6k (x1 x5 zn : Int) (zh : List Zz) (z2 z6 : Int) : Option (Zj × Int × (List Zz) × Int × Int) :=
 (lapp zh ([(Zz.mk (IntKind.i64.wrap (x5 - 48)) x1)] : List Zz)).bind fun a1 =>
 some ((Zj.mk 6 0 0 0 (IntKind.i64.wrap (x5 - 48)) ([] : List Zi) ([] : List Zj)), zn, a1, z2, z6)
theorem Ziz x1 x5 zl zn z7 zd zh z2 z6 b1 zu zb zM zH (zy : ZW zb = true) (z1t : ZW zM = true) (z1f : ZW zH = true) : Sim (Z5v zl z7 zd zu) (Z6k x1 x5 zn zh z2 z6) (ZtC 1 (.ptr 0 0) (iv x1) (.ptr 1 0) (iv x5) [(ZS zl zn z7 zd zh z2 z6 zu zb), (Zv b1 zM zH)]) := by
 unfold Z6k
 refine zf (ZBD ..)<|ze<|zq<|zq<|zw (ZP zb (zh.map Z3u)) [(ZS zl zn z7 zd zh z2 z6 zu (shrO zb)), (Zv b1 zM zH)]<|zq<|zq<|zq<|zi fun a1 ha1 => zp (ZP .un (a1.map Z3u)) (Eq.trans (by kernel_rfl) <| Zhr (n := 2) (o := zb) (o' := .ex) (e := Z3u) (ys := ([(Zz.mk (IntKind.i64.wrap (x5 - 48)) x1)] : List Zz)) (fun _ => rfl) (by decide) zy ha1)<|zq<|zq<|zt [(ZS zl zn z7 zd a1 z2 z6 zu .un), (Zv b1 zM zH)]<|ze<|zq<|zq<|zt [(ZS zl zn z7 zd a1 z2 z6 zu .un), (Z3n 6 0 0 0 (IntKind.i64.wrap (x5 - 48)) ([] : List Zi) ([] : List Zj) .nl .nl)] ?_
 exact zr ((pA_ (ZN (Zj.mk 6 0 0 0 (IntKind.i64.wrap (x5 - 48)) ([] : List Zi) ([] : List Zj)) .sh .sh)), [(ZS zl zn z7 zd a1 z2 z6 zu .un), (Z3n 6 0 0 0 (IntKind.i64.wrap (x5 - 48)) ([] : List Zi) ([] : List Zj) .nl .nl)]) ⟨.un, _, rfl, rfl⟩
def Z3X (x1 x5 : Int) (zl : List Int) (zn z7 zd : Int) (zh : List Zz) (z2 z6 : Int) : Option (Zj × Int × (List Zz) × Int × Int) :=
 (Z8O x5 x1 zl zn z7 zd zh z2 z6).bind fun r1 =>
 (Z35 r1.1).bind fun r2 =>
 (Z4M false ([r2] : List Zi)).bind fun r3 =>
 some (r3, r1.2.1, zh, r1.2.2.1, r1.2.2.2)
theorem Zce x1 x5 zl zn z7 zd zh z2 z6 b1 zu zb zM zH (zy : ZW zb = true) (z1t : ZW zM = true) (z1f : ZW zH = true) : Sim (Z5v zl z7 zd zu) (Z3X x1 x5 zl zn z7 zd zh z2 z6) (Zp5 1 (.ptr 0 0) (iv x1) (.ptr 1 0) (iv x5) [(ZS zl zn z7 zd zh z2 z6 zu zb), (Zv b1 zM zH)]) := by
 unfold Z3X
 refine zf (ZBE ..)<|ze<|zi fun r1 hr1 => ?_
 obtain ⟨_, er1, _, rfl⟩ := Zfj x5 x1 zl zn z7 zd zh z2 z6 zu zb zy r1 hr1
 refine zc [0] (iv r1.1) [(ZS zl r1.2.1 z7 zd zh r1.2.2.1 r1.2.2.2 zu zb), (Zv b1 zM zH)] er1<|zi fun r2 hr2 => ?_
 obtain ⟨_, er2, _, rfl⟩ := Z2U r1.1 r2 hr2
 refine zc [] (pA_ (Z18 r2)) [(ZS zl r1.2.1 z7 zd zh r1.2.2.1 r1.2.2.2 zu zb), (Zv b1 zM zH)] er2<|zq<|zi fun r3 hr3 => ?_
 obtain ⟨_, er3, _, rfl⟩ := Z51 false ([r2] : List Zi) .sh r3 hr3
 refine zc [] (pA_ (ZN r3 .sh .sh)) [(ZS zl r1.2.1 z7 zd zh r1.2.2.1 r1.2.2.2 zu zb), (Zv b1 zM zH)] er3<|zt [(ZS zl r1.2.1 z7 zd zh r1.2.2.1 r1.2.2.2 zu zb), (Zv r3 .sh .sh)] ?_
 exact zr ((pA_ (ZN r3 .sh .sh)), [(ZS zl r1.2.1 z7 zd zh r1.2.2.1 r1.2.2.2 zu zb), (Zv r3 .sh .sh)]) ⟨zb, _, zy, rfl⟩
def Z4a (x1 x5 : Int) (zl : List Int) (zn z7 zd : Int) (zh : List Zz) (z2 z6 : Int) : Option (Zj × Int × (List Zz) × Int × Int) :=
 (Z3U zl zn).bind fun r1 =>
 (Z8W x5).bind fun r2 =>
 (nilO r2.1 r2.2).bind fun a3 =>
 if (!a3) = true then
 ((Z8W x5).bind fun r4 =>
 (Z4M (decide (x5 < 97)) r4.2).bind fun r5 =>
 some (r5, r1.2, zh, z2, z6))
 else
 (if (x5 == 98) = true then
 (some ((Zj.mk 9 0 0 0 2 ([] : List Zi) ([] : List Zj)), r1.2, zh, z2, z6))
 else
 (if (x5 == 66) = true then
 (some ((Zj.mk 9 0 0 0 3 ([] : List Zi) ([] : List Zj)), r1.2, zh, z2, z6))
 else
 (if (decide (49 ≤ x5)) = true then
 (if (decide (x5 ≤ 57)) = true then
 (Z6k x1 x5 r1.2 zh z2 z6)
 else
 (Z3X x1 x5 zl r1.2 z7 zd zh z2 z6))
 else
 (Z3X x1 x5 zl r1.2 z7 zd zh z2 z6))))
theorem Zja x1 x5 zl zn z7 zd zh z2 z6 b1 zu zb zM zH (zy : ZW zb = true) (z1t : ZW zM = true) (z1f : ZW zH = true) : Sim (Z5v zl z7 zd zu) (Z4a x1 x5 zl zn z7 zd zh z2 z6) (Zwu 1 (.ptr 0 0) (iv x1) (.ptr 1 0) (iv x5) [(ZS zl zn z7 zd zh z2 z6 zu zb), (Zv b1 zM zH)]) := by
 unfold Z4a
 refine zf (ZDt ..)<|ze<|zi fun r1 hr1 => ?_
 obtain ⟨_, er1, _, rfl⟩ := Z4u zl zn z7 zd zh z2 z6 zu zb zy r1 hr1
 refine zc [0] (iv r1.1) [(ZS zl r1.2 z7 zd zh z2 z6 zu zb), (Zv b1 zM zH)] er1<|ze<|zi fun r2 hr2 => ?_
 obtain ⟨_, er2, _, rfl⟩ := Zdk x5 r2 hr2
 refine zc [] (ZP r2.1 (r2.2.map ZB)) [(ZS zl r1.2 z7 zd zh z2 z6 zu zb), (Zv b1 zM zH)] er2<|zi fun a3 ha3 => zp (bv (!a3)) (et_ (Zqt (P := PP) (t := 94) (c := .slice none 0 0) (e := ZB) (by kernel_rfl) ha3)) ?_
 refine za (!a3) ?_ ?_
 ·refine ze<|zq<|zi fun r4 hr4 => ?_
  obtain ⟨_, er4, _, rfl⟩ := Zdk x5 r4 hr4
  refine zc [] (ZP r4.1 (r4.2.map ZB)) [(ZS zl r1.2 z7 zd zh z2 z6 zu zb), (Zv b1 zM zH)] er4<|zi fun r5 hr5 => ?_
  obtain ⟨_, er5, _, rfl⟩ := Z51 (decide (x5 < 97)) r4.2 .sh r5 hr5
  refine zc [] (pA_ (ZN r5 .sh .sh)) [(ZS zl r1.2 z7 zd zh z2 z6 zu zb), (Zv b1 zM zH)] er5<|zt [(ZS zl r1.2 z7 zd zh z2 z6 zu zb), (Zv r5 .sh .sh)] ?_
  exact zr ((pA_ (ZN r5 .sh .sh)), [(ZS zl r1.2 z7 zd zh z2 z6 zu zb), (Zv r5 .sh .sh)]) ⟨zb, _, zy, rfl⟩
 ·refine ze<|zq ?_
  refine za (x5 == 98) ?_ ?_
  ·refine ze<|zq<|zt [(ZS zl r1.2 z7 zd zh z2 z6 zu zb), (Z3n 9 0 0 0 2 ([] : List Zi) ([] : List Zj) .nl .nl)] ?_
   exact zr ((pA_ (ZN (Zj.mk 9 0 0 0 2 ([] : List Zi) ([] : List Zj)) .sh .sh)), [(ZS zl r1.2 z7 zd zh z2 z6 zu zb), (Z3n 9 0 0 0 2 ([] : List Zi) ([] : List Zj) .nl .nl)]) ⟨zb, _, zy, rfl⟩
  ·refine ze<|zq ?_
   refine za (x5 == 66) ?_ ?_
   ·refine ze<|zq<|zt [(ZS zl r1.2 z7 zd zh z2 z6 zu zb), (Z3n 9 0 0 0 3 ([] : List Zi) ([] : List Zj) .nl .nl)] ?_
    exact zr ((pA_ (ZN (Zj.mk 9 0 0 0 3 ([] : List Zi) ([] : List Zj)) .sh .sh)), [(ZS zl r1.2 z7 zd zh z2 z6 zu zb), (Z3n 9 0 0 0 3 ([] : List Zi) ([] : List Zj) .nl .nl)]) ⟨zb, _, zy, rfl⟩
   ·refine ze<|zq ?_
    refine za (decide (49 ≤ x5)) ?_ ?_
    ·refine zq ?_
     refine za (decide (x5 ≤ 57)) ?_ ?_
     ·exact zk (Ziz x1 x5 zl r1.2 z7 zd zh z2 z6 b1 zu zb zM zH zy z1t z1f)
     ·exact zk (Zce x1 x5 zl r1.2 z7 zd zh z2 z6 b1 zu zb zM zH zy z1t z1f)
    ·exact zk (Zce x1 x5 zl r1.2 z7 zd zh z2 z6 b1 zu zb zM zH zy z1t z1f)
def Z6C (x1 : Int) (zl : List Int) (zn z7 zd : Int) (zh : List Zz) (z2 z6 : Int) : Option (Zj × Int × (List Zz) × Int × Int) :=
 (Z3h (Z2c.mk zl zn z7 zd zh (Z1n.mk z2 z6))).bind fun r1 =>
 if (decide (r1 < 0)) = true then
 ((Z1A 21 x1 zl z2 z6).bind fun r2 =>
 some ((Zj.mk 0 0 0 0 0 ([] : List Zi) ([] : List Zj)), r2.1, zh, r2.2.1, r2.2.2))
 else
 (Z4a x1 r1 zl zn z7 zd zh z2 z6)
theorem Zl2 x1 zl zn z7 zd zh z2 z6 zu zb (zy : ZW zb = true) : Sim (Z5v zl z7 zd zu) (Z6C x1 zl zn z7 zd zh z2 z6) (EE 130 [(.ptr 0 0), (iv x1)] [(ZS zl zn z7 zd zh z2 z6 zu zb)]) := by
 unfold Z6C
 refine zf (ZJO ..)<|ze<|zz (.ptr 1 0) [(ZS zl zn z7 zd zh z2 z6 zu zb), (Zv Z2g .nl .nl)]<|ze<|zi fun r1 hr1 => ?_
 obtain ⟨_, er1, _, rfl⟩ := Z3q (Z2c.mk zl zn z7 zd zh (Z1n.mk z2 z6)) zu zb zy r1 hr1
 refine zc [0] (iv r1) [(ZS zl zn z7 zd zh z2 z6 zu zb), (Zv Z2g .nl .nl)] er1<|ze<|zq ?_
 refine za (decide (r1 < 0)) ?_ ?_
 ·refine ze<|zi fun r2 hr2 => ?_
  obtain ⟨_, er2, _, rfl⟩ := Z1F 21 x1 zl zn z7 zd zh z2 z6 zu zb zy r2 hr2
  refine zc [0] (.p (.tup [])) [(ZS zl r2.1 z7 zd zh r2.2.1 r2.2.2 zu zb), (Zv Z2g .nl .nl)] er2<|ze<|zq<|zt [(ZS zl r2.1 z7 zd zh r2.2.1 r2.2.2 zu zb), (Zv Z2g .nl .nl)] ?_
  exact zr ((pA_ (ZN Z2g .sh .sh)), [(ZS zl r2.1 z7 zd zh r2.2.1 r2.2.2 zu zb), (Zv Z2g .nl .nl)]) ⟨zb, _, zy, rfl⟩
 ·exact zk (Zja x1 r1 zl zn z7 zd zh z2 z6 Z2g zu zb .nl .nl zy rfl rfl)
theorem ZlM x1 zl zn z7 zd zh z2 z6 {r} (h : Z6C x1 zl zn z7 zd zh z2 z6 = some r) : Z5E x1 zl zn z7 zd zh z2 z6 = some r :=
 Z1g (fun _ _ ha hb => ru_ (Zmc _ _ _ _) (ha .ex .ex rfl) (hb .ex .ex rfl)) (fun zu zb zy => Zl2 x1 zl zn z7 zd zh z2 z6 zu zb zy r h)
end Go.Proofs.YteoeggbihfnbfaaGreatDoor.N2
end
