/- The functions' typed texts. No condition. -/
import Derived.Test.YteoeggbihfnbfaaGreatDoorTypA

set_option linter.unusedSimpArgs false
set_option linter.unusedVariables false
set_option linter.defProp false
noncomputable section
namespace Go.Proofs.YteoeggbihfnbfaaGreatDoor.N2
open Go Go.Abs
set_option maxRecDepth 100000
def Z4d  : Option (Bool) :=
 some (true)
theorem Z7r  : Sim (ZW) (Z4d) (Zsq 0  []) := by
 unfold Z4d
 refine zf (ZHZ ..)<|ze ?_
 exact zr ((bv true), []) ⟨_, rfl⟩
def Z6b (x0 : List Z13) (x1 : Int) : Option (Bool) :=
 (irem x1 (IntKind.i64.wrap ((x0.length : Int) + 1))).bind fun a1 =>
 (Zci).bind fun r2 =>
 (Zci).bind fun r3 =>
 Z50 a1 x0 (x0.length : Int) 0 r2.1 r2.2.1 r2.2.2 r3.1 r3.2.1 r3.2.2
theorem Zf6 (x0 : List Z13) x1 ox0 : Sim (ZW) (Z6b x0 x1) (ZAV 0 (ZK ox0 (x0.map Z24)) (iv x1) []) := by
 unfold Z6b
 refine zf (ZI0 ..)<|ze ?_
 refine zo (iv (x0.length : Int)) ?_ (et_ (Z2J (P := PP) (t := 59) (d := 61) (by kernel_rfl) Z24 (shrO ox0) x0))
 refine zq<|zi fun a1 ha1 => ?_
 refine zo (iv a1) ?_ (et_ (ZNP (P := PP) (t := 3) ha1))
 refine ze<|zi fun r2 hr2 => ?_
 obtain ⟨_, er2, zzV, _, zKz, rfl, _⟩ := ZhX  r2 hr2
 refine zc [] (.ptr 1 0) [(rM_ ZD r2.1), [(ZK zzV (r2.2.1.map ZF)), (.mp 0), (iv r2.2.2)]] er2<|zi fun r3 hr3 => ?_
 obtain ⟨_, er3, zEO, _, zKA, rfl, _⟩ := ZhX  r3 hr3
 refine zc [] (.ptr 3 0) [(rM_ ZD r2.1), [(ZK zzV (r2.2.1.map ZF)), (.mp 0), (iv r2.2.2)], (rM_ ZD r3.1), [(ZK zEO (r3.2.1.map ZF)), (.mp 2), (iv r3.2.2)]] er3<|ze ?_
 refine zo (iv (x0.length : Int)) ?_ (et_ (Z2J (P := PP) (t := 59) (d := 61) (by kernel_rfl) Z24 (shrO ox0) x0))
 exact zk (ZaG a1 x0 (x0.length : Int) 0 r2.1 r2.2.1 r2.2.2 r3.1 r3.2.1 r3.2.2 (shrO ox0) zzV zEO zKz zKA)
def Z6a (x0 : List Z13) (x1 : Int) : Option (Bool) :=
 (Z9D x0).bind fun r1 =>
 if (!r1) = true then
 (Z4d)
 else
 (if (decide (14 < (x0.length : Int))) = true then
 (Z4d)
 else
 (if (decide (x1 < 0)) = true then
 (Z4d)
 else
 (Z6b x0 x1)))
theorem Zf5 (x0 : List Z13) x1 ox0 : Sim (ZW) (Z6a x0 x1) (ZAU 0 (ZK ox0 (x0.map Z24)) (iv x1) []) := by
 unfold Z6a
 refine zf (ZHY ..)<|ze<|zi fun r1 hr1 => ?_
 obtain ⟨_, er1, _, rfl⟩ := ZlF x0 .sh r1 hr1
 refine zc [] (bv r1) [] er1<|zq ?_
 refine za (!r1) ?_ ?_
 ·exact zk (Z7r )
 ·refine zo (iv (x0.length : Int)) ?_ (et_ (Z2J (P := PP) (t := 59) (d := 61) (by kernel_rfl) Z24 (shrO ox0) x0))
  refine zq ?_
  refine za (decide (14 < (x0.length : Int))) ?_ ?_
  ·exact zk (Z7r )
  ·refine zq ?_
   refine za (decide (x1 < 0)) ?_ ?_
   ·exact zk (Z7r )
   ·exact zk (Zf6 x0 x1 ox0)
def Z7a (x0 : List Z13) (x1 : Int) : Option (Bool) :=
 (Zae).bind fun r1 =>
 if (!r1) = true then
 (some (false))
 else
 (Z6a x0 x1)
theorem ZgX (x0 : List Z13) x1 ox0 : Sim (ZW) (Z7a x0 x1) (EE 12 [(ZK ox0 (x0.map Z24)), (iv x1)] []) := by
 unfold Z7a
 refine zf (ZO0 ..)<|ze<|ze<|zi fun r1 hr1 => ?_
 obtain ⟨_, er1, _, rfl⟩ := Zm3  r1 hr1
 refine zc [] (bv r1) [] er1<|zq ?_
 refine za (!r1) ?_ ?_
 ·refine ze ?_
  exact zr ((bv false), []) ⟨_, rfl⟩
 ·exact zk (Zf5 x0 x1 ox0)
theorem ZhQ x0 x1 {r} (h : Z7a x0 x1 = some r) : Z9y x0 x1 = some r :=
 Z1c (fun _ _ ha hb => RRun.uniq Z2d (ha .ex) (hb .ex)) (fun ox0 => ZgX x0 x1 ox0 r h)
def Z48 (x5 : Int) (x40 : List Z13) (x41 x42 : Int) (zQ : List (Int × ZZ)) (zV : List ZC) (z37 : Int) (z11 : List (Int × ZZ)) (z2y : List ZC) (z3d : Int) : Option (Bool) :=
 Z50 x5 x40 x41 (IntKind.i64.wrap (x42 + 1)) zQ zV z37 z11 z2y z3d
theorem Za7 x5 (x40 : List Z13) x41 x42 zQ (zV : List ZC) z37 z11 (z2y : List ZC) z3d ox40 z2D z2G (z4K : ZR z2D = true) (z59 : ZR z2G = true) : Sim (ZW) (Z48 x5 x40 x41 x42 zQ zV z37 z11 z2y z3d) (ZtQ 0 (iv x5) (.ptr 1 0) (.ptr 3 0) (ZK ox40 (x40.map Z24)) (iv x41) (iv x42) [(rM_ ZD (zQ)), [(ZK z2D (zV.map ZF)), (.mp 0), (iv z37)], (rM_ ZD (z11)), [(ZK z2G (z2y.map ZF)), (.mp 2), (iv z3d)]]) := by
 unfold Z48
 refine zf (ZFC ..)<|ze<|zq ?_
 exact zk (ZaG x5 x40 x41 (IntKind.i64.wrap (x42 + 1)) zQ zV z37 z11 z2y z3d ox40 z2D z2G z4K z59)
def Z61  : Option (Bool) :=
 some (false)
theorem Za6  : Sim (ZW) (Z61) (ZtP 0  []) := by
 unfold Z61
 refine zf (ZFB ..)<|ze ?_
 exact zr ((bv false), []) ⟨_, rfl⟩
def Z60 (x5 x11 : Int) (x40 : List Z13) (x41 x42 : Int) (zQ : List (Int × ZZ)) (zV : List ZC) (z37 : Int) (z11 : List (Int × ZZ)) (z2y : List ZC) (z3d : Int) (b4 : Z13) (b5 : Z1j) : Option (Bool) :=
 (Z3I b4 zV z37 zQ).bind fun r1 =>
 if ((!((b5.Version == r1.1.Version) && ((b5.Verdict.Code == r1.1.Verdict.Code) && ((b5.Verdict.Rule == r1.1.Verdict.Rule) && ((b5.Verdict.At == r1.1.Verdict.At) && true)))))) = true then
 (Z61)
 else
 (if (x11 != r1.2.1) = true then
 (Z61)
 else
 (Z48 x5 x40 x41 x42 r1.2.2.2.2 r1.2.2.1 r1.2.2.2.1 z11 z2y z3d))
theorem ZeU x5 x11 (x40 : List Z13) x41 x42 zQ (zV : List ZC) z37 z11 (z2y : List ZC) z3d b4 b5 ox40 z2D z2G zer zdC (z4K : ZR z2D = true) (z59 : ZR z2G = true) : Sim (ZW) (Z60 x5 x11 x40 x41 x42 zQ zV z37 z11 z2y z3d b4 b5) (Zyc 0 (iv x5) (.ptr 1 0) (.ptr 3 0) (.ptr 4 0) (.ptr 5 0) (iv x11) (ZK ox40 (x40.map Z24)) (iv x41) (iv x42) [(rM_ ZD (zQ)), [(ZK z2D (zV.map ZF)), (.mp 0), (iv z37)], (rM_ ZD (z11)), [(ZK z2G (z2y.map ZF)), (.mp 2), (iv z3d)], (Z1o b4 zer zdC), (ZL b5)]) := by
 unfold Z60
 refine zf (ZFA ..)<|ze<|zq<|zi fun r1 hr1 => ?_
 obtain ⟨_, er1, z8Q, _, zvJ, rfl⟩ := Z5V b4 zV z37 zQ .sh .sh z2D z4K r1 hr1
 refine zc [1, 0] (.p (.tup [(.agg (Z1O r1.1)), (.v (.int .i64 r1.2.1))])) [(rM_ ZD r1.2.2.2.2), [(ZK z8Q (r1.2.2.1.map ZF)), (.mp 0), (iv r1.2.2.2.1)], (rM_ ZD z11), [(ZK z2G (z2y.map ZF)), (.mp 2), (iv z3d)], (Z1o b4 zer zdC), (ZL b5)] er1<|zq<|zq<|zz (.ptr 6 0) [(rM_ ZD r1.2.2.2.2), [(ZK z8Q (r1.2.2.1.map ZF)), (.mp 0), (iv r1.2.2.2.1)], (rM_ ZD z11), [(ZK z2G (z2y.map ZF)), (.mp 2), (iv z3d)], (Z1o b4 zer zdC), (ZL b5), (ZL Z9B)]<|zt [(rM_ ZD r1.2.2.2.2), [(ZK z8Q (r1.2.2.1.map ZF)), (.mp 0), (iv r1.2.2.2.1)], (rM_ ZD z11), [(ZK z2G (z2y.map ZF)), (.mp 2), (iv z3d)], (Z1o b4 zer zdC), (ZL b5), (ZL r1.1)]<|ze<|zq<|zq ?_
 refine zo (bv (!((b5.Version == r1.1.Version) && ((b5.Verdict.Code == r1.1.Verdict.Code) && ((b5.Verdict.Rule == r1.1.Verdict.Rule) && ((b5.Verdict.At == r1.1.Verdict.At) && true)))))) ?_ (Eq.trans (b := xbin PP .neq 66 (pA_ (Z1O b5)) (pA_ (Z1O r1.1))) (by kernel_rfl) (ZLm (by kernel_rfl) (by kernel_rfl) (by kernel_rfl) (by kernel_rfl) (by kernel_rfl)))
 refine za ((!((b5.Version == r1.1.Version) && ((b5.Verdict.Code == r1.1.Verdict.Code) && ((b5.Verdict.Rule == r1.1.Verdict.Rule) && ((b5.Verdict.At == r1.1.Verdict.At) && true)))))) ?_ ?_
 ·exact zk (Za6 )
 ·refine zq ?_
  refine za (x11 != r1.2.1) ?_ ?_
  ·exact zk (Za6 )
  ·exact zk (Za7 x5 x40 x41 x42 r1.2.2.2.2 r1.2.2.1 r1.2.2.2.1 z11 z2y z3d ox40 z8Q z2G zvJ z59)
def Z6c (x5 : Int) (x40 : List Z13) (x41 x42 : Int) (zQ : List (Int × ZZ)) (zV : List ZC) (z37 : Int) (z11 : List (Int × ZZ)) (z2y : List ZC) (z3d : Int) : Option (Bool) :=
 (lget x40 x42).bind fun a1 =>
 (Z3I a1 z2y z3d z11).bind fun r2 =>
 if (decide (x5 ≤ x42)) = true then
 (Z48 x5 x40 x41 x42 zQ zV z37 r2.2.2.2.2 r2.2.2.1 r2.2.2.2.1)
 else
 (Z60 x5 r2.2.1 x40 x41 x42 zQ zV z37 r2.2.2.2.2 r2.2.2.1 r2.2.2.2.1 a1 r2.1)
theorem Zf7 x5 (x40 : List Z13) x41 x42 zQ (zV : List ZC) z37 z11 (z2y : List ZC) z3d ox40 z2D z2G (z4K : ZR z2D = true) (z59 : ZR z2G = true) : Sim (ZW) (Z6c x5 x40 x41 x42 zQ zV z37 z11 z2y z3d) (ZAW 0 (iv x5) (.ptr 1 0) (.ptr 3 0) (ZK ox40 (x40.map Z24)) (iv x41) (iv x42) [(rM_ ZD (zQ)), [(ZK z2D (zV.map ZF)), (.mp 0), (iv z37)], (rM_ ZD (z11)), [(ZK z2G (z2y.map ZF)), (.mp 2), (iv z3d)]]) := by
 unfold Z6c
 refine zf (ZI1 ..)<|ze<|zi fun a1 ha1 => ?_
 refine zo (.cptr (Z3Z a1 .sh .sh)) ?_ (et_ (Z3G (o := ox40) (k := .i64) (n := 9) (e := Z24) (cs := Zch) (fun _ => rfl) (fun _ => rfl) (by decide) ha1))
 refine zq<|zz (.ptr 4 0) [(rM_ ZD zQ), [(ZK z2D (zV.map ZF)), (.mp 0), (iv z37)], (rM_ ZD z11), [(ZK z2G (z2y.map ZF)), (.mp 2), (iv z3d)], (Z1o ZLo .nl .nl)]<|zt [(rM_ ZD zQ), [(ZK z2D (zV.map ZF)), (.mp 0), (iv z37)], (rM_ ZD z11), [(ZK z2G (z2y.map ZF)), (.mp 2), (iv z3d)], (Z1o a1 .sh .sh)]<|ze<|zq<|zi fun r2 hr2 => ?_
 obtain ⟨_, er2, zq1, _, zCn, rfl⟩ := Z5V a1 z2y z3d z11 .sh .sh z2G z59 r2 hr2
 refine zc [3, 2] (.p (.tup [(.agg (Z1O r2.1)), (.v (.int .i64 r2.2.1))])) [(rM_ ZD zQ), [(ZK z2D (zV.map ZF)), (.mp 0), (iv z37)], (rM_ ZD r2.2.2.2.2), [(ZK zq1 (r2.2.2.1.map ZF)), (.mp 2), (iv r2.2.2.2.1)], (Z1o a1 .sh .sh)] er2<|zq<|zq<|zz (.ptr 5 0) [(rM_ ZD zQ), [(ZK z2D (zV.map ZF)), (.mp 0), (iv z37)], (rM_ ZD r2.2.2.2.2), [(ZK zq1 (r2.2.2.1.map ZF)), (.mp 2), (iv r2.2.2.2.1)], (Z1o a1 .sh .sh), (ZL Z9B)]<|zt [(rM_ ZD zQ), [(ZK z2D (zV.map ZF)), (.mp 0), (iv z37)], (rM_ ZD r2.2.2.2.2), [(ZK zq1 (r2.2.2.1.map ZF)), (.mp 2), (iv r2.2.2.2.1)], (Z1o a1 .sh .sh), (ZL r2.1)]<|ze<|zq ?_
 refine za (decide (x5 ≤ x42)) ?_ ?_
 ·exact zk (Za7 x5 x40 x41 x42 zQ zV z37 r2.2.2.2.2 r2.2.2.1 r2.2.2.2.1 ox40 z2D zq1 z4K zCn)
 ·exact zk (ZeU x5 r2.2.1 x40 x41 x42 zQ zV z37 r2.2.2.2.2 r2.2.2.1 r2.2.2.2.1 a1 r2.1 ox40 z2D zq1 .sh .sh z4K zCn)
def Z62 (zV z2y : List ZC) : Option (Bool) :=
 Z4I 0 zV z2y
theorem ZeV zQ (zV : List ZC) z37 z11 (z2y : List ZC) z3d z2D z2G (z4K : ZR z2D = true) (z59 : ZR z2G = true) : Sim (ZW) (Z62 zV z2y) (Zyd 0 (.ptr 1 0) (.ptr 3 0) [(rM_ ZD (zQ)), [(ZK z2D (zV.map ZF)), (.mp 0), (iv z37)], (rM_ ZD (z11)), [(ZK z2G (z2y.map ZF)), (.mp 2), (iv z3d)]]) := by
 unfold Z62
 refine zf (ZFD ..)<|ze ?_
 exact zk (Zap 0 zQ zV z37 z11 z2y z3d z2D z2G z4K z59)
def Z4W (x5 : Int) (x40 : List Z13) (x41 x42 : Int) (zQ : List (Int × ZZ)) (zV : List ZC) (z37 : Int) (z11 : List (Int × ZZ)) (z2y : List ZC) (z3d : Int) : Option (Bool) :=
 if (decide (x42 < x41)) = true then
 (Z6c x5 x40 x41 x42 zQ zV z37 z11 z2y z3d)
 else
 (Z62 zV z2y)
theorem Zf4 x5 (x40 : List Z13) x41 x42 zQ (zV : List ZC) z37 z11 (z2y : List ZC) z3d ox40 z2D z2G (z4K : ZR z2D = true) (z59 : ZR z2G = true) : Sim (ZW) (Z4W x5 x40 x41 x42 zQ zV z37 z11 z2y z3d) (Zsp 0 (iv x5) (.ptr 1 0) (.ptr 3 0) (ZK ox40 (x40.map Z24)) (iv x41) (iv x42) [(rM_ ZD (zQ)), [(ZK z2D (zV.map ZF)), (.mp 0), (iv z37)], (rM_ ZD (z11)), [(ZK z2G (z2y.map ZF)), (.mp 2), (iv z3d)]]) := by
 unfold Z4W
 refine zf (ZHX ..)<|ze<|zq ?_
 refine za (decide (x42 < x41)) ?_ ?_
 ·exact zk (Zf7 x5 x40 x41 x42 zQ zV z37 z11 z2y z3d ox40 z2D z2G z4K z59)
 ·exact zk (ZeV zQ zV z37 z11 z2y z3d z2D z2G z4K z59)
theorem ZaF x5 x40 x41 x42 zQ zV z37 z11 z2y z3d {r} (h : Z4W x5 x40 x41 x42 zQ zV z37 z11 z2y z3d = some r) : Z50 x5 x40 x41 x42 zQ zV z37 z11 z2y z3d = some r :=
 Z1c (fun _ _ ha hb => RRun.uniq Z2d (ha .ex .ex .ex rfl rfl) (hb .ex .ex .ex rfl rfl)) (fun ox40 z2D z2G z4K z59 => Zf4 x5 x40 x41 x42 zQ zV z37 z11 z2y z3d ox40 z2D z2G z4K z59 r h)
def Z4G  : Option (Bool) :=
 some (false)
theorem Z6Z  : Sim (ZW) (Z4G) (Zp0 0  []) := by
 unfold Z4G
 refine zf (ZFG ..)<|ze ?_
 exact zr ((bv false), []) ⟨_, rfl⟩
def Z63 (x14 : Int) (zV z2y : List ZC) : Option (Bool) :=
 Z4I (IntKind.i64.wrap (x14 + 1)) zV z2y
theorem ZeW x14 zQ (zV : List ZC) z37 z11 (z2y : List ZC) z3d z2D z2G (z4K : ZR z2D = true) (z59 : ZR z2G = true) : Sim (ZW) (Z63 x14 zV z2y) (Zye 0 (.ptr 1 0) (.ptr 3 0) (iv x14) [(rM_ ZD (zQ)), [(ZK z2D (zV.map ZF)), (.mp 0), (iv z37)], (rM_ ZD (z11)), [(ZK z2G (z2y.map ZF)), (.mp 2), (iv z3d)]]) := by
 unfold Z63
 refine zf (ZFE ..)<|ze<|zq ?_
 exact zk (Zap (IntKind.i64.wrap (x14 + 1)) zQ zV z37 z11 z2y z3d z2D z2G z4K z59)
def Z64 (x14 : Int) (zV z2y : List ZC) : Option (Bool) :=
 (Z6U x14 zV).bind fun r1 =>
 (Z6U x14 z2y).bind fun r2 =>
 if (!r1.2) = true then
 (Z4G)
 else
 (if (!r2.2) = true then
 (Z4G)
 else
 ((Zaq r1.1).bind fun r3 =>
 (Zaq r2.1).bind fun r4 =>
 (Zfj r3 r4).bind fun r5 =>
 if (!r5) = true then
 (Z4G)
 else
 (Z63 x14 zV z2y)))
theorem ZeX x14 zQ (zV : List ZC) z37 z11 (z2y : List ZC) z3d z2D z2G (z4K : ZR z2D = true) (z59 : ZR z2G = true) : Sim (ZW) (Z64 x14 zV z2y) (Zyf 0 (.ptr 1 0) (.ptr 3 0) (iv x14) [(rM_ ZD (zQ)), [(ZK z2D (zV.map ZF)), (.mp 0), (iv z37)], (rM_ ZD (z11)), [(ZK z2G (z2y.map ZF)), (.mp 2), (iv z3d)]]) := by
 unfold Z64
 refine zf (ZFF ..)<|ze<|zi fun r1 hr1 => ?_
 obtain ⟨_, er1, _, rfl⟩ := Zdu x14 zV z37 zQ z2D z4K r1 hr1
 refine zc [1, 0] (.p (.tup [(.agg (Z1z r1.1 .sh)), (.v (.bool r1.2))])) [(rM_ ZD zQ), [(ZK z2D (zV.map ZF)), (.mp 0), (iv z37)], (rM_ ZD z11), [(ZK z2G (z2y.map ZF)), (.mp 2), (iv z3d)]] er1<|zq<|zq<|zz (.ptr 4 0) [(rM_ ZD zQ), [(ZK z2D (zV.map ZF)), (.mp 0), (iv z37)], (rM_ ZD z11), [(ZK z2G (z2y.map ZF)), (.mp 2), (iv z3d)], (Zx Z4i .nl)]<|zt [(rM_ ZD zQ), [(ZK z2D (zV.map ZF)), (.mp 0), (iv z37)], (rM_ ZD z11), [(ZK z2G (z2y.map ZF)), (.mp 2), (iv z3d)], (Zx r1.1 .sh)]<|ze<|zi fun r2 hr2 => ?_
 obtain ⟨_, er2, _, rfl⟩ := Zdu x14 z2y z3d z11 z2G z59 r2 hr2
 refine zc [3, 2] (.p (.tup [(.agg (Z1z r2.1 .sh)), (.v (.bool r2.2))])) [(rM_ ZD zQ), [(ZK z2D (zV.map ZF)), (.mp 0), (iv z37)], (rM_ ZD z11), [(ZK z2G (z2y.map ZF)), (.mp 2), (iv z3d)], (Zx r1.1 .sh)] er2<|zq<|zq<|zz (.ptr 5 0) [(rM_ ZD zQ), [(ZK z2D (zV.map ZF)), (.mp 0), (iv z37)], (rM_ ZD z11), [(ZK z2G (z2y.map ZF)), (.mp 2), (iv z3d)], (Zx r1.1 .sh), (Zx Z4i .nl)]<|zt [(rM_ ZD zQ), [(ZK z2D (zV.map ZF)), (.mp 0), (iv z37)], (rM_ ZD z11), [(ZK z2G (z2y.map ZF)), (.mp 2), (iv z3d)], (Zx r1.1 .sh), (Zx r2.1 .sh)]<|ze<|zq ?_
 refine za (!r1.2) ?_ ?_
 ·refine zg ?_
  exact zk (Z6Z )
 ·refine zq ?_
  refine za (!r2.2) ?_ ?_
  ·refine zg ?_
   exact zk (Z6Z )
  ·refine zq<|zi fun r3 hr3 => ?_
   obtain ⟨_, er3, _, rfl⟩ := Zio r1.1 .sh r3 hr3
   refine zc [] (pA_ (Z4j r3 .sh)) [(rM_ ZD zQ), [(ZK z2D (zV.map ZF)), (.mp 0), (iv z37)], (rM_ ZD z11), [(ZK z2G (z2y.map ZF)), (.mp 2), (iv z3d)], (Zx r1.1 .sh), (Zx r2.1 .sh)] er3<|zq<|zi fun r4 hr4 => ?_
   obtain ⟨_, er4, _, rfl⟩ := Zio r2.1 .sh r4 hr4
   refine zc [] (pA_ (Z4j r4 .sh)) [(rM_ ZD zQ), [(ZK z2D (zV.map ZF)), (.mp 0), (iv z37)], (rM_ ZD z11), [(ZK z2G (z2y.map ZF)), (.mp 2), (iv z3d)], (Zx r1.1 .sh), (Zx r2.1 .sh)] er4<|zi fun r5 hr5 => ?_
   obtain ⟨_, er5, _, rfl⟩ := Zxb r3 r4 .sh .sh r5 hr5
   refine zc [] (bv r5) [(rM_ ZD zQ), [(ZK z2D (zV.map ZF)), (.mp 0), (iv z37)], (rM_ ZD z11), [(ZK z2G (z2y.map ZF)), (.mp 2), (iv z3d)], (Zx r1.1 .sh), (Zx r2.1 .sh)] er5<|zq<|zg ?_
   refine za (!r5) ?_ ?_
   ·exact zk (Z6Z )
   ·exact zk (ZeW x14 zQ zV z37 z11 z2y z3d z2D z2G z4K z59)
def Z65 (zV z2y : List ZC) : Option (Bool) :=
 (Z41 zV).bind fun r1 =>
 (Z41 z2y).bind fun r2 =>
 some (decide (r1 ≤ r2))
theorem ZeY zQ (zV : List ZC) z37 z11 (z2y : List ZC) z3d z2D z2G (z4K : ZR z2D = true) (z59 : ZR z2G = true) : Sim (ZW) (Z65 zV z2y) (Zyg 0 (.ptr 1 0) (.ptr 3 0) [(rM_ ZD (zQ)), [(ZK z2D (zV.map ZF)), (.mp 0), (iv z37)], (rM_ ZD (z11)), [(ZK z2G (z2y.map ZF)), (.mp 2), (iv z3d)]]) := by
 unfold Z65
 refine zf (ZFH ..)<|ze<|zi fun r1 hr1 => ?_
 obtain ⟨_, er1, _, rfl⟩ := Z6g zV z37 zQ z2D z4K r1 hr1
 refine zc [1, 0] (iv r1) [(rM_ ZD zQ), [(ZK z2D (zV.map ZF)), (.mp 0), (iv z37)], (rM_ ZD z11), [(ZK z2G (z2y.map ZF)), (.mp 2), (iv z3d)]] er1<|zi fun r2 hr2 => ?_
 obtain ⟨_, er2, _, rfl⟩ := Z6g z2y z3d z11 z2G z59 r2 hr2
 refine zc [3, 2] (iv r2) [(rM_ ZD zQ), [(ZK z2D (zV.map ZF)), (.mp 0), (iv z37)], (rM_ ZD z11), [(ZK z2G (z2y.map ZF)), (.mp 2), (iv z3d)]] er2<|zq ?_
 exact zr ((bv (decide (r1 ≤ r2))), [(rM_ ZD zQ), [(ZK z2D (zV.map ZF)), (.mp 0), (iv z37)], (rM_ ZD z11), [(ZK z2G (z2y.map ZF)), (.mp 2), (iv z3d)]]) ⟨_, rfl⟩
def Z4F (x14 : Int) (zV z2y : List ZC) : Option (Bool) :=
 (Z41 zV).bind fun r1 =>
 if (decide (x14 ≤ r1)) = true then
 (Z64 x14 zV z2y)
 else
 (Z65 zV z2y)
theorem ZeT x14 zQ (zV : List ZC) z37 z11 (z2y : List ZC) z3d z2D z2G (z4K : ZR z2D = true) (z59 : ZR z2G = true) : Sim (ZW) (Z4F x14 zV z2y) (ZoZ 0 (.ptr 1 0) (.ptr 3 0) (iv x14) [(rM_ ZD (zQ)), [(ZK z2D (zV.map ZF)), (.mp 0), (iv z37)], (rM_ ZD (z11)), [(ZK z2G (z2y.map ZF)), (.mp 2), (iv z3d)]]) := by
 unfold Z4F
 refine zf (ZFz ..)<|ze<|zi fun r1 hr1 => ?_
 obtain ⟨_, er1, _, rfl⟩ := Z6g zV z37 zQ z2D z4K r1 hr1
 refine zc [1, 0] (iv r1) [(rM_ ZD zQ), [(ZK z2D (zV.map ZF)), (.mp 0), (iv z37)], (rM_ ZD z11), [(ZK z2G (z2y.map ZF)), (.mp 2), (iv z3d)]] er1<|zq ?_
 refine za (decide (x14 ≤ r1)) ?_ ?_
 ·exact zk (ZeX x14 zQ zV z37 z11 z2y z3d z2D z2G z4K z59)
 ·exact zk (ZeY zQ zV z37 z11 z2y z3d z2D z2G z4K z59)
theorem Zao x14 zV z2y {r} (h : Z4F x14 zV z2y = some r) : Z4I x14 zV z2y = some r :=
 Z1c (fun _ _ ha hb => RRun.uniq Z2d (ha default default default default .ex .ex rfl rfl) (hb default default default default .ex .ex rfl rfl)) (fun zQ z37 z11 z3d z2D z2G z4K z59 => ZeT x14 zQ zV z37 z11 z2y z3d z2D z2G z4K z59 r h)
def Za9  : Option (Bool) :=
 (Zci).bind fun r1 =>
 (Z6F 1 1 3 (ByteArray.mk #[97])).bind fun r2 =>
 (Z3I r2 r1.2.1 r1.2.2 r1.1).bind fun r3 =>
 (Z6F 1 1 3 (ByteArray.mk #[97])).bind fun r4 =>
 (Z3I r4 r3.2.2.1 r3.2.2.2.1 r3.2.2.2.2).bind fun r5 =>
 (Z6F 1 2 4 (ByteArray.mk #[40])).bind fun r6 =>
 (Z3I r6 r5.2.2.1 r5.2.2.2.1 r5.2.2.2.2).bind fun r7 =>
 if (r3.2.1 == 0) = true then
 (if (r5.2.1 == 0) = true then
 (if (r7.2.1 == 0) = true then
 (if (((r3.1.Version == 1) && ((r3.1.Verdict.Code == 0) && ((r3.1.Verdict.Rule == 0) && ((r3.1.Verdict.At == 0) && true))))) = true then
 (if (r5.1.Verdict.Code == 31) = true then
 (if ((r7.1.Verdict.Code == 20) && ((r7.1.Verdict.Rule == 4) && ((r7.1.Verdict.At == 0) && true))) = true then
 ((Z41 r7.2.2.1).bind fun r8 =>
 some (r8 == 1))
 else
 (some (false)))
 else
 (some (false)))
 else
 (some (false)))
 else
 (some (false)))
 else
 (some (false)))
 else
 (some (false))
theorem ZlD  : Sim (ZW) (Za9) (EE 29 [] []) := by
 unfold Za9
 refine zf (ZOA ..)<|ze<|ze<|zi fun r1 hr1 => ?_
 obtain ⟨_, er1, zzU, _, zKy, rfl, _⟩ := ZhX  r1 hr1
 refine zc [] (.ptr 1 0) [(rM_ ZD r1.1), [(ZK zzU (r1.2.1.map ZF)), (.mp 0), (iv r1.2.2)]] er1<|ze<|zi fun r2 hr2 => ?_
 obtain ⟨_, er2, _, rfl⟩ := ZcR 1 1 3 (ByteArray.mk #[97]) r2 hr2
 refine zc [] (pA_ (Z3Z r2 .sh .sh)) [(rM_ ZD r1.1), [(ZK zzU (r1.2.1.map ZF)), (.mp 0), (iv r1.2.2)]] er2<|zi fun r3 hr3 => ?_
 obtain ⟨_, er3, zq3, _, zKC, rfl⟩ := Z5V r2 r1.2.1 r1.2.2 r1.1 .sh .sh zzU zKy r3 hr3
 refine zc [1, 0] (.p (.tup [(.agg (Z1O r3.1)), (.v (.int .i64 r3.2.1))])) [(rM_ ZD r3.2.2.2.2), [(ZK zq3 (r3.2.2.1.map ZF)), (.mp 0), (iv r3.2.2.2.1)]] er3<|zq<|zq<|zz (.ptr 2 0) [(rM_ ZD r3.2.2.2.2), [(ZK zq3 (r3.2.2.1.map ZF)), (.mp 0), (iv r3.2.2.2.1)], (ZL Z9B)]<|zt [(rM_ ZD r3.2.2.2.2), [(ZK zq3 (r3.2.2.1.map ZF)), (.mp 0), (iv r3.2.2.2.1)], (ZL r3.1)]<|ze<|zi fun r4 hr4 => ?_
 obtain ⟨_, er4, _, rfl⟩ := ZcR 1 1 3 (ByteArray.mk #[97]) r4 hr4
 refine zc [] (pA_ (Z3Z r4 .sh .sh)) [(rM_ ZD r3.2.2.2.2), [(ZK zq3 (r3.2.2.1.map ZF)), (.mp 0), (iv r3.2.2.2.1)], (ZL r3.1)] er4<|zi fun r5 hr5 => ?_
 obtain ⟨_, er5, zq5, _, zKE, rfl⟩ := Z5V r4 r3.2.2.1 r3.2.2.2.1 r3.2.2.2.2 .sh .sh zq3 zKC r5 hr5
 refine zc [1, 0] (.p (.tup [(.agg (Z1O r5.1)), (.v (.int .i64 r5.2.1))])) [(rM_ ZD r5.2.2.2.2), [(ZK zq5 (r5.2.2.1.map ZF)), (.mp 0), (iv r5.2.2.2.1)], (ZL r3.1)] er5<|zq<|zq<|zz (.ptr 3 0) [(rM_ ZD r5.2.2.2.2), [(ZK zq5 (r5.2.2.1.map ZF)), (.mp 0), (iv r5.2.2.2.1)], (ZL r3.1), (ZL Z9B)]<|zt [(rM_ ZD r5.2.2.2.2), [(ZK zq5 (r5.2.2.1.map ZF)), (.mp 0), (iv r5.2.2.2.1)], (ZL r3.1), (ZL r5.1)]<|ze<|zi fun r6 hr6 => ?_
 obtain ⟨_, er6, _, rfl⟩ := ZcR 1 2 4 (ByteArray.mk #[40]) r6 hr6
 refine zc [] (pA_ (Z3Z r6 .sh .sh)) [(rM_ ZD r5.2.2.2.2), [(ZK zq5 (r5.2.2.1.map ZF)), (.mp 0), (iv r5.2.2.2.1)], (ZL r3.1), (ZL r5.1)] er6<|zi fun r7 hr7 => ?_
 obtain ⟨_, er7, zcj, _, zKG, rfl⟩ := Z5V r6 r5.2.2.1 r5.2.2.2.1 r5.2.2.2.2 .sh .sh zq5 zKE r7 hr7
 refine zc [1, 0] (.p (.tup [(.agg (Z1O r7.1)), (.v (.int .i64 r7.2.1))])) [(rM_ ZD r7.2.2.2.2), [(ZK zcj (r7.2.2.1.map ZF)), (.mp 0), (iv r7.2.2.2.1)], (ZL r3.1), (ZL r5.1)] er7<|zq<|zq<|zz (.ptr 4 0) [(rM_ ZD r7.2.2.2.2), [(ZK zcj (r7.2.2.1.map ZF)), (.mp 0), (iv r7.2.2.2.1)], (ZL r3.1), (ZL r5.1), (ZL Z9B)]<|zt [(rM_ ZD r7.2.2.2.2), [(ZK zcj (r7.2.2.1.map ZF)), (.mp 0), (iv r7.2.2.2.1)], (ZL r3.1), (ZL r5.1), (ZL r7.1)]<|ze<|zq ?_
 refine za (r3.2.1 == 0) ?_ ?_
 ·refine zq ?_
  refine za (r5.2.1 == 0) ?_ ?_
  ·refine zq ?_
   refine za (r7.2.1 == 0) ?_ ?_
   ·refine zq<|zq ?_
    refine zo (bv ((r3.1.Version == 1) && ((r3.1.Verdict.Code == 0) && ((r3.1.Verdict.Rule == 0) && ((r3.1.Verdict.At == 0) && true))))) ?_ (Eq.trans (b := xbin PP .eql 66 (pA_ (Z1O r3.1)) (pA_ (Z1O (Z1j.mk 1 Z7O)))) (by kernel_rfl) (ZLl (by kernel_rfl) (by kernel_rfl) (by kernel_rfl) (by kernel_rfl) (by kernel_rfl)))
    refine za (((r3.1.Version == 1) && ((r3.1.Verdict.Code == 0) && ((r3.1.Verdict.Rule == 0) && ((r3.1.Verdict.At == 0) && true))))) ?_ ?_
    ·refine zq<|zq<|zq<|zq ?_
     refine za (r5.1.Verdict.Code == 31) ?_ ?_
     ·refine zq<|zq<|zq ?_
      refine zo (bv ((r7.1.Verdict.Code == 20) && ((r7.1.Verdict.Rule == 4) && ((r7.1.Verdict.At == 0) && true)))) ?_ (Eq.trans (b := xbin PP .eql 32 (pA_ (Z1W r7.1.Verdict)) (pA_ (Z1W (ZX.mk 20 4 0)))) (by kernel_rfl) (ZNN (by kernel_rfl) (by kernel_rfl) (by kernel_rfl) (by kernel_rfl) (by kernel_rfl)))
      refine za ((r7.1.Verdict.Code == 20) && ((r7.1.Verdict.Rule == 4) && ((r7.1.Verdict.At == 0) && true))) ?_ ?_
      ·refine zi fun r8 hr8 => ?_
       obtain ⟨_, er8, _, rfl⟩ := Z6g r7.2.2.1 r7.2.2.2.1 r7.2.2.2.2 zcj zKG r8 hr8
       refine zc [1, 0] (iv r8) [(rM_ ZD r7.2.2.2.2), [(ZK zcj (r7.2.2.1.map ZF)), (.mp 0), (iv r7.2.2.2.1)], (ZL r3.1), (ZL r5.1), (ZL r7.1)] er8<|zq ?_
       exact zr ((bv (r8 == 1)), [(rM_ ZD r7.2.2.2.2), [(ZK zcj (r7.2.2.1.map ZF)), (.mp 0), (iv r7.2.2.2.1)], (ZL r3.1), (ZL r5.1), (ZL r7.1)]) ⟨_, rfl⟩
      ·exact zr ((bv false), [(rM_ ZD r7.2.2.2.2), [(ZK zcj (r7.2.2.1.map ZF)), (.mp 0), (iv r7.2.2.2.1)], (ZL r3.1), (ZL r5.1), (ZL r7.1)]) ⟨_, rfl⟩
     ·exact zr ((bv false), [(rM_ ZD r7.2.2.2.2), [(ZK zcj (r7.2.2.1.map ZF)), (.mp 0), (iv r7.2.2.2.1)], (ZL r3.1), (ZL r5.1), (ZL r7.1)]) ⟨_, rfl⟩
    ·exact zr ((bv false), [(rM_ ZD r7.2.2.2.2), [(ZK zcj (r7.2.2.1.map ZF)), (.mp 0), (iv r7.2.2.2.1)], (ZL r3.1), (ZL r5.1), (ZL r7.1)]) ⟨_, rfl⟩
   ·exact zr ((bv false), [(rM_ ZD r7.2.2.2.2), [(ZK zcj (r7.2.2.1.map ZF)), (.mp 0), (iv r7.2.2.2.1)], (ZL r3.1), (ZL r5.1), (ZL r7.1)]) ⟨_, rfl⟩
  ·exact zr ((bv false), [(rM_ ZD r7.2.2.2.2), [(ZK zcj (r7.2.2.1.map ZF)), (.mp 0), (iv r7.2.2.2.1)], (ZL r3.1), (ZL r5.1), (ZL r7.1)]) ⟨_, rfl⟩
 ·exact zr ((bv false), [(rM_ ZD r7.2.2.2.2), [(ZK zcj (r7.2.2.1.map ZF)), (.mp 0), (iv r7.2.2.2.1)], (ZL r3.1), (ZL r5.1), (ZL r7.1)]) ⟨_, rfl⟩
theorem Zm2  {r} (h : Za9 = some r) : Zae = some r :=
 Z1c (fun _ _ ha hb => RRun.uniq Z2d (ha ) (hb )) (ZlD  r h)
def Zhx  : Option ((List (Int × ZZ)) × (List ZC) × Int) :=
 (Zja).bind fun r1 =>
 some (([] : List (Int × ZZ)), ([r1] : List ZC), 0)
theorem ZuB  : Sim (Zht) (Zhx) (EE 32 [] []) := by
 unfold Zhx
 refine zf (ZOG ..)<|ze<|ze<|zi fun r1 hr1 => ?_
 obtain ⟨_, er1, _, rfl⟩ := Zxf  r1 hr1
 refine zc [] (pA_ (Z1z r1 .sh)) [] er1<|zq<|zm (.mp 0) [(rM_ ZD ([] : List (Int × ZZ)))]<|zq<|zx (.ptr 1 0) [(rM_ ZD ([] : List (Int × ZZ))), [(ZK .ex (([r1] : List ZC).map ZF)), (.mp 0), (iv 0)]] ?_
 exact zr ((.ptr 1 0), [(rM_ ZD ([] : List (Int × ZZ))), [(ZK .ex (([r1] : List ZC).map ZF)), (.mp 0), (iv 0)]]) ⟨.ex, [], rfl, rfl, rfl⟩
theorem Zvo  {r} (h : Zhx = some r) : Zci = some r :=
 Z1c (fun _ _ ha hb => RRun.uniq Zwf (ha ) (hb )) (ZuB  r h)
def ZmE  : Option (ZC) :=
 some (ZC.mk 0 255 10000 500 ([] : List Zw))
theorem Zvx  : Sim (ZiT) (ZmE) (EE 43 [] []) := by
 unfold ZmE
 refine zf (ZOM ..)<|ze<|zz (.ptr 0 0) [(Zx Z4i .nl)]<|ze<|zq<|zt [(Z2z 0 255 10000 500 ([] : List Zw) .nl)] ?_
 exact zr ((pA_ (Z1z (ZC.mk 0 255 10000 500 ([] : List Zw)) .sh)), [(Z2z 0 255 10000 500 ([] : List Zw) .nl)]) ⟨_, rfl⟩
theorem Zxe  {r} (h : ZmE = some r) : Zja = some r :=
 Z1c (fun _ _ ha hb => RRun.uniq ZxQ (ha ) (hb )) (Zvx  r h)
def ZeB (x0 x1 x2 : Int) (x3 : ByteArray) : Option (Z13) :=
 some (Z13.mk 0 x0 x1 (Z1f.mk (-1) (-1) (-1) (-1) ([(Zw.mk x2 0 0 1 x3)] : List Zw) ([] : List Int)))
theorem Znr x0 x1 x2 x3 : Sim (ZbW) (ZeB x0 x1 x2 x3) (EE 55 [(iv x0), (iv x1), (iv x2), (.p (.v (.string x3)))] []) := by
 unfold ZeB
 refine zf (ZOW ..)<|ze<|zz (.ptr 0 0) [(Z1o ZLo .nl .nl)]<|ze<|zq<|zq<|zq<|zq<|zt [(Z1o (Z13.mk 0 x0 x1 (Z1f.mk (-1) (-1) (-1) (-1) ([(Zw.mk x2 0 0 1 x3)] : List Zw) ([] : List Int))) .ex .nl)] ?_
 exact zr ((pA_ (Z3Z (Z13.mk 0 x0 x1 (Z1f.mk (-1) (-1) (-1) (-1) ([(Zw.mk x2 0 0 1 x3)] : List Zw) ([] : List Int))) .sh .sh)), [(Z1o (Z13.mk 0 x0 x1 (Z1f.mk (-1) (-1) (-1) (-1) ([(Zw.mk x2 0 0 1 x3)] : List Zw) ([] : List Int))) .ex .nl)]) ⟨_, rfl⟩
theorem ZgY x0 x1 x2 x3 {r} (h : ZeB x0 x1 x2 x3 = some r) : Z6F x0 x1 x2 x3 = some r :=
 Z1c (fun _ _ ha hb => RRun.uniq ZoN (ha ) (hb )) (Znr x0 x1 x2 x3 r h)
def Z9V (zQ : List ZC) (z1S : Int) (zV : List (Int × ZZ)) : Option (Z1j × Int × (List ZC) × Int × (List (Int × ZZ))) :=
 some ((Z1j.mk 0 (ZX.mk 31 0 0)), 0, zQ, z1S, zV)
theorem ZhT (zQ : List ZC) z1S zV b2 b3 z1B z34 z2Q (z3B : ZR z1B = true) : Sim (Z4D) (Z9V zQ z1S zV) (ZBy 2 (.ptr 3 0) [[(ZK z1B (zQ.map ZF)), (.mp 1), (iv z1S)], (rM_ ZD (zV)), (Z1o b2 z34 z2Q), (ZL b3)]) := by
 unfold Z9V
 refine zf (ZIO ..)<|ze<|zq<|zq<|zt [[(ZK z1B (zQ.map ZF)), (.mp 1), (iv z1S)], (rM_ ZD zV), (Z1o b2 z34 z2Q), (ZL (Z1j.mk 0 (ZX.mk 31 0 0)))] ?_
 exact zr ((.p (.tup [(.agg (Z1O (Z1j.mk 0 (ZX.mk 31 0 0)))), (.v (.int .i64 0))])), [[(ZK z1B (zQ.map ZF)), (.mp 1), (iv z1S)], (rM_ ZD zV), (Z1o b2 z34 z2Q), (ZL (Z1j.mk 0 (ZX.mk 31 0 0)))]) ⟨z1B, _, z3B, rfl⟩
def Z4Q (zQ : List ZC) (z1S : Int) (zV : List (Int × ZZ)) (b2 : Z13) : Option (Z1j × Int × (List ZC) × Int × (List (Int × ZZ))) :=
 (Z7E b2.Delta zQ).bind fun r1 =>
 some (r1.1, 0, r1.2, z1S, (putM zV b2.Client (ZZ.mk b2.Request (Z1j.mk r1.1.Version (ZX.mk r1.1.Verdict.Code r1.1.Verdict.Rule r1.1.Verdict.At)))))
theorem ZbE (zQ : List ZC) z1S zV b2 b3 z1B z34 z2Q (z3B : ZR z1B = true) : Sim (Z4D) (Z4Q zQ z1S zV b2) (ZwO 2 (.ptr 0 0) (.ptr 2 0) (.ptr 3 0) [[(ZK z1B (zQ.map ZF)), (.mp 1), (iv z1S)], (rM_ ZD (zV)), (Z1o b2 z34 z2Q), (ZL b3)]) := by
 unfold Z4Q
 refine zf (ZIP ..)<|ze<|zq<|zq<|zi fun r1 hr1 => ?_
 obtain ⟨_, er1, z8Q, _, zvJ, rfl⟩ := ZiH b2.Delta zQ z1S zV .sh .sh z1B z3B r1 hr1
 refine zc [0, 1] (pA_ (Z1O r1.1)) [[(ZK z8Q (r1.2.map ZF)), (.mp 1), (iv z1S)], (rM_ ZD zV), (Z1o b2 z34 z2Q), (ZL b3)] er1<|zz (.ptr 4 0) [[(ZK z8Q (r1.2.map ZF)), (.mp 1), (iv z1S)], (rM_ ZD zV), (Z1o b2 z34 z2Q), (ZL b3), (ZL Z9B)]<|zt [[(ZK z8Q (r1.2.map ZF)), (.mp 1), (iv z1S)], (rM_ ZD zV), (Z1o b2 z34 z2Q), (ZL b3), (ZL r1.1)]<|ze<|zq<|zq<|zq<|zq<|zq<|zq<|zq<|zq<|zq ?_
 refine Sim.xupd (B2 := [[(ZK z8Q (r1.2.map ZF)), (.mp 1), (iv z1S)], (rM_ ZD (putM zV b2.Client (ZZ.mk b2.Request (Z1j.mk r1.1.Version (ZX.mk r1.1.Verdict.Code r1.1.Verdict.Rule r1.1.Verdict.At))))), (Z1o b2 z34 z2Q), (ZL b3), (ZL r1.1)]) (fun K => Eq.trans (b := xupd PP 122 (.mp 1) (iv b2.Client) (pA_ (ZeR (ZZ.mk b2.Request (Z1j.mk r1.1.Version (ZX.mk r1.1.Verdict.Code r1.1.Verdict.Rule r1.1.Verdict.At))))) [[(ZK z8Q (r1.2.map ZF)), (.mp 1), (iv z1S)], (rM_ ZD zV), (Z1o b2 z34 z2Q), (ZL b3), (ZL r1.1)] K) (by kernel_rfl) <| Zuu (P := PP) (t := 122) (K := K) (B2 := [[(ZK z8Q (r1.2.map ZF)), (.mp 1), (iv z1S)], (rM_ ZD (putM zV b2.Client (ZZ.mk b2.Request (Z1j.mk r1.1.Version (ZX.mk r1.1.Verdict.Code r1.1.Verdict.Rule r1.1.Verdict.At))))), (Z1o b2 z34 z2Q), (ZL b3), (ZL r1.1)]) (e := ZD) (a := (ZZ.mk b2.Request (Z1j.mk r1.1.Version (ZX.mk r1.1.Verdict.Code r1.1.Verdict.Rule r1.1.Verdict.At)))) (es := zV) (te := 126) (by kernel_rfl) (by kernel_rfl) (by kernel_rfl) (by kernel_rfl) (by kernel_rfl)) ?_
 refine ze<|zq<|zt [[(ZK z8Q (r1.2.map ZF)), (.mp 1), (iv z1S)], (rM_ ZD (putM zV b2.Client (ZZ.mk b2.Request (Z1j.mk r1.1.Version (ZX.mk r1.1.Verdict.Code r1.1.Verdict.Rule r1.1.Verdict.At))))), (Z1o b2 z34 z2Q), (ZL r1.1), (ZL r1.1)] ?_
 exact zr ((.p (.tup [(.agg (Z1O r1.1)), (.v (.int .i64 0))])), [[(ZK z8Q (r1.2.map ZF)), (.mp 1), (iv z1S)], (rM_ ZD (putM zV b2.Client (ZZ.mk b2.Request (Z1j.mk r1.1.Version (ZX.mk r1.1.Verdict.Code r1.1.Verdict.Rule r1.1.Verdict.At))))), (Z1o b2 z34 z2Q), (ZL r1.1), (ZL r1.1)]) ⟨z8Q, _, zvJ, rfl⟩
def Z4P (zQ : List ZC) (z1S : Int) (zV : List (Int × ZZ)) (b2 : Z13) : Option (Z1j × Int × (List ZC) × Int × (List (Int × ZZ))) :=
 if ((getM zV b2.Client).isSome) = true then
 (if ((decide (b2.Request ≤ ((getM zV b2.Client).getD (ZZ.mk 0 (Z1j.mk 0 (ZX.mk 0 0 0)))).request))) = true then
 (Z9V zQ (IntKind.i64.wrap (z1S + 1)) zV)
 else
 (Z4Q zQ (IntKind.i64.wrap (z1S + 1)) zV b2))
 else
 (Z4Q zQ (IntKind.i64.wrap (z1S + 1)) zV b2)
theorem ZhS (zQ : List ZC) z1S zV b2 b3 z1B z34 z2Q (z3B : ZR z1B = true) : Sim (Z4D) (Z4P zQ z1S zV b2) (ZBx 2 (.ptr 0 0) (.ptr 2 0) (.ptr 3 0) [[(ZK z1B (zQ.map ZF)), (.mp 1), (iv z1S)], (rM_ ZD (zV)), (Z1o b2 z34 z2Q), (ZL b3)]) := by
 unfold Z4P
 refine zf (ZIN ..)<|ze<|zq<|zq<|zq<|zq<|zq<|zq<|zt [[(ZK z1B (zQ.map ZF)), (.mp 1), (iv (IntKind.i64.wrap (z1S + 1)))], (rM_ ZD zV), (Z1o b2 z34 z2Q), (ZL b3)]<|ze<|zq<|zq<|zq<|zq<|zq ?_
 refine zo (.p (.tup [(.agg (ZeR ((getM zV b2.Client).getD (ZZ.mk 0 Z9B)))), (.v (.bool (getM zV b2.Client).isSome))])) ?_ (Eq.trans (b := Zeh PP 122 true (.mp 1) (iv b2.Client) [[(ZK z1B (zQ.map ZF)), (.mp 1), (iv (IntKind.i64.wrap (z1S + 1)))], (rM_ ZD zV), (Z1o b2 z34 z2Q), (ZL b3)]) (by kernel_rfl) <| (ZrO (e := ZD) (z := (ZZ.mk 0 Z9B)) (es := zV) (te := 126) (by kernel_rfl) (by kernel_rfl) (by kernel_rfl) true).trans (by kernel_rfl))
 refine zq<|zq<|zz (.ptr 4 0) [[(ZK z1B (zQ.map ZF)), (.mp 1), (iv (IntKind.i64.wrap (z1S + 1)))], (rM_ ZD zV), (Z1o b2 z34 z2Q), (ZL b3), (Zo7 (ZZ.mk 0 Z9B))]<|zt [[(ZK z1B (zQ.map ZF)), (.mp 1), (iv (IntKind.i64.wrap (z1S + 1)))], (rM_ ZD zV), (Z1o b2 z34 z2Q), (ZL b3), (Zo7 ((getM zV b2.Client).getD (ZZ.mk 0 Z9B)))]<|zg<|zg<|zg<|ze ?_
 refine za ((getM zV b2.Client).isSome) ?_ ?_
 ·refine zq<|zq<|zq<|zq<|zq ?_
  refine za (decide (b2.Request ≤ ((getM zV b2.Client).getD (ZZ.mk 0 Z9B)).request)) ?_ ?_
  ·exact zk (ZhT zQ (IntKind.i64.wrap (z1S + 1)) zV b2 b3 z1B z34 z2Q z3B)
  ·exact zk (ZbE zQ (IntKind.i64.wrap (z1S + 1)) zV b2 b3 z1B z34 z2Q z3B)
 ·exact zk (ZbE zQ (IntKind.i64.wrap (z1S + 1)) zV b2 b3 z1B z34 z2Q z3B)
def Z6I (x1 : Z13) (zQ : List ZC) (z1S : Int) (zV : List (Int × ZZ)) : Option (Z1j × Int × (List ZC) × Int × (List (Int × ZZ))) :=
 (ZcG x1).bind fun r1 =>
 if (!r1) = true then
 (some ((Z1j.mk 0 (ZX.mk 0 0 0)), 10, zQ, z1S, zV))
 else
 (Z4P zQ z1S zV x1)
theorem ZjF x1 (zQ : List ZC) z1S zV z4U z4t z1B (z3B : ZR z1B = true) : Sim (Z4D) (Z6I x1 zQ z1S zV) (EE 33 [(.ptr 0 0), (pA_ (Z3Z x1 z4U z4t))] [[(ZK z1B (zQ.map ZF)), (.mp 1), (iv z1S)], (rM_ ZD (zV))]) := by
 unfold Z6I
 refine zf (ZOH ..)<|ze<|zx (.ptr 2 0) [[(ZK z1B (zQ.map ZF)), (.mp 1), (iv z1S)], (rM_ ZD zV), (Z1o x1 z4U z4t)]<|zz (.ptr 3 0) [[(ZK z1B (zQ.map ZF)), (.mp 1), (iv z1S)], (rM_ ZD zV), (Z1o x1 z4U z4t), (ZL Z9B)]<|ze<|zq<|zi fun r1 hr1 => ?_
 obtain ⟨_, er1, _, rfl⟩ := Zpu x1 .sh .sh r1 hr1
 refine zc [] (bv r1) [[(ZK z1B (zQ.map ZF)), (.mp 1), (iv z1S)], (rM_ ZD zV), (Z1o x1 z4U z4t), (ZL Z9B)] er1<|zq ?_
 refine za (!r1) ?_ ?_
 ·refine ze<|zq<|zt [[(ZK z1B (zQ.map ZF)), (.mp 1), (iv z1S)], (rM_ ZD zV), (Z1o x1 z4U z4t), (ZL Z9B)] ?_
  exact zr ((.p (.tup [(.agg (Z1O Z9B)), (.v (.int .i64 10))])), [[(ZK z1B (zQ.map ZF)), (.mp 1), (iv z1S)], (rM_ ZD zV), (Z1o x1 z4U z4t), (ZL Z9B)]) ⟨z1B, _, z3B, rfl⟩
 ·exact zk (ZhS zQ z1S zV x1 Z9B z1B z4U z4t z3B)
theorem Zdt x1 zQ z1S zV {r} (h : Z6I x1 zQ z1S zV = some r) : Z3I x1 zQ z1S zV = some r :=
 Z1c (fun _ _ ha hb => RRun.uniq ZkR (ha .ex .ex .ex rfl) (hb .ex .ex .ex rfl)) (fun z4U z4t z1B z3B => ZjF x1 zQ z1S zV z4U z4t z1B z3B r h)
def Zct (x0 : Z13) : Option (Bool) :=
 (Z6m x0.View 0).bind fun r1 =>
 if (r1) = true then
 ((Z6m x0.Client 1).bind fun r2 =>
 if (r2) = true then
 ((Z6m x0.Request 1).bind fun r3 =>
 if (r3) = true then
 ((Z6m x0.Delta.Default (-1)).bind fun r4 =>
 if (r4) = true then
 ((Z6m x0.Delta.Closed (-1)).bind fun r5 =>
 if (r5) = true then
 ((Z6m x0.Delta.Fuel (-1)).bind fun r6 =>
 if (r6) = true then
 ((Z6m x0.Delta.Stack (-1)).bind fun r7 =>
 if (r7) = true then
 (if (decide ((x0.Delta.Put.length : Int) ≤ 16)) = true then
 (if (decide ((x0.Delta.Drop.length : Int) ≤ 16)) = true then
 ((Z6W x0.Delta.Put).bind fun r8 =>
 if (!r8) = true then
 ((Z7l x0.Delta.Drop).bind fun r9 =>
 some (!r9))
 else
 (some (false)))
 else
 (some (false)))
 else
 (some (false)))
 else
 (some (false)))
 else
 (some (false)))
 else
 (some (false)))
 else
 (some (false)))
 else
 (some (false)))
 else
 (some (false)))
 else
 (some (false))
theorem Zom x0 z1w z1p : Sim (ZW) (Zct x0) (EE 31 [(pA_ (Z3Z x0 z1w z1p))] []) := by
 unfold Zct
 refine zf (ZOF ..)<|ze<|zx (.ptr 0 0) [(Z1o x0 z1w z1p)]<|ze<|zq<|zq<|zz (.ptr 1 0) [(Z1o x0 z1w z1p), (ZH (Z1f.mk 0 0 0 0 ([] : List Zw) ([] : List Int)) .nl .nl)]<|zt [(Z1o x0 z1w z1p), (ZH x0.Delta (shrO z1w) (shrO z1p))]<|ze<|zq<|zq<|zi fun r1 hr1 => ?_
 obtain ⟨_, er1, _, rfl⟩ := Z7s x0.View 0 r1 hr1
 refine zc [] (bv r1) [(Z1o x0 z1w z1p), (ZH x0.Delta (shrO z1w) (shrO z1p))] er1 ?_
 refine za r1 ?_ ?_
 ·refine zq<|zq<|zi fun r2 hr2 => ?_
  obtain ⟨_, er2, _, rfl⟩ := Z7s x0.Client 1 r2 hr2
  refine zc [] (bv r2) [(Z1o x0 z1w z1p), (ZH x0.Delta (shrO z1w) (shrO z1p))] er2 ?_
  refine za r2 ?_ ?_
  ·refine zq<|zq<|zi fun r3 hr3 => ?_
   obtain ⟨_, er3, _, rfl⟩ := Z7s x0.Request 1 r3 hr3
   refine zc [] (bv r3) [(Z1o x0 z1w z1p), (ZH x0.Delta (shrO z1w) (shrO z1p))] er3 ?_
   refine za r3 ?_ ?_
   ·refine zq<|zq<|zi fun r4 hr4 => ?_
    obtain ⟨_, er4, _, rfl⟩ := Z7s x0.Delta.Default (-1) r4 hr4
    refine zc [] (bv r4) [(Z1o x0 z1w z1p), (ZH x0.Delta (shrO z1w) (shrO z1p))] er4 ?_
    refine za r4 ?_ ?_
    ·refine zq<|zq<|zi fun r5 hr5 => ?_
     obtain ⟨_, er5, _, rfl⟩ := Z7s x0.Delta.Closed (-1) r5 hr5
     refine zc [] (bv r5) [(Z1o x0 z1w z1p), (ZH x0.Delta (shrO z1w) (shrO z1p))] er5 ?_
     refine za r5 ?_ ?_
     ·refine zq<|zq<|zi fun r6 hr6 => ?_
      obtain ⟨_, er6, _, rfl⟩ := Z7s x0.Delta.Fuel (-1) r6 hr6
      refine zc [] (bv r6) [(Z1o x0 z1w z1p), (ZH x0.Delta (shrO z1w) (shrO z1p))] er6 ?_
      refine za r6 ?_ ?_
      ·refine zq<|zq<|zi fun r7 hr7 => ?_
       obtain ⟨_, er7, _, rfl⟩ := Z7s x0.Delta.Stack (-1) r7 hr7
       refine zc [] (bv r7) [(Z1o x0 z1w z1p), (ZH x0.Delta (shrO z1w) (shrO z1p))] er7 ?_
       refine za r7 ?_ ?_
       ·refine zq<|zq ?_
        refine zo (iv (x0.Delta.Put.length : Int)) ?_ (et_ (Z2J (P := PP) (t := 22) (d := 43) (by kernel_rfl) ZE (shrO (shrO z1w)) x0.Delta.Put))
        refine zq ?_
        refine za (decide ((x0.Delta.Put.length : Int) ≤ 16)) ?_ ?_
        ·refine zq<|zq ?_
         refine zo (iv (x0.Delta.Drop.length : Int)) ?_ (et_ (Z2J (P := PP) (t := 27) (d := 3) (by kernel_rfl) (eI .i64) (shrO (shrO z1p)) x0.Delta.Drop))
         refine zq ?_
         refine za (decide ((x0.Delta.Drop.length : Int) ≤ 16)) ?_ ?_
         ·refine zq<|zq<|zi fun r8 hr8 => ?_
          obtain ⟨_, er8, _, rfl⟩ := Zh9 x0.Delta.Put .sh r8 hr8
          refine zc [] (bv r8) [(Z1o x0 z1w z1p), (ZH x0.Delta (shrO z1w) (shrO z1p))] er8<|zq ?_
          refine za (!r8) ?_ ?_
          ·refine zq<|zq<|zi fun r9 hr9 => ?_
           obtain ⟨_, er9, _, rfl⟩ := Zi1 x0.Delta.Drop .sh r9 hr9
           refine zc [] (bv r9) [(Z1o x0 z1w z1p), (ZH x0.Delta (shrO z1w) (shrO z1p))] er9<|zq ?_
           exact zr ((bv (!r9)), [(Z1o x0 z1w z1p), (ZH x0.Delta (shrO z1w) (shrO z1p))]) ⟨_, rfl⟩
          ·exact zr ((bv false), [(Z1o x0 z1w z1p), (ZH x0.Delta (shrO z1w) (shrO z1p))]) ⟨_, rfl⟩
         ·exact zr ((bv false), [(Z1o x0 z1w z1p), (ZH x0.Delta (shrO z1w) (shrO z1p))]) ⟨_, rfl⟩
        ·exact zr ((bv false), [(Z1o x0 z1w z1p), (ZH x0.Delta (shrO z1w) (shrO z1p))]) ⟨_, rfl⟩
       ·exact zr ((bv false), [(Z1o x0 z1w z1p), (ZH x0.Delta (shrO z1w) (shrO z1p))]) ⟨_, rfl⟩
      ·exact zr ((bv false), [(Z1o x0 z1w z1p), (ZH x0.Delta (shrO z1w) (shrO z1p))]) ⟨_, rfl⟩
     ·exact zr ((bv false), [(Z1o x0 z1w z1p), (ZH x0.Delta (shrO z1w) (shrO z1p))]) ⟨_, rfl⟩
    ·exact zr ((bv false), [(Z1o x0 z1w z1p), (ZH x0.Delta (shrO z1w) (shrO z1p))]) ⟨_, rfl⟩
   ·exact zr ((bv false), [(Z1o x0 z1w z1p), (ZH x0.Delta (shrO z1w) (shrO z1p))]) ⟨_, rfl⟩
  ·exact zr ((bv false), [(Z1o x0 z1w z1p), (ZH x0.Delta (shrO z1w) (shrO z1p))]) ⟨_, rfl⟩
 ·exact zr ((bv false), [(Z1o x0 z1w z1p), (ZH x0.Delta (shrO z1w) (shrO z1p))]) ⟨_, rfl⟩
theorem Zpt x0 {r} (h : Zct x0 = some r) : ZcG x0 = some r :=
 Z1c (fun _ _ ha hb => RRun.uniq Z2d (ha .ex .ex) (hb .ex .ex)) (fun z1w z1p => Zom x0 z1w z1p r h)
def Zhy (x0 x1 : Int) : Option (Bool) :=
 if (decide (x1 ≤ x0)) = true then
 (some (decide (x0 ≤ 1099511627776)))
 else
 (some (false))
theorem ZuC x0 x1 : Sim (ZW) (Zhy x0 x1) (EE 56 [(iv x0), (iv x1)] []) := by
 unfold Zhy
 refine zf (ZOX ..)<|ze<|ze<|zq ?_
 refine za (decide (x1 ≤ x0)) ?_ ?_
 ·refine zq ?_
  exact zr ((bv (decide (x0 ≤ 1099511627776))), []) ⟨_, rfl⟩
 ·exact zr ((bv false), []) ⟨_, rfl⟩
theorem Zvp x0 x1 {r} (h : Zhy x0 x1 = some r) : Z6m x0 x1 = some r :=
 Z1c (fun _ _ ha hb => RRun.uniq Z2d (ha ) (hb )) (ZuC x0 x1 r h)
def Z6N (x0 : List Zw) : Option (Bool) :=
 (Z82 x0).bind fun r1 =>
 some (decide (0 ≤ r1))
theorem Zgs (x0 : List Zw) ox0 : Sim (ZW) (Z6N x0) (EE 57 [(ZK ox0 (x0.map ZE)), (.clo 58 [] [])] []) := by
 unfold Z6N
 refine zf (ZBJ ..)<|ze<|ze<|zi fun r1 hr1 => ?_
 obtain ⟨_, er1, _, rfl⟩ := Zjk x0 .sh r1 hr1
 refine zc [] (iv r1) [] er1<|zq ?_
 exact zr ((bv (decide (0 ≤ r1))), []) ⟨_, rfl⟩
theorem Zh8 x0 {r} (h : Z6N x0 = some r) : Z6W x0 = some r :=
 Z1c (fun _ _ ha hb => RRun.uniq Z2d (ha .ex) (hb .ex)) (fun ox0 => Zgs x0 ox0 r h)
def Z7X (x0 : List Zw) : Option (Int) :=
 Z5s x0 (x0.length : Int) 0
theorem ZiN (x0 : List Zw) ox0 : Sim (ZM) (Z7X x0) (EE 83 [(ZK ox0 (x0.map ZE)), (.clo 58 [] [])] []) := by
 unfold Z7X
 refine zf (ZBZ ..)<|ze<|ze ?_
 refine zo (iv (x0.length : Int)) ?_ (et_ (Z2J (P := PP) (t := 22) (d := 43) (by kernel_rfl) ZE (shrO ox0) x0))
 exact zk (Zbh x0 (x0.length : Int) 0 ox0)
theorem Zjj x0 {r} (h : Z7X x0 = some r) : Z82 x0 = some r :=
 Z1c (fun _ _ ha hb => RRun.uniq Z2e (ha .ex) (hb .ex)) (fun ox0 => ZiN x0 ox0 r h)
def Z6R (x0 : List Zw) (x7 x8 : Int) : Option (Int) :=
 Z5s x0 x7 (IntKind.i64.wrap (x8 + 1))
theorem ZgB (x0 : List Zw) x7 x8 ox0 : Sim (ZM) (Z6R x0 x7 x8) (ZsK 0 (ZK ox0 (x0.map ZE)) (.clo 58 [] []) (iv x7) (iv x8) []) := by
 unfold Z6R
 refine zf (ZsL ..)<|ze<|zq ?_
 exact zk (Zbh x0 x7 (IntKind.i64.wrap (x8 + 1)) ox0)
def Z5k (x0 : List Zw) (x7 x8 : Int) : Option (Int) :=
 (lget x0 x8).bind fun a1 =>
 (Zb6 a1).bind fun r2 =>
 if (r2) = true then
 (some (x8))
 else
 (Z6R x0 x7 x8)
theorem ZgA (x0 : List Zw) x7 x8 ox0 : Sim (ZM) (Z5k x0 x7 x8) (ZsI 0 (ZK ox0 (x0.map ZE)) (.clo 58 [] []) (iv x7) (iv x8) []) := by
 unfold Z5k
 refine zf (ZsJ ..)<|ze<|ze<|zi fun a1 ha1 => ?_
 refine zo (.cptr (Z1U a1)) ?_ (et_ (Z3G (o := (shrO ox0)) (k := .i64) (n := 5) (e := ZE) (cs := Z4Z) (fun _ => rfl) (fun _ => rfl) (by decide) ha1))
 refine zq<|zi fun r2 hr2 => ?_
 obtain ⟨_, er2, _, rfl⟩ := Znw a1 r2 hr2
 refine zv [] (bv r2) [] er2 ?_
 refine za r2 ?_ ?_
 ·refine ze ?_
  exact zr ((iv x8), []) ⟨_, rfl⟩
 ·exact zk (ZgB x0 x7 x8 ox0)
def Z9e  : Option (Int) :=
 some (-1)
theorem ZgC  : Sim (ZM) (Z9e) (ZsM 0  []) := by
 unfold Z9e
 refine zf (ZsN ..)<|ze ?_
 exact zr ((iv (-1)), []) ⟨_, rfl⟩
def Z4q (x0 : List Zw) (x7 x8 : Int) : Option (Int) :=
 if (decide (x8 < x7)) = true then
 (Z5k x0 x7 x8)
 else
 (Z9e)
theorem Zgz (x0 : List Zw) x7 x8 ox0 : Sim (ZM) (Z4q x0 x7 x8) (Zj3 0 (ZK ox0 (x0.map ZE)) (.clo 58 [] []) (iv x7) (iv x8) []) := by
 unfold Z4q
 refine zf (ZsH ..)<|ze<|zq ?_
 refine za (decide (x8 < x7)) ?_ ?_
 ·exact zk (ZgA x0 x7 x8 ox0)
 ·exact zk (ZgC )
theorem Z8b x0 x7 x8 {r} (h : Z4q x0 x7 x8 = some r) : Z5s x0 x7 x8 = some r :=
 Z1c (fun _ _ ha hb => RRun.uniq Z2e (ha .ex) (hb .ex)) (fun ox0 => Zgz x0 x7 x8 ox0 r h)
def Zb1 (x0 : Zw) : Option (Bool) :=
 (Z9s x0).bind fun r1 =>
 some (!r1)
theorem ZmT x0 : Sim (ZW) (Zb1 x0) (EE 58 [(pA_ (Z1U x0))] []) := by
 unfold Zb1
 refine zf (ZOY ..)<|ze<|zx (.ptr 0 0) [(Z1L x0)]<|ze<|zq<|zi fun r1 hr1 => ?_
 obtain ⟨_, er1, _, rfl⟩ := Zeb x0 r1 hr1
 refine zc [] (bv r1) [(Z1L x0)] er1<|zq ?_
 exact zr ((bv (!r1)), [(Z1L x0)]) ⟨_, rfl⟩
theorem Znv x0 {r} (h : Zb1 x0 = some r) : Zb6 x0 = some r :=
 Z1c (fun _ _ ha hb => RRun.uniq Z2d (ha ) (hb )) (ZmT x0 r h)
def Zd8 (x0 : Zw) : Option (Bool) :=
 if (decide (1 ≤ x0.ID)) = true then
 (if (decide (x0.ID ≤ 1099511627776)) = true then
 (if (decide (0 ≤ x0.Priority)) = true then
 (if (decide (x0.Priority ≤ 1000)) = true then
 (if (decide (0 ≤ x0.Action)) = true then
 (if (decide (x0.Action ≤ 255)) = true then
 (if (decide (1 ≤ x0.Scope)) = true then
 (if (decide (x0.Scope ≤ 65535)) = true then
 (some (decide ((x0.Pattern.size : Int) ≤ 256)))
 else
 (some (false)))
 else
 (some (false)))
 else
 (some (false)))
 else
 (some (false)))
 else
 (some (false)))
 else
 (some (false)))
 else
 (some (false)))
 else
 (some (false))
theorem ZpD x0 : Sim (ZW) (Zd8 x0) (EE 27 [(pA_ (Z1U x0))] []) := by
 unfold Zd8
 refine zf (ZOz ..)<|ze<|zx (.ptr 0 0) [(Z1L x0)]<|ze<|zq<|zq<|zq ?_
 refine za (decide (1 ≤ x0.ID)) ?_ ?_
 ·refine zq<|zq<|zq ?_
  refine za (decide (x0.ID ≤ 1099511627776)) ?_ ?_
  ·refine zq<|zq<|zq ?_
   refine za (decide (0 ≤ x0.Priority)) ?_ ?_
   ·refine zq<|zq<|zq ?_
    refine za (decide (x0.Priority ≤ 1000)) ?_ ?_
    ·refine zq<|zq<|zq ?_
     refine za (decide (0 ≤ x0.Action)) ?_ ?_
     ·refine zq<|zq<|zq ?_
      refine za (decide (x0.Action ≤ 255)) ?_ ?_
      ·refine zq<|zq<|zq ?_
       refine za (decide (1 ≤ x0.Scope)) ?_ ?_
       ·refine zq<|zq<|zq ?_
        refine za (decide (x0.Scope ≤ 65535)) ?_ ?_
        ·refine zq<|zq<|zq<|zq ?_
         exact zr ((bv (decide ((x0.Pattern.size : Int) ≤ 256))), [(Z1L x0)]) ⟨_, rfl⟩
        ·exact zr ((bv false), [(Z1L x0)]) ⟨_, rfl⟩
       ·exact zr ((bv false), [(Z1L x0)]) ⟨_, rfl⟩
      ·exact zr ((bv false), [(Z1L x0)]) ⟨_, rfl⟩
     ·exact zr ((bv false), [(Z1L x0)]) ⟨_, rfl⟩
    ·exact zr ((bv false), [(Z1L x0)]) ⟨_, rfl⟩
   ·exact zr ((bv false), [(Z1L x0)]) ⟨_, rfl⟩
  ·exact zr ((bv false), [(Z1L x0)]) ⟨_, rfl⟩
 ·exact zr ((bv false), [(Z1L x0)]) ⟨_, rfl⟩
theorem Zr1 x0 {r} (h : Zd8 x0 = some r) : Z9s x0 = some r :=
 Z1c (fun _ _ ha hb => RRun.uniq Z2d (ha ) (hb )) (ZpD x0 r h)
def Z7d (x0 : List Int) : Option (Bool) :=
 (Z8l x0).bind fun r1 =>
 some (decide (0 ≤ r1))
theorem Zhf (x0 : List Int) ox0 : Sim (ZW) (Z7d x0) (EE 59 [(ZK ox0 (x0.map (eI .i64))), (.clo 60 [] [])] []) := by
 unfold Z7d
 refine zf (ZIZ ..)<|ze<|ze<|zi fun r1 hr1 => ?_
 obtain ⟨_, er1, _, rfl⟩ := ZjM x0 .sh r1 hr1
 refine zc [] (iv r1) [] er1<|zq ?_
 exact zr ((bv (decide (0 ≤ r1))), []) ⟨_, rfl⟩
theorem Zi0 x0 {r} (h : Z7d x0 = some r) : Z7l x0 = some r :=
 Z1c (fun _ _ ha hb => RRun.uniq Z2d (ha .ex) (hb .ex)) (fun ox0 => Zhf x0 ox0 r h)
def Z8j (x0 : List Int) : Option (Int) :=
 Z5H x0 (x0.length : Int) 0
theorem Zjq (x0 : List Int) ox0 : Sim (ZM) (Z8j x0) (EE 84 [(ZK ox0 (x0.map (eI .i64))), (.clo 60 [] [])] []) := by
 unfold Z8j
 refine zf (ZJh ..)<|ze<|ze ?_
 refine zo (iv (x0.length : Int)) ?_ (et_ (Z2J (P := PP) (t := 27) (d := 3) (by kernel_rfl) (eI .i64) (shrO ox0) x0))
 exact zk (ZbN x0 (x0.length : Int) 0 ox0)
theorem ZjL x0 {r} (h : Z8j x0 = some r) : Z8l x0 = some r :=
 Z1c (fun _ _ ha hb => RRun.uniq Z2e (ha .ex) (hb .ex)) (fun ox0 => Zjq x0 ox0 r h)
def Z7f (x0 : List Int) (x7 x8 : Int) : Option (Int) :=
 Z5H x0 x7 (IntKind.i64.wrap (x8 + 1))
theorem Zhm (x0 : List Int) x7 x8 ox0 : Sim (ZM) (Z7f x0 x7 x8) (ZwZ 0 (ZK ox0 (x0.map (eI .i64))) (.clo 60 [] []) (iv x7) (iv x8) []) := by
 unfold Z7f
 refine zf (ZAb ..)<|ze<|zq ?_
 exact zk (ZbN x0 x7 (IntKind.i64.wrap (x8 + 1)) ox0)
def Z5F (x0 : List Int) (x7 x8 : Int) : Option (Int) :=
 (lget x0 x8).bind fun a1 =>
 (Zb7 a1).bind fun r2 =>
 if (r2) = true then
 (some (x8))
 else
 (Z7f x0 x7 x8)
theorem Zhl (x0 : List Int) x7 x8 ox0 : Sim (ZM) (Z5F x0 x7 x8) (ZwY 0 (ZK ox0 (x0.map (eI .i64))) (.clo 60 [] []) (iv x7) (iv x8) []) := by
 unfold Z5F
 refine zf (ZAa ..)<|ze<|ze<|zi fun a1 ha1 => ?_
 refine zo (.cptr [(.v (.int .i64 a1))]) ?_ (et_ (Z3G (o := (shrO ox0)) (k := .i64) (n := 1) (e := (eI .i64)) (cs := (fun a => [(eI .i64) a])) (fun _ => rfl) (fun _ => rfl) (by decide) ha1))
 refine zq<|zi fun r2 hr2 => ?_
 obtain ⟨_, er2, _, rfl⟩ := Zny a1 r2 hr2
 refine zv [] (bv r2) [] er2 ?_
 refine za r2 ?_ ?_
 ·refine ze ?_
  exact zr ((iv x8), []) ⟨_, rfl⟩
 ·exact zk (Zhm x0 x7 x8 ox0)
def Z9x  : Option (Int) :=
 some (-1)
theorem Zhn  : Sim (ZM) (Z9x) (Zx0 0  []) := by
 unfold Z9x
 refine zf (ZAc ..)<|ze ?_
 exact zr ((iv (-1)), []) ⟨_, rfl⟩
def Z4C (x0 : List Int) (x7 x8 : Int) : Option (Int) :=
 if (decide (x8 < x7)) = true then
 (Z5F x0 x7 x8)
 else
 (Z9x)
theorem Zhk (x0 : List Int) x7 x8 ox0 : Sim (ZM) (Z4C x0 x7 x8) (ZmQ 0 (ZK ox0 (x0.map (eI .i64))) (.clo 60 [] []) (iv x7) (iv x8) []) := by
 unfold Z4C
 refine zf (ZA9 ..)<|ze<|zq ?_
 refine za (decide (x8 < x7)) ?_ ?_
 ·exact zk (Zhl x0 x7 x8 ox0)
 ·exact zk (Zhn )
theorem Z8t x0 x7 x8 {r} (h : Z4C x0 x7 x8 = some r) : Z5H x0 x7 x8 = some r :=
 Z1c (fun _ _ ha hb => RRun.uniq Z2e (ha .ex) (hb .ex)) (fun ox0 => Zhk x0 x7 x8 ox0 r h)
def Zb2 (x0 : Int) : Option (Bool) :=
 (Z6m x0 1).bind fun r1 =>
 some (!r1)
theorem ZmU x0 : Sim (ZW) (Zb2 x0) (EE 60 [(iv x0)] []) := by
 unfold Zb2
 refine zf (ZOZ ..)<|ze<|ze<|zi fun r1 hr1 => ?_
 obtain ⟨_, er1, _, rfl⟩ := Z7s x0 1 r1 hr1
 refine zc [] (bv r1) [] er1<|zq ?_
 exact zr ((bv (!r1)), []) ⟨_, rfl⟩
theorem Znx x0 {r} (h : Zb2 x0 = some r) : Zb7 x0 = some r :=
 Z1c (fun _ _ ha hb => RRun.uniq Z2d (ha ) (hb )) (ZmU x0 r h)
def Z6o (zQ : List ZC) (b4 : ZC) : Option (Z1j × (List ZC)) :=
 (lapp zQ ([b4] : List ZC)).bind fun a1 =>
 some ((Z1j.mk (IntKind.i64.wrap ((a1.length : Int) - 1)) (ZX.mk 0 0 0)), a1)
theorem ZfU (zQ : List ZC) z1S zV b2 b3 b4 z1B zpY znc z40 (z3B : ZR z1B = true) : Sim (Z5L z1S zV) (Z6o zQ b4) (ZBK 2 (.ptr 0 0) (.ptr 3 0) (.ptr 4 0) [[(ZK z1B (zQ.map ZF)), (.mp 1), (iv z1S)], (rM_ ZD (zV)), (ZH b2 zpY znc), (ZL b3), (Zx b4 z40)]) := by
 unfold Z6o
 refine zf (ZJ0 ..)<|ze<|zq<|zq<|zw (ZK z1B (zQ.map ZF)) [[(ZK (shrO z1B) (zQ.map ZF)), (.mp 1), (iv z1S)], (rM_ ZD zV), (ZH b2 zpY znc), (ZL b3), (Zx b4 z40)]<|zq<|zq<|zi fun a1 ha1 => ?_
 refine zo (ZK .un (a1.map ZF)) ?_ (Eq.trans (by kernel_rfl) <| ZiB (n := 5) (o := z1B) (o' := .ex) (e := ZF) (ys := ([b4] : List ZC)) (fun _ => rfl) (by decide) z3B ha1)
 refine zq<|zq<|zt [[(ZK .un (a1.map ZF)), (.mp 1), (iv z1S)], (rM_ ZD zV), (ZH b2 zpY znc), (ZL b3), (Zx b4 z40)]<|zg<|ze<|zq<|zq<|zq ?_
 refine zo (iv (a1.length : Int)) ?_ (et_ (Z2J (P := PP) (t := 121) (d := 24) (by kernel_rfl) ZF .sh a1))
 refine zq<|zq<|zt [[(ZK .un (a1.map ZF)), (.mp 1), (iv z1S)], (rM_ ZD zV), (ZH b2 zpY znc), (ZL (Z1j.mk (IntKind.i64.wrap ((a1.length : Int) - 1)) Z7O)), (Zx b4 z40)] ?_
 exact zr ((pA_ (Z1O (Z1j.mk (IntKind.i64.wrap ((a1.length : Int) - 1)) Z7O))), [[(ZK .un (a1.map ZF)), (.mp 1), (iv z1S)], (rM_ ZD zV), (ZH b2 zpY znc), (ZL (Z1j.mk (IntKind.i64.wrap ((a1.length : Int) - 1)) Z7O)), (Zx b4 z40)]) ⟨.un, _, rfl, rfl⟩
def Z7z (x1 : Z1f) (zQ : List ZC) : Option (Z1j × (List ZC)) :=
 (lget zQ (IntKind.i64.wrap ((zQ.length : Int) - 1))).bind fun a1 =>
 (Zec a1 x1).bind fun r2 =>
 if (r2.2.Code != 0) = true then
 (some ((Z1j.mk 0 (ZX.mk r2.2.Code r2.2.Rule r2.2.At)), zQ))
 else
 (Z6o zQ r2.1)
theorem ZhW x1 (zQ : List ZC) z1S zV z2F z2m z1B (z3B : ZR z1B = true) : Sim (Z5L z1S zV) (Z7z x1 zQ) (EE 61 [(.ptr 0 0), (pA_ (Z4S x1 z2F z2m))] [[(ZK z1B (zQ.map ZF)), (.mp 1), (iv z1S)], (rM_ ZD (zV))]) := by
 unfold Z7z
 refine zf (ZP0 ..)<|ze<|zx (.ptr 2 0) [[(ZK z1B (zQ.map ZF)), (.mp 1), (iv z1S)], (rM_ ZD zV), (ZH x1 z2F z2m)]<|zz (.ptr 3 0) [[(ZK z1B (zQ.map ZF)), (.mp 1), (iv z1S)], (rM_ ZD zV), (ZH x1 z2F z2m), (ZL Z9B)]<|ze<|zq<|zq<|zq<|zq<|zq<|zq ?_
 refine zo (iv (zQ.length : Int)) ?_ (et_ (Z2J (P := PP) (t := 121) (d := 24) (by kernel_rfl) ZF (shrO z1B) zQ))
 refine zq<|zi fun a1 ha1 => ?_
 refine zo (.cptr (Z1z a1 .sh)) ?_ (et_ (Z3G (o := (shrO z1B)) (k := .i64) (n := 5) (e := ZF) (cs := ZgS) (fun _ => rfl) (fun _ => rfl) (by decide) ha1))
 refine zq<|zq<|zi fun r2 hr2 => ?_
 obtain ⟨_, er2, _, rfl⟩ := Zsg a1 x1 .sh .sh .sh r2 hr2
 refine zc [] (.p (.tup [(.agg (Z1z r2.1 .sh)), (.agg (Z1W r2.2))])) [[(ZK z1B (zQ.map ZF)), (.mp 1), (iv z1S)], (rM_ ZD zV), (ZH x1 z2F z2m), (ZL Z9B)] er2<|zq<|zq<|zz (.ptr 4 0) [[(ZK z1B (zQ.map ZF)), (.mp 1), (iv z1S)], (rM_ ZD zV), (ZH x1 z2F z2m), (ZL Z9B), (Zx Z4i .nl)]<|zz (.ptr 5 0) [[(ZK z1B (zQ.map ZF)), (.mp 1), (iv z1S)], (rM_ ZD zV), (ZH x1 z2F z2m), (ZL Z9B), (Zx Z4i .nl), (Z1a Z7O)]<|zt [[(ZK z1B (zQ.map ZF)), (.mp 1), (iv z1S)], (rM_ ZD zV), (ZH x1 z2F z2m), (ZL Z9B), (Zx r2.1 .sh), (Z1a Z7O)]<|zt [[(ZK z1B (zQ.map ZF)), (.mp 1), (iv z1S)], (rM_ ZD zV), (ZH x1 z2F z2m), (ZL Z9B), (Zx r2.1 .sh), (Z1a r2.2)]<|zg<|zg<|zg<|zg<|zg<|zg<|zg<|zg<|zg<|zg<|ze<|zq<|zq<|zq ?_
 refine za (r2.2.Code != 0) ?_ ?_
 ·refine ze<|zq<|zq<|zt [[(ZK z1B (zQ.map ZF)), (.mp 1), (iv z1S)], (rM_ ZD zV), (ZH x1 z2F z2m), (ZL (Z1j.mk 0 (ZX.mk r2.2.Code r2.2.Rule r2.2.At))), (Zx r2.1 .sh), (Z1a r2.2)] ?_
  exact zr ((pA_ (Z1O (Z1j.mk 0 (ZX.mk r2.2.Code r2.2.Rule r2.2.At)))), [[(ZK z1B (zQ.map ZF)), (.mp 1), (iv z1S)], (rM_ ZD zV), (ZH x1 z2F z2m), (ZL (Z1j.mk 0 (ZX.mk r2.2.Code r2.2.Rule r2.2.At))), (Zx r2.1 .sh), (Z1a r2.2)]) ⟨z1B, _, z3B, rfl⟩
 ·exact zk (ZfU zQ z1S zV x1 Z9B r2.1 z1B z2F z2m .sh z3B)
theorem ZiG x1 zQ {r} (h : Z7z x1 zQ = some r) : Z7E x1 zQ = some r :=
 Z1c (fun _ _ ha hb => RRun.uniq (ZiS _ _) (ha default default .ex .ex .ex rfl) (hb default default .ex .ex .ex rfl)) (fun z1S zV z2F z2m z1B z3B => ZhW x1 zQ z1S zV z2F z2m z1B z3B r h)
def Zc8 (b4 : ZC) : Option (ZC × ZX) :=
 some (b4, (ZX.mk 0 0 0))
theorem ZnQ b0 b1 b2 b3 b4 zB z14 z10 zJ z40 (z1q : ZR zJ = true) : Sim (Z9U) (Zc8 b4) (ZBk 0 (.ptr 2 0) (.ptr 3 0) (.ptr 4 0) [(Zx b0 zB), (ZH b1 z14 z10), (Zx b2 zJ), (Z1a b3), (Zx b4 z40)]) := by
 unfold Zc8
 refine zf (ZIw ..)<|ze<|zq<|zq<|zt [(Zx b0 zB), (ZH b1 z14 z10), (Zx b4 (shrO z40)), (Z1a b3), (Zx b4 z40)]<|zt [(Zx b0 zB), (ZH b1 z14 z10), (Zx b4 (shrO z40)), (Z1a Z7O), (Zx b4 z40)] ?_
 exact zr ((.p (.tup [(.agg (Z1z b4 .sh)), (.agg (Z1W Z7O))])), [(Zx b0 zB), (ZH b1 z14 z10), (Zx b4 (shrO z40)), (Z1a Z7O), (Zx b4 z40)]) ⟨_, rfl⟩
def Zc7 (b4 : ZC) : Option (ZC × ZX) :=
 (ZeQ b4).bind fun r1 =>
 if (r1.Code != 0) = true then
 (some ((ZC.mk 0 0 0 0 ([] : List Zw)), r1))
 else
 (Zc8 b4)
theorem ZnP b0 b1 b2 b3 b4 zB z14 z10 zJ z40 (z1q : ZR zJ = true) : Sim (Z9U) (Zc7 b4) (ZBj 0 (.ptr 2 0) (.ptr 3 0) (.ptr 4 0) [(Zx b0 zB), (ZH b1 z14 z10), (Zx b2 zJ), (Z1a b3), (Zx b4 z40)]) := by
 unfold Zc7
 refine zf (ZIv ..)<|ze<|zq<|zi fun r1 hr1 => ?_
 obtain ⟨_, er1, _, rfl⟩ := Zt8 b4 .sh r1 hr1
 refine zc [] (pA_ (Z1W r1)) [(Zx b0 zB), (ZH b1 z14 z10), (Zx b2 zJ), (Z1a b3), (Zx b4 z40)] er1<|zz (.ptr 5 0) [(Zx b0 zB), (ZH b1 z14 z10), (Zx b2 zJ), (Z1a b3), (Zx b4 z40), (Z1a Z7O)]<|zt [(Zx b0 zB), (ZH b1 z14 z10), (Zx b2 zJ), (Z1a b3), (Zx b4 z40), (Z1a r1)]<|ze<|zq<|zq<|zq ?_
 refine za (r1.Code != 0) ?_ ?_
 ·refine ze<|zq<|zq<|zt [(Zx b0 zB), (ZH b1 z14 z10), (Zx Z4i .nl), (Z1a b3), (Zx b4 z40), (Z1a r1)]<|zt [(Zx b0 zB), (ZH b1 z14 z10), (Zx Z4i .nl), (Z1a r1), (Zx b4 z40), (Z1a r1)]<|zg ?_
  exact zr ((.p (.tup [(.agg (Z1z Z4i .sh)), (.agg (Z1W r1))])), [(Zx b0 zB), (ZH b1 z14 z10), (Zx Z4i .nl), (Z1a r1), (Zx b4 z40), (Z1a r1)]) ⟨_, rfl⟩
 ·exact zk (ZnQ b0 b1 b2 b3 b4 zB z14 z10 zJ z40 z1q)
def Ze5 (x0 : ZC) (x1 : Z1f) : Option (ZC × ZX) :=
 (Zfl x0 x1).bind fun r1 =>
 if (r1.2 != 0) = true then
 (some ((ZC.mk 0 0 0 0 ([] : List Zw)), (ZX.mk r1.2 0 0)))
 else
 (Zc7 r1.1)
theorem Zrg x0 x1 z17 z2F z2m : Sim (Z9U) (Ze5 x0 x1) (EE 23 [(pA_ (Z1z x0 z17)), (pA_ (Z4S x1 z2F z2m))] []) := by
 unfold Ze5
 refine zf (ZOv ..)<|ze<|zx (.ptr 0 0) [(Zx x0 z17)]<|zx (.ptr 1 0) [(Zx x0 z17), (ZH x1 z2F z2m)]<|zz (.ptr 2 0) [(Zx x0 z17), (ZH x1 z2F z2m), (Zx Z4i .nl)]<|zz (.ptr 3 0) [(Zx x0 z17), (ZH x1 z2F z2m), (Zx Z4i .nl), (Z1a Z7O)]<|ze<|zq<|zq<|zi fun r1 hr1 => ?_
 obtain ⟨_, er1, _, rfl⟩ := Zxd x0 x1 .sh .sh .sh r1 hr1
 refine zc [] (.p (.tup [(.agg (Z1z r1.1 .sh)), (.v (.int .i64 r1.2))])) [(Zx x0 z17), (ZH x1 z2F z2m), (Zx Z4i .nl), (Z1a Z7O)] er1<|zq<|zq<|zz (.ptr 4 0) [(Zx x0 z17), (ZH x1 z2F z2m), (Zx Z4i .nl), (Z1a Z7O), (Zx Z4i .nl)]<|zt [(Zx x0 z17), (ZH x1 z2F z2m), (Zx Z4i .nl), (Z1a Z7O), (Zx r1.1 .sh)]<|ze<|zq ?_
 refine za (r1.2 != 0) ?_ ?_
 ·refine ze<|zq<|zq<|zt [(Zx x0 z17), (ZH x1 z2F z2m), (Zx Z4i .nl), (Z1a Z7O), (Zx r1.1 .sh)]<|zt [(Zx x0 z17), (ZH x1 z2F z2m), (Zx Z4i .nl), (Zku r1.2 0 0), (Zx r1.1 .sh)] ?_
  exact zr ((.p (.tup [(.agg (Z1z Z4i .sh)), (.agg (Z1W (ZX.mk r1.2 0 0)))])), [(Zx x0 z17), (ZH x1 z2F z2m), (Zx Z4i .nl), (Zku r1.2 0 0), (Zx r1.1 .sh)]) ⟨_, rfl⟩
 ·exact zk (ZnP x0 x1 Z4i Z7O r1.1 z17 z2F z2m .nl .sh rfl)
theorem Zsf x0 x1 {r} (h : Ze5 x0 x1 = some r) : Zec x0 x1 = some r :=
 Z1c (fun _ _ ha hb => RRun.uniq Zsj (ha .ex .ex .ex) (hb .ex .ex .ex)) (fun z17 z2F z2m => Zrg x0 x1 z17 z2F z2m r h)
def Zcv  : Option (ZC × Int) :=
 some ((ZC.mk 0 0 0 0 ([] : List Zw)), 30)
theorem ZjY b0 b1 b2 zB z14 z10 zJ (z1q : ZR zJ = true) : Sim (Z2O) (Zcv) (ZwC 0 (.ptr 2 0) [(Zx b0 zB), (ZH b1 z14 z10), (Zx b2 zJ)]) := by
 unfold Zcv
 refine zf (ZIt ..)<|ze<|zq<|zt [(Zx b0 zB), (ZH b1 z14 z10), (Zx Z4i .nl)] ?_
 exact zr ((.p (.tup [(.agg (Z1z Z4i .sh)), (.v (.int .i64 30))])), [(Zx b0 zB), (ZH b1 z14 z10), (Zx Z4i .nl)]) ⟨_, rfl⟩
def ZdQ (b0 : ZC) (b1 : Z1f) (zI zP zY zT : Int) : Option (ZC × Int) :=
 ZbG b0.Rules (b0.Rules.length : Int) 0 b1 zI zP zY zT ([] : List (Int × Zw))
theorem ZqP b0 b1 b2 zI zP zY zT z19 zB z14 z10 zJ z15 (z1q : ZR zJ = true) : Sim (Z2O) (ZdQ b0 b1 zI zP zY zT) (Zzp 0 (.ptr 0 0) (.ptr 1 0) (.ptr 2 0) (.ptr 3 0) [(Zx b0 zB), (ZH b1 z14 z10), (Zx b2 zJ), (Z2z zI zP zY zT z19 z15)]) := by
 unfold ZdQ
 refine zf (ZGA ..)<|ze<|zm (.mp 4) [(Zx b0 zB), (ZH b1 z14 z10), (Zx b2 zJ), (Z2z zI zP zY zT z19 z15), (rM_ ZE ([] : List (Int × Zw)))]<|ze<|zq<|zq ?_
 refine zo (iv (b0.Rules.length : Int)) ?_ (et_ (Z2J (P := PP) (t := 22) (d := 43) (by kernel_rfl) ZE (shrO zB) b0.Rules))
 exact zk (ZjR b0.Rules (b0.Rules.length : Int) 0 b0 b1 b2 zI zP zY zT z19 ([] : List (Int × Zw)) (shrO zB) zB z14 z10 zJ z15 z1q)
def ZdP (b0 : ZC) (b1 : Z1f) (zI zP zY zT : Int) : Option (ZC × Int) :=
 (ZcI b1).bind fun r1 =>
 if (r1) = true then
 (some ((ZC.mk 0 0 0 0 ([] : List Zw)), 31))
 else
 (ZdQ b0 b1 zI zP zY zT)
theorem ZqO b0 b1 b2 zI zP zY zT z19 zB z14 z10 zJ z15 (z1q : ZR zJ = true) : Sim (Z2O) (ZdP b0 b1 zI zP zY zT) (Zzo 0 (.ptr 0 0) (.ptr 1 0) (.ptr 2 0) (.ptr 3 0) [(Zx b0 zB), (ZH b1 z14 z10), (Zx b2 zJ), (Z2z zI zP zY zT z19 z15)]) := by
 unfold ZdP
 refine zf (ZGz ..)<|ze<|zq<|zi fun r1 hr1 => ?_
 obtain ⟨_, er1, _, rfl⟩ := ZpC b1 .sh .sh r1 hr1
 refine zc [] (bv r1) [(Zx b0 zB), (ZH b1 z14 z10), (Zx b2 zJ), (Z2z zI zP zY zT z19 z15)] er1 ?_
 refine za r1 ?_ ?_
 ·refine ze<|zq<|zt [(Zx b0 zB), (ZH b1 z14 z10), (Zx Z4i .nl), (Z2z zI zP zY zT z19 z15)] ?_
  exact zr ((.p (.tup [(.agg (Z1z Z4i .sh)), (.v (.int .i64 31))])), [(Zx b0 zB), (ZH b1 z14 z10), (Zx Z4i .nl), (Z2z zI zP zY zT z19 z15)]) ⟨_, rfl⟩
 ·exact zk (ZqP b0 b1 b2 zI zP zY zT z19 zB z14 z10 zJ z15 z1q)
def ZeI (b0 : ZC) (b1 : Z1f) : Option (ZC × Int) :=
 (ZhG b1.Default b0.Default).bind fun r1 =>
 (Zdi b1.Closed b0.Closed).bind fun r2 =>
 (Zdh b1.Fuel b0.Fuel).bind fun r3 =>
 (Zdg b1.Stack b0.Stack).bind fun r4 =>
 (Z9Q (ZC.mk r1 r2 r3 r4 b0.Rules)).bind fun r5 =>
 if (!r5) = true then
 (Zcv)
 else
 ((Zcd b1.Put).bind fun r6 =>
 if (!r6) = true then
 (Zcv)
 else
 (ZdP b0 b1 r1 r2 r3 r4))
theorem Zs8 b0 b1 b2 zB z14 z10 zJ (z1q : ZR zJ = true) : Sim (Z2O) (ZeI b0 b1) (ZBg 0 (.ptr 0 0) (.ptr 1 0) (.ptr 2 0) [(Zx b0 zB), (ZH b1 z14 z10), (Zx b2 zJ)]) := by
 unfold ZeI
 refine zf (ZIs ..)<|ze<|zq<|zz (.ptr 3 0) [(Zx b0 zB), (ZH b1 z14 z10), (Zx b2 zJ), (Zx Z4i .nl)]<|zt [(Zx b0 zB), (ZH b1 z14 z10), (Zx b2 zJ), (Zx b0 (shrO zB))]<|ze<|zq<|zq<|zq<|zi fun r1 hr1 => ?_
 obtain ⟨_, er1, _, rfl⟩ := Zvz b1.Default b0.Default b0.Closed b0.Fuel b0.Stack b0.Rules (shrO zB) r1 hr1
 refine zc [3] (.p (.tup [])) [(Zx b0 zB), (ZH b1 z14 z10), (Zx b2 zJ), (Z2z r1 b0.Closed b0.Fuel b0.Stack b0.Rules (shrO zB))] er1<|ze<|zq<|zq<|zq<|zi fun r2 hr2 => ?_
 obtain ⟨_, er2, _, rfl⟩ := Zr8 b1.Closed r1 b0.Closed b0.Fuel b0.Stack b0.Rules (shrO zB) r2 hr2
 refine zc [3] (.p (.tup [])) [(Zx b0 zB), (ZH b1 z14 z10), (Zx b2 zJ), (Z2z r1 r2 b0.Fuel b0.Stack b0.Rules (shrO zB))] er2<|ze<|zq<|zq<|zq<|zi fun r3 hr3 => ?_
 obtain ⟨_, er3, _, rfl⟩ := Zr6 b1.Fuel r1 r2 b0.Fuel b0.Stack b0.Rules (shrO zB) r3 hr3
 refine zc [3] (.p (.tup [])) [(Zx b0 zB), (ZH b1 z14 z10), (Zx b2 zJ), (Z2z r1 r2 r3 b0.Stack b0.Rules (shrO zB))] er3<|ze<|zq<|zq<|zq<|zi fun r4 hr4 => ?_
 obtain ⟨_, er4, _, rfl⟩ := Zr4 b1.Stack r1 r2 r3 b0.Stack b0.Rules (shrO zB) r4 hr4
 refine zc [3] (.p (.tup [])) [(Zx b0 zB), (ZH b1 z14 z10), (Zx b2 zJ), (Z2z r1 r2 r3 r4 b0.Rules (shrO zB))] er4<|ze<|zq<|zi fun r5 hr5 => ?_
 obtain ⟨_, er5, _, rfl⟩ := Zh4 (ZC.mk r1 r2 r3 r4 b0.Rules) .sh r5 hr5
 refine zc [] (bv r5) [(Zx b0 zB), (ZH b1 z14 z10), (Zx b2 zJ), (Z2z r1 r2 r3 r4 b0.Rules (shrO zB))] er5<|zq ?_
 refine za (!r5) ?_ ?_
 ·exact zk (ZjY b0 b1 b2 zB z14 z10 zJ z1q)
 ·refine zq<|zq<|zi fun r6 hr6 => ?_
  obtain ⟨_, er6, _, rfl⟩ := Zoy b1.Put .sh r6 hr6
  refine zc [] (bv r6) [(Zx b0 zB), (ZH b1 z14 z10), (Zx b2 zJ), (Z2z r1 r2 r3 r4 b0.Rules (shrO zB))] er6<|zq ?_
  refine za (!r6) ?_ ?_
  ·exact zk (ZjY b0 b1 b2 zB z14 z10 zJ z1q)
  ·exact zk (ZqO b0 b1 b2 r1 r2 r3 r4 b0.Rules zB z14 z10 zJ (shrO zB) z1q)
def ZiX (x0 : ZC) (x1 : Z1f) : Option (ZC × Int) :=
 (ZbK x0).bind fun r1 =>
 if (!r1) = true then
 (some ((ZC.mk 0 0 0 0 ([] : List Zw)), 10))
 else
 (ZeI x0 x1)
theorem Zvw x0 x1 z17 z2F z2m : Sim (Z2O) (ZiX x0 x1) (EE 22 [(pA_ (Z1z x0 z17)), (pA_ (Z4S x1 z2F z2m))] []) := by
 unfold ZiX
 refine zf (ZOo ..)<|ze<|zx (.ptr 0 0) [(Zx x0 z17)]<|zx (.ptr 1 0) [(Zx x0 z17), (ZH x1 z2F z2m)]<|zz (.ptr 2 0) [(Zx x0 z17), (ZH x1 z2F z2m), (Zx Z4i .nl)]<|ze<|zq<|zi fun r1 hr1 => ?_
 obtain ⟨_, er1, _, rfl⟩ := ZjZ x0 .sh r1 hr1
 refine zc [] (bv r1) [(Zx x0 z17), (ZH x1 z2F z2m), (Zx Z4i .nl)] er1<|zq ?_
 refine za (!r1) ?_ ?_
 ·refine ze<|zq<|zt [(Zx x0 z17), (ZH x1 z2F z2m), (Zx Z4i .nl)] ?_
  exact zr ((.p (.tup [(.agg (Z1z Z4i .sh)), (.v (.int .i64 10))])), [(Zx x0 z17), (ZH x1 z2F z2m), (Zx Z4i .nl)]) ⟨_, rfl⟩
 ·exact zk (Zs8 x0 x1 Z4i z17 z2F z2m .nl rfl)
theorem Zxc x0 x1 {r} (h : ZiX x0 x1 = some r) : Zfl x0 x1 = some r :=
 Z1c (fun _ _ ha hb => RRun.uniq Zdk (ha .ex .ex .ex) (hb .ex .ex .ex)) (fun z17 z2F z2m => Zvw x0 x1 z17 z2F z2m r h)
def ZdR (x54 : List Zw) (x55 x56 : Int) (b1 : Z1f) (zI zP zY zT : Int) (z1y : List (Int × Zw)) : Option (ZC × Int) :=
 (lget x54 x56).bind fun a1 =>
 ZbG x54 x55 (IntKind.i64.wrap (x56 + 1)) b1 zI zP zY zT (putM z1y a1.ID a1)
theorem ZqQ (x54 : List Zw) x55 x56 b0 b1 b2 zI zP zY zT z19 z1y ox54 zB z14 z10 zJ z15 (z1q : ZR zJ = true) : Sim (Z2O) (ZdR x54 x55 x56 b1 zI zP zY zT z1y) (Zzq 0 (.ptr 1 0) (.ptr 2 0) (.ptr 3 0) (.mp 4) (ZK ox54 (x54.map ZE)) (iv x55) (iv x56) [(Zx b0 zB), (ZH b1 z14 z10), (Zx b2 zJ), (Z2z zI zP zY zT z19 z15), (rM_ ZE (z1y))]) := by
 unfold ZdR
 refine zf (ZGB ..)<|ze<|zi fun a1 ha1 => ?_
 refine zo (.cptr (Z1U a1)) ?_ (et_ (Z3G (o := ox54) (k := .i64) (n := 5) (e := ZE) (cs := Z4Z) (fun _ => rfl) (fun _ => rfl) (by decide) ha1))
 refine zq<|zz (.ptr 5 0) [(Zx b0 zB), (ZH b1 z14 z10), (Zx b2 zJ), (Z2z zI zP zY zT z19 z15), (rM_ ZE z1y), (Z1L (Zw.mk 0 0 0 0 (ByteArray.mk #[])))]<|zt [(Zx b0 zB), (ZH b1 z14 z10), (Zx b2 zJ), (Z2z zI zP zY zT z19 z15), (rM_ ZE z1y), (Z1L a1)]<|ze<|zq<|zq<|zq ?_
 refine Sim.xupd (B2 := [(Zx b0 zB), (ZH b1 z14 z10), (Zx b2 zJ), (Z2z zI zP zY zT z19 z15), (rM_ ZE (putM z1y a1.ID a1)), (Z1L a1)]) (fun K => Eq.trans (b := xupd PP 110 (.mp 4) (iv a1.ID) (pA_ (Z1U a1)) [(Zx b0 zB), (ZH b1 z14 z10), (Zx b2 zJ), (Z2z zI zP zY zT z19 z15), (rM_ ZE z1y), (Z1L a1)] K) (by kernel_rfl) <| Zuu (P := PP) (t := 110) (K := K) (B2 := [(Zx b0 zB), (ZH b1 z14 z10), (Zx b2 zJ), (Z2z zI zP zY zT z19 z15), (rM_ ZE (putM z1y a1.ID a1)), (Z1L a1)]) (e := ZE) (a := a1) (es := z1y) (te := 43) (by kernel_rfl) (by kernel_rfl) (by kernel_rfl) (by kernel_rfl) (by kernel_rfl)) ?_
 refine ze<|zq ?_
 exact zk (ZjR x54 x55 (IntKind.i64.wrap (x56 + 1)) b0 b1 b2 zI zP zY zT z19 (putM z1y a1.ID a1) ox54 zB z14 z10 zJ z15 z1q)
def Zbx (b1 : Z1f) (zI zP zY zT : Int) (z1y : List (Int × Zw)) : Option (ZC × Int) :=
 ZbH b1.Drop (b1.Drop.length : Int) 0 b1 zI zP zY zT z1y
theorem ZqR b0 b1 b2 zI zP zY zT z19 z1y zB z14 z10 zJ z15 (z1q : ZR zJ = true) : Sim (Z2O) (Zbx b1 zI zP zY zT z1y) (Zzr 0 (.ptr 1 0) (.ptr 2 0) (.ptr 3 0) (.mp 4) [(Zx b0 zB), (ZH b1 z14 z10), (Zx b2 zJ), (Z2z zI zP zY zT z19 z15), (rM_ ZE (z1y))]) := by
 unfold Zbx
 refine zf (ZGC ..)<|ze<|zq<|zq ?_
 refine zo (iv (b1.Drop.length : Int)) ?_ (et_ (Z2J (P := PP) (t := 27) (d := 3) (by kernel_rfl) (eI .i64) (shrO z10) b1.Drop))
 exact zk (ZjT b1.Drop (b1.Drop.length : Int) 0 b0 b1 b2 zI zP zY zT z19 z1y (shrO z10) zB z14 z10 zJ z15 z1q)
def Zbt (x54 : List Zw) (x55 x56 : Int) (b1 : Z1f) (zI zP zY zT : Int) (z1y : List (Int × Zw)) : Option (ZC × Int) :=
 if (decide (x56 < x55)) = true then
 (ZdR x54 x55 x56 b1 zI zP zY zT z1y)
 else
 (Zbx b1 zI zP zY zT z1y)
theorem ZqH (x54 : List Zw) x55 x56 b0 b1 b2 zI zP zY zT z19 z1y ox54 zB z14 z10 zJ z15 (z1q : ZR zJ = true) : Sim (Z2O) (Zbt x54 x55 x56 b1 zI zP zY zT z1y) (Zpe 0 (.ptr 1 0) (.ptr 2 0) (.ptr 3 0) (.mp 4) (ZK ox54 (x54.map ZE)) (iv x55) (iv x56) [(Zx b0 zB), (ZH b1 z14 z10), (Zx b2 zJ), (Z2z zI zP zY zT z19 z15), (rM_ ZE (z1y))]) := by
 unfold Zbt
 refine zf (ZGv ..)<|ze<|zq ?_
 refine za (decide (x56 < x55)) ?_ ?_
 ·exact zk (ZqQ x54 x55 x56 b0 b1 b2 zI zP zY zT z19 z1y ox54 zB z14 z10 zJ z15 z1q)
 ·exact zk (ZqR b0 b1 b2 zI zP zY zT z19 z1y zB z14 z10 zJ z15 z1q)
theorem ZjQ x54 x55 x56 b1 zI zP zY zT z1y {r} (h : Zbt x54 x55 x56 b1 zI zP zY zT z1y = some r) : ZbG x54 x55 x56 b1 zI zP zY zT z1y = some r :=
 Z1c (fun _ _ ha hb => RRun.uniq Zdk (ha default default default .ex .ex .ex .ex .ex .ex rfl) (hb default default default .ex .ex .ex .ex .ex .ex rfl)) (fun b0 b2 z19 ox54 zB z14 z10 zJ z15 z1q => ZqH x54 x55 x56 b0 b1 b2 zI zP zY zT z19 z1y ox54 zB z14 z10 zJ z15 z1q r h)
def ZdU (x66 : List Int) (x67 x68 : Int) (b1 : Z1f) (zI zP zY zT : Int) (z1y : List (Int × Zw)) : Option (ZC × Int) :=
 ZbH x66 x67 (IntKind.i64.wrap (x68 + 1)) b1 zI zP zY zT z1y
theorem ZqU (x66 : List Int) x67 x68 b0 b1 b2 zI zP zY zT z19 z1y ox66 zB z14 z10 zJ z15 (z1q : ZR zJ = true) : Sim (Z2O) (ZdU x66 x67 x68 b1 zI zP zY zT z1y) (Zzu 0 (.ptr 1 0) (.ptr 2 0) (.ptr 3 0) (.mp 4) (ZK ox66 (x66.map (eI .i64))) (iv x67) (iv x68) [(Zx b0 zB), (ZH b1 z14 z10), (Zx b2 zJ), (Z2z zI zP zY zT z19 z15), (rM_ ZE (z1y))]) := by
 unfold ZdU
 refine zf (ZGF ..)<|ze<|zq ?_
 exact zk (ZjT x66 x67 (IntKind.i64.wrap (x68 + 1)) b0 b1 b2 zI zP zY zT z19 z1y ox66 zB z14 z10 zJ z15 z1q)
def ZdT (x11 : Int) (x66 : List Int) (x67 x68 : Int) (b1 : Z1f) (zI zP zY zT : Int) (z1y : List (Int × Zw)) : Option (ZC × Int) :=
 ZdU x66 x67 x68 b1 zI zP zY zT (delM z1y x11)
theorem ZqT x11 (x66 : List Int) x67 x68 b0 b1 b2 zI zP zY zT z19 z1y ox66 zB z14 z10 zJ z15 (z1q : ZR zJ = true) : Sim (Z2O) (ZdT x11 x66 x67 x68 b1 zI zP zY zT z1y) (Zzt 0 (.ptr 1 0) (.ptr 2 0) (.ptr 3 0) (.mp 4) (iv x11) (ZK ox66 (x66.map (eI .i64))) (iv x67) (iv x68) [(Zx b0 zB), (ZH b1 z14 z10), (Zx b2 zJ), (Z2z zI zP zY zT z19 z15), (rM_ ZE (z1y))]) := by
 unfold ZdT
 refine zf (ZGE ..)<|ze ?_
 refine Sim.xdel (B2 := [(Zx b0 zB), (ZH b1 z14 z10), (Zx b2 zJ), (Z2z zI zP zY zT z19 z15), (rM_ ZE (delM z1y x11))]) (fun K => Eq.trans (b := xdel PP 110 (.mp 4) (iv x11) [(Zx b0 zB), (ZH b1 z14 z10), (Zx b2 zJ), (Z2z zI zP zY zT z19 z15), (rM_ ZE z1y)] K) (by kernel_rfl) <| ZNM (P := PP) (t := 110) (K := K) (B2 := [(Zx b0 zB), (ZH b1 z14 z10), (Zx b2 zJ), (Z2z zI zP zY zT z19 z15), (rM_ ZE (delM z1y x11))]) (e := ZE) (es := z1y) (te := 43) (by kernel_rfl) (by kernel_rfl) (by kernel_rfl)) ?_
 exact zk (ZqU x66 x67 x68 b0 b1 b2 zI zP zY zT z19 (delM z1y x11) ox66 zB z14 z10 zJ z15 z1q)
def ZdS (x66 : List Int) (x67 x68 : Int) (b1 : Z1f) (zI zP zY zT : Int) (z1y : List (Int × Zw)) : Option (ZC × Int) :=
 (lget x66 x68).bind fun a1 =>
 if (!(getM z1y a1).isSome) = true then
 (some ((ZC.mk 0 0 0 0 ([] : List Zw)), 32))
 else
 (ZdT a1 x66 x67 x68 b1 zI zP zY zT z1y)
theorem ZqS (x66 : List Int) x67 x68 b0 b1 b2 zI zP zY zT z19 z1y ox66 zB z14 z10 zJ z15 (z1q : ZR zJ = true) : Sim (Z2O) (ZdS x66 x67 x68 b1 zI zP zY zT z1y) (Zzs 0 (.ptr 1 0) (.ptr 2 0) (.ptr 3 0) (.mp 4) (ZK ox66 (x66.map (eI .i64))) (iv x67) (iv x68) [(Zx b0 zB), (ZH b1 z14 z10), (Zx b2 zJ), (Z2z zI zP zY zT z19 z15), (rM_ ZE (z1y))]) := by
 unfold ZdS
 refine zf (ZGD ..)<|ze<|zi fun a1 ha1 => ?_
 refine zo (.cptr [(.v (.int .i64 a1))]) ?_ (et_ (Z3G (o := ox66) (k := .i64) (n := 1) (e := (eI .i64)) (cs := (fun a => [(eI .i64) a])) (fun _ => rfl) (fun _ => rfl) (by decide) ha1))
 refine zq<|ze ?_
 refine zo (.p (.tup [(.agg (Z1U ((getM z1y a1).getD (Zw.mk 0 0 0 0 (ByteArray.mk #[]))))), (.v (.bool (getM z1y a1).isSome))])) ?_ (Eq.trans (b := Zeh PP 110 true (.mp 4) (iv a1) [(Zx b0 zB), (ZH b1 z14 z10), (Zx b2 zJ), (Z2z zI zP zY zT z19 z15), (rM_ ZE z1y)]) (by kernel_rfl) <| (ZrO (e := ZE) (z := (Zw.mk 0 0 0 0 (ByteArray.mk #[]))) (es := z1y) (te := 43) (by kernel_rfl) (by kernel_rfl) (by kernel_rfl) true).trans (by kernel_rfl))
 refine zq<|zq<|zz (.ptr 5 0) [(Zx b0 zB), (ZH b1 z14 z10), (Zx b2 zJ), (Z2z zI zP zY zT z19 z15), (rM_ ZE z1y), (Z1L (Zw.mk 0 0 0 0 (ByteArray.mk #[])))]<|zt [(Zx b0 zB), (ZH b1 z14 z10), (Zx b2 zJ), (Z2z zI zP zY zT z19 z15), (rM_ ZE z1y), (Z1L ((getM z1y a1).getD (Zw.mk 0 0 0 0 (ByteArray.mk #[]))))]<|ze<|zq ?_
 refine za (!(getM z1y a1).isSome) ?_ ?_
 ·refine ze<|zq<|zt [(Zx b0 zB), (ZH b1 z14 z10), (Zx Z4i .nl), (Z2z zI zP zY zT z19 z15), (rM_ ZE z1y), (Z1L ((getM z1y a1).getD (Zw.mk 0 0 0 0 (ByteArray.mk #[]))))] ?_
  exact zr ((.p (.tup [(.agg (Z1z Z4i .sh)), (.v (.int .i64 32))])), [(Zx b0 zB), (ZH b1 z14 z10), (Zx Z4i .nl), (Z2z zI zP zY zT z19 z15), (rM_ ZE z1y), (Z1L ((getM z1y a1).getD (Zw.mk 0 0 0 0 (ByteArray.mk #[]))))]) ⟨_, rfl⟩
 ·exact zk (ZqT a1 x66 x67 x68 b0 b1 b2 zI zP zY zT z19 z1y ox66 zB z14 z10 zJ z15 z1q)
def Zby (b1 : Z1f) (zI zP zY zT : Int) (z1y : List (Int × Zw)) : Option (ZC × Int) :=
 ZbI b1.Put (b1.Put.length : Int) 0 zI zP zY zT z1y
theorem ZqV b0 b1 b2 zI zP zY zT z19 z1y zB z14 z10 zJ z15 (z1q : ZR zJ = true) : Sim (Z2O) (Zby b1 zI zP zY zT z1y) (Zzv 0 (.ptr 1 0) (.ptr 2 0) (.ptr 3 0) (.mp 4) [(Zx b0 zB), (ZH b1 z14 z10), (Zx b2 zJ), (Z2z zI zP zY zT z19 z15), (rM_ ZE (z1y))]) := by
 unfold Zby
 refine zf (ZGG ..)<|ze<|zq<|zq ?_
 refine zo (iv (b1.Put.length : Int)) ?_ (et_ (Z2J (P := PP) (t := 22) (d := 43) (by kernel_rfl) ZE (shrO z14) b1.Put))
 exact zk (ZjV b1.Put (b1.Put.length : Int) 0 b0 b1 b2 zI zP zY zT z19 z1y (shrO z14) zB z14 z10 zJ z15 z1q)
def Zbu (x66 : List Int) (x67 x68 : Int) (b1 : Z1f) (zI zP zY zT : Int) (z1y : List (Int × Zw)) : Option (ZC × Int) :=
 if (decide (x68 < x67)) = true then
 (ZdS x66 x67 x68 b1 zI zP zY zT z1y)
 else
 (Zby b1 zI zP zY zT z1y)
theorem ZqJ (x66 : List Int) x67 x68 b0 b1 b2 zI zP zY zT z19 z1y ox66 zB z14 z10 zJ z15 (z1q : ZR zJ = true) : Sim (Z2O) (Zbu x66 x67 x68 b1 zI zP zY zT z1y) (Zpf 0 (.ptr 1 0) (.ptr 2 0) (.ptr 3 0) (.mp 4) (ZK ox66 (x66.map (eI .i64))) (iv x67) (iv x68) [(Zx b0 zB), (ZH b1 z14 z10), (Zx b2 zJ), (Z2z zI zP zY zT z19 z15), (rM_ ZE (z1y))]) := by
 unfold Zbu
 refine zf (ZGw ..)<|ze<|zq ?_
 refine za (decide (x68 < x67)) ?_ ?_
 ·exact zk (ZqS x66 x67 x68 b0 b1 b2 zI zP zY zT z19 z1y ox66 zB z14 z10 zJ z15 z1q)
 ·exact zk (ZqV b0 b1 b2 zI zP zY zT z19 z1y zB z14 z10 zJ z15 z1q)
theorem ZjS x66 x67 x68 b1 zI zP zY zT z1y {r} (h : Zbu x66 x67 x68 b1 zI zP zY zT z1y = some r) : ZbH x66 x67 x68 b1 zI zP zY zT z1y = some r :=
 Z1c (fun _ _ ha hb => RRun.uniq Zdk (ha default default default .ex .ex .ex .ex .ex .ex rfl) (hb default default default .ex .ex .ex .ex .ex .ex rfl)) (fun b0 b2 z19 ox66 zB z14 z10 zJ z15 z1q => ZqJ x66 x67 x68 b0 b1 b2 zI zP zY zT z19 z1y ox66 zB z14 z10 zJ z15 z1q r h)
def ZdV (x85 : List Zw) (x86 x87 zI zP zY zT : Int) (z1y : List (Int × Zw)) : Option (ZC × Int) :=
 (lget x85 x87).bind fun a1 =>
 ZbI x85 x86 (IntKind.i64.wrap (x87 + 1)) zI zP zY zT (putM z1y a1.ID a1)
theorem ZqW (x85 : List Zw) x86 x87 b0 b1 b2 zI zP zY zT z19 z1y ox85 zB z14 z10 zJ z15 (z1q : ZR zJ = true) : Sim (Z2O) (ZdV x85 x86 x87 zI zP zY zT z1y) (Zzw 0 (.ptr 2 0) (.ptr 3 0) (.mp 4) (ZK ox85 (x85.map ZE)) (iv x86) (iv x87) [(Zx b0 zB), (ZH b1 z14 z10), (Zx b2 zJ), (Z2z zI zP zY zT z19 z15), (rM_ ZE (z1y))]) := by
 unfold ZdV
 refine zf (ZGH ..)<|ze<|zi fun a1 ha1 => ?_
 refine zo (.cptr (Z1U a1)) ?_ (et_ (Z3G (o := ox85) (k := .i64) (n := 5) (e := ZE) (cs := Z4Z) (fun _ => rfl) (fun _ => rfl) (by decide) ha1))
 refine zq<|zz (.ptr 5 0) [(Zx b0 zB), (ZH b1 z14 z10), (Zx b2 zJ), (Z2z zI zP zY zT z19 z15), (rM_ ZE z1y), (Z1L (Zw.mk 0 0 0 0 (ByteArray.mk #[])))]<|zt [(Zx b0 zB), (ZH b1 z14 z10), (Zx b2 zJ), (Z2z zI zP zY zT z19 z15), (rM_ ZE z1y), (Z1L a1)]<|ze<|zq<|zq<|zq ?_
 refine Sim.xupd (B2 := [(Zx b0 zB), (ZH b1 z14 z10), (Zx b2 zJ), (Z2z zI zP zY zT z19 z15), (rM_ ZE (putM z1y a1.ID a1)), (Z1L a1)]) (fun K => Eq.trans (b := xupd PP 110 (.mp 4) (iv a1.ID) (pA_ (Z1U a1)) [(Zx b0 zB), (ZH b1 z14 z10), (Zx b2 zJ), (Z2z zI zP zY zT z19 z15), (rM_ ZE z1y), (Z1L a1)] K) (by kernel_rfl) <| Zuu (P := PP) (t := 110) (K := K) (B2 := [(Zx b0 zB), (ZH b1 z14 z10), (Zx b2 zJ), (Z2z zI zP zY zT z19 z15), (rM_ ZE (putM z1y a1.ID a1)), (Z1L a1)]) (e := ZE) (a := a1) (es := z1y) (te := 43) (by kernel_rfl) (by kernel_rfl) (by kernel_rfl) (by kernel_rfl) (by kernel_rfl)) ?_
 refine ze<|zq ?_
 exact zk (ZjV x85 x86 (IntKind.i64.wrap (x87 + 1)) b0 b1 b2 zI zP zY zT z19 (putM z1y a1.ID a1) ox85 zB z14 z10 zJ z15 z1q)
def ZdW (zI zP zY zT : Int) (z1y : List (Int × Zw)) : Option (ZC × Int) :=
 (Zb5).bind fun r1 =>
 (Zcg z1y).bind fun r2 =>
 ZbJ r2 (r2.length : Int) 0 zI zP zY zT ([] : List Zw) z1y
theorem ZqY b0 b1 b2 zI zP zY zT z19 z1y zB z14 z10 zJ z15 (z1q : ZR zJ = true) : Sim (Z2O) (ZdW zI zP zY zT z1y) (Zzy 0 (.ptr 2 0) (.ptr 3 0) (.mp 4) [(Zx b0 zB), (ZH b1 z14 z10), (Zx b2 zJ), (Z2z zI zP zY zT z19 z15), (rM_ ZE (z1y))]) := by
 unfold ZdW
 refine zf (ZGJ ..)<|ze<|zq<|zt [(Zx b0 zB), (ZH b1 z14 z10), (Zx b2 zJ), (Z2z zI zP zY zT ([] : List Zw) .nl), (rM_ ZE z1y)]<|ze<|zi fun r1 hr1 => ?_
 obtain ⟨_, er1, _, rfl, _⟩ := Znu z1y r1 hr1
 refine zc [4] (.clo 78 [] [(.ptr 5 0)]) [(Zx b0 zB), (ZH b1 z14 z10), (Zx b2 zJ), (Z2z zI zP zY zT ([] : List Zw) .nl), (rM_ ZE z1y), [(.mp 4)]] er1<|zi fun r2 hr2 => ?_
 obtain ⟨_, er2, _, rfl⟩ := ZlJ z1y r2 hr2
 refine zc [5, 4] (ZK .sh (r2.map (eI .i64))) [(Zx b0 zB), (ZH b1 z14 z10), (Zx b2 zJ), (Z2z zI zP zY zT ([] : List Zw) .nl), (rM_ ZE z1y), [(.mp 4)]] er2 ?_
 refine zo (iv (r2.length : Int)) ?_ (et_ (Z2J (P := PP) (t := 27) (d := 3) (by kernel_rfl) (eI .i64) .sh r2))
 exact zk (ZjX r2 (r2.length : Int) 0 b0 b1 b2 zI zP zY zT ([] : List Zw) z1y .sh zB z14 z10 zJ .nl z1q rfl)
def Zbz (zI zP zY zT : Int) (z1y : List (Int × Zw)) : Option (ZC × Int) :=
 if (decide (16 < (z1y.length : Int))) = true then
 (some ((ZC.mk 0 0 0 0 ([] : List Zw)), 33))
 else
 (ZdW zI zP zY zT z1y)
theorem ZqX b0 b1 b2 zI zP zY zT z19 z1y zB z14 z10 zJ z15 (z1q : ZR zJ = true) : Sim (Z2O) (Zbz zI zP zY zT z1y) (Zzx 0 (.ptr 2 0) (.ptr 3 0) (.mp 4) [(Zx b0 zB), (ZH b1 z14 z10), (Zx b2 zJ), (Z2z zI zP zY zT z19 z15), (rM_ ZE (z1y))]) := by
 unfold Zbz
 refine zf (ZGI ..)<|ze ?_
 refine zo (iv (z1y.length : Int)) ?_ (Eq.trans (b := ZrP (.mp 4) [(Zx b0 zB), (ZH b1 z14 z10), (Zx b2 zJ), (Z2z zI zP zY zT z19 z15), (rM_ ZE z1y)]) (by kernel_rfl) (ZLn (e := ZE) (es := z1y) (by kernel_rfl)))
 refine zq ?_
 refine za (decide (16 < (z1y.length : Int))) ?_ ?_
 ·refine ze<|zq<|zt [(Zx b0 zB), (ZH b1 z14 z10), (Zx Z4i .nl), (Z2z zI zP zY zT z19 z15), (rM_ ZE z1y)] ?_
  exact zr ((.p (.tup [(.agg (Z1z Z4i .sh)), (.v (.int .i64 33))])), [(Zx b0 zB), (ZH b1 z14 z10), (Zx Z4i .nl), (Z2z zI zP zY zT z19 z15), (rM_ ZE z1y)]) ⟨_, rfl⟩
 ·exact zk (ZqY b0 b1 b2 zI zP zY zT z19 z1y zB z14 z10 zJ z15 z1q)
def Zbv (x85 : List Zw) (x86 x87 zI zP zY zT : Int) (z1y : List (Int × Zw)) : Option (ZC × Int) :=
 if (decide (x87 < x86)) = true then
 (ZdV x85 x86 x87 zI zP zY zT z1y)
 else
 (Zbz zI zP zY zT z1y)
theorem ZqL (x85 : List Zw) x86 x87 b0 b1 b2 zI zP zY zT z19 z1y ox85 zB z14 z10 zJ z15 (z1q : ZR zJ = true) : Sim (Z2O) (Zbv x85 x86 x87 zI zP zY zT z1y) (Zpg 0 (.ptr 2 0) (.ptr 3 0) (.mp 4) (ZK ox85 (x85.map ZE)) (iv x86) (iv x87) [(Zx b0 zB), (ZH b1 z14 z10), (Zx b2 zJ), (Z2z zI zP zY zT z19 z15), (rM_ ZE (z1y))]) := by
 unfold Zbv
 refine zf (ZGx ..)<|ze<|zq ?_
 refine za (decide (x87 < x86)) ?_ ?_
 ·exact zk (ZqW x85 x86 x87 b0 b1 b2 zI zP zY zT z19 z1y ox85 zB z14 z10 zJ z15 z1q)
 ·exact zk (ZqX b0 b1 b2 zI zP zY zT z19 z1y zB z14 z10 zJ z15 z1q)
theorem ZjU x85 x86 x87 zI zP zY zT z1y {r} (h : Zbv x85 x86 x87 zI zP zY zT z1y = some r) : ZbI x85 x86 x87 zI zP zY zT z1y = some r :=
 Z1c (fun _ _ ha hb => RRun.uniq Zdk (ha default default default default .ex .ex .ex .ex .ex .ex rfl) (hb default default default default .ex .ex .ex .ex .ex .ex rfl)) (fun b0 b1 b2 z19 ox85 zB z14 z10 zJ z15 z1q => ZqL x85 x86 x87 b0 b1 b2 zI zP zY zT z19 z1y ox85 zB z14 z10 zJ z15 z1q r h)
def ZdX (x103 : List Int) (x104 x105 zI zP zY zT : Int) (z19 : List Zw) (z1y : List (Int × Zw)) : Option (ZC × Int) :=
 (lget x103 x105).bind fun a1 =>
 (lapp z19 ([((getM z1y a1).getD (Zw.mk 0 0 0 0 (ByteArray.mk #[])))] : List Zw)).bind fun a2 =>
 ZbJ x103 x104 (IntKind.i64.wrap (x105 + 1)) zI zP zY zT a2 z1y
theorem ZqZ (x103 : List Int) x104 x105 b0 b1 b2 zI zP zY zT z19 z1y ox103 zB z14 z10 zJ z15 (z1q : ZR zJ = true) (zag : ZR z15 = true) : Sim (Z2O) (ZdX x103 x104 x105 zI zP zY zT z19 z1y) (Zzz 0 (.ptr 2 0) (.ptr 3 0) (.mp 4) (ZK ox103 (x103.map (eI .i64))) (iv x104) (iv x105) [(Zx b0 zB), (ZH b1 z14 z10), (Zx b2 zJ), (Z2z zI zP zY zT z19 z15), (rM_ ZE (z1y))]) := by
 unfold ZdX
 refine zf (ZGK ..)<|ze<|zi fun a1 ha1 => ?_
 refine zo (.cptr [(.v (.int .i64 a1))]) ?_ (et_ (Z3G (o := ox103) (k := .i64) (n := 1) (e := (eI .i64)) (cs := (fun a => [(eI .i64) a])) (fun _ => rfl) (fun _ => rfl) (by decide) ha1))
 refine zq<|ze<|zq<|zw (ZK z15 (z19.map ZE)) [(Zx b0 zB), (ZH b1 z14 z10), (Zx b2 zJ), (Z2z zI zP zY zT z19 (shrO z15)), (rM_ ZE z1y)] ?_
 refine zo (pA_ (Z1U ((getM z1y a1).getD (Zw.mk 0 0 0 0 (ByteArray.mk #[]))))) ?_ (Eq.trans (b := Zeh PP 110 false (.mp 4) (iv a1) [(Zx b0 zB), (ZH b1 z14 z10), (Zx b2 zJ), (Z2z zI zP zY zT z19 (shrO z15)), (rM_ ZE z1y)]) (by kernel_rfl) <| (ZrO (e := ZE) (z := (Zw.mk 0 0 0 0 (ByteArray.mk #[]))) (es := z1y) (te := 43) (by kernel_rfl) (by kernel_rfl) (by kernel_rfl) false).trans (by kernel_rfl))
 refine zq<|zi fun a2 ha2 => ?_
 refine zo (ZK .un (a2.map ZE)) ?_ (Eq.trans (by kernel_rfl) <| ZiB (n := 5) (o := z15) (o' := .ex) (e := ZE) (ys := ([((getM z1y a1).getD (Zw.mk 0 0 0 0 (ByteArray.mk #[])))] : List Zw)) (fun _ => rfl) (by decide) zag ha2)
 refine zq<|zt [(Zx b0 zB), (ZH b1 z14 z10), (Zx b2 zJ), (Z2z zI zP zY zT a2 .un), (rM_ ZE z1y)]<|ze<|zq ?_
 exact zk (ZjX x103 x104 (IntKind.i64.wrap (x105 + 1)) b0 b1 b2 zI zP zY zT a2 z1y ox103 zB z14 z10 zJ .un z1q rfl)
def ZdY (zI zP zY zT : Int) (z19 : List Zw) : Option (ZC × Int) :=
 some ((ZC.mk zI zP zY zT z19), 0)
theorem Zr0 b0 b1 b2 zI zP zY zT z19 zB z14 z10 zJ z15 (z1q : ZR zJ = true) (zag : ZR z15 = true) : Sim (Z2O) (ZdY zI zP zY zT z19) (ZzA 0 (.ptr 2 0) (.ptr 3 0) [(Zx b0 zB), (ZH b1 z14 z10), (Zx b2 zJ), (Z2z zI zP zY zT z19 z15)]) := by
 unfold ZdY
 refine zf (ZGL ..)<|ze<|zq<|zt [(Zx b0 zB), (ZH b1 z14 z10), (Z2z zI zP zY zT z19 (shrO z15)), (Z2z zI zP zY zT z19 z15)] ?_
 exact zr ((.p (.tup [(.agg (Z1z (ZC.mk zI zP zY zT z19) .sh)), (.v (.int .i64 0))])), [(Zx b0 zB), (ZH b1 z14 z10), (Z2z zI zP zY zT z19 (shrO z15)), (Z2z zI zP zY zT z19 z15)]) ⟨_, rfl⟩
def Zbw (x103 : List Int) (x104 x105 zI zP zY zT : Int) (z19 : List Zw) (z1y : List (Int × Zw)) : Option (ZC × Int) :=
 if (decide (x105 < x104)) = true then
 (ZdX x103 x104 x105 zI zP zY zT z19 z1y)
 else
 (ZdY zI zP zY zT z19)
theorem ZqN (x103 : List Int) x104 x105 b0 b1 b2 zI zP zY zT z19 z1y ox103 zB z14 z10 zJ z15 (z1q : ZR zJ = true) (zag : ZR z15 = true) : Sim (Z2O) (Zbw x103 x104 x105 zI zP zY zT z19 z1y) (Zph 0 (.ptr 2 0) (.ptr 3 0) (.mp 4) (ZK ox103 (x103.map (eI .i64))) (iv x104) (iv x105) [(Zx b0 zB), (ZH b1 z14 z10), (Zx b2 zJ), (Z2z zI zP zY zT z19 z15), (rM_ ZE (z1y))]) := by
 unfold Zbw
 refine zf (ZGy ..)<|ze<|zq ?_
 refine za (decide (x105 < x104)) ?_ ?_
 ·exact zk (ZqZ x103 x104 x105 b0 b1 b2 zI zP zY zT z19 z1y ox103 zB z14 z10 zJ z15 z1q zag)
 ·exact zk (Zr0 b0 b1 b2 zI zP zY zT z19 zB z14 z10 zJ z15 z1q zag)
theorem ZjW x103 x104 x105 zI zP zY zT z19 z1y {r} (h : Zbw x103 x104 x105 zI zP zY zT z19 z1y = some r) : ZbJ x103 x104 x105 zI zP zY zT z19 z1y = some r :=
 Z1c (fun _ _ ha hb => RRun.uniq Zdk (ha default default default .ex .ex .ex .ex .ex .ex rfl rfl) (hb default default default .ex .ex .ex .ex .ex .ex rfl rfl)) (fun b0 b1 b2 ox103 zB z14 z10 zJ z15 z1q zag => ZqN x103 x104 x105 b0 b1 b2 zI zP zY zT z19 z1y ox103 zB z14 z10 zJ z15 z1q zag r h)
def Z9K  : Option (Bool) :=
 some (false)
theorem Zgi  : Sim (ZW) (Z9K) (Zwy 0  []) := by
 unfold Z9K
 refine zf (ZIm ..)<|ze ?_
 exact zr ((bv false), []) ⟨_, rfl⟩
def Zc2 (b0 : ZC) : Option (Bool) :=
 Z9P 0 b0.Rules (b0.Rules.length : Int) 0
theorem ZnJ b0 zB : Sim (ZW) (Zc2 b0) (ZB8 0 (.ptr 0 0) [(Zx b0 zB)]) := by
 unfold Zc2
 refine zf (ZIn ..)<|ze<|ze<|zq<|zq ?_
 refine zo (iv (b0.Rules.length : Int)) ?_ (et_ (Z2J (P := PP) (t := 22) (d := 43) (by kernel_rfl) ZE (shrO zB) b0.Rules))
 exact zk (Zh3 0 b0.Rules (b0.Rules.length : Int) 0 (shrO zB))
def ZdZ (x0 : ZC) : Option (Bool) :=
 (Z9Q x0).bind fun r1 =>
 if (!r1) = true then
 (Z9K)
 else
 (if (decide (16 < (x0.Rules.length : Int))) = true then
 (Z9K)
 else
 (Zc2 x0))
theorem Zr2 x0 z17 : Sim (ZW) (ZdZ x0) (EE 20 [(pA_ (Z1z x0 z17))] []) := by
 unfold ZdZ
 refine zf (ZOh ..)<|ze<|zx (.ptr 0 0) [(Zx x0 z17)]<|ze<|zq<|zi fun r1 hr1 => ?_
 obtain ⟨_, er1, _, rfl⟩ := Zh4 x0 .sh r1 hr1
 refine zc [] (bv r1) [(Zx x0 z17)] er1<|zq ?_
 refine za (!r1) ?_ ?_
 ·exact zk (Zgi )
 ·refine zq<|zq ?_
  refine zo (iv (x0.Rules.length : Int)) ?_ (et_ (Z2J (P := PP) (t := 22) (d := 43) (by kernel_rfl) ZE (shrO z17) x0.Rules))
  refine zq ?_
  refine za (decide (16 < (x0.Rules.length : Int))) ?_ ?_
  ·exact zk (Zgi )
  ·exact zk (ZnJ x0 z17)
theorem Zs9 x0 {r} (h : ZdZ x0 = some r) : ZbK x0 = some r :=
 Z1c (fun _ _ ha hb => RRun.uniq Z2d (ha .ex) (hb .ex)) (fun z17 => Zr2 x0 z17 r h)
def Z9L  : Option (Bool) :=
 some (false)
theorem Zgj  : Sim (ZW) (Z9L) (Zwz 0  []) := by
 unfold Z9L
 refine zf (ZIp ..)<|ze ?_
 exact zr ((bv false), []) ⟨_, rfl⟩
def Zb4 (x3 : Int) (x16 : List Zw) (x17 x18 : Int) : Option (Bool) :=
 Z9P x3 x16 x17 (IntKind.i64.wrap (x18 + 1))
theorem Zn3 x3 (x16 : List Zw) x17 x18 ox16 : Sim (ZW) (Zb4 x3 x16 x17 x18) (Zzk 0 (iv x3) (ZK ox16 (x16.map ZE)) (iv x17) (iv x18) []) := by
 unfold Zb4
 refine zf (ZGt ..)<|ze<|zq ?_
 exact zk (Zh3 x3 x16 x17 (IntKind.i64.wrap (x18 + 1)) ox16)
def Zc4 (x16 : List Zw) (x17 x18 : Int) (b0 : Zw) : Option (Bool) :=
 Zb4 b0.ID x16 x17 x18
theorem ZnL (x16 : List Zw) x17 x18 b0 ox16 : Sim (ZW) (Zc4 x16 x17 x18 b0) (ZBa 0 (.ptr 0 0) (ZK ox16 (x16.map ZE)) (iv x17) (iv x18) [(Z1L b0)]) := by
 unfold Zc4
 refine zf (ZIq ..)<|ze<|zq<|zq ?_
 exact zk (Zn3 b0.ID x16 x17 x18 ox16)
def Zc3 (x3 : Int) (x16 : List Zw) (x17 x18 : Int) : Option (Bool) :=
 (lget x16 x18).bind fun a1 =>
 (Z9s a1).bind fun r2 =>
 if (!r2) = true then
 (Z9L)
 else
 (if (decide (a1.ID ≤ x3)) = true then
 (Z9L)
 else
 (Zc4 x16 x17 x18 a1))
theorem ZnK x3 (x16 : List Zw) x17 x18 ox16 : Sim (ZW) (Zc3 x3 x16 x17 x18) (ZB9 0 (iv x3) (ZK ox16 (x16.map ZE)) (iv x17) (iv x18) []) := by
 unfold Zc3
 refine zf (ZIo ..)<|ze<|zi fun a1 ha1 => ?_
 refine zo (.cptr (Z1U a1)) ?_ (et_ (Z3G (o := ox16) (k := .i64) (n := 5) (e := ZE) (cs := Z4Z) (fun _ => rfl) (fun _ => rfl) (by decide) ha1))
 refine zq<|zz (.ptr 0 0) [(Z1L (Zw.mk 0 0 0 0 (ByteArray.mk #[])))]<|zt [(Z1L a1)]<|ze<|zq<|zi fun r2 hr2 => ?_
 obtain ⟨_, er2, _, rfl⟩ := Zeb a1 r2 hr2
 refine zc [] (bv r2) [(Z1L a1)] er2<|zq ?_
 refine za (!r2) ?_ ?_
 ·exact zk (Zgj )
 ·refine zq<|zq<|zq ?_
  refine za (decide (a1.ID ≤ x3)) ?_ ?_
  ·exact zk (Zgj )
  ·exact zk (ZnL x16 x17 x18 a1 ox16)
def Ze0  : Option (Bool) :=
 some (true)
theorem Zn4  : Sim (ZW) (Ze0) (Zzl 0  []) := by
 unfold Ze0
 refine zf (ZGu ..)<|ze ?_
 exact zr ((bv true), []) ⟨_, rfl⟩
def Z9J (x3 : Int) (x16 : List Zw) (x17 x18 : Int) : Option (Bool) :=
 if (decide (x18 < x17)) = true then
 (Zc3 x3 x16 x17 x18)
 else
 (Ze0)
theorem ZnI x3 (x16 : List Zw) x17 x18 ox16 : Sim (ZW) (Z9J x3 x16 x17 x18) (Zsv 0 (iv x3) (ZK ox16 (x16.map ZE)) (iv x17) (iv x18) []) := by
 unfold Z9J
 refine zf (ZIl ..)<|ze<|zq ?_
 refine za (decide (x18 < x17)) ?_ ?_
 ·exact zk (ZnK x3 x16 x17 x18 ox16)
 ·exact zk (Zn4 )
theorem Zh2 x3 x16 x17 x18 {r} (h : Z9J x3 x16 x17 x18 = some r) : Z9P x3 x16 x17 x18 = some r :=
 Z1c (fun _ _ ha hb => RRun.uniq Z2d (ha .ex) (hb .ex)) (fun ox16 => ZnI x3 x16 x17 x18 ox16 r h)
def Zc5 (x0 : ZC) : Option (Bool) :=
 if (decide (0 ≤ x0.Default)) = true then
 (if (decide (x0.Default ≤ 255)) = true then
 (if (decide (0 ≤ x0.Closed)) = true then
 (if (decide (x0.Closed ≤ 255)) = true then
 (if (decide (1 ≤ x0.Fuel)) = true then
 (if (decide (x0.Fuel ≤ 1048576)) = true then
 (if (decide (0 ≤ x0.Stack)) = true then
 (some (decide (x0.Stack ≤ 4096)))
 else
 (some (false)))
 else
 (some (false)))
 else
 (some (false)))
 else
 (some (false)))
 else
 (some (false)))
 else
 (some (false)))
 else
 (some (false))
theorem ZnM x0 z17 : Sim (ZW) (Zc5 x0) (EE 46 [(pA_ (Z1z x0 z17))] []) := by
 unfold Zc5
 refine zf (ZON ..)<|ze<|zx (.ptr 0 0) [(Zx x0 z17)]<|ze<|zq<|zq<|zq ?_
 refine za (decide (0 ≤ x0.Default)) ?_ ?_
 ·refine zq<|zq<|zq ?_
  refine za (decide (x0.Default ≤ 255)) ?_ ?_
  ·refine zq<|zq<|zq ?_
   refine za (decide (0 ≤ x0.Closed)) ?_ ?_
   ·refine zq<|zq<|zq ?_
    refine za (decide (x0.Closed ≤ 255)) ?_ ?_
    ·refine zq<|zq<|zq ?_
     refine za (decide (1 ≤ x0.Fuel)) ?_ ?_
     ·refine zq<|zq<|zq ?_
      refine za (decide (x0.Fuel ≤ 1048576)) ?_ ?_
      ·refine zq<|zq<|zq ?_
       refine za (decide (0 ≤ x0.Stack)) ?_ ?_
       ·refine zq<|zq<|zq ?_
        exact zr ((bv (decide (x0.Stack ≤ 4096))), [(Zx x0 z17)]) ⟨_, rfl⟩
       ·exact zr ((bv false), [(Zx x0 z17)]) ⟨_, rfl⟩
      ·exact zr ((bv false), [(Zx x0 z17)]) ⟨_, rfl⟩
     ·exact zr ((bv false), [(Zx x0 z17)]) ⟨_, rfl⟩
    ·exact zr ((bv false), [(Zx x0 z17)]) ⟨_, rfl⟩
   ·exact zr ((bv false), [(Zx x0 z17)]) ⟨_, rfl⟩
  ·exact zr ((bv false), [(Zx x0 z17)]) ⟨_, rfl⟩
 ·exact zr ((bv false), [(Zx x0 z17)]) ⟨_, rfl⟩
theorem Zow x0 {r} (h : Zc5 x0 = some r) : Z9Q x0 = some r :=
 Z1c (fun _ _ ha hb => RRun.uniq Z2d (ha .ex) (hb .ex)) (fun z17 => ZnM x0 z17 r h)
def ZhA (x1 z1H : Int) : Option (Int) :=
 if (x1 != (-1)) = true then
 (some (x1))
 else
 (some (z1H))
theorem ZuI x1 z1H z1N z2b z1T z1Q zB : Sim (Zhv z1N z2b z1T z1Q zB) (ZhA x1 z1H) (EE 49 [(.ptr 0 0), (iv x1)] [(Z2z z1H z1N z2b z1T z1Q zB)]) := by
 unfold ZhA
 refine zf (ZwR ..)<|ze<|zq ?_
 refine za (x1 != (-1)) ?_ ?_
 ·refine ze<|zq<|zt [(Z2z x1 z1N z2b z1T z1Q zB)] ?_
  exact zr ((.p (.tup [])), [(Z2z x1 z1N z2b z1T z1Q zB)]) ⟨_, rfl⟩
 ·exact zr ((.p (.tup [])), [(Z2z z1H z1N z2b z1T z1Q zB)]) ⟨_, rfl⟩
theorem Zvy x1 z1H {r} (h : ZhA x1 z1H = some r) : ZhG x1 z1H = some r :=
 Z1c (fun _ _ ha hb => RRun.uniq (Zwh _ _ _ _ _) (ha default default default default .ex) (hb default default default default .ex)) (fun z1N z2b z1T z1Q zB => ZuI x1 z1H z1N z2b z1T z1Q zB r h)
def Zdb (x1 z1N : Int) : Option (Int) :=
 if (x1 != (-1)) = true then
 (some (x1))
 else
 (some (z1N))
theorem ZpJ x1 z1H z1N z2b z1T z1Q zB : Sim (Zd4 z1H z2b z1T z1Q zB) (Zdb x1 z1N) (EE 49 [(.ptr 0 1), (iv x1)] [(Z2z z1H z1N z2b z1T z1Q zB)]) := by
 unfold Zdb
 refine zf (ZwR ..)<|ze<|zq ?_
 refine za (x1 != (-1)) ?_ ?_
 ·refine ze<|zq<|zt [(Z2z z1H x1 z2b z1T z1Q zB)] ?_
  exact zr ((.p (.tup [])), [(Z2z z1H x1 z2b z1T z1Q zB)]) ⟨_, rfl⟩
 ·exact zr ((.p (.tup [])), [(Z2z z1H z1N z2b z1T z1Q zB)]) ⟨_, rfl⟩
theorem Zr7 x1 z1N {r} (h : Zdb x1 z1N = some r) : Zdi x1 z1N = some r :=
 Z1c (fun _ _ ha hb => RRun.uniq (ZrX _ _ _ _ _) (ha default default default default .ex) (hb default default default default .ex)) (fun z1H z2b z1T z1Q zB => ZpJ x1 z1H z1N z2b z1T z1Q zB r h)
def Zda (x1 z2b : Int) : Option (Int) :=
 if (x1 != (-1)) = true then
 (some (x1))
 else
 (some (z2b))
theorem ZpH x1 z1H z1N z2b z1T z1Q zB : Sim (Zd3 z1H z1N z1T z1Q zB) (Zda x1 z2b) (EE 49 [(.ptr 0 2), (iv x1)] [(Z2z z1H z1N z2b z1T z1Q zB)]) := by
 unfold Zda
 refine zf (ZwR ..)<|ze<|zq ?_
 refine za (x1 != (-1)) ?_ ?_
 ·refine ze<|zq<|zt [(Z2z z1H z1N x1 z1T z1Q zB)] ?_
  exact zr ((.p (.tup [])), [(Z2z z1H z1N x1 z1T z1Q zB)]) ⟨_, rfl⟩
 ·exact zr ((.p (.tup [])), [(Z2z z1H z1N z2b z1T z1Q zB)]) ⟨_, rfl⟩
theorem Zr5 x1 z2b {r} (h : Zda x1 z2b = some r) : Zdh x1 z2b = some r :=
 Z1c (fun _ _ ha hb => RRun.uniq (ZrW _ _ _ _ _) (ha default default default default .ex) (hb default default default default .ex)) (fun z1H z1N z1T z1Q zB => ZpH x1 z1H z1N z2b z1T z1Q zB r h)
def Zd9 (x1 z1T : Int) : Option (Int) :=
 if (x1 != (-1)) = true then
 (some (x1))
 else
 (some (z1T))
theorem ZpF x1 z1H z1N z2b z1T z1Q zB : Sim (Zd2 z1H z1N z2b z1Q zB) (Zd9 x1 z1T) (EE 49 [(.ptr 0 3), (iv x1)] [(Z2z z1H z1N z2b z1T z1Q zB)]) := by
 unfold Zd9
 refine zf (ZwR ..)<|ze<|zq ?_
 refine za (x1 != (-1)) ?_ ?_
 ·refine ze<|zq<|zt [(Z2z z1H z1N z2b x1 z1Q zB)] ?_
  exact zr ((.p (.tup [])), [(Z2z z1H z1N z2b x1 z1Q zB)]) ⟨_, rfl⟩
 ·exact zr ((.p (.tup [])), [(Z2z z1H z1N z2b z1T z1Q zB)]) ⟨_, rfl⟩
theorem Zr3 x1 z1T {r} (h : Zd9 x1 z1T = some r) : Zdg x1 z1T = some r :=
 Z1c (fun _ _ ha hb => RRun.uniq (ZrV _ _ _ _ _) (ha default default default default .ex) (hb default default default default .ex)) (fun z1H z1N z2b z1Q zB => ZpF x1 z1H z1N z2b z1T z1Q zB r h)
def Zc6 (x0 : List Zw) : Option (Bool) :=
 (Z6X x0).bind fun r1 =>
 some (!r1)
theorem ZnN (x0 : List Zw) ox0 : Sim (ZW) (Zc6 x0) (EE 50 [(ZK ox0 (x0.map ZE)), (.clo 27 [] [])] []) := by
 unfold Zc6
 refine zf (ZOT ..)<|ze<|zx (.ptr 0 0) [[(.clo 27 [] [])]]<|ze<|zi fun r1 hr1 => ?_
 obtain ⟨_, er1, _, rfl⟩ := Zhb x0 .sh r1 hr1
 refine zc [0] (bv r1) [[(.clo 27 [] [])]] er1<|zq ?_
 exact zr ((bv (!r1)), [[(.clo 27 [] [])]]) ⟨_, rfl⟩
theorem Zox x0 {r} (h : Zc6 x0 = some r) : Zcd x0 = some r :=
 Z1c (fun _ _ ha hb => RRun.uniq Z2d (ha .ex) (hb .ex)) (fun ox0 => ZnN x0 ox0 r h)
def Z6O (x0 : List Zw) : Option (Bool) :=
 (Z83 x0).bind fun r1 =>
 some (decide (0 ≤ r1))
theorem Zgt (x0 : List Zw) ox0 : Sim (Z70) (Z6O x0) (EE 57 [(ZK ox0 (x0.map ZE)), (.clo 73 [] [(.ptr 0 0)])] [[(.clo 27 [] [])]]) := by
 unfold Z6O
 refine zf (ZBJ ..)<|ze<|ze<|zi fun r1 hr1 => ?_
 obtain ⟨_, er1, _, rfl⟩ := Zjm x0 .sh r1 hr1
 refine zc [0] (iv r1) [[(.clo 27 [] [])]] er1<|zq ?_
 exact zr ((bv (decide (0 ≤ r1))), [[(.clo 27 [] [])]]) ⟨_, rfl⟩
theorem Zha x0 {r} (h : Z6O x0 = some r) : Z6X x0 = some r :=
 Z1c (fun _ _ ha hb => RRun.uniq Zgf (ha .ex) (hb .ex)) (fun ox0 => Zgt x0 ox0 r h)
def Z7Y (x0 : List Zw) : Option (Int) :=
 Z5t x0 (x0.length : Int) 0
theorem ZiO (x0 : List Zw) ox0 : Sim (Z3q) (Z7Y x0) (EE 83 [(ZK ox0 (x0.map ZE)), (.clo 73 [] [(.ptr 0 0)])] [[(.clo 27 [] [])]]) := by
 unfold Z7Y
 refine zf (ZBZ ..)<|ze<|ze ?_
 refine zo (iv (x0.length : Int)) ?_ (et_ (Z2J (P := PP) (t := 22) (d := 43) (by kernel_rfl) ZE (shrO ox0) x0))
 exact zk (Zbi x0 (x0.length : Int) 0 ox0)
theorem Zjl x0 {r} (h : Z7Y x0 = some r) : Z83 x0 = some r :=
 Z1c (fun _ _ ha hb => RRun.uniq ZcU (ha .ex) (hb .ex)) (fun ox0 => ZiO x0 ox0 r h)
def Z6S (x0 : List Zw) (x7 x8 : Int) : Option (Int) :=
 Z5t x0 x7 (IntKind.i64.wrap (x8 + 1))
theorem ZgF (x0 : List Zw) x7 x8 ox0 : Sim (Z3q) (Z6S x0 x7 x8) (ZsK 1 (ZK ox0 (x0.map ZE)) (.clo 73 [] [(.ptr 0 0)]) (iv x7) (iv x8) [[(.clo 27 [] [])]]) := by
 unfold Z6S
 refine zf (ZsL ..)<|ze<|zq ?_
 exact zk (Zbi x0 x7 (IntKind.i64.wrap (x8 + 1)) ox0)
def Z5l (x0 : List Zw) (x7 x8 : Int) : Option (Int) :=
 (lget x0 x8).bind fun a1 =>
 (Z8P a1).bind fun r2 =>
 if (r2) = true then
 (some (x8))
 else
 (Z6S x0 x7 x8)
theorem ZgE (x0 : List Zw) x7 x8 ox0 : Sim (Z3q) (Z5l x0 x7 x8) (ZsI 1 (ZK ox0 (x0.map ZE)) (.clo 73 [] [(.ptr 0 0)]) (iv x7) (iv x8) [[(.clo 27 [] [])]]) := by
 unfold Z5l
 refine zf (ZsJ ..)<|ze<|ze<|zi fun a1 ha1 => ?_
 refine zo (.cptr (Z1U a1)) ?_ (et_ (Z3G (o := (shrO ox0)) (k := .i64) (n := 5) (e := ZE) (cs := Z4Z) (fun _ => rfl) (fun _ => rfl) (by decide) ha1))
 refine zq<|zi fun r2 hr2 => ?_
 obtain ⟨_, er2, _, rfl⟩ := Zn5 a1 r2 hr2
 refine zv [0] (bv r2) [[(.clo 27 [] [])]] er2 ?_
 refine za r2 ?_ ?_
 ·refine ze ?_
  exact zr ((iv x8), [[(.clo 27 [] [])]]) ⟨_, rfl⟩
 ·exact zk (ZgF x0 x7 x8 ox0)
def Z9f  : Option (Int) :=
 some (-1)
theorem ZgG  : Sim (Z3q) (Z9f) (ZsM 1  [[(.clo 27 [] [])]]) := by
 unfold Z9f
 refine zf (ZsN ..)<|ze ?_
 exact zr ((iv (-1)), [[(.clo 27 [] [])]]) ⟨_, rfl⟩
def Z4r (x0 : List Zw) (x7 x8 : Int) : Option (Int) :=
 if (decide (x8 < x7)) = true then
 (Z5l x0 x7 x8)
 else
 (Z9f)
theorem ZgD (x0 : List Zw) x7 x8 ox0 : Sim (Z3q) (Z4r x0 x7 x8) (Zj3 1 (ZK ox0 (x0.map ZE)) (.clo 73 [] [(.ptr 0 0)]) (iv x7) (iv x8) [[(.clo 27 [] [])]]) := by
 unfold Z4r
 refine zf (ZsH ..)<|ze<|zq ?_
 refine za (decide (x8 < x7)) ?_ ?_
 ·exact zk (ZgE x0 x7 x8 ox0)
 ·exact zk (ZgG )
theorem Z8c x0 x7 x8 {r} (h : Z4r x0 x7 x8 = some r) : Z5t x0 x7 x8 = some r :=
 Z1c (fun _ _ ha hb => RRun.uniq ZcU (ha .ex) (hb .ex)) (fun ox0 => ZgD x0 x7 x8 ox0 r h)
def Z8F (x0 : Zw) : Option (Bool) :=
 (Z9s x0).bind fun r1 =>
 some (!r1)
theorem Zmi x0 : Sim (Z70) (Z8F x0) (EE 73 [(pA_ (Z1U x0)), (.ptr 0 0)] [[(.clo 27 [] [])]]) := by
 unfold Z8F
 refine zf (ZPf ..)<|ze<|zx (.ptr 1 0) [[(.clo 27 [] [])], (Z1L x0)]<|ze<|zq<|zq<|zi fun r1 hr1 => ?_
 obtain ⟨_, er1, _, rfl⟩ := Zeb x0 r1 hr1
 refine zv [] (bv r1) [[(.clo 27 [] [])], (Z1L x0)] er1<|zq ?_
 exact zr ((bv (!r1)), [[(.clo 27 [] [])], (Z1L x0)]) ⟨_, rfl⟩
theorem Zfm x0 {r} (h : Z8F x0 = some r) : Z8P x0 = some r :=
 Z1c (fun _ _ ha hb => RRun.uniq Zgf (ha ) (hb )) (Zmi x0 r h)
def Zcw (x0 : Z1f) : Option (Bool) :=
 (Z6Y x0.Put ([] : List (Int × Bool))).bind fun r1 =>
 if (r1.1) = true then
 (some (true))
 else
 ((Z7k x0.Drop r1.2).bind fun r2 =>
 some (r2.1))
theorem Zou x0 z88 z6G : Sim (ZW) (Zcw x0) (EE 51 [(pA_ (Z4S x0 z88 z6G))] []) := by
 unfold Zcw
 refine zf (ZOU ..)<|ze<|zx (.ptr 0 0) [(ZH x0 z88 z6G)]<|ze<|zm (.mp 1) [(ZH x0 z88 z6G), (rM_ eB ([] : List (Int × Bool)))]<|zz (.ptr 2 0) [(ZH x0 z88 z6G), (rM_ eB ([] : List (Int × Bool))), [(.p (.v (.map none)))]]<|zt [(ZH x0 z88 z6G), (rM_ eB ([] : List (Int × Bool))), [(.mp 1)]]<|ze<|zz (.ptr 3 0) [(ZH x0 z88 z6G), (rM_ eB ([] : List (Int × Bool))), [(.mp 1)], [(.p (.v .nilFunc))]]<|zt [(ZH x0 z88 z6G), (rM_ eB ([] : List (Int × Bool))), [(.mp 1)], [(.clo 74 [] [(.ptr 2 0)])]]<|ze<|zq<|zq<|zi fun r1 hr1 => ?_
 obtain ⟨_, er1, _, rfl⟩ := Zhd x0.Put ([] : List (Int × Bool)) .sh r1 hr1
 refine zc [3, 2, 1] (bv r1.1) [(ZH x0 z88 z6G), (rM_ eB r1.2), [(.mp 1)], [(.clo 74 [] [(.ptr 2 0)])]] er1 ?_
 refine za r1.1 ?_ ?_
 ·exact zr ((bv true), [(ZH x0 z88 z6G), (rM_ eB r1.2), [(.mp 1)], [(.clo 74 [] [(.ptr 2 0)])]]) ⟨_, rfl⟩
 ·refine zq<|zq<|zq<|zi fun r2 hr2 => ?_
  obtain ⟨_, er2, _, rfl⟩ := ZhZ x0.Drop r1.2 .sh r2 hr2
  refine zc [2, 1] (bv r2.1) [(ZH x0 z88 z6G), (rM_ eB r2.2), [(.mp 1)], [(.clo 74 [] [(.ptr 2 0)])]] er2 ?_
  exact zr ((bv r2.1), [(ZH x0 z88 z6G), (rM_ eB r2.2), [(.mp 1)], [(.clo 74 [] [(.ptr 2 0)])]]) ⟨_, rfl⟩
theorem ZpB x0 {r} (h : Zcw x0 = some r) : ZcI x0 = some r :=
 Z1c (fun _ _ ha hb => RRun.uniq Z2d (ha .ex .ex) (hb .ex .ex)) (fun z88 z6G => Zou x0 z88 z6G r h)
def Z6P (x0 : List Zw) (z11 : List (Int × Bool)) : Option (Bool × (List (Int × Bool))) :=
 (Z84 x0 z11).bind fun r1 =>
 some ((decide (0 ≤ r1.1)), r1.2)
theorem Zgu (x0 : List Zw) z11 ox0 : Sim (Z5P) (Z6P x0 z11) (EE 57 [(ZK ox0 (x0.map ZE)), (.clo 75 [] [(.ptr 0 0)])] [[(.clo 74 [] [(.ptr 1 0)])], [(.mp 2)], (rM_ eB (z11))]) := by
 unfold Z6P
 refine zf (ZBJ ..)<|ze<|ze<|zi fun r1 hr1 => ?_
 obtain ⟨_, er1, _, rfl⟩ := Zjo x0 z11 .sh r1 hr1
 refine zc [0, 1, 2] (iv r1.1) [[(.clo 74 [] [(.ptr 1 0)])], [(.mp 2)], (rM_ eB r1.2)] er1<|zq ?_
 exact zr ((bv (decide (0 ≤ r1.1))), [[(.clo 74 [] [(.ptr 1 0)])], [(.mp 2)], (rM_ eB r1.2)]) ⟨_, rfl⟩
theorem Zhc x0 z11 {r} (h : Z6P x0 z11 = some r) : Z6Y x0 z11 = some r :=
 Z1c (fun _ _ ha hb => RRun.uniq Zej (ha .ex) (hb .ex)) (fun ox0 => Zgu x0 z11 ox0 r h)
def Z7Z (x0 : List Zw) (z11 : List (Int × Bool)) : Option (Int × (List (Int × Bool))) :=
 Z5u x0 (x0.length : Int) 0 z11
theorem ZiP (x0 : List Zw) z11 ox0 : Sim (Z3r) (Z7Z x0 z11) (EE 83 [(ZK ox0 (x0.map ZE)), (.clo 75 [] [(.ptr 0 0)])] [[(.clo 74 [] [(.ptr 1 0)])], [(.mp 2)], (rM_ eB (z11))]) := by
 unfold Z7Z
 refine zf (ZBZ ..)<|ze<|ze ?_
 refine zo (iv (x0.length : Int)) ?_ (et_ (Z2J (P := PP) (t := 22) (d := 43) (by kernel_rfl) ZE (shrO ox0) x0))
 exact zk (Zbj x0 (x0.length : Int) 0 z11 ox0)
theorem Zjn x0 z11 {r} (h : Z7Z x0 z11 = some r) : Z84 x0 z11 = some r :=
 Z1c (fun _ _ ha hb => RRun.uniq ZcV (ha .ex) (hb .ex)) (fun ox0 => ZiP x0 z11 ox0 r h)
def Z6T (x0 : List Zw) (x7 x8 : Int) (z11 : List (Int × Bool)) : Option (Int × (List (Int × Bool))) :=
 Z5u x0 x7 (IntKind.i64.wrap (x8 + 1)) z11
theorem ZgJ (x0 : List Zw) x7 x8 z11 ox0 : Sim (Z3r) (Z6T x0 x7 x8 z11) (ZsK 3 (ZK ox0 (x0.map ZE)) (.clo 75 [] [(.ptr 0 0)]) (iv x7) (iv x8) [[(.clo 74 [] [(.ptr 1 0)])], [(.mp 2)], (rM_ eB (z11))]) := by
 unfold Z6T
 refine zf (ZsL ..)<|ze<|zq ?_
 exact zk (Zbj x0 x7 (IntKind.i64.wrap (x8 + 1)) z11 ox0)
def Z5m (x0 : List Zw) (x7 x8 : Int) (z11 : List (Int × Bool)) : Option (Int × (List (Int × Bool))) :=
 (lget x0 x8).bind fun a1 =>
 (Z9k a1 z11).bind fun r2 =>
 if (r2.1) = true then
 (some (x8, r2.2))
 else
 (Z6T x0 x7 x8 r2.2)
theorem ZgI (x0 : List Zw) x7 x8 z11 ox0 : Sim (Z3r) (Z5m x0 x7 x8 z11) (ZsI 3 (ZK ox0 (x0.map ZE)) (.clo 75 [] [(.ptr 0 0)]) (iv x7) (iv x8) [[(.clo 74 [] [(.ptr 1 0)])], [(.mp 2)], (rM_ eB (z11))]) := by
 unfold Z5m
 refine zf (ZsJ ..)<|ze<|ze<|zi fun a1 ha1 => ?_
 refine zo (.cptr (Z1U a1)) ?_ (et_ (Z3G (o := (shrO ox0)) (k := .i64) (n := 5) (e := ZE) (cs := Z4Z) (fun _ => rfl) (fun _ => rfl) (by decide) ha1))
 refine zq<|zi fun r2 hr2 => ?_
 obtain ⟨_, er2, _, rfl⟩ := Zlf a1 z11 r2 hr2
 refine zv [0, 1, 2] (bv r2.1) [[(.clo 74 [] [(.ptr 1 0)])], [(.mp 2)], (rM_ eB r2.2)] er2 ?_
 refine za r2.1 ?_ ?_
 ·refine ze ?_
  exact zr ((iv x8), [[(.clo 74 [] [(.ptr 1 0)])], [(.mp 2)], (rM_ eB r2.2)]) ⟨_, rfl⟩
 ·exact zk (ZgJ x0 x7 x8 r2.2 ox0)
def Z9g (z11 : List (Int × Bool)) : Option (Int × (List (Int × Bool))) :=
 some ((-1), z11)
theorem ZgK z11 : Sim (Z3r) (Z9g z11) (ZsM 3  [[(.clo 74 [] [(.ptr 1 0)])], [(.mp 2)], (rM_ eB (z11))]) := by
 unfold Z9g
 refine zf (ZsN ..)<|ze ?_
 exact zr ((iv (-1)), [[(.clo 74 [] [(.ptr 1 0)])], [(.mp 2)], (rM_ eB z11)]) ⟨_, rfl⟩
def Z4s (x0 : List Zw) (x7 x8 : Int) (z11 : List (Int × Bool)) : Option (Int × (List (Int × Bool))) :=
 if (decide (x8 < x7)) = true then
 (Z5m x0 x7 x8 z11)
 else
 (Z9g z11)
theorem ZgH (x0 : List Zw) x7 x8 z11 ox0 : Sim (Z3r) (Z4s x0 x7 x8 z11) (Zj3 3 (ZK ox0 (x0.map ZE)) (.clo 75 [] [(.ptr 0 0)]) (iv x7) (iv x8) [[(.clo 74 [] [(.ptr 1 0)])], [(.mp 2)], (rM_ eB (z11))]) := by
 unfold Z4s
 refine zf (ZsH ..)<|ze<|zq ?_
 refine za (decide (x8 < x7)) ?_ ?_
 ·exact zk (ZgI x0 x7 x8 z11 ox0)
 ·exact zk (ZgK z11)
theorem Z8d x0 x7 x8 z11 {r} (h : Z4s x0 x7 x8 z11 = some r) : Z5u x0 x7 x8 z11 = some r :=
 Z1c (fun _ _ ha hb => RRun.uniq ZcV (ha .ex) (hb .ex)) (fun ox0 => ZgH x0 x7 x8 z11 ox0 r h)
def Z9c (x0 : Zw) (z11 : List (Int × Bool)) : Option (Bool × (List (Int × Bool))) :=
 (Z7t x0.ID z11).bind fun r1 =>
 some (r1.1, r1.2)
theorem Zkq x0 z11 : Sim (Z5P) (Z9c x0 z11) (EE 75 [(pA_ (Z1U x0)), (.ptr 0 0)] [[(.clo 74 [] [(.ptr 1 0)])], [(.mp 2)], (rM_ eB (z11))]) := by
 unfold Z9c
 refine zf (ZPh ..)<|ze<|zx (.ptr 3 0) [[(.clo 74 [] [(.ptr 1 0)])], [(.mp 2)], (rM_ eB z11), (Z1L x0)]<|ze<|zq<|zq<|zq<|zi fun r1 hr1 => ?_
 obtain ⟨_, er1, _, rfl⟩ := ZdH x0.ID z11 r1 hr1
 refine zv [1, 2] (bv r1.1) [[(.clo 74 [] [(.ptr 1 0)])], [(.mp 2)], (rM_ eB r1.2), (Z1L x0)] er1 ?_
 exact zr ((bv r1.1), [[(.clo 74 [] [(.ptr 1 0)])], [(.mp 2)], (rM_ eB r1.2), (Z1L x0)]) ⟨_, rfl⟩
theorem Zle x0 z11 {r} (h : Z9c x0 z11 = some r) : Z9k x0 z11 = some r :=
 Z1c (fun _ _ ha hb => RRun.uniq Zej (ha ) (hb )) (Zkq x0 z11 r h)
def ZbA (x0 : Int) (zV : List (Int × Bool)) : Option (Bool × (List (Int × Bool))) :=
 some (((getM zV x0).getD false), (putM zV x0 true))
theorem Zkp x0 zV : Sim (Z5O) (ZbA x0 zV) (EE 74 [(iv x0), (.ptr 0 0)] [[(.mp 1)], (rM_ eB (zV))]) := by
 unfold ZbA
 refine zf (ZPg ..)<|ze<|ze<|zq ?_
 refine zo (bv ((getM zV x0).getD false)) ?_ (Eq.trans (b := Zeh PP 152 false (.mp 1) (iv x0) [[(.mp 1)], (rM_ eB zV)]) (by kernel_rfl) <| (ZrO (e := eB) (z := false) (es := zV) (te := 4) (by kernel_rfl) (by kernel_rfl) (by kernel_rfl) false).trans (by kernel_rfl))
 refine ze<|zq ?_
 refine Sim.xupd (B2 := [[(.mp 1)], (rM_ eB (putM zV x0 true))]) (fun K => Eq.trans (b := xupd PP 152 (.mp 1) (iv x0) (bv true) [[(.mp 1)], (rM_ eB zV)] K) (by kernel_rfl) <| Zuu (P := PP) (t := 152) (K := K) (B2 := [[(.mp 1)], (rM_ eB (putM zV x0 true))]) (e := eB) (a := true) (es := zV) (te := 4) (by kernel_rfl) (by kernel_rfl) (by kernel_rfl) (by kernel_rfl) (by kernel_rfl)) ?_
 refine ze ?_
 exact zr ((bv ((getM zV x0).getD false)), [[(.mp 1)], (rM_ eB (putM zV x0 true))]) ⟨_, rfl⟩
theorem Zld x0 zV {r} (h : ZbA x0 zV = some r) : Z7t x0 zV = some r :=
 Z1c (fun _ _ ha hb => RRun.uniq Zei (ha ) (hb )) (Zkp x0 zV r h)
def Z7c (x0 : List Int) (zV : List (Int × Bool)) : Option (Bool × (List (Int × Bool))) :=
 (Z8k x0 zV).bind fun r1 =>
 some ((decide (0 ≤ r1.1)), r1.2)
theorem Zhe (x0 : List Int) zV ox0 : Sim (Z5O) (Z7c x0 zV) (EE 59 [(ZK ox0 (x0.map (eI .i64))), (.clo 74 [] [(.ptr 0 0)])] [[(.mp 1)], (rM_ eB (zV))]) := by
 unfold Z7c
 refine zf (ZIZ ..)<|ze<|ze<|zi fun r1 hr1 => ?_
 obtain ⟨_, er1, _, rfl⟩ := ZjK x0 zV .sh r1 hr1
 refine zc [0, 1] (iv r1.1) [[(.mp 1)], (rM_ eB r1.2)] er1<|zq ?_
 exact zr ((bv (decide (0 ≤ r1.1))), [[(.mp 1)], (rM_ eB r1.2)]) ⟨_, rfl⟩
theorem ZhY x0 zV {r} (h : Z7c x0 zV = some r) : Z7k x0 zV = some r :=
 Z1c (fun _ _ ha hb => RRun.uniq Zei (ha .ex) (hb .ex)) (fun ox0 => Zhe x0 zV ox0 r h)
def Z8i (x0 : List Int) (zV : List (Int × Bool)) : Option (Int × (List (Int × Bool))) :=
 Z5G x0 (x0.length : Int) 0 zV
theorem Zjp (x0 : List Int) zV ox0 : Sim (Z3y) (Z8i x0 zV) (EE 84 [(ZK ox0 (x0.map (eI .i64))), (.clo 74 [] [(.ptr 0 0)])] [[(.mp 1)], (rM_ eB (zV))]) := by
 unfold Z8i
 refine zf (ZJh ..)<|ze<|ze ?_
 refine zo (iv (x0.length : Int)) ?_ (et_ (Z2J (P := PP) (t := 27) (d := 3) (by kernel_rfl) (eI .i64) (shrO ox0) x0))
 exact zk (ZbM x0 (x0.length : Int) 0 zV ox0)
theorem ZjJ x0 zV {r} (h : Z8i x0 zV = some r) : Z8k x0 zV = some r :=
 Z1c (fun _ _ ha hb => RRun.uniq Zdl (ha .ex) (hb .ex)) (fun ox0 => Zjp x0 zV ox0 r h)
def Z7e (x0 : List Int) (x7 x8 : Int) (zV : List (Int × Bool)) : Option (Int × (List (Int × Bool))) :=
 Z5G x0 x7 (IntKind.i64.wrap (x8 + 1)) zV
theorem Zhi (x0 : List Int) x7 x8 zV ox0 : Sim (Z3y) (Z7e x0 x7 x8 zV) (ZwZ 2 (ZK ox0 (x0.map (eI .i64))) (.clo 74 [] [(.ptr 0 0)]) (iv x7) (iv x8) [[(.mp 1)], (rM_ eB (zV))]) := by
 unfold Z7e
 refine zf (ZAb ..)<|ze<|zq ?_
 exact zk (ZbM x0 x7 (IntKind.i64.wrap (x8 + 1)) zV ox0)
def Z5E (x0 : List Int) (x7 x8 : Int) (zV : List (Int × Bool)) : Option (Int × (List (Int × Bool))) :=
 (lget x0 x8).bind fun a1 =>
 (Z7t a1 zV).bind fun r2 =>
 if (r2.1) = true then
 (some (x8, r2.2))
 else
 (Z7e x0 x7 x8 r2.2)
theorem Zhh (x0 : List Int) x7 x8 zV ox0 : Sim (Z3y) (Z5E x0 x7 x8 zV) (ZwY 2 (ZK ox0 (x0.map (eI .i64))) (.clo 74 [] [(.ptr 0 0)]) (iv x7) (iv x8) [[(.mp 1)], (rM_ eB (zV))]) := by
 unfold Z5E
 refine zf (ZAa ..)<|ze<|ze<|zi fun a1 ha1 => ?_
 refine zo (.cptr [(.v (.int .i64 a1))]) ?_ (et_ (Z3G (o := (shrO ox0)) (k := .i64) (n := 1) (e := (eI .i64)) (cs := (fun a => [(eI .i64) a])) (fun _ => rfl) (fun _ => rfl) (by decide) ha1))
 refine zq<|zi fun r2 hr2 => ?_
 obtain ⟨_, er2, _, rfl⟩ := ZdH a1 zV r2 hr2
 refine zv [0, 1] (bv r2.1) [[(.mp 1)], (rM_ eB r2.2)] er2 ?_
 refine za r2.1 ?_ ?_
 ·refine ze ?_
  exact zr ((iv x8), [[(.mp 1)], (rM_ eB r2.2)]) ⟨_, rfl⟩
 ·exact zk (Zhi x0 x7 x8 r2.2 ox0)
def Z9w (zV : List (Int × Bool)) : Option (Int × (List (Int × Bool))) :=
 some ((-1), zV)
theorem Zhj zV : Sim (Z3y) (Z9w zV) (Zx0 2  [[(.mp 1)], (rM_ eB (zV))]) := by
 unfold Z9w
 refine zf (ZAc ..)<|ze ?_
 exact zr ((iv (-1)), [[(.mp 1)], (rM_ eB zV)]) ⟨_, rfl⟩
def Z4B (x0 : List Int) (x7 x8 : Int) (zV : List (Int × Bool)) : Option (Int × (List (Int × Bool))) :=
 if (decide (x8 < x7)) = true then
 (Z5E x0 x7 x8 zV)
 else
 (Z9w zV)
theorem Zhg (x0 : List Int) x7 x8 zV ox0 : Sim (Z3y) (Z4B x0 x7 x8 zV) (ZmQ 2 (ZK ox0 (x0.map (eI .i64))) (.clo 74 [] [(.ptr 0 0)]) (iv x7) (iv x8) [[(.mp 1)], (rM_ eB (zV))]) := by
 unfold Z4B
 refine zf (ZA9 ..)<|ze<|zq ?_
 refine za (decide (x8 < x7)) ?_ ?_
 ·exact zk (Zhh x0 x7 x8 zV ox0)
 ·exact zk (Zhj zV)
theorem Z8s x0 x7 x8 zV {r} (h : Z4B x0 x7 x8 zV = some r) : Z5G x0 x7 x8 zV = some r :=
 Z1c (fun _ _ ha hb => RRun.uniq Zdl (ha .ex) (hb .ex)) (fun ox0 => Zhg x0 x7 x8 zV ox0 r h)
def ZdN  : Option (Unit) :=
 some ()
theorem ZmR zQ : Sim (ZaY zQ) (ZdN) (EE 53 [(.mp 0)] [(rM_ ZE (zQ))]) := by
 unfold ZdN
 refine zf (ZOV ..)<|ze<|zx (.ptr 1 0) [(rM_ ZE zQ), [(.mp 0)]]<|ze ?_
 exact zr ((.clo 78 [] [(.ptr 1 0)]), [(rM_ ZE zQ), [(.mp 0)]]) ⟨[], rfl, rfl⟩
theorem Znt  {r} (h : ZdN = some r) : Zb5 = some r :=
 Z1c (fun _ _ ha hb => RRun.uniq (Zob _) (ha default) (hb default)) (fun zQ => ZmR zQ r h)
def Zcy (b0 : ZC) : Option (ZX) :=
 Zar b0.Rules (b0.Rules.length : Int) 0
theorem ZoC b0 b1 zB : Sim (Z3S) (Zcy b0) (ZAY 0 (.ptr 0 0) (.ptr 1 0) [(Zx b0 zB), (Z1a b1)]) := by
 unfold Zcy
 refine zf (ZIb ..)<|ze<|zq<|zq ?_
 refine zo (iv (b0.Rules.length : Int)) ?_ (et_ (Z2J (P := PP) (t := 22) (d := 43) (by kernel_rfl) ZE (shrO zB) b0.Rules))
 exact zk (Zix b0.Rules (b0.Rules.length : Int) 0 b0 b1 (shrO zB) zB)
def ZeM (x0 : ZC) : Option (ZX) :=
 (ZbK x0).bind fun r1 =>
 if (!r1) = true then
 (some (ZX.mk 10 0 0))
 else
 (Zcy x0)
theorem Zsh x0 z17 : Sim (Z3S) (ZeM x0) (EE 16 [(pA_ (Z1z x0 z17))] []) := by
 unfold ZeM
 refine zf (ZOc ..)<|ze<|zx (.ptr 0 0) [(Zx x0 z17)]<|zz (.ptr 1 0) [(Zx x0 z17), (Z1a Z7O)]<|ze<|zq<|zi fun r1 hr1 => ?_
 obtain ⟨_, er1, _, rfl⟩ := ZjZ x0 .sh r1 hr1
 refine zc [] (bv r1) [(Zx x0 z17), (Z1a Z7O)] er1<|zq ?_
 refine za (!r1) ?_ ?_
 ·refine ze<|zq<|zt [(Zx x0 z17), (Zku 10 0 0)] ?_
  exact zr ((pA_ (Z1W (ZX.mk 10 0 0))), [(Zx x0 z17), (Zku 10 0 0)]) ⟨_, rfl⟩
 ·exact zk (ZoC x0 Z7O z17)
theorem Zt7 x0 {r} (h : ZeM x0 = some r) : ZeQ x0 = some r :=
 Z1c (fun _ _ ha hb => RRun.uniq ZeA (ha .ex) (hb .ex)) (fun z17 => Zsh x0 z17 r h)
def Zc9 (x11 : List Zw) (x12 x13 : Int) : Option (ZX) :=
 Zar x11 x12 (IntKind.i64.wrap (x13 + 1))
theorem ZnR (x11 : List Zw) x12 x13 b0 b1 ox11 zB : Sim (Z3S) (Zc9 x11 x12 x13) (ZyP 0 (.ptr 1 0) (ZK ox11 (x11.map ZE)) (iv x12) (iv x13) [(Zx b0 zB), (Z1a b1)]) := by
 unfold Zc9
 refine zf (ZG5 ..)<|ze<|zq ?_
 exact zk (Zix x11 x12 (IntKind.i64.wrap (x13 + 1)) b0 b1 ox11 zB)
def Zcz (x11 : List Zw) (x12 x13 : Int) : Option (ZX) :=
 (lget x11 x13).bind fun a1 =>
 (Z6C a1.Pattern).bind fun r2 =>
 if (r2.Code != 0) = true then
 (some (ZX.mk r2.Code a1.ID r2.At))
 else
 (Zc9 x11 x12 x13)
theorem ZoD (x11 : List Zw) x12 x13 b0 b1 ox11 zB : Sim (Z3S) (Zcz x11 x12 x13) (ZAZ 0 (.ptr 1 0) (ZK ox11 (x11.map ZE)) (iv x12) (iv x13) [(Zx b0 zB), (Z1a b1)]) := by
 unfold Zcz
 refine zf (ZIc ..)<|ze<|zi fun a1 ha1 => ?_
 refine zo (.cptr (Z1U a1)) ?_ (et_ (Z3G (o := ox11) (k := .i64) (n := 5) (e := ZE) (cs := Z4Z) (fun _ => rfl) (fun _ => rfl) (by decide) ha1))
 refine zq<|zz (.ptr 2 0) [(Zx b0 zB), (Z1a b1), (Z1L (Zw.mk 0 0 0 0 (ByteArray.mk #[])))]<|zt [(Zx b0 zB), (Z1a b1), (Z1L a1)]<|ze<|zq<|zq<|zi fun r2 hr2 => ?_
 obtain ⟨_, er2, _, rfl⟩ := Zrh a1.Pattern r2 hr2
 refine zc [] (pA_ (Z1W r2)) [(Zx b0 zB), (Z1a b1), (Z1L a1)] er2<|zz (.ptr 3 0) [(Zx b0 zB), (Z1a b1), (Z1L a1), (Z1a Z7O)]<|zt [(Zx b0 zB), (Z1a b1), (Z1L a1), (Z1a r2)]<|ze<|zq<|zq<|zq ?_
 refine za (r2.Code != 0) ?_ ?_
 ·refine ze<|zq<|zq<|zq<|zt [(Zx b0 zB), (Z1a b1), (Z1L a1), (Zku r2.Code a1.ID r2.At)]<|ze<|zq<|zt [(Zx b0 zB), (Zku r2.Code a1.ID r2.At), (Z1L a1), (Zku r2.Code a1.ID r2.At)] ?_
  exact zr ((pA_ (Z1W (ZX.mk r2.Code a1.ID r2.At))), [(Zx b0 zB), (Zku r2.Code a1.ID r2.At), (Z1L a1), (Zku r2.Code a1.ID r2.At)]) ⟨_, rfl⟩
 ·exact zk (ZnR x11 x12 x13 b0 b1 ox11 zB)
def Zca  : Option (ZX) :=
 some (ZX.mk 0 0 0)
theorem ZnS b0 b1 zB : Sim (Z3S) (Zca) (ZyQ 0 (.ptr 1 0) [(Zx b0 zB), (Z1a b1)]) := by
 unfold Zca
 refine zf (ZG6 ..)<|ze<|zq<|zt [(Zx b0 zB), (Z1a Z7O)] ?_
 exact zr ((pA_ (Z1W Z7O)), [(Zx b0 zB), (Z1a Z7O)]) ⟨_, rfl⟩
def Zam (x11 : List Zw) (x12 x13 : Int) : Option (ZX) :=
 if (decide (x13 < x12)) = true then
 (Zcz x11 x12 x13)
 else
 (Zca)
theorem ZoB (x11 : List Zw) x12 x13 b0 b1 ox11 zB : Sim (Z3S) (Zam x11 x12 x13) (Zss 0 (.ptr 1 0) (ZK ox11 (x11.map ZE)) (iv x12) (iv x13) [(Zx b0 zB), (Z1a b1)]) := by
 unfold Zam
 refine zf (ZIa ..)<|ze<|zq ?_
 refine za (decide (x13 < x12)) ?_ ?_
 ·exact zk (ZoD x11 x12 x13 b0 b1 ox11 zB)
 ·exact zk (ZnS b0 b1 zB)
theorem Ziw x11 x12 x13 {r} (h : Zam x11 x12 x13 = some r) : Zar x11 x12 x13 = some r :=
 Z1c (fun _ _ ha hb => RRun.uniq ZeA (ha default default .ex .ex) (hb default default .ex .ex)) (fun b0 b1 ox11 zB => ZoB x11 x12 x13 b0 b1 ox11 zB r h)
def Z9h (b1 : Z1M) : Option (ZX) :=
 (ZhH b1).bind fun r1 =>
 some (ZX.mk r1 0 0)
theorem Zn7 b0 b1 zfx zeq : Sim (Z3S) (Z9h b1) (ZBd 0 (.ptr 0 0) (.ptr 1 0) [(Z1a b0), (Z1s b1 zfx zeq)]) := by
 unfold Z9h
 refine zf (ZIr ..)<|ze<|zq<|zi fun r1 hr1 => ?_
 obtain ⟨_, er1, _, rfl⟩ := ZvB b1 .sh .sh r1 hr1
 refine zc [] (iv r1) [(Z1a b0), (Z1s b1 zfx zeq)] er1<|zq<|zt [(Zku r1 0 0), (Z1s b1 zfx zeq)] ?_
 exact zr ((pA_ (Z1W (ZX.mk r1 0 0))), [(Zku r1 0 0), (Z1s b1 zfx zeq)]) ⟨_, rfl⟩
def Z7R (x0 : ByteArray) : Option (ZX) :=
 (ZhE x0).bind fun r1 =>
 if (r1.2.Code != 0) = true then
 (some (ZX.mk r1.2.Code 0 r1.2.At))
 else
 (Z9h r1.1)
theorem ZpQ x0 : Sim (Z3S) (Z7R x0) (EE 21 [(.p (.v (.string x0)))] []) := by
 unfold Z7R
 refine zf (ZOm ..)<|ze<|zz (.ptr 0 0) [(Z1a Z7O)]<|ze<|zi fun r1 hr1 => ?_
 obtain ⟨_, er1, _, rfl⟩ := Zvr x0 r1 hr1
 refine zc [] (.p (.tup [(.agg (Z4g r1.1 .sh .sh)), (.agg (Z6y r1.2))])) [(Z1a Z7O)] er1<|zq<|zq<|zz (.ptr 1 0) [(Z1a Z7O), (Z1s ZgP .nl .nl)]<|zz (.ptr 2 0) [(Z1a Z7O), (Z1s ZgP .nl .nl), (Z21 ZjE)]<|zt [(Z1a Z7O), (Z1s r1.1 .sh .sh), (Z21 ZjE)]<|zt [(Z1a Z7O), (Z1s r1.1 .sh .sh), (Z21 r1.2)]<|ze<|zq<|zq<|zq ?_
 refine za (r1.2.Code != 0) ?_ ?_
 ·refine ze<|zq<|zq<|zq<|zq<|zq<|zt [(Zku r1.2.Code 0 r1.2.At), (Z1s r1.1 .sh .sh), (Z21 r1.2)] ?_
  exact zr ((pA_ (Z1W (ZX.mk r1.2.Code 0 r1.2.At))), [(Zku r1.2.Code 0 r1.2.At), (Z1s r1.1 .sh .sh), (Z21 r1.2)]) ⟨_, rfl⟩
 ·exact zk (Zn7 Z7O r1.1 .sh .sh)
theorem Zbb x0 {r} (h : Z7R x0 = some r) : Z6C x0 = some r :=
 Z1c (fun _ _ ha hb => RRun.uniq ZeA (ha ) (hb )) (ZpQ x0 r h)
def Z6d (z3N : List Int) (z1x : Int) (z2A : List Zv) (z1e z1C z1l z1E z1D z1m z1u : Int) (z1v : List Zi) (z1k : List Zj) (z29 : Bool) : Option (Z1M × Z1n) :=
 Z9X z2A (z2A.length : Int) 0 z3N z1x z1e z1C z1l z1E z1D z1m z1u z1v z1k z29
theorem Ze9 b0 b1 z3N z3D z1x z3k z2A z1e z1C z1l z1E z1D z1m z1u z1v z1k z2Y z29 z1K z1F z4y z2l z1X z1R (z31 : ZR z1K = true) (z2P : ZR z1F = true) (z4L : ZR z2l = true) : Sim (Z5c) (Z6d z3N z1x z2A z1e z1C z1l z1E z1D z1m z1u z1v z1k z29) (ZsD 0 (.ptr 0 0) (.ptr 1 0) (.ptr 2 0) (.ptr 3 0) [(Z1s b0 z1K z1F), (Z21 b1), (ZU z3N z3D z1x z3k z2A z1e z1C z4y z2l), (ZbP z1l z1E z1D z1m z1u z1v z1k z2Y z29 z1X z1R)]) := by
 unfold Z6d
 refine zf (ZIW ..)<|ze<|zq<|zq<|zq ?_
 refine zo (iv (z2A.length : Int)) ?_ (et_ (Z2J (P := PP) (t := 142) (d := 149) (by kernel_rfl) Z3C (shrO z2l) z2A))
 exact zk (ZjP z2A (z2A.length : Int) 0 b0 b1 z3N z3D z1x z3k z2A z1e z1C z1l z1E z1D z1m z1u z1v z1k z2Y z29 (shrO z2l) z1K z1F z4y z2l z1X z1R z31 z2P z4L)
def Zbp (z3N : List Int) (z3D z1x : Int) (z2A : List Zv) (z1e z1C z1l z1E z1D z1m z1u : Int) (z1v : List Zi) (z1k : List Zj) (z29 : Bool) : Option (Z1M × Z1n) :=
 (Z1A 20 z3D z3N z1e z1C).bind fun r1 =>
 Z6d z3N z1x z2A r1.2.1 r1.2.2 z1l z1E z1D z1m z1u z1v z1k z29
theorem ZqE b0 b1 z3N z3D z1x z3k z2A z1e z1C z1l z1E z1D z1m z1u z1v z1k z2Y z29 z1K z1F z4y z2l z1X z1R (z31 : ZR z1K = true) (z2P : ZR z1F = true) (z4L : ZR z2l = true) : Sim (Z5c) (Zbp z3N z3D z1x z2A z1e z1C z1l z1E z1D z1m z1u z1v z1k z29) (ZBG 0 (.ptr 0 0) (.ptr 1 0) (.ptr 2 0) (.ptr 3 0) [(Z1s b0 z1K z1F), (Z21 b1), (ZU z3N z3D z1x z3k z2A z1e z1C z4y z2l), (ZbP z1l z1E z1D z1m z1u z1v z1k z2Y z29 z1X z1R)]) := by
 unfold Zbp
 refine zf (ZIV ..)<|ze<|zq<|zq<|zq<|zi fun r1 hr1 => ?_
 obtain ⟨_, er1, _, rfl⟩ := Z1G 20 z3D z3N z3D z1x z3k z2A z1e z1C z4y z2l z4L r1 hr1
 refine zc [2] (.p (.tup [])) [(Z1s b0 z1K z1F), (Z21 b1), (ZU z3N r1.1 z1x z3k z2A r1.2.1 r1.2.2 z4y z2l), (ZbP z1l z1E z1D z1m z1u z1v z1k z2Y z29 z1X z1R)] er1 ?_
 exact zk (Ze9 b0 b1 z3N r1.1 z1x z3k z2A r1.2.1 r1.2.2 z1l z1E z1D z1m z1u z1v z1k z2Y z29 z1K z1F z4y z2l z1X z1R z31 z2P z4L)
def ZdO (x0 : ByteArray) : Option (Z1M × Z1n) :=
 (Z2h (ByteArray.mk #[40, 63, 105, 41]) (Z5n x0) 0).bind fun r1 =>
 (Z5p (Z5n x0) r1.2 0 0 ([] : List Zv) 0 0).bind fun r2 =>
 if (r2.2.2.2.2.2.1 == 0) = true then
 (if (decide (r2.2.1 < ((Z5n x0).length : Int))) = true then
 (Zbp (Z5n x0) r2.2.1 r2.2.2.1 r2.2.2.2.2.1 r2.2.2.2.2.2.1 r2.2.2.2.2.2.2 r2.1.Kind r2.1.Lo r2.1.Hi r2.1.Mode r2.1.Ref r2.1.Set r2.1.Kids r1.1)
 else
 (Z6d (Z5n x0) r2.2.2.1 r2.2.2.2.2.1 r2.2.2.2.2.2.1 r2.2.2.2.2.2.2 r2.1.Kind r2.1.Lo r2.1.Hi r2.1.Mode r2.1.Ref r2.1.Set r2.1.Kids r1.1))
 else
 (Z6d (Z5n x0) r2.2.2.1 r2.2.2.2.2.1 r2.2.2.2.2.2.1 r2.2.2.2.2.2.2 r2.1.Kind r2.1.Lo r2.1.Hi r2.1.Mode r2.1.Ref r2.1.Set r2.1.Kids r1.1)
theorem ZqD x0 b0 b1 z1K z1F (z31 : ZR z1K = true) (z2P : ZR z1F = true) : Sim (Z5c) (ZdO x0) (ZBF 0 (.p (.v (.string x0))) (.ptr 0 0) (.ptr 1 0) [(Z1s b0 z1K z1F), (Z21 b1)]) := by
 unfold ZdO
 refine zf (ZIU ..)<|ze ?_
 refine zo (ZK .sh ((Z5n x0).map (eI .u8))) ?_ (et_ (ZLj (P := PP) (s := 9) (d := 141) (by kernel_rfl) (by kernel_rfl) x0))
 refine zq<|zx (.ptr 2 0) [(Z1s b0 z1K z1F), (Z21 b1), (Z4V (Z23.mk (Z5n x0) 0 0 0 ([] : List Zv) ZjE) .sh .nl)]<|ze<|zi fun r1 hr1 => ?_
 obtain ⟨_, er1, _, rfl⟩ := Z2q (ByteArray.mk #[40, 63, 105, 41]) (Z5n x0) 0 0 0 ([] : List Zv) 0 0 .sh .nl rfl r1 hr1
 refine zc [2] (bv r1.1) [(Z1s b0 z1K z1F), (Z21 b1), (Z4V (Z23.mk (Z5n x0) r1.2 0 0 ([] : List Zv) ZjE) .sh .nl)] er1<|zq<|zz (.ptr 3 0) [(Z1s b0 z1K z1F), (Z21 b1), (Z4V (Z23.mk (Z5n x0) r1.2 0 0 ([] : List Zv) ZjE) .sh .nl), (Z1s ZgP .nl .nl)]<|zt [(Z1s b0 z1K z1F), (Z21 b1), (Z4V (Z23.mk (Z5n x0) r1.2 0 0 ([] : List Zv) ZjE) .sh .nl), (Z1s (Z1M.mk Z2c 0 r1.1) .nl .nl)]<|ze<|zi fun r2 hr2 => ?_
 obtain ⟨_, er2, zq2, _, zvK, rfl⟩ := Zir (Z5n x0) r1.2 0 0 ([] : List Zv) 0 0 .sh .nl rfl r2 hr2
 refine zc [2] (pA_ (ZO r2.1 .sh .sh)) [(Z1s b0 z1K z1F), (Z21 b1), (ZU (Z5n x0) r2.2.1 r2.2.2.1 r2.2.2.2.1 r2.2.2.2.2.1 r2.2.2.2.2.2.1 r2.2.2.2.2.2.2 .sh zq2), (Z1s (Z1M.mk Z2c 0 r1.1) .nl .nl)] er2<|zq<|zt [(Z1s b0 z1K z1F), (Z21 b1), (ZU (Z5n x0) r2.2.1 r2.2.2.1 r2.2.2.2.1 r2.2.2.2.2.1 r2.2.2.2.2.2.1 r2.2.2.2.2.2.2 .sh zq2), (ZbP r2.1.Kind r2.1.Lo r2.1.Hi r2.1.Mode r2.1.Ref r2.1.Set r2.1.Kids 0 r1.1 .sh .sh)]<|ze<|zq<|zq<|zq<|zq<|zq ?_
 refine za (r2.2.2.2.2.2.1 == 0) ?_ ?_
 ·refine zq<|zq<|zq<|zq<|zq<|zq ?_
  refine zo (iv ((Z5n x0).length : Int)) ?_ (et_ (Z2J (P := PP) (t := 141) (d := 5) (by kernel_rfl) (eI .u8) .sh (Z5n x0)))
  refine zq ?_
  refine za (decide (r2.2.1 < ((Z5n x0).length : Int))) ?_ ?_
  ·exact zk (ZqE b0 b1 (Z5n x0) r2.2.1 r2.2.2.1 r2.2.2.2.1 r2.2.2.2.2.1 r2.2.2.2.2.2.1 r2.2.2.2.2.2.2 r2.1.Kind r2.1.Lo r2.1.Hi r2.1.Mode r2.1.Ref r2.1.Set r2.1.Kids 0 r1.1 z1K z1F .sh zq2 .sh .sh z31 z2P zvK)
  ·exact zk (Ze9 b0 b1 (Z5n x0) r2.2.1 r2.2.2.1 r2.2.2.2.1 r2.2.2.2.2.1 r2.2.2.2.2.2.1 r2.2.2.2.2.2.2 r2.1.Kind r2.1.Lo r2.1.Hi r2.1.Mode r2.1.Ref r2.1.Set r2.1.Kids 0 r1.1 z1K z1F .sh zq2 .sh .sh z31 z2P zvK)
 ·exact zk (Ze9 b0 b1 (Z5n x0) r2.2.1 r2.2.2.1 r2.2.2.2.1 r2.2.2.2.2.1 r2.2.2.2.2.2.1 r2.2.2.2.2.2.2 r2.1.Kind r2.1.Lo r2.1.Hi r2.1.Mode r2.1.Ref r2.1.Set r2.1.Kids 0 r1.1 z1K z1F .sh zq2 .sh .sh z31 z2P zvK)
def Zhz (x0 : ByteArray) : Option (Z1M × Z1n) :=
 if (decide (256 < (x0.size : Int))) = true then
 (some ((Z1M.mk (Zj.mk 0 0 0 0 0 ([] : List Zi) ([] : List Zj)) 0 false), (Z1n.mk 12 0)))
 else
 (ZdO x0)
theorem ZuD x0 : Sim (Z5c) (Zhz x0) (EE 47 [(.p (.v (.string x0)))] []) := by
 unfold Zhz
 refine zf (ZOO ..)<|ze<|zz (.ptr 0 0) [(Z1s ZgP .nl .nl)]<|zz (.ptr 1 0) [(Z1s ZgP .nl .nl), (Z21 ZjE)]<|ze<|zq<|zq ?_
 refine za (decide (256 < (x0.size : Int))) ?_ ?_
 ·refine ze<|zq<|zq<|zt [(Z1s ZgP .nl .nl), (Z21 ZjE)]<|zt [(Z1s ZgP .nl .nl), (Z21 (Z1n.mk 12 0))] ?_
  exact zr ((.p (.tup [(.agg (Z4g ZgP .sh .sh)), (.agg (Z6y (Z1n.mk 12 0)))])), [(Z1s ZgP .nl .nl), (Z21 (Z1n.mk 12 0))]) ⟨_, rfl⟩
 ·exact zk (ZqD x0 ZgP ZjE .nl .nl rfl rfl)
theorem Zvq x0 {r} (h : Zhz x0 = some r) : ZhE x0 = some r :=
 Z1c (fun _ _ ha hb => RRun.uniq ZnT (ha ) (hb )) (ZuD x0 r h)
def Z6B (x50 : List Zv) (x51 x52 : Int) (z3N : List Int) (z1x z1e z1C z1l z1E z1D z1m z1u : Int) (z1v : List Zi) (z1k : List Zj) (z29 : Bool) : Option (Z1M × Z1n) :=
 Z9X x50 x51 (IntKind.i64.wrap (x52 + 1)) z3N z1x z1e z1C z1l z1E z1D z1m z1u z1v z1k z29
theorem Zip (x50 : List Zv) x51 x52 b0 b1 z3N z3D z1x z3k z2A z1e z1C z1l z1E z1D z1m z1u z1v z1k z2Y z29 ox50 z1K z1F z4y z2l z1X z1R (z31 : ZR z1K = true) (z2P : ZR z1F = true) (z4L : ZR z2l = true) : Sim (Z5c) (Z6B x50 x51 x52 z3N z1x z1e z1C z1l z1E z1D z1m z1u z1v z1k z29) (Zuf 0 (.ptr 0 0) (.ptr 1 0) (.ptr 2 0) (.ptr 3 0) (ZK ox50 (x50.map Z3C)) (iv x51) (iv x52) [(Z1s b0 z1K z1F), (Z21 b1), (ZU z3N z3D z1x z3k z2A z1e z1C z4y z2l), (ZbP z1l z1E z1D z1m z1u z1v z1k z2Y z29 z1X z1R)]) := by
 unfold Z6B
 refine zf (ZGQ ..)<|ze<|zq ?_
 exact zk (ZjP x50 x51 (IntKind.i64.wrap (x52 + 1)) b0 b1 z3N z3D z1x z3k z2A z1e z1C z1l z1E z1D z1m z1u z1v z1k z2Y z29 ox50 z1K z1F z4y z2l z1X z1R z31 z2P z4L)
def ZaO (x50 : List Zv) (x51 x52 : Int) (z3N : List Int) (z1x z1e z1C z1l z1E z1D z1m z1u : Int) (z1v : List Zi) (z1k : List Zj) (z29 : Bool) : Option (Z1M × Z1n) :=
 (lget x50 x52).bind fun a1 =>
 if (decide (z1x < a1.group)) = true then
 ((Z1A 26 a1.at_ z3N z1e z1C).bind fun r2 =>
 Z6B x50 x51 x52 z3N z1x r2.2.1 r2.2.2 z1l z1E z1D z1m z1u z1v z1k z29)
 else
 (Z6B x50 x51 x52 z3N z1x z1e z1C z1l z1E z1D z1m z1u z1v z1k z29)
theorem Zpv (x50 : List Zv) x51 x52 b0 b1 z3N z3D z1x z3k z2A z1e z1C z1l z1E z1D z1m z1u z1v z1k z2Y z29 ox50 z1K z1F z4y z2l z1X z1R (z31 : ZR z1K = true) (z2P : ZR z1F = true) (z4L : ZR z2l = true) : Sim (Z5c) (ZaO x50 x51 x52 z3N z1x z1e z1C z1l z1E z1D z1m z1u z1v z1k z29) (ZzG 0 (.ptr 0 0) (.ptr 1 0) (.ptr 2 0) (.ptr 3 0) (ZK ox50 (x50.map Z3C)) (iv x51) (iv x52) [(Z1s b0 z1K z1F), (Z21 b1), (ZU z3N z3D z1x z3k z2A z1e z1C z4y z2l), (ZbP z1l z1E z1D z1m z1u z1v z1k z2Y z29 z1X z1R)]) := by
 unfold ZaO
 refine zf (ZGP ..)<|ze<|zi fun a1 ha1 => ?_
 refine zo (.cptr (Zia a1)) ?_ (et_ (Z3G (o := ox50) (k := .i64) (n := 2) (e := Z3C) (cs := Ze6) (fun _ => rfl) (fun _ => rfl) (by decide) ha1))
 refine zq<|zz (.ptr 4 0) [(Z1s b0 z1K z1F), (Z21 b1), (ZU z3N z3D z1x z3k z2A z1e z1C z4y z2l), (ZbP z1l z1E z1D z1m z1u z1v z1k z2Y z29 z1X z1R), (Zif (Zv.mk 0 0))]<|zt [(Z1s b0 z1K z1F), (Z21 b1), (ZU z3N z3D z1x z3k z2A z1e z1C z4y z2l), (ZbP z1l z1E z1D z1m z1u z1v z1k z2Y z29 z1X z1R), (Zif a1)]<|ze<|zq<|zq<|zq<|zq<|zq<|zq ?_
 refine za (decide (z1x < a1.group)) ?_ ?_
 ·refine ze<|zq<|zq<|zi fun r2 hr2 => ?_
  obtain ⟨_, er2, _, rfl⟩ := Z1G 26 a1.at_ z3N z3D z1x z3k z2A z1e z1C z4y z2l z4L r2 hr2
  refine zc [2] (.p (.tup [])) [(Z1s b0 z1K z1F), (Z21 b1), (ZU z3N r2.1 z1x z3k z2A r2.2.1 r2.2.2 z4y z2l), (ZbP z1l z1E z1D z1m z1u z1v z1k z2Y z29 z1X z1R), (Zif a1)] er2 ?_
  exact zk (Zip x50 x51 x52 b0 b1 z3N r2.1 z1x z3k z2A r2.2.1 r2.2.2 z1l z1E z1D z1m z1u z1v z1k z2Y z29 ox50 z1K z1F z4y z2l z1X z1R z31 z2P z4L)
 ·exact zk (Zip x50 x51 x52 b0 b1 z3N z3D z1x z3k z2A z1e z1C z1l z1E z1D z1m z1u z1v z1k z2Y z29 ox50 z1K z1F z4y z2l z1X z1R z31 z2P z4L)
def Zgl (z1x z1l z1E z1D z1m z1u : Int) (z1v : List Zi) (z1k : List Zj) (z29 : Bool) : Option (Z1M × Z1n) :=
 some ((Z1M.mk (Zj.mk z1l z1E z1D z1m z1u z1v z1k) z1x z29), (Z1n.mk 0 0))
theorem Zpx b0 b1 z3N z3D z1x z3k z2A z1e z1C z1l z1E z1D z1m z1u z1v z1k z2Y z29 z1K z1F z4y z2l z1X z1R (z31 : ZR z1K = true) (z2P : ZR z1F = true) (z4L : ZR z2l = true) : Sim (Z5c) (Zgl z1x z1l z1E z1D z1m z1u z1v z1k z29) (ZzI 0 (.ptr 0 0) (.ptr 1 0) (.ptr 2 0) (.ptr 3 0) [(Z1s b0 z1K z1F), (Z21 b1), (ZU z3N z3D z1x z3k z2A z1e z1C z4y z2l), (ZbP z1l z1E z1D z1m z1u z1v z1k z2Y z29 z1X z1R)]) := by
 unfold Zgl
 refine zf (ZGS ..)<|ze<|zq<|zq<|zq<|zq<|zt [(Z1s b0 z1K z1F), (Z21 b1), (ZU z3N z3D z1x z3k z2A z1e z1C z4y z2l), (ZbP z1l z1E z1D z1m z1u z1v z1k z1x z29 z1X z1R)]<|ze<|zq<|zq<|zt [(ZbP z1l z1E z1D z1m z1u z1v z1k z1x z29 (shrO z1X) (shrO z1R)), (Z21 b1), (ZU z3N z3D z1x z3k z2A z1e z1C z4y z2l), (ZbP z1l z1E z1D z1m z1u z1v z1k z1x z29 z1X z1R)]<|zt [(ZbP z1l z1E z1D z1m z1u z1v z1k z1x z29 (shrO z1X) (shrO z1R)), (Z21 ZjE), (ZU z3N z3D z1x z3k z2A z1e z1C z4y z2l), (ZbP z1l z1E z1D z1m z1u z1v z1k z1x z29 z1X z1R)] ?_
 exact zr ((.p (.tup [(.agg (Z4g (Z1M.mk (Zj.mk z1l z1E z1D z1m z1u z1v z1k) z1x z29) .sh .sh)), (.agg (Z6y ZjE))])), [(ZbP z1l z1E z1D z1m z1u z1v z1k z1x z29 (shrO z1X) (shrO z1R)), (Z21 ZjE), (ZU z3N z3D z1x z3k z2A z1e z1C z4y z2l), (ZbP z1l z1E z1D z1m z1u z1v z1k z1x z29 z1X z1R)]) ⟨_, rfl⟩
def ZaP (z1x z1e z1C z1l z1E z1D z1m z1u : Int) (z1v : List Zi) (z1k : List Zj) (z29 : Bool) : Option (Z1M × Z1n) :=
 if (z1e != 0) = true then
 (some ((Z1M.mk (Zj.mk 0 0 0 0 0 ([] : List Zi) ([] : List Zj)) 0 false), (Z1n.mk z1e z1C)))
 else
 (Zgl z1x z1l z1E z1D z1m z1u z1v z1k z29)
theorem Zpw b0 b1 z3N z3D z1x z3k z2A z1e z1C z1l z1E z1D z1m z1u z1v z1k z2Y z29 z1K z1F z4y z2l z1X z1R (z31 : ZR z1K = true) (z2P : ZR z1F = true) (z4L : ZR z2l = true) : Sim (Z5c) (ZaP z1x z1e z1C z1l z1E z1D z1m z1u z1v z1k z29) (ZzH 0 (.ptr 0 0) (.ptr 1 0) (.ptr 2 0) (.ptr 3 0) [(Z1s b0 z1K z1F), (Z21 b1), (ZU z3N z3D z1x z3k z2A z1e z1C z4y z2l), (ZbP z1l z1E z1D z1m z1u z1v z1k z2Y z29 z1X z1R)]) := by
 unfold ZaP
 refine zf (ZGR ..)<|ze<|zq<|zq<|zq<|zq<|zq ?_
 refine za (z1e != 0) ?_ ?_
 ·refine ze<|zq<|zq<|zq<|zq<|zt [(Z1s ZgP .nl .nl), (Z21 b1), (ZU z3N z3D z1x z3k z2A z1e z1C z4y z2l), (ZbP z1l z1E z1D z1m z1u z1v z1k z2Y z29 z1X z1R)]<|zt [(Z1s ZgP .nl .nl), (Z21 (Z1n.mk z1e z1C)), (ZU z3N z3D z1x z3k z2A z1e z1C z4y z2l), (ZbP z1l z1E z1D z1m z1u z1v z1k z2Y z29 z1X z1R)]<|zg ?_
  exact zr ((.p (.tup [(.agg (Z4g ZgP .sh .sh)), (.agg (Z6y (Z1n.mk z1e z1C)))])), [(Z1s ZgP .nl .nl), (Z21 (Z1n.mk z1e z1C)), (ZU z3N z3D z1x z3k z2A z1e z1C z4y z2l), (ZbP z1l z1E z1D z1m z1u z1v z1k z2Y z29 z1X z1R)]) ⟨_, rfl⟩
 ·exact zk (Zpx b0 b1 z3N z3D z1x z3k z2A z1e z1C z1l z1E z1D z1m z1u z1v z1k z2Y z29 z1K z1F z4y z2l z1X z1R z31 z2P z4L)
def Z8o (x50 : List Zv) (x51 x52 : Int) (z3N : List Int) (z1x z1e z1C z1l z1E z1D z1m z1u : Int) (z1v : List Zi) (z1k : List Zj) (z29 : Bool) : Option (Z1M × Z1n) :=
 if (decide (x52 < x51)) = true then
 (ZaO x50 x51 x52 z3N z1x z1e z1C z1l z1E z1D z1m z1u z1v z1k z29)
 else
 (ZaP z1x z1e z1C z1l z1E z1D z1m z1u z1v z1k z29)
theorem ZqC (x50 : List Zv) x51 x52 b0 b1 z3N z3D z1x z3k z2A z1e z1C z1l z1E z1D z1m z1u z1v z1k z2Y z29 ox50 z1K z1F z4y z2l z1X z1R (z31 : ZR z1K = true) (z2P : ZR z1F = true) (z4L : ZR z2l = true) : Sim (Z5c) (Z8o x50 x51 x52 z3N z1x z1e z1C z1l z1E z1D z1m z1u z1v z1k z29) (ZsC 0 (.ptr 0 0) (.ptr 1 0) (.ptr 2 0) (.ptr 3 0) (ZK ox50 (x50.map Z3C)) (iv x51) (iv x52) [(Z1s b0 z1K z1F), (Z21 b1), (ZU z3N z3D z1x z3k z2A z1e z1C z4y z2l), (ZbP z1l z1E z1D z1m z1u z1v z1k z2Y z29 z1X z1R)]) := by
 unfold Z8o
 refine zf (ZIT ..)<|ze<|zq ?_
 refine za (decide (x52 < x51)) ?_ ?_
 ·exact zk (Zpv x50 x51 x52 b0 b1 z3N z3D z1x z3k z2A z1e z1C z1l z1E z1D z1m z1u z1v z1k z2Y z29 ox50 z1K z1F z4y z2l z1X z1R z31 z2P z4L)
 ·exact zk (Zpw b0 b1 z3N z3D z1x z3k z2A z1e z1C z1l z1E z1D z1m z1u z1v z1k z2Y z29 z1K z1F z4y z2l z1X z1R z31 z2P z4L)
theorem Zcb x50 x51 x52 z3N z1x z1e z1C z1l z1E z1D z1m z1u z1v z1k z29 {r} (h : Z8o x50 x51 x52 z3N z1x z1e z1C z1l z1E z1D z1m z1u z1v z1k z29 = some r) : Z9X x50 x51 x52 z3N z1x z1e z1C z1l z1E z1D z1m z1u z1v z1k z29 = some r :=
 Z1c (fun _ _ ha hb => RRun.uniq ZnT (ha default default default default default default .ex .ex .ex .ex .ex .ex .ex rfl rfl rfl) (hb default default default default default default .ex .ex .ex .ex .ex .ex .ex rfl rfl rfl)) (fun b0 b1 z3D z3k z2A z2Y ox50 z1K z1F z4y z2l z1X z1R z31 z2P z4L => ZqC x50 x51 x52 b0 b1 z3N z3D z1x z3k z2A z1e z1C z1l z1E z1D z1m z1u z1v z1k z2Y z29 ox50 z1K z1F z4y z2l z1X z1R z31 z2P z4L r h)
def Zac (zn : Int) : Option (Bool × Int) :=
 some (false, zn)
theorem Zeo zl zn z7 zd zh z2 z6 zp zb (zu : ZR zb = true) : Sim (Z86 zl z7 zd zh z2 z6 zp zb) (Zac zn) (ZwS 1  [(ZU zl zn z7 zd zh z2 z6 zp zb)]) := by
 unfold Zac
 refine zf (ZJ1 ..)<|ze ?_
 exact zr ((bv false), [(ZU zl zn z7 zd zh z2 z6 zp zb)]) ⟨_, rfl⟩
def Zad (x1 : ByteArray) (zn : Int) : Option (Bool × Int) :=
 some (true, (IntKind.i64.wrap (zn + (x1.size : Int))))
theorem ZlI x1 zl zn z7 zd zh z2 z6 zp zb (zu : ZR zb = true) : Sim (Z86 zl z7 zd zh z2 z6 zp zb) (Zad x1 zn) (ZBM 1 (.ptr 0 0) (.p (.v (.string x1))) [(ZU zl zn z7 zd zh z2 z6 zp zb)]) := by
 unfold Zad
 refine zf (ZJ2 ..)<|ze<|zq<|zq<|zq<|zq<|zq<|zq<|zq<|zt [(ZU zl (IntKind.i64.wrap (zn + (x1.size : Int))) z7 zd zh z2 z6 zp zb)]<|ze ?_
 exact zr ((bv true), [(ZU zl (IntKind.i64.wrap (zn + (x1.size : Int))) z7 zd zh z2 z6 zp zb)]) ⟨_, rfl⟩
def Zc1 (x1 : ByteArray) (zl : List Int) (zn : Int) : Option (Bool × Int) :=
 if ((decide ((IntKind.i64.wrap ((zl.length : Int) - zn)) < (x1.size : Int)))) = true then
 (Zac zn)
 else
 ((lsl zl zn (IntKind.i64.wrap (zn + (x1.size : Int)))).bind fun a1 =>
 if (!(seq (strI a1) x1)) = true then
 (Zac zn)
 else
 (Zad x1 zn))
theorem ZnH x1 zl zn z7 zd zh z2 z6 zp zb (zu : ZR zb = true) : Sim (Z86 zl z7 zd zh z2 z6 zp zb) (Zc1 x1 zl zn) (EE 68 [(.ptr 0 0), (.p (.v (.string x1)))] [(ZU zl zn z7 zd zh z2 z6 zp zb)]) := by
 unfold Zc1
 refine zf (ZP2 ..)<|ze<|ze<|zq<|zq<|zq ?_
 refine zo (iv (zl.length : Int)) ?_ (et_ (Z2J (P := PP) (t := 141) (d := 5) (by kernel_rfl) (eI .u8) (shrO zp) zl))
 refine zq<|zq<|zq<|zq<|zq<|zq ?_
 refine za ((decide ((IntKind.i64.wrap ((zl.length : Int) - zn)) < (x1.size : Int)))) ?_ ?_
 ·exact zk (Zeo zl zn z7 zd zh z2 z6 zp zb zu)
 ·refine zq<|zq<|zq<|zq<|zq<|zq<|zq<|zq<|zq<|zq<|zq<|zi fun a1 ha1 => ?_
  refine zo (ZK (slO (shrO zp)) (a1.map (eI .u8))) ?_ (Eq.trans (by kernel_rfl) <| ZKf (n := 1) (o := (shrO zp)) (lo := (some (iv zn))) (hi := (some (iv (IntKind.i64.wrap (zn + (x1.size : Int)))))) (e := (eI .u8)) (fun _ => rfl) (by decide) (by kernel_rfl) (by kernel_rfl) ha1)
  refine zo (.p (.v (.string (strI a1)))) ?_ (et_ (ZLk (P := PP) (s := 141) (d := 9) (by kernel_rfl) (slO (shrO zp)) a1))
  refine zq ?_
  refine za (!(seq (strI a1) x1)) ?_ ?_
  ·exact zk (Zeo zl zn z7 zd zh z2 z6 zp zb zu)
  ·exact zk (ZlI x1 zl zn z7 zd zh z2 z6 zp zb zu)
theorem Zot x1 zl zn {r} (h : Zc1 x1 zl zn = some r) : Z2h x1 zl zn = some r :=
 Z1c (fun _ _ ha hb => RRun.uniq (ZoQ _ _ _ _ _ _ _ _) (ha default default default default default .ex .ex rfl) (hb default default default default default .ex .ex rfl)) (fun z7 zd zh z2 z6 zp zb zu => ZnH x1 zl zn z7 zd zh z2 z6 zp zb zu r h)
def Z8z (zl : List Int) (zn z7 zd : Int) (zh : List Zv) (z2 z6 : Int) : Option (Zj × Int × Int × Int × (List Zv) × Int × Int) :=
 (Z8M zl zn z7 zd zh z2 z6).bind fun r1 =>
 Z75 ([r1.1] : List Zj) zl r1.2.1 r1.2.2.1 r1.2.2.2.1 r1.2.2.2.2.1 r1.2.2.2.2.2.1 r1.2.2.2.2.2.2
theorem Zon zl zn z7 zd zh z2 z6 zp zb (zu : ZR zb = true) : Sim (Z3f zl zp) (Z8z zl zn z7 zd zh z2 z6) (EE 69 [(.ptr 0 0)] [(ZU zl zn z7 zd zh z2 z6 zp zb)]) := by
 unfold Z8z
 refine zf (ZP4 ..)<|ze<|zz (.ptr 1 0) [(ZU zl zn z7 zd zh z2 z6 zp zb), (Zq Z2c .nl .nl)]<|ze<|zi fun r1 hr1 => ?_
 obtain ⟨_, er1, z6A, _, zbO, rfl⟩ := Zit zl zn z7 zd zh z2 z6 zp zb zu r1 hr1
 refine zc [0] (pA_ (ZO r1.1 .sh .sh)) [(ZU zl r1.2.1 r1.2.2.1 r1.2.2.2.1 r1.2.2.2.2.1 r1.2.2.2.2.2.1 r1.2.2.2.2.2.2 zp z6A), (Zq Z2c .nl .nl)] er1 ?_
 refine zo (ZK .ex (([r1.1] : List Zj).map Z12)) ?_ (Eq.trans (b := some (ZK .ex [.agg (Z3M r1.1)])) (by kernel_rfl) (by simp only [Z90, Zng, Z6f]))
 exact zk (Zfb ([r1.1] : List Zj) zl r1.2.1 r1.2.2.1 r1.2.2.2.1 r1.2.2.2.2.1 r1.2.2.2.2.2.1 r1.2.2.2.2.2.2 Z2c .ex zp z6A .nl .nl rfl zbO rfl rfl)
theorem Ziq zl zn z7 zd zh z2 z6 {r} (h : Z8z zl zn z7 zd zh z2 z6 = some r) : Z5p zl zn z7 zd zh z2 z6 = some r :=
 Z1c (fun _ _ ha hb => RRun.uniq (ZaZ _ _) (ha .ex .ex rfl) (hb .ex .ex rfl)) (fun zp zb zu => Zon zl zn z7 zd zh z2 z6 zp zb zu r h)
def ZaD (x3 : List Zj) (zl : List Int) (zn z7 zd : Int) (zh : List Zv) (z2 z6 : Int) : Option (Zj × Int × Int × Int × (List Zv) × Int × Int) :=
 (Z8M zl zn z7 zd zh z2 z6).bind fun r1 =>
 (lapp x3 ([r1.1] : List Zj)).bind fun a2 =>
 Z75 a2 zl r1.2.1 r1.2.2.1 r1.2.2.2.1 r1.2.2.2.2.1 r1.2.2.2.2.2.1 r1.2.2.2.2.2.2
theorem Zm8 (x3 : List Zj) zl zn z7 zd zh z2 z6 b1 ox3 zp zb zN zG (hox3 : ZR ox3 = true) (zu : ZR zb = true) (z1t : ZR zN = true) (z1h : ZR zG = true) : Sim (Z3f zl zp) (ZaD x3 zl zn z7 zd zh z2 z6) (ZBQ 1 (.ptr 0 0) (.ptr 1 0) (ZK ox3 (x3.map Z12)) [(ZU zl zn z7 zd zh z2 z6 zp zb), (Zq b1 zN zG)]) := by
 unfold ZaD
 refine zf (ZJ4 ..)<|ze<|zi fun r1 hr1 => ?_
 obtain ⟨_, er1, z6A, _, zbO, rfl⟩ := Zit zl zn z7 zd zh z2 z6 zp zb zu r1 hr1
 refine zc [0] (pA_ (ZO r1.1 .sh .sh)) [(ZU zl r1.2.1 r1.2.2.1 r1.2.2.2.1 r1.2.2.2.2.1 r1.2.2.2.2.2.1 r1.2.2.2.2.2.2 zp z6A), (Zq b1 zN zG)] er1 ?_
 refine zo (ZK .ex (([r1.1] : List Zj).map Z12)) ?_ (Eq.trans (b := some (ZK .ex [.agg (Z3M r1.1)])) (by kernel_rfl) (by simp only [Z90, Zng, Z6f]))
 refine zi fun a2 ha2 => ?_
 refine zo (ZK .un (a2.map Z12)) ?_ (Eq.trans (by kernel_rfl) <| ZiB (n := 7) (o := ox3) (o' := .ex) (e := Z12) (ys := ([r1.1] : List Zj)) ZpU (by decide) hox3 ha2)
 exact zk (Zfb a2 zl r1.2.1 r1.2.2.1 r1.2.2.2.1 r1.2.2.2.2.1 r1.2.2.2.2.2.1 r1.2.2.2.2.2.2 b1 .un zp z6A zN zG rfl zbO z1t z1h)
def Z8A (x3 : List Zj) (zn z7 zd : Int) (zh : List Zv) (z2 z6 : Int) : Option (Zj × Int × Int × Int × (List Zv) × Int × Int) :=
 (Zdv 3 x3).bind fun r1 =>
 some (r1, zn, z7, zd, zh, z2, z6)
theorem Zm9 (x3 : List Zj) zl zn z7 zd zh z2 z6 b1 ox3 zp zb zN zG (hox3 : ZR ox3 = true) (zu : ZR zb = true) (z1t : ZR zN = true) (z1h : ZR zG = true) : Sim (Z3f zl zp) (Z8A x3 zn z7 zd zh z2 z6) (ZBR 1 (.ptr 1 0) (ZK ox3 (x3.map Z12)) [(ZU zl zn z7 zd zh z2 z6 zp zb), (Zq b1 zN zG)]) := by
 unfold Z8A
 refine zf (ZJ5 ..)<|ze<|zi fun r1 hr1 => ?_
 obtain ⟨_, er1, _, rfl⟩ := ZlS 3 x3 .sh r1 hr1
 refine zc [] (pA_ (ZO r1 .sh .sh)) [(ZU zl zn z7 zd zh z2 z6 zp zb), (Zq b1 zN zG)] er1<|zt [(ZU zl zn z7 zd zh z2 z6 zp zb), (Zq r1 .sh .sh)] ?_
 exact zr ((pA_ (ZO r1 .sh .sh)), [(ZU zl zn z7 zd zh z2 z6 zp zb), (Zq r1 .sh .sh)]) ⟨zb, _, zu, rfl⟩
def Z71 (x3 : List Zj) (zl : List Int) (zn z7 zd : Int) (zh : List Zv) (z2 z6 : Int) : Option (Zj × Int × Int × Int × (List Zv) × Int × Int) :=
 (Z2h (ByteArray.mk #[124]) zl zn).bind fun r1 =>
 if (r1.1) = true then
 (ZaD x3 zl r1.2 z7 zd zh z2 z6)
 else
 (Z8A x3 r1.2 z7 zd zh z2 z6)
theorem Zm7 (x3 : List Zj) zl zn z7 zd zh z2 z6 b1 ox3 zp zb zN zG (hox3 : ZR ox3 = true) (zu : ZR zb = true) (z1t : ZR zN = true) (z1h : ZR zG = true) : Sim (Z3f zl zp) (Z71 x3 zl zn z7 zd zh z2 z6) (ZsE 1 (.ptr 0 0) (.ptr 1 0) (ZK ox3 (x3.map Z12)) [(ZU zl zn z7 zd zh z2 z6 zp zb), (Zq b1 zN zG)]) := by
 unfold Z71
 refine zf (ZJ3 ..)<|ze<|zi fun r1 hr1 => ?_
 obtain ⟨_, er1, _, rfl⟩ := Z2q (ByteArray.mk #[124]) zl zn z7 zd zh z2 z6 zp zb zu r1 hr1
 refine zc [0] (bv r1.1) [(ZU zl r1.2 z7 zd zh z2 z6 zp zb), (Zq b1 zN zG)] er1 ?_
 refine za r1.1 ?_ ?_
 ·exact zk (Zm8 x3 zl r1.2 z7 zd zh z2 z6 b1 ox3 zp zb zN zG hox3 zu z1t z1h)
 ·exact zk (Zm9 x3 zl r1.2 z7 zd zh z2 z6 b1 ox3 zp zb zN zG hox3 zu z1t z1h)
theorem Zfa x3 zl zn z7 zd zh z2 z6 {r} (h : Z71 x3 zl zn z7 zd zh z2 z6 = some r) : Z75 x3 zl zn z7 zd zh z2 z6 = some r :=
 Z1c (fun _ _ ha hb => RRun.uniq (ZaZ _ _) (ha default .ex .ex .ex .ex .ex rfl rfl rfl rfl) (hb default .ex .ex .ex .ex .ex rfl rfl rfl rfl)) (fun b1 ox3 zp zb zN zG hox3 zu z1t z1h => Zm7 x3 zl zn z7 zd zh z2 z6 b1 ox3 zp zb zN zG hox3 zu z1t z1h r h)
def Zaj (zl : List Int) (zn z7 zd : Int) (zh : List Zv) (z2 z6 : Int) : Option (Zj × Int × Int × Int × (List Zv) × Int × Int) :=
 Z76 ([] : List Zj) zl zn z7 zd zh z2 z6
theorem Zoq zl zn z7 zd zh z2 z6 zp zb (zu : ZR zb = true) : Sim (Z3f zl zp) (Zaj zl zn z7 zd zh z2 z6) (EE 91 [(.ptr 0 0)] [(ZU zl zn z7 zd zh z2 z6 zp zb)]) := by
 unfold Zaj
 refine zf (ZPk ..)<|ze<|zz (.ptr 1 0) [(ZU zl zn z7 zd zh z2 z6 zp zb), (Zq Z2c .nl .nl)]<|ze ?_
 exact zk (Zfd ([] : List Zj) zl zn z7 zd zh z2 z6 Z2c .nl zp zb .nl .nl rfl zu rfl rfl)
theorem Zis zl zn z7 zd zh z2 z6 {r} (h : Zaj zl zn z7 zd zh z2 z6 = some r) : Z8M zl zn z7 zd zh z2 z6 = some r :=
 Z1c (fun _ _ ha hb => RRun.uniq (ZaZ _ _) (ha .ex .ex rfl) (hb .ex .ex rfl)) (fun zp zb zu => Zoq zl zn z7 zd zh z2 z6 zp zb zu r h)
def Z4o (x3 : List Zj) (zn z7 zd : Int) (zh : List Zv) (z2 z6 : Int) : Option (Zj × Int × Int × Int × (List Zv) × Int × Int) :=
 (Zdv 2 x3).bind fun r1 =>
 some (r1, zn, z7, zd, zh, z2, z6)
theorem Z8U (x3 : List Zj) zl zn z7 zd zh z2 z6 b1 ox3 zp zb zN zG (hox3 : ZR ox3 = true) (zu : ZR zb = true) (z1t : ZR zN = true) (z1h : ZR zG = true) : Sim (Z3f zl zp) (Z4o x3 zn z7 zd zh z2 z6) (Zpm 1 (.ptr 1 0) (ZK ox3 (x3.map Z12)) [(ZU zl zn z7 zd zh z2 z6 zp zb), (Zq b1 zN zG)]) := by
 unfold Z4o
 refine zf (ZJo ..)<|ze<|zi fun r1 hr1 => ?_
 obtain ⟨_, er1, _, rfl⟩ := ZlS 2 x3 .sh r1 hr1
 refine zc [] (pA_ (ZO r1 .sh .sh)) [(ZU zl zn z7 zd zh z2 z6 zp zb), (Zq b1 zN zG)] er1<|zt [(ZU zl zn z7 zd zh z2 z6 zp zb), (Zq r1 .sh .sh)] ?_
 exact zr ((pA_ (ZO r1 .sh .sh)), [(ZU zl zn z7 zd zh z2 z6 zp zb), (Zq r1 .sh .sh)]) ⟨zb, _, zu, rfl⟩
def Z5R (x3 : List Zj) (zl : List Int) (zn z7 zd : Int) (zh : List Zv) (z2 z6 : Int) : Option (Zj × Int × Int × Int × (List Zv) × Int × Int) :=
 (Zcc zl zn z7 zd zh z2 z6).bind fun r1 =>
 (Z8O r1.1 r1.2.1 zl r1.2.2.1 r1.2.2.2.1 r1.2.2.2.2.1 r1.2.2.2.2.2.1 r1.2.2.2.2.2.2.1 r1.2.2.2.2.2.2.2).bind fun r2 =>
 (lapp x3 ([r2.1] : List Zj)).bind fun a3 =>
 Z76 a3 zl r2.2.1 r1.2.2.2.1 r1.2.2.2.2.1 r1.2.2.2.2.2.1 r2.2.2.1 r2.2.2.2
theorem Zb8 (x3 : List Zj) zl zn z7 zd zh z2 z6 b1 ox3 zp zb zN zG (hox3 : ZR ox3 = true) (zu : ZR zb = true) (z1t : ZR zN = true) (z1h : ZR zG = true) : Sim (Z3f zl zp) (Z5R x3 zl zn z7 zd zh z2 z6) (ZsP 1 (.ptr 0 0) (.ptr 1 0) (ZK ox3 (x3.map Z12)) [(ZU zl zn z7 zd zh z2 z6 zp zb), (Zq b1 zN zG)]) := by
 unfold Z5R
 refine zf (ZJn ..)<|ze<|zi fun r1 hr1 => ?_
 obtain ⟨_, er1, z6A, _, zbO, rfl⟩ := Zop zl zn z7 zd zh z2 z6 zp zb zu r1 hr1
 refine zc [0] (.p (.tup [(.agg (ZO r1.1 .sh .sh)), (.v (.bool r1.2.1))])) [(ZU zl r1.2.2.1 r1.2.2.2.1 r1.2.2.2.2.1 r1.2.2.2.2.2.1 r1.2.2.2.2.2.2.1 r1.2.2.2.2.2.2.2 zp z6A), (Zq b1 zN zG)] er1<|zq<|zq<|zz (.ptr 2 0) [(ZU zl r1.2.2.1 r1.2.2.2.1 r1.2.2.2.2.1 r1.2.2.2.2.2.1 r1.2.2.2.2.2.2.1 r1.2.2.2.2.2.2.2 zp z6A), (Zq b1 zN zG), (Zq Z2c .nl .nl)]<|zt [(ZU zl r1.2.2.1 r1.2.2.2.1 r1.2.2.2.2.1 r1.2.2.2.2.2.1 r1.2.2.2.2.2.2.1 r1.2.2.2.2.2.2.2 zp z6A), (Zq b1 zN zG), (Zq r1.1 .sh .sh)]<|ze<|zq<|zi fun r2 hr2 => ?_
 obtain ⟨_, er2, _, rfl⟩ := Zn2 r1.1 r1.2.1 zl r1.2.2.1 r1.2.2.2.1 r1.2.2.2.2.1 r1.2.2.2.2.2.1 r1.2.2.2.2.2.2.1 r1.2.2.2.2.2.2.2 .sh .sh zp z6A zbO r2 hr2
 refine zc [0] (pA_ (ZO r2.1 .sh .sh)) [(ZU zl r2.2.1 r1.2.2.2.1 r1.2.2.2.2.1 r1.2.2.2.2.2.1 r2.2.2.1 r2.2.2.2 zp z6A), (Zq b1 zN zG), (Zq r1.1 .sh .sh)] er2 ?_
 refine zo (ZK .ex (([r2.1] : List Zj).map Z12)) ?_ (Eq.trans (b := some (ZK .ex [.agg (Z3M r2.1)])) (by kernel_rfl) (by simp only [Z90, Zng, Z6f]))
 refine zi fun a3 ha3 => ?_
 refine zo (ZK .un (a3.map Z12)) ?_ (Eq.trans (by kernel_rfl) <| ZiB (n := 7) (o := ox3) (o' := .ex) (e := Z12) (ys := ([r2.1] : List Zj)) ZpU (by decide) hox3 ha3)
 exact zk (Zfd a3 zl r2.2.1 r1.2.2.2.1 r1.2.2.2.2.1 r1.2.2.2.2.2.1 r2.2.2.1 r2.2.2.2 b1 .un zp z6A zN zG rfl zbO z1t z1h)
def Z8C (x3 : List Zj) (zl : List Int) (zn z7 zd : Int) (zh : List Zv) (z2 z6 : Int) : Option (Zj × Int × Int × Int × (List Zv) × Int × Int) :=
 (Z3n (Z23.mk zl zn z7 zd zh (Z1n.mk z2 z6))).bind fun r1 =>
 if (r1 == (-1)) = true then
 (if (r1 == (-1)) = true then
 (Z4o x3 zn z7 zd zh z2 z6)
 else
 (Z5R x3 zl zn z7 zd zh z2 z6))
 else
 (if (r1 == 124) = true then
 (if (r1 == 124) = true then
 (Z4o x3 zn z7 zd zh z2 z6)
 else
 (Z5R x3 zl zn z7 zd zh z2 z6))
 else
 (if (r1 == 41) = true then
 (Z4o x3 zn z7 zd zh z2 z6)
 else
 (Z5R x3 zl zn z7 zd zh z2 z6)))
theorem Zmb (x3 : List Zj) zl zn z7 zd zh z2 z6 b1 ox3 zp zb zN zG (hox3 : ZR ox3 = true) (zu : ZR zb = true) (z1t : ZR zN = true) (z1h : ZR zG = true) : Sim (Z3f zl zp) (Z8C x3 zl zn z7 zd zh z2 z6) (ZC8 1 (.ptr 0 0) (.ptr 1 0) (ZK ox3 (x3.map Z12)) [(ZU zl zn z7 zd zh z2 z6 zp zb), (Zq b1 zN zG)]) := by
 unfold Z8C
 refine zf (ZJm ..)<|ze<|zi fun r1 hr1 => ?_
 obtain ⟨_, er1, _, rfl⟩ := Z3w (Z23.mk zl zn z7 zd zh (Z1n.mk z2 z6)) zp zb zu r1 hr1
 refine zc [0] (iv r1) [(ZU zl zn z7 zd zh z2 z6 zp zb), (Zq b1 zN zG)] er1<|ze<|zq ?_
 refine za (r1 == (-1)) ?_ ?_
 ·refine za (r1 == (-1)) ?_ ?_
  ·exact zk (Z8U x3 zl zn z7 zd zh z2 z6 b1 ox3 zp zb zN zG hox3 zu z1t z1h)
  ·exact zk (Zb8 x3 zl zn z7 zd zh z2 z6 b1 ox3 zp zb zN zG hox3 zu z1t z1h)
 ·refine ze<|zq ?_
  refine za (r1 == 124) ?_ ?_
  ·refine za (r1 == 124) ?_ ?_
   ·exact zk (Z8U x3 zl zn z7 zd zh z2 z6 b1 ox3 zp zb zN zG hox3 zu z1t z1h)
   ·exact zk (Zb8 x3 zl zn z7 zd zh z2 z6 b1 ox3 zp zb zN zG hox3 zu z1t z1h)
  ·refine ze<|zq ?_
   refine za (r1 == 41) ?_ ?_
   ·exact zk (Z8U x3 zl zn z7 zd zh z2 z6 b1 ox3 zp zb zN zG hox3 zu z1t z1h)
   ·exact zk (Zb8 x3 zl zn z7 zd zh z2 z6 b1 ox3 zp zb zN zG hox3 zu z1t z1h)
def Z8B (x3 : List Zj) (zl : List Int) (zn z7 zd : Int) (zh : List Zv) (z2 z6 : Int) : Option (Zj × Int × Int × Int × (List Zv) × Int × Int) :=
 if (z2 == 0) = true then
 (Z8C x3 zl zn z7 zd zh z2 z6)
 else
 (Z4o x3 zn z7 zd zh z2 z6)
theorem Zma (x3 : List Zj) zl zn z7 zd zh z2 z6 b1 ox3 zp zb zN zG (hox3 : ZR ox3 = true) (zu : ZR zb = true) (z1t : ZR zN = true) (z1h : ZR zG = true) : Sim (Z3f zl zp) (Z8B x3 zl zn z7 zd zh z2 z6) (ZsO 1 (.ptr 0 0) (.ptr 1 0) (ZK ox3 (x3.map Z12)) [(ZU zl zn z7 zd zh z2 z6 zp zb), (Zq b1 zN zG)]) := by
 unfold Z8B
 refine zf (ZJl ..)<|ze<|zq<|zq<|zq<|zq<|zq ?_
 refine za (z2 == 0) ?_ ?_
 ·exact zk (Zmb x3 zl zn z7 zd zh z2 z6 b1 ox3 zp zb zN zG hox3 zu z1t z1h)
 ·exact zk (Z8U x3 zl zn z7 zd zh z2 z6 b1 ox3 zp zb zN zG hox3 zu z1t z1h)
theorem Zfc x3 zl zn z7 zd zh z2 z6 {r} (h : Z8B x3 zl zn z7 zd zh z2 z6 = some r) : Z76 x3 zl zn z7 zd zh z2 z6 = some r :=
 Z1c (fun _ _ ha hb => RRun.uniq (ZaZ _ _) (ha default .ex .ex .ex .ex .ex rfl rfl rfl rfl) (hb default .ex .ex .ex .ex .ex rfl rfl rfl rfl)) (fun b1 ox3 zp zb zN zG hox3 zu z1t z1h => Zma x3 zl zn z7 zd zh z2 z6 b1 ox3 zp zb zN zG hox3 zu z1t z1h r h)
def Zab (b0 : Z23) : Option (Int) :=
 (Zhp b0.b b0.at_).bind fun r1 =>
 some (r1.1)
theorem ZlH b0 zp zb (zu : ZR zb = true) : Sim (Z9G b0 zp zb) (Zab b0) (ZxS 1 (.ptr 0 0) [(Z4V b0 zp zb)]) := by
 unfold Zab
 refine zf (ZFj ..)<|ze<|zq<|zq<|zq<|zq<|zq<|zq<|zi fun r1 hr1 => ?_
 obtain ⟨_, er1, _, rfl⟩ := ZpP b0.b b0.at_ .sh r1 hr1
 refine zc [] (.p (.tup [(.v (.int .i64 r1.1)), (.v (.int .i64 r1.2))])) [(Z4V b0 zp zb)] er1<|zq<|zq<|ze ?_
 exact zr ((iv r1.1), [(Z4V b0 zp zb)]) ⟨_, rfl⟩
def ZbZ (b0 : Z23) : Option (Int) :=
 if (decide ((b0.b.length : Int) ≤ b0.at_)) = true then
 (some (-1))
 else
 (Zab b0)
theorem ZnE b0 zp zb (zu : ZR zb = true) : Sim (Z9G b0 zp zb) (ZbZ b0) (EE 104 [(.ptr 0 0)] [(Z4V b0 zp zb)]) := by
 unfold ZbZ
 refine zf (ZLS ..)<|ze<|ze<|zq<|zq<|zq<|zq<|zq<|zq ?_
 refine zo (iv (b0.b.length : Int)) ?_ (et_ (Z2J (P := PP) (t := 141) (d := 5) (by kernel_rfl) (eI .u8) (shrO zp) b0.b))
 refine zq ?_
 refine za (decide ((b0.b.length : Int) ≤ b0.at_)) ?_ ?_
 ·refine ze ?_
  exact zr ((iv (-1)), [(Z4V b0 zp zb)]) ⟨_, rfl⟩
 ·exact zk (ZlH b0 zp zb zu)
theorem Zor b0 {r} (h : ZbZ b0 = some r) : Z3n b0 = some r :=
 Z1c (fun _ _ ha hb => RRun.uniq (ZoP _ _ _) (ha .ex .ex rfl) (hb .ex .ex rfl)) (fun zp zb zu => ZnE b0 zp zb zu r h)
def ZfM  : Option (Int × Int) :=
 some (0, 0)
theorem Zll  : Sim (Z43) (ZfM) (ZtM 0  []) := by
 unfold ZfM
 refine zf (ZFu ..)<|ze ?_
 exact zr ((.p (.tup [(.v (.int .i64 0)), (.v (.int .i64 0))])), []) ⟨_, rfl⟩
def ZfO (x0 : List Int) (x1 : Int) : Option (Int × Int) :=
 (lget x0 x1).bind fun a1 =>
 some ((IntKind.i64.wrap (1114112 + (IntKind.i64.wrap a1))), 1)
theorem Zt6 (x0 : List Int) x1 ox0 : Sim (Z43) (ZfO x0 x1) (Zya 0 (ZK ox0 (x0.map (eI .u8))) (iv x1) []) := by
 unfold ZfO
 refine zf (ZFw ..)<|ze<|zi fun a1 ha1 => ?_
 refine zo (.cptr [(.v (.int .u8 a1))]) ?_ (et_ (Z3G (o := (shrO ox0)) (k := .i64) (n := 1) (e := (eI .u8)) (cs := (fun a => [(eI .u8) a])) (fun _ => rfl) (fun _ => rfl) (by decide) ha1))
 refine zq<|zq<|zq ?_
 exact zr ((.p (.tup [(.v (.int .i64 (IntKind.i64.wrap (1114112 + (IntKind.i64.wrap a1))))), (.v (.int .i64 1))])), []) ⟨_, rfl⟩
def Zbm (x6 x7 : Int) : Option (Int × Int) :=
 some ((IntKind.i64.wrap x6), x7)
theorem Zlm x6 x7 : Sim (Z43) (Zbm x6 x7) (ZtN 0 (.p (.v (.int .i32 x6))) (iv x7) []) := by
 unfold Zbm
 refine zf (ZFx ..)<|ze<|zq ?_
 exact zr ((.p (.tup [(.v (.int .i64 (IntKind.i64.wrap x6))), (.v (.int .i64 x7))])), []) ⟨_, rfl⟩
def ZfN (x0 : List Int) (x1 : Int) : Option (Int × Int) :=
 (lsl x0 x1 (x0.length : Int)).bind fun a1 =>
 (Zba a1).bind fun r2 =>
 if (r2.1 == 65533) = true then
 (if (r2.2 == 1) = true then
 (ZfO x0 x1)
 else
 (Zbm r2.1 r2.2))
 else
 (Zbm r2.1 r2.2)
theorem Zt5 (x0 : List Int) x1 ox0 : Sim (Z43) (ZfN x0 x1) (Zy9 0 (ZK ox0 (x0.map (eI .u8))) (iv x1) []) := by
 unfold ZfN
 refine zf (ZFv ..)<|ze<|zi fun a1 ha1 => ?_
 refine zo (ZK (slO (shrO ox0)) (a1.map (eI .u8))) ?_ (Eq.trans (by kernel_rfl) <| ZKf (n := 1) (o := (shrO ox0)) (lo := (some (iv x1))) (hi := none) (e := (eI .u8)) (fun _ => rfl) (by decide) (by kernel_rfl) (by kernel_rfl) ha1)
 refine zi fun r2 hr2 => ?_
 obtain ⟨_, er2, _, rfl⟩ := Zkr a1 .sh r2 hr2
 refine zc [] (.p (.tup [(.v (.int .i32 r2.1)), (.v (.int .i64 r2.2))])) [] er2<|zq<|zq<|ze<|zq ?_
 refine za (r2.1 == 65533) ?_ ?_
 ·refine zq ?_
  refine za (r2.2 == 1) ?_ ?_
  ·exact zk (Zt6 x0 x1 ox0)
  ·exact zk (Zlm r2.1 r2.2)
 ·exact zk (Zlm r2.1 r2.2)
def ZkK (x0 : List Int) (x1 : Int) : Option (Int × Int) :=
 if (decide (x1 < 0)) = true then
 (ZfM)
 else
 (if (decide ((x0.length : Int) ≤ x1)) = true then
 (ZfM)
 else
 (ZfN x0 x1))
theorem Zxi (x0 : List Int) x1 ox0 : Sim (Z43) (ZkK x0 x1) (EE 126 [(ZK ox0 (x0.map (eI .u8))), (iv x1)] []) := by
 unfold ZkK
 refine zf (ZM3 ..)<|ze<|ze<|zq ?_
 refine za (decide (x1 < 0)) ?_ ?_
 ·exact zk (Zll )
 ·refine zo (iv (x0.length : Int)) ?_ (et_ (Z2J (P := PP) (t := 141) (d := 5) (by kernel_rfl) (eI .u8) (shrO ox0) x0))
  refine zq ?_
  refine za (decide ((x0.length : Int) ≤ x1)) ?_ ?_
  ·exact zk (Zll )
  ·exact zk (Zt5 x0 x1 ox0)
theorem ZzS x0 x1 {r} (h : ZkK x0 x1 = some r) : Zhp x0 x1 = some r :=
 Z1c (fun _ _ ha hb => RRun.uniq Zhw (ha .ex) (hb .ex)) (fun ox0 => Zxi x0 x1 ox0 r h)
def Zgm (x0 : Int) (x1 : List Zj) : Option (Zj) :=
 some (Zj.mk x0 0 0 0 0 ([] : List Zi) x1)
theorem Zpz x0 (x1 : List Zj) b0 ox1 z2v z20 (zKB : ZR z2v = true) (zJz : ZR z20 = true) : Sim (Z8u) (Zgm x0 x1) (ZCa 0 (iv x0) (ZK ox1 (x1.map Z12)) (.ptr 0 0) [(Zq b0 z2v z20)]) := by
 unfold Zgm
 refine zf (ZJp ..)<|ze<|zq<|zt [(Z3t x0 0 0 0 0 ([] : List Zi) x1 .nl (shrO (shrO ox1)))] ?_
 exact zr ((pA_ (ZO (Zj.mk x0 0 0 0 0 ([] : List Zi) x1) .sh .sh)), [(Z3t x0 0 0 0 0 ([] : List Zi) x1 .nl (shrO (shrO ox1)))]) ⟨_, rfl⟩
def ZfJ (x0 : Int) (x1 : List Zj) : Option (Zj) :=
 if ((x1.length : Int) == 0) = true then
 (some (Zj.mk 0 0 0 0 0 ([] : List Zi) ([] : List Zj)))
 else
 (if ((x1.length : Int) == 1) = true then
 ((lget x1 0).bind fun a1 =>
 some (a1))
 else
 (Zgm x0 x1))
theorem Zt2 x0 (x1 : List Zj) ox1 : Sim (Z8u) (ZfJ x0 x1) (EE 92 [(iv x0), (ZK ox1 (x1.map Z12))] []) := by
 unfold ZfJ
 refine zf (ZPn ..)<|ze<|zz (.ptr 0 0) [(Zq Z2c .nl .nl)]<|ze ?_
 refine zo (iv (x1.length : Int)) ?_ (et_ (Z2J (P := PP) (t := 96) (d := 98) (by kernel_rfl) Z12 (shrO ox1) x1))
 refine ze<|zq ?_
 refine za ((x1.length : Int) == 0) ?_ ?_
 ·refine ze<|zq<|zt [(Zq Z2c .nl .nl)] ?_
  exact zr ((pA_ (ZO Z2c .sh .sh)), [(Zq Z2c .nl .nl)]) ⟨_, rfl⟩
 ·refine ze<|zq ?_
  refine za ((x1.length : Int) == 1) ?_ ?_
  ·refine ze<|zi fun a1 ha1 => ?_
   refine zo (.cptr (ZO a1 .sh .sh)) ?_ (et_ (Z3G (o := (shrO ox1)) (k := .i64) (n := 7) (e := Z12) (cs := Z3M) Z7M (fun _ => rfl) (by decide) ha1))
   refine zq<|zt [(Zq a1 .sh .sh)] ?_
   exact zr ((pA_ (ZO a1 .sh .sh)), [(Zq a1 .sh .sh)]) ⟨_, rfl⟩
  ·exact zk (Zpz x0 x1 Z2c ox1 .nl .nl rfl rfl)
theorem ZuE x0 x1 {r} (h : ZfJ x0 x1 = some r) : Zdv x0 x1 = some r :=
 Z1c (fun _ _ ha hb => RRun.uniq ZmC (ha .ex) (hb .ex)) (fun ox1 => Zt2 x0 x1 ox1 r h)
def Z2C (zn z7 zd : Int) (zh : List Zv) (z2 z6 : Int) : Option (Zj × Bool × Int × Int × Int × (List Zv) × Int × Int) :=
 some ((Zj.mk 0 0 0 0 0 ([] : List Zi) ([] : List Zj)), true, zn, z7, zd, zh, z2, z6)
theorem Z2H zl zn z7 zd zh z2 z6 b1 zp zb zN zG (zu : ZR zb = true) (z1t : ZR zN = true) (z1h : ZR zG = true) : Sim (Z3x zl zp) (Z2C zn z7 zd zh z2 z6) (Z9i 1 (.ptr 1 0) [(ZU zl zn z7 zd zh z2 z6 zp zb), (Zq b1 zN zG)]) := by
 unfold Z2C
 refine zf (ZDC ..)<|ze<|zq<|zt [(ZU zl zn z7 zd zh z2 z6 zp zb), (Zq Z2c .nl .nl)] ?_
 exact zr ((.p (.tup [(.agg (ZO Z2c .sh .sh)), (.v (.bool true))])), [(ZU zl zn z7 zd zh z2 z6 zp zb), (Zq Z2c .nl .nl)]) ⟨zb, _, zu, rfl⟩
def Z9H (zl : List Int) (zn z7 zd : Int) (zh : List Zv) (z2 z6 : Int) : Option (Zj × Bool × Int × Int × Int × (List Zv) × Int × Int) :=
 (Z49 zl zn).bind fun r1 =>
 if (r1.1 == 46) = true then
 ((Z3b 10).bind fun r2 =>
 (Z54 true ([r2] : List Zi)).bind fun r3 =>
 some (r3, true, r1.2, z7, zd, zh, z2, z6))
 else
 (if (r1.1 == 94) = true then
 (some ((Zj.mk 9 0 0 0 0 ([] : List Zi) ([] : List Zj)), false, r1.2, z7, zd, zh, z2, z6))
 else
 (if (r1.1 == 36) = true then
 (some ((Zj.mk 9 0 0 0 1 ([] : List Zi) ([] : List Zj)), false, r1.2, z7, zd, zh, z2, z6))
 else
 (if (r1.1 == 92) = true then
 ((Z5W zn zl r1.2 z7 zd zh z2 z6).bind fun r4 =>
 some (r4.1, (r4.1.Kind != 9), r4.2.1, z7, zd, r4.2.2.1, r4.2.2.2.1, r4.2.2.2.2))
 else
 (if (r1.1 == 91) = true then
 ((Zb9 zn zl r1.2 z7 zd zh z2 z6).bind fun r5 =>
 some (r5.1, true, r5.2.1, z7, zd, zh, r5.2.2.1, r5.2.2.2))
 else
 (if (r1.1 == 40) = true then
 ((Z6h zn zl r1.2 z7 zd zh z2 z6).bind fun r6 =>
 some (r6.1, r6.2.1, r6.2.2.1, r6.2.2.2.1, r6.2.2.2.2.1, r6.2.2.2.2.2.1, r6.2.2.2.2.2.2.1, r6.2.2.2.2.2.2.2))
 else
 (if (r1.1 == 42) = true then
 (if (r1.1 == 42) = true then
 ((Z1A 23 zn zl z2 z6).bind fun r7 =>
 Z2C r7.1 z7 zd zh r7.2.1 r7.2.2)
 else
 (if (r1.1 == 93) = true then
 (if (r1.1 == 93) = true then
 ((Z1A 20 zn zl z2 z6).bind fun r8 =>
 Z2C r8.1 z7 zd zh r8.2.1 r8.2.2)
 else
 ((Z3b r1.1).bind fun r9 =>
 (Z54 false ([r9] : List Zi)).bind fun r10 =>
 some (r10, true, r1.2, z7, zd, zh, z2, z6)))
 else
 (if (r1.1 == 125) = true then
 ((Z1A 20 zn zl z2 z6).bind fun r11 =>
 Z2C r11.1 z7 zd zh r11.2.1 r11.2.2)
 else
 ((Z3b r1.1).bind fun r12 =>
 (Z54 false ([r12] : List Zi)).bind fun r13 =>
 some (r13, true, r1.2, z7, zd, zh, z2, z6)))))
 else
 (if (r1.1 == 43) = true then
 (if (r1.1 == 43) = true then
 ((Z1A 23 zn zl z2 z6).bind fun r14 =>
 Z2C r14.1 z7 zd zh r14.2.1 r14.2.2)
 else
 (if (r1.1 == 93) = true then
 (if (r1.1 == 93) = true then
 ((Z1A 20 zn zl z2 z6).bind fun r15 =>
 Z2C r15.1 z7 zd zh r15.2.1 r15.2.2)
 else
 ((Z3b r1.1).bind fun r16 =>
 (Z54 false ([r16] : List Zi)).bind fun r17 =>
 some (r17, true, r1.2, z7, zd, zh, z2, z6)))
 else
 (if (r1.1 == 125) = true then
 ((Z1A 20 zn zl z2 z6).bind fun r18 =>
 Z2C r18.1 z7 zd zh r18.2.1 r18.2.2)
 else
 ((Z3b r1.1).bind fun r19 =>
 (Z54 false ([r19] : List Zi)).bind fun r20 =>
 some (r20, true, r1.2, z7, zd, zh, z2, z6)))))
 else
 (if (r1.1 == 63) = true then
 (if (r1.1 == 63) = true then
 ((Z1A 23 zn zl z2 z6).bind fun r21 =>
 Z2C r21.1 z7 zd zh r21.2.1 r21.2.2)
 else
 (if (r1.1 == 93) = true then
 (if (r1.1 == 93) = true then
 ((Z1A 20 zn zl z2 z6).bind fun r22 =>
 Z2C r22.1 z7 zd zh r22.2.1 r22.2.2)
 else
 ((Z3b r1.1).bind fun r23 =>
 (Z54 false ([r23] : List Zi)).bind fun r24 =>
 some (r24, true, r1.2, z7, zd, zh, z2, z6)))
 else
 (if (r1.1 == 125) = true then
 ((Z1A 20 zn zl z2 z6).bind fun r25 =>
 Z2C r25.1 z7 zd zh r25.2.1 r25.2.2)
 else
 ((Z3b r1.1).bind fun r26 =>
 (Z54 false ([r26] : List Zi)).bind fun r27 =>
 some (r27, true, r1.2, z7, zd, zh, z2, z6)))))
 else
 (if (r1.1 == 123) = true then
 ((Z1A 23 zn zl z2 z6).bind fun r28 =>
 Z2C r28.1 z7 zd zh r28.2.1 r28.2.2)
 else
 (if (r1.1 == 93) = true then
 (if (r1.1 == 93) = true then
 ((Z1A 20 zn zl z2 z6).bind fun r29 =>
 Z2C r29.1 z7 zd zh r29.2.1 r29.2.2)
 else
 ((Z3b r1.1).bind fun r30 =>
 (Z54 false ([r30] : List Zi)).bind fun r31 =>
 some (r31, true, r1.2, z7, zd, zh, z2, z6)))
 else
 (if (r1.1 == 125) = true then
 ((Z1A 20 zn zl z2 z6).bind fun r32 =>
 Z2C r32.1 z7 zd zh r32.2.1 r32.2.2)
 else
 ((Z3b r1.1).bind fun r33 =>
 (Z54 false ([r33] : List Zi)).bind fun r34 =>
 some (r34, true, r1.2, z7, zd, zh, z2, z6)))))))))))))
theorem Znz zl zn z7 zd zh z2 z6 zp zb (zu : ZR zb = true) : Sim (Z3x zl zp) (Z9H zl zn z7 zd zh z2 z6) (EE 105 [(.ptr 0 0)] [(ZU zl zn z7 zd zh z2 z6 zp zb)]) := by
 unfold Z9H
 refine zf (ZLU ..)<|ze<|zz (.ptr 1 0) [(ZU zl zn z7 zd zh z2 z6 zp zb), (Zq Z2c .nl .nl)]<|ze<|zq<|zq<|zq<|ze<|zi fun r1 hr1 => ?_
 obtain ⟨_, er1, _, rfl⟩ := Z4J zl zn z7 zd zh z2 z6 zp zb zu r1 hr1
 refine zc [0] (iv r1.1) [(ZU zl r1.2 z7 zd zh z2 z6 zp zb), (Zq Z2c .nl .nl)] er1<|ze<|ze<|zq ?_
 refine za (r1.1 == 46) ?_ ?_
 ·refine ze<|zi fun r2 hr2 => ?_
  obtain ⟨_, er2, _, rfl⟩ := Z2W 10 r2 hr2
  refine zc [] (pA_ (Z18 r2)) [(ZU zl r1.2 z7 zd zh z2 z6 zp zb), (Zq Z2c .nl .nl)] er2<|zq<|zi fun r3 hr3 => ?_
  obtain ⟨_, er3, _, rfl⟩ := Z5i true ([r2] : List Zi) .sh r3 hr3
  refine zc [] (pA_ (ZO r3 .sh .sh)) [(ZU zl r1.2 z7 zd zh z2 z6 zp zb), (Zq Z2c .nl .nl)] er3<|zt [(ZU zl r1.2 z7 zd zh z2 z6 zp zb), (Zq r3 .sh .sh)] ?_
  exact zr ((.p (.tup [(.agg (ZO r3 .sh .sh)), (.v (.bool true))])), [(ZU zl r1.2 z7 zd zh z2 z6 zp zb), (Zq r3 .sh .sh)]) ⟨zb, _, zu, rfl⟩
 ·refine ze<|zq ?_
  refine za (r1.1 == 94) ?_ ?_
  ·refine ze<|zq<|zt [(ZU zl r1.2 z7 zd zh z2 z6 zp zb), (Z3t 9 0 0 0 0 ([] : List Zi) ([] : List Zj) .nl .nl)] ?_
   exact zr ((.p (.tup [(.agg (ZO (Zj.mk 9 0 0 0 0 ([] : List Zi) ([] : List Zj)) .sh .sh)), (.v (.bool false))])), [(ZU zl r1.2 z7 zd zh z2 z6 zp zb), (Z3t 9 0 0 0 0 ([] : List Zi) ([] : List Zj) .nl .nl)]) ⟨zb, _, zu, rfl⟩
  ·refine ze<|zq ?_
   refine za (r1.1 == 36) ?_ ?_
   ·refine ze<|zq<|zt [(ZU zl r1.2 z7 zd zh z2 z6 zp zb), (Z3t 9 0 0 0 1 ([] : List Zi) ([] : List Zj) .nl .nl)] ?_
    exact zr ((.p (.tup [(.agg (ZO (Zj.mk 9 0 0 0 1 ([] : List Zi) ([] : List Zj)) .sh .sh)), (.v (.bool false))])), [(ZU zl r1.2 z7 zd zh z2 z6 zp zb), (Z3t 9 0 0 0 1 ([] : List Zi) ([] : List Zj) .nl .nl)]) ⟨zb, _, zu, rfl⟩
   ·refine ze<|zq ?_
    refine za (r1.1 == 92) ?_ ?_
    ·refine ze<|zi fun r4 hr4 => ?_
     obtain ⟨_, er4, zmz, _, zKD, rfl⟩ := ZmY zn zl r1.2 z7 zd zh z2 z6 zp zb zu r4 hr4
     refine zc [0] (pA_ (ZO r4.1 .sh .sh)) [(ZU zl r4.2.1 z7 zd r4.2.2.1 r4.2.2.2.1 r4.2.2.2.2 zp zmz), (Zq Z2c .nl .nl)] er4<|zz (.ptr 2 0) [(ZU zl r4.2.1 z7 zd r4.2.2.1 r4.2.2.2.1 r4.2.2.2.2 zp zmz), (Zq Z2c .nl .nl), (Zq Z2c .nl .nl)]<|zt [(ZU zl r4.2.1 z7 zd r4.2.2.1 r4.2.2.2.1 r4.2.2.2.2 zp zmz), (Zq Z2c .nl .nl), (Zq r4.1 .sh .sh)]<|ze<|zq<|zq<|zq<|zq<|zt [(ZU zl r4.2.1 z7 zd r4.2.2.1 r4.2.2.2.1 r4.2.2.2.2 zp zmz), (Zq r4.1 .sh .sh), (Zq r4.1 .sh .sh)]<|zg ?_
     exact zr ((.p (.tup [(.agg (ZO r4.1 .sh .sh)), (.v (.bool (r4.1.Kind != 9)))])), [(ZU zl r4.2.1 z7 zd r4.2.2.1 r4.2.2.2.1 r4.2.2.2.2 zp zmz), (Zq r4.1 .sh .sh), (Zq r4.1 .sh .sh)]) ⟨zmz, _, zKD, rfl⟩
    ·refine ze<|zq ?_
     refine za (r1.1 == 91) ?_ ?_
     ·refine ze<|zi fun r5 hr5 => ?_
      obtain ⟨_, er5, _, rfl⟩ := ZnB zn zl r1.2 z7 zd zh z2 z6 zp zb zu r5 hr5
      refine zc [0] (pA_ (ZO r5.1 .sh .sh)) [(ZU zl r5.2.1 z7 zd zh r5.2.2.1 r5.2.2.2 zp zb), (Zq Z2c .nl .nl)] er5<|zt [(ZU zl r5.2.1 z7 zd zh r5.2.2.1 r5.2.2.2 zp zb), (Zq r5.1 .sh .sh)] ?_
      exact zr ((.p (.tup [(.agg (ZO r5.1 .sh .sh)), (.v (.bool true))])), [(ZU zl r5.2.1 z7 zd zh r5.2.2.1 r5.2.2.2 zp zb), (Zq r5.1 .sh .sh)]) ⟨zb, _, zu, rfl⟩
     ·refine ze<|zq ?_
      refine za (r1.1 == 40) ?_ ?_
      ·refine ze<|zi fun r6 hr6 => ?_
       obtain ⟨_, er6, zuo, _, zKF, rfl⟩ := ZnD zn zl r1.2 z7 zd zh z2 z6 zp zb zu r6 hr6
       refine zc [0] (.p (.tup [(.agg (ZO r6.1 .sh .sh)), (.v (.bool r6.2.1))])) [(ZU zl r6.2.2.1 r6.2.2.2.1 r6.2.2.2.2.1 r6.2.2.2.2.2.1 r6.2.2.2.2.2.2.1 r6.2.2.2.2.2.2.2 zp zuo), (Zq Z2c .nl .nl)] er6<|zq<|zq<|zt [(ZU zl r6.2.2.1 r6.2.2.2.1 r6.2.2.2.2.1 r6.2.2.2.2.2.1 r6.2.2.2.2.2.2.1 r6.2.2.2.2.2.2.2 zp zuo), (Zq r6.1 .sh .sh)] ?_
       exact zr ((.p (.tup [(.agg (ZO r6.1 .sh .sh)), (.v (.bool r6.2.1))])), [(ZU zl r6.2.2.1 r6.2.2.2.1 r6.2.2.2.2.1 r6.2.2.2.2.2.1 r6.2.2.2.2.2.2.1 r6.2.2.2.2.2.2.2 zp zuo), (Zq r6.1 .sh .sh)]) ⟨zuo, _, zKF, rfl⟩
      ·refine ze<|zq ?_
       refine za (r1.1 == 42) ?_ ?_
       ·refine za (r1.1 == 42) ?_ ?_
        ·refine ze<|zi fun r7 hr7 => ?_
         obtain ⟨_, er7, _, rfl⟩ := Z1G 23 zn zl r1.2 z7 zd zh z2 z6 zp zb zu r7 hr7
         refine zc [0] (.p (.tup [])) [(ZU zl r7.1 z7 zd zh r7.2.1 r7.2.2 zp zb), (Zq Z2c .nl .nl)] er7 ?_
         exact zk (Z2H zl r7.1 z7 zd zh r7.2.1 r7.2.2 Z2c zp zb .nl .nl zu rfl rfl)
        ·refine ze<|zq ?_
         refine za (r1.1 == 93) ?_ ?_
         ·refine za (r1.1 == 93) ?_ ?_
          ·refine ze<|zi fun r8 hr8 => ?_
           obtain ⟨_, er8, _, rfl⟩ := Z1G 20 zn zl r1.2 z7 zd zh z2 z6 zp zb zu r8 hr8
           refine zc [0] (.p (.tup [])) [(ZU zl r8.1 z7 zd zh r8.2.1 r8.2.2 zp zb), (Zq Z2c .nl .nl)] er8 ?_
           exact zk (Z2H zl r8.1 z7 zd zh r8.2.1 r8.2.2 Z2c zp zb .nl .nl zu rfl rfl)
          ·refine ze<|zi fun r9 hr9 => ?_
           obtain ⟨_, er9, _, rfl⟩ := Z2W r1.1 r9 hr9
           refine zc [] (pA_ (Z18 r9)) [(ZU zl r1.2 z7 zd zh z2 z6 zp zb), (Zq Z2c .nl .nl)] er9<|zq<|zi fun r10 hr10 => ?_
           obtain ⟨_, er10, _, rfl⟩ := Z5i false ([r9] : List Zi) .sh r10 hr10
           refine zc [] (pA_ (ZO r10 .sh .sh)) [(ZU zl r1.2 z7 zd zh z2 z6 zp zb), (Zq Z2c .nl .nl)] er10<|zt [(ZU zl r1.2 z7 zd zh z2 z6 zp zb), (Zq r10 .sh .sh)] ?_
           exact zr ((.p (.tup [(.agg (ZO r10 .sh .sh)), (.v (.bool true))])), [(ZU zl r1.2 z7 zd zh z2 z6 zp zb), (Zq r10 .sh .sh)]) ⟨zb, _, zu, rfl⟩
         ·refine ze<|zq ?_
          refine za (r1.1 == 125) ?_ ?_
          ·refine ze<|zi fun r11 hr11 => ?_
           obtain ⟨_, er11, _, rfl⟩ := Z1G 20 zn zl r1.2 z7 zd zh z2 z6 zp zb zu r11 hr11
           refine zc [0] (.p (.tup [])) [(ZU zl r11.1 z7 zd zh r11.2.1 r11.2.2 zp zb), (Zq Z2c .nl .nl)] er11 ?_
           exact zk (Z2H zl r11.1 z7 zd zh r11.2.1 r11.2.2 Z2c zp zb .nl .nl zu rfl rfl)
          ·refine ze<|zi fun r12 hr12 => ?_
           obtain ⟨_, er12, _, rfl⟩ := Z2W r1.1 r12 hr12
           refine zc [] (pA_ (Z18 r12)) [(ZU zl r1.2 z7 zd zh z2 z6 zp zb), (Zq Z2c .nl .nl)] er12<|zq<|zi fun r13 hr13 => ?_
           obtain ⟨_, er13, _, rfl⟩ := Z5i false ([r12] : List Zi) .sh r13 hr13
           refine zc [] (pA_ (ZO r13 .sh .sh)) [(ZU zl r1.2 z7 zd zh z2 z6 zp zb), (Zq Z2c .nl .nl)] er13<|zt [(ZU zl r1.2 z7 zd zh z2 z6 zp zb), (Zq r13 .sh .sh)] ?_
           exact zr ((.p (.tup [(.agg (ZO r13 .sh .sh)), (.v (.bool true))])), [(ZU zl r1.2 z7 zd zh z2 z6 zp zb), (Zq r13 .sh .sh)]) ⟨zb, _, zu, rfl⟩
       ·refine ze<|zq ?_
        refine za (r1.1 == 43) ?_ ?_
        ·refine za (r1.1 == 43) ?_ ?_
         ·refine ze<|zi fun r14 hr14 => ?_
          obtain ⟨_, er14, _, rfl⟩ := Z1G 23 zn zl r1.2 z7 zd zh z2 z6 zp zb zu r14 hr14
          refine zc [0] (.p (.tup [])) [(ZU zl r14.1 z7 zd zh r14.2.1 r14.2.2 zp zb), (Zq Z2c .nl .nl)] er14 ?_
          exact zk (Z2H zl r14.1 z7 zd zh r14.2.1 r14.2.2 Z2c zp zb .nl .nl zu rfl rfl)
         ·refine ze<|zq ?_
          refine za (r1.1 == 93) ?_ ?_
          ·refine za (r1.1 == 93) ?_ ?_
           ·refine ze<|zi fun r15 hr15 => ?_
            obtain ⟨_, er15, _, rfl⟩ := Z1G 20 zn zl r1.2 z7 zd zh z2 z6 zp zb zu r15 hr15
            refine zc [0] (.p (.tup [])) [(ZU zl r15.1 z7 zd zh r15.2.1 r15.2.2 zp zb), (Zq Z2c .nl .nl)] er15 ?_
            exact zk (Z2H zl r15.1 z7 zd zh r15.2.1 r15.2.2 Z2c zp zb .nl .nl zu rfl rfl)
           ·refine ze<|zi fun r16 hr16 => ?_
            obtain ⟨_, er16, _, rfl⟩ := Z2W r1.1 r16 hr16
            refine zc [] (pA_ (Z18 r16)) [(ZU zl r1.2 z7 zd zh z2 z6 zp zb), (Zq Z2c .nl .nl)] er16<|zq<|zi fun r17 hr17 => ?_
            obtain ⟨_, er17, _, rfl⟩ := Z5i false ([r16] : List Zi) .sh r17 hr17
            refine zc [] (pA_ (ZO r17 .sh .sh)) [(ZU zl r1.2 z7 zd zh z2 z6 zp zb), (Zq Z2c .nl .nl)] er17<|zt [(ZU zl r1.2 z7 zd zh z2 z6 zp zb), (Zq r17 .sh .sh)] ?_
            exact zr ((.p (.tup [(.agg (ZO r17 .sh .sh)), (.v (.bool true))])), [(ZU zl r1.2 z7 zd zh z2 z6 zp zb), (Zq r17 .sh .sh)]) ⟨zb, _, zu, rfl⟩
          ·refine ze<|zq ?_
           refine za (r1.1 == 125) ?_ ?_
           ·refine ze<|zi fun r18 hr18 => ?_
            obtain ⟨_, er18, _, rfl⟩ := Z1G 20 zn zl r1.2 z7 zd zh z2 z6 zp zb zu r18 hr18
            refine zc [0] (.p (.tup [])) [(ZU zl r18.1 z7 zd zh r18.2.1 r18.2.2 zp zb), (Zq Z2c .nl .nl)] er18 ?_
            exact zk (Z2H zl r18.1 z7 zd zh r18.2.1 r18.2.2 Z2c zp zb .nl .nl zu rfl rfl)
           ·refine ze<|zi fun r19 hr19 => ?_
            obtain ⟨_, er19, _, rfl⟩ := Z2W r1.1 r19 hr19
            refine zc [] (pA_ (Z18 r19)) [(ZU zl r1.2 z7 zd zh z2 z6 zp zb), (Zq Z2c .nl .nl)] er19<|zq<|zi fun r20 hr20 => ?_
            obtain ⟨_, er20, _, rfl⟩ := Z5i false ([r19] : List Zi) .sh r20 hr20
            refine zc [] (pA_ (ZO r20 .sh .sh)) [(ZU zl r1.2 z7 zd zh z2 z6 zp zb), (Zq Z2c .nl .nl)] er20<|zt [(ZU zl r1.2 z7 zd zh z2 z6 zp zb), (Zq r20 .sh .sh)] ?_
            exact zr ((.p (.tup [(.agg (ZO r20 .sh .sh)), (.v (.bool true))])), [(ZU zl r1.2 z7 zd zh z2 z6 zp zb), (Zq r20 .sh .sh)]) ⟨zb, _, zu, rfl⟩
        ·refine ze<|zq ?_
         refine za (r1.1 == 63) ?_ ?_
         ·refine za (r1.1 == 63) ?_ ?_
          ·refine ze<|zi fun r21 hr21 => ?_
           obtain ⟨_, er21, _, rfl⟩ := Z1G 23 zn zl r1.2 z7 zd zh z2 z6 zp zb zu r21 hr21
           refine zc [0] (.p (.tup [])) [(ZU zl r21.1 z7 zd zh r21.2.1 r21.2.2 zp zb), (Zq Z2c .nl .nl)] er21 ?_
           exact zk (Z2H zl r21.1 z7 zd zh r21.2.1 r21.2.2 Z2c zp zb .nl .nl zu rfl rfl)
          ·refine ze<|zq ?_
           refine za (r1.1 == 93) ?_ ?_
           ·refine za (r1.1 == 93) ?_ ?_
            ·refine ze<|zi fun r22 hr22 => ?_
             obtain ⟨_, er22, _, rfl⟩ := Z1G 20 zn zl r1.2 z7 zd zh z2 z6 zp zb zu r22 hr22
             refine zc [0] (.p (.tup [])) [(ZU zl r22.1 z7 zd zh r22.2.1 r22.2.2 zp zb), (Zq Z2c .nl .nl)] er22 ?_
             exact zk (Z2H zl r22.1 z7 zd zh r22.2.1 r22.2.2 Z2c zp zb .nl .nl zu rfl rfl)
            ·refine ze<|zi fun r23 hr23 => ?_
             obtain ⟨_, er23, _, rfl⟩ := Z2W r1.1 r23 hr23
             refine zc [] (pA_ (Z18 r23)) [(ZU zl r1.2 z7 zd zh z2 z6 zp zb), (Zq Z2c .nl .nl)] er23<|zq<|zi fun r24 hr24 => ?_
             obtain ⟨_, er24, _, rfl⟩ := Z5i false ([r23] : List Zi) .sh r24 hr24
             refine zc [] (pA_ (ZO r24 .sh .sh)) [(ZU zl r1.2 z7 zd zh z2 z6 zp zb), (Zq Z2c .nl .nl)] er24<|zt [(ZU zl r1.2 z7 zd zh z2 z6 zp zb), (Zq r24 .sh .sh)] ?_
             exact zr ((.p (.tup [(.agg (ZO r24 .sh .sh)), (.v (.bool true))])), [(ZU zl r1.2 z7 zd zh z2 z6 zp zb), (Zq r24 .sh .sh)]) ⟨zb, _, zu, rfl⟩
           ·refine ze<|zq ?_
            refine za (r1.1 == 125) ?_ ?_
            ·refine ze<|zi fun r25 hr25 => ?_
             obtain ⟨_, er25, _, rfl⟩ := Z1G 20 zn zl r1.2 z7 zd zh z2 z6 zp zb zu r25 hr25
             refine zc [0] (.p (.tup [])) [(ZU zl r25.1 z7 zd zh r25.2.1 r25.2.2 zp zb), (Zq Z2c .nl .nl)] er25 ?_
             exact zk (Z2H zl r25.1 z7 zd zh r25.2.1 r25.2.2 Z2c zp zb .nl .nl zu rfl rfl)
            ·refine ze<|zi fun r26 hr26 => ?_
             obtain ⟨_, er26, _, rfl⟩ := Z2W r1.1 r26 hr26
             refine zc [] (pA_ (Z18 r26)) [(ZU zl r1.2 z7 zd zh z2 z6 zp zb), (Zq Z2c .nl .nl)] er26<|zq<|zi fun r27 hr27 => ?_
             obtain ⟨_, er27, _, rfl⟩ := Z5i false ([r26] : List Zi) .sh r27 hr27
             refine zc [] (pA_ (ZO r27 .sh .sh)) [(ZU zl r1.2 z7 zd zh z2 z6 zp zb), (Zq Z2c .nl .nl)] er27<|zt [(ZU zl r1.2 z7 zd zh z2 z6 zp zb), (Zq r27 .sh .sh)] ?_
             exact zr ((.p (.tup [(.agg (ZO r27 .sh .sh)), (.v (.bool true))])), [(ZU zl r1.2 z7 zd zh z2 z6 zp zb), (Zq r27 .sh .sh)]) ⟨zb, _, zu, rfl⟩
         ·refine ze<|zq ?_
          refine za (r1.1 == 123) ?_ ?_
          ·refine ze<|zi fun r28 hr28 => ?_
           obtain ⟨_, er28, _, rfl⟩ := Z1G 23 zn zl r1.2 z7 zd zh z2 z6 zp zb zu r28 hr28
           refine zc [0] (.p (.tup [])) [(ZU zl r28.1 z7 zd zh r28.2.1 r28.2.2 zp zb), (Zq Z2c .nl .nl)] er28 ?_
           exact zk (Z2H zl r28.1 z7 zd zh r28.2.1 r28.2.2 Z2c zp zb .nl .nl zu rfl rfl)
          ·refine ze<|zq ?_
           refine za (r1.1 == 93) ?_ ?_
           ·refine za (r1.1 == 93) ?_ ?_
            ·refine ze<|zi fun r29 hr29 => ?_
             obtain ⟨_, er29, _, rfl⟩ := Z1G 20 zn zl r1.2 z7 zd zh z2 z6 zp zb zu r29 hr29
             refine zc [0] (.p (.tup [])) [(ZU zl r29.1 z7 zd zh r29.2.1 r29.2.2 zp zb), (Zq Z2c .nl .nl)] er29 ?_
             exact zk (Z2H zl r29.1 z7 zd zh r29.2.1 r29.2.2 Z2c zp zb .nl .nl zu rfl rfl)
            ·refine ze<|zi fun r30 hr30 => ?_
             obtain ⟨_, er30, _, rfl⟩ := Z2W r1.1 r30 hr30
             refine zc [] (pA_ (Z18 r30)) [(ZU zl r1.2 z7 zd zh z2 z6 zp zb), (Zq Z2c .nl .nl)] er30<|zq<|zi fun r31 hr31 => ?_
             obtain ⟨_, er31, _, rfl⟩ := Z5i false ([r30] : List Zi) .sh r31 hr31
             refine zc [] (pA_ (ZO r31 .sh .sh)) [(ZU zl r1.2 z7 zd zh z2 z6 zp zb), (Zq Z2c .nl .nl)] er31<|zt [(ZU zl r1.2 z7 zd zh z2 z6 zp zb), (Zq r31 .sh .sh)] ?_
             exact zr ((.p (.tup [(.agg (ZO r31 .sh .sh)), (.v (.bool true))])), [(ZU zl r1.2 z7 zd zh z2 z6 zp zb), (Zq r31 .sh .sh)]) ⟨zb, _, zu, rfl⟩
           ·refine ze<|zq ?_
            refine za (r1.1 == 125) ?_ ?_
            ·refine ze<|zi fun r32 hr32 => ?_
             obtain ⟨_, er32, _, rfl⟩ := Z1G 20 zn zl r1.2 z7 zd zh z2 z6 zp zb zu r32 hr32
             refine zc [0] (.p (.tup [])) [(ZU zl r32.1 z7 zd zh r32.2.1 r32.2.2 zp zb), (Zq Z2c .nl .nl)] er32 ?_
             exact zk (Z2H zl r32.1 z7 zd zh r32.2.1 r32.2.2 Z2c zp zb .nl .nl zu rfl rfl)
            ·refine ze<|zi fun r33 hr33 => ?_
             obtain ⟨_, er33, _, rfl⟩ := Z2W r1.1 r33 hr33
             refine zc [] (pA_ (Z18 r33)) [(ZU zl r1.2 z7 zd zh z2 z6 zp zb), (Zq Z2c .nl .nl)] er33<|zq<|zi fun r34 hr34 => ?_
             obtain ⟨_, er34, _, rfl⟩ := Z5i false ([r33] : List Zi) .sh r34 hr34
             refine zc [] (pA_ (ZO r34 .sh .sh)) [(ZU zl r1.2 z7 zd zh z2 z6 zp zb), (Zq Z2c .nl .nl)] er34<|zt [(ZU zl r1.2 z7 zd zh z2 z6 zp zb), (Zq r34 .sh .sh)] ?_
             exact zr ((.p (.tup [(.agg (ZO r34 .sh .sh)), (.v (.bool true))])), [(ZU zl r1.2 z7 zd zh z2 z6 zp zb), (Zq r34 .sh .sh)]) ⟨zb, _, zu, rfl⟩
theorem Zoo zl zn z7 zd zh z2 z6 {r} (h : Z9H zl zn z7 zd zh z2 z6 = some r) : Zcc zl zn z7 zd zh z2 z6 = some r :=
 Z1c (fun _ _ ha hb => RRun.uniq (ZgQ _ _) (ha .ex .ex rfl) (hb .ex .ex rfl)) (fun zp zb zu => Znz zl zn z7 zd zh z2 z6 zp zb zu r h)
def Zc0 (zl : List Int) (zn : Int) : Option (Int × Int) :=
 (Zhp zl zn).bind fun r1 =>
 some (r1.1, (IntKind.i64.wrap (zn + r1.2)))
theorem ZnG zl zn z7 zd zh z2 z6 zp zb (zu : ZR zb = true) : Sim (Z2L zl z7 zd zh z2 z6 zp zb) (Zc0 zl zn) (EE 127 [(.ptr 0 0)] [(ZU zl zn z7 zd zh z2 z6 zp zb)]) := by
 unfold Zc0
 refine zf (ZM6 ..)<|ze<|ze<|zq<|zq<|zq<|zq<|zq<|zq<|zi fun r1 hr1 => ?_
 obtain ⟨_, er1, _, rfl⟩ := ZpP zl zn .sh r1 hr1
 refine zc [] (.p (.tup [(.v (.int .i64 r1.1)), (.v (.int .i64 r1.2))])) [(ZU zl zn z7 zd zh z2 z6 zp zb)] er1<|zq<|zq<|ze<|zq<|zq<|zq<|zq<|zq<|zq<|zt [(ZU zl (IntKind.i64.wrap (zn + r1.2)) z7 zd zh z2 z6 zp zb)]<|ze ?_
 exact zr ((iv r1.1), [(ZU zl (IntKind.i64.wrap (zn + r1.2)) z7 zd zh z2 z6 zp zb)]) ⟨_, rfl⟩
theorem Zos zl zn {r} (h : Zc0 zl zn = some r) : Z49 zl zn = some r :=
 Z1c (fun _ _ ha hb => RRun.uniq (Z8v _ _ _ _ _ _ _ _) (ha default default default default default .ex .ex rfl) (hb default default default default default .ex .ex rfl)) (fun z7 zd zh z2 z6 zp zb zu => ZnG zl zn z7 zd zh z2 z6 zp zb zu r h)
def Zod (x0 : Int) : Option (Zi) :=
 some (Zi.mk x0 x0)
theorem Zx9 x0 : Sim (ZkG) (Zod x0) (EE 129 [(iv x0)] []) := by
 unfold Zod
 refine zf (ZM9 ..)<|ze<|zz (.ptr 0 0) [(Z3e (Zi.mk 0 0))]<|ze<|zq<|zt [(Z3e (Zi.mk x0 x0))] ?_
 exact zr ((pA_ (Z18 (Zi.mk x0 x0))), [(Z3e (Zi.mk x0 x0))]) ⟨_, rfl⟩
theorem ZzO x0 {r} (h : Zod x0 = some r) : Z3b x0 = some r :=
 Z1c (fun _ _ ha hb => RRun.uniq ZAw (ha ) (hb )) (Zx9 x0 r h)
def ZfK (x5 : List Zi) : Option (Zj) :=
 some (Zj.mk 1 0 0 0 0 x5 ([] : List Zj))
theorem Zlb (x5 : List Zi) b0 ox5 z2v z20 (zKB : ZR z2v = true) (zJz : ZR z20 = true) : Sim (Z8u) (ZfK x5) (ZtO 0 (.ptr 0 0) (ZK ox5 (x5.map Zy)) [(Zq b0 z2v z20)]) := by
 unfold ZfK
 refine zf (ZFy ..)<|ze<|zq<|zt [(Z3t 1 0 0 0 0 x5 ([] : List Zj) (shrO (shrO ox5)) .nl)] ?_
 exact zr ((pA_ (ZO (Zj.mk 1 0 0 0 0 x5 ([] : List Zj)) .sh .sh)), [(Z3t 1 0 0 0 0 x5 ([] : List Zj) (shrO (shrO ox5)) .nl)]) ⟨_, rfl⟩
def ZkI (x0 : Bool) (x1 : List Zi) : Option (Zj) :=
 (Zj4 x1).bind fun r1 =>
 if (x0) = true then
 ((ZcE r1.1).bind fun r2 =>
 ZfK r2.1)
 else
 (ZfK r1.1)
theorem Zxa x0 (x1 : List Zi) ox1 : Sim (Z8u) (ZkI x0 x1) (EE 128 [(bv x0), (ZK ox1 (x1.map Zy))] []) := by
 unfold ZkI
 refine zf (ZM7 ..)<|ze<|zz (.ptr 0 0) [(Zq Z2c .nl .nl)]<|ze<|zi fun r1 hr1 => ?_
 obtain ⟨_, er1, _, rfl⟩ := Zx7 x1 .sh r1 hr1
 refine zc [] (.p (.tup [(.lst .sh (r1.1.map Zy)), (.v (.int .i64 r1.2))])) [(Zq Z2c .nl .nl)] er1<|zq<|zq<|ze ?_
 refine za x0 ?_ ?_
 ·refine ze<|zi fun r2 hr2 => ?_
  obtain ⟨_, er2, _, rfl⟩ := Zl3 r1.1 .sh r2 hr2
  refine zc [] (.p (.tup [(.lst .sh (r2.1.map Zy)), (.v (.int .i64 r2.2))])) [(Zq Z2c .nl .nl)] er2<|zq<|zq ?_
  exact zk (Zlb r2.1 Z2c .sh .nl .nl rfl rfl)
 ·exact zk (Zlb r1.1 Z2c .sh .nl .nl rfl rfl)
theorem ZzP x0 x1 {r} (h : ZkI x0 x1 = some r) : Z54 x0 x1 = some r :=
 Z1c (fun _ _ ha hb => RRun.uniq ZmC (ha .ex) (hb .ex)) (fun ox1 => Zxa x0 x1 ox1 r h)
def ZeD (x0 : List Zi) : Option ((List Zi) × Int) :=
 (ZfT x0).bind fun r1 =>
 some (r1, 0)
theorem ZrZ (x0 : List Zi) ox0 : Sim (Z6j) (ZeD x0) (Zyu 0 (ZK ox0 (x0.map Zy)) []) := by
 unfold ZeD
 refine zf (ZFS ..)<|ze<|zi fun r1 hr1 => ?_
 obtain ⟨_, er1, _, rfl⟩ := ZlR x0 .sh r1 hr1
 refine zc [] (ZK .sh (r1.map Zy)) [] er1 ?_
 exact zr ((.p (.tup [(.lst .sh (r1.map Zy)), (.v (.int .i64 0))])), []) ⟨_, rfl⟩
def ZiU (x0 : List Zi) : Option ((List Zi) × Int) :=
 (Z6v x0).bind fun r1 =>
 if (r1) = true then
 (some (([] : List Zi), 13))
 else
 (ZeD x0)
theorem Zvn (x0 : List Zi) ox0 : Sim (Z6j) (ZiU x0) (EE 147 [(ZK ox0 (x0.map Zy))] []) := by
 unfold ZiU
 refine zf (ZMr ..)<|ze<|ze<|zi fun r1 hr1 => ?_
 obtain ⟨_, er1, _, rfl⟩ := Zgr x0 .sh r1 hr1
 refine zc [] (bv r1) [] er1 ?_
 refine za r1 ?_ ?_
 ·refine ze ?_
  exact zr ((.p (.tup [(.lst .sh []), (.v (.int .i64 13))])), []) ⟨_, rfl⟩
 ·exact zk (ZrZ x0 ox0)
theorem Zx6 x0 {r} (h : ZiU x0 = some r) : Zj4 x0 = some r :=
 Z1c (fun _ _ ha hb => RRun.uniq Zk2 (ha .ex) (hb .ex)) (fun ox0 => Zvn x0 ox0 r h)
def Z6q (x0 : List Zi) : Option (Bool) :=
 (Z7J x0).bind fun r1 =>
 some (decide (0 ≤ r1))
theorem ZfW (x0 : List Zi) ox0 : Sim (ZW) (Z6q x0) (EE 166 [(ZK ox0 (x0.map Zy)), (.clo 167 [] [])] []) := by
 unfold Z6q
 refine zf (ZMK ..)<|ze<|ze<|zi fun r1 hr1 => ?_
 obtain ⟨_, er1, _, rfl⟩ := ZiM x0 .sh r1 hr1
 refine zc [] (iv r1) [] er1<|zq ?_
 exact zr ((bv (decide (0 ≤ r1))), []) ⟨_, rfl⟩
theorem Zgq x0 {r} (h : Z6q x0 = some r) : Z6v x0 = some r :=
 Z1c (fun _ _ ha hb => RRun.uniq Z2d (ha .ex) (hb .ex)) (fun ox0 => ZfW x0 ox0 r h)
def Z7C (x0 : List Zi) : Option (Int) :=
 Z58 x0 (x0.length : Int) 0
theorem Zi3 (x0 : List Zi) ox0 : Sim (ZM) (Z7C x0) (EE 179 [(ZK ox0 (x0.map Zy)), (.clo 167 [] [])] []) := by
 unfold Z7C
 refine zf (ZMY ..)<|ze<|ze ?_
 refine zo (iv (x0.length : Int)) ?_ (et_ (Z2J (P := PP) (t := 94) (d := 201) (by kernel_rfl) Zy (shrO ox0) x0))
 exact zk (ZaX x0 (x0.length : Int) 0 ox0)
theorem ZiL x0 {r} (h : Z7C x0 = some r) : Z7J x0 = some r :=
 Z1c (fun _ _ ha hb => RRun.uniq Z2e (ha .ex) (hb .ex)) (fun ox0 => Zi3 x0 ox0 r h)
def Z6t (x0 : List Zi) (x7 x8 : Int) : Option (Int) :=
 Z58 x0 x7 (IntKind.i64.wrap (x8 + 1))
theorem Zg3 (x0 : List Zi) x7 x8 ox0 : Sim (ZM) (Z6t x0 x7 x8) (Zzb 0 (ZK ox0 (x0.map Zy)) (.clo 167 [] []) (iv x7) (iv x8) []) := by
 unfold Z6t
 refine zf (ZGn ..)<|ze<|zq ?_
 exact zk (ZaX x0 x7 (IntKind.i64.wrap (x8 + 1)) ox0)
def Z6s (x0 : List Zi) (x7 x8 : Int) : Option (Int) :=
 (lget x0 x8).bind fun a1 =>
 (ZfR a1).bind fun r2 =>
 if (r2) = true then
 (some (x8))
 else
 (Z6t x0 x7 x8)
theorem Zg2 (x0 : List Zi) x7 x8 ox0 : Sim (ZM) (Z6s x0 x7 x8) (Zza 0 (ZK ox0 (x0.map Zy)) (.clo 167 [] []) (iv x7) (iv x8) []) := by
 unfold Z6s
 refine zf (ZGm ..)<|ze<|ze<|zi fun a1 ha1 => ?_
 refine zo (.cptr (Z18 a1)) ?_ (et_ (Z3G (o := (shrO ox0)) (k := .i64) (n := 2) (e := Zy) (cs := Z9W) (fun _ => rfl) (fun _ => rfl) (by decide) ha1))
 refine zq<|zi fun r2 hr2 => ?_
 obtain ⟨_, er2, _, rfl⟩ := Zuy a1 r2 hr2
 refine zv [] (bv r2) [] er2 ?_
 refine za r2 ?_ ?_
 ·refine ze ?_
  exact zr ((iv x8), []) ⟨_, rfl⟩
 ·exact zk (Zg3 x0 x7 x8 ox0)
def Z8Z  : Option (Int) :=
 some (-1)
theorem Zg4  : Sim (ZM) (Z8Z) (Zzc 0  []) := by
 unfold Z8Z
 refine zf (ZGo ..)<|ze ?_
 exact zr ((iv (-1)), []) ⟨_, rfl⟩
def Z56 (x0 : List Zi) (x7 x8 : Int) : Option (Int) :=
 if (decide (x8 < x7)) = true then
 (Z6s x0 x7 x8)
 else
 (Z8Z)
theorem Zg1 (x0 : List Zi) x7 x8 ox0 : Sim (ZM) (Z56 x0 x7 x8) (Zpa 0 (ZK ox0 (x0.map Zy)) (.clo 167 [] []) (iv x7) (iv x8) []) := by
 unfold Z56
 refine zf (ZGl ..)<|ze<|zq ?_
 refine za (decide (x8 < x7)) ?_ ?_
 ·exact zk (Zg2 x0 x7 x8 ox0)
 ·exact zk (Zg4 )
theorem ZaW x0 x7 x8 {r} (h : Z56 x0 x7 x8 = some r) : Z58 x0 x7 x8 = some r :=
 Z1c (fun _ _ ha hb => RRun.uniq Z2e (ha .ex) (hb .ex)) (fun ox0 => Zg1 x0 x7 x8 ox0 r h)
def ZfF (x0 : Zi) : Option (Bool) :=
 (Z9N x0).bind fun r1 =>
 some (!r1)
theorem ZsT x0 : Sim (ZW) (ZfF x0) (EE 167 [(pA_ (Z18 x0))] []) := by
 unfold ZfF
 refine zf (ZML ..)<|ze<|zx (.ptr 0 0) [(Z3e x0)]<|ze<|zq<|zi fun r1 hr1 => ?_
 obtain ⟨_, er1, _, rfl⟩ := ZgV x0 r1 hr1
 refine zc [] (bv r1) [(Z3e x0)] er1<|zq ?_
 exact zr ((bv (!r1)), [(Z3e x0)]) ⟨_, rfl⟩
theorem Zux x0 {r} (h : ZfF x0 = some r) : ZfR x0 = some r :=
 Z1c (fun _ _ ha hb => RRun.uniq Z2d (ha ) (hb )) (ZsT x0 r h)
def ZbX (x0 : Zi) : Option (Bool) :=
 if (decide (0 ≤ x0.Lo)) = true then
 (if (decide (x0.Lo ≤ x0.Hi)) = true then
 (some (decide (x0.Hi ≤ 1114367)))
 else
 (some (false)))
 else
 (some (false))
theorem Znp x0 : Sim (ZW) (ZbX x0) (EE 168 [(pA_ (Z18 x0))] []) := by
 unfold ZbX
 refine zf (ZMM ..)<|ze<|zx (.ptr 0 0) [(Z3e x0)]<|ze<|zq<|zq<|zq ?_
 refine za (decide (0 ≤ x0.Lo)) ?_ ?_
 ·refine zq<|zq<|zq<|zq<|zq ?_
  refine za (decide (x0.Lo ≤ x0.Hi)) ?_ ?_
  ·refine zq<|zq<|zq ?_
   exact zr ((bv (decide (x0.Hi ≤ 1114367))), [(Z3e x0)]) ⟨_, rfl⟩
  ·exact zr ((bv false), [(Z3e x0)]) ⟨_, rfl⟩
 ·exact zr ((bv false), [(Z3e x0)]) ⟨_, rfl⟩
theorem Zoe x0 {r} (h : ZbX x0 = some r) : Z9N x0 = some r :=
 Z1c (fun _ _ ha hb => RRun.uniq Z2d (ha ) (hb )) (Znp x0 r h)
def Zcp (x0 : List Zi) : Option ((List Zi) × Int) :=
 (ZeO x0).bind fun r1 =>
 some (r1, 0)
theorem Zog (x0 : List Zi) ox0 : Sim (Z6j) (Zcp x0) (Zyv 0 (ZK ox0 (x0.map Zy)) []) := by
 unfold Zcp
 refine zf (ZFT ..)<|ze<|zi fun r1 hr1 => ?_
 obtain ⟨_, er1, _, rfl⟩ := ZsZ x0 .sh r1 hr1
 refine zc [] (ZK .sh (r1.map Zy)) [] er1 ?_
 exact zr ((.p (.tup [(.lst .sh (r1.map Zy)), (.v (.int .i64 0))])), []) ⟨_, rfl⟩
def ZeF (x0 : List Zi) : Option ((List Zi) × Int) :=
 (Z8J x0).bind fun r1 =>
 if (!r1) = true then
 (some (([] : List Zi), 10))
 else
 (Zcp x0)
theorem Zs1 (x0 : List Zi) ox0 : Sim (Z6j) (ZeF x0) (EE 148 [(ZK ox0 (x0.map Zy))] []) := by
 unfold ZeF
 refine zf (ZMt ..)<|ze<|ze<|zi fun r1 hr1 => ?_
 obtain ⟨_, er1, _, rfl⟩ := Zds x0 .sh r1 hr1
 refine zc [] (bv r1) [] er1<|zq ?_
 refine za (!r1) ?_ ?_
 ·refine ze ?_
  exact zr ((.p (.tup [(.lst .sh []), (.v (.int .i64 10))])), []) ⟨_, rfl⟩
 ·exact zk (Zog x0 ox0)
theorem ZsW x0 {r} (h : ZeF x0 = some r) : ZcE x0 = some r :=
 Z1c (fun _ _ ha hb => RRun.uniq Zk2 (ha .ex) (hb .ex)) (fun ox0 => Zs1 x0 ox0 r h)
def Zco (x0 : List Zi) : Option (Bool) :=
 Z8K (-2) x0 (x0.length : Int) 0
theorem Zof (x0 : List Zi) ox0 : Sim (ZW) (Zco x0) (EE 170 [(ZK ox0 (x0.map Zy))] []) := by
 unfold Zco
 refine zf (ZMN ..)<|ze<|ze<|ze ?_
 refine zo (iv (x0.length : Int)) ?_ (et_ (Z2J (P := PP) (t := 95) (d := 201) (by kernel_rfl) Zy (shrO ox0) x0))
 exact zk (Zf3 (-2) x0 (x0.length : Int) 0 (shrO ox0))
theorem Zpq x0 {r} (h : Zco x0 = some r) : Z8J x0 = some r :=
 Z1c (fun _ _ ha hb => RRun.uniq Z2d (ha .ex) (hb .ex)) (fun ox0 => Zof x0 ox0 r h)
def Zay  : Option (Bool) :=
 some (false)
theorem ZeN  : Sim (ZW) (Zay) (Zu4 0  []) := by
 unfold Zay
 refine zf (ZG9 ..)<|ze ?_
 exact zr ((bv false), []) ⟨_, rfl⟩
def ZaA (x3 : Int) (x6 : List Zi) (x7 x8 : Int) : Option (Bool) :=
 Z8K x3 x6 x7 (IntKind.i64.wrap (x8 + 1))
theorem Zm0 x3 (x6 : List Zi) x7 x8 ox6 : Sim (ZW) (ZaA x3 x6 x7 x8) (ZyW 0 (iv x3) (ZK ox6 (x6.map Zy)) (iv x7) (iv x8) []) := by
 unfold ZaA
 refine zf (ZGb ..)<|ze<|zq ?_
 exact zk (Zf3 x3 x6 x7 (IntKind.i64.wrap (x8 + 1)) ox6)
def Zaz (x6 : List Zi) (x7 x8 : Int) (b0 : Zi) : Option (Bool) :=
 ZaA b0.Hi x6 x7 x8
theorem ZlZ (x6 : List Zi) x7 x8 b0 ox6 : Sim (ZW) (Zaz x6 x7 x8 b0) (ZyV 0 (.ptr 0 0) (ZK ox6 (x6.map Zy)) (iv x7) (iv x8) [(Z3e b0)]) := by
 unfold Zaz
 refine zf (ZGa ..)<|ze<|zq<|zq ?_
 exact zk (Zm0 b0.Hi x6 x7 x8 ox6)
def Zax (x3 : Int) (x6 : List Zi) (x7 x8 : Int) : Option (Bool) :=
 (lget x6 x8).bind fun a1 =>
 (Z9N a1).bind fun r2 =>
 if (!r2) = true then
 (Zay)
 else
 (if (decide (a1.Lo < (IntKind.i64.wrap (x3 + 2)))) = true then
 (Zay)
 else
 (Zaz x6 x7 x8 a1))
theorem ZlY x3 (x6 : List Zi) x7 x8 ox6 : Sim (ZW) (Zax x3 x6 x7 x8) (ZyU 0 (iv x3) (ZK ox6 (x6.map Zy)) (iv x7) (iv x8) []) := by
 unfold Zax
 refine zf (ZG8 ..)<|ze<|zi fun a1 ha1 => ?_
 refine zo (.cptr (Z18 a1)) ?_ (et_ (Z3G (o := ox6) (k := .i64) (n := 2) (e := Zy) (cs := Z9W) (fun _ => rfl) (fun _ => rfl) (by decide) ha1))
 refine zq<|zz (.ptr 0 0) [(Z3e (Zi.mk 0 0))]<|zt [(Z3e a1)]<|ze<|zq<|zi fun r2 hr2 => ?_
 obtain ⟨_, er2, _, rfl⟩ := ZgV a1 r2 hr2
 refine zc [] (bv r2) [(Z3e a1)] er2<|zq ?_
 refine za (!r2) ?_ ?_
 ·exact zk (ZeN )
 ·refine zq<|zq<|zq<|zq ?_
  refine za (decide (a1.Lo < (IntKind.i64.wrap (x3 + 2)))) ?_ ?_
  ·exact zk (ZeN )
  ·exact zk (ZlZ x6 x7 x8 a1 ox6)
def Zdm  : Option (Bool) :=
 some (true)
theorem Zm1  : Sim (ZW) (Zdm) (ZyX 0  []) := by
 unfold Zdm
 refine zf (ZGc ..)<|ze ?_
 exact zr ((bv true), []) ⟨_, rfl⟩
def Z8w (x3 : Int) (x6 : List Zi) (x7 x8 : Int) : Option (Bool) :=
 if (decide (x8 < x7)) = true then
 (Zax x3 x6 x7 x8)
 else
 (Zdm)
theorem ZlX x3 (x6 : List Zi) x7 x8 ox6 : Sim (ZW) (Z8w x3 x6 x7 x8) (Zp7 0 (iv x3) (ZK ox6 (x6.map Zy)) (iv x7) (iv x8) []) := by
 unfold Z8w
 refine zf (ZG7 ..)<|ze<|zq ?_
 refine za (decide (x8 < x7)) ?_ ?_
 ·exact zk (ZlY x3 x6 x7 x8 ox6)
 ·exact zk (Zm1 )
theorem Zf2 x3 x6 x7 x8 {r} (h : Z8w x3 x6 x7 x8 = some r) : Z8K x3 x6 x7 x8 = some r :=
 Z1c (fun _ _ ha hb => RRun.uniq Z2d (ha .ex) (hb .ex)) (fun ox6 => ZlX x3 x6 x7 x8 ox6 r h)
def ZeG (x0 : List Zi) : Option (List Zi) :=
 Zan ([] : List Zi) 0 x0 (x0.length : Int) 0
theorem Zs2 (x0 : List Zi) ox0 : Sim (Z4N) (ZeG x0) (EE 171 [(ZK ox0 (x0.map Zy))] []) := by
 unfold ZeG
 refine zf (ZMR ..)<|ze<|ze<|ze<|ze ?_
 refine zo (iv (x0.length : Int)) ?_ (et_ (Z2J (P := PP) (t := 95) (d := 201) (by kernel_rfl) Zy (shrO ox0) x0))
 exact zk (Zin ([] : List Zi) 0 x0 (x0.length : Int) 0 .nl (shrO ox0) rfl)
theorem ZsY x0 {r} (h : ZeG x0 = some r) : ZeO x0 = some r :=
 Z1c (fun _ _ ha hb => RRun.uniq ZdM (ha .ex) (hb .ex)) (fun ox0 => Zs2 x0 ox0 r h)
def Zcr (x3 : List Zi) (x4 : Int) (x7 : List Zi) (x8 x9 : Int) : Option (List Zi) :=
 Zan x3 x4 x7 x8 (IntKind.i64.wrap (x9 + 1))
theorem Zoj (x3 : List Zi) x4 (x7 : List Zi) x8 x9 ox3 ox7 (hox3 : ZR ox3 = true) : Sim (Z4N) (Zcr x3 x4 x7 x8 x9) (Zz2 0 (ZK ox3 (x3.map Zy)) (iv x4) (ZK ox7 (x7.map Zy)) (iv x8) (iv x9) []) := by
 unfold Zcr
 refine zf (ZGg ..)<|ze<|zq ?_
 exact zk (Zin x3 x4 x7 x8 (IntKind.i64.wrap (x9 + 1)) ox3 ox7 hox3)
def Z8x (x3 x7 : List Zi) (x8 x9 : Int) (b0 : Zi) : Option (List Zi) :=
 Zcr x3 (IntKind.i64.wrap (b0.Hi + 1)) x7 x8 x9
theorem ZgW (x3 x7 : List Zi) x8 x9 b0 ox3 ox7 (hox3 : ZR ox3 = true) : Sim (Z4N) (Z8x x3 x7 x8 x9 b0) (Zu8 0 (ZK ox3 (x3.map Zy)) (.ptr 0 0) (ZK ox7 (x7.map Zy)) (iv x8) (iv x9) [(Z3e b0)]) := by
 unfold Z8x
 refine zf (ZGf ..)<|ze<|zq<|zq<|zq ?_
 exact zk (Zoj x3 (IntKind.i64.wrap (b0.Hi + 1)) x7 x8 x9 ox3 ox7 hox3)
def Zcq (x3 : List Zi) (x4 : Int) (x7 : List Zi) (x8 x9 : Int) : Option (List Zi) :=
 (lget x7 x9).bind fun a1 =>
 if (decide (x4 < a1.Lo)) = true then
 ((lapp x3 ([(Zi.mk x4 (IntKind.i64.wrap (a1.Lo - 1)))] : List Zi)).bind fun a2 =>
 Z8x a2 x7 x8 x9 a1)
 else
 (Z8x x3 x7 x8 x9 a1)
theorem Zoi (x3 : List Zi) x4 (x7 : List Zi) x8 x9 ox3 ox7 (hox3 : ZR ox3 = true) : Sim (Z4N) (Zcq x3 x4 x7 x8 x9) (Zz1 0 (ZK ox3 (x3.map Zy)) (iv x4) (ZK ox7 (x7.map Zy)) (iv x8) (iv x9) []) := by
 unfold Zcq
 refine zf (ZGe ..)<|ze<|zi fun a1 ha1 => ?_
 refine zo (.cptr (Z18 a1)) ?_ (et_ (Z3G (o := ox7) (k := .i64) (n := 2) (e := Zy) (cs := Z9W) (fun _ => rfl) (fun _ => rfl) (by decide) ha1))
 refine zq<|zz (.ptr 0 0) [(Z3e (Zi.mk 0 0))]<|zt [(Z3e a1)]<|ze<|zq<|zq<|zq ?_
 refine za (decide (x4 < a1.Lo)) ?_ ?_
 ·refine ze<|zq<|zq<|zq<|zq<|zq<|zi fun a2 ha2 => ?_
  refine zo (ZK .un (a2.map Zy)) ?_ (Eq.trans (by kernel_rfl) <| ZiB (n := 2) (o := ox3) (o' := .ex) (e := Zy) (ys := ([(Zi.mk x4 (IntKind.i64.wrap (a1.Lo - 1)))] : List Zi)) (fun _ => rfl) (by decide) hox3 ha2)
  exact zk (ZgW a2 x7 x8 x9 a1 .un ox7 rfl)
 ·exact zk (ZgW x3 x7 x8 x9 a1 ox3 ox7 hox3)
def Z87 (x3 : List Zi) : Option (List Zi) :=
 some (x3)
theorem Zgg (x3 : List Zi) ox3 (hox3 : ZR ox3 = true) : Sim (Z4N) (Z87 x3) (Zqw 0 (ZK ox3 (x3.map Zy)) []) := by
 unfold Z87
 refine zf (ZE2 ..)<|ze ?_
 exact zr ((ZK .sh (x3.map Zy)), []) ⟨_, rfl⟩
def ZbY (x3 : List Zi) (x4 : Int) : Option (List Zi) :=
 if (decide (x4 ≤ 1114367)) = true then
 ((lapp x3 ([(Zi.mk x4 1114367)] : List Zi)).bind fun a1 =>
 Z87 a1)
 else
 (Z87 x3)
theorem Znq (x3 : List Zi) x4 ox3 (hox3 : ZR ox3 = true) : Sim (Z4N) (ZbY x3 x4) (Zvm 0 (ZK ox3 (x3.map Zy)) (iv x4) []) := by
 unfold ZbY
 refine zf (ZE1 ..)<|ze<|zq ?_
 refine za (decide (x4 ≤ 1114367)) ?_ ?_
 ·refine ze<|zq<|zq<|zi fun a1 ha1 => ?_
  refine zo (ZK .un (a1.map Zy)) ?_ (Eq.trans (by kernel_rfl) <| ZiB (n := 2) (o := ox3) (o' := .ex) (e := Zy) (ys := ([(Zi.mk x4 1114367)] : List Zi)) (fun _ => rfl) (by decide) hox3 ha1)
  exact zk (Zgg a1 .un rfl)
 ·exact zk (Zgg x3 ox3 hox3)
def Zai (x3 : List Zi) (x4 : Int) (x7 : List Zi) (x8 x9 : Int) : Option (List Zi) :=
 if (decide (x9 < x8)) = true then
 (Zcq x3 x4 x7 x8 x9)
 else
 (ZbY x3 x4)
theorem Zoh (x3 : List Zi) x4 (x7 : List Zi) x8 x9 ox3 ox7 (hox3 : ZR ox3 = true) : Sim (Z4N) (Zai x3 x4 x7 x8 x9) (Zp8 0 (ZK ox3 (x3.map Zy)) (iv x4) (ZK ox7 (x7.map Zy)) (iv x8) (iv x9) []) := by
 unfold Zai
 refine zf (ZGd ..)<|ze<|zq ?_
 refine za (decide (x9 < x8)) ?_ ?_
 ·exact zk (Zoi x3 x4 x7 x8 x9 ox3 ox7 hox3)
 ·exact zk (Znq x3 x4 ox3 hox3)
theorem Zim x3 x4 x7 x8 x9 {r} (h : Zai x3 x4 x7 x8 x9 = some r) : Zan x3 x4 x7 x8 x9 = some r :=
 Z1c (fun _ _ ha hb => RRun.uniq ZdM (ha .ex .ex rfl) (hb .ex .ex rfl)) (fun ox3 ox7 hox3 => Zoh x3 x4 x7 x8 x9 ox3 ox7 hox3 r h)
def Z6J (x1 x5 zn : Int) (zh : List Zv) (z2 z6 : Int) : Option (Zj × Int × (List Zv) × Int × Int) :=
 (lapp zh ([(Zv.mk (IntKind.i64.wrap (x5 - 48)) x1)] : List Zv)).bind fun a1 =>
 some ((Zj.mk 6 0 0 0 (IntKind.i64.wrap (x5 - 48)) ([] : List Zi) ([] : List Zj)), zn, a1, z2, z6)
theorem ZjH x1 x5 zl zn z7 zd zh z2 z6 b1 zp zb zN zG (zu : ZR zb = true) (z1t : ZR zN = true) (z1h : ZR zG = true) : Sim (Z5M zl z7 zd zp) (Z6J x1 x5 zn zh z2 z6) (Zvd 1 (.ptr 0 0) (iv x1) (.ptr 1 0) (iv x5) [(ZU zl zn z7 zd zh z2 z6 zp zb), (Zq b1 zN zG)]) := by
 unfold Z6J
 refine zf (ZDG ..)<|ze<|zq<|zq<|zw (ZK zb (zh.map Z3C)) [(ZU zl zn z7 zd zh z2 z6 zp (shrO zb)), (Zq b1 zN zG)]<|zq<|zq<|zq<|zi fun a1 ha1 => ?_
 refine zo (ZK .un (a1.map Z3C)) ?_ (Eq.trans (by kernel_rfl) <| ZiB (n := 2) (o := zb) (o' := .ex) (e := Z3C) (ys := ([(Zv.mk (IntKind.i64.wrap (x5 - 48)) x1)] : List Zv)) (fun _ => rfl) (by decide) zu ha1)
 refine zq<|zq<|zt [(ZU zl zn z7 zd a1 z2 z6 zp .un), (Zq b1 zN zG)]<|ze<|zq<|zq<|zt [(ZU zl zn z7 zd a1 z2 z6 zp .un), (Z3t 6 0 0 0 (IntKind.i64.wrap (x5 - 48)) ([] : List Zi) ([] : List Zj) .nl .nl)] ?_
 exact zr ((pA_ (ZO (Zj.mk 6 0 0 0 (IntKind.i64.wrap (x5 - 48)) ([] : List Zi) ([] : List Zj)) .sh .sh)), [(ZU zl zn z7 zd a1 z2 z6 zp .un), (Z3t 6 0 0 0 (IntKind.i64.wrap (x5 - 48)) ([] : List Zi) ([] : List Zj) .nl .nl)]) ⟨.un, _, rfl, rfl⟩
def Z4b (x1 x5 : Int) (zl : List Int) (zn z7 zd : Int) (zh : List Zv) (z2 z6 : Int) : Option (Zj × Int × (List Zv) × Int × Int) :=
 (Z9j x5 x1 zl zn z7 zd zh z2 z6).bind fun r1 =>
 (Z3b r1.1).bind fun r2 =>
 (Z54 false ([r2] : List Zi)).bind fun r3 =>
 some (r3, r1.2.1, zh, r1.2.2.1, r1.2.2.2)
theorem ZcZ x1 x5 zl zn z7 zd zh z2 z6 b1 zp zb zN zG (zu : ZR zb = true) (z1t : ZR zN = true) (z1h : ZR zG = true) : Sim (Z5M zl z7 zd zp) (Z4b x1 x5 zl zn z7 zd zh z2 z6) (Zqq 1 (.ptr 0 0) (iv x1) (.ptr 1 0) (iv x5) [(ZU zl zn z7 zd zh z2 z6 zp zb), (Zq b1 zN zG)]) := by
 unfold Z4b
 refine zf (ZDH ..)<|ze<|zi fun r1 hr1 => ?_
 obtain ⟨_, er1, _, rfl⟩ := Zgh x5 x1 zl zn z7 zd zh z2 z6 zp zb zu r1 hr1
 refine zc [0] (iv r1.1) [(ZU zl r1.2.1 z7 zd zh r1.2.2.1 r1.2.2.2 zp zb), (Zq b1 zN zG)] er1<|zi fun r2 hr2 => ?_
 obtain ⟨_, er2, _, rfl⟩ := Z2W r1.1 r2 hr2
 refine zc [] (pA_ (Z18 r2)) [(ZU zl r1.2.1 z7 zd zh r1.2.2.1 r1.2.2.2 zp zb), (Zq b1 zN zG)] er2<|zq<|zi fun r3 hr3 => ?_
 obtain ⟨_, er3, _, rfl⟩ := Z5i false ([r2] : List Zi) .sh r3 hr3
 refine zc [] (pA_ (ZO r3 .sh .sh)) [(ZU zl r1.2.1 z7 zd zh r1.2.2.1 r1.2.2.2 zp zb), (Zq b1 zN zG)] er3<|zt [(ZU zl r1.2.1 z7 zd zh r1.2.2.1 r1.2.2.2 zp zb), (Zq r3 .sh .sh)] ?_
 exact zr ((pA_ (ZO r3 .sh .sh)), [(ZU zl r1.2.1 z7 zd zh r1.2.2.1 r1.2.2.2 zp zb), (Zq r3 .sh .sh)]) ⟨zb, _, zu, rfl⟩
def Z4n (x1 x5 : Int) (zl : List Int) (zn z7 zd : Int) (zh : List Zv) (z2 z6 : Int) : Option (Zj × Int × (List Zv) × Int × Int) :=
 (Z49 zl zn).bind fun r1 =>
 (Z9r x5).bind fun r2 =>
 (nilO r2.1 r2.2).bind fun a3 =>
 if (!a3) = true then
 ((Z9r x5).bind fun r4 =>
 (Z54 (decide (x5 < 97)) r4.2).bind fun r5 =>
 some (r5, r1.2, zh, z2, z6))
 else
 (if (x5 == 98) = true then
 (some ((Zj.mk 9 0 0 0 2 ([] : List Zi) ([] : List Zj)), r1.2, zh, z2, z6))
 else
 (if (x5 == 66) = true then
 (some ((Zj.mk 9 0 0 0 3 ([] : List Zi) ([] : List Zj)), r1.2, zh, z2, z6))
 else
 (if (decide (49 ≤ x5)) = true then
 (if (decide (x5 ≤ 57)) = true then
 (Z6J x1 x5 r1.2 zh z2 z6)
 else
 (Z4b x1 x5 zl r1.2 z7 zd zh z2 z6))
 else
 (Z4b x1 x5 zl r1.2 z7 zd zh z2 z6))))
theorem Zkh x1 x5 zl zn z7 zd zh z2 z6 b1 zp zb zN zG (zu : ZR zb = true) (z1t : ZR zN = true) (z1h : ZR zG = true) : Sim (Z5M zl z7 zd zp) (Z4n x1 x5 zl zn z7 zd zh z2 z6) (Zyh 1 (.ptr 0 0) (iv x1) (.ptr 1 0) (iv x5) [(ZU zl zn z7 zd zh z2 z6 zp zb), (Zq b1 zN zG)]) := by
 unfold Z4n
 refine zf (ZFI ..)<|ze<|zi fun r1 hr1 => ?_
 obtain ⟨_, er1, _, rfl⟩ := Z4J zl zn z7 zd zh z2 z6 zp zb zu r1 hr1
 refine zc [0] (iv r1.1) [(ZU zl r1.2 z7 zd zh z2 z6 zp zb), (Zq b1 zN zG)] er1<|ze<|zi fun r2 hr2 => ?_
 obtain ⟨_, er2, _, rfl⟩ := Zea x5 r2 hr2
 refine zc [] (ZK r2.1 (r2.2.map Zy)) [(ZU zl r1.2 z7 zd zh z2 z6 zp zb), (Zq b1 zN zG)] er2<|zi fun a3 ha3 => ?_
 refine zo (bv (!a3)) ?_ (et_ (ZrQ (P := PP) (t := 94) (c := .slice none 0 0) (e := Zy) (by kernel_rfl) ha3))
 refine za (!a3) ?_ ?_
 ·refine ze<|zq<|zi fun r4 hr4 => ?_
  obtain ⟨_, er4, _, rfl⟩ := Zea x5 r4 hr4
  refine zc [] (ZK r4.1 (r4.2.map Zy)) [(ZU zl r1.2 z7 zd zh z2 z6 zp zb), (Zq b1 zN zG)] er4<|zi fun r5 hr5 => ?_
  obtain ⟨_, er5, _, rfl⟩ := Z5i (decide (x5 < 97)) r4.2 .sh r5 hr5
  refine zc [] (pA_ (ZO r5 .sh .sh)) [(ZU zl r1.2 z7 zd zh z2 z6 zp zb), (Zq b1 zN zG)] er5<|zt [(ZU zl r1.2 z7 zd zh z2 z6 zp zb), (Zq r5 .sh .sh)] ?_
  exact zr ((pA_ (ZO r5 .sh .sh)), [(ZU zl r1.2 z7 zd zh z2 z6 zp zb), (Zq r5 .sh .sh)]) ⟨zb, _, zu, rfl⟩
 ·refine ze<|zq ?_
  refine za (x5 == 98) ?_ ?_
  ·refine ze<|zq<|zt [(ZU zl r1.2 z7 zd zh z2 z6 zp zb), (Z3t 9 0 0 0 2 ([] : List Zi) ([] : List Zj) .nl .nl)] ?_
   exact zr ((pA_ (ZO (Zj.mk 9 0 0 0 2 ([] : List Zi) ([] : List Zj)) .sh .sh)), [(ZU zl r1.2 z7 zd zh z2 z6 zp zb), (Z3t 9 0 0 0 2 ([] : List Zi) ([] : List Zj) .nl .nl)]) ⟨zb, _, zu, rfl⟩
  ·refine ze<|zq ?_
   refine za (x5 == 66) ?_ ?_
   ·refine ze<|zq<|zt [(ZU zl r1.2 z7 zd zh z2 z6 zp zb), (Z3t 9 0 0 0 3 ([] : List Zi) ([] : List Zj) .nl .nl)] ?_
    exact zr ((pA_ (ZO (Zj.mk 9 0 0 0 3 ([] : List Zi) ([] : List Zj)) .sh .sh)), [(ZU zl r1.2 z7 zd zh z2 z6 zp zb), (Z3t 9 0 0 0 3 ([] : List Zi) ([] : List Zj) .nl .nl)]) ⟨zb, _, zu, rfl⟩
   ·refine ze<|zq ?_
    refine za (decide (49 ≤ x5)) ?_ ?_
    ·refine zq ?_
     refine za (decide (x5 ≤ 57)) ?_ ?_
     ·exact zk (ZjH x1 x5 zl r1.2 z7 zd zh z2 z6 b1 zp zb zN zG zu z1t z1h)
     ·exact zk (ZcZ x1 x5 zl r1.2 z7 zd zh z2 z6 b1 zp zb zN zG zu z1t z1h)
    ·exact zk (ZcZ x1 x5 zl r1.2 z7 zd zh z2 z6 b1 zp zb zN zG zu z1t z1h)
def Z72 (x1 : Int) (zl : List Int) (zn z7 zd : Int) (zh : List Zv) (z2 z6 : Int) : Option (Zj × Int × (List Zv) × Int × Int) :=
 (Z3n (Z23.mk zl zn z7 zd zh (Z1n.mk z2 z6))).bind fun r1 =>
 if (decide (r1 < 0)) = true then
 ((Z1A 21 x1 zl z2 z6).bind fun r2 =>
 some ((Zj.mk 0 0 0 0 0 ([] : List Zi) ([] : List Zj)), r2.1, zh, r2.2.1, r2.2.2))
 else
 (Z4n x1 r1 zl zn z7 zd zh z2 z6)
theorem Zme x1 zl zn z7 zd zh z2 z6 zp zb (zu : ZR zb = true) : Sim (Z5M zl z7 zd zp) (Z72 x1 zl zn z7 zd zh z2 z6) (EE 130 [(.ptr 0 0), (iv x1)] [(ZU zl zn z7 zd zh z2 z6 zp zb)]) := by
 unfold Z72
 refine zf (ZMc ..)<|ze<|zz (.ptr 1 0) [(ZU zl zn z7 zd zh z2 z6 zp zb), (Zq Z2c .nl .nl)]<|ze<|zi fun r1 hr1 => ?_
 obtain ⟨_, er1, _, rfl⟩ := Z3w (Z23.mk zl zn z7 zd zh (Z1n.mk z2 z6)) zp zb zu r1 hr1
 refine zc [0] (iv r1) [(ZU zl zn z7 zd zh z2 z6 zp zb), (Zq Z2c .nl .nl)] er1<|ze<|zq ?_
 refine za (decide (r1 < 0)) ?_ ?_
 ·refine ze<|zi fun r2 hr2 => ?_
  obtain ⟨_, er2, _, rfl⟩ := Z1G 21 x1 zl zn z7 zd zh z2 z6 zp zb zu r2 hr2
  refine zc [0] (.p (.tup [])) [(ZU zl r2.1 z7 zd zh r2.2.1 r2.2.2 zp zb), (Zq Z2c .nl .nl)] er2<|ze<|zq<|zt [(ZU zl r2.1 z7 zd zh r2.2.1 r2.2.2 zp zb), (Zq Z2c .nl .nl)] ?_
  exact zr ((pA_ (ZO Z2c .sh .sh)), [(ZU zl r2.1 z7 zd zh r2.2.1 r2.2.2 zp zb), (Zq Z2c .nl .nl)]) ⟨zb, _, zu, rfl⟩
 ·exact zk (Zkh x1 r1 zl zn z7 zd zh z2 z6 Z2c zp zb .nl .nl zu rfl rfl)
theorem ZmX x1 zl zn z7 zd zh z2 z6 {r} (h : Z72 x1 zl zn z7 zd zh z2 z6 = some r) : Z5W x1 zl zn z7 zd zh z2 z6 = some r :=
 Z1c (fun _ _ ha hb => RRun.uniq (Znn _ _ _ _) (ha .ex .ex rfl) (hb .ex .ex rfl)) (fun zp zb zu => Zme x1 zl zn z7 zd zh z2 z6 zp zb zu r h)
end Go.Proofs.YteoeggbihfnbfaaGreatDoor.N2
end
