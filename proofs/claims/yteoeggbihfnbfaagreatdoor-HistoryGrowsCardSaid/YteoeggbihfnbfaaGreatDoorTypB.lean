/- The functions' typed texts. No condition. -/
import Derived.Test.YteoeggbihfnbfaaGreatDoorTypA

set_option linter.unusedSimpArgs false
set_option linter.unusedVariables false
set_option linter.defProp false
noncomputable section
namespace Go.Proofs.YteoeggbihfnbfaaGreatDoor.N2
open Go Go.Abs
set_option maxRecDepth 100000
def Z5a : Option Bool :=
 some true
theorem ZaF : Sim ZZ Z5a (ZAD 0 []) := by
 unfold Z5a
 refine zf (ZKB ..)<|ze ?_
 exact zr ((bv true), []) ⟨_, rfl⟩
def Z6p (x0 : List Z16) : Option Bool :=
 (Zer).bind fun r1 =>
 Z5d ([] : List ZU) x0 (x0.length : Int) 0 r1.1 r1.2.1 r1.2.2
theorem ZfZ (x0 : List Z16) ox0 : Sim ZZ (Z6p x0) (ZGX 0 (ZM ox0 (x0.map Z2a)) []) := by
 unfold Z6p
 refine zf (ZKC ..)<|ze<|zi fun r1 hr1 => ?_
 obtain ⟨_, er1, zmE, _, zvN, rfl, _⟩ := ZmX r1 hr1
 refine zc [] (.ptr 1 0) [(rM_ ZF r1.1), [(ZM zmE (r1.2.1.map ZL)), (.mp 0), (iv r1.2.2)]] er1<|ze<|ze<|zp (iv (x0.length : Int)) (et_ (Z2O (P := PP) (t := 59) (d := 61) (by kernel_rfl) Z2a (shrO ox0) x0)) ?_
 exact zk (ZaV ([] : List ZU) x0 (x0.length : Int) 0 r1.1 r1.2.1 r1.2.2 .nl (shrO ox0) zmE rfl zvN)
def Z6o (x0 : List Z16) : Option Bool :=
 (Z9D x0).bind fun r1 =>
 if (!r1) = true then
 Z5a
 else
 (if (decide (16 < (x0.length : Int))) = true then
 Z5a
 else
 (Z6p x0))
theorem ZfY (x0 : List Z16) ox0 : Sim ZZ (Z6o x0) (ZGW 0 (ZM ox0 (x0.map Z2a)) []) := by
 unfold Z6o
 refine zf (ZKA ..)<|ze<|zi fun r1 hr1 => ?_
 obtain ⟨_, er1, _, rfl⟩ := ZlH x0 .sh r1 hr1
 refine zc [] (bv r1) [] er1<|zq ?_
 refine za (!r1) ?_ ?_
 ·exact zk ZaF
 ·refine zp (iv (x0.length : Int)) (et_ (Z2O (P := PP) (t := 59) (d := 61) (by kernel_rfl) Z2a (shrO ox0) x0))<|zq ?_
  refine za (decide (16 < (x0.length : Int))) ?_ ?_
  ·exact zk ZaF
  ·exact zk (ZfZ x0 ox0)
def Z7C (x0 : List Z16) : Option Bool :=
 (Zad).bind fun r1 =>
 if (!r1) = true then
 (some false)
 else
 (Z6o x0)
theorem ZhU (x0 : List Z16) ox0 : Sim ZZ (Z7C x0) (EE 9 [(ZM ox0 (x0.map Z2a))] []) := by
 unfold Z7C
 refine zf (ZPS ..)<|ze<|ze<|zi fun r1 hr1 => ?_
 obtain ⟨_, er1, _, rfl⟩ := Zm8 r1 hr1
 refine zc [] (bv r1) [] er1<|zq ?_
 refine za (!r1) ?_ ?_
 ·refine ze ?_
  exact zr ((bv false), []) ⟨_, rfl⟩
 ·exact zk (ZfY x0 ox0)
theorem ZiC x0 {r} (h : Z7C x0 = some r) : Z9W x0 = some r :=
 Z1f (fun _ _ ha hb => ru_ Z2k (ha .ex) (hb .ex)) (fun ox0 => ZhU x0 ox0 r h)
def Z32 (x4 : List ZU) (x31 : List Z16) (x32 x33 : Int) (zP : List (Int × Z19)) (zV : List ZD) (z2v : Int) : Option Bool :=
 Z5d x4 x31 x32 (IntKind.i64.wrap (x33 + 1)) zP zV z2v
theorem Z5v (x4 : List ZU) (x31 : List Z16) x32 x33 zP (zV : List ZD) z2v ox4 ox31 z2h (hox4 : ZW ox4 = true) (z3Q : ZW z2h = true) : Sim ZZ (Z32 x4 x31 x32 x33 zP zV z2v) (Zpw 0 (.ptr 1 0) (ZM ox4 (x4.map Z2o)) (ZM ox31 (x31.map Z2a)) (iv x32) (iv x33) [(rM_ ZF zP), [(ZM z2h (zV.map ZL)), (.mp 0), (iv z2v)]]) := by
 unfold Z32
 refine zf (ZJs ..)<|ze<|zq ?_
 exact zk (ZaV x4 x31 x32 (IntKind.i64.wrap (x33 + 1)) zP zV z2v ox4 ox31 z2h hox4 z3Q)
def Z3H : Option Bool :=
 some false
theorem Z4r : Sim ZZ Z3H (ZmW 0 []) := by
 unfold Z3H
 refine zf (ZJp ..)<|ze ?_
 exact zr ((bv false), []) ⟨_, rfl⟩
def Z6a (x4 : List ZU) (x31 : List Z16) (x32 x33 : Int) (zP : List (Int × Z19)) (zV : List ZD) (z2v : Int) (b5 : ZD) : Option Bool :=
 (Z7v b5).bind fun r1 =>
 (lapp x4 ([r1] : List ZU)).bind fun a2 =>
 Z32 a2 x31 x32 x33 zP zV z2v
theorem Zf8 (x4 : List ZU) (x31 : List Z16) x32 x33 zP (zV : List ZD) z2v b2 b3 b4 b5 ox4 ox31 z2h z1T z1R z12 zto (hox4 : ZW ox4 = true) (z3Q : ZW z2h = true) : Sim ZZ (Z6a x4 x31 x32 x33 zP zV z2v b5) (ZCh 0 (.ptr 1 0) (ZM ox4 (x4.map Z2o)) (.ptr 5 0) (ZM ox31 (x31.map Z2a)) (iv x32) (iv x33) [(rM_ ZF zP), [(ZM z2h (zV.map ZL)), (.mp 0), (iv z2v)], (Z1a b2 z1T z1R), (Zw b3 z12), (ZG b4), (Zw b5 zto)]) := by
 unfold Z6a
 refine zf (ZJq ..)<|ze<|zq<|zi fun r1 hr1 => ?_
 obtain ⟨_, er1, _, rfl⟩ := ZaG b5 .sh r1 hr1
 refine zc [] (pA_ (Z34 r1 .sh)) [(rM_ ZF zP), [(ZM z2h (zV.map ZL)), (.mp 0), (iv z2v)], (Z1a b2 z1T z1R), (Zw b3 z12), (ZG b4), (Zw b5 zto)] er1<|zq<|zi fun a2 ha2 => zp (ZM .un (a2.map Z2o)) (Eq.trans (by kernel_rfl) <| Zgk (n := 5) (o := ox4) (o' := .ex) (e := Z2o) (ys := ([r1] : List ZU)) (fun _ => rfl) (by decide) hox4 ha2) ?_
 exact zk (Z5v a2 x31 x32 x33 zP zV z2v .un ox31 z2h rfl z3Q)
def Z4Y : Option Bool :=
 some false
theorem Z7t : Sim ZZ Z4Y (ZsV 0 []) := by
 unfold Z4Y
 refine zf (ZJr ..)<|ze ?_
 exact zr ((bv false), []) ⟨_, rfl⟩
def Z4X (x4 : List ZU) (x7 : Int) (x31 : List Z16) (x32 x33 : Int) (zP : List (Int × Z19)) (zV : List ZD) (z2v : Int) (b2 : Z16) (b3 : ZD) (b4 : Z1k) : Option Bool :=
 (Z3g zV).bind fun r1 =>
 (Z5J r1 zV).bind fun r2 =>
 (ZbR b3 b2.Delta).bind fun r3 =>
 if (b4.Verdict.Code == 0) = true then
 (if (b4.Version != (IntKind.i64.wrap (x7 + 1))) = true then
 Z3H
 else
 ((Z3g zV).bind fun r4 =>
 if (r4 != (IntKind.i64.wrap (x7 + 1))) = true then
 Z3H
 else
 (if (!r2.2) = true then
 Z3H
 else
 (if (r3.2.Code != 0) = true then
 Z3H
 else
 ((Z7v r3.1).bind fun r5 =>
 (Z7v r2.1).bind fun r6 =>
 (ZdG r5 r6).bind fun r7 =>
 if (!r7) = true then
 Z3H
 else
 (Z6a x4 x31 x32 x33 zP zV z2v r2.1))))))
 else
 ((Z3g zV).bind fun r8 =>
 if (r8 != x7) = true then
 Z4Y
 else
 (if (b4.Version != 0) = true then
 Z4Y
 else
 (if (b4.Verdict.Code != 31) = true then
 (if ((!((b4.Verdict.Code == r3.2.Code) && ((b4.Verdict.Rule == r3.2.Rule) && ((b4.Verdict.At == r3.2.At) && true))))) = true then
 Z4Y
 else
 (Z32 x4 x31 x32 x33 zP zV z2v))
 else
 (Z32 x4 x31 x32 x33 zP zV z2v))))
theorem Zf7 (x4 : List ZU) x7 (x31 : List Z16) x32 x33 zP (zV : List ZD) z2v b2 b3 b4 ox4 ox31 z2h z1T z1R z12 (hox4 : ZW ox4 = true) (z3Q : ZW z2h = true) : Sim ZZ (Z4X x4 x7 x31 x32 x33 zP zV z2v b2 b3 b4) (ZCg 0 (.ptr 1 0) (ZM ox4 (x4.map Z2o)) (.ptr 2 0) (iv x7) (.ptr 3 0) (.ptr 4 0) (ZM ox31 (x31.map Z2a)) (iv x32) (iv x33) [(rM_ ZF zP), [(ZM z2h (zV.map ZL)), (.mp 0), (iv z2v)], (Z1a b2 z1T z1R), (Zw b3 z12), (ZG b4)]) := by
 unfold Z4X
 refine zf (ZJo ..)<|ze<|zi fun r1 hr1 => ?_
 obtain ⟨_, er1, _, rfl⟩ := Z4i zV z2v zP z2h z3Q r1 hr1
 refine zc [1, 0] (iv r1) [(rM_ ZF zP), [(ZM z2h (zV.map ZL)), (.mp 0), (iv z2v)], (Z1a b2 z1T z1R), (Zw b3 z12), (ZG b4)] er1<|zi fun r2 hr2 => ?_
 obtain ⟨_, er2, _, rfl⟩ := Z9X r1 zV z2v zP z2h z3Q r2 hr2
 refine zc [1, 0] (.p (.tup [(.agg (Z1q r2.1 .sh)), (.v (.bool r2.2))])) [(rM_ ZF zP), [(ZM z2h (zV.map ZL)), (.mp 0), (iv z2v)], (Z1a b2 z1T z1R), (Zw b3 z12), (ZG b4)] er2<|zq<|zq<|zz (.ptr 5 0) [(rM_ ZF zP), [(ZM z2h (zV.map ZL)), (.mp 0), (iv z2v)], (Z1a b2 z1T z1R), (Zw b3 z12), (ZG b4), (Zw Z40 .nl)]<|zt [(rM_ ZF zP), [(ZM z2h (zV.map ZL)), (.mp 0), (iv z2v)], (Z1a b2 z1T z1R), (Zw b3 z12), (ZG b4), (Zw r2.1 .sh)]<|ze<|zq<|zq<|zq<|zi fun r3 hr3 => ?_
 obtain ⟨_, er3, _, rfl⟩ := Zk3 b3 b2.Delta .sh .sh .sh r3 hr3
 refine zc [] (.p (.tup [(.agg (Z1q r3.1 .sh)), (.agg (Z1M r3.2))])) [(rM_ ZF zP), [(ZM z2h (zV.map ZL)), (.mp 0), (iv z2v)], (Z1a b2 z1T z1R), (Zw b3 z12), (ZG b4), (Zw r2.1 .sh)] er3<|zq<|zq<|zz (.ptr 6 0) [(rM_ ZF zP), [(ZM z2h (zV.map ZL)), (.mp 0), (iv z2v)], (Z1a b2 z1T z1R), (Zw b3 z12), (ZG b4), (Zw r2.1 .sh), (Zw Z40 .nl)]<|zz (.ptr 7 0) [(rM_ ZF zP), [(ZM z2h (zV.map ZL)), (.mp 0), (iv z2v)], (Z1a b2 z1T z1R), (Zw b3 z12), (ZG b4), (Zw r2.1 .sh), (Zw Z40 .nl), (Z15 Z71)]<|zt [(rM_ ZF zP), [(ZM z2h (zV.map ZL)), (.mp 0), (iv z2v)], (Z1a b2 z1T z1R), (Zw b3 z12), (ZG b4), (Zw r2.1 .sh), (Zw r3.1 .sh), (Z15 Z71)]<|zt [(rM_ ZF zP), [(ZM z2h (zV.map ZL)), (.mp 0), (iv z2v)], (Z1a b2 z1T z1R), (Zw b3 z12), (ZG b4), (Zw r2.1 .sh), (Zw r3.1 .sh), (Z15 r3.2)]<|ze<|zq<|zq<|zq<|zq ?_
 refine za (b4.Verdict.Code == 0) ?_ ?_
 ·refine ze<|zq<|zq<|zq<|zq ?_
  refine za (b4.Version != (IntKind.i64.wrap (x7 + 1))) ?_ ?_
  ·refine zg ?_
   exact zk Z4r
  ·refine zi fun r4 hr4 => ?_
   obtain ⟨_, er4, _, rfl⟩ := Z4i zV z2v zP z2h z3Q r4 hr4
   refine zc [1, 0] (iv r4) [(rM_ ZF zP), [(ZM z2h (zV.map ZL)), (.mp 0), (iv z2v)], (Z1a b2 z1T z1R), (Zw b3 z12), (ZG b4), (Zw r2.1 .sh), (Zw r3.1 .sh), (Z15 r3.2)] er4<|zq<|zq ?_
   refine za (r4 != (IntKind.i64.wrap (x7 + 1))) ?_ ?_
   ·refine zg ?_
    exact zk Z4r
   ·refine zq ?_
    refine za (!r2.2) ?_ ?_
    ·refine zg ?_
     exact zk Z4r
    ·refine zq<|zq<|zq ?_
     refine za (r3.2.Code != 0) ?_ ?_
     ·refine zg ?_
      exact zk Z4r
     ·refine zq<|zi fun r5 hr5 => ?_
      obtain ⟨_, er5, _, rfl⟩ := ZaG r3.1 .sh r5 hr5
      refine zc [] (pA_ (Z34 r5 .sh)) [(rM_ ZF zP), [(ZM z2h (zV.map ZL)), (.mp 0), (iv z2v)], (Z1a b2 z1T z1R), (Zw b3 z12), (ZG b4), (Zw r2.1 .sh), (Zw r3.1 .sh), (Z15 r3.2)] er5<|zq<|zi fun r6 hr6 => ?_
      obtain ⟨_, er6, _, rfl⟩ := ZaG r2.1 .sh r6 hr6
      refine zc [] (pA_ (Z34 r6 .sh)) [(rM_ ZF zP), [(ZM z2h (zV.map ZL)), (.mp 0), (iv z2v)], (Z1a b2 z1T z1R), (Zw b3 z12), (ZG b4), (Zw r2.1 .sh), (Zw r3.1 .sh), (Z15 r3.2)] er6<|zi fun r7 hr7 => ?_
      obtain ⟨_, er7, _, rfl⟩ := Zo4 r5 r6 .sh .sh r7 hr7
      refine zc [] (bv r7) [(rM_ ZF zP), [(ZM z2h (zV.map ZL)), (.mp 0), (iv z2v)], (Z1a b2 z1T z1R), (Zw b3 z12), (ZG b4), (Zw r2.1 .sh), (Zw r3.1 .sh), (Z15 r3.2)] er7<|zq<|zg ?_
      refine za (!r7) ?_ ?_
      ·exact zk Z4r
      ·exact zk (Zf8 x4 x31 x32 x33 zP zV z2v b2 b3 b4 r2.1 ox4 ox31 z2h z1T z1R z12 .sh hox4 z3Q)
 ·refine ze<|zi fun r8 hr8 => ?_
  obtain ⟨_, er8, _, rfl⟩ := Z4i zV z2v zP z2h z3Q r8 hr8
  refine zc [1, 0] (iv r8) [(rM_ ZF zP), [(ZM z2h (zV.map ZL)), (.mp 0), (iv z2v)], (Z1a b2 z1T z1R), (Zw b3 z12), (ZG b4), (Zw r2.1 .sh), (Zw r3.1 .sh), (Z15 r3.2)] er8<|zq ?_
  refine za (r8 != x7) ?_ ?_
  ·exact zk Z7t
  ·refine zq<|zq<|zq ?_
   refine za (b4.Version != 0) ?_ ?_
   ·exact zk Z7t
   ·refine zq<|zq<|zq<|zq ?_
    refine za (b4.Verdict.Code != 31) ?_ ?_
    ·refine zq<|zq<|zq<|zp (bv (!((b4.Verdict.Code == r3.2.Code) && ((b4.Verdict.Rule == r3.2.Rule) && ((b4.Verdict.At == r3.2.At) && true))))) (Eq.trans (b := xbin PP .neq 32 (pA_ (Z1M b4.Verdict)) (pA_ (Z1M r3.2))) (by kernel_rfl) (ZF3 (by kernel_rfl) (by kernel_rfl) (by kernel_rfl) (by kernel_rfl) (by kernel_rfl))) ?_
     refine za ((!((b4.Verdict.Code == r3.2.Code) && ((b4.Verdict.Rule == r3.2.Rule) && ((b4.Verdict.At == r3.2.At) && true))))) ?_ ?_
     ·exact zk Z7t
     ·exact zk (Z5v x4 x31 x32 x33 zP zV z2v ox4 ox31 z2h hox4 z3Q)
    ·exact zk (Z5v x4 x31 x32 x33 zP zV z2v ox4 ox31 z2h hox4 z3Q)
def Z6q (x4 : List ZU) (x31 : List Z16) (x32 x33 : Int) (zP : List (Int × Z19)) (zV : List ZD) (z2v : Int) : Option Bool :=
 (lget x31 x33).bind fun a1 =>
 (Z3g zV).bind fun r2 =>
 (Z5J r2 zV).bind fun r3 =>
 (Z4e a1 zV z2v zP).bind fun r4 =>
 if (r4.2.1 != 0) = true then
 (Z32 x4 x31 x32 x33 r4.2.2.2.2 r4.2.2.1 r4.2.2.2.1)
 else
 (Z4X x4 r2 x31 x32 x33 r4.2.2.2.2 r4.2.2.1 r4.2.2.2.1 a1 r3.1 r4.1)
theorem Zg0 (x4 : List ZU) (x31 : List Z16) x32 x33 zP (zV : List ZD) z2v ox4 ox31 z2h (hox4 : ZW ox4 = true) (z3Q : ZW z2h = true) : Sim ZZ (Z6q x4 x31 x32 x33 zP zV z2v) (ZGY 0 (.ptr 1 0) (ZM ox4 (x4.map Z2o)) (ZM ox31 (x31.map Z2a)) (iv x32) (iv x33) [(rM_ ZF zP), [(ZM z2h (zV.map ZL)), (.mp 0), (iv z2v)]]) := by
 unfold Z6q
 refine zf (ZKD ..)<|ze<|zi fun a1 ha1 => zp (.cptr (Z4m a1 .sh .sh)) (et_ (Z3E (o := ox31) (k := .i64) (n := 9) (e := Z2a) (cs := Zck) (fun _ => rfl) (fun _ => rfl) (by decide) ha1))<|zq<|zz (.ptr 2 0) [(rM_ ZF zP), [(ZM z2h (zV.map ZL)), (.mp 0), (iv z2v)], (Z1a ZLv .nl .nl)]<|zt [(rM_ ZF zP), [(ZM z2h (zV.map ZL)), (.mp 0), (iv z2v)], (Z1a a1 .sh .sh)]<|ze<|zi fun r2 hr2 => ?_
 obtain ⟨_, er2, _, rfl⟩ := Z4i zV z2v zP z2h z3Q r2 hr2
 refine zc [1, 0] (iv r2) [(rM_ ZF zP), [(ZM z2h (zV.map ZL)), (.mp 0), (iv z2v)], (Z1a a1 .sh .sh)] er2<|ze<|zi fun r3 hr3 => ?_
 obtain ⟨_, er3, _, rfl⟩ := Z9X r2 zV z2v zP z2h z3Q r3 hr3
 refine zc [1, 0] (.p (.tup [(.agg (Z1q r3.1 .sh)), (.v (.bool r3.2))])) [(rM_ ZF zP), [(ZM z2h (zV.map ZL)), (.mp 0), (iv z2v)], (Z1a a1 .sh .sh)] er3<|zq<|zq<|zz (.ptr 3 0) [(rM_ ZF zP), [(ZM z2h (zV.map ZL)), (.mp 0), (iv z2v)], (Z1a a1 .sh .sh), (Zw Z40 .nl)]<|zt [(rM_ ZF zP), [(ZM z2h (zV.map ZL)), (.mp 0), (iv z2v)], (Z1a a1 .sh .sh), (Zw r3.1 .sh)]<|ze<|zq<|zi fun r4 hr4 => ?_
 obtain ⟨_, er4, zdJ, _, zCt, rfl⟩ := Z7J a1 zV z2v zP .sh .sh z2h z3Q r4 hr4
 refine zc [1, 0] (.p (.tup [(.agg (Z2e r4.1)), (.v (.int .i64 r4.2.1))])) [(rM_ ZF r4.2.2.2.2), [(ZM zdJ (r4.2.2.1.map ZL)), (.mp 0), (iv r4.2.2.2.1)], (Z1a a1 .sh .sh), (Zw r3.1 .sh)] er4<|zq<|zq<|zz (.ptr 4 0) [(rM_ ZF r4.2.2.2.2), [(ZM zdJ (r4.2.2.1.map ZL)), (.mp 0), (iv r4.2.2.2.1)], (Z1a a1 .sh .sh), (Zw r3.1 .sh), (ZG Za6)]<|zt [(rM_ ZF r4.2.2.2.2), [(ZM zdJ (r4.2.2.1.map ZL)), (.mp 0), (iv r4.2.2.2.1)], (Z1a a1 .sh .sh), (Zw r3.1 .sh), (ZG r4.1)]<|ze<|zq ?_
 refine za (r4.2.1 != 0) ?_ ?_
 ·exact zk (Z5v x4 x31 x32 x33 r4.2.2.2.2 r4.2.2.1 r4.2.2.2.1 ox4 ox31 zdJ hox4 zCt)
 ·exact zk (Zf7 x4 r2 x31 x32 x33 r4.2.2.2.2 r4.2.2.1 r4.2.2.2.1 a1 r3.1 r4.1 ox4 ox31 zdJ .sh .sh .sh hox4 zCt)
def Z6b (x4 : List ZU) (zV : List ZD) : Option Bool :=
 Z53 x4 x4 (x4.length : Int) 0 zV
theorem Zf9 (x4 : List ZU) zP (zV : List ZD) z2v ox4 z2h (hox4 : ZW ox4 = true) (z3Q : ZW z2h = true) : Sim ZZ (Z6b x4 zV) (ZCi 0 (.ptr 1 0) (ZM ox4 (x4.map Z2o)) [(rM_ ZF zP), [(ZM z2h (zV.map ZL)), (.mp 0), (iv z2v)]]) := by
 unfold Z6b
 refine zf (ZJt ..)<|ze<|zp (iv (x4.length : Int)) (et_ (Z2O (P := PP) (t := 72) (d := 40) (by kernel_rfl) Z2o (shrO ox4) x4)) ?_
 exact zk (ZaE x4 x4 (x4.length : Int) 0 zP zV z2v ox4 (shrO ox4) z2h hox4 z3Q)
def Z59 (x4 : List ZU) (x31 : List Z16) (x32 x33 : Int) (zP : List (Int × Z19)) (zV : List ZD) (z2v : Int) : Option Bool :=
 if (decide (x33 < x32)) = true then
 (Z6q x4 x31 x32 x33 zP zV z2v)
 else
 (Z6b x4 zV)
theorem ZfX (x4 : List ZU) (x31 : List Z16) x32 x33 zP (zV : List ZD) z2v ox4 ox31 z2h (hox4 : ZW ox4 = true) (z3Q : ZW z2h = true) : Sim ZZ (Z59 x4 x31 x32 x33 zP zV z2v) (Zx6 0 (.ptr 1 0) (ZM ox4 (x4.map Z2o)) (ZM ox31 (x31.map Z2a)) (iv x32) (iv x33) [(rM_ ZF zP), [(ZM z2h (zV.map ZL)), (.mp 0), (iv z2v)]]) := by
 unfold Z59
 refine zf (ZKz ..)<|ze<|zq ?_
 refine za (decide (x33 < x32)) ?_ ?_
 ·exact zk (Zg0 x4 x31 x32 x33 zP zV z2v ox4 ox31 z2h hox4 z3Q)
 ·exact zk (Zf9 x4 zP zV z2v ox4 z2h hox4 z3Q)
theorem ZaU x4 x31 x32 x33 zP zV z2v {r} (h : Z59 x4 x31 x32 x33 zP zV z2v = some r) : Z5d x4 x31 x32 x33 zP zV z2v = some r :=
 Z1f (fun _ _ ha hb => ru_ Z2k (ha .ex .ex .ex rfl rfl) (hb .ex .ex .ex rfl rfl)) (fun ox4 ox31 z2h hox4 z3Q => ZfX x4 x31 x32 x33 zP zV z2v ox4 ox31 z2h hox4 z3Q r h)
def Z4Z : Option Bool :=
 some false
theorem Z7u : Sim ZZ Z4Z (ZsW 0 []) := by
 unfold Z4Z
 refine zf (ZJv ..)<|ze ?_
 exact zr ((bv false), []) ⟨_, rfl⟩
def Z6d (x4 x129 : List ZU) (x130 x131 : Int) (zV : List ZD) : Option Bool :=
 Z53 x4 x129 x130 (IntKind.i64.wrap (x131 + 1)) zV
theorem Zfb (x4 x129 : List ZU) x130 x131 zP (zV : List ZD) z2v ox4 ox129 z2h (hox4 : ZW ox4 = true) (z3Q : ZW z2h = true) : Sim ZZ (Z6d x4 x129 x130 x131 zV) (ZCk 0 (.ptr 1 0) (ZM ox4 (x4.map Z2o)) (ZM ox129 (x129.map Z2o)) (iv x130) (iv x131) [(rM_ ZF zP), [(ZM z2h (zV.map ZL)), (.mp 0), (iv z2v)]]) := by
 unfold Z6d
 refine zf (ZJw ..)<|ze<|zq ?_
 exact zk (ZaE x4 x129 x130 (IntKind.i64.wrap (x131 + 1)) zP zV z2v ox4 ox129 z2h hox4 z3Q)
def Z6c (x4 x129 : List ZU) (x130 x131 : Int) (zV : List ZD) : Option Bool :=
 (lget x129 x131).bind fun a1 =>
 (Z5J (IntKind.i64.wrap (x131 + 1)) zV).bind fun r2 =>
 if (!r2.2) = true then
 Z4Z
 else
 ((Z7v r2.1).bind fun r3 =>
 (ZdG r3 a1).bind fun r4 =>
 if (!r4) = true then
 Z4Z
 else
 ((ZcM r2.1).bind fun r5 =>
 if (r5.Code != 0) = true then
 Z4Z
 else
 (Z6d x4 x129 x130 x131 zV)))
theorem Zfa (x4 x129 : List ZU) x130 x131 zP (zV : List ZD) z2v ox4 ox129 z2h (hox4 : ZW ox4 = true) (z3Q : ZW z2h = true) : Sim ZZ (Z6c x4 x129 x130 x131 zV) (ZCj 0 (.ptr 1 0) (ZM ox4 (x4.map Z2o)) (ZM ox129 (x129.map Z2o)) (iv x130) (iv x131) [(rM_ ZF zP), [(ZM z2h (zV.map ZL)), (.mp 0), (iv z2v)]]) := by
 unfold Z6c
 refine zf (ZJu ..)<|ze<|zi fun a1 ha1 => zp (.cptr (Z34 a1 .sh)) (et_ (Z3E (o := ox129) (k := .i64) (n := 5) (e := Z2o) (cs := Zb8) (fun _ => rfl) (fun _ => rfl) (by decide) ha1))<|zq<|zz (.ptr 2 0) [(rM_ ZF zP), [(ZM z2h (zV.map ZL)), (.mp 0), (iv z2v)], (Z1y ZA2 .nl)]<|zt [(rM_ ZF zP), [(ZM z2h (zV.map ZL)), (.mp 0), (iv z2v)], (Z1y a1 .sh)]<|ze<|zq<|zi fun r2 hr2 => ?_
 obtain ⟨_, er2, _, rfl⟩ := Z9X (IntKind.i64.wrap (x131 + 1)) zV z2v zP z2h z3Q r2 hr2
 refine zc [1, 0] (.p (.tup [(.agg (Z1q r2.1 .sh)), (.v (.bool r2.2))])) [(rM_ ZF zP), [(ZM z2h (zV.map ZL)), (.mp 0), (iv z2v)], (Z1y a1 .sh)] er2<|zq<|zq<|zz (.ptr 3 0) [(rM_ ZF zP), [(ZM z2h (zV.map ZL)), (.mp 0), (iv z2v)], (Z1y a1 .sh), (Zw Z40 .nl)]<|zt [(rM_ ZF zP), [(ZM z2h (zV.map ZL)), (.mp 0), (iv z2v)], (Z1y a1 .sh), (Zw r2.1 .sh)]<|ze<|zq ?_
 refine za (!r2.2) ?_ ?_
 ·refine zg ?_
  exact zk Z7u
 ·refine zq<|zi fun r3 hr3 => ?_
  obtain ⟨_, er3, _, rfl⟩ := ZaG r2.1 .sh r3 hr3
  refine zc [] (pA_ (Z34 r3 .sh)) [(rM_ ZF zP), [(ZM z2h (zV.map ZL)), (.mp 0), (iv z2v)], (Z1y a1 .sh), (Zw r2.1 .sh)] er3<|zq<|zi fun r4 hr4 => ?_
  obtain ⟨_, er4, _, rfl⟩ := Zo4 r3 a1 .sh .sh r4 hr4
  refine zc [] (bv r4) [(rM_ ZF zP), [(ZM z2h (zV.map ZL)), (.mp 0), (iv z2v)], (Z1y a1 .sh), (Zw r2.1 .sh)] er4<|zq ?_
  refine za (!r4) ?_ ?_
  ·refine zg ?_
   exact zk Z7u
  ·refine zq<|zi fun r5 hr5 => ?_
   obtain ⟨_, er5, _, rfl⟩ := Zlp r2.1 .sh r5 hr5
   refine zc [] (pA_ (Z1M r5)) [(rM_ ZF zP), [(ZM z2h (zV.map ZL)), (.mp 0), (iv z2v)], (Z1y a1 .sh), (Zw r2.1 .sh)] er5<|zq<|zq<|zg ?_
   refine za (r5.Code != 0) ?_ ?_
   ·exact zk Z7u
   ·exact zk (Zfb x4 x129 x130 x131 zP zV z2v ox4 ox129 z2h hox4 z3Q)
def Z6e (x4 : List ZU) (zV : List ZD) : Option Bool :=
 (Z3g zV).bind fun r1 =>
 some ((x4.length : Int) == r1)
theorem Zfc (x4 : List ZU) zP (zV : List ZD) z2v ox4 z2h (hox4 : ZW ox4 = true) (z3Q : ZW z2h = true) : Sim ZZ (Z6e x4 zV) (ZCl 0 (.ptr 1 0) (ZM ox4 (x4.map Z2o)) [(rM_ ZF zP), [(ZM z2h (zV.map ZL)), (.mp 0), (iv z2v)]]) := by
 unfold Z6e
 refine zf (ZJx ..)<|ze<|zp (iv (x4.length : Int)) (et_ (Z2O (P := PP) (t := 72) (d := 40) (by kernel_rfl) Z2o (shrO ox4) x4))<|zi fun r1 hr1 => ?_
 obtain ⟨_, er1, _, rfl⟩ := Z4i zV z2v zP z2h z3Q r1 hr1
 refine zc [1, 0] (iv r1) [(rM_ ZF zP), [(ZM z2h (zV.map ZL)), (.mp 0), (iv z2v)]] er1<|zq ?_
 exact zr ((bv ((x4.length : Int) == r1)), [(rM_ ZF zP), [(ZM z2h (zV.map ZL)), (.mp 0), (iv z2v)]]) ⟨_, rfl⟩
def Z4W (x4 x129 : List ZU) (x130 x131 : Int) (zV : List ZD) : Option Bool :=
 if (decide (x131 < x130)) = true then
 (Z6c x4 x129 x130 x131 zV)
 else
 (Z6e x4 zV)
theorem Zf6 (x4 x129 : List ZU) x130 x131 zP (zV : List ZD) z2v ox4 ox129 z2h (hox4 : ZW ox4 = true) (z3Q : ZW z2h = true) : Sim ZZ (Z4W x4 x129 x130 x131 zV) (ZsU 0 (.ptr 1 0) (ZM ox4 (x4.map Z2o)) (ZM ox129 (x129.map Z2o)) (iv x130) (iv x131) [(rM_ ZF zP), [(ZM z2h (zV.map ZL)), (.mp 0), (iv z2v)]]) := by
 unfold Z4W
 refine zf (ZJn ..)<|ze<|zq ?_
 refine za (decide (x131 < x130)) ?_ ?_
 ·exact zk (Zfa x4 x129 x130 x131 zP zV z2v ox4 ox129 z2h hox4 z3Q)
 ·exact zk (Zfc x4 zP zV z2v ox4 z2h hox4 z3Q)
theorem ZaD x4 x129 x130 x131 zV {r} (h : Z4W x4 x129 x130 x131 zV = some r) : Z53 x4 x129 x130 x131 zV = some r :=
 Z1f (fun _ _ ha hb => ru_ Z2k (ha default default .ex .ex .ex rfl rfl) (hb default default .ex .ex .ex rfl rfl)) (fun zP z2v ox4 ox129 z2h hox4 z3Q => Zf6 x4 x129 x130 x131 zP zV z2v ox4 ox129 z2h hox4 z3Q r h)
def Za8 : Option Bool :=
 (Zer).bind fun r1 =>
 (Z6I 1 1 3 (ByteArray.mk #[97])).bind fun r2 =>
 (Z4e r2 r1.2.1 r1.2.2 r1.1).bind fun r3 =>
 (Z6I 1 1 3 (ByteArray.mk #[97])).bind fun r4 =>
 (Z4e r4 r3.2.2.1 r3.2.2.2.1 r3.2.2.2.2).bind fun r5 =>
 (Z6I 1 2 4 (ByteArray.mk #[40])).bind fun r6 =>
 (Z4e r6 r5.2.2.1 r5.2.2.2.1 r5.2.2.2.2).bind fun r7 =>
 if (r3.2.1 == 0) = true then
 (if (r5.2.1 == 0) = true then
 (if (r7.2.1 == 0) = true then
 (if (((r3.1.Version == 1) && ((r3.1.Verdict.Code == 0) && ((r3.1.Verdict.Rule == 0) && ((r3.1.Verdict.At == 0) && true))))) = true then
 (if (r5.1.Verdict.Code == 31) = true then
 (if ((r7.1.Verdict.Code == 20) && ((r7.1.Verdict.Rule == 4) && ((r7.1.Verdict.At == 0) && true))) = true then
 ((Z3g r7.2.2.1).bind fun r8 =>
 some (r8 == 1))
 else
 (some false))
 else
 (some false))
 else
 (some false))
 else
 (some false))
 else
 (some false))
 else
 (some false)
theorem ZlF : Sim ZZ Za8 (EE 29 [] []) := by
 unfold Za8
 refine zf (ZOw ..)<|ze<|ze<|zi fun r1 hr1 => ?_
 obtain ⟨_, er1, zmE, _, zvN, rfl, _⟩ := ZmX r1 hr1
 refine zc [] (.ptr 1 0) [(rM_ ZF r1.1), [(ZM zmE (r1.2.1.map ZL)), (.mp 0), (iv r1.2.2)]] er1<|ze<|zi fun r2 hr2 => ?_
 obtain ⟨_, er2, _, rfl⟩ := ZcW 1 1 3 (ByteArray.mk #[97]) r2 hr2
 refine zc [] (pA_ (Z4m r2 .sh .sh)) [(rM_ ZF r1.1), [(ZM zmE (r1.2.1.map ZL)), (.mp 0), (iv r1.2.2)]] er2<|zi fun r3 hr3 => ?_
 obtain ⟨_, er3, zqa, _, zKK, rfl⟩ := Z7J r2 r1.2.1 r1.2.2 r1.1 .sh .sh zmE zvN r3 hr3
 refine zc [1, 0] (.p (.tup [(.agg (Z2e r3.1)), (.v (.int .i64 r3.2.1))])) [(rM_ ZF r3.2.2.2.2), [(ZM zqa (r3.2.2.1.map ZL)), (.mp 0), (iv r3.2.2.2.1)]] er3<|zq<|zq<|zz (.ptr 2 0) [(rM_ ZF r3.2.2.2.2), [(ZM zqa (r3.2.2.1.map ZL)), (.mp 0), (iv r3.2.2.2.1)], (ZG Za6)]<|zt [(rM_ ZF r3.2.2.2.2), [(ZM zqa (r3.2.2.1.map ZL)), (.mp 0), (iv r3.2.2.2.1)], (ZG r3.1)]<|ze<|zi fun r4 hr4 => ?_
 obtain ⟨_, er4, _, rfl⟩ := ZcW 1 1 3 (ByteArray.mk #[97]) r4 hr4
 refine zc [] (pA_ (Z4m r4 .sh .sh)) [(rM_ ZF r3.2.2.2.2), [(ZM zqa (r3.2.2.1.map ZL)), (.mp 0), (iv r3.2.2.2.1)], (ZG r3.1)] er4<|zi fun r5 hr5 => ?_
 obtain ⟨_, er5, zqb, _, zKM, rfl⟩ := Z7J r4 r3.2.2.1 r3.2.2.2.1 r3.2.2.2.2 .sh .sh zqa zKK r5 hr5
 refine zc [1, 0] (.p (.tup [(.agg (Z2e r5.1)), (.v (.int .i64 r5.2.1))])) [(rM_ ZF r5.2.2.2.2), [(ZM zqb (r5.2.2.1.map ZL)), (.mp 0), (iv r5.2.2.2.1)], (ZG r3.1)] er5<|zq<|zq<|zz (.ptr 3 0) [(rM_ ZF r5.2.2.2.2), [(ZM zqb (r5.2.2.1.map ZL)), (.mp 0), (iv r5.2.2.2.1)], (ZG r3.1), (ZG Za6)]<|zt [(rM_ ZF r5.2.2.2.2), [(ZM zqb (r5.2.2.1.map ZL)), (.mp 0), (iv r5.2.2.2.1)], (ZG r3.1), (ZG r5.1)]<|ze<|zi fun r6 hr6 => ?_
 obtain ⟨_, er6, _, rfl⟩ := ZcW 1 2 4 (ByteArray.mk #[40]) r6 hr6
 refine zc [] (pA_ (Z4m r6 .sh .sh)) [(rM_ ZF r5.2.2.2.2), [(ZM zqb (r5.2.2.1.map ZL)), (.mp 0), (iv r5.2.2.2.1)], (ZG r3.1), (ZG r5.1)] er6<|zi fun r7 hr7 => ?_
 obtain ⟨_, er7, zcm, _, zKO, rfl⟩ := Z7J r6 r5.2.2.1 r5.2.2.2.1 r5.2.2.2.2 .sh .sh zqb zKM r7 hr7
 refine zc [1, 0] (.p (.tup [(.agg (Z2e r7.1)), (.v (.int .i64 r7.2.1))])) [(rM_ ZF r7.2.2.2.2), [(ZM zcm (r7.2.2.1.map ZL)), (.mp 0), (iv r7.2.2.2.1)], (ZG r3.1), (ZG r5.1)] er7<|zq<|zq<|zz (.ptr 4 0) [(rM_ ZF r7.2.2.2.2), [(ZM zcm (r7.2.2.1.map ZL)), (.mp 0), (iv r7.2.2.2.1)], (ZG r3.1), (ZG r5.1), (ZG Za6)]<|zt [(rM_ ZF r7.2.2.2.2), [(ZM zcm (r7.2.2.1.map ZL)), (.mp 0), (iv r7.2.2.2.1)], (ZG r3.1), (ZG r5.1), (ZG r7.1)]<|ze<|zq ?_
 refine za (r3.2.1 == 0) ?_ ?_
 ·refine zq ?_
  refine za (r5.2.1 == 0) ?_ ?_
  ·refine zq ?_
   refine za (r7.2.1 == 0) ?_ ?_
   ·refine zq<|zq<|zp (bv ((r3.1.Version == 1) && ((r3.1.Verdict.Code == 0) && ((r3.1.Verdict.Rule == 0) && ((r3.1.Verdict.At == 0) && true))))) (Eq.trans (b := xbin PP .eql 66 (pA_ (Z2e r3.1)) (pA_ (Z2e (Z1k.mk 1 Z71)))) (by kernel_rfl) (ZLt (by kernel_rfl) (by kernel_rfl) (by kernel_rfl) (by kernel_rfl) (by kernel_rfl))) ?_
    refine za (((r3.1.Version == 1) && ((r3.1.Verdict.Code == 0) && ((r3.1.Verdict.Rule == 0) && ((r3.1.Verdict.At == 0) && true))))) ?_ ?_
    ·refine zq<|zq<|zq<|zq ?_
     refine za (r5.1.Verdict.Code == 31) ?_ ?_
     ·refine zq<|zq<|zq<|zp (bv ((r7.1.Verdict.Code == 20) && ((r7.1.Verdict.Rule == 4) && ((r7.1.Verdict.At == 0) && true)))) (Eq.trans (b := xbin PP .eql 32 (pA_ (Z1M r7.1.Verdict)) (pA_ (Z1M (Z10.mk 20 4 0)))) (by kernel_rfl) (ZNR (by kernel_rfl) (by kernel_rfl) (by kernel_rfl) (by kernel_rfl) (by kernel_rfl))) ?_
      refine za ((r7.1.Verdict.Code == 20) && ((r7.1.Verdict.Rule == 4) && ((r7.1.Verdict.At == 0) && true))) ?_ ?_
      ·refine zi fun r8 hr8 => ?_
       obtain ⟨_, er8, _, rfl⟩ := Z4i r7.2.2.1 r7.2.2.2.1 r7.2.2.2.2 zcm zKO r8 hr8
       refine zc [1, 0] (iv r8) [(rM_ ZF r7.2.2.2.2), [(ZM zcm (r7.2.2.1.map ZL)), (.mp 0), (iv r7.2.2.2.1)], (ZG r3.1), (ZG r5.1), (ZG r7.1)] er8<|zq ?_
       exact zr ((bv (r8 == 1)), [(rM_ ZF r7.2.2.2.2), [(ZM zcm (r7.2.2.1.map ZL)), (.mp 0), (iv r7.2.2.2.1)], (ZG r3.1), (ZG r5.1), (ZG r7.1)]) ⟨_, rfl⟩
      ·exact zr ((bv false), [(rM_ ZF r7.2.2.2.2), [(ZM zcm (r7.2.2.1.map ZL)), (.mp 0), (iv r7.2.2.2.1)], (ZG r3.1), (ZG r5.1), (ZG r7.1)]) ⟨_, rfl⟩
     ·exact zr ((bv false), [(rM_ ZF r7.2.2.2.2), [(ZM zcm (r7.2.2.1.map ZL)), (.mp 0), (iv r7.2.2.2.1)], (ZG r3.1), (ZG r5.1), (ZG r7.1)]) ⟨_, rfl⟩
    ·exact zr ((bv false), [(rM_ ZF r7.2.2.2.2), [(ZM zcm (r7.2.2.1.map ZL)), (.mp 0), (iv r7.2.2.2.1)], (ZG r3.1), (ZG r5.1), (ZG r7.1)]) ⟨_, rfl⟩
   ·exact zr ((bv false), [(rM_ ZF r7.2.2.2.2), [(ZM zcm (r7.2.2.1.map ZL)), (.mp 0), (iv r7.2.2.2.1)], (ZG r3.1), (ZG r5.1), (ZG r7.1)]) ⟨_, rfl⟩
  ·exact zr ((bv false), [(rM_ ZF r7.2.2.2.2), [(ZM zcm (r7.2.2.1.map ZL)), (.mp 0), (iv r7.2.2.2.1)], (ZG r3.1), (ZG r5.1), (ZG r7.1)]) ⟨_, rfl⟩
 ·exact zr ((bv false), [(rM_ ZF r7.2.2.2.2), [(ZM zcm (r7.2.2.1.map ZL)), (.mp 0), (iv r7.2.2.2.1)], (ZG r3.1), (ZG r5.1), (ZG r7.1)]) ⟨_, rfl⟩
theorem Zm7 {r} (h : Za8 = some r) : Zad = some r :=
 Z1f (fun _ _ ha hb => ru_ Z2k ha hb) (ZlF r h)
def ZhB : Option ((List (Int × Z19)) × (List ZD) × Int) :=
 (Zja).bind fun r1 =>
 some (([] : List (Int × Z19)), ([r1] : List ZD), 0)
theorem ZuG : Sim Zhx ZhB (EE 32 [] []) := by
 unfold ZhB
 refine zf (ZOC ..)<|ze<|ze<|zi fun r1 hr1 => ?_
 obtain ⟨_, er1, _, rfl⟩ := Zxi r1 hr1
 refine zc [] (pA_ (Z1q r1 .sh)) [] er1<|zq<|zm (.mp 0) [(rM_ ZF ([] : List (Int × Z19)))]<|zq<|zx (.ptr 1 0) [(rM_ ZF ([] : List (Int × Z19))), [(ZM .ex (([r1] : List ZD).map ZL)), (.mp 0), (iv 0)]] ?_
 exact zr ((.ptr 1 0), [(rM_ ZF ([] : List (Int × Z19))), [(ZM .ex (([r1] : List ZD).map ZL)), (.mp 0), (iv 0)]]) ⟨.ex, [], rfl, rfl, rfl⟩
theorem Zvs {r} (h : ZhB = some r) : Zer = some r :=
 Z1f (fun _ _ ha hb => ru_ Zwi ha hb) (ZuG r h)
def ZmK : Option ZD :=
 some (ZD.mk 0 255 10000 500 ([] : List ZA))
theorem ZvB : Sim ZiU ZmK (EE 43 [] []) := by
 unfold ZmK
 refine zf (ZOI ..)<|ze<|zz (.ptr 0 0) [(Zw Z40 .nl)]<|ze<|zq<|zt [(Z2H 0 255 10000 500 ([] : List ZA) .nl)] ?_
 exact zr ((pA_ (Z1q (ZD.mk 0 255 10000 500 ([] : List ZA)) .sh)), [(Z2H 0 255 10000 500 ([] : List ZA) .nl)]) ⟨_, rfl⟩
theorem Zxh {r} (h : ZmK = some r) : Zja = some r :=
 Z1f (fun _ _ ha hb => ru_ ZxT ha hb) (ZvB r h)
def ZeJ (x0 x1 x2 : Int) (x3 : ByteArray) : Option Z16 :=
 some (Z16.mk 0 x0 x1 (Z1i.mk (-1) (-1) (-1) (-1) ([(ZA.mk x2 0 0 1 x3)] : List ZA) ([] : List Int)))
theorem ZnA x0 x1 x2 x3 : Sim ZbZ (ZeJ x0 x1 x2 x3) (EE 55 [(iv x0), (iv x1), (iv x2), (.p (.v (.string x3)))] []) := by
 unfold ZeJ
 refine zf (ZOS ..)<|ze<|zz (.ptr 0 0) [(Z1a ZLv .nl .nl)]<|ze<|zq<|zq<|zq<|zq<|zt [(Z1a (Z16.mk 0 x0 x1 (Z1i.mk (-1) (-1) (-1) (-1) ([(ZA.mk x2 0 0 1 x3)] : List ZA) ([] : List Int))) .ex .nl)] ?_
 exact zr ((pA_ (Z4m (Z16.mk 0 x0 x1 (Z1i.mk (-1) (-1) (-1) (-1) ([(ZA.mk x2 0 0 1 x3)] : List ZA) ([] : List Int))) .sh .sh)), [(Z1a (Z16.mk 0 x0 x1 (Z1i.mk (-1) (-1) (-1) (-1) ([(ZA.mk x2 0 0 1 x3)] : List ZA) ([] : List Int))) .ex .nl)]) ⟨_, rfl⟩
theorem Zh2 x0 x1 x2 x3 {r} (h : ZeJ x0 x1 x2 x3 = some r) : Z6I x0 x1 x2 x3 = some r :=
 Z1f (fun _ _ ha hb => ru_ ZoX ha hb) (ZnA x0 x1 x2 x3 r h)
def Z9U (zP : List ZD) (z1W : Int) (zV : List (Int × Z19)) : Option (Z1k × Int × (List ZD) × Int × (List (Int × Z19))) :=
 some ((Z1k.mk 0 (Z10.mk 31 0 0)), 0, zP, z1W, zV)
theorem ZhW (zP : List ZD) z1W zV b2 b3 z1E z1T z1R (z3F : ZW z1E = true) : Sim Z4I (Z9U zP z1W zV) (ZBy 2 (.ptr 3 0) [[(ZM z1E (zP.map ZL)), (.mp 1), (iv z1W)], (rM_ ZF zV), (Z1a b2 z1T z1R), (ZG b3)]) := by
 unfold Z9U
 refine zf (ZIH ..)<|ze<|zq<|zq<|zt [[(ZM z1E (zP.map ZL)), (.mp 1), (iv z1W)], (rM_ ZF zV), (Z1a b2 z1T z1R), (ZG (Z1k.mk 0 (Z10.mk 31 0 0)))] ?_
 exact zr ((.p (.tup [(.agg (Z2e (Z1k.mk 0 (Z10.mk 31 0 0)))), (.v (.int .i64 0))])), [[(ZM z1E (zP.map ZL)), (.mp 1), (iv z1W)], (rM_ ZF zV), (Z1a b2 z1T z1R), (ZG (Z1k.mk 0 (Z10.mk 31 0 0)))]) ⟨z1E, _, z3F, rfl⟩
def Z4R (zP : List ZD) (z1W : Int) (zV : List (Int × Z19)) (b2 : Z16) : Option (Z1k × Int × (List ZD) × Int × (List (Int × Z19))) :=
 (Z7K b2.Delta zP).bind fun r1 =>
 some (r1.1, 0, r1.2, z1W, (putM zV b2.Client (Z19.mk b2.Request (Z1k.mk r1.1.Version (Z10.mk r1.1.Verdict.Code r1.1.Verdict.Rule r1.1.Verdict.At)))))
theorem ZbH (zP : List ZD) z1W zV b2 b3 z1E z1T z1R (z3F : ZW z1E = true) : Sim Z4I (Z4R zP z1W zV b2) (ZwO 2 (.ptr 0 0) (.ptr 2 0) (.ptr 3 0) [[(ZM z1E (zP.map ZL)), (.mp 1), (iv z1W)], (rM_ ZF zV), (Z1a b2 z1T z1R), (ZG b3)]) := by
 unfold Z4R
 refine zf (ZII ..)<|ze<|zq<|zq<|zi fun r1 hr1 => ?_
 obtain ⟨_, er1, zcl, _, zKJ, rfl⟩ := ZiI b2.Delta zP z1W zV .sh .sh z1E z3F r1 hr1
 refine zc [0, 1] (pA_ (Z2e r1.1)) [[(ZM zcl (r1.2.map ZL)), (.mp 1), (iv z1W)], (rM_ ZF zV), (Z1a b2 z1T z1R), (ZG b3)] er1<|zz (.ptr 4 0) [[(ZM zcl (r1.2.map ZL)), (.mp 1), (iv z1W)], (rM_ ZF zV), (Z1a b2 z1T z1R), (ZG b3), (ZG Za6)]<|zt [[(ZM zcl (r1.2.map ZL)), (.mp 1), (iv z1W)], (rM_ ZF zV), (Z1a b2 z1T z1R), (ZG b3), (ZG r1.1)]<|ze<|zq<|zq<|zq<|zq<|zq<|zq<|zq<|zq<|zq ?_
 refine Sim.xupd (B2 := [[(ZM zcl (r1.2.map ZL)), (.mp 1), (iv z1W)], (rM_ ZF (putM zV b2.Client (Z19.mk b2.Request (Z1k.mk r1.1.Version (Z10.mk r1.1.Verdict.Code r1.1.Verdict.Rule r1.1.Verdict.At))))), (Z1a b2 z1T z1R), (ZG b3), (ZG r1.1)]) (fun K => Eq.trans (b := xupd PP 122 (.mp 1) (iv b2.Client) (pA_ (ZeZ (Z19.mk b2.Request (Z1k.mk r1.1.Version (Z10.mk r1.1.Verdict.Code r1.1.Verdict.Rule r1.1.Verdict.At))))) [[(ZM zcl (r1.2.map ZL)), (.mp 1), (iv z1W)], (rM_ ZF zV), (Z1a b2 z1T z1R), (ZG b3), (ZG r1.1)] K) (by kernel_rfl) <| Zuz (P := PP) (t := 122) (K := K) (B2 := [[(ZM zcl (r1.2.map ZL)), (.mp 1), (iv z1W)], (rM_ ZF (putM zV b2.Client (Z19.mk b2.Request (Z1k.mk r1.1.Version (Z10.mk r1.1.Verdict.Code r1.1.Verdict.Rule r1.1.Verdict.At))))), (Z1a b2 z1T z1R), (ZG b3), (ZG r1.1)]) (e := ZF) (a := (Z19.mk b2.Request (Z1k.mk r1.1.Version (Z10.mk r1.1.Verdict.Code r1.1.Verdict.Rule r1.1.Verdict.At)))) (es := zV) (te := 126) (by kernel_rfl) (by kernel_rfl) (by kernel_rfl) (by kernel_rfl) (by kernel_rfl)) ?_
 refine ze<|zq<|zt [[(ZM zcl (r1.2.map ZL)), (.mp 1), (iv z1W)], (rM_ ZF (putM zV b2.Client (Z19.mk b2.Request (Z1k.mk r1.1.Version (Z10.mk r1.1.Verdict.Code r1.1.Verdict.Rule r1.1.Verdict.At))))), (Z1a b2 z1T z1R), (ZG r1.1), (ZG r1.1)] ?_
 exact zr ((.p (.tup [(.agg (Z2e r1.1)), (.v (.int .i64 0))])), [[(ZM zcl (r1.2.map ZL)), (.mp 1), (iv z1W)], (rM_ ZF (putM zV b2.Client (Z19.mk b2.Request (Z1k.mk r1.1.Version (Z10.mk r1.1.Verdict.Code r1.1.Verdict.Rule r1.1.Verdict.At))))), (Z1a b2 z1T z1R), (ZG r1.1), (ZG r1.1)]) ⟨zcl, _, zKJ, rfl⟩
def Z4Q (zP : List ZD) (z1W : Int) (zV : List (Int × Z19)) (b2 : Z16) : Option (Z1k × Int × (List ZD) × Int × (List (Int × Z19))) :=
 if ((getM zV b2.Client).isSome) = true then
 (if ((decide (b2.Request ≤ ((getM zV b2.Client).getD (Z19.mk 0 (Z1k.mk 0 (Z10.mk 0 0 0)))).request))) = true then
 (Z9U zP (IntKind.i64.wrap (z1W + 1)) zV)
 else
 (Z4R zP (IntKind.i64.wrap (z1W + 1)) zV b2))
 else
 (Z4R zP (IntKind.i64.wrap (z1W + 1)) zV b2)
theorem ZhV (zP : List ZD) z1W zV b2 b3 z1E z1T z1R (z3F : ZW z1E = true) : Sim Z4I (Z4Q zP z1W zV b2) (ZBx 2 (.ptr 0 0) (.ptr 2 0) (.ptr 3 0) [[(ZM z1E (zP.map ZL)), (.mp 1), (iv z1W)], (rM_ ZF zV), (Z1a b2 z1T z1R), (ZG b3)]) := by
 unfold Z4Q
 refine zf (ZIG ..)<|ze<|zq<|zq<|zq<|zq<|zq<|zq<|zt [[(ZM z1E (zP.map ZL)), (.mp 1), (iv (IntKind.i64.wrap (z1W + 1)))], (rM_ ZF zV), (Z1a b2 z1T z1R), (ZG b3)]<|ze<|zq<|zq<|zq<|zq<|zq<|zp (.p (.tup [(.agg (ZeZ ((getM zV b2.Client).getD (Z19.mk 0 Za6)))), (.v (.bool (getM zV b2.Client).isSome))])) (Eq.trans (b := Zen PP 122 true (.mp 1) (iv b2.Client) [[(ZM z1E (zP.map ZL)), (.mp 1), (iv (IntKind.i64.wrap (z1W + 1)))], (rM_ ZF zV), (Z1a b2 z1T z1R), (ZG b3)]) (by kernel_rfl) <| (ZrT (e := ZF) (z := (Z19.mk 0 Za6)) (es := zV) (te := 126) (by kernel_rfl) (by kernel_rfl) (by kernel_rfl) true).trans (by kernel_rfl))<|zq<|zq<|zz (.ptr 4 0) [[(ZM z1E (zP.map ZL)), (.mp 1), (iv (IntKind.i64.wrap (z1W + 1)))], (rM_ ZF zV), (Z1a b2 z1T z1R), (ZG b3), (Zoi (Z19.mk 0 Za6))]<|zt [[(ZM z1E (zP.map ZL)), (.mp 1), (iv (IntKind.i64.wrap (z1W + 1)))], (rM_ ZF zV), (Z1a b2 z1T z1R), (ZG b3), (Zoi ((getM zV b2.Client).getD (Z19.mk 0 Za6)))]<|zg<|zg<|zg<|ze ?_
 refine za ((getM zV b2.Client).isSome) ?_ ?_
 ·refine zq<|zq<|zq<|zq<|zq ?_
  refine za (decide (b2.Request ≤ ((getM zV b2.Client).getD (Z19.mk 0 Za6)).request)) ?_ ?_
  ·exact zk (ZhW zP (IntKind.i64.wrap (z1W + 1)) zV b2 b3 z1E z1T z1R z3F)
  ·exact zk (ZbH zP (IntKind.i64.wrap (z1W + 1)) zV b2 b3 z1E z1T z1R z3F)
 ·exact zk (ZbH zP (IntKind.i64.wrap (z1W + 1)) zV b2 b3 z1E z1T z1R z3F)
def Z6L (x1 : Z16) (zP : List ZD) (z1W : Int) (zV : List (Int × Z19)) : Option (Z1k × Int × (List ZD) × Int × (List (Int × Z19))) :=
 (ZcJ x1).bind fun r1 =>
 if (!r1) = true then
 (some ((Z1k.mk 0 (Z10.mk 0 0 0)), 10, zP, z1W, zV))
 else
 (Z4Q zP z1W zV x1)
theorem ZjG x1 (zP : List ZD) z1W zV z4U z4x z1E (z3F : ZW z1E = true) : Sim Z4I (Z6L x1 zP z1W zV) (EE 33 [(.ptr 0 0), (pA_ (Z4m x1 z4U z4x))] [[(ZM z1E (zP.map ZL)), (.mp 1), (iv z1W)], (rM_ ZF zV)]) := by
 unfold Z6L
 refine zf (ZOD ..)<|ze<|zx (.ptr 2 0) [[(ZM z1E (zP.map ZL)), (.mp 1), (iv z1W)], (rM_ ZF zV), (Z1a x1 z4U z4x)]<|zz (.ptr 3 0) [[(ZM z1E (zP.map ZL)), (.mp 1), (iv z1W)], (rM_ ZF zV), (Z1a x1 z4U z4x), (ZG Za6)]<|ze<|zq<|zi fun r1 hr1 => ?_
 obtain ⟨_, er1, _, rfl⟩ := ZpC x1 .sh .sh r1 hr1
 refine zc [] (bv r1) [[(ZM z1E (zP.map ZL)), (.mp 1), (iv z1W)], (rM_ ZF zV), (Z1a x1 z4U z4x), (ZG Za6)] er1<|zq ?_
 refine za (!r1) ?_ ?_
 ·refine ze<|zq<|zt [[(ZM z1E (zP.map ZL)), (.mp 1), (iv z1W)], (rM_ ZF zV), (Z1a x1 z4U z4x), (ZG Za6)] ?_
  exact zr ((.p (.tup [(.agg (Z2e Za6)), (.v (.int .i64 10))])), [[(ZM z1E (zP.map ZL)), (.mp 1), (iv z1W)], (rM_ ZF zV), (Z1a x1 z4U z4x), (ZG Za6)]) ⟨z1E, _, z3F, rfl⟩
 ·exact zk (ZhV zP z1W zV x1 Za6 z1E z4U z4x z3F)
theorem ZdA x1 zP z1W zV {r} (h : Z6L x1 zP z1W zV = some r) : Z4e x1 zP z1W zV = some r :=
 Z1f (fun _ _ ha hb => ru_ ZkU (ha .ex .ex .ex rfl) (hb .ex .ex .ex rfl)) (fun z4U z4x z1E z3F => ZjG x1 zP z1W zV z4U z4x z1E z3F r h)
def Zcw (x0 : Z16) : Option Bool :=
 (Z6n x0.View 0).bind fun r1 =>
 if r1 = true then
 ((Z6n x0.Client 1).bind fun r2 =>
 if r2 = true then
 ((Z6n x0.Request 1).bind fun r3 =>
 if r3 = true then
 ((Z6n x0.Delta.Default (-1)).bind fun r4 =>
 if r4 = true then
 ((Z6n x0.Delta.Closed (-1)).bind fun r5 =>
 if r5 = true then
 ((Z6n x0.Delta.Fuel (-1)).bind fun r6 =>
 if r6 = true then
 ((Z6n x0.Delta.Stack (-1)).bind fun r7 =>
 if r7 = true then
 (if (decide ((x0.Delta.Put.length : Int) ≤ 16)) = true then
 (if (decide ((x0.Delta.Drop.length : Int) ≤ 16)) = true then
 ((Z6Y x0.Delta.Put).bind fun r8 =>
 if (!r8) = true then
 ((Z7n x0.Delta.Drop).bind fun r9 =>
 some (!r9))
 else
 (some false))
 else
 (some false))
 else
 (some false))
 else
 (some false))
 else
 (some false))
 else
 (some false))
 else
 (some false))
 else
 (some false))
 else
 (some false))
 else
 (some false)
theorem Zow x0 z1z z1r : Sim ZZ (Zcw x0) (EE 31 [(pA_ (Z4m x0 z1z z1r))] []) := by
 unfold Zcw
 refine zf (ZOB ..)<|ze<|zx (.ptr 0 0) [(Z1a x0 z1z z1r)]<|ze<|zq<|zq<|zz (.ptr 1 0) [(Z1a x0 z1z z1r), (ZI (Z1i.mk 0 0 0 0 ([] : List ZA) ([] : List Int)) .nl .nl)]<|zt [(Z1a x0 z1z z1r), (ZI x0.Delta (shrO z1z) (shrO z1r))]<|ze<|zq<|zq<|zi fun r1 hr1 => ?_
 obtain ⟨_, er1, _, rfl⟩ := Z7w x0.View 0 r1 hr1
 refine zc [] (bv r1) [(Z1a x0 z1z z1r), (ZI x0.Delta (shrO z1z) (shrO z1r))] er1 ?_
 refine za r1 ?_ ?_
 ·refine zq<|zq<|zi fun r2 hr2 => ?_
  obtain ⟨_, er2, _, rfl⟩ := Z7w x0.Client 1 r2 hr2
  refine zc [] (bv r2) [(Z1a x0 z1z z1r), (ZI x0.Delta (shrO z1z) (shrO z1r))] er2 ?_
  refine za r2 ?_ ?_
  ·refine zq<|zq<|zi fun r3 hr3 => ?_
   obtain ⟨_, er3, _, rfl⟩ := Z7w x0.Request 1 r3 hr3
   refine zc [] (bv r3) [(Z1a x0 z1z z1r), (ZI x0.Delta (shrO z1z) (shrO z1r))] er3 ?_
   refine za r3 ?_ ?_
   ·refine zq<|zq<|zi fun r4 hr4 => ?_
    obtain ⟨_, er4, _, rfl⟩ := Z7w x0.Delta.Default (-1) r4 hr4
    refine zc [] (bv r4) [(Z1a x0 z1z z1r), (ZI x0.Delta (shrO z1z) (shrO z1r))] er4 ?_
    refine za r4 ?_ ?_
    ·refine zq<|zq<|zi fun r5 hr5 => ?_
     obtain ⟨_, er5, _, rfl⟩ := Z7w x0.Delta.Closed (-1) r5 hr5
     refine zc [] (bv r5) [(Z1a x0 z1z z1r), (ZI x0.Delta (shrO z1z) (shrO z1r))] er5 ?_
     refine za r5 ?_ ?_
     ·refine zq<|zq<|zi fun r6 hr6 => ?_
      obtain ⟨_, er6, _, rfl⟩ := Z7w x0.Delta.Fuel (-1) r6 hr6
      refine zc [] (bv r6) [(Z1a x0 z1z z1r), (ZI x0.Delta (shrO z1z) (shrO z1r))] er6 ?_
      refine za r6 ?_ ?_
      ·refine zq<|zq<|zi fun r7 hr7 => ?_
       obtain ⟨_, er7, _, rfl⟩ := Z7w x0.Delta.Stack (-1) r7 hr7
       refine zc [] (bv r7) [(Z1a x0 z1z z1r), (ZI x0.Delta (shrO z1z) (shrO z1r))] er7 ?_
       refine za r7 ?_ ?_
       ·refine zq<|zq<|zp (iv (x0.Delta.Put.length : Int)) (et_ (Z2O (P := PP) (t := 22) (d := 43) (by kernel_rfl) ZE (shrO (shrO z1z)) x0.Delta.Put))<|zq ?_
        refine za (decide ((x0.Delta.Put.length : Int) ≤ 16)) ?_ ?_
        ·refine zq<|zq<|zp (iv (x0.Delta.Drop.length : Int)) (et_ (Z2O (P := PP) (t := 27) (d := 3) (by kernel_rfl) (eI .i64) (shrO (shrO z1r)) x0.Delta.Drop))<|zq ?_
         refine za (decide ((x0.Delta.Drop.length : Int) ≤ 16)) ?_ ?_
         ·refine zq<|zq<|zi fun r8 hr8 => ?_
          obtain ⟨_, er8, _, rfl⟩ := Zhd x0.Delta.Put .sh r8 hr8
          refine zc [] (bv r8) [(Z1a x0 z1z z1r), (ZI x0.Delta (shrO z1z) (shrO z1r))] er8<|zq ?_
          refine za (!r8) ?_ ?_
          ·refine zq<|zq<|zi fun r9 hr9 => ?_
           obtain ⟨_, er9, _, rfl⟩ := Zi3 x0.Delta.Drop .sh r9 hr9
           refine zc [] (bv r9) [(Z1a x0 z1z z1r), (ZI x0.Delta (shrO z1z) (shrO z1r))] er9<|zq ?_
           exact zr ((bv (!r9)), [(Z1a x0 z1z z1r), (ZI x0.Delta (shrO z1z) (shrO z1r))]) ⟨_, rfl⟩
          ·exact zr ((bv false), [(Z1a x0 z1z z1r), (ZI x0.Delta (shrO z1z) (shrO z1r))]) ⟨_, rfl⟩
         ·exact zr ((bv false), [(Z1a x0 z1z z1r), (ZI x0.Delta (shrO z1z) (shrO z1r))]) ⟨_, rfl⟩
        ·exact zr ((bv false), [(Z1a x0 z1z z1r), (ZI x0.Delta (shrO z1z) (shrO z1r))]) ⟨_, rfl⟩
       ·exact zr ((bv false), [(Z1a x0 z1z z1r), (ZI x0.Delta (shrO z1z) (shrO z1r))]) ⟨_, rfl⟩
      ·exact zr ((bv false), [(Z1a x0 z1z z1r), (ZI x0.Delta (shrO z1z) (shrO z1r))]) ⟨_, rfl⟩
     ·exact zr ((bv false), [(Z1a x0 z1z z1r), (ZI x0.Delta (shrO z1z) (shrO z1r))]) ⟨_, rfl⟩
    ·exact zr ((bv false), [(Z1a x0 z1z z1r), (ZI x0.Delta (shrO z1z) (shrO z1r))]) ⟨_, rfl⟩
   ·exact zr ((bv false), [(Z1a x0 z1z z1r), (ZI x0.Delta (shrO z1z) (shrO z1r))]) ⟨_, rfl⟩
  ·exact zr ((bv false), [(Z1a x0 z1z z1r), (ZI x0.Delta (shrO z1z) (shrO z1r))]) ⟨_, rfl⟩
 ·exact zr ((bv false), [(Z1a x0 z1z z1r), (ZI x0.Delta (shrO z1z) (shrO z1r))]) ⟨_, rfl⟩
theorem ZpB x0 {r} (h : Zcw x0 = some r) : ZcJ x0 = some r :=
 Z1f (fun _ _ ha hb => ru_ Z2k (ha .ex .ex) (hb .ex .ex)) (fun z1z z1r => Zow x0 z1z z1r r h)
def ZhC (x0 x1 : Int) : Option Bool :=
 if (decide (x1 ≤ x0)) = true then
 (some (decide (x0 ≤ 1099511627776)))
 else
 (some false)
theorem ZuH x0 x1 : Sim ZZ (ZhC x0 x1) (EE 56 [(iv x0), (iv x1)] []) := by
 unfold ZhC
 refine zf (ZOT ..)<|ze<|ze<|zq ?_
 refine za (decide (x1 ≤ x0)) ?_ ?_
 ·refine zq ?_
  exact zr ((bv (decide (x0 ≤ 1099511627776))), []) ⟨_, rfl⟩
 ·exact zr ((bv false), []) ⟨_, rfl⟩
theorem Zvt x0 x1 {r} (h : ZhC x0 x1 = some r) : Z6n x0 x1 = some r :=
 Z1f (fun _ _ ha hb => ru_ Z2k ha hb) (ZuH x0 x1 r h)
def Z6Q (x0 : List ZA) : Option Bool :=
 (Z87 x0).bind fun r1 =>
 some (decide (0 ≤ r1))
theorem Zgy (x0 : List ZA) ox0 : Sim ZZ (Z6Q x0) (EE 57 [(ZM ox0 (x0.map ZE)), (.clo 58 [] [])] []) := by
 unfold Z6Q
 refine zf (ZBJ ..)<|ze<|ze<|zi fun r1 hr1 => ?_
 obtain ⟨_, er1, _, rfl⟩ := Zjk x0 .sh r1 hr1
 refine zc [] (iv r1) [] er1<|zq ?_
 exact zr ((bv (decide (0 ≤ r1))), []) ⟨_, rfl⟩
theorem Zhc x0 {r} (h : Z6Q x0 = some r) : Z6Y x0 = some r :=
 Z1f (fun _ _ ha hb => ru_ Z2k (ha .ex) (hb .ex)) (fun ox0 => Zgy x0 ox0 r h)
def Z82 (x0 : List ZA) : Option Int :=
 Z5z x0 (x0.length : Int) 0
theorem ZiO (x0 : List ZA) ox0 : Sim ZN (Z82 x0) (EE 83 [(ZM ox0 (x0.map ZE)), (.clo 58 [] [])] []) := by
 unfold Z82
 refine zf (ZBZ ..)<|ze<|ze<|zp (iv (x0.length : Int)) (et_ (Z2O (P := PP) (t := 22) (d := 43) (by kernel_rfl) ZE (shrO ox0) x0)) ?_
 exact zk (Zbl x0 (x0.length : Int) 0 ox0)
theorem Zjj x0 {r} (h : Z82 x0 = some r) : Z87 x0 = some r :=
 Z1f (fun _ _ ha hb => ru_ Z2l (ha .ex) (hb .ex)) (fun ox0 => ZiO x0 ox0 r h)
def Z6U (x0 : List ZA) (x7 x8 : Int) : Option Int :=
 Z5z x0 x7 (IntKind.i64.wrap (x8 + 1))
theorem ZgH (x0 : List ZA) x7 x8 ox0 : Sim ZN (Z6U x0 x7 x8) (ZsM 0 (ZM ox0 (x0.map ZE)) (.clo 58 [] []) (iv x7) (iv x8) []) := by
 unfold Z6U
 refine zf (ZsN ..)<|ze<|zq ?_
 exact zk (Zbl x0 x7 (IntKind.i64.wrap (x8 + 1)) ox0)
def Z5q (x0 : List ZA) (x7 x8 : Int) : Option Int :=
 (lget x0 x8).bind fun a1 =>
 (Zba a1).bind fun r2 =>
 if r2 = true then
 (some x8)
 else
 (Z6U x0 x7 x8)
theorem ZgG (x0 : List ZA) x7 x8 ox0 : Sim ZN (Z5q x0 x7 x8) (ZsK 0 (ZM ox0 (x0.map ZE)) (.clo 58 [] []) (iv x7) (iv x8) []) := by
 unfold Z5q
 refine zf (ZsL ..)<|ze<|ze<|zi fun a1 ha1 => zp (.cptr (Z1Y a1)) (et_ (Z3E (o := (shrO ox0)) (k := .i64) (n := 5) (e := ZE) (cs := Z52) (fun _ => rfl) (fun _ => rfl) (by decide) ha1))<|zq<|zi fun r2 hr2 => ?_
 obtain ⟨_, er2, _, rfl⟩ := ZnF a1 r2 hr2
 refine zv [] (bv r2) [] er2 ?_
 refine za r2 ?_ ?_
 ·refine ze ?_
  exact zr ((iv x8), []) ⟨_, rfl⟩
 ·exact zk (ZgH x0 x7 x8 ox0)
def Z9h : Option Int :=
 some (-1)
theorem ZgI : Sim ZN Z9h (ZsO 0 []) := by
 unfold Z9h
 refine zf (ZsP ..)<|ze ?_
 exact zr ((iv (-1)), []) ⟨_, rfl⟩
def Z4u (x0 : List ZA) (x7 x8 : Int) : Option Int :=
 if (decide (x8 < x7)) = true then
 (Z5q x0 x7 x8)
 else
 Z9h
theorem ZgF (x0 : List ZA) x7 x8 ox0 : Sim ZN (Z4u x0 x7 x8) (Zj3 0 (ZM ox0 (x0.map ZE)) (.clo 58 [] []) (iv x7) (iv x8) []) := by
 unfold Z4u
 refine zf (ZsJ ..)<|ze<|zq ?_
 refine za (decide (x8 < x7)) ?_ ?_
 ·exact zk (ZgG x0 x7 x8 ox0)
 ·exact zk ZgI
theorem Z8g x0 x7 x8 {r} (h : Z4u x0 x7 x8 = some r) : Z5z x0 x7 x8 = some r :=
 Z1f (fun _ _ ha hb => ru_ Z2l (ha .ex) (hb .ex)) (fun ox0 => ZgF x0 x7 x8 ox0 r h)
def Zb4 (x0 : ZA) : Option Bool :=
 (Z9v x0).bind fun r1 =>
 some (!r1)
theorem Zn0 x0 : Sim ZZ (Zb4 x0) (EE 58 [(pA_ (Z1Y x0))] []) := by
 unfold Zb4
 refine zf (ZOU ..)<|ze<|zx (.ptr 0 0) [(Z1P x0)]<|ze<|zq<|zi fun r1 hr1 => ?_
 obtain ⟨_, er1, _, rfl⟩ := Zei x0 r1 hr1
 refine zc [] (bv r1) [(Z1P x0)] er1<|zq ?_
 exact zr ((bv (!r1)), [(Z1P x0)]) ⟨_, rfl⟩
theorem ZnE x0 {r} (h : Zb4 x0 = some r) : Zba x0 = some r :=
 Z1f (fun _ _ ha hb => ru_ Z2k ha hb) (Zn0 x0 r h)
def Zdf (x0 : ZA) : Option Bool :=
 if (decide (1 ≤ x0.ID)) = true then
 (if (decide (x0.ID ≤ 1099511627776)) = true then
 (if (decide (0 ≤ x0.Priority)) = true then
 (if (decide (x0.Priority ≤ 1000)) = true then
 (if (decide (0 ≤ x0.Action)) = true then
 (if (decide (x0.Action ≤ 255)) = true then
 (if (decide (1 ≤ x0.Scope)) = true then
 (if (decide (x0.Scope ≤ 65535)) = true then
 (some (decide ((x0.Pattern.size : Int) ≤ 256)))
 else
 (some false))
 else
 (some false))
 else
 (some false))
 else
 (some false))
 else
 (some false))
 else
 (some false))
 else
 (some false))
 else
 (some false)
theorem ZpL x0 : Sim ZZ (Zdf x0) (EE 27 [(pA_ (Z1Y x0))] []) := by
 unfold Zdf
 refine zf (ZOv ..)<|ze<|zx (.ptr 0 0) [(Z1P x0)]<|ze<|zq<|zq<|zq ?_
 refine za (decide (1 ≤ x0.ID)) ?_ ?_
 ·refine zq<|zq<|zq ?_
  refine za (decide (x0.ID ≤ 1099511627776)) ?_ ?_
  ·refine zq<|zq<|zq ?_
   refine za (decide (0 ≤ x0.Priority)) ?_ ?_
   ·refine zq<|zq<|zq ?_
    refine za (decide (x0.Priority ≤ 1000)) ?_ ?_
    ·refine zq<|zq<|zq ?_
     refine za (decide (0 ≤ x0.Action)) ?_ ?_
     ·refine zq<|zq<|zq ?_
      refine za (decide (x0.Action ≤ 255)) ?_ ?_
      ·refine zq<|zq<|zq ?_
       refine za (decide (1 ≤ x0.Scope)) ?_ ?_
       ·refine zq<|zq<|zq ?_
        refine za (decide (x0.Scope ≤ 65535)) ?_ ?_
        ·refine zq<|zq<|zq<|zq ?_
         exact zr ((bv (decide ((x0.Pattern.size : Int) ≤ 256))), [(Z1P x0)]) ⟨_, rfl⟩
        ·exact zr ((bv false), [(Z1P x0)]) ⟨_, rfl⟩
       ·exact zr ((bv false), [(Z1P x0)]) ⟨_, rfl⟩
      ·exact zr ((bv false), [(Z1P x0)]) ⟨_, rfl⟩
     ·exact zr ((bv false), [(Z1P x0)]) ⟨_, rfl⟩
    ·exact zr ((bv false), [(Z1P x0)]) ⟨_, rfl⟩
   ·exact zr ((bv false), [(Z1P x0)]) ⟨_, rfl⟩
  ·exact zr ((bv false), [(Z1P x0)]) ⟨_, rfl⟩
 ·exact zr ((bv false), [(Z1P x0)]) ⟨_, rfl⟩
theorem Zr8 x0 {r} (h : Zdf x0 = some r) : Z9v x0 = some r :=
 Z1f (fun _ _ ha hb => ru_ Z2k ha hb) (ZpL x0 r h)
def Z7f (x0 : List Int) : Option Bool :=
 (Z8p x0).bind fun r1 =>
 some (decide (0 ≤ r1))
theorem Zhj (x0 : List Int) ox0 : Sim ZZ (Z7f x0) (EE 59 [(ZM ox0 (x0.map (eI .i64))), (.clo 60 [] [])] []) := by
 unfold Z7f
 refine zf (ZIS ..)<|ze<|ze<|zi fun r1 hr1 => ?_
 obtain ⟨_, er1, _, rfl⟩ := ZjN x0 .sh r1 hr1
 refine zc [] (iv r1) [] er1<|zq ?_
 exact zr ((bv (decide (0 ≤ r1))), []) ⟨_, rfl⟩
theorem Zi2 x0 {r} (h : Z7f x0 = some r) : Z7n x0 = some r :=
 Z1f (fun _ _ ha hb => ru_ Z2k (ha .ex) (hb .ex)) (fun ox0 => Zhj x0 ox0 r h)
def Z8n (x0 : List Int) : Option Int :=
 Z5O x0 (x0.length : Int) 0
theorem Zjq (x0 : List Int) ox0 : Sim ZN (Z8n x0) (EE 84 [(ZM ox0 (x0.map (eI .i64))), (.clo 60 [] [])] []) := by
 unfold Z8n
 refine zf (ZJa ..)<|ze<|ze<|zp (iv (x0.length : Int)) (et_ (Z2O (P := PP) (t := 27) (d := 3) (by kernel_rfl) (eI .i64) (shrO ox0) x0)) ?_
 exact zk (ZbQ x0 (x0.length : Int) 0 ox0)
theorem ZjM x0 {r} (h : Z8n x0 = some r) : Z8p x0 = some r :=
 Z1f (fun _ _ ha hb => ru_ Z2l (ha .ex) (hb .ex)) (fun ox0 => Zjq x0 ox0 r h)
def Z7h (x0 : List Int) (x7 x8 : Int) : Option Int :=
 Z5O x0 x7 (IntKind.i64.wrap (x8 + 1))
theorem Zhq (x0 : List Int) x7 x8 ox0 : Sim ZN (Z7h x0 x7 x8) (ZwZ 0 (ZM ox0 (x0.map (eI .i64))) (.clo 60 [] []) (iv x7) (iv x8) []) := by
 unfold Z7h
 refine zf (ZA8 ..)<|ze<|zq ?_
 exact zk (ZbQ x0 x7 (IntKind.i64.wrap (x8 + 1)) ox0)
def Z5M (x0 : List Int) (x7 x8 : Int) : Option Int :=
 (lget x0 x8).bind fun a1 =>
 (Zbb a1).bind fun r2 =>
 if r2 = true then
 (some x8)
 else
 (Z7h x0 x7 x8)
theorem Zhp (x0 : List Int) x7 x8 ox0 : Sim ZN (Z5M x0 x7 x8) (ZwY 0 (ZM ox0 (x0.map (eI .i64))) (.clo 60 [] []) (iv x7) (iv x8) []) := by
 unfold Z5M
 refine zf (ZA7 ..)<|ze<|ze<|zi fun a1 ha1 => zp (.cptr [(.v (.int .i64 a1))]) (et_ (Z3E (o := (shrO ox0)) (k := .i64) (n := 1) (e := (eI .i64)) (cs := (fun a => [(eI .i64) a])) (fun _ => rfl) (fun _ => rfl) (by decide) ha1))<|zq<|zi fun r2 hr2 => ?_
 obtain ⟨_, er2, _, rfl⟩ := ZnH a1 r2 hr2
 refine zv [] (bv r2) [] er2 ?_
 refine za r2 ?_ ?_
 ·refine ze ?_
  exact zr ((iv x8), []) ⟨_, rfl⟩
 ·exact zk (Zhq x0 x7 x8 ox0)
def Z9z : Option Int :=
 some (-1)
theorem Zhr : Sim ZN Z9z (Zx0 0 []) := by
 unfold Z9z
 refine zf (ZA9 ..)<|ze ?_
 exact zr ((iv (-1)), []) ⟨_, rfl⟩
def Z4H (x0 : List Int) (x7 x8 : Int) : Option Int :=
 if (decide (x8 < x7)) = true then
 (Z5M x0 x7 x8)
 else
 Z9z
theorem Zho (x0 : List Int) x7 x8 ox0 : Sim ZN (Z4H x0 x7 x8) (ZmV 0 (ZM ox0 (x0.map (eI .i64))) (.clo 60 [] []) (iv x7) (iv x8) []) := by
 unfold Z4H
 refine zf (ZA6 ..)<|ze<|zq ?_
 refine za (decide (x8 < x7)) ?_ ?_
 ·exact zk (Zhp x0 x7 x8 ox0)
 ·exact zk Zhr
theorem Z8z x0 x7 x8 {r} (h : Z4H x0 x7 x8 = some r) : Z5O x0 x7 x8 = some r :=
 Z1f (fun _ _ ha hb => ru_ Z2l (ha .ex) (hb .ex)) (fun ox0 => Zho x0 x7 x8 ox0 r h)
def Zb5 (x0 : Int) : Option Bool :=
 (Z6n x0 1).bind fun r1 =>
 some (!r1)
theorem Zn1 x0 : Sim ZZ (Zb5 x0) (EE 60 [(iv x0)] []) := by
 unfold Zb5
 refine zf (ZOV ..)<|ze<|ze<|zi fun r1 hr1 => ?_
 obtain ⟨_, er1, _, rfl⟩ := Z7w x0 1 r1 hr1
 refine zc [] (bv r1) [] er1<|zq ?_
 exact zr ((bv (!r1)), []) ⟨_, rfl⟩
theorem ZnG x0 {r} (h : Zb5 x0 = some r) : Zbb x0 = some r :=
 Z1f (fun _ _ ha hb => ru_ Z2k ha hb) (Zn1 x0 r h)
def Z6r (zP : List ZD) (b4 : ZD) : Option (Z1k × (List ZD)) :=
 (lapp zP ([b4] : List ZD)).bind fun a1 =>
 some ((Z1k.mk (IntKind.i64.wrap ((a1.length : Int) - 1)) (Z10.mk 0 0 0)), a1)
theorem Zg1 (zP : List ZD) z1W zV b2 b3 b4 z1E zq6 znj z47 (z3F : ZW z1E = true) : Sim (Z5S z1W zV) (Z6r zP b4) (ZBK 2 (.ptr 0 0) (.ptr 3 0) (.ptr 4 0) [[(ZM z1E (zP.map ZL)), (.mp 1), (iv z1W)], (rM_ ZF zV), (ZI b2 zq6 znj), (ZG b3), (Zw b4 z47)]) := by
 unfold Z6r
 refine zf (ZIT ..)<|ze<|zq<|zq<|zw (ZM z1E (zP.map ZL)) [[(ZM (shrO z1E) (zP.map ZL)), (.mp 1), (iv z1W)], (rM_ ZF zV), (ZI b2 zq6 znj), (ZG b3), (Zw b4 z47)]<|zq<|zq<|zi fun a1 ha1 => zp (ZM .un (a1.map ZL)) (Eq.trans (by kernel_rfl) <| Zgk (n := 5) (o := z1E) (o' := .ex) (e := ZL) (ys := ([b4] : List ZD)) (fun _ => rfl) (by decide) z3F ha1)<|zq<|zq<|zt [[(ZM .un (a1.map ZL)), (.mp 1), (iv z1W)], (rM_ ZF zV), (ZI b2 zq6 znj), (ZG b3), (Zw b4 z47)]<|zg<|ze<|zq<|zq<|zq<|zp (iv (a1.length : Int)) (et_ (Z2O (P := PP) (t := 121) (d := 24) (by kernel_rfl) ZL .sh a1))<|zq<|zq<|zt [[(ZM .un (a1.map ZL)), (.mp 1), (iv z1W)], (rM_ ZF zV), (ZI b2 zq6 znj), (ZG (Z1k.mk (IntKind.i64.wrap ((a1.length : Int) - 1)) Z71)), (Zw b4 z47)] ?_
 exact zr ((pA_ (Z2e (Z1k.mk (IntKind.i64.wrap ((a1.length : Int) - 1)) Z71))), [[(ZM .un (a1.map ZL)), (.mp 1), (iv z1W)], (rM_ ZF zV), (ZI b2 zq6 znj), (ZG (Z1k.mk (IntKind.i64.wrap ((a1.length : Int) - 1)) Z71)), (Zw b4 z47)]) ⟨.un, _, rfl, rfl⟩
def Z7E (x1 : Z1i) (zP : List ZD) : Option (Z1k × (List ZD)) :=
 (lget zP (IntKind.i64.wrap ((zP.length : Int) - 1))).bind fun a1 =>
 (ZbR a1 x1).bind fun r2 =>
 if (r2.2.Code != 0) = true then
 (some ((Z1k.mk 0 (Z10.mk r2.2.Code r2.2.Rule r2.2.At)), zP))
 else
 (Z6r zP r2.1)
theorem ZhZ x1 (zP : List ZD) z1W zV z2N z2t z1E (z3F : ZW z1E = true) : Sim (Z5S z1W zV) (Z7E x1 zP) (EE 61 [(.ptr 0 0), (pA_ (Z4A x1 z2N z2t))] [[(ZM z1E (zP.map ZL)), (.mp 1), (iv z1W)], (rM_ ZF zV)]) := by
 unfold Z7E
 refine zf (ZOW ..)<|ze<|zx (.ptr 2 0) [[(ZM z1E (zP.map ZL)), (.mp 1), (iv z1W)], (rM_ ZF zV), (ZI x1 z2N z2t)]<|zz (.ptr 3 0) [[(ZM z1E (zP.map ZL)), (.mp 1), (iv z1W)], (rM_ ZF zV), (ZI x1 z2N z2t), (ZG Za6)]<|ze<|zq<|zq<|zq<|zq<|zq<|zq<|zp (iv (zP.length : Int)) (et_ (Z2O (P := PP) (t := 121) (d := 24) (by kernel_rfl) ZL (shrO z1E) zP))<|zq<|zi fun a1 ha1 => zp (.cptr (Z1q a1 .sh)) (et_ (Z3E (o := (shrO z1E)) (k := .i64) (n := 5) (e := ZL) (cs := ZgY) (fun _ => rfl) (fun _ => rfl) (by decide) ha1))<|zq<|zq<|zi fun r2 hr2 => ?_
 obtain ⟨_, er2, _, rfl⟩ := Zk3 a1 x1 .sh .sh .sh r2 hr2
 refine zc [] (.p (.tup [(.agg (Z1q r2.1 .sh)), (.agg (Z1M r2.2))])) [[(ZM z1E (zP.map ZL)), (.mp 1), (iv z1W)], (rM_ ZF zV), (ZI x1 z2N z2t), (ZG Za6)] er2<|zq<|zq<|zz (.ptr 4 0) [[(ZM z1E (zP.map ZL)), (.mp 1), (iv z1W)], (rM_ ZF zV), (ZI x1 z2N z2t), (ZG Za6), (Zw Z40 .nl)]<|zz (.ptr 5 0) [[(ZM z1E (zP.map ZL)), (.mp 1), (iv z1W)], (rM_ ZF zV), (ZI x1 z2N z2t), (ZG Za6), (Zw Z40 .nl), (Z15 Z71)]<|zt [[(ZM z1E (zP.map ZL)), (.mp 1), (iv z1W)], (rM_ ZF zV), (ZI x1 z2N z2t), (ZG Za6), (Zw r2.1 .sh), (Z15 Z71)]<|zt [[(ZM z1E (zP.map ZL)), (.mp 1), (iv z1W)], (rM_ ZF zV), (ZI x1 z2N z2t), (ZG Za6), (Zw r2.1 .sh), (Z15 r2.2)]<|zg<|zg<|zg<|zg<|zg<|zg<|zg<|zg<|zg<|zg<|ze<|zq<|zq<|zq ?_
 refine za (r2.2.Code != 0) ?_ ?_
 ·refine ze<|zq<|zq<|zt [[(ZM z1E (zP.map ZL)), (.mp 1), (iv z1W)], (rM_ ZF zV), (ZI x1 z2N z2t), (ZG (Z1k.mk 0 (Z10.mk r2.2.Code r2.2.Rule r2.2.At))), (Zw r2.1 .sh), (Z15 r2.2)] ?_
  exact zr ((pA_ (Z2e (Z1k.mk 0 (Z10.mk r2.2.Code r2.2.Rule r2.2.At)))), [[(ZM z1E (zP.map ZL)), (.mp 1), (iv z1W)], (rM_ ZF zV), (ZI x1 z2N z2t), (ZG (Z1k.mk 0 (Z10.mk r2.2.Code r2.2.Rule r2.2.At))), (Zw r2.1 .sh), (Z15 r2.2)]) ⟨z1E, _, z3F, rfl⟩
 ·exact zk (Zg1 zP z1W zV x1 Za6 r2.1 z1E z2N z2t .sh z3F)
theorem ZiH x1 zP {r} (h : Z7E x1 zP = some r) : Z7K x1 zP = some r :=
 Z1f (fun _ _ ha hb => ru_ (ZiT _ _) (ha default default .ex .ex .ex rfl) (hb default default .ex .ex .ex rfl)) (fun z1W zV z2N z2t z1E z3F => ZhZ x1 zP z1W zV z2N z2t z1E z3F r h)
def Zcb (b4 : ZD) : Option (ZD × Z10) :=
 some (b4, (Z10.mk 0 0 0))
theorem ZnZ b0 b1 b2 b3 b4 zC z18 z13 zK z47 (z1s : ZW zK = true) : Sim Z9T (Zcb b4) (ZBk 0 (.ptr 2 0) (.ptr 3 0) (.ptr 4 0) [(Zw b0 zC), (ZI b1 z18 z13), (Zw b2 zK), (Z15 b3), (Zw b4 z47)]) := by
 unfold Zcb
 refine zf (ZIp ..)<|ze<|zq<|zq<|zt [(Zw b0 zC), (ZI b1 z18 z13), (Zw b4 (shrO z47)), (Z15 b3), (Zw b4 z47)]<|zt [(Zw b0 zC), (ZI b1 z18 z13), (Zw b4 (shrO z47)), (Z15 Z71), (Zw b4 z47)] ?_
 exact zr ((.p (.tup [(.agg (Z1q b4 .sh)), (.agg (Z1M Z71))])), [(Zw b0 zC), (ZI b1 z18 z13), (Zw b4 (shrO z47)), (Z15 Z71), (Zw b4 z47)]) ⟨_, rfl⟩
def Zca (b4 : ZD) : Option (ZD × Z10) :=
 (ZcM b4).bind fun r1 =>
 if (r1.Code != 0) = true then
 (some ((ZD.mk 0 0 0 0 ([] : List ZA)), r1))
 else
 (Zcb b4)
theorem ZnY b0 b1 b2 b3 b4 zC z18 z13 zK z47 (z1s : ZW zK = true) : Sim Z9T (Zca b4) (ZBj 0 (.ptr 2 0) (.ptr 3 0) (.ptr 4 0) [(Zw b0 zC), (ZI b1 z18 z13), (Zw b2 zK), (Z15 b3), (Zw b4 z47)]) := by
 unfold Zca
 refine zf (ZIo ..)<|ze<|zq<|zi fun r1 hr1 => ?_
 obtain ⟨_, er1, _, rfl⟩ := Zlp b4 .sh r1 hr1
 refine zc [] (pA_ (Z1M r1)) [(Zw b0 zC), (ZI b1 z18 z13), (Zw b2 zK), (Z15 b3), (Zw b4 z47)] er1<|zz (.ptr 5 0) [(Zw b0 zC), (ZI b1 z18 z13), (Zw b2 zK), (Z15 b3), (Zw b4 z47), (Z15 Z71)]<|zt [(Zw b0 zC), (ZI b1 z18 z13), (Zw b2 zK), (Z15 b3), (Zw b4 z47), (Z15 r1)]<|ze<|zq<|zq<|zq ?_
 refine za (r1.Code != 0) ?_ ?_
 ·refine ze<|zq<|zq<|zt [(Zw b0 zC), (ZI b1 z18 z13), (Zw Z40 .nl), (Z15 b3), (Zw b4 z47), (Z15 r1)]<|zt [(Zw b0 zC), (ZI b1 z18 z13), (Zw Z40 .nl), (Z15 r1), (Zw b4 z47), (Z15 r1)]<|zg ?_
  exact zr ((.p (.tup [(.agg (Z1q Z40 .sh)), (.agg (Z1M r1))])), [(Zw b0 zC), (ZI b1 z18 z13), (Zw Z40 .nl), (Z15 r1), (Zw b4 z47), (Z15 r1)]) ⟨_, rfl⟩
 ·exact zk (ZnZ b0 b1 b2 b3 b4 zC z18 z13 zK z47 z1s)
def Zec (x0 : ZD) (x1 : Z1i) : Option (ZD × Z10) :=
 (Zfp x0 x1).bind fun r1 =>
 if (r1.2 != 0) = true then
 (some ((ZD.mk 0 0 0 0 ([] : List ZA)), (Z10.mk r1.2 0 0)))
 else
 (Zca r1.1)
theorem Zrn x0 x1 z1b z2N z2t : Sim Z9T (Zec x0 x1) (EE 23 [(pA_ (Z1q x0 z1b)), (pA_ (Z4A x1 z2N z2t))] []) := by
 unfold Zec
 refine zf (ZOr ..)<|ze<|zx (.ptr 0 0) [(Zw x0 z1b)]<|zx (.ptr 1 0) [(Zw x0 z1b), (ZI x1 z2N z2t)]<|zz (.ptr 2 0) [(Zw x0 z1b), (ZI x1 z2N z2t), (Zw Z40 .nl)]<|zz (.ptr 3 0) [(Zw x0 z1b), (ZI x1 z2N z2t), (Zw Z40 .nl), (Z15 Z71)]<|ze<|zq<|zq<|zi fun r1 hr1 => ?_
 obtain ⟨_, er1, _, rfl⟩ := Zxg x0 x1 .sh .sh .sh r1 hr1
 refine zc [] (.p (.tup [(.agg (Z1q r1.1 .sh)), (.v (.int .i64 r1.2))])) [(Zw x0 z1b), (ZI x1 z2N z2t), (Zw Z40 .nl), (Z15 Z71)] er1<|zq<|zq<|zz (.ptr 4 0) [(Zw x0 z1b), (ZI x1 z2N z2t), (Zw Z40 .nl), (Z15 Z71), (Zw Z40 .nl)]<|zt [(Zw x0 z1b), (ZI x1 z2N z2t), (Zw Z40 .nl), (Z15 Z71), (Zw r1.1 .sh)]<|ze<|zq ?_
 refine za (r1.2 != 0) ?_ ?_
 ·refine ze<|zq<|zq<|zt [(Zw x0 z1b), (ZI x1 z2N z2t), (Zw Z40 .nl), (Z15 Z71), (Zw r1.1 .sh)]<|zt [(Zw x0 z1b), (ZI x1 z2N z2t), (Zw Z40 .nl), (Zkw r1.2 0 0), (Zw r1.1 .sh)] ?_
  exact zr ((.p (.tup [(.agg (Z1q Z40 .sh)), (.agg (Z1M (Z10.mk r1.2 0 0)))])), [(Zw x0 z1b), (ZI x1 z2N z2t), (Zw Z40 .nl), (Zkw r1.2 0 0), (Zw r1.1 .sh)]) ⟨_, rfl⟩
 ·exact zk (ZnY x0 x1 Z40 Z71 r1.1 z1b z2N z2t .nl .sh rfl)
theorem Zsl x0 x1 {r} (h : Zec x0 x1 = some r) : ZbR x0 x1 = some r :=
 Z1f (fun _ _ ha hb => ru_ Zso (ha .ex .ex .ex) (hb .ex .ex .ex)) (fun z1b z2N z2t => Zrn x0 x1 z1b z2N z2t r h)
def Zcy : Option (ZD × Int) :=
 some ((ZD.mk 0 0 0 0 ([] : List ZA)), 30)
theorem ZjZ b0 b1 b2 zC z18 z13 zK (z1s : ZW zK = true) : Sim Z2U Zcy (ZwC 0 (.ptr 2 0) [(Zw b0 zC), (ZI b1 z18 z13), (Zw b2 zK)]) := by
 unfold Zcy
 refine zf (ZIm ..)<|ze<|zq<|zt [(Zw b0 zC), (ZI b1 z18 z13), (Zw Z40 .nl)] ?_
 exact zr ((.p (.tup [(.agg (Z1q Z40 .sh)), (.v (.int .i64 30))])), [(Zw b0 zC), (ZI b1 z18 z13), (Zw Z40 .nl)]) ⟨_, rfl⟩
def ZdX (b0 : ZD) (b1 : Z1i) (zJ zT z11 zX : Int) : Option (ZD × Int) :=
 ZbJ b0.Rules (b0.Rules.length : Int) 0 b1 zJ zT z11 zX ([] : List (Int × ZA))
theorem ZqW b0 b1 b2 zJ zT z11 zX z1d zC z18 z13 zK z12 (z1s : ZW zK = true) : Sim Z2U (ZdX b0 b1 zJ zT z11 zX) (Zzn 0 (.ptr 0 0) (.ptr 1 0) (.ptr 2 0) (.ptr 3 0) [(Zw b0 zC), (ZI b1 z18 z13), (Zw b2 zK), (Z2H zJ zT z11 zX z1d z12)]) := by
 unfold ZdX
 refine zf (ZGs ..)<|ze<|zm (.mp 4) [(Zw b0 zC), (ZI b1 z18 z13), (Zw b2 zK), (Z2H zJ zT z11 zX z1d z12), (rM_ ZE ([] : List (Int × ZA)))]<|ze<|zq<|zq<|zp (iv (b0.Rules.length : Int)) (et_ (Z2O (P := PP) (t := 22) (d := 43) (by kernel_rfl) ZE (shrO zC) b0.Rules)) ?_
 exact zk (ZjS b0.Rules (b0.Rules.length : Int) 0 b0 b1 b2 zJ zT z11 zX z1d ([] : List (Int × ZA)) (shrO zC) zC z18 z13 zK z12 z1s)
def ZdW (b0 : ZD) (b1 : Z1i) (zJ zT z11 zX : Int) : Option (ZD × Int) :=
 (ZcL b1).bind fun r1 =>
 if r1 = true then
 (some ((ZD.mk 0 0 0 0 ([] : List ZA)), 31))
 else
 (ZdX b0 b1 zJ zT z11 zX)
theorem ZqV b0 b1 b2 zJ zT z11 zX z1d zC z18 z13 zK z12 (z1s : ZW zK = true) : Sim Z2U (ZdW b0 b1 zJ zT z11 zX) (Zzm 0 (.ptr 0 0) (.ptr 1 0) (.ptr 2 0) (.ptr 3 0) [(Zw b0 zC), (ZI b1 z18 z13), (Zw b2 zK), (Z2H zJ zT z11 zX z1d z12)]) := by
 unfold ZdW
 refine zf (ZGr ..)<|ze<|zq<|zi fun r1 hr1 => ?_
 obtain ⟨_, er1, _, rfl⟩ := ZpK b1 .sh .sh r1 hr1
 refine zc [] (bv r1) [(Zw b0 zC), (ZI b1 z18 z13), (Zw b2 zK), (Z2H zJ zT z11 zX z1d z12)] er1 ?_
 refine za r1 ?_ ?_
 ·refine ze<|zq<|zt [(Zw b0 zC), (ZI b1 z18 z13), (Zw Z40 .nl), (Z2H zJ zT z11 zX z1d z12)] ?_
  exact zr ((.p (.tup [(.agg (Z1q Z40 .sh)), (.v (.int .i64 31))])), [(Zw b0 zC), (ZI b1 z18 z13), (Zw Z40 .nl), (Z2H zJ zT z11 zX z1d z12)]) ⟨_, rfl⟩
 ·exact zk (ZqW b0 b1 b2 zJ zT z11 zX z1d zC z18 z13 zK z12 z1s)
def ZeR (b0 : ZD) (b1 : Z1i) : Option (ZD × Int) :=
 (ZhK b1.Default b0.Default).bind fun r1 =>
 (Zdp b1.Closed b0.Closed).bind fun r2 =>
 (Zdo b1.Fuel b0.Fuel).bind fun r3 =>
 (Zdn b1.Stack b0.Stack).bind fun r4 =>
 (Z9P (ZD.mk r1 r2 r3 r4 b0.Rules)).bind fun r5 =>
 if (!r5) = true then
 Zcy
 else
 ((Zcg b1.Put).bind fun r6 =>
 if (!r6) = true then
 Zcy
 else
 (ZdW b0 b1 r1 r2 r3 r4))
theorem Zse b0 b1 b2 zC z18 z13 zK (z1s : ZW zK = true) : Sim Z2U (ZeR b0 b1) (ZBg 0 (.ptr 0 0) (.ptr 1 0) (.ptr 2 0) [(Zw b0 zC), (ZI b1 z18 z13), (Zw b2 zK)]) := by
 unfold ZeR
 refine zf (ZIl ..)<|ze<|zq<|zz (.ptr 3 0) [(Zw b0 zC), (ZI b1 z18 z13), (Zw b2 zK), (Zw Z40 .nl)]<|zt [(Zw b0 zC), (ZI b1 z18 z13), (Zw b2 zK), (Zw b0 (shrO zC))]<|ze<|zq<|zq<|zq<|zi fun r1 hr1 => ?_
 obtain ⟨_, er1, _, rfl⟩ := ZvD b1.Default b0.Default b0.Closed b0.Fuel b0.Stack b0.Rules (shrO zC) r1 hr1
 refine zc [3] (.p (.tup [])) [(Zw b0 zC), (ZI b1 z18 z13), (Zw b2 zK), (Z2H r1 b0.Closed b0.Fuel b0.Stack b0.Rules (shrO zC))] er1<|ze<|zq<|zq<|zq<|zi fun r2 hr2 => ?_
 obtain ⟨_, er2, _, rfl⟩ := Zrf b1.Closed r1 b0.Closed b0.Fuel b0.Stack b0.Rules (shrO zC) r2 hr2
 refine zc [3] (.p (.tup [])) [(Zw b0 zC), (ZI b1 z18 z13), (Zw b2 zK), (Z2H r1 r2 b0.Fuel b0.Stack b0.Rules (shrO zC))] er2<|ze<|zq<|zq<|zq<|zi fun r3 hr3 => ?_
 obtain ⟨_, er3, _, rfl⟩ := Zrd b1.Fuel r1 r2 b0.Fuel b0.Stack b0.Rules (shrO zC) r3 hr3
 refine zc [3] (.p (.tup [])) [(Zw b0 zC), (ZI b1 z18 z13), (Zw b2 zK), (Z2H r1 r2 r3 b0.Stack b0.Rules (shrO zC))] er3<|ze<|zq<|zq<|zq<|zi fun r4 hr4 => ?_
 obtain ⟨_, er4, _, rfl⟩ := Zrb b1.Stack r1 r2 r3 b0.Stack b0.Rules (shrO zC) r4 hr4
 refine zc [3] (.p (.tup [])) [(Zw b0 zC), (ZI b1 z18 z13), (Zw b2 zK), (Z2H r1 r2 r3 r4 b0.Rules (shrO zC))] er4<|ze<|zq<|zi fun r5 hr5 => ?_
 obtain ⟨_, er5, _, rfl⟩ := Zh8 (ZD.mk r1 r2 r3 r4 b0.Rules) .sh r5 hr5
 refine zc [] (bv r5) [(Zw b0 zC), (ZI b1 z18 z13), (Zw b2 zK), (Z2H r1 r2 r3 r4 b0.Rules (shrO zC))] er5<|zq ?_
 refine za (!r5) ?_ ?_
 ·exact zk (ZjZ b0 b1 b2 zC z18 z13 zK z1s)
 ·refine zq<|zq<|zi fun r6 hr6 => ?_
  obtain ⟨_, er6, _, rfl⟩ := ZoI b1.Put .sh r6 hr6
  refine zc [] (bv r6) [(Zw b0 zC), (ZI b1 z18 z13), (Zw b2 zK), (Z2H r1 r2 r3 r4 b0.Rules (shrO zC))] er6<|zq ?_
  refine za (!r6) ?_ ?_
  ·exact zk (ZjZ b0 b1 b2 zC z18 z13 zK z1s)
  ·exact zk (ZqV b0 b1 b2 r1 r2 r3 r4 b0.Rules zC z18 z13 zK (shrO zC) z1s)
def ZiY (x0 : ZD) (x1 : Z1i) : Option (ZD × Int) :=
 (ZbN x0).bind fun r1 =>
 if (!r1) = true then
 (some ((ZD.mk 0 0 0 0 ([] : List ZA)), 10))
 else
 (ZeR x0 x1)
theorem ZvA x0 x1 z1b z2N z2t : Sim Z2U (ZiY x0 x1) (EE 22 [(pA_ (Z1q x0 z1b)), (pA_ (Z4A x1 z2N z2t))] []) := by
 unfold ZiY
 refine zf (ZOk ..)<|ze<|zx (.ptr 0 0) [(Zw x0 z1b)]<|zx (.ptr 1 0) [(Zw x0 z1b), (ZI x1 z2N z2t)]<|zz (.ptr 2 0) [(Zw x0 z1b), (ZI x1 z2N z2t), (Zw Z40 .nl)]<|ze<|zq<|zi fun r1 hr1 => ?_
 obtain ⟨_, er1, _, rfl⟩ := Zk0 x0 .sh r1 hr1
 refine zc [] (bv r1) [(Zw x0 z1b), (ZI x1 z2N z2t), (Zw Z40 .nl)] er1<|zq ?_
 refine za (!r1) ?_ ?_
 ·refine ze<|zq<|zt [(Zw x0 z1b), (ZI x1 z2N z2t), (Zw Z40 .nl)] ?_
  exact zr ((.p (.tup [(.agg (Z1q Z40 .sh)), (.v (.int .i64 10))])), [(Zw x0 z1b), (ZI x1 z2N z2t), (Zw Z40 .nl)]) ⟨_, rfl⟩
 ·exact zk (Zse x0 x1 Z40 z1b z2N z2t .nl rfl)
theorem Zxf x0 x1 {r} (h : ZiY x0 x1 = some r) : Zfp x0 x1 = some r :=
 Z1f (fun _ _ ha hb => ru_ Zdr (ha .ex .ex .ex) (hb .ex .ex .ex)) (fun z1b z2N z2t => ZvA x0 x1 z1b z2N z2t r h)
def ZdY (x54 : List ZA) (x55 x56 : Int) (b1 : Z1i) (zJ zT z11 zX : Int) (z1C : List (Int × ZA)) : Option (ZD × Int) :=
 (lget x54 x56).bind fun a1 =>
 ZbJ x54 x55 (IntKind.i64.wrap (x56 + 1)) b1 zJ zT z11 zX (putM z1C a1.ID a1)
theorem ZqX (x54 : List ZA) x55 x56 b0 b1 b2 zJ zT z11 zX z1d z1C ox54 zC z18 z13 zK z12 (z1s : ZW zK = true) : Sim Z2U (ZdY x54 x55 x56 b1 zJ zT z11 zX z1C) (Zzo 0 (.ptr 1 0) (.ptr 2 0) (.ptr 3 0) (.mp 4) (ZM ox54 (x54.map ZE)) (iv x55) (iv x56) [(Zw b0 zC), (ZI b1 z18 z13), (Zw b2 zK), (Z2H zJ zT z11 zX z1d z12), (rM_ ZE z1C)]) := by
 unfold ZdY
 refine zf (ZGt ..)<|ze<|zi fun a1 ha1 => zp (.cptr (Z1Y a1)) (et_ (Z3E (o := ox54) (k := .i64) (n := 5) (e := ZE) (cs := Z52) (fun _ => rfl) (fun _ => rfl) (by decide) ha1))<|zq<|zz (.ptr 5 0) [(Zw b0 zC), (ZI b1 z18 z13), (Zw b2 zK), (Z2H zJ zT z11 zX z1d z12), (rM_ ZE z1C), (Z1P (ZA.mk 0 0 0 0 (ByteArray.mk #[])))]<|zt [(Zw b0 zC), (ZI b1 z18 z13), (Zw b2 zK), (Z2H zJ zT z11 zX z1d z12), (rM_ ZE z1C), (Z1P a1)]<|ze<|zq<|zq<|zq ?_
 refine Sim.xupd (B2 := [(Zw b0 zC), (ZI b1 z18 z13), (Zw b2 zK), (Z2H zJ zT z11 zX z1d z12), (rM_ ZE (putM z1C a1.ID a1)), (Z1P a1)]) (fun K => Eq.trans (b := xupd PP 110 (.mp 4) (iv a1.ID) (pA_ (Z1Y a1)) [(Zw b0 zC), (ZI b1 z18 z13), (Zw b2 zK), (Z2H zJ zT z11 zX z1d z12), (rM_ ZE z1C), (Z1P a1)] K) (by kernel_rfl) <| Zuz (P := PP) (t := 110) (K := K) (B2 := [(Zw b0 zC), (ZI b1 z18 z13), (Zw b2 zK), (Z2H zJ zT z11 zX z1d z12), (rM_ ZE (putM z1C a1.ID a1)), (Z1P a1)]) (e := ZE) (a := a1) (es := z1C) (te := 43) (by kernel_rfl) (by kernel_rfl) (by kernel_rfl) (by kernel_rfl) (by kernel_rfl)) ?_
 refine ze<|zq ?_
 exact zk (ZjS x54 x55 (IntKind.i64.wrap (x56 + 1)) b0 b1 b2 zJ zT z11 zX z1d (putM z1C a1.ID a1) ox54 zC z18 z13 zK z12 z1s)
def ZbA (b1 : Z1i) (zJ zT z11 zX : Int) (z1C : List (Int × ZA)) : Option (ZD × Int) :=
 ZbK b1.Drop (b1.Drop.length : Int) 0 b1 zJ zT z11 zX z1C
theorem ZqY b0 b1 b2 zJ zT z11 zX z1d z1C zC z18 z13 zK z12 (z1s : ZW zK = true) : Sim Z2U (ZbA b1 zJ zT z11 zX z1C) (Zzp 0 (.ptr 1 0) (.ptr 2 0) (.ptr 3 0) (.mp 4) [(Zw b0 zC), (ZI b1 z18 z13), (Zw b2 zK), (Z2H zJ zT z11 zX z1d z12), (rM_ ZE z1C)]) := by
 unfold ZbA
 refine zf (ZGu ..)<|ze<|zq<|zq<|zp (iv (b1.Drop.length : Int)) (et_ (Z2O (P := PP) (t := 27) (d := 3) (by kernel_rfl) (eI .i64) (shrO z13) b1.Drop)) ?_
 exact zk (ZjU b1.Drop (b1.Drop.length : Int) 0 b0 b1 b2 zJ zT z11 zX z1d z1C (shrO z13) zC z18 z13 zK z12 z1s)
def Zbw (x54 : List ZA) (x55 x56 : Int) (b1 : Z1i) (zJ zT z11 zX : Int) (z1C : List (Int × ZA)) : Option (ZD × Int) :=
 if (decide (x56 < x55)) = true then
 (ZdY x54 x55 x56 b1 zJ zT z11 zX z1C)
 else
 (ZbA b1 zJ zT z11 zX z1C)
theorem ZqO (x54 : List ZA) x55 x56 b0 b1 b2 zJ zT z11 zX z1d z1C ox54 zC z18 z13 zK z12 (z1s : ZW zK = true) : Sim Z2U (Zbw x54 x55 x56 b1 zJ zT z11 zX z1C) (Zpl 0 (.ptr 1 0) (.ptr 2 0) (.ptr 3 0) (.mp 4) (ZM ox54 (x54.map ZE)) (iv x55) (iv x56) [(Zw b0 zC), (ZI b1 z18 z13), (Zw b2 zK), (Z2H zJ zT z11 zX z1d z12), (rM_ ZE z1C)]) := by
 unfold Zbw
 refine zf (ZGn ..)<|ze<|zq ?_
 refine za (decide (x56 < x55)) ?_ ?_
 ·exact zk (ZqX x54 x55 x56 b0 b1 b2 zJ zT z11 zX z1d z1C ox54 zC z18 z13 zK z12 z1s)
 ·exact zk (ZqY b0 b1 b2 zJ zT z11 zX z1d z1C zC z18 z13 zK z12 z1s)
theorem ZjR x54 x55 x56 b1 zJ zT z11 zX z1C {r} (h : Zbw x54 x55 x56 b1 zJ zT z11 zX z1C = some r) : ZbJ x54 x55 x56 b1 zJ zT z11 zX z1C = some r :=
 Z1f (fun _ _ ha hb => ru_ Zdr (ha default default default .ex .ex .ex .ex .ex .ex rfl) (hb default default default .ex .ex .ex .ex .ex .ex rfl)) (fun b0 b2 z1d ox54 zC z18 z13 zK z12 z1s => ZqO x54 x55 x56 b0 b1 b2 zJ zT z11 zX z1d z1C ox54 zC z18 z13 zK z12 z1s r h)
def Ze1 (x66 : List Int) (x67 x68 : Int) (b1 : Z1i) (zJ zT z11 zX : Int) (z1C : List (Int × ZA)) : Option (ZD × Int) :=
 ZbK x66 x67 (IntKind.i64.wrap (x68 + 1)) b1 zJ zT z11 zX z1C
theorem Zr1 (x66 : List Int) x67 x68 b0 b1 b2 zJ zT z11 zX z1d z1C ox66 zC z18 z13 zK z12 (z1s : ZW zK = true) : Sim Z2U (Ze1 x66 x67 x68 b1 zJ zT z11 zX z1C) (Zzs 0 (.ptr 1 0) (.ptr 2 0) (.ptr 3 0) (.mp 4) (ZM ox66 (x66.map (eI .i64))) (iv x67) (iv x68) [(Zw b0 zC), (ZI b1 z18 z13), (Zw b2 zK), (Z2H zJ zT z11 zX z1d z12), (rM_ ZE z1C)]) := by
 unfold Ze1
 refine zf (ZGx ..)<|ze<|zq ?_
 exact zk (ZjU x66 x67 (IntKind.i64.wrap (x68 + 1)) b0 b1 b2 zJ zT z11 zX z1d z1C ox66 zC z18 z13 zK z12 z1s)
def Ze0 (x11 : Int) (x66 : List Int) (x67 x68 : Int) (b1 : Z1i) (zJ zT z11 zX : Int) (z1C : List (Int × ZA)) : Option (ZD × Int) :=
 Ze1 x66 x67 x68 b1 zJ zT z11 zX (delM z1C x11)
theorem Zr0 x11 (x66 : List Int) x67 x68 b0 b1 b2 zJ zT z11 zX z1d z1C ox66 zC z18 z13 zK z12 (z1s : ZW zK = true) : Sim Z2U (Ze0 x11 x66 x67 x68 b1 zJ zT z11 zX z1C) (Zzr 0 (.ptr 1 0) (.ptr 2 0) (.ptr 3 0) (.mp 4) (iv x11) (ZM ox66 (x66.map (eI .i64))) (iv x67) (iv x68) [(Zw b0 zC), (ZI b1 z18 z13), (Zw b2 zK), (Z2H zJ zT z11 zX z1d z12), (rM_ ZE z1C)]) := by
 unfold Ze0
 refine zf (ZGw ..)<|ze ?_
 refine Sim.xdel (B2 := [(Zw b0 zC), (ZI b1 z18 z13), (Zw b2 zK), (Z2H zJ zT z11 zX z1d z12), (rM_ ZE (delM z1C x11))]) (fun K => Eq.trans (b := xdel PP 110 (.mp 4) (iv x11) [(Zw b0 zC), (ZI b1 z18 z13), (Zw b2 zK), (Z2H zJ zT z11 zX z1d z12), (rM_ ZE z1C)] K) (by kernel_rfl) <| ZNQ (P := PP) (t := 110) (K := K) (B2 := [(Zw b0 zC), (ZI b1 z18 z13), (Zw b2 zK), (Z2H zJ zT z11 zX z1d z12), (rM_ ZE (delM z1C x11))]) (e := ZE) (es := z1C) (te := 43) (by kernel_rfl) (by kernel_rfl) (by kernel_rfl)) ?_
 exact zk (Zr1 x66 x67 x68 b0 b1 b2 zJ zT z11 zX z1d (delM z1C x11) ox66 zC z18 z13 zK z12 z1s)
def ZdZ (x66 : List Int) (x67 x68 : Int) (b1 : Z1i) (zJ zT z11 zX : Int) (z1C : List (Int × ZA)) : Option (ZD × Int) :=
 (lget x66 x68).bind fun a1 =>
 if (!(getM z1C a1).isSome) = true then
 (some ((ZD.mk 0 0 0 0 ([] : List ZA)), 32))
 else
 (Ze0 a1 x66 x67 x68 b1 zJ zT z11 zX z1C)
theorem ZqZ (x66 : List Int) x67 x68 b0 b1 b2 zJ zT z11 zX z1d z1C ox66 zC z18 z13 zK z12 (z1s : ZW zK = true) : Sim Z2U (ZdZ x66 x67 x68 b1 zJ zT z11 zX z1C) (Zzq 0 (.ptr 1 0) (.ptr 2 0) (.ptr 3 0) (.mp 4) (ZM ox66 (x66.map (eI .i64))) (iv x67) (iv x68) [(Zw b0 zC), (ZI b1 z18 z13), (Zw b2 zK), (Z2H zJ zT z11 zX z1d z12), (rM_ ZE z1C)]) := by
 unfold ZdZ
 refine zf (ZGv ..)<|ze<|zi fun a1 ha1 => zp (.cptr [(.v (.int .i64 a1))]) (et_ (Z3E (o := ox66) (k := .i64) (n := 1) (e := (eI .i64)) (cs := (fun a => [(eI .i64) a])) (fun _ => rfl) (fun _ => rfl) (by decide) ha1))<|zq<|ze<|zp (.p (.tup [(.agg (Z1Y ((getM z1C a1).getD (ZA.mk 0 0 0 0 (ByteArray.mk #[]))))), (.v (.bool (getM z1C a1).isSome))])) (Eq.trans (b := Zen PP 110 true (.mp 4) (iv a1) [(Zw b0 zC), (ZI b1 z18 z13), (Zw b2 zK), (Z2H zJ zT z11 zX z1d z12), (rM_ ZE z1C)]) (by kernel_rfl) <| (ZrT (e := ZE) (z := (ZA.mk 0 0 0 0 (ByteArray.mk #[]))) (es := z1C) (te := 43) (by kernel_rfl) (by kernel_rfl) (by kernel_rfl) true).trans (by kernel_rfl))<|zq<|zq<|zz (.ptr 5 0) [(Zw b0 zC), (ZI b1 z18 z13), (Zw b2 zK), (Z2H zJ zT z11 zX z1d z12), (rM_ ZE z1C), (Z1P (ZA.mk 0 0 0 0 (ByteArray.mk #[])))]<|zt [(Zw b0 zC), (ZI b1 z18 z13), (Zw b2 zK), (Z2H zJ zT z11 zX z1d z12), (rM_ ZE z1C), (Z1P ((getM z1C a1).getD (ZA.mk 0 0 0 0 (ByteArray.mk #[]))))]<|ze<|zq ?_
 refine za (!(getM z1C a1).isSome) ?_ ?_
 ·refine ze<|zq<|zt [(Zw b0 zC), (ZI b1 z18 z13), (Zw Z40 .nl), (Z2H zJ zT z11 zX z1d z12), (rM_ ZE z1C), (Z1P ((getM z1C a1).getD (ZA.mk 0 0 0 0 (ByteArray.mk #[]))))] ?_
  exact zr ((.p (.tup [(.agg (Z1q Z40 .sh)), (.v (.int .i64 32))])), [(Zw b0 zC), (ZI b1 z18 z13), (Zw Z40 .nl), (Z2H zJ zT z11 zX z1d z12), (rM_ ZE z1C), (Z1P ((getM z1C a1).getD (ZA.mk 0 0 0 0 (ByteArray.mk #[]))))]) ⟨_, rfl⟩
 ·exact zk (Zr0 a1 x66 x67 x68 b0 b1 b2 zJ zT z11 zX z1d z1C ox66 zC z18 z13 zK z12 z1s)
def ZbB (b1 : Z1i) (zJ zT z11 zX : Int) (z1C : List (Int × ZA)) : Option (ZD × Int) :=
 ZbL b1.Put (b1.Put.length : Int) 0 zJ zT z11 zX z1C
theorem Zr2 b0 b1 b2 zJ zT z11 zX z1d z1C zC z18 z13 zK z12 (z1s : ZW zK = true) : Sim Z2U (ZbB b1 zJ zT z11 zX z1C) (Zzt 0 (.ptr 1 0) (.ptr 2 0) (.ptr 3 0) (.mp 4) [(Zw b0 zC), (ZI b1 z18 z13), (Zw b2 zK), (Z2H zJ zT z11 zX z1d z12), (rM_ ZE z1C)]) := by
 unfold ZbB
 refine zf (ZGy ..)<|ze<|zq<|zq<|zp (iv (b1.Put.length : Int)) (et_ (Z2O (P := PP) (t := 22) (d := 43) (by kernel_rfl) ZE (shrO z18) b1.Put)) ?_
 exact zk (ZjW b1.Put (b1.Put.length : Int) 0 b0 b1 b2 zJ zT z11 zX z1d z1C (shrO z18) zC z18 z13 zK z12 z1s)
def Zbx (x66 : List Int) (x67 x68 : Int) (b1 : Z1i) (zJ zT z11 zX : Int) (z1C : List (Int × ZA)) : Option (ZD × Int) :=
 if (decide (x68 < x67)) = true then
 (ZdZ x66 x67 x68 b1 zJ zT z11 zX z1C)
 else
 (ZbB b1 zJ zT z11 zX z1C)
theorem ZqQ (x66 : List Int) x67 x68 b0 b1 b2 zJ zT z11 zX z1d z1C ox66 zC z18 z13 zK z12 (z1s : ZW zK = true) : Sim Z2U (Zbx x66 x67 x68 b1 zJ zT z11 zX z1C) (Zpm 0 (.ptr 1 0) (.ptr 2 0) (.ptr 3 0) (.mp 4) (ZM ox66 (x66.map (eI .i64))) (iv x67) (iv x68) [(Zw b0 zC), (ZI b1 z18 z13), (Zw b2 zK), (Z2H zJ zT z11 zX z1d z12), (rM_ ZE z1C)]) := by
 unfold Zbx
 refine zf (ZGo ..)<|ze<|zq ?_
 refine za (decide (x68 < x67)) ?_ ?_
 ·exact zk (ZqZ x66 x67 x68 b0 b1 b2 zJ zT z11 zX z1d z1C ox66 zC z18 z13 zK z12 z1s)
 ·exact zk (Zr2 b0 b1 b2 zJ zT z11 zX z1d z1C zC z18 z13 zK z12 z1s)
theorem ZjT x66 x67 x68 b1 zJ zT z11 zX z1C {r} (h : Zbx x66 x67 x68 b1 zJ zT z11 zX z1C = some r) : ZbK x66 x67 x68 b1 zJ zT z11 zX z1C = some r :=
 Z1f (fun _ _ ha hb => ru_ Zdr (ha default default default .ex .ex .ex .ex .ex .ex rfl) (hb default default default .ex .ex .ex .ex .ex .ex rfl)) (fun b0 b2 z1d ox66 zC z18 z13 zK z12 z1s => ZqQ x66 x67 x68 b0 b1 b2 zJ zT z11 zX z1d z1C ox66 zC z18 z13 zK z12 z1s r h)
def Ze2 (x85 : List ZA) (x86 x87 zJ zT z11 zX : Int) (z1C : List (Int × ZA)) : Option (ZD × Int) :=
 (lget x85 x87).bind fun a1 =>
 ZbL x85 x86 (IntKind.i64.wrap (x87 + 1)) zJ zT z11 zX (putM z1C a1.ID a1)
theorem Zr3 (x85 : List ZA) x86 x87 b0 b1 b2 zJ zT z11 zX z1d z1C ox85 zC z18 z13 zK z12 (z1s : ZW zK = true) : Sim Z2U (Ze2 x85 x86 x87 zJ zT z11 zX z1C) (Zzu 0 (.ptr 2 0) (.ptr 3 0) (.mp 4) (ZM ox85 (x85.map ZE)) (iv x86) (iv x87) [(Zw b0 zC), (ZI b1 z18 z13), (Zw b2 zK), (Z2H zJ zT z11 zX z1d z12), (rM_ ZE z1C)]) := by
 unfold Ze2
 refine zf (ZGz ..)<|ze<|zi fun a1 ha1 => zp (.cptr (Z1Y a1)) (et_ (Z3E (o := ox85) (k := .i64) (n := 5) (e := ZE) (cs := Z52) (fun _ => rfl) (fun _ => rfl) (by decide) ha1))<|zq<|zz (.ptr 5 0) [(Zw b0 zC), (ZI b1 z18 z13), (Zw b2 zK), (Z2H zJ zT z11 zX z1d z12), (rM_ ZE z1C), (Z1P (ZA.mk 0 0 0 0 (ByteArray.mk #[])))]<|zt [(Zw b0 zC), (ZI b1 z18 z13), (Zw b2 zK), (Z2H zJ zT z11 zX z1d z12), (rM_ ZE z1C), (Z1P a1)]<|ze<|zq<|zq<|zq ?_
 refine Sim.xupd (B2 := [(Zw b0 zC), (ZI b1 z18 z13), (Zw b2 zK), (Z2H zJ zT z11 zX z1d z12), (rM_ ZE (putM z1C a1.ID a1)), (Z1P a1)]) (fun K => Eq.trans (b := xupd PP 110 (.mp 4) (iv a1.ID) (pA_ (Z1Y a1)) [(Zw b0 zC), (ZI b1 z18 z13), (Zw b2 zK), (Z2H zJ zT z11 zX z1d z12), (rM_ ZE z1C), (Z1P a1)] K) (by kernel_rfl) <| Zuz (P := PP) (t := 110) (K := K) (B2 := [(Zw b0 zC), (ZI b1 z18 z13), (Zw b2 zK), (Z2H zJ zT z11 zX z1d z12), (rM_ ZE (putM z1C a1.ID a1)), (Z1P a1)]) (e := ZE) (a := a1) (es := z1C) (te := 43) (by kernel_rfl) (by kernel_rfl) (by kernel_rfl) (by kernel_rfl) (by kernel_rfl)) ?_
 refine ze<|zq ?_
 exact zk (ZjW x85 x86 (IntKind.i64.wrap (x87 + 1)) b0 b1 b2 zJ zT z11 zX z1d (putM z1C a1.ID a1) ox85 zC z18 z13 zK z12 z1s)
def Ze3 (zJ zT z11 zX : Int) (z1C : List (Int × ZA)) : Option (ZD × Int) :=
 (Zb9).bind fun r1 =>
 (Zcj z1C).bind fun r2 =>
 ZbM r2 (r2.length : Int) 0 zJ zT z11 zX ([] : List ZA) z1C
theorem Zr5 b0 b1 b2 zJ zT z11 zX z1d z1C zC z18 z13 zK z12 (z1s : ZW zK = true) : Sim Z2U (Ze3 zJ zT z11 zX z1C) (Zzw 0 (.ptr 2 0) (.ptr 3 0) (.mp 4) [(Zw b0 zC), (ZI b1 z18 z13), (Zw b2 zK), (Z2H zJ zT z11 zX z1d z12), (rM_ ZE z1C)]) := by
 unfold Ze3
 refine zf (ZGB ..)<|ze<|zq<|zt [(Zw b0 zC), (ZI b1 z18 z13), (Zw b2 zK), (Z2H zJ zT z11 zX ([] : List ZA) .nl), (rM_ ZE z1C)]<|ze<|zi fun r1 hr1 => ?_
 obtain ⟨_, er1, _, rfl, _⟩ := ZnD z1C r1 hr1
 refine zc [4] (.clo 78 [] [(.ptr 5 0)]) [(Zw b0 zC), (ZI b1 z18 z13), (Zw b2 zK), (Z2H zJ zT z11 zX ([] : List ZA) .nl), (rM_ ZE z1C), [(.mp 4)]] er1<|zi fun r2 hr2 => ?_
 obtain ⟨_, er2, _, rfl⟩ := ZlL z1C r2 hr2
 refine zc [5, 4] (ZM .sh (r2.map (eI .i64))) [(Zw b0 zC), (ZI b1 z18 z13), (Zw b2 zK), (Z2H zJ zT z11 zX ([] : List ZA) .nl), (rM_ ZE z1C), [(.mp 4)]] er2<|zp (iv (r2.length : Int)) (et_ (Z2O (P := PP) (t := 27) (d := 3) (by kernel_rfl) (eI .i64) .sh r2)) ?_
 exact zk (ZjY r2 (r2.length : Int) 0 b0 b1 b2 zJ zT z11 zX ([] : List ZA) z1C .sh zC z18 z13 zK .nl z1s rfl)
def ZbC (zJ zT z11 zX : Int) (z1C : List (Int × ZA)) : Option (ZD × Int) :=
 if (decide (16 < (z1C.length : Int))) = true then
 (some ((ZD.mk 0 0 0 0 ([] : List ZA)), 33))
 else
 (Ze3 zJ zT z11 zX z1C)
theorem Zr4 b0 b1 b2 zJ zT z11 zX z1d z1C zC z18 z13 zK z12 (z1s : ZW zK = true) : Sim Z2U (ZbC zJ zT z11 zX z1C) (Zzv 0 (.ptr 2 0) (.ptr 3 0) (.mp 4) [(Zw b0 zC), (ZI b1 z18 z13), (Zw b2 zK), (Z2H zJ zT z11 zX z1d z12), (rM_ ZE z1C)]) := by
 unfold ZbC
 refine zf (ZGA ..)<|ze<|zp (iv (z1C.length : Int)) (Eq.trans (b := ZrU (.mp 4) [(Zw b0 zC), (ZI b1 z18 z13), (Zw b2 zK), (Z2H zJ zT z11 zX z1d z12), (rM_ ZE z1C)]) (by kernel_rfl) (ZLu (e := ZE) (es := z1C) (by kernel_rfl)))<|zq ?_
 refine za (decide (16 < (z1C.length : Int))) ?_ ?_
 ·refine ze<|zq<|zt [(Zw b0 zC), (ZI b1 z18 z13), (Zw Z40 .nl), (Z2H zJ zT z11 zX z1d z12), (rM_ ZE z1C)] ?_
  exact zr ((.p (.tup [(.agg (Z1q Z40 .sh)), (.v (.int .i64 33))])), [(Zw b0 zC), (ZI b1 z18 z13), (Zw Z40 .nl), (Z2H zJ zT z11 zX z1d z12), (rM_ ZE z1C)]) ⟨_, rfl⟩
 ·exact zk (Zr5 b0 b1 b2 zJ zT z11 zX z1d z1C zC z18 z13 zK z12 z1s)
def Zby (x85 : List ZA) (x86 x87 zJ zT z11 zX : Int) (z1C : List (Int × ZA)) : Option (ZD × Int) :=
 if (decide (x87 < x86)) = true then
 (Ze2 x85 x86 x87 zJ zT z11 zX z1C)
 else
 (ZbC zJ zT z11 zX z1C)
theorem ZqS (x85 : List ZA) x86 x87 b0 b1 b2 zJ zT z11 zX z1d z1C ox85 zC z18 z13 zK z12 (z1s : ZW zK = true) : Sim Z2U (Zby x85 x86 x87 zJ zT z11 zX z1C) (Zpn 0 (.ptr 2 0) (.ptr 3 0) (.mp 4) (ZM ox85 (x85.map ZE)) (iv x86) (iv x87) [(Zw b0 zC), (ZI b1 z18 z13), (Zw b2 zK), (Z2H zJ zT z11 zX z1d z12), (rM_ ZE z1C)]) := by
 unfold Zby
 refine zf (ZGp ..)<|ze<|zq ?_
 refine za (decide (x87 < x86)) ?_ ?_
 ·exact zk (Zr3 x85 x86 x87 b0 b1 b2 zJ zT z11 zX z1d z1C ox85 zC z18 z13 zK z12 z1s)
 ·exact zk (Zr4 b0 b1 b2 zJ zT z11 zX z1d z1C zC z18 z13 zK z12 z1s)
theorem ZjV x85 x86 x87 zJ zT z11 zX z1C {r} (h : Zby x85 x86 x87 zJ zT z11 zX z1C = some r) : ZbL x85 x86 x87 zJ zT z11 zX z1C = some r :=
 Z1f (fun _ _ ha hb => ru_ Zdr (ha default default default default .ex .ex .ex .ex .ex .ex rfl) (hb default default default default .ex .ex .ex .ex .ex .ex rfl)) (fun b0 b1 b2 z1d ox85 zC z18 z13 zK z12 z1s => ZqS x85 x86 x87 b0 b1 b2 zJ zT z11 zX z1d z1C ox85 zC z18 z13 zK z12 z1s r h)
def Ze4 (x103 : List Int) (x104 x105 zJ zT z11 zX : Int) (z1d : List ZA) (z1C : List (Int × ZA)) : Option (ZD × Int) :=
 (lget x103 x105).bind fun a1 =>
 (lapp z1d ([((getM z1C a1).getD (ZA.mk 0 0 0 0 (ByteArray.mk #[])))] : List ZA)).bind fun a2 =>
 ZbM x103 x104 (IntKind.i64.wrap (x105 + 1)) zJ zT z11 zX a2 z1C
theorem Zr6 (x103 : List Int) x104 x105 b0 b1 b2 zJ zT z11 zX z1d z1C ox103 zC z18 z13 zK z12 (z1s : ZW zK = true) (zaf : ZW z12 = true) : Sim Z2U (Ze4 x103 x104 x105 zJ zT z11 zX z1d z1C) (Zzx 0 (.ptr 2 0) (.ptr 3 0) (.mp 4) (ZM ox103 (x103.map (eI .i64))) (iv x104) (iv x105) [(Zw b0 zC), (ZI b1 z18 z13), (Zw b2 zK), (Z2H zJ zT z11 zX z1d z12), (rM_ ZE z1C)]) := by
 unfold Ze4
 refine zf (ZGC ..)<|ze<|zi fun a1 ha1 => zp (.cptr [(.v (.int .i64 a1))]) (et_ (Z3E (o := ox103) (k := .i64) (n := 1) (e := (eI .i64)) (cs := (fun a => [(eI .i64) a])) (fun _ => rfl) (fun _ => rfl) (by decide) ha1))<|zq<|ze<|zq<|zw (ZM z12 (z1d.map ZE)) [(Zw b0 zC), (ZI b1 z18 z13), (Zw b2 zK), (Z2H zJ zT z11 zX z1d (shrO z12)), (rM_ ZE z1C)]<|zp (pA_ (Z1Y ((getM z1C a1).getD (ZA.mk 0 0 0 0 (ByteArray.mk #[]))))) (Eq.trans (b := Zen PP 110 false (.mp 4) (iv a1) [(Zw b0 zC), (ZI b1 z18 z13), (Zw b2 zK), (Z2H zJ zT z11 zX z1d (shrO z12)), (rM_ ZE z1C)]) (by kernel_rfl) <| (ZrT (e := ZE) (z := (ZA.mk 0 0 0 0 (ByteArray.mk #[]))) (es := z1C) (te := 43) (by kernel_rfl) (by kernel_rfl) (by kernel_rfl) false).trans (by kernel_rfl))<|zq<|zi fun a2 ha2 => zp (ZM .un (a2.map ZE)) (Eq.trans (by kernel_rfl) <| Zgk (n := 5) (o := z12) (o' := .ex) (e := ZE) (ys := ([((getM z1C a1).getD (ZA.mk 0 0 0 0 (ByteArray.mk #[])))] : List ZA)) (fun _ => rfl) (by decide) zaf ha2)<|zq<|zt [(Zw b0 zC), (ZI b1 z18 z13), (Zw b2 zK), (Z2H zJ zT z11 zX a2 .un), (rM_ ZE z1C)]<|ze<|zq ?_
 exact zk (ZjY x103 x104 (IntKind.i64.wrap (x105 + 1)) b0 b1 b2 zJ zT z11 zX a2 z1C ox103 zC z18 z13 zK .un z1s rfl)
def Ze5 (zJ zT z11 zX : Int) (z1d : List ZA) : Option (ZD × Int) :=
 some ((ZD.mk zJ zT z11 zX z1d), 0)
theorem Zr7 b0 b1 b2 zJ zT z11 zX z1d zC z18 z13 zK z12 (z1s : ZW zK = true) (zaf : ZW z12 = true) : Sim Z2U (Ze5 zJ zT z11 zX z1d) (Zzy 0 (.ptr 2 0) (.ptr 3 0) [(Zw b0 zC), (ZI b1 z18 z13), (Zw b2 zK), (Z2H zJ zT z11 zX z1d z12)]) := by
 unfold Ze5
 refine zf (ZGD ..)<|ze<|zq<|zt [(Zw b0 zC), (ZI b1 z18 z13), (Z2H zJ zT z11 zX z1d (shrO z12)), (Z2H zJ zT z11 zX z1d z12)] ?_
 exact zr ((.p (.tup [(.agg (Z1q (ZD.mk zJ zT z11 zX z1d) .sh)), (.v (.int .i64 0))])), [(Zw b0 zC), (ZI b1 z18 z13), (Z2H zJ zT z11 zX z1d (shrO z12)), (Z2H zJ zT z11 zX z1d z12)]) ⟨_, rfl⟩
def Zbz (x103 : List Int) (x104 x105 zJ zT z11 zX : Int) (z1d : List ZA) (z1C : List (Int × ZA)) : Option (ZD × Int) :=
 if (decide (x105 < x104)) = true then
 (Ze4 x103 x104 x105 zJ zT z11 zX z1d z1C)
 else
 (Ze5 zJ zT z11 zX z1d)
theorem ZqU (x103 : List Int) x104 x105 b0 b1 b2 zJ zT z11 zX z1d z1C ox103 zC z18 z13 zK z12 (z1s : ZW zK = true) (zaf : ZW z12 = true) : Sim Z2U (Zbz x103 x104 x105 zJ zT z11 zX z1d z1C) (Zpo 0 (.ptr 2 0) (.ptr 3 0) (.mp 4) (ZM ox103 (x103.map (eI .i64))) (iv x104) (iv x105) [(Zw b0 zC), (ZI b1 z18 z13), (Zw b2 zK), (Z2H zJ zT z11 zX z1d z12), (rM_ ZE z1C)]) := by
 unfold Zbz
 refine zf (ZGq ..)<|ze<|zq ?_
 refine za (decide (x105 < x104)) ?_ ?_
 ·exact zk (Zr6 x103 x104 x105 b0 b1 b2 zJ zT z11 zX z1d z1C ox103 zC z18 z13 zK z12 z1s zaf)
 ·exact zk (Zr7 b0 b1 b2 zJ zT z11 zX z1d zC z18 z13 zK z12 z1s zaf)
theorem ZjX x103 x104 x105 zJ zT z11 zX z1d z1C {r} (h : Zbz x103 x104 x105 zJ zT z11 zX z1d z1C = some r) : ZbM x103 x104 x105 zJ zT z11 zX z1d z1C = some r :=
 Z1f (fun _ _ ha hb => ru_ Zdr (ha default default default .ex .ex .ex .ex .ex .ex rfl rfl) (hb default default default .ex .ex .ex .ex .ex .ex rfl rfl)) (fun b0 b1 b2 ox103 zC z18 z13 zK z12 z1s zaf => ZqU x103 x104 x105 b0 b1 b2 zJ zT z11 zX z1d z1C ox103 zC z18 z13 zK z12 z1s zaf r h)
def Z9J : Option Bool :=
 some false
theorem Zgo : Sim ZZ Z9J (Zwy 0 []) := by
 unfold Z9J
 refine zf (ZIf ..)<|ze ?_
 exact zr ((bv false), []) ⟨_, rfl⟩
def Zc5 (b0 : ZD) : Option Bool :=
 Z9O 0 b0.Rules (b0.Rules.length : Int) 0
theorem ZnS b0 zC : Sim ZZ (Zc5 b0) (ZB8 0 (.ptr 0 0) [(Zw b0 zC)]) := by
 unfold Zc5
 refine zf (ZIg ..)<|ze<|ze<|zq<|zq<|zp (iv (b0.Rules.length : Int)) (et_ (Z2O (P := PP) (t := 22) (d := 43) (by kernel_rfl) ZE (shrO zC) b0.Rules)) ?_
 exact zk (Zh7 0 b0.Rules (b0.Rules.length : Int) 0 (shrO zC))
def Ze6 (x0 : ZD) : Option Bool :=
 (Z9P x0).bind fun r1 =>
 if (!r1) = true then
 Z9J
 else
 (if (decide (16 < (x0.Rules.length : Int))) = true then
 Z9J
 else
 (Zc5 x0))
theorem Zr9 x0 z1b : Sim ZZ (Ze6 x0) (EE 20 [(pA_ (Z1q x0 z1b))] []) := by
 unfold Ze6
 refine zf (ZOd ..)<|ze<|zx (.ptr 0 0) [(Zw x0 z1b)]<|ze<|zq<|zi fun r1 hr1 => ?_
 obtain ⟨_, er1, _, rfl⟩ := Zh8 x0 .sh r1 hr1
 refine zc [] (bv r1) [(Zw x0 z1b)] er1<|zq ?_
 refine za (!r1) ?_ ?_
 ·exact zk Zgo
 ·refine zq<|zq<|zp (iv (x0.Rules.length : Int)) (et_ (Z2O (P := PP) (t := 22) (d := 43) (by kernel_rfl) ZE (shrO z1b) x0.Rules))<|zq ?_
  refine za (decide (16 < (x0.Rules.length : Int))) ?_ ?_
  ·exact zk Zgo
  ·exact zk (ZnS x0 z1b)
theorem Zsf x0 {r} (h : Ze6 x0 = some r) : ZbN x0 = some r :=
 Z1f (fun _ _ ha hb => ru_ Z2k (ha .ex) (hb .ex)) (fun z1b => Zr9 x0 z1b r h)
def Z9K : Option Bool :=
 some false
theorem Zgp : Sim ZZ Z9K (Zwz 0 []) := by
 unfold Z9K
 refine zf (ZIi ..)<|ze ?_
 exact zr ((bv false), []) ⟨_, rfl⟩
def Zb7 (x3 : Int) (x16 : List ZA) (x17 x18 : Int) : Option Bool :=
 Z9O x3 x16 x17 (IntKind.i64.wrap (x18 + 1))
theorem Zna x3 (x16 : List ZA) x17 x18 ox16 : Sim ZZ (Zb7 x3 x16 x17 x18) (Zzi 0 (iv x3) (ZM ox16 (x16.map ZE)) (iv x17) (iv x18) []) := by
 unfold Zb7
 refine zf (ZGl ..)<|ze<|zq ?_
 exact zk (Zh7 x3 x16 x17 (IntKind.i64.wrap (x18 + 1)) ox16)
def Zc7 (x16 : List ZA) (x17 x18 : Int) (b0 : ZA) : Option Bool :=
 Zb7 b0.ID x16 x17 x18
theorem ZnU (x16 : List ZA) x17 x18 b0 ox16 : Sim ZZ (Zc7 x16 x17 x18 b0) (ZBa 0 (.ptr 0 0) (ZM ox16 (x16.map ZE)) (iv x17) (iv x18) [(Z1P b0)]) := by
 unfold Zc7
 refine zf (ZIj ..)<|ze<|zq<|zq ?_
 exact zk (Zna b0.ID x16 x17 x18 ox16)
def Zc6 (x3 : Int) (x16 : List ZA) (x17 x18 : Int) : Option Bool :=
 (lget x16 x18).bind fun a1 =>
 (Z9v a1).bind fun r2 =>
 if (!r2) = true then
 Z9K
 else
 (if (decide (a1.ID ≤ x3)) = true then
 Z9K
 else
 (Zc7 x16 x17 x18 a1))
theorem ZnT x3 (x16 : List ZA) x17 x18 ox16 : Sim ZZ (Zc6 x3 x16 x17 x18) (ZB9 0 (iv x3) (ZM ox16 (x16.map ZE)) (iv x17) (iv x18) []) := by
 unfold Zc6
 refine zf (ZIh ..)<|ze<|zi fun a1 ha1 => zp (.cptr (Z1Y a1)) (et_ (Z3E (o := ox16) (k := .i64) (n := 5) (e := ZE) (cs := Z52) (fun _ => rfl) (fun _ => rfl) (by decide) ha1))<|zq<|zz (.ptr 0 0) [(Z1P (ZA.mk 0 0 0 0 (ByteArray.mk #[])))]<|zt [(Z1P a1)]<|ze<|zq<|zi fun r2 hr2 => ?_
 obtain ⟨_, er2, _, rfl⟩ := Zei a1 r2 hr2
 refine zc [] (bv r2) [(Z1P a1)] er2<|zq ?_
 refine za (!r2) ?_ ?_
 ·exact zk Zgp
 ·refine zq<|zq<|zq ?_
  refine za (decide (a1.ID ≤ x3)) ?_ ?_
  ·exact zk Zgp
  ·exact zk (ZnU x16 x17 x18 a1 ox16)
def Ze7 : Option Bool :=
 some true
theorem Znb : Sim ZZ Ze7 (Zzj 0 []) := by
 unfold Ze7
 refine zf (ZGm ..)<|ze ?_
 exact zr ((bv true), []) ⟨_, rfl⟩
def Z9I (x3 : Int) (x16 : List ZA) (x17 x18 : Int) : Option Bool :=
 if (decide (x18 < x17)) = true then
 (Zc6 x3 x16 x17 x18)
 else
 Ze7
theorem ZnR x3 (x16 : List ZA) x17 x18 ox16 : Sim ZZ (Z9I x3 x16 x17 x18) (Zsx 0 (iv x3) (ZM ox16 (x16.map ZE)) (iv x17) (iv x18) []) := by
 unfold Z9I
 refine zf (ZIe ..)<|ze<|zq ?_
 refine za (decide (x18 < x17)) ?_ ?_
 ·exact zk (ZnT x3 x16 x17 x18 ox16)
 ·exact zk Znb
theorem Zh6 x3 x16 x17 x18 {r} (h : Z9I x3 x16 x17 x18 = some r) : Z9O x3 x16 x17 x18 = some r :=
 Z1f (fun _ _ ha hb => ru_ Z2k (ha .ex) (hb .ex)) (fun ox16 => ZnR x3 x16 x17 x18 ox16 r h)
def Zc8 (x0 : ZD) : Option Bool :=
 if (decide (0 ≤ x0.Default)) = true then
 (if (decide (x0.Default ≤ 255)) = true then
 (if (decide (0 ≤ x0.Closed)) = true then
 (if (decide (x0.Closed ≤ 255)) = true then
 (if (decide (1 ≤ x0.Fuel)) = true then
 (if (decide (x0.Fuel ≤ 1048576)) = true then
 (if (decide (0 ≤ x0.Stack)) = true then
 (some (decide (x0.Stack ≤ 4096)))
 else
 (some false))
 else
 (some false))
 else
 (some false))
 else
 (some false))
 else
 (some false))
 else
 (some false))
 else
 (some false)
theorem ZnV x0 z1b : Sim ZZ (Zc8 x0) (EE 46 [(pA_ (Z1q x0 z1b))] []) := by
 unfold Zc8
 refine zf (ZOJ ..)<|ze<|zx (.ptr 0 0) [(Zw x0 z1b)]<|ze<|zq<|zq<|zq ?_
 refine za (decide (0 ≤ x0.Default)) ?_ ?_
 ·refine zq<|zq<|zq ?_
  refine za (decide (x0.Default ≤ 255)) ?_ ?_
  ·refine zq<|zq<|zq ?_
   refine za (decide (0 ≤ x0.Closed)) ?_ ?_
   ·refine zq<|zq<|zq ?_
    refine za (decide (x0.Closed ≤ 255)) ?_ ?_
    ·refine zq<|zq<|zq ?_
     refine za (decide (1 ≤ x0.Fuel)) ?_ ?_
     ·refine zq<|zq<|zq ?_
      refine za (decide (x0.Fuel ≤ 1048576)) ?_ ?_
      ·refine zq<|zq<|zq ?_
       refine za (decide (0 ≤ x0.Stack)) ?_ ?_
       ·refine zq<|zq<|zq ?_
        exact zr ((bv (decide (x0.Stack ≤ 4096))), [(Zw x0 z1b)]) ⟨_, rfl⟩
       ·exact zr ((bv false), [(Zw x0 z1b)]) ⟨_, rfl⟩
      ·exact zr ((bv false), [(Zw x0 z1b)]) ⟨_, rfl⟩
     ·exact zr ((bv false), [(Zw x0 z1b)]) ⟨_, rfl⟩
    ·exact zr ((bv false), [(Zw x0 z1b)]) ⟨_, rfl⟩
   ·exact zr ((bv false), [(Zw x0 z1b)]) ⟨_, rfl⟩
  ·exact zr ((bv false), [(Zw x0 z1b)]) ⟨_, rfl⟩
 ·exact zr ((bv false), [(Zw x0 z1b)]) ⟨_, rfl⟩
theorem ZoG x0 {r} (h : Zc8 x0 = some r) : Z9P x0 = some r :=
 Z1f (fun _ _ ha hb => ru_ Z2k (ha .ex) (hb .ex)) (fun z1b => ZnV x0 z1b r h)
def ZhE (x1 z1K : Int) : Option Int :=
 if (x1 != (-1)) = true then
 (some x1)
 else
 (some z1K)
theorem ZuM x1 z1K z1S z2i z1X z1U zC : Sim (Zhz z1S z2i z1X z1U zC) (ZhE x1 z1K) (EE 49 [(.ptr 0 0), (iv x1)] [(Z2H z1K z1S z2i z1X z1U zC)]) := by
 unfold ZhE
 refine zf (ZwR ..)<|ze<|zq ?_
 refine za (x1 != (-1)) ?_ ?_
 ·refine ze<|zq<|zt [(Z2H x1 z1S z2i z1X z1U zC)] ?_
  exact zr ((.p (.tup [])), [(Z2H x1 z1S z2i z1X z1U zC)]) ⟨_, rfl⟩
 ·exact zr ((.p (.tup [])), [(Z2H z1K z1S z2i z1X z1U zC)]) ⟨_, rfl⟩
theorem ZvC x1 z1K {r} (h : ZhE x1 z1K = some r) : ZhK x1 z1K = some r :=
 Z1f (fun _ _ ha hb => ru_ (Zwk _ _ _ _ _) (ha default default default default .ex) (hb default default default default .ex)) (fun z1S z2i z1X z1U zC => ZuM x1 z1K z1S z2i z1X z1U zC r h)
def Zdi (x1 z1S : Int) : Option Int :=
 if (x1 != (-1)) = true then
 (some x1)
 else
 (some z1S)
theorem ZpR x1 z1K z1S z2i z1X z1U zC : Sim (Zdb z1K z2i z1X z1U zC) (Zdi x1 z1S) (EE 49 [(.ptr 0 1), (iv x1)] [(Z2H z1K z1S z2i z1X z1U zC)]) := by
 unfold Zdi
 refine zf (ZwR ..)<|ze<|zq ?_
 refine za (x1 != (-1)) ?_ ?_
 ·refine ze<|zq<|zt [(Z2H z1K x1 z2i z1X z1U zC)] ?_
  exact zr ((.p (.tup [])), [(Z2H z1K x1 z2i z1X z1U zC)]) ⟨_, rfl⟩
 ·exact zr ((.p (.tup [])), [(Z2H z1K z1S z2i z1X z1U zC)]) ⟨_, rfl⟩
theorem Zre x1 z1S {r} (h : Zdi x1 z1S = some r) : Zdp x1 z1S = some r :=
 Z1f (fun _ _ ha hb => ru_ (Zs3 _ _ _ _ _) (ha default default default default .ex) (hb default default default default .ex)) (fun z1K z2i z1X z1U zC => ZpR x1 z1K z1S z2i z1X z1U zC r h)
def Zdh (x1 z2i : Int) : Option Int :=
 if (x1 != (-1)) = true then
 (some x1)
 else
 (some z2i)
theorem ZpP x1 z1K z1S z2i z1X z1U zC : Sim (Zda z1K z1S z1X z1U zC) (Zdh x1 z2i) (EE 49 [(.ptr 0 2), (iv x1)] [(Z2H z1K z1S z2i z1X z1U zC)]) := by
 unfold Zdh
 refine zf (ZwR ..)<|ze<|zq ?_
 refine za (x1 != (-1)) ?_ ?_
 ·refine ze<|zq<|zt [(Z2H z1K z1S x1 z1X z1U zC)] ?_
  exact zr ((.p (.tup [])), [(Z2H z1K z1S x1 z1X z1U zC)]) ⟨_, rfl⟩
 ·exact zr ((.p (.tup [])), [(Z2H z1K z1S z2i z1X z1U zC)]) ⟨_, rfl⟩
theorem Zrc x1 z2i {r} (h : Zdh x1 z2i = some r) : Zdo x1 z2i = some r :=
 Z1f (fun _ _ ha hb => ru_ (Zs2 _ _ _ _ _) (ha default default default default .ex) (hb default default default default .ex)) (fun z1K z1S z1X z1U zC => ZpP x1 z1K z1S z2i z1X z1U zC r h)
def Zdg (x1 z1X : Int) : Option Int :=
 if (x1 != (-1)) = true then
 (some x1)
 else
 (some z1X)
theorem ZpN x1 z1K z1S z2i z1X z1U zC : Sim (Zd9 z1K z1S z2i z1U zC) (Zdg x1 z1X) (EE 49 [(.ptr 0 3), (iv x1)] [(Z2H z1K z1S z2i z1X z1U zC)]) := by
 unfold Zdg
 refine zf (ZwR ..)<|ze<|zq ?_
 refine za (x1 != (-1)) ?_ ?_
 ·refine ze<|zq<|zt [(Z2H z1K z1S z2i x1 z1U zC)] ?_
  exact zr ((.p (.tup [])), [(Z2H z1K z1S z2i x1 z1U zC)]) ⟨_, rfl⟩
 ·exact zr ((.p (.tup [])), [(Z2H z1K z1S z2i z1X z1U zC)]) ⟨_, rfl⟩
theorem Zra x1 z1X {r} (h : Zdg x1 z1X = some r) : Zdn x1 z1X = some r :=
 Z1f (fun _ _ ha hb => ru_ (Zs1 _ _ _ _ _) (ha default default default default .ex) (hb default default default default .ex)) (fun z1K z1S z2i z1U zC => ZpN x1 z1K z1S z2i z1X z1U zC r h)
def Zc9 (x0 : List ZA) : Option Bool :=
 (Z6Z x0).bind fun r1 =>
 some (!r1)
theorem ZnW (x0 : List ZA) ox0 : Sim ZZ (Zc9 x0) (EE 50 [(ZM ox0 (x0.map ZE)), (.clo 27 [] [])] []) := by
 unfold Zc9
 refine zf (ZOP ..)<|ze<|zx (.ptr 0 0) [[(.clo 27 [] [])]]<|ze<|zi fun r1 hr1 => ?_
 obtain ⟨_, er1, _, rfl⟩ := Zhf x0 .sh r1 hr1
 refine zc [0] (bv r1) [[(.clo 27 [] [])]] er1<|zq ?_
 exact zr ((bv (!r1)), [[(.clo 27 [] [])]]) ⟨_, rfl⟩
theorem ZoH x0 {r} (h : Zc9 x0 = some r) : Zcg x0 = some r :=
 Z1f (fun _ _ ha hb => ru_ Z2k (ha .ex) (hb .ex)) (fun ox0 => ZnW x0 ox0 r h)
def Z6R (x0 : List ZA) : Option Bool :=
 (Z88 x0).bind fun r1 =>
 some (decide (0 ≤ r1))
theorem Zgz (x0 : List ZA) ox0 : Sim Z72 (Z6R x0) (EE 57 [(ZM ox0 (x0.map ZE)), (.clo 73 [] [(.ptr 0 0)])] [[(.clo 27 [] [])]]) := by
 unfold Z6R
 refine zf (ZBJ ..)<|ze<|ze<|zi fun r1 hr1 => ?_
 obtain ⟨_, er1, _, rfl⟩ := Zjm x0 .sh r1 hr1
 refine zc [0] (iv r1) [[(.clo 27 [] [])]] er1<|zq ?_
 exact zr ((bv (decide (0 ≤ r1))), [[(.clo 27 [] [])]]) ⟨_, rfl⟩
theorem Zhe x0 {r} (h : Z6R x0 = some r) : Z6Z x0 = some r :=
 Z1f (fun _ _ ha hb => ru_ Zgl (ha .ex) (hb .ex)) (fun ox0 => Zgz x0 ox0 r h)
def Z83 (x0 : List ZA) : Option Int :=
 Z5A x0 (x0.length : Int) 0
theorem ZiP (x0 : List ZA) ox0 : Sim Z3t (Z83 x0) (EE 83 [(ZM ox0 (x0.map ZE)), (.clo 73 [] [(.ptr 0 0)])] [[(.clo 27 [] [])]]) := by
 unfold Z83
 refine zf (ZBZ ..)<|ze<|ze<|zp (iv (x0.length : Int)) (et_ (Z2O (P := PP) (t := 22) (d := 43) (by kernel_rfl) ZE (shrO ox0) x0)) ?_
 exact zk (Zbm x0 (x0.length : Int) 0 ox0)
theorem Zjl x0 {r} (h : Z83 x0 = some r) : Z88 x0 = some r :=
 Z1f (fun _ _ ha hb => ru_ Zd1 (ha .ex) (hb .ex)) (fun ox0 => ZiP x0 ox0 r h)
def Z6V (x0 : List ZA) (x7 x8 : Int) : Option Int :=
 Z5A x0 x7 (IntKind.i64.wrap (x8 + 1))
theorem ZgL (x0 : List ZA) x7 x8 ox0 : Sim Z3t (Z6V x0 x7 x8) (ZsM 1 (ZM ox0 (x0.map ZE)) (.clo 73 [] [(.ptr 0 0)]) (iv x7) (iv x8) [[(.clo 27 [] [])]]) := by
 unfold Z6V
 refine zf (ZsN ..)<|ze<|zq ?_
 exact zk (Zbm x0 x7 (IntKind.i64.wrap (x8 + 1)) ox0)
def Z5r (x0 : List ZA) (x7 x8 : Int) : Option Int :=
 (lget x0 x8).bind fun a1 =>
 (Z8U a1).bind fun r2 =>
 if r2 = true then
 (some x8)
 else
 (Z6V x0 x7 x8)
theorem ZgK (x0 : List ZA) x7 x8 ox0 : Sim Z3t (Z5r x0 x7 x8) (ZsK 1 (ZM ox0 (x0.map ZE)) (.clo 73 [] [(.ptr 0 0)]) (iv x7) (iv x8) [[(.clo 27 [] [])]]) := by
 unfold Z5r
 refine zf (ZsL ..)<|ze<|ze<|zi fun a1 ha1 => zp (.cptr (Z1Y a1)) (et_ (Z3E (o := (shrO ox0)) (k := .i64) (n := 5) (e := ZE) (cs := Z52) (fun _ => rfl) (fun _ => rfl) (by decide) ha1))<|zq<|zi fun r2 hr2 => ?_
 obtain ⟨_, er2, _, rfl⟩ := Znc a1 r2 hr2
 refine zv [0] (bv r2) [[(.clo 27 [] [])]] er2 ?_
 refine za r2 ?_ ?_
 ·refine ze ?_
  exact zr ((iv x8), [[(.clo 27 [] [])]]) ⟨_, rfl⟩
 ·exact zk (ZgL x0 x7 x8 ox0)
def Z9i : Option Int :=
 some (-1)
theorem ZgM : Sim Z3t Z9i (ZsO 1 [[(.clo 27 [] [])]]) := by
 unfold Z9i
 refine zf (ZsP ..)<|ze ?_
 exact zr ((iv (-1)), [[(.clo 27 [] [])]]) ⟨_, rfl⟩
def Z4v (x0 : List ZA) (x7 x8 : Int) : Option Int :=
 if (decide (x8 < x7)) = true then
 (Z5r x0 x7 x8)
 else
 Z9i
theorem ZgJ (x0 : List ZA) x7 x8 ox0 : Sim Z3t (Z4v x0 x7 x8) (Zj3 1 (ZM ox0 (x0.map ZE)) (.clo 73 [] [(.ptr 0 0)]) (iv x7) (iv x8) [[(.clo 27 [] [])]]) := by
 unfold Z4v
 refine zf (ZsJ ..)<|ze<|zq ?_
 refine za (decide (x8 < x7)) ?_ ?_
 ·exact zk (ZgK x0 x7 x8 ox0)
 ·exact zk ZgM
theorem Z8h x0 x7 x8 {r} (h : Z4v x0 x7 x8 = some r) : Z5A x0 x7 x8 = some r :=
 Z1f (fun _ _ ha hb => ru_ Zd1 (ha .ex) (hb .ex)) (fun ox0 => ZgJ x0 x7 x8 ox0 r h)
def Z8L (x0 : ZA) : Option Bool :=
 (Z9v x0).bind fun r1 =>
 some (!r1)
theorem Zmn x0 : Sim Z72 (Z8L x0) (EE 73 [(pA_ (Z1Y x0)), (.ptr 0 0)] [[(.clo 27 [] [])]]) := by
 unfold Z8L
 refine zf (ZPb ..)<|ze<|zx (.ptr 1 0) [[(.clo 27 [] [])], (Z1P x0)]<|ze<|zq<|zq<|zi fun r1 hr1 => ?_
 obtain ⟨_, er1, _, rfl⟩ := Zei x0 r1 hr1
 refine zv [] (bv r1) [[(.clo 27 [] [])], (Z1P x0)] er1<|zq ?_
 exact zr ((bv (!r1)), [[(.clo 27 [] [])], (Z1P x0)]) ⟨_, rfl⟩
theorem Zfq x0 {r} (h : Z8L x0 = some r) : Z8U x0 = some r :=
 Z1f (fun _ _ ha hb => ru_ Zgl ha hb) (Zmn x0 r h)
def Zcz (x0 : Z1i) : Option Bool :=
 (Z70 x0.Put ([] : List (Int × Bool))).bind fun r1 =>
 if r1.1 = true then
 (some true)
 else
 ((Z7m x0.Drop r1.2).bind fun r2 =>
 some r2.1)
theorem ZoE x0 z8d z6J : Sim ZZ (Zcz x0) (EE 51 [(pA_ (Z4A x0 z8d z6J))] []) := by
 unfold Zcz
 refine zf (ZOQ ..)<|ze<|zx (.ptr 0 0) [(ZI x0 z8d z6J)]<|ze<|zm (.mp 1) [(ZI x0 z8d z6J), (rM_ eB ([] : List (Int × Bool)))]<|zz (.ptr 2 0) [(ZI x0 z8d z6J), (rM_ eB ([] : List (Int × Bool))), [(.p (.v (.map none)))]]<|zt [(ZI x0 z8d z6J), (rM_ eB ([] : List (Int × Bool))), [(.mp 1)]]<|ze<|zz (.ptr 3 0) [(ZI x0 z8d z6J), (rM_ eB ([] : List (Int × Bool))), [(.mp 1)], [(.p (.v .nilFunc))]]<|zt [(ZI x0 z8d z6J), (rM_ eB ([] : List (Int × Bool))), [(.mp 1)], [(.clo 74 [] [(.ptr 2 0)])]]<|ze<|zq<|zq<|zi fun r1 hr1 => ?_
 obtain ⟨_, er1, _, rfl⟩ := Zhh x0.Put ([] : List (Int × Bool)) .sh r1 hr1
 refine zc [3, 2, 1] (bv r1.1) [(ZI x0 z8d z6J), (rM_ eB r1.2), [(.mp 1)], [(.clo 74 [] [(.ptr 2 0)])]] er1 ?_
 refine za r1.1 ?_ ?_
 ·exact zr ((bv true), [(ZI x0 z8d z6J), (rM_ eB r1.2), [(.mp 1)], [(.clo 74 [] [(.ptr 2 0)])]]) ⟨_, rfl⟩
 ·refine zq<|zq<|zq<|zi fun r2 hr2 => ?_
  obtain ⟨_, er2, _, rfl⟩ := Zi1 x0.Drop r1.2 .sh r2 hr2
  refine zc [2, 1] (bv r2.1) [(ZI x0 z8d z6J), (rM_ eB r2.2), [(.mp 1)], [(.clo 74 [] [(.ptr 2 0)])]] er2 ?_
  exact zr ((bv r2.1), [(ZI x0 z8d z6J), (rM_ eB r2.2), [(.mp 1)], [(.clo 74 [] [(.ptr 2 0)])]]) ⟨_, rfl⟩
theorem ZpJ x0 {r} (h : Zcz x0 = some r) : ZcL x0 = some r :=
 Z1f (fun _ _ ha hb => ru_ Z2k (ha .ex .ex) (hb .ex .ex)) (fun z8d z6J => ZoE x0 z8d z6J r h)
def Z6S (x0 : List ZA) (z1l : List (Int × Bool)) : Option (Bool × (List (Int × Bool))) :=
 (Z89 x0 z1l).bind fun r1 =>
 some ((decide (0 ≤ r1.1)), r1.2)
theorem ZgA (x0 : List ZA) z1l ox0 : Sim Z5W (Z6S x0 z1l) (EE 57 [(ZM ox0 (x0.map ZE)), (.clo 75 [] [(.ptr 0 0)])] [[(.clo 74 [] [(.ptr 1 0)])], [(.mp 2)], (rM_ eB z1l)]) := by
 unfold Z6S
 refine zf (ZBJ ..)<|ze<|ze<|zi fun r1 hr1 => ?_
 obtain ⟨_, er1, _, rfl⟩ := Zjo x0 z1l .sh r1 hr1
 refine zc [0, 1, 2] (iv r1.1) [[(.clo 74 [] [(.ptr 1 0)])], [(.mp 2)], (rM_ eB r1.2)] er1<|zq ?_
 exact zr ((bv (decide (0 ≤ r1.1))), [[(.clo 74 [] [(.ptr 1 0)])], [(.mp 2)], (rM_ eB r1.2)]) ⟨_, rfl⟩
theorem Zhg x0 z1l {r} (h : Z6S x0 z1l = some r) : Z70 x0 z1l = some r :=
 Z1f (fun _ _ ha hb => ru_ Zep (ha .ex) (hb .ex)) (fun ox0 => ZgA x0 z1l ox0 r h)
def Z84 (x0 : List ZA) (z1l : List (Int × Bool)) : Option (Int × (List (Int × Bool))) :=
 Z5B x0 (x0.length : Int) 0 z1l
theorem ZiQ (x0 : List ZA) z1l ox0 : Sim Z3u (Z84 x0 z1l) (EE 83 [(ZM ox0 (x0.map ZE)), (.clo 75 [] [(.ptr 0 0)])] [[(.clo 74 [] [(.ptr 1 0)])], [(.mp 2)], (rM_ eB z1l)]) := by
 unfold Z84
 refine zf (ZBZ ..)<|ze<|ze<|zp (iv (x0.length : Int)) (et_ (Z2O (P := PP) (t := 22) (d := 43) (by kernel_rfl) ZE (shrO ox0) x0)) ?_
 exact zk (Zbn x0 (x0.length : Int) 0 z1l ox0)
theorem Zjn x0 z1l {r} (h : Z84 x0 z1l = some r) : Z89 x0 z1l = some r :=
 Z1f (fun _ _ ha hb => ru_ Zd2 (ha .ex) (hb .ex)) (fun ox0 => ZiQ x0 z1l ox0 r h)
def Z6W (x0 : List ZA) (x7 x8 : Int) (z1l : List (Int × Bool)) : Option (Int × (List (Int × Bool))) :=
 Z5B x0 x7 (IntKind.i64.wrap (x8 + 1)) z1l
theorem ZgP (x0 : List ZA) x7 x8 z1l ox0 : Sim Z3u (Z6W x0 x7 x8 z1l) (ZsM 3 (ZM ox0 (x0.map ZE)) (.clo 75 [] [(.ptr 0 0)]) (iv x7) (iv x8) [[(.clo 74 [] [(.ptr 1 0)])], [(.mp 2)], (rM_ eB z1l)]) := by
 unfold Z6W
 refine zf (ZsN ..)<|ze<|zq ?_
 exact zk (Zbn x0 x7 (IntKind.i64.wrap (x8 + 1)) z1l ox0)
def Z5s (x0 : List ZA) (x7 x8 : Int) (z1l : List (Int × Bool)) : Option (Int × (List (Int × Bool))) :=
 (lget x0 x8).bind fun a1 =>
 (Z9n a1 z1l).bind fun r2 =>
 if r2.1 = true then
 (some (x8, r2.2))
 else
 (Z6W x0 x7 x8 r2.2)
theorem ZgO (x0 : List ZA) x7 x8 z1l ox0 : Sim Z3u (Z5s x0 x7 x8 z1l) (ZsK 3 (ZM ox0 (x0.map ZE)) (.clo 75 [] [(.ptr 0 0)]) (iv x7) (iv x8) [[(.clo 74 [] [(.ptr 1 0)])], [(.mp 2)], (rM_ eB z1l)]) := by
 unfold Z5s
 refine zf (ZsL ..)<|ze<|ze<|zi fun a1 ha1 => zp (.cptr (Z1Y a1)) (et_ (Z3E (o := (shrO ox0)) (k := .i64) (n := 5) (e := ZE) (cs := Z52) (fun _ => rfl) (fun _ => rfl) (by decide) ha1))<|zq<|zi fun r2 hr2 => ?_
 obtain ⟨_, er2, _, rfl⟩ := Zlh a1 z1l r2 hr2
 refine zv [0, 1, 2] (bv r2.1) [[(.clo 74 [] [(.ptr 1 0)])], [(.mp 2)], (rM_ eB r2.2)] er2 ?_
 refine za r2.1 ?_ ?_
 ·refine ze ?_
  exact zr ((iv x8), [[(.clo 74 [] [(.ptr 1 0)])], [(.mp 2)], (rM_ eB r2.2)]) ⟨_, rfl⟩
 ·exact zk (ZgP x0 x7 x8 r2.2 ox0)
def Z9j (z1l : List (Int × Bool)) : Option (Int × (List (Int × Bool))) :=
 some ((-1), z1l)
theorem ZgQ z1l : Sim Z3u (Z9j z1l) (ZsO 3 [[(.clo 74 [] [(.ptr 1 0)])], [(.mp 2)], (rM_ eB z1l)]) := by
 unfold Z9j
 refine zf (ZsP ..)<|ze ?_
 exact zr ((iv (-1)), [[(.clo 74 [] [(.ptr 1 0)])], [(.mp 2)], (rM_ eB z1l)]) ⟨_, rfl⟩
def Z4w (x0 : List ZA) (x7 x8 : Int) (z1l : List (Int × Bool)) : Option (Int × (List (Int × Bool))) :=
 if (decide (x8 < x7)) = true then
 (Z5s x0 x7 x8 z1l)
 else
 (Z9j z1l)
theorem ZgN (x0 : List ZA) x7 x8 z1l ox0 : Sim Z3u (Z4w x0 x7 x8 z1l) (Zj3 3 (ZM ox0 (x0.map ZE)) (.clo 75 [] [(.ptr 0 0)]) (iv x7) (iv x8) [[(.clo 74 [] [(.ptr 1 0)])], [(.mp 2)], (rM_ eB z1l)]) := by
 unfold Z4w
 refine zf (ZsJ ..)<|ze<|zq ?_
 refine za (decide (x8 < x7)) ?_ ?_
 ·exact zk (ZgO x0 x7 x8 z1l ox0)
 ·exact zk (ZgQ z1l)
theorem Z8i x0 x7 x8 z1l {r} (h : Z4w x0 x7 x8 z1l = some r) : Z5B x0 x7 x8 z1l = some r :=
 Z1f (fun _ _ ha hb => ru_ Zd2 (ha .ex) (hb .ex)) (fun ox0 => ZgN x0 x7 x8 z1l ox0 r h)
def Z9f (x0 : ZA) (z1l : List (Int × Bool)) : Option (Bool × (List (Int × Bool))) :=
 (Z7x x0.ID z1l).bind fun r1 =>
 some (r1.1, r1.2)
theorem Zks x0 z1l : Sim Z5W (Z9f x0 z1l) (EE 75 [(pA_ (Z1Y x0)), (.ptr 0 0)] [[(.clo 74 [] [(.ptr 1 0)])], [(.mp 2)], (rM_ eB z1l)]) := by
 unfold Z9f
 refine zf (ZPd ..)<|ze<|zx (.ptr 3 0) [[(.clo 74 [] [(.ptr 1 0)])], [(.mp 2)], (rM_ eB z1l), (Z1P x0)]<|ze<|zq<|zq<|zq<|zi fun r1 hr1 => ?_
 obtain ⟨_, er1, _, rfl⟩ := ZdO x0.ID z1l r1 hr1
 refine zv [1, 2] (bv r1.1) [[(.clo 74 [] [(.ptr 1 0)])], [(.mp 2)], (rM_ eB r1.2), (Z1P x0)] er1 ?_
 exact zr ((bv r1.1), [[(.clo 74 [] [(.ptr 1 0)])], [(.mp 2)], (rM_ eB r1.2), (Z1P x0)]) ⟨_, rfl⟩
theorem Zlg x0 z1l {r} (h : Z9f x0 z1l = some r) : Z9n x0 z1l = some r :=
 Z1f (fun _ _ ha hb => ru_ Zep ha hb) (Zks x0 z1l r h)
def ZbD (x0 : Int) (zV : List (Int × Bool)) : Option (Bool × (List (Int × Bool))) :=
 some (((getM zV x0).getD false), (putM zV x0 true))
theorem Zkr x0 zV : Sim Z5V (ZbD x0 zV) (EE 74 [(iv x0), (.ptr 0 0)] [[(.mp 1)], (rM_ eB zV)]) := by
 unfold ZbD
 refine zf (ZPc ..)<|ze<|ze<|zq<|zp (bv ((getM zV x0).getD false)) (Eq.trans (b := Zen PP 152 false (.mp 1) (iv x0) [[(.mp 1)], (rM_ eB zV)]) (by kernel_rfl) <| (ZrT (e := eB) (z := false) (es := zV) (te := 4) (by kernel_rfl) (by kernel_rfl) (by kernel_rfl) false).trans (by kernel_rfl))<|ze<|zq ?_
 refine Sim.xupd (B2 := [[(.mp 1)], (rM_ eB (putM zV x0 true))]) (fun K => Eq.trans (b := xupd PP 152 (.mp 1) (iv x0) (bv true) [[(.mp 1)], (rM_ eB zV)] K) (by kernel_rfl) <| Zuz (P := PP) (t := 152) (K := K) (B2 := [[(.mp 1)], (rM_ eB (putM zV x0 true))]) (e := eB) (a := true) (es := zV) (te := 4) (by kernel_rfl) (by kernel_rfl) (by kernel_rfl) (by kernel_rfl) (by kernel_rfl)) ?_
 refine ze ?_
 exact zr ((bv ((getM zV x0).getD false)), [[(.mp 1)], (rM_ eB (putM zV x0 true))]) ⟨_, rfl⟩
theorem Zlf x0 zV {r} (h : ZbD x0 zV = some r) : Z7x x0 zV = some r :=
 Z1f (fun _ _ ha hb => ru_ Zeo ha hb) (Zkr x0 zV r h)
def Z7e (x0 : List Int) (zV : List (Int × Bool)) : Option (Bool × (List (Int × Bool))) :=
 (Z8o x0 zV).bind fun r1 =>
 some ((decide (0 ≤ r1.1)), r1.2)
theorem Zhi (x0 : List Int) zV ox0 : Sim Z5V (Z7e x0 zV) (EE 59 [(ZM ox0 (x0.map (eI .i64))), (.clo 74 [] [(.ptr 0 0)])] [[(.mp 1)], (rM_ eB zV)]) := by
 unfold Z7e
 refine zf (ZIS ..)<|ze<|ze<|zi fun r1 hr1 => ?_
 obtain ⟨_, er1, _, rfl⟩ := ZjL x0 zV .sh r1 hr1
 refine zc [0, 1] (iv r1.1) [[(.mp 1)], (rM_ eB r1.2)] er1<|zq ?_
 exact zr ((bv (decide (0 ≤ r1.1))), [[(.mp 1)], (rM_ eB r1.2)]) ⟨_, rfl⟩
theorem Zi0 x0 zV {r} (h : Z7e x0 zV = some r) : Z7m x0 zV = some r :=
 Z1f (fun _ _ ha hb => ru_ Zeo (ha .ex) (hb .ex)) (fun ox0 => Zhi x0 zV ox0 r h)
def Z8m (x0 : List Int) (zV : List (Int × Bool)) : Option (Int × (List (Int × Bool))) :=
 Z5N x0 (x0.length : Int) 0 zV
theorem Zjp (x0 : List Int) zV ox0 : Sim Z3B (Z8m x0 zV) (EE 84 [(ZM ox0 (x0.map (eI .i64))), (.clo 74 [] [(.ptr 0 0)])] [[(.mp 1)], (rM_ eB zV)]) := by
 unfold Z8m
 refine zf (ZJa ..)<|ze<|ze<|zp (iv (x0.length : Int)) (et_ (Z2O (P := PP) (t := 27) (d := 3) (by kernel_rfl) (eI .i64) (shrO ox0) x0)) ?_
 exact zk (ZbP x0 (x0.length : Int) 0 zV ox0)
theorem ZjK x0 zV {r} (h : Z8m x0 zV = some r) : Z8o x0 zV = some r :=
 Z1f (fun _ _ ha hb => ru_ Zds (ha .ex) (hb .ex)) (fun ox0 => Zjp x0 zV ox0 r h)
def Z7g (x0 : List Int) (x7 x8 : Int) (zV : List (Int × Bool)) : Option (Int × (List (Int × Bool))) :=
 Z5N x0 x7 (IntKind.i64.wrap (x8 + 1)) zV
theorem Zhm (x0 : List Int) x7 x8 zV ox0 : Sim Z3B (Z7g x0 x7 x8 zV) (ZwZ 2 (ZM ox0 (x0.map (eI .i64))) (.clo 74 [] [(.ptr 0 0)]) (iv x7) (iv x8) [[(.mp 1)], (rM_ eB zV)]) := by
 unfold Z7g
 refine zf (ZA8 ..)<|ze<|zq ?_
 exact zk (ZbP x0 x7 (IntKind.i64.wrap (x8 + 1)) zV ox0)
def Z5L (x0 : List Int) (x7 x8 : Int) (zV : List (Int × Bool)) : Option (Int × (List (Int × Bool))) :=
 (lget x0 x8).bind fun a1 =>
 (Z7x a1 zV).bind fun r2 =>
 if r2.1 = true then
 (some (x8, r2.2))
 else
 (Z7g x0 x7 x8 r2.2)
theorem Zhl (x0 : List Int) x7 x8 zV ox0 : Sim Z3B (Z5L x0 x7 x8 zV) (ZwY 2 (ZM ox0 (x0.map (eI .i64))) (.clo 74 [] [(.ptr 0 0)]) (iv x7) (iv x8) [[(.mp 1)], (rM_ eB zV)]) := by
 unfold Z5L
 refine zf (ZA7 ..)<|ze<|ze<|zi fun a1 ha1 => zp (.cptr [(.v (.int .i64 a1))]) (et_ (Z3E (o := (shrO ox0)) (k := .i64) (n := 1) (e := (eI .i64)) (cs := (fun a => [(eI .i64) a])) (fun _ => rfl) (fun _ => rfl) (by decide) ha1))<|zq<|zi fun r2 hr2 => ?_
 obtain ⟨_, er2, _, rfl⟩ := ZdO a1 zV r2 hr2
 refine zv [0, 1] (bv r2.1) [[(.mp 1)], (rM_ eB r2.2)] er2 ?_
 refine za r2.1 ?_ ?_
 ·refine ze ?_
  exact zr ((iv x8), [[(.mp 1)], (rM_ eB r2.2)]) ⟨_, rfl⟩
 ·exact zk (Zhm x0 x7 x8 r2.2 ox0)
def Z9y (zV : List (Int × Bool)) : Option (Int × (List (Int × Bool))) :=
 some ((-1), zV)
theorem Zhn zV : Sim Z3B (Z9y zV) (Zx0 2 [[(.mp 1)], (rM_ eB zV)]) := by
 unfold Z9y
 refine zf (ZA9 ..)<|ze ?_
 exact zr ((iv (-1)), [[(.mp 1)], (rM_ eB zV)]) ⟨_, rfl⟩
def Z4G (x0 : List Int) (x7 x8 : Int) (zV : List (Int × Bool)) : Option (Int × (List (Int × Bool))) :=
 if (decide (x8 < x7)) = true then
 (Z5L x0 x7 x8 zV)
 else
 (Z9y zV)
theorem Zhk (x0 : List Int) x7 x8 zV ox0 : Sim Z3B (Z4G x0 x7 x8 zV) (ZmV 2 (ZM ox0 (x0.map (eI .i64))) (.clo 74 [] [(.ptr 0 0)]) (iv x7) (iv x8) [[(.mp 1)], (rM_ eB zV)]) := by
 unfold Z4G
 refine zf (ZA6 ..)<|ze<|zq ?_
 refine za (decide (x8 < x7)) ?_ ?_
 ·exact zk (Zhl x0 x7 x8 zV ox0)
 ·exact zk (Zhn zV)
theorem Z8y x0 x7 x8 zV {r} (h : Z4G x0 x7 x8 zV = some r) : Z5N x0 x7 x8 zV = some r :=
 Z1f (fun _ _ ha hb => ru_ Zds (ha .ex) (hb .ex)) (fun ox0 => Zhk x0 x7 x8 zV ox0 r h)
def ZdU : Option Unit :=
 some ()
theorem ZmY zP : Sim (Zb1 zP) ZdU (EE 53 [(.mp 0)] [(rM_ ZE zP)]) := by
 unfold ZdU
 refine zf (ZOR ..)<|ze<|zx (.ptr 1 0) [(rM_ ZE zP), [(.mp 0)]]<|ze ?_
 exact zr ((.clo 78 [] [(.ptr 1 0)]), [(rM_ ZE zP), [(.mp 0)]]) ⟨[], rfl, rfl⟩
theorem ZnC {r} (h : ZdU = some r) : Zb9 = some r :=
 Z1f (fun _ _ ha hb => ru_ (Zom _) (ha default) (hb default)) (fun zP => ZmY zP r h)
def ZcB (b0 : ZD) : Option Z10 :=
 Zao b0.Rules (b0.Rules.length : Int) 0
theorem ZoM b0 b1 zC : Sim Z3W (ZcB b0) (ZAY 0 (.ptr 0 0) (.ptr 1 0) [(Zw b0 zC), (Z15 b1)]) := by
 unfold ZcB
 refine zf (ZI4 ..)<|ze<|zq<|zq<|zp (iv (b0.Rules.length : Int)) (et_ (Z2O (P := PP) (t := 22) (d := 43) (by kernel_rfl) ZE (shrO zC) b0.Rules)) ?_
 exact zk (Zix b0.Rules (b0.Rules.length : Int) 0 b0 b1 (shrO zC) zC)
def ZeV (x0 : ZD) : Option Z10 :=
 (ZbN x0).bind fun r1 =>
 if (!r1) = true then
 (some (Z10.mk 10 0 0))
 else
 (ZcB x0)
theorem Zsm x0 z1b : Sim Z3W (ZeV x0) (EE 16 [(pA_ (Z1q x0 z1b))] []) := by
 unfold ZeV
 refine zf (ZO8 ..)<|ze<|zx (.ptr 0 0) [(Zw x0 z1b)]<|zz (.ptr 1 0) [(Zw x0 z1b), (Z15 Z71)]<|ze<|zq<|zi fun r1 hr1 => ?_
 obtain ⟨_, er1, _, rfl⟩ := Zk0 x0 .sh r1 hr1
 refine zc [] (bv r1) [(Zw x0 z1b), (Z15 Z71)] er1<|zq ?_
 refine za (!r1) ?_ ?_
 ·refine ze<|zq<|zt [(Zw x0 z1b), (Zkw 10 0 0)] ?_
  exact zr ((pA_ (Z1M (Z10.mk 10 0 0))), [(Zw x0 z1b), (Zkw 10 0 0)]) ⟨_, rfl⟩
 ·exact zk (ZoM x0 Z71 z1b)
theorem Ztc x0 {r} (h : ZeV x0 = some r) : ZcM x0 = some r :=
 Z1f (fun _ _ ha hb => ru_ ZeI (ha .ex) (hb .ex)) (fun z1b => Zsm x0 z1b r h)
def Zcc (x11 : List ZA) (x12 x13 : Int) : Option Z10 :=
 Zao x11 x12 (IntKind.i64.wrap (x13 + 1))
theorem Zo0 (x11 : List ZA) x12 x13 b0 b1 ox11 zC : Sim Z3W (Zcc x11 x12 x13) (ZyN 0 (.ptr 1 0) (ZM ox11 (x11.map ZE)) (iv x12) (iv x13) [(Zw b0 zC), (Z15 b1)]) := by
 unfold Zcc
 refine zf (ZFX ..)<|ze<|zq ?_
 exact zk (Zix x11 x12 (IntKind.i64.wrap (x13 + 1)) b0 b1 ox11 zC)
def ZcC (x11 : List ZA) (x12 x13 : Int) : Option Z10 :=
 (lget x11 x13).bind fun a1 =>
 (Z6F a1.Pattern).bind fun r2 =>
 if (r2.Code != 0) = true then
 (some (Z10.mk r2.Code a1.ID r2.At))
 else
 (Zcc x11 x12 x13)
theorem ZoN (x11 : List ZA) x12 x13 b0 b1 ox11 zC : Sim Z3W (ZcC x11 x12 x13) (ZAZ 0 (.ptr 1 0) (ZM ox11 (x11.map ZE)) (iv x12) (iv x13) [(Zw b0 zC), (Z15 b1)]) := by
 unfold ZcC
 refine zf (ZI5 ..)<|ze<|zi fun a1 ha1 => zp (.cptr (Z1Y a1)) (et_ (Z3E (o := ox11) (k := .i64) (n := 5) (e := ZE) (cs := Z52) (fun _ => rfl) (fun _ => rfl) (by decide) ha1))<|zq<|zz (.ptr 2 0) [(Zw b0 zC), (Z15 b1), (Z1P (ZA.mk 0 0 0 0 (ByteArray.mk #[])))]<|zt [(Zw b0 zC), (Z15 b1), (Z1P a1)]<|ze<|zq<|zq<|zi fun r2 hr2 => ?_
 obtain ⟨_, er2, _, rfl⟩ := Zro a1.Pattern r2 hr2
 refine zc [] (pA_ (Z1M r2)) [(Zw b0 zC), (Z15 b1), (Z1P a1)] er2<|zz (.ptr 3 0) [(Zw b0 zC), (Z15 b1), (Z1P a1), (Z15 Z71)]<|zt [(Zw b0 zC), (Z15 b1), (Z1P a1), (Z15 r2)]<|ze<|zq<|zq<|zq ?_
 refine za (r2.Code != 0) ?_ ?_
 ·refine ze<|zq<|zq<|zq<|zt [(Zw b0 zC), (Z15 b1), (Z1P a1), (Zkw r2.Code a1.ID r2.At)]<|ze<|zq<|zt [(Zw b0 zC), (Zkw r2.Code a1.ID r2.At), (Z1P a1), (Zkw r2.Code a1.ID r2.At)] ?_
  exact zr ((pA_ (Z1M (Z10.mk r2.Code a1.ID r2.At))), [(Zw b0 zC), (Zkw r2.Code a1.ID r2.At), (Z1P a1), (Zkw r2.Code a1.ID r2.At)]) ⟨_, rfl⟩
 ·exact zk (Zo0 x11 x12 x13 b0 b1 ox11 zC)
def Zcd : Option Z10 :=
 some (Z10.mk 0 0 0)
theorem Zo1 b0 b1 zC : Sim Z3W Zcd (ZyO 0 (.ptr 1 0) [(Zw b0 zC), (Z15 b1)]) := by
 unfold Zcd
 refine zf (ZFY ..)<|ze<|zq<|zt [(Zw b0 zC), (Z15 Z71)] ?_
 exact zr ((pA_ (Z1M Z71)), [(Zw b0 zC), (Z15 Z71)]) ⟨_, rfl⟩
def Zam (x11 : List ZA) (x12 x13 : Int) : Option Z10 :=
 if (decide (x13 < x12)) = true then
 (ZcC x11 x12 x13)
 else
 Zcd
theorem ZoL (x11 : List ZA) x12 x13 b0 b1 ox11 zC : Sim Z3W (Zam x11 x12 x13) (Zsu 0 (.ptr 1 0) (ZM ox11 (x11.map ZE)) (iv x12) (iv x13) [(Zw b0 zC), (Z15 b1)]) := by
 unfold Zam
 refine zf (ZI3 ..)<|ze<|zq ?_
 refine za (decide (x13 < x12)) ?_ ?_
 ·exact zk (ZoN x11 x12 x13 b0 b1 ox11 zC)
 ·exact zk (Zo1 b0 b1 zC)
theorem Ziw x11 x12 x13 {r} (h : Zam x11 x12 x13 = some r) : Zao x11 x12 x13 = some r :=
 Z1f (fun _ _ ha hb => ru_ ZeI (ha default default .ex .ex) (hb default default .ex .ex)) (fun b0 b1 ox11 zC => ZoL x11 x12 x13 b0 b1 ox11 zC r h)
def Z9k (b1 : Z1Q) : Option Z10 :=
 (ZhL b1).bind fun r1 =>
 some (Z10.mk r1 0 0)
theorem Zne b0 b1 zfA zex : Sim Z3W (Z9k b1) (ZBd 0 (.ptr 0 0) (.ptr 1 0) [(Z15 b0), (Z1t b1 zfA zex)]) := by
 unfold Z9k
 refine zf (ZIk ..)<|ze<|zq<|zi fun r1 hr1 => ?_
 obtain ⟨_, er1, _, rfl⟩ := ZvF b1 .sh .sh r1 hr1
 refine zc [] (iv r1) [(Z15 b0), (Z1t b1 zfA zex)] er1<|zq<|zt [(Zkw r1 0 0), (Z1t b1 zfA zex)] ?_
 exact zr ((pA_ (Z1M (Z10.mk r1 0 0))), [(Zkw r1 0 0), (Z1t b1 zfA zex)]) ⟨_, rfl⟩
def Z7W (x0 : ByteArray) : Option Z10 :=
 (ZhI x0).bind fun r1 =>
 if (r1.2.Code != 0) = true then
 (some (Z10.mk r1.2.Code 0 r1.2.At))
 else
 (Z9k r1.1)
theorem ZpY x0 : Sim Z3W (Z7W x0) (EE 21 [(.p (.v (.string x0)))] []) := by
 unfold Z7W
 refine zf (ZOi ..)<|ze<|zz (.ptr 0 0) [(Z15 Z71)]<|ze<|zi fun r1 hr1 => ?_
 obtain ⟨_, er1, _, rfl⟩ := Zvv x0 r1 hr1
 refine zc [] (.p (.tup [(.agg (Z4k r1.1 .sh .sh)), (.agg (Z6B r1.2))])) [(Z15 Z71)] er1<|zq<|zq<|zz (.ptr 1 0) [(Z15 Z71), (Z1t ZgV .nl .nl)]<|zz (.ptr 2 0) [(Z15 Z71), (Z1t ZgV .nl .nl), (Z2b ZjF)]<|zt [(Z15 Z71), (Z1t r1.1 .sh .sh), (Z2b ZjF)]<|zt [(Z15 Z71), (Z1t r1.1 .sh .sh), (Z2b r1.2)]<|ze<|zq<|zq<|zq ?_
 refine za (r1.2.Code != 0) ?_ ?_
 ·refine ze<|zq<|zq<|zq<|zq<|zq<|zt [(Zkw r1.2.Code 0 r1.2.At), (Z1t r1.1 .sh .sh), (Z2b r1.2)] ?_
  exact zr ((pA_ (Z1M (Z10.mk r1.2.Code 0 r1.2.At))), [(Zkw r1.2.Code 0 r1.2.At), (Z1t r1.1 .sh .sh), (Z2b r1.2)]) ⟨_, rfl⟩
 ·exact zk (Zne Z71 r1.1 .sh .sh)
theorem Zbf x0 {r} (h : Z7W x0 = some r) : Z6F x0 = some r :=
 Z1f (fun _ _ ha hb => ru_ ZeI ha hb) (ZpY x0 r h)
def Z6f (z3R : List Int) (z1A : Int) (z2I : List Zz) (z1h z1F z1n z1H z1G z1o z1v : Int) (z1w : List Zi) (z1m : List Zj) (z2f : Bool) : Option (Z1Q × Z1p) :=
 Z9Y z2I (z2I.length : Int) 0 z3R z1A z1h z1F z1n z1H z1G z1o z1v z1w z1m z2f
theorem Zeg b0 b1 z3R z3J z1A z3m z2I z1h z1F z1n z1H z1G z1o z1v z1w z1m z37 z2f z1O z1I z4D z2s z20 z1V (z3a : ZW z1O = true) (z2V : ZW z1I = true) (z4M : ZW z2s = true) : Sim Z5i (Z6f z3R z1A z2I z1h z1F z1n z1H z1G z1o z1v z1w z1m z2f) (ZsF 0 (.ptr 0 0) (.ptr 1 0) (.ptr 2 0) (.ptr 3 0) [(Z1t b0 z1O z1I), (Z2b b1), (ZY z3R z3J z1A z3m z2I z1h z1F z4D z2s), (ZbT z1n z1H z1G z1o z1v z1w z1m z37 z2f z20 z1V)]) := by
 unfold Z6f
 refine zf (ZIP ..)<|ze<|zq<|zq<|zq<|zp (iv (z2I.length : Int)) (et_ (Z2O (P := PP) (t := 142) (d := 149) (by kernel_rfl) Z3I (shrO z2s) z2I)) ?_
 exact zk (ZjQ z2I (z2I.length : Int) 0 b0 b1 z3R z3J z1A z3m z2I z1h z1F z1n z1H z1G z1o z1v z1w z1m z37 z2f (shrO z2s) z1O z1I z4D z2s z20 z1V z3a z2V z4M)
def Zbs (z3R : List Int) (z3J z1A : Int) (z2I : List Zz) (z1h z1F z1n z1H z1G z1o z1v : Int) (z1w : List Zi) (z1m : List Zj) (z2f : Bool) : Option (Z1Q × Z1p) :=
 (Z1D 20 z3J z3R z1h z1F).bind fun r1 =>
 Z6f z3R z1A z2I r1.2.1 r1.2.2 z1n z1H z1G z1o z1v z1w z1m z2f
theorem ZqL b0 b1 z3R z3J z1A z3m z2I z1h z1F z1n z1H z1G z1o z1v z1w z1m z37 z2f z1O z1I z4D z2s z20 z1V (z3a : ZW z1O = true) (z2V : ZW z1I = true) (z4M : ZW z2s = true) : Sim Z5i (Zbs z3R z3J z1A z2I z1h z1F z1n z1H z1G z1o z1v z1w z1m z2f) (ZBG 0 (.ptr 0 0) (.ptr 1 0) (.ptr 2 0) (.ptr 3 0) [(Z1t b0 z1O z1I), (Z2b b1), (ZY z3R z3J z1A z3m z2I z1h z1F z4D z2s), (ZbT z1n z1H z1G z1o z1v z1w z1m z37 z2f z20 z1V)]) := by
 unfold Zbs
 refine zf (ZIO ..)<|ze<|zq<|zq<|zq<|zi fun r1 hr1 => ?_
 obtain ⟨_, er1, _, rfl⟩ := Z1J 20 z3J z3R z3J z1A z3m z2I z1h z1F z4D z2s z4M r1 hr1
 refine zc [2] (.p (.tup [])) [(Z1t b0 z1O z1I), (Z2b b1), (ZY z3R r1.1 z1A z3m z2I r1.2.1 r1.2.2 z4D z2s), (ZbT z1n z1H z1G z1o z1v z1w z1m z37 z2f z20 z1V)] er1 ?_
 exact zk (Zeg b0 b1 z3R r1.1 z1A z3m z2I r1.2.1 r1.2.2 z1n z1H z1G z1o z1v z1w z1m z37 z2f z1O z1I z4D z2s z20 z1V z3a z2V z4M)
def ZdV (x0 : ByteArray) : Option (Z1Q × Z1p) :=
 (Z2p (ByteArray.mk #[40, 63, 105, 41]) (Z5t x0) 0).bind fun r1 =>
 (Z5w (Z5t x0) r1.2 0 0 ([] : List Zz) 0 0).bind fun r2 =>
 if (r2.2.2.2.2.2.1 == 0) = true then
 (if (decide (r2.2.1 < ((Z5t x0).length : Int))) = true then
 (Zbs (Z5t x0) r2.2.1 r2.2.2.1 r2.2.2.2.2.1 r2.2.2.2.2.2.1 r2.2.2.2.2.2.2 r2.1.Kind r2.1.Lo r2.1.Hi r2.1.Mode r2.1.Ref r2.1.Set r2.1.Kids r1.1)
 else
 (Z6f (Z5t x0) r2.2.2.1 r2.2.2.2.2.1 r2.2.2.2.2.2.1 r2.2.2.2.2.2.2 r2.1.Kind r2.1.Lo r2.1.Hi r2.1.Mode r2.1.Ref r2.1.Set r2.1.Kids r1.1))
 else
 (Z6f (Z5t x0) r2.2.2.1 r2.2.2.2.2.1 r2.2.2.2.2.2.1 r2.2.2.2.2.2.2 r2.1.Kind r2.1.Lo r2.1.Hi r2.1.Mode r2.1.Ref r2.1.Set r2.1.Kids r1.1)
theorem ZqK x0 b0 b1 z1O z1I (z3a : ZW z1O = true) (z2V : ZW z1I = true) : Sim Z5i (ZdV x0) (ZBF 0 (.p (.v (.string x0))) (.ptr 0 0) (.ptr 1 0) [(Z1t b0 z1O z1I), (Z2b b1)]) := by
 unfold ZdV
 refine zf (ZIN ..)<|ze<|zp (ZM .sh ((Z5t x0).map (eI .u8))) (et_ (ZLr (P := PP) (s := 9) (d := 141) (by kernel_rfl) (by kernel_rfl) x0))<|zq<|zx (.ptr 2 0) [(Z1t b0 z1O z1I), (Z2b b1), (Z4V (Z2c.mk (Z5t x0) 0 0 0 ([] : List Zz) ZjF) .sh .nl)]<|ze<|zi fun r1 hr1 => ?_
 obtain ⟨_, er1, _, rfl⟩ := Z2y (ByteArray.mk #[40, 63, 105, 41]) (Z5t x0) 0 0 0 ([] : List Zz) 0 0 .sh .nl rfl r1 hr1
 refine zc [2] (bv r1.1) [(Z1t b0 z1O z1I), (Z2b b1), (Z4V (Z2c.mk (Z5t x0) r1.2 0 0 ([] : List Zz) ZjF) .sh .nl)] er1<|zq<|zz (.ptr 3 0) [(Z1t b0 z1O z1I), (Z2b b1), (Z4V (Z2c.mk (Z5t x0) r1.2 0 0 ([] : List Zz) ZjF) .sh .nl), (Z1t ZgV .nl .nl)]<|zt [(Z1t b0 z1O z1I), (Z2b b1), (Z4V (Z2c.mk (Z5t x0) r1.2 0 0 ([] : List Zz) ZjF) .sh .nl), (Z1t (Z1Q.mk Z2j 0 r1.1) .nl .nl)]<|ze<|zi fun r2 hr2 => ?_
 obtain ⟨_, er2, zq9, _, zvO, rfl⟩ := Zir (Z5t x0) r1.2 0 0 ([] : List Zz) 0 0 .sh .nl rfl r2 hr2
 refine zc [2] (pA_ (ZQ r2.1 .sh .sh)) [(Z1t b0 z1O z1I), (Z2b b1), (ZY (Z5t x0) r2.2.1 r2.2.2.1 r2.2.2.2.1 r2.2.2.2.2.1 r2.2.2.2.2.2.1 r2.2.2.2.2.2.2 .sh zq9), (Z1t (Z1Q.mk Z2j 0 r1.1) .nl .nl)] er2<|zq<|zt [(Z1t b0 z1O z1I), (Z2b b1), (ZY (Z5t x0) r2.2.1 r2.2.2.1 r2.2.2.2.1 r2.2.2.2.2.1 r2.2.2.2.2.2.1 r2.2.2.2.2.2.2 .sh zq9), (ZbT r2.1.Kind r2.1.Lo r2.1.Hi r2.1.Mode r2.1.Ref r2.1.Set r2.1.Kids 0 r1.1 .sh .sh)]<|ze<|zq<|zq<|zq<|zq<|zq ?_
 refine za (r2.2.2.2.2.2.1 == 0) ?_ ?_
 ·refine zq<|zq<|zq<|zq<|zq<|zq<|zp (iv ((Z5t x0).length : Int)) (et_ (Z2O (P := PP) (t := 141) (d := 5) (by kernel_rfl) (eI .u8) .sh (Z5t x0)))<|zq ?_
  refine za (decide (r2.2.1 < ((Z5t x0).length : Int))) ?_ ?_
  ·exact zk (ZqL b0 b1 (Z5t x0) r2.2.1 r2.2.2.1 r2.2.2.2.1 r2.2.2.2.2.1 r2.2.2.2.2.2.1 r2.2.2.2.2.2.2 r2.1.Kind r2.1.Lo r2.1.Hi r2.1.Mode r2.1.Ref r2.1.Set r2.1.Kids 0 r1.1 z1O z1I .sh zq9 .sh .sh z3a z2V zvO)
  ·exact zk (Zeg b0 b1 (Z5t x0) r2.2.1 r2.2.2.1 r2.2.2.2.1 r2.2.2.2.2.1 r2.2.2.2.2.2.1 r2.2.2.2.2.2.2 r2.1.Kind r2.1.Lo r2.1.Hi r2.1.Mode r2.1.Ref r2.1.Set r2.1.Kids 0 r1.1 z1O z1I .sh zq9 .sh .sh z3a z2V zvO)
 ·exact zk (Zeg b0 b1 (Z5t x0) r2.2.1 r2.2.2.1 r2.2.2.2.1 r2.2.2.2.2.1 r2.2.2.2.2.2.1 r2.2.2.2.2.2.2 r2.1.Kind r2.1.Lo r2.1.Hi r2.1.Mode r2.1.Ref r2.1.Set r2.1.Kids 0 r1.1 z1O z1I .sh zq9 .sh .sh z3a z2V zvO)
def ZhD (x0 : ByteArray) : Option (Z1Q × Z1p) :=
 if (decide (256 < (x0.size : Int))) = true then
 (some ((Z1Q.mk (Zj.mk 0 0 0 0 0 ([] : List Zi) ([] : List Zj)) 0 false), (Z1p.mk 12 0)))
 else
 (ZdV x0)
theorem ZuI x0 : Sim Z5i (ZhD x0) (EE 47 [(.p (.v (.string x0)))] []) := by
 unfold ZhD
 refine zf (ZOK ..)<|ze<|zz (.ptr 0 0) [(Z1t ZgV .nl .nl)]<|zz (.ptr 1 0) [(Z1t ZgV .nl .nl), (Z2b ZjF)]<|ze<|zq<|zq ?_
 refine za (decide (256 < (x0.size : Int))) ?_ ?_
 ·refine ze<|zq<|zq<|zt [(Z1t ZgV .nl .nl), (Z2b ZjF)]<|zt [(Z1t ZgV .nl .nl), (Z2b (Z1p.mk 12 0))] ?_
  exact zr ((.p (.tup [(.agg (Z4k ZgV .sh .sh)), (.agg (Z6B (Z1p.mk 12 0)))])), [(Z1t ZgV .nl .nl), (Z2b (Z1p.mk 12 0))]) ⟨_, rfl⟩
 ·exact zk (ZqK x0 ZgV ZjF .nl .nl rfl rfl)
theorem Zvu x0 {r} (h : ZhD x0 = some r) : ZhI x0 = some r :=
 Z1f (fun _ _ ha hb => ru_ Zo2 ha hb) (ZuI x0 r h)
def Z6E (x50 : List Zz) (x51 x52 : Int) (z3R : List Int) (z1A z1h z1F z1n z1H z1G z1o z1v : Int) (z1w : List Zi) (z1m : List Zj) (z2f : Bool) : Option (Z1Q × Z1p) :=
 Z9Y x50 x51 (IntKind.i64.wrap (x52 + 1)) z3R z1A z1h z1F z1n z1H z1G z1o z1v z1w z1m z2f
theorem Zip (x50 : List Zz) x51 x52 b0 b1 z3R z3J z1A z3m z2I z1h z1F z1n z1H z1G z1o z1v z1w z1m z37 z2f ox50 z1O z1I z4D z2s z20 z1V (z3a : ZW z1O = true) (z2V : ZW z1I = true) (z4M : ZW z2s = true) : Sim Z5i (Z6E x50 x51 x52 z3R z1A z1h z1F z1n z1H z1G z1o z1v z1w z1m z2f) (Zul 0 (.ptr 0 0) (.ptr 1 0) (.ptr 2 0) (.ptr 3 0) (ZM ox50 (x50.map Z3I)) (iv x51) (iv x52) [(Z1t b0 z1O z1I), (Z2b b1), (ZY z3R z3J z1A z3m z2I z1h z1F z4D z2s), (ZbT z1n z1H z1G z1o z1v z1w z1m z37 z2f z20 z1V)]) := by
 unfold Z6E
 refine zf (ZGI ..)<|ze<|zq ?_
 exact zk (ZjQ x50 x51 (IntKind.i64.wrap (x52 + 1)) b0 b1 z3R z3J z1A z3m z2I z1h z1F z1n z1H z1G z1o z1v z1w z1m z37 z2f ox50 z1O z1I z4D z2s z20 z1V z3a z2V z4M)
def ZaO (x50 : List Zz) (x51 x52 : Int) (z3R : List Int) (z1A z1h z1F z1n z1H z1G z1o z1v : Int) (z1w : List Zi) (z1m : List Zj) (z2f : Bool) : Option (Z1Q × Z1p) :=
 (lget x50 x52).bind fun a1 =>
 if (decide (z1A < a1.group)) = true then
 ((Z1D 26 a1.at_ z3R z1h z1F).bind fun r2 =>
 Z6E x50 x51 x52 z3R z1A r2.2.1 r2.2.2 z1n z1H z1G z1o z1v z1w z1m z2f)
 else
 (Z6E x50 x51 x52 z3R z1A z1h z1F z1n z1H z1G z1o z1v z1w z1m z2f)
theorem ZpD (x50 : List Zz) x51 x52 b0 b1 z3R z3J z1A z3m z2I z1h z1F z1n z1H z1G z1o z1v z1w z1m z37 z2f ox50 z1O z1I z4D z2s z20 z1V (z3a : ZW z1O = true) (z2V : ZW z1I = true) (z4M : ZW z2s = true) : Sim Z5i (ZaO x50 x51 x52 z3R z1A z1h z1F z1n z1H z1G z1o z1v z1w z1m z2f) (ZzE 0 (.ptr 0 0) (.ptr 1 0) (.ptr 2 0) (.ptr 3 0) (ZM ox50 (x50.map Z3I)) (iv x51) (iv x52) [(Z1t b0 z1O z1I), (Z2b b1), (ZY z3R z3J z1A z3m z2I z1h z1F z4D z2s), (ZbT z1n z1H z1G z1o z1v z1w z1m z37 z2f z20 z1V)]) := by
 unfold ZaO
 refine zf (ZGH ..)<|ze<|zi fun a1 ha1 => zp (.cptr (Zic a1)) (et_ (Z3E (o := ox50) (k := .i64) (n := 2) (e := Z3I) (cs := Zed) (fun _ => rfl) (fun _ => rfl) (by decide) ha1))<|zq<|zz (.ptr 4 0) [(Z1t b0 z1O z1I), (Z2b b1), (ZY z3R z3J z1A z3m z2I z1h z1F z4D z2s), (ZbT z1n z1H z1G z1o z1v z1w z1m z37 z2f z20 z1V), (Zig (Zz.mk 0 0))]<|zt [(Z1t b0 z1O z1I), (Z2b b1), (ZY z3R z3J z1A z3m z2I z1h z1F z4D z2s), (ZbT z1n z1H z1G z1o z1v z1w z1m z37 z2f z20 z1V), (Zig a1)]<|ze<|zq<|zq<|zq<|zq<|zq<|zq ?_
 refine za (decide (z1A < a1.group)) ?_ ?_
 ·refine ze<|zq<|zq<|zi fun r2 hr2 => ?_
  obtain ⟨_, er2, _, rfl⟩ := Z1J 26 a1.at_ z3R z3J z1A z3m z2I z1h z1F z4D z2s z4M r2 hr2
  refine zc [2] (.p (.tup [])) [(Z1t b0 z1O z1I), (Z2b b1), (ZY z3R r2.1 z1A z3m z2I r2.2.1 r2.2.2 z4D z2s), (ZbT z1n z1H z1G z1o z1v z1w z1m z37 z2f z20 z1V), (Zig a1)] er2 ?_
  exact zk (Zip x50 x51 x52 b0 b1 z3R r2.1 z1A z3m z2I r2.2.1 r2.2.2 z1n z1H z1G z1o z1v z1w z1m z37 z2f ox50 z1O z1I z4D z2s z20 z1V z3a z2V z4M)
 ·exact zk (Zip x50 x51 x52 b0 b1 z3R z3J z1A z3m z2I z1h z1F z1n z1H z1G z1o z1v z1w z1m z37 z2f ox50 z1O z1I z4D z2s z20 z1V z3a z2V z4M)
def Zgr (z1A z1n z1H z1G z1o z1v : Int) (z1w : List Zi) (z1m : List Zj) (z2f : Bool) : Option (Z1Q × Z1p) :=
 some ((Z1Q.mk (Zj.mk z1n z1H z1G z1o z1v z1w z1m) z1A z2f), (Z1p.mk 0 0))
theorem ZpF b0 b1 z3R z3J z1A z3m z2I z1h z1F z1n z1H z1G z1o z1v z1w z1m z37 z2f z1O z1I z4D z2s z20 z1V (z3a : ZW z1O = true) (z2V : ZW z1I = true) (z4M : ZW z2s = true) : Sim Z5i (Zgr z1A z1n z1H z1G z1o z1v z1w z1m z2f) (ZzG 0 (.ptr 0 0) (.ptr 1 0) (.ptr 2 0) (.ptr 3 0) [(Z1t b0 z1O z1I), (Z2b b1), (ZY z3R z3J z1A z3m z2I z1h z1F z4D z2s), (ZbT z1n z1H z1G z1o z1v z1w z1m z37 z2f z20 z1V)]) := by
 unfold Zgr
 refine zf (ZGK ..)<|ze<|zq<|zq<|zq<|zq<|zt [(Z1t b0 z1O z1I), (Z2b b1), (ZY z3R z3J z1A z3m z2I z1h z1F z4D z2s), (ZbT z1n z1H z1G z1o z1v z1w z1m z1A z2f z20 z1V)]<|ze<|zq<|zq<|zt [(ZbT z1n z1H z1G z1o z1v z1w z1m z1A z2f (shrO z20) (shrO z1V)), (Z2b b1), (ZY z3R z3J z1A z3m z2I z1h z1F z4D z2s), (ZbT z1n z1H z1G z1o z1v z1w z1m z1A z2f z20 z1V)]<|zt [(ZbT z1n z1H z1G z1o z1v z1w z1m z1A z2f (shrO z20) (shrO z1V)), (Z2b ZjF), (ZY z3R z3J z1A z3m z2I z1h z1F z4D z2s), (ZbT z1n z1H z1G z1o z1v z1w z1m z1A z2f z20 z1V)] ?_
 exact zr ((.p (.tup [(.agg (Z4k (Z1Q.mk (Zj.mk z1n z1H z1G z1o z1v z1w z1m) z1A z2f) .sh .sh)), (.agg (Z6B ZjF))])), [(ZbT z1n z1H z1G z1o z1v z1w z1m z1A z2f (shrO z20) (shrO z1V)), (Z2b ZjF), (ZY z3R z3J z1A z3m z2I z1h z1F z4D z2s), (ZbT z1n z1H z1G z1o z1v z1w z1m z1A z2f z20 z1V)]) ⟨_, rfl⟩
def ZaP (z1A z1h z1F z1n z1H z1G z1o z1v : Int) (z1w : List Zi) (z1m : List Zj) (z2f : Bool) : Option (Z1Q × Z1p) :=
 if (z1h != 0) = true then
 (some ((Z1Q.mk (Zj.mk 0 0 0 0 0 ([] : List Zi) ([] : List Zj)) 0 false), (Z1p.mk z1h z1F)))
 else
 (Zgr z1A z1n z1H z1G z1o z1v z1w z1m z2f)
theorem ZpE b0 b1 z3R z3J z1A z3m z2I z1h z1F z1n z1H z1G z1o z1v z1w z1m z37 z2f z1O z1I z4D z2s z20 z1V (z3a : ZW z1O = true) (z2V : ZW z1I = true) (z4M : ZW z2s = true) : Sim Z5i (ZaP z1A z1h z1F z1n z1H z1G z1o z1v z1w z1m z2f) (ZzF 0 (.ptr 0 0) (.ptr 1 0) (.ptr 2 0) (.ptr 3 0) [(Z1t b0 z1O z1I), (Z2b b1), (ZY z3R z3J z1A z3m z2I z1h z1F z4D z2s), (ZbT z1n z1H z1G z1o z1v z1w z1m z37 z2f z20 z1V)]) := by
 unfold ZaP
 refine zf (ZGJ ..)<|ze<|zq<|zq<|zq<|zq<|zq ?_
 refine za (z1h != 0) ?_ ?_
 ·refine ze<|zq<|zq<|zq<|zq<|zt [(Z1t ZgV .nl .nl), (Z2b b1), (ZY z3R z3J z1A z3m z2I z1h z1F z4D z2s), (ZbT z1n z1H z1G z1o z1v z1w z1m z37 z2f z20 z1V)]<|zt [(Z1t ZgV .nl .nl), (Z2b (Z1p.mk z1h z1F)), (ZY z3R z3J z1A z3m z2I z1h z1F z4D z2s), (ZbT z1n z1H z1G z1o z1v z1w z1m z37 z2f z20 z1V)]<|zg ?_
  exact zr ((.p (.tup [(.agg (Z4k ZgV .sh .sh)), (.agg (Z6B (Z1p.mk z1h z1F)))])), [(Z1t ZgV .nl .nl), (Z2b (Z1p.mk z1h z1F)), (ZY z3R z3J z1A z3m z2I z1h z1F z4D z2s), (ZbT z1n z1H z1G z1o z1v z1w z1m z37 z2f z20 z1V)]) ⟨_, rfl⟩
 ·exact zk (ZpF b0 b1 z3R z3J z1A z3m z2I z1h z1F z1n z1H z1G z1o z1v z1w z1m z37 z2f z1O z1I z4D z2s z20 z1V z3a z2V z4M)
def Z8u (x50 : List Zz) (x51 x52 : Int) (z3R : List Int) (z1A z1h z1F z1n z1H z1G z1o z1v : Int) (z1w : List Zi) (z1m : List Zj) (z2f : Bool) : Option (Z1Q × Z1p) :=
 if (decide (x52 < x51)) = true then
 (ZaO x50 x51 x52 z3R z1A z1h z1F z1n z1H z1G z1o z1v z1w z1m z2f)
 else
 (ZaP z1A z1h z1F z1n z1H z1G z1o z1v z1w z1m z2f)
theorem ZqJ (x50 : List Zz) x51 x52 b0 b1 z3R z3J z1A z3m z2I z1h z1F z1n z1H z1G z1o z1v z1w z1m z37 z2f ox50 z1O z1I z4D z2s z20 z1V (z3a : ZW z1O = true) (z2V : ZW z1I = true) (z4M : ZW z2s = true) : Sim Z5i (Z8u x50 x51 x52 z3R z1A z1h z1F z1n z1H z1G z1o z1v z1w z1m z2f) (ZsE 0 (.ptr 0 0) (.ptr 1 0) (.ptr 2 0) (.ptr 3 0) (ZM ox50 (x50.map Z3I)) (iv x51) (iv x52) [(Z1t b0 z1O z1I), (Z2b b1), (ZY z3R z3J z1A z3m z2I z1h z1F z4D z2s), (ZbT z1n z1H z1G z1o z1v z1w z1m z37 z2f z20 z1V)]) := by
 unfold Z8u
 refine zf (ZIM ..)<|ze<|zq ?_
 refine za (decide (x52 < x51)) ?_ ?_
 ·exact zk (ZpD x50 x51 x52 b0 b1 z3R z3J z1A z3m z2I z1h z1F z1n z1H z1G z1o z1v z1w z1m z37 z2f ox50 z1O z1I z4D z2s z20 z1V z3a z2V z4M)
 ·exact zk (ZpE b0 b1 z3R z3J z1A z3m z2I z1h z1F z1n z1H z1G z1o z1v z1w z1m z37 z2f z1O z1I z4D z2s z20 z1V z3a z2V z4M)
theorem Zce x50 x51 x52 z3R z1A z1h z1F z1n z1H z1G z1o z1v z1w z1m z2f {r} (h : Z8u x50 x51 x52 z3R z1A z1h z1F z1n z1H z1G z1o z1v z1w z1m z2f = some r) : Z9Y x50 x51 x52 z3R z1A z1h z1F z1n z1H z1G z1o z1v z1w z1m z2f = some r :=
 Z1f (fun _ _ ha hb => ru_ Zo2 (ha default default default default default default .ex .ex .ex .ex .ex .ex .ex rfl rfl rfl) (hb default default default default default default .ex .ex .ex .ex .ex .ex .ex rfl rfl rfl)) (fun b0 b1 z3J z3m z2I z37 ox50 z1O z1I z4D z2s z20 z1V z3a z2V z4M => ZqJ x50 x51 x52 b0 b1 z3R z3J z1A z3m z2I z1h z1F z1n z1H z1G z1o z1v z1w z1m z37 z2f ox50 z1O z1I z4D z2s z20 z1V z3a z2V z4M r h)
def Zab (zn : Int) : Option (Bool × Int) :=
 some (false, zn)
theorem Zev zl zn z7 zd zh z2 z6 zu zb (zy : ZW zb = true) : Sim (Z8b zl z7 zd zh z2 z6 zu zb) (Zab zn) (ZwS 1 [(ZY zl zn z7 zd zh z2 z6 zu zb)]) := by
 unfold Zab
 refine zf (ZIU ..)<|ze ?_
 exact zr ((bv false), [(ZY zl zn z7 zd zh z2 z6 zu zb)]) ⟨_, rfl⟩
def Zac (x1 : ByteArray) (zn : Int) : Option (Bool × Int) :=
 some (true, (IntKind.i64.wrap (zn + (x1.size : Int))))
theorem ZlK x1 zl zn z7 zd zh z2 z6 zu zb (zy : ZW zb = true) : Sim (Z8b zl z7 zd zh z2 z6 zu zb) (Zac x1 zn) (ZBM 1 (.ptr 0 0) (.p (.v (.string x1))) [(ZY zl zn z7 zd zh z2 z6 zu zb)]) := by
 unfold Zac
 refine zf (ZIV ..)<|ze<|zq<|zq<|zq<|zq<|zq<|zq<|zq<|zt [(ZY zl (IntKind.i64.wrap (zn + (x1.size : Int))) z7 zd zh z2 z6 zu zb)]<|ze ?_
 exact zr ((bv true), [(ZY zl (IntKind.i64.wrap (zn + (x1.size : Int))) z7 zd zh z2 z6 zu zb)]) ⟨_, rfl⟩
def Zc4 (x1 : ByteArray) (zl : List Int) (zn : Int) : Option (Bool × Int) :=
 if ((decide ((IntKind.i64.wrap ((zl.length : Int) - zn)) < (x1.size : Int)))) = true then
 (Zab zn)
 else
 ((lsl zl zn (IntKind.i64.wrap (zn + (x1.size : Int)))).bind fun a1 =>
 if (!(seq (strI a1) x1)) = true then
 (Zab zn)
 else
 (Zac x1 zn))
theorem ZnQ x1 zl zn z7 zd zh z2 z6 zu zb (zy : ZW zb = true) : Sim (Z8b zl z7 zd zh z2 z6 zu zb) (Zc4 x1 zl zn) (EE 68 [(.ptr 0 0), (.p (.v (.string x1)))] [(ZY zl zn z7 zd zh z2 z6 zu zb)]) := by
 unfold Zc4
 refine zf (ZOY ..)<|ze<|ze<|zq<|zq<|zq<|zp (iv (zl.length : Int)) (et_ (Z2O (P := PP) (t := 141) (d := 5) (by kernel_rfl) (eI .u8) (shrO zu) zl))<|zq<|zq<|zq<|zq<|zq<|zq ?_
 refine za ((decide ((IntKind.i64.wrap ((zl.length : Int) - zn)) < (x1.size : Int)))) ?_ ?_
 ·exact zk (Zev zl zn z7 zd zh z2 z6 zu zb zy)
 ·refine zq<|zq<|zq<|zq<|zq<|zq<|zq<|zq<|zq<|zq<|zq<|zi fun a1 ha1 => zp (ZM (slO (shrO zu)) (a1.map (eI .u8))) (Eq.trans (by kernel_rfl) <| ZKk (n := 1) (o := (shrO zu)) (lo := (some (iv zn))) (hi := (some (iv (IntKind.i64.wrap (zn + (x1.size : Int)))))) (e := (eI .u8)) (fun _ => rfl) (by decide) (by kernel_rfl) (by kernel_rfl) ha1)<|zp (.p (.v (.string (strI a1)))) (et_ (ZLs (P := PP) (s := 141) (d := 9) (by kernel_rfl) (slO (shrO zu)) a1))<|zq ?_
  refine za (!(seq (strI a1) x1)) ?_ ?_
  ·exact zk (Zev zl zn z7 zd zh z2 z6 zu zb zy)
  ·exact zk (ZlK x1 zl zn z7 zd zh z2 z6 zu zb zy)
theorem ZoD x1 zl zn {r} (h : Zc4 x1 zl zn = some r) : Z2p x1 zl zn = some r :=
 Z1f (fun _ _ ha hb => ru_ (Zp0 _ _ _ _ _ _ _ _) (ha default default default default default .ex .ex rfl) (hb default default default default default .ex .ex rfl)) (fun z7 zd zh z2 z6 zu zb zy => ZnQ x1 zl zn z7 zd zh z2 z6 zu zb zy r h)
def Z8F (zl : List Int) (zn z7 zd : Int) (zh : List Zz) (z2 z6 : Int) : Option (Zj × Int × Int × Int × (List Zz) × Int × Int) :=
 (Z8R zl zn z7 zd zh z2 z6).bind fun r1 =>
 Z77 ([r1.1] : List Zj) zl r1.2.1 r1.2.2.1 r1.2.2.2.1 r1.2.2.2.2.1 r1.2.2.2.2.2.1 r1.2.2.2.2.2.2
theorem Zox zl zn z7 zd zh z2 z6 zu zb (zy : ZW zb = true) : Sim (Z3h zl zu) (Z8F zl zn z7 zd zh z2 z6) (EE 69 [(.ptr 0 0)] [(ZY zl zn z7 zd zh z2 z6 zu zb)]) := by
 unfold Z8F
 refine zf (ZP0 ..)<|ze<|zz (.ptr 1 0) [(ZY zl zn z7 zd zh z2 z6 zu zb), (Zv Z2j .nl .nl)]<|ze<|zi fun r1 hr1 => ?_
 obtain ⟨_, er1, z6D, _, zbS, rfl⟩ := Zit zl zn z7 zd zh z2 z6 zu zb zy r1 hr1
 refine zc [0] (pA_ (ZQ r1.1 .sh .sh)) [(ZY zl r1.2.1 r1.2.2.1 r1.2.2.2.1 r1.2.2.2.2.1 r1.2.2.2.2.2.1 r1.2.2.2.2.2.2 zu z6D), (Zv Z2j .nl .nl)] er1<|zp (ZM .ex (([r1.1] : List Zj).map Z14)) (Eq.trans (b := some (ZM .ex [.agg (Z3P r1.1)])) (by kernel_rfl) (by simp only [Z93, Zno, Z6h])) ?_
 exact zk (Zfg ([r1.1] : List Zj) zl r1.2.1 r1.2.2.1 r1.2.2.2.1 r1.2.2.2.2.1 r1.2.2.2.2.2.1 r1.2.2.2.2.2.2 Z2j .ex zu z6D .nl .nl rfl zbS rfl rfl)
theorem Ziq zl zn z7 zd zh z2 z6 {r} (h : Z8F zl zn z7 zd zh z2 z6 = some r) : Z5w zl zn z7 zd zh z2 z6 = some r :=
 Z1f (fun _ _ ha hb => ru_ (Zb2 _ _) (ha .ex .ex rfl) (hb .ex .ex rfl)) (fun zu zb zy => Zox zl zn z7 zd zh z2 z6 zu zb zy r h)
def ZaB (x3 : List Zj) (zl : List Int) (zn z7 zd : Int) (zh : List Zz) (z2 z6 : Int) : Option (Zj × Int × Int × Int × (List Zz) × Int × Int) :=
 (Z8R zl zn z7 zd zh z2 z6).bind fun r1 =>
 (lapp x3 ([r1.1] : List Zj)).bind fun a2 =>
 Z77 a2 zl r1.2.1 r1.2.2.1 r1.2.2.2.1 r1.2.2.2.2.1 r1.2.2.2.2.2.1 r1.2.2.2.2.2.2
theorem Zmd (x3 : List Zj) zl zn z7 zd zh z2 z6 b1 ox3 zu zb zO zH (hox3 : ZW ox3 = true) (zy : ZW zb = true) (z1u : ZW zO = true) (z1j : ZW zH = true) : Sim (Z3h zl zu) (ZaB x3 zl zn z7 zd zh z2 z6) (ZBQ 1 (.ptr 0 0) (.ptr 1 0) (ZM ox3 (x3.map Z14)) [(ZY zl zn z7 zd zh z2 z6 zu zb), (Zv b1 zO zH)]) := by
 unfold ZaB
 refine zf (ZIX ..)<|ze<|zi fun r1 hr1 => ?_
 obtain ⟨_, er1, z6D, _, zbS, rfl⟩ := Zit zl zn z7 zd zh z2 z6 zu zb zy r1 hr1
 refine zc [0] (pA_ (ZQ r1.1 .sh .sh)) [(ZY zl r1.2.1 r1.2.2.1 r1.2.2.2.1 r1.2.2.2.2.1 r1.2.2.2.2.2.1 r1.2.2.2.2.2.2 zu z6D), (Zv b1 zO zH)] er1<|zp (ZM .ex (([r1.1] : List Zj).map Z14)) (Eq.trans (b := some (ZM .ex [.agg (Z3P r1.1)])) (by kernel_rfl) (by simp only [Z93, Zno, Z6h]))<|zi fun a2 ha2 => zp (ZM .un (a2.map Z14)) (Eq.trans (by kernel_rfl) <| Zgk (n := 7) (o := ox3) (o' := .ex) (e := Z14) (ys := ([r1.1] : List Zj)) Zq2 (by decide) hox3 ha2) ?_
 exact zk (Zfg a2 zl r1.2.1 r1.2.2.1 r1.2.2.2.1 r1.2.2.2.2.1 r1.2.2.2.2.2.1 r1.2.2.2.2.2.2 b1 .un zu z6D zO zH rfl zbS z1u z1j)
def Z8G (x3 : List Zj) (zn z7 zd : Int) (zh : List Zz) (z2 z6 : Int) : Option (Zj × Int × Int × Int × (List Zz) × Int × Int) :=
 (ZdB 3 x3).bind fun r1 =>
 some (r1, zn, z7, zd, zh, z2, z6)
theorem Zme (x3 : List Zj) zl zn z7 zd zh z2 z6 b1 ox3 zu zb zO zH (hox3 : ZW ox3 = true) (zy : ZW zb = true) (z1u : ZW zO = true) (z1j : ZW zH = true) : Sim (Z3h zl zu) (Z8G x3 zn z7 zd zh z2 z6) (ZBR 1 (.ptr 1 0) (ZM ox3 (x3.map Z14)) [(ZY zl zn z7 zd zh z2 z6 zu zb), (Zv b1 zO zH)]) := by
 unfold Z8G
 refine zf (ZIY ..)<|ze<|zi fun r1 hr1 => ?_
 obtain ⟨_, er1, _, rfl⟩ := ZlV 3 x3 .sh r1 hr1
 refine zc [] (pA_ (ZQ r1 .sh .sh)) [(ZY zl zn z7 zd zh z2 z6 zu zb), (Zv b1 zO zH)] er1<|zt [(ZY zl zn z7 zd zh z2 z6 zu zb), (Zv r1 .sh .sh)] ?_
 exact zr ((pA_ (ZQ r1 .sh .sh)), [(ZY zl zn z7 zd zh z2 z6 zu zb), (Zv r1 .sh .sh)]) ⟨zb, _, zy, rfl⟩
def Z73 (x3 : List Zj) (zl : List Int) (zn z7 zd : Int) (zh : List Zz) (z2 z6 : Int) : Option (Zj × Int × Int × Int × (List Zz) × Int × Int) :=
 (Z2p (ByteArray.mk #[124]) zl zn).bind fun r1 =>
 if r1.1 = true then
 (ZaB x3 zl r1.2 z7 zd zh z2 z6)
 else
 (Z8G x3 r1.2 z7 zd zh z2 z6)
theorem Zmc (x3 : List Zj) zl zn z7 zd zh z2 z6 b1 ox3 zu zb zO zH (hox3 : ZW ox3 = true) (zy : ZW zb = true) (z1u : ZW zO = true) (z1j : ZW zH = true) : Sim (Z3h zl zu) (Z73 x3 zl zn z7 zd zh z2 z6) (ZsG 1 (.ptr 0 0) (.ptr 1 0) (ZM ox3 (x3.map Z14)) [(ZY zl zn z7 zd zh z2 z6 zu zb), (Zv b1 zO zH)]) := by
 unfold Z73
 refine zf (ZIW ..)<|ze<|zi fun r1 hr1 => ?_
 obtain ⟨_, er1, _, rfl⟩ := Z2y (ByteArray.mk #[124]) zl zn z7 zd zh z2 z6 zu zb zy r1 hr1
 refine zc [0] (bv r1.1) [(ZY zl r1.2 z7 zd zh z2 z6 zu zb), (Zv b1 zO zH)] er1 ?_
 refine za r1.1 ?_ ?_
 ·exact zk (Zmd x3 zl r1.2 z7 zd zh z2 z6 b1 ox3 zu zb zO zH hox3 zy z1u z1j)
 ·exact zk (Zme x3 zl r1.2 z7 zd zh z2 z6 b1 ox3 zu zb zO zH hox3 zy z1u z1j)
theorem Zff x3 zl zn z7 zd zh z2 z6 {r} (h : Z73 x3 zl zn z7 zd zh z2 z6 = some r) : Z77 x3 zl zn z7 zd zh z2 z6 = some r :=
 Z1f (fun _ _ ha hb => ru_ (Zb2 _ _) (ha default .ex .ex .ex .ex .ex rfl rfl rfl rfl) (hb default .ex .ex .ex .ex .ex rfl rfl rfl rfl)) (fun b1 ox3 zu zb zO zH hox3 zy z1u z1j => Zmc x3 zl zn z7 zd zh z2 z6 b1 ox3 zu zb zO zH hox3 zy z1u z1j r h)
def Zaj (zl : List Int) (zn z7 zd : Int) (zh : List Zz) (z2 z6 : Int) : Option (Zj × Int × Int × Int × (List Zz) × Int × Int) :=
 Z78 ([] : List Zj) zl zn z7 zd zh z2 z6
theorem ZoA zl zn z7 zd zh z2 z6 zu zb (zy : ZW zb = true) : Sim (Z3h zl zu) (Zaj zl zn z7 zd zh z2 z6) (EE 91 [(.ptr 0 0)] [(ZY zl zn z7 zd zh z2 z6 zu zb)]) := by
 unfold Zaj
 refine zf (ZPg ..)<|ze<|zz (.ptr 1 0) [(ZY zl zn z7 zd zh z2 z6 zu zb), (Zv Z2j .nl .nl)]<|ze ?_
 exact zk (Zfi ([] : List Zj) zl zn z7 zd zh z2 z6 Z2j .nl zu zb .nl .nl rfl zy rfl rfl)
theorem Zis zl zn z7 zd zh z2 z6 {r} (h : Zaj zl zn z7 zd zh z2 z6 = some r) : Z8R zl zn z7 zd zh z2 z6 = some r :=
 Z1f (fun _ _ ha hb => ru_ (Zb2 _ _) (ha .ex .ex rfl) (hb .ex .ex rfl)) (fun zu zb zy => ZoA zl zn z7 zd zh z2 z6 zu zb zy r h)
def Z4s (x3 : List Zj) (zn z7 zd : Int) (zh : List Zz) (z2 z6 : Int) : Option (Zj × Int × Int × Int × (List Zz) × Int × Int) :=
 (ZdB 2 x3).bind fun r1 =>
 some (r1, zn, z7, zd, zh, z2, z6)
theorem Z8X (x3 : List Zj) zl zn z7 zd zh z2 z6 b1 ox3 zu zb zO zH (hox3 : ZW ox3 = true) (zy : ZW zb = true) (z1u : ZW zO = true) (z1j : ZW zH = true) : Sim (Z3h zl zu) (Z4s x3 zn z7 zd zh z2 z6) (Zpt 1 (.ptr 1 0) (ZM ox3 (x3.map Z14)) [(ZY zl zn z7 zd zh z2 z6 zu zb), (Zv b1 zO zH)]) := by
 unfold Z4s
 refine zf (ZJh ..)<|ze<|zi fun r1 hr1 => ?_
 obtain ⟨_, er1, _, rfl⟩ := ZlV 2 x3 .sh r1 hr1
 refine zc [] (pA_ (ZQ r1 .sh .sh)) [(ZY zl zn z7 zd zh z2 z6 zu zb), (Zv b1 zO zH)] er1<|zt [(ZY zl zn z7 zd zh z2 z6 zu zb), (Zv r1 .sh .sh)] ?_
 exact zr ((pA_ (ZQ r1 .sh .sh)), [(ZY zl zn z7 zd zh z2 z6 zu zb), (Zv r1 .sh .sh)]) ⟨zb, _, zy, rfl⟩
def Z5Y (x3 : List Zj) (zl : List Int) (zn z7 zd : Int) (zh : List Zz) (z2 z6 : Int) : Option (Zj × Int × Int × Int × (List Zz) × Int × Int) :=
 (Zcf zl zn z7 zd zh z2 z6).bind fun r1 =>
 (Z8T r1.1 r1.2.1 zl r1.2.2.1 r1.2.2.2.1 r1.2.2.2.2.1 r1.2.2.2.2.2.1 r1.2.2.2.2.2.2.1 r1.2.2.2.2.2.2.2).bind fun r2 =>
 (lapp x3 ([r2.1] : List Zj)).bind fun a3 =>
 Z78 a3 zl r2.2.1 r1.2.2.2.1 r1.2.2.2.2.1 r1.2.2.2.2.2.1 r2.2.2.1 r2.2.2.2
theorem Zbc (x3 : List Zj) zl zn z7 zd zh z2 z6 b1 ox3 zu zb zO zH (hox3 : ZW ox3 = true) (zy : ZW zb = true) (z1u : ZW zO = true) (z1j : ZW zH = true) : Sim (Z3h zl zu) (Z5Y x3 zl zn z7 zd zh z2 z6) (ZsR 1 (.ptr 0 0) (.ptr 1 0) (ZM ox3 (x3.map Z14)) [(ZY zl zn z7 zd zh z2 z6 zu zb), (Zv b1 zO zH)]) := by
 unfold Z5Y
 refine zf (ZJg ..)<|ze<|zi fun r1 hr1 => ?_
 obtain ⟨_, er1, z6D, _, zbS, rfl⟩ := Zoz zl zn z7 zd zh z2 z6 zu zb zy r1 hr1
 refine zc [0] (.p (.tup [(.agg (ZQ r1.1 .sh .sh)), (.v (.bool r1.2.1))])) [(ZY zl r1.2.2.1 r1.2.2.2.1 r1.2.2.2.2.1 r1.2.2.2.2.2.1 r1.2.2.2.2.2.2.1 r1.2.2.2.2.2.2.2 zu z6D), (Zv b1 zO zH)] er1<|zq<|zq<|zz (.ptr 2 0) [(ZY zl r1.2.2.1 r1.2.2.2.1 r1.2.2.2.2.1 r1.2.2.2.2.2.1 r1.2.2.2.2.2.2.1 r1.2.2.2.2.2.2.2 zu z6D), (Zv b1 zO zH), (Zv Z2j .nl .nl)]<|zt [(ZY zl r1.2.2.1 r1.2.2.2.1 r1.2.2.2.2.1 r1.2.2.2.2.2.1 r1.2.2.2.2.2.2.1 r1.2.2.2.2.2.2.2 zu z6D), (Zv b1 zO zH), (Zv r1.1 .sh .sh)]<|ze<|zq<|zi fun r2 hr2 => ?_
 obtain ⟨_, er2, _, rfl⟩ := Zn9 r1.1 r1.2.1 zl r1.2.2.1 r1.2.2.2.1 r1.2.2.2.2.1 r1.2.2.2.2.2.1 r1.2.2.2.2.2.2.1 r1.2.2.2.2.2.2.2 .sh .sh zu z6D zbS r2 hr2
 refine zc [0] (pA_ (ZQ r2.1 .sh .sh)) [(ZY zl r2.2.1 r1.2.2.2.1 r1.2.2.2.2.1 r1.2.2.2.2.2.1 r2.2.2.1 r2.2.2.2 zu z6D), (Zv b1 zO zH), (Zv r1.1 .sh .sh)] er2<|zp (ZM .ex (([r2.1] : List Zj).map Z14)) (Eq.trans (b := some (ZM .ex [.agg (Z3P r2.1)])) (by kernel_rfl) (by simp only [Z93, Zno, Z6h]))<|zi fun a3 ha3 => zp (ZM .un (a3.map Z14)) (Eq.trans (by kernel_rfl) <| Zgk (n := 7) (o := ox3) (o' := .ex) (e := Z14) (ys := ([r2.1] : List Zj)) Zq2 (by decide) hox3 ha3) ?_
 exact zk (Zfi a3 zl r2.2.1 r1.2.2.2.1 r1.2.2.2.2.1 r1.2.2.2.2.2.1 r2.2.2.1 r2.2.2.2 b1 .un zu z6D zO zH rfl zbS z1u z1j)
def Z8I (x3 : List Zj) (zl : List Int) (zn z7 zd : Int) (zh : List Zz) (z2 z6 : Int) : Option (Zj × Int × Int × Int × (List Zz) × Int × Int) :=
 (Z3p (Z2c.mk zl zn z7 zd zh (Z1p.mk z2 z6))).bind fun r1 =>
 if (r1 == (-1)) = true then
 (if (r1 == (-1)) = true then
 (Z4s x3 zn z7 zd zh z2 z6)
 else
 (Z5Y x3 zl zn z7 zd zh z2 z6))
 else
 (if (r1 == 124) = true then
 (if (r1 == 124) = true then
 (Z4s x3 zn z7 zd zh z2 z6)
 else
 (Z5Y x3 zl zn z7 zd zh z2 z6))
 else
 (if (r1 == 41) = true then
 (Z4s x3 zn z7 zd zh z2 z6)
 else
 (Z5Y x3 zl zn z7 zd zh z2 z6)))
theorem Zmg (x3 : List Zj) zl zn z7 zd zh z2 z6 b1 ox3 zu zb zO zH (hox3 : ZW ox3 = true) (zy : ZW zb = true) (z1u : ZW zO = true) (z1j : ZW zH = true) : Sim (Z3h zl zu) (Z8I x3 zl zn z7 zd zh z2 z6) (ZC8 1 (.ptr 0 0) (.ptr 1 0) (ZM ox3 (x3.map Z14)) [(ZY zl zn z7 zd zh z2 z6 zu zb), (Zv b1 zO zH)]) := by
 unfold Z8I
 refine zf (ZJf ..)<|ze<|zi fun r1 hr1 => ?_
 obtain ⟨_, er1, _, rfl⟩ := Z3z (Z2c.mk zl zn z7 zd zh (Z1p.mk z2 z6)) zu zb zy r1 hr1
 refine zc [0] (iv r1) [(ZY zl zn z7 zd zh z2 z6 zu zb), (Zv b1 zO zH)] er1<|ze<|zq ?_
 refine za (r1 == (-1)) ?_ ?_
 ·refine za (r1 == (-1)) ?_ ?_
  ·exact zk (Z8X x3 zl zn z7 zd zh z2 z6 b1 ox3 zu zb zO zH hox3 zy z1u z1j)
  ·exact zk (Zbc x3 zl zn z7 zd zh z2 z6 b1 ox3 zu zb zO zH hox3 zy z1u z1j)
 ·refine ze<|zq ?_
  refine za (r1 == 124) ?_ ?_
  ·refine za (r1 == 124) ?_ ?_
   ·exact zk (Z8X x3 zl zn z7 zd zh z2 z6 b1 ox3 zu zb zO zH hox3 zy z1u z1j)
   ·exact zk (Zbc x3 zl zn z7 zd zh z2 z6 b1 ox3 zu zb zO zH hox3 zy z1u z1j)
  ·refine ze<|zq ?_
   refine za (r1 == 41) ?_ ?_
   ·exact zk (Z8X x3 zl zn z7 zd zh z2 z6 b1 ox3 zu zb zO zH hox3 zy z1u z1j)
   ·exact zk (Zbc x3 zl zn z7 zd zh z2 z6 b1 ox3 zu zb zO zH hox3 zy z1u z1j)
def Z8H (x3 : List Zj) (zl : List Int) (zn z7 zd : Int) (zh : List Zz) (z2 z6 : Int) : Option (Zj × Int × Int × Int × (List Zz) × Int × Int) :=
 if (z2 == 0) = true then
 (Z8I x3 zl zn z7 zd zh z2 z6)
 else
 (Z4s x3 zn z7 zd zh z2 z6)
theorem Zmf (x3 : List Zj) zl zn z7 zd zh z2 z6 b1 ox3 zu zb zO zH (hox3 : ZW ox3 = true) (zy : ZW zb = true) (z1u : ZW zO = true) (z1j : ZW zH = true) : Sim (Z3h zl zu) (Z8H x3 zl zn z7 zd zh z2 z6) (ZsQ 1 (.ptr 0 0) (.ptr 1 0) (ZM ox3 (x3.map Z14)) [(ZY zl zn z7 zd zh z2 z6 zu zb), (Zv b1 zO zH)]) := by
 unfold Z8H
 refine zf (ZJe ..)<|ze<|zq<|zq<|zq<|zq<|zq ?_
 refine za (z2 == 0) ?_ ?_
 ·exact zk (Zmg x3 zl zn z7 zd zh z2 z6 b1 ox3 zu zb zO zH hox3 zy z1u z1j)
 ·exact zk (Z8X x3 zl zn z7 zd zh z2 z6 b1 ox3 zu zb zO zH hox3 zy z1u z1j)
theorem Zfh x3 zl zn z7 zd zh z2 z6 {r} (h : Z8H x3 zl zn z7 zd zh z2 z6 = some r) : Z78 x3 zl zn z7 zd zh z2 z6 = some r :=
 Z1f (fun _ _ ha hb => ru_ (Zb2 _ _) (ha default .ex .ex .ex .ex .ex rfl rfl rfl rfl) (hb default .ex .ex .ex .ex .ex rfl rfl rfl rfl)) (fun b1 ox3 zu zb zO zH hox3 zy z1u z1j => Zmf x3 zl zn z7 zd zh z2 z6 b1 ox3 zu zb zO zH hox3 zy z1u z1j r h)
def Zaa (b0 : Z2c) : Option Int :=
 (Zht b0.b b0.at_).bind fun r1 =>
 some r1.1
theorem ZlJ b0 zu zb (zy : ZW zb = true) : Sim (Z9F b0 zu zb) (Zaa b0) (ZxV 1 (.ptr 0 0) [(Z4V b0 zu zb)]) := by
 unfold Zaa
 refine zf (ZFk ..)<|ze<|zq<|zq<|zq<|zq<|zq<|zq<|zi fun r1 hr1 => ?_
 obtain ⟨_, er1, _, rfl⟩ := ZpX b0.b b0.at_ .sh r1 hr1
 refine zc [] (.p (.tup [(.v (.int .i64 r1.1)), (.v (.int .i64 r1.2))])) [(Z4V b0 zu zb)] er1<|zq<|zq<|ze ?_
 exact zr ((iv r1.1), [(Z4V b0 zu zb)]) ⟨_, rfl⟩
def Zc2 (b0 : Z2c) : Option Int :=
 if (decide ((b0.b.length : Int) ≤ b0.at_)) = true then
 (some (-1))
 else
 (Zaa b0)
theorem ZnN b0 zu zb (zy : ZW zb = true) : Sim (Z9F b0 zu zb) (Zc2 b0) (EE 104 [(.ptr 0 0)] [(Z4V b0 zu zb)]) := by
 unfold Zc2
 refine zf (ZLY ..)<|ze<|ze<|zq<|zq<|zq<|zq<|zq<|zq<|zp (iv (b0.b.length : Int)) (et_ (Z2O (P := PP) (t := 141) (d := 5) (by kernel_rfl) (eI .u8) (shrO zu) b0.b))<|zq ?_
 refine za (decide ((b0.b.length : Int) ≤ b0.at_)) ?_ ?_
 ·refine ze ?_
  exact zr ((iv (-1)), [(Z4V b0 zu zb)]) ⟨_, rfl⟩
 ·exact zk (ZlJ b0 zu zb zy)
theorem ZoB b0 {r} (h : Zc2 b0 = some r) : Z3p b0 = some r :=
 Z1f (fun _ _ ha hb => ru_ (ZoZ _ _ _) (ha .ex .ex rfl) (hb .ex .ex rfl)) (fun zu zb zy => ZnN b0 zu zb zy r h)
def ZfQ : Option (Int × Int) :=
 some (0, 0)
theorem Zln : Sim Z49 ZfQ (ZtU 0 []) := by
 unfold ZfQ
 refine zf (ZFv ..)<|ze ?_
 exact zr ((.p (.tup [(.v (.int .i64 0)), (.v (.int .i64 0))])), []) ⟨_, rfl⟩
def ZfS (x0 : List Int) (x1 : Int) : Option (Int × Int) :=
 (lget x0 x1).bind fun a1 =>
 some ((IntKind.i64.wrap (1114112 + (IntKind.i64.wrap a1))), 1)
theorem Ztb (x0 : List Int) x1 ox0 : Sim Z49 (ZfS x0 x1) (Zyd 0 (ZM ox0 (x0.map (eI .u8))) (iv x1) []) := by
 unfold ZfS
 refine zf (ZFx ..)<|ze<|zi fun a1 ha1 => zp (.cptr [(.v (.int .u8 a1))]) (et_ (Z3E (o := (shrO ox0)) (k := .i64) (n := 1) (e := (eI .u8)) (cs := (fun a => [(eI .u8) a])) (fun _ => rfl) (fun _ => rfl) (by decide) ha1))<|zq<|zq<|zq ?_
 exact zr ((.p (.tup [(.v (.int .i64 (IntKind.i64.wrap (1114112 + (IntKind.i64.wrap a1))))), (.v (.int .i64 1))])), []) ⟨_, rfl⟩
def Zbp (x6 x7 : Int) : Option (Int × Int) :=
 some ((IntKind.i64.wrap x6), x7)
theorem Zlo x6 x7 : Sim Z49 (Zbp x6 x7) (ZtV 0 (.p (.v (.int .i32 x6))) (iv x7) []) := by
 unfold Zbp
 refine zf (ZFy ..)<|ze<|zq ?_
 exact zr ((.p (.tup [(.v (.int .i64 (IntKind.i64.wrap x6))), (.v (.int .i64 x7))])), []) ⟨_, rfl⟩
def ZfR (x0 : List Int) (x1 : Int) : Option (Int × Int) :=
 (lsl x0 x1 (x0.length : Int)).bind fun a1 =>
 (Zbe a1).bind fun r2 =>
 if (r2.1 == 65533) = true then
 (if (r2.2 == 1) = true then
 (ZfS x0 x1)
 else
 (Zbp r2.1 r2.2))
 else
 (Zbp r2.1 r2.2)
theorem Zta (x0 : List Int) x1 ox0 : Sim Z49 (ZfR x0 x1) (Zyc 0 (ZM ox0 (x0.map (eI .u8))) (iv x1) []) := by
 unfold ZfR
 refine zf (ZFw ..)<|ze<|zi fun a1 ha1 => zp (ZM (slO (shrO ox0)) (a1.map (eI .u8))) (Eq.trans (by kernel_rfl) <| ZKk (n := 1) (o := (shrO ox0)) (lo := (some (iv x1))) (hi := none) (e := (eI .u8)) (fun _ => rfl) (by decide) (by kernel_rfl) (by kernel_rfl) ha1)<|zi fun r2 hr2 => ?_
 obtain ⟨_, er2, _, rfl⟩ := Zkt a1 .sh r2 hr2
 refine zc [] (.p (.tup [(.v (.int .i32 r2.1)), (.v (.int .i64 r2.2))])) [] er2<|zq<|zq<|ze<|zq ?_
 refine za (r2.1 == 65533) ?_ ?_
 ·refine zq ?_
  refine za (r2.2 == 1) ?_ ?_
  ·exact zk (Ztb x0 x1 ox0)
  ·exact zk (Zlo r2.1 r2.2)
 ·exact zk (Zlo r2.1 r2.2)
def ZkN (x0 : List Int) (x1 : Int) : Option (Int × Int) :=
 if (decide (x1 < 0)) = true then
 ZfQ
 else
 (if (decide ((x0.length : Int) ≤ x1)) = true then
 ZfQ
 else
 (ZfR x0 x1))
theorem Zxl (x0 : List Int) x1 ox0 : Sim Z49 (ZkN x0 x1) (EE 126 [(ZM ox0 (x0.map (eI .u8))), (iv x1)] []) := by
 unfold ZkN
 refine zf (ZM9 ..)<|ze<|ze<|zq ?_
 refine za (decide (x1 < 0)) ?_ ?_
 ·exact zk Zln
 ·refine zp (iv (x0.length : Int)) (et_ (Z2O (P := PP) (t := 141) (d := 5) (by kernel_rfl) (eI .u8) (shrO ox0) x0))<|zq ?_
  refine za (decide ((x0.length : Int) ≤ x1)) ?_ ?_
  ·exact zk Zln
  ·exact zk (Zta x0 x1 ox0)
theorem ZzQ x0 x1 {r} (h : ZkN x0 x1 = some r) : Zht x0 x1 = some r :=
 Z1f (fun _ _ ha hb => ru_ ZhA (ha .ex) (hb .ex)) (fun ox0 => Zxl x0 x1 ox0 r h)
def Zgs (x0 : Int) (x1 : List Zj) : Option Zj :=
 some (Zj.mk x0 0 0 0 0 ([] : List Zi) x1)
theorem ZpH x0 (x1 : List Zj) b0 ox1 z2C z29 (zKI : ZW z2C = true) (zJE : ZW z29 = true) : Sim Z8A (Zgs x0 x1) (ZCa 0 (iv x0) (ZM ox1 (x1.map Z14)) (.ptr 0 0) [(Zv b0 z2C z29)]) := by
 unfold Zgs
 refine zf (ZJi ..)<|ze<|zq<|zt [(Z3w x0 0 0 0 0 ([] : List Zi) x1 .nl (shrO (shrO ox1)))] ?_
 exact zr ((pA_ (ZQ (Zj.mk x0 0 0 0 0 ([] : List Zi) x1) .sh .sh)), [(Z3w x0 0 0 0 0 ([] : List Zi) x1 .nl (shrO (shrO ox1)))]) ⟨_, rfl⟩
def ZfN (x0 : Int) (x1 : List Zj) : Option Zj :=
 if ((x1.length : Int) == 0) = true then
 (some (Zj.mk 0 0 0 0 0 ([] : List Zi) ([] : List Zj)))
 else
 (if ((x1.length : Int) == 1) = true then
 ((lget x1 0).bind fun a1 =>
 some a1)
 else
 (Zgs x0 x1))
theorem Zt7 x0 (x1 : List Zj) ox1 : Sim Z8A (ZfN x0 x1) (EE 92 [(iv x0), (ZM ox1 (x1.map Z14))] []) := by
 unfold ZfN
 refine zf (ZPj ..)<|ze<|zz (.ptr 0 0) [(Zv Z2j .nl .nl)]<|ze<|zp (iv (x1.length : Int)) (et_ (Z2O (P := PP) (t := 96) (d := 98) (by kernel_rfl) Z14 (shrO ox1) x1))<|ze<|zq ?_
 refine za ((x1.length : Int) == 0) ?_ ?_
 ·refine ze<|zq<|zt [(Zv Z2j .nl .nl)] ?_
  exact zr ((pA_ (ZQ Z2j .sh .sh)), [(Zv Z2j .nl .nl)]) ⟨_, rfl⟩
 ·refine ze<|zq ?_
  refine za ((x1.length : Int) == 1) ?_ ?_
  ·refine ze<|zi fun a1 ha1 => zp (.cptr (ZQ a1 .sh .sh)) (et_ (Z3E (o := (shrO ox1)) (k := .i64) (n := 7) (e := Z14) (cs := Z3P) Z7S (fun _ => rfl) (by decide) ha1))<|zq<|zt [(Zv a1 .sh .sh)] ?_
   exact zr ((pA_ (ZQ a1 .sh .sh)), [(Zv a1 .sh .sh)]) ⟨_, rfl⟩
  ·exact zk (ZpH x0 x1 Z2j ox1 .nl .nl rfl rfl)
theorem ZuJ x0 x1 {r} (h : ZfN x0 x1 = some r) : ZdB x0 x1 = some r :=
 Z1f (fun _ _ ha hb => ru_ ZmI (ha .ex) (hb .ex)) (fun ox1 => Zt7 x0 x1 ox1 r h)
def Z2L (zn z7 zd : Int) (zh : List Zz) (z2 z6 : Int) : Option (Zj × Bool × Int × Int × Int × (List Zz) × Int × Int) :=
 some ((Zj.mk 0 0 0 0 0 ([] : List Zi) ([] : List Zj)), true, zn, z7, zd, zh, z2, z6)
theorem Z2P zl zn z7 zd zh z2 z6 b1 zu zb zO zH (zy : ZW zb = true) (z1u : ZW zO = true) (z1j : ZW zH = true) : Sim (Z3A zl zu) (Z2L zn z7 zd zh z2 z6) (Z9l 1 (.ptr 1 0) [(ZY zl zn z7 zd zh z2 z6 zu zb), (Zv b1 zO zH)]) := by
 unfold Z2L
 refine zf (ZDF ..)<|ze<|zq<|zt [(ZY zl zn z7 zd zh z2 z6 zu zb), (Zv Z2j .nl .nl)] ?_
 exact zr ((.p (.tup [(.agg (ZQ Z2j .sh .sh)), (.v (.bool true))])), [(ZY zl zn z7 zd zh z2 z6 zu zb), (Zv Z2j .nl .nl)]) ⟨zb, _, zy, rfl⟩
def Z9G (zl : List Int) (zn z7 zd : Int) (zh : List Zz) (z2 z6 : Int) : Option (Zj × Bool × Int × Int × Int × (List Zz) × Int × Int) :=
 (Z4b zl zn).bind fun r1 =>
 if (r1.1 == 46) = true then
 ((Z3d 10).bind fun r2 =>
 (Z58 true ([r2] : List Zi)).bind fun r3 =>
 some (r3, true, r1.2, z7, zd, zh, z2, z6))
 else
 (if (r1.1 == 94) = true then
 (some ((Zj.mk 9 0 0 0 0 ([] : List Zi) ([] : List Zj)), false, r1.2, z7, zd, zh, z2, z6))
 else
 (if (r1.1 == 36) = true then
 (some ((Zj.mk 9 0 0 0 1 ([] : List Zi) ([] : List Zj)), false, r1.2, z7, zd, zh, z2, z6))
 else
 (if (r1.1 == 92) = true then
 ((Z62 zn zl r1.2 z7 zd zh z2 z6).bind fun r4 =>
 some (r4.1, (r4.1.Kind != 9), r4.2.1, z7, zd, r4.2.2.1, r4.2.2.2.1, r4.2.2.2.2))
 else
 (if (r1.1 == 91) = true then
 ((Zbd zn zl r1.2 z7 zd zh z2 z6).bind fun r5 =>
 some (r5.1, true, r5.2.1, z7, zd, zh, r5.2.2.1, r5.2.2.2))
 else
 (if (r1.1 == 40) = true then
 ((Z6i zn zl r1.2 z7 zd zh z2 z6).bind fun r6 =>
 some (r6.1, r6.2.1, r6.2.2.1, r6.2.2.2.1, r6.2.2.2.2.1, r6.2.2.2.2.2.1, r6.2.2.2.2.2.2.1, r6.2.2.2.2.2.2.2))
 else
 (if (r1.1 == 42) = true then
 (if (r1.1 == 42) = true then
 ((Z1D 23 zn zl z2 z6).bind fun r7 =>
 Z2L r7.1 z7 zd zh r7.2.1 r7.2.2)
 else
 (if (r1.1 == 93) = true then
 (if (r1.1 == 93) = true then
 ((Z1D 20 zn zl z2 z6).bind fun r8 =>
 Z2L r8.1 z7 zd zh r8.2.1 r8.2.2)
 else
 ((Z3d r1.1).bind fun r9 =>
 (Z58 false ([r9] : List Zi)).bind fun r10 =>
 some (r10, true, r1.2, z7, zd, zh, z2, z6)))
 else
 (if (r1.1 == 125) = true then
 ((Z1D 20 zn zl z2 z6).bind fun r11 =>
 Z2L r11.1 z7 zd zh r11.2.1 r11.2.2)
 else
 ((Z3d r1.1).bind fun r12 =>
 (Z58 false ([r12] : List Zi)).bind fun r13 =>
 some (r13, true, r1.2, z7, zd, zh, z2, z6)))))
 else
 (if (r1.1 == 43) = true then
 (if (r1.1 == 43) = true then
 ((Z1D 23 zn zl z2 z6).bind fun r14 =>
 Z2L r14.1 z7 zd zh r14.2.1 r14.2.2)
 else
 (if (r1.1 == 93) = true then
 (if (r1.1 == 93) = true then
 ((Z1D 20 zn zl z2 z6).bind fun r15 =>
 Z2L r15.1 z7 zd zh r15.2.1 r15.2.2)
 else
 ((Z3d r1.1).bind fun r16 =>
 (Z58 false ([r16] : List Zi)).bind fun r17 =>
 some (r17, true, r1.2, z7, zd, zh, z2, z6)))
 else
 (if (r1.1 == 125) = true then
 ((Z1D 20 zn zl z2 z6).bind fun r18 =>
 Z2L r18.1 z7 zd zh r18.2.1 r18.2.2)
 else
 ((Z3d r1.1).bind fun r19 =>
 (Z58 false ([r19] : List Zi)).bind fun r20 =>
 some (r20, true, r1.2, z7, zd, zh, z2, z6)))))
 else
 (if (r1.1 == 63) = true then
 (if (r1.1 == 63) = true then
 ((Z1D 23 zn zl z2 z6).bind fun r21 =>
 Z2L r21.1 z7 zd zh r21.2.1 r21.2.2)
 else
 (if (r1.1 == 93) = true then
 (if (r1.1 == 93) = true then
 ((Z1D 20 zn zl z2 z6).bind fun r22 =>
 Z2L r22.1 z7 zd zh r22.2.1 r22.2.2)
 else
 ((Z3d r1.1).bind fun r23 =>
 (Z58 false ([r23] : List Zi)).bind fun r24 =>
 some (r24, true, r1.2, z7, zd, zh, z2, z6)))
 else
 (if (r1.1 == 125) = true then
 ((Z1D 20 zn zl z2 z6).bind fun r25 =>
 Z2L r25.1 z7 zd zh r25.2.1 r25.2.2)
 else
 ((Z3d r1.1).bind fun r26 =>
 (Z58 false ([r26] : List Zi)).bind fun r27 =>
 some (r27, true, r1.2, z7, zd, zh, z2, z6)))))
 else
 (if (r1.1 == 123) = true then
 ((Z1D 23 zn zl z2 z6).bind fun r28 =>
 Z2L r28.1 z7 zd zh r28.2.1 r28.2.2)
 else
 (if (r1.1 == 93) = true then
 (if (r1.1 == 93) = true then
 ((Z1D 20 zn zl z2 z6).bind fun r29 =>
 Z2L r29.1 z7 zd zh r29.2.1 r29.2.2)
 else
 ((Z3d r1.1).bind fun r30 =>
 (Z58 false ([r30] : List Zi)).bind fun r31 =>
 some (r31, true, r1.2, z7, zd, zh, z2, z6)))
 else
 (if (r1.1 == 125) = true then
 ((Z1D 20 zn zl z2 z6).bind fun r32 =>
 Z2L r32.1 z7 zd zh r32.2.1 r32.2.2)
 else
 ((Z3d r1.1).bind fun r33 =>
 (Z58 false ([r33] : List Zi)).bind fun r34 =>
 some (r34, true, r1.2, z7, zd, zh, z2, z6)))))))))))))
theorem ZnI zl zn z7 zd zh z2 z6 zu zb (zy : ZW zb = true) : Sim (Z3A zl zu) (Z9G zl zn z7 zd zh z2 z6) (EE 105 [(.ptr 0 0)] [(ZY zl zn z7 zd zh z2 z6 zu zb)]) := by
 unfold Z9G
 refine zf (ZM0 ..)<|ze<|zz (.ptr 1 0) [(ZY zl zn z7 zd zh z2 z6 zu zb), (Zv Z2j .nl .nl)]<|ze<|zq<|zq<|zq<|ze<|zi fun r1 hr1 => ?_
 obtain ⟨_, er1, _, rfl⟩ := Z4L zl zn z7 zd zh z2 z6 zu zb zy r1 hr1
 refine zc [0] (iv r1.1) [(ZY zl r1.2 z7 zd zh z2 z6 zu zb), (Zv Z2j .nl .nl)] er1<|ze<|ze<|zq ?_
 refine za (r1.1 == 46) ?_ ?_
 ·refine ze<|zi fun r2 hr2 => ?_
  obtain ⟨_, er2, _, rfl⟩ := Z31 10 r2 hr2
  refine zc [] (pA_ (Z1c r2)) [(ZY zl r1.2 z7 zd zh z2 z6 zu zb), (Zv Z2j .nl .nl)] er2<|zq<|zi fun r3 hr3 => ?_
  obtain ⟨_, er3, _, rfl⟩ := Z5o true ([r2] : List Zi) .sh r3 hr3
  refine zc [] (pA_ (ZQ r3 .sh .sh)) [(ZY zl r1.2 z7 zd zh z2 z6 zu zb), (Zv Z2j .nl .nl)] er3<|zt [(ZY zl r1.2 z7 zd zh z2 z6 zu zb), (Zv r3 .sh .sh)] ?_
  exact zr ((.p (.tup [(.agg (ZQ r3 .sh .sh)), (.v (.bool true))])), [(ZY zl r1.2 z7 zd zh z2 z6 zu zb), (Zv r3 .sh .sh)]) ⟨zb, _, zy, rfl⟩
 ·refine ze<|zq ?_
  refine za (r1.1 == 94) ?_ ?_
  ·refine ze<|zq<|zt [(ZY zl r1.2 z7 zd zh z2 z6 zu zb), (Z3w 9 0 0 0 0 ([] : List Zi) ([] : List Zj) .nl .nl)] ?_
   exact zr ((.p (.tup [(.agg (ZQ (Zj.mk 9 0 0 0 0 ([] : List Zi) ([] : List Zj)) .sh .sh)), (.v (.bool false))])), [(ZY zl r1.2 z7 zd zh z2 z6 zu zb), (Z3w 9 0 0 0 0 ([] : List Zi) ([] : List Zj) .nl .nl)]) ⟨zb, _, zy, rfl⟩
  ·refine ze<|zq ?_
   refine za (r1.1 == 36) ?_ ?_
   ·refine ze<|zq<|zt [(ZY zl r1.2 z7 zd zh z2 z6 zu zb), (Z3w 9 0 0 0 1 ([] : List Zi) ([] : List Zj) .nl .nl)] ?_
    exact zr ((.p (.tup [(.agg (ZQ (Zj.mk 9 0 0 0 1 ([] : List Zi) ([] : List Zj)) .sh .sh)), (.v (.bool false))])), [(ZY zl r1.2 z7 zd zh z2 z6 zu zb), (Z3w 9 0 0 0 1 ([] : List Zi) ([] : List Zj) .nl .nl)]) ⟨zb, _, zy, rfl⟩
   ·refine ze<|zq ?_
    refine za (r1.1 == 92) ?_ ?_
    ·refine ze<|zi fun r4 hr4 => ?_
     obtain ⟨_, er4, zmF, _, zKL, rfl⟩ := Zn5 zn zl r1.2 z7 zd zh z2 z6 zu zb zy r4 hr4
     refine zc [0] (pA_ (ZQ r4.1 .sh .sh)) [(ZY zl r4.2.1 z7 zd r4.2.2.1 r4.2.2.2.1 r4.2.2.2.2 zu zmF), (Zv Z2j .nl .nl)] er4<|zz (.ptr 2 0) [(ZY zl r4.2.1 z7 zd r4.2.2.1 r4.2.2.2.1 r4.2.2.2.2 zu zmF), (Zv Z2j .nl .nl), (Zv Z2j .nl .nl)]<|zt [(ZY zl r4.2.1 z7 zd r4.2.2.1 r4.2.2.2.1 r4.2.2.2.2 zu zmF), (Zv Z2j .nl .nl), (Zv r4.1 .sh .sh)]<|ze<|zq<|zq<|zq<|zq<|zt [(ZY zl r4.2.1 z7 zd r4.2.2.1 r4.2.2.2.1 r4.2.2.2.2 zu zmF), (Zv r4.1 .sh .sh), (Zv r4.1 .sh .sh)]<|zg ?_
     exact zr ((.p (.tup [(.agg (ZQ r4.1 .sh .sh)), (.v (.bool (r4.1.Kind != 9)))])), [(ZY zl r4.2.1 z7 zd r4.2.2.1 r4.2.2.2.1 r4.2.2.2.2 zu zmF), (Zv r4.1 .sh .sh), (Zv r4.1 .sh .sh)]) ⟨zmF, _, zKL, rfl⟩
    ·refine ze<|zq ?_
     refine za (r1.1 == 91) ?_ ?_
     ·refine ze<|zi fun r5 hr5 => ?_
      obtain ⟨_, er5, _, rfl⟩ := ZnK zn zl r1.2 z7 zd zh z2 z6 zu zb zy r5 hr5
      refine zc [0] (pA_ (ZQ r5.1 .sh .sh)) [(ZY zl r5.2.1 z7 zd zh r5.2.2.1 r5.2.2.2 zu zb), (Zv Z2j .nl .nl)] er5<|zt [(ZY zl r5.2.1 z7 zd zh r5.2.2.1 r5.2.2.2 zu zb), (Zv r5.1 .sh .sh)] ?_
      exact zr ((.p (.tup [(.agg (ZQ r5.1 .sh .sh)), (.v (.bool true))])), [(ZY zl r5.2.1 z7 zd zh r5.2.2.1 r5.2.2.2 zu zb), (Zv r5.1 .sh .sh)]) ⟨zb, _, zy, rfl⟩
     ·refine ze<|zq ?_
      refine za (r1.1 == 40) ?_ ?_
      ·refine ze<|zi fun r6 hr6 => ?_
       obtain ⟨_, er6, zuu, _, zKN, rfl⟩ := ZnM zn zl r1.2 z7 zd zh z2 z6 zu zb zy r6 hr6
       refine zc [0] (.p (.tup [(.agg (ZQ r6.1 .sh .sh)), (.v (.bool r6.2.1))])) [(ZY zl r6.2.2.1 r6.2.2.2.1 r6.2.2.2.2.1 r6.2.2.2.2.2.1 r6.2.2.2.2.2.2.1 r6.2.2.2.2.2.2.2 zu zuu), (Zv Z2j .nl .nl)] er6<|zq<|zq<|zt [(ZY zl r6.2.2.1 r6.2.2.2.1 r6.2.2.2.2.1 r6.2.2.2.2.2.1 r6.2.2.2.2.2.2.1 r6.2.2.2.2.2.2.2 zu zuu), (Zv r6.1 .sh .sh)] ?_
       exact zr ((.p (.tup [(.agg (ZQ r6.1 .sh .sh)), (.v (.bool r6.2.1))])), [(ZY zl r6.2.2.1 r6.2.2.2.1 r6.2.2.2.2.1 r6.2.2.2.2.2.1 r6.2.2.2.2.2.2.1 r6.2.2.2.2.2.2.2 zu zuu), (Zv r6.1 .sh .sh)]) ⟨zuu, _, zKN, rfl⟩
      ·refine ze<|zq ?_
       refine za (r1.1 == 42) ?_ ?_
       ·refine za (r1.1 == 42) ?_ ?_
        ·refine ze<|zi fun r7 hr7 => ?_
         obtain ⟨_, er7, _, rfl⟩ := Z1J 23 zn zl r1.2 z7 zd zh z2 z6 zu zb zy r7 hr7
         refine zc [0] (.p (.tup [])) [(ZY zl r7.1 z7 zd zh r7.2.1 r7.2.2 zu zb), (Zv Z2j .nl .nl)] er7 ?_
         exact zk (Z2P zl r7.1 z7 zd zh r7.2.1 r7.2.2 Z2j zu zb .nl .nl zy rfl rfl)
        ·refine ze<|zq ?_
         refine za (r1.1 == 93) ?_ ?_
         ·refine za (r1.1 == 93) ?_ ?_
          ·refine ze<|zi fun r8 hr8 => ?_
           obtain ⟨_, er8, _, rfl⟩ := Z1J 20 zn zl r1.2 z7 zd zh z2 z6 zu zb zy r8 hr8
           refine zc [0] (.p (.tup [])) [(ZY zl r8.1 z7 zd zh r8.2.1 r8.2.2 zu zb), (Zv Z2j .nl .nl)] er8 ?_
           exact zk (Z2P zl r8.1 z7 zd zh r8.2.1 r8.2.2 Z2j zu zb .nl .nl zy rfl rfl)
          ·refine ze<|zi fun r9 hr9 => ?_
           obtain ⟨_, er9, _, rfl⟩ := Z31 r1.1 r9 hr9
           refine zc [] (pA_ (Z1c r9)) [(ZY zl r1.2 z7 zd zh z2 z6 zu zb), (Zv Z2j .nl .nl)] er9<|zq<|zi fun r10 hr10 => ?_
           obtain ⟨_, er10, _, rfl⟩ := Z5o false ([r9] : List Zi) .sh r10 hr10
           refine zc [] (pA_ (ZQ r10 .sh .sh)) [(ZY zl r1.2 z7 zd zh z2 z6 zu zb), (Zv Z2j .nl .nl)] er10<|zt [(ZY zl r1.2 z7 zd zh z2 z6 zu zb), (Zv r10 .sh .sh)] ?_
           exact zr ((.p (.tup [(.agg (ZQ r10 .sh .sh)), (.v (.bool true))])), [(ZY zl r1.2 z7 zd zh z2 z6 zu zb), (Zv r10 .sh .sh)]) ⟨zb, _, zy, rfl⟩
         ·refine ze<|zq ?_
          refine za (r1.1 == 125) ?_ ?_
          ·refine ze<|zi fun r11 hr11 => ?_
           obtain ⟨_, er11, _, rfl⟩ := Z1J 20 zn zl r1.2 z7 zd zh z2 z6 zu zb zy r11 hr11
           refine zc [0] (.p (.tup [])) [(ZY zl r11.1 z7 zd zh r11.2.1 r11.2.2 zu zb), (Zv Z2j .nl .nl)] er11 ?_
           exact zk (Z2P zl r11.1 z7 zd zh r11.2.1 r11.2.2 Z2j zu zb .nl .nl zy rfl rfl)
          ·refine ze<|zi fun r12 hr12 => ?_
           obtain ⟨_, er12, _, rfl⟩ := Z31 r1.1 r12 hr12
           refine zc [] (pA_ (Z1c r12)) [(ZY zl r1.2 z7 zd zh z2 z6 zu zb), (Zv Z2j .nl .nl)] er12<|zq<|zi fun r13 hr13 => ?_
           obtain ⟨_, er13, _, rfl⟩ := Z5o false ([r12] : List Zi) .sh r13 hr13
           refine zc [] (pA_ (ZQ r13 .sh .sh)) [(ZY zl r1.2 z7 zd zh z2 z6 zu zb), (Zv Z2j .nl .nl)] er13<|zt [(ZY zl r1.2 z7 zd zh z2 z6 zu zb), (Zv r13 .sh .sh)] ?_
           exact zr ((.p (.tup [(.agg (ZQ r13 .sh .sh)), (.v (.bool true))])), [(ZY zl r1.2 z7 zd zh z2 z6 zu zb), (Zv r13 .sh .sh)]) ⟨zb, _, zy, rfl⟩
       ·refine ze<|zq ?_
        refine za (r1.1 == 43) ?_ ?_
        ·refine za (r1.1 == 43) ?_ ?_
         ·refine ze<|zi fun r14 hr14 => ?_
          obtain ⟨_, er14, _, rfl⟩ := Z1J 23 zn zl r1.2 z7 zd zh z2 z6 zu zb zy r14 hr14
          refine zc [0] (.p (.tup [])) [(ZY zl r14.1 z7 zd zh r14.2.1 r14.2.2 zu zb), (Zv Z2j .nl .nl)] er14 ?_
          exact zk (Z2P zl r14.1 z7 zd zh r14.2.1 r14.2.2 Z2j zu zb .nl .nl zy rfl rfl)
         ·refine ze<|zq ?_
          refine za (r1.1 == 93) ?_ ?_
          ·refine za (r1.1 == 93) ?_ ?_
           ·refine ze<|zi fun r15 hr15 => ?_
            obtain ⟨_, er15, _, rfl⟩ := Z1J 20 zn zl r1.2 z7 zd zh z2 z6 zu zb zy r15 hr15
            refine zc [0] (.p (.tup [])) [(ZY zl r15.1 z7 zd zh r15.2.1 r15.2.2 zu zb), (Zv Z2j .nl .nl)] er15 ?_
            exact zk (Z2P zl r15.1 z7 zd zh r15.2.1 r15.2.2 Z2j zu zb .nl .nl zy rfl rfl)
           ·refine ze<|zi fun r16 hr16 => ?_
            obtain ⟨_, er16, _, rfl⟩ := Z31 r1.1 r16 hr16
            refine zc [] (pA_ (Z1c r16)) [(ZY zl r1.2 z7 zd zh z2 z6 zu zb), (Zv Z2j .nl .nl)] er16<|zq<|zi fun r17 hr17 => ?_
            obtain ⟨_, er17, _, rfl⟩ := Z5o false ([r16] : List Zi) .sh r17 hr17
            refine zc [] (pA_ (ZQ r17 .sh .sh)) [(ZY zl r1.2 z7 zd zh z2 z6 zu zb), (Zv Z2j .nl .nl)] er17<|zt [(ZY zl r1.2 z7 zd zh z2 z6 zu zb), (Zv r17 .sh .sh)] ?_
            exact zr ((.p (.tup [(.agg (ZQ r17 .sh .sh)), (.v (.bool true))])), [(ZY zl r1.2 z7 zd zh z2 z6 zu zb), (Zv r17 .sh .sh)]) ⟨zb, _, zy, rfl⟩
          ·refine ze<|zq ?_
           refine za (r1.1 == 125) ?_ ?_
           ·refine ze<|zi fun r18 hr18 => ?_
            obtain ⟨_, er18, _, rfl⟩ := Z1J 20 zn zl r1.2 z7 zd zh z2 z6 zu zb zy r18 hr18
            refine zc [0] (.p (.tup [])) [(ZY zl r18.1 z7 zd zh r18.2.1 r18.2.2 zu zb), (Zv Z2j .nl .nl)] er18 ?_
            exact zk (Z2P zl r18.1 z7 zd zh r18.2.1 r18.2.2 Z2j zu zb .nl .nl zy rfl rfl)
           ·refine ze<|zi fun r19 hr19 => ?_
            obtain ⟨_, er19, _, rfl⟩ := Z31 r1.1 r19 hr19
            refine zc [] (pA_ (Z1c r19)) [(ZY zl r1.2 z7 zd zh z2 z6 zu zb), (Zv Z2j .nl .nl)] er19<|zq<|zi fun r20 hr20 => ?_
            obtain ⟨_, er20, _, rfl⟩ := Z5o false ([r19] : List Zi) .sh r20 hr20
            refine zc [] (pA_ (ZQ r20 .sh .sh)) [(ZY zl r1.2 z7 zd zh z2 z6 zu zb), (Zv Z2j .nl .nl)] er20<|zt [(ZY zl r1.2 z7 zd zh z2 z6 zu zb), (Zv r20 .sh .sh)] ?_
            exact zr ((.p (.tup [(.agg (ZQ r20 .sh .sh)), (.v (.bool true))])), [(ZY zl r1.2 z7 zd zh z2 z6 zu zb), (Zv r20 .sh .sh)]) ⟨zb, _, zy, rfl⟩
        ·refine ze<|zq ?_
         refine za (r1.1 == 63) ?_ ?_
         ·refine za (r1.1 == 63) ?_ ?_
          ·refine ze<|zi fun r21 hr21 => ?_
           obtain ⟨_, er21, _, rfl⟩ := Z1J 23 zn zl r1.2 z7 zd zh z2 z6 zu zb zy r21 hr21
           refine zc [0] (.p (.tup [])) [(ZY zl r21.1 z7 zd zh r21.2.1 r21.2.2 zu zb), (Zv Z2j .nl .nl)] er21 ?_
           exact zk (Z2P zl r21.1 z7 zd zh r21.2.1 r21.2.2 Z2j zu zb .nl .nl zy rfl rfl)
          ·refine ze<|zq ?_
           refine za (r1.1 == 93) ?_ ?_
           ·refine za (r1.1 == 93) ?_ ?_
            ·refine ze<|zi fun r22 hr22 => ?_
             obtain ⟨_, er22, _, rfl⟩ := Z1J 20 zn zl r1.2 z7 zd zh z2 z6 zu zb zy r22 hr22
             refine zc [0] (.p (.tup [])) [(ZY zl r22.1 z7 zd zh r22.2.1 r22.2.2 zu zb), (Zv Z2j .nl .nl)] er22 ?_
             exact zk (Z2P zl r22.1 z7 zd zh r22.2.1 r22.2.2 Z2j zu zb .nl .nl zy rfl rfl)
            ·refine ze<|zi fun r23 hr23 => ?_
             obtain ⟨_, er23, _, rfl⟩ := Z31 r1.1 r23 hr23
             refine zc [] (pA_ (Z1c r23)) [(ZY zl r1.2 z7 zd zh z2 z6 zu zb), (Zv Z2j .nl .nl)] er23<|zq<|zi fun r24 hr24 => ?_
             obtain ⟨_, er24, _, rfl⟩ := Z5o false ([r23] : List Zi) .sh r24 hr24
             refine zc [] (pA_ (ZQ r24 .sh .sh)) [(ZY zl r1.2 z7 zd zh z2 z6 zu zb), (Zv Z2j .nl .nl)] er24<|zt [(ZY zl r1.2 z7 zd zh z2 z6 zu zb), (Zv r24 .sh .sh)] ?_
             exact zr ((.p (.tup [(.agg (ZQ r24 .sh .sh)), (.v (.bool true))])), [(ZY zl r1.2 z7 zd zh z2 z6 zu zb), (Zv r24 .sh .sh)]) ⟨zb, _, zy, rfl⟩
           ·refine ze<|zq ?_
            refine za (r1.1 == 125) ?_ ?_
            ·refine ze<|zi fun r25 hr25 => ?_
             obtain ⟨_, er25, _, rfl⟩ := Z1J 20 zn zl r1.2 z7 zd zh z2 z6 zu zb zy r25 hr25
             refine zc [0] (.p (.tup [])) [(ZY zl r25.1 z7 zd zh r25.2.1 r25.2.2 zu zb), (Zv Z2j .nl .nl)] er25 ?_
             exact zk (Z2P zl r25.1 z7 zd zh r25.2.1 r25.2.2 Z2j zu zb .nl .nl zy rfl rfl)
            ·refine ze<|zi fun r26 hr26 => ?_
             obtain ⟨_, er26, _, rfl⟩ := Z31 r1.1 r26 hr26
             refine zc [] (pA_ (Z1c r26)) [(ZY zl r1.2 z7 zd zh z2 z6 zu zb), (Zv Z2j .nl .nl)] er26<|zq<|zi fun r27 hr27 => ?_
             obtain ⟨_, er27, _, rfl⟩ := Z5o false ([r26] : List Zi) .sh r27 hr27
             refine zc [] (pA_ (ZQ r27 .sh .sh)) [(ZY zl r1.2 z7 zd zh z2 z6 zu zb), (Zv Z2j .nl .nl)] er27<|zt [(ZY zl r1.2 z7 zd zh z2 z6 zu zb), (Zv r27 .sh .sh)] ?_
             exact zr ((.p (.tup [(.agg (ZQ r27 .sh .sh)), (.v (.bool true))])), [(ZY zl r1.2 z7 zd zh z2 z6 zu zb), (Zv r27 .sh .sh)]) ⟨zb, _, zy, rfl⟩
         ·refine ze<|zq ?_
          refine za (r1.1 == 123) ?_ ?_
          ·refine ze<|zi fun r28 hr28 => ?_
           obtain ⟨_, er28, _, rfl⟩ := Z1J 23 zn zl r1.2 z7 zd zh z2 z6 zu zb zy r28 hr28
           refine zc [0] (.p (.tup [])) [(ZY zl r28.1 z7 zd zh r28.2.1 r28.2.2 zu zb), (Zv Z2j .nl .nl)] er28 ?_
           exact zk (Z2P zl r28.1 z7 zd zh r28.2.1 r28.2.2 Z2j zu zb .nl .nl zy rfl rfl)
          ·refine ze<|zq ?_
           refine za (r1.1 == 93) ?_ ?_
           ·refine za (r1.1 == 93) ?_ ?_
            ·refine ze<|zi fun r29 hr29 => ?_
             obtain ⟨_, er29, _, rfl⟩ := Z1J 20 zn zl r1.2 z7 zd zh z2 z6 zu zb zy r29 hr29
             refine zc [0] (.p (.tup [])) [(ZY zl r29.1 z7 zd zh r29.2.1 r29.2.2 zu zb), (Zv Z2j .nl .nl)] er29 ?_
             exact zk (Z2P zl r29.1 z7 zd zh r29.2.1 r29.2.2 Z2j zu zb .nl .nl zy rfl rfl)
            ·refine ze<|zi fun r30 hr30 => ?_
             obtain ⟨_, er30, _, rfl⟩ := Z31 r1.1 r30 hr30
             refine zc [] (pA_ (Z1c r30)) [(ZY zl r1.2 z7 zd zh z2 z6 zu zb), (Zv Z2j .nl .nl)] er30<|zq<|zi fun r31 hr31 => ?_
             obtain ⟨_, er31, _, rfl⟩ := Z5o false ([r30] : List Zi) .sh r31 hr31
             refine zc [] (pA_ (ZQ r31 .sh .sh)) [(ZY zl r1.2 z7 zd zh z2 z6 zu zb), (Zv Z2j .nl .nl)] er31<|zt [(ZY zl r1.2 z7 zd zh z2 z6 zu zb), (Zv r31 .sh .sh)] ?_
             exact zr ((.p (.tup [(.agg (ZQ r31 .sh .sh)), (.v (.bool true))])), [(ZY zl r1.2 z7 zd zh z2 z6 zu zb), (Zv r31 .sh .sh)]) ⟨zb, _, zy, rfl⟩
           ·refine ze<|zq ?_
            refine za (r1.1 == 125) ?_ ?_
            ·refine ze<|zi fun r32 hr32 => ?_
             obtain ⟨_, er32, _, rfl⟩ := Z1J 20 zn zl r1.2 z7 zd zh z2 z6 zu zb zy r32 hr32
             refine zc [0] (.p (.tup [])) [(ZY zl r32.1 z7 zd zh r32.2.1 r32.2.2 zu zb), (Zv Z2j .nl .nl)] er32 ?_
             exact zk (Z2P zl r32.1 z7 zd zh r32.2.1 r32.2.2 Z2j zu zb .nl .nl zy rfl rfl)
            ·refine ze<|zi fun r33 hr33 => ?_
             obtain ⟨_, er33, _, rfl⟩ := Z31 r1.1 r33 hr33
             refine zc [] (pA_ (Z1c r33)) [(ZY zl r1.2 z7 zd zh z2 z6 zu zb), (Zv Z2j .nl .nl)] er33<|zq<|zi fun r34 hr34 => ?_
             obtain ⟨_, er34, _, rfl⟩ := Z5o false ([r33] : List Zi) .sh r34 hr34
             refine zc [] (pA_ (ZQ r34 .sh .sh)) [(ZY zl r1.2 z7 zd zh z2 z6 zu zb), (Zv Z2j .nl .nl)] er34<|zt [(ZY zl r1.2 z7 zd zh z2 z6 zu zb), (Zv r34 .sh .sh)] ?_
             exact zr ((.p (.tup [(.agg (ZQ r34 .sh .sh)), (.v (.bool true))])), [(ZY zl r1.2 z7 zd zh z2 z6 zu zb), (Zv r34 .sh .sh)]) ⟨zb, _, zy, rfl⟩
theorem Zoy zl zn z7 zd zh z2 z6 {r} (h : Z9G zl zn z7 zd zh z2 z6 = some r) : Zcf zl zn z7 zd zh z2 z6 = some r :=
 Z1f (fun _ _ ha hb => ru_ (ZgW _ _) (ha .ex .ex rfl) (hb .ex .ex rfl)) (fun zu zb zy => ZnI zl zn z7 zd zh z2 z6 zu zb zy r h)
def Zc3 (zl : List Int) (zn : Int) : Option (Int × Int) :=
 (Zht zl zn).bind fun r1 =>
 some (r1.1, (IntKind.i64.wrap (zn + r1.2)))
theorem ZnP zl zn z7 zd zh z2 z6 zu zb (zy : ZW zb = true) : Sim (Z2R zl z7 zd zh z2 z6 zu zb) (Zc3 zl zn) (EE 127 [(.ptr 0 0)] [(ZY zl zn z7 zd zh z2 z6 zu zb)]) := by
 unfold Zc3
 refine zf (ZMc ..)<|ze<|ze<|zq<|zq<|zq<|zq<|zq<|zq<|zi fun r1 hr1 => ?_
 obtain ⟨_, er1, _, rfl⟩ := ZpX zl zn .sh r1 hr1
 refine zc [] (.p (.tup [(.v (.int .i64 r1.1)), (.v (.int .i64 r1.2))])) [(ZY zl zn z7 zd zh z2 z6 zu zb)] er1<|zq<|zq<|ze<|zq<|zq<|zq<|zq<|zq<|zq<|zt [(ZY zl (IntKind.i64.wrap (zn + r1.2)) z7 zd zh z2 z6 zu zb)]<|ze ?_
 exact zr ((iv r1.1), [(ZY zl (IntKind.i64.wrap (zn + r1.2)) z7 zd zh z2 z6 zu zb)]) ⟨_, rfl⟩
theorem ZoC zl zn {r} (h : Zc3 zl zn = some r) : Z4b zl zn = some r :=
 Z1f (fun _ _ ha hb => ru_ (Z8B _ _ _ _ _ _ _ _) (ha default default default default default .ex .ex rfl) (hb default default default default default .ex .ex rfl)) (fun z7 zd zh z2 z6 zu zb zy => ZnP zl zn z7 zd zh z2 z6 zu zb zy r h)
def Zoo (x0 : Int) : Option Zi :=
 some (Zi.mk x0 x0)
theorem Zxd x0 : Sim ZkJ (Zoo x0) (EE 129 [(iv x0)] []) := by
 unfold Zoo
 refine zf (ZMf ..)<|ze<|zz (.ptr 0 0) [(Z3f (Zi.mk 0 0))]<|ze<|zq<|zt [(Z3f (Zi.mk x0 x0))] ?_
 exact zr ((pA_ (Z1c (Zi.mk x0 x0))), [(Z3f (Zi.mk x0 x0))]) ⟨_, rfl⟩
theorem ZzM x0 {r} (h : Zoo x0 = some r) : Z3d x0 = some r :=
 Z1f (fun _ _ ha hb => ru_ ZAu ha hb) (Zxd x0 r h)
def ZfO (x5 : List Zi) : Option Zj :=
 some (Zj.mk 1 0 0 0 0 x5 ([] : List Zj))
theorem Zld (x5 : List Zi) b0 ox5 z2C z29 (zKI : ZW z2C = true) (zJE : ZW z29 = true) : Sim Z8A (ZfO x5) (ZtW 0 (.ptr 0 0) (ZM ox5 (x5.map ZB)) [(Zv b0 z2C z29)]) := by
 unfold ZfO
 refine zf (ZFz ..)<|ze<|zq<|zt [(Z3w 1 0 0 0 0 x5 ([] : List Zj) (shrO (shrO ox5)) .nl)] ?_
 exact zr ((pA_ (ZQ (Zj.mk 1 0 0 0 0 x5 ([] : List Zj)) .sh .sh)), [(Z3w 1 0 0 0 0 x5 ([] : List Zj) (shrO (shrO ox5)) .nl)]) ⟨_, rfl⟩
def ZkL (x0 : Bool) (x1 : List Zi) : Option Zj :=
 (Zj4 x1).bind fun r1 =>
 if x0 = true then
 ((ZcH r1.1).bind fun r2 =>
 ZfO r2.1)
 else
 (ZfO r1.1)
theorem Zxe x0 (x1 : List Zi) ox1 : Sim Z8A (ZkL x0 x1) (EE 128 [(bv x0), (ZM ox1 (x1.map ZB))] []) := by
 unfold ZkL
 refine zf (ZMd ..)<|ze<|zz (.ptr 0 0) [(Zv Z2j .nl .nl)]<|ze<|zi fun r1 hr1 => ?_
 obtain ⟨_, er1, _, rfl⟩ := Zxb x1 .sh r1 hr1
 refine zc [] (.p (.tup [(.lst .sh (r1.1.map ZB)), (.v (.int .i64 r1.2))])) [(Zv Z2j .nl .nl)] er1<|zq<|zq<|ze ?_
 refine za x0 ?_ ?_
 ·refine ze<|zi fun r2 hr2 => ?_
  obtain ⟨_, er2, _, rfl⟩ := Zl5 r1.1 .sh r2 hr2
  refine zc [] (.p (.tup [(.lst .sh (r2.1.map ZB)), (.v (.int .i64 r2.2))])) [(Zv Z2j .nl .nl)] er2<|zq<|zq ?_
  exact zk (Zld r2.1 Z2j .sh .nl .nl rfl rfl)
 ·exact zk (Zld r1.1 Z2j .sh .nl .nl rfl rfl)
theorem ZzN x0 x1 {r} (h : ZkL x0 x1 = some r) : Z58 x0 x1 = some r :=
 Z1f (fun _ _ ha hb => ru_ ZmI (ha .ex) (hb .ex)) (fun ox1 => Zxe x0 x1 ox1 r h)
def ZeM (x0 : List Zi) : Option ((List Zi) × Int) :=
 (ZfW x0).bind fun r1 =>
 some (r1, 0)
theorem Zs5 (x0 : List Zi) ox0 : Sim Z6k (ZeM x0) (Zys 0 (ZM ox0 (x0.map ZB)) []) := by
 unfold ZeM
 refine zf (ZFK ..)<|ze<|zi fun r1 hr1 => ?_
 obtain ⟨_, er1, _, rfl⟩ := ZlU x0 .sh r1 hr1
 refine zc [] (ZM .sh (r1.map ZB)) [] er1 ?_
 exact zr ((.p (.tup [(.lst .sh (r1.map ZB)), (.v (.int .i64 0))])), []) ⟨_, rfl⟩
def ZiV (x0 : List Zi) : Option ((List Zi) × Int) :=
 (Z6y x0).bind fun r1 =>
 if r1 = true then
 (some (([] : List Zi), 13))
 else
 (ZeM x0)
theorem Zvr (x0 : List Zi) ox0 : Sim Z6k (ZiV x0) (EE 147 [(ZM ox0 (x0.map ZB))] []) := by
 unfold ZiV
 refine zf (ZMv ..)<|ze<|ze<|zi fun r1 hr1 => ?_
 obtain ⟨_, er1, _, rfl⟩ := Zgx x0 .sh r1 hr1
 refine zc [] (bv r1) [] er1 ?_
 refine za r1 ?_ ?_
 ·refine ze ?_
  exact zr ((.p (.tup [(.lst .sh []), (.v (.int .i64 13))])), []) ⟨_, rfl⟩
 ·exact zk (Zs5 x0 ox0)
theorem Zxa x0 {r} (h : ZiV x0 = some r) : Zj4 x0 = some r :=
 Z1f (fun _ _ ha hb => ru_ Zk4 (ha .ex) (hb .ex)) (fun ox0 => Zvr x0 ox0 r h)
def Z6t (x0 : List Zi) : Option Bool :=
 (Z7P x0).bind fun r1 =>
 some (decide (0 ≤ r1))
theorem Zg3 (x0 : List Zi) ox0 : Sim ZZ (Z6t x0) (EE 166 [(ZM ox0 (x0.map ZB)), (.clo 167 [] [])] []) := by
 unfold Z6t
 refine zf (ZMO ..)<|ze<|ze<|zi fun r1 hr1 => ?_
 obtain ⟨_, er1, _, rfl⟩ := ZiN x0 .sh r1 hr1
 refine zc [] (iv r1) [] er1<|zq ?_
 exact zr ((bv (decide (0 ≤ r1))), []) ⟨_, rfl⟩
theorem Zgw x0 {r} (h : Z6t x0 = some r) : Z6y x0 = some r :=
 Z1f (fun _ _ ha hb => ru_ Z2k (ha .ex) (hb .ex)) (fun ox0 => Zg3 x0 ox0 r h)
def Z7H (x0 : List Zi) : Option Int :=
 Z5f x0 (x0.length : Int) 0
theorem Zi5 (x0 : List Zi) ox0 : Sim ZN (Z7H x0) (EE 179 [(ZM ox0 (x0.map ZB)), (.clo 167 [] [])] []) := by
 unfold Z7H
 refine zf (ZN2 ..)<|ze<|ze<|zp (iv (x0.length : Int)) (et_ (Z2O (P := PP) (t := 94) (d := 201) (by kernel_rfl) ZB (shrO ox0) x0)) ?_
 exact zk (ZaZ x0 (x0.length : Int) 0 ox0)
theorem ZiM x0 {r} (h : Z7H x0 = some r) : Z7P x0 = some r :=
 Z1f (fun _ _ ha hb => ru_ Z2l (ha .ex) (hb .ex)) (fun ox0 => Zi5 x0 ox0 r h)
def Z6w (x0 : List Zi) (x7 x8 : Int) : Option Int :=
 Z5f x0 x7 (IntKind.i64.wrap (x8 + 1))
theorem Zga (x0 : List Zi) x7 x8 ox0 : Sim ZN (Z6w x0 x7 x8) (Zz9 0 (ZM ox0 (x0.map ZB)) (.clo 167 [] []) (iv x7) (iv x8) []) := by
 unfold Z6w
 refine zf (ZGf ..)<|ze<|zq ?_
 exact zk (ZaZ x0 x7 (IntKind.i64.wrap (x8 + 1)) ox0)
def Z6v (x0 : List Zi) (x7 x8 : Int) : Option Int :=
 (lget x0 x8).bind fun a1 =>
 (ZfU a1).bind fun r2 =>
 if r2 = true then
 (some x8)
 else
 (Z6w x0 x7 x8)
theorem Zg9 (x0 : List Zi) x7 x8 ox0 : Sim ZN (Z6v x0 x7 x8) (Zz8 0 (ZM ox0 (x0.map ZB)) (.clo 167 [] []) (iv x7) (iv x8) []) := by
 unfold Z6v
 refine zf (ZGe ..)<|ze<|ze<|zi fun a1 ha1 => zp (.cptr (Z1c a1)) (et_ (Z3E (o := (shrO ox0)) (k := .i64) (n := 2) (e := ZB) (cs := Z9V) (fun _ => rfl) (fun _ => rfl) (by decide) ha1))<|zq<|zi fun r2 hr2 => ?_
 obtain ⟨_, er2, _, rfl⟩ := ZuD a1 r2 hr2
 refine zv [] (bv r2) [] er2 ?_
 refine za r2 ?_ ?_
 ·refine ze ?_
  exact zr ((iv x8), []) ⟨_, rfl⟩
 ·exact zk (Zga x0 x7 x8 ox0)
def Z92 : Option Int :=
 some (-1)
theorem Zgb : Sim ZN Z92 (Zza 0 []) := by
 unfold Z92
 refine zf (ZGg ..)<|ze ?_
 exact zr ((iv (-1)), []) ⟨_, rfl⟩
def Z5c (x0 : List Zi) (x7 x8 : Int) : Option Int :=
 if (decide (x8 < x7)) = true then
 (Z6v x0 x7 x8)
 else
 Z92
theorem Zg8 (x0 : List Zi) x7 x8 ox0 : Sim ZN (Z5c x0 x7 x8) (Zph 0 (ZM ox0 (x0.map ZB)) (.clo 167 [] []) (iv x7) (iv x8) []) := by
 unfold Z5c
 refine zf (ZGd ..)<|ze<|zq ?_
 refine za (decide (x8 < x7)) ?_ ?_
 ·exact zk (Zg9 x0 x7 x8 ox0)
 ·exact zk Zgb
theorem ZaY x0 x7 x8 {r} (h : Z5c x0 x7 x8 = some r) : Z5f x0 x7 x8 = some r :=
 Z1f (fun _ _ ha hb => ru_ Z2l (ha .ex) (hb .ex)) (fun ox0 => Zg8 x0 x7 x8 ox0 r h)
def ZfJ (x0 : Zi) : Option Bool :=
 (Z9M x0).bind fun r1 =>
 some (!r1)
theorem ZsY x0 : Sim ZZ (ZfJ x0) (EE 167 [(pA_ (Z1c x0))] []) := by
 unfold ZfJ
 refine zf (ZMP ..)<|ze<|zx (.ptr 0 0) [(Z3f x0)]<|ze<|zq<|zi fun r1 hr1 => ?_
 obtain ⟨_, er1, _, rfl⟩ := Zh0 x0 r1 hr1
 refine zc [] (bv r1) [(Z3f x0)] er1<|zq ?_
 exact zr ((bv (!r1)), [(Z3f x0)]) ⟨_, rfl⟩
theorem ZuC x0 {r} (h : ZfJ x0 = some r) : ZfU x0 = some r :=
 Z1f (fun _ _ ha hb => ru_ Z2k ha hb) (ZsY x0 r h)
def Zc0 (x0 : Zi) : Option Bool :=
 if (decide (0 ≤ x0.Lo)) = true then
 (if (decide (x0.Lo ≤ x0.Hi)) = true then
 (some (decide (x0.Hi ≤ 1114367)))
 else
 (some false))
 else
 (some false)
theorem Zny x0 : Sim ZZ (Zc0 x0) (EE 168 [(pA_ (Z1c x0))] []) := by
 unfold Zc0
 refine zf (ZMQ ..)<|ze<|zx (.ptr 0 0) [(Z3f x0)]<|ze<|zq<|zq<|zq ?_
 refine za (decide (0 ≤ x0.Lo)) ?_ ?_
 ·refine zq<|zq<|zq<|zq<|zq ?_
  refine za (decide (x0.Lo ≤ x0.Hi)) ?_ ?_
  ·refine zq<|zq<|zq ?_
   exact zr ((bv (decide (x0.Hi ≤ 1114367))), [(Z3f x0)]) ⟨_, rfl⟩
  ·exact zr ((bv false), [(Z3f x0)]) ⟨_, rfl⟩
 ·exact zr ((bv false), [(Z3f x0)]) ⟨_, rfl⟩
theorem Zop x0 {r} (h : Zc0 x0 = some r) : Z9M x0 = some r :=
 Z1f (fun _ _ ha hb => ru_ Z2k ha hb) (Zny x0 r h)
def Zcs (x0 : List Zi) : Option ((List Zi) × Int) :=
 (ZeX x0).bind fun r1 =>
 some (r1, 0)
theorem Zor (x0 : List Zi) ox0 : Sim Z6k (Zcs x0) (Zyt 0 (ZM ox0 (x0.map ZB)) []) := by
 unfold Zcs
 refine zf (ZFL ..)<|ze<|zi fun r1 hr1 => ?_
 obtain ⟨_, er1, _, rfl⟩ := Zt4 x0 .sh r1 hr1
 refine zc [] (ZM .sh (r1.map ZB)) [] er1 ?_
 exact zr ((.p (.tup [(.lst .sh (r1.map ZB)), (.v (.int .i64 0))])), []) ⟨_, rfl⟩
def ZeO (x0 : List Zi) : Option ((List Zi) × Int) :=
 (Z8O x0).bind fun r1 =>
 if (!r1) = true then
 (some (([] : List Zi), 10))
 else
 (Zcs x0)
theorem Zs7 (x0 : List Zi) ox0 : Sim Z6k (ZeO x0) (EE 148 [(ZM ox0 (x0.map ZB))] []) := by
 unfold ZeO
 refine zf (ZMx ..)<|ze<|ze<|zi fun r1 hr1 => ?_
 obtain ⟨_, er1, _, rfl⟩ := Zdz x0 .sh r1 hr1
 refine zc [] (bv r1) [] er1<|zq ?_
 refine za (!r1) ?_ ?_
 ·refine ze ?_
  exact zr ((.p (.tup [(.lst .sh []), (.v (.int .i64 10))])), []) ⟨_, rfl⟩
 ·exact zk (Zor x0 ox0)
theorem Zt1 x0 {r} (h : ZeO x0 = some r) : ZcH x0 = some r :=
 Z1f (fun _ _ ha hb => ru_ Zk4 (ha .ex) (hb .ex)) (fun ox0 => Zs7 x0 ox0 r h)
def Zcr (x0 : List Zi) : Option Bool :=
 Z8P (-2) x0 (x0.length : Int) 0
theorem Zoq (x0 : List Zi) ox0 : Sim ZZ (Zcr x0) (EE 170 [(ZM ox0 (x0.map ZB))] []) := by
 unfold Zcr
 refine zf (ZMR ..)<|ze<|ze<|ze<|zp (iv (x0.length : Int)) (et_ (Z2O (P := PP) (t := 95) (d := 201) (by kernel_rfl) ZB (shrO ox0) x0)) ?_
 exact zk (Zf5 (-2) x0 (x0.length : Int) 0 (shrO ox0))
theorem Zpy x0 {r} (h : Zcr x0 = some r) : Z8O x0 = some r :=
 Z1f (fun _ _ ha hb => ru_ Z2k (ha .ex) (hb .ex)) (fun ox0 => Zoq x0 ox0 r h)
def Zaw : Option Bool :=
 some false
theorem ZeW : Sim ZZ Zaw (Zua 0 []) := by
 unfold Zaw
 refine zf (ZG1 ..)<|ze ?_
 exact zr ((bv false), []) ⟨_, rfl⟩
def Zay (x3 : Int) (x6 : List Zi) (x7 x8 : Int) : Option Bool :=
 Z8P x3 x6 x7 (IntKind.i64.wrap (x8 + 1))
theorem Zm5 x3 (x6 : List Zi) x7 x8 ox6 : Sim ZZ (Zay x3 x6 x7 x8) (ZyU 0 (iv x3) (ZM ox6 (x6.map ZB)) (iv x7) (iv x8) []) := by
 unfold Zay
 refine zf (ZG3 ..)<|ze<|zq ?_
 exact zk (Zf5 x3 x6 x7 (IntKind.i64.wrap (x8 + 1)) ox6)
def Zax (x6 : List Zi) (x7 x8 : Int) (b0 : Zi) : Option Bool :=
 Zay b0.Hi x6 x7 x8
theorem Zm4 (x6 : List Zi) x7 x8 b0 ox6 : Sim ZZ (Zax x6 x7 x8 b0) (ZyT 0 (.ptr 0 0) (ZM ox6 (x6.map ZB)) (iv x7) (iv x8) [(Z3f b0)]) := by
 unfold Zax
 refine zf (ZG2 ..)<|ze<|zq<|zq ?_
 exact zk (Zm5 b0.Hi x6 x7 x8 ox6)
def Zav (x3 : Int) (x6 : List Zi) (x7 x8 : Int) : Option Bool :=
 (lget x6 x8).bind fun a1 =>
 (Z9M a1).bind fun r2 =>
 if (!r2) = true then
 Zaw
 else
 (if (decide (a1.Lo < (IntKind.i64.wrap (x3 + 2)))) = true then
 Zaw
 else
 (Zax x6 x7 x8 a1))
theorem Zm3 x3 (x6 : List Zi) x7 x8 ox6 : Sim ZZ (Zav x3 x6 x7 x8) (ZyS 0 (iv x3) (ZM ox6 (x6.map ZB)) (iv x7) (iv x8) []) := by
 unfold Zav
 refine zf (ZG0 ..)<|ze<|zi fun a1 ha1 => zp (.cptr (Z1c a1)) (et_ (Z3E (o := ox6) (k := .i64) (n := 2) (e := ZB) (cs := Z9V) (fun _ => rfl) (fun _ => rfl) (by decide) ha1))<|zq<|zz (.ptr 0 0) [(Z3f (Zi.mk 0 0))]<|zt [(Z3f a1)]<|ze<|zq<|zi fun r2 hr2 => ?_
 obtain ⟨_, er2, _, rfl⟩ := Zh0 a1 r2 hr2
 refine zc [] (bv r2) [(Z3f a1)] er2<|zq ?_
 refine za (!r2) ?_ ?_
 ·exact zk ZeW
 ·refine zq<|zq<|zq<|zq ?_
  refine za (decide (a1.Lo < (IntKind.i64.wrap (x3 + 2)))) ?_ ?_
  ·exact zk ZeW
  ·exact zk (Zm4 x6 x7 x8 a1 ox6)
def Zdt : Option Bool :=
 some true
theorem Zm6 : Sim ZZ Zdt (ZyV 0 []) := by
 unfold Zdt
 refine zf (ZG4 ..)<|ze ?_
 exact zr ((bv true), []) ⟨_, rfl⟩
def Z8C (x3 : Int) (x6 : List Zi) (x7 x8 : Int) : Option Bool :=
 if (decide (x8 < x7)) = true then
 (Zav x3 x6 x7 x8)
 else
 Zdt
theorem Zm2 x3 (x6 : List Zi) x7 x8 ox6 : Sim ZZ (Z8C x3 x6 x7 x8) (Zpe 0 (iv x3) (ZM ox6 (x6.map ZB)) (iv x7) (iv x8) []) := by
 unfold Z8C
 refine zf (ZFZ ..)<|ze<|zq ?_
 refine za (decide (x8 < x7)) ?_ ?_
 ·exact zk (Zm3 x3 x6 x7 x8 ox6)
 ·exact zk Zm6
theorem Zf4 x3 x6 x7 x8 {r} (h : Z8C x3 x6 x7 x8 = some r) : Z8P x3 x6 x7 x8 = some r :=
 Z1f (fun _ _ ha hb => ru_ Z2k (ha .ex) (hb .ex)) (fun ox6 => Zm2 x3 x6 x7 x8 ox6 r h)
def ZeP (x0 : List Zi) : Option (List Zi) :=
 Zan ([] : List Zi) 0 x0 (x0.length : Int) 0
theorem Zs8 (x0 : List Zi) ox0 : Sim Z4O (ZeP x0) (EE 171 [(ZM ox0 (x0.map ZB))] []) := by
 unfold ZeP
 refine zf (ZMV ..)<|ze<|ze<|ze<|ze<|zp (iv (x0.length : Int)) (et_ (Z2O (P := PP) (t := 95) (d := 201) (by kernel_rfl) ZB (shrO ox0) x0)) ?_
 exact zk (Zio ([] : List Zi) 0 x0 (x0.length : Int) 0 .nl (shrO ox0) rfl)
theorem Zt3 x0 {r} (h : ZeP x0 = some r) : ZeX x0 = some r :=
 Z1f (fun _ _ ha hb => ru_ ZdT (ha .ex) (hb .ex)) (fun ox0 => Zs8 x0 ox0 r h)
def Zcu (x3 : List Zi) (x4 : Int) (x7 : List Zi) (x8 x9 : Int) : Option (List Zi) :=
 Zan x3 x4 x7 x8 (IntKind.i64.wrap (x9 + 1))
theorem Zou (x3 : List Zi) x4 (x7 : List Zi) x8 x9 ox3 ox7 (hox3 : ZW ox3 = true) : Sim Z4O (Zcu x3 x4 x7 x8 x9) (Zz0 0 (ZM ox3 (x3.map ZB)) (iv x4) (ZM ox7 (x7.map ZB)) (iv x8) (iv x9) []) := by
 unfold Zcu
 refine zf (ZG8 ..)<|ze<|zq ?_
 exact zk (Zio x3 x4 x7 x8 (IntKind.i64.wrap (x9 + 1)) ox3 ox7 hox3)
def Z8D (x3 x7 : List Zi) (x8 x9 : Int) (b0 : Zi) : Option (List Zi) :=
 Zcu x3 (IntKind.i64.wrap (b0.Hi + 1)) x7 x8 x9
theorem Zh1 (x3 x7 : List Zi) x8 x9 b0 ox3 ox7 (hox3 : ZW ox3 = true) : Sim Z4O (Z8D x3 x7 x8 x9 b0) (Zue 0 (ZM ox3 (x3.map ZB)) (.ptr 0 0) (ZM ox7 (x7.map ZB)) (iv x8) (iv x9) [(Z3f b0)]) := by
 unfold Z8D
 refine zf (ZG7 ..)<|ze<|zq<|zq<|zq ?_
 exact zk (Zou x3 (IntKind.i64.wrap (b0.Hi + 1)) x7 x8 x9 ox3 ox7 hox3)
def Zct (x3 : List Zi) (x4 : Int) (x7 : List Zi) (x8 x9 : Int) : Option (List Zi) :=
 (lget x7 x9).bind fun a1 =>
 if (decide (x4 < a1.Lo)) = true then
 ((lapp x3 ([(Zi.mk x4 (IntKind.i64.wrap (a1.Lo - 1)))] : List Zi)).bind fun a2 =>
 Z8D a2 x7 x8 x9 a1)
 else
 (Z8D x3 x7 x8 x9 a1)
theorem Zot (x3 : List Zi) x4 (x7 : List Zi) x8 x9 ox3 ox7 (hox3 : ZW ox3 = true) : Sim Z4O (Zct x3 x4 x7 x8 x9) (ZyZ 0 (ZM ox3 (x3.map ZB)) (iv x4) (ZM ox7 (x7.map ZB)) (iv x8) (iv x9) []) := by
 unfold Zct
 refine zf (ZG6 ..)<|ze<|zi fun a1 ha1 => zp (.cptr (Z1c a1)) (et_ (Z3E (o := ox7) (k := .i64) (n := 2) (e := ZB) (cs := Z9V) (fun _ => rfl) (fun _ => rfl) (by decide) ha1))<|zq<|zz (.ptr 0 0) [(Z3f (Zi.mk 0 0))]<|zt [(Z3f a1)]<|ze<|zq<|zq<|zq ?_
 refine za (decide (x4 < a1.Lo)) ?_ ?_
 ·refine ze<|zq<|zq<|zq<|zq<|zq<|zi fun a2 ha2 => zp (ZM .un (a2.map ZB)) (Eq.trans (by kernel_rfl) <| Zgk (n := 2) (o := ox3) (o' := .ex) (e := ZB) (ys := ([(Zi.mk x4 (IntKind.i64.wrap (a1.Lo - 1)))] : List Zi)) (fun _ => rfl) (by decide) hox3 ha2) ?_
  exact zk (Zh1 a2 x7 x8 x9 a1 .un ox7 rfl)
 ·exact zk (Zh1 x3 x7 x8 x9 a1 ox3 ox7 hox3)
def Z8c (x3 : List Zi) : Option (List Zi) :=
 some x3
theorem Zgm (x3 : List Zi) ox3 (hox3 : ZW ox3 = true) : Sim Z4O (Z8c x3) (ZqB 0 (ZM ox3 (x3.map ZB)) []) := by
 unfold Z8c
 refine zf (ZE5 ..)<|ze ?_
 exact zr ((ZM .sh (x3.map ZB)), []) ⟨_, rfl⟩
def Zc1 (x3 : List Zi) (x4 : Int) : Option (List Zi) :=
 if (decide (x4 ≤ 1114367)) = true then
 ((lapp x3 ([(Zi.mk x4 1114367)] : List Zi)).bind fun a1 =>
 Z8c a1)
 else
 (Z8c x3)
theorem Znz (x3 : List Zi) x4 ox3 (hox3 : ZW ox3 = true) : Sim Z4O (Zc1 x3 x4) (Zvq 0 (ZM ox3 (x3.map ZB)) (iv x4) []) := by
 unfold Zc1
 refine zf (ZE4 ..)<|ze<|zq ?_
 refine za (decide (x4 ≤ 1114367)) ?_ ?_
 ·refine ze<|zq<|zq<|zi fun a1 ha1 => zp (ZM .un (a1.map ZB)) (Eq.trans (by kernel_rfl) <| Zgk (n := 2) (o := ox3) (o' := .ex) (e := ZB) (ys := ([(Zi.mk x4 1114367)] : List Zi)) (fun _ => rfl) (by decide) hox3 ha1) ?_
  exact zk (Zgm a1 .un rfl)
 ·exact zk (Zgm x3 ox3 hox3)
def Zai (x3 : List Zi) (x4 : Int) (x7 : List Zi) (x8 x9 : Int) : Option (List Zi) :=
 if (decide (x9 < x8)) = true then
 (Zct x3 x4 x7 x8 x9)
 else
 (Zc1 x3 x4)
theorem Zos (x3 : List Zi) x4 (x7 : List Zi) x8 x9 ox3 ox7 (hox3 : ZW ox3 = true) : Sim Z4O (Zai x3 x4 x7 x8 x9) (Zpf 0 (ZM ox3 (x3.map ZB)) (iv x4) (ZM ox7 (x7.map ZB)) (iv x8) (iv x9) []) := by
 unfold Zai
 refine zf (ZG5 ..)<|ze<|zq ?_
 refine za (decide (x9 < x8)) ?_ ?_
 ·exact zk (Zot x3 x4 x7 x8 x9 ox3 ox7 hox3)
 ·exact zk (Znz x3 x4 ox3 hox3)
theorem Zin x3 x4 x7 x8 x9 {r} (h : Zai x3 x4 x7 x8 x9 = some r) : Zan x3 x4 x7 x8 x9 = some r :=
 Z1f (fun _ _ ha hb => ru_ ZdT (ha .ex .ex rfl) (hb .ex .ex rfl)) (fun ox3 ox7 hox3 => Zos x3 x4 x7 x8 x9 ox3 ox7 hox3 r h)
def Z6M (x1 x5 zn : Int) (zh : List Zz) (z2 z6 : Int) : Option (Zj × Int × (List Zz) × Int × Int) :=
 (lapp zh ([(Zz.mk (IntKind.i64.wrap (x5 - 48)) x1)] : List Zz)).bind fun a1 =>
 some ((Zj.mk 6 0 0 0 (IntKind.i64.wrap (x5 - 48)) ([] : List Zi) ([] : List Zj)), zn, a1, z2, z6)
theorem ZjI x1 x5 zl zn z7 zd zh z2 z6 b1 zu zb zO zH (zy : ZW zb = true) (z1u : ZW zO = true) (z1j : ZW zH = true) : Sim (Z5T zl z7 zd zu) (Z6M x1 x5 zn zh z2 z6) (Zvh 1 (.ptr 0 0) (iv x1) (.ptr 1 0) (iv x5) [(ZY zl zn z7 zd zh z2 z6 zu zb), (Zv b1 zO zH)]) := by
 unfold Z6M
 refine zf (ZDJ ..)<|ze<|zq<|zq<|zw (ZM zb (zh.map Z3I)) [(ZY zl zn z7 zd zh z2 z6 zu (shrO zb)), (Zv b1 zO zH)]<|zq<|zq<|zq<|zi fun a1 ha1 => zp (ZM .un (a1.map Z3I)) (Eq.trans (by kernel_rfl) <| Zgk (n := 2) (o := zb) (o' := .ex) (e := Z3I) (ys := ([(Zz.mk (IntKind.i64.wrap (x5 - 48)) x1)] : List Zz)) (fun _ => rfl) (by decide) zy ha1)<|zq<|zq<|zt [(ZY zl zn z7 zd a1 z2 z6 zu .un), (Zv b1 zO zH)]<|ze<|zq<|zq<|zt [(ZY zl zn z7 zd a1 z2 z6 zu .un), (Z3w 6 0 0 0 (IntKind.i64.wrap (x5 - 48)) ([] : List Zi) ([] : List Zj) .nl .nl)] ?_
 exact zr ((pA_ (ZQ (Zj.mk 6 0 0 0 (IntKind.i64.wrap (x5 - 48)) ([] : List Zi) ([] : List Zj)) .sh .sh)), [(ZY zl zn z7 zd a1 z2 z6 zu .un), (Z3w 6 0 0 0 (IntKind.i64.wrap (x5 - 48)) ([] : List Zi) ([] : List Zj) .nl .nl)]) ⟨.un, _, rfl, rfl⟩
def Z4d (x1 x5 : Int) (zl : List Int) (zn z7 zd : Int) (zh : List Zz) (z2 z6 : Int) : Option (Zj × Int × (List Zz) × Int × Int) :=
 (Z9m x5 x1 zl zn z7 zd zh z2 z6).bind fun r1 =>
 (Z3d r1.1).bind fun r2 =>
 (Z58 false ([r2] : List Zi)).bind fun r3 =>
 some (r3, r1.2.1, zh, r1.2.2.1, r1.2.2.2)
theorem Zd6 x1 x5 zl zn z7 zd zh z2 z6 b1 zu zb zO zH (zy : ZW zb = true) (z1u : ZW zO = true) (z1j : ZW zH = true) : Sim (Z5T zl z7 zd zu) (Z4d x1 x5 zl zn z7 zd zh z2 z6) (Zqv 1 (.ptr 0 0) (iv x1) (.ptr 1 0) (iv x5) [(ZY zl zn z7 zd zh z2 z6 zu zb), (Zv b1 zO zH)]) := by
 unfold Z4d
 refine zf (ZDK ..)<|ze<|zi fun r1 hr1 => ?_
 obtain ⟨_, er1, _, rfl⟩ := Zgn x5 x1 zl zn z7 zd zh z2 z6 zu zb zy r1 hr1
 refine zc [0] (iv r1.1) [(ZY zl r1.2.1 z7 zd zh r1.2.2.1 r1.2.2.2 zu zb), (Zv b1 zO zH)] er1<|zi fun r2 hr2 => ?_
 obtain ⟨_, er2, _, rfl⟩ := Z31 r1.1 r2 hr2
 refine zc [] (pA_ (Z1c r2)) [(ZY zl r1.2.1 z7 zd zh r1.2.2.1 r1.2.2.2 zu zb), (Zv b1 zO zH)] er2<|zq<|zi fun r3 hr3 => ?_
 obtain ⟨_, er3, _, rfl⟩ := Z5o false ([r2] : List Zi) .sh r3 hr3
 refine zc [] (pA_ (ZQ r3 .sh .sh)) [(ZY zl r1.2.1 z7 zd zh r1.2.2.1 r1.2.2.2 zu zb), (Zv b1 zO zH)] er3<|zt [(ZY zl r1.2.1 z7 zd zh r1.2.2.1 r1.2.2.2 zu zb), (Zv r3 .sh .sh)] ?_
 exact zr ((pA_ (ZQ r3 .sh .sh)), [(ZY zl r1.2.1 z7 zd zh r1.2.2.1 r1.2.2.2 zu zb), (Zv r3 .sh .sh)]) ⟨zb, _, zy, rfl⟩
def Z4q (x1 x5 : Int) (zl : List Int) (zn z7 zd : Int) (zh : List Zz) (z2 z6 : Int) : Option (Zj × Int × (List Zz) × Int × Int) :=
 (Z4b zl zn).bind fun r1 =>
 (Z9u x5).bind fun r2 =>
 (nilO r2.1 r2.2).bind fun a3 =>
 if (!a3) = true then
 ((Z9u x5).bind fun r4 =>
 (Z58 (decide (x5 < 97)) r4.2).bind fun r5 =>
 some (r5, r1.2, zh, z2, z6))
 else
 (if (x5 == 98) = true then
 (some ((Zj.mk 9 0 0 0 2 ([] : List Zi) ([] : List Zj)), r1.2, zh, z2, z6))
 else
 (if (x5 == 66) = true then
 (some ((Zj.mk 9 0 0 0 3 ([] : List Zi) ([] : List Zj)), r1.2, zh, z2, z6))
 else
 (if (decide (49 ≤ x5)) = true then
 (if (decide (x5 ≤ 57)) = true then
 (Z6M x1 x5 r1.2 zh z2 z6)
 else
 (Z4d x1 x5 zl r1.2 z7 zd zh z2 z6))
 else
 (Z4d x1 x5 zl r1.2 z7 zd zh z2 z6))))
theorem Zkj x1 x5 zl zn z7 zd zh z2 z6 b1 zu zb zO zH (zy : ZW zb = true) (z1u : ZW zO = true) (z1j : ZW zH = true) : Sim (Z5T zl z7 zd zu) (Z4q x1 x5 zl zn z7 zd zh z2 z6) (Zyf 1 (.ptr 0 0) (iv x1) (.ptr 1 0) (iv x5) [(ZY zl zn z7 zd zh z2 z6 zu zb), (Zv b1 zO zH)]) := by
 unfold Z4q
 refine zf (ZFA ..)<|ze<|zi fun r1 hr1 => ?_
 obtain ⟨_, er1, _, rfl⟩ := Z4L zl zn z7 zd zh z2 z6 zu zb zy r1 hr1
 refine zc [0] (iv r1.1) [(ZY zl r1.2 z7 zd zh z2 z6 zu zb), (Zv b1 zO zH)] er1<|ze<|zi fun r2 hr2 => ?_
 obtain ⟨_, er2, _, rfl⟩ := Zeh x5 r2 hr2
 refine zc [] (ZM r2.1 (r2.2.map ZB)) [(ZY zl r1.2 z7 zd zh z2 z6 zu zb), (Zv b1 zO zH)] er2<|zi fun a3 ha3 => zp (bv (!a3)) (et_ (ZrV (P := PP) (t := 94) (c := .slice none 0 0) (e := ZB) (by kernel_rfl) ha3)) ?_
 refine za (!a3) ?_ ?_
 ·refine ze<|zq<|zi fun r4 hr4 => ?_
  obtain ⟨_, er4, _, rfl⟩ := Zeh x5 r4 hr4
  refine zc [] (ZM r4.1 (r4.2.map ZB)) [(ZY zl r1.2 z7 zd zh z2 z6 zu zb), (Zv b1 zO zH)] er4<|zi fun r5 hr5 => ?_
  obtain ⟨_, er5, _, rfl⟩ := Z5o (decide (x5 < 97)) r4.2 .sh r5 hr5
  refine zc [] (pA_ (ZQ r5 .sh .sh)) [(ZY zl r1.2 z7 zd zh z2 z6 zu zb), (Zv b1 zO zH)] er5<|zt [(ZY zl r1.2 z7 zd zh z2 z6 zu zb), (Zv r5 .sh .sh)] ?_
  exact zr ((pA_ (ZQ r5 .sh .sh)), [(ZY zl r1.2 z7 zd zh z2 z6 zu zb), (Zv r5 .sh .sh)]) ⟨zb, _, zy, rfl⟩
 ·refine ze<|zq ?_
  refine za (x5 == 98) ?_ ?_
  ·refine ze<|zq<|zt [(ZY zl r1.2 z7 zd zh z2 z6 zu zb), (Z3w 9 0 0 0 2 ([] : List Zi) ([] : List Zj) .nl .nl)] ?_
   exact zr ((pA_ (ZQ (Zj.mk 9 0 0 0 2 ([] : List Zi) ([] : List Zj)) .sh .sh)), [(ZY zl r1.2 z7 zd zh z2 z6 zu zb), (Z3w 9 0 0 0 2 ([] : List Zi) ([] : List Zj) .nl .nl)]) ⟨zb, _, zy, rfl⟩
  ·refine ze<|zq ?_
   refine za (x5 == 66) ?_ ?_
   ·refine ze<|zq<|zt [(ZY zl r1.2 z7 zd zh z2 z6 zu zb), (Z3w 9 0 0 0 3 ([] : List Zi) ([] : List Zj) .nl .nl)] ?_
    exact zr ((pA_ (ZQ (Zj.mk 9 0 0 0 3 ([] : List Zi) ([] : List Zj)) .sh .sh)), [(ZY zl r1.2 z7 zd zh z2 z6 zu zb), (Z3w 9 0 0 0 3 ([] : List Zi) ([] : List Zj) .nl .nl)]) ⟨zb, _, zy, rfl⟩
   ·refine ze<|zq ?_
    refine za (decide (49 ≤ x5)) ?_ ?_
    ·refine zq ?_
     refine za (decide (x5 ≤ 57)) ?_ ?_
     ·exact zk (ZjI x1 x5 zl r1.2 z7 zd zh z2 z6 b1 zu zb zO zH zy z1u z1j)
     ·exact zk (Zd6 x1 x5 zl r1.2 z7 zd zh z2 z6 b1 zu zb zO zH zy z1u z1j)
    ·exact zk (Zd6 x1 x5 zl r1.2 z7 zd zh z2 z6 b1 zu zb zO zH zy z1u z1j)
def Z74 (x1 : Int) (zl : List Int) (zn z7 zd : Int) (zh : List Zz) (z2 z6 : Int) : Option (Zj × Int × (List Zz) × Int × Int) :=
 (Z3p (Z2c.mk zl zn z7 zd zh (Z1p.mk z2 z6))).bind fun r1 =>
 if (decide (r1 < 0)) = true then
 ((Z1D 21 x1 zl z2 z6).bind fun r2 =>
 some ((Zj.mk 0 0 0 0 0 ([] : List Zi) ([] : List Zj)), r2.1, zh, r2.2.1, r2.2.2))
 else
 (Z4q x1 r1 zl zn z7 zd zh z2 z6)
theorem Zmj x1 zl zn z7 zd zh z2 z6 zu zb (zy : ZW zb = true) : Sim (Z5T zl z7 zd zu) (Z74 x1 zl zn z7 zd zh z2 z6) (EE 130 [(.ptr 0 0), (iv x1)] [(ZY zl zn z7 zd zh z2 z6 zu zb)]) := by
 unfold Z74
 refine zf (ZMg ..)<|ze<|zz (.ptr 1 0) [(ZY zl zn z7 zd zh z2 z6 zu zb), (Zv Z2j .nl .nl)]<|ze<|zi fun r1 hr1 => ?_
 obtain ⟨_, er1, _, rfl⟩ := Z3z (Z2c.mk zl zn z7 zd zh (Z1p.mk z2 z6)) zu zb zy r1 hr1
 refine zc [0] (iv r1) [(ZY zl zn z7 zd zh z2 z6 zu zb), (Zv Z2j .nl .nl)] er1<|ze<|zq ?_
 refine za (decide (r1 < 0)) ?_ ?_
 ·refine ze<|zi fun r2 hr2 => ?_
  obtain ⟨_, er2, _, rfl⟩ := Z1J 21 x1 zl zn z7 zd zh z2 z6 zu zb zy r2 hr2
  refine zc [0] (.p (.tup [])) [(ZY zl r2.1 z7 zd zh r2.2.1 r2.2.2 zu zb), (Zv Z2j .nl .nl)] er2<|ze<|zq<|zt [(ZY zl r2.1 z7 zd zh r2.2.1 r2.2.2 zu zb), (Zv Z2j .nl .nl)] ?_
  exact zr ((pA_ (ZQ Z2j .sh .sh)), [(ZY zl r2.1 z7 zd zh r2.2.1 r2.2.2 zu zb), (Zv Z2j .nl .nl)]) ⟨zb, _, zy, rfl⟩
 ·exact zk (Zkj x1 r1 zl zn z7 zd zh z2 z6 Z2j zu zb .nl .nl zy rfl rfl)
theorem Zn4 x1 zl zn z7 zd zh z2 z6 {r} (h : Z74 x1 zl zn z7 zd zh z2 z6 = some r) : Z62 x1 zl zn z7 zd zh z2 z6 = some r :=
 Z1f (fun _ _ ha hb => ru_ (Znw _ _ _ _) (ha .ex .ex rfl) (hb .ex .ex rfl)) (fun zu zb zy => Zmj x1 zl zn z7 zd zh z2 z6 zu zb zy r h)
end Go.Proofs.YteoeggbihfnbfaaGreatDoor.N2
end
