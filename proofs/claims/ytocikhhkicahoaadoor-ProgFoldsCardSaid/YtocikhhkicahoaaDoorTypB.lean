/- The functions' typed texts. No condition. -/
import Derived.Test.YtocikhhkicahoaaDoorTypA

set_option linter.unusedSimpArgs false
set_option linter.unusedVariables false
set_option linter.defProp false
noncomputable section
namespace Go.Proofs.YtocikhhkicahoaaDoor.N2
open Go Go.Abs
set_option maxRecDepth 100000
def Z30 (x4 x5 x7 x8 : Int) : Option Bool :=
 if (x5 == x8) = true then
 (some true)
 else
 (if (x4 != 0) = true then
 (some true)
 else
 (some (x7 != 0)))
theorem Z6I x4 x5 x7 x8 : Sim ZP (Z30 x4 x5 x7 x8) (Zqo 0 (iv x4) (iv x5) (iv x7) (iv x8) []) := by
 unfold Z30
 refine zf (ZDu ..)<|ze<|zq ?_
 refine za (x5 == x8) ?_ ?_
 ·exact zr ((bv true), []) ⟨_, rfl⟩
 ·refine zq ?_
  refine za (x4 != 0) ?_ ?_
  ·exact zr ((bv true), []) ⟨_, rfl⟩
  ·refine zq ?_
   exact zr ((bv (x7 != 0)), []) ⟨_, rfl⟩
def Z5F : Option Bool :=
 some false
theorem Z9h : Sim ZP Z5F (Zqn 0 []) := by
 unfold Z5F
 refine zf (ZB9 ..)<|ze ?_
 exact zr ((bv false), []) ⟨_, rfl⟩
def Z5G (x3 x6 : List Zo) : Option Bool :=
 Z4n x6 x3 (x3.length : Int) 0
theorem ZdT (x3 x6 : List Zo) ox3 ox6 : Sim ZP (Z5G x3 x6) (ZuA 0 (ZO ox3 (x3.map ZC)) (ZO ox6 (x6.map ZC)) []) := by
 unfold Z5G
 refine zf (ZBa ..)<|ze<|zp (iv (x3.length : Int)) (et_ (Z3d (P := PP) (t := 23) (d := 40) (by kernel_rfl) ZC (shrO ox3) x3)) ?_
 exact zk (Z9w x6 x3 (x3.length : Int) 0 ox6 (shrO ox3))
def Z63 (x3 x6 : List Zo) (x8 : Int) : Option Bool :=
 if (x8 != 0) = true then
 Z5F
 else
 (if ((x3.length : Int) != (x6.length : Int)) = true then
 Z5F
 else
 (Z5G x3 x6))
theorem Zej (x3 x6 : List Zo) x8 ox3 ox6 : Sim ZP (Z63 x3 x6 x8) (Zyv 0 (ZO ox3 (x3.map ZC)) (ZO ox6 (x6.map ZC)) (iv x8) []) := by
 unfold Z63
 refine zf (ZDv ..)<|ze<|zq ?_
 refine za (x8 != 0) ?_ ?_
 ·exact zk Z9h
 ·refine zp (iv (x3.length : Int)) (et_ (Z3d (P := PP) (t := 23) (d := 40) (by kernel_rfl) ZC (shrO ox3) x3))<|zp (iv (x6.length : Int)) (et_ (Z3d (P := PP) (t := 23) (d := 40) (by kernel_rfl) ZC (shrO ox6) x6))<|zq ?_
  refine za ((x3.length : Int) != (x6.length : Int)) ?_ ?_
  ·exact zk Z9h
  ·exact zk (ZdT x3 x6 ox3 ox6)
def Z62 (x0 : ByteArray) : Option Bool :=
 (Z2l x0).bind fun r1 =>
 (sadd (ByteArray.mk #[40, 63, 105, 41]) x0).bind fun a2 =>
 (Z2l a2).bind fun r3 =>
 if (r1.2.1 != 0) = true then
 (Z30 r1.2.1 r1.2.2 r3.2.1 r3.2.2)
 else
 (if (r3.2.1 != 0) = true then
 (Z30 r1.2.1 r1.2.2 r3.2.1 r3.2.2)
 else
 (if (r1.2.2 != 0) = true then
 (Z30 r1.2.1 r1.2.2 r3.2.1 r3.2.2)
 else
 (Z63 r1.1 r3.1 r3.2.2)))
theorem Zei x0 : Sim ZP (Z62 x0) (Zyu 0 (.p (.v (.string x0))) []) := by
 unfold Z62
 refine zf (ZDt ..)<|ze<|zi fun r1 hr1 => ?_
 obtain ⟨_, er1, _, rfl⟩ := Z7O x0 r1 hr1
 refine zc [] (.p (.tup [(.lst .sh (r1.1.map ZC)), (.v (.int .i64 r1.2.1)), (.v (.int .i64 r1.2.2))])) [] er1<|zq<|zq<|zq<|ze<|zi fun a2 ha2 => zp (.p (.v (.string a2))) (et_ (ZEt (P := PP) (t := 9) ha2))<|zi fun r3 hr3 => ?_
 obtain ⟨_, er3, _, rfl⟩ := Z7O a2 r3 hr3
 refine zc [] (.p (.tup [(.lst .sh (r3.1.map ZC)), (.v (.int .i64 r3.2.1)), (.v (.int .i64 r3.2.2))])) [] er3<|zq<|zq<|zq<|ze<|zq ?_
 refine za (r1.2.1 != 0) ?_ ?_
 ·exact zk (Z6I r1.2.1 r1.2.2 r3.2.1 r3.2.2)
 ·refine zq ?_
  refine za (r3.2.1 != 0) ?_ ?_
  ·exact zk (Z6I r1.2.1 r1.2.2 r3.2.1 r3.2.2)
  ·refine zq ?_
   refine za (r1.2.2 != 0) ?_ ?_
   ·exact zk (Z6I r1.2.1 r1.2.2 r3.2.1 r3.2.2)
   ·exact zk (Zej r1.1 r3.1 r3.2.2 .sh .sh)
def Z61 (x0 : ByteArray) : Option Bool :=
 if (decide (250 < (x0.size : Int))) = true then
 (some true)
 else
 (Z62 x0)
theorem Zeh x0 : Sim ZP (Z61 x0) (Zyt 0 (.p (.v (.string x0))) []) := by
 unfold Z61
 refine zf (ZDs ..)<|ze<|zq<|zq ?_
 refine za (decide (250 < (x0.size : Int))) ?_ ?_
 ·refine ze ?_
  exact zr ((bv true), []) ⟨_, rfl⟩
 ·exact zk (Zei x0)
def Z71 (x0 : ByteArray) : Option Bool :=
 (Z8g).bind fun r1 =>
 if (!r1) = true then
 (some false)
 else
 (Z61 x0)
theorem ZfA x0 : Sim ZP (Z71 x0) (EE 4 [(.p (.v (.string x0)))] []) := by
 unfold Z71
 refine zf (ZIu ..)<|ze<|ze<|zi fun r1 hr1 => ?_
 obtain ⟨_, er1, _, rfl⟩ := Zi5 r1 hr1
 refine zc [] (bv r1) [] er1<|zq ?_
 refine za (!r1) ?_ ?_
 ·refine ze ?_
  exact zr ((bv false), []) ⟨_, rfl⟩
 ·exact zk (Zeh x0)
theorem ZfV x0 {r} (h : Z71 x0 = some r) : Z99 x0 = some r :=
 Z1h (fun _ _ ha hb => ru_ Z2p ha hb) (ZfA x0 r h)
def Z2U : Option Bool :=
 some false
theorem Z3l : Sim ZP Z2U (ZgT 0 []) := by
 unfold Z2U
 refine zf (ZBc ..)<|ze ?_
 exact zr ((bv false), []) ⟨_, rfl⟩
def Z3H : Option Bool :=
 some false
theorem Z4K : Sim ZP Z3H (ZkB 0 []) := by
 unfold Z3H
 refine zf (ZBe ..)<|ze ?_
 exact zr ((bv false), []) ⟨_, rfl⟩
def Z3h (x6 x62 : List Zo) (x63 x64 : Int) : Option Bool :=
 Z4n x6 x62 x63 (IntKind.i64.wrap (x64 + 1))
theorem Z4L (x6 x62 : List Zo) x63 x64 ox6 ox62 : Sim ZP (Z3h x6 x62 x63 x64) (ZkC 0 (ZO ox6 (x6.map ZC)) (ZO ox62 (x62.map ZC)) (iv x63) (iv x64) []) := by
 unfold Z3h
 refine zf (ZBf ..)<|ze<|zq ?_
 exact zk (Z9w x6 x62 x63 (IntKind.i64.wrap (x64 + 1)) ox6 ox62)
def Z5I (x6 x62 : List Zo) (x63 x64 : Int) (b0 b1 : Zo) : Option Bool :=
 if (b0.Op == 5) = true then
 (if (b0.B != 0) = true then
 Z3H
 else
 (if (b1.B != 1) = true then
 Z3H
 else
 (if (b0.Op != 5) = true then
 (if (b0.B != b1.B) = true then
 Z3H
 else
 (Z3h x6 x62 x63 x64))
 else
 (Z3h x6 x62 x63 x64))))
 else
 (if (b0.Op != 5) = true then
 (if (b0.B != b1.B) = true then
 Z3H
 else
 (Z3h x6 x62 x63 x64))
 else
 (Z3h x6 x62 x63 x64))
theorem ZdV (x6 x62 : List Zo) x63 x64 b0 b1 ox6 ox62 z1O zG : Sim ZP (Z5I x6 x62 x63 x64 b0 b1) (ZuC 0 (ZO ox6 (x6.map ZC)) (.ptr 0 0) (.ptr 1 0) (ZO ox62 (x62.map ZC)) (iv x63) (iv x64) [(Z1k b0 z1O), (Z1k b1 zG)]) := by
 unfold Z5I
 refine zf (ZBd ..)<|ze<|zq<|zq<|zq ?_
 refine za (b0.Op == 5) ?_ ?_
 ·refine zq<|zq<|zq ?_
  refine za (b0.B != 0) ?_ ?_
  ·exact zk Z4K
  ·refine zq<|zq<|zq ?_
   refine za (b1.B != 1) ?_ ?_
   ·exact zk Z4K
   ·refine zq<|zq<|zq ?_
    refine za (b0.Op != 5) ?_ ?_
    ·refine zq<|zq<|zq<|zq<|zq ?_
     refine za (b0.B != b1.B) ?_ ?_
     ·exact zk Z4K
     ·exact zk (Z4L x6 x62 x63 x64 ox6 ox62)
    ·exact zk (Z4L x6 x62 x63 x64 ox6 ox62)
 ·refine zq<|zq<|zq ?_
  refine za (b0.Op != 5) ?_ ?_
  ·refine zq<|zq<|zq<|zq<|zq ?_
   refine za (b0.B != b1.B) ?_ ?_
   ·exact zk Z4K
   ·exact zk (Z4L x6 x62 x63 x64 ox6 ox62)
  ·exact zk (Z4L x6 x62 x63 x64 ox6 ox62)
def Z5H (x6 x62 : List Zo) (x63 x64 : Int) : Option Bool :=
 (lget x62 x64).bind fun a1 =>
 (lget x6 x64).bind fun a2 =>
 (Z6H a1.Set).bind fun r3 =>
 if (r3.2 != 0) = true then
 Z2U
 else
 ((Z8h r3.1 a2.Set).bind fun r4 =>
 if (!r4) = true then
 Z2U
 else
 (if (a1.Op != a2.Op) = true then
 Z2U
 else
 (if (a1.A != a2.A) = true then
 Z2U
 else
 (if (a1.C != a2.C) = true then
 Z2U
 else
 (if (a1.D != a2.D) = true then
 Z2U
 else
 (Z5I x6 x62 x63 x64 a1 a2))))))
theorem ZdU (x6 x62 : List Zo) x63 x64 ox6 ox62 : Sim ZP (Z5H x6 x62 x63 x64) (ZuB 0 (ZO ox6 (x6.map ZC)) (ZO ox62 (x62.map ZC)) (iv x63) (iv x64) []) := by
 unfold Z5H
 refine zf (ZBb ..)<|ze<|zi fun a1 ha1 => zp (.cptr (Z1m a1 .sh)) (et_ (Z2D (o := ox62) (k := .i64) (n := 6) (e := ZC) (cs := Z4B) (fun _ => rfl) (fun _ => rfl) (by decide) ha1))<|zq<|zz (.ptr 0 0) [(Z1k Zpy .nl)]<|zt [(Z1k a1 .sh)]<|ze<|zi fun a2 ha2 => zp (.cptr (Z1m a2 .sh)) (et_ (Z2D (o := (shrO ox6)) (k := .i64) (n := 6) (e := ZC) (cs := Z4B) (fun _ => rfl) (fun _ => rfl) (by decide) ha2))<|zq<|zz (.ptr 1 0) [(Z1k a1 .sh), (Z1k Zpy .nl)]<|zt [(Z1k a1 .sh), (Z1k a2 .sh)]<|ze<|zq<|zq<|zi fun r3 hr3 => ?_
 obtain ⟨_, er3, _, rfl⟩ := ZfO a1.Set .sh r3 hr3
 refine zc [] (.p (.tup [(.lst .sh (r3.1.map Zp)), (.v (.int .i64 r3.2))])) [(Z1k a1 .sh), (Z1k a2 .sh)] er3<|zq<|zq<|ze<|zq ?_
 refine za (r3.2 != 0) ?_ ?_
 ·exact zk Z3l
 ·refine zq<|zq<|zi fun r4 hr4 => ?_
  obtain ⟨_, er4, _, rfl⟩ := Zi7 r3.1 a2.Set .sh .sh r4 hr4
  refine zc [] (bv r4) [(Z1k a1 .sh), (Z1k a2 .sh)] er4<|zq ?_
  refine za (!r4) ?_ ?_
  ·exact zk Z3l
  ·refine zq<|zq<|zq<|zq<|zq ?_
   refine za (a1.Op != a2.Op) ?_ ?_
   ·exact zk Z3l
   ·refine zq<|zq<|zq<|zq<|zq ?_
    refine za (a1.A != a2.A) ?_ ?_
    ·exact zk Z3l
    ·refine zq<|zq<|zq<|zq<|zq ?_
     refine za (a1.C != a2.C) ?_ ?_
     ·exact zk Z3l
     ·refine zq<|zq<|zq<|zq<|zq ?_
      refine za (a1.D != a2.D) ?_ ?_
      ·exact zk Z3l
      ·exact zk (ZdV x6 x62 x63 x64 a1 a2 ox6 ox62 .sh .sh)
def Z7K : Option Bool :=
 some true
theorem ZdW : Sim ZP Z7K (ZuD 0 []) := by
 unfold Z7K
 refine zf (ZBg ..)<|ze ?_
 exact zr ((bv true), []) ⟨_, rfl⟩
def Z4m (x6 x62 : List Zo) (x63 x64 : Int) : Option Bool :=
 if (decide (x64 < x63)) = true then
 (Z5H x6 x62 x63 x64)
 else
 Z7K
theorem ZdS (x6 x62 : List Zo) x63 x64 ox6 ox62 : Sim ZP (Z4m x6 x62 x63 x64) (ZmP 0 (ZO ox6 (x6.map ZC)) (ZO ox62 (x62.map ZC)) (iv x63) (iv x64) []) := by
 unfold Z4m
 refine zf (ZB8 ..)<|ze<|zq ?_
 refine za (decide (x64 < x63)) ?_ ?_
 ·exact zk (ZdU x6 x62 x63 x64 ox6 ox62)
 ·exact zk ZdW
theorem Z9v x6 x62 x63 x64 {r} (h : Z4m x6 x62 x63 x64 = some r) : Z4n x6 x62 x63 x64 = some r :=
 Z1h (fun _ _ ha hb => ru_ Z2p (ha .ex .ex) (hb .ex .ex)) (fun ox6 ox62 => ZdS x6 x62 x63 x64 ox6 ox62 r h)
def Z34 : Option Bool :=
 some false
theorem Z3I : Sim ZP Z34 (ZjH 0 []) := by
 unfold Z34
 refine zf (ZDw ..)<|ze ?_
 exact zr ((bv false), []) ⟨_, rfl⟩
def Z72 (x1 x4 : List Zo) : Option Bool :=
 (lget x1 1).bind fun a1 =>
 if (a1.Op == 3) = true then
 ((lget x1 1).bind fun a2 =>
 if (a2.A == 2) = true then
 ((lget x1 1).bind fun a3 =>
 if (a3.B == 4) = true then
 ((lget x1 3).bind fun a4 =>
 if (a4.Op == 2) = true then
 ((lget x1 3).bind fun a5 =>
 if (a5.A == 5) = true then
 ((lget x4 4).bind fun a6 =>
 if (a6.Op == 11) = true then
 ((lget x4 1).bind fun a7 =>
 if (a7.B == 6) = true then
 ((Zfb x4).bind fun r8 =>
 some (r8 == 1))
 else
 (some false))
 else
 (some false))
 else
 (some false))
 else
 (some false))
 else
 (some false))
 else
 (some false))
 else
 (some false)
theorem ZfB (x1 x4 : List Zo) ox1 ox4 : Sim ZP (Z72 x1 x4) (ZyT 0 (ZO ox1 (x1.map ZC)) (ZO ox4 (x4.map ZC)) []) := by
 unfold Z72
 refine zf (ZDx ..)<|ze<|zi fun a1 ha1 => zp (.cptr (Z1m a1 .sh)) (et_ (Z2D (o := (shrO ox1)) (k := .i64) (n := 6) (e := ZC) (cs := Z4B) (fun _ => rfl) (fun _ => rfl) (by decide) ha1))<|zq<|zq<|zq ?_
 refine za (a1.Op == 3) ?_ ?_
 ·refine zi fun a2 ha2 => zp (.cptr (Z1m a2 .sh)) (et_ (Z2D (o := (shrO ox1)) (k := .i64) (n := 6) (e := ZC) (cs := Z4B) (fun _ => rfl) (fun _ => rfl) (by decide) ha2))<|zq<|zq<|zq ?_
  refine za (a2.A == 2) ?_ ?_
  ·refine zi fun a3 ha3 => zp (.cptr (Z1m a3 .sh)) (et_ (Z2D (o := (shrO ox1)) (k := .i64) (n := 6) (e := ZC) (cs := Z4B) (fun _ => rfl) (fun _ => rfl) (by decide) ha3))<|zq<|zq<|zq ?_
   refine za (a3.B == 4) ?_ ?_
   ·refine zi fun a4 ha4 => zp (.cptr (Z1m a4 .sh)) (et_ (Z2D (o := (shrO ox1)) (k := .i64) (n := 6) (e := ZC) (cs := Z4B) (fun _ => rfl) (fun _ => rfl) (by decide) ha4))<|zq<|zq<|zq ?_
    refine za (a4.Op == 2) ?_ ?_
    ·refine zi fun a5 ha5 => zp (.cptr (Z1m a5 .sh)) (et_ (Z2D (o := (shrO ox1)) (k := .i64) (n := 6) (e := ZC) (cs := Z4B) (fun _ => rfl) (fun _ => rfl) (by decide) ha5))<|zq<|zq<|zq ?_
     refine za (a5.A == 5) ?_ ?_
     ·refine zi fun a6 ha6 => zp (.cptr (Z1m a6 .sh)) (et_ (Z2D (o := (shrO ox4)) (k := .i64) (n := 6) (e := ZC) (cs := Z4B) (fun _ => rfl) (fun _ => rfl) (by decide) ha6))<|zq<|zq<|zq ?_
      refine za (a6.Op == 11) ?_ ?_
      ·refine zi fun a7 ha7 => zp (.cptr (Z1m a7 .sh)) (et_ (Z2D (o := (shrO ox4)) (k := .i64) (n := 6) (e := ZC) (cs := Z4B) (fun _ => rfl) (fun _ => rfl) (by decide) ha7))<|zq<|zq<|zq ?_
       refine za (a7.B == 6) ?_ ?_
       ·refine zi fun r8 hr8 => ?_
        obtain ⟨_, er8, _, rfl⟩ := ZqT x4 .sh r8 hr8
        refine zc [] (iv r8) [] er8<|zq ?_
        exact zr ((bv (r8 == 1)), []) ⟨_, rfl⟩
       ·exact zr ((bv false), []) ⟨_, rfl⟩
      ·exact zr ((bv false), []) ⟨_, rfl⟩
     ·exact zr ((bv false), []) ⟨_, rfl⟩
    ·exact zr ((bv false), []) ⟨_, rfl⟩
   ·exact zr ((bv false), []) ⟨_, rfl⟩
  ·exact zr ((bv false), []) ⟨_, rfl⟩
 ·exact zr ((bv false), []) ⟨_, rfl⟩
def Z89 : Option Bool :=
 (Z2l (ByteArray.mk #[97, 124, 98])).bind fun r1 =>
 (Z2l (ByteArray.mk #[97, 42])).bind fun r2 =>
 if (r1.2.1 != 0) = true then
 Z34
 else
 (if (r1.2.2 != 0) = true then
 Z34
 else
 (if (r2.2.1 != 0) = true then
 Z34
 else
 (if (r2.2.2 != 0) = true then
 Z34
 else
 (if ((r1.1.length : Int) != 7) = true then
 Z34
 else
 (if ((r2.1.length : Int) != 8) = true then
 Z34
 else
 (Z72 r1.1 r2.1))))))
theorem Zhz : Sim ZP Z89 (EE 8 [] []) := by
 unfold Z89
 refine zf (ZII ..)<|ze<|ze<|zi fun r1 hr1 => ?_
 obtain ⟨_, er1, _, rfl⟩ := Z7O (ByteArray.mk #[97, 124, 98]) r1 hr1
 refine zc [] (.p (.tup [(.lst .sh (r1.1.map ZC)), (.v (.int .i64 r1.2.1)), (.v (.int .i64 r1.2.2))])) [] er1<|zq<|zq<|zq<|ze<|zi fun r2 hr2 => ?_
 obtain ⟨_, er2, _, rfl⟩ := Z7O (ByteArray.mk #[97, 42]) r2 hr2
 refine zc [] (.p (.tup [(.lst .sh (r2.1.map ZC)), (.v (.int .i64 r2.2.1)), (.v (.int .i64 r2.2.2))])) [] er2<|zq<|zq<|zq<|ze<|zq ?_
 refine za (r1.2.1 != 0) ?_ ?_
 ·exact zk Z3I
 ·refine zq ?_
  refine za (r1.2.2 != 0) ?_ ?_
  ·exact zk Z3I
  ·refine zq ?_
   refine za (r2.2.1 != 0) ?_ ?_
   ·exact zk Z3I
   ·refine zq ?_
    refine za (r2.2.2 != 0) ?_ ?_
    ·exact zk Z3I
    ·refine zp (iv (r1.1.length : Int)) (et_ (Z3d (P := PP) (t := 23) (d := 40) (by kernel_rfl) ZC .sh r1.1))<|zq ?_
     refine za ((r1.1.length : Int) != 7) ?_ ?_
     ·exact zk Z3I
     ·refine zp (iv (r2.1.length : Int)) (et_ (Z3d (P := PP) (t := 23) (d := 40) (by kernel_rfl) ZC .sh r2.1))<|zq ?_
      refine za ((r2.1.length : Int) != 8) ?_ ?_
      ·exact zk Z3I
      ·exact zk (ZfB r1.1 r2.1 .sh .sh)
theorem Zi4 {r} (h : Z89 = some r) : Z8g = some r :=
 Z1h (fun _ _ ha hb => ru_ Z2p ha hb) (Zhz r h)
def Z7M (b0 : Z1b) : Option ((List Zo) × Int × Int) :=
 (Z9l b0).bind fun r1 =>
 some (r1.1, 0, r1.2)
theorem ZgW b0 z13 zS : Sim Z7b (Z7M b0) (ZyW 0 (.ptr 0 0) [(ZR b0 z13 zS)]) := by
 unfold Z7M
 refine zf (ZDy ..)<|ze<|zq<|zi fun r1 hr1 => ?_
 obtain ⟨_, er1, _, rfl⟩ := Zon b0 .sh .sh r1 hr1
 refine zc [] (.p (.tup [(.lst .sh (r1.1.map ZC)), (.v (.int .i64 r1.2))])) [(ZR b0 z13 zS)] er1<|zq<|zq<|ze ?_
 exact zr ((.p (.tup [(.lst .sh (r1.1.map ZC)), (.v (.int .i64 0)), (.v (.int .i64 r1.2))])), [(ZR b0 z13 zS)]) ⟨_, rfl⟩
def Z7c (x0 : ByteArray) : Option ((List Zo) × Int × Int) :=
 (Zed x0).bind fun r1 =>
 if (r1.2.Code != 0) = true then
 (some (([] : List Zo), r1.2.Code, 0))
 else
 (Z7M r1.1)
theorem ZiX x0 : Sim Z7b (Z7c x0) (EE 9 [(.p (.v (.string x0)))] []) := by
 unfold Z7c
 refine zf (ZIK ..)<|ze<|ze<|zi fun r1 hr1 => ?_
 obtain ⟨_, er1, _, rfl⟩ := ZoZ x0 r1 hr1
 refine zc [] (.p (.tup [(.agg (Z2O r1.1 .sh .sh)), (.agg (Z5e r1.2))])) [] er1<|zq<|zq<|zz (.ptr 0 0) [(ZR ZdK .nl .nl)]<|zz (.ptr 1 0) [(ZR ZdK .nl .nl), (Z1z Zfz)]<|zt [(ZR r1.1 .sh .sh), (Z1z Zfz)]<|zt [(ZR r1.1 .sh .sh), (Z1z r1.2)]<|ze<|zq<|zq<|zq ?_
 refine za (r1.2.Code != 0) ?_ ?_
 ·refine ze<|zq<|zq ?_
  exact zr ((.p (.tup [(.lst .sh []), (.v (.int .i64 r1.2.Code)), (.v (.int .i64 0))])), [(ZR r1.1 .sh .sh), (Z1z r1.2)]) ⟨_, rfl⟩
 ·exact zk (ZgW r1.1 .sh .sh)
theorem Zdq x0 {r} (h : Z7c x0 = some r) : Z2l x0 = some r :=
 Z1h (fun _ _ ha hb => ru_ ZjU ha hb) (ZiX x0 r h)
def Z4U (z36 : List Int) (z1a : Int) (z1X : List Zz) (zT z1d z10 z1f z1e z11 z16 : Int) (z17 : List Z8) (zZ : List Z9) (z1B : Bool) : Option (Z1b × Z12) :=
 Z81 z1X (z1X.length : Int) 0 z36 z1a zT z1d z10 z1f z1e z11 z16 z17 zZ z1B
theorem Zbv b0 b1 z36 z2Y z1a z2C z1X zT z1d z10 z1f z1e z11 z16 z17 zZ z2q z1B z13 zS z3E z1K z1t z1o (z2t : ZL z13 = true) (z2f : ZL zS = true) (z3O : ZL z1K = true) : Sim Z48 (Z4U z36 z1a z1X zT z1d z10 z1f z1e z11 z16 z17 zZ z1B) (Zmy 0 (.ptr 0 0) (.ptr 1 0) (.ptr 2 0) (.ptr 3 0) [(ZR b0 z13 zS), (Z1z b1), (ZK z36 z2Y z1a z2C z1X zT z1d z3E z1K), (Z9z z10 z1f z1e z11 z16 z17 zZ z2q z1B z1t z1o)]) := by
 unfold Z4U
 refine zf (ZA0 ..)<|ze<|zq<|zq<|zq<|zp (iv (z1X.length : Int)) (et_ (Z3d (P := PP) (t := 55) (d := 61) (by kernel_rfl) Z2W (shrO z1K) z1X)) ?_
 exact zk (ZfP z1X (z1X.length : Int) 0 b0 b1 z36 z2Y z1a z2C z1X zT z1d z10 z1f z1e z11 z16 z17 zZ z2q z1B (shrO z1K) z13 zS z3E z1K z1t z1o z2t z2f z3O)
def Z9o (z36 : List Int) (z2Y z1a : Int) (z1X : List Zz) (zT z1d z10 z1f z1e z11 z16 : Int) (z17 : List Z8) (zZ : List Z9) (z1B : Bool) : Option (Z1b × Z12) :=
 (Z1c 20 z2Y z36 zT z1d).bind fun r1 =>
 Z4U z36 z1a z1X r1.2.1 r1.2.2 z10 z1f z1e z11 z16 z17 zZ z1B
theorem Zlv b0 b1 z36 z2Y z1a z2C z1X zT z1d z10 z1f z1e z11 z16 z17 zZ z2q z1B z13 zS z3E z1K z1t z1o (z2t : ZL z13 = true) (z2f : ZL zS = true) (z3O : ZL z1K = true) : Sim Z48 (Z9o z36 z2Y z1a z1X zT z1d z10 z1f z1e z11 z16 z17 zZ z1B) (Ztp 0 (.ptr 0 0) (.ptr 1 0) (.ptr 2 0) (.ptr 3 0) [(ZR b0 z13 zS), (Z1z b1), (ZK z36 z2Y z1a z2C z1X zT z1d z3E z1K), (Z9z z10 z1f z1e z11 z16 z17 zZ z2q z1B z1t z1o)]) := by
 unfold Z9o
 refine zf (ZzZ ..)<|ze<|zq<|zq<|zq<|zi fun r1 hr1 => ?_
 obtain ⟨_, er1, _, rfl⟩ := Z1g 20 z2Y z36 z2Y z1a z2C z1X zT z1d z3E z1K z3O r1 hr1
 refine zc [2] (.p (.tup [])) [(ZR b0 z13 zS), (Z1z b1), (ZK z36 r1.1 z1a z2C z1X r1.2.1 r1.2.2 z3E z1K), (Z9z z10 z1f z1e z11 z16 z17 zZ z2q z1B z1t z1o)] er1 ?_
 exact zk (Zbv b0 b1 z36 r1.1 z1a z2C z1X r1.2.1 r1.2.2 z10 z1f z1e z11 z16 z17 zZ z2q z1B z13 zS z3E z1K z1t z1o z2t z2f z3O)
def Zbn (x0 : ByteArray) : Option (Z1b × Z12) :=
 (Z1H (ByteArray.mk #[40, 63, 105, 41]) (Z4c x0) 0).bind fun r1 =>
 (Z4e (Z4c x0) r1.2 0 0 ([] : List Zz) 0 0).bind fun r2 =>
 if (r2.2.2.2.2.2.1 == 0) = true then
 (if (decide (r2.2.1 < ((Z4c x0).length : Int))) = true then
 (Z9o (Z4c x0) r2.2.1 r2.2.2.1 r2.2.2.2.2.1 r2.2.2.2.2.2.1 r2.2.2.2.2.2.2 r2.1.Kind r2.1.Lo r2.1.Hi r2.1.Mode r2.1.Ref r2.1.Set r2.1.Kids r1.1)
 else
 (Z4U (Z4c x0) r2.2.2.1 r2.2.2.2.2.1 r2.2.2.2.2.2.1 r2.2.2.2.2.2.2 r2.1.Kind r2.1.Lo r2.1.Hi r2.1.Mode r2.1.Ref r2.1.Set r2.1.Kids r1.1))
 else
 (Z4U (Z4c x0) r2.2.2.1 r2.2.2.2.2.1 r2.2.2.2.2.2.1 r2.2.2.2.2.2.2 r2.1.Kind r2.1.Lo r2.1.Hi r2.1.Mode r2.1.Ref r2.1.Set r2.1.Kids r1.1)
theorem Zlu x0 b0 b1 z13 zS (z2t : ZL z13 = true) (z2f : ZL zS = true) : Sim Z48 (Zbn x0) (Zto 0 (.p (.v (.string x0))) (.ptr 0 0) (.ptr 1 0) [(ZR b0 z13 zS), (Z1z b1)]) := by
 unfold Zbn
 refine zf (ZzY ..)<|ze<|zp (ZO .sh ((Z4c x0).map (eI .u8))) (et_ (ZEr (P := PP) (s := 9) (d := 54) (by kernel_rfl) (by kernel_rfl) x0))<|zq<|zx (.ptr 2 0) [(ZR b0 z13 zS), (Z1z b1), (Z3T (Z1y.mk (Z4c x0) 0 0 0 ([] : List Zz) Zfz) .sh .nl)]<|ze<|zi fun r1 hr1 => ?_
 obtain ⟨_, er1, _, rfl⟩ := Z1P (ByteArray.mk #[40, 63, 105, 41]) (Z4c x0) 0 0 0 ([] : List Zz) 0 0 .sh .nl rfl r1 hr1
 refine zc [2] (bv r1.1) [(ZR b0 z13 zS), (Z1z b1), (Z3T (Z1y.mk (Z4c x0) r1.2 0 0 ([] : List Zz) Zfz) .sh .nl)] er1<|zq<|zz (.ptr 3 0) [(ZR b0 z13 zS), (Z1z b1), (Z3T (Z1y.mk (Z4c x0) r1.2 0 0 ([] : List Zz) Zfz) .sh .nl), (ZR ZdK .nl .nl)]<|zt [(ZR b0 z13 zS), (Z1z b1), (Z3T (Z1y.mk (Z4c x0) r1.2 0 0 ([] : List Zz) Zfz) .sh .nl), (ZR (Z1b.mk Z1A 0 r1.1) .nl .nl)]<|ze<|zi fun r2 hr2 => ?_
 obtain ⟨_, er2, zl7, _, zpb, rfl⟩ := ZeK (Z4c x0) r1.2 0 0 ([] : List Zz) 0 0 .sh .nl rfl r2 hr2
 refine zc [2] (pA_ (ZH r2.1 .sh .sh)) [(ZR b0 z13 zS), (Z1z b1), (ZK (Z4c x0) r2.2.1 r2.2.2.1 r2.2.2.2.1 r2.2.2.2.2.1 r2.2.2.2.2.2.1 r2.2.2.2.2.2.2 .sh zl7), (ZR (Z1b.mk Z1A 0 r1.1) .nl .nl)] er2<|zq<|zt [(ZR b0 z13 zS), (Z1z b1), (ZK (Z4c x0) r2.2.1 r2.2.2.1 r2.2.2.2.1 r2.2.2.2.2.1 r2.2.2.2.2.2.1 r2.2.2.2.2.2.2 .sh zl7), (Z9z r2.1.Kind r2.1.Lo r2.1.Hi r2.1.Mode r2.1.Ref r2.1.Set r2.1.Kids 0 r1.1 .sh .sh)]<|ze<|zq<|zq<|zq<|zq<|zq ?_
 refine za (r2.2.2.2.2.2.1 == 0) ?_ ?_
 ·refine zq<|zq<|zq<|zq<|zq<|zq<|zp (iv ((Z4c x0).length : Int)) (et_ (Z3d (P := PP) (t := 54) (d := 5) (by kernel_rfl) (eI .u8) .sh (Z4c x0)))<|zq ?_
  refine za (decide (r2.2.1 < ((Z4c x0).length : Int))) ?_ ?_
  ·exact zk (Zlv b0 b1 (Z4c x0) r2.2.1 r2.2.2.1 r2.2.2.2.1 r2.2.2.2.2.1 r2.2.2.2.2.2.1 r2.2.2.2.2.2.2 r2.1.Kind r2.1.Lo r2.1.Hi r2.1.Mode r2.1.Ref r2.1.Set r2.1.Kids 0 r1.1 z13 zS .sh zl7 .sh .sh z2t z2f zpb)
  ·exact zk (Zbv b0 b1 (Z4c x0) r2.2.1 r2.2.2.1 r2.2.2.2.1 r2.2.2.2.2.1 r2.2.2.2.2.2.1 r2.2.2.2.2.2.2 r2.1.Kind r2.1.Lo r2.1.Hi r2.1.Mode r2.1.Ref r2.1.Set r2.1.Kids 0 r1.1 z13 zS .sh zl7 .sh .sh z2t z2f zpb)
 ·exact zk (Zbv b0 b1 (Z4c x0) r2.2.1 r2.2.2.1 r2.2.2.2.1 r2.2.2.2.2.1 r2.2.2.2.2.2.1 r2.2.2.2.2.2.2 r2.1.Kind r2.1.Lo r2.1.Hi r2.1.Mode r2.1.Ref r2.1.Set r2.1.Kids 0 r1.1 z13 zS .sh zl7 .sh .sh z2t z2f zpb)
def Ze9 (x0 : ByteArray) : Option (Z1b × Z12) :=
 if (decide (256 < (x0.size : Int))) = true then
 (some ((Z1b.mk (Z9.mk 0 0 0 0 0 ([] : List Z8) ([] : List Z9)) 0 false), (Z12.mk 12 0)))
 else
 (Zbn x0)
theorem Zok x0 : Sim Z48 (Ze9 x0) (EE 10 [(.p (.v (.string x0)))] []) := by
 unfold Ze9
 refine zf (ZFU ..)<|ze<|zz (.ptr 0 0) [(ZR ZdK .nl .nl)]<|zz (.ptr 1 0) [(ZR ZdK .nl .nl), (Z1z Zfz)]<|ze<|zq<|zq ?_
 refine za (decide (256 < (x0.size : Int))) ?_ ?_
 ·refine ze<|zq<|zq<|zt [(ZR ZdK .nl .nl), (Z1z Zfz)]<|zt [(ZR ZdK .nl .nl), (Z1z (Z12.mk 12 0))] ?_
  exact zr ((.p (.tup [(.agg (Z2O ZdK .sh .sh)), (.agg (Z5e (Z12.mk 12 0)))])), [(ZR ZdK .nl .nl), (Z1z (Z12.mk 12 0))]) ⟨_, rfl⟩
 ·exact zk (Zlu x0 ZdK Zfz .nl .nl rfl rfl)
theorem ZoY x0 {r} (h : Ze9 x0 = some r) : Zed x0 = some r :=
 Z1h (fun _ _ ha hb => ru_ ZjF ha hb) (Zok x0 r h)
def Z5h (x50 : List Zz) (x51 x52 : Int) (z36 : List Int) (z1a zT z1d z10 z1f z1e z11 z16 : Int) (z17 : List Z8) (zZ : List Z9) (z1B : Bool) : Option (Z1b × Z12) :=
 Z81 x50 x51 (IntKind.i64.wrap (x52 + 1)) z36 z1a zT z1d z10 z1f z1e z11 z16 z17 zZ z1B
theorem ZeI (x50 : List Zz) x51 x52 b0 b1 z36 z2Y z1a z2C z1X zT z1d z10 z1f z1e z11 z16 z17 zZ z2q z1B ox50 z13 zS z3E z1K z1t z1o (z2t : ZL z13 = true) (z2f : ZL zS = true) (z3O : ZL z1K = true) : Sim Z48 (Z5h x50 x51 x52 z36 z1a zT z1d z10 z1f z1e z11 z16 z17 zZ z1B) (ZnV 0 (.ptr 0 0) (.ptr 1 0) (.ptr 2 0) (.ptr 3 0) (ZO ox50 (x50.map Z2W)) (iv x51) (iv x52) [(ZR b0 z13 zS), (Z1z b1), (ZK z36 z2Y z1a z2C z1X zT z1d z3E z1K), (Z9z z10 z1f z1e z11 z16 z17 zZ z2q z1B z1t z1o)]) := by
 unfold Z5h
 refine zf (ZxX ..)<|ze<|zq ?_
 exact zk (ZfP x50 x51 (IntKind.i64.wrap (x52 + 1)) b0 b1 z36 z2Y z1a z2C z1X zT z1d z10 z1f z1e z11 z16 z17 zZ z2q z1B ox50 z13 zS z3E z1K z1t z1o z2t z2f z3O)
def Z8U (x50 : List Zz) (x51 x52 : Int) (z36 : List Int) (z1a zT z1d z10 z1f z1e z11 z16 : Int) (z17 : List Z8) (zZ : List Z9) (z1B : Bool) : Option (Z1b × Z12) :=
 (lget x50 x52).bind fun a1 =>
 if (decide (z1a < a1.group)) = true then
 ((Z1c 26 a1.at_ z36 zT z1d).bind fun r2 =>
 Z5h x50 x51 x52 z36 z1a r2.2.1 r2.2.2 z10 z1f z1e z11 z16 z17 zZ z1B)
 else
 (Z5h x50 x51 x52 z36 z1a zT z1d z10 z1f z1e z11 z16 z17 zZ z1B)
theorem ZkL (x50 : List Zz) x51 x52 b0 b1 z36 z2Y z1a z2C z1X zT z1d z10 z1f z1e z11 z16 z17 zZ z2q z1B ox50 z13 zS z3E z1K z1t z1o (z2t : ZL z13 = true) (z2f : ZL zS = true) (z3O : ZL z1K = true) : Sim Z48 (Z8U x50 x51 x52 z36 z1a zT z1d z10 z1f z1e z11 z16 z17 zZ z1B) (ZrF 0 (.ptr 0 0) (.ptr 1 0) (.ptr 2 0) (.ptr 3 0) (ZO ox50 (x50.map Z2W)) (iv x51) (iv x52) [(ZR b0 z13 zS), (Z1z b1), (ZK z36 z2Y z1a z2C z1X zT z1d z3E z1K), (Z9z z10 z1f z1e z11 z16 z17 zZ z2q z1B z1t z1o)]) := by
 unfold Z8U
 refine zf (ZxW ..)<|ze<|zi fun a1 ha1 => zp (.cptr (Zev a1)) (et_ (Z2D (o := ox50) (k := .i64) (n := 2) (e := Z2W) (cs := Zbs) (fun _ => rfl) (fun _ => rfl) (by decide) ha1))<|zq<|zz (.ptr 4 0) [(ZR b0 z13 zS), (Z1z b1), (ZK z36 z2Y z1a z2C z1X zT z1d z3E z1K), (Z9z z10 z1f z1e z11 z16 z17 zZ z2q z1B z1t z1o), (ZeA (Zz.mk 0 0))]<|zt [(ZR b0 z13 zS), (Z1z b1), (ZK z36 z2Y z1a z2C z1X zT z1d z3E z1K), (Z9z z10 z1f z1e z11 z16 z17 zZ z2q z1B z1t z1o), (ZeA a1)]<|ze<|zq<|zq<|zq<|zq<|zq<|zq ?_
 refine za (decide (z1a < a1.group)) ?_ ?_
 ·refine ze<|zq<|zq<|zi fun r2 hr2 => ?_
  obtain ⟨_, er2, _, rfl⟩ := Z1g 26 a1.at_ z36 z2Y z1a z2C z1X zT z1d z3E z1K z3O r2 hr2
  refine zc [2] (.p (.tup [])) [(ZR b0 z13 zS), (Z1z b1), (ZK z36 r2.1 z1a z2C z1X r2.2.1 r2.2.2 z3E z1K), (Z9z z10 z1f z1e z11 z16 z17 zZ z2q z1B z1t z1o), (ZeA a1)] er2 ?_
  exact zk (ZeI x50 x51 x52 b0 b1 z36 r2.1 z1a z2C z1X r2.2.1 r2.2.2 z10 z1f z1e z11 z16 z17 zZ z2q z1B ox50 z13 zS z3E z1K z1t z1o z2t z2f z3O)
 ·exact zk (ZeI x50 x51 x52 b0 b1 z36 z2Y z1a z2C z1X zT z1d z10 z1f z1e z11 z16 z17 zZ z2q z1B ox50 z13 zS z3E z1K z1t z1o z2t z2f z3O)
def Zds (z1a z10 z1f z1e z11 z16 : Int) (z17 : List Z8) (zZ : List Z9) (z1B : Bool) : Option (Z1b × Z12) :=
 some ((Z1b.mk (Z9.mk z10 z1f z1e z11 z16 z17 zZ) z1a z1B), (Z12.mk 0 0))
theorem ZkN b0 b1 z36 z2Y z1a z2C z1X zT z1d z10 z1f z1e z11 z16 z17 zZ z2q z1B z13 zS z3E z1K z1t z1o (z2t : ZL z13 = true) (z2f : ZL zS = true) (z3O : ZL z1K = true) : Sim Z48 (Zds z1a z10 z1f z1e z11 z16 z17 zZ z1B) (ZrH 0 (.ptr 0 0) (.ptr 1 0) (.ptr 2 0) (.ptr 3 0) [(ZR b0 z13 zS), (Z1z b1), (ZK z36 z2Y z1a z2C z1X zT z1d z3E z1K), (Z9z z10 z1f z1e z11 z16 z17 zZ z2q z1B z1t z1o)]) := by
 unfold Zds
 refine zf (ZxZ ..)<|ze<|zq<|zq<|zq<|zq<|zt [(ZR b0 z13 zS), (Z1z b1), (ZK z36 z2Y z1a z2C z1X zT z1d z3E z1K), (Z9z z10 z1f z1e z11 z16 z17 zZ z1a z1B z1t z1o)]<|ze<|zq<|zq<|zt [(Z9z z10 z1f z1e z11 z16 z17 zZ z1a z1B (shrO z1t) (shrO z1o)), (Z1z b1), (ZK z36 z2Y z1a z2C z1X zT z1d z3E z1K), (Z9z z10 z1f z1e z11 z16 z17 zZ z1a z1B z1t z1o)]<|zt [(Z9z z10 z1f z1e z11 z16 z17 zZ z1a z1B (shrO z1t) (shrO z1o)), (Z1z Zfz), (ZK z36 z2Y z1a z2C z1X zT z1d z3E z1K), (Z9z z10 z1f z1e z11 z16 z17 zZ z1a z1B z1t z1o)] ?_
 exact zr ((.p (.tup [(.agg (Z2O (Z1b.mk (Z9.mk z10 z1f z1e z11 z16 z17 zZ) z1a z1B) .sh .sh)), (.agg (Z5e Zfz))])), [(Z9z z10 z1f z1e z11 z16 z17 zZ z1a z1B (shrO z1t) (shrO z1o)), (Z1z Zfz), (ZK z36 z2Y z1a z2C z1X zT z1d z3E z1K), (Z9z z10 z1f z1e z11 z16 z17 zZ z1a z1B z1t z1o)]) ⟨_, rfl⟩
def Z8V (z1a zT z1d z10 z1f z1e z11 z16 : Int) (z17 : List Z8) (zZ : List Z9) (z1B : Bool) : Option (Z1b × Z12) :=
 if (zT != 0) = true then
 (some ((Z1b.mk (Z9.mk 0 0 0 0 0 ([] : List Z8) ([] : List Z9)) 0 false), (Z12.mk zT z1d)))
 else
 (Zds z1a z10 z1f z1e z11 z16 z17 zZ z1B)
theorem ZkM b0 b1 z36 z2Y z1a z2C z1X zT z1d z10 z1f z1e z11 z16 z17 zZ z2q z1B z13 zS z3E z1K z1t z1o (z2t : ZL z13 = true) (z2f : ZL zS = true) (z3O : ZL z1K = true) : Sim Z48 (Z8V z1a zT z1d z10 z1f z1e z11 z16 z17 zZ z1B) (ZrG 0 (.ptr 0 0) (.ptr 1 0) (.ptr 2 0) (.ptr 3 0) [(ZR b0 z13 zS), (Z1z b1), (ZK z36 z2Y z1a z2C z1X zT z1d z3E z1K), (Z9z z10 z1f z1e z11 z16 z17 zZ z2q z1B z1t z1o)]) := by
 unfold Z8V
 refine zf (ZxY ..)<|ze<|zq<|zq<|zq<|zq<|zq ?_
 refine za (zT != 0) ?_ ?_
 ·refine ze<|zq<|zq<|zq<|zq<|zt [(ZR ZdK .nl .nl), (Z1z b1), (ZK z36 z2Y z1a z2C z1X zT z1d z3E z1K), (Z9z z10 z1f z1e z11 z16 z17 zZ z2q z1B z1t z1o)]<|zt [(ZR ZdK .nl .nl), (Z1z (Z12.mk zT z1d)), (ZK z36 z2Y z1a z2C z1X zT z1d z3E z1K), (Z9z z10 z1f z1e z11 z16 z17 zZ z2q z1B z1t z1o)]<|zg ?_
  exact zr ((.p (.tup [(.agg (Z2O ZdK .sh .sh)), (.agg (Z5e (Z12.mk zT z1d)))])), [(ZR ZdK .nl .nl), (Z1z (Z12.mk zT z1d)), (ZK z36 z2Y z1a z2C z1X zT z1d z3E z1K), (Z9z z10 z1f z1e z11 z16 z17 zZ z2q z1B z1t z1o)]) ⟨_, rfl⟩
 ·exact zk (ZkN b0 b1 z36 z2Y z1a z2C z1X zT z1d z10 z1f z1e z11 z16 z17 zZ z2q z1B z13 zS z3E z1K z1t z1o z2t z2f z3O)
def Z6D (x50 : List Zz) (x51 x52 : Int) (z36 : List Int) (z1a zT z1d z10 z1f z1e z11 z16 : Int) (z17 : List Z8) (zZ : List Z9) (z1B : Bool) : Option (Z1b × Z12) :=
 if (decide (x52 < x51)) = true then
 (Z8U x50 x51 x52 z36 z1a zT z1d z10 z1f z1e z11 z16 z17 zZ z1B)
 else
 (Z8V z1a zT z1d z10 z1f z1e z11 z16 z17 zZ z1B)
theorem Zlt (x50 : List Zz) x51 x52 b0 b1 z36 z2Y z1a z2C z1X zT z1d z10 z1f z1e z11 z16 z17 zZ z2q z1B ox50 z13 zS z3E z1K z1t z1o (z2t : ZL z13 = true) (z2f : ZL zS = true) (z3O : ZL z1K = true) : Sim Z48 (Z6D x50 x51 x52 z36 z1a zT z1d z10 z1f z1e z11 z16 z17 zZ z1B) (Zmx 0 (.ptr 0 0) (.ptr 1 0) (.ptr 2 0) (.ptr 3 0) (ZO ox50 (x50.map Z2W)) (iv x51) (iv x52) [(ZR b0 z13 zS), (Z1z b1), (ZK z36 z2Y z1a z2C z1X zT z1d z3E z1K), (Z9z z10 z1f z1e z11 z16 z17 zZ z2q z1B z1t z1o)]) := by
 unfold Z6D
 refine zf (ZzX ..)<|ze<|zq ?_
 refine za (decide (x52 < x51)) ?_ ?_
 ·exact zk (ZkL x50 x51 x52 b0 b1 z36 z2Y z1a z2C z1X zT z1d z10 z1f z1e z11 z16 z17 zZ z2q z1B ox50 z13 zS z3E z1K z1t z1o z2t z2f z3O)
 ·exact zk (ZkM b0 b1 z36 z2Y z1a z2C z1X zT z1d z10 z1f z1e z11 z16 z17 zZ z2q z1B z13 zS z3E z1K z1t z1o z2t z2f z3O)
theorem Z9O x50 x51 x52 z36 z1a zT z1d z10 z1f z1e z11 z16 z17 zZ z1B {r} (h : Z6D x50 x51 x52 z36 z1a zT z1d z10 z1f z1e z11 z16 z17 zZ z1B = some r) : Z81 x50 x51 x52 z36 z1a zT z1d z10 z1f z1e z11 z16 z17 zZ z1B = some r :=
 Z1h (fun _ _ ha hb => ru_ ZjF (ha default default default default default default .ex .ex .ex .ex .ex .ex .ex rfl rfl rfl) (hb default default default default default default .ex .ex .ex .ex .ex .ex .ex rfl rfl rfl)) (fun b0 b1 z2Y z2C z1X z2q ox50 z13 zS z3E z1K z1t z1o z2t z2f z3O => Zlt x50 x51 x52 b0 b1 z36 z2Y z1a z2C z1X zT z1d z10 z1f z1e z11 z16 z17 zZ z2q z1B ox50 z13 zS z3E z1K z1t z1o z2t z2f z3O r h)
def Z8d (zm : Int) : Option (Bool × Int) :=
 some (false, zm)
theorem ZbN zl zm z7 zh zj z2 z6 zn zd (zu : ZL zd = true) : Sim (Z6u zl z7 zh zj z2 z6 zn zd) (Z8d zm) (ZpY 1 [(ZK zl zm z7 zh zj z2 z6 zn zd)]) := by
 unfold Z8d
 refine zf (ZAw ..)<|ze ?_
 exact zr ((bv false), [(ZK zl zm z7 zh zj z2 z6 zn zd)]) ⟨_, rfl⟩
def Z8e (x1 : ByteArray) (zm : Int) : Option (Bool × Int) :=
 some (true, (IntKind.i64.wrap (zm + (x1.size : Int))))
theorem ZhD x1 zl zm z7 zh zj z2 z6 zn zd (zu : ZL zd = true) : Sim (Z6u zl z7 zh zj z2 z6 zn zd) (Z8e x1 zm) (ZtW 1 (.ptr 0 0) (.p (.v (.string x1))) [(ZK zl zm z7 zh zj z2 z6 zn zd)]) := by
 unfold Z8e
 refine zf (ZAx ..)<|ze<|zq<|zq<|zq<|zq<|zq<|zq<|zq<|zt [(ZK zl (IntKind.i64.wrap (zm + (x1.size : Int))) z7 zh zj z2 z6 zn zd)]<|ze ?_
 exact zr ((bv true), [(ZK zl (IntKind.i64.wrap (zm + (x1.size : Int))) z7 zh zj z2 z6 zn zd)]) ⟨_, rfl⟩
def Z9N (x1 : ByteArray) (zl : List Int) (zm : Int) : Option (Bool × Int) :=
 if ((decide ((IntKind.i64.wrap ((zl.length : Int) - zm)) < (x1.size : Int)))) = true then
 (Z8d zm)
 else
 ((lsl zl zm (IntKind.i64.wrap (zm + (x1.size : Int)))).bind fun a1 =>
 if (!(seq (strI a1) x1)) = true then
 (Z8d zm)
 else
 (Z8e x1 zm))
theorem ZjD x1 zl zm z7 zh zj z2 z6 zn zd (zu : ZL zd = true) : Sim (Z6u zl z7 zh zj z2 z6 zn zd) (Z9N x1 zl zm) (EE 19 [(.ptr 0 0), (.p (.v (.string x1)))] [(ZK zl zm z7 zh zj z2 z6 zn zd)]) := by
 unfold Z9N
 refine zf (ZGi ..)<|ze<|ze<|zq<|zq<|zq<|zp (iv (zl.length : Int)) (et_ (Z3d (P := PP) (t := 54) (d := 5) (by kernel_rfl) (eI .u8) (shrO zn) zl))<|zq<|zq<|zq<|zq<|zq<|zq ?_
 refine za ((decide ((IntKind.i64.wrap ((zl.length : Int) - zm)) < (x1.size : Int)))) ?_ ?_
 ·exact zk (ZbN zl zm z7 zh zj z2 z6 zn zd zu)
 ·refine zq<|zq<|zq<|zq<|zq<|zq<|zq<|zq<|zq<|zq<|zq<|zi fun a1 ha1 => zp (ZO (slO (shrO zn)) (a1.map (eI .u8))) (Eq.trans (by kernel_rfl) <| Zwu (n := 1) (o := (shrO zn)) (lo := (some (iv zm))) (hi := (some (iv (IntKind.i64.wrap (zm + (x1.size : Int)))))) (e := (eI .u8)) (fun _ => rfl) (by decide) (by kernel_rfl) (by kernel_rfl) ha1)<|zp (.p (.v (.string (strI a1)))) (et_ (ZEs (P := PP) (s := 54) (d := 9) (by kernel_rfl) (slO (shrO zn)) a1))<|zq ?_
  refine za (!(seq (strI a1) x1)) ?_ ?_
  ·exact zk (ZbN zl zm z7 zh zj z2 z6 zn zd zu)
  ·exact zk (ZhD x1 zl zm z7 zh zj z2 z6 zn zd zu)
theorem Zk9 x1 zl zm {r} (h : Z9N x1 zl zm = some r) : Z1H x1 zl zm = some r :=
 Z1h (fun _ _ ha hb => ru_ (Zkl _ _ _ _ _ _ _ _) (ha default default default default default .ex .ex rfl) (hb default default default default default .ex .ex rfl)) (fun z7 zh zj z2 z6 zn zd zu => ZjD x1 zl zm z7 zh zj z2 z6 zn zd zu r h)
def Z6P (zl : List Int) (zm z7 zh : Int) (zj : List Zz) (z2 z6 : Int) : Option (Z9 × Int × Int × Int × (List Zz) × Int × Int) :=
 (Z6W zl zm z7 zh zj z2 z6).bind fun r1 =>
 Z5B ([r1.1] : List Z9) zl r1.2.1 r1.2.2.1 r1.2.2.2.1 r1.2.2.2.2.1 r1.2.2.2.2.2.1 r1.2.2.2.2.2.2
theorem Zk3 zl zm z7 zh zj z2 z6 zn zd (zu : ZL zd = true) : Sim (Z2y zl zn) (Z6P zl zm z7 zh zj z2 z6) (EE 20 [(.ptr 0 0)] [(ZK zl zm z7 zh zj z2 z6 zn zd)]) := by
 unfold Z6P
 refine zf (ZGk ..)<|ze<|zz (.ptr 1 0) [(ZK zl zm z7 zh zj z2 z6 zn zd), (Zk Z1A .nl .nl)]<|ze<|zi fun r1 hr1 => ?_
 obtain ⟨_, er1, z5g, _, z9y, rfl⟩ := ZeM zl zm z7 zh zj z2 z6 zn zd zu r1 hr1
 refine zc [0] (pA_ (ZH r1.1 .sh .sh)) [(ZK zl r1.2.1 r1.2.2.1 r1.2.2.2.1 r1.2.2.2.2.1 r1.2.2.2.2.2.1 r1.2.2.2.2.2.2 zn z5g), (Zk Z1A .nl .nl)] er1<|zp (ZO .ex (([r1.1] : List Z9).map ZI)) (Eq.trans (b := some (ZO .ex [.agg (Z1W r1.1)])) (by kernel_rfl) (by simp only [Z8S, ZdH, Z4W])) ?_
 exact zk (Zcs ([r1.1] : List Z9) zl r1.2.1 r1.2.2.1 r1.2.2.2.1 r1.2.2.2.2.1 r1.2.2.2.2.2.1 r1.2.2.2.2.2.2 Z1A .ex zn z5g .nl .nl rfl z9y rfl rfl)
theorem ZeJ zl zm z7 zh zj z2 z6 {r} (h : Z6P zl zm z7 zh zj z2 z6 = some r) : Z4e zl zm z7 zh zj z2 z6 = some r :=
 Z1h (fun _ _ ha hb => ru_ (Z95 _ _) (ha .ex .ex rfl) (hb .ex .ex rfl)) (fun zn zd zu => Zk3 zl zm z7 zh zj z2 z6 zn zd zu r h)
def Z8F (x3 : List Z9) (zl : List Int) (zm z7 zh : Int) (zj : List Zz) (z2 z6 : Int) : Option (Z9 × Int × Int × Int × (List Zz) × Int × Int) :=
 (Z6W zl zm z7 zh zj z2 z6).bind fun r1 =>
 (lapp x3 ([r1.1] : List Z9)).bind fun a2 =>
 Z5B a2 zl r1.2.1 r1.2.2.1 r1.2.2.2.1 r1.2.2.2.2.1 r1.2.2.2.2.2.1 r1.2.2.2.2.2.2
theorem Zi9 (x3 : List Z9) zl zm z7 zh zj z2 z6 b1 ox3 zn zd zG zD (hox3 : ZL ox3 = true) (zu : ZL zd = true) (z15 : ZL zG = true) (zV : ZL zD = true) : Sim (Z2y zl zn) (Z8F x3 zl zm z7 zh zj z2 z6) (Zu0 1 (.ptr 0 0) (.ptr 1 0) (ZO ox3 (x3.map ZI)) [(ZK zl zm z7 zh zj z2 z6 zn zd), (Zk b1 zG zD)]) := by
 unfold Z8F
 refine zf (ZAz ..)<|ze<|zi fun r1 hr1 => ?_
 obtain ⟨_, er1, z5g, _, z9y, rfl⟩ := ZeM zl zm z7 zh zj z2 z6 zn zd zu r1 hr1
 refine zc [0] (pA_ (ZH r1.1 .sh .sh)) [(ZK zl r1.2.1 r1.2.2.1 r1.2.2.2.1 r1.2.2.2.2.1 r1.2.2.2.2.2.1 r1.2.2.2.2.2.2 zn z5g), (Zk b1 zG zD)] er1<|zp (ZO .ex (([r1.1] : List Z9).map ZI)) (Eq.trans (b := some (ZO .ex [.agg (Z1W r1.1)])) (by kernel_rfl) (by simp only [Z8S, ZdH, Z4W]))<|zi fun a2 ha2 => zp (ZO .un (a2.map ZI)) (Eq.trans (by kernel_rfl) <| ZeU (n := 7) (o := ox3) (o' := .ex) (e := ZI) (ys := ([r1.1] : List Z9)) Zgn (by decide) hox3 ha2) ?_
 exact zk (Zcs a2 zl r1.2.1 r1.2.2.1 r1.2.2.2.1 r1.2.2.2.2.1 r1.2.2.2.2.2.1 r1.2.2.2.2.2.2 b1 .un zn z5g zG zD rfl z9y z15 zV)
def Z6Q (x3 : List Z9) (zm z7 zh : Int) (zj : List Zz) (z2 z6 : Int) : Option (Z9 × Int × Int × Int × (List Zz) × Int × Int) :=
 (Zb2 3 x3).bind fun r1 =>
 some (r1, zm, z7, zh, zj, z2, z6)
theorem Zia (x3 : List Z9) zl zm z7 zh zj z2 z6 b1 ox3 zn zd zG zD (hox3 : ZL ox3 = true) (zu : ZL zd = true) (z15 : ZL zG = true) (zV : ZL zD = true) : Sim (Z2y zl zn) (Z6Q x3 zm z7 zh zj z2 z6) (Zu1 1 (.ptr 1 0) (ZO ox3 (x3.map ZI)) [(ZK zl zm z7 zh zj z2 z6 zn zd), (Zk b1 zG zD)]) := by
 unfold Z6Q
 refine zf (ZAA ..)<|ze<|zi fun r1 hr1 => ?_
 obtain ⟨_, er1, _, rfl⟩ := ZhS 3 x3 .sh r1 hr1
 refine zc [] (pA_ (ZH r1 .sh .sh)) [(ZK zl zm z7 zh zj z2 z6 zn zd), (Zk b1 zG zD)] er1<|zt [(ZK zl zm z7 zh zj z2 z6 zn zd), (Zk r1 .sh .sh)] ?_
 exact zr ((pA_ (ZH r1 .sh .sh)), [(ZK zl zm z7 zh zj z2 z6 zn zd), (Zk r1 .sh .sh)]) ⟨zd, _, zu, rfl⟩
def Z5x (x3 : List Z9) (zl : List Int) (zm z7 zh : Int) (zj : List Zz) (z2 z6 : Int) : Option (Z9 × Int × Int × Int × (List Zz) × Int × Int) :=
 (Z1H (ByteArray.mk #[124]) zl zm).bind fun r1 =>
 if r1.1 = true then
 (Z8F x3 zl r1.2 z7 zh zj z2 z6)
 else
 (Z6Q x3 r1.2 z7 zh zj z2 z6)
theorem Zi8 (x3 : List Z9) zl zm z7 zh zj z2 z6 b1 ox3 zn zd zG zD (hox3 : ZL ox3 = true) (zu : ZL zd = true) (z15 : ZL zG = true) (zV : ZL zD = true) : Sim (Z2y zl zn) (Z5x x3 zl zm z7 zh zj z2 z6) (ZmF 1 (.ptr 0 0) (.ptr 1 0) (ZO ox3 (x3.map ZI)) [(ZK zl zm z7 zh zj z2 z6 zn zd), (Zk b1 zG zD)]) := by
 unfold Z5x
 refine zf (ZAy ..)<|ze<|zi fun r1 hr1 => ?_
 obtain ⟨_, er1, _, rfl⟩ := Z1P (ByteArray.mk #[124]) zl zm z7 zh zj z2 z6 zn zd zu r1 hr1
 refine zc [0] (bv r1.1) [(ZK zl r1.2 z7 zh zj z2 z6 zn zd), (Zk b1 zG zD)] er1 ?_
 refine za r1.1 ?_ ?_
 ·exact zk (Zi9 x3 zl r1.2 z7 zh zj z2 z6 b1 ox3 zn zd zG zD hox3 zu z15 zV)
 ·exact zk (Zia x3 zl r1.2 z7 zh zj z2 z6 b1 ox3 zn zd zG zD hox3 zu z15 zV)
theorem Zcr x3 zl zm z7 zh zj z2 z6 {r} (h : Z5x x3 zl zm z7 zh zj z2 z6 = some r) : Z5B x3 zl zm z7 zh zj z2 z6 = some r :=
 Z1h (fun _ _ ha hb => ru_ (Z95 _ _) (ha default .ex .ex .ex .ex .ex rfl rfl rfl rfl) (hb default .ex .ex .ex .ex .ex rfl rfl rfl rfl)) (fun b1 ox3 zn zd zG zD hox3 zu z15 zV => Zi8 x3 zl zm z7 zh zj z2 z6 b1 ox3 zn zd zG zD hox3 zu z15 zV r h)
def Z8m (zl : List Int) (zm z7 zh : Int) (zj : List Zz) (z2 z6 : Int) : Option (Z9 × Int × Int × Int × (List Zz) × Int × Int) :=
 Z5C ([] : List Z9) zl zm z7 zh zj z2 z6
theorem Zk6 zl zm z7 zh zj z2 z6 zn zd (zu : ZL zd = true) : Sim (Z2y zl zn) (Z8m zl zm z7 zh zj z2 z6) (EE 30 [(.ptr 0 0)] [(ZK zl zm z7 zh zj z2 z6 zn zd)]) := by
 unfold Z8m
 refine zf (ZGB ..)<|ze<|zz (.ptr 1 0) [(ZK zl zm z7 zh zj z2 z6 zn zd), (Zk Z1A .nl .nl)]<|ze ?_
 exact zk (Zcu ([] : List Z9) zl zm z7 zh zj z2 z6 Z1A .nl zn zd .nl .nl rfl zu rfl rfl)
theorem ZeL zl zm z7 zh zj z2 z6 {r} (h : Z8m zl zm z7 zh zj z2 z6 = some r) : Z6W zl zm z7 zh zj z2 z6 = some r :=
 Z1h (fun _ _ ha hb => ru_ (Z95 _ _) (ha .ex .ex rfl) (hb .ex .ex rfl)) (fun zn zd zu => Zk6 zl zm z7 zh zj z2 z6 zn zd zu r h)
def Z3A (x3 : List Z9) (zm z7 zh : Int) (zj : List Zz) (z2 z6 : Int) : Option (Z9 × Int × Int × Int × (List Zz) × Int × Int) :=
 (Zb2 2 x3).bind fun r1 =>
 some (r1, zm, z7, zh, zj, z2, z6)
theorem Z78 (x3 : List Z9) zl zm z7 zh zj z2 z6 b1 ox3 zn zd zG zD (hox3 : ZL ox3 = true) (zu : ZL zd = true) (z15 : ZL zG = true) (zV : ZL zD = true) : Sim (Z2y zl zn) (Z3A x3 zm z7 zh zj z2 z6) (Zkt 1 (.ptr 1 0) (ZO ox3 (x3.map ZI)) [(ZK zl zm z7 zh zj z2 z6 zn zd), (Zk b1 zG zD)]) := by
 unfold Z3A
 refine zf (ZAM ..)<|ze<|zi fun r1 hr1 => ?_
 obtain ⟨_, er1, _, rfl⟩ := ZhS 2 x3 .sh r1 hr1
 refine zc [] (pA_ (ZH r1 .sh .sh)) [(ZK zl zm z7 zh zj z2 z6 zn zd), (Zk b1 zG zD)] er1<|zt [(ZK zl zm z7 zh zj z2 z6 zn zd), (Zk r1 .sh .sh)] ?_
 exact zr ((pA_ (ZH r1 .sh .sh)), [(ZK zl zm z7 zh zj z2 z6 zn zd), (Zk r1 .sh .sh)]) ⟨zd, _, zu, rfl⟩
def Z4u (x3 : List Z9) (zl : List Int) (zm z7 zh : Int) (zj : List Zz) (z2 z6 : Int) : Option (Z9 × Int × Int × Int × (List Zz) × Int × Int) :=
 (Z9P zl zm z7 zh zj z2 z6).bind fun r1 =>
 (Z6Y r1.1 r1.2.1 zl r1.2.2.1 r1.2.2.2.1 r1.2.2.2.2.1 r1.2.2.2.2.2.1 r1.2.2.2.2.2.2.1 r1.2.2.2.2.2.2.2).bind fun r2 =>
 (lapp x3 ([r2.1] : List Z9)).bind fun a3 =>
 Z5C a3 zl r2.2.1 r1.2.2.2.1 r1.2.2.2.2.1 r1.2.2.2.2.2.1 r2.2.2.1 r2.2.2.2
theorem Z9a (x3 : List Z9) zl zm z7 zh zj z2 z6 b1 ox3 zn zd zG zD (hox3 : ZL ox3 = true) (zu : ZL zd = true) (z15 : ZL zG = true) (zV : ZL zD = true) : Sim (Z2y zl zn) (Z4u x3 zl zm z7 zh zj z2 z6) (ZmJ 1 (.ptr 0 0) (.ptr 1 0) (ZO ox3 (x3.map ZI)) [(ZK zl zm z7 zh zj z2 z6 zn zd), (Zk b1 zG zD)]) := by
 unfold Z4u
 refine zf (ZAL ..)<|ze<|zi fun r1 hr1 => ?_
 obtain ⟨_, er1, z5g, _, z9y, rfl⟩ := Zk5 zl zm z7 zh zj z2 z6 zn zd zu r1 hr1
 refine zc [0] (.p (.tup [(.agg (ZH r1.1 .sh .sh)), (.v (.bool r1.2.1))])) [(ZK zl r1.2.2.1 r1.2.2.2.1 r1.2.2.2.2.1 r1.2.2.2.2.2.1 r1.2.2.2.2.2.2.1 r1.2.2.2.2.2.2.2 zn z5g), (Zk b1 zG zD)] er1<|zq<|zq<|zz (.ptr 2 0) [(ZK zl r1.2.2.1 r1.2.2.2.1 r1.2.2.2.2.1 r1.2.2.2.2.2.1 r1.2.2.2.2.2.2.1 r1.2.2.2.2.2.2.2 zn z5g), (Zk b1 zG zD), (Zk Z1A .nl .nl)]<|zt [(ZK zl r1.2.2.1 r1.2.2.2.1 r1.2.2.2.2.1 r1.2.2.2.2.2.1 r1.2.2.2.2.2.2.1 r1.2.2.2.2.2.2.2 zn z5g), (Zk b1 zG zD), (Zk r1.1 .sh .sh)]<|ze<|zq<|zi fun r2 hr2 => ?_
 obtain ⟨_, er2, _, rfl⟩ := Zj5 r1.1 r1.2.1 zl r1.2.2.1 r1.2.2.2.1 r1.2.2.2.2.1 r1.2.2.2.2.2.1 r1.2.2.2.2.2.2.1 r1.2.2.2.2.2.2.2 .sh .sh zn z5g z9y r2 hr2
 refine zc [0] (pA_ (ZH r2.1 .sh .sh)) [(ZK zl r2.2.1 r1.2.2.2.1 r1.2.2.2.2.1 r1.2.2.2.2.2.1 r2.2.2.1 r2.2.2.2 zn z5g), (Zk b1 zG zD), (Zk r1.1 .sh .sh)] er2<|zp (ZO .ex (([r2.1] : List Z9).map ZI)) (Eq.trans (b := some (ZO .ex [.agg (Z1W r2.1)])) (by kernel_rfl) (by simp only [Z8S, ZdH, Z4W]))<|zi fun a3 ha3 => zp (ZO .un (a3.map ZI)) (Eq.trans (by kernel_rfl) <| ZeU (n := 7) (o := ox3) (o' := .ex) (e := ZI) (ys := ([r2.1] : List Z9)) Zgn (by decide) hox3 ha3) ?_
 exact zk (Zcu a3 zl r2.2.1 r1.2.2.2.1 r1.2.2.2.2.1 r1.2.2.2.2.2.1 r2.2.2.1 r2.2.2.2 b1 .un zn z5g zG zD rfl z9y z15 zV)
def Z6S (x3 : List Z9) (zl : List Int) (zm z7 zh : Int) (zj : List Zz) (z2 z6 : Int) : Option (Z9 × Int × Int × Int × (List Zz) × Int × Int) :=
 (Z2G (Z1y.mk zl zm z7 zh zj (Z12.mk z2 z6))).bind fun r1 =>
 if (r1 == (-1)) = true then
 (if (r1 == (-1)) = true then
 (Z3A x3 zm z7 zh zj z2 z6)
 else
 (Z4u x3 zl zm z7 zh zj z2 z6))
 else
 (if (r1 == 124) = true then
 (if (r1 == 124) = true then
 (Z3A x3 zm z7 zh zj z2 z6)
 else
 (Z4u x3 zl zm z7 zh zj z2 z6))
 else
 (if (r1 == 41) = true then
 (Z3A x3 zm z7 zh zj z2 z6)
 else
 (Z4u x3 zl zm z7 zh zj z2 z6)))
theorem Zic (x3 : List Z9) zl zm z7 zh zj z2 z6 b1 ox3 zn zd zG zD (hox3 : ZL ox3 = true) (zu : ZL zd = true) (z15 : ZL zG = true) (zV : ZL zD = true) : Sim (Z2y zl zn) (Z6S x3 zl zm z7 zh zj z2 z6) (Zua 1 (.ptr 0 0) (.ptr 1 0) (ZO ox3 (x3.map ZI)) [(ZK zl zm z7 zh zj z2 z6 zn zd), (Zk b1 zG zD)]) := by
 unfold Z6S
 refine zf (ZAK ..)<|ze<|zi fun r1 hr1 => ?_
 obtain ⟨_, er1, _, rfl⟩ := Z2S (Z1y.mk zl zm z7 zh zj (Z12.mk z2 z6)) zn zd zu r1 hr1
 refine zc [0] (iv r1) [(ZK zl zm z7 zh zj z2 z6 zn zd), (Zk b1 zG zD)] er1<|ze<|zq ?_
 refine za (r1 == (-1)) ?_ ?_
 ·refine za (r1 == (-1)) ?_ ?_
  ·exact zk (Z78 x3 zl zm z7 zh zj z2 z6 b1 ox3 zn zd zG zD hox3 zu z15 zV)
  ·exact zk (Z9a x3 zl zm z7 zh zj z2 z6 b1 ox3 zn zd zG zD hox3 zu z15 zV)
 ·refine ze<|zq ?_
  refine za (r1 == 124) ?_ ?_
  ·refine za (r1 == 124) ?_ ?_
   ·exact zk (Z78 x3 zl zm z7 zh zj z2 z6 b1 ox3 zn zd zG zD hox3 zu z15 zV)
   ·exact zk (Z9a x3 zl zm z7 zh zj z2 z6 b1 ox3 zn zd zG zD hox3 zu z15 zV)
  ·refine ze<|zq ?_
   refine za (r1 == 41) ?_ ?_
   ·exact zk (Z78 x3 zl zm z7 zh zj z2 z6 b1 ox3 zn zd zG zD hox3 zu z15 zV)
   ·exact zk (Z9a x3 zl zm z7 zh zj z2 z6 b1 ox3 zn zd zG zD hox3 zu z15 zV)
def Z6R (x3 : List Z9) (zl : List Int) (zm z7 zh : Int) (zj : List Zz) (z2 z6 : Int) : Option (Z9 × Int × Int × Int × (List Zz) × Int × Int) :=
 if (z2 == 0) = true then
 (Z6S x3 zl zm z7 zh zj z2 z6)
 else
 (Z3A x3 zm z7 zh zj z2 z6)
theorem Zib (x3 : List Z9) zl zm z7 zh zj z2 z6 b1 ox3 zn zd zG zD (hox3 : ZL ox3 = true) (zu : ZL zd = true) (z15 : ZL zG = true) (zV : ZL zD = true) : Sim (Z2y zl zn) (Z6R x3 zl zm z7 zh zj z2 z6) (ZmI 1 (.ptr 0 0) (.ptr 1 0) (ZO ox3 (x3.map ZI)) [(ZK zl zm z7 zh zj z2 z6 zn zd), (Zk b1 zG zD)]) := by
 unfold Z6R
 refine zf (ZAJ ..)<|ze<|zq<|zq<|zq<|zq<|zq ?_
 refine za (z2 == 0) ?_ ?_
 ·exact zk (Zic x3 zl zm z7 zh zj z2 z6 b1 ox3 zn zd zG zD hox3 zu z15 zV)
 ·exact zk (Z78 x3 zl zm z7 zh zj z2 z6 b1 ox3 zn zd zG zD hox3 zu z15 zV)
theorem Zct x3 zl zm z7 zh zj z2 z6 {r} (h : Z6R x3 zl zm z7 zh zj z2 z6 = some r) : Z5C x3 zl zm z7 zh zj z2 z6 = some r :=
 Z1h (fun _ _ ha hb => ru_ (Z95 _ _) (ha default .ex .ex .ex .ex .ex rfl rfl rfl rfl) (hb default .ex .ex .ex .ex .ex rfl rfl rfl rfl)) (fun b1 ox3 zn zd zG zD hox3 zu z15 zV => Zib x3 zl zm z7 zh zj z2 z6 b1 ox3 zn zd zG zD hox3 zu z15 zV r h)
def Z8c (b0 : Z1y) : Option Int :=
 (Ze3 b0.b b0.at_).bind fun r1 =>
 some r1.1
theorem ZhC b0 zn zd (zu : ZL zd = true) : Sim (Z7R b0 zn zd) (Z8c b0) (Zux 1 (.ptr 0 0) [(Z3T b0 zn zd)]) := by
 unfold Z8c
 refine zf (ZB7 ..)<|ze<|zq<|zq<|zq<|zq<|zq<|zq<|zi fun r1 hr1 => ?_
 obtain ⟨_, er1, _, rfl⟩ := ZkW b0.b b0.at_ .sh r1 hr1
 refine zc [] (.p (.tup [(.v (.int .i64 r1.1)), (.v (.int .i64 r1.2))])) [(Z3T b0 zn zd)] er1<|zq<|zq<|ze ?_
 exact zr ((iv r1.1), [(Z3T b0 zn zd)]) ⟨_, rfl⟩
def Z9L (b0 : Z1y) : Option Int :=
 if (decide ((b0.b.length : Int) ≤ b0.at_)) = true then
 (some (-1))
 else
 (Z8c b0)
theorem ZjA b0 zn zd (zu : ZL zd = true) : Sim (Z7R b0 zn zd) (Z9L b0) (EE 47 [(.ptr 0 0)] [(Z3T b0 zn zd)]) := by
 unfold Z9L
 refine zf (ZH1 ..)<|ze<|ze<|zq<|zq<|zq<|zq<|zq<|zq<|zp (iv (b0.b.length : Int)) (et_ (Z3d (P := PP) (t := 54) (d := 5) (by kernel_rfl) (eI .u8) (shrO zn) b0.b))<|zq ?_
 refine za (decide ((b0.b.length : Int) ≤ b0.at_)) ?_ ?_
 ·refine ze ?_
  exact zr ((iv (-1)), [(Z3T b0 zn zd)]) ⟨_, rfl⟩
 ·exact zk (ZhC b0 zn zd zu)
theorem Zk7 b0 {r} (h : Z9L b0 = some r) : Z2G b0 = some r :=
 Z1h (fun _ _ ha hb => ru_ (Zkk _ _ _) (ha .ex .ex rfl) (hb .ex .ex rfl)) (fun zn zd zu => ZjA b0 zn zd zu r h)
def Zd2 : Option (Int × Int) :=
 some (0, 0)
theorem Zho : Sim Z3j Zd2 (Zqu 0 []) := by
 unfold Zd2
 refine zf (ZBv ..)<|ze ?_
 exact zr ((.p (.tup [(.v (.int .i64 0)), (.v (.int .i64 0))])), []) ⟨_, rfl⟩
def Zd4 (x0 : List Int) (x1 : Int) : Option (Int × Int) :=
 (lget x0 x1).bind fun a1 =>
 some ((IntKind.i64.wrap (1114112 + (IntKind.i64.wrap a1))), 1)
theorem Znc (x0 : List Int) x1 ox0 : Sim Z3j (Zd4 x0 x1) (ZuT 0 (ZO ox0 (x0.map (eI .u8))) (iv x1) []) := by
 unfold Zd4
 refine zf (ZBx ..)<|ze<|zi fun a1 ha1 => zp (.cptr [(.v (.int .u8 a1))]) (et_ (Z2D (o := (shrO ox0)) (k := .i64) (n := 1) (e := (eI .u8)) (cs := (fun a => [(eI .u8) a])) (fun _ => rfl) (fun _ => rfl) (by decide) ha1))<|zq<|zq<|zq ?_
 exact zr ((.p (.tup [(.v (.int .i64 (IntKind.i64.wrap (1114112 + (IntKind.i64.wrap a1))))), (.v (.int .i64 1))])), []) ⟨_, rfl⟩
def Z9j (x6 x7 : Int) : Option (Int × Int) :=
 some ((IntKind.i64.wrap x6), x7)
theorem Zhp x6 x7 : Sim Z3j (Z9j x6 x7) (Zqv 0 (.p (.v (.int .i32 x6))) (iv x7) []) := by
 unfold Z9j
 refine zf (ZBy ..)<|ze<|zq ?_
 exact zr ((.p (.tup [(.v (.int .i64 (IntKind.i64.wrap x6))), (.v (.int .i64 x7))])), []) ⟨_, rfl⟩
def Zd3 (x0 : List Int) (x1 : Int) : Option (Int × Int) :=
 (lsl x0 x1 (x0.length : Int)).bind fun a1 =>
 (Z9c a1).bind fun r2 =>
 if (r2.1 == 65533) = true then
 (if (r2.2 == 1) = true then
 (Zd4 x0 x1)
 else
 (Z9j r2.1 r2.2))
 else
 (Z9j r2.1 r2.2)
theorem Znb (x0 : List Int) x1 ox0 : Sim Z3j (Zd3 x0 x1) (ZuS 0 (ZO ox0 (x0.map (eI .u8))) (iv x1) []) := by
 unfold Zd3
 refine zf (ZBw ..)<|ze<|zi fun a1 ha1 => zp (ZO (slO (shrO ox0)) (a1.map (eI .u8))) (Eq.trans (by kernel_rfl) <| Zwu (n := 1) (o := (shrO ox0)) (lo := (some (iv x1))) (hi := none) (e := (eI .u8)) (fun _ => rfl) (by decide) (by kernel_rfl) (by kernel_rfl) ha1)<|zi fun r2 hr2 => ?_
 obtain ⟨_, er2, _, rfl⟩ := Zgk a1 .sh r2 hr2
 refine zc [] (.p (.tup [(.v (.int .i32 r2.1)), (.v (.int .i64 r2.2))])) [] er2<|zq<|zq<|ze<|zq ?_
 refine za (r2.1 == 65533) ?_ ?_
 ·refine zq ?_
  refine za (r2.2 == 1) ?_ ?_
  ·exact zk (Znc x0 x1 ox0)
  ·exact zk (Zhp r2.1 r2.2)
 ·exact zk (Zhp r2.1 r2.2)
def ZgE (x0 : List Int) (x1 : Int) : Option (Int × Int) :=
 if (decide (x1 < 0)) = true then
 Zd2
 else
 (if (decide ((x0.length : Int) ≤ x1)) = true then
 Zd2
 else
 (Zd3 x0 x1))
theorem ZqW (x0 : List Int) x1 ox0 : Sim Z3j (ZgE x0 x1) (EE 62 [(ZO ox0 (x0.map (eI .u8))), (iv x1)] []) := by
 unfold ZgE
 refine zf (ZHh ..)<|ze<|ze<|zq ?_
 refine za (decide (x1 < 0)) ?_ ?_
 ·exact zk Zho
 ·refine zp (iv (x0.length : Int)) (et_ (Z3d (P := PP) (t := 54) (d := 5) (by kernel_rfl) (eI .u8) (shrO ox0) x0))<|zq ?_
  refine za (decide ((x0.length : Int) ≤ x1)) ?_ ?_
  ·exact zk Zho
  ·exact zk (Znb x0 x1 ox0)
theorem Zs8 x0 x1 {r} (h : ZgE x0 x1 = some r) : Ze3 x0 x1 = some r :=
 Z1h (fun _ _ ha hb => ru_ Ze8 (ha .ex) (hb .ex)) (fun ox0 => ZqW x0 x1 ox0 r h)
def Zdt (x0 : Int) (x1 : List Z9) : Option Z9 :=
 some (Z9.mk x0 0 0 0 0 ([] : List Z8) x1)
theorem ZkP x0 (x1 : List Z9) b0 ox1 z1O z1v (zDB : ZL z1O = true) (zCh : ZL z1v = true) : Sim Z6L (Zdt x0 x1) (Zuc 0 (iv x0) (ZO ox1 (x1.map ZI)) (.ptr 0 0) [(Zk b0 z1O z1v)]) := by
 unfold Zdt
 refine zf (ZAN ..)<|ze<|zq<|zt [(Z2Q x0 0 0 0 0 ([] : List Z8) x1 .nl (shrO (shrO ox1)))] ?_
 exact zr ((pA_ (ZH (Z9.mk x0 0 0 0 0 ([] : List Z8) x1) .sh .sh)), [(Z2Q x0 0 0 0 0 ([] : List Z8) x1 .nl (shrO (shrO ox1)))]) ⟨_, rfl⟩
def ZcZ (x0 : Int) (x1 : List Z9) : Option Z9 :=
 if ((x1.length : Int) == 0) = true then
 (some (Z9.mk 0 0 0 0 0 ([] : List Z8) ([] : List Z9)))
 else
 (if ((x1.length : Int) == 1) = true then
 ((lget x1 0).bind fun a1 =>
 some a1)
 else
 (Zdt x0 x1))
theorem Zn7 x0 (x1 : List Z9) ox1 : Sim Z6L (ZcZ x0 x1) (EE 31 [(iv x0), (ZO ox1 (x1.map ZI))] []) := by
 unfold ZcZ
 refine zf (ZGE ..)<|ze<|zz (.ptr 0 0) [(Zk Z1A .nl .nl)]<|ze<|zp (iv (x1.length : Int)) (et_ (Z3d (P := PP) (t := 29) (d := 31) (by kernel_rfl) ZI (shrO ox1) x1))<|ze<|zq ?_
 refine za ((x1.length : Int) == 0) ?_ ?_
 ·refine ze<|zq<|zt [(Zk Z1A .nl .nl)] ?_
  exact zr ((pA_ (ZH Z1A .sh .sh)), [(Zk Z1A .nl .nl)]) ⟨_, rfl⟩
 ·refine ze<|zq ?_
  refine za ((x1.length : Int) == 1) ?_ ?_
  ·refine ze<|zi fun a1 ha1 => zp (.cptr (ZH a1 .sh .sh)) (et_ (Z2D (o := (shrO ox1)) (k := .i64) (n := 7) (e := ZI) (cs := Z1W) Z2J (fun _ => rfl) (by decide) ha1))<|zq<|zt [(Zk a1 .sh .sh)] ?_
   exact zr ((pA_ (ZH a1 .sh .sh)), [(Zk a1 .sh .sh)]) ⟨_, rfl⟩
  ·exact zk (ZkP x0 x1 Z1A ox1 .nl .nl rfl rfl)
theorem Zol x0 x1 {r} (h : ZcZ x0 x1 = some r) : Zb2 x0 x1 = some r :=
 Z1h (fun _ _ ha hb => ru_ ZiO (ha .ex) (hb .ex)) (fun ox1 => Zn7 x0 x1 ox1 r h)
def Z1Z (zm z7 zh : Int) (zj : List Zz) (z2 z6 : Int) : Option (Z9 × Bool × Int × Int × Int × (List Zz) × Int × Int) :=
 some ((Z9.mk 0 0 0 0 0 ([] : List Z8) ([] : List Z9)), true, zm, z7, zh, zj, z2, z6)
theorem Z26 zl zm z7 zh zj z2 z6 b1 zn zd zG zD (zu : ZL zd = true) (z15 : ZL zG = true) (zV : ZL zD = true) : Sim (Z2V zl zn) (Z1Z zm z7 zh zj z2 z6) (Z8I 1 (.ptr 1 0) [(ZK zl zm z7 zh zj z2 z6 zn zd), (Zk b1 zG zD)]) := by
 unfold Z1Z
 refine zf (Zyo ..)<|ze<|zq<|zt [(ZK zl zm z7 zh zj z2 z6 zn zd), (Zk Z1A .nl .nl)] ?_
 exact zr ((.p (.tup [(.agg (ZH Z1A .sh .sh)), (.v (.bool true))])), [(ZK zl zm z7 zh zj z2 z6 zn zd), (Zk Z1A .nl .nl)]) ⟨zd, _, zu, rfl⟩
def Z7T (zl : List Int) (zm z7 zh : Int) (zj : List Zz) (z2 z6 : Int) : Option (Z9 × Bool × Int × Int × Int × (List Zz) × Int × Int) :=
 (Z3n zl zm).bind fun r1 =>
 if (r1.1 == 46) = true then
 ((Z2v 10).bind fun r2 =>
 (Z41 true ([r2] : List Z8)).bind fun r3 =>
 some (r3, true, r1.2, z7, zh, zj, z2, z6))
 else
 (if (r1.1 == 94) = true then
 (some ((Z9.mk 9 0 0 0 0 ([] : List Z8) ([] : List Z9)), false, r1.2, z7, zh, zj, z2, z6))
 else
 (if (r1.1 == 36) = true then
 (some ((Z9.mk 9 0 0 0 1 ([] : List Z8) ([] : List Z9)), false, r1.2, z7, zh, zj, z2, z6))
 else
 (if (r1.1 == 92) = true then
 ((Z4C zm zl r1.2 z7 zh zj z2 z6).bind fun r4 =>
 some (r4.1, (r4.1.Kind != 9), r4.2.1, z7, zh, r4.2.2.1, r4.2.2.2.1, r4.2.2.2.2))
 else
 (if (r1.1 == 91) = true then
 ((Z9b zm zl r1.2 z7 zh zj z2 z6).bind fun r5 =>
 some (r5.1, true, r5.2.1, z7, zh, zj, r5.2.2.1, r5.2.2.2))
 else
 (if (r1.1 == 40) = true then
 ((Z4X zm zl r1.2 z7 zh zj z2 z6).bind fun r6 =>
 some (r6.1, r6.2.1, r6.2.2.1, r6.2.2.2.1, r6.2.2.2.2.1, r6.2.2.2.2.2.1, r6.2.2.2.2.2.2.1, r6.2.2.2.2.2.2.2))
 else
 (if (r1.1 == 42) = true then
 (if (r1.1 == 42) = true then
 ((Z1c 23 zm zl z2 z6).bind fun r7 =>
 Z1Z r7.1 z7 zh zj r7.2.1 r7.2.2)
 else
 (if (r1.1 == 93) = true then
 (if (r1.1 == 93) = true then
 ((Z1c 20 zm zl z2 z6).bind fun r8 =>
 Z1Z r8.1 z7 zh zj r8.2.1 r8.2.2)
 else
 ((Z2v r1.1).bind fun r9 =>
 (Z41 false ([r9] : List Z8)).bind fun r10 =>
 some (r10, true, r1.2, z7, zh, zj, z2, z6)))
 else
 (if (r1.1 == 125) = true then
 ((Z1c 20 zm zl z2 z6).bind fun r11 =>
 Z1Z r11.1 z7 zh zj r11.2.1 r11.2.2)
 else
 ((Z2v r1.1).bind fun r12 =>
 (Z41 false ([r12] : List Z8)).bind fun r13 =>
 some (r13, true, r1.2, z7, zh, zj, z2, z6)))))
 else
 (if (r1.1 == 43) = true then
 (if (r1.1 == 43) = true then
 ((Z1c 23 zm zl z2 z6).bind fun r14 =>
 Z1Z r14.1 z7 zh zj r14.2.1 r14.2.2)
 else
 (if (r1.1 == 93) = true then
 (if (r1.1 == 93) = true then
 ((Z1c 20 zm zl z2 z6).bind fun r15 =>
 Z1Z r15.1 z7 zh zj r15.2.1 r15.2.2)
 else
 ((Z2v r1.1).bind fun r16 =>
 (Z41 false ([r16] : List Z8)).bind fun r17 =>
 some (r17, true, r1.2, z7, zh, zj, z2, z6)))
 else
 (if (r1.1 == 125) = true then
 ((Z1c 20 zm zl z2 z6).bind fun r18 =>
 Z1Z r18.1 z7 zh zj r18.2.1 r18.2.2)
 else
 ((Z2v r1.1).bind fun r19 =>
 (Z41 false ([r19] : List Z8)).bind fun r20 =>
 some (r20, true, r1.2, z7, zh, zj, z2, z6)))))
 else
 (if (r1.1 == 63) = true then
 (if (r1.1 == 63) = true then
 ((Z1c 23 zm zl z2 z6).bind fun r21 =>
 Z1Z r21.1 z7 zh zj r21.2.1 r21.2.2)
 else
 (if (r1.1 == 93) = true then
 (if (r1.1 == 93) = true then
 ((Z1c 20 zm zl z2 z6).bind fun r22 =>
 Z1Z r22.1 z7 zh zj r22.2.1 r22.2.2)
 else
 ((Z2v r1.1).bind fun r23 =>
 (Z41 false ([r23] : List Z8)).bind fun r24 =>
 some (r24, true, r1.2, z7, zh, zj, z2, z6)))
 else
 (if (r1.1 == 125) = true then
 ((Z1c 20 zm zl z2 z6).bind fun r25 =>
 Z1Z r25.1 z7 zh zj r25.2.1 r25.2.2)
 else
 ((Z2v r1.1).bind fun r26 =>
 (Z41 false ([r26] : List Z8)).bind fun r27 =>
 some (r27, true, r1.2, z7, zh, zj, z2, z6)))))
 else
 (if (r1.1 == 123) = true then
 ((Z1c 23 zm zl z2 z6).bind fun r28 =>
 Z1Z r28.1 z7 zh zj r28.2.1 r28.2.2)
 else
 (if (r1.1 == 93) = true then
 (if (r1.1 == 93) = true then
 ((Z1c 20 zm zl z2 z6).bind fun r29 =>
 Z1Z r29.1 z7 zh zj r29.2.1 r29.2.2)
 else
 ((Z2v r1.1).bind fun r30 =>
 (Z41 false ([r30] : List Z8)).bind fun r31 =>
 some (r31, true, r1.2, z7, zh, zj, z2, z6)))
 else
 (if (r1.1 == 125) = true then
 ((Z1c 20 zm zl z2 z6).bind fun r32 =>
 Z1Z r32.1 z7 zh zj r32.2.1 r32.2.2)
 else
 ((Z2v r1.1).bind fun r33 =>
 (Z41 false ([r33] : List Z8)).bind fun r34 =>
 some (r34, true, r1.2, z7, zh, zj, z2, z6)))))))))))))
theorem Zjv zl zm z7 zh zj z2 z6 zn zd (zu : ZL zd = true) : Sim (Z2V zl zn) (Z7T zl zm z7 zh zj z2 z6) (EE 48 [(.ptr 0 0)] [(ZK zl zm z7 zh zj z2 z6 zn zd)]) := by
 unfold Z7T
 refine zf (ZH3 ..)<|ze<|zz (.ptr 1 0) [(ZK zl zm z7 zh zj z2 z6 zn zd), (Zk Z1A .nl .nl)]<|ze<|zq<|zq<|zq<|ze<|zi fun r1 hr1 => ?_
 obtain ⟨_, er1, _, rfl⟩ := Z3N zl zm z7 zh zj z2 z6 zn zd zu r1 hr1
 refine zc [0] (iv r1.1) [(ZK zl r1.2 z7 zh zj z2 z6 zn zd), (Zk Z1A .nl .nl)] er1<|ze<|ze<|zq ?_
 refine za (r1.1 == 46) ?_ ?_
 ·refine ze<|zi fun r2 hr2 => ?_
  obtain ⟨_, er2, _, rfl⟩ := Z2k 10 r2 hr2
  refine zc [] (pA_ (ZN r2)) [(ZK zl r1.2 z7 zh zj z2 z6 zn zd), (Zk Z1A .nl .nl)] er2<|zq<|zi fun r3 hr3 => ?_
  obtain ⟨_, er3, _, rfl⟩ := Z4a true ([r2] : List Z8) .sh r3 hr3
  refine zc [] (pA_ (ZH r3 .sh .sh)) [(ZK zl r1.2 z7 zh zj z2 z6 zn zd), (Zk Z1A .nl .nl)] er3<|zt [(ZK zl r1.2 z7 zh zj z2 z6 zn zd), (Zk r3 .sh .sh)] ?_
  exact zr ((.p (.tup [(.agg (ZH r3 .sh .sh)), (.v (.bool true))])), [(ZK zl r1.2 z7 zh zj z2 z6 zn zd), (Zk r3 .sh .sh)]) ⟨zd, _, zu, rfl⟩
 ·refine ze<|zq ?_
  refine za (r1.1 == 94) ?_ ?_
  ·refine ze<|zq<|zt [(ZK zl r1.2 z7 zh zj z2 z6 zn zd), (Z2Q 9 0 0 0 0 ([] : List Z8) ([] : List Z9) .nl .nl)] ?_
   exact zr ((.p (.tup [(.agg (ZH (Z9.mk 9 0 0 0 0 ([] : List Z8) ([] : List Z9)) .sh .sh)), (.v (.bool false))])), [(ZK zl r1.2 z7 zh zj z2 z6 zn zd), (Z2Q 9 0 0 0 0 ([] : List Z8) ([] : List Z9) .nl .nl)]) ⟨zd, _, zu, rfl⟩
  ·refine ze<|zq ?_
   refine za (r1.1 == 36) ?_ ?_
   ·refine ze<|zq<|zt [(ZK zl r1.2 z7 zh zj z2 z6 zn zd), (Z2Q 9 0 0 0 1 ([] : List Z8) ([] : List Z9) .nl .nl)] ?_
    exact zr ((.p (.tup [(.agg (ZH (Z9.mk 9 0 0 0 1 ([] : List Z8) ([] : List Z9)) .sh .sh)), (.v (.bool false))])), [(ZK zl r1.2 z7 zh zj z2 z6 zn zd), (Z2Q 9 0 0 0 1 ([] : List Z8) ([] : List Z9) .nl .nl)]) ⟨zd, _, zu, rfl⟩
   ·refine ze<|zq ?_
    refine za (r1.1 == 92) ?_ ?_
    ·refine ze<|zi fun r4 hr4 => ?_
     obtain ⟨_, er4, ziK, _, zDC, rfl⟩ := Zj1 zm zl r1.2 z7 zh zj z2 z6 zn zd zu r4 hr4
     refine zc [0] (pA_ (ZH r4.1 .sh .sh)) [(ZK zl r4.2.1 z7 zh r4.2.2.1 r4.2.2.2.1 r4.2.2.2.2 zn ziK), (Zk Z1A .nl .nl)] er4<|zz (.ptr 2 0) [(ZK zl r4.2.1 z7 zh r4.2.2.1 r4.2.2.2.1 r4.2.2.2.2 zn ziK), (Zk Z1A .nl .nl), (Zk Z1A .nl .nl)]<|zt [(ZK zl r4.2.1 z7 zh r4.2.2.1 r4.2.2.2.1 r4.2.2.2.2 zn ziK), (Zk Z1A .nl .nl), (Zk r4.1 .sh .sh)]<|ze<|zq<|zq<|zq<|zq<|zt [(ZK zl r4.2.1 z7 zh r4.2.2.1 r4.2.2.2.1 r4.2.2.2.2 zn ziK), (Zk r4.1 .sh .sh), (Zk r4.1 .sh .sh)]<|zg ?_
     exact zr ((.p (.tup [(.agg (ZH r4.1 .sh .sh)), (.v (.bool (r4.1.Kind != 9)))])), [(ZK zl r4.2.1 z7 zh r4.2.2.1 r4.2.2.2.1 r4.2.2.2.2 zn ziK), (Zk r4.1 .sh .sh), (Zk r4.1 .sh .sh)]) ⟨ziK, _, zDC, rfl⟩
    ·refine ze<|zq ?_
     refine za (r1.1 == 91) ?_ ?_
     ·refine ze<|zi fun r5 hr5 => ?_
      obtain ⟨_, er5, _, rfl⟩ := Zjx zm zl r1.2 z7 zh zj z2 z6 zn zd zu r5 hr5
      refine zc [0] (pA_ (ZH r5.1 .sh .sh)) [(ZK zl r5.2.1 z7 zh zj r5.2.2.1 r5.2.2.2 zn zd), (Zk Z1A .nl .nl)] er5<|zt [(ZK zl r5.2.1 z7 zh zj r5.2.2.1 r5.2.2.2 zn zd), (Zk r5.1 .sh .sh)] ?_
      exact zr ((.p (.tup [(.agg (ZH r5.1 .sh .sh)), (.v (.bool true))])), [(ZK zl r5.2.1 z7 zh zj r5.2.2.1 r5.2.2.2 zn zd), (Zk r5.1 .sh .sh)]) ⟨zd, _, zu, rfl⟩
     ·refine ze<|zq ?_
      refine za (r1.1 == 40) ?_ ?_
      ·refine ze<|zi fun r6 hr6 => ?_
       obtain ⟨_, er6, zoc, _, zDD, rfl⟩ := Zjz zm zl r1.2 z7 zh zj z2 z6 zn zd zu r6 hr6
       refine zc [0] (.p (.tup [(.agg (ZH r6.1 .sh .sh)), (.v (.bool r6.2.1))])) [(ZK zl r6.2.2.1 r6.2.2.2.1 r6.2.2.2.2.1 r6.2.2.2.2.2.1 r6.2.2.2.2.2.2.1 r6.2.2.2.2.2.2.2 zn zoc), (Zk Z1A .nl .nl)] er6<|zq<|zq<|zt [(ZK zl r6.2.2.1 r6.2.2.2.1 r6.2.2.2.2.1 r6.2.2.2.2.2.1 r6.2.2.2.2.2.2.1 r6.2.2.2.2.2.2.2 zn zoc), (Zk r6.1 .sh .sh)] ?_
       exact zr ((.p (.tup [(.agg (ZH r6.1 .sh .sh)), (.v (.bool r6.2.1))])), [(ZK zl r6.2.2.1 r6.2.2.2.1 r6.2.2.2.2.1 r6.2.2.2.2.2.1 r6.2.2.2.2.2.2.1 r6.2.2.2.2.2.2.2 zn zoc), (Zk r6.1 .sh .sh)]) ⟨zoc, _, zDD, rfl⟩
      ·refine ze<|zq ?_
       refine za (r1.1 == 42) ?_ ?_
       ·refine za (r1.1 == 42) ?_ ?_
        ·refine ze<|zi fun r7 hr7 => ?_
         obtain ⟨_, er7, _, rfl⟩ := Z1g 23 zm zl r1.2 z7 zh zj z2 z6 zn zd zu r7 hr7
         refine zc [0] (.p (.tup [])) [(ZK zl r7.1 z7 zh zj r7.2.1 r7.2.2 zn zd), (Zk Z1A .nl .nl)] er7 ?_
         exact zk (Z26 zl r7.1 z7 zh zj r7.2.1 r7.2.2 Z1A zn zd .nl .nl zu rfl rfl)
        ·refine ze<|zq ?_
         refine za (r1.1 == 93) ?_ ?_
         ·refine za (r1.1 == 93) ?_ ?_
          ·refine ze<|zi fun r8 hr8 => ?_
           obtain ⟨_, er8, _, rfl⟩ := Z1g 20 zm zl r1.2 z7 zh zj z2 z6 zn zd zu r8 hr8
           refine zc [0] (.p (.tup [])) [(ZK zl r8.1 z7 zh zj r8.2.1 r8.2.2 zn zd), (Zk Z1A .nl .nl)] er8 ?_
           exact zk (Z26 zl r8.1 z7 zh zj r8.2.1 r8.2.2 Z1A zn zd .nl .nl zu rfl rfl)
          ·refine ze<|zi fun r9 hr9 => ?_
           obtain ⟨_, er9, _, rfl⟩ := Z2k r1.1 r9 hr9
           refine zc [] (pA_ (ZN r9)) [(ZK zl r1.2 z7 zh zj z2 z6 zn zd), (Zk Z1A .nl .nl)] er9<|zq<|zi fun r10 hr10 => ?_
           obtain ⟨_, er10, _, rfl⟩ := Z4a false ([r9] : List Z8) .sh r10 hr10
           refine zc [] (pA_ (ZH r10 .sh .sh)) [(ZK zl r1.2 z7 zh zj z2 z6 zn zd), (Zk Z1A .nl .nl)] er10<|zt [(ZK zl r1.2 z7 zh zj z2 z6 zn zd), (Zk r10 .sh .sh)] ?_
           exact zr ((.p (.tup [(.agg (ZH r10 .sh .sh)), (.v (.bool true))])), [(ZK zl r1.2 z7 zh zj z2 z6 zn zd), (Zk r10 .sh .sh)]) ⟨zd, _, zu, rfl⟩
         ·refine ze<|zq ?_
          refine za (r1.1 == 125) ?_ ?_
          ·refine ze<|zi fun r11 hr11 => ?_
           obtain ⟨_, er11, _, rfl⟩ := Z1g 20 zm zl r1.2 z7 zh zj z2 z6 zn zd zu r11 hr11
           refine zc [0] (.p (.tup [])) [(ZK zl r11.1 z7 zh zj r11.2.1 r11.2.2 zn zd), (Zk Z1A .nl .nl)] er11 ?_
           exact zk (Z26 zl r11.1 z7 zh zj r11.2.1 r11.2.2 Z1A zn zd .nl .nl zu rfl rfl)
          ·refine ze<|zi fun r12 hr12 => ?_
           obtain ⟨_, er12, _, rfl⟩ := Z2k r1.1 r12 hr12
           refine zc [] (pA_ (ZN r12)) [(ZK zl r1.2 z7 zh zj z2 z6 zn zd), (Zk Z1A .nl .nl)] er12<|zq<|zi fun r13 hr13 => ?_
           obtain ⟨_, er13, _, rfl⟩ := Z4a false ([r12] : List Z8) .sh r13 hr13
           refine zc [] (pA_ (ZH r13 .sh .sh)) [(ZK zl r1.2 z7 zh zj z2 z6 zn zd), (Zk Z1A .nl .nl)] er13<|zt [(ZK zl r1.2 z7 zh zj z2 z6 zn zd), (Zk r13 .sh .sh)] ?_
           exact zr ((.p (.tup [(.agg (ZH r13 .sh .sh)), (.v (.bool true))])), [(ZK zl r1.2 z7 zh zj z2 z6 zn zd), (Zk r13 .sh .sh)]) ⟨zd, _, zu, rfl⟩
       ·refine ze<|zq ?_
        refine za (r1.1 == 43) ?_ ?_
        ·refine za (r1.1 == 43) ?_ ?_
         ·refine ze<|zi fun r14 hr14 => ?_
          obtain ⟨_, er14, _, rfl⟩ := Z1g 23 zm zl r1.2 z7 zh zj z2 z6 zn zd zu r14 hr14
          refine zc [0] (.p (.tup [])) [(ZK zl r14.1 z7 zh zj r14.2.1 r14.2.2 zn zd), (Zk Z1A .nl .nl)] er14 ?_
          exact zk (Z26 zl r14.1 z7 zh zj r14.2.1 r14.2.2 Z1A zn zd .nl .nl zu rfl rfl)
         ·refine ze<|zq ?_
          refine za (r1.1 == 93) ?_ ?_
          ·refine za (r1.1 == 93) ?_ ?_
           ·refine ze<|zi fun r15 hr15 => ?_
            obtain ⟨_, er15, _, rfl⟩ := Z1g 20 zm zl r1.2 z7 zh zj z2 z6 zn zd zu r15 hr15
            refine zc [0] (.p (.tup [])) [(ZK zl r15.1 z7 zh zj r15.2.1 r15.2.2 zn zd), (Zk Z1A .nl .nl)] er15 ?_
            exact zk (Z26 zl r15.1 z7 zh zj r15.2.1 r15.2.2 Z1A zn zd .nl .nl zu rfl rfl)
           ·refine ze<|zi fun r16 hr16 => ?_
            obtain ⟨_, er16, _, rfl⟩ := Z2k r1.1 r16 hr16
            refine zc [] (pA_ (ZN r16)) [(ZK zl r1.2 z7 zh zj z2 z6 zn zd), (Zk Z1A .nl .nl)] er16<|zq<|zi fun r17 hr17 => ?_
            obtain ⟨_, er17, _, rfl⟩ := Z4a false ([r16] : List Z8) .sh r17 hr17
            refine zc [] (pA_ (ZH r17 .sh .sh)) [(ZK zl r1.2 z7 zh zj z2 z6 zn zd), (Zk Z1A .nl .nl)] er17<|zt [(ZK zl r1.2 z7 zh zj z2 z6 zn zd), (Zk r17 .sh .sh)] ?_
            exact zr ((.p (.tup [(.agg (ZH r17 .sh .sh)), (.v (.bool true))])), [(ZK zl r1.2 z7 zh zj z2 z6 zn zd), (Zk r17 .sh .sh)]) ⟨zd, _, zu, rfl⟩
          ·refine ze<|zq ?_
           refine za (r1.1 == 125) ?_ ?_
           ·refine ze<|zi fun r18 hr18 => ?_
            obtain ⟨_, er18, _, rfl⟩ := Z1g 20 zm zl r1.2 z7 zh zj z2 z6 zn zd zu r18 hr18
            refine zc [0] (.p (.tup [])) [(ZK zl r18.1 z7 zh zj r18.2.1 r18.2.2 zn zd), (Zk Z1A .nl .nl)] er18 ?_
            exact zk (Z26 zl r18.1 z7 zh zj r18.2.1 r18.2.2 Z1A zn zd .nl .nl zu rfl rfl)
           ·refine ze<|zi fun r19 hr19 => ?_
            obtain ⟨_, er19, _, rfl⟩ := Z2k r1.1 r19 hr19
            refine zc [] (pA_ (ZN r19)) [(ZK zl r1.2 z7 zh zj z2 z6 zn zd), (Zk Z1A .nl .nl)] er19<|zq<|zi fun r20 hr20 => ?_
            obtain ⟨_, er20, _, rfl⟩ := Z4a false ([r19] : List Z8) .sh r20 hr20
            refine zc [] (pA_ (ZH r20 .sh .sh)) [(ZK zl r1.2 z7 zh zj z2 z6 zn zd), (Zk Z1A .nl .nl)] er20<|zt [(ZK zl r1.2 z7 zh zj z2 z6 zn zd), (Zk r20 .sh .sh)] ?_
            exact zr ((.p (.tup [(.agg (ZH r20 .sh .sh)), (.v (.bool true))])), [(ZK zl r1.2 z7 zh zj z2 z6 zn zd), (Zk r20 .sh .sh)]) ⟨zd, _, zu, rfl⟩
        ·refine ze<|zq ?_
         refine za (r1.1 == 63) ?_ ?_
         ·refine za (r1.1 == 63) ?_ ?_
          ·refine ze<|zi fun r21 hr21 => ?_
           obtain ⟨_, er21, _, rfl⟩ := Z1g 23 zm zl r1.2 z7 zh zj z2 z6 zn zd zu r21 hr21
           refine zc [0] (.p (.tup [])) [(ZK zl r21.1 z7 zh zj r21.2.1 r21.2.2 zn zd), (Zk Z1A .nl .nl)] er21 ?_
           exact zk (Z26 zl r21.1 z7 zh zj r21.2.1 r21.2.2 Z1A zn zd .nl .nl zu rfl rfl)
          ·refine ze<|zq ?_
           refine za (r1.1 == 93) ?_ ?_
           ·refine za (r1.1 == 93) ?_ ?_
            ·refine ze<|zi fun r22 hr22 => ?_
             obtain ⟨_, er22, _, rfl⟩ := Z1g 20 zm zl r1.2 z7 zh zj z2 z6 zn zd zu r22 hr22
             refine zc [0] (.p (.tup [])) [(ZK zl r22.1 z7 zh zj r22.2.1 r22.2.2 zn zd), (Zk Z1A .nl .nl)] er22 ?_
             exact zk (Z26 zl r22.1 z7 zh zj r22.2.1 r22.2.2 Z1A zn zd .nl .nl zu rfl rfl)
            ·refine ze<|zi fun r23 hr23 => ?_
             obtain ⟨_, er23, _, rfl⟩ := Z2k r1.1 r23 hr23
             refine zc [] (pA_ (ZN r23)) [(ZK zl r1.2 z7 zh zj z2 z6 zn zd), (Zk Z1A .nl .nl)] er23<|zq<|zi fun r24 hr24 => ?_
             obtain ⟨_, er24, _, rfl⟩ := Z4a false ([r23] : List Z8) .sh r24 hr24
             refine zc [] (pA_ (ZH r24 .sh .sh)) [(ZK zl r1.2 z7 zh zj z2 z6 zn zd), (Zk Z1A .nl .nl)] er24<|zt [(ZK zl r1.2 z7 zh zj z2 z6 zn zd), (Zk r24 .sh .sh)] ?_
             exact zr ((.p (.tup [(.agg (ZH r24 .sh .sh)), (.v (.bool true))])), [(ZK zl r1.2 z7 zh zj z2 z6 zn zd), (Zk r24 .sh .sh)]) ⟨zd, _, zu, rfl⟩
           ·refine ze<|zq ?_
            refine za (r1.1 == 125) ?_ ?_
            ·refine ze<|zi fun r25 hr25 => ?_
             obtain ⟨_, er25, _, rfl⟩ := Z1g 20 zm zl r1.2 z7 zh zj z2 z6 zn zd zu r25 hr25
             refine zc [0] (.p (.tup [])) [(ZK zl r25.1 z7 zh zj r25.2.1 r25.2.2 zn zd), (Zk Z1A .nl .nl)] er25 ?_
             exact zk (Z26 zl r25.1 z7 zh zj r25.2.1 r25.2.2 Z1A zn zd .nl .nl zu rfl rfl)
            ·refine ze<|zi fun r26 hr26 => ?_
             obtain ⟨_, er26, _, rfl⟩ := Z2k r1.1 r26 hr26
             refine zc [] (pA_ (ZN r26)) [(ZK zl r1.2 z7 zh zj z2 z6 zn zd), (Zk Z1A .nl .nl)] er26<|zq<|zi fun r27 hr27 => ?_
             obtain ⟨_, er27, _, rfl⟩ := Z4a false ([r26] : List Z8) .sh r27 hr27
             refine zc [] (pA_ (ZH r27 .sh .sh)) [(ZK zl r1.2 z7 zh zj z2 z6 zn zd), (Zk Z1A .nl .nl)] er27<|zt [(ZK zl r1.2 z7 zh zj z2 z6 zn zd), (Zk r27 .sh .sh)] ?_
             exact zr ((.p (.tup [(.agg (ZH r27 .sh .sh)), (.v (.bool true))])), [(ZK zl r1.2 z7 zh zj z2 z6 zn zd), (Zk r27 .sh .sh)]) ⟨zd, _, zu, rfl⟩
         ·refine ze<|zq ?_
          refine za (r1.1 == 123) ?_ ?_
          ·refine ze<|zi fun r28 hr28 => ?_
           obtain ⟨_, er28, _, rfl⟩ := Z1g 23 zm zl r1.2 z7 zh zj z2 z6 zn zd zu r28 hr28
           refine zc [0] (.p (.tup [])) [(ZK zl r28.1 z7 zh zj r28.2.1 r28.2.2 zn zd), (Zk Z1A .nl .nl)] er28 ?_
           exact zk (Z26 zl r28.1 z7 zh zj r28.2.1 r28.2.2 Z1A zn zd .nl .nl zu rfl rfl)
          ·refine ze<|zq ?_
           refine za (r1.1 == 93) ?_ ?_
           ·refine za (r1.1 == 93) ?_ ?_
            ·refine ze<|zi fun r29 hr29 => ?_
             obtain ⟨_, er29, _, rfl⟩ := Z1g 20 zm zl r1.2 z7 zh zj z2 z6 zn zd zu r29 hr29
             refine zc [0] (.p (.tup [])) [(ZK zl r29.1 z7 zh zj r29.2.1 r29.2.2 zn zd), (Zk Z1A .nl .nl)] er29 ?_
             exact zk (Z26 zl r29.1 z7 zh zj r29.2.1 r29.2.2 Z1A zn zd .nl .nl zu rfl rfl)
            ·refine ze<|zi fun r30 hr30 => ?_
             obtain ⟨_, er30, _, rfl⟩ := Z2k r1.1 r30 hr30
             refine zc [] (pA_ (ZN r30)) [(ZK zl r1.2 z7 zh zj z2 z6 zn zd), (Zk Z1A .nl .nl)] er30<|zq<|zi fun r31 hr31 => ?_
             obtain ⟨_, er31, _, rfl⟩ := Z4a false ([r30] : List Z8) .sh r31 hr31
             refine zc [] (pA_ (ZH r31 .sh .sh)) [(ZK zl r1.2 z7 zh zj z2 z6 zn zd), (Zk Z1A .nl .nl)] er31<|zt [(ZK zl r1.2 z7 zh zj z2 z6 zn zd), (Zk r31 .sh .sh)] ?_
             exact zr ((.p (.tup [(.agg (ZH r31 .sh .sh)), (.v (.bool true))])), [(ZK zl r1.2 z7 zh zj z2 z6 zn zd), (Zk r31 .sh .sh)]) ⟨zd, _, zu, rfl⟩
           ·refine ze<|zq ?_
            refine za (r1.1 == 125) ?_ ?_
            ·refine ze<|zi fun r32 hr32 => ?_
             obtain ⟨_, er32, _, rfl⟩ := Z1g 20 zm zl r1.2 z7 zh zj z2 z6 zn zd zu r32 hr32
             refine zc [0] (.p (.tup [])) [(ZK zl r32.1 z7 zh zj r32.2.1 r32.2.2 zn zd), (Zk Z1A .nl .nl)] er32 ?_
             exact zk (Z26 zl r32.1 z7 zh zj r32.2.1 r32.2.2 Z1A zn zd .nl .nl zu rfl rfl)
            ·refine ze<|zi fun r33 hr33 => ?_
             obtain ⟨_, er33, _, rfl⟩ := Z2k r1.1 r33 hr33
             refine zc [] (pA_ (ZN r33)) [(ZK zl r1.2 z7 zh zj z2 z6 zn zd), (Zk Z1A .nl .nl)] er33<|zq<|zi fun r34 hr34 => ?_
             obtain ⟨_, er34, _, rfl⟩ := Z4a false ([r33] : List Z8) .sh r34 hr34
             refine zc [] (pA_ (ZH r34 .sh .sh)) [(ZK zl r1.2 z7 zh zj z2 z6 zn zd), (Zk Z1A .nl .nl)] er34<|zt [(ZK zl r1.2 z7 zh zj z2 z6 zn zd), (Zk r34 .sh .sh)] ?_
             exact zr ((.p (.tup [(.agg (ZH r34 .sh .sh)), (.v (.bool true))])), [(ZK zl r1.2 z7 zh zj z2 z6 zn zd), (Zk r34 .sh .sh)]) ⟨zd, _, zu, rfl⟩
theorem Zk4 zl zm z7 zh zj z2 z6 {r} (h : Z7T zl zm z7 zh zj z2 z6 = some r) : Z9P zl zm z7 zh zj z2 z6 = some r :=
 Z1h (fun _ _ ha hb => ru_ (ZdL _ _) (ha .ex .ex rfl) (hb .ex .ex rfl)) (fun zn zd zu => Zjv zl zm z7 zh zj z2 z6 zn zd zu r h)
def Z9M (zl : List Int) (zm : Int) : Option (Int × Int) :=
 (Ze3 zl zm).bind fun r1 =>
 some (r1.1, (IntKind.i64.wrap (zm + r1.2)))
theorem ZjC zl zm z7 zh zj z2 z6 zn zd (zu : ZL zd = true) : Sim (Z2a zl z7 zh zj z2 z6 zn zd) (Z9M zl zm) (EE 63 [(.ptr 0 0)] [(ZK zl zm z7 zh zj z2 z6 zn zd)]) := by
 unfold Z9M
 refine zf (ZHk ..)<|ze<|ze<|zq<|zq<|zq<|zq<|zq<|zq<|zi fun r1 hr1 => ?_
 obtain ⟨_, er1, _, rfl⟩ := ZkW zl zm .sh r1 hr1
 refine zc [] (.p (.tup [(.v (.int .i64 r1.1)), (.v (.int .i64 r1.2))])) [(ZK zl zm z7 zh zj z2 z6 zn zd)] er1<|zq<|zq<|ze<|zq<|zq<|zq<|zq<|zq<|zq<|zt [(ZK zl (IntKind.i64.wrap (zm + r1.2)) z7 zh zj z2 z6 zn zd)]<|ze ?_
 exact zr ((iv r1.1), [(ZK zl (IntKind.i64.wrap (zm + r1.2)) z7 zh zj z2 z6 zn zd)]) ⟨_, rfl⟩
theorem Zk8 zl zm {r} (h : Z9M zl zm = some r) : Z3n zl zm = some r :=
 Z1h (fun _ _ ha hb => ru_ (Z6M _ _ _ _ _ _ _ _) (ha default default default default default .ex .ex rfl) (hb default default default default default .ex .ex rfl)) (fun z7 zh zj z2 z6 zn zd zu => ZjC zl zm z7 zh zj z2 z6 zn zd zu r h)
def ZjW (x0 : Int) : Option Z8 :=
 some (Z8.mk x0 x0)
theorem ZqQ x0 : Sim ZgA (ZjW x0) (EE 65 [(iv x0)] []) := by
 unfold ZjW
 refine zf (ZHn ..)<|ze<|zz (.ptr 0 0) [(Z2h Zzx)]<|ze<|zq<|zt [(Z2h (Z8.mk x0 x0))] ?_
 exact zr ((pA_ (ZN (Z8.mk x0 x0))), [(Z2h (Z8.mk x0 x0))]) ⟨_, rfl⟩
theorem Zs4 x0 {r} (h : ZjW x0 = some r) : Z2v x0 = some r :=
 Z1h (fun _ _ ha hb => ru_ ZsP ha hb) (ZqQ x0 r h)
def Zd0 (x5 : List Z8) : Option Z9 :=
 some (Z9.mk 1 0 0 0 0 x5 ([] : List Z9))
theorem Zh3 (x5 : List Z8) b0 ox5 z1O z1v (zDB : ZL z1O = true) (zCh : ZL z1v = true) : Sim Z6L (Zd0 x5) (Zqw 0 (.ptr 0 0) (ZO ox5 (x5.map Zp)) [(Zk b0 z1O z1v)]) := by
 unfold Zd0
 refine zf (ZBz ..)<|ze<|zq<|zt [(Z2Q 1 0 0 0 0 x5 ([] : List Z9) (shrO (shrO ox5)) .nl)] ?_
 exact zr ((pA_ (ZH (Z9.mk 1 0 0 0 0 x5 ([] : List Z9)) .sh .sh)), [(Z2Q 1 0 0 0 0 x5 ([] : List Z9) (shrO (shrO ox5)) .nl)]) ⟨_, rfl⟩
def ZgC (x0 : Bool) (x1 : List Z8) : Option Z9 :=
 (Zfa x1).bind fun r1 =>
 if x0 = true then
 ((Zai r1.1).bind fun r2 =>
 Zd0 r2.1)
 else
 (Zd0 r1.1)
theorem ZqR x0 (x1 : List Z8) ox1 : Sim Z6L (ZgC x0 x1) (EE 64 [(bv x0), (ZO ox1 (x1.map Zp))] []) := by
 unfold ZgC
 refine zf (ZHl ..)<|ze<|zz (.ptr 0 0) [(Zk Z1A .nl .nl)]<|ze<|zi fun r1 hr1 => ?_
 obtain ⟨_, er1, _, rfl⟩ := ZqO x1 .sh r1 hr1
 refine zc [] (.p (.tup [(.lst .sh (r1.1.map Zp)), (.v (.int .i64 r1.2))])) [(Zk Z1A .nl .nl)] er1<|zq<|zq<|ze ?_
 refine za x0 ?_ ?_
 ·refine ze<|zi fun r2 hr2 => ?_
  obtain ⟨_, er2, _, rfl⟩ := ZgV r1.1 .sh r2 hr2
  refine zc [] (.p (.tup [(.lst .sh (r2.1.map Zp)), (.v (.int .i64 r2.2))])) [(Zk Z1A .nl .nl)] er2<|zq<|zq ?_
  exact zk (Zh3 r2.1 Z1A .sh .nl .nl rfl rfl)
 ·exact zk (Zh3 r1.1 Z1A .sh .nl .nl rfl rfl)
theorem Zs5 x0 x1 {r} (h : ZgC x0 x1 = some r) : Z41 x0 x1 = some r :=
 Z1h (fun _ _ ha hb => ru_ ZiO (ha .ex) (hb .ex)) (fun ox1 => ZqR x0 x1 ox1 r h)
def ZbY (x0 : List Z8) : Option ((List Z8) × Int) :=
 (ZaZ x0).bind fun r1 =>
 some (r1, 0)
theorem Zmf (x0 : List Z8) ox0 : Sim Z2R (ZbY x0) (Zve 0 (ZO ox0 (x0.map Zp)) []) := by
 unfold ZbY
 refine zf (ZBT ..)<|ze<|zi fun r1 hr1 => ?_
 obtain ⟨_, er1, _, rfl⟩ := Zdu x0 .sh r1 hr1
 refine zc [] (ZO .sh (r1.map Zp)) [] er1 ?_
 exact zr ((.p (.tup [(.lst .sh (r1.map Zp)), (.v (.int .i64 0))])), []) ⟨_, rfl⟩
def Zf3 (x0 : List Z8) : Option ((List Z8) × Int) :=
 (Z5a x0).bind fun r1 =>
 if r1 = true then
 (some (([] : List Z8), 13))
 else
 (ZbY x0)
theorem ZoX (x0 : List Z8) ox0 : Sim Z2R (Zf3 x0) (EE 77 [(ZO ox0 (x0.map Zp))] []) := by
 unfold Zf3
 refine zf (ZHF ..)<|ze<|ze<|zi fun r1 hr1 => ?_
 obtain ⟨_, er1, _, rfl⟩ := Zdz x0 .sh r1 hr1
 refine zc [] (bv r1) [] er1 ?_
 refine za r1 ?_ ?_
 ·refine ze ?_
  exact zr ((.p (.tup [(.lst .sh []), (.v (.int .i64 13))])), []) ⟨_, rfl⟩
 ·exact zk (Zmf x0 ox0)
theorem ZqN x0 {r} (h : Zf3 x0 = some r) : Zfa x0 = some r :=
 Z1h (fun _ _ ha hb => ru_ ZaQ (ha .ex) (hb .ex)) (fun ox0 => ZoX x0 ox0 r h)
def Z55 (x0 : List Z8) : Option Bool :=
 (Z6g x0).bind fun r1 =>
 some (decide (0 ≤ r1))
theorem Zd8 (x0 : List Z8) ox0 : Sim ZP (Z55 x0) (EE 96 [(ZO ox0 (x0.map Zp)), (.clo 97 [] [])] []) := by
 unfold Z55
 refine zf (ZHV ..)<|ze<|ze<|zi fun r1 hr1 => ?_
 obtain ⟨_, er1, _, rfl⟩ := Zf2 x0 .sh r1 hr1
 refine zc [] (iv r1) [] er1<|zq ?_
 exact zr ((bv (decide (0 ≤ r1))), []) ⟨_, rfl⟩
theorem Zdy x0 {r} (h : Z55 x0 = some r) : Z5a x0 = some r :=
 Z1h (fun _ _ ha hb => ru_ Z2p (ha .ex) (hb .ex)) (fun ox0 => Zd8 x0 ox0 r h)
def Z69 (x0 : List Z8) : Option Int :=
 Z45 x0 (x0.length : Int) 0
theorem Zer (x0 : List Z8) ox0 : Sim ZJ (Z69 x0) (EE 104 [(ZO ox0 (x0.map Zp)), (.clo 97 [] [])] []) := by
 unfold Z69
 refine zf (ZFa ..)<|ze<|ze<|zp (iv (x0.length : Int)) (et_ (Z3d (P := PP) (t := 27) (d := 47) (by kernel_rfl) Zp (shrO ox0) x0)) ?_
 exact zk (Z93 x0 (x0.length : Int) 0 ox0)
theorem Zf1 x0 {r} (h : Z69 x0 = some r) : Z6g x0 = some r :=
 Z1h (fun _ _ ha hb => ru_ Z1J (ha .ex) (hb .ex)) (fun ox0 => Zer x0 ox0 r h)
def Z58 (x0 : List Z8) (x7 x8 : Int) : Option Int :=
 Z45 x0 x7 (IntKind.i64.wrap (x8 + 1))
theorem Zdf (x0 : List Z8) x7 x8 ox0 : Sim ZJ (Z58 x0 x7 x8) (ZrC 0 (ZO ox0 (x0.map Zp)) (.clo 97 [] []) (iv x7) (iv x8) []) := by
 unfold Z58
 refine zf (ZxU ..)<|ze<|zq ?_
 exact zk (Z93 x0 x7 (IntKind.i64.wrap (x8 + 1)) ox0)
def Z57 (x0 : List Z8) (x7 x8 : Int) : Option Int :=
 (lget x0 x8).bind fun a1 =>
 (Zd6 a1).bind fun r2 =>
 if r2 = true then
 (some x8)
 else
 (Z58 x0 x7 x8)
theorem Zde (x0 : List Z8) x7 x8 ox0 : Sim ZJ (Z57 x0 x7 x8) (ZrB 0 (ZO ox0 (x0.map Zp)) (.clo 97 [] []) (iv x7) (iv x8) []) := by
 unfold Z57
 refine zf (ZxT ..)<|ze<|ze<|zi fun a1 ha1 => zp (.cptr (ZN a1)) (et_ (Z2D (o := (shrO ox0)) (k := .i64) (n := 2) (e := Zp) (cs := Z6a) (fun _ => rfl) (fun _ => rfl) (by decide) ha1))<|zq<|zi fun r2 hr2 => ?_
 obtain ⟨_, er2, _, rfl⟩ := Zoj a1 r2 hr2
 refine zv [] (bv r2) [] er2 ?_
 refine za r2 ?_ ?_
 ·refine ze ?_
  exact zr ((iv x8), []) ⟨_, rfl⟩
 ·exact zk (Zdf x0 x7 x8 ox0)
def Z7a : Option Int :=
 some (-1)
theorem Zdg : Sim ZJ Z7a (ZrD 0 []) := by
 unfold Z7a
 refine zf (ZxV ..)<|ze ?_
 exact zr ((iv (-1)), []) ⟨_, rfl⟩
def Z43 (x0 : List Z8) (x7 x8 : Int) : Option Int :=
 if (decide (x8 < x7)) = true then
 (Z57 x0 x7 x8)
 else
 Z7a
theorem Zdd (x0 : List Z8) x7 x8 ox0 : Sim ZJ (Z43 x0 x7 x8) (Zkp 0 (ZO ox0 (x0.map Zp)) (.clo 97 [] []) (iv x7) (iv x8) []) := by
 unfold Z43
 refine zf (ZxS ..)<|ze<|zq ?_
 refine za (decide (x8 < x7)) ?_ ?_
 ·exact zk (Zde x0 x7 x8 ox0)
 ·exact zk Zdg
theorem Z92 x0 x7 x8 {r} (h : Z43 x0 x7 x8 = some r) : Z45 x0 x7 x8 = some r :=
 Z1h (fun _ _ ha hb => ru_ Z1J (ha .ex) (hb .ex)) (fun ox0 => Zdd x0 x7 x8 ox0 r h)
def ZcW (x0 : Z8) : Option Bool :=
 (Z7V x0).bind fun r1 =>
 some (!r1)
theorem ZmZ x0 : Sim ZP (ZcW x0) (EE 97 [(pA_ (ZN x0))] []) := by
 unfold ZcW
 refine zf (ZHW ..)<|ze<|zx (.ptr 0 0) [(Z2h x0)]<|ze<|zq<|zi fun r1 hr1 => ?_
 obtain ⟨_, er1, _, rfl⟩ := ZdO x0 r1 hr1
 refine zc [] (bv r1) [(Z2h x0)] er1<|zq ?_
 exact zr ((bv (!r1)), [(Z2h x0)]) ⟨_, rfl⟩
theorem Zoi x0 {r} (h : ZcW x0 = some r) : Zd6 x0 = some r :=
 Z1h (fun _ _ ha hb => ru_ Z2p ha hb) (ZmZ x0 r h)
def Z9G (x0 : Z8) : Option Bool :=
 if (decide (0 ≤ x0.Lo)) = true then
 (if (decide (x0.Lo ≤ x0.Hi)) = true then
 (some (decide (x0.Hi ≤ 1114367)))
 else
 (some false))
 else
 (some false)
theorem Zjp x0 : Sim ZP (Z9G x0) (EE 22 [(pA_ (ZN x0))] []) := by
 unfold Z9G
 refine zf (ZGp ..)<|ze<|zx (.ptr 0 0) [(Z2h x0)]<|ze<|zq<|zq<|zq ?_
 refine za (decide (0 ≤ x0.Lo)) ?_ ?_
 ·refine zq<|zq<|zq<|zq<|zq ?_
  refine za (decide (x0.Lo ≤ x0.Hi)) ?_ ?_
  ·refine zq<|zq<|zq ?_
   exact zr ((bv (decide (x0.Hi ≤ 1114367))), [(Z2h x0)]) ⟨_, rfl⟩
  ·exact zr ((bv false), [(Z2h x0)]) ⟨_, rfl⟩
 ·exact zr ((bv false), [(Z2h x0)]) ⟨_, rfl⟩
theorem ZjX x0 {r} (h : Z9G x0 = some r) : Z7V x0 = some r :=
 Z1h (fun _ _ ha hb => ru_ Z2p ha hb) (Zjp x0 r h)
def Zaa (x0 : List Z8) : Option ((List Z8) × Int) :=
 (Zc8 x0).bind fun r1 =>
 some (r1, 0)
theorem ZjZ (x0 : List Z8) ox0 : Sim Z2R (Zaa x0) (ZtT 0 (ZO ox0 (x0.map Zp)) []) := by
 unfold Zaa
 refine zf (ZAu ..)<|ze<|zi fun r1 hr1 => ?_
 obtain ⟨_, er1, _, rfl⟩ := Zn4 x0 .sh r1 hr1
 refine zc [] (ZO .sh (r1.map Zp)) [] er1 ?_
 exact zr ((.p (.tup [(.lst .sh (r1.map Zp)), (.v (.int .i64 0))])), []) ⟨_, rfl⟩
def Zc0 (x0 : List Z8) : Option ((List Z8) × Int) :=
 (Z5T x0).bind fun r1 =>
 if (!r1) = true then
 (some (([] : List Z8), 10))
 else
 (Zaa x0)
theorem Zmi (x0 : List Z8) ox0 : Sim Z2R (Zc0 x0) (EE 17 [(ZO ox0 (x0.map Zp))] []) := by
 unfold Zc0
 refine zf (ZGe ..)<|ze<|ze<|zi fun r1 hr1 => ?_
 obtain ⟨_, er1, _, rfl⟩ := Z8K x0 .sh r1 hr1
 refine zc [] (bv r1) [] er1<|zq ?_
 refine za (!r1) ?_ ?_
 ·refine ze ?_
  exact zr ((.p (.tup [(.lst .sh []), (.v (.int .i64 10))])), []) ⟨_, rfl⟩
 ·exact zk (ZjZ x0 ox0)
theorem Zn1 x0 {r} (h : Zc0 x0 = some r) : Zai x0 = some r :=
 Z1h (fun _ _ ha hb => ru_ ZaQ (ha .ex) (hb .ex)) (fun ox0 => Zmi x0 ox0 r h)
def Za9 (x0 : List Z8) : Option Bool :=
 Z6V (-2) x0 (x0.length : Int) 0
theorem ZjY (x0 : List Z8) ox0 : Sim ZP (Za9 x0) (EE 12 [(ZO ox0 (x0.map Zp))] []) := by
 unfold Za9
 refine zf (ZG2 ..)<|ze<|ze<|ze<|zp (iv (x0.length : Int)) (et_ (Z3d (P := PP) (t := 28) (d := 47) (by kernel_rfl) Zp (shrO ox0) x0)) ?_
 exact zk (Zcq (-2) x0 (x0.length : Int) 0 (shrO ox0))
theorem ZkJ x0 {r} (h : Za9 x0 = some r) : Z5T x0 = some r :=
 Z1h (fun _ _ ha hb => ru_ Z2p (ha .ex) (hb .ex)) (fun ox0 => ZjY x0 ox0 r h)
def Z8C : Option Bool :=
 some false
theorem Zc7 : Sim ZP Z8C (ZpO 0 []) := by
 unfold Z8C
 refine zf (ZA7 ..)<|ze ?_
 exact zr ((bv false), []) ⟨_, rfl⟩
def Z8E (x3 : Int) (x6 : List Z8) (x7 x8 : Int) : Option Bool :=
 Z6V x3 x6 x7 (IntKind.i64.wrap (x8 + 1))
theorem Zi2 x3 (x6 : List Z8) x7 x8 ox6 : Sim ZP (Z8E x3 x6 x7 x8) (Ztz 0 (iv x3) (ZO ox6 (x6.map Zp)) (iv x7) (iv x8) []) := by
 unfold Z8E
 refine zf (ZA9 ..)<|ze<|zq ?_
 exact zk (Zcq x3 x6 x7 (IntKind.i64.wrap (x8 + 1)) ox6)
def Z8D (x6 : List Z8) (x7 x8 : Int) (b0 : Z8) : Option Bool :=
 Z8E b0.Hi x6 x7 x8
theorem Zi1 (x6 : List Z8) x7 x8 b0 ox6 : Sim ZP (Z8D x6 x7 x8 b0) (Zty 0 (.ptr 0 0) (ZO ox6 (x6.map Zp)) (iv x7) (iv x8) [(Z2h b0)]) := by
 unfold Z8D
 refine zf (ZA8 ..)<|ze<|zq<|zq ?_
 exact zk (Zi2 b0.Hi x6 x7 x8 ox6)
def Z8B (x3 : Int) (x6 : List Z8) (x7 x8 : Int) : Option Bool :=
 (lget x6 x8).bind fun a1 =>
 (Z7V a1).bind fun r2 =>
 if (!r2) = true then
 Z8C
 else
 (if (decide (a1.Lo < (IntKind.i64.wrap (x3 + 2)))) = true then
 Z8C
 else
 (Z8D x6 x7 x8 a1))
theorem Zi0 x3 (x6 : List Z8) x7 x8 ox6 : Sim ZP (Z8B x3 x6 x7 x8) (Ztx 0 (iv x3) (ZO ox6 (x6.map Zp)) (iv x7) (iv x8) []) := by
 unfold Z8B
 refine zf (ZA6 ..)<|ze<|zi fun a1 ha1 => zp (.cptr (ZN a1)) (et_ (Z2D (o := ox6) (k := .i64) (n := 2) (e := Zp) (cs := Z6a) (fun _ => rfl) (fun _ => rfl) (by decide) ha1))<|zq<|zz (.ptr 0 0) [(Z2h Zzx)]<|zt [(Z2h a1)]<|ze<|zq<|zi fun r2 hr2 => ?_
 obtain ⟨_, er2, _, rfl⟩ := ZdO a1 r2 hr2
 refine zc [] (bv r2) [(Z2h a1)] er2<|zq ?_
 refine za (!r2) ?_ ?_
 ·exact zk Zc7
 ·refine zq<|zq<|zq<|zq ?_
  refine za (decide (a1.Lo < (IntKind.i64.wrap (x3 + 2)))) ?_ ?_
  ·exact zk Zc7
  ·exact zk (Zi1 x6 x7 x8 a1 ox6)
def ZaS : Option Bool :=
 some true
theorem Zi3 : Sim ZP ZaS (ZtA 0 []) := by
 unfold ZaS
 refine zf (ZAa ..)<|ze ?_
 exact zr ((bv true), []) ⟨_, rfl⟩
def Z6N (x3 : Int) (x6 : List Z8) (x7 x8 : Int) : Option Bool :=
 if (decide (x8 < x7)) = true then
 (Z8B x3 x6 x7 x8)
 else
 ZaS
theorem ZhZ x3 (x6 : List Z8) x7 x8 ox6 : Sim ZP (Z6N x3 x6 x7 x8) (ZmA 0 (iv x3) (ZO ox6 (x6.map Zp)) (iv x7) (iv x8) []) := by
 unfold Z6N
 refine zf (ZA5 ..)<|ze<|zq ?_
 refine za (decide (x8 < x7)) ?_ ?_
 ·exact zk (Zi0 x3 x6 x7 x8 ox6)
 ·exact zk Zi3
theorem Zcp x3 x6 x7 x8 {r} (h : Z6N x3 x6 x7 x8 = some r) : Z6V x3 x6 x7 x8 = some r :=
 Z1h (fun _ _ ha hb => ru_ Z2p (ha .ex) (hb .ex)) (fun ox6 => ZhZ x3 x6 x7 x8 ox6 r h)
def Zc1 (x0 : List Z8) : Option (List Z8) :=
 Z8q ([] : List Z8) 0 x0 (x0.length : Int) 0
theorem Zmj (x0 : List Z8) ox0 : Sim Z3P (Zc1 x0) (EE 26 [(ZO ox0 (x0.map Zp))] []) := by
 unfold Zc1
 refine zf (ZGr ..)<|ze<|ze<|ze<|ze<|zp (iv (x0.length : Int)) (et_ (Z3d (P := PP) (t := 28) (d := 47) (by kernel_rfl) Zp (shrO ox0) x0)) ?_
 exact zk (ZeH ([] : List Z8) 0 x0 (x0.length : Int) 0 .nl (shrO ox0) rfl)
theorem Zn3 x0 {r} (h : Zc1 x0 = some r) : Zc8 x0 = some r :=
 Z1h (fun _ _ ha hb => ru_ Zbk (ha .ex) (hb .ex)) (fun ox0 => Zmj x0 ox0 r h)
def Zac (x3 : List Z8) (x4 : Int) (x7 : List Z8) (x8 x9 : Int) : Option (List Z8) :=
 Z8q x3 x4 x7 x8 (IntKind.i64.wrap (x9 + 1))
theorem Zk2 (x3 : List Z8) x4 (x7 : List Z8) x8 x9 ox3 ox7 (hox3 : ZL ox3 = true) : Sim Z3P (Zac x3 x4 x7 x8 x9) (Zu5 0 (ZO ox3 (x3.map Zp)) (iv x4) (ZO ox7 (x7.map Zp)) (iv x8) (iv x9) []) := by
 unfold Zac
 refine zf (ZAF ..)<|ze<|zq ?_
 exact zk (ZeH x3 x4 x7 x8 (IntKind.i64.wrap (x9 + 1)) ox3 ox7 hox3)
def Z6O (x3 x7 : List Z8) (x8 x9 : Int) (b0 : Z8) : Option (List Z8) :=
 Zac x3 (IntKind.i64.wrap (b0.Hi + 1)) x7 x8 x9
theorem ZdR (x3 x7 : List Z8) x8 x9 b0 ox3 ox7 (hox3 : ZL ox3 = true) : Sim Z3P (Z6O x3 x7 x8 x9 b0) (Zq3 0 (ZO ox3 (x3.map Zp)) (.ptr 0 0) (ZO ox7 (x7.map Zp)) (iv x8) (iv x9) [(Z2h b0)]) := by
 unfold Z6O
 refine zf (ZAE ..)<|ze<|zq<|zq<|zq ?_
 exact zk (Zk2 x3 (IntKind.i64.wrap (b0.Hi + 1)) x7 x8 x9 ox3 ox7 hox3)
def Zab (x3 : List Z8) (x4 : Int) (x7 : List Z8) (x8 x9 : Int) : Option (List Z8) :=
 (lget x7 x9).bind fun a1 =>
 if (decide (x4 < a1.Lo)) = true then
 ((lapp x3 ([(Z8.mk x4 (IntKind.i64.wrap (a1.Lo - 1)))] : List Z8)).bind fun a2 =>
 Z6O a2 x7 x8 x9 a1)
 else
 (Z6O x3 x7 x8 x9 a1)
theorem Zk1 (x3 : List Z8) x4 (x7 : List Z8) x8 x9 ox3 ox7 (hox3 : ZL ox3 = true) : Sim Z3P (Zab x3 x4 x7 x8 x9) (Zu4 0 (ZO ox3 (x3.map Zp)) (iv x4) (ZO ox7 (x7.map Zp)) (iv x8) (iv x9) []) := by
 unfold Zab
 refine zf (ZAD ..)<|ze<|zi fun a1 ha1 => zp (.cptr (ZN a1)) (et_ (Z2D (o := ox7) (k := .i64) (n := 2) (e := Zp) (cs := Z6a) (fun _ => rfl) (fun _ => rfl) (by decide) ha1))<|zq<|zz (.ptr 0 0) [(Z2h Zzx)]<|zt [(Z2h a1)]<|ze<|zq<|zq<|zq ?_
 refine za (decide (x4 < a1.Lo)) ?_ ?_
 ·refine ze<|zq<|zq<|zq<|zq<|zq<|zi fun a2 ha2 => zp (ZO .un (a2.map Zp)) (Eq.trans (by kernel_rfl) <| ZeU (n := 2) (o := ox3) (o' := .ex) (e := Zp) (ys := ([(Z8.mk x4 (IntKind.i64.wrap (a1.Lo - 1)))] : List Z8)) (fun _ => rfl) (by decide) hox3 ha2) ?_
  exact zk (ZdR a2 x7 x8 x9 a1 .un ox7 rfl)
 ·exact zk (ZdR x3 x7 x8 x9 a1 ox3 ox7 hox3)
def Z6w (x3 : List Z8) : Option (List Z8) :=
 some x3
theorem Zdp (x3 : List Z8) ox3 (hox3 : ZL ox3 = true) : Sim Z3P (Z6w x3) (ZnW 0 (ZO ox3 (x3.map Zp)) []) := by
 unfold Z6w
 refine zf (Zy3 ..)<|ze ?_
 exact zr ((ZO .sh (x3.map Zp)), []) ⟨_, rfl⟩
def Z9K (x3 : List Z8) (x4 : Int) : Option (List Z8) :=
 if (decide (x4 ≤ 1114367)) = true then
 ((lapp x3 ([(Z8.mk x4 1114367)] : List Z8)).bind fun a1 =>
 Z6w a1)
 else
 (Z6w x3)
theorem Zju (x3 : List Z8) x4 ox3 (hox3 : ZL ox3 = true) : Sim Z3P (Z9K x3 x4) (ZrJ 0 (ZO ox3 (x3.map Zp)) (iv x4) []) := by
 unfold Z9K
 refine zf (Zy2 ..)<|ze<|zq ?_
 refine za (decide (x4 ≤ 1114367)) ?_ ?_
 ·refine ze<|zq<|zq<|zi fun a1 ha1 => zp (ZO .un (a1.map Zp)) (Eq.trans (by kernel_rfl) <| ZeU (n := 2) (o := ox3) (o' := .ex) (e := Zp) (ys := ([(Z8.mk x4 1114367)] : List Z8)) (fun _ => rfl) (by decide) hox3 ha1) ?_
  exact zk (Zdp a1 .un rfl)
 ·exact zk (Zdp x3 ox3 hox3)
def Z8l (x3 : List Z8) (x4 : Int) (x7 : List Z8) (x8 x9 : Int) : Option (List Z8) :=
 if (decide (x9 < x8)) = true then
 (Zab x3 x4 x7 x8 x9)
 else
 (Z9K x3 x4)
theorem Zk0 (x3 : List Z8) x4 (x7 : List Z8) x8 x9 ox3 ox7 (hox3 : ZL ox3 = true) : Sim Z3P (Z8l x3 x4 x7 x8 x9) (ZmG 0 (ZO ox3 (x3.map Zp)) (iv x4) (ZO ox7 (x7.map Zp)) (iv x8) (iv x9) []) := by
 unfold Z8l
 refine zf (ZAC ..)<|ze<|zq ?_
 refine za (decide (x9 < x8)) ?_ ?_
 ·exact zk (Zk1 x3 x4 x7 x8 x9 ox3 ox7 hox3)
 ·exact zk (Zju x3 x4 ox3 hox3)
theorem ZeG x3 x4 x7 x8 x9 {r} (h : Z8l x3 x4 x7 x8 x9 = some r) : Z8q x3 x4 x7 x8 x9 = some r :=
 Z1h (fun _ _ ha hb => ru_ Zbk (ha .ex .ex rfl) (hb .ex .ex rfl)) (fun ox3 ox7 hox3 => Zk0 x3 x4 x7 x8 x9 ox3 ox7 hox3 r h)
def Z5m (x1 x5 zm : Int) (zj : List Zz) (z2 z6 : Int) : Option (Z9 × Int × (List Zz) × Int × Int) :=
 (lapp zj ([(Zz.mk (IntKind.i64.wrap (x5 - 48)) x1)] : List Zz)).bind fun a1 =>
 some ((Z9.mk 6 0 0 0 (IntKind.i64.wrap (x5 - 48)) ([] : List Z8) ([] : List Z9)), zm, a1, z2, z6)
theorem ZfH x1 x5 zl zm z7 zh zj z2 z6 b1 zn zd zG zD (zu : ZL zd = true) (z15 : ZL zG = true) (zV : ZL zD = true) : Sim (Z4s zl z7 zh zn) (Z5m x1 x5 zm zj z2 z6) (ZrT 1 (.ptr 0 0) (iv x1) (.ptr 1 0) (iv x5) [(ZK zl zm z7 zh zj z2 z6 zn zd), (Zk b1 zG zD)]) := by
 unfold Z5m
 refine zf (Zyx ..)<|ze<|zq<|zq<|zw (ZO zd (zj.map Z2W)) [(ZK zl zm z7 zh zj z2 z6 zn (shrO zd)), (Zk b1 zG zD)]<|zq<|zq<|zq<|zi fun a1 ha1 => zp (ZO .un (a1.map Z2W)) (Eq.trans (by kernel_rfl) <| ZeU (n := 2) (o := zd) (o' := .ex) (e := Z2W) (ys := ([(Zz.mk (IntKind.i64.wrap (x5 - 48)) x1)] : List Zz)) (fun _ => rfl) (by decide) zu ha1)<|zq<|zq<|zt [(ZK zl zm z7 zh a1 z2 z6 zn .un), (Zk b1 zG zD)]<|ze<|zq<|zq<|zt [(ZK zl zm z7 zh a1 z2 z6 zn .un), (Z2Q 6 0 0 0 (IntKind.i64.wrap (x5 - 48)) ([] : List Z8) ([] : List Z9) .nl .nl)] ?_
 exact zr ((pA_ (ZH (Z9.mk 6 0 0 0 (IntKind.i64.wrap (x5 - 48)) ([] : List Z8) ([] : List Z9)) .sh .sh)), [(ZK zl zm z7 zh a1 z2 z6 zn .un), (Z2Q 6 0 0 0 (IntKind.i64.wrap (x5 - 48)) ([] : List Z8) ([] : List Z9) .nl .nl)]) ⟨.un, _, rfl, rfl⟩
def Z3p (x1 x5 : Int) (zl : List Int) (zm z7 zh : Int) (zj : List Zz) (z2 z6 : Int) : Option (Z9 × Int × (List Zz) × Int × Int) :=
 (Z7w x5 x1 zl zm z7 zh zj z2 z6).bind fun r1 =>
 (Z2v r1.1).bind fun r2 =>
 (Z41 false ([r2] : List Z8)).bind fun r3 =>
 some (r3, r1.2.1, zj, r1.2.2.1, r1.2.2.2)
theorem ZaA x1 x5 zl zm z7 zh zj z2 z6 b1 zn zd zG zD (zu : ZL zd = true) (z15 : ZL zG = true) (zV : ZL zD = true) : Sim (Z4s zl z7 zh zn) (Z3p x1 x5 zl zm z7 zh zj z2 z6) (Zo3 1 (.ptr 0 0) (iv x1) (.ptr 1 0) (iv x5) [(ZK zl zm z7 zh zj z2 z6 zn zd), (Zk b1 zG zD)]) := by
 unfold Z3p
 refine zf (Zyy ..)<|ze<|zi fun r1 hr1 => ?_
 obtain ⟨_, er1, _, rfl⟩ := Zdr x5 x1 zl zm z7 zh zj z2 z6 zn zd zu r1 hr1
 refine zc [0] (iv r1.1) [(ZK zl r1.2.1 z7 zh zj r1.2.2.1 r1.2.2.2 zn zd), (Zk b1 zG zD)] er1<|zi fun r2 hr2 => ?_
 obtain ⟨_, er2, _, rfl⟩ := Z2k r1.1 r2 hr2
 refine zc [] (pA_ (ZN r2)) [(ZK zl r1.2.1 z7 zh zj r1.2.2.1 r1.2.2.2 zn zd), (Zk b1 zG zD)] er2<|zq<|zi fun r3 hr3 => ?_
 obtain ⟨_, er3, _, rfl⟩ := Z4a false ([r2] : List Z8) .sh r3 hr3
 refine zc [] (pA_ (ZH r3 .sh .sh)) [(ZK zl r1.2.1 z7 zh zj r1.2.2.1 r1.2.2.2 zn zd), (Zk b1 zG zD)] er3<|zt [(ZK zl r1.2.1 z7 zh zj r1.2.2.1 r1.2.2.2 zn zd), (Zk r3 .sh .sh)] ?_
 exact zr ((pA_ (ZH r3 .sh .sh)), [(ZK zl r1.2.1 z7 zh zj r1.2.2.1 r1.2.2.2 zn zd), (Zk r3 .sh .sh)]) ⟨zd, _, zu, rfl⟩
def Z3y (x1 x5 : Int) (zl : List Int) (zm z7 zh : Int) (zj : List Zz) (z2 z6 : Int) : Option (Z9 × Int × (List Zz) × Int × Int) :=
 (Z3n zl zm).bind fun r1 =>
 (Z7G x5).bind fun r2 =>
 (nilO r2.1 r2.2).bind fun a3 =>
 if (!a3) = true then
 ((Z7G x5).bind fun r4 =>
 (Z41 (decide (x5 < 97)) r4.2).bind fun r5 =>
 some (r5, r1.2, zj, z2, z6))
 else
 (if (x5 == 98) = true then
 (some ((Z9.mk 9 0 0 0 2 ([] : List Z8) ([] : List Z9)), r1.2, zj, z2, z6))
 else
 (if (x5 == 66) = true then
 (some ((Z9.mk 9 0 0 0 3 ([] : List Z8) ([] : List Z9)), r1.2, zj, z2, z6))
 else
 (if (decide (49 ≤ x5)) = true then
 (if (decide (x5 ≤ 57)) = true then
 (Z5m x1 x5 r1.2 zj z2 z6)
 else
 (Z3p x1 x5 zl r1.2 z7 zh zj z2 z6))
 else
 (Z3p x1 x5 zl r1.2 z7 zh zj z2 z6))))
theorem Zg3 x1 x5 zl zm z7 zh zj z2 z6 b1 zn zd zG zD (zu : ZL zd = true) (z15 : ZL zG = true) (zV : ZL zD = true) : Sim (Z4s zl z7 zh zn) (Z3y x1 x5 zl zm z7 zh zj z2 z6) (ZuV 1 (.ptr 0 0) (iv x1) (.ptr 1 0) (iv x5) [(ZK zl zm z7 zh zj z2 z6 zn zd), (Zk b1 zG zD)]) := by
 unfold Z3y
 refine zf (ZBA ..)<|ze<|zi fun r1 hr1 => ?_
 obtain ⟨_, er1, _, rfl⟩ := Z3N zl zm z7 zh zj z2 z6 zn zd zu r1 hr1
 refine zc [0] (iv r1.1) [(ZK zl r1.2 z7 zh zj z2 z6 zn zd), (Zk b1 zG zD)] er1<|ze<|zi fun r2 hr2 => ?_
 obtain ⟨_, er2, _, rfl⟩ := Zbw x5 r2 hr2
 refine zc [] (ZO r2.1 (r2.2.map Zp)) [(ZK zl r1.2 z7 zh zj z2 z6 zn zd), (Zk b1 zG zD)] er2<|zi fun a3 ha3 => zp (bv (!a3)) (et_ (Zmc (P := PP) (t := 27) (c := .slice none 0 0) (e := Zp) (by kernel_rfl) ha3)) ?_
 refine za (!a3) ?_ ?_
 ·refine ze<|zq<|zi fun r4 hr4 => ?_
  obtain ⟨_, er4, _, rfl⟩ := Zbw x5 r4 hr4
  refine zc [] (ZO r4.1 (r4.2.map Zp)) [(ZK zl r1.2 z7 zh zj z2 z6 zn zd), (Zk b1 zG zD)] er4<|zi fun r5 hr5 => ?_
  obtain ⟨_, er5, _, rfl⟩ := Z4a (decide (x5 < 97)) r4.2 .sh r5 hr5
  refine zc [] (pA_ (ZH r5 .sh .sh)) [(ZK zl r1.2 z7 zh zj z2 z6 zn zd), (Zk b1 zG zD)] er5<|zt [(ZK zl r1.2 z7 zh zj z2 z6 zn zd), (Zk r5 .sh .sh)] ?_
  exact zr ((pA_ (ZH r5 .sh .sh)), [(ZK zl r1.2 z7 zh zj z2 z6 zn zd), (Zk r5 .sh .sh)]) ⟨zd, _, zu, rfl⟩
 ·refine ze<|zq ?_
  refine za (x5 == 98) ?_ ?_
  ·refine ze<|zq<|zt [(ZK zl r1.2 z7 zh zj z2 z6 zn zd), (Z2Q 9 0 0 0 2 ([] : List Z8) ([] : List Z9) .nl .nl)] ?_
   exact zr ((pA_ (ZH (Z9.mk 9 0 0 0 2 ([] : List Z8) ([] : List Z9)) .sh .sh)), [(ZK zl r1.2 z7 zh zj z2 z6 zn zd), (Z2Q 9 0 0 0 2 ([] : List Z8) ([] : List Z9) .nl .nl)]) ⟨zd, _, zu, rfl⟩
  ·refine ze<|zq ?_
   refine za (x5 == 66) ?_ ?_
   ·refine ze<|zq<|zt [(ZK zl r1.2 z7 zh zj z2 z6 zn zd), (Z2Q 9 0 0 0 3 ([] : List Z8) ([] : List Z9) .nl .nl)] ?_
    exact zr ((pA_ (ZH (Z9.mk 9 0 0 0 3 ([] : List Z8) ([] : List Z9)) .sh .sh)), [(ZK zl r1.2 z7 zh zj z2 z6 zn zd), (Z2Q 9 0 0 0 3 ([] : List Z8) ([] : List Z9) .nl .nl)]) ⟨zd, _, zu, rfl⟩
   ·refine ze<|zq ?_
    refine za (decide (49 ≤ x5)) ?_ ?_
    ·refine zq ?_
     refine za (decide (x5 ≤ 57)) ?_ ?_
     ·exact zk (ZfH x1 x5 zl r1.2 z7 zh zj z2 z6 b1 zn zd zG zD zu z15 zV)
     ·exact zk (ZaA x1 x5 zl r1.2 z7 zh zj z2 z6 b1 zn zd zG zD zu z15 zV)
    ·exact zk (ZaA x1 x5 zl r1.2 z7 zh zj z2 z6 b1 zn zd zG zD zu z15 zV)
def Z5y (x1 : Int) (zl : List Int) (zm z7 zh : Int) (zj : List Zz) (z2 z6 : Int) : Option (Z9 × Int × (List Zz) × Int × Int) :=
 (Z2G (Z1y.mk zl zm z7 zh zj (Z12.mk z2 z6))).bind fun r1 =>
 if (decide (r1 < 0)) = true then
 ((Z1c 21 x1 zl z2 z6).bind fun r2 =>
 some ((Z9.mk 0 0 0 0 0 ([] : List Z8) ([] : List Z9)), r2.1, zj, r2.2.1, r2.2.2))
 else
 (Z3y x1 r1 zl zm z7 zh zj z2 z6)
theorem Zif x1 zl zm z7 zh zj z2 z6 zn zd (zu : ZL zd = true) : Sim (Z4s zl z7 zh zn) (Z5y x1 zl zm z7 zh zj z2 z6) (EE 66 [(.ptr 0 0), (iv x1)] [(ZK zl zm z7 zh zj z2 z6 zn zd)]) := by
 unfold Z5y
 refine zf (ZHo ..)<|ze<|zz (.ptr 1 0) [(ZK zl zm z7 zh zj z2 z6 zn zd), (Zk Z1A .nl .nl)]<|ze<|zi fun r1 hr1 => ?_
 obtain ⟨_, er1, _, rfl⟩ := Z2S (Z1y.mk zl zm z7 zh zj (Z12.mk z2 z6)) zn zd zu r1 hr1
 refine zc [0] (iv r1) [(ZK zl zm z7 zh zj z2 z6 zn zd), (Zk Z1A .nl .nl)] er1<|ze<|zq ?_
 refine za (decide (r1 < 0)) ?_ ?_
 ·refine ze<|zi fun r2 hr2 => ?_
  obtain ⟨_, er2, _, rfl⟩ := Z1g 21 x1 zl zm z7 zh zj z2 z6 zn zd zu r2 hr2
  refine zc [0] (.p (.tup [])) [(ZK zl r2.1 z7 zh zj r2.2.1 r2.2.2 zn zd), (Zk Z1A .nl .nl)] er2<|ze<|zq<|zt [(ZK zl r2.1 z7 zh zj r2.2.1 r2.2.2 zn zd), (Zk Z1A .nl .nl)] ?_
  exact zr ((pA_ (ZH Z1A .sh .sh)), [(ZK zl r2.1 z7 zh zj r2.2.1 r2.2.2 zn zd), (Zk Z1A .nl .nl)]) ⟨zd, _, zu, rfl⟩
 ·exact zk (Zg3 x1 r1 zl zm z7 zh zj z2 z6 Z1A zn zd .nl .nl zu rfl rfl)
theorem Zj0 x1 zl zm z7 zh zj z2 z6 {r} (h : Z5y x1 zl zm z7 zh zj z2 z6 = some r) : Z4C x1 zl zm z7 zh zj z2 z6 = some r :=
 Z1h (fun _ _ ha hb => ru_ (Zjm _ _ _ _) (ha .ex .ex rfl) (hb .ex .ex rfl)) (fun zn zd zu => Zif x1 zl zm z7 zh zj z2 z6 zn zd zu r h)
def Z5b (zl : List Int) (z2 z6 : Int) : Option (Int × Int × Int) :=
 some ((zl.length : Int), z2, z6)
theorem ZbM zl zm z7 zh zj z2 z6 zn zd (zu : ZL zd = true) : Sim (Z7Q zl z7 zh zj zn zd) (Z5b zl z2 z6) (Zq0 1 (.ptr 0 0) [(ZK zl zm z7 zh zj z2 z6 zn zd)]) := by
 unfold Z5b
 refine zf (ZAB ..)<|ze<|zq<|zq<|zq<|zp (iv (zl.length : Int)) (et_ (Z3d (P := PP) (t := 54) (d := 5) (by kernel_rfl) (eI .u8) (shrO zn) zl))<|zq<|zq<|zt [(ZK zl (zl.length : Int) z7 zh zj z2 z6 zn zd)] ?_
 exact zr ((.p (.tup [])), [(ZK zl (zl.length : Int) z7 zh zj z2 z6 zn zd)]) ⟨_, rfl⟩
def Z7U (x1 x2 : Int) (zl : List Int) (z2 z6 : Int) : Option (Int × Int × Int) :=
 if (z2 == 0) = true then
 (Z5b zl x1 x2)
 else
 (Z5b zl z2 z6)
theorem Zjy x1 x2 zl zm z7 zh zj z2 z6 zn zd (zu : ZL zd = true) : Sim (Z7Q zl z7 zh zj zn zd) (Z7U x1 x2 zl z2 z6) (EE 21 [(.ptr 0 0), (iv x1), (iv x2)] [(ZK zl zm z7 zh zj z2 z6 zn zd)]) := by
 unfold Z7U
 refine zf (ZGn ..)<|ze<|zq<|zq<|zq<|zq<|zq ?_
 refine za (z2 == 0) ?_ ?_
 ·refine ze<|zq<|zq<|zq<|zt [(ZK zl zm z7 zh zj x1 x2 zn zd)] ?_
  exact zk (ZbM zl zm z7 zh zj x1 x2 zn zd zu)
 ·exact zk (ZbM zl zm z7 zh zj z2 z6 zn zd zu)
theorem ZdY x1 x2 zl z2 z6 {r} (h : Z7U x1 x2 zl z2 z6 = some r) : Z1c x1 x2 zl z2 z6 = some r :=
 Z1h (fun _ _ ha hb => ru_ (Zkj _ _ _ _ _ _) (ha default default default default .ex .ex rfl) (hb default default default default .ex .ex rfl)) (fun zm z7 zh zj zn zd zu => Zjy x1 x2 zl zm z7 zh zj z2 z6 zn zd zu r h)
def Z31 : Option (Own × (List Z8)) :=
 some (.nl, ([] : List Z8))
theorem Z3r : Sim Z7C Z31 (ZbR 0 []) := by
 unfold Z31
 refine zf (ZyO ..)<|ze ?_
 exact zr ((ZO .nl []), []) ⟨_, rfl⟩
def Z40 (x0 : Int) : Option (Own × (List Z8)) :=
 if (x0 == 100) = true then
 (if (x0 == 100) = true then
 (some (.ex, ([(Z8.mk 48 57)] : List Z8)))
 else
 (if (x0 == 119) = true then
 (if (x0 == 119) = true then
 ((Z2v 95).bind fun r1 =>
 some (.ex, ([(Z8.mk 48 57), (Z8.mk 65 90), r1, (Z8.mk 97 122)] : List Z8)))
 else
 (if (x0 == 115) = true then
 (if (x0 == 115) = true then
 ((Z2v 32).bind fun r2 =>
 some (.ex, ([(Z8.mk 9 13), r2] : List Z8)))
 else
 Z31)
 else
 (if (x0 == 83) = true then
 ((Z2v 32).bind fun r3 =>
 some (.ex, ([(Z8.mk 9 13), r3] : List Z8)))
 else
 Z31)))
 else
 (if (x0 == 87) = true then
 ((Z2v 95).bind fun r4 =>
 some (.ex, ([(Z8.mk 48 57), (Z8.mk 65 90), r4, (Z8.mk 97 122)] : List Z8)))
 else
 (if (x0 == 115) = true then
 (if (x0 == 115) = true then
 ((Z2v 32).bind fun r5 =>
 some (.ex, ([(Z8.mk 9 13), r5] : List Z8)))
 else
 Z31)
 else
 (if (x0 == 83) = true then
 ((Z2v 32).bind fun r6 =>
 some (.ex, ([(Z8.mk 9 13), r6] : List Z8)))
 else
 Z31)))))
 else
 (if (x0 == 68) = true then
 (some (.ex, ([(Z8.mk 48 57)] : List Z8)))
 else
 (if (x0 == 119) = true then
 (if (x0 == 119) = true then
 ((Z2v 95).bind fun r7 =>
 some (.ex, ([(Z8.mk 48 57), (Z8.mk 65 90), r7, (Z8.mk 97 122)] : List Z8)))
 else
 (if (x0 == 115) = true then
 (if (x0 == 115) = true then
 ((Z2v 32).bind fun r8 =>
 some (.ex, ([(Z8.mk 9 13), r8] : List Z8)))
 else
 Z31)
 else
 (if (x0 == 83) = true then
 ((Z2v 32).bind fun r9 =>
 some (.ex, ([(Z8.mk 9 13), r9] : List Z8)))
 else
 Z31)))
 else
 (if (x0 == 87) = true then
 ((Z2v 95).bind fun r10 =>
 some (.ex, ([(Z8.mk 48 57), (Z8.mk 65 90), r10, (Z8.mk 97 122)] : List Z8)))
 else
 (if (x0 == 115) = true then
 (if (x0 == 115) = true then
 ((Z2v 32).bind fun r11 =>
 some (.ex, ([(Z8.mk 9 13), r11] : List Z8)))
 else
 Z31)
 else
 (if (x0 == 83) = true then
 ((Z2v 32).bind fun r12 =>
 some (.ex, ([(Z8.mk 9 13), r12] : List Z8)))
 else
 Z31)))))
theorem ZkQ x0 : Sim Z7C (Z40 x0) (EE 78 [(iv x0)] []) := by
 unfold Z40
 refine zf (ZHH ..)<|ze<|ze<|ze<|zq ?_
 refine za (x0 == 100) ?_ ?_
 ·refine za (x0 == 100) ?_ ?_
  ·refine ze<|zq<|zq ?_
   exact zr ((ZO .ex (([(Z8.mk 48 57)] : List Z8).map Zp)), []) ⟨_, rfl⟩
  ·refine ze<|zq ?_
   refine za (x0 == 119) ?_ ?_
   ·refine za (x0 == 119) ?_ ?_
    ·refine ze<|zq<|zq<|zi fun r1 hr1 => ?_
     obtain ⟨_, er1, _, rfl⟩ := Z2k 95 r1 hr1
     refine zc [] (pA_ (ZN r1)) [] er1<|zq<|zq ?_
     exact zr ((ZO .ex (([(Z8.mk 48 57), (Z8.mk 65 90), r1, (Z8.mk 97 122)] : List Z8).map Zp)), []) ⟨_, rfl⟩
    ·refine ze<|zq ?_
     refine za (x0 == 115) ?_ ?_
     ·refine za (x0 == 115) ?_ ?_
      ·refine ze<|zq<|zi fun r2 hr2 => ?_
       obtain ⟨_, er2, _, rfl⟩ := Z2k 32 r2 hr2
       refine zc [] (pA_ (ZN r2)) [] er2<|zq ?_
       exact zr ((ZO .ex (([(Z8.mk 9 13), r2] : List Z8).map Zp)), []) ⟨_, rfl⟩
      ·exact zk Z3r
     ·refine ze<|zq ?_
      refine za (x0 == 83) ?_ ?_
      ·refine ze<|zq<|zi fun r3 hr3 => ?_
       obtain ⟨_, er3, _, rfl⟩ := Z2k 32 r3 hr3
       refine zc [] (pA_ (ZN r3)) [] er3<|zq ?_
       exact zr ((ZO .ex (([(Z8.mk 9 13), r3] : List Z8).map Zp)), []) ⟨_, rfl⟩
      ·exact zk Z3r
   ·refine ze<|zq ?_
    refine za (x0 == 87) ?_ ?_
    ·refine ze<|zq<|zq<|zi fun r4 hr4 => ?_
     obtain ⟨_, er4, _, rfl⟩ := Z2k 95 r4 hr4
     refine zc [] (pA_ (ZN r4)) [] er4<|zq<|zq ?_
     exact zr ((ZO .ex (([(Z8.mk 48 57), (Z8.mk 65 90), r4, (Z8.mk 97 122)] : List Z8).map Zp)), []) ⟨_, rfl⟩
    ·refine ze<|zq ?_
     refine za (x0 == 115) ?_ ?_
     ·refine za (x0 == 115) ?_ ?_
      ·refine ze<|zq<|zi fun r5 hr5 => ?_
       obtain ⟨_, er5, _, rfl⟩ := Z2k 32 r5 hr5
       refine zc [] (pA_ (ZN r5)) [] er5<|zq ?_
       exact zr ((ZO .ex (([(Z8.mk 9 13), r5] : List Z8).map Zp)), []) ⟨_, rfl⟩
      ·exact zk Z3r
     ·refine ze<|zq ?_
      refine za (x0 == 83) ?_ ?_
      ·refine ze<|zq<|zi fun r6 hr6 => ?_
       obtain ⟨_, er6, _, rfl⟩ := Z2k 32 r6 hr6
       refine zc [] (pA_ (ZN r6)) [] er6<|zq ?_
       exact zr ((ZO .ex (([(Z8.mk 9 13), r6] : List Z8).map Zp)), []) ⟨_, rfl⟩
      ·exact zk Z3r
 ·refine ze<|zq ?_
  refine za (x0 == 68) ?_ ?_
  ·refine ze<|zq<|zq ?_
   exact zr ((ZO .ex (([(Z8.mk 48 57)] : List Z8).map Zp)), []) ⟨_, rfl⟩
  ·refine ze<|zq ?_
   refine za (x0 == 119) ?_ ?_
   ·refine za (x0 == 119) ?_ ?_
    ·refine ze<|zq<|zq<|zi fun r7 hr7 => ?_
     obtain ⟨_, er7, _, rfl⟩ := Z2k 95 r7 hr7
     refine zc [] (pA_ (ZN r7)) [] er7<|zq<|zq ?_
     exact zr ((ZO .ex (([(Z8.mk 48 57), (Z8.mk 65 90), r7, (Z8.mk 97 122)] : List Z8).map Zp)), []) ⟨_, rfl⟩
    ·refine ze<|zq ?_
     refine za (x0 == 115) ?_ ?_
     ·refine za (x0 == 115) ?_ ?_
      ·refine ze<|zq<|zi fun r8 hr8 => ?_
       obtain ⟨_, er8, _, rfl⟩ := Z2k 32 r8 hr8
       refine zc [] (pA_ (ZN r8)) [] er8<|zq ?_
       exact zr ((ZO .ex (([(Z8.mk 9 13), r8] : List Z8).map Zp)), []) ⟨_, rfl⟩
      ·exact zk Z3r
     ·refine ze<|zq ?_
      refine za (x0 == 83) ?_ ?_
      ·refine ze<|zq<|zi fun r9 hr9 => ?_
       obtain ⟨_, er9, _, rfl⟩ := Z2k 32 r9 hr9
       refine zc [] (pA_ (ZN r9)) [] er9<|zq ?_
       exact zr ((ZO .ex (([(Z8.mk 9 13), r9] : List Z8).map Zp)), []) ⟨_, rfl⟩
      ·exact zk Z3r
   ·refine ze<|zq ?_
    refine za (x0 == 87) ?_ ?_
    ·refine ze<|zq<|zq<|zi fun r10 hr10 => ?_
     obtain ⟨_, er10, _, rfl⟩ := Z2k 95 r10 hr10
     refine zc [] (pA_ (ZN r10)) [] er10<|zq<|zq ?_
     exact zr ((ZO .ex (([(Z8.mk 48 57), (Z8.mk 65 90), r10, (Z8.mk 97 122)] : List Z8).map Zp)), []) ⟨_, rfl⟩
    ·refine ze<|zq ?_
     refine za (x0 == 115) ?_ ?_
     ·refine za (x0 == 115) ?_ ?_
      ·refine ze<|zq<|zi fun r11 hr11 => ?_
       obtain ⟨_, er11, _, rfl⟩ := Z2k 32 r11 hr11
       refine zc [] (pA_ (ZN r11)) [] er11<|zq ?_
       exact zr ((ZO .ex (([(Z8.mk 9 13), r11] : List Z8).map Zp)), []) ⟨_, rfl⟩
      ·exact zk Z3r
     ·refine ze<|zq ?_
      refine za (x0 == 83) ?_ ?_
      ·refine ze<|zq<|zi fun r12 hr12 => ?_
       obtain ⟨_, er12, _, rfl⟩ := Z2k 32 r12 hr12
       refine zc [] (pA_ (ZN r12)) [] er12<|zq ?_
       exact zr ((ZO .ex (([(Z8.mk 9 13), r12] : List Z8).map Zp)), []) ⟨_, rfl⟩
      ·exact zk Z3r
theorem Zlw x0 {r} (h : Z40 x0 = some r) : Z7G x0 = some r :=
 Z1h (fun _ _ ha hb => ru_ ZfN ha hb) (ZkQ x0 r h)
def Z39 (x2 : Int) (zl : List Int) (z2 z6 : Int) : Option (Int × Int × Int × Int) :=
 (Z1c 21 x2 zl z2 z6).bind fun r1 =>
 some (0, r1.1, r1.2.1, r1.2.2)
theorem Z4D x2 zl zm z7 zh zj z2 z6 zn zd (zu : ZL zd = true) : Sim (Z60 zl z7 zh zj zn zd) (Z39 x2 zl z2 z6) (ZfU 1 (.ptr 0 0) (iv x2) [(ZK zl zm z7 zh zj z2 z6 zn zd)]) := by
 unfold Z39
 refine zf (ZyQ ..)<|ze<|zi fun r1 hr1 => ?_
 obtain ⟨_, er1, _, rfl⟩ := Z1g 21 x2 zl zm z7 zh zj z2 z6 zn zd zu r1 hr1
 refine zc [0] (.p (.tup [])) [(ZK zl r1.1 z7 zh zj r1.2.1 r1.2.2 zn zd)] er1<|ze ?_
 exact zr ((iv 0), [(ZK zl r1.1 z7 zh zj r1.2.1 r1.2.2 zn zd)]) ⟨_, rfl⟩
def Z9r (x1 zm z2 z6 : Int) : Option (Int × Int × Int × Int) :=
 some (x1, zm, z2, z6)
theorem Zga x1 zl zm z7 zh zj z2 z6 zn zd (zu : ZL zd = true) : Sim (Z60 zl z7 zh zj zn zd) (Z9r x1 zm z2 z6) (Zs0 1 (iv x1) [(ZK zl zm z7 zh zj z2 z6 zn zd)]) := by
 unfold Z9r
 refine zf (ZyP ..)<|ze ?_
 exact zr ((iv x1), [(ZK zl zm z7 zh zj z2 z6 zn zd)]) ⟨_, rfl⟩
def Z98 (x1 x2 : Int) (zl : List Int) (zm z7 zh : Int) (zj : List Zz) (z2 z6 : Int) : Option (Int × Int × Int × Int) :=
 if (x1 == 110) = true then
 (some (10, zm, z2, z6))
 else
 (if (x1 == 116) = true then
 (some (9, zm, z2, z6))
 else
 (if (x1 == 114) = true then
 (some (13, zm, z2, z6))
 else
 (if (x1 == 120) = true then
 ((Z2G (Z1y.mk zl zm z7 zh zj (Z12.mk z2 z6))).bind fun r1 =>
 (ZdX r1).bind fun r2 =>
 if (decide (0 ≤ r2)) = true then
 ((Z3n zl zm).bind fun r3 =>
 (Z2G (Z1y.mk zl r3.2 z7 zh zj (Z12.mk z2 z6))).bind fun r4 =>
 (ZdX r4).bind fun r5 =>
 if (decide (0 ≤ r5)) = true then
 ((Z3n zl r3.2).bind fun r6 =>
 some ((IntKind.i64.wrap ((IntKind.i64.wrap (16 * r2)) + r5)), r6.2, z2, z6))
 else
 (Z39 x2 zl z2 z6))
 else
 (Z39 x2 zl z2 z6))
 else
 (if (decide (32 < x1)) = true then
 (if (decide (x1 < 127)) = true then
 ((Z7v ([(Z8.mk 48 57), (Z8.mk 65 90), (Z8.mk 97 122)] : List Z8) x1).bind fun r7 =>
 if (!r7) = true then
 (Z9r x1 zm z2 z6)
 else
 (Z39 x2 zl z2 z6))
 else
 (Z39 x2 zl z2 z6))
 else
 (Z39 x2 zl z2 z6)))))
theorem Zj4 x1 x2 zl zm z7 zh zj z2 z6 zn zd (zu : ZL zd = true) : Sim (Z60 zl z7 zh zj zn zd) (Z98 x1 x2 zl zm z7 zh zj z2 z6) (EE 79 [(.ptr 0 0), (iv x1), (iv x2)] [(ZK zl zm z7 zh zj z2 z6 zn zd)]) := by
 unfold Z98
 refine zf (ZHJ ..)<|ze<|ze<|zq ?_
 refine za (x1 == 110) ?_ ?_
 ·refine ze ?_
  exact zr ((iv 10), [(ZK zl zm z7 zh zj z2 z6 zn zd)]) ⟨_, rfl⟩
 ·refine ze<|zq ?_
  refine za (x1 == 116) ?_ ?_
  ·refine ze ?_
   exact zr ((iv 9), [(ZK zl zm z7 zh zj z2 z6 zn zd)]) ⟨_, rfl⟩
  ·refine ze<|zq ?_
   refine za (x1 == 114) ?_ ?_
   ·refine ze ?_
    exact zr ((iv 13), [(ZK zl zm z7 zh zj z2 z6 zn zd)]) ⟨_, rfl⟩
   ·refine ze<|zq ?_
    refine za (x1 == 120) ?_ ?_
    ·refine ze<|zi fun r1 hr1 => ?_
     obtain ⟨_, er1, _, rfl⟩ := Z2S (Z1y.mk zl zm z7 zh zj (Z12.mk z2 z6)) zn zd zu r1 hr1
     refine zc [0] (iv r1) [(ZK zl zm z7 zh zj z2 z6 zn zd)] er1<|zi fun r2 hr2 => ?_
     obtain ⟨_, er2, _, rfl⟩ := ZkO r1 r2 hr2
     refine zc [] (iv r2) [(ZK zl zm z7 zh zj z2 z6 zn zd)] er2<|ze<|zq ?_
     refine za (decide (0 ≤ r2)) ?_ ?_
     ·refine ze<|zi fun r3 hr3 => ?_
      obtain ⟨_, er3, _, rfl⟩ := Z3N zl zm z7 zh zj z2 z6 zn zd zu r3 hr3
      refine zc [0] (iv r3.1) [(ZK zl r3.2 z7 zh zj z2 z6 zn zd)] er3<|ze<|zi fun r4 hr4 => ?_
      obtain ⟨_, er4, _, rfl⟩ := Z2S (Z1y.mk zl r3.2 z7 zh zj (Z12.mk z2 z6)) zn zd zu r4 hr4
      refine zc [0] (iv r4) [(ZK zl r3.2 z7 zh zj z2 z6 zn zd)] er4<|zi fun r5 hr5 => ?_
      obtain ⟨_, er5, _, rfl⟩ := ZkO r4 r5 hr5
      refine zc [] (iv r5) [(ZK zl r3.2 z7 zh zj z2 z6 zn zd)] er5<|ze<|zq ?_
      refine za (decide (0 ≤ r5)) ?_ ?_
      ·refine ze<|zi fun r6 hr6 => ?_
       obtain ⟨_, er6, _, rfl⟩ := Z3N zl r3.2 z7 zh zj z2 z6 zn zd zu r6 hr6
       refine zc [0] (iv r6.1) [(ZK zl r6.2 z7 zh zj z2 z6 zn zd)] er6<|ze<|zq<|zq ?_
       exact zr ((iv (IntKind.i64.wrap ((IntKind.i64.wrap (16 * r2)) + r5))), [(ZK zl r6.2 z7 zh zj z2 z6 zn zd)]) ⟨_, rfl⟩
      ·exact zk (Z4D x2 zl r3.2 z7 zh zj z2 z6 zn zd zu)
     ·exact zk (Z4D x2 zl zm z7 zh zj z2 z6 zn zd zu)
    ·refine ze<|zq ?_
     refine za (decide (32 < x1)) ?_ ?_
     ·refine zq ?_
      refine za (decide (x1 < 127)) ?_ ?_
      ·refine zq<|zq<|zq<|zq<|zi fun r7 hr7 => ?_
       obtain ⟨_, er7, _, rfl⟩ := Zco ([(Z8.mk 48 57), (Z8.mk 65 90), (Z8.mk 97 122)] : List Z8) x1 .sh r7 hr7
       refine zc [] (bv r7) [(ZK zl zm z7 zh zj z2 z6 zn zd)] er7<|zq ?_
       refine za (!r7) ?_ ?_
       ·exact zk (Zga x1 zl zm z7 zh zj z2 z6 zn zd zu)
       ·exact zk (Z4D x2 zl zm z7 zh zj z2 z6 zn zd zu)
      ·exact zk (Z4D x2 zl zm z7 zh zj z2 z6 zn zd zu)
     ·exact zk (Z4D x2 zl zm z7 zh zj z2 z6 zn zd zu)
theorem ZjB x1 x2 zl zm z7 zh zj z2 z6 {r} (h : Z98 x1 x2 zl zm z7 zh zj z2 z6 = some r) : Z7w x1 x2 zl zm z7 zh zj z2 z6 = some r :=
 Z1h (fun _ _ ha hb => ru_ (ZjV _ _ _ _ _ _) (ha .ex .ex rfl) (hb .ex .ex rfl)) (fun zn zd zu => Zj4 x1 x2 zl zm z7 zh zj z2 z6 zn zd zu r h)
def ZcX (x0 : Int) : Option Int :=
 some (IntKind.i64.wrap (x0 - 48))
theorem Zn5 x0 : Sim ZJ (ZcX x0) (Zvx 0 (iv x0) []) := by
 unfold ZcX
 refine zf (ZC5 ..)<|ze<|zq ?_
 exact zr ((iv (IntKind.i64.wrap (x0 - 48))), []) ⟨_, rfl⟩
def ZcY (x0 : Int) : Option Int :=
 some (IntKind.i64.wrap ((IntKind.i64.wrap (x0 - 97)) + 10))
theorem Zn6 x0 : Sim ZJ (ZcY x0) (Zvy 0 (iv x0) []) := by
 unfold ZcY
 refine zf (ZC7 ..)<|ze<|zq<|zq ?_
 exact zr ((iv (IntKind.i64.wrap ((IntKind.i64.wrap (x0 - 97)) + 10))), []) ⟨_, rfl⟩
def ZaV : Option Int :=
 some (-1)
theorem ZgY : Sim ZJ ZaV (ZqK 0 []) := by
 unfold ZaV
 refine zf (ZC8 ..)<|ze ?_
 exact zr ((iv (-1)), []) ⟨_, rfl⟩
def ZaU (x0 : Int) : Option Int :=
 if (decide (97 ≤ x0)) = true then
 (if (decide (x0 ≤ 102)) = true then
 (ZcY x0)
 else
 ZaV)
 else
 ZaV
theorem ZgX x0 : Sim ZJ (ZaU x0) (ZqJ 0 (iv x0) []) := by
 unfold ZaU
 refine zf (ZC6 ..)<|ze<|zq ?_
 refine za (decide (97 ≤ x0)) ?_ ?_
 ·refine zq ?_
  refine za (decide (x0 ≤ 102)) ?_ ?_
  ·exact zk (Zn6 x0)
  ·exact zk ZgY
 ·exact zk ZgY
def ZgB (x0 : Int) : Option Int :=
 if (decide (48 ≤ x0)) = true then
 (if (decide (x0 ≤ 57)) = true then
 (ZcX x0)
 else
 (ZaU x0))
 else
 (ZaU x0)
theorem ZqP x0 : Sim ZJ (ZgB x0) (EE 98 [(iv x0)] []) := by
 unfold ZgB
 refine zf (ZHX ..)<|ze<|ze<|zq ?_
 refine za (decide (48 ≤ x0)) ?_ ?_
 ·refine zq ?_
  refine za (decide (x0 ≤ 57)) ?_ ?_
  ·exact zk (Zn5 x0)
  ·exact zk (ZgX x0)
 ·exact zk (ZgX x0)
theorem Zs3 x0 {r} (h : ZgB x0 = some r) : ZdX x0 = some r :=
 Z1h (fun _ _ ha hb => ru_ Z1J ha hb) (ZqP x0 r h)
def ZbZ (x0 : List Z8) (x1 : Int) : Option Bool :=
 (Z59 x0 x1).bind fun r1 =>
 some r1
theorem Zmh (x0 : List Z8) x1 ox0 : Sim ZP (ZbZ x0 x1) (EE 24 [(ZO ox0 (x0.map Zp)), (iv x1)] []) := by
 unfold ZbZ
 refine zf (ZGq ..)<|ze<|zx (.ptr 0 0) [[(iv x1)]]<|ze<|zi fun r1 hr1 => ?_
 obtain ⟨_, er1, _, rfl⟩ := Zdx x0 x1 .sh r1 hr1
 refine zc [0] (bv r1) [[(iv x1)]] er1 ?_
 exact zr ((bv r1), [[(iv x1)]]) ⟨_, rfl⟩
theorem Zn0 x0 x1 {r} (h : ZbZ x0 x1 = some r) : Z7v x0 x1 = some r :=
 Z1h (fun _ _ ha hb => ru_ Z2p (ha .ex) (hb .ex)) (fun ox0 => Zmh x0 x1 ox0 r h)
def Z54 (x0 : List Z8) (z1x : Int) : Option Bool :=
 (Z6f x0 z1x).bind fun r1 =>
 some (decide (0 ≤ r1))
theorem Zd7 (x0 : List Z8) z1x ox0 : Sim (Z7B z1x) (Z54 x0 z1x) (EE 32 [(ZO ox0 (x0.map Zp)), (.clo 33 [] [(.ptr 0 0)])] [[(iv z1x)]]) := by
 unfold Z54
 refine zf (ZGG ..)<|ze<|ze<|zi fun r1 hr1 => ?_
 obtain ⟨_, er1, _, rfl⟩ := Zf0 x0 z1x .sh r1 hr1
 refine zc [0] (iv r1) [[(iv z1x)]] er1<|zq ?_
 exact zr ((bv (decide (0 ≤ r1))), [[(iv z1x)]]) ⟨_, rfl⟩
theorem Zdw x0 z1x {r} (h : Z54 x0 z1x = some r) : Z59 x0 z1x = some r :=
 Z1h (fun _ _ ha hb => ru_ (ZfM _) (ha .ex) (hb .ex)) (fun ox0 => Zd7 x0 z1x ox0 r h)
def Z68 (x0 : List Z8) (z1x : Int) : Option Int :=
 Z44 x0 (x0.length : Int) 0 z1x
theorem Zeq (x0 : List Z8) z1x ox0 : Sim (Z2I z1x) (Z68 x0 z1x) (EE 50 [(ZO ox0 (x0.map Zp)), (.clo 33 [] [(.ptr 0 0)])] [[(iv z1x)]]) := by
 unfold Z68
 refine zf (ZH6 ..)<|ze<|ze<|zp (iv (x0.length : Int)) (et_ (Z3d (P := PP) (t := 28) (d := 47) (by kernel_rfl) Zp (shrO ox0) x0)) ?_
 exact zk (Z91 x0 (x0.length : Int) 0 z1x ox0)
theorem ZeZ x0 z1x {r} (h : Z68 x0 z1x = some r) : Z6f x0 z1x = some r :=
 Z1h (fun _ _ ha hb => ru_ (Za4 _) (ha .ex) (hb .ex)) (fun ox0 => Zeq x0 z1x ox0 r h)
def Z56 (x0 : List Z8) (x7 x8 z1x : Int) : Option Int :=
 Z44 x0 x7 (IntKind.i64.wrap (x8 + 1)) z1x
theorem Zdb (x0 : List Z8) x7 x8 z1x ox0 : Sim (Z2I z1x) (Z56 x0 x7 x8 z1x) (ZuH 1 (ZO ox0 (x0.map Zp)) (.clo 33 [] [(.ptr 0 0)]) (iv x7) (iv x8) [[(iv z1x)]]) := by
 unfold Z56
 refine zf (ZBk ..)<|ze<|zq ?_
 exact zk (Z91 x0 x7 (IntKind.i64.wrap (x8 + 1)) z1x ox0)
def Z42 (x0 : List Z8) (x7 x8 z1x : Int) : Option Int :=
 (lget x0 x8).bind fun a1 =>
 (ZaL a1 z1x).bind fun r2 =>
 if r2 = true then
 (some x8)
 else
 (Z56 x0 x7 x8 z1x)
theorem Zda (x0 : List Z8) x7 x8 z1x ox0 : Sim (Z2I z1x) (Z42 x0 x7 x8 z1x) (ZuG 1 (ZO ox0 (x0.map Zp)) (.clo 33 [] [(.ptr 0 0)]) (iv x7) (iv x8) [[(iv z1x)]]) := by
 unfold Z42
 refine zf (ZBj ..)<|ze<|ze<|zi fun a1 ha1 => zp (.cptr (ZN a1)) (et_ (Z2D (o := (shrO ox0)) (k := .i64) (n := 2) (e := Zp) (cs := Z6a) (fun _ => rfl) (fun _ => rfl) (by decide) ha1))<|zq<|zi fun r2 hr2 => ?_
 obtain ⟨_, er2, _, rfl⟩ := Zls a1 z1x r2 hr2
 refine zv [0] (bv r2) [[(iv z1x)]] er2 ?_
 refine za r2 ?_ ?_
 ·refine ze ?_
  exact zr ((iv x8), [[(iv z1x)]]) ⟨_, rfl⟩
 ·exact zk (Zdb x0 x7 x8 z1x ox0)
def Z79 : Option Int :=
 some (-1)
theorem Zdc z1x : Sim (Z2I z1x) Z79 (ZuI 1 [[(iv z1x)]]) := by
 unfold Z79
 refine zf (ZBl ..)<|ze ?_
 exact zr ((iv (-1)), [[(iv z1x)]]) ⟨_, rfl⟩
def Z3v (x0 : List Z8) (x7 x8 z1x : Int) : Option Int :=
 if (decide (x8 < x7)) = true then
 (Z42 x0 x7 x8 z1x)
 else
 Z79
theorem Zd9 (x0 : List Z8) x7 x8 z1x ox0 : Sim (Z2I z1x) (Z3v x0 x7 x8 z1x) (ZmQ 1 (ZO ox0 (x0.map Zp)) (.clo 33 [] [(.ptr 0 0)]) (iv x7) (iv x8) [[(iv z1x)]]) := by
 unfold Z3v
 refine zf (ZBi ..)<|ze<|zq ?_
 refine za (decide (x8 < x7)) ?_ ?_
 ·exact zk (Zda x0 x7 x8 z1x ox0)
 ·exact zk (Zdc z1x)
theorem Z6n x0 x7 x8 z1x {r} (h : Z3v x0 x7 x8 z1x = some r) : Z44 x0 x7 x8 z1x = some r :=
 Z1h (fun _ _ ha hb => ru_ (Za4 _) (ha .ex) (hb .ex)) (fun ox0 => Zd9 x0 x7 x8 z1x ox0 r h)
def ZaF (x0 : Z8) (z1x : Int) : Option Bool :=
 if (decide (x0.Lo ≤ z1x)) = true then
 (some (decide (z1x ≤ x0.Hi)))
 else
 (some false)
theorem ZkI x0 z1x : Sim (Z7B z1x) (ZaF x0 z1x) (EE 33 [(pA_ (ZN x0)), (.ptr 0 0)] [[(iv z1x)]]) := by
 unfold ZaF
 refine zf (ZGH ..)<|ze<|zx (.ptr 1 0) [[(iv z1x)], (Z2h x0)]<|ze<|zq<|zq<|zq<|zq ?_
 refine za (decide (x0.Lo ≤ z1x)) ?_ ?_
 ·refine zq<|zq<|zq<|zq ?_
  exact zr ((bv (decide (z1x ≤ x0.Hi))), [[(iv z1x)], (Z2h x0)]) ⟨_, rfl⟩
 ·exact zr ((bv false), [[(iv z1x)], (Z2h x0)]) ⟨_, rfl⟩
theorem Zlr x0 z1x {r} (h : ZaF x0 z1x = some r) : ZaL x0 z1x = some r :=
 Z1h (fun _ _ ha hb => ru_ (ZfM _) ha hb) (ZkI x0 z1x r h)
def Z7d (x1 : Int) (zl : List Int) (zm z7 zh : Int) (zj : List Zz) (z2 z6 : Int) : Option (Z9 × Int × Int × Int) :=
 (Z1H (ByteArray.mk #[94]) zl zm).bind fun r1 =>
 Z46 x1 r1.1 0 zl r1.2 z7 zh zj z2 z6 ([] : List Z8)
theorem ZiY x1 zl zm z7 zh zj z2 z6 zn zd (zu : ZL zd = true) : Sim (Z1G zl z7 zh zj zn zd) (Z7d x1 zl zm z7 zh zj z2 z6) (EE 67 [(.ptr 0 0), (iv x1)] [(ZK zl zm z7 zh zj z2 z6 zn zd)]) := by
 unfold Z7d
 refine zf (ZHr ..)<|ze<|zz (.ptr 1 0) [(ZK zl zm z7 zh zj z2 z6 zn zd), (Zk Z1A .nl .nl)]<|ze<|zi fun r1 hr1 => ?_
 obtain ⟨_, er1, _, rfl⟩ := Z1P (ByteArray.mk #[94]) zl zm z7 zh zj z2 z6 zn zd zu r1 hr1
 refine zc [0] (bv r1.1) [(ZK zl r1.2 z7 zh zj z2 z6 zn zd), (Zk Z1A .nl .nl)] er1<|ze<|zz (.ptr 2 0) [(ZK zl r1.2 z7 zh zj z2 z6 zn zd), (Zk Z1A .nl .nl), [(ZO .nl [])]]<|ze<|ze ?_
 exact zk (ZbL x1 r1.1 0 zl r1.2 z7 zh zj z2 z6 Z1A ([] : List Z8) zn zd .nl .nl .nl zu rfl rfl)
theorem Zjw x1 zl zm z7 zh zj z2 z6 {r} (h : Z7d x1 zl zm z7 zh zj z2 z6 = some r) : Z9b x1 zl zm z7 zh zj z2 z6 = some r :=
 Z1h (fun _ _ ha hb => ru_ (Zau _ _ _ _ _ _) (ha .ex .ex rfl) (hb .ex .ex rfl)) (fun zn zd zu => ZiY x1 zl zm z7 zh zj z2 z6 zn zd zu r h)
def Z1R (x1 : Int) (x5 : Bool) (x8 : Int) (zl : List Int) (zm z7 zh : Int) (zj : List Zz) (z2 z6 : Int) (z1s : List Z8) : Option (Z9 × Int × Int × Int) :=
 Z46 x1 x5 (IntKind.i64.wrap (x8 + 1)) zl zm z7 zh zj z2 z6 z1s
theorem Z2P x1 x5 x8 zl zm z7 zh zj z2 z6 b1 (z1s : List Z8) zn zd zG zD z1T (zu : ZL zd = true) (z15 : ZL zG = true) (zV : ZL zD = true) : Sim (Z1G zl z7 zh zj zn zd) (Z1R x1 x5 x8 zl zm z7 zh zj z2 z6 z1s) (Zcm 1 (.ptr 0 0) (iv x1) (.ptr 1 0) (bv x5) (.ptr 2 0) (.clo 80 [] [(.ptr 2 0)]) (iv x8) [(ZK zl zm z7 zh zj z2 z6 zn zd), (Zk b1 zG zD), [(ZO z1T (z1s.map Zp))]]) := by
 unfold Z1R
 refine zf (ZBD ..)<|ze<|zq ?_
 exact zk (ZbL x1 x5 (IntKind.i64.wrap (x8 + 1)) zl zm z7 zh zj z2 z6 b1 z1s zn zd zG zD z1T zu z15 zV)
def Z5N (zm z2 z6 : Int) (z1s : List Z8) : Option (Z9 × Int × Int × Int) :=
 some ((Z9.mk 1 0 0 0 0 z1s ([] : List Z9)), zm, z2, z6)
theorem Zb3 zl zm z7 zh zj z2 z6 b1 (z1s : List Z8) zn zd zG zD z1T (zu : ZL zd = true) (z15 : ZL zG = true) (zV : ZL zD = true) : Sim (Z1G zl z7 zh zj zn zd) (Z5N zm z2 z6 z1s) (Zo4 1 (.ptr 1 0) (.ptr 2 0) [(ZK zl zm z7 zh zj z2 z6 zn zd), (Zk b1 zG zD), [(ZO z1T (z1s.map Zp))]]) := by
 unfold Z5N
 refine zf (ZyA ..)<|ze<|zq<|zq<|zt [(ZK zl zm z7 zh zj z2 z6 zn zd), (Z2Q 1 0 0 0 0 z1s ([] : List Z9) (shrO (shrO z1T)) .nl), [(ZO z1T (z1s.map Zp))]] ?_
 exact zr ((pA_ (ZH (Z9.mk 1 0 0 0 0 z1s ([] : List Z9)) .sh .sh)), [(ZK zl zm z7 zh zj z2 z6 zn zd), (Z2Q 1 0 0 0 0 z1s ([] : List Z9) (shrO (shrO z1T)) .nl), [(ZO z1T (z1s.map Zp))]]) ⟨_, rfl⟩
def Z7e (x5 : Bool) (zl : List Int) (zm z2 z6 : Int) (z1s : List Z8) : Option (Z9 × Int × Int × Int) :=
 (Z3n zl zm).bind fun r1 =>
 if x5 = true then
 ((Zai z1s).bind fun r2 =>
 Z5N r1.2 z2 z6 r2.1)
 else
 (Z5N r1.2 z2 z6 z1s)
theorem ZfX x5 zl zm z7 zh zj z2 z6 b1 (z1s : List Z8) zn zd zG zD z1T (zu : ZL zd = true) (z15 : ZL zG = true) (zV : ZL zD = true) : Sim (Z1G zl z7 zh zj zn zd) (Z7e x5 zl zm z2 z6 z1s) (ZrU 1 (.ptr 0 0) (.ptr 1 0) (bv x5) (.ptr 2 0) [(ZK zl zm z7 zh zj z2 z6 zn zd), (Zk b1 zG zD), [(ZO z1T (z1s.map Zp))]]) := by
 unfold Z7e
 refine zf (Zyz ..)<|ze<|zi fun r1 hr1 => ?_
 obtain ⟨_, er1, _, rfl⟩ := Z3N zl zm z7 zh zj z2 z6 zn zd zu r1 hr1
 refine zc [0] (iv r1.1) [(ZK zl r1.2 z7 zh zj z2 z6 zn zd), (Zk b1 zG zD), [(ZO z1T (z1s.map Zp))]] er1<|ze ?_
 refine za x5 ?_ ?_
 ·refine ze<|zq<|zi fun r2 hr2 => ?_
  obtain ⟨_, er2, _, rfl⟩ := ZgV z1s .sh r2 hr2
  refine zc [] (.p (.tup [(.lst .sh (r2.1.map Zp)), (.v (.int .i64 r2.2))])) [(ZK zl r1.2 z7 zh zj z2 z6 zn zd), (Zk b1 zG zD), [(ZO z1T (z1s.map Zp))]] er2<|zq<|zq<|zt [(ZK zl r1.2 z7 zh zj z2 z6 zn zd), (Zk b1 zG zD), [(ZO .sh (r2.1.map Zp))]] ?_
  exact zk (Zb3 zl r1.2 z7 zh zj z2 z6 b1 r2.1 zn zd zG zD .sh zu z15 zV)
 ·exact zk (Zb3 zl r1.2 z7 zh zj z2 z6 b1 z1s zn zd zG zD z1T zu z15 zV)
def Z3U (x1 : Int) (x5 : Bool) (x8 x9 : Int) (zl : List Int) (z7 zh : Int) (zj : List Zz) (z2 z6 : Int) (z1s : List Z8) : Option (Z9 × Int × Int × Int) :=
 (Z1c 22 x9 zl z2 z6).bind fun r1 =>
 Z1R x1 x5 x8 zl r1.1 z7 zh zj r1.2.1 r1.2.2 z1s
theorem Z6c x1 x5 x8 x9 zl zm z7 zh zj z2 z6 b1 (z1s : List Z8) zn zd zG zD z1T (zu : ZL zd = true) (z15 : ZL zG = true) (zV : ZL zD = true) : Sim (Z1G zl z7 zh zj zn zd) (Z3U x1 x5 x8 x9 zl z7 zh zj z2 z6 z1s) (ZiF 1 (.ptr 0 0) (iv x1) (.ptr 1 0) (bv x5) (.ptr 2 0) (.clo 80 [] [(.ptr 2 0)]) (iv x8) (iv x9) [(ZK zl zm z7 zh zj z2 z6 zn zd), (Zk b1 zG zD), [(ZO z1T (z1s.map Zp))]]) := by
 unfold Z3U
 refine zf (ZyD ..)<|ze<|zi fun r1 hr1 => ?_
 obtain ⟨_, er1, _, rfl⟩ := Z1g 22 x9 zl zm z7 zh zj z2 z6 zn zd zu r1 hr1
 refine zc [0] (.p (.tup [])) [(ZK zl r1.1 z7 zh zj r1.2.1 r1.2.2 zn zd), (Zk b1 zG zD), [(ZO z1T (z1s.map Zp))]] er1 ?_
 exact zk (Z2P x1 x5 x8 zl r1.1 z7 zh zj r1.2.1 r1.2.2 b1 z1s zn zd zG zD z1T zu z15 zV)
def Z2z (x1 : Int) (x5 : Bool) (x8 x11 x15 : Int) (zl : List Int) (zm z7 zh : Int) (zj : List Zz) (z2 z6 : Int) (z1s : List Z8) : Option (Z9 × Int × Int × Int) :=
 if (z2 == 0) = true then
 ((Z6A ([(Z8.mk x11 x15)] : List Z8) z1s).bind fun r1 =>
 Z1R x1 x5 x8 zl zm z7 zh zj z2 z6 r1)
 else
 (Z1R x1 x5 x8 zl zm z7 zh zj z2 z6 z1s)
theorem Z6d x1 x5 x8 x11 x15 zl zm z7 zh zj z2 z6 b1 (z1s : List Z8) zn zd zG zD z1T (zu : ZL zd = true) (z15 : ZL zG = true) (zV : ZL zD = true) : Sim (Z1G zl z7 zh zj zn zd) (Z2z x1 x5 x8 x11 x15 zl zm z7 zh zj z2 z6 z1s) (ZiG 1 (.ptr 0 0) (iv x1) (.ptr 1 0) (bv x5) (.ptr 2 0) (.clo 80 [] [(.ptr 2 0)]) (iv x8) (iv x11) (iv x15) [(ZK zl zm z7 zh zj z2 z6 zn zd), (Zk b1 zG zD), [(ZO z1T (z1s.map Zp))]]) := by
 unfold Z2z
 refine zf (ZyG ..)<|ze<|zq<|zq<|zq<|zq<|zq ?_
 refine za (z2 == 0) ?_ ?_
 ·refine ze<|zq<|zq<|zi fun r1 hr1 => ?_
  obtain ⟨_, er1, zxr, _, rfl⟩ := Zc9 ([(Z8.mk x11 x15)] : List Z8) z1s .sh z1T r1 hr1
  refine zv [2] (.p (.tup [])) [(ZK zl zm z7 zh zj z2 z6 zn zd), (Zk b1 zG zD), [(ZO zxr (r1.map Zp))]] er1 ?_
  exact zk (Z2P x1 x5 x8 zl zm z7 zh zj z2 z6 b1 r1 zn zd zG zD zxr zu z15 zV)
 ·exact zk (Z2P x1 x5 x8 zl zm z7 zh zj z2 z6 b1 z1s zn zd zG zD z1T zu z15 zV)
def Z4v (x1 : Int) (x5 : Bool) (x8 x9 x11 x15 : Int) (zl : List Int) (z7 zh : Int) (zj : List Zz) (z2 z6 : Int) (z1s : List Z8) : Option (Z9 × Int × Int × Int) :=
 (Z1c 22 x9 zl z2 z6).bind fun r1 =>
 Z2z x1 x5 x8 x11 x15 zl r1.1 z7 zh zj r1.2.1 r1.2.2 z1s
theorem Zb5 x1 x5 x8 x9 x11 x15 zl zm z7 zh zj z2 z6 b1 (z1s : List Z8) zn zd zG zD z1T (zu : ZL zd = true) (z15 : ZL zG = true) (zV : ZL zD = true) : Sim (Z1G zl z7 zh zj zn zd) (Z4v x1 x5 x8 x9 x11 x15 zl z7 zh zj z2 z6 z1s) (Zo6 1 (.ptr 0 0) (iv x1) (.ptr 1 0) (bv x5) (.ptr 2 0) (.clo 80 [] [(.ptr 2 0)]) (iv x8) (iv x9) (iv x11) (iv x15) [(ZK zl zm z7 zh zj z2 z6 zn zd), (Zk b1 zG zD), [(ZO z1T (z1s.map Zp))]]) := by
 unfold Z4v
 refine zf (ZyF ..)<|ze<|zi fun r1 hr1 => ?_
 obtain ⟨_, er1, _, rfl⟩ := Z1g 22 x9 zl zm z7 zh zj z2 z6 zn zd zu r1 hr1
 refine zc [0] (.p (.tup [])) [(ZK zl r1.1 z7 zh zj r1.2.1 r1.2.2 zn zd), (Zk b1 zG zD), [(ZO z1T (z1s.map Zp))]] er1 ?_
 exact zk (Z6d x1 x5 x8 x11 x15 zl r1.1 z7 zh zj r1.2.1 r1.2.2 b1 z1s zn zd zG zD z1T zu z15 zV)
def Z7f (x1 : Int) (x5 : Bool) (x8 x9 x11 : Int) (zl : List Int) (zm z7 zh : Int) (zj : List Zz) (z2 z6 : Int) (z1s : List Z8) : Option (Z9 × Int × Int × Int) :=
 (Z5D zl zm z7 zh zj z2 z6).bind fun r1 =>
 if (r1.2.2.2.2.1 == 0) = true then
 ((nilO (shrO (shrO (shrO (shrO r1.2.1.1)))) r1.2.1.2).bind fun a2 =>
 if (!a2) = true then
 (Z4v x1 x5 x8 x9 x11 r1.1 zl z7 zh zj r1.2.2.2.2.1 r1.2.2.2.2.2 z1s)
 else
 (if (decide (r1.1 < x11)) = true then
 (Z4v x1 x5 x8 x9 x11 r1.1 zl z7 zh zj r1.2.2.2.2.1 r1.2.2.2.2.2 z1s)
 else
 (Z2z x1 x5 x8 x11 r1.1 zl r1.2.2.2.1 z7 zh zj r1.2.2.2.2.1 r1.2.2.2.2.2 z1s)))
 else
 (Z2z x1 x5 x8 x11 r1.1 zl r1.2.2.2.1 z7 zh zj r1.2.2.2.2.1 r1.2.2.2.2.2 z1s)
theorem ZfZ x1 x5 x8 x9 x11 zl zm z7 zh zj z2 z6 b1 (z1s : List Z8) zn zd zG zD z1T (zu : ZL zd = true) (z15 : ZL zG = true) (zV : ZL zD = true) : Sim (Z1G zl z7 zh zj zn zd) (Z7f x1 x5 x8 x9 x11 zl zm z7 zh zj z2 z6 z1s) (ZrW 1 (.ptr 0 0) (iv x1) (.ptr 1 0) (bv x5) (.ptr 2 0) (.clo 80 [] [(.ptr 2 0)]) (iv x8) (iv x9) (iv x11) [(ZK zl zm z7 zh zj z2 z6 zn zd), (Zk b1 zG zD), [(ZO z1T (z1s.map Zp))]]) := by
 unfold Z7f
 refine zf (ZyE ..)<|ze<|zi fun r1 hr1 => ?_
 obtain ⟨_, er1, _, rfl⟩ := Zcx zl zm z7 zh zj z2 z6 zn zd zu r1 hr1
 refine zc [0] (.p (.tup [(.v (.int .i64 r1.1)), (.lst r1.2.1.1 (r1.2.1.2.map Zp)), (.v (.bool r1.2.2.1))])) [(ZK zl r1.2.2.2.1 z7 zh zj r1.2.2.2.2.1 r1.2.2.2.2.2 zn zd), (Zk b1 zG zD), [(ZO z1T (z1s.map Zp))]] er1<|zq<|zq<|zq<|ze<|zq<|zq<|zq<|zq<|zq ?_
 refine za (r1.2.2.2.2.1 == 0) ?_ ?_
 ·refine zi fun a2 ha2 => zp (bv (!a2)) (et_ (Zmc (P := PP) (t := 27) (c := .slice none 0 0) (e := Zp) (by kernel_rfl) ha2)) ?_
  refine za (!a2) ?_ ?_
  ·exact zk (Zb5 x1 x5 x8 x9 x11 r1.1 zl r1.2.2.2.1 z7 zh zj r1.2.2.2.2.1 r1.2.2.2.2.2 b1 z1s zn zd zG zD z1T zu z15 zV)
  ·refine zq ?_
   refine za (decide (r1.1 < x11)) ?_ ?_
   ·exact zk (Zb5 x1 x5 x8 x9 x11 r1.1 zl r1.2.2.2.1 z7 zh zj r1.2.2.2.2.1 r1.2.2.2.2.2 b1 z1s zn zd zG zD z1T zu z15 zV)
   ·exact zk (Z6d x1 x5 x8 x11 r1.1 zl r1.2.2.2.1 z7 zh zj r1.2.2.2.2.1 r1.2.2.2.2.2 b1 z1s zn zd zG zD z1T zu z15 zV)
 ·exact zk (Z6d x1 x5 x8 x11 r1.1 zl r1.2.2.2.1 z7 zh zj r1.2.2.2.2.1 r1.2.2.2.2.2 b1 z1s zn zd zG zD z1T zu z15 zV)
def Z5P (x1 : Int) (x5 : Bool) (x8 x9 x11 : Int) (zl : List Int) (zm z7 zh : Int) (zj : List Zz) (z2 z6 : Int) (z1s : List Z8) : Option (Z9 × Int × Int × Int) :=
 (Z1H (ByteArray.mk #[45]) zl zm).bind fun r1 =>
 if r1.1 = true then
 ((Z2G (Z1y.mk zl r1.2 z7 zh zj (Z12.mk z2 z6))).bind fun r2 =>
 if (r2 == 93) = true then
 (Z3U x1 x5 x8 x9 zl z7 zh zj z2 z6 z1s)
 else
 (if (r2 == 91) = true then
 (Z3U x1 x5 x8 x9 zl z7 zh zj z2 z6 z1s)
 else
 (if (r2 == 45) = true then
 (Z3U x1 x5 x8 x9 zl z7 zh zj z2 z6 z1s)
 else
 (if (decide (r2 < 0)) = true then
 (Z3U x1 x5 x8 x9 zl z7 zh zj z2 z6 z1s)
 else
 (Z7f x1 x5 x8 x9 x11 zl r1.2 z7 zh zj z2 z6 z1s)))))
 else
 (Z2z x1 x5 x8 x11 x11 zl r1.2 z7 zh zj z2 z6 z1s)
theorem ZfY x1 x5 x8 x9 x11 zl zm z7 zh zj z2 z6 b1 (z1s : List Z8) zn zd zG zD z1T (zu : ZL zd = true) (z15 : ZL zG = true) (zV : ZL zD = true) : Sim (Z1G zl z7 zh zj zn zd) (Z5P x1 x5 x8 x9 x11 zl zm z7 zh zj z2 z6 z1s) (ZrV 1 (.ptr 0 0) (iv x1) (.ptr 1 0) (bv x5) (.ptr 2 0) (.clo 80 [] [(.ptr 2 0)]) (iv x8) (iv x9) (iv x11) [(ZK zl zm z7 zh zj z2 z6 zn zd), (Zk b1 zG zD), [(ZO z1T (z1s.map Zp))]]) := by
 unfold Z5P
 refine zf (ZyC ..)<|ze<|ze<|zi fun r1 hr1 => ?_
 obtain ⟨_, er1, _, rfl⟩ := Z1P (ByteArray.mk #[45]) zl zm z7 zh zj z2 z6 zn zd zu r1 hr1
 refine zc [0] (bv r1.1) [(ZK zl r1.2 z7 zh zj z2 z6 zn zd), (Zk b1 zG zD), [(ZO z1T (z1s.map Zp))]] er1 ?_
 refine za r1.1 ?_ ?_
 ·refine ze<|zi fun r2 hr2 => ?_
  obtain ⟨_, er2, _, rfl⟩ := Z2S (Z1y.mk zl r1.2 z7 zh zj (Z12.mk z2 z6)) zn zd zu r2 hr2
  refine zc [0] (iv r2) [(ZK zl r1.2 z7 zh zj z2 z6 zn zd), (Zk b1 zG zD), [(ZO z1T (z1s.map Zp))]] er2<|ze<|zq ?_
  refine za (r2 == 93) ?_ ?_
  ·exact zk (Z6c x1 x5 x8 x9 zl r1.2 z7 zh zj z2 z6 b1 z1s zn zd zG zD z1T zu z15 zV)
  ·refine zq ?_
   refine za (r2 == 91) ?_ ?_
   ·exact zk (Z6c x1 x5 x8 x9 zl r1.2 z7 zh zj z2 z6 b1 z1s zn zd zG zD z1T zu z15 zV)
   ·refine zq ?_
    refine za (r2 == 45) ?_ ?_
    ·exact zk (Z6c x1 x5 x8 x9 zl r1.2 z7 zh zj z2 z6 b1 z1s zn zd zG zD z1T zu z15 zV)
    ·refine zq ?_
     refine za (decide (r2 < 0)) ?_ ?_
     ·exact zk (Z6c x1 x5 x8 x9 zl r1.2 z7 zh zj z2 z6 b1 z1s zn zd zG zD z1T zu z15 zV)
     ·exact zk (ZfZ x1 x5 x8 x9 x11 zl r1.2 z7 zh zj z2 z6 b1 z1s zn zd zG zD z1T zu z15 zV)
 ·exact zk (Z6d x1 x5 x8 x11 x11 zl r1.2 z7 zh zj z2 z6 b1 z1s zn zd zG zD z1T zu z15 zV)
def Z5O (x1 : Int) (x5 : Bool) (x8 x9 : Int) (zl : List Int) (zm z7 zh : Int) (zj : List Zz) (z2 z6 : Int) (z1s : List Z8) : Option (Z9 × Int × Int × Int) :=
 (Z5D zl zm z7 zh zj z2 z6).bind fun r1 =>
 (nilO (shrO (shrO (shrO (shrO r1.2.1.1)))) r1.2.1.2).bind fun a2 =>
 if (!a2) = true then
 ((Z41 r1.2.2.1 r1.2.1.2).bind fun r3 =>
 (Z6A r3.Set z1s).bind fun r4 =>
 (Z2G (Z1y.mk zl r1.2.2.2.1 z7 zh zj (Z12.mk r1.2.2.2.2.1 r1.2.2.2.2.2))).bind fun r5 =>
 if (r5 == 45) = true then
 ((Z1c 22 r1.2.2.2.1 zl r1.2.2.2.2.1 r1.2.2.2.2.2).bind fun r6 =>
 Z1R x1 x5 x8 zl r6.1 z7 zh zj r6.2.1 r6.2.2 r4)
 else
 (Z1R x1 x5 x8 zl r1.2.2.2.1 z7 zh zj r1.2.2.2.2.1 r1.2.2.2.2.2 r4))
 else
 (Z5P x1 x5 x8 x9 r1.1 zl r1.2.2.2.1 z7 zh zj r1.2.2.2.2.1 r1.2.2.2.2.2 z1s)
theorem Zb4 x1 x5 x8 x9 zl zm z7 zh zj z2 z6 b1 (z1s : List Z8) zn zd zG zD z1T (zu : ZL zd = true) (z15 : ZL zG = true) (zV : ZL zD = true) : Sim (Z1G zl z7 zh zj zn zd) (Z5O x1 x5 x8 x9 zl zm z7 zh zj z2 z6 z1s) (Zo5 1 (.ptr 0 0) (iv x1) (.ptr 1 0) (bv x5) (.ptr 2 0) (.clo 80 [] [(.ptr 2 0)]) (iv x8) (iv x9) [(ZK zl zm z7 zh zj z2 z6 zn zd), (Zk b1 zG zD), [(ZO z1T (z1s.map Zp))]]) := by
 unfold Z5O
 refine zf (ZyB ..)<|ze<|zi fun r1 hr1 => ?_
 obtain ⟨_, er1, _, rfl⟩ := Zcx zl zm z7 zh zj z2 z6 zn zd zu r1 hr1
 refine zc [0] (.p (.tup [(.v (.int .i64 r1.1)), (.lst r1.2.1.1 (r1.2.1.2.map Zp)), (.v (.bool r1.2.2.1))])) [(ZK zl r1.2.2.2.1 z7 zh zj r1.2.2.2.2.1 r1.2.2.2.2.2 zn zd), (Zk b1 zG zD), [(ZO z1T (z1s.map Zp))]] er1<|zq<|zq<|zq<|ze<|zi fun a2 ha2 => zp (bv (!a2)) (et_ (Zmc (P := PP) (t := 27) (c := .slice none 0 0) (e := Zp) (by kernel_rfl) ha2)) ?_
 refine za (!a2) ?_ ?_
 ·refine ze<|zi fun r3 hr3 => ?_
  obtain ⟨_, er3, _, rfl⟩ := Z4a r1.2.2.1 r1.2.1.2 .sh r3 hr3
  refine zc [] (pA_ (ZH r3 .sh .sh)) [(ZK zl r1.2.2.2.1 z7 zh zj r1.2.2.2.2.1 r1.2.2.2.2.2 zn zd), (Zk b1 zG zD), [(ZO z1T (z1s.map Zp))]] er3<|zz (.ptr 3 0) [(ZK zl r1.2.2.2.1 z7 zh zj r1.2.2.2.2.1 r1.2.2.2.2.2 zn zd), (Zk b1 zG zD), [(ZO z1T (z1s.map Zp))], (Zk Z1A .nl .nl)]<|zt [(ZK zl r1.2.2.2.1 z7 zh zj r1.2.2.2.2.1 r1.2.2.2.2.2 zn zd), (Zk b1 zG zD), [(ZO z1T (z1s.map Zp))], (Zk r3 .sh .sh)]<|ze<|zq<|zq<|zi fun r4 hr4 => ?_
  obtain ⟨_, er4, zl8, _, rfl⟩ := Zc9 r3.Set z1s .sh z1T r4 hr4
  refine zv [2] (.p (.tup [])) [(ZK zl r1.2.2.2.1 z7 zh zj r1.2.2.2.2.1 r1.2.2.2.2.2 zn zd), (Zk b1 zG zD), [(ZO zl8 (r4.map Zp))], (Zk r3 .sh .sh)] er4<|ze<|zi fun r5 hr5 => ?_
  obtain ⟨_, er5, _, rfl⟩ := Z2S (Z1y.mk zl r1.2.2.2.1 z7 zh zj (Z12.mk r1.2.2.2.2.1 r1.2.2.2.2.2)) zn zd zu r5 hr5
  refine zc [0] (iv r5) [(ZK zl r1.2.2.2.1 z7 zh zj r1.2.2.2.2.1 r1.2.2.2.2.2 zn zd), (Zk b1 zG zD), [(ZO zl8 (r4.map Zp))], (Zk r3 .sh .sh)] er5<|zq ?_
  refine za (r5 == 45) ?_ ?_
  ·refine ze<|zq<|zq<|zq<|zi fun r6 hr6 => ?_
   obtain ⟨_, er6, _, rfl⟩ := Z1g 22 r1.2.2.2.1 zl r1.2.2.2.1 z7 zh zj r1.2.2.2.2.1 r1.2.2.2.2.2 zn zd zu r6 hr6
   refine zc [0] (.p (.tup [])) [(ZK zl r6.1 z7 zh zj r6.2.1 r6.2.2 zn zd), (Zk b1 zG zD), [(ZO zl8 (r4.map Zp))], (Zk r3 .sh .sh)] er6 ?_
   exact zk (Z2P x1 x5 x8 zl r6.1 z7 zh zj r6.2.1 r6.2.2 b1 r4 zn zd zG zD zl8 zu z15 zV)
  ·exact zk (Z2P x1 x5 x8 zl r1.2.2.2.1 z7 zh zj r1.2.2.2.2.1 r1.2.2.2.2.2 b1 r4 zn zd zG zD zl8 zu z15 zV)
 ·exact zk (ZfY x1 x5 x8 x9 r1.1 zl r1.2.2.2.1 z7 zh zj r1.2.2.2.2.1 r1.2.2.2.2.2 b1 z1s zn zd zG zD z1T zu z15 zV)
def Z4Q (x1 : Int) (x5 : Bool) (x8 : Int) (zl : List Int) (zm z7 zh : Int) (zj : List Zz) (z2 z6 : Int) (z1s : List Z8) : Option (Z9 × Int × Int × Int) :=
 (Z2G (Z1y.mk zl zm z7 zh zj (Z12.mk z2 z6))).bind fun r1 =>
 if (r1 == (-1)) = true then
 ((Z1c 22 x1 zl z2 z6).bind fun r2 =>
 Z1R x1 x5 x8 zl r2.1 z7 zh zj r2.2.1 r2.2.2 z1s)
 else
 (if (r1 == 93) = true then
 (if (x8 == 0) = true then
 ((Z1c 22 x1 zl z2 z6).bind fun r3 =>
 Z1R x1 x5 x8 zl r3.1 z7 zh zj r3.2.1 r3.2.2 z1s)
 else
 (Z7e x5 zl zm z2 z6 z1s))
 else
 (if (r1 == 91) = true then
 (if (r1 == 91) = true then
 ((Z1c 22 zm zl z2 z6).bind fun r4 =>
 Z1R x1 x5 x8 zl r4.1 z7 zh zj r4.2.1 r4.2.2 z1s)
 else
 (Z5O x1 x5 x8 zm zl zm z7 zh zj z2 z6 z1s))
 else
 (if (r1 == 45) = true then
 ((Z1c 22 zm zl z2 z6).bind fun r5 =>
 Z1R x1 x5 x8 zl r5.1 z7 zh zj r5.2.1 r5.2.2 z1s)
 else
 (Z5O x1 x5 x8 zm zl zm z7 zh zj z2 z6 z1s))))
theorem Zh0 x1 x5 x8 zl zm z7 zh zj z2 z6 b1 (z1s : List Z8) zn zd zG zD z1T (zu : ZL zd = true) (z15 : ZL zG = true) (zV : ZL zD = true) : Sim (Z1G zl z7 zh zj zn zd) (Z4Q x1 x5 x8 zl zm z7 zh zj z2 z6 z1s) (Zv0 1 (.ptr 0 0) (iv x1) (.ptr 1 0) (bv x5) (.ptr 2 0) (.clo 80 [] [(.ptr 2 0)]) (iv x8) [(ZK zl zm z7 zh zj z2 z6 zn zd), (Zk b1 zG zD), [(ZO z1T (z1s.map Zp))]]) := by
 unfold Z4Q
 refine zf (ZBE ..)<|ze<|zq<|zq<|zq<|ze<|zi fun r1 hr1 => ?_
 obtain ⟨_, er1, _, rfl⟩ := Z2S (Z1y.mk zl zm z7 zh zj (Z12.mk z2 z6)) zn zd zu r1 hr1
 refine zc [0] (iv r1) [(ZK zl zm z7 zh zj z2 z6 zn zd), (Zk b1 zG zD), [(ZO z1T (z1s.map Zp))]] er1<|ze<|ze<|zq ?_
 refine za (r1 == (-1)) ?_ ?_
 ·refine ze<|zi fun r2 hr2 => ?_
  obtain ⟨_, er2, _, rfl⟩ := Z1g 22 x1 zl zm z7 zh zj z2 z6 zn zd zu r2 hr2
  refine zc [0] (.p (.tup [])) [(ZK zl r2.1 z7 zh zj r2.2.1 r2.2.2 zn zd), (Zk b1 zG zD), [(ZO z1T (z1s.map Zp))]] er2 ?_
  exact zk (Z2P x1 x5 x8 zl r2.1 z7 zh zj r2.2.1 r2.2.2 b1 z1s zn zd zG zD z1T zu z15 zV)
 ·refine ze<|zq ?_
  refine za (r1 == 93) ?_ ?_
  ·refine ze<|zq ?_
   refine za (x8 == 0) ?_ ?_
   ·refine ze<|zi fun r3 hr3 => ?_
    obtain ⟨_, er3, _, rfl⟩ := Z1g 22 x1 zl zm z7 zh zj z2 z6 zn zd zu r3 hr3
    refine zc [0] (.p (.tup [])) [(ZK zl r3.1 z7 zh zj r3.2.1 r3.2.2 zn zd), (Zk b1 zG zD), [(ZO z1T (z1s.map Zp))]] er3 ?_
    exact zk (Z2P x1 x5 x8 zl r3.1 z7 zh zj r3.2.1 r3.2.2 b1 z1s zn zd zG zD z1T zu z15 zV)
   ·exact zk (ZfX x5 zl zm z7 zh zj z2 z6 b1 z1s zn zd zG zD z1T zu z15 zV)
  ·refine ze<|zq ?_
   refine za (r1 == 91) ?_ ?_
   ·refine za (r1 == 91) ?_ ?_
    ·refine ze<|zi fun r4 hr4 => ?_
     obtain ⟨_, er4, _, rfl⟩ := Z1g 22 zm zl zm z7 zh zj z2 z6 zn zd zu r4 hr4
     refine zc [0] (.p (.tup [])) [(ZK zl r4.1 z7 zh zj r4.2.1 r4.2.2 zn zd), (Zk b1 zG zD), [(ZO z1T (z1s.map Zp))]] er4 ?_
     exact zk (Z2P x1 x5 x8 zl r4.1 z7 zh zj r4.2.1 r4.2.2 b1 z1s zn zd zG zD z1T zu z15 zV)
    ·exact zk (Zb4 x1 x5 x8 zm zl zm z7 zh zj z2 z6 b1 z1s zn zd zG zD z1T zu z15 zV)
   ·refine ze<|zq ?_
    refine za (r1 == 45) ?_ ?_
    ·refine ze<|zi fun r5 hr5 => ?_
     obtain ⟨_, er5, _, rfl⟩ := Z1g 22 zm zl zm z7 zh zj z2 z6 zn zd zu r5 hr5
     refine zc [0] (.p (.tup [])) [(ZK zl r5.1 z7 zh zj r5.2.1 r5.2.2 zn zd), (Zk b1 zG zD), [(ZO z1T (z1s.map Zp))]] er5 ?_
     exact zk (Z2P x1 x5 x8 zl r5.1 z7 zh zj r5.2.1 r5.2.2 b1 z1s zn zd zG zD z1T zu z15 zV)
    ·exact zk (Zb4 x1 x5 x8 zm zl zm z7 zh zj z2 z6 b1 z1s zn zd zG zD z1T zu z15 zV)
def Z9p (zm z2 z6 : Int) : Option (Z9 × Int × Int × Int) :=
 some ((Z9.mk 0 0 0 0 0 ([] : List Z8) ([] : List Z9)), zm, z2, z6)
theorem Zg0 zl zm z7 zh zj z2 z6 b1 zn zd zG zD (zu : ZL zd = true) (z15 : ZL zG = true) (zV : ZL zD = true) : Sim (Z1G zl z7 zh zj zn zd) (Z9p zm z2 z6) (ZrX 1 (.ptr 1 0) [(ZK zl zm z7 zh zj z2 z6 zn zd), (Zk b1 zG zD)]) := by
 unfold Z9p
 refine zf (ZyH ..)<|ze<|zq<|zt [(ZK zl zm z7 zh zj z2 z6 zn zd), (Zk Z1A .nl .nl)] ?_
 exact zr ((pA_ (ZH Z1A .sh .sh)), [(ZK zl zm z7 zh zj z2 z6 zn zd), (Zk Z1A .nl .nl)]) ⟨_, rfl⟩
def Z6k (x1 : Int) (x5 : Bool) (x8 : Int) (zl : List Int) (zm z7 zh : Int) (zj : List Zz) (z2 z6 : Int) (z1s : List Z8) : Option (Z9 × Int × Int × Int) :=
 if (z2 == 0) = true then
 (Z4Q x1 x5 x8 zl zm z7 zh zj z2 z6 z1s)
 else
 (Z9p zm z2 z6)
theorem ZgZ x1 x5 x8 zl zm z7 zh zj z2 z6 b1 (z1s : List Z8) zn zd zG zD z1T (zu : ZL zd = true) (z15 : ZL zG = true) (zV : ZL zD = true) : Sim (Z1G zl z7 zh zj zn zd) (Z6k x1 x5 x8 zl zm z7 zh zj z2 z6 z1s) (ZmS 1 (.ptr 0 0) (iv x1) (.ptr 1 0) (bv x5) (.ptr 2 0) (.clo 80 [] [(.ptr 2 0)]) (iv x8) [(ZK zl zm z7 zh zj z2 z6 zn zd), (Zk b1 zG zD), [(ZO z1T (z1s.map Zp))]]) := by
 unfold Z6k
 refine zf (ZBC ..)<|ze<|zq<|zq<|zq<|zq<|zq ?_
 refine za (z2 == 0) ?_ ?_
 ·exact zk (Zh0 x1 x5 x8 zl zm z7 zh zj z2 z6 b1 z1s zn zd zG zD z1T zu z15 zV)
 ·exact zk (Zg0 zl zm z7 zh zj z2 z6 b1 zn zd zG zD zu z15 zV)
theorem ZbK x1 x5 x8 zl zm z7 zh zj z2 z6 z1s {r} (h : Z6k x1 x5 x8 zl zm z7 zh zj z2 z6 z1s = some r) : Z46 x1 x5 x8 zl zm z7 zh zj z2 z6 z1s = some r :=
 Z1h (fun _ _ ha hb => ru_ (Zau _ _ _ _ _ _) (ha default .ex .ex .ex .ex .ex rfl rfl rfl) (hb default .ex .ex .ex .ex .ex rfl rfl rfl)) (fun b1 zn zd zG zD z1T zu z15 zV => ZgZ x1 x5 x8 zl zm z7 zh zj z2 z6 b1 z1s zn zd zG zD z1T zu z15 zV r h)
def Z5n (x2 x5 : Int) (zl : List Int) (zm z7 zh : Int) (zj : List Zz) (z2 z6 : Int) : Option (Int × (Own × (List Z8)) × Bool × Int × Int × Int) :=
 (Z7w x2 x5 zl zm z7 zh zj z2 z6).bind fun r1 =>
 some (r1.1, (.nl, ([] : List Z8)), false, r1.2.1, r1.2.2.1, r1.2.2.2)
theorem ZfI x2 x5 zl zm z7 zh zj z2 z6 zn zd (zu : ZL zd = true) : Sim (Z4t zl z7 zh zj zn zd) (Z5n x2 x5 zl zm z7 zh zj z2 z6) (Zs1 1 (.ptr 0 0) (iv x2) (iv x5) [(ZK zl zm z7 zh zj z2 z6 zn zd)]) := by
 unfold Z5n
 refine zf (ZyR ..)<|ze<|zi fun r1 hr1 => ?_
 obtain ⟨_, er1, _, rfl⟩ := Zdr x2 x5 zl zm z7 zh zj z2 z6 zn zd zu r1 hr1
 refine zc [0] (iv r1.1) [(ZK zl r1.2.1 z7 zh zj r1.2.2.1 r1.2.2.2 zn zd)] er1 ?_
 exact zr ((.p (.tup [(.v (.int .i64 r1.1)), (.lst .nl []), (.v (.bool false))])), [(ZK zl r1.2.1 z7 zh zj r1.2.2.1 r1.2.2.2 zn zd)]) ⟨_, rfl⟩
def Z7i (x2 x5 : Int) (zl : List Int) (zm z7 zh : Int) (zj : List Zz) (z2 z6 : Int) : Option (Int × (Own × (List Z8)) × Bool × Int × Int × Int) :=
 (Z3n zl zm).bind fun r1 =>
 (Z7G x2).bind fun r2 =>
 (nilO (shrO r2.1) r2.2).bind fun a3 =>
 if (!a3) = true then
 (some (0, ((shrO r2.1), r2.2), (decide (x2 < 97)), r1.2, z2, z6))
 else
 (Z5n x2 x5 zl r1.2 z7 zh zj z2 z6)
theorem Zg5 x2 x5 zl zm z7 zh zj z2 z6 zn zd (zu : ZL zd = true) : Sim (Z4t zl z7 zh zj zn zd) (Z7i x2 x5 zl zm z7 zh zj z2 z6) (Zvj 1 (.ptr 0 0) (iv x2) (iv x5) [(ZK zl zm z7 zh zj z2 z6 zn zd)]) := by
 unfold Z7i
 refine zf (ZBV ..)<|ze<|zi fun r1 hr1 => ?_
 obtain ⟨_, er1, _, rfl⟩ := Z3N zl zm z7 zh zj z2 z6 zn zd zu r1 hr1
 refine zc [0] (iv r1.1) [(ZK zl r1.2 z7 zh zj z2 z6 zn zd)] er1<|ze<|zi fun r2 hr2 => ?_
 obtain ⟨_, er2, _, rfl⟩ := Zbw x2 r2 hr2
 refine zc [] (ZO r2.1 (r2.2.map Zp)) [(ZK zl r1.2 z7 zh zj z2 z6 zn zd)] er2<|ze<|zi fun a3 ha3 => zp (bv (!a3)) (et_ (Zmc (P := PP) (t := 27) (c := .slice none 0 0) (e := Zp) (by kernel_rfl) ha3)) ?_
 refine za (!a3) ?_ ?_
 ·refine ze<|zq ?_
  exact zr ((.p (.tup [(.v (.int .i64 0)), (.lst (shrO r2.1) (r2.2.map Zp)), (.v (.bool (decide (x2 < 97))))])), [(ZK zl r1.2 z7 zh zj z2 z6 zn zd)]) ⟨_, rfl⟩
 ·exact zk (ZfI x2 x5 zl r1.2 z7 zh zj z2 z6 zn zd zu)
def Z7h (x5 : Int) (zl : List Int) (zm z7 zh : Int) (zj : List Zz) (z2 z6 : Int) : Option (Int × (Own × (List Z8)) × Bool × Int × Int × Int) :=
 (Z2G (Z1y.mk zl zm z7 zh zj (Z12.mk z2 z6))).bind fun r1 =>
 if (decide (r1 < 0)) = true then
 ((Z1c 21 x5 zl z2 z6).bind fun r2 =>
 some (0, (.nl, ([] : List Z8)), false, r2.1, r2.2.1, r2.2.2))
 else
 (Z7i r1 x5 zl zm z7 zh zj z2 z6)
theorem Zg4 x5 zl zm z7 zh zj z2 z6 zn zd (zu : ZL zd = true) : Sim (Z4t zl z7 zh zj zn zd) (Z7h x5 zl zm z7 zh zj z2 z6) (Zvi 1 (.ptr 0 0) (iv x5) [(ZK zl zm z7 zh zj z2 z6 zn zd)]) := by
 unfold Z7h
 refine zf (ZBU ..)<|ze<|zi fun r1 hr1 => ?_
 obtain ⟨_, er1, _, rfl⟩ := Z2S (Z1y.mk zl zm z7 zh zj (Z12.mk z2 z6)) zn zd zu r1 hr1
 refine zc [0] (iv r1) [(ZK zl zm z7 zh zj z2 z6 zn zd)] er1<|ze<|zq ?_
 refine za (decide (r1 < 0)) ?_ ?_
 ·refine ze<|zi fun r2 hr2 => ?_
  obtain ⟨_, er2, _, rfl⟩ := Z1g 21 x5 zl zm z7 zh zj z2 z6 zn zd zu r2 hr2
  refine zc [0] (.p (.tup [])) [(ZK zl r2.1 z7 zh zj r2.2.1 r2.2.2 zn zd)] er2<|ze ?_
  exact zr ((.p (.tup [(.v (.int .i64 0)), (.lst .nl []), (.v (.bool false))])), [(ZK zl r2.1 z7 zh zj r2.2.1 r2.2.2 zn zd)]) ⟨_, rfl⟩
 ·exact zk (Zg5 r1 x5 zl zm z7 zh zj z2 z6 zn zd zu)
def Z6U (zl : List Int) (zm z7 zh : Int) (zj : List Zz) (z2 z6 : Int) : Option (Int × (Own × (List Z8)) × Bool × Int × Int × Int) :=
 (Z3n zl zm).bind fun r1 =>
 if (r1.1 != 92) = true then
 (some (r1.1, (.nl, ([] : List Z8)), false, r1.2, z2, z6))
 else
 (Z7h zm zl r1.2 z7 zh zj z2 z6)
theorem Zig zl zm z7 zh zj z2 z6 zn zd (zu : ZL zd = true) : Sim (Z4t zl z7 zh zj zn zd) (Z6U zl zm z7 zh zj z2 z6) (EE 81 [(.ptr 0 0)] [(ZK zl zm z7 zh zj z2 z6 zn zd)]) := by
 unfold Z6U
 refine zf (ZHN ..)<|ze<|ze<|zq<|zq<|zq<|ze<|zi fun r1 hr1 => ?_
 obtain ⟨_, er1, _, rfl⟩ := Z3N zl zm z7 zh zj z2 z6 zn zd zu r1 hr1
 refine zc [0] (iv r1.1) [(ZK zl r1.2 z7 zh zj z2 z6 zn zd)] er1<|ze<|zq ?_
 refine za (r1.1 != 92) ?_ ?_
 ·refine ze ?_
  exact zr ((.p (.tup [(.v (.int .i64 r1.1)), (.lst .nl []), (.v (.bool false))])), [(ZK zl r1.2 z7 zh zj z2 z6 zn zd)]) ⟨_, rfl⟩
 ·exact zk (Zg4 zm zl r1.2 z7 zh zj z2 z6 zn zd zu)
theorem Zcw zl zm z7 zh zj z2 z6 {r} (h : Z6U zl zm z7 zh zj z2 z6 = some r) : Z5D zl zm z7 zh zj z2 z6 = some r :=
 Z1h (fun _ _ ha hb => ru_ (Zjn _ _ _ _ _ _) (ha .ex .ex rfl) (hb .ex .ex rfl)) (fun zn zd zu => Zig zl zm z7 zh zj z2 z6 zn zd zu r h)
end Go.Proofs.YtocikhhkicahoaaDoor.N2
end
