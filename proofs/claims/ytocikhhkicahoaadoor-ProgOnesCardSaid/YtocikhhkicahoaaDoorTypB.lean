/- The functions' typed texts. No condition. -/
import Derived.Test.YtocikhhkicahoaaDoorTypA

set_option linter.unusedSimpArgs false
set_option linter.unusedVariables false
set_option linter.defProp false
noncomputable section
namespace Go.Proofs.YtocikhhkicahoaaDoor.N2
open Go Go.Abs
set_option maxRecDepth 100000
def Z3W : Option Bool :=
 some true
theorem Z75 : Sim ZQ Z3W (ZpU 0 []) := by
 unfold Z3W
 refine zf (ZCr ..)<|ze ?_
 exact zr ((bv true), []) ⟨_, rfl⟩
def Z6j (x0 : List Z8) : Option Bool :=
 Z4M x0 (ByteArray.mk #[91]) x0 (x0.length : Int) 0
theorem ZeC (x0 : List Z8) ox0 : Sim ZQ (Z6j x0) (ZxN 0 (ZP ox0 (x0.map Zv)) []) := by
 unfold Z6j
 refine zf (ZCs ..)<|ze<|ze<|zp (iv (x0.length : Int)) (et_ (Z30 (P := PP) (t := 28) (d := 47) (by kernel_rfl) Zv (shrO ox0) x0)) ?_
 exact zk (Za8 x0 (ByteArray.mk #[91]) x0 (x0.length : Int) 0 ox0 (shrO ox0))
def Z6i (x0 : List Z8) : Option Bool :=
 if (decide (5 < (x0.length : Int))) = true then
 Z3W
 else
 (if ((x0.length : Int) == 0) = true then
 Z3W
 else
 ((Z4c x0).bind fun r1 =>
 if (!r1) = true then
 Z3W
 else
 (Z6j x0)))
theorem ZeB (x0 : List Z8) ox0 : Sim ZQ (Z6i x0) (ZxM 0 (ZP ox0 (x0.map Zv)) []) := by
 unfold Z6i
 refine zf (ZCq ..)<|ze<|zp (iv (x0.length : Int)) (et_ (Z30 (P := PP) (t := 28) (d := 47) (by kernel_rfl) Zv (shrO ox0) x0))<|zq ?_
 refine za (decide (5 < (x0.length : Int))) ?_ ?_
 ·exact zk Z75
 ·refine zp (iv (x0.length : Int)) (et_ (Z30 (P := PP) (t := 28) (d := 47) (by kernel_rfl) Zv (shrO ox0) x0))<|zq ?_
  refine za ((x0.length : Int) == 0) ?_ ?_
  ·exact zk Z75
  ·refine zi fun r1 hr1 => ?_
   obtain ⟨_, er1, _, rfl⟩ := Z6Q x0 .sh r1 hr1
   refine zc [] (bv r1) [] er1<|zq ?_
   refine za (!r1) ?_ ?_
   ·exact zk Z75
   ·exact zk (ZeC x0 ox0)
def Z77 (x0 : List Z8) : Option Bool :=
 (Z8e).bind fun r1 =>
 if (!r1) = true then
 (some false)
 else
 (Z6i x0)
theorem ZfB (x0 : List Z8) ox0 : Sim ZQ (Z77 x0) (EE 5 [(ZP ox0 (x0.map Zv))] []) := by
 unfold Z77
 refine zf (ZHq ..)<|ze<|ze<|zi fun r1 hr1 => ?_
 obtain ⟨_, er1, _, rfl⟩ := ZhF r1 hr1
 refine zc [] (bv r1) [] er1<|zq ?_
 refine za (!r1) ?_ ?_
 ·refine ze ?_
  exact zr ((bv false), []) ⟨_, rfl⟩
 ·exact zk (ZeB x0 ox0)
theorem Zgx x0 {r} (h : Z77 x0 = some r) : Z9p x0 = some r :=
 Z1i (fun _ _ ha hb => ru_ Z2q (ha .ex) (hb .ex)) (fun ox0 => ZfB x0 ox0 r h)
def Z5Y (x0 : List Z8) (x3 : ByteArray) (x29 : List Z8) (x30 x31 : Int) : Option Bool :=
 Z4M x0 x3 x29 x30 (IntKind.i64.wrap (x31 + 1))
theorem ZdW (x0 : List Z8) x3 (x29 : List Z8) x30 x31 ox0 ox29 : Sim ZQ (Z5Y x0 x3 x29 x30 x31) (Zua 0 (ZP ox0 (x0.map Zv)) (.p (.v (.string x3))) (ZP ox29 (x29.map Zv)) (iv x30) (iv x31) []) := by
 unfold Z5Y
 refine zf (ZAo ..)<|ze<|zq ?_
 exact zk (Za8 x0 x3 x29 x30 (IntKind.i64.wrap (x31 + 1)) ox0 ox29)
def Z5X (x0 : List Z8) (x3 : ByteArray) (x29 : List Z8) (x30 x31 : Int) (b0 : Z8) : Option Bool :=
 (Z8S b0.Lo).bind fun r1 =>
 (sadd r1 (ByteArray.mk #[45])).bind fun a2 =>
 (Z8S b0.Hi).bind fun r3 =>
 (sadd a2 r3).bind fun a4 =>
 (sadd x3 a4).bind fun a5 =>
 Z5Y x0 a5 x29 x30 x31
theorem ZdV (x0 : List Z8) x3 (x29 : List Z8) x30 x31 b0 ox0 ox29 : Sim ZQ (Z5X x0 x3 x29 x30 x31 b0) (Zu9 0 (ZP ox0 (x0.map Zv)) (.p (.v (.string x3))) (.ptr 0 0) (ZP ox29 (x29.map Zv)) (iv x30) (iv x31) [(Z1K b0)]) := by
 unfold Z5X
 refine zf (ZAn ..)<|ze<|zq<|zq<|zi fun r1 hr1 => ?_
 obtain ⟨_, er1, _, rfl⟩ := ZeS b0.Lo r1 hr1
 refine zc [] (.p (.v (.string r1))) [(Z1K b0)] er1<|zi fun a2 ha2 => zp (.p (.v (.string a2))) (et_ (ZcB (P := PP) (t := 9) ha2))<|zq<|zq<|zi fun r3 hr3 => ?_
 obtain ⟨_, er3, _, rfl⟩ := ZeS b0.Hi r3 hr3
 refine zc [] (.p (.v (.string r3))) [(Z1K b0)] er3<|zi fun a4 ha4 => zp (.p (.v (.string a4))) (et_ (ZcB (P := PP) (t := 9) ha4))<|zi fun a5 ha5 => zp (.p (.v (.string a5))) (et_ (ZcB (P := PP) (t := 9) ha5))<|zg ?_
 exact zk (ZdW x0 a5 x29 x30 x31 ox0 ox29)
def Z6k (x0 : List Z8) (x3 : ByteArray) (x29 : List Z8) (x30 x31 : Int) : Option Bool :=
 (lget x29 x31).bind fun a1 =>
 if (decide (255 < a1.Hi)) = true then
 (some true)
 else
 (Z5X x0 x3 x29 x30 x31 a1)
theorem ZeD (x0 : List Z8) x3 (x29 : List Z8) x30 x31 ox0 ox29 : Sim ZQ (Z6k x0 x3 x29 x30 x31) (ZxO 0 (ZP ox0 (x0.map Zv)) (.p (.v (.string x3))) (ZP ox29 (x29.map Zv)) (iv x30) (iv x31) []) := by
 unfold Z6k
 refine zf (ZCt ..)<|ze<|zi fun a1 ha1 => zp (.cptr (ZN a1)) (et_ (Z2v (o := ox29) (k := .i64) (n := 2) (e := Zv) (cs := Z4y) (fun _ => rfl) (fun _ => rfl) (by decide) ha1))<|zq<|zz (.ptr 0 0) [(Z1K ZvW)]<|zt [(Z1K a1)]<|ze<|zq<|zq<|zq ?_
 refine za (decide (255 < a1.Hi)) ?_ ?_
 ·refine ze ?_
  exact zr ((bv true), [(Z1K a1)]) ⟨_, rfl⟩
 ·exact zk (ZdV x0 x3 x29 x30 x31 a1 ox0 ox29)
def Z5Z (x0 : List Z8) (x3 : ByteArray) : Option Bool :=
 (sadd x3 (ByteArray.mk #[93])).bind fun a1 =>
 (Z3r a1).bind fun r2 =>
 (ssl x3 1 (x3.size : Int)).bind fun a3 =>
 (sadd (ByteArray.mk #[91, 94]) a3).bind fun a4 =>
 (sadd a4 (ByteArray.mk #[93])).bind fun a5 =>
 (Z3r a5).bind fun r6 =>
 (Z8C x0).bind fun r7 =>
 if (r2.2.1 == 0) = true then
 (if (r2.2.2 == 0) = true then
 (if (r6.2.1 == 0) = true then
 (if (r6.2.2 == 0) = true then
 (if ((r2.1.length : Int) == 4) = true then
 (if ((r6.1.length : Int) == 4) = true then
 ((lget r2.1 1).bind fun a8 =>
 if (a8.Op == 1) = true then
 ((lget r2.1 1).bind fun a9 =>
 (Z6u a9.Set x0).bind fun r10 =>
 if r10 = true then
 ((lget r6.1 1).bind fun a11 =>
 (Z6u a11.Set r7.1).bind fun r12 =>
 some r12)
 else
 (some false))
 else
 (some false))
 else
 (some false))
 else
 (some false))
 else
 (some false))
 else
 (some false))
 else
 (some false))
 else
 (some false)
theorem ZdX (x0 : List Z8) x3 ox0 : Sim ZQ (Z5Z x0 x3) (Zub 0 (ZP ox0 (x0.map Zv)) (.p (.v (.string x3))) []) := by
 unfold Z5Z
 refine zf (ZAp ..)<|ze<|zi fun a1 ha1 => zp (.p (.v (.string a1))) (et_ (ZcB (P := PP) (t := 9) ha1))<|zi fun r2 hr2 => ?_
 obtain ⟨_, er2, _, rfl⟩ := Z7O a1 r2 hr2
 refine zc [] (.p (.tup [(.lst .sh (r2.1.map ZD)), (.v (.int .i64 r2.2.1)), (.v (.int .i64 r2.2.2))])) [] er2<|zq<|zq<|zq<|ze<|zi fun a3 ha3 => zp (.p (.v (.string a3))) (et_ (ZrV (lo := (some (iv 1))) (hi := none) (by kernel_rfl) (by kernel_rfl) ha3))<|zi fun a4 ha4 => zp (.p (.v (.string a4))) (et_ (ZcB (P := PP) (t := 9) ha4))<|zi fun a5 ha5 => zp (.p (.v (.string a5))) (et_ (ZcB (P := PP) (t := 9) ha5))<|zi fun r6 hr6 => ?_
 obtain ⟨_, er6, _, rfl⟩ := Z7O a5 r6 hr6
 refine zc [] (.p (.tup [(.lst .sh (r6.1.map ZD)), (.v (.int .i64 r6.2.1)), (.v (.int .i64 r6.2.2))])) [] er6<|zq<|zq<|zq<|ze<|zi fun r7 hr7 => ?_
 obtain ⟨_, er7, _, rfl⟩ := Zc8 x0 .sh r7 hr7
 refine zc [] (.p (.tup [(.lst .sh (r7.1.map Zv)), (.v (.int .i64 r7.2))])) [] er7<|zq<|zq<|ze<|zq ?_
 refine za (r2.2.1 == 0) ?_ ?_
 ·refine zq ?_
  refine za (r2.2.2 == 0) ?_ ?_
  ·refine zq ?_
   refine za (r6.2.1 == 0) ?_ ?_
   ·refine zq ?_
    refine za (r6.2.2 == 0) ?_ ?_
    ·refine zp (iv (r2.1.length : Int)) (et_ (Z30 (P := PP) (t := 23) (d := 40) (by kernel_rfl) ZD .sh r2.1))<|zq ?_
     refine za ((r2.1.length : Int) == 4) ?_ ?_
     ·refine zp (iv (r6.1.length : Int)) (et_ (Z30 (P := PP) (t := 23) (d := 40) (by kernel_rfl) ZD .sh r6.1))<|zq ?_
      refine za ((r6.1.length : Int) == 4) ?_ ?_
      ·refine zi fun a8 ha8 => zp (.cptr (Z1m a8 .sh)) (et_ (Z2v (o := .sh) (k := .i64) (n := 6) (e := ZD) (cs := Z4a) (fun _ => rfl) (fun _ => rfl) (by decide) ha8))<|zq<|zq<|zq ?_
       refine za (a8.Op == 1) ?_ ?_
       ·refine zi fun a9 ha9 => zp (.cptr (Z1m a9 .sh)) (et_ (Z2v (o := .sh) (k := .i64) (n := 6) (e := ZD) (cs := Z4a) (fun _ => rfl) (fun _ => rfl) (by decide) ha9))<|zq<|zq<|zi fun r10 hr10 => ?_
        obtain ⟨_, er10, _, rfl⟩ := ZbQ a9.Set x0 .sh .sh r10 hr10
        refine zc [] (bv r10) [] er10 ?_
        refine za r10 ?_ ?_
        ·refine zi fun a11 ha11 => zp (.cptr (Z1m a11 .sh)) (et_ (Z2v (o := .sh) (k := .i64) (n := 6) (e := ZD) (cs := Z4a) (fun _ => rfl) (fun _ => rfl) (by decide) ha11))<|zq<|zq<|zi fun r12 hr12 => ?_
         obtain ⟨_, er12, _, rfl⟩ := ZbQ a11.Set r7.1 .sh .sh r12 hr12
         refine zc [] (bv r12) [] er12 ?_
         exact zr ((bv r12), []) ⟨_, rfl⟩
        ·exact zr ((bv false), []) ⟨_, rfl⟩
       ·exact zr ((bv false), []) ⟨_, rfl⟩
      ·exact zr ((bv false), []) ⟨_, rfl⟩
     ·exact zr ((bv false), []) ⟨_, rfl⟩
    ·exact zr ((bv false), []) ⟨_, rfl⟩
   ·exact zr ((bv false), []) ⟨_, rfl⟩
  ·exact zr ((bv false), []) ⟨_, rfl⟩
 ·exact zr ((bv false), []) ⟨_, rfl⟩
def Z4K (x0 : List Z8) (x3 : ByteArray) (x29 : List Z8) (x30 x31 : Int) : Option Bool :=
 if (decide (x31 < x30)) = true then
 (Z6k x0 x3 x29 x30 x31)
 else
 (Z5Z x0 x3)
theorem ZeA (x0 : List Z8) x3 (x29 : List Z8) x30 x31 ox0 ox29 : Sim ZQ (Z4K x0 x3 x29 x30 x31) (ZpT 0 (ZP ox0 (x0.map Zv)) (.p (.v (.string x3))) (ZP ox29 (x29.map Zv)) (iv x30) (iv x31) []) := by
 unfold Z4K
 refine zf (ZCp ..)<|ze<|zq ?_
 refine za (decide (x31 < x30)) ?_ ?_
 ·exact zk (ZeD x0 x3 x29 x30 x31 ox0 ox29)
 ·exact zk (ZdX x0 x3 ox0)
theorem Za7 x0 x3 x29 x30 x31 {r} (h : Z4K x0 x3 x29 x30 x31 = some r) : Z4M x0 x3 x29 x30 x31 = some r :=
 Z1i (fun _ _ ha hb => ru_ Z2q (ha .ex .ex) (hb .ex .ex)) (fun ox0 ox29 => ZeA x0 x3 x29 x30 x31 ox0 ox29 r h)
def Z31 : Option Bool :=
 some false
theorem Z3F : Sim ZQ Z31 (Zjf 0 []) := by
 unfold Z31
 refine zf (ZCu ..)<|ze ?_
 exact zr ((bv false), []) ⟨_, rfl⟩
def Z6W (x1 x4 : List Zw) : Option Bool :=
 (lget x1 1).bind fun a1 =>
 if (a1.Op == 3) = true then
 ((lget x1 1).bind fun a2 =>
 if (a2.A == 2) = true then
 ((lget x1 1).bind fun a3 =>
 if (a3.B == 4) = true then
 ((lget x1 3).bind fun a4 =>
 if (a4.Op == 2) = true then
 ((lget x1 3).bind fun a5 =>
 if (a5.A == 5) = true then
 ((lget x4 4).bind fun a6 =>
 if (a6.Op == 11) = true then
 ((lget x4 1).bind fun a7 =>
 if (a7.B == 6) = true then
 ((ZeT x4).bind fun r8 =>
 some (r8 == 1))
 else
 (some false))
 else
 (some false))
 else
 (some false))
 else
 (some false))
 else
 (some false))
 else
 (some false))
 else
 (some false)
theorem Zfj (x1 x4 : List Zw) ox1 ox4 : Sim ZQ (Z6W x1 x4) (Zyd 0 (ZP ox1 (x1.map ZD)) (ZP ox4 (x4.map ZD)) []) := by
 unfold Z6W
 refine zf (ZCv ..)<|ze<|zi fun a1 ha1 => zp (.cptr (Z1m a1 .sh)) (et_ (Z2v (o := (shrO ox1)) (k := .i64) (n := 6) (e := ZD) (cs := Z4a) (fun _ => rfl) (fun _ => rfl) (by decide) ha1))<|zq<|zq<|zq ?_
 refine za (a1.Op == 3) ?_ ?_
 ·refine zi fun a2 ha2 => zp (.cptr (Z1m a2 .sh)) (et_ (Z2v (o := (shrO ox1)) (k := .i64) (n := 6) (e := ZD) (cs := Z4a) (fun _ => rfl) (fun _ => rfl) (by decide) ha2))<|zq<|zq<|zq ?_
  refine za (a2.A == 2) ?_ ?_
  ·refine zi fun a3 ha3 => zp (.cptr (Z1m a3 .sh)) (et_ (Z2v (o := (shrO ox1)) (k := .i64) (n := 6) (e := ZD) (cs := Z4a) (fun _ => rfl) (fun _ => rfl) (by decide) ha3))<|zq<|zq<|zq ?_
   refine za (a3.B == 4) ?_ ?_
   ·refine zi fun a4 ha4 => zp (.cptr (Z1m a4 .sh)) (et_ (Z2v (o := (shrO ox1)) (k := .i64) (n := 6) (e := ZD) (cs := Z4a) (fun _ => rfl) (fun _ => rfl) (by decide) ha4))<|zq<|zq<|zq ?_
    refine za (a4.Op == 2) ?_ ?_
    ·refine zi fun a5 ha5 => zp (.cptr (Z1m a5 .sh)) (et_ (Z2v (o := (shrO ox1)) (k := .i64) (n := 6) (e := ZD) (cs := Z4a) (fun _ => rfl) (fun _ => rfl) (by decide) ha5))<|zq<|zq<|zq ?_
     refine za (a5.A == 5) ?_ ?_
     ·refine zi fun a6 ha6 => zp (.cptr (Z1m a6 .sh)) (et_ (Z2v (o := (shrO ox4)) (k := .i64) (n := 6) (e := ZD) (cs := Z4a) (fun _ => rfl) (fun _ => rfl) (by decide) ha6))<|zq<|zq<|zq ?_
      refine za (a6.Op == 11) ?_ ?_
      ·refine zi fun a7 ha7 => zp (.cptr (Z1m a7 .sh)) (et_ (Z2v (o := (shrO ox4)) (k := .i64) (n := 6) (e := ZD) (cs := Z4a) (fun _ => rfl) (fun _ => rfl) (by decide) ha7))<|zq<|zq<|zq ?_
       refine za (a7.B == 6) ?_ ?_
       ·refine zi fun r8 hr8 => ?_
        obtain ⟨_, er8, _, rfl⟩ := Zqo x4 .sh r8 hr8
        refine zc [] (iv r8) [] er8<|zq ?_
        exact zr ((bv (r8 == 1)), []) ⟨_, rfl⟩
       ·exact zr ((bv false), []) ⟨_, rfl⟩
      ·exact zr ((bv false), []) ⟨_, rfl⟩
     ·exact zr ((bv false), []) ⟨_, rfl⟩
    ·exact zr ((bv false), []) ⟨_, rfl⟩
   ·exact zr ((bv false), []) ⟨_, rfl⟩
  ·exact zr ((bv false), []) ⟨_, rfl⟩
 ·exact zr ((bv false), []) ⟨_, rfl⟩
def Z87 : Option Bool :=
 (Z3r (ByteArray.mk #[97, 124, 98])).bind fun r1 =>
 (Z3r (ByteArray.mk #[97, 42])).bind fun r2 =>
 if (r1.2.1 != 0) = true then
 Z31
 else
 (if (r1.2.2 != 0) = true then
 Z31
 else
 (if (r2.2.1 != 0) = true then
 Z31
 else
 (if (r2.2.2 != 0) = true then
 Z31
 else
 (if ((r1.1.length : Int) != 7) = true then
 Z31
 else
 (if ((r2.1.length : Int) != 8) = true then
 Z31
 else
 (Z6W r1.1 r2.1))))))
theorem Zhc : Sim ZQ Z87 (EE 8 [] []) := by
 unfold Z87
 refine zf (ZHC ..)<|ze<|ze<|zi fun r1 hr1 => ?_
 obtain ⟨_, er1, _, rfl⟩ := Z7O (ByteArray.mk #[97, 124, 98]) r1 hr1
 refine zc [] (.p (.tup [(.lst .sh (r1.1.map ZD)), (.v (.int .i64 r1.2.1)), (.v (.int .i64 r1.2.2))])) [] er1<|zq<|zq<|zq<|ze<|zi fun r2 hr2 => ?_
 obtain ⟨_, er2, _, rfl⟩ := Z7O (ByteArray.mk #[97, 42]) r2 hr2
 refine zc [] (.p (.tup [(.lst .sh (r2.1.map ZD)), (.v (.int .i64 r2.2.1)), (.v (.int .i64 r2.2.2))])) [] er2<|zq<|zq<|zq<|ze<|zq ?_
 refine za (r1.2.1 != 0) ?_ ?_
 ·exact zk Z3F
 ·refine zq ?_
  refine za (r1.2.2 != 0) ?_ ?_
  ·exact zk Z3F
  ·refine zq ?_
   refine za (r2.2.1 != 0) ?_ ?_
   ·exact zk Z3F
   ·refine zq ?_
    refine za (r2.2.2 != 0) ?_ ?_
    ·exact zk Z3F
    ·refine zp (iv (r1.1.length : Int)) (et_ (Z30 (P := PP) (t := 23) (d := 40) (by kernel_rfl) ZD .sh r1.1))<|zq ?_
     refine za ((r1.1.length : Int) != 7) ?_ ?_
     ·exact zk Z3F
     ·refine zp (iv (r2.1.length : Int)) (et_ (Z30 (P := PP) (t := 23) (d := 40) (by kernel_rfl) ZD .sh r2.1))<|zq ?_
      refine za ((r2.1.length : Int) != 8) ?_ ?_
      ·exact zk Z3F
      ·exact zk (Zfj r1.1 r2.1 .sh .sh)
theorem ZhE {r} (h : Z87 = some r) : Z8e = some r :=
 Z1i (fun _ _ ha hb => ru_ Z2q ha hb) (Zhc r h)
def Z7M (b0 : Z1d) : Option ((List Zw) × Int × Int) :=
 (ZaW b0).bind fun r1 =>
 some (r1.1, 0, r1.2)
theorem Zgz b0 z13 zT : Sim Z76 (Z7M b0) (Zyg 0 (.ptr 0 0) [(ZS b0 z13 zT)]) := by
 unfold Z7M
 refine zf (ZCw ..)<|ze<|zq<|zi fun r1 hr1 => ?_
 obtain ⟨_, er1, _, rfl⟩ := ZnY b0 .sh .sh r1 hr1
 refine zc [] (.p (.tup [(.lst .sh (r1.1.map ZD)), (.v (.int .i64 r1.2))])) [(ZS b0 z13 zT)] er1<|zq<|zq<|ze ?_
 exact zr ((.p (.tup [(.lst .sh (r1.1.map ZD)), (.v (.int .i64 0)), (.v (.int .i64 r1.2))])), [(ZS b0 z13 zT)]) ⟨_, rfl⟩
def Z90 (x0 : ByteArray) : Option ((List Zw) × Int × Int) :=
 (ZdQ x0).bind fun r1 =>
 if (r1.2.Code != 0) = true then
 (some (([] : List Zw), r1.2.Code, 0))
 else
 (Z7M r1.1)
theorem Zir x0 : Sim Z76 (Z90 x0) (EE 9 [(.p (.v (.string x0)))] []) := by
 unfold Z90
 refine zf (ZHE ..)<|ze<|ze<|zi fun r1 hr1 => ?_
 obtain ⟨_, er1, _, rfl⟩ := Zov x0 r1 hr1
 refine zc [] (.p (.tup [(.agg (Z2N r1.1 .sh .sh)), (.agg (Z5c r1.2))])) [] er1<|zq<|zq<|zz (.ptr 0 0) [(ZS Zdr .nl .nl)]<|zz (.ptr 1 0) [(ZS Zdr .nl .nl), (Z1A Zfi)]<|zt [(ZS r1.1 .sh .sh), (Z1A Zfi)]<|zt [(ZS r1.1 .sh .sh), (Z1A r1.2)]<|ze<|zq<|zq<|zq ?_
 refine za (r1.2.Code != 0) ?_ ?_
 ·refine ze<|zq<|zq ?_
  exact zr ((.p (.tup [(.lst .sh []), (.v (.int .i64 r1.2.Code)), (.v (.int .i64 0))])), [(ZS r1.1 .sh .sh), (Z1A r1.2)]) ⟨_, rfl⟩
 ·exact zk (Zgz r1.1 .sh .sh)
theorem Zj1 x0 {r} (h : Z90 x0 = some r) : Z3r x0 = some r :=
 Z1i (fun _ _ ha hb => ru_ Zjt ha hb) (Zir x0 r h)
def Z4T (z34 : List Int) (z1b : Int) (z23 : List Zz) (zU z1e z11 z1g z1f z12 z17 : Int) (z18 : List Z8) (z10 : List Zk) (z1C : Bool) : Option (Z1d × Z14) :=
 Z80 z23 (z23.length : Int) 0 z34 z1b zU z1e z11 z1g z1f z12 z17 z18 z10 z1C
theorem Zbj b0 b1 z34 z2W z1b z2D z23 zU z1e z11 z1g z1f z12 z17 z18 z10 z2r z1C z13 zT z3C z1L z1t z1o (z2u : ZM z13 = true) (z2j : ZM zT = true) (z3K : ZM z1L = true) : Sim Z45 (Z4T z34 z1b z23 zU z1e z11 z1g z1f z12 z17 z18 z10 z1C) (Zm9 0 (.ptr 0 0) (.ptr 1 0) (.ptr 2 0) (.ptr 3 0) [(ZS b0 z13 zT), (Z1A b1), (ZL z34 z2W z1b z2D z23 zU z1e z3C z1L), (Z9s z11 z1g z1f z12 z17 z18 z10 z2r z1C z1t z1o)]) := by
 unfold Z4T
 refine zf (Zz8 ..)<|ze<|zq<|zq<|zq<|zp (iv (z23.length : Int)) (et_ (Z30 (P := PP) (t := 55) (d := 61) (by kernel_rfl) Z2U (shrO z1L) z23)) ?_
 exact zk (Zfw z23 (z23.length : Int) 0 b0 b1 z34 z2W z1b z2D z23 zU z1e z11 z1g z1f z12 z17 z18 z10 z2r z1C (shrO z1L) z13 zT z3C z1L z1t z1o z2u z2j z3K)
def Z9h (z34 : List Int) (z2W z1b : Int) (z23 : List Zz) (zU z1e z11 z1g z1f z12 z17 : Int) (z18 : List Z8) (z10 : List Zk) (z1C : Bool) : Option (Z1d × Z14) :=
 (Z1c 20 z2W z34 zU z1e).bind fun r1 =>
 Z4T z34 z1b z23 r1.2.1 r1.2.2 z11 z1g z1f z12 z17 z18 z10 z1C
theorem Zl6 b0 b1 z34 z2W z1b z2D z23 zU z1e z11 z1g z1f z12 z17 z18 z10 z2r z1C z13 zT z3C z1L z1t z1o (z2u : ZM z13 = true) (z2j : ZM zT = true) (z3K : ZM z1L = true) : Sim Z45 (Z9h z34 z2W z1b z23 zU z1e z11 z1g z1f z12 z17 z18 z10 z1C) (ZsS 0 (.ptr 0 0) (.ptr 1 0) (.ptr 2 0) (.ptr 3 0) [(ZS b0 z13 zT), (Z1A b1), (ZL z34 z2W z1b z2D z23 zU z1e z3C z1L), (Z9s z11 z1g z1f z12 z17 z18 z10 z2r z1C z1t z1o)]) := by
 unfold Z9h
 refine zf (Zz7 ..)<|ze<|zq<|zq<|zq<|zi fun r1 hr1 => ?_
 obtain ⟨_, er1, _, rfl⟩ := Z1h 20 z2W z34 z2W z1b z2D z23 zU z1e z3C z1L z3K r1 hr1
 refine zc [2] (.p (.tup [])) [(ZS b0 z13 zT), (Z1A b1), (ZL z34 r1.1 z1b z2D z23 r1.2.1 r1.2.2 z3C z1L), (Z9s z11 z1g z1f z12 z17 z18 z10 z2r z1C z1t z1o)] er1 ?_
 exact zk (Zbj b0 b1 z34 r1.1 z1b z2D z23 r1.2.1 r1.2.2 z11 z1g z1f z12 z17 z18 z10 z2r z1C z13 zT z3C z1L z1t z1o z2u z2j z3K)
def Zbc (x0 : ByteArray) : Option (Z1d × Z14) :=
 (Z1H (ByteArray.mk #[40, 63, 105, 41]) (Z49 x0) 0).bind fun r1 =>
 (Z4d (Z49 x0) r1.2 0 0 ([] : List Zz) 0 0).bind fun r2 =>
 if (r2.2.2.2.2.2.1 == 0) = true then
 (if (decide (r2.2.1 < ((Z49 x0).length : Int))) = true then
 (Z9h (Z49 x0) r2.2.1 r2.2.2.1 r2.2.2.2.2.1 r2.2.2.2.2.2.1 r2.2.2.2.2.2.2 r2.1.Kind r2.1.Lo r2.1.Hi r2.1.Mode r2.1.Ref r2.1.Set r2.1.Kids r1.1)
 else
 (Z4T (Z49 x0) r2.2.2.1 r2.2.2.2.2.1 r2.2.2.2.2.2.1 r2.2.2.2.2.2.2 r2.1.Kind r2.1.Lo r2.1.Hi r2.1.Mode r2.1.Ref r2.1.Set r2.1.Kids r1.1))
 else
 (Z4T (Z49 x0) r2.2.2.1 r2.2.2.2.2.1 r2.2.2.2.2.2.1 r2.2.2.2.2.2.2 r2.1.Kind r2.1.Lo r2.1.Hi r2.1.Mode r2.1.Ref r2.1.Set r2.1.Kids r1.1)
theorem Zl5 x0 b0 b1 z13 zT (z2u : ZM z13 = true) (z2j : ZM zT = true) : Sim Z45 (Zbc x0) (ZsR 0 (.p (.v (.string x0))) (.ptr 0 0) (.ptr 1 0) [(ZS b0 z13 zT), (Z1A b1)]) := by
 unfold Zbc
 refine zf (Zz6 ..)<|ze<|zp (ZP .sh ((Z49 x0).map (eI .u8))) (et_ (ZDf (P := PP) (s := 9) (d := 54) (by kernel_rfl) (by kernel_rfl) x0))<|zq<|zx (.ptr 2 0) [(ZS b0 z13 zT), (Z1A b1), (Z3Q (Z1y.mk (Z49 x0) 0 0 0 ([] : List Zz) Zfi) .sh .nl)]<|ze<|zi fun r1 hr1 => ?_
 obtain ⟨_, er1, _, rfl⟩ := Z1Q (ByteArray.mk #[40, 63, 105, 41]) (Z49 x0) 0 0 0 ([] : List Zz) 0 0 .sh .nl rfl r1 hr1
 refine zc [2] (bv r1.1) [(ZS b0 z13 zT), (Z1A b1), (Z3Q (Z1y.mk (Z49 x0) r1.2 0 0 ([] : List Zz) Zfi) .sh .nl)] er1<|zq<|zz (.ptr 3 0) [(ZS b0 z13 zT), (Z1A b1), (Z3Q (Z1y.mk (Z49 x0) r1.2 0 0 ([] : List Zz) Zfi) .sh .nl), (ZS Zdr .nl .nl)]<|zt [(ZS b0 z13 zT), (Z1A b1), (Z3Q (Z1y.mk (Z49 x0) r1.2 0 0 ([] : List Zz) Zfi) .sh .nl), (ZS (Z1d.mk Z1B 0 r1.1) .nl .nl)]<|ze<|zi fun r2 hr2 => ?_
 obtain ⟨_, er2, zkE, _, zoH, rfl⟩ := Zep (Z49 x0) r1.2 0 0 ([] : List Zz) 0 0 .sh .nl rfl r2 hr2
 refine zc [2] (pA_ (ZI r2.1 .sh .sh)) [(ZS b0 z13 zT), (Z1A b1), (ZL (Z49 x0) r2.2.1 r2.2.2.1 r2.2.2.2.1 r2.2.2.2.2.1 r2.2.2.2.2.2.1 r2.2.2.2.2.2.2 .sh zkE), (ZS (Z1d.mk Z1B 0 r1.1) .nl .nl)] er2<|zq<|zt [(ZS b0 z13 zT), (Z1A b1), (ZL (Z49 x0) r2.2.1 r2.2.2.1 r2.2.2.2.1 r2.2.2.2.2.1 r2.2.2.2.2.2.1 r2.2.2.2.2.2.2 .sh zkE), (Z9s r2.1.Kind r2.1.Lo r2.1.Hi r2.1.Mode r2.1.Ref r2.1.Set r2.1.Kids 0 r1.1 .sh .sh)]<|ze<|zq<|zq<|zq<|zq<|zq ?_
 refine za (r2.2.2.2.2.2.1 == 0) ?_ ?_
 ·refine zq<|zq<|zq<|zq<|zq<|zq<|zp (iv ((Z49 x0).length : Int)) (et_ (Z30 (P := PP) (t := 54) (d := 5) (by kernel_rfl) (eI .u8) .sh (Z49 x0)))<|zq ?_
  refine za (decide (r2.2.1 < ((Z49 x0).length : Int))) ?_ ?_
  ·exact zk (Zl6 b0 b1 (Z49 x0) r2.2.1 r2.2.2.1 r2.2.2.2.1 r2.2.2.2.2.1 r2.2.2.2.2.2.1 r2.2.2.2.2.2.2 r2.1.Kind r2.1.Lo r2.1.Hi r2.1.Mode r2.1.Ref r2.1.Set r2.1.Kids 0 r1.1 z13 zT .sh zkE .sh .sh z2u z2j zoH)
  ·exact zk (Zbj b0 b1 (Z49 x0) r2.2.1 r2.2.2.1 r2.2.2.2.1 r2.2.2.2.2.1 r2.2.2.2.2.2.1 r2.2.2.2.2.2.2 r2.1.Kind r2.1.Lo r2.1.Hi r2.1.Mode r2.1.Ref r2.1.Set r2.1.Kids 0 r1.1 z13 zT .sh zkE .sh .sh z2u z2j zoH)
 ·exact zk (Zbj b0 b1 (Z49 x0) r2.2.1 r2.2.2.1 r2.2.2.2.1 r2.2.2.2.2.1 r2.2.2.2.2.2.1 r2.2.2.2.2.2.2 r2.1.Kind r2.1.Lo r2.1.Hi r2.1.Mode r2.1.Ref r2.1.Set r2.1.Kids 0 r1.1 z13 zT .sh zkE .sh .sh z2u z2j zoH)
def ZdM (x0 : ByteArray) : Option (Z1d × Z14) :=
 if (decide (256 < (x0.size : Int))) = true then
 (some ((Z1d.mk (Zk.mk 0 0 0 0 0 ([] : List Z8) ([] : List Zk)) 0 false), (Z14.mk 12 0)))
 else
 (Zbc x0)
theorem ZnU x0 : Sim Z45 (ZdM x0) (EE 10 [(.p (.v (.string x0)))] []) := by
 unfold ZdM
 refine zf (ZEO ..)<|ze<|zz (.ptr 0 0) [(ZS Zdr .nl .nl)]<|zz (.ptr 1 0) [(ZS Zdr .nl .nl), (Z1A Zfi)]<|ze<|zq<|zq ?_
 refine za (decide (256 < (x0.size : Int))) ?_ ?_
 ·refine ze<|zq<|zq<|zt [(ZS Zdr .nl .nl), (Z1A Zfi)]<|zt [(ZS Zdr .nl .nl), (Z1A (Z14.mk 12 0))] ?_
  exact zr ((.p (.tup [(.agg (Z2N Zdr .sh .sh)), (.agg (Z5c (Z14.mk 12 0)))])), [(ZS Zdr .nl .nl), (Z1A (Z14.mk 12 0))]) ⟨_, rfl⟩
 ·exact zk (Zl5 x0 Zdr Zfi .nl .nl rfl rfl)
theorem Zou x0 {r} (h : ZdM x0 = some r) : ZdQ x0 = some r :=
 Z1i (fun _ _ ha hb => ru_ Zjd ha hb) (ZnU x0 r h)
def Z5f (x50 : List Zz) (x51 x52 : Int) (z34 : List Int) (z1b zU z1e z11 z1g z1f z12 z17 : Int) (z18 : List Z8) (z10 : List Zk) (z1C : Bool) : Option (Z1d × Z14) :=
 Z80 x50 x51 (IntKind.i64.wrap (x52 + 1)) z34 z1b zU z1e z11 z1g z1f z12 z17 z18 z10 z1C
theorem Zen (x50 : List Zz) x51 x52 b0 b1 z34 z2W z1b z2D z23 zU z1e z11 z1g z1f z12 z17 z18 z10 z2r z1C ox50 z13 zT z3C z1L z1t z1o (z2u : ZM z13 = true) (z2j : ZM zT = true) (z3K : ZM z1L = true) : Sim Z45 (Z5f x50 x51 x52 z34 z1b zU z1e z11 z1g z1f z12 z17 z18 z10 z1C) (Znu 0 (.ptr 0 0) (.ptr 1 0) (.ptr 2 0) (.ptr 3 0) (ZP ox50 (x50.map Z2U)) (iv x51) (iv x52) [(ZS b0 z13 zT), (Z1A b1), (ZL z34 z2W z1b z2D z23 zU z1e z3C z1L), (Z9s z11 z1g z1f z12 z17 z18 z10 z2r z1C z1t z1o)]) := by
 unfold Z5f
 refine zf (Zxg ..)<|ze<|zq ?_
 exact zk (Zfw x50 x51 (IntKind.i64.wrap (x52 + 1)) b0 b1 z34 z2W z1b z2D z23 zU z1e z11 z1g z1f z12 z17 z18 z10 z2r z1C ox50 z13 zT z3C z1L z1t z1o z2u z2j z3K)
def Z8M (x50 : List Zz) (x51 x52 : Int) (z34 : List Int) (z1b zU z1e z11 z1g z1f z12 z17 : Int) (z18 : List Z8) (z10 : List Zk) (z1C : Bool) : Option (Z1d × Z14) :=
 (lget x50 x52).bind fun a1 =>
 if (decide (z1b < a1.group)) = true then
 ((Z1c 26 a1.at_ z34 zU z1e).bind fun r2 =>
 Z5f x50 x51 x52 z34 z1b r2.2.1 r2.2.2 z11 z1g z1f z12 z17 z18 z10 z1C)
 else
 (Z5f x50 x51 x52 z34 z1b zU z1e z11 z1g z1f z12 z17 z18 z10 z1C)
theorem Zkh (x50 : List Zz) x51 x52 b0 b1 z34 z2W z1b z2D z23 zU z1e z11 z1g z1f z12 z17 z18 z10 z2r z1C ox50 z13 zT z3C z1L z1t z1o (z2u : ZM z13 = true) (z2j : ZM zT = true) (z3K : ZM z1L = true) : Sim Z45 (Z8M x50 x51 x52 z34 z1b zU z1e z11 z1g z1f z12 z17 z18 z10 z1C) (Zrf 0 (.ptr 0 0) (.ptr 1 0) (.ptr 2 0) (.ptr 3 0) (ZP ox50 (x50.map Z2U)) (iv x51) (iv x52) [(ZS b0 z13 zT), (Z1A b1), (ZL z34 z2W z1b z2D z23 zU z1e z3C z1L), (Z9s z11 z1g z1f z12 z17 z18 z10 z2r z1C z1t z1o)]) := by
 unfold Z8M
 refine zf (Zxf ..)<|ze<|zi fun a1 ha1 => zp (.cptr (Ze9 a1)) (et_ (Z2v (o := ox50) (k := .i64) (n := 2) (e := Z2U) (cs := Zbh) (fun _ => rfl) (fun _ => rfl) (by decide) ha1))<|zq<|zz (.ptr 4 0) [(ZS b0 z13 zT), (Z1A b1), (ZL z34 z2W z1b z2D z23 zU z1e z3C z1L), (Z9s z11 z1g z1f z12 z17 z18 z10 z2r z1C z1t z1o), (Zeg (Zz.mk 0 0))]<|zt [(ZS b0 z13 zT), (Z1A b1), (ZL z34 z2W z1b z2D z23 zU z1e z3C z1L), (Z9s z11 z1g z1f z12 z17 z18 z10 z2r z1C z1t z1o), (Zeg a1)]<|ze<|zq<|zq<|zq<|zq<|zq<|zq ?_
 refine za (decide (z1b < a1.group)) ?_ ?_
 ·refine ze<|zq<|zq<|zi fun r2 hr2 => ?_
  obtain ⟨_, er2, _, rfl⟩ := Z1h 26 a1.at_ z34 z2W z1b z2D z23 zU z1e z3C z1L z3K r2 hr2
  refine zc [2] (.p (.tup [])) [(ZS b0 z13 zT), (Z1A b1), (ZL z34 r2.1 z1b z2D z23 r2.2.1 r2.2.2 z3C z1L), (Z9s z11 z1g z1f z12 z17 z18 z10 z2r z1C z1t z1o), (Zeg a1)] er2 ?_
  exact zk (Zen x50 x51 x52 b0 b1 z34 r2.1 z1b z2D z23 r2.2.1 r2.2.2 z11 z1g z1f z12 z17 z18 z10 z2r z1C ox50 z13 zT z3C z1L z1t z1o z2u z2j z3K)
 ·exact zk (Zen x50 x51 x52 b0 b1 z34 z2W z1b z2D z23 zU z1e z11 z1g z1f z12 z17 z18 z10 z2r z1C ox50 z13 zT z3C z1L z1t z1o z2u z2j z3K)
def Zdb (z1b z11 z1g z1f z12 z17 : Int) (z18 : List Z8) (z10 : List Zk) (z1C : Bool) : Option (Z1d × Z14) :=
 some ((Z1d.mk (Zk.mk z11 z1g z1f z12 z17 z18 z10) z1b z1C), (Z14.mk 0 0))
theorem Zkj b0 b1 z34 z2W z1b z2D z23 zU z1e z11 z1g z1f z12 z17 z18 z10 z2r z1C z13 zT z3C z1L z1t z1o (z2u : ZM z13 = true) (z2j : ZM zT = true) (z3K : ZM z1L = true) : Sim Z45 (Zdb z1b z11 z1g z1f z12 z17 z18 z10 z1C) (Zrh 0 (.ptr 0 0) (.ptr 1 0) (.ptr 2 0) (.ptr 3 0) [(ZS b0 z13 zT), (Z1A b1), (ZL z34 z2W z1b z2D z23 zU z1e z3C z1L), (Z9s z11 z1g z1f z12 z17 z18 z10 z2r z1C z1t z1o)]) := by
 unfold Zdb
 refine zf (Zxi ..)<|ze<|zq<|zq<|zq<|zq<|zt [(ZS b0 z13 zT), (Z1A b1), (ZL z34 z2W z1b z2D z23 zU z1e z3C z1L), (Z9s z11 z1g z1f z12 z17 z18 z10 z1b z1C z1t z1o)]<|ze<|zq<|zq<|zt [(Z9s z11 z1g z1f z12 z17 z18 z10 z1b z1C (shrO z1t) (shrO z1o)), (Z1A b1), (ZL z34 z2W z1b z2D z23 zU z1e z3C z1L), (Z9s z11 z1g z1f z12 z17 z18 z10 z1b z1C z1t z1o)]<|zt [(Z9s z11 z1g z1f z12 z17 z18 z10 z1b z1C (shrO z1t) (shrO z1o)), (Z1A Zfi), (ZL z34 z2W z1b z2D z23 zU z1e z3C z1L), (Z9s z11 z1g z1f z12 z17 z18 z10 z1b z1C z1t z1o)] ?_
 exact zr ((.p (.tup [(.agg (Z2N (Z1d.mk (Zk.mk z11 z1g z1f z12 z17 z18 z10) z1b z1C) .sh .sh)), (.agg (Z5c Zfi))])), [(Z9s z11 z1g z1f z12 z17 z18 z10 z1b z1C (shrO z1t) (shrO z1o)), (Z1A Zfi), (ZL z34 z2W z1b z2D z23 zU z1e z3C z1L), (Z9s z11 z1g z1f z12 z17 z18 z10 z1b z1C z1t z1o)]) ⟨_, rfl⟩
def Z8N (z1b zU z1e z11 z1g z1f z12 z17 : Int) (z18 : List Z8) (z10 : List Zk) (z1C : Bool) : Option (Z1d × Z14) :=
 if (zU != 0) = true then
 (some ((Z1d.mk (Zk.mk 0 0 0 0 0 ([] : List Z8) ([] : List Zk)) 0 false), (Z14.mk zU z1e)))
 else
 (Zdb z1b z11 z1g z1f z12 z17 z18 z10 z1C)
theorem Zki b0 b1 z34 z2W z1b z2D z23 zU z1e z11 z1g z1f z12 z17 z18 z10 z2r z1C z13 zT z3C z1L z1t z1o (z2u : ZM z13 = true) (z2j : ZM zT = true) (z3K : ZM z1L = true) : Sim Z45 (Z8N z1b zU z1e z11 z1g z1f z12 z17 z18 z10 z1C) (Zrg 0 (.ptr 0 0) (.ptr 1 0) (.ptr 2 0) (.ptr 3 0) [(ZS b0 z13 zT), (Z1A b1), (ZL z34 z2W z1b z2D z23 zU z1e z3C z1L), (Z9s z11 z1g z1f z12 z17 z18 z10 z2r z1C z1t z1o)]) := by
 unfold Z8N
 refine zf (Zxh ..)<|ze<|zq<|zq<|zq<|zq<|zq ?_
 refine za (zU != 0) ?_ ?_
 ·refine ze<|zq<|zq<|zq<|zq<|zt [(ZS Zdr .nl .nl), (Z1A b1), (ZL z34 z2W z1b z2D z23 zU z1e z3C z1L), (Z9s z11 z1g z1f z12 z17 z18 z10 z2r z1C z1t z1o)]<|zt [(ZS Zdr .nl .nl), (Z1A (Z14.mk zU z1e)), (ZL z34 z2W z1b z2D z23 zU z1e z3C z1L), (Z9s z11 z1g z1f z12 z17 z18 z10 z2r z1C z1t z1o)]<|zg ?_
  exact zr ((.p (.tup [(.agg (Z2N Zdr .sh .sh)), (.agg (Z5c (Z14.mk zU z1e)))])), [(ZS Zdr .nl .nl), (Z1A (Z14.mk zU z1e)), (ZL z34 z2W z1b z2D z23 zU z1e z3C z1L), (Z9s z11 z1g z1f z12 z17 z18 z10 z2r z1C z1t z1o)]) ⟨_, rfl⟩
 ·exact zk (Zkj b0 b1 z34 z2W z1b z2D z23 zU z1e z11 z1g z1f z12 z17 z18 z10 z2r z1C z13 zT z3C z1L z1t z1o z2u z2j z3K)
def Z6y (x50 : List Zz) (x51 x52 : Int) (z34 : List Int) (z1b zU z1e z11 z1g z1f z12 z17 : Int) (z18 : List Z8) (z10 : List Zk) (z1C : Bool) : Option (Z1d × Z14) :=
 if (decide (x52 < x51)) = true then
 (Z8M x50 x51 x52 z34 z1b zU z1e z11 z1g z1f z12 z17 z18 z10 z1C)
 else
 (Z8N z1b zU z1e z11 z1g z1f z12 z17 z18 z10 z1C)
theorem Zl4 (x50 : List Zz) x51 x52 b0 b1 z34 z2W z1b z2D z23 zU z1e z11 z1g z1f z12 z17 z18 z10 z2r z1C ox50 z13 zT z3C z1L z1t z1o (z2u : ZM z13 = true) (z2j : ZM zT = true) (z3K : ZM z1L = true) : Sim Z45 (Z6y x50 x51 x52 z34 z1b zU z1e z11 z1g z1f z12 z17 z18 z10 z1C) (Zm8 0 (.ptr 0 0) (.ptr 1 0) (.ptr 2 0) (.ptr 3 0) (ZP ox50 (x50.map Z2U)) (iv x51) (iv x52) [(ZS b0 z13 zT), (Z1A b1), (ZL z34 z2W z1b z2D z23 zU z1e z3C z1L), (Z9s z11 z1g z1f z12 z17 z18 z10 z2r z1C z1t z1o)]) := by
 unfold Z6y
 refine zf (Zz5 ..)<|ze<|zq ?_
 refine za (decide (x52 < x51)) ?_ ?_
 ·exact zk (Zkh x50 x51 x52 b0 b1 z34 z2W z1b z2D z23 zU z1e z11 z1g z1f z12 z17 z18 z10 z2r z1C ox50 z13 zT z3C z1L z1t z1o z2u z2j z3K)
 ·exact zk (Zki b0 b1 z34 z2W z1b z2D z23 zU z1e z11 z1g z1f z12 z17 z18 z10 z2r z1C z13 zT z3C z1L z1t z1o z2u z2j z3K)
theorem Z9G x50 x51 x52 z34 z1b zU z1e z11 z1g z1f z12 z17 z18 z10 z1C {r} (h : Z6y x50 x51 x52 z34 z1b zU z1e z11 z1g z1f z12 z17 z18 z10 z1C = some r) : Z80 x50 x51 x52 z34 z1b zU z1e z11 z1g z1f z12 z17 z18 z10 z1C = some r :=
 Z1i (fun _ _ ha hb => ru_ Zjd (ha default default default default default default .ex .ex .ex .ex .ex .ex .ex rfl rfl rfl) (hb default default default default default default .ex .ex .ex .ex .ex .ex .ex rfl rfl rfl)) (fun b0 b1 z2W z2D z23 z2r ox50 z13 zT z3C z1L z1t z1o z2u z2j z3K => Zl4 x50 x51 x52 b0 b1 z34 z2W z1b z2D z23 zU z1e z11 z1g z1f z12 z17 z18 z10 z2r z1C ox50 z13 zT z3C z1L z1t z1o z2u z2j z3K r h)
def Z8b (zn : Int) : Option (Bool × Int) :=
 some (false, zn)
theorem Zbw zm zn z7 zh zj z2 z6 zu zd (zy : ZM zd = true) : Sim (Z6q zm z7 zh zj z2 z6 zu zd) (Z8b zn) (Zps 1 [(ZL zm zn z7 zh zj z2 z6 zu zd)]) := by
 unfold Z8b
 refine zf (ZzE ..)<|ze ?_
 exact zr ((bv false), [(ZL zm zn z7 zh zj z2 z6 zu zd)]) ⟨_, rfl⟩
def Z8c (x1 : ByteArray) (zn : Int) : Option (Bool × Int) :=
 some (true, (IntKind.i64.wrap (zn + (x1.size : Int))))
theorem Zhg x1 zm zn z7 zh zj z2 z6 zu zd (zy : ZM zd = true) : Sim (Z6q zm z7 zh zj z2 z6 zu zd) (Z8c x1 zn) (Ztp 1 (.ptr 0 0) (.p (.v (.string x1))) [(ZL zm zn z7 zh zj z2 z6 zu zd)]) := by
 unfold Z8c
 refine zf (ZzF ..)<|ze<|zq<|zq<|zq<|zq<|zq<|zq<|zq<|zt [(ZL zm (IntKind.i64.wrap (zn + (x1.size : Int))) z7 zh zj z2 z6 zu zd)]<|ze ?_
 exact zr ((bv true), [(ZL zm (IntKind.i64.wrap (zn + (x1.size : Int))) z7 zh zj z2 z6 zu zd)]) ⟨_, rfl⟩
def Z9F (x1 : ByteArray) (zm : List Int) (zn : Int) : Option (Bool × Int) :=
 if ((decide ((IntKind.i64.wrap ((zm.length : Int) - zn)) < (x1.size : Int)))) = true then
 (Z8b zn)
 else
 ((lsl zm zn (IntKind.i64.wrap (zn + (x1.size : Int)))).bind fun a1 =>
 if (!(seq (strI a1) x1)) = true then
 (Z8b zn)
 else
 (Z8c x1 zn))
theorem Zja x1 zm zn z7 zh zj z2 z6 zu zd (zy : ZM zd = true) : Sim (Z6q zm z7 zh zj z2 z6 zu zd) (Z9F x1 zm zn) (EE 19 [(.ptr 0 0), (.p (.v (.string x1)))] [(ZL zm zn z7 zh zj z2 z6 zu zd)]) := by
 unfold Z9F
 refine zf (ZFd ..)<|ze<|ze<|zq<|zq<|zq<|zp (iv (zm.length : Int)) (et_ (Z30 (P := PP) (t := 54) (d := 5) (by kernel_rfl) (eI .u8) (shrO zu) zm))<|zq<|zq<|zq<|zq<|zq<|zq ?_
 refine za ((decide ((IntKind.i64.wrap ((zm.length : Int) - zn)) < (x1.size : Int)))) ?_ ?_
 ·exact zk (Zbw zm zn z7 zh zj z2 z6 zu zd zy)
 ·refine zq<|zq<|zq<|zq<|zq<|zq<|zq<|zq<|zq<|zq<|zq<|zi fun a1 ha1 => zp (ZP (slO (shrO zu)) (a1.map (eI .u8))) (Eq.trans (by kernel_rfl) <| ZvV (n := 1) (o := (shrO zu)) (lo := (some (iv zn))) (hi := (some (iv (IntKind.i64.wrap (zn + (x1.size : Int)))))) (e := (eI .u8)) (fun _ => rfl) (by decide) (by kernel_rfl) (by kernel_rfl) ha1)<|zp (.p (.v (.string (strI a1)))) (et_ (ZDg (P := PP) (s := 54) (d := 9) (by kernel_rfl) (slO (shrO zu)) a1))<|zq ?_
  refine za (!(seq (strI a1) x1)) ?_ ?_
  ·exact zk (Zbw zm zn z7 zh zj z2 z6 zu zd zy)
  ·exact zk (Zhg x1 zm zn z7 zh zj z2 z6 zu zd zy)
theorem ZjI x1 zm zn {r} (h : Z9F x1 zm zn = some r) : Z1H x1 zm zn = some r :=
 Z1i (fun _ _ ha hb => ru_ (ZjS _ _ _ _ _ _ _ _) (ha default default default default default .ex .ex rfl) (hb default default default default default .ex .ex rfl)) (fun z7 zh zj z2 z6 zu zd zy => Zja x1 zm zn z7 zh zj z2 z6 zu zd zy r h)
def Z6K (zm : List Int) (zn z7 zh : Int) (zj : List Zz) (z2 z6 : Int) : Option (Zk × Int × Int × Int × (List Zz) × Int × Int) :=
 (Z6R zm zn z7 zh zj z2 z6).bind fun r1 =>
 Z5B ([r1.1] : List Zk) zm r1.2.1 r1.2.2.1 r1.2.2.2.1 r1.2.2.2.2.1 r1.2.2.2.2.2.1 r1.2.2.2.2.2.2
theorem ZjC zm zn z7 zh zj z2 z6 zu zd (zy : ZM zd = true) : Sim (Z2z zm zu) (Z6K zm zn z7 zh zj z2 z6) (EE 20 [(.ptr 0 0)] [(ZL zm zn z7 zh zj z2 z6 zu zd)]) := by
 unfold Z6K
 refine zf (ZFf ..)<|ze<|zz (.ptr 1 0) [(ZL zm zn z7 zh zj z2 z6 zu zd), (Zl Z1B .nl .nl)]<|ze<|zi fun r1 hr1 => ?_
 obtain ⟨_, er1, z5e, _, z9r, rfl⟩ := Zer zm zn z7 zh zj z2 z6 zu zd zy r1 hr1
 refine zc [0] (pA_ (ZI r1.1 .sh .sh)) [(ZL zm r1.2.1 r1.2.2.1 r1.2.2.2.1 r1.2.2.2.2.1 r1.2.2.2.2.2.1 r1.2.2.2.2.2.2 zu z5e), (Zl Z1B .nl .nl)] er1<|zp (ZP .ex (([r1.1] : List Zk).map ZJ)) (Eq.trans (b := some (ZP .ex [.agg (Z1Z r1.1)])) (by kernel_rfl) (by simp only [Z9x, Zfc, Z4V])) ?_
 exact zk (Zca ([r1.1] : List Zk) zm r1.2.1 r1.2.2.1 r1.2.2.2.1 r1.2.2.2.2.1 r1.2.2.2.2.2.1 r1.2.2.2.2.2.2 Z1B .ex zu z5e .nl .nl rfl z9r rfl rfl)
theorem Zeo zm zn z7 zh zj z2 z6 {r} (h : Z6K zm zn z7 zh zj z2 z6 = some r) : Z4d zm zn z7 zh zj z2 z6 = some r :=
 Z1i (fun _ _ ha hb => ru_ (Z8Y _ _) (ha .ex .ex rfl) (hb .ex .ex rfl)) (fun zu zd zy => ZjC zm zn z7 zh zj z2 z6 zu zd zy r h)
def Z8y (x3 : List Zk) (zm : List Int) (zn z7 zh : Int) (zj : List Zz) (z2 z6 : Int) : Option (Zk × Int × Int × Int × (List Zz) × Int × Int) :=
 (Z6R zm zn z7 zh zj z2 z6).bind fun r1 =>
 (lapp x3 ([r1.1] : List Zk)).bind fun a2 =>
 Z5B a2 zm r1.2.1 r1.2.2.1 r1.2.2.2.1 r1.2.2.2.2.1 r1.2.2.2.2.2.1 r1.2.2.2.2.2.2
theorem ZhI (x3 : List Zk) zm zn z7 zh zj z2 z6 b1 ox3 zu zd zH zE (hox3 : ZM ox3 = true) (zy : ZM zd = true) (z16 : ZM zH = true) (zY : ZM zE = true) : Sim (Z2z zm zu) (Z8y x3 zm zn z7 zh zj z2 z6) (Ztt 1 (.ptr 0 0) (.ptr 1 0) (ZP ox3 (x3.map ZJ)) [(ZL zm zn z7 zh zj z2 z6 zu zd), (Zl b1 zH zE)]) := by
 unfold Z8y
 refine zf (ZzH ..)<|ze<|zi fun r1 hr1 => ?_
 obtain ⟨_, er1, z5e, _, z9r, rfl⟩ := Zer zm zn z7 zh zj z2 z6 zu zd zy r1 hr1
 refine zc [0] (pA_ (ZI r1.1 .sh .sh)) [(ZL zm r1.2.1 r1.2.2.1 r1.2.2.2.1 r1.2.2.2.2.1 r1.2.2.2.2.2.1 r1.2.2.2.2.2.2 zu z5e), (Zl b1 zH zE)] er1<|zp (ZP .ex (([r1.1] : List Zk).map ZJ)) (Eq.trans (b := some (ZP .ex [.agg (Z1Z r1.1)])) (by kernel_rfl) (by simp only [Z9x, Zfc, Z4V]))<|zi fun a2 ha2 => zp (ZP .un (a2.map ZJ)) (Eq.trans (by kernel_rfl) <| Zez (n := 7) (o := ox3) (o' := .ex) (e := ZJ) (ys := ([r1.1] : List Zk)) Zg2 (by decide) hox3 ha2) ?_
 exact zk (Zca a2 zm r1.2.1 r1.2.2.1 r1.2.2.2.1 r1.2.2.2.2.1 r1.2.2.2.2.2.1 r1.2.2.2.2.2.2 b1 .un zu z5e zH zE rfl z9r z16 zY)
def Z6L (x3 : List Zk) (zn z7 zh : Int) (zj : List Zz) (z2 z6 : Int) : Option (Zk × Int × Int × Int × (List Zz) × Int × Int) :=
 (ZaR 3 x3).bind fun r1 =>
 some (r1, zn, z7, zh, zj, z2, z6)
theorem ZhJ (x3 : List Zk) zm zn z7 zh zj z2 z6 b1 ox3 zu zd zH zE (hox3 : ZM ox3 = true) (zy : ZM zd = true) (z16 : ZM zH = true) (zY : ZM zE = true) : Sim (Z2z zm zu) (Z6L x3 zn z7 zh zj z2 z6) (Ztu 1 (.ptr 1 0) (ZP ox3 (x3.map ZJ)) [(ZL zm zn z7 zh zj z2 z6 zu zd), (Zl b1 zH zE)]) := by
 unfold Z6L
 refine zf (ZzI ..)<|ze<|zi fun r1 hr1 => ?_
 obtain ⟨_, er1, _, rfl⟩ := Zhu 3 x3 .sh r1 hr1
 refine zc [] (pA_ (ZI r1 .sh .sh)) [(ZL zm zn z7 zh zj z2 z6 zu zd), (Zl b1 zH zE)] er1<|zt [(ZL zm zn z7 zh zj z2 z6 zu zd), (Zl r1 .sh .sh)] ?_
 exact zr ((pA_ (ZI r1 .sh .sh)), [(ZL zm zn z7 zh zj z2 z6 zu zd), (Zl r1 .sh .sh)]) ⟨zd, _, zy, rfl⟩
def Z5w (x3 : List Zk) (zm : List Int) (zn z7 zh : Int) (zj : List Zz) (z2 z6 : Int) : Option (Zk × Int × Int × Int × (List Zz) × Int × Int) :=
 (Z1H (ByteArray.mk #[124]) zm zn).bind fun r1 =>
 if r1.1 = true then
 (Z8y x3 zm r1.2 z7 zh zj z2 z6)
 else
 (Z6L x3 r1.2 z7 zh zj z2 z6)
theorem ZhH (x3 : List Zk) zm zn z7 zh zj z2 z6 b1 ox3 zu zd zH zE (hox3 : ZM ox3 = true) (zy : ZM zd = true) (z16 : ZM zH = true) (zY : ZM zE = true) : Sim (Z2z zm zu) (Z5w x3 zm zn z7 zh zj z2 z6) (Zmg 1 (.ptr 0 0) (.ptr 1 0) (ZP ox3 (x3.map ZJ)) [(ZL zm zn z7 zh zj z2 z6 zu zd), (Zl b1 zH zE)]) := by
 unfold Z5w
 refine zf (ZzG ..)<|ze<|zi fun r1 hr1 => ?_
 obtain ⟨_, er1, _, rfl⟩ := Z1Q (ByteArray.mk #[124]) zm zn z7 zh zj z2 z6 zu zd zy r1 hr1
 refine zc [0] (bv r1.1) [(ZL zm r1.2 z7 zh zj z2 z6 zu zd), (Zl b1 zH zE)] er1 ?_
 refine za r1.1 ?_ ?_
 ·exact zk (ZhI x3 zm r1.2 z7 zh zj z2 z6 b1 ox3 zu zd zH zE hox3 zy z16 zY)
 ·exact zk (ZhJ x3 zm r1.2 z7 zh zj z2 z6 b1 ox3 zu zd zH zE hox3 zy z16 zY)
theorem Zc9 x3 zm zn z7 zh zj z2 z6 {r} (h : Z5w x3 zm zn z7 zh zj z2 z6 = some r) : Z5B x3 zm zn z7 zh zj z2 z6 = some r :=
 Z1i (fun _ _ ha hb => ru_ (Z8Y _ _) (ha default .ex .ex .ex .ex .ex rfl rfl rfl rfl) (hb default .ex .ex .ex .ex .ex rfl rfl rfl rfl)) (fun b1 ox3 zu zd zH zE hox3 zy z16 zY => ZhH x3 zm zn z7 zh zj z2 z6 b1 ox3 zu zd zH zE hox3 zy z16 zY r h)
def Z8k (zm : List Int) (zn z7 zh : Int) (zj : List Zz) (z2 z6 : Int) : Option (Zk × Int × Int × Int × (List Zz) × Int × Int) :=
 Z5C ([] : List Zk) zm zn z7 zh zj z2 z6
theorem ZjF zm zn z7 zh zj z2 z6 zu zd (zy : ZM zd = true) : Sim (Z2z zm zu) (Z8k zm zn z7 zh zj z2 z6) (EE 30 [(.ptr 0 0)] [(ZL zm zn z7 zh zj z2 z6 zu zd)]) := by
 unfold Z8k
 refine zf (ZFw ..)<|ze<|zz (.ptr 1 0) [(ZL zm zn z7 zh zj z2 z6 zu zd), (Zl Z1B .nl .nl)]<|ze ?_
 exact zk (Zcc ([] : List Zk) zm zn z7 zh zj z2 z6 Z1B .nl zu zd .nl .nl rfl zy rfl rfl)
theorem Zeq zm zn z7 zh zj z2 z6 {r} (h : Z8k zm zn z7 zh zj z2 z6 = some r) : Z6R zm zn z7 zh zj z2 z6 = some r :=
 Z1i (fun _ _ ha hb => ru_ (Z8Y _ _) (ha .ex .ex rfl) (hb .ex .ex rfl)) (fun zu zd zy => ZjF zm zn z7 zh zj z2 z6 zu zd zy r h)
def Z3z (x3 : List Zk) (zn z7 zh : Int) (zj : List Zz) (z2 z6 : Int) : Option (Zk × Int × Int × Int × (List Zz) × Int × Int) :=
 (ZaR 2 x3).bind fun r1 =>
 some (r1, zn, z7, zh, zj, z2, z6)
theorem Z72 (x3 : List Zk) zm zn z7 zh zj z2 z6 b1 ox3 zu zd zH zE (hox3 : ZM ox3 = true) (zy : ZM zd = true) (z16 : ZM zH = true) (zY : ZM zE = true) : Sim (Z2z zm zu) (Z3z x3 zn z7 zh zj z2 z6) (Zk1 1 (.ptr 1 0) (ZP ox3 (x3.map ZJ)) [(ZL zm zn z7 zh zj z2 z6 zu zd), (Zl b1 zH zE)]) := by
 unfold Z3z
 refine zf (ZzU ..)<|ze<|zi fun r1 hr1 => ?_
 obtain ⟨_, er1, _, rfl⟩ := Zhu 2 x3 .sh r1 hr1
 refine zc [] (pA_ (ZI r1 .sh .sh)) [(ZL zm zn z7 zh zj z2 z6 zu zd), (Zl b1 zH zE)] er1<|zt [(ZL zm zn z7 zh zj z2 z6 zu zd), (Zl r1 .sh .sh)] ?_
 exact zr ((pA_ (ZI r1 .sh .sh)), [(ZL zm zn z7 zh zj z2 z6 zu zd), (Zl r1 .sh .sh)]) ⟨zd, _, zy, rfl⟩
def Z4r (x3 : List Zk) (zm : List Int) (zn z7 zh : Int) (zj : List Zz) (z2 z6 : Int) : Option (Zk × Int × Int × Int × (List Zz) × Int × Int) :=
 (Z9H zm zn z7 zh zj z2 z6).bind fun r1 =>
 (Z6T r1.1 r1.2.1 zm r1.2.2.1 r1.2.2.2.1 r1.2.2.2.2.1 r1.2.2.2.2.2.1 r1.2.2.2.2.2.2.1 r1.2.2.2.2.2.2.2).bind fun r2 =>
 (lapp x3 ([r2.1] : List Zk)).bind fun a3 =>
 Z5C a3 zm r2.2.1 r1.2.2.2.1 r1.2.2.2.2.1 r1.2.2.2.2.2.1 r2.2.2.1 r2.2.2.2
theorem Z93 (x3 : List Zk) zm zn z7 zh zj z2 z6 b1 ox3 zu zd zH zE (hox3 : ZM ox3 = true) (zy : ZM zd = true) (z16 : ZM zH = true) (zY : ZM zE = true) : Sim (Z2z zm zu) (Z4r x3 zm zn z7 zh zj z2 z6) (Zmk 1 (.ptr 0 0) (.ptr 1 0) (ZP ox3 (x3.map ZJ)) [(ZL zm zn z7 zh zj z2 z6 zu zd), (Zl b1 zH zE)]) := by
 unfold Z4r
 refine zf (ZzT ..)<|ze<|zi fun r1 hr1 => ?_
 obtain ⟨_, er1, z5e, _, z9r, rfl⟩ := ZjE zm zn z7 zh zj z2 z6 zu zd zy r1 hr1
 refine zc [0] (.p (.tup [(.agg (ZI r1.1 .sh .sh)), (.v (.bool r1.2.1))])) [(ZL zm r1.2.2.1 r1.2.2.2.1 r1.2.2.2.2.1 r1.2.2.2.2.2.1 r1.2.2.2.2.2.2.1 r1.2.2.2.2.2.2.2 zu z5e), (Zl b1 zH zE)] er1<|zq<|zq<|zz (.ptr 2 0) [(ZL zm r1.2.2.1 r1.2.2.2.1 r1.2.2.2.2.1 r1.2.2.2.2.2.1 r1.2.2.2.2.2.2.1 r1.2.2.2.2.2.2.2 zu z5e), (Zl b1 zH zE), (Zl Z1B .nl .nl)]<|zt [(ZL zm r1.2.2.1 r1.2.2.2.1 r1.2.2.2.2.1 r1.2.2.2.2.2.1 r1.2.2.2.2.2.2.1 r1.2.2.2.2.2.2.2 zu z5e), (Zl b1 zH zE), (Zl r1.1 .sh .sh)]<|ze<|zq<|zi fun r2 hr2 => ?_
 obtain ⟨_, er2, _, rfl⟩ := Ziz r1.1 r1.2.1 zm r1.2.2.1 r1.2.2.2.1 r1.2.2.2.2.1 r1.2.2.2.2.2.1 r1.2.2.2.2.2.2.1 r1.2.2.2.2.2.2.2 .sh .sh zu z5e z9r r2 hr2
 refine zc [0] (pA_ (ZI r2.1 .sh .sh)) [(ZL zm r2.2.1 r1.2.2.2.1 r1.2.2.2.2.1 r1.2.2.2.2.2.1 r2.2.2.1 r2.2.2.2 zu z5e), (Zl b1 zH zE), (Zl r1.1 .sh .sh)] er2<|zp (ZP .ex (([r2.1] : List Zk).map ZJ)) (Eq.trans (b := some (ZP .ex [.agg (Z1Z r2.1)])) (by kernel_rfl) (by simp only [Z9x, Zfc, Z4V]))<|zi fun a3 ha3 => zp (ZP .un (a3.map ZJ)) (Eq.trans (by kernel_rfl) <| Zez (n := 7) (o := ox3) (o' := .ex) (e := ZJ) (ys := ([r2.1] : List Zk)) Zg2 (by decide) hox3 ha3) ?_
 exact zk (Zcc a3 zm r2.2.1 r1.2.2.2.1 r1.2.2.2.2.1 r1.2.2.2.2.2.1 r2.2.2.1 r2.2.2.2 b1 .un zu z5e zH zE rfl z9r z16 zY)
def Z6N (x3 : List Zk) (zm : List Int) (zn z7 zh : Int) (zj : List Zz) (z2 z6 : Int) : Option (Zk × Int × Int × Int × (List Zz) × Int × Int) :=
 (Z2G (Z1y.mk zm zn z7 zh zj (Z14.mk z2 z6))).bind fun r1 =>
 if (r1 == (-1)) = true then
 (if (r1 == (-1)) = true then
 (Z3z x3 zn z7 zh zj z2 z6)
 else
 (Z4r x3 zm zn z7 zh zj z2 z6))
 else
 (if (r1 == 124) = true then
 (if (r1 == 124) = true then
 (Z3z x3 zn z7 zh zj z2 z6)
 else
 (Z4r x3 zm zn z7 zh zj z2 z6))
 else
 (if (r1 == 41) = true then
 (Z3z x3 zn z7 zh zj z2 z6)
 else
 (Z4r x3 zm zn z7 zh zj z2 z6)))
theorem ZhL (x3 : List Zk) zm zn z7 zh zj z2 z6 b1 ox3 zu zd zH zE (hox3 : ZM ox3 = true) (zy : ZM zd = true) (z16 : ZM zH = true) (zY : ZM zE = true) : Sim (Z2z zm zu) (Z6N x3 zm zn z7 zh zj z2 z6) (ZtD 1 (.ptr 0 0) (.ptr 1 0) (ZP ox3 (x3.map ZJ)) [(ZL zm zn z7 zh zj z2 z6 zu zd), (Zl b1 zH zE)]) := by
 unfold Z6N
 refine zf (ZzS ..)<|ze<|zi fun r1 hr1 => ?_
 obtain ⟨_, er1, _, rfl⟩ := Z2S (Z1y.mk zm zn z7 zh zj (Z14.mk z2 z6)) zu zd zy r1 hr1
 refine zc [0] (iv r1) [(ZL zm zn z7 zh zj z2 z6 zu zd), (Zl b1 zH zE)] er1<|ze<|zq ?_
 refine za (r1 == (-1)) ?_ ?_
 ·refine za (r1 == (-1)) ?_ ?_
  ·exact zk (Z72 x3 zm zn z7 zh zj z2 z6 b1 ox3 zu zd zH zE hox3 zy z16 zY)
  ·exact zk (Z93 x3 zm zn z7 zh zj z2 z6 b1 ox3 zu zd zH zE hox3 zy z16 zY)
 ·refine ze<|zq ?_
  refine za (r1 == 124) ?_ ?_
  ·refine za (r1 == 124) ?_ ?_
   ·exact zk (Z72 x3 zm zn z7 zh zj z2 z6 b1 ox3 zu zd zH zE hox3 zy z16 zY)
   ·exact zk (Z93 x3 zm zn z7 zh zj z2 z6 b1 ox3 zu zd zH zE hox3 zy z16 zY)
  ·refine ze<|zq ?_
   refine za (r1 == 41) ?_ ?_
   ·exact zk (Z72 x3 zm zn z7 zh zj z2 z6 b1 ox3 zu zd zH zE hox3 zy z16 zY)
   ·exact zk (Z93 x3 zm zn z7 zh zj z2 z6 b1 ox3 zu zd zH zE hox3 zy z16 zY)
def Z6M (x3 : List Zk) (zm : List Int) (zn z7 zh : Int) (zj : List Zz) (z2 z6 : Int) : Option (Zk × Int × Int × Int × (List Zz) × Int × Int) :=
 if (z2 == 0) = true then
 (Z6N x3 zm zn z7 zh zj z2 z6)
 else
 (Z3z x3 zn z7 zh zj z2 z6)
theorem ZhK (x3 : List Zk) zm zn z7 zh zj z2 z6 b1 ox3 zu zd zH zE (hox3 : ZM ox3 = true) (zy : ZM zd = true) (z16 : ZM zH = true) (zY : ZM zE = true) : Sim (Z2z zm zu) (Z6M x3 zm zn z7 zh zj z2 z6) (Zmj 1 (.ptr 0 0) (.ptr 1 0) (ZP ox3 (x3.map ZJ)) [(ZL zm zn z7 zh zj z2 z6 zu zd), (Zl b1 zH zE)]) := by
 unfold Z6M
 refine zf (ZzR ..)<|ze<|zq<|zq<|zq<|zq<|zq ?_
 refine za (z2 == 0) ?_ ?_
 ·exact zk (ZhL x3 zm zn z7 zh zj z2 z6 b1 ox3 zu zd zH zE hox3 zy z16 zY)
 ·exact zk (Z72 x3 zm zn z7 zh zj z2 z6 b1 ox3 zu zd zH zE hox3 zy z16 zY)
theorem Zcb x3 zm zn z7 zh zj z2 z6 {r} (h : Z6M x3 zm zn z7 zh zj z2 z6 = some r) : Z5C x3 zm zn z7 zh zj z2 z6 = some r :=
 Z1i (fun _ _ ha hb => ru_ (Z8Y _ _) (ha default .ex .ex .ex .ex .ex rfl rfl rfl rfl) (hb default .ex .ex .ex .ex .ex rfl rfl rfl rfl)) (fun b1 ox3 zu zd zH zE hox3 zy z16 zY => ZhK x3 zm zn z7 zh zj z2 z6 b1 ox3 zu zd zH zE hox3 zy z16 zY r h)
def Z8a (b0 : Z1y) : Option Int :=
 (ZdF b0.b b0.at_).bind fun r1 =>
 some r1.1
theorem Zhf b0 zu zd (zy : ZM zd = true) : Sim (Z7Q b0 zu zd) (Z8a b0) (Zu0 1 (.ptr 0 0) [(Z3Q b0 zu zd)]) := by
 unfold Z8a
 refine zf (ZAf ..)<|ze<|zq<|zq<|zq<|zq<|zq<|zq<|zi fun r1 hr1 => ?_
 obtain ⟨_, er1, _, rfl⟩ := Zks b0.b b0.at_ .sh r1 hr1
 refine zc [] (.p (.tup [(.v (.int .i64 r1.1)), (.v (.int .i64 r1.2))])) [(Z3Q b0 zu zd)] er1<|zq<|zq<|ze ?_
 exact zr ((iv r1.1), [(Z3Q b0 zu zd)]) ⟨_, rfl⟩
def Z9D (b0 : Z1y) : Option Int :=
 if (decide ((b0.b.length : Int) ≤ b0.at_)) = true then
 (some (-1))
 else
 (Z8a b0)
theorem Zj7 b0 zu zd (zy : ZM zd = true) : Sim (Z7Q b0 zu zd) (Z9D b0) (EE 47 [(.ptr 0 0)] [(Z3Q b0 zu zd)]) := by
 unfold Z9D
 refine zf (ZFW ..)<|ze<|ze<|zq<|zq<|zq<|zq<|zq<|zq<|zp (iv (b0.b.length : Int)) (et_ (Z30 (P := PP) (t := 54) (d := 5) (by kernel_rfl) (eI .u8) (shrO zu) b0.b))<|zq ?_
 refine za (decide ((b0.b.length : Int) ≤ b0.at_)) ?_ ?_
 ·refine ze ?_
  exact zr ((iv (-1)), [(Z3Q b0 zu zd)]) ⟨_, rfl⟩
 ·exact zk (Zhf b0 zu zd zy)
theorem ZjG b0 {r} (h : Z9D b0 = some r) : Z2G b0 = some r :=
 Z1i (fun _ _ ha hb => ru_ (ZjR _ _ _) (ha .ex .ex rfl) (hb .ex .ex rfl)) (fun zu zd zy => Zj7 b0 zu zd zy r h)
def ZcK : Option (Int × Int) :=
 some (0, 0)
theorem Zh1 : Sim Z3h ZcK (ZpZ 0 []) := by
 unfold ZcK
 refine zf (ZAx ..)<|ze ?_
 exact zr ((.p (.tup [(.v (.int .i64 0)), (.v (.int .i64 0))])), []) ⟨_, rfl⟩
def ZcM (x0 : List Int) (x1 : Int) : Option (Int × Int) :=
 (lget x0 x1).bind fun a1 =>
 some ((IntKind.i64.wrap (1114112 + (IntKind.i64.wrap a1))), 1)
theorem ZmL (x0 : List Int) x1 ox0 : Sim Z3h (ZcM x0 x1) (Zul 0 (ZP ox0 (x0.map (eI .u8))) (iv x1) []) := by
 unfold ZcM
 refine zf (ZAz ..)<|ze<|zi fun a1 ha1 => zp (.cptr [(.v (.int .u8 a1))]) (et_ (Z2v (o := (shrO ox0)) (k := .i64) (n := 1) (e := (eI .u8)) (cs := (fun a => [(eI .u8) a])) (fun _ => rfl) (fun _ => rfl) (by decide) ha1))<|zq<|zq<|zq ?_
 exact zr ((.p (.tup [(.v (.int .i64 (IntKind.i64.wrap (1114112 + (IntKind.i64.wrap a1))))), (.v (.int .i64 1))])), []) ⟨_, rfl⟩
def Z9d (x6 x7 : Int) : Option (Int × Int) :=
 some ((IntKind.i64.wrap x6), x7)
theorem Zh2 x6 x7 : Sim Z3h (Z9d x6 x7) (Zq0 0 (.p (.v (.int .i32 x6))) (iv x7) []) := by
 unfold Z9d
 refine zf (ZAA ..)<|ze<|zq ?_
 exact zr ((.p (.tup [(.v (.int .i64 (IntKind.i64.wrap x6))), (.v (.int .i64 x7))])), []) ⟨_, rfl⟩
def ZcL (x0 : List Int) (x1 : Int) : Option (Int × Int) :=
 (lsl x0 x1 (x0.length : Int)).bind fun a1 =>
 (Z95 a1).bind fun r2 =>
 if (r2.1 == 65533) = true then
 (if (r2.2 == 1) = true then
 (ZcM x0 x1)
 else
 (Z9d r2.1 r2.2))
 else
 (Z9d r2.1 r2.2)
theorem ZmK (x0 : List Int) x1 ox0 : Sim Z3h (ZcL x0 x1) (Zuk 0 (ZP ox0 (x0.map (eI .u8))) (iv x1) []) := by
 unfold ZcL
 refine zf (ZAy ..)<|ze<|zi fun a1 ha1 => zp (ZP (slO (shrO ox0)) (a1.map (eI .u8))) (Eq.trans (by kernel_rfl) <| ZvV (n := 1) (o := (shrO ox0)) (lo := (some (iv x1))) (hi := none) (e := (eI .u8)) (fun _ => rfl) (by decide) (by kernel_rfl) (by kernel_rfl) ha1)<|zi fun r2 hr2 => ?_
 obtain ⟨_, er2, _, rfl⟩ := ZfZ a1 .sh r2 hr2
 refine zc [] (.p (.tup [(.v (.int .i32 r2.1)), (.v (.int .i64 r2.2))])) [] er2<|zq<|zq<|ze<|zq ?_
 refine za (r2.1 == 65533) ?_ ?_
 ·refine zq ?_
  refine za (r2.2 == 1) ?_ ?_
  ·exact zk (ZmL x0 x1 ox0)
  ·exact zk (Zh2 r2.1 r2.2)
 ·exact zk (Zh2 r2.1 r2.2)
def Zgh (x0 : List Int) (x1 : Int) : Option (Int × Int) :=
 if (decide (x1 < 0)) = true then
 ZcK
 else
 (if (decide ((x0.length : Int) ≤ x1)) = true then
 ZcK
 else
 (ZcL x0 x1))
theorem Zqr (x0 : List Int) x1 ox0 : Sim Z3h (Zgh x0 x1) (EE 62 [(ZP ox0 (x0.map (eI .u8))), (iv x1)] []) := by
 unfold Zgh
 refine zf (ZGc ..)<|ze<|ze<|zq ?_
 refine za (decide (x1 < 0)) ?_ ?_
 ·exact zk Zh1
 ·refine zp (iv (x0.length : Int)) (et_ (Z30 (P := PP) (t := 54) (d := 5) (by kernel_rfl) (eI .u8) (shrO ox0) x0))<|zq ?_
  refine za (decide ((x0.length : Int) ≤ x1)) ?_ ?_
  ·exact zk Zh1
  ·exact zk (ZmK x0 x1 ox0)
theorem ZrI x0 x1 {r} (h : Zgh x0 x1 = some r) : ZdF x0 x1 = some r :=
 Z1i (fun _ _ ha hb => ru_ ZdL (ha .ex) (hb .ex)) (fun ox0 => Zqr x0 x1 ox0 r h)
def Zdc (x0 : Int) (x1 : List Zk) : Option Zk :=
 some (Zk.mk x0 0 0 0 0 ([] : List Z8) x1)
theorem Zkl x0 (x1 : List Zk) b0 ox1 z1V z1v (zCz : ZM z1V = true) (zBi : ZM z1v = true) : Sim Z6D (Zdc x0 x1) (ZtF 0 (iv x0) (ZP ox1 (x1.map ZJ)) (.ptr 0 0) [(Zl b0 z1V z1v)]) := by
 unfold Zdc
 refine zf (ZzV ..)<|ze<|zq<|zt [(Z2P x0 0 0 0 0 ([] : List Z8) x1 .nl (shrO (shrO ox1)))] ?_
 exact zr ((pA_ (ZI (Zk.mk x0 0 0 0 0 ([] : List Z8) x1) .sh .sh)), [(Z2P x0 0 0 0 0 ([] : List Z8) x1 .nl (shrO (shrO ox1)))]) ⟨_, rfl⟩
def ZcG (x0 : Int) (x1 : List Zk) : Option Zk :=
 if ((x1.length : Int) == 0) = true then
 (some (Zk.mk 0 0 0 0 0 ([] : List Z8) ([] : List Zk)))
 else
 (if ((x1.length : Int) == 1) = true then
 ((lget x1 0).bind fun a1 =>
 some a1)
 else
 (Zdc x0 x1))
theorem ZmG x0 (x1 : List Zk) ox1 : Sim Z6D (ZcG x0 x1) (EE 31 [(iv x0), (ZP ox1 (x1.map ZJ))] []) := by
 unfold ZcG
 refine zf (ZFz ..)<|ze<|zz (.ptr 0 0) [(Zl Z1B .nl .nl)]<|ze<|zp (iv (x1.length : Int)) (et_ (Z30 (P := PP) (t := 29) (d := 31) (by kernel_rfl) ZJ (shrO ox1) x1))<|ze<|zq ?_
 refine za ((x1.length : Int) == 0) ?_ ?_
 ·refine ze<|zq<|zt [(Zl Z1B .nl .nl)] ?_
  exact zr ((pA_ (ZI Z1B .sh .sh)), [(Zl Z1B .nl .nl)]) ⟨_, rfl⟩
 ·refine ze<|zq ?_
  refine za ((x1.length : Int) == 1) ?_ ?_
  ·refine ze<|zi fun a1 ha1 => zp (.cptr (ZI a1 .sh .sh)) (et_ (Z2v (o := (shrO ox1)) (k := .i64) (n := 7) (e := ZJ) (cs := Z1Z) Z2J (fun _ => rfl) (by decide) ha1))<|zq<|zt [(Zl a1 .sh .sh)] ?_
   exact zr ((pA_ (ZI a1 .sh .sh)), [(Zl a1 .sh .sh)]) ⟨_, rfl⟩
  ·exact zk (Zkl x0 x1 Z1B ox1 .nl .nl rfl rfl)
theorem ZnV x0 x1 {r} (h : ZcG x0 x1 = some r) : ZaR x0 x1 = some r :=
 Z1i (fun _ _ ha hb => ru_ Zii (ha .ex) (hb .ex)) (fun ox1 => ZmG x0 x1 ox1 r h)
def Z24 (zn z7 zh : Int) (zj : List Zz) (z2 z6 : Int) : Option (Zk × Bool × Int × Int × Int × (List Zz) × Int × Int) :=
 some ((Zk.mk 0 0 0 0 0 ([] : List Z8) ([] : List Zk)), true, zn, z7, zh, zj, z2, z6)
theorem Z28 zm zn z7 zh zj z2 z6 b1 zu zd zH zE (zy : ZM zd = true) (z16 : ZM zH = true) (zY : ZM zE = true) : Sim (Z2T zm zu) (Z24 zn z7 zh zj z2 z6) (Z8B 1 (.ptr 1 0) [(ZL zm zn z7 zh zj z2 z6 zu zd), (Zl b1 zH zE)]) := by
 unfold Z24
 refine zf (ZxH ..)<|ze<|zq<|zt [(ZL zm zn z7 zh zj z2 z6 zu zd), (Zl Z1B .nl .nl)] ?_
 exact zr ((.p (.tup [(.agg (ZI Z1B .sh .sh)), (.v (.bool true))])), [(ZL zm zn z7 zh zj z2 z6 zu zd), (Zl Z1B .nl .nl)]) ⟨zd, _, zy, rfl⟩
def Z7S (zm : List Int) (zn z7 zh : Int) (zj : List Zz) (z2 z6 : Int) : Option (Zk × Bool × Int × Int × Int × (List Zz) × Int × Int) :=
 (Z3k zm zn).bind fun r1 =>
 if (r1.1 == 46) = true then
 ((Z2w 10).bind fun r2 =>
 (Z3Y true ([r2] : List Z8)).bind fun r3 =>
 some (r3, true, r1.2, z7, zh, zj, z2, z6))
 else
 (if (r1.1 == 94) = true then
 (some ((Zk.mk 9 0 0 0 0 ([] : List Z8) ([] : List Zk)), false, r1.2, z7, zh, zj, z2, z6))
 else
 (if (r1.1 == 36) = true then
 (some ((Zk.mk 9 0 0 0 1 ([] : List Z8) ([] : List Zk)), false, r1.2, z7, zh, zj, z2, z6))
 else
 (if (r1.1 == 92) = true then
 ((Z4z zn zm r1.2 z7 zh zj z2 z6).bind fun r4 =>
 some (r4.1, (r4.1.Kind != 9), r4.2.1, z7, zh, r4.2.2.1, r4.2.2.2.1, r4.2.2.2.2))
 else
 (if (r1.1 == 91) = true then
 ((Z94 zn zm r1.2 z7 zh zj z2 z6).bind fun r5 =>
 some (r5.1, true, r5.2.1, z7, zh, zj, r5.2.2.1, r5.2.2.2))
 else
 (if (r1.1 == 40) = true then
 ((Z4W zn zm r1.2 z7 zh zj z2 z6).bind fun r6 =>
 some (r6.1, r6.2.1, r6.2.2.1, r6.2.2.2.1, r6.2.2.2.2.1, r6.2.2.2.2.2.1, r6.2.2.2.2.2.2.1, r6.2.2.2.2.2.2.2))
 else
 (if (r1.1 == 42) = true then
 (if (r1.1 == 42) = true then
 ((Z1c 23 zn zm z2 z6).bind fun r7 =>
 Z24 r7.1 z7 zh zj r7.2.1 r7.2.2)
 else
 (if (r1.1 == 93) = true then
 (if (r1.1 == 93) = true then
 ((Z1c 20 zn zm z2 z6).bind fun r8 =>
 Z24 r8.1 z7 zh zj r8.2.1 r8.2.2)
 else
 ((Z2w r1.1).bind fun r9 =>
 (Z3Y false ([r9] : List Z8)).bind fun r10 =>
 some (r10, true, r1.2, z7, zh, zj, z2, z6)))
 else
 (if (r1.1 == 125) = true then
 ((Z1c 20 zn zm z2 z6).bind fun r11 =>
 Z24 r11.1 z7 zh zj r11.2.1 r11.2.2)
 else
 ((Z2w r1.1).bind fun r12 =>
 (Z3Y false ([r12] : List Z8)).bind fun r13 =>
 some (r13, true, r1.2, z7, zh, zj, z2, z6)))))
 else
 (if (r1.1 == 43) = true then
 (if (r1.1 == 43) = true then
 ((Z1c 23 zn zm z2 z6).bind fun r14 =>
 Z24 r14.1 z7 zh zj r14.2.1 r14.2.2)
 else
 (if (r1.1 == 93) = true then
 (if (r1.1 == 93) = true then
 ((Z1c 20 zn zm z2 z6).bind fun r15 =>
 Z24 r15.1 z7 zh zj r15.2.1 r15.2.2)
 else
 ((Z2w r1.1).bind fun r16 =>
 (Z3Y false ([r16] : List Z8)).bind fun r17 =>
 some (r17, true, r1.2, z7, zh, zj, z2, z6)))
 else
 (if (r1.1 == 125) = true then
 ((Z1c 20 zn zm z2 z6).bind fun r18 =>
 Z24 r18.1 z7 zh zj r18.2.1 r18.2.2)
 else
 ((Z2w r1.1).bind fun r19 =>
 (Z3Y false ([r19] : List Z8)).bind fun r20 =>
 some (r20, true, r1.2, z7, zh, zj, z2, z6)))))
 else
 (if (r1.1 == 63) = true then
 (if (r1.1 == 63) = true then
 ((Z1c 23 zn zm z2 z6).bind fun r21 =>
 Z24 r21.1 z7 zh zj r21.2.1 r21.2.2)
 else
 (if (r1.1 == 93) = true then
 (if (r1.1 == 93) = true then
 ((Z1c 20 zn zm z2 z6).bind fun r22 =>
 Z24 r22.1 z7 zh zj r22.2.1 r22.2.2)
 else
 ((Z2w r1.1).bind fun r23 =>
 (Z3Y false ([r23] : List Z8)).bind fun r24 =>
 some (r24, true, r1.2, z7, zh, zj, z2, z6)))
 else
 (if (r1.1 == 125) = true then
 ((Z1c 20 zn zm z2 z6).bind fun r25 =>
 Z24 r25.1 z7 zh zj r25.2.1 r25.2.2)
 else
 ((Z2w r1.1).bind fun r26 =>
 (Z3Y false ([r26] : List Z8)).bind fun r27 =>
 some (r27, true, r1.2, z7, zh, zj, z2, z6)))))
 else
 (if (r1.1 == 123) = true then
 ((Z1c 23 zn zm z2 z6).bind fun r28 =>
 Z24 r28.1 z7 zh zj r28.2.1 r28.2.2)
 else
 (if (r1.1 == 93) = true then
 (if (r1.1 == 93) = true then
 ((Z1c 20 zn zm z2 z6).bind fun r29 =>
 Z24 r29.1 z7 zh zj r29.2.1 r29.2.2)
 else
 ((Z2w r1.1).bind fun r30 =>
 (Z3Y false ([r30] : List Z8)).bind fun r31 =>
 some (r31, true, r1.2, z7, zh, zj, z2, z6)))
 else
 (if (r1.1 == 125) = true then
 ((Z1c 20 zn zm z2 z6).bind fun r32 =>
 Z24 r32.1 z7 zh zj r32.2.1 r32.2.2)
 else
 ((Z2w r1.1).bind fun r33 =>
 (Z3Y false ([r33] : List Z8)).bind fun r34 =>
 some (r34, true, r1.2, z7, zh, zj, z2, z6)))))))))))))
theorem Zj2 zm zn z7 zh zj z2 z6 zu zd (zy : ZM zd = true) : Sim (Z2T zm zu) (Z7S zm zn z7 zh zj z2 z6) (EE 48 [(.ptr 0 0)] [(ZL zm zn z7 zh zj z2 z6 zu zd)]) := by
 unfold Z7S
 refine zf (ZFY ..)<|ze<|zz (.ptr 1 0) [(ZL zm zn z7 zh zj z2 z6 zu zd), (Zl Z1B .nl .nl)]<|ze<|zq<|zq<|zq<|ze<|zi fun r1 hr1 => ?_
 obtain ⟨_, er1, _, rfl⟩ := Z3J zm zn z7 zh zj z2 z6 zu zd zy r1 hr1
 refine zc [0] (iv r1.1) [(ZL zm r1.2 z7 zh zj z2 z6 zu zd), (Zl Z1B .nl .nl)] er1<|ze<|ze<|zq ?_
 refine za (r1.1 == 46) ?_ ?_
 ·refine ze<|zi fun r2 hr2 => ?_
  obtain ⟨_, er2, _, rfl⟩ := Z2m 10 r2 hr2
  refine zc [] (pA_ (ZN r2)) [(ZL zm r1.2 z7 zh zj z2 z6 zu zd), (Zl Z1B .nl .nl)] er2<|zq<|zi fun r3 hr3 => ?_
  obtain ⟨_, er3, _, rfl⟩ := Z47 true ([r2] : List Z8) .sh r3 hr3
  refine zc [] (pA_ (ZI r3 .sh .sh)) [(ZL zm r1.2 z7 zh zj z2 z6 zu zd), (Zl Z1B .nl .nl)] er3<|zt [(ZL zm r1.2 z7 zh zj z2 z6 zu zd), (Zl r3 .sh .sh)] ?_
  exact zr ((.p (.tup [(.agg (ZI r3 .sh .sh)), (.v (.bool true))])), [(ZL zm r1.2 z7 zh zj z2 z6 zu zd), (Zl r3 .sh .sh)]) ⟨zd, _, zy, rfl⟩
 ·refine ze<|zq ?_
  refine za (r1.1 == 94) ?_ ?_
  ·refine ze<|zq<|zt [(ZL zm r1.2 z7 zh zj z2 z6 zu zd), (Z2P 9 0 0 0 0 ([] : List Z8) ([] : List Zk) .nl .nl)] ?_
   exact zr ((.p (.tup [(.agg (ZI (Zk.mk 9 0 0 0 0 ([] : List Z8) ([] : List Zk)) .sh .sh)), (.v (.bool false))])), [(ZL zm r1.2 z7 zh zj z2 z6 zu zd), (Z2P 9 0 0 0 0 ([] : List Z8) ([] : List Zk) .nl .nl)]) ⟨zd, _, zy, rfl⟩
  ·refine ze<|zq ?_
   refine za (r1.1 == 36) ?_ ?_
   ·refine ze<|zq<|zt [(ZL zm r1.2 z7 zh zj z2 z6 zu zd), (Z2P 9 0 0 0 1 ([] : List Z8) ([] : List Zk) .nl .nl)] ?_
    exact zr ((.p (.tup [(.agg (ZI (Zk.mk 9 0 0 0 1 ([] : List Z8) ([] : List Zk)) .sh .sh)), (.v (.bool false))])), [(ZL zm r1.2 z7 zh zj z2 z6 zu zd), (Z2P 9 0 0 0 1 ([] : List Z8) ([] : List Zk) .nl .nl)]) ⟨zd, _, zy, rfl⟩
   ·refine ze<|zq ?_
    refine za (r1.1 == 92) ?_ ?_
    ·refine ze<|zi fun r4 hr4 => ?_
     obtain ⟨_, er4, zid, _, zCA, rfl⟩ := Ziv zn zm r1.2 z7 zh zj z2 z6 zu zd zy r4 hr4
     refine zc [0] (pA_ (ZI r4.1 .sh .sh)) [(ZL zm r4.2.1 z7 zh r4.2.2.1 r4.2.2.2.1 r4.2.2.2.2 zu zid), (Zl Z1B .nl .nl)] er4<|zz (.ptr 2 0) [(ZL zm r4.2.1 z7 zh r4.2.2.1 r4.2.2.2.1 r4.2.2.2.2 zu zid), (Zl Z1B .nl .nl), (Zl Z1B .nl .nl)]<|zt [(ZL zm r4.2.1 z7 zh r4.2.2.1 r4.2.2.2.1 r4.2.2.2.2 zu zid), (Zl Z1B .nl .nl), (Zl r4.1 .sh .sh)]<|ze<|zq<|zq<|zq<|zq<|zt [(ZL zm r4.2.1 z7 zh r4.2.2.1 r4.2.2.2.1 r4.2.2.2.2 zu zid), (Zl r4.1 .sh .sh), (Zl r4.1 .sh .sh)]<|zg ?_
     exact zr ((.p (.tup [(.agg (ZI r4.1 .sh .sh)), (.v (.bool (r4.1.Kind != 9)))])), [(ZL zm r4.2.1 z7 zh r4.2.2.1 r4.2.2.2.1 r4.2.2.2.2 zu zid), (Zl r4.1 .sh .sh), (Zl r4.1 .sh .sh)]) ⟨zid, _, zCA, rfl⟩
    ·refine ze<|zq ?_
     refine za (r1.1 == 91) ?_ ?_
     ·refine ze<|zi fun r5 hr5 => ?_
      obtain ⟨_, er5, _, rfl⟩ := Zj4 zn zm r1.2 z7 zh zj z2 z6 zu zd zy r5 hr5
      refine zc [0] (pA_ (ZI r5.1 .sh .sh)) [(ZL zm r5.2.1 z7 zh zj r5.2.2.1 r5.2.2.2 zu zd), (Zl Z1B .nl .nl)] er5<|zt [(ZL zm r5.2.1 z7 zh zj r5.2.2.1 r5.2.2.2 zu zd), (Zl r5.1 .sh .sh)] ?_
      exact zr ((.p (.tup [(.agg (ZI r5.1 .sh .sh)), (.v (.bool true))])), [(ZL zm r5.2.1 z7 zh zj r5.2.2.1 r5.2.2.2 zu zd), (Zl r5.1 .sh .sh)]) ⟨zd, _, zy, rfl⟩
     ·refine ze<|zq ?_
      refine za (r1.1 == 40) ?_ ?_
      ·refine ze<|zi fun r6 hr6 => ?_
       obtain ⟨_, er6, znJ, _, zCB, rfl⟩ := Zj6 zn zm r1.2 z7 zh zj z2 z6 zu zd zy r6 hr6
       refine zc [0] (.p (.tup [(.agg (ZI r6.1 .sh .sh)), (.v (.bool r6.2.1))])) [(ZL zm r6.2.2.1 r6.2.2.2.1 r6.2.2.2.2.1 r6.2.2.2.2.2.1 r6.2.2.2.2.2.2.1 r6.2.2.2.2.2.2.2 zu znJ), (Zl Z1B .nl .nl)] er6<|zq<|zq<|zt [(ZL zm r6.2.2.1 r6.2.2.2.1 r6.2.2.2.2.1 r6.2.2.2.2.2.1 r6.2.2.2.2.2.2.1 r6.2.2.2.2.2.2.2 zu znJ), (Zl r6.1 .sh .sh)] ?_
       exact zr ((.p (.tup [(.agg (ZI r6.1 .sh .sh)), (.v (.bool r6.2.1))])), [(ZL zm r6.2.2.1 r6.2.2.2.1 r6.2.2.2.2.1 r6.2.2.2.2.2.1 r6.2.2.2.2.2.2.1 r6.2.2.2.2.2.2.2 zu znJ), (Zl r6.1 .sh .sh)]) ⟨znJ, _, zCB, rfl⟩
      ·refine ze<|zq ?_
       refine za (r1.1 == 42) ?_ ?_
       ·refine za (r1.1 == 42) ?_ ?_
        ·refine ze<|zi fun r7 hr7 => ?_
         obtain ⟨_, er7, _, rfl⟩ := Z1h 23 zn zm r1.2 z7 zh zj z2 z6 zu zd zy r7 hr7
         refine zc [0] (.p (.tup [])) [(ZL zm r7.1 z7 zh zj r7.2.1 r7.2.2 zu zd), (Zl Z1B .nl .nl)] er7 ?_
         exact zk (Z28 zm r7.1 z7 zh zj r7.2.1 r7.2.2 Z1B zu zd .nl .nl zy rfl rfl)
        ·refine ze<|zq ?_
         refine za (r1.1 == 93) ?_ ?_
         ·refine za (r1.1 == 93) ?_ ?_
          ·refine ze<|zi fun r8 hr8 => ?_
           obtain ⟨_, er8, _, rfl⟩ := Z1h 20 zn zm r1.2 z7 zh zj z2 z6 zu zd zy r8 hr8
           refine zc [0] (.p (.tup [])) [(ZL zm r8.1 z7 zh zj r8.2.1 r8.2.2 zu zd), (Zl Z1B .nl .nl)] er8 ?_
           exact zk (Z28 zm r8.1 z7 zh zj r8.2.1 r8.2.2 Z1B zu zd .nl .nl zy rfl rfl)
          ·refine ze<|zi fun r9 hr9 => ?_
           obtain ⟨_, er9, _, rfl⟩ := Z2m r1.1 r9 hr9
           refine zc [] (pA_ (ZN r9)) [(ZL zm r1.2 z7 zh zj z2 z6 zu zd), (Zl Z1B .nl .nl)] er9<|zq<|zi fun r10 hr10 => ?_
           obtain ⟨_, er10, _, rfl⟩ := Z47 false ([r9] : List Z8) .sh r10 hr10
           refine zc [] (pA_ (ZI r10 .sh .sh)) [(ZL zm r1.2 z7 zh zj z2 z6 zu zd), (Zl Z1B .nl .nl)] er10<|zt [(ZL zm r1.2 z7 zh zj z2 z6 zu zd), (Zl r10 .sh .sh)] ?_
           exact zr ((.p (.tup [(.agg (ZI r10 .sh .sh)), (.v (.bool true))])), [(ZL zm r1.2 z7 zh zj z2 z6 zu zd), (Zl r10 .sh .sh)]) ⟨zd, _, zy, rfl⟩
         ·refine ze<|zq ?_
          refine za (r1.1 == 125) ?_ ?_
          ·refine ze<|zi fun r11 hr11 => ?_
           obtain ⟨_, er11, _, rfl⟩ := Z1h 20 zn zm r1.2 z7 zh zj z2 z6 zu zd zy r11 hr11
           refine zc [0] (.p (.tup [])) [(ZL zm r11.1 z7 zh zj r11.2.1 r11.2.2 zu zd), (Zl Z1B .nl .nl)] er11 ?_
           exact zk (Z28 zm r11.1 z7 zh zj r11.2.1 r11.2.2 Z1B zu zd .nl .nl zy rfl rfl)
          ·refine ze<|zi fun r12 hr12 => ?_
           obtain ⟨_, er12, _, rfl⟩ := Z2m r1.1 r12 hr12
           refine zc [] (pA_ (ZN r12)) [(ZL zm r1.2 z7 zh zj z2 z6 zu zd), (Zl Z1B .nl .nl)] er12<|zq<|zi fun r13 hr13 => ?_
           obtain ⟨_, er13, _, rfl⟩ := Z47 false ([r12] : List Z8) .sh r13 hr13
           refine zc [] (pA_ (ZI r13 .sh .sh)) [(ZL zm r1.2 z7 zh zj z2 z6 zu zd), (Zl Z1B .nl .nl)] er13<|zt [(ZL zm r1.2 z7 zh zj z2 z6 zu zd), (Zl r13 .sh .sh)] ?_
           exact zr ((.p (.tup [(.agg (ZI r13 .sh .sh)), (.v (.bool true))])), [(ZL zm r1.2 z7 zh zj z2 z6 zu zd), (Zl r13 .sh .sh)]) ⟨zd, _, zy, rfl⟩
       ·refine ze<|zq ?_
        refine za (r1.1 == 43) ?_ ?_
        ·refine za (r1.1 == 43) ?_ ?_
         ·refine ze<|zi fun r14 hr14 => ?_
          obtain ⟨_, er14, _, rfl⟩ := Z1h 23 zn zm r1.2 z7 zh zj z2 z6 zu zd zy r14 hr14
          refine zc [0] (.p (.tup [])) [(ZL zm r14.1 z7 zh zj r14.2.1 r14.2.2 zu zd), (Zl Z1B .nl .nl)] er14 ?_
          exact zk (Z28 zm r14.1 z7 zh zj r14.2.1 r14.2.2 Z1B zu zd .nl .nl zy rfl rfl)
         ·refine ze<|zq ?_
          refine za (r1.1 == 93) ?_ ?_
          ·refine za (r1.1 == 93) ?_ ?_
           ·refine ze<|zi fun r15 hr15 => ?_
            obtain ⟨_, er15, _, rfl⟩ := Z1h 20 zn zm r1.2 z7 zh zj z2 z6 zu zd zy r15 hr15
            refine zc [0] (.p (.tup [])) [(ZL zm r15.1 z7 zh zj r15.2.1 r15.2.2 zu zd), (Zl Z1B .nl .nl)] er15 ?_
            exact zk (Z28 zm r15.1 z7 zh zj r15.2.1 r15.2.2 Z1B zu zd .nl .nl zy rfl rfl)
           ·refine ze<|zi fun r16 hr16 => ?_
            obtain ⟨_, er16, _, rfl⟩ := Z2m r1.1 r16 hr16
            refine zc [] (pA_ (ZN r16)) [(ZL zm r1.2 z7 zh zj z2 z6 zu zd), (Zl Z1B .nl .nl)] er16<|zq<|zi fun r17 hr17 => ?_
            obtain ⟨_, er17, _, rfl⟩ := Z47 false ([r16] : List Z8) .sh r17 hr17
            refine zc [] (pA_ (ZI r17 .sh .sh)) [(ZL zm r1.2 z7 zh zj z2 z6 zu zd), (Zl Z1B .nl .nl)] er17<|zt [(ZL zm r1.2 z7 zh zj z2 z6 zu zd), (Zl r17 .sh .sh)] ?_
            exact zr ((.p (.tup [(.agg (ZI r17 .sh .sh)), (.v (.bool true))])), [(ZL zm r1.2 z7 zh zj z2 z6 zu zd), (Zl r17 .sh .sh)]) ⟨zd, _, zy, rfl⟩
          ·refine ze<|zq ?_
           refine za (r1.1 == 125) ?_ ?_
           ·refine ze<|zi fun r18 hr18 => ?_
            obtain ⟨_, er18, _, rfl⟩ := Z1h 20 zn zm r1.2 z7 zh zj z2 z6 zu zd zy r18 hr18
            refine zc [0] (.p (.tup [])) [(ZL zm r18.1 z7 zh zj r18.2.1 r18.2.2 zu zd), (Zl Z1B .nl .nl)] er18 ?_
            exact zk (Z28 zm r18.1 z7 zh zj r18.2.1 r18.2.2 Z1B zu zd .nl .nl zy rfl rfl)
           ·refine ze<|zi fun r19 hr19 => ?_
            obtain ⟨_, er19, _, rfl⟩ := Z2m r1.1 r19 hr19
            refine zc [] (pA_ (ZN r19)) [(ZL zm r1.2 z7 zh zj z2 z6 zu zd), (Zl Z1B .nl .nl)] er19<|zq<|zi fun r20 hr20 => ?_
            obtain ⟨_, er20, _, rfl⟩ := Z47 false ([r19] : List Z8) .sh r20 hr20
            refine zc [] (pA_ (ZI r20 .sh .sh)) [(ZL zm r1.2 z7 zh zj z2 z6 zu zd), (Zl Z1B .nl .nl)] er20<|zt [(ZL zm r1.2 z7 zh zj z2 z6 zu zd), (Zl r20 .sh .sh)] ?_
            exact zr ((.p (.tup [(.agg (ZI r20 .sh .sh)), (.v (.bool true))])), [(ZL zm r1.2 z7 zh zj z2 z6 zu zd), (Zl r20 .sh .sh)]) ⟨zd, _, zy, rfl⟩
        ·refine ze<|zq ?_
         refine za (r1.1 == 63) ?_ ?_
         ·refine za (r1.1 == 63) ?_ ?_
          ·refine ze<|zi fun r21 hr21 => ?_
           obtain ⟨_, er21, _, rfl⟩ := Z1h 23 zn zm r1.2 z7 zh zj z2 z6 zu zd zy r21 hr21
           refine zc [0] (.p (.tup [])) [(ZL zm r21.1 z7 zh zj r21.2.1 r21.2.2 zu zd), (Zl Z1B .nl .nl)] er21 ?_
           exact zk (Z28 zm r21.1 z7 zh zj r21.2.1 r21.2.2 Z1B zu zd .nl .nl zy rfl rfl)
          ·refine ze<|zq ?_
           refine za (r1.1 == 93) ?_ ?_
           ·refine za (r1.1 == 93) ?_ ?_
            ·refine ze<|zi fun r22 hr22 => ?_
             obtain ⟨_, er22, _, rfl⟩ := Z1h 20 zn zm r1.2 z7 zh zj z2 z6 zu zd zy r22 hr22
             refine zc [0] (.p (.tup [])) [(ZL zm r22.1 z7 zh zj r22.2.1 r22.2.2 zu zd), (Zl Z1B .nl .nl)] er22 ?_
             exact zk (Z28 zm r22.1 z7 zh zj r22.2.1 r22.2.2 Z1B zu zd .nl .nl zy rfl rfl)
            ·refine ze<|zi fun r23 hr23 => ?_
             obtain ⟨_, er23, _, rfl⟩ := Z2m r1.1 r23 hr23
             refine zc [] (pA_ (ZN r23)) [(ZL zm r1.2 z7 zh zj z2 z6 zu zd), (Zl Z1B .nl .nl)] er23<|zq<|zi fun r24 hr24 => ?_
             obtain ⟨_, er24, _, rfl⟩ := Z47 false ([r23] : List Z8) .sh r24 hr24
             refine zc [] (pA_ (ZI r24 .sh .sh)) [(ZL zm r1.2 z7 zh zj z2 z6 zu zd), (Zl Z1B .nl .nl)] er24<|zt [(ZL zm r1.2 z7 zh zj z2 z6 zu zd), (Zl r24 .sh .sh)] ?_
             exact zr ((.p (.tup [(.agg (ZI r24 .sh .sh)), (.v (.bool true))])), [(ZL zm r1.2 z7 zh zj z2 z6 zu zd), (Zl r24 .sh .sh)]) ⟨zd, _, zy, rfl⟩
           ·refine ze<|zq ?_
            refine za (r1.1 == 125) ?_ ?_
            ·refine ze<|zi fun r25 hr25 => ?_
             obtain ⟨_, er25, _, rfl⟩ := Z1h 20 zn zm r1.2 z7 zh zj z2 z6 zu zd zy r25 hr25
             refine zc [0] (.p (.tup [])) [(ZL zm r25.1 z7 zh zj r25.2.1 r25.2.2 zu zd), (Zl Z1B .nl .nl)] er25 ?_
             exact zk (Z28 zm r25.1 z7 zh zj r25.2.1 r25.2.2 Z1B zu zd .nl .nl zy rfl rfl)
            ·refine ze<|zi fun r26 hr26 => ?_
             obtain ⟨_, er26, _, rfl⟩ := Z2m r1.1 r26 hr26
             refine zc [] (pA_ (ZN r26)) [(ZL zm r1.2 z7 zh zj z2 z6 zu zd), (Zl Z1B .nl .nl)] er26<|zq<|zi fun r27 hr27 => ?_
             obtain ⟨_, er27, _, rfl⟩ := Z47 false ([r26] : List Z8) .sh r27 hr27
             refine zc [] (pA_ (ZI r27 .sh .sh)) [(ZL zm r1.2 z7 zh zj z2 z6 zu zd), (Zl Z1B .nl .nl)] er27<|zt [(ZL zm r1.2 z7 zh zj z2 z6 zu zd), (Zl r27 .sh .sh)] ?_
             exact zr ((.p (.tup [(.agg (ZI r27 .sh .sh)), (.v (.bool true))])), [(ZL zm r1.2 z7 zh zj z2 z6 zu zd), (Zl r27 .sh .sh)]) ⟨zd, _, zy, rfl⟩
         ·refine ze<|zq ?_
          refine za (r1.1 == 123) ?_ ?_
          ·refine ze<|zi fun r28 hr28 => ?_
           obtain ⟨_, er28, _, rfl⟩ := Z1h 23 zn zm r1.2 z7 zh zj z2 z6 zu zd zy r28 hr28
           refine zc [0] (.p (.tup [])) [(ZL zm r28.1 z7 zh zj r28.2.1 r28.2.2 zu zd), (Zl Z1B .nl .nl)] er28 ?_
           exact zk (Z28 zm r28.1 z7 zh zj r28.2.1 r28.2.2 Z1B zu zd .nl .nl zy rfl rfl)
          ·refine ze<|zq ?_
           refine za (r1.1 == 93) ?_ ?_
           ·refine za (r1.1 == 93) ?_ ?_
            ·refine ze<|zi fun r29 hr29 => ?_
             obtain ⟨_, er29, _, rfl⟩ := Z1h 20 zn zm r1.2 z7 zh zj z2 z6 zu zd zy r29 hr29
             refine zc [0] (.p (.tup [])) [(ZL zm r29.1 z7 zh zj r29.2.1 r29.2.2 zu zd), (Zl Z1B .nl .nl)] er29 ?_
             exact zk (Z28 zm r29.1 z7 zh zj r29.2.1 r29.2.2 Z1B zu zd .nl .nl zy rfl rfl)
            ·refine ze<|zi fun r30 hr30 => ?_
             obtain ⟨_, er30, _, rfl⟩ := Z2m r1.1 r30 hr30
             refine zc [] (pA_ (ZN r30)) [(ZL zm r1.2 z7 zh zj z2 z6 zu zd), (Zl Z1B .nl .nl)] er30<|zq<|zi fun r31 hr31 => ?_
             obtain ⟨_, er31, _, rfl⟩ := Z47 false ([r30] : List Z8) .sh r31 hr31
             refine zc [] (pA_ (ZI r31 .sh .sh)) [(ZL zm r1.2 z7 zh zj z2 z6 zu zd), (Zl Z1B .nl .nl)] er31<|zt [(ZL zm r1.2 z7 zh zj z2 z6 zu zd), (Zl r31 .sh .sh)] ?_
             exact zr ((.p (.tup [(.agg (ZI r31 .sh .sh)), (.v (.bool true))])), [(ZL zm r1.2 z7 zh zj z2 z6 zu zd), (Zl r31 .sh .sh)]) ⟨zd, _, zy, rfl⟩
           ·refine ze<|zq ?_
            refine za (r1.1 == 125) ?_ ?_
            ·refine ze<|zi fun r32 hr32 => ?_
             obtain ⟨_, er32, _, rfl⟩ := Z1h 20 zn zm r1.2 z7 zh zj z2 z6 zu zd zy r32 hr32
             refine zc [0] (.p (.tup [])) [(ZL zm r32.1 z7 zh zj r32.2.1 r32.2.2 zu zd), (Zl Z1B .nl .nl)] er32 ?_
             exact zk (Z28 zm r32.1 z7 zh zj r32.2.1 r32.2.2 Z1B zu zd .nl .nl zy rfl rfl)
            ·refine ze<|zi fun r33 hr33 => ?_
             obtain ⟨_, er33, _, rfl⟩ := Z2m r1.1 r33 hr33
             refine zc [] (pA_ (ZN r33)) [(ZL zm r1.2 z7 zh zj z2 z6 zu zd), (Zl Z1B .nl .nl)] er33<|zq<|zi fun r34 hr34 => ?_
             obtain ⟨_, er34, _, rfl⟩ := Z47 false ([r33] : List Z8) .sh r34 hr34
             refine zc [] (pA_ (ZI r34 .sh .sh)) [(ZL zm r1.2 z7 zh zj z2 z6 zu zd), (Zl Z1B .nl .nl)] er34<|zt [(ZL zm r1.2 z7 zh zj z2 z6 zu zd), (Zl r34 .sh .sh)] ?_
             exact zr ((.p (.tup [(.agg (ZI r34 .sh .sh)), (.v (.bool true))])), [(ZL zm r1.2 z7 zh zj z2 z6 zu zd), (Zl r34 .sh .sh)]) ⟨zd, _, zy, rfl⟩
theorem ZjD zm zn z7 zh zj z2 z6 {r} (h : Z7S zm zn z7 zh zj z2 z6 = some r) : Z9H zm zn z7 zh zj z2 z6 = some r :=
 Z1i (fun _ _ ha hb => ru_ (Zds _ _) (ha .ex .ex rfl) (hb .ex .ex rfl)) (fun zu zd zy => Zj2 zm zn z7 zh zj z2 z6 zu zd zy r h)
def Z9E (zm : List Int) (zn : Int) : Option (Int × Int) :=
 (ZdF zm zn).bind fun r1 =>
 some (r1.1, (IntKind.i64.wrap (zn + r1.2)))
theorem Zj9 zm zn z7 zh zj z2 z6 zu zd (zy : ZM zd = true) : Sim (Z2c zm z7 zh zj z2 z6 zu zd) (Z9E zm zn) (EE 63 [(.ptr 0 0)] [(ZL zm zn z7 zh zj z2 z6 zu zd)]) := by
 unfold Z9E
 refine zf (ZGf ..)<|ze<|ze<|zq<|zq<|zq<|zq<|zq<|zq<|zi fun r1 hr1 => ?_
 obtain ⟨_, er1, _, rfl⟩ := Zks zm zn .sh r1 hr1
 refine zc [] (.p (.tup [(.v (.int .i64 r1.1)), (.v (.int .i64 r1.2))])) [(ZL zm zn z7 zh zj z2 z6 zu zd)] er1<|zq<|zq<|ze<|zq<|zq<|zq<|zq<|zq<|zq<|zt [(ZL zm (IntKind.i64.wrap (zn + r1.2)) z7 zh zj z2 z6 zu zd)]<|ze ?_
 exact zr ((iv r1.1), [(ZL zm (IntKind.i64.wrap (zn + r1.2)) z7 zh zj z2 z6 zu zd)]) ⟨_, rfl⟩
theorem ZjH zm zn {r} (h : Z9E zm zn = some r) : Z3k zm zn = some r :=
 Z1i (fun _ _ ha hb => ru_ (Z6E _ _ _ _ _ _ _ _) (ha default default default default default .ex .ex rfl) (hb default default default default default .ex .ex rfl)) (fun z7 zh zj z2 z6 zu zd zy => Zj9 zm zn z7 zh zj z2 z6 zu zd zy r h)
def Zjv (x0 : Int) : Option Z8 :=
 some (Z8.mk x0 x0)
theorem Zql x0 : Sim Zgd (Zjv x0) (EE 65 [(iv x0)] []) := by
 unfold Zjv
 refine zf (ZGi ..)<|ze<|zz (.ptr 0 0) [(Z1K ZvW)]<|ze<|zq<|zt [(Z1K (Z8.mk x0 x0))] ?_
 exact zr ((pA_ (ZN (Z8.mk x0 x0))), [(Z1K (Z8.mk x0 x0))]) ⟨_, rfl⟩
theorem ZrE x0 {r} (h : Zjv x0 = some r) : Z2w x0 = some r :=
 Z1i (fun _ _ ha hb => ru_ Zsk ha hb) (Zql x0 r h)
def ZcH (x5 : List Z8) : Option Zk :=
 some (Zk.mk 1 0 0 0 0 x5 ([] : List Zk))
theorem ZgG (x5 : List Z8) b0 ox5 z1V z1v (zCz : ZM z1V = true) (zBi : ZM z1v = true) : Sim Z6D (ZcH x5) (Zq1 0 (.ptr 0 0) (ZP ox5 (x5.map Zv)) [(Zl b0 z1V z1v)]) := by
 unfold ZcH
 refine zf (ZAB ..)<|ze<|zq<|zt [(Z2P 1 0 0 0 0 x5 ([] : List Zk) (shrO (shrO ox5)) .nl)] ?_
 exact zr ((pA_ (ZI (Zk.mk 1 0 0 0 0 x5 ([] : List Zk)) .sh .sh)), [(Z2P 1 0 0 0 0 x5 ([] : List Zk) (shrO (shrO ox5)) .nl)]) ⟨_, rfl⟩
def Zgf (x0 : Bool) (x1 : List Z8) : Option Zk :=
 (ZeR x1).bind fun r1 =>
 if x0 = true then
 ((Z8C r1.1).bind fun r2 =>
 ZcH r2.1)
 else
 (ZcH r1.1)
theorem Zqm x0 (x1 : List Z8) ox1 : Sim Z6D (Zgf x0 x1) (EE 64 [(bv x0), (ZP ox1 (x1.map Zv))] []) := by
 unfold Zgf
 refine zf (ZGg ..)<|ze<|zz (.ptr 0 0) [(Zl Z1B .nl .nl)]<|ze<|zi fun r1 hr1 => ?_
 obtain ⟨_, er1, _, rfl⟩ := Zqj x1 .sh r1 hr1
 refine zc [] (.p (.tup [(.lst .sh (r1.1.map Zv)), (.v (.int .i64 r1.2))])) [(Zl Z1B .nl .nl)] er1<|zq<|zq<|ze ?_
 refine za x0 ?_ ?_
 ·refine ze<|zi fun r2 hr2 => ?_
  obtain ⟨_, er2, _, rfl⟩ := Zc8 r1.1 .sh r2 hr2
  refine zc [] (.p (.tup [(.lst .sh (r2.1.map Zv)), (.v (.int .i64 r2.2))])) [(Zl Z1B .nl .nl)] er2<|zq<|zq ?_
  exact zk (ZgG r2.1 Z1B .sh .nl .nl rfl rfl)
 ·exact zk (ZgG r1.1 Z1B .sh .nl .nl rfl rfl)
theorem ZrF x0 x1 {r} (h : Zgf x0 x1 = some r) : Z3Y x0 x1 = some r :=
 Z1i (fun _ _ ha hb => ru_ Zii (ha .ex) (hb .ex)) (fun ox1 => Zqm x0 x1 ox1 r h)
def ZbF (x0 : List Z8) : Option ((List Z8) × Int) :=
 (ZaO x0).bind fun r1 =>
 some (r1, 0)
theorem ZlQ (x0 : List Z8) ox0 : Sim Z2R (ZbF x0) (ZuG 0 (ZP ox0 (x0.map Zv)) []) := by
 unfold ZbF
 refine zf (ZAV ..)<|ze<|zi fun r1 hr1 => ?_
 obtain ⟨_, er1, _, rfl⟩ := Zdd x0 .sh r1 hr1
 refine zc [] (ZP .sh (r1.map Zv)) [] er1 ?_
 exact zr ((.p (.tup [(.lst .sh (r1.map Zv)), (.v (.int .i64 0))])), []) ⟨_, rfl⟩
def ZeM (x0 : List Z8) : Option ((List Z8) × Int) :=
 (Z58 x0).bind fun r1 =>
 if r1 = true then
 (some (([] : List Z8), 13))
 else
 (ZbF x0)
theorem Zot (x0 : List Z8) ox0 : Sim Z2R (ZeM x0) (EE 77 [(ZP ox0 (x0.map Zv))] []) := by
 unfold ZeM
 refine zf (ZGA ..)<|ze<|ze<|zi fun r1 hr1 => ?_
 obtain ⟨_, er1, _, rfl⟩ := Zdi x0 .sh r1 hr1
 refine zc [] (bv r1) [] er1 ?_
 refine za r1 ?_ ?_
 ·refine ze ?_
  exact zr ((.p (.tup [(.lst .sh []), (.v (.int .i64 13))])), []) ⟨_, rfl⟩
 ·exact zk (ZlQ x0 ox0)
theorem Zqi x0 {r} (h : ZeM x0 = some r) : ZeR x0 = some r :=
 Z1i (fun _ _ ha hb => ru_ ZaG (ha .ex) (hb .ex)) (fun ox0 => Zot x0 ox0 r h)
def Z53 (x0 : List Z8) : Option Bool :=
 (Z6a x0).bind fun r1 =>
 some (decide (0 ≤ r1))
theorem ZcQ (x0 : List Z8) ox0 : Sim ZQ (Z53 x0) (EE 96 [(ZP ox0 (x0.map Zv)), (.clo 97 [] [])] []) := by
 unfold Z53
 refine zf (ZGQ ..)<|ze<|ze<|zi fun r1 hr1 => ?_
 obtain ⟨_, er1, _, rfl⟩ := ZeL x0 .sh r1 hr1
 refine zc [] (iv r1) [] er1<|zq ?_
 exact zr ((bv (decide (0 ≤ r1))), []) ⟨_, rfl⟩
theorem Zdh x0 {r} (h : Z53 x0 = some r) : Z58 x0 = some r :=
 Z1i (fun _ _ ha hb => ru_ Z2q (ha .ex) (hb .ex)) (fun ox0 => ZcQ x0 ox0 r h)
def Z64 (x0 : List Z8) : Option Int :=
 Z42 x0 (x0.length : Int) 0
theorem Ze5 (x0 : List Z8) ox0 : Sim ZK (Z64 x0) (EE 104 [(ZP ox0 (x0.map Zv)), (.clo 97 [] [])] []) := by
 unfold Z64
 refine zf (ZE2 ..)<|ze<|ze<|zp (iv (x0.length : Int)) (et_ (Z30 (P := PP) (t := 27) (d := 47) (by kernel_rfl) Zv (shrO ox0) x0)) ?_
 exact zk (Z8W x0 (x0.length : Int) 0 ox0)
theorem ZeK x0 {r} (h : Z64 x0 = some r) : Z6a x0 = some r :=
 Z1i (fun _ _ ha hb => ru_ Z1J (ha .ex) (hb .ex)) (fun ox0 => Ze5 x0 ox0 r h)
def Z56 (x0 : List Z8) (x7 x8 : Int) : Option Int :=
 Z42 x0 x7 (IntKind.i64.wrap (x8 + 1))
theorem ZcX (x0 : List Z8) x7 x8 ox0 : Sim ZK (Z56 x0 x7 x8) (Zrc 0 (ZP ox0 (x0.map Zv)) (.clo 97 [] []) (iv x7) (iv x8) []) := by
 unfold Z56
 refine zf (Zxd ..)<|ze<|zq ?_
 exact zk (Z8W x0 x7 (IntKind.i64.wrap (x8 + 1)) ox0)
def Z55 (x0 : List Z8) (x7 x8 : Int) : Option Int :=
 (lget x0 x8).bind fun a1 =>
 (ZcO a1).bind fun r2 =>
 if r2 = true then
 (some x8)
 else
 (Z56 x0 x7 x8)
theorem ZcW (x0 : List Z8) x7 x8 ox0 : Sim ZK (Z55 x0 x7 x8) (Zrb 0 (ZP ox0 (x0.map Zv)) (.clo 97 [] []) (iv x7) (iv x8) []) := by
 unfold Z55
 refine zf (Zxc ..)<|ze<|ze<|zi fun a1 ha1 => zp (.cptr (ZN a1)) (et_ (Z2v (o := (shrO ox0)) (k := .i64) (n := 2) (e := Zv) (cs := Z4y) (fun _ => rfl) (fun _ => rfl) (by decide) ha1))<|zq<|zi fun r2 hr2 => ?_
 obtain ⟨_, er2, _, rfl⟩ := ZnT a1 r2 hr2
 refine zv [] (bv r2) [] er2 ?_
 refine za r2 ?_ ?_
 ·refine ze ?_
  exact zr ((iv x8), []) ⟨_, rfl⟩
 ·exact zk (ZcX x0 x7 x8 ox0)
def Z74 : Option Int :=
 some (-1)
theorem ZcY : Sim ZK Z74 (Zrd 0 []) := by
 unfold Z74
 refine zf (Zxe ..)<|ze ?_
 exact zr ((iv (-1)), []) ⟨_, rfl⟩
def Z40 (x0 : List Z8) (x7 x8 : Int) : Option Int :=
 if (decide (x8 < x7)) = true then
 (Z55 x0 x7 x8)
 else
 Z74
theorem ZcV (x0 : List Z8) x7 x8 ox0 : Sim ZK (Z40 x0 x7 x8) (ZjX 0 (ZP ox0 (x0.map Zv)) (.clo 97 [] []) (iv x7) (iv x8) []) := by
 unfold Z40
 refine zf (Zxb ..)<|ze<|zq ?_
 refine za (decide (x8 < x7)) ?_ ?_
 ·exact zk (ZcW x0 x7 x8 ox0)
 ·exact zk ZcY
theorem Z8V x0 x7 x8 {r} (h : Z40 x0 x7 x8 = some r) : Z42 x0 x7 x8 = some r :=
 Z1i (fun _ _ ha hb => ru_ Z1J (ha .ex) (hb .ex)) (fun ox0 => ZcV x0 x7 x8 ox0 r h)
def ZcD (x0 : Z8) : Option Bool :=
 (Z7U x0).bind fun r1 =>
 some (!r1)
theorem Zmy x0 : Sim ZQ (ZcD x0) (EE 97 [(pA_ (ZN x0))] []) := by
 unfold ZcD
 refine zf (ZGR ..)<|ze<|zx (.ptr 0 0) [(Z1K x0)]<|ze<|zq<|zi fun r1 hr1 => ?_
 obtain ⟨_, er1, _, rfl⟩ := Zdv x0 r1 hr1
 refine zc [] (bv r1) [(Z1K x0)] er1<|zq ?_
 exact zr ((bv (!r1)), [(Z1K x0)]) ⟨_, rfl⟩
theorem ZnS x0 {r} (h : ZcD x0 = some r) : ZcO x0 = some r :=
 Z1i (fun _ _ ha hb => ru_ Z2q ha hb) (Zmy x0 r h)
def Z9y (x0 : Z8) : Option Bool :=
 if (decide (0 ≤ x0.Lo)) = true then
 (if (decide (x0.Lo ≤ x0.Hi)) = true then
 (some (decide (x0.Hi ≤ 1114367)))
 else
 (some false))
 else
 (some false)
theorem ZiV x0 : Sim ZQ (Z9y x0) (EE 22 [(pA_ (ZN x0))] []) := by
 unfold Z9y
 refine zf (ZFk ..)<|ze<|zx (.ptr 0 0) [(Z1K x0)]<|ze<|zq<|zq<|zq ?_
 refine za (decide (0 ≤ x0.Lo)) ?_ ?_
 ·refine zq<|zq<|zq<|zq<|zq ?_
  refine za (decide (x0.Lo ≤ x0.Hi)) ?_ ?_
  ·refine zq<|zq<|zq ?_
   exact zr ((bv (decide (x0.Hi ≤ 1114367))), [(Z1K x0)]) ⟨_, rfl⟩
  ·exact zr ((bv false), [(Z1K x0)]) ⟨_, rfl⟩
 ·exact zr ((bv false), [(Z1K x0)]) ⟨_, rfl⟩
theorem Zjw x0 {r} (h : Z9y x0 = some r) : Z7U x0 = some r :=
 Z1i (fun _ _ ha hb => ru_ Z2q ha hb) (ZiV x0 r h)
def Z9Z (x0 : List Z8) : Option ((List Z8) × Int) :=
 (ZbP x0).bind fun r1 =>
 some (r1, 0)
theorem Zjy (x0 : List Z8) ox0 : Sim Z2R (Z9Z x0) (Ztm 0 (ZP ox0 (x0.map Zv)) []) := by
 unfold Z9Z
 refine zf (ZzC ..)<|ze<|zi fun r1 hr1 => ?_
 obtain ⟨_, er1, _, rfl⟩ := ZmD x0 .sh r1 hr1
 refine zc [] (ZP .sh (r1.map Zv)) [] er1 ?_
 exact zr ((.p (.tup [(.lst .sh (r1.map Zv)), (.v (.int .i64 0))])), []) ⟨_, rfl⟩
def ZbH (x0 : List Z8) : Option ((List Z8) × Int) :=
 (Z4c x0).bind fun r1 =>
 if (!r1) = true then
 (some (([] : List Z8), 10))
 else
 (Z9Z x0)
theorem ZlU (x0 : List Z8) ox0 : Sim Z2R (ZbH x0) (EE 17 [(ZP ox0 (x0.map Zv))] []) := by
 unfold ZbH
 refine zf (ZF9 ..)<|ze<|ze<|zi fun r1 hr1 => ?_
 obtain ⟨_, er1, _, rfl⟩ := Z6Q x0 .sh r1 hr1
 refine zc [] (bv r1) [] er1<|zq ?_
 refine za (!r1) ?_ ?_
 ·refine ze ?_
  exact zr ((.p (.tup [(.lst .sh []), (.v (.int .i64 10))])), []) ⟨_, rfl⟩
 ·exact zk (Zjy x0 ox0)
theorem ZmA x0 {r} (h : ZbH x0 = some r) : Z8C x0 = some r :=
 Z1i (fun _ _ ha hb => ru_ ZaG (ha .ex) (hb .ex)) (fun ox0 => ZlU x0 ox0 r h)
def Z8i (x0 : List Z8) : Option Bool :=
 Z5A (-2) x0 (x0.length : Int) 0
theorem Zjx (x0 : List Z8) ox0 : Sim ZQ (Z8i x0) (EE 12 [(ZP ox0 (x0.map Zv))] []) := by
 unfold Z8i
 refine zf (ZEW ..)<|ze<|ze<|ze<|zp (iv (x0.length : Int)) (et_ (Z30 (P := PP) (t := 28) (d := 47) (by kernel_rfl) Zv (shrO ox0) x0)) ?_
 exact zk (Zc7 (-2) x0 (x0.length : Int) 0 (shrO ox0))
theorem Zej x0 {r} (h : Z8i x0 = some r) : Z4c x0 = some r :=
 Z1i (fun _ _ ha hb => ru_ Z2q (ha .ex) (hb .ex)) (fun ox0 => Zjx x0 ox0 r h)
def Z6G : Option Bool :=
 some false
theorem ZbO : Sim ZQ Z6G (Zpi 0 []) := by
 unfold Z6G
 refine zf (Zzf ..)<|ze ?_
 exact zr ((bv false), []) ⟨_, rfl⟩
def Z6I (x3 : Int) (x6 : List Z8) (x7 x8 : Int) : Option Bool :=
 Z5A x3 x6 x7 (IntKind.i64.wrap (x8 + 1))
theorem ZhC x3 (x6 : List Z8) x7 x8 ox6 : Sim ZQ (Z6I x3 x6 x7 x8) (Zt2 0 (iv x3) (ZP ox6 (x6.map Zv)) (iv x7) (iv x8) []) := by
 unfold Z6I
 refine zf (Zzh ..)<|ze<|zq ?_
 exact zk (Zc7 x3 x6 x7 (IntKind.i64.wrap (x8 + 1)) ox6)
def Z6H (x6 : List Z8) (x7 x8 : Int) (b0 : Z8) : Option Bool :=
 Z6I b0.Hi x6 x7 x8
theorem ZhB (x6 : List Z8) x7 x8 b0 ox6 : Sim ZQ (Z6H x6 x7 x8 b0) (Zt1 0 (.ptr 0 0) (ZP ox6 (x6.map Zv)) (iv x7) (iv x8) [(Z1K b0)]) := by
 unfold Z6H
 refine zf (Zzg ..)<|ze<|zq<|zq ?_
 exact zk (ZhC b0.Hi x6 x7 x8 ox6)
def Z6F (x3 : Int) (x6 : List Z8) (x7 x8 : Int) : Option Bool :=
 (lget x6 x8).bind fun a1 =>
 (Z7U a1).bind fun r2 =>
 if (!r2) = true then
 Z6G
 else
 (if (decide (a1.Lo < (IntKind.i64.wrap (x3 + 2)))) = true then
 Z6G
 else
 (Z6H x6 x7 x8 a1))
theorem ZhA x3 (x6 : List Z8) x7 x8 ox6 : Sim ZQ (Z6F x3 x6 x7 x8) (Zt0 0 (iv x3) (ZP ox6 (x6.map Zv)) (iv x7) (iv x8) []) := by
 unfold Z6F
 refine zf (Zze ..)<|ze<|zi fun a1 ha1 => zp (.cptr (ZN a1)) (et_ (Z2v (o := ox6) (k := .i64) (n := 2) (e := Zv) (cs := Z4y) (fun _ => rfl) (fun _ => rfl) (by decide) ha1))<|zq<|zz (.ptr 0 0) [(Z1K ZvW)]<|zt [(Z1K a1)]<|ze<|zq<|zi fun r2 hr2 => ?_
 obtain ⟨_, er2, _, rfl⟩ := Zdv a1 r2 hr2
 refine zc [] (bv r2) [(Z1K a1)] er2<|zq ?_
 refine za (!r2) ?_ ?_
 ·exact zk ZbO
 ·refine zq<|zq<|zq<|zq ?_
  refine za (decide (a1.Lo < (IntKind.i64.wrap (x3 + 2)))) ?_ ?_
  ·exact zk ZbO
  ·exact zk (ZhB x6 x7 x8 a1 ox6)
def ZaI : Option Bool :=
 some true
theorem ZhD : Sim ZQ ZaI (Zt3 0 []) := by
 unfold ZaI
 refine zf (Zzi ..)<|ze ?_
 exact zr ((bv true), []) ⟨_, rfl⟩
def Z4q (x3 : Int) (x6 : List Z8) (x7 x8 : Int) : Option Bool :=
 if (decide (x8 < x7)) = true then
 (Z6F x3 x6 x7 x8)
 else
 ZaI
theorem Zhz x3 (x6 : List Z8) x7 x8 ox6 : Sim ZQ (Z4q x3 x6 x7 x8) (Zmb 0 (iv x3) (ZP ox6 (x6.map Zv)) (iv x7) (iv x8) []) := by
 unfold Z4q
 refine zf (Zzd ..)<|ze<|zq ?_
 refine za (decide (x8 < x7)) ?_ ?_
 ·exact zk (ZhA x3 x6 x7 x8 ox6)
 ·exact zk ZhD
theorem Z7t x3 x6 x7 x8 {r} (h : Z4q x3 x6 x7 x8 = some r) : Z5A x3 x6 x7 x8 = some r :=
 Z1i (fun _ _ ha hb => ru_ Z2q (ha .ex) (hb .ex)) (fun ox6 => Zhz x3 x6 x7 x8 ox6 r h)
def ZbI (x0 : List Z8) : Option (List Z8) :=
 Z8o ([] : List Z8) 0 x0 (x0.length : Int) 0
theorem ZlV (x0 : List Z8) ox0 : Sim Z3M (ZbI x0) (EE 26 [(ZP ox0 (x0.map Zv))] []) := by
 unfold ZbI
 refine zf (ZFm ..)<|ze<|ze<|ze<|ze<|zp (iv (x0.length : Int)) (et_ (Z30 (P := PP) (t := 28) (d := 47) (by kernel_rfl) Zv (shrO ox0) x0)) ?_
 exact zk (Zem ([] : List Z8) 0 x0 (x0.length : Int) 0 .nl (shrO ox0) rfl)
theorem ZmC x0 {r} (h : ZbI x0 = some r) : ZbP x0 = some r :=
 Z1i (fun _ _ ha hb => ru_ Zb9 (ha .ex) (hb .ex)) (fun ox0 => ZlV x0 ox0 r h)
def Za1 (x3 : List Z8) (x4 : Int) (x7 : List Z8) (x8 x9 : Int) : Option (List Z8) :=
 Z8o x3 x4 x7 x8 (IntKind.i64.wrap (x9 + 1))
theorem ZjB (x3 : List Z8) x4 (x7 : List Z8) x8 x9 ox3 ox7 (hox3 : ZM ox3 = true) : Sim Z3M (Za1 x3 x4 x7 x8 x9) (Zty 0 (ZP ox3 (x3.map Zv)) (iv x4) (ZP ox7 (x7.map Zv)) (iv x8) (iv x9) []) := by
 unfold Za1
 refine zf (ZzN ..)<|ze<|zq ?_
 exact zk (Zem x3 x4 x7 x8 (IntKind.i64.wrap (x9 + 1)) ox3 ox7 hox3)
def Z6J (x3 x7 : List Z8) (x8 x9 : Int) (b0 : Z8) : Option (List Z8) :=
 Za1 x3 (IntKind.i64.wrap (b0.Hi + 1)) x7 x8 x9
theorem Zdy (x3 x7 : List Z8) x8 x9 b0 ox3 ox7 (hox3 : ZM ox3 = true) : Sim Z3M (Z6J x3 x7 x8 x9 b0) (Zpx 0 (ZP ox3 (x3.map Zv)) (.ptr 0 0) (ZP ox7 (x7.map Zv)) (iv x8) (iv x9) [(Z1K b0)]) := by
 unfold Z6J
 refine zf (ZzM ..)<|ze<|zq<|zq<|zq ?_
 exact zk (ZjB x3 (IntKind.i64.wrap (b0.Hi + 1)) x7 x8 x9 ox3 ox7 hox3)
def Za0 (x3 : List Z8) (x4 : Int) (x7 : List Z8) (x8 x9 : Int) : Option (List Z8) :=
 (lget x7 x9).bind fun a1 =>
 if (decide (x4 < a1.Lo)) = true then
 ((lapp x3 ([(Z8.mk x4 (IntKind.i64.wrap (a1.Lo - 1)))] : List Z8)).bind fun a2 =>
 Z6J a2 x7 x8 x9 a1)
 else
 (Z6J x3 x7 x8 x9 a1)
theorem ZjA (x3 : List Z8) x4 (x7 : List Z8) x8 x9 ox3 ox7 (hox3 : ZM ox3 = true) : Sim Z3M (Za0 x3 x4 x7 x8 x9) (Ztx 0 (ZP ox3 (x3.map Zv)) (iv x4) (ZP ox7 (x7.map Zv)) (iv x8) (iv x9) []) := by
 unfold Za0
 refine zf (ZzL ..)<|ze<|zi fun a1 ha1 => zp (.cptr (ZN a1)) (et_ (Z2v (o := ox7) (k := .i64) (n := 2) (e := Zv) (cs := Z4y) (fun _ => rfl) (fun _ => rfl) (by decide) ha1))<|zq<|zz (.ptr 0 0) [(Z1K ZvW)]<|zt [(Z1K a1)]<|ze<|zq<|zq<|zq ?_
 refine za (decide (x4 < a1.Lo)) ?_ ?_
 ·refine ze<|zq<|zq<|zq<|zq<|zq<|zi fun a2 ha2 => zp (ZP .un (a2.map Zv)) (Eq.trans (by kernel_rfl) <| Zez (n := 2) (o := ox3) (o' := .ex) (e := Zv) (ys := ([(Z8.mk x4 (IntKind.i64.wrap (a1.Lo - 1)))] : List Z8)) (fun _ => rfl) (by decide) hox3 ha2) ?_
  exact zk (Zdy a2 x7 x8 x9 a1 .un ox7 rfl)
 ·exact zk (Zdy x3 x7 x8 x9 a1 ox3 ox7 hox3)
def Z6s (x3 : List Z8) : Option (List Z8) :=
 some x3
theorem Zd8 (x3 : List Z8) ox3 (hox3 : ZM ox3 = true) : Sim Z3M (Z6s x3) (Znv 0 (ZP ox3 (x3.map Zv)) []) := by
 unfold Z6s
 refine zf (Zxm ..)<|ze ?_
 exact zr ((ZP .sh (x3.map Zv)), []) ⟨_, rfl⟩
def Z9C (x3 : List Z8) (x4 : Int) : Option (List Z8) :=
 if (decide (x4 ≤ 1114367)) = true then
 ((lapp x3 ([(Z8.mk x4 1114367)] : List Z8)).bind fun a1 =>
 Z6s a1)
 else
 (Z6s x3)
theorem Zj0 (x3 : List Z8) x4 ox3 (hox3 : ZM ox3 = true) : Sim Z3M (Z9C x3 x4) (Zrj 0 (ZP ox3 (x3.map Zv)) (iv x4) []) := by
 unfold Z9C
 refine zf (Zxl ..)<|ze<|zq ?_
 refine za (decide (x4 ≤ 1114367)) ?_ ?_
 ·refine ze<|zq<|zq<|zi fun a1 ha1 => zp (ZP .un (a1.map Zv)) (Eq.trans (by kernel_rfl) <| Zez (n := 2) (o := ox3) (o' := .ex) (e := Zv) (ys := ([(Z8.mk x4 1114367)] : List Z8)) (fun _ => rfl) (by decide) hox3 ha1) ?_
  exact zk (Zd8 a1 .un rfl)
 ·exact zk (Zd8 x3 ox3 hox3)
def Z8j (x3 : List Z8) (x4 : Int) (x7 : List Z8) (x8 x9 : Int) : Option (List Z8) :=
 if (decide (x9 < x8)) = true then
 (Za0 x3 x4 x7 x8 x9)
 else
 (Z9C x3 x4)
theorem Zjz (x3 : List Z8) x4 (x7 : List Z8) x8 x9 ox3 ox7 (hox3 : ZM ox3 = true) : Sim Z3M (Z8j x3 x4 x7 x8 x9) (Zmh 0 (ZP ox3 (x3.map Zv)) (iv x4) (ZP ox7 (x7.map Zv)) (iv x8) (iv x9) []) := by
 unfold Z8j
 refine zf (ZzK ..)<|ze<|zq ?_
 refine za (decide (x9 < x8)) ?_ ?_
 ·exact zk (ZjA x3 x4 x7 x8 x9 ox3 ox7 hox3)
 ·exact zk (Zj0 x3 x4 ox3 hox3)
theorem Zel x3 x4 x7 x8 x9 {r} (h : Z8j x3 x4 x7 x8 x9 = some r) : Z8o x3 x4 x7 x8 x9 = some r :=
 Z1i (fun _ _ ha hb => ru_ Zb9 (ha .ex .ex rfl) (hb .ex .ex rfl)) (fun ox3 ox7 hox3 => Zjz x3 x4 x7 x8 x9 ox3 ox7 hox3 r h)
def Z5l (x1 x5 zn : Int) (zj : List Zz) (z2 z6 : Int) : Option (Zk × Int × (List Zz) × Int × Int) :=
 (lapp zj ([(Zz.mk (IntKind.i64.wrap (x5 - 48)) x1)] : List Zz)).bind fun a1 =>
 some ((Zk.mk 6 0 0 0 (IntKind.i64.wrap (x5 - 48)) ([] : List Z8) ([] : List Zk)), zn, a1, z2, z6)
theorem Zfp x1 x5 zm zn z7 zh zj z2 z6 b1 zu zd zH zE (zy : ZM zd = true) (z16 : ZM zH = true) (zY : ZM zE = true) : Sim (Z4o zm z7 zh zu) (Z5l x1 x5 zn zj z2 z6) (Zrt 1 (.ptr 0 0) (iv x1) (.ptr 1 0) (iv x5) [(ZL zm zn z7 zh zj z2 z6 zu zd), (Zl b1 zH zE)]) := by
 unfold Z5l
 refine zf (ZxR ..)<|ze<|zq<|zq<|zw (ZP zd (zj.map Z2U)) [(ZL zm zn z7 zh zj z2 z6 zu (shrO zd)), (Zl b1 zH zE)]<|zq<|zq<|zq<|zi fun a1 ha1 => zp (ZP .un (a1.map Z2U)) (Eq.trans (by kernel_rfl) <| Zez (n := 2) (o := zd) (o' := .ex) (e := Z2U) (ys := ([(Zz.mk (IntKind.i64.wrap (x5 - 48)) x1)] : List Zz)) (fun _ => rfl) (by decide) zy ha1)<|zq<|zq<|zt [(ZL zm zn z7 zh a1 z2 z6 zu .un), (Zl b1 zH zE)]<|ze<|zq<|zq<|zt [(ZL zm zn z7 zh a1 z2 z6 zu .un), (Z2P 6 0 0 0 (IntKind.i64.wrap (x5 - 48)) ([] : List Z8) ([] : List Zk) .nl .nl)] ?_
 exact zr ((pA_ (ZI (Zk.mk 6 0 0 0 (IntKind.i64.wrap (x5 - 48)) ([] : List Z8) ([] : List Zk)) .sh .sh)), [(ZL zm zn z7 zh a1 z2 z6 zu .un), (Z2P 6 0 0 0 (IntKind.i64.wrap (x5 - 48)) ([] : List Z8) ([] : List Zk) .nl .nl)]) ⟨.un, _, rfl, rfl⟩
def Z3m (x1 x5 : Int) (zm : List Int) (zn z7 zh : Int) (zj : List Zz) (z2 z6 : Int) : Option (Zk × Int × (List Zz) × Int × Int) :=
 (Z7u x5 x1 zm zn z7 zh zj z2 z6).bind fun r1 =>
 (Z2w r1.1).bind fun r2 =>
 (Z3Y false ([r2] : List Z8)).bind fun r3 =>
 some (r3, r1.2.1, zj, r1.2.2.1, r1.2.2.2)
theorem Zaq x1 x5 zm zn z7 zh zj z2 z6 b1 zu zd zH zE (zy : ZM zd = true) (z16 : ZM zH = true) (zY : ZM zE = true) : Sim (Z4o zm z7 zh zu) (Z3m x1 x5 zm zn z7 zh zj z2 z6) (ZnB 1 (.ptr 0 0) (iv x1) (.ptr 1 0) (iv x5) [(ZL zm zn z7 zh zj z2 z6 zu zd), (Zl b1 zH zE)]) := by
 unfold Z3m
 refine zf (ZxS ..)<|ze<|zi fun r1 hr1 => ?_
 obtain ⟨_, er1, _, rfl⟩ := Zda x5 x1 zm zn z7 zh zj z2 z6 zu zd zy r1 hr1
 refine zc [0] (iv r1.1) [(ZL zm r1.2.1 z7 zh zj r1.2.2.1 r1.2.2.2 zu zd), (Zl b1 zH zE)] er1<|zi fun r2 hr2 => ?_
 obtain ⟨_, er2, _, rfl⟩ := Z2m r1.1 r2 hr2
 refine zc [] (pA_ (ZN r2)) [(ZL zm r1.2.1 z7 zh zj r1.2.2.1 r1.2.2.2 zu zd), (Zl b1 zH zE)] er2<|zq<|zi fun r3 hr3 => ?_
 obtain ⟨_, er3, _, rfl⟩ := Z47 false ([r2] : List Z8) .sh r3 hr3
 refine zc [] (pA_ (ZI r3 .sh .sh)) [(ZL zm r1.2.1 z7 zh zj r1.2.2.1 r1.2.2.2 zu zd), (Zl b1 zH zE)] er3<|zt [(ZL zm r1.2.1 z7 zh zj r1.2.2.1 r1.2.2.2 zu zd), (Zl r3 .sh .sh)] ?_
 exact zr ((pA_ (ZI r3 .sh .sh)), [(ZL zm r1.2.1 z7 zh zj r1.2.2.1 r1.2.2.2 zu zd), (Zl r3 .sh .sh)]) ⟨zd, _, zy, rfl⟩
def Z3w (x1 x5 : Int) (zm : List Int) (zn z7 zh : Int) (zj : List Zz) (z2 z6 : Int) : Option (Zk × Int × (List Zz) × Int × Int) :=
 (Z3k zm zn).bind fun r1 =>
 (Z7G x5).bind fun r2 =>
 (nilO r2.1 r2.2).bind fun a3 =>
 if (!a3) = true then
 ((Z7G x5).bind fun r4 =>
 (Z3Y (decide (x5 < 97)) r4.2).bind fun r5 =>
 some (r5, r1.2, zj, z2, z6))
 else
 (if (x5 == 98) = true then
 (some ((Zk.mk 9 0 0 0 2 ([] : List Z8) ([] : List Zk)), r1.2, zj, z2, z6))
 else
 (if (x5 == 66) = true then
 (some ((Zk.mk 9 0 0 0 3 ([] : List Z8) ([] : List Zk)), r1.2, zj, z2, z6))
 else
 (if (decide (49 ≤ x5)) = true then
 (if (decide (x5 ≤ 57)) = true then
 (Z5l x1 x5 r1.2 zj z2 z6)
 else
 (Z3m x1 x5 zm r1.2 z7 zh zj z2 z6))
 else
 (Z3m x1 x5 zm r1.2 z7 zh zj z2 z6))))
theorem ZfI x1 x5 zm zn z7 zh zj z2 z6 b1 zu zd zH zE (zy : ZM zd = true) (z16 : ZM zH = true) (zY : ZM zE = true) : Sim (Z4o zm z7 zh zu) (Z3w x1 x5 zm zn z7 zh zj z2 z6) (Zun 1 (.ptr 0 0) (iv x1) (.ptr 1 0) (iv x5) [(ZL zm zn z7 zh zj z2 z6 zu zd), (Zl b1 zH zE)]) := by
 unfold Z3w
 refine zf (ZAC ..)<|ze<|zi fun r1 hr1 => ?_
 obtain ⟨_, er1, _, rfl⟩ := Z3J zm zn z7 zh zj z2 z6 zu zd zy r1 hr1
 refine zc [0] (iv r1.1) [(ZL zm r1.2 z7 zh zj z2 z6 zu zd), (Zl b1 zH zE)] er1<|ze<|zi fun r2 hr2 => ?_
 obtain ⟨_, er2, _, rfl⟩ := Zbk x5 r2 hr2
 refine zc [] (ZP r2.1 (r2.2.map Zv)) [(ZL zm r1.2 z7 zh zj z2 z6 zu zd), (Zl b1 zH zE)] er2<|zi fun a3 ha3 => zp (bv (!a3)) (et_ (ZlM (P := PP) (t := 27) (c := .slice none 0 0) (e := Zv) (by kernel_rfl) ha3)) ?_
 refine za (!a3) ?_ ?_
 ·refine ze<|zq<|zi fun r4 hr4 => ?_
  obtain ⟨_, er4, _, rfl⟩ := Zbk x5 r4 hr4
  refine zc [] (ZP r4.1 (r4.2.map Zv)) [(ZL zm r1.2 z7 zh zj z2 z6 zu zd), (Zl b1 zH zE)] er4<|zi fun r5 hr5 => ?_
  obtain ⟨_, er5, _, rfl⟩ := Z47 (decide (x5 < 97)) r4.2 .sh r5 hr5
  refine zc [] (pA_ (ZI r5 .sh .sh)) [(ZL zm r1.2 z7 zh zj z2 z6 zu zd), (Zl b1 zH zE)] er5<|zt [(ZL zm r1.2 z7 zh zj z2 z6 zu zd), (Zl r5 .sh .sh)] ?_
  exact zr ((pA_ (ZI r5 .sh .sh)), [(ZL zm r1.2 z7 zh zj z2 z6 zu zd), (Zl r5 .sh .sh)]) ⟨zd, _, zy, rfl⟩
 ·refine ze<|zq ?_
  refine za (x5 == 98) ?_ ?_
  ·refine ze<|zq<|zt [(ZL zm r1.2 z7 zh zj z2 z6 zu zd), (Z2P 9 0 0 0 2 ([] : List Z8) ([] : List Zk) .nl .nl)] ?_
   exact zr ((pA_ (ZI (Zk.mk 9 0 0 0 2 ([] : List Z8) ([] : List Zk)) .sh .sh)), [(ZL zm r1.2 z7 zh zj z2 z6 zu zd), (Z2P 9 0 0 0 2 ([] : List Z8) ([] : List Zk) .nl .nl)]) ⟨zd, _, zy, rfl⟩
  ·refine ze<|zq ?_
   refine za (x5 == 66) ?_ ?_
   ·refine ze<|zq<|zt [(ZL zm r1.2 z7 zh zj z2 z6 zu zd), (Z2P 9 0 0 0 3 ([] : List Z8) ([] : List Zk) .nl .nl)] ?_
    exact zr ((pA_ (ZI (Zk.mk 9 0 0 0 3 ([] : List Z8) ([] : List Zk)) .sh .sh)), [(ZL zm r1.2 z7 zh zj z2 z6 zu zd), (Z2P 9 0 0 0 3 ([] : List Z8) ([] : List Zk) .nl .nl)]) ⟨zd, _, zy, rfl⟩
   ·refine ze<|zq ?_
    refine za (decide (49 ≤ x5)) ?_ ?_
    ·refine zq ?_
     refine za (decide (x5 ≤ 57)) ?_ ?_
     ·exact zk (Zfp x1 x5 zm r1.2 z7 zh zj z2 z6 b1 zu zd zH zE zy z16 zY)
     ·exact zk (Zaq x1 x5 zm r1.2 z7 zh zj z2 z6 b1 zu zd zH zE zy z16 zY)
    ·exact zk (Zaq x1 x5 zm r1.2 z7 zh zj z2 z6 b1 zu zd zH zE zy z16 zY)
def Z5x (x1 : Int) (zm : List Int) (zn z7 zh : Int) (zj : List Zz) (z2 z6 : Int) : Option (Zk × Int × (List Zz) × Int × Int) :=
 (Z2G (Z1y.mk zm zn z7 zh zj (Z14.mk z2 z6))).bind fun r1 =>
 if (decide (r1 < 0)) = true then
 ((Z1c 21 x1 zm z2 z6).bind fun r2 =>
 some ((Zk.mk 0 0 0 0 0 ([] : List Z8) ([] : List Zk)), r2.1, zj, r2.2.1, r2.2.2))
 else
 (Z3w x1 r1 zm zn z7 zh zj z2 z6)
theorem ZhO x1 zm zn z7 zh zj z2 z6 zu zd (zy : ZM zd = true) : Sim (Z4o zm z7 zh zu) (Z5x x1 zm zn z7 zh zj z2 z6) (EE 66 [(.ptr 0 0), (iv x1)] [(ZL zm zn z7 zh zj z2 z6 zu zd)]) := by
 unfold Z5x
 refine zf (ZGj ..)<|ze<|zz (.ptr 1 0) [(ZL zm zn z7 zh zj z2 z6 zu zd), (Zl Z1B .nl .nl)]<|ze<|zi fun r1 hr1 => ?_
 obtain ⟨_, er1, _, rfl⟩ := Z2S (Z1y.mk zm zn z7 zh zj (Z14.mk z2 z6)) zu zd zy r1 hr1
 refine zc [0] (iv r1) [(ZL zm zn z7 zh zj z2 z6 zu zd), (Zl Z1B .nl .nl)] er1<|ze<|zq ?_
 refine za (decide (r1 < 0)) ?_ ?_
 ·refine ze<|zi fun r2 hr2 => ?_
  obtain ⟨_, er2, _, rfl⟩ := Z1h 21 x1 zm zn z7 zh zj z2 z6 zu zd zy r2 hr2
  refine zc [0] (.p (.tup [])) [(ZL zm r2.1 z7 zh zj r2.2.1 r2.2.2 zu zd), (Zl Z1B .nl .nl)] er2<|ze<|zq<|zt [(ZL zm r2.1 z7 zh zj r2.2.1 r2.2.2 zu zd), (Zl Z1B .nl .nl)] ?_
  exact zr ((pA_ (ZI Z1B .sh .sh)), [(ZL zm r2.1 z7 zh zj r2.2.1 r2.2.2 zu zd), (Zl Z1B .nl .nl)]) ⟨zd, _, zy, rfl⟩
 ·exact zk (ZfI x1 r1 zm zn z7 zh zj z2 z6 Z1B zu zd .nl .nl zy rfl rfl)
theorem Ziu x1 zm zn z7 zh zj z2 z6 {r} (h : Z5x x1 zm zn z7 zh zj z2 z6 = some r) : Z4z x1 zm zn z7 zh zj z2 z6 = some r :=
 Z1i (fun _ _ ha hb => ru_ (ZiS _ _ _ _) (ha .ex .ex rfl) (hb .ex .ex rfl)) (fun zu zd zy => ZhO x1 zm zn z7 zh zj z2 z6 zu zd zy r h)
def Z59 (zm : List Int) (z2 z6 : Int) : Option (Int × Int × Int) :=
 some ((zm.length : Int), z2, z6)
theorem Zbv zm zn z7 zh zj z2 z6 zu zd (zy : ZM zd = true) : Sim (Z7P zm z7 zh zj zu zd) (Z59 zm z2 z6) (Zpu 1 (.ptr 0 0) [(ZL zm zn z7 zh zj z2 z6 zu zd)]) := by
 unfold Z59
 refine zf (ZzJ ..)<|ze<|zq<|zq<|zq<|zp (iv (zm.length : Int)) (et_ (Z30 (P := PP) (t := 54) (d := 5) (by kernel_rfl) (eI .u8) (shrO zu) zm))<|zq<|zq<|zt [(ZL zm (zm.length : Int) z7 zh zj z2 z6 zu zd)] ?_
 exact zr ((.p (.tup [])), [(ZL zm (zm.length : Int) z7 zh zj z2 z6 zu zd)]) ⟨_, rfl⟩
def Z7T (x1 x2 : Int) (zm : List Int) (z2 z6 : Int) : Option (Int × Int × Int) :=
 if (z2 == 0) = true then
 (Z59 zm x1 x2)
 else
 (Z59 zm z2 z6)
theorem Zj5 x1 x2 zm zn z7 zh zj z2 z6 zu zd (zy : ZM zd = true) : Sim (Z7P zm z7 zh zj zu zd) (Z7T x1 x2 zm z2 z6) (EE 21 [(.ptr 0 0), (iv x1), (iv x2)] [(ZL zm zn z7 zh zj z2 z6 zu zd)]) := by
 unfold Z7T
 refine zf (ZFi ..)<|ze<|zq<|zq<|zq<|zq<|zq ?_
 refine za (z2 == 0) ?_ ?_
 ·refine ze<|zq<|zq<|zq<|zt [(ZL zm zn z7 zh zj x1 x2 zu zd)] ?_
  exact zk (Zbv zm zn z7 zh zj x1 x2 zu zd zy)
 ·exact zk (Zbv zm zn z7 zh zj z2 z6 zu zd zy)
theorem ZdA x1 x2 zm z2 z6 {r} (h : Z7T x1 x2 zm z2 z6 = some r) : Z1c x1 x2 zm z2 z6 = some r :=
 Z1i (fun _ _ ha hb => ru_ (ZjQ _ _ _ _ _ _) (ha default default default default .ex .ex rfl) (hb default default default default .ex .ex rfl)) (fun zn z7 zh zj zu zd zy => Zj5 x1 x2 zm zn z7 zh zj z2 z6 zu zd zy r h)
def Z2Y : Option (Own × (List Z8)) :=
 some (.nl, ([] : List Z8))
theorem Z3o : Sim Z7C Z2Y (ZbA 0 []) := by
 unfold Z2Y
 refine zf (Zy8 ..)<|ze ?_
 exact zr ((ZP .nl []), []) ⟨_, rfl⟩
def Z3X (x0 : Int) : Option (Own × (List Z8)) :=
 if (x0 == 100) = true then
 (if (x0 == 100) = true then
 (some (.ex, ([(Z8.mk 48 57)] : List Z8)))
 else
 (if (x0 == 119) = true then
 (if (x0 == 119) = true then
 ((Z2w 95).bind fun r1 =>
 some (.ex, ([(Z8.mk 48 57), (Z8.mk 65 90), r1, (Z8.mk 97 122)] : List Z8)))
 else
 (if (x0 == 115) = true then
 (if (x0 == 115) = true then
 ((Z2w 32).bind fun r2 =>
 some (.ex, ([(Z8.mk 9 13), r2] : List Z8)))
 else
 Z2Y)
 else
 (if (x0 == 83) = true then
 ((Z2w 32).bind fun r3 =>
 some (.ex, ([(Z8.mk 9 13), r3] : List Z8)))
 else
 Z2Y)))
 else
 (if (x0 == 87) = true then
 ((Z2w 95).bind fun r4 =>
 some (.ex, ([(Z8.mk 48 57), (Z8.mk 65 90), r4, (Z8.mk 97 122)] : List Z8)))
 else
 (if (x0 == 115) = true then
 (if (x0 == 115) = true then
 ((Z2w 32).bind fun r5 =>
 some (.ex, ([(Z8.mk 9 13), r5] : List Z8)))
 else
 Z2Y)
 else
 (if (x0 == 83) = true then
 ((Z2w 32).bind fun r6 =>
 some (.ex, ([(Z8.mk 9 13), r6] : List Z8)))
 else
 Z2Y)))))
 else
 (if (x0 == 68) = true then
 (some (.ex, ([(Z8.mk 48 57)] : List Z8)))
 else
 (if (x0 == 119) = true then
 (if (x0 == 119) = true then
 ((Z2w 95).bind fun r7 =>
 some (.ex, ([(Z8.mk 48 57), (Z8.mk 65 90), r7, (Z8.mk 97 122)] : List Z8)))
 else
 (if (x0 == 115) = true then
 (if (x0 == 115) = true then
 ((Z2w 32).bind fun r8 =>
 some (.ex, ([(Z8.mk 9 13), r8] : List Z8)))
 else
 Z2Y)
 else
 (if (x0 == 83) = true then
 ((Z2w 32).bind fun r9 =>
 some (.ex, ([(Z8.mk 9 13), r9] : List Z8)))
 else
 Z2Y)))
 else
 (if (x0 == 87) = true then
 ((Z2w 95).bind fun r10 =>
 some (.ex, ([(Z8.mk 48 57), (Z8.mk 65 90), r10, (Z8.mk 97 122)] : List Z8)))
 else
 (if (x0 == 115) = true then
 (if (x0 == 115) = true then
 ((Z2w 32).bind fun r11 =>
 some (.ex, ([(Z8.mk 9 13), r11] : List Z8)))
 else
 Z2Y)
 else
 (if (x0 == 83) = true then
 ((Z2w 32).bind fun r12 =>
 some (.ex, ([(Z8.mk 9 13), r12] : List Z8)))
 else
 Z2Y)))))
theorem Zkm x0 : Sim Z7C (Z3X x0) (EE 78 [(iv x0)] []) := by
 unfold Z3X
 refine zf (ZGC ..)<|ze<|ze<|ze<|zq ?_
 refine za (x0 == 100) ?_ ?_
 ·refine za (x0 == 100) ?_ ?_
  ·refine ze<|zq<|zq ?_
   exact zr ((ZP .ex (([(Z8.mk 48 57)] : List Z8).map Zv)), []) ⟨_, rfl⟩
  ·refine ze<|zq ?_
   refine za (x0 == 119) ?_ ?_
   ·refine za (x0 == 119) ?_ ?_
    ·refine ze<|zq<|zq<|zi fun r1 hr1 => ?_
     obtain ⟨_, er1, _, rfl⟩ := Z2m 95 r1 hr1
     refine zc [] (pA_ (ZN r1)) [] er1<|zq<|zq ?_
     exact zr ((ZP .ex (([(Z8.mk 48 57), (Z8.mk 65 90), r1, (Z8.mk 97 122)] : List Z8).map Zv)), []) ⟨_, rfl⟩
    ·refine ze<|zq ?_
     refine za (x0 == 115) ?_ ?_
     ·refine za (x0 == 115) ?_ ?_
      ·refine ze<|zq<|zi fun r2 hr2 => ?_
       obtain ⟨_, er2, _, rfl⟩ := Z2m 32 r2 hr2
       refine zc [] (pA_ (ZN r2)) [] er2<|zq ?_
       exact zr ((ZP .ex (([(Z8.mk 9 13), r2] : List Z8).map Zv)), []) ⟨_, rfl⟩
      ·exact zk Z3o
     ·refine ze<|zq ?_
      refine za (x0 == 83) ?_ ?_
      ·refine ze<|zq<|zi fun r3 hr3 => ?_
       obtain ⟨_, er3, _, rfl⟩ := Z2m 32 r3 hr3
       refine zc [] (pA_ (ZN r3)) [] er3<|zq ?_
       exact zr ((ZP .ex (([(Z8.mk 9 13), r3] : List Z8).map Zv)), []) ⟨_, rfl⟩
      ·exact zk Z3o
   ·refine ze<|zq ?_
    refine za (x0 == 87) ?_ ?_
    ·refine ze<|zq<|zq<|zi fun r4 hr4 => ?_
     obtain ⟨_, er4, _, rfl⟩ := Z2m 95 r4 hr4
     refine zc [] (pA_ (ZN r4)) [] er4<|zq<|zq ?_
     exact zr ((ZP .ex (([(Z8.mk 48 57), (Z8.mk 65 90), r4, (Z8.mk 97 122)] : List Z8).map Zv)), []) ⟨_, rfl⟩
    ·refine ze<|zq ?_
     refine za (x0 == 115) ?_ ?_
     ·refine za (x0 == 115) ?_ ?_
      ·refine ze<|zq<|zi fun r5 hr5 => ?_
       obtain ⟨_, er5, _, rfl⟩ := Z2m 32 r5 hr5
       refine zc [] (pA_ (ZN r5)) [] er5<|zq ?_
       exact zr ((ZP .ex (([(Z8.mk 9 13), r5] : List Z8).map Zv)), []) ⟨_, rfl⟩
      ·exact zk Z3o
     ·refine ze<|zq ?_
      refine za (x0 == 83) ?_ ?_
      ·refine ze<|zq<|zi fun r6 hr6 => ?_
       obtain ⟨_, er6, _, rfl⟩ := Z2m 32 r6 hr6
       refine zc [] (pA_ (ZN r6)) [] er6<|zq ?_
       exact zr ((ZP .ex (([(Z8.mk 9 13), r6] : List Z8).map Zv)), []) ⟨_, rfl⟩
      ·exact zk Z3o
 ·refine ze<|zq ?_
  refine za (x0 == 68) ?_ ?_
  ·refine ze<|zq<|zq ?_
   exact zr ((ZP .ex (([(Z8.mk 48 57)] : List Z8).map Zv)), []) ⟨_, rfl⟩
  ·refine ze<|zq ?_
   refine za (x0 == 119) ?_ ?_
   ·refine za (x0 == 119) ?_ ?_
    ·refine ze<|zq<|zq<|zi fun r7 hr7 => ?_
     obtain ⟨_, er7, _, rfl⟩ := Z2m 95 r7 hr7
     refine zc [] (pA_ (ZN r7)) [] er7<|zq<|zq ?_
     exact zr ((ZP .ex (([(Z8.mk 48 57), (Z8.mk 65 90), r7, (Z8.mk 97 122)] : List Z8).map Zv)), []) ⟨_, rfl⟩
    ·refine ze<|zq ?_
     refine za (x0 == 115) ?_ ?_
     ·refine za (x0 == 115) ?_ ?_
      ·refine ze<|zq<|zi fun r8 hr8 => ?_
       obtain ⟨_, er8, _, rfl⟩ := Z2m 32 r8 hr8
       refine zc [] (pA_ (ZN r8)) [] er8<|zq ?_
       exact zr ((ZP .ex (([(Z8.mk 9 13), r8] : List Z8).map Zv)), []) ⟨_, rfl⟩
      ·exact zk Z3o
     ·refine ze<|zq ?_
      refine za (x0 == 83) ?_ ?_
      ·refine ze<|zq<|zi fun r9 hr9 => ?_
       obtain ⟨_, er9, _, rfl⟩ := Z2m 32 r9 hr9
       refine zc [] (pA_ (ZN r9)) [] er9<|zq ?_
       exact zr ((ZP .ex (([(Z8.mk 9 13), r9] : List Z8).map Zv)), []) ⟨_, rfl⟩
      ·exact zk Z3o
   ·refine ze<|zq ?_
    refine za (x0 == 87) ?_ ?_
    ·refine ze<|zq<|zq<|zi fun r10 hr10 => ?_
     obtain ⟨_, er10, _, rfl⟩ := Z2m 95 r10 hr10
     refine zc [] (pA_ (ZN r10)) [] er10<|zq<|zq ?_
     exact zr ((ZP .ex (([(Z8.mk 48 57), (Z8.mk 65 90), r10, (Z8.mk 97 122)] : List Z8).map Zv)), []) ⟨_, rfl⟩
    ·refine ze<|zq ?_
     refine za (x0 == 115) ?_ ?_
     ·refine za (x0 == 115) ?_ ?_
      ·refine ze<|zq<|zi fun r11 hr11 => ?_
       obtain ⟨_, er11, _, rfl⟩ := Z2m 32 r11 hr11
       refine zc [] (pA_ (ZN r11)) [] er11<|zq ?_
       exact zr ((ZP .ex (([(Z8.mk 9 13), r11] : List Z8).map Zv)), []) ⟨_, rfl⟩
      ·exact zk Z3o
     ·refine ze<|zq ?_
      refine za (x0 == 83) ?_ ?_
      ·refine ze<|zq<|zi fun r12 hr12 => ?_
       obtain ⟨_, er12, _, rfl⟩ := Z2m 32 r12 hr12
       refine zc [] (pA_ (ZN r12)) [] er12<|zq ?_
       exact zr ((ZP .ex (([(Z8.mk 9 13), r12] : List Z8).map Zv)), []) ⟨_, rfl⟩
      ·exact zk Z3o
theorem Zl7 x0 {r} (h : Z3X x0 = some r) : Z7G x0 = some r :=
 Z1i (fun _ _ ha hb => ru_ Zfv ha hb) (Zkm x0 r h)
def Z38 (x2 : Int) (zm : List Int) (z2 z6 : Int) : Option (Int × Int × Int × Int) :=
 (Z1c 21 x2 zm z2 z6).bind fun r1 =>
 some (0, r1.1, r1.2.1, r1.2.2)
theorem Z4A x2 zm zn z7 zh zj z2 z6 zu zd (zy : ZM zd = true) : Sim (Z5W zm z7 zh zj zu zd) (Z38 x2 zm z2 z6) (ZfA 1 (.ptr 0 0) (iv x2) [(ZL zm zn z7 zh zj z2 z6 zu zd)]) := by
 unfold Z38
 refine zf (Zya ..)<|ze<|zi fun r1 hr1 => ?_
 obtain ⟨_, er1, _, rfl⟩ := Z1h 21 x2 zm zn z7 zh zj z2 z6 zu zd zy r1 hr1
 refine zc [0] (.p (.tup [])) [(ZL zm r1.1 z7 zh zj r1.2.1 r1.2.2 zu zd)] er1<|ze ?_
 exact zr ((iv 0), [(ZL zm r1.1 z7 zh zj r1.2.1 r1.2.2 zu zd)]) ⟨_, rfl⟩
def Z9k (x1 zn z2 z6 : Int) : Option (Int × Int × Int × Int) :=
 some (x1, zn, z2, z6)
theorem ZfP x1 zm zn z7 zh zj z2 z6 zu zd (zy : ZM zd = true) : Sim (Z5W zm z7 zh zj zu zd) (Z9k x1 zn z2 z6) (ZrA 1 (iv x1) [(ZL zm zn z7 zh zj z2 z6 zu zd)]) := by
 unfold Z9k
 refine zf (Zy9 ..)<|ze ?_
 exact zr ((iv x1), [(ZL zm zn z7 zh zj z2 z6 zu zd)]) ⟨_, rfl⟩
def Z92 (x1 x2 : Int) (zm : List Int) (zn z7 zh : Int) (zj : List Zz) (z2 z6 : Int) : Option (Int × Int × Int × Int) :=
 if (x1 == 110) = true then
 (some (10, zn, z2, z6))
 else
 (if (x1 == 116) = true then
 (some (9, zn, z2, z6))
 else
 (if (x1 == 114) = true then
 (some (13, zn, z2, z6))
 else
 (if (x1 == 120) = true then
 ((Z2G (Z1y.mk zm zn z7 zh zj (Z14.mk z2 z6))).bind fun r1 =>
 (Zdz r1).bind fun r2 =>
 if (decide (0 ≤ r2)) = true then
 ((Z3k zm zn).bind fun r3 =>
 (Z2G (Z1y.mk zm r3.2 z7 zh zj (Z14.mk z2 z6))).bind fun r4 =>
 (Zdz r4).bind fun r5 =>
 if (decide (0 ≤ r5)) = true then
 ((Z3k zm r3.2).bind fun r6 =>
 some ((IntKind.i64.wrap ((IntKind.i64.wrap (16 * r2)) + r5)), r6.2, z2, z6))
 else
 (Z38 x2 zm z2 z6))
 else
 (Z38 x2 zm z2 z6))
 else
 (if (decide (32 < x1)) = true then
 (if (decide (x1 < 127)) = true then
 ((Z7s ([(Z8.mk 48 57), (Z8.mk 65 90), (Z8.mk 97 122)] : List Z8) x1).bind fun r7 =>
 if (!r7) = true then
 (Z9k x1 zn z2 z6)
 else
 (Z38 x2 zm z2 z6))
 else
 (Z38 x2 zm z2 z6))
 else
 (Z38 x2 zm z2 z6)))))
theorem Ziy x1 x2 zm zn z7 zh zj z2 z6 zu zd (zy : ZM zd = true) : Sim (Z5W zm z7 zh zj zu zd) (Z92 x1 x2 zm zn z7 zh zj z2 z6) (EE 79 [(.ptr 0 0), (iv x1), (iv x2)] [(ZL zm zn z7 zh zj z2 z6 zu zd)]) := by
 unfold Z92
 refine zf (ZGE ..)<|ze<|ze<|zq ?_
 refine za (x1 == 110) ?_ ?_
 ·refine ze ?_
  exact zr ((iv 10), [(ZL zm zn z7 zh zj z2 z6 zu zd)]) ⟨_, rfl⟩
 ·refine ze<|zq ?_
  refine za (x1 == 116) ?_ ?_
  ·refine ze ?_
   exact zr ((iv 9), [(ZL zm zn z7 zh zj z2 z6 zu zd)]) ⟨_, rfl⟩
  ·refine ze<|zq ?_
   refine za (x1 == 114) ?_ ?_
   ·refine ze ?_
    exact zr ((iv 13), [(ZL zm zn z7 zh zj z2 z6 zu zd)]) ⟨_, rfl⟩
   ·refine ze<|zq ?_
    refine za (x1 == 120) ?_ ?_
    ·refine ze<|zi fun r1 hr1 => ?_
     obtain ⟨_, er1, _, rfl⟩ := Z2S (Z1y.mk zm zn z7 zh zj (Z14.mk z2 z6)) zu zd zy r1 hr1
     refine zc [0] (iv r1) [(ZL zm zn z7 zh zj z2 z6 zu zd)] er1<|zi fun r2 hr2 => ?_
     obtain ⟨_, er2, _, rfl⟩ := Zkk r1 r2 hr2
     refine zc [] (iv r2) [(ZL zm zn z7 zh zj z2 z6 zu zd)] er2<|ze<|zq ?_
     refine za (decide (0 ≤ r2)) ?_ ?_
     ·refine ze<|zi fun r3 hr3 => ?_
      obtain ⟨_, er3, _, rfl⟩ := Z3J zm zn z7 zh zj z2 z6 zu zd zy r3 hr3
      refine zc [0] (iv r3.1) [(ZL zm r3.2 z7 zh zj z2 z6 zu zd)] er3<|ze<|zi fun r4 hr4 => ?_
      obtain ⟨_, er4, _, rfl⟩ := Z2S (Z1y.mk zm r3.2 z7 zh zj (Z14.mk z2 z6)) zu zd zy r4 hr4
      refine zc [0] (iv r4) [(ZL zm r3.2 z7 zh zj z2 z6 zu zd)] er4<|zi fun r5 hr5 => ?_
      obtain ⟨_, er5, _, rfl⟩ := Zkk r4 r5 hr5
      refine zc [] (iv r5) [(ZL zm r3.2 z7 zh zj z2 z6 zu zd)] er5<|ze<|zq ?_
      refine za (decide (0 ≤ r5)) ?_ ?_
      ·refine ze<|zi fun r6 hr6 => ?_
       obtain ⟨_, er6, _, rfl⟩ := Z3J zm r3.2 z7 zh zj z2 z6 zu zd zy r6 hr6
       refine zc [0] (iv r6.1) [(ZL zm r6.2 z7 zh zj z2 z6 zu zd)] er6<|ze<|zq<|zq ?_
       exact zr ((iv (IntKind.i64.wrap ((IntKind.i64.wrap (16 * r2)) + r5))), [(ZL zm r6.2 z7 zh zj z2 z6 zu zd)]) ⟨_, rfl⟩
      ·exact zk (Z4A x2 zm r3.2 z7 zh zj z2 z6 zu zd zy)
     ·exact zk (Z4A x2 zm zn z7 zh zj z2 z6 zu zd zy)
    ·refine ze<|zq ?_
     refine za (decide (32 < x1)) ?_ ?_
     ·refine zq ?_
      refine za (decide (x1 < 127)) ?_ ?_
      ·refine zq<|zq<|zq<|zq<|zi fun r7 hr7 => ?_
       obtain ⟨_, er7, _, rfl⟩ := Zc6 ([(Z8.mk 48 57), (Z8.mk 65 90), (Z8.mk 97 122)] : List Z8) x1 .sh r7 hr7
       refine zc [] (bv r7) [(ZL zm zn z7 zh zj z2 z6 zu zd)] er7<|zq ?_
       refine za (!r7) ?_ ?_
       ·exact zk (ZfP x1 zm zn z7 zh zj z2 z6 zu zd zy)
       ·exact zk (Z4A x2 zm zn z7 zh zj z2 z6 zu zd zy)
      ·exact zk (Z4A x2 zm zn z7 zh zj z2 z6 zu zd zy)
     ·exact zk (Z4A x2 zm zn z7 zh zj z2 z6 zu zd zy)
theorem Zj8 x1 x2 zm zn z7 zh zj z2 z6 {r} (h : Z92 x1 x2 zm zn z7 zh zj z2 z6 = some r) : Z7u x1 x2 zm zn z7 zh zj z2 z6 = some r :=
 Z1i (fun _ _ ha hb => ru_ (Zju _ _ _ _ _ _) (ha .ex .ex rfl) (hb .ex .ex rfl)) (fun zu zd zy => Ziy x1 x2 zm zn z7 zh zj z2 z6 zu zd zy r h)
def ZcE (x0 : Int) : Option Int :=
 some (IntKind.i64.wrap (x0 - 48))
theorem ZmE x0 : Sim ZK (ZcE x0) (ZuZ 0 (iv x0) []) := by
 unfold ZcE
 refine zf (ZB7 ..)<|ze<|zq ?_
 exact zr ((iv (IntKind.i64.wrap (x0 - 48))), []) ⟨_, rfl⟩
def ZcF (x0 : Int) : Option Int :=
 some (IntKind.i64.wrap ((IntKind.i64.wrap (x0 - 97)) + 10))
theorem ZmF x0 : Sim ZK (ZcF x0) (Zv0 0 (iv x0) []) := by
 unfold ZcF
 refine zf (ZB9 ..)<|ze<|zq<|zq ?_
 exact zr ((iv (IntKind.i64.wrap ((IntKind.i64.wrap (x0 - 97)) + 10))), []) ⟨_, rfl⟩
def ZaL : Option Int :=
 some (-1)
theorem ZgB : Sim ZK ZaL (Zqf 0 []) := by
 unfold ZaL
 refine zf (ZBa ..)<|ze ?_
 exact zr ((iv (-1)), []) ⟨_, rfl⟩
def ZaK (x0 : Int) : Option Int :=
 if (decide (97 ≤ x0)) = true then
 (if (decide (x0 ≤ 102)) = true then
 (ZcF x0)
 else
 ZaL)
 else
 ZaL
theorem ZgA x0 : Sim ZK (ZaK x0) (Zqe 0 (iv x0) []) := by
 unfold ZaK
 refine zf (ZB8 ..)<|ze<|zq ?_
 refine za (decide (97 ≤ x0)) ?_ ?_
 ·refine zq ?_
  refine za (decide (x0 ≤ 102)) ?_ ?_
  ·exact zk (ZmF x0)
  ·exact zk ZgB
 ·exact zk ZgB
def Zge (x0 : Int) : Option Int :=
 if (decide (48 ≤ x0)) = true then
 (if (decide (x0 ≤ 57)) = true then
 (ZcE x0)
 else
 (ZaK x0))
 else
 (ZaK x0)
theorem Zqk x0 : Sim ZK (Zge x0) (EE 98 [(iv x0)] []) := by
 unfold Zge
 refine zf (ZGS ..)<|ze<|ze<|zq ?_
 refine za (decide (48 ≤ x0)) ?_ ?_
 ·refine zq ?_
  refine za (decide (x0 ≤ 57)) ?_ ?_
  ·exact zk (ZmE x0)
  ·exact zk (ZgA x0)
 ·exact zk (ZgA x0)
theorem ZrD x0 {r} (h : Zge x0 = some r) : Zdz x0 = some r :=
 Z1i (fun _ _ ha hb => ru_ Z1J ha hb) (Zqk x0 r h)
def ZbG (x0 : List Z8) (x1 : Int) : Option Bool :=
 (Z57 x0 x1).bind fun r1 =>
 some r1
theorem ZlT (x0 : List Z8) x1 ox0 : Sim ZQ (ZbG x0 x1) (EE 24 [(ZP ox0 (x0.map Zv)), (iv x1)] []) := by
 unfold ZbG
 refine zf (ZFl ..)<|ze<|zx (.ptr 0 0) [[(iv x1)]]<|ze<|zi fun r1 hr1 => ?_
 obtain ⟨_, er1, _, rfl⟩ := Zdg x0 x1 .sh r1 hr1
 refine zc [0] (bv r1) [[(iv x1)]] er1 ?_
 exact zr ((bv r1), [[(iv x1)]]) ⟨_, rfl⟩
theorem Zmz x0 x1 {r} (h : ZbG x0 x1 = some r) : Z7s x0 x1 = some r :=
 Z1i (fun _ _ ha hb => ru_ Z2q (ha .ex) (hb .ex)) (fun ox0 => ZlT x0 x1 ox0 r h)
def Z52 (x0 : List Z8) (z1x : Int) : Option Bool :=
 (Z69 x0 z1x).bind fun r1 =>
 some (decide (0 ≤ r1))
theorem ZcP (x0 : List Z8) z1x ox0 : Sim (Z7B z1x) (Z52 x0 z1x) (EE 32 [(ZP ox0 (x0.map Zv)), (.clo 33 [] [(.ptr 0 0)])] [[(iv z1x)]]) := by
 unfold Z52
 refine zf (ZFB ..)<|ze<|ze<|zi fun r1 hr1 => ?_
 obtain ⟨_, er1, _, rfl⟩ := ZeJ x0 z1x .sh r1 hr1
 refine zc [0] (iv r1) [[(iv z1x)]] er1<|zq ?_
 exact zr ((bv (decide (0 ≤ r1))), [[(iv z1x)]]) ⟨_, rfl⟩
theorem Zdf x0 z1x {r} (h : Z52 x0 z1x = some r) : Z57 x0 z1x = some r :=
 Z1i (fun _ _ ha hb => ru_ (Zfu _) (ha .ex) (hb .ex)) (fun ox0 => ZcP x0 z1x ox0 r h)
def Z63 (x0 : List Z8) (z1x : Int) : Option Int :=
 Z41 x0 (x0.length : Int) 0 z1x
theorem Ze4 (x0 : List Z8) z1x ox0 : Sim (Z2I z1x) (Z63 x0 z1x) (EE 50 [(ZP ox0 (x0.map Zv)), (.clo 33 [] [(.ptr 0 0)])] [[(iv z1x)]]) := by
 unfold Z63
 refine zf (ZG1 ..)<|ze<|ze<|zp (iv (x0.length : Int)) (et_ (Z30 (P := PP) (t := 28) (d := 47) (by kernel_rfl) Zv (shrO ox0) x0)) ?_
 exact zk (Z8U x0 (x0.length : Int) 0 z1x ox0)
theorem ZeI x0 z1x {r} (h : Z63 x0 z1x = some r) : Z69 x0 z1x = some r :=
 Z1i (fun _ _ ha hb => ru_ (Z9U _) (ha .ex) (hb .ex)) (fun ox0 => Ze4 x0 z1x ox0 r h)
def Z54 (x0 : List Z8) (x7 x8 z1x : Int) : Option Int :=
 Z41 x0 x7 (IntKind.i64.wrap (x8 + 1)) z1x
theorem ZcT (x0 : List Z8) x7 x8 z1x ox0 : Sim (Z2I z1x) (Z54 x0 x7 x8 z1x) (Zu6 1 (ZP ox0 (x0.map Zv)) (.clo 33 [] [(.ptr 0 0)]) (iv x7) (iv x8) [[(iv z1x)]]) := by
 unfold Z54
 refine zf (ZAj ..)<|ze<|zq ?_
 exact zk (Z8U x0 x7 (IntKind.i64.wrap (x8 + 1)) z1x ox0)
def Z3Z (x0 : List Z8) (x7 x8 z1x : Int) : Option Int :=
 (lget x0 x8).bind fun a1 =>
 (ZaD a1 z1x).bind fun r2 =>
 if r2 = true then
 (some x8)
 else
 (Z54 x0 x7 x8 z1x)
theorem ZcS (x0 : List Z8) x7 x8 z1x ox0 : Sim (Z2I z1x) (Z3Z x0 x7 x8 z1x) (Zu5 1 (ZP ox0 (x0.map Zv)) (.clo 33 [] [(.ptr 0 0)]) (iv x7) (iv x8) [[(iv z1x)]]) := by
 unfold Z3Z
 refine zf (ZAi ..)<|ze<|ze<|zi fun a1 ha1 => zp (.cptr (ZN a1)) (et_ (Z2v (o := (shrO ox0)) (k := .i64) (n := 2) (e := Zv) (cs := Z4y) (fun _ => rfl) (fun _ => rfl) (by decide) ha1))<|zq<|zi fun r2 hr2 => ?_
 obtain ⟨_, er2, _, rfl⟩ := Zl2 a1 z1x r2 hr2
 refine zv [0] (bv r2) [[(iv z1x)]] er2 ?_
 refine za r2 ?_ ?_
 ·refine ze ?_
  exact zr ((iv x8), [[(iv z1x)]]) ⟨_, rfl⟩
 ·exact zk (ZcT x0 x7 x8 z1x ox0)
def Z73 : Option Int :=
 some (-1)
theorem ZcU z1x : Sim (Z2I z1x) Z73 (Zu7 1 [[(iv z1x)]]) := by
 unfold Z73
 refine zf (ZAk ..)<|ze ?_
 exact zr ((iv (-1)), [[(iv z1x)]]) ⟨_, rfl⟩
def Z3t (x0 : List Z8) (x7 x8 z1x : Int) : Option Int :=
 if (decide (x8 < x7)) = true then
 (Z3Z x0 x7 x8 z1x)
 else
 Z73
theorem ZcR (x0 : List Z8) x7 x8 z1x ox0 : Sim (Z2I z1x) (Z3t x0 x7 x8 z1x) (Zmq 1 (ZP ox0 (x0.map Zv)) (.clo 33 [] [(.ptr 0 0)]) (iv x7) (iv x8) [[(iv z1x)]]) := by
 unfold Z3t
 refine zf (ZAh ..)<|ze<|zq ?_
 refine za (decide (x8 < x7)) ?_ ?_
 ·exact zk (ZcS x0 x7 x8 z1x ox0)
 ·exact zk (ZcU z1x)
theorem Z6h x0 x7 x8 z1x {r} (h : Z3t x0 x7 x8 z1x = some r) : Z41 x0 x7 x8 z1x = some r :=
 Z1i (fun _ _ ha hb => ru_ (Z9U _) (ha .ex) (hb .ex)) (fun ox0 => ZcR x0 x7 x8 z1x ox0 r h)
def Zaw (x0 : Z8) (z1x : Int) : Option Bool :=
 if (decide (x0.Lo ≤ z1x)) = true then
 (some (decide (z1x ≤ x0.Hi)))
 else
 (some false)
theorem Zke x0 z1x : Sim (Z7B z1x) (Zaw x0 z1x) (EE 33 [(pA_ (ZN x0)), (.ptr 0 0)] [[(iv z1x)]]) := by
 unfold Zaw
 refine zf (ZFC ..)<|ze<|zx (.ptr 1 0) [[(iv z1x)], (Z1K x0)]<|ze<|zq<|zq<|zq<|zq ?_
 refine za (decide (x0.Lo ≤ z1x)) ?_ ?_
 ·refine zq<|zq<|zq<|zq ?_
  exact zr ((bv (decide (z1x ≤ x0.Hi))), [[(iv z1x)], (Z1K x0)]) ⟨_, rfl⟩
 ·exact zr ((bv false), [[(iv z1x)], (Z1K x0)]) ⟨_, rfl⟩
theorem Zl1 x0 z1x {r} (h : Zaw x0 z1x = some r) : ZaD x0 z1x = some r :=
 Z1i (fun _ _ ha hb => ru_ (Zfu _) ha hb) (Zke x0 z1x r h)
def Z78 (x1 : Int) (zm : List Int) (zn z7 zh : Int) (zj : List Zz) (z2 z6 : Int) : Option (Zk × Int × Int × Int) :=
 (Z1H (ByteArray.mk #[94]) zm zn).bind fun r1 =>
 Z43 x1 r1.1 0 zm r1.2 z7 zh zj z2 z6 ([] : List Z8)
theorem Zis x1 zm zn z7 zh zj z2 z6 zu zd (zy : ZM zd = true) : Sim (Z1G zm z7 zh zj zu zd) (Z78 x1 zm zn z7 zh zj z2 z6) (EE 67 [(.ptr 0 0), (iv x1)] [(ZL zm zn z7 zh zj z2 z6 zu zd)]) := by
 unfold Z78
 refine zf (ZGm ..)<|ze<|zz (.ptr 1 0) [(ZL zm zn z7 zh zj z2 z6 zu zd), (Zl Z1B .nl .nl)]<|ze<|zi fun r1 hr1 => ?_
 obtain ⟨_, er1, _, rfl⟩ := Z1Q (ByteArray.mk #[94]) zm zn z7 zh zj z2 z6 zu zd zy r1 hr1
 refine zc [0] (bv r1.1) [(ZL zm r1.2 z7 zh zj z2 z6 zu zd), (Zl Z1B .nl .nl)] er1<|ze<|zz (.ptr 2 0) [(ZL zm r1.2 z7 zh zj z2 z6 zu zd), (Zl Z1B .nl .nl), [(ZP .nl [])]]<|ze<|ze ?_
 exact zk (Zbu x1 r1.1 0 zm r1.2 z7 zh zj z2 z6 Z1B ([] : List Z8) zu zd .nl .nl .nl zy rfl rfl)
theorem Zj3 x1 zm zn z7 zh zj z2 z6 {r} (h : Z78 x1 zm zn z7 zh zj z2 z6 = some r) : Z94 x1 zm zn z7 zh zj z2 z6 = some r :=
 Z1i (fun _ _ ha hb => ru_ (Zal _ _ _ _ _ _) (ha .ex .ex rfl) (hb .ex .ex rfl)) (fun zu zd zy => Zis x1 zm zn z7 zh zj z2 z6 zu zd zy r h)
def Z1T (x1 : Int) (x5 : Bool) (x8 : Int) (zm : List Int) (zn z7 zh : Int) (zj : List Zz) (z2 z6 : Int) (z1s : List Z8) : Option (Zk × Int × Int × Int) :=
 Z43 x1 x5 (IntKind.i64.wrap (x8 + 1)) zm zn z7 zh zj z2 z6 z1s
theorem Z2O x1 x5 x8 zm zn z7 zh zj z2 z6 b1 (z1s : List Z8) zu zd zH zE z1W (zy : ZM zd = true) (z16 : ZM zH = true) (zY : ZM zE = true) : Sim (Z1G zm z7 zh zj zu zd) (Z1T x1 x5 x8 zm zn z7 zh zj z2 z6 z1s) (Zc4 1 (.ptr 0 0) (iv x1) (.ptr 1 0) (bv x5) (.ptr 2 0) (.clo 80 [] [(.ptr 2 0)]) (iv x8) [(ZL zm zn z7 zh zj z2 z6 zu zd), (Zl b1 zH zE), [(ZP z1W (z1s.map Zv))]]) := by
 unfold Z1T
 refine zf (ZAF ..)<|ze<|zq ?_
 exact zk (Zbu x1 x5 (IntKind.i64.wrap (x8 + 1)) zm zn z7 zh zj z2 z6 b1 z1s zu zd zH zE z1W zy z16 zY)
def Z5J (zn z2 z6 : Int) (z1s : List Z8) : Option (Zk × Int × Int × Int) :=
 some ((Zk.mk 1 0 0 0 0 z1s ([] : List Zk)), zn, z2, z6)
theorem ZaS zm zn z7 zh zj z2 z6 b1 (z1s : List Z8) zu zd zH zE z1W (zy : ZM zd = true) (z16 : ZM zH = true) (zY : ZM zE = true) : Sim (Z1G zm z7 zh zj zu zd) (Z5J zn z2 z6 z1s) (ZnC 1 (.ptr 1 0) (.ptr 2 0) [(ZL zm zn z7 zh zj z2 z6 zu zd), (Zl b1 zH zE), [(ZP z1W (z1s.map Zv))]]) := by
 unfold Z5J
 refine zf (ZxU ..)<|ze<|zq<|zq<|zt [(ZL zm zn z7 zh zj z2 z6 zu zd), (Z2P 1 0 0 0 0 z1s ([] : List Zk) (shrO (shrO z1W)) .nl), [(ZP z1W (z1s.map Zv))]] ?_
 exact zr ((pA_ (ZI (Zk.mk 1 0 0 0 0 z1s ([] : List Zk)) .sh .sh)), [(ZL zm zn z7 zh zj z2 z6 zu zd), (Z2P 1 0 0 0 0 z1s ([] : List Zk) (shrO (shrO z1W)) .nl), [(ZP z1W (z1s.map Zv))]]) ⟨_, rfl⟩
def Z79 (x5 : Bool) (zm : List Int) (zn z2 z6 : Int) (z1s : List Z8) : Option (Zk × Int × Int × Int) :=
 (Z3k zm zn).bind fun r1 =>
 if x5 = true then
 ((Z8C z1s).bind fun r2 =>
 Z5J r1.2 z2 z6 r2.1)
 else
 (Z5J r1.2 z2 z6 z1s)
theorem ZfC x5 zm zn z7 zh zj z2 z6 b1 (z1s : List Z8) zu zd zH zE z1W (zy : ZM zd = true) (z16 : ZM zH = true) (zY : ZM zE = true) : Sim (Z1G zm z7 zh zj zu zd) (Z79 x5 zm zn z2 z6 z1s) (Zru 1 (.ptr 0 0) (.ptr 1 0) (bv x5) (.ptr 2 0) [(ZL zm zn z7 zh zj z2 z6 zu zd), (Zl b1 zH zE), [(ZP z1W (z1s.map Zv))]]) := by
 unfold Z79
 refine zf (ZxT ..)<|ze<|zi fun r1 hr1 => ?_
 obtain ⟨_, er1, _, rfl⟩ := Z3J zm zn z7 zh zj z2 z6 zu zd zy r1 hr1
 refine zc [0] (iv r1.1) [(ZL zm r1.2 z7 zh zj z2 z6 zu zd), (Zl b1 zH zE), [(ZP z1W (z1s.map Zv))]] er1<|ze ?_
 refine za x5 ?_ ?_
 ·refine ze<|zq<|zi fun r2 hr2 => ?_
  obtain ⟨_, er2, _, rfl⟩ := Zc8 z1s .sh r2 hr2
  refine zc [] (.p (.tup [(.lst .sh (r2.1.map Zv)), (.v (.int .i64 r2.2))])) [(ZL zm r1.2 z7 zh zj z2 z6 zu zd), (Zl b1 zH zE), [(ZP z1W (z1s.map Zv))]] er2<|zq<|zq<|zt [(ZL zm r1.2 z7 zh zj z2 z6 zu zd), (Zl b1 zH zE), [(ZP .sh (r2.1.map Zv))]] ?_
  exact zk (ZaS zm r1.2 z7 zh zj z2 z6 b1 r2.1 zu zd zH zE .sh zy z16 zY)
 ·exact zk (ZaS zm r1.2 z7 zh zj z2 z6 b1 z1s zu zd zH zE z1W zy z16 zY)
def Z3R (x1 : Int) (x5 : Bool) (x8 x9 : Int) (zm : List Int) (z7 zh : Int) (zj : List Zz) (z2 z6 : Int) (z1s : List Z8) : Option (Zk × Int × Int × Int) :=
 (Z1c 22 x9 zm z2 z6).bind fun r1 =>
 Z1T x1 x5 x8 zm r1.1 z7 zh zj r1.2.1 r1.2.2 z1s
theorem Z66 x1 x5 x8 x9 zm zn z7 zh zj z2 z6 b1 (z1s : List Z8) zu zd zH zE z1W (zy : ZM zd = true) (z16 : ZM zH = true) (zY : ZM zE = true) : Sim (Z1G zm z7 zh zj zu zd) (Z3R x1 x5 x8 x9 zm z7 zh zj z2 z6 z1s) (Zi9 1 (.ptr 0 0) (iv x1) (.ptr 1 0) (bv x5) (.ptr 2 0) (.clo 80 [] [(.ptr 2 0)]) (iv x8) (iv x9) [(ZL zm zn z7 zh zj z2 z6 zu zd), (Zl b1 zH zE), [(ZP z1W (z1s.map Zv))]]) := by
 unfold Z3R
 refine zf (ZxX ..)<|ze<|zi fun r1 hr1 => ?_
 obtain ⟨_, er1, _, rfl⟩ := Z1h 22 x9 zm zn z7 zh zj z2 z6 zu zd zy r1 hr1
 refine zc [0] (.p (.tup [])) [(ZL zm r1.1 z7 zh zj r1.2.1 r1.2.2 zu zd), (Zl b1 zH zE), [(ZP z1W (z1s.map Zv))]] er1 ?_
 exact zk (Z2O x1 x5 x8 zm r1.1 z7 zh zj r1.2.1 r1.2.2 b1 z1s zu zd zH zE z1W zy z16 zY)
def Z2A (x1 : Int) (x5 : Bool) (x8 x11 x15 : Int) (zm : List Int) (zn z7 zh : Int) (zj : List Zz) (z2 z6 : Int) (z1s : List Z8) : Option (Zk × Int × Int × Int) :=
 if (z2 == 0) = true then
 ((Z6v ([(Z8.mk x11 x15)] : List Z8) z1s).bind fun r1 =>
 Z1T x1 x5 x8 zm zn z7 zh zj z2 z6 r1)
 else
 (Z1T x1 x5 x8 zm zn z7 zh zj z2 z6 z1s)
theorem Z67 x1 x5 x8 x11 x15 zm zn z7 zh zj z2 z6 b1 (z1s : List Z8) zu zd zH zE z1W (zy : ZM zd = true) (z16 : ZM zH = true) (zY : ZM zE = true) : Sim (Z1G zm z7 zh zj zu zd) (Z2A x1 x5 x8 x11 x15 zm zn z7 zh zj z2 z6 z1s) (Zia 1 (.ptr 0 0) (iv x1) (.ptr 1 0) (bv x5) (.ptr 2 0) (.clo 80 [] [(.ptr 2 0)]) (iv x8) (iv x11) (iv x15) [(ZL zm zn z7 zh zj z2 z6 zu zd), (Zl b1 zH zE), [(ZP z1W (z1s.map Zv))]]) := by
 unfold Z2A
 refine zf (Zy0 ..)<|ze<|zq<|zq<|zq<|zq<|zq ?_
 refine za (z2 == 0) ?_ ?_
 ·refine ze<|zq<|zq<|zi fun r1 hr1 => ?_
  obtain ⟨_, er1, zwQ, _, rfl⟩ := ZbR ([(Z8.mk x11 x15)] : List Z8) z1s .sh z1W r1 hr1
  refine zv [2] (.p (.tup [])) [(ZL zm zn z7 zh zj z2 z6 zu zd), (Zl b1 zH zE), [(ZP zwQ (r1.map Zv))]] er1 ?_
  exact zk (Z2O x1 x5 x8 zm zn z7 zh zj z2 z6 b1 r1 zu zd zH zE zwQ zy z16 zY)
 ·exact zk (Z2O x1 x5 x8 zm zn z7 zh zj z2 z6 b1 z1s zu zd zH zE z1W zy z16 zY)
def Z4s (x1 : Int) (x5 : Bool) (x8 x9 x11 x15 : Int) (zm : List Int) (z7 zh : Int) (zj : List Zz) (z2 z6 : Int) (z1s : List Z8) : Option (Zk × Int × Int × Int) :=
 (Z1c 22 x9 zm z2 z6).bind fun r1 =>
 Z2A x1 x5 x8 x11 x15 zm r1.1 z7 zh zj r1.2.1 r1.2.2 z1s
theorem ZaU x1 x5 x8 x9 x11 x15 zm zn z7 zh zj z2 z6 b1 (z1s : List Z8) zu zd zH zE z1W (zy : ZM zd = true) (z16 : ZM zH = true) (zY : ZM zE = true) : Sim (Z1G zm z7 zh zj zu zd) (Z4s x1 x5 x8 x9 x11 x15 zm z7 zh zj z2 z6 z1s) (ZnE 1 (.ptr 0 0) (iv x1) (.ptr 1 0) (bv x5) (.ptr 2 0) (.clo 80 [] [(.ptr 2 0)]) (iv x8) (iv x9) (iv x11) (iv x15) [(ZL zm zn z7 zh zj z2 z6 zu zd), (Zl b1 zH zE), [(ZP z1W (z1s.map Zv))]]) := by
 unfold Z4s
 refine zf (ZxZ ..)<|ze<|zi fun r1 hr1 => ?_
 obtain ⟨_, er1, _, rfl⟩ := Z1h 22 x9 zm zn z7 zh zj z2 z6 zu zd zy r1 hr1
 refine zc [0] (.p (.tup [])) [(ZL zm r1.1 z7 zh zj r1.2.1 r1.2.2 zu zd), (Zl b1 zH zE), [(ZP z1W (z1s.map Zv))]] er1 ?_
 exact zk (Z67 x1 x5 x8 x11 x15 zm r1.1 z7 zh zj r1.2.1 r1.2.2 b1 z1s zu zd zH zE z1W zy z16 zY)
def Z7a (x1 : Int) (x5 : Bool) (x8 x9 x11 : Int) (zm : List Int) (zn z7 zh : Int) (zj : List Zz) (z2 z6 : Int) (z1s : List Z8) : Option (Zk × Int × Int × Int) :=
 (Z5D zm zn z7 zh zj z2 z6).bind fun r1 =>
 if (r1.2.2.2.2.1 == 0) = true then
 ((nilO (shrO (shrO (shrO (shrO r1.2.1.1)))) r1.2.1.2).bind fun a2 =>
 if (!a2) = true then
 (Z4s x1 x5 x8 x9 x11 r1.1 zm z7 zh zj r1.2.2.2.2.1 r1.2.2.2.2.2 z1s)
 else
 (if (decide (r1.1 < x11)) = true then
 (Z4s x1 x5 x8 x9 x11 r1.1 zm z7 zh zj r1.2.2.2.2.1 r1.2.2.2.2.2 z1s)
 else
 (Z2A x1 x5 x8 x11 r1.1 zm r1.2.2.2.1 z7 zh zj r1.2.2.2.2.1 r1.2.2.2.2.2 z1s)))
 else
 (Z2A x1 x5 x8 x11 r1.1 zm r1.2.2.2.1 z7 zh zj r1.2.2.2.2.1 r1.2.2.2.2.2 z1s)
theorem ZfE x1 x5 x8 x9 x11 zm zn z7 zh zj z2 z6 b1 (z1s : List Z8) zu zd zH zE z1W (zy : ZM zd = true) (z16 : ZM zH = true) (zY : ZM zE = true) : Sim (Z1G zm z7 zh zj zu zd) (Z7a x1 x5 x8 x9 x11 zm zn z7 zh zj z2 z6 z1s) (Zrw 1 (.ptr 0 0) (iv x1) (.ptr 1 0) (bv x5) (.ptr 2 0) (.clo 80 [] [(.ptr 2 0)]) (iv x8) (iv x9) (iv x11) [(ZL zm zn z7 zh zj z2 z6 zu zd), (Zl b1 zH zE), [(ZP z1W (z1s.map Zv))]]) := by
 unfold Z7a
 refine zf (ZxY ..)<|ze<|zi fun r1 hr1 => ?_
 obtain ⟨_, er1, _, rfl⟩ := Zcf zm zn z7 zh zj z2 z6 zu zd zy r1 hr1
 refine zc [0] (.p (.tup [(.v (.int .i64 r1.1)), (.lst r1.2.1.1 (r1.2.1.2.map Zv)), (.v (.bool r1.2.2.1))])) [(ZL zm r1.2.2.2.1 z7 zh zj r1.2.2.2.2.1 r1.2.2.2.2.2 zu zd), (Zl b1 zH zE), [(ZP z1W (z1s.map Zv))]] er1<|zq<|zq<|zq<|ze<|zq<|zq<|zq<|zq<|zq ?_
 refine za (r1.2.2.2.2.1 == 0) ?_ ?_
 ·refine zi fun a2 ha2 => zp (bv (!a2)) (et_ (ZlM (P := PP) (t := 27) (c := .slice none 0 0) (e := Zv) (by kernel_rfl) ha2)) ?_
  refine za (!a2) ?_ ?_
  ·exact zk (ZaU x1 x5 x8 x9 x11 r1.1 zm r1.2.2.2.1 z7 zh zj r1.2.2.2.2.1 r1.2.2.2.2.2 b1 z1s zu zd zH zE z1W zy z16 zY)
  ·refine zq ?_
   refine za (decide (r1.1 < x11)) ?_ ?_
   ·exact zk (ZaU x1 x5 x8 x9 x11 r1.1 zm r1.2.2.2.1 z7 zh zj r1.2.2.2.2.1 r1.2.2.2.2.2 b1 z1s zu zd zH zE z1W zy z16 zY)
   ·exact zk (Z67 x1 x5 x8 x11 r1.1 zm r1.2.2.2.1 z7 zh zj r1.2.2.2.2.1 r1.2.2.2.2.2 b1 z1s zu zd zH zE z1W zy z16 zY)
 ·exact zk (Z67 x1 x5 x8 x11 r1.1 zm r1.2.2.2.1 z7 zh zj r1.2.2.2.2.1 r1.2.2.2.2.2 b1 z1s zu zd zH zE z1W zy z16 zY)
def Z5L (x1 : Int) (x5 : Bool) (x8 x9 x11 : Int) (zm : List Int) (zn z7 zh : Int) (zj : List Zz) (z2 z6 : Int) (z1s : List Z8) : Option (Zk × Int × Int × Int) :=
 (Z1H (ByteArray.mk #[45]) zm zn).bind fun r1 =>
 if r1.1 = true then
 ((Z2G (Z1y.mk zm r1.2 z7 zh zj (Z14.mk z2 z6))).bind fun r2 =>
 if (r2 == 93) = true then
 (Z3R x1 x5 x8 x9 zm z7 zh zj z2 z6 z1s)
 else
 (if (r2 == 91) = true then
 (Z3R x1 x5 x8 x9 zm z7 zh zj z2 z6 z1s)
 else
 (if (r2 == 45) = true then
 (Z3R x1 x5 x8 x9 zm z7 zh zj z2 z6 z1s)
 else
 (if (decide (r2 < 0)) = true then
 (Z3R x1 x5 x8 x9 zm z7 zh zj z2 z6 z1s)
 else
 (Z7a x1 x5 x8 x9 x11 zm r1.2 z7 zh zj z2 z6 z1s)))))
 else
 (Z2A x1 x5 x8 x11 x11 zm r1.2 z7 zh zj z2 z6 z1s)
theorem ZfD x1 x5 x8 x9 x11 zm zn z7 zh zj z2 z6 b1 (z1s : List Z8) zu zd zH zE z1W (zy : ZM zd = true) (z16 : ZM zH = true) (zY : ZM zE = true) : Sim (Z1G zm z7 zh zj zu zd) (Z5L x1 x5 x8 x9 x11 zm zn z7 zh zj z2 z6 z1s) (Zrv 1 (.ptr 0 0) (iv x1) (.ptr 1 0) (bv x5) (.ptr 2 0) (.clo 80 [] [(.ptr 2 0)]) (iv x8) (iv x9) (iv x11) [(ZL zm zn z7 zh zj z2 z6 zu zd), (Zl b1 zH zE), [(ZP z1W (z1s.map Zv))]]) := by
 unfold Z5L
 refine zf (ZxW ..)<|ze<|ze<|zi fun r1 hr1 => ?_
 obtain ⟨_, er1, _, rfl⟩ := Z1Q (ByteArray.mk #[45]) zm zn z7 zh zj z2 z6 zu zd zy r1 hr1
 refine zc [0] (bv r1.1) [(ZL zm r1.2 z7 zh zj z2 z6 zu zd), (Zl b1 zH zE), [(ZP z1W (z1s.map Zv))]] er1 ?_
 refine za r1.1 ?_ ?_
 ·refine ze<|zi fun r2 hr2 => ?_
  obtain ⟨_, er2, _, rfl⟩ := Z2S (Z1y.mk zm r1.2 z7 zh zj (Z14.mk z2 z6)) zu zd zy r2 hr2
  refine zc [0] (iv r2) [(ZL zm r1.2 z7 zh zj z2 z6 zu zd), (Zl b1 zH zE), [(ZP z1W (z1s.map Zv))]] er2<|ze<|zq ?_
  refine za (r2 == 93) ?_ ?_
  ·exact zk (Z66 x1 x5 x8 x9 zm r1.2 z7 zh zj z2 z6 b1 z1s zu zd zH zE z1W zy z16 zY)
  ·refine zq ?_
   refine za (r2 == 91) ?_ ?_
   ·exact zk (Z66 x1 x5 x8 x9 zm r1.2 z7 zh zj z2 z6 b1 z1s zu zd zH zE z1W zy z16 zY)
   ·refine zq ?_
    refine za (r2 == 45) ?_ ?_
    ·exact zk (Z66 x1 x5 x8 x9 zm r1.2 z7 zh zj z2 z6 b1 z1s zu zd zH zE z1W zy z16 zY)
    ·refine zq ?_
     refine za (decide (r2 < 0)) ?_ ?_
     ·exact zk (Z66 x1 x5 x8 x9 zm r1.2 z7 zh zj z2 z6 b1 z1s zu zd zH zE z1W zy z16 zY)
     ·exact zk (ZfE x1 x5 x8 x9 x11 zm r1.2 z7 zh zj z2 z6 b1 z1s zu zd zH zE z1W zy z16 zY)
 ·exact zk (Z67 x1 x5 x8 x11 x11 zm r1.2 z7 zh zj z2 z6 b1 z1s zu zd zH zE z1W zy z16 zY)
def Z5K (x1 : Int) (x5 : Bool) (x8 x9 : Int) (zm : List Int) (zn z7 zh : Int) (zj : List Zz) (z2 z6 : Int) (z1s : List Z8) : Option (Zk × Int × Int × Int) :=
 (Z5D zm zn z7 zh zj z2 z6).bind fun r1 =>
 (nilO (shrO (shrO (shrO (shrO r1.2.1.1)))) r1.2.1.2).bind fun a2 =>
 if (!a2) = true then
 ((Z3Y r1.2.2.1 r1.2.1.2).bind fun r3 =>
 (Z6v r3.Set z1s).bind fun r4 =>
 (Z2G (Z1y.mk zm r1.2.2.2.1 z7 zh zj (Z14.mk r1.2.2.2.2.1 r1.2.2.2.2.2))).bind fun r5 =>
 if (r5 == 45) = true then
 ((Z1c 22 r1.2.2.2.1 zm r1.2.2.2.2.1 r1.2.2.2.2.2).bind fun r6 =>
 Z1T x1 x5 x8 zm r6.1 z7 zh zj r6.2.1 r6.2.2 r4)
 else
 (Z1T x1 x5 x8 zm r1.2.2.2.1 z7 zh zj r1.2.2.2.2.1 r1.2.2.2.2.2 r4))
 else
 (Z5L x1 x5 x8 x9 r1.1 zm r1.2.2.2.1 z7 zh zj r1.2.2.2.2.1 r1.2.2.2.2.2 z1s)
theorem ZaT x1 x5 x8 x9 zm zn z7 zh zj z2 z6 b1 (z1s : List Z8) zu zd zH zE z1W (zy : ZM zd = true) (z16 : ZM zH = true) (zY : ZM zE = true) : Sim (Z1G zm z7 zh zj zu zd) (Z5K x1 x5 x8 x9 zm zn z7 zh zj z2 z6 z1s) (ZnD 1 (.ptr 0 0) (iv x1) (.ptr 1 0) (bv x5) (.ptr 2 0) (.clo 80 [] [(.ptr 2 0)]) (iv x8) (iv x9) [(ZL zm zn z7 zh zj z2 z6 zu zd), (Zl b1 zH zE), [(ZP z1W (z1s.map Zv))]]) := by
 unfold Z5K
 refine zf (ZxV ..)<|ze<|zi fun r1 hr1 => ?_
 obtain ⟨_, er1, _, rfl⟩ := Zcf zm zn z7 zh zj z2 z6 zu zd zy r1 hr1
 refine zc [0] (.p (.tup [(.v (.int .i64 r1.1)), (.lst r1.2.1.1 (r1.2.1.2.map Zv)), (.v (.bool r1.2.2.1))])) [(ZL zm r1.2.2.2.1 z7 zh zj r1.2.2.2.2.1 r1.2.2.2.2.2 zu zd), (Zl b1 zH zE), [(ZP z1W (z1s.map Zv))]] er1<|zq<|zq<|zq<|ze<|zi fun a2 ha2 => zp (bv (!a2)) (et_ (ZlM (P := PP) (t := 27) (c := .slice none 0 0) (e := Zv) (by kernel_rfl) ha2)) ?_
 refine za (!a2) ?_ ?_
 ·refine ze<|zi fun r3 hr3 => ?_
  obtain ⟨_, er3, _, rfl⟩ := Z47 r1.2.2.1 r1.2.1.2 .sh r3 hr3
  refine zc [] (pA_ (ZI r3 .sh .sh)) [(ZL zm r1.2.2.2.1 z7 zh zj r1.2.2.2.2.1 r1.2.2.2.2.2 zu zd), (Zl b1 zH zE), [(ZP z1W (z1s.map Zv))]] er3<|zz (.ptr 3 0) [(ZL zm r1.2.2.2.1 z7 zh zj r1.2.2.2.2.1 r1.2.2.2.2.2 zu zd), (Zl b1 zH zE), [(ZP z1W (z1s.map Zv))], (Zl Z1B .nl .nl)]<|zt [(ZL zm r1.2.2.2.1 z7 zh zj r1.2.2.2.2.1 r1.2.2.2.2.2 zu zd), (Zl b1 zH zE), [(ZP z1W (z1s.map Zv))], (Zl r3 .sh .sh)]<|ze<|zq<|zq<|zi fun r4 hr4 => ?_
  obtain ⟨_, er4, zkF, _, rfl⟩ := ZbR r3.Set z1s .sh z1W r4 hr4
  refine zv [2] (.p (.tup [])) [(ZL zm r1.2.2.2.1 z7 zh zj r1.2.2.2.2.1 r1.2.2.2.2.2 zu zd), (Zl b1 zH zE), [(ZP zkF (r4.map Zv))], (Zl r3 .sh .sh)] er4<|ze<|zi fun r5 hr5 => ?_
  obtain ⟨_, er5, _, rfl⟩ := Z2S (Z1y.mk zm r1.2.2.2.1 z7 zh zj (Z14.mk r1.2.2.2.2.1 r1.2.2.2.2.2)) zu zd zy r5 hr5
  refine zc [0] (iv r5) [(ZL zm r1.2.2.2.1 z7 zh zj r1.2.2.2.2.1 r1.2.2.2.2.2 zu zd), (Zl b1 zH zE), [(ZP zkF (r4.map Zv))], (Zl r3 .sh .sh)] er5<|zq ?_
  refine za (r5 == 45) ?_ ?_
  ·refine ze<|zq<|zq<|zq<|zi fun r6 hr6 => ?_
   obtain ⟨_, er6, _, rfl⟩ := Z1h 22 r1.2.2.2.1 zm r1.2.2.2.1 z7 zh zj r1.2.2.2.2.1 r1.2.2.2.2.2 zu zd zy r6 hr6
   refine zc [0] (.p (.tup [])) [(ZL zm r6.1 z7 zh zj r6.2.1 r6.2.2 zu zd), (Zl b1 zH zE), [(ZP zkF (r4.map Zv))], (Zl r3 .sh .sh)] er6 ?_
   exact zk (Z2O x1 x5 x8 zm r6.1 z7 zh zj r6.2.1 r6.2.2 b1 r4 zu zd zH zE zkF zy z16 zY)
  ·exact zk (Z2O x1 x5 x8 zm r1.2.2.2.1 z7 zh zj r1.2.2.2.2.1 r1.2.2.2.2.2 b1 r4 zu zd zH zE zkF zy z16 zY)
 ·exact zk (ZfD x1 x5 x8 x9 r1.1 zm r1.2.2.2.1 z7 zh zj r1.2.2.2.2.1 r1.2.2.2.2.2 b1 z1s zu zd zH zE z1W zy z16 zY)
def Z4P (x1 : Int) (x5 : Bool) (x8 : Int) (zm : List Int) (zn z7 zh : Int) (zj : List Zz) (z2 z6 : Int) (z1s : List Z8) : Option (Zk × Int × Int × Int) :=
 (Z2G (Z1y.mk zm zn z7 zh zj (Z14.mk z2 z6))).bind fun r1 =>
 if (r1 == (-1)) = true then
 ((Z1c 22 x1 zm z2 z6).bind fun r2 =>
 Z1T x1 x5 x8 zm r2.1 z7 zh zj r2.2.1 r2.2.2 z1s)
 else
 (if (r1 == 93) = true then
 (if (x8 == 0) = true then
 ((Z1c 22 x1 zm z2 z6).bind fun r3 =>
 Z1T x1 x5 x8 zm r3.1 z7 zh zj r3.2.1 r3.2.2 z1s)
 else
 (Z79 x5 zm zn z2 z6 z1s))
 else
 (if (r1 == 91) = true then
 (if (r1 == 91) = true then
 ((Z1c 22 zn zm z2 z6).bind fun r4 =>
 Z1T x1 x5 x8 zm r4.1 z7 zh zj r4.2.1 r4.2.2 z1s)
 else
 (Z5K x1 x5 x8 zn zm zn z7 zh zj z2 z6 z1s))
 else
 (if (r1 == 45) = true then
 ((Z1c 22 zn zm z2 z6).bind fun r5 =>
 Z1T x1 x5 x8 zm r5.1 z7 zh zj r5.2.1 r5.2.2 z1s)
 else
 (Z5K x1 x5 x8 zn zm zn z7 zh zj z2 z6 z1s))))
theorem ZgD x1 x5 x8 zm zn z7 zh zj z2 z6 b1 (z1s : List Z8) zu zd zH zE z1W (zy : ZM zd = true) (z16 : ZM zH = true) (zY : ZM zE = true) : Sim (Z1G zm z7 zh zj zu zd) (Z4P x1 x5 x8 zm zn z7 zh zj z2 z6 z1s) (Zus 1 (.ptr 0 0) (iv x1) (.ptr 1 0) (bv x5) (.ptr 2 0) (.clo 80 [] [(.ptr 2 0)]) (iv x8) [(ZL zm zn z7 zh zj z2 z6 zu zd), (Zl b1 zH zE), [(ZP z1W (z1s.map Zv))]]) := by
 unfold Z4P
 refine zf (ZAG ..)<|ze<|zq<|zq<|zq<|ze<|zi fun r1 hr1 => ?_
 obtain ⟨_, er1, _, rfl⟩ := Z2S (Z1y.mk zm zn z7 zh zj (Z14.mk z2 z6)) zu zd zy r1 hr1
 refine zc [0] (iv r1) [(ZL zm zn z7 zh zj z2 z6 zu zd), (Zl b1 zH zE), [(ZP z1W (z1s.map Zv))]] er1<|ze<|ze<|zq ?_
 refine za (r1 == (-1)) ?_ ?_
 ·refine ze<|zi fun r2 hr2 => ?_
  obtain ⟨_, er2, _, rfl⟩ := Z1h 22 x1 zm zn z7 zh zj z2 z6 zu zd zy r2 hr2
  refine zc [0] (.p (.tup [])) [(ZL zm r2.1 z7 zh zj r2.2.1 r2.2.2 zu zd), (Zl b1 zH zE), [(ZP z1W (z1s.map Zv))]] er2 ?_
  exact zk (Z2O x1 x5 x8 zm r2.1 z7 zh zj r2.2.1 r2.2.2 b1 z1s zu zd zH zE z1W zy z16 zY)
 ·refine ze<|zq ?_
  refine za (r1 == 93) ?_ ?_
  ·refine ze<|zq ?_
   refine za (x8 == 0) ?_ ?_
   ·refine ze<|zi fun r3 hr3 => ?_
    obtain ⟨_, er3, _, rfl⟩ := Z1h 22 x1 zm zn z7 zh zj z2 z6 zu zd zy r3 hr3
    refine zc [0] (.p (.tup [])) [(ZL zm r3.1 z7 zh zj r3.2.1 r3.2.2 zu zd), (Zl b1 zH zE), [(ZP z1W (z1s.map Zv))]] er3 ?_
    exact zk (Z2O x1 x5 x8 zm r3.1 z7 zh zj r3.2.1 r3.2.2 b1 z1s zu zd zH zE z1W zy z16 zY)
   ·exact zk (ZfC x5 zm zn z7 zh zj z2 z6 b1 z1s zu zd zH zE z1W zy z16 zY)
  ·refine ze<|zq ?_
   refine za (r1 == 91) ?_ ?_
   ·refine za (r1 == 91) ?_ ?_
    ·refine ze<|zi fun r4 hr4 => ?_
     obtain ⟨_, er4, _, rfl⟩ := Z1h 22 zn zm zn z7 zh zj z2 z6 zu zd zy r4 hr4
     refine zc [0] (.p (.tup [])) [(ZL zm r4.1 z7 zh zj r4.2.1 r4.2.2 zu zd), (Zl b1 zH zE), [(ZP z1W (z1s.map Zv))]] er4 ?_
     exact zk (Z2O x1 x5 x8 zm r4.1 z7 zh zj r4.2.1 r4.2.2 b1 z1s zu zd zH zE z1W zy z16 zY)
    ·exact zk (ZaT x1 x5 x8 zn zm zn z7 zh zj z2 z6 b1 z1s zu zd zH zE z1W zy z16 zY)
   ·refine ze<|zq ?_
    refine za (r1 == 45) ?_ ?_
    ·refine ze<|zi fun r5 hr5 => ?_
     obtain ⟨_, er5, _, rfl⟩ := Z1h 22 zn zm zn z7 zh zj z2 z6 zu zd zy r5 hr5
     refine zc [0] (.p (.tup [])) [(ZL zm r5.1 z7 zh zj r5.2.1 r5.2.2 zu zd), (Zl b1 zH zE), [(ZP z1W (z1s.map Zv))]] er5 ?_
     exact zk (Z2O x1 x5 x8 zm r5.1 z7 zh zj r5.2.1 r5.2.2 b1 z1s zu zd zH zE z1W zy z16 zY)
    ·exact zk (ZaT x1 x5 x8 zn zm zn z7 zh zj z2 z6 b1 z1s zu zd zH zE z1W zy z16 zY)
def Z9i (zn z2 z6 : Int) : Option (Zk × Int × Int × Int) :=
 some ((Zk.mk 0 0 0 0 0 ([] : List Z8) ([] : List Zk)), zn, z2, z6)
theorem ZfF zm zn z7 zh zj z2 z6 b1 zu zd zH zE (zy : ZM zd = true) (z16 : ZM zH = true) (zY : ZM zE = true) : Sim (Z1G zm z7 zh zj zu zd) (Z9i zn z2 z6) (Zrx 1 (.ptr 1 0) [(ZL zm zn z7 zh zj z2 z6 zu zd), (Zl b1 zH zE)]) := by
 unfold Z9i
 refine zf (Zy1 ..)<|ze<|zq<|zt [(ZL zm zn z7 zh zj z2 z6 zu zd), (Zl Z1B .nl .nl)] ?_
 exact zr ((pA_ (ZI Z1B .sh .sh)), [(ZL zm zn z7 zh zj z2 z6 zu zd), (Zl Z1B .nl .nl)]) ⟨_, rfl⟩
def Z6e (x1 : Int) (x5 : Bool) (x8 : Int) (zm : List Int) (zn z7 zh : Int) (zj : List Zz) (z2 z6 : Int) (z1s : List Z8) : Option (Zk × Int × Int × Int) :=
 if (z2 == 0) = true then
 (Z4P x1 x5 x8 zm zn z7 zh zj z2 z6 z1s)
 else
 (Z9i zn z2 z6)
theorem ZgC x1 x5 x8 zm zn z7 zh zj z2 z6 b1 (z1s : List Z8) zu zd zH zE z1W (zy : ZM zd = true) (z16 : ZM zH = true) (zY : ZM zE = true) : Sim (Z1G zm z7 zh zj zu zd) (Z6e x1 x5 x8 zm zn z7 zh zj z2 z6 z1s) (Zms 1 (.ptr 0 0) (iv x1) (.ptr 1 0) (bv x5) (.ptr 2 0) (.clo 80 [] [(.ptr 2 0)]) (iv x8) [(ZL zm zn z7 zh zj z2 z6 zu zd), (Zl b1 zH zE), [(ZP z1W (z1s.map Zv))]]) := by
 unfold Z6e
 refine zf (ZAE ..)<|ze<|zq<|zq<|zq<|zq<|zq ?_
 refine za (z2 == 0) ?_ ?_
 ·exact zk (ZgD x1 x5 x8 zm zn z7 zh zj z2 z6 b1 z1s zu zd zH zE z1W zy z16 zY)
 ·exact zk (ZfF zm zn z7 zh zj z2 z6 b1 zu zd zH zE zy z16 zY)
theorem Zbt x1 x5 x8 zm zn z7 zh zj z2 z6 z1s {r} (h : Z6e x1 x5 x8 zm zn z7 zh zj z2 z6 z1s = some r) : Z43 x1 x5 x8 zm zn z7 zh zj z2 z6 z1s = some r :=
 Z1i (fun _ _ ha hb => ru_ (Zal _ _ _ _ _ _) (ha default .ex .ex .ex .ex .ex rfl rfl rfl) (hb default .ex .ex .ex .ex .ex rfl rfl rfl)) (fun b1 zu zd zH zE z1W zy z16 zY => ZgC x1 x5 x8 zm zn z7 zh zj z2 z6 b1 z1s zu zd zH zE z1W zy z16 zY r h)
def Z5m (x2 x5 : Int) (zm : List Int) (zn z7 zh : Int) (zj : List Zz) (z2 z6 : Int) : Option (Int × (Own × (List Z8)) × Bool × Int × Int × Int) :=
 (Z7u x2 x5 zm zn z7 zh zj z2 z6).bind fun r1 =>
 some (r1.1, (.nl, ([] : List Z8)), false, r1.2.1, r1.2.2.1, r1.2.2.2)
theorem Zfq x2 x5 zm zn z7 zh zj z2 z6 zu zd (zy : ZM zd = true) : Sim (Z4p zm z7 zh zj zu zd) (Z5m x2 x5 zm zn z7 zh zj z2 z6) (ZrB 1 (.ptr 0 0) (iv x2) (iv x5) [(ZL zm zn z7 zh zj z2 z6 zu zd)]) := by
 unfold Z5m
 refine zf (Zyb ..)<|ze<|zi fun r1 hr1 => ?_
 obtain ⟨_, er1, _, rfl⟩ := Zda x2 x5 zm zn z7 zh zj z2 z6 zu zd zy r1 hr1
 refine zc [0] (iv r1.1) [(ZL zm r1.2.1 z7 zh zj r1.2.2.1 r1.2.2.2 zu zd)] er1 ?_
 exact zr ((.p (.tup [(.v (.int .i64 r1.1)), (.lst .nl []), (.v (.bool false))])), [(ZL zm r1.2.1 z7 zh zj r1.2.2.1 r1.2.2.2 zu zd)]) ⟨_, rfl⟩
def Z7d (x2 x5 : Int) (zm : List Int) (zn z7 zh : Int) (zj : List Zz) (z2 z6 : Int) : Option (Int × (Own × (List Z8)) × Bool × Int × Int × Int) :=
 (Z3k zm zn).bind fun r1 =>
 (Z7G x2).bind fun r2 =>
 (nilO (shrO r2.1) r2.2).bind fun a3 =>
 if (!a3) = true then
 (some (0, ((shrO r2.1), r2.2), (decide (x2 < 97)), r1.2, z2, z6))
 else
 (Z5m x2 x5 zm r1.2 z7 zh zj z2 z6)
theorem ZfK x2 x5 zm zn z7 zh zj z2 z6 zu zd (zy : ZM zd = true) : Sim (Z4p zm z7 zh zj zu zd) (Z7d x2 x5 zm zn z7 zh zj z2 z6) (ZuL 1 (.ptr 0 0) (iv x2) (iv x5) [(ZL zm zn z7 zh zj z2 z6 zu zd)]) := by
 unfold Z7d
 refine zf (ZAX ..)<|ze<|zi fun r1 hr1 => ?_
 obtain ⟨_, er1, _, rfl⟩ := Z3J zm zn z7 zh zj z2 z6 zu zd zy r1 hr1
 refine zc [0] (iv r1.1) [(ZL zm r1.2 z7 zh zj z2 z6 zu zd)] er1<|ze<|zi fun r2 hr2 => ?_
 obtain ⟨_, er2, _, rfl⟩ := Zbk x2 r2 hr2
 refine zc [] (ZP r2.1 (r2.2.map Zv)) [(ZL zm r1.2 z7 zh zj z2 z6 zu zd)] er2<|ze<|zi fun a3 ha3 => zp (bv (!a3)) (et_ (ZlM (P := PP) (t := 27) (c := .slice none 0 0) (e := Zv) (by kernel_rfl) ha3)) ?_
 refine za (!a3) ?_ ?_
 ·refine ze<|zq ?_
  exact zr ((.p (.tup [(.v (.int .i64 0)), (.lst (shrO r2.1) (r2.2.map Zv)), (.v (.bool (decide (x2 < 97))))])), [(ZL zm r1.2 z7 zh zj z2 z6 zu zd)]) ⟨_, rfl⟩
 ·exact zk (Zfq x2 x5 zm r1.2 z7 zh zj z2 z6 zu zd zy)
def Z7c (x5 : Int) (zm : List Int) (zn z7 zh : Int) (zj : List Zz) (z2 z6 : Int) : Option (Int × (Own × (List Z8)) × Bool × Int × Int × Int) :=
 (Z2G (Z1y.mk zm zn z7 zh zj (Z14.mk z2 z6))).bind fun r1 =>
 if (decide (r1 < 0)) = true then
 ((Z1c 21 x5 zm z2 z6).bind fun r2 =>
 some (0, (.nl, ([] : List Z8)), false, r2.1, r2.2.1, r2.2.2))
 else
 (Z7d r1 x5 zm zn z7 zh zj z2 z6)
theorem ZfJ x5 zm zn z7 zh zj z2 z6 zu zd (zy : ZM zd = true) : Sim (Z4p zm z7 zh zj zu zd) (Z7c x5 zm zn z7 zh zj z2 z6) (ZuK 1 (.ptr 0 0) (iv x5) [(ZL zm zn z7 zh zj z2 z6 zu zd)]) := by
 unfold Z7c
 refine zf (ZAW ..)<|ze<|zi fun r1 hr1 => ?_
 obtain ⟨_, er1, _, rfl⟩ := Z2S (Z1y.mk zm zn z7 zh zj (Z14.mk z2 z6)) zu zd zy r1 hr1
 refine zc [0] (iv r1) [(ZL zm zn z7 zh zj z2 z6 zu zd)] er1<|ze<|zq ?_
 refine za (decide (r1 < 0)) ?_ ?_
 ·refine ze<|zi fun r2 hr2 => ?_
  obtain ⟨_, er2, _, rfl⟩ := Z1h 21 x5 zm zn z7 zh zj z2 z6 zu zd zy r2 hr2
  refine zc [0] (.p (.tup [])) [(ZL zm r2.1 z7 zh zj r2.2.1 r2.2.2 zu zd)] er2<|ze ?_
  exact zr ((.p (.tup [(.v (.int .i64 0)), (.lst .nl []), (.v (.bool false))])), [(ZL zm r2.1 z7 zh zj r2.2.1 r2.2.2 zu zd)]) ⟨_, rfl⟩
 ·exact zk (ZfK r1 x5 zm zn z7 zh zj z2 z6 zu zd zy)
def Z6P (zm : List Int) (zn z7 zh : Int) (zj : List Zz) (z2 z6 : Int) : Option (Int × (Own × (List Z8)) × Bool × Int × Int × Int) :=
 (Z3k zm zn).bind fun r1 =>
 if (r1.1 != 92) = true then
 (some (r1.1, (.nl, ([] : List Z8)), false, r1.2, z2, z6))
 else
 (Z7c zn zm r1.2 z7 zh zj z2 z6)
theorem ZhP zm zn z7 zh zj z2 z6 zu zd (zy : ZM zd = true) : Sim (Z4p zm z7 zh zj zu zd) (Z6P zm zn z7 zh zj z2 z6) (EE 81 [(.ptr 0 0)] [(ZL zm zn z7 zh zj z2 z6 zu zd)]) := by
 unfold Z6P
 refine zf (ZGI ..)<|ze<|ze<|zq<|zq<|zq<|ze<|zi fun r1 hr1 => ?_
 obtain ⟨_, er1, _, rfl⟩ := Z3J zm zn z7 zh zj z2 z6 zu zd zy r1 hr1
 refine zc [0] (iv r1.1) [(ZL zm r1.2 z7 zh zj z2 z6 zu zd)] er1<|ze<|zq ?_
 refine za (r1.1 != 92) ?_ ?_
 ·refine ze ?_
  exact zr ((.p (.tup [(.v (.int .i64 r1.1)), (.lst .nl []), (.v (.bool false))])), [(ZL zm r1.2 z7 zh zj z2 z6 zu zd)]) ⟨_, rfl⟩
 ·exact zk (ZfJ zn zm r1.2 z7 zh zj z2 z6 zu zd zy)
theorem Zce zm zn z7 zh zj z2 z6 {r} (h : Z6P zm zn z7 zh zj z2 z6 = some r) : Z5D zm zn z7 zh zj z2 z6 = some r :=
 Z1i (fun _ _ ha hb => ru_ (ZiT _ _ _ _ _ _) (ha .ex .ex rfl) (hb .ex .ex rfl)) (fun zu zd zy => ZhP zm zn z7 zh zj z2 z6 zu zd zy r h)
end Go.Proofs.YtocikhhkicahoaaDoor.N2
end
