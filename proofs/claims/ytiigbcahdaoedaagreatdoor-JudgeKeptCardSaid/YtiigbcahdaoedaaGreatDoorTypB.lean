/- The functions' typed texts. No condition. -/
import Derived.Test.YtiigbcahdaoedaaGreatDoorTypA

set_option linter.unusedSimpArgs false
set_option linter.unusedVariables false
set_option linter.defProp false
noncomputable section
namespace Go.Proofs.YtiigbcahdaoedaaGreatDoor.N2
open Go Go.Abs
set_option maxRecDepth 100000
def Zcs (x0 : List Z0) : Option (Int × Int × Bool) :=
 (Z7o x0).bind fun r1 =>
 Z8q r1 0 0 r1 (r1.length : Int) 0
theorem ZmZ (x0 : List Z0) ox0 : Sim Z1Q (Zcs x0) (EE 12 [(Zm ox0 (x0.map Z6))] []) := by
 unfold Zcs
 refine zf (ZDk ..)<|ze<|ze<|zi fun r1 hr1 => ?_
 obtain ⟨_, er1, _, rfl⟩ := Z8t x0 .sh r1 hr1
 refine zc [] (Zm .sh (r1.map Z6)) [] er1<|ze<|zp (iv (r1.length : Int)) (et_ (Z14 (P := PP) (t := 22) (d := 39) (by kernel_rfl) Z6 .sh r1)) ?_
 exact zk (Zew r1 0 0 r1 (r1.length : Int) 0 .sh .sh)
theorem Znz x0 {r} (h : Zcs x0 = some r) : Z2S x0 = some r :=
 ZR (fun _ _ ha hb => ru_ Zdm (ha .ex) (hb .ex)) (fun ox0 => ZmZ x0 ox0 r h)
def Za3 (x0 : List Z0) (x2 x3 : Int) (x11 : List Z0) (x12 x13 : Int) : Option (Int × Int × Bool) :=
 (lget x11 x13).bind fun a1 =>
 (lsl x0 0 x13).bind fun a2 =>
 Z8r x0 x2 x3 x13 x11 x12 x13 a2 (a2.length : Int) 0 a1
theorem ZjS (x0 : List Z0) x2 x3 (x11 : List Z0) x12 x13 ox0 ox11 : Sim Z1Q (Za3 x0 x2 x3 x11 x12 x13) (Zrw 0 (Zm ox0 (x0.map Z6)) (iv x2) (iv x3) (Zm ox11 (x11.map Z6)) (iv x12) (iv x13) []) := by
 unfold Za3
 refine zf (ZxO ..)<|ze<|zi fun a1 ha1 => zp (.cptr (Zi a1 .sh)) (et_ (Z1i (o := ox11) (k := .i64) (n := 5) (e := Z6) (cs := Z27) (fun _ => rfl) (fun _ => rfl) (by decide) ha1))<|zq<|zz (.ptr 0 0) [(Z1 Zef .nl)]<|zt [(Z1 a1 .sh)]<|ze<|zi fun a2 ha2 => zp (Zm (slO (shrO ox0)) (a2.map Z6)) (Eq.trans (by kernel_rfl) <| Z9n (n := 5) (o := (shrO ox0)) (lo := none) (hi := (some (iv x13))) (e := Z6) (fun _ => rfl) (by decide) (by kernel_rfl) (by kernel_rfl) ha2)<|zp (iv (a2.length : Int)) (et_ (Z14 (P := PP) (t := 22) (d := 39) (by kernel_rfl) Z6 (slO (shrO ox0)) a2)) ?_
 exact zk (Zey x0 x2 x3 x13 x11 x12 x13 a2 (a2.length : Int) 0 a1 ox0 ox11 (slO (shrO ox0)) .sh)
def Z5X (x2 x3 : Int) : Option (Int × Int × Bool) :=
 some (x2, x3, (x3 == 0))
theorem Zd1 x2 x3 : Sim Z1Q (Z5X x2 x3) (ZmD 0 (iv x2) (iv x3) []) := by
 unfold Z5X
 refine zf (ZvW ..)<|ze<|zq ?_
 exact zr ((.p (.tup [(.v (.int .i64 x2)), (.v (.int .i64 x3)), (.v (.bool (x3 == 0)))])), []) ⟨_, rfl⟩
def Z8f (x0 : List Z0) (x2 x3 : Int) (x11 : List Z0) (x12 x13 : Int) : Option (Int × Int × Bool) :=
 if (decide (x13 < x12)) = true then
 (Za3 x0 x2 x3 x11 x12 x13)
 else
 (Z5X x2 x3)
theorem ZjQ (x0 : List Z0) x2 x3 (x11 : List Z0) x12 x13 ox0 ox11 : Sim Z1Q (Z8f x0 x2 x3 x11 x12 x13) (Zl0 0 (Zm ox0 (x0.map Z6)) (iv x2) (iv x3) (Zm ox11 (x11.map Z6)) (iv x12) (iv x13) []) := by
 unfold Z8f
 refine zf (ZxM ..)<|ze<|zq ?_
 refine za (decide (x13 < x12)) ?_ ?_
 ·exact zk (ZjS x0 x2 x3 x11 x12 x13 ox0 ox11)
 ·exact zk (Zd1 x2 x3)
theorem Zev x0 x2 x3 x11 x12 x13 {r} (h : Z8f x0 x2 x3 x11 x12 x13 = some r) : Z8q x0 x2 x3 x11 x12 x13 = some r :=
 ZR (fun _ _ ha hb => ru_ Zdm (ha .ex .ex) (hb .ex .ex)) (fun ox0 ox11 => ZjQ x0 x2 x3 x11 x12 x13 ox0 ox11 r h)
def Z9A (x0 : List Z0) (x2 x3 x5 : Int) (x11 : List Z0) (x12 x13 : Int) (x20 : List Z0) (x21 x22 : Int) (b0 : Z0) : Option (Int × Int × Bool) :=
 Z8r x0 x2 x3 x5 x11 x12 x13 x20 x21 (IntKind.i64.wrap (x22 + 1)) b0
theorem Zj7 (x0 : List Z0) x2 x3 x5 (x11 : List Z0) x12 x13 (x20 : List Z0) x21 x22 b0 ox0 ox11 ox20 z5 : Sim Z1Q (Z9A x0 x2 x3 x5 x11 x12 x13 x20 x21 x22 b0) (ZpY 0 (Zm ox0 (x0.map Z6)) (iv x2) (iv x3) (iv x5) (.ptr 0 0) (Zm ox11 (x11.map Z6)) (iv x12) (iv x13) (Zm ox20 (x20.map Z6)) (iv x21) (iv x22) [(Z1 b0 z5)]) := by
 unfold Z9A
 refine zf (ZvU ..)<|ze<|zq ?_
 exact zk (Zey x0 x2 x3 x5 x11 x12 x13 x20 x21 (IntKind.i64.wrap (x22 + 1)) b0 ox0 ox11 ox20 z5)
def Za5 (x5 x7 : Int) : Option (Int × Int × Bool) :=
 Z5X x7 x5
theorem ZjU x5 x7 : Sim Z1Q (Za5 x5 x7) (Zry 0 (iv x5) (iv x7) []) := by
 unfold Za5
 refine zf (ZxQ ..)<|ze ?_
 exact zk (Zd1 x7 x5)
def Za4 (x0 : List Z0) (x2 x3 x5 : Int) (x11 : List Z0) (x12 x13 : Int) (x20 : List Z0) (x21 x22 : Int) (b0 : Z0) : Option (Int × Int × Bool) :=
 (lget x20 x22).bind fun a1 =>
 (Z74 a1).bind fun r2 =>
 (Z74 b0).bind fun r3 =>
 (Z9Q r2 r3).bind fun r4 =>
 if r4 = true then
 (Z9A x0 x2 x3 x5 x11 x12 x13 x20 x21 x22 b0)
 else
 (Za5 x5 x22)
theorem ZjT (x0 : List Z0) x2 x3 x5 (x11 : List Z0) x12 x13 (x20 : List Z0) x21 x22 b0 ox0 ox11 ox20 z5 : Sim Z1Q (Za4 x0 x2 x3 x5 x11 x12 x13 x20 x21 x22 b0) (Zrx 0 (Zm ox0 (x0.map Z6)) (iv x2) (iv x3) (iv x5) (.ptr 0 0) (Zm ox11 (x11.map Z6)) (iv x12) (iv x13) (Zm ox20 (x20.map Z6)) (iv x21) (iv x22) [(Z1 b0 z5)]) := by
 unfold Za4
 refine zf (ZxP ..)<|ze<|zi fun a1 ha1 => zp (.cptr (Zi a1 .sh)) (et_ (Z1i (o := ox20) (k := .i64) (n := 5) (e := Z6) (cs := Z27) (fun _ => rfl) (fun _ => rfl) (by decide) ha1))<|zq<|zz (.ptr 1 0) [(Z1 b0 z5), (Z1 Zef .nl)]<|zt [(Z1 b0 z5), (Z1 a1 .sh)]<|ze<|zq<|zi fun r2 hr2 => ?_
 obtain ⟨_, er2, _, rfl⟩ := Z9g a1 .sh r2 hr2
 refine zc [] (Zm .sh (r2.map Z7)) [(Z1 b0 z5), (Z1 a1 .sh)] er2<|zq<|zi fun r3 hr3 => ?_
 obtain ⟨_, er3, _, rfl⟩ := Z9g b0 .sh r3 hr3
 refine zc [] (Zm .sh (r3.map Z7)) [(Z1 b0 z5), (Z1 a1 .sh)] er3<|zi fun r4 hr4 => ?_
 obtain ⟨_, er4, _, rfl⟩ := Zgt r2 r3 .sh .sh r4 hr4
 refine zc [] (bv r4) [(Z1 b0 z5), (Z1 a1 .sh)] er4<|zg ?_
 refine za r4 ?_ ?_
 ·exact zk (Zj7 x0 x2 x3 x5 x11 x12 x13 x20 x21 x22 b0 ox0 ox11 ox20 z5)
 ·exact zk (ZjU x5 x22)
def Z5W (x0 : List Z0) (x2 x3 : Int) (x11 : List Z0) (x12 x13 : Int) : Option (Int × Int × Bool) :=
 Z8q x0 x2 x3 x11 x12 (IntKind.i64.wrap (x13 + 1))
theorem Zj8 (x0 : List Z0) x2 x3 (x11 : List Z0) x12 x13 ox0 ox11 : Sim Z1Q (Z5W x0 x2 x3 x11 x12 x13) (ZpZ 0 (Zm ox0 (x0.map Z6)) (iv x2) (iv x3) (Zm ox11 (x11.map Z6)) (iv x12) (iv x13) []) := by
 unfold Z5W
 refine zf (ZvV ..)<|ze<|zq ?_
 exact zk (Zew x0 x2 x3 x11 x12 (IntKind.i64.wrap (x13 + 1)) ox0 ox11)
def Z8g (x0 : List Z0) (x2 x3 x5 : Int) (x11 : List Z0) (x12 x13 : Int) (x20 : List Z0) (x21 x22 : Int) (b0 : Z0) : Option (Int × Int × Bool) :=
 if (decide (x22 < x21)) = true then
 (Za4 x0 x2 x3 x5 x11 x12 x13 x20 x21 x22 b0)
 else
 (Z5W x0 x2 x3 x11 x12 x13)
theorem ZjR (x0 : List Z0) x2 x3 x5 (x11 : List Z0) x12 x13 (x20 : List Z0) x21 x22 b0 ox0 ox11 ox20 z5 : Sim Z1Q (Z8g x0 x2 x3 x5 x11 x12 x13 x20 x21 x22 b0) (Zl1 0 (Zm ox0 (x0.map Z6)) (iv x2) (iv x3) (iv x5) (.ptr 0 0) (Zm ox11 (x11.map Z6)) (iv x12) (iv x13) (Zm ox20 (x20.map Z6)) (iv x21) (iv x22) [(Z1 b0 z5)]) := by
 unfold Z8g
 refine zf (ZxN ..)<|ze<|zq ?_
 refine za (decide (x22 < x21)) ?_ ?_
 ·exact zk (ZjT x0 x2 x3 x5 x11 x12 x13 x20 x21 x22 b0 ox0 ox11 ox20 z5)
 ·exact zk (Zj8 x0 x2 x3 x11 x12 x13 ox0 ox11)
theorem Zex x0 x2 x3 x5 x11 x12 x13 x20 x21 x22 b0 {r} (h : Z8g x0 x2 x3 x5 x11 x12 x13 x20 x21 x22 b0 = some r) : Z8r x0 x2 x3 x5 x11 x12 x13 x20 x21 x22 b0 = some r :=
 ZR (fun _ _ ha hb => ru_ Zdm (ha .ex .ex .ex .ex) (hb .ex .ex .ex .ex)) (fun ox0 ox11 ox20 z5 => ZjR x0 x2 x3 x5 x11 x12 x13 x20 x21 x22 b0 ox0 ox11 ox20 z5 r h)
def Zct (x0 : List Z0) : Option (List Z0) :=
 Z8s ([] : List Z0) x0 (x0.length : Int) 0
theorem Zn2 (x0 : List Z0) ox0 : Sim Z3q (Zct x0) (EE 28 [(Zm ox0 (x0.map Z6))] []) := by
 unfold Zct
 refine zf (ZDU ..)<|ze<|ze<|ze<|zp (iv (x0.length : Int)) (et_ (Z14 (P := PP) (t := 22) (d := 39) (by kernel_rfl) Z6 (shrO ox0) x0)) ?_
 exact zk (ZeA ([] : List Z0) x0 (x0.length : Int) 0 .nl (shrO ox0) rfl)
theorem ZnD x0 {r} (h : Zct x0 = some r) : Z7o x0 = some r :=
 ZR (fun _ _ ha hb => ru_ ZhT (ha .ex) (hb .ex)) (fun ox0 => Zn2 x0 ox0 r h)
def Z6r (x3 x6 : List Z0) (x7 x8 : Int) : Option (List Z0) :=
 Z8s x3 x6 x7 (IntKind.i64.wrap (x8 + 1))
theorem ZdN (x3 x6 : List Z0) x7 x8 ox3 ox6 (hox3 : Z1e ox3 = true) : Sim Z3q (Z6r x3 x6 x7 x8) (Zsi 0 (Zm ox3 (x3.map Z6)) (Zm ox6 (x6.map Z6)) (iv x7) (iv x8) []) := by
 unfold Z6r
 refine zf (Zyr ..)<|ze<|zq ?_
 exact zk (ZeA x3 x6 x7 (IntKind.i64.wrap (x8 + 1)) ox3 ox6 hox3)
def Za9 (x3 x6 : List Z0) (x7 x8 : Int) (b0 : Z0) : Option (List Z0) :=
 (lapp x3 ([b0] : List Z0)).bind fun a1 =>
 Z6r a1 x6 x7 x8
theorem ZjZ (x3 x6 : List Z0) x7 x8 b0 ox3 ox6 z5 (hox3 : Z1e ox3 = true) (zBv : Z1e z5 = true) : Sim Z3q (Za9 x3 x6 x7 x8 b0) (Zlm 0 (Zm ox3 (x3.map Z6)) (.ptr 0 0) (Zm ox6 (x6.map Z6)) (iv x7) (iv x8) [(Z1 b0 z5)]) := by
 unfold Za9
 refine zf (ZqR ..)<|ze<|zq<|zq<|zi fun a1 ha1 => zp (Zm .un (a1.map Z6)) (Eq.trans (by kernel_rfl) <| Z4E (n := 5) (o := ox3) (o' := .ex) (e := Z6) (ys := ([b0] : List Z0)) (fun _ => rfl) (by decide) hox3 ha1) ?_
 exact zk (ZdN a1 x6 x7 x8 .un ox6 rfl)
def Z91 (x3 x6 : List Z0) (x7 x8 : Int) (b0 : Z0) : Option (List Z0) :=
 (lapp x3 ([b0] : List Z0)).bind fun a1 =>
 Z6r a1 x6 x7 x8
theorem Zik (x3 x6 : List Z0) x7 x8 b0 ox3 ox6 z5 (hox3 : Z1e ox3 = true) : Sim Z3q (Z91 x3 x6 x7 x8 b0) (Zlm 0 (Zm ox3 (x3.map Z6)) (.ptr 0 0) (Zm ox6 (x6.map Z6)) (iv x7) (iv x8) [(Z1 b0 z5)]) := by
 unfold Z91
 refine zf (ZqR ..)<|ze<|zq<|zq<|zi fun a1 ha1 => zp (Zm .un (a1.map Z6)) (Eq.trans (by kernel_rfl) <| Z4E (n := 5) (o := ox3) (o' := .ex) (e := Z6) (ys := ([b0] : List Z0)) (fun _ => rfl) (by decide) hox3 ha1) ?_
 exact zk (ZdN a1 x6 x7 x8 .un ox6 rfl)
def Za8 (x3 x6 : List Z0) (x7 x8 : Int) : Option (List Z0) :=
 (lget x6 x8).bind fun a1 =>
 (Z1K a1).bind fun r2 =>
 if (!r2) = true then
 (Za9 x3 x6 x7 x8 (Z0.mk 0 0 0 0 ([] : List Z3)))
 else
 (Z91 x3 x6 x7 x8 a1)
theorem ZjY (x3 x6 : List Z0) x7 x8 ox3 ox6 (hox3 : Z1e ox3 = true) : Sim Z3q (Za8 x3 x6 x7 x8) (Zsh 0 (Zm ox3 (x3.map Z6)) (Zm ox6 (x6.map Z6)) (iv x7) (iv x8) []) := by
 unfold Za8
 refine zf (Zyq ..)<|ze<|zi fun a1 ha1 => zp (.cptr (Zi a1 .sh)) (et_ (Z1i (o := ox6) (k := .i64) (n := 5) (e := Z6) (cs := Z27) (fun _ => rfl) (fun _ => rfl) (by decide) ha1))<|zq<|zz (.ptr 0 0) [(Z1 Zef .nl)]<|zt [(Z1 a1 .sh)]<|ze<|zq<|zi fun r2 hr2 => ?_
 obtain ⟨_, er2, _, rfl⟩ := Z4J a1 .sh r2 hr2
 refine zc [] (bv r2) [(Z1 a1 .sh)] er2<|zq ?_
 refine za (!r2) ?_ ?_
 ·refine ze<|zq<|zt [(Z1 Zef .nl)] ?_
  exact zk (ZjZ x3 x6 x7 x8 Zef ox3 ox6 .nl hox3 rfl)
 ·exact zk (Zik x3 x6 x7 x8 a1 ox3 ox6 .sh hox3)
def Zaa (x3 : List Z0) : Option (List Z0) :=
 some x3
theorem Zk0 (x3 : List Z0) ox3 (hox3 : Z1e ox3 = true) : Sim Z3q (Zaa x3) (Zsj 0 (Zm ox3 (x3.map Z6)) []) := by
 unfold Zaa
 refine zf (Zys ..)<|ze ?_
 exact zr ((Zm .sh (x3.map Z6)), []) ⟨_, rfl⟩
def Z8h (x3 x6 : List Z0) (x7 x8 : Int) : Option (List Z0) :=
 if (decide (x8 < x7)) = true then
 (Za8 x3 x6 x7 x8)
 else
 (Zaa x3)
theorem ZjX (x3 x6 : List Z0) x7 x8 ox3 ox6 (hox3 : Z1e ox3 = true) : Sim Z3q (Z8h x3 x6 x7 x8) (Zll 0 (Zm ox3 (x3.map Z6)) (Zm ox6 (x6.map Z6)) (iv x7) (iv x8) []) := by
 unfold Z8h
 refine zf (Zyp ..)<|ze<|zq ?_
 refine za (decide (x8 < x7)) ?_ ?_
 ·exact zk (ZjY x3 x6 x7 x8 ox3 ox6 hox3)
 ·exact zk (Zk0 x3 ox3 hox3)
theorem Zez x3 x6 x7 x8 {r} (h : Z8h x3 x6 x7 x8 = some r) : Z8s x3 x6 x7 x8 = some r :=
 ZR (fun _ _ ha hb => ru_ ZhT (ha .ex .ex rfl) (hb .ex .ex rfl)) (fun ox3 ox6 hox3 => ZjX x3 x6 x7 x8 ox3 ox6 hox3 r h)
def Z7M (x0 : Z0) : Option Bool :=
 if (decide (0 ≤ x0.View)) = true then
 (if (decide (x0.View ≤ 1099511627776)) = true then
 (if (decide (0 ≤ x0.Normal)) = true then
 (if (decide (x0.Normal ≤ x0.View)) = true then
 (if (decide ((x0.Log.length : Int) ≤ 64)) = true then
 (if (decide (0 ≤ x0.Commit)) = true then
 (if (decide (x0.Commit ≤ (x0.Log.length : Int))) = true then
 (if (decide (0 ≤ x0.Active)) = true then
 (if (decide (x0.Active ≤ 64)) = true then
 ((Z3D x0.Log).bind fun r1 =>
 some (!r1))
 else
 (some false))
 else
 (some false))
 else
 (some false))
 else
 (some false))
 else
 (some false))
 else
 (some false))
 else
 (some false))
 else
 (some false))
 else
 (some false)
theorem Zhb x0 zn : Sim Zd (Z7M x0) (EE 23 [(pA_ (Zi x0 zn))] []) := by
 unfold Z7M
 refine zf (ZDM ..)<|ze<|zx (.ptr 0 0) [(Z1 x0 zn)]<|ze<|zq<|zq<|zq ?_
 refine za (decide (0 ≤ x0.View)) ?_ ?_
 ·refine zq<|zq<|zq ?_
  refine za (decide (x0.View ≤ 1099511627776)) ?_ ?_
  ·refine zq<|zq<|zq ?_
   refine za (decide (0 ≤ x0.Normal)) ?_ ?_
   ·refine zq<|zq<|zq<|zq<|zq ?_
    refine za (decide (x0.Normal ≤ x0.View)) ?_ ?_
    ·refine zq<|zq<|zp (iv (x0.Log.length : Int)) (et_ (Z14 (P := PP) (t := 37) (d := 81) (by kernel_rfl) Z7 (shrO zn) x0.Log))<|zq ?_
     refine za (decide ((x0.Log.length : Int) ≤ 64)) ?_ ?_
     ·refine zq<|zq<|zq ?_
      refine za (decide (0 ≤ x0.Commit)) ?_ ?_
      ·refine zq<|zq<|zq<|zq<|zp (iv (x0.Log.length : Int)) (et_ (Z14 (P := PP) (t := 37) (d := 81) (by kernel_rfl) Z7 (shrO zn) x0.Log))<|zq ?_
       refine za (decide (x0.Commit ≤ (x0.Log.length : Int))) ?_ ?_
       ·refine zq<|zq<|zq ?_
        refine za (decide (0 ≤ x0.Active)) ?_ ?_
        ·refine zq<|zq<|zq ?_
         refine za (decide (x0.Active ≤ 64)) ?_ ?_
         ·refine zq<|zq<|zi fun r1 hr1 => ?_
          obtain ⟨_, er1, _, rfl⟩ := ZbS x0.Log .sh r1 hr1
          refine zc [] (bv r1) [(Z1 x0 zn)] er1<|zq ?_
          exact zr ((bv (!r1)), [(Z1 x0 zn)]) ⟨_, rfl⟩
         ·exact zr ((bv false), [(Z1 x0 zn)]) ⟨_, rfl⟩
        ·exact zr ((bv false), [(Z1 x0 zn)]) ⟨_, rfl⟩
       ·exact zr ((bv false), [(Z1 x0 zn)]) ⟨_, rfl⟩
      ·exact zr ((bv false), [(Z1 x0 zn)]) ⟨_, rfl⟩
     ·exact zr ((bv false), [(Z1 x0 zn)]) ⟨_, rfl⟩
    ·exact zr ((bv false), [(Z1 x0 zn)]) ⟨_, rfl⟩
   ·exact zr ((bv false), [(Z1 x0 zn)]) ⟨_, rfl⟩
  ·exact zr ((bv false), [(Z1 x0 zn)]) ⟨_, rfl⟩
 ·exact zr ((bv false), [(Z1 x0 zn)]) ⟨_, rfl⟩
theorem ZhG x0 {r} (h : Z7M x0 = some r) : Z1K x0 = some r :=
 ZR (fun _ _ ha hb => ru_ ZZ (ha .ex) (hb .ex)) (fun zn => Zhb x0 zn r h)
def Z3x (x0 : List Z3) : Option Bool :=
 (Z4D x0).bind fun r1 =>
 some (decide (0 ≤ r1))
theorem Zbo (x0 : List Z3) ox0 : Sim Zd (Z3x x0) (EE 42 [(Zm ox0 (x0.map Z7)), (.clo 43 [] [])] []) := by
 unfold Z3x
 refine zf (ZEd ..)<|ze<|ze<|zi fun r1 hr1 => ?_
 obtain ⟨_, er1, _, rfl⟩ := Zdk x0 .sh r1 hr1
 refine zc [] (iv r1) [] er1<|zq ?_
 exact zr ((bv (decide (0 ≤ r1))), []) ⟨_, rfl⟩
theorem ZbR x0 {r} (h : Z3x x0 = some r) : Z3D x0 = some r :=
 ZR (fun _ _ ha hb => ru_ ZZ (ha .ex) (hb .ex)) (fun ox0 => Zbo x0 ox0 r h)
def Z4x (x0 : List Z3) : Option Int :=
 Z2L x0 (x0.length : Int) 0
theorem ZcS (x0 : List Z3) ox0 : Sim Zk (Z4x x0) (EE 59 [(Zm ox0 (x0.map Z7)), (.clo 43 [] [])] []) := by
 unfold Z4x
 refine zf (ZEI ..)<|ze<|ze<|zp (iv (x0.length : Int)) (et_ (Z14 (P := PP) (t := 37) (d := 81) (by kernel_rfl) Z7 (shrO ox0) x0)) ?_
 exact zk (Z7G x0 (x0.length : Int) 0 ox0)
theorem Zdj x0 {r} (h : Z4x x0 = some r) : Z4D x0 = some r :=
 ZR (fun _ _ ha hb => ru_ Z1c (ha .ex) (hb .ex)) (fun ox0 => ZcS x0 ox0 r h)
def Z3B (x0 : List Z3) (x7 x8 : Int) : Option Int :=
 Z2L x0 x7 (IntKind.i64.wrap (x8 + 1))
theorem Zbv (x0 : List Z3) x7 x8 ox0 : Sim Zk (Z3B x0 x7 x8) (Ztl 0 (Zm ox0 (x0.map Z7)) (.clo 43 [] []) (iv x7) (iv x8) []) := by
 unfold Z3B
 refine zf (Zzw ..)<|ze<|zq ?_
 exact zk (Z7G x0 x7 (IntKind.i64.wrap (x8 + 1)) ox0)
def Z2J (x0 : List Z3) (x7 x8 : Int) : Option Int :=
 (lget x0 x8).bind fun a1 =>
 (Z6S a1).bind fun r2 =>
 if r2 = true then
 (some x8)
 else
 (Z3B x0 x7 x8)
theorem Zbu (x0 : List Z3) x7 x8 ox0 : Sim Zk (Z2J x0 x7 x8) (Ztk 0 (Zm ox0 (x0.map Z7)) (.clo 43 [] []) (iv x7) (iv x8) []) := by
 unfold Z2J
 refine zf (Zzv ..)<|ze<|ze<|zi fun a1 ha1 => zp (.cptr (Z1f a1 .sh .sh)) (et_ (Z1i (o := (shrO ox0)) (k := .i64) (n := 9) (e := Z7) (cs := Z36) (fun _ => rfl) (fun _ => rfl) (by decide) ha1))<|zq<|zi fun r2 hr2 => ?_
 obtain ⟨_, er2, _, rfl⟩ := ZgH a1 .sh .sh r2 hr2
 refine zv [] (bv r2) [] er2 ?_
 refine za r2 ?_ ?_
 ·refine ze ?_
  exact zr ((iv x8), []) ⟨_, rfl⟩
 ·exact zk (Zbv x0 x7 x8 ox0)
def Z5E : Option Int :=
 some (-1)
theorem Zbw : Sim Zk Z5E (Ztm 0 []) := by
 unfold Z5E
 refine zf (Zzx ..)<|ze ?_
 exact zr ((iv (-1)), []) ⟨_, rfl⟩
def Z2f (x0 : List Z3) (x7 x8 : Int) : Option Int :=
 if (decide (x8 < x7)) = true then
 (Z2J x0 x7 x8)
 else
 Z5E
theorem Zbt (x0 : List Z3) x7 x8 ox0 : Sim Zk (Z2f x0 x7 x8) (ZlG 0 (Zm ox0 (x0.map Z7)) (.clo 43 [] []) (iv x7) (iv x8) []) := by
 unfold Z2f
 refine zf (Zzu ..)<|ze<|zq ?_
 refine za (decide (x8 < x7)) ?_ ?_
 ·exact zk (Zbu x0 x7 x8 ox0)
 ·exact zk Zbw
theorem Z4L x0 x7 x8 {r} (h : Z2f x0 x7 x8 = some r) : Z2L x0 x7 x8 = some r :=
 ZR (fun _ _ ha hb => ru_ Z1c (ha .ex) (hb .ex)) (fun ox0 => Zbt x0 x7 x8 ox0 r h)
def Z6D (x0 : Z3) : Option Bool :=
 (Z9h x0).bind fun r1 =>
 some (!r1)
theorem Zg7 x0 zj zh : Sim Zd (Z6D x0) (EE 43 [(pA_ (Z1f x0 zj zh))] []) := by
 unfold Z6D
 refine zf (ZEe ..)<|ze<|zx (.ptr 0 0) [(ZE x0 zj zh)]<|ze<|zq<|zi fun r1 hr1 => ?_
 obtain ⟨_, er1, _, rfl⟩ := Zje x0 .sh .sh r1 hr1
 refine zc [] (bv r1) [(ZE x0 zj zh)] er1<|zq ?_
 exact zr ((bv (!r1)), [(ZE x0 zj zh)]) ⟨_, rfl⟩
theorem ZgG x0 {r} (h : Z6D x0 = some r) : Z6S x0 = some r :=
 ZR (fun _ _ ha hb => ru_ ZZ (ha .ex .ex) (hb .ex .ex)) (fun zj zh => Zg7 x0 zj zh r h)
def Z94 (x0 : Z3) : Option Bool :=
 (Z3t x0.View 0).bind fun r1 =>
 if r1 = true then
 ((Z3t x0.Client 1).bind fun r2 =>
 if r2 = true then
 ((Z3t x0.Request 1).bind fun r3 =>
 if r3 = true then
 ((Z3t x0.Delta.Default (-1)).bind fun r4 =>
 if r4 = true then
 ((Z3t x0.Delta.Closed (-1)).bind fun r5 =>
 if r5 = true then
 ((Z3t x0.Delta.Fuel (-1)).bind fun r6 =>
 if r6 = true then
 ((Z3t x0.Delta.Stack (-1)).bind fun r7 =>
 if r7 = true then
 (if (decide ((x0.Delta.Put.length : Int) ≤ 16)) = true then
 (if (decide ((x0.Delta.Drop.length : Int) ≤ 16)) = true then
 ((Z3Y x0.Delta.Put).bind fun r8 =>
 if (!r8) = true then
 ((Z4b x0.Delta.Drop).bind fun r9 =>
 some (!r9))
 else
 (some false))
 else
 (some false))
 else
 (some false))
 else
 (some false))
 else
 (some false))
 else
 (some false))
 else
 (some false))
 else
 (some false))
 else
 (some false))
 else
 (some false)
theorem Zio x0 zj zh : Sim Zd (Z94 x0) (EE 44 [(pA_ (Z1f x0 zj zh))] []) := by
 unfold Z94
 refine zf (ZEf ..)<|ze<|zx (.ptr 0 0) [(ZE x0 zj zh)]<|ze<|zq<|zq<|zz (.ptr 1 0) [(ZE x0 zj zh), (ZH ZuE .nl .nl)]<|zt [(ZE x0 zj zh), (ZH x0.Delta (shrO zj) (shrO zh))]<|ze<|zq<|zq<|zi fun r1 hr1 => ?_
 obtain ⟨_, er1, _, rfl⟩ := Z4h x0.View 0 r1 hr1
 refine zc [] (bv r1) [(ZE x0 zj zh), (ZH x0.Delta (shrO zj) (shrO zh))] er1 ?_
 refine za r1 ?_ ?_
 ·refine zq<|zq<|zi fun r2 hr2 => ?_
  obtain ⟨_, er2, _, rfl⟩ := Z4h x0.Client 1 r2 hr2
  refine zc [] (bv r2) [(ZE x0 zj zh), (ZH x0.Delta (shrO zj) (shrO zh))] er2 ?_
  refine za r2 ?_ ?_
  ·refine zq<|zq<|zi fun r3 hr3 => ?_
   obtain ⟨_, er3, _, rfl⟩ := Z4h x0.Request 1 r3 hr3
   refine zc [] (bv r3) [(ZE x0 zj zh), (ZH x0.Delta (shrO zj) (shrO zh))] er3 ?_
   refine za r3 ?_ ?_
   ·refine zq<|zq<|zi fun r4 hr4 => ?_
    obtain ⟨_, er4, _, rfl⟩ := Z4h x0.Delta.Default (-1) r4 hr4
    refine zc [] (bv r4) [(ZE x0 zj zh), (ZH x0.Delta (shrO zj) (shrO zh))] er4 ?_
    refine za r4 ?_ ?_
    ·refine zq<|zq<|zi fun r5 hr5 => ?_
     obtain ⟨_, er5, _, rfl⟩ := Z4h x0.Delta.Closed (-1) r5 hr5
     refine zc [] (bv r5) [(ZE x0 zj zh), (ZH x0.Delta (shrO zj) (shrO zh))] er5 ?_
     refine za r5 ?_ ?_
     ·refine zq<|zq<|zi fun r6 hr6 => ?_
      obtain ⟨_, er6, _, rfl⟩ := Z4h x0.Delta.Fuel (-1) r6 hr6
      refine zc [] (bv r6) [(ZE x0 zj zh), (ZH x0.Delta (shrO zj) (shrO zh))] er6 ?_
      refine za r6 ?_ ?_
      ·refine zq<|zq<|zi fun r7 hr7 => ?_
       obtain ⟨_, er7, _, rfl⟩ := Z4h x0.Delta.Stack (-1) r7 hr7
       refine zc [] (bv r7) [(ZE x0 zj zh), (ZH x0.Delta (shrO zj) (shrO zh))] er7 ?_
       refine za r7 ?_ ?_
       ·refine zq<|zq<|zp (iv (x0.Delta.Put.length : Int)) (et_ (Z14 (P := PP) (t := 49) (d := 104) (by kernel_rfl) Z8 (shrO (shrO zj)) x0.Delta.Put))<|zq ?_
        refine za (decide ((x0.Delta.Put.length : Int) ≤ 16)) ?_ ?_
        ·refine zq<|zq<|zp (iv (x0.Delta.Drop.length : Int)) (et_ (Z14 (P := PP) (t := 77) (d := 3) (by kernel_rfl) (eI .i64) (shrO (shrO zh)) x0.Delta.Drop))<|zq ?_
         refine za (decide ((x0.Delta.Drop.length : Int) ≤ 16)) ?_ ?_
         ·refine zq<|zq<|zi fun r8 hr8 => ?_
          obtain ⟨_, er8, _, rfl⟩ := Zci x0.Delta.Put .sh r8 hr8
          refine zc [] (bv r8) [(ZE x0 zj zh), (ZH x0.Delta (shrO zj) (shrO zh))] er8<|zq ?_
          refine za (!r8) ?_ ?_
          ·refine zq<|zq<|zi fun r9 hr9 => ?_
           obtain ⟨_, er9, _, rfl⟩ := ZcQ x0.Delta.Drop .sh r9 hr9
           refine zc [] (bv r9) [(ZE x0 zj zh), (ZH x0.Delta (shrO zj) (shrO zh))] er9<|zq ?_
           exact zr ((bv (!r9)), [(ZE x0 zj zh), (ZH x0.Delta (shrO zj) (shrO zh))]) ⟨_, rfl⟩
          ·exact zr ((bv false), [(ZE x0 zj zh), (ZH x0.Delta (shrO zj) (shrO zh))]) ⟨_, rfl⟩
         ·exact zr ((bv false), [(ZE x0 zj zh), (ZH x0.Delta (shrO zj) (shrO zh))]) ⟨_, rfl⟩
        ·exact zr ((bv false), [(ZE x0 zj zh), (ZH x0.Delta (shrO zj) (shrO zh))]) ⟨_, rfl⟩
       ·exact zr ((bv false), [(ZE x0 zj zh), (ZH x0.Delta (shrO zj) (shrO zh))]) ⟨_, rfl⟩
      ·exact zr ((bv false), [(ZE x0 zj zh), (ZH x0.Delta (shrO zj) (shrO zh))]) ⟨_, rfl⟩
     ·exact zr ((bv false), [(ZE x0 zj zh), (ZH x0.Delta (shrO zj) (shrO zh))]) ⟨_, rfl⟩
    ·exact zr ((bv false), [(ZE x0 zj zh), (ZH x0.Delta (shrO zj) (shrO zh))]) ⟨_, rfl⟩
   ·exact zr ((bv false), [(ZE x0 zj zh), (ZH x0.Delta (shrO zj) (shrO zh))]) ⟨_, rfl⟩
  ·exact zr ((bv false), [(ZE x0 zj zh), (ZH x0.Delta (shrO zj) (shrO zh))]) ⟨_, rfl⟩
 ·exact zr ((bv false), [(ZE x0 zj zh), (ZH x0.Delta (shrO zj) (shrO zh))]) ⟨_, rfl⟩
theorem Zjd x0 {r} (h : Z94 x0 = some r) : Z9h x0 = some r :=
 ZR (fun _ _ ha hb => ru_ ZZ (ha .ex .ex) (hb .ex .ex)) (fun zj zh => Zio x0 zj zh r h)
def Zcu (x0 x1 : Int) : Option Bool :=
 if (decide (x1 ≤ x0)) = true then
 (some (decide (x0 ≤ 1099511627776)))
 else
 (some false)
theorem Zn3 x0 x1 : Sim Zd (Zcu x0 x1) (EE 60 [(iv x0), (iv x1)] []) := by
 unfold Zcu
 refine zf (ZEK ..)<|ze<|ze<|zq ?_
 refine za (decide (x1 ≤ x0)) ?_ ?_
 ·refine zq ?_
  exact zr ((bv (decide (x0 ≤ 1099511627776))), []) ⟨_, rfl⟩
 ·exact zr ((bv false), []) ⟨_, rfl⟩
theorem ZnE x0 x1 {r} (h : Zcu x0 x1 = some r) : Z3t x0 x1 = some r :=
 ZR (fun _ _ ha hb => ru_ ZZ ha hb) (Zn3 x0 x1 r h)
def Z3T (x0 : List Z9) : Option Bool :=
 (Z4T x0).bind fun r1 =>
 some (decide (0 ≤ r1))
theorem ZbT (x0 : List Z9) ox0 : Sim Zd (Z3T x0) (EE 61 [(Zm ox0 (x0.map Z8)), (.clo 62 [] [])] []) := by
 unfold Z3T
 refine zf (ZEL ..)<|ze<|ze<|zi fun r1 hr1 => ?_
 obtain ⟨_, er1, _, rfl⟩ := Ze2 x0 .sh r1 hr1
 refine zc [] (iv r1) [] er1<|zq ?_
 exact zr ((bv (decide (0 ≤ r1))), []) ⟨_, rfl⟩
theorem Zch x0 {r} (h : Z3T x0 = some r) : Z3Y x0 = some r :=
 ZR (fun _ _ ha hb => ru_ ZZ (ha .ex) (hb .ex)) (fun ox0 => ZbT x0 ox0 r h)
def Z4R (x0 : List Z9) : Option Int :=
 Z2Y x0 (x0.length : Int) 0
theorem Zdl (x0 : List Z9) ox0 : Sim Zk (Z4R x0) (EE 80 [(Zm ox0 (x0.map Z8)), (.clo 62 [] [])] []) := by
 unfold Z4R
 refine zf (ZF4 ..)<|ze<|ze<|zp (iv (x0.length : Int)) (et_ (Z14 (P := PP) (t := 49) (d := 104) (by kernel_rfl) Z8 (shrO ox0) x0)) ?_
 exact zk (Z89 x0 (x0.length : Int) 0 ox0)
theorem Ze1 x0 {r} (h : Z4R x0 = some r) : Z4T x0 = some r :=
 ZR (fun _ _ ha hb => ru_ Z1c (ha .ex) (hb .ex)) (fun ox0 => Zdl x0 ox0 r h)
def Z3U (x0 : List Z9) (x7 x8 : Int) : Option Int :=
 Z2Y x0 x7 (IntKind.i64.wrap (x8 + 1))
theorem ZbW (x0 : List Z9) x7 x8 ox0 : Sim Zk (Z3U x0 x7 x8) (ZtO 0 (Zm ox0 (x0.map Z8)) (.clo 62 [] []) (iv x7) (iv x8) []) := by
 unfold Z3U
 refine zf (ZA4 ..)<|ze<|zq ?_
 exact zk (Z89 x0 x7 (IntKind.i64.wrap (x8 + 1)) ox0)
def Z2W (x0 : List Z9) (x7 x8 : Int) : Option Int :=
 (lget x0 x8).bind fun a1 =>
 (Z81 a1).bind fun r2 =>
 if r2 = true then
 (some x8)
 else
 (Z3U x0 x7 x8)
theorem ZbV (x0 : List Z9) x7 x8 ox0 : Sim Zk (Z2W x0 x7 x8) (ZtN 0 (Zm ox0 (x0.map Z8)) (.clo 62 [] []) (iv x7) (iv x8) []) := by
 unfold Z2W
 refine zf (ZA3 ..)<|ze<|ze<|zi fun a1 ha1 => zp (.cptr (Z11 a1)) (et_ (Z1i (o := (shrO ox0)) (k := .i64) (n := 5) (e := Z8) (cs := Z1L) (fun _ => rfl) (fun _ => rfl) (by decide) ha1))<|zq<|zi fun r2 hr2 => ?_
 obtain ⟨_, er2, _, rfl⟩ := ZhM a1 r2 hr2
 refine zv [] (bv r2) [] er2 ?_
 refine za r2 ?_ ?_
 ·refine ze ?_
  exact zr ((iv x8), []) ⟨_, rfl⟩
 ·exact zk (ZbW x0 x7 x8 ox0)
def Z5N : Option Int :=
 some (-1)
theorem ZbX : Sim Zk Z5N (ZtP 0 []) := by
 unfold Z5N
 refine zf (ZA5 ..)<|ze ?_
 exact zr ((iv (-1)), []) ⟨_, rfl⟩
def Z2j (x0 : List Z9) (x7 x8 : Int) : Option Int :=
 if (decide (x8 < x7)) = true then
 (Z2W x0 x7 x8)
 else
 Z5N
theorem ZbU (x0 : List Z9) x7 x8 ox0 : Sim Zk (Z2j x0 x7 x8) (ZlQ 0 (Zm ox0 (x0.map Z8)) (.clo 62 [] []) (iv x7) (iv x8) []) := by
 unfold Z2j
 refine zf (ZA2 ..)<|ze<|zq ?_
 refine za (decide (x8 < x7)) ?_ ?_
 ·exact zk (ZbV x0 x7 x8 ox0)
 ·exact zk ZbX
theorem Z58 x0 x7 x8 {r} (h : Z2j x0 x7 x8 = some r) : Z2Y x0 x7 x8 = some r :=
 ZR (fun _ _ ha hb => ru_ Z1c (ha .ex) (hb .ex)) (fun ox0 => ZbU x0 x7 x8 ox0 r h)
def Z7P (x0 : Z9) : Option Bool :=
 (Z9J x0).bind fun r1 =>
 some (!r1)
theorem Zhg x0 : Sim Zd (Z7P x0) (EE 62 [(pA_ (Z11 x0))] []) := by
 unfold Z7P
 refine zf (ZEM ..)<|ze<|zx (.ptr 0 0) [(ZW x0)]<|ze<|zq<|zi fun r1 hr1 => ?_
 obtain ⟨_, er1, _, rfl⟩ := Zkc x0 r1 hr1
 refine zc [] (bv r1) [(ZW x0)] er1<|zq ?_
 exact zr ((bv (!r1)), [(ZW x0)]) ⟨_, rfl⟩
theorem ZhL x0 {r} (h : Z7P x0 = some r) : Z81 x0 = some r :=
 ZR (fun _ _ ha hb => ru_ ZZ ha hb) (Zhg x0 r h)
def Z9H (x0 : Z9) : Option Bool :=
 if (decide (1 ≤ x0.ID)) = true then
 (if (decide (x0.ID ≤ 1099511627776)) = true then
 (if (decide (0 ≤ x0.Priority)) = true then
 (if (decide (x0.Priority ≤ 1000)) = true then
 (if (decide (0 ≤ x0.Action)) = true then
 (if (decide (x0.Action ≤ 255)) = true then
 (if (decide (1 ≤ x0.Scope)) = true then
 (if (decide (x0.Scope ≤ 65535)) = true then
 (some (decide ((x0.Pattern.size : Int) ≤ 256)))
 else
 (some false))
 else
 (some false))
 else
 (some false))
 else
 (some false))
 else
 (some false))
 else
 (some false))
 else
 (some false))
 else
 (some false)
theorem Zjq x0 : Sim Zd (Z9H x0) (EE 63 [(pA_ (Z11 x0))] []) := by
 unfold Z9H
 refine zf (ZEN ..)<|ze<|zx (.ptr 0 0) [(ZW x0)]<|ze<|zq<|zq<|zq ?_
 refine za (decide (1 ≤ x0.ID)) ?_ ?_
 ·refine zq<|zq<|zq ?_
  refine za (decide (x0.ID ≤ 1099511627776)) ?_ ?_
  ·refine zq<|zq<|zq ?_
   refine za (decide (0 ≤ x0.Priority)) ?_ ?_
   ·refine zq<|zq<|zq ?_
    refine za (decide (x0.Priority ≤ 1000)) ?_ ?_
    ·refine zq<|zq<|zq ?_
     refine za (decide (0 ≤ x0.Action)) ?_ ?_
     ·refine zq<|zq<|zq ?_
      refine za (decide (x0.Action ≤ 255)) ?_ ?_
      ·refine zq<|zq<|zq ?_
       refine za (decide (1 ≤ x0.Scope)) ?_ ?_
       ·refine zq<|zq<|zq ?_
        refine za (decide (x0.Scope ≤ 65535)) ?_ ?_
        ·refine zq<|zq<|zq<|zq ?_
         exact zr ((bv (decide ((x0.Pattern.size : Int) ≤ 256))), [(ZW x0)]) ⟨_, rfl⟩
        ·exact zr ((bv false), [(ZW x0)]) ⟨_, rfl⟩
       ·exact zr ((bv false), [(ZW x0)]) ⟨_, rfl⟩
      ·exact zr ((bv false), [(ZW x0)]) ⟨_, rfl⟩
     ·exact zr ((bv false), [(ZW x0)]) ⟨_, rfl⟩
    ·exact zr ((bv false), [(ZW x0)]) ⟨_, rfl⟩
   ·exact zr ((bv false), [(ZW x0)]) ⟨_, rfl⟩
  ·exact zr ((bv false), [(ZW x0)]) ⟨_, rfl⟩
 ·exact zr ((bv false), [(ZW x0)]) ⟨_, rfl⟩
theorem Zkb x0 {r} (h : Z9H x0 = some r) : Z9J x0 = some r :=
 ZR (fun _ _ ha hb => ru_ ZZ ha hb) (Zjq x0 r h)
def Z47 (x0 : List Int) : Option Bool :=
 (Z5g x0).bind fun r1 =>
 some (decide (0 ≤ r1))
theorem Zcj (x0 : List Int) ox0 : Sim Zd (Z47 x0) (EE 64 [(Zm ox0 (x0.map (eI .i64))), (.clo 65 [] [])] []) := by
 unfold Z47
 refine zf (ZEO ..)<|ze<|ze<|zi fun r1 hr1 => ?_
 obtain ⟨_, er1, _, rfl⟩ := Zeu x0 .sh r1 hr1
 refine zc [] (iv r1) [] er1<|zq ?_
 exact zr ((bv (decide (0 ≤ r1))), []) ⟨_, rfl⟩
theorem ZcP x0 {r} (h : Z47 x0 = some r) : Z4b x0 = some r :=
 ZR (fun _ _ ha hb => ru_ ZZ (ha .ex) (hb .ex)) (fun ox0 => Zcj x0 ox0 r h)
def Z5e (x0 : List Int) : Option Int :=
 Z35 x0 (x0.length : Int) 0
theorem Ze3 (x0 : List Int) ox0 : Sim Zk (Z5e x0) (EE 81 [(Zm ox0 (x0.map (eI .i64))), (.clo 65 [] [])] []) := by
 unfold Z5e
 refine zf (ZF6 ..)<|ze<|ze<|zp (iv (x0.length : Int)) (et_ (Z14 (P := PP) (t := 77) (d := 3) (by kernel_rfl) (eI .i64) (shrO ox0) x0)) ?_
 exact zk (Z8x x0 (x0.length : Int) 0 ox0)
theorem Zet x0 {r} (h : Z5e x0 = some r) : Z5g x0 = some r :=
 ZR (fun _ _ ha hb => ru_ Z1c (ha .ex) (hb .ex)) (fun ox0 => Ze3 x0 ox0 r h)
def Z48 (x0 : List Int) (x7 x8 : Int) : Option Int :=
 Z35 x0 x7 (IntKind.i64.wrap (x8 + 1))
theorem Zcm (x0 : List Int) x7 x8 ox0 : Sim Zk (Z48 x0 x7 x8) (ZtU 0 (Zm ox0 (x0.map (eI .i64))) (.clo 65 [] []) (iv x7) (iv x8) []) := by
 unfold Z48
 refine zf (ZAa ..)<|ze<|zq ?_
 exact zk (Z8x x0 x7 (IntKind.i64.wrap (x8 + 1)) ox0)
def Z34 (x0 : List Int) (x7 x8 : Int) : Option Int :=
 (lget x0 x8).bind fun a1 =>
 (Z82 a1).bind fun r2 =>
 if r2 = true then
 (some x8)
 else
 (Z48 x0 x7 x8)
theorem Zcl (x0 : List Int) x7 x8 ox0 : Sim Zk (Z34 x0 x7 x8) (ZtT 0 (Zm ox0 (x0.map (eI .i64))) (.clo 65 [] []) (iv x7) (iv x8) []) := by
 unfold Z34
 refine zf (ZA9 ..)<|ze<|ze<|zi fun a1 ha1 => zp (.cptr [(.v (.int .i64 a1))]) (et_ (Z1i (o := (shrO ox0)) (k := .i64) (n := 1) (e := (eI .i64)) (cs := (fun a => [(eI .i64) a])) (fun _ => rfl) (fun _ => rfl) (by decide) ha1))<|zq<|zi fun r2 hr2 => ?_
 obtain ⟨_, er2, _, rfl⟩ := ZhO a1 r2 hr2
 refine zv [] (bv r2) [] er2 ?_
 refine za r2 ?_ ?_
 ·refine ze ?_
  exact zr ((iv x8), []) ⟨_, rfl⟩
 ·exact zk (Zcm x0 x7 x8 ox0)
def Z64 : Option Int :=
 some (-1)
theorem Zcn : Sim Zk Z64 (ZtV 0 []) := by
 unfold Z64
 refine zf (ZAb ..)<|ze ?_
 exact zr ((iv (-1)), []) ⟨_, rfl⟩
def Z2t (x0 : List Int) (x7 x8 : Int) : Option Int :=
 if (decide (x8 < x7)) = true then
 (Z34 x0 x7 x8)
 else
 Z64
theorem Zck (x0 : List Int) x7 x8 ox0 : Sim Zk (Z2t x0 x7 x8) (ZlR 0 (Zm ox0 (x0.map (eI .i64))) (.clo 65 [] []) (iv x7) (iv x8) []) := by
 unfold Z2t
 refine zf (ZA8 ..)<|ze<|zq ?_
 refine za (decide (x8 < x7)) ?_ ?_
 ·exact zk (Zcl x0 x7 x8 ox0)
 ·exact zk Zcn
theorem Z5j x0 x7 x8 {r} (h : Z2t x0 x7 x8 = some r) : Z35 x0 x7 x8 = some r :=
 ZR (fun _ _ ha hb => ru_ Z1c (ha .ex) (hb .ex)) (fun ox0 => Zck x0 x7 x8 ox0 r h)
def Z7Q (x0 : Int) : Option Bool :=
 (Z3t x0 1).bind fun r1 =>
 some (!r1)
theorem Zhh x0 : Sim Zd (Z7Q x0) (EE 65 [(iv x0)] []) := by
 unfold Z7Q
 refine zf (ZEP ..)<|ze<|ze<|zi fun r1 hr1 => ?_
 obtain ⟨_, er1, _, rfl⟩ := Z4h x0 1 r1 hr1
 refine zc [] (bv r1) [] er1<|zq ?_
 exact zr ((bv (!r1)), []) ⟨_, rfl⟩
theorem ZhN x0 {r} (h : Z7Q x0 = some r) : Z82 x0 = some r :=
 ZR (fun _ _ ha hb => ru_ ZZ ha hb) (Zhh x0 r h)
def Zds (x0 : Z0) : Option (List Z3) :=
 (lsl x0.Log 0 x0.Commit).bind fun a1 =>
 some a1
theorem ZnC x0 zn : Sim Z52 (Zds x0) (EE 30 [(pA_ (Zi x0 zn))] []) := by
 unfold Zds
 refine zf (ZDZ ..)<|ze<|zx (.ptr 0 0) [(Z1 x0 zn)]<|ze<|zq<|zq<|zq<|zq<|zi fun a1 ha1 => zp (Zm (slO (shrO zn)) (a1.map Z7)) (Eq.trans (by kernel_rfl) <| Z9n (n := 9) (o := (shrO zn)) (lo := none) (hi := (some (iv x0.Commit))) (e := Z7) (fun _ => rfl) (by decide) (by kernel_rfl) (by kernel_rfl) ha1) ?_
 exact zr ((Zm .sh (a1.map Z7)), [(Z1 x0 zn)]) ⟨_, rfl⟩
theorem Zpk x0 {r} (h : Zds x0 = some r) : Z74 x0 = some r :=
 ZR (fun _ _ ha hb => ru_ ZeJ (ha .ex) (hb .ex)) (fun zn => ZnC x0 zn r h)
def Zbi (x0 x1 : List Z3) : Option Bool :=
 (lsl x0 0 (min (x0.length : Int) (x1.length : Int))).bind fun a1 =>
 (lsl x1 0 (min (x0.length : Int) (x1.length : Int))).bind fun a2 =>
 (Z88 a1 a2).bind fun r3 =>
 some r3
theorem ZlW (x0 x1 : List Z3) ox0 ox1 : Sim Zd (Zbi x0 x1) (EE 29 [(Zm ox0 (x0.map Z7)), (Zm ox1 (x1.map Z7))] []) := by
 unfold Zbi
 refine zf (ZDY ..)<|ze<|ze<|zp (iv (x0.length : Int)) (et_ (Z14 (P := PP) (t := 37) (d := 81) (by kernel_rfl) Z7 (shrO ox0) x0))<|zp (iv (x1.length : Int)) (et_ (Z14 (P := PP) (t := 37) (d := 81) (by kernel_rfl) Z7 (shrO ox1) x1))<|zp (iv (min (x0.length : Int) (x1.length : Int))) (Zmz _ _)<|ze<|zi fun a1 ha1 => zp (Zm (slO (shrO ox0)) (a1.map Z7)) (Eq.trans (by kernel_rfl) <| Z9n (n := 9) (o := (shrO ox0)) (lo := none) (hi := (some (iv (min (x0.length : Int) (x1.length : Int))))) (e := Z7) (fun _ => rfl) (by decide) (by kernel_rfl) (by kernel_rfl) ha1)<|zi fun a2 ha2 => zp (Zm (slO (shrO ox1)) (a2.map Z7)) (Eq.trans (by kernel_rfl) <| Z9n (n := 9) (o := (shrO ox1)) (lo := none) (hi := (some (iv (min (x0.length : Int) (x1.length : Int))))) (e := Z7) (fun _ => rfl) (by decide) (by kernel_rfl) (by kernel_rfl) ha2)<|zi fun r3 hr3 => ?_
 obtain ⟨_, er3, _, rfl⟩ := ZeW a1 a2 .sh .sh r3 hr3
 refine zc [] (bv r3) [] er3 ?_
 exact zr ((bv r3), []) ⟨_, rfl⟩
theorem Zn1 x0 x1 {r} (h : Zbi x0 x1 = some r) : Z9Q x0 x1 = some r :=
 ZR (fun _ _ ha hb => ru_ ZZ (ha .ex .ex) (hb .ex .ex)) (fun ox0 ox1 => ZlW x0 x1 ox0 ox1 r h)
def Zf7 (x0 x1 : List Z3) : Option Bool :=
 (Z4C x0 x1).bind fun r1 =>
 some r1
theorem Zpl (x0 x1 : List Z3) ox0 ox1 : Sim Zd (Zf7 x0 x1) (EE 34 [(Zm ox0 (x0.map Z7)), (Zm ox1 (x1.map Z7))] []) := by
 unfold Zf7
 refine zf (ZE4 ..)<|ze<|ze<|zi fun r1 hr1 => ?_
 obtain ⟨_, er1, _, rfl⟩ := Zdi x0 x1 .sh .sh r1 hr1
 refine zc [] (bv r1) [] er1 ?_
 exact zr ((bv r1), []) ⟨_, rfl⟩
theorem Zqw x0 x1 {r} (h : Zf7 x0 x1 = some r) : Z88 x0 x1 = some r :=
 ZR (fun _ _ ha hb => ru_ ZZ (ha .ex .ex) (hb .ex .ex)) (fun ox0 ox1 => Zpl x0 x1 ox0 ox1 r h)
def Z3y (x0 x1 : List Z3) : Option Bool :=
 Z2K x1 x0 (x0.length : Int) 0
theorem Zbq (x0 x1 : List Z3) ox0 ox1 : Sim Zd (Z3y x0 x1) (Zt9 0 (Zm ox0 (x0.map Z7)) (Zm ox1 (x1.map Z7)) (.clo 52 [] []) []) := by
 unfold Z3y
 refine zf (Zzg ..)<|ze<|zp (iv (x0.length : Int)) (et_ (Z14 (P := PP) (t := 37) (d := 81) (by kernel_rfl) Z7 (shrO ox0) x0)) ?_
 exact zk (Z7F x1 x0 (x0.length : Int) 0 ox1 (shrO ox0))
def Z4w (x0 x1 : List Z3) : Option Bool :=
 if ((x0.length : Int) != (x1.length : Int)) = true then
 (some false)
 else
 (Z3y x0 x1)
theorem ZcR (x0 x1 : List Z3) ox0 ox1 : Sim Zd (Z4w x0 x1) (EE 51 [(Zm ox0 (x0.map Z7)), (Zm ox1 (x1.map Z7)), (.clo 52 [] [])] []) := by
 unfold Z4w
 refine zf (ZEA ..)<|ze<|ze<|zp (iv (x0.length : Int)) (et_ (Z14 (P := PP) (t := 37) (d := 81) (by kernel_rfl) Z7 (shrO ox0) x0))<|zp (iv (x1.length : Int)) (et_ (Z14 (P := PP) (t := 37) (d := 81) (by kernel_rfl) Z7 (shrO ox1) x1))<|zq ?_
 refine za ((x0.length : Int) != (x1.length : Int)) ?_ ?_
 ·refine ze ?_
  exact zr ((bv false), []) ⟨_, rfl⟩
 ·exact zk (Zbq x0 x1 ox0 ox1)
theorem Zdh x0 x1 {r} (h : Z4w x0 x1 = some r) : Z4C x0 x1 = some r :=
 ZR (fun _ _ ha hb => ru_ ZZ (ha .ex .ex) (hb .ex .ex)) (fun ox0 ox1 => ZcR x0 x1 ox0 ox1 r h)
def Z3A (x1 x15 : List Z3) (x16 x17 : Int) : Option Bool :=
 Z2K x1 x15 x16 (IntKind.i64.wrap (x17 + 1))
theorem Zbs (x1 x15 : List Z3) x16 x17 ox1 ox15 : Sim Zd (Z3A x1 x15 x16 x17) (Ztb 0 (Zm ox1 (x1.map Z7)) (.clo 52 [] []) (Zm ox15 (x15.map Z7)) (iv x16) (iv x17) []) := by
 unfold Z3A
 refine zf (Zzi ..)<|ze<|zq ?_
 exact zk (Z7F x1 x15 x16 (IntKind.i64.wrap (x17 + 1)) ox1 ox15)
def Z3z (x1 x15 : List Z3) (x16 x17 : Int) : Option Bool :=
 (lget x15 x17).bind fun a1 =>
 (lget x1 x17).bind fun a2 =>
 (Zfc a1 a2).bind fun r3 =>
 if (!r3) = true then
 (some false)
 else
 (Z3A x1 x15 x16 x17)
theorem Zbr (x1 x15 : List Z3) x16 x17 ox1 ox15 : Sim Zd (Z3z x1 x15 x16 x17) (Zta 0 (Zm ox1 (x1.map Z7)) (.clo 52 [] []) (Zm ox15 (x15.map Z7)) (iv x16) (iv x17) []) := by
 unfold Z3z
 refine zf (Zzh ..)<|ze<|zi fun a1 ha1 => zp (.cptr (Z1f a1 .sh .sh)) (et_ (Z1i (o := ox15) (k := .i64) (n := 9) (e := Z7) (cs := Z36) (fun _ => rfl) (fun _ => rfl) (by decide) ha1))<|zq<|zz (.ptr 0 0) [(ZE Zo7 .nl .nl)]<|zt [(ZE a1 .sh .sh)]<|ze<|zi fun a2 ha2 => zp (.cptr (Z1f a2 .sh .sh)) (et_ (Z1i (o := (shrO ox1)) (k := .i64) (n := 9) (e := Z7) (cs := Z36) (fun _ => rfl) (fun _ => rfl) (by decide) ha2))<|zq<|zz (.ptr 1 0) [(ZE a1 .sh .sh), (ZE Zo7 .nl .nl)]<|zt [(ZE a1 .sh .sh), (ZE a2 .sh .sh)]<|ze<|zq<|zq<|zi fun r3 hr3 => ?_
 obtain ⟨_, er3, _, rfl⟩ := Zqy a1 a2 .sh .sh .sh .sh r3 hr3
 refine zv [] (bv r3) [(ZE a1 .sh .sh), (ZE a2 .sh .sh)] er3<|zq ?_
 refine za (!r3) ?_ ?_
 ·refine ze ?_
  exact zr ((bv false), [(ZE a1 .sh .sh), (ZE a2 .sh .sh)]) ⟨_, rfl⟩
 ·exact zk (Zbs x1 x15 x16 x17 ox1 ox15)
def Z3o : Option Bool :=
 some true
theorem Zb6 : Sim Zd Z3o (Zqo 0 []) := by
 unfold Z3o
 refine zf (Zwx ..)<|ze ?_
 exact zr ((bv true), []) ⟨_, rfl⟩
def Z2I (x1 x15 : List Z3) (x16 x17 : Int) : Option Bool :=
 if (decide (x17 < x16)) = true then
 (Z3z x1 x15 x16 x17)
 else
 Z3o
theorem Zbp (x1 x15 : List Z3) x16 x17 ox1 ox15 : Sim Zd (Z2I x1 x15 x16 x17) (ZlA 0 (Zm ox1 (x1.map Z7)) (.clo 52 [] []) (Zm ox15 (x15.map Z7)) (iv x16) (iv x17) []) := by
 unfold Z2I
 refine zf (Zzf ..)<|ze<|zq ?_
 refine za (decide (x17 < x16)) ?_ ?_
 ·exact zk (Zbr x1 x15 x16 x17 ox1 ox15)
 ·exact zk Zb6
theorem Z7E x1 x15 x16 x17 {r} (h : Z2I x1 x15 x16 x17 = some r) : Z2K x1 x15 x16 x17 = some r :=
 ZR (fun _ _ ha hb => ru_ ZZ (ha .ex .ex) (hb .ex .ex)) (fun ox1 ox15 => Zbp x1 x15 x16 x17 ox1 ox15 r h)
def Zf8 (x0 x1 : Z3) : Option Bool :=
 if (x0.View == x1.View) = true then
 (if (x0.Client == x1.Client) = true then
 (if (x0.Request == x1.Request) = true then
 (if (x0.Delta.Default == x1.Delta.Default) = true then
 (if (x0.Delta.Closed == x1.Delta.Closed) = true then
 (if (x0.Delta.Fuel == x1.Delta.Fuel) = true then
 (if (x0.Delta.Stack == x1.Delta.Stack) = true then
 ((Z8O x0.Delta.Put x1.Delta.Put).bind fun r1 =>
 if r1 = true then
 ((Z9k x0.Delta.Drop x1.Delta.Drop).bind fun r2 =>
 some r2)
 else
 (some false))
 else
 (some false))
 else
 (some false))
 else
 (some false))
 else
 (some false))
 else
 (some false))
 else
 (some false))
 else
 (some false)
theorem Zpm x0 x1 zj zh z16 z13 : Sim Zd (Zf8 x0 x1) (EE 52 [(pA_ (Z1f x0 zj zh)), (pA_ (Z1f x1 z16 z13))] []) := by
 unfold Zf8
 refine zf (ZEC ..)<|ze<|zx (.ptr 0 0) [(ZE x0 zj zh)]<|zx (.ptr 1 0) [(ZE x0 zj zh), (ZE x1 z16 z13)]<|ze<|zq<|zq<|zq<|zq<|zz (.ptr 2 0) [(ZE x0 zj zh), (ZE x1 z16 z13), (ZH ZuE .nl .nl)]<|zz (.ptr 3 0) [(ZE x0 zj zh), (ZE x1 z16 z13), (ZH ZuE .nl .nl), (ZH ZuE .nl .nl)]<|zt [(ZE x0 zj zh), (ZE x1 z16 z13), (ZH x0.Delta (shrO zj) (shrO zh)), (ZH ZuE .nl .nl)]<|zt [(ZE x0 zj zh), (ZE x1 z16 z13), (ZH x0.Delta (shrO zj) (shrO zh)), (ZH x1.Delta (shrO z16) (shrO z13))]<|zg<|zg<|zg<|zg<|zg<|ze<|zq<|zq<|zq<|zq<|zq ?_
 refine za (x0.View == x1.View) ?_ ?_
 ·refine zq<|zq<|zq<|zq<|zq ?_
  refine za (x0.Client == x1.Client) ?_ ?_
  ·refine zq<|zq<|zq<|zq<|zq ?_
   refine za (x0.Request == x1.Request) ?_ ?_
   ·refine zq<|zq<|zq<|zq<|zq ?_
    refine za (x0.Delta.Default == x1.Delta.Default) ?_ ?_
    ·refine zq<|zq<|zq<|zq<|zq ?_
     refine za (x0.Delta.Closed == x1.Delta.Closed) ?_ ?_
     ·refine zq<|zq<|zq<|zq<|zq ?_
      refine za (x0.Delta.Fuel == x1.Delta.Fuel) ?_ ?_
      ·refine zq<|zq<|zq<|zq<|zq ?_
       refine za (x0.Delta.Stack == x1.Delta.Stack) ?_ ?_
       ·refine zq<|zq<|zq<|zq<|zi fun r1 hr1 => ?_
        obtain ⟨_, er1, _, rfl⟩ := ZiG x0.Delta.Put x1.Delta.Put .sh .sh r1 hr1
        refine zc [] (bv r1) [(ZE x0 zj zh), (ZE x1 z16 z13), (ZH x0.Delta (shrO zj) (shrO zh)), (ZH x1.Delta (shrO z16) (shrO z13))] er1 ?_
        refine za r1 ?_ ?_
        ·refine zq<|zq<|zq<|zq<|zi fun r2 hr2 => ?_
         obtain ⟨_, er2, _, rfl⟩ := Zjt x0.Delta.Drop x1.Delta.Drop .sh .sh r2 hr2
         refine zc [] (bv r2) [(ZE x0 zj zh), (ZE x1 z16 z13), (ZH x0.Delta (shrO zj) (shrO zh)), (ZH x1.Delta (shrO z16) (shrO z13))] er2 ?_
         exact zr ((bv r2), [(ZE x0 zj zh), (ZE x1 z16 z13), (ZH x0.Delta (shrO zj) (shrO zh)), (ZH x1.Delta (shrO z16) (shrO z13))]) ⟨_, rfl⟩
        ·exact zr ((bv false), [(ZE x0 zj zh), (ZE x1 z16 z13), (ZH x0.Delta (shrO zj) (shrO zh)), (ZH x1.Delta (shrO z16) (shrO z13))]) ⟨_, rfl⟩
       ·exact zr ((bv false), [(ZE x0 zj zh), (ZE x1 z16 z13), (ZH x0.Delta (shrO zj) (shrO zh)), (ZH x1.Delta (shrO z16) (shrO z13))]) ⟨_, rfl⟩
      ·exact zr ((bv false), [(ZE x0 zj zh), (ZE x1 z16 z13), (ZH x0.Delta (shrO zj) (shrO zh)), (ZH x1.Delta (shrO z16) (shrO z13))]) ⟨_, rfl⟩
     ·exact zr ((bv false), [(ZE x0 zj zh), (ZE x1 z16 z13), (ZH x0.Delta (shrO zj) (shrO zh)), (ZH x1.Delta (shrO z16) (shrO z13))]) ⟨_, rfl⟩
    ·exact zr ((bv false), [(ZE x0 zj zh), (ZE x1 z16 z13), (ZH x0.Delta (shrO zj) (shrO zh)), (ZH x1.Delta (shrO z16) (shrO z13))]) ⟨_, rfl⟩
   ·exact zr ((bv false), [(ZE x0 zj zh), (ZE x1 z16 z13), (ZH x0.Delta (shrO zj) (shrO zh)), (ZH x1.Delta (shrO z16) (shrO z13))]) ⟨_, rfl⟩
  ·exact zr ((bv false), [(ZE x0 zj zh), (ZE x1 z16 z13), (ZH x0.Delta (shrO zj) (shrO zh)), (ZH x1.Delta (shrO z16) (shrO z13))]) ⟨_, rfl⟩
 ·exact zr ((bv false), [(ZE x0 zj zh), (ZE x1 z16 z13), (ZH x0.Delta (shrO zj) (shrO zh)), (ZH x1.Delta (shrO z16) (shrO z13))]) ⟨_, rfl⟩
theorem Zqx x0 x1 {r} (h : Zf8 x0 x1 = some r) : Zfc x0 x1 = some r :=
 ZR (fun _ _ ha hb => ru_ ZZ (ha .ex .ex .ex .ex) (hb .ex .ex .ex .ex)) (fun zj zh z16 z13 => Zpm x0 x1 zj zh z16 z13 r h)
def Z6M (x0 x1 : List Z9) : Option Bool :=
 Z57 x0 x1 (x0.length : Int) 0
theorem Zgk (x0 x1 : List Z9) ox0 ox1 : Sim Zd (Z6M x0 x1) (ZtB 0 (Zm ox0 (x0.map Z8)) (Zm ox1 (x1.map Z8)) []) := by
 unfold Z6M
 refine zf (ZzN ..)<|ze<|zp (iv (x0.length : Int)) (et_ (Z14 (P := PP) (t := 49) (d := 104) (by kernel_rfl) Z8 (shrO ox0) x0)) ?_
 exact zk (ZaT x0 x1 (x0.length : Int) 0 ox0 ox1)
def Z8J (x0 x1 : List Z9) : Option Bool :=
 if ((x0.length : Int) != (x1.length : Int)) = true then
 (some false)
 else
 (Z6M x0 x1)
theorem ZhS (x0 x1 : List Z9) ox0 ox1 : Sim Zd (Z8J x0 x1) (EE 69 [(Zm ox0 (x0.map Z8)), (Zm ox1 (x1.map Z8))] []) := by
 unfold Z8J
 refine zf (ZEZ ..)<|ze<|ze<|zp (iv (x0.length : Int)) (et_ (Z14 (P := PP) (t := 49) (d := 104) (by kernel_rfl) Z8 (shrO ox0) x0))<|zp (iv (x1.length : Int)) (et_ (Z14 (P := PP) (t := 49) (d := 104) (by kernel_rfl) Z8 (shrO ox1) x1))<|zq ?_
 refine za ((x0.length : Int) != (x1.length : Int)) ?_ ?_
 ·refine ze ?_
  exact zr ((bv false), []) ⟨_, rfl⟩
 ·exact zk (Zgk x0 x1 ox0 ox1)
theorem ZiF x0 x1 {r} (h : Z8J x0 x1 = some r) : Z8O x0 x1 = some r :=
 ZR (fun _ _ ha hb => ru_ ZZ (ha .ex .ex) (hb .ex .ex)) (fun ox0 ox1 => ZhS x0 x1 ox0 ox1 r h)
def Z6O (x0 x1 : List Z9) (x12 x13 : Int) : Option Bool :=
 Z57 x0 x1 x12 (IntKind.i64.wrap (x13 + 1))
theorem Zgm (x0 x1 : List Z9) x12 x13 ox0 ox1 : Sim Zd (Z6O x0 x1 x12 x13) (ZtD 0 (Zm ox0 (x0.map Z8)) (Zm ox1 (x1.map Z8)) (iv x12) (iv x13) []) := by
 unfold Z6O
 refine zf (ZzP ..)<|ze<|zq ?_
 exact zk (ZaT x0 x1 x12 (IntKind.i64.wrap (x13 + 1)) ox0 ox1)
def Z6N (x0 x1 : List Z9) (x12 x13 : Int) : Option Bool :=
 (lget x0 x13).bind fun a1 =>
 (lget x1 x13).bind fun a2 =>
 if ((!((a1.ID == a2.ID) && ((a1.Priority == a2.Priority) && ((a1.Action == a2.Action) && ((a1.Scope == a2.Scope) && ((seq a1.Pattern a2.Pattern) && true))))))) = true then
 (some false)
 else
 (Z6O x0 x1 x12 x13)
theorem Zgl (x0 x1 : List Z9) x12 x13 ox0 ox1 : Sim Zd (Z6N x0 x1 x12 x13) (ZtC 0 (Zm ox0 (x0.map Z8)) (Zm ox1 (x1.map Z8)) (iv x12) (iv x13) []) := by
 unfold Z6N
 refine zf (ZzO ..)<|ze<|ze<|zi fun a1 ha1 => zp (.cptr (Z11 a1)) (et_ (Z1i (o := (shrO ox0)) (k := .i64) (n := 5) (e := Z8) (cs := Z1L) (fun _ => rfl) (fun _ => rfl) (by decide) ha1))<|zq<|zi fun a2 ha2 => zp (.cptr (Z11 a2)) (et_ (Z1i (o := (shrO ox1)) (k := .i64) (n := 5) (e := Z8) (cs := Z1L) (fun _ => rfl) (fun _ => rfl) (by decide) ha2))<|zq<|zp (bv (!((a1.ID == a2.ID) && ((a1.Priority == a2.Priority) && ((a1.Action == a2.Action) && ((a1.Scope == a2.Scope) && ((seq a1.Pattern a2.Pattern) && true))))))) (Eq.trans (b := xbin PP .neq 104 (pA_ (Z11 a1)) (pA_ (Z11 a2))) (by kernel_rfl) (ZvD (by kernel_rfl) (by kernel_rfl) (by kernel_rfl) (by kernel_rfl) (by kernel_rfl))) ?_
 refine za ((!((a1.ID == a2.ID) && ((a1.Priority == a2.Priority) && ((a1.Action == a2.Action) && ((a1.Scope == a2.Scope) && ((seq a1.Pattern a2.Pattern) && true))))))) ?_ ?_
 ·refine ze ?_
  exact zr ((bv false), []) ⟨_, rfl⟩
 ·exact zk (Zgm x0 x1 x12 x13 ox0 ox1)
def Z6P : Option Bool :=
 some true
theorem Zgn : Sim Zd Z6P (ZtE 0 []) := by
 unfold Z6P
 refine zf (ZzQ ..)<|ze ?_
 exact zr ((bv true), []) ⟨_, rfl⟩
def Z55 (x0 x1 : List Z9) (x12 x13 : Int) : Option Bool :=
 if (decide (x13 < x12)) = true then
 (Z6N x0 x1 x12 x13)
 else
 Z6P
theorem Zgj (x0 x1 : List Z9) x12 x13 ox0 ox1 : Sim Zd (Z55 x0 x1 x12 x13) (ZlL 0 (Zm ox0 (x0.map Z8)) (Zm ox1 (x1.map Z8)) (iv x12) (iv x13) []) := by
 unfold Z55
 refine zf (ZzM ..)<|ze<|zq ?_
 refine za (decide (x13 < x12)) ?_ ?_
 ·exact zk (Zgl x0 x1 x12 x13 ox0 ox1)
 ·exact zk Zgn
theorem ZaS x0 x1 x12 x13 {r} (h : Z55 x0 x1 x12 x13 = some r) : Z57 x0 x1 x12 x13 = some r :=
 ZR (fun _ _ ha hb => ru_ ZZ (ha .ex .ex) (hb .ex .ex)) (fun ox0 ox1 => Zgj x0 x1 x12 x13 ox0 ox1 r h)
def Z7d (x0 x1 : List Int) : Option Bool :=
 Z5o x0 x1 (x0.length : Int) 0
theorem ZgM (x0 x1 : List Int) ox0 ox1 : Sim Zd (Z7d x0 x1) (ZtG 0 (Zm ox0 (x0.map (eI .i64))) (Zm ox1 (x1.map (eI .i64))) []) := by
 unfold Z7d
 refine zf (ZzU ..)<|ze<|zp (iv (x0.length : Int)) (et_ (Z14 (P := PP) (t := 77) (d := 3) (by kernel_rfl) (eI .i64) (shrO ox0) x0)) ?_
 exact zk (Zb8 x0 x1 (x0.length : Int) 0 ox0 ox1)
def Z9b (x0 x1 : List Int) : Option Bool :=
 if ((x0.length : Int) != (x1.length : Int)) = true then
 (some false)
 else
 (Z7d x0 x1)
theorem ZiH (x0 x1 : List Int) ox0 ox1 : Sim Zd (Z9b x0 x1) (EE 70 [(Zm ox0 (x0.map (eI .i64))), (Zm ox1 (x1.map (eI .i64)))] []) := by
 unfold Z9b
 refine zf (ZF1 ..)<|ze<|ze<|zp (iv (x0.length : Int)) (et_ (Z14 (P := PP) (t := 77) (d := 3) (by kernel_rfl) (eI .i64) (shrO ox0) x0))<|zp (iv (x1.length : Int)) (et_ (Z14 (P := PP) (t := 77) (d := 3) (by kernel_rfl) (eI .i64) (shrO ox1) x1))<|zq ?_
 refine za ((x0.length : Int) != (x1.length : Int)) ?_ ?_
 ·refine ze ?_
  exact zr ((bv false), []) ⟨_, rfl⟩
 ·exact zk (ZgM x0 x1 ox0 ox1)
theorem Zjs x0 x1 {r} (h : Z9b x0 x1 = some r) : Z9k x0 x1 = some r :=
 ZR (fun _ _ ha hb => ru_ ZZ (ha .ex .ex) (hb .ex .ex)) (fun ox0 ox1 => ZiH x0 x1 ox0 ox1 r h)
def Z7f (x0 x1 : List Int) (x12 x13 : Int) : Option Bool :=
 Z5o x0 x1 x12 (IntKind.i64.wrap (x13 + 1))
theorem ZgO (x0 x1 : List Int) x12 x13 ox0 ox1 : Sim Zd (Z7f x0 x1 x12 x13) (ZtI 0 (Zm ox0 (x0.map (eI .i64))) (Zm ox1 (x1.map (eI .i64))) (iv x12) (iv x13) []) := by
 unfold Z7f
 refine zf (ZzW ..)<|ze<|zq ?_
 exact zk (Zb8 x0 x1 x12 (IntKind.i64.wrap (x13 + 1)) ox0 ox1)
def Z7e (x0 x1 : List Int) (x12 x13 : Int) : Option Bool :=
 (lget x0 x13).bind fun a1 =>
 (lget x1 x13).bind fun a2 =>
 if (a1 != a2) = true then
 (some false)
 else
 (Z7f x0 x1 x12 x13)
theorem ZgN (x0 x1 : List Int) x12 x13 ox0 ox1 : Sim Zd (Z7e x0 x1 x12 x13) (ZtH 0 (Zm ox0 (x0.map (eI .i64))) (Zm ox1 (x1.map (eI .i64))) (iv x12) (iv x13) []) := by
 unfold Z7e
 refine zf (ZzV ..)<|ze<|ze<|zi fun a1 ha1 => zp (.cptr [(.v (.int .i64 a1))]) (et_ (Z1i (o := (shrO ox0)) (k := .i64) (n := 1) (e := (eI .i64)) (cs := (fun a => [(eI .i64) a])) (fun _ => rfl) (fun _ => rfl) (by decide) ha1))<|zq<|zi fun a2 ha2 => zp (.cptr [(.v (.int .i64 a2))]) (et_ (Z1i (o := (shrO ox1)) (k := .i64) (n := 1) (e := (eI .i64)) (cs := (fun a => [(eI .i64) a])) (fun _ => rfl) (fun _ => rfl) (by decide) ha2))<|zq<|zq ?_
 refine za (a1 != a2) ?_ ?_
 ·refine ze ?_
  exact zr ((bv false), []) ⟨_, rfl⟩
 ·exact zk (ZgO x0 x1 x12 x13 ox0 ox1)
def Z7g : Option Bool :=
 some true
theorem ZgP : Sim Zd Z7g (ZtJ 0 []) := by
 unfold Z7g
 refine zf (ZzX ..)<|ze ?_
 exact zr ((bv true), []) ⟨_, rfl⟩
def Z5m (x0 x1 : List Int) (x12 x13 : Int) : Option Bool :=
 if (decide (x13 < x12)) = true then
 (Z7e x0 x1 x12 x13)
 else
 Z7g
theorem ZgL (x0 x1 : List Int) x12 x13 ox0 ox1 : Sim Zd (Z5m x0 x1 x12 x13) (ZlN 0 (Zm ox0 (x0.map (eI .i64))) (Zm ox1 (x1.map (eI .i64))) (iv x12) (iv x13) []) := by
 unfold Z5m
 refine zf (ZzT ..)<|ze<|zq ?_
 refine za (decide (x13 < x12)) ?_ ?_
 ·exact zk (ZgN x0 x1 x12 x13 ox0 ox1)
 ·exact zk ZgP
theorem Zb7 x0 x1 x12 x13 {r} (h : Z5m x0 x1 x12 x13 = some r) : Z5o x0 x1 x12 x13 = some r :=
 ZR (fun _ _ ha hb => ru_ ZZ (ha .ex .ex) (hb .ex .ex)) (fun ox0 ox1 => ZgL x0 x1 x12 x13 ox0 ox1 r h)
def Zbh (x0 : List Z0) : Option Int :=
 (Z7o x0).bind fun r1 =>
 Z7y r1 0 r1 (r1.length : Int) 0
theorem ZlU (x0 : List Z0) ox0 : Sim Zk (Zbh x0) (EE 17 [(Zm ox0 (x0.map Z6))] []) := by
 unfold Zbh
 refine zf (ZDx ..)<|ze<|ze<|zi fun r1 hr1 => ?_
 obtain ⟨_, er1, _, rfl⟩ := Z8t x0 .sh r1 hr1
 refine zc [] (Zm .sh (r1.map Z6)) [] er1<|ze<|ze<|zp (iv (r1.length : Int)) (et_ (Z14 (P := PP) (t := 22) (d := 39) (by kernel_rfl) Z6 .sh r1)) ?_
 exact zk (ZdK r1 0 r1 (r1.length : Int) 0 .sh .sh)
theorem Zn0 x0 {r} (h : Zbh x0 = some r) : Z2b x0 = some r :=
 ZR (fun _ _ ha hb => ru_ Z1c (ha .ex) (hb .ex)) (fun ox0 => ZlU x0 ox0 r h)
def Z9B (x0 : List Z0) (x3 : Int) (x12 : List Z0) (x13 x14 : Int) : Option Int :=
 (lget x12 x14).bind fun a1 =>
 Z7z x0 x3 (a1.Log.length : Int) x12 x13 x14 a1
theorem Zjb (x0 : List Z0) x3 (x12 : List Z0) x13 x14 ox0 ox12 : Sim Zk (Z9B x0 x3 x12 x13 x14) (ZrO 0 (Zm ox0 (x0.map Z6)) (iv x3) (Zm ox12 (x12.map Z6)) (iv x13) (iv x14) []) := by
 unfold Z9B
 refine zf (Zy1 ..)<|ze<|zi fun a1 ha1 => zp (.cptr (Zi a1 .sh)) (et_ (Z1i (o := ox12) (k := .i64) (n := 5) (e := Z6) (cs := Z27) (fun _ => rfl) (fun _ => rfl) (by decide) ha1))<|zq<|zz (.ptr 0 0) [(Z1 Zef .nl)]<|zt [(Z1 a1 .sh)]<|ze<|zq<|zq<|zp (iv (a1.Log.length : Int)) (et_ (Z14 (P := PP) (t := 37) (d := 81) (by kernel_rfl) Z7 .sh a1.Log)) ?_
 exact zk (ZdM x0 x3 (a1.Log.length : Int) x12 x13 x14 a1 ox0 ox12 .sh)
def Z8Z (x3 : Int) : Option Int :=
 some x3
theorem Zij x3 : Sim Zk (Z8Z x3) (Zq8 0 (iv x3) []) := by
 unfold Z8Z
 refine zf (Zw8 ..)<|ze ?_
 exact zr ((iv x3), []) ⟨_, rfl⟩
def Z7p (x0 : List Z0) (x3 : Int) (x12 : List Z0) (x13 x14 : Int) : Option Int :=
 if (decide (x14 < x13)) = true then
 (Z9B x0 x3 x12 x13 x14)
 else
 (Z8Z x3)
theorem Zj9 (x0 : List Z0) x3 (x12 : List Z0) x13 x14 ox0 ox12 : Sim Zk (Z7p x0 x3 x12 x13 x14) (Zl8 0 (Zm ox0 (x0.map Z6)) (iv x3) (Zm ox12 (x12.map Z6)) (iv x13) (iv x14) []) := by
 unfold Z7p
 refine zf (ZxZ ..)<|ze<|zq ?_
 refine za (decide (x14 < x13)) ?_ ?_
 ·exact zk (Zjb x0 x3 x12 x13 x14 ox0 ox12)
 ·exact zk (Zij x3)
theorem ZdJ x0 x3 x12 x13 x14 {r} (h : Z7p x0 x3 x12 x13 x14 = some r) : Z7y x0 x3 x12 x13 x14 = some r :=
 ZR (fun _ _ ha hb => ru_ Z1c (ha .ex .ex) (hb .ex .ex)) (fun ox0 ox12 => Zj9 x0 x3 x12 x13 x14 ox0 ox12 r h)
def Z9C (x0 : List Z0) (x3 x6 : Int) (x12 : List Z0) (x13 x14 : Int) (b0 : Z0) : Option Int :=
 Z5n x0 x3 x6 0 x12 x13 x14 x0 (x0.length : Int) 0 b0
theorem Zjc (x0 : List Z0) x3 x6 (x12 : List Z0) x13 x14 b0 ox0 ox12 z5 : Sim Zk (Z9C x0 x3 x6 x12 x13 x14 b0) (ZrP 0 (Zm ox0 (x0.map Z6)) (iv x3) (.ptr 0 0) (iv x6) (Zm ox12 (x12.map Z6)) (iv x13) (iv x14) [(Z1 b0 z5)]) := by
 unfold Z9C
 refine zf (Zy3 ..)<|ze<|ze<|zp (iv (x0.length : Int)) (et_ (Z14 (P := PP) (t := 22) (d := 39) (by kernel_rfl) Z6 (shrO ox0) x0)) ?_
 exact zk (Zd3 x0 x3 x6 0 x12 x13 x14 x0 (x0.length : Int) 0 b0 ox0 ox12 (shrO ox0) z5)
def Z6W (x0 : List Z0) (x3 : Int) (x12 : List Z0) (x13 x14 : Int) : Option Int :=
 Z7y x0 x3 x12 x13 (IntKind.i64.wrap (x14 + 1))
theorem Zii (x0 : List Z0) x3 (x12 : List Z0) x13 x14 ox0 ox12 : Sim Zk (Z6W x0 x3 x12 x13 x14) (Zq7 0 (Zm ox0 (x0.map Z6)) (iv x3) (Zm ox12 (x12.map Z6)) (iv x13) (iv x14) []) := by
 unfold Z6W
 refine zf (Zw7 ..)<|ze<|zq ?_
 exact zk (ZdK x0 x3 x12 x13 (IntKind.i64.wrap (x14 + 1)) ox0 ox12)
def Z7q (x0 : List Z0) (x3 x6 : Int) (x12 : List Z0) (x13 x14 : Int) (b0 : Z0) : Option Int :=
 if (decide (x3 < x6)) = true then
 (Z9C x0 x3 x6 x12 x13 x14 b0)
 else
 (Z6W x0 x3 x12 x13 x14)
theorem Zja (x0 : List Z0) x3 x6 (x12 : List Z0) x13 x14 b0 ox0 ox12 z5 : Sim Zk (Z7q x0 x3 x6 x12 x13 x14 b0) (Zl9 0 (Zm ox0 (x0.map Z6)) (iv x3) (.ptr 0 0) (iv x6) (Zm ox12 (x12.map Z6)) (iv x13) (iv x14) [(Z1 b0 z5)]) := by
 unfold Z7q
 refine zf (Zy0 ..)<|ze<|zq ?_
 refine za (decide (x3 < x6)) ?_ ?_
 ·exact zk (Zjc x0 x3 x6 x12 x13 x14 b0 ox0 ox12 z5)
 ·exact zk (Zii x0 x3 x12 x13 x14 ox0 ox12)
theorem ZdL x0 x3 x6 x12 x13 x14 b0 {r} (h : Z7q x0 x3 x6 x12 x13 x14 b0 = some r) : Z7z x0 x3 x6 x12 x13 x14 b0 = some r :=
 ZR (fun _ _ ha hb => ru_ Z1c (ha .ex .ex .ex) (hb .ex .ex .ex)) (fun ox0 ox12 z5 => Zja x0 x3 x6 x12 x13 x14 b0 ox0 ox12 z5 r h)
def Z4c (x0 : List Z0) (x3 x6 x7 : Int) (x12 : List Z0) (x13 x14 : Int) (x26 : List Z0) (x27 x28 : Int) (b0 : Z0) : Option Int :=
 Z5n x0 x3 x6 x7 x12 x13 x14 x26 x27 (IntKind.i64.wrap (x28 + 1)) b0
theorem Z9r (x0 : List Z0) x3 x6 x7 (x12 : List Z0) x13 x14 (x26 : List Z0) x27 x28 b0 ox0 ox12 ox26 z5 : Sim Zk (Z4c x0 x3 x6 x7 x12 x13 x14 x26 x27 x28 b0) (ZiV 0 (Zm ox0 (x0.map Z6)) (iv x3) (.ptr 0 0) (iv x6) (iv x7) (Zm ox12 (x12.map Z6)) (iv x13) (iv x14) (Zm ox26 (x26.map Z6)) (iv x27) (iv x28) [(Z1 b0 z5)]) := by
 unfold Z4c
 refine zf (Zw5 ..)<|ze<|zq ?_
 exact zk (Zd3 x0 x3 x6 x7 x12 x13 x14 x26 x27 (IntKind.i64.wrap (x28 + 1)) b0 ox0 ox12 ox26 z5)
def Z8Y (x0 : List Z0) (x3 x6 x7 : Int) (x12 : List Z0) (x13 x14 : Int) (x26 : List Z0) (x27 x28 : Int) (b0 : Z0) : Option Int :=
 Z4c x0 x3 x6 (IntKind.i64.wrap (x7 + 1)) x12 x13 x14 x26 x27 x28 b0
theorem Zig (x0 : List Z0) x3 x6 x7 (x12 : List Z0) x13 x14 (x26 : List Z0) x27 x28 b0 ox0 ox12 ox26 z5 : Sim Zk (Z8Y x0 x3 x6 x7 x12 x13 x14 x26 x27 x28 b0) (Zq5 0 (Zm ox0 (x0.map Z6)) (iv x3) (.ptr 0 0) (iv x6) (iv x7) (Zm ox12 (x12.map Z6)) (iv x13) (iv x14) (Zm ox26 (x26.map Z6)) (iv x27) (iv x28) [(Z1 b0 z5)]) := by
 unfold Z8Y
 refine zf (Zw4 ..)<|ze<|zq ?_
 exact zk (Z9r x0 x3 x6 (IntKind.i64.wrap (x7 + 1)) x12 x13 x14 x26 x27 x28 b0 ox0 ox12 ox26 z5)
def Z8X (x0 : List Z0) (x3 x6 x7 : Int) (x12 : List Z0) (x13 x14 : Int) (x26 : List Z0) (x27 x28 : Int) (b0 : Z0) : Option Int :=
 (lget x26 x28).bind fun a1 =>
 if (decide (x6 ≤ (a1.Log.length : Int))) = true then
 ((lsl a1.Log 0 x6).bind fun a2 =>
 (lsl b0.Log 0 x6).bind fun a3 =>
 (Z88 a2 a3).bind fun r4 =>
 if r4 = true then
 (Z8Y x0 x3 x6 x7 x12 x13 x14 x26 x27 x28 b0)
 else
 (Z4c x0 x3 x6 x7 x12 x13 x14 x26 x27 x28 b0))
 else
 (Z4c x0 x3 x6 x7 x12 x13 x14 x26 x27 x28 b0)
theorem Zif (x0 : List Z0) x3 x6 x7 (x12 : List Z0) x13 x14 (x26 : List Z0) x27 x28 b0 ox0 ox12 ox26 z5 : Sim Zk (Z8X x0 x3 x6 x7 x12 x13 x14 x26 x27 x28 b0) (Zq4 0 (Zm ox0 (x0.map Z6)) (iv x3) (.ptr 0 0) (iv x6) (iv x7) (Zm ox12 (x12.map Z6)) (iv x13) (iv x14) (Zm ox26 (x26.map Z6)) (iv x27) (iv x28) [(Z1 b0 z5)]) := by
 unfold Z8X
 refine zf (Zw3 ..)<|ze<|zi fun a1 ha1 => zp (.cptr (Zi a1 .sh)) (et_ (Z1i (o := ox26) (k := .i64) (n := 5) (e := Z6) (cs := Z27) (fun _ => rfl) (fun _ => rfl) (by decide) ha1))<|zq<|zz (.ptr 1 0) [(Z1 b0 z5), (Z1 Zef .nl)]<|zt [(Z1 b0 z5), (Z1 a1 .sh)]<|ze<|zq<|zq<|zp (iv (a1.Log.length : Int)) (et_ (Z14 (P := PP) (t := 37) (d := 81) (by kernel_rfl) Z7 .sh a1.Log))<|zq ?_
 refine za (decide (x6 ≤ (a1.Log.length : Int))) ?_ ?_
 ·refine zq<|zq<|zi fun a2 ha2 => zp (Zm .sh (a2.map Z7)) (Eq.trans (by kernel_rfl) <| Z9n (n := 9) (o := .sh) (lo := none) (hi := (some (iv x6))) (e := Z7) (fun _ => rfl) (by decide) (by kernel_rfl) (by kernel_rfl) ha2)<|zq<|zq<|zi fun a3 ha3 => zp (Zm (slO (shrO z5)) (a3.map Z7)) (Eq.trans (by kernel_rfl) <| Z9n (n := 9) (o := (shrO z5)) (lo := none) (hi := (some (iv x6))) (e := Z7) (fun _ => rfl) (by decide) (by kernel_rfl) (by kernel_rfl) ha3)<|zi fun r4 hr4 => ?_
  obtain ⟨_, er4, _, rfl⟩ := ZeW a2 a3 .sh .sh r4 hr4
  refine zc [] (bv r4) [(Z1 b0 z5), (Z1 a1 .sh)] er4 ?_
  refine za r4 ?_ ?_
  ·exact zk (Zig x0 x3 x6 x7 x12 x13 x14 x26 x27 x28 b0 ox0 ox12 ox26 z5)
  ·exact zk (Z9r x0 x3 x6 x7 x12 x13 x14 x26 x27 x28 b0 ox0 ox12 ox26 z5)
 ·exact zk (Z9r x0 x3 x6 x7 x12 x13 x14 x26 x27 x28 b0 ox0 ox12 ox26 z5)
def Z5Y (x0 : List Z0) (x3 x6 : Int) (x12 : List Z0) (x13 x14 : Int) (b0 : Z0) : Option Int :=
 Z7z x0 x3 (IntKind.i64.wrap (x6 - 1)) x12 x13 x14 b0
theorem Zd4 (x0 : List Z0) x3 x6 (x12 : List Z0) x13 x14 b0 ox0 ox12 z5 : Sim Zk (Z5Y x0 x3 x6 x12 x13 x14 b0) (Zoy 0 (Zm ox0 (x0.map Z6)) (iv x3) (.ptr 0 0) (iv x6) (Zm ox12 (x12.map Z6)) (iv x13) (iv x14) [(Z1 b0 z5)]) := by
 unfold Z5Y
 refine zf (Zy2 ..)<|ze<|zq ?_
 exact zk (ZdM x0 x3 (IntKind.i64.wrap (x6 - 1)) x12 x13 x14 b0 ox0 ox12 z5)
def Z4d (x0 : List Z0) (x3 x6 x7 : Int) (x12 : List Z0) (x13 x14 : Int) (b0 : Z0) : Option Int :=
 if (decide ((x0.length : Int) < (IntKind.i64.wrap (2 * x7)))) = true then
 (Z5Y x0 x6 x6 x12 x13 x14 b0)
 else
 (Z5Y x0 x3 x6 x12 x13 x14 b0)
theorem Zih (x0 : List Z0) x3 x6 x7 (x12 : List Z0) x13 x14 b0 ox0 ox12 z5 : Sim Zk (Z4d x0 x3 x6 x7 x12 x13 x14 b0) (Zq6 0 (Zm ox0 (x0.map Z6)) (iv x3) (.ptr 0 0) (iv x6) (iv x7) (Zm ox12 (x12.map Z6)) (iv x13) (iv x14) [(Z1 b0 z5)]) := by
 unfold Z4d
 refine zf (Zw6 ..)<|ze<|zq<|zp (iv (x0.length : Int)) (et_ (Z14 (P := PP) (t := 22) (d := 39) (by kernel_rfl) Z6 (shrO ox0) x0))<|zq ?_
 refine za (decide ((x0.length : Int) < (IntKind.i64.wrap (2 * x7)))) ?_ ?_
 ·refine ze ?_
  exact zk (Zd4 x0 x6 x6 x12 x13 x14 b0 ox0 ox12 z5)
 ·exact zk (Zd4 x0 x3 x6 x12 x13 x14 b0 ox0 ox12 z5)
def Z6V (x0 : List Z0) (x3 x6 x7 : Int) (x12 : List Z0) (x13 x14 : Int) (x26 : List Z0) (x27 x28 : Int) (b0 : Z0) : Option Int :=
 if (decide (x28 < x27)) = true then
 (Z8X x0 x3 x6 x7 x12 x13 x14 x26 x27 x28 b0)
 else
 (Z4d x0 x3 x6 x7 x12 x13 x14 b0)
theorem Zie (x0 : List Z0) x3 x6 x7 (x12 : List Z0) x13 x14 (x26 : List Z0) x27 x28 b0 ox0 ox12 ox26 z5 : Sim Zk (Z6V x0 x3 x6 x7 x12 x13 x14 x26 x27 x28 b0) (ZiU 0 (Zm ox0 (x0.map Z6)) (iv x3) (.ptr 0 0) (iv x6) (iv x7) (Zm ox12 (x12.map Z6)) (iv x13) (iv x14) (Zm ox26 (x26.map Z6)) (iv x27) (iv x28) [(Z1 b0 z5)]) := by
 unfold Z6V
 refine zf (Zw2 ..)<|ze<|zq ?_
 refine za (decide (x28 < x27)) ?_ ?_
 ·exact zk (Zif x0 x3 x6 x7 x12 x13 x14 x26 x27 x28 b0 ox0 ox12 ox26 z5)
 ·exact zk (Zih x0 x3 x6 x7 x12 x13 x14 b0 ox0 ox12 z5)
theorem Zd2 x0 x3 x6 x7 x12 x13 x14 x26 x27 x28 b0 {r} (h : Z6V x0 x3 x6 x7 x12 x13 x14 x26 x27 x28 b0 = some r) : Z5n x0 x3 x6 x7 x12 x13 x14 x26 x27 x28 b0 = some r :=
 ZR (fun _ _ ha hb => ru_ Z1c (ha .ex .ex .ex .ex) (hb .ex .ex .ex .ex)) (fun ox0 ox12 ox26 z5 => Zie x0 x3 x6 x7 x12 x13 x14 x26 x27 x28 b0 ox0 ox12 ox26 z5 r h)
def Zdp (x0 x1 : Z0) : Option Bool :=
 (Z7o ([x0, x1] : List Z0)).bind fun r1 =>
 (lget r1 0).bind fun a2 =>
 (lget r1 1).bind fun a3 =>
 if (decide (a2.View ≤ a3.View)) = true then
 (if (decide (a2.Normal ≤ a3.Normal)) = true then
 (if (decide (a2.Commit ≤ a3.Commit)) = true then
 ((Z74 a2).bind fun r4 =>
 (Z74 a3).bind fun r5 =>
 (Z9Q r4 r5).bind fun r6 =>
 some r6)
 else
 (some false))
 else
 (some false))
 else
 (some false)
theorem ZnA x0 x1 zn zN : Sim Zd (Zdp x0 x1) (EE 24 [(pA_ (Zi x0 zn)), (pA_ (Zi x1 zN))] []) := by
 unfold Zdp
 refine zf (ZDN ..)<|ze<|zx (.ptr 0 0) [(Z1 x0 zn)]<|zx (.ptr 1 0) [(Z1 x0 zn), (Z1 x1 zN)]<|ze<|zq<|zq<|zq<|zi fun r1 hr1 => ?_
 obtain ⟨_, er1, _, rfl⟩ := Z8t ([x0, x1] : List Z0) .sh r1 hr1
 refine zc [] (Zm .sh (r1.map Z6)) [(Z1 x0 zn), (Z1 x1 zN)] er1<|ze<|zi fun a2 ha2 => zp (.cptr (Zi a2 .sh)) (et_ (Z1i (o := .sh) (k := .i64) (n := 5) (e := Z6) (cs := Z27) (fun _ => rfl) (fun _ => rfl) (by decide) ha2))<|zq<|zi fun a3 ha3 => zp (.cptr (Zi a3 .sh)) (et_ (Z1i (o := .sh) (k := .i64) (n := 5) (e := Z6) (cs := Z27) (fun _ => rfl) (fun _ => rfl) (by decide) ha3))<|zq<|zz (.ptr 2 0) [(Z1 x0 zn), (Z1 x1 zN), (Z1 Zef .nl)]<|zz (.ptr 3 0) [(Z1 x0 zn), (Z1 x1 zN), (Z1 Zef .nl), (Z1 Zef .nl)]<|zt [(Z1 x0 zn), (Z1 x1 zN), (Z1 a2 .sh), (Z1 Zef .nl)]<|zt [(Z1 x0 zn), (Z1 x1 zN), (Z1 a2 .sh), (Z1 a3 .sh)]<|zg<|zg<|zg<|zg<|zg<|ze<|zq<|zq<|zq<|zq<|zq ?_
 refine za (decide (a2.View ≤ a3.View)) ?_ ?_
 ·refine zq<|zq<|zq<|zq<|zq ?_
  refine za (decide (a2.Normal ≤ a3.Normal)) ?_ ?_
  ·refine zq<|zq<|zq<|zq<|zq ?_
   refine za (decide (a2.Commit ≤ a3.Commit)) ?_ ?_
   ·refine zq<|zi fun r4 hr4 => ?_
    obtain ⟨_, er4, _, rfl⟩ := Z9g a2 .sh r4 hr4
    refine zc [] (Zm .sh (r4.map Z7)) [(Z1 x0 zn), (Z1 x1 zN), (Z1 a2 .sh), (Z1 a3 .sh)] er4<|zq<|zi fun r5 hr5 => ?_
    obtain ⟨_, er5, _, rfl⟩ := Z9g a3 .sh r5 hr5
    refine zc [] (Zm .sh (r5.map Z7)) [(Z1 x0 zn), (Z1 x1 zN), (Z1 a2 .sh), (Z1 a3 .sh)] er5<|zi fun r6 hr6 => ?_
    obtain ⟨_, er6, _, rfl⟩ := Zgt r4 r5 .sh .sh r6 hr6
    refine zc [] (bv r6) [(Z1 x0 zn), (Z1 x1 zN), (Z1 a2 .sh), (Z1 a3 .sh)] er6<|zg ?_
    exact zr ((bv r6), [(Z1 x0 zn), (Z1 x1 zN), (Z1 a2 .sh), (Z1 a3 .sh)]) ⟨_, rfl⟩
   ·refine zg ?_
    exact zr ((bv false), [(Z1 x0 zn), (Z1 x1 zN), (Z1 a2 .sh), (Z1 a3 .sh)]) ⟨_, rfl⟩
  ·refine zg ?_
   exact zr ((bv false), [(Z1 x0 zn), (Z1 x1 zN), (Z1 a2 .sh), (Z1 a3 .sh)]) ⟨_, rfl⟩
 ·refine zg ?_
  exact zr ((bv false), [(Z1 x0 zn), (Z1 x1 zN), (Z1 a2 .sh), (Z1 a3 .sh)]) ⟨_, rfl⟩
theorem Zpi x0 x1 {r} (h : Zdp x0 x1 = some r) : Z1P x0 x1 = some r :=
 ZR (fun _ _ ha hb => ru_ ZZ (ha .ex .ex) (hb .ex .ex)) (fun zn zN => ZnA x0 x1 zn zN r h)
def Zdq (x0 : Z0) : Option (List ZJ) :=
 (Zcy).bind fun r1 =>
 (Z7o ([x0] : List Z0)).bind fun r2 =>
 (lget r2 0).bind fun a3 =>
 (Z74 a3).bind fun r4 =>
 Z9f r4 (r4.length : Int) 0 r1.1 r1.2.1 r1.2.2
theorem ZnB x0 zn : Sim Z2U (Zdq x0) (EE 19 [(pA_ (Zi x0 zn))] []) := by
 unfold Zdq
 refine zf (ZDH ..)<|ze<|zx (.ptr 0 0) [(Z1 x0 zn)]<|ze<|zi fun r1 hr1 => ?_
 obtain ⟨_, er1, zmU, _, zBu, rfl, _⟩ := Zny r1 hr1
 refine zc [] (.ptr 2 0) [(Z1 x0 zn), (rM_ ZV r1.1), [(Zm zmU (r1.2.1.map ZT)), (.mp 1), (iv r1.2.2)]] er1<|ze<|zq<|zq<|zi fun r2 hr2 => ?_
 obtain ⟨_, er2, _, rfl⟩ := Z8t ([x0] : List Z0) .sh r2 hr2
 refine zc [] (Zm .sh (r2.map Z6)) [(Z1 x0 zn), (rM_ ZV r1.1), [(Zm zmU (r1.2.1.map ZT)), (.mp 1), (iv r1.2.2)]] er2<|zi fun a3 ha3 => zp (.cptr (Zi a3 .sh)) (et_ (Z1i (o := .sh) (k := .i64) (n := 5) (e := Z6) (cs := Z27) (fun _ => rfl) (fun _ => rfl) (by decide) ha3))<|zq<|zi fun r4 hr4 => ?_
 obtain ⟨_, er4, _, rfl⟩ := Z9g a3 .sh r4 hr4
 refine zc [] (Zm .sh (r4.map Z7)) [(Z1 x0 zn), (rM_ ZV r1.1), [(Zm zmU (r1.2.1.map ZT)), (.mp 1), (iv r1.2.2)]] er4<|zp (iv (r4.length : Int)) (et_ (Z14 (P := PP) (t := 37) (d := 81) (by kernel_rfl) Z7 .sh r4)) ?_
 exact zk (Zfx r4 (r4.length : Int) 0 x0 r1.1 r1.2.1 r1.2.2 .sh zn zmU zBu)
theorem Zpj x0 {r} (h : Zdq x0 = some r) : Z56 x0 = some r :=
 ZR (fun _ _ ha hb => ru_ ZeI (ha .ex) (hb .ex)) (fun zn => ZnB x0 zn r h)
def Zdr (x16 : List Z3) (x17 x18 : Int) (z1g : List (Int × Z1d)) (z20 : List ZJ) (z2H : Int) : Option (List ZJ) :=
 (lget x16 x18).bind fun a1 =>
 (ZaN a1 z20 z2H z1g).bind fun r2 =>
 Z9f x16 x17 (IntKind.i64.wrap (x18 + 1)) z1g z20 z2H
theorem ZkL (x16 : List Z3) x17 x18 b0 z1g (z20 : List ZJ) z2H ox16 z5 z28 (z4k : Z1e z28 = true) : Sim Z2U (Zdr x16 x17 x18 z1g z20 z2H) (Zs3 0 (.ptr 2 0) (Zm ox16 (x16.map Z7)) (iv x17) (iv x18) [(Z1 b0 z5), (rM_ ZV z1g), [(Zm z28 (z20.map ZT)), (.mp 1), (iv z2H)]]) := by
 unfold Zdr
 refine zf (Zyc ..)<|ze<|zi fun a1 ha1 => zp (.cptr (Z1f a1 .sh .sh)) (et_ (Z1i (o := ox16) (k := .i64) (n := 9) (e := Z7) (cs := Z36) (fun _ => rfl) (fun _ => rfl) (by decide) ha1))<|zq<|zz (.ptr 3 0) [(Z1 b0 z5), (rM_ ZV z1g), [(Zm z28 (z20.map ZT)), (.mp 1), (iv z2H)], (ZE Zo7 .nl .nl)]<|zt [(Z1 b0 z5), (rM_ ZV z1g), [(Zm z28 (z20.map ZT)), (.mp 1), (iv z2H)], (ZE a1 .sh .sh)]<|ze<|zq<|zi fun r2 hr2 => ?_
 obtain ⟨_, er2, _, rfl⟩ := ZeS a1 z20 z2H z1g .sh .sh z28 z4k r2 hr2
 refine zc [2, 1] (.p (.tup [(.agg (ZfN r2.1)), (.v (.int .i64 r2.2))])) [(Z1 b0 z5), (rM_ ZV z1g), [(Zm z28 (z20.map ZT)), (.mp 1), (iv z2H)], (ZE a1 .sh .sh)] er2<|ze<|zq ?_
 exact zk (Zfx x16 x17 (IntKind.i64.wrap (x18 + 1)) b0 z1g z20 z2H ox16 z5 z28 z4k)
def ZaH (z20 : List ZJ) : Option (List ZJ) :=
 (Z4a z20).bind fun r1 =>
 Z7i ([] : List ZJ) (IntKind.i64.wrap (r1 + 1)) 0 z20
theorem ZkM b0 z1g (z20 : List ZJ) z2H z5 z28 (z4k : Z1e z28 = true) : Sim Z2U (ZaH z20) (Zs4 0 (.ptr 2 0) [(Z1 b0 z5), (rM_ ZV z1g), [(Zm z28 (z20.map ZT)), (.mp 1), (iv z2H)]]) := by
 unfold ZaH
 refine zf (Zyd ..)<|ze<|ze<|zi fun r1 hr1 => ?_
 obtain ⟨_, er1, _, rfl⟩ := ZcN z20 z2H z1g z28 z4k r1 hr1
 refine zc [2, 1] (iv r1) [(Z1 b0 z5), (rM_ ZV z1g), [(Zm z28 (z20.map ZT)), (.mp 1), (iv z2H)]] er1<|zq ?_
 exact zk (Zfz ([] : List ZJ) (IntKind.i64.wrap (r1 + 1)) 0 b0 z1g z20 z2H .nl z5 z28 rfl z4k)
def ZaG (x16 : List Z3) (x17 x18 : Int) (z1g : List (Int × Z1d)) (z20 : List ZJ) (z2H : Int) : Option (List ZJ) :=
 if (decide (x18 < x17)) = true then
 (Zdr x16 x17 x18 z1g z20 z2H)
 else
 (ZaH z20)
theorem ZkJ (x16 : List Z3) x17 x18 b0 z1g (z20 : List ZJ) z2H ox16 z5 z28 (z4k : Z1e z28 = true) : Sim Z2U (ZaG x16 x17 x18 z1g z20 z2H) (Zle 0 (.ptr 2 0) (Zm ox16 (x16.map Z7)) (iv x17) (iv x18) [(Z1 b0 z5), (rM_ ZV z1g), [(Zm z28 (z20.map ZT)), (.mp 1), (iv z2H)]]) := by
 unfold ZaG
 refine zf (Zya ..)<|ze<|zq ?_
 refine za (decide (x18 < x17)) ?_ ?_
 ·exact zk (ZkL x16 x17 x18 b0 z1g z20 z2H ox16 z5 z28 z4k)
 ·exact zk (ZkM b0 z1g z20 z2H z5 z28 z4k)
theorem ZlV x16 x17 x18 z1g z20 z2H {r} (h : ZaG x16 x17 x18 z1g z20 z2H = some r) : Z9f x16 x17 x18 z1g z20 z2H = some r :=
 ZR (fun _ _ ha hb => ru_ ZeI (ha default .ex .ex .ex rfl) (hb default .ex .ex .ex rfl)) (fun b0 ox16 z5 z28 z4k => ZkJ x16 x17 x18 b0 z1g z20 z2H ox16 z5 z28 z4k r h)
def Za6 (x6 : List ZJ) (x28 x29 : Int) (z20 : List ZJ) : Option (List ZJ) :=
 (Z5B x29 z20).bind fun r1 =>
 (lapp x6 ([r1.1] : List ZJ)).bind fun a2 =>
 Z7i a2 x28 (IntKind.i64.wrap (x29 + 1)) z20
theorem ZjV (x6 : List ZJ) x28 x29 b0 z1g (z20 : List ZJ) z2H ox6 z5 z28 (hox6 : Z1e ox6 = true) (z4k : Z1e z28 = true) : Sim Z2U (Za6 x6 x28 x29 z20) (Zqe 0 (.ptr 2 0) (Zm ox6 (x6.map ZT)) (iv x28) (iv x29) [(Z1 b0 z5), (rM_ ZV z1g), [(Zm z28 (z20.map ZT)), (.mp 1), (iv z2H)]]) := by
 unfold Za6
 refine zf (Zwf ..)<|ze<|ze<|zi fun r1 hr1 => ?_
 obtain ⟨_, er1, _, rfl⟩ := ZeU x29 z20 z2H z1g z28 z4k r1 hr1
 refine zc [2, 1] (.p (.tup [(.agg (Z3j r1.1 .sh)), (.v (.bool r1.2))])) [(Z1 b0 z5), (rM_ ZV z1g), [(Zm z28 (z20.map ZT)), (.mp 1), (iv z2H)]] er1<|zq<|zq<|zz (.ptr 3 0) [(Z1 b0 z5), (rM_ ZV z1g), [(Zm z28 (z20.map ZT)), (.mp 1), (iv z2H)], (Z1V Zhy .nl)]<|zt [(Z1 b0 z5), (rM_ ZV z1g), [(Zm z28 (z20.map ZT)), (.mp 1), (iv z2H)], (Z1V r1.1 .sh)]<|ze<|zq<|zq<|zi fun a2 ha2 => zp (Zm .un (a2.map ZT)) (Eq.trans (by kernel_rfl) <| Z4E (n := 5) (o := ox6) (o' := .ex) (e := ZT) (ys := ([r1.1] : List ZJ)) (fun _ => rfl) (by decide) hox6 ha2)<|ze<|zq ?_
 exact zk (Zfz a2 x28 (IntKind.i64.wrap (x29 + 1)) b0 z1g z20 z2H .un z5 z28 rfl z4k)
def Za7 (x6 : List ZJ) : Option (List ZJ) :=
 some x6
theorem ZjW (x6 : List ZJ) ox6 (hox6 : Z1e ox6 = true) : Sim Z2U (Za7 x6) (Zqf 0 (Zm ox6 (x6.map ZT)) []) := by
 unfold Za7
 refine zf (Zwg ..)<|ze ?_
 exact zr ((Zm .sh (x6.map ZT)), []) ⟨_, rfl⟩
def Z90 (x6 : List ZJ) (x28 x29 : Int) (z20 : List ZJ) : Option (List ZJ) :=
 if (decide (x29 < x28)) = true then
 (Za6 x6 x28 x29 z20)
 else
 (Za7 x6)
theorem ZkK (x6 : List ZJ) x28 x29 b0 z1g (z20 : List ZJ) z2H ox6 z5 z28 (hox6 : Z1e ox6 = true) (z4k : Z1e z28 = true) : Sim Z2U (Z90 x6 x28 x29 z20) (Zlf 0 (.ptr 2 0) (Zm ox6 (x6.map ZT)) (iv x28) (iv x29) [(Z1 b0 z5), (rM_ ZV z1g), [(Zm z28 (z20.map ZT)), (.mp 1), (iv z2H)]]) := by
 unfold Z90
 refine zf (Zyb ..)<|ze<|zq ?_
 refine za (decide (x29 < x28)) ?_ ?_
 ·exact zk (ZjV x6 x28 x29 b0 z1g z20 z2H ox6 z5 z28 hox6 z4k)
 ·exact zk (ZjW x6 ox6 hox6)
theorem Zfy x6 x28 x29 z20 {r} (h : Z90 x6 x28 x29 z20 = some r) : Z7i x6 x28 x29 z20 = some r :=
 ZR (fun _ _ ha hb => ru_ ZeI (ha default default default .ex .ex .ex rfl rfl) (hb default default default .ex .ex .ex rfl rfl)) (fun b0 z1g z2H ox6 z5 z28 hox6 z4k => ZkK x6 x28 x29 b0 z1g z20 z2H ox6 z5 z28 hox6 z4k r h)
def Zcr : Option ((List (Int × Z1d)) × (List ZJ) × Int) :=
 (Ze0).bind fun r1 =>
 some (([] : List (Int × Z1d)), ([r1] : List ZJ), 0)
theorem ZmY : Sim Zcq Zcr (EE 36 [] []) := by
 unfold Zcr
 refine zf (ZE9 ..)<|ze<|ze<|zi fun r1 hr1 => ?_
 obtain ⟨_, er1, _, rfl⟩ := Zpp r1 hr1
 refine zc [] (pA_ (Z3j r1 .sh)) [] er1<|zq<|zm (.mp 0) [(rM_ ZV ([] : List (Int × Z1d)))]<|zq<|zx (.ptr 1 0) [(rM_ ZV ([] : List (Int × Z1d))), [(Zm .ex (([r1] : List ZJ).map ZT)), (.mp 0), (iv 0)]] ?_
 exact zr ((.ptr 1 0), [(rM_ ZV ([] : List (Int × Z1d))), [(Zm .ex (([r1] : List ZJ).map ZT)), (.mp 0), (iv 0)]]) ⟨.ex, [], rfl, rfl, rfl⟩
theorem Znx {r} (h : Zcr = some r) : Zcy = some r :=
 ZR (fun _ _ ha hb => ru_ Zo9 ha hb) (ZmY r h)
def ZgZ : Option ZJ :=
 some (ZJ.mk 0 255 10000 500 ([] : List Z9))
theorem ZnK : Sim Zdn ZgZ (EE 54 [] []) := by
 unfold ZgZ
 refine zf (ZEH ..)<|ze<|zz (.ptr 0 0) [(Z1V Zhy .nl)]<|ze<|zq<|zt [(Z1V (ZJ.mk 0 255 10000 500 ([] : List Z9)) .nl)] ?_
 exact zr ((pA_ (Z3j (ZJ.mk 0 255 10000 500 ([] : List Z9)) .sh)), [(Z1V (ZJ.mk 0 255 10000 500 ([] : List Z9)) .nl)]) ⟨_, rfl⟩
theorem Zpo {r} (h : ZgZ = some r) : Ze0 = some r :=
 ZR (fun _ _ ha hb => ru_ ZpU ha hb) (ZnK r h)
def Z46 (z1A : List ZJ) : Option Int :=
 some (IntKind.i64.wrap ((z1A.length : Int) - 1))
theorem Zcb (z1A : List ZJ) z2a z1g z1s (z5R : Z1e z1s = true) : Sim (Z40 z1A z2a z1g z1s) (Z46 z1A) (EE 38 [(.ptr 0 0)] [[(Zm z1s (z1A.map ZT)), (.mp 1), (iv z2a)], (rM_ ZV z1g)]) := by
 unfold Z46
 refine zf (ZEa ..)<|ze<|ze<|zq<|zq<|zq<|zp (iv (z1A.length : Int)) (et_ (Z14 (P := PP) (t := 40) (d := 51) (by kernel_rfl) ZT (shrO z1s) z1A))<|zq ?_
 exact zr ((iv (IntKind.i64.wrap ((z1A.length : Int) - 1))), [[(Zm z1s (z1A.map ZT)), (.mp 1), (iv z2a)], (rM_ ZV z1g)]) ⟨_, rfl⟩
theorem ZcM z1A {r} (h : Z46 z1A = some r) : Z4a z1A = some r :=
 ZR (fun _ _ ha hb => ru_ (Zdb _ _ _ _) (ha default default .ex rfl) (hb default default .ex rfl)) (fun z2a z1g z1s z5R => Zcb z1A z2a z1g z1s z5R r h)
def Z4s : Option (ZJ × Bool) :=
 some ((ZJ.mk 0 0 0 0 ([] : List Z9)), false)
theorem Z8p (z1A : List ZJ) z2a z1g b2 z1s z9l (z5R : Z1e z1s = true) (zwU : Z1e z9l = true) : Sim (Z32 z1A z2a z1g z1s) Z4s (ZoO 2 (.ptr 2 0) [[(Zm z1s (z1A.map ZT)), (.mp 1), (iv z2a)], (rM_ ZV z1g), (Z1V b2 z9l)]) := by
 unfold Z4s
 refine zf (ZyE ..)<|ze<|zq<|zt [[(Zm z1s (z1A.map ZT)), (.mp 1), (iv z2a)], (rM_ ZV z1g), (Z1V Zhy .nl)] ?_
 exact zr ((.p (.tup [(.agg (Z3j Zhy .sh)), (.v (.bool false))])), [[(Zm z1s (z1A.map ZT)), (.mp 1), (iv z2a)], (rM_ ZV z1g), (Z1V Zhy .nl)]) ⟨_, rfl⟩
def Z4t (x1 : Int) (z1A : List ZJ) : Option (ZJ × Bool) :=
 (lget z1A x1).bind fun a1 =>
 (ZaB a1.Rules).bind fun r2 =>
 some ((ZJ.mk a1.Default a1.Closed a1.Fuel a1.Stack r2), true)
theorem ZcL x1 (z1A : List ZJ) z2a z1g b2 z1s z9l (z5R : Z1e z1s = true) (zwU : Z1e z9l = true) : Sim (Z32 z1A z2a z1g z1s) (Z4t x1 z1A) (Zsw 2 (.ptr 0 0) (iv x1) (.ptr 2 0) [[(Zm z1s (z1A.map ZT)), (.mp 1), (iv z2a)], (rM_ ZV z1g), (Z1V b2 z9l)]) := by
 unfold Z4t
 refine zf (ZyF ..)<|ze<|zq<|zq<|zq<|zi fun a1 ha1 => zp (.cptr (Z3j a1 .sh)) (et_ (Z1i (o := (shrO z1s)) (k := .i64) (n := 5) (e := ZT) (cs := Zf9) (fun _ => rfl) (fun _ => rfl) (by decide) ha1))<|zq<|zz (.ptr 3 0) [[(Zm z1s (z1A.map ZT)), (.mp 1), (iv z2a)], (rM_ ZV z1g), (Z1V b2 z9l), (Z1V Zhy .nl)]<|zt [[(Zm z1s (z1A.map ZT)), (.mp 1), (iv z2a)], (rM_ ZV z1g), (Z1V b2 z9l), (Z1V a1 .sh)]<|ze<|zq<|zq<|zi fun r2 hr2 => ?_
 obtain ⟨_, er2, _, rfl⟩ := ZiE a1.Rules .sh r2 hr2
 refine zc [] (Zm .sh (r2.map Z8)) [[(Zm z1s (z1A.map ZT)), (.mp 1), (iv z2a)], (rM_ ZV z1g), (Z1V b2 z9l), (Z1V a1 .sh)] er2<|zq<|zt [[(Zm z1s (z1A.map ZT)), (.mp 1), (iv z2a)], (rM_ ZV z1g), (Z1V b2 z9l), (Z1V (ZJ.mk a1.Default a1.Closed a1.Fuel a1.Stack r2) .sh)]<|ze<|zq<|zt [[(Zm z1s (z1A.map ZT)), (.mp 1), (iv z2a)], (rM_ ZV z1g), (Z1V (ZJ.mk a1.Default a1.Closed a1.Fuel a1.Stack r2) .sh), (Z1V (ZJ.mk a1.Default a1.Closed a1.Fuel a1.Stack r2) .sh)] ?_
 exact zr ((.p (.tup [(.agg (Z3j (ZJ.mk a1.Default a1.Closed a1.Fuel a1.Stack r2) .sh)), (.v (.bool true))])), [[(Zm z1s (z1A.map ZT)), (.mp 1), (iv z2a)], (rM_ ZV z1g), (Z1V (ZJ.mk a1.Default a1.Closed a1.Fuel a1.Stack r2) .sh), (Z1V (ZJ.mk a1.Default a1.Closed a1.Fuel a1.Stack r2) .sh)]) ⟨_, rfl⟩
def Z5x (x1 : Int) (z1A : List ZJ) : Option (ZJ × Bool) :=
 if (decide (x1 < 0)) = true then
 Z4s
 else
 (if (decide ((z1A.length : Int) ≤ x1)) = true then
 Z4s
 else
 (Z4t x1 z1A))
theorem Zes x1 (z1A : List ZJ) z2a z1g z1s (z5R : Z1e z1s = true) : Sim (Z32 z1A z2a z1g z1s) (Z5x x1 z1A) (EE 39 [(.ptr 0 0), (iv x1)] [[(Zm z1s (z1A.map ZT)), (.mp 1), (iv z2a)], (rM_ ZV z1g)]) := by
 unfold Z5x
 refine zf (ZEb ..)<|ze<|zz (.ptr 2 0) [[(Zm z1s (z1A.map ZT)), (.mp 1), (iv z2a)], (rM_ ZV z1g), (Z1V Zhy .nl)]<|ze<|zq ?_
 refine za (decide (x1 < 0)) ?_ ?_
 ·exact zk (Z8p z1A z2a z1g Zhy z1s .nl z5R rfl)
 ·refine zq<|zq<|zq<|zp (iv (z1A.length : Int)) (et_ (Z14 (P := PP) (t := 40) (d := 51) (by kernel_rfl) ZT (shrO z1s) z1A))<|zq ?_
  refine za (decide ((z1A.length : Int) ≤ x1)) ?_ ?_
  ·exact zk (Z8p z1A z2a z1g Zhy z1s .nl z5R rfl)
  ·exact zk (ZcL x1 z1A z2a z1g Zhy z1s .nl z5R rfl)
theorem ZeT x1 z1A {r} (h : Z5x x1 z1A = some r) : Z5B x1 z1A = some r :=
 ZR (fun _ _ ha hb => ru_ (Zfh _ _ _ _) (ha default default .ex rfl) (hb default default .ex rfl)) (fun z2a z1g z1s z5R => Zes x1 z1A z2a z1g z1s z5R r h)
def Z79 (x0 : List Z0) : Option Bool :=
 Z4g x0 x0 (x0.length : Int) 0
theorem ZgC (x0 : List Z0) ox0 : Sim Zd (Z79 x0) (EE 11 [(Zm ox0 (x0.map Z6))] []) := by
 unfold Z79
 refine zf (ZDg ..)<|ze<|ze<|zp (iv (x0.length : Int)) (et_ (Z14 (P := PP) (t := 22) (d := 39) (by kernel_rfl) Z6 (shrO ox0) x0)) ?_
 exact zk (Z9V x0 x0 (x0.length : Int) 0 ox0 (shrO ox0))
theorem Zh6 x0 {r} (h : Z79 x0 = some r) : Z1u x0 = some r :=
 ZR (fun _ _ ha hb => ru_ ZZ (ha .ex) (hb .ex)) (fun ox0 => ZgC x0 ox0 r h)
def Z39 : Option Bool :=
 some false
theorem Z9K : Sim Zd Z39 (Zol 0 []) := by
 unfold Z39
 refine zf (ZxJ ..)<|ze ?_
 exact zr ((bv false), []) ⟨_, rfl⟩
def Z3a (x0 x5 : List Z0) (x6 x7 : Int) : Option Bool :=
 Z4g x0 x5 x6 (IntKind.i64.wrap (x7 + 1))
theorem Z9L (x0 x5 : List Z0) x6 x7 ox0 ox5 : Sim Zd (Z3a x0 x5 x6 x7) (Zom 0 (Zm ox0 (x0.map Z6)) (Zm ox5 (x5.map Z6)) (iv x6) (iv x7) []) := by
 unfold Z3a
 refine zf (ZxK ..)<|ze<|zq ?_
 exact zk (Z9V x0 x5 x6 (IntKind.i64.wrap (x7 + 1)) ox0 ox5)
def Z2D (x0 x5 : List Z0) (x6 x7 : Int) : Option Bool :=
 (lget x5 x7).bind fun a1 =>
 (Z5A a1).bind fun r2 =>
 if (!r2) = true then
 Z39
 else
 (if (decide (10 < (a1.Log.length : Int))) = true then
 (if (decide ((a1.Log.length : Int) ≤ 64)) = true then
 Z39
 else
 (Z3a x0 x5 x6 x7))
 else
 (Z3a x0 x5 x6 x7))
theorem ZeO (x0 x5 : List Z0) x6 x7 ox0 ox5 : Sim Zd (Z2D x0 x5 x6 x7) (Zrq 0 (Zm ox0 (x0.map Z6)) (Zm ox5 (x5.map Z6)) (iv x6) (iv x7) []) := by
 unfold Z2D
 refine zf (ZxI ..)<|ze<|zi fun a1 ha1 => zp (.cptr (Zi a1 .sh)) (et_ (Z1i (o := ox5) (k := .i64) (n := 5) (e := Z6) (cs := Z27) (fun _ => rfl) (fun _ => rfl) (by decide) ha1))<|zq<|zz (.ptr 0 0) [(Z1 Zef .nl)]<|zt [(Z1 a1 .sh)]<|ze<|zq<|zi fun r2 hr2 => ?_
 obtain ⟨_, er2, _, rfl⟩ := ZeR a1 .sh r2 hr2
 refine zc [] (bv r2) [(Z1 a1 .sh)] er2<|zq ?_
 refine za (!r2) ?_ ?_
 ·exact zk Z9K
 ·refine zq<|zq<|zp (iv (a1.Log.length : Int)) (et_ (Z14 (P := PP) (t := 37) (d := 81) (by kernel_rfl) Z7 .sh a1.Log))<|zq ?_
  refine za (decide (10 < (a1.Log.length : Int))) ?_ ?_
  ·refine zq<|zq<|zp (iv (a1.Log.length : Int)) (et_ (Z14 (P := PP) (t := 37) (d := 81) (by kernel_rfl) Z7 .sh a1.Log))<|zq ?_
   refine za (decide ((a1.Log.length : Int) ≤ 64)) ?_ ?_
   ·exact zk Z9K
   ·exact zk (Z9L x0 x5 x6 x7 ox0 ox5)
  ·exact zk (Z9L x0 x5 x6 x7 ox0 ox5)
def Z5F (x0 : List Z0) : Option Bool :=
 some (decide ((x0.length : Int) ≤ 9))
theorem ZeP (x0 : List Z0) ox0 : Sim Zd (Z5F x0) (Zrr 0 (Zm ox0 (x0.map Z6)) []) := by
 unfold Z5F
 refine zf (ZxL ..)<|ze<|zp (iv (x0.length : Int)) (et_ (Z14 (P := PP) (t := 22) (d := 39) (by kernel_rfl) Z6 (shrO ox0) x0))<|zq ?_
 exact zr ((bv (decide ((x0.length : Int) ≤ 9))), []) ⟨_, rfl⟩
def Z2i (x0 x5 : List Z0) (x6 x7 : Int) : Option Bool :=
 if (decide (x7 < x6)) = true then
 (Z2D x0 x5 x6 x7)
 else
 (Z5F x0)
theorem ZeN (x0 x5 : List Z0) x6 x7 ox0 ox5 : Sim Zd (Z2i x0 x5 x6 x7) (ZkY 0 (Zm ox0 (x0.map Z6)) (Zm ox5 (x5.map Z6)) (iv x6) (iv x7) []) := by
 unfold Z2i
 refine zf (ZxH ..)<|ze<|zq ?_
 refine za (decide (x7 < x6)) ?_ ?_
 ·exact zk (ZeO x0 x5 x6 x7 ox0 ox5)
 ·exact zk (ZeP x0 ox0)
theorem Z3l x0 x5 x6 x7 {r} (h : Z2i x0 x5 x6 x7 = some r) : Z4g x0 x5 x6 x7 = some r :=
 ZR (fun _ _ ha hb => ru_ ZZ (ha .ex .ex) (hb .ex .ex)) (fun ox0 ox5 => ZeN x0 x5 x6 x7 ox0 ox5 r h)
def Z5w (x0 : Z0) : Option Bool :=
 (Z6i x0.Log).bind fun r1 =>
 some r1
theorem Zer x0 zn : Sim Zd (Z5w x0) (EE 27 [(pA_ (Zi x0 zn))] []) := by
 unfold Z5w
 refine zf (ZDT ..)<|ze<|zx (.ptr 0 0) [(Z1 x0 zn)]<|ze<|zq<|zq<|zi fun r1 hr1 => ?_
 obtain ⟨_, er1, _, rfl⟩ := Zg6 x0.Log .sh r1 hr1
 refine zc [] (bv r1) [(Z1 x0 zn)] er1 ?_
 exact zr ((bv r1), [(Z1 x0 zn)]) ⟨_, rfl⟩
theorem ZeQ x0 {r} (h : Z5w x0 = some r) : Z5A x0 = some r :=
 ZR (fun _ _ ha hb => ru_ ZZ (ha .ex) (hb .ex)) (fun zn => Zer x0 zn r h)
def Z69 (x0 : List Z3) : Option Bool :=
 Z2R x0 x0 (x0.length : Int) 0
theorem Zfw (x0 : List Z3) ox0 : Sim Zd (Z69 x0) (EE 48 [(Zm ox0 (x0.map Z7))] []) := by
 unfold Z69
 refine zf (ZEq ..)<|ze<|ze<|zp (iv (x0.length : Int)) (et_ (Z14 (P := PP) (t := 37) (d := 81) (by kernel_rfl) Z7 (shrO ox0) x0)) ?_
 exact zk (Z9y x0 x0 (x0.length : Int) 0 ox0 (shrO ox0))
theorem Zg5 x0 {r} (h : Z69 x0 = some r) : Z6i x0 = some r :=
 ZR (fun _ _ ha hb => ru_ ZZ (ha .ex) (hb .ex)) (fun ox0 => Zfw x0 ox0 r h)
def Z2Q : Option Bool :=
 some false
theorem Z9e : Sim Zd Z2Q (Zp0 0 []) := by
 unfold Z2Q
 refine zf (Zz0 ..)<|ze ?_
 exact zr ((bv false), []) ⟨_, rfl⟩
def Z5c (x0 x7 : List Z3) (x8 x9 : Int) (b0 : Z3) : Option Bool :=
 Z3s x0 x7 x8 x9 b0.Delta.Put (b0.Delta.Put.length : Int) 0
theorem ZdH (x0 x7 : List Z3) x8 x9 b0 ox0 ox7 zS zQ : Sim Zd (Z5c x0 x7 x8 x9 b0) (ZsV 0 (Zm ox0 (x0.map Z7)) (.ptr 0 0) (Zm ox7 (x7.map Z7)) (iv x8) (iv x9) [(ZE b0 zS zQ)]) := by
 unfold Z5c
 refine zf (Zz1 ..)<|ze<|zq<|zq<|zq<|zp (iv (b0.Delta.Put.length : Int)) (et_ (Z14 (P := PP) (t := 49) (d := 104) (by kernel_rfl) Z8 (shrO zS) b0.Delta.Put)) ?_
 exact zk (Z9z x0 x7 x8 x9 b0.Delta.Put (b0.Delta.Put.length : Int) 0 ox0 ox7 (shrO zS))
def Z2P (x0 x7 : List Z3) (x8 x9 : Int) : Option Bool :=
 (lget x7 x9).bind fun a1 =>
 if (decide (20 < (a1.Delta.Put.length : Int))) = true then
 Z2Q
 else
 (if (decide (20 < (a1.Delta.Drop.length : Int))) = true then
 Z2Q
 else
 (Z5c x0 x7 x8 x9 a1))
theorem ZdG (x0 x7 : List Z3) x8 x9 ox0 ox7 : Sim Zd (Z2P x0 x7 x8 x9) (ZsU 0 (Zm ox0 (x0.map Z7)) (Zm ox7 (x7.map Z7)) (iv x8) (iv x9) []) := by
 unfold Z2P
 refine zf (ZyZ ..)<|ze<|zi fun a1 ha1 => zp (.cptr (Z1f a1 .sh .sh)) (et_ (Z1i (o := ox7) (k := .i64) (n := 9) (e := Z7) (cs := Z36) (fun _ => rfl) (fun _ => rfl) (by decide) ha1))<|zq<|zz (.ptr 0 0) [(ZE Zo7 .nl .nl)]<|zt [(ZE a1 .sh .sh)]<|ze<|zq<|zq<|zq<|zp (iv (a1.Delta.Put.length : Int)) (et_ (Z14 (P := PP) (t := 49) (d := 104) (by kernel_rfl) Z8 .sh a1.Delta.Put))<|zq ?_
 refine za (decide (20 < (a1.Delta.Put.length : Int))) ?_ ?_
 ·exact zk Z9e
 ·refine zq<|zq<|zq<|zp (iv (a1.Delta.Drop.length : Int)) (et_ (Z14 (P := PP) (t := 77) (d := 3) (by kernel_rfl) (eI .i64) .sh a1.Delta.Drop))<|zq ?_
  refine za (decide (20 < (a1.Delta.Drop.length : Int))) ?_ ?_
  ·exact zk Z9e
  ·exact zk (ZdH x0 x7 x8 x9 a1 ox0 ox7 .sh .sh)
def Z4Q (x0 : List Z3) : Option Bool :=
 some (decide ((x0.length : Int) ≤ 70))
theorem Zdg (x0 : List Z3) ox0 : Sim Zd (Z4Q x0) (Zqn 0 (Zm ox0 (x0.map Z7)) []) := by
 unfold Z4Q
 refine zf (Zwu ..)<|ze<|zp (iv (x0.length : Int)) (et_ (Z14 (P := PP) (t := 37) (d := 81) (by kernel_rfl) Z7 (shrO ox0) x0))<|zq ?_
 exact zr ((bv (decide ((x0.length : Int) ≤ 70))), []) ⟨_, rfl⟩
def Z2n (x0 x7 : List Z3) (x8 x9 : Int) : Option Bool :=
 if (decide (x9 < x8)) = true then
 (Z2P x0 x7 x8 x9)
 else
 (Z4Q x0)
theorem ZdE (x0 x7 : List Z3) x8 x9 ox0 ox7 : Sim Zd (Z2n x0 x7 x8 x9) (Zlv 0 (Zm ox0 (x0.map Z7)) (Zm ox7 (x7.map Z7)) (iv x8) (iv x9) []) := by
 unfold Z2n
 refine zf (ZyX ..)<|ze<|zq ?_
 refine za (decide (x9 < x8)) ?_ ?_
 ·exact zk (ZdG x0 x7 x8 x9 ox0 ox7)
 ·exact zk (Zdg x0 ox0)
theorem Z49 x0 x7 x8 x9 {r} (h : Z2n x0 x7 x8 x9 = some r) : Z2R x0 x7 x8 x9 = some r :=
 ZR (fun _ _ ha hb => ru_ ZZ (ha .ex .ex) (hb .ex .ex)) (fun ox0 ox7 => ZdE x0 x7 x8 x9 ox0 ox7 r h)
def Z4O (x0 x7 : List Z3) (x8 x9 : Int) (x27 : List Z9) (x28 x29 : Int) : Option Bool :=
 Z3s x0 x7 x8 x9 x27 x28 (IntKind.i64.wrap (x29 + 1))
theorem Zde (x0 x7 : List Z3) x8 x9 (x27 : List Z9) x28 x29 ox0 ox7 ox27 : Sim Zd (Z4O x0 x7 x8 x9 x27 x28 x29) (Zql 0 (Zm ox0 (x0.map Z7)) (Zm ox7 (x7.map Z7)) (iv x8) (iv x9) (Zm ox27 (x27.map Z8)) (iv x28) (iv x29) []) := by
 unfold Z4O
 refine zf (Zws ..)<|ze<|zq ?_
 exact zk (Z9z x0 x7 x8 x9 x27 x28 (IntKind.i64.wrap (x29 + 1)) ox0 ox7 ox27)
def Z3r (x0 x7 : List Z3) (x8 x9 : Int) (x27 : List Z9) (x28 x29 : Int) : Option Bool :=
 (lget x27 x29).bind fun a1 =>
 if (decide (300 < (a1.Pattern.size : Int))) = true then
 (some false)
 else
 (Z4O x0 x7 x8 x9 x27 x28 x29)
theorem ZdI (x0 x7 : List Z3) x8 x9 (x27 : List Z9) x28 x29 ox0 ox7 ox27 : Sim Zd (Z3r x0 x7 x8 x9 x27 x28 x29) (ZsW 0 (Zm ox0 (x0.map Z7)) (Zm ox7 (x7.map Z7)) (iv x8) (iv x9) (Zm ox27 (x27.map Z8)) (iv x28) (iv x29) []) := by
 unfold Z3r
 refine zf (Zz2 ..)<|ze<|zi fun a1 ha1 => zp (.cptr (Z11 a1)) (et_ (Z1i (o := ox27) (k := .i64) (n := 5) (e := Z8) (cs := Z1L) (fun _ => rfl) (fun _ => rfl) (by decide) ha1))<|zq<|zz (.ptr 0 0) [(ZW (Z9.mk 0 0 0 0 (ByteArray.mk #[])))]<|zt [(ZW a1)]<|ze<|zq<|zq<|zq<|zq ?_
 refine za (decide (300 < (a1.Pattern.size : Int))) ?_ ?_
 ·refine ze ?_
  exact zr ((bv false), [(ZW a1)]) ⟨_, rfl⟩
 ·exact zk (Zde x0 x7 x8 x9 x27 x28 x29 ox0 ox7 ox27)
def Z4P (x0 x7 : List Z3) (x8 x9 : Int) : Option Bool :=
 Z2R x0 x7 x8 (IntKind.i64.wrap (x9 + 1))
theorem Zdf (x0 x7 : List Z3) x8 x9 ox0 ox7 : Sim Zd (Z4P x0 x7 x8 x9) (Zqm 0 (Zm ox0 (x0.map Z7)) (Zm ox7 (x7.map Z7)) (iv x8) (iv x9) []) := by
 unfold Z4P
 refine zf (Zwt ..)<|ze<|zq ?_
 exact zk (Z9y x0 x7 x8 (IntKind.i64.wrap (x9 + 1)) ox0 ox7)
def Z2O (x0 x7 : List Z3) (x8 x9 : Int) (x27 : List Z9) (x28 x29 : Int) : Option Bool :=
 if (decide (x29 < x28)) = true then
 (Z3r x0 x7 x8 x9 x27 x28 x29)
 else
 (Z4P x0 x7 x8 x9)
theorem ZdF (x0 x7 : List Z3) x8 x9 (x27 : List Z9) x28 x29 ox0 ox7 ox27 : Sim Zd (Z2O x0 x7 x8 x9 x27 x28 x29) (Zlw 0 (Zm ox0 (x0.map Z7)) (Zm ox7 (x7.map Z7)) (iv x8) (iv x9) (Zm ox27 (x27.map Z8)) (iv x28) (iv x29) []) := by
 unfold Z2O
 refine zf (ZyY ..)<|ze<|zq ?_
 refine za (decide (x29 < x28)) ?_ ?_
 ·exact zk (ZdI x0 x7 x8 x9 x27 x28 x29 ox0 ox7 ox27)
 ·exact zk (Zdf x0 x7 x8 x9 ox0 ox7)
theorem Z65 x0 x7 x8 x9 x27 x28 x29 {r} (h : Z2O x0 x7 x8 x9 x27 x28 x29 = some r) : Z3s x0 x7 x8 x9 x27 x28 x29 = some r :=
 ZR (fun _ _ ha hb => ru_ ZZ (ha .ex .ex .ex) (hb .ex .ex .ex)) (fun ox0 ox7 ox27 => ZdF x0 x7 x8 x9 x27 x28 x29 ox0 ox7 ox27 r h)
def Z6B (x0 : List Z0) : Option (List Z2) :=
 Z3W ([] : List Z2) x0 (x0.length : Int) 0
theorem Zg3 (x0 : List Z0) ox0 : Sim Z25 (Z6B x0) (EE 14 [(Zm ox0 (x0.map Z6))] []) := by
 unfold Z6B
 refine zf (ZDq ..)<|ze<|ze<|ze<|zp (iv (x0.length : Int)) (et_ (Z14 (P := PP) (t := 22) (d := 39) (by kernel_rfl) Z6 (shrO ox0) x0)) ?_
 exact zk (Z9N ([] : List Z2) x0 (x0.length : Int) 0 .nl (shrO ox0) rfl)
theorem ZgD x0 {r} (h : Z6B x0 = some r) : Z1B x0 = some r :=
 ZR (fun _ _ ha hb => ru_ ZaF (ha .ex) (hb .ex)) (fun ox0 => Zg3 x0 ox0 r h)
def Z5s (x3 : List Z2) (x6 : List Z0) (x7 x8 : Int) : Option (List Z2) :=
 (lget x6 x8).bind fun a1 =>
 (Z7Z a1).bind fun r2 =>
 (lapp x3 ([r2] : List Z2)).bind fun a3 =>
 Z3W a3 x6 x7 (IntKind.i64.wrap (x8 + 1))
theorem Zem (x3 : List Z2) (x6 : List Z0) x7 x8 ox3 ox6 (hox3 : Z1e ox3 = true) : Sim Z25 (Z5s x3 x6 x7 x8) (ZrC 0 (Zm ox3 (x3.map Zc)) (Zm ox6 (x6.map Z6)) (iv x7) (iv x8) []) := by
 unfold Z5s
 refine zf (ZxS ..)<|ze<|zi fun a1 ha1 => zp (.cptr (Zi a1 .sh)) (et_ (Z1i (o := ox6) (k := .i64) (n := 5) (e := Z6) (cs := Z27) (fun _ => rfl) (fun _ => rfl) (by decide) ha1))<|zq<|zz (.ptr 0 0) [(Z1 Zef .nl)]<|zt [(Z1 a1 .sh)]<|ze<|zq<|zi fun r2 hr2 => ?_
 obtain ⟨_, er2, _, rfl⟩ := ZhC a1 .sh r2 hr2
 refine zc [] (pA_ (ZP r2 .sh)) [(Z1 a1 .sh)] er2<|zq<|zi fun a3 ha3 => zp (Zm .un (a3.map Zc)) (Eq.trans (by kernel_rfl) <| Z4E (n := 5) (o := ox3) (o' := .ex) (e := Zc) (ys := ([r2] : List Z2)) (fun _ => rfl) (by decide) hox3 ha3)<|ze<|zq ?_
 exact zk (Z9N a3 x6 x7 (IntKind.i64.wrap (x8 + 1)) .un ox6 rfl)
def Z5t (x3 : List Z2) : Option (List Z2) :=
 (Zcz x3).bind fun r1 =>
 some r1
theorem Zen (x3 : List Z2) ox3 (hox3 : Z1e ox3 = true) : Sim Z25 (Z5t x3) (ZrD 0 (Zm ox3 (x3.map Zc)) []) := by
 unfold Z5t
 refine zf (ZxT ..)<|ze<|zi fun r1 hr1 => ?_
 obtain ⟨_, er1, _, rfl⟩ := ZnJ x3 .sh r1 hr1
 refine zc [] (Zm .sh (r1.map Zc)) [] er1 ?_
 exact zr ((Zm .sh (r1.map Zc)), []) ⟨_, rfl⟩
def Z3R (x3 : List Z2) (x6 : List Z0) (x7 x8 : Int) : Option (List Z2) :=
 if (decide (x8 < x7)) = true then
 (Z5s x3 x6 x7 x8)
 else
 (Z5t x3)
theorem Zel (x3 : List Z2) (x6 : List Z0) x7 x8 ox3 ox6 (hox3 : Z1e ox3 = true) : Sim Z25 (Z3R x3 x6 x7 x8) (Zl4 0 (Zm ox3 (x3.map Zc)) (Zm ox6 (x6.map Z6)) (iv x7) (iv x8) []) := by
 unfold Z3R
 refine zf (ZxR ..)<|ze<|zq ?_
 refine za (decide (x8 < x7)) ?_ ?_
 ·exact zk (Zem x3 x6 x7 x8 ox3 ox6 hox3)
 ·exact zk (Zen x3 ox3 hox3)
theorem Z9M x3 x6 x7 x8 {r} (h : Z3R x3 x6 x7 x8 = some r) : Z3W x3 x6 x7 x8 = some r :=
 ZR (fun _ _ ha hb => ru_ ZaF (ha .ex .ex rfl) (hb .ex .ex rfl)) (fun ox3 ox6 hox3 => Zel x3 x6 x7 x8 ox3 ox6 hox3 r h)
def Z7J (x0 : Z0) : Option Z2 :=
 (Z6R x0.Log).bind fun r1 =>
 some (Z2.mk x0.View x0.Normal x0.Commit x0.Active r1)
theorem Zh8 x0 zn : Sim Z7H (Z7J x0) (EE 31 [(pA_ (Zi x0 zn))] []) := by
 unfold Z7J
 refine zf (ZE0 ..)<|ze<|zx (.ptr 0 0) [(Z1 x0 zn)]<|zz (.ptr 1 0) [(Z1 x0 zn), (ZK ZuF .nl)]<|ze<|zq<|zq<|zq<|zq<|zq<|zq<|zq<|zq<|zq<|zq<|zi fun r1 hr1 => ?_
 obtain ⟨_, er1, _, rfl⟩ := ZgF x0.Log .sh r1 hr1
 refine zc [] (Zm .sh (r1.map Zl)) [(Z1 x0 zn), (ZK ZuF .nl)] er1<|zq<|zt [(Z1 x0 zn), (ZK (Z2.mk x0.View x0.Normal x0.Commit x0.Active r1) .sh)]<|zg<|zg<|zg<|zg ?_
 exact zr ((pA_ (ZP (Z2.mk x0.View x0.Normal x0.Commit x0.Active r1) .sh)), [(Z1 x0 zn), (ZK (Z2.mk x0.View x0.Normal x0.Commit x0.Active r1) .sh)]) ⟨_, rfl⟩
theorem ZhB x0 {r} (h : Z7J x0 = some r) : Z7Z x0 = some r :=
 ZR (fun _ _ ha hb => ru_ Zi9 (ha .ex) (hb .ex)) (fun zn => Zh8 x0 zn r h)
def Z6C (x0 : List Z3) : Option (List Zo) :=
 Z3X ([] : List Zo) x0 (x0.length : Int) 0
theorem Zg4 (x0 : List Z3) ox0 : Sim Z2x (Z6C x0) (EE 49 [(Zm ox0 (x0.map Z7))] []) := by
 unfold Z6C
 refine zf (ZEu ..)<|ze<|ze<|ze<|zp (iv (x0.length : Int)) (et_ (Z14 (P := PP) (t := 37) (d := 81) (by kernel_rfl) Z7 (shrO ox0) x0)) ?_
 exact zk (Z9P ([] : List Zo) x0 (x0.length : Int) 0 .nl (shrO ox0) rfl)
theorem ZgE x0 {r} (h : Z6C x0 = some r) : Z6R x0 = some r :=
 ZR (fun _ _ ha hb => ru_ ZaV (ha .ex) (hb .ex)) (fun ox0 => Zg4 x0 ox0 r h)
def Z5u (x3 : List Zo) (x6 : List Z3) (x7 x8 : Int) : Option (List Zo) :=
 (lget x6 x8).bind fun a1 =>
 (Z7Y a1.Delta).bind fun r2 =>
 (lapp x3 ([(Zo.mk a1.View a1.Client a1.Request (Za.mk r2.Default r2.Closed r2.Fuel r2.Stack r2.Put r2.Drop))] : List Zo)).bind fun a3 =>
 Z3X a3 x6 x7 (IntKind.i64.wrap (x8 + 1))
theorem Zep (x3 : List Zo) (x6 : List Z3) x7 x8 ox3 ox6 (hox3 : Z1e ox3 = true) : Sim Z2x (Z5u x3 x6 x7 x8) (Zt0 0 (Zm ox3 (x3.map Zl)) (Zm ox6 (x6.map Z7)) (iv x7) (iv x8) []) := by
 unfold Z5u
 refine zf (Zz5 ..)<|ze<|zi fun a1 ha1 => zp (.cptr (Z1f a1 .sh .sh)) (et_ (Z1i (o := ox6) (k := .i64) (n := 9) (e := Z7) (cs := Z36) (fun _ => rfl) (fun _ => rfl) (by decide) ha1))<|zq<|zz (.ptr 0 0) [(ZE Zo7 .nl .nl)]<|zt [(ZE a1 .sh .sh)]<|ze<|zq<|zq<|zq<|zq<|zq<|zq<|zq<|zq<|zi fun r2 hr2 => ?_
 obtain ⟨_, er2, _, rfl⟩ := ZhA a1.Delta .sh .sh r2 hr2
 refine zc [] (pA_ (Z1J r2 .sh .sh)) [(ZE a1 .sh .sh)] er2<|zq<|zq<|zi fun a3 ha3 => zp (Zm .un (a3.map Zl)) (Eq.trans (by kernel_rfl) <| Z4E (n := 9) (o := ox3) (o' := .ex) (e := Zl) (ys := ([(Zo.mk a1.View a1.Client a1.Request (Za.mk r2.Default r2.Closed r2.Fuel r2.Stack r2.Put r2.Drop))] : List Zo)) (fun _ => rfl) (by decide) hox3 ha3)<|zg<|zg<|zg<|ze<|zq ?_
 exact zk (Z9P a3 x6 x7 (IntKind.i64.wrap (x8 + 1)) .un ox6 rfl)
def Z5v (x3 : List Zo) : Option (List Zo) :=
 some x3
theorem Zeq (x3 : List Zo) ox3 (hox3 : Z1e ox3 = true) : Sim Z2x (Z5v x3) (Zt1 0 (Zm ox3 (x3.map Zl)) []) := by
 unfold Z5v
 refine zf (Zz6 ..)<|ze ?_
 exact zr ((Zm .sh (x3.map Zl)), []) ⟨_, rfl⟩
def Z3S (x3 : List Zo) (x6 : List Z3) (x7 x8 : Int) : Option (List Zo) :=
 if (decide (x8 < x7)) = true then
 (Z5u x3 x6 x7 x8)
 else
 (Z5v x3)
theorem Zeo (x3 : List Zo) (x6 : List Z3) x7 x8 ox3 ox6 (hox3 : Z1e ox3 = true) : Sim Z2x (Z3S x3 x6 x7 x8) (Zlx 0 (Zm ox3 (x3.map Zl)) (Zm ox6 (x6.map Z7)) (iv x7) (iv x8) []) := by
 unfold Z3S
 refine zf (Zz4 ..)<|ze<|zq ?_
 refine za (decide (x8 < x7)) ?_ ?_
 ·exact zk (Zep x3 x6 x7 x8 ox3 ox6 hox3)
 ·exact zk (Zeq x3 ox3 hox3)
theorem Z9O x3 x6 x7 x8 {r} (h : Z3S x3 x6 x7 x8 = some r) : Z3X x3 x6 x7 x8 = some r :=
 ZR (fun _ _ ha hb => ru_ ZaV (ha .ex .ex rfl) (hb .ex .ex rfl)) (fun ox3 ox6 hox3 => Zeo x3 x6 x7 x8 ox3 ox6 hox3 r h)
def Z7I (x0 : Z1U) : Option Za :=
 Z4I x0.Put (x0.Put.length : Int) 0 x0.Default x0.Closed x0.Fuel x0.Stack ([] : List Z9) x0.Drop
theorem Zh7 x0 z2u z23 : Sim Z2T (Z7I x0) (EE 67 [(pA_ (Z8U x0 z2u z23))] []) := by
 unfold Z7I
 refine zf (ZER ..)<|ze<|zx (.ptr 0 0) [(ZH x0 z2u z23)]<|zz (.ptr 1 0) [(ZH x0 z2u z23), (Zz ZqM .nl .nl)]<|ze<|zq<|zq<|zq<|zq<|zq<|zq<|zq<|zq<|zq<|zq<|zq<|zz (.ptr 2 0) [(ZH x0 z2u z23), (Zz ZqM .nl .nl), (Zz ZqM .nl .nl)]<|zt [(ZH x0 z2u z23), (Zz ZqM .nl .nl), (ZeY x0.Default x0.Closed x0.Fuel x0.Stack ([] : List Z9) x0.Drop .nl (shrO (shrO z23)))]<|ze<|zq<|zq<|zp (iv (x0.Put.length : Int)) (et_ (Z14 (P := PP) (t := 49) (d := 104) (by kernel_rfl) Z8 (shrO z2u) x0.Put)) ?_
 exact zk (Zao x0.Put (x0.Put.length : Int) 0 x0 ZqM x0.Default x0.Closed x0.Fuel x0.Stack ([] : List Z9) x0.Drop (shrO z2u) z2u z23 .nl .nl .nl (shrO (shrO z23)) rfl rfl rfl)
theorem Zhz x0 {r} (h : Z7I x0 = some r) : Z7Y x0 = some r :=
 ZR (fun _ _ ha hb => ru_ Zc2 (ha .ex .ex) (hb .ex .ex)) (fun z2u z23 => Zh7 x0 z2u z23 r h)
def Z67 (x18 : List Z9) (x19 x20 z1m z1w z1T z1E : Int) (z2h : List Z9) (z1S : List Int) : Option Za :=
 (lget x18 x20).bind fun a1 =>
 (lapp z2h ([a1] : List Z9)).bind fun a2 =>
 Z4I x18 x19 (IntKind.i64.wrap (x20 + 1)) z1m z1w z1T z1E a2 z1S
theorem Zfu (x18 : List Z9) x19 x20 b0 b1 z1m z1w z1T z1E z2h z1S ox18 z19 z18 zL zG z2B z2G (z9t : Z1e zL = true) (z8a : Z1e zG = true) (z9u : Z1e z2B = true) : Sim Z2T (Z67 x18 x19 x20 z1m z1w z1T z1E z2h z1S) (Ztr 0 (.ptr 1 0) (.ptr 2 0) (Zm ox18 (x18.map Z8)) (iv x19) (iv x20) [(ZH b0 z19 z18), (Zz b1 zL zG), (ZeY z1m z1w z1T z1E z2h z1S z2B z2G)]) := by
 unfold Z67
 refine zf (ZzA ..)<|ze<|zi fun a1 ha1 => zp (.cptr (Z11 a1)) (et_ (Z1i (o := ox18) (k := .i64) (n := 5) (e := Z8) (cs := Z1L) (fun _ => rfl) (fun _ => rfl) (by decide) ha1))<|zq<|zz (.ptr 3 0) [(ZH b0 z19 z18), (Zz b1 zL zG), (ZeY z1m z1w z1T z1E z2h z1S z2B z2G), (ZW (Z9.mk 0 0 0 0 (ByteArray.mk #[])))]<|zt [(ZH b0 z19 z18), (Zz b1 zL zG), (ZeY z1m z1w z1T z1E z2h z1S z2B z2G), (ZW a1)]<|ze<|zq<|zw (Zm z2B (z2h.map Z8)) [(ZH b0 z19 z18), (Zz b1 zL zG), (ZeY z1m z1w z1T z1E z2h z1S (shrO z2B) z2G), (ZW a1)]<|zq<|zq<|zi fun a2 ha2 => zp (Zm .un (a2.map Z8)) (Eq.trans (by kernel_rfl) <| Z4E (n := 5) (o := z2B) (o' := .ex) (e := Z8) (ys := ([a1] : List Z9)) (fun _ => rfl) (by decide) z9u ha2)<|zq<|zt [(ZH b0 z19 z18), (Zz b1 zL zG), (ZeY z1m z1w z1T z1E a2 z1S .un z2G), (ZW a1)]<|ze<|zq ?_
 exact zk (Zao x18 x19 (IntKind.i64.wrap (x20 + 1)) b0 b1 z1m z1w z1T z1E a2 z1S ox18 z19 z18 zL zG .un z2G z9t z8a rfl)
def Z68 (z1m z1w z1T z1E : Int) (z2h : List Z9) (z1S : List Int) : Option Za :=
 some (Za.mk z1m z1w z1T z1E z2h z1S)
theorem Zfv b0 b1 z1m z1w z1T z1E z2h z1S z19 z18 zL zG z2B z2G (z9t : Z1e zL = true) (z8a : Z1e zG = true) (z9u : Z1e z2B = true) : Sim Z2T (Z68 z1m z1w z1T z1E z2h z1S) (Zts 0 (.ptr 1 0) (.ptr 2 0) [(ZH b0 z19 z18), (Zz b1 zL zG), (ZeY z1m z1w z1T z1E z2h z1S z2B z2G)]) := by
 unfold Z68
 refine zf (ZzB ..)<|ze<|zq<|zt [(ZH b0 z19 z18), (ZeY z1m z1w z1T z1E z2h z1S (shrO z2B) (shrO z2G)), (ZeY z1m z1w z1T z1E z2h z1S z2B z2G)] ?_
 exact zr ((pA_ (Z1J (Za.mk z1m z1w z1T z1E z2h z1S) .sh .sh)), [(ZH b0 z19 z18), (ZeY z1m z1w z1T z1E z2h z1S (shrO z2B) (shrO z2G)), (ZeY z1m z1w z1T z1E z2h z1S z2B z2G)]) ⟨_, rfl⟩
def Z4F (x18 : List Z9) (x19 x20 z1m z1w z1T z1E : Int) (z2h : List Z9) (z1S : List Int) : Option Za :=
 if (decide (x20 < x19)) = true then
 (Z67 x18 x19 x20 z1m z1w z1T z1E z2h z1S)
 else
 (Z68 z1m z1w z1T z1E z2h z1S)
theorem Zft (x18 : List Z9) x19 x20 b0 b1 z1m z1w z1T z1E z2h z1S ox18 z19 z18 zL zG z2B z2G (z9t : Z1e zL = true) (z8a : Z1e zG = true) (z9u : Z1e z2B = true) : Sim Z2T (Z4F x18 x19 x20 z1m z1w z1T z1E z2h z1S) (ZlH 0 (.ptr 1 0) (.ptr 2 0) (Zm ox18 (x18.map Z8)) (iv x19) (iv x20) [(ZH b0 z19 z18), (Zz b1 zL zG), (ZeY z1m z1w z1T z1E z2h z1S z2B z2G)]) := by
 unfold Z4F
 refine zf (Zzz ..)<|ze<|zq ?_
 refine za (decide (x20 < x19)) ?_ ?_
 ·exact zk (Zfu x18 x19 x20 b0 b1 z1m z1w z1T z1E z2h z1S ox18 z19 z18 zL zG z2B z2G z9t z8a z9u)
 ·exact zk (Zfv b0 b1 z1m z1w z1T z1E z2h z1S z19 z18 zL zG z2B z2G z9t z8a z9u)
theorem Zan x18 x19 x20 z1m z1w z1T z1E z2h z1S {r} (h : Z4F x18 x19 x20 z1m z1w z1T z1E z2h z1S = some r) : Z4I x18 x19 x20 z1m z1w z1T z1E z2h z1S = some r :=
 ZR (fun _ _ ha hb => ru_ Zc2 (ha default default .ex .ex .ex .ex .ex .ex .ex rfl rfl rfl) (hb default default .ex .ex .ex .ex .ex .ex .ex rfl rfl rfl)) (fun b0 b1 ox18 z19 z18 zL zG z2B z2G z9t z8a z9u => Zft x18 x19 x20 b0 b1 z1m z1w z1T z1E z2h z1S ox18 z19 z18 zL zG z2B z2G z9t z8a z9u r h)
def Zcw (x0 : List Z2) : Option (List Z2) :=
 Z8w x0 ([] : List Z2) 0
theorem Zn7 (x0 : List Z2) ox0 : Sim Z25 (Zcw x0) (EE 32 [(Zm ox0 (x0.map Zc))] []) := by
 unfold Zcw
 refine zf (ZE1 ..)<|ze<|ze<|ze ?_
 exact zk (ZeG x0 ([] : List Z2) 0 ox0 .nl rfl)
theorem ZnI x0 {r} (h : Zcw x0 = some r) : Zcz x0 = some r :=
 ZR (fun _ _ ha hb => ru_ ZaF (ha .ex) (hb .ex)) (fun ox0 => Zn7 x0 ox0 r h)
def Z8m (x0 x3 : List Z2) (x4 : Int) : Option (List Z2) :=
 Z8w x0 x3 (IntKind.i64.wrap (x4 + 1))
theorem ZdU (x0 x3 : List Z2) x4 ox0 ox3 (hox3 : Z1e ox3 = true) : Sim Z25 (Z8m x0 x3 x4) (ZoL 0 (Zm ox0 (x0.map Zc)) (Zm ox3 (x3.map Zc)) (iv x4) []) := by
 unfold Z8m
 refine zf (Zyv ..)<|ze<|zq ?_
 exact zk (ZeG x0 x3 (IntKind.i64.wrap (x4 + 1)) ox0 ox3 hox3)
def Zad (x0 x3 : List Z2) (x4 : Int) : Option (List Z2) :=
 (lget x0 x4).bind fun a1 =>
 (Z8M a1).bind fun r2 =>
 if r2 = true then
 ((lget x0 x4).bind fun a3 =>
 (lapp x3 ([a3] : List Z2)).bind fun a4 =>
 Z8m x0 a4 x4)
 else
 ((lapp x3 ([(Z2.mk 0 0 0 0 ([] : List Zo))] : List Z2)).bind fun a5 =>
 Z8m x0 a5 x4)
theorem Zk9 (x0 x3 : List Z2) x4 ox0 ox3 (hox3 : Z1e ox3 = true) : Sim Z25 (Zad x0 x3 x4) (Zsn 0 (Zm ox0 (x0.map Zc)) (Zm ox3 (x3.map Zc)) (iv x4) []) := by
 unfold Zad
 refine zf (Zyw ..)<|ze<|zi fun a1 ha1 => zp (.cptr (ZP a1 .sh)) (et_ (Z1i (o := (shrO ox0)) (k := .i64) (n := 5) (e := Zc) (cs := Z1x) (fun _ => rfl) (fun _ => rfl) (by decide) ha1))<|zq<|zi fun r2 hr2 => ?_
 obtain ⟨_, er2, _, rfl⟩ := Zit a1 .sh r2 hr2
 refine zc [] (bv r2) [] er2 ?_
 refine za r2 ?_ ?_
 ·refine ze<|zi fun a3 ha3 => zp (.cptr (ZP a3 .sh)) (et_ (Z1i (o := (shrO ox0)) (k := .i64) (n := 5) (e := Zc) (cs := Z1x) (fun _ => rfl) (fun _ => rfl) (by decide) ha3))<|zq<|zq<|zi fun a4 ha4 => zp (Zm .un (a4.map Zc)) (Eq.trans (by kernel_rfl) <| Z4E (n := 5) (o := ox3) (o' := .ex) (e := Zc) (ys := ([a3] : List Z2)) (fun _ => rfl) (by decide) hox3 ha4) ?_
  exact zk (ZdU x0 a4 x4 ox0 .un rfl)
 ·refine ze<|zq<|zq<|zi fun a5 ha5 => zp (Zm .un (a5.map Zc)) (Eq.trans (by kernel_rfl) <| Z4E (n := 5) (o := ox3) (o' := .ex) (e := Zc) (ys := ([ZuF] : List Z2)) (fun _ => rfl) (by decide) hox3 ha5) ?_
  exact zk (ZdU x0 a5 x4 ox0 .un rfl)
def Zae (x3 : List Z2) : Option (List Z2) :=
 some x3
theorem Zka (x3 : List Z2) ox3 (hox3 : Z1e ox3 = true) : Sim Z25 (Zae x3) (Zso 0 (Zm ox3 (x3.map Zc)) []) := by
 unfold Zae
 refine zf (Zyx ..)<|ze ?_
 exact zr ((Zm .sh (x3.map Zc)), []) ⟨_, rfl⟩
def Z8l (x0 x3 : List Z2) (x4 : Int) : Option (List Z2) :=
 if (decide (x4 < (x0.length : Int))) = true then
 (Zad x0 x3 x4)
 else
 (Zae x3)
theorem Zk8 (x0 x3 : List Z2) x4 ox0 ox3 (hox3 : Z1e ox3 = true) : Sim Z25 (Z8l x0 x3 x4) (Zlo 0 (Zm ox0 (x0.map Zc)) (Zm ox3 (x3.map Zc)) (iv x4) []) := by
 unfold Z8l
 refine zf (Zyu ..)<|ze<|zp (iv (x0.length : Int)) (et_ (Z14 (P := PP) (t := 28) (d := 44) (by kernel_rfl) Zc (shrO ox0) x0))<|zq ?_
 refine za (decide (x4 < (x0.length : Int))) ?_ ?_
 ·exact zk (Zk9 x0 x3 x4 ox0 ox3 hox3)
 ·exact zk (Zka x3 ox3 hox3)
theorem ZeF x0 x3 x4 {r} (h : Z8l x0 x3 x4 = some r) : Z8w x0 x3 x4 = some r :=
 ZR (fun _ _ ha hb => ru_ ZaF (ha .ex .ex rfl) (hb .ex .ex rfl)) (fun ox0 ox3 hox3 => Zk8 x0 x3 x4 ox0 ox3 hox3 r h)
def Z1H : Option Bool :=
 some false
theorem Z1R : Sim Zd Z1H (Zb0 0 []) := by
 unfold Z1H
 refine zf (Zz9 ..)<|ze ?_
 exact zr ((bv false), []) ⟨_, rfl⟩
def Z6I (b0 : Z2) : Option Bool :=
 Z3G 0 b0
theorem Zge b0 z5 : Sim Zd (Z6I b0) (Zt4 0 (.ptr 0 0) [(ZK b0 z5)]) := by
 unfold Z6I
 refine zf (Zza ..)<|ze ?_
 exact zk (ZaR 0 b0 z5)
def Z8H (x0 : Z2) : Option Bool :=
 if (decide (x0.View < 0)) = true then
 Z1H
 else
 (if (decide (1099511627776 < x0.View)) = true then
 Z1H
 else
 (if (decide (x0.Normal < 0)) = true then
 Z1H
 else
 (if (decide (x0.View < x0.Normal)) = true then
 Z1H
 else
 (if (decide (64 < (x0.Log.length : Int))) = true then
 Z1H
 else
 (if (decide (x0.Commit < 0)) = true then
 Z1H
 else
 (if (decide ((x0.Log.length : Int) < x0.Commit)) = true then
 Z1H
 else
 (if (decide (x0.Active < 0)) = true then
 Z1H
 else
 (if (decide (64 < x0.Active)) = true then
 Z1H
 else
 (Z6I x0)))))))))
theorem ZhQ x0 zn : Sim Zd (Z8H x0) (EE 50 [(pA_ (ZP x0 zn))] []) := by
 unfold Z8H
 refine zf (ZEx ..)<|ze<|zx (.ptr 0 0) [(ZK x0 zn)]<|ze<|zq<|zq<|zq ?_
 refine za (decide (x0.View < 0)) ?_ ?_
 ·exact zk Z1R
 ·refine zq<|zq<|zq ?_
  refine za (decide (1099511627776 < x0.View)) ?_ ?_
  ·exact zk Z1R
  ·refine zq<|zq<|zq ?_
   refine za (decide (x0.Normal < 0)) ?_ ?_
   ·exact zk Z1R
   ·refine zq<|zq<|zq<|zq<|zq ?_
    refine za (decide (x0.View < x0.Normal)) ?_ ?_
    ·exact zk Z1R
    ·refine zq<|zq<|zp (iv (x0.Log.length : Int)) (et_ (Z14 (P := PP) (t := 42) (d := 95) (by kernel_rfl) Zl (shrO zn) x0.Log))<|zq ?_
     refine za (decide (64 < (x0.Log.length : Int))) ?_ ?_
     ·exact zk Z1R
     ·refine zq<|zq<|zq ?_
      refine za (decide (x0.Commit < 0)) ?_ ?_
      ·exact zk Z1R
      ·refine zq<|zq<|zq<|zq<|zp (iv (x0.Log.length : Int)) (et_ (Z14 (P := PP) (t := 42) (d := 95) (by kernel_rfl) Zl (shrO zn) x0.Log))<|zq ?_
       refine za (decide ((x0.Log.length : Int) < x0.Commit)) ?_ ?_
       ·exact zk Z1R
       ·refine zq<|zq<|zq ?_
        refine za (decide (x0.Active < 0)) ?_ ?_
        ·exact zk Z1R
        ·refine zq<|zq<|zq ?_
         refine za (decide (64 < x0.Active)) ?_ ?_
         ·exact zk Z1R
         ·exact zk (Zge x0 zn)
theorem Zis x0 {r} (h : Z8H x0 = some r) : Z8M x0 = some r :=
 ZR (fun _ _ ha hb => ru_ ZZ (ha .ex) (hb .ex)) (fun zn => ZhQ x0 zn r h)
def Z6J (x3 : Int) (b0 : Z2) : Option Bool :=
 Z3G (IntKind.i64.wrap (x3 + 1)) b0
theorem Zgf x3 b0 z5 : Sim Zd (Z6J x3 b0) (Zt5 0 (.ptr 0 0) (iv x3) [(ZK b0 z5)]) := by
 unfold Z6J
 refine zf (Zzb ..)<|ze<|zq ?_
 exact zk (ZaR (IntKind.i64.wrap (x3 + 1)) b0 z5)
def Z6K (x3 : Int) (b0 : Z2) : Option Bool :=
 (lget b0.Log x3).bind fun a1 =>
 (Z8K a1).bind fun r2 =>
 if (!r2) = true then
 (some false)
 else
 (Z6J x3 b0)
theorem Zgg x3 b0 z5 : Sim Zd (Z6K x3 b0) (Zt6 0 (.ptr 0 0) (iv x3) [(ZK b0 z5)]) := by
 unfold Z6K
 refine zf (Zzc ..)<|ze<|zq<|zq<|zi fun a1 ha1 => zp (.cptr (Z1C a1 .sh .sh)) (et_ (Z1i (o := (shrO z5)) (k := .i64) (n := 9) (e := Zl) (cs := Z1I) (fun _ => rfl) (fun _ => rfl) (by decide) ha1))<|zq<|zi fun r2 hr2 => ?_
 obtain ⟨_, er2, _, rfl⟩ := Zir a1 .sh .sh r2 hr2
 refine zc [] (bv r2) [(ZK b0 z5)] er2<|zq ?_
 refine za (!r2) ?_ ?_
 ·refine ze ?_
  exact zr ((bv false), [(ZK b0 z5)]) ⟨_, rfl⟩
 ·exact zk (Zgf x3 b0 z5)
def Z6L : Option Bool :=
 some true
theorem Zgh : Sim Zd Z6L (Zt7 0 []) := by
 unfold Z6L
 refine zf (Zzd ..)<|ze ?_
 exact zr ((bv true), []) ⟨_, rfl⟩
def Z54 (x3 : Int) (b0 : Z2) : Option Bool :=
 if (decide (x3 < (b0.Log.length : Int))) = true then
 (Z6K x3 b0)
 else
 Z6L
theorem Zgd x3 b0 z5 : Sim Zd (Z54 x3 b0) (Zly 0 (.ptr 0 0) (iv x3) [(ZK b0 z5)]) := by
 unfold Z54
 refine zf (Zz8 ..)<|ze<|zq<|zq<|zp (iv (b0.Log.length : Int)) (et_ (Z14 (P := PP) (t := 42) (d := 95) (by kernel_rfl) Zl (shrO z5) b0.Log))<|zq ?_
 refine za (decide (x3 < (b0.Log.length : Int))) ?_ ?_
 ·exact zk (Zgg x3 b0 z5)
 ·exact zk Zgh
theorem ZaQ x3 b0 {r} (h : Z54 x3 b0 = some r) : Z3G x3 b0 = some r :=
 ZR (fun _ _ ha hb => ru_ ZZ (ha .ex) (hb .ex)) (fun z5 => Zgd x3 b0 z5 r h)
def Z2y : Option Bool :=
 some false
theorem Z3u : Sim Zd Z2y (Zh5 0 []) := by
 unfold Z2y
 refine zf (ZzF ..)<|ze ?_
 exact zr ((bv false), []) ⟨_, rfl⟩
def Z30 : Option Bool :=
 some false
theorem Z5f : Sim Zd Z30 (Zj6 0 []) := by
 unfold Z30
 refine zf (ZzH ..)<|ze ?_
 exact zr ((bv false), []) ⟨_, rfl⟩
def Z6F (b1 : Za) : Option Bool :=
 Z31 0 b1
theorem Zga b0 b1 zS zQ zL zG : Sim Zd (Z6F b1) (Ztx 0 (.ptr 1 0) [(Z15 b0 zS zQ), (Zz b1 zL zG)]) := by
 unfold Z6F
 refine zf (ZzI ..)<|ze ?_
 exact zk (ZaP 0 b0 b1 zS zQ zL zG)
def Z6E (b1 : Za) : Option Bool :=
 (Z3e b1.Default (-1) 1099511627776).bind fun r1 =>
 if (!r1) = true then
 Z30
 else
 ((Z3e b1.Closed (-1) 1099511627776).bind fun r2 =>
 if (!r2) = true then
 Z30
 else
 ((Z3e b1.Fuel (-1) 1099511627776).bind fun r3 =>
 if (!r3) = true then
 Z30
 else
 ((Z3e b1.Stack (-1) 1099511627776).bind fun r4 =>
 if (!r4) = true then
 Z30
 else
 (Z6F b1))))
theorem Zg9 b0 b1 zS zQ zL zG : Sim Zd (Z6E b1) (Ztw 0 (.ptr 1 0) [(Z15 b0 zS zQ), (Zz b1 zL zG)]) := by
 unfold Z6E
 refine zf (ZzG ..)<|ze<|zq<|zq<|zi fun r1 hr1 => ?_
 obtain ⟨_, er1, _, rfl⟩ := Z3K b1.Default (-1) 1099511627776 r1 hr1
 refine zc [] (bv r1) [(Z15 b0 zS zQ), (Zz b1 zL zG)] er1<|zq ?_
 refine za (!r1) ?_ ?_
 ·exact zk Z5f
 ·refine zq<|zq<|zi fun r2 hr2 => ?_
  obtain ⟨_, er2, _, rfl⟩ := Z3K b1.Closed (-1) 1099511627776 r2 hr2
  refine zc [] (bv r2) [(Z15 b0 zS zQ), (Zz b1 zL zG)] er2<|zq ?_
  refine za (!r2) ?_ ?_
  ·exact zk Z5f
  ·refine zq<|zq<|zi fun r3 hr3 => ?_
   obtain ⟨_, er3, _, rfl⟩ := Z3K b1.Fuel (-1) 1099511627776 r3 hr3
   refine zc [] (bv r3) [(Z15 b0 zS zQ), (Zz b1 zL zG)] er3<|zq ?_
   refine za (!r3) ?_ ?_
   ·exact zk Z5f
   ·refine zq<|zq<|zi fun r4 hr4 => ?_
    obtain ⟨_, er4, _, rfl⟩ := Z3K b1.Stack (-1) 1099511627776 r4 hr4
    refine zc [] (bv r4) [(Z15 b0 zS zQ), (Zz b1 zL zG)] er4<|zq ?_
    refine za (!r4) ?_ ?_
    ·exact zk Z5f
    ·exact zk (Zga b0 b1 zS zQ zL zG)
def Z8G (x0 : Zo) : Option Bool :=
 (Z3e x0.View 0 1099511627776).bind fun r1 =>
 if (!r1) = true then
 Z2y
 else
 ((Z3e x0.Client 1 1099511627776).bind fun r2 =>
 if (!r2) = true then
 Z2y
 else
 ((Z3e x0.Request 1 1099511627776).bind fun r3 =>
 if (!r3) = true then
 Z2y
 else
 (if (decide (16 < (x0.Delta.Put.length : Int))) = true then
 Z2y
 else
 (if (decide (16 < (x0.Delta.Drop.length : Int))) = true then
 Z2y
 else
 (Z6E x0.Delta)))))
theorem ZhP x0 zj zh : Sim Zd (Z8G x0) (EE 68 [(pA_ (Z1C x0 zj zh))] []) := by
 unfold Z8G
 refine zf (ZEU ..)<|ze<|zx (.ptr 0 0) [(Z15 x0 zj zh)]<|ze<|zq<|zq<|zz (.ptr 1 0) [(Z15 x0 zj zh), (Zz ZqM .nl .nl)]<|zt [(Z15 x0 zj zh), (Zz x0.Delta (shrO zj) (shrO zh))]<|ze<|zq<|zq<|zi fun r1 hr1 => ?_
 obtain ⟨_, er1, _, rfl⟩ := Z3K x0.View 0 1099511627776 r1 hr1
 refine zc [] (bv r1) [(Z15 x0 zj zh), (Zz x0.Delta (shrO zj) (shrO zh))] er1<|zq ?_
 refine za (!r1) ?_ ?_
 ·exact zk Z3u
 ·refine zq<|zq<|zi fun r2 hr2 => ?_
  obtain ⟨_, er2, _, rfl⟩ := Z3K x0.Client 1 1099511627776 r2 hr2
  refine zc [] (bv r2) [(Z15 x0 zj zh), (Zz x0.Delta (shrO zj) (shrO zh))] er2<|zq ?_
  refine za (!r2) ?_ ?_
  ·exact zk Z3u
  ·refine zq<|zq<|zi fun r3 hr3 => ?_
   obtain ⟨_, er3, _, rfl⟩ := Z3K x0.Request 1 1099511627776 r3 hr3
   refine zc [] (bv r3) [(Z15 x0 zj zh), (Zz x0.Delta (shrO zj) (shrO zh))] er3<|zq ?_
   refine za (!r3) ?_ ?_
   ·exact zk Z3u
   ·refine zq<|zq<|zp (iv (x0.Delta.Put.length : Int)) (et_ (Z14 (P := PP) (t := 53) (d := 103) (by kernel_rfl) Z8 (shrO (shrO zj)) x0.Delta.Put))<|zq ?_
    refine za (decide (16 < (x0.Delta.Put.length : Int))) ?_ ?_
    ·exact zk Z3u
    ·refine zq<|zq<|zp (iv (x0.Delta.Drop.length : Int)) (et_ (Z14 (P := PP) (t := 77) (d := 3) (by kernel_rfl) (eI .i64) (shrO (shrO zh)) x0.Delta.Drop))<|zq ?_
     refine za (decide (16 < (x0.Delta.Drop.length : Int))) ?_ ?_
     ·exact zk Z3u
     ·exact zk (Zg9 x0 x0.Delta zj zh (shrO zj) (shrO zh))
theorem Ziq x0 {r} (h : Z8G x0 = some r) : Z8K x0 = some r :=
 ZR (fun _ _ ha hb => ru_ ZZ (ha .ex .ex) (hb .ex .ex)) (fun zj zh => ZhP x0 zj zh r h)
def Z6G (x4 : Int) (b1 : Za) : Option Bool :=
 Z31 (IntKind.i64.wrap (x4 + 1)) b1
theorem Zgb x4 b0 b1 zS zQ zL zG : Sim Zd (Z6G x4 b1) (Zty 0 (.ptr 1 0) (iv x4) [(Z15 b0 zS zQ), (Zz b1 zL zG)]) := by
 unfold Z6G
 refine zf (ZzJ ..)<|ze<|zq ?_
 exact zk (ZaP (IntKind.i64.wrap (x4 + 1)) b0 b1 zS zQ zL zG)
def Z6H (x4 : Int) (b1 : Za) : Option Bool :=
 (lget b1.Put x4).bind fun a1 =>
 (Z9i a1).bind fun r2 =>
 if (!r2) = true then
 (some false)
 else
 (Z6G x4 b1)
theorem Zgc x4 b0 b1 zS zQ zL zG : Sim Zd (Z6H x4 b1) (Ztz 0 (.ptr 1 0) (iv x4) [(Z15 b0 zS zQ), (Zz b1 zL zG)]) := by
 unfold Z6H
 refine zf (ZzK ..)<|ze<|zq<|zq<|zi fun a1 ha1 => zp (.cptr (Z11 a1)) (et_ (Z1i (o := (shrO zL)) (k := .i64) (n := 5) (e := Z8) (cs := Z1L) (fun _ => rfl) (fun _ => rfl) (by decide) ha1))<|zq<|zi fun r2 hr2 => ?_
 obtain ⟨_, er2, _, rfl⟩ := Zjg a1 r2 hr2
 refine zc [] (bv r2) [(Z15 b0 zS zQ), (Zz b1 zL zG)] er2<|zq ?_
 refine za (!r2) ?_ ?_
 ·refine ze ?_
  exact zr ((bv false), [(Z15 b0 zS zQ), (Zz b1 zL zG)]) ⟨_, rfl⟩
 ·exact zk (Zgb x4 b0 b1 zS zQ zL zG)
def Z6e (b1 : Za) : Option Bool :=
 Z4K 0 b1
theorem ZfF b0 b1 zS zQ zL zG : Sim Zd (Z6e b1) (Zqs 0 (.ptr 1 0) [(Z15 b0 zS zQ), (Zz b1 zL zG)]) := by
 unfold Z6e
 refine zf (ZwE ..)<|ze ?_
 exact zk (Zaq 0 b0 b1 zS zQ zL zG)
def Z53 (x4 : Int) (b1 : Za) : Option Bool :=
 if (decide (x4 < (b1.Put.length : Int))) = true then
 (Z6H x4 b1)
 else
 (Z6e b1)
theorem Zg8 x4 b0 b1 zS zQ zL zG : Sim Zd (Z53 x4 b1) (ZlI 0 (.ptr 1 0) (iv x4) [(Z15 b0 zS zQ), (Zz b1 zL zG)]) := by
 unfold Z53
 refine zf (ZzE ..)<|ze<|zq<|zq<|zp (iv (b1.Put.length : Int)) (et_ (Z14 (P := PP) (t := 53) (d := 103) (by kernel_rfl) Z8 (shrO zL) b1.Put))<|zq ?_
 refine za (decide (x4 < (b1.Put.length : Int))) ?_ ?_
 ·exact zk (Zgc x4 b0 b1 zS zQ zL zG)
 ·exact zk (ZfF b0 b1 zS zQ zL zG)
theorem ZaO x4 b1 {r} (h : Z53 x4 b1 = some r) : Z31 x4 b1 = some r :=
 ZR (fun _ _ ha hb => ru_ ZZ (ha default .ex .ex .ex .ex) (hb default .ex .ex .ex .ex)) (fun b0 zS zQ zL zG => Zg8 x4 b0 b1 zS zQ zL zG r h)
def Z6f (x5 : Int) (b1 : Za) : Option Bool :=
 Z4K (IntKind.i64.wrap (x5 + 1)) b1
theorem ZfG x5 b0 b1 zS zQ zL zG : Sim Zd (Z6f x5 b1) (Zqt 0 (.ptr 1 0) (iv x5) [(Z15 b0 zS zQ), (Zz b1 zL zG)]) := by
 unfold Z6f
 refine zf (ZwF ..)<|ze<|zq ?_
 exact zk (Zaq (IntKind.i64.wrap (x5 + 1)) b0 b1 zS zQ zL zG)
def Z6g (x5 : Int) (b1 : Za) : Option Bool :=
 (lget b1.Drop x5).bind fun a1 =>
 (Z3e a1 1 1099511627776).bind fun r2 =>
 if (!r2) = true then
 (some false)
 else
 (Z6f x5 b1)
theorem ZfH x5 b0 b1 zS zQ zL zG : Sim Zd (Z6g x5 b1) (Zqu 0 (.ptr 1 0) (iv x5) [(Z15 b0 zS zQ), (Zz b1 zL zG)]) := by
 unfold Z6g
 refine zf (ZwG ..)<|ze<|zq<|zq<|zi fun a1 ha1 => zp (.cptr [(.v (.int .i64 a1))]) (et_ (Z1i (o := (shrO zG)) (k := .i64) (n := 1) (e := (eI .i64)) (cs := (fun a => [(eI .i64) a])) (fun _ => rfl) (fun _ => rfl) (by decide) ha1))<|zq<|zi fun r2 hr2 => ?_
 obtain ⟨_, er2, _, rfl⟩ := Z3K a1 1 1099511627776 r2 hr2
 refine zc [] (bv r2) [(Z15 b0 zS zQ), (Zz b1 zL zG)] er2<|zq ?_
 refine za (!r2) ?_ ?_
 ·refine ze ?_
  exact zr ((bv false), [(Z15 b0 zS zQ), (Zz b1 zL zG)]) ⟨_, rfl⟩
 ·exact zk (ZfG x5 b0 b1 zS zQ zL zG)
def Z6h : Option Bool :=
 some true
theorem ZfI : Sim Zd Z6h (Zqv 0 []) := by
 unfold Z6h
 refine zf (ZwH ..)<|ze ?_
 exact zr ((bv true), []) ⟨_, rfl⟩
def Z4H (x5 : Int) (b1 : Za) : Option Bool :=
 if (decide (x5 < (b1.Drop.length : Int))) = true then
 (Z6g x5 b1)
 else
 Z6h
theorem ZfE x5 b0 b1 zS zQ zL zG : Sim Zd (Z4H x5 b1) (Zj5 0 (.ptr 1 0) (iv x5) [(Z15 b0 zS zQ), (Zz b1 zL zG)]) := by
 unfold Z4H
 refine zf (ZwD ..)<|ze<|zq<|zq<|zp (iv (b1.Drop.length : Int)) (et_ (Z14 (P := PP) (t := 77) (d := 3) (by kernel_rfl) (eI .i64) (shrO zG) b1.Drop))<|zq ?_
 refine za (decide (x5 < (b1.Drop.length : Int))) ?_ ?_
 ·exact zk (ZfH x5 b0 b1 zS zQ zL zG)
 ·exact zk ZfI
theorem Zap x5 b1 {r} (h : Z4H x5 b1 = some r) : Z4K x5 b1 = some r :=
 ZR (fun _ _ ha hb => ru_ ZZ (ha default .ex .ex .ex .ex) (hb default .ex .ex .ex .ex)) (fun b0 zS zQ zL zG => ZfE x5 b0 b1 zS zQ zL zG r h)
end Go.Proofs.YtiigbcahdaoedaaGreatDoor.N2
end
