/- More of the functions' typed texts. No condition. -/
import Derived.Test.YteoeggbihfnbfaaGreatDoorTypA

set_option linter.unusedSimpArgs false
set_option linter.unusedVariables false
set_option linter.defProp false
noncomputable section
namespace Go.Proofs.YteoeggbihfnbfaaGreatDoor.N2
open Go Go.Abs
set_option maxRecDepth 100000
def Z6z (zl : List Int) (z2 z6 : Int) : Option (Int × Int × Int) :=
 some ((zl.length : Int), z2, z6)
theorem Zeu zl zn z7 zd zh z2 z6 zu zb (zy : ZW zb = true) : Sim (Z9E zl z7 zd zh zu zb) (Z6z zl z2 z6) (ZwU 1 (.ptr 0 0) [(ZY zl zn z7 zd zh z2 z6 zu zb)]) := by
 unfold Z6z
 refine zf (ZIZ ..)<|ze<|zq<|zq<|zq<|zp (iv (zl.length : Int)) (et_ (Z2O (P := PP) (t := 141) (d := 5) (by kernel_rfl) (eI .u8) (shrO zu) zl))<|zq<|zq<|zt [(ZY zl (zl.length : Int) z7 zd zh z2 z6 zu zb)] ?_
 exact zr ((.p (.tup [])), [(ZY zl (zl.length : Int) z7 zd zh z2 z6 zu zb)]) ⟨_, rfl⟩
def Z9H (x1 x2 : Int) (zl : List Int) (z2 z6 : Int) : Option (Int × Int × Int) :=
 if (z2 == 0) = true then
 (Z6z zl x1 x2)
 else
 (Z6z zl z2 z6)
theorem ZnL x1 x2 zl zn z7 zd zh z2 z6 zu zb (zy : ZW zb = true) : Sim (Z9E zl z7 zd zh zu zb) (Z9H x1 x2 zl z2 z6) (EE 70 [(.ptr 0 0), (iv x1), (iv x2)] [(ZY zl zn z7 zd zh z2 z6 zu zb)]) := by
 unfold Z9H
 refine zf (ZP3 ..)<|ze<|zq<|zq<|zq<|zq<|zq ?_
 refine za (z2 == 0) ?_ ?_
 ·refine ze<|zq<|zq<|zq<|zt [(ZY zl zn z7 zd zh x1 x2 zu zb)] ?_
  exact zk (Zeu zl zn z7 zd zh x1 x2 zu zb zy)
 ·exact zk (Zeu zl zn z7 zd zh z2 z6 zu zb zy)
theorem Zh5 x1 x2 zl z2 z6 {r} (h : Z9H x1 x2 zl z2 z6 = some r) : Z1D x1 x2 zl z2 z6 = some r :=
 Z1f (fun _ _ ha hb => ru_ (ZoY _ _ _ _ _ _) (ha default default default default .ex .ex rfl) (hb default default default default .ex .ex rfl)) (fun zn z7 zd zh zu zb zy => ZnL x1 x2 zl zn z7 zd zh z2 z6 zu zb zy r h)
def Z3K : Option (Own × (List Zi)) :=
 some (.nl, ([] : List Zi))
theorem Z4f : Sim ZaN Z3K (ZcU 0 []) := by
 unfold Z3K
 refine zf (ZE0 ..)<|ze ?_
 exact zr ((ZM .nl []), []) ⟨_, rfl⟩
def Z57 (x0 : Int) : Option (Own × (List Zi)) :=
 if (x0 == 100) = true then
 (if (x0 == 100) = true then
 (some (.ex, ([(Zi.mk 48 57)] : List Zi)))
 else
 (if (x0 == 119) = true then
 (if (x0 == 119) = true then
 ((Z3d 95).bind fun r1 =>
 some (.ex, ([(Zi.mk 48 57), (Zi.mk 65 90), r1, (Zi.mk 97 122)] : List Zi)))
 else
 (if (x0 == 115) = true then
 (if (x0 == 115) = true then
 ((Z3d 32).bind fun r2 =>
 some (.ex, ([(Zi.mk 9 13), r2] : List Zi)))
 else
 Z3K)
 else
 (if (x0 == 83) = true then
 ((Z3d 32).bind fun r3 =>
 some (.ex, ([(Zi.mk 9 13), r3] : List Zi)))
 else
 Z3K)))
 else
 (if (x0 == 87) = true then
 ((Z3d 95).bind fun r4 =>
 some (.ex, ([(Zi.mk 48 57), (Zi.mk 65 90), r4, (Zi.mk 97 122)] : List Zi)))
 else
 (if (x0 == 115) = true then
 (if (x0 == 115) = true then
 ((Z3d 32).bind fun r5 =>
 some (.ex, ([(Zi.mk 9 13), r5] : List Zi)))
 else
 Z3K)
 else
 (if (x0 == 83) = true then
 ((Z3d 32).bind fun r6 =>
 some (.ex, ([(Zi.mk 9 13), r6] : List Zi)))
 else
 Z3K)))))
 else
 (if (x0 == 68) = true then
 (some (.ex, ([(Zi.mk 48 57)] : List Zi)))
 else
 (if (x0 == 119) = true then
 (if (x0 == 119) = true then
 ((Z3d 95).bind fun r7 =>
 some (.ex, ([(Zi.mk 48 57), (Zi.mk 65 90), r7, (Zi.mk 97 122)] : List Zi)))
 else
 (if (x0 == 115) = true then
 (if (x0 == 115) = true then
 ((Z3d 32).bind fun r8 =>
 some (.ex, ([(Zi.mk 9 13), r8] : List Zi)))
 else
 Z3K)
 else
 (if (x0 == 83) = true then
 ((Z3d 32).bind fun r9 =>
 some (.ex, ([(Zi.mk 9 13), r9] : List Zi)))
 else
 Z3K)))
 else
 (if (x0 == 87) = true then
 ((Z3d 95).bind fun r10 =>
 some (.ex, ([(Zi.mk 48 57), (Zi.mk 65 90), r10, (Zi.mk 97 122)] : List Zi)))
 else
 (if (x0 == 115) = true then
 (if (x0 == 115) = true then
 ((Z3d 32).bind fun r11 =>
 some (.ex, ([(Zi.mk 9 13), r11] : List Zi)))
 else
 Z3K)
 else
 (if (x0 == 83) = true then
 ((Z3d 32).bind fun r12 =>
 some (.ex, ([(Zi.mk 9 13), r12] : List Zi)))
 else
 Z3K)))))
theorem ZpI x0 : Sim ZaN (Z57 x0) (EE 149 [(iv x0)] []) := by
 unfold Z57
 refine zf (ZMz ..)<|ze<|ze<|ze<|zq ?_
 refine za (x0 == 100) ?_ ?_
 ·refine za (x0 == 100) ?_ ?_
  ·refine ze<|zq<|zq ?_
   exact zr ((ZM .ex (([(Zi.mk 48 57)] : List Zi).map ZB)), []) ⟨_, rfl⟩
  ·refine ze<|zq ?_
   refine za (x0 == 119) ?_ ?_
   ·refine za (x0 == 119) ?_ ?_
    ·refine ze<|zq<|zq<|zi fun r1 hr1 => ?_
     obtain ⟨_, er1, _, rfl⟩ := Z31 95 r1 hr1
     refine zc [] (pA_ (Z1c r1)) [] er1<|zq<|zq ?_
     exact zr ((ZM .ex (([(Zi.mk 48 57), (Zi.mk 65 90), r1, (Zi.mk 97 122)] : List Zi).map ZB)), []) ⟨_, rfl⟩
    ·refine ze<|zq ?_
     refine za (x0 == 115) ?_ ?_
     ·refine za (x0 == 115) ?_ ?_
      ·refine ze<|zq<|zi fun r2 hr2 => ?_
       obtain ⟨_, er2, _, rfl⟩ := Z31 32 r2 hr2
       refine zc [] (pA_ (Z1c r2)) [] er2<|zq ?_
       exact zr ((ZM .ex (([(Zi.mk 9 13), r2] : List Zi).map ZB)), []) ⟨_, rfl⟩
      ·exact zk Z4f
     ·refine ze<|zq ?_
      refine za (x0 == 83) ?_ ?_
      ·refine ze<|zq<|zi fun r3 hr3 => ?_
       obtain ⟨_, er3, _, rfl⟩ := Z31 32 r3 hr3
       refine zc [] (pA_ (Z1c r3)) [] er3<|zq ?_
       exact zr ((ZM .ex (([(Zi.mk 9 13), r3] : List Zi).map ZB)), []) ⟨_, rfl⟩
      ·exact zk Z4f
   ·refine ze<|zq ?_
    refine za (x0 == 87) ?_ ?_
    ·refine ze<|zq<|zq<|zi fun r4 hr4 => ?_
     obtain ⟨_, er4, _, rfl⟩ := Z31 95 r4 hr4
     refine zc [] (pA_ (Z1c r4)) [] er4<|zq<|zq ?_
     exact zr ((ZM .ex (([(Zi.mk 48 57), (Zi.mk 65 90), r4, (Zi.mk 97 122)] : List Zi).map ZB)), []) ⟨_, rfl⟩
    ·refine ze<|zq ?_
     refine za (x0 == 115) ?_ ?_
     ·refine za (x0 == 115) ?_ ?_
      ·refine ze<|zq<|zi fun r5 hr5 => ?_
       obtain ⟨_, er5, _, rfl⟩ := Z31 32 r5 hr5
       refine zc [] (pA_ (Z1c r5)) [] er5<|zq ?_
       exact zr ((ZM .ex (([(Zi.mk 9 13), r5] : List Zi).map ZB)), []) ⟨_, rfl⟩
      ·exact zk Z4f
     ·refine ze<|zq ?_
      refine za (x0 == 83) ?_ ?_
      ·refine ze<|zq<|zi fun r6 hr6 => ?_
       obtain ⟨_, er6, _, rfl⟩ := Z31 32 r6 hr6
       refine zc [] (pA_ (Z1c r6)) [] er6<|zq ?_
       exact zr ((ZM .ex (([(Zi.mk 9 13), r6] : List Zi).map ZB)), []) ⟨_, rfl⟩
      ·exact zk Z4f
 ·refine ze<|zq ?_
  refine za (x0 == 68) ?_ ?_
  ·refine ze<|zq<|zq ?_
   exact zr ((ZM .ex (([(Zi.mk 48 57)] : List Zi).map ZB)), []) ⟨_, rfl⟩
  ·refine ze<|zq ?_
   refine za (x0 == 119) ?_ ?_
   ·refine za (x0 == 119) ?_ ?_
    ·refine ze<|zq<|zq<|zi fun r7 hr7 => ?_
     obtain ⟨_, er7, _, rfl⟩ := Z31 95 r7 hr7
     refine zc [] (pA_ (Z1c r7)) [] er7<|zq<|zq ?_
     exact zr ((ZM .ex (([(Zi.mk 48 57), (Zi.mk 65 90), r7, (Zi.mk 97 122)] : List Zi).map ZB)), []) ⟨_, rfl⟩
    ·refine ze<|zq ?_
     refine za (x0 == 115) ?_ ?_
     ·refine za (x0 == 115) ?_ ?_
      ·refine ze<|zq<|zi fun r8 hr8 => ?_
       obtain ⟨_, er8, _, rfl⟩ := Z31 32 r8 hr8
       refine zc [] (pA_ (Z1c r8)) [] er8<|zq ?_
       exact zr ((ZM .ex (([(Zi.mk 9 13), r8] : List Zi).map ZB)), []) ⟨_, rfl⟩
      ·exact zk Z4f
     ·refine ze<|zq ?_
      refine za (x0 == 83) ?_ ?_
      ·refine ze<|zq<|zi fun r9 hr9 => ?_
       obtain ⟨_, er9, _, rfl⟩ := Z31 32 r9 hr9
       refine zc [] (pA_ (Z1c r9)) [] er9<|zq ?_
       exact zr ((ZM .ex (([(Zi.mk 9 13), r9] : List Zi).map ZB)), []) ⟨_, rfl⟩
      ·exact zk Z4f
   ·refine ze<|zq ?_
    refine za (x0 == 87) ?_ ?_
    ·refine ze<|zq<|zq<|zi fun r10 hr10 => ?_
     obtain ⟨_, er10, _, rfl⟩ := Z31 95 r10 hr10
     refine zc [] (pA_ (Z1c r10)) [] er10<|zq<|zq ?_
     exact zr ((ZM .ex (([(Zi.mk 48 57), (Zi.mk 65 90), r10, (Zi.mk 97 122)] : List Zi).map ZB)), []) ⟨_, rfl⟩
    ·refine ze<|zq ?_
     refine za (x0 == 115) ?_ ?_
     ·refine za (x0 == 115) ?_ ?_
      ·refine ze<|zq<|zi fun r11 hr11 => ?_
       obtain ⟨_, er11, _, rfl⟩ := Z31 32 r11 hr11
       refine zc [] (pA_ (Z1c r11)) [] er11<|zq ?_
       exact zr ((ZM .ex (([(Zi.mk 9 13), r11] : List Zi).map ZB)), []) ⟨_, rfl⟩
      ·exact zk Z4f
     ·refine ze<|zq ?_
      refine za (x0 == 83) ?_ ?_
      ·refine ze<|zq<|zi fun r12 hr12 => ?_
       obtain ⟨_, er12, _, rfl⟩ := Z31 32 r12 hr12
       refine zc [] (pA_ (Z1c r12)) [] er12<|zq ?_
       exact zr ((ZM .ex (([(Zi.mk 9 13), r12] : List Zi).map ZB)), []) ⟨_, rfl⟩
      ·exact zk Z4f
theorem ZqM x0 {r} (h : Z57 x0 = some r) : Z9u x0 = some r :=
 Z1f (fun _ _ ha hb => ru_ Zs0 ha hb) (ZpI x0 r h)
def Z3U (x2 : Int) (zl : List Int) (z2 z6 : Int) : Option (Int × Int × Int × Int) :=
 (Z1D 21 x2 zl z2 z6).bind fun r1 =>
 some (0, r1.1, r1.2.1, r1.2.2)
theorem Z63 x2 zl zn z7 zd zh z2 z6 zu zb (zy : ZW zb = true) : Sim (Z7B zl z7 zd zh zu zb) (Z3U x2 zl z2 z6) (ZhS 1 (.ptr 0 0) (iv x2) [(ZY zl zn z7 zd zh z2 z6 zu zb)]) := by
 unfold Z3U
 refine zf (ZE2 ..)<|ze<|zi fun r1 hr1 => ?_
 obtain ⟨_, er1, _, rfl⟩ := Z1J 21 x2 zl zn z7 zd zh z2 z6 zu zb zy r1 hr1
 refine zc [0] (.p (.tup [])) [(ZY zl r1.1 z7 zd zh r1.2.1 r1.2.2 zu zb)] er1<|ze ?_
 exact zr ((iv 0), [(ZY zl r1.1 z7 zd zh r1.2.1 r1.2.2 zu zb)]) ⟨_, rfl⟩
def Zbv (x1 zn z2 z6 : Int) : Option (Int × Int × Int × Int) :=
 some (x1, zn, z2, z6)
theorem Zkq x1 zl zn z7 zd zh z2 z6 zu zb (zy : ZW zb = true) : Sim (Z7B zl z7 zd zh zu zb) (Zbv x1 zn z2 z6) (Zvo 1 (iv x1) [(ZY zl zn z7 zd zh z2 z6 zu zb)]) := by
 unfold Zbv
 refine zf (ZE1 ..)<|ze ?_
 exact zr ((iv x1), [(ZY zl zn z7 zd zh z2 z6 zu zb)]) ⟨_, rfl⟩
def Zb6 (x1 x2 : Int) (zl : List Int) (zn z7 zd : Int) (zh : List Zz) (z2 z6 : Int) : Option (Int × Int × Int × Int) :=
 if (x1 == 110) = true then
 (some (10, zn, z2, z6))
 else
 (if (x1 == 116) = true then
 (some (9, zn, z2, z6))
 else
 (if (x1 == 114) = true then
 (some (13, zn, z2, z6))
 else
 (if (x1 == 120) = true then
 ((Z3p (Z2c.mk zl zn z7 zd zh (Z1p.mk z2 z6))).bind fun r1 =>
 (Zh4 r1).bind fun r2 =>
 if (decide (0 ≤ r2)) = true then
 ((Z4b zl zn).bind fun r3 =>
 (Z3p (Z2c.mk zl r3.2 z7 zd zh (Z1p.mk z2 z6))).bind fun r4 =>
 (Zh4 r4).bind fun r5 =>
 if (decide (0 ≤ r5)) = true then
 ((Z4b zl r3.2).bind fun r6 =>
 some ((IntKind.i64.wrap ((IntKind.i64.wrap (16 * r2)) + r5)), r6.2, z2, z6))
 else
 (Z3U x2 zl z2 z6))
 else
 (Z3U x2 zl z2 z6))
 else
 (if (decide (32 < x1)) = true then
 (if (decide (x1 < 127)) = true then
 ((ZcG ([(Zi.mk 48 57), (Zi.mk 65 90), (Zi.mk 97 122)] : List Zi) x1).bind fun r7 =>
 if (!r7) = true then
 (Zbv x1 zn z2 z6)
 else
 (Z3U x2 zl z2 z6))
 else
 (Z3U x2 zl z2 z6))
 else
 (Z3U x2 zl z2 z6)))))
theorem Zn8 x1 x2 zl zn z7 zd zh z2 z6 zu zb (zy : ZW zb = true) : Sim (Z7B zl z7 zd zh zu zb) (Zb6 x1 x2 zl zn z7 zd zh z2 z6) (EE 150 [(.ptr 0 0), (iv x1), (iv x2)] [(ZY zl zn z7 zd zh z2 z6 zu zb)]) := by
 unfold Zb6
 refine zf (ZMB ..)<|ze<|ze<|zq ?_
 refine za (x1 == 110) ?_ ?_
 ·refine ze ?_
  exact zr ((iv 10), [(ZY zl zn z7 zd zh z2 z6 zu zb)]) ⟨_, rfl⟩
 ·refine ze<|zq ?_
  refine za (x1 == 116) ?_ ?_
  ·refine ze ?_
   exact zr ((iv 9), [(ZY zl zn z7 zd zh z2 z6 zu zb)]) ⟨_, rfl⟩
  ·refine ze<|zq ?_
   refine za (x1 == 114) ?_ ?_
   ·refine ze ?_
    exact zr ((iv 13), [(ZY zl zn z7 zd zh z2 z6 zu zb)]) ⟨_, rfl⟩
   ·refine ze<|zq ?_
    refine za (x1 == 120) ?_ ?_
    ·refine ze<|zi fun r1 hr1 => ?_
     obtain ⟨_, er1, _, rfl⟩ := Z3z (Z2c.mk zl zn z7 zd zh (Z1p.mk z2 z6)) zu zb zy r1 hr1
     refine zc [0] (iv r1) [(ZY zl zn z7 zd zh z2 z6 zu zb)] er1<|zi fun r2 hr2 => ?_
     obtain ⟨_, er2, _, rfl⟩ := ZpG r1 r2 hr2
     refine zc [] (iv r2) [(ZY zl zn z7 zd zh z2 z6 zu zb)] er2<|ze<|zq ?_
     refine za (decide (0 ≤ r2)) ?_ ?_
     ·refine ze<|zi fun r3 hr3 => ?_
      obtain ⟨_, er3, _, rfl⟩ := Z4L zl zn z7 zd zh z2 z6 zu zb zy r3 hr3
      refine zc [0] (iv r3.1) [(ZY zl r3.2 z7 zd zh z2 z6 zu zb)] er3<|ze<|zi fun r4 hr4 => ?_
      obtain ⟨_, er4, _, rfl⟩ := Z3z (Z2c.mk zl r3.2 z7 zd zh (Z1p.mk z2 z6)) zu zb zy r4 hr4
      refine zc [0] (iv r4) [(ZY zl r3.2 z7 zd zh z2 z6 zu zb)] er4<|zi fun r5 hr5 => ?_
      obtain ⟨_, er5, _, rfl⟩ := ZpG r4 r5 hr5
      refine zc [] (iv r5) [(ZY zl r3.2 z7 zd zh z2 z6 zu zb)] er5<|ze<|zq ?_
      refine za (decide (0 ≤ r5)) ?_ ?_
      ·refine ze<|zi fun r6 hr6 => ?_
       obtain ⟨_, er6, _, rfl⟩ := Z4L zl r3.2 z7 zd zh z2 z6 zu zb zy r6 hr6
       refine zc [0] (iv r6.1) [(ZY zl r6.2 z7 zd zh z2 z6 zu zb)] er6<|ze<|zq<|zq ?_
       exact zr ((iv (IntKind.i64.wrap ((IntKind.i64.wrap (16 * r2)) + r5))), [(ZY zl r6.2 z7 zd zh z2 z6 zu zb)]) ⟨_, rfl⟩
      ·exact zk (Z63 x2 zl r3.2 z7 zd zh z2 z6 zu zb zy)
     ·exact zk (Z63 x2 zl zn z7 zd zh z2 z6 zu zb zy)
    ·refine ze<|zq ?_
     refine za (decide (32 < x1)) ?_ ?_
     ·refine zq ?_
      refine za (decide (x1 < 127)) ?_ ?_
      ·refine zq<|zq<|zq<|zq<|zi fun r7 hr7 => ?_
       obtain ⟨_, er7, _, rfl⟩ := Zt0 ([(Zi.mk 48 57), (Zi.mk 65 90), (Zi.mk 97 122)] : List Zi) x1 .sh r7 hr7
       refine zc [] (bv r7) [(ZY zl zn z7 zd zh z2 z6 zu zb)] er7<|zq ?_
       refine za (!r7) ?_ ?_
       ·exact zk (Zkq x1 zl zn z7 zd zh z2 z6 zu zb zy)
       ·exact zk (Z63 x2 zl zn z7 zd zh z2 z6 zu zb zy)
      ·exact zk (Z63 x2 zl zn z7 zd zh z2 z6 zu zb zy)
     ·exact zk (Z63 x2 zl zn z7 zd zh z2 z6 zu zb zy)
theorem ZnO x1 x2 zl zn z7 zd zh z2 z6 {r} (h : Zb6 x1 x2 zl zn z7 zd zh z2 z6 = some r) : Z9m x1 x2 zl zn z7 zd zh z2 z6 = some r :=
 Z1f (fun _ _ ha hb => ru_ (Zon _ _ _ _ _ _) (ha .ex .ex rfl) (hb .ex .ex rfl)) (fun zu zb zy => Zn8 x1 x2 zl zn z7 zd zh z2 z6 zu zb zy r h)
def ZfL (x0 : Int) : Option Int :=
 some (IntKind.i64.wrap (x0 - 48))
theorem Zt5 x0 : Sim ZN (ZfL x0) (Zz3 0 (iv x0) []) := by
 unfold ZfL
 refine zf (ZG9 ..)<|ze<|zq ?_
 exact zr ((iv (IntKind.i64.wrap (x0 - 48))), []) ⟨_, rfl⟩
def ZfM (x0 : Int) : Option Int :=
 some (IntKind.i64.wrap ((IntKind.i64.wrap (x0 - 97)) + 10))
theorem Zt6 x0 : Sim ZN (ZfM x0) (Zz4 0 (iv x0) []) := by
 unfold ZfM
 refine zf (ZGb ..)<|ze<|zq<|zq ?_
 exact zr ((iv (IntKind.i64.wrap ((IntKind.i64.wrap (x0 - 97)) + 10))), []) ⟨_, rfl⟩
def Zdv : Option Int :=
 some (-1)
theorem Zl8 : Sim ZN Zdv (Zui 0 []) := by
 unfold Zdv
 refine zf (ZGc ..)<|ze ?_
 exact zr ((iv (-1)), []) ⟨_, rfl⟩
def Zdu (x0 : Int) : Option Int :=
 if (decide (97 ≤ x0)) = true then
 (if (decide (x0 ≤ 102)) = true then
 (ZfM x0)
 else
 Zdv)
 else
 Zdv
theorem Zl7 x0 : Sim ZN (Zdu x0) (Zuh 0 (iv x0) []) := by
 unfold Zdu
 refine zf (ZGa ..)<|ze<|zq ?_
 refine za (decide (97 ≤ x0)) ?_ ?_
 ·refine zq ?_
  refine za (decide (x0 ≤ 102)) ?_ ?_
  ·exact zk (Zt6 x0)
  ·exact zk Zl8
 ·exact zk Zl8
def ZkK (x0 : Int) : Option Int :=
 if (decide (48 ≤ x0)) = true then
 (if (decide (x0 ≤ 57)) = true then
 (ZfL x0)
 else
 (Zdu x0))
 else
 (Zdu x0)
theorem Zxc x0 : Sim ZN (ZkK x0) (EE 172 [(iv x0)] []) := by
 unfold ZkK
 refine zf (ZMZ ..)<|ze<|ze<|zq ?_
 refine za (decide (48 ≤ x0)) ?_ ?_
 ·refine zq ?_
  refine za (decide (x0 ≤ 57)) ?_ ?_
  ·exact zk (Zt5 x0)
  ·exact zk (Zl7 x0)
 ·exact zk (Zl7 x0)
theorem ZzL x0 {r} (h : ZkK x0 = some r) : Zh4 x0 = some r :=
 Z1f (fun _ _ ha hb => ru_ Z2l ha hb) (Zxc x0 r h)
def ZeN (x0 : List Zi) (x1 : Int) : Option Bool :=
 (Z6x x0 x1).bind fun r1 =>
 some r1
theorem Zs6 (x0 : List Zi) x1 ox0 : Sim ZZ (ZeN x0 x1) (EE 173 [(ZM ox0 (x0.map ZB)), (iv x1)] []) := by
 unfold ZeN
 refine zf (ZN1 ..)<|ze<|zx (.ptr 0 0) [[(iv x1)]]<|ze<|zi fun r1 hr1 => ?_
 obtain ⟨_, er1, _, rfl⟩ := Zgv x0 x1 .sh r1 hr1
 refine zc [0] (bv r1) [[(iv x1)]] er1 ?_
 exact zr ((bv r1), [[(iv x1)]]) ⟨_, rfl⟩
theorem ZsZ x0 x1 {r} (h : ZeN x0 x1 = some r) : ZcG x0 x1 = some r :=
 Z1f (fun _ _ ha hb => ru_ Z2k (ha .ex) (hb .ex)) (fun ox0 => Zs6 x0 x1 ox0 r h)
def Z6s (x0 : List Zi) (zP : Int) : Option Bool :=
 (Z7O x0 zP).bind fun r1 =>
 some (decide (0 ≤ r1))
theorem Zg2 (x0 : List Zi) zP ox0 : Sim (Z9q zP) (Z6s x0 zP) (EE 184 [(ZM ox0 (x0.map ZB)), (.clo 185 [] [(.ptr 0 0)])] [[(iv zP)]]) := by
 unfold Z6s
 refine zf (ZN4 ..)<|ze<|ze<|zi fun r1 hr1 => ?_
 obtain ⟨_, er1, _, rfl⟩ := ZiL x0 zP .sh r1 hr1
 refine zc [0] (iv r1) [[(iv zP)]] er1<|zq ?_
 exact zr ((bv (decide (0 ≤ r1))), [[(iv zP)]]) ⟨_, rfl⟩
theorem Zgu x0 zP {r} (h : Z6s x0 zP = some r) : Z6x x0 zP = some r :=
 Z1f (fun _ _ ha hb => ru_ (ZjO _) (ha .ex) (hb .ex)) (fun ox0 => Zg2 x0 zP ox0 r h)
def Z7G (x0 : List Zi) (zP : Int) : Option Int :=
 Z5e x0 (x0.length : Int) 0 zP
theorem Zi4 (x0 : List Zi) zP ox0 : Sim (Z3q zP) (Z7G x0 zP) (EE 191 [(ZM ox0 (x0.map ZB)), (.clo 185 [] [(.ptr 0 0)])] [[(iv zP)]]) := by
 unfold Z7G
 refine zf (ZN6 ..)<|ze<|ze<|zp (iv (x0.length : Int)) (et_ (Z2O (P := PP) (t := 95) (d := 201) (by kernel_rfl) ZB (shrO ox0) x0)) ?_
 exact zk (ZaX x0 (x0.length : Int) 0 zP ox0)
theorem ZiK x0 zP {r} (h : Z7G x0 zP = some r) : Z7O x0 zP = some r :=
 Z1f (fun _ _ ha hb => ru_ (Zcq _) (ha .ex) (hb .ex)) (fun ox0 => Zi4 x0 zP ox0 r h)
def Z6u (x0 : List Zi) (x7 x8 zP : Int) : Option Int :=
 Z5e x0 x7 (IntKind.i64.wrap (x8 + 1)) zP
theorem Zg6 (x0 : List Zi) x7 x8 zP ox0 : Sim (Z3q zP) (Z6u x0 x7 x8 zP) (Zzf 1 (ZM ox0 (x0.map ZB)) (.clo 185 [] [(.ptr 0 0)]) (iv x7) (iv x8) [[(iv zP)]]) := by
 unfold Z6u
 refine zf (ZGj ..)<|ze<|zq ?_
 exact zk (ZaX x0 x7 (IntKind.i64.wrap (x8 + 1)) zP ox0)
def Z5b (x0 : List Zi) (x7 x8 zP : Int) : Option Int :=
 (lget x0 x8).bind fun a1 =>
 (Zdm a1 zP).bind fun r2 =>
 if r2 = true then
 (some x8)
 else
 (Z6u x0 x7 x8 zP)
theorem Zg5 (x0 : List Zi) x7 x8 zP ox0 : Sim (Z3q zP) (Z5b x0 x7 x8 zP) (Zze 1 (ZM ox0 (x0.map ZB)) (.clo 185 [] [(.ptr 0 0)]) (iv x7) (iv x8) [[(iv zP)]]) := by
 unfold Z5b
 refine zf (ZGi ..)<|ze<|ze<|zi fun a1 ha1 => zp (.cptr (Z1c a1)) (et_ (Z3E (o := (shrO ox0)) (k := .i64) (n := 2) (e := ZB) (cs := Z9V) (fun _ => rfl) (fun _ => rfl) (by decide) ha1))<|zq<|zi fun r2 hr2 => ?_
 obtain ⟨_, er2, _, rfl⟩ := ZqI a1 zP r2 hr2
 refine zv [0] (bv r2) [[(iv zP)]] er2 ?_
 refine za r2 ?_ ?_
 ·refine ze ?_
  exact zr ((iv x8), [[(iv zP)]]) ⟨_, rfl⟩
 ·exact zk (Zg6 x0 x7 x8 zP ox0)
def Z91 : Option Int :=
 some (-1)
theorem Zg7 zP : Sim (Z3q zP) Z91 (Zzg 1 [[(iv zP)]]) := by
 unfold Z91
 refine zf (ZGk ..)<|ze ?_
 exact zr ((iv (-1)), [[(iv zP)]]) ⟨_, rfl⟩
def Z4o (x0 : List Zi) (x7 x8 zP : Int) : Option Int :=
 if (decide (x8 < x7)) = true then
 (Z5b x0 x7 x8 zP)
 else
 Z91
theorem Zg4 (x0 : List Zi) x7 x8 zP ox0 : Sim (Z3q zP) (Z4o x0 x7 x8 zP) (Zpi 1 (ZM ox0 (x0.map ZB)) (.clo 185 [] [(.ptr 0 0)]) (iv x7) (iv x8) [[(iv zP)]]) := by
 unfold Z4o
 refine zf (ZGh ..)<|ze<|zq ?_
 refine za (decide (x8 < x7)) ?_ ?_
 ·exact zk (Zg5 x0 x7 x8 zP ox0)
 ·exact zk (Zg7 zP)
theorem Z7X x0 x7 x8 zP {r} (h : Z4o x0 x7 x8 zP = some r) : Z5e x0 x7 x8 zP = some r :=
 Z1f (fun _ _ ha hb => ru_ (Zcq _) (ha .ex) (hb .ex)) (fun ox0 => Zg4 x0 x7 x8 zP ox0 r h)
def Zdc (x0 : Zi) (zP : Int) : Option Bool :=
 if (decide (x0.Lo ≤ zP)) = true then
 (some (decide (zP ≤ x0.Hi)))
 else
 (some false)
theorem Zpx x0 zP : Sim (Z9q zP) (Zdc x0 zP) (EE 185 [(pA_ (Z1c x0)), (.ptr 0 0)] [[(iv zP)]]) := by
 unfold Zdc
 refine zf (ZN5 ..)<|ze<|zx (.ptr 1 0) [[(iv zP)], (Z3f x0)]<|ze<|zq<|zq<|zq<|zq ?_
 refine za (decide (x0.Lo ≤ zP)) ?_ ?_
 ·refine zq<|zq<|zq<|zq ?_
  exact zr ((bv (decide (zP ≤ x0.Hi))), [[(iv zP)], (Z3f x0)]) ⟨_, rfl⟩
 ·exact zr ((bv false), [[(iv zP)], (Z3f x0)]) ⟨_, rfl⟩
theorem ZqH x0 zP {r} (h : Zdc x0 zP = some r) : Zdm x0 zP = some r :=
 Z1f (fun _ _ ha hb => ru_ (ZjO _) ha hb) (Zpx x0 zP r h)
def Z94 (x1 : Int) (zl : List Int) (zn z7 zd : Int) (zh : List Zz) (z2 z6 : Int) : Option (Zj × Int × Int × Int) :=
 (Z2p (ByteArray.mk #[94]) zl zn).bind fun r1 =>
 Z5g x1 r1.1 0 zl r1.2 z7 zd zh z2 z6 ([] : List Zi)
theorem Zn2 x1 zl zn z7 zd zh z2 z6 zu zb (zy : ZW zb = true) : Sim (Z2n zl z7 zd zh zu zb) (Z94 x1 zl zn z7 zd zh z2 z6) (EE 131 [(.ptr 0 0), (iv x1)] [(ZY zl zn z7 zd zh z2 z6 zu zb)]) := by
 unfold Z94
 refine zf (ZMj ..)<|ze<|zz (.ptr 1 0) [(ZY zl zn z7 zd zh z2 z6 zu zb), (Zv Z2j .nl .nl)]<|ze<|zi fun r1 hr1 => ?_
 obtain ⟨_, er1, _, rfl⟩ := Z2y (ByteArray.mk #[94]) zl zn z7 zd zh z2 z6 zu zb zy r1 hr1
 refine zc [0] (bv r1.1) [(ZY zl r1.2 z7 zd zh z2 z6 zu zb), (Zv Z2j .nl .nl)] er1<|ze<|zz (.ptr 2 0) [(ZY zl r1.2 z7 zd zh z2 z6 zu zb), (Zv Z2j .nl .nl), [(ZM .nl [])]]<|ze<|ze ?_
 exact zk (Zet x1 r1.1 0 zl r1.2 z7 zd zh z2 z6 Z2j ([] : List Zi) zu zb .nl .nl .nl zy rfl rfl)
theorem ZnJ x1 zl zn z7 zd zh z2 z6 {r} (h : Z94 x1 zl zn z7 zd zh z2 z6 = some r) : Zbd x1 zl zn z7 zd zh z2 z6 = some r :=
 Z1f (fun _ _ ha hb => ru_ (ZcQ _ _ _ _ _ _) (ha .ex .ex rfl) (hb .ex .ex rfl)) (fun zu zb zy => Zn2 x1 zl zn z7 zd zh z2 z6 zu zb zy r h)
def Z2A (x1 : Int) (x5 : Bool) (x8 : Int) (zl : List Int) (zn z7 zd : Int) (zh : List Zz) (z2 z6 : Int) (z1l : List Zi) : Option (Zj × Int × Int × Int) :=
 Z5g x1 x5 (IntKind.i64.wrap (x8 + 1)) zl zn z7 zd zh z2 z6 z1l
theorem Z3v x1 x5 x8 zl zn z7 zd zh z2 z6 b1 (z1l : List Zi) zu zb zO zH z2D (zy : ZW zb = true) (z1u : ZW zO = true) (z1j : ZW zH = true) : Sim (Z2n zl z7 zd zh zu zb) (Z2A x1 x5 x8 zl zn z7 zd zh z2 z6 z1l) (Zdy 1 (.ptr 0 0) (iv x1) (.ptr 1 0) (bv x5) (.ptr 2 0) (.clo 151 [] [(.ptr 2 0)]) (iv x8) [(ZY zl zn z7 zd zh z2 z6 zu zb), (Zv b1 zO zH), [(ZM z2D (z1l.map ZB))]]) := by
 unfold Z2A
 refine zf (ZFC ..)<|ze<|zq ?_
 exact zk (Zet x1 x5 (IntKind.i64.wrap (x8 + 1)) zl zn z7 zd zh z2 z6 b1 z1l zu zb zO zH z2D zy z1u z1j)
def Z7p (zn z2 z6 : Int) (z1l : List Zi) : Option (Zj × Int × Int × Int) :=
 some ((Zj.mk 1 0 0 0 0 z1l ([] : List Zj)), zn, z2, z6)
theorem ZdC zl zn z7 zd zh z2 z6 b1 (z1l : List Zi) zu zb zO zH z2D (zy : ZW zb = true) (z1u : ZW zO = true) (z1j : ZW zH = true) : Sim (Z2n zl z7 zd zh zu zb) (Z7p zn z2 z6 z1l) (Zqw 1 (.ptr 1 0) (.ptr 2 0) [(ZY zl zn z7 zd zh z2 z6 zu zb), (Zv b1 zO zH), [(ZM z2D (z1l.map ZB))]]) := by
 unfold Z7p
 refine zf (ZDM ..)<|ze<|zq<|zq<|zt [(ZY zl zn z7 zd zh z2 z6 zu zb), (Z3w 1 0 0 0 0 z1l ([] : List Zj) (shrO (shrO z2D)) .nl), [(ZM z2D (z1l.map ZB))]] ?_
 exact zr ((pA_ (ZQ (Zj.mk 1 0 0 0 0 z1l ([] : List Zj)) .sh .sh)), [(ZY zl zn z7 zd zh z2 z6 zu zb), (Z3w 1 0 0 0 0 z1l ([] : List Zj) (shrO (shrO z2D)) .nl), [(ZM z2D (z1l.map ZB))]]) ⟨_, rfl⟩
def Z95 (x5 : Bool) (zl : List Int) (zn z2 z6 : Int) (z1l : List Zi) : Option (Zj × Int × Int × Int) :=
 (Z4b zl zn).bind fun r1 =>
 if x5 = true then
 ((ZcH z1l).bind fun r2 =>
 Z7p r1.2 z2 z6 r2.1)
 else
 (Z7p r1.2 z2 z6 z1l)
theorem Zkd x5 zl zn z7 zd zh z2 z6 b1 (z1l : List Zi) zu zb zO zH z2D (zy : ZW zb = true) (z1u : ZW zO = true) (z1j : ZW zH = true) : Sim (Z2n zl z7 zd zh zu zb) (Z95 x5 zl zn z2 z6 z1l) (Zvi 1 (.ptr 0 0) (.ptr 1 0) (bv x5) (.ptr 2 0) [(ZY zl zn z7 zd zh z2 z6 zu zb), (Zv b1 zO zH), [(ZM z2D (z1l.map ZB))]]) := by
 unfold Z95
 refine zf (ZDL ..)<|ze<|zi fun r1 hr1 => ?_
 obtain ⟨_, er1, _, rfl⟩ := Z4L zl zn z7 zd zh z2 z6 zu zb zy r1 hr1
 refine zc [0] (iv r1.1) [(ZY zl r1.2 z7 zd zh z2 z6 zu zb), (Zv b1 zO zH), [(ZM z2D (z1l.map ZB))]] er1<|ze ?_
 refine za x5 ?_ ?_
 ·refine ze<|zq<|zi fun r2 hr2 => ?_
  obtain ⟨_, er2, _, rfl⟩ := Zl5 z1l .sh r2 hr2
  refine zc [] (.p (.tup [(.lst .sh (r2.1.map ZB)), (.v (.int .i64 r2.2))])) [(ZY zl r1.2 z7 zd zh z2 z6 zu zb), (Zv b1 zO zH), [(ZM z2D (z1l.map ZB))]] er2<|zq<|zq<|zt [(ZY zl r1.2 z7 zd zh z2 z6 zu zb), (Zv b1 zO zH), [(ZM .sh (r2.1.map ZB))]] ?_
  exact zk (ZdC zl r1.2 z7 zd zh z2 z6 b1 r2.1 zu zb zO zH .sh zy z1u z1j)
 ·exact zk (ZdC zl r1.2 z7 zd zh z2 z6 b1 z1l zu zb zO zH z2D zy z1u z1j)
def Z50 (x1 : Int) (x5 : Bool) (x8 x9 : Int) (zl : List Int) (z7 zd : Int) (zh : List Zz) (z2 z6 : Int) (z1l : List Zi) : Option (Zj × Int × Int × Int) :=
 (Z1D 22 x9 zl z2 z6).bind fun r1 =>
 Z2A x1 x5 x8 zl r1.1 z7 zd zh r1.2.1 r1.2.2 z1l
theorem Z7L x1 x5 x8 x9 zl zn z7 zd zh z2 z6 b1 (z1l : List Zi) zu zb zO zH z2D (zy : ZW zb = true) (z1u : ZW zO = true) (z1j : ZW zH = true) : Sim (Z2n zl z7 zd zh zu zb) (Z50 x1 x5 x8 x9 zl z7 zd zh z2 z6 z1l) (Zk8 1 (.ptr 0 0) (iv x1) (.ptr 1 0) (bv x5) (.ptr 2 0) (.clo 151 [] [(.ptr 2 0)]) (iv x8) (iv x9) [(ZY zl zn z7 zd zh z2 z6 zu zb), (Zv b1 zO zH), [(ZM z2D (z1l.map ZB))]]) := by
 unfold Z50
 refine zf (ZDP ..)<|ze<|zi fun r1 hr1 => ?_
 obtain ⟨_, er1, _, rfl⟩ := Z1J 22 x9 zl zn z7 zd zh z2 z6 zu zb zy r1 hr1
 refine zc [0] (.p (.tup [])) [(ZY zl r1.1 z7 zd zh r1.2.1 r1.2.2 zu zb), (Zv b1 zO zH), [(ZM z2D (z1l.map ZB))]] er1 ?_
 exact zk (Z3v x1 x5 x8 zl r1.1 z7 zd zh r1.2.1 r1.2.2 b1 z1l zu zb zO zH z2D zy z1u z1j)
def Z3j (x1 : Int) (x5 : Bool) (x8 x11 x15 : Int) (zl : List Int) (zn z7 zd : Int) (zh : List Zz) (z2 z6 : Int) (z1l : List Zi) : Option (Zj × Int × Int × Int) :=
 if (z2 == 0) = true then
 ((Z8e ([(Zi.mk x11 x15)] : List Zi) z1l).bind fun r1 =>
 Z2A x1 x5 x8 zl zn z7 zd zh z2 z6 r1)
 else
 (Z2A x1 x5 x8 zl zn z7 zd zh z2 z6 z1l)
theorem Z7M x1 x5 x8 x11 x15 zl zn z7 zd zh z2 z6 b1 (z1l : List Zi) zu zb zO zH z2D (zy : ZW zb = true) (z1u : ZW zO = true) (z1j : ZW zH = true) : Sim (Z2n zl z7 zd zh zu zb) (Z3j x1 x5 x8 x11 x15 zl zn z7 zd zh z2 z6 z1l) (Zk9 1 (.ptr 0 0) (iv x1) (.ptr 1 0) (bv x5) (.ptr 2 0) (.clo 151 [] [(.ptr 2 0)]) (iv x8) (iv x11) (iv x15) [(ZY zl zn z7 zd zh z2 z6 zu zb), (Zv b1 zO zH), [(ZM z2D (z1l.map ZB))]]) := by
 unfold Z3j
 refine zf (ZDS ..)<|ze<|zq<|zq<|zq<|zq<|zq ?_
 refine za (z2 == 0) ?_ ?_
 ·refine ze<|zq<|zq<|zi fun r1 hr1 => ?_
  obtain ⟨_, er1, zcl, _, rfl⟩ := ZeY ([(Zi.mk x11 x15)] : List Zi) z1l .sh z2D r1 hr1
  refine zv [2] (.p (.tup [])) [(ZY zl zn z7 zd zh z2 z6 zu zb), (Zv b1 zO zH), [(ZM zcl (r1.map ZB))]] er1 ?_
  exact zk (Z3v x1 x5 x8 zl zn z7 zd zh z2 z6 b1 r1 zu zb zO zH zcl zy z1u z1j)
 ·exact zk (Z3v x1 x5 x8 zl zn z7 zd zh z2 z6 b1 z1l zu zb zO zH z2D zy z1u z1j)
def Z5Z (x1 : Int) (x5 : Bool) (x8 x9 x11 x15 : Int) (zl : List Int) (z7 zd : Int) (zh : List Zz) (z2 z6 : Int) (z1l : List Zi) : Option (Zj × Int × Int × Int) :=
 (Z1D 22 x9 zl z2 z6).bind fun r1 =>
 Z3j x1 x5 x8 x11 x15 zl r1.1 z7 zd zh r1.2.1 r1.2.2 z1l
theorem ZdE x1 x5 x8 x9 x11 x15 zl zn z7 zd zh z2 z6 b1 (z1l : List Zi) zu zb zO zH z2D (zy : ZW zb = true) (z1u : ZW zO = true) (z1j : ZW zH = true) : Sim (Z2n zl z7 zd zh zu zb) (Z5Z x1 x5 x8 x9 x11 x15 zl z7 zd zh z2 z6 z1l) (Zqy 1 (.ptr 0 0) (iv x1) (.ptr 1 0) (bv x5) (.ptr 2 0) (.clo 151 [] [(.ptr 2 0)]) (iv x8) (iv x9) (iv x11) (iv x15) [(ZY zl zn z7 zd zh z2 z6 zu zb), (Zv b1 zO zH), [(ZM z2D (z1l.map ZB))]]) := by
 unfold Z5Z
 refine zf (ZDR ..)<|ze<|zi fun r1 hr1 => ?_
 obtain ⟨_, er1, _, rfl⟩ := Z1J 22 x9 zl zn z7 zd zh z2 z6 zu zb zy r1 hr1
 refine zc [0] (.p (.tup [])) [(ZY zl r1.1 z7 zd zh r1.2.1 r1.2.2 zu zb), (Zv b1 zO zH), [(ZM z2D (z1l.map ZB))]] er1 ?_
 exact zk (Z7M x1 x5 x8 x11 x15 zl r1.1 z7 zd zh r1.2.1 r1.2.2 b1 z1l zu zb zO zH z2D zy z1u z1j)
def Z96 (x1 : Int) (x5 : Bool) (x8 x9 x11 : Int) (zl : List Int) (zn z7 zd : Int) (zh : List Zz) (z2 z6 : Int) (z1l : List Zi) : Option (Zj × Int × Int × Int) :=
 (Z79 zl zn z7 zd zh z2 z6).bind fun r1 =>
 if (r1.2.2.2.2.1 == 0) = true then
 ((nilO (shrO (shrO (shrO (shrO r1.2.1.1)))) r1.2.1.2).bind fun a2 =>
 if (!a2) = true then
 (Z5Z x1 x5 x8 x9 x11 r1.1 zl z7 zd zh r1.2.2.2.2.1 r1.2.2.2.2.2 z1l)
 else
 (if (decide (r1.1 < x11)) = true then
 (Z5Z x1 x5 x8 x9 x11 r1.1 zl z7 zd zh r1.2.2.2.2.1 r1.2.2.2.2.2 z1l)
 else
 (Z3j x1 x5 x8 x11 r1.1 zl r1.2.2.2.1 z7 zd zh r1.2.2.2.2.1 r1.2.2.2.2.2 z1l)))
 else
 (Z3j x1 x5 x8 x11 r1.1 zl r1.2.2.2.1 z7 zd zh r1.2.2.2.2.1 r1.2.2.2.2.2 z1l)
theorem Zkf x1 x5 x8 x9 x11 zl zn z7 zd zh z2 z6 b1 (z1l : List Zi) zu zb zO zH z2D (zy : ZW zb = true) (z1u : ZW zO = true) (z1j : ZW zH = true) : Sim (Z2n zl z7 zd zh zu zb) (Z96 x1 x5 x8 x9 x11 zl zn z7 zd zh z2 z6 z1l) (Zvk 1 (.ptr 0 0) (iv x1) (.ptr 1 0) (bv x5) (.ptr 2 0) (.clo 151 [] [(.ptr 2 0)]) (iv x8) (iv x9) (iv x11) [(ZY zl zn z7 zd zh z2 z6 zu zb), (Zv b1 zO zH), [(ZM z2D (z1l.map ZB))]]) := by
 unfold Z96
 refine zf (ZDQ ..)<|ze<|zi fun r1 hr1 => ?_
 obtain ⟨_, er1, _, rfl⟩ := Zfl zl zn z7 zd zh z2 z6 zu zb zy r1 hr1
 refine zc [0] (.p (.tup [(.v (.int .i64 r1.1)), (.lst r1.2.1.1 (r1.2.1.2.map ZB)), (.v (.bool r1.2.2.1))])) [(ZY zl r1.2.2.2.1 z7 zd zh r1.2.2.2.2.1 r1.2.2.2.2.2 zu zb), (Zv b1 zO zH), [(ZM z2D (z1l.map ZB))]] er1<|zq<|zq<|zq<|ze<|zq<|zq<|zq<|zq<|zq ?_
 refine za (r1.2.2.2.2.1 == 0) ?_ ?_
 ·refine zi fun a2 ha2 => zp (bv (!a2)) (et_ (ZrV (P := PP) (t := 94) (c := .slice none 0 0) (e := ZB) (by kernel_rfl) ha2)) ?_
  refine za (!a2) ?_ ?_
  ·exact zk (ZdE x1 x5 x8 x9 x11 r1.1 zl r1.2.2.2.1 z7 zd zh r1.2.2.2.2.1 r1.2.2.2.2.2 b1 z1l zu zb zO zH z2D zy z1u z1j)
  ·refine zq ?_
   refine za (decide (r1.1 < x11)) ?_ ?_
   ·exact zk (ZdE x1 x5 x8 x9 x11 r1.1 zl r1.2.2.2.1 z7 zd zh r1.2.2.2.2.1 r1.2.2.2.2.2 b1 z1l zu zb zO zH z2D zy z1u z1j)
   ·exact zk (Z7M x1 x5 x8 x11 r1.1 zl r1.2.2.2.1 z7 zd zh r1.2.2.2.2.1 r1.2.2.2.2.2 b1 z1l zu zb zO zH z2D zy z1u z1j)
 ·exact zk (Z7M x1 x5 x8 x11 r1.1 zl r1.2.2.2.1 z7 zd zh r1.2.2.2.2.1 r1.2.2.2.2.2 b1 z1l zu zb zO zH z2D zy z1u z1j)
def Z7r (x1 : Int) (x5 : Bool) (x8 x9 x11 : Int) (zl : List Int) (zn z7 zd : Int) (zh : List Zz) (z2 z6 : Int) (z1l : List Zi) : Option (Zj × Int × Int × Int) :=
 (Z2p (ByteArray.mk #[45]) zl zn).bind fun r1 =>
 if r1.1 = true then
 ((Z3p (Z2c.mk zl r1.2 z7 zd zh (Z1p.mk z2 z6))).bind fun r2 =>
 if (r2 == 93) = true then
 (Z50 x1 x5 x8 x9 zl z7 zd zh z2 z6 z1l)
 else
 (if (r2 == 91) = true then
 (Z50 x1 x5 x8 x9 zl z7 zd zh z2 z6 z1l)
 else
 (if (r2 == 45) = true then
 (Z50 x1 x5 x8 x9 zl z7 zd zh z2 z6 z1l)
 else
 (if (decide (r2 < 0)) = true then
 (Z50 x1 x5 x8 x9 zl z7 zd zh z2 z6 z1l)
 else
 (Z96 x1 x5 x8 x9 x11 zl r1.2 z7 zd zh z2 z6 z1l)))))
 else
 (Z3j x1 x5 x8 x11 x11 zl r1.2 z7 zd zh z2 z6 z1l)
theorem Zke x1 x5 x8 x9 x11 zl zn z7 zd zh z2 z6 b1 (z1l : List Zi) zu zb zO zH z2D (zy : ZW zb = true) (z1u : ZW zO = true) (z1j : ZW zH = true) : Sim (Z2n zl z7 zd zh zu zb) (Z7r x1 x5 x8 x9 x11 zl zn z7 zd zh z2 z6 z1l) (Zvj 1 (.ptr 0 0) (iv x1) (.ptr 1 0) (bv x5) (.ptr 2 0) (.clo 151 [] [(.ptr 2 0)]) (iv x8) (iv x9) (iv x11) [(ZY zl zn z7 zd zh z2 z6 zu zb), (Zv b1 zO zH), [(ZM z2D (z1l.map ZB))]]) := by
 unfold Z7r
 refine zf (ZDO ..)<|ze<|ze<|zi fun r1 hr1 => ?_
 obtain ⟨_, er1, _, rfl⟩ := Z2y (ByteArray.mk #[45]) zl zn z7 zd zh z2 z6 zu zb zy r1 hr1
 refine zc [0] (bv r1.1) [(ZY zl r1.2 z7 zd zh z2 z6 zu zb), (Zv b1 zO zH), [(ZM z2D (z1l.map ZB))]] er1 ?_
 refine za r1.1 ?_ ?_
 ·refine ze<|zi fun r2 hr2 => ?_
  obtain ⟨_, er2, _, rfl⟩ := Z3z (Z2c.mk zl r1.2 z7 zd zh (Z1p.mk z2 z6)) zu zb zy r2 hr2
  refine zc [0] (iv r2) [(ZY zl r1.2 z7 zd zh z2 z6 zu zb), (Zv b1 zO zH), [(ZM z2D (z1l.map ZB))]] er2<|ze<|zq ?_
  refine za (r2 == 93) ?_ ?_
  ·exact zk (Z7L x1 x5 x8 x9 zl r1.2 z7 zd zh z2 z6 b1 z1l zu zb zO zH z2D zy z1u z1j)
  ·refine zq ?_
   refine za (r2 == 91) ?_ ?_
   ·exact zk (Z7L x1 x5 x8 x9 zl r1.2 z7 zd zh z2 z6 b1 z1l zu zb zO zH z2D zy z1u z1j)
   ·refine zq ?_
    refine za (r2 == 45) ?_ ?_
    ·exact zk (Z7L x1 x5 x8 x9 zl r1.2 z7 zd zh z2 z6 b1 z1l zu zb zO zH z2D zy z1u z1j)
    ·refine zq ?_
     refine za (decide (r2 < 0)) ?_ ?_
     ·exact zk (Z7L x1 x5 x8 x9 zl r1.2 z7 zd zh z2 z6 b1 z1l zu zb zO zH z2D zy z1u z1j)
     ·exact zk (Zkf x1 x5 x8 x9 x11 zl r1.2 z7 zd zh z2 z6 b1 z1l zu zb zO zH z2D zy z1u z1j)
 ·exact zk (Z7M x1 x5 x8 x11 x11 zl r1.2 z7 zd zh z2 z6 b1 z1l zu zb zO zH z2D zy z1u z1j)
def Z7q (x1 : Int) (x5 : Bool) (x8 x9 : Int) (zl : List Int) (zn z7 zd : Int) (zh : List Zz) (z2 z6 : Int) (z1l : List Zi) : Option (Zj × Int × Int × Int) :=
 (Z79 zl zn z7 zd zh z2 z6).bind fun r1 =>
 (nilO (shrO (shrO (shrO (shrO r1.2.1.1)))) r1.2.1.2).bind fun a2 =>
 if (!a2) = true then
 ((Z58 r1.2.2.1 r1.2.1.2).bind fun r3 =>
 (Z8e r3.Set z1l).bind fun r4 =>
 (Z3p (Z2c.mk zl r1.2.2.2.1 z7 zd zh (Z1p.mk r1.2.2.2.2.1 r1.2.2.2.2.2))).bind fun r5 =>
 if (r5 == 45) = true then
 ((Z1D 22 r1.2.2.2.1 zl r1.2.2.2.2.1 r1.2.2.2.2.2).bind fun r6 =>
 Z2A x1 x5 x8 zl r6.1 z7 zd zh r6.2.1 r6.2.2 r4)
 else
 (Z2A x1 x5 x8 zl r1.2.2.2.1 z7 zd zh r1.2.2.2.2.1 r1.2.2.2.2.2 r4))
 else
 (Z7r x1 x5 x8 x9 r1.1 zl r1.2.2.2.1 z7 zd zh r1.2.2.2.2.1 r1.2.2.2.2.2 z1l)
theorem ZdD x1 x5 x8 x9 zl zn z7 zd zh z2 z6 b1 (z1l : List Zi) zu zb zO zH z2D (zy : ZW zb = true) (z1u : ZW zO = true) (z1j : ZW zH = true) : Sim (Z2n zl z7 zd zh zu zb) (Z7q x1 x5 x8 x9 zl zn z7 zd zh z2 z6 z1l) (Zqx 1 (.ptr 0 0) (iv x1) (.ptr 1 0) (bv x5) (.ptr 2 0) (.clo 151 [] [(.ptr 2 0)]) (iv x8) (iv x9) [(ZY zl zn z7 zd zh z2 z6 zu zb), (Zv b1 zO zH), [(ZM z2D (z1l.map ZB))]]) := by
 unfold Z7q
 refine zf (ZDN ..)<|ze<|zi fun r1 hr1 => ?_
 obtain ⟨_, er1, _, rfl⟩ := Zfl zl zn z7 zd zh z2 z6 zu zb zy r1 hr1
 refine zc [0] (.p (.tup [(.v (.int .i64 r1.1)), (.lst r1.2.1.1 (r1.2.1.2.map ZB)), (.v (.bool r1.2.2.1))])) [(ZY zl r1.2.2.2.1 z7 zd zh r1.2.2.2.2.1 r1.2.2.2.2.2 zu zb), (Zv b1 zO zH), [(ZM z2D (z1l.map ZB))]] er1<|zq<|zq<|zq<|ze<|zi fun a2 ha2 => zp (bv (!a2)) (et_ (ZrV (P := PP) (t := 94) (c := .slice none 0 0) (e := ZB) (by kernel_rfl) ha2)) ?_
 refine za (!a2) ?_ ?_
 ·refine ze<|zi fun r3 hr3 => ?_
  obtain ⟨_, er3, _, rfl⟩ := Z5o r1.2.2.1 r1.2.1.2 .sh r3 hr3
  refine zc [] (pA_ (ZQ r3 .sh .sh)) [(ZY zl r1.2.2.2.1 z7 zd zh r1.2.2.2.2.1 r1.2.2.2.2.2 zu zb), (Zv b1 zO zH), [(ZM z2D (z1l.map ZB))]] er3<|zz (.ptr 3 0) [(ZY zl r1.2.2.2.1 z7 zd zh r1.2.2.2.2.1 r1.2.2.2.2.2 zu zb), (Zv b1 zO zH), [(ZM z2D (z1l.map ZB))], (Zv Z2j .nl .nl)]<|zt [(ZY zl r1.2.2.2.1 z7 zd zh r1.2.2.2.2.1 r1.2.2.2.2.2 zu zb), (Zv b1 zO zH), [(ZM z2D (z1l.map ZB))], (Zv r3 .sh .sh)]<|ze<|zq<|zq<|zi fun r4 hr4 => ?_
  obtain ⟨_, er4, zdJ, _, rfl⟩ := ZeY r3.Set z1l .sh z2D r4 hr4
  refine zv [2] (.p (.tup [])) [(ZY zl r1.2.2.2.1 z7 zd zh r1.2.2.2.2.1 r1.2.2.2.2.2 zu zb), (Zv b1 zO zH), [(ZM zdJ (r4.map ZB))], (Zv r3 .sh .sh)] er4<|ze<|zi fun r5 hr5 => ?_
  obtain ⟨_, er5, _, rfl⟩ := Z3z (Z2c.mk zl r1.2.2.2.1 z7 zd zh (Z1p.mk r1.2.2.2.2.1 r1.2.2.2.2.2)) zu zb zy r5 hr5
  refine zc [0] (iv r5) [(ZY zl r1.2.2.2.1 z7 zd zh r1.2.2.2.2.1 r1.2.2.2.2.2 zu zb), (Zv b1 zO zH), [(ZM zdJ (r4.map ZB))], (Zv r3 .sh .sh)] er5<|zq ?_
  refine za (r5 == 45) ?_ ?_
  ·refine ze<|zq<|zq<|zq<|zi fun r6 hr6 => ?_
   obtain ⟨_, er6, _, rfl⟩ := Z1J 22 r1.2.2.2.1 zl r1.2.2.2.1 z7 zd zh r1.2.2.2.2.1 r1.2.2.2.2.2 zu zb zy r6 hr6
   refine zc [0] (.p (.tup [])) [(ZY zl r6.1 z7 zd zh r6.2.1 r6.2.2 zu zb), (Zv b1 zO zH), [(ZM zdJ (r4.map ZB))], (Zv r3 .sh .sh)] er6 ?_
   exact zk (Z3v x1 x5 x8 zl r6.1 z7 zd zh r6.2.1 r6.2.2 b1 r4 zu zb zO zH zdJ zy z1u z1j)
  ·exact zk (Z3v x1 x5 x8 zl r1.2.2.2.1 z7 zd zh r1.2.2.2.2.1 r1.2.2.2.2.2 b1 r4 zu zb zO zH zdJ zy z1u z1j)
 ·exact zk (Zke x1 x5 x8 x9 r1.1 zl r1.2.2.2.1 z7 zd zh r1.2.2.2.2.1 r1.2.2.2.2.2 b1 z1l zu zb zO zH z2D zy z1u z1j)
def Z69 (x1 : Int) (x5 : Bool) (x8 : Int) (zl : List Int) (zn z7 zd : Int) (zh : List Zz) (z2 z6 : Int) (z1l : List Zi) : Option (Zj × Int × Int × Int) :=
 (Z3p (Z2c.mk zl zn z7 zd zh (Z1p.mk z2 z6))).bind fun r1 =>
 if (r1 == (-1)) = true then
 ((Z1D 22 x1 zl z2 z6).bind fun r2 =>
 Z2A x1 x5 x8 zl r2.1 z7 zd zh r2.2.1 r2.2.2 z1l)
 else
 (if (r1 == 93) = true then
 (if (x8 == 0) = true then
 ((Z1D 22 x1 zl z2 z6).bind fun r3 =>
 Z2A x1 x5 x8 zl r3.1 z7 zd zh r3.2.1 r3.2.2 z1l)
 else
 (Z95 x5 zl zn z2 z6 z1l))
 else
 (if (r1 == 91) = true then
 (if (r1 == 91) = true then
 ((Z1D 22 zn zl z2 z6).bind fun r4 =>
 Z2A x1 x5 x8 zl r4.1 z7 zd zh r4.2.1 r4.2.2 z1l)
 else
 (Z7q x1 x5 x8 zn zl zn z7 zd zh z2 z6 z1l))
 else
 (if (r1 == 45) = true then
 ((Z1D 22 zn zl z2 z6).bind fun r5 =>
 Z2A x1 x5 x8 zl r5.1 z7 zd zh r5.2.1 r5.2.2 z1l)
 else
 (Z7q x1 x5 x8 zn zl zn z7 zd zh z2 z6 z1l))))
theorem Zla x1 x5 x8 zl zn z7 zd zh z2 z6 b1 (z1l : List Zi) zu zb zO zH z2D (zy : ZW zb = true) (z1u : ZW zO = true) (z1j : ZW zH = true) : Sim (Z2n zl z7 zd zh zu zb) (Z69 x1 x5 x8 zl zn z7 zd zh z2 z6 z1l) (Zyk 1 (.ptr 0 0) (iv x1) (.ptr 1 0) (bv x5) (.ptr 2 0) (.clo 151 [] [(.ptr 2 0)]) (iv x8) [(ZY zl zn z7 zd zh z2 z6 zu zb), (Zv b1 zO zH), [(ZM z2D (z1l.map ZB))]]) := by
 unfold Z69
 refine zf (ZFD ..)<|ze<|zq<|zq<|zq<|ze<|zi fun r1 hr1 => ?_
 obtain ⟨_, er1, _, rfl⟩ := Z3z (Z2c.mk zl zn z7 zd zh (Z1p.mk z2 z6)) zu zb zy r1 hr1
 refine zc [0] (iv r1) [(ZY zl zn z7 zd zh z2 z6 zu zb), (Zv b1 zO zH), [(ZM z2D (z1l.map ZB))]] er1<|ze<|ze<|zq ?_
 refine za (r1 == (-1)) ?_ ?_
 ·refine ze<|zi fun r2 hr2 => ?_
  obtain ⟨_, er2, _, rfl⟩ := Z1J 22 x1 zl zn z7 zd zh z2 z6 zu zb zy r2 hr2
  refine zc [0] (.p (.tup [])) [(ZY zl r2.1 z7 zd zh r2.2.1 r2.2.2 zu zb), (Zv b1 zO zH), [(ZM z2D (z1l.map ZB))]] er2 ?_
  exact zk (Z3v x1 x5 x8 zl r2.1 z7 zd zh r2.2.1 r2.2.2 b1 z1l zu zb zO zH z2D zy z1u z1j)
 ·refine ze<|zq ?_
  refine za (r1 == 93) ?_ ?_
  ·refine ze<|zq ?_
   refine za (x8 == 0) ?_ ?_
   ·refine ze<|zi fun r3 hr3 => ?_
    obtain ⟨_, er3, _, rfl⟩ := Z1J 22 x1 zl zn z7 zd zh z2 z6 zu zb zy r3 hr3
    refine zc [0] (.p (.tup [])) [(ZY zl r3.1 z7 zd zh r3.2.1 r3.2.2 zu zb), (Zv b1 zO zH), [(ZM z2D (z1l.map ZB))]] er3 ?_
    exact zk (Z3v x1 x5 x8 zl r3.1 z7 zd zh r3.2.1 r3.2.2 b1 z1l zu zb zO zH z2D zy z1u z1j)
   ·exact zk (Zkd x5 zl zn z7 zd zh z2 z6 b1 z1l zu zb zO zH z2D zy z1u z1j)
  ·refine ze<|zq ?_
   refine za (r1 == 91) ?_ ?_
   ·refine za (r1 == 91) ?_ ?_
    ·refine ze<|zi fun r4 hr4 => ?_
     obtain ⟨_, er4, _, rfl⟩ := Z1J 22 zn zl zn z7 zd zh z2 z6 zu zb zy r4 hr4
     refine zc [0] (.p (.tup [])) [(ZY zl r4.1 z7 zd zh r4.2.1 r4.2.2 zu zb), (Zv b1 zO zH), [(ZM z2D (z1l.map ZB))]] er4 ?_
     exact zk (Z3v x1 x5 x8 zl r4.1 z7 zd zh r4.2.1 r4.2.2 b1 z1l zu zb zO zH z2D zy z1u z1j)
    ·exact zk (ZdD x1 x5 x8 zn zl zn z7 zd zh z2 z6 b1 z1l zu zb zO zH z2D zy z1u z1j)
   ·refine ze<|zq ?_
    refine za (r1 == 45) ?_ ?_
    ·refine ze<|zi fun r5 hr5 => ?_
     obtain ⟨_, er5, _, rfl⟩ := Z1J 22 zn zl zn z7 zd zh z2 z6 zu zb zy r5 hr5
     refine zc [0] (.p (.tup [])) [(ZY zl r5.1 z7 zd zh r5.2.1 r5.2.2 zu zb), (Zv b1 zO zH), [(ZM z2D (z1l.map ZB))]] er5 ?_
     exact zk (Z3v x1 x5 x8 zl r5.1 z7 zd zh r5.2.1 r5.2.2 b1 z1l zu zb zO zH z2D zy z1u z1j)
    ·exact zk (ZdD x1 x5 x8 zn zl zn z7 zd zh z2 z6 b1 z1l zu zb zO zH z2D zy z1u z1j)
def Zbt (zn z2 z6 : Int) : Option (Zj × Int × Int × Int) :=
 some ((Zj.mk 0 0 0 0 0 ([] : List Zi) ([] : List Zj)), zn, z2, z6)
theorem Zkg zl zn z7 zd zh z2 z6 b1 zu zb zO zH (zy : ZW zb = true) (z1u : ZW zO = true) (z1j : ZW zH = true) : Sim (Z2n zl z7 zd zh zu zb) (Zbt zn z2 z6) (Zvl 1 (.ptr 1 0) [(ZY zl zn z7 zd zh z2 z6 zu zb), (Zv b1 zO zH)]) := by
 unfold Zbt
 refine zf (ZDT ..)<|ze<|zq<|zt [(ZY zl zn z7 zd zh z2 z6 zu zb), (Zv Z2j .nl .nl)] ?_
 exact zr ((pA_ (ZQ Z2j .sh .sh)), [(ZY zl zn z7 zd zh z2 z6 zu zb), (Zv Z2j .nl .nl)]) ⟨_, rfl⟩
def Z7U (x1 : Int) (x5 : Bool) (x8 : Int) (zl : List Int) (zn z7 zd : Int) (zh : List Zz) (z2 z6 : Int) (z1l : List Zi) : Option (Zj × Int × Int × Int) :=
 if (z2 == 0) = true then
 (Z69 x1 x5 x8 zl zn z7 zd zh z2 z6 z1l)
 else
 (Zbt zn z2 z6)
theorem Zl9 x1 x5 x8 zl zn z7 zd zh z2 z6 b1 (z1l : List Zi) zu zb zO zH z2D (zy : ZW zb = true) (z1u : ZW zO = true) (z1j : ZW zH = true) : Sim (Z2n zl z7 zd zh zu zb) (Z7U x1 x5 x8 zl zn z7 zd zh z2 z6 z1l) (Zp8 1 (.ptr 0 0) (iv x1) (.ptr 1 0) (bv x5) (.ptr 2 0) (.clo 151 [] [(.ptr 2 0)]) (iv x8) [(ZY zl zn z7 zd zh z2 z6 zu zb), (Zv b1 zO zH), [(ZM z2D (z1l.map ZB))]]) := by
 unfold Z7U
 refine zf (ZFB ..)<|ze<|zq<|zq<|zq<|zq<|zq ?_
 refine za (z2 == 0) ?_ ?_
 ·exact zk (Zla x1 x5 x8 zl zn z7 zd zh z2 z6 b1 z1l zu zb zO zH z2D zy z1u z1j)
 ·exact zk (Zkg zl zn z7 zd zh z2 z6 b1 zu zb zO zH zy z1u z1j)
theorem Zes x1 x5 x8 zl zn z7 zd zh z2 z6 z1l {r} (h : Z7U x1 x5 x8 zl zn z7 zd zh z2 z6 z1l = some r) : Z5g x1 x5 x8 zl zn z7 zd zh z2 z6 z1l = some r :=
 Z1f (fun _ _ ha hb => ru_ (ZcQ _ _ _ _ _ _) (ha default .ex .ex .ex .ex .ex rfl rfl rfl) (hb default .ex .ex .ex .ex .ex rfl rfl rfl)) (fun b1 zu zb zO zH z2D zy z1u z1j => Zl9 x1 x5 x8 zl zn z7 zd zh z2 z6 b1 z1l zu zb zO zH z2D zy z1u z1j r h)
def Z6N (x2 x5 : Int) (zl : List Int) (zn z7 zd : Int) (zh : List Zz) (z2 z6 : Int) : Option (Int × (Own × (List Zi)) × Bool × Int × Int × Int) :=
 (Z9m x2 x5 zl zn z7 zd zh z2 z6).bind fun r1 =>
 some (r1.1, (.nl, ([] : List Zi)), false, r1.2.1, r1.2.2.1, r1.2.2.2)
theorem ZjJ x2 x5 zl zn z7 zd zh z2 z6 zu zb (zy : ZW zb = true) : Sim (Z5U zl z7 zd zh zu zb) (Z6N x2 x5 zl zn z7 zd zh z2 z6) (Zvp 1 (.ptr 0 0) (iv x2) (iv x5) [(ZY zl zn z7 zd zh z2 z6 zu zb)]) := by
 unfold Z6N
 refine zf (ZE3 ..)<|ze<|zi fun r1 hr1 => ?_
 obtain ⟨_, er1, _, rfl⟩ := Zgn x2 x5 zl zn z7 zd zh z2 z6 zu zb zy r1 hr1
 refine zc [0] (iv r1.1) [(ZY zl r1.2.1 z7 zd zh r1.2.2.1 r1.2.2.2 zu zb)] er1 ?_
 exact zr ((.p (.tup [(.v (.int .i64 r1.1)), (.lst .nl []), (.v (.bool false))])), [(ZY zl r1.2.1 z7 zd zh r1.2.2.1 r1.2.2.2 zu zb)]) ⟨_, rfl⟩
def Z99 (x2 x5 : Int) (zl : List Int) (zn z7 zd : Int) (zh : List Zz) (z2 z6 : Int) : Option (Int × (Own × (List Zi)) × Bool × Int × Int × Int) :=
 (Z4b zl zn).bind fun r1 =>
 (Z9u x2).bind fun r2 =>
 (nilO (shrO r2.1) r2.2).bind fun a3 =>
 if (!a3) = true then
 (some (0, ((shrO r2.1), r2.2), (decide (x2 < 97)), r1.2, z2, z6))
 else
 (Z6N x2 x5 zl r1.2 z7 zd zh z2 z6)
theorem Zkl x2 x5 zl zn z7 zd zh z2 z6 zu zb (zy : ZW zb = true) : Sim (Z5U zl z7 zd zh zu zb) (Z99 x2 x5 zl zn z7 zd zh z2 z6) (ZyB 1 (.ptr 0 0) (iv x2) (iv x5) [(ZY zl zn z7 zd zh z2 z6 zu zb)]) := by
 unfold Z99
 refine zf (ZFP ..)<|ze<|zi fun r1 hr1 => ?_
 obtain ⟨_, er1, _, rfl⟩ := Z4L zl zn z7 zd zh z2 z6 zu zb zy r1 hr1
 refine zc [0] (iv r1.1) [(ZY zl r1.2 z7 zd zh z2 z6 zu zb)] er1<|ze<|zi fun r2 hr2 => ?_
 obtain ⟨_, er2, _, rfl⟩ := Zeh x2 r2 hr2
 refine zc [] (ZM r2.1 (r2.2.map ZB)) [(ZY zl r1.2 z7 zd zh z2 z6 zu zb)] er2<|ze<|zi fun a3 ha3 => zp (bv (!a3)) (et_ (ZrV (P := PP) (t := 94) (c := .slice none 0 0) (e := ZB) (by kernel_rfl) ha3)) ?_
 refine za (!a3) ?_ ?_
 ·refine ze<|zq ?_
  exact zr ((.p (.tup [(.v (.int .i64 0)), (.lst (shrO r2.1) (r2.2.map ZB)), (.v (.bool (decide (x2 < 97))))])), [(ZY zl r1.2 z7 zd zh z2 z6 zu zb)]) ⟨_, rfl⟩
 ·exact zk (ZjJ x2 x5 zl r1.2 z7 zd zh z2 z6 zu zb zy)
def Z98 (x5 : Int) (zl : List Int) (zn z7 zd : Int) (zh : List Zz) (z2 z6 : Int) : Option (Int × (Own × (List Zi)) × Bool × Int × Int × Int) :=
 (Z3p (Z2c.mk zl zn z7 zd zh (Z1p.mk z2 z6))).bind fun r1 =>
 if (decide (r1 < 0)) = true then
 ((Z1D 21 x5 zl z2 z6).bind fun r2 =>
 some (0, (.nl, ([] : List Zi)), false, r2.1, r2.2.1, r2.2.2))
 else
 (Z99 r1 x5 zl zn z7 zd zh z2 z6)
theorem Zkk x5 zl zn z7 zd zh z2 z6 zu zb (zy : ZW zb = true) : Sim (Z5U zl z7 zd zh zu zb) (Z98 x5 zl zn z7 zd zh z2 z6) (ZyA 1 (.ptr 0 0) (iv x5) [(ZY zl zn z7 zd zh z2 z6 zu zb)]) := by
 unfold Z98
 refine zf (ZFO ..)<|ze<|zi fun r1 hr1 => ?_
 obtain ⟨_, er1, _, rfl⟩ := Z3z (Z2c.mk zl zn z7 zd zh (Z1p.mk z2 z6)) zu zb zy r1 hr1
 refine zc [0] (iv r1) [(ZY zl zn z7 zd zh z2 z6 zu zb)] er1<|ze<|zq ?_
 refine za (decide (r1 < 0)) ?_ ?_
 ·refine ze<|zi fun r2 hr2 => ?_
  obtain ⟨_, er2, _, rfl⟩ := Z1J 21 x5 zl zn z7 zd zh z2 z6 zu zb zy r2 hr2
  refine zc [0] (.p (.tup [])) [(ZY zl r2.1 z7 zd zh r2.2.1 r2.2.2 zu zb)] er2<|ze ?_
  exact zr ((.p (.tup [(.v (.int .i64 0)), (.lst .nl []), (.v (.bool false))])), [(ZY zl r2.1 z7 zd zh r2.2.1 r2.2.2 zu zb)]) ⟨_, rfl⟩
 ·exact zk (Zkl r1 x5 zl zn z7 zd zh z2 z6 zu zb zy)
def Z8K (zl : List Int) (zn z7 zd : Int) (zh : List Zz) (z2 z6 : Int) : Option (Int × (Own × (List Zi)) × Bool × Int × Int × Int) :=
 (Z4b zl zn).bind fun r1 =>
 if (r1.1 != 92) = true then
 (some (r1.1, (.nl, ([] : List Zi)), false, r1.2, z2, z6))
 else
 (Z98 zn zl r1.2 z7 zd zh z2 z6)
theorem Zmk zl zn z7 zd zh z2 z6 zu zb (zy : ZW zb = true) : Sim (Z5U zl z7 zd zh zu zb) (Z8K zl zn z7 zd zh z2 z6) (EE 153 [(.ptr 0 0)] [(ZY zl zn z7 zd zh z2 z6 zu zb)]) := by
 unfold Z8K
 refine zf (ZMH ..)<|ze<|ze<|zq<|zq<|zq<|ze<|zi fun r1 hr1 => ?_
 obtain ⟨_, er1, _, rfl⟩ := Z4L zl zn z7 zd zh z2 z6 zu zb zy r1 hr1
 refine zc [0] (iv r1.1) [(ZY zl r1.2 z7 zd zh z2 z6 zu zb)] er1<|ze<|zq ?_
 refine za (r1.1 != 92) ?_ ?_
 ·refine ze ?_
  exact zr ((.p (.tup [(.v (.int .i64 r1.1)), (.lst .nl []), (.v (.bool false))])), [(ZY zl r1.2 z7 zd zh z2 z6 zu zb)]) ⟨_, rfl⟩
 ·exact zk (Zkk zn zl r1.2 z7 zd zh z2 z6 zu zb zy)
theorem Zfk zl zn z7 zd zh z2 z6 {r} (h : Z8K zl zn z7 zd zh z2 z6 = some r) : Z79 zl zn z7 zd zh z2 z6 = some r :=
 Z1f (fun _ _ ha hb => ru_ (Znx _ _ _ _ _ _) (ha .ex .ex rfl) (hb .ex .ex rfl)) (fun zu zb zy => Zmk zl zn z7 zd zh z2 z6 zu zb zy r h)
def Za9 (x0 zP : List Zi) : Option (List Zi) :=
 (ZfV zP x0).bind fun r1 =>
 some r1.1
theorem ZlI (x0 zP : List Zi) ox0 z1E : Sim Za7 (Za9 x0 zP) (EE 151 [(ZM ox0 (x0.map ZB)), (.ptr 0 0)] [[(ZM z1E (zP.map ZB))]]) := by
 unfold Za9
 refine zf (ZME ..)<|ze<|zq<|zi fun r1 hr1 => ?_
 obtain ⟨_, er1, _, rfl⟩ := ZuF zP x0 .sh .sh r1 hr1
 refine zc [] (.p (.tup [(.lst .sh (r1.1.map ZB)), (.v (.int .i64 r1.2))])) [[(ZM z1E (zP.map ZB))]] er1<|zq<|zq<|zt [[(ZM .sh (r1.1.map ZB))]] ?_
 exact zr ((.p (.tup [])), [[(ZM .sh (r1.1.map ZB))]]) ⟨.sh, _, rfl⟩
theorem Zmh x0 zP {r} (h : Za9 x0 zP = some r) : Z8e x0 zP = some r :=
 Z1f (fun _ _ ha hb => ru_ ZmJ (ha .ex .ex) (hb .ex .ex)) (fun ox0 z1E => ZlI x0 zP ox0 z1E r h)
def Zdd : Option ((List Zi) × Int) :=
 some (([] : List Zi), 10)
theorem Zim : Sim Z6k Zdd (Zu6 0 []) := by
 unfold Zdd
 refine zf (ZFM ..)<|ze ?_
 exact zr ((.p (.tup [(.lst .sh []), (.v (.int .i64 10))])), []) ⟨_, rfl⟩
def Zde (x0 x1 : List Zi) : Option ((List Zi) × Int) :=
 (ZdI ([x0, x1] : List (List Zi))).bind fun r1 =>
 (ZfW r1).bind fun r2 =>
 some (r2, 0)
theorem Zpz (x0 x1 : List Zi) ox0 ox1 : Sim Z6k (Zde x0 x1) (Zyx 0 (ZM ox0 (x0.map ZB)) (ZM ox1 (x1.map ZB)) []) := by
 unfold Zde
 refine zf (ZFN ..)<|ze<|zq<|zi fun r1 hr1 => ?_
 obtain ⟨_, er1, _, rfl⟩ := Znd ([x0, x1] : List (List Zi)) .sh r1 hr1
 refine zc [] (ZM .sh (r1.map ZB)) [] er1<|zi fun r2 hr2 => ?_
 obtain ⟨_, er2, _, rfl⟩ := ZlU r1 .sh r2 hr2
 refine zc [] (ZM .sh (r2.map ZB)) [] er2 ?_
 exact zr ((.p (.tup [(.lst .sh (r2.map ZB)), (.v (.int .i64 0))])), []) ⟨_, rfl⟩
def ZfK (x0 x1 : List Zi) : Option ((List Zi) × Int) :=
 (Z8O x0).bind fun r1 =>
 if (!r1) = true then
 Zdd
 else
 ((Z8O x1).bind fun r2 =>
 if (!r2) = true then
 Zdd
 else
 (Zde x0 x1))
theorem Zt2 (x0 x1 : List Zi) ox0 ox1 : Sim Z6k (ZfK x0 x1) (EE 152 [(ZM ox0 (x0.map ZB)), (ZM ox1 (x1.map ZB))] []) := by
 unfold ZfK
 refine zf (ZMF ..)<|ze<|ze<|zi fun r1 hr1 => ?_
 obtain ⟨_, er1, _, rfl⟩ := Zdz x0 .sh r1 hr1
 refine zc [] (bv r1) [] er1<|zq ?_
 refine za (!r1) ?_ ?_
 ·exact zk Zim
 ·refine zi fun r2 hr2 => ?_
  obtain ⟨_, er2, _, rfl⟩ := Zdz x1 .sh r2 hr2
  refine zc [] (bv r2) [] er2<|zq ?_
  refine za (!r2) ?_ ?_
  ·exact zk Zim
  ·exact zk (Zpz x0 x1 ox0 ox1)
theorem ZuE x0 x1 {r} (h : ZfK x0 x1 = some r) : ZfV x0 x1 = some r :=
 Z1f (fun _ _ ha hb => ru_ Zk4 (ha .ex .ex) (hb .ex .ex)) (fun ox0 ox1 => Zt2 x0 x1 ox0 ox1 r h)
def Z7s (zn z7 zd : Int) (zh : List Zz) (z2 z6 z2q z3o z3n z2x z2S : Int) (z2T : List Zi) (b2 : Zj) : Option (Zj × Bool × Int × Int × Int × (List Zz) × Int × Int) :=
 some ((Zj.mk z2q z3o z3n z2x z2S z2T ([b2] : List Zj)), (z2q != 7), zn, z7, zd, zh, z2, z6)
theorem Zkp zl zn z7 zd zh z2 z6 z2q z3o z3n z2x z2S z2T z4a b2 zu zb zO zH z3x z3c (zy : ZW zb = true) (z1u : ZW zO = true) (z1j : ZW zH = true) : Sim (Z3A zl zu) (Z7s zn z7 zd zh z2 z6 z2q z3o z3n z2x z2S z2T b2) (Zvn 1 (.ptr 1 0) (.ptr 2 0) [(ZY zl zn z7 zd zh z2 z6 zu zb), (Z3w z2q z3o z3n z2x z2S z2T z4a zO zH), (Zv b2 z3x z3c)]) := by
 unfold Z7s
 refine zf (ZDX ..)<|ze<|zq<|zp (ZM .ex (([b2] : List Zj).map Z14)) (Eq.trans (b := some (ZM .ex [.agg (Z3P b2)])) (by kernel_rfl) (by simp only [Z93, Zno, Z6h]))<|zq<|zt [(ZY zl zn z7 zd zh z2 z6 zu zb), (Z3w z2q z3o z3n z2x z2S z2T ([b2] : List Zj) zO .ex), (Zv b2 z3x z3c)]<|ze<|zq<|zq<|zq<|zq<|zt [(ZY zl zn z7 zd zh z2 z6 zu zb), (Z3w z2q z3o z3n z2x z2S z2T ([b2] : List Zj) (shrO zO) .ex), (Zv b2 z3x z3c)] ?_
 exact zr ((.p (.tup [(.agg (ZQ (Zj.mk z2q z3o z3n z2x z2S z2T ([b2] : List Zj)) .sh .sh)), (.v (.bool (z2q != 7)))])), [(ZY zl zn z7 zd zh z2 z6 zu zb), (Z3w z2q z3o z3n z2x z2S z2T ([b2] : List Zj) (shrO zO) .ex), (Zv b2 z3x z3c)]) ⟨zb, _, zy, rfl⟩
def Z3T (zn z7 zd : Int) (zh : List Zz) (z2 z6 z2q z3o z3n z2x z2S : Int) (z2T : List Zi) (b2 : Zj) : Option (Zj × Bool × Int × Int × Int × (List Zz) × Int × Int) :=
 if (z2q == 0) = true then
 (some (b2, true, zn, z7, (IntKind.i64.wrap (zd - 1)), zh, z2, z6))
 else
 (Z7s zn z7 (IntKind.i64.wrap (zd - 1)) zh z2 z6 z2q z3o z3n z2x z2S z2T b2)
theorem Za0 zl zn z7 zd zh z2 z6 z2q z3o z3n z2x z2S z2T z4a b2 zu zb zO zH z3x z3c (zy : ZW zb = true) (z1u : ZW zO = true) (z1j : ZW zH = true) : Sim (Z3A zl zu) (Z3T zn z7 zd zh z2 z6 z2q z3o z3n z2x z2S z2T b2) (ZmR 1 (.ptr 0 0) (.ptr 1 0) (.ptr 2 0) [(ZY zl zn z7 zd zh z2 z6 zu zb), (Z3w z2q z3o z3n z2x z2S z2T z4a zO zH), (Zv b2 z3x z3c)]) := by
 unfold Z3T
 refine zf (ZDW ..)<|ze<|zq<|zq<|zq<|zq<|zq<|zq<|zt [(ZY zl zn z7 (IntKind.i64.wrap (zd - 1)) zh z2 z6 zu zb), (Z3w z2q z3o z3n z2x z2S z2T z4a zO zH), (Zv b2 z3x z3c)]<|ze<|zq<|zq<|zq ?_
 refine za (z2q == 0) ?_ ?_
 ·refine ze<|zq<|zt [(ZY zl zn z7 (IntKind.i64.wrap (zd - 1)) zh z2 z6 zu zb), (Zv b2 (shrO z3x) (shrO z3c)), (Zv b2 z3x z3c)] ?_
  exact zr ((.p (.tup [(.agg (ZQ b2 .sh .sh)), (.v (.bool true))])), [(ZY zl zn z7 (IntKind.i64.wrap (zd - 1)) zh z2 z6 zu zb), (Zv b2 (shrO z3x) (shrO z3c)), (Zv b2 z3x z3c)]) ⟨zb, _, zy, rfl⟩
 ·exact zk (Zkp zl zn z7 (IntKind.i64.wrap (zd - 1)) zh z2 z6 z2q z3o z3n z2x z2S z2T z4a b2 zu zb zO zH z3x z3c zy z1u z1j)
def Z9c (x1 : Int) (zl : List Int) (z7 zd : Int) (zh : List Zz) (z2 z6 z2q z3o z3n z2x z2S : Int) (z2T : List Zi) (b2 : Zj) : Option (Zj × Bool × Int × Int × Int × (List Zz) × Int × Int) :=
 (Z1D 20 x1 zl z2 z6).bind fun r1 =>
 Z3T r1.1 z7 zd zh r1.2.1 r1.2.2 z2q z3o z3n z2x z2S z2T b2
theorem Zko x1 zl zn z7 zd zh z2 z6 z2q z3o z3n z2x z2S z2T z4a b2 zu zb zO zH z3x z3c (zy : ZW zb = true) (z1u : ZW zO = true) (z1j : ZW zH = true) : Sim (Z3A zl zu) (Z9c x1 zl z7 zd zh z2 z6 z2q z3o z3n z2x z2S z2T b2) (Zvm 1 (.ptr 0 0) (iv x1) (.ptr 1 0) (.ptr 2 0) [(ZY zl zn z7 zd zh z2 z6 zu zb), (Z3w z2q z3o z3n z2x z2S z2T z4a zO zH), (Zv b2 z3x z3c)]) := by
 unfold Z9c
 refine zf (ZDV ..)<|ze<|zi fun r1 hr1 => ?_
 obtain ⟨_, er1, _, rfl⟩ := Z1J 20 x1 zl zn z7 zd zh z2 z6 zu zb zy r1 hr1
 refine zc [0] (.p (.tup [])) [(ZY zl r1.1 z7 zd zh r1.2.1 r1.2.2 zu zb), (Z3w z2q z3o z3n z2x z2S z2T z4a zO zH), (Zv b2 z3x z3c)] er1 ?_
 exact zk (Za0 zl r1.1 z7 zd zh r1.2.1 r1.2.2 z2q z3o z3n z2x z2S z2T z4a b2 zu zb zO zH z3x z3c zy z1u z1j)
def Z39 (x1 : Int) (zl : List Int) (zn z7 zd : Int) (zh : List Zz) (z2 z6 z2q z3o z3n z2x z2S : Int) (z2T : List Zi) : Option (Zj × Bool × Int × Int × Int × (List Zz) × Int × Int) :=
 (Z5w zl zn z7 zd zh z2 z6).bind fun r1 =>
 if (r1.2.2.2.2.2.1 == 0) = true then
 ((Z2p (ByteArray.mk #[41]) zl r1.2.1).bind fun r2 =>
 if (!r2.1) = true then
 (Z9c x1 zl r1.2.2.1 r1.2.2.2.1 r1.2.2.2.2.1 r1.2.2.2.2.2.1 r1.2.2.2.2.2.2 z2q z3o z3n z2x z2S z2T r1.1)
 else
 (Z3T r2.2 r1.2.2.1 r1.2.2.2.1 r1.2.2.2.2.1 r1.2.2.2.2.2.1 r1.2.2.2.2.2.2 z2q z3o z3n z2x z2S z2T r1.1))
 else
 (Z3T r1.2.1 r1.2.2.1 r1.2.2.2.1 r1.2.2.2.2.1 r1.2.2.2.2.2.1 r1.2.2.2.2.2.2 z2q z3o z3n z2x z2S z2T r1.1)
theorem Z4S x1 zl zn z7 zd zh z2 z6 z2q z3o z3n z2x z2S z2T z4a zu zb zO zH (zy : ZW zb = true) (z1u : ZW zO = true) (z1j : ZW zH = true) : Sim (Z3A zl zu) (Z39 x1 zl zn z7 zd zh z2 z6 z2q z3o z3n z2x z2S z2T) (Zf3 1 (.ptr 0 0) (iv x1) (.ptr 1 0) [(ZY zl zn z7 zd zh z2 z6 zu zb), (Z3w z2q z3o z3n z2x z2S z2T z4a zO zH)]) := by
 unfold Z39
 refine zf (ZDU ..)<|ze<|zi fun r1 hr1 => ?_
 obtain ⟨_, er1, z6D, _, zbS, rfl⟩ := Zir zl zn z7 zd zh z2 z6 zu zb zy r1 hr1
 refine zc [0] (pA_ (ZQ r1.1 .sh .sh)) [(ZY zl r1.2.1 r1.2.2.1 r1.2.2.2.1 r1.2.2.2.2.1 r1.2.2.2.2.2.1 r1.2.2.2.2.2.2 zu z6D), (Z3w z2q z3o z3n z2x z2S z2T z4a zO zH)] er1<|zz (.ptr 2 0) [(ZY zl r1.2.1 r1.2.2.1 r1.2.2.2.1 r1.2.2.2.2.1 r1.2.2.2.2.2.1 r1.2.2.2.2.2.2 zu z6D), (Z3w z2q z3o z3n z2x z2S z2T z4a zO zH), (Zv Z2j .nl .nl)]<|zt [(ZY zl r1.2.1 r1.2.2.1 r1.2.2.2.1 r1.2.2.2.2.1 r1.2.2.2.2.2.1 r1.2.2.2.2.2.2 zu z6D), (Z3w z2q z3o z3n z2x z2S z2T z4a zO zH), (Zv r1.1 .sh .sh)]<|ze<|zq<|zq<|zq<|zq<|zq ?_
 refine za (r1.2.2.2.2.2.1 == 0) ?_ ?_
 ·refine zi fun r2 hr2 => ?_
  obtain ⟨_, er2, _, rfl⟩ := Z2y (ByteArray.mk #[41]) zl r1.2.1 r1.2.2.1 r1.2.2.2.1 r1.2.2.2.2.1 r1.2.2.2.2.2.1 r1.2.2.2.2.2.2 zu z6D zbS r2 hr2
  refine zc [0] (bv r2.1) [(ZY zl r2.2 r1.2.2.1 r1.2.2.2.1 r1.2.2.2.2.1 r1.2.2.2.2.2.1 r1.2.2.2.2.2.2 zu z6D), (Z3w z2q z3o z3n z2x z2S z2T z4a zO zH), (Zv r1.1 .sh .sh)] er2<|zq ?_
  refine za (!r2.1) ?_ ?_
  ·exact zk (Zko x1 zl r2.2 r1.2.2.1 r1.2.2.2.1 r1.2.2.2.2.1 r1.2.2.2.2.2.1 r1.2.2.2.2.2.2 z2q z3o z3n z2x z2S z2T z4a r1.1 zu z6D zO zH .sh .sh zbS z1u z1j)
  ·exact zk (Za0 zl r2.2 r1.2.2.1 r1.2.2.2.1 r1.2.2.2.2.1 r1.2.2.2.2.2.1 r1.2.2.2.2.2.2 z2q z3o z3n z2x z2S z2T z4a r1.1 zu z6D zO zH .sh .sh zbS z1u z1j)
 ·exact zk (Za0 zl r1.2.1 r1.2.2.1 r1.2.2.2.1 r1.2.2.2.2.1 r1.2.2.2.2.2.1 r1.2.2.2.2.2.2 z2q z3o z3n z2x z2S z2T z4a r1.1 zu z6D zO zH .sh .sh zbS z1u z1j)
def Z7V (x1 : Int) (zl : List Int) (zn z7 zd : Int) (zh : List Zz) (z2 z6 z2q z3o z3n z2x z2S : Int) (z2T : List Zi) : Option (Zj × Bool × Int × Int × Int × (List Zz) × Int × Int) :=
 (ZhJ).bind fun r1 =>
 (Z7o r1 zl zn).bind fun r2 =>
 if (decide (0 ≤ r2.1)) = true then
 (Z39 x1 zl r2.2 z7 (IntKind.i64.wrap (zd + 1)) zh z2 z6 7 0 0 r2.1 0 ([] : List Zi))
 else
 ((Z2p (ByteArray.mk #[63, 62]) zl r2.2).bind fun r3 =>
 if r3.1 = true then
 (Z39 x1 zl r3.2 z7 (IntKind.i64.wrap (zd + 1)) zh z2 z6 8 0 0 0 0 ([] : List Zi))
 else
 ((Z2p (ByteArray.mk #[63, 58]) zl r3.2).bind fun r4 =>
 if r4.1 = true then
 (Z39 x1 zl r4.2 z7 (IntKind.i64.wrap (zd + 1)) zh z2 z6 z2q z3o z3n z2x z2S z2T)
 else
 ((Z3p (Z2c.mk zl r4.2 z7 (IntKind.i64.wrap (zd + 1)) zh (Z1p.mk z2 z6))).bind fun r5 =>
 if (r5 == 63) = true then
 ((Z1D 20 x1 zl z2 z6).bind fun r6 =>
 Z39 x1 zl r6.1 z7 (IntKind.i64.wrap (zd + 1)) zh r6.2.1 r6.2.2 z2q z3o z3n z2x z2S z2T)
 else
 (if (z7 == 9) = true then
 ((Z1D 24 x1 zl z2 z6).bind fun r7 =>
 Z39 x1 zl r7.1 z7 (IntKind.i64.wrap (zd + 1)) zh r7.2.1 r7.2.2 z2q z3o z3n z2x z2S z2T)
 else
 (Z39 x1 zl r4.2 (IntKind.i64.wrap (z7 + 1)) (IntKind.i64.wrap (zd + 1)) zh z2 z6 5 0 0 0 (IntKind.i64.wrap (z7 + 1)) ([] : List Zi))))))
theorem Zlc x1 zl zn z7 zd zh z2 z6 z2q z3o z3n z2x z2S z2T z4a zu zb zO zH (zy : ZW zb = true) (z1u : ZW zO = true) (z1j : ZW zH = true) : Sim (Z3A zl zu) (Z7V x1 zl zn z7 zd zh z2 z6 z2q z3o z3n z2x z2S z2T) (Zyn 1 (.ptr 0 0) (iv x1) (.ptr 1 0) [(ZY zl zn z7 zd zh z2 z6 zu zb), (Z3w z2q z3o z3n z2x z2S z2T z4a zO zH)]) := by
 unfold Z7V
 refine zf (ZFE ..)<|ze<|zq<|zq<|zq<|zq<|zq<|zq<|zt [(ZY zl zn z7 (IntKind.i64.wrap (zd + 1)) zh z2 z6 zu zb), (Z3w z2q z3o z3n z2x z2S z2T z4a zO zH)]<|ze<|zi fun r1 hr1 => ?_
 obtain ⟨_, er1, _, rfl⟩ := Zvx r1 hr1
 refine zc [] (ZM .sh (r1.map eS)) [(ZY zl zn z7 (IntKind.i64.wrap (zd + 1)) zh z2 z6 zu zb), (Z3w z2q z3o z3n z2x z2S z2T z4a zO zH)] er1<|zi fun r2 hr2 => ?_
 obtain ⟨_, er2, _, rfl⟩ := Zi9 r1 zl zn z7 (IntKind.i64.wrap (zd + 1)) zh z2 z6 .sh zu zb zy r2 hr2
 refine zc [0] (iv r2.1) [(ZY zl r2.2 z7 (IntKind.i64.wrap (zd + 1)) zh z2 z6 zu zb), (Z3w z2q z3o z3n z2x z2S z2T z4a zO zH)] er2<|ze<|zq ?_
 refine za (decide (0 ≤ r2.1)) ?_ ?_
 ·refine ze<|zq<|zt [(ZY zl r2.2 z7 (IntKind.i64.wrap (zd + 1)) zh z2 z6 zu zb), (Z3w 7 0 0 r2.1 0 ([] : List Zi) ([] : List Zj) .nl .nl)] ?_
  exact zk (Z4S x1 zl r2.2 z7 (IntKind.i64.wrap (zd + 1)) zh z2 z6 7 0 0 r2.1 0 ([] : List Zi) ([] : List Zj) zu zb .nl .nl zy rfl rfl)
 ·refine ze<|zi fun r3 hr3 => ?_
  obtain ⟨_, er3, _, rfl⟩ := Z2y (ByteArray.mk #[63, 62]) zl r2.2 z7 (IntKind.i64.wrap (zd + 1)) zh z2 z6 zu zb zy r3 hr3
  refine zc [0] (bv r3.1) [(ZY zl r3.2 z7 (IntKind.i64.wrap (zd + 1)) zh z2 z6 zu zb), (Z3w z2q z3o z3n z2x z2S z2T z4a zO zH)] er3 ?_
  refine za r3.1 ?_ ?_
  ·refine ze<|zq<|zt [(ZY zl r3.2 z7 (IntKind.i64.wrap (zd + 1)) zh z2 z6 zu zb), (Z3w 8 0 0 0 0 ([] : List Zi) ([] : List Zj) .nl .nl)] ?_
   exact zk (Z4S x1 zl r3.2 z7 (IntKind.i64.wrap (zd + 1)) zh z2 z6 8 0 0 0 0 ([] : List Zi) ([] : List Zj) zu zb .nl .nl zy rfl rfl)
  ·refine ze<|zi fun r4 hr4 => ?_
   obtain ⟨_, er4, _, rfl⟩ := Z2y (ByteArray.mk #[63, 58]) zl r3.2 z7 (IntKind.i64.wrap (zd + 1)) zh z2 z6 zu zb zy r4 hr4
   refine zc [0] (bv r4.1) [(ZY zl r4.2 z7 (IntKind.i64.wrap (zd + 1)) zh z2 z6 zu zb), (Z3w z2q z3o z3n z2x z2S z2T z4a zO zH)] er4 ?_
   refine za r4.1 ?_ ?_
   ·exact zk (Z4S x1 zl r4.2 z7 (IntKind.i64.wrap (zd + 1)) zh z2 z6 z2q z3o z3n z2x z2S z2T z4a zu zb zO zH zy z1u z1j)
   ·refine ze<|zi fun r5 hr5 => ?_
    obtain ⟨_, er5, _, rfl⟩ := Z3z (Z2c.mk zl r4.2 z7 (IntKind.i64.wrap (zd + 1)) zh (Z1p.mk z2 z6)) zu zb zy r5 hr5
    refine zc [0] (iv r5) [(ZY zl r4.2 z7 (IntKind.i64.wrap (zd + 1)) zh z2 z6 zu zb), (Z3w z2q z3o z3n z2x z2S z2T z4a zO zH)] er5<|zq ?_
    refine za (r5 == 63) ?_ ?_
    ·refine ze<|zi fun r6 hr6 => ?_
     obtain ⟨_, er6, _, rfl⟩ := Z1J 20 x1 zl r4.2 z7 (IntKind.i64.wrap (zd + 1)) zh z2 z6 zu zb zy r6 hr6
     refine zc [0] (.p (.tup [])) [(ZY zl r6.1 z7 (IntKind.i64.wrap (zd + 1)) zh r6.2.1 r6.2.2 zu zb), (Z3w z2q z3o z3n z2x z2S z2T z4a zO zH)] er6 ?_
     exact zk (Z4S x1 zl r6.1 z7 (IntKind.i64.wrap (zd + 1)) zh r6.2.1 r6.2.2 z2q z3o z3n z2x z2S z2T z4a zu zb zO zH zy z1u z1j)
    ·refine ze<|zq<|zq<|zq<|zq ?_
     refine za (z7 == 9) ?_ ?_
     ·refine ze<|zi fun r7 hr7 => ?_
      obtain ⟨_, er7, _, rfl⟩ := Z1J 24 x1 zl r4.2 z7 (IntKind.i64.wrap (zd + 1)) zh z2 z6 zu zb zy r7 hr7
      refine zc [0] (.p (.tup [])) [(ZY zl r7.1 z7 (IntKind.i64.wrap (zd + 1)) zh r7.2.1 r7.2.2 zu zb), (Z3w z2q z3o z3n z2x z2S z2T z4a zO zH)] er7 ?_
      exact zk (Z4S x1 zl r7.1 z7 (IntKind.i64.wrap (zd + 1)) zh r7.2.1 r7.2.2 z2q z3o z3n z2x z2S z2T z4a zu zb zO zH zy z1u z1j)
     ·refine ze<|zq<|zq<|zq<|zq<|zq<|zq<|zt [(ZY zl r4.2 (IntKind.i64.wrap (z7 + 1)) (IntKind.i64.wrap (zd + 1)) zh z2 z6 zu zb), (Z3w z2q z3o z3n z2x z2S z2T z4a zO zH)]<|ze<|zq<|zq<|zq<|zq<|zt [(ZY zl r4.2 (IntKind.i64.wrap (z7 + 1)) (IntKind.i64.wrap (zd + 1)) zh z2 z6 zu zb), (Z3w 5 0 0 0 (IntKind.i64.wrap (z7 + 1)) ([] : List Zi) ([] : List Zj) .nl .nl)] ?_
      exact zk (Z4S x1 zl r4.2 (IntKind.i64.wrap (z7 + 1)) (IntKind.i64.wrap (zd + 1)) zh z2 z6 5 0 0 0 (IntKind.i64.wrap (z7 + 1)) ([] : List Zi) ([] : List Zj) zu zb .nl .nl zy rfl rfl)
def Z7F (x1 : Int) (zl : List Int) (zn z7 zd : Int) (zh : List Zz) (z2 z6 : Int) : Option (Zj × Bool × Int × Int × Int × (List Zz) × Int × Int) :=
 if (zd == 32) = true then
 ((Z1D 25 x1 zl z2 z6).bind fun r1 =>
 some ((Zj.mk 0 0 0 0 0 ([] : List Zi) ([] : List Zj)), true, r1.1, z7, zd, zh, r1.2.1, r1.2.2))
 else
 (Z7V x1 zl zn z7 zd zh z2 z6 0 0 0 0 0 ([] : List Zi))
theorem Zn7 x1 zl zn z7 zd zh z2 z6 zu zb (zy : ZW zb = true) : Sim (Z3A zl zu) (Z7F x1 zl zn z7 zd zh z2 z6) (EE 132 [(.ptr 0 0), (iv x1)] [(ZY zl zn z7 zd zh z2 z6 zu zb)]) := by
 unfold Z7F
 refine zf (ZMo ..)<|ze<|zz (.ptr 1 0) [(ZY zl zn z7 zd zh z2 z6 zu zb), (Zv Z2j .nl .nl)]<|ze<|zq<|zq<|zq<|zq ?_
 refine za (zd == 32) ?_ ?_
 ·refine ze<|zi fun r1 hr1 => ?_
  obtain ⟨_, er1, _, rfl⟩ := Z1J 25 x1 zl zn z7 zd zh z2 z6 zu zb zy r1 hr1
  refine zc [0] (.p (.tup [])) [(ZY zl r1.1 z7 zd zh r1.2.1 r1.2.2 zu zb), (Zv Z2j .nl .nl)] er1<|ze<|zq<|zt [(ZY zl r1.1 z7 zd zh r1.2.1 r1.2.2 zu zb), (Zv Z2j .nl .nl)] ?_
  exact zr ((.p (.tup [(.agg (ZQ Z2j .sh .sh)), (.v (.bool true))])), [(ZY zl r1.1 z7 zd zh r1.2.1 r1.2.2 zu zb), (Zv Z2j .nl .nl)]) ⟨zb, _, zy, rfl⟩
 ·exact zk (Zlc x1 zl zn z7 zd zh z2 z6 0 0 0 0 0 ([] : List Zi) ([] : List Zj) zu zb .nl .nl zy rfl rfl)
theorem Zci x1 zl zn z7 zd zh z2 z6 {r} (h : Z7F x1 zl zn z7 zd zh z2 z6 = some r) : Z6i x1 zl zn z7 zd zh z2 z6 = some r :=
 Z1f (fun _ _ ha hb => ru_ (ZgW _ _) (ha .ex .ex rfl) (hb .ex .ex rfl)) (fun zu zb zy => Zn7 x1 zl zn z7 zd zh z2 z6 zu zb zy r h)
def ZlD : Option (List ByteArray) :=
 some ([(ByteArray.mk #[63, 61]), (ByteArray.mk #[63, 33]), (ByteArray.mk #[63, 60, 61]), (ByteArray.mk #[63, 60, 33])] : List ByteArray)
theorem ZuK : Sim Zhy ZlD (EE 155 [] []) := by
 unfold ZlD
 refine zf (ZMK ..)<|ze<|ze<|zq ?_
 exact zr ((ZM .sh (([(ByteArray.mk #[63, 61]), (ByteArray.mk #[63, 33]), (ByteArray.mk #[63, 60, 61]), (ByteArray.mk #[63, 60, 33])] : List ByteArray).map eS)), []) ⟨_, rfl⟩
theorem Zvw {r} (h : ZlD = some r) : ZhJ = some r :=
 Z1f (fun _ _ ha hb => ru_ Zwj ha hb) (ZuK r h)
def Z7i (x0 : List ByteArray) (zl : List Int) (zn : Int) : Option (Int × Int) :=
 Z33 x0 (x0.length : Int) 0 zl zn
theorem Zhs (x0 : List ByteArray) zl zn z7 zd zh z2 z6 ox0 zu zb (zy : ZW zb = true) : Sim (Z2R zl z7 zd zh z2 z6 zu zb) (Z7i x0 zl zn) (EE 154 [(ZM ox0 (x0.map eS)), (.clo 68 [(.ptr 0 0)] [])] [(ZY zl zn z7 zd zh z2 z6 zu zb)]) := by
 unfold Z7i
 refine zf (ZMI ..)<|ze<|ze<|zp (iv (x0.length : Int)) (et_ (Z2O (P := PP) (t := 226) (d := 9) (by kernel_rfl) eS (shrO ox0) x0)) ?_
 exact zk (ZaK x0 (x0.length : Int) 0 zl zn z7 zd zh z2 z6 ox0 zu zb zy)
theorem Zi8 x0 zl zn {r} (h : Z7i x0 zl zn = some r) : Z7o x0 zl zn = some r :=
 Z1f (fun _ _ ha hb => ru_ (Z8B _ _ _ _ _ _ _ _) (ha default default default default default .ex .ex .ex rfl) (hb default default default default default .ex .ex .ex rfl)) (fun z7 zd zh z2 z6 ox0 zu zb zy => Zhs x0 zl zn z7 zd zh z2 z6 ox0 zu zb zy r h)
def Z6g (x0 : List ByteArray) (x7 x8 : Int) (zl : List Int) (zn : Int) : Option (Int × Int) :=
 Z33 x0 x7 (IntKind.i64.wrap (x8 + 1)) zl zn
theorem Zfu (x0 : List ByteArray) x7 x8 zl zn z7 zd zh z2 z6 ox0 zu zb (zy : ZW zb = true) : Sim (Z2R zl z7 zd zh z2 z6 zu zb) (Z6g x0 x7 x8 zl zn) (ZyG 1 (ZM ox0 (x0.map eS)) (.clo 68 [(.ptr 0 0)] []) (iv x7) (iv x8) [(ZY zl zn z7 zd zh z2 z6 zu zb)]) := by
 unfold Z6g
 refine zf (ZFS ..)<|ze<|zq ?_
 exact zk (ZaK x0 x7 (IntKind.i64.wrap (x8 + 1)) zl zn z7 zd zh z2 z6 ox0 zu zb zy)
def Z51 (x0 : List ByteArray) (x7 x8 : Int) (zl : List Int) (zn : Int) : Option (Int × Int) :=
 (lget x0 x8).bind fun a1 =>
 (Z2p a1 zl zn).bind fun r2 =>
 if r2.1 = true then
 (some (x8, r2.2))
 else
 (Z6g x0 x7 x8 zl r2.2)
theorem Zft (x0 : List ByteArray) x7 x8 zl zn z7 zd zh z2 z6 ox0 zu zb (zy : ZW zb = true) : Sim (Z2R zl z7 zd zh z2 z6 zu zb) (Z51 x0 x7 x8 zl zn) (ZyF 1 (ZM ox0 (x0.map eS)) (.clo 68 [(.ptr 0 0)] []) (iv x7) (iv x8) [(ZY zl zn z7 zd zh z2 z6 zu zb)]) := by
 unfold Z51
 refine zf (ZFR ..)<|ze<|ze<|zi fun a1 ha1 => zp (.cptr [(.v (.string a1))]) (et_ (Z3E (o := (shrO ox0)) (k := .i64) (n := 1) (e := eS) (cs := (fun a => [eS a])) (fun _ => rfl) (fun _ => rfl) (by decide) ha1))<|zq<|zi fun r2 hr2 => ?_
 obtain ⟨_, er2, _, rfl⟩ := Z2y a1 zl zn z7 zd zh z2 z6 zu zb zy r2 hr2
 refine zv [0] (bv r2.1) [(ZY zl r2.2 z7 zd zh z2 z6 zu zb)] er2 ?_
 refine za r2.1 ?_ ?_
 ·refine ze ?_
  exact zr ((iv x8), [(ZY zl r2.2 z7 zd zh z2 z6 zu zb)]) ⟨_, rfl⟩
 ·exact zk (Zfu x0 x7 x8 zl r2.2 z7 zd zh z2 z6 ox0 zu zb zy)
def Z8v (zn : Int) : Option (Int × Int) :=
 some ((-1), zn)
theorem Zfv zl zn z7 zd zh z2 z6 zu zb (zy : ZW zb = true) : Sim (Z2R zl z7 zd zh z2 z6 zu zb) (Z8v zn) (ZyH 1 [(ZY zl zn z7 zd zh z2 z6 zu zb)]) := by
 unfold Z8v
 refine zf (ZFT ..)<|ze ?_
 exact zr ((iv (-1)), [(ZY zl zn z7 zd zh z2 z6 zu zb)]) ⟨_, rfl⟩
def Z4g (x0 : List ByteArray) (x7 x8 : Int) (zl : List Int) (zn : Int) : Option (Int × Int) :=
 if (decide (x8 < x7)) = true then
 (Z51 x0 x7 x8 zl zn)
 else
 (Z8v zn)
theorem Zfs (x0 : List ByteArray) x7 x8 zl zn z7 zd zh z2 z6 ox0 zu zb (zy : ZW zb = true) : Sim (Z2R zl z7 zd zh z2 z6 zu zb) (Z4g x0 x7 x8 zl zn) (Zpa 1 (ZM ox0 (x0.map eS)) (.clo 68 [(.ptr 0 0)] []) (iv x7) (iv x8) [(ZY zl zn z7 zd zh z2 z6 zu zb)]) := by
 unfold Z4g
 refine zf (ZFQ ..)<|ze<|zq ?_
 refine za (decide (x8 < x7)) ?_ ?_
 ·exact zk (Zft x0 x7 x8 zl zn z7 zd zh z2 z6 ox0 zu zb zy)
 ·exact zk (Zfv zl zn z7 zd zh z2 z6 zu zb zy)
theorem Z7Q x0 x7 x8 zl zn {r} (h : Z4g x0 x7 x8 zl zn = some r) : Z33 x0 x7 x8 zl zn = some r :=
 Z1f (fun _ _ ha hb => ru_ (Z8B _ _ _ _ _ _ _ _) (ha default default default default default .ex .ex .ex rfl) (hb default default default default default .ex .ex .ex rfl)) (fun z7 zd zh z2 z6 ox0 zu zb zy => Zfs x0 x7 x8 zl zn z7 zd zh z2 z6 ox0 zu zb zy r h)
def Z5I (zn z2 z6 z3Y z5R z5Q z4P z4E : Int) (z4F : List Zi) (z3X : List Zj) : Option (Zj × Int × Int × Int) :=
 some ((Zj.mk z3Y z5R z5Q z4P z4E z4F z3X), zn, z2, z6)
theorem Z9B zl zn z7 zd zh z2 z6 b1 b2 z3Y z5R z5Q z4P z4E z4F z3X zu zb zO zH z3x z3c z65 z56 (zy : ZW zb = true) (zia : ZW z3x = true) (zfw : ZW z3c = true) (zib : ZW z65 = true) (zfx : ZW z56 = true) : Sim (Z2n zl z7 zd zh zu zb) (Z5I zn z2 z6 z3Y z5R z5Q z4P z4E z4F z3X) (ZmQ 1 (.ptr 2 0) (.ptr 3 0) [(ZY zl zn z7 zd zh z2 z6 zu zb), (Zv b1 zO zH), (Zv b2 z3x z3c), (Z3w z3Y z5R z5Q z4P z4E z4F z3X z65 z56)]) := by
 unfold Z5I
 refine zf (ZDI ..)<|ze<|zq<|zt [(ZY zl zn z7 zd zh z2 z6 zu zb), (Zv b1 zO zH), (Z3w z3Y z5R z5Q z4P z4E z4F z3X (shrO z65) (shrO z56)), (Z3w z3Y z5R z5Q z4P z4E z4F z3X z65 z56)] ?_
 exact zr ((pA_ (ZQ (Zj.mk z3Y z5R z5Q z4P z4E z4F z3X) .sh .sh)), [(ZY zl zn z7 zd zh z2 z6 zu zb), (Zv b1 zO zH), (Z3w z3Y z5R z5Q z4P z4E z4F z3X (shrO z65) (shrO z56)), (Z3w z3Y z5R z5Q z4P z4E z4F z3X z65 z56)]) ⟨_, rfl⟩
def Z4J (zl : List Int) (zn z2 z6 z3Y z5R z5Q z4P z4E : Int) (z4F : List Zi) (z3X : List Zj) : Option (Zj × Int × Int × Int) :=
 (Z2p (ByteArray.mk #[63]) zl zn).bind fun r1 =>
 if r1.1 = true then
 (Z5I r1.2 z2 z6 z3Y z5R z5Q 1 z4E z4F z3X)
 else
 ((Z2p (ByteArray.mk #[43]) zl r1.2).bind fun r2 =>
 if r2.1 = true then
 (Z5I r2.2 z2 z6 z3Y z5R z5Q 2 z4E z4F z3X)
 else
 (Z5I r2.2 z2 z6 z3Y z5R z5Q z4P z4E z4F z3X))
theorem Zd7 zl zn z7 zd zh z2 z6 b1 b2 z3Y z5R z5Q z4P z4E z4F z3X zu zb zO zH z3x z3c z65 z56 (zy : ZW zb = true) (zia : ZW z3x = true) (zfw : ZW z3c = true) (zib : ZW z65 = true) (zfx : ZW z56 = true) : Sim (Z2n zl z7 zd zh zu zb) (Z4J zl zn z2 z6 z3Y z5R z5Q z4P z4E z4F z3X) (Zqu 1 (.ptr 0 0) (.ptr 2 0) (.ptr 3 0) [(ZY zl zn z7 zd zh z2 z6 zu zb), (Zv b1 zO zH), (Zv b2 z3x z3c), (Z3w z3Y z5R z5Q z4P z4E z4F z3X z65 z56)]) := by
 unfold Z4J
 refine zf (ZDH ..)<|ze<|zi fun r1 hr1 => ?_
 obtain ⟨_, er1, _, rfl⟩ := Z2y (ByteArray.mk #[63]) zl zn z7 zd zh z2 z6 zu zb zy r1 hr1
 refine zc [0] (bv r1.1) [(ZY zl r1.2 z7 zd zh z2 z6 zu zb), (Zv b1 zO zH), (Zv b2 z3x z3c), (Z3w z3Y z5R z5Q z4P z4E z4F z3X z65 z56)] er1 ?_
 refine za r1.1 ?_ ?_
 ·refine ze<|zq<|zt [(ZY zl r1.2 z7 zd zh z2 z6 zu zb), (Zv b1 zO zH), (Zv b2 z3x z3c), (Z3w z3Y z5R z5Q 1 z4E z4F z3X z65 z56)] ?_
  exact zk (Z9B zl r1.2 z7 zd zh z2 z6 b1 b2 z3Y z5R z5Q 1 z4E z4F z3X zu zb zO zH z3x z3c z65 z56 zy zia zfw zib zfx)
 ·refine ze<|zi fun r2 hr2 => ?_
  obtain ⟨_, er2, _, rfl⟩ := Z2y (ByteArray.mk #[43]) zl r1.2 z7 zd zh z2 z6 zu zb zy r2 hr2
  refine zc [0] (bv r2.1) [(ZY zl r2.2 z7 zd zh z2 z6 zu zb), (Zv b1 zO zH), (Zv b2 z3x z3c), (Z3w z3Y z5R z5Q z4P z4E z4F z3X z65 z56)] er2 ?_
  refine za r2.1 ?_ ?_
  ·refine ze<|zq<|zt [(ZY zl r2.2 z7 zd zh z2 z6 zu zb), (Zv b1 zO zH), (Zv b2 z3x z3c), (Z3w z3Y z5R z5Q 2 z4E z4F z3X z65 z56)] ?_
   exact zk (Z9B zl r2.2 z7 zd zh z2 z6 b1 b2 z3Y z5R z5Q 2 z4E z4F z3X zu zb zO zH z3x z3c z65 z56 zy zia zfw zib zfx)
  ·exact zk (Z9B zl r2.2 z7 zd zh z2 z6 b1 b2 z3Y z5R z5Q z4P z4E z4F z3X zu zb zO zH z3x z3c z65 z56 zy zia zfw zib zfx)
def Z3M (x2 : Bool) (x7 : Int) (zl : List Int) (zn z2 z6 z3Y z5R z5Q z4P z4E : Int) (z4F : List Zi) (z3X : List Zj) : Option (Zj × Int × Int × Int) :=
 if (!x2) = true then
 ((Z1D 23 x7 zl z2 z6).bind fun r1 =>
 Z4J zl r1.1 r1.2.1 r1.2.2 z3Y z5R z5Q z4P z4E z4F z3X)
 else
 (Z4J zl zn z2 z6 z3Y z5R z5Q z4P z4E z4F z3X)
theorem Z7l x2 x7 zl zn z7 zd zh z2 z6 b1 b2 z3Y z5R z5Q z4P z4E z4F z3X zu zb zO zH z3x z3c z65 z56 (zy : ZW zb = true) (zia : ZW z3x = true) (zfw : ZW z3c = true) (zib : ZW z65 = true) (zfx : ZW z56 = true) : Sim (Z2n zl z7 zd zh zu zb) (Z3M x2 x7 zl zn z2 z6 z3Y z5R z5Q z4P z4E z4F z3X) (Zk6 1 (.ptr 0 0) (bv x2) (.ptr 2 0) (iv x7) (.ptr 3 0) [(ZY zl zn z7 zd zh z2 z6 zu zb), (Zv b1 zO zH), (Zv b2 z3x z3c), (Z3w z3Y z5R z5Q z4P z4E z4F z3X z65 z56)]) := by
 unfold Z3M
 refine zf (ZDG ..)<|ze<|zq ?_
 refine za (!x2) ?_ ?_
 ·refine ze<|zi fun r1 hr1 => ?_
  obtain ⟨_, er1, _, rfl⟩ := Z1J 23 x7 zl zn z7 zd zh z2 z6 zu zb zy r1 hr1
  refine zc [0] (.p (.tup [])) [(ZY zl r1.1 z7 zd zh r1.2.1 r1.2.2 zu zb), (Zv b1 zO zH), (Zv b2 z3x z3c), (Z3w z3Y z5R z5Q z4P z4E z4F z3X z65 z56)] er1 ?_
  exact zk (Zd7 zl r1.1 z7 zd zh r1.2.1 r1.2.2 b1 b2 z3Y z5R z5Q z4P z4E z4F z3X zu zb zO zH z3x z3c z65 z56 zy zia zfw zib zfx)
 ·exact zk (Zd7 zl zn z7 zd zh z2 z6 b1 b2 z3Y z5R z5Q z4P z4E z4F z3X zu zb zO zH z3x z3c z65 z56 zy zia zfw zib zfx)
def Z75 (x1 : Zj) (x2 : Bool) (zl : List Int) (zn z7 zd : Int) (zh : List Zz) (z2 z6 : Int) : Option (Zj × Int × Int × Int) :=
 (Z2p (ByteArray.mk #[42]) zl zn).bind fun r1 =>
 if r1.1 = true then
 (Z3M x2 zn zl r1.2 z2 z6 4 0 (-1) 0 0 ([] : List Zi) ([x1] : List Zj))
 else
 ((Z2p (ByteArray.mk #[43]) zl r1.2).bind fun r2 =>
 if r2.1 = true then
 (Z3M x2 zn zl r2.2 z2 z6 4 1 (-1) 0 0 ([] : List Zi) ([x1] : List Zj))
 else
 ((Z2p (ByteArray.mk #[63]) zl r2.2).bind fun r3 =>
 if r3.1 = true then
 (Z3M x2 zn zl r3.2 z2 z6 4 0 1 0 0 ([] : List Zi) ([x1] : List Zj))
 else
 ((Z2p (ByteArray.mk #[123]) zl r3.2).bind fun r4 =>
 if r4.1 = true then
 ((Z8S zn zl r4.2 z7 zd zh z2 z6).bind fun r5 =>
 Z3M x2 zn zl r5.2.2.1 r5.2.2.2.1 r5.2.2.2.2 4 r5.1 r5.2.1 0 0 ([] : List Zi) ([x1] : List Zj))
 else
 (some (x1, r4.2, z2, z6)))))
theorem Zmm x1 x2 zl zn z7 zd zh z2 z6 z4p z3N zu zb (zy : ZW zb = true) : Sim (Z2n zl z7 zd zh zu zb) (Z75 x1 x2 zl zn z7 zd zh z2 z6) (EE 106 [(.ptr 0 0), (pA_ (ZQ x1 z4p z3N)), (bv x2)] [(ZY zl zn z7 zd zh z2 z6 zu zb)]) := by
 unfold Z75
 refine zf (ZM2 ..)<|ze<|zx (.ptr 1 0) [(ZY zl zn z7 zd zh z2 z6 zu zb), (Zv x1 z4p z3N)]<|zz (.ptr 2 0) [(ZY zl zn z7 zd zh z2 z6 zu zb), (Zv x1 z4p z3N), (Zv Z2j .nl .nl)]<|ze<|zq<|zq<|zq<|ze<|zq<|zp (ZM .ex (([x1] : List Zj).map Z14)) (Eq.trans (b := some (ZM .ex [.agg (Z3P x1)])) (by kernel_rfl) (by simp only [Z93, Zno, Z6h]))<|zq<|zz (.ptr 3 0) [(ZY zl zn z7 zd zh z2 z6 zu zb), (Zv x1 z4p z3N), (Zv Z2j .nl .nl), (Zv Z2j .nl .nl)]<|zt [(ZY zl zn z7 zd zh z2 z6 zu zb), (Zv x1 z4p z3N), (Zv Z2j .nl .nl), (Z3w 4 0 (-1) 0 0 ([] : List Zi) ([x1] : List Zj) .nl .ex)]<|ze<|zi fun r1 hr1 => ?_
 obtain ⟨_, er1, _, rfl⟩ := Z2y (ByteArray.mk #[42]) zl zn z7 zd zh z2 z6 zu zb zy r1 hr1
 refine zc [0] (bv r1.1) [(ZY zl r1.2 z7 zd zh z2 z6 zu zb), (Zv x1 z4p z3N), (Zv Z2j .nl .nl), (Z3w 4 0 (-1) 0 0 ([] : List Zi) ([x1] : List Zj) .nl .ex)] er1 ?_
 refine za r1.1 ?_ ?_
 ·exact zk (Z7l x2 zn zl r1.2 z7 zd zh z2 z6 x1 Z2j 4 0 (-1) 0 0 ([] : List Zi) ([x1] : List Zj) zu zb z4p z3N .nl .nl .nl .ex zy rfl rfl rfl rfl)
 ·refine ze<|zi fun r2 hr2 => ?_
  obtain ⟨_, er2, _, rfl⟩ := Z2y (ByteArray.mk #[43]) zl r1.2 z7 zd zh z2 z6 zu zb zy r2 hr2
  refine zc [0] (bv r2.1) [(ZY zl r2.2 z7 zd zh z2 z6 zu zb), (Zv x1 z4p z3N), (Zv Z2j .nl .nl), (Z3w 4 0 (-1) 0 0 ([] : List Zi) ([x1] : List Zj) .nl .ex)] er2 ?_
  refine za r2.1 ?_ ?_
  ·refine ze<|zq<|zt [(ZY zl r2.2 z7 zd zh z2 z6 zu zb), (Zv x1 z4p z3N), (Zv Z2j .nl .nl), (Z3w 4 1 (-1) 0 0 ([] : List Zi) ([x1] : List Zj) .nl .ex)] ?_
   exact zk (Z7l x2 zn zl r2.2 z7 zd zh z2 z6 x1 Z2j 4 1 (-1) 0 0 ([] : List Zi) ([x1] : List Zj) zu zb z4p z3N .nl .nl .nl .ex zy rfl rfl rfl rfl)
  ·refine ze<|zi fun r3 hr3 => ?_
   obtain ⟨_, er3, _, rfl⟩ := Z2y (ByteArray.mk #[63]) zl r2.2 z7 zd zh z2 z6 zu zb zy r3 hr3
   refine zc [0] (bv r3.1) [(ZY zl r3.2 z7 zd zh z2 z6 zu zb), (Zv x1 z4p z3N), (Zv Z2j .nl .nl), (Z3w 4 0 (-1) 0 0 ([] : List Zi) ([x1] : List Zj) .nl .ex)] er3 ?_
   refine za r3.1 ?_ ?_
   ·refine ze<|zq<|zt [(ZY zl r3.2 z7 zd zh z2 z6 zu zb), (Zv x1 z4p z3N), (Zv Z2j .nl .nl), (Z3w 4 0 1 0 0 ([] : List Zi) ([x1] : List Zj) .nl .ex)] ?_
    exact zk (Z7l x2 zn zl r3.2 z7 zd zh z2 z6 x1 Z2j 4 0 1 0 0 ([] : List Zi) ([x1] : List Zj) zu zb z4p z3N .nl .nl .nl .ex zy rfl rfl rfl rfl)
   ·refine ze<|zi fun r4 hr4 => ?_
    obtain ⟨_, er4, _, rfl⟩ := Z2y (ByteArray.mk #[123]) zl r3.2 z7 zd zh z2 z6 zu zb zy r4 hr4
    refine zc [0] (bv r4.1) [(ZY zl r4.2 z7 zd zh z2 z6 zu zb), (Zv x1 z4p z3N), (Zv Z2j .nl .nl), (Z3w 4 0 (-1) 0 0 ([] : List Zi) ([x1] : List Zj) .nl .ex)] er4 ?_
    refine za r4.1 ?_ ?_
    ·refine ze<|zi fun r5 hr5 => ?_
     obtain ⟨_, er5, _, rfl⟩ := Zn3 zn zl r4.2 z7 zd zh z2 z6 zu zb zy r5 hr5
     refine zc [0] (.p (.tup [(.v (.int .i64 r5.1)), (.v (.int .i64 r5.2.1))])) [(ZY zl r5.2.2.1 z7 zd zh r5.2.2.2.1 r5.2.2.2.2 zu zb), (Zv x1 z4p z3N), (Zv Z2j .nl .nl), (Z3w 4 0 (-1) 0 0 ([] : List Zi) ([x1] : List Zj) .nl .ex)] er5<|zq<|zq<|zq<|zt [(ZY zl r5.2.2.1 z7 zd zh r5.2.2.2.1 r5.2.2.2.2 zu zb), (Zv x1 z4p z3N), (Zv Z2j .nl .nl), (Z3w 4 r5.1 (-1) 0 0 ([] : List Zi) ([x1] : List Zj) .nl .ex)]<|zq<|zt [(ZY zl r5.2.2.1 z7 zd zh r5.2.2.2.1 r5.2.2.2.2 zu zb), (Zv x1 z4p z3N), (Zv Z2j .nl .nl), (Z3w 4 r5.1 r5.2.1 0 0 ([] : List Zi) ([x1] : List Zj) .nl .ex)] ?_
     exact zk (Z7l x2 zn zl r5.2.2.1 z7 zd zh r5.2.2.2.1 r5.2.2.2.2 x1 Z2j 4 r5.1 r5.2.1 0 0 ([] : List Zi) ([x1] : List Zj) zu zb z4p z3N .nl .nl .nl .ex zy rfl rfl rfl rfl)
    ·refine ze<|zq<|zt [(ZY zl r4.2 z7 zd zh z2 z6 zu zb), (Zv x1 z4p z3N), (Zv x1 (shrO z4p) (shrO z3N)), (Z3w 4 0 (-1) 0 0 ([] : List Zi) ([x1] : List Zj) .nl .ex)] ?_
     exact zr ((pA_ (ZQ x1 .sh .sh)), [(ZY zl r4.2 z7 zd zh z2 z6 zu zb), (Zv x1 z4p z3N), (Zv x1 (shrO z4p) (shrO z3N)), (Z3w 4 0 (-1) 0 0 ([] : List Zi) ([x1] : List Zj) .nl .ex)]) ⟨_, rfl⟩
theorem Zfn x1 x2 zl zn z7 zd zh z2 z6 {r} (h : Z75 x1 x2 zl zn z7 zd zh z2 z6 = some r) : Z8T x1 x2 zl zn z7 zd zh z2 z6 = some r :=
 Z1f (fun _ _ ha hb => ru_ (ZcQ _ _ _ _ _ _) (ha .ex .ex .ex .ex rfl) (hb .ex .ex .ex .ex rfl)) (fun z4p z3N zu zb zy => Zmm x1 x2 zl zn z7 zd zh z2 z6 z4p z3N zu zb zy r h)
def Zbu (x4 zn z2 z6 : Int) : Option (Int × Int × Int × Int × Int) :=
 some (x4, (-1), zn, z2, z6)
theorem Zki x4 zl zn z7 zd zh z2 z6 zu zb (zy : ZW zb = true) : Sim (Z48 zl z7 zd zh zu zb) (Zbu x4 zn z2 z6) (Zyq 1 (iv x4) [(ZY zl zn z7 zd zh z2 z6 zu zb)]) := by
 unfold Zbu
 refine zf (ZFG ..)<|ze ?_
 exact zr ((.p (.tup [(.v (.int .i64 x4)), (.v (.int .i64 (-1)))])), [(ZY zl zn z7 zd zh z2 z6 zu zb)]) ⟨_, rfl⟩
def Z8W (x4 x5 zn z2 z6 : Int) : Option (Int × Int × Int × Int × Int) :=
 some (x4, x5, zn, z2, z6)
theorem Zd5 x4 x5 zl zn z7 zd zh z2 z6 zu zb (zy : ZW zb = true) : Sim (Z48 zl z7 zd zh zu zb) (Z8W x4 x5 zn z2 z6) (Zqz 1 (iv x4) (iv x5) [(ZY zl zn z7 zd zh z2 z6 zu zb)]) := by
 unfold Z8W
 refine zf (ZDZ ..)<|ze ?_
 exact zr ((.p (.tup [(.v (.int .i64 x4)), (.v (.int .i64 x5))])), [(ZY zl zn z7 zd zh z2 z6 zu zb)]) ⟨_, rfl⟩
def Z4c (x1 x4 x5 : Int) (zl : List Int) (z2 z6 : Int) : Option (Int × Int × Int × Int × Int) :=
 (Z1D 23 x1 zl z2 z6).bind fun r1 =>
 Z8W x4 x5 r1.1 r1.2.1 r1.2.2
theorem Z7k x1 x4 x5 zl zn z7 zd zh z2 z6 zu zb (zy : ZW zb = true) : Sim (Z48 zl z7 zd zh zu zb) (Z4c x1 x4 x5 zl z2 z6) (Zka 1 (.ptr 0 0) (iv x1) (iv x4) (iv x5) [(ZY zl zn z7 zd zh z2 z6 zu zb)]) := by
 unfold Z4c
 refine zf (ZDY ..)<|ze<|zi fun r1 hr1 => ?_
 obtain ⟨_, er1, _, rfl⟩ := Z1J 23 x1 zl zn z7 zd zh z2 z6 zu zb zy r1 hr1
 refine zc [0] (.p (.tup [])) [(ZY zl r1.1 z7 zd zh r1.2.1 r1.2.2 zu zb)] er1 ?_
 exact zk (Zd5 x4 x5 zl r1.1 z7 zd zh r1.2.1 r1.2.2 zu zb zy)
def Z3S (x1 x4 x5 : Int) (zl : List Int) (zn z2 z6 : Int) : Option (Int × Int × Int × Int × Int) :=
 if (decide (x4 < 0)) = true then
 (Z4c x1 x4 x5 zl z2 z6)
 else
 (if (decide (x5 < x4)) = true then
 (Z4c x1 x4 x5 zl z2 z6)
 else
 (if (decide (64 < x5)) = true then
 (Z4c x1 x4 x5 zl z2 z6)
 else
 ((Z2p (ByteArray.mk #[125]) zl zn).bind fun r1 =>
 if (!r1.1) = true then
 (Z4c x1 x4 x5 zl z2 z6)
 else
 (Z8W x4 x5 r1.2 z2 z6))))
theorem Z7N x1 x4 x5 zl zn z7 zd zh z2 z6 zu zb (zy : ZW zb = true) : Sim (Z48 zl z7 zd zh zu zb) (Z3S x1 x4 x5 zl zn z2 z6) (ZmA 1 (.ptr 0 0) (iv x1) (iv x4) (iv x5) [(ZY zl zn z7 zd zh z2 z6 zu zb)]) := by
 unfold Z3S
 refine zf (ZFI ..)<|ze<|zq ?_
 refine za (decide (x4 < 0)) ?_ ?_
 ·exact zk (Z7k x1 x4 x5 zl zn z7 zd zh z2 z6 zu zb zy)
 ·refine zq ?_
  refine za (decide (x5 < x4)) ?_ ?_
  ·exact zk (Z7k x1 x4 x5 zl zn z7 zd zh z2 z6 zu zb zy)
  ·refine zq ?_
   refine za (decide (64 < x5)) ?_ ?_
   ·exact zk (Z7k x1 x4 x5 zl zn z7 zd zh z2 z6 zu zb zy)
   ·refine zi fun r1 hr1 => ?_
    obtain ⟨_, er1, _, rfl⟩ := Z2y (ByteArray.mk #[125]) zl zn z7 zd zh z2 z6 zu zb zy r1 hr1
    refine zc [0] (bv r1.1) [(ZY zl r1.2 z7 zd zh z2 z6 zu zb)] er1<|zq ?_
    refine za (!r1.1) ?_ ?_
    ·exact zk (Z7k x1 x4 x5 zl r1.2 z7 zd zh z2 z6 zu zb zy)
    ·exact zk (Zd5 x4 x5 zl r1.2 z7 zd zh z2 z6 zu zb zy)
def Z60 (x1 x4 : Int) (zl : List Int) (zn z2 z6 : Int) : Option (Int × Int × Int × Int × Int) :=
 Z3S x1 x4 (-2) zl zn z2 z6
theorem ZdF x1 x4 zl zn z7 zd zh z2 z6 zu zb (zy : ZW zb = true) : Sim (Z48 zl z7 zd zh zu zb) (Z60 x1 x4 zl zn z2 z6) (Zu5 1 (.ptr 0 0) (iv x1) (iv x4) [(ZY zl zn z7 zd zh z2 z6 zu zb)]) := by
 unfold Z60
 refine zf (ZFH ..)<|ze ?_
 exact zk (Z7N x1 x4 (-2) zl zn z7 zd zh z2 z6 zu zb zy)
def Z97 (x1 x4 : Int) (zl : List Int) (zn z2 z6 : Int) : Option (Int × Int × Int × Int × Int) :=
 (Z2p (ByteArray.mk #[125]) zl zn).bind fun r1 =>
 if r1.1 = true then
 (if (decide (x4 ≤ 64)) = true then
 (Zbu x4 r1.2 z2 z6)
 else
 (Z60 x1 x4 zl r1.2 z2 z6))
 else
 (Z60 x1 x4 zl r1.2 z2 z6)
theorem Zkh x1 x4 zl zn z7 zd zh z2 z6 zu zb (zy : ZW zb = true) : Sim (Z48 zl z7 zd zh zu zb) (Z97 x1 x4 zl zn z2 z6) (Zyp 1 (.ptr 0 0) (iv x1) (iv x4) [(ZY zl zn z7 zd zh z2 z6 zu zb)]) := by
 unfold Z97
 refine zf (ZFF ..)<|ze<|zi fun r1 hr1 => ?_
 obtain ⟨_, er1, _, rfl⟩ := Z2y (ByteArray.mk #[125]) zl zn z7 zd zh z2 z6 zu zb zy r1 hr1
 refine zc [0] (bv r1.1) [(ZY zl r1.2 z7 zd zh z2 z6 zu zb)] er1 ?_
 refine za r1.1 ?_ ?_
 ·refine zq ?_
  refine za (decide (x4 ≤ 64)) ?_ ?_
  ·exact zk (Zki x4 zl r1.2 z7 zd zh z2 z6 zu zb zy)
  ·exact zk (ZdF x1 x4 zl r1.2 z7 zd zh z2 z6 zu zb zy)
 ·exact zk (ZdF x1 x4 zl r1.2 z7 zd zh z2 z6 zu zb zy)
def Z8J (x1 : Int) (zl : List Int) (zn z7 zd : Int) (zh : List Zz) (z2 z6 : Int) : Option (Int × Int × Int × Int × Int) :=
 (Z7a zl zn z7 zd zh z2 z6).bind fun r1 =>
 (Z2p (ByteArray.mk #[44]) zl r1.2).bind fun r2 =>
 if r2.1 = true then
 ((Z7a zl r2.2 z7 zd zh z2 z6).bind fun r3 =>
 if (decide (r3.1 < 0)) = true then
 (if (decide (0 ≤ r1.1)) = true then
 (Z97 x1 r1.1 zl r3.2 z2 z6)
 else
 (Z3S x1 r1.1 r3.1 zl r3.2 z2 z6))
 else
 (Z3S x1 r1.1 r3.1 zl r3.2 z2 z6))
 else
 (Z3S x1 r1.1 r1.1 zl r2.2 z2 z6)
theorem Zmi x1 zl zn z7 zd zh z2 z6 zu zb (zy : ZW zb = true) : Sim (Z48 zl z7 zd zh zu zb) (Z8J x1 zl zn z7 zd zh z2 z6) (EE 133 [(.ptr 0 0), (iv x1)] [(ZY zl zn z7 zd zh z2 z6 zu zb)]) := by
 unfold Z8J
 refine zf (ZMq ..)<|ze<|ze<|zi fun r1 hr1 => ?_
 obtain ⟨_, er1, _, rfl⟩ := Zfm zl zn z7 zd zh z2 z6 zu zb zy r1 hr1
 refine zc [0] (iv r1.1) [(ZY zl r1.2 z7 zd zh z2 z6 zu zb)] er1<|ze<|ze<|zi fun r2 hr2 => ?_
 obtain ⟨_, er2, _, rfl⟩ := Z2y (ByteArray.mk #[44]) zl r1.2 z7 zd zh z2 z6 zu zb zy r2 hr2
 refine zc [0] (bv r2.1) [(ZY zl r2.2 z7 zd zh z2 z6 zu zb)] er2 ?_
 refine za r2.1 ?_ ?_
 ·refine ze<|zi fun r3 hr3 => ?_
  obtain ⟨_, er3, _, rfl⟩ := Zfm zl r2.2 z7 zd zh z2 z6 zu zb zy r3 hr3
  refine zc [0] (iv r3.1) [(ZY zl r3.2 z7 zd zh z2 z6 zu zb)] er3<|ze<|zq ?_
  refine za (decide (r3.1 < 0)) ?_ ?_
  ·refine zq ?_
   refine za (decide (0 ≤ r1.1)) ?_ ?_
   ·exact zk (Zkh x1 r1.1 zl r3.2 z7 zd zh z2 z6 zu zb zy)
   ·exact zk (Z7N x1 r1.1 r3.1 zl r3.2 z7 zd zh z2 z6 zu zb zy)
  ·exact zk (Z7N x1 r1.1 r3.1 zl r3.2 z7 zd zh z2 z6 zu zb zy)
 ·exact zk (Z7N x1 r1.1 r1.1 zl r2.2 z7 zd zh z2 z6 zu zb zy)
theorem Zfj x1 zl zn z7 zd zh z2 z6 {r} (h : Z8J x1 zl zn z7 zd zh z2 z6 = some r) : Z8S x1 zl zn z7 zd zh z2 z6 = some r :=
 Z1f (fun _ _ ha hb => ru_ (Znv _ _ _ _ _ _) (ha .ex .ex rfl) (hb .ex .ex rfl)) (fun zu zb zy => Zmi x1 zl zn z7 zd zh z2 z6 zu zb zy r h)
def Zdw (zl : List Int) (zn z7 zd : Int) (zh : List Zz) (z2 z6 : Int) : Option (Int × Int) :=
 Z54 (-1) 0 zl zn z7 zd zh z2 z6
theorem Zml zl zn z7 zd zh z2 z6 zu zb (zy : ZW zb = true) : Sim (Z2R zl z7 zd zh z2 z6 zu zb) (Zdw zl zn z7 zd zh z2 z6) (EE 156 [(.ptr 0 0)] [(ZY zl zn z7 zd zh z2 z6 zu zb)]) := by
 unfold Zdw
 refine zf (ZML ..)<|ze<|ze<|ze ?_
 exact zk (ZdN (-1) 0 zl zn z7 zd zh z2 z6 zu zb zy)
theorem Zn6 zl zn z7 zd zh z2 z6 {r} (h : Zdw zl zn z7 zd zh z2 z6 = some r) : Z7a zl zn z7 zd zh z2 z6 = some r :=
 Z1f (fun _ _ ha hb => ru_ (Z8B _ _ _ _ _ _ _ _) (ha .ex .ex rfl) (hb .ex .ex rfl)) (fun zu zb zy => Zml zl zn z7 zd zh z2 z6 zu zb zy r h)
def Z9b (x3 x4 : Int) (zl : List Int) (zn z7 zd : Int) (zh : List Zz) (z2 z6 : Int) : Option (Int × Int) :=
 (Z4b zl zn).bind fun r1 =>
 Z54 ((IntKind.i64.wrap ((IntKind.i64.wrap ((IntKind.i64.wrap (10 * (max x3 0))) + r1.1)) - 48))) (IntKind.i64.wrap (x4 + 1)) zl r1.2 z7 zd zh z2 z6
theorem Zkn x3 x4 zl zn z7 zd zh z2 z6 zu zb (zy : ZW zb = true) : Sim (Z2R zl z7 zd zh z2 z6 zu zb) (Z9b x3 x4 zl zn z7 zd zh z2 z6) (ZyL 1 (.ptr 0 0) (iv x3) (iv x4) [(ZY zl zn z7 zd zh z2 z6 zu zb)]) := by
 unfold Z9b
 refine zf (ZFV ..)<|ze<|zp (iv (max x3 0)) (ZtK _ _)<|zq<|zi fun r1 hr1 => ?_
 obtain ⟨_, er1, _, rfl⟩ := Z4L zl zn z7 zd zh z2 z6 zu zb zy r1 hr1
 refine zc [0] (iv r1.1) [(ZY zl r1.2 z7 zd zh z2 z6 zu zb)] er1<|zq<|zq<|ze<|zq ?_
 exact zk (ZdN ((IntKind.i64.wrap ((IntKind.i64.wrap ((IntKind.i64.wrap (10 * (max x3 0))) + r1.1)) - 48))) (IntKind.i64.wrap (x4 + 1)) zl r1.2 z7 zd zh z2 z6 zu zb zy)
def Z61 (x3 zn : Int) : Option (Int × Int) :=
 some (x3, zn)
theorem Z9Z x3 zl zn z7 zd zh z2 z6 zu zb (zy : ZW zb = true) : Sim (Z2R zl z7 zd zh z2 z6 zu zb) (Z61 x3 zn) (Zpc 1 (iv x3) [(ZY zl zn z7 zd zh z2 z6 zu zb)]) := by
 unfold Z61
 refine zf (ZFW ..)<|ze ?_
 exact zr ((iv x3), [(ZY zl zn z7 zd zh z2 z6 zu zb)]) ⟨_, rfl⟩
def Z9a (x3 x4 : Int) (zl : List Int) (zn z7 zd : Int) (zh : List Zz) (z2 z6 : Int) : Option (Int × Int) :=
 if (decide (x4 < 2)) = true then
 ((Z3p (Z2c.mk zl zn z7 zd zh (Z1p.mk z2 z6))).bind fun r1 =>
 if (decide (48 ≤ r1)) = true then
 ((Z3p (Z2c.mk zl zn z7 zd zh (Z1p.mk z2 z6))).bind fun r2 =>
 if (decide (r2 ≤ 57)) = true then
 (Z9b x3 x4 zl zn z7 zd zh z2 z6)
 else
 (Z61 x3 zn))
 else
 (Z61 x3 zn))
 else
 (Z61 x3 zn)
theorem Zkm x3 x4 zl zn z7 zd zh z2 z6 zu zb (zy : ZW zb = true) : Sim (Z2R zl z7 zd zh z2 z6 zu zb) (Z9a x3 x4 zl zn z7 zd zh z2 z6) (Zpb 1 (.ptr 0 0) (iv x3) (iv x4) [(ZY zl zn z7 zd zh z2 z6 zu zb)]) := by
 unfold Z9a
 refine zf (ZFU ..)<|ze<|zq ?_
 refine za (decide (x4 < 2)) ?_ ?_
 ·refine zi fun r1 hr1 => ?_
  obtain ⟨_, er1, _, rfl⟩ := Z3z (Z2c.mk zl zn z7 zd zh (Z1p.mk z2 z6)) zu zb zy r1 hr1
  refine zc [0] (iv r1) [(ZY zl zn z7 zd zh z2 z6 zu zb)] er1<|zq ?_
  refine za (decide (48 ≤ r1)) ?_ ?_
  ·refine zi fun r2 hr2 => ?_
   obtain ⟨_, er2, _, rfl⟩ := Z3z (Z2c.mk zl zn z7 zd zh (Z1p.mk z2 z6)) zu zb zy r2 hr2
   refine zc [0] (iv r2) [(ZY zl zn z7 zd zh z2 z6 zu zb)] er2<|zq ?_
   refine za (decide (r2 ≤ 57)) ?_ ?_
   ·exact zk (Zkn x3 x4 zl zn z7 zd zh z2 z6 zu zb zy)
   ·exact zk (Z9Z x3 zl zn z7 zd zh z2 z6 zu zb zy)
  ·exact zk (Z9Z x3 zl zn z7 zd zh z2 z6 zu zb zy)
 ·exact zk (Z9Z x3 zl zn z7 zd zh z2 z6 zu zb zy)
theorem Zlb x3 x4 zl zn z7 zd zh z2 z6 {r} (h : Z9a x3 x4 zl zn z7 zd zh z2 z6 = some r) : Z54 x3 x4 zl zn z7 zd zh z2 z6 = some r :=
 Z1f (fun _ _ ha hb => ru_ (Z8B _ _ _ _ _ _ _ _) (ha .ex .ex rfl) (hb .ex .ex rfl)) (fun zu zb zy => Zkm x3 x4 zl zn z7 zd zh z2 z6 zu zb zy r h)
def Ze8 : Option Int :=
 some (0)
theorem Zrg : Sim ZN Ze8 (ZBI 0 []) := by
 unfold Ze8
 refine zf (ZIR ..)<|ze ?_
 exact zr ((iv 0), []) ⟨_, rfl⟩
def ZhF (x0 : Z1Q) : Option Int :=
 (Z5x x0.Root).bind fun r1 =>
 if (!r1) = true then
 (some (27))
 else
 ((Z7y x0.Root).bind fun r2 =>
 if (decide (2000 < (IntKind.i64.wrap (r2 + 3)))) = true then
 (some (28))
 else
 Ze8)
theorem ZuO x0 z5D z4T : Sim ZN (ZhF x0) (EE 48 [(pA_ (Z4k x0 z5D z4T))] []) := by
 unfold ZhF
 refine zf (ZON ..)<|ze<|zx (.ptr 0 0) [(Z1t x0 z5D z4T)]<|ze<|zq<|zq<|zi fun r1 hr1 => ?_
 obtain ⟨_, er1, _, rfl⟩ := Zlk x0.Root .sh .sh r1 hr1
 refine zc [] (bv r1) [(Z1t x0 z5D z4T)] er1<|zq ?_
 refine za (!r1) ?_ ?_
 ·refine ze ?_
  exact zr ((iv 27), [(Z1t x0 z5D z4T)]) ⟨_, rfl⟩
 ·refine ze<|zq<|zq<|zi fun r2 hr2 => ?_
  obtain ⟨_, er2, _, rfl⟩ := Zo5 x0.Root .sh .sh r2 hr2
  refine zc [] (iv r2) [(Z1t x0 z5D z4T)] er2<|zq<|zq ?_
  refine za (decide (2000 < (IntKind.i64.wrap (r2 + 3)))) ?_ ?_
  ·refine ze ?_
   exact zr ((iv 28), [(Z1t x0 z5D z4T)]) ⟨_, rfl⟩
  ·exact zk Zrg
theorem ZvE x0 {r} (h : ZhF x0 = some r) : ZhL x0 = some r :=
 Z1f (fun _ _ ha hb => ru_ Z2l (ha .ex .ex) (hb .ex .ex)) (fun z5D z4T => ZuO x0 z5D z4T r h)
def Zal : Option Bool :=
 some false
theorem Zh9 : Sim ZZ Zal (ZwV 0 []) := by
 unfold Zal
 refine zf (ZJ2 ..)<|ze ?_
 exact zr ((bv false), []) ⟨_, rfl⟩
def Z4K (b0 : Zj) : Option Bool :=
 (Z6X b0.Kids).bind fun r1 =>
 some (!r1)
theorem ZcY b0 z2C z29 : Sim ZZ (Z4K b0) (ZsH 0 (.ptr 0 0) [(Zv b0 z2C z29)]) := by
 unfold Z4K
 refine zf (ZJ3 ..)<|ze<|zq<|zq<|zi fun r1 hr1 => ?_
 obtain ⟨_, er1, _, rfl⟩ := Zhb b0.Kids .sh r1 hr1
 refine zc [] (bv r1) [(Zv b0 z2C z29)] er1<|zq ?_
 exact zr ((bv (!r1)), [(Zv b0 z2C z29)]) ⟨_, rfl⟩
def Zak (b0 : Zj) : Option Bool :=
 (lget b0.Kids 0).bind fun a1 =>
 (Z4z a1).bind fun r2 =>
 if (decide (r2.2 < 0)) = true then
 Zal
 else
 (if (decide (32 < r2.2)) = true then
 Zal
 else
 (Z4K b0))
theorem ZoJ b0 z2C z29 : Sim ZZ (Zak b0) (ZBU 0 (.ptr 0 0) [(Zv b0 z2C z29)]) := by
 unfold Zak
 refine zf (ZJ1 ..)<|ze<|zq<|zq<|zi fun a1 ha1 => zp (.cptr (ZQ a1 .sh .sh)) (et_ (Z3E (o := (shrO z29)) (k := .i64) (n := 7) (e := Z14) (cs := Z3P) Z7S (fun _ => rfl) (by decide) ha1))<|zq<|zi fun r2 hr2 => ?_
 obtain ⟨_, er2, _, rfl⟩ := Za2 a1 .sh .sh r2 hr2
 refine zc [] (.p (.tup [(.v (.int .i64 r2.1)), (.v (.int .i64 r2.2))])) [(Zv b0 z2C z29)] er2<|zq<|zq<|ze<|zq ?_
 refine za (decide (r2.2 < 0)) ?_ ?_
 ·exact zk Zh9
 ·refine zq ?_
  refine za (decide (32 < r2.2)) ?_ ?_
  ·exact zk Zh9
  ·exact zk (ZcY b0 z2C z29)
def ZeT (x0 : Zj) : Option Bool :=
 if (x0.Kind == 7) = true then
 (if (decide (2 ≤ x0.Mode)) = true then
 (Zak x0)
 else
 (Z4K x0))
 else
 (Z4K x0)
theorem Zsj x0 z2M z1Z : Sim ZZ (ZeT x0) (EE 71 [(pA_ (ZQ x0 z2M z1Z))] []) := by
 unfold ZeT
 refine zf (ZP5 ..)<|ze<|zx (.ptr 0 0) [(Zv x0 z2M z1Z)]<|ze<|zq<|zq<|zq ?_
 refine za (x0.Kind == 7) ?_ ?_
 ·refine zq<|zq<|zq ?_
  refine za (decide (2 ≤ x0.Mode)) ?_ ?_
  ·exact zk (ZoJ x0 z2M z1Z)
  ·exact zk (ZcY x0 z2M z1Z)
 ·exact zk (ZcY x0 z2M z1Z)
theorem Zt8 x0 {r} (h : ZeT x0 = some r) : Z5x x0 = some r :=
 Z1f (fun _ _ ha hb => ru_ Z2k (ha .ex .ex) (hb .ex .ex)) (fun z2M z1Z => Zsj x0 z2M z1Z r h)
def Z9r (x2 x3 : Int) : Option (Int × Int) :=
 some (x2, x3)
theorem ZaJ x2 x3 : Sim Z49 (Z9r x2 x3) (ZmC 0 (iv x2) (iv x3) []) := by
 unfold Z9r
 refine zf (ZGT ..)<|ze ?_
 exact zr ((.p (.tup [(.v (.int .i64 x2)), (.v (.int .i64 x3))])), []) ⟨_, rfl⟩
def ZhG (x0 : Zj) : Option (Int × Int) :=
 if (x0.Kind == 1) = true then
 (some (1, 1))
 else
 (if (x0.Kind == 6) = true then
 (some (0, (-1)))
 else
 (if (x0.Kind == 2) = true then
 (ZbO 0 0 x0.Kids (x0.Kids.length : Int) 0)
 else
 (if (x0.Kind == 3) = true then
 (ZaW 1048576 0 x0.Kids (x0.Kids.length : Int) 0)
 else
 (if (x0.Kind == 4) = true then
 ((lget x0.Kids 0).bind fun a1 =>
 (Z4z a1).bind fun r2 =>
 (Zew r2.2 x0.Hi).bind fun r3 =>
 some ((min (IntKind.i64.wrap (r2.1 * x0.Lo)) 1048576), r3))
 else
 (if (x0.Kind == 5) = true then
 (if (x0.Kind == 5) = true then
 ((lget x0.Kids 0).bind fun a4 =>
 (Z4z a4).bind fun r5 =>
 some (r5.1, r5.2))
 else
 (Z9r 0 0))
 else
 (if (x0.Kind == 8) = true then
 ((lget x0.Kids 0).bind fun a6 =>
 (Z4z a6).bind fun r7 =>
 some (r7.1, r7.2))
 else
 (Z9r 0 0)))))))
theorem ZuP x0 z2M z1Z : Sim Z49 (ZhG x0) (EE 93 [(pA_ (ZQ x0 z2M z1Z))] []) := by
 unfold ZhG
 refine zf (ZPl ..)<|ze<|zx (.ptr 0 0) [(Zv x0 z2M z1Z)]<|ze<|zq<|zq<|ze<|zq ?_
 refine za (x0.Kind == 1) ?_ ?_
 ·refine ze ?_
  exact zr ((.p (.tup [(.v (.int .i64 1)), (.v (.int .i64 1))])), [(Zv x0 z2M z1Z)]) ⟨_, rfl⟩
 ·refine ze<|zq ?_
  refine za (x0.Kind == 6) ?_ ?_
  ·refine ze ?_
   exact zr ((.p (.tup [(.v (.int .i64 0)), (.v (.int .i64 (-1)))])), [(Zv x0 z2M z1Z)]) ⟨_, rfl⟩
  ·refine ze<|zq ?_
   refine za (x0.Kind == 2) ?_ ?_
   ·refine ze<|zq<|zq<|zp (iv (x0.Kids.length : Int)) (et_ (Z2O (P := PP) (t := 96) (d := 98) (by kernel_rfl) Z14 (shrO z1Z) x0.Kids)) ?_
    exact zk (Zk2 0 0 x0.Kids (x0.Kids.length : Int) 0 (shrO z1Z))
   ·refine ze<|zq ?_
    refine za (x0.Kind == 3) ?_ ?_
    ·refine ze<|ze<|zq<|zq<|zp (iv (x0.Kids.length : Int)) (et_ (Z2O (P := PP) (t := 96) (d := 98) (by kernel_rfl) Z14 (shrO z1Z) x0.Kids)) ?_
     exact zk (Zje 1048576 0 x0.Kids (x0.Kids.length : Int) 0 (shrO z1Z))
    ·refine ze<|zq ?_
     refine za (x0.Kind == 4) ?_ ?_
     ·refine ze<|zq<|zq<|zi fun a1 ha1 => zp (.cptr (ZQ a1 .sh .sh)) (et_ (Z3E (o := (shrO z1Z)) (k := .i64) (n := 7) (e := Z14) (cs := Z3P) Z7S (fun _ => rfl) (by decide) ha1))<|zq<|zi fun r2 hr2 => ?_
      obtain ⟨_, er2, _, rfl⟩ := Za2 a1 .sh .sh r2 hr2
      refine zc [] (.p (.tup [(.v (.int .i64 r2.1)), (.v (.int .i64 r2.2))])) [(Zv x0 z2M z1Z)] er2<|zq<|zq<|ze<|zq<|zq<|zq<|zp (iv (min (IntKind.i64.wrap (r2.1 * x0.Lo)) 1048576)) (ZfF _ _)<|zq<|zq<|zi fun r3 hr3 => ?_
      obtain ⟨_, er3, _, rfl⟩ := ZvK r2.2 x0.Hi r3 hr3
      refine zc [] (iv r3) [(Zv x0 z2M z1Z)] er3<|zg ?_
      exact zr ((.p (.tup [(.v (.int .i64 (min (IntKind.i64.wrap (r2.1 * x0.Lo)) 1048576))), (.v (.int .i64 r3))])), [(Zv x0 z2M z1Z)]) ⟨_, rfl⟩
     ·refine ze<|zq ?_
      refine za (x0.Kind == 5) ?_ ?_
      ·refine za (x0.Kind == 5) ?_ ?_
       ·refine ze<|zq<|zq<|zi fun a4 ha4 => zp (.cptr (ZQ a4 .sh .sh)) (et_ (Z3E (o := (shrO z1Z)) (k := .i64) (n := 7) (e := Z14) (cs := Z3P) Z7S (fun _ => rfl) (by decide) ha4))<|zq<|zi fun r5 hr5 => ?_
        obtain ⟨_, er5, _, rfl⟩ := Za2 a4 .sh .sh r5 hr5
        refine zc [] (.p (.tup [(.v (.int .i64 r5.1)), (.v (.int .i64 r5.2))])) [(Zv x0 z2M z1Z)] er5<|zq<|zq ?_
        exact zr ((.p (.tup [(.v (.int .i64 r5.1)), (.v (.int .i64 r5.2))])), [(Zv x0 z2M z1Z)]) ⟨_, rfl⟩
       ·exact zk (ZaJ 0 0)
      ·refine ze<|zq ?_
       refine za (x0.Kind == 8) ?_ ?_
       ·refine ze<|zq<|zq<|zi fun a6 ha6 => zp (.cptr (ZQ a6 .sh .sh)) (et_ (Z3E (o := (shrO z1Z)) (k := .i64) (n := 7) (e := Z14) (cs := Z3P) Z7S (fun _ => rfl) (by decide) ha6))<|zq<|zi fun r7 hr7 => ?_
        obtain ⟨_, er7, _, rfl⟩ := Za2 a6 .sh .sh r7 hr7
        refine zc [] (.p (.tup [(.v (.int .i64 r7.1)), (.v (.int .i64 r7.2))])) [(Zv x0 z2M z1Z)] er7<|zq<|zq ?_
        exact zr ((.p (.tup [(.v (.int .i64 r7.1)), (.v (.int .i64 r7.2))])), [(Zv x0 z2M z1Z)]) ⟨_, rfl⟩
       ·exact zk (ZaJ 0 0)
theorem ZvH x0 {r} (h : ZhG x0 = some r) : Z4z x0 = some r :=
 Z1f (fun _ _ ha hb => ru_ ZhA (ha .ex .ex) (hb .ex .ex)) (fun z2M z1Z => ZuP x0 z2M z1Z r h)
def Ze9 (x2 x3 : Int) (x23 : List Zj) (x24 x25 : Int) : Option (Int × Int) :=
 (lget x23 x25).bind fun a1 =>
 (Z4z a1).bind fun r2 =>
 (ZkR x3 r2.2).bind fun r3 =>
 ZbO (min (IntKind.i64.wrap (x2 + r2.1)) 1048576) r3 x23 x24 (IntKind.i64.wrap (x25 + 1))
theorem Zri x2 x3 (x23 : List Zj) x24 x25 ox23 : Sim Z49 (Ze9 x2 x3 x23 x24 x25) (ZCe 0 (iv x2) (iv x3) (ZM ox23 (x23.map Z14)) (iv x24) (iv x25) []) := by
 unfold Ze9
 refine zf (ZJm ..)<|ze<|zi fun a1 ha1 => zp (.cptr (ZQ a1 .sh .sh)) (et_ (Z3E (o := ox23) (k := .i64) (n := 7) (e := Z14) (cs := Z3P) Z7S (fun _ => rfl) (by decide) ha1))<|zq<|zz (.ptr 0 0) [(Zv Z2j .nl .nl)]<|zt [(Zv a1 .sh .sh)]<|ze<|zq<|zi fun r2 hr2 => ?_
 obtain ⟨_, er2, _, rfl⟩ := Za2 a1 .sh .sh r2 hr2
 refine zc [] (.p (.tup [(.v (.int .i64 r2.1)), (.v (.int .i64 r2.2))])) [(Zv a1 .sh .sh)] er2<|zq<|zq<|ze<|zq<|zp (iv (min (IntKind.i64.wrap (x2 + r2.1)) 1048576)) (ZfF _ _)<|zi fun r3 hr3 => ?_
 obtain ⟨_, er3, _, rfl⟩ := ZzP x3 r2.2 r3 hr3
 refine zc [] (iv r3) [(Zv a1 .sh .sh)] er3<|ze<|zq ?_
 exact zk (Zk2 (min (IntKind.i64.wrap (x2 + r2.1)) 1048576) r3 x23 x24 (IntKind.i64.wrap (x25 + 1)) ox23)
def ZbE (x2 x3 : Int) (x23 : List Zj) (x24 x25 : Int) : Option (Int × Int) :=
 if (decide (x25 < x24)) = true then
 (Ze9 x2 x3 x23 x24 x25)
 else
 (Z9r x2 x3)
theorem Zrh x2 x3 (x23 : List Zj) x24 x25 ox23 : Sim Z49 (ZbE x2 x3 x23 x24 x25) (ZsT 0 (iv x2) (iv x3) (ZM ox23 (x23.map Z14)) (iv x24) (iv x25) []) := by
 unfold ZbE
 refine zf (ZJl ..)<|ze<|zq ?_
 refine za (decide (x25 < x24)) ?_ ?_
 ·exact zk (Zri x2 x3 x23 x24 x25 ox23)
 ·exact zk (ZaJ x2 x3)
theorem Zk1 x2 x3 x23 x24 x25 {r} (h : ZbE x2 x3 x23 x24 x25 = some r) : ZbO x2 x3 x23 x24 x25 = some r :=
 Z1f (fun _ _ ha hb => ru_ ZhA (ha .ex) (hb .ex)) (fun ox23 => Zrh x2 x3 x23 x24 x25 ox23 r h)
def ZaS (x2 x3 : Int) (x45 : List Zj) (x46 x47 : Int) : Option (Int × Int) :=
 ZaW x2 x3 x45 x46 (IntKind.i64.wrap (x47 + 1))
theorem Ziv x2 x3 (x45 : List Zj) x46 x47 ox45 : Sim Z49 (ZaS x2 x3 x45 x46 x47) (Zuo 0 (iv x2) (iv x3) (ZM ox45 (x45.map Z14)) (iv x46) (iv x47) []) := by
 unfold ZaS
 refine zf (ZGS ..)<|ze<|zq ?_
 exact zk (Zje x2 x3 x45 x46 (IntKind.i64.wrap (x47 + 1)) ox45)
def ZaR (x2 : Int) (x45 : List Zj) (x46 x47 : Int) : Option (Int × Int) :=
 ZaS x2 (-1) x45 x46 x47
theorem Ziu x2 (x45 : List Zj) x46 x47 ox45 : Sim Z49 (ZaR x2 x45 x46 x47) (Zun 0 (iv x2) (ZM ox45 (x45.map Z14)) (iv x46) (iv x47) []) := by
 unfold ZaR
 refine zf (ZGQ ..)<|ze ?_
 exact zk (Ziv x2 (-1) x45 x46 x47 ox45)
def Zdk (x2 x3 x11 : Int) (x45 : List Zj) (x46 x47 : Int) : Option (Int × Int) :=
 ZaS x2 (max x3 x11) x45 x46 x47
theorem ZpV x2 x3 x11 (x45 : List Zj) x46 x47 ox45 : Sim Z49 (Zdk x2 x3 x11 x45 x46 x47) (ZzJ 0 (iv x2) (iv x3) (iv x11) (ZM ox45 (x45.map Z14)) (iv x46) (iv x47) []) := by
 unfold Zdk
 refine zf (ZGR ..)<|ze<|zp (iv (max x3 x11)) (ZtK _ _) ?_
 exact zk (Ziv x2 (max x3 x11) x45 x46 x47 ox45)
def Zdj (x2 x3 : Int) (x45 : List Zj) (x46 x47 : Int) : Option (Int × Int) :=
 (lget x45 x47).bind fun a1 =>
 (Z4z a1).bind fun r2 =>
 if (decide (r2.2 < 0)) = true then
 (ZaR (min x2 r2.1) x45 x46 x47)
 else
 (if (decide (x3 < 0)) = true then
 (ZaR (min x2 r2.1) x45 x46 x47)
 else
 (Zdk (min x2 r2.1) x3 r2.2 x45 x46 x47))
theorem ZpU x2 x3 (x45 : List Zj) x46 x47 ox45 : Sim Z49 (Zdj x2 x3 x45 x46 x47) (ZzI 0 (iv x2) (iv x3) (ZM ox45 (x45.map Z14)) (iv x46) (iv x47) []) := by
 unfold Zdj
 refine zf (ZGP ..)<|ze<|zi fun a1 ha1 => zp (.cptr (ZQ a1 .sh .sh)) (et_ (Z3E (o := ox45) (k := .i64) (n := 7) (e := Z14) (cs := Z3P) Z7S (fun _ => rfl) (by decide) ha1))<|zq<|zz (.ptr 0 0) [(Zv Z2j .nl .nl)]<|zt [(Zv a1 .sh .sh)]<|ze<|zq<|zi fun r2 hr2 => ?_
 obtain ⟨_, er2, _, rfl⟩ := Za2 a1 .sh .sh r2 hr2
 refine zc [] (.p (.tup [(.v (.int .i64 r2.1)), (.v (.int .i64 r2.2))])) [(Zv a1 .sh .sh)] er2<|zq<|zq<|ze<|zp (iv (min x2 r2.1)) (ZfF _ _)<|ze<|zq ?_
 refine za (decide (r2.2 < 0)) ?_ ?_
 ·exact zk (Ziu (min x2 r2.1) x45 x46 x47 ox45)
 ·refine zq ?_
  refine za (decide (x3 < 0)) ?_ ?_
  ·exact zk (Ziu (min x2 r2.1) x45 x46 x47 ox45)
  ·exact zk (ZpV (min x2 r2.1) x3 r2.2 x45 x46 x47 ox45)
def ZaQ (x2 x3 : Int) (x45 : List Zj) (x46 x47 : Int) : Option (Int × Int) :=
 if (decide (x47 < x46)) = true then
 (Zdj x2 x3 x45 x46 x47)
 else
 (Z9r x2 x3)
theorem ZpT x2 x3 (x45 : List Zj) x46 x47 ox45 : Sim Z49 (ZaQ x2 x3 x45 x46 x47) (Zpu 0 (iv x2) (iv x3) (ZM ox45 (x45.map Z14)) (iv x46) (iv x47) []) := by
 unfold ZaQ
 refine zf (ZGO ..)<|ze<|zq ?_
 refine za (decide (x47 < x46)) ?_ ?_
 ·exact zk (ZpU x2 x3 x45 x46 x47 ox45)
 ·exact zk (ZaJ x2 x3)
theorem Zjd x2 x3 x45 x46 x47 {r} (h : ZaQ x2 x3 x45 x46 x47 = some r) : ZaW x2 x3 x45 x46 x47 = some r :=
 Z1f (fun _ _ ha hb => ru_ ZhA (ha .ex) (hb .ex)) (fun ox45 => ZpT x2 x3 x45 x46 x47 ox45 r h)
def ZbF : Option Int :=
 some (0)
theorem Zjf : Sim ZN ZbF (ZtR 0 []) := by
 unfold ZbF
 refine zf (ZFn ..)<|ze ?_
 exact zr ((iv 0), []) ⟨_, rfl⟩
def ZbG : Option Int :=
 some (-1)
theorem Zjg : Sim ZN ZbG (ZtS 0 []) := by
 unfold ZbG
 refine zf (ZFp ..)<|ze ?_
 exact zr ((iv (-1)), []) ⟨_, rfl⟩
def Zeb (x0 x1 : Int) : Option Int :=
 (Zfr (IntKind.i64.wrap (x0 * x1))).bind fun r1 =>
 some r1
theorem Zrm x0 x1 : Sim ZN (Zeb x0 x1) (Zy4 0 (iv x0) (iv x1) []) := by
 unfold Zeb
 refine zf (ZFq ..)<|ze<|zq<|zi fun r1 hr1 => ?_
 obtain ⟨_, er1, _, rfl⟩ := Zo6 (IntKind.i64.wrap (x0 * x1)) r1 hr1
 refine zc [] (iv r1) [] er1 ?_
 exact zr ((iv r1), []) ⟨_, rfl⟩
def Zea (x0 x1 : Int) : Option Int :=
 if (decide (x0 < 0)) = true then
 ZbG
 else
 (if (decide (x1 < 0)) = true then
 ZbG
 else
 (Zeb x0 x1))
theorem Zrl x0 x1 : Sim ZN (Zea x0 x1) (Zy3 0 (iv x0) (iv x1) []) := by
 unfold Zea
 refine zf (ZFo ..)<|ze<|zq ?_
 refine za (decide (x0 < 0)) ?_ ?_
 ·exact zk Zjg
 ·refine zq ?_
  refine za (decide (x1 < 0)) ?_ ?_
  ·exact zk Zjg
  ·exact zk (Zrm x0 x1)
def ZhH (x0 x1 : Int) : Option Int :=
 if (x0 == 0) = true then
 ZbF
 else
 (if (x1 == 0) = true then
 ZbF
 else
 (Zea x0 x1))
theorem ZuQ x0 x1 : Sim ZN (ZhH x0 x1) (EE 108 [(iv x0), (iv x1)] []) := by
 unfold ZhH
 refine zf (ZM5 ..)<|ze<|ze<|zq ?_
 refine za (x0 == 0) ?_ ?_
 ·exact zk Zjf
 ·refine zq ?_
  refine za (x1 == 0) ?_ ?_
  ·exact zk Zjf
  ·exact zk (Zrl x0 x1)
theorem ZvJ x0 x1 {r} (h : ZhH x0 x1 = some r) : Zew x0 x1 = some r :=
 Z1f (fun _ _ ha hb => ru_ Z2l ha hb) (ZuQ x0 x1 r h)
def ZeU (x0 : Int) : Option Int :=
 some x0
theorem Zsk x0 : Sim ZN (ZeU x0) (Zyr 0 (iv x0) []) := by
 unfold ZeU
 refine zf (ZFJ ..)<|ze ?_
 exact zr ((iv x0), []) ⟨_, rfl⟩
def ZiZ (x0 : Int) : Option Int :=
 if (decide (1048576 < x0)) = true then
 (some (-1))
 else
 (ZeU x0)
theorem ZvI x0 : Sim ZN (ZiZ x0) (EE 134 [(iv x0)] []) := by
 unfold ZiZ
 refine zf (ZMt ..)<|ze<|ze<|zq ?_
 refine za (decide (1048576 < x0)) ?_ ?_
 ·refine ze ?_
  exact zr ((iv (-1)), []) ⟨_, rfl⟩
 ·exact zk (Zsk x0)
theorem Zxj x0 {r} (h : ZiZ x0 = some r) : Zfr x0 = some r :=
 Z1f (fun _ _ ha hb => ru_ Z2l ha hb) (ZvI x0 r h)
def Zdx : Option Int :=
 some (-1)
theorem Zll : Sim ZN Zdx (ZtQ 0 []) := by
 unfold Zdx
 refine zf (ZFl ..)<|ze ?_
 exact zr ((iv (-1)), []) ⟨_, rfl⟩
def ZfP (x0 x1 : Int) : Option Int :=
 (Zfr (IntKind.i64.wrap (x0 + x1))).bind fun r1 =>
 some r1
theorem Zt9 x0 x1 : Sim ZN (ZfP x0 x1) (ZxZ 0 (iv x0) (iv x1) []) := by
 unfold ZfP
 refine zf (ZFm ..)<|ze<|zq<|zi fun r1 hr1 => ?_
 obtain ⟨_, er1, _, rfl⟩ := Zo6 (IntKind.i64.wrap (x0 + x1)) r1 hr1
 refine zc [] (iv r1) [] er1 ?_
 exact zr ((iv r1), []) ⟨_, rfl⟩
def ZkM (x0 x1 : Int) : Option Int :=
 if (decide (x0 < 0)) = true then
 Zdx
 else
 (if (decide (x1 < 0)) = true then
 Zdx
 else
 (ZfP x0 x1))
theorem Zxk x0 x1 : Sim ZN (ZkM x0 x1) (EE 107 [(iv x0), (iv x1)] []) := by
 unfold ZkM
 refine zf (ZM3 ..)<|ze<|ze<|zq ?_
 refine za (decide (x0 < 0)) ?_ ?_
 ·exact zk Zll
 ·refine zq ?_
  refine za (decide (x1 < 0)) ?_ ?_
  ·exact zk Zll
  ·exact zk (Zt9 x0 x1)
theorem ZzO x0 x1 {r} (h : ZkM x0 x1 = some r) : ZkR x0 x1 = some r :=
 Z1f (fun _ _ ha hb => ru_ Z2l ha hb) (Zxk x0 x1 r h)
def Z6P (x0 : List Zj) : Option Bool :=
 (Z86 x0).bind fun r1 =>
 some (decide (0 ≤ r1))
theorem Zgt (x0 : List Zj) ox0 : Sim ZZ (Z6P x0) (EE 94 [(ZM ox0 (x0.map Z14)), (.clo 95 [] [])] []) := by
 unfold Z6P
 refine zf (ZPp ..)<|ze<|ze<|zi fun r1 hr1 => ?_
 obtain ⟨_, er1, _, rfl⟩ := Zji x0 .sh r1 hr1
 refine zc [] (iv r1) [] er1<|zq ?_
 exact zr ((bv (decide (0 ≤ r1))), []) ⟨_, rfl⟩
theorem Zha x0 {r} (h : Z6P x0 = some r) : Z6X x0 = some r :=
 Z1f (fun _ _ ha hb => ru_ Z2k (ha .ex) (hb .ex)) (fun ox0 => Zgt x0 ox0 r h)
def Z81 (x0 : List Zj) : Option Int :=
 Z5y x0 (x0.length : Int) 0
theorem ZiJ (x0 : List Zj) ox0 : Sim ZN (Z81 x0) (EE 109 [(ZM ox0 (x0.map Z14)), (.clo 95 [] [])] []) := by
 unfold Z81
 refine zf (ZM7 ..)<|ze<|ze<|zp (iv (x0.length : Int)) (et_ (Z2O (P := PP) (t := 96) (d := 98) (by kernel_rfl) Z14 (shrO ox0) x0)) ?_
 exact zk (Zbk x0 (x0.length : Int) 0 ox0)
theorem Zjh x0 {r} (h : Z81 x0 = some r) : Z86 x0 = some r :=
 Z1f (fun _ _ ha hb => ru_ Z2l (ha .ex) (hb .ex)) (fun ox0 => ZiJ x0 ox0 r h)
def Z6T (x0 : List Zj) (x7 x8 : Int) : Option Int :=
 Z5y x0 x7 (IntKind.i64.wrap (x8 + 1))
theorem ZgD (x0 : List Zj) x7 x8 ox0 : Sim ZN (Z6T x0 x7 x8) (Zy9 0 (ZM ox0 (x0.map Z14)) (.clo 95 [] []) (iv x7) (iv x8) []) := by
 unfold Z6T
 refine zf (ZFt ..)<|ze<|zq ?_
 exact zk (Zbk x0 x7 (IntKind.i64.wrap (x8 + 1)) ox0)
def Z5p (x0 : List Zj) (x7 x8 : Int) : Option Int :=
 (lget x0 x8).bind fun a1 =>
 (Zdq a1).bind fun r2 =>
 if r2 = true then
 (some x8)
 else
 (Z6T x0 x7 x8)
theorem ZgC (x0 : List Zj) x7 x8 ox0 : Sim ZN (Z5p x0 x7 x8) (Zy8 0 (ZM ox0 (x0.map Z14)) (.clo 95 [] []) (iv x7) (iv x8) []) := by
 unfold Z5p
 refine zf (ZFs ..)<|ze<|ze<|zi fun a1 ha1 => zp (.cptr (ZQ a1 .sh .sh)) (et_ (Z3E (o := (shrO ox0)) (k := .i64) (n := 7) (e := Z14) (cs := Z3P) Z7S (fun _ => rfl) (by decide) ha1))<|zq<|zi fun r2 hr2 => ?_
 obtain ⟨_, er2, _, rfl⟩ := Zrk a1 .sh .sh r2 hr2
 refine zv [] (bv r2) [] er2 ?_
 refine za r2 ?_ ?_
 ·refine ze ?_
  exact zr ((iv x8), []) ⟨_, rfl⟩
 ·exact zk (ZgD x0 x7 x8 ox0)
def Z9g : Option Int :=
 some (-1)
theorem ZgE : Sim ZN Z9g (Zya 0 []) := by
 unfold Z9g
 refine zf (ZFu ..)<|ze ?_
 exact zr ((iv (-1)), []) ⟨_, rfl⟩
def Z4t (x0 : List Zj) (x7 x8 : Int) : Option Int :=
 if (decide (x8 < x7)) = true then
 (Z5p x0 x7 x8)
 else
 Z9g
theorem ZgB (x0 : List Zj) x7 x8 ox0 : Sim ZN (Z4t x0 x7 x8) (Zp6 0 (ZM ox0 (x0.map Z14)) (.clo 95 [] []) (iv x7) (iv x8) []) := by
 unfold Z4t
 refine zf (ZFr ..)<|ze<|zq ?_
 refine za (decide (x8 < x7)) ?_ ?_
 ·exact zk (ZgC x0 x7 x8 ox0)
 ·exact zk ZgE
theorem Z8f x0 x7 x8 {r} (h : Z4t x0 x7 x8 = some r) : Z5y x0 x7 x8 = some r :=
 Z1f (fun _ _ ha hb => ru_ Z2l (ha .ex) (hb .ex)) (fun ox0 => ZgB x0 x7 x8 ox0 r h)
def Zdl (x0 : Zj) : Option Bool :=
 (Z5x x0).bind fun r1 =>
 some (!r1)
theorem ZpW x0 z2M z1Z : Sim ZZ (Zdl x0) (EE 95 [(pA_ (ZQ x0 z2M z1Z))] []) := by
 unfold Zdl
 refine zf (ZPq ..)<|ze<|zx (.ptr 0 0) [(Zv x0 z2M z1Z)]<|ze<|zq<|zi fun r1 hr1 => ?_
 obtain ⟨_, er1, _, rfl⟩ := Zlk x0 .sh .sh r1 hr1
 refine zc [] (bv r1) [(Zv x0 z2M z1Z)] er1<|zq ?_
 exact zr ((bv (!r1)), [(Zv x0 z2M z1Z)]) ⟨_, rfl⟩
theorem Zrj x0 {r} (h : Zdl x0 = some r) : Zdq x0 = some r :=
 Z1f (fun _ _ ha hb => ru_ Z2k (ha .ex .ex) (hb .ex .ex)) (fun z2M z1Z => ZpW x0 z2M z1Z r h)
def ZmL (x0 : Zj) : Option Int :=
 Z85 0 x0.Kids (x0.Kids.length : Int) 0 x0
theorem ZvG x0 z2M z1Z : Sim ZN (ZmL x0) (EE 72 [(pA_ (ZQ x0 z2M z1Z))] []) := by
 unfold ZmL
 refine zf (ZP6 ..)<|ze<|zx (.ptr 0 0) [(Zv x0 z2M z1Z)]<|ze<|ze<|zq<|zq<|zp (iv (x0.Kids.length : Int)) (et_ (Z2O (P := PP) (t := 96) (d := 98) (by kernel_rfl) Z14 (shrO z1Z) x0.Kids)) ?_
 exact zk (Zlj 0 x0.Kids (x0.Kids.length : Int) 0 x0 (shrO z1Z) z2M z1Z)
theorem Zjc x0 {r} (h : ZmL x0 = some r) : Z7y x0 = some r :=
 Z1f (fun _ _ ha hb => ru_ Z2l (ha .ex .ex) (hb .ex .ex)) (fun z2M z1Z => ZvG x0 z2M z1Z r h)
def ZeS (x3 : Int) (x8 : List Zj) (x9 x10 : Int) (b0 : Zj) : Option Int :=
 (lget x8 x10).bind fun a1 =>
 (Z7y a1).bind fun r2 =>
 Z85 (min (IntKind.i64.wrap (x3 + r2)) 1048576) x8 x9 (IntKind.i64.wrap (x10 + 1)) b0
theorem Zsh x3 (x8 : List Zj) x9 x10 b0 ox8 z2C z29 : Sim ZN (ZeS x3 x8 x9 x10 b0) (ZBX 0 (.ptr 0 0) (iv x3) (ZM ox8 (x8.map Z14)) (iv x9) (iv x10) [(Zv b0 z2C z29)]) := by
 unfold ZeS
 refine zf (ZJ6 ..)<|ze<|zi fun a1 ha1 => zp (.cptr (ZQ a1 .sh .sh)) (et_ (Z3E (o := ox8) (k := .i64) (n := 7) (e := Z14) (cs := Z3P) Z7S (fun _ => rfl) (by decide) ha1))<|zq<|zz (.ptr 1 0) [(Zv b0 z2C z29), (Zv Z2j .nl .nl)]<|zt [(Zv b0 z2C z29), (Zv a1 .sh .sh)]<|ze<|zq<|zi fun r2 hr2 => ?_
 obtain ⟨_, er2, _, rfl⟩ := Zo5 a1 .sh .sh r2 hr2
 refine zc [] (iv r2) [(Zv b0 z2C z29), (Zv a1 .sh .sh)] er2<|zq<|zp (iv (min (IntKind.i64.wrap (x3 + r2)) 1048576)) (ZfF _ _)<|ze<|zq ?_
 exact zk (Zlj (min (IntKind.i64.wrap (x3 + r2)) 1048576) x8 x9 (IntKind.i64.wrap (x10 + 1)) b0 ox8 z2C z29)
def Z22 (x3 : Int) : Option Int :=
 some (min x3 1048576)
theorem Z2g x3 : Sim ZN (Z22 x3) (Z5m 0 (iv x3) []) := by
 unfold Z22
 refine zf (ZGM ..)<|ze<|zp (iv (min x3 1048576)) (ZfF _ _) ?_
 exact zr ((iv (min x3 1048576)), []) ⟨_, rfl⟩
def Z2w (x3 : Int) (b0 : Zj) : Option Int :=
 if (b0.Mode == 2) = true then
 (Z22 (IntKind.i64.wrap (x3 + 2)))
 else
 (Z22 x3)
theorem Z2F x3 b0 z2C z29 : Sim ZN (Z2w x3 b0) (Z76 0 (.ptr 0 0) (iv x3) [(Zv b0 z2C z29)]) := by
 unfold Z2w
 refine zf (ZGL ..)<|ze<|zq<|zq<|zq ?_
 refine za (b0.Mode == 2) ?_ ?_
 ·refine ze<|zq ?_
  exact zk (Z2g (IntKind.i64.wrap (x3 + 2)))
 ·exact zk (Z2g x3)
def Z6O (x3 : Int) (b0 : Zj) : Option Int :=
 if (b0.Kind == 1) = true then
 (if (b0.Kind == 1) = true then
 (some (1))
 else
 (if (b0.Kind == 3) = true then
 (Z22 ((IntKind.i64.wrap (x3 + (IntKind.i64.wrap (2 * (IntKind.i64.wrap ((b0.Kids.length : Int) - 1))))))))
 else
 (if (b0.Kind == 5) = true then
 (if (b0.Kind == 5) = true then
 (Z22 (IntKind.i64.wrap (x3 + 2)))
 else
 (if (b0.Kind == 4) = true then
 (if (decide (b0.Hi < 0)) = true then
 (Z2w (IntKind.i64.wrap ((IntKind.i64.wrap (b0.Lo * x3)) + (IntKind.i64.wrap (x3 + 4)))) b0)
 else
 (Z2w ((IntKind.i64.wrap ((IntKind.i64.wrap (b0.Lo * x3)) + (IntKind.i64.wrap ((IntKind.i64.wrap (b0.Hi - b0.Lo)) * (IntKind.i64.wrap (x3 + 1))))))) b0))
 else
 (Z22 x3)))
 else
 (if (b0.Kind == 7) = true then
 (if (b0.Kind == 7) = true then
 (Z22 (IntKind.i64.wrap (x3 + 2)))
 else
 (if (b0.Kind == 4) = true then
 (if (decide (b0.Hi < 0)) = true then
 (Z2w (IntKind.i64.wrap ((IntKind.i64.wrap (b0.Lo * x3)) + (IntKind.i64.wrap (x3 + 4)))) b0)
 else
 (Z2w ((IntKind.i64.wrap ((IntKind.i64.wrap (b0.Lo * x3)) + (IntKind.i64.wrap ((IntKind.i64.wrap (b0.Hi - b0.Lo)) * (IntKind.i64.wrap (x3 + 1))))))) b0))
 else
 (Z22 x3)))
 else
 (if (b0.Kind == 8) = true then
 (Z22 (IntKind.i64.wrap (x3 + 2)))
 else
 (if (b0.Kind == 4) = true then
 (if (decide (b0.Hi < 0)) = true then
 (Z2w (IntKind.i64.wrap ((IntKind.i64.wrap (b0.Lo * x3)) + (IntKind.i64.wrap (x3 + 4)))) b0)
 else
 (Z2w ((IntKind.i64.wrap ((IntKind.i64.wrap (b0.Lo * x3)) + (IntKind.i64.wrap ((IntKind.i64.wrap (b0.Hi - b0.Lo)) * (IntKind.i64.wrap (x3 + 1))))))) b0))
 else
 (Z22 x3)))))))
 else
 (if (b0.Kind == 6) = true then
 (if (b0.Kind == 6) = true then
 (some (1))
 else
 (if (b0.Kind == 3) = true then
 (Z22 ((IntKind.i64.wrap (x3 + (IntKind.i64.wrap (2 * (IntKind.i64.wrap ((b0.Kids.length : Int) - 1))))))))
 else
 (if (b0.Kind == 5) = true then
 (if (b0.Kind == 5) = true then
 (Z22 (IntKind.i64.wrap (x3 + 2)))
 else
 (if (b0.Kind == 4) = true then
 (if (decide (b0.Hi < 0)) = true then
 (Z2w (IntKind.i64.wrap ((IntKind.i64.wrap (b0.Lo * x3)) + (IntKind.i64.wrap (x3 + 4)))) b0)
 else
 (Z2w ((IntKind.i64.wrap ((IntKind.i64.wrap (b0.Lo * x3)) + (IntKind.i64.wrap ((IntKind.i64.wrap (b0.Hi - b0.Lo)) * (IntKind.i64.wrap (x3 + 1))))))) b0))
 else
 (Z22 x3)))
 else
 (if (b0.Kind == 7) = true then
 (if (b0.Kind == 7) = true then
 (Z22 (IntKind.i64.wrap (x3 + 2)))
 else
 (if (b0.Kind == 4) = true then
 (if (decide (b0.Hi < 0)) = true then
 (Z2w (IntKind.i64.wrap ((IntKind.i64.wrap (b0.Lo * x3)) + (IntKind.i64.wrap (x3 + 4)))) b0)
 else
 (Z2w ((IntKind.i64.wrap ((IntKind.i64.wrap (b0.Lo * x3)) + (IntKind.i64.wrap ((IntKind.i64.wrap (b0.Hi - b0.Lo)) * (IntKind.i64.wrap (x3 + 1))))))) b0))
 else
 (Z22 x3)))
 else
 (if (b0.Kind == 8) = true then
 (Z22 (IntKind.i64.wrap (x3 + 2)))
 else
 (if (b0.Kind == 4) = true then
 (if (decide (b0.Hi < 0)) = true then
 (Z2w (IntKind.i64.wrap ((IntKind.i64.wrap (b0.Lo * x3)) + (IntKind.i64.wrap (x3 + 4)))) b0)
 else
 (Z2w ((IntKind.i64.wrap ((IntKind.i64.wrap (b0.Lo * x3)) + (IntKind.i64.wrap ((IntKind.i64.wrap (b0.Hi - b0.Lo)) * (IntKind.i64.wrap (x3 + 1))))))) b0))
 else
 (Z22 x3)))))))
 else
 (if (b0.Kind == 9) = true then
 (some (1))
 else
 (if (b0.Kind == 3) = true then
 (Z22 ((IntKind.i64.wrap (x3 + (IntKind.i64.wrap (2 * (IntKind.i64.wrap ((b0.Kids.length : Int) - 1))))))))
 else
 (if (b0.Kind == 5) = true then
 (if (b0.Kind == 5) = true then
 (Z22 (IntKind.i64.wrap (x3 + 2)))
 else
 (if (b0.Kind == 4) = true then
 (if (decide (b0.Hi < 0)) = true then
 (Z2w (IntKind.i64.wrap ((IntKind.i64.wrap (b0.Lo * x3)) + (IntKind.i64.wrap (x3 + 4)))) b0)
 else
 (Z2w ((IntKind.i64.wrap ((IntKind.i64.wrap (b0.Lo * x3)) + (IntKind.i64.wrap ((IntKind.i64.wrap (b0.Hi - b0.Lo)) * (IntKind.i64.wrap (x3 + 1))))))) b0))
 else
 (Z22 x3)))
 else
 (if (b0.Kind == 7) = true then
 (if (b0.Kind == 7) = true then
 (Z22 (IntKind.i64.wrap (x3 + 2)))
 else
 (if (b0.Kind == 4) = true then
 (if (decide (b0.Hi < 0)) = true then
 (Z2w (IntKind.i64.wrap ((IntKind.i64.wrap (b0.Lo * x3)) + (IntKind.i64.wrap (x3 + 4)))) b0)
 else
 (Z2w ((IntKind.i64.wrap ((IntKind.i64.wrap (b0.Lo * x3)) + (IntKind.i64.wrap ((IntKind.i64.wrap (b0.Hi - b0.Lo)) * (IntKind.i64.wrap (x3 + 1))))))) b0))
 else
 (Z22 x3)))
 else
 (if (b0.Kind == 8) = true then
 (Z22 (IntKind.i64.wrap (x3 + 2)))
 else
 (if (b0.Kind == 4) = true then
 (if (decide (b0.Hi < 0)) = true then
 (Z2w (IntKind.i64.wrap ((IntKind.i64.wrap (b0.Lo * x3)) + (IntKind.i64.wrap (x3 + 4)))) b0)
 else
 (Z2w ((IntKind.i64.wrap ((IntKind.i64.wrap (b0.Lo * x3)) + (IntKind.i64.wrap ((IntKind.i64.wrap (b0.Hi - b0.Lo)) * (IntKind.i64.wrap (x3 + 1))))))) b0))
 else
 (Z22 x3))))))))
theorem Zsi x3 b0 z2C z29 : Sim ZN (Z6O x3 b0) (ZBY 0 (.ptr 0 0) (iv x3) [(Zv b0 z2C z29)]) := by
 unfold Z6O
 refine zf (ZJ7 ..)<|ze<|zq<|zq<|ze<|zq ?_
 refine za (b0.Kind == 1) ?_ ?_
 ·refine za (b0.Kind == 1) ?_ ?_
  ·refine ze ?_
   exact zr ((iv 1), [(Zv b0 z2C z29)]) ⟨_, rfl⟩
  ·refine ze<|zq ?_
   refine za (b0.Kind == 3) ?_ ?_
   ·refine ze<|zq<|zq<|zp (iv (b0.Kids.length : Int)) (et_ (Z2O (P := PP) (t := 96) (d := 98) (by kernel_rfl) Z14 (shrO z29) b0.Kids))<|zq<|zq<|zq ?_
    exact zk (Z2g ((IntKind.i64.wrap (x3 + (IntKind.i64.wrap (2 * (IntKind.i64.wrap ((b0.Kids.length : Int) - 1))))))))
   ·refine ze<|zq ?_
    refine za (b0.Kind == 5) ?_ ?_
    ·refine za (b0.Kind == 5) ?_ ?_
     ·refine ze<|zq ?_
      exact zk (Z2g (IntKind.i64.wrap (x3 + 2)))
     ·refine ze<|zq ?_
      refine za (b0.Kind == 4) ?_ ?_
      ·refine ze<|ze<|zq<|zq<|zq<|ze<|zq<|zq<|zq ?_
       refine za (decide (b0.Hi < 0)) ?_ ?_
       ·refine ze<|zq<|zq ?_
        exact zk (Z2F (IntKind.i64.wrap ((IntKind.i64.wrap (b0.Lo * x3)) + (IntKind.i64.wrap (x3 + 4)))) b0 z2C z29)
       ·refine ze<|zq<|zq<|zq<|zq<|zq<|zq<|zq<|zq ?_
        exact zk (Z2F ((IntKind.i64.wrap ((IntKind.i64.wrap (b0.Lo * x3)) + (IntKind.i64.wrap ((IntKind.i64.wrap (b0.Hi - b0.Lo)) * (IntKind.i64.wrap (x3 + 1))))))) b0 z2C z29)
      ·exact zk (Z2g x3)
    ·refine ze<|zq ?_
     refine za (b0.Kind == 7) ?_ ?_
     ·refine za (b0.Kind == 7) ?_ ?_
      ·refine ze<|zq ?_
       exact zk (Z2g (IntKind.i64.wrap (x3 + 2)))
      ·refine ze<|zq ?_
       refine za (b0.Kind == 4) ?_ ?_
       ·refine ze<|ze<|zq<|zq<|zq<|ze<|zq<|zq<|zq ?_
        refine za (decide (b0.Hi < 0)) ?_ ?_
        ·refine ze<|zq<|zq ?_
         exact zk (Z2F (IntKind.i64.wrap ((IntKind.i64.wrap (b0.Lo * x3)) + (IntKind.i64.wrap (x3 + 4)))) b0 z2C z29)
        ·refine ze<|zq<|zq<|zq<|zq<|zq<|zq<|zq<|zq ?_
         exact zk (Z2F ((IntKind.i64.wrap ((IntKind.i64.wrap (b0.Lo * x3)) + (IntKind.i64.wrap ((IntKind.i64.wrap (b0.Hi - b0.Lo)) * (IntKind.i64.wrap (x3 + 1))))))) b0 z2C z29)
       ·exact zk (Z2g x3)
     ·refine ze<|zq ?_
      refine za (b0.Kind == 8) ?_ ?_
      ·refine ze<|zq ?_
       exact zk (Z2g (IntKind.i64.wrap (x3 + 2)))
      ·refine ze<|zq ?_
       refine za (b0.Kind == 4) ?_ ?_
       ·refine ze<|ze<|zq<|zq<|zq<|ze<|zq<|zq<|zq ?_
        refine za (decide (b0.Hi < 0)) ?_ ?_
        ·refine ze<|zq<|zq ?_
         exact zk (Z2F (IntKind.i64.wrap ((IntKind.i64.wrap (b0.Lo * x3)) + (IntKind.i64.wrap (x3 + 4)))) b0 z2C z29)
        ·refine ze<|zq<|zq<|zq<|zq<|zq<|zq<|zq<|zq ?_
         exact zk (Z2F ((IntKind.i64.wrap ((IntKind.i64.wrap (b0.Lo * x3)) + (IntKind.i64.wrap ((IntKind.i64.wrap (b0.Hi - b0.Lo)) * (IntKind.i64.wrap (x3 + 1))))))) b0 z2C z29)
       ·exact zk (Z2g x3)
 ·refine ze<|zq ?_
  refine za (b0.Kind == 6) ?_ ?_
  ·refine za (b0.Kind == 6) ?_ ?_
   ·refine ze ?_
    exact zr ((iv 1), [(Zv b0 z2C z29)]) ⟨_, rfl⟩
   ·refine ze<|zq ?_
    refine za (b0.Kind == 3) ?_ ?_
    ·refine ze<|zq<|zq<|zp (iv (b0.Kids.length : Int)) (et_ (Z2O (P := PP) (t := 96) (d := 98) (by kernel_rfl) Z14 (shrO z29) b0.Kids))<|zq<|zq<|zq ?_
     exact zk (Z2g ((IntKind.i64.wrap (x3 + (IntKind.i64.wrap (2 * (IntKind.i64.wrap ((b0.Kids.length : Int) - 1))))))))
    ·refine ze<|zq ?_
     refine za (b0.Kind == 5) ?_ ?_
     ·refine za (b0.Kind == 5) ?_ ?_
      ·refine ze<|zq ?_
       exact zk (Z2g (IntKind.i64.wrap (x3 + 2)))
      ·refine ze<|zq ?_
       refine za (b0.Kind == 4) ?_ ?_
       ·refine ze<|ze<|zq<|zq<|zq<|ze<|zq<|zq<|zq ?_
        refine za (decide (b0.Hi < 0)) ?_ ?_
        ·refine ze<|zq<|zq ?_
         exact zk (Z2F (IntKind.i64.wrap ((IntKind.i64.wrap (b0.Lo * x3)) + (IntKind.i64.wrap (x3 + 4)))) b0 z2C z29)
        ·refine ze<|zq<|zq<|zq<|zq<|zq<|zq<|zq<|zq ?_
         exact zk (Z2F ((IntKind.i64.wrap ((IntKind.i64.wrap (b0.Lo * x3)) + (IntKind.i64.wrap ((IntKind.i64.wrap (b0.Hi - b0.Lo)) * (IntKind.i64.wrap (x3 + 1))))))) b0 z2C z29)
       ·exact zk (Z2g x3)
     ·refine ze<|zq ?_
      refine za (b0.Kind == 7) ?_ ?_
      ·refine za (b0.Kind == 7) ?_ ?_
       ·refine ze<|zq ?_
        exact zk (Z2g (IntKind.i64.wrap (x3 + 2)))
       ·refine ze<|zq ?_
        refine za (b0.Kind == 4) ?_ ?_
        ·refine ze<|ze<|zq<|zq<|zq<|ze<|zq<|zq<|zq ?_
         refine za (decide (b0.Hi < 0)) ?_ ?_
         ·refine ze<|zq<|zq ?_
          exact zk (Z2F (IntKind.i64.wrap ((IntKind.i64.wrap (b0.Lo * x3)) + (IntKind.i64.wrap (x3 + 4)))) b0 z2C z29)
         ·refine ze<|zq<|zq<|zq<|zq<|zq<|zq<|zq<|zq ?_
          exact zk (Z2F ((IntKind.i64.wrap ((IntKind.i64.wrap (b0.Lo * x3)) + (IntKind.i64.wrap ((IntKind.i64.wrap (b0.Hi - b0.Lo)) * (IntKind.i64.wrap (x3 + 1))))))) b0 z2C z29)
        ·exact zk (Z2g x3)
      ·refine ze<|zq ?_
       refine za (b0.Kind == 8) ?_ ?_
       ·refine ze<|zq ?_
        exact zk (Z2g (IntKind.i64.wrap (x3 + 2)))
       ·refine ze<|zq ?_
        refine za (b0.Kind == 4) ?_ ?_
        ·refine ze<|ze<|zq<|zq<|zq<|ze<|zq<|zq<|zq ?_
         refine za (decide (b0.Hi < 0)) ?_ ?_
         ·refine ze<|zq<|zq ?_
          exact zk (Z2F (IntKind.i64.wrap ((IntKind.i64.wrap (b0.Lo * x3)) + (IntKind.i64.wrap (x3 + 4)))) b0 z2C z29)
         ·refine ze<|zq<|zq<|zq<|zq<|zq<|zq<|zq<|zq ?_
          exact zk (Z2F ((IntKind.i64.wrap ((IntKind.i64.wrap (b0.Lo * x3)) + (IntKind.i64.wrap ((IntKind.i64.wrap (b0.Hi - b0.Lo)) * (IntKind.i64.wrap (x3 + 1))))))) b0 z2C z29)
        ·exact zk (Z2g x3)
  ·refine ze<|zq ?_
   refine za (b0.Kind == 9) ?_ ?_
   ·refine ze ?_
    exact zr ((iv 1), [(Zv b0 z2C z29)]) ⟨_, rfl⟩
   ·refine ze<|zq ?_
    refine za (b0.Kind == 3) ?_ ?_
    ·refine ze<|zq<|zq<|zp (iv (b0.Kids.length : Int)) (et_ (Z2O (P := PP) (t := 96) (d := 98) (by kernel_rfl) Z14 (shrO z29) b0.Kids))<|zq<|zq<|zq ?_
     exact zk (Z2g ((IntKind.i64.wrap (x3 + (IntKind.i64.wrap (2 * (IntKind.i64.wrap ((b0.Kids.length : Int) - 1))))))))
    ·refine ze<|zq ?_
     refine za (b0.Kind == 5) ?_ ?_
     ·refine za (b0.Kind == 5) ?_ ?_
      ·refine ze<|zq ?_
       exact zk (Z2g (IntKind.i64.wrap (x3 + 2)))
      ·refine ze<|zq ?_
       refine za (b0.Kind == 4) ?_ ?_
       ·refine ze<|ze<|zq<|zq<|zq<|ze<|zq<|zq<|zq ?_
        refine za (decide (b0.Hi < 0)) ?_ ?_
        ·refine ze<|zq<|zq ?_
         exact zk (Z2F (IntKind.i64.wrap ((IntKind.i64.wrap (b0.Lo * x3)) + (IntKind.i64.wrap (x3 + 4)))) b0 z2C z29)
        ·refine ze<|zq<|zq<|zq<|zq<|zq<|zq<|zq<|zq ?_
         exact zk (Z2F ((IntKind.i64.wrap ((IntKind.i64.wrap (b0.Lo * x3)) + (IntKind.i64.wrap ((IntKind.i64.wrap (b0.Hi - b0.Lo)) * (IntKind.i64.wrap (x3 + 1))))))) b0 z2C z29)
       ·exact zk (Z2g x3)
     ·refine ze<|zq ?_
      refine za (b0.Kind == 7) ?_ ?_
      ·refine za (b0.Kind == 7) ?_ ?_
       ·refine ze<|zq ?_
        exact zk (Z2g (IntKind.i64.wrap (x3 + 2)))
       ·refine ze<|zq ?_
        refine za (b0.Kind == 4) ?_ ?_
        ·refine ze<|ze<|zq<|zq<|zq<|ze<|zq<|zq<|zq ?_
         refine za (decide (b0.Hi < 0)) ?_ ?_
         ·refine ze<|zq<|zq ?_
          exact zk (Z2F (IntKind.i64.wrap ((IntKind.i64.wrap (b0.Lo * x3)) + (IntKind.i64.wrap (x3 + 4)))) b0 z2C z29)
         ·refine ze<|zq<|zq<|zq<|zq<|zq<|zq<|zq<|zq ?_
          exact zk (Z2F ((IntKind.i64.wrap ((IntKind.i64.wrap (b0.Lo * x3)) + (IntKind.i64.wrap ((IntKind.i64.wrap (b0.Hi - b0.Lo)) * (IntKind.i64.wrap (x3 + 1))))))) b0 z2C z29)
        ·exact zk (Z2g x3)
      ·refine ze<|zq ?_
       refine za (b0.Kind == 8) ?_ ?_
       ·refine ze<|zq ?_
        exact zk (Z2g (IntKind.i64.wrap (x3 + 2)))
       ·refine ze<|zq ?_
        refine za (b0.Kind == 4) ?_ ?_
        ·refine ze<|ze<|zq<|zq<|zq<|ze<|zq<|zq<|zq ?_
         refine za (decide (b0.Hi < 0)) ?_ ?_
         ·refine ze<|zq<|zq ?_
          exact zk (Z2F (IntKind.i64.wrap ((IntKind.i64.wrap (b0.Lo * x3)) + (IntKind.i64.wrap (x3 + 4)))) b0 z2C z29)
         ·refine ze<|zq<|zq<|zq<|zq<|zq<|zq<|zq<|zq ?_
          exact zk (Z2F ((IntKind.i64.wrap ((IntKind.i64.wrap (b0.Lo * x3)) + (IntKind.i64.wrap ((IntKind.i64.wrap (b0.Hi - b0.Lo)) * (IntKind.i64.wrap (x3 + 1))))))) b0 z2C z29)
        ·exact zk (Z2g x3)
def ZcA (x3 : Int) (x8 : List Zj) (x9 x10 : Int) (b0 : Zj) : Option Int :=
 if (decide (x10 < x9)) = true then
 (ZeS x3 x8 x9 x10 b0)
 else
 (Z6O x3 b0)
theorem Zsg x3 (x8 : List Zj) x9 x10 b0 ox8 z2C z29 : Sim ZN (ZcA x3 x8 x9 x10 b0) (ZsI 0 (.ptr 0 0) (iv x3) (ZM ox8 (x8.map Z14)) (iv x9) (iv x10) [(Zv b0 z2C z29)]) := by
 unfold ZcA
 refine zf (ZJ5 ..)<|ze<|zq ?_
 refine za (decide (x10 < x9)) ?_ ?_
 ·exact zk (Zsh x3 x8 x9 x10 b0 ox8 z2C z29)
 ·exact zk (Zsi x3 b0 z2C z29)
theorem Zli x3 x8 x9 x10 b0 {r} (h : ZcA x3 x8 x9 x10 b0 = some r) : Z85 x3 x8 x9 x10 b0 = some r :=
 Z1f (fun _ _ ha hb => ru_ Z2l (ha .ex .ex .ex) (hb .ex .ex .ex)) (fun ox8 z2C z29 => Zsg x3 x8 x9 x10 b0 ox8 z2C z29 r h)
def Z7d (zP : List ZD) : Option Int :=
 some (IntKind.i64.wrap ((zP.length : Int) - 1))
theorem Zh3 (zP : List ZD) z1W zV z1E (z3F : ZW z1E = true) : Sim (Z7c zP z1W zV z1E) (Z7d zP) (EE 35 [(.ptr 0 0)] [[(ZM z1E (zP.map ZL)), (.mp 1), (iv z1W)], (rM_ ZF zV)]) := by
 unfold Z7d
 refine zf (ZOF ..)<|ze<|ze<|zq<|zq<|zq<|zp (iv (zP.length : Int)) (et_ (Z2O (P := PP) (t := 121) (d := 24) (by kernel_rfl) ZL (shrO z1E) zP))<|zq ?_
 exact zr ((iv (IntKind.i64.wrap ((zP.length : Int) - 1))), [[(ZM z1E (zP.map ZL)), (.mp 1), (iv z1W)], (rM_ ZF zV)]) ⟨_, rfl⟩
theorem ZhY zP {r} (h : Z7d zP = some r) : Z3g zP = some r :=
 Z1f (fun _ _ ha hb => ru_ (ZiB _ _ _ _) (ha default default .ex rfl) (hb default default .ex rfl)) (fun z1W zV z1E z3F => Zh3 zP z1W zV z1E z3F r h)
def Z9C (x0 : List Z16) : Option Bool :=
 Z5n x0 x0 (x0.length : Int) 0
theorem Zl6 (x0 : List Z16) ox0 : Sim ZZ (Z9C x0) (EE 30 [(ZM ox0 (x0.map Z2a))] []) := by
 unfold Z9C
 refine zf (ZOx ..)<|ze<|ze<|zp (iv (x0.length : Int)) (et_ (Z2O (P := PP) (t := 59) (d := 61) (by kernel_rfl) Z2a (shrO ox0) x0)) ?_
 exact zk (Zd3 x0 x0 (x0.length : Int) 0 ox0 (shrO ox0))
theorem ZlG x0 {r} (h : Z9C x0 = some r) : Z9D x0 = some r :=
 Z1f (fun _ _ ha hb => ru_ Z2k (ha .ex) (hb .ex)) (fun ox0 => Zl6 x0 ox0 r h)
def Z5l : Option Bool :=
 some false
theorem ZcI : Sim ZZ Z5l (ZwJ 0 []) := by
 unfold Z5l
 refine zf (ZIC ..)<|ze ?_
 exact zr ((bv false), []) ⟨_, rfl⟩
def Z8l (x0 x7 : List Z16) (x8 x9 : Int) (b0 : Z16) : Option Bool :=
 Z6m x0 x7 x8 x9 b0.Delta.Put (b0.Delta.Put.length : Int) 0
theorem Zj8 (x0 x7 : List Z16) x8 x9 b0 ox0 ox7 zhO zzS : Sim ZZ (Z8l x0 x7 x8 x9 b0) (ZBu 0 (ZM ox0 (x0.map Z2a)) (.ptr 0 0) (ZM ox7 (x7.map Z2a)) (iv x8) (iv x9) [(Z1a b0 zhO zzS)]) := by
 unfold Z8l
 refine zf (ZID ..)<|ze<|zq<|zq<|zq<|zp (iv (b0.Delta.Put.length : Int)) (et_ (Z2O (P := PP) (t := 22) (d := 43) (by kernel_rfl) ZE (shrO zhO) b0.Delta.Put)) ?_
 exact zk (Zd4 x0 x7 x8 x9 b0.Delta.Put (b0.Delta.Put.length : Int) 0 ox0 ox7 (shrO zhO))
def Z5k (x0 x7 : List Z16) (x8 x9 : Int) : Option Bool :=
 (lget x7 x9).bind fun a1 =>
 if (decide (20 < (a1.Delta.Put.length : Int))) = true then
 Z5l
 else
 (if (decide (20 < (a1.Delta.Drop.length : Int))) = true then
 Z5l
 else
 (Z8l x0 x7 x8 x9 a1))
theorem Zj7 (x0 x7 : List Z16) x8 x9 ox0 ox7 : Sim ZZ (Z5k x0 x7 x8 x9) (ZBt 0 (ZM ox0 (x0.map Z2a)) (ZM ox7 (x7.map Z2a)) (iv x8) (iv x9) []) := by
 unfold Z5k
 refine zf (ZIB ..)<|ze<|zi fun a1 ha1 => zp (.cptr (Z4m a1 .sh .sh)) (et_ (Z3E (o := ox7) (k := .i64) (n := 9) (e := Z2a) (cs := Zck) (fun _ => rfl) (fun _ => rfl) (by decide) ha1))<|zq<|zz (.ptr 0 0) [(Z1a ZLv .nl .nl)]<|zt [(Z1a a1 .sh .sh)]<|ze<|zq<|zq<|zq<|zp (iv (a1.Delta.Put.length : Int)) (et_ (Z2O (P := PP) (t := 22) (d := 43) (by kernel_rfl) ZE .sh a1.Delta.Put))<|zq ?_
 refine za (decide (20 < (a1.Delta.Put.length : Int))) ?_ ?_
 ·exact zk ZcI
 ·refine zq<|zq<|zq<|zp (iv (a1.Delta.Drop.length : Int)) (et_ (Z2O (P := PP) (t := 27) (d := 3) (by kernel_rfl) (eI .i64) .sh a1.Delta.Drop))<|zq ?_
  refine za (decide (20 < (a1.Delta.Drop.length : Int))) ?_ ?_
  ·exact zk ZcI
  ·exact zk (Zj8 x0 x7 x8 x9 a1 ox0 ox7 .sh .sh)
def Z80 (x0 : List Z16) : Option Bool :=
 some (decide ((x0.length : Int) ≤ 70))
theorem ZiG (x0 : List Z16) ox0 : Sim ZZ (Z80 x0) (ZzC 0 (ZM ox0 (x0.map Z2a)) []) := by
 unfold Z80
 refine zf (ZGG ..)<|ze<|zp (iv (x0.length : Int)) (et_ (Z2O (P := PP) (t := 59) (d := 61) (by kernel_rfl) Z2a (shrO ox0) x0))<|zq ?_
 exact zr ((bv (decide ((x0.length : Int) ≤ 70))), []) ⟨_, rfl⟩
def Z4y (x0 x7 : List Z16) (x8 x9 : Int) : Option Bool :=
 if (decide (x9 < x8)) = true then
 (Z5k x0 x7 x8 x9)
 else
 (Z80 x0)
theorem Zj5 (x0 x7 : List Z16) x8 x9 ox0 ox7 : Sim ZZ (Z4y x0 x7 x8 x9) (ZsC 0 (ZM ox0 (x0.map Z2a)) (ZM ox7 (x7.map Z2a)) (iv x8) (iv x9) []) := by
 unfold Z4y
 refine zf (ZIz ..)<|ze<|zq ?_
 refine za (decide (x9 < x8)) ?_ ?_
 ·exact zk (Zj7 x0 x7 x8 x9 ox0 ox7)
 ·exact zk (ZiG x0 ox0)
theorem Z7j x0 x7 x8 x9 {r} (h : Z4y x0 x7 x8 x9 = some r) : Z5n x0 x7 x8 x9 = some r :=
 Z1f (fun _ _ ha hb => ru_ Z2k (ha .ex .ex) (hb .ex .ex)) (fun ox0 ox7 => Zj5 x0 x7 x8 x9 ox0 ox7 r h)
def Z7Y (x0 x7 : List Z16) (x8 x9 : Int) (x27 : List ZA) (x28 x29 : Int) : Option Bool :=
 Z6m x0 x7 x8 x9 x27 x28 (IntKind.i64.wrap (x29 + 1))
theorem ZiE (x0 x7 : List Z16) x8 x9 (x27 : List ZA) x28 x29 ox0 ox7 ox27 : Sim ZZ (Z7Y x0 x7 x8 x9 x27 x28 x29) (ZzA 0 (ZM ox0 (x0.map Z2a)) (ZM ox7 (x7.map Z2a)) (iv x8) (iv x9) (ZM ox27 (x27.map ZE)) (iv x28) (iv x29) []) := by
 unfold Z7Y
 refine zf (ZGE ..)<|ze<|zq ?_
 exact zk (Zd4 x0 x7 x8 x9 x27 x28 (IntKind.i64.wrap (x29 + 1)) ox0 ox7 ox27)
def Z6l (x0 x7 : List Z16) (x8 x9 : Int) (x27 : List ZA) (x28 x29 : Int) : Option Bool :=
 (lget x27 x29).bind fun a1 =>
 if (decide (300 < (a1.Pattern.size : Int))) = true then
 (some false)
 else
 (Z7Y x0 x7 x8 x9 x27 x28 x29)
theorem Zj9 (x0 x7 : List Z16) x8 x9 (x27 : List ZA) x28 x29 ox0 ox7 ox27 : Sim ZZ (Z6l x0 x7 x8 x9 x27 x28 x29) (ZBv 0 (ZM ox0 (x0.map Z2a)) (ZM ox7 (x7.map Z2a)) (iv x8) (iv x9) (ZM ox27 (x27.map ZE)) (iv x28) (iv x29) []) := by
 unfold Z6l
 refine zf (ZIE ..)<|ze<|zi fun a1 ha1 => zp (.cptr (Z1Y a1)) (et_ (Z3E (o := ox27) (k := .i64) (n := 5) (e := ZE) (cs := Z52) (fun _ => rfl) (fun _ => rfl) (by decide) ha1))<|zq<|zz (.ptr 0 0) [(Z1P (ZA.mk 0 0 0 0 (ByteArray.mk #[])))]<|zt [(Z1P a1)]<|ze<|zq<|zq<|zq<|zq ?_
 refine za (decide (300 < (a1.Pattern.size : Int))) ?_ ?_
 ·refine ze ?_
  exact zr ((bv false), [(Z1P a1)]) ⟨_, rfl⟩
 ·exact zk (ZiE x0 x7 x8 x9 x27 x28 x29 ox0 ox7 ox27)
def Z7Z (x0 x7 : List Z16) (x8 x9 : Int) : Option Bool :=
 Z5n x0 x7 x8 (IntKind.i64.wrap (x9 + 1))
theorem ZiF (x0 x7 : List Z16) x8 x9 ox0 ox7 : Sim ZZ (Z7Z x0 x7 x8 x9) (ZzB 0 (ZM ox0 (x0.map Z2a)) (ZM ox7 (x7.map Z2a)) (iv x8) (iv x9) []) := by
 unfold Z7Z
 refine zf (ZGF ..)<|ze<|zq ?_
 exact zk (Zd3 x0 x7 x8 (IntKind.i64.wrap (x9 + 1)) ox0 ox7)
def Z5j (x0 x7 : List Z16) (x8 x9 : Int) (x27 : List ZA) (x28 x29 : Int) : Option Bool :=
 if (decide (x29 < x28)) = true then
 (Z6l x0 x7 x8 x9 x27 x28 x29)
 else
 (Z7Z x0 x7 x8 x9)
theorem Zj6 (x0 x7 : List Z16) x8 x9 (x27 : List ZA) x28 x29 ox0 ox7 ox27 : Sim ZZ (Z5j x0 x7 x8 x9 x27 x28 x29) (ZsD 0 (ZM ox0 (x0.map Z2a)) (ZM ox7 (x7.map Z2a)) (iv x8) (iv x9) (ZM ox27 (x27.map ZE)) (iv x28) (iv x29) []) := by
 unfold Z5j
 refine zf (ZIA ..)<|ze<|zq ?_
 refine za (decide (x29 < x28)) ?_ ?_
 ·exact zk (Zj9 x0 x7 x8 x9 x27 x28 x29 ox0 ox7 ox27)
 ·exact zk (ZiF x0 x7 x8 x9 ox0 ox7)
theorem Z9A x0 x7 x8 x9 x27 x28 x29 {r} (h : Z5j x0 x7 x8 x9 x27 x28 x29 = some r) : Z6m x0 x7 x8 x9 x27 x28 x29 = some r :=
 Z1f (fun _ _ ha hb => ru_ Z2k (ha .ex .ex .ex) (hb .ex .ex .ex)) (fun ox0 ox7 ox27 => Zj6 x0 x7 x8 x9 x27 x28 x29 ox0 ox7 ox27 r h)
def Z5X : Option (ZD × Bool) :=
 some ((ZD.mk 0 0 0 0 ([] : List ZA)), false)
theorem ZbI (zP : List ZD) z1W zV b2 z1E zK (z3F : ZW z1E = true) (z1s : ZW zK = true) : Sim (Z5H zP z1W zV z1E) Z5X (ZwP 2 (.ptr 2 0) [[(ZM z1E (zP.map ZL)), (.mp 1), (iv z1W)], (rM_ ZF zV), (Zw b2 zK)]) := by
 unfold Z5X
 refine zf (ZIJ ..)<|ze<|zq<|zt [[(ZM z1E (zP.map ZL)), (.mp 1), (iv z1W)], (rM_ ZF zV), (Zw Z40 .nl)] ?_
 exact zr ((.p (.tup [(.agg (Z1q Z40 .sh)), (.v (.bool false))])), [[(ZM z1E (zP.map ZL)), (.mp 1), (iv z1W)], (rM_ ZF zV), (Zw Z40 .nl)]) ⟨_, rfl⟩
def Z7D (x1 : Int) (zP : List ZD) : Option (ZD × Bool) :=
 (lget zP x1).bind fun a1 =>
 (ZeK a1.Rules).bind fun r2 =>
 some ((ZD.mk a1.Default a1.Closed a1.Fuel a1.Stack r2), true)
theorem ZhX x1 (zP : List ZD) z1W zV b2 z1E zK (z3F : ZW z1E = true) (z1s : ZW zK = true) : Sim (Z5H zP z1W zV z1E) (Z7D x1 zP) (ZBC 2 (.ptr 0 0) (iv x1) (.ptr 2 0) [[(ZM z1E (zP.map ZL)), (.mp 1), (iv z1W)], (rM_ ZF zV), (Zw b2 zK)]) := by
 unfold Z7D
 refine zf (ZIK ..)<|ze<|zq<|zq<|zq<|zi fun a1 ha1 => zp (.cptr (Z1q a1 .sh)) (et_ (Z3E (o := (shrO z1E)) (k := .i64) (n := 5) (e := ZL) (cs := ZgY) (fun _ => rfl) (fun _ => rfl) (by decide) ha1))<|zq<|zz (.ptr 3 0) [[(ZM z1E (zP.map ZL)), (.mp 1), (iv z1W)], (rM_ ZF zV), (Zw b2 zK), (Zw Z40 .nl)]<|zt [[(ZM z1E (zP.map ZL)), (.mp 1), (iv z1W)], (rM_ ZF zV), (Zw b2 zK), (Zw a1 .sh)]<|ze<|zq<|zq<|zi fun r2 hr2 => ?_
 obtain ⟨_, er2, _, rfl⟩ := ZoK a1.Rules .sh r2 hr2
 refine zc [] (ZM .sh (r2.map ZE)) [[(ZM z1E (zP.map ZL)), (.mp 1), (iv z1W)], (rM_ ZF zV), (Zw b2 zK), (Zw a1 .sh)] er2<|zq<|zt [[(ZM z1E (zP.map ZL)), (.mp 1), (iv z1W)], (rM_ ZF zV), (Zw b2 zK), (Z2H a1.Default a1.Closed a1.Fuel a1.Stack r2 .sh)]<|ze<|zq<|zt [[(ZM z1E (zP.map ZL)), (.mp 1), (iv z1W)], (rM_ ZF zV), (Z2H a1.Default a1.Closed a1.Fuel a1.Stack r2 .sh), (Z2H a1.Default a1.Closed a1.Fuel a1.Stack r2 .sh)] ?_
 exact zr ((.p (.tup [(.agg (Z1q (ZD.mk a1.Default a1.Closed a1.Fuel a1.Stack r2) .sh)), (.v (.bool true))])), [[(ZM z1E (zP.map ZL)), (.mp 1), (iv z1W)], (rM_ ZF zV), (Z2H a1.Default a1.Closed a1.Fuel a1.Stack r2 .sh), (Z2H a1.Default a1.Closed a1.Fuel a1.Stack r2 .sh)]) ⟨_, rfl⟩
def Z8V (x1 : Int) (zP : List ZD) : Option (ZD × Bool) :=
 if (decide (x1 < 0)) = true then
 Z5X
 else
 (if (decide ((zP.length : Int) ≤ x1)) = true then
 Z5X
 else
 (Z7D x1 zP))
theorem ZjH x1 (zP : List ZD) z1W zV z1E (z3F : ZW z1E = true) : Sim (Z5H zP z1W zV z1E) (Z8V x1 zP) (EE 36 [(.ptr 0 0), (iv x1)] [[(ZM z1E (zP.map ZL)), (.mp 1), (iv z1W)], (rM_ ZF zV)]) := by
 unfold Z8V
 refine zf (ZOG ..)<|ze<|zz (.ptr 2 0) [[(ZM z1E (zP.map ZL)), (.mp 1), (iv z1W)], (rM_ ZF zV), (Zw Z40 .nl)]<|ze<|zq ?_
 refine za (decide (x1 < 0)) ?_ ?_
 ·exact zk (ZbI zP z1W zV Z40 z1E .nl z3F rfl)
 ·refine zq<|zq<|zq<|zp (iv (zP.length : Int)) (et_ (Z2O (P := PP) (t := 121) (d := 24) (by kernel_rfl) ZL (shrO z1E) zP))<|zq ?_
  refine za (decide ((zP.length : Int) ≤ x1)) ?_ ?_
  ·exact zk (ZbI zP z1W zV Z40 z1E .nl z3F rfl)
  ·exact zk (ZhX x1 zP z1W zV Z40 z1E .nl z3F rfl)
theorem Zkc x1 zP {r} (h : Z8V x1 zP = some r) : Z5J x1 zP = some r :=
 Z1f (fun _ _ ha hb => ru_ (ZkV _ _ _ _) (ha default default .ex rfl) (hb default default .ex rfl)) (fun z1W zV z1E z3F => ZjH x1 zP z1W zV z1E z3F r h)
def Zcv (x0 : ZD) : Option ZU :=
 Z8Q x0.Rules (x0.Rules.length : Int) 0 x0.Default x0.Closed x0.Fuel x0.Stack ([] : List ZA)
theorem Zov x0 z1b : Sim Z67 (Zcv x0) (EE 19 [(pA_ (Z1q x0 z1b))] []) := by
 unfold Zcv
 refine zf (ZOa ..)<|ze<|zx (.ptr 0 0) [(Zw x0 z1b)]<|zz (.ptr 1 0) [(Zw x0 z1b), (Z1y ZA2 .nl)]<|ze<|zq<|zq<|zq<|zq<|zq<|zq<|zq<|zq<|zq<|zz (.ptr 2 0) [(Zw x0 z1b), (Z1y ZA2 .nl), (Z1y ZA2 .nl)]<|zt [(Zw x0 z1b), (Z1y ZA2 .nl), (Zkv x0.Default x0.Closed x0.Fuel x0.Stack ([] : List ZA) .nl)]<|ze<|zq<|zq<|zp (iv (x0.Rules.length : Int)) (et_ (Z2O (P := PP) (t := 22) (d := 43) (by kernel_rfl) ZE (shrO z1b) x0.Rules)) ?_
 exact zk (Zfe x0.Rules (x0.Rules.length : Int) 0 x0 ZA2 x0.Default x0.Closed x0.Fuel x0.Stack ([] : List ZA) (shrO z1b) z1b .nl .nl rfl rfl)
theorem ZpA x0 {r} (h : Zcv x0 = some r) : Z7v x0 = some r :=
 Z1f (fun _ _ ha hb => ru_ ZiS (ha .ex) (hb .ex)) (fun z1b => Zov x0 z1b r h)
def Zaz (x16 : List ZA) (x17 x18 z2J z2X z3D z3e : Int) (z3i : List ZA) : Option ZU :=
 (lget x16 x18).bind fun a1 =>
 (lapp z3i ([a1] : List ZA)).bind fun a2 =>
 Z8Q x16 x17 (IntKind.i64.wrap (x18 + 1)) z2J z2X z3D z3e a2
theorem Zma (x16 : List ZA) x17 x18 b0 b1 z2J z2X z3D z3e z3i ox16 zC z2z zK (zae : ZW z2z = true) (z1s : ZW zK = true) : Sim Z67 (Zaz x16 x17 x18 z2J z2X z3D z3e z3i) (ZB3 0 (.ptr 1 0) (.ptr 2 0) (ZM ox16 (x16.map ZE)) (iv x17) (iv x18) [(Zw b0 zC), (Z1y b1 z2z), (Zkv z2J z2X z3D z3e z3i zK)]) := by
 unfold Zaz
 refine zf (ZIc ..)<|ze<|zi fun a1 ha1 => zp (.cptr (Z1Y a1)) (et_ (Z3E (o := ox16) (k := .i64) (n := 5) (e := ZE) (cs := Z52) (fun _ => rfl) (fun _ => rfl) (by decide) ha1))<|zq<|zz (.ptr 3 0) [(Zw b0 zC), (Z1y b1 z2z), (Zkv z2J z2X z3D z3e z3i zK), (Z1P (ZA.mk 0 0 0 0 (ByteArray.mk #[])))]<|zt [(Zw b0 zC), (Z1y b1 z2z), (Zkv z2J z2X z3D z3e z3i zK), (Z1P a1)]<|ze<|zq<|zw (ZM zK (z3i.map ZE)) [(Zw b0 zC), (Z1y b1 z2z), (Zkv z2J z2X z3D z3e z3i (shrO zK)), (Z1P a1)]<|zq<|zq<|zi fun a2 ha2 => zp (ZM .un (a2.map ZE)) (Eq.trans (by kernel_rfl) <| Zgk (n := 5) (o := zK) (o' := .ex) (e := ZE) (ys := ([a1] : List ZA)) (fun _ => rfl) (by decide) z1s ha2)<|zq<|zt [(Zw b0 zC), (Z1y b1 z2z), (Zkv z2J z2X z3D z3e a2 .un), (Z1P a1)]<|ze<|zq ?_
 exact zk (Zfe x16 x17 (IntKind.i64.wrap (x18 + 1)) b0 b1 z2J z2X z3D z3e a2 ox16 zC z2z .un zae rfl)
def ZaA (z2J z2X z3D z3e : Int) (z3i : List ZA) : Option ZU :=
 some (ZU.mk z2J z2X z3D z3e z3i)
theorem Zmb b0 b1 z2J z2X z3D z3e z3i zC z2z zK (zae : ZW z2z = true) (z1s : ZW zK = true) : Sim Z67 (ZaA z2J z2X z3D z3e z3i) (ZB4 0 (.ptr 1 0) (.ptr 2 0) [(Zw b0 zC), (Z1y b1 z2z), (Zkv z2J z2X z3D z3e z3i zK)]) := by
 unfold ZaA
 refine zf (ZId ..)<|ze<|zq<|zt [(Zw b0 zC), (Zkv z2J z2X z3D z3e z3i (shrO zK)), (Zkv z2J z2X z3D z3e z3i zK)] ?_
 exact zr ((pA_ (Z34 (ZU.mk z2J z2X z3D z3e z3i) .sh)), [(Zw b0 zC), (Zkv z2J z2X z3D z3e z3i (shrO zK)), (Zkv z2J z2X z3D z3e z3i zK)]) ⟨_, rfl⟩
def Z8E (x16 : List ZA) (x17 x18 z2J z2X z3D z3e : Int) (z3i : List ZA) : Option ZU :=
 if (decide (x18 < x17)) = true then
 (Zaz x16 x17 x18 z2J z2X z3D z3e z3i)
 else
 (ZaA z2J z2X z3D z3e z3i)
theorem Zm9 (x16 : List ZA) x17 x18 b0 b1 z2J z2X z3D z3e z3i ox16 zC z2z zK (zae : ZW z2z = true) (z1s : ZW zK = true) : Sim Z67 (Z8E x16 x17 x18 z2J z2X z3D z3e z3i) (Zsw 0 (.ptr 1 0) (.ptr 2 0) (ZM ox16 (x16.map ZE)) (iv x17) (iv x18) [(Zw b0 zC), (Z1y b1 z2z), (Zkv z2J z2X z3D z3e z3i zK)]) := by
 unfold Z8E
 refine zf (ZIb ..)<|ze<|zq ?_
 refine za (decide (x18 < x17)) ?_ ?_
 ·exact zk (Zma x16 x17 x18 b0 b1 z2J z2X z3D z3e z3i ox16 zC z2z zK zae z1s)
 ·exact zk (Zmb b0 b1 z2J z2X z3D z3e z3i zC z2z zK zae z1s)
theorem Zfd x16 x17 x18 z2J z2X z3D z3e z3i {r} (h : Z8E x16 x17 x18 z2J z2X z3D z3e z3i = some r) : Z8Q x16 x17 x18 z2J z2X z3D z3e z3i = some r :=
 Z1f (fun _ _ ha hb => ru_ ZiS (ha default default .ex .ex .ex .ex rfl rfl) (hb default default .ex .ex .ex .ex rfl rfl)) (fun b0 b1 ox16 zC z2z zK zae z1s => Zm9 x16 x17 x18 b0 b1 z2J z2X z3D z3e z3i ox16 zC z2z zK zae z1s r h)
def Z9e : Option Bool :=
 some false
theorem Z9N : Sim ZZ Z9e (ZmS 0 []) := by
 unfold Z9e
 refine zf (ZIt ..)<|ze ?_
 exact zr ((bv false), []) ⟨_, rfl⟩
def ZiW (b0 b1 : ZU) : Option Bool :=
 ZcK 0 b0 b1
theorem Zsa b0 b1 zC z2z : Sim ZZ (ZiW b0 b1) (ZBm 0 (.ptr 0 0) (.ptr 1 0) [(Z1y b0 zC), (Z1y b1 z2z)]) := by
 unfold ZiW
 refine zf (ZIu ..)<|ze ?_
 exact zk (Zle 0 b0 b1 zC z2z)
def Z9d (x0 x1 : ZU) : Option Bool :=
 if (x0.Default != x1.Default) = true then
 Z9e
 else
 (if (x0.Closed != x1.Closed) = true then
 Z9e
 else
 (if (x0.Fuel != x1.Fuel) = true then
 Z9e
 else
 (if (x0.Stack != x1.Stack) = true then
 Z9e
 else
 (if ((x0.Rules.length : Int) != (x1.Rules.length : Int)) = true then
 Z9e
 else
 (ZiW x0 x1)))))
theorem Zvy x0 x1 z1b zaq : Sim ZZ (Z9d x0 x1) (EE 26 [(pA_ (Z34 x0 z1b)), (pA_ (Z34 x1 zaq))] []) := by
 unfold Z9d
 refine zf (ZOs ..)<|ze<|zx (.ptr 0 0) [(Z1y x0 z1b)]<|zx (.ptr 1 0) [(Z1y x0 z1b), (Z1y x1 zaq)]<|ze<|zq<|zq<|zq<|zq<|zq ?_
 refine za (x0.Default != x1.Default) ?_ ?_
 ·exact zk Z9N
 ·refine zq<|zq<|zq<|zq<|zq ?_
  refine za (x0.Closed != x1.Closed) ?_ ?_
  ·exact zk Z9N
  ·refine zq<|zq<|zq<|zq<|zq ?_
   refine za (x0.Fuel != x1.Fuel) ?_ ?_
   ·exact zk Z9N
   ·refine zq<|zq<|zq<|zq<|zq ?_
    refine za (x0.Stack != x1.Stack) ?_ ?_
    ·exact zk Z9N
    ·refine zq<|zq<|zp (iv (x0.Rules.length : Int)) (et_ (Z2O (P := PP) (t := 38) (d := 93) (by kernel_rfl) ZE (shrO z1b) x0.Rules))<|zq<|zq<|zp (iv (x1.Rules.length : Int)) (et_ (Z2O (P := PP) (t := 38) (d := 93) (by kernel_rfl) ZE (shrO zaq) x1.Rules))<|zq ?_
     refine za ((x0.Rules.length : Int) != (x1.Rules.length : Int)) ?_ ?_
     ·exact zk Z9N
     ·exact zk (Zsa x0 x1 z1b zaq)
theorem ZaH x0 x1 {r} (h : Z9d x0 x1 = some r) : ZdG x0 x1 = some r :=
 Z1f (fun _ _ ha hb => ru_ Z2k (ha .ex .ex) (hb .ex .ex)) (fun z1b zaq => Zvy x0 x1 z1b zaq r h)
def ZeQ (x5 : Int) (b0 b1 : ZU) : Option Bool :=
 ZcK (IntKind.i64.wrap (x5 + 1)) b0 b1
theorem Zsb x5 b0 b1 zC z2z : Sim ZZ (ZeQ x5 b0 b1) (ZBn 0 (.ptr 0 0) (.ptr 1 0) (iv x5) [(Z1y b0 zC), (Z1y b1 z2z)]) := by
 unfold ZeQ
 refine zf (ZIv ..)<|ze<|zq ?_
 exact zk (Zle (IntKind.i64.wrap (x5 + 1)) b0 b1 zC z2z)
def Zcx (x5 : Int) (b0 b1 : ZU) : Option Bool :=
 (lget b0.Rules x5).bind fun a1 =>
 (lget b1.Rules x5).bind fun a2 =>
 if ((!((a1.ID == a2.ID) && ((a1.Priority == a2.Priority) && ((a1.Action == a2.Action) && ((a1.Scope == a2.Scope) && ((seq a1.Pattern a2.Pattern) && true))))))) = true then
 (some false)
 else
 (ZeQ x5 b0 b1)
theorem Zsc x5 b0 b1 zC z2z : Sim ZZ (Zcx x5 b0 b1) (ZBo 0 (.ptr 0 0) (.ptr 1 0) (iv x5) [(Z1y b0 zC), (Z1y b1 z2z)]) := by
 unfold Zcx
 refine zf (ZIw ..)<|ze<|zq<|zq<|zi fun a1 ha1 => zp (.cptr (Z1Y a1)) (et_ (Z3E (o := (shrO zC)) (k := .i64) (n := 5) (e := ZE) (cs := Z52) (fun _ => rfl) (fun _ => rfl) (by decide) ha1))<|zq<|zq<|zq<|zi fun a2 ha2 => zp (.cptr (Z1Y a2)) (et_ (Z3E (o := (shrO z2z)) (k := .i64) (n := 5) (e := ZE) (cs := Z52) (fun _ => rfl) (fun _ => rfl) (by decide) ha2))<|zq<|zp (bv (!((a1.ID == a2.ID) && ((a1.Priority == a2.Priority) && ((a1.Action == a2.Action) && ((a1.Scope == a2.Scope) && ((seq a1.Pattern a2.Pattern) && true))))))) (Eq.trans (b := xbin PP .neq 93 (pA_ (Z1Y a1)) (pA_ (Z1Y a2))) (by kernel_rfl) (ZF3 (by kernel_rfl) (by kernel_rfl) (by kernel_rfl) (by kernel_rfl) (by kernel_rfl))) ?_
 refine za ((!((a1.ID == a2.ID) && ((a1.Priority == a2.Priority) && ((a1.Action == a2.Action) && ((a1.Scope == a2.Scope) && ((seq a1.Pattern a2.Pattern) && true))))))) ?_ ?_
 ·refine ze ?_
  exact zr ((bv false), [(Z1y b0 zC), (Z1y b1 z2z)]) ⟨_, rfl⟩
 ·exact zk (Zsb x5 b0 b1 zC z2z)
def ZiX : Option Bool :=
 some true
theorem Zsd : Sim ZZ ZiX (ZBp 0 []) := by
 unfold ZiX
 refine zf (ZIx ..)<|ze ?_
 exact zr ((bv true), []) ⟨_, rfl⟩
def ZaC (x5 : Int) (b0 b1 : ZU) : Option Bool :=
 if (decide (x5 < (b0.Rules.length : Int))) = true then
 (Zcx x5 b0 b1)
 else
 ZiX
theorem Zs9 x5 b0 b1 zC z2z : Sim ZZ (ZaC x5 b0 b1) (ZsA 0 (.ptr 0 0) (.ptr 1 0) (iv x5) [(Z1y b0 zC), (Z1y b1 z2z)]) := by
 unfold ZaC
 refine zf (ZIs ..)<|ze<|zq<|zq<|zp (iv (b0.Rules.length : Int)) (et_ (Z2O (P := PP) (t := 38) (d := 93) (by kernel_rfl) ZE (shrO zC) b0.Rules))<|zq ?_
 refine za (decide (x5 < (b0.Rules.length : Int))) ?_ ?_
 ·exact zk (Zsc x5 b0 b1 zC z2z)
 ·exact zk Zsd
theorem Zfo x5 b0 b1 {r} (h : ZaC x5 b0 b1 = some r) : ZcK x5 b0 b1 = some r :=
 Z1f (fun _ _ ha hb => ru_ Z2k (ha .ex .ex) (hb .ex .ex)) (fun zC z2z => Zs9 x5 b0 b1 zC z2z r h)
end Go.Proofs.YteoeggbihfnbfaaGreatDoor.N2
end
