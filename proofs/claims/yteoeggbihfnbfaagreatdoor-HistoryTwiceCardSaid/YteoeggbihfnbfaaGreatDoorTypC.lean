/- More of the functions' typed texts. No condition. -/
import Derived.Test.YteoeggbihfnbfaaGreatDoorTypA

set_option linter.unusedSimpArgs false
set_option linter.unusedVariables false
set_option linter.defProp false
noncomputable section
namespace Go.Proofs.YteoeggbihfnbfaaGreatDoor.N2
open Go Go.Abs
set_option maxRecDepth 100000
def Z6r (zl : List Int) (z2 z6 : Int) : Option (Int × Int × Int) :=
 some ((zl.length : Int), z2, z6)
theorem Zee zl zn z7 zd zh z2 z6 zu zb (zy : ZV zb = true) : Sim (Z9x zl z7 zd zh zu zb) (Z6r zl z2 z6) (ZwH 1 (.ptr 0 0) [(ZX zl zn z7 zd zh z2 z6 zu zb)]) := by
 unfold Z6r
 refine zf (ZIK ..)<|ze<|zq<|zq<|zq<|zp (iv (zl.length : Int)) (et_ (Z2M (P := PP) (t := 141) (d := 5) (by kernel_rfl) (eI .u8) (shrO zu) zl))<|zq<|zq<|zt [(ZX zl (zl.length : Int) z7 zd zh z2 z6 zu zb)] ?_
 exact zr ((.p (.tup [])), [(ZX zl (zl.length : Int) z7 zd zh z2 z6 zu zb)]) ⟨_, rfl⟩
def Z9A (x1 x2 : Int) (zl : List Int) (z2 z6 : Int) : Option (Int × Int × Int) :=
 if (z2 == 0) = true then
 (Z6r zl x1 x2)
 else
 (Z6r zl z2 z6)
theorem Znw x1 x2 zl zn z7 zd zh z2 z6 zu zb (zy : ZV zb = true) : Sim (Z9x zl z7 zd zh zu zb) (Z9A x1 x2 zl z2 z6) (EE 70 [(.ptr 0 0), (iv x1), (iv x2)] [(ZX zl zn z7 zd zh z2 z6 zu zb)]) := by
 unfold Z9A
 refine zf (ZOM ..)<|ze<|zq<|zq<|zq<|zq<|zq ?_
 refine za (z2 == 0) ?_ ?_
 ·refine ze<|zq<|zq<|zq<|zt [(ZX zl zn z7 zd zh x1 x2 zu zb)] ?_
  exact zk (Zee zl zn z7 zd zh x1 x2 zu zb zy)
 ·exact zk (Zee zl zn z7 zd zh z2 z6 zu zb zy)
theorem ZgK x1 x2 zl z2 z6 {r} (h : Z9A x1 x2 zl z2 z6 = some r) : Z1D x1 x2 zl z2 z6 = some r :=
 Z1f (fun _ _ ha hb => ru_ (ZoG _ _ _ _ _ _) (ha default default default default .ex .ex rfl) (hb default default default default .ex .ex rfl)) (fun zn z7 zd zh zu zb zy => Znw x1 x2 zl zn z7 zd zh z2 z6 zu zb zy r h)
def Z3O : Option (Own × (List Zi)) :=
 some (.nl, ([] : List Zi))
theorem Z4e : Sim ZaD Z3O (ZcH 0 []) := by
 unfold Z3O
 refine zf (ZDG ..)<|ze ?_
 exact zr ((ZL .nl []), []) ⟨_, rfl⟩
def Z53 (x0 : Int) : Option (Own × (List Zi)) :=
 if (x0 == 100) = true then
 (if (x0 == 100) = true then
 (some (.ex, ([(Zi.mk 48 57)] : List Zi)))
 else
 (if (x0 == 119) = true then
 (if (x0 == 119) = true then
 ((Z3c 95).bind fun r1 =>
 some (.ex, ([(Zi.mk 48 57), (Zi.mk 65 90), r1, (Zi.mk 97 122)] : List Zi)))
 else
 (if (x0 == 115) = true then
 (if (x0 == 115) = true then
 ((Z3c 32).bind fun r2 =>
 some (.ex, ([(Zi.mk 9 13), r2] : List Zi)))
 else
 Z3O)
 else
 (if (x0 == 83) = true then
 ((Z3c 32).bind fun r3 =>
 some (.ex, ([(Zi.mk 9 13), r3] : List Zi)))
 else
 Z3O)))
 else
 (if (x0 == 87) = true then
 ((Z3c 95).bind fun r4 =>
 some (.ex, ([(Zi.mk 48 57), (Zi.mk 65 90), r4, (Zi.mk 97 122)] : List Zi)))
 else
 (if (x0 == 115) = true then
 (if (x0 == 115) = true then
 ((Z3c 32).bind fun r5 =>
 some (.ex, ([(Zi.mk 9 13), r5] : List Zi)))
 else
 Z3O)
 else
 (if (x0 == 83) = true then
 ((Z3c 32).bind fun r6 =>
 some (.ex, ([(Zi.mk 9 13), r6] : List Zi)))
 else
 Z3O)))))
 else
 (if (x0 == 68) = true then
 (some (.ex, ([(Zi.mk 48 57)] : List Zi)))
 else
 (if (x0 == 119) = true then
 (if (x0 == 119) = true then
 ((Z3c 95).bind fun r7 =>
 some (.ex, ([(Zi.mk 48 57), (Zi.mk 65 90), r7, (Zi.mk 97 122)] : List Zi)))
 else
 (if (x0 == 115) = true then
 (if (x0 == 115) = true then
 ((Z3c 32).bind fun r8 =>
 some (.ex, ([(Zi.mk 9 13), r8] : List Zi)))
 else
 Z3O)
 else
 (if (x0 == 83) = true then
 ((Z3c 32).bind fun r9 =>
 some (.ex, ([(Zi.mk 9 13), r9] : List Zi)))
 else
 Z3O)))
 else
 (if (x0 == 87) = true then
 ((Z3c 95).bind fun r10 =>
 some (.ex, ([(Zi.mk 48 57), (Zi.mk 65 90), r10, (Zi.mk 97 122)] : List Zi)))
 else
 (if (x0 == 115) = true then
 (if (x0 == 115) = true then
 ((Z3c 32).bind fun r11 =>
 some (.ex, ([(Zi.mk 9 13), r11] : List Zi)))
 else
 Z3O)
 else
 (if (x0 == 83) = true then
 ((Z3c 32).bind fun r12 =>
 some (.ex, ([(Zi.mk 9 13), r12] : List Zi)))
 else
 Z3O)))))
theorem Zpp x0 : Sim ZaD (Z53 x0) (EE 149 [(iv x0)] []) := by
 unfold Z53
 refine zf (ZMb ..)<|ze<|ze<|ze<|zq ?_
 refine za (x0 == 100) ?_ ?_
 ·refine za (x0 == 100) ?_ ?_
  ·refine ze<|zq<|zq ?_
   exact zr ((ZL .ex (([(Zi.mk 48 57)] : List Zi).map ZC)), []) ⟨_, rfl⟩
  ·refine ze<|zq ?_
   refine za (x0 == 119) ?_ ?_
   ·refine za (x0 == 119) ?_ ?_
    ·refine ze<|zq<|zq<|zi fun r1 hr1 => ?_
     obtain ⟨_, er1, _, rfl⟩ := Z30 95 r1 hr1
     refine zc [] (pA_ (Z1b r1)) [] er1<|zq<|zq ?_
     exact zr ((ZL .ex (([(Zi.mk 48 57), (Zi.mk 65 90), r1, (Zi.mk 97 122)] : List Zi).map ZC)), []) ⟨_, rfl⟩
    ·refine ze<|zq ?_
     refine za (x0 == 115) ?_ ?_
     ·refine za (x0 == 115) ?_ ?_
      ·refine ze<|zq<|zi fun r2 hr2 => ?_
       obtain ⟨_, er2, _, rfl⟩ := Z30 32 r2 hr2
       refine zc [] (pA_ (Z1b r2)) [] er2<|zq ?_
       exact zr ((ZL .ex (([(Zi.mk 9 13), r2] : List Zi).map ZC)), []) ⟨_, rfl⟩
      ·exact zk Z4e
     ·refine ze<|zq ?_
      refine za (x0 == 83) ?_ ?_
      ·refine ze<|zq<|zi fun r3 hr3 => ?_
       obtain ⟨_, er3, _, rfl⟩ := Z30 32 r3 hr3
       refine zc [] (pA_ (Z1b r3)) [] er3<|zq ?_
       exact zr ((ZL .ex (([(Zi.mk 9 13), r3] : List Zi).map ZC)), []) ⟨_, rfl⟩
      ·exact zk Z4e
   ·refine ze<|zq ?_
    refine za (x0 == 87) ?_ ?_
    ·refine ze<|zq<|zq<|zi fun r4 hr4 => ?_
     obtain ⟨_, er4, _, rfl⟩ := Z30 95 r4 hr4
     refine zc [] (pA_ (Z1b r4)) [] er4<|zq<|zq ?_
     exact zr ((ZL .ex (([(Zi.mk 48 57), (Zi.mk 65 90), r4, (Zi.mk 97 122)] : List Zi).map ZC)), []) ⟨_, rfl⟩
    ·refine ze<|zq ?_
     refine za (x0 == 115) ?_ ?_
     ·refine za (x0 == 115) ?_ ?_
      ·refine ze<|zq<|zi fun r5 hr5 => ?_
       obtain ⟨_, er5, _, rfl⟩ := Z30 32 r5 hr5
       refine zc [] (pA_ (Z1b r5)) [] er5<|zq ?_
       exact zr ((ZL .ex (([(Zi.mk 9 13), r5] : List Zi).map ZC)), []) ⟨_, rfl⟩
      ·exact zk Z4e
     ·refine ze<|zq ?_
      refine za (x0 == 83) ?_ ?_
      ·refine ze<|zq<|zi fun r6 hr6 => ?_
       obtain ⟨_, er6, _, rfl⟩ := Z30 32 r6 hr6
       refine zc [] (pA_ (Z1b r6)) [] er6<|zq ?_
       exact zr ((ZL .ex (([(Zi.mk 9 13), r6] : List Zi).map ZC)), []) ⟨_, rfl⟩
      ·exact zk Z4e
 ·refine ze<|zq ?_
  refine za (x0 == 68) ?_ ?_
  ·refine ze<|zq<|zq ?_
   exact zr ((ZL .ex (([(Zi.mk 48 57)] : List Zi).map ZC)), []) ⟨_, rfl⟩
  ·refine ze<|zq ?_
   refine za (x0 == 119) ?_ ?_
   ·refine za (x0 == 119) ?_ ?_
    ·refine ze<|zq<|zq<|zi fun r7 hr7 => ?_
     obtain ⟨_, er7, _, rfl⟩ := Z30 95 r7 hr7
     refine zc [] (pA_ (Z1b r7)) [] er7<|zq<|zq ?_
     exact zr ((ZL .ex (([(Zi.mk 48 57), (Zi.mk 65 90), r7, (Zi.mk 97 122)] : List Zi).map ZC)), []) ⟨_, rfl⟩
    ·refine ze<|zq ?_
     refine za (x0 == 115) ?_ ?_
     ·refine za (x0 == 115) ?_ ?_
      ·refine ze<|zq<|zi fun r8 hr8 => ?_
       obtain ⟨_, er8, _, rfl⟩ := Z30 32 r8 hr8
       refine zc [] (pA_ (Z1b r8)) [] er8<|zq ?_
       exact zr ((ZL .ex (([(Zi.mk 9 13), r8] : List Zi).map ZC)), []) ⟨_, rfl⟩
      ·exact zk Z4e
     ·refine ze<|zq ?_
      refine za (x0 == 83) ?_ ?_
      ·refine ze<|zq<|zi fun r9 hr9 => ?_
       obtain ⟨_, er9, _, rfl⟩ := Z30 32 r9 hr9
       refine zc [] (pA_ (Z1b r9)) [] er9<|zq ?_
       exact zr ((ZL .ex (([(Zi.mk 9 13), r9] : List Zi).map ZC)), []) ⟨_, rfl⟩
      ·exact zk Z4e
   ·refine ze<|zq ?_
    refine za (x0 == 87) ?_ ?_
    ·refine ze<|zq<|zq<|zi fun r10 hr10 => ?_
     obtain ⟨_, er10, _, rfl⟩ := Z30 95 r10 hr10
     refine zc [] (pA_ (Z1b r10)) [] er10<|zq<|zq ?_
     exact zr ((ZL .ex (([(Zi.mk 48 57), (Zi.mk 65 90), r10, (Zi.mk 97 122)] : List Zi).map ZC)), []) ⟨_, rfl⟩
    ·refine ze<|zq ?_
     refine za (x0 == 115) ?_ ?_
     ·refine za (x0 == 115) ?_ ?_
      ·refine ze<|zq<|zi fun r11 hr11 => ?_
       obtain ⟨_, er11, _, rfl⟩ := Z30 32 r11 hr11
       refine zc [] (pA_ (Z1b r11)) [] er11<|zq ?_
       exact zr ((ZL .ex (([(Zi.mk 9 13), r11] : List Zi).map ZC)), []) ⟨_, rfl⟩
      ·exact zk Z4e
     ·refine ze<|zq ?_
      refine za (x0 == 83) ?_ ?_
      ·refine ze<|zq<|zi fun r12 hr12 => ?_
       obtain ⟨_, er12, _, rfl⟩ := Z30 32 r12 hr12
       refine zc [] (pA_ (Z1b r12)) [] er12<|zq ?_
       exact zr ((ZL .ex (([(Zi.mk 9 13), r12] : List Zi).map ZC)), []) ⟨_, rfl⟩
      ·exact zk Z4e
theorem Zqr x0 {r} (h : Z53 x0 = some r) : Z9n x0 = some r :=
 Z1f (fun _ _ ha hb => ru_ ZrG ha hb) (Zpp x0 r h)
def Z3X (x2 : Int) (zl : List Int) (z2 z6 : Int) : Option (Int × Int × Int × Int) :=
 (Z1D 21 x2 zl z2 z6).bind fun r1 =>
 some (0, r1.1, r1.2.1, r1.2.2)
theorem Z5X x2 zl zn z7 zd zh z2 z6 zu zb (zy : ZV zb = true) : Sim (Z7q zl z7 zd zh zu zb) (Z3X x2 zl z2 z6) (Zhz 1 (.ptr 0 0) (iv x2) [(ZX zl zn z7 zd zh z2 z6 zu zb)]) := by
 unfold Z3X
 refine zf (ZDI ..)<|ze<|zi fun r1 hr1 => ?_
 obtain ⟨_, er1, _, rfl⟩ := Z1J 21 x2 zl zn z7 zd zh z2 z6 zu zb zy r1 hr1
 refine zc [0] (.p (.tup [])) [(ZX zl r1.1 z7 zd zh r1.2.1 r1.2.2 zu zb)] er1<|ze ?_
 exact zr ((iv 0), [(ZX zl r1.1 z7 zd zh r1.2.1 r1.2.2 zu zb)]) ⟨_, rfl⟩
def Zbk (x1 zn z2 z6 : Int) : Option (Int × Int × Int × Int) :=
 some (x1, zn, z2, z6)
theorem Zkd x1 zl zn z7 zd zh z2 z6 zu zb (zy : ZV zb = true) : Sim (Z7q zl z7 zd zh zu zb) (Zbk x1 zn z2 z6) (Zv8 1 (iv x1) [(ZX zl zn z7 zd zh z2 z6 zu zb)]) := by
 unfold Zbk
 refine zf (ZDH ..)<|ze ?_
 exact zr ((iv x1), [(ZX zl zn z7 zd zh z2 z6 zu zb)]) ⟨_, rfl⟩
def ZaV (x1 x2 : Int) (zl : List Int) (zn z7 zd : Int) (zh : List Zz) (z2 z6 : Int) : Option (Int × Int × Int × Int) :=
 if (x1 == 110) = true then
 (some (10, zn, z2, z6))
 else
 (if (x1 == 116) = true then
 (some (9, zn, z2, z6))
 else
 (if (x1 == 114) = true then
 (some (13, zn, z2, z6))
 else
 (if (x1 == 120) = true then
 ((Z3q (Z2f.mk zl zn z7 zd zh (Z1q.mk z2 z6))).bind fun r1 =>
 (ZgJ r1).bind fun r2 =>
 if (decide (0 ≤ r2)) = true then
 ((Z4b zl zn).bind fun r3 =>
 (Z3q (Z2f.mk zl r3.2 z7 zd zh (Z1q.mk z2 z6))).bind fun r4 =>
 (ZgJ r4).bind fun r5 =>
 if (decide (0 ≤ r5)) = true then
 ((Z4b zl r3.2).bind fun r6 =>
 some ((IntKind.i64.wrap ((IntKind.i64.wrap (16 * r2)) + r5)), r6.2, z2, z6))
 else
 (Z3X x2 zl z2 z6))
 else
 (Z3X x2 zl z2 z6))
 else
 (if (decide (32 < x1)) = true then
 (if (decide (x1 < 127)) = true then
 ((Zcu ([(Zi.mk 48 57), (Zi.mk 65 90), (Zi.mk 97 122)] : List Zi) x1).bind fun r7 =>
 if (!r7) = true then
 (Zbk x1 zn z2 z6)
 else
 (Z3X x2 zl z2 z6))
 else
 (Z3X x2 zl z2 z6))
 else
 (Z3X x2 zl z2 z6)))))
theorem ZmV x1 x2 zl zn z7 zd zh z2 z6 zu zb (zy : ZV zb = true) : Sim (Z7q zl z7 zd zh zu zb) (ZaV x1 x2 zl zn z7 zd zh z2 z6) (EE 150 [(.ptr 0 0), (iv x1), (iv x2)] [(ZX zl zn z7 zd zh z2 z6 zu zb)]) := by
 unfold ZaV
 refine zf (ZMd ..)<|ze<|ze<|zq ?_
 refine za (x1 == 110) ?_ ?_
 ·refine ze ?_
  exact zr ((iv 10), [(ZX zl zn z7 zd zh z2 z6 zu zb)]) ⟨_, rfl⟩
 ·refine ze<|zq ?_
  refine za (x1 == 116) ?_ ?_
  ·refine ze ?_
   exact zr ((iv 9), [(ZX zl zn z7 zd zh z2 z6 zu zb)]) ⟨_, rfl⟩
  ·refine ze<|zq ?_
   refine za (x1 == 114) ?_ ?_
   ·refine ze ?_
    exact zr ((iv 13), [(ZX zl zn z7 zd zh z2 z6 zu zb)]) ⟨_, rfl⟩
   ·refine ze<|zq ?_
    refine za (x1 == 120) ?_ ?_
    ·refine ze<|zi fun r1 hr1 => ?_
     obtain ⟨_, er1, _, rfl⟩ := Z3D (Z2f.mk zl zn z7 zd zh (Z1q.mk z2 z6)) zu zb zy r1 hr1
     refine zc [0] (iv r1) [(ZX zl zn z7 zd zh z2 z6 zu zb)] er1<|zi fun r2 hr2 => ?_
     obtain ⟨_, er2, _, rfl⟩ := Zpn r1 r2 hr2
     refine zc [] (iv r2) [(ZX zl zn z7 zd zh z2 z6 zu zb)] er2<|ze<|zq ?_
     refine za (decide (0 ≤ r2)) ?_ ?_
     ·refine ze<|zi fun r3 hr3 => ?_
      obtain ⟨_, er3, _, rfl⟩ := Z4J zl zn z7 zd zh z2 z6 zu zb zy r3 hr3
      refine zc [0] (iv r3.1) [(ZX zl r3.2 z7 zd zh z2 z6 zu zb)] er3<|ze<|zi fun r4 hr4 => ?_
      obtain ⟨_, er4, _, rfl⟩ := Z3D (Z2f.mk zl r3.2 z7 zd zh (Z1q.mk z2 z6)) zu zb zy r4 hr4
      refine zc [0] (iv r4) [(ZX zl r3.2 z7 zd zh z2 z6 zu zb)] er4<|zi fun r5 hr5 => ?_
      obtain ⟨_, er5, _, rfl⟩ := Zpn r4 r5 hr5
      refine zc [] (iv r5) [(ZX zl r3.2 z7 zd zh z2 z6 zu zb)] er5<|ze<|zq ?_
      refine za (decide (0 ≤ r5)) ?_ ?_
      ·refine ze<|zi fun r6 hr6 => ?_
       obtain ⟨_, er6, _, rfl⟩ := Z4J zl r3.2 z7 zd zh z2 z6 zu zb zy r6 hr6
       refine zc [0] (iv r6.1) [(ZX zl r6.2 z7 zd zh z2 z6 zu zb)] er6<|ze<|zq<|zq ?_
       exact zr ((iv (IntKind.i64.wrap ((IntKind.i64.wrap (16 * r2)) + r5))), [(ZX zl r6.2 z7 zd zh z2 z6 zu zb)]) ⟨_, rfl⟩
      ·exact zk (Z5X x2 zl r3.2 z7 zd zh z2 z6 zu zb zy)
     ·exact zk (Z5X x2 zl zn z7 zd zh z2 z6 zu zb zy)
    ·refine ze<|zq ?_
     refine za (decide (32 < x1)) ?_ ?_
     ·refine zq ?_
      refine za (decide (x1 < 127)) ?_ ?_
      ·refine zq<|zq<|zq<|zq<|zi fun r7 hr7 => ?_
       obtain ⟨_, er7, _, rfl⟩ := ZsH ([(Zi.mk 48 57), (Zi.mk 65 90), (Zi.mk 97 122)] : List Zi) x1 .sh r7 hr7
       refine zc [] (bv r7) [(ZX zl zn z7 zd zh z2 z6 zu zb)] er7<|zq ?_
       refine za (!r7) ?_ ?_
       ·exact zk (Zkd x1 zl zn z7 zd zh z2 z6 zu zb zy)
       ·exact zk (Z5X x2 zl zn z7 zd zh z2 z6 zu zb zy)
      ·exact zk (Z5X x2 zl zn z7 zd zh z2 z6 zu zb zy)
     ·exact zk (Z5X x2 zl zn z7 zd zh z2 z6 zu zb zy)
theorem Znz x1 x2 zl zn z7 zd zh z2 z6 {r} (h : ZaV x1 x2 zl zn z7 zd zh z2 z6 = some r) : Z9e x1 x2 zl zn z7 zd zh z2 z6 = some r :=
 Z1f (fun _ _ ha hb => ru_ (Zo6 _ _ _ _ _ _) (ha .ex .ex rfl) (hb .ex .ex rfl)) (fun zu zb zy => ZmV x1 x2 zl zn z7 zd zh z2 z6 zu zb zy r h)
def Zfr (x0 : Int) : Option Int :=
 some (IntKind.i64.wrap (x0 - 48))
theorem ZsM x0 : Sim ZO (Zfr x0) (ZyQ 0 (iv x0) []) := by
 unfold Zfr
 refine zf (ZFT ..)<|ze<|zq ?_
 exact zr ((iv (IntKind.i64.wrap (x0 - 48))), []) ⟨_, rfl⟩
def Zfs (x0 : Int) : Option Int :=
 some (IntKind.i64.wrap ((IntKind.i64.wrap (x0 - 97)) + 10))
theorem ZsN x0 : Sim ZO (Zfs x0) (ZyR 0 (iv x0) []) := by
 unfold Zfs
 refine zf (ZFV ..)<|ze<|zq<|zq ?_
 exact zr ((iv (IntKind.i64.wrap ((IntKind.i64.wrap (x0 - 97)) + 10))), []) ⟨_, rfl⟩
def Zdf : Option Int :=
 some (-1)
theorem ZkW : Sim ZO Zdf (ZtY 0 []) := by
 unfold Zdf
 refine zf (ZFW ..)<|ze ?_
 exact zr ((iv (-1)), []) ⟨_, rfl⟩
def Zde (x0 : Int) : Option Int :=
 if (decide (97 ≤ x0)) = true then
 (if (decide (x0 ≤ 102)) = true then
 (Zfs x0)
 else
 Zdf)
 else
 Zdf
theorem ZkV x0 : Sim ZO (Zde x0) (ZtX 0 (iv x0) []) := by
 unfold Zde
 refine zf (ZFU ..)<|ze<|zq ?_
 refine za (decide (97 ≤ x0)) ?_ ?_
 ·refine zq ?_
  refine za (decide (x0 ≤ 102)) ?_ ?_
  ·exact zk (ZsN x0)
  ·exact zk ZkW
 ·exact zk ZkW
def Zky (x0 : Int) : Option Int :=
 if (decide (48 ≤ x0)) = true then
 (if (decide (x0 ≤ 57)) = true then
 (Zfr x0)
 else
 (Zde x0))
 else
 (Zde x0)
theorem ZwV x0 : Sim ZO (Zky x0) (EE 172 [(iv x0)] []) := by
 unfold Zky
 refine zf (ZMB ..)<|ze<|ze<|zq ?_
 refine za (decide (48 ≤ x0)) ?_ ?_
 ·refine zq ?_
  refine za (decide (x0 ≤ 57)) ?_ ?_
  ·exact zk (ZsM x0)
  ·exact zk (ZkV x0)
 ·exact zk (ZkV x0)
theorem Zzy x0 {r} (h : Zky x0 = some r) : ZgJ x0 = some r :=
 Z1f (fun _ _ ha hb => ru_ Z2k ha hb) (ZwV x0 r h)
def Zev (x0 : List Zi) (x1 : Int) : Option Bool :=
 (Z6p x0 x1).bind fun r1 =>
 some r1
theorem ZrM (x0 : List Zi) x1 ox0 : Sim Z11 (Zev x0 x1) (EE 173 [(ZL ox0 (x0.map ZC)), (iv x1)] []) := by
 unfold Zev
 refine zf (ZMD ..)<|ze<|zx (.ptr 0 0) [[(iv x1)]]<|ze<|zi fun r1 hr1 => ?_
 obtain ⟨_, er1, _, rfl⟩ := Zgb x0 x1 .sh r1 hr1
 refine zc [0] (bv r1) [[(iv x1)]] er1 ?_
 exact zr ((bv r1), [[(iv x1)]]) ⟨_, rfl⟩
theorem ZsG x0 x1 {r} (h : Zev x0 x1 = some r) : Zcu x0 x1 = some r :=
 Z1f (fun _ _ ha hb => ru_ Z2p (ha .ex) (hb .ex)) (fun ox0 => ZrM x0 x1 ox0 r h)
def Z6k (x0 : List Zi) (zU : Int) : Option Bool :=
 (Z7D x0 zU).bind fun r1 =>
 some (decide (0 ≤ r1))
theorem ZfI (x0 : List Zi) zU ox0 : Sim (Z9j zU) (Z6k x0 zU) (EE 184 [(ZL ox0 (x0.map ZC)), (.clo 185 [] [(.ptr 0 0)])] [[(iv zU)]]) := by
 unfold Z6k
 refine zf (ZMG ..)<|ze<|ze<|zi fun r1 hr1 => ?_
 obtain ⟨_, er1, _, rfl⟩ := Ziy x0 zU .sh r1 hr1
 refine zc [0] (iv r1) [[(iv zU)]] er1<|zq ?_
 exact zr ((bv (decide (0 ≤ r1))), [[(iv zU)]]) ⟨_, rfl⟩
theorem Zga x0 zU {r} (h : Z6k x0 zU = some r) : Z6p x0 zU = some r :=
 Z1f (fun _ _ ha hb => ru_ (ZjB _) (ha .ex) (hb .ex)) (fun ox0 => ZfI x0 zU ox0 r h)
def Z7v (x0 : List Zi) (zU : Int) : Option Int :=
 Z59 x0 (x0.length : Int) 0 zU
theorem ZhM (x0 : List Zi) zU ox0 : Sim (Z3s zU) (Z7v x0 zU) (EE 191 [(ZL ox0 (x0.map ZC)), (.clo 185 [] [(.ptr 0 0)])] [[(iv zU)]]) := by
 unfold Z7v
 refine zf (ZMI ..)<|ze<|ze<|zp (iv (x0.length : Int)) (et_ (Z2M (P := PP) (t := 95) (d := 201) (by kernel_rfl) ZC (shrO ox0) x0)) ?_
 exact zk (ZaN x0 (x0.length : Int) 0 zU ox0)
theorem Zix x0 zU {r} (h : Z7v x0 zU = some r) : Z7D x0 zU = some r :=
 Z1f (fun _ _ ha hb => ru_ (Zce _) (ha .ex) (hb .ex)) (fun ox0 => ZhM x0 zU ox0 r h)
def Z6m (x0 : List Zi) (x7 x8 zU : Int) : Option Int :=
 Z59 x0 x7 (IntKind.i64.wrap (x8 + 1)) zU
theorem ZfM (x0 : List Zi) x7 x8 zU ox0 : Sim (Z3s zU) (Z6m x0 x7 x8 zU) (Zz2 1 (ZL ox0 (x0.map ZC)) (.clo 185 [] [(.ptr 0 0)]) (iv x7) (iv x8) [[(iv zU)]]) := by
 unfold Z6m
 refine zf (ZG3 ..)<|ze<|zq ?_
 exact zk (ZaN x0 x7 (IntKind.i64.wrap (x8 + 1)) zU ox0)
def Z56 (x0 : List Zi) (x7 x8 zU : Int) : Option Int :=
 (lget x0 x8).bind fun a1 =>
 (Zd6 a1 zU).bind fun r2 =>
 if r2 = true then
 (some x8)
 else
 (Z6m x0 x7 x8 zU)
theorem ZfL (x0 : List Zi) x7 x8 zU ox0 : Sim (Z3s zU) (Z56 x0 x7 x8 zU) (Zz1 1 (ZL ox0 (x0.map ZC)) (.clo 185 [] [(.ptr 0 0)]) (iv x7) (iv x8) [[(iv zU)]]) := by
 unfold Z56
 refine zf (ZG2 ..)<|ze<|ze<|zi fun a1 ha1 => zp (.cptr (Z1b a1)) (et_ (Z3u (o := (shrO ox0)) (k := .i64) (n := 2) (e := ZC) (cs := Z9O) (fun _ => rfl) (fun _ => rfl) (by decide) ha1))<|zq<|zi fun r2 hr2 => ?_
 obtain ⟨_, er2, _, rfl⟩ := Zqn a1 zU r2 hr2
 refine zv [0] (bv r2) [[(iv zU)]] er2 ?_
 refine za r2 ?_ ?_
 ·refine ze ?_
  exact zr ((iv x8), [[(iv zU)]]) ⟨_, rfl⟩
 ·exact zk (ZfM x0 x7 x8 zU ox0)
def Z8T : Option Int :=
 some (-1)
theorem ZfN zU : Sim (Z3s zU) Z8T (Zz3 1 [[(iv zU)]]) := by
 unfold Z8T
 refine zf (ZG4 ..)<|ze ?_
 exact zr ((iv (-1)), [[(iv zU)]]) ⟨_, rfl⟩
def Z4n (x0 : List Zi) (x7 x8 zU : Int) : Option Int :=
 if (decide (x8 < x7)) = true then
 (Z56 x0 x7 x8 zU)
 else
 Z8T
theorem ZfK (x0 : List Zi) x7 x8 zU ox0 : Sim (Z3s zU) (Z4n x0 x7 x8 zU) (Zp0 1 (ZL ox0 (x0.map ZC)) (.clo 185 [] [(.ptr 0 0)]) (iv x7) (iv x8) [[(iv zU)]]) := by
 unfold Z4n
 refine zf (ZG1 ..)<|ze<|zq ?_
 refine za (decide (x8 < x7)) ?_ ?_
 ·exact zk (ZfL x0 x7 x8 zU ox0)
 ·exact zk (ZfN zU)
theorem Z7O x0 x7 x8 zU {r} (h : Z4n x0 x7 x8 zU = some r) : Z59 x0 x7 x8 zU = some r :=
 Z1f (fun _ _ ha hb => ru_ (Zce _) (ha .ex) (hb .ex)) (fun ox0 => ZfK x0 x7 x8 zU ox0 r h)
def ZcW (x0 : Zi) (zU : Int) : Option Bool :=
 if (decide (x0.Lo ≤ zU)) = true then
 (some (decide (zU ≤ x0.Hi)))
 else
 (some false)
theorem Zpe x0 zU : Sim (Z9j zU) (ZcW x0 zU) (EE 185 [(pA_ (Z1b x0)), (.ptr 0 0)] [[(iv zU)]]) := by
 unfold ZcW
 refine zf (ZMH ..)<|ze<|zx (.ptr 1 0) [[(iv zU)], (Z3e x0)]<|ze<|zq<|zq<|zq<|zq ?_
 refine za (decide (x0.Lo ≤ zU)) ?_ ?_
 ·refine zq<|zq<|zq<|zq ?_
  exact zr ((bv (decide (zU ≤ x0.Hi))), [[(iv zU)], (Z3e x0)]) ⟨_, rfl⟩
 ·exact zr ((bv false), [[(iv zU)], (Z3e x0)]) ⟨_, rfl⟩
theorem Zqm x0 zU {r} (h : ZcW x0 zU = some r) : Zd6 x0 zU = some r :=
 Z1f (fun _ _ ha hb => ru_ (ZjB _) ha hb) (Zpe x0 zU r h)
def Z8W (x1 : Int) (zl : List Int) (zn z7 zd : Int) (zh : List Zz) (z2 z6 : Int) : Option (Zj × Int × Int × Int) :=
 (Z2n (ByteArray.mk #[94]) zl zn).bind fun r1 =>
 Z5b x1 r1.1 0 zl r1.2 z7 zd zh z2 z6 ([] : List Zi)
theorem ZmP x1 zl zn z7 zd zh z2 z6 zu zb (zy : ZV zb = true) : Sim (Z2m zl z7 zd zh zu zb) (Z8W x1 zl zn z7 zd zh z2 z6) (EE 131 [(.ptr 0 0), (iv x1)] [(ZX zl zn z7 zd zh z2 z6 zu zb)]) := by
 unfold Z8W
 refine zf (ZLV ..)<|ze<|zz (.ptr 1 0) [(ZX zl zn z7 zd zh z2 z6 zu zb), (Zv Z2j .nl .nl)]<|ze<|zi fun r1 hr1 => ?_
 obtain ⟨_, er1, _, rfl⟩ := Z2y (ByteArray.mk #[94]) zl zn z7 zd zh z2 z6 zu zb zy r1 hr1
 refine zc [0] (bv r1.1) [(ZX zl r1.2 z7 zd zh z2 z6 zu zb), (Zv Z2j .nl .nl)] er1<|ze<|zz (.ptr 2 0) [(ZX zl r1.2 z7 zd zh z2 z6 zu zb), (Zv Z2j .nl .nl), [(ZL .nl [])]]<|ze<|ze ?_
 exact zk (Zed x1 r1.1 0 zl r1.2 z7 zd zh z2 z6 Z2j ([] : List Zi) zu zb .nl .nl .nl zy rfl rfl)
theorem Znu x1 zl zn z7 zd zh z2 z6 {r} (h : Z8W x1 zl zn z7 zd zh z2 z6 = some r) : Zb1 x1 zl zn z7 zd zh z2 z6 = some r :=
 Z1f (fun _ _ ha hb => ru_ (ZcD _ _ _ _ _ _) (ha .ex .ex rfl) (hb .ex .ex rfl)) (fun zu zb zy => ZmP x1 zl zn z7 zd zh z2 z6 zu zb zy r h)
def Z2A (x1 : Int) (x5 : Bool) (x8 : Int) (zl : List Int) (zn z7 zd : Int) (zh : List Zz) (z2 z6 : Int) (z16 : List Zi) : Option (Zj × Int × Int × Int) :=
 Z5b x1 x5 (IntKind.i64.wrap (x8 + 1)) zl zn z7 zd zh z2 z6 z16
theorem Z3z x1 x5 x8 zl zn z7 zd zh z2 z6 b1 (z16 : List Zi) zu zb zP zI z2D (zy : ZV zb = true) (z1w : ZV zP = true) (z1k : ZV zI = true) : Sim (Z2m zl z7 zd zh zu zb) (Z2A x1 x5 x8 zl zn z7 zd zh z2 z6 z16) (Zdi 1 (.ptr 0 0) (iv x1) (.ptr 1 0) (bv x5) (.ptr 2 0) (.clo 151 [] [(.ptr 2 0)]) (iv x8) [(ZX zl zn z7 zd zh z2 z6 zu zb), (Zv b1 zP zI), [(ZL z2D (z16.map ZC))]]) := by
 unfold Z2A
 refine zf (ZFm ..)<|ze<|zq ?_
 exact zk (Zed x1 x5 (IntKind.i64.wrap (x8 + 1)) zl zn z7 zd zh z2 z6 b1 z16 zu zb zP zI z2D zy z1w z1k)
def Z7g (zn z2 z6 : Int) (z16 : List Zi) : Option (Zj × Int × Int × Int) :=
 some ((Zj.mk 1 0 0 0 0 z16 ([] : List Zj)), zn, z2, z6)
theorem Zdn zl zn z7 zd zh z2 z6 b1 (z16 : List Zi) zu zb zP zI z2D (zy : ZV zb = true) (z1w : ZV zP = true) (z1k : ZV zI = true) : Sim (Z2m zl z7 zd zh zu zb) (Z7g zn z2 z6 z16) (Zqd 1 (.ptr 1 0) (.ptr 2 0) [(ZX zl zn z7 zd zh z2 z6 zu zb), (Zv b1 zP zI), [(ZL z2D (z16.map ZC))]]) := by
 unfold Z7g
 refine zf (ZDs ..)<|ze<|zq<|zq<|zt [(ZX zl zn z7 zd zh z2 z6 zu zb), (Z3A 1 0 0 0 0 z16 ([] : List Zj) (shrO (shrO z2D)) .nl), [(ZL z2D (z16.map ZC))]] ?_
 exact zr ((pA_ (ZQ (Zj.mk 1 0 0 0 0 z16 ([] : List Zj)) .sh .sh)), [(ZX zl zn z7 zd zh z2 z6 zu zb), (Z3A 1 0 0 0 0 z16 ([] : List Zj) (shrO (shrO z2D)) .nl), [(ZL z2D (z16.map ZC))]]) ⟨_, rfl⟩
def Z8X (x5 : Bool) (zl : List Int) (zn z2 z6 : Int) (z16 : List Zi) : Option (Zj × Int × Int × Int) :=
 (Z4b zl zn).bind fun r1 =>
 if x5 = true then
 ((Zcv z16).bind fun r2 =>
 Z7g r1.2 z2 z6 r2.1)
 else
 (Z7g r1.2 z2 z6 z16)
theorem Zk0 x5 zl zn z7 zd zh z2 z6 b1 (z16 : List Zi) zu zb zP zI z2D (zy : ZV zb = true) (z1w : ZV zP = true) (z1k : ZV zI = true) : Sim (Z2m zl z7 zd zh zu zb) (Z8X x5 zl zn z2 z6 z16) (Zv2 1 (.ptr 0 0) (.ptr 1 0) (bv x5) (.ptr 2 0) [(ZX zl zn z7 zd zh z2 z6 zu zb), (Zv b1 zP zI), [(ZL z2D (z16.map ZC))]]) := by
 unfold Z8X
 refine zf (ZDr ..)<|ze<|zi fun r1 hr1 => ?_
 obtain ⟨_, er1, _, rfl⟩ := Z4J zl zn z7 zd zh z2 z6 zu zb zy r1 hr1
 refine zc [0] (iv r1.1) [(ZX zl r1.2 z7 zd zh z2 z6 zu zb), (Zv b1 zP zI), [(ZL z2D (z16.map ZC))]] er1<|ze ?_
 refine za x5 ?_ ?_
 ·refine ze<|zq<|zi fun r2 hr2 => ?_
  obtain ⟨_, er2, _, rfl⟩ := ZkT z16 .sh r2 hr2
  refine zc [] (.p (.tup [(.lst .sh (r2.1.map ZC)), (.v (.int .i64 r2.2))])) [(ZX zl r1.2 z7 zd zh z2 z6 zu zb), (Zv b1 zP zI), [(ZL z2D (z16.map ZC))]] er2<|zq<|zq<|zt [(ZX zl r1.2 z7 zd zh z2 z6 zu zb), (Zv b1 zP zI), [(ZL .sh (r2.1.map ZC))]] ?_
  exact zk (Zdn zl r1.2 z7 zd zh z2 z6 b1 r2.1 zu zb zP zI .sh zy z1w z1k)
 ·exact zk (Zdn zl r1.2 z7 zd zh z2 z6 b1 z16 zu zb zP zI z2D zy z1w z1k)
def Z4X (x1 : Int) (x5 : Bool) (x8 x9 : Int) (zl : List Int) (z7 zd : Int) (zh : List Zz) (z2 z6 : Int) (z16 : List Zi) : Option (Zj × Int × Int × Int) :=
 (Z1D 22 x9 zl z2 z6).bind fun r1 =>
 Z2A x1 x5 x8 zl r1.1 z7 zd zh r1.2.1 r1.2.2 z16
theorem Z7A x1 x5 x8 x9 zl zn z7 zd zh z2 z6 b1 (z16 : List Zi) zu zb zP zI z2D (zy : ZV zb = true) (z1w : ZV zP = true) (z1k : ZV zI = true) : Sim (Z2m zl z7 zd zh zu zb) (Z4X x1 x5 x8 x9 zl z7 zd zh z2 z6 z16) (ZjV 1 (.ptr 0 0) (iv x1) (.ptr 1 0) (bv x5) (.ptr 2 0) (.clo 151 [] [(.ptr 2 0)]) (iv x8) (iv x9) [(ZX zl zn z7 zd zh z2 z6 zu zb), (Zv b1 zP zI), [(ZL z2D (z16.map ZC))]]) := by
 unfold Z4X
 refine zf (ZDv ..)<|ze<|zi fun r1 hr1 => ?_
 obtain ⟨_, er1, _, rfl⟩ := Z1J 22 x9 zl zn z7 zd zh z2 z6 zu zb zy r1 hr1
 refine zc [0] (.p (.tup [])) [(ZX zl r1.1 z7 zd zh r1.2.1 r1.2.2 zu zb), (Zv b1 zP zI), [(ZL z2D (z16.map ZC))]] er1 ?_
 exact zk (Z3z x1 x5 x8 zl r1.1 z7 zd zh r1.2.1 r1.2.2 b1 z16 zu zb zP zI z2D zy z1w z1k)
def Z3j (x1 : Int) (x5 : Bool) (x8 x11 x15 : Int) (zl : List Int) (zn z7 zd : Int) (zh : List Zz) (z2 z6 : Int) (z16 : List Zi) : Option (Zj × Int × Int × Int) :=
 if (z2 == 0) = true then
 ((Z85 ([(Zi.mk x11 x15)] : List Zi) z16).bind fun r1 =>
 Z2A x1 x5 x8 zl zn z7 zd zh z2 z6 r1)
 else
 (Z2A x1 x5 x8 zl zn z7 zd zh z2 z6 z16)
theorem Z7B x1 x5 x8 x11 x15 zl zn z7 zd zh z2 z6 b1 (z16 : List Zi) zu zb zP zI z2D (zy : ZV zb = true) (z1w : ZV zP = true) (z1k : ZV zI = true) : Sim (Z2m zl z7 zd zh zu zb) (Z3j x1 x5 x8 x11 x15 zl zn z7 zd zh z2 z6 z16) (ZjW 1 (.ptr 0 0) (iv x1) (.ptr 1 0) (bv x5) (.ptr 2 0) (.clo 151 [] [(.ptr 2 0)]) (iv x8) (iv x11) (iv x15) [(ZX zl zn z7 zd zh z2 z6 zu zb), (Zv b1 zP zI), [(ZL z2D (z16.map ZC))]]) := by
 unfold Z3j
 refine zf (ZDy ..)<|ze<|zq<|zq<|zq<|zq<|zq ?_
 refine za (z2 == 0) ?_ ?_
 ·refine ze<|zq<|zq<|zi fun r1 hr1 => ?_
  obtain ⟨_, er1, zc9, _, rfl⟩ := ZeG ([(Zi.mk x11 x15)] : List Zi) z16 .sh z2D r1 hr1
  refine zv [2] (.p (.tup [])) [(ZX zl zn z7 zd zh z2 z6 zu zb), (Zv b1 zP zI), [(ZL zc9 (r1.map ZC))]] er1 ?_
  exact zk (Z3z x1 x5 x8 zl zn z7 zd zh z2 z6 b1 r1 zu zb zP zI zc9 zy z1w z1k)
 ·exact zk (Z3z x1 x5 x8 zl zn z7 zd zh z2 z6 b1 z16 zu zb zP zI z2D zy z1w z1k)
def Z5T (x1 : Int) (x5 : Bool) (x8 x9 x11 x15 : Int) (zl : List Int) (z7 zd : Int) (zh : List Zz) (z2 z6 : Int) (z16 : List Zi) : Option (Zj × Int × Int × Int) :=
 (Z1D 22 x9 zl z2 z6).bind fun r1 =>
 Z3j x1 x5 x8 x11 x15 zl r1.1 z7 zd zh r1.2.1 r1.2.2 z16
theorem Zdp x1 x5 x8 x9 x11 x15 zl zn z7 zd zh z2 z6 b1 (z16 : List Zi) zu zb zP zI z2D (zy : ZV zb = true) (z1w : ZV zP = true) (z1k : ZV zI = true) : Sim (Z2m zl z7 zd zh zu zb) (Z5T x1 x5 x8 x9 x11 x15 zl z7 zd zh z2 z6 z16) (Zqf 1 (.ptr 0 0) (iv x1) (.ptr 1 0) (bv x5) (.ptr 2 0) (.clo 151 [] [(.ptr 2 0)]) (iv x8) (iv x9) (iv x11) (iv x15) [(ZX zl zn z7 zd zh z2 z6 zu zb), (Zv b1 zP zI), [(ZL z2D (z16.map ZC))]]) := by
 unfold Z5T
 refine zf (ZDx ..)<|ze<|zi fun r1 hr1 => ?_
 obtain ⟨_, er1, _, rfl⟩ := Z1J 22 x9 zl zn z7 zd zh z2 z6 zu zb zy r1 hr1
 refine zc [0] (.p (.tup [])) [(ZX zl r1.1 z7 zd zh r1.2.1 r1.2.2 zu zb), (Zv b1 zP zI), [(ZL z2D (z16.map ZC))]] er1 ?_
 exact zk (Z7B x1 x5 x8 x11 x15 zl r1.1 z7 zd zh r1.2.1 r1.2.2 b1 z16 zu zb zP zI z2D zy z1w z1k)
def Z8Y (x1 : Int) (x5 : Bool) (x8 x9 x11 : Int) (zl : List Int) (zn z7 zd : Int) (zh : List Zz) (z2 z6 : Int) (z16 : List Zi) : Option (Zj × Int × Int × Int) :=
 (Z71 zl zn z7 zd zh z2 z6).bind fun r1 =>
 if (r1.2.2.2.2.1 == 0) = true then
 ((nilO (shrO (shrO (shrO (shrO r1.2.1.1)))) r1.2.1.2).bind fun a2 =>
 if (!a2) = true then
 (Z5T x1 x5 x8 x9 x11 r1.1 zl z7 zd zh r1.2.2.2.2.1 r1.2.2.2.2.2 z16)
 else
 (if (decide (r1.1 < x11)) = true then
 (Z5T x1 x5 x8 x9 x11 r1.1 zl z7 zd zh r1.2.2.2.2.1 r1.2.2.2.2.2 z16)
 else
 (Z3j x1 x5 x8 x11 r1.1 zl r1.2.2.2.1 z7 zd zh r1.2.2.2.2.1 r1.2.2.2.2.2 z16)))
 else
 (Z3j x1 x5 x8 x11 r1.1 zl r1.2.2.2.1 z7 zd zh r1.2.2.2.2.1 r1.2.2.2.2.2 z16)
theorem Zk2 x1 x5 x8 x9 x11 zl zn z7 zd zh z2 z6 b1 (z16 : List Zi) zu zb zP zI z2D (zy : ZV zb = true) (z1w : ZV zP = true) (z1k : ZV zI = true) : Sim (Z2m zl z7 zd zh zu zb) (Z8Y x1 x5 x8 x9 x11 zl zn z7 zd zh z2 z6 z16) (Zv4 1 (.ptr 0 0) (iv x1) (.ptr 1 0) (bv x5) (.ptr 2 0) (.clo 151 [] [(.ptr 2 0)]) (iv x8) (iv x9) (iv x11) [(ZX zl zn z7 zd zh z2 z6 zu zb), (Zv b1 zP zI), [(ZL z2D (z16.map ZC))]]) := by
 unfold Z8Y
 refine zf (ZDw ..)<|ze<|zi fun r1 hr1 => ?_
 obtain ⟨_, er1, _, rfl⟩ := Zf0 zl zn z7 zd zh z2 z6 zu zb zy r1 hr1
 refine zc [0] (.p (.tup [(.v (.int .i64 r1.1)), (.lst r1.2.1.1 (r1.2.1.2.map ZC)), (.v (.bool r1.2.2.1))])) [(ZX zl r1.2.2.2.1 z7 zd zh r1.2.2.2.2.1 r1.2.2.2.2.2 zu zb), (Zv b1 zP zI), [(ZL z2D (z16.map ZC))]] er1<|zq<|zq<|zq<|ze<|zq<|zq<|zq<|zq<|zq ?_
 refine za (r1.2.2.2.2.1 == 0) ?_ ?_
 ·refine zi fun a2 ha2 => zp (bv (!a2)) (et_ (ZrC (P := PP) (t := 94) (c := .slice none 0 0) (e := ZC) (by kernel_rfl) ha2)) ?_
  refine za (!a2) ?_ ?_
  ·exact zk (Zdp x1 x5 x8 x9 x11 r1.1 zl r1.2.2.2.1 z7 zd zh r1.2.2.2.2.1 r1.2.2.2.2.2 b1 z16 zu zb zP zI z2D zy z1w z1k)
  ·refine zq ?_
   refine za (decide (r1.1 < x11)) ?_ ?_
   ·exact zk (Zdp x1 x5 x8 x9 x11 r1.1 zl r1.2.2.2.1 z7 zd zh r1.2.2.2.2.1 r1.2.2.2.2.2 b1 z16 zu zb zP zI z2D zy z1w z1k)
   ·exact zk (Z7B x1 x5 x8 x11 r1.1 zl r1.2.2.2.1 z7 zd zh r1.2.2.2.2.1 r1.2.2.2.2.2 b1 z16 zu zb zP zI z2D zy z1w z1k)
 ·exact zk (Z7B x1 x5 x8 x11 r1.1 zl r1.2.2.2.1 z7 zd zh r1.2.2.2.2.1 r1.2.2.2.2.2 b1 z16 zu zb zP zI z2D zy z1w z1k)
def Z7i (x1 : Int) (x5 : Bool) (x8 x9 x11 : Int) (zl : List Int) (zn z7 zd : Int) (zh : List Zz) (z2 z6 : Int) (z16 : List Zi) : Option (Zj × Int × Int × Int) :=
 (Z2n (ByteArray.mk #[45]) zl zn).bind fun r1 =>
 if r1.1 = true then
 ((Z3q (Z2f.mk zl r1.2 z7 zd zh (Z1q.mk z2 z6))).bind fun r2 =>
 if (r2 == 93) = true then
 (Z4X x1 x5 x8 x9 zl z7 zd zh z2 z6 z16)
 else
 (if (r2 == 91) = true then
 (Z4X x1 x5 x8 x9 zl z7 zd zh z2 z6 z16)
 else
 (if (r2 == 45) = true then
 (Z4X x1 x5 x8 x9 zl z7 zd zh z2 z6 z16)
 else
 (if (decide (r2 < 0)) = true then
 (Z4X x1 x5 x8 x9 zl z7 zd zh z2 z6 z16)
 else
 (Z8Y x1 x5 x8 x9 x11 zl r1.2 z7 zd zh z2 z6 z16)))))
 else
 (Z3j x1 x5 x8 x11 x11 zl r1.2 z7 zd zh z2 z6 z16)
theorem Zk1 x1 x5 x8 x9 x11 zl zn z7 zd zh z2 z6 b1 (z16 : List Zi) zu zb zP zI z2D (zy : ZV zb = true) (z1w : ZV zP = true) (z1k : ZV zI = true) : Sim (Z2m zl z7 zd zh zu zb) (Z7i x1 x5 x8 x9 x11 zl zn z7 zd zh z2 z6 z16) (Zv3 1 (.ptr 0 0) (iv x1) (.ptr 1 0) (bv x5) (.ptr 2 0) (.clo 151 [] [(.ptr 2 0)]) (iv x8) (iv x9) (iv x11) [(ZX zl zn z7 zd zh z2 z6 zu zb), (Zv b1 zP zI), [(ZL z2D (z16.map ZC))]]) := by
 unfold Z7i
 refine zf (ZDu ..)<|ze<|ze<|zi fun r1 hr1 => ?_
 obtain ⟨_, er1, _, rfl⟩ := Z2y (ByteArray.mk #[45]) zl zn z7 zd zh z2 z6 zu zb zy r1 hr1
 refine zc [0] (bv r1.1) [(ZX zl r1.2 z7 zd zh z2 z6 zu zb), (Zv b1 zP zI), [(ZL z2D (z16.map ZC))]] er1 ?_
 refine za r1.1 ?_ ?_
 ·refine ze<|zi fun r2 hr2 => ?_
  obtain ⟨_, er2, _, rfl⟩ := Z3D (Z2f.mk zl r1.2 z7 zd zh (Z1q.mk z2 z6)) zu zb zy r2 hr2
  refine zc [0] (iv r2) [(ZX zl r1.2 z7 zd zh z2 z6 zu zb), (Zv b1 zP zI), [(ZL z2D (z16.map ZC))]] er2<|ze<|zq ?_
  refine za (r2 == 93) ?_ ?_
  ·exact zk (Z7A x1 x5 x8 x9 zl r1.2 z7 zd zh z2 z6 b1 z16 zu zb zP zI z2D zy z1w z1k)
  ·refine zq ?_
   refine za (r2 == 91) ?_ ?_
   ·exact zk (Z7A x1 x5 x8 x9 zl r1.2 z7 zd zh z2 z6 b1 z16 zu zb zP zI z2D zy z1w z1k)
   ·refine zq ?_
    refine za (r2 == 45) ?_ ?_
    ·exact zk (Z7A x1 x5 x8 x9 zl r1.2 z7 zd zh z2 z6 b1 z16 zu zb zP zI z2D zy z1w z1k)
    ·refine zq ?_
     refine za (decide (r2 < 0)) ?_ ?_
     ·exact zk (Z7A x1 x5 x8 x9 zl r1.2 z7 zd zh z2 z6 b1 z16 zu zb zP zI z2D zy z1w z1k)
     ·exact zk (Zk2 x1 x5 x8 x9 x11 zl r1.2 z7 zd zh z2 z6 b1 z16 zu zb zP zI z2D zy z1w z1k)
 ·exact zk (Z7B x1 x5 x8 x11 x11 zl r1.2 z7 zd zh z2 z6 b1 z16 zu zb zP zI z2D zy z1w z1k)
def Z7h (x1 : Int) (x5 : Bool) (x8 x9 : Int) (zl : List Int) (zn z7 zd : Int) (zh : List Zz) (z2 z6 : Int) (z16 : List Zi) : Option (Zj × Int × Int × Int) :=
 (Z71 zl zn z7 zd zh z2 z6).bind fun r1 =>
 (nilO (shrO (shrO (shrO (shrO r1.2.1.1)))) r1.2.1.2).bind fun a2 =>
 if (!a2) = true then
 ((Z54 r1.2.2.1 r1.2.1.2).bind fun r3 =>
 (Z85 r3.Set z16).bind fun r4 =>
 (Z3q (Z2f.mk zl r1.2.2.2.1 z7 zd zh (Z1q.mk r1.2.2.2.2.1 r1.2.2.2.2.2))).bind fun r5 =>
 if (r5 == 45) = true then
 ((Z1D 22 r1.2.2.2.1 zl r1.2.2.2.2.1 r1.2.2.2.2.2).bind fun r6 =>
 Z2A x1 x5 x8 zl r6.1 z7 zd zh r6.2.1 r6.2.2 r4)
 else
 (Z2A x1 x5 x8 zl r1.2.2.2.1 z7 zd zh r1.2.2.2.2.1 r1.2.2.2.2.2 r4))
 else
 (Z7i x1 x5 x8 x9 r1.1 zl r1.2.2.2.1 z7 zd zh r1.2.2.2.2.1 r1.2.2.2.2.2 z16)
theorem Zdo x1 x5 x8 x9 zl zn z7 zd zh z2 z6 b1 (z16 : List Zi) zu zb zP zI z2D (zy : ZV zb = true) (z1w : ZV zP = true) (z1k : ZV zI = true) : Sim (Z2m zl z7 zd zh zu zb) (Z7h x1 x5 x8 x9 zl zn z7 zd zh z2 z6 z16) (Zqe 1 (.ptr 0 0) (iv x1) (.ptr 1 0) (bv x5) (.ptr 2 0) (.clo 151 [] [(.ptr 2 0)]) (iv x8) (iv x9) [(ZX zl zn z7 zd zh z2 z6 zu zb), (Zv b1 zP zI), [(ZL z2D (z16.map ZC))]]) := by
 unfold Z7h
 refine zf (ZDt ..)<|ze<|zi fun r1 hr1 => ?_
 obtain ⟨_, er1, _, rfl⟩ := Zf0 zl zn z7 zd zh z2 z6 zu zb zy r1 hr1
 refine zc [0] (.p (.tup [(.v (.int .i64 r1.1)), (.lst r1.2.1.1 (r1.2.1.2.map ZC)), (.v (.bool r1.2.2.1))])) [(ZX zl r1.2.2.2.1 z7 zd zh r1.2.2.2.2.1 r1.2.2.2.2.2 zu zb), (Zv b1 zP zI), [(ZL z2D (z16.map ZC))]] er1<|zq<|zq<|zq<|ze<|zi fun a2 ha2 => zp (bv (!a2)) (et_ (ZrC (P := PP) (t := 94) (c := .slice none 0 0) (e := ZC) (by kernel_rfl) ha2)) ?_
 refine za (!a2) ?_ ?_
 ·refine ze<|zi fun r3 hr3 => ?_
  obtain ⟨_, er3, _, rfl⟩ := Z5j r1.2.2.1 r1.2.1.2 .sh r3 hr3
  refine zc [] (pA_ (ZQ r3 .sh .sh)) [(ZX zl r1.2.2.2.1 z7 zd zh r1.2.2.2.2.1 r1.2.2.2.2.2 zu zb), (Zv b1 zP zI), [(ZL z2D (z16.map ZC))]] er3<|zz (.ptr 3 0) [(ZX zl r1.2.2.2.1 z7 zd zh r1.2.2.2.2.1 r1.2.2.2.2.2 zu zb), (Zv b1 zP zI), [(ZL z2D (z16.map ZC))], (Zv Z2j .nl .nl)]<|zt [(ZX zl r1.2.2.2.1 z7 zd zh r1.2.2.2.2.1 r1.2.2.2.2.2 zu zb), (Zv b1 zP zI), [(ZL z2D (z16.map ZC))], (Zv r3 .sh .sh)]<|ze<|zq<|zq<|zi fun r4 hr4 => ?_
  obtain ⟨_, er4, zpR, _, rfl⟩ := ZeG r3.Set z16 .sh z2D r4 hr4
  refine zv [2] (.p (.tup [])) [(ZX zl r1.2.2.2.1 z7 zd zh r1.2.2.2.2.1 r1.2.2.2.2.2 zu zb), (Zv b1 zP zI), [(ZL zpR (r4.map ZC))], (Zv r3 .sh .sh)] er4<|ze<|zi fun r5 hr5 => ?_
  obtain ⟨_, er5, _, rfl⟩ := Z3D (Z2f.mk zl r1.2.2.2.1 z7 zd zh (Z1q.mk r1.2.2.2.2.1 r1.2.2.2.2.2)) zu zb zy r5 hr5
  refine zc [0] (iv r5) [(ZX zl r1.2.2.2.1 z7 zd zh r1.2.2.2.2.1 r1.2.2.2.2.2 zu zb), (Zv b1 zP zI), [(ZL zpR (r4.map ZC))], (Zv r3 .sh .sh)] er5<|zq ?_
  refine za (r5 == 45) ?_ ?_
  ·refine ze<|zq<|zq<|zq<|zi fun r6 hr6 => ?_
   obtain ⟨_, er6, _, rfl⟩ := Z1J 22 r1.2.2.2.1 zl r1.2.2.2.1 z7 zd zh r1.2.2.2.2.1 r1.2.2.2.2.2 zu zb zy r6 hr6
   refine zc [0] (.p (.tup [])) [(ZX zl r6.1 z7 zd zh r6.2.1 r6.2.2 zu zb), (Zv b1 zP zI), [(ZL zpR (r4.map ZC))], (Zv r3 .sh .sh)] er6 ?_
   exact zk (Z3z x1 x5 x8 zl r6.1 z7 zd zh r6.2.1 r6.2.2 b1 r4 zu zb zP zI zpR zy z1w z1k)
  ·exact zk (Z3z x1 x5 x8 zl r1.2.2.2.1 z7 zd zh r1.2.2.2.2.1 r1.2.2.2.2.2 b1 r4 zu zb zP zI zpR zy z1w z1k)
 ·exact zk (Zk1 x1 x5 x8 x9 r1.1 zl r1.2.2.2.1 z7 zd zh r1.2.2.2.2.1 r1.2.2.2.2.2 b1 z16 zu zb zP zI z2D zy z1w z1k)
def Z62 (x1 : Int) (x5 : Bool) (x8 : Int) (zl : List Int) (zn z7 zd : Int) (zh : List Zz) (z2 z6 : Int) (z16 : List Zi) : Option (Zj × Int × Int × Int) :=
 (Z3q (Z2f.mk zl zn z7 zd zh (Z1q.mk z2 z6))).bind fun r1 =>
 if (r1 == (-1)) = true then
 ((Z1D 22 x1 zl z2 z6).bind fun r2 =>
 Z2A x1 x5 x8 zl r2.1 z7 zd zh r2.2.1 r2.2.2 z16)
 else
 (if (r1 == 93) = true then
 (if (x8 == 0) = true then
 ((Z1D 22 x1 zl z2 z6).bind fun r3 =>
 Z2A x1 x5 x8 zl r3.1 z7 zd zh r3.2.1 r3.2.2 z16)
 else
 (Z8X x5 zl zn z2 z6 z16))
 else
 (if (r1 == 91) = true then
 (if (r1 == 91) = true then
 ((Z1D 22 zn zl z2 z6).bind fun r4 =>
 Z2A x1 x5 x8 zl r4.1 z7 zd zh r4.2.1 r4.2.2 z16)
 else
 (Z7h x1 x5 x8 zn zl zn z7 zd zh z2 z6 z16))
 else
 (if (r1 == 45) = true then
 ((Z1D 22 zn zl z2 z6).bind fun r5 =>
 Z2A x1 x5 x8 zl r5.1 z7 zd zh r5.2.1 r5.2.2 z16)
 else
 (Z7h x1 x5 x8 zn zl zn z7 zd zh z2 z6 z16))))
theorem ZkY x1 x5 x8 zl zn z7 zd zh z2 z6 b1 (z16 : List Zi) zu zb zP zI z2D (zy : ZV zb = true) (z1w : ZV zP = true) (z1k : ZV zI = true) : Sim (Z2m zl z7 zd zh zu zb) (Z62 x1 x5 x8 zl zn z7 zd zh z2 z6 z16) (Zy7 1 (.ptr 0 0) (iv x1) (.ptr 1 0) (bv x5) (.ptr 2 0) (.clo 151 [] [(.ptr 2 0)]) (iv x8) [(ZX zl zn z7 zd zh z2 z6 zu zb), (Zv b1 zP zI), [(ZL z2D (z16.map ZC))]]) := by
 unfold Z62
 refine zf (ZFn ..)<|ze<|zq<|zq<|zq<|ze<|zi fun r1 hr1 => ?_
 obtain ⟨_, er1, _, rfl⟩ := Z3D (Z2f.mk zl zn z7 zd zh (Z1q.mk z2 z6)) zu zb zy r1 hr1
 refine zc [0] (iv r1) [(ZX zl zn z7 zd zh z2 z6 zu zb), (Zv b1 zP zI), [(ZL z2D (z16.map ZC))]] er1<|ze<|ze<|zq ?_
 refine za (r1 == (-1)) ?_ ?_
 ·refine ze<|zi fun r2 hr2 => ?_
  obtain ⟨_, er2, _, rfl⟩ := Z1J 22 x1 zl zn z7 zd zh z2 z6 zu zb zy r2 hr2
  refine zc [0] (.p (.tup [])) [(ZX zl r2.1 z7 zd zh r2.2.1 r2.2.2 zu zb), (Zv b1 zP zI), [(ZL z2D (z16.map ZC))]] er2 ?_
  exact zk (Z3z x1 x5 x8 zl r2.1 z7 zd zh r2.2.1 r2.2.2 b1 z16 zu zb zP zI z2D zy z1w z1k)
 ·refine ze<|zq ?_
  refine za (r1 == 93) ?_ ?_
  ·refine ze<|zq ?_
   refine za (x8 == 0) ?_ ?_
   ·refine ze<|zi fun r3 hr3 => ?_
    obtain ⟨_, er3, _, rfl⟩ := Z1J 22 x1 zl zn z7 zd zh z2 z6 zu zb zy r3 hr3
    refine zc [0] (.p (.tup [])) [(ZX zl r3.1 z7 zd zh r3.2.1 r3.2.2 zu zb), (Zv b1 zP zI), [(ZL z2D (z16.map ZC))]] er3 ?_
    exact zk (Z3z x1 x5 x8 zl r3.1 z7 zd zh r3.2.1 r3.2.2 b1 z16 zu zb zP zI z2D zy z1w z1k)
   ·exact zk (Zk0 x5 zl zn z7 zd zh z2 z6 b1 z16 zu zb zP zI z2D zy z1w z1k)
  ·refine ze<|zq ?_
   refine za (r1 == 91) ?_ ?_
   ·refine za (r1 == 91) ?_ ?_
    ·refine ze<|zi fun r4 hr4 => ?_
     obtain ⟨_, er4, _, rfl⟩ := Z1J 22 zn zl zn z7 zd zh z2 z6 zu zb zy r4 hr4
     refine zc [0] (.p (.tup [])) [(ZX zl r4.1 z7 zd zh r4.2.1 r4.2.2 zu zb), (Zv b1 zP zI), [(ZL z2D (z16.map ZC))]] er4 ?_
     exact zk (Z3z x1 x5 x8 zl r4.1 z7 zd zh r4.2.1 r4.2.2 b1 z16 zu zb zP zI z2D zy z1w z1k)
    ·exact zk (Zdo x1 x5 x8 zn zl zn z7 zd zh z2 z6 b1 z16 zu zb zP zI z2D zy z1w z1k)
   ·refine ze<|zq ?_
    refine za (r1 == 45) ?_ ?_
    ·refine ze<|zi fun r5 hr5 => ?_
     obtain ⟨_, er5, _, rfl⟩ := Z1J 22 zn zl zn z7 zd zh z2 z6 zu zb zy r5 hr5
     refine zc [0] (.p (.tup [])) [(ZX zl r5.1 z7 zd zh r5.2.1 r5.2.2 zu zb), (Zv b1 zP zI), [(ZL z2D (z16.map ZC))]] er5 ?_
     exact zk (Z3z x1 x5 x8 zl r5.1 z7 zd zh r5.2.1 r5.2.2 b1 z16 zu zb zP zI z2D zy z1w z1k)
    ·exact zk (Zdo x1 x5 x8 zn zl zn z7 zd zh z2 z6 b1 z16 zu zb zP zI z2D zy z1w z1k)
def Zbi (zn z2 z6 : Int) : Option (Zj × Int × Int × Int) :=
 some ((Zj.mk 0 0 0 0 0 ([] : List Zi) ([] : List Zj)), zn, z2, z6)
theorem Zk3 zl zn z7 zd zh z2 z6 b1 zu zb zP zI (zy : ZV zb = true) (z1w : ZV zP = true) (z1k : ZV zI = true) : Sim (Z2m zl z7 zd zh zu zb) (Zbi zn z2 z6) (Zv5 1 (.ptr 1 0) [(ZX zl zn z7 zd zh z2 z6 zu zb), (Zv b1 zP zI)]) := by
 unfold Zbi
 refine zf (ZDz ..)<|ze<|zq<|zt [(ZX zl zn z7 zd zh z2 z6 zu zb), (Zv Z2j .nl .nl)] ?_
 exact zr ((pA_ (ZQ Z2j .sh .sh)), [(ZX zl zn z7 zd zh z2 z6 zu zb), (Zv Z2j .nl .nl)]) ⟨_, rfl⟩
def Z7K (x1 : Int) (x5 : Bool) (x8 : Int) (zl : List Int) (zn z7 zd : Int) (zh : List Zz) (z2 z6 : Int) (z16 : List Zi) : Option (Zj × Int × Int × Int) :=
 if (z2 == 0) = true then
 (Z62 x1 x5 x8 zl zn z7 zd zh z2 z6 z16)
 else
 (Zbi zn z2 z6)
theorem ZkX x1 x5 x8 zl zn z7 zd zh z2 z6 b1 (z16 : List Zi) zu zb zP zI z2D (zy : ZV zb = true) (z1w : ZV zP = true) (z1k : ZV zI = true) : Sim (Z2m zl z7 zd zh zu zb) (Z7K x1 x5 x8 zl zn z7 zd zh z2 z6 z16) (ZoQ 1 (.ptr 0 0) (iv x1) (.ptr 1 0) (bv x5) (.ptr 2 0) (.clo 151 [] [(.ptr 2 0)]) (iv x8) [(ZX zl zn z7 zd zh z2 z6 zu zb), (Zv b1 zP zI), [(ZL z2D (z16.map ZC))]]) := by
 unfold Z7K
 refine zf (ZFl ..)<|ze<|zq<|zq<|zq<|zq<|zq ?_
 refine za (z2 == 0) ?_ ?_
 ·exact zk (ZkY x1 x5 x8 zl zn z7 zd zh z2 z6 b1 z16 zu zb zP zI z2D zy z1w z1k)
 ·exact zk (Zk3 zl zn z7 zd zh z2 z6 b1 zu zb zP zI zy z1w z1k)
theorem Zec x1 x5 x8 zl zn z7 zd zh z2 z6 z16 {r} (h : Z7K x1 x5 x8 zl zn z7 zd zh z2 z6 z16 = some r) : Z5b x1 x5 x8 zl zn z7 zd zh z2 z6 z16 = some r :=
 Z1f (fun _ _ ha hb => ru_ (ZcD _ _ _ _ _ _) (ha default .ex .ex .ex .ex .ex rfl rfl rfl) (hb default .ex .ex .ex .ex .ex rfl rfl rfl)) (fun b1 zu zb zP zI z2D zy z1w z1k => ZkX x1 x5 x8 zl zn z7 zd zh z2 z6 b1 z16 zu zb zP zI z2D zy z1w z1k r h)
def Z6F (x2 x5 : Int) (zl : List Int) (zn z7 zd : Int) (zh : List Zz) (z2 z6 : Int) : Option (Int × (Own × (List Zi)) × Bool × Int × Int × Int) :=
 (Z9e x2 x5 zl zn z7 zd zh z2 z6).bind fun r1 =>
 some (r1.1, (.nl, ([] : List Zi)), false, r1.2.1, r1.2.2.1, r1.2.2.2)
theorem Zjw x2 x5 zl zn z7 zd zh z2 z6 zu zb (zy : ZV zb = true) : Sim (Z5O zl z7 zd zh zu zb) (Z6F x2 x5 zl zn z7 zd zh z2 z6) (Zv9 1 (.ptr 0 0) (iv x2) (iv x5) [(ZX zl zn z7 zd zh z2 z6 zu zb)]) := by
 unfold Z6F
 refine zf (ZDJ ..)<|ze<|zi fun r1 hr1 => ?_
 obtain ⟨_, er1, _, rfl⟩ := Zg3 x2 x5 zl zn z7 zd zh z2 z6 zu zb zy r1 hr1
 refine zc [0] (iv r1.1) [(ZX zl r1.2.1 z7 zd zh r1.2.2.1 r1.2.2.2 zu zb)] er1 ?_
 exact zr ((.p (.tup [(.v (.int .i64 r1.1)), (.lst .nl []), (.v (.bool false))])), [(ZX zl r1.2.1 z7 zd zh r1.2.2.1 r1.2.2.2 zu zb)]) ⟨_, rfl⟩
def Z91 (x2 x5 : Int) (zl : List Int) (zn z7 zd : Int) (zh : List Zz) (z2 z6 : Int) : Option (Int × (Own × (List Zi)) × Bool × Int × Int × Int) :=
 (Z4b zl zn).bind fun r1 =>
 (Z9n x2).bind fun r2 =>
 (nilO (shrO r2.1) r2.2).bind fun a3 =>
 if (!a3) = true then
 (some (0, ((shrO r2.1), r2.2), (decide (x2 < 97)), r1.2, z2, z6))
 else
 (Z6F x2 x5 zl r1.2 z7 zd zh z2 z6)
theorem Zk8 x2 x5 zl zn z7 zd zh z2 z6 zu zb (zy : ZV zb = true) : Sim (Z5O zl z7 zd zh zu zb) (Z91 x2 x5 zl zn z7 zd zh z2 z6) (Zyo 1 (.ptr 0 0) (iv x2) (iv x5) [(ZX zl zn z7 zd zh z2 z6 zu zb)]) := by
 unfold Z91
 refine zf (ZFz ..)<|ze<|zi fun r1 hr1 => ?_
 obtain ⟨_, er1, _, rfl⟩ := Z4J zl zn z7 zd zh z2 z6 zu zb zy r1 hr1
 refine zc [0] (iv r1.1) [(ZX zl r1.2 z7 zd zh z2 z6 zu zb)] er1<|ze<|zi fun r2 hr2 => ?_
 obtain ⟨_, er2, _, rfl⟩ := Ze1 x2 r2 hr2
 refine zc [] (ZL r2.1 (r2.2.map ZC)) [(ZX zl r1.2 z7 zd zh z2 z6 zu zb)] er2<|ze<|zi fun a3 ha3 => zp (bv (!a3)) (et_ (ZrC (P := PP) (t := 94) (c := .slice none 0 0) (e := ZC) (by kernel_rfl) ha3)) ?_
 refine za (!a3) ?_ ?_
 ·refine ze<|zq ?_
  exact zr ((.p (.tup [(.v (.int .i64 0)), (.lst (shrO r2.1) (r2.2.map ZC)), (.v (.bool (decide (x2 < 97))))])), [(ZX zl r1.2 z7 zd zh z2 z6 zu zb)]) ⟨_, rfl⟩
 ·exact zk (Zjw x2 x5 zl r1.2 z7 zd zh z2 z6 zu zb zy)
def Z90 (x5 : Int) (zl : List Int) (zn z7 zd : Int) (zh : List Zz) (z2 z6 : Int) : Option (Int × (Own × (List Zi)) × Bool × Int × Int × Int) :=
 (Z3q (Z2f.mk zl zn z7 zd zh (Z1q.mk z2 z6))).bind fun r1 =>
 if (decide (r1 < 0)) = true then
 ((Z1D 21 x5 zl z2 z6).bind fun r2 =>
 some (0, (.nl, ([] : List Zi)), false, r2.1, r2.2.1, r2.2.2))
 else
 (Z91 r1 x5 zl zn z7 zd zh z2 z6)
theorem Zk7 x5 zl zn z7 zd zh z2 z6 zu zb (zy : ZV zb = true) : Sim (Z5O zl z7 zd zh zu zb) (Z90 x5 zl zn z7 zd zh z2 z6) (Zyn 1 (.ptr 0 0) (iv x5) [(ZX zl zn z7 zd zh z2 z6 zu zb)]) := by
 unfold Z90
 refine zf (ZFy ..)<|ze<|zi fun r1 hr1 => ?_
 obtain ⟨_, er1, _, rfl⟩ := Z3D (Z2f.mk zl zn z7 zd zh (Z1q.mk z2 z6)) zu zb zy r1 hr1
 refine zc [0] (iv r1) [(ZX zl zn z7 zd zh z2 z6 zu zb)] er1<|ze<|zq ?_
 refine za (decide (r1 < 0)) ?_ ?_
 ·refine ze<|zi fun r2 hr2 => ?_
  obtain ⟨_, er2, _, rfl⟩ := Z1J 21 x5 zl zn z7 zd zh z2 z6 zu zb zy r2 hr2
  refine zc [0] (.p (.tup [])) [(ZX zl r2.1 z7 zd zh r2.2.1 r2.2.2 zu zb)] er2<|ze ?_
  exact zr ((.p (.tup [(.v (.int .i64 0)), (.lst .nl []), (.v (.bool false))])), [(ZX zl r2.1 z7 zd zh r2.2.1 r2.2.2 zu zb)]) ⟨_, rfl⟩
 ·exact zk (Zk8 r1 x5 zl zn z7 zd zh z2 z6 zu zb zy)
def Z8z (zl : List Int) (zn z7 zd : Int) (zh : List Zz) (z2 z6 : Int) : Option (Int × (Own × (List Zi)) × Bool × Int × Int × Int) :=
 (Z4b zl zn).bind fun r1 =>
 if (r1.1 != 92) = true then
 (some (r1.1, (.nl, ([] : List Zi)), false, r1.2, z2, z6))
 else
 (Z90 zn zl r1.2 z7 zd zh z2 z6)
theorem Zm6 zl zn z7 zd zh z2 z6 zu zb (zy : ZV zb = true) : Sim (Z5O zl z7 zd zh zu zb) (Z8z zl zn z7 zd zh z2 z6) (EE 153 [(.ptr 0 0)] [(ZX zl zn z7 zd zh z2 z6 zu zb)]) := by
 unfold Z8z
 refine zf (ZMj ..)<|ze<|ze<|zq<|zq<|zq<|ze<|zi fun r1 hr1 => ?_
 obtain ⟨_, er1, _, rfl⟩ := Z4J zl zn z7 zd zh z2 z6 zu zb zy r1 hr1
 refine zc [0] (iv r1.1) [(ZX zl r1.2 z7 zd zh z2 z6 zu zb)] er1<|ze<|zq ?_
 refine za (r1.1 != 92) ?_ ?_
 ·refine ze ?_
  exact zr ((.p (.tup [(.v (.int .i64 r1.1)), (.lst .nl []), (.v (.bool false))])), [(ZX zl r1.2 z7 zd zh z2 z6 zu zb)]) ⟨_, rfl⟩
 ·exact zk (Zk7 zn zl r1.2 z7 zd zh z2 z6 zu zb zy)
theorem ZeZ zl zn z7 zd zh z2 z6 {r} (h : Z8z zl zn z7 zd zh z2 z6 = some r) : Z71 zl zn z7 zd zh z2 z6 = some r :=
 Z1f (fun _ _ ha hb => ru_ (Zni _ _ _ _ _ _) (ha .ex .ex rfl) (hb .ex .ex rfl)) (fun zu zb zy => Zm6 zl zn z7 zd zh z2 z6 zu zb zy r h)
def Za1 (x0 zU : List Zi) : Option (List Zi) :=
 (ZfB zU x0).bind fun r1 =>
 some r1.1
theorem Zlw (x0 zU : List Zi) ox0 z1E : Sim Z9Z (Za1 x0 zU) (EE 151 [(ZL ox0 (x0.map ZC)), (.ptr 0 0)] [[(ZL z1E (zU.map ZC))]]) := by
 unfold Za1
 refine zf (ZMg ..)<|ze<|zq<|zi fun r1 hr1 => ?_
 obtain ⟨_, er1, _, rfl⟩ := Zum zU x0 .sh .sh r1 hr1
 refine zc [] (.p (.tup [(.lst .sh (r1.1.map ZC)), (.v (.int .i64 r1.2))])) [[(ZL z1E (zU.map ZC))]] er1<|zq<|zq<|zt [[(ZL .sh (r1.1.map ZC))]] ?_
 exact zr ((.p (.tup [])), [[(ZL .sh (r1.1.map ZC))]]) ⟨.sh, _, rfl⟩
theorem Zm3 x0 zU {r} (h : Za1 x0 zU = some r) : Z85 x0 zU = some r :=
 Z1f (fun _ _ ha hb => ru_ Zmw (ha .ex .ex) (hb .ex .ex)) (fun ox0 z1E => Zlw x0 zU ox0 z1E r h)
def ZcX : Option ((List Zi) × Int) :=
 some (([] : List Zi), 10)
theorem Zi6 : Sim Z6b ZcX (ZtM 0 []) := by
 unfold ZcX
 refine zf (ZFw ..)<|ze ?_
 exact zr ((.p (.tup [(.lst .sh []), (.v (.int .i64 10))])), []) ⟨_, rfl⟩
def ZcY (x0 x1 : List Zi) : Option ((List Zi) × Int) :=
 (Zds ([x0, x1] : List (List Zi))).bind fun r1 =>
 (ZfC r1).bind fun r2 =>
 some (r2, 0)
theorem Zpg (x0 x1 : List Zi) ox0 ox1 : Sim Z6b (ZcY x0 x1) (Zyk 0 (ZL ox0 (x0.map ZC)) (ZL ox1 (x1.map ZC)) []) := by
 unfold ZcY
 refine zf (ZFx ..)<|ze<|zq<|zi fun r1 hr1 => ?_
 obtain ⟨_, er1, _, rfl⟩ := Zn0 ([x0, x1] : List (List Zi)) .sh r1 hr1
 refine zc [] (ZL .sh (r1.map ZC)) [] er1<|zi fun r2 hr2 => ?_
 obtain ⟨_, er2, _, rfl⟩ := ZlI r1 .sh r2 hr2
 refine zc [] (ZL .sh (r2.map ZC)) [] er2 ?_
 exact zr ((.p (.tup [(.lst .sh (r2.map ZC)), (.v (.int .i64 0))])), []) ⟨_, rfl⟩
def Zfq (x0 x1 : List Zi) : Option ((List Zi) × Int) :=
 (Z8E x0).bind fun r1 =>
 if (!r1) = true then
 ZcX
 else
 ((Z8E x1).bind fun r2 =>
 if (!r2) = true then
 ZcX
 else
 (ZcY x0 x1))
theorem ZsJ (x0 x1 : List Zi) ox0 ox1 : Sim Z6b (Zfq x0 x1) (EE 152 [(ZL ox0 (x0.map ZC)), (ZL ox1 (x1.map ZC))] []) := by
 unfold Zfq
 refine zf (ZMh ..)<|ze<|ze<|zi fun r1 hr1 => ?_
 obtain ⟨_, er1, _, rfl⟩ := Zdj x0 .sh r1 hr1
 refine zc [] (bv r1) [] er1<|zq ?_
 refine za (!r1) ?_ ?_
 ·exact zk Zi6
 ·refine zi fun r2 hr2 => ?_
  obtain ⟨_, er2, _, rfl⟩ := Zdj x1 .sh r2 hr2
  refine zc [] (bv r2) [] er2<|zq ?_
  refine za (!r2) ?_ ?_
  ·exact zk Zi6
  ·exact zk (Zpg x0 x1 ox0 ox1)
theorem Zul x0 x1 {r} (h : Zfq x0 x1 = some r) : ZfB x0 x1 = some r :=
 Z1f (fun _ _ ha hb => ru_ ZjQ (ha .ex .ex) (hb .ex .ex)) (fun ox0 ox1 => ZsJ x0 x1 ox0 ox1 r h)
def Z7j (zn z7 zd : Int) (zh : List Zz) (z2 z6 z2o z3p z3o z2w z2R : Int) (z2S : List Zi) (b2 : Zj) : Option (Zj × Bool × Int × Int × Int × (List Zz) × Int × Int) :=
 some ((Zj.mk z2o z3p z3o z2w z2R z2S ([b2] : List Zj)), (z2o != 7), zn, z7, zd, zh, z2, z6)
theorem Zkc zl zn z7 zd zh z2 z6 z2o z3p z3o z2w z2R z2S z4a b2 zu zb zP zI z3B z3b (zy : ZV zb = true) (z1w : ZV zP = true) (z1k : ZV zI = true) : Sim (Z3F zl zu) (Z7j zn z7 zd zh z2 z6 z2o z3p z3o z2w z2R z2S b2) (Zv7 1 (.ptr 1 0) (.ptr 2 0) [(ZX zl zn z7 zd zh z2 z6 zu zb), (Z3A z2o z3p z3o z2w z2R z2S z4a zP zI), (Zv b2 z3B z3b)]) := by
 unfold Z7j
 refine zf (ZDD ..)<|ze<|zq<|zp (ZL .ex (([b2] : List Zj).map Z15)) (Eq.trans (b := some (ZL .ex [.agg (Z3T b2)])) (by kernel_rfl) (by simp only [Z8V, Zna, Z69]))<|zq<|zt [(ZX zl zn z7 zd zh z2 z6 zu zb), (Z3A z2o z3p z3o z2w z2R z2S ([b2] : List Zj) zP .ex), (Zv b2 z3B z3b)]<|ze<|zq<|zq<|zq<|zq<|zt [(ZX zl zn z7 zd zh z2 z6 zu zb), (Z3A z2o z3p z3o z2w z2R z2S ([b2] : List Zj) (shrO zP) .ex), (Zv b2 z3B z3b)] ?_
 exact zr ((.p (.tup [(.agg (ZQ (Zj.mk z2o z3p z3o z2w z2R z2S ([b2] : List Zj)) .sh .sh)), (.v (.bool (z2o != 7)))])), [(ZX zl zn z7 zd zh z2 z6 zu zb), (Z3A z2o z3p z3o z2w z2R z2S ([b2] : List Zj) (shrO zP) .ex), (Zv b2 z3B z3b)]) ⟨zb, _, zy, rfl⟩
def Z3W (zn z7 zd : Int) (zh : List Zz) (z2 z6 z2o z3p z3o z2w z2R : Int) (z2S : List Zi) (b2 : Zj) : Option (Zj × Bool × Int × Int × Int × (List Zz) × Int × Int) :=
 if (z2o == 0) = true then
 (some (b2, true, zn, z7, (IntKind.i64.wrap (zd - 1)), zh, z2, z6))
 else
 (Z7j zn z7 (IntKind.i64.wrap (zd - 1)) zh z2 z6 z2o z3p z3o z2w z2R z2S b2)
theorem Z9S zl zn z7 zd zh z2 z6 z2o z3p z3o z2w z2R z2S z4a b2 zu zb zP zI z3B z3b (zy : ZV zb = true) (z1w : ZV zP = true) (z1k : ZV zI = true) : Sim (Z3F zl zu) (Z3W zn z7 zd zh z2 z6 z2o z3p z3o z2w z2R z2S b2) (ZmG 1 (.ptr 0 0) (.ptr 1 0) (.ptr 2 0) [(ZX zl zn z7 zd zh z2 z6 zu zb), (Z3A z2o z3p z3o z2w z2R z2S z4a zP zI), (Zv b2 z3B z3b)]) := by
 unfold Z3W
 refine zf (ZDC ..)<|ze<|zq<|zq<|zq<|zq<|zq<|zq<|zt [(ZX zl zn z7 (IntKind.i64.wrap (zd - 1)) zh z2 z6 zu zb), (Z3A z2o z3p z3o z2w z2R z2S z4a zP zI), (Zv b2 z3B z3b)]<|ze<|zq<|zq<|zq ?_
 refine za (z2o == 0) ?_ ?_
 ·refine ze<|zq<|zt [(ZX zl zn z7 (IntKind.i64.wrap (zd - 1)) zh z2 z6 zu zb), (Zv b2 (shrO z3B) (shrO z3b)), (Zv b2 z3B z3b)] ?_
  exact zr ((.p (.tup [(.agg (ZQ b2 .sh .sh)), (.v (.bool true))])), [(ZX zl zn z7 (IntKind.i64.wrap (zd - 1)) zh z2 z6 zu zb), (Zv b2 (shrO z3B) (shrO z3b)), (Zv b2 z3B z3b)]) ⟨zb, _, zy, rfl⟩
 ·exact zk (Zkc zl zn z7 (IntKind.i64.wrap (zd - 1)) zh z2 z6 z2o z3p z3o z2w z2R z2S z4a b2 zu zb zP zI z3B z3b zy z1w z1k)
def Z94 (x1 : Int) (zl : List Int) (z7 zd : Int) (zh : List Zz) (z2 z6 z2o z3p z3o z2w z2R : Int) (z2S : List Zi) (b2 : Zj) : Option (Zj × Bool × Int × Int × Int × (List Zz) × Int × Int) :=
 (Z1D 20 x1 zl z2 z6).bind fun r1 =>
 Z3W r1.1 z7 zd zh r1.2.1 r1.2.2 z2o z3p z3o z2w z2R z2S b2
theorem Zkb x1 zl zn z7 zd zh z2 z6 z2o z3p z3o z2w z2R z2S z4a b2 zu zb zP zI z3B z3b (zy : ZV zb = true) (z1w : ZV zP = true) (z1k : ZV zI = true) : Sim (Z3F zl zu) (Z94 x1 zl z7 zd zh z2 z6 z2o z3p z3o z2w z2R z2S b2) (Zv6 1 (.ptr 0 0) (iv x1) (.ptr 1 0) (.ptr 2 0) [(ZX zl zn z7 zd zh z2 z6 zu zb), (Z3A z2o z3p z3o z2w z2R z2S z4a zP zI), (Zv b2 z3B z3b)]) := by
 unfold Z94
 refine zf (ZDB ..)<|ze<|zi fun r1 hr1 => ?_
 obtain ⟨_, er1, _, rfl⟩ := Z1J 20 x1 zl zn z7 zd zh z2 z6 zu zb zy r1 hr1
 refine zc [0] (.p (.tup [])) [(ZX zl r1.1 z7 zd zh r1.2.1 r1.2.2 zu zb), (Z3A z2o z3p z3o z2w z2R z2S z4a zP zI), (Zv b2 z3B z3b)] er1 ?_
 exact zk (Z9S zl r1.1 z7 zd zh r1.2.1 r1.2.2 z2o z3p z3o z2w z2R z2S z4a b2 zu zb zP zI z3B z3b zy z1w z1k)
def Z36 (x1 : Int) (zl : List Int) (zn z7 zd : Int) (zh : List Zz) (z2 z6 z2o z3p z3o z2w z2R : Int) (z2S : List Zi) : Option (Zj × Bool × Int × Int × Int × (List Zz) × Int × Int) :=
 (Z5q zl zn z7 zd zh z2 z6).bind fun r1 =>
 if (r1.2.2.2.2.2.1 == 0) = true then
 ((Z2n (ByteArray.mk #[41]) zl r1.2.1).bind fun r2 =>
 if (!r2.1) = true then
 (Z94 x1 zl r1.2.2.1 r1.2.2.2.1 r1.2.2.2.2.1 r1.2.2.2.2.2.1 r1.2.2.2.2.2.2 z2o z3p z3o z2w z2R z2S r1.1)
 else
 (Z3W r2.2 r1.2.2.1 r1.2.2.2.1 r1.2.2.2.2.1 r1.2.2.2.2.2.1 r1.2.2.2.2.2.2 z2o z3p z3o z2w z2R z2S r1.1))
 else
 (Z3W r1.2.1 r1.2.2.1 r1.2.2.2.1 r1.2.2.2.2.1 r1.2.2.2.2.2.1 r1.2.2.2.2.2.2 z2o z3p z3o z2w z2R z2S r1.1)
theorem Z4R x1 zl zn z7 zd zh z2 z6 z2o z3p z3o z2w z2R z2S z4a zu zb zP zI (zy : ZV zb = true) (z1w : ZV zP = true) (z1k : ZV zI = true) : Sim (Z3F zl zu) (Z36 x1 zl zn z7 zd zh z2 z6 z2o z3p z3o z2w z2R z2S) (ZeM 1 (.ptr 0 0) (iv x1) (.ptr 1 0) [(ZX zl zn z7 zd zh z2 z6 zu zb), (Z3A z2o z3p z3o z2w z2R z2S z4a zP zI)]) := by
 unfold Z36
 refine zf (ZDA ..)<|ze<|zi fun r1 hr1 => ?_
 obtain ⟨_, er1, z6v, _, zbG, rfl⟩ := Zic zl zn z7 zd zh z2 z6 zu zb zy r1 hr1
 refine zc [0] (pA_ (ZQ r1.1 .sh .sh)) [(ZX zl r1.2.1 r1.2.2.1 r1.2.2.2.1 r1.2.2.2.2.1 r1.2.2.2.2.2.1 r1.2.2.2.2.2.2 zu z6v), (Z3A z2o z3p z3o z2w z2R z2S z4a zP zI)] er1<|zz (.ptr 2 0) [(ZX zl r1.2.1 r1.2.2.1 r1.2.2.2.1 r1.2.2.2.2.1 r1.2.2.2.2.2.1 r1.2.2.2.2.2.2 zu z6v), (Z3A z2o z3p z3o z2w z2R z2S z4a zP zI), (Zv Z2j .nl .nl)]<|zt [(ZX zl r1.2.1 r1.2.2.1 r1.2.2.2.1 r1.2.2.2.2.1 r1.2.2.2.2.2.1 r1.2.2.2.2.2.2 zu z6v), (Z3A z2o z3p z3o z2w z2R z2S z4a zP zI), (Zv r1.1 .sh .sh)]<|ze<|zq<|zq<|zq<|zq<|zq ?_
 refine za (r1.2.2.2.2.2.1 == 0) ?_ ?_
 ·refine zi fun r2 hr2 => ?_
  obtain ⟨_, er2, _, rfl⟩ := Z2y (ByteArray.mk #[41]) zl r1.2.1 r1.2.2.1 r1.2.2.2.1 r1.2.2.2.2.1 r1.2.2.2.2.2.1 r1.2.2.2.2.2.2 zu z6v zbG r2 hr2
  refine zc [0] (bv r2.1) [(ZX zl r2.2 r1.2.2.1 r1.2.2.2.1 r1.2.2.2.2.1 r1.2.2.2.2.2.1 r1.2.2.2.2.2.2 zu z6v), (Z3A z2o z3p z3o z2w z2R z2S z4a zP zI), (Zv r1.1 .sh .sh)] er2<|zq ?_
  refine za (!r2.1) ?_ ?_
  ·exact zk (Zkb x1 zl r2.2 r1.2.2.1 r1.2.2.2.1 r1.2.2.2.2.1 r1.2.2.2.2.2.1 r1.2.2.2.2.2.2 z2o z3p z3o z2w z2R z2S z4a r1.1 zu z6v zP zI .sh .sh zbG z1w z1k)
  ·exact zk (Z9S zl r2.2 r1.2.2.1 r1.2.2.2.1 r1.2.2.2.2.1 r1.2.2.2.2.2.1 r1.2.2.2.2.2.2 z2o z3p z3o z2w z2R z2S z4a r1.1 zu z6v zP zI .sh .sh zbG z1w z1k)
 ·exact zk (Z9S zl r1.2.1 r1.2.2.1 r1.2.2.2.1 r1.2.2.2.2.1 r1.2.2.2.2.2.1 r1.2.2.2.2.2.2 z2o z3p z3o z2w z2R z2S z4a r1.1 zu z6v zP zI .sh .sh zbG z1w z1k)
def Z7L (x1 : Int) (zl : List Int) (zn z7 zd : Int) (zh : List Zz) (z2 z6 z2o z3p z3o z2w z2R : Int) (z2S : List Zi) : Option (Zj × Bool × Int × Int × Int × (List Zz) × Int × Int) :=
 (Zhp).bind fun r1 =>
 (Z7f r1 zl zn).bind fun r2 =>
 if (decide (0 ≤ r2.1)) = true then
 (Z36 x1 zl r2.2 z7 (IntKind.i64.wrap (zd + 1)) zh z2 z6 7 0 0 r2.1 0 ([] : List Zi))
 else
 ((Z2n (ByteArray.mk #[63, 62]) zl r2.2).bind fun r3 =>
 if r3.1 = true then
 (Z36 x1 zl r3.2 z7 (IntKind.i64.wrap (zd + 1)) zh z2 z6 8 0 0 0 0 ([] : List Zi))
 else
 ((Z2n (ByteArray.mk #[63, 58]) zl r3.2).bind fun r4 =>
 if r4.1 = true then
 (Z36 x1 zl r4.2 z7 (IntKind.i64.wrap (zd + 1)) zh z2 z6 z2o z3p z3o z2w z2R z2S)
 else
 ((Z3q (Z2f.mk zl r4.2 z7 (IntKind.i64.wrap (zd + 1)) zh (Z1q.mk z2 z6))).bind fun r5 =>
 if (r5 == 63) = true then
 ((Z1D 20 x1 zl z2 z6).bind fun r6 =>
 Z36 x1 zl r6.1 z7 (IntKind.i64.wrap (zd + 1)) zh r6.2.1 r6.2.2 z2o z3p z3o z2w z2R z2S)
 else
 (if (z7 == 9) = true then
 ((Z1D 24 x1 zl z2 z6).bind fun r7 =>
 Z36 x1 zl r7.1 z7 (IntKind.i64.wrap (zd + 1)) zh r7.2.1 r7.2.2 z2o z3p z3o z2w z2R z2S)
 else
 (Z36 x1 zl r4.2 (IntKind.i64.wrap (z7 + 1)) (IntKind.i64.wrap (zd + 1)) zh z2 z6 5 0 0 0 (IntKind.i64.wrap (z7 + 1)) ([] : List Zi))))))
theorem Zl0 x1 zl zn z7 zd zh z2 z6 z2o z3p z3o z2w z2R z2S z4a zu zb zP zI (zy : ZV zb = true) (z1w : ZV zP = true) (z1k : ZV zI = true) : Sim (Z3F zl zu) (Z7L x1 zl zn z7 zd zh z2 z6 z2o z3p z3o z2w z2R z2S) (Zya 1 (.ptr 0 0) (iv x1) (.ptr 1 0) [(ZX zl zn z7 zd zh z2 z6 zu zb), (Z3A z2o z3p z3o z2w z2R z2S z4a zP zI)]) := by
 unfold Z7L
 refine zf (ZFo ..)<|ze<|zq<|zq<|zq<|zq<|zq<|zq<|zt [(ZX zl zn z7 (IntKind.i64.wrap (zd + 1)) zh z2 z6 zu zb), (Z3A z2o z3p z3o z2w z2R z2S z4a zP zI)]<|ze<|zi fun r1 hr1 => ?_
 obtain ⟨_, er1, _, rfl⟩ := Zvh r1 hr1
 refine zc [] (ZL .sh (r1.map eS)) [(ZX zl zn z7 (IntKind.i64.wrap (zd + 1)) zh z2 z6 zu zb), (Z3A z2o z3p z3o z2w z2R z2S z4a zP zI)] er1<|zi fun r2 hr2 => ?_
 obtain ⟨_, er2, _, rfl⟩ := ZhR r1 zl zn z7 (IntKind.i64.wrap (zd + 1)) zh z2 z6 .sh zu zb zy r2 hr2
 refine zc [0] (iv r2.1) [(ZX zl r2.2 z7 (IntKind.i64.wrap (zd + 1)) zh z2 z6 zu zb), (Z3A z2o z3p z3o z2w z2R z2S z4a zP zI)] er2<|ze<|zq ?_
 refine za (decide (0 ≤ r2.1)) ?_ ?_
 ·refine ze<|zq<|zt [(ZX zl r2.2 z7 (IntKind.i64.wrap (zd + 1)) zh z2 z6 zu zb), (Z3A 7 0 0 r2.1 0 ([] : List Zi) ([] : List Zj) .nl .nl)] ?_
  exact zk (Z4R x1 zl r2.2 z7 (IntKind.i64.wrap (zd + 1)) zh z2 z6 7 0 0 r2.1 0 ([] : List Zi) ([] : List Zj) zu zb .nl .nl zy rfl rfl)
 ·refine ze<|zi fun r3 hr3 => ?_
  obtain ⟨_, er3, _, rfl⟩ := Z2y (ByteArray.mk #[63, 62]) zl r2.2 z7 (IntKind.i64.wrap (zd + 1)) zh z2 z6 zu zb zy r3 hr3
  refine zc [0] (bv r3.1) [(ZX zl r3.2 z7 (IntKind.i64.wrap (zd + 1)) zh z2 z6 zu zb), (Z3A z2o z3p z3o z2w z2R z2S z4a zP zI)] er3 ?_
  refine za r3.1 ?_ ?_
  ·refine ze<|zq<|zt [(ZX zl r3.2 z7 (IntKind.i64.wrap (zd + 1)) zh z2 z6 zu zb), (Z3A 8 0 0 0 0 ([] : List Zi) ([] : List Zj) .nl .nl)] ?_
   exact zk (Z4R x1 zl r3.2 z7 (IntKind.i64.wrap (zd + 1)) zh z2 z6 8 0 0 0 0 ([] : List Zi) ([] : List Zj) zu zb .nl .nl zy rfl rfl)
  ·refine ze<|zi fun r4 hr4 => ?_
   obtain ⟨_, er4, _, rfl⟩ := Z2y (ByteArray.mk #[63, 58]) zl r3.2 z7 (IntKind.i64.wrap (zd + 1)) zh z2 z6 zu zb zy r4 hr4
   refine zc [0] (bv r4.1) [(ZX zl r4.2 z7 (IntKind.i64.wrap (zd + 1)) zh z2 z6 zu zb), (Z3A z2o z3p z3o z2w z2R z2S z4a zP zI)] er4 ?_
   refine za r4.1 ?_ ?_
   ·exact zk (Z4R x1 zl r4.2 z7 (IntKind.i64.wrap (zd + 1)) zh z2 z6 z2o z3p z3o z2w z2R z2S z4a zu zb zP zI zy z1w z1k)
   ·refine ze<|zi fun r5 hr5 => ?_
    obtain ⟨_, er5, _, rfl⟩ := Z3D (Z2f.mk zl r4.2 z7 (IntKind.i64.wrap (zd + 1)) zh (Z1q.mk z2 z6)) zu zb zy r5 hr5
    refine zc [0] (iv r5) [(ZX zl r4.2 z7 (IntKind.i64.wrap (zd + 1)) zh z2 z6 zu zb), (Z3A z2o z3p z3o z2w z2R z2S z4a zP zI)] er5<|zq ?_
    refine za (r5 == 63) ?_ ?_
    ·refine ze<|zi fun r6 hr6 => ?_
     obtain ⟨_, er6, _, rfl⟩ := Z1J 20 x1 zl r4.2 z7 (IntKind.i64.wrap (zd + 1)) zh z2 z6 zu zb zy r6 hr6
     refine zc [0] (.p (.tup [])) [(ZX zl r6.1 z7 (IntKind.i64.wrap (zd + 1)) zh r6.2.1 r6.2.2 zu zb), (Z3A z2o z3p z3o z2w z2R z2S z4a zP zI)] er6 ?_
     exact zk (Z4R x1 zl r6.1 z7 (IntKind.i64.wrap (zd + 1)) zh r6.2.1 r6.2.2 z2o z3p z3o z2w z2R z2S z4a zu zb zP zI zy z1w z1k)
    ·refine ze<|zq<|zq<|zq<|zq ?_
     refine za (z7 == 9) ?_ ?_
     ·refine ze<|zi fun r7 hr7 => ?_
      obtain ⟨_, er7, _, rfl⟩ := Z1J 24 x1 zl r4.2 z7 (IntKind.i64.wrap (zd + 1)) zh z2 z6 zu zb zy r7 hr7
      refine zc [0] (.p (.tup [])) [(ZX zl r7.1 z7 (IntKind.i64.wrap (zd + 1)) zh r7.2.1 r7.2.2 zu zb), (Z3A z2o z3p z3o z2w z2R z2S z4a zP zI)] er7 ?_
      exact zk (Z4R x1 zl r7.1 z7 (IntKind.i64.wrap (zd + 1)) zh r7.2.1 r7.2.2 z2o z3p z3o z2w z2R z2S z4a zu zb zP zI zy z1w z1k)
     ·refine ze<|zq<|zq<|zq<|zq<|zq<|zq<|zt [(ZX zl r4.2 (IntKind.i64.wrap (z7 + 1)) (IntKind.i64.wrap (zd + 1)) zh z2 z6 zu zb), (Z3A z2o z3p z3o z2w z2R z2S z4a zP zI)]<|ze<|zq<|zq<|zq<|zq<|zt [(ZX zl r4.2 (IntKind.i64.wrap (z7 + 1)) (IntKind.i64.wrap (zd + 1)) zh z2 z6 zu zb), (Z3A 5 0 0 0 (IntKind.i64.wrap (z7 + 1)) ([] : List Zi) ([] : List Zj) .nl .nl)] ?_
      exact zk (Z4R x1 zl r4.2 (IntKind.i64.wrap (z7 + 1)) (IntKind.i64.wrap (zd + 1)) zh z2 z6 5 0 0 0 (IntKind.i64.wrap (z7 + 1)) ([] : List Zi) ([] : List Zj) zu zb .nl .nl zy rfl rfl)
def Z7u (x1 : Int) (zl : List Int) (zn z7 zd : Int) (zh : List Zz) (z2 z6 : Int) : Option (Zj × Bool × Int × Int × Int × (List Zz) × Int × Int) :=
 if (zd == 32) = true then
 ((Z1D 25 x1 zl z2 z6).bind fun r1 =>
 some ((Zj.mk 0 0 0 0 0 ([] : List Zi) ([] : List Zj)), true, r1.1, z7, zd, zh, r1.2.1, r1.2.2))
 else
 (Z7L x1 zl zn z7 zd zh z2 z6 0 0 0 0 0 ([] : List Zi))
theorem ZmU x1 zl zn z7 zd zh z2 z6 zu zb (zy : ZV zb = true) : Sim (Z3F zl zu) (Z7u x1 zl zn z7 zd zh z2 z6) (EE 132 [(.ptr 0 0), (iv x1)] [(ZX zl zn z7 zd zh z2 z6 zu zb)]) := by
 unfold Z7u
 refine zf (ZM0 ..)<|ze<|zz (.ptr 1 0) [(ZX zl zn z7 zd zh z2 z6 zu zb), (Zv Z2j .nl .nl)]<|ze<|zq<|zq<|zq<|zq ?_
 refine za (zd == 32) ?_ ?_
 ·refine ze<|zi fun r1 hr1 => ?_
  obtain ⟨_, er1, _, rfl⟩ := Z1J 25 x1 zl zn z7 zd zh z2 z6 zu zb zy r1 hr1
  refine zc [0] (.p (.tup [])) [(ZX zl r1.1 z7 zd zh r1.2.1 r1.2.2 zu zb), (Zv Z2j .nl .nl)] er1<|ze<|zq<|zt [(ZX zl r1.1 z7 zd zh r1.2.1 r1.2.2 zu zb), (Zv Z2j .nl .nl)] ?_
  exact zr ((.p (.tup [(.agg (ZQ Z2j .sh .sh)), (.v (.bool true))])), [(ZX zl r1.1 z7 zd zh r1.2.1 r1.2.2 zu zb), (Zv Z2j .nl .nl)]) ⟨zb, _, zy, rfl⟩
 ·exact zk (Zl0 x1 zl zn z7 zd zh z2 z6 0 0 0 0 0 ([] : List Zi) ([] : List Zj) zu zb .nl .nl zy rfl rfl)
theorem Zc6 x1 zl zn z7 zd zh z2 z6 {r} (h : Z7u x1 zl zn z7 zd zh z2 z6 = some r) : Z6a x1 zl zn z7 zd zh z2 z6 = some r :=
 Z1f (fun _ _ ha hb => ru_ (ZgB _ _) (ha .ex .ex rfl) (hb .ex .ex rfl)) (fun zu zb zy => ZmU x1 zl zn z7 zd zh z2 z6 zu zb zy r h)
def Zlr : Option (List ByteArray) :=
 some ([(ByteArray.mk #[63, 61]), (ByteArray.mk #[63, 33]), (ByteArray.mk #[63, 60, 61]), (ByteArray.mk #[63, 60, 33])] : List ByteArray)
theorem Zur : Sim Zhe Zlr (EE 155 [] []) := by
 unfold Zlr
 refine zf (ZMm ..)<|ze<|ze<|zq ?_
 exact zr ((ZL .sh (([(ByteArray.mk #[63, 61]), (ByteArray.mk #[63, 33]), (ByteArray.mk #[63, 60, 61]), (ByteArray.mk #[63, 60, 33])] : List ByteArray).map eS)), []) ⟨_, rfl⟩
theorem Zvg {r} (h : Zlr = some r) : Zhp = some r :=
 Z1f (fun _ _ ha hb => ru_ Zw4 ha hb) (Zur r h)
def Z79 (x0 : List ByteArray) (zl : List Int) (zn : Int) : Option (Int × Int) :=
 Z32 x0 (x0.length : Int) 0 zl zn
theorem Zh7 (x0 : List ByteArray) zl zn z7 zd zh z2 z6 ox0 zu zb (zy : ZV zb = true) : Sim (Z2Q zl z7 zd zh z2 z6 zu zb) (Z79 x0 zl zn) (EE 154 [(ZL ox0 (x0.map eS)), (.clo 68 [(.ptr 0 0)] [])] [(ZX zl zn z7 zd zh z2 z6 zu zb)]) := by
 unfold Z79
 refine zf (ZMk ..)<|ze<|ze<|zp (iv (x0.length : Int)) (et_ (Z2M (P := PP) (t := 226) (d := 9) (by kernel_rfl) eS (shrO ox0) x0)) ?_
 exact zk (Zaz x0 (x0.length : Int) 0 zl zn z7 zd zh z2 z6 ox0 zu zb zy)
theorem ZhQ x0 zl zn {r} (h : Z79 x0 zl zn = some r) : Z7f x0 zl zn = some r :=
 Z1f (fun _ _ ha hb => ru_ (Z8q _ _ _ _ _ _ _ _) (ha default default default default default .ex .ex .ex rfl) (hb default default default default default .ex .ex .ex rfl)) (fun z7 zd zh z2 z6 ox0 zu zb zy => Zh7 x0 zl zn z7 zd zh z2 z6 ox0 zu zb zy r h)
def Z68 (x0 : List ByteArray) (x7 x8 : Int) (zl : List Int) (zn : Int) : Option (Int × Int) :=
 Z32 x0 x7 (IntKind.i64.wrap (x8 + 1)) zl zn
theorem Zfa (x0 : List ByteArray) x7 x8 zl zn z7 zd zh z2 z6 ox0 zu zb (zy : ZV zb = true) : Sim (Z2Q zl z7 zd zh z2 z6 zu zb) (Z68 x0 x7 x8 zl zn) (Zyt 1 (ZL ox0 (x0.map eS)) (.clo 68 [(.ptr 0 0)] []) (iv x7) (iv x8) [(ZX zl zn z7 zd zh z2 z6 zu zb)]) := by
 unfold Z68
 refine zf (ZFC ..)<|ze<|zq ?_
 exact zk (Zaz x0 x7 (IntKind.i64.wrap (x8 + 1)) zl zn z7 zd zh z2 z6 ox0 zu zb zy)
def Z4Y (x0 : List ByteArray) (x7 x8 : Int) (zl : List Int) (zn : Int) : Option (Int × Int) :=
 (lget x0 x8).bind fun a1 =>
 (Z2n a1 zl zn).bind fun r2 =>
 if r2.1 = true then
 (some (x8, r2.2))
 else
 (Z68 x0 x7 x8 zl r2.2)
theorem Zf9 (x0 : List ByteArray) x7 x8 zl zn z7 zd zh z2 z6 ox0 zu zb (zy : ZV zb = true) : Sim (Z2Q zl z7 zd zh z2 z6 zu zb) (Z4Y x0 x7 x8 zl zn) (Zys 1 (ZL ox0 (x0.map eS)) (.clo 68 [(.ptr 0 0)] []) (iv x7) (iv x8) [(ZX zl zn z7 zd zh z2 z6 zu zb)]) := by
 unfold Z4Y
 refine zf (ZFB ..)<|ze<|ze<|zi fun a1 ha1 => zp (.cptr [(.v (.string a1))]) (et_ (Z3u (o := (shrO ox0)) (k := .i64) (n := 1) (e := eS) (cs := (fun a => [eS a])) (fun _ => rfl) (fun _ => rfl) (by decide) ha1))<|zq<|zi fun r2 hr2 => ?_
 obtain ⟨_, er2, _, rfl⟩ := Z2y a1 zl zn z7 zd zh z2 z6 zu zb zy r2 hr2
 refine zv [0] (bv r2.1) [(ZX zl r2.2 z7 zd zh z2 z6 zu zb)] er2 ?_
 refine za r2.1 ?_ ?_
 ·refine ze ?_
  exact zr ((iv x8), [(ZX zl r2.2 z7 zd zh z2 z6 zu zb)]) ⟨_, rfl⟩
 ·exact zk (Zfa x0 x7 x8 zl r2.2 z7 zd zh z2 z6 ox0 zu zb zy)
def Z8k (zn : Int) : Option (Int × Int) :=
 some ((-1), zn)
theorem Zfb zl zn z7 zd zh z2 z6 zu zb (zy : ZV zb = true) : Sim (Z2Q zl z7 zd zh z2 z6 zu zb) (Z8k zn) (Zyu 1 [(ZX zl zn z7 zd zh z2 z6 zu zb)]) := by
 unfold Z8k
 refine zf (ZFD ..)<|ze ?_
 exact zr ((iv (-1)), [(ZX zl zn z7 zd zh z2 z6 zu zb)]) ⟨_, rfl⟩
def Z4f (x0 : List ByteArray) (x7 x8 : Int) (zl : List Int) (zn : Int) : Option (Int × Int) :=
 if (decide (x8 < x7)) = true then
 (Z4Y x0 x7 x8 zl zn)
 else
 (Z8k zn)
theorem Zf8 (x0 : List ByteArray) x7 x8 zl zn z7 zd zh z2 z6 ox0 zu zb (zy : ZV zb = true) : Sim (Z2Q zl z7 zd zh z2 z6 zu zb) (Z4f x0 x7 x8 zl zn) (ZoS 1 (ZL ox0 (x0.map eS)) (.clo 68 [(.ptr 0 0)] []) (iv x7) (iv x8) [(ZX zl zn z7 zd zh z2 z6 zu zb)]) := by
 unfold Z4f
 refine zf (ZFA ..)<|ze<|zq ?_
 refine za (decide (x8 < x7)) ?_ ?_
 ·exact zk (Zf9 x0 x7 x8 zl zn z7 zd zh z2 z6 ox0 zu zb zy)
 ·exact zk (Zfb zl zn z7 zd zh z2 z6 zu zb zy)
theorem Z7F x0 x7 x8 zl zn {r} (h : Z4f x0 x7 x8 zl zn = some r) : Z32 x0 x7 x8 zl zn = some r :=
 Z1f (fun _ _ ha hb => ru_ (Z8q _ _ _ _ _ _ _ _) (ha default default default default default .ex .ex .ex rfl) (hb default default default default default .ex .ex .ex rfl)) (fun z7 zd zh z2 z6 ox0 zu zb zy => Zf8 x0 x7 x8 zl zn z7 zd zh z2 z6 ox0 zu zb zy r h)
def Z5C (zn z2 z6 z42 z5L z5K z4N z4C : Int) (z4D : List Zi) (z40 : List Zj) : Option (Zj × Int × Int × Int) :=
 some ((Zj.mk z42 z5L z5K z4N z4C z4D z40), zn, z2, z6)
theorem Z9u zl zn z7 zd zh z2 z6 b1 b2 z42 z5L z5K z4N z4C z4D z40 zu zb zP zI z3B z3b z5Z z52 (zy : ZV zb = true) (zhS : ZV z3B = true) (zfc : ZV z3b = true) (zhT : ZV z5Z = true) (zfd : ZV z52 = true) : Sim (Z2m zl z7 zd zh zu zb) (Z5C zn z2 z6 z42 z5L z5K z4N z4C z4D z40) (ZmD 1 (.ptr 2 0) (.ptr 3 0) [(ZX zl zn z7 zd zh z2 z6 zu zb), (Zv b1 zP zI), (Zv b2 z3B z3b), (Z3A z42 z5L z5K z4N z4C z4D z40 z5Z z52)]) := by
 unfold Z5C
 refine zf (ZDo ..)<|ze<|zq<|zt [(ZX zl zn z7 zd zh z2 z6 zu zb), (Zv b1 zP zI), (Z3A z42 z5L z5K z4N z4C z4D z40 (shrO z5Z) (shrO z52)), (Z3A z42 z5L z5K z4N z4C z4D z40 z5Z z52)] ?_
 exact zr ((pA_ (ZQ (Zj.mk z42 z5L z5K z4N z4C z4D z40) .sh .sh)), [(ZX zl zn z7 zd zh z2 z6 zu zb), (Zv b1 zP zI), (Z3A z42 z5L z5K z4N z4C z4D z40 (shrO z5Z) (shrO z52)), (Z3A z42 z5L z5K z4N z4C z4D z40 z5Z z52)]) ⟨_, rfl⟩
def Z4H (zl : List Int) (zn z2 z6 z42 z5L z5K z4N z4C : Int) (z4D : List Zi) (z40 : List Zj) : Option (Zj × Int × Int × Int) :=
 (Z2n (ByteArray.mk #[63]) zl zn).bind fun r1 =>
 if r1.1 = true then
 (Z5C r1.2 z2 z6 z42 z5L z5K 1 z4C z4D z40)
 else
 ((Z2n (ByteArray.mk #[43]) zl r1.2).bind fun r2 =>
 if r2.1 = true then
 (Z5C r2.2 z2 z6 z42 z5L z5K 2 z4C z4D z40)
 else
 (Z5C r2.2 z2 z6 z42 z5L z5K z4N z4C z4D z40))
theorem ZcS zl zn z7 zd zh z2 z6 b1 b2 z42 z5L z5K z4N z4C z4D z40 zu zb zP zI z3B z3b z5Z z52 (zy : ZV zb = true) (zhS : ZV z3B = true) (zfc : ZV z3b = true) (zhT : ZV z5Z = true) (zfd : ZV z52 = true) : Sim (Z2m zl z7 zd zh zu zb) (Z4H zl zn z2 z6 z42 z5L z5K z4N z4C z4D z40) (Zqb 1 (.ptr 0 0) (.ptr 2 0) (.ptr 3 0) [(ZX zl zn z7 zd zh z2 z6 zu zb), (Zv b1 zP zI), (Zv b2 z3B z3b), (Z3A z42 z5L z5K z4N z4C z4D z40 z5Z z52)]) := by
 unfold Z4H
 refine zf (ZDn ..)<|ze<|zi fun r1 hr1 => ?_
 obtain ⟨_, er1, _, rfl⟩ := Z2y (ByteArray.mk #[63]) zl zn z7 zd zh z2 z6 zu zb zy r1 hr1
 refine zc [0] (bv r1.1) [(ZX zl r1.2 z7 zd zh z2 z6 zu zb), (Zv b1 zP zI), (Zv b2 z3B z3b), (Z3A z42 z5L z5K z4N z4C z4D z40 z5Z z52)] er1 ?_
 refine za r1.1 ?_ ?_
 ·refine ze<|zq<|zt [(ZX zl r1.2 z7 zd zh z2 z6 zu zb), (Zv b1 zP zI), (Zv b2 z3B z3b), (Z3A z42 z5L z5K 1 z4C z4D z40 z5Z z52)] ?_
  exact zk (Z9u zl r1.2 z7 zd zh z2 z6 b1 b2 z42 z5L z5K 1 z4C z4D z40 zu zb zP zI z3B z3b z5Z z52 zy zhS zfc zhT zfd)
 ·refine ze<|zi fun r2 hr2 => ?_
  obtain ⟨_, er2, _, rfl⟩ := Z2y (ByteArray.mk #[43]) zl r1.2 z7 zd zh z2 z6 zu zb zy r2 hr2
  refine zc [0] (bv r2.1) [(ZX zl r2.2 z7 zd zh z2 z6 zu zb), (Zv b1 zP zI), (Zv b2 z3B z3b), (Z3A z42 z5L z5K z4N z4C z4D z40 z5Z z52)] er2 ?_
  refine za r2.1 ?_ ?_
  ·refine ze<|zq<|zt [(ZX zl r2.2 z7 zd zh z2 z6 zu zb), (Zv b1 zP zI), (Zv b2 z3B z3b), (Z3A z42 z5L z5K 2 z4C z4D z40 z5Z z52)] ?_
   exact zk (Z9u zl r2.2 z7 zd zh z2 z6 b1 b2 z42 z5L z5K 2 z4C z4D z40 zu zb zP zI z3B z3b z5Z z52 zy zhS zfc zhT zfd)
  ·exact zk (Z9u zl r2.2 z7 zd zh z2 z6 b1 b2 z42 z5L z5K z4N z4C z4D z40 zu zb zP zI z3B z3b z5Z z52 zy zhS zfc zhT zfd)
def Z3Q (x2 : Bool) (x7 : Int) (zl : List Int) (zn z2 z6 z42 z5L z5K z4N z4C : Int) (z4D : List Zi) (z40 : List Zj) : Option (Zj × Int × Int × Int) :=
 if (!x2) = true then
 ((Z1D 23 x7 zl z2 z6).bind fun r1 =>
 Z4H zl r1.1 r1.2.1 r1.2.2 z42 z5L z5K z4N z4C z4D z40)
 else
 (Z4H zl zn z2 z6 z42 z5L z5K z4N z4C z4D z40)
theorem Z7c x2 x7 zl zn z7 zd zh z2 z6 b1 b2 z42 z5L z5K z4N z4C z4D z40 zu zb zP zI z3B z3b z5Z z52 (zy : ZV zb = true) (zhS : ZV z3B = true) (zfc : ZV z3b = true) (zhT : ZV z5Z = true) (zfd : ZV z52 = true) : Sim (Z2m zl z7 zd zh zu zb) (Z3Q x2 x7 zl zn z2 z6 z42 z5L z5K z4N z4C z4D z40) (ZjS 1 (.ptr 0 0) (bv x2) (.ptr 2 0) (iv x7) (.ptr 3 0) [(ZX zl zn z7 zd zh z2 z6 zu zb), (Zv b1 zP zI), (Zv b2 z3B z3b), (Z3A z42 z5L z5K z4N z4C z4D z40 z5Z z52)]) := by
 unfold Z3Q
 refine zf (ZDm ..)<|ze<|zq ?_
 refine za (!x2) ?_ ?_
 ·refine ze<|zi fun r1 hr1 => ?_
  obtain ⟨_, er1, _, rfl⟩ := Z1J 23 x7 zl zn z7 zd zh z2 z6 zu zb zy r1 hr1
  refine zc [0] (.p (.tup [])) [(ZX zl r1.1 z7 zd zh r1.2.1 r1.2.2 zu zb), (Zv b1 zP zI), (Zv b2 z3B z3b), (Z3A z42 z5L z5K z4N z4C z4D z40 z5Z z52)] er1 ?_
  exact zk (ZcS zl r1.1 z7 zd zh r1.2.1 r1.2.2 b1 b2 z42 z5L z5K z4N z4C z4D z40 zu zb zP zI z3B z3b z5Z z52 zy zhS zfc zhT zfd)
 ·exact zk (ZcS zl zn z7 zd zh z2 z6 b1 b2 z42 z5L z5K z4N z4C z4D z40 zu zb zP zI z3B z3b z5Z z52 zy zhS zfc zhT zfd)
def Z6X (x1 : Zj) (x2 : Bool) (zl : List Int) (zn z7 zd : Int) (zh : List Zz) (z2 z6 : Int) : Option (Zj × Int × Int × Int) :=
 (Z2n (ByteArray.mk #[42]) zl zn).bind fun r1 =>
 if r1.1 = true then
 (Z3Q x2 zn zl r1.2 z2 z6 4 0 (-1) 0 0 ([] : List Zi) ([x1] : List Zj))
 else
 ((Z2n (ByteArray.mk #[43]) zl r1.2).bind fun r2 =>
 if r2.1 = true then
 (Z3Q x2 zn zl r2.2 z2 z6 4 1 (-1) 0 0 ([] : List Zi) ([x1] : List Zj))
 else
 ((Z2n (ByteArray.mk #[63]) zl r2.2).bind fun r3 =>
 if r3.1 = true then
 (Z3Q x2 zn zl r3.2 z2 z6 4 0 1 0 0 ([] : List Zi) ([x1] : List Zj))
 else
 ((Z2n (ByteArray.mk #[123]) zl r3.2).bind fun r4 =>
 if r4.1 = true then
 ((Z8I zn zl r4.2 z7 zd zh z2 z6).bind fun r5 =>
 Z3Q x2 zn zl r5.2.2.1 r5.2.2.2.1 r5.2.2.2.2 4 r5.1 r5.2.1 0 0 ([] : List Zi) ([x1] : List Zj))
 else
 (some (x1, r4.2, z2, z6)))))
theorem Zm8 x1 x2 zl zn z7 zd zh z2 z6 z4o z3R zu zb (zy : ZV zb = true) : Sim (Z2m zl z7 zd zh zu zb) (Z6X x1 x2 zl zn z7 zd zh z2 z6) (EE 106 [(.ptr 0 0), (pA_ (ZQ x1 z4o z3R)), (bv x2)] [(ZX zl zn z7 zd zh z2 z6 zu zb)]) := by
 unfold Z6X
 refine zf (ZLE ..)<|ze<|zx (.ptr 1 0) [(ZX zl zn z7 zd zh z2 z6 zu zb), (Zv x1 z4o z3R)]<|zz (.ptr 2 0) [(ZX zl zn z7 zd zh z2 z6 zu zb), (Zv x1 z4o z3R), (Zv Z2j .nl .nl)]<|ze<|zq<|zq<|zq<|ze<|zq<|zp (ZL .ex (([x1] : List Zj).map Z15)) (Eq.trans (b := some (ZL .ex [.agg (Z3T x1)])) (by kernel_rfl) (by simp only [Z8V, Zna, Z69]))<|zq<|zz (.ptr 3 0) [(ZX zl zn z7 zd zh z2 z6 zu zb), (Zv x1 z4o z3R), (Zv Z2j .nl .nl), (Zv Z2j .nl .nl)]<|zt [(ZX zl zn z7 zd zh z2 z6 zu zb), (Zv x1 z4o z3R), (Zv Z2j .nl .nl), (Z3A 4 0 (-1) 0 0 ([] : List Zi) ([x1] : List Zj) .nl .ex)]<|ze<|zi fun r1 hr1 => ?_
 obtain ⟨_, er1, _, rfl⟩ := Z2y (ByteArray.mk #[42]) zl zn z7 zd zh z2 z6 zu zb zy r1 hr1
 refine zc [0] (bv r1.1) [(ZX zl r1.2 z7 zd zh z2 z6 zu zb), (Zv x1 z4o z3R), (Zv Z2j .nl .nl), (Z3A 4 0 (-1) 0 0 ([] : List Zi) ([x1] : List Zj) .nl .ex)] er1 ?_
 refine za r1.1 ?_ ?_
 ·exact zk (Z7c x2 zn zl r1.2 z7 zd zh z2 z6 x1 Z2j 4 0 (-1) 0 0 ([] : List Zi) ([x1] : List Zj) zu zb z4o z3R .nl .nl .nl .ex zy rfl rfl rfl rfl)
 ·refine ze<|zi fun r2 hr2 => ?_
  obtain ⟨_, er2, _, rfl⟩ := Z2y (ByteArray.mk #[43]) zl r1.2 z7 zd zh z2 z6 zu zb zy r2 hr2
  refine zc [0] (bv r2.1) [(ZX zl r2.2 z7 zd zh z2 z6 zu zb), (Zv x1 z4o z3R), (Zv Z2j .nl .nl), (Z3A 4 0 (-1) 0 0 ([] : List Zi) ([x1] : List Zj) .nl .ex)] er2 ?_
  refine za r2.1 ?_ ?_
  ·refine ze<|zq<|zt [(ZX zl r2.2 z7 zd zh z2 z6 zu zb), (Zv x1 z4o z3R), (Zv Z2j .nl .nl), (Z3A 4 1 (-1) 0 0 ([] : List Zi) ([x1] : List Zj) .nl .ex)] ?_
   exact zk (Z7c x2 zn zl r2.2 z7 zd zh z2 z6 x1 Z2j 4 1 (-1) 0 0 ([] : List Zi) ([x1] : List Zj) zu zb z4o z3R .nl .nl .nl .ex zy rfl rfl rfl rfl)
  ·refine ze<|zi fun r3 hr3 => ?_
   obtain ⟨_, er3, _, rfl⟩ := Z2y (ByteArray.mk #[63]) zl r2.2 z7 zd zh z2 z6 zu zb zy r3 hr3
   refine zc [0] (bv r3.1) [(ZX zl r3.2 z7 zd zh z2 z6 zu zb), (Zv x1 z4o z3R), (Zv Z2j .nl .nl), (Z3A 4 0 (-1) 0 0 ([] : List Zi) ([x1] : List Zj) .nl .ex)] er3 ?_
   refine za r3.1 ?_ ?_
   ·refine ze<|zq<|zt [(ZX zl r3.2 z7 zd zh z2 z6 zu zb), (Zv x1 z4o z3R), (Zv Z2j .nl .nl), (Z3A 4 0 1 0 0 ([] : List Zi) ([x1] : List Zj) .nl .ex)] ?_
    exact zk (Z7c x2 zn zl r3.2 z7 zd zh z2 z6 x1 Z2j 4 0 1 0 0 ([] : List Zi) ([x1] : List Zj) zu zb z4o z3R .nl .nl .nl .ex zy rfl rfl rfl rfl)
   ·refine ze<|zi fun r4 hr4 => ?_
    obtain ⟨_, er4, _, rfl⟩ := Z2y (ByteArray.mk #[123]) zl r3.2 z7 zd zh z2 z6 zu zb zy r4 hr4
    refine zc [0] (bv r4.1) [(ZX zl r4.2 z7 zd zh z2 z6 zu zb), (Zv x1 z4o z3R), (Zv Z2j .nl .nl), (Z3A 4 0 (-1) 0 0 ([] : List Zi) ([x1] : List Zj) .nl .ex)] er4 ?_
    refine za r4.1 ?_ ?_
    ·refine ze<|zi fun r5 hr5 => ?_
     obtain ⟨_, er5, _, rfl⟩ := ZmQ zn zl r4.2 z7 zd zh z2 z6 zu zb zy r5 hr5
     refine zc [0] (.p (.tup [(.v (.int .i64 r5.1)), (.v (.int .i64 r5.2.1))])) [(ZX zl r5.2.2.1 z7 zd zh r5.2.2.2.1 r5.2.2.2.2 zu zb), (Zv x1 z4o z3R), (Zv Z2j .nl .nl), (Z3A 4 0 (-1) 0 0 ([] : List Zi) ([x1] : List Zj) .nl .ex)] er5<|zq<|zq<|zq<|zt [(ZX zl r5.2.2.1 z7 zd zh r5.2.2.2.1 r5.2.2.2.2 zu zb), (Zv x1 z4o z3R), (Zv Z2j .nl .nl), (Z3A 4 r5.1 (-1) 0 0 ([] : List Zi) ([x1] : List Zj) .nl .ex)]<|zq<|zt [(ZX zl r5.2.2.1 z7 zd zh r5.2.2.2.1 r5.2.2.2.2 zu zb), (Zv x1 z4o z3R), (Zv Z2j .nl .nl), (Z3A 4 r5.1 r5.2.1 0 0 ([] : List Zi) ([x1] : List Zj) .nl .ex)] ?_
     exact zk (Z7c x2 zn zl r5.2.2.1 z7 zd zh r5.2.2.2.1 r5.2.2.2.2 x1 Z2j 4 r5.1 r5.2.1 0 0 ([] : List Zi) ([x1] : List Zj) zu zb z4o z3R .nl .nl .nl .ex zy rfl rfl rfl rfl)
    ·refine ze<|zq<|zt [(ZX zl r4.2 z7 zd zh z2 z6 zu zb), (Zv x1 z4o z3R), (Zv x1 (shrO z4o) (shrO z3R)), (Z3A 4 0 (-1) 0 0 ([] : List Zi) ([x1] : List Zj) .nl .ex)] ?_
     exact zr ((pA_ (ZQ x1 .sh .sh)), [(ZX zl r4.2 z7 zd zh z2 z6 zu zb), (Zv x1 z4o z3R), (Zv x1 (shrO z4o) (shrO z3R)), (Z3A 4 0 (-1) 0 0 ([] : List Zi) ([x1] : List Zj) .nl .ex)]) ⟨_, rfl⟩
theorem Zf2 x1 x2 zl zn z7 zd zh z2 z6 {r} (h : Z6X x1 x2 zl zn z7 zd zh z2 z6 = some r) : Z8J x1 x2 zl zn z7 zd zh z2 z6 = some r :=
 Z1f (fun _ _ ha hb => ru_ (ZcD _ _ _ _ _ _) (ha .ex .ex .ex .ex rfl) (hb .ex .ex .ex .ex rfl)) (fun z4o z3R zu zb zy => Zm8 x1 x2 zl zn z7 zd zh z2 z6 z4o z3R zu zb zy r h)
def Zbj (x4 zn z2 z6 : Int) : Option (Int × Int × Int × Int × Int) :=
 some (x4, (-1), zn, z2, z6)
theorem Zk5 x4 zl zn z7 zd zh z2 z6 zu zb (zy : ZV zb = true) : Sim (Z48 zl z7 zd zh zu zb) (Zbj x4 zn z2 z6) (Zyd 1 (iv x4) [(ZX zl zn z7 zd zh z2 z6 zu zb)]) := by
 unfold Zbj
 refine zf (ZFq ..)<|ze ?_
 exact zr ((.p (.tup [(.v (.int .i64 x4)), (.v (.int .i64 (-1)))])), [(ZX zl zn z7 zd zh z2 z6 zu zb)]) ⟨_, rfl⟩
def Z8O (x4 x5 zn z2 z6 : Int) : Option (Int × Int × Int × Int × Int) :=
 some (x4, x5, zn, z2, z6)
theorem ZcQ x4 x5 zl zn z7 zd zh z2 z6 zu zb (zy : ZV zb = true) : Sim (Z48 zl z7 zd zh zu zb) (Z8O x4 x5 zn z2 z6) (Zqg 1 (iv x4) (iv x5) [(ZX zl zn z7 zd zh z2 z6 zu zb)]) := by
 unfold Z8O
 refine zf (ZDF ..)<|ze ?_
 exact zr ((.p (.tup [(.v (.int .i64 x4)), (.v (.int .i64 x5))])), [(ZX zl zn z7 zd zh z2 z6 zu zb)]) ⟨_, rfl⟩
def Z4c (x1 x4 x5 : Int) (zl : List Int) (z2 z6 : Int) : Option (Int × Int × Int × Int × Int) :=
 (Z1D 23 x1 zl z2 z6).bind fun r1 =>
 Z8O x4 x5 r1.1 r1.2.1 r1.2.2
theorem Z7b x1 x4 x5 zl zn z7 zd zh z2 z6 zu zb (zy : ZV zb = true) : Sim (Z48 zl z7 zd zh zu zb) (Z4c x1 x4 x5 zl z2 z6) (ZjX 1 (.ptr 0 0) (iv x1) (iv x4) (iv x5) [(ZX zl zn z7 zd zh z2 z6 zu zb)]) := by
 unfold Z4c
 refine zf (ZDE ..)<|ze<|zi fun r1 hr1 => ?_
 obtain ⟨_, er1, _, rfl⟩ := Z1J 23 x1 zl zn z7 zd zh z2 z6 zu zb zy r1 hr1
 refine zc [0] (.p (.tup [])) [(ZX zl r1.1 z7 zd zh r1.2.1 r1.2.2 zu zb)] er1 ?_
 exact zk (ZcQ x4 x5 zl r1.1 z7 zd zh r1.2.1 r1.2.2 zu zb zy)
def Z3V (x1 x4 x5 : Int) (zl : List Int) (zn z2 z6 : Int) : Option (Int × Int × Int × Int × Int) :=
 if (decide (x4 < 0)) = true then
 (Z4c x1 x4 x5 zl z2 z6)
 else
 (if (decide (x5 < x4)) = true then
 (Z4c x1 x4 x5 zl z2 z6)
 else
 (if (decide (64 < x5)) = true then
 (Z4c x1 x4 x5 zl z2 z6)
 else
 ((Z2n (ByteArray.mk #[125]) zl zn).bind fun r1 =>
 if (!r1.1) = true then
 (Z4c x1 x4 x5 zl z2 z6)
 else
 (Z8O x4 x5 r1.2 z2 z6))))
theorem Z7C x1 x4 x5 zl zn z7 zd zh z2 z6 zu zb (zy : ZV zb = true) : Sim (Z48 zl z7 zd zh zu zb) (Z3V x1 x4 x5 zl zn z2 z6) (Zmo 1 (.ptr 0 0) (iv x1) (iv x4) (iv x5) [(ZX zl zn z7 zd zh z2 z6 zu zb)]) := by
 unfold Z3V
 refine zf (ZFs ..)<|ze<|zq ?_
 refine za (decide (x4 < 0)) ?_ ?_
 ·exact zk (Z7b x1 x4 x5 zl zn z7 zd zh z2 z6 zu zb zy)
 ·refine zq ?_
  refine za (decide (x5 < x4)) ?_ ?_
  ·exact zk (Z7b x1 x4 x5 zl zn z7 zd zh z2 z6 zu zb zy)
  ·refine zq ?_
   refine za (decide (64 < x5)) ?_ ?_
   ·exact zk (Z7b x1 x4 x5 zl zn z7 zd zh z2 z6 zu zb zy)
   ·refine zi fun r1 hr1 => ?_
    obtain ⟨_, er1, _, rfl⟩ := Z2y (ByteArray.mk #[125]) zl zn z7 zd zh z2 z6 zu zb zy r1 hr1
    refine zc [0] (bv r1.1) [(ZX zl r1.2 z7 zd zh z2 z6 zu zb)] er1<|zq ?_
    refine za (!r1.1) ?_ ?_
    ·exact zk (Z7b x1 x4 x5 zl r1.2 z7 zd zh z2 z6 zu zb zy)
    ·exact zk (ZcQ x4 x5 zl r1.2 z7 zd zh z2 z6 zu zb zy)
def Z5U (x1 x4 : Int) (zl : List Int) (zn z2 z6 : Int) : Option (Int × Int × Int × Int × Int) :=
 Z3V x1 x4 (-2) zl zn z2 z6
theorem Zdq x1 x4 zl zn z7 zd zh z2 z6 zu zb (zy : ZV zb = true) : Sim (Z48 zl z7 zd zh zu zb) (Z5U x1 x4 zl zn z2 z6) (ZtL 1 (.ptr 0 0) (iv x1) (iv x4) [(ZX zl zn z7 zd zh z2 z6 zu zb)]) := by
 unfold Z5U
 refine zf (ZFr ..)<|ze ?_
 exact zk (Z7C x1 x4 (-2) zl zn z7 zd zh z2 z6 zu zb zy)
def Z8Z (x1 x4 : Int) (zl : List Int) (zn z2 z6 : Int) : Option (Int × Int × Int × Int × Int) :=
 (Z2n (ByteArray.mk #[125]) zl zn).bind fun r1 =>
 if r1.1 = true then
 (if (decide (x4 ≤ 64)) = true then
 (Zbj x4 r1.2 z2 z6)
 else
 (Z5U x1 x4 zl r1.2 z2 z6))
 else
 (Z5U x1 x4 zl r1.2 z2 z6)
theorem Zk4 x1 x4 zl zn z7 zd zh z2 z6 zu zb (zy : ZV zb = true) : Sim (Z48 zl z7 zd zh zu zb) (Z8Z x1 x4 zl zn z2 z6) (Zyc 1 (.ptr 0 0) (iv x1) (iv x4) [(ZX zl zn z7 zd zh z2 z6 zu zb)]) := by
 unfold Z8Z
 refine zf (ZFp ..)<|ze<|zi fun r1 hr1 => ?_
 obtain ⟨_, er1, _, rfl⟩ := Z2y (ByteArray.mk #[125]) zl zn z7 zd zh z2 z6 zu zb zy r1 hr1
 refine zc [0] (bv r1.1) [(ZX zl r1.2 z7 zd zh z2 z6 zu zb)] er1 ?_
 refine za r1.1 ?_ ?_
 ·refine zq ?_
  refine za (decide (x4 ≤ 64)) ?_ ?_
  ·exact zk (Zk5 x4 zl r1.2 z7 zd zh z2 z6 zu zb zy)
  ·exact zk (Zdq x1 x4 zl r1.2 z7 zd zh z2 z6 zu zb zy)
 ·exact zk (Zdq x1 x4 zl r1.2 z7 zd zh z2 z6 zu zb zy)
def Z8y (x1 : Int) (zl : List Int) (zn z7 zd : Int) (zh : List Zz) (z2 z6 : Int) : Option (Int × Int × Int × Int × Int) :=
 (Z72 zl zn z7 zd zh z2 z6).bind fun r1 =>
 (Z2n (ByteArray.mk #[44]) zl r1.2).bind fun r2 =>
 if r2.1 = true then
 ((Z72 zl r2.2 z7 zd zh z2 z6).bind fun r3 =>
 if (decide (r3.1 < 0)) = true then
 (if (decide (0 ≤ r1.1)) = true then
 (Z8Z x1 r1.1 zl r3.2 z2 z6)
 else
 (Z3V x1 r1.1 r3.1 zl r3.2 z2 z6))
 else
 (Z3V x1 r1.1 r3.1 zl r3.2 z2 z6))
 else
 (Z3V x1 r1.1 r1.1 zl r2.2 z2 z6)
theorem Zm4 x1 zl zn z7 zd zh z2 z6 zu zb (zy : ZV zb = true) : Sim (Z48 zl z7 zd zh zu zb) (Z8y x1 zl zn z7 zd zh z2 z6) (EE 133 [(.ptr 0 0), (iv x1)] [(ZX zl zn z7 zd zh z2 z6 zu zb)]) := by
 unfold Z8y
 refine zf (ZM2 ..)<|ze<|ze<|zi fun r1 hr1 => ?_
 obtain ⟨_, er1, _, rfl⟩ := Zf1 zl zn z7 zd zh z2 z6 zu zb zy r1 hr1
 refine zc [0] (iv r1.1) [(ZX zl r1.2 z7 zd zh z2 z6 zu zb)] er1<|ze<|ze<|zi fun r2 hr2 => ?_
 obtain ⟨_, er2, _, rfl⟩ := Z2y (ByteArray.mk #[44]) zl r1.2 z7 zd zh z2 z6 zu zb zy r2 hr2
 refine zc [0] (bv r2.1) [(ZX zl r2.2 z7 zd zh z2 z6 zu zb)] er2 ?_
 refine za r2.1 ?_ ?_
 ·refine ze<|zi fun r3 hr3 => ?_
  obtain ⟨_, er3, _, rfl⟩ := Zf1 zl r2.2 z7 zd zh z2 z6 zu zb zy r3 hr3
  refine zc [0] (iv r3.1) [(ZX zl r3.2 z7 zd zh z2 z6 zu zb)] er3<|ze<|zq ?_
  refine za (decide (r3.1 < 0)) ?_ ?_
  ·refine zq ?_
   refine za (decide (0 ≤ r1.1)) ?_ ?_
   ·exact zk (Zk4 x1 r1.1 zl r3.2 z7 zd zh z2 z6 zu zb zy)
   ·exact zk (Z7C x1 r1.1 r3.1 zl r3.2 z7 zd zh z2 z6 zu zb zy)
  ·exact zk (Z7C x1 r1.1 r3.1 zl r3.2 z7 zd zh z2 z6 zu zb zy)
 ·exact zk (Z7C x1 r1.1 r1.1 zl r2.2 z7 zd zh z2 z6 zu zb zy)
theorem ZeY x1 zl zn z7 zd zh z2 z6 {r} (h : Z8y x1 zl zn z7 zd zh z2 z6 = some r) : Z8I x1 zl zn z7 zd zh z2 z6 = some r :=
 Z1f (fun _ _ ha hb => ru_ (Zng _ _ _ _ _ _) (ha .ex .ex rfl) (hb .ex .ex rfl)) (fun zu zb zy => Zm4 x1 zl zn z7 zd zh z2 z6 zu zb zy r h)
def Zdg (zl : List Int) (zn z7 zd : Int) (zh : List Zz) (z2 z6 : Int) : Option (Int × Int) :=
 Z51 (-1) 0 zl zn z7 zd zh z2 z6
theorem Zm7 zl zn z7 zd zh z2 z6 zu zb (zy : ZV zb = true) : Sim (Z2Q zl z7 zd zh z2 z6 zu zb) (Zdg zl zn z7 zd zh z2 z6) (EE 156 [(.ptr 0 0)] [(ZX zl zn z7 zd zh z2 z6 zu zb)]) := by
 unfold Zdg
 refine zf (ZMn ..)<|ze<|ze<|ze ?_
 exact zk (Zdx (-1) 0 zl zn z7 zd zh z2 z6 zu zb zy)
theorem ZmT zl zn z7 zd zh z2 z6 {r} (h : Zdg zl zn z7 zd zh z2 z6 = some r) : Z72 zl zn z7 zd zh z2 z6 = some r :=
 Z1f (fun _ _ ha hb => ru_ (Z8q _ _ _ _ _ _ _ _) (ha .ex .ex rfl) (hb .ex .ex rfl)) (fun zu zb zy => Zm7 zl zn z7 zd zh z2 z6 zu zb zy r h)
def Z93 (x3 x4 : Int) (zl : List Int) (zn z7 zd : Int) (zh : List Zz) (z2 z6 : Int) : Option (Int × Int) :=
 (Z4b zl zn).bind fun r1 =>
 Z51 ((IntKind.i64.wrap ((IntKind.i64.wrap ((IntKind.i64.wrap (10 * (max x3 0))) + r1.1)) - 48))) (IntKind.i64.wrap (x4 + 1)) zl r1.2 z7 zd zh z2 z6
theorem Zka x3 x4 zl zn z7 zd zh z2 z6 zu zb (zy : ZV zb = true) : Sim (Z2Q zl z7 zd zh z2 z6 zu zb) (Z93 x3 x4 zl zn z7 zd zh z2 z6) (Zyy 1 (.ptr 0 0) (iv x3) (iv x4) [(ZX zl zn z7 zd zh z2 z6 zu zb)]) := by
 unfold Z93
 refine zf (ZFF ..)<|ze<|zp (iv (max x3 0)) (Ztq _ _)<|zq<|zi fun r1 hr1 => ?_
 obtain ⟨_, er1, _, rfl⟩ := Z4J zl zn z7 zd zh z2 z6 zu zb zy r1 hr1
 refine zc [0] (iv r1.1) [(ZX zl r1.2 z7 zd zh z2 z6 zu zb)] er1<|zq<|zq<|ze<|zq ?_
 exact zk (Zdx ((IntKind.i64.wrap ((IntKind.i64.wrap ((IntKind.i64.wrap (10 * (max x3 0))) + r1.1)) - 48))) (IntKind.i64.wrap (x4 + 1)) zl r1.2 z7 zd zh z2 z6 zu zb zy)
def Z5V (x3 zn : Int) : Option (Int × Int) :=
 some (x3, zn)
theorem Z9R x3 zl zn z7 zd zh z2 z6 zu zb (zy : ZV zb = true) : Sim (Z2Q zl z7 zd zh z2 z6 zu zb) (Z5V x3 zn) (ZoU 1 (iv x3) [(ZX zl zn z7 zd zh z2 z6 zu zb)]) := by
 unfold Z5V
 refine zf (ZFG ..)<|ze ?_
 exact zr ((iv x3), [(ZX zl zn z7 zd zh z2 z6 zu zb)]) ⟨_, rfl⟩
def Z92 (x3 x4 : Int) (zl : List Int) (zn z7 zd : Int) (zh : List Zz) (z2 z6 : Int) : Option (Int × Int) :=
 if (decide (x4 < 2)) = true then
 ((Z3q (Z2f.mk zl zn z7 zd zh (Z1q.mk z2 z6))).bind fun r1 =>
 if (decide (48 ≤ r1)) = true then
 ((Z3q (Z2f.mk zl zn z7 zd zh (Z1q.mk z2 z6))).bind fun r2 =>
 if (decide (r2 ≤ 57)) = true then
 (Z93 x3 x4 zl zn z7 zd zh z2 z6)
 else
 (Z5V x3 zn))
 else
 (Z5V x3 zn))
 else
 (Z5V x3 zn)
theorem Zk9 x3 x4 zl zn z7 zd zh z2 z6 zu zb (zy : ZV zb = true) : Sim (Z2Q zl z7 zd zh z2 z6 zu zb) (Z92 x3 x4 zl zn z7 zd zh z2 z6) (ZoT 1 (.ptr 0 0) (iv x3) (iv x4) [(ZX zl zn z7 zd zh z2 z6 zu zb)]) := by
 unfold Z92
 refine zf (ZFE ..)<|ze<|zq ?_
 refine za (decide (x4 < 2)) ?_ ?_
 ·refine zi fun r1 hr1 => ?_
  obtain ⟨_, er1, _, rfl⟩ := Z3D (Z2f.mk zl zn z7 zd zh (Z1q.mk z2 z6)) zu zb zy r1 hr1
  refine zc [0] (iv r1) [(ZX zl zn z7 zd zh z2 z6 zu zb)] er1<|zq ?_
  refine za (decide (48 ≤ r1)) ?_ ?_
  ·refine zi fun r2 hr2 => ?_
   obtain ⟨_, er2, _, rfl⟩ := Z3D (Z2f.mk zl zn z7 zd zh (Z1q.mk z2 z6)) zu zb zy r2 hr2
   refine zc [0] (iv r2) [(ZX zl zn z7 zd zh z2 z6 zu zb)] er2<|zq ?_
   refine za (decide (r2 ≤ 57)) ?_ ?_
   ·exact zk (Zka x3 x4 zl zn z7 zd zh z2 z6 zu zb zy)
   ·exact zk (Z9R x3 zl zn z7 zd zh z2 z6 zu zb zy)
  ·exact zk (Z9R x3 zl zn z7 zd zh z2 z6 zu zb zy)
 ·exact zk (Z9R x3 zl zn z7 zd zh z2 z6 zu zb zy)
theorem ZkZ x3 x4 zl zn z7 zd zh z2 z6 {r} (h : Z92 x3 x4 zl zn z7 zd zh z2 z6 = some r) : Z51 x3 x4 zl zn z7 zd zh z2 z6 = some r :=
 Z1f (fun _ _ ha hb => ru_ (Z8q _ _ _ _ _ _ _ _) (ha .ex .ex rfl) (hb .ex .ex rfl)) (fun zu zb zy => Zk9 x3 x4 zl zn z7 zd zh z2 z6 zu zb zy r h)
def ZdS : Option Int :=
 some (0)
theorem ZqV : Sim ZO ZdS (ZBu 0 []) := by
 unfold ZdS
 refine zf (ZIC ..)<|ze ?_
 exact zr ((iv 0), []) ⟨_, rfl⟩
def Zhl (x0 : Z1P) : Option Int :=
 (Z5r x0.Root).bind fun r1 =>
 if (!r1) = true then
 (some (27))
 else
 ((Z7m x0.Root).bind fun r2 =>
 if (decide (2000 < (IntKind.i64.wrap (r2 + 3)))) = true then
 (some (28))
 else
 ZdS)
theorem Zuw x0 z5x z4T : Sim ZO (Zhl x0) (EE 48 [(pA_ (Z4h x0 z5x z4T))] []) := by
 unfold Zhl
 refine zf (ZOw ..)<|ze<|zx (.ptr 0 0) [(Z1v x0 z5x z4T)]<|ze<|zq<|zq<|zi fun r1 hr1 => ?_
 obtain ⟨_, er1, _, rfl⟩ := Zl8 x0.Root .sh .sh r1 hr1
 refine zc [] (bv r1) [(Z1v x0 z5x z4T)] er1<|zq ?_
 refine za (!r1) ?_ ?_
 ·refine ze ?_
  exact zr ((iv 27), [(Z1v x0 z5x z4T)]) ⟨_, rfl⟩
 ·refine ze<|zq<|zq<|zi fun r2 hr2 => ?_
  obtain ⟨_, er2, _, rfl⟩ := ZnP x0.Root .sh .sh r2 hr2
  refine zc [] (iv r2) [(Z1v x0 z5x z4T)] er2<|zq<|zq ?_
  refine za (decide (2000 < (IntKind.i64.wrap (r2 + 3)))) ?_ ?_
  ·refine ze ?_
   exact zr ((iv 28), [(Z1v x0 z5x z4T)]) ⟨_, rfl⟩
  ·exact zk ZqV
theorem Zvo x0 {r} (h : Zhl x0 = some r) : Zhr x0 = some r :=
 Z1f (fun _ _ ha hb => ru_ Z2k (ha .ex .ex) (hb .ex .ex)) (fun z5x z4T => Zuw x0 z5x z4T r h)
def Zad : Option Bool :=
 some false
theorem ZgO : Sim Z11 Zad (ZwI 0 []) := by
 unfold Zad
 refine zf (ZIN ..)<|ze ?_
 exact zr ((bv false), []) ⟨_, rfl⟩
def Z4I (b0 : Zj) : Option Bool :=
 (Z6Q b0.Kids).bind fun r1 =>
 some (!r1)
theorem ZcK b0 z2C z2c : Sim Z11 (Z4I b0) (Zsr 0 (.ptr 0 0) [(Zv b0 z2C z2c)]) := by
 unfold Z4I
 refine zf (ZIO ..)<|ze<|zq<|zq<|zi fun r1 hr1 => ?_
 obtain ⟨_, er1, _, rfl⟩ := ZgQ b0.Kids .sh r1 hr1
 refine zc [] (bv r1) [(Zv b0 z2C z2c)] er1<|zq ?_
 exact zr ((bv (!r1)), [(Zv b0 z2C z2c)]) ⟨_, rfl⟩
def Zac (b0 : Zj) : Option Bool :=
 (lget b0.Kids 0).bind fun a1 =>
 (Z4y a1).bind fun r2 =>
 if (decide (r2.2 < 0)) = true then
 Zad
 else
 (if (decide (32 < r2.2)) = true then
 Zad
 else
 (Z4I b0))
theorem Zot b0 z2C z2c : Sim Z11 (Zac b0) (ZBG 0 (.ptr 0 0) [(Zv b0 z2C z2c)]) := by
 unfold Zac
 refine zf (ZIM ..)<|ze<|zq<|zq<|zi fun a1 ha1 => zp (.cptr (ZQ a1 .sh .sh)) (et_ (Z3u (o := (shrO z2c)) (k := .i64) (n := 7) (e := Z15) (cs := Z3T) Z7H (fun _ => rfl) (by decide) ha1))<|zq<|zi fun r2 hr2 => ?_
 obtain ⟨_, er2, _, rfl⟩ := Z9U a1 .sh .sh r2 hr2
 refine zc [] (.p (.tup [(.v (.int .i64 r2.1)), (.v (.int .i64 r2.2))])) [(Zv b0 z2C z2c)] er2<|zq<|zq<|ze<|zq ?_
 refine za (decide (r2.2 < 0)) ?_ ?_
 ·exact zk ZgO
 ·refine zq ?_
  refine za (decide (32 < r2.2)) ?_ ?_
  ·exact zk ZgO
  ·exact zk (ZcK b0 z2C z2c)
def ZeB (x0 : Zj) : Option Bool :=
 if (x0.Kind == 7) = true then
 (if (decide (2 ≤ x0.Mode)) = true then
 (Zac x0)
 else
 (Z4I x0))
 else
 (Z4I x0)
theorem ZrZ x0 z2K z1Z : Sim Z11 (ZeB x0) (EE 71 [(pA_ (ZQ x0 z2K z1Z))] []) := by
 unfold ZeB
 refine zf (ZOO ..)<|ze<|zx (.ptr 0 0) [(Zv x0 z2K z1Z)]<|ze<|zq<|zq<|zq ?_
 refine za (x0.Kind == 7) ?_ ?_
 ·refine zq<|zq<|zq ?_
  refine za (decide (2 ≤ x0.Mode)) ?_ ?_
  ·exact zk (Zot x0 z2K z1Z)
  ·exact zk (ZcK x0 z2K z1Z)
 ·exact zk (ZcK x0 z2K z1Z)
theorem ZsP x0 {r} (h : ZeB x0 = some r) : Z5r x0 = some r :=
 Z1f (fun _ _ ha hb => ru_ Z2p (ha .ex .ex) (hb .ex .ex)) (fun z2K z1Z => ZrZ x0 z2K z1Z r h)
def Z9k (x2 x3 : Int) : Option (Int × Int) :=
 some (x2, x3)
theorem Zay x2 x3 : Sim Z49 (Z9k x2 x3) (Zmq 0 (iv x2) (iv x3) []) := by
 unfold Z9k
 refine zf (ZGD ..)<|ze ?_
 exact zr ((.p (.tup [(.v (.int .i64 x2)), (.v (.int .i64 x3))])), []) ⟨_, rfl⟩
def Zhm (x0 : Zj) : Option (Int × Int) :=
 if (x0.Kind == 1) = true then
 (some (1, 1))
 else
 (if (x0.Kind == 6) = true then
 (some (0, (-1)))
 else
 (if (x0.Kind == 2) = true then
 (ZbD 0 0 x0.Kids (x0.Kids.length : Int) 0)
 else
 (if (x0.Kind == 3) = true then
 (ZaM 1048576 0 x0.Kids (x0.Kids.length : Int) 0)
 else
 (if (x0.Kind == 4) = true then
 ((lget x0.Kids 0).bind fun a1 =>
 (Z4y a1).bind fun r2 =>
 (Zeg r2.2 x0.Hi).bind fun r3 =>
 some ((min (IntKind.i64.wrap (r2.1 * x0.Lo)) 1048576), r3))
 else
 (if (x0.Kind == 5) = true then
 (if (x0.Kind == 5) = true then
 ((lget x0.Kids 0).bind fun a4 =>
 (Z4y a4).bind fun r5 =>
 some (r5.1, r5.2))
 else
 (Z9k 0 0))
 else
 (if (x0.Kind == 8) = true then
 ((lget x0.Kids 0).bind fun a6 =>
 (Z4y a6).bind fun r7 =>
 some (r7.1, r7.2))
 else
 (Z9k 0 0)))))))
theorem Zux x0 z2K z1Z : Sim Z49 (Zhm x0) (EE 93 [(pA_ (ZQ x0 z2K z1Z))] []) := by
 unfold Zhm
 refine zf (ZP4 ..)<|ze<|zx (.ptr 0 0) [(Zv x0 z2K z1Z)]<|ze<|zq<|zq<|ze<|zq ?_
 refine za (x0.Kind == 1) ?_ ?_
 ·refine ze ?_
  exact zr ((.p (.tup [(.v (.int .i64 1)), (.v (.int .i64 1))])), [(Zv x0 z2K z1Z)]) ⟨_, rfl⟩
 ·refine ze<|zq ?_
  refine za (x0.Kind == 6) ?_ ?_
  ·refine ze ?_
   exact zr ((.p (.tup [(.v (.int .i64 0)), (.v (.int .i64 (-1)))])), [(Zv x0 z2K z1Z)]) ⟨_, rfl⟩
  ·refine ze<|zq ?_
   refine za (x0.Kind == 2) ?_ ?_
   ·refine ze<|zq<|zq<|zp (iv (x0.Kids.length : Int)) (et_ (Z2M (P := PP) (t := 96) (d := 98) (by kernel_rfl) Z15 (shrO z1Z) x0.Kids)) ?_
    exact zk (ZjP 0 0 x0.Kids (x0.Kids.length : Int) 0 (shrO z1Z))
   ·refine ze<|zq ?_
    refine za (x0.Kind == 3) ?_ ?_
    ·refine ze<|ze<|zq<|zq<|zp (iv (x0.Kids.length : Int)) (et_ (Z2M (P := PP) (t := 96) (d := 98) (by kernel_rfl) Z15 (shrO z1Z) x0.Kids)) ?_
     exact zk (Zj2 1048576 0 x0.Kids (x0.Kids.length : Int) 0 (shrO z1Z))
    ·refine ze<|zq ?_
     refine za (x0.Kind == 4) ?_ ?_
     ·refine ze<|zq<|zq<|zi fun a1 ha1 => zp (.cptr (ZQ a1 .sh .sh)) (et_ (Z3u (o := (shrO z1Z)) (k := .i64) (n := 7) (e := Z15) (cs := Z3T) Z7H (fun _ => rfl) (by decide) ha1))<|zq<|zi fun r2 hr2 => ?_
      obtain ⟨_, er2, _, rfl⟩ := Z9U a1 .sh .sh r2 hr2
      refine zc [] (.p (.tup [(.v (.int .i64 r2.1)), (.v (.int .i64 r2.2))])) [(Zv x0 z2K z1Z)] er2<|zq<|zq<|ze<|zq<|zq<|zq<|zp (iv (min (IntKind.i64.wrap (r2.1 * x0.Lo)) 1048576)) (Zfl _ _)<|zq<|zq<|zi fun r3 hr3 => ?_
      obtain ⟨_, er3, _, rfl⟩ := Zvu r2.2 x0.Hi r3 hr3
      refine zc [] (iv r3) [(Zv x0 z2K z1Z)] er3<|zg ?_
      exact zr ((.p (.tup [(.v (.int .i64 (min (IntKind.i64.wrap (r2.1 * x0.Lo)) 1048576))), (.v (.int .i64 r3))])), [(Zv x0 z2K z1Z)]) ⟨_, rfl⟩
     ·refine ze<|zq ?_
      refine za (x0.Kind == 5) ?_ ?_
      ·refine za (x0.Kind == 5) ?_ ?_
       ·refine ze<|zq<|zq<|zi fun a4 ha4 => zp (.cptr (ZQ a4 .sh .sh)) (et_ (Z3u (o := (shrO z1Z)) (k := .i64) (n := 7) (e := Z15) (cs := Z3T) Z7H (fun _ => rfl) (by decide) ha4))<|zq<|zi fun r5 hr5 => ?_
        obtain ⟨_, er5, _, rfl⟩ := Z9U a4 .sh .sh r5 hr5
        refine zc [] (.p (.tup [(.v (.int .i64 r5.1)), (.v (.int .i64 r5.2))])) [(Zv x0 z2K z1Z)] er5<|zq<|zq ?_
        exact zr ((.p (.tup [(.v (.int .i64 r5.1)), (.v (.int .i64 r5.2))])), [(Zv x0 z2K z1Z)]) ⟨_, rfl⟩
       ·exact zk (Zay 0 0)
      ·refine ze<|zq ?_
       refine za (x0.Kind == 8) ?_ ?_
       ·refine ze<|zq<|zq<|zi fun a6 ha6 => zp (.cptr (ZQ a6 .sh .sh)) (et_ (Z3u (o := (shrO z1Z)) (k := .i64) (n := 7) (e := Z15) (cs := Z3T) Z7H (fun _ => rfl) (by decide) ha6))<|zq<|zi fun r7 hr7 => ?_
        obtain ⟨_, er7, _, rfl⟩ := Z9U a6 .sh .sh r7 hr7
        refine zc [] (.p (.tup [(.v (.int .i64 r7.1)), (.v (.int .i64 r7.2))])) [(Zv x0 z2K z1Z)] er7<|zq<|zq ?_
        exact zr ((.p (.tup [(.v (.int .i64 r7.1)), (.v (.int .i64 r7.2))])), [(Zv x0 z2K z1Z)]) ⟨_, rfl⟩
       ·exact zk (Zay 0 0)
theorem Zvr x0 {r} (h : Zhm x0 = some r) : Z4y x0 = some r :=
 Z1f (fun _ _ ha hb => ru_ Zhg (ha .ex .ex) (hb .ex .ex)) (fun z2K z1Z => Zux x0 z2K z1Z r h)
def ZdT (x2 x3 : Int) (x23 : List Zj) (x24 x25 : Int) : Option (Int × Int) :=
 (lget x23 x25).bind fun a1 =>
 (Z4y a1).bind fun r2 =>
 (ZkE x3 r2.2).bind fun r3 =>
 ZbD (min (IntKind.i64.wrap (x2 + r2.1)) 1048576) r3 x23 x24 (IntKind.i64.wrap (x25 + 1))
theorem ZqX x2 x3 (x23 : List Zj) x24 x25 ox23 : Sim Z49 (ZdT x2 x3 x23 x24 x25) (ZC0 0 (iv x2) (iv x3) (ZL ox23 (x23.map Z15)) (iv x24) (iv x25) []) := by
 unfold ZdT
 refine zf (ZJ7 ..)<|ze<|zi fun a1 ha1 => zp (.cptr (ZQ a1 .sh .sh)) (et_ (Z3u (o := ox23) (k := .i64) (n := 7) (e := Z15) (cs := Z3T) Z7H (fun _ => rfl) (by decide) ha1))<|zq<|zz (.ptr 0 0) [(Zv Z2j .nl .nl)]<|zt [(Zv a1 .sh .sh)]<|ze<|zq<|zi fun r2 hr2 => ?_
 obtain ⟨_, er2, _, rfl⟩ := Z9U a1 .sh .sh r2 hr2
 refine zc [] (.p (.tup [(.v (.int .i64 r2.1)), (.v (.int .i64 r2.2))])) [(Zv a1 .sh .sh)] er2<|zq<|zq<|ze<|zq<|zp (iv (min (IntKind.i64.wrap (x2 + r2.1)) 1048576)) (Zfl _ _)<|zi fun r3 hr3 => ?_
 obtain ⟨_, er3, _, rfl⟩ := ZzC x3 r2.2 r3 hr3
 refine zc [] (iv r3) [(Zv a1 .sh .sh)] er3<|ze<|zq ?_
 exact zk (ZjP (min (IntKind.i64.wrap (x2 + r2.1)) 1048576) r3 x23 x24 (IntKind.i64.wrap (x25 + 1)) ox23)
def Zbt (x2 x3 : Int) (x23 : List Zj) (x24 x25 : Int) : Option (Int × Int) :=
 if (decide (x25 < x24)) = true then
 (ZdT x2 x3 x23 x24 x25)
 else
 (Z9k x2 x3)
theorem ZqW x2 x3 (x23 : List Zj) x24 x25 ox23 : Sim Z49 (Zbt x2 x3 x23 x24 x25) (ZsD 0 (iv x2) (iv x3) (ZL ox23 (x23.map Z15)) (iv x24) (iv x25) []) := by
 unfold Zbt
 refine zf (ZJ6 ..)<|ze<|zq ?_
 refine za (decide (x25 < x24)) ?_ ?_
 ·exact zk (ZqX x2 x3 x23 x24 x25 ox23)
 ·exact zk (Zay x2 x3)
theorem ZjO x2 x3 x23 x24 x25 {r} (h : Zbt x2 x3 x23 x24 x25 = some r) : ZbD x2 x3 x23 x24 x25 = some r :=
 Z1f (fun _ _ ha hb => ru_ Zhg (ha .ex) (hb .ex)) (fun ox23 => ZqW x2 x3 x23 x24 x25 ox23 r h)
def ZaI (x2 x3 : Int) (x45 : List Zj) (x46 x47 : Int) : Option (Int × Int) :=
 ZaM x2 x3 x45 x46 (IntKind.i64.wrap (x47 + 1))
theorem Zig x2 x3 (x45 : List Zj) x46 x47 ox45 : Sim Z49 (ZaI x2 x3 x45 x46 x47) (Zu4 0 (iv x2) (iv x3) (ZL ox45 (x45.map Z15)) (iv x46) (iv x47) []) := by
 unfold ZaI
 refine zf (ZGC ..)<|ze<|zq ?_
 exact zk (Zj2 x2 x3 x45 x46 (IntKind.i64.wrap (x47 + 1)) ox45)
def ZaH (x2 : Int) (x45 : List Zj) (x46 x47 : Int) : Option (Int × Int) :=
 ZaI x2 (-1) x45 x46 x47
theorem Zif x2 (x45 : List Zj) x46 x47 ox45 : Sim Z49 (ZaH x2 x45 x46 x47) (Zu3 0 (iv x2) (ZL ox45 (x45.map Z15)) (iv x46) (iv x47) []) := by
 unfold ZaH
 refine zf (ZGA ..)<|ze ?_
 exact zk (Zig x2 (-1) x45 x46 x47 ox45)
def Zd4 (x2 x3 x11 : Int) (x45 : List Zj) (x46 x47 : Int) : Option (Int × Int) :=
 ZaI x2 (max x3 x11) x45 x46 x47
theorem ZpC x2 x3 x11 (x45 : List Zj) x46 x47 ox45 : Sim Z49 (Zd4 x2 x3 x11 x45 x46 x47) (Zzw 0 (iv x2) (iv x3) (iv x11) (ZL ox45 (x45.map Z15)) (iv x46) (iv x47) []) := by
 unfold Zd4
 refine zf (ZGB ..)<|ze<|zp (iv (max x3 x11)) (Ztq _ _) ?_
 exact zk (Zig x2 (max x3 x11) x45 x46 x47 ox45)
def Zd3 (x2 x3 : Int) (x45 : List Zj) (x46 x47 : Int) : Option (Int × Int) :=
 (lget x45 x47).bind fun a1 =>
 (Z4y a1).bind fun r2 =>
 if (decide (r2.2 < 0)) = true then
 (ZaH (min x2 r2.1) x45 x46 x47)
 else
 (if (decide (x3 < 0)) = true then
 (ZaH (min x2 r2.1) x45 x46 x47)
 else
 (Zd4 (min x2 r2.1) x3 r2.2 x45 x46 x47))
theorem ZpB x2 x3 (x45 : List Zj) x46 x47 ox45 : Sim Z49 (Zd3 x2 x3 x45 x46 x47) (Zzv 0 (iv x2) (iv x3) (ZL ox45 (x45.map Z15)) (iv x46) (iv x47) []) := by
 unfold Zd3
 refine zf (ZGz ..)<|ze<|zi fun a1 ha1 => zp (.cptr (ZQ a1 .sh .sh)) (et_ (Z3u (o := ox45) (k := .i64) (n := 7) (e := Z15) (cs := Z3T) Z7H (fun _ => rfl) (by decide) ha1))<|zq<|zz (.ptr 0 0) [(Zv Z2j .nl .nl)]<|zt [(Zv a1 .sh .sh)]<|ze<|zq<|zi fun r2 hr2 => ?_
 obtain ⟨_, er2, _, rfl⟩ := Z9U a1 .sh .sh r2 hr2
 refine zc [] (.p (.tup [(.v (.int .i64 r2.1)), (.v (.int .i64 r2.2))])) [(Zv a1 .sh .sh)] er2<|zq<|zq<|ze<|zp (iv (min x2 r2.1)) (Zfl _ _)<|ze<|zq ?_
 refine za (decide (r2.2 < 0)) ?_ ?_
 ·exact zk (Zif (min x2 r2.1) x45 x46 x47 ox45)
 ·refine zq ?_
  refine za (decide (x3 < 0)) ?_ ?_
  ·exact zk (Zif (min x2 r2.1) x45 x46 x47 ox45)
  ·exact zk (ZpC (min x2 r2.1) x3 r2.2 x45 x46 x47 ox45)
def ZaG (x2 x3 : Int) (x45 : List Zj) (x46 x47 : Int) : Option (Int × Int) :=
 if (decide (x47 < x46)) = true then
 (Zd3 x2 x3 x45 x46 x47)
 else
 (Z9k x2 x3)
theorem ZpA x2 x3 (x45 : List Zj) x46 x47 ox45 : Sim Z49 (ZaG x2 x3 x45 x46 x47) (Zpc 0 (iv x2) (iv x3) (ZL ox45 (x45.map Z15)) (iv x46) (iv x47) []) := by
 unfold ZaG
 refine zf (ZGy ..)<|ze<|zq ?_
 refine za (decide (x47 < x46)) ?_ ?_
 ·exact zk (ZpB x2 x3 x45 x46 x47 ox45)
 ·exact zk (Zay x2 x3)
theorem Zj1 x2 x3 x45 x46 x47 {r} (h : ZaG x2 x3 x45 x46 x47 = some r) : ZaM x2 x3 x45 x46 x47 = some r :=
 Z1f (fun _ _ ha hb => ru_ Zhg (ha .ex) (hb .ex)) (fun ox45 => ZpA x2 x3 x45 x46 x47 ox45 r h)
def Zbu : Option Int :=
 some (0)
theorem Zj3 : Sim ZO Zbu (Ztw 0 []) := by
 unfold Zbu
 refine zf (ZF2 ..)<|ze ?_
 exact zr ((iv 0), []) ⟨_, rfl⟩
def Zbv : Option Int :=
 some (-1)
theorem Zj4 : Sim ZO Zbv (Ztx 0 []) := by
 unfold Zbv
 refine zf (ZF4 ..)<|ze ?_
 exact zr ((iv (-1)), []) ⟨_, rfl⟩
def ZdV (x0 x1 : Int) : Option Int :=
 (Zf7 (IntKind.i64.wrap (x0 * x1))).bind fun r1 =>
 some r1
theorem Zr1 x0 x1 : Sim ZO (ZdV x0 x1) (ZxO 0 (iv x0) (iv x1) []) := by
 unfold ZdV
 refine zf (ZF5 ..)<|ze<|zq<|zi fun r1 hr1 => ?_
 obtain ⟨_, er1, _, rfl⟩ := ZnQ (IntKind.i64.wrap (x0 * x1)) r1 hr1
 refine zc [] (iv r1) [] er1 ?_
 exact zr ((iv r1), []) ⟨_, rfl⟩
def ZdU (x0 x1 : Int) : Option Int :=
 if (decide (x0 < 0)) = true then
 Zbv
 else
 (if (decide (x1 < 0)) = true then
 Zbv
 else
 (ZdV x0 x1))
theorem Zr0 x0 x1 : Sim ZO (ZdU x0 x1) (ZxN 0 (iv x0) (iv x1) []) := by
 unfold ZdU
 refine zf (ZF3 ..)<|ze<|zq ?_
 refine za (decide (x0 < 0)) ?_ ?_
 ·exact zk Zj4
 ·refine zq ?_
  refine za (decide (x1 < 0)) ?_ ?_
  ·exact zk Zj4
  ·exact zk (Zr1 x0 x1)
def Zhn (x0 x1 : Int) : Option Int :=
 if (x0 == 0) = true then
 Zbu
 else
 (if (x1 == 0) = true then
 Zbu
 else
 (ZdU x0 x1))
theorem Zuy x0 x1 : Sim ZO (Zhn x0 x1) (EE 108 [(iv x0), (iv x1)] []) := by
 unfold Zhn
 refine zf (ZLH ..)<|ze<|ze<|zq ?_
 refine za (x0 == 0) ?_ ?_
 ·exact zk Zj3
 ·refine zq ?_
  refine za (x1 == 0) ?_ ?_
  ·exact zk Zj3
  ·exact zk (Zr0 x0 x1)
theorem Zvt x0 x1 {r} (h : Zhn x0 x1 = some r) : Zeg x0 x1 = some r :=
 Z1f (fun _ _ ha hb => ru_ Z2k ha hb) (Zuy x0 x1 r h)
def ZeC (x0 : Int) : Option Int :=
 some x0
theorem Zs0 x0 : Sim ZO (ZeC x0) (Zye 0 (iv x0) []) := by
 unfold ZeC
 refine zf (ZFt ..)<|ze ?_
 exact zr ((iv x0), []) ⟨_, rfl⟩
def ZiM (x0 : Int) : Option Int :=
 if (decide (1048576 < x0)) = true then
 (some (-1))
 else
 (ZeC x0)
theorem Zvs x0 : Sim ZO (ZiM x0) (EE 134 [(iv x0)] []) := by
 unfold ZiM
 refine zf (ZM5 ..)<|ze<|ze<|zq ?_
 refine za (decide (1048576 < x0)) ?_ ?_
 ·refine ze ?_
  exact zr ((iv (-1)), []) ⟨_, rfl⟩
 ·exact zk (Zs0 x0)
theorem Zx3 x0 {r} (h : ZiM x0 = some r) : Zf7 x0 = some r :=
 Z1f (fun _ _ ha hb => ru_ Z2k ha hb) (Zvs x0 r h)
def Zdh : Option Int :=
 some (-1)
theorem Zl9 : Sim ZO Zdh (Ztv 0 []) := by
 unfold Zdh
 refine zf (ZF0 ..)<|ze ?_
 exact zr ((iv (-1)), []) ⟨_, rfl⟩
def Zfv (x0 x1 : Int) : Option Int :=
 (Zf7 (IntKind.i64.wrap (x0 + x1))).bind fun r1 =>
 some r1
theorem ZsQ x0 x1 : Sim ZO (Zfv x0 x1) (ZxJ 0 (iv x0) (iv x1) []) := by
 unfold Zfv
 refine zf (ZF1 ..)<|ze<|zq<|zi fun r1 hr1 => ?_
 obtain ⟨_, er1, _, rfl⟩ := ZnQ (IntKind.i64.wrap (x0 + x1)) r1 hr1
 refine zc [] (iv r1) [] er1 ?_
 exact zr ((iv r1), []) ⟨_, rfl⟩
def ZkA (x0 x1 : Int) : Option Int :=
 if (decide (x0 < 0)) = true then
 Zdh
 else
 (if (decide (x1 < 0)) = true then
 Zdh
 else
 (Zfv x0 x1))
theorem Zx4 x0 x1 : Sim ZO (ZkA x0 x1) (EE 107 [(iv x0), (iv x1)] []) := by
 unfold ZkA
 refine zf (ZLF ..)<|ze<|ze<|zq ?_
 refine za (decide (x0 < 0)) ?_ ?_
 ·exact zk Zl9
 ·refine zq ?_
  refine za (decide (x1 < 0)) ?_ ?_
  ·exact zk Zl9
  ·exact zk (ZsQ x0 x1)
theorem ZzB x0 x1 {r} (h : ZkA x0 x1 = some r) : ZkE x0 x1 = some r :=
 Z1f (fun _ _ ha hb => ru_ Z2k ha hb) (Zx4 x0 x1 r h)
def Z6H (x0 : List Zj) : Option Bool :=
 (Z7X x0).bind fun r1 =>
 some (decide (0 ≤ r1))
theorem Zg9 (x0 : List Zj) ox0 : Sim Z11 (Z6H x0) (EE 94 [(ZL ox0 (x0.map Z15)), (.clo 95 [] [])] []) := by
 unfold Z6H
 refine zf (ZP8 ..)<|ze<|ze<|zi fun r1 hr1 => ?_
 obtain ⟨_, er1, _, rfl⟩ := Zj6 x0 .sh r1 hr1
 refine zc [] (iv r1) [] er1<|zq ?_
 exact zr ((bv (decide (0 ≤ r1))), []) ⟨_, rfl⟩
theorem ZgP x0 {r} (h : Z6H x0 = some r) : Z6Q x0 = some r :=
 Z1f (fun _ _ ha hb => ru_ Z2p (ha .ex) (hb .ex)) (fun ox0 => Zg9 x0 ox0 r h)
def Z7S (x0 : List Zj) : Option Int :=
 Z5s x0 (x0.length : Int) 0
theorem Ziw (x0 : List Zj) ox0 : Sim ZO (Z7S x0) (EE 109 [(ZL ox0 (x0.map Z15)), (.clo 95 [] [])] []) := by
 unfold Z7S
 refine zf (ZLJ ..)<|ze<|ze<|zp (iv (x0.length : Int)) (et_ (Z2M (P := PP) (t := 96) (d := 98) (by kernel_rfl) Z15 (shrO ox0) x0)) ?_
 exact zk (Zb8 x0 (x0.length : Int) 0 ox0)
theorem Zj5 x0 {r} (h : Z7S x0 = some r) : Z7X x0 = some r :=
 Z1f (fun _ _ ha hb => ru_ Z2k (ha .ex) (hb .ex)) (fun ox0 => Ziw x0 ox0 r h)
def Z6L (x0 : List Zj) (x7 x8 : Int) : Option Int :=
 Z5s x0 x7 (IntKind.i64.wrap (x8 + 1))
theorem Zgj (x0 : List Zj) x7 x8 ox0 : Sim ZO (Z6L x0 x7 x8) (ZxT 0 (ZL ox0 (x0.map Z15)) (.clo 95 [] []) (iv x7) (iv x8) []) := by
 unfold Z6L
 refine zf (ZF8 ..)<|ze<|zq ?_
 exact zk (Zb8 x0 x7 (IntKind.i64.wrap (x8 + 1)) ox0)
def Z5k (x0 : List Zj) (x7 x8 : Int) : Option Int :=
 (lget x0 x8).bind fun a1 =>
 (Zda a1).bind fun r2 =>
 if r2 = true then
 (some x8)
 else
 (Z6L x0 x7 x8)
theorem Zgi (x0 : List Zj) x7 x8 ox0 : Sim ZO (Z5k x0 x7 x8) (ZxS 0 (ZL ox0 (x0.map Z15)) (.clo 95 [] []) (iv x7) (iv x8) []) := by
 unfold Z5k
 refine zf (ZF7 ..)<|ze<|ze<|zi fun a1 ha1 => zp (.cptr (ZQ a1 .sh .sh)) (et_ (Z3u (o := (shrO ox0)) (k := .i64) (n := 7) (e := Z15) (cs := Z3T) Z7H (fun _ => rfl) (by decide) ha1))<|zq<|zi fun r2 hr2 => ?_
 obtain ⟨_, er2, _, rfl⟩ := ZqZ a1 .sh .sh r2 hr2
 refine zv [] (bv r2) [] er2 ?_
 refine za r2 ?_ ?_
 ·refine ze ?_
  exact zr ((iv x8), []) ⟨_, rfl⟩
 ·exact zk (Zgj x0 x7 x8 ox0)
def Z98 : Option Int :=
 some (-1)
theorem Zgk : Sim ZO Z98 (ZxU 0 []) := by
 unfold Z98
 refine zf (ZF9 ..)<|ze ?_
 exact zr ((iv (-1)), []) ⟨_, rfl⟩
def Z4s (x0 : List Zj) (x7 x8 : Int) : Option Int :=
 if (decide (x8 < x7)) = true then
 (Z5k x0 x7 x8)
 else
 Z98
theorem Zgh (x0 : List Zj) x7 x8 ox0 : Sim ZO (Z4s x0 x7 x8) (ZoO 0 (ZL ox0 (x0.map Z15)) (.clo 95 [] []) (iv x7) (iv x8) []) := by
 unfold Z4s
 refine zf (ZF6 ..)<|ze<|zq ?_
 refine za (decide (x8 < x7)) ?_ ?_
 ·exact zk (Zgi x0 x7 x8 ox0)
 ·exact zk Zgk
theorem Z86 x0 x7 x8 {r} (h : Z4s x0 x7 x8 = some r) : Z5s x0 x7 x8 = some r :=
 Z1f (fun _ _ ha hb => ru_ Z2k (ha .ex) (hb .ex)) (fun ox0 => Zgh x0 x7 x8 ox0 r h)
def Zd5 (x0 : Zj) : Option Bool :=
 (Z5r x0).bind fun r1 =>
 some (!r1)
theorem ZpD x0 z2K z1Z : Sim Z11 (Zd5 x0) (EE 95 [(pA_ (ZQ x0 z2K z1Z))] []) := by
 unfold Zd5
 refine zf (ZP9 ..)<|ze<|zx (.ptr 0 0) [(Zv x0 z2K z1Z)]<|ze<|zq<|zi fun r1 hr1 => ?_
 obtain ⟨_, er1, _, rfl⟩ := Zl8 x0 .sh .sh r1 hr1
 refine zc [] (bv r1) [(Zv x0 z2K z1Z)] er1<|zq ?_
 exact zr ((bv (!r1)), [(Zv x0 z2K z1Z)]) ⟨_, rfl⟩
theorem ZqY x0 {r} (h : Zd5 x0 = some r) : Zda x0 = some r :=
 Z1f (fun _ _ ha hb => ru_ Z2p (ha .ex .ex) (hb .ex .ex)) (fun z2K z1Z => ZpD x0 z2K z1Z r h)
def Zmy (x0 : Zj) : Option Int :=
 Z7W 0 x0.Kids (x0.Kids.length : Int) 0 x0
theorem Zvq x0 z2K z1Z : Sim ZO (Zmy x0) (EE 72 [(pA_ (ZQ x0 z2K z1Z))] []) := by
 unfold Zmy
 refine zf (ZOP ..)<|ze<|zx (.ptr 0 0) [(Zv x0 z2K z1Z)]<|ze<|ze<|zq<|zq<|zp (iv (x0.Kids.length : Int)) (et_ (Z2M (P := PP) (t := 96) (d := 98) (by kernel_rfl) Z15 (shrO z1Z) x0.Kids)) ?_
 exact zk (Zl7 0 x0.Kids (x0.Kids.length : Int) 0 x0 (shrO z1Z) z2K z1Z)
theorem Zj0 x0 {r} (h : Zmy x0 = some r) : Z7m x0 = some r :=
 Z1f (fun _ _ ha hb => ru_ Z2k (ha .ex .ex) (hb .ex .ex)) (fun z2K z1Z => Zvq x0 z2K z1Z r h)
def ZeA (x3 : Int) (x8 : List Zj) (x9 x10 : Int) (b0 : Zj) : Option Int :=
 (lget x8 x10).bind fun a1 =>
 (Z7m a1).bind fun r2 =>
 Z7W (min (IntKind.i64.wrap (x3 + r2)) 1048576) x8 x9 (IntKind.i64.wrap (x10 + 1)) b0
theorem ZrX x3 (x8 : List Zj) x9 x10 b0 ox8 z2C z2c : Sim ZO (ZeA x3 x8 x9 x10 b0) (ZBJ 0 (.ptr 0 0) (iv x3) (ZL ox8 (x8.map Z15)) (iv x9) (iv x10) [(Zv b0 z2C z2c)]) := by
 unfold ZeA
 refine zf (ZIR ..)<|ze<|zi fun a1 ha1 => zp (.cptr (ZQ a1 .sh .sh)) (et_ (Z3u (o := ox8) (k := .i64) (n := 7) (e := Z15) (cs := Z3T) Z7H (fun _ => rfl) (by decide) ha1))<|zq<|zz (.ptr 1 0) [(Zv b0 z2C z2c), (Zv Z2j .nl .nl)]<|zt [(Zv b0 z2C z2c), (Zv a1 .sh .sh)]<|ze<|zq<|zi fun r2 hr2 => ?_
 obtain ⟨_, er2, _, rfl⟩ := ZnP a1 .sh .sh r2 hr2
 refine zc [] (iv r2) [(Zv b0 z2C z2c), (Zv a1 .sh .sh)] er2<|zq<|zp (iv (min (IntKind.i64.wrap (x3 + r2)) 1048576)) (Zfl _ _)<|ze<|zq ?_
 exact zk (Zl7 (min (IntKind.i64.wrap (x3 + r2)) 1048576) x8 x9 (IntKind.i64.wrap (x10 + 1)) b0 ox8 z2C z2c)
def Z2b (x3 : Int) : Option Int :=
 some (min x3 1048576)
theorem Z2h x3 : Sim ZO (Z2b x3) (Z5h 0 (iv x3) []) := by
 unfold Z2b
 refine zf (ZGw ..)<|ze<|zp (iv (min x3 1048576)) (Zfl _ _) ?_
 exact zr ((iv (min x3 1048576)), []) ⟨_, rfl⟩
def Z2v (x3 : Int) (b0 : Zj) : Option Int :=
 if (b0.Mode == 2) = true then
 (Z2b (IntKind.i64.wrap (x3 + 2)))
 else
 (Z2b x3)
theorem Z2E x3 b0 z2C z2c : Sim ZO (Z2v x3 b0) (Z6Y 0 (.ptr 0 0) (iv x3) [(Zv b0 z2C z2c)]) := by
 unfold Z2v
 refine zf (ZGv ..)<|ze<|zq<|zq<|zq ?_
 refine za (b0.Mode == 2) ?_ ?_
 ·refine ze<|zq ?_
  exact zk (Z2h (IntKind.i64.wrap (x3 + 2)))
 ·exact zk (Z2h x3)
def Z6G (x3 : Int) (b0 : Zj) : Option Int :=
 if (b0.Kind == 1) = true then
 (if (b0.Kind == 1) = true then
 (some (1))
 else
 (if (b0.Kind == 3) = true then
 (Z2b ((IntKind.i64.wrap (x3 + (IntKind.i64.wrap (2 * (IntKind.i64.wrap ((b0.Kids.length : Int) - 1))))))))
 else
 (if (b0.Kind == 5) = true then
 (if (b0.Kind == 5) = true then
 (Z2b (IntKind.i64.wrap (x3 + 2)))
 else
 (if (b0.Kind == 4) = true then
 (if (decide (b0.Hi < 0)) = true then
 (Z2v (IntKind.i64.wrap ((IntKind.i64.wrap (b0.Lo * x3)) + (IntKind.i64.wrap (x3 + 4)))) b0)
 else
 (Z2v ((IntKind.i64.wrap ((IntKind.i64.wrap (b0.Lo * x3)) + (IntKind.i64.wrap ((IntKind.i64.wrap (b0.Hi - b0.Lo)) * (IntKind.i64.wrap (x3 + 1))))))) b0))
 else
 (Z2b x3)))
 else
 (if (b0.Kind == 7) = true then
 (if (b0.Kind == 7) = true then
 (Z2b (IntKind.i64.wrap (x3 + 2)))
 else
 (if (b0.Kind == 4) = true then
 (if (decide (b0.Hi < 0)) = true then
 (Z2v (IntKind.i64.wrap ((IntKind.i64.wrap (b0.Lo * x3)) + (IntKind.i64.wrap (x3 + 4)))) b0)
 else
 (Z2v ((IntKind.i64.wrap ((IntKind.i64.wrap (b0.Lo * x3)) + (IntKind.i64.wrap ((IntKind.i64.wrap (b0.Hi - b0.Lo)) * (IntKind.i64.wrap (x3 + 1))))))) b0))
 else
 (Z2b x3)))
 else
 (if (b0.Kind == 8) = true then
 (Z2b (IntKind.i64.wrap (x3 + 2)))
 else
 (if (b0.Kind == 4) = true then
 (if (decide (b0.Hi < 0)) = true then
 (Z2v (IntKind.i64.wrap ((IntKind.i64.wrap (b0.Lo * x3)) + (IntKind.i64.wrap (x3 + 4)))) b0)
 else
 (Z2v ((IntKind.i64.wrap ((IntKind.i64.wrap (b0.Lo * x3)) + (IntKind.i64.wrap ((IntKind.i64.wrap (b0.Hi - b0.Lo)) * (IntKind.i64.wrap (x3 + 1))))))) b0))
 else
 (Z2b x3)))))))
 else
 (if (b0.Kind == 6) = true then
 (if (b0.Kind == 6) = true then
 (some (1))
 else
 (if (b0.Kind == 3) = true then
 (Z2b ((IntKind.i64.wrap (x3 + (IntKind.i64.wrap (2 * (IntKind.i64.wrap ((b0.Kids.length : Int) - 1))))))))
 else
 (if (b0.Kind == 5) = true then
 (if (b0.Kind == 5) = true then
 (Z2b (IntKind.i64.wrap (x3 + 2)))
 else
 (if (b0.Kind == 4) = true then
 (if (decide (b0.Hi < 0)) = true then
 (Z2v (IntKind.i64.wrap ((IntKind.i64.wrap (b0.Lo * x3)) + (IntKind.i64.wrap (x3 + 4)))) b0)
 else
 (Z2v ((IntKind.i64.wrap ((IntKind.i64.wrap (b0.Lo * x3)) + (IntKind.i64.wrap ((IntKind.i64.wrap (b0.Hi - b0.Lo)) * (IntKind.i64.wrap (x3 + 1))))))) b0))
 else
 (Z2b x3)))
 else
 (if (b0.Kind == 7) = true then
 (if (b0.Kind == 7) = true then
 (Z2b (IntKind.i64.wrap (x3 + 2)))
 else
 (if (b0.Kind == 4) = true then
 (if (decide (b0.Hi < 0)) = true then
 (Z2v (IntKind.i64.wrap ((IntKind.i64.wrap (b0.Lo * x3)) + (IntKind.i64.wrap (x3 + 4)))) b0)
 else
 (Z2v ((IntKind.i64.wrap ((IntKind.i64.wrap (b0.Lo * x3)) + (IntKind.i64.wrap ((IntKind.i64.wrap (b0.Hi - b0.Lo)) * (IntKind.i64.wrap (x3 + 1))))))) b0))
 else
 (Z2b x3)))
 else
 (if (b0.Kind == 8) = true then
 (Z2b (IntKind.i64.wrap (x3 + 2)))
 else
 (if (b0.Kind == 4) = true then
 (if (decide (b0.Hi < 0)) = true then
 (Z2v (IntKind.i64.wrap ((IntKind.i64.wrap (b0.Lo * x3)) + (IntKind.i64.wrap (x3 + 4)))) b0)
 else
 (Z2v ((IntKind.i64.wrap ((IntKind.i64.wrap (b0.Lo * x3)) + (IntKind.i64.wrap ((IntKind.i64.wrap (b0.Hi - b0.Lo)) * (IntKind.i64.wrap (x3 + 1))))))) b0))
 else
 (Z2b x3)))))))
 else
 (if (b0.Kind == 9) = true then
 (some (1))
 else
 (if (b0.Kind == 3) = true then
 (Z2b ((IntKind.i64.wrap (x3 + (IntKind.i64.wrap (2 * (IntKind.i64.wrap ((b0.Kids.length : Int) - 1))))))))
 else
 (if (b0.Kind == 5) = true then
 (if (b0.Kind == 5) = true then
 (Z2b (IntKind.i64.wrap (x3 + 2)))
 else
 (if (b0.Kind == 4) = true then
 (if (decide (b0.Hi < 0)) = true then
 (Z2v (IntKind.i64.wrap ((IntKind.i64.wrap (b0.Lo * x3)) + (IntKind.i64.wrap (x3 + 4)))) b0)
 else
 (Z2v ((IntKind.i64.wrap ((IntKind.i64.wrap (b0.Lo * x3)) + (IntKind.i64.wrap ((IntKind.i64.wrap (b0.Hi - b0.Lo)) * (IntKind.i64.wrap (x3 + 1))))))) b0))
 else
 (Z2b x3)))
 else
 (if (b0.Kind == 7) = true then
 (if (b0.Kind == 7) = true then
 (Z2b (IntKind.i64.wrap (x3 + 2)))
 else
 (if (b0.Kind == 4) = true then
 (if (decide (b0.Hi < 0)) = true then
 (Z2v (IntKind.i64.wrap ((IntKind.i64.wrap (b0.Lo * x3)) + (IntKind.i64.wrap (x3 + 4)))) b0)
 else
 (Z2v ((IntKind.i64.wrap ((IntKind.i64.wrap (b0.Lo * x3)) + (IntKind.i64.wrap ((IntKind.i64.wrap (b0.Hi - b0.Lo)) * (IntKind.i64.wrap (x3 + 1))))))) b0))
 else
 (Z2b x3)))
 else
 (if (b0.Kind == 8) = true then
 (Z2b (IntKind.i64.wrap (x3 + 2)))
 else
 (if (b0.Kind == 4) = true then
 (if (decide (b0.Hi < 0)) = true then
 (Z2v (IntKind.i64.wrap ((IntKind.i64.wrap (b0.Lo * x3)) + (IntKind.i64.wrap (x3 + 4)))) b0)
 else
 (Z2v ((IntKind.i64.wrap ((IntKind.i64.wrap (b0.Lo * x3)) + (IntKind.i64.wrap ((IntKind.i64.wrap (b0.Hi - b0.Lo)) * (IntKind.i64.wrap (x3 + 1))))))) b0))
 else
 (Z2b x3))))))))
theorem ZrY x3 b0 z2C z2c : Sim ZO (Z6G x3 b0) (ZBK 0 (.ptr 0 0) (iv x3) [(Zv b0 z2C z2c)]) := by
 unfold Z6G
 refine zf (ZIS ..)<|ze<|zq<|zq<|ze<|zq ?_
 refine za (b0.Kind == 1) ?_ ?_
 ·refine za (b0.Kind == 1) ?_ ?_
  ·refine ze ?_
   exact zr ((iv 1), [(Zv b0 z2C z2c)]) ⟨_, rfl⟩
  ·refine ze<|zq ?_
   refine za (b0.Kind == 3) ?_ ?_
   ·refine ze<|zq<|zq<|zp (iv (b0.Kids.length : Int)) (et_ (Z2M (P := PP) (t := 96) (d := 98) (by kernel_rfl) Z15 (shrO z2c) b0.Kids))<|zq<|zq<|zq ?_
    exact zk (Z2h ((IntKind.i64.wrap (x3 + (IntKind.i64.wrap (2 * (IntKind.i64.wrap ((b0.Kids.length : Int) - 1))))))))
   ·refine ze<|zq ?_
    refine za (b0.Kind == 5) ?_ ?_
    ·refine za (b0.Kind == 5) ?_ ?_
     ·refine ze<|zq ?_
      exact zk (Z2h (IntKind.i64.wrap (x3 + 2)))
     ·refine ze<|zq ?_
      refine za (b0.Kind == 4) ?_ ?_
      ·refine ze<|ze<|zq<|zq<|zq<|ze<|zq<|zq<|zq ?_
       refine za (decide (b0.Hi < 0)) ?_ ?_
       ·refine ze<|zq<|zq ?_
        exact zk (Z2E (IntKind.i64.wrap ((IntKind.i64.wrap (b0.Lo * x3)) + (IntKind.i64.wrap (x3 + 4)))) b0 z2C z2c)
       ·refine ze<|zq<|zq<|zq<|zq<|zq<|zq<|zq<|zq ?_
        exact zk (Z2E ((IntKind.i64.wrap ((IntKind.i64.wrap (b0.Lo * x3)) + (IntKind.i64.wrap ((IntKind.i64.wrap (b0.Hi - b0.Lo)) * (IntKind.i64.wrap (x3 + 1))))))) b0 z2C z2c)
      ·exact zk (Z2h x3)
    ·refine ze<|zq ?_
     refine za (b0.Kind == 7) ?_ ?_
     ·refine za (b0.Kind == 7) ?_ ?_
      ·refine ze<|zq ?_
       exact zk (Z2h (IntKind.i64.wrap (x3 + 2)))
      ·refine ze<|zq ?_
       refine za (b0.Kind == 4) ?_ ?_
       ·refine ze<|ze<|zq<|zq<|zq<|ze<|zq<|zq<|zq ?_
        refine za (decide (b0.Hi < 0)) ?_ ?_
        ·refine ze<|zq<|zq ?_
         exact zk (Z2E (IntKind.i64.wrap ((IntKind.i64.wrap (b0.Lo * x3)) + (IntKind.i64.wrap (x3 + 4)))) b0 z2C z2c)
        ·refine ze<|zq<|zq<|zq<|zq<|zq<|zq<|zq<|zq ?_
         exact zk (Z2E ((IntKind.i64.wrap ((IntKind.i64.wrap (b0.Lo * x3)) + (IntKind.i64.wrap ((IntKind.i64.wrap (b0.Hi - b0.Lo)) * (IntKind.i64.wrap (x3 + 1))))))) b0 z2C z2c)
       ·exact zk (Z2h x3)
     ·refine ze<|zq ?_
      refine za (b0.Kind == 8) ?_ ?_
      ·refine ze<|zq ?_
       exact zk (Z2h (IntKind.i64.wrap (x3 + 2)))
      ·refine ze<|zq ?_
       refine za (b0.Kind == 4) ?_ ?_
       ·refine ze<|ze<|zq<|zq<|zq<|ze<|zq<|zq<|zq ?_
        refine za (decide (b0.Hi < 0)) ?_ ?_
        ·refine ze<|zq<|zq ?_
         exact zk (Z2E (IntKind.i64.wrap ((IntKind.i64.wrap (b0.Lo * x3)) + (IntKind.i64.wrap (x3 + 4)))) b0 z2C z2c)
        ·refine ze<|zq<|zq<|zq<|zq<|zq<|zq<|zq<|zq ?_
         exact zk (Z2E ((IntKind.i64.wrap ((IntKind.i64.wrap (b0.Lo * x3)) + (IntKind.i64.wrap ((IntKind.i64.wrap (b0.Hi - b0.Lo)) * (IntKind.i64.wrap (x3 + 1))))))) b0 z2C z2c)
       ·exact zk (Z2h x3)
 ·refine ze<|zq ?_
  refine za (b0.Kind == 6) ?_ ?_
  ·refine za (b0.Kind == 6) ?_ ?_
   ·refine ze ?_
    exact zr ((iv 1), [(Zv b0 z2C z2c)]) ⟨_, rfl⟩
   ·refine ze<|zq ?_
    refine za (b0.Kind == 3) ?_ ?_
    ·refine ze<|zq<|zq<|zp (iv (b0.Kids.length : Int)) (et_ (Z2M (P := PP) (t := 96) (d := 98) (by kernel_rfl) Z15 (shrO z2c) b0.Kids))<|zq<|zq<|zq ?_
     exact zk (Z2h ((IntKind.i64.wrap (x3 + (IntKind.i64.wrap (2 * (IntKind.i64.wrap ((b0.Kids.length : Int) - 1))))))))
    ·refine ze<|zq ?_
     refine za (b0.Kind == 5) ?_ ?_
     ·refine za (b0.Kind == 5) ?_ ?_
      ·refine ze<|zq ?_
       exact zk (Z2h (IntKind.i64.wrap (x3 + 2)))
      ·refine ze<|zq ?_
       refine za (b0.Kind == 4) ?_ ?_
       ·refine ze<|ze<|zq<|zq<|zq<|ze<|zq<|zq<|zq ?_
        refine za (decide (b0.Hi < 0)) ?_ ?_
        ·refine ze<|zq<|zq ?_
         exact zk (Z2E (IntKind.i64.wrap ((IntKind.i64.wrap (b0.Lo * x3)) + (IntKind.i64.wrap (x3 + 4)))) b0 z2C z2c)
        ·refine ze<|zq<|zq<|zq<|zq<|zq<|zq<|zq<|zq ?_
         exact zk (Z2E ((IntKind.i64.wrap ((IntKind.i64.wrap (b0.Lo * x3)) + (IntKind.i64.wrap ((IntKind.i64.wrap (b0.Hi - b0.Lo)) * (IntKind.i64.wrap (x3 + 1))))))) b0 z2C z2c)
       ·exact zk (Z2h x3)
     ·refine ze<|zq ?_
      refine za (b0.Kind == 7) ?_ ?_
      ·refine za (b0.Kind == 7) ?_ ?_
       ·refine ze<|zq ?_
        exact zk (Z2h (IntKind.i64.wrap (x3 + 2)))
       ·refine ze<|zq ?_
        refine za (b0.Kind == 4) ?_ ?_
        ·refine ze<|ze<|zq<|zq<|zq<|ze<|zq<|zq<|zq ?_
         refine za (decide (b0.Hi < 0)) ?_ ?_
         ·refine ze<|zq<|zq ?_
          exact zk (Z2E (IntKind.i64.wrap ((IntKind.i64.wrap (b0.Lo * x3)) + (IntKind.i64.wrap (x3 + 4)))) b0 z2C z2c)
         ·refine ze<|zq<|zq<|zq<|zq<|zq<|zq<|zq<|zq ?_
          exact zk (Z2E ((IntKind.i64.wrap ((IntKind.i64.wrap (b0.Lo * x3)) + (IntKind.i64.wrap ((IntKind.i64.wrap (b0.Hi - b0.Lo)) * (IntKind.i64.wrap (x3 + 1))))))) b0 z2C z2c)
        ·exact zk (Z2h x3)
      ·refine ze<|zq ?_
       refine za (b0.Kind == 8) ?_ ?_
       ·refine ze<|zq ?_
        exact zk (Z2h (IntKind.i64.wrap (x3 + 2)))
       ·refine ze<|zq ?_
        refine za (b0.Kind == 4) ?_ ?_
        ·refine ze<|ze<|zq<|zq<|zq<|ze<|zq<|zq<|zq ?_
         refine za (decide (b0.Hi < 0)) ?_ ?_
         ·refine ze<|zq<|zq ?_
          exact zk (Z2E (IntKind.i64.wrap ((IntKind.i64.wrap (b0.Lo * x3)) + (IntKind.i64.wrap (x3 + 4)))) b0 z2C z2c)
         ·refine ze<|zq<|zq<|zq<|zq<|zq<|zq<|zq<|zq ?_
          exact zk (Z2E ((IntKind.i64.wrap ((IntKind.i64.wrap (b0.Lo * x3)) + (IntKind.i64.wrap ((IntKind.i64.wrap (b0.Hi - b0.Lo)) * (IntKind.i64.wrap (x3 + 1))))))) b0 z2C z2c)
        ·exact zk (Z2h x3)
  ·refine ze<|zq ?_
   refine za (b0.Kind == 9) ?_ ?_
   ·refine ze ?_
    exact zr ((iv 1), [(Zv b0 z2C z2c)]) ⟨_, rfl⟩
   ·refine ze<|zq ?_
    refine za (b0.Kind == 3) ?_ ?_
    ·refine ze<|zq<|zq<|zp (iv (b0.Kids.length : Int)) (et_ (Z2M (P := PP) (t := 96) (d := 98) (by kernel_rfl) Z15 (shrO z2c) b0.Kids))<|zq<|zq<|zq ?_
     exact zk (Z2h ((IntKind.i64.wrap (x3 + (IntKind.i64.wrap (2 * (IntKind.i64.wrap ((b0.Kids.length : Int) - 1))))))))
    ·refine ze<|zq ?_
     refine za (b0.Kind == 5) ?_ ?_
     ·refine za (b0.Kind == 5) ?_ ?_
      ·refine ze<|zq ?_
       exact zk (Z2h (IntKind.i64.wrap (x3 + 2)))
      ·refine ze<|zq ?_
       refine za (b0.Kind == 4) ?_ ?_
       ·refine ze<|ze<|zq<|zq<|zq<|ze<|zq<|zq<|zq ?_
        refine za (decide (b0.Hi < 0)) ?_ ?_
        ·refine ze<|zq<|zq ?_
         exact zk (Z2E (IntKind.i64.wrap ((IntKind.i64.wrap (b0.Lo * x3)) + (IntKind.i64.wrap (x3 + 4)))) b0 z2C z2c)
        ·refine ze<|zq<|zq<|zq<|zq<|zq<|zq<|zq<|zq ?_
         exact zk (Z2E ((IntKind.i64.wrap ((IntKind.i64.wrap (b0.Lo * x3)) + (IntKind.i64.wrap ((IntKind.i64.wrap (b0.Hi - b0.Lo)) * (IntKind.i64.wrap (x3 + 1))))))) b0 z2C z2c)
       ·exact zk (Z2h x3)
     ·refine ze<|zq ?_
      refine za (b0.Kind == 7) ?_ ?_
      ·refine za (b0.Kind == 7) ?_ ?_
       ·refine ze<|zq ?_
        exact zk (Z2h (IntKind.i64.wrap (x3 + 2)))
       ·refine ze<|zq ?_
        refine za (b0.Kind == 4) ?_ ?_
        ·refine ze<|ze<|zq<|zq<|zq<|ze<|zq<|zq<|zq ?_
         refine za (decide (b0.Hi < 0)) ?_ ?_
         ·refine ze<|zq<|zq ?_
          exact zk (Z2E (IntKind.i64.wrap ((IntKind.i64.wrap (b0.Lo * x3)) + (IntKind.i64.wrap (x3 + 4)))) b0 z2C z2c)
         ·refine ze<|zq<|zq<|zq<|zq<|zq<|zq<|zq<|zq ?_
          exact zk (Z2E ((IntKind.i64.wrap ((IntKind.i64.wrap (b0.Lo * x3)) + (IntKind.i64.wrap ((IntKind.i64.wrap (b0.Hi - b0.Lo)) * (IntKind.i64.wrap (x3 + 1))))))) b0 z2C z2c)
        ·exact zk (Z2h x3)
      ·refine ze<|zq ?_
       refine za (b0.Kind == 8) ?_ ?_
       ·refine ze<|zq ?_
        exact zk (Z2h (IntKind.i64.wrap (x3 + 2)))
       ·refine ze<|zq ?_
        refine za (b0.Kind == 4) ?_ ?_
        ·refine ze<|ze<|zq<|zq<|zq<|ze<|zq<|zq<|zq ?_
         refine za (decide (b0.Hi < 0)) ?_ ?_
         ·refine ze<|zq<|zq ?_
          exact zk (Z2E (IntKind.i64.wrap ((IntKind.i64.wrap (b0.Lo * x3)) + (IntKind.i64.wrap (x3 + 4)))) b0 z2C z2c)
         ·refine ze<|zq<|zq<|zq<|zq<|zq<|zq<|zq<|zq ?_
          exact zk (Z2E ((IntKind.i64.wrap ((IntKind.i64.wrap (b0.Lo * x3)) + (IntKind.i64.wrap ((IntKind.i64.wrap (b0.Hi - b0.Lo)) * (IntKind.i64.wrap (x3 + 1))))))) b0 z2C z2c)
        ·exact zk (Z2h x3)
def Zco (x3 : Int) (x8 : List Zj) (x9 x10 : Int) (b0 : Zj) : Option Int :=
 if (decide (x10 < x9)) = true then
 (ZeA x3 x8 x9 x10 b0)
 else
 (Z6G x3 b0)
theorem ZrW x3 (x8 : List Zj) x9 x10 b0 ox8 z2C z2c : Sim ZO (Zco x3 x8 x9 x10 b0) (Zss 0 (.ptr 0 0) (iv x3) (ZL ox8 (x8.map Z15)) (iv x9) (iv x10) [(Zv b0 z2C z2c)]) := by
 unfold Zco
 refine zf (ZIQ ..)<|ze<|zq ?_
 refine za (decide (x10 < x9)) ?_ ?_
 ·exact zk (ZrX x3 x8 x9 x10 b0 ox8 z2C z2c)
 ·exact zk (ZrY x3 b0 z2C z2c)
theorem Zl6 x3 x8 x9 x10 b0 {r} (h : Zco x3 x8 x9 x10 b0 = some r) : Z7W x3 x8 x9 x10 b0 = some r :=
 Z1f (fun _ _ ha hb => ru_ Z2k (ha .ex .ex .ex) (hb .ex .ex .ex)) (fun ox8 z2C z2c => ZrW x3 x8 x9 x10 b0 ox8 z2C z2c r h)
def Z74 (zU : List ZE) : Option Int :=
 some (IntKind.i64.wrap ((zU.length : Int) - 1))
theorem ZgI (zU : List ZE) z1W zZ z1E (z3K : ZV z1E = true) : Sim (Z73 zU z1W zZ z1E) (Z74 zU) (EE 35 [(.ptr 0 0)] [[(ZL z1E (zU.map ZH)), (.mp 1), (iv z1W)], (rM_ ZF zZ)]) := by
 unfold Z74
 refine zf (ZOo ..)<|ze<|ze<|zq<|zq<|zq<|zp (iv (zU.length : Int)) (et_ (Z2M (P := PP) (t := 121) (d := 24) (by kernel_rfl) ZH (shrO z1E) zU))<|zq ?_
 exact zr ((iv (IntKind.i64.wrap ((zU.length : Int) - 1))), [[(ZL z1E (zU.map ZH)), (.mp 1), (iv z1W)], (rM_ ZF zZ)]) ⟨_, rfl⟩
theorem ZhF zU {r} (h : Z74 zU = some r) : Z3E zU = some r :=
 Z1f (fun _ _ ha hb => ru_ (Zio _ _ _ _) (ha default default .ex rfl) (hb default default .ex rfl)) (fun z1W zZ z1E z3K => ZgI zU z1W zZ z1E z3K r h)
def Z9v (x0 : List Z10) : Option Bool :=
 Z5i x0 x0 (x0.length : Int) 0
theorem ZkU (x0 : List Z10) ox0 : Sim Z11 (Z9v x0) (EE 30 [(ZL ox0 (x0.map Z1S))] []) := by
 unfold Z9v
 refine zf (ZOg ..)<|ze<|ze<|zp (iv (x0.length : Int)) (et_ (Z2M (P := PP) (t := 59) (d := 61) (by kernel_rfl) Z1S (shrO ox0) x0)) ?_
 exact zk (ZcO x0 x0 (x0.length : Int) 0 ox0 (shrO ox0))
theorem Zlu x0 {r} (h : Z9v x0 = some r) : Z9w x0 = some r :=
 Z1f (fun _ _ ha hb => ru_ Z2p (ha .ex) (hb .ex)) (fun ox0 => ZkU x0 ox0 r h)
def Z5g : Option Bool :=
 some false
theorem Zcw : Sim Z11 Z5g (Zww 0 []) := by
 unfold Z5g
 refine zf (ZIn ..)<|ze ?_
 exact zr ((bv false), []) ⟨_, rfl⟩
def Z8c (x0 x7 : List Z10) (x8 x9 : Int) (b0 : Z10) : Option Bool :=
 Z6d x0 x7 x8 x9 b0.Delta.Put (b0.Delta.Put.length : Int) 0
theorem ZiW (x0 x7 : List Z10) x8 x9 b0 ox0 ox7 zhu zzF : Sim Z11 (Z8c x0 x7 x8 x9 b0) (ZBg 0 (ZL ox0 (x0.map Z1S)) (.ptr 0 0) (ZL ox7 (x7.map Z1S)) (iv x8) (iv x9) [(Z1r b0 zhu zzF)]) := by
 unfold Z8c
 refine zf (ZIo ..)<|ze<|zq<|zq<|zq<|zp (iv (b0.Delta.Put.length : Int)) (et_ (Z2M (P := PP) (t := 22) (d := 43) (by kernel_rfl) ZG (shrO zhu) b0.Delta.Put)) ?_
 exact zk (ZcP x0 x7 x8 x9 b0.Delta.Put (b0.Delta.Put.length : Int) 0 ox0 ox7 (shrO zhu))
def Z5f (x0 x7 : List Z10) (x8 x9 : Int) : Option Bool :=
 (lget x7 x9).bind fun a1 =>
 if (decide (20 < (a1.Delta.Put.length : Int))) = true then
 Z5g
 else
 (if (decide (20 < (a1.Delta.Drop.length : Int))) = true then
 Z5g
 else
 (Z8c x0 x7 x8 x9 a1))
theorem ZiV (x0 x7 : List Z10) x8 x9 ox0 ox7 : Sim Z11 (Z5f x0 x7 x8 x9) (ZBf 0 (ZL ox0 (x0.map Z1S)) (ZL ox7 (x7.map Z1S)) (iv x8) (iv x9) []) := by
 unfold Z5f
 refine zf (ZIm ..)<|ze<|zi fun a1 ha1 => zp (.cptr (Z3H a1 .sh .sh)) (et_ (Z3u (o := ox7) (k := .i64) (n := 9) (e := Z1S) (cs := ZaA) (fun _ => rfl) (fun _ => rfl) (by decide) ha1))<|zq<|zz (.ptr 0 0) [(Z1r ZL6 .nl .nl)]<|zt [(Z1r a1 .sh .sh)]<|ze<|zq<|zq<|zq<|zp (iv (a1.Delta.Put.length : Int)) (et_ (Z2M (P := PP) (t := 22) (d := 43) (by kernel_rfl) ZG .sh a1.Delta.Put))<|zq ?_
 refine za (decide (20 < (a1.Delta.Put.length : Int))) ?_ ?_
 ·exact zk Zcw
 ·refine zq<|zq<|zq<|zp (iv (a1.Delta.Drop.length : Int)) (et_ (Z2M (P := PP) (t := 27) (d := 3) (by kernel_rfl) (eI .i64) .sh a1.Delta.Drop))<|zq ?_
  refine za (decide (20 < (a1.Delta.Drop.length : Int))) ?_ ?_
  ·exact zk Zcw
  ·exact zk (ZiW x0 x7 x8 x9 a1 ox0 ox7 .sh .sh)
def Z7R (x0 : List Z10) : Option Bool :=
 some (decide ((x0.length : Int) ≤ 70))
theorem Zit (x0 : List Z10) ox0 : Sim Z11 (Z7R x0) (Zzp 0 (ZL ox0 (x0.map Z1S)) []) := by
 unfold Z7R
 refine zf (ZGq ..)<|ze<|zp (iv (x0.length : Int)) (et_ (Z2M (P := PP) (t := 59) (d := 61) (by kernel_rfl) Z1S (shrO ox0) x0))<|zq ?_
 exact zr ((bv (decide ((x0.length : Int) ≤ 70))), []) ⟨_, rfl⟩
def Z4x (x0 x7 : List Z10) (x8 x9 : Int) : Option Bool :=
 if (decide (x9 < x8)) = true then
 (Z5f x0 x7 x8 x9)
 else
 (Z7R x0)
theorem ZiT (x0 x7 : List Z10) x8 x9 ox0 ox7 : Sim Z11 (Z4x x0 x7 x8 x9) (Zsm 0 (ZL ox0 (x0.map Z1S)) (ZL ox7 (x7.map Z1S)) (iv x8) (iv x9) []) := by
 unfold Z4x
 refine zf (ZIk ..)<|ze<|zq ?_
 refine za (decide (x9 < x8)) ?_ ?_
 ·exact zk (ZiV x0 x7 x8 x9 ox0 ox7)
 ·exact zk (Zit x0 ox0)
theorem Z7a x0 x7 x8 x9 {r} (h : Z4x x0 x7 x8 x9 = some r) : Z5i x0 x7 x8 x9 = some r :=
 Z1f (fun _ _ ha hb => ru_ Z2p (ha .ex .ex) (hb .ex .ex)) (fun ox0 ox7 => ZiT x0 x7 x8 x9 ox0 ox7 r h)
def Z7P (x0 x7 : List Z10) (x8 x9 : Int) (x27 : List ZA) (x28 x29 : Int) : Option Bool :=
 Z6d x0 x7 x8 x9 x27 x28 (IntKind.i64.wrap (x29 + 1))
theorem Zir (x0 x7 : List Z10) x8 x9 (x27 : List ZA) x28 x29 ox0 ox7 ox27 : Sim Z11 (Z7P x0 x7 x8 x9 x27 x28 x29) (Zzn 0 (ZL ox0 (x0.map Z1S)) (ZL ox7 (x7.map Z1S)) (iv x8) (iv x9) (ZL ox27 (x27.map ZG)) (iv x28) (iv x29) []) := by
 unfold Z7P
 refine zf (ZGo ..)<|ze<|zq ?_
 exact zk (ZcP x0 x7 x8 x9 x27 x28 (IntKind.i64.wrap (x29 + 1)) ox0 ox7 ox27)
def Z6c (x0 x7 : List Z10) (x8 x9 : Int) (x27 : List ZA) (x28 x29 : Int) : Option Bool :=
 (lget x27 x29).bind fun a1 =>
 if (decide (300 < (a1.Pattern.size : Int))) = true then
 (some false)
 else
 (Z7P x0 x7 x8 x9 x27 x28 x29)
theorem ZiX (x0 x7 : List Z10) x8 x9 (x27 : List ZA) x28 x29 ox0 ox7 ox27 : Sim Z11 (Z6c x0 x7 x8 x9 x27 x28 x29) (ZBh 0 (ZL ox0 (x0.map Z1S)) (ZL ox7 (x7.map Z1S)) (iv x8) (iv x9) (ZL ox27 (x27.map ZG)) (iv x28) (iv x29) []) := by
 unfold Z6c
 refine zf (ZIp ..)<|ze<|zi fun a1 ha1 => zp (.cptr (Z1Y a1)) (et_ (Z3u (o := ox27) (k := .i64) (n := 5) (e := ZG) (cs := Z4Z) (fun _ => rfl) (fun _ => rfl) (by decide) ha1))<|zq<|zz (.ptr 0 0) [(Z1O (ZA.mk 0 0 0 0 (ByteArray.mk #[])))]<|zt [(Z1O a1)]<|ze<|zq<|zq<|zq<|zq ?_
 refine za (decide (300 < (a1.Pattern.size : Int))) ?_ ?_
 ·refine ze ?_
  exact zr ((bv false), [(Z1O a1)]) ⟨_, rfl⟩
 ·exact zk (Zir x0 x7 x8 x9 x27 x28 x29 ox0 ox7 ox27)
def Z7Q (x0 x7 : List Z10) (x8 x9 : Int) : Option Bool :=
 Z5i x0 x7 x8 (IntKind.i64.wrap (x9 + 1))
theorem Zis (x0 x7 : List Z10) x8 x9 ox0 ox7 : Sim Z11 (Z7Q x0 x7 x8 x9) (Zzo 0 (ZL ox0 (x0.map Z1S)) (ZL ox7 (x7.map Z1S)) (iv x8) (iv x9) []) := by
 unfold Z7Q
 refine zf (ZGp ..)<|ze<|zq ?_
 exact zk (ZcO x0 x7 x8 (IntKind.i64.wrap (x9 + 1)) ox0 ox7)
def Z5e (x0 x7 : List Z10) (x8 x9 : Int) (x27 : List ZA) (x28 x29 : Int) : Option Bool :=
 if (decide (x29 < x28)) = true then
 (Z6c x0 x7 x8 x9 x27 x28 x29)
 else
 (Z7Q x0 x7 x8 x9)
theorem ZiU (x0 x7 : List Z10) x8 x9 (x27 : List ZA) x28 x29 ox0 ox7 ox27 : Sim Z11 (Z5e x0 x7 x8 x9 x27 x28 x29) (Zsn 0 (ZL ox0 (x0.map Z1S)) (ZL ox7 (x7.map Z1S)) (iv x8) (iv x9) (ZL ox27 (x27.map ZG)) (iv x28) (iv x29) []) := by
 unfold Z5e
 refine zf (ZIl ..)<|ze<|zq ?_
 refine za (decide (x29 < x28)) ?_ ?_
 ·exact zk (ZiX x0 x7 x8 x9 x27 x28 x29 ox0 ox7 ox27)
 ·exact zk (Zis x0 x7 x8 x9 ox0 ox7)
theorem Z9t x0 x7 x8 x9 x27 x28 x29 {r} (h : Z5e x0 x7 x8 x9 x27 x28 x29 = some r) : Z6d x0 x7 x8 x9 x27 x28 x29 = some r :=
 Z1f (fun _ _ ha hb => ru_ Z2p (ha .ex .ex .ex) (hb .ex .ex .ex)) (fun ox0 ox7 ox27 => ZiU x0 x7 x8 x9 x27 x28 x29 ox0 ox7 ox27 r h)
def Z5R : Option (ZE × Bool) :=
 some ((ZE.mk 0 0 0 0 ([] : List ZA)), false)
theorem Zbx (zU : List ZE) z1W zZ b2 z1E zN (z3K : ZV z1E = true) (z1u : ZV zN = true) : Sim (Z5B zU z1W zZ z1E) Z5R (ZwC 2 (.ptr 2 0) [[(ZL z1E (zU.map ZH)), (.mp 1), (iv z1W)], (rM_ ZF zZ), (ZB b2 zN)]) := by
 unfold Z5R
 refine zf (ZIu ..)<|ze<|zq<|zt [[(ZL z1E (zU.map ZH)), (.mp 1), (iv z1W)], (rM_ ZF zZ), (ZB Z4j .nl)] ?_
 exact zr ((.p (.tup [(.agg (Z1C Z4j .sh)), (.v (.bool false))])), [[(ZL z1E (zU.map ZH)), (.mp 1), (iv z1W)], (rM_ ZF zZ), (ZB Z4j .nl)]) ⟨_, rfl⟩
def Z7s (x1 : Int) (zU : List ZE) : Option (ZE × Bool) :=
 (lget zU x1).bind fun a1 =>
 (Zes a1.Rules).bind fun r2 =>
 some ((ZE.mk a1.Default a1.Closed a1.Fuel a1.Stack r2), true)
theorem ZhE x1 (zU : List ZE) z1W zZ b2 z1E zN (z3K : ZV z1E = true) (z1u : ZV zN = true) : Sim (Z5B zU z1W zZ z1E) (Z7s x1 zU) (ZBo 2 (.ptr 0 0) (iv x1) (.ptr 2 0) [[(ZL z1E (zU.map ZH)), (.mp 1), (iv z1W)], (rM_ ZF zZ), (ZB b2 zN)]) := by
 unfold Z7s
 refine zf (ZIv ..)<|ze<|zq<|zq<|zq<|zi fun a1 ha1 => zp (.cptr (Z1C a1 .sh)) (et_ (Z3u (o := (shrO z1E)) (k := .i64) (n := 5) (e := ZH) (cs := ZgD) (fun _ => rfl) (fun _ => rfl) (by decide) ha1))<|zq<|zz (.ptr 3 0) [[(ZL z1E (zU.map ZH)), (.mp 1), (iv z1W)], (rM_ ZF zZ), (ZB b2 zN), (ZB Z4j .nl)]<|zt [[(ZL z1E (zU.map ZH)), (.mp 1), (iv z1W)], (rM_ ZF zZ), (ZB b2 zN), (ZB a1 .sh)]<|ze<|zq<|zq<|zi fun r2 hr2 => ?_
 obtain ⟨_, er2, _, rfl⟩ := Zou a1.Rules .sh r2 hr2
 refine zc [] (ZL .sh (r2.map ZG)) [[(ZL z1E (zU.map ZH)), (.mp 1), (iv z1W)], (rM_ ZF zZ), (ZB b2 zN), (ZB a1 .sh)] er2<|zq<|zt [[(ZL z1E (zU.map ZH)), (.mp 1), (iv z1W)], (rM_ ZF zZ), (ZB b2 zN), (Z2F a1.Default a1.Closed a1.Fuel a1.Stack r2 .sh)]<|ze<|zq<|zt [[(ZL z1E (zU.map ZH)), (.mp 1), (iv z1W)], (rM_ ZF zZ), (Z2F a1.Default a1.Closed a1.Fuel a1.Stack r2 .sh), (Z2F a1.Default a1.Closed a1.Fuel a1.Stack r2 .sh)] ?_
 exact zr ((.p (.tup [(.agg (Z1C (ZE.mk a1.Default a1.Closed a1.Fuel a1.Stack r2) .sh)), (.v (.bool true))])), [[(ZL z1E (zU.map ZH)), (.mp 1), (iv z1W)], (rM_ ZF zZ), (Z2F a1.Default a1.Closed a1.Fuel a1.Stack r2 .sh), (Z2F a1.Default a1.Closed a1.Fuel a1.Stack r2 .sh)]) ⟨_, rfl⟩
def Z8N (x1 : Int) (zU : List ZE) : Option (ZE × Bool) :=
 if (decide (x1 < 0)) = true then
 Z5R
 else
 (if (decide ((zU.length : Int) ≤ x1)) = true then
 Z5R
 else
 (Z7s x1 zU))
theorem Zju x1 (zU : List ZE) z1W zZ z1E (z3K : ZV z1E = true) : Sim (Z5B zU z1W zZ z1E) (Z8N x1 zU) (EE 36 [(.ptr 0 0), (iv x1)] [[(ZL z1E (zU.map ZH)), (.mp 1), (iv z1W)], (rM_ ZF zZ)]) := by
 unfold Z8N
 refine zf (ZOp ..)<|ze<|zz (.ptr 2 0) [[(ZL z1E (zU.map ZH)), (.mp 1), (iv z1W)], (rM_ ZF zZ), (ZB Z4j .nl)]<|ze<|zq ?_
 refine za (decide (x1 < 0)) ?_ ?_
 ·exact zk (Zbx zU z1W zZ Z4j z1E .nl z3K rfl)
 ·refine zq<|zq<|zq<|zp (iv (zU.length : Int)) (et_ (Z2M (P := PP) (t := 121) (d := 24) (by kernel_rfl) ZH (shrO z1E) zU))<|zq ?_
  refine za (decide ((zU.length : Int) ≤ x1)) ?_ ?_
  ·exact zk (Zbx zU z1W zZ Z4j z1E .nl z3K rfl)
  ·exact zk (ZhE x1 zU z1W zZ Z4j z1E .nl z3K rfl)
theorem ZjZ x1 zU {r} (h : Z8N x1 zU = some r) : Z6P x1 zU = some r :=
 Z1f (fun _ _ ha hb => ru_ (ZkJ _ _ _ _) (ha default default .ex rfl) (hb default default .ex rfl)) (fun z1W zZ z1E z3K => Zju x1 zU z1W zZ z1E z3K r h)
def Zcj (x0 : ZE) : Option Z1e :=
 Z8G x0.Rules (x0.Rules.length : Int) 0 x0.Default x0.Closed x0.Fuel x0.Stack ([] : List ZA)
theorem Zoe x0 z1a : Sim Z60 (Zcj x0) (EE 19 [(pA_ (Z1C x0 z1a))] []) := by
 unfold Zcj
 refine zf (ZNT ..)<|ze<|zx (.ptr 0 0) [(ZB x0 z1a)]<|zz (.ptr 1 0) [(ZB x0 z1a), (Z1T ZD4 .nl)]<|ze<|zq<|zq<|zq<|zq<|zq<|zq<|zq<|zq<|zq<|zz (.ptr 2 0) [(ZB x0 z1a), (Z1T ZD4 .nl), (Z1T ZD4 .nl)]<|zt [(ZB x0 z1a), (Z1T ZD4 .nl), (Zkj x0.Default x0.Closed x0.Fuel x0.Stack ([] : List ZA) .nl)]<|ze<|zq<|zq<|zp (iv (x0.Rules.length : Int)) (et_ (Z2M (P := PP) (t := 22) (d := 43) (by kernel_rfl) ZG (shrO z1a) x0.Rules)) ?_
 exact zk (ZeT x0.Rules (x0.Rules.length : Int) 0 x0 ZD4 x0.Default x0.Closed x0.Fuel x0.Stack ([] : List ZA) (shrO z1a) z1a .nl .nl rfl rfl)
theorem Zph x0 {r} (h : Zcj x0 = some r) : Zah x0 = some r :=
 Z1f (fun _ _ ha hb => ru_ ZiF (ha .ex) (hb .ex)) (fun z1a => Zoe x0 z1a r h)
def Zas (x16 : List ZA) (x17 x18 z2H z2W z3J z3d : Int) (z3i : List ZA) : Option Z1e :=
 (lget x16 x18).bind fun a1 =>
 (lapp z3i ([a1] : List ZA)).bind fun a2 =>
 Z8G x16 x17 (IntKind.i64.wrap (x18 + 1)) z2H z2W z3J z3d a2
theorem ZlW (x16 : List ZA) x17 x18 b0 b1 z2H z2W z3J z3d z3i ox16 zD z2z zN (za6 : ZV z2z = true) (z1u : ZV zN = true) : Sim Z60 (Zas x16 x17 x18 z2H z2W z3J z3d z3i) (ZAP 0 (.ptr 1 0) (.ptr 2 0) (ZL ox16 (x16.map ZG)) (iv x17) (iv x18) [(ZB b0 zD), (Z1T b1 z2z), (Zkj z2H z2W z3J z3d z3i zN)]) := by
 unfold Zas
 refine zf (ZHX ..)<|ze<|zi fun a1 ha1 => zp (.cptr (Z1Y a1)) (et_ (Z3u (o := ox16) (k := .i64) (n := 5) (e := ZG) (cs := Z4Z) (fun _ => rfl) (fun _ => rfl) (by decide) ha1))<|zq<|zz (.ptr 3 0) [(ZB b0 zD), (Z1T b1 z2z), (Zkj z2H z2W z3J z3d z3i zN), (Z1O (ZA.mk 0 0 0 0 (ByteArray.mk #[])))]<|zt [(ZB b0 zD), (Z1T b1 z2z), (Zkj z2H z2W z3J z3d z3i zN), (Z1O a1)]<|ze<|zq<|zw (ZL zN (z3i.map ZG)) [(ZB b0 zD), (Z1T b1 z2z), (Zkj z2H z2W z3J z3d z3i (shrO zN)), (Z1O a1)]<|zq<|zq<|zi fun a2 ha2 => zp (ZL .un (a2.map ZG)) (Eq.trans (by kernel_rfl) <| Zin (n := 5) (o := zN) (o' := .ex) (e := ZG) (ys := ([a1] : List ZA)) (fun _ => rfl) (by decide) z1u ha2)<|zq<|zt [(ZB b0 zD), (Z1T b1 z2z), (Zkj z2H z2W z3J z3d a2 .un), (Z1O a1)]<|ze<|zq ?_
 exact zk (ZeT x16 x17 (IntKind.i64.wrap (x18 + 1)) b0 b1 z2H z2W z3J z3d a2 ox16 zD z2z .un za6 rfl)
def Zat (z2H z2W z3J z3d : Int) (z3i : List ZA) : Option Z1e :=
 some (Z1e.mk z2H z2W z3J z3d z3i)
theorem ZlX b0 b1 z2H z2W z3J z3d z3i zD z2z zN (za6 : ZV z2z = true) (z1u : ZV zN = true) : Sim Z60 (Zat z2H z2W z3J z3d z3i) (ZAQ 0 (.ptr 1 0) (.ptr 2 0) [(ZB b0 zD), (Z1T b1 z2z), (Zkj z2H z2W z3J z3d z3i zN)]) := by
 unfold Zat
 refine zf (ZHY ..)<|ze<|zq<|zt [(ZB b0 zD), (Zkj z2H z2W z3J z3d z3i (shrO zN)), (Zkj z2H z2W z3J z3d z3i zN)] ?_
 exact zr ((pA_ (Z4k (Z1e.mk z2H z2W z3J z3d z3i) .sh)), [(ZB b0 zD), (Zkj z2H z2W z3J z3d z3i (shrO zN)), (Zkj z2H z2W z3J z3d z3i zN)]) ⟨_, rfl⟩
def Z8t (x16 : List ZA) (x17 x18 z2H z2W z3J z3d : Int) (z3i : List ZA) : Option Z1e :=
 if (decide (x18 < x17)) = true then
 (Zas x16 x17 x18 z2H z2W z3J z3d z3i)
 else
 (Zat z2H z2W z3J z3d z3i)
theorem ZlV (x16 : List ZA) x17 x18 b0 b1 z2H z2W z3J z3d z3i ox16 zD z2z zN (za6 : ZV z2z = true) (z1u : ZV zN = true) : Sim Z60 (Z8t x16 x17 x18 z2H z2W z3J z3d z3i) (Zsg 0 (.ptr 1 0) (.ptr 2 0) (ZL ox16 (x16.map ZG)) (iv x17) (iv x18) [(ZB b0 zD), (Z1T b1 z2z), (Zkj z2H z2W z3J z3d z3i zN)]) := by
 unfold Z8t
 refine zf (ZHW ..)<|ze<|zq ?_
 refine za (decide (x18 < x17)) ?_ ?_
 ·exact zk (ZlW x16 x17 x18 b0 b1 z2H z2W z3J z3d z3i ox16 zD z2z zN za6 z1u)
 ·exact zk (ZlX b0 b1 z2H z2W z3J z3d z3i zD z2z zN za6 z1u)
theorem ZeS x16 x17 x18 z2H z2W z3J z3d z3i {r} (h : Z8t x16 x17 x18 z2H z2W z3J z3d z3i = some r) : Z8G x16 x17 x18 z2H z2W z3J z3d z3i = some r :=
 Z1f (fun _ _ ha hb => ru_ ZiF (ha default default .ex .ex .ex .ex rfl rfl) (hb default default .ex .ex .ex .ex rfl rfl)) (fun b0 b1 ox16 zD z2z zN za6 z1u => ZlV x16 x17 x18 b0 b1 z2H z2W z3J z3d z3i ox16 zD z2z zN za6 z1u r h)
def Z96 : Option Bool :=
 some false
theorem Z9G : Sim Z11 Z96 (ZmH 0 []) := by
 unfold Z96
 refine zf (ZIe ..)<|ze ?_
 exact zr ((bv false), []) ⟨_, rfl⟩
def ZiJ (b0 b1 : Z1e) : Option Bool :=
 Zcy 0 b0 b1
theorem ZrQ b0 b1 zD z2z : Sim Z11 (ZiJ b0 b1) (ZB8 0 (.ptr 0 0) (.ptr 1 0) [(Z1T b0 zD), (Z1T b1 z2z)]) := by
 unfold ZiJ
 refine zf (ZIf ..)<|ze ?_
 exact zk (Zl2 0 b0 b1 zD z2z)
def Z95 (x0 x1 : Z1e) : Option Bool :=
 if (x0.Default != x1.Default) = true then
 Z96
 else
 (if (x0.Closed != x1.Closed) = true then
 Z96
 else
 (if (x0.Fuel != x1.Fuel) = true then
 Z96
 else
 (if (x0.Stack != x1.Stack) = true then
 Z96
 else
 (if ((x0.Rules.length : Int) != (x1.Rules.length : Int)) = true then
 Z96
 else
 (ZiJ x0 x1)))))
theorem Zvi x0 x1 z1a zak : Sim Z11 (Z95 x0 x1) (EE 26 [(pA_ (Z4k x0 z1a)), (pA_ (Z4k x1 zak))] []) := by
 unfold Z95
 refine zf (ZOb ..)<|ze<|zx (.ptr 0 0) [(Z1T x0 z1a)]<|zx (.ptr 1 0) [(Z1T x0 z1a), (Z1T x1 zak)]<|ze<|zq<|zq<|zq<|zq<|zq ?_
 refine za (x0.Default != x1.Default) ?_ ?_
 ·exact zk Z9G
 ·refine zq<|zq<|zq<|zq<|zq ?_
  refine za (x0.Closed != x1.Closed) ?_ ?_
  ·exact zk Z9G
  ·refine zq<|zq<|zq<|zq<|zq ?_
   refine za (x0.Fuel != x1.Fuel) ?_ ?_
   ·exact zk Z9G
   ·refine zq<|zq<|zq<|zq<|zq ?_
    refine za (x0.Stack != x1.Stack) ?_ ?_
    ·exact zk Z9G
    ·refine zq<|zq<|zp (iv (x0.Rules.length : Int)) (et_ (Z2M (P := PP) (t := 38) (d := 93) (by kernel_rfl) ZG (shrO z1a) x0.Rules))<|zq<|zq<|zp (iv (x1.Rules.length : Int)) (et_ (Z2M (P := PP) (t := 38) (d := 93) (by kernel_rfl) ZG (shrO zak) x1.Rules))<|zq ?_
     refine za ((x0.Rules.length : Int) != (x1.Rules.length : Int)) ?_ ?_
     ·exact zk Z9G
     ·exact zk (ZrQ x0 x1 z1a zak)
theorem Zaw x0 x1 {r} (h : Z95 x0 x1 = some r) : Zf3 x0 x1 = some r :=
 Z1f (fun _ _ ha hb => ru_ Z2p (ha .ex .ex) (hb .ex .ex)) (fun z1a zak => Zvi x0 x1 z1a zak r h)
def Zey (x5 : Int) (b0 b1 : Z1e) : Option Bool :=
 Zcy (IntKind.i64.wrap (x5 + 1)) b0 b1
theorem ZrR x5 b0 b1 zD z2z : Sim Z11 (Zey x5 b0 b1) (ZB9 0 (.ptr 0 0) (.ptr 1 0) (iv x5) [(Z1T b0 zD), (Z1T b1 z2z)]) := by
 unfold Zey
 refine zf (ZIg ..)<|ze<|zq ?_
 exact zk (Zl2 (IntKind.i64.wrap (x5 + 1)) b0 b1 zD z2z)
def Zcl (x5 : Int) (b0 b1 : Z1e) : Option Bool :=
 (lget b0.Rules x5).bind fun a1 =>
 (lget b1.Rules x5).bind fun a2 =>
 if ((!((a1.ID == a2.ID) && ((a1.Priority == a2.Priority) && ((a1.Action == a2.Action) && ((a1.Scope == a2.Scope) && ((seq a1.Pattern a2.Pattern) && true))))))) = true then
 (some false)
 else
 (Zey x5 b0 b1)
theorem ZrS x5 b0 b1 zD z2z : Sim Z11 (Zcl x5 b0 b1) (ZBa 0 (.ptr 0 0) (.ptr 1 0) (iv x5) [(Z1T b0 zD), (Z1T b1 z2z)]) := by
 unfold Zcl
 refine zf (ZIh ..)<|ze<|zq<|zq<|zi fun a1 ha1 => zp (.cptr (Z1Y a1)) (et_ (Z3u (o := (shrO zD)) (k := .i64) (n := 5) (e := ZG) (cs := Z4Z) (fun _ => rfl) (fun _ => rfl) (by decide) ha1))<|zq<|zq<|zq<|zi fun a2 ha2 => zp (.cptr (Z1Y a2)) (et_ (Z3u (o := (shrO z2z)) (k := .i64) (n := 5) (e := ZG) (cs := Z4Z) (fun _ => rfl) (fun _ => rfl) (by decide) ha2))<|zq<|zp (bv (!((a1.ID == a2.ID) && ((a1.Priority == a2.Priority) && ((a1.Action == a2.Action) && ((a1.Scope == a2.Scope) && ((seq a1.Pattern a2.Pattern) && true))))))) (Eq.trans (b := xbin PP .neq 93 (pA_ (Z1Y a1)) (pA_ (Z1Y a2))) (by kernel_rfl) (ZNv (by kernel_rfl) (by kernel_rfl) (by kernel_rfl) (by kernel_rfl) (by kernel_rfl))) ?_
 refine za ((!((a1.ID == a2.ID) && ((a1.Priority == a2.Priority) && ((a1.Action == a2.Action) && ((a1.Scope == a2.Scope) && ((seq a1.Pattern a2.Pattern) && true))))))) ?_ ?_
 ·refine ze ?_
  exact zr ((bv false), [(Z1T b0 zD), (Z1T b1 z2z)]) ⟨_, rfl⟩
 ·exact zk (ZrR x5 b0 b1 zD z2z)
def ZiK : Option Bool :=
 some true
theorem ZrT : Sim Z11 ZiK (ZBb 0 []) := by
 unfold ZiK
 refine zf (ZIi ..)<|ze ?_
 exact zr ((bv true), []) ⟨_, rfl⟩
def Zav (x5 : Int) (b0 b1 : Z1e) : Option Bool :=
 if (decide (x5 < (b0.Rules.length : Int))) = true then
 (Zcl x5 b0 b1)
 else
 ZiK
theorem ZrP x5 b0 b1 zD z2z : Sim Z11 (Zav x5 b0 b1) (Zsk 0 (.ptr 0 0) (.ptr 1 0) (iv x5) [(Z1T b0 zD), (Z1T b1 z2z)]) := by
 unfold Zav
 refine zf (ZId ..)<|ze<|zq<|zq<|zp (iv (b0.Rules.length : Int)) (et_ (Z2M (P := PP) (t := 38) (d := 93) (by kernel_rfl) ZG (shrO zD) b0.Rules))<|zq ?_
 refine za (decide (x5 < (b0.Rules.length : Int))) ?_ ?_
 ·exact zk (ZrS x5 b0 b1 zD z2z)
 ·exact zk ZrT
theorem Zf4 x5 b0 b1 {r} (h : Zav x5 b0 b1 = some r) : Zcy x5 b0 b1 = some r :=
 Z1f (fun _ _ ha hb => ru_ Z2p (ha .ex .ex) (hb .ex .ex)) (fun zD z2z => ZrP x5 b0 b1 zD z2z r h)
end Go.Proofs.YteoeggbihfnbfaaGreatDoor.N2
end
