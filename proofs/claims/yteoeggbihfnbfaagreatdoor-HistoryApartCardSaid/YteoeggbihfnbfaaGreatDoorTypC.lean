/- More of the functions' typed texts. No condition. -/
import Derived.Test.YteoeggbihfnbfaaGreatDoorTypA

set_option linter.unusedSimpArgs false
set_option linter.unusedVariables false
set_option linter.defProp false
noncomputable section
namespace Go.Proofs.YteoeggbihfnbfaaGreatDoor.N2
open Go Go.Abs
set_option maxRecDepth 100000
def Z68 (zl : List Int) (z2 z6 : Int) : Option (Int × Int × Int) :=
 some ((zl.length : Int), z2, z6)
theorem Zdy zl zn z7 zd zh z2 z6 zu zb (zy : ZW zb = true) : Sim (Z96 zl z7 zd zh zu zb) (Z68 zl z2 z6) (Zvd 1 (.ptr 0 0) [(ZS zl zn z7 zd zh z2 z6 zu zb)]) := by
 unfold Z68
 refine zf (ZGF ..)<|ze<|zq<|zq<|zq<|zp (iv (zl.length : Int)) (et_ (Z32 (P := PP) (t := 141) (d := 5) (by kernel_rfl) (eI .u8) (shrO zu) zl))<|zq<|zq<|zt [(ZS zl (zl.length : Int) z7 zd zh z2 z6 zu zb)] ?_
 exact zr ((.p (.tup [])), [(ZS zl (zl.length : Int) z7 zd zh z2 z6 zu zb)]) ⟨_, rfl⟩
def Z99 (x1 x2 : Int) (zl : List Int) (z2 z6 : Int) : Option (Int × Int × Int) :=
 if (z2 == 0) = true then
 (Z68 zl x1 x2)
 else
 (Z68 zl z2 z6)
theorem Zmq x1 x2 zl zn z7 zd zh z2 z6 zu zb (zy : ZW zb = true) : Sim (Z96 zl z7 zd zh zu zb) (Z99 x1 x2 zl z2 z6) (EE 70 [(.ptr 0 0), (iv x1), (iv x2)] [(ZS zl zn z7 zd zh z2 z6 zu zb)]) := by
 unfold Z99
 refine zf (ZMy ..)<|ze<|zq<|zq<|zq<|zq<|zq ?_
 refine za (z2 == 0) ?_ ?_
 ·refine ze<|zq<|zq<|zq<|zt [(ZS zl zn z7 zd zh x1 x2 zu zb)] ?_
  exact zk (Zdy zl zn z7 zd zh x1 x2 zu zb zy)
 ·exact zk (Zdy zl zn z7 zd zh z2 z6 zu zb zy)
theorem ZfX x1 x2 zl z2 z6 {r} (h : Z99 x1 x2 zl z2 z6 = some r) : Z1A x1 x2 zl z2 z6 = some r :=
 Z1g (fun _ _ ha hb => ru_ (ZnA _ _ _ _ _ _) (ha default default default default .ex .ex rfl) (hb default default default default .ex .ex rfl)) (fun zn z7 zd zh zu zb zy => Zmq x1 x2 zl zn z7 zd zh z2 z6 zu zb zy r h)
def Z3w : Option (Own × (List Zi)) :=
 some (.nl, ([] : List Zi))
theorem Z3Y : Sim Za7 Z3w (Zc3 0 []) := by
 unfold Z3w
 refine zf (ZBU ..)<|ze ?_
 exact zr ((ZP .nl []), []) ⟨_, rfl⟩
def Z4L (x0 : Int) : Option (Own × (List Zi)) :=
 if (x0 == 100) = true then
 (if (x0 == 100) = true then
 (some (.ex, ([(Zi.mk 48 57)] : List Zi)))
 else
 (if (x0 == 119) = true then
 (if (x0 == 119) = true then
 ((Z35 95).bind fun r1 =>
 some (.ex, ([(Zi.mk 48 57), (Zi.mk 65 90), r1, (Zi.mk 97 122)] : List Zi)))
 else
 (if (x0 == 115) = true then
 (if (x0 == 115) = true then
 ((Z35 32).bind fun r2 =>
 some (.ex, ([(Zi.mk 9 13), r2] : List Zi)))
 else
 Z3w)
 else
 (if (x0 == 83) = true then
 ((Z35 32).bind fun r3 =>
 some (.ex, ([(Zi.mk 9 13), r3] : List Zi)))
 else
 Z3w)))
 else
 (if (x0 == 87) = true then
 ((Z35 95).bind fun r4 =>
 some (.ex, ([(Zi.mk 48 57), (Zi.mk 65 90), r4, (Zi.mk 97 122)] : List Zi)))
 else
 (if (x0 == 115) = true then
 (if (x0 == 115) = true then
 ((Z35 32).bind fun r5 =>
 some (.ex, ([(Zi.mk 9 13), r5] : List Zi)))
 else
 Z3w)
 else
 (if (x0 == 83) = true then
 ((Z35 32).bind fun r6 =>
 some (.ex, ([(Zi.mk 9 13), r6] : List Zi)))
 else
 Z3w)))))
 else
 (if (x0 == 68) = true then
 (some (.ex, ([(Zi.mk 48 57)] : List Zi)))
 else
 (if (x0 == 119) = true then
 (if (x0 == 119) = true then
 ((Z35 95).bind fun r7 =>
 some (.ex, ([(Zi.mk 48 57), (Zi.mk 65 90), r7, (Zi.mk 97 122)] : List Zi)))
 else
 (if (x0 == 115) = true then
 (if (x0 == 115) = true then
 ((Z35 32).bind fun r8 =>
 some (.ex, ([(Zi.mk 9 13), r8] : List Zi)))
 else
 Z3w)
 else
 (if (x0 == 83) = true then
 ((Z35 32).bind fun r9 =>
 some (.ex, ([(Zi.mk 9 13), r9] : List Zi)))
 else
 Z3w)))
 else
 (if (x0 == 87) = true then
 ((Z35 95).bind fun r10 =>
 some (.ex, ([(Zi.mk 48 57), (Zi.mk 65 90), r10, (Zi.mk 97 122)] : List Zi)))
 else
 (if (x0 == 115) = true then
 (if (x0 == 115) = true then
 ((Z35 32).bind fun r11 =>
 some (.ex, ([(Zi.mk 9 13), r11] : List Zi)))
 else
 Z3w)
 else
 (if (x0 == 83) = true then
 ((Z35 32).bind fun r12 =>
 some (.ex, ([(Zi.mk 9 13), r12] : List Zi)))
 else
 Z3w)))))
theorem Zof x0 : Sim Za7 (Z4L x0) (EE 149 [(iv x0)] []) := by
 unfold Z4L
 refine zf (ZK7 ..)<|ze<|ze<|ze<|zq ?_
 refine za (x0 == 100) ?_ ?_
 ·refine za (x0 == 100) ?_ ?_
  ·refine ze<|zq<|zq ?_
   exact zr ((ZP .ex (([(Zi.mk 48 57)] : List Zi).map ZB)), []) ⟨_, rfl⟩
  ·refine ze<|zq ?_
   refine za (x0 == 119) ?_ ?_
   ·refine za (x0 == 119) ?_ ?_
    ·refine ze<|zq<|zq<|zi fun r1 hr1 => ?_
     obtain ⟨_, er1, _, rfl⟩ := Z2U 95 r1 hr1
     refine zc [] (pA_ (Z18 r1)) [] er1<|zq<|zq ?_
     exact zr ((ZP .ex (([(Zi.mk 48 57), (Zi.mk 65 90), r1, (Zi.mk 97 122)] : List Zi).map ZB)), []) ⟨_, rfl⟩
    ·refine ze<|zq ?_
     refine za (x0 == 115) ?_ ?_
     ·refine za (x0 == 115) ?_ ?_
      ·refine ze<|zq<|zi fun r2 hr2 => ?_
       obtain ⟨_, er2, _, rfl⟩ := Z2U 32 r2 hr2
       refine zc [] (pA_ (Z18 r2)) [] er2<|zq ?_
       exact zr ((ZP .ex (([(Zi.mk 9 13), r2] : List Zi).map ZB)), []) ⟨_, rfl⟩
      ·exact zk Z3Y
     ·refine ze<|zq ?_
      refine za (x0 == 83) ?_ ?_
      ·refine ze<|zq<|zi fun r3 hr3 => ?_
       obtain ⟨_, er3, _, rfl⟩ := Z2U 32 r3 hr3
       refine zc [] (pA_ (Z18 r3)) [] er3<|zq ?_
       exact zr ((ZP .ex (([(Zi.mk 9 13), r3] : List Zi).map ZB)), []) ⟨_, rfl⟩
      ·exact zk Z3Y
   ·refine ze<|zq ?_
    refine za (x0 == 87) ?_ ?_
    ·refine ze<|zq<|zq<|zi fun r4 hr4 => ?_
     obtain ⟨_, er4, _, rfl⟩ := Z2U 95 r4 hr4
     refine zc [] (pA_ (Z18 r4)) [] er4<|zq<|zq ?_
     exact zr ((ZP .ex (([(Zi.mk 48 57), (Zi.mk 65 90), r4, (Zi.mk 97 122)] : List Zi).map ZB)), []) ⟨_, rfl⟩
    ·refine ze<|zq ?_
     refine za (x0 == 115) ?_ ?_
     ·refine za (x0 == 115) ?_ ?_
      ·refine ze<|zq<|zi fun r5 hr5 => ?_
       obtain ⟨_, er5, _, rfl⟩ := Z2U 32 r5 hr5
       refine zc [] (pA_ (Z18 r5)) [] er5<|zq ?_
       exact zr ((ZP .ex (([(Zi.mk 9 13), r5] : List Zi).map ZB)), []) ⟨_, rfl⟩
      ·exact zk Z3Y
     ·refine ze<|zq ?_
      refine za (x0 == 83) ?_ ?_
      ·refine ze<|zq<|zi fun r6 hr6 => ?_
       obtain ⟨_, er6, _, rfl⟩ := Z2U 32 r6 hr6
       refine zc [] (pA_ (Z18 r6)) [] er6<|zq ?_
       exact zr ((ZP .ex (([(Zi.mk 9 13), r6] : List Zi).map ZB)), []) ⟨_, rfl⟩
      ·exact zk Z3Y
 ·refine ze<|zq ?_
  refine za (x0 == 68) ?_ ?_
  ·refine ze<|zq<|zq ?_
   exact zr ((ZP .ex (([(Zi.mk 48 57)] : List Zi).map ZB)), []) ⟨_, rfl⟩
  ·refine ze<|zq ?_
   refine za (x0 == 119) ?_ ?_
   ·refine za (x0 == 119) ?_ ?_
    ·refine ze<|zq<|zq<|zi fun r7 hr7 => ?_
     obtain ⟨_, er7, _, rfl⟩ := Z2U 95 r7 hr7
     refine zc [] (pA_ (Z18 r7)) [] er7<|zq<|zq ?_
     exact zr ((ZP .ex (([(Zi.mk 48 57), (Zi.mk 65 90), r7, (Zi.mk 97 122)] : List Zi).map ZB)), []) ⟨_, rfl⟩
    ·refine ze<|zq ?_
     refine za (x0 == 115) ?_ ?_
     ·refine za (x0 == 115) ?_ ?_
      ·refine ze<|zq<|zi fun r8 hr8 => ?_
       obtain ⟨_, er8, _, rfl⟩ := Z2U 32 r8 hr8
       refine zc [] (pA_ (Z18 r8)) [] er8<|zq ?_
       exact zr ((ZP .ex (([(Zi.mk 9 13), r8] : List Zi).map ZB)), []) ⟨_, rfl⟩
      ·exact zk Z3Y
     ·refine ze<|zq ?_
      refine za (x0 == 83) ?_ ?_
      ·refine ze<|zq<|zi fun r9 hr9 => ?_
       obtain ⟨_, er9, _, rfl⟩ := Z2U 32 r9 hr9
       refine zc [] (pA_ (Z18 r9)) [] er9<|zq ?_
       exact zr ((ZP .ex (([(Zi.mk 9 13), r9] : List Zi).map ZB)), []) ⟨_, rfl⟩
      ·exact zk Z3Y
   ·refine ze<|zq ?_
    refine za (x0 == 87) ?_ ?_
    ·refine ze<|zq<|zq<|zi fun r10 hr10 => ?_
     obtain ⟨_, er10, _, rfl⟩ := Z2U 95 r10 hr10
     refine zc [] (pA_ (Z18 r10)) [] er10<|zq<|zq ?_
     exact zr ((ZP .ex (([(Zi.mk 48 57), (Zi.mk 65 90), r10, (Zi.mk 97 122)] : List Zi).map ZB)), []) ⟨_, rfl⟩
    ·refine ze<|zq ?_
     refine za (x0 == 115) ?_ ?_
     ·refine za (x0 == 115) ?_ ?_
      ·refine ze<|zq<|zi fun r11 hr11 => ?_
       obtain ⟨_, er11, _, rfl⟩ := Z2U 32 r11 hr11
       refine zc [] (pA_ (Z18 r11)) [] er11<|zq ?_
       exact zr ((ZP .ex (([(Zi.mk 9 13), r11] : List Zi).map ZB)), []) ⟨_, rfl⟩
      ·exact zk Z3Y
     ·refine ze<|zq ?_
      refine za (x0 == 83) ?_ ?_
      ·refine ze<|zq<|zi fun r12 hr12 => ?_
       obtain ⟨_, er12, _, rfl⟩ := Z2U 32 r12 hr12
       refine zc [] (pA_ (Z18 r12)) [] er12<|zq ?_
       exact zr ((ZP .ex (([(Zi.mk 9 13), r12] : List Zi).map ZB)), []) ⟨_, rfl⟩
      ·exact zk Z3Y
theorem Zpl x0 {r} (h : Z4L x0 = some r) : Z8W x0 = some r :=
 Z1g (fun _ _ ha hb => ru_ Zqy ha hb) (Zof x0 r h)
def Z3I (x2 : Int) (zl : List Int) (z2 z6 : Int) : Option (Int × Int × Int × Int) :=
 (Z1A 21 x2 zl z2 z6).bind fun r1 =>
 some (0, r1.1, r1.2.1, r1.2.2)
theorem Z5F x2 zl zn z7 zd zh z2 z6 zu zb (zy : ZW zb = true) : Sim (Z75 zl z7 zd zh zu zb) (Z3I x2 zl z2 z6) (ZgI 1 (.ptr 0 0) (iv x2) [(ZS zl zn z7 zd zh z2 z6 zu zb)]) := by
 unfold Z3I
 refine zf (ZBW ..)<|ze<|zi fun r1 hr1 => ?_
 obtain ⟨_, er1, _, rfl⟩ := Z1F 21 x2 zl zn z7 zd zh z2 z6 zu zb zy r1 hr1
 refine zc [0] (.p (.tup [])) [(ZS zl r1.1 z7 zd zh r1.2.1 r1.2.2 zu zb)] er1<|ze ?_
 exact zr ((iv 0), [(ZS zl r1.1 z7 zd zh r1.2.1 r1.2.2 zu zb)]) ⟨_, rfl⟩
def ZaN (x1 zn z2 z6 : Int) : Option (Int × Int × Int × Int) :=
 some (x1, zn, z2, z6)
theorem Zjh x1 zl zn z7 zd zh z2 z6 zu zb (zy : ZW zb = true) : Sim (Z75 zl z7 zd zh zu zb) (ZaN x1 zn z2 z6) (ZtJ 1 (iv x1) [(ZS zl zn z7 zd zh z2 z6 zu zb)]) := by
 unfold ZaN
 refine zf (ZBV ..)<|ze ?_
 exact zr ((iv x1), [(ZS zl zn z7 zd zh z2 z6 zu zb)]) ⟨_, rfl⟩
def Zap (x1 x2 : Int) (zl : List Int) (zn z7 zd : Int) (zh : List Zz) (z2 z6 : Int) : Option (Int × Int × Int × Int) :=
 if (x1 == 110) = true then
 (some (10, zn, z2, z6))
 else
 (if (x1 == 116) = true then
 (some (9, zn, z2, z6))
 else
 (if (x1 == 114) = true then
 (some (13, zn, z2, z6))
 else
 (if (x1 == 120) = true then
 ((Z3h (Z2c.mk zl zn z7 zd zh (Z1n.mk z2 z6))).bind fun r1 =>
 (ZfW r1).bind fun r2 =>
 if (decide (0 ≤ r2)) = true then
 ((Z3U zl zn).bind fun r3 =>
 (Z3h (Z2c.mk zl r3.2 z7 zd zh (Z1n.mk z2 z6))).bind fun r4 =>
 (ZfW r4).bind fun r5 =>
 if (decide (0 ≤ r5)) = true then
 ((Z3U zl r3.2).bind fun r6 =>
 some ((IntKind.i64.wrap ((IntKind.i64.wrap (16 * r2)) + r5)), r6.2, z2, z6))
 else
 (Z3I x2 zl z2 z6))
 else
 (Z3I x2 zl z2 z6))
 else
 (if (decide (32 < x1)) = true then
 (if (decide (x1 < 127)) = true then
 ((ZbS ([(Zi.mk 48 57), (Zi.mk 65 90), (Zi.mk 97 122)] : List Zi) x1).bind fun r7 =>
 if (!r7) = true then
 (ZaN x1 zn z2 z6)
 else
 (Z3I x2 zl z2 z6))
 else
 (Z3I x2 zl z2 z6))
 else
 (Z3I x2 zl z2 z6)))))
theorem ZlQ x1 x2 zl zn z7 zd zh z2 z6 zu zb (zy : ZW zb = true) : Sim (Z75 zl z7 zd zh zu zb) (Zap x1 x2 zl zn z7 zd zh z2 z6) (EE 150 [(.ptr 0 0), (iv x1), (iv x2)] [(ZS zl zn z7 zd zh z2 z6 zu zb)]) := by
 unfold Zap
 refine zf (ZK9 ..)<|ze<|ze<|zq ?_
 refine za (x1 == 110) ?_ ?_
 ·refine ze ?_
  exact zr ((iv 10), [(ZS zl zn z7 zd zh z2 z6 zu zb)]) ⟨_, rfl⟩
 ·refine ze<|zq ?_
  refine za (x1 == 116) ?_ ?_
  ·refine ze ?_
   exact zr ((iv 9), [(ZS zl zn z7 zd zh z2 z6 zu zb)]) ⟨_, rfl⟩
  ·refine ze<|zq ?_
   refine za (x1 == 114) ?_ ?_
   ·refine ze ?_
    exact zr ((iv 13), [(ZS zl zn z7 zd zh z2 z6 zu zb)]) ⟨_, rfl⟩
   ·refine ze<|zq ?_
    refine za (x1 == 120) ?_ ?_
    ·refine ze<|zi fun r1 hr1 => ?_
     obtain ⟨_, er1, _, rfl⟩ := Z3q (Z2c.mk zl zn z7 zd zh (Z1n.mk z2 z6)) zu zb zy r1 hr1
     refine zc [0] (iv r1) [(ZS zl zn z7 zd zh z2 z6 zu zb)] er1<|zi fun r2 hr2 => ?_
     obtain ⟨_, er2, _, rfl⟩ := Zod r1 r2 hr2
     refine zc [] (iv r2) [(ZS zl zn z7 zd zh z2 z6 zu zb)] er2<|ze<|zq ?_
     refine za (decide (0 ≤ r2)) ?_ ?_
     ·refine ze<|zi fun r3 hr3 => ?_
      obtain ⟨_, er3, _, rfl⟩ := Z4u zl zn z7 zd zh z2 z6 zu zb zy r3 hr3
      refine zc [0] (iv r3.1) [(ZS zl r3.2 z7 zd zh z2 z6 zu zb)] er3<|ze<|zi fun r4 hr4 => ?_
      obtain ⟨_, er4, _, rfl⟩ := Z3q (Z2c.mk zl r3.2 z7 zd zh (Z1n.mk z2 z6)) zu zb zy r4 hr4
      refine zc [0] (iv r4) [(ZS zl r3.2 z7 zd zh z2 z6 zu zb)] er4<|zi fun r5 hr5 => ?_
      obtain ⟨_, er5, _, rfl⟩ := Zod r4 r5 hr5
      refine zc [] (iv r5) [(ZS zl r3.2 z7 zd zh z2 z6 zu zb)] er5<|ze<|zq ?_
      refine za (decide (0 ≤ r5)) ?_ ?_
      ·refine ze<|zi fun r6 hr6 => ?_
       obtain ⟨_, er6, _, rfl⟩ := Z4u zl r3.2 z7 zd zh z2 z6 zu zb zy r6 hr6
       refine zc [0] (iv r6.1) [(ZS zl r6.2 z7 zd zh z2 z6 zu zb)] er6<|ze<|zq<|zq ?_
       exact zr ((iv (IntKind.i64.wrap ((IntKind.i64.wrap (16 * r2)) + r5))), [(ZS zl r6.2 z7 zd zh z2 z6 zu zb)]) ⟨_, rfl⟩
      ·exact zk (Z5F x2 zl r3.2 z7 zd zh z2 z6 zu zb zy)
     ·exact zk (Z5F x2 zl zn z7 zd zh z2 z6 zu zb zy)
    ·refine ze<|zq ?_
     refine za (decide (32 < x1)) ?_ ?_
     ·refine zq ?_
      refine za (decide (x1 < 127)) ?_ ?_
      ·refine zq<|zq<|zq<|zq<|zi fun r7 hr7 => ?_
       obtain ⟨_, er7, _, rfl⟩ := Zrn ([(Zi.mk 48 57), (Zi.mk 65 90), (Zi.mk 97 122)] : List Zi) x1 .sh r7 hr7
       refine zc [] (bv r7) [(ZS zl zn z7 zd zh z2 z6 zu zb)] er7<|zq ?_
       refine za (!r7) ?_ ?_
       ·exact zk (Zjh x1 zl zn z7 zd zh z2 z6 zu zb zy)
       ·exact zk (Z5F x2 zl zn z7 zd zh z2 z6 zu zb zy)
      ·exact zk (Z5F x2 zl zn z7 zd zh z2 z6 zu zb zy)
     ·exact zk (Z5F x2 zl zn z7 zd zh z2 z6 zu zb zy)
theorem Zmt x1 x2 zl zn z7 zd zh z2 z6 {r} (h : Zap x1 x2 zl zn z7 zd zh z2 z6 = some r) : Z8O x1 x2 zl zn z7 zd zh z2 z6 = some r :=
 Z1g (fun _ _ ha hb => ru_ (Zn1 _ _ _ _ _ _) (ha .ex .ex rfl) (hb .ex .ex rfl)) (fun zu zb zy => ZlQ x1 x2 zl zn z7 zd zh z2 z6 zu zb zy r h)
def ZeG (x0 : Int) : Option Int :=
 some (IntKind.i64.wrap (x0 - 48))
theorem Zrs x0 : Sim ZL (ZeG x0) (Zxi 0 (iv x0) []) := by
 unfold ZeG
 refine zf (ZE2 ..)<|ze<|zq ?_
 exact zr ((iv (IntKind.i64.wrap (x0 - 48))), []) ⟨_, rfl⟩
def ZeH (x0 : Int) : Option Int :=
 some (IntKind.i64.wrap ((IntKind.i64.wrap (x0 - 97)) + 10))
theorem Zrt x0 : Sim ZL (ZeH x0) (Zxj 0 (iv x0) []) := by
 unfold ZeH
 refine zf (ZE4 ..)<|ze<|zq<|zq ?_
 exact zr ((iv (IntKind.i64.wrap ((IntKind.i64.wrap (x0 - 97)) + 10))), []) ⟨_, rfl⟩
def ZcC : Option Int :=
 some (-1)
theorem ZjW : Sim ZL ZcC (ZsC 0 []) := by
 unfold ZcC
 refine zf (ZE5 ..)<|ze ?_
 exact zr ((iv (-1)), []) ⟨_, rfl⟩
def ZcB (x0 : Int) : Option Int :=
 if (decide (97 ≤ x0)) = true then
 (if (decide (x0 ≤ 102)) = true then
 (ZeH x0)
 else
 ZcC)
 else
 ZcC
theorem ZjV x0 : Sim ZL (ZcB x0) (ZsB 0 (iv x0) []) := by
 unfold ZcB
 refine zf (ZE3 ..)<|ze<|zq ?_
 refine za (decide (97 ≤ x0)) ?_ ?_
 ·refine zq ?_
  refine za (decide (x0 ≤ 102)) ?_ ?_
  ·exact zk (Zrt x0)
  ·exact zk ZjW
 ·exact zk ZjW
def Zjz (x0 : Int) : Option Int :=
 if (decide (48 ≤ x0)) = true then
 (if (decide (x0 ≤ 57)) = true then
 (ZeG x0)
 else
 (ZcB x0))
 else
 (ZcB x0)
theorem Zvu x0 : Sim ZL (Zjz x0) (EE 172 [(iv x0)] []) := by
 unfold Zjz
 refine zf (ZKx ..)<|ze<|ze<|zq ?_
 refine za (decide (48 ≤ x0)) ?_ ?_
 ·refine zq ?_
  refine za (decide (x0 ≤ 57)) ?_ ?_
  ·exact zk (Zrs x0)
  ·exact zk (ZjV x0)
 ·exact zk (ZjV x0)
theorem Zy0 x0 {r} (h : Zjz x0 = some r) : ZfW x0 = some r :=
 Z1g (fun _ _ ha hb => ru_ Z2h ha hb) (Zvu x0 r h)
def ZdP (x0 : List Zi) (x1 : Int) : Option Bool :=
 (Z66 x0 x1).bind fun r1 =>
 some r1
theorem ZqE (x0 : List Zi) x1 ox0 : Sim Z12 (ZdP x0 x1) (EE 173 [(ZP ox0 (x0.map ZB)), (iv x1)] []) := by
 unfold ZdP
 refine zf (ZKz ..)<|ze<|zx (.ptr 0 0) [[(iv x1)]]<|ze<|zi fun r1 hr1 => ?_
 obtain ⟨_, er1, _, rfl⟩ := Zfr x0 x1 .sh r1 hr1
 refine zc [0] (bv r1) [[(iv x1)]] er1 ?_
 exact zr ((bv r1), [[(iv x1)]]) ⟨_, rfl⟩
theorem Zrm x0 x1 {r} (h : ZdP x0 x1 = some r) : ZbS x0 x1 = some r :=
 Z1g (fun _ _ ha hb => ru_ Z2o (ha .ex) (hb .ex)) (fun ox0 => ZqE x0 x1 ox0 r h)
def Z61 (x0 : List Zi) (z14 : Int) : Option Bool :=
 (Z7h x0 z14).bind fun r1 =>
 some (decide (0 ≤ r1))
theorem ZeZ (x0 : List Zi) z14 ox0 : Sim (Z8S z14) (Z61 x0 z14) (EE 184 [(ZP ox0 (x0.map ZB)), (.clo 185 [] [(.ptr 0 0)])] [[(iv z14)]]) := by
 unfold Z61
 refine zf (ZKC ..)<|ze<|ze<|zi fun r1 hr1 => ?_
 obtain ⟨_, er1, _, rfl⟩ := ZhC x0 z14 .sh r1 hr1
 refine zc [0] (iv r1) [[(iv z14)]] er1<|zq ?_
 exact zr ((bv (decide (0 ≤ r1))), [[(iv z14)]]) ⟨_, rfl⟩
theorem Zfq x0 z14 {r} (h : Z61 x0 z14 = some r) : Z66 x0 z14 = some r :=
 Z1g (fun _ _ ha hb => ru_ (ZiF _) (ha .ex) (hb .ex)) (fun ox0 => ZeZ x0 z14 ox0 r h)
def Z79 (x0 : List Zi) (z14 : Int) : Option Int :=
 Z4R x0 (x0.length : Int) 0 z14
theorem ZgU (x0 : List Zi) z14 ox0 : Sim (Z3i z14) (Z79 x0 z14) (EE 191 [(ZP ox0 (x0.map ZB)), (.clo 185 [] [(.ptr 0 0)])] [[(iv z14)]]) := by
 unfold Z79
 refine zf (ZKE ..)<|ze<|ze<|zp (iv (x0.length : Int)) (et_ (Z32 (P := PP) (t := 95) (d := 201) (by kernel_rfl) ZB (shrO ox0) x0)) ?_
 exact zk (Zah x0 (x0.length : Int) 0 z14 ox0)
theorem ZhB x0 z14 {r} (h : Z79 x0 z14 = some r) : Z7h x0 z14 = some r :=
 Z1g (fun _ _ ha hb => ru_ (ZbF _) (ha .ex) (hb .ex)) (fun ox0 => ZgU x0 z14 ox0 r h)
def Z63 (x0 : List Zi) (x7 x8 z14 : Int) : Option Int :=
 Z4R x0 x7 (IntKind.i64.wrap (x8 + 1)) z14
theorem Zf3 (x0 : List Zi) x7 x8 z14 ox0 : Sim (Z3i z14) (Z63 x0 x7 x8 z14) (Zxu 1 (ZP ox0 (x0.map ZB)) (.clo 185 [] [(.ptr 0 0)]) (iv x7) (iv x8) [[(iv z14)]]) := by
 unfold Z63
 refine zf (ZEc ..)<|ze<|zq ?_
 exact zk (Zah x0 x7 (IntKind.i64.wrap (x8 + 1)) z14 ox0)
def Z4O (x0 : List Zi) (x7 x8 z14 : Int) : Option Int :=
 (lget x0 x8).bind fun a1 =>
 (Zct a1 z14).bind fun r2 =>
 if r2 = true then
 (some x8)
 else
 (Z63 x0 x7 x8 z14)
theorem Zf2 (x0 : List Zi) x7 x8 z14 ox0 : Sim (Z3i z14) (Z4O x0 x7 x8 z14) (Zxt 1 (ZP ox0 (x0.map ZB)) (.clo 185 [] [(.ptr 0 0)]) (iv x7) (iv x8) [[(iv z14)]]) := by
 unfold Z4O
 refine zf (ZEb ..)<|ze<|ze<|zi fun a1 ha1 => zp (.cptr (Z18 a1)) (et_ (Z45 (o := (shrO ox0)) (k := .i64) (n := 2) (e := ZB) (cs := Z9l) (fun _ => rfl) (fun _ => rfl) (by decide) ha1))<|zq<|zi fun r2 hr2 => ?_
 obtain ⟨_, er2, _, rfl⟩ := Zph a1 z14 r2 hr2
 refine zv [0] (bv r2) [[(iv z14)]] er2 ?_
 refine za r2 ?_ ?_
 ·refine ze ?_
  exact zr ((iv x8), [[(iv z14)]]) ⟨_, rfl⟩
 ·exact zk (Zf3 x0 x7 x8 z14 ox0)
def Z8v : Option Int :=
 some (-1)
theorem Zf4 z14 : Sim (Z3i z14) Z8v (Zxv 1 [[(iv z14)]]) := by
 unfold Z8v
 refine zf (ZEd ..)<|ze ?_
 exact zr ((iv (-1)), [[(iv z14)]]) ⟨_, rfl⟩
def Z48 (x0 : List Zi) (x7 x8 z14 : Int) : Option Int :=
 if (decide (x8 < x7)) = true then
 (Z4O x0 x7 x8 z14)
 else
 Z8v
theorem Zf1 (x0 : List Zi) x7 x8 z14 ox0 : Sim (Z3i z14) (Z48 x0 x7 x8 z14) (ZnT 1 (ZP ox0 (x0.map ZB)) (.clo 185 [] [(.ptr 0 0)]) (iv x7) (iv x8) [[(iv z14)]]) := by
 unfold Z48
 refine zf (ZEa ..)<|ze<|zq ?_
 refine za (decide (x8 < x7)) ?_ ?_
 ·exact zk (Zf2 x0 x7 x8 z14 ox0)
 ·exact zk (Zf4 z14)
theorem Z7s x0 x7 x8 z14 {r} (h : Z48 x0 x7 x8 z14 = some r) : Z4R x0 x7 x8 z14 = some r :=
 Z1g (fun _ _ ha hb => ru_ (ZbF _) (ha .ex) (hb .ex)) (fun ox0 => Zf1 x0 x7 x8 z14 ox0 r h)
def Zcj (x0 : Zi) (z14 : Int) : Option Bool :=
 if (decide (x0.Lo ≤ z14)) = true then
 (some (decide (z14 ≤ x0.Hi)))
 else
 (some false)
theorem Zo6 x0 z14 : Sim (Z8S z14) (Zcj x0 z14) (EE 185 [(pA_ (Z18 x0)), (.ptr 0 0)] [[(iv z14)]]) := by
 unfold Zcj
 refine zf (ZKD ..)<|ze<|zx (.ptr 1 0) [[(iv z14)], (Z36 x0)]<|ze<|zq<|zq<|zq<|zq ?_
 refine za (decide (x0.Lo ≤ z14)) ?_ ?_
 ·refine zq<|zq<|zq<|zq ?_
  exact zr ((bv (decide (z14 ≤ x0.Hi))), [[(iv z14)], (Z36 x0)]) ⟨_, rfl⟩
 ·exact zr ((bv false), [[(iv z14)], (Z36 x0)]) ⟨_, rfl⟩
theorem Zpg x0 z14 {r} (h : Zcj x0 z14 = some r) : Zct x0 z14 = some r :=
 Z1g (fun _ _ ha hb => ru_ (ZiF _) ha hb) (Zo6 x0 z14 r h)
def Z8y (x1 : Int) (zl : List Int) (zn z7 zd : Int) (zh : List Zz) (z2 z6 : Int) : Option (Zj × Int × Int × Int) :=
 (Z2j (ByteArray.mk #[94]) zl zn).bind fun r1 =>
 Z4T x1 r1.1 0 zl r1.2 z7 zd zh z2 z6 ([] : List Zi)
theorem ZlK x1 zl zn z7 zd zh z2 z6 zu zb (zy : ZW zb = true) : Sim (Z2i zl z7 zd zh zu zb) (Z8y x1 zl zn z7 zd zh z2 z6) (EE 131 [(.ptr 0 0), (iv x1)] [(ZS zl zn z7 zd zh z2 z6 zu zb)]) := by
 unfold Z8y
 refine zf (ZJR ..)<|ze<|zz (.ptr 1 0) [(ZS zl zn z7 zd zh z2 z6 zu zb), (Zv Z2g .nl .nl)]<|ze<|zi fun r1 hr1 => ?_
 obtain ⟨_, er1, _, rfl⟩ := Z2u (ByteArray.mk #[94]) zl zn z7 zd zh z2 z6 zu zb zy r1 hr1
 refine zc [0] (bv r1.1) [(ZS zl r1.2 z7 zd zh z2 z6 zu zb), (Zv Z2g .nl .nl)] er1<|ze<|zz (.ptr 2 0) [(ZS zl r1.2 z7 zd zh z2 z6 zu zb), (Zv Z2g .nl .nl), [(ZP .nl [])]]<|ze<|ze ?_
 exact zk (Zdx x1 r1.1 0 zl r1.2 z7 zd zh z2 z6 Z2g ([] : List Zi) zu zb .nl .nl .nl zy rfl rfl)
theorem Zmo x1 zl zn z7 zd zh z2 z6 {r} (h : Z8y x1 zl zn z7 zd zh z2 z6 = some r) : Zav x1 zl zn z7 zd zh z2 z6 = some r :=
 Z1g (fun _ _ ha hb => ru_ (Zc0 _ _ _ _ _ _) (ha .ex .ex rfl) (hb .ex .ex rfl)) (fun zu zb zy => ZlK x1 zl zn z7 zd zh z2 z6 zu zb zy r h)
def Z2v (x1 : Int) (x5 : Bool) (x8 : Int) (zl : List Int) (zn z7 zd : Int) (zh : List Zz) (z2 z6 : Int) (z16 : List Zi) : Option (Zj × Int × Int × Int) :=
 Z4T x1 x5 (IntKind.i64.wrap (x8 + 1)) zl zn z7 zd zh z2 z6 z16
theorem Z3m x1 x5 x8 zl zn z7 zd zh z2 z6 b1 (z16 : List Zi) zu zb zM zH z1R (zy : ZW zb = true) (z1t : ZW zM = true) (z1f : ZW zH = true) : Sim (Z2i zl z7 zd zh zu zb) (Z2v x1 x5 x8 zl zn z7 zd zh z2 z6 z16) (ZcF 1 (.ptr 0 0) (iv x1) (.ptr 1 0) (bv x5) (.ptr 2 0) (.clo 151 [] [(.ptr 2 0)]) (iv x8) [(ZS zl zn z7 zd zh z2 z6 zu zb), (Zv b1 zM zH), [(ZP z1R (z16.map ZB))]]) := by
 unfold Z2v
 refine zf (ZDv ..)<|ze<|zq ?_
 exact zk (Zdx x1 x5 (IntKind.i64.wrap (x8 + 1)) zl zn z7 zd zh z2 z6 b1 z16 zu zb zM zH z1R zy z1t z1f)
def Z6X (zn z2 z6 : Int) (z16 : List Zi) : Option (Zj × Int × Int × Int) :=
 some ((Zj.mk 1 0 0 0 0 z16 ([] : List Zj)), zn, z2, z6)
theorem ZcJ zl zn z7 zd zh z2 z6 b1 (z16 : List Zi) zu zb zM zH z1R (zy : ZW zb = true) (z1t : ZW zM = true) (z1f : ZW zH = true) : Sim (Z2i zl z7 zd zh zu zb) (Z6X zn z2 z6 z16) (Zp6 1 (.ptr 1 0) (.ptr 2 0) [(ZS zl zn z7 zd zh z2 z6 zu zb), (Zv b1 zM zH), [(ZP z1R (z16.map ZB))]]) := by
 unfold Z6X
 refine zf (ZBG ..)<|ze<|zq<|zq<|zt [(ZS zl zn z7 zd zh z2 z6 zu zb), (Z3n 1 0 0 0 0 z16 ([] : List Zj) (shrO (shrO z1R)) .nl), [(ZP z1R (z16.map ZB))]] ?_
 exact zr ((pA_ (ZN (Zj.mk 1 0 0 0 0 z16 ([] : List Zj)) .sh .sh)), [(ZS zl zn z7 zd zh z2 z6 zu zb), (Z3n 1 0 0 0 0 z16 ([] : List Zj) (shrO (shrO z1R)) .nl), [(ZP z1R (z16.map ZB))]]) ⟨_, rfl⟩
def Z8z (x5 : Bool) (zl : List Int) (zn z2 z6 : Int) (z16 : List Zi) : Option (Zj × Int × Int × Int) :=
 (Z3U zl zn).bind fun r1 =>
 if x5 = true then
 ((ZbT z16).bind fun r2 =>
 Z6X r1.2 z2 z6 r2.1)
 else
 (Z6X r1.2 z2 z6 z16)
theorem Zj4 x5 zl zn z7 zd zh z2 z6 b1 (z16 : List Zi) zu zb zM zH z1R (zy : ZW zb = true) (z1t : ZW zM = true) (z1f : ZW zH = true) : Sim (Z2i zl z7 zd zh zu zb) (Z8z x5 zl zn z2 z6 z16) (ZtD 1 (.ptr 0 0) (.ptr 1 0) (bv x5) (.ptr 2 0) [(ZS zl zn z7 zd zh z2 z6 zu zb), (Zv b1 zM zH), [(ZP z1R (z16.map ZB))]]) := by
 unfold Z8z
 refine zf (ZBF ..)<|ze<|zi fun r1 hr1 => ?_
 obtain ⟨_, er1, _, rfl⟩ := Z4u zl zn z7 zd zh z2 z6 zu zb zy r1 hr1
 refine zc [0] (iv r1.1) [(ZS zl r1.2 z7 zd zh z2 z6 zu zb), (Zv b1 zM zH), [(ZP z1R (z16.map ZB))]] er1<|ze ?_
 refine za x5 ?_ ?_
 ·refine ze<|zq<|zi fun r2 hr2 => ?_
  obtain ⟨_, er2, _, rfl⟩ := ZjT z16 .sh r2 hr2
  refine zc [] (.p (.tup [(.lst .sh (r2.1.map ZB)), (.v (.int .i64 r2.2))])) [(ZS zl r1.2 z7 zd zh z2 z6 zu zb), (Zv b1 zM zH), [(ZP z1R (z16.map ZB))]] er2<|zq<|zq<|zt [(ZS zl r1.2 z7 zd zh z2 z6 zu zb), (Zv b1 zM zH), [(ZP .sh (r2.1.map ZB))]] ?_
  exact zk (ZcJ zl r1.2 z7 zd zh z2 z6 b1 r2.1 zu zb zM zH .sh zy z1t z1f)
 ·exact zk (ZcJ zl r1.2 z7 zd zh z2 z6 b1 z16 zu zb zM zH z1R zy z1t z1f)
def Z4H (x1 : Int) (x5 : Bool) (x8 x9 : Int) (zl : List Int) (z7 zd : Int) (zh : List Zz) (z2 z6 : Int) (z16 : List Zi) : Option (Zj × Int × Int × Int) :=
 (Z1A 22 x9 zl z2 z6).bind fun r1 =>
 Z2v x1 x5 x8 zl r1.1 z7 zd zh r1.2.1 r1.2.2 z16
theorem Z7e x1 x5 x8 x9 zl zn z7 zd zh z2 z6 b1 (z16 : List Zi) zu zb zM zH z1R (zy : ZW zb = true) (z1t : ZW zM = true) (z1f : ZW zH = true) : Sim (Z2i zl z7 zd zh zu zb) (Z4H x1 x5 x8 x9 zl z7 zd zh z2 z6 z16) (Zj0 1 (.ptr 0 0) (iv x1) (.ptr 1 0) (bv x5) (.ptr 2 0) (.clo 151 [] [(.ptr 2 0)]) (iv x8) (iv x9) [(ZS zl zn z7 zd zh z2 z6 zu zb), (Zv b1 zM zH), [(ZP z1R (z16.map ZB))]]) := by
 unfold Z4H
 refine zf (ZBJ ..)<|ze<|zi fun r1 hr1 => ?_
 obtain ⟨_, er1, _, rfl⟩ := Z1F 22 x9 zl zn z7 zd zh z2 z6 zu zb zy r1 hr1
 refine zc [0] (.p (.tup [])) [(ZS zl r1.1 z7 zd zh r1.2.1 r1.2.2 zu zb), (Zv b1 zM zH), [(ZP z1R (z16.map ZB))]] er1 ?_
 exact zk (Z3m x1 x5 x8 zl r1.1 z7 zd zh r1.2.1 r1.2.2 b1 z16 zu zb zM zH z1R zy z1t z1f)
def Z38 (x1 : Int) (x5 : Bool) (x8 x11 x15 : Int) (zl : List Int) (zn z7 zd : Int) (zh : List Zz) (z2 z6 : Int) (z16 : List Zi) : Option (Zj × Int × Int × Int) :=
 if (z2 == 0) = true then
 ((Z7M ([(Zi.mk x11 x15)] : List Zi) z16).bind fun r1 =>
 Z2v x1 x5 x8 zl zn z7 zd zh z2 z6 r1)
 else
 (Z2v x1 x5 x8 zl zn z7 zd zh z2 z6 z16)
theorem Z7f x1 x5 x8 x11 x15 zl zn z7 zd zh z2 z6 b1 (z16 : List Zi) zu zb zM zH z1R (zy : ZW zb = true) (z1t : ZW zM = true) (z1f : ZW zH = true) : Sim (Z2i zl z7 zd zh zu zb) (Z38 x1 x5 x8 x11 x15 zl zn z7 zd zh z2 z6 z16) (Zj1 1 (.ptr 0 0) (iv x1) (.ptr 1 0) (bv x5) (.ptr 2 0) (.clo 151 [] [(.ptr 2 0)]) (iv x8) (iv x11) (iv x15) [(ZS zl zn z7 zd zh z2 z6 zu zb), (Zv b1 zM zH), [(ZP z1R (z16.map ZB))]]) := by
 unfold Z38
 refine zf (ZBM ..)<|ze<|zq<|zq<|zq<|zq<|zq ?_
 refine za (z2 == 0) ?_ ?_
 ·refine ze<|zq<|zq<|zi fun r1 hr1 => ?_
  obtain ⟨_, er1, z4h, _, rfl⟩ := Ze0 ([(Zi.mk x11 x15)] : List Zi) z16 .sh z1R r1 hr1
  refine zv [2] (.p (.tup [])) [(ZS zl zn z7 zd zh z2 z6 zu zb), (Zv b1 zM zH), [(ZP z4h (r1.map ZB))]] er1 ?_
  exact zk (Z3m x1 x5 x8 zl zn z7 zd zh z2 z6 b1 r1 zu zb zM zH z4h zy z1t z1f)
 ·exact zk (Z3m x1 x5 x8 zl zn z7 zd zh z2 z6 b1 z16 zu zb zM zH z1R zy z1t z1f)
def Z5A (x1 : Int) (x5 : Bool) (x8 x9 x11 x15 : Int) (zl : List Int) (z7 zd : Int) (zh : List Zz) (z2 z6 : Int) (z16 : List Zi) : Option (Zj × Int × Int × Int) :=
 (Z1A 22 x9 zl z2 z6).bind fun r1 =>
 Z38 x1 x5 x8 x11 x15 zl r1.1 z7 zd zh r1.2.1 r1.2.2 z16
theorem ZcL x1 x5 x8 x9 x11 x15 zl zn z7 zd zh z2 z6 b1 (z16 : List Zi) zu zb zM zH z1R (zy : ZW zb = true) (z1t : ZW zM = true) (z1f : ZW zH = true) : Sim (Z2i zl z7 zd zh zu zb) (Z5A x1 x5 x8 x9 x11 x15 zl z7 zd zh z2 z6 z16) (Zp8 1 (.ptr 0 0) (iv x1) (.ptr 1 0) (bv x5) (.ptr 2 0) (.clo 151 [] [(.ptr 2 0)]) (iv x8) (iv x9) (iv x11) (iv x15) [(ZS zl zn z7 zd zh z2 z6 zu zb), (Zv b1 zM zH), [(ZP z1R (z16.map ZB))]]) := by
 unfold Z5A
 refine zf (ZBL ..)<|ze<|zi fun r1 hr1 => ?_
 obtain ⟨_, er1, _, rfl⟩ := Z1F 22 x9 zl zn z7 zd zh z2 z6 zu zb zy r1 hr1
 refine zc [0] (.p (.tup [])) [(ZS zl r1.1 z7 zd zh r1.2.1 r1.2.2 zu zb), (Zv b1 zM zH), [(ZP z1R (z16.map ZB))]] er1 ?_
 exact zk (Z7f x1 x5 x8 x11 x15 zl r1.1 z7 zd zh r1.2.1 r1.2.2 b1 z16 zu zb zM zH z1R zy z1t z1f)
def Z8A (x1 : Int) (x5 : Bool) (x8 x9 x11 : Int) (zl : List Int) (zn z7 zd : Int) (zh : List Zz) (z2 z6 : Int) (z16 : List Zi) : Option (Zj × Int × Int × Int) :=
 (Z6H zl zn z7 zd zh z2 z6).bind fun r1 =>
 if (r1.2.2.2.2.1 == 0) = true then
 ((nilO (shrO (shrO (shrO (shrO r1.2.1.1)))) r1.2.1.2).bind fun a2 =>
 if (!a2) = true then
 (Z5A x1 x5 x8 x9 x11 r1.1 zl z7 zd zh r1.2.2.2.2.1 r1.2.2.2.2.2 z16)
 else
 (if (decide (r1.1 < x11)) = true then
 (Z5A x1 x5 x8 x9 x11 r1.1 zl z7 zd zh r1.2.2.2.2.1 r1.2.2.2.2.2 z16)
 else
 (Z38 x1 x5 x8 x11 r1.1 zl r1.2.2.2.1 z7 zd zh r1.2.2.2.2.1 r1.2.2.2.2.2 z16)))
 else
 (Z38 x1 x5 x8 x11 r1.1 zl r1.2.2.2.1 z7 zd zh r1.2.2.2.2.1 r1.2.2.2.2.2 z16)
theorem Zj6 x1 x5 x8 x9 x11 zl zn z7 zd zh z2 z6 b1 (z16 : List Zi) zu zb zM zH z1R (zy : ZW zb = true) (z1t : ZW zM = true) (z1f : ZW zH = true) : Sim (Z2i zl z7 zd zh zu zb) (Z8A x1 x5 x8 x9 x11 zl zn z7 zd zh z2 z6 z16) (ZtF 1 (.ptr 0 0) (iv x1) (.ptr 1 0) (bv x5) (.ptr 2 0) (.clo 151 [] [(.ptr 2 0)]) (iv x8) (iv x9) (iv x11) [(ZS zl zn z7 zd zh z2 z6 zu zb), (Zv b1 zM zH), [(ZP z1R (z16.map ZB))]]) := by
 unfold Z8A
 refine zf (ZBK ..)<|ze<|zi fun r1 hr1 => ?_
 obtain ⟨_, er1, _, rfl⟩ := Zeh zl zn z7 zd zh z2 z6 zu zb zy r1 hr1
 refine zc [0] (.p (.tup [(.v (.int .i64 r1.1)), (.lst r1.2.1.1 (r1.2.1.2.map ZB)), (.v (.bool r1.2.2.1))])) [(ZS zl r1.2.2.2.1 z7 zd zh r1.2.2.2.2.1 r1.2.2.2.2.2 zu zb), (Zv b1 zM zH), [(ZP z1R (z16.map ZB))]] er1<|zq<|zq<|zq<|ze<|zq<|zq<|zq<|zq<|zq ?_
 refine za (r1.2.2.2.2.1 == 0) ?_ ?_
 ·refine zi fun a2 ha2 => zp (bv (!a2)) (et_ (Zqt (P := PP) (t := 94) (c := .slice none 0 0) (e := ZB) (by kernel_rfl) ha2)) ?_
  refine za (!a2) ?_ ?_
  ·exact zk (ZcL x1 x5 x8 x9 x11 r1.1 zl r1.2.2.2.1 z7 zd zh r1.2.2.2.2.1 r1.2.2.2.2.2 b1 z16 zu zb zM zH z1R zy z1t z1f)
  ·refine zq ?_
   refine za (decide (r1.1 < x11)) ?_ ?_
   ·exact zk (ZcL x1 x5 x8 x9 x11 r1.1 zl r1.2.2.2.1 z7 zd zh r1.2.2.2.2.1 r1.2.2.2.2.2 b1 z16 zu zb zM zH z1R zy z1t z1f)
   ·exact zk (Z7f x1 x5 x8 x11 r1.1 zl r1.2.2.2.1 z7 zd zh r1.2.2.2.2.1 r1.2.2.2.2.2 b1 z16 zu zb zM zH z1R zy z1t z1f)
 ·exact zk (Z7f x1 x5 x8 x11 r1.1 zl r1.2.2.2.1 z7 zd zh r1.2.2.2.2.1 r1.2.2.2.2.2 b1 z16 zu zb zM zH z1R zy z1t z1f)
def Z6Z (x1 : Int) (x5 : Bool) (x8 x9 x11 : Int) (zl : List Int) (zn z7 zd : Int) (zh : List Zz) (z2 z6 : Int) (z16 : List Zi) : Option (Zj × Int × Int × Int) :=
 (Z2j (ByteArray.mk #[45]) zl zn).bind fun r1 =>
 if r1.1 = true then
 ((Z3h (Z2c.mk zl r1.2 z7 zd zh (Z1n.mk z2 z6))).bind fun r2 =>
 if (r2 == 93) = true then
 (Z4H x1 x5 x8 x9 zl z7 zd zh z2 z6 z16)
 else
 (if (r2 == 91) = true then
 (Z4H x1 x5 x8 x9 zl z7 zd zh z2 z6 z16)
 else
 (if (r2 == 45) = true then
 (Z4H x1 x5 x8 x9 zl z7 zd zh z2 z6 z16)
 else
 (if (decide (r2 < 0)) = true then
 (Z4H x1 x5 x8 x9 zl z7 zd zh z2 z6 z16)
 else
 (Z8A x1 x5 x8 x9 x11 zl r1.2 z7 zd zh z2 z6 z16)))))
 else
 (Z38 x1 x5 x8 x11 x11 zl r1.2 z7 zd zh z2 z6 z16)
theorem Zj5 x1 x5 x8 x9 x11 zl zn z7 zd zh z2 z6 b1 (z16 : List Zi) zu zb zM zH z1R (zy : ZW zb = true) (z1t : ZW zM = true) (z1f : ZW zH = true) : Sim (Z2i zl z7 zd zh zu zb) (Z6Z x1 x5 x8 x9 x11 zl zn z7 zd zh z2 z6 z16) (ZtE 1 (.ptr 0 0) (iv x1) (.ptr 1 0) (bv x5) (.ptr 2 0) (.clo 151 [] [(.ptr 2 0)]) (iv x8) (iv x9) (iv x11) [(ZS zl zn z7 zd zh z2 z6 zu zb), (Zv b1 zM zH), [(ZP z1R (z16.map ZB))]]) := by
 unfold Z6Z
 refine zf (ZBI ..)<|ze<|ze<|zi fun r1 hr1 => ?_
 obtain ⟨_, er1, _, rfl⟩ := Z2u (ByteArray.mk #[45]) zl zn z7 zd zh z2 z6 zu zb zy r1 hr1
 refine zc [0] (bv r1.1) [(ZS zl r1.2 z7 zd zh z2 z6 zu zb), (Zv b1 zM zH), [(ZP z1R (z16.map ZB))]] er1 ?_
 refine za r1.1 ?_ ?_
 ·refine ze<|zi fun r2 hr2 => ?_
  obtain ⟨_, er2, _, rfl⟩ := Z3q (Z2c.mk zl r1.2 z7 zd zh (Z1n.mk z2 z6)) zu zb zy r2 hr2
  refine zc [0] (iv r2) [(ZS zl r1.2 z7 zd zh z2 z6 zu zb), (Zv b1 zM zH), [(ZP z1R (z16.map ZB))]] er2<|ze<|zq ?_
  refine za (r2 == 93) ?_ ?_
  ·exact zk (Z7e x1 x5 x8 x9 zl r1.2 z7 zd zh z2 z6 b1 z16 zu zb zM zH z1R zy z1t z1f)
  ·refine zq ?_
   refine za (r2 == 91) ?_ ?_
   ·exact zk (Z7e x1 x5 x8 x9 zl r1.2 z7 zd zh z2 z6 b1 z16 zu zb zM zH z1R zy z1t z1f)
   ·refine zq ?_
    refine za (r2 == 45) ?_ ?_
    ·exact zk (Z7e x1 x5 x8 x9 zl r1.2 z7 zd zh z2 z6 b1 z16 zu zb zM zH z1R zy z1t z1f)
    ·refine zq ?_
     refine za (decide (r2 < 0)) ?_ ?_
     ·exact zk (Z7e x1 x5 x8 x9 zl r1.2 z7 zd zh z2 z6 b1 z16 zu zb zM zH z1R zy z1t z1f)
     ·exact zk (Zj6 x1 x5 x8 x9 x11 zl r1.2 z7 zd zh z2 z6 b1 z16 zu zb zM zH z1R zy z1t z1f)
 ·exact zk (Z7f x1 x5 x8 x11 x11 zl r1.2 z7 zd zh z2 z6 b1 z16 zu zb zM zH z1R zy z1t z1f)
def Z6Y (x1 : Int) (x5 : Bool) (x8 x9 : Int) (zl : List Int) (zn z7 zd : Int) (zh : List Zz) (z2 z6 : Int) (z16 : List Zi) : Option (Zj × Int × Int × Int) :=
 (Z6H zl zn z7 zd zh z2 z6).bind fun r1 =>
 (nilO (shrO (shrO (shrO (shrO r1.2.1.1)))) r1.2.1.2).bind fun a2 =>
 if (!a2) = true then
 ((Z4M r1.2.2.1 r1.2.1.2).bind fun r3 =>
 (Z7M r3.Set z16).bind fun r4 =>
 (Z3h (Z2c.mk zl r1.2.2.2.1 z7 zd zh (Z1n.mk r1.2.2.2.2.1 r1.2.2.2.2.2))).bind fun r5 =>
 if (r5 == 45) = true then
 ((Z1A 22 r1.2.2.2.1 zl r1.2.2.2.2.1 r1.2.2.2.2.2).bind fun r6 =>
 Z2v x1 x5 x8 zl r6.1 z7 zd zh r6.2.1 r6.2.2 r4)
 else
 (Z2v x1 x5 x8 zl r1.2.2.2.1 z7 zd zh r1.2.2.2.2.1 r1.2.2.2.2.2 r4))
 else
 (Z6Z x1 x5 x8 x9 r1.1 zl r1.2.2.2.1 z7 zd zh r1.2.2.2.2.1 r1.2.2.2.2.2 z16)
theorem ZcK x1 x5 x8 x9 zl zn z7 zd zh z2 z6 b1 (z16 : List Zi) zu zb zM zH z1R (zy : ZW zb = true) (z1t : ZW zM = true) (z1f : ZW zH = true) : Sim (Z2i zl z7 zd zh zu zb) (Z6Y x1 x5 x8 x9 zl zn z7 zd zh z2 z6 z16) (Zp7 1 (.ptr 0 0) (iv x1) (.ptr 1 0) (bv x5) (.ptr 2 0) (.clo 151 [] [(.ptr 2 0)]) (iv x8) (iv x9) [(ZS zl zn z7 zd zh z2 z6 zu zb), (Zv b1 zM zH), [(ZP z1R (z16.map ZB))]]) := by
 unfold Z6Y
 refine zf (ZBH ..)<|ze<|zi fun r1 hr1 => ?_
 obtain ⟨_, er1, _, rfl⟩ := Zeh zl zn z7 zd zh z2 z6 zu zb zy r1 hr1
 refine zc [0] (.p (.tup [(.v (.int .i64 r1.1)), (.lst r1.2.1.1 (r1.2.1.2.map ZB)), (.v (.bool r1.2.2.1))])) [(ZS zl r1.2.2.2.1 z7 zd zh r1.2.2.2.2.1 r1.2.2.2.2.2 zu zb), (Zv b1 zM zH), [(ZP z1R (z16.map ZB))]] er1<|zq<|zq<|zq<|ze<|zi fun a2 ha2 => zp (bv (!a2)) (et_ (Zqt (P := PP) (t := 94) (c := .slice none 0 0) (e := ZB) (by kernel_rfl) ha2)) ?_
 refine za (!a2) ?_ ?_
 ·refine ze<|zi fun r3 hr3 => ?_
  obtain ⟨_, er3, _, rfl⟩ := Z51 r1.2.2.1 r1.2.1.2 .sh r3 hr3
  refine zc [] (pA_ (ZN r3 .sh .sh)) [(ZS zl r1.2.2.2.1 z7 zd zh r1.2.2.2.2.1 r1.2.2.2.2.2 zu zb), (Zv b1 zM zH), [(ZP z1R (z16.map ZB))]] er3<|zz (.ptr 3 0) [(ZS zl r1.2.2.2.1 z7 zd zh r1.2.2.2.2.1 r1.2.2.2.2.2 zu zb), (Zv b1 zM zH), [(ZP z1R (z16.map ZB))], (Zv Z2g .nl .nl)]<|zt [(ZS zl r1.2.2.2.1 z7 zd zh r1.2.2.2.2.1 r1.2.2.2.2.2 zu zb), (Zv b1 zM zH), [(ZP z1R (z16.map ZB))], (Zv r3 .sh .sh)]<|ze<|zq<|zq<|zi fun r4 hr4 => ?_
  obtain ⟨_, er4, zoK, _, rfl⟩ := Ze0 r3.Set z16 .sh z1R r4 hr4
  refine zv [2] (.p (.tup [])) [(ZS zl r1.2.2.2.1 z7 zd zh r1.2.2.2.2.1 r1.2.2.2.2.2 zu zb), (Zv b1 zM zH), [(ZP zoK (r4.map ZB))], (Zv r3 .sh .sh)] er4<|ze<|zi fun r5 hr5 => ?_
  obtain ⟨_, er5, _, rfl⟩ := Z3q (Z2c.mk zl r1.2.2.2.1 z7 zd zh (Z1n.mk r1.2.2.2.2.1 r1.2.2.2.2.2)) zu zb zy r5 hr5
  refine zc [0] (iv r5) [(ZS zl r1.2.2.2.1 z7 zd zh r1.2.2.2.2.1 r1.2.2.2.2.2 zu zb), (Zv b1 zM zH), [(ZP zoK (r4.map ZB))], (Zv r3 .sh .sh)] er5<|zq ?_
  refine za (r5 == 45) ?_ ?_
  ·refine ze<|zq<|zq<|zq<|zi fun r6 hr6 => ?_
   obtain ⟨_, er6, _, rfl⟩ := Z1F 22 r1.2.2.2.1 zl r1.2.2.2.1 z7 zd zh r1.2.2.2.2.1 r1.2.2.2.2.2 zu zb zy r6 hr6
   refine zc [0] (.p (.tup [])) [(ZS zl r6.1 z7 zd zh r6.2.1 r6.2.2 zu zb), (Zv b1 zM zH), [(ZP zoK (r4.map ZB))], (Zv r3 .sh .sh)] er6 ?_
   exact zk (Z3m x1 x5 x8 zl r6.1 z7 zd zh r6.2.1 r6.2.2 b1 r4 zu zb zM zH zoK zy z1t z1f)
  ·exact zk (Z3m x1 x5 x8 zl r1.2.2.2.1 z7 zd zh r1.2.2.2.2.1 r1.2.2.2.2.2 b1 r4 zu zb zM zH zoK zy z1t z1f)
 ·exact zk (Zj5 x1 x5 x8 x9 r1.1 zl r1.2.2.2.1 z7 zd zh r1.2.2.2.2.1 r1.2.2.2.2.2 b1 z16 zu zb zM zH z1R zy z1t z1f)
def Z5J (x1 : Int) (x5 : Bool) (x8 : Int) (zl : List Int) (zn z7 zd : Int) (zh : List Zz) (z2 z6 : Int) (z16 : List Zi) : Option (Zj × Int × Int × Int) :=
 (Z3h (Z2c.mk zl zn z7 zd zh (Z1n.mk z2 z6))).bind fun r1 =>
 if (r1 == (-1)) = true then
 ((Z1A 22 x1 zl z2 z6).bind fun r2 =>
 Z2v x1 x5 x8 zl r2.1 z7 zd zh r2.2.1 r2.2.2 z16)
 else
 (if (r1 == 93) = true then
 (if (x8 == 0) = true then
 ((Z1A 22 x1 zl z2 z6).bind fun r3 =>
 Z2v x1 x5 x8 zl r3.1 z7 zd zh r3.2.1 r3.2.2 z16)
 else
 (Z8z x5 zl zn z2 z6 z16))
 else
 (if (r1 == 91) = true then
 (if (r1 == 91) = true then
 ((Z1A 22 zn zl z2 z6).bind fun r4 =>
 Z2v x1 x5 x8 zl r4.1 z7 zd zh r4.2.1 r4.2.2 z16)
 else
 (Z6Y x1 x5 x8 zn zl zn z7 zd zh z2 z6 z16))
 else
 (if (r1 == 45) = true then
 ((Z1A 22 zn zl z2 z6).bind fun r5 =>
 Z2v x1 x5 x8 zl r5.1 z7 zd zh r5.2.1 r5.2.2 z16)
 else
 (Z6Y x1 x5 x8 zn zl zn z7 zd zh z2 z6 z16))))
theorem ZjY x1 x5 x8 zl zn z7 zd zh z2 z6 b1 (z16 : List Zi) zu zb zM zH z1R (zy : ZW zb = true) (z1t : ZW zM = true) (z1f : ZW zH = true) : Sim (Z2i zl z7 zd zh zu zb) (Z5J x1 x5 x8 zl zn z7 zd zh z2 z6 z16) (Zwz 1 (.ptr 0 0) (iv x1) (.ptr 1 0) (bv x5) (.ptr 2 0) (.clo 151 [] [(.ptr 2 0)]) (iv x8) [(ZS zl zn z7 zd zh z2 z6 zu zb), (Zv b1 zM zH), [(ZP z1R (z16.map ZB))]]) := by
 unfold Z5J
 refine zf (ZDw ..)<|ze<|zq<|zq<|zq<|ze<|zi fun r1 hr1 => ?_
 obtain ⟨_, er1, _, rfl⟩ := Z3q (Z2c.mk zl zn z7 zd zh (Z1n.mk z2 z6)) zu zb zy r1 hr1
 refine zc [0] (iv r1) [(ZS zl zn z7 zd zh z2 z6 zu zb), (Zv b1 zM zH), [(ZP z1R (z16.map ZB))]] er1<|ze<|ze<|zq ?_
 refine za (r1 == (-1)) ?_ ?_
 ·refine ze<|zi fun r2 hr2 => ?_
  obtain ⟨_, er2, _, rfl⟩ := Z1F 22 x1 zl zn z7 zd zh z2 z6 zu zb zy r2 hr2
  refine zc [0] (.p (.tup [])) [(ZS zl r2.1 z7 zd zh r2.2.1 r2.2.2 zu zb), (Zv b1 zM zH), [(ZP z1R (z16.map ZB))]] er2 ?_
  exact zk (Z3m x1 x5 x8 zl r2.1 z7 zd zh r2.2.1 r2.2.2 b1 z16 zu zb zM zH z1R zy z1t z1f)
 ·refine ze<|zq ?_
  refine za (r1 == 93) ?_ ?_
  ·refine ze<|zq ?_
   refine za (x8 == 0) ?_ ?_
   ·refine ze<|zi fun r3 hr3 => ?_
    obtain ⟨_, er3, _, rfl⟩ := Z1F 22 x1 zl zn z7 zd zh z2 z6 zu zb zy r3 hr3
    refine zc [0] (.p (.tup [])) [(ZS zl r3.1 z7 zd zh r3.2.1 r3.2.2 zu zb), (Zv b1 zM zH), [(ZP z1R (z16.map ZB))]] er3 ?_
    exact zk (Z3m x1 x5 x8 zl r3.1 z7 zd zh r3.2.1 r3.2.2 b1 z16 zu zb zM zH z1R zy z1t z1f)
   ·exact zk (Zj4 x5 zl zn z7 zd zh z2 z6 b1 z16 zu zb zM zH z1R zy z1t z1f)
  ·refine ze<|zq ?_
   refine za (r1 == 91) ?_ ?_
   ·refine za (r1 == 91) ?_ ?_
    ·refine ze<|zi fun r4 hr4 => ?_
     obtain ⟨_, er4, _, rfl⟩ := Z1F 22 zn zl zn z7 zd zh z2 z6 zu zb zy r4 hr4
     refine zc [0] (.p (.tup [])) [(ZS zl r4.1 z7 zd zh r4.2.1 r4.2.2 zu zb), (Zv b1 zM zH), [(ZP z1R (z16.map ZB))]] er4 ?_
     exact zk (Z3m x1 x5 x8 zl r4.1 z7 zd zh r4.2.1 r4.2.2 b1 z16 zu zb zM zH z1R zy z1t z1f)
    ·exact zk (ZcK x1 x5 x8 zn zl zn z7 zd zh z2 z6 b1 z16 zu zb zM zH z1R zy z1t z1f)
   ·refine ze<|zq ?_
    refine za (r1 == 45) ?_ ?_
    ·refine ze<|zi fun r5 hr5 => ?_
     obtain ⟨_, er5, _, rfl⟩ := Z1F 22 zn zl zn z7 zd zh z2 z6 zu zb zy r5 hr5
     refine zc [0] (.p (.tup [])) [(ZS zl r5.1 z7 zd zh r5.2.1 r5.2.2 zu zb), (Zv b1 zM zH), [(ZP z1R (z16.map ZB))]] er5 ?_
     exact zk (Z3m x1 x5 x8 zl r5.1 z7 zd zh r5.2.1 r5.2.2 b1 z16 zu zb zM zH z1R zy z1t z1f)
    ·exact zk (ZcK x1 x5 x8 zn zl zn z7 zd zh z2 z6 b1 z16 zu zb zM zH z1R zy z1t z1f)
def ZaL (zn z2 z6 : Int) : Option (Zj × Int × Int × Int) :=
 some ((Zj.mk 0 0 0 0 0 ([] : List Zi) ([] : List Zj)), zn, z2, z6)
theorem Zj7 zl zn z7 zd zh z2 z6 b1 zu zb zM zH (zy : ZW zb = true) (z1t : ZW zM = true) (z1f : ZW zH = true) : Sim (Z2i zl z7 zd zh zu zb) (ZaL zn z2 z6) (ZtG 1 (.ptr 1 0) [(ZS zl zn z7 zd zh z2 z6 zu zb), (Zv b1 zM zH)]) := by
 unfold ZaL
 refine zf (ZBN ..)<|ze<|zq<|zt [(ZS zl zn z7 zd zh z2 z6 zu zb), (Zv Z2g .nl .nl)] ?_
 exact zr ((pA_ (ZN Z2g .sh .sh)), [(ZS zl zn z7 zd zh z2 z6 zu zb), (Zv Z2g .nl .nl)]) ⟨_, rfl⟩
def Z7p (x1 : Int) (x5 : Bool) (x8 : Int) (zl : List Int) (zn z7 zd : Int) (zh : List Zz) (z2 z6 : Int) (z16 : List Zi) : Option (Zj × Int × Int × Int) :=
 if (z2 == 0) = true then
 (Z5J x1 x5 x8 zl zn z7 zd zh z2 z6 z16)
 else
 (ZaL zn z2 z6)
theorem ZjX x1 x5 x8 zl zn z7 zd zh z2 z6 b1 (z16 : List Zi) zu zb zM zH z1R (zy : ZW zb = true) (z1t : ZW zM = true) (z1f : ZW zH = true) : Sim (Z2i zl z7 zd zh zu zb) (Z7p x1 x5 x8 zl zn z7 zd zh z2 z6 z16) (ZnJ 1 (.ptr 0 0) (iv x1) (.ptr 1 0) (bv x5) (.ptr 2 0) (.clo 151 [] [(.ptr 2 0)]) (iv x8) [(ZS zl zn z7 zd zh z2 z6 zu zb), (Zv b1 zM zH), [(ZP z1R (z16.map ZB))]]) := by
 unfold Z7p
 refine zf (ZDu ..)<|ze<|zq<|zq<|zq<|zq<|zq ?_
 refine za (z2 == 0) ?_ ?_
 ·exact zk (ZjY x1 x5 x8 zl zn z7 zd zh z2 z6 b1 z16 zu zb zM zH z1R zy z1t z1f)
 ·exact zk (Zj7 zl zn z7 zd zh z2 z6 b1 zu zb zM zH zy z1t z1f)
theorem Zdw x1 x5 x8 zl zn z7 zd zh z2 z6 z16 {r} (h : Z7p x1 x5 x8 zl zn z7 zd zh z2 z6 z16 = some r) : Z4T x1 x5 x8 zl zn z7 zd zh z2 z6 z16 = some r :=
 Z1g (fun _ _ ha hb => ru_ (Zc0 _ _ _ _ _ _) (ha default .ex .ex .ex .ex .ex rfl rfl rfl) (hb default .ex .ex .ex .ex .ex rfl rfl rfl)) (fun b1 zu zb zM zH z1R zy z1t z1f => ZjX x1 x5 x8 zl zn z7 zd zh z2 z6 b1 z16 zu zb zM zH z1R zy z1t z1f r h)
def Z6l (x2 x5 : Int) (zl : List Int) (zn z7 zd : Int) (zh : List Zz) (z2 z6 : Int) : Option (Int × (Own × (List Zi)) × Bool × Int × Int × Int) :=
 (Z8O x2 x5 zl zn z7 zd zh z2 z6).bind fun r1 =>
 some (r1.1, (.nl, ([] : List Zi)), false, r1.2.1, r1.2.2.1, r1.2.2.2)
theorem ZiA x2 x5 zl zn z7 zd zh z2 z6 zu zb (zy : ZW zb = true) : Sim (Z5w zl z7 zd zh zu zb) (Z6l x2 x5 zl zn z7 zd zh z2 z6) (ZtK 1 (.ptr 0 0) (iv x2) (iv x5) [(ZS zl zn z7 zd zh z2 z6 zu zb)]) := by
 unfold Z6l
 refine zf (ZBX ..)<|ze<|zi fun r1 hr1 => ?_
 obtain ⟨_, er1, _, rfl⟩ := Zfj x2 x5 zl zn z7 zd zh z2 z6 zu zb zy r1 hr1
 refine zc [0] (iv r1.1) [(ZS zl r1.2.1 z7 zd zh r1.2.2.1 r1.2.2.2 zu zb)] er1 ?_
 exact zr ((.p (.tup [(.v (.int .i64 r1.1)), (.lst .nl []), (.v (.bool false))])), [(ZS zl r1.2.1 z7 zd zh r1.2.2.1 r1.2.2.2 zu zb)]) ⟨_, rfl⟩
def Z8D (x2 x5 : Int) (zl : List Int) (zn z7 zd : Int) (zh : List Zz) (z2 z6 : Int) : Option (Int × (Own × (List Zi)) × Bool × Int × Int × Int) :=
 (Z3U zl zn).bind fun r1 =>
 (Z8W x2).bind fun r2 =>
 (nilO (shrO r2.1) r2.2).bind fun a3 =>
 if (!a3) = true then
 (some (0, ((shrO r2.1), r2.2), (decide (x2 < 97)), r1.2, z2, z6))
 else
 (Z6l x2 x5 zl r1.2 z7 zd zh z2 z6)
theorem Zjc x2 x5 zl zn z7 zd zh z2 z6 zu zb (zy : ZW zb = true) : Sim (Z5w zl z7 zd zh zu zb) (Z8D x2 x5 zl zn z7 zd zh z2 z6) (ZwQ 1 (.ptr 0 0) (iv x2) (iv x5) [(ZS zl zn z7 zd zh z2 z6 zu zb)]) := by
 unfold Z8D
 refine zf (ZDI ..)<|ze<|zi fun r1 hr1 => ?_
 obtain ⟨_, er1, _, rfl⟩ := Z4u zl zn z7 zd zh z2 z6 zu zb zy r1 hr1
 refine zc [0] (iv r1.1) [(ZS zl r1.2 z7 zd zh z2 z6 zu zb)] er1<|ze<|zi fun r2 hr2 => ?_
 obtain ⟨_, er2, _, rfl⟩ := Zdk x2 r2 hr2
 refine zc [] (ZP r2.1 (r2.2.map ZB)) [(ZS zl r1.2 z7 zd zh z2 z6 zu zb)] er2<|ze<|zi fun a3 ha3 => zp (bv (!a3)) (et_ (Zqt (P := PP) (t := 94) (c := .slice none 0 0) (e := ZB) (by kernel_rfl) ha3)) ?_
 refine za (!a3) ?_ ?_
 ·refine ze<|zq ?_
  exact zr ((.p (.tup [(.v (.int .i64 0)), (.lst (shrO r2.1) (r2.2.map ZB)), (.v (.bool (decide (x2 < 97))))])), [(ZS zl r1.2 z7 zd zh z2 z6 zu zb)]) ⟨_, rfl⟩
 ·exact zk (ZiA x2 x5 zl r1.2 z7 zd zh z2 z6 zu zb zy)
def Z8C (x5 : Int) (zl : List Int) (zn z7 zd : Int) (zh : List Zz) (z2 z6 : Int) : Option (Int × (Own × (List Zi)) × Bool × Int × Int × Int) :=
 (Z3h (Z2c.mk zl zn z7 zd zh (Z1n.mk z2 z6))).bind fun r1 =>
 if (decide (r1 < 0)) = true then
 ((Z1A 21 x5 zl z2 z6).bind fun r2 =>
 some (0, (.nl, ([] : List Zi)), false, r2.1, r2.2.1, r2.2.2))
 else
 (Z8D r1 x5 zl zn z7 zd zh z2 z6)
theorem Zjb x5 zl zn z7 zd zh z2 z6 zu zb (zy : ZW zb = true) : Sim (Z5w zl z7 zd zh zu zb) (Z8C x5 zl zn z7 zd zh z2 z6) (ZwP 1 (.ptr 0 0) (iv x5) [(ZS zl zn z7 zd zh z2 z6 zu zb)]) := by
 unfold Z8C
 refine zf (ZDH ..)<|ze<|zi fun r1 hr1 => ?_
 obtain ⟨_, er1, _, rfl⟩ := Z3q (Z2c.mk zl zn z7 zd zh (Z1n.mk z2 z6)) zu zb zy r1 hr1
 refine zc [0] (iv r1) [(ZS zl zn z7 zd zh z2 z6 zu zb)] er1<|ze<|zq ?_
 refine za (decide (r1 < 0)) ?_ ?_
 ·refine ze<|zi fun r2 hr2 => ?_
  obtain ⟨_, er2, _, rfl⟩ := Z1F 21 x5 zl zn z7 zd zh z2 z6 zu zb zy r2 hr2
  refine zc [0] (.p (.tup [])) [(ZS zl r2.1 z7 zd zh r2.2.1 r2.2.2 zu zb)] er2<|ze ?_
  exact zr ((.p (.tup [(.v (.int .i64 0)), (.lst .nl []), (.v (.bool false))])), [(ZS zl r2.1 z7 zd zh r2.2.1 r2.2.2 zu zb)]) ⟨_, rfl⟩
 ·exact zk (Zjc r1 x5 zl zn z7 zd zh z2 z6 zu zb zy)
def Z8e (zl : List Int) (zn z7 zd : Int) (zh : List Zz) (z2 z6 : Int) : Option (Int × (Own × (List Zi)) × Bool × Int × Int × Int) :=
 (Z3U zl zn).bind fun r1 =>
 if (r1.1 != 92) = true then
 (some (r1.1, (.nl, ([] : List Zi)), false, r1.2, z2, z6))
 else
 (Z8C zn zl r1.2 z7 zd zh z2 z6)
theorem Zl3 zl zn z7 zd zh z2 z6 zu zb (zy : ZW zb = true) : Sim (Z5w zl z7 zd zh zu zb) (Z8e zl zn z7 zd zh z2 z6) (EE 153 [(.ptr 0 0)] [(ZS zl zn z7 zd zh z2 z6 zu zb)]) := by
 unfold Z8e
 refine zf (ZKf ..)<|ze<|ze<|zq<|zq<|zq<|ze<|zi fun r1 hr1 => ?_
 obtain ⟨_, er1, _, rfl⟩ := Z4u zl zn z7 zd zh z2 z6 zu zb zy r1 hr1
 refine zc [0] (iv r1.1) [(ZS zl r1.2 z7 zd zh z2 z6 zu zb)] er1<|ze<|zq ?_
 refine za (r1.1 != 92) ?_ ?_
 ·refine ze ?_
  exact zr ((.p (.tup [(.v (.int .i64 r1.1)), (.lst .nl []), (.v (.bool false))])), [(ZS zl r1.2 z7 zd zh z2 z6 zu zb)]) ⟨_, rfl⟩
 ·exact zk (Zjb zn zl r1.2 z7 zd zh z2 z6 zu zb zy)
theorem Zeg zl zn z7 zd zh z2 z6 {r} (h : Z8e zl zn z7 zd zh z2 z6 = some r) : Z6H zl zn z7 zd zh z2 z6 = some r :=
 Z1g (fun _ _ ha hb => ru_ (Zmd _ _ _ _ _ _) (ha .ex .ex rfl) (hb .ex .ex rfl)) (fun zu zb zy => Zl3 zl zn z7 zd zh z2 z6 zu zb zy r h)
def Z9x (x0 z14 : List Zi) : Option (List Zi) :=
 (ZeS z14 x0).bind fun r1 =>
 some r1.1
theorem Zkv (x0 z14 : List Zi) ox0 z1O : Sim Z9v (Z9x x0 z14) (EE 151 [(ZP ox0 (x0.map ZB)), (.ptr 0 0)] [[(ZP z1O (z14.map ZB))]]) := by
 unfold Z9x
 refine zf (ZKc ..)<|ze<|zq<|zi fun r1 hr1 => ?_
 obtain ⟨_, er1, _, rfl⟩ := Zt1 z14 x0 .sh .sh r1 hr1
 refine zc [] (.p (.tup [(.lst .sh (r1.1.map ZB)), (.v (.int .i64 r1.2))])) [[(ZP z1O (z14.map ZB))]] er1<|zq<|zq<|zt [[(ZP .sh (r1.1.map ZB))]] ?_
 exact zr ((.p (.tup [])), [[(ZP .sh (r1.1.map ZB))]]) ⟨.sh, _, rfl⟩
theorem Zl0 x0 z14 {r} (h : Z9x x0 z14 = some r) : Z7M x0 z14 = some r :=
 Z1g (fun _ _ ha hb => ru_ Zlu (ha .ex .ex) (hb .ex .ex)) (fun ox0 z1O => Zkv x0 z14 ox0 z1O r h)
def Zck : Option ((List Zi) × Int) :=
 some (([] : List Zi), 10)
theorem Zhb : Sim Z5Q Zck (Zsq 0 []) := by
 unfold Zck
 refine zf (ZDF ..)<|ze ?_
 exact zr ((.p (.tup [(.lst .sh []), (.v (.int .i64 10))])), []) ⟨_, rfl⟩
def Zcl (x0 x1 : List Zi) : Option ((List Zi) × Int) :=
 (ZcO ([x0, x1] : List (List Zi))).bind fun r1 =>
 (ZeT r1).bind fun r2 =>
 some (r2, 0)
theorem Zo8 (x0 x1 : List Zi) ox0 ox1 : Sim Z5Q (Zcl x0 x1) (ZwM 0 (ZP ox0 (x0.map ZB)) (ZP ox1 (x1.map ZB)) []) := by
 unfold Zcl
 refine zf (ZDG ..)<|ze<|zq<|zi fun r1 hr1 => ?_
 obtain ⟨_, er1, _, rfl⟩ := ZlV ([x0, x1] : List (List Zi)) .sh r1 hr1
 refine zc [] (ZP .sh (r1.map ZB)) [] er1<|zi fun r2 hr2 => ?_
 obtain ⟨_, er2, _, rfl⟩ := ZkI r1 .sh r2 hr2
 refine zc [] (ZP .sh (r2.map ZB)) [] er2 ?_
 exact zr ((.p (.tup [(.lst .sh (r2.map ZB)), (.v (.int .i64 0))])), []) ⟨_, rfl⟩
def ZeF (x0 x1 : List Zi) : Option ((List Zi) × Int) :=
 (Z8j x0).bind fun r1 =>
 if (!r1) = true then
 Zck
 else
 ((Z8j x1).bind fun r2 =>
 if (!r2) = true then
 Zck
 else
 (Zcl x0 x1))
theorem Zrp (x0 x1 : List Zi) ox0 ox1 : Sim Z5Q (ZeF x0 x1) (EE 152 [(ZP ox0 (x0.map ZB)), (ZP ox1 (x1.map ZB))] []) := by
 unfold ZeF
 refine zf (ZKd ..)<|ze<|ze<|zi fun r1 hr1 => ?_
 obtain ⟨_, er1, _, rfl⟩ := ZcG x0 .sh r1 hr1
 refine zc [] (bv r1) [] er1<|zq ?_
 refine za (!r1) ?_ ?_
 ·exact zk Zhb
 ·refine zi fun r2 hr2 => ?_
  obtain ⟨_, er2, _, rfl⟩ := ZcG x1 .sh r2 hr2
  refine zc [] (bv r2) [] er2<|zq ?_
  refine za (!r2) ?_ ?_
  ·exact zk Zhb
  ·exact zk (Zo8 x0 x1 ox0 ox1)
theorem Zt0 x0 x1 {r} (h : ZeF x0 x1 = some r) : ZeS x0 x1 = some r :=
 Z1g (fun _ _ ha hb => ru_ ZiU (ha .ex .ex) (hb .ex .ex)) (fun ox0 ox1 => Zrp x0 x1 ox0 ox1 r h)
def Z70 (zn z7 zd : Int) (zh : List Zz) (z2 z6 z2k z3g z3f z2s z2M : Int) (z2N : List Zi) (b2 : Zj) : Option (Zj × Bool × Int × Int × Int × (List Zz) × Int × Int) :=
 some ((Zj.mk z2k z3g z3f z2s z2M z2N ([b2] : List Zj)), (z2k != 7), zn, z7, zd, zh, z2, z6)
theorem Zjg zl zn z7 zd zh z2 z6 z2k z3g z3f z2s z2M z2N z3T b2 zu zb zM zH z3o z34 (zy : ZW zb = true) (z1t : ZW zM = true) (z1f : ZW zH = true) : Sim (Z3r zl zu) (Z70 zn z7 zd zh z2 z6 z2k z3g z3f z2s z2M z2N b2) (ZtI 1 (.ptr 1 0) (.ptr 2 0) [(ZS zl zn z7 zd zh z2 z6 zu zb), (Z3n z2k z3g z3f z2s z2M z2N z3T zM zH), (Zv b2 z3o z34)]) := by
 unfold Z70
 refine zf (ZBR ..)<|ze<|zq<|zp (ZP .ex (([b2] : List Zj).map Z13)) (Eq.trans (b := some (ZP .ex [.agg (Z3D b2)])) (by kernel_rfl) (by simp only [Z8x, Zm4, Z5O]))<|zq<|zt [(ZS zl zn z7 zd zh z2 z6 zu zb), (Z3n z2k z3g z3f z2s z2M z2N ([b2] : List Zj) zM .ex), (Zv b2 z3o z34)]<|ze<|zq<|zq<|zq<|zq<|zt [(ZS zl zn z7 zd zh z2 z6 zu zb), (Z3n z2k z3g z3f z2s z2M z2N ([b2] : List Zj) (shrO zM) .ex), (Zv b2 z3o z34)] ?_
 exact zr ((.p (.tup [(.agg (ZN (Zj.mk z2k z3g z3f z2s z2M z2N ([b2] : List Zj)) .sh .sh)), (.v (.bool (z2k != 7)))])), [(ZS zl zn z7 zd zh z2 z6 zu zb), (Z3n z2k z3g z3f z2s z2M z2N ([b2] : List Zj) (shrO zM) .ex), (Zv b2 z3o z34)]) ⟨zb, _, zy, rfl⟩
def Z3H (zn z7 zd : Int) (zh : List Zz) (z2 z6 z2k z3g z3f z2s z2M : Int) (z2N : List Zi) (b2 : Zj) : Option (Zj × Bool × Int × Int × Int × (List Zz) × Int × Int) :=
 if (z2k == 0) = true then
 (some (b2, true, zn, z7, (IntKind.i64.wrap (zd - 1)), zh, z2, z6))
 else
 (Z70 zn z7 (IntKind.i64.wrap (zd - 1)) zh z2 z6 z2k z3g z3f z2s z2M z2N b2)
theorem Z9p zl zn z7 zd zh z2 z6 z2k z3g z3f z2s z2M z2N z3T b2 zu zb zM zH z3o z34 (zy : ZW zb = true) (z1t : ZW zM = true) (z1f : ZW zH = true) : Sim (Z3r zl zu) (Z3H zn z7 zd zh z2 z6 z2k z3g z3f z2s z2M z2N b2) (ZlC 1 (.ptr 0 0) (.ptr 1 0) (.ptr 2 0) [(ZS zl zn z7 zd zh z2 z6 zu zb), (Z3n z2k z3g z3f z2s z2M z2N z3T zM zH), (Zv b2 z3o z34)]) := by
 unfold Z3H
 refine zf (ZBQ ..)<|ze<|zq<|zq<|zq<|zq<|zq<|zq<|zt [(ZS zl zn z7 (IntKind.i64.wrap (zd - 1)) zh z2 z6 zu zb), (Z3n z2k z3g z3f z2s z2M z2N z3T zM zH), (Zv b2 z3o z34)]<|ze<|zq<|zq<|zq ?_
 refine za (z2k == 0) ?_ ?_
 ·refine ze<|zq<|zt [(ZS zl zn z7 (IntKind.i64.wrap (zd - 1)) zh z2 z6 zu zb), (Zv b2 (shrO z3o) (shrO z34)), (Zv b2 z3o z34)] ?_
  exact zr ((.p (.tup [(.agg (ZN b2 .sh .sh)), (.v (.bool true))])), [(ZS zl zn z7 (IntKind.i64.wrap (zd - 1)) zh z2 z6 zu zb), (Zv b2 (shrO z3o) (shrO z34)), (Zv b2 z3o z34)]) ⟨zb, _, zy, rfl⟩
 ·exact zk (Zjg zl zn z7 (IntKind.i64.wrap (zd - 1)) zh z2 z6 z2k z3g z3f z2s z2M z2N z3T b2 zu zb zM zH z3o z34 zy z1t z1f)
def Z8G (x1 : Int) (zl : List Int) (z7 zd : Int) (zh : List Zz) (z2 z6 z2k z3g z3f z2s z2M : Int) (z2N : List Zi) (b2 : Zj) : Option (Zj × Bool × Int × Int × Int × (List Zz) × Int × Int) :=
 (Z1A 20 x1 zl z2 z6).bind fun r1 =>
 Z3H r1.1 z7 zd zh r1.2.1 r1.2.2 z2k z3g z3f z2s z2M z2N b2
theorem Zjf x1 zl zn z7 zd zh z2 z6 z2k z3g z3f z2s z2M z2N z3T b2 zu zb zM zH z3o z34 (zy : ZW zb = true) (z1t : ZW zM = true) (z1f : ZW zH = true) : Sim (Z3r zl zu) (Z8G x1 zl z7 zd zh z2 z6 z2k z3g z3f z2s z2M z2N b2) (ZtH 1 (.ptr 0 0) (iv x1) (.ptr 1 0) (.ptr 2 0) [(ZS zl zn z7 zd zh z2 z6 zu zb), (Z3n z2k z3g z3f z2s z2M z2N z3T zM zH), (Zv b2 z3o z34)]) := by
 unfold Z8G
 refine zf (ZBP ..)<|ze<|zi fun r1 hr1 => ?_
 obtain ⟨_, er1, _, rfl⟩ := Z1F 20 x1 zl zn z7 zd zh z2 z6 zu zb zy r1 hr1
 refine zc [0] (.p (.tup [])) [(ZS zl r1.1 z7 zd zh r1.2.1 r1.2.2 zu zb), (Z3n z2k z3g z3f z2s z2M z2N z3T zM zH), (Zv b2 z3o z34)] er1 ?_
 exact zk (Z9p zl r1.1 z7 zd zh r1.2.1 r1.2.2 z2k z3g z3f z2s z2M z2N z3T b2 zu zb zM zH z3o z34 zy z1t z1f)
def Z2Y (x1 : Int) (zl : List Int) (zn z7 zd : Int) (zh : List Zz) (z2 z6 z2k z3g z3f z2s z2M : Int) (z2N : List Zi) : Option (Zj × Bool × Int × Int × Int × (List Zz) × Int × Int) :=
 (Z58 zl zn z7 zd zh z2 z6).bind fun r1 =>
 if (r1.2.2.2.2.2.1 == 0) = true then
 ((Z2j (ByteArray.mk #[41]) zl r1.2.1).bind fun r2 =>
 if (!r2.1) = true then
 (Z8G x1 zl r1.2.2.1 r1.2.2.2.1 r1.2.2.2.2.1 r1.2.2.2.2.2.1 r1.2.2.2.2.2.2 z2k z3g z3f z2s z2M z2N r1.1)
 else
 (Z3H r2.2 r1.2.2.1 r1.2.2.2.1 r1.2.2.2.2.1 r1.2.2.2.2.2.1 r1.2.2.2.2.2.2 z2k z3g z3f z2s z2M z2N r1.1))
 else
 (Z3H r1.2.1 r1.2.2.1 r1.2.2.2.1 r1.2.2.2.2.1 r1.2.2.2.2.2.1 r1.2.2.2.2.2.2 z2k z3g z3f z2s z2M z2N r1.1)
theorem Z4C x1 zl zn z7 zd zh z2 z6 z2k z3g z3f z2s z2M z2N z3T zu zb zM zH (zy : ZW zb = true) (z1t : ZW zM = true) (z1f : ZW zH = true) : Sim (Z3r zl zu) (Z2Y x1 zl zn z7 zd zh z2 z6 z2k z3g z3f z2s z2M z2N) (Ze6 1 (.ptr 0 0) (iv x1) (.ptr 1 0) [(ZS zl zn z7 zd zh z2 z6 zu zb), (Z3n z2k z3g z3f z2s z2M z2N z3T zM zH)]) := by
 unfold Z2Y
 refine zf (ZBO ..)<|ze<|zi fun r1 hr1 => ?_
 obtain ⟨_, er1, z6c, _, zb8, rfl⟩ := Zhh zl zn z7 zd zh z2 z6 zu zb zy r1 hr1
 refine zc [0] (pA_ (ZN r1.1 .sh .sh)) [(ZS zl r1.2.1 r1.2.2.1 r1.2.2.2.1 r1.2.2.2.2.1 r1.2.2.2.2.2.1 r1.2.2.2.2.2.2 zu z6c), (Z3n z2k z3g z3f z2s z2M z2N z3T zM zH)] er1<|zz (.ptr 2 0) [(ZS zl r1.2.1 r1.2.2.1 r1.2.2.2.1 r1.2.2.2.2.1 r1.2.2.2.2.2.1 r1.2.2.2.2.2.2 zu z6c), (Z3n z2k z3g z3f z2s z2M z2N z3T zM zH), (Zv Z2g .nl .nl)]<|zt [(ZS zl r1.2.1 r1.2.2.1 r1.2.2.2.1 r1.2.2.2.2.1 r1.2.2.2.2.2.1 r1.2.2.2.2.2.2 zu z6c), (Z3n z2k z3g z3f z2s z2M z2N z3T zM zH), (Zv r1.1 .sh .sh)]<|ze<|zq<|zq<|zq<|zq<|zq ?_
 refine za (r1.2.2.2.2.2.1 == 0) ?_ ?_
 ·refine zi fun r2 hr2 => ?_
  obtain ⟨_, er2, _, rfl⟩ := Z2u (ByteArray.mk #[41]) zl r1.2.1 r1.2.2.1 r1.2.2.2.1 r1.2.2.2.2.1 r1.2.2.2.2.2.1 r1.2.2.2.2.2.2 zu z6c zb8 r2 hr2
  refine zc [0] (bv r2.1) [(ZS zl r2.2 r1.2.2.1 r1.2.2.2.1 r1.2.2.2.2.1 r1.2.2.2.2.2.1 r1.2.2.2.2.2.2 zu z6c), (Z3n z2k z3g z3f z2s z2M z2N z3T zM zH), (Zv r1.1 .sh .sh)] er2<|zq ?_
  refine za (!r2.1) ?_ ?_
  ·exact zk (Zjf x1 zl r2.2 r1.2.2.1 r1.2.2.2.1 r1.2.2.2.2.1 r1.2.2.2.2.2.1 r1.2.2.2.2.2.2 z2k z3g z3f z2s z2M z2N z3T r1.1 zu z6c zM zH .sh .sh zb8 z1t z1f)
  ·exact zk (Z9p zl r2.2 r1.2.2.1 r1.2.2.2.1 r1.2.2.2.2.1 r1.2.2.2.2.2.1 r1.2.2.2.2.2.2 z2k z3g z3f z2s z2M z2N z3T r1.1 zu z6c zM zH .sh .sh zb8 z1t z1f)
 ·exact zk (Z9p zl r1.2.1 r1.2.2.1 r1.2.2.2.1 r1.2.2.2.2.1 r1.2.2.2.2.2.1 r1.2.2.2.2.2.2 z2k z3g z3f z2s z2M z2N z3T r1.1 zu z6c zM zH .sh .sh zb8 z1t z1f)
def Z7q (x1 : Int) (zl : List Int) (zn z7 zd : Int) (zh : List Zz) (z2 z6 z2k z3g z3f z2s z2M : Int) (z2N : List Zi) : Option (Zj × Bool × Int × Int × Int × (List Zz) × Int × Int) :=
 (ZgB).bind fun r1 =>
 (Z6W r1 zl zn).bind fun r2 =>
 if (decide (0 ≤ r2.1)) = true then
 (Z2Y x1 zl r2.2 z7 (IntKind.i64.wrap (zd + 1)) zh z2 z6 7 0 0 r2.1 0 ([] : List Zi))
 else
 ((Z2j (ByteArray.mk #[63, 62]) zl r2.2).bind fun r3 =>
 if r3.1 = true then
 (Z2Y x1 zl r3.2 z7 (IntKind.i64.wrap (zd + 1)) zh z2 z6 8 0 0 0 0 ([] : List Zi))
 else
 ((Z2j (ByteArray.mk #[63, 58]) zl r3.2).bind fun r4 =>
 if r4.1 = true then
 (Z2Y x1 zl r4.2 z7 (IntKind.i64.wrap (zd + 1)) zh z2 z6 z2k z3g z3f z2s z2M z2N)
 else
 ((Z3h (Z2c.mk zl r4.2 z7 (IntKind.i64.wrap (zd + 1)) zh (Z1n.mk z2 z6))).bind fun r5 =>
 if (r5 == 63) = true then
 ((Z1A 20 x1 zl z2 z6).bind fun r6 =>
 Z2Y x1 zl r6.1 z7 (IntKind.i64.wrap (zd + 1)) zh r6.2.1 r6.2.2 z2k z3g z3f z2s z2M z2N)
 else
 (if (z7 == 9) = true then
 ((Z1A 24 x1 zl z2 z6).bind fun r7 =>
 Z2Y x1 zl r7.1 z7 (IntKind.i64.wrap (zd + 1)) zh r7.2.1 r7.2.2 z2k z3g z3f z2s z2M z2N)
 else
 (Z2Y x1 zl r4.2 (IntKind.i64.wrap (z7 + 1)) (IntKind.i64.wrap (zd + 1)) zh z2 z6 5 0 0 0 (IntKind.i64.wrap (z7 + 1)) ([] : List Zi))))))
theorem Zk0 x1 zl zn z7 zd zh z2 z6 z2k z3g z3f z2s z2M z2N z3T zu zb zM zH (zy : ZW zb = true) (z1t : ZW zM = true) (z1f : ZW zH = true) : Sim (Z3r zl zu) (Z7q x1 zl zn z7 zd zh z2 z6 z2k z3g z3f z2s z2M z2N) (ZwC 1 (.ptr 0 0) (iv x1) (.ptr 1 0) [(ZS zl zn z7 zd zh z2 z6 zu zb), (Z3n z2k z3g z3f z2s z2M z2N z3T zM zH)]) := by
 unfold Z7q
 refine zf (ZDx ..)<|ze<|zq<|zq<|zq<|zq<|zq<|zq<|zt [(ZS zl zn z7 (IntKind.i64.wrap (zd + 1)) zh z2 z6 zu zb), (Z3n z2k z3g z3f z2s z2M z2N z3T zM zH)]<|ze<|zi fun r1 hr1 => ?_
 obtain ⟨_, er1, _, rfl⟩ := ZtS r1 hr1
 refine zc [] (ZP .sh (r1.map eS)) [(ZS zl zn z7 (IntKind.i64.wrap (zd + 1)) zh z2 z6 zu zb), (Z3n z2k z3g z3f z2s z2M z2N z3T zM zH)] er1<|zi fun r2 hr2 => ?_
 obtain ⟨_, er2, _, rfl⟩ := ZgZ r1 zl zn z7 (IntKind.i64.wrap (zd + 1)) zh z2 z6 .sh zu zb zy r2 hr2
 refine zc [0] (iv r2.1) [(ZS zl r2.2 z7 (IntKind.i64.wrap (zd + 1)) zh z2 z6 zu zb), (Z3n z2k z3g z3f z2s z2M z2N z3T zM zH)] er2<|ze<|zq ?_
 refine za (decide (0 ≤ r2.1)) ?_ ?_
 ·refine ze<|zq<|zt [(ZS zl r2.2 z7 (IntKind.i64.wrap (zd + 1)) zh z2 z6 zu zb), (Z3n 7 0 0 r2.1 0 ([] : List Zi) ([] : List Zj) .nl .nl)] ?_
  exact zk (Z4C x1 zl r2.2 z7 (IntKind.i64.wrap (zd + 1)) zh z2 z6 7 0 0 r2.1 0 ([] : List Zi) ([] : List Zj) zu zb .nl .nl zy rfl rfl)
 ·refine ze<|zi fun r3 hr3 => ?_
  obtain ⟨_, er3, _, rfl⟩ := Z2u (ByteArray.mk #[63, 62]) zl r2.2 z7 (IntKind.i64.wrap (zd + 1)) zh z2 z6 zu zb zy r3 hr3
  refine zc [0] (bv r3.1) [(ZS zl r3.2 z7 (IntKind.i64.wrap (zd + 1)) zh z2 z6 zu zb), (Z3n z2k z3g z3f z2s z2M z2N z3T zM zH)] er3 ?_
  refine za r3.1 ?_ ?_
  ·refine ze<|zq<|zt [(ZS zl r3.2 z7 (IntKind.i64.wrap (zd + 1)) zh z2 z6 zu zb), (Z3n 8 0 0 0 0 ([] : List Zi) ([] : List Zj) .nl .nl)] ?_
   exact zk (Z4C x1 zl r3.2 z7 (IntKind.i64.wrap (zd + 1)) zh z2 z6 8 0 0 0 0 ([] : List Zi) ([] : List Zj) zu zb .nl .nl zy rfl rfl)
  ·refine ze<|zi fun r4 hr4 => ?_
   obtain ⟨_, er4, _, rfl⟩ := Z2u (ByteArray.mk #[63, 58]) zl r3.2 z7 (IntKind.i64.wrap (zd + 1)) zh z2 z6 zu zb zy r4 hr4
   refine zc [0] (bv r4.1) [(ZS zl r4.2 z7 (IntKind.i64.wrap (zd + 1)) zh z2 z6 zu zb), (Z3n z2k z3g z3f z2s z2M z2N z3T zM zH)] er4 ?_
   refine za r4.1 ?_ ?_
   ·exact zk (Z4C x1 zl r4.2 z7 (IntKind.i64.wrap (zd + 1)) zh z2 z6 z2k z3g z3f z2s z2M z2N z3T zu zb zM zH zy z1t z1f)
   ·refine ze<|zi fun r5 hr5 => ?_
    obtain ⟨_, er5, _, rfl⟩ := Z3q (Z2c.mk zl r4.2 z7 (IntKind.i64.wrap (zd + 1)) zh (Z1n.mk z2 z6)) zu zb zy r5 hr5
    refine zc [0] (iv r5) [(ZS zl r4.2 z7 (IntKind.i64.wrap (zd + 1)) zh z2 z6 zu zb), (Z3n z2k z3g z3f z2s z2M z2N z3T zM zH)] er5<|zq ?_
    refine za (r5 == 63) ?_ ?_
    ·refine ze<|zi fun r6 hr6 => ?_
     obtain ⟨_, er6, _, rfl⟩ := Z1F 20 x1 zl r4.2 z7 (IntKind.i64.wrap (zd + 1)) zh z2 z6 zu zb zy r6 hr6
     refine zc [0] (.p (.tup [])) [(ZS zl r6.1 z7 (IntKind.i64.wrap (zd + 1)) zh r6.2.1 r6.2.2 zu zb), (Z3n z2k z3g z3f z2s z2M z2N z3T zM zH)] er6 ?_
     exact zk (Z4C x1 zl r6.1 z7 (IntKind.i64.wrap (zd + 1)) zh r6.2.1 r6.2.2 z2k z3g z3f z2s z2M z2N z3T zu zb zM zH zy z1t z1f)
    ·refine ze<|zq<|zq<|zq<|zq ?_
     refine za (z7 == 9) ?_ ?_
     ·refine ze<|zi fun r7 hr7 => ?_
      obtain ⟨_, er7, _, rfl⟩ := Z1F 24 x1 zl r4.2 z7 (IntKind.i64.wrap (zd + 1)) zh z2 z6 zu zb zy r7 hr7
      refine zc [0] (.p (.tup [])) [(ZS zl r7.1 z7 (IntKind.i64.wrap (zd + 1)) zh r7.2.1 r7.2.2 zu zb), (Z3n z2k z3g z3f z2s z2M z2N z3T zM zH)] er7 ?_
      exact zk (Z4C x1 zl r7.1 z7 (IntKind.i64.wrap (zd + 1)) zh r7.2.1 r7.2.2 z2k z3g z3f z2s z2M z2N z3T zu zb zM zH zy z1t z1f)
     ·refine ze<|zq<|zq<|zq<|zq<|zq<|zq<|zt [(ZS zl r4.2 (IntKind.i64.wrap (z7 + 1)) (IntKind.i64.wrap (zd + 1)) zh z2 z6 zu zb), (Z3n z2k z3g z3f z2s z2M z2N z3T zM zH)]<|ze<|zq<|zq<|zq<|zq<|zt [(ZS zl r4.2 (IntKind.i64.wrap (z7 + 1)) (IntKind.i64.wrap (zd + 1)) zh z2 z6 zu zb), (Z3n 5 0 0 0 (IntKind.i64.wrap (z7 + 1)) ([] : List Zi) ([] : List Zj) .nl .nl)] ?_
      exact zk (Z4C x1 zl r4.2 (IntKind.i64.wrap (z7 + 1)) (IntKind.i64.wrap (zd + 1)) zh z2 z6 5 0 0 0 (IntKind.i64.wrap (z7 + 1)) ([] : List Zi) ([] : List Zj) zu zb .nl .nl zy rfl rfl)
def Z78 (x1 : Int) (zl : List Int) (zn z7 zd : Int) (zh : List Zz) (z2 z6 : Int) : Option (Zj × Bool × Int × Int × Int × (List Zz) × Int × Int) :=
 if (zd == 32) = true then
 ((Z1A 25 x1 zl z2 z6).bind fun r1 =>
 some ((Zj.mk 0 0 0 0 0 ([] : List Zi) ([] : List Zj)), true, r1.1, z7, zd, zh, r1.2.1, r1.2.2))
 else
 (Z7q x1 zl zn z7 zd zh z2 z6 0 0 0 0 0 ([] : List Zi))
theorem ZlP x1 zl zn z7 zd zh z2 z6 zu zb (zy : ZW zb = true) : Sim (Z3r zl zu) (Z78 x1 zl zn z7 zd zh z2 z6) (EE 132 [(.ptr 0 0), (iv x1)] [(ZS zl zn z7 zd zh z2 z6 zu zb)]) := by
 unfold Z78
 refine zf (ZJW ..)<|ze<|zz (.ptr 1 0) [(ZS zl zn z7 zd zh z2 z6 zu zb), (Zv Z2g .nl .nl)]<|ze<|zq<|zq<|zq<|zq ?_
 refine za (zd == 32) ?_ ?_
 ·refine ze<|zi fun r1 hr1 => ?_
  obtain ⟨_, er1, _, rfl⟩ := Z1F 25 x1 zl zn z7 zd zh z2 z6 zu zb zy r1 hr1
  refine zc [0] (.p (.tup [])) [(ZS zl r1.1 z7 zd zh r1.2.1 r1.2.2 zu zb), (Zv Z2g .nl .nl)] er1<|ze<|zq<|zt [(ZS zl r1.1 z7 zd zh r1.2.1 r1.2.2 zu zb), (Zv Z2g .nl .nl)] ?_
  exact zr ((.p (.tup [(.agg (ZN Z2g .sh .sh)), (.v (.bool true))])), [(ZS zl r1.1 z7 zd zh r1.2.1 r1.2.2 zu zb), (Zv Z2g .nl .nl)]) ⟨zb, _, zy, rfl⟩
 ·exact zk (Zk0 x1 zl zn z7 zd zh z2 z6 0 0 0 0 0 ([] : List Zi) ([] : List Zj) zu zb .nl .nl zy rfl rfl)
theorem Zby x1 zl zn z7 zd zh z2 z6 {r} (h : Z78 x1 zl zn z7 zd zh z2 z6 = some r) : Z5P x1 zl zn z7 zd zh z2 z6 = some r :=
 Z1g (fun _ _ ha hb => ru_ (ZfP _ _) (ha .ex .ex rfl) (hb .ex .ex rfl)) (fun zu zb zy => ZlP x1 zl zn z7 zd zh z2 z6 zu zb zy r h)
def Zkq : Option (List ByteArray) :=
 some ([(ByteArray.mk #[63, 61]), (ByteArray.mk #[63, 33]), (ByteArray.mk #[63, 60, 61]), (ByteArray.mk #[63, 60, 33])] : List ByteArray)
theorem Zt6 : Sim Zgq Zkq (EE 155 [] []) := by
 unfold Zkq
 refine zf (ZKi ..)<|ze<|ze<|zq ?_
 exact zr ((ZP .sh (([(ByteArray.mk #[63, 61]), (ByteArray.mk #[63, 33]), (ByteArray.mk #[63, 60, 61]), (ByteArray.mk #[63, 60, 33])] : List ByteArray).map eS)), []) ⟨_, rfl⟩
theorem ZtR {r} (h : Zkq = some r) : ZgB = some r :=
 Z1g (fun _ _ ha hb => ru_ ZuD ha hb) (Zt6 r h)
def Z6P (x0 : List ByteArray) (zl : List Int) (zn : Int) : Option (Int × Int) :=
 Z2V x0 (x0.length : Int) 0 zl zn
theorem Zgk (x0 : List ByteArray) zl zn z7 zd zh z2 z6 ox0 zu zb (zy : ZW zb = true) : Sim (Z2L zl z7 zd zh z2 z6 zu zb) (Z6P x0 zl zn) (EE 154 [(ZP ox0 (x0.map eS)), (.clo 68 [(.ptr 0 0)] [])] [(ZS zl zn z7 zd zh z2 z6 zu zb)]) := by
 unfold Z6P
 refine zf (ZKg ..)<|ze<|ze<|zp (iv (x0.length : Int)) (et_ (Z32 (P := PP) (t := 226) (d := 9) (by kernel_rfl) eS (shrO ox0) x0)) ?_
 exact zk (Za0 x0 (x0.length : Int) 0 zl zn z7 zd zh z2 z6 ox0 zu zb zy)
theorem ZgY x0 zl zn {r} (h : Z6P x0 zl zn = some r) : Z6W x0 zl zn = some r :=
 Z1g (fun _ _ ha hb => ru_ (Z86 _ _ _ _ _ _ _ _) (ha default default default default default .ex .ex .ex rfl) (hb default default default default default .ex .ex .ex rfl)) (fun z7 zd zh z2 z6 ox0 zu zb zy => Zgk x0 zl zn z7 zd zh z2 z6 ox0 zu zb zy r h)
def Z5N (x0 : List ByteArray) (x7 x8 : Int) (zl : List Int) (zn : Int) : Option (Int × Int) :=
 Z2V x0 x7 (IntKind.i64.wrap (x8 + 1)) zl zn
theorem Zep (x0 : List ByteArray) x7 x8 zl zn z7 zd zh z2 z6 ox0 zu zb (zy : ZW zb = true) : Sim (Z2L zl z7 zd zh z2 z6 zu zb) (Z5N x0 x7 x8 zl zn) (ZwV 1 (ZP ox0 (x0.map eS)) (.clo 68 [(.ptr 0 0)] []) (iv x7) (iv x8) [(ZS zl zn z7 zd zh z2 z6 zu zb)]) := by
 unfold Z5N
 refine zf (ZDL ..)<|ze<|zq ?_
 exact zk (Za0 x0 x7 (IntKind.i64.wrap (x8 + 1)) zl zn z7 zd zh z2 z6 ox0 zu zb zy)
def Z4I (x0 : List ByteArray) (x7 x8 : Int) (zl : List Int) (zn : Int) : Option (Int × Int) :=
 (lget x0 x8).bind fun a1 =>
 (Z2j a1 zl zn).bind fun r2 =>
 if r2.1 = true then
 (some (x8, r2.2))
 else
 (Z5N x0 x7 x8 zl r2.2)
theorem Zeo (x0 : List ByteArray) x7 x8 zl zn z7 zd zh z2 z6 ox0 zu zb (zy : ZW zb = true) : Sim (Z2L zl z7 zd zh z2 z6 zu zb) (Z4I x0 x7 x8 zl zn) (ZwU 1 (ZP ox0 (x0.map eS)) (.clo 68 [(.ptr 0 0)] []) (iv x7) (iv x8) [(ZS zl zn z7 zd zh z2 z6 zu zb)]) := by
 unfold Z4I
 refine zf (ZDK ..)<|ze<|ze<|zi fun a1 ha1 => zp (.cptr [(.v (.string a1))]) (et_ (Z45 (o := (shrO ox0)) (k := .i64) (n := 1) (e := eS) (cs := (fun a => [eS a])) (fun _ => rfl) (fun _ => rfl) (by decide) ha1))<|zq<|zi fun r2 hr2 => ?_
 obtain ⟨_, er2, _, rfl⟩ := Z2u a1 zl zn z7 zd zh z2 z6 zu zb zy r2 hr2
 refine zv [0] (bv r2.1) [(ZS zl r2.2 z7 zd zh z2 z6 zu zb)] er2 ?_
 refine za r2.1 ?_ ?_
 ·refine ze ?_
  exact zr ((iv x8), [(ZS zl r2.2 z7 zd zh z2 z6 zu zb)]) ⟨_, rfl⟩
 ·exact zk (Zep x0 x7 x8 zl r2.2 z7 zd zh z2 z6 ox0 zu zb zy)
def Z80 (zn : Int) : Option (Int × Int) :=
 some ((-1), zn)
theorem Zeq zl zn z7 zd zh z2 z6 zu zb (zy : ZW zb = true) : Sim (Z2L zl z7 zd zh z2 z6 zu zb) (Z80 zn) (ZwW 1 [(ZS zl zn z7 zd zh z2 z6 zu zb)]) := by
 unfold Z80
 refine zf (ZDM ..)<|ze ?_
 exact zr ((iv (-1)), [(ZS zl zn z7 zd zh z2 z6 zu zb)]) ⟨_, rfl⟩
def Z41 (x0 : List ByteArray) (x7 x8 : Int) (zl : List Int) (zn : Int) : Option (Int × Int) :=
 if (decide (x8 < x7)) = true then
 (Z4I x0 x7 x8 zl zn)
 else
 (Z80 zn)
theorem Zen (x0 : List ByteArray) x7 x8 zl zn z7 zd zh z2 z6 ox0 zu zb (zy : ZW zb = true) : Sim (Z2L zl z7 zd zh z2 z6 zu zb) (Z41 x0 x7 x8 zl zn) (ZnL 1 (ZP ox0 (x0.map eS)) (.clo 68 [(.ptr 0 0)] []) (iv x7) (iv x8) [(ZS zl zn z7 zd zh z2 z6 zu zb)]) := by
 unfold Z41
 refine zf (ZDJ ..)<|ze<|zq ?_
 refine za (decide (x8 < x7)) ?_ ?_
 ·exact zk (Zeo x0 x7 x8 zl zn z7 zd zh z2 z6 ox0 zu zb zy)
 ·exact zk (Zeq zl zn z7 zd zh z2 z6 zu zb zy)
theorem Z7j x0 x7 x8 zl zn {r} (h : Z41 x0 x7 x8 zl zn = some r) : Z2V x0 x7 x8 zl zn = some r :=
 Z1g (fun _ _ ha hb => ru_ (Z86 _ _ _ _ _ _ _ _) (ha default default default default default .ex .ex .ex rfl) (hb default default default default default .ex .ex .ex rfl)) (fun z7 zd zh z2 z6 ox0 zu zb zy => Zen x0 x7 x8 zl zn z7 zd zh z2 z6 ox0 zu zb zy r h)
def Z5l (zn z2 z6 z3N z5t z5s z4z z4n : Int) (z4o : List Zi) (z3M : List Zj) : Option (Zj × Int × Int × Int) :=
 some ((Zj.mk z3N z5t z5s z4z z4n z4o z3M), zn, z2, z6)
theorem Z93 zl zn z7 zd zh z2 z6 b1 b2 z3N z5t z5s z4z z4n z4o z3M zu zb zM zH z3o z34 z5H z4K (zy : ZW zb = true) (zh0 : ZW z3o = true) (zer : ZW z34 = true) (zh1 : ZW z5H = true) (zes : ZW z4K = true) : Sim (Z2i zl z7 zd zh zu zb) (Z5l zn z2 z6 z3N z5t z5s z4z z4n z4o z3M) (ZlB 1 (.ptr 2 0) (.ptr 3 0) [(ZS zl zn z7 zd zh z2 z6 zu zb), (Zv b1 zM zH), (Zv b2 z3o z34), (Z3n z3N z5t z5s z4z z4n z4o z3M z5H z4K)]) := by
 unfold Z5l
 refine zf (ZBC ..)<|ze<|zq<|zt [(ZS zl zn z7 zd zh z2 z6 zu zb), (Zv b1 zM zH), (Z3n z3N z5t z5s z4z z4n z4o z3M (shrO z5H) (shrO z4K)), (Z3n z3N z5t z5s z4z z4n z4o z3M z5H z4K)] ?_
 exact zr ((pA_ (ZN (Zj.mk z3N z5t z5s z4z z4n z4o z3M) .sh .sh)), [(ZS zl zn z7 zd zh z2 z6 zu zb), (Zv b1 zM zH), (Z3n z3N z5t z5s z4z z4n z4o z3M (shrO z5H) (shrO z4K)), (Z3n z3N z5t z5s z4z z4n z4o z3M z5H z4K)]) ⟨_, rfl⟩
def Z4s (zl : List Int) (zn z2 z6 z3N z5t z5s z4z z4n : Int) (z4o : List Zi) (z3M : List Zj) : Option (Zj × Int × Int × Int) :=
 (Z2j (ByteArray.mk #[63]) zl zn).bind fun r1 =>
 if r1.1 = true then
 (Z5l r1.2 z2 z6 z3N z5t z5s 1 z4n z4o z3M)
 else
 ((Z2j (ByteArray.mk #[43]) zl r1.2).bind fun r2 =>
 if r2.1 = true then
 (Z5l r2.2 z2 z6 z3N z5t z5s 2 z4n z4o z3M)
 else
 (Z5l r2.2 z2 z6 z3N z5t z5s z4z z4n z4o z3M))
theorem Zcf zl zn z7 zd zh z2 z6 b1 b2 z3N z5t z5s z4z z4n z4o z3M zu zb zM zH z3o z34 z5H z4K (zy : ZW zb = true) (zh0 : ZW z3o = true) (zer : ZW z34 = true) (zh1 : ZW z5H = true) (zes : ZW z4K = true) : Sim (Z2i zl z7 zd zh zu zb) (Z4s zl zn z2 z6 z3N z5t z5s z4z z4n z4o z3M) (Zp4 1 (.ptr 0 0) (.ptr 2 0) (.ptr 3 0) [(ZS zl zn z7 zd zh z2 z6 zu zb), (Zv b1 zM zH), (Zv b2 z3o z34), (Z3n z3N z5t z5s z4z z4n z4o z3M z5H z4K)]) := by
 unfold Z4s
 refine zf (ZBB ..)<|ze<|zi fun r1 hr1 => ?_
 obtain ⟨_, er1, _, rfl⟩ := Z2u (ByteArray.mk #[63]) zl zn z7 zd zh z2 z6 zu zb zy r1 hr1
 refine zc [0] (bv r1.1) [(ZS zl r1.2 z7 zd zh z2 z6 zu zb), (Zv b1 zM zH), (Zv b2 z3o z34), (Z3n z3N z5t z5s z4z z4n z4o z3M z5H z4K)] er1 ?_
 refine za r1.1 ?_ ?_
 ·refine ze<|zq<|zt [(ZS zl r1.2 z7 zd zh z2 z6 zu zb), (Zv b1 zM zH), (Zv b2 z3o z34), (Z3n z3N z5t z5s 1 z4n z4o z3M z5H z4K)] ?_
  exact zk (Z93 zl r1.2 z7 zd zh z2 z6 b1 b2 z3N z5t z5s 1 z4n z4o z3M zu zb zM zH z3o z34 z5H z4K zy zh0 zer zh1 zes)
 ·refine ze<|zi fun r2 hr2 => ?_
  obtain ⟨_, er2, _, rfl⟩ := Z2u (ByteArray.mk #[43]) zl r1.2 z7 zd zh z2 z6 zu zb zy r2 hr2
  refine zc [0] (bv r2.1) [(ZS zl r2.2 z7 zd zh z2 z6 zu zb), (Zv b1 zM zH), (Zv b2 z3o z34), (Z3n z3N z5t z5s z4z z4n z4o z3M z5H z4K)] er2 ?_
  refine za r2.1 ?_ ?_
  ·refine ze<|zq<|zt [(ZS zl r2.2 z7 zd zh z2 z6 zu zb), (Zv b1 zM zH), (Zv b2 z3o z34), (Z3n z3N z5t z5s 2 z4n z4o z3M z5H z4K)] ?_
   exact zk (Z93 zl r2.2 z7 zd zh z2 z6 b1 b2 z3N z5t z5s 2 z4n z4o z3M zu zb zM zH z3o z34 z5H z4K zy zh0 zer zh1 zes)
  ·exact zk (Z93 zl r2.2 z7 zd zh z2 z6 b1 b2 z3N z5t z5s z4z z4n z4o z3M zu zb zM zH z3o z34 z5H z4K zy zh0 zer zh1 zes)
def Z3z (x2 : Bool) (x7 : Int) (zl : List Int) (zn z2 z6 z3N z5t z5s z4z z4n : Int) (z4o : List Zi) (z3M : List Zj) : Option (Zj × Int × Int × Int) :=
 if (!x2) = true then
 ((Z1A 23 x7 zl z2 z6).bind fun r1 =>
 Z4s zl r1.1 r1.2.1 r1.2.2 z3N z5t z5s z4z z4n z4o z3M)
 else
 (Z4s zl zn z2 z6 z3N z5t z5s z4z z4n z4o z3M)
theorem Z6T x2 x7 zl zn z7 zd zh z2 z6 b1 b2 z3N z5t z5s z4z z4n z4o z3M zu zb zM zH z3o z34 z5H z4K (zy : ZW zb = true) (zh0 : ZW z3o = true) (zer : ZW z34 = true) (zh1 : ZW z5H = true) (zes : ZW z4K = true) : Sim (Z2i zl z7 zd zh zu zb) (Z3z x2 x7 zl zn z2 z6 z3N z5t z5s z4z z4n z4o z3M) (ZiY 1 (.ptr 0 0) (bv x2) (.ptr 2 0) (iv x7) (.ptr 3 0) [(ZS zl zn z7 zd zh z2 z6 zu zb), (Zv b1 zM zH), (Zv b2 z3o z34), (Z3n z3N z5t z5s z4z z4n z4o z3M z5H z4K)]) := by
 unfold Z3z
 refine zf (ZBA ..)<|ze<|zq ?_
 refine za (!x2) ?_ ?_
 ·refine ze<|zi fun r1 hr1 => ?_
  obtain ⟨_, er1, _, rfl⟩ := Z1F 23 x7 zl zn z7 zd zh z2 z6 zu zb zy r1 hr1
  refine zc [0] (.p (.tup [])) [(ZS zl r1.1 z7 zd zh r1.2.1 r1.2.2 zu zb), (Zv b1 zM zH), (Zv b2 z3o z34), (Z3n z3N z5t z5s z4z z4n z4o z3M z5H z4K)] er1 ?_
  exact zk (Zcf zl r1.1 z7 zd zh r1.2.1 r1.2.2 b1 b2 z3N z5t z5s z4z z4n z4o z3M zu zb zM zH z3o z34 z5H z4K zy zh0 zer zh1 zes)
 ·exact zk (Zcf zl zn z7 zd zh z2 z6 b1 b2 z3N z5t z5s z4z z4n z4o z3M zu zb zM zH z3o z34 z5H z4K zy zh0 zer zh1 zes)
def Z6D (x1 : Zj) (x2 : Bool) (zl : List Int) (zn z7 zd : Int) (zh : List Zz) (z2 z6 : Int) : Option (Zj × Int × Int × Int) :=
 (Z2j (ByteArray.mk #[42]) zl zn).bind fun r1 =>
 if r1.1 = true then
 (Z3z x2 zn zl r1.2 z2 z6 4 0 (-1) 0 0 ([] : List Zi) ([x1] : List Zj))
 else
 ((Z2j (ByteArray.mk #[43]) zl r1.2).bind fun r2 =>
 if r2.1 = true then
 (Z3z x2 zn zl r2.2 z2 z6 4 1 (-1) 0 0 ([] : List Zi) ([x1] : List Zj))
 else
 ((Z2j (ByteArray.mk #[63]) zl r2.2).bind fun r3 =>
 if r3.1 = true then
 (Z3z x2 zn zl r3.2 z2 z6 4 0 1 0 0 ([] : List Zi) ([x1] : List Zj))
 else
 ((Z2j (ByteArray.mk #[123]) zl r3.2).bind fun r4 =>
 if r4.1 = true then
 ((Z8m zn zl r4.2 z7 zd zh z2 z6).bind fun r5 =>
 Z3z x2 zn zl r5.2.2.1 r5.2.2.2.1 r5.2.2.2.2 4 r5.1 r5.2.1 0 0 ([] : List Zi) ([x1] : List Zj))
 else
 (some (x1, r4.2, z2, z6)))))
theorem Zl5 x1 x2 zl zn z7 zd zh z2 z6 z49 z3B zu zb (zy : ZW zb = true) : Sim (Z2i zl z7 zd zh zu zb) (Z6D x1 x2 zl zn z7 zd zh z2 z6) (EE 106 [(.ptr 0 0), (pA_ (ZN x1 z49 z3B)), (bv x2)] [(ZS zl zn z7 zd zh z2 z6 zu zb)]) := by
 unfold Z6D
 refine zf (ZJA ..)<|ze<|zx (.ptr 1 0) [(ZS zl zn z7 zd zh z2 z6 zu zb), (Zv x1 z49 z3B)]<|zz (.ptr 2 0) [(ZS zl zn z7 zd zh z2 z6 zu zb), (Zv x1 z49 z3B), (Zv Z2g .nl .nl)]<|ze<|zq<|zq<|zq<|ze<|zq<|zp (ZP .ex (([x1] : List Zj).map Z13)) (Eq.trans (b := some (ZP .ex [.agg (Z3D x1)])) (by kernel_rfl) (by simp only [Z8x, Zm4, Z5O]))<|zq<|zz (.ptr 3 0) [(ZS zl zn z7 zd zh z2 z6 zu zb), (Zv x1 z49 z3B), (Zv Z2g .nl .nl), (Zv Z2g .nl .nl)]<|zt [(ZS zl zn z7 zd zh z2 z6 zu zb), (Zv x1 z49 z3B), (Zv Z2g .nl .nl), (Z3n 4 0 (-1) 0 0 ([] : List Zi) ([x1] : List Zj) .nl .ex)]<|ze<|zi fun r1 hr1 => ?_
 obtain ⟨_, er1, _, rfl⟩ := Z2u (ByteArray.mk #[42]) zl zn z7 zd zh z2 z6 zu zb zy r1 hr1
 refine zc [0] (bv r1.1) [(ZS zl r1.2 z7 zd zh z2 z6 zu zb), (Zv x1 z49 z3B), (Zv Z2g .nl .nl), (Z3n 4 0 (-1) 0 0 ([] : List Zi) ([x1] : List Zj) .nl .ex)] er1 ?_
 refine za r1.1 ?_ ?_
 ·exact zk (Z6T x2 zn zl r1.2 z7 zd zh z2 z6 x1 Z2g 4 0 (-1) 0 0 ([] : List Zi) ([x1] : List Zj) zu zb z49 z3B .nl .nl .nl .ex zy rfl rfl rfl rfl)
 ·refine ze<|zi fun r2 hr2 => ?_
  obtain ⟨_, er2, _, rfl⟩ := Z2u (ByteArray.mk #[43]) zl r1.2 z7 zd zh z2 z6 zu zb zy r2 hr2
  refine zc [0] (bv r2.1) [(ZS zl r2.2 z7 zd zh z2 z6 zu zb), (Zv x1 z49 z3B), (Zv Z2g .nl .nl), (Z3n 4 0 (-1) 0 0 ([] : List Zi) ([x1] : List Zj) .nl .ex)] er2 ?_
  refine za r2.1 ?_ ?_
  ·refine ze<|zq<|zt [(ZS zl r2.2 z7 zd zh z2 z6 zu zb), (Zv x1 z49 z3B), (Zv Z2g .nl .nl), (Z3n 4 1 (-1) 0 0 ([] : List Zi) ([x1] : List Zj) .nl .ex)] ?_
   exact zk (Z6T x2 zn zl r2.2 z7 zd zh z2 z6 x1 Z2g 4 1 (-1) 0 0 ([] : List Zi) ([x1] : List Zj) zu zb z49 z3B .nl .nl .nl .ex zy rfl rfl rfl rfl)
  ·refine ze<|zi fun r3 hr3 => ?_
   obtain ⟨_, er3, _, rfl⟩ := Z2u (ByteArray.mk #[63]) zl r2.2 z7 zd zh z2 z6 zu zb zy r3 hr3
   refine zc [0] (bv r3.1) [(ZS zl r3.2 z7 zd zh z2 z6 zu zb), (Zv x1 z49 z3B), (Zv Z2g .nl .nl), (Z3n 4 0 (-1) 0 0 ([] : List Zi) ([x1] : List Zj) .nl .ex)] er3 ?_
   refine za r3.1 ?_ ?_
   ·refine ze<|zq<|zt [(ZS zl r3.2 z7 zd zh z2 z6 zu zb), (Zv x1 z49 z3B), (Zv Z2g .nl .nl), (Z3n 4 0 1 0 0 ([] : List Zi) ([x1] : List Zj) .nl .ex)] ?_
    exact zk (Z6T x2 zn zl r3.2 z7 zd zh z2 z6 x1 Z2g 4 0 1 0 0 ([] : List Zi) ([x1] : List Zj) zu zb z49 z3B .nl .nl .nl .ex zy rfl rfl rfl rfl)
   ·refine ze<|zi fun r4 hr4 => ?_
    obtain ⟨_, er4, _, rfl⟩ := Z2u (ByteArray.mk #[123]) zl r3.2 z7 zd zh z2 z6 zu zb zy r4 hr4
    refine zc [0] (bv r4.1) [(ZS zl r4.2 z7 zd zh z2 z6 zu zb), (Zv x1 z49 z3B), (Zv Z2g .nl .nl), (Z3n 4 0 (-1) 0 0 ([] : List Zi) ([x1] : List Zj) .nl .ex)] er4 ?_
    refine za r4.1 ?_ ?_
    ·refine ze<|zi fun r5 hr5 => ?_
     obtain ⟨_, er5, _, rfl⟩ := ZlL zn zl r4.2 z7 zd zh z2 z6 zu zb zy r5 hr5
     refine zc [0] (.p (.tup [(.v (.int .i64 r5.1)), (.v (.int .i64 r5.2.1))])) [(ZS zl r5.2.2.1 z7 zd zh r5.2.2.2.1 r5.2.2.2.2 zu zb), (Zv x1 z49 z3B), (Zv Z2g .nl .nl), (Z3n 4 0 (-1) 0 0 ([] : List Zi) ([x1] : List Zj) .nl .ex)] er5<|zq<|zq<|zq<|zt [(ZS zl r5.2.2.1 z7 zd zh r5.2.2.2.1 r5.2.2.2.2 zu zb), (Zv x1 z49 z3B), (Zv Z2g .nl .nl), (Z3n 4 r5.1 (-1) 0 0 ([] : List Zi) ([x1] : List Zj) .nl .ex)]<|zq<|zt [(ZS zl r5.2.2.1 z7 zd zh r5.2.2.2.1 r5.2.2.2.2 zu zb), (Zv x1 z49 z3B), (Zv Z2g .nl .nl), (Z3n 4 r5.1 r5.2.1 0 0 ([] : List Zi) ([x1] : List Zj) .nl .ex)] ?_
     exact zk (Z6T x2 zn zl r5.2.2.1 z7 zd zh r5.2.2.2.1 r5.2.2.2.2 x1 Z2g 4 r5.1 r5.2.1 0 0 ([] : List Zi) ([x1] : List Zj) zu zb z49 z3B .nl .nl .nl .ex zy rfl rfl rfl rfl)
    ·refine ze<|zq<|zt [(ZS zl r4.2 z7 zd zh z2 z6 zu zb), (Zv x1 z49 z3B), (Zv x1 (shrO z49) (shrO z3B)), (Z3n 4 0 (-1) 0 0 ([] : List Zi) ([x1] : List Zj) .nl .ex)] ?_
     exact zr ((pA_ (ZN x1 .sh .sh)), [(ZS zl r4.2 z7 zd zh z2 z6 zu zb), (Zv x1 z49 z3B), (Zv x1 (shrO z49) (shrO z3B)), (Z3n 4 0 (-1) 0 0 ([] : List Zi) ([x1] : List Zj) .nl .ex)]) ⟨_, rfl⟩
theorem Zej x1 x2 zl zn z7 zd zh z2 z6 {r} (h : Z6D x1 x2 zl zn z7 zd zh z2 z6 = some r) : Z8n x1 x2 zl zn z7 zd zh z2 z6 = some r :=
 Z1g (fun _ _ ha hb => ru_ (Zc0 _ _ _ _ _ _) (ha .ex .ex .ex .ex rfl) (hb .ex .ex .ex .ex rfl)) (fun z49 z3B zu zb zy => Zl5 x1 x2 zl zn z7 zd zh z2 z6 z49 z3B zu zb zy r h)
def ZaM (x4 zn z2 z6 : Int) : Option (Int × Int × Int × Int × Int) :=
 some (x4, (-1), zn, z2, z6)
theorem Zj9 x4 zl zn z7 zd zh z2 z6 zu zb (zy : ZW zb = true) : Sim (Z3R zl z7 zd zh zu zb) (ZaM x4 zn z2 z6) (ZwF 1 (iv x4) [(ZS zl zn z7 zd zh z2 z6 zu zb)]) := by
 unfold ZaM
 refine zf (ZDz ..)<|ze ?_
 exact zr ((.p (.tup [(.v (.int .i64 x4)), (.v (.int .i64 (-1)))])), [(ZS zl zn z7 zd zh z2 z6 zu zb)]) ⟨_, rfl⟩
def Z8q (x4 x5 zn z2 z6 : Int) : Option (Int × Int × Int × Int × Int) :=
 some (x4, x5, zn, z2, z6)
theorem Zcd x4 x5 zl zn z7 zd zh z2 z6 zu zb (zy : ZW zb = true) : Sim (Z3R zl z7 zd zh zu zb) (Z8q x4 x5 zn z2 z6) (Zp9 1 (iv x4) (iv x5) [(ZS zl zn z7 zd zh z2 z6 zu zb)]) := by
 unfold Z8q
 refine zf (ZBT ..)<|ze ?_
 exact zr ((.p (.tup [(.v (.int .i64 x4)), (.v (.int .i64 x5))])), [(ZS zl zn z7 zd zh z2 z6 zu zb)]) ⟨_, rfl⟩
def Z3W (x1 x4 x5 : Int) (zl : List Int) (z2 z6 : Int) : Option (Int × Int × Int × Int × Int) :=
 (Z1A 23 x1 zl z2 z6).bind fun r1 =>
 Z8q x4 x5 r1.1 r1.2.1 r1.2.2
theorem Z6S x1 x4 x5 zl zn z7 zd zh z2 z6 zu zb (zy : ZW zb = true) : Sim (Z3R zl z7 zd zh zu zb) (Z3W x1 x4 x5 zl z2 z6) (Zj2 1 (.ptr 0 0) (iv x1) (iv x4) (iv x5) [(ZS zl zn z7 zd zh z2 z6 zu zb)]) := by
 unfold Z3W
 refine zf (ZBS ..)<|ze<|zi fun r1 hr1 => ?_
 obtain ⟨_, er1, _, rfl⟩ := Z1F 23 x1 zl zn z7 zd zh z2 z6 zu zb zy r1 hr1
 refine zc [0] (.p (.tup [])) [(ZS zl r1.1 z7 zd zh r1.2.1 r1.2.2 zu zb)] er1 ?_
 exact zk (Zcd x4 x5 zl r1.1 z7 zd zh r1.2.1 r1.2.2 zu zb zy)
def Z3G (x1 x4 x5 : Int) (zl : List Int) (zn z2 z6 : Int) : Option (Int × Int × Int × Int × Int) :=
 if (decide (x4 < 0)) = true then
 (Z3W x1 x4 x5 zl z2 z6)
 else
 (if (decide (x5 < x4)) = true then
 (Z3W x1 x4 x5 zl z2 z6)
 else
 (if (decide (64 < x5)) = true then
 (Z3W x1 x4 x5 zl z2 z6)
 else
 ((Z2j (ByteArray.mk #[125]) zl zn).bind fun r1 =>
 if (!r1.1) = true then
 (Z3W x1 x4 x5 zl z2 z6)
 else
 (Z8q x4 x5 r1.2 z2 z6))))
theorem Z7g x1 x4 x5 zl zn z7 zd zh z2 z6 zu zb (zy : ZW zb = true) : Sim (Z3R zl z7 zd zh zu zb) (Z3G x1 x4 x5 zl zn z2 z6) (Zlk 1 (.ptr 0 0) (iv x1) (iv x4) (iv x5) [(ZS zl zn z7 zd zh z2 z6 zu zb)]) := by
 unfold Z3G
 refine zf (ZDB ..)<|ze<|zq ?_
 refine za (decide (x4 < 0)) ?_ ?_
 ·exact zk (Z6S x1 x4 x5 zl zn z7 zd zh z2 z6 zu zb zy)
 ·refine zq ?_
  refine za (decide (x5 < x4)) ?_ ?_
  ·exact zk (Z6S x1 x4 x5 zl zn z7 zd zh z2 z6 zu zb zy)
  ·refine zq ?_
   refine za (decide (64 < x5)) ?_ ?_
   ·exact zk (Z6S x1 x4 x5 zl zn z7 zd zh z2 z6 zu zb zy)
   ·refine zi fun r1 hr1 => ?_
    obtain ⟨_, er1, _, rfl⟩ := Z2u (ByteArray.mk #[125]) zl zn z7 zd zh z2 z6 zu zb zy r1 hr1
    refine zc [0] (bv r1.1) [(ZS zl r1.2 z7 zd zh z2 z6 zu zb)] er1<|zq ?_
    refine za (!r1.1) ?_ ?_
    ·exact zk (Z6S x1 x4 x5 zl r1.2 z7 zd zh z2 z6 zu zb zy)
    ·exact zk (Zcd x4 x5 zl r1.2 z7 zd zh z2 z6 zu zb zy)
def Z5B (x1 x4 : Int) (zl : List Int) (zn z2 z6 : Int) : Option (Int × Int × Int × Int × Int) :=
 Z3G x1 x4 (-2) zl zn z2 z6
theorem ZcM x1 x4 zl zn z7 zd zh z2 z6 zu zb (zy : ZW zb = true) : Sim (Z3R zl z7 zd zh zu zb) (Z5B x1 x4 zl zn z2 z6) (Zsp 1 (.ptr 0 0) (iv x1) (iv x4) [(ZS zl zn z7 zd zh z2 z6 zu zb)]) := by
 unfold Z5B
 refine zf (ZDA ..)<|ze ?_
 exact zk (Z7g x1 x4 (-2) zl zn z7 zd zh z2 z6 zu zb zy)
def Z8B (x1 x4 : Int) (zl : List Int) (zn z2 z6 : Int) : Option (Int × Int × Int × Int × Int) :=
 (Z2j (ByteArray.mk #[125]) zl zn).bind fun r1 =>
 if r1.1 = true then
 (if (decide (x4 ≤ 64)) = true then
 (ZaM x4 r1.2 z2 z6)
 else
 (Z5B x1 x4 zl r1.2 z2 z6))
 else
 (Z5B x1 x4 zl r1.2 z2 z6)
theorem Zj8 x1 x4 zl zn z7 zd zh z2 z6 zu zb (zy : ZW zb = true) : Sim (Z3R zl z7 zd zh zu zb) (Z8B x1 x4 zl zn z2 z6) (ZwE 1 (.ptr 0 0) (iv x1) (iv x4) [(ZS zl zn z7 zd zh z2 z6 zu zb)]) := by
 unfold Z8B
 refine zf (ZDy ..)<|ze<|zi fun r1 hr1 => ?_
 obtain ⟨_, er1, _, rfl⟩ := Z2u (ByteArray.mk #[125]) zl zn z7 zd zh z2 z6 zu zb zy r1 hr1
 refine zc [0] (bv r1.1) [(ZS zl r1.2 z7 zd zh z2 z6 zu zb)] er1 ?_
 refine za r1.1 ?_ ?_
 ·refine zq ?_
  refine za (decide (x4 ≤ 64)) ?_ ?_
  ·exact zk (Zj9 x4 zl r1.2 z7 zd zh z2 z6 zu zb zy)
  ·exact zk (ZcM x1 x4 zl r1.2 z7 zd zh z2 z6 zu zb zy)
 ·exact zk (ZcM x1 x4 zl r1.2 z7 zd zh z2 z6 zu zb zy)
def Z8d (x1 : Int) (zl : List Int) (zn z7 zd : Int) (zh : List Zz) (z2 z6 : Int) : Option (Int × Int × Int × Int × Int) :=
 (Z6I zl zn z7 zd zh z2 z6).bind fun r1 =>
 (Z2j (ByteArray.mk #[44]) zl r1.2).bind fun r2 =>
 if r2.1 = true then
 ((Z6I zl r2.2 z7 zd zh z2 z6).bind fun r3 =>
 if (decide (r3.1 < 0)) = true then
 (if (decide (0 ≤ r1.1)) = true then
 (Z8B x1 r1.1 zl r3.2 z2 z6)
 else
 (Z3G x1 r1.1 r3.1 zl r3.2 z2 z6))
 else
 (Z3G x1 r1.1 r3.1 zl r3.2 z2 z6))
 else
 (Z3G x1 r1.1 r1.1 zl r2.2 z2 z6)
theorem Zl1 x1 zl zn z7 zd zh z2 z6 zu zb (zy : ZW zb = true) : Sim (Z3R zl z7 zd zh zu zb) (Z8d x1 zl zn z7 zd zh z2 z6) (EE 133 [(.ptr 0 0), (iv x1)] [(ZS zl zn z7 zd zh z2 z6 zu zb)]) := by
 unfold Z8d
 refine zf (ZJY ..)<|ze<|ze<|zi fun r1 hr1 => ?_
 obtain ⟨_, er1, _, rfl⟩ := Zei zl zn z7 zd zh z2 z6 zu zb zy r1 hr1
 refine zc [0] (iv r1.1) [(ZS zl r1.2 z7 zd zh z2 z6 zu zb)] er1<|ze<|ze<|zi fun r2 hr2 => ?_
 obtain ⟨_, er2, _, rfl⟩ := Z2u (ByteArray.mk #[44]) zl r1.2 z7 zd zh z2 z6 zu zb zy r2 hr2
 refine zc [0] (bv r2.1) [(ZS zl r2.2 z7 zd zh z2 z6 zu zb)] er2 ?_
 refine za r2.1 ?_ ?_
 ·refine ze<|zi fun r3 hr3 => ?_
  obtain ⟨_, er3, _, rfl⟩ := Zei zl r2.2 z7 zd zh z2 z6 zu zb zy r3 hr3
  refine zc [0] (iv r3.1) [(ZS zl r3.2 z7 zd zh z2 z6 zu zb)] er3<|ze<|zq ?_
  refine za (decide (r3.1 < 0)) ?_ ?_
  ·refine zq ?_
   refine za (decide (0 ≤ r1.1)) ?_ ?_
   ·exact zk (Zj8 x1 r1.1 zl r3.2 z7 zd zh z2 z6 zu zb zy)
   ·exact zk (Z7g x1 r1.1 r3.1 zl r3.2 z7 zd zh z2 z6 zu zb zy)
  ·exact zk (Z7g x1 r1.1 r3.1 zl r3.2 z7 zd zh z2 z6 zu zb zy)
 ·exact zk (Z7g x1 r1.1 r1.1 zl r2.2 z7 zd zh z2 z6 zu zb zy)
theorem Zef x1 zl zn z7 zd zh z2 z6 {r} (h : Z8d x1 zl zn z7 zd zh z2 z6 = some r) : Z8m x1 zl zn z7 zd zh z2 z6 = some r :=
 Z1g (fun _ _ ha hb => ru_ (Zmb _ _ _ _ _ _) (ha .ex .ex rfl) (hb .ex .ex rfl)) (fun zu zb zy => Zl1 x1 zl zn z7 zd zh z2 z6 zu zb zy r h)
def ZcD (zl : List Int) (zn z7 zd : Int) (zh : List Zz) (z2 z6 : Int) : Option (Int × Int) :=
 Z4J (-1) 0 zl zn z7 zd zh z2 z6
theorem Zl4 zl zn z7 zd zh z2 z6 zu zb (zy : ZW zb = true) : Sim (Z2L zl z7 zd zh z2 z6 zu zb) (ZcD zl zn z7 zd zh z2 z6) (EE 156 [(.ptr 0 0)] [(ZS zl zn z7 zd zh z2 z6 zu zb)]) := by
 unfold ZcD
 refine zf (ZKj ..)<|ze<|ze<|ze ?_
 exact zk (ZcQ (-1) 0 zl zn z7 zd zh z2 z6 zu zb zy)
theorem ZlO zl zn z7 zd zh z2 z6 {r} (h : ZcD zl zn z7 zd zh z2 z6 = some r) : Z6I zl zn z7 zd zh z2 z6 = some r :=
 Z1g (fun _ _ ha hb => ru_ (Z86 _ _ _ _ _ _ _ _) (ha .ex .ex rfl) (hb .ex .ex rfl)) (fun zu zb zy => Zl4 zl zn z7 zd zh z2 z6 zu zb zy r h)
def Z8F (x3 x4 : Int) (zl : List Int) (zn z7 zd : Int) (zh : List Zz) (z2 z6 : Int) : Option (Int × Int) :=
 (Z3U zl zn).bind fun r1 =>
 Z4J ((IntKind.i64.wrap ((IntKind.i64.wrap ((IntKind.i64.wrap (10 * (max x3 0))) + r1.1)) - 48))) (IntKind.i64.wrap (x4 + 1)) zl r1.2 z7 zd zh z2 z6
theorem Zje x3 x4 zl zn z7 zd zh z2 z6 zu zb (zy : ZW zb = true) : Sim (Z2L zl z7 zd zh z2 z6 zu zb) (Z8F x3 x4 zl zn z7 zd zh z2 z6) (Zx0 1 (.ptr 0 0) (iv x3) (iv x4) [(ZS zl zn z7 zd zh z2 z6 zu zb)]) := by
 unfold Z8F
 refine zf (ZDO ..)<|ze<|zp (iv (max x3 0)) (Zs4 _ _)<|zq<|zi fun r1 hr1 => ?_
 obtain ⟨_, er1, _, rfl⟩ := Z4u zl zn z7 zd zh z2 z6 zu zb zy r1 hr1
 refine zc [0] (iv r1.1) [(ZS zl r1.2 z7 zd zh z2 z6 zu zb)] er1<|zq<|zq<|ze<|zq ?_
 exact zk (ZcQ ((IntKind.i64.wrap ((IntKind.i64.wrap ((IntKind.i64.wrap (10 * (max x3 0))) + r1.1)) - 48))) (IntKind.i64.wrap (x4 + 1)) zl r1.2 z7 zd zh z2 z6 zu zb zy)
def Z5C (x3 zn : Int) : Option (Int × Int) :=
 some (x3, zn)
theorem Z9o x3 zl zn z7 zd zh z2 z6 zu zb (zy : ZW zb = true) : Sim (Z2L zl z7 zd zh z2 z6 zu zb) (Z5C x3 zn) (ZnN 1 (iv x3) [(ZS zl zn z7 zd zh z2 z6 zu zb)]) := by
 unfold Z5C
 refine zf (ZDP ..)<|ze ?_
 exact zr ((iv x3), [(ZS zl zn z7 zd zh z2 z6 zu zb)]) ⟨_, rfl⟩
def Z8E (x3 x4 : Int) (zl : List Int) (zn z7 zd : Int) (zh : List Zz) (z2 z6 : Int) : Option (Int × Int) :=
 if (decide (x4 < 2)) = true then
 ((Z3h (Z2c.mk zl zn z7 zd zh (Z1n.mk z2 z6))).bind fun r1 =>
 if (decide (48 ≤ r1)) = true then
 ((Z3h (Z2c.mk zl zn z7 zd zh (Z1n.mk z2 z6))).bind fun r2 =>
 if (decide (r2 ≤ 57)) = true then
 (Z8F x3 x4 zl zn z7 zd zh z2 z6)
 else
 (Z5C x3 zn))
 else
 (Z5C x3 zn))
 else
 (Z5C x3 zn)
theorem Zjd x3 x4 zl zn z7 zd zh z2 z6 zu zb (zy : ZW zb = true) : Sim (Z2L zl z7 zd zh z2 z6 zu zb) (Z8E x3 x4 zl zn z7 zd zh z2 z6) (ZnM 1 (.ptr 0 0) (iv x3) (iv x4) [(ZS zl zn z7 zd zh z2 z6 zu zb)]) := by
 unfold Z8E
 refine zf (ZDN ..)<|ze<|zq ?_
 refine za (decide (x4 < 2)) ?_ ?_
 ·refine zi fun r1 hr1 => ?_
  obtain ⟨_, er1, _, rfl⟩ := Z3q (Z2c.mk zl zn z7 zd zh (Z1n.mk z2 z6)) zu zb zy r1 hr1
  refine zc [0] (iv r1) [(ZS zl zn z7 zd zh z2 z6 zu zb)] er1<|zq ?_
  refine za (decide (48 ≤ r1)) ?_ ?_
  ·refine zi fun r2 hr2 => ?_
   obtain ⟨_, er2, _, rfl⟩ := Z3q (Z2c.mk zl zn z7 zd zh (Z1n.mk z2 z6)) zu zb zy r2 hr2
   refine zc [0] (iv r2) [(ZS zl zn z7 zd zh z2 z6 zu zb)] er2<|zq ?_
   refine za (decide (r2 ≤ 57)) ?_ ?_
   ·exact zk (Zje x3 x4 zl zn z7 zd zh z2 z6 zu zb zy)
   ·exact zk (Z9o x3 zl zn z7 zd zh z2 z6 zu zb zy)
  ·exact zk (Z9o x3 zl zn z7 zd zh z2 z6 zu zb zy)
 ·exact zk (Z9o x3 zl zn z7 zd zh z2 z6 zu zb zy)
theorem ZjZ x3 x4 zl zn z7 zd zh z2 z6 {r} (h : Z8E x3 x4 zl zn z7 zd zh z2 z6 = some r) : Z4J x3 x4 zl zn z7 zd zh z2 z6 = some r :=
 Z1g (fun _ _ ha hb => ru_ (Z86 _ _ _ _ _ _ _ _) (ha .ex .ex rfl) (hb .ex .ex rfl)) (fun zu zb zy => Zjd x3 x4 zl zn z7 zd zh z2 z6 zu zb zy r h)
def Zdc : Option Int :=
 some (0)
theorem ZpP : Sim ZL Zdc (ZzE 0 []) := by
 unfold Zdc
 refine zf (ZGx ..)<|ze ?_
 exact zr ((iv 0), []) ⟨_, rfl⟩
def Zgx (x0 : Z1M) : Option Int :=
 (Z59 x0.Root).bind fun r1 =>
 if (!r1) = true then
 (some (27))
 else
 ((Z73 x0.Root).bind fun r2 =>
 if (decide (2000 < (IntKind.i64.wrap (r2 + 3)))) = true then
 (some (28))
 else
 Zdc)
theorem Zt9 x0 z5f z4E : Sim ZL (Zgx x0) (EE 48 [(pA_ (Z43 x0 z5f z4E))] []) := by
 unfold Zgx
 refine zf (ZMi ..)<|ze<|zx (.ptr 0 0) [(Z1r x0 z5f z4E)]<|ze<|zq<|zq<|zi fun r1 hr1 => ?_
 obtain ⟨_, er1, _, rfl⟩ := Zk7 x0.Root .sh .sh r1 hr1
 refine zc [] (bv r1) [(Z1r x0 z5f z4E)] er1<|zq ?_
 refine za (!r1) ?_ ?_
 ·refine ze ?_
  exact zr ((iv 27), [(Z1r x0 z5f z4E)]) ⟨_, rfl⟩
 ·refine ze<|zq<|zq<|zi fun r2 hr2 => ?_
  obtain ⟨_, er2, _, rfl⟩ := ZmK x0.Root .sh .sh r2 hr2
  refine zc [] (iv r2) [(Z1r x0 z5f z4E)] er2<|zq<|zq ?_
  refine za (decide (2000 < (IntKind.i64.wrap (r2 + 3)))) ?_ ?_
  ·refine ze ?_
   exact zr ((iv 28), [(Z1r x0 z5f z4E)]) ⟨_, rfl⟩
  ·exact zk ZpP
theorem ZtX x0 {r} (h : Zgx x0 = some r) : ZgD x0 = some r :=
 Z1g (fun _ _ ha hb => ru_ Z2h (ha .ex .ex) (hb .ex .ex)) (fun z5f z4E => Zt9 x0 z5f z4E r h)
def Z9J : Option Bool :=
 some false
theorem Zg1 : Sim Z12 Z9J (Zve 0 []) := by
 unfold Z9J
 refine zf (ZGI ..)<|ze ?_
 exact zr ((bv false), []) ⟨_, rfl⟩
def Z4t (b0 : Zj) : Option Bool :=
 (Z6v b0.Kids).bind fun r1 =>
 some (!r1)
theorem Zc6 b0 z2x z20 : Sim Z12 (Z4t b0) (Zr7 0 (.ptr 0 0) [(Zv b0 z2x z20)]) := by
 unfold Z4t
 refine zf (ZGJ ..)<|ze<|zq<|zq<|zi fun r1 hr1 => ?_
 obtain ⟨_, er1, _, rfl⟩ := Zg3 b0.Kids .sh r1 hr1
 refine zc [] (bv r1) [(Zv b0 z2x z20)] er1<|zq ?_
 exact zr ((bv (!r1)), [(Zv b0 z2x z20)]) ⟨_, rfl⟩
def Z9I (b0 : Zj) : Option Bool :=
 (lget b0.Kids 0).bind fun a1 =>
 (Z4j a1).bind fun r2 =>
 if (decide (r2.2 < 0)) = true then
 Z9J
 else
 (if (decide (32 < r2.2)) = true then
 Z9J
 else
 (Z4t b0))
theorem Znm b0 z2x z20 : Sim Z12 (Z9I b0) (ZzQ 0 (.ptr 0 0) [(Zv b0 z2x z20)]) := by
 unfold Z9I
 refine zf (ZGH ..)<|ze<|zq<|zq<|zi fun a1 ha1 => zp (.cptr (ZN a1 .sh .sh)) (et_ (Z45 (o := (shrO z20)) (k := .i64) (n := 7) (e := Z13) (cs := Z3D) Z7l (fun _ => rfl) (by decide) ha1))<|zq<|zi fun r2 hr2 => ?_
 obtain ⟨_, er2, _, rfl⟩ := Z9r a1 .sh .sh r2 hr2
 refine zc [] (.p (.tup [(.v (.int .i64 r2.1)), (.v (.int .i64 r2.2))])) [(Zv b0 z2x z20)] er2<|zq<|zq<|ze<|zq ?_
 refine za (decide (r2.2 < 0)) ?_ ?_
 ·exact zk Zg1
 ·refine zq ?_
  refine za (decide (32 < r2.2)) ?_ ?_
  ·exact zk Zg1
  ·exact zk (Zc6 b0 z2x z20)
def ZdU (x0 : Zj) : Option Bool :=
 if (x0.Kind == 7) = true then
 (if (decide (2 ≤ x0.Mode)) = true then
 (Z9I x0)
 else
 (Z4t x0))
 else
 (Z4t x0)
theorem ZqM x0 z2D z1W : Sim Z12 (ZdU x0) (EE 71 [(pA_ (ZN x0 z2D z1W))] []) := by
 unfold ZdU
 refine zf (ZMA ..)<|ze<|zx (.ptr 0 0) [(Zv x0 z2D z1W)]<|ze<|zq<|zq<|zq ?_
 refine za (x0.Kind == 7) ?_ ?_
 ·refine zq<|zq<|zq ?_
  refine za (decide (2 ≤ x0.Mode)) ?_ ?_
  ·exact zk (Znm x0 z2D z1W)
  ·exact zk (Zc6 x0 z2D z1W)
 ·exact zk (Zc6 x0 z2D z1W)
theorem Zrv x0 {r} (h : ZdU x0 = some r) : Z59 x0 = some r :=
 Z1g (fun _ _ ha hb => ru_ Z2o (ha .ex .ex) (hb .ex .ex)) (fun z2D z1W => ZqM x0 z2D z1W r h)
def Z8T (x2 x3 : Int) : Option (Int × Int) :=
 some (x2, x3)
theorem Z9Z x2 x3 : Sim Z3S (Z8T x2 x3) (Zln 0 (iv x2) (iv x3) []) := by
 unfold Z8T
 refine zf (ZEQ ..)<|ze ?_
 exact zr ((.p (.tup [(.v (.int .i64 x2)), (.v (.int .i64 x3))])), []) ⟨_, rfl⟩
def Zgy (x0 : Zj) : Option (Int × Int) :=
 if (x0.Kind == 1) = true then
 (some (1, 1))
 else
 (if (x0.Kind == 6) = true then
 (some (0, (-1)))
 else
 (if (x0.Kind == 2) = true then
 (Zb5 0 0 x0.Kids (x0.Kids.length : Int) 0)
 else
 (if (x0.Kind == 3) = true then
 (Zag 1048576 0 x0.Kids (x0.Kids.length : Int) 0)
 else
 (if (x0.Kind == 4) = true then
 ((lget x0.Kids 0).bind fun a1 =>
 (Z4j a1).bind fun r2 =>
 (ZdA r2.2 x0.Hi).bind fun r3 =>
 some ((min (IntKind.i64.wrap (r2.1 * x0.Lo)) 1048576), r3))
 else
 (if (x0.Kind == 5) = true then
 (if (x0.Kind == 5) = true then
 ((lget x0.Kids 0).bind fun a4 =>
 (Z4j a4).bind fun r5 =>
 some (r5.1, r5.2))
 else
 (Z8T 0 0))
 else
 (if (x0.Kind == 8) = true then
 ((lget x0.Kids 0).bind fun a6 =>
 (Z4j a6).bind fun r7 =>
 some (r7.1, r7.2))
 else
 (Z8T 0 0)))))))
theorem Zta x0 z2D z1W : Sim Z3S (Zgy x0) (EE 93 [(pA_ (ZN x0 z2D z1W))] []) := by
 unfold Zgy
 refine zf (ZMQ ..)<|ze<|zx (.ptr 0 0) [(Zv x0 z2D z1W)]<|ze<|zq<|zq<|ze<|zq ?_
 refine za (x0.Kind == 1) ?_ ?_
 ·refine ze ?_
  exact zr ((.p (.tup [(.v (.int .i64 1)), (.v (.int .i64 1))])), [(Zv x0 z2D z1W)]) ⟨_, rfl⟩
 ·refine ze<|zq ?_
  refine za (x0.Kind == 6) ?_ ?_
  ·refine ze ?_
   exact zr ((.p (.tup [(.v (.int .i64 0)), (.v (.int .i64 (-1)))])), [(Zv x0 z2D z1W)]) ⟨_, rfl⟩
  ·refine ze<|zq ?_
   refine za (x0.Kind == 2) ?_ ?_
   ·refine ze<|zq<|zq<|zp (iv (x0.Kids.length : Int)) (et_ (Z32 (P := PP) (t := 96) (d := 98) (by kernel_rfl) Z13 (shrO z1W) x0.Kids)) ?_
    exact zk (ZiT 0 0 x0.Kids (x0.Kids.length : Int) 0 (shrO z1W))
   ·refine ze<|zq ?_
    refine za (x0.Kind == 3) ?_ ?_
    ·refine ze<|ze<|zq<|zq<|zp (iv (x0.Kids.length : Int)) (et_ (Z32 (P := PP) (t := 96) (d := 98) (by kernel_rfl) Z13 (shrO z1W) x0.Kids)) ?_
     exact zk (Zi3 1048576 0 x0.Kids (x0.Kids.length : Int) 0 (shrO z1W))
    ·refine ze<|zq ?_
     refine za (x0.Kind == 4) ?_ ?_
     ·refine ze<|zq<|zq<|zi fun a1 ha1 => zp (.cptr (ZN a1 .sh .sh)) (et_ (Z45 (o := (shrO z1W)) (k := .i64) (n := 7) (e := Z13) (cs := Z3D) Z7l (fun _ => rfl) (by decide) ha1))<|zq<|zi fun r2 hr2 => ?_
      obtain ⟨_, er2, _, rfl⟩ := Z9r a1 .sh .sh r2 hr2
      refine zc [] (.p (.tup [(.v (.int .i64 r2.1)), (.v (.int .i64 r2.2))])) [(Zv x0 z2D z1W)] er2<|zq<|zq<|ze<|zq<|zq<|zq<|zp (iv (min (IntKind.i64.wrap (r2.1 * x0.Lo)) 1048576)) (ZeA _ _)<|zq<|zq<|zi fun r3 hr3 => ?_
      obtain ⟨_, er3, _, rfl⟩ := Zu3 r2.2 x0.Hi r3 hr3
      refine zc [] (iv r3) [(Zv x0 z2D z1W)] er3<|zg ?_
      exact zr ((.p (.tup [(.v (.int .i64 (min (IntKind.i64.wrap (r2.1 * x0.Lo)) 1048576))), (.v (.int .i64 r3))])), [(Zv x0 z2D z1W)]) ⟨_, rfl⟩
     ·refine ze<|zq ?_
      refine za (x0.Kind == 5) ?_ ?_
      ·refine za (x0.Kind == 5) ?_ ?_
       ·refine ze<|zq<|zq<|zi fun a4 ha4 => zp (.cptr (ZN a4 .sh .sh)) (et_ (Z45 (o := (shrO z1W)) (k := .i64) (n := 7) (e := Z13) (cs := Z3D) Z7l (fun _ => rfl) (by decide) ha4))<|zq<|zi fun r5 hr5 => ?_
        obtain ⟨_, er5, _, rfl⟩ := Z9r a4 .sh .sh r5 hr5
        refine zc [] (.p (.tup [(.v (.int .i64 r5.1)), (.v (.int .i64 r5.2))])) [(Zv x0 z2D z1W)] er5<|zq<|zq ?_
        exact zr ((.p (.tup [(.v (.int .i64 r5.1)), (.v (.int .i64 r5.2))])), [(Zv x0 z2D z1W)]) ⟨_, rfl⟩
       ·exact zk (Z9Z 0 0)
      ·refine ze<|zq ?_
       refine za (x0.Kind == 8) ?_ ?_
       ·refine ze<|zq<|zq<|zi fun a6 ha6 => zp (.cptr (ZN a6 .sh .sh)) (et_ (Z45 (o := (shrO z1W)) (k := .i64) (n := 7) (e := Z13) (cs := Z3D) Z7l (fun _ => rfl) (by decide) ha6))<|zq<|zi fun r7 hr7 => ?_
        obtain ⟨_, er7, _, rfl⟩ := Z9r a6 .sh .sh r7 hr7
        refine zc [] (.p (.tup [(.v (.int .i64 r7.1)), (.v (.int .i64 r7.2))])) [(Zv x0 z2D z1W)] er7<|zq<|zq ?_
        exact zr ((.p (.tup [(.v (.int .i64 r7.1)), (.v (.int .i64 r7.2))])), [(Zv x0 z2D z1W)]) ⟨_, rfl⟩
       ·exact zk (Z9Z 0 0)
theorem Zu0 x0 {r} (h : Zgy x0 = some r) : Z4j x0 = some r :=
 Z1g (fun _ _ ha hb => ru_ Zgs (ha .ex .ex) (hb .ex .ex)) (fun z2D z1W => Zta x0 z2D z1W r h)
def Zdd (x2 x3 : Int) (x23 : List Zj) (x24 x25 : Int) : Option (Int × Int) :=
 (lget x23 x25).bind fun a1 =>
 (Z4j a1).bind fun r2 =>
 (ZjG x3 r2.2).bind fun r3 =>
 Zb5 (min (IntKind.i64.wrap (x2 + r2.1)) 1048576) r3 x23 x24 (IntKind.i64.wrap (x25 + 1))
theorem ZpR x2 x3 (x23 : List Zj) x24 x25 ox23 : Sim Z3S (Zdd x2 x3 x23 x24 x25) (ZAc 0 (iv x2) (iv x3) (ZP ox23 (x23.map Z13)) (iv x24) (iv x25) []) := by
 unfold Zdd
 refine zf (ZH5 ..)<|ze<|zi fun a1 ha1 => zp (.cptr (ZN a1 .sh .sh)) (et_ (Z45 (o := ox23) (k := .i64) (n := 7) (e := Z13) (cs := Z3D) Z7l (fun _ => rfl) (by decide) ha1))<|zq<|zz (.ptr 0 0) [(Zv Z2g .nl .nl)]<|zt [(Zv a1 .sh .sh)]<|ze<|zq<|zi fun r2 hr2 => ?_
 obtain ⟨_, er2, _, rfl⟩ := Z9r a1 .sh .sh r2 hr2
 refine zc [] (.p (.tup [(.v (.int .i64 r2.1)), (.v (.int .i64 r2.2))])) [(Zv a1 .sh .sh)] er2<|zq<|zq<|ze<|zq<|zp (iv (min (IntKind.i64.wrap (x2 + r2.1)) 1048576)) (ZeA _ _)<|zi fun r3 hr3 => ?_
 obtain ⟨_, er3, _, rfl⟩ := Zy4 x3 r2.2 r3 hr3
 refine zc [] (iv r3) [(Zv a1 .sh .sh)] er3<|ze<|zq ?_
 exact zk (ZiT (min (IntKind.i64.wrap (x2 + r2.1)) 1048576) r3 x23 x24 (IntKind.i64.wrap (x25 + 1)) ox23)
def ZaW (x2 x3 : Int) (x23 : List Zj) (x24 x25 : Int) : Option (Int × Int) :=
 if (decide (x25 < x24)) = true then
 (Zdd x2 x3 x23 x24 x25)
 else
 (Z8T x2 x3)
theorem ZpQ x2 x3 (x23 : List Zj) x24 x25 ox23 : Sim Z3S (ZaW x2 x3 x23 x24 x25) (Zrj 0 (iv x2) (iv x3) (ZP ox23 (x23.map Z13)) (iv x24) (iv x25) []) := by
 unfold ZaW
 refine zf (ZH4 ..)<|ze<|zq ?_
 refine za (decide (x25 < x24)) ?_ ?_
 ·exact zk (ZpR x2 x3 x23 x24 x25 ox23)
 ·exact zk (Z9Z x2 x3)
theorem ZiS x2 x3 x23 x24 x25 {r} (h : ZaW x2 x3 x23 x24 x25 = some r) : Zb5 x2 x3 x23 x24 x25 = some r :=
 Z1g (fun _ _ ha hb => ru_ Zgs (ha .ex) (hb .ex)) (fun ox23 => ZpQ x2 x3 x23 x24 x25 ox23 r h)
def Zac (x2 x3 : Int) (x45 : List Zj) (x46 x47 : Int) : Option (Int × Int) :=
 Zag x2 x3 x45 x46 (IntKind.i64.wrap (x47 + 1))
theorem Zhl x2 x3 (x45 : List Zj) x46 x47 ox45 : Sim Z3S (Zac x2 x3 x45 x46 x47) (ZsI 0 (iv x2) (iv x3) (ZP ox45 (x45.map Z13)) (iv x46) (iv x47) []) := by
 unfold Zac
 refine zf (ZEP ..)<|ze<|zq ?_
 exact zk (Zi3 x2 x3 x45 x46 (IntKind.i64.wrap (x47 + 1)) ox45)
def Zab (x2 : Int) (x45 : List Zj) (x46 x47 : Int) : Option (Int × Int) :=
 Zac x2 (-1) x45 x46 x47
theorem Zhk x2 (x45 : List Zj) x46 x47 ox45 : Sim Z3S (Zab x2 x45 x46 x47) (ZsH 0 (iv x2) (ZP ox45 (x45.map Z13)) (iv x46) (iv x47) []) := by
 unfold Zab
 refine zf (ZEN ..)<|ze ?_
 exact zk (Zhl x2 (-1) x45 x46 x47 ox45)
def Zcr (x2 x3 x11 : Int) (x45 : List Zj) (x46 x47 : Int) : Option (Int × Int) :=
 Zac x2 (max x3 x11) x45 x46 x47
theorem Zos x2 x3 x11 (x45 : List Zj) x46 x47 ox45 : Sim Z3S (Zcr x2 x3 x11 x45 x46 x47) (ZxY 0 (iv x2) (iv x3) (iv x11) (ZP ox45 (x45.map Z13)) (iv x46) (iv x47) []) := by
 unfold Zcr
 refine zf (ZEO ..)<|ze<|zp (iv (max x3 x11)) (Zs4 _ _) ?_
 exact zk (Zhl x2 (max x3 x11) x45 x46 x47 ox45)
def Zcq (x2 x3 : Int) (x45 : List Zj) (x46 x47 : Int) : Option (Int × Int) :=
 (lget x45 x47).bind fun a1 =>
 (Z4j a1).bind fun r2 =>
 if (decide (r2.2 < 0)) = true then
 (Zab (min x2 r2.1) x45 x46 x47)
 else
 (if (decide (x3 < 0)) = true then
 (Zab (min x2 r2.1) x45 x46 x47)
 else
 (Zcr (min x2 r2.1) x3 r2.2 x45 x46 x47))
theorem Zor x2 x3 (x45 : List Zj) x46 x47 ox45 : Sim Z3S (Zcq x2 x3 x45 x46 x47) (ZxX 0 (iv x2) (iv x3) (ZP ox45 (x45.map Z13)) (iv x46) (iv x47) []) := by
 unfold Zcq
 refine zf (ZEM ..)<|ze<|zi fun a1 ha1 => zp (.cptr (ZN a1 .sh .sh)) (et_ (Z45 (o := ox45) (k := .i64) (n := 7) (e := Z13) (cs := Z3D) Z7l (fun _ => rfl) (by decide) ha1))<|zq<|zz (.ptr 0 0) [(Zv Z2g .nl .nl)]<|zt [(Zv a1 .sh .sh)]<|ze<|zq<|zi fun r2 hr2 => ?_
 obtain ⟨_, er2, _, rfl⟩ := Z9r a1 .sh .sh r2 hr2
 refine zc [] (.p (.tup [(.v (.int .i64 r2.1)), (.v (.int .i64 r2.2))])) [(Zv a1 .sh .sh)] er2<|zq<|zq<|ze<|zp (iv (min x2 r2.1)) (ZeA _ _)<|ze<|zq ?_
 refine za (decide (r2.2 < 0)) ?_ ?_
 ·exact zk (Zhk (min x2 r2.1) x45 x46 x47 ox45)
 ·refine zq ?_
  refine za (decide (x3 < 0)) ?_ ?_
  ·exact zk (Zhk (min x2 r2.1) x45 x46 x47 ox45)
  ·exact zk (Zos (min x2 r2.1) x3 r2.2 x45 x46 x47 ox45)
def Zaa (x2 x3 : Int) (x45 : List Zj) (x46 x47 : Int) : Option (Int × Int) :=
 if (decide (x47 < x46)) = true then
 (Zcq x2 x3 x45 x46 x47)
 else
 (Z8T x2 x3)
theorem Zoq x2 x3 (x45 : List Zj) x46 x47 ox45 : Sim Z3S (Zaa x2 x3 x45 x46 x47) (Zo4 0 (iv x2) (iv x3) (ZP ox45 (x45.map Z13)) (iv x46) (iv x47) []) := by
 unfold Zaa
 refine zf (ZEL ..)<|ze<|zq ?_
 refine za (decide (x47 < x46)) ?_ ?_
 ·exact zk (Zor x2 x3 x45 x46 x47 ox45)
 ·exact zk (Z9Z x2 x3)
theorem Zi2 x2 x3 x45 x46 x47 {r} (h : Zaa x2 x3 x45 x46 x47 = some r) : Zag x2 x3 x45 x46 x47 = some r :=
 Z1g (fun _ _ ha hb => ru_ Zgs (ha .ex) (hb .ex)) (fun ox45 => Zoq x2 x3 x45 x46 x47 ox45 r h)
def ZaX : Option Int :=
 some (0)
theorem Zi4 : Sim ZL ZaX (Zsb 0 []) := by
 unfold ZaX
 refine zf (ZDg ..)<|ze ?_
 exact zr ((iv 0), []) ⟨_, rfl⟩
def ZaY : Option Int :=
 some (-1)
theorem Zi5 : Sim ZL ZaY (Zsc 0 []) := by
 unfold ZaY
 refine zf (ZDi ..)<|ze ?_
 exact zr ((iv (-1)), []) ⟨_, rfl⟩
def Zdf (x0 x1 : Int) : Option Int :=
 (Zem (IntKind.i64.wrap (x0 * x1))).bind fun r1 =>
 some r1
theorem ZpV x0 x1 : Sim ZL (Zdf x0 x1) (Zwj 0 (iv x0) (iv x1) []) := by
 unfold Zdf
 refine zf (ZDj ..)<|ze<|zq<|zi fun r1 hr1 => ?_
 obtain ⟨_, er1, _, rfl⟩ := ZmL (IntKind.i64.wrap (x0 * x1)) r1 hr1
 refine zc [] (iv r1) [] er1 ?_
 exact zr ((iv r1), []) ⟨_, rfl⟩
def Zde (x0 x1 : Int) : Option Int :=
 if (decide (x0 < 0)) = true then
 ZaY
 else
 (if (decide (x1 < 0)) = true then
 ZaY
 else
 (Zdf x0 x1))
theorem ZpU x0 x1 : Sim ZL (Zde x0 x1) (Zwi 0 (iv x0) (iv x1) []) := by
 unfold Zde
 refine zf (ZDh ..)<|ze<|zq ?_
 refine za (decide (x0 < 0)) ?_ ?_
 ·exact zk Zi5
 ·refine zq ?_
  refine za (decide (x1 < 0)) ?_ ?_
  ·exact zk Zi5
  ·exact zk (ZpV x0 x1)
def Zgz (x0 x1 : Int) : Option Int :=
 if (x0 == 0) = true then
 ZaX
 else
 (if (x1 == 0) = true then
 ZaX
 else
 (Zde x0 x1))
theorem Ztb x0 x1 : Sim ZL (Zgz x0 x1) (EE 108 [(iv x0), (iv x1)] []) := by
 unfold Zgz
 refine zf (ZJD ..)<|ze<|ze<|zq ?_
 refine za (x0 == 0) ?_ ?_
 ·exact zk Zi4
 ·refine zq ?_
  refine za (x1 == 0) ?_ ?_
  ·exact zk Zi4
  ·exact zk (ZpU x0 x1)
theorem Zu2 x0 x1 {r} (h : Zgz x0 x1 = some r) : ZdA x0 x1 = some r :=
 Z1g (fun _ _ ha hb => ru_ Z2h ha hb) (Ztb x0 x1 r h)
def ZdV (x0 : Int) : Option Int :=
 some x0
theorem ZqN x0 : Sim ZL (ZdV x0) (ZwG 0 (iv x0) []) := by
 unfold ZdV
 refine zf (ZDC ..)<|ze ?_
 exact zr ((iv x0), []) ⟨_, rfl⟩
def ZhN (x0 : Int) : Option Int :=
 if (decide (1048576 < x0)) = true then
 (some (-1))
 else
 (ZdV x0)
theorem Zu1 x0 : Sim ZL (ZhN x0) (EE 134 [(iv x0)] []) := by
 unfold ZhN
 refine zf (ZK1 ..)<|ze<|ze<|zq ?_
 refine za (decide (1048576 < x0)) ?_ ?_
 ·refine ze ?_
  exact zr ((iv (-1)), []) ⟨_, rfl⟩
 ·exact zk (ZqN x0)
theorem ZvB x0 {r} (h : ZhN x0 = some r) : Zem x0 = some r :=
 Z1g (fun _ _ ha hb => ru_ Z2h ha hb) (Zu1 x0 r h)
def ZcE : Option Int :=
 some (-1)
theorem Zk8 : Sim ZL ZcE (Zsa 0 []) := by
 unfold ZcE
 refine zf (ZDe ..)<|ze ?_
 exact zr ((iv (-1)), []) ⟨_, rfl⟩
def ZeK (x0 x1 : Int) : Option Int :=
 (Zem (IntKind.i64.wrap (x0 + x1))).bind fun r1 =>
 some r1
theorem Zrw x0 x1 : Sim ZL (ZeK x0 x1) (Zwe 0 (iv x0) (iv x1) []) := by
 unfold ZeK
 refine zf (ZDf ..)<|ze<|zq<|zi fun r1 hr1 => ?_
 obtain ⟨_, er1, _, rfl⟩ := ZmL (IntKind.i64.wrap (x0 + x1)) r1 hr1
 refine zc [] (iv r1) [] er1 ?_
 exact zr ((iv r1), []) ⟨_, rfl⟩
def ZjB (x0 x1 : Int) : Option Int :=
 if (decide (x0 < 0)) = true then
 ZcE
 else
 (if (decide (x1 < 0)) = true then
 ZcE
 else
 (ZeK x0 x1))
theorem ZvC x0 x1 : Sim ZL (ZjB x0 x1) (EE 107 [(iv x0), (iv x1)] []) := by
 unfold ZjB
 refine zf (ZJB ..)<|ze<|ze<|zq ?_
 refine za (decide (x0 < 0)) ?_ ?_
 ·exact zk Zk8
 ·refine zq ?_
  refine za (decide (x1 < 0)) ?_ ?_
  ·exact zk Zk8
  ·exact zk (Zrw x0 x1)
theorem Zy3 x0 x1 {r} (h : ZjB x0 x1 = some r) : ZjG x0 x1 = some r :=
 Z1g (fun _ _ ha hb => ru_ Z2h ha hb) (ZvC x0 x1 r h)
def Z6n (x0 : List Zj) : Option Bool :=
 (Z7C x0).bind fun r1 =>
 some (decide (0 ≤ r1))
theorem Zfp (x0 : List Zj) ox0 : Sim Z12 (Z6n x0) (EE 94 [(ZP ox0 (x0.map Z13)), (.clo 95 [] [])] []) := by
 unfold Z6n
 refine zf (ZMU ..)<|ze<|ze<|zi fun r1 hr1 => ?_
 obtain ⟨_, er1, _, rfl⟩ := Zi7 x0 .sh r1 hr1
 refine zc [] (iv r1) [] er1<|zq ?_
 exact zr ((bv (decide (0 ≤ r1))), []) ⟨_, rfl⟩
theorem Zg2 x0 {r} (h : Z6n x0 = some r) : Z6v x0 = some r :=
 Z1g (fun _ _ ha hb => ru_ Z2o (ha .ex) (hb .ex)) (fun ox0 => Zfp x0 ox0 r h)
def Z7x (x0 : List Zj) : Option Int :=
 Z5a x0 (x0.length : Int) 0
theorem ZhA (x0 : List Zj) ox0 : Sim ZL (Z7x x0) (EE 109 [(ZP ox0 (x0.map Z13)), (.clo 95 [] [])] []) := by
 unfold Z7x
 refine zf (ZJF ..)<|ze<|ze<|zp (iv (x0.length : Int)) (et_ (Z32 (P := PP) (t := 96) (d := 98) (by kernel_rfl) Z13 (shrO ox0) x0)) ?_
 exact zk (ZaB x0 (x0.length : Int) 0 ox0)
theorem Zi6 x0 {r} (h : Z7x x0 = some r) : Z7C x0 = some r :=
 Z1g (fun _ _ ha hb => ru_ Z2h (ha .ex) (hb .ex)) (fun ox0 => ZhA x0 ox0 r h)
def Z6r (x0 : List Zj) (x7 x8 : Int) : Option Int :=
 Z5a x0 x7 (IntKind.i64.wrap (x8 + 1))
theorem Zfz (x0 : List Zj) x7 x8 ox0 : Sim ZL (Z6r x0 x7 x8) (Zwo 0 (ZP ox0 (x0.map Z13)) (.clo 95 [] []) (iv x7) (iv x8) []) := by
 unfold Z6r
 refine zf (ZDm ..)<|ze<|zq ?_
 exact zk (ZaB x0 x7 (IntKind.i64.wrap (x8 + 1)) ox0)
def Z52 (x0 : List Zj) (x7 x8 : Int) : Option Int :=
 (lget x0 x8).bind fun a1 =>
 (Zcx a1).bind fun r2 =>
 if r2 = true then
 (some x8)
 else
 (Z6r x0 x7 x8)
theorem Zfy (x0 : List Zj) x7 x8 ox0 : Sim ZL (Z52 x0 x7 x8) (Zwn 0 (ZP ox0 (x0.map Z13)) (.clo 95 [] []) (iv x7) (iv x8) []) := by
 unfold Z52
 refine zf (ZDl ..)<|ze<|ze<|zi fun a1 ha1 => zp (.cptr (ZN a1 .sh .sh)) (et_ (Z45 (o := (shrO ox0)) (k := .i64) (n := 7) (e := Z13) (cs := Z3D) Z7l (fun _ => rfl) (by decide) ha1))<|zq<|zi fun r2 hr2 => ?_
 obtain ⟨_, er2, _, rfl⟩ := ZpT a1 .sh .sh r2 hr2
 refine zv [] (bv r2) [] er2 ?_
 refine za r2 ?_ ?_
 ·refine ze ?_
  exact zr ((iv x8), []) ⟨_, rfl⟩
 ·exact zk (Zfz x0 x7 x8 ox0)
def Z8I : Option Int :=
 some (-1)
theorem ZfA : Sim ZL Z8I (Zwp 0 []) := by
 unfold Z8I
 refine zf (ZDn ..)<|ze ?_
 exact zr ((iv (-1)), []) ⟨_, rfl⟩
def Z4c (x0 : List Zj) (x7 x8 : Int) : Option Int :=
 if (decide (x8 < x7)) = true then
 (Z52 x0 x7 x8)
 else
 Z8I
theorem Zfx (x0 : List Zj) x7 x8 ox0 : Sim ZL (Z4c x0 x7 x8) (ZnH 0 (ZP ox0 (x0.map Z13)) (.clo 95 [] []) (iv x7) (iv x8) []) := by
 unfold Z4c
 refine zf (ZDk ..)<|ze<|zq ?_
 refine za (decide (x8 < x7)) ?_ ?_
 ·exact zk (Zfy x0 x7 x8 ox0)
 ·exact zk ZfA
theorem Z7N x0 x7 x8 {r} (h : Z4c x0 x7 x8 = some r) : Z5a x0 x7 x8 = some r :=
 Z1g (fun _ _ ha hb => ru_ Z2h (ha .ex) (hb .ex)) (fun ox0 => Zfx x0 x7 x8 ox0 r h)
def Zcs (x0 : Zj) : Option Bool :=
 (Z59 x0).bind fun r1 =>
 some (!r1)
theorem Zot x0 z2D z1W : Sim Z12 (Zcs x0) (EE 95 [(pA_ (ZN x0 z2D z1W))] []) := by
 unfold Zcs
 refine zf (ZMV ..)<|ze<|zx (.ptr 0 0) [(Zv x0 z2D z1W)]<|ze<|zq<|zi fun r1 hr1 => ?_
 obtain ⟨_, er1, _, rfl⟩ := Zk7 x0 .sh .sh r1 hr1
 refine zc [] (bv r1) [(Zv x0 z2D z1W)] er1<|zq ?_
 exact zr ((bv (!r1)), [(Zv x0 z2D z1W)]) ⟨_, rfl⟩
theorem ZpS x0 {r} (h : Zcs x0 = some r) : Zcx x0 = some r :=
 Z1g (fun _ _ ha hb => ru_ Z2o (ha .ex .ex) (hb .ex .ex)) (fun z2D z1W => Zot x0 z2D z1W r h)
def Zlw (x0 : Zj) : Option Int :=
 Z7B 0 x0.Kids (x0.Kids.length : Int) 0 x0
theorem ZtZ x0 z2D z1W : Sim ZL (Zlw x0) (EE 72 [(pA_ (ZN x0 z2D z1W))] []) := by
 unfold Zlw
 refine zf (ZMB ..)<|ze<|zx (.ptr 0 0) [(Zv x0 z2D z1W)]<|ze<|ze<|zq<|zq<|zp (iv (x0.Kids.length : Int)) (et_ (Z32 (P := PP) (t := 96) (d := 98) (by kernel_rfl) Z13 (shrO z1W) x0.Kids)) ?_
 exact zk (Zk6 0 x0.Kids (x0.Kids.length : Int) 0 x0 (shrO z1W) z2D z1W)
theorem Zi1 x0 {r} (h : Zlw x0 = some r) : Z73 x0 = some r :=
 Z1g (fun _ _ ha hb => ru_ Z2h (ha .ex .ex) (hb .ex .ex)) (fun z2D z1W => ZtZ x0 z2D z1W r h)
def ZdT (x3 : Int) (x8 : List Zj) (x9 x10 : Int) (b0 : Zj) : Option Int :=
 (lget x8 x10).bind fun a1 =>
 (Z73 a1).bind fun r2 =>
 Z7B (min (IntKind.i64.wrap (x3 + r2)) 1048576) x8 x9 (IntKind.i64.wrap (x10 + 1)) b0
theorem ZqK x3 (x8 : List Zj) x9 x10 b0 ox8 z2x z20 : Sim ZL (ZdT x3 x8 x9 x10 b0) (ZzT 0 (.ptr 0 0) (iv x3) (ZP ox8 (x8.map Z13)) (iv x9) (iv x10) [(Zv b0 z2x z20)]) := by
 unfold ZdT
 refine zf (ZGM ..)<|ze<|zi fun a1 ha1 => zp (.cptr (ZN a1 .sh .sh)) (et_ (Z45 (o := ox8) (k := .i64) (n := 7) (e := Z13) (cs := Z3D) Z7l (fun _ => rfl) (by decide) ha1))<|zq<|zz (.ptr 1 0) [(Zv b0 z2x z20), (Zv Z2g .nl .nl)]<|zt [(Zv b0 z2x z20), (Zv a1 .sh .sh)]<|ze<|zq<|zi fun r2 hr2 => ?_
 obtain ⟨_, er2, _, rfl⟩ := ZmK a1 .sh .sh r2 hr2
 refine zc [] (iv r2) [(Zv b0 z2x z20), (Zv a1 .sh .sh)] er2<|zq<|zp (iv (min (IntKind.i64.wrap (x3 + r2)) 1048576)) (ZeA _ _)<|ze<|zq ?_
 exact zk (Zk6 (min (IntKind.i64.wrap (x3 + r2)) 1048576) x8 x9 (IntKind.i64.wrap (x10 + 1)) b0 ox8 z2x z20)
def Z1Z (x3 : Int) : Option Int :=
 some (min x3 1048576)
theorem Z2e x3 : Sim ZL (Z1Z x3) (Z4Z 0 (iv x3) []) := by
 unfold Z1Z
 refine zf (ZEF ..)<|ze<|zp (iv (min x3 1048576)) (ZeA _ _) ?_
 exact zr ((iv (min x3 1048576)), []) ⟨_, rfl⟩
def Z2r (x3 : Int) (b0 : Zj) : Option Int :=
 if (b0.Mode == 2) = true then
 (Z1Z (IntKind.i64.wrap (x3 + 2)))
 else
 (Z1Z x3)
theorem Z2y x3 b0 z2x z20 : Sim ZL (Z2r x3 b0) (Z6E 0 (.ptr 0 0) (iv x3) [(Zv b0 z2x z20)]) := by
 unfold Z2r
 refine zf (ZEE ..)<|ze<|zq<|zq<|zq ?_
 refine za (b0.Mode == 2) ?_ ?_
 ·refine ze<|zq ?_
  exact zk (Z2e (IntKind.i64.wrap (x3 + 2)))
 ·exact zk (Z2e x3)
def Z6m (x3 : Int) (b0 : Zj) : Option Int :=
 if (b0.Kind == 1) = true then
 (if (b0.Kind == 1) = true then
 (some (1))
 else
 (if (b0.Kind == 3) = true then
 (Z1Z ((IntKind.i64.wrap (x3 + (IntKind.i64.wrap (2 * (IntKind.i64.wrap ((b0.Kids.length : Int) - 1))))))))
 else
 (if (b0.Kind == 5) = true then
 (if (b0.Kind == 5) = true then
 (Z1Z (IntKind.i64.wrap (x3 + 2)))
 else
 (if (b0.Kind == 4) = true then
 (if (decide (b0.Hi < 0)) = true then
 (Z2r (IntKind.i64.wrap ((IntKind.i64.wrap (b0.Lo * x3)) + (IntKind.i64.wrap (x3 + 4)))) b0)
 else
 (Z2r ((IntKind.i64.wrap ((IntKind.i64.wrap (b0.Lo * x3)) + (IntKind.i64.wrap ((IntKind.i64.wrap (b0.Hi - b0.Lo)) * (IntKind.i64.wrap (x3 + 1))))))) b0))
 else
 (Z1Z x3)))
 else
 (if (b0.Kind == 7) = true then
 (if (b0.Kind == 7) = true then
 (Z1Z (IntKind.i64.wrap (x3 + 2)))
 else
 (if (b0.Kind == 4) = true then
 (if (decide (b0.Hi < 0)) = true then
 (Z2r (IntKind.i64.wrap ((IntKind.i64.wrap (b0.Lo * x3)) + (IntKind.i64.wrap (x3 + 4)))) b0)
 else
 (Z2r ((IntKind.i64.wrap ((IntKind.i64.wrap (b0.Lo * x3)) + (IntKind.i64.wrap ((IntKind.i64.wrap (b0.Hi - b0.Lo)) * (IntKind.i64.wrap (x3 + 1))))))) b0))
 else
 (Z1Z x3)))
 else
 (if (b0.Kind == 8) = true then
 (Z1Z (IntKind.i64.wrap (x3 + 2)))
 else
 (if (b0.Kind == 4) = true then
 (if (decide (b0.Hi < 0)) = true then
 (Z2r (IntKind.i64.wrap ((IntKind.i64.wrap (b0.Lo * x3)) + (IntKind.i64.wrap (x3 + 4)))) b0)
 else
 (Z2r ((IntKind.i64.wrap ((IntKind.i64.wrap (b0.Lo * x3)) + (IntKind.i64.wrap ((IntKind.i64.wrap (b0.Hi - b0.Lo)) * (IntKind.i64.wrap (x3 + 1))))))) b0))
 else
 (Z1Z x3)))))))
 else
 (if (b0.Kind == 6) = true then
 (if (b0.Kind == 6) = true then
 (some (1))
 else
 (if (b0.Kind == 3) = true then
 (Z1Z ((IntKind.i64.wrap (x3 + (IntKind.i64.wrap (2 * (IntKind.i64.wrap ((b0.Kids.length : Int) - 1))))))))
 else
 (if (b0.Kind == 5) = true then
 (if (b0.Kind == 5) = true then
 (Z1Z (IntKind.i64.wrap (x3 + 2)))
 else
 (if (b0.Kind == 4) = true then
 (if (decide (b0.Hi < 0)) = true then
 (Z2r (IntKind.i64.wrap ((IntKind.i64.wrap (b0.Lo * x3)) + (IntKind.i64.wrap (x3 + 4)))) b0)
 else
 (Z2r ((IntKind.i64.wrap ((IntKind.i64.wrap (b0.Lo * x3)) + (IntKind.i64.wrap ((IntKind.i64.wrap (b0.Hi - b0.Lo)) * (IntKind.i64.wrap (x3 + 1))))))) b0))
 else
 (Z1Z x3)))
 else
 (if (b0.Kind == 7) = true then
 (if (b0.Kind == 7) = true then
 (Z1Z (IntKind.i64.wrap (x3 + 2)))
 else
 (if (b0.Kind == 4) = true then
 (if (decide (b0.Hi < 0)) = true then
 (Z2r (IntKind.i64.wrap ((IntKind.i64.wrap (b0.Lo * x3)) + (IntKind.i64.wrap (x3 + 4)))) b0)
 else
 (Z2r ((IntKind.i64.wrap ((IntKind.i64.wrap (b0.Lo * x3)) + (IntKind.i64.wrap ((IntKind.i64.wrap (b0.Hi - b0.Lo)) * (IntKind.i64.wrap (x3 + 1))))))) b0))
 else
 (Z1Z x3)))
 else
 (if (b0.Kind == 8) = true then
 (Z1Z (IntKind.i64.wrap (x3 + 2)))
 else
 (if (b0.Kind == 4) = true then
 (if (decide (b0.Hi < 0)) = true then
 (Z2r (IntKind.i64.wrap ((IntKind.i64.wrap (b0.Lo * x3)) + (IntKind.i64.wrap (x3 + 4)))) b0)
 else
 (Z2r ((IntKind.i64.wrap ((IntKind.i64.wrap (b0.Lo * x3)) + (IntKind.i64.wrap ((IntKind.i64.wrap (b0.Hi - b0.Lo)) * (IntKind.i64.wrap (x3 + 1))))))) b0))
 else
 (Z1Z x3)))))))
 else
 (if (b0.Kind == 9) = true then
 (some (1))
 else
 (if (b0.Kind == 3) = true then
 (Z1Z ((IntKind.i64.wrap (x3 + (IntKind.i64.wrap (2 * (IntKind.i64.wrap ((b0.Kids.length : Int) - 1))))))))
 else
 (if (b0.Kind == 5) = true then
 (if (b0.Kind == 5) = true then
 (Z1Z (IntKind.i64.wrap (x3 + 2)))
 else
 (if (b0.Kind == 4) = true then
 (if (decide (b0.Hi < 0)) = true then
 (Z2r (IntKind.i64.wrap ((IntKind.i64.wrap (b0.Lo * x3)) + (IntKind.i64.wrap (x3 + 4)))) b0)
 else
 (Z2r ((IntKind.i64.wrap ((IntKind.i64.wrap (b0.Lo * x3)) + (IntKind.i64.wrap ((IntKind.i64.wrap (b0.Hi - b0.Lo)) * (IntKind.i64.wrap (x3 + 1))))))) b0))
 else
 (Z1Z x3)))
 else
 (if (b0.Kind == 7) = true then
 (if (b0.Kind == 7) = true then
 (Z1Z (IntKind.i64.wrap (x3 + 2)))
 else
 (if (b0.Kind == 4) = true then
 (if (decide (b0.Hi < 0)) = true then
 (Z2r (IntKind.i64.wrap ((IntKind.i64.wrap (b0.Lo * x3)) + (IntKind.i64.wrap (x3 + 4)))) b0)
 else
 (Z2r ((IntKind.i64.wrap ((IntKind.i64.wrap (b0.Lo * x3)) + (IntKind.i64.wrap ((IntKind.i64.wrap (b0.Hi - b0.Lo)) * (IntKind.i64.wrap (x3 + 1))))))) b0))
 else
 (Z1Z x3)))
 else
 (if (b0.Kind == 8) = true then
 (Z1Z (IntKind.i64.wrap (x3 + 2)))
 else
 (if (b0.Kind == 4) = true then
 (if (decide (b0.Hi < 0)) = true then
 (Z2r (IntKind.i64.wrap ((IntKind.i64.wrap (b0.Lo * x3)) + (IntKind.i64.wrap (x3 + 4)))) b0)
 else
 (Z2r ((IntKind.i64.wrap ((IntKind.i64.wrap (b0.Lo * x3)) + (IntKind.i64.wrap ((IntKind.i64.wrap (b0.Hi - b0.Lo)) * (IntKind.i64.wrap (x3 + 1))))))) b0))
 else
 (Z1Z x3))))))))
theorem ZqL x3 b0 z2x z20 : Sim ZL (Z6m x3 b0) (ZzU 0 (.ptr 0 0) (iv x3) [(Zv b0 z2x z20)]) := by
 unfold Z6m
 refine zf (ZGN ..)<|ze<|zq<|zq<|ze<|zq ?_
 refine za (b0.Kind == 1) ?_ ?_
 ·refine za (b0.Kind == 1) ?_ ?_
  ·refine ze ?_
   exact zr ((iv 1), [(Zv b0 z2x z20)]) ⟨_, rfl⟩
  ·refine ze<|zq ?_
   refine za (b0.Kind == 3) ?_ ?_
   ·refine ze<|zq<|zq<|zp (iv (b0.Kids.length : Int)) (et_ (Z32 (P := PP) (t := 96) (d := 98) (by kernel_rfl) Z13 (shrO z20) b0.Kids))<|zq<|zq<|zq ?_
    exact zk (Z2e ((IntKind.i64.wrap (x3 + (IntKind.i64.wrap (2 * (IntKind.i64.wrap ((b0.Kids.length : Int) - 1))))))))
   ·refine ze<|zq ?_
    refine za (b0.Kind == 5) ?_ ?_
    ·refine za (b0.Kind == 5) ?_ ?_
     ·refine ze<|zq ?_
      exact zk (Z2e (IntKind.i64.wrap (x3 + 2)))
     ·refine ze<|zq ?_
      refine za (b0.Kind == 4) ?_ ?_
      ·refine ze<|ze<|zq<|zq<|zq<|ze<|zq<|zq<|zq ?_
       refine za (decide (b0.Hi < 0)) ?_ ?_
       ·refine ze<|zq<|zq ?_
        exact zk (Z2y (IntKind.i64.wrap ((IntKind.i64.wrap (b0.Lo * x3)) + (IntKind.i64.wrap (x3 + 4)))) b0 z2x z20)
       ·refine ze<|zq<|zq<|zq<|zq<|zq<|zq<|zq<|zq ?_
        exact zk (Z2y ((IntKind.i64.wrap ((IntKind.i64.wrap (b0.Lo * x3)) + (IntKind.i64.wrap ((IntKind.i64.wrap (b0.Hi - b0.Lo)) * (IntKind.i64.wrap (x3 + 1))))))) b0 z2x z20)
      ·exact zk (Z2e x3)
    ·refine ze<|zq ?_
     refine za (b0.Kind == 7) ?_ ?_
     ·refine za (b0.Kind == 7) ?_ ?_
      ·refine ze<|zq ?_
       exact zk (Z2e (IntKind.i64.wrap (x3 + 2)))
      ·refine ze<|zq ?_
       refine za (b0.Kind == 4) ?_ ?_
       ·refine ze<|ze<|zq<|zq<|zq<|ze<|zq<|zq<|zq ?_
        refine za (decide (b0.Hi < 0)) ?_ ?_
        ·refine ze<|zq<|zq ?_
         exact zk (Z2y (IntKind.i64.wrap ((IntKind.i64.wrap (b0.Lo * x3)) + (IntKind.i64.wrap (x3 + 4)))) b0 z2x z20)
        ·refine ze<|zq<|zq<|zq<|zq<|zq<|zq<|zq<|zq ?_
         exact zk (Z2y ((IntKind.i64.wrap ((IntKind.i64.wrap (b0.Lo * x3)) + (IntKind.i64.wrap ((IntKind.i64.wrap (b0.Hi - b0.Lo)) * (IntKind.i64.wrap (x3 + 1))))))) b0 z2x z20)
       ·exact zk (Z2e x3)
     ·refine ze<|zq ?_
      refine za (b0.Kind == 8) ?_ ?_
      ·refine ze<|zq ?_
       exact zk (Z2e (IntKind.i64.wrap (x3 + 2)))
      ·refine ze<|zq ?_
       refine za (b0.Kind == 4) ?_ ?_
       ·refine ze<|ze<|zq<|zq<|zq<|ze<|zq<|zq<|zq ?_
        refine za (decide (b0.Hi < 0)) ?_ ?_
        ·refine ze<|zq<|zq ?_
         exact zk (Z2y (IntKind.i64.wrap ((IntKind.i64.wrap (b0.Lo * x3)) + (IntKind.i64.wrap (x3 + 4)))) b0 z2x z20)
        ·refine ze<|zq<|zq<|zq<|zq<|zq<|zq<|zq<|zq ?_
         exact zk (Z2y ((IntKind.i64.wrap ((IntKind.i64.wrap (b0.Lo * x3)) + (IntKind.i64.wrap ((IntKind.i64.wrap (b0.Hi - b0.Lo)) * (IntKind.i64.wrap (x3 + 1))))))) b0 z2x z20)
       ·exact zk (Z2e x3)
 ·refine ze<|zq ?_
  refine za (b0.Kind == 6) ?_ ?_
  ·refine za (b0.Kind == 6) ?_ ?_
   ·refine ze ?_
    exact zr ((iv 1), [(Zv b0 z2x z20)]) ⟨_, rfl⟩
   ·refine ze<|zq ?_
    refine za (b0.Kind == 3) ?_ ?_
    ·refine ze<|zq<|zq<|zp (iv (b0.Kids.length : Int)) (et_ (Z32 (P := PP) (t := 96) (d := 98) (by kernel_rfl) Z13 (shrO z20) b0.Kids))<|zq<|zq<|zq ?_
     exact zk (Z2e ((IntKind.i64.wrap (x3 + (IntKind.i64.wrap (2 * (IntKind.i64.wrap ((b0.Kids.length : Int) - 1))))))))
    ·refine ze<|zq ?_
     refine za (b0.Kind == 5) ?_ ?_
     ·refine za (b0.Kind == 5) ?_ ?_
      ·refine ze<|zq ?_
       exact zk (Z2e (IntKind.i64.wrap (x3 + 2)))
      ·refine ze<|zq ?_
       refine za (b0.Kind == 4) ?_ ?_
       ·refine ze<|ze<|zq<|zq<|zq<|ze<|zq<|zq<|zq ?_
        refine za (decide (b0.Hi < 0)) ?_ ?_
        ·refine ze<|zq<|zq ?_
         exact zk (Z2y (IntKind.i64.wrap ((IntKind.i64.wrap (b0.Lo * x3)) + (IntKind.i64.wrap (x3 + 4)))) b0 z2x z20)
        ·refine ze<|zq<|zq<|zq<|zq<|zq<|zq<|zq<|zq ?_
         exact zk (Z2y ((IntKind.i64.wrap ((IntKind.i64.wrap (b0.Lo * x3)) + (IntKind.i64.wrap ((IntKind.i64.wrap (b0.Hi - b0.Lo)) * (IntKind.i64.wrap (x3 + 1))))))) b0 z2x z20)
       ·exact zk (Z2e x3)
     ·refine ze<|zq ?_
      refine za (b0.Kind == 7) ?_ ?_
      ·refine za (b0.Kind == 7) ?_ ?_
       ·refine ze<|zq ?_
        exact zk (Z2e (IntKind.i64.wrap (x3 + 2)))
       ·refine ze<|zq ?_
        refine za (b0.Kind == 4) ?_ ?_
        ·refine ze<|ze<|zq<|zq<|zq<|ze<|zq<|zq<|zq ?_
         refine za (decide (b0.Hi < 0)) ?_ ?_
         ·refine ze<|zq<|zq ?_
          exact zk (Z2y (IntKind.i64.wrap ((IntKind.i64.wrap (b0.Lo * x3)) + (IntKind.i64.wrap (x3 + 4)))) b0 z2x z20)
         ·refine ze<|zq<|zq<|zq<|zq<|zq<|zq<|zq<|zq ?_
          exact zk (Z2y ((IntKind.i64.wrap ((IntKind.i64.wrap (b0.Lo * x3)) + (IntKind.i64.wrap ((IntKind.i64.wrap (b0.Hi - b0.Lo)) * (IntKind.i64.wrap (x3 + 1))))))) b0 z2x z20)
        ·exact zk (Z2e x3)
      ·refine ze<|zq ?_
       refine za (b0.Kind == 8) ?_ ?_
       ·refine ze<|zq ?_
        exact zk (Z2e (IntKind.i64.wrap (x3 + 2)))
       ·refine ze<|zq ?_
        refine za (b0.Kind == 4) ?_ ?_
        ·refine ze<|ze<|zq<|zq<|zq<|ze<|zq<|zq<|zq ?_
         refine za (decide (b0.Hi < 0)) ?_ ?_
         ·refine ze<|zq<|zq ?_
          exact zk (Z2y (IntKind.i64.wrap ((IntKind.i64.wrap (b0.Lo * x3)) + (IntKind.i64.wrap (x3 + 4)))) b0 z2x z20)
         ·refine ze<|zq<|zq<|zq<|zq<|zq<|zq<|zq<|zq ?_
          exact zk (Z2y ((IntKind.i64.wrap ((IntKind.i64.wrap (b0.Lo * x3)) + (IntKind.i64.wrap ((IntKind.i64.wrap (b0.Hi - b0.Lo)) * (IntKind.i64.wrap (x3 + 1))))))) b0 z2x z20)
        ·exact zk (Z2e x3)
  ·refine ze<|zq ?_
   refine za (b0.Kind == 9) ?_ ?_
   ·refine ze ?_
    exact zr ((iv 1), [(Zv b0 z2x z20)]) ⟨_, rfl⟩
   ·refine ze<|zq ?_
    refine za (b0.Kind == 3) ?_ ?_
    ·refine ze<|zq<|zq<|zp (iv (b0.Kids.length : Int)) (et_ (Z32 (P := PP) (t := 96) (d := 98) (by kernel_rfl) Z13 (shrO z20) b0.Kids))<|zq<|zq<|zq ?_
     exact zk (Z2e ((IntKind.i64.wrap (x3 + (IntKind.i64.wrap (2 * (IntKind.i64.wrap ((b0.Kids.length : Int) - 1))))))))
    ·refine ze<|zq ?_
     refine za (b0.Kind == 5) ?_ ?_
     ·refine za (b0.Kind == 5) ?_ ?_
      ·refine ze<|zq ?_
       exact zk (Z2e (IntKind.i64.wrap (x3 + 2)))
      ·refine ze<|zq ?_
       refine za (b0.Kind == 4) ?_ ?_
       ·refine ze<|ze<|zq<|zq<|zq<|ze<|zq<|zq<|zq ?_
        refine za (decide (b0.Hi < 0)) ?_ ?_
        ·refine ze<|zq<|zq ?_
         exact zk (Z2y (IntKind.i64.wrap ((IntKind.i64.wrap (b0.Lo * x3)) + (IntKind.i64.wrap (x3 + 4)))) b0 z2x z20)
        ·refine ze<|zq<|zq<|zq<|zq<|zq<|zq<|zq<|zq ?_
         exact zk (Z2y ((IntKind.i64.wrap ((IntKind.i64.wrap (b0.Lo * x3)) + (IntKind.i64.wrap ((IntKind.i64.wrap (b0.Hi - b0.Lo)) * (IntKind.i64.wrap (x3 + 1))))))) b0 z2x z20)
       ·exact zk (Z2e x3)
     ·refine ze<|zq ?_
      refine za (b0.Kind == 7) ?_ ?_
      ·refine za (b0.Kind == 7) ?_ ?_
       ·refine ze<|zq ?_
        exact zk (Z2e (IntKind.i64.wrap (x3 + 2)))
       ·refine ze<|zq ?_
        refine za (b0.Kind == 4) ?_ ?_
        ·refine ze<|ze<|zq<|zq<|zq<|ze<|zq<|zq<|zq ?_
         refine za (decide (b0.Hi < 0)) ?_ ?_
         ·refine ze<|zq<|zq ?_
          exact zk (Z2y (IntKind.i64.wrap ((IntKind.i64.wrap (b0.Lo * x3)) + (IntKind.i64.wrap (x3 + 4)))) b0 z2x z20)
         ·refine ze<|zq<|zq<|zq<|zq<|zq<|zq<|zq<|zq ?_
          exact zk (Z2y ((IntKind.i64.wrap ((IntKind.i64.wrap (b0.Lo * x3)) + (IntKind.i64.wrap ((IntKind.i64.wrap (b0.Hi - b0.Lo)) * (IntKind.i64.wrap (x3 + 1))))))) b0 z2x z20)
        ·exact zk (Z2e x3)
      ·refine ze<|zq ?_
       refine za (b0.Kind == 8) ?_ ?_
       ·refine ze<|zq ?_
        exact zk (Z2e (IntKind.i64.wrap (x3 + 2)))
       ·refine ze<|zq ?_
        refine za (b0.Kind == 4) ?_ ?_
        ·refine ze<|ze<|zq<|zq<|zq<|ze<|zq<|zq<|zq ?_
         refine za (decide (b0.Hi < 0)) ?_ ?_
         ·refine ze<|zq<|zq ?_
          exact zk (Z2y (IntKind.i64.wrap ((IntKind.i64.wrap (b0.Lo * x3)) + (IntKind.i64.wrap (x3 + 4)))) b0 z2x z20)
         ·refine ze<|zq<|zq<|zq<|zq<|zq<|zq<|zq<|zq ?_
          exact zk (Z2y ((IntKind.i64.wrap ((IntKind.i64.wrap (b0.Lo * x3)) + (IntKind.i64.wrap ((IntKind.i64.wrap (b0.Hi - b0.Lo)) * (IntKind.i64.wrap (x3 + 1))))))) b0 z2x z20)
        ·exact zk (Z2e x3)
def ZbN (x3 : Int) (x8 : List Zj) (x9 x10 : Int) (b0 : Zj) : Option Int :=
 if (decide (x10 < x9)) = true then
 (ZdT x3 x8 x9 x10 b0)
 else
 (Z6m x3 b0)
theorem ZqJ x3 (x8 : List Zj) x9 x10 b0 ox8 z2x z20 : Sim ZL (ZbN x3 x8 x9 x10 b0) (Zr8 0 (.ptr 0 0) (iv x3) (ZP ox8 (x8.map Z13)) (iv x9) (iv x10) [(Zv b0 z2x z20)]) := by
 unfold ZbN
 refine zf (ZGL ..)<|ze<|zq ?_
 refine za (decide (x10 < x9)) ?_ ?_
 ·exact zk (ZqK x3 x8 x9 x10 b0 ox8 z2x z20)
 ·exact zk (ZqL x3 b0 z2x z20)
theorem Zk5 x3 x8 x9 x10 b0 {r} (h : ZbN x3 x8 x9 x10 b0 = some r) : Z7B x3 x8 x9 x10 b0 = some r :=
 Z1g (fun _ _ ha hb => ru_ Z2h (ha .ex .ex .ex) (hb .ex .ex .ex)) (fun ox8 z2x z20 => ZqJ x3 x8 x9 x10 b0 ox8 z2x z20 r h)
def Z6K (z14 : List ZE) : Option Int :=
 some (IntKind.i64.wrap ((z14.length : Int) - 1))
theorem ZfV (z14 : List ZE) z29 zY z1O (z3V : ZW z1O = true) : Sim (Z6J z14 z29 zY z1O) (Z6K z14) (EE 35 [(.ptr 0 0)] [[(ZP z1O (z14.map ZU)), (.mp 1), (iv z29)], (rM_ ZK zY)]) := by
 unfold Z6K
 refine zf (ZMc ..)<|ze<|ze<|zq<|zq<|zq<|zp (iv (z14.length : Int)) (et_ (Z32 (P := PP) (t := 121) (d := 24) (by kernel_rfl) ZU (shrO z1O) z14))<|zq ?_
 exact zr ((iv (IntKind.i64.wrap ((z14.length : Int) - 1))), [[(ZP z1O (z14.map ZU)), (.mp 1), (iv z29)], (rM_ ZK zY)]) ⟨_, rfl⟩
theorem ZgN z14 {r} (h : Z6K z14 = some r) : Z6R z14 = some r :=
 Z1g (fun _ _ ha hb => ru_ (Zhs _ _ _ _) (ha default default .ex rfl) (hb default default .ex rfl)) (fun z29 zY z1O z3V => ZfV z14 z29 zY z1O z3V r h)
def Z94 (x0 : List ZX) : Option Bool :=
 Z50 x0 x0 (x0.length : Int) 0
theorem ZjU (x0 : List ZX) ox0 : Sim Z12 (Z94 x0) (EE 30 [(ZP ox0 (x0.map Z1X))] []) := by
 unfold Z94
 refine zf (ZM3 ..)<|ze<|ze<|zp (iv (x0.length : Int)) (et_ (Z32 (P := PP) (t := 59) (d := 61) (by kernel_rfl) Z1X (shrO ox0) x0)) ?_
 exact zk (Zca x0 x0 (x0.length : Int) 0 ox0 (shrO ox0))
theorem Zkt x0 {r} (h : Z94 x0 = some r) : Z95 x0 = some r :=
 Z1g (fun _ _ ha hb => ru_ Z2o (ha .ex) (hb .ex)) (fun ox0 => ZjU x0 ox0 r h)
def Z4X : Option Bool :=
 some false
theorem ZbU : Sim Z12 Z4X (Zv3 0 []) := by
 unfold Z4X
 refine zf (ZGk ..)<|ze ?_
 exact zr ((bv false), []) ⟨_, rfl⟩
def Z7T (x0 x7 : List ZX) (x8 x9 : Int) (b0 : ZX) : Option Bool :=
 Z5T x0 x7 x8 x9 b0.Delta.Put (b0.Delta.Put.length : Int) 0
theorem ZhW (x0 x7 : List ZX) x8 x9 b0 ox0 ox7 z1o z1m : Sim Z12 (Z7T x0 x7 x8 x9 b0) (Zzt 0 (ZP ox0 (x0.map Z1X)) (.ptr 0 0) (ZP ox7 (x7.map Z1X)) (iv x8) (iv x9) [(Z10 b0 z1o z1m)]) := by
 unfold Z7T
 refine zf (ZGl ..)<|ze<|zq<|zq<|zq<|zp (iv (b0.Delta.Put.length : Int)) (et_ (Z32 (P := PP) (t := 22) (d := 43) (by kernel_rfl) ZG (shrO z1o) b0.Delta.Put)) ?_
 exact zk (Zcb x0 x7 x8 x9 b0.Delta.Put (b0.Delta.Put.length : Int) 0 ox0 ox7 (shrO z1o))
def Z4W (x0 x7 : List ZX) (x8 x9 : Int) : Option Bool :=
 (lget x7 x9).bind fun a1 =>
 if (decide (20 < (a1.Delta.Put.length : Int))) = true then
 Z4X
 else
 (if (decide (20 < (a1.Delta.Drop.length : Int))) = true then
 Z4X
 else
 (Z7T x0 x7 x8 x9 a1))
theorem ZhV (x0 x7 : List ZX) x8 x9 ox0 ox7 : Sim Z12 (Z4W x0 x7 x8 x9) (Zzs 0 (ZP ox0 (x0.map Z1X)) (ZP ox7 (x7.map Z1X)) (iv x8) (iv x9) []) := by
 unfold Z4W
 refine zf (ZGj ..)<|ze<|zi fun a1 ha1 => zp (.cptr (Z3e a1 .sh .sh)) (et_ (Z45 (o := ox7) (k := .i64) (n := 9) (e := Z1X) (cs := ZbA) (fun _ => rfl) (fun _ => rfl) (by decide) ha1))<|zq<|zz (.ptr 0 0) [(Z10 ZJ4 .nl .nl)]<|zt [(Z10 a1 .sh .sh)]<|ze<|zq<|zq<|zq<|zp (iv (a1.Delta.Put.length : Int)) (et_ (Z32 (P := PP) (t := 22) (d := 43) (by kernel_rfl) ZG .sh a1.Delta.Put))<|zq ?_
 refine za (decide (20 < (a1.Delta.Put.length : Int))) ?_ ?_
 ·exact zk ZbU
 ·refine zq<|zq<|zq<|zp (iv (a1.Delta.Drop.length : Int)) (et_ (Z32 (P := PP) (t := 27) (d := 3) (by kernel_rfl) (eI .i64) .sh a1.Delta.Drop))<|zq ?_
  refine za (decide (20 < (a1.Delta.Drop.length : Int))) ?_ ?_
  ·exact zk ZbU
  ·exact zk (ZhW x0 x7 x8 x9 a1 ox0 ox7 .sh .sh)
def Z7w (x0 : List ZX) : Option Bool :=
 some (decide ((x0.length : Int) ≤ 70))
theorem Zhx (x0 : List ZX) ox0 : Sim Z12 (Z7w x0) (ZxR 0 (ZP ox0 (x0.map Z1X)) []) := by
 unfold Z7w
 refine zf (ZEz ..)<|ze<|zp (iv (x0.length : Int)) (et_ (Z32 (P := PP) (t := 59) (d := 61) (by kernel_rfl) Z1X (shrO ox0) x0))<|zq ?_
 exact zr ((bv (decide ((x0.length : Int) ≤ 70))), []) ⟨_, rfl⟩
def Z4i (x0 x7 : List ZX) (x8 x9 : Int) : Option Bool :=
 if (decide (x9 < x8)) = true then
 (Z4W x0 x7 x8 x9)
 else
 (Z7w x0)
theorem ZhT (x0 x7 : List ZX) x8 x9 ox0 ox7 : Sim Z12 (Z4i x0 x7 x8 x9) (Zr2 0 (ZP ox0 (x0.map Z1X)) (ZP ox7 (x7.map Z1X)) (iv x8) (iv x9) []) := by
 unfold Z4i
 refine zf (ZGh ..)<|ze<|zq ?_
 refine za (decide (x9 < x8)) ?_ ?_
 ·exact zk (ZhV x0 x7 x8 x9 ox0 ox7)
 ·exact zk (Zhx x0 ox0)
theorem Z6Q x0 x7 x8 x9 {r} (h : Z4i x0 x7 x8 x9 = some r) : Z50 x0 x7 x8 x9 = some r :=
 Z1g (fun _ _ ha hb => ru_ Z2o (ha .ex .ex) (hb .ex .ex)) (fun ox0 ox7 => ZhT x0 x7 x8 x9 ox0 ox7 r h)
def Z7u (x0 x7 : List ZX) (x8 x9 : Int) (x27 : List ZA) (x28 x29 : Int) : Option Bool :=
 Z5T x0 x7 x8 x9 x27 x28 (IntKind.i64.wrap (x29 + 1))
theorem Zhv (x0 x7 : List ZX) x8 x9 (x27 : List ZA) x28 x29 ox0 ox7 ox27 : Sim Z12 (Z7u x0 x7 x8 x9 x27 x28 x29) (ZxP 0 (ZP ox0 (x0.map Z1X)) (ZP ox7 (x7.map Z1X)) (iv x8) (iv x9) (ZP ox27 (x27.map ZG)) (iv x28) (iv x29) []) := by
 unfold Z7u
 refine zf (ZEx ..)<|ze<|zq ?_
 exact zk (Zcb x0 x7 x8 x9 x27 x28 (IntKind.i64.wrap (x29 + 1)) ox0 ox7 ox27)
def Z5R (x0 x7 : List ZX) (x8 x9 : Int) (x27 : List ZA) (x28 x29 : Int) : Option Bool :=
 (lget x27 x29).bind fun a1 =>
 if (decide (300 < (a1.Pattern.size : Int))) = true then
 (some false)
 else
 (Z7u x0 x7 x8 x9 x27 x28 x29)
theorem ZhX (x0 x7 : List ZX) x8 x9 (x27 : List ZA) x28 x29 ox0 ox7 ox27 : Sim Z12 (Z5R x0 x7 x8 x9 x27 x28 x29) (Zzu 0 (ZP ox0 (x0.map Z1X)) (ZP ox7 (x7.map Z1X)) (iv x8) (iv x9) (ZP ox27 (x27.map ZG)) (iv x28) (iv x29) []) := by
 unfold Z5R
 refine zf (ZGm ..)<|ze<|zi fun a1 ha1 => zp (.cptr (Z2m a1)) (et_ (Z45 (o := ox27) (k := .i64) (n := 5) (e := ZG) (cs := Z5S) (fun _ => rfl) (fun _ => rfl) (by decide) ha1))<|zq<|zz (.ptr 0 0) [(Z1P (ZA.mk 0 0 0 0 (ByteArray.mk #[])))]<|zt [(Z1P a1)]<|ze<|zq<|zq<|zq<|zq ?_
 refine za (decide (300 < (a1.Pattern.size : Int))) ?_ ?_
 ·refine ze ?_
  exact zr ((bv false), [(Z1P a1)]) ⟨_, rfl⟩
 ·exact zk (Zhv x0 x7 x8 x9 x27 x28 x29 ox0 ox7 ox27)
def Z7v (x0 x7 : List ZX) (x8 x9 : Int) : Option Bool :=
 Z50 x0 x7 x8 (IntKind.i64.wrap (x9 + 1))
theorem Zhw (x0 x7 : List ZX) x8 x9 ox0 ox7 : Sim Z12 (Z7v x0 x7 x8 x9) (ZxQ 0 (ZP ox0 (x0.map Z1X)) (ZP ox7 (x7.map Z1X)) (iv x8) (iv x9) []) := by
 unfold Z7v
 refine zf (ZEy ..)<|ze<|zq ?_
 exact zk (Zca x0 x7 x8 (IntKind.i64.wrap (x9 + 1)) ox0 ox7)
def Z4V (x0 x7 : List ZX) (x8 x9 : Int) (x27 : List ZA) (x28 x29 : Int) : Option Bool :=
 if (decide (x29 < x28)) = true then
 (Z5R x0 x7 x8 x9 x27 x28 x29)
 else
 (Z7v x0 x7 x8 x9)
theorem ZhU (x0 x7 : List ZX) x8 x9 (x27 : List ZA) x28 x29 ox0 ox7 ox27 : Sim Z12 (Z4V x0 x7 x8 x9 x27 x28 x29) (Zr3 0 (ZP ox0 (x0.map Z1X)) (ZP ox7 (x7.map Z1X)) (iv x8) (iv x9) (ZP ox27 (x27.map ZG)) (iv x28) (iv x29) []) := by
 unfold Z4V
 refine zf (ZGi ..)<|ze<|zq ?_
 refine za (decide (x29 < x28)) ?_ ?_
 ·exact zk (ZhX x0 x7 x8 x9 x27 x28 x29 ox0 ox7 ox27)
 ·exact zk (Zhw x0 x7 x8 x9 ox0 ox7)
theorem Z92 x0 x7 x8 x9 x27 x28 x29 {r} (h : Z4V x0 x7 x8 x9 x27 x28 x29 = some r) : Z5T x0 x7 x8 x9 x27 x28 x29 = some r :=
 Z1g (fun _ _ ha hb => ru_ Z2o (ha .ex .ex .ex) (hb .ex .ex .ex)) (fun ox0 ox7 ox27 => ZhU x0 x7 x8 x9 x27 x28 x29 ox0 ox7 ox27 r h)
def Z4Y (x1 : Int) (zY : List (Int × ZT)) : Option (Int × Z1c × Bool) :=
 some (((getM zY x1).getD (ZT.mk 0 (Z1c.mk 0 (ZR.mk 0 0 0)))).request, (Z1c.mk ((getM zY x1).getD (ZT.mk 0 (Z1c.mk 0 (ZR.mk 0 0 0)))).Outcome.Version (ZR.mk ((getM zY x1).getD (ZT.mk 0 (Z1c.mk 0 (ZR.mk 0 0 0)))).Outcome.Verdict.Code ((getM zY x1).getD (ZT.mk 0 (Z1c.mk 0 (ZR.mk 0 0 0)))).Outcome.Verdict.Rule ((getM zY x1).getD (ZT.mk 0 (Z1c.mk 0 (ZR.mk 0 0 0)))).Outcome.Verdict.At)), (getM zY x1).isSome)
theorem ZhY x1 (z14 : List ZE) z29 zY z1O (z3V : ZW z1O = true) : Sim (Z7S z14 z29 zY z1O) (Z4Y x1 zY) (EE 34 [(.ptr 0 0), (iv x1)] [[(ZP z1O (z14.map ZU)), (.mp 1), (iv z29)], (rM_ ZK zY)]) := by
 unfold Z4Y
 refine zf (ZMb ..)<|ze<|zz (.ptr 2 0) [[(ZP z1O (z14.map ZU)), (.mp 1), (iv z29)], (rM_ ZK zY), (ZF Z3y)]<|ze<|zq<|zq<|zq<|zp (.p (.tup [(.agg (Za1 ((getM zY x1).getD (ZT.mk 0 Z3y)))), (.v (.bool (getM zY x1).isSome))])) (Eq.trans (b := ZbZ PP 122 true (.mp 1) (iv x1) [[(ZP z1O (z14.map ZU)), (.mp 1), (iv z29)], (rM_ ZK zY), (ZF Z3y)]) (by kernel_rfl) <| (Zma (e := ZK) (z := (ZT.mk 0 Z3y)) (es := zY) (te := 126) (by kernel_rfl) (by kernel_rfl) (by kernel_rfl) true).trans (by kernel_rfl))<|zq<|zq<|zz (.ptr 3 0) [[(ZP z1O (z14.map ZU)), (.mp 1), (iv z29)], (rM_ ZK zY), (ZF Z3y), (Za2 (ZT.mk 0 Z3y))]<|zt [[(ZP z1O (z14.map ZU)), (.mp 1), (iv z29)], (rM_ ZK zY), (ZF Z3y), (Za2 ((getM zY x1).getD (ZT.mk 0 Z3y)))]<|ze<|zq<|zq<|zq<|zq<|zq<|zq<|zq<|zq<|zq<|zt [[(ZP z1O (z14.map ZU)), (.mp 1), (iv z29)], (rM_ ZK zY), (Zy6 ((getM zY x1).getD (ZT.mk 0 Z3y)).Outcome.Version ((getM zY x1).getD (ZT.mk 0 Z3y)).Outcome.Verdict.Code ((getM zY x1).getD (ZT.mk 0 Z3y)).Outcome.Verdict.Rule ((getM zY x1).getD (ZT.mk 0 Z3y)).Outcome.Verdict.At), (Za2 ((getM zY x1).getD (ZT.mk 0 Z3y)))] ?_
 exact zr ((.p (.tup [(.v (.int .i64 ((getM zY x1).getD (ZT.mk 0 Z3y)).request)), (.agg (Z1q (Z1c.mk ((getM zY x1).getD (ZT.mk 0 Z3y)).Outcome.Version (ZR.mk ((getM zY x1).getD (ZT.mk 0 Z3y)).Outcome.Verdict.Code ((getM zY x1).getD (ZT.mk 0 Z3y)).Outcome.Verdict.Rule ((getM zY x1).getD (ZT.mk 0 Z3y)).Outcome.Verdict.At)))), (.v (.bool (getM zY x1).isSome))])), [[(ZP z1O (z14.map ZU)), (.mp 1), (iv z29)], (rM_ ZK zY), (Zy6 ((getM zY x1).getD (ZT.mk 0 Z3y)).Outcome.Version ((getM zY x1).getD (ZT.mk 0 Z3y)).Outcome.Verdict.Code ((getM zY x1).getD (ZT.mk 0 Z3y)).Outcome.Verdict.Rule ((getM zY x1).getD (ZT.mk 0 Z3y)).Outcome.Verdict.At), (Za2 ((getM zY x1).getD (ZT.mk 0 Z3y)))]) ⟨_, rfl⟩
theorem Ziy x1 zY {r} (h : Z4Y x1 zY = some r) : Z5U x1 zY = some r :=
 Z1g (fun _ _ ha hb => ru_ (ZiV _ _ _ _) (ha default default .ex rfl) (hb default default .ex rfl)) (fun z14 z29 z1O z3V => ZhY x1 z14 z29 zY z1O z3V r h)
end Go.Proofs.YteoeggbihfnbfaaGreatDoor.N2
end
