/- More of the functions' typed texts. No condition. -/
import Derived.Test.YteoeggbihfnbfaaGreatDoorTypA

set_option linter.unusedSimpArgs false
set_option linter.unusedVariables false
set_option linter.defProp false
noncomputable section
namespace Go.Proofs.YteoeggbihfnbfaaGreatDoor.N2
open Go Go.Abs
set_option maxRecDepth 100000
def Z6w (zl : List Int) (z2 z6 : Int) : Option (Int × Int × Int) :=
 some ((zl.length : Int), z2, z6)
theorem Zen zl zn z7 zd zh z2 z6 zp zb (zu : ZR zb = true) : Sim (Z9F zl z7 zd zh zp zb) (Z6w zl z2 z6) (ZwU 1 (.ptr 0 0) [(ZU zl zn z7 zd zh z2 z6 zp zb)]) := by
 unfold Z6w
 refine zf (ZJ6 ..)<|ze<|zq<|zq<|zq ?_
 refine zo (iv (zl.length : Int)) ?_ (et_ (Z2J (P := PP) (t := 141) (d := 5) (by kernel_rfl) (eI .u8) (shrO zp) zl))
 refine zq<|zq<|zt [(ZU zl (zl.length : Int) z7 zd zh z2 z6 zp zb)] ?_
 exact zr ((.p (.tup [])), [(ZU zl (zl.length : Int) z7 zd zh z2 z6 zp zb)]) ⟨_, rfl⟩
def Z9I (x1 x2 : Int) (zl : List Int) (z2 z6 : Int) : Option (Int × Int × Int) :=
 if (z2 == 0) = true then
 (Z6w zl x1 x2)
 else
 (Z6w zl z2 z6)
theorem ZnC x1 x2 zl zn z7 zd zh z2 z6 zp zb (zu : ZR zb = true) : Sim (Z9F zl z7 zd zh zp zb) (Z9I x1 x2 zl z2 z6) (EE 70 [(.ptr 0 0), (iv x1), (iv x2)] [(ZU zl zn z7 zd zh z2 z6 zp zb)]) := by
 unfold Z9I
 refine zf (ZP7 ..)<|ze<|zq<|zq<|zq<|zq<|zq ?_
 refine za (z2 == 0) ?_ ?_
 ·refine ze<|zq<|zq<|zq<|zt [(ZU zl zn z7 zd zh x1 x2 zp zb)] ?_
  exact zk (Zen zl zn z7 zd zh x1 x2 zp zb zu)
 ·exact zk (Zen zl zn z7 zd zh z2 z6 zp zb zu)
theorem Zh1 x1 x2 zl z2 z6 {r} (h : Z9I x1 x2 zl z2 z6 = some r) : Z1A x1 x2 zl z2 z6 = some r :=
 Z1c (fun _ _ ha hb => RRun.uniq (ZoO _ _ _ _ _ _) (ha default default default default .ex .ex rfl) (hb default default default default .ex .ex rfl)) (fun zn z7 zd zh zp zb zu => ZnC x1 x2 zl zn z7 zd zh z2 z6 zp zb zu r h)
def Z3E  : Option (Own × (List Zi)) :=
 some (.nl, ([] : List Zi))
theorem Z4c  : Sim (ZaN) (Z3E) (ZcP 0  []) := by
 unfold Z3E
 refine zf (ZDX ..)<|ze ?_
 exact zr ((ZK .nl []), []) ⟨_, rfl⟩
def Z53 (x0 : Int) : Option (Own × (List Zi)) :=
 if (x0 == 100) = true then
 (if (x0 == 100) = true then
 (some (.ex, ([(Zi.mk 48 57)] : List Zi)))
 else
 (if (x0 == 119) = true then
 (if (x0 == 119) = true then
 ((Z3b 95).bind fun r1 =>
 some (.ex, ([(Zi.mk 48 57), (Zi.mk 65 90), r1, (Zi.mk 97 122)] : List Zi)))
 else
 (if (x0 == 115) = true then
 (if (x0 == 115) = true then
 ((Z3b 32).bind fun r2 =>
 some (.ex, ([(Zi.mk 9 13), r2] : List Zi)))
 else
 (Z3E))
 else
 (if (x0 == 83) = true then
 ((Z3b 32).bind fun r3 =>
 some (.ex, ([(Zi.mk 9 13), r3] : List Zi)))
 else
 (Z3E))))
 else
 (if (x0 == 87) = true then
 ((Z3b 95).bind fun r4 =>
 some (.ex, ([(Zi.mk 48 57), (Zi.mk 65 90), r4, (Zi.mk 97 122)] : List Zi)))
 else
 (if (x0 == 115) = true then
 (if (x0 == 115) = true then
 ((Z3b 32).bind fun r5 =>
 some (.ex, ([(Zi.mk 9 13), r5] : List Zi)))
 else
 (Z3E))
 else
 (if (x0 == 83) = true then
 ((Z3b 32).bind fun r6 =>
 some (.ex, ([(Zi.mk 9 13), r6] : List Zi)))
 else
 (Z3E))))))
 else
 (if (x0 == 68) = true then
 (some (.ex, ([(Zi.mk 48 57)] : List Zi)))
 else
 (if (x0 == 119) = true then
 (if (x0 == 119) = true then
 ((Z3b 95).bind fun r7 =>
 some (.ex, ([(Zi.mk 48 57), (Zi.mk 65 90), r7, (Zi.mk 97 122)] : List Zi)))
 else
 (if (x0 == 115) = true then
 (if (x0 == 115) = true then
 ((Z3b 32).bind fun r8 =>
 some (.ex, ([(Zi.mk 9 13), r8] : List Zi)))
 else
 (Z3E))
 else
 (if (x0 == 83) = true then
 ((Z3b 32).bind fun r9 =>
 some (.ex, ([(Zi.mk 9 13), r9] : List Zi)))
 else
 (Z3E))))
 else
 (if (x0 == 87) = true then
 ((Z3b 95).bind fun r10 =>
 some (.ex, ([(Zi.mk 48 57), (Zi.mk 65 90), r10, (Zi.mk 97 122)] : List Zi)))
 else
 (if (x0 == 115) = true then
 (if (x0 == 115) = true then
 ((Z3b 32).bind fun r11 =>
 some (.ex, ([(Zi.mk 9 13), r11] : List Zi)))
 else
 (Z3E))
 else
 (if (x0 == 83) = true then
 ((Z3b 32).bind fun r12 =>
 some (.ex, ([(Zi.mk 9 13), r12] : List Zi)))
 else
 (Z3E))))))
theorem ZpA x0 : Sim (ZaN) (Z53 x0) (EE 149 [(iv x0)] []) := by
 unfold Z53
 refine zf (ZMv ..)<|ze<|ze<|ze<|zq ?_
 refine za (x0 == 100) ?_ ?_
 ·refine za (x0 == 100) ?_ ?_
  ·refine ze<|zq<|zq ?_
   exact zr ((ZK .ex (([(Zi.mk 48 57)] : List Zi).map Zy)), []) ⟨_, rfl⟩
  ·refine ze<|zq ?_
   refine za (x0 == 119) ?_ ?_
   ·refine za (x0 == 119) ?_ ?_
    ·refine ze<|zq<|zq<|zi fun r1 hr1 => ?_
     obtain ⟨_, er1, _, rfl⟩ := Z2W 95 r1 hr1
     refine zc [] (pA_ (Z18 r1)) [] er1<|zq<|zq ?_
     exact zr ((ZK .ex (([(Zi.mk 48 57), (Zi.mk 65 90), r1, (Zi.mk 97 122)] : List Zi).map Zy)), []) ⟨_, rfl⟩
    ·refine ze<|zq ?_
     refine za (x0 == 115) ?_ ?_
     ·refine za (x0 == 115) ?_ ?_
      ·refine ze<|zq<|zi fun r2 hr2 => ?_
       obtain ⟨_, er2, _, rfl⟩ := Z2W 32 r2 hr2
       refine zc [] (pA_ (Z18 r2)) [] er2<|zq ?_
       exact zr ((ZK .ex (([(Zi.mk 9 13), r2] : List Zi).map Zy)), []) ⟨_, rfl⟩
      ·exact zk (Z4c )
     ·refine ze<|zq ?_
      refine za (x0 == 83) ?_ ?_
      ·refine ze<|zq<|zi fun r3 hr3 => ?_
       obtain ⟨_, er3, _, rfl⟩ := Z2W 32 r3 hr3
       refine zc [] (pA_ (Z18 r3)) [] er3<|zq ?_
       exact zr ((ZK .ex (([(Zi.mk 9 13), r3] : List Zi).map Zy)), []) ⟨_, rfl⟩
      ·exact zk (Z4c )
   ·refine ze<|zq ?_
    refine za (x0 == 87) ?_ ?_
    ·refine ze<|zq<|zq<|zi fun r4 hr4 => ?_
     obtain ⟨_, er4, _, rfl⟩ := Z2W 95 r4 hr4
     refine zc [] (pA_ (Z18 r4)) [] er4<|zq<|zq ?_
     exact zr ((ZK .ex (([(Zi.mk 48 57), (Zi.mk 65 90), r4, (Zi.mk 97 122)] : List Zi).map Zy)), []) ⟨_, rfl⟩
    ·refine ze<|zq ?_
     refine za (x0 == 115) ?_ ?_
     ·refine za (x0 == 115) ?_ ?_
      ·refine ze<|zq<|zi fun r5 hr5 => ?_
       obtain ⟨_, er5, _, rfl⟩ := Z2W 32 r5 hr5
       refine zc [] (pA_ (Z18 r5)) [] er5<|zq ?_
       exact zr ((ZK .ex (([(Zi.mk 9 13), r5] : List Zi).map Zy)), []) ⟨_, rfl⟩
      ·exact zk (Z4c )
     ·refine ze<|zq ?_
      refine za (x0 == 83) ?_ ?_
      ·refine ze<|zq<|zi fun r6 hr6 => ?_
       obtain ⟨_, er6, _, rfl⟩ := Z2W 32 r6 hr6
       refine zc [] (pA_ (Z18 r6)) [] er6<|zq ?_
       exact zr ((ZK .ex (([(Zi.mk 9 13), r6] : List Zi).map Zy)), []) ⟨_, rfl⟩
      ·exact zk (Z4c )
 ·refine ze<|zq ?_
  refine za (x0 == 68) ?_ ?_
  ·refine ze<|zq<|zq ?_
   exact zr ((ZK .ex (([(Zi.mk 48 57)] : List Zi).map Zy)), []) ⟨_, rfl⟩
  ·refine ze<|zq ?_
   refine za (x0 == 119) ?_ ?_
   ·refine za (x0 == 119) ?_ ?_
    ·refine ze<|zq<|zq<|zi fun r7 hr7 => ?_
     obtain ⟨_, er7, _, rfl⟩ := Z2W 95 r7 hr7
     refine zc [] (pA_ (Z18 r7)) [] er7<|zq<|zq ?_
     exact zr ((ZK .ex (([(Zi.mk 48 57), (Zi.mk 65 90), r7, (Zi.mk 97 122)] : List Zi).map Zy)), []) ⟨_, rfl⟩
    ·refine ze<|zq ?_
     refine za (x0 == 115) ?_ ?_
     ·refine za (x0 == 115) ?_ ?_
      ·refine ze<|zq<|zi fun r8 hr8 => ?_
       obtain ⟨_, er8, _, rfl⟩ := Z2W 32 r8 hr8
       refine zc [] (pA_ (Z18 r8)) [] er8<|zq ?_
       exact zr ((ZK .ex (([(Zi.mk 9 13), r8] : List Zi).map Zy)), []) ⟨_, rfl⟩
      ·exact zk (Z4c )
     ·refine ze<|zq ?_
      refine za (x0 == 83) ?_ ?_
      ·refine ze<|zq<|zi fun r9 hr9 => ?_
       obtain ⟨_, er9, _, rfl⟩ := Z2W 32 r9 hr9
       refine zc [] (pA_ (Z18 r9)) [] er9<|zq ?_
       exact zr ((ZK .ex (([(Zi.mk 9 13), r9] : List Zi).map Zy)), []) ⟨_, rfl⟩
      ·exact zk (Z4c )
   ·refine ze<|zq ?_
    refine za (x0 == 87) ?_ ?_
    ·refine ze<|zq<|zq<|zi fun r10 hr10 => ?_
     obtain ⟨_, er10, _, rfl⟩ := Z2W 95 r10 hr10
     refine zc [] (pA_ (Z18 r10)) [] er10<|zq<|zq ?_
     exact zr ((ZK .ex (([(Zi.mk 48 57), (Zi.mk 65 90), r10, (Zi.mk 97 122)] : List Zi).map Zy)), []) ⟨_, rfl⟩
    ·refine ze<|zq ?_
     refine za (x0 == 115) ?_ ?_
     ·refine za (x0 == 115) ?_ ?_
      ·refine ze<|zq<|zi fun r11 hr11 => ?_
       obtain ⟨_, er11, _, rfl⟩ := Z2W 32 r11 hr11
       refine zc [] (pA_ (Z18 r11)) [] er11<|zq ?_
       exact zr ((ZK .ex (([(Zi.mk 9 13), r11] : List Zi).map Zy)), []) ⟨_, rfl⟩
      ·exact zk (Z4c )
     ·refine ze<|zq ?_
      refine za (x0 == 83) ?_ ?_
      ·refine ze<|zq<|zi fun r12 hr12 => ?_
       obtain ⟨_, er12, _, rfl⟩ := Z2W 32 r12 hr12
       refine zc [] (pA_ (Z18 r12)) [] er12<|zq ?_
       exact zr ((ZK .ex (([(Zi.mk 9 13), r12] : List Zi).map Zy)), []) ⟨_, rfl⟩
      ·exact zk (Z4c )
theorem ZqF x0 {r} (h : Z53 x0 = some r) : Z9r x0 = some r :=
 Z1c (fun _ _ ha hb => RRun.uniq ZrU (ha ) (hb )) (ZpA x0 r h)
def Z3Q (x2 : Int) (zl : List Int) (z2 z6 : Int) : Option (Int × Int × Int × Int) :=
 (Z1A 21 x2 zl z2 z6).bind fun r1 =>
 some (0, r1.1, r1.2.1, r1.2.2)
theorem Z5X x2 zl zn z7 zd zh z2 z6 zp zb (zu : ZR zb = true) : Sim (Z7x zl z7 zd zh zp zb) (Z3Q x2 zl z2 z6) (ZhO 1 (.ptr 0 0) (iv x2) [(ZU zl zn z7 zd zh z2 z6 zp zb)]) := by
 unfold Z3Q
 refine zf (ZDZ ..)<|ze<|zi fun r1 hr1 => ?_
 obtain ⟨_, er1, _, rfl⟩ := Z1G 21 x2 zl zn z7 zd zh z2 z6 zp zb zu r1 hr1
 refine zc [0] (.p (.tup [])) [(ZU zl r1.1 z7 zd zh r1.2.1 r1.2.2 zp zb)] er1<|ze ?_
 exact zr ((iv 0), [(ZU zl r1.1 z7 zd zh r1.2.1 r1.2.2 zp zb)]) ⟨_, rfl⟩
def Zbs (x1 zn z2 z6 : Int) : Option (Int × Int × Int × Int) :=
 some (x1, zn, z2, z6)
theorem Zko x1 zl zn z7 zd zh z2 z6 zp zb (zu : ZR zb = true) : Sim (Z7x zl z7 zd zh zp zb) (Zbs x1 zn z2 z6) (Zvk 1 (iv x1) [(ZU zl zn z7 zd zh z2 z6 zp zb)]) := by
 unfold Zbs
 refine zf (ZDY ..)<|ze ?_
 exact zr ((iv x1), [(ZU zl zn z7 zd zh z2 z6 zp zb)]) ⟨_, rfl⟩
def Zb3 (x1 x2 : Int) (zl : List Int) (zn z7 zd : Int) (zh : List Zv) (z2 z6 : Int) : Option (Int × Int × Int × Int) :=
 if (x1 == 110) = true then
 (some (10, zn, z2, z6))
 else
 (if (x1 == 116) = true then
 (some (9, zn, z2, z6))
 else
 (if (x1 == 114) = true then
 (some (13, zn, z2, z6))
 else
 (if (x1 == 120) = true then
 ((Z3n (Z23.mk zl zn z7 zd zh (Z1n.mk z2 z6))).bind fun r1 =>
 (Zh0 r1).bind fun r2 =>
 if (decide (0 ≤ r2)) = true then
 ((Z49 zl zn).bind fun r3 =>
 (Z3n (Z23.mk zl r3.2 z7 zd zh (Z1n.mk z2 z6))).bind fun r4 =>
 (Zh0 r4).bind fun r5 =>
 if (decide (0 ≤ r5)) = true then
 ((Z49 zl r3.2).bind fun r6 =>
 some ((IntKind.i64.wrap ((IntKind.i64.wrap (16 * r2)) + r5)), r6.2, z2, z6))
 else
 (Z3Q x2 zl z2 z6))
 else
 (Z3Q x2 zl z2 z6))
 else
 (if (decide (32 < x1)) = true then
 (if (decide (x1 < 127)) = true then
 ((ZcD ([(Zi.mk 48 57), (Zi.mk 65 90), (Zi.mk 97 122)] : List Zi) x1).bind fun r7 =>
 if (!r7) = true then
 (Zbs x1 zn z2 z6)
 else
 (Z3Q x2 zl z2 z6))
 else
 (Z3Q x2 zl z2 z6))
 else
 (Z3Q x2 zl z2 z6)))))
theorem Zn1 x1 x2 zl zn z7 zd zh z2 z6 zp zb (zu : ZR zb = true) : Sim (Z7x zl z7 zd zh zp zb) (Zb3 x1 x2 zl zn z7 zd zh z2 z6) (EE 150 [(.ptr 0 0), (iv x1), (iv x2)] [(ZU zl zn z7 zd zh z2 z6 zp zb)]) := by
 unfold Zb3
 refine zf (ZMx ..)<|ze<|ze<|zq ?_
 refine za (x1 == 110) ?_ ?_
 ·refine ze ?_
  exact zr ((iv 10), [(ZU zl zn z7 zd zh z2 z6 zp zb)]) ⟨_, rfl⟩
 ·refine ze<|zq ?_
  refine za (x1 == 116) ?_ ?_
  ·refine ze ?_
   exact zr ((iv 9), [(ZU zl zn z7 zd zh z2 z6 zp zb)]) ⟨_, rfl⟩
  ·refine ze<|zq ?_
   refine za (x1 == 114) ?_ ?_
   ·refine ze ?_
    exact zr ((iv 13), [(ZU zl zn z7 zd zh z2 z6 zp zb)]) ⟨_, rfl⟩
   ·refine ze<|zq ?_
    refine za (x1 == 120) ?_ ?_
    ·refine ze<|zi fun r1 hr1 => ?_
     obtain ⟨_, er1, _, rfl⟩ := Z3w (Z23.mk zl zn z7 zd zh (Z1n.mk z2 z6)) zp zb zu r1 hr1
     refine zc [0] (iv r1) [(ZU zl zn z7 zd zh z2 z6 zp zb)] er1<|zi fun r2 hr2 => ?_
     obtain ⟨_, er2, _, rfl⟩ := Zpy r1 r2 hr2
     refine zc [] (iv r2) [(ZU zl zn z7 zd zh z2 z6 zp zb)] er2<|ze<|zq ?_
     refine za (decide (0 ≤ r2)) ?_ ?_
     ·refine ze<|zi fun r3 hr3 => ?_
      obtain ⟨_, er3, _, rfl⟩ := Z4J zl zn z7 zd zh z2 z6 zp zb zu r3 hr3
      refine zc [0] (iv r3.1) [(ZU zl r3.2 z7 zd zh z2 z6 zp zb)] er3<|ze<|zi fun r4 hr4 => ?_
      obtain ⟨_, er4, _, rfl⟩ := Z3w (Z23.mk zl r3.2 z7 zd zh (Z1n.mk z2 z6)) zp zb zu r4 hr4
      refine zc [0] (iv r4) [(ZU zl r3.2 z7 zd zh z2 z6 zp zb)] er4<|zi fun r5 hr5 => ?_
      obtain ⟨_, er5, _, rfl⟩ := Zpy r4 r5 hr5
      refine zc [] (iv r5) [(ZU zl r3.2 z7 zd zh z2 z6 zp zb)] er5<|ze<|zq ?_
      refine za (decide (0 ≤ r5)) ?_ ?_
      ·refine ze<|zi fun r6 hr6 => ?_
       obtain ⟨_, er6, _, rfl⟩ := Z4J zl r3.2 z7 zd zh z2 z6 zp zb zu r6 hr6
       refine zc [0] (iv r6.1) [(ZU zl r6.2 z7 zd zh z2 z6 zp zb)] er6<|ze<|zq<|zq ?_
       exact zr ((iv (IntKind.i64.wrap ((IntKind.i64.wrap (16 * r2)) + r5))), [(ZU zl r6.2 z7 zd zh z2 z6 zp zb)]) ⟨_, rfl⟩
      ·exact zk (Z5X x2 zl r3.2 z7 zd zh z2 z6 zp zb zu)
     ·exact zk (Z5X x2 zl zn z7 zd zh z2 z6 zp zb zu)
    ·refine ze<|zq ?_
     refine za (decide (32 < x1)) ?_ ?_
     ·refine zq ?_
      refine za (decide (x1 < 127)) ?_ ?_
      ·refine zq<|zq<|zq<|zq<|zi fun r7 hr7 => ?_
       obtain ⟨_, er7, _, rfl⟩ := ZsV ([(Zi.mk 48 57), (Zi.mk 65 90), (Zi.mk 97 122)] : List Zi) x1 .sh r7 hr7
       refine zc [] (bv r7) [(ZU zl zn z7 zd zh z2 z6 zp zb)] er7<|zq ?_
       refine za (!r7) ?_ ?_
       ·exact zk (Zko x1 zl zn z7 zd zh z2 z6 zp zb zu)
       ·exact zk (Z5X x2 zl zn z7 zd zh z2 z6 zp zb zu)
      ·exact zk (Z5X x2 zl zn z7 zd zh z2 z6 zp zb zu)
     ·exact zk (Z5X x2 zl zn z7 zd zh z2 z6 zp zb zu)
theorem ZnF x1 x2 zl zn z7 zd zh z2 z6 {r} (h : Zb3 x1 x2 zl zn z7 zd zh z2 z6 = some r) : Z9j x1 x2 zl zn z7 zd zh z2 z6 = some r :=
 Z1c (fun _ _ ha hb => RRun.uniq (Zoc _ _ _ _ _ _) (ha .ex .ex rfl) (hb .ex .ex rfl)) (fun zp zb zu => Zn1 x1 x2 zl zn z7 zd zh z2 z6 zp zb zu r h)
def ZfH (x0 : Int) : Option (Int) :=
 some (IntKind.i64.wrap (x0 - 48))
theorem Zt0 x0 : Sim (ZM) (ZfH x0) (Zz5 0 (iv x0) []) := by
 unfold ZfH
 refine zf (ZGh ..)<|ze<|zq ?_
 exact zr ((iv (IntKind.i64.wrap (x0 - 48))), []) ⟨_, rfl⟩
def ZfI (x0 : Int) : Option (Int) :=
 some (IntKind.i64.wrap ((IntKind.i64.wrap (x0 - 97)) + 10))
theorem Zt1 x0 : Sim (ZM) (ZfI x0) (Zz6 0 (iv x0) []) := by
 unfold ZfI
 refine zf (ZGj ..)<|ze<|zq<|zq ?_
 exact zr ((iv (IntKind.i64.wrap ((IntKind.i64.wrap (x0 - 97)) + 10))), []) ⟨_, rfl⟩
def Zdo  : Option (Int) :=
 some (-1)
theorem Zl6  : Sim (ZM) (Zdo) (Zuc 0  []) := by
 unfold Zdo
 refine zf (ZGk ..)<|ze ?_
 exact zr ((iv (-1)), []) ⟨_, rfl⟩
def Zdn (x0 : Int) : Option (Int) :=
 if (decide (97 ≤ x0)) = true then
 (if (decide (x0 ≤ 102)) = true then
 (ZfI x0)
 else
 (Zdo))
 else
 (Zdo)
theorem Zl5 x0 : Sim (ZM) (Zdn x0) (Zub 0 (iv x0) []) := by
 unfold Zdn
 refine zf (ZGi ..)<|ze<|zq ?_
 refine za (decide (97 ≤ x0)) ?_ ?_
 ·refine zq ?_
  refine za (decide (x0 ≤ 102)) ?_ ?_
  ·exact zk (Zt1 x0)
  ·exact zk (Zl6 )
 ·exact zk (Zl6 )
def ZkH (x0 : Int) : Option (Int) :=
 if (decide (48 ≤ x0)) = true then
 (if (decide (x0 ≤ 57)) = true then
 (ZfH x0)
 else
 (Zdn x0))
 else
 (Zdn x0)
theorem Zx8 x0 : Sim (ZM) (ZkH x0) (EE 172 [(iv x0)] []) := by
 unfold ZkH
 refine zf (ZMV ..)<|ze<|ze<|zq ?_
 refine za (decide (48 ≤ x0)) ?_ ?_
 ·refine zq ?_
  refine za (decide (x0 ≤ 57)) ?_ ?_
  ·exact zk (Zt0 x0)
  ·exact zk (Zl5 x0)
 ·exact zk (Zl5 x0)
theorem ZzN x0 {r} (h : ZkH x0 = some r) : Zh0 x0 = some r :=
 Z1c (fun _ _ ha hb => RRun.uniq Z2e (ha ) (hb )) (Zx8 x0 r h)
def ZeE (x0 : List Zi) (x1 : Int) : Option (Bool) :=
 (Z6u x0 x1).bind fun r1 =>
 some (r1)
theorem Zs0 (x0 : List Zi) x1 ox0 : Sim (ZW) (ZeE x0 x1) (EE 173 [(ZK ox0 (x0.map Zy)), (iv x1)] []) := by
 unfold ZeE
 refine zf (ZMX ..)<|ze<|zx (.ptr 0 0) [[(iv x1)]]<|ze<|zi fun r1 hr1 => ?_
 obtain ⟨_, er1, _, rfl⟩ := Zgp x0 x1 .sh r1 hr1
 refine zc [0] (bv r1) [[(iv x1)]] er1 ?_
 exact zr ((bv r1), [[(iv x1)]]) ⟨_, rfl⟩
theorem ZsU x0 x1 {r} (h : ZeE x0 x1 = some r) : ZcD x0 x1 = some r :=
 Z1c (fun _ _ ha hb => RRun.uniq Z2d (ha .ex) (hb .ex)) (fun ox0 => Zs0 x0 x1 ox0 r h)
def Z6p (x0 : List Zi) (zQ : Int) : Option (Bool) :=
 (Z7I x0 zQ).bind fun r1 =>
 some (decide (0 ≤ r1))
theorem ZfV (x0 : List Zi) zQ ox0 : Sim (Z9n zQ) (Z6p x0 zQ) (EE 184 [(ZK ox0 (x0.map Zy)), (.clo 185 [] [(.ptr 0 0)])] [[(iv zQ)]]) := by
 unfold Z6p
 refine zf (ZN0 ..)<|ze<|ze<|zi fun r1 hr1 => ?_
 obtain ⟨_, er1, _, rfl⟩ := ZiK x0 zQ .sh r1 hr1
 refine zc [0] (iv r1) [[(iv zQ)]] er1<|zq ?_
 exact zr ((bv (decide (0 ≤ r1))), [[(iv zQ)]]) ⟨_, rfl⟩
theorem Zgo x0 zQ {r} (h : Z6p x0 zQ = some r) : Z6u x0 zQ = some r :=
 Z1c (fun _ _ ha hb => RRun.uniq (ZjN _) (ha .ex) (hb .ex)) (fun ox0 => ZfV x0 zQ ox0 r h)
def Z7B (x0 : List Zi) (zQ : Int) : Option (Int) :=
 Z57 x0 (x0.length : Int) 0 zQ
theorem Zi2 (x0 : List Zi) zQ ox0 : Sim (Z3o zQ) (Z7B x0 zQ) (EE 191 [(ZK ox0 (x0.map Zy)), (.clo 185 [] [(.ptr 0 0)])] [[(iv zQ)]]) := by
 unfold Z7B
 refine zf (ZN2 ..)<|ze<|ze ?_
 refine zo (iv (x0.length : Int)) ?_ (et_ (Z2J (P := PP) (t := 95) (d := 201) (by kernel_rfl) Zy (shrO ox0) x0))
 exact zk (ZaV x0 (x0.length : Int) 0 zQ ox0)
theorem ZiJ x0 zQ {r} (h : Z7B x0 zQ = some r) : Z7I x0 zQ = some r :=
 Z1c (fun _ _ ha hb => RRun.uniq (Zcn _) (ha .ex) (hb .ex)) (fun ox0 => Zi2 x0 zQ ox0 r h)
def Z6r (x0 : List Zi) (x7 x8 zQ : Int) : Option (Int) :=
 Z57 x0 x7 (IntKind.i64.wrap (x8 + 1)) zQ
theorem ZfZ (x0 : List Zi) x7 x8 zQ ox0 : Sim (Z3o zQ) (Z6r x0 x7 x8 zQ) (Zzh 1 (ZK ox0 (x0.map Zy)) (.clo 185 [] [(.ptr 0 0)]) (iv x7) (iv x8) [[(iv zQ)]]) := by
 unfold Z6r
 refine zf (ZGr ..)<|ze<|zq ?_
 exact zk (ZaV x0 x7 (IntKind.i64.wrap (x8 + 1)) zQ ox0)
def Z55 (x0 : List Zi) (x7 x8 zQ : Int) : Option (Int) :=
 (lget x0 x8).bind fun a1 =>
 (Zdf a1 zQ).bind fun r2 =>
 if (r2) = true then
 (some (x8))
 else
 (Z6r x0 x7 x8 zQ)
theorem ZfY (x0 : List Zi) x7 x8 zQ ox0 : Sim (Z3o zQ) (Z55 x0 x7 x8 zQ) (Zzg 1 (ZK ox0 (x0.map Zy)) (.clo 185 [] [(.ptr 0 0)]) (iv x7) (iv x8) [[(iv zQ)]]) := by
 unfold Z55
 refine zf (ZGq ..)<|ze<|ze<|zi fun a1 ha1 => ?_
 refine zo (.cptr (Z18 a1)) ?_ (et_ (Z3G (o := (shrO ox0)) (k := .i64) (n := 2) (e := Zy) (cs := Z9W) (fun _ => rfl) (fun _ => rfl) (by decide) ha1))
 refine zq<|zi fun r2 hr2 => ?_
 obtain ⟨_, er2, _, rfl⟩ := ZqB a1 zQ r2 hr2
 refine zv [0] (bv r2) [[(iv zQ)]] er2 ?_
 refine za r2 ?_ ?_
 ·refine ze ?_
  exact zr ((iv x8), [[(iv zQ)]]) ⟨_, rfl⟩
 ·exact zk (ZfZ x0 x7 x8 zQ ox0)
def Z8Y  : Option (Int) :=
 some (-1)
theorem Zg0 zQ : Sim (Z3o zQ) (Z8Y) (Zzi 1  [[(iv zQ)]]) := by
 unfold Z8Y
 refine zf (ZGs ..)<|ze ?_
 exact zr ((iv (-1)), [[(iv zQ)]]) ⟨_, rfl⟩
def Z4l (x0 : List Zi) (x7 x8 zQ : Int) : Option (Int) :=
 if (decide (x8 < x7)) = true then
 (Z55 x0 x7 x8 zQ)
 else
 (Z8Y)
theorem ZfX (x0 : List Zi) x7 x8 zQ ox0 : Sim (Z3o zQ) (Z4l x0 x7 x8 zQ) (Zpb 1 (ZK ox0 (x0.map Zy)) (.clo 185 [] [(.ptr 0 0)]) (iv x7) (iv x8) [[(iv zQ)]]) := by
 unfold Z4l
 refine zf (ZGp ..)<|ze<|zq ?_
 refine za (decide (x8 < x7)) ?_ ?_
 ·exact zk (ZfY x0 x7 x8 zQ ox0)
 ·exact zk (Zg0 zQ)
theorem Z7S x0 x7 x8 zQ {r} (h : Z4l x0 x7 x8 zQ = some r) : Z57 x0 x7 x8 zQ = some r :=
 Z1c (fun _ _ ha hb => RRun.uniq (Zcn _) (ha .ex) (hb .ex)) (fun ox0 => ZfX x0 x7 x8 zQ ox0 r h)
def Zd5 (x0 : Zi) (zQ : Int) : Option (Bool) :=
 if (decide (x0.Lo ≤ zQ)) = true then
 (some (decide (zQ ≤ x0.Hi)))
 else
 (some (false))
theorem Zpp x0 zQ : Sim (Z9n zQ) (Zd5 x0 zQ) (EE 185 [(pA_ (Z18 x0)), (.ptr 0 0)] [[(iv zQ)]]) := by
 unfold Zd5
 refine zf (ZN1 ..)<|ze<|zx (.ptr 1 0) [[(iv zQ)], (Z3e x0)]<|ze<|zq<|zq<|zq<|zq ?_
 refine za (decide (x0.Lo ≤ zQ)) ?_ ?_
 ·refine zq<|zq<|zq<|zq ?_
  exact zr ((bv (decide (zQ ≤ x0.Hi))), [[(iv zQ)], (Z3e x0)]) ⟨_, rfl⟩
 ·exact zr ((bv false), [[(iv zQ)], (Z3e x0)]) ⟨_, rfl⟩
theorem ZqA x0 zQ {r} (h : Zd5 x0 zQ = some r) : Zdf x0 zQ = some r :=
 Z1c (fun _ _ ha hb => RRun.uniq (ZjN _) (ha ) (hb )) (Zpp x0 zQ r h)
def Z91 (x1 : Int) (zl : List Int) (zn z7 zd : Int) (zh : List Zv) (z2 z6 : Int) : Option (Zj × Int × Int × Int) :=
 (Z2h (ByteArray.mk #[94]) zl zn).bind fun r1 =>
 Z5a x1 r1.1 0 zl r1.2 z7 zd zh z2 z6 ([] : List Zi)
theorem ZmV x1 zl zn z7 zd zh z2 z6 zp zb (zu : ZR zb = true) : Sim (Z2g zl z7 zd zh zp zb) (Z91 x1 zl zn z7 zd zh z2 z6) (EE 131 [(.ptr 0 0), (iv x1)] [(ZU zl zn z7 zd zh z2 z6 zp zb)]) := by
 unfold Z91
 refine zf (ZMf ..)<|ze<|zz (.ptr 1 0) [(ZU zl zn z7 zd zh z2 z6 zp zb), (Zq Z2c .nl .nl)]<|ze<|zi fun r1 hr1 => ?_
 obtain ⟨_, er1, _, rfl⟩ := Z2q (ByteArray.mk #[94]) zl zn z7 zd zh z2 z6 zp zb zu r1 hr1
 refine zc [0] (bv r1.1) [(ZU zl r1.2 z7 zd zh z2 z6 zp zb), (Zq Z2c .nl .nl)] er1<|ze<|zz (.ptr 2 0) [(ZU zl r1.2 z7 zd zh z2 z6 zp zb), (Zq Z2c .nl .nl), [(ZK .nl [])]]<|ze<|ze ?_
 exact zk (Zem x1 r1.1 0 zl r1.2 z7 zd zh z2 z6 Z2c ([] : List Zi) zp zb .nl .nl .nl zu rfl rfl)
theorem ZnA x1 zl zn z7 zd zh z2 z6 {r} (h : Z91 x1 zl zn z7 zd zh z2 z6 = some r) : Zb9 x1 zl zn z7 zd zh z2 z6 = some r :=
 Z1c (fun _ _ ha hb => RRun.uniq (ZcL _ _ _ _ _ _) (ha .ex .ex rfl) (hb .ex .ex rfl)) (fun zp zb zu => ZmV x1 zl zn z7 zd zh z2 z6 zp zb zu r h)
def Z2s (x1 : Int) (x5 : Bool) (x8 : Int) (zl : List Int) (zn z7 zd : Int) (zh : List Zv) (z2 z6 : Int) (z11 : List Zi) : Option (Zj × Int × Int × Int) :=
 Z5a x1 x5 (IntKind.i64.wrap (x8 + 1)) zl zn z7 zd zh z2 z6 z11
theorem Z3s x1 x5 x8 zl zn z7 zd zh z2 z6 b1 (z11 : List Zi) zp zb zN zG z2w (zu : ZR zb = true) (z1t : ZR zN = true) (z1h : ZR zG = true) : Sim (Z2g zl z7 zd zh zp zb) (Z2s x1 x5 x8 zl zn z7 zd zh z2 z6 z11) (Zdr 1 (.ptr 0 0) (iv x1) (.ptr 1 0) (bv x5) (.ptr 2 0) (.clo 151 [] [(.ptr 2 0)]) (iv x8) [(ZU zl zn z7 zd zh z2 z6 zp zb), (Zq b1 zN zG), [(ZK z2w (z11.map Zy))]]) := by
 unfold Z2s
 refine zf (ZFK ..)<|ze<|zq ?_
 exact zk (Zem x1 x5 (IntKind.i64.wrap (x8 + 1)) zl zn z7 zd zh z2 z6 b1 z11 zp zb zN zG z2w zu z1t z1h)
def Z7n (zn z2 z6 : Int) (z11 : List Zi) : Option (Zj × Int × Int × Int) :=
 some ((Zj.mk 1 0 0 0 0 z11 ([] : List Zj)), zn, z2, z6)
theorem Zdw zl zn z7 zd zh z2 z6 b1 (z11 : List Zi) zp zb zN zG z2w (zu : ZR zb = true) (z1t : ZR zN = true) (z1h : ZR zG = true) : Sim (Z2g zl z7 zd zh zp zb) (Z7n zn z2 z6 z11) (Zqr 1 (.ptr 1 0) (.ptr 2 0) [(ZU zl zn z7 zd zh z2 z6 zp zb), (Zq b1 zN zG), [(ZK z2w (z11.map Zy))]]) := by
 unfold Z7n
 refine zf (ZDJ ..)<|ze<|zq<|zq<|zt [(ZU zl zn z7 zd zh z2 z6 zp zb), (Z3t 1 0 0 0 0 z11 ([] : List Zj) (shrO (shrO z2w)) .nl), [(ZK z2w (z11.map Zy))]] ?_
 exact zr ((pA_ (ZO (Zj.mk 1 0 0 0 0 z11 ([] : List Zj)) .sh .sh)), [(ZU zl zn z7 zd zh z2 z6 zp zb), (Z3t 1 0 0 0 0 z11 ([] : List Zj) (shrO (shrO z2w)) .nl), [(ZK z2w (z11.map Zy))]]) ⟨_, rfl⟩
def Z92 (x5 : Bool) (zl : List Int) (zn z2 z6 : Int) (z11 : List Zi) : Option (Zj × Int × Int × Int) :=
 (Z49 zl zn).bind fun r1 =>
 if (x5) = true then
 ((ZcE z11).bind fun r2 =>
 Z7n r1.2 z2 z6 r2.1)
 else
 (Z7n r1.2 z2 z6 z11)
theorem Zkb x5 zl zn z7 zd zh z2 z6 b1 (z11 : List Zi) zp zb zN zG z2w (zu : ZR zb = true) (z1t : ZR zN = true) (z1h : ZR zG = true) : Sim (Z2g zl z7 zd zh zp zb) (Z92 x5 zl zn z2 z6 z11) (Zve 1 (.ptr 0 0) (.ptr 1 0) (bv x5) (.ptr 2 0) [(ZU zl zn z7 zd zh z2 z6 zp zb), (Zq b1 zN zG), [(ZK z2w (z11.map Zy))]]) := by
 unfold Z92
 refine zf (ZDI ..)<|ze<|zi fun r1 hr1 => ?_
 obtain ⟨_, er1, _, rfl⟩ := Z4J zl zn z7 zd zh z2 z6 zp zb zu r1 hr1
 refine zc [0] (iv r1.1) [(ZU zl r1.2 z7 zd zh z2 z6 zp zb), (Zq b1 zN zG), [(ZK z2w (z11.map Zy))]] er1<|ze ?_
 refine za x5 ?_ ?_
 ·refine ze<|zq<|zi fun r2 hr2 => ?_
  obtain ⟨_, er2, _, rfl⟩ := Zl3 z11 .sh r2 hr2
  refine zc [] (.p (.tup [(.lst .sh (r2.1.map Zy)), (.v (.int .i64 r2.2))])) [(ZU zl r1.2 z7 zd zh z2 z6 zp zb), (Zq b1 zN zG), [(ZK z2w (z11.map Zy))]] er2<|zq<|zq<|zt [(ZU zl r1.2 z7 zd zh z2 z6 zp zb), (Zq b1 zN zG), [(ZK .sh (r2.1.map Zy))]] ?_
  exact zk (Zdw zl r1.2 z7 zd zh z2 z6 b1 r2.1 zp zb zN zG .sh zu z1t z1h)
 ·exact zk (Zdw zl r1.2 z7 zd zh z2 z6 b1 z11 zp zb zN zG z2w zu z1t z1h)
def Z4X (x1 : Int) (x5 : Bool) (x8 x9 : Int) (zl : List Int) (z7 zd : Int) (zh : List Zv) (z2 z6 : Int) (z11 : List Zi) : Option (Zj × Int × Int × Int) :=
 (Z1A 22 x9 zl z2 z6).bind fun r1 =>
 Z2s x1 x5 x8 zl r1.1 z7 zd zh r1.2.1 r1.2.2 z11
theorem Z7F x1 x5 x8 x9 zl zn z7 zd zh z2 z6 b1 (z11 : List Zi) zp zb zN zG z2w (zu : ZR zb = true) (z1t : ZR zN = true) (z1h : ZR zG = true) : Sim (Z2g zl z7 zd zh zp zb) (Z4X x1 x5 x8 x9 zl z7 zd zh z2 z6 z11) (Zk6 1 (.ptr 0 0) (iv x1) (.ptr 1 0) (bv x5) (.ptr 2 0) (.clo 151 [] [(.ptr 2 0)]) (iv x8) (iv x9) [(ZU zl zn z7 zd zh z2 z6 zp zb), (Zq b1 zN zG), [(ZK z2w (z11.map Zy))]]) := by
 unfold Z4X
 refine zf (ZDM ..)<|ze<|zi fun r1 hr1 => ?_
 obtain ⟨_, er1, _, rfl⟩ := Z1G 22 x9 zl zn z7 zd zh z2 z6 zp zb zu r1 hr1
 refine zc [0] (.p (.tup [])) [(ZU zl r1.1 z7 zd zh r1.2.1 r1.2.2 zp zb), (Zq b1 zN zG), [(ZK z2w (z11.map Zy))]] er1 ?_
 exact zk (Z3s x1 x5 x8 zl r1.1 z7 zd zh r1.2.1 r1.2.2 b1 z11 zp zb zN zG z2w zu z1t z1h)
def Z3h (x1 : Int) (x5 : Bool) (x8 x11 x15 : Int) (zl : List Int) (zn z7 zd : Int) (zh : List Zv) (z2 z6 : Int) (z11 : List Zi) : Option (Zj × Int × Int × Int) :=
 if (z2 == 0) = true then
 ((Z89 ([(Zi.mk x11 x15)] : List Zi) z11).bind fun r1 =>
 Z2s x1 x5 x8 zl zn z7 zd zh z2 z6 r1)
 else
 (Z2s x1 x5 x8 zl zn z7 zd zh z2 z6 z11)
theorem Z7G x1 x5 x8 x11 x15 zl zn z7 zd zh z2 z6 b1 (z11 : List Zi) zp zb zN zG z2w (zu : ZR zb = true) (z1t : ZR zN = true) (z1h : ZR zG = true) : Sim (Z2g zl z7 zd zh zp zb) (Z3h x1 x5 x8 x11 x15 zl zn z7 zd zh z2 z6 z11) (Zk7 1 (.ptr 0 0) (iv x1) (.ptr 1 0) (bv x5) (.ptr 2 0) (.clo 151 [] [(.ptr 2 0)]) (iv x8) (iv x11) (iv x15) [(ZU zl zn z7 zd zh z2 z6 zp zb), (Zq b1 zN zG), [(ZK z2w (z11.map Zy))]]) := by
 unfold Z3h
 refine zf (ZDP ..)<|ze<|zq<|zq<|zq<|zq<|zq ?_
 refine za (z2 == 0) ?_ ?_
 ·refine ze<|zq<|zq<|zi fun r1 hr1 => ?_
  obtain ⟨_, er1, z8Q, _, rfl⟩ := ZeP ([(Zi.mk x11 x15)] : List Zi) z11 .sh z2w r1 hr1
  refine zv [2] (.p (.tup [])) [(ZU zl zn z7 zd zh z2 z6 zp zb), (Zq b1 zN zG), [(ZK z8Q (r1.map Zy))]] er1 ?_
  exact zk (Z3s x1 x5 x8 zl zn z7 zd zh z2 z6 b1 r1 zp zb zN zG z8Q zu z1t z1h)
 ·exact zk (Z3s x1 x5 x8 zl zn z7 zd zh z2 z6 b1 z11 zp zb zN zG z2w zu z1t z1h)
def Z5S (x1 : Int) (x5 : Bool) (x8 x9 x11 x15 : Int) (zl : List Int) (z7 zd : Int) (zh : List Zv) (z2 z6 : Int) (z11 : List Zi) : Option (Zj × Int × Int × Int) :=
 (Z1A 22 x9 zl z2 z6).bind fun r1 =>
 Z3h x1 x5 x8 x11 x15 zl r1.1 z7 zd zh r1.2.1 r1.2.2 z11
theorem Zdy x1 x5 x8 x9 x11 x15 zl zn z7 zd zh z2 z6 b1 (z11 : List Zi) zp zb zN zG z2w (zu : ZR zb = true) (z1t : ZR zN = true) (z1h : ZR zG = true) : Sim (Z2g zl z7 zd zh zp zb) (Z5S x1 x5 x8 x9 x11 x15 zl z7 zd zh z2 z6 z11) (Zqt 1 (.ptr 0 0) (iv x1) (.ptr 1 0) (bv x5) (.ptr 2 0) (.clo 151 [] [(.ptr 2 0)]) (iv x8) (iv x9) (iv x11) (iv x15) [(ZU zl zn z7 zd zh z2 z6 zp zb), (Zq b1 zN zG), [(ZK z2w (z11.map Zy))]]) := by
 unfold Z5S
 refine zf (ZDO ..)<|ze<|zi fun r1 hr1 => ?_
 obtain ⟨_, er1, _, rfl⟩ := Z1G 22 x9 zl zn z7 zd zh z2 z6 zp zb zu r1 hr1
 refine zc [0] (.p (.tup [])) [(ZU zl r1.1 z7 zd zh r1.2.1 r1.2.2 zp zb), (Zq b1 zN zG), [(ZK z2w (z11.map Zy))]] er1 ?_
 exact zk (Z7G x1 x5 x8 x11 x15 zl r1.1 z7 zd zh r1.2.1 r1.2.2 b1 z11 zp zb zN zG z2w zu z1t z1h)
def Z93 (x1 : Int) (x5 : Bool) (x8 x9 x11 : Int) (zl : List Int) (zn z7 zd : Int) (zh : List Zv) (z2 z6 : Int) (z11 : List Zi) : Option (Zj × Int × Int × Int) :=
 (Z77 zl zn z7 zd zh z2 z6).bind fun r1 =>
 if (r1.2.2.2.2.1 == 0) = true then
 ((nilO (shrO (shrO (shrO (shrO r1.2.1.1)))) r1.2.1.2).bind fun a2 =>
 if (!a2) = true then
 (Z5S x1 x5 x8 x9 x11 r1.1 zl z7 zd zh r1.2.2.2.2.1 r1.2.2.2.2.2 z11)
 else
 (if (decide (r1.1 < x11)) = true then
 (Z5S x1 x5 x8 x9 x11 r1.1 zl z7 zd zh r1.2.2.2.2.1 r1.2.2.2.2.2 z11)
 else
 (Z3h x1 x5 x8 x11 r1.1 zl r1.2.2.2.1 z7 zd zh r1.2.2.2.2.1 r1.2.2.2.2.2 z11)))
 else
 (Z3h x1 x5 x8 x11 r1.1 zl r1.2.2.2.1 z7 zd zh r1.2.2.2.2.1 r1.2.2.2.2.2 z11)
theorem Zkd x1 x5 x8 x9 x11 zl zn z7 zd zh z2 z6 b1 (z11 : List Zi) zp zb zN zG z2w (zu : ZR zb = true) (z1t : ZR zN = true) (z1h : ZR zG = true) : Sim (Z2g zl z7 zd zh zp zb) (Z93 x1 x5 x8 x9 x11 zl zn z7 zd zh z2 z6 z11) (Zvg 1 (.ptr 0 0) (iv x1) (.ptr 1 0) (bv x5) (.ptr 2 0) (.clo 151 [] [(.ptr 2 0)]) (iv x8) (iv x9) (iv x11) [(ZU zl zn z7 zd zh z2 z6 zp zb), (Zq b1 zN zG), [(ZK z2w (z11.map Zy))]]) := by
 unfold Z93
 refine zf (ZDN ..)<|ze<|zi fun r1 hr1 => ?_
 obtain ⟨_, er1, _, rfl⟩ := Zfg zl zn z7 zd zh z2 z6 zp zb zu r1 hr1
 refine zc [0] (.p (.tup [(.v (.int .i64 r1.1)), (.lst r1.2.1.1 (r1.2.1.2.map Zy)), (.v (.bool r1.2.2.1))])) [(ZU zl r1.2.2.2.1 z7 zd zh r1.2.2.2.2.1 r1.2.2.2.2.2 zp zb), (Zq b1 zN zG), [(ZK z2w (z11.map Zy))]] er1<|zq<|zq<|zq<|ze<|zq<|zq<|zq<|zq<|zq ?_
 refine za (r1.2.2.2.2.1 == 0) ?_ ?_
 ·refine zi fun a2 ha2 => ?_
  refine zo (bv (!a2)) ?_ (et_ (ZrQ (P := PP) (t := 94) (c := .slice none 0 0) (e := Zy) (by kernel_rfl) ha2))
  refine za (!a2) ?_ ?_
  ·exact zk (Zdy x1 x5 x8 x9 x11 r1.1 zl r1.2.2.2.1 z7 zd zh r1.2.2.2.2.1 r1.2.2.2.2.2 b1 z11 zp zb zN zG z2w zu z1t z1h)
  ·refine zq ?_
   refine za (decide (r1.1 < x11)) ?_ ?_
   ·exact zk (Zdy x1 x5 x8 x9 x11 r1.1 zl r1.2.2.2.1 z7 zd zh r1.2.2.2.2.1 r1.2.2.2.2.2 b1 z11 zp zb zN zG z2w zu z1t z1h)
   ·exact zk (Z7G x1 x5 x8 x11 r1.1 zl r1.2.2.2.1 z7 zd zh r1.2.2.2.2.1 r1.2.2.2.2.2 b1 z11 zp zb zN zG z2w zu z1t z1h)
 ·exact zk (Z7G x1 x5 x8 x11 r1.1 zl r1.2.2.2.1 z7 zd zh r1.2.2.2.2.1 r1.2.2.2.2.2 b1 z11 zp zb zN zG z2w zu z1t z1h)
def Z7p (x1 : Int) (x5 : Bool) (x8 x9 x11 : Int) (zl : List Int) (zn z7 zd : Int) (zh : List Zv) (z2 z6 : Int) (z11 : List Zi) : Option (Zj × Int × Int × Int) :=
 (Z2h (ByteArray.mk #[45]) zl zn).bind fun r1 =>
 if (r1.1) = true then
 ((Z3n (Z23.mk zl r1.2 z7 zd zh (Z1n.mk z2 z6))).bind fun r2 =>
 if (r2 == 93) = true then
 (Z4X x1 x5 x8 x9 zl z7 zd zh z2 z6 z11)
 else
 (if (r2 == 91) = true then
 (Z4X x1 x5 x8 x9 zl z7 zd zh z2 z6 z11)
 else
 (if (r2 == 45) = true then
 (Z4X x1 x5 x8 x9 zl z7 zd zh z2 z6 z11)
 else
 (if (decide (r2 < 0)) = true then
 (Z4X x1 x5 x8 x9 zl z7 zd zh z2 z6 z11)
 else
 (Z93 x1 x5 x8 x9 x11 zl r1.2 z7 zd zh z2 z6 z11)))))
 else
 (Z3h x1 x5 x8 x11 x11 zl r1.2 z7 zd zh z2 z6 z11)
theorem Zkc x1 x5 x8 x9 x11 zl zn z7 zd zh z2 z6 b1 (z11 : List Zi) zp zb zN zG z2w (zu : ZR zb = true) (z1t : ZR zN = true) (z1h : ZR zG = true) : Sim (Z2g zl z7 zd zh zp zb) (Z7p x1 x5 x8 x9 x11 zl zn z7 zd zh z2 z6 z11) (Zvf 1 (.ptr 0 0) (iv x1) (.ptr 1 0) (bv x5) (.ptr 2 0) (.clo 151 [] [(.ptr 2 0)]) (iv x8) (iv x9) (iv x11) [(ZU zl zn z7 zd zh z2 z6 zp zb), (Zq b1 zN zG), [(ZK z2w (z11.map Zy))]]) := by
 unfold Z7p
 refine zf (ZDL ..)<|ze<|ze<|zi fun r1 hr1 => ?_
 obtain ⟨_, er1, _, rfl⟩ := Z2q (ByteArray.mk #[45]) zl zn z7 zd zh z2 z6 zp zb zu r1 hr1
 refine zc [0] (bv r1.1) [(ZU zl r1.2 z7 zd zh z2 z6 zp zb), (Zq b1 zN zG), [(ZK z2w (z11.map Zy))]] er1 ?_
 refine za r1.1 ?_ ?_
 ·refine ze<|zi fun r2 hr2 => ?_
  obtain ⟨_, er2, _, rfl⟩ := Z3w (Z23.mk zl r1.2 z7 zd zh (Z1n.mk z2 z6)) zp zb zu r2 hr2
  refine zc [0] (iv r2) [(ZU zl r1.2 z7 zd zh z2 z6 zp zb), (Zq b1 zN zG), [(ZK z2w (z11.map Zy))]] er2<|ze<|zq ?_
  refine za (r2 == 93) ?_ ?_
  ·exact zk (Z7F x1 x5 x8 x9 zl r1.2 z7 zd zh z2 z6 b1 z11 zp zb zN zG z2w zu z1t z1h)
  ·refine zq ?_
   refine za (r2 == 91) ?_ ?_
   ·exact zk (Z7F x1 x5 x8 x9 zl r1.2 z7 zd zh z2 z6 b1 z11 zp zb zN zG z2w zu z1t z1h)
   ·refine zq ?_
    refine za (r2 == 45) ?_ ?_
    ·exact zk (Z7F x1 x5 x8 x9 zl r1.2 z7 zd zh z2 z6 b1 z11 zp zb zN zG z2w zu z1t z1h)
    ·refine zq ?_
     refine za (decide (r2 < 0)) ?_ ?_
     ·exact zk (Z7F x1 x5 x8 x9 zl r1.2 z7 zd zh z2 z6 b1 z11 zp zb zN zG z2w zu z1t z1h)
     ·exact zk (Zkd x1 x5 x8 x9 x11 zl r1.2 z7 zd zh z2 z6 b1 z11 zp zb zN zG z2w zu z1t z1h)
 ·exact zk (Z7G x1 x5 x8 x11 x11 zl r1.2 z7 zd zh z2 z6 b1 z11 zp zb zN zG z2w zu z1t z1h)
def Z7o (x1 : Int) (x5 : Bool) (x8 x9 : Int) (zl : List Int) (zn z7 zd : Int) (zh : List Zv) (z2 z6 : Int) (z11 : List Zi) : Option (Zj × Int × Int × Int) :=
 (Z77 zl zn z7 zd zh z2 z6).bind fun r1 =>
 (nilO (shrO (shrO (shrO (shrO r1.2.1.1)))) r1.2.1.2).bind fun a2 =>
 if (!a2) = true then
 ((Z54 r1.2.2.1 r1.2.1.2).bind fun r3 =>
 (Z89 r3.Set z11).bind fun r4 =>
 (Z3n (Z23.mk zl r1.2.2.2.1 z7 zd zh (Z1n.mk r1.2.2.2.2.1 r1.2.2.2.2.2))).bind fun r5 =>
 if (r5 == 45) = true then
 ((Z1A 22 r1.2.2.2.1 zl r1.2.2.2.2.1 r1.2.2.2.2.2).bind fun r6 =>
 Z2s x1 x5 x8 zl r6.1 z7 zd zh r6.2.1 r6.2.2 r4)
 else
 (Z2s x1 x5 x8 zl r1.2.2.2.1 z7 zd zh r1.2.2.2.2.1 r1.2.2.2.2.2 r4))
 else
 (Z7p x1 x5 x8 x9 r1.1 zl r1.2.2.2.1 z7 zd zh r1.2.2.2.2.1 r1.2.2.2.2.2 z11)
theorem Zdx x1 x5 x8 x9 zl zn z7 zd zh z2 z6 b1 (z11 : List Zi) zp zb zN zG z2w (zu : ZR zb = true) (z1t : ZR zN = true) (z1h : ZR zG = true) : Sim (Z2g zl z7 zd zh zp zb) (Z7o x1 x5 x8 x9 zl zn z7 zd zh z2 z6 z11) (Zqs 1 (.ptr 0 0) (iv x1) (.ptr 1 0) (bv x5) (.ptr 2 0) (.clo 151 [] [(.ptr 2 0)]) (iv x8) (iv x9) [(ZU zl zn z7 zd zh z2 z6 zp zb), (Zq b1 zN zG), [(ZK z2w (z11.map Zy))]]) := by
 unfold Z7o
 refine zf (ZDK ..)<|ze<|zi fun r1 hr1 => ?_
 obtain ⟨_, er1, _, rfl⟩ := Zfg zl zn z7 zd zh z2 z6 zp zb zu r1 hr1
 refine zc [0] (.p (.tup [(.v (.int .i64 r1.1)), (.lst r1.2.1.1 (r1.2.1.2.map Zy)), (.v (.bool r1.2.2.1))])) [(ZU zl r1.2.2.2.1 z7 zd zh r1.2.2.2.2.1 r1.2.2.2.2.2 zp zb), (Zq b1 zN zG), [(ZK z2w (z11.map Zy))]] er1<|zq<|zq<|zq<|ze<|zi fun a2 ha2 => ?_
 refine zo (bv (!a2)) ?_ (et_ (ZrQ (P := PP) (t := 94) (c := .slice none 0 0) (e := Zy) (by kernel_rfl) ha2))
 refine za (!a2) ?_ ?_
 ·refine ze<|zi fun r3 hr3 => ?_
  obtain ⟨_, er3, _, rfl⟩ := Z5i r1.2.2.1 r1.2.1.2 .sh r3 hr3
  refine zc [] (pA_ (ZO r3 .sh .sh)) [(ZU zl r1.2.2.2.1 z7 zd zh r1.2.2.2.2.1 r1.2.2.2.2.2 zp zb), (Zq b1 zN zG), [(ZK z2w (z11.map Zy))]] er3<|zz (.ptr 3 0) [(ZU zl r1.2.2.2.1 z7 zd zh r1.2.2.2.2.1 r1.2.2.2.2.2 zp zb), (Zq b1 zN zG), [(ZK z2w (z11.map Zy))], (Zq Z2c .nl .nl)]<|zt [(ZU zl r1.2.2.2.1 z7 zd zh r1.2.2.2.2.1 r1.2.2.2.2.2 zp zb), (Zq b1 zN zG), [(ZK z2w (z11.map Zy))], (Zq r3 .sh .sh)]<|ze<|zq<|zq<|zi fun r4 hr4 => ?_
  obtain ⟨_, er4, zq4, _, rfl⟩ := ZeP r3.Set z11 .sh z2w r4 hr4
  refine zv [2] (.p (.tup [])) [(ZU zl r1.2.2.2.1 z7 zd zh r1.2.2.2.2.1 r1.2.2.2.2.2 zp zb), (Zq b1 zN zG), [(ZK zq4 (r4.map Zy))], (Zq r3 .sh .sh)] er4<|ze<|zi fun r5 hr5 => ?_
  obtain ⟨_, er5, _, rfl⟩ := Z3w (Z23.mk zl r1.2.2.2.1 z7 zd zh (Z1n.mk r1.2.2.2.2.1 r1.2.2.2.2.2)) zp zb zu r5 hr5
  refine zc [0] (iv r5) [(ZU zl r1.2.2.2.1 z7 zd zh r1.2.2.2.2.1 r1.2.2.2.2.2 zp zb), (Zq b1 zN zG), [(ZK zq4 (r4.map Zy))], (Zq r3 .sh .sh)] er5<|zq ?_
  refine za (r5 == 45) ?_ ?_
  ·refine ze<|zq<|zq<|zq<|zi fun r6 hr6 => ?_
   obtain ⟨_, er6, _, rfl⟩ := Z1G 22 r1.2.2.2.1 zl r1.2.2.2.1 z7 zd zh r1.2.2.2.2.1 r1.2.2.2.2.2 zp zb zu r6 hr6
   refine zc [0] (.p (.tup [])) [(ZU zl r6.1 z7 zd zh r6.2.1 r6.2.2 zp zb), (Zq b1 zN zG), [(ZK zq4 (r4.map Zy))], (Zq r3 .sh .sh)] er6 ?_
   exact zk (Z3s x1 x5 x8 zl r6.1 z7 zd zh r6.2.1 r6.2.2 b1 r4 zp zb zN zG zq4 zu z1t z1h)
  ·exact zk (Z3s x1 x5 x8 zl r1.2.2.2.1 z7 zd zh r1.2.2.2.2.1 r1.2.2.2.2.2 b1 r4 zp zb zN zG zq4 zu z1t z1h)
 ·exact zk (Zkc x1 x5 x8 x9 r1.1 zl r1.2.2.2.1 z7 zd zh r1.2.2.2.2.1 r1.2.2.2.2.2 b1 z11 zp zb zN zG z2w zu z1t z1h)
def Z68 (x1 : Int) (x5 : Bool) (x8 : Int) (zl : List Int) (zn z7 zd : Int) (zh : List Zv) (z2 z6 : Int) (z11 : List Zi) : Option (Zj × Int × Int × Int) :=
 (Z3n (Z23.mk zl zn z7 zd zh (Z1n.mk z2 z6))).bind fun r1 =>
 if (r1 == (-1)) = true then
 ((Z1A 22 x1 zl z2 z6).bind fun r2 =>
 Z2s x1 x5 x8 zl r2.1 z7 zd zh r2.2.1 r2.2.2 z11)
 else
 (if (r1 == 93) = true then
 (if (x8 == 0) = true then
 ((Z1A 22 x1 zl z2 z6).bind fun r3 =>
 Z2s x1 x5 x8 zl r3.1 z7 zd zh r3.2.1 r3.2.2 z11)
 else
 (Z92 x5 zl zn z2 z6 z11))
 else
 (if (r1 == 91) = true then
 (if (r1 == 91) = true then
 ((Z1A 22 zn zl z2 z6).bind fun r4 =>
 Z2s x1 x5 x8 zl r4.1 z7 zd zh r4.2.1 r4.2.2 z11)
 else
 (Z7o x1 x5 x8 zn zl zn z7 zd zh z2 z6 z11))
 else
 (if (r1 == 45) = true then
 ((Z1A 22 zn zl z2 z6).bind fun r5 =>
 Z2s x1 x5 x8 zl r5.1 z7 zd zh r5.2.1 r5.2.2 z11)
 else
 (Z7o x1 x5 x8 zn zl zn z7 zd zh z2 z6 z11))))
theorem Zl8 x1 x5 x8 zl zn z7 zd zh z2 z6 b1 (z11 : List Zi) zp zb zN zG z2w (zu : ZR zb = true) (z1t : ZR zN = true) (z1h : ZR zG = true) : Sim (Z2g zl z7 zd zh zp zb) (Z68 x1 x5 x8 zl zn z7 zd zh z2 z6 z11) (Zym 1 (.ptr 0 0) (iv x1) (.ptr 1 0) (bv x5) (.ptr 2 0) (.clo 151 [] [(.ptr 2 0)]) (iv x8) [(ZU zl zn z7 zd zh z2 z6 zp zb), (Zq b1 zN zG), [(ZK z2w (z11.map Zy))]]) := by
 unfold Z68
 refine zf (ZFL ..)<|ze<|zq<|zq<|zq<|ze<|zi fun r1 hr1 => ?_
 obtain ⟨_, er1, _, rfl⟩ := Z3w (Z23.mk zl zn z7 zd zh (Z1n.mk z2 z6)) zp zb zu r1 hr1
 refine zc [0] (iv r1) [(ZU zl zn z7 zd zh z2 z6 zp zb), (Zq b1 zN zG), [(ZK z2w (z11.map Zy))]] er1<|ze<|ze<|zq ?_
 refine za (r1 == (-1)) ?_ ?_
 ·refine ze<|zi fun r2 hr2 => ?_
  obtain ⟨_, er2, _, rfl⟩ := Z1G 22 x1 zl zn z7 zd zh z2 z6 zp zb zu r2 hr2
  refine zc [0] (.p (.tup [])) [(ZU zl r2.1 z7 zd zh r2.2.1 r2.2.2 zp zb), (Zq b1 zN zG), [(ZK z2w (z11.map Zy))]] er2 ?_
  exact zk (Z3s x1 x5 x8 zl r2.1 z7 zd zh r2.2.1 r2.2.2 b1 z11 zp zb zN zG z2w zu z1t z1h)
 ·refine ze<|zq ?_
  refine za (r1 == 93) ?_ ?_
  ·refine ze<|zq ?_
   refine za (x8 == 0) ?_ ?_
   ·refine ze<|zi fun r3 hr3 => ?_
    obtain ⟨_, er3, _, rfl⟩ := Z1G 22 x1 zl zn z7 zd zh z2 z6 zp zb zu r3 hr3
    refine zc [0] (.p (.tup [])) [(ZU zl r3.1 z7 zd zh r3.2.1 r3.2.2 zp zb), (Zq b1 zN zG), [(ZK z2w (z11.map Zy))]] er3 ?_
    exact zk (Z3s x1 x5 x8 zl r3.1 z7 zd zh r3.2.1 r3.2.2 b1 z11 zp zb zN zG z2w zu z1t z1h)
   ·exact zk (Zkb x5 zl zn z7 zd zh z2 z6 b1 z11 zp zb zN zG z2w zu z1t z1h)
  ·refine ze<|zq ?_
   refine za (r1 == 91) ?_ ?_
   ·refine za (r1 == 91) ?_ ?_
    ·refine ze<|zi fun r4 hr4 => ?_
     obtain ⟨_, er4, _, rfl⟩ := Z1G 22 zn zl zn z7 zd zh z2 z6 zp zb zu r4 hr4
     refine zc [0] (.p (.tup [])) [(ZU zl r4.1 z7 zd zh r4.2.1 r4.2.2 zp zb), (Zq b1 zN zG), [(ZK z2w (z11.map Zy))]] er4 ?_
     exact zk (Z3s x1 x5 x8 zl r4.1 z7 zd zh r4.2.1 r4.2.2 b1 z11 zp zb zN zG z2w zu z1t z1h)
    ·exact zk (Zdx x1 x5 x8 zn zl zn z7 zd zh z2 z6 b1 z11 zp zb zN zG z2w zu z1t z1h)
   ·refine ze<|zq ?_
    refine za (r1 == 45) ?_ ?_
    ·refine ze<|zi fun r5 hr5 => ?_
     obtain ⟨_, er5, _, rfl⟩ := Z1G 22 zn zl zn z7 zd zh z2 z6 zp zb zu r5 hr5
     refine zc [0] (.p (.tup [])) [(ZU zl r5.1 z7 zd zh r5.2.1 r5.2.2 zp zb), (Zq b1 zN zG), [(ZK z2w (z11.map Zy))]] er5 ?_
     exact zk (Z3s x1 x5 x8 zl r5.1 z7 zd zh r5.2.1 r5.2.2 b1 z11 zp zb zN zG z2w zu z1t z1h)
    ·exact zk (Zdx x1 x5 x8 zn zl zn z7 zd zh z2 z6 b1 z11 zp zb zN zG z2w zu z1t z1h)
def Zbq (zn z2 z6 : Int) : Option (Zj × Int × Int × Int) :=
 some ((Zj.mk 0 0 0 0 0 ([] : List Zi) ([] : List Zj)), zn, z2, z6)
theorem Zke zl zn z7 zd zh z2 z6 b1 zp zb zN zG (zu : ZR zb = true) (z1t : ZR zN = true) (z1h : ZR zG = true) : Sim (Z2g zl z7 zd zh zp zb) (Zbq zn z2 z6) (Zvh 1 (.ptr 1 0) [(ZU zl zn z7 zd zh z2 z6 zp zb), (Zq b1 zN zG)]) := by
 unfold Zbq
 refine zf (ZDQ ..)<|ze<|zq<|zt [(ZU zl zn z7 zd zh z2 z6 zp zb), (Zq Z2c .nl .nl)] ?_
 exact zr ((pA_ (ZO Z2c .sh .sh)), [(ZU zl zn z7 zd zh z2 z6 zp zb), (Zq Z2c .nl .nl)]) ⟨_, rfl⟩
def Z7P (x1 : Int) (x5 : Bool) (x8 : Int) (zl : List Int) (zn z7 zd : Int) (zh : List Zv) (z2 z6 : Int) (z11 : List Zi) : Option (Zj × Int × Int × Int) :=
 if (z2 == 0) = true then
 (Z68 x1 x5 x8 zl zn z7 zd zh z2 z6 z11)
 else
 (Zbq zn z2 z6)
theorem Zl7 x1 x5 x8 zl zn z7 zd zh z2 z6 b1 (z11 : List Zi) zp zb zN zG z2w (zu : ZR zb = true) (z1t : ZR zN = true) (z1h : ZR zG = true) : Sim (Z2g zl z7 zd zh zp zb) (Z7P x1 x5 x8 zl zn z7 zd zh z2 z6 z11) (Zp1 1 (.ptr 0 0) (iv x1) (.ptr 1 0) (bv x5) (.ptr 2 0) (.clo 151 [] [(.ptr 2 0)]) (iv x8) [(ZU zl zn z7 zd zh z2 z6 zp zb), (Zq b1 zN zG), [(ZK z2w (z11.map Zy))]]) := by
 unfold Z7P
 refine zf (ZFJ ..)<|ze<|zq<|zq<|zq<|zq<|zq ?_
 refine za (z2 == 0) ?_ ?_
 ·exact zk (Zl8 x1 x5 x8 zl zn z7 zd zh z2 z6 b1 z11 zp zb zN zG z2w zu z1t z1h)
 ·exact zk (Zke zl zn z7 zd zh z2 z6 b1 zp zb zN zG zu z1t z1h)
theorem Zel x1 x5 x8 zl zn z7 zd zh z2 z6 z11 {r} (h : Z7P x1 x5 x8 zl zn z7 zd zh z2 z6 z11 = some r) : Z5a x1 x5 x8 zl zn z7 zd zh z2 z6 z11 = some r :=
 Z1c (fun _ _ ha hb => RRun.uniq (ZcL _ _ _ _ _ _) (ha default .ex .ex .ex .ex .ex rfl rfl rfl) (hb default .ex .ex .ex .ex .ex rfl rfl rfl)) (fun b1 zp zb zN zG z2w zu z1t z1h => Zl7 x1 x5 x8 zl zn z7 zd zh z2 z6 b1 z11 zp zb zN zG z2w zu z1t z1h r h)
def Z6K (x2 x5 : Int) (zl : List Int) (zn z7 zd : Int) (zh : List Zv) (z2 z6 : Int) : Option (Int × (Own × (List Zi)) × Bool × Int × Int × Int) :=
 (Z9j x2 x5 zl zn z7 zd zh z2 z6).bind fun r1 =>
 some (r1.1, (.nl, ([] : List Zi)), false, r1.2.1, r1.2.2.1, r1.2.2.2)
theorem ZjI x2 x5 zl zn z7 zd zh z2 z6 zp zb (zu : ZR zb = true) : Sim (Z5N zl z7 zd zh zp zb) (Z6K x2 x5 zl zn z7 zd zh z2 z6) (Zvl 1 (.ptr 0 0) (iv x2) (iv x5) [(ZU zl zn z7 zd zh z2 z6 zp zb)]) := by
 unfold Z6K
 refine zf (ZE0 ..)<|ze<|zi fun r1 hr1 => ?_
 obtain ⟨_, er1, _, rfl⟩ := Zgh x2 x5 zl zn z7 zd zh z2 z6 zp zb zu r1 hr1
 refine zc [0] (iv r1.1) [(ZU zl r1.2.1 z7 zd zh r1.2.2.1 r1.2.2.2 zp zb)] er1 ?_
 exact zr ((.p (.tup [(.v (.int .i64 r1.1)), (.lst .nl []), (.v (.bool false))])), [(ZU zl r1.2.1 z7 zd zh r1.2.2.1 r1.2.2.2 zp zb)]) ⟨_, rfl⟩
def Z96 (x2 x5 : Int) (zl : List Int) (zn z7 zd : Int) (zh : List Zv) (z2 z6 : Int) : Option (Int × (Own × (List Zi)) × Bool × Int × Int × Int) :=
 (Z49 zl zn).bind fun r1 =>
 (Z9r x2).bind fun r2 =>
 (nilO (shrO r2.1) r2.2).bind fun a3 =>
 if (!a3) = true then
 (some (0, ((shrO r2.1), r2.2), (decide (x2 < 97)), r1.2, z2, z6))
 else
 (Z6K x2 x5 zl r1.2 z7 zd zh z2 z6)
theorem Zkj x2 x5 zl zn z7 zd zh z2 z6 zp zb (zu : ZR zb = true) : Sim (Z5N zl z7 zd zh zp zb) (Z96 x2 x5 zl zn z7 zd zh z2 z6) (ZyD 1 (.ptr 0 0) (iv x2) (iv x5) [(ZU zl zn z7 zd zh z2 z6 zp zb)]) := by
 unfold Z96
 refine zf (ZFX ..)<|ze<|zi fun r1 hr1 => ?_
 obtain ⟨_, er1, _, rfl⟩ := Z4J zl zn z7 zd zh z2 z6 zp zb zu r1 hr1
 refine zc [0] (iv r1.1) [(ZU zl r1.2 z7 zd zh z2 z6 zp zb)] er1<|ze<|zi fun r2 hr2 => ?_
 obtain ⟨_, er2, _, rfl⟩ := Zea x2 r2 hr2
 refine zc [] (ZK r2.1 (r2.2.map Zy)) [(ZU zl r1.2 z7 zd zh z2 z6 zp zb)] er2<|ze<|zi fun a3 ha3 => ?_
 refine zo (bv (!a3)) ?_ (et_ (ZrQ (P := PP) (t := 94) (c := .slice none 0 0) (e := Zy) (by kernel_rfl) ha3))
 refine za (!a3) ?_ ?_
 ·refine ze<|zq ?_
  exact zr ((.p (.tup [(.v (.int .i64 0)), (.lst (shrO r2.1) (r2.2.map Zy)), (.v (.bool (decide (x2 < 97))))])), [(ZU zl r1.2 z7 zd zh z2 z6 zp zb)]) ⟨_, rfl⟩
 ·exact zk (ZjI x2 x5 zl r1.2 z7 zd zh z2 z6 zp zb zu)
def Z95 (x5 : Int) (zl : List Int) (zn z7 zd : Int) (zh : List Zv) (z2 z6 : Int) : Option (Int × (Own × (List Zi)) × Bool × Int × Int × Int) :=
 (Z3n (Z23.mk zl zn z7 zd zh (Z1n.mk z2 z6))).bind fun r1 =>
 if (decide (r1 < 0)) = true then
 ((Z1A 21 x5 zl z2 z6).bind fun r2 =>
 some (0, (.nl, ([] : List Zi)), false, r2.1, r2.2.1, r2.2.2))
 else
 (Z96 r1 x5 zl zn z7 zd zh z2 z6)
theorem Zki x5 zl zn z7 zd zh z2 z6 zp zb (zu : ZR zb = true) : Sim (Z5N zl z7 zd zh zp zb) (Z95 x5 zl zn z7 zd zh z2 z6) (ZyC 1 (.ptr 0 0) (iv x5) [(ZU zl zn z7 zd zh z2 z6 zp zb)]) := by
 unfold Z95
 refine zf (ZFW ..)<|ze<|zi fun r1 hr1 => ?_
 obtain ⟨_, er1, _, rfl⟩ := Z3w (Z23.mk zl zn z7 zd zh (Z1n.mk z2 z6)) zp zb zu r1 hr1
 refine zc [0] (iv r1) [(ZU zl zn z7 zd zh z2 z6 zp zb)] er1<|ze<|zq ?_
 refine za (decide (r1 < 0)) ?_ ?_
 ·refine ze<|zi fun r2 hr2 => ?_
  obtain ⟨_, er2, _, rfl⟩ := Z1G 21 x5 zl zn z7 zd zh z2 z6 zp zb zu r2 hr2
  refine zc [0] (.p (.tup [])) [(ZU zl r2.1 z7 zd zh r2.2.1 r2.2.2 zp zb)] er2<|ze ?_
  exact zr ((.p (.tup [(.v (.int .i64 0)), (.lst .nl []), (.v (.bool false))])), [(ZU zl r2.1 z7 zd zh r2.2.1 r2.2.2 zp zb)]) ⟨_, rfl⟩
 ·exact zk (Zkj r1 x5 zl zn z7 zd zh z2 z6 zp zb zu)
def Z8E (zl : List Int) (zn z7 zd : Int) (zh : List Zv) (z2 z6 : Int) : Option (Int × (Own × (List Zi)) × Bool × Int × Int × Int) :=
 (Z49 zl zn).bind fun r1 =>
 if (r1.1 != 92) = true then
 (some (r1.1, (.nl, ([] : List Zi)), false, r1.2, z2, z6))
 else
 (Z95 zn zl r1.2 z7 zd zh z2 z6)
theorem Zmf zl zn z7 zd zh z2 z6 zp zb (zu : ZR zb = true) : Sim (Z5N zl z7 zd zh zp zb) (Z8E zl zn z7 zd zh z2 z6) (EE 153 [(.ptr 0 0)] [(ZU zl zn z7 zd zh z2 z6 zp zb)]) := by
 unfold Z8E
 refine zf (ZMD ..)<|ze<|ze<|zq<|zq<|zq<|ze<|zi fun r1 hr1 => ?_
 obtain ⟨_, er1, _, rfl⟩ := Z4J zl zn z7 zd zh z2 z6 zp zb zu r1 hr1
 refine zc [0] (iv r1.1) [(ZU zl r1.2 z7 zd zh z2 z6 zp zb)] er1<|ze<|zq ?_
 refine za (r1.1 != 92) ?_ ?_
 ·refine ze ?_
  exact zr ((.p (.tup [(.v (.int .i64 r1.1)), (.lst .nl []), (.v (.bool false))])), [(ZU zl r1.2 z7 zd zh z2 z6 zp zb)]) ⟨_, rfl⟩
 ·exact zk (Zki zn zl r1.2 z7 zd zh z2 z6 zp zb zu)
theorem Zff zl zn z7 zd zh z2 z6 {r} (h : Z8E zl zn z7 zd zh z2 z6 = some r) : Z77 zl zn z7 zd zh z2 z6 = some r :=
 Z1c (fun _ _ ha hb => RRun.uniq (Zno _ _ _ _ _ _) (ha .ex .ex rfl) (hb .ex .ex rfl)) (fun zp zb zu => Zmf zl zn z7 zd zh z2 z6 zp zb zu r h)
def Zaa (x0 zQ : List Zi) : Option (List Zi) :=
 (ZfS zQ x0).bind fun r1 =>
 some (r1.1)
theorem ZlG (x0 zQ : List Zi) ox0 z1B : Sim (Za8) (Zaa x0 zQ) (EE 151 [(ZK ox0 (x0.map Zy)), (.ptr 0 0)] [[(ZK z1B (zQ.map Zy))]]) := by
 unfold Zaa
 refine zf (ZMA ..)<|ze<|zq<|zi fun r1 hr1 => ?_
 obtain ⟨_, er1, _, rfl⟩ := ZuA zQ x0 .sh .sh r1 hr1
 refine zc [] (.p (.tup [(.lst .sh (r1.1.map Zy)), (.v (.int .i64 r1.2))])) [[(ZK z1B (zQ.map Zy))]] er1<|zq<|zq<|zt [[(ZK .sh (r1.1.map Zy))]] ?_
 exact zr ((.p (.tup [])), [[(ZK .sh (r1.1.map Zy))]]) ⟨.sh, _, rfl⟩
theorem Zmc x0 zQ {r} (h : Zaa x0 zQ = some r) : Z89 x0 zQ = some r :=
 Z1c (fun _ _ ha hb => RRun.uniq ZmD (ha .ex .ex) (hb .ex .ex)) (fun ox0 z1B => ZlG x0 zQ ox0 z1B r h)
def Zd6  : Option ((List Zi) × Int) :=
 some (([] : List Zi), 10)
theorem Zil  : Sim (Z6j) (Zd6) (Zu0 0  []) := by
 unfold Zd6
 refine zf (ZFU ..)<|ze ?_
 exact zr ((.p (.tup [(.lst .sh []), (.v (.int .i64 10))])), []) ⟨_, rfl⟩
def Zd7 (x0 x1 : List Zi) : Option ((List Zi) × Int) :=
 (ZdB ([x0, x1] : List (List Zi))).bind fun r1 =>
 (ZfT r1).bind fun r2 =>
 some (r2, 0)
theorem Zpr (x0 x1 : List Zi) ox0 ox1 : Sim (Z6j) (Zd7 x0 x1) (Zyz 0 (ZK ox0 (x0.map Zy)) (ZK ox1 (x1.map Zy)) []) := by
 unfold Zd7
 refine zf (ZFV ..)<|ze<|zq<|zi fun r1 hr1 => ?_
 obtain ⟨_, er1, _, rfl⟩ := Zn6 ([x0, x1] : List (List Zi)) .sh r1 hr1
 refine zc [] (ZK .sh (r1.map Zy)) [] er1<|zi fun r2 hr2 => ?_
 obtain ⟨_, er2, _, rfl⟩ := ZlR r1 .sh r2 hr2
 refine zc [] (ZK .sh (r2.map Zy)) [] er2 ?_
 exact zr ((.p (.tup [(.lst .sh (r2.map Zy)), (.v (.int .i64 0))])), []) ⟨_, rfl⟩
def ZfG (x0 x1 : List Zi) : Option ((List Zi) × Int) :=
 (Z8J x0).bind fun r1 =>
 if (!r1) = true then
 (Zd6)
 else
 ((Z8J x1).bind fun r2 =>
 if (!r2) = true then
 (Zd6)
 else
 (Zd7 x0 x1))
theorem ZsX (x0 x1 : List Zi) ox0 ox1 : Sim (Z6j) (ZfG x0 x1) (EE 152 [(ZK ox0 (x0.map Zy)), (ZK ox1 (x1.map Zy))] []) := by
 unfold ZfG
 refine zf (ZMB ..)<|ze<|ze<|zi fun r1 hr1 => ?_
 obtain ⟨_, er1, _, rfl⟩ := Zds x0 .sh r1 hr1
 refine zc [] (bv r1) [] er1<|zq ?_
 refine za (!r1) ?_ ?_
 ·exact zk (Zil )
 ·refine zi fun r2 hr2 => ?_
  obtain ⟨_, er2, _, rfl⟩ := Zds x1 .sh r2 hr2
  refine zc [] (bv r2) [] er2<|zq ?_
  refine za (!r2) ?_ ?_
  ·exact zk (Zil )
  ·exact zk (Zpr x0 x1 ox0 ox1)
theorem Zuz x0 x1 {r} (h : ZfG x0 x1 = some r) : ZfS x0 x1 = some r :=
 Z1c (fun _ _ ha hb => RRun.uniq Zk2 (ha .ex .ex) (hb .ex .ex)) (fun ox0 ox1 => ZsX x0 x1 ox0 ox1 r h)
def Z7q (zn z7 zd : Int) (zh : List Zv) (z2 z6 z2i z3m z3l z2o z2M : Int) (z2N : List Zi) (b2 : Zj) : Option (Zj × Bool × Int × Int × Int × (List Zv) × Int × Int) :=
 some ((Zj.mk z2i z3m z3l z2o z2M z2N ([b2] : List Zj)), (z2i != 7), zn, z7, zd, zh, z2, z6)
theorem Zkn zl zn z7 zd zh z2 z6 z2i z3m z3l z2o z2M z2N z47 b2 zp zb zN zG z3u z3a (zu : ZR zb = true) (z1t : ZR zN = true) (z1h : ZR zG = true) : Sim (Z3x zl zp) (Z7q zn z7 zd zh z2 z6 z2i z3m z3l z2o z2M z2N b2) (Zvj 1 (.ptr 1 0) (.ptr 2 0) [(ZU zl zn z7 zd zh z2 z6 zp zb), (Z3t z2i z3m z3l z2o z2M z2N z47 zN zG), (Zq b2 z3u z3a)]) := by
 unfold Z7q
 refine zf (ZDU ..)<|ze<|zq ?_
 refine zo (ZK .ex (([b2] : List Zj).map Z12)) ?_ (Eq.trans (b := some (ZK .ex [.agg (Z3M b2)])) (by kernel_rfl) (by simp only [Z90, Zng, Z6f]))
 refine zq<|zt [(ZU zl zn z7 zd zh z2 z6 zp zb), (Z3t z2i z3m z3l z2o z2M z2N ([b2] : List Zj) zN .ex), (Zq b2 z3u z3a)]<|ze<|zq<|zq<|zq<|zq<|zt [(ZU zl zn z7 zd zh z2 z6 zp zb), (Z3t z2i z3m z3l z2o z2M z2N ([b2] : List Zj) (shrO zN) .ex), (Zq b2 z3u z3a)] ?_
 exact zr ((.p (.tup [(.agg (ZO (Zj.mk z2i z3m z3l z2o z2M z2N ([b2] : List Zj)) .sh .sh)), (.v (.bool (z2i != 7)))])), [(ZU zl zn z7 zd zh z2 z6 zp zb), (Z3t z2i z3m z3l z2o z2M z2N ([b2] : List Zj) (shrO zN) .ex), (Zq b2 z3u z3a)]) ⟨zb, _, zu, rfl⟩
def Z3P (zn z7 zd : Int) (zh : List Zv) (z2 z6 z2i z3m z3l z2o z2M : Int) (z2N : List Zi) (b2 : Zj) : Option (Zj × Bool × Int × Int × Int × (List Zv) × Int × Int) :=
 if (z2i == 0) = true then
 (some (b2, true, zn, z7, (IntKind.i64.wrap (zd - 1)), zh, z2, z6))
 else
 (Z7q zn z7 (IntKind.i64.wrap (zd - 1)) zh z2 z6 z2i z3m z3l z2o z2M z2N b2)
theorem Z9Z zl zn z7 zd zh z2 z6 z2i z3m z3l z2o z2M z2N z47 b2 zp zb zN zG z3u z3a (zu : ZR zb = true) (z1t : ZR zN = true) (z1h : ZR zG = true) : Sim (Z3x zl zp) (Z3P zn z7 zd zh z2 z6 z2i z3m z3l z2o z2M z2N b2) (ZmM 1 (.ptr 0 0) (.ptr 1 0) (.ptr 2 0) [(ZU zl zn z7 zd zh z2 z6 zp zb), (Z3t z2i z3m z3l z2o z2M z2N z47 zN zG), (Zq b2 z3u z3a)]) := by
 unfold Z3P
 refine zf (ZDT ..)<|ze<|zq<|zq<|zq<|zq<|zq<|zq<|zt [(ZU zl zn z7 (IntKind.i64.wrap (zd - 1)) zh z2 z6 zp zb), (Z3t z2i z3m z3l z2o z2M z2N z47 zN zG), (Zq b2 z3u z3a)]<|ze<|zq<|zq<|zq ?_
 refine za (z2i == 0) ?_ ?_
 ·refine ze<|zq<|zt [(ZU zl zn z7 (IntKind.i64.wrap (zd - 1)) zh z2 z6 zp zb), (Zq b2 (shrO z3u) (shrO z3a)), (Zq b2 z3u z3a)] ?_
  exact zr ((.p (.tup [(.agg (ZO b2 .sh .sh)), (.v (.bool true))])), [(ZU zl zn z7 (IntKind.i64.wrap (zd - 1)) zh z2 z6 zp zb), (Zq b2 (shrO z3u) (shrO z3a)), (Zq b2 z3u z3a)]) ⟨zb, _, zu, rfl⟩
 ·exact zk (Zkn zl zn z7 (IntKind.i64.wrap (zd - 1)) zh z2 z6 z2i z3m z3l z2o z2M z2N z47 b2 zp zb zN zG z3u z3a zu z1t z1h)
def Z99 (x1 : Int) (zl : List Int) (z7 zd : Int) (zh : List Zv) (z2 z6 z2i z3m z3l z2o z2M : Int) (z2N : List Zi) (b2 : Zj) : Option (Zj × Bool × Int × Int × Int × (List Zv) × Int × Int) :=
 (Z1A 20 x1 zl z2 z6).bind fun r1 =>
 Z3P r1.1 z7 zd zh r1.2.1 r1.2.2 z2i z3m z3l z2o z2M z2N b2
theorem Zkm x1 zl zn z7 zd zh z2 z6 z2i z3m z3l z2o z2M z2N z47 b2 zp zb zN zG z3u z3a (zu : ZR zb = true) (z1t : ZR zN = true) (z1h : ZR zG = true) : Sim (Z3x zl zp) (Z99 x1 zl z7 zd zh z2 z6 z2i z3m z3l z2o z2M z2N b2) (Zvi 1 (.ptr 0 0) (iv x1) (.ptr 1 0) (.ptr 2 0) [(ZU zl zn z7 zd zh z2 z6 zp zb), (Z3t z2i z3m z3l z2o z2M z2N z47 zN zG), (Zq b2 z3u z3a)]) := by
 unfold Z99
 refine zf (ZDS ..)<|ze<|zi fun r1 hr1 => ?_
 obtain ⟨_, er1, _, rfl⟩ := Z1G 20 x1 zl zn z7 zd zh z2 z6 zp zb zu r1 hr1
 refine zc [0] (.p (.tup [])) [(ZU zl r1.1 z7 zd zh r1.2.1 r1.2.2 zp zb), (Z3t z2i z3m z3l z2o z2M z2N z47 zN zG), (Zq b2 z3u z3a)] er1 ?_
 exact zk (Z9Z zl r1.1 z7 zd zh r1.2.1 r1.2.2 z2i z3m z3l z2o z2M z2N z47 b2 zp zb zN zG z3u z3a zu z1t z1h)
def Z30 (x1 : Int) (zl : List Int) (zn z7 zd : Int) (zh : List Zv) (z2 z6 z2i z3m z3l z2o z2M : Int) (z2N : List Zi) : Option (Zj × Bool × Int × Int × Int × (List Zv) × Int × Int) :=
 (Z5p zl zn z7 zd zh z2 z6).bind fun r1 =>
 if (r1.2.2.2.2.2.1 == 0) = true then
 ((Z2h (ByteArray.mk #[41]) zl r1.2.1).bind fun r2 =>
 if (!r2.1) = true then
 (Z99 x1 zl r1.2.2.1 r1.2.2.2.1 r1.2.2.2.2.1 r1.2.2.2.2.2.1 r1.2.2.2.2.2.2 z2i z3m z3l z2o z2M z2N r1.1)
 else
 (Z3P r2.2 r1.2.2.1 r1.2.2.2.1 r1.2.2.2.2.1 r1.2.2.2.2.2.1 r1.2.2.2.2.2.2 z2i z3m z3l z2o z2M z2N r1.1))
 else
 (Z3P r1.2.1 r1.2.2.1 r1.2.2.2.1 r1.2.2.2.2.1 r1.2.2.2.2.2.1 r1.2.2.2.2.2.2 z2i z3m z3l z2o z2M z2N r1.1)
theorem Z4R x1 zl zn z7 zd zh z2 z6 z2i z3m z3l z2o z2M z2N z47 zp zb zN zG (zu : ZR zb = true) (z1t : ZR zN = true) (z1h : ZR zG = true) : Sim (Z3x zl zp) (Z30 x1 zl zn z7 zd zh z2 z6 z2i z3m z3l z2o z2M z2N) (Zf1 1 (.ptr 0 0) (iv x1) (.ptr 1 0) [(ZU zl zn z7 zd zh z2 z6 zp zb), (Z3t z2i z3m z3l z2o z2M z2N z47 zN zG)]) := by
 unfold Z30
 refine zf (ZDR ..)<|ze<|zi fun r1 hr1 => ?_
 obtain ⟨_, er1, z6A, _, zbO, rfl⟩ := Zir zl zn z7 zd zh z2 z6 zp zb zu r1 hr1
 refine zc [0] (pA_ (ZO r1.1 .sh .sh)) [(ZU zl r1.2.1 r1.2.2.1 r1.2.2.2.1 r1.2.2.2.2.1 r1.2.2.2.2.2.1 r1.2.2.2.2.2.2 zp z6A), (Z3t z2i z3m z3l z2o z2M z2N z47 zN zG)] er1<|zz (.ptr 2 0) [(ZU zl r1.2.1 r1.2.2.1 r1.2.2.2.1 r1.2.2.2.2.1 r1.2.2.2.2.2.1 r1.2.2.2.2.2.2 zp z6A), (Z3t z2i z3m z3l z2o z2M z2N z47 zN zG), (Zq Z2c .nl .nl)]<|zt [(ZU zl r1.2.1 r1.2.2.1 r1.2.2.2.1 r1.2.2.2.2.1 r1.2.2.2.2.2.1 r1.2.2.2.2.2.2 zp z6A), (Z3t z2i z3m z3l z2o z2M z2N z47 zN zG), (Zq r1.1 .sh .sh)]<|ze<|zq<|zq<|zq<|zq<|zq ?_
 refine za (r1.2.2.2.2.2.1 == 0) ?_ ?_
 ·refine zi fun r2 hr2 => ?_
  obtain ⟨_, er2, _, rfl⟩ := Z2q (ByteArray.mk #[41]) zl r1.2.1 r1.2.2.1 r1.2.2.2.1 r1.2.2.2.2.1 r1.2.2.2.2.2.1 r1.2.2.2.2.2.2 zp z6A zbO r2 hr2
  refine zc [0] (bv r2.1) [(ZU zl r2.2 r1.2.2.1 r1.2.2.2.1 r1.2.2.2.2.1 r1.2.2.2.2.2.1 r1.2.2.2.2.2.2 zp z6A), (Z3t z2i z3m z3l z2o z2M z2N z47 zN zG), (Zq r1.1 .sh .sh)] er2<|zq ?_
  refine za (!r2.1) ?_ ?_
  ·exact zk (Zkm x1 zl r2.2 r1.2.2.1 r1.2.2.2.1 r1.2.2.2.2.1 r1.2.2.2.2.2.1 r1.2.2.2.2.2.2 z2i z3m z3l z2o z2M z2N z47 r1.1 zp z6A zN zG .sh .sh zbO z1t z1h)
  ·exact zk (Z9Z zl r2.2 r1.2.2.1 r1.2.2.2.1 r1.2.2.2.2.1 r1.2.2.2.2.2.1 r1.2.2.2.2.2.2 z2i z3m z3l z2o z2M z2N z47 r1.1 zp z6A zN zG .sh .sh zbO z1t z1h)
 ·exact zk (Z9Z zl r1.2.1 r1.2.2.1 r1.2.2.2.1 r1.2.2.2.2.1 r1.2.2.2.2.2.1 r1.2.2.2.2.2.2 z2i z3m z3l z2o z2M z2N z47 r1.1 zp z6A zN zG .sh .sh zbO z1t z1h)
def Z7Q (x1 : Int) (zl : List Int) (zn z7 zd : Int) (zh : List Zv) (z2 z6 z2i z3m z3l z2o z2M : Int) (z2N : List Zi) : Option (Zj × Bool × Int × Int × Int × (List Zv) × Int × Int) :=
 (ZhF).bind fun r1 =>
 (Z7m r1 zl zn).bind fun r2 =>
 if (decide (0 ≤ r2.1)) = true then
 (Z30 x1 zl r2.2 z7 (IntKind.i64.wrap (zd + 1)) zh z2 z6 7 0 0 r2.1 0 ([] : List Zi))
 else
 ((Z2h (ByteArray.mk #[63, 62]) zl r2.2).bind fun r3 =>
 if (r3.1) = true then
 (Z30 x1 zl r3.2 z7 (IntKind.i64.wrap (zd + 1)) zh z2 z6 8 0 0 0 0 ([] : List Zi))
 else
 ((Z2h (ByteArray.mk #[63, 58]) zl r3.2).bind fun r4 =>
 if (r4.1) = true then
 (Z30 x1 zl r4.2 z7 (IntKind.i64.wrap (zd + 1)) zh z2 z6 z2i z3m z3l z2o z2M z2N)
 else
 ((Z3n (Z23.mk zl r4.2 z7 (IntKind.i64.wrap (zd + 1)) zh (Z1n.mk z2 z6))).bind fun r5 =>
 if (r5 == 63) = true then
 ((Z1A 20 x1 zl z2 z6).bind fun r6 =>
 Z30 x1 zl r6.1 z7 (IntKind.i64.wrap (zd + 1)) zh r6.2.1 r6.2.2 z2i z3m z3l z2o z2M z2N)
 else
 (if (z7 == 9) = true then
 ((Z1A 24 x1 zl z2 z6).bind fun r7 =>
 Z30 x1 zl r7.1 z7 (IntKind.i64.wrap (zd + 1)) zh r7.2.1 r7.2.2 z2i z3m z3l z2o z2M z2N)
 else
 (Z30 x1 zl r4.2 (IntKind.i64.wrap (z7 + 1)) (IntKind.i64.wrap (zd + 1)) zh z2 z6 5 0 0 0 (IntKind.i64.wrap (z7 + 1)) ([] : List Zi))))))
theorem Zla x1 zl zn z7 zd zh z2 z6 z2i z3m z3l z2o z2M z2N z47 zp zb zN zG (zu : ZR zb = true) (z1t : ZR zN = true) (z1h : ZR zG = true) : Sim (Z3x zl zp) (Z7Q x1 zl zn z7 zd zh z2 z6 z2i z3m z3l z2o z2M z2N) (Zyp 1 (.ptr 0 0) (iv x1) (.ptr 1 0) [(ZU zl zn z7 zd zh z2 z6 zp zb), (Z3t z2i z3m z3l z2o z2M z2N z47 zN zG)]) := by
 unfold Z7Q
 refine zf (ZFM ..)<|ze<|zq<|zq<|zq<|zq<|zq<|zq<|zt [(ZU zl zn z7 (IntKind.i64.wrap (zd + 1)) zh z2 z6 zp zb), (Z3t z2i z3m z3l z2o z2M z2N z47 zN zG)]<|ze<|zi fun r1 hr1 => ?_
 obtain ⟨_, er1, _, rfl⟩ := Zvt  r1 hr1
 refine zc [] (ZK .sh (r1.map eS)) [(ZU zl zn z7 (IntKind.i64.wrap (zd + 1)) zh z2 z6 zp zb), (Z3t z2i z3m z3l z2o z2M z2N z47 zN zG)] er1<|zi fun r2 hr2 => ?_
 obtain ⟨_, er2, _, rfl⟩ := Zi7 r1 zl zn z7 (IntKind.i64.wrap (zd + 1)) zh z2 z6 .sh zp zb zu r2 hr2
 refine zc [0] (iv r2.1) [(ZU zl r2.2 z7 (IntKind.i64.wrap (zd + 1)) zh z2 z6 zp zb), (Z3t z2i z3m z3l z2o z2M z2N z47 zN zG)] er2<|ze<|zq ?_
 refine za (decide (0 ≤ r2.1)) ?_ ?_
 ·refine ze<|zq<|zt [(ZU zl r2.2 z7 (IntKind.i64.wrap (zd + 1)) zh z2 z6 zp zb), (Z3t 7 0 0 r2.1 0 ([] : List Zi) ([] : List Zj) .nl .nl)] ?_
  exact zk (Z4R x1 zl r2.2 z7 (IntKind.i64.wrap (zd + 1)) zh z2 z6 7 0 0 r2.1 0 ([] : List Zi) ([] : List Zj) zp zb .nl .nl zu rfl rfl)
 ·refine ze<|zi fun r3 hr3 => ?_
  obtain ⟨_, er3, _, rfl⟩ := Z2q (ByteArray.mk #[63, 62]) zl r2.2 z7 (IntKind.i64.wrap (zd + 1)) zh z2 z6 zp zb zu r3 hr3
  refine zc [0] (bv r3.1) [(ZU zl r3.2 z7 (IntKind.i64.wrap (zd + 1)) zh z2 z6 zp zb), (Z3t z2i z3m z3l z2o z2M z2N z47 zN zG)] er3 ?_
  refine za r3.1 ?_ ?_
  ·refine ze<|zq<|zt [(ZU zl r3.2 z7 (IntKind.i64.wrap (zd + 1)) zh z2 z6 zp zb), (Z3t 8 0 0 0 0 ([] : List Zi) ([] : List Zj) .nl .nl)] ?_
   exact zk (Z4R x1 zl r3.2 z7 (IntKind.i64.wrap (zd + 1)) zh z2 z6 8 0 0 0 0 ([] : List Zi) ([] : List Zj) zp zb .nl .nl zu rfl rfl)
  ·refine ze<|zi fun r4 hr4 => ?_
   obtain ⟨_, er4, _, rfl⟩ := Z2q (ByteArray.mk #[63, 58]) zl r3.2 z7 (IntKind.i64.wrap (zd + 1)) zh z2 z6 zp zb zu r4 hr4
   refine zc [0] (bv r4.1) [(ZU zl r4.2 z7 (IntKind.i64.wrap (zd + 1)) zh z2 z6 zp zb), (Z3t z2i z3m z3l z2o z2M z2N z47 zN zG)] er4 ?_
   refine za r4.1 ?_ ?_
   ·exact zk (Z4R x1 zl r4.2 z7 (IntKind.i64.wrap (zd + 1)) zh z2 z6 z2i z3m z3l z2o z2M z2N z47 zp zb zN zG zu z1t z1h)
   ·refine ze<|zi fun r5 hr5 => ?_
    obtain ⟨_, er5, _, rfl⟩ := Z3w (Z23.mk zl r4.2 z7 (IntKind.i64.wrap (zd + 1)) zh (Z1n.mk z2 z6)) zp zb zu r5 hr5
    refine zc [0] (iv r5) [(ZU zl r4.2 z7 (IntKind.i64.wrap (zd + 1)) zh z2 z6 zp zb), (Z3t z2i z3m z3l z2o z2M z2N z47 zN zG)] er5<|zq ?_
    refine za (r5 == 63) ?_ ?_
    ·refine ze<|zi fun r6 hr6 => ?_
     obtain ⟨_, er6, _, rfl⟩ := Z1G 20 x1 zl r4.2 z7 (IntKind.i64.wrap (zd + 1)) zh z2 z6 zp zb zu r6 hr6
     refine zc [0] (.p (.tup [])) [(ZU zl r6.1 z7 (IntKind.i64.wrap (zd + 1)) zh r6.2.1 r6.2.2 zp zb), (Z3t z2i z3m z3l z2o z2M z2N z47 zN zG)] er6 ?_
     exact zk (Z4R x1 zl r6.1 z7 (IntKind.i64.wrap (zd + 1)) zh r6.2.1 r6.2.2 z2i z3m z3l z2o z2M z2N z47 zp zb zN zG zu z1t z1h)
    ·refine ze<|zq<|zq<|zq<|zq ?_
     refine za (z7 == 9) ?_ ?_
     ·refine ze<|zi fun r7 hr7 => ?_
      obtain ⟨_, er7, _, rfl⟩ := Z1G 24 x1 zl r4.2 z7 (IntKind.i64.wrap (zd + 1)) zh z2 z6 zp zb zu r7 hr7
      refine zc [0] (.p (.tup [])) [(ZU zl r7.1 z7 (IntKind.i64.wrap (zd + 1)) zh r7.2.1 r7.2.2 zp zb), (Z3t z2i z3m z3l z2o z2M z2N z47 zN zG)] er7 ?_
      exact zk (Z4R x1 zl r7.1 z7 (IntKind.i64.wrap (zd + 1)) zh r7.2.1 r7.2.2 z2i z3m z3l z2o z2M z2N z47 zp zb zN zG zu z1t z1h)
     ·refine ze<|zq<|zq<|zq<|zq<|zq<|zq<|zt [(ZU zl r4.2 (IntKind.i64.wrap (z7 + 1)) (IntKind.i64.wrap (zd + 1)) zh z2 z6 zp zb), (Z3t z2i z3m z3l z2o z2M z2N z47 zN zG)]<|ze<|zq<|zq<|zq<|zq<|zt [(ZU zl r4.2 (IntKind.i64.wrap (z7 + 1)) (IntKind.i64.wrap (zd + 1)) zh z2 z6 zp zb), (Z3t 5 0 0 0 (IntKind.i64.wrap (z7 + 1)) ([] : List Zi) ([] : List Zj) .nl .nl)] ?_
      exact zk (Z4R x1 zl r4.2 (IntKind.i64.wrap (z7 + 1)) (IntKind.i64.wrap (zd + 1)) zh z2 z6 5 0 0 0 (IntKind.i64.wrap (z7 + 1)) ([] : List Zi) ([] : List Zj) zp zb .nl .nl zu rfl rfl)
def Z7A (x1 : Int) (zl : List Int) (zn z7 zd : Int) (zh : List Zv) (z2 z6 : Int) : Option (Zj × Bool × Int × Int × Int × (List Zv) × Int × Int) :=
 if (zd == 32) = true then
 ((Z1A 25 x1 zl z2 z6).bind fun r1 =>
 some ((Zj.mk 0 0 0 0 0 ([] : List Zi) ([] : List Zj)), true, r1.1, z7, zd, zh, r1.2.1, r1.2.2))
 else
 (Z7Q x1 zl zn z7 zd zh z2 z6 0 0 0 0 0 ([] : List Zi))
theorem Zn0 x1 zl zn z7 zd zh z2 z6 zp zb (zu : ZR zb = true) : Sim (Z3x zl zp) (Z7A x1 zl zn z7 zd zh z2 z6) (EE 132 [(.ptr 0 0), (iv x1)] [(ZU zl zn z7 zd zh z2 z6 zp zb)]) := by
 unfold Z7A
 refine zf (ZMk ..)<|ze<|zz (.ptr 1 0) [(ZU zl zn z7 zd zh z2 z6 zp zb), (Zq Z2c .nl .nl)]<|ze<|zq<|zq<|zq<|zq ?_
 refine za (zd == 32) ?_ ?_
 ·refine ze<|zi fun r1 hr1 => ?_
  obtain ⟨_, er1, _, rfl⟩ := Z1G 25 x1 zl zn z7 zd zh z2 z6 zp zb zu r1 hr1
  refine zc [0] (.p (.tup [])) [(ZU zl r1.1 z7 zd zh r1.2.1 r1.2.2 zp zb), (Zq Z2c .nl .nl)] er1<|ze<|zq<|zt [(ZU zl r1.1 z7 zd zh r1.2.1 r1.2.2 zp zb), (Zq Z2c .nl .nl)] ?_
  exact zr ((.p (.tup [(.agg (ZO Z2c .sh .sh)), (.v (.bool true))])), [(ZU zl r1.1 z7 zd zh r1.2.1 r1.2.2 zp zb), (Zq Z2c .nl .nl)]) ⟨zb, _, zu, rfl⟩
 ·exact zk (Zla x1 zl zn z7 zd zh z2 z6 0 0 0 0 0 ([] : List Zi) ([] : List Zj) zp zb .nl .nl zu rfl rfl)
theorem Zcf x1 zl zn z7 zd zh z2 z6 {r} (h : Z7A x1 zl zn z7 zd zh z2 z6 = some r) : Z6h x1 zl zn z7 zd zh z2 z6 = some r :=
 Z1c (fun _ _ ha hb => RRun.uniq (ZgQ _ _) (ha .ex .ex rfl) (hb .ex .ex rfl)) (fun zp zb zu => Zn0 x1 zl zn z7 zd zh z2 z6 zp zb zu r h)
def ZlB  : Option (List ByteArray) :=
 some ([(ByteArray.mk #[63, 61]), (ByteArray.mk #[63, 33]), (ByteArray.mk #[63, 60, 61]), (ByteArray.mk #[63, 60, 33])] : List ByteArray)
theorem ZuF  : Sim (Zhu) (ZlB) (EE 155 [] []) := by
 unfold ZlB
 refine zf (ZMG ..)<|ze<|ze<|zq ?_
 exact zr ((ZK .sh (([(ByteArray.mk #[63, 61]), (ByteArray.mk #[63, 33]), (ByteArray.mk #[63, 60, 61]), (ByteArray.mk #[63, 60, 33])] : List ByteArray).map eS)), []) ⟨_, rfl⟩
theorem Zvs  {r} (h : ZlB = some r) : ZhF = some r :=
 Z1c (fun _ _ ha hb => RRun.uniq Zwg (ha ) (hb )) (ZuF  r h)
def Z7g (x0 : List ByteArray) (zl : List Int) (zn : Int) : Option (Int × Int) :=
 Z2X x0 (x0.length : Int) 0 zl zn
theorem Zho (x0 : List ByteArray) zl zn z7 zd zh z2 z6 ox0 zp zb (zu : ZR zb = true) : Sim (Z2L zl z7 zd zh z2 z6 zp zb) (Z7g x0 zl zn) (EE 154 [(ZK ox0 (x0.map eS)), (.clo 68 [(.ptr 0 0)] [])] [(ZU zl zn z7 zd zh z2 z6 zp zb)]) := by
 unfold Z7g
 refine zf (ZME ..)<|ze<|ze ?_
 refine zo (iv (x0.length : Int)) ?_ (et_ (Z2J (P := PP) (t := 226) (d := 9) (by kernel_rfl) eS (shrO ox0) x0))
 exact zk (ZaK x0 (x0.length : Int) 0 zl zn z7 zd zh z2 z6 ox0 zp zb zu)
theorem Zi6 x0 zl zn {r} (h : Z7g x0 zl zn = some r) : Z7m x0 zl zn = some r :=
 Z1c (fun _ _ ha hb => RRun.uniq (Z8v _ _ _ _ _ _ _ _) (ha default default default default default .ex .ex .ex rfl) (hb default default default default default .ex .ex .ex rfl)) (fun z7 zd zh z2 z6 ox0 zp zb zu => Zho x0 zl zn z7 zd zh z2 z6 ox0 zp zb zu r h)
def Z6e (x0 : List ByteArray) (x7 x8 : Int) (zl : List Int) (zn : Int) : Option (Int × Int) :=
 Z2X x0 x7 (IntKind.i64.wrap (x8 + 1)) zl zn
theorem Zfq (x0 : List ByteArray) x7 x8 zl zn z7 zd zh z2 z6 ox0 zp zb (zu : ZR zb = true) : Sim (Z2L zl z7 zd zh z2 z6 zp zb) (Z6e x0 x7 x8 zl zn) (ZyI 1 (ZK ox0 (x0.map eS)) (.clo 68 [(.ptr 0 0)] []) (iv x7) (iv x8) [(ZU zl zn z7 zd zh z2 z6 zp zb)]) := by
 unfold Z6e
 refine zf (ZG0 ..)<|ze<|zq ?_
 exact zk (ZaK x0 x7 (IntKind.i64.wrap (x8 + 1)) zl zn z7 zd zh z2 z6 ox0 zp zb zu)
def Z4Y (x0 : List ByteArray) (x7 x8 : Int) (zl : List Int) (zn : Int) : Option (Int × Int) :=
 (lget x0 x8).bind fun a1 =>
 (Z2h a1 zl zn).bind fun r2 =>
 if (r2.1) = true then
 (some (x8, r2.2))
 else
 (Z6e x0 x7 x8 zl r2.2)
theorem Zfp (x0 : List ByteArray) x7 x8 zl zn z7 zd zh z2 z6 ox0 zp zb (zu : ZR zb = true) : Sim (Z2L zl z7 zd zh z2 z6 zp zb) (Z4Y x0 x7 x8 zl zn) (ZyH 1 (ZK ox0 (x0.map eS)) (.clo 68 [(.ptr 0 0)] []) (iv x7) (iv x8) [(ZU zl zn z7 zd zh z2 z6 zp zb)]) := by
 unfold Z4Y
 refine zf (ZFZ ..)<|ze<|ze<|zi fun a1 ha1 => ?_
 refine zo (.cptr [(.v (.string a1))]) ?_ (et_ (Z3G (o := (shrO ox0)) (k := .i64) (n := 1) (e := eS) (cs := (fun a => [eS a])) (fun _ => rfl) (fun _ => rfl) (by decide) ha1))
 refine zq<|zi fun r2 hr2 => ?_
 obtain ⟨_, er2, _, rfl⟩ := Z2q a1 zl zn z7 zd zh z2 z6 zp zb zu r2 hr2
 refine zv [0] (bv r2.1) [(ZU zl r2.2 z7 zd zh z2 z6 zp zb)] er2 ?_
 refine za r2.1 ?_ ?_
 ·refine ze ?_
  exact zr ((iv x8), [(ZU zl r2.2 z7 zd zh z2 z6 zp zb)]) ⟨_, rfl⟩
 ·exact zk (Zfq x0 x7 x8 zl r2.2 z7 zd zh z2 z6 ox0 zp zb zu)
def Z8p (zn : Int) : Option (Int × Int) :=
 some ((-1), zn)
theorem Zfr zl zn z7 zd zh z2 z6 zp zb (zu : ZR zb = true) : Sim (Z2L zl z7 zd zh z2 z6 zp zb) (Z8p zn) (ZyJ 1  [(ZU zl zn z7 zd zh z2 z6 zp zb)]) := by
 unfold Z8p
 refine zf (ZG1 ..)<|ze ?_
 exact zr ((iv (-1)), [(ZU zl zn z7 zd zh z2 z6 zp zb)]) ⟨_, rfl⟩
def Z4e (x0 : List ByteArray) (x7 x8 : Int) (zl : List Int) (zn : Int) : Option (Int × Int) :=
 if (decide (x8 < x7)) = true then
 (Z4Y x0 x7 x8 zl zn)
 else
 (Z8p zn)
theorem Zfo (x0 : List ByteArray) x7 x8 zl zn z7 zd zh z2 z6 ox0 zp zb (zu : ZR zb = true) : Sim (Z2L zl z7 zd zh z2 z6 zp zb) (Z4e x0 x7 x8 zl zn) (Zp3 1 (ZK ox0 (x0.map eS)) (.clo 68 [(.ptr 0 0)] []) (iv x7) (iv x8) [(ZU zl zn z7 zd zh z2 z6 zp zb)]) := by
 unfold Z4e
 refine zf (ZFY ..)<|ze<|zq ?_
 refine za (decide (x8 < x7)) ?_ ?_
 ·exact zk (Zfp x0 x7 x8 zl zn z7 zd zh z2 z6 ox0 zp zb zu)
 ·exact zk (Zfr zl zn z7 zd zh z2 z6 zp zb zu)
theorem Z7K x0 x7 x8 zl zn {r} (h : Z4e x0 x7 x8 zl zn = some r) : Z2X x0 x7 x8 zl zn = some r :=
 Z1c (fun _ _ ha hb => RRun.uniq (Z8v _ _ _ _ _ _ _ _) (ha default default default default default .ex .ex .ex rfl) (hb default default default default default .ex .ex .ex rfl)) (fun z7 zd zh z2 z6 ox0 zp zb zu => Zfo x0 x7 x8 zl zn z7 zd zh z2 z6 ox0 zp zb zu r h)
def Z5B (zn z2 z6 z3U z5K z5J z4O z4z : Int) (z4A : List Zi) (z3T : List Zj) : Option (Zj × Int × Int × Int) :=
 some ((Zj.mk z3U z5K z5J z4O z4z z4A z3T), zn, z2, z6)
theorem Z9A zl zn z7 zd zh z2 z6 b1 b2 z3U z5K z5J z4O z4z z4A z3T zp zb zN zG z3u z3a z5Z z52 (zu : ZR zb = true) (zi8 : ZR z3u = true) (zfs : ZR z3a = true) (zi9 : ZR z5Z = true) (zft : ZR z52 = true) : Sim (Z2g zl z7 zd zh zp zb) (Z5B zn z2 z6 z3U z5K z5J z4O z4z z4A z3T) (ZmJ 1 (.ptr 2 0) (.ptr 3 0) [(ZU zl zn z7 zd zh z2 z6 zp zb), (Zq b1 zN zG), (Zq b2 z3u z3a), (Z3t z3U z5K z5J z4O z4z z4A z3T z5Z z52)]) := by
 unfold Z5B
 refine zf (ZDF ..)<|ze<|zq<|zt [(ZU zl zn z7 zd zh z2 z6 zp zb), (Zq b1 zN zG), (Z3t z3U z5K z5J z4O z4z z4A z3T (shrO z5Z) (shrO z52)), (Z3t z3U z5K z5J z4O z4z z4A z3T z5Z z52)] ?_
 exact zr ((pA_ (ZO (Zj.mk z3U z5K z5J z4O z4z z4A z3T) .sh .sh)), [(ZU zl zn z7 zd zh z2 z6 zp zb), (Zq b1 zN zG), (Z3t z3U z5K z5J z4O z4z z4A z3T (shrO z5Z) (shrO z52)), (Z3t z3U z5K z5J z4O z4z z4A z3T z5Z z52)]) ⟨_, rfl⟩
def Z4E (zl : List Int) (zn z2 z6 z3U z5K z5J z4O z4z : Int) (z4A : List Zi) (z3T : List Zj) : Option (Zj × Int × Int × Int) :=
 (Z2h (ByteArray.mk #[63]) zl zn).bind fun r1 =>
 if (r1.1) = true then
 (Z5B r1.2 z2 z6 z3U z5K z5J 1 z4z z4A z3T)
 else
 ((Z2h (ByteArray.mk #[43]) zl r1.2).bind fun r2 =>
 if (r2.1) = true then
 (Z5B r2.2 z2 z6 z3U z5K z5J 2 z4z z4A z3T)
 else
 (Z5B r2.2 z2 z6 z3U z5K z5J z4O z4z z4A z3T))
theorem Zd0 zl zn z7 zd zh z2 z6 b1 b2 z3U z5K z5J z4O z4z z4A z3T zp zb zN zG z3u z3a z5Z z52 (zu : ZR zb = true) (zi8 : ZR z3u = true) (zfs : ZR z3a = true) (zi9 : ZR z5Z = true) (zft : ZR z52 = true) : Sim (Z2g zl z7 zd zh zp zb) (Z4E zl zn z2 z6 z3U z5K z5J z4O z4z z4A z3T) (Zqp 1 (.ptr 0 0) (.ptr 2 0) (.ptr 3 0) [(ZU zl zn z7 zd zh z2 z6 zp zb), (Zq b1 zN zG), (Zq b2 z3u z3a), (Z3t z3U z5K z5J z4O z4z z4A z3T z5Z z52)]) := by
 unfold Z4E
 refine zf (ZDE ..)<|ze<|zi fun r1 hr1 => ?_
 obtain ⟨_, er1, _, rfl⟩ := Z2q (ByteArray.mk #[63]) zl zn z7 zd zh z2 z6 zp zb zu r1 hr1
 refine zc [0] (bv r1.1) [(ZU zl r1.2 z7 zd zh z2 z6 zp zb), (Zq b1 zN zG), (Zq b2 z3u z3a), (Z3t z3U z5K z5J z4O z4z z4A z3T z5Z z52)] er1 ?_
 refine za r1.1 ?_ ?_
 ·refine ze<|zq<|zt [(ZU zl r1.2 z7 zd zh z2 z6 zp zb), (Zq b1 zN zG), (Zq b2 z3u z3a), (Z3t z3U z5K z5J 1 z4z z4A z3T z5Z z52)] ?_
  exact zk (Z9A zl r1.2 z7 zd zh z2 z6 b1 b2 z3U z5K z5J 1 z4z z4A z3T zp zb zN zG z3u z3a z5Z z52 zu zi8 zfs zi9 zft)
 ·refine ze<|zi fun r2 hr2 => ?_
  obtain ⟨_, er2, _, rfl⟩ := Z2q (ByteArray.mk #[43]) zl r1.2 z7 zd zh z2 z6 zp zb zu r2 hr2
  refine zc [0] (bv r2.1) [(ZU zl r2.2 z7 zd zh z2 z6 zp zb), (Zq b1 zN zG), (Zq b2 z3u z3a), (Z3t z3U z5K z5J z4O z4z z4A z3T z5Z z52)] er2 ?_
  refine za r2.1 ?_ ?_
  ·refine ze<|zq<|zt [(ZU zl r2.2 z7 zd zh z2 z6 zp zb), (Zq b1 zN zG), (Zq b2 z3u z3a), (Z3t z3U z5K z5J 2 z4z z4A z3T z5Z z52)] ?_
   exact zk (Z9A zl r2.2 z7 zd zh z2 z6 b1 b2 z3U z5K z5J 2 z4z z4A z3T zp zb zN zG z3u z3a z5Z z52 zu zi8 zfs zi9 zft)
  ·exact zk (Z9A zl r2.2 z7 zd zh z2 z6 b1 b2 z3U z5K z5J z4O z4z z4A z3T zp zb zN zG z3u z3a z5Z z52 zu zi8 zfs zi9 zft)
def Z3H (x2 : Bool) (x7 : Int) (zl : List Int) (zn z2 z6 z3U z5K z5J z4O z4z : Int) (z4A : List Zi) (z3T : List Zj) : Option (Zj × Int × Int × Int) :=
 if (!x2) = true then
 ((Z1A 23 x7 zl z2 z6).bind fun r1 =>
 Z4E zl r1.1 r1.2.1 r1.2.2 z3U z5K z5J z4O z4z z4A z3T)
 else
 (Z4E zl zn z2 z6 z3U z5K z5J z4O z4z z4A z3T)
theorem Z7j x2 x7 zl zn z7 zd zh z2 z6 b1 b2 z3U z5K z5J z4O z4z z4A z3T zp zb zN zG z3u z3a z5Z z52 (zu : ZR zb = true) (zi8 : ZR z3u = true) (zfs : ZR z3a = true) (zi9 : ZR z5Z = true) (zft : ZR z52 = true) : Sim (Z2g zl z7 zd zh zp zb) (Z3H x2 x7 zl zn z2 z6 z3U z5K z5J z4O z4z z4A z3T) (Zk4 1 (.ptr 0 0) (bv x2) (.ptr 2 0) (iv x7) (.ptr 3 0) [(ZU zl zn z7 zd zh z2 z6 zp zb), (Zq b1 zN zG), (Zq b2 z3u z3a), (Z3t z3U z5K z5J z4O z4z z4A z3T z5Z z52)]) := by
 unfold Z3H
 refine zf (ZDD ..)<|ze<|zq ?_
 refine za (!x2) ?_ ?_
 ·refine ze<|zi fun r1 hr1 => ?_
  obtain ⟨_, er1, _, rfl⟩ := Z1G 23 x7 zl zn z7 zd zh z2 z6 zp zb zu r1 hr1
  refine zc [0] (.p (.tup [])) [(ZU zl r1.1 z7 zd zh r1.2.1 r1.2.2 zp zb), (Zq b1 zN zG), (Zq b2 z3u z3a), (Z3t z3U z5K z5J z4O z4z z4A z3T z5Z z52)] er1 ?_
  exact zk (Zd0 zl r1.1 z7 zd zh r1.2.1 r1.2.2 b1 b2 z3U z5K z5J z4O z4z z4A z3T zp zb zN zG z3u z3a z5Z z52 zu zi8 zfs zi9 zft)
 ·exact zk (Zd0 zl zn z7 zd zh z2 z6 b1 b2 z3U z5K z5J z4O z4z z4A z3T zp zb zN zG z3u z3a z5Z z52 zu zi8 zfs zi9 zft)
def Z73 (x1 : Zj) (x2 : Bool) (zl : List Int) (zn z7 zd : Int) (zh : List Zv) (z2 z6 : Int) : Option (Zj × Int × Int × Int) :=
 (Z2h (ByteArray.mk #[42]) zl zn).bind fun r1 =>
 if (r1.1) = true then
 (Z3H x2 zn zl r1.2 z2 z6 4 0 (-1) 0 0 ([] : List Zi) ([x1] : List Zj))
 else
 ((Z2h (ByteArray.mk #[43]) zl r1.2).bind fun r2 =>
 if (r2.1) = true then
 (Z3H x2 zn zl r2.2 z2 z6 4 1 (-1) 0 0 ([] : List Zi) ([x1] : List Zj))
 else
 ((Z2h (ByteArray.mk #[63]) zl r2.2).bind fun r3 =>
 if (r3.1) = true then
 (Z3H x2 zn zl r3.2 z2 z6 4 0 1 0 0 ([] : List Zi) ([x1] : List Zj))
 else
 ((Z2h (ByteArray.mk #[123]) zl r3.2).bind fun r4 =>
 if (r4.1) = true then
 ((Z8N zn zl r4.2 z7 zd zh z2 z6).bind fun r5 =>
 Z3H x2 zn zl r5.2.2.1 r5.2.2.2.1 r5.2.2.2.2 4 r5.1 r5.2.1 0 0 ([] : List Zi) ([x1] : List Zj))
 else
 (some (x1, r4.2, z2, z6)))))
theorem Zmh x1 x2 zl zn z7 zd zh z2 z6 z4m z3K zp zb (zu : ZR zb = true) : Sim (Z2g zl z7 zd zh zp zb) (Z73 x1 x2 zl zn z7 zd zh z2 z6) (EE 106 [(.ptr 0 0), (pA_ (ZO x1 z4m z3K)), (bv x2)] [(ZU zl zn z7 zd zh z2 z6 zp zb)]) := by
 unfold Z73
 refine zf (ZLW ..)<|ze<|zx (.ptr 1 0) [(ZU zl zn z7 zd zh z2 z6 zp zb), (Zq x1 z4m z3K)]<|zz (.ptr 2 0) [(ZU zl zn z7 zd zh z2 z6 zp zb), (Zq x1 z4m z3K), (Zq Z2c .nl .nl)]<|ze<|zq<|zq<|zq<|ze<|zq ?_
 refine zo (ZK .ex (([x1] : List Zj).map Z12)) ?_ (Eq.trans (b := some (ZK .ex [.agg (Z3M x1)])) (by kernel_rfl) (by simp only [Z90, Zng, Z6f]))
 refine zq<|zz (.ptr 3 0) [(ZU zl zn z7 zd zh z2 z6 zp zb), (Zq x1 z4m z3K), (Zq Z2c .nl .nl), (Zq Z2c .nl .nl)]<|zt [(ZU zl zn z7 zd zh z2 z6 zp zb), (Zq x1 z4m z3K), (Zq Z2c .nl .nl), (Z3t 4 0 (-1) 0 0 ([] : List Zi) ([x1] : List Zj) .nl .ex)]<|ze<|zi fun r1 hr1 => ?_
 obtain ⟨_, er1, _, rfl⟩ := Z2q (ByteArray.mk #[42]) zl zn z7 zd zh z2 z6 zp zb zu r1 hr1
 refine zc [0] (bv r1.1) [(ZU zl r1.2 z7 zd zh z2 z6 zp zb), (Zq x1 z4m z3K), (Zq Z2c .nl .nl), (Z3t 4 0 (-1) 0 0 ([] : List Zi) ([x1] : List Zj) .nl .ex)] er1 ?_
 refine za r1.1 ?_ ?_
 ·exact zk (Z7j x2 zn zl r1.2 z7 zd zh z2 z6 x1 Z2c 4 0 (-1) 0 0 ([] : List Zi) ([x1] : List Zj) zp zb z4m z3K .nl .nl .nl .ex zu rfl rfl rfl rfl)
 ·refine ze<|zi fun r2 hr2 => ?_
  obtain ⟨_, er2, _, rfl⟩ := Z2q (ByteArray.mk #[43]) zl r1.2 z7 zd zh z2 z6 zp zb zu r2 hr2
  refine zc [0] (bv r2.1) [(ZU zl r2.2 z7 zd zh z2 z6 zp zb), (Zq x1 z4m z3K), (Zq Z2c .nl .nl), (Z3t 4 0 (-1) 0 0 ([] : List Zi) ([x1] : List Zj) .nl .ex)] er2 ?_
  refine za r2.1 ?_ ?_
  ·refine ze<|zq<|zt [(ZU zl r2.2 z7 zd zh z2 z6 zp zb), (Zq x1 z4m z3K), (Zq Z2c .nl .nl), (Z3t 4 1 (-1) 0 0 ([] : List Zi) ([x1] : List Zj) .nl .ex)] ?_
   exact zk (Z7j x2 zn zl r2.2 z7 zd zh z2 z6 x1 Z2c 4 1 (-1) 0 0 ([] : List Zi) ([x1] : List Zj) zp zb z4m z3K .nl .nl .nl .ex zu rfl rfl rfl rfl)
  ·refine ze<|zi fun r3 hr3 => ?_
   obtain ⟨_, er3, _, rfl⟩ := Z2q (ByteArray.mk #[63]) zl r2.2 z7 zd zh z2 z6 zp zb zu r3 hr3
   refine zc [0] (bv r3.1) [(ZU zl r3.2 z7 zd zh z2 z6 zp zb), (Zq x1 z4m z3K), (Zq Z2c .nl .nl), (Z3t 4 0 (-1) 0 0 ([] : List Zi) ([x1] : List Zj) .nl .ex)] er3 ?_
   refine za r3.1 ?_ ?_
   ·refine ze<|zq<|zt [(ZU zl r3.2 z7 zd zh z2 z6 zp zb), (Zq x1 z4m z3K), (Zq Z2c .nl .nl), (Z3t 4 0 1 0 0 ([] : List Zi) ([x1] : List Zj) .nl .ex)] ?_
    exact zk (Z7j x2 zn zl r3.2 z7 zd zh z2 z6 x1 Z2c 4 0 1 0 0 ([] : List Zi) ([x1] : List Zj) zp zb z4m z3K .nl .nl .nl .ex zu rfl rfl rfl rfl)
   ·refine ze<|zi fun r4 hr4 => ?_
    obtain ⟨_, er4, _, rfl⟩ := Z2q (ByteArray.mk #[123]) zl r3.2 z7 zd zh z2 z6 zp zb zu r4 hr4
    refine zc [0] (bv r4.1) [(ZU zl r4.2 z7 zd zh z2 z6 zp zb), (Zq x1 z4m z3K), (Zq Z2c .nl .nl), (Z3t 4 0 (-1) 0 0 ([] : List Zi) ([x1] : List Zj) .nl .ex)] er4 ?_
    refine za r4.1 ?_ ?_
    ·refine ze<|zi fun r5 hr5 => ?_
     obtain ⟨_, er5, _, rfl⟩ := ZmW zn zl r4.2 z7 zd zh z2 z6 zp zb zu r5 hr5
     refine zc [0] (.p (.tup [(.v (.int .i64 r5.1)), (.v (.int .i64 r5.2.1))])) [(ZU zl r5.2.2.1 z7 zd zh r5.2.2.2.1 r5.2.2.2.2 zp zb), (Zq x1 z4m z3K), (Zq Z2c .nl .nl), (Z3t 4 0 (-1) 0 0 ([] : List Zi) ([x1] : List Zj) .nl .ex)] er5<|zq<|zq<|zq<|zt [(ZU zl r5.2.2.1 z7 zd zh r5.2.2.2.1 r5.2.2.2.2 zp zb), (Zq x1 z4m z3K), (Zq Z2c .nl .nl), (Z3t 4 r5.1 (-1) 0 0 ([] : List Zi) ([x1] : List Zj) .nl .ex)]<|zq<|zt [(ZU zl r5.2.2.1 z7 zd zh r5.2.2.2.1 r5.2.2.2.2 zp zb), (Zq x1 z4m z3K), (Zq Z2c .nl .nl), (Z3t 4 r5.1 r5.2.1 0 0 ([] : List Zi) ([x1] : List Zj) .nl .ex)] ?_
     exact zk (Z7j x2 zn zl r5.2.2.1 z7 zd zh r5.2.2.2.1 r5.2.2.2.2 x1 Z2c 4 r5.1 r5.2.1 0 0 ([] : List Zi) ([x1] : List Zj) zp zb z4m z3K .nl .nl .nl .ex zu rfl rfl rfl rfl)
    ·refine ze<|zq<|zt [(ZU zl r4.2 z7 zd zh z2 z6 zp zb), (Zq x1 z4m z3K), (Zq x1 (shrO z4m) (shrO z3K)), (Z3t 4 0 (-1) 0 0 ([] : List Zi) ([x1] : List Zj) .nl .ex)] ?_
     exact zr ((pA_ (ZO x1 .sh .sh)), [(ZU zl r4.2 z7 zd zh z2 z6 zp zb), (Zq x1 z4m z3K), (Zq x1 (shrO z4m) (shrO z3K)), (Z3t 4 0 (-1) 0 0 ([] : List Zi) ([x1] : List Zj) .nl .ex)]) ⟨_, rfl⟩
theorem Zfi x1 x2 zl zn z7 zd zh z2 z6 {r} (h : Z73 x1 x2 zl zn z7 zd zh z2 z6 = some r) : Z8O x1 x2 zl zn z7 zd zh z2 z6 = some r :=
 Z1c (fun _ _ ha hb => RRun.uniq (ZcL _ _ _ _ _ _) (ha .ex .ex .ex .ex rfl) (hb .ex .ex .ex .ex rfl)) (fun z4m z3K zp zb zu => Zmh x1 x2 zl zn z7 zd zh z2 z6 z4m z3K zp zb zu r h)
def Zbr (x4 zn z2 z6 : Int) : Option (Int × Int × Int × Int × Int) :=
 some (x4, (-1), zn, z2, z6)
theorem Zkg x4 zl zn z7 zd zh z2 z6 zp zb (zu : ZR zb = true) : Sim (Z42 zl z7 zd zh zp zb) (Zbr x4 zn z2 z6) (Zys 1 (iv x4) [(ZU zl zn z7 zd zh z2 z6 zp zb)]) := by
 unfold Zbr
 refine zf (ZFO ..)<|ze ?_
 exact zr ((.p (.tup [(.v (.int .i64 x4)), (.v (.int .i64 (-1)))])), [(ZU zl zn z7 zd zh z2 z6 zp zb)]) ⟨_, rfl⟩
def Z8T (x4 x5 zn z2 z6 : Int) : Option (Int × Int × Int × Int × Int) :=
 some (x4, x5, zn, z2, z6)
theorem ZcY x4 x5 zl zn z7 zd zh z2 z6 zp zb (zu : ZR zb = true) : Sim (Z42 zl z7 zd zh zp zb) (Z8T x4 x5 zn z2 z6) (Zqu 1 (iv x4) (iv x5) [(ZU zl zn z7 zd zh z2 z6 zp zb)]) := by
 unfold Z8T
 refine zf (ZDW ..)<|ze ?_
 exact zr ((.p (.tup [(.v (.int .i64 x4)), (.v (.int .i64 x5))])), [(ZU zl zn z7 zd zh z2 z6 zp zb)]) ⟨_, rfl⟩
def Z4a (x1 x4 x5 : Int) (zl : List Int) (z2 z6 : Int) : Option (Int × Int × Int × Int × Int) :=
 (Z1A 23 x1 zl z2 z6).bind fun r1 =>
 Z8T x4 x5 r1.1 r1.2.1 r1.2.2
theorem Z7i x1 x4 x5 zl zn z7 zd zh z2 z6 zp zb (zu : ZR zb = true) : Sim (Z42 zl z7 zd zh zp zb) (Z4a x1 x4 x5 zl z2 z6) (Zk8 1 (.ptr 0 0) (iv x1) (iv x4) (iv x5) [(ZU zl zn z7 zd zh z2 z6 zp zb)]) := by
 unfold Z4a
 refine zf (ZDV ..)<|ze<|zi fun r1 hr1 => ?_
 obtain ⟨_, er1, _, rfl⟩ := Z1G 23 x1 zl zn z7 zd zh z2 z6 zp zb zu r1 hr1
 refine zc [0] (.p (.tup [])) [(ZU zl r1.1 z7 zd zh r1.2.1 r1.2.2 zp zb)] er1 ?_
 exact zk (ZcY x4 x5 zl r1.1 z7 zd zh r1.2.1 r1.2.2 zp zb zu)
def Z3O (x1 x4 x5 : Int) (zl : List Int) (zn z2 z6 : Int) : Option (Int × Int × Int × Int × Int) :=
 if (decide (x4 < 0)) = true then
 (Z4a x1 x4 x5 zl z2 z6)
 else
 (if (decide (x5 < x4)) = true then
 (Z4a x1 x4 x5 zl z2 z6)
 else
 (if (decide (64 < x5)) = true then
 (Z4a x1 x4 x5 zl z2 z6)
 else
 ((Z2h (ByteArray.mk #[125]) zl zn).bind fun r1 =>
 if (!r1.1) = true then
 (Z4a x1 x4 x5 zl z2 z6)
 else
 (Z8T x4 x5 r1.2 z2 z6))))
theorem Z7H x1 x4 x5 zl zn z7 zd zh z2 z6 zp zb (zu : ZR zb = true) : Sim (Z42 zl z7 zd zh zp zb) (Z3O x1 x4 x5 zl zn z2 z6) (Zmv 1 (.ptr 0 0) (iv x1) (iv x4) (iv x5) [(ZU zl zn z7 zd zh z2 z6 zp zb)]) := by
 unfold Z3O
 refine zf (ZFQ ..)<|ze<|zq ?_
 refine za (decide (x4 < 0)) ?_ ?_
 ·exact zk (Z7i x1 x4 x5 zl zn z7 zd zh z2 z6 zp zb zu)
 ·refine zq ?_
  refine za (decide (x5 < x4)) ?_ ?_
  ·exact zk (Z7i x1 x4 x5 zl zn z7 zd zh z2 z6 zp zb zu)
  ·refine zq ?_
   refine za (decide (64 < x5)) ?_ ?_
   ·exact zk (Z7i x1 x4 x5 zl zn z7 zd zh z2 z6 zp zb zu)
   ·refine zi fun r1 hr1 => ?_
    obtain ⟨_, er1, _, rfl⟩ := Z2q (ByteArray.mk #[125]) zl zn z7 zd zh z2 z6 zp zb zu r1 hr1
    refine zc [0] (bv r1.1) [(ZU zl r1.2 z7 zd zh z2 z6 zp zb)] er1<|zq ?_
    refine za (!r1.1) ?_ ?_
    ·exact zk (Z7i x1 x4 x5 zl r1.2 z7 zd zh z2 z6 zp zb zu)
    ·exact zk (ZcY x4 x5 zl r1.2 z7 zd zh z2 z6 zp zb zu)
def Z5T (x1 x4 : Int) (zl : List Int) (zn z2 z6 : Int) : Option (Int × Int × Int × Int × Int) :=
 Z3O x1 x4 (-2) zl zn z2 z6
theorem Zdz x1 x4 zl zn z7 zd zh z2 z6 zp zb (zu : ZR zb = true) : Sim (Z42 zl z7 zd zh zp zb) (Z5T x1 x4 zl zn z2 z6) (ZtZ 1 (.ptr 0 0) (iv x1) (iv x4) [(ZU zl zn z7 zd zh z2 z6 zp zb)]) := by
 unfold Z5T
 refine zf (ZFP ..)<|ze ?_
 exact zk (Z7H x1 x4 (-2) zl zn z7 zd zh z2 z6 zp zb zu)
def Z94 (x1 x4 : Int) (zl : List Int) (zn z2 z6 : Int) : Option (Int × Int × Int × Int × Int) :=
 (Z2h (ByteArray.mk #[125]) zl zn).bind fun r1 =>
 if (r1.1) = true then
 (if (decide (x4 ≤ 64)) = true then
 (Zbr x4 r1.2 z2 z6)
 else
 (Z5T x1 x4 zl r1.2 z2 z6))
 else
 (Z5T x1 x4 zl r1.2 z2 z6)
theorem Zkf x1 x4 zl zn z7 zd zh z2 z6 zp zb (zu : ZR zb = true) : Sim (Z42 zl z7 zd zh zp zb) (Z94 x1 x4 zl zn z2 z6) (Zyr 1 (.ptr 0 0) (iv x1) (iv x4) [(ZU zl zn z7 zd zh z2 z6 zp zb)]) := by
 unfold Z94
 refine zf (ZFN ..)<|ze<|zi fun r1 hr1 => ?_
 obtain ⟨_, er1, _, rfl⟩ := Z2q (ByteArray.mk #[125]) zl zn z7 zd zh z2 z6 zp zb zu r1 hr1
 refine zc [0] (bv r1.1) [(ZU zl r1.2 z7 zd zh z2 z6 zp zb)] er1 ?_
 refine za r1.1 ?_ ?_
 ·refine zq ?_
  refine za (decide (x4 ≤ 64)) ?_ ?_
  ·exact zk (Zkg x4 zl r1.2 z7 zd zh z2 z6 zp zb zu)
  ·exact zk (Zdz x1 x4 zl r1.2 z7 zd zh z2 z6 zp zb zu)
 ·exact zk (Zdz x1 x4 zl r1.2 z7 zd zh z2 z6 zp zb zu)
def Z8D (x1 : Int) (zl : List Int) (zn z7 zd : Int) (zh : List Zv) (z2 z6 : Int) : Option (Int × Int × Int × Int × Int) :=
 (Z78 zl zn z7 zd zh z2 z6).bind fun r1 =>
 (Z2h (ByteArray.mk #[44]) zl r1.2).bind fun r2 =>
 if (r2.1) = true then
 ((Z78 zl r2.2 z7 zd zh z2 z6).bind fun r3 =>
 if (decide (r3.1 < 0)) = true then
 (if (decide (0 ≤ r1.1)) = true then
 (Z94 x1 r1.1 zl r3.2 z2 z6)
 else
 (Z3O x1 r1.1 r3.1 zl r3.2 z2 z6))
 else
 (Z3O x1 r1.1 r3.1 zl r3.2 z2 z6))
 else
 (Z3O x1 r1.1 r1.1 zl r2.2 z2 z6)
theorem Zmd x1 zl zn z7 zd zh z2 z6 zp zb (zu : ZR zb = true) : Sim (Z42 zl z7 zd zh zp zb) (Z8D x1 zl zn z7 zd zh z2 z6) (EE 133 [(.ptr 0 0), (iv x1)] [(ZU zl zn z7 zd zh z2 z6 zp zb)]) := by
 unfold Z8D
 refine zf (ZMm ..)<|ze<|ze<|zi fun r1 hr1 => ?_
 obtain ⟨_, er1, _, rfl⟩ := Zfh zl zn z7 zd zh z2 z6 zp zb zu r1 hr1
 refine zc [0] (iv r1.1) [(ZU zl r1.2 z7 zd zh z2 z6 zp zb)] er1<|ze<|ze<|zi fun r2 hr2 => ?_
 obtain ⟨_, er2, _, rfl⟩ := Z2q (ByteArray.mk #[44]) zl r1.2 z7 zd zh z2 z6 zp zb zu r2 hr2
 refine zc [0] (bv r2.1) [(ZU zl r2.2 z7 zd zh z2 z6 zp zb)] er2 ?_
 refine za r2.1 ?_ ?_
 ·refine ze<|zi fun r3 hr3 => ?_
  obtain ⟨_, er3, _, rfl⟩ := Zfh zl r2.2 z7 zd zh z2 z6 zp zb zu r3 hr3
  refine zc [0] (iv r3.1) [(ZU zl r3.2 z7 zd zh z2 z6 zp zb)] er3<|ze<|zq ?_
  refine za (decide (r3.1 < 0)) ?_ ?_
  ·refine zq ?_
   refine za (decide (0 ≤ r1.1)) ?_ ?_
   ·exact zk (Zkf x1 r1.1 zl r3.2 z7 zd zh z2 z6 zp zb zu)
   ·exact zk (Z7H x1 r1.1 r3.1 zl r3.2 z7 zd zh z2 z6 zp zb zu)
  ·exact zk (Z7H x1 r1.1 r3.1 zl r3.2 z7 zd zh z2 z6 zp zb zu)
 ·exact zk (Z7H x1 r1.1 r1.1 zl r2.2 z7 zd zh z2 z6 zp zb zu)
theorem Zfe x1 zl zn z7 zd zh z2 z6 {r} (h : Z8D x1 zl zn z7 zd zh z2 z6 = some r) : Z8N x1 zl zn z7 zd zh z2 z6 = some r :=
 Z1c (fun _ _ ha hb => RRun.uniq (Znm _ _ _ _ _ _) (ha .ex .ex rfl) (hb .ex .ex rfl)) (fun zp zb zu => Zmd x1 zl zn z7 zd zh z2 z6 zp zb zu r h)
def Zdp (zl : List Int) (zn z7 zd : Int) (zh : List Zv) (z2 z6 : Int) : Option (Int × Int) :=
 Z51 (-1) 0 zl zn z7 zd zh z2 z6
theorem Zmg zl zn z7 zd zh z2 z6 zp zb (zu : ZR zb = true) : Sim (Z2L zl z7 zd zh z2 z6 zp zb) (Zdp zl zn z7 zd zh z2 z6) (EE 156 [(.ptr 0 0)] [(ZU zl zn z7 zd zh z2 z6 zp zb)]) := by
 unfold Zdp
 refine zf (ZMH ..)<|ze<|ze<|ze ?_
 exact zk (ZdG (-1) 0 zl zn z7 zd zh z2 z6 zp zb zu)
theorem ZmZ zl zn z7 zd zh z2 z6 {r} (h : Zdp zl zn z7 zd zh z2 z6 = some r) : Z78 zl zn z7 zd zh z2 z6 = some r :=
 Z1c (fun _ _ ha hb => RRun.uniq (Z8v _ _ _ _ _ _ _ _) (ha .ex .ex rfl) (hb .ex .ex rfl)) (fun zp zb zu => Zmg zl zn z7 zd zh z2 z6 zp zb zu r h)
def Z98 (x3 x4 : Int) (zl : List Int) (zn z7 zd : Int) (zh : List Zv) (z2 z6 : Int) : Option (Int × Int) :=
 (Z49 zl zn).bind fun r1 =>
 Z51 ((IntKind.i64.wrap ((IntKind.i64.wrap ((IntKind.i64.wrap (10 * (max x3 0))) + r1.1)) - 48))) (IntKind.i64.wrap (x4 + 1)) zl r1.2 z7 zd zh z2 z6
theorem Zkl x3 x4 zl zn z7 zd zh z2 z6 zp zb (zu : ZR zb = true) : Sim (Z2L zl z7 zd zh z2 z6 zp zb) (Z98 x3 x4 zl zn z7 zd zh z2 z6) (ZyN 1 (.ptr 0 0) (iv x3) (iv x4) [(ZU zl zn z7 zd zh z2 z6 zp zb)]) := by
 unfold Z98
 refine zf (ZG3 ..)<|ze ?_
 refine zo (iv (max x3 0)) ?_ (ZtD _ _)
 refine zq<|zi fun r1 hr1 => ?_
 obtain ⟨_, er1, _, rfl⟩ := Z4J zl zn z7 zd zh z2 z6 zp zb zu r1 hr1
 refine zc [0] (iv r1.1) [(ZU zl r1.2 z7 zd zh z2 z6 zp zb)] er1<|zq<|zq<|ze<|zq ?_
 exact zk (ZdG ((IntKind.i64.wrap ((IntKind.i64.wrap ((IntKind.i64.wrap (10 * (max x3 0))) + r1.1)) - 48))) (IntKind.i64.wrap (x4 + 1)) zl r1.2 z7 zd zh z2 z6 zp zb zu)
def Z5U (x3 zn : Int) : Option (Int × Int) :=
 some (x3, zn)
theorem Z9Y x3 zl zn z7 zd zh z2 z6 zp zb (zu : ZR zb = true) : Sim (Z2L zl z7 zd zh z2 z6 zp zb) (Z5U x3 zn) (Zp5 1 (iv x3) [(ZU zl zn z7 zd zh z2 z6 zp zb)]) := by
 unfold Z5U
 refine zf (ZG4 ..)<|ze ?_
 exact zr ((iv x3), [(ZU zl zn z7 zd zh z2 z6 zp zb)]) ⟨_, rfl⟩
def Z97 (x3 x4 : Int) (zl : List Int) (zn z7 zd : Int) (zh : List Zv) (z2 z6 : Int) : Option (Int × Int) :=
 if (decide (x4 < 2)) = true then
 ((Z3n (Z23.mk zl zn z7 zd zh (Z1n.mk z2 z6))).bind fun r1 =>
 if (decide (48 ≤ r1)) = true then
 ((Z3n (Z23.mk zl zn z7 zd zh (Z1n.mk z2 z6))).bind fun r2 =>
 if (decide (r2 ≤ 57)) = true then
 (Z98 x3 x4 zl zn z7 zd zh z2 z6)
 else
 (Z5U x3 zn))
 else
 (Z5U x3 zn))
 else
 (Z5U x3 zn)
theorem Zkk x3 x4 zl zn z7 zd zh z2 z6 zp zb (zu : ZR zb = true) : Sim (Z2L zl z7 zd zh z2 z6 zp zb) (Z97 x3 x4 zl zn z7 zd zh z2 z6) (Zp4 1 (.ptr 0 0) (iv x3) (iv x4) [(ZU zl zn z7 zd zh z2 z6 zp zb)]) := by
 unfold Z97
 refine zf (ZG2 ..)<|ze<|zq ?_
 refine za (decide (x4 < 2)) ?_ ?_
 ·refine zi fun r1 hr1 => ?_
  obtain ⟨_, er1, _, rfl⟩ := Z3w (Z23.mk zl zn z7 zd zh (Z1n.mk z2 z6)) zp zb zu r1 hr1
  refine zc [0] (iv r1) [(ZU zl zn z7 zd zh z2 z6 zp zb)] er1<|zq ?_
  refine za (decide (48 ≤ r1)) ?_ ?_
  ·refine zi fun r2 hr2 => ?_
   obtain ⟨_, er2, _, rfl⟩ := Z3w (Z23.mk zl zn z7 zd zh (Z1n.mk z2 z6)) zp zb zu r2 hr2
   refine zc [0] (iv r2) [(ZU zl zn z7 zd zh z2 z6 zp zb)] er2<|zq ?_
   refine za (decide (r2 ≤ 57)) ?_ ?_
   ·exact zk (Zkl x3 x4 zl zn z7 zd zh z2 z6 zp zb zu)
   ·exact zk (Z9Y x3 zl zn z7 zd zh z2 z6 zp zb zu)
  ·exact zk (Z9Y x3 zl zn z7 zd zh z2 z6 zp zb zu)
 ·exact zk (Z9Y x3 zl zn z7 zd zh z2 z6 zp zb zu)
theorem Zl9 x3 x4 zl zn z7 zd zh z2 z6 {r} (h : Z97 x3 x4 zl zn z7 zd zh z2 z6 = some r) : Z51 x3 x4 zl zn z7 zd zh z2 z6 = some r :=
 Z1c (fun _ _ ha hb => RRun.uniq (Z8v _ _ _ _ _ _ _ _) (ha .ex .ex rfl) (hb .ex .ex rfl)) (fun zp zb zu => Zkk x3 x4 zl zn z7 zd zh z2 z6 zp zb zu r h)
def Ze1  : Option (Int) :=
 some (0)
theorem Zr9  : Sim (ZM) (Ze1) (ZBI 0  []) := by
 unfold Ze1
 refine zf (ZIY ..)<|ze ?_
 exact zr ((iv 0), []) ⟨_, rfl⟩
def ZhB (x0 : Z1M) : Option (Int) :=
 (Z5q x0.Root).bind fun r1 =>
 if (!r1) = true then
 (some (27))
 else
 ((Z7u x0.Root).bind fun r2 =>
 if (decide (2000 < (IntKind.i64.wrap (r2 + 3)))) = true then
 (some (28))
 else
 (Ze1))
theorem ZuK x0 z5w z4T : Sim (ZM) (ZhB x0) (EE 48 [(pA_ (Z4g x0 z5w z4T))] []) := by
 unfold ZhB
 refine zf (ZOR ..)<|ze<|zx (.ptr 0 0) [(Z1s x0 z5w z4T)]<|ze<|zq<|zq<|zi fun r1 hr1 => ?_
 obtain ⟨_, er1, _, rfl⟩ := Zli x0.Root .sh .sh r1 hr1
 refine zc [] (bv r1) [(Z1s x0 z5w z4T)] er1<|zq ?_
 refine za (!r1) ?_ ?_
 ·refine ze ?_
  exact zr ((iv 27), [(Z1s x0 z5w z4T)]) ⟨_, rfl⟩
 ·refine ze<|zq<|zq<|zi fun r2 hr2 => ?_
  obtain ⟨_, er2, _, rfl⟩ := ZnV x0.Root .sh .sh r2 hr2
  refine zc [] (iv r2) [(Z1s x0 z5w z4T)] er2<|zq<|zq ?_
  refine za (decide (2000 < (IntKind.i64.wrap (r2 + 3)))) ?_ ?_
  ·refine ze ?_
   exact zr ((iv 28), [(Z1s x0 z5w z4T)]) ⟨_, rfl⟩
  ·exact zk (Zr9 )
theorem ZvA x0 {r} (h : ZhB x0 = some r) : ZhH x0 = some r :=
 Z1c (fun _ _ ha hb => RRun.uniq Z2e (ha .ex .ex) (hb .ex .ex)) (fun z5w z4T => ZuK x0 z5w z4T r h)
def Zal  : Option (Bool) :=
 some (false)
theorem Zh5  : Sim (ZW) (Zal) (ZwV 0  []) := by
 unfold Zal
 refine zf (ZJ9 ..)<|ze ?_
 exact zr ((bv false), []) ⟨_, rfl⟩
def Z4H (b0 : Zj) : Option (Bool) :=
 (Z6V b0.Kids).bind fun r1 =>
 some (!r1)
theorem ZcS b0 z2v z20 : Sim (ZW) (Z4H b0) (ZsF 0 (.ptr 0 0) [(Zq b0 z2v z20)]) := by
 unfold Z4H
 refine zf (ZJa ..)<|ze<|zq<|zq<|zi fun r1 hr1 => ?_
 obtain ⟨_, er1, _, rfl⟩ := Zh7 b0.Kids .sh r1 hr1
 refine zc [] (bv r1) [(Zq b0 z2v z20)] er1<|zq ?_
 exact zr ((bv (!r1)), [(Zq b0 z2v z20)]) ⟨_, rfl⟩
def Zak (b0 : Zj) : Option (Bool) :=
 (lget b0.Kids 0).bind fun a1 =>
 (Z4v a1).bind fun r2 =>
 if (decide (r2.2 < 0)) = true then
 (Zal)
 else
 (if (decide (32 < r2.2)) = true then
 (Zal)
 else
 (Z4H b0))
theorem Zoz b0 z2v z20 : Sim (ZW) (Zak b0) (ZBU 0 (.ptr 0 0) [(Zq b0 z2v z20)]) := by
 unfold Zak
 refine zf (ZJ8 ..)<|ze<|zq<|zq<|zi fun a1 ha1 => ?_
 refine zo (.cptr (ZO a1 .sh .sh)) ?_ (et_ (Z3G (o := (shrO z20)) (k := .i64) (n := 7) (e := Z12) (cs := Z3M) Z7M (fun _ => rfl) (by decide) ha1))
 refine zq<|zi fun r2 hr2 => ?_
 obtain ⟨_, er2, _, rfl⟩ := Za1 a1 .sh .sh r2 hr2
 refine zc [] (.p (.tup [(.v (.int .i64 r2.1)), (.v (.int .i64 r2.2))])) [(Zq b0 z2v z20)] er2<|zq<|zq<|ze<|zq ?_
 refine za (decide (r2.2 < 0)) ?_ ?_
 ·exact zk (Zh5 )
 ·refine zq ?_
  refine za (decide (32 < r2.2)) ?_ ?_
  ·exact zk (Zh5 )
  ·exact zk (ZcS b0 z2v z20)
def ZeK (x0 : Zj) : Option (Bool) :=
 if (x0.Kind == 7) = true then
 (if (decide (2 ≤ x0.Mode)) = true then
 (Zak x0)
 else
 (Z4H x0))
 else
 (Z4H x0)
theorem Zsd x0 z2E z1V : Sim (ZW) (ZeK x0) (EE 71 [(pA_ (ZO x0 z2E z1V))] []) := by
 unfold ZeK
 refine zf (ZP9 ..)<|ze<|zx (.ptr 0 0) [(Zq x0 z2E z1V)]<|ze<|zq<|zq<|zq ?_
 refine za (x0.Kind == 7) ?_ ?_
 ·refine zq<|zq<|zq ?_
  refine za (decide (2 ≤ x0.Mode)) ?_ ?_
  ·exact zk (Zoz x0 z2E z1V)
  ·exact zk (ZcS x0 z2E z1V)
 ·exact zk (ZcS x0 z2E z1V)
theorem Zt3 x0 {r} (h : ZeK x0 = some r) : Z5q x0 = some r :=
 Z1c (fun _ _ ha hb => RRun.uniq Z2d (ha .ex .ex) (hb .ex .ex)) (fun z2E z1V => Zsd x0 z2E z1V r h)
def Z9o (x2 x3 : Int) : Option (Int × Int) :=
 some (x2, x3)
theorem ZaJ x2 x3 : Sim (Z43) (Z9o x2 x3) (Zmx 0 (iv x2) (iv x3) []) := by
 unfold Z9o
 refine zf (ZH1 ..)<|ze ?_
 exact zr ((.p (.tup [(.v (.int .i64 x2)), (.v (.int .i64 x3))])), []) ⟨_, rfl⟩
def ZhC (x0 : Zj) : Option (Int × Int) :=
 if (x0.Kind == 1) = true then
 (some (1, 1))
 else
 (if (x0.Kind == 6) = true then
 (some (0, (-1)))
 else
 (if (x0.Kind == 2) = true then
 (ZbL 0 0 x0.Kids (x0.Kids.length : Int) 0)
 else
 (if (x0.Kind == 3) = true then
 (ZaU 1048576 0 x0.Kids (x0.Kids.length : Int) 0)
 else
 (if (x0.Kind == 4) = true then
 ((lget x0.Kids 0).bind fun a1 =>
 (Z4v a1).bind fun r2 =>
 (Zep r2.2 x0.Hi).bind fun r3 =>
 some ((min (IntKind.i64.wrap (r2.1 * x0.Lo)) 1048576), r3))
 else
 (if (x0.Kind == 5) = true then
 (if (x0.Kind == 5) = true then
 ((lget x0.Kids 0).bind fun a4 =>
 (Z4v a4).bind fun r5 =>
 some (r5.1, r5.2))
 else
 (Z9o 0 0))
 else
 (if (x0.Kind == 8) = true then
 ((lget x0.Kids 0).bind fun a6 =>
 (Z4v a6).bind fun r7 =>
 some (r7.1, r7.2))
 else
 (Z9o 0 0)))))))
theorem ZuL x0 z2E z1V : Sim (Z43) (ZhC x0) (EE 93 [(pA_ (ZO x0 z2E z1V))] []) := by
 unfold ZhC
 refine zf (ZPp ..)<|ze<|zx (.ptr 0 0) [(Zq x0 z2E z1V)]<|ze<|zq<|zq<|ze<|zq ?_
 refine za (x0.Kind == 1) ?_ ?_
 ·refine ze ?_
  exact zr ((.p (.tup [(.v (.int .i64 1)), (.v (.int .i64 1))])), [(Zq x0 z2E z1V)]) ⟨_, rfl⟩
 ·refine ze<|zq ?_
  refine za (x0.Kind == 6) ?_ ?_
  ·refine ze ?_
   exact zr ((.p (.tup [(.v (.int .i64 0)), (.v (.int .i64 (-1)))])), [(Zq x0 z2E z1V)]) ⟨_, rfl⟩
  ·refine ze<|zq ?_
   refine za (x0.Kind == 2) ?_ ?_
   ·refine ze<|zq<|zq ?_
    refine zo (iv (x0.Kids.length : Int)) ?_ (et_ (Z2J (P := PP) (t := 96) (d := 98) (by kernel_rfl) Z12 (shrO z1V) x0.Kids))
    exact zk (Zk1 0 0 x0.Kids (x0.Kids.length : Int) 0 (shrO z1V))
   ·refine ze<|zq ?_
    refine za (x0.Kind == 3) ?_ ?_
    ·refine ze<|ze<|zq<|zq ?_
     refine zo (iv (x0.Kids.length : Int)) ?_ (et_ (Z2J (P := PP) (t := 96) (d := 98) (by kernel_rfl) Z12 (shrO z1V) x0.Kids))
     exact zk (Zje 1048576 0 x0.Kids (x0.Kids.length : Int) 0 (shrO z1V))
    ·refine ze<|zq ?_
     refine za (x0.Kind == 4) ?_ ?_
     ·refine ze<|zq<|zq<|zi fun a1 ha1 => ?_
      refine zo (.cptr (ZO a1 .sh .sh)) ?_ (et_ (Z3G (o := (shrO z1V)) (k := .i64) (n := 7) (e := Z12) (cs := Z3M) Z7M (fun _ => rfl) (by decide) ha1))
      refine zq<|zi fun r2 hr2 => ?_
      obtain ⟨_, er2, _, rfl⟩ := Za1 a1 .sh .sh r2 hr2
      refine zc [] (.p (.tup [(.v (.int .i64 r2.1)), (.v (.int .i64 r2.2))])) [(Zq x0 z2E z1V)] er2<|zq<|zq<|ze<|zq<|zq<|zq ?_
      refine zo (iv (min (IntKind.i64.wrap (r2.1 * x0.Lo)) 1048576)) ?_ (ZfB _ _)
      refine zq<|zq<|zi fun r3 hr3 => ?_
      obtain ⟨_, er3, _, rfl⟩ := ZvG r2.2 x0.Hi r3 hr3
      refine zc [] (iv r3) [(Zq x0 z2E z1V)] er3<|zg ?_
      exact zr ((.p (.tup [(.v (.int .i64 (min (IntKind.i64.wrap (r2.1 * x0.Lo)) 1048576))), (.v (.int .i64 r3))])), [(Zq x0 z2E z1V)]) ⟨_, rfl⟩
     ·refine ze<|zq ?_
      refine za (x0.Kind == 5) ?_ ?_
      ·refine za (x0.Kind == 5) ?_ ?_
       ·refine ze<|zq<|zq<|zi fun a4 ha4 => ?_
        refine zo (.cptr (ZO a4 .sh .sh)) ?_ (et_ (Z3G (o := (shrO z1V)) (k := .i64) (n := 7) (e := Z12) (cs := Z3M) Z7M (fun _ => rfl) (by decide) ha4))
        refine zq<|zi fun r5 hr5 => ?_
        obtain ⟨_, er5, _, rfl⟩ := Za1 a4 .sh .sh r5 hr5
        refine zc [] (.p (.tup [(.v (.int .i64 r5.1)), (.v (.int .i64 r5.2))])) [(Zq x0 z2E z1V)] er5<|zq<|zq ?_
        exact zr ((.p (.tup [(.v (.int .i64 r5.1)), (.v (.int .i64 r5.2))])), [(Zq x0 z2E z1V)]) ⟨_, rfl⟩
       ·exact zk (ZaJ 0 0)
      ·refine ze<|zq ?_
       refine za (x0.Kind == 8) ?_ ?_
       ·refine ze<|zq<|zq<|zi fun a6 ha6 => ?_
        refine zo (.cptr (ZO a6 .sh .sh)) ?_ (et_ (Z3G (o := (shrO z1V)) (k := .i64) (n := 7) (e := Z12) (cs := Z3M) Z7M (fun _ => rfl) (by decide) ha6))
        refine zq<|zi fun r7 hr7 => ?_
        obtain ⟨_, er7, _, rfl⟩ := Za1 a6 .sh .sh r7 hr7
        refine zc [] (.p (.tup [(.v (.int .i64 r7.1)), (.v (.int .i64 r7.2))])) [(Zq x0 z2E z1V)] er7<|zq<|zq ?_
        exact zr ((.p (.tup [(.v (.int .i64 r7.1)), (.v (.int .i64 r7.2))])), [(Zq x0 z2E z1V)]) ⟨_, rfl⟩
       ·exact zk (ZaJ 0 0)
theorem ZvD x0 {r} (h : ZhC x0 = some r) : Z4v x0 = some r :=
 Z1c (fun _ _ ha hb => RRun.uniq Zhw (ha .ex .ex) (hb .ex .ex)) (fun z2E z1V => ZuL x0 z2E z1V r h)
def Ze2 (x2 x3 : Int) (x23 : List Zj) (x24 x25 : Int) : Option (Int × Int) :=
 (lget x23 x25).bind fun a1 =>
 (Z4v a1).bind fun r2 =>
 (ZkN x3 r2.2).bind fun r3 =>
 ZbL (min (IntKind.i64.wrap (x2 + r2.1)) 1048576) r3 x23 x24 (IntKind.i64.wrap (x25 + 1))
theorem Zrb x2 x3 (x23 : List Zj) x24 x25 ox23 : Sim (Z43) (Ze2 x2 x3 x23 x24 x25) (ZCe 0 (iv x2) (iv x3) (ZK ox23 (x23.map Z12)) (iv x24) (iv x25) []) := by
 unfold Ze2
 refine zf (ZJt ..)<|ze<|zi fun a1 ha1 => ?_
 refine zo (.cptr (ZO a1 .sh .sh)) ?_ (et_ (Z3G (o := ox23) (k := .i64) (n := 7) (e := Z12) (cs := Z3M) Z7M (fun _ => rfl) (by decide) ha1))
 refine zq<|zz (.ptr 0 0) [(Zq Z2c .nl .nl)]<|zt [(Zq a1 .sh .sh)]<|ze<|zq<|zi fun r2 hr2 => ?_
 obtain ⟨_, er2, _, rfl⟩ := Za1 a1 .sh .sh r2 hr2
 refine zc [] (.p (.tup [(.v (.int .i64 r2.1)), (.v (.int .i64 r2.2))])) [(Zq a1 .sh .sh)] er2<|zq<|zq<|ze<|zq ?_
 refine zo (iv (min (IntKind.i64.wrap (x2 + r2.1)) 1048576)) ?_ (ZfB _ _)
 refine zi fun r3 hr3 => ?_
 obtain ⟨_, er3, _, rfl⟩ := ZzR x3 r2.2 r3 hr3
 refine zc [] (iv r3) [(Zq a1 .sh .sh)] er3<|ze<|zq ?_
 exact zk (Zk1 (min (IntKind.i64.wrap (x2 + r2.1)) 1048576) r3 x23 x24 (IntKind.i64.wrap (x25 + 1)) ox23)
def ZbB (x2 x3 : Int) (x23 : List Zj) (x24 x25 : Int) : Option (Int × Int) :=
 if (decide (x25 < x24)) = true then
 (Ze2 x2 x3 x23 x24 x25)
 else
 (Z9o x2 x3)
theorem Zra x2 x3 (x23 : List Zj) x24 x25 ox23 : Sim (Z43) (ZbB x2 x3 x23 x24 x25) (ZsR 0 (iv x2) (iv x3) (ZK ox23 (x23.map Z12)) (iv x24) (iv x25) []) := by
 unfold ZbB
 refine zf (ZJs ..)<|ze<|zq ?_
 refine za (decide (x25 < x24)) ?_ ?_
 ·exact zk (Zrb x2 x3 x23 x24 x25 ox23)
 ·exact zk (ZaJ x2 x3)
theorem Zk0 x2 x3 x23 x24 x25 {r} (h : ZbB x2 x3 x23 x24 x25 = some r) : ZbL x2 x3 x23 x24 x25 = some r :=
 Z1c (fun _ _ ha hb => RRun.uniq Zhw (ha .ex) (hb .ex)) (fun ox23 => Zra x2 x3 x23 x24 x25 ox23 r h)
def ZaS (x2 x3 : Int) (x45 : List Zj) (x46 x47 : Int) : Option (Int × Int) :=
 ZaU x2 x3 x45 x46 (IntKind.i64.wrap (x47 + 1))
theorem Ziv x2 x3 (x45 : List Zj) x46 x47 ox45 : Sim (Z43) (ZaS x2 x3 x45 x46 x47) (Zui 0 (iv x2) (iv x3) (ZK ox45 (x45.map Z12)) (iv x46) (iv x47) []) := by
 unfold ZaS
 refine zf (ZH0 ..)<|ze<|zq ?_
 exact zk (Zje x2 x3 x45 x46 (IntKind.i64.wrap (x47 + 1)) ox45)
def ZaR (x2 : Int) (x45 : List Zj) (x46 x47 : Int) : Option (Int × Int) :=
 ZaS x2 (-1) x45 x46 x47
theorem Ziu x2 (x45 : List Zj) x46 x47 ox45 : Sim (Z43) (ZaR x2 x45 x46 x47) (Zuh 0 (iv x2) (ZK ox45 (x45.map Z12)) (iv x46) (iv x47) []) := by
 unfold ZaR
 refine zf (ZGY ..)<|ze ?_
 exact zk (Ziv x2 (-1) x45 x46 x47 ox45)
def Zdd (x2 x3 x11 : Int) (x45 : List Zj) (x46 x47 : Int) : Option (Int × Int) :=
 ZaS x2 (max x3 x11) x45 x46 x47
theorem ZpN x2 x3 x11 (x45 : List Zj) x46 x47 ox45 : Sim (Z43) (Zdd x2 x3 x11 x45 x46 x47) (ZzL 0 (iv x2) (iv x3) (iv x11) (ZK ox45 (x45.map Z12)) (iv x46) (iv x47) []) := by
 unfold Zdd
 refine zf (ZGZ ..)<|ze ?_
 refine zo (iv (max x3 x11)) ?_ (ZtD _ _)
 exact zk (Ziv x2 (max x3 x11) x45 x46 x47 ox45)
def Zdc (x2 x3 : Int) (x45 : List Zj) (x46 x47 : Int) : Option (Int × Int) :=
 (lget x45 x47).bind fun a1 =>
 (Z4v a1).bind fun r2 =>
 if (decide (r2.2 < 0)) = true then
 (ZaR (min x2 r2.1) x45 x46 x47)
 else
 (if (decide (x3 < 0)) = true then
 (ZaR (min x2 r2.1) x45 x46 x47)
 else
 (Zdd (min x2 r2.1) x3 r2.2 x45 x46 x47))
theorem ZpM x2 x3 (x45 : List Zj) x46 x47 ox45 : Sim (Z43) (Zdc x2 x3 x45 x46 x47) (ZzK 0 (iv x2) (iv x3) (ZK ox45 (x45.map Z12)) (iv x46) (iv x47) []) := by
 unfold Zdc
 refine zf (ZGX ..)<|ze<|zi fun a1 ha1 => ?_
 refine zo (.cptr (ZO a1 .sh .sh)) ?_ (et_ (Z3G (o := ox45) (k := .i64) (n := 7) (e := Z12) (cs := Z3M) Z7M (fun _ => rfl) (by decide) ha1))
 refine zq<|zz (.ptr 0 0) [(Zq Z2c .nl .nl)]<|zt [(Zq a1 .sh .sh)]<|ze<|zq<|zi fun r2 hr2 => ?_
 obtain ⟨_, er2, _, rfl⟩ := Za1 a1 .sh .sh r2 hr2
 refine zc [] (.p (.tup [(.v (.int .i64 r2.1)), (.v (.int .i64 r2.2))])) [(Zq a1 .sh .sh)] er2<|zq<|zq<|ze ?_
 refine zo (iv (min x2 r2.1)) ?_ (ZfB _ _)
 refine ze<|zq ?_
 refine za (decide (r2.2 < 0)) ?_ ?_
 ·exact zk (Ziu (min x2 r2.1) x45 x46 x47 ox45)
 ·refine zq ?_
  refine za (decide (x3 < 0)) ?_ ?_
  ·exact zk (Ziu (min x2 r2.1) x45 x46 x47 ox45)
  ·exact zk (ZpN (min x2 r2.1) x3 r2.2 x45 x46 x47 ox45)
def ZaQ (x2 x3 : Int) (x45 : List Zj) (x46 x47 : Int) : Option (Int × Int) :=
 if (decide (x47 < x46)) = true then
 (Zdc x2 x3 x45 x46 x47)
 else
 (Z9o x2 x3)
theorem ZpL x2 x3 (x45 : List Zj) x46 x47 ox45 : Sim (Z43) (ZaQ x2 x3 x45 x46 x47) (Zpn 0 (iv x2) (iv x3) (ZK ox45 (x45.map Z12)) (iv x46) (iv x47) []) := by
 unfold ZaQ
 refine zf (ZGW ..)<|ze<|zq ?_
 refine za (decide (x47 < x46)) ?_ ?_
 ·exact zk (ZpM x2 x3 x45 x46 x47 ox45)
 ·exact zk (ZaJ x2 x3)
theorem Zjd x2 x3 x45 x46 x47 {r} (h : ZaQ x2 x3 x45 x46 x47 = some r) : ZaU x2 x3 x45 x46 x47 = some r :=
 Z1c (fun _ _ ha hb => RRun.uniq Zhw (ha .ex) (hb .ex)) (fun ox45 => ZpL x2 x3 x45 x46 x47 ox45 r h)
def ZbC  : Option (Int) :=
 some (0)
theorem Zjf  : Sim (ZM) (ZbC) (ZtJ 0  []) := by
 unfold ZbC
 refine zf (ZFm ..)<|ze ?_
 exact zr ((iv 0), []) ⟨_, rfl⟩
def ZbD  : Option (Int) :=
 some (-1)
theorem Zjg  : Sim (ZM) (ZbD) (ZtK 0  []) := by
 unfold ZbD
 refine zf (ZFo ..)<|ze ?_
 exact zr ((iv (-1)), []) ⟨_, rfl⟩
def Ze4 (x0 x1 : Int) : Option (Int) :=
 (Zfn (IntKind.i64.wrap (x0 * x1))).bind fun r1 =>
 some (r1)
theorem Zrf x0 x1 : Sim (ZM) (Ze4 x0 x1) (Zy1 0 (iv x0) (iv x1) []) := by
 unfold Ze4
 refine zf (ZFp ..)<|ze<|zq<|zi fun r1 hr1 => ?_
 obtain ⟨_, er1, _, rfl⟩ := ZnW (IntKind.i64.wrap (x0 * x1)) r1 hr1
 refine zc [] (iv r1) [] er1 ?_
 exact zr ((iv r1), []) ⟨_, rfl⟩
def Ze3 (x0 x1 : Int) : Option (Int) :=
 if (decide (x0 < 0)) = true then
 (ZbD)
 else
 (if (decide (x1 < 0)) = true then
 (ZbD)
 else
 (Ze4 x0 x1))
theorem Zre x0 x1 : Sim (ZM) (Ze3 x0 x1) (Zy0 0 (iv x0) (iv x1) []) := by
 unfold Ze3
 refine zf (ZFn ..)<|ze<|zq ?_
 refine za (decide (x0 < 0)) ?_ ?_
 ·exact zk (Zjg )
 ·refine zq ?_
  refine za (decide (x1 < 0)) ?_ ?_
  ·exact zk (Zjg )
  ·exact zk (Zrf x0 x1)
def ZhD (x0 x1 : Int) : Option (Int) :=
 if (x0 == 0) = true then
 (ZbC)
 else
 (if (x1 == 0) = true then
 (ZbC)
 else
 (Ze3 x0 x1))
theorem ZuM x0 x1 : Sim (ZM) (ZhD x0 x1) (EE 108 [(iv x0), (iv x1)] []) := by
 unfold ZhD
 refine zf (ZLZ ..)<|ze<|ze<|zq ?_
 refine za (x0 == 0) ?_ ?_
 ·exact zk (Zjf )
 ·refine zq ?_
  refine za (x1 == 0) ?_ ?_
  ·exact zk (Zjf )
  ·exact zk (Zre x0 x1)
theorem ZvF x0 x1 {r} (h : ZhD x0 x1 = some r) : Zep x0 x1 = some r :=
 Z1c (fun _ _ ha hb => RRun.uniq Z2e (ha ) (hb )) (ZuM x0 x1 r h)
def ZeL (x0 : Int) : Option (Int) :=
 some (x0)
theorem Zse x0 : Sim (ZM) (ZeL x0) (Zyt 0 (iv x0) []) := by
 unfold ZeL
 refine zf (ZFR ..)<|ze ?_
 exact zr ((iv x0), []) ⟨_, rfl⟩
def ZiY (x0 : Int) : Option (Int) :=
 if (decide (1048576 < x0)) = true then
 (some (-1))
 else
 (ZeL x0)
theorem ZvE x0 : Sim (ZM) (ZiY x0) (EE 134 [(iv x0)] []) := by
 unfold ZiY
 refine zf (ZMp ..)<|ze<|ze<|zq ?_
 refine za (decide (1048576 < x0)) ?_ ?_
 ·refine ze ?_
  exact zr ((iv (-1)), []) ⟨_, rfl⟩
 ·exact zk (Zse x0)
theorem Zxg x0 {r} (h : ZiY x0 = some r) : Zfn x0 = some r :=
 Z1c (fun _ _ ha hb => RRun.uniq Z2e (ha ) (hb )) (ZvE x0 r h)
def Zdq  : Option (Int) :=
 some (-1)
theorem Zlj  : Sim (ZM) (Zdq) (ZtI 0  []) := by
 unfold Zdq
 refine zf (ZFk ..)<|ze ?_
 exact zr ((iv (-1)), []) ⟨_, rfl⟩
def ZfL (x0 x1 : Int) : Option (Int) :=
 (Zfn (IntKind.i64.wrap (x0 + x1))).bind fun r1 =>
 some (r1)
theorem Zt4 x0 x1 : Sim (ZM) (ZfL x0 x1) (ZxW 0 (iv x0) (iv x1) []) := by
 unfold ZfL
 refine zf (ZFl ..)<|ze<|zq<|zi fun r1 hr1 => ?_
 obtain ⟨_, er1, _, rfl⟩ := ZnW (IntKind.i64.wrap (x0 + x1)) r1 hr1
 refine zc [] (iv r1) [] er1 ?_
 exact zr ((iv r1), []) ⟨_, rfl⟩
def ZkJ (x0 x1 : Int) : Option (Int) :=
 if (decide (x0 < 0)) = true then
 (Zdq)
 else
 (if (decide (x1 < 0)) = true then
 (Zdq)
 else
 (ZfL x0 x1))
theorem Zxh x0 x1 : Sim (ZM) (ZkJ x0 x1) (EE 107 [(iv x0), (iv x1)] []) := by
 unfold ZkJ
 refine zf (ZLX ..)<|ze<|ze<|zq ?_
 refine za (decide (x0 < 0)) ?_ ?_
 ·exact zk (Zlj )
 ·refine zq ?_
  refine za (decide (x1 < 0)) ?_ ?_
  ·exact zk (Zlj )
  ·exact zk (Zt4 x0 x1)
theorem ZzQ x0 x1 {r} (h : ZkJ x0 x1 = some r) : ZkN x0 x1 = some r :=
 Z1c (fun _ _ ha hb => RRun.uniq Z2e (ha ) (hb )) (Zxh x0 x1 r h)
def Z6M (x0 : List Zj) : Option (Bool) :=
 (Z81 x0).bind fun r1 =>
 some (decide (0 ≤ r1))
theorem Zgn (x0 : List Zj) ox0 : Sim (ZW) (Z6M x0) (EE 94 [(ZK ox0 (x0.map Z12)), (.clo 95 [] [])] []) := by
 unfold Z6M
 refine zf (ZPt ..)<|ze<|ze<|zi fun r1 hr1 => ?_
 obtain ⟨_, er1, _, rfl⟩ := Zji x0 .sh r1 hr1
 refine zc [] (iv r1) [] er1<|zq ?_
 exact zr ((bv (decide (0 ≤ r1))), []) ⟨_, rfl⟩
theorem Zh6 x0 {r} (h : Z6M x0 = some r) : Z6V x0 = some r :=
 Z1c (fun _ _ ha hb => RRun.uniq Z2d (ha .ex) (hb .ex)) (fun ox0 => Zgn x0 ox0 r h)
def Z7W (x0 : List Zj) : Option (Int) :=
 Z5r x0 (x0.length : Int) 0
theorem ZiI (x0 : List Zj) ox0 : Sim (ZM) (Z7W x0) (EE 109 [(ZK ox0 (x0.map Z12)), (.clo 95 [] [])] []) := by
 unfold Z7W
 refine zf (ZM1 ..)<|ze<|ze ?_
 refine zo (iv (x0.length : Int)) ?_ (et_ (Z2J (P := PP) (t := 96) (d := 98) (by kernel_rfl) Z12 (shrO ox0) x0))
 exact zk (Zbg x0 (x0.length : Int) 0 ox0)
theorem Zjh x0 {r} (h : Z7W x0 = some r) : Z81 x0 = some r :=
 Z1c (fun _ _ ha hb => RRun.uniq Z2e (ha .ex) (hb .ex)) (fun ox0 => ZiI x0 ox0 r h)
def Z6Q (x0 : List Zj) (x7 x8 : Int) : Option (Int) :=
 Z5r x0 x7 (IntKind.i64.wrap (x8 + 1))
theorem Zgx (x0 : List Zj) x7 x8 ox0 : Sim (ZM) (Z6Q x0 x7 x8) (Zy6 0 (ZK ox0 (x0.map Z12)) (.clo 95 [] []) (iv x7) (iv x8) []) := by
 unfold Z6Q
 refine zf (ZFs ..)<|ze<|zq ?_
 exact zk (Zbg x0 x7 (IntKind.i64.wrap (x8 + 1)) ox0)
def Z5j (x0 : List Zj) (x7 x8 : Int) : Option (Int) :=
 (lget x0 x8).bind fun a1 =>
 (Zdj a1).bind fun r2 =>
 if (r2) = true then
 (some (x8))
 else
 (Z6Q x0 x7 x8)
theorem Zgw (x0 : List Zj) x7 x8 ox0 : Sim (ZM) (Z5j x0 x7 x8) (Zy5 0 (ZK ox0 (x0.map Z12)) (.clo 95 [] []) (iv x7) (iv x8) []) := by
 unfold Z5j
 refine zf (ZFr ..)<|ze<|ze<|zi fun a1 ha1 => ?_
 refine zo (.cptr (ZO a1 .sh .sh)) ?_ (et_ (Z3G (o := (shrO ox0)) (k := .i64) (n := 7) (e := Z12) (cs := Z3M) Z7M (fun _ => rfl) (by decide) ha1))
 refine zq<|zi fun r2 hr2 => ?_
 obtain ⟨_, er2, _, rfl⟩ := Zrd a1 .sh .sh r2 hr2
 refine zv [] (bv r2) [] er2 ?_
 refine za r2 ?_ ?_
 ·refine ze ?_
  exact zr ((iv x8), []) ⟨_, rfl⟩
 ·exact zk (Zgx x0 x7 x8 ox0)
def Z9d  : Option (Int) :=
 some (-1)
theorem Zgy  : Sim (ZM) (Z9d) (Zy7 0  []) := by
 unfold Z9d
 refine zf (ZFt ..)<|ze ?_
 exact zr ((iv (-1)), []) ⟨_, rfl⟩
def Z4p (x0 : List Zj) (x7 x8 : Int) : Option (Int) :=
 if (decide (x8 < x7)) = true then
 (Z5j x0 x7 x8)
 else
 (Z9d)
theorem Zgv (x0 : List Zj) x7 x8 ox0 : Sim (ZM) (Z4p x0 x7 x8) (ZoX 0 (ZK ox0 (x0.map Z12)) (.clo 95 [] []) (iv x7) (iv x8) []) := by
 unfold Z4p
 refine zf (ZFq ..)<|ze<|zq ?_
 refine za (decide (x8 < x7)) ?_ ?_
 ·exact zk (Zgw x0 x7 x8 ox0)
 ·exact zk (Zgy )
theorem Z8a x0 x7 x8 {r} (h : Z4p x0 x7 x8 = some r) : Z5r x0 x7 x8 = some r :=
 Z1c (fun _ _ ha hb => RRun.uniq Z2e (ha .ex) (hb .ex)) (fun ox0 => Zgv x0 x7 x8 ox0 r h)
def Zde (x0 : Zj) : Option (Bool) :=
 (Z5q x0).bind fun r1 =>
 some (!r1)
theorem ZpO x0 z2E z1V : Sim (ZW) (Zde x0) (EE 95 [(pA_ (ZO x0 z2E z1V))] []) := by
 unfold Zde
 refine zf (ZPu ..)<|ze<|zx (.ptr 0 0) [(Zq x0 z2E z1V)]<|ze<|zq<|zi fun r1 hr1 => ?_
 obtain ⟨_, er1, _, rfl⟩ := Zli x0 .sh .sh r1 hr1
 refine zc [] (bv r1) [(Zq x0 z2E z1V)] er1<|zq ?_
 exact zr ((bv (!r1)), [(Zq x0 z2E z1V)]) ⟨_, rfl⟩
theorem Zrc x0 {r} (h : Zde x0 = some r) : Zdj x0 = some r :=
 Z1c (fun _ _ ha hb => RRun.uniq Z2d (ha .ex .ex) (hb .ex .ex)) (fun z2E z1V => ZpO x0 z2E z1V r h)
def ZmF (x0 : Zj) : Option (Int) :=
 Z80 0 x0.Kids (x0.Kids.length : Int) 0 x0
theorem ZvC x0 z2E z1V : Sim (ZM) (ZmF x0) (EE 72 [(pA_ (ZO x0 z2E z1V))] []) := by
 unfold ZmF
 refine zf (ZPa ..)<|ze<|zx (.ptr 0 0) [(Zq x0 z2E z1V)]<|ze<|ze<|zq<|zq ?_
 refine zo (iv (x0.Kids.length : Int)) ?_ (et_ (Z2J (P := PP) (t := 96) (d := 98) (by kernel_rfl) Z12 (shrO z1V) x0.Kids))
 exact zk (Zlh 0 x0.Kids (x0.Kids.length : Int) 0 x0 (shrO z1V) z2E z1V)
theorem Zjc x0 {r} (h : ZmF x0 = some r) : Z7u x0 = some r :=
 Z1c (fun _ _ ha hb => RRun.uniq Z2e (ha .ex .ex) (hb .ex .ex)) (fun z2E z1V => ZvC x0 z2E z1V r h)
def ZeJ (x3 : Int) (x8 : List Zj) (x9 x10 : Int) (b0 : Zj) : Option (Int) :=
 (lget x8 x10).bind fun a1 =>
 (Z7u a1).bind fun r2 =>
 Z80 (min (IntKind.i64.wrap (x3 + r2)) 1048576) x8 x9 (IntKind.i64.wrap (x10 + 1)) b0
theorem Zsb x3 (x8 : List Zj) x9 x10 b0 ox8 z2v z20 : Sim (ZM) (ZeJ x3 x8 x9 x10 b0) (ZBX 0 (.ptr 0 0) (iv x3) (ZK ox8 (x8.map Z12)) (iv x9) (iv x10) [(Zq b0 z2v z20)]) := by
 unfold ZeJ
 refine zf (ZJd ..)<|ze<|zi fun a1 ha1 => ?_
 refine zo (.cptr (ZO a1 .sh .sh)) ?_ (et_ (Z3G (o := ox8) (k := .i64) (n := 7) (e := Z12) (cs := Z3M) Z7M (fun _ => rfl) (by decide) ha1))
 refine zq<|zz (.ptr 1 0) [(Zq b0 z2v z20), (Zq Z2c .nl .nl)]<|zt [(Zq b0 z2v z20), (Zq a1 .sh .sh)]<|ze<|zq<|zi fun r2 hr2 => ?_
 obtain ⟨_, er2, _, rfl⟩ := ZnV a1 .sh .sh r2 hr2
 refine zc [] (iv r2) [(Zq b0 z2v z20), (Zq a1 .sh .sh)] er2<|zq ?_
 refine zo (iv (min (IntKind.i64.wrap (x3 + r2)) 1048576)) ?_ (ZfB _ _)
 refine ze<|zq ?_
 exact zk (Zlh (min (IntKind.i64.wrap (x3 + r2)) 1048576) x8 x9 (IntKind.i64.wrap (x10 + 1)) b0 ox8 z2v z20)
def Z1Z (x3 : Int) : Option (Int) :=
 some (min x3 1048576)
theorem Z2a x3 : Sim (ZM) (Z1Z x3) (Z5g 0 (iv x3) []) := by
 unfold Z1Z
 refine zf (ZGU ..)<|ze ?_
 refine zo (iv (min x3 1048576)) ?_ (ZfB _ _)
 exact zr ((iv (min x3 1048576)), []) ⟨_, rfl⟩
def Z2n (x3 : Int) (b0 : Zj) : Option (Int) :=
 if (b0.Mode == 2) = true then
 (Z1Z (IntKind.i64.wrap (x3 + 2)))
 else
 (Z1Z x3)
theorem Z2x x3 b0 z2v z20 : Sim (ZM) (Z2n x3 b0) (Z74 0 (.ptr 0 0) (iv x3) [(Zq b0 z2v z20)]) := by
 unfold Z2n
 refine zf (ZGT ..)<|ze<|zq<|zq<|zq ?_
 refine za (b0.Mode == 2) ?_ ?_
 ·refine ze<|zq ?_
  exact zk (Z2a (IntKind.i64.wrap (x3 + 2)))
 ·exact zk (Z2a x3)
def Z6L (x3 : Int) (b0 : Zj) : Option (Int) :=
 if (b0.Kind == 1) = true then
 (if (b0.Kind == 1) = true then
 (some (1))
 else
 (if (b0.Kind == 3) = true then
 (Z1Z ((IntKind.i64.wrap (x3 + (IntKind.i64.wrap (2 * (IntKind.i64.wrap ((b0.Kids.length : Int) - 1))))))))
 else
 (if (b0.Kind == 5) = true then
 (if (b0.Kind == 5) = true then
 (Z1Z (IntKind.i64.wrap (x3 + 2)))
 else
 (if (b0.Kind == 4) = true then
 (if (decide (b0.Hi < 0)) = true then
 (Z2n (IntKind.i64.wrap ((IntKind.i64.wrap (b0.Lo * x3)) + (IntKind.i64.wrap (x3 + 4)))) b0)
 else
 (Z2n ((IntKind.i64.wrap ((IntKind.i64.wrap (b0.Lo * x3)) + (IntKind.i64.wrap ((IntKind.i64.wrap (b0.Hi - b0.Lo)) * (IntKind.i64.wrap (x3 + 1))))))) b0))
 else
 (Z1Z x3)))
 else
 (if (b0.Kind == 7) = true then
 (if (b0.Kind == 7) = true then
 (Z1Z (IntKind.i64.wrap (x3 + 2)))
 else
 (if (b0.Kind == 4) = true then
 (if (decide (b0.Hi < 0)) = true then
 (Z2n (IntKind.i64.wrap ((IntKind.i64.wrap (b0.Lo * x3)) + (IntKind.i64.wrap (x3 + 4)))) b0)
 else
 (Z2n ((IntKind.i64.wrap ((IntKind.i64.wrap (b0.Lo * x3)) + (IntKind.i64.wrap ((IntKind.i64.wrap (b0.Hi - b0.Lo)) * (IntKind.i64.wrap (x3 + 1))))))) b0))
 else
 (Z1Z x3)))
 else
 (if (b0.Kind == 8) = true then
 (Z1Z (IntKind.i64.wrap (x3 + 2)))
 else
 (if (b0.Kind == 4) = true then
 (if (decide (b0.Hi < 0)) = true then
 (Z2n (IntKind.i64.wrap ((IntKind.i64.wrap (b0.Lo * x3)) + (IntKind.i64.wrap (x3 + 4)))) b0)
 else
 (Z2n ((IntKind.i64.wrap ((IntKind.i64.wrap (b0.Lo * x3)) + (IntKind.i64.wrap ((IntKind.i64.wrap (b0.Hi - b0.Lo)) * (IntKind.i64.wrap (x3 + 1))))))) b0))
 else
 (Z1Z x3)))))))
 else
 (if (b0.Kind == 6) = true then
 (if (b0.Kind == 6) = true then
 (some (1))
 else
 (if (b0.Kind == 3) = true then
 (Z1Z ((IntKind.i64.wrap (x3 + (IntKind.i64.wrap (2 * (IntKind.i64.wrap ((b0.Kids.length : Int) - 1))))))))
 else
 (if (b0.Kind == 5) = true then
 (if (b0.Kind == 5) = true then
 (Z1Z (IntKind.i64.wrap (x3 + 2)))
 else
 (if (b0.Kind == 4) = true then
 (if (decide (b0.Hi < 0)) = true then
 (Z2n (IntKind.i64.wrap ((IntKind.i64.wrap (b0.Lo * x3)) + (IntKind.i64.wrap (x3 + 4)))) b0)
 else
 (Z2n ((IntKind.i64.wrap ((IntKind.i64.wrap (b0.Lo * x3)) + (IntKind.i64.wrap ((IntKind.i64.wrap (b0.Hi - b0.Lo)) * (IntKind.i64.wrap (x3 + 1))))))) b0))
 else
 (Z1Z x3)))
 else
 (if (b0.Kind == 7) = true then
 (if (b0.Kind == 7) = true then
 (Z1Z (IntKind.i64.wrap (x3 + 2)))
 else
 (if (b0.Kind == 4) = true then
 (if (decide (b0.Hi < 0)) = true then
 (Z2n (IntKind.i64.wrap ((IntKind.i64.wrap (b0.Lo * x3)) + (IntKind.i64.wrap (x3 + 4)))) b0)
 else
 (Z2n ((IntKind.i64.wrap ((IntKind.i64.wrap (b0.Lo * x3)) + (IntKind.i64.wrap ((IntKind.i64.wrap (b0.Hi - b0.Lo)) * (IntKind.i64.wrap (x3 + 1))))))) b0))
 else
 (Z1Z x3)))
 else
 (if (b0.Kind == 8) = true then
 (Z1Z (IntKind.i64.wrap (x3 + 2)))
 else
 (if (b0.Kind == 4) = true then
 (if (decide (b0.Hi < 0)) = true then
 (Z2n (IntKind.i64.wrap ((IntKind.i64.wrap (b0.Lo * x3)) + (IntKind.i64.wrap (x3 + 4)))) b0)
 else
 (Z2n ((IntKind.i64.wrap ((IntKind.i64.wrap (b0.Lo * x3)) + (IntKind.i64.wrap ((IntKind.i64.wrap (b0.Hi - b0.Lo)) * (IntKind.i64.wrap (x3 + 1))))))) b0))
 else
 (Z1Z x3)))))))
 else
 (if (b0.Kind == 9) = true then
 (some (1))
 else
 (if (b0.Kind == 3) = true then
 (Z1Z ((IntKind.i64.wrap (x3 + (IntKind.i64.wrap (2 * (IntKind.i64.wrap ((b0.Kids.length : Int) - 1))))))))
 else
 (if (b0.Kind == 5) = true then
 (if (b0.Kind == 5) = true then
 (Z1Z (IntKind.i64.wrap (x3 + 2)))
 else
 (if (b0.Kind == 4) = true then
 (if (decide (b0.Hi < 0)) = true then
 (Z2n (IntKind.i64.wrap ((IntKind.i64.wrap (b0.Lo * x3)) + (IntKind.i64.wrap (x3 + 4)))) b0)
 else
 (Z2n ((IntKind.i64.wrap ((IntKind.i64.wrap (b0.Lo * x3)) + (IntKind.i64.wrap ((IntKind.i64.wrap (b0.Hi - b0.Lo)) * (IntKind.i64.wrap (x3 + 1))))))) b0))
 else
 (Z1Z x3)))
 else
 (if (b0.Kind == 7) = true then
 (if (b0.Kind == 7) = true then
 (Z1Z (IntKind.i64.wrap (x3 + 2)))
 else
 (if (b0.Kind == 4) = true then
 (if (decide (b0.Hi < 0)) = true then
 (Z2n (IntKind.i64.wrap ((IntKind.i64.wrap (b0.Lo * x3)) + (IntKind.i64.wrap (x3 + 4)))) b0)
 else
 (Z2n ((IntKind.i64.wrap ((IntKind.i64.wrap (b0.Lo * x3)) + (IntKind.i64.wrap ((IntKind.i64.wrap (b0.Hi - b0.Lo)) * (IntKind.i64.wrap (x3 + 1))))))) b0))
 else
 (Z1Z x3)))
 else
 (if (b0.Kind == 8) = true then
 (Z1Z (IntKind.i64.wrap (x3 + 2)))
 else
 (if (b0.Kind == 4) = true then
 (if (decide (b0.Hi < 0)) = true then
 (Z2n (IntKind.i64.wrap ((IntKind.i64.wrap (b0.Lo * x3)) + (IntKind.i64.wrap (x3 + 4)))) b0)
 else
 (Z2n ((IntKind.i64.wrap ((IntKind.i64.wrap (b0.Lo * x3)) + (IntKind.i64.wrap ((IntKind.i64.wrap (b0.Hi - b0.Lo)) * (IntKind.i64.wrap (x3 + 1))))))) b0))
 else
 (Z1Z x3))))))))
theorem Zsc x3 b0 z2v z20 : Sim (ZM) (Z6L x3 b0) (ZBY 0 (.ptr 0 0) (iv x3) [(Zq b0 z2v z20)]) := by
 unfold Z6L
 refine zf (ZJe ..)<|ze<|zq<|zq<|ze<|zq ?_
 refine za (b0.Kind == 1) ?_ ?_
 ·refine za (b0.Kind == 1) ?_ ?_
  ·refine ze ?_
   exact zr ((iv 1), [(Zq b0 z2v z20)]) ⟨_, rfl⟩
  ·refine ze<|zq ?_
   refine za (b0.Kind == 3) ?_ ?_
   ·refine ze<|zq<|zq ?_
    refine zo (iv (b0.Kids.length : Int)) ?_ (et_ (Z2J (P := PP) (t := 96) (d := 98) (by kernel_rfl) Z12 (shrO z20) b0.Kids))
    refine zq<|zq<|zq ?_
    exact zk (Z2a ((IntKind.i64.wrap (x3 + (IntKind.i64.wrap (2 * (IntKind.i64.wrap ((b0.Kids.length : Int) - 1))))))))
   ·refine ze<|zq ?_
    refine za (b0.Kind == 5) ?_ ?_
    ·refine za (b0.Kind == 5) ?_ ?_
     ·refine ze<|zq ?_
      exact zk (Z2a (IntKind.i64.wrap (x3 + 2)))
     ·refine ze<|zq ?_
      refine za (b0.Kind == 4) ?_ ?_
      ·refine ze<|ze<|zq<|zq<|zq<|ze<|zq<|zq<|zq ?_
       refine za (decide (b0.Hi < 0)) ?_ ?_
       ·refine ze<|zq<|zq ?_
        exact zk (Z2x (IntKind.i64.wrap ((IntKind.i64.wrap (b0.Lo * x3)) + (IntKind.i64.wrap (x3 + 4)))) b0 z2v z20)
       ·refine ze<|zq<|zq<|zq<|zq<|zq<|zq<|zq<|zq ?_
        exact zk (Z2x ((IntKind.i64.wrap ((IntKind.i64.wrap (b0.Lo * x3)) + (IntKind.i64.wrap ((IntKind.i64.wrap (b0.Hi - b0.Lo)) * (IntKind.i64.wrap (x3 + 1))))))) b0 z2v z20)
      ·exact zk (Z2a x3)
    ·refine ze<|zq ?_
     refine za (b0.Kind == 7) ?_ ?_
     ·refine za (b0.Kind == 7) ?_ ?_
      ·refine ze<|zq ?_
       exact zk (Z2a (IntKind.i64.wrap (x3 + 2)))
      ·refine ze<|zq ?_
       refine za (b0.Kind == 4) ?_ ?_
       ·refine ze<|ze<|zq<|zq<|zq<|ze<|zq<|zq<|zq ?_
        refine za (decide (b0.Hi < 0)) ?_ ?_
        ·refine ze<|zq<|zq ?_
         exact zk (Z2x (IntKind.i64.wrap ((IntKind.i64.wrap (b0.Lo * x3)) + (IntKind.i64.wrap (x3 + 4)))) b0 z2v z20)
        ·refine ze<|zq<|zq<|zq<|zq<|zq<|zq<|zq<|zq ?_
         exact zk (Z2x ((IntKind.i64.wrap ((IntKind.i64.wrap (b0.Lo * x3)) + (IntKind.i64.wrap ((IntKind.i64.wrap (b0.Hi - b0.Lo)) * (IntKind.i64.wrap (x3 + 1))))))) b0 z2v z20)
       ·exact zk (Z2a x3)
     ·refine ze<|zq ?_
      refine za (b0.Kind == 8) ?_ ?_
      ·refine ze<|zq ?_
       exact zk (Z2a (IntKind.i64.wrap (x3 + 2)))
      ·refine ze<|zq ?_
       refine za (b0.Kind == 4) ?_ ?_
       ·refine ze<|ze<|zq<|zq<|zq<|ze<|zq<|zq<|zq ?_
        refine za (decide (b0.Hi < 0)) ?_ ?_
        ·refine ze<|zq<|zq ?_
         exact zk (Z2x (IntKind.i64.wrap ((IntKind.i64.wrap (b0.Lo * x3)) + (IntKind.i64.wrap (x3 + 4)))) b0 z2v z20)
        ·refine ze<|zq<|zq<|zq<|zq<|zq<|zq<|zq<|zq ?_
         exact zk (Z2x ((IntKind.i64.wrap ((IntKind.i64.wrap (b0.Lo * x3)) + (IntKind.i64.wrap ((IntKind.i64.wrap (b0.Hi - b0.Lo)) * (IntKind.i64.wrap (x3 + 1))))))) b0 z2v z20)
       ·exact zk (Z2a x3)
 ·refine ze<|zq ?_
  refine za (b0.Kind == 6) ?_ ?_
  ·refine za (b0.Kind == 6) ?_ ?_
   ·refine ze ?_
    exact zr ((iv 1), [(Zq b0 z2v z20)]) ⟨_, rfl⟩
   ·refine ze<|zq ?_
    refine za (b0.Kind == 3) ?_ ?_
    ·refine ze<|zq<|zq ?_
     refine zo (iv (b0.Kids.length : Int)) ?_ (et_ (Z2J (P := PP) (t := 96) (d := 98) (by kernel_rfl) Z12 (shrO z20) b0.Kids))
     refine zq<|zq<|zq ?_
     exact zk (Z2a ((IntKind.i64.wrap (x3 + (IntKind.i64.wrap (2 * (IntKind.i64.wrap ((b0.Kids.length : Int) - 1))))))))
    ·refine ze<|zq ?_
     refine za (b0.Kind == 5) ?_ ?_
     ·refine za (b0.Kind == 5) ?_ ?_
      ·refine ze<|zq ?_
       exact zk (Z2a (IntKind.i64.wrap (x3 + 2)))
      ·refine ze<|zq ?_
       refine za (b0.Kind == 4) ?_ ?_
       ·refine ze<|ze<|zq<|zq<|zq<|ze<|zq<|zq<|zq ?_
        refine za (decide (b0.Hi < 0)) ?_ ?_
        ·refine ze<|zq<|zq ?_
         exact zk (Z2x (IntKind.i64.wrap ((IntKind.i64.wrap (b0.Lo * x3)) + (IntKind.i64.wrap (x3 + 4)))) b0 z2v z20)
        ·refine ze<|zq<|zq<|zq<|zq<|zq<|zq<|zq<|zq ?_
         exact zk (Z2x ((IntKind.i64.wrap ((IntKind.i64.wrap (b0.Lo * x3)) + (IntKind.i64.wrap ((IntKind.i64.wrap (b0.Hi - b0.Lo)) * (IntKind.i64.wrap (x3 + 1))))))) b0 z2v z20)
       ·exact zk (Z2a x3)
     ·refine ze<|zq ?_
      refine za (b0.Kind == 7) ?_ ?_
      ·refine za (b0.Kind == 7) ?_ ?_
       ·refine ze<|zq ?_
        exact zk (Z2a (IntKind.i64.wrap (x3 + 2)))
       ·refine ze<|zq ?_
        refine za (b0.Kind == 4) ?_ ?_
        ·refine ze<|ze<|zq<|zq<|zq<|ze<|zq<|zq<|zq ?_
         refine za (decide (b0.Hi < 0)) ?_ ?_
         ·refine ze<|zq<|zq ?_
          exact zk (Z2x (IntKind.i64.wrap ((IntKind.i64.wrap (b0.Lo * x3)) + (IntKind.i64.wrap (x3 + 4)))) b0 z2v z20)
         ·refine ze<|zq<|zq<|zq<|zq<|zq<|zq<|zq<|zq ?_
          exact zk (Z2x ((IntKind.i64.wrap ((IntKind.i64.wrap (b0.Lo * x3)) + (IntKind.i64.wrap ((IntKind.i64.wrap (b0.Hi - b0.Lo)) * (IntKind.i64.wrap (x3 + 1))))))) b0 z2v z20)
        ·exact zk (Z2a x3)
      ·refine ze<|zq ?_
       refine za (b0.Kind == 8) ?_ ?_
       ·refine ze<|zq ?_
        exact zk (Z2a (IntKind.i64.wrap (x3 + 2)))
       ·refine ze<|zq ?_
        refine za (b0.Kind == 4) ?_ ?_
        ·refine ze<|ze<|zq<|zq<|zq<|ze<|zq<|zq<|zq ?_
         refine za (decide (b0.Hi < 0)) ?_ ?_
         ·refine ze<|zq<|zq ?_
          exact zk (Z2x (IntKind.i64.wrap ((IntKind.i64.wrap (b0.Lo * x3)) + (IntKind.i64.wrap (x3 + 4)))) b0 z2v z20)
         ·refine ze<|zq<|zq<|zq<|zq<|zq<|zq<|zq<|zq ?_
          exact zk (Z2x ((IntKind.i64.wrap ((IntKind.i64.wrap (b0.Lo * x3)) + (IntKind.i64.wrap ((IntKind.i64.wrap (b0.Hi - b0.Lo)) * (IntKind.i64.wrap (x3 + 1))))))) b0 z2v z20)
        ·exact zk (Z2a x3)
  ·refine ze<|zq ?_
   refine za (b0.Kind == 9) ?_ ?_
   ·refine ze ?_
    exact zr ((iv 1), [(Zq b0 z2v z20)]) ⟨_, rfl⟩
   ·refine ze<|zq ?_
    refine za (b0.Kind == 3) ?_ ?_
    ·refine ze<|zq<|zq ?_
     refine zo (iv (b0.Kids.length : Int)) ?_ (et_ (Z2J (P := PP) (t := 96) (d := 98) (by kernel_rfl) Z12 (shrO z20) b0.Kids))
     refine zq<|zq<|zq ?_
     exact zk (Z2a ((IntKind.i64.wrap (x3 + (IntKind.i64.wrap (2 * (IntKind.i64.wrap ((b0.Kids.length : Int) - 1))))))))
    ·refine ze<|zq ?_
     refine za (b0.Kind == 5) ?_ ?_
     ·refine za (b0.Kind == 5) ?_ ?_
      ·refine ze<|zq ?_
       exact zk (Z2a (IntKind.i64.wrap (x3 + 2)))
      ·refine ze<|zq ?_
       refine za (b0.Kind == 4) ?_ ?_
       ·refine ze<|ze<|zq<|zq<|zq<|ze<|zq<|zq<|zq ?_
        refine za (decide (b0.Hi < 0)) ?_ ?_
        ·refine ze<|zq<|zq ?_
         exact zk (Z2x (IntKind.i64.wrap ((IntKind.i64.wrap (b0.Lo * x3)) + (IntKind.i64.wrap (x3 + 4)))) b0 z2v z20)
        ·refine ze<|zq<|zq<|zq<|zq<|zq<|zq<|zq<|zq ?_
         exact zk (Z2x ((IntKind.i64.wrap ((IntKind.i64.wrap (b0.Lo * x3)) + (IntKind.i64.wrap ((IntKind.i64.wrap (b0.Hi - b0.Lo)) * (IntKind.i64.wrap (x3 + 1))))))) b0 z2v z20)
       ·exact zk (Z2a x3)
     ·refine ze<|zq ?_
      refine za (b0.Kind == 7) ?_ ?_
      ·refine za (b0.Kind == 7) ?_ ?_
       ·refine ze<|zq ?_
        exact zk (Z2a (IntKind.i64.wrap (x3 + 2)))
       ·refine ze<|zq ?_
        refine za (b0.Kind == 4) ?_ ?_
        ·refine ze<|ze<|zq<|zq<|zq<|ze<|zq<|zq<|zq ?_
         refine za (decide (b0.Hi < 0)) ?_ ?_
         ·refine ze<|zq<|zq ?_
          exact zk (Z2x (IntKind.i64.wrap ((IntKind.i64.wrap (b0.Lo * x3)) + (IntKind.i64.wrap (x3 + 4)))) b0 z2v z20)
         ·refine ze<|zq<|zq<|zq<|zq<|zq<|zq<|zq<|zq ?_
          exact zk (Z2x ((IntKind.i64.wrap ((IntKind.i64.wrap (b0.Lo * x3)) + (IntKind.i64.wrap ((IntKind.i64.wrap (b0.Hi - b0.Lo)) * (IntKind.i64.wrap (x3 + 1))))))) b0 z2v z20)
        ·exact zk (Z2a x3)
      ·refine ze<|zq ?_
       refine za (b0.Kind == 8) ?_ ?_
       ·refine ze<|zq ?_
        exact zk (Z2a (IntKind.i64.wrap (x3 + 2)))
       ·refine ze<|zq ?_
        refine za (b0.Kind == 4) ?_ ?_
        ·refine ze<|ze<|zq<|zq<|zq<|ze<|zq<|zq<|zq ?_
         refine za (decide (b0.Hi < 0)) ?_ ?_
         ·refine ze<|zq<|zq ?_
          exact zk (Z2x (IntKind.i64.wrap ((IntKind.i64.wrap (b0.Lo * x3)) + (IntKind.i64.wrap (x3 + 4)))) b0 z2v z20)
         ·refine ze<|zq<|zq<|zq<|zq<|zq<|zq<|zq<|zq ?_
          exact zk (Z2x ((IntKind.i64.wrap ((IntKind.i64.wrap (b0.Lo * x3)) + (IntKind.i64.wrap ((IntKind.i64.wrap (b0.Hi - b0.Lo)) * (IntKind.i64.wrap (x3 + 1))))))) b0 z2v z20)
        ·exact zk (Z2a x3)
def Zcx (x3 : Int) (x8 : List Zj) (x9 x10 : Int) (b0 : Zj) : Option (Int) :=
 if (decide (x10 < x9)) = true then
 (ZeJ x3 x8 x9 x10 b0)
 else
 (Z6L x3 b0)
theorem Zsa x3 (x8 : List Zj) x9 x10 b0 ox8 z2v z20 : Sim (ZM) (Zcx x3 x8 x9 x10 b0) (ZsG 0 (.ptr 0 0) (iv x3) (ZK ox8 (x8.map Z12)) (iv x9) (iv x10) [(Zq b0 z2v z20)]) := by
 unfold Zcx
 refine zf (ZJc ..)<|ze<|zq ?_
 refine za (decide (x10 < x9)) ?_ ?_
 ·exact zk (Zsb x3 x8 x9 x10 b0 ox8 z2v z20)
 ·exact zk (Zsc x3 b0 z2v z20)
theorem Zlg x3 x8 x9 x10 b0 {r} (h : Zcx x3 x8 x9 x10 b0 = some r) : Z80 x3 x8 x9 x10 b0 = some r :=
 Z1c (fun _ _ ha hb => RRun.uniq Z2e (ha .ex .ex .ex) (hb .ex .ex .ex)) (fun ox8 z2v z20 => Zsa x3 x8 x9 x10 b0 ox8 z2v z20 r h)
def Z7b (zQ : List ZC) : Option (Int) :=
 some (IntKind.i64.wrap ((zQ.length : Int) - 1))
theorem ZgZ (zQ : List ZC) z1S zV z1B (z3B : ZR z1B = true) : Sim (Z79 zQ z1S zV z1B) (Z7b zQ) (EE 35 [(.ptr 0 0)] [[(ZK z1B (zQ.map ZF)), (.mp 1), (iv z1S)], (rM_ ZD (zV))]) := by
 unfold Z7b
 refine zf (ZOJ ..)<|ze<|ze<|zq<|zq<|zq ?_
 refine zo (iv (zQ.length : Int)) ?_ (et_ (Z2J (P := PP) (t := 121) (d := 24) (by kernel_rfl) ZF (shrO z1B) zQ))
 refine zq ?_
 exact zr ((iv (IntKind.i64.wrap ((zQ.length : Int) - 1))), [[(ZK z1B (zQ.map ZF)), (.mp 1), (iv z1S)], (rM_ ZD zV)]) ⟨_, rfl⟩
theorem ZhV zQ {r} (h : Z7b zQ = some r) : Z41 zQ = some r :=
 Z1c (fun _ _ ha hb => RRun.uniq (ZiC _ _ _ _) (ha default default .ex rfl) (hb default default .ex rfl)) (fun z1S zV z1B z3B => ZgZ zQ z1S zV z1B z3B r h)
def Z9C (x0 : List Z13) : Option (Bool) :=
 Z5h x0 x0 (x0.length : Int) 0
theorem Zl4 (x0 : List Z13) ox0 : Sim (ZW) (Z9C x0) (EE 30 [(ZK ox0 (x0.map Z24))] []) := by
 unfold Z9C
 refine zf (ZOB ..)<|ze<|ze ?_
 refine zo (iv (x0.length : Int)) ?_ (et_ (Z2J (P := PP) (t := 59) (d := 61) (by kernel_rfl) Z24 (shrO ox0) x0))
 exact zk (ZcW x0 x0 (x0.length : Int) 0 ox0 (shrO ox0))
theorem ZlE x0 {r} (h : Z9C x0 = some r) : Z9D x0 = some r :=
 Z1c (fun _ _ ha hb => RRun.uniq Z2d (ha .ex) (hb .ex)) (fun ox0 => Zl4 x0 ox0 r h)
def Z5f  : Option (Bool) :=
 some (false)
theorem ZcF  : Sim (ZW) (Z5f) (ZwJ 0  []) := by
 unfold Z5f
 refine zf (ZIJ ..)<|ze ?_
 exact zr ((bv false), []) ⟨_, rfl⟩
def Z8h (x0 x7 : List Z13) (x8 x9 : Int) (b0 : Z13) : Option (Bool) :=
 Z6l x0 x7 x8 x9 b0.Delta.Put (b0.Delta.Put.length : Int) 0
theorem Zj8 (x0 x7 : List Z13) x8 x9 b0 ox0 ox7 zhK zzW : Sim (ZW) (Z8h x0 x7 x8 x9 b0) (ZBu 0 (ZK ox0 (x0.map Z24)) (.ptr 0 0) (ZK ox7 (x7.map Z24)) (iv x8) (iv x9) [(Z1o b0 zhK zzW)]) := by
 unfold Z8h
 refine zf (ZIK ..)<|ze<|zq<|zq<|zq ?_
 refine zo (iv (b0.Delta.Put.length : Int)) ?_ (et_ (Z2J (P := PP) (t := 22) (d := 43) (by kernel_rfl) ZE (shrO zhK) b0.Delta.Put))
 exact zk (ZcX x0 x7 x8 x9 b0.Delta.Put (b0.Delta.Put.length : Int) 0 ox0 ox7 (shrO zhK))
def Z5e (x0 x7 : List Z13) (x8 x9 : Int) : Option (Bool) :=
 (lget x7 x9).bind fun a1 =>
 if (decide (20 < (a1.Delta.Put.length : Int))) = true then
 (Z5f)
 else
 (if (decide (20 < (a1.Delta.Drop.length : Int))) = true then
 (Z5f)
 else
 (Z8h x0 x7 x8 x9 a1))
theorem Zj7 (x0 x7 : List Z13) x8 x9 ox0 ox7 : Sim (ZW) (Z5e x0 x7 x8 x9) (ZBt 0 (ZK ox0 (x0.map Z24)) (ZK ox7 (x7.map Z24)) (iv x8) (iv x9) []) := by
 unfold Z5e
 refine zf (ZII ..)<|ze<|zi fun a1 ha1 => ?_
 refine zo (.cptr (Z3Z a1 .sh .sh)) ?_ (et_ (Z3G (o := ox7) (k := .i64) (n := 9) (e := Z24) (cs := Zch) (fun _ => rfl) (fun _ => rfl) (by decide) ha1))
 refine zq<|zz (.ptr 0 0) [(Z1o ZLo .nl .nl)]<|zt [(Z1o a1 .sh .sh)]<|ze<|zq<|zq<|zq ?_
 refine zo (iv (a1.Delta.Put.length : Int)) ?_ (et_ (Z2J (P := PP) (t := 22) (d := 43) (by kernel_rfl) ZE .sh a1.Delta.Put))
 refine zq ?_
 refine za (decide (20 < (a1.Delta.Put.length : Int))) ?_ ?_
 ·exact zk (ZcF )
 ·refine zq<|zq<|zq ?_
  refine zo (iv (a1.Delta.Drop.length : Int)) ?_ (et_ (Z2J (P := PP) (t := 27) (d := 3) (by kernel_rfl) (eI .i64) .sh a1.Delta.Drop))
  refine zq ?_
  refine za (decide (20 < (a1.Delta.Drop.length : Int))) ?_ ?_
  ·exact zk (ZcF )
  ·exact zk (Zj8 x0 x7 x8 x9 a1 ox0 ox7 .sh .sh)
def Z7V (x0 : List Z13) : Option (Bool) :=
 some (decide ((x0.length : Int) ≤ 70))
theorem ZiF (x0 : List Z13) ox0 : Sim (ZW) (Z7V x0) (ZzE 0 (ZK ox0 (x0.map Z24)) []) := by
 unfold Z7V
 refine zf (ZGO ..)<|ze ?_
 refine zo (iv (x0.length : Int)) ?_ (et_ (Z2J (P := PP) (t := 59) (d := 61) (by kernel_rfl) Z24 (shrO ox0) x0))
 refine zq ?_
 exact zr ((bv (decide ((x0.length : Int) ≤ 70))), []) ⟨_, rfl⟩
def Z4u (x0 x7 : List Z13) (x8 x9 : Int) : Option (Bool) :=
 if (decide (x9 < x8)) = true then
 (Z5e x0 x7 x8 x9)
 else
 (Z7V x0)
theorem Zj5 (x0 x7 : List Z13) x8 x9 ox0 ox7 : Sim (ZW) (Z4u x0 x7 x8 x9) (ZsA 0 (ZK ox0 (x0.map Z24)) (ZK ox7 (x7.map Z24)) (iv x8) (iv x9) []) := by
 unfold Z4u
 refine zf (ZIG ..)<|ze<|zq ?_
 refine za (decide (x9 < x8)) ?_ ?_
 ·exact zk (Zj7 x0 x7 x8 x9 ox0 ox7)
 ·exact zk (ZiF x0 ox0)
theorem Z7h x0 x7 x8 x9 {r} (h : Z4u x0 x7 x8 x9 = some r) : Z5h x0 x7 x8 x9 = some r :=
 Z1c (fun _ _ ha hb => RRun.uniq Z2d (ha .ex .ex) (hb .ex .ex)) (fun ox0 ox7 => Zj5 x0 x7 x8 x9 ox0 ox7 r h)
def Z7T (x0 x7 : List Z13) (x8 x9 : Int) (x27 : List Zw) (x28 x29 : Int) : Option (Bool) :=
 Z6l x0 x7 x8 x9 x27 x28 (IntKind.i64.wrap (x29 + 1))
theorem ZiD (x0 x7 : List Z13) x8 x9 (x27 : List Zw) x28 x29 ox0 ox7 ox27 : Sim (ZW) (Z7T x0 x7 x8 x9 x27 x28 x29) (ZzC 0 (ZK ox0 (x0.map Z24)) (ZK ox7 (x7.map Z24)) (iv x8) (iv x9) (ZK ox27 (x27.map ZE)) (iv x28) (iv x29) []) := by
 unfold Z7T
 refine zf (ZGM ..)<|ze<|zq ?_
 exact zk (ZcX x0 x7 x8 x9 x27 x28 (IntKind.i64.wrap (x29 + 1)) ox0 ox7 ox27)
def Z6k (x0 x7 : List Z13) (x8 x9 : Int) (x27 : List Zw) (x28 x29 : Int) : Option (Bool) :=
 (lget x27 x29).bind fun a1 =>
 if (decide (300 < (a1.Pattern.size : Int))) = true then
 (some (false))
 else
 (Z7T x0 x7 x8 x9 x27 x28 x29)
theorem Zj9 (x0 x7 : List Z13) x8 x9 (x27 : List Zw) x28 x29 ox0 ox7 ox27 : Sim (ZW) (Z6k x0 x7 x8 x9 x27 x28 x29) (ZBv 0 (ZK ox0 (x0.map Z24)) (ZK ox7 (x7.map Z24)) (iv x8) (iv x9) (ZK ox27 (x27.map ZE)) (iv x28) (iv x29) []) := by
 unfold Z6k
 refine zf (ZIL ..)<|ze<|zi fun a1 ha1 => ?_
 refine zo (.cptr (Z1U a1)) ?_ (et_ (Z3G (o := ox27) (k := .i64) (n := 5) (e := ZE) (cs := Z4Z) (fun _ => rfl) (fun _ => rfl) (by decide) ha1))
 refine zq<|zz (.ptr 0 0) [(Z1L (Zw.mk 0 0 0 0 (ByteArray.mk #[])))]<|zt [(Z1L a1)]<|ze<|zq<|zq<|zq<|zq ?_
 refine za (decide (300 < (a1.Pattern.size : Int))) ?_ ?_
 ·refine ze ?_
  exact zr ((bv false), [(Z1L a1)]) ⟨_, rfl⟩
 ·exact zk (ZiD x0 x7 x8 x9 x27 x28 x29 ox0 ox7 ox27)
def Z7U (x0 x7 : List Z13) (x8 x9 : Int) : Option (Bool) :=
 Z5h x0 x7 x8 (IntKind.i64.wrap (x9 + 1))
theorem ZiE (x0 x7 : List Z13) x8 x9 ox0 ox7 : Sim (ZW) (Z7U x0 x7 x8 x9) (ZzD 0 (ZK ox0 (x0.map Z24)) (ZK ox7 (x7.map Z24)) (iv x8) (iv x9) []) := by
 unfold Z7U
 refine zf (ZGN ..)<|ze<|zq ?_
 exact zk (ZcW x0 x7 x8 (IntKind.i64.wrap (x9 + 1)) ox0 ox7)
def Z5d (x0 x7 : List Z13) (x8 x9 : Int) (x27 : List Zw) (x28 x29 : Int) : Option (Bool) :=
 if (decide (x29 < x28)) = true then
 (Z6k x0 x7 x8 x9 x27 x28 x29)
 else
 (Z7U x0 x7 x8 x9)
theorem Zj6 (x0 x7 : List Z13) x8 x9 (x27 : List Zw) x28 x29 ox0 ox7 ox27 : Sim (ZW) (Z5d x0 x7 x8 x9 x27 x28 x29) (ZsB 0 (ZK ox0 (x0.map Z24)) (ZK ox7 (x7.map Z24)) (iv x8) (iv x9) (ZK ox27 (x27.map ZE)) (iv x28) (iv x29) []) := by
 unfold Z5d
 refine zf (ZIH ..)<|ze<|zq ?_
 refine za (decide (x29 < x28)) ?_ ?_
 ·exact zk (Zj9 x0 x7 x8 x9 x27 x28 x29 ox0 ox7 ox27)
 ·exact zk (ZiE x0 x7 x8 x9 ox0 ox7)
theorem Z9z x0 x7 x8 x9 x27 x28 x29 {r} (h : Z5d x0 x7 x8 x9 x27 x28 x29 = some r) : Z6l x0 x7 x8 x9 x27 x28 x29 = some r :=
 Z1c (fun _ _ ha hb => RRun.uniq Z2d (ha .ex .ex .ex) (hb .ex .ex .ex)) (fun ox0 ox7 ox27 => Zj6 x0 x7 x8 x9 x27 x28 x29 ox0 ox7 ox27 r h)
def Z5Q  : Option (ZC × Bool) :=
 some ((ZC.mk 0 0 0 0 ([] : List Zw)), false)
theorem ZbF (zQ : List ZC) z1S zV b2 z1B zJ (z3B : ZR z1B = true) (z1q : ZR zJ = true) : Sim (Z5A zQ z1S zV z1B) (Z5Q) (ZwP 2 (.ptr 2 0) [[(ZK z1B (zQ.map ZF)), (.mp 1), (iv z1S)], (rM_ ZD (zV)), (Zx b2 zJ)]) := by
 unfold Z5Q
 refine zf (ZIQ ..)<|ze<|zq<|zt [[(ZK z1B (zQ.map ZF)), (.mp 1), (iv z1S)], (rM_ ZD zV), (Zx Z4i .nl)] ?_
 exact zr ((.p (.tup [(.agg (Z1z Z4i .sh)), (.v (.bool false))])), [[(ZK z1B (zQ.map ZF)), (.mp 1), (iv z1S)], (rM_ ZD zV), (Zx Z4i .nl)]) ⟨_, rfl⟩
def Z7y (x1 : Int) (zQ : List ZC) : Option (ZC × Bool) :=
 (lget zQ x1).bind fun a1 =>
 (ZeC a1.Rules).bind fun r2 =>
 some ((ZC.mk a1.Default a1.Closed a1.Fuel a1.Stack r2), true)
theorem ZhU x1 (zQ : List ZC) z1S zV b2 z1B zJ (z3B : ZR z1B = true) (z1q : ZR zJ = true) : Sim (Z5A zQ z1S zV z1B) (Z7y x1 zQ) (ZBC 2 (.ptr 0 0) (iv x1) (.ptr 2 0) [[(ZK z1B (zQ.map ZF)), (.mp 1), (iv z1S)], (rM_ ZD (zV)), (Zx b2 zJ)]) := by
 unfold Z7y
 refine zf (ZIR ..)<|ze<|zq<|zq<|zq<|zi fun a1 ha1 => ?_
 refine zo (.cptr (Z1z a1 .sh)) ?_ (et_ (Z3G (o := (shrO z1B)) (k := .i64) (n := 5) (e := ZF) (cs := ZgS) (fun _ => rfl) (fun _ => rfl) (by decide) ha1))
 refine zq<|zz (.ptr 3 0) [[(ZK z1B (zQ.map ZF)), (.mp 1), (iv z1S)], (rM_ ZD zV), (Zx b2 zJ), (Zx Z4i .nl)]<|zt [[(ZK z1B (zQ.map ZF)), (.mp 1), (iv z1S)], (rM_ ZD zV), (Zx b2 zJ), (Zx a1 .sh)]<|ze<|zq<|zq<|zi fun r2 hr2 => ?_
 obtain ⟨_, er2, _, rfl⟩ := ZoA a1.Rules .sh r2 hr2
 refine zc [] (ZK .sh (r2.map ZE)) [[(ZK z1B (zQ.map ZF)), (.mp 1), (iv z1S)], (rM_ ZD zV), (Zx b2 zJ), (Zx a1 .sh)] er2<|zq<|zt [[(ZK z1B (zQ.map ZF)), (.mp 1), (iv z1S)], (rM_ ZD zV), (Zx b2 zJ), (Z2z a1.Default a1.Closed a1.Fuel a1.Stack r2 .sh)]<|ze<|zq<|zt [[(ZK z1B (zQ.map ZF)), (.mp 1), (iv z1S)], (rM_ ZD zV), (Z2z a1.Default a1.Closed a1.Fuel a1.Stack r2 .sh), (Z2z a1.Default a1.Closed a1.Fuel a1.Stack r2 .sh)] ?_
 exact zr ((.p (.tup [(.agg (Z1z (ZC.mk a1.Default a1.Closed a1.Fuel a1.Stack r2) .sh)), (.v (.bool true))])), [[(ZK z1B (zQ.map ZF)), (.mp 1), (iv z1S)], (rM_ ZD zV), (Z2z a1.Default a1.Closed a1.Fuel a1.Stack r2 .sh), (Z2z a1.Default a1.Closed a1.Fuel a1.Stack r2 .sh)]) ⟨_, rfl⟩
def Z8S (x1 : Int) (zQ : List ZC) : Option (ZC × Bool) :=
 if (decide (x1 < 0)) = true then
 (Z5Q)
 else
 (if (decide ((zQ.length : Int) ≤ x1)) = true then
 (Z5Q)
 else
 (Z7y x1 zQ))
theorem ZjG x1 (zQ : List ZC) z1S zV z1B (z3B : ZR z1B = true) : Sim (Z5A zQ z1S zV z1B) (Z8S x1 zQ) (EE 36 [(.ptr 0 0), (iv x1)] [[(ZK z1B (zQ.map ZF)), (.mp 1), (iv z1S)], (rM_ ZD (zV))]) := by
 unfold Z8S
 refine zf (ZOK ..)<|ze<|zz (.ptr 2 0) [[(ZK z1B (zQ.map ZF)), (.mp 1), (iv z1S)], (rM_ ZD zV), (Zx Z4i .nl)]<|ze<|zq ?_
 refine za (decide (x1 < 0)) ?_ ?_
 ·exact zk (ZbF zQ z1S zV Z4i z1B .nl z3B rfl)
 ·refine zq<|zq<|zq ?_
  refine zo (iv (zQ.length : Int)) ?_ (et_ (Z2J (P := PP) (t := 121) (d := 24) (by kernel_rfl) ZF (shrO z1B) zQ))
  refine zq ?_
  refine za (decide ((zQ.length : Int) ≤ x1)) ?_ ?_
  ·exact zk (ZbF zQ z1S zV Z4i z1B .nl z3B rfl)
  ·exact zk (ZhU x1 zQ z1S zV Z4i z1B .nl z3B rfl)
theorem Zka x1 zQ {r} (h : Z8S x1 zQ = some r) : Z6U x1 zQ = some r :=
 Z1c (fun _ _ ha hb => RRun.uniq (ZkS _ _ _ _) (ha default default .ex rfl) (hb default default .ex rfl)) (fun z1S zV z1B z3B => ZjG x1 zQ z1S zV z1B z3B r h)
def Zcs (x0 : ZC) : Option (Z1b) :=
 Z8L x0.Rules (x0.Rules.length : Int) 0 x0.Default x0.Closed x0.Fuel x0.Stack ([] : List Zw)
theorem Zok x0 z17 : Sim (Z66) (Zcs x0) (EE 19 [(pA_ (Z1z x0 z17))] []) := by
 unfold Zcs
 refine zf (ZOe ..)<|ze<|zx (.ptr 0 0) [(Zx x0 z17)]<|zz (.ptr 1 0) [(Zx x0 z17), (Z1P ZDk .nl)]<|ze<|zq<|zq<|zq<|zq<|zq<|zq<|zq<|zq<|zq<|zz (.ptr 2 0) [(Zx x0 z17), (Z1P ZDk .nl), (Z1P ZDk .nl)]<|zt [(Zx x0 z17), (Z1P ZDk .nl), (Zkt x0.Default x0.Closed x0.Fuel x0.Stack ([] : List Zw) .nl)]<|ze<|zq<|zq ?_
 refine zo (iv (x0.Rules.length : Int)) ?_ (et_ (Z2J (P := PP) (t := 22) (d := 43) (by kernel_rfl) ZE (shrO z17) x0.Rules))
 exact zk (Zf9 x0.Rules (x0.Rules.length : Int) 0 x0 ZDk x0.Default x0.Closed x0.Fuel x0.Stack ([] : List Zw) (shrO z17) z17 .nl .nl rfl rfl)
theorem Zps x0 {r} (h : Zcs x0 = some r) : Zaq x0 = some r :=
 Z1c (fun _ _ ha hb => RRun.uniq ZiR (ha .ex) (hb .ex)) (fun z17 => Zok x0 z17 r h)
def ZaB (x16 : List Zw) (x17 x18 z2B z2R z3A z3c : Int) (z3g : List Zw) : Option (Z1b) :=
 (lget x16 x18).bind fun a1 =>
 (lapp z3g ([a1] : List Zw)).bind fun a2 =>
 Z8L x16 x17 (IntKind.i64.wrap (x18 + 1)) z2B z2R z3A z3c a2
theorem Zm5 (x16 : List Zw) x17 x18 b0 b1 z2B z2R z3A z3c z3g ox16 zB z2r zJ (zaf : ZR z2r = true) (z1q : ZR zJ = true) : Sim (Z66) (ZaB x16 x17 x18 z2B z2R z3A z3c z3g) (ZB3 0 (.ptr 1 0) (.ptr 2 0) (ZK ox16 (x16.map ZE)) (iv x17) (iv x18) [(Zx b0 zB), (Z1P b1 z2r), (Zkt z2B z2R z3A z3c z3g zJ)]) := by
 unfold ZaB
 refine zf (ZIj ..)<|ze<|zi fun a1 ha1 => ?_
 refine zo (.cptr (Z1U a1)) ?_ (et_ (Z3G (o := ox16) (k := .i64) (n := 5) (e := ZE) (cs := Z4Z) (fun _ => rfl) (fun _ => rfl) (by decide) ha1))
 refine zq<|zz (.ptr 3 0) [(Zx b0 zB), (Z1P b1 z2r), (Zkt z2B z2R z3A z3c z3g zJ), (Z1L (Zw.mk 0 0 0 0 (ByteArray.mk #[])))]<|zt [(Zx b0 zB), (Z1P b1 z2r), (Zkt z2B z2R z3A z3c z3g zJ), (Z1L a1)]<|ze<|zq<|zw (ZK zJ (z3g.map ZE)) [(Zx b0 zB), (Z1P b1 z2r), (Zkt z2B z2R z3A z3c z3g (shrO zJ)), (Z1L a1)]<|zq<|zq<|zi fun a2 ha2 => ?_
 refine zo (ZK .un (a2.map ZE)) ?_ (Eq.trans (by kernel_rfl) <| ZiB (n := 5) (o := zJ) (o' := .ex) (e := ZE) (ys := ([a1] : List Zw)) (fun _ => rfl) (by decide) z1q ha2)
 refine zq<|zt [(Zx b0 zB), (Z1P b1 z2r), (Zkt z2B z2R z3A z3c a2 .un), (Z1L a1)]<|ze<|zq ?_
 exact zk (Zf9 x16 x17 (IntKind.i64.wrap (x18 + 1)) b0 b1 z2B z2R z3A z3c a2 ox16 zB z2r .un zaf rfl)
def ZaC (z2B z2R z3A z3c : Int) (z3g : List Zw) : Option (Z1b) :=
 some (Z1b.mk z2B z2R z3A z3c z3g)
theorem Zm6 b0 b1 z2B z2R z3A z3c z3g zB z2r zJ (zaf : ZR z2r = true) (z1q : ZR zJ = true) : Sim (Z66) (ZaC z2B z2R z3A z3c z3g) (ZB4 0 (.ptr 1 0) (.ptr 2 0) [(Zx b0 zB), (Z1P b1 z2r), (Zkt z2B z2R z3A z3c z3g zJ)]) := by
 unfold ZaC
 refine zf (ZIk ..)<|ze<|zq<|zt [(Zx b0 zB), (Zkt z2B z2R z3A z3c z3g (shrO zJ)), (Zkt z2B z2R z3A z3c z3g zJ)] ?_
 exact zr ((pA_ (Z4j (Z1b.mk z2B z2R z3A z3c z3g) .sh)), [(Zx b0 zB), (Zkt z2B z2R z3A z3c z3g (shrO zJ)), (Zkt z2B z2R z3A z3c z3g zJ)]) ⟨_, rfl⟩
def Z8y (x16 : List Zw) (x17 x18 z2B z2R z3A z3c : Int) (z3g : List Zw) : Option (Z1b) :=
 if (decide (x18 < x17)) = true then
 (ZaB x16 x17 x18 z2B z2R z3A z3c z3g)
 else
 (ZaC z2B z2R z3A z3c z3g)
theorem Zm4 (x16 : List Zw) x17 x18 b0 b1 z2B z2R z3A z3c z3g ox16 zB z2r zJ (zaf : ZR z2r = true) (z1q : ZR zJ = true) : Sim (Z66) (Z8y x16 x17 x18 z2B z2R z3A z3c z3g) (Zsu 0 (.ptr 1 0) (.ptr 2 0) (ZK ox16 (x16.map ZE)) (iv x17) (iv x18) [(Zx b0 zB), (Z1P b1 z2r), (Zkt z2B z2R z3A z3c z3g zJ)]) := by
 unfold Z8y
 refine zf (ZIi ..)<|ze<|zq ?_
 refine za (decide (x18 < x17)) ?_ ?_
 ·exact zk (Zm5 x16 x17 x18 b0 b1 z2B z2R z3A z3c z3g ox16 zB z2r zJ zaf z1q)
 ·exact zk (Zm6 b0 b1 z2B z2R z3A z3c z3g zB z2r zJ zaf z1q)
theorem Zf8 x16 x17 x18 z2B z2R z3A z3c z3g {r} (h : Z8y x16 x17 x18 z2B z2R z3A z3c z3g = some r) : Z8L x16 x17 x18 z2B z2R z3A z3c z3g = some r :=
 Z1c (fun _ _ ha hb => RRun.uniq ZiR (ha default default .ex .ex .ex .ex rfl rfl) (hb default default .ex .ex .ex .ex rfl rfl)) (fun b0 b1 ox16 zB z2r zJ zaf z1q => Zm4 x16 x17 x18 b0 b1 z2B z2R z3A z3c z3g ox16 zB z2r zJ zaf z1q r h)
def Z9b  : Option (Bool) :=
 some (false)
theorem Z9O  : Sim (ZW) (Z9b) (ZmN 0  []) := by
 unfold Z9b
 refine zf (ZIA ..)<|ze ?_
 exact zr ((bv false), []) ⟨_, rfl⟩
def ZiV (b0 b1 : Z1b) : Option (Bool) :=
 ZcH 0 b0 b1
theorem Zs4 b0 b1 zB z2r : Sim (ZW) (ZiV b0 b1) (ZBm 0 (.ptr 0 0) (.ptr 1 0) [(Z1P b0 zB), (Z1P b1 z2r)]) := by
 unfold ZiV
 refine zf (ZIB ..)<|ze ?_
 exact zk (Zlc 0 b0 b1 zB z2r)
def Z9a (x0 x1 : Z1b) : Option (Bool) :=
 if (x0.Default != x1.Default) = true then
 (Z9b)
 else
 (if (x0.Closed != x1.Closed) = true then
 (Z9b)
 else
 (if (x0.Fuel != x1.Fuel) = true then
 (Z9b)
 else
 (if (x0.Stack != x1.Stack) = true then
 (Z9b)
 else
 (if ((x0.Rules.length : Int) != (x1.Rules.length : Int)) = true then
 (Z9b)
 else
 (ZiV x0 x1)))))
theorem Zvu x0 x1 z17 zat : Sim (ZW) (Z9a x0 x1) (EE 26 [(pA_ (Z4j x0 z17)), (pA_ (Z4j x1 zat))] []) := by
 unfold Z9a
 refine zf (ZOw ..)<|ze<|zx (.ptr 0 0) [(Z1P x0 z17)]<|zx (.ptr 1 0) [(Z1P x0 z17), (Z1P x1 zat)]<|ze<|zq<|zq<|zq<|zq<|zq ?_
 refine za (x0.Default != x1.Default) ?_ ?_
 ·exact zk (Z9O )
 ·refine zq<|zq<|zq<|zq<|zq ?_
  refine za (x0.Closed != x1.Closed) ?_ ?_
  ·exact zk (Z9O )
  ·refine zq<|zq<|zq<|zq<|zq ?_
   refine za (x0.Fuel != x1.Fuel) ?_ ?_
   ·exact zk (Z9O )
   ·refine zq<|zq<|zq<|zq<|zq ?_
    refine za (x0.Stack != x1.Stack) ?_ ?_
    ·exact zk (Z9O )
    ·refine zq<|zq ?_
     refine zo (iv (x0.Rules.length : Int)) ?_ (et_ (Z2J (P := PP) (t := 38) (d := 93) (by kernel_rfl) ZE (shrO z17) x0.Rules))
     refine zq<|zq ?_
     refine zo (iv (x1.Rules.length : Int)) ?_ (et_ (Z2J (P := PP) (t := 38) (d := 93) (by kernel_rfl) ZE (shrO zat) x1.Rules))
     refine zq ?_
     refine za ((x0.Rules.length : Int) != (x1.Rules.length : Int)) ?_ ?_
     ·exact zk (Z9O )
     ·exact zk (Zs4 x0 x1 z17 zat)
theorem ZaH x0 x1 {r} (h : Z9a x0 x1 = some r) : Zfj x0 x1 = some r :=
 Z1c (fun _ _ ha hb => RRun.uniq Z2d (ha .ex .ex) (hb .ex .ex)) (fun z17 zat => Zvu x0 x1 z17 zat r h)
def ZeH (x5 : Int) (b0 b1 : Z1b) : Option (Bool) :=
 ZcH (IntKind.i64.wrap (x5 + 1)) b0 b1
theorem Zs5 x5 b0 b1 zB z2r : Sim (ZW) (ZeH x5 b0 b1) (ZBn 0 (.ptr 0 0) (.ptr 1 0) (iv x5) [(Z1P b0 zB), (Z1P b1 z2r)]) := by
 unfold ZeH
 refine zf (ZIC ..)<|ze<|zq ?_
 exact zk (Zlc (IntKind.i64.wrap (x5 + 1)) b0 b1 zB z2r)
def Zcu (x5 : Int) (b0 b1 : Z1b) : Option (Bool) :=
 (lget b0.Rules x5).bind fun a1 =>
 (lget b1.Rules x5).bind fun a2 =>
 if ((!((a1.ID == a2.ID) && ((a1.Priority == a2.Priority) && ((a1.Action == a2.Action) && ((a1.Scope == a2.Scope) && ((seq a1.Pattern a2.Pattern) && true))))))) = true then
 (some (false))
 else
 (ZeH x5 b0 b1)
theorem Zs6 x5 b0 b1 zB z2r : Sim (ZW) (Zcu x5 b0 b1) (ZBo 0 (.ptr 0 0) (.ptr 1 0) (iv x5) [(Z1P b0 zB), (Z1P b1 z2r)]) := by
 unfold Zcu
 refine zf (ZID ..)<|ze<|zq<|zq<|zi fun a1 ha1 => ?_
 refine zo (.cptr (Z1U a1)) ?_ (et_ (Z3G (o := (shrO zB)) (k := .i64) (n := 5) (e := ZE) (cs := Z4Z) (fun _ => rfl) (fun _ => rfl) (by decide) ha1))
 refine zq<|zq<|zq<|zi fun a2 ha2 => ?_
 refine zo (.cptr (Z1U a2)) ?_ (et_ (Z3G (o := (shrO z2r)) (k := .i64) (n := 5) (e := ZE) (cs := Z4Z) (fun _ => rfl) (fun _ => rfl) (by decide) ha2))
 refine zq ?_
 refine zo (bv (!((a1.ID == a2.ID) && ((a1.Priority == a2.Priority) && ((a1.Action == a2.Action) && ((a1.Scope == a2.Scope) && ((seq a1.Pattern a2.Pattern) && true))))))) ?_ (Eq.trans (b := xbin PP .neq 93 (pA_ (Z1U a1)) (pA_ (Z1U a2))) (by kernel_rfl) (ZNO (by kernel_rfl) (by kernel_rfl) (by kernel_rfl) (by kernel_rfl) (by kernel_rfl)))
 refine za ((!((a1.ID == a2.ID) && ((a1.Priority == a2.Priority) && ((a1.Action == a2.Action) && ((a1.Scope == a2.Scope) && ((seq a1.Pattern a2.Pattern) && true))))))) ?_ ?_
 ·refine ze ?_
  exact zr ((bv false), [(Z1P b0 zB), (Z1P b1 z2r)]) ⟨_, rfl⟩
 ·exact zk (Zs5 x5 b0 b1 zB z2r)
def ZiW  : Option (Bool) :=
 some (true)
theorem Zs7  : Sim (ZW) (ZiW) (ZBp 0  []) := by
 unfold ZiW
 refine zf (ZIE ..)<|ze ?_
 exact zr ((bv true), []) ⟨_, rfl⟩
def ZaE (x5 : Int) (b0 b1 : Z1b) : Option (Bool) :=
 if (decide (x5 < (b0.Rules.length : Int))) = true then
 (Zcu x5 b0 b1)
 else
 (ZiW)
theorem Zs3 x5 b0 b1 zB z2r : Sim (ZW) (ZaE x5 b0 b1) (Zsy 0 (.ptr 0 0) (.ptr 1 0) (iv x5) [(Z1P b0 zB), (Z1P b1 z2r)]) := by
 unfold ZaE
 refine zf (ZIz ..)<|ze<|zq<|zq ?_
 refine zo (iv (b0.Rules.length : Int)) ?_ (et_ (Z2J (P := PP) (t := 38) (d := 93) (by kernel_rfl) ZE (shrO zB) b0.Rules))
 refine zq ?_
 refine za (decide (x5 < (b0.Rules.length : Int))) ?_ ?_
 ·exact zk (Zs6 x5 b0 b1 zB z2r)
 ·exact zk (Zs7 )
theorem Zfk x5 b0 b1 {r} (h : ZaE x5 b0 b1 = some r) : ZcH x5 b0 b1 = some r :=
 Z1c (fun _ _ ha hb => RRun.uniq Z2d (ha .ex .ex) (hb .ex .ex)) (fun zB z2r => Zs3 x5 b0 b1 zB z2r r h)
end Go.Proofs.YteoeggbihfnbfaaGreatDoor.N2
end
