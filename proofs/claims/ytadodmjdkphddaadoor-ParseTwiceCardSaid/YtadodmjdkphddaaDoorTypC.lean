/- More of the functions' typed texts. No condition. -/
import Derived.Test.YtadodmjdkphddaaDoorTypA

section
set_option linter.unusedSimpArgs false
set_option linter.unusedVariables false
namespace Go.Proofs.YtadodmjdkphddaaDoor.N2
open Go Go.Abs
set_option linter.unusedVariables false
set_option maxRecDepth 100000
noncomputable def Z37 (zl : List Int) (z1 : Int) (z2 : Int) : Option (Int × Int × Int) :=
 some ((zl.length : Int), z1, z2)
theorem Z6h (zl : List Int) (zp : Int) (z6 : Int) (zd : Int) (zh : List Zr) (z1 : Int) (z2 : Int) (zn : Own) (zb : Own) (zu : okApp zb = true) : Sim (Z3K zl z6 zd zh zn zb) (Z37 zl z1 z2) (Zcq 1 (.ptr 0 0) [(Zi (Zk.mk zl zp z6 zd zh (Zj.mk z1 z2)) zn zb)]) := by
 unfold Z37
 refine zf (ZfP ..) ?_
 refine ze ?_
 refine zo (.ptr 0 0) ?_
 refine zo (.ptr 0 0) ?_
 refine zo (.p (.lst (shrO zn) (zl.map (eI .u8)))) ?_
 refine zo (iv (zl.length : Int)) ?_ (Eq.trans (by kernel_rfl) (xlen_of (P := PP) (t := 40) (d := 5) (by kernel_rfl) (eI .u8) (shrO zn) zl))
 refine zo (.ptr 0 0) ?_
 refine zo (.ptr 0 1) ?_
 refine zt [(Zi (Zk.mk zl (zl.length : Int) z6 zd zh (Zj.mk z1 z2)) zn zb)] ?_
 exact zr ((.p (.tup [])), [(Zi (Zk.mk zl (zl.length : Int) z6 zd zh (Zj.mk z1 z2)) zn zb)]) ⟨_, rfl⟩
noncomputable def Z4z (x1 : Int) (x2 : Int) (zl : List Int) (z1 : Int) (z2 : Int) : Option (Int × Int × Int) :=
 if ((z1 == 0)) = true then
 (Z37 zl x1 x2)
 else
 (Z37 zl z1 z2)
theorem Z9Z (x1 : Int) (x2 : Int) (zl : List Int) (zp : Int) (z6 : Int) (zd : Int) (zh : List Zr) (z1 : Int) (z2 : Int) (zn : Own) (zb : Own) (zu : okApp zb = true) : Sim (Z3K zl z6 zd zh zn zb) (Z4z x1 x2 zl z1 z2) (EE 29 [(.ptr 0 0), (iv x1), (iv x2)] [(Zi (Zk.mk zl zp z6 zd zh (Zj.mk z1 z2)) zn zb)]) := by
 unfold Z4z
 refine zf (ZhJ ..) ?_
 refine ze ?_
 refine zo (.ptr 0 0) ?_
 refine zo (.ptr 0 5) ?_
 refine zo (.ptr 0 5) ?_
 refine zo (iv z1) ?_
 refine zo (bv (z1 == 0)) ?_
 refine za ((z1 == 0)) ?_ ?_
 ·refine ze ?_
  refine zo (.p (.agg (Z11 (Zj.mk x1 x2)))) ?_
  refine zo (.ptr 0 0) ?_
  refine zo (.ptr 0 5) ?_
  refine zt [(Zi (Zk.mk zl zp z6 zd zh (Zj.mk x1 x2)) zn zb)] ?_
  exact zk (Z6h (zl) (zp) (z6) (zd) (zh) (x1) (x2) zn zb zu)
 ·exact zk (Z6h (zl) (zp) (z6) (zd) (zh) (z1) (z2) zn zb zu)
theorem Z7r (x1 : Int) (x2 : Int) (zl : List Int) (z1 : Int) (z2 : Int) {r} (h : Z4z x1 x2 zl z1 z2 = some r) : ZT x1 x2 zl z1 z2 = some r :=
 pick_of (fun _ _ ha hb => RRun.uniq (Zb2 _ _ _ _ _ _) (ha default default default default .ex .ex rfl) (hb default default default default .ex .ex rfl)) (fun zp z6 zd zh zn zb zu => Z9Z x1 x2 zl zp z6 zd zh z1 z2 zn zb zu r h)
noncomputable def Z1K  : Option ((Own × (List Z7))) :=
 some ((.nl, ([] : List Z7)))
theorem Z1X  : Sim (Z4u) (Z1K) (Z6k 0  []) := by
 unfold Z1K
 refine zf (ZeH ..) ?_
 refine ze ?_
 exact zr ((.p (.lst .nl [])), []) ⟨_, rfl⟩
noncomputable def Z2u (x0 : Int) : Option ((Own × (List Z7))) :=
 if ((x0 == 100)) = true then
 (if ((x0 == 100)) = true then
 (some ((.ex, ([(Z7.mk 48 57)] : List Z7))))
 else
 (if ((x0 == 119)) = true then
 (if ((x0 == 119)) = true then
 ((Z1v 95).bind fun r1 =>
 some ((.ex, ([(Z7.mk 48 57), (Z7.mk 65 90), r1, (Z7.mk 97 122)] : List Z7))))
 else
 (if ((x0 == 115)) = true then
 (if ((x0 == 115)) = true then
 ((Z1v 32).bind fun r2 =>
 some ((.ex, ([(Z7.mk 9 13), r2] : List Z7))))
 else
 (Z1K))
 else
 (if ((x0 == 83)) = true then
 ((Z1v 32).bind fun r3 =>
 some ((.ex, ([(Z7.mk 9 13), r3] : List Z7))))
 else
 (Z1K))))
 else
 (if ((x0 == 87)) = true then
 ((Z1v 95).bind fun r4 =>
 some ((.ex, ([(Z7.mk 48 57), (Z7.mk 65 90), r4, (Z7.mk 97 122)] : List Z7))))
 else
 (if ((x0 == 115)) = true then
 (if ((x0 == 115)) = true then
 ((Z1v 32).bind fun r5 =>
 some ((.ex, ([(Z7.mk 9 13), r5] : List Z7))))
 else
 (Z1K))
 else
 (if ((x0 == 83)) = true then
 ((Z1v 32).bind fun r6 =>
 some ((.ex, ([(Z7.mk 9 13), r6] : List Z7))))
 else
 (Z1K))))))
 else
 (if ((x0 == 68)) = true then
 (some ((.ex, ([(Z7.mk 48 57)] : List Z7))))
 else
 (if ((x0 == 119)) = true then
 (if ((x0 == 119)) = true then
 ((Z1v 95).bind fun r7 =>
 some ((.ex, ([(Z7.mk 48 57), (Z7.mk 65 90), r7, (Z7.mk 97 122)] : List Z7))))
 else
 (if ((x0 == 115)) = true then
 (if ((x0 == 115)) = true then
 ((Z1v 32).bind fun r8 =>
 some ((.ex, ([(Z7.mk 9 13), r8] : List Z7))))
 else
 (Z1K))
 else
 (if ((x0 == 83)) = true then
 ((Z1v 32).bind fun r9 =>
 some ((.ex, ([(Z7.mk 9 13), r9] : List Z7))))
 else
 (Z1K))))
 else
 (if ((x0 == 87)) = true then
 ((Z1v 95).bind fun r10 =>
 some ((.ex, ([(Z7.mk 48 57), (Z7.mk 65 90), r10, (Z7.mk 97 122)] : List Z7))))
 else
 (if ((x0 == 115)) = true then
 (if ((x0 == 115)) = true then
 ((Z1v 32).bind fun r11 =>
 some ((.ex, ([(Z7.mk 9 13), r11] : List Z7))))
 else
 (Z1K))
 else
 (if ((x0 == 83)) = true then
 ((Z1v 32).bind fun r12 =>
 some ((.ex, ([(Z7.mk 9 13), r12] : List Z7))))
 else
 (Z1K))))))
theorem Zb3 (x0 : Int) : Sim (Z4u) (Z2u x0) (EE 56 [(iv x0)] []) := by
 unfold Z2u
 refine zf (Zhq ..) ?_
 refine ze ?_
 refine ze ?_
 refine ze ?_
 refine zo (bv (x0 == 100)) ?_
 refine za ((x0 == 100)) ?_ ?_
 ·refine za ((x0 == 100)) ?_ ?_
  ·refine ze ?_
   refine zo (.p (.agg (ZF (Z7.mk 48 57)))) ?_
   refine zo (.p (.lst .ex (([(Z7.mk 48 57)] : List Z7).map Zs))) ?_
   exact zr ((.p (.lst .ex (([(Z7.mk 48 57)] : List Z7).map Zs))), []) ⟨_, rfl⟩
  ·refine ze ?_
   refine zo (bv (x0 == 119)) ?_
   refine za ((x0 == 119)) ?_ ?_
   ·refine za ((x0 == 119)) ?_ ?_
    ·refine ze ?_
     refine zo (.p (.agg (ZF (Z7.mk 48 57)))) ?_
     refine zo (.p (.agg (ZF (Z7.mk 65 90)))) ?_
     refine zi fun r1 hr1 => ?_
     obtain ⟨qr1, er1, exr1, rfl⟩ := Z1p (95) r1 hr1
     refine zc [] (.p (.agg (ZF r1))) [] er1 ?_
     refine zo (.p (.agg (ZF (Z7.mk 97 122)))) ?_
     refine zo (.p (.lst .ex (([(Z7.mk 48 57), (Z7.mk 65 90), r1, (Z7.mk 97 122)] : List Z7).map Zs))) ?_
     exact zr ((.p (.lst .ex (([(Z7.mk 48 57), (Z7.mk 65 90), r1, (Z7.mk 97 122)] : List Z7).map Zs))), []) ⟨_, rfl⟩
    ·refine ze ?_
     refine zo (bv (x0 == 115)) ?_
     refine za ((x0 == 115)) ?_ ?_
     ·refine za ((x0 == 115)) ?_ ?_
      ·refine ze ?_
       refine zo (.p (.agg (ZF (Z7.mk 9 13)))) ?_
       refine zi fun r2 hr2 => ?_
       obtain ⟨qr2, er2, exr2, rfl⟩ := Z1p (32) r2 hr2
       refine zc [] (.p (.agg (ZF r2))) [] er2 ?_
       refine zo (.p (.lst .ex (([(Z7.mk 9 13), r2] : List Z7).map Zs))) ?_
       exact zr ((.p (.lst .ex (([(Z7.mk 9 13), r2] : List Z7).map Zs))), []) ⟨_, rfl⟩
      ·exact zk (Z1X )
     ·refine ze ?_
      refine zo (bv (x0 == 83)) ?_
      refine za ((x0 == 83)) ?_ ?_
      ·refine ze ?_
       refine zo (.p (.agg (ZF (Z7.mk 9 13)))) ?_
       refine zi fun r3 hr3 => ?_
       obtain ⟨qr3, er3, exr3, rfl⟩ := Z1p (32) r3 hr3
       refine zc [] (.p (.agg (ZF r3))) [] er3 ?_
       refine zo (.p (.lst .ex (([(Z7.mk 9 13), r3] : List Z7).map Zs))) ?_
       exact zr ((.p (.lst .ex (([(Z7.mk 9 13), r3] : List Z7).map Zs))), []) ⟨_, rfl⟩
      ·exact zk (Z1X )
   ·refine ze ?_
    refine zo (bv (x0 == 87)) ?_
    refine za ((x0 == 87)) ?_ ?_
    ·refine ze ?_
     refine zo (.p (.agg (ZF (Z7.mk 48 57)))) ?_
     refine zo (.p (.agg (ZF (Z7.mk 65 90)))) ?_
     refine zi fun r4 hr4 => ?_
     obtain ⟨qr4, er4, exr4, rfl⟩ := Z1p (95) r4 hr4
     refine zc [] (.p (.agg (ZF r4))) [] er4 ?_
     refine zo (.p (.agg (ZF (Z7.mk 97 122)))) ?_
     refine zo (.p (.lst .ex (([(Z7.mk 48 57), (Z7.mk 65 90), r4, (Z7.mk 97 122)] : List Z7).map Zs))) ?_
     exact zr ((.p (.lst .ex (([(Z7.mk 48 57), (Z7.mk 65 90), r4, (Z7.mk 97 122)] : List Z7).map Zs))), []) ⟨_, rfl⟩
    ·refine ze ?_
     refine zo (bv (x0 == 115)) ?_
     refine za ((x0 == 115)) ?_ ?_
     ·refine za ((x0 == 115)) ?_ ?_
      ·refine ze ?_
       refine zo (.p (.agg (ZF (Z7.mk 9 13)))) ?_
       refine zi fun r5 hr5 => ?_
       obtain ⟨qr5, er5, exr5, rfl⟩ := Z1p (32) r5 hr5
       refine zc [] (.p (.agg (ZF r5))) [] er5 ?_
       refine zo (.p (.lst .ex (([(Z7.mk 9 13), r5] : List Z7).map Zs))) ?_
       exact zr ((.p (.lst .ex (([(Z7.mk 9 13), r5] : List Z7).map Zs))), []) ⟨_, rfl⟩
      ·exact zk (Z1X )
     ·refine ze ?_
      refine zo (bv (x0 == 83)) ?_
      refine za ((x0 == 83)) ?_ ?_
      ·refine ze ?_
       refine zo (.p (.agg (ZF (Z7.mk 9 13)))) ?_
       refine zi fun r6 hr6 => ?_
       obtain ⟨qr6, er6, exr6, rfl⟩ := Z1p (32) r6 hr6
       refine zc [] (.p (.agg (ZF r6))) [] er6 ?_
       refine zo (.p (.lst .ex (([(Z7.mk 9 13), r6] : List Z7).map Zs))) ?_
       exact zr ((.p (.lst .ex (([(Z7.mk 9 13), r6] : List Z7).map Zs))), []) ⟨_, rfl⟩
      ·exact zk (Z1X )
 ·refine ze ?_
  refine zo (bv (x0 == 68)) ?_
  refine za ((x0 == 68)) ?_ ?_
  ·refine ze ?_
   refine zo (.p (.agg (ZF (Z7.mk 48 57)))) ?_
   refine zo (.p (.lst .ex (([(Z7.mk 48 57)] : List Z7).map Zs))) ?_
   exact zr ((.p (.lst .ex (([(Z7.mk 48 57)] : List Z7).map Zs))), []) ⟨_, rfl⟩
  ·refine ze ?_
   refine zo (bv (x0 == 119)) ?_
   refine za ((x0 == 119)) ?_ ?_
   ·refine za ((x0 == 119)) ?_ ?_
    ·refine ze ?_
     refine zo (.p (.agg (ZF (Z7.mk 48 57)))) ?_
     refine zo (.p (.agg (ZF (Z7.mk 65 90)))) ?_
     refine zi fun r7 hr7 => ?_
     obtain ⟨qr7, er7, exr7, rfl⟩ := Z1p (95) r7 hr7
     refine zc [] (.p (.agg (ZF r7))) [] er7 ?_
     refine zo (.p (.agg (ZF (Z7.mk 97 122)))) ?_
     refine zo (.p (.lst .ex (([(Z7.mk 48 57), (Z7.mk 65 90), r7, (Z7.mk 97 122)] : List Z7).map Zs))) ?_
     exact zr ((.p (.lst .ex (([(Z7.mk 48 57), (Z7.mk 65 90), r7, (Z7.mk 97 122)] : List Z7).map Zs))), []) ⟨_, rfl⟩
    ·refine ze ?_
     refine zo (bv (x0 == 115)) ?_
     refine za ((x0 == 115)) ?_ ?_
     ·refine za ((x0 == 115)) ?_ ?_
      ·refine ze ?_
       refine zo (.p (.agg (ZF (Z7.mk 9 13)))) ?_
       refine zi fun r8 hr8 => ?_
       obtain ⟨qr8, er8, exr8, rfl⟩ := Z1p (32) r8 hr8
       refine zc [] (.p (.agg (ZF r8))) [] er8 ?_
       refine zo (.p (.lst .ex (([(Z7.mk 9 13), r8] : List Z7).map Zs))) ?_
       exact zr ((.p (.lst .ex (([(Z7.mk 9 13), r8] : List Z7).map Zs))), []) ⟨_, rfl⟩
      ·exact zk (Z1X )
     ·refine ze ?_
      refine zo (bv (x0 == 83)) ?_
      refine za ((x0 == 83)) ?_ ?_
      ·refine ze ?_
       refine zo (.p (.agg (ZF (Z7.mk 9 13)))) ?_
       refine zi fun r9 hr9 => ?_
       obtain ⟨qr9, er9, exr9, rfl⟩ := Z1p (32) r9 hr9
       refine zc [] (.p (.agg (ZF r9))) [] er9 ?_
       refine zo (.p (.lst .ex (([(Z7.mk 9 13), r9] : List Z7).map Zs))) ?_
       exact zr ((.p (.lst .ex (([(Z7.mk 9 13), r9] : List Z7).map Zs))), []) ⟨_, rfl⟩
      ·exact zk (Z1X )
   ·refine ze ?_
    refine zo (bv (x0 == 87)) ?_
    refine za ((x0 == 87)) ?_ ?_
    ·refine ze ?_
     refine zo (.p (.agg (ZF (Z7.mk 48 57)))) ?_
     refine zo (.p (.agg (ZF (Z7.mk 65 90)))) ?_
     refine zi fun r10 hr10 => ?_
     obtain ⟨qr10, er10, exr10, rfl⟩ := Z1p (95) r10 hr10
     refine zc [] (.p (.agg (ZF r10))) [] er10 ?_
     refine zo (.p (.agg (ZF (Z7.mk 97 122)))) ?_
     refine zo (.p (.lst .ex (([(Z7.mk 48 57), (Z7.mk 65 90), r10, (Z7.mk 97 122)] : List Z7).map Zs))) ?_
     exact zr ((.p (.lst .ex (([(Z7.mk 48 57), (Z7.mk 65 90), r10, (Z7.mk 97 122)] : List Z7).map Zs))), []) ⟨_, rfl⟩
    ·refine ze ?_
     refine zo (bv (x0 == 115)) ?_
     refine za ((x0 == 115)) ?_ ?_
     ·refine za ((x0 == 115)) ?_ ?_
      ·refine ze ?_
       refine zo (.p (.agg (ZF (Z7.mk 9 13)))) ?_
       refine zi fun r11 hr11 => ?_
       obtain ⟨qr11, er11, exr11, rfl⟩ := Z1p (32) r11 hr11
       refine zc [] (.p (.agg (ZF r11))) [] er11 ?_
       refine zo (.p (.lst .ex (([(Z7.mk 9 13), r11] : List Z7).map Zs))) ?_
       exact zr ((.p (.lst .ex (([(Z7.mk 9 13), r11] : List Z7).map Zs))), []) ⟨_, rfl⟩
      ·exact zk (Z1X )
     ·refine ze ?_
      refine zo (bv (x0 == 83)) ?_
      refine za ((x0 == 83)) ?_ ?_
      ·refine ze ?_
       refine zo (.p (.agg (ZF (Z7.mk 9 13)))) ?_
       refine zi fun r12 hr12 => ?_
       obtain ⟨qr12, er12, exr12, rfl⟩ := Z1p (32) r12 hr12
       refine zc [] (.p (.agg (ZF r12))) [] er12 ?_
       refine zo (.p (.lst .ex (([(Z7.mk 9 13), r12] : List Z7).map Zs))) ?_
       exact zr ((.p (.lst .ex (([(Z7.mk 9 13), r12] : List Z7).map Zs))), []) ⟨_, rfl⟩
      ·exact zk (Z1X )
theorem Zbf (x0 : Int) {r} (h : Z2u x0 = some r) : Z4v x0 = some r :=
 pick_of (fun _ _ ha hb => RRun.uniq (Zbp) (ha ) (hb )) (Zb3 x0 r h)
noncomputable def Z1Q (x2 : Int) (zl : List Int) (z1 : Int) (z2 : Int) : Option (Int × Int × Int × Int) :=
 (ZT 21 x2 zl z1 z2).bind fun r1 =>
 some (0, r1.1, r1.2.1, r1.2.2)
theorem Z2P (x2 : Int) (zl : List Int) (zp : Int) (z6 : Int) (zd : Int) (zh : List Zr) (z1 : Int) (z2 : Int) (zn : Own) (zb : Own) (zu : okApp zb = true) : Sim (Z2T zl z6 zd zh zn zb) (Z1Q x2 zl z1 z2) (Z8E 1 (.ptr 0 0) (iv x2) [(Zi (Zk.mk zl zp z6 zd zh (Zj.mk z1 z2)) zn zb)]) := by
 unfold Z1Q
 refine zf (Zf2 ..) ?_
 refine ze ?_
 refine zi fun r1 hr1 => ?_
 obtain ⟨qr1, er1, exr1, rfl⟩ := ZW (21) (x2) (zl) (zp) (z6) (zd) (zh) (z1) (z2) zn zb zu r1 hr1
 refine zc [0] (.p (.tup [])) [(Zi (Zk.mk zl r1.1 z6 zd zh (Zj.mk r1.2.1 r1.2.2)) zn zb)] er1 ?_
 refine ze ?_
 exact zr ((iv 0), [(Zi (Zk.mk zl r1.1 z6 zd zh (Zj.mk r1.2.1 r1.2.2)) zn zb)]) ⟨_, rfl⟩
noncomputable def Z5n (x1 : Int) (zp : Int) (z1 : Int) (z2 : Int) : Option (Int × Int × Int × Int) :=
 some (x1, zp, z1, z2)
theorem Z8u (x1 : Int) (zl : List Int) (zp : Int) (z6 : Int) (zd : Int) (zh : List Zr) (z1 : Int) (z2 : Int) (zn : Own) (zb : Own) (zu : okApp zb = true) : Sim (Z2T zl z6 zd zh zn zb) (Z5n x1 zp z1 z2) (Zd0 1 (iv x1) [(Zi (Zk.mk zl zp z6 zd zh (Zj.mk z1 z2)) zn zb)]) := by
 unfold Z5n
 refine zf (ZeP ..) ?_
 refine ze ?_
 exact zr ((iv x1), [(Zi (Zk.mk zl zp z6 zd zh (Zj.mk z1 z2)) zn zb)]) ⟨_, rfl⟩
noncomputable def Z5f (x1 : Int) (x2 : Int) (zl : List Int) (zp : Int) (z6 : Int) (zd : Int) (zh : List Zr) (z1 : Int) (z2 : Int) : Option (Int × Int × Int × Int) :=
 if ((x1 == 110)) = true then
 (some (10, zp, z1, z2))
 else
 (if ((x1 == 116)) = true then
 (some (9, zp, z1, z2))
 else
 (if ((x1 == 114)) = true then
 (some (13, zp, z1, z2))
 else
 (if ((x1 == 120)) = true then
 ((Z1C ((Zk.mk zl zp z6 zd zh (Zj.mk z1 z2)))).bind fun r1 =>
 (Z7l r1).bind fun r2 =>
 if ((decide (0 ≤ r2))) = true then
 ((Z1W zl zp).bind fun r3 =>
 (Z1C ((Zk.mk zl r3.2 z6 zd zh (Zj.mk z1 z2)))).bind fun r4 =>
 (Z7l r4).bind fun r5 =>
 if ((decide (0 ≤ r5))) = true then
 ((Z1W zl r3.2).bind fun r6 =>
 some ((IntKind.i64.wrap ((IntKind.i64.wrap (16 * r2)) + r5)), r6.2, z1, z2))
 else
 (Z1Q x2 zl z1 z2))
 else
 (Z1Q x2 zl z1 z2))
 else
 (if ((decide (32 < x1))) = true then
 (if ((decide (x1 < 127))) = true then
 ((Z5G (([(Z7.mk 48 57), (Z7.mk 65 90), (Z7.mk 97 122)] : List Z7)) x1).bind fun r7 =>
 if ((!r7)) = true then
 (Z5n x1 zp z1 z2)
 else
 (Z1Q x2 zl z1 z2))
 else
 (Z1Q x2 zl z1 z2))
 else
 (Z1Q x2 zl z1 z2)))))
theorem Z9T (x1 : Int) (x2 : Int) (zl : List Int) (zp : Int) (z6 : Int) (zd : Int) (zh : List Zr) (z1 : Int) (z2 : Int) (zn : Own) (zb : Own) (zu : okApp zb = true) : Sim (Z2T zl z6 zd zh zn zb) (Z5f x1 x2 zl zp z6 zd zh z1 z2) (EE 57 [(.ptr 0 0), (iv x1), (iv x2)] [(Zi (Zk.mk zl zp z6 zd zh (Zj.mk z1 z2)) zn zb)]) := by
 unfold Z5f
 refine zf (Zih ..) ?_
 refine ze ?_
 refine ze ?_
 refine zo (bv (x1 == 110)) ?_
 refine za ((x1 == 110)) ?_ ?_
 ·refine ze ?_
  exact zr ((iv 10), [(Zi (Zk.mk zl zp z6 zd zh (Zj.mk z1 z2)) zn zb)]) ⟨_, rfl⟩
 ·refine ze ?_
  refine zo (bv (x1 == 116)) ?_
  refine za ((x1 == 116)) ?_ ?_
  ·refine ze ?_
   exact zr ((iv 9), [(Zi (Zk.mk zl zp z6 zd zh (Zj.mk z1 z2)) zn zb)]) ⟨_, rfl⟩
  ·refine ze ?_
   refine zo (bv (x1 == 114)) ?_
   refine za ((x1 == 114)) ?_ ?_
   ·refine ze ?_
    exact zr ((iv 13), [(Zi (Zk.mk zl zp z6 zd zh (Zj.mk z1 z2)) zn zb)]) ⟨_, rfl⟩
   ·refine ze ?_
    refine zo (bv (x1 == 120)) ?_
    refine za ((x1 == 120)) ?_ ?_
    ·refine ze ?_
     refine zi fun r1 hr1 => ?_
     obtain ⟨qr1, er1, exr1, rfl⟩ := Z1F ((Zk.mk zl zp z6 zd zh (Zj.mk z1 z2))) zn zb zu r1 hr1
     refine zc [0] (iv r1) [(Zi (Zk.mk zl zp z6 zd zh (Zj.mk z1 z2)) zn zb)] er1 ?_
     refine zi fun r2 hr2 => ?_
     obtain ⟨qr2, er2, exr2, rfl⟩ := ZaU (r1) r2 hr2
     refine zc [] (iv r2) [(Zi (Zk.mk zl zp z6 zd zh (Zj.mk z1 z2)) zn zb)] er2 ?_
     refine ze ?_
     refine zo (bv (decide (0 ≤ r2))) ?_
     refine za ((decide (0 ≤ r2))) ?_ ?_
     ·refine ze ?_
      refine zi fun r3 hr3 => ?_
      obtain ⟨qr3, er3, exr3, rfl⟩ := Z2g (zl) (zp) (z6) (zd) (zh) (z1) (z2) zn zb zu r3 hr3
      refine zc [0] (iv r3.1) [(Zi (Zk.mk zl r3.2 z6 zd zh (Zj.mk z1 z2)) zn zb)] er3 ?_
      refine ze ?_
      refine zi fun r4 hr4 => ?_
      obtain ⟨qr4, er4, exr4, rfl⟩ := Z1F ((Zk.mk zl r3.2 z6 zd zh (Zj.mk z1 z2))) zn zb zu r4 hr4
      refine zc [0] (iv r4) [(Zi (Zk.mk zl r3.2 z6 zd zh (Zj.mk z1 z2)) zn zb)] er4 ?_
      refine zi fun r5 hr5 => ?_
      obtain ⟨qr5, er5, exr5, rfl⟩ := ZaU (r4) r5 hr5
      refine zc [] (iv r5) [(Zi (Zk.mk zl r3.2 z6 zd zh (Zj.mk z1 z2)) zn zb)] er5 ?_
      refine ze ?_
      refine zo (bv (decide (0 ≤ r5))) ?_
      refine za ((decide (0 ≤ r5))) ?_ ?_
      ·refine ze ?_
       refine zi fun r6 hr6 => ?_
       obtain ⟨qr6, er6, exr6, rfl⟩ := Z2g (zl) (r3.2) (z6) (zd) (zh) (z1) (z2) zn zb zu r6 hr6
       refine zc [0] (iv r6.1) [(Zi (Zk.mk zl r6.2 z6 zd zh (Zj.mk z1 z2)) zn zb)] er6 ?_
       refine ze ?_
       refine zo (iv (IntKind.i64.wrap (16 * r2))) ?_
       refine zo (iv (IntKind.i64.wrap ((IntKind.i64.wrap (16 * r2)) + r5))) ?_
       exact zr ((iv (IntKind.i64.wrap ((IntKind.i64.wrap (16 * r2)) + r5))), [(Zi (Zk.mk zl r6.2 z6 zd zh (Zj.mk z1 z2)) zn zb)]) ⟨_, rfl⟩
      ·exact zk (Z2P (x2) (zl) (r3.2) (z6) (zd) (zh) (z1) (z2) zn zb zu)
     ·exact zk (Z2P (x2) (zl) (zp) (z6) (zd) (zh) (z1) (z2) zn zb zu)
    ·refine ze ?_
     refine zo (bv (decide (32 < x1))) ?_
     refine za ((decide (32 < x1))) ?_ ?_
     ·refine zo (bv (decide (x1 < 127))) ?_
      refine za ((decide (x1 < 127))) ?_ ?_
      ·refine zo (.p (.agg (ZF (Z7.mk 48 57)))) ?_
       refine zo (.p (.agg (ZF (Z7.mk 65 90)))) ?_
       refine zo (.p (.agg (ZF (Z7.mk 97 122)))) ?_
       refine zo (.p (.lst .ex (([(Z7.mk 48 57), (Z7.mk 65 90), (Z7.mk 97 122)] : List Z7).map Zs))) ?_
       refine zi fun r7 hr7 => ?_
       obtain ⟨qr7, er7, exr7, rfl⟩ := Zby (([(Z7.mk 48 57), (Z7.mk 65 90), (Z7.mk 97 122)] : List Z7)) (x1) .sh r7 hr7
       refine zc [] (bv r7) [(Zi (Zk.mk zl zp z6 zd zh (Zj.mk z1 z2)) zn zb)] er7 ?_
       refine zo (bv (!r7)) ?_
       refine za ((!r7)) ?_ ?_
       ·exact zk (Z8u (x1) (zl) (zp) (z6) (zd) (zh) (z1) (z2) zn zb zu)
       ·exact zk (Z2P (x2) (zl) (zp) (z6) (zd) (zh) (z1) (z2) zn zb zu)
      ·exact zk (Z2P (x2) (zl) (zp) (z6) (zd) (zh) (z1) (z2) zn zb zu)
     ·exact zk (Z2P (x2) (zl) (zp) (z6) (zd) (zh) (z1) (z2) zn zb zu)
theorem Za7 (x1 : Int) (x2 : Int) (zl : List Int) (zp : Int) (z6 : Int) (zd : Int) (zh : List Zr) (z1 : Int) (z2 : Int) {r} (h : Z5f x1 x2 zl zp z6 zd zh z1 z2 = some r) : Z4l x1 x2 zl zp z6 zd zh z1 z2 = some r :=
 pick_of (fun _ _ ha hb => RRun.uniq (Zal _ _ _ _ _ _) (ha .ex .ex rfl) (hb .ex .ex rfl)) (fun zn zb zu => Z9T x1 x2 zl zp z6 zd zh z1 z2 zn zb zu r h)
noncomputable def Z73 (x0 : Int) : Option (Int) :=
 some ((IntKind.i64.wrap (x0 - 48)))
theorem Zbu (x0 : Int) : Sim (Z4N) (Z73 x0) (Ze0 0 (iv x0) []) := by
 unfold Z73
 refine zf (Zgs ..) ?_
 refine ze ?_
 refine zo (iv (IntKind.i64.wrap (x0 - 48))) ?_
 exact zr ((iv (IntKind.i64.wrap (x0 - 48))), []) ⟨_, rfl⟩
noncomputable def Z74 (x0 : Int) : Option (Int) :=
 some ((IntKind.i64.wrap ((IntKind.i64.wrap (x0 - 97)) + 10)))
theorem ZbE (x0 : Int) : Sim (Z4N) (Z74 x0) (Zdk 0 (iv x0) []) := by
 unfold Z74
 refine zf (Zgu ..) ?_
 refine ze ?_
 refine zo (iv (IntKind.i64.wrap (x0 - 97))) ?_
 refine zo (iv (IntKind.i64.wrap ((IntKind.i64.wrap (x0 - 97)) + 10))) ?_
 exact zr ((iv (IntKind.i64.wrap ((IntKind.i64.wrap (x0 - 97)) + 10))), []) ⟨_, rfl⟩
noncomputable def Z66  : Option (Int) :=
 some ((-1))
theorem Z8R  : Sim (Z4N) (Z66) (Zct 0  []) := by
 unfold Z66
 refine zf (Zfd ..) ?_
 refine ze ?_
 exact zr ((iv (-1)), []) ⟨_, rfl⟩
noncomputable def Z60 (x0 : Int) : Option (Int) :=
 if ((decide (97 ≤ x0))) = true then
 (if ((decide (x0 ≤ 102))) = true then
 (Z74 x0)
 else
 (Z66))
 else
 (Z66)
theorem Z8P (x0 : Int) : Sim (Z4N) (Z60 x0) (Zca 0 (iv x0) []) := by
 unfold Z60
 refine zf (ZfI ..) ?_
 refine ze ?_
 refine zo (bv (decide (97 ≤ x0))) ?_
 refine za ((decide (97 ≤ x0))) ?_ ?_
 ·refine zo (bv (decide (x0 ≤ 102))) ?_
  refine za ((decide (x0 ≤ 102))) ?_ ?_
  ·exact zk (ZbE (x0))
  ·exact zk (Z8R )
 ·exact zk (Z8R )
noncomputable def Z8O (x0 : Int) : Option (Int) :=
 if ((decide (48 ≤ x0))) = true then
 (if ((decide (x0 ≤ 57))) = true then
 (Z73 x0)
 else
 (Z60 x0))
 else
 (Z60 x0)
theorem Zcm (x0 : Int) : Sim (Z4N) (Z8O x0) (EE 71 [(iv x0)] []) := by
 unfold Z8O
 refine zf (Zi7 ..) ?_
 refine ze ?_
 refine ze ?_
 refine zo (bv (decide (48 ≤ x0))) ?_
 refine za ((decide (48 ≤ x0))) ?_ ?_
 ·refine zo (bv (decide (x0 ≤ 57))) ?_
  refine za ((decide (x0 ≤ 57))) ?_ ?_
  ·exact zk (Zbu (x0))
  ·exact zk (Z8P (x0))
 ·exact zk (Z8P (x0))
theorem ZcB (x0 : Int) {r} (h : Z8O x0 = some r) : Z7l x0 = some r :=
 pick_of (fun _ _ ha hb => RRun.uniq (Zd3) (ha ) (hb )) (Zcm x0 r h)
noncomputable def Z6s (x0 : List Z7) (x1 : Int) : Option (Bool) :=
 (Z35 x0 x1).bind fun r1 =>
 some (r1)
theorem Zbl (x0 : List Z7) (x1 : Int) (ox0 : Own) : Sim (Z5F) (Z6s x0 x1) (EE 19 [(.p (.lst ox0 (x0.map Zs))), (iv x1)] []) := by
 unfold Z6s
 refine zf (Zhf ..) ?_
 refine ze ?_
 refine zx (.ptr 0 0) [[(iv x1)]] ?_
 refine ze ?_
 refine zi fun r1 hr1 => ?_
 obtain ⟨qr1, er1, exr1, rfl⟩ := Z7f (x0) (x1) .sh r1 hr1
 refine zc [0] (bv r1) [[(iv x1)]] er1 ?_
 exact zr ((bv r1), [[(iv x1)]]) ⟨_, rfl⟩
theorem ZbG (x0 : List Z7) (x1 : Int) {r} (h : Z6s x0 x1 = some r) : Z5G x0 x1 = some r :=
 pick_of (fun _ _ ha hb => RRun.uniq (ZbW) (ha .ex) (hb .ex)) (fun ox0 => Zbl x0 x1 ox0 r h)
noncomputable def Z36 (x0 : List Z7) (zY : Int) : Option (Bool) :=
 (Z3D x0 zY).bind fun r1 =>
 some ((decide (0 ≤ r1)))
theorem Z6U (x0 : List Z7) (zY : Int) (ox0 : Own) : Sim (Z2A zY) (Z36 x0 zY) (EE 30 [(.p (.lst ox0 (x0.map Zs))), (.clo 31 [] [(.ptr 0 0)])] [[(iv zY)]]) := by
 unfold Z36
 refine zf (Zh3 ..) ?_
 refine ze ?_
 refine ze ?_
 refine zi fun r1 hr1 => ?_
 obtain ⟨qr1, er1, exr1, rfl⟩ := Z7Y (x0) (zY) .sh r1 hr1
 refine zc [0] (iv r1) [[(iv zY)]] er1 ?_
 refine zo (bv (decide (0 ≤ r1))) ?_
 exact zr ((bv (decide (0 ≤ r1))), [[(iv zY)]]) ⟨_, rfl⟩
theorem Z7g (x0 : List Z7) (zY : Int) {r} (h : Z36 x0 zY = some r) : Z35 x0 zY = some r :=
 pick_of (fun _ _ ha hb => RRun.uniq (Z7p _) (ha .ex) (hb .ex)) (fun ox0 => Z6U x0 zY ox0 r h)
noncomputable def Z3F (x0 : List Z7) (zY : Int) : Option (Int) :=
 Z2w x0 ((x0.length : Int)) 0 zY
theorem Z7J (x0 : List Z7) (zY : Int) (ox0 : Own) : Sim (Z1m zY) (Z3F x0 zY) (EE 37 [(.p (.lst ox0 (x0.map Zs))), (.clo 31 [] [(.ptr 0 0)])] [[(iv zY)]]) := by
 unfold Z3F
 refine zf (Zhb ..) ?_
 refine ze ?_
 refine ze ?_
 refine zo (iv (x0.length : Int)) ?_ (Eq.trans (by kernel_rfl) (xlen_of (P := PP) (t := 24) (d := 39) (by kernel_rfl) Zs (shrO ox0) x0))
 exact zk (Z5c (x0) ((x0.length : Int)) (0) (zY) ox0)
theorem Z80 (x0 : List Z7) (zY : Int) {r} (h : Z3F x0 zY = some r) : Z3D x0 zY = some r :=
 pick_of (fun _ _ ha hb => RRun.uniq (Z5C _) (ha .ex) (hb .ex)) (fun ox0 => Z7J x0 zY ox0 r h)
noncomputable def Z34 (x0 : List Z7) (x7 : Int) (x8 : Int) (zY : Int) : Option (Int) :=
 Z2w x0 x7 ((IntKind.i64.wrap (x8 + 1))) zY
theorem Z76 (x0 : List Z7) (x7 : Int) (x8 : Int) (zY : Int) (ox0 : Own) : Sim (Z1m zY) (Z34 x0 x7 x8 zY) (ZdC 1 (.p (.lst ox0 (x0.map Zs))) (.clo 31 [] [(.ptr 0 0)]) (iv x7) (iv x8) [[(iv zY)]]) := by
 unfold Z34
 refine zf (ZfR ..) ?_
 refine ze ?_
 refine zo (iv (IntKind.i64.wrap (x8 + 1))) ?_
 exact zk (Z5c (x0) (x7) ((IntKind.i64.wrap (x8 + 1))) (zY) ox0)
noncomputable def Z2z (x0 : List Z7) (x7 : Int) (x8 : Int) (zY : Int) : Option (Int) :=
 (lget x0 x8).bind fun a1 =>
 (Z5Q a1 zY).bind fun r2 =>
 if (r2) = true then
 (some (x8))
 else
 (Z34 x0 x7 x8 zY)
theorem Z77 (x0 : List Z7) (x7 : Int) (x8 : Int) (zY : Int) (ox0 : Own) : Sim (Z1m zY) (Z2z x0 x7 x8 zY) (Ze4 1 (.p (.lst ox0 (x0.map Zs))) (.clo 31 [] [(.ptr 0 0)]) (iv x7) (iv x8) [[(iv zY)]]) := by
 unfold Z2z
 refine zf (Zg6 ..) ?_
 refine ze ?_
 refine ze ?_
 refine zi fun a1 ha1 => ?_
 refine zo (.cptr (ZF a1)) ?_ (Eq.trans (by kernel_rfl) (xidx_of (o := (shrO ox0)) (k := .i64) (n := 2) (e := Zs) (cs := Z3w) (fun _ => rfl) (fun _ => rfl) (by decide) ha1))
 refine zo (.p (.agg (ZF a1))) ?_
 refine zi fun r2 hr2 => ?_
 obtain ⟨qr2, er2, exr2, rfl⟩ := Zbh (a1) (zY) r2 hr2
 refine zv [0] (bv r2) [[(iv zY)]] er2 ?_
 refine za (r2) ?_ ?_
 ·refine ze ?_
  exact zr ((iv x8), [[(iv zY)]]) ⟨_, rfl⟩
 ·exact zk (Z76 (x0) (x7) (x8) (zY) ox0)
noncomputable def Z4i  : Option (Int) :=
 some ((-1))
theorem Z6R (zY : Int) : Sim (Z1m zY) (Z4i) (Zeb 1  [[(iv zY)]]) := by
 unfold Z4i
 refine zf (Zg8 ..) ?_
 refine ze ?_
 exact zr ((iv (-1)), [[(iv zY)]]) ⟨_, rfl⟩
noncomputable def Z22 (x0 : List Z7) (x7 : Int) (x8 : Int) (zY : Int) : Option (Int) :=
 if ((decide (x8 < x7))) = true then
 (Z2z x0 x7 x8 zY)
 else
 (Z4i)
theorem Z79 (x0 : List Z7) (x7 : Int) (x8 : Int) (zY : Int) (ox0 : Own) : Sim (Z1m zY) (Z22 x0 x7 x8 zY) (ZaN 1 (.p (.lst ox0 (x0.map Zs))) (.clo 31 [] [(.ptr 0 0)]) (iv x7) (iv x8) [[(iv zY)]]) := by
 unfold Z22
 refine zf (ZfY ..) ?_
 refine ze ?_
 refine zo (bv (decide (x8 < x7))) ?_
 refine za ((decide (x8 < x7))) ?_ ?_
 ·exact zk (Z77 (x0) (x7) (x8) (zY) ox0)
 ·exact zk (Z6R (zY))
theorem Z3J (x0 : List Z7) (x7 : Int) (x8 : Int) (zY : Int) {r} (h : Z22 x0 x7 x8 zY = some r) : Z2w x0 x7 x8 zY = some r :=
 pick_of (fun _ _ ha hb => RRun.uniq (Z5C _) (ha .ex) (hb .ex)) (fun ox0 => Z79 x0 x7 x8 zY ox0 r h)
noncomputable def Z5R (x0 : Z7) (zY : Int) : Option (Bool) :=
 if ((decide (x0.Lo ≤ zY))) = true then
 (some ((decide (zY ≤ x0.Hi))))
 else
 (some (false))
theorem ZaF (x0 : Z7) (zY : Int) : Sim (Z5d zY) (Z5R x0 zY) (EE 31 [(.p (.agg (ZF x0))), (.ptr 0 0)] [[(iv zY)]]) := by
 unfold Z5R
 refine zf (ZhR ..) ?_
 refine ze ?_
 refine zx (.ptr 1 0) [[(iv zY)], (Z1i x0)] ?_
 refine ze ?_
 refine zo (.ptr 1 0) ?_
 refine zo (iv x0.Lo) ?_
 refine zo (iv zY) ?_
 refine zo (bv (decide (x0.Lo ≤ zY))) ?_
 refine za ((decide (x0.Lo ≤ zY))) ?_ ?_
 ·refine zo (iv zY) ?_
  refine zo (.ptr 1 1) ?_
  refine zo (iv x0.Hi) ?_
  refine zo (bv (decide (zY ≤ x0.Hi))) ?_
  exact zr ((bv (decide (zY ≤ x0.Hi))), [[(iv zY)], (Z1i x0)]) ⟨_, rfl⟩
 ·exact zr ((bv false), [[(iv zY)], (Z1i x0)]) ⟨_, rfl⟩
theorem Zbb (x0 : Z7) (zY : Int) {r} (h : Z5R x0 zY = some r) : Z5Q x0 zY = some r :=
 pick_of (fun _ _ ha hb => RRun.uniq (Zbn _) (ha ) (hb )) (ZaF x0 zY r h)
noncomputable def Z4k (x1 : Int) (zl : List Int) (zp : Int) (z6 : Int) (zd : Int) (zh : List Zr) (z1 : Int) (z2 : Int) : Option (Z8 × Int × Int × Int) :=
 (Z13 ((ByteArray.mk #[94])) zl zp).bind fun r1 =>
 Z2C x1 r1.1 0 zl r1.2 z6 zd zh z1 z2 (([] : List Z7))
theorem Z9M (x1 : Int) (zl : List Int) (zp : Int) (z6 : Int) (zd : Int) (zh : List Zr) (z1 : Int) (z2 : Int) (zn : Own) (zb : Own) (zu : okApp zb = true) : Sim (Z16 zl z6 zd zh zn zb) (Z4k x1 zl zp z6 zd zh z1 z2) (EE 50 [(.ptr 0 0), (iv x1)] [(Zi (Zk.mk zl zp z6 zd zh (Zj.mk z1 z2)) zn zb)]) := by
 unfold Z4k
 refine zf (Zha ..) ?_
 refine ze ?_
 refine zz (.ptr 1 0) [(Zi (Zk.mk zl zp z6 zd zh (Zj.mk z1 z2)) zn zb), (Zq (Z8.mk 0 0 0 0 0 ([] : List Z7) ([] : List Z8)) .nl .nl)] ?_
 refine ze ?_
 refine zi fun r1 hr1 => ?_
 obtain ⟨qr1, er1, exr1, rfl⟩ := Z18 ((ByteArray.mk #[94])) (zl) (zp) (z6) (zd) (zh) (z1) (z2) zn zb zu r1 hr1
 refine zc [0] (bv r1.1) [(Zi (Zk.mk zl r1.2 z6 zd zh (Zj.mk z1 z2)) zn zb), (Zq (Z8.mk 0 0 0 0 0 ([] : List Z7) ([] : List Z8)) .nl .nl)] er1 ?_
 refine ze ?_
 refine zz (.ptr 2 0) [(Zi (Zk.mk zl r1.2 z6 zd zh (Zj.mk z1 z2)) zn zb), (Zq (Z8.mk 0 0 0 0 0 ([] : List Z7) ([] : List Z8)) .nl .nl), [(.p (.lst .nl []))]] ?_
 refine ze ?_
 refine ze ?_
 exact zk (Z6e (x1) (r1.1) (0) (zl) (r1.2) (z6) (zd) (zh) (z1) (z2) ((Z8.mk 0 0 0 0 0 ([] : List Z7) ([] : List Z8))) (([] : List Z7)) zn zb .nl .nl .nl zu rfl rfl)
theorem Za1 (x1 : Int) (zl : List Int) (zp : Int) (z6 : Int) (zd : Int) (zh : List Zr) (z1 : Int) (z2 : Int) {r} (h : Z4k x1 zl zp z6 zd zh z1 z2 = some r) : Z5j x1 zl zp z6 zd zh z1 z2 = some r :=
 pick_of (fun _ _ ha hb => RRun.uniq (Z7q _ _ _ _ _ _) (ha .ex .ex rfl) (hb .ex .ex rfl)) (fun zn zb zu => Z9M x1 zl zp z6 zd zh z1 z2 zn zb zu r h)
noncomputable def Z19 (x1 : Int) (x5 : Bool) (x8 : Int) (zl : List Int) (zp : Int) (z6 : Int) (zd : Int) (zh : List Zr) (z1 : Int) (z2 : Int) (zZ : List Z7) : Option (Z8 × Int × Int × Int) :=
 Z2C x1 x5 ((IntKind.i64.wrap (x8 + 1))) zl zp z6 zd zh z1 z2 zZ
theorem Z1D (x1 : Int) (x5 : Bool) (x8 : Int) (zl : List Int) (zp : Int) (z6 : Int) (zd : Int) (zh : List Zr) (z1 : Int) (z2 : Int) (b1 : Z8) (zZ : List Z7) (zn : Own) (zb : Own) (zB : Own) (zy : Own) (z1a : Own) (zu : okApp zb = true) (zP : okApp zB = true) (zH : okApp zy = true) : Sim (Z16 zl z6 zd zh zn zb) (Z19 x1 x5 x8 zl zp z6 zd zh z1 z2 zZ) (Z6C 1 (.ptr 0 0) (iv x1) (.ptr 1 0) (bv x5) (.ptr 2 0) (.clo 58 [] [(.ptr 2 0)]) (iv x8) [(Zi (Zk.mk zl zp z6 zd zh (Zj.mk z1 z2)) zn zb), (Zq b1 zB zy), [(.p (.lst z1a (zZ.map Zs)))]]) := by
 unfold Z19
 refine zf (Zgq ..) ?_
 refine ze ?_
 refine zo (iv (IntKind.i64.wrap (x8 + 1))) ?_
 exact zk (Z6e (x1) (x5) ((IntKind.i64.wrap (x8 + 1))) (zl) (zp) (z6) (zd) (zh) (z1) (z2) (b1) (zZ) zn zb zB zy z1a zu zP zH)
noncomputable def Z3s (zp : Int) (z1 : Int) (z2 : Int) (zZ : List Z7) : Option (Z8 × Int × Int × Int) :=
 some ((Z8.mk 1 0 0 0 0 zZ ([] : List Z8)), zp, z1, z2)
theorem Z5U (zl : List Int) (zp : Int) (z6 : Int) (zd : Int) (zh : List Zr) (z1 : Int) (z2 : Int) (b1 : Z8) (zZ : List Z7) (zn : Own) (zb : Own) (zB : Own) (zy : Own) (z1a : Own) (zu : okApp zb = true) (zP : okApp zB = true) (zH : okApp zy = true) : Sim (Z16 zl z6 zd zh zn zb) (Z3s zp z1 z2 zZ) (ZbM 1 (.ptr 1 0) (.ptr 2 0) [(Zi (Zk.mk zl zp z6 zd zh (Zj.mk z1 z2)) zn zb), (Zq b1 zB zy), [(.p (.lst z1a (zZ.map Zs)))]]) := by
 unfold Z3s
 refine zf (ZeT ..) ?_
 refine ze ?_
 refine zo (.p (.lst (shrO z1a) (zZ.map Zs))) ?_
 refine zo (.p (.agg (ZD (Z8.mk 1 0 0 0 0 zZ ([] : List Z8)) (shrO (shrO z1a)) .nl))) ?_
 refine zt [(Zi (Zk.mk zl zp z6 zd zh (Zj.mk z1 z2)) zn zb), (Zq (Z8.mk 1 0 0 0 0 zZ ([] : List Z8)) (shrO (shrO z1a)) .nl), [(.p (.lst z1a (zZ.map Zs)))]] ?_
 exact zr ((.p (.agg (ZD (Z8.mk 1 0 0 0 0 zZ ([] : List Z8)) .sh .sh))), [(Zi (Zk.mk zl zp z6 zd zh (Zj.mk z1 z2)) zn zb), (Zq (Z8.mk 1 0 0 0 0 zZ ([] : List Z8)) (shrO (shrO z1a)) .nl), [(.p (.lst z1a (zZ.map Zs)))]]) ⟨_, rfl⟩
noncomputable def Z4p (x5 : Bool) (zl : List Int) (zp : Int) (z1 : Int) (z2 : Int) (zZ : List Z7) : Option (Z8 × Int × Int × Int) :=
 (Z1W zl zp).bind fun r1 =>
 if (x5) = true then
 ((Z5B zZ).bind fun r2 =>
 Z3s r1.2 z1 z2 r2.1)
 else
 (Z3s r1.2 z1 z2 zZ)
theorem Z8G (x5 : Bool) (zl : List Int) (zp : Int) (z6 : Int) (zd : Int) (zh : List Zr) (z1 : Int) (z2 : Int) (b1 : Z8) (zZ : List Z7) (zn : Own) (zb : Own) (zB : Own) (zy : Own) (z1a : Own) (zu : okApp zb = true) (zP : okApp zB = true) (zH : okApp zy = true) : Sim (Z16 zl z6 zd zh zn zb) (Z4p x5 zl zp z1 z2 zZ) (ZcC 1 (.ptr 0 0) (.ptr 1 0) (bv x5) (.ptr 2 0) [(Zi (Zk.mk zl zp z6 zd zh (Zj.mk z1 z2)) zn zb), (Zq b1 zB zy), [(.p (.lst z1a (zZ.map Zs)))]]) := by
 unfold Z4p
 refine zf (ZeO ..) ?_
 refine ze ?_
 refine zi fun r1 hr1 => ?_
 obtain ⟨qr1, er1, exr1, rfl⟩ := Z2g (zl) (zp) (z6) (zd) (zh) (z1) (z2) zn zb zu r1 hr1
 refine zc [0] (iv r1.1) [(Zi (Zk.mk zl r1.2 z6 zd zh (Zj.mk z1 z2)) zn zb), (Zq b1 zB zy), [(.p (.lst z1a (zZ.map Zs)))]] er1 ?_
 refine ze ?_
 refine za (x5) ?_ ?_
 ·refine ze ?_
  refine zo (.p (.lst (shrO z1a) (zZ.map Zs))) ?_
  refine zi fun r2 hr2 => ?_
  obtain ⟨qr2, er2, exr2, rfl⟩ := Z8U (zZ) .sh r2 hr2
  refine zc [] (.p (.tup [(.lst .sh (r2.1.map Zs)), (.v (.int .i64 r2.2))])) [(Zi (Zk.mk zl r1.2 z6 zd zh (Zj.mk z1 z2)) zn zb), (Zq b1 zB zy), [(.p (.lst z1a (zZ.map Zs)))]] er2 ?_
  refine zo (.p (.lst .sh (r2.1.map Zs))) ?_
  refine zo (iv r2.2) ?_
  refine zt [(Zi (Zk.mk zl r1.2 z6 zd zh (Zj.mk z1 z2)) zn zb), (Zq b1 zB zy), [(.p (.lst .sh (r2.1.map Zs)))]] ?_
  exact zk (Z5U (zl) (r1.2) (z6) (zd) (zh) (z1) (z2) (b1) (r2.1) zn zb zB zy .sh zu zP zH)
 ·exact zk (Z5U (zl) (r1.2) (z6) (zd) (zh) (z1) (z2) (b1) (zZ) zn zb zB zy z1a zu zP zH)
noncomputable def Z2o (x1 : Int) (x5 : Bool) (x8 : Int) (x9 : Int) (zl : List Int) (z6 : Int) (zd : Int) (zh : List Zr) (z1 : Int) (z2 : Int) (zZ : List Z7) : Option (Z8 × Int × Int × Int) :=
 (ZT 22 x9 zl z1 z2).bind fun r1 =>
 Z19 x1 x5 x8 zl r1.1 z6 zd zh r1.2.1 r1.2.2 zZ
theorem Z3A (x1 : Int) (x5 : Bool) (x8 : Int) (x9 : Int) (zl : List Int) (zp : Int) (z6 : Int) (zd : Int) (zh : List Zr) (z1 : Int) (z2 : Int) (b1 : Z8) (zZ : List Z7) (zn : Own) (zb : Own) (zB : Own) (zy : Own) (z1a : Own) (zu : okApp zb = true) (zP : okApp zB = true) (zH : okApp zy = true) : Sim (Z16 zl z6 zd zh zn zb) (Z2o x1 x5 x8 x9 zl z6 zd zh z1 z2 zZ) (Z9E 1 (.ptr 0 0) (iv x1) (.ptr 1 0) (bv x5) (.ptr 2 0) (.clo 58 [] [(.ptr 2 0)]) (iv x8) (iv x9) [(Zi (Zk.mk zl zp z6 zd zh (Zj.mk z1 z2)) zn zb), (Zq b1 zB zy), [(.p (.lst z1a (zZ.map Zs)))]]) := by
 unfold Z2o
 refine zf (ZeN ..) ?_
 refine ze ?_
 refine zi fun r1 hr1 => ?_
 obtain ⟨qr1, er1, exr1, rfl⟩ := ZW (22) (x9) (zl) (zp) (z6) (zd) (zh) (z1) (z2) zn zb zu r1 hr1
 refine zc [0] (.p (.tup [])) [(Zi (Zk.mk zl r1.1 z6 zd zh (Zj.mk r1.2.1 r1.2.2)) zn zb), (Zq b1 zB zy), [(.p (.lst z1a (zZ.map Zs)))]] er1 ?_
 exact zk (Z1D (x1) (x5) (x8) (zl) (r1.1) (z6) (zd) (zh) (r1.2.1) (r1.2.2) (b1) (zZ) zn zb zB zy z1a zu zP zH)
noncomputable def Z1y (x1 : Int) (x5 : Bool) (x8 : Int) (x11 : Int) (x15 : Int) (zl : List Int) (zp : Int) (z6 : Int) (zd : Int) (zh : List Zr) (z1 : Int) (z2 : Int) (zZ : List Z7) : Option (Z8 × Int × Int × Int) :=
 if ((z1 == 0)) = true then
 ((Z3P (([(Z7.mk x11 x15)] : List Z7)) zZ).bind fun r1 =>
 Z19 x1 x5 x8 zl zp z6 zd zh z1 z2 r1)
 else
 (Z19 x1 x5 x8 zl zp z6 zd zh z1 z2 zZ)
theorem Z3y (x1 : Int) (x5 : Bool) (x8 : Int) (x11 : Int) (x15 : Int) (zl : List Int) (zp : Int) (z6 : Int) (zd : Int) (zh : List Zr) (z1 : Int) (z2 : Int) (b1 : Z8) (zZ : List Z7) (zn : Own) (zb : Own) (zB : Own) (zy : Own) (z1a : Own) (zu : okApp zb = true) (zP : okApp zB = true) (zH : okApp zy = true) : Sim (Z16 zl z6 zd zh zn zb) (Z1y x1 x5 x8 x11 x15 zl zp z6 zd zh z1 z2 zZ) (Z9B 1 (.ptr 0 0) (iv x1) (.ptr 1 0) (bv x5) (.ptr 2 0) (.clo 58 [] [(.ptr 2 0)]) (iv x8) (iv x11) (iv x15) [(Zi (Zk.mk zl zp z6 zd zh (Zj.mk z1 z2)) zn zb), (Zq b1 zB zy), [(.p (.lst z1a (zZ.map Zs)))]]) := by
 unfold Z1y
 refine zf (ZeL ..) ?_
 refine ze ?_
 refine zo (.ptr 0 0) ?_
 refine zo (.ptr 0 5) ?_
 refine zo (.ptr 0 5) ?_
 refine zo (iv z1) ?_
 refine zo (bv (z1 == 0)) ?_
 refine za ((z1 == 0)) ?_ ?_
 ·refine ze ?_
  refine zo (.p (.agg (ZF (Z7.mk x11 x15)))) ?_
  refine zo (.p (.lst .ex (([(Z7.mk x11 x15)] : List Z7).map Zs))) ?_
  refine zi fun r1 hr1 => ?_
  obtain ⟨qr1, er1, or1_0_0, exr1, rfl⟩ := Z6n (([(Z7.mk x11 x15)] : List Z7)) (zZ) .sh z1a r1 hr1
  refine zv [2] (.p (.tup [])) [(Zi (Zk.mk zl zp z6 zd zh (Zj.mk z1 z2)) zn zb), (Zq b1 zB zy), [(.p (.lst or1_0_0 (r1.map Zs)))]] er1 ?_
  exact zk (Z1D (x1) (x5) (x8) (zl) (zp) (z6) (zd) (zh) (z1) (z2) (b1) (r1) zn zb zB zy or1_0_0 zu zP zH)
 ·exact zk (Z1D (x1) (x5) (x8) (zl) (zp) (z6) (zd) (zh) (z1) (z2) (b1) (zZ) zn zb zB zy z1a zu zP zH)
noncomputable def Z2N (x1 : Int) (x5 : Bool) (x8 : Int) (x9 : Int) (x11 : Int) (x15 : Int) (zl : List Int) (z6 : Int) (zd : Int) (zh : List Zr) (z1 : Int) (z2 : Int) (zZ : List Z7) : Option (Z8 × Int × Int × Int) :=
 (ZT 22 x9 zl z1 z2).bind fun r1 =>
 Z1y x1 x5 x8 x11 x15 zl r1.1 z6 zd zh r1.2.1 r1.2.2 zZ
theorem Z5V (x1 : Int) (x5 : Bool) (x8 : Int) (x9 : Int) (x11 : Int) (x15 : Int) (zl : List Int) (zp : Int) (z6 : Int) (zd : Int) (zh : List Zr) (z1 : Int) (z2 : Int) (b1 : Z8) (zZ : List Z7) (zn : Own) (zb : Own) (zB : Own) (zy : Own) (z1a : Own) (zu : okApp zb = true) (zP : okApp zB = true) (zH : okApp zy = true) : Sim (Z16 zl z6 zd zh zn zb) (Z2N x1 x5 x8 x9 x11 x15 zl z6 zd zh z1 z2 zZ) (ZbI 1 (.ptr 0 0) (iv x1) (.ptr 1 0) (bv x5) (.ptr 2 0) (.clo 58 [] [(.ptr 2 0)]) (iv x8) (iv x9) (iv x11) (iv x15) [(Zi (Zk.mk zl zp z6 zd zh (Zj.mk z1 z2)) zn zb), (Zq b1 zB zy), [(.p (.lst z1a (zZ.map Zs)))]]) := by
 unfold Z2N
 refine zf (ZeR ..) ?_
 refine ze ?_
 refine zi fun r1 hr1 => ?_
 obtain ⟨qr1, er1, exr1, rfl⟩ := ZW (22) (x9) (zl) (zp) (z6) (zd) (zh) (z1) (z2) zn zb zu r1 hr1
 refine zc [0] (.p (.tup [])) [(Zi (Zk.mk zl r1.1 z6 zd zh (Zj.mk r1.2.1 r1.2.2)) zn zb), (Zq b1 zB zy), [(.p (.lst z1a (zZ.map Zs)))]] er1 ?_
 exact zk (Z3y (x1) (x5) (x8) (x11) (x15) (zl) (r1.1) (z6) (zd) (zh) (r1.2.1) (r1.2.2) (b1) (zZ) zn zb zB zy z1a zu zP zH)
noncomputable def Z4s (x1 : Int) (x5 : Bool) (x8 : Int) (x9 : Int) (x11 : Int) (zl : List Int) (zp : Int) (z6 : Int) (zd : Int) (zh : List Zr) (z1 : Int) (z2 : Int) (zZ : List Z7) : Option (Z8 × Int × Int × Int) :=
 (Z3g zl zp z6 zd zh z1 z2).bind fun r1 =>
 if ((r1.2.2.2.2.1 == 0)) = true then
 ((nilO (shrO (shrO (shrO (shrO r1.2.1.1)))) r1.2.1.2).bind fun a2 =>
 if ((!a2)) = true then
 (Z2N x1 x5 x8 x9 x11 r1.1 zl z6 zd zh r1.2.2.2.2.1 r1.2.2.2.2.2 zZ)
 else
 (if ((decide (r1.1 < x11))) = true then
 (Z2N x1 x5 x8 x9 x11 r1.1 zl z6 zd zh r1.2.2.2.2.1 r1.2.2.2.2.2 zZ)
 else
 (Z1y x1 x5 x8 x11 r1.1 zl r1.2.2.2.1 z6 zd zh r1.2.2.2.2.1 r1.2.2.2.2.2 zZ)))
 else
 (Z1y x1 x5 x8 x11 r1.1 zl r1.2.2.2.1 z6 zd zh r1.2.2.2.2.1 r1.2.2.2.2.2 zZ)
theorem Z8t (x1 : Int) (x5 : Bool) (x8 : Int) (x9 : Int) (x11 : Int) (zl : List Int) (zp : Int) (z6 : Int) (zd : Int) (zh : List Zr) (z1 : Int) (z2 : Int) (b1 : Z8) (zZ : List Z7) (zn : Own) (zb : Own) (zB : Own) (zy : Own) (z1a : Own) (zu : okApp zb = true) (zP : okApp zB = true) (zH : okApp zy = true) : Sim (Z16 zl z6 zd zh zn zb) (Z4s x1 x5 x8 x9 x11 zl zp z6 zd zh z1 z2 zZ) (ZcV 1 (.ptr 0 0) (iv x1) (.ptr 1 0) (bv x5) (.ptr 2 0) (.clo 58 [] [(.ptr 2 0)]) (iv x8) (iv x9) (iv x11) [(Zi (Zk.mk zl zp z6 zd zh (Zj.mk z1 z2)) zn zb), (Zq b1 zB zy), [(.p (.lst z1a (zZ.map Zs)))]]) := by
 unfold Z4s
 refine zf (Zf8 ..) ?_
 refine ze ?_
 refine zi fun r1 hr1 => ?_
 obtain ⟨qr1, er1, exr1, rfl⟩ := Z6D (zl) (zp) (z6) (zd) (zh) (z1) (z2) zn zb zu r1 hr1
 refine zc [0] (.p (.tup [(.v (.int .i64 r1.1)), (.lst r1.2.1.1 (r1.2.1.2.map Zs)), (.v (.bool r1.2.2.1))])) [(Zi (Zk.mk zl r1.2.2.2.1 z6 zd zh (Zj.mk r1.2.2.2.2.1 r1.2.2.2.2.2)) zn zb), (Zq b1 zB zy), [(.p (.lst z1a (zZ.map Zs)))]] er1 ?_
 refine zo (iv r1.1) ?_
 refine zo (.p (.lst (shrO r1.2.1.1) (r1.2.1.2.map Zs))) ?_
 refine zo (bv r1.2.2.1) ?_
 refine ze ?_
 refine zo (.ptr 0 0) ?_
 refine zo (.ptr 0 5) ?_
 refine zo (.ptr 0 5) ?_
 refine zo (iv r1.2.2.2.2.1) ?_
 refine zo (bv (r1.2.2.2.2.1 == 0)) ?_
 refine za ((r1.2.2.2.2.1 == 0)) ?_ ?_
 ·refine zi fun a2 ha2 => ?_
  refine zo (bv (!a2)) ?_ (Eq.trans (by kernel_rfl) (xnil_neq (P := PP) (t := 23) (c := .slice none 0 0) (e := Zs) (by kernel_rfl) ha2))
  refine za ((!a2)) ?_ ?_
  ·exact zk (Z5V (x1) (x5) (x8) (x9) (x11) (r1.1) (zl) (r1.2.2.2.1) (z6) (zd) (zh) (r1.2.2.2.2.1) (r1.2.2.2.2.2) (b1) (zZ) zn zb zB zy z1a zu zP zH)
  ·refine zo (bv (decide (r1.1 < x11))) ?_
   refine za ((decide (r1.1 < x11))) ?_ ?_
   ·exact zk (Z5V (x1) (x5) (x8) (x9) (x11) (r1.1) (zl) (r1.2.2.2.1) (z6) (zd) (zh) (r1.2.2.2.2.1) (r1.2.2.2.2.2) (b1) (zZ) zn zb zB zy z1a zu zP zH)
   ·exact zk (Z3y (x1) (x5) (x8) (x11) (r1.1) (zl) (r1.2.2.2.1) (z6) (zd) (zh) (r1.2.2.2.2.1) (r1.2.2.2.2.2) (b1) (zZ) zn zb zB zy z1a zu zP zH)
 ·exact zk (Z3y (x1) (x5) (x8) (x11) (r1.1) (zl) (r1.2.2.2.1) (z6) (zd) (zh) (r1.2.2.2.2.1) (r1.2.2.2.2.2) (b1) (zZ) zn zb zB zy z1a zu zP zH)
noncomputable def Z3r (x1 : Int) (x5 : Bool) (x8 : Int) (x9 : Int) (x11 : Int) (zl : List Int) (zp : Int) (z6 : Int) (zd : Int) (zh : List Zr) (z1 : Int) (z2 : Int) (zZ : List Z7) : Option (Z8 × Int × Int × Int) :=
 (Z13 ((ByteArray.mk #[45])) zl zp).bind fun r1 =>
 if (r1.1) = true then
 ((Z1C ((Zk.mk zl r1.2 z6 zd zh (Zj.mk z1 z2)))).bind fun r2 =>
 if ((r2 == 93)) = true then
 (Z2o x1 x5 x8 x9 zl z6 zd zh z1 z2 zZ)
 else
 (if ((r2 == 91)) = true then
 (Z2o x1 x5 x8 x9 zl z6 zd zh z1 z2 zZ)
 else
 (if ((r2 == 45)) = true then
 (Z2o x1 x5 x8 x9 zl z6 zd zh z1 z2 zZ)
 else
 (if ((decide (r2 < 0))) = true then
 (Z2o x1 x5 x8 x9 zl z6 zd zh z1 z2 zZ)
 else
 (Z4s x1 x5 x8 x9 x11 zl r1.2 z6 zd zh z1 z2 zZ)))))
 else
 (Z1y x1 x5 x8 x11 x11 zl r1.2 z6 zd zh z1 z2 zZ)
theorem Z8H (x1 : Int) (x5 : Bool) (x8 : Int) (x9 : Int) (x11 : Int) (zl : List Int) (zp : Int) (z6 : Int) (zd : Int) (zh : List Zr) (z1 : Int) (z2 : Int) (b1 : Z8) (zZ : List Z7) (zn : Own) (zb : Own) (zB : Own) (zy : Own) (z1a : Own) (zu : okApp zb = true) (zP : okApp zB = true) (zH : okApp zy = true) : Sim (Z16 zl z6 zd zh zn zb) (Z3r x1 x5 x8 x9 x11 zl zp z6 zd zh z1 z2 zZ) (ZcT 1 (.ptr 0 0) (iv x1) (.ptr 1 0) (bv x5) (.ptr 2 0) (.clo 58 [] [(.ptr 2 0)]) (iv x8) (iv x9) (iv x11) [(Zi (Zk.mk zl zp z6 zd zh (Zj.mk z1 z2)) zn zb), (Zq b1 zB zy), [(.p (.lst z1a (zZ.map Zs)))]]) := by
 unfold Z3r
 refine zf (Zf5 ..) ?_
 refine ze ?_
 refine ze ?_
 refine zi fun r1 hr1 => ?_
 obtain ⟨qr1, er1, exr1, rfl⟩ := Z18 ((ByteArray.mk #[45])) (zl) (zp) (z6) (zd) (zh) (z1) (z2) zn zb zu r1 hr1
 refine zc [0] (bv r1.1) [(Zi (Zk.mk zl r1.2 z6 zd zh (Zj.mk z1 z2)) zn zb), (Zq b1 zB zy), [(.p (.lst z1a (zZ.map Zs)))]] er1 ?_
 refine za (r1.1) ?_ ?_
 ·refine ze ?_
  refine zi fun r2 hr2 => ?_
  obtain ⟨qr2, er2, exr2, rfl⟩ := Z1F ((Zk.mk zl r1.2 z6 zd zh (Zj.mk z1 z2))) zn zb zu r2 hr2
  refine zc [0] (iv r2) [(Zi (Zk.mk zl r1.2 z6 zd zh (Zj.mk z1 z2)) zn zb), (Zq b1 zB zy), [(.p (.lst z1a (zZ.map Zs)))]] er2 ?_
  refine ze ?_
  refine zo (bv (r2 == 93)) ?_
  refine za ((r2 == 93)) ?_ ?_
  ·exact zk (Z3A (x1) (x5) (x8) (x9) (zl) (r1.2) (z6) (zd) (zh) (z1) (z2) (b1) (zZ) zn zb zB zy z1a zu zP zH)
  ·refine zo (bv (r2 == 91)) ?_
   refine za ((r2 == 91)) ?_ ?_
   ·exact zk (Z3A (x1) (x5) (x8) (x9) (zl) (r1.2) (z6) (zd) (zh) (z1) (z2) (b1) (zZ) zn zb zB zy z1a zu zP zH)
   ·refine zo (bv (r2 == 45)) ?_
    refine za ((r2 == 45)) ?_ ?_
    ·exact zk (Z3A (x1) (x5) (x8) (x9) (zl) (r1.2) (z6) (zd) (zh) (z1) (z2) (b1) (zZ) zn zb zB zy z1a zu zP zH)
    ·refine zo (bv (decide (r2 < 0))) ?_
     refine za ((decide (r2 < 0))) ?_ ?_
     ·exact zk (Z3A (x1) (x5) (x8) (x9) (zl) (r1.2) (z6) (zd) (zh) (z1) (z2) (b1) (zZ) zn zb zB zy z1a zu zP zH)
     ·exact zk (Z8t (x1) (x5) (x8) (x9) (x11) (zl) (r1.2) (z6) (zd) (zh) (z1) (z2) (b1) (zZ) zn zb zB zy z1a zu zP zH)
 ·exact zk (Z3y (x1) (x5) (x8) (x11) (x11) (zl) (r1.2) (z6) (zd) (zh) (z1) (z2) (b1) (zZ) zn zb zB zy z1a zu zP zH)
noncomputable def Z3u (x1 : Int) (x5 : Bool) (x8 : Int) (x9 : Int) (zl : List Int) (zp : Int) (z6 : Int) (zd : Int) (zh : List Zr) (z1 : Int) (z2 : Int) (zZ : List Z7) : Option (Z8 × Int × Int × Int) :=
 (Z3g zl zp z6 zd zh z1 z2).bind fun r1 =>
 (nilO (shrO (shrO (shrO (shrO r1.2.1.1)))) r1.2.1.2).bind fun a2 =>
 if ((!a2)) = true then
 ((Z2t r1.2.2.1 r1.2.1.2).bind fun r3 =>
 (Z3P r3.Set zZ).bind fun r4 =>
 (Z1C ((Zk.mk zl r1.2.2.2.1 z6 zd zh (Zj.mk r1.2.2.2.2.1 r1.2.2.2.2.2)))).bind fun r5 =>
 if ((r5 == 45)) = true then
 ((ZT 22 r1.2.2.2.1 zl r1.2.2.2.2.1 r1.2.2.2.2.2).bind fun r6 =>
 Z19 x1 x5 x8 zl r6.1 z6 zd zh r6.2.1 r6.2.2 r4)
 else
 (Z19 x1 x5 x8 zl r1.2.2.2.1 z6 zd zh r1.2.2.2.2.1 r1.2.2.2.2.2 r4))
 else
 (Z3r x1 x5 x8 x9 r1.1 zl r1.2.2.2.1 z6 zd zh r1.2.2.2.2.1 r1.2.2.2.2.2 zZ)
theorem Z61 (x1 : Int) (x5 : Bool) (x8 : Int) (x9 : Int) (zl : List Int) (zp : Int) (z6 : Int) (zd : Int) (zh : List Zr) (z1 : Int) (z2 : Int) (b1 : Z8) (zZ : List Z7) (zn : Own) (zb : Own) (zB : Own) (zy : Own) (z1a : Own) (zu : okApp zb = true) (zP : okApp zB = true) (zH : okApp zy = true) : Sim (Z16 zl z6 zd zh zn zb) (Z3u x1 x5 x8 x9 zl zp z6 zd zh z1 z2 zZ) (ZbH 1 (.ptr 0 0) (iv x1) (.ptr 1 0) (bv x5) (.ptr 2 0) (.clo 58 [] [(.ptr 2 0)]) (iv x8) (iv x9) [(Zi (Zk.mk zl zp z6 zd zh (Zj.mk z1 z2)) zn zb), (Zq b1 zB zy), [(.p (.lst z1a (zZ.map Zs)))]]) := by
 unfold Z3u
 refine zf (ZeM ..) ?_
 refine ze ?_
 refine zi fun r1 hr1 => ?_
 obtain ⟨qr1, er1, exr1, rfl⟩ := Z6D (zl) (zp) (z6) (zd) (zh) (z1) (z2) zn zb zu r1 hr1
 refine zc [0] (.p (.tup [(.v (.int .i64 r1.1)), (.lst r1.2.1.1 (r1.2.1.2.map Zs)), (.v (.bool r1.2.2.1))])) [(Zi (Zk.mk zl r1.2.2.2.1 z6 zd zh (Zj.mk r1.2.2.2.2.1 r1.2.2.2.2.2)) zn zb), (Zq b1 zB zy), [(.p (.lst z1a (zZ.map Zs)))]] er1 ?_
 refine zo (iv r1.1) ?_
 refine zo (.p (.lst (shrO r1.2.1.1) (r1.2.1.2.map Zs))) ?_
 refine zo (bv r1.2.2.1) ?_
 refine ze ?_
 refine zi fun a2 ha2 => ?_
 refine zo (bv (!a2)) ?_ (Eq.trans (by kernel_rfl) (xnil_neq (P := PP) (t := 23) (c := .slice none 0 0) (e := Zs) (by kernel_rfl) ha2))
 refine za ((!a2)) ?_ ?_
 ·refine ze ?_
  refine zi fun r3 hr3 => ?_
  obtain ⟨qr3, er3, exr3, rfl⟩ := Z2E (r1.2.2.1) (r1.2.1.2) .sh r3 hr3
  refine zc [] (.p (.agg (ZD r3 .sh .sh))) [(Zi (Zk.mk zl r1.2.2.2.1 z6 zd zh (Zj.mk r1.2.2.2.2.1 r1.2.2.2.2.2)) zn zb), (Zq b1 zB zy), [(.p (.lst z1a (zZ.map Zs)))]] er3 ?_
  refine zz (.ptr 3 0) [(Zi (Zk.mk zl r1.2.2.2.1 z6 zd zh (Zj.mk r1.2.2.2.2.1 r1.2.2.2.2.2)) zn zb), (Zq b1 zB zy), [(.p (.lst z1a (zZ.map Zs)))], (Zq (Z8.mk 0 0 0 0 0 ([] : List Z7) ([] : List Z8)) .nl .nl)] ?_
  refine zt [(Zi (Zk.mk zl r1.2.2.2.1 z6 zd zh (Zj.mk r1.2.2.2.2.1 r1.2.2.2.2.2)) zn zb), (Zq b1 zB zy), [(.p (.lst z1a (zZ.map Zs)))], (Zq r3 .sh .sh)] ?_
  refine ze ?_
  refine zo (.ptr 3 5) ?_
  refine zo (.p (.lst .sh (r3.Set.map Zs))) ?_
  refine zi fun r4 hr4 => ?_
  obtain ⟨qr4, er4, or4_0_0, exr4, rfl⟩ := Z6n (r3.Set) (zZ) .sh z1a r4 hr4
  refine zv [2] (.p (.tup [])) [(Zi (Zk.mk zl r1.2.2.2.1 z6 zd zh (Zj.mk r1.2.2.2.2.1 r1.2.2.2.2.2)) zn zb), (Zq b1 zB zy), [(.p (.lst or4_0_0 (r4.map Zs)))], (Zq r3 .sh .sh)] er4 ?_
  refine ze ?_
  refine zi fun r5 hr5 => ?_
  obtain ⟨qr5, er5, exr5, rfl⟩ := Z1F ((Zk.mk zl r1.2.2.2.1 z6 zd zh (Zj.mk r1.2.2.2.2.1 r1.2.2.2.2.2))) zn zb zu r5 hr5
  refine zc [0] (iv r5) [(Zi (Zk.mk zl r1.2.2.2.1 z6 zd zh (Zj.mk r1.2.2.2.2.1 r1.2.2.2.2.2)) zn zb), (Zq b1 zB zy), [(.p (.lst or4_0_0 (r4.map Zs)))], (Zq r3 .sh .sh)] er5 ?_
  refine zo (bv (r5 == 45)) ?_
  refine za ((r5 == 45)) ?_ ?_
  ·refine ze ?_
   refine zo (.ptr 0 0) ?_
   refine zo (.ptr 0 1) ?_
   refine zo (iv r1.2.2.2.1) ?_
   refine zi fun r6 hr6 => ?_
   obtain ⟨qr6, er6, exr6, rfl⟩ := ZW (22) (r1.2.2.2.1) (zl) (r1.2.2.2.1) (z6) (zd) (zh) (r1.2.2.2.2.1) (r1.2.2.2.2.2) zn zb zu r6 hr6
   refine zc [0] (.p (.tup [])) [(Zi (Zk.mk zl r6.1 z6 zd zh (Zj.mk r6.2.1 r6.2.2)) zn zb), (Zq b1 zB zy), [(.p (.lst or4_0_0 (r4.map Zs)))], (Zq r3 .sh .sh)] er6 ?_
   exact zk (Z1D (x1) (x5) (x8) (zl) (r6.1) (z6) (zd) (zh) (r6.2.1) (r6.2.2) (b1) (r4) zn zb zB zy or4_0_0 zu zP zH)
  ·exact zk (Z1D (x1) (x5) (x8) (zl) (r1.2.2.2.1) (z6) (zd) (zh) (r1.2.2.2.2.1) (r1.2.2.2.2.2) (b1) (r4) zn zb zB zy or4_0_0 zu zP zH)
 ·exact zk (Z8H (x1) (x5) (x8) (x9) (r1.1) (zl) (r1.2.2.2.1) (z6) (zd) (zh) (r1.2.2.2.2.1) (r1.2.2.2.2.2) (b1) (zZ) zn zb zB zy z1a zu zP zH)
noncomputable def Z2S (x1 : Int) (x5 : Bool) (x8 : Int) (zl : List Int) (zp : Int) (z6 : Int) (zd : Int) (zh : List Zr) (z1 : Int) (z2 : Int) (zZ : List Z7) : Option (Z8 × Int × Int × Int) :=
 (Z1C ((Zk.mk zl zp z6 zd zh (Zj.mk z1 z2)))).bind fun r1 =>
 if ((r1 == (-1))) = true then
 ((ZT 22 x1 zl z1 z2).bind fun r2 =>
 Z19 x1 x5 x8 zl r2.1 z6 zd zh r2.2.1 r2.2.2 zZ)
 else
 (if ((r1 == 93)) = true then
 (if ((x8 == 0)) = true then
 ((ZT 22 x1 zl z1 z2).bind fun r3 =>
 Z19 x1 x5 x8 zl r3.1 z6 zd zh r3.2.1 r3.2.2 zZ)
 else
 (Z4p x5 zl zp z1 z2 zZ))
 else
 (if ((r1 == 91)) = true then
 (if ((r1 == 91)) = true then
 ((ZT 22 zp zl z1 z2).bind fun r4 =>
 Z19 x1 x5 x8 zl r4.1 z6 zd zh r4.2.1 r4.2.2 zZ)
 else
 (Z3u x1 x5 x8 zp zl zp z6 zd zh z1 z2 zZ))
 else
 (if ((r1 == 45)) = true then
 ((ZT 22 zp zl z1 z2).bind fun r5 =>
 Z19 x1 x5 x8 zl r5.1 z6 zd zh r5.2.1 r5.2.2 zZ)
 else
 (Z3u x1 x5 x8 zp zl zp z6 zd zh z1 z2 zZ))))
theorem Z8X (x1 : Int) (x5 : Bool) (x8 : Int) (zl : List Int) (zp : Int) (z6 : Int) (zd : Int) (zh : List Zr) (z1 : Int) (z2 : Int) (b1 : Z8) (zZ : List Z7) (zn : Own) (zb : Own) (zB : Own) (zy : Own) (z1a : Own) (zu : okApp zb = true) (zP : okApp zB = true) (zH : okApp zy = true) : Sim (Z16 zl z6 zd zh zn zb) (Z2S x1 x5 x8 zl zp z6 zd zh z1 z2 zZ) (Zdb 1 (.ptr 0 0) (iv x1) (.ptr 1 0) (bv x5) (.ptr 2 0) (.clo 58 [] [(.ptr 2 0)]) (iv x8) [(Zi (Zk.mk zl zp z6 zd zh (Zj.mk z1 z2)) zn zb), (Zq b1 zB zy), [(.p (.lst z1a (zZ.map Zs)))]]) := by
 unfold Z2S
 refine zf (Zgb ..) ?_
 refine ze ?_
 refine zo (.ptr 0 0) ?_
 refine zo (.ptr 0 1) ?_
 refine zo (iv zp) ?_
 refine ze ?_
 refine zi fun r1 hr1 => ?_
 obtain ⟨qr1, er1, exr1, rfl⟩ := Z1F ((Zk.mk zl zp z6 zd zh (Zj.mk z1 z2))) zn zb zu r1 hr1
 refine zc [0] (iv r1) [(Zi (Zk.mk zl zp z6 zd zh (Zj.mk z1 z2)) zn zb), (Zq b1 zB zy), [(.p (.lst z1a (zZ.map Zs)))]] er1 ?_
 refine ze ?_
 refine ze ?_
 refine zo (bv (r1 == (-1))) ?_
 refine za ((r1 == (-1))) ?_ ?_
 ·refine ze ?_
  refine zi fun r2 hr2 => ?_
  obtain ⟨qr2, er2, exr2, rfl⟩ := ZW (22) (x1) (zl) (zp) (z6) (zd) (zh) (z1) (z2) zn zb zu r2 hr2
  refine zc [0] (.p (.tup [])) [(Zi (Zk.mk zl r2.1 z6 zd zh (Zj.mk r2.2.1 r2.2.2)) zn zb), (Zq b1 zB zy), [(.p (.lst z1a (zZ.map Zs)))]] er2 ?_
  exact zk (Z1D (x1) (x5) (x8) (zl) (r2.1) (z6) (zd) (zh) (r2.2.1) (r2.2.2) (b1) (zZ) zn zb zB zy z1a zu zP zH)
 ·refine ze ?_
  refine zo (bv (r1 == 93)) ?_
  refine za ((r1 == 93)) ?_ ?_
  ·refine ze ?_
   refine zo (bv (x8 == 0)) ?_
   refine za ((x8 == 0)) ?_ ?_
   ·refine ze ?_
    refine zi fun r3 hr3 => ?_
    obtain ⟨qr3, er3, exr3, rfl⟩ := ZW (22) (x1) (zl) (zp) (z6) (zd) (zh) (z1) (z2) zn zb zu r3 hr3
    refine zc [0] (.p (.tup [])) [(Zi (Zk.mk zl r3.1 z6 zd zh (Zj.mk r3.2.1 r3.2.2)) zn zb), (Zq b1 zB zy), [(.p (.lst z1a (zZ.map Zs)))]] er3 ?_
    exact zk (Z1D (x1) (x5) (x8) (zl) (r3.1) (z6) (zd) (zh) (r3.2.1) (r3.2.2) (b1) (zZ) zn zb zB zy z1a zu zP zH)
   ·exact zk (Z8G (x5) (zl) (zp) (z6) (zd) (zh) (z1) (z2) (b1) (zZ) zn zb zB zy z1a zu zP zH)
  ·refine ze ?_
   refine zo (bv (r1 == 91)) ?_
   refine za ((r1 == 91)) ?_ ?_
   ·refine za ((r1 == 91)) ?_ ?_
    ·refine ze ?_
     refine zi fun r4 hr4 => ?_
     obtain ⟨qr4, er4, exr4, rfl⟩ := ZW (22) (zp) (zl) (zp) (z6) (zd) (zh) (z1) (z2) zn zb zu r4 hr4
     refine zc [0] (.p (.tup [])) [(Zi (Zk.mk zl r4.1 z6 zd zh (Zj.mk r4.2.1 r4.2.2)) zn zb), (Zq b1 zB zy), [(.p (.lst z1a (zZ.map Zs)))]] er4 ?_
     exact zk (Z1D (x1) (x5) (x8) (zl) (r4.1) (z6) (zd) (zh) (r4.2.1) (r4.2.2) (b1) (zZ) zn zb zB zy z1a zu zP zH)
    ·exact zk (Z61 (x1) (x5) (x8) (zp) (zl) (zp) (z6) (zd) (zh) (z1) (z2) (b1) (zZ) zn zb zB zy z1a zu zP zH)
   ·refine ze ?_
    refine zo (bv (r1 == 45)) ?_
    refine za ((r1 == 45)) ?_ ?_
    ·refine ze ?_
     refine zi fun r5 hr5 => ?_
     obtain ⟨qr5, er5, exr5, rfl⟩ := ZW (22) (zp) (zl) (zp) (z6) (zd) (zh) (z1) (z2) zn zb zu r5 hr5
     refine zc [0] (.p (.tup [])) [(Zi (Zk.mk zl r5.1 z6 zd zh (Zj.mk r5.2.1 r5.2.2)) zn zb), (Zq b1 zB zy), [(.p (.lst z1a (zZ.map Zs)))]] er5 ?_
     exact zk (Z1D (x1) (x5) (x8) (zl) (r5.1) (z6) (zd) (zh) (r5.2.1) (r5.2.2) (b1) (zZ) zn zb zB zy z1a zu zP zH)
    ·exact zk (Z61 (x1) (x5) (x8) (zp) (zl) (zp) (z6) (zd) (zh) (z1) (z2) (b1) (zZ) zn zb zB zy z1a zu zP zH)
noncomputable def Z5o (zp : Int) (z1 : Int) (z2 : Int) : Option (Z8 × Int × Int × Int) :=
 some ((Z8.mk 0 0 0 0 0 ([] : List Z7) ([] : List Z8)), zp, z1, z2)
theorem Z8D (zl : List Int) (zp : Int) (z6 : Int) (zd : Int) (zh : List Zr) (z1 : Int) (z2 : Int) (b1 : Z8) (zn : Own) (zb : Own) (zB : Own) (zy : Own) (zu : okApp zb = true) (zP : okApp zB = true) (zH : okApp zy = true) : Sim (Z16 zl z6 zd zh zn zb) (Z5o zp z1 z2) (ZcM 1 (.ptr 1 0) [(Zi (Zk.mk zl zp z6 zd zh (Zj.mk z1 z2)) zn zb), (Zq b1 zB zy)]) := by
 unfold Z5o
 refine zf (ZeA ..) ?_
 refine ze ?_
 refine zo (.p (.agg (ZD (Z8.mk 0 0 0 0 0 ([] : List Z7) ([] : List Z8)) .nl .nl))) ?_
 refine zt [(Zi (Zk.mk zl zp z6 zd zh (Zj.mk z1 z2)) zn zb), (Zq (Z8.mk 0 0 0 0 0 ([] : List Z7) ([] : List Z8)) .nl .nl)] ?_
 exact zr ((.p (.agg (ZD (Z8.mk 0 0 0 0 0 ([] : List Z7) ([] : List Z8)) .sh .sh))), [(Zi (Zk.mk zl zp z6 zd zh (Zj.mk z1 z2)) zn zb), (Zq (Z8.mk 0 0 0 0 0 ([] : List Z7) ([] : List Z8)) .nl .nl)]) ⟨_, rfl⟩
noncomputable def Z3I (x1 : Int) (x5 : Bool) (x8 : Int) (zl : List Int) (zp : Int) (z6 : Int) (zd : Int) (zh : List Zr) (z1 : Int) (z2 : Int) (zZ : List Z7) : Option (Z8 × Int × Int × Int) :=
 if ((z1 == 0)) = true then
 (Z2S x1 x5 x8 zl zp z6 zd zh z1 z2 zZ)
 else
 (Z5o zp z1 z2)
theorem Z90 (x1 : Int) (x5 : Bool) (x8 : Int) (zl : List Int) (zp : Int) (z6 : Int) (zd : Int) (zh : List Zr) (z1 : Int) (z2 : Int) (b1 : Z8) (zZ : List Z7) (zn : Own) (zb : Own) (zB : Own) (zy : Own) (z1a : Own) (zu : okApp zb = true) (zP : okApp zB = true) (zH : okApp zy = true) : Sim (Z16 zl z6 zd zh zn zb) (Z3I x1 x5 x8 zl zp z6 zd zh z1 z2 zZ) (ZaY 1 (.ptr 0 0) (iv x1) (.ptr 1 0) (bv x5) (.ptr 2 0) (.clo 58 [] [(.ptr 2 0)]) (iv x8) [(Zi (Zk.mk zl zp z6 zd zh (Zj.mk z1 z2)) zn zb), (Zq b1 zB zy), [(.p (.lst z1a (zZ.map Zs)))]]) := by
 unfold Z3I
 refine zf (ZfM ..) ?_
 refine ze ?_
 refine zo (.ptr 0 0) ?_
 refine zo (.ptr 0 5) ?_
 refine zo (.ptr 0 5) ?_
 refine zo (iv z1) ?_
 refine zo (bv (z1 == 0)) ?_
 refine za ((z1 == 0)) ?_ ?_
 ·exact zk (Z8X (x1) (x5) (x8) (zl) (zp) (z6) (zd) (zh) (z1) (z2) (b1) (zZ) zn zb zB zy z1a zu zP zH)
 ·exact zk (Z8D (zl) (zp) (z6) (zd) (zh) (z1) (z2) (b1) zn zb zB zy zu zP zH)
theorem Z6d (x1 : Int) (x5 : Bool) (x8 : Int) (zl : List Int) (zp : Int) (z6 : Int) (zd : Int) (zh : List Zr) (z1 : Int) (z2 : Int) (zZ : List Z7) {r} (h : Z3I x1 x5 x8 zl zp z6 zd zh z1 z2 zZ = some r) : Z2C x1 x5 x8 zl zp z6 zd zh z1 z2 zZ = some r :=
 pick_of (fun _ _ ha hb => RRun.uniq (Z7q _ _ _ _ _ _) (ha default .ex .ex .ex .ex .ex rfl rfl rfl) (hb default .ex .ex .ex .ex .ex rfl rfl rfl)) (fun b1 zn zb zB zy z1a zu zP zH => Z90 x1 x5 x8 zl zp z6 zd zh z1 z2 b1 zZ zn zb zB zy z1a zu zP zH r h)
noncomputable def Z3d (x2 : Int) (x5 : Int) (zl : List Int) (zp : Int) (z6 : Int) (zd : Int) (zh : List Zr) (z1 : Int) (z2 : Int) : Option (Int × (Own × (List Z7)) × Bool × Int × Int × Int) :=
 (Z4l x2 x5 zl zp z6 zd zh z1 z2).bind fun r1 =>
 some (r1.1, (.nl, ([] : List Z7)), false, r1.2.1, r1.2.2.1, r1.2.2.2)
theorem Z8r (x2 : Int) (x5 : Int) (zl : List Int) (zp : Int) (z6 : Int) (zd : Int) (zh : List Zr) (z1 : Int) (z2 : Int) (zn : Own) (zb : Own) (zu : okApp zb = true) : Sim (Z2q zl z6 zd zh zn zb) (Z3d x2 x5 zl zp z6 zd zh z1 z2) (ZcN 1 (.ptr 0 0) (iv x2) (iv x5) [(Zi (Zk.mk zl zp z6 zd zh (Zj.mk z1 z2)) zn zb)]) := by
 unfold Z3d
 refine zf (ZeE ..) ?_
 refine ze ?_
 refine zi fun r1 hr1 => ?_
 obtain ⟨qr1, er1, exr1, rfl⟩ := Z7e (x2) (x5) (zl) (zp) (z6) (zd) (zh) (z1) (z2) zn zb zu r1 hr1
 refine zc [0] (iv r1.1) [(Zi (Zk.mk zl r1.2.1 z6 zd zh (Zj.mk r1.2.2.1 r1.2.2.2)) zn zb)] er1 ?_
 exact zr ((.p (.tup [(.v (.int .i64 r1.1)), (.lst .nl []), (.v (.bool false))])), [(Zi (Zk.mk zl r1.2.1 z6 zd zh (Zj.mk r1.2.2.1 r1.2.2.2)) zn zb)]) ⟨_, rfl⟩
noncomputable def Z4m (x2 : Int) (x5 : Int) (zl : List Int) (zp : Int) (z6 : Int) (zd : Int) (zh : List Zr) (z1 : Int) (z2 : Int) : Option (Int × (Own × (List Z7)) × Bool × Int × Int × Int) :=
 (Z1W zl zp).bind fun r1 =>
 (Z4v x2).bind fun r2 =>
 (nilO (shrO r2.1) r2.2).bind fun a3 =>
 if ((!a3)) = true then
 (some (0, ((shrO r2.1), r2.2), (decide (x2 < 97)), r1.2, z1, z2))
 else
 (Z3d x2 x5 zl r1.2 z6 zd zh z1 z2)
theorem Z8z (x2 : Int) (x5 : Int) (zl : List Int) (zp : Int) (z6 : Int) (zd : Int) (zh : List Zr) (z1 : Int) (z2 : Int) (zn : Own) (zb : Own) (zu : okApp zb = true) : Sim (Z2q zl z6 zd zh zn zb) (Z4m x2 x5 zl zp z6 zd zh z1 z2) (ZdP 1 (.ptr 0 0) (iv x2) (iv x5) [(Zi (Zk.mk zl zp z6 zd zh (Zj.mk z1 z2)) zn zb)]) := by
 unfold Z4m
 refine zf (ZfJ ..) ?_
 refine ze ?_
 refine zi fun r1 hr1 => ?_
 obtain ⟨qr1, er1, exr1, rfl⟩ := Z2g (zl) (zp) (z6) (zd) (zh) (z1) (z2) zn zb zu r1 hr1
 refine zc [0] (iv r1.1) [(Zi (Zk.mk zl r1.2 z6 zd zh (Zj.mk z1 z2)) zn zb)] er1 ?_
 refine ze ?_
 refine zi fun r2 hr2 => ?_
 obtain ⟨qr2, er2, exr2, rfl⟩ := Z6c (x2) r2 hr2
 refine zc [] (.p (.lst r2.1 (r2.2.map Zs))) [(Zi (Zk.mk zl r1.2 z6 zd zh (Zj.mk z1 z2)) zn zb)] er2 ?_
 refine ze ?_
 refine zi fun a3 ha3 => ?_
 refine zo (bv (!a3)) ?_ (Eq.trans (by kernel_rfl) (xnil_neq (P := PP) (t := 23) (c := .slice none 0 0) (e := Zs) (by kernel_rfl) ha3))
 refine za ((!a3)) ?_ ?_
 ·refine ze ?_
  refine zo (bv (decide (x2 < 97))) ?_
  exact zr ((.p (.tup [(.v (.int .i64 0)), (.lst (shrO r2.1) (r2.2.map Zs)), (.v (.bool (decide (x2 < 97))))])), [(Zi (Zk.mk zl r1.2 z6 zd zh (Zj.mk z1 z2)) zn zb)]) ⟨_, rfl⟩
 ·exact zk (Z8r (x2) (x5) (zl) (r1.2) (z6) (zd) (zh) (z1) (z2) zn zb zu)
noncomputable def Z4q (x5 : Int) (zl : List Int) (zp : Int) (z6 : Int) (zd : Int) (zh : List Zr) (z1 : Int) (z2 : Int) : Option (Int × (Own × (List Z7)) × Bool × Int × Int × Int) :=
 (Z1C ((Zk.mk zl zp z6 zd zh (Zj.mk z1 z2)))).bind fun r1 =>
 if ((decide (r1 < 0))) = true then
 ((ZT 21 x5 zl z1 z2).bind fun r2 =>
 some (0, (.nl, ([] : List Z7)), false, r2.1, r2.2.1, r2.2.2))
 else
 (Z4m r1 x5 zl zp z6 zd zh z1 z2)
theorem Z8w (x5 : Int) (zl : List Int) (zp : Int) (z6 : Int) (zd : Int) (zh : List Zr) (z1 : Int) (z2 : Int) (zn : Own) (zb : Own) (zu : okApp zb = true) : Sim (Z2q zl z6 zd zh zn zb) (Z4q x5 zl zp z6 zd zh z1 z2) (Ze6 1 (.ptr 0 0) (iv x5) [(Zi (Zk.mk zl zp z6 zd zh (Zj.mk z1 z2)) zn zb)]) := by
 unfold Z4q
 refine zf (Zfz ..) ?_
 refine ze ?_
 refine zi fun r1 hr1 => ?_
 obtain ⟨qr1, er1, exr1, rfl⟩ := Z1F ((Zk.mk zl zp z6 zd zh (Zj.mk z1 z2))) zn zb zu r1 hr1
 refine zc [0] (iv r1) [(Zi (Zk.mk zl zp z6 zd zh (Zj.mk z1 z2)) zn zb)] er1 ?_
 refine ze ?_
 refine zo (bv (decide (r1 < 0))) ?_
 refine za ((decide (r1 < 0))) ?_ ?_
 ·refine ze ?_
  refine zi fun r2 hr2 => ?_
  obtain ⟨qr2, er2, exr2, rfl⟩ := ZW (21) (x5) (zl) (zp) (z6) (zd) (zh) (z1) (z2) zn zb zu r2 hr2
  refine zc [0] (.p (.tup [])) [(Zi (Zk.mk zl r2.1 z6 zd zh (Zj.mk r2.2.1 r2.2.2)) zn zb)] er2 ?_
  refine ze ?_
  exact zr ((.p (.tup [(.v (.int .i64 0)), (.lst .nl []), (.v (.bool false))])), [(Zi (Zk.mk zl r2.1 z6 zd zh (Zj.mk r2.2.1 r2.2.2)) zn zb)]) ⟨_, rfl⟩
 ·exact zk (Z8z (r1) (x5) (zl) (zp) (z6) (zd) (zh) (z1) (z2) zn zb zu)
noncomputable def Z41 (zl : List Int) (zp : Int) (z6 : Int) (zd : Int) (zh : List Zr) (z1 : Int) (z2 : Int) : Option (Int × (Own × (List Z7)) × Bool × Int × Int × Int) :=
 (Z1W zl zp).bind fun r1 =>
 if ((r1.1 != 92)) = true then
 (some (r1.1, (.nl, ([] : List Z7)), false, r1.2, z1, z2))
 else
 (Z4q zp zl r1.2 z6 zd zh z1 z2)
theorem Z9w (zl : List Int) (zp : Int) (z6 : Int) (zd : Int) (zh : List Zr) (z1 : Int) (z2 : Int) (zn : Own) (zb : Own) (zu : okApp zb = true) : Sim (Z2q zl z6 zd zh zn zb) (Z41 zl zp z6 zd zh z1 z2) (EE 60 [(.ptr 0 0)] [(Zi (Zk.mk zl zp z6 zd zh (Zj.mk z1 z2)) zn zb)]) := by
 unfold Z41
 refine zf (Zib ..) ?_
 refine ze ?_
 refine ze ?_
 refine zo (.ptr 0 0) ?_
 refine zo (.ptr 0 1) ?_
 refine zo (iv zp) ?_
 refine ze ?_
 refine zi fun r1 hr1 => ?_
 obtain ⟨qr1, er1, exr1, rfl⟩ := Z2g (zl) (zp) (z6) (zd) (zh) (z1) (z2) zn zb zu r1 hr1
 refine zc [0] (iv r1.1) [(Zi (Zk.mk zl r1.2 z6 zd zh (Zj.mk z1 z2)) zn zb)] er1 ?_
 refine ze ?_
 refine zo (bv (r1.1 != 92)) ?_
 refine za ((r1.1 != 92)) ?_ ?_
 ·refine ze ?_
  exact zr ((.p (.tup [(.v (.int .i64 r1.1)), (.lst .nl []), (.v (.bool false))])), [(Zi (Zk.mk zl r1.2 z6 zd zh (Zj.mk z1 z2)) zn zb)]) ⟨_, rfl⟩
 ·exact zk (Z8w (zp) (zl) (r1.2) (z6) (zd) (zh) (z1) (z2) zn zb zu)
theorem Z6N (zl : List Int) (zp : Int) (z6 : Int) (zd : Int) (zh : List Zr) (z1 : Int) (z2 : Int) {r} (h : Z41 zl zp z6 zd zh z1 z2 = some r) : Z3g zl zp z6 zd zh z1 z2 = some r :=
 pick_of (fun _ _ ha hb => RRun.uniq (Z9Y _ _ _ _ _ _) (ha .ex .ex rfl) (hb .ex .ex rfl)) (fun zn zb zu => Z9w zl zp z6 zd zh z1 z2 zn zb zu r h)
end Go.Proofs.YtadodmjdkphddaaDoor.N2
end
section
set_option linter.unusedSimpArgs false
set_option linter.unusedVariables false
namespace Go.Proofs.YtadodmjdkphddaaDoor.N2
open Go Go.Abs
set_option linter.unusedVariables false
set_option maxRecDepth 100000
noncomputable def Z4T (x0 : List Z7) (zY : List Z7) : Option ((List Z7)) :=
 (Z75 zY x0).bind fun r1 =>
 some (r1.1)
theorem Z96 (x0 : List Z7) (zY : List Z7) (ox0 : Own) (z8N : Own) : Sim (Z3O) (Z4T x0 zY) (EE 58 [(.p (.lst ox0 (x0.map Zs))), (.ptr 0 0)] [[(.p (.lst z8N (zY.map Zs)))]]) := by
 unfold Z4T
 refine zf (ZhN ..) ?_
 refine ze ?_
 refine zo (.p (.lst (shrO z8N) (zY.map Zs))) ?_
 refine zi fun r1 hr1 => ?_
 obtain ⟨qr1, er1, exr1, rfl⟩ := ZbT (zY) (x0) .sh .sh r1 hr1
 refine zc [] (.p (.tup [(.lst .sh (r1.1.map Zs)), (.v (.int .i64 r1.2))])) [[(.p (.lst z8N (zY.map Zs)))]] er1 ?_
 refine zo (.p (.lst .sh (r1.1.map Zs))) ?_
 refine zo (iv r1.2) ?_
 refine zt [[(.p (.lst .sh (r1.1.map Zs)))]] ?_
 exact zr ((.p (.tup [])), [[(.p (.lst .sh (r1.1.map Zs)))]]) ⟨.sh, _, rfl⟩
theorem Z9s (x0 : List Z7) (zY : List Z7) {r} (h : Z4T x0 zY = some r) : Z3P x0 zY = some r :=
 pick_of (fun _ _ ha hb => RRun.uniq (Z9N) (ha .ex .ex) (hb .ex .ex)) (fun ox0 z8N => Z96 x0 zY ox0 z8N r h)
noncomputable def Z5P  : Option ((List Z7) × Int) :=
 some (([] : List Z7), 10)
theorem Z7R  : Sim (Z4H) (Z5P) (Zcl 0  []) := by
 unfold Z5P
 refine zf (Zfb ..) ?_
 refine ze ?_
 exact zr ((.p (.tup [(.lst .sh []), (.v (.int .i64 10))])), []) ⟨_, rfl⟩
noncomputable def Z5O (x0 : List Z7) (x1 : List Z7) : Option ((List Z7) × Int) :=
 (Z5W (([x0, x1] : List (List Z7)))).bind fun r1 =>
 (Z6T r1).bind fun r2 =>
 some (r2, 0)
theorem Zb6 (x0 : List Z7) (x1 : List Z7) (ox0 : Own) (ox1 : Own) : Sim (Z4H) (Z5O x0 x1) (Ze5 0 (.p (.lst ox0 (x0.map Zs))) (.p (.lst ox1 (x1.map Zs))) []) := by
 unfold Z5O
 refine zf (Zfr ..) ?_
 refine ze ?_
 refine zo (.p (.lst .ex (([x0, x1] : List (List Z7)).map (eL Zs)))) ?_
 refine zi fun r1 hr1 => ?_
 obtain ⟨qr1, er1, exr1, rfl⟩ := Z9K (([x0, x1] : List (List Z7))) .sh r1 hr1
 refine zc [] (.p (.lst .sh (r1.map Zs))) [] er1 ?_
 refine zi fun r2 hr2 => ?_
 obtain ⟨qr2, er2, exr2, rfl⟩ := Z9e (r1) .sh r2 hr2
 refine zc [] (.p (.lst .sh (r2.map Zs))) [] er2 ?_
 exact zr ((.p (.tup [(.lst .sh (r2.map Zs)), (.v (.int .i64 0))])), []) ⟨_, rfl⟩
noncomputable def Z7b (x0 : List Z7) (x1 : List Z7) : Option ((List Z7) × Int) :=
 (Z47 x0).bind fun r1 =>
 if ((!r1)) = true then
 (Z5P)
 else
 ((Z47 x1).bind fun r2 =>
 if ((!r2)) = true then
 (Z5P)
 else
 (Z5O x0 x1))
theorem ZbC (x0 : List Z7) (x1 : List Z7) (ox0 : Own) (ox1 : Own) : Sim (Z4H) (Z7b x0 x1) (EE 59 [(.p (.lst ox0 (x0.map Zs))), (.p (.lst ox1 (x1.map Zs)))] []) := by
 unfold Z7b
 refine zf (Zhs ..) ?_
 refine ze ?_
 refine ze ?_
 refine zi fun r1 hr1 => ?_
 obtain ⟨qr1, er1, exr1, rfl⟩ := Z5Z (x0) .sh r1 hr1
 refine zc [] (bv r1) [] er1 ?_
 refine zo (bv (!r1)) ?_
 refine za ((!r1)) ?_ ?_
 ·exact zk (Z7R )
 ·refine zi fun r2 hr2 => ?_
  obtain ⟨qr2, er2, exr2, rfl⟩ := Z5Z (x1) .sh r2 hr2
  refine zc [] (bv r2) [] er2 ?_
  refine zo (bv (!r2)) ?_
  refine za ((!r2)) ?_ ?_
  ·exact zk (Z7R )
  ·exact zk (Zb6 (x0) (x1) ox0 ox1)
theorem ZbS (x0 : List Z7) (x1 : List Z7) {r} (h : Z7b x0 x1 = some r) : Z75 x0 x1 = some r :=
 pick_of (fun _ _ ha hb => RRun.uniq (Zc1) (ha .ex .ex) (hb .ex .ex)) (fun ox0 ox1 => ZbC x0 x1 ox0 ox1 r h)
noncomputable def Z3t (zp : Int) (z6 : Int) (zd : Int) (zh : List Zr) (z1 : Int) (z2 : Int) (z14 : Int) (z1A : Int) (z1B : Int) (z17 : Int) (z1g : Int) (z1h : List Z7) (b2 : Z8) : Option (Z8 × Bool × Int × Int × Int × (List Zr) × Int × Int) :=
 some ((Z8.mk z14 z1A z1B z17 z1g z1h ([b2] : List Z8)), (z14 != 7), zp, z6, zd, zh, z1, z2)
theorem Z8J (zl : List Int) (zp : Int) (z6 : Int) (zd : Int) (zh : List Zr) (z1 : Int) (z2 : Int) (z14 : Int) (z1A : Int) (z1B : Int) (z17 : Int) (z1g : Int) (z1h : List Z7) (z1U : List Z8) (b2 : Z8) (zn : Own) (zb : Own) (zB : Own) (zy : Own) (z1E : Own) (z1u : Own) (zu : okApp zb = true) (zP : okApp zB = true) (zH : okApp zy = true) : Sim (Z21 zl zn) (Z3t zp z6 zd zh z1 z2 z14 z1A z1B z17 z1g z1h b2) (ZcP 1 (.ptr 1 0) (.ptr 2 0) [(Zi (Zk.mk zl zp z6 zd zh (Zj.mk z1 z2)) zn zb), (Zq (Z8.mk z14 z1A z1B z17 z1g z1h z1U) zB zy), (Zq b2 z1E z1u)]) := by
 unfold Z3t
 refine zf (Zf6 ..) ?_
 refine ze ?_
 refine zo (.p (.agg (ZD b2 (shrO z1E) (shrO z1u)))) ?_
 refine zo (.p (.lst .ex (([b2] : List Z8).map ZI))) ?_ (Eq.trans (b := some (.p (.lst .ex [.agg (Z2l b2)]))) (by kernel_rfl) (by simp only [List.map_cons, List.map_nil, Z2V]))
 refine zo (.ptr 1 6) ?_
 refine zt [(Zi (Zk.mk zl zp z6 zd zh (Zj.mk z1 z2)) zn zb), (Zq (Z8.mk z14 z1A z1B z17 z1g z1h ([b2] : List Z8)) zB .ex), (Zq b2 z1E z1u)] ?_
 refine ze ?_
 refine zo (.p (.agg (ZD (Z8.mk z14 z1A z1B z17 z1g z1h ([b2] : List Z8)) (shrO zB) .ex))) ?_
 refine zo (.ptr 1 0) ?_
 refine zo (iv z14) ?_
 refine zo (bv (z14 != 7)) ?_
 refine zt [(Zi (Zk.mk zl zp z6 zd zh (Zj.mk z1 z2)) zn zb), (Zq (Z8.mk z14 z1A z1B z17 z1g z1h ([b2] : List Z8)) (shrO zB) .ex), (Zq b2 z1E z1u)] ?_
 exact zr ((.p (.tup [(.agg (ZD (Z8.mk z14 z1A z1B z17 z1g z1h ([b2] : List Z8)) .sh .sh)), (.v (.bool (z14 != 7)))])), [(Zi (Zk.mk zl zp z6 zd zh (Zj.mk z1 z2)) zn zb), (Zq (Z8.mk z14 z1A z1B z17 z1g z1h ([b2] : List Z8)) (shrO zB) .ex), (Zq b2 z1E z1u)]) ⟨zb, _, zu, rfl⟩
noncomputable def Z1O (zp : Int) (z6 : Int) (zd : Int) (zh : List Zr) (z1 : Int) (z2 : Int) (z14 : Int) (z1A : Int) (z1B : Int) (z17 : Int) (z1g : Int) (z1h : List Z7) (b2 : Z8) : Option (Z8 × Bool × Int × Int × Int × (List Zr) × Int × Int) :=
 if ((z14 == 0)) = true then
 (some (b2, true, zp, z6, (IntKind.i64.wrap (zd - 1)), zh, z1, z2))
 else
 (Z3t zp z6 ((IntKind.i64.wrap (zd - 1))) zh z1 z2 z14 z1A z1B z17 z1g z1h b2)
theorem Z4D (zl : List Int) (zp : Int) (z6 : Int) (zd : Int) (zh : List Zr) (z1 : Int) (z2 : Int) (z14 : Int) (z1A : Int) (z1B : Int) (z17 : Int) (z1g : Int) (z1h : List Z7) (z1U : List Z8) (b2 : Z8) (zn : Own) (zb : Own) (zB : Own) (zy : Own) (z1E : Own) (z1u : Own) (zu : okApp zb = true) (zP : okApp zB = true) (zH : okApp zy = true) : Sim (Z21 zl zn) (Z1O zp z6 zd zh z1 z2 z14 z1A z1B z17 z1g z1h b2) (ZaS 1 (.ptr 0 0) (.ptr 1 0) (.ptr 2 0) [(Zi (Zk.mk zl zp z6 zd zh (Zj.mk z1 z2)) zn zb), (Zq (Z8.mk z14 z1A z1B z17 z1g z1h z1U) zB zy), (Zq b2 z1E z1u)]) := by
 unfold Z1O
 refine zf (ZeS ..) ?_
 refine ze ?_
 refine zo (.ptr 0 0) ?_
 refine zo (.ptr 0 3) ?_
 refine zo (iv zd) ?_
 refine zo (iv (IntKind.i64.wrap (zd - 1))) ?_
 refine zo (.ptr 0 0) ?_
 refine zo (.ptr 0 3) ?_
 refine zt [(Zi (Zk.mk zl zp z6 (IntKind.i64.wrap (zd - 1)) zh (Zj.mk z1 z2)) zn zb), (Zq (Z8.mk z14 z1A z1B z17 z1g z1h z1U) zB zy), (Zq b2 z1E z1u)] ?_
 refine ze ?_
 refine zo (.ptr 1 0) ?_
 refine zo (iv z14) ?_
 refine zo (bv (z14 == 0)) ?_
 refine za ((z14 == 0)) ?_ ?_
 ·refine ze ?_
  refine zo (.p (.agg (ZD b2 (shrO z1E) (shrO z1u)))) ?_
  refine zt [(Zi (Zk.mk zl zp z6 (IntKind.i64.wrap (zd - 1)) zh (Zj.mk z1 z2)) zn zb), (Zq b2 (shrO z1E) (shrO z1u)), (Zq b2 z1E z1u)] ?_
  exact zr ((.p (.tup [(.agg (ZD b2 .sh .sh)), (.v (.bool true))])), [(Zi (Zk.mk zl zp z6 (IntKind.i64.wrap (zd - 1)) zh (Zj.mk z1 z2)) zn zb), (Zq b2 (shrO z1E) (shrO z1u)), (Zq b2 z1E z1u)]) ⟨zb, _, zu, rfl⟩
 ·exact zk (Z8J (zl) (zp) (z6) ((IntKind.i64.wrap (zd - 1))) (zh) (z1) (z2) (z14) (z1A) (z1B) (z17) (z1g) (z1h) (z1U) (b2) zn zb zB zy z1E z1u zu zP zH)
noncomputable def Z4r (x1 : Int) (zl : List Int) (z6 : Int) (zd : Int) (zh : List Zr) (z1 : Int) (z2 : Int) (z14 : Int) (z1A : Int) (z1B : Int) (z17 : Int) (z1g : Int) (z1h : List Z7) (b2 : Z8) : Option (Z8 × Bool × Int × Int × Int × (List Zr) × Int × Int) :=
 (ZT 20 x1 zl z1 z2).bind fun r1 =>
 Z1O r1.1 z6 zd zh r1.2.1 r1.2.2 z14 z1A z1B z17 z1g z1h b2
theorem Z8y (x1 : Int) (zl : List Int) (zp : Int) (z6 : Int) (zd : Int) (zh : List Zr) (z1 : Int) (z2 : Int) (z14 : Int) (z1A : Int) (z1B : Int) (z17 : Int) (z1g : Int) (z1h : List Z7) (z1U : List Z8) (b2 : Z8) (zn : Own) (zb : Own) (zB : Own) (zy : Own) (z1E : Own) (z1u : Own) (zu : okApp zb = true) (zP : okApp zB = true) (zH : okApp zy = true) : Sim (Z21 zl zn) (Z4r x1 zl z6 zd zh z1 z2 z14 z1A z1B z17 z1g z1h b2) (ZcX 1 (.ptr 0 0) (iv x1) (.ptr 1 0) (.ptr 2 0) [(Zi (Zk.mk zl zp z6 zd zh (Zj.mk z1 z2)) zn zb), (Zq (Z8.mk z14 z1A z1B z17 z1g z1h z1U) zB zy), (Zq b2 z1E z1u)]) := by
 unfold Z4r
 refine zf (Zf3 ..) ?_
 refine ze ?_
 refine zi fun r1 hr1 => ?_
 obtain ⟨qr1, er1, exr1, rfl⟩ := ZW (20) (x1) (zl) (zp) (z6) (zd) (zh) (z1) (z2) zn zb zu r1 hr1
 refine zc [0] (.p (.tup [])) [(Zi (Zk.mk zl r1.1 z6 zd zh (Zj.mk r1.2.1 r1.2.2)) zn zb), (Zq (Z8.mk z14 z1A z1B z17 z1g z1h z1U) zB zy), (Zq b2 z1E z1u)] er1 ?_
 exact zk (Z4D (zl) (r1.1) (z6) (zd) (zh) (r1.2.1) (r1.2.2) (z14) (z1A) (z1B) (z17) (z1g) (z1h) (z1U) (b2) zn zb zB zy z1E z1u zu zP zH)
noncomputable def Z1s (x1 : Int) (zl : List Int) (zp : Int) (z6 : Int) (zd : Int) (zh : List Zr) (z1 : Int) (z2 : Int) (z14 : Int) (z1A : Int) (z1B : Int) (z17 : Int) (z1g : Int) (z1h : List Z7) : Option (Z8 × Bool × Int × Int × Int × (List Zr) × Int × Int) :=
 (Z2F zl zp z6 zd zh z1 z2).bind fun r1 =>
 if ((r1.2.2.2.2.2.1 == 0)) = true then
 ((Z13 ((ByteArray.mk #[41])) zl r1.2.1).bind fun r2 =>
 if ((!r2.1)) = true then
 (Z4r x1 zl r1.2.2.1 r1.2.2.2.1 r1.2.2.2.2.1 r1.2.2.2.2.2.1 r1.2.2.2.2.2.2 z14 z1A z1B z17 z1g z1h r1.1)
 else
 (Z1O r2.2 r1.2.2.1 r1.2.2.2.1 r1.2.2.2.2.1 r1.2.2.2.2.2.1 r1.2.2.2.2.2.2 z14 z1A z1B z17 z1g z1h r1.1))
 else
 (Z1O r1.2.1 r1.2.2.1 r1.2.2.2.1 r1.2.2.2.2.1 r1.2.2.2.2.2.1 r1.2.2.2.2.2.2 z14 z1A z1B z17 z1g z1h r1.1)
theorem Z2j (x1 : Int) (zl : List Int) (zp : Int) (z6 : Int) (zd : Int) (zh : List Zr) (z1 : Int) (z2 : Int) (z14 : Int) (z1A : Int) (z1B : Int) (z17 : Int) (z1g : Int) (z1h : List Z7) (z1U : List Z8) (zn : Own) (zb : Own) (zB : Own) (zy : Own) (zu : okApp zb = true) (zP : okApp zB = true) (zH : okApp zy = true) : Sim (Z21 zl zn) (Z1s x1 zl zp z6 zd zh z1 z2 z14 z1A z1B z17 z1g z1h) (Z7O 1 (.ptr 0 0) (iv x1) (.ptr 1 0) [(Zi (Zk.mk zl zp z6 zd zh (Zj.mk z1 z2)) zn zb), (Zq (Z8.mk z14 z1A z1B z17 z1g z1h z1U) zB zy)]) := by
 unfold Z1s
 refine zf (ZeJ ..) ?_
 refine ze ?_
 refine zi fun r1 hr1 => ?_
 obtain ⟨qr1, er1, or1_0_4, exr1, hor1_0_4, rfl⟩ := Z7W (zl) (zp) (z6) (zd) (zh) (z1) (z2) zn zb zu r1 hr1
 refine zc [0] (.p (.agg (ZD r1.1 .sh .sh))) [(Zi (Zk.mk zl r1.2.1 r1.2.2.1 r1.2.2.2.1 r1.2.2.2.2.1 (Zj.mk r1.2.2.2.2.2.1 r1.2.2.2.2.2.2)) zn or1_0_4), (Zq (Z8.mk z14 z1A z1B z17 z1g z1h z1U) zB zy)] er1 ?_
 refine zz (.ptr 2 0) [(Zi (Zk.mk zl r1.2.1 r1.2.2.1 r1.2.2.2.1 r1.2.2.2.2.1 (Zj.mk r1.2.2.2.2.2.1 r1.2.2.2.2.2.2)) zn or1_0_4), (Zq (Z8.mk z14 z1A z1B z17 z1g z1h z1U) zB zy), (Zq (Z8.mk 0 0 0 0 0 ([] : List Z7) ([] : List Z8)) .nl .nl)] ?_
 refine zt [(Zi (Zk.mk zl r1.2.1 r1.2.2.1 r1.2.2.2.1 r1.2.2.2.2.1 (Zj.mk r1.2.2.2.2.2.1 r1.2.2.2.2.2.2)) zn or1_0_4), (Zq (Z8.mk z14 z1A z1B z17 z1g z1h z1U) zB zy), (Zq r1.1 .sh .sh)] ?_
 refine ze ?_
 refine zo (.ptr 0 0) ?_
 refine zo (.ptr 0 5) ?_
 refine zo (.ptr 0 5) ?_
 refine zo (iv r1.2.2.2.2.2.1) ?_
 refine zo (bv (r1.2.2.2.2.2.1 == 0)) ?_
 refine za ((r1.2.2.2.2.2.1 == 0)) ?_ ?_
 ·refine zi fun r2 hr2 => ?_
  obtain ⟨qr2, er2, exr2, rfl⟩ := Z18 ((ByteArray.mk #[41])) (zl) (r1.2.1) (r1.2.2.1) (r1.2.2.2.1) (r1.2.2.2.2.1) (r1.2.2.2.2.2.1) (r1.2.2.2.2.2.2) zn or1_0_4 hor1_0_4 r2 hr2
  refine zc [0] (bv r2.1) [(Zi (Zk.mk zl r2.2 r1.2.2.1 r1.2.2.2.1 r1.2.2.2.2.1 (Zj.mk r1.2.2.2.2.2.1 r1.2.2.2.2.2.2)) zn or1_0_4), (Zq (Z8.mk z14 z1A z1B z17 z1g z1h z1U) zB zy), (Zq r1.1 .sh .sh)] er2 ?_
  refine zo (bv (!r2.1)) ?_
  refine za ((!r2.1)) ?_ ?_
  ·exact zk (Z8y (x1) (zl) (r2.2) (r1.2.2.1) (r1.2.2.2.1) (r1.2.2.2.2.1) (r1.2.2.2.2.2.1) (r1.2.2.2.2.2.2) (z14) (z1A) (z1B) (z17) (z1g) (z1h) (z1U) (r1.1) zn or1_0_4 zB zy .sh .sh hor1_0_4 zP zH)
  ·exact zk (Z4D (zl) (r2.2) (r1.2.2.1) (r1.2.2.2.1) (r1.2.2.2.2.1) (r1.2.2.2.2.2.1) (r1.2.2.2.2.2.2) (z14) (z1A) (z1B) (z17) (z1g) (z1h) (z1U) (r1.1) zn or1_0_4 zB zy .sh .sh hor1_0_4 zP zH)
 ·exact zk (Z4D (zl) (r1.2.1) (r1.2.2.1) (r1.2.2.2.1) (r1.2.2.2.2.1) (r1.2.2.2.2.2.1) (r1.2.2.2.2.2.2) (z14) (z1A) (z1B) (z17) (z1g) (z1h) (z1U) (r1.1) zn or1_0_4 zB zy .sh .sh hor1_0_4 zP zH)
noncomputable def Z3H (x1 : Int) (zl : List Int) (zp : Int) (z6 : Int) (zd : Int) (zh : List Zr) (z1 : Int) (z2 : Int) (z14 : Int) (z1A : Int) (z1B : Int) (z17 : Int) (z1g : Int) (z1h : List Z7) : Option (Z8 × Bool × Int × Int × Int × (List Zr) × Int × Int) :=
 (Z7E).bind fun r1 =>
 (Z3q r1 zl zp).bind fun r2 =>
 if ((decide (0 ≤ r2.1))) = true then
 (Z1s x1 zl r2.2 z6 ((IntKind.i64.wrap (zd + 1))) zh z1 z2 7 0 0 r2.1 0 (([] : List Z7)))
 else
 ((Z13 ((ByteArray.mk #[63, 62])) zl r2.2).bind fun r3 =>
 if (r3.1) = true then
 (Z1s x1 zl r3.2 z6 ((IntKind.i64.wrap (zd + 1))) zh z1 z2 8 0 0 0 0 (([] : List Z7)))
 else
 ((Z13 ((ByteArray.mk #[63, 58])) zl r3.2).bind fun r4 =>
 if (r4.1) = true then
 (Z1s x1 zl r4.2 z6 ((IntKind.i64.wrap (zd + 1))) zh z1 z2 z14 z1A z1B z17 z1g z1h)
 else
 ((Z1C ((Zk.mk zl r4.2 z6 (IntKind.i64.wrap (zd + 1)) zh (Zj.mk z1 z2)))).bind fun r5 =>
 if ((r5 == 63)) = true then
 ((ZT 20 x1 zl z1 z2).bind fun r6 =>
 Z1s x1 zl r6.1 z6 ((IntKind.i64.wrap (zd + 1))) zh r6.2.1 r6.2.2 z14 z1A z1B z17 z1g z1h)
 else
 (if ((z6 == 9)) = true then
 ((ZT 24 x1 zl z1 z2).bind fun r7 =>
 Z1s x1 zl r7.1 z6 ((IntKind.i64.wrap (zd + 1))) zh r7.2.1 r7.2.2 z14 z1A z1B z17 z1g z1h)
 else
 (Z1s x1 zl r4.2 ((IntKind.i64.wrap (z6 + 1))) ((IntKind.i64.wrap (zd + 1))) zh z1 z2 5 0 0 0 ((IntKind.i64.wrap (z6 + 1))) (([] : List Z7)))))))
theorem Z93 (x1 : Int) (zl : List Int) (zp : Int) (z6 : Int) (zd : Int) (zh : List Zr) (z1 : Int) (z2 : Int) (z14 : Int) (z1A : Int) (z1B : Int) (z17 : Int) (z1g : Int) (z1h : List Z7) (z1U : List Z8) (zn : Own) (zb : Own) (zB : Own) (zy : Own) (zu : okApp zb = true) (zP : okApp zB = true) (zH : okApp zy = true) : Sim (Z21 zl zn) (Z3H x1 zl zp z6 zd zh z1 z2 z14 z1A z1B z17 z1g z1h) (Zem 1 (.ptr 0 0) (iv x1) (.ptr 1 0) [(Zi (Zk.mk zl zp z6 zd zh (Zj.mk z1 z2)) zn zb), (Zq (Z8.mk z14 z1A z1B z17 z1g z1h z1U) zB zy)]) := by
 unfold Z3H
 refine zf (ZfD ..) ?_
 refine ze ?_
 refine zo (.ptr 0 0) ?_
 refine zo (.ptr 0 3) ?_
 refine zo (iv zd) ?_
 refine zo (iv (IntKind.i64.wrap (zd + 1))) ?_
 refine zo (.ptr 0 0) ?_
 refine zo (.ptr 0 3) ?_
 refine zt [(Zi (Zk.mk zl zp z6 (IntKind.i64.wrap (zd + 1)) zh (Zj.mk z1 z2)) zn zb), (Zq (Z8.mk z14 z1A z1B z17 z1g z1h z1U) zB zy)] ?_
 refine ze ?_
 refine zi fun r1 hr1 => ?_
 obtain ⟨qr1, er1, exr1, rfl⟩ := Zc5  r1 hr1
 refine zc [] (.p (.lst .sh (r1.map eS))) [(Zi (Zk.mk zl zp z6 (IntKind.i64.wrap (zd + 1)) zh (Zj.mk z1 z2)) zn zb), (Zq (Z8.mk z14 z1A z1B z17 z1g z1h z1U) zB zy)] er1 ?_
 refine zi fun r2 hr2 => ?_
 obtain ⟨qr2, er2, exr2, rfl⟩ := Z7L (r1) (zl) (zp) (z6) ((IntKind.i64.wrap (zd + 1))) (zh) (z1) (z2) .sh zn zb zu r2 hr2
 refine zc [0] (iv r2.1) [(Zi (Zk.mk zl r2.2 z6 (IntKind.i64.wrap (zd + 1)) zh (Zj.mk z1 z2)) zn zb), (Zq (Z8.mk z14 z1A z1B z17 z1g z1h z1U) zB zy)] er2 ?_
 refine ze ?_
 refine zo (bv (decide (0 ≤ r2.1))) ?_
 refine za ((decide (0 ≤ r2.1))) ?_ ?_
 ·refine ze ?_
  refine zo (.p (.agg (ZD (Z8.mk 7 0 0 r2.1 0 ([] : List Z7) ([] : List Z8)) .nl .nl))) ?_
  refine zt [(Zi (Zk.mk zl r2.2 z6 (IntKind.i64.wrap (zd + 1)) zh (Zj.mk z1 z2)) zn zb), (Zq (Z8.mk 7 0 0 r2.1 0 ([] : List Z7) ([] : List Z8)) .nl .nl)] ?_
  exact zk (Z2j (x1) (zl) (r2.2) (z6) ((IntKind.i64.wrap (zd + 1))) (zh) (z1) (z2) (7) (0) (0) (r2.1) (0) (([] : List Z7)) (([] : List Z8)) zn zb .nl .nl zu rfl rfl)
 ·refine ze ?_
  refine zi fun r3 hr3 => ?_
  obtain ⟨qr3, er3, exr3, rfl⟩ := Z18 ((ByteArray.mk #[63, 62])) (zl) (r2.2) (z6) ((IntKind.i64.wrap (zd + 1))) (zh) (z1) (z2) zn zb zu r3 hr3
  refine zc [0] (bv r3.1) [(Zi (Zk.mk zl r3.2 z6 (IntKind.i64.wrap (zd + 1)) zh (Zj.mk z1 z2)) zn zb), (Zq (Z8.mk z14 z1A z1B z17 z1g z1h z1U) zB zy)] er3 ?_
  refine za (r3.1) ?_ ?_
  ·refine ze ?_
   refine zo (.p (.agg (ZD (Z8.mk 8 0 0 0 0 ([] : List Z7) ([] : List Z8)) .nl .nl))) ?_
   refine zt [(Zi (Zk.mk zl r3.2 z6 (IntKind.i64.wrap (zd + 1)) zh (Zj.mk z1 z2)) zn zb), (Zq (Z8.mk 8 0 0 0 0 ([] : List Z7) ([] : List Z8)) .nl .nl)] ?_
   exact zk (Z2j (x1) (zl) (r3.2) (z6) ((IntKind.i64.wrap (zd + 1))) (zh) (z1) (z2) (8) (0) (0) (0) (0) (([] : List Z7)) (([] : List Z8)) zn zb .nl .nl zu rfl rfl)
  ·refine ze ?_
   refine zi fun r4 hr4 => ?_
   obtain ⟨qr4, er4, exr4, rfl⟩ := Z18 ((ByteArray.mk #[63, 58])) (zl) (r3.2) (z6) ((IntKind.i64.wrap (zd + 1))) (zh) (z1) (z2) zn zb zu r4 hr4
   refine zc [0] (bv r4.1) [(Zi (Zk.mk zl r4.2 z6 (IntKind.i64.wrap (zd + 1)) zh (Zj.mk z1 z2)) zn zb), (Zq (Z8.mk z14 z1A z1B z17 z1g z1h z1U) zB zy)] er4 ?_
   refine za (r4.1) ?_ ?_
   ·exact zk (Z2j (x1) (zl) (r4.2) (z6) ((IntKind.i64.wrap (zd + 1))) (zh) (z1) (z2) (z14) (z1A) (z1B) (z17) (z1g) (z1h) (z1U) zn zb zB zy zu zP zH)
   ·refine ze ?_
    refine zi fun r5 hr5 => ?_
    obtain ⟨qr5, er5, exr5, rfl⟩ := Z1F ((Zk.mk zl r4.2 z6 (IntKind.i64.wrap (zd + 1)) zh (Zj.mk z1 z2))) zn zb zu r5 hr5
    refine zc [0] (iv r5) [(Zi (Zk.mk zl r4.2 z6 (IntKind.i64.wrap (zd + 1)) zh (Zj.mk z1 z2)) zn zb), (Zq (Z8.mk z14 z1A z1B z17 z1g z1h z1U) zB zy)] er5 ?_
    refine zo (bv (r5 == 63)) ?_
    refine za ((r5 == 63)) ?_ ?_
    ·refine ze ?_
     refine zi fun r6 hr6 => ?_
     obtain ⟨qr6, er6, exr6, rfl⟩ := ZW (20) (x1) (zl) (r4.2) (z6) ((IntKind.i64.wrap (zd + 1))) (zh) (z1) (z2) zn zb zu r6 hr6
     refine zc [0] (.p (.tup [])) [(Zi (Zk.mk zl r6.1 z6 (IntKind.i64.wrap (zd + 1)) zh (Zj.mk r6.2.1 r6.2.2)) zn zb), (Zq (Z8.mk z14 z1A z1B z17 z1g z1h z1U) zB zy)] er6 ?_
     exact zk (Z2j (x1) (zl) (r6.1) (z6) ((IntKind.i64.wrap (zd + 1))) (zh) (r6.2.1) (r6.2.2) (z14) (z1A) (z1B) (z17) (z1g) (z1h) (z1U) zn zb zB zy zu zP zH)
    ·refine ze ?_
     refine zo (.ptr 0 0) ?_
     refine zo (.ptr 0 2) ?_
     refine zo (iv z6) ?_
     refine zo (bv (z6 == 9)) ?_
     refine za ((z6 == 9)) ?_ ?_
     ·refine ze ?_
      refine zi fun r7 hr7 => ?_
      obtain ⟨qr7, er7, exr7, rfl⟩ := ZW (24) (x1) (zl) (r4.2) (z6) ((IntKind.i64.wrap (zd + 1))) (zh) (z1) (z2) zn zb zu r7 hr7
      refine zc [0] (.p (.tup [])) [(Zi (Zk.mk zl r7.1 z6 (IntKind.i64.wrap (zd + 1)) zh (Zj.mk r7.2.1 r7.2.2)) zn zb), (Zq (Z8.mk z14 z1A z1B z17 z1g z1h z1U) zB zy)] er7 ?_
      exact zk (Z2j (x1) (zl) (r7.1) (z6) ((IntKind.i64.wrap (zd + 1))) (zh) (r7.2.1) (r7.2.2) (z14) (z1A) (z1B) (z17) (z1g) (z1h) (z1U) zn zb zB zy zu zP zH)
     ·refine ze ?_
      refine zo (.ptr 0 0) ?_
      refine zo (.ptr 0 2) ?_
      refine zo (iv z6) ?_
      refine zo (iv (IntKind.i64.wrap (z6 + 1))) ?_
      refine zo (.ptr 0 0) ?_
      refine zo (.ptr 0 2) ?_
      refine zt [(Zi (Zk.mk zl r4.2 (IntKind.i64.wrap (z6 + 1)) (IntKind.i64.wrap (zd + 1)) zh (Zj.mk z1 z2)) zn zb), (Zq (Z8.mk z14 z1A z1B z17 z1g z1h z1U) zB zy)] ?_
      refine ze ?_
      refine zo (.ptr 0 0) ?_
      refine zo (.ptr 0 2) ?_
      refine zo (iv (IntKind.i64.wrap (z6 + 1))) ?_
      refine zo (.p (.agg (ZD (Z8.mk 5 0 0 0 (IntKind.i64.wrap (z6 + 1)) ([] : List Z7) ([] : List Z8)) .nl .nl))) ?_
      refine zt [(Zi (Zk.mk zl r4.2 (IntKind.i64.wrap (z6 + 1)) (IntKind.i64.wrap (zd + 1)) zh (Zj.mk z1 z2)) zn zb), (Zq (Z8.mk 5 0 0 0 (IntKind.i64.wrap (z6 + 1)) ([] : List Z7) ([] : List Z8)) .nl .nl)] ?_
      exact zk (Z2j (x1) (zl) (r4.2) ((IntKind.i64.wrap (z6 + 1))) ((IntKind.i64.wrap (zd + 1))) (zh) (z1) (z2) (5) (0) (0) (0) ((IntKind.i64.wrap (z6 + 1))) (([] : List Z7)) (([] : List Z8)) zn zb .nl .nl zu rfl rfl)
noncomputable def Z3C (x1 : Int) (zl : List Int) (zp : Int) (z6 : Int) (zd : Int) (zh : List Zr) (z1 : Int) (z2 : Int) : Option (Z8 × Bool × Int × Int × Int × (List Zr) × Int × Int) :=
 if ((zd == 32)) = true then
 ((ZT 25 x1 zl z1 z2).bind fun r1 =>
 some ((Z8.mk 0 0 0 0 0 ([] : List Z7) ([] : List Z8)), true, r1.1, z6, zd, zh, r1.2.1, r1.2.2))
 else
 (Z3H x1 zl zp z6 zd zh z1 z2 0 0 0 0 0 (([] : List Z7)))
theorem Z9R (x1 : Int) (zl : List Int) (zp : Int) (z6 : Int) (zd : Int) (zh : List Zr) (z1 : Int) (z2 : Int) (zn : Own) (zb : Own) (zu : okApp zb = true) : Sim (Z21 zl zn) (Z3C x1 zl zp z6 zd zh z1 z2) (EE 51 [(.ptr 0 0), (iv x1)] [(Zi (Zk.mk zl zp z6 zd zh (Zj.mk z1 z2)) zn zb)]) := by
 unfold Z3C
 refine zf (Zh4 ..) ?_
 refine ze ?_
 refine zz (.ptr 1 0) [(Zi (Zk.mk zl zp z6 zd zh (Zj.mk z1 z2)) zn zb), (Zq (Z8.mk 0 0 0 0 0 ([] : List Z7) ([] : List Z8)) .nl .nl)] ?_
 refine ze ?_
 refine zo (.ptr 0 0) ?_
 refine zo (.ptr 0 3) ?_
 refine zo (iv zd) ?_
 refine zo (bv (zd == 32)) ?_
 refine za ((zd == 32)) ?_ ?_
 ·refine ze ?_
  refine zi fun r1 hr1 => ?_
  obtain ⟨qr1, er1, exr1, rfl⟩ := ZW (25) (x1) (zl) (zp) (z6) (zd) (zh) (z1) (z2) zn zb zu r1 hr1
  refine zc [0] (.p (.tup [])) [(Zi (Zk.mk zl r1.1 z6 zd zh (Zj.mk r1.2.1 r1.2.2)) zn zb), (Zq (Z8.mk 0 0 0 0 0 ([] : List Z7) ([] : List Z8)) .nl .nl)] er1 ?_
  refine ze ?_
  refine zo (.p (.agg (ZD (Z8.mk 0 0 0 0 0 ([] : List Z7) ([] : List Z8)) .nl .nl))) ?_
  refine zt [(Zi (Zk.mk zl r1.1 z6 zd zh (Zj.mk r1.2.1 r1.2.2)) zn zb), (Zq (Z8.mk 0 0 0 0 0 ([] : List Z7) ([] : List Z8)) .nl .nl)] ?_
  exact zr ((.p (.tup [(.agg (ZD (Z8.mk 0 0 0 0 0 ([] : List Z7) ([] : List Z8)) .sh .sh)), (.v (.bool true))])), [(Zi (Zk.mk zl r1.1 z6 zd zh (Zj.mk r1.2.1 r1.2.2)) zn zb), (Zq (Z8.mk 0 0 0 0 0 ([] : List Z7) ([] : List Z8)) .nl .nl)]) ⟨zb, _, zu, rfl⟩
 ·exact zk (Z93 (x1) (zl) (zp) (z6) (zd) (zh) (z1) (z2) (0) (0) (0) (0) (0) (([] : List Z7)) (([] : List Z8)) zn zb .nl .nl zu rfl rfl)
theorem Z5z (x1 : Int) (zl : List Int) (zp : Int) (z6 : Int) (zd : Int) (zh : List Zr) (z1 : Int) (z2 : Int) {r} (h : Z3C x1 zl zp z6 zd zh z1 z2 = some r) : Z2U x1 zl zp z6 zd zh z1 z2 = some r :=
 pick_of (fun _ _ ha hb => RRun.uniq (Zam _ _) (ha .ex .ex rfl) (hb .ex .ex rfl)) (fun zn zb zu => Z9R x1 zl zp z6 zd zh z1 z2 zn zb zu r h)
noncomputable def Z98  : Option ((List ByteArray)) :=
 some (([(ByteArray.mk #[63, 61]), (ByteArray.mk #[63, 33]), (ByteArray.mk #[63, 60, 61]), (ByteArray.mk #[63, 60, 33])] : List ByteArray))
theorem ZbU  : Sim (Z6g) (Z98) (EE 62 [] []) := by
 unfold Z98
 refine zf (Zhi ..) ?_
 refine ze ?_
 refine ze ?_
 refine zo (.p (.lst .ex (([(ByteArray.mk #[63, 61]), (ByteArray.mk #[63, 33]), (ByteArray.mk #[63, 60, 61]), (ByteArray.mk #[63, 60, 33])] : List ByteArray).map eS))) ?_
 exact zr ((.p (.lst .sh (([(ByteArray.mk #[63, 61]), (ByteArray.mk #[63, 33]), (ByteArray.mk #[63, 60, 61]), (ByteArray.mk #[63, 60, 33])] : List ByteArray).map eS))), []) ⟨_, rfl⟩
theorem Zc4  {r} (h : Z98 = some r) : Z7E = some r :=
 pick_of (fun _ _ ha hb => RRun.uniq (Zci) (ha ) (hb )) (ZbU  r h)
noncomputable def Z3p (x0 : List ByteArray) (zl : List Int) (zp : Int) : Option (Int × Int) :=
 Z1q x0 ((x0.length : Int)) 0 zl zp
theorem Z7w (x0 : List ByteArray) (zl : List Int) (zp : Int) (z6 : Int) (zd : Int) (zh : List Zr) (z1 : Int) (z2 : Int) (ox0 : Own) (zn : Own) (zb : Own) (zu : okApp zb = true) : Sim (Z1f zl z6 zd zh z1 z2 zn zb) (Z3p x0 zl zp) (EE 61 [(.p (.lst ox0 (x0.map eS))), (.clo 27 [(.ptr 0 0)] [])] [(Zi (Zk.mk zl zp z6 zd zh (Zj.mk z1 z2)) zn zb)]) := by
 unfold Z3p
 refine zf (ZhX ..) ?_
 refine ze ?_
 refine ze ?_
 refine zo (iv (x0.length : Int)) ?_ (Eq.trans (by kernel_rfl) (xlen_of (P := PP) (t := 43) (d := 9) (by kernel_rfl) eS (shrO ox0) x0))
 exact zk (Z55 (x0) ((x0.length : Int)) (0) (zl) (zp) (z6) (zd) (zh) (z1) (z2) ox0 zn zb zu)
theorem Z7K (x0 : List ByteArray) (zl : List Int) (zp : Int) {r} (h : Z3p x0 zl zp = some r) : Z3q x0 zl zp = some r :=
 pick_of (fun _ _ ha hb => RRun.uniq (Z5y _ _ _ _ _ _ _ _) (ha default default default default default .ex .ex .ex rfl) (hb default default default default default .ex .ex .ex rfl)) (fun z6 zd zh z1 z2 ox0 zn zb zu => Z7w x0 zl zp z6 zd zh z1 z2 ox0 zn zb zu r h)
noncomputable def Z2W (x0 : List ByteArray) (x7 : Int) (x8 : Int) (zl : List Int) (zp : Int) : Option (Int × Int) :=
 Z1q x0 x7 ((IntKind.i64.wrap (x8 + 1))) zl zp
theorem Z6A (x0 : List ByteArray) (x7 : Int) (x8 : Int) (zl : List Int) (zp : Int) (z6 : Int) (zd : Int) (zh : List Zr) (z1 : Int) (z2 : Int) (ox0 : Own) (zn : Own) (zb : Own) (zu : okApp zb = true) : Sim (Z1f zl z6 zd zh z1 z2 zn zb) (Z2W x0 x7 x8 zl zp) (Zds 1 (.p (.lst ox0 (x0.map eS))) (.clo 27 [(.ptr 0 0)] []) (iv x7) (iv x8) [(Zi (Zk.mk zl zp z6 zd zh (Zj.mk z1 z2)) zn zb)]) := by
 unfold Z2W
 refine zf (Zgn ..) ?_
 refine ze ?_
 refine zo (iv (IntKind.i64.wrap (x8 + 1))) ?_
 exact zk (Z55 (x0) (x7) ((IntKind.i64.wrap (x8 + 1))) (zl) (zp) (z6) (zd) (zh) (z1) (z2) ox0 zn zb zu)
noncomputable def Z2m (x0 : List ByteArray) (x7 : Int) (x8 : Int) (zl : List Int) (zp : Int) : Option (Int × Int) :=
 (lget x0 x8).bind fun a1 =>
 (Z13 a1 zl zp).bind fun r2 =>
 if (r2.1) = true then
 (some (x8, r2.2))
 else
 (Z2W x0 x7 x8 zl r2.2)
theorem Z6E (x0 : List ByteArray) (x7 : Int) (x8 : Int) (zl : List Int) (zp : Int) (z6 : Int) (zd : Int) (zh : List Zr) (z1 : Int) (z2 : Int) (ox0 : Own) (zn : Own) (zb : Own) (zu : okApp zb = true) : Sim (Z1f zl z6 zd zh z1 z2 zn zb) (Z2m x0 x7 x8 zl zp) (Zdg 1 (.p (.lst ox0 (x0.map eS))) (.clo 27 [(.ptr 0 0)] []) (iv x7) (iv x8) [(Zi (Zk.mk zl zp z6 zd zh (Zj.mk z1 z2)) zn zb)]) := by
 unfold Z2m
 refine zf (Zge ..) ?_
 refine ze ?_
 refine ze ?_
 refine zi fun a1 ha1 => ?_
 refine zo (.cptr [(.v (.string a1))]) ?_ (Eq.trans (by kernel_rfl) (xidx_of (o := (shrO ox0)) (k := .i64) (n := 1) (e := eS) (cs := (fun a => [eS a])) (fun _ => rfl) (fun _ => rfl) (by decide) ha1))
 refine zo (.p (.v (.string a1))) ?_
 refine zi fun r2 hr2 => ?_
 obtain ⟨qr2, er2, exr2, rfl⟩ := Z18 (a1) (zl) (zp) (z6) (zd) (zh) (z1) (z2) zn zb zu r2 hr2
 refine zv [0] (bv r2.1) [(Zi (Zk.mk zl r2.2 z6 zd zh (Zj.mk z1 z2)) zn zb)] er2 ?_
 refine za (r2.1) ?_ ?_
 ·refine ze ?_
  exact zr ((iv x8), [(Zi (Zk.mk zl r2.2 z6 zd zh (Zj.mk z1 z2)) zn zb)]) ⟨_, rfl⟩
 ·exact zk (Z6A (x0) (x7) (x8) (zl) (r2.2) (z6) (zd) (zh) (z1) (z2) ox0 zn zb zu)
noncomputable def Z3W (zp : Int) : Option (Int × Int) :=
 some ((-1), zp)
theorem Z6L (zl : List Int) (zp : Int) (z6 : Int) (zd : Int) (zh : List Zr) (z1 : Int) (z2 : Int) (zn : Own) (zb : Own) (zu : okApp zb = true) : Sim (Z1f zl z6 zd zh z1 z2 zn zb) (Z3W zp) (Zdh 1  [(Zi (Zk.mk zl zp z6 zd zh (Zj.mk z1 z2)) zn zb)]) := by
 unfold Z3W
 refine zf (ZfA ..) ?_
 refine ze ?_
 exact zr ((iv (-1)), [(Zi (Zk.mk zl zp z6 zd zh (Zj.mk z1 z2)) zn zb)]) ⟨_, rfl⟩
noncomputable def Z20 (x0 : List ByteArray) (x7 : Int) (x8 : Int) (zl : List Int) (zp : Int) : Option (Int × Int) :=
 if ((decide (x8 < x7))) = true then
 (Z2m x0 x7 x8 zl zp)
 else
 (Z3W zp)
theorem Z6J (x0 : List ByteArray) (x7 : Int) (x8 : Int) (zl : List Int) (zp : Int) (z6 : Int) (zd : Int) (zh : List Zr) (z1 : Int) (z2 : Int) (ox0 : Own) (zn : Own) (zb : Own) (zu : okApp zb = true) : Sim (Z1f zl z6 zd zh z1 z2 zn zb) (Z20 x0 x7 x8 zl zp) (ZaH 1 (.p (.lst ox0 (x0.map eS))) (.clo 27 [(.ptr 0 0)] []) (iv x7) (iv x8) [(Zi (Zk.mk zl zp z6 zd zh (Zj.mk z1 z2)) zn zb)]) := by
 unfold Z20
 refine zf (Zgw ..) ?_
 refine ze ?_
 refine zo (bv (decide (x8 < x7))) ?_
 refine za ((decide (x8 < x7))) ?_ ?_
 ·exact zk (Z6E (x0) (x7) (x8) (zl) (zp) (z6) (zd) (zh) (z1) (z2) ox0 zn zb zu)
 ·exact zk (Z6L (zl) (zp) (z6) (zd) (zh) (z1) (z2) zn zb zu)
theorem Z3B (x0 : List ByteArray) (x7 : Int) (x8 : Int) (zl : List Int) (zp : Int) {r} (h : Z20 x0 x7 x8 zl zp = some r) : Z1q x0 x7 x8 zl zp = some r :=
 pick_of (fun _ _ ha hb => RRun.uniq (Z5y _ _ _ _ _ _ _ _) (ha default default default default default .ex .ex .ex rfl) (hb default default default default default .ex .ex .ex rfl)) (fun z6 zd zh z1 z2 ox0 zn zb zu => Z6J x0 x7 x8 zl zp z6 zd zh z1 z2 ox0 zn zb zu r h)
noncomputable def Z2H (zp : Int) (z1 : Int) (z2 : Int) (z1S : Int) (z2K : Int) (z2J : Int) (z2k : Int) (z2a : Int) (z2b : List Z7) (z1T : List Z8) : Option (Z8 × Int × Int × Int) :=
 some ((Z8.mk z1S z2K z2J z2k z2a z2b z1T), zp, z1, z2)
theorem Z4w (zl : List Int) (zp : Int) (z6 : Int) (zd : Int) (zh : List Zr) (z1 : Int) (z2 : Int) (b1 : Z8) (b2 : Z8) (z1S : Int) (z2K : Int) (z2J : Int) (z2k : Int) (z2a : Int) (z2b : List Z7) (z1T : List Z8) (zn : Own) (zb : Own) (zB : Own) (zy : Own) (z1E : Own) (z1u : Own) (z2L : Own) (z2n : Own) (zu : okApp zb = true) (z7F : okApp z1E = true) (z6I : okApp z1u = true) (z7M : okApp z2L = true) (z6B : okApp z2n = true) : Sim (Z2s zl z6 zd zh zn zb) (Z2H zp z1 z2 z1S z2K z2J z2k z2a z2b z1T) (Zb4 1 (.ptr 2 0) (.ptr 3 0) [(Zi (Zk.mk zl zp z6 zd zh (Zj.mk z1 z2)) zn zb), (Zq b1 zB zy), (Zq b2 z1E z1u), (Zq (Z8.mk z1S z2K z2J z2k z2a z2b z1T) z2L z2n)]) := by
 unfold Z2H
 refine zf (ZeB ..) ?_
 refine ze ?_
 refine zo (.p (.agg (ZD (Z8.mk z1S z2K z2J z2k z2a z2b z1T) (shrO z2L) (shrO z2n)))) ?_
 refine zt [(Zi (Zk.mk zl zp z6 zd zh (Zj.mk z1 z2)) zn zb), (Zq b1 zB zy), (Zq (Z8.mk z1S z2K z2J z2k z2a z2b z1T) (shrO z2L) (shrO z2n)), (Zq (Z8.mk z1S z2K z2J z2k z2a z2b z1T) z2L z2n)] ?_
 exact zr ((.p (.agg (ZD (Z8.mk z1S z2K z2J z2k z2a z2b z1T) .sh .sh))), [(Zi (Zk.mk zl zp z6 zd zh (Zj.mk z1 z2)) zn zb), (Zq b1 zB zy), (Zq (Z8.mk z1S z2K z2J z2k z2a z2b z1T) (shrO z2L) (shrO z2n)), (Zq (Z8.mk z1S z2K z2J z2k z2a z2b z1T) z2L z2n)]) ⟨_, rfl⟩
noncomputable def Z2d (zl : List Int) (zp : Int) (z1 : Int) (z2 : Int) (z1S : Int) (z2K : Int) (z2J : Int) (z2k : Int) (z2a : Int) (z2b : List Z7) (z1T : List Z8) : Option (Z8 × Int × Int × Int) :=
 (Z13 ((ByteArray.mk #[63])) zl zp).bind fun r1 =>
 if (r1.1) = true then
 (Z2H r1.2 z1 z2 z1S z2K z2J 1 z2a z2b z1T)
 else
 ((Z13 ((ByteArray.mk #[43])) zl r1.2).bind fun r2 =>
 if (r2.1) = true then
 (Z2H r2.2 z1 z2 z1S z2K z2J 2 z2a z2b z1T)
 else
 (Z2H r2.2 z1 z2 z1S z2K z2J z2k z2a z2b z1T))
theorem Z5M (zl : List Int) (zp : Int) (z6 : Int) (zd : Int) (zh : List Zr) (z1 : Int) (z2 : Int) (b1 : Z8) (b2 : Z8) (z1S : Int) (z2K : Int) (z2J : Int) (z2k : Int) (z2a : Int) (z2b : List Z7) (z1T : List Z8) (zn : Own) (zb : Own) (zB : Own) (zy : Own) (z1E : Own) (z1u : Own) (z2L : Own) (z2n : Own) (zu : okApp zb = true) (z7F : okApp z1E = true) (z6I : okApp z1u = true) (z7M : okApp z2L = true) (z6B : okApp z2n = true) : Sim (Z2s zl z6 zd zh zn zb) (Z2d zl zp z1 z2 z1S z2K z2J z2k z2a z2b z1T) (ZbO 1 (.ptr 0 0) (.ptr 2 0) (.ptr 3 0) [(Zi (Zk.mk zl zp z6 zd zh (Zj.mk z1 z2)) zn zb), (Zq b1 zB zy), (Zq b2 z1E z1u), (Zq (Z8.mk z1S z2K z2J z2k z2a z2b z1T) z2L z2n)]) := by
 unfold Z2d
 refine zf (Zf1 ..) ?_
 refine ze ?_
 refine zi fun r1 hr1 => ?_
 obtain ⟨qr1, er1, exr1, rfl⟩ := Z18 ((ByteArray.mk #[63])) (zl) (zp) (z6) (zd) (zh) (z1) (z2) zn zb zu r1 hr1
 refine zc [0] (bv r1.1) [(Zi (Zk.mk zl r1.2 z6 zd zh (Zj.mk z1 z2)) zn zb), (Zq b1 zB zy), (Zq b2 z1E z1u), (Zq (Z8.mk z1S z2K z2J z2k z2a z2b z1T) z2L z2n)] er1 ?_
 refine za (r1.1) ?_ ?_
 ·refine ze ?_
  refine zo (.ptr 3 3) ?_
  refine zt [(Zi (Zk.mk zl r1.2 z6 zd zh (Zj.mk z1 z2)) zn zb), (Zq b1 zB zy), (Zq b2 z1E z1u), (Zq (Z8.mk z1S z2K z2J 1 z2a z2b z1T) z2L z2n)] ?_
  exact zk (Z4w (zl) (r1.2) (z6) (zd) (zh) (z1) (z2) (b1) (b2) (z1S) (z2K) (z2J) (1) (z2a) (z2b) (z1T) zn zb zB zy z1E z1u z2L z2n zu z7F z6I z7M z6B)
 ·refine ze ?_
  refine zi fun r2 hr2 => ?_
  obtain ⟨qr2, er2, exr2, rfl⟩ := Z18 ((ByteArray.mk #[43])) (zl) (r1.2) (z6) (zd) (zh) (z1) (z2) zn zb zu r2 hr2
  refine zc [0] (bv r2.1) [(Zi (Zk.mk zl r2.2 z6 zd zh (Zj.mk z1 z2)) zn zb), (Zq b1 zB zy), (Zq b2 z1E z1u), (Zq (Z8.mk z1S z2K z2J z2k z2a z2b z1T) z2L z2n)] er2 ?_
  refine za (r2.1) ?_ ?_
  ·refine ze ?_
   refine zo (.ptr 3 3) ?_
   refine zt [(Zi (Zk.mk zl r2.2 z6 zd zh (Zj.mk z1 z2)) zn zb), (Zq b1 zB zy), (Zq b2 z1E z1u), (Zq (Z8.mk z1S z2K z2J 2 z2a z2b z1T) z2L z2n)] ?_
   exact zk (Z4w (zl) (r2.2) (z6) (zd) (zh) (z1) (z2) (b1) (b2) (z1S) (z2K) (z2J) (2) (z2a) (z2b) (z1T) zn zb zB zy z1E z1u z2L z2n zu z7F z6I z7M z6B)
  ·exact zk (Z4w (zl) (r2.2) (z6) (zd) (zh) (z1) (z2) (b1) (b2) (z1S) (z2K) (z2J) (z2k) (z2a) (z2b) (z1T) zn zb zB zy z1E z1u z2L z2n zu z7F z6I z7M z6B)
noncomputable def Z1M (x2 : Bool) (x7 : Int) (zl : List Int) (zp : Int) (z1 : Int) (z2 : Int) (z1S : Int) (z2K : Int) (z2J : Int) (z2k : Int) (z2a : Int) (z2b : List Z7) (z1T : List Z8) : Option (Z8 × Int × Int × Int) :=
 if ((!x2)) = true then
 ((ZT 23 x7 zl z1 z2).bind fun r1 =>
 Z2d zl r1.1 r1.2.1 r1.2.2 z1S z2K z2J z2k z2a z2b z1T)
 else
 (Z2d zl zp z1 z2 z1S z2K z2J z2k z2a z2b z1T)
theorem Z3l (x2 : Bool) (x7 : Int) (zl : List Int) (zp : Int) (z6 : Int) (zd : Int) (zh : List Zr) (z1 : Int) (z2 : Int) (b1 : Z8) (b2 : Z8) (z1S : Int) (z2K : Int) (z2J : Int) (z2k : Int) (z2a : Int) (z2b : List Z7) (z1T : List Z8) (zn : Own) (zb : Own) (zB : Own) (zy : Own) (z1E : Own) (z1u : Own) (z2L : Own) (z2n : Own) (zu : okApp zb = true) (z7F : okApp z1E = true) (z6I : okApp z1u = true) (z7M : okApp z2L = true) (z6B : okApp z2n = true) : Sim (Z2s zl z6 zd zh zn zb) (Z1M x2 x7 zl zp z1 z2 z1S z2K z2J z2k z2a z2b z1T) (Z9D 1 (.ptr 0 0) (bv x2) (.ptr 2 0) (iv x7) (.ptr 3 0) [(Zi (Zk.mk zl zp z6 zd zh (Zj.mk z1 z2)) zn zb), (Zq b1 zB zy), (Zq b2 z1E z1u), (Zq (Z8.mk z1S z2K z2J z2k z2a z2b z1T) z2L z2n)]) := by
 unfold Z1M
 refine zf (ZeZ ..) ?_
 refine ze ?_
 refine zo (bv (!x2)) ?_
 refine za ((!x2)) ?_ ?_
 ·refine ze ?_
  refine zi fun r1 hr1 => ?_
  obtain ⟨qr1, er1, exr1, rfl⟩ := ZW (23) (x7) (zl) (zp) (z6) (zd) (zh) (z1) (z2) zn zb zu r1 hr1
  refine zc [0] (.p (.tup [])) [(Zi (Zk.mk zl r1.1 z6 zd zh (Zj.mk r1.2.1 r1.2.2)) zn zb), (Zq b1 zB zy), (Zq b2 z1E z1u), (Zq (Z8.mk z1S z2K z2J z2k z2a z2b z1T) z2L z2n)] er1 ?_
  exact zk (Z5M (zl) (r1.1) (z6) (zd) (zh) (r1.2.1) (r1.2.2) (b1) (b2) (z1S) (z2K) (z2J) (z2k) (z2a) (z2b) (z1T) zn zb zB zy z1E z1u z2L z2n zu z7F z6I z7M z6B)
 ·exact zk (Z5M (zl) (zp) (z6) (zd) (zh) (z1) (z2) (b1) (b2) (z1S) (z2K) (z2J) (z2k) (z2a) (z2b) (z1T) zn zb zB zy z1E z1u z2L z2n zu z7F z6I z7M z6B)
noncomputable def Z3e (x1 : Z8) (x2 : Bool) (zl : List Int) (zp : Int) (z6 : Int) (zd : Int) (zh : List Zr) (z1 : Int) (z2 : Int) : Option (Z8 × Int × Int × Int) :=
 (Z13 ((ByteArray.mk #[42])) zl zp).bind fun r1 =>
 if (r1.1) = true then
 (Z1M x2 zp zl r1.2 z1 z2 4 0 ((-1)) 0 0 (([] : List Z7)) (([x1] : List Z8)))
 else
 ((Z13 ((ByteArray.mk #[43])) zl r1.2).bind fun r2 =>
 if (r2.1) = true then
 (Z1M x2 zp zl r2.2 z1 z2 4 1 ((-1)) 0 0 (([] : List Z7)) (([x1] : List Z8)))
 else
 ((Z13 ((ByteArray.mk #[63])) zl r2.2).bind fun r3 =>
 if (r3.1) = true then
 (Z1M x2 zp zl r3.2 z1 z2 4 0 1 0 0 (([] : List Z7)) (([x1] : List Z8)))
 else
 ((Z13 ((ByteArray.mk #[123])) zl r3.2).bind fun r4 =>
 if (r4.1) = true then
 ((Z3Z zp zl r4.2 z6 zd zh z1 z2).bind fun r5 =>
 Z1M x2 zp zl r5.2.2.1 r5.2.2.2.1 r5.2.2.2.2 4 r5.1 r5.2.1 0 0 (([] : List Z7)) (([x1] : List Z8)))
 else
 (some (x1, r4.2, z1, z2)))))
theorem Z9t (x1 : Z8) (x2 : Bool) (zl : List Int) (zp : Int) (z6 : Int) (zd : Int) (zh : List Zr) (z1 : Int) (z2 : Int) (z1r : Own) (z1c : Own) (zn : Own) (zb : Own) (zu : okApp zb = true) : Sim (Z2s zl z6 zd zh zn zb) (Z3e x1 x2 zl zp z6 zd zh z1 z2) (EE 43 [(.ptr 0 0), (.p (.agg (ZD x1 z1r z1c))), (bv x2)] [(Zi (Zk.mk zl zp z6 zd zh (Zj.mk z1 z2)) zn zb)]) := by
 unfold Z3e
 refine zf (Zhn ..) ?_
 refine ze ?_
 refine zx (.ptr 1 0) [(Zi (Zk.mk zl zp z6 zd zh (Zj.mk z1 z2)) zn zb), (Zq x1 z1r z1c)] ?_
 refine zz (.ptr 2 0) [(Zi (Zk.mk zl zp z6 zd zh (Zj.mk z1 z2)) zn zb), (Zq x1 z1r z1c), (Zq (Z8.mk 0 0 0 0 0 ([] : List Z7) ([] : List Z8)) .nl .nl)] ?_
 refine ze ?_
 refine zo (.ptr 0 0) ?_
 refine zo (.ptr 0 1) ?_
 refine zo (iv zp) ?_
 refine ze ?_
 refine zo (.p (.agg (ZD x1 (shrO z1r) (shrO z1c)))) ?_
 refine zo (.p (.lst .ex (([x1] : List Z8).map ZI))) ?_ (Eq.trans (b := some (.p (.lst .ex [.agg (Z2l x1)]))) (by kernel_rfl) (by simp only [List.map_cons, List.map_nil, Z2V]))
 refine zo (.p (.agg (ZD (Z8.mk 4 0 (-1) 0 0 ([] : List Z7) ([x1] : List Z8)) .nl .ex))) ?_
 refine zz (.ptr 3 0) [(Zi (Zk.mk zl zp z6 zd zh (Zj.mk z1 z2)) zn zb), (Zq x1 z1r z1c), (Zq (Z8.mk 0 0 0 0 0 ([] : List Z7) ([] : List Z8)) .nl .nl), (Zq (Z8.mk 0 0 0 0 0 ([] : List Z7) ([] : List Z8)) .nl .nl)] ?_
 refine zt [(Zi (Zk.mk zl zp z6 zd zh (Zj.mk z1 z2)) zn zb), (Zq x1 z1r z1c), (Zq (Z8.mk 0 0 0 0 0 ([] : List Z7) ([] : List Z8)) .nl .nl), (Zq (Z8.mk 4 0 (-1) 0 0 ([] : List Z7) ([x1] : List Z8)) .nl .ex)] ?_
 refine ze ?_
 refine zi fun r1 hr1 => ?_
 obtain ⟨qr1, er1, exr1, rfl⟩ := Z18 ((ByteArray.mk #[42])) (zl) (zp) (z6) (zd) (zh) (z1) (z2) zn zb zu r1 hr1
 refine zc [0] (bv r1.1) [(Zi (Zk.mk zl r1.2 z6 zd zh (Zj.mk z1 z2)) zn zb), (Zq x1 z1r z1c), (Zq (Z8.mk 0 0 0 0 0 ([] : List Z7) ([] : List Z8)) .nl .nl), (Zq (Z8.mk 4 0 (-1) 0 0 ([] : List Z7) ([x1] : List Z8)) .nl .ex)] er1 ?_
 refine za (r1.1) ?_ ?_
 ·exact zk (Z3l (x2) (zp) (zl) (r1.2) (z6) (zd) (zh) (z1) (z2) (x1) ((Z8.mk 0 0 0 0 0 ([] : List Z7) ([] : List Z8))) (4) (0) ((-1)) (0) (0) (([] : List Z7)) (([x1] : List Z8)) zn zb z1r z1c .nl .nl .nl .ex zu rfl rfl rfl rfl)
 ·refine ze ?_
  refine zi fun r2 hr2 => ?_
  obtain ⟨qr2, er2, exr2, rfl⟩ := Z18 ((ByteArray.mk #[43])) (zl) (r1.2) (z6) (zd) (zh) (z1) (z2) zn zb zu r2 hr2
  refine zc [0] (bv r2.1) [(Zi (Zk.mk zl r2.2 z6 zd zh (Zj.mk z1 z2)) zn zb), (Zq x1 z1r z1c), (Zq (Z8.mk 0 0 0 0 0 ([] : List Z7) ([] : List Z8)) .nl .nl), (Zq (Z8.mk 4 0 (-1) 0 0 ([] : List Z7) ([x1] : List Z8)) .nl .ex)] er2 ?_
  refine za (r2.1) ?_ ?_
  ·refine ze ?_
   refine zo (.ptr 3 1) ?_
   refine zt [(Zi (Zk.mk zl r2.2 z6 zd zh (Zj.mk z1 z2)) zn zb), (Zq x1 z1r z1c), (Zq (Z8.mk 0 0 0 0 0 ([] : List Z7) ([] : List Z8)) .nl .nl), (Zq (Z8.mk 4 1 (-1) 0 0 ([] : List Z7) ([x1] : List Z8)) .nl .ex)] ?_
   exact zk (Z3l (x2) (zp) (zl) (r2.2) (z6) (zd) (zh) (z1) (z2) (x1) ((Z8.mk 0 0 0 0 0 ([] : List Z7) ([] : List Z8))) (4) (1) ((-1)) (0) (0) (([] : List Z7)) (([x1] : List Z8)) zn zb z1r z1c .nl .nl .nl .ex zu rfl rfl rfl rfl)
  ·refine ze ?_
   refine zi fun r3 hr3 => ?_
   obtain ⟨qr3, er3, exr3, rfl⟩ := Z18 ((ByteArray.mk #[63])) (zl) (r2.2) (z6) (zd) (zh) (z1) (z2) zn zb zu r3 hr3
   refine zc [0] (bv r3.1) [(Zi (Zk.mk zl r3.2 z6 zd zh (Zj.mk z1 z2)) zn zb), (Zq x1 z1r z1c), (Zq (Z8.mk 0 0 0 0 0 ([] : List Z7) ([] : List Z8)) .nl .nl), (Zq (Z8.mk 4 0 (-1) 0 0 ([] : List Z7) ([x1] : List Z8)) .nl .ex)] er3 ?_
   refine za (r3.1) ?_ ?_
   ·refine ze ?_
    refine zo (.ptr 3 2) ?_
    refine zt [(Zi (Zk.mk zl r3.2 z6 zd zh (Zj.mk z1 z2)) zn zb), (Zq x1 z1r z1c), (Zq (Z8.mk 0 0 0 0 0 ([] : List Z7) ([] : List Z8)) .nl .nl), (Zq (Z8.mk 4 0 1 0 0 ([] : List Z7) ([x1] : List Z8)) .nl .ex)] ?_
    exact zk (Z3l (x2) (zp) (zl) (r3.2) (z6) (zd) (zh) (z1) (z2) (x1) ((Z8.mk 0 0 0 0 0 ([] : List Z7) ([] : List Z8))) (4) (0) (1) (0) (0) (([] : List Z7)) (([x1] : List Z8)) zn zb z1r z1c .nl .nl .nl .ex zu rfl rfl rfl rfl)
   ·refine ze ?_
    refine zi fun r4 hr4 => ?_
    obtain ⟨qr4, er4, exr4, rfl⟩ := Z18 ((ByteArray.mk #[123])) (zl) (r3.2) (z6) (zd) (zh) (z1) (z2) zn zb zu r4 hr4
    refine zc [0] (bv r4.1) [(Zi (Zk.mk zl r4.2 z6 zd zh (Zj.mk z1 z2)) zn zb), (Zq x1 z1r z1c), (Zq (Z8.mk 0 0 0 0 0 ([] : List Z7) ([] : List Z8)) .nl .nl), (Zq (Z8.mk 4 0 (-1) 0 0 ([] : List Z7) ([x1] : List Z8)) .nl .ex)] er4 ?_
    refine za (r4.1) ?_ ?_
    ·refine ze ?_
     refine zi fun r5 hr5 => ?_
     obtain ⟨qr5, er5, exr5, rfl⟩ := Z9I (zp) (zl) (r4.2) (z6) (zd) (zh) (z1) (z2) zn zb zu r5 hr5
     refine zc [0] (.p (.tup [(.v (.int .i64 r5.1)), (.v (.int .i64 r5.2.1))])) [(Zi (Zk.mk zl r5.2.2.1 z6 zd zh (Zj.mk r5.2.2.2.1 r5.2.2.2.2)) zn zb), (Zq x1 z1r z1c), (Zq (Z8.mk 0 0 0 0 0 ([] : List Z7) ([] : List Z8)) .nl .nl), (Zq (Z8.mk 4 0 (-1) 0 0 ([] : List Z7) ([x1] : List Z8)) .nl .ex)] er5 ?_
     refine zo (iv r5.1) ?_
     refine zo (iv r5.2.1) ?_
     refine zo (.ptr 3 1) ?_
     refine zt [(Zi (Zk.mk zl r5.2.2.1 z6 zd zh (Zj.mk r5.2.2.2.1 r5.2.2.2.2)) zn zb), (Zq x1 z1r z1c), (Zq (Z8.mk 0 0 0 0 0 ([] : List Z7) ([] : List Z8)) .nl .nl), (Zq (Z8.mk 4 r5.1 (-1) 0 0 ([] : List Z7) ([x1] : List Z8)) .nl .ex)] ?_
     refine zo (.ptr 3 2) ?_
     refine zt [(Zi (Zk.mk zl r5.2.2.1 z6 zd zh (Zj.mk r5.2.2.2.1 r5.2.2.2.2)) zn zb), (Zq x1 z1r z1c), (Zq (Z8.mk 0 0 0 0 0 ([] : List Z7) ([] : List Z8)) .nl .nl), (Zq (Z8.mk 4 r5.1 r5.2.1 0 0 ([] : List Z7) ([x1] : List Z8)) .nl .ex)] ?_
     exact zk (Z3l (x2) (zp) (zl) (r5.2.2.1) (z6) (zd) (zh) (r5.2.2.2.1) (r5.2.2.2.2) (x1) ((Z8.mk 0 0 0 0 0 ([] : List Z7) ([] : List Z8))) (4) (r5.1) (r5.2.1) (0) (0) (([] : List Z7)) (([x1] : List Z8)) zn zb z1r z1c .nl .nl .nl .ex zu rfl rfl rfl rfl)
    ·refine ze ?_
     refine zo (.p (.agg (ZD x1 (shrO z1r) (shrO z1c)))) ?_
     refine zt [(Zi (Zk.mk zl r4.2 z6 zd zh (Zj.mk z1 z2)) zn zb), (Zq x1 z1r z1c), (Zq x1 (shrO z1r) (shrO z1c)), (Zq (Z8.mk 4 0 (-1) 0 0 ([] : List Z7) ([x1] : List Z8)) .nl .ex)] ?_
     exact zr ((.p (.agg (ZD x1 .sh .sh))), [(Zi (Zk.mk zl r4.2 z6 zd zh (Zj.mk z1 z2)) zn zb), (Zq x1 z1r z1c), (Zq x1 (shrO z1r) (shrO z1c)), (Zq (Z8.mk 4 0 (-1) 0 0 ([] : List Z7) ([x1] : List Z8)) .nl .ex)]) ⟨_, rfl⟩
theorem Z6G (x1 : Z8) (x2 : Bool) (zl : List Int) (zp : Int) (z6 : Int) (zd : Int) (zh : List Zr) (z1 : Int) (z2 : Int) {r} (h : Z3e x1 x2 zl zp z6 zd zh z1 z2 = some r) : Z43 x1 x2 zl zp z6 zd zh z1 z2 = some r :=
 pick_of (fun _ _ ha hb => RRun.uniq (Zaa _ _ _ _ _ _) (ha .ex .ex .ex .ex rfl) (hb .ex .ex .ex .ex rfl)) (fun z1r z1c zn zb zu => Z9t x1 x2 zl zp z6 zd zh z1 z2 z1r z1c zn zb zu r h)
noncomputable def Z5q (x4 : Int) (zp : Int) (z1 : Int) (z2 : Int) : Option (Int × Int × Int × Int × Int) :=
 some (x4, (-1), zp, z1, z2)
theorem Z8C (x4 : Int) (zl : List Int) (zp : Int) (z6 : Int) (zd : Int) (zh : List Zr) (z1 : Int) (z2 : Int) (zn : Own) (zb : Own) (zu : okApp zb = true) : Sim (Z1J zl z6 zd zh zn zb) (Z5q x4 zp z1 z2) (ZdW 1 (iv x4) [(Zi (Zk.mk zl zp z6 zd zh (Zj.mk z1 z2)) zn zb)]) := by
 unfold Z5q
 refine zf (Zfi ..) ?_
 refine ze ?_
 exact zr ((.p (.tup [(.v (.int .i64 x4)), (.v (.int .i64 (-1)))])), [(Zi (Zk.mk zl zp z6 zd zh (Zj.mk z1 z2)) zn zb)]) ⟨_, rfl⟩
noncomputable def Z4b (x4 : Int) (x5 : Int) (zp : Int) (z1 : Int) (z2 : Int) : Option (Int × Int × Int × Int × Int) :=
 some (x4, x5, zp, z1, z2)
theorem Z5J (x4 : Int) (x5 : Int) (zl : List Int) (zp : Int) (z6 : Int) (zd : Int) (zh : List Zr) (z1 : Int) (z2 : Int) (zn : Own) (zb : Own) (zu : okApp zb = true) : Sim (Z1J zl z6 zd zh zn zb) (Z4b x4 x5 zp z1 z2) (ZbP 1 (iv x4) (iv x5) [(Zi (Zk.mk zl zp z6 zd zh (Zj.mk z1 z2)) zn zb)]) := by
 unfold Z4b
 refine zf (ZeY ..) ?_
 refine ze ?_
 exact zr ((.p (.tup [(.v (.int .i64 x4)), (.v (.int .i64 x5))])), [(Zi (Zk.mk zl zp z6 zd zh (Zj.mk z1 z2)) zn zb)]) ⟨_, rfl⟩
noncomputable def Z1Z (x1 : Int) (x4 : Int) (x5 : Int) (zl : List Int) (z1 : Int) (z2 : Int) : Option (Int × Int × Int × Int × Int) :=
 (ZT 23 x1 zl z1 z2).bind fun r1 =>
 Z4b x4 x5 r1.1 r1.2.1 r1.2.2
theorem Z3o (x1 : Int) (x4 : Int) (x5 : Int) (zl : List Int) (zp : Int) (z6 : Int) (zd : Int) (zh : List Zr) (z1 : Int) (z2 : Int) (zn : Own) (zb : Own) (zu : okApp zb = true) : Sim (Z1J zl z6 zd zh zn zb) (Z1Z x1 x4 x5 zl z1 z2) (Z9C 1 (.ptr 0 0) (iv x1) (iv x4) (iv x5) [(Zi (Zk.mk zl zp z6 zd zh (Zj.mk z1 z2)) zn zb)]) := by
 unfold Z1Z
 refine zf (Zf7 ..) ?_
 refine ze ?_
 refine zi fun r1 hr1 => ?_
 obtain ⟨qr1, er1, exr1, rfl⟩ := ZW (23) (x1) (zl) (zp) (z6) (zd) (zh) (z1) (z2) zn zb zu r1 hr1
 refine zc [0] (.p (.tup [])) [(Zi (Zk.mk zl r1.1 z6 zd zh (Zj.mk r1.2.1 r1.2.2)) zn zb)] er1 ?_
 exact zk (Z5J (x4) (x5) (zl) (r1.1) (z6) (zd) (zh) (r1.2.1) (r1.2.2) zn zb zu)
noncomputable def Z1P (x1 : Int) (x4 : Int) (x5 : Int) (zl : List Int) (zp : Int) (z1 : Int) (z2 : Int) : Option (Int × Int × Int × Int × Int) :=
 if ((decide (x4 < 0))) = true then
 (Z1Z x1 x4 x5 zl z1 z2)
 else
 (if ((decide (x5 < x4))) = true then
 (Z1Z x1 x4 x5 zl z1 z2)
 else
 (if ((decide (64 < x5))) = true then
 (Z1Z x1 x4 x5 zl z1 z2)
 else
 ((Z13 ((ByteArray.mk #[125])) zl zp).bind fun r1 =>
 if ((!r1.1)) = true then
 (Z1Z x1 x4 x5 zl z1 z2)
 else
 (Z4b x4 x5 r1.2 z1 z2))))
theorem Z3G (x1 : Int) (x4 : Int) (x5 : Int) (zl : List Int) (zp : Int) (z6 : Int) (zd : Int) (zh : List Zr) (z1 : Int) (z2 : Int) (zn : Own) (zb : Own) (zu : okApp zb = true) : Sim (Z1J zl z6 zd zh zn zb) (Z1P x1 x4 x5 zl zp z1 z2) (ZaJ 1 (.ptr 0 0) (iv x1) (iv x4) (iv x5) [(Zi (Zk.mk zl zp z6 zd zh (Zj.mk z1 z2)) zn zb)]) := by
 unfold Z1P
 refine zf (ZfG ..) ?_
 refine ze ?_
 refine zo (bv (decide (x4 < 0))) ?_
 refine za ((decide (x4 < 0))) ?_ ?_
 ·exact zk (Z3o (x1) (x4) (x5) (zl) (zp) (z6) (zd) (zh) (z1) (z2) zn zb zu)
 ·refine zo (bv (decide (x5 < x4))) ?_
  refine za ((decide (x5 < x4))) ?_ ?_
  ·exact zk (Z3o (x1) (x4) (x5) (zl) (zp) (z6) (zd) (zh) (z1) (z2) zn zb zu)
  ·refine zo (bv (decide (64 < x5))) ?_
   refine za ((decide (64 < x5))) ?_ ?_
   ·exact zk (Z3o (x1) (x4) (x5) (zl) (zp) (z6) (zd) (zh) (z1) (z2) zn zb zu)
   ·refine zi fun r1 hr1 => ?_
    obtain ⟨qr1, er1, exr1, rfl⟩ := Z18 ((ByteArray.mk #[125])) (zl) (zp) (z6) (zd) (zh) (z1) (z2) zn zb zu r1 hr1
    refine zc [0] (bv r1.1) [(Zi (Zk.mk zl r1.2 z6 zd zh (Zj.mk z1 z2)) zn zb)] er1 ?_
    refine zo (bv (!r1.1)) ?_
    refine za ((!r1.1)) ?_ ?_
    ·exact zk (Z3o (x1) (x4) (x5) (zl) (r1.2) (z6) (zd) (zh) (z1) (z2) zn zb zu)
    ·exact zk (Z5J (x4) (x5) (zl) (r1.2) (z6) (zd) (zh) (z1) (z2) zn zb zu)
noncomputable def Z2R (x1 : Int) (x4 : Int) (zl : List Int) (zp : Int) (z1 : Int) (z2 : Int) : Option (Int × Int × Int × Int × Int) :=
 Z1P x1 x4 ((-2)) zl zp z1 z2
theorem Z67 (x1 : Int) (x4 : Int) (zl : List Int) (zp : Int) (z6 : Int) (zd : Int) (zh : List Zr) (z1 : Int) (z2 : Int) (zn : Own) (zb : Own) (zu : okApp zb = true) : Sim (Z1J zl z6 zd zh zn zb) (Z2R x1 x4 zl zp z1 z2) (Zcp 1 (.ptr 0 0) (iv x1) (iv x4) [(Zi (Zk.mk zl zp z6 zd zh (Zj.mk z1 z2)) zn zb)]) := by
 unfold Z2R
 refine zf (Zgh ..) ?_
 refine ze ?_
 exact zk (Z3G (x1) (x4) ((-2)) (zl) (zp) (z6) (zd) (zh) (z1) (z2) zn zb zu)
noncomputable def Z4t (x1 : Int) (x4 : Int) (zl : List Int) (zp : Int) (z1 : Int) (z2 : Int) : Option (Int × Int × Int × Int × Int) :=
 (Z13 ((ByteArray.mk #[125])) zl zp).bind fun r1 =>
 if (r1.1) = true then
 (if ((decide (x4 ≤ 64))) = true then
 (Z5q x4 r1.2 z1 z2)
 else
 (Z2R x1 x4 zl r1.2 z1 z2))
 else
 (Z2R x1 x4 zl r1.2 z1 z2)
theorem Z8v (x1 : Int) (x4 : Int) (zl : List Int) (zp : Int) (z6 : Int) (zd : Int) (zh : List Zr) (z1 : Int) (z2 : Int) (zn : Own) (zb : Own) (zu : okApp zb = true) : Sim (Z1J zl z6 zd zh zn zb) (Z4t x1 x4 zl zp z1 z2) (ZdX 1 (.ptr 0 0) (iv x1) (iv x4) [(Zi (Zk.mk zl zp z6 zd zh (Zj.mk z1 z2)) zn zb)]) := by
 unfold Z4t
 refine zf (ZfV ..) ?_
 refine ze ?_
 refine zi fun r1 hr1 => ?_
 obtain ⟨qr1, er1, exr1, rfl⟩ := Z18 ((ByteArray.mk #[125])) (zl) (zp) (z6) (zd) (zh) (z1) (z2) zn zb zu r1 hr1
 refine zc [0] (bv r1.1) [(Zi (Zk.mk zl r1.2 z6 zd zh (Zj.mk z1 z2)) zn zb)] er1 ?_
 refine za (r1.1) ?_ ?_
 ·refine zo (bv (decide (x4 ≤ 64))) ?_
  refine za ((decide (x4 ≤ 64))) ?_ ?_
  ·exact zk (Z8C (x4) (zl) (r1.2) (z6) (zd) (zh) (z1) (z2) zn zb zu)
  ·exact zk (Z67 (x1) (x4) (zl) (r1.2) (z6) (zd) (zh) (z1) (z2) zn zb zu)
 ·exact zk (Z67 (x1) (x4) (zl) (r1.2) (z6) (zd) (zh) (z1) (z2) zn zb zu)
noncomputable def Z49 (x1 : Int) (zl : List Int) (zp : Int) (z6 : Int) (zd : Int) (zh : List Zr) (z1 : Int) (z2 : Int) : Option (Int × Int × Int × Int × Int) :=
 (Z3f zl zp z6 zd zh z1 z2).bind fun r1 =>
 (Z13 ((ByteArray.mk #[44])) zl r1.2).bind fun r2 =>
 if (r2.1) = true then
 ((Z3f zl r2.2 z6 zd zh z1 z2).bind fun r3 =>
 if ((decide (r3.1 < 0))) = true then
 (if ((decide (0 ≤ r1.1))) = true then
 (Z4t x1 r1.1 zl r3.2 z1 z2)
 else
 (Z1P x1 r1.1 r3.1 zl r3.2 z1 z2))
 else
 (Z1P x1 r1.1 r3.1 zl r3.2 z1 z2))
 else
 (Z1P x1 r1.1 r1.1 zl r2.2 z1 z2)
theorem Z9m (x1 : Int) (zl : List Int) (zp : Int) (z6 : Int) (zd : Int) (zh : List Zr) (z1 : Int) (z2 : Int) (zn : Own) (zb : Own) (zu : okApp zb = true) : Sim (Z1J zl z6 zd zh zn zb) (Z49 x1 zl zp z6 zd zh z1 z2) (EE 52 [(.ptr 0 0), (iv x1)] [(Zi (Zk.mk zl zp z6 zd zh (Zj.mk z1 z2)) zn zb)]) := by
 unfold Z49
 refine zf (Zhl ..) ?_
 refine ze ?_
 refine ze ?_
 refine zi fun r1 hr1 => ?_
 obtain ⟨qr1, er1, exr1, rfl⟩ := Z6x (zl) (zp) (z6) (zd) (zh) (z1) (z2) zn zb zu r1 hr1
 refine zc [0] (iv r1.1) [(Zi (Zk.mk zl r1.2 z6 zd zh (Zj.mk z1 z2)) zn zb)] er1 ?_
 refine ze ?_
 refine ze ?_
 refine zi fun r2 hr2 => ?_
 obtain ⟨qr2, er2, exr2, rfl⟩ := Z18 ((ByteArray.mk #[44])) (zl) (r1.2) (z6) (zd) (zh) (z1) (z2) zn zb zu r2 hr2
 refine zc [0] (bv r2.1) [(Zi (Zk.mk zl r2.2 z6 zd zh (Zj.mk z1 z2)) zn zb)] er2 ?_
 refine za (r2.1) ?_ ?_
 ·refine ze ?_
  refine zi fun r3 hr3 => ?_
  obtain ⟨qr3, er3, exr3, rfl⟩ := Z6x (zl) (r2.2) (z6) (zd) (zh) (z1) (z2) zn zb zu r3 hr3
  refine zc [0] (iv r3.1) [(Zi (Zk.mk zl r3.2 z6 zd zh (Zj.mk z1 z2)) zn zb)] er3 ?_
  refine ze ?_
  refine zo (bv (decide (r3.1 < 0))) ?_
  refine za ((decide (r3.1 < 0))) ?_ ?_
  ·refine zo (bv (decide (0 ≤ r1.1))) ?_
   refine za ((decide (0 ≤ r1.1))) ?_ ?_
   ·exact zk (Z8v (x1) (r1.1) (zl) (r3.2) (z6) (zd) (zh) (z1) (z2) zn zb zu)
   ·exact zk (Z3G (x1) (r1.1) (r3.1) (zl) (r3.2) (z6) (zd) (zh) (z1) (z2) zn zb zu)
  ·exact zk (Z3G (x1) (r1.1) (r3.1) (zl) (r3.2) (z6) (zd) (zh) (z1) (z2) zn zb zu)
 ·exact zk (Z3G (x1) (r1.1) (r1.1) (zl) (r2.2) (z6) (zd) (zh) (z1) (z2) zn zb zu)
theorem Z6y (x1 : Int) (zl : List Int) (zp : Int) (z6 : Int) (zd : Int) (zh : List Zr) (z1 : Int) (z2 : Int) {r} (h : Z49 x1 zl zp z6 zd zh z1 z2 = some r) : Z3Z x1 zl zp z6 zd zh z1 z2 = some r :=
 pick_of (fun _ _ ha hb => RRun.uniq (Z9V _ _ _ _ _ _) (ha .ex .ex rfl) (hb .ex .ex rfl)) (fun zn zb zu => Z9m x1 zl zp z6 zd zh z1 z2 zn zb zu r h)
noncomputable def Z5S (zl : List Int) (zp : Int) (z6 : Int) (zd : Int) (zh : List Zr) (z1 : Int) (z2 : Int) : Option (Int × Int) :=
 Z2p ((-1)) 0 zl zp z6 zd zh z1 z2
theorem Z9z (zl : List Int) (zp : Int) (z6 : Int) (zd : Int) (zh : List Zr) (z1 : Int) (z2 : Int) (zn : Own) (zb : Own) (zu : okApp zb = true) : Sim (Z1V zl z6 zd zh z1 z2 zn zb) (Z5S zl zp z6 zd zh z1 z2) (EE 63 [(.ptr 0 0)] [(Zi (Zk.mk zl zp z6 zd zh (Zj.mk z1 z2)) zn zb)]) := by
 unfold Z5S
 refine zf (Zh5 ..) ?_
 refine ze ?_
 refine ze ?_
 refine ze ?_
 exact zk (Z68 ((-1)) (0) (zl) (zp) (z6) (zd) (zh) (z1) (z2) zn zb zu)
theorem Z9O (zl : List Int) (zp : Int) (z6 : Int) (zd : Int) (zh : List Zr) (z1 : Int) (z2 : Int) {r} (h : Z5S zl zp z6 zd zh z1 z2 = some r) : Z3f zl zp z6 zd zh z1 z2 = some r :=
 pick_of (fun _ _ ha hb => RRun.uniq (Z7d _ _ _ _ _ _ _ _) (ha .ex .ex rfl) (hb .ex .ex rfl)) (fun zn zb zu => Z9z zl zp z6 zd zh z1 z2 zn zb zu r h)
noncomputable def Z4j (x3 : Int) (x4 : Int) (zl : List Int) (zp : Int) (z6 : Int) (zd : Int) (zh : List Zr) (z1 : Int) (z2 : Int) : Option (Int × Int) :=
 (Z1W zl zp).bind fun r1 =>
 Z2p ((IntKind.i64.wrap ((IntKind.i64.wrap ((IntKind.i64.wrap (10 * (max x3 0))) + r1.1)) - 48))) ((IntKind.i64.wrap (x4 + 1))) zl r1.2 z6 zd zh z1 z2
theorem Z8x (x3 : Int) (x4 : Int) (zl : List Int) (zp : Int) (z6 : Int) (zd : Int) (zh : List Zr) (z1 : Int) (z2 : Int) (zn : Own) (zb : Own) (zu : okApp zb = true) : Sim (Z1V zl z6 zd zh z1 z2 zn zb) (Z4j x3 x4 zl zp z6 zd zh z1 z2) (Zdt 1 (.ptr 0 0) (iv x3) (iv x4) [(Zi (Zk.mk zl zp z6 zd zh (Zj.mk z1 z2)) zn zb)]) := by
 unfold Z4j
 refine zf (Zfx ..) ?_
 refine ze ?_
 refine zo (iv (max x3 0)) ?_ (xminmax2_max _ _)
 refine zo (iv (IntKind.i64.wrap (10 * (max x3 0)))) ?_
 refine zi fun r1 hr1 => ?_
 obtain ⟨qr1, er1, exr1, rfl⟩ := Z2g (zl) (zp) (z6) (zd) (zh) (z1) (z2) zn zb zu r1 hr1
 refine zc [0] (iv r1.1) [(Zi (Zk.mk zl r1.2 z6 zd zh (Zj.mk z1 z2)) zn zb)] er1 ?_
 refine zo (iv (IntKind.i64.wrap ((IntKind.i64.wrap (10 * (max x3 0))) + r1.1))) ?_
 refine zo (iv (IntKind.i64.wrap ((IntKind.i64.wrap ((IntKind.i64.wrap (10 * (max x3 0))) + r1.1)) - 48))) ?_
 refine ze ?_
 refine zo (iv (IntKind.i64.wrap (x4 + 1))) ?_
 exact zk (Z68 ((IntKind.i64.wrap ((IntKind.i64.wrap ((IntKind.i64.wrap (10 * (max x3 0))) + r1.1)) - 48))) ((IntKind.i64.wrap (x4 + 1))) (zl) (r1.2) (z6) (zd) (zh) (z1) (z2) zn zb zu)
noncomputable def Z2Q (x3 : Int) (zp : Int) : Option (Int × Int) :=
 some (x3, zp)
theorem Z4G (x3 : Int) (zl : List Int) (zp : Int) (z6 : Int) (zd : Int) (zh : List Zr) (z1 : Int) (z2 : Int) (zn : Own) (zb : Own) (zu : okApp zb = true) : Sim (Z1V zl z6 zd zh z1 z2 zn zb) (Z2Q x3 zp) (Zbw 1 (iv x3) [(Zi (Zk.mk zl zp z6 zd zh (Zj.mk z1 z2)) zn zb)]) := by
 unfold Z2Q
 refine zf (Zgr ..) ?_
 refine ze ?_
 exact zr ((iv x3), [(Zi (Zk.mk zl zp z6 zd zh (Zj.mk z1 z2)) zn zb)]) ⟨_, rfl⟩
noncomputable def Z4n (x3 : Int) (x4 : Int) (zl : List Int) (zp : Int) (z6 : Int) (zd : Int) (zh : List Zr) (z1 : Int) (z2 : Int) : Option (Int × Int) :=
 if ((decide (x4 < 2))) = true then
 ((Z1C ((Zk.mk zl zp z6 zd zh (Zj.mk z1 z2)))).bind fun r1 =>
 if ((decide (48 ≤ r1))) = true then
 ((Z1C ((Zk.mk zl zp z6 zd zh (Zj.mk z1 z2)))).bind fun r2 =>
 if ((decide (r2 ≤ 57))) = true then
 (Z4j x3 x4 zl zp z6 zd zh z1 z2)
 else
 (Z2Q x3 zp))
 else
 (Z2Q x3 zp))
 else
 (Z2Q x3 zp)
theorem Z8F (x3 : Int) (x4 : Int) (zl : List Int) (zp : Int) (z6 : Int) (zd : Int) (zh : List Zr) (z1 : Int) (z2 : Int) (zn : Own) (zb : Own) (zu : okApp zb = true) : Sim (Z1V zl z6 zd zh z1 z2 zn zb) (Z4n x3 x4 zl zp z6 zd zh z1 z2) (Zb7 1 (.ptr 0 0) (iv x3) (iv x4) [(Zi (Zk.mk zl zp z6 zd zh (Zj.mk z1 z2)) zn zb)]) := by
 unfold Z4n
 refine zf (ZfQ ..) ?_
 refine ze ?_
 refine zo (bv (decide (x4 < 2))) ?_
 refine za ((decide (x4 < 2))) ?_ ?_
 ·refine zi fun r1 hr1 => ?_
  obtain ⟨qr1, er1, exr1, rfl⟩ := Z1F ((Zk.mk zl zp z6 zd zh (Zj.mk z1 z2))) zn zb zu r1 hr1
  refine zc [0] (iv r1) [(Zi (Zk.mk zl zp z6 zd zh (Zj.mk z1 z2)) zn zb)] er1 ?_
  refine zo (bv (decide (48 ≤ r1))) ?_
  refine za ((decide (48 ≤ r1))) ?_ ?_
  ·refine zi fun r2 hr2 => ?_
   obtain ⟨qr2, er2, exr2, rfl⟩ := Z1F ((Zk.mk zl zp z6 zd zh (Zj.mk z1 z2))) zn zb zu r2 hr2
   refine zc [0] (iv r2) [(Zi (Zk.mk zl zp z6 zd zh (Zj.mk z1 z2)) zn zb)] er2 ?_
   refine zo (bv (decide (r2 ≤ 57))) ?_
   refine za ((decide (r2 ≤ 57))) ?_ ?_
   ·exact zk (Z8x (x3) (x4) (zl) (zp) (z6) (zd) (zh) (z1) (z2) zn zb zu)
   ·exact zk (Z4G (x3) (zl) (zp) (z6) (zd) (zh) (z1) (z2) zn zb zu)
  ·exact zk (Z4G (x3) (zl) (zp) (z6) (zd) (zh) (z1) (z2) zn zb zu)
 ·exact zk (Z4G (x3) (zl) (zp) (z6) (zd) (zh) (z1) (z2) zn zb zu)
theorem Z8T (x3 : Int) (x4 : Int) (zl : List Int) (zp : Int) (z6 : Int) (zd : Int) (zh : List Zr) (z1 : Int) (z2 : Int) {r} (h : Z4n x3 x4 zl zp z6 zd zh z1 z2 = some r) : Z2p x3 x4 zl zp z6 zd zh z1 z2 = some r :=
 pick_of (fun _ _ ha hb => RRun.uniq (Z7d _ _ _ _ _ _ _ _) (ha .ex .ex rfl) (hb .ex .ex rfl)) (fun zn zb zu => Z8F x3 x4 zl zp z6 zd zh z1 z2 zn zb zu r h)
noncomputable def Z1G  : Option (Bool) :=
 some (false)
theorem Z1R  : Sim (Z1o) (Z1G) (Z85 0  []) := by
 unfold Z1G
 refine zf (ZfW ..) ?_
 refine ze ?_
 exact zr ((bv false), []) ⟨_, rfl⟩
noncomputable def Z3T (b0 : Z8) (b1 : Z8) : Option (Bool) :=
 Z2Y b0.Kids ((b0.Kids.length : Int)) 0 b1
theorem Z8d (b0 : Z8) (b1 : Z8) (z2c : Own) (z1I : Own) (zB : Own) (zy : Own) : Sim (Z1o) (Z3T b0 b1) (Zej 0 (.ptr 0 0) (.ptr 1 0) [(Zq b0 z2c z1I), (Zq b1 zB zy)]) := by
 unfold Z3T
 refine zf (Zgy ..) ?_
 refine ze ?_
 refine zo (.ptr 0 6) ?_
 refine zo (.p (.lst (shrO z1I) (b0.Kids.map ZI))) ?_
 refine zo (iv (b0.Kids.length : Int)) ?_ (Eq.trans (by kernel_rfl) (xlen_of (P := PP) (t := 25) (d := 27) (by kernel_rfl) ZI (shrO z1I) b0.Kids))
 exact zk (Z5K (b0.Kids) ((b0.Kids.length : Int)) (0) (b0) (b1) (shrO z1I) z2c z1I zB zy)
noncomputable def Z4x (x0 : Z8) (x1 : Z8) : Option (Bool) :=
 if ((x0.Kind != x1.Kind)) = true then
 (Z1G)
 else
 (if ((x0.Lo != x1.Lo)) = true then
 (Z1G)
 else
 (if ((x0.Hi != x1.Hi)) = true then
 (Z1G)
 else
 (if ((x0.Mode != x1.Mode)) = true then
 (Z1G)
 else
 (if ((x0.Ref != x1.Ref)) = true then
 (Z1G)
 else
 (if (((x0.Kids.length : Int) != (x1.Kids.length : Int))) = true then
 (Z1G)
 else
 ((Z4O x0.Set x1.Set).bind fun r1 =>
 if ((!r1)) = true then
 (Z1G)
 else
 (Z3T x0 x1)))))))
theorem Z8S (x0 : Z8) (x1 : Z8) (z5l : Own) (z4o : Own) (z1r : Own) (z1c : Own) : Sim (Z1o) (Z4x x0 x1) (EE 17 [(.p (.agg (ZD x0 z5l z4o))), (.p (.agg (ZD x1 z1r z1c)))] []) := by
 unfold Z4x
 refine zf (ZhQ ..) ?_
 refine ze ?_
 refine zx (.ptr 0 0) [(Zq x0 z5l z4o)] ?_
 refine zx (.ptr 1 0) [(Zq x0 z5l z4o), (Zq x1 z1r z1c)] ?_
 refine ze ?_
 refine zo (.ptr 0 0) ?_
 refine zo (iv x0.Kind) ?_
 refine zo (.ptr 1 0) ?_
 refine zo (iv x1.Kind) ?_
 refine zo (bv (x0.Kind != x1.Kind)) ?_
 refine za ((x0.Kind != x1.Kind)) ?_ ?_
 ·exact zk (Z1R )
 ·refine zo (.ptr 0 1) ?_
  refine zo (iv x0.Lo) ?_
  refine zo (.ptr 1 1) ?_
  refine zo (iv x1.Lo) ?_
  refine zo (bv (x0.Lo != x1.Lo)) ?_
  refine za ((x0.Lo != x1.Lo)) ?_ ?_
  ·exact zk (Z1R )
  ·refine zo (.ptr 0 2) ?_
   refine zo (iv x0.Hi) ?_
   refine zo (.ptr 1 2) ?_
   refine zo (iv x1.Hi) ?_
   refine zo (bv (x0.Hi != x1.Hi)) ?_
   refine za ((x0.Hi != x1.Hi)) ?_ ?_
   ·exact zk (Z1R )
   ·refine zo (.ptr 0 3) ?_
    refine zo (iv x0.Mode) ?_
    refine zo (.ptr 1 3) ?_
    refine zo (iv x1.Mode) ?_
    refine zo (bv (x0.Mode != x1.Mode)) ?_
    refine za ((x0.Mode != x1.Mode)) ?_ ?_
    ·exact zk (Z1R )
    ·refine zo (.ptr 0 4) ?_
     refine zo (iv x0.Ref) ?_
     refine zo (.ptr 1 4) ?_
     refine zo (iv x1.Ref) ?_
     refine zo (bv (x0.Ref != x1.Ref)) ?_
     refine za ((x0.Ref != x1.Ref)) ?_ ?_
     ·exact zk (Z1R )
     ·refine zo (.ptr 0 6) ?_
      refine zo (.p (.lst (shrO z4o) (x0.Kids.map ZI))) ?_
      refine zo (iv (x0.Kids.length : Int)) ?_ (Eq.trans (by kernel_rfl) (xlen_of (P := PP) (t := 25) (d := 27) (by kernel_rfl) ZI (shrO z4o) x0.Kids))
      refine zo (.ptr 1 6) ?_
      refine zo (.p (.lst (shrO z1c) (x1.Kids.map ZI))) ?_
      refine zo (iv (x1.Kids.length : Int)) ?_ (Eq.trans (by kernel_rfl) (xlen_of (P := PP) (t := 25) (d := 27) (by kernel_rfl) ZI (shrO z1c) x1.Kids))
      refine zo (bv ((x0.Kids.length : Int) != (x1.Kids.length : Int))) ?_
      refine za (((x0.Kids.length : Int) != (x1.Kids.length : Int))) ?_ ?_
      ·exact zk (Z1R )
      ·refine zo (.ptr 0 5) ?_
       refine zo (.p (.lst (shrO z5l) (x0.Set.map Zs))) ?_
       refine zo (.ptr 1 5) ?_
       refine zo (.p (.lst (shrO z1r) (x1.Set.map Zs))) ?_
       refine zi fun r1 hr1 => ?_
       obtain ⟨qr1, er1, exr1, rfl⟩ := Z9l (x0.Set) (x1.Set) .sh .sh r1 hr1
       refine zc [] (bv r1) [(Zq x0 z5l z4o), (Zq x1 z1r z1c)] er1 ?_
       refine zo (bv (!r1)) ?_
       refine za ((!r1)) ?_ ?_
       ·exact zk (Z1R )
       ·exact zk (Z8d (x0) (x1) z5l z4o z1r z1c)
theorem Z9a (x0 : Z8) (x1 : Z8) {r} (h : Z4x x0 x1 = some r) : Z2D x0 x1 = some r :=
 pick_of (fun _ _ ha hb => RRun.uniq (Z6o) (ha .ex .ex .ex .ex) (hb .ex .ex .ex .ex)) (fun z5l z4o z1r z1c => Z8S x0 x1 z5l z4o z1r z1c r h)
noncomputable def Z3R (x58 : List Z8) (x59 : Int) (x60 : Int) (b1 : Z8) : Option (Bool) :=
 Z2Y x58 x59 ((IntKind.i64.wrap (x60 + 1))) b1
theorem Z8e (x58 : List Z8) (x59 : Int) (x60 : Int) (b0 : Z8) (b1 : Z8) (ox58 : Own) (z2c : Own) (z1I : Own) (zB : Own) (zy : Own) : Sim (Z1o) (Z3R x58 x59 x60 b1) (Ze7 0 (.ptr 1 0) (.p (.lst ox58 (x58.map ZI))) (iv x59) (iv x60) [(Zq b0 z2c z1I), (Zq b1 zB zy)]) := by
 unfold Z3R
 refine zf (ZfE ..) ?_
 refine ze ?_
 refine zo (iv (IntKind.i64.wrap (x60 + 1))) ?_
 exact zk (Z5K (x58) (x59) ((IntKind.i64.wrap (x60 + 1))) (b0) (b1) ox58 z2c z1I zB zy)
noncomputable def Z3Q (x58 : List Z8) (x59 : Int) (x60 : Int) (b1 : Z8) : Option (Bool) :=
 (lget x58 x60).bind fun a1 =>
 (lget b1.Kids x60).bind fun a2 =>
 (Z2D a1 a2).bind fun r3 =>
 if ((!r3)) = true then
 (some (false))
 else
 (Z3R x58 x59 x60 b1)
theorem Z87 (x58 : List Z8) (x59 : Int) (x60 : Int) (b0 : Z8) (b1 : Z8) (ox58 : Own) (z2c : Own) (z1I : Own) (zB : Own) (zy : Own) : Sim (Z1o) (Z3Q x58 x59 x60 b1) (ZdK 0 (.ptr 1 0) (.p (.lst ox58 (x58.map ZI))) (iv x59) (iv x60) [(Zq b0 z2c z1I), (Zq b1 zB zy)]) := by
 unfold Z3Q
 refine zf (Zfh ..) ?_
 refine ze ?_
 refine zi fun a1 ha1 => ?_
 refine zo (.cptr (ZD a1 .sh .sh)) ?_ (Eq.trans (by kernel_rfl) (xidx_of (o := ox58) (k := .i64) (n := 7) (e := ZI) (cs := Z2l) Z5T (fun _ => rfl) (by decide) ha1))
 refine zo (.p (.agg (ZD a1 .sh .sh))) ?_
 refine zz (.ptr 2 0) [(Zq b0 z2c z1I), (Zq b1 zB zy), (Zq (Z8.mk 0 0 0 0 0 ([] : List Z7) ([] : List Z8)) .nl .nl)] ?_
 refine zt [(Zq b0 z2c z1I), (Zq b1 zB zy), (Zq a1 .sh .sh)] ?_
 refine ze ?_
 refine zo (.p (.agg (ZD a1 .sh .sh))) ?_
 refine zo (.ptr 1 6) ?_
 refine zo (.p (.lst (shrO zy) (b1.Kids.map ZI))) ?_
 refine zi fun a2 ha2 => ?_
 refine zo (.cptr (ZD a2 .sh .sh)) ?_ (Eq.trans (by kernel_rfl) (xidx_of (o := (shrO zy)) (k := .i64) (n := 7) (e := ZI) (cs := Z2l) Z5T (fun _ => rfl) (by decide) ha2))
 refine zo (.p (.agg (ZD a2 .sh .sh))) ?_
 refine zi fun r3 hr3 => ?_
 obtain ⟨qr3, er3, exr3, rfl⟩ := Z6f (a1) (a2) .sh .sh .sh .sh r3 hr3
 refine zc [] (bv r3) [(Zq b0 z2c z1I), (Zq b1 zB zy), (Zq a1 .sh .sh)] er3 ?_
 refine zo (bv (!r3)) ?_
 refine za ((!r3)) ?_ ?_
 ·refine ze ?_
  exact zr ((bv false), [(Zq b0 z2c z1I), (Zq b1 zB zy), (Zq a1 .sh .sh)]) ⟨_, rfl⟩
 ·exact zk (Z8e (x58) (x59) (x60) (b0) (b1) ox58 z2c z1I zB zy)
noncomputable def Z56  : Option (Bool) :=
 some (true)
theorem Z8h  : Sim (Z1o) (Z56) (Zde 0  []) := by
 unfold Z56
 refine zf (Zgz ..) ?_
 refine ze ?_
 exact zr ((bv true), []) ⟨_, rfl⟩
noncomputable def Z2Z (x58 : List Z8) (x59 : Int) (x60 : Int) (b1 : Z8) : Option (Bool) :=
 if ((decide (x60 < x59))) = true then
 (Z3Q x58 x59 x60 b1)
 else
 (Z56)
theorem Z8f (x58 : List Z8) (x59 : Int) (x60 : Int) (b0 : Z8) (b1 : Z8) (ox58 : Own) (z2c : Own) (z1I : Own) (zB : Own) (zy : Own) : Sim (Z1o) (Z2Z x58 x59 x60 b1) (ZaO 0 (.ptr 1 0) (.p (.lst ox58 (x58.map ZI))) (iv x59) (iv x60) [(Zq b0 z2c z1I), (Zq b1 zB zy)]) := by
 unfold Z2Z
 refine zf (Zfw ..) ?_
 refine ze ?_
 refine zo (bv (decide (x60 < x59))) ?_
 refine za ((decide (x60 < x59))) ?_ ?_
 ·exact zk (Z87 (x58) (x59) (x60) (b0) (b1) ox58 z2c z1I zB zy)
 ·exact zk (Z8h )
theorem Z5L (x58 : List Z8) (x59 : Int) (x60 : Int) (b1 : Z8) {r} (h : Z2Z x58 x59 x60 b1 = some r) : Z2Y x58 x59 x60 b1 = some r :=
 pick_of (fun _ _ ha hb => RRun.uniq (Z6o) (ha default .ex .ex .ex .ex .ex) (hb default .ex .ex .ex .ex .ex)) (fun b0 ox58 z2c z1I zB zy => Z8f x58 x59 x60 b0 b1 ox58 z2c z1I zB zy r h)
end Go.Proofs.YtadodmjdkphddaaDoor.N2
end
section
set_option linter.unusedSimpArgs false
set_option linter.unusedVariables false
namespace Go.Proofs.YtadodmjdkphddaaDoor.N2
open Go Go.Abs
set_option linter.unusedVariables false
set_option maxRecDepth 100000
noncomputable def Z4a (x0 : List Z7) (x1 : List Z7) : Option (Bool) :=
 Z3c x1 x0 ((x0.length : Int)) 0
theorem Z8p (x0 : List Z7) (x1 : List Z7) (ox0 : Own) (ox1 : Own) : Sim (Z1z) (Z4a x0 x1) (ZdB 0 (.p (.lst ox0 (x0.map Zs))) (.p (.lst ox1 (x1.map Zs))) []) := by
 unfold Z4a
 refine zf (Zfm ..) ?_
 refine ze ?_
 refine zo (iv (x0.length : Int)) ?_ (Eq.trans (by kernel_rfl) (xlen_of (P := PP) (t := 24) (d := 39) (by kernel_rfl) Zs (shrO ox0) x0))
 exact zk (Z62 (x1) (x0) ((x0.length : Int)) (0) ox1 (shrO ox0))
noncomputable def Z4P (x0 : List Z7) (x1 : List Z7) : Option (Bool) :=
 if (((x0.length : Int) != (x1.length : Int))) = true then
 (some (false))
 else
 (Z4a x0 x1)
theorem Z95 (x0 : List Z7) (x1 : List Z7) (ox0 : Own) (ox1 : Own) : Sim (Z1z) (Z4P x0 x1) (EE 22 [(.p (.lst ox0 (x0.map Zs))), (.p (.lst ox1 (x1.map Zs)))] []) := by
 unfold Z4P
 refine zf (Zhc ..) ?_
 refine ze ?_
 refine ze ?_
 refine zo (iv (x0.length : Int)) ?_ (Eq.trans (by kernel_rfl) (xlen_of (P := PP) (t := 24) (d := 39) (by kernel_rfl) Zs (shrO ox0) x0))
 refine zo (iv (x1.length : Int)) ?_ (Eq.trans (by kernel_rfl) (xlen_of (P := PP) (t := 24) (d := 39) (by kernel_rfl) Zs (shrO ox1) x1))
 refine zo (bv ((x0.length : Int) != (x1.length : Int))) ?_
 refine za (((x0.length : Int) != (x1.length : Int))) ?_ ?_
 ·refine ze ?_
  exact zr ((bv false), []) ⟨_, rfl⟩
 ·exact zk (Z8p (x0) (x1) ox0 ox1)
theorem Z9u (x0 : List Z7) (x1 : List Z7) {r} (h : Z4P x0 x1 = some r) : Z4O x0 x1 = some r :=
 pick_of (fun _ _ ha hb => RRun.uniq (Z6H) (ha .ex .ex) (hb .ex .ex)) (fun ox0 ox1 => Z95 x0 x1 ox0 ox1 r h)
noncomputable def Z4e (x1 : List Z7) (x12 : List Z7) (x13 : Int) (x14 : Int) : Option (Bool) :=
 Z3c x1 x12 x13 ((IntKind.i64.wrap (x14 + 1)))
theorem Z8n (x1 : List Z7) (x12 : List Z7) (x13 : Int) (x14 : Int) (ox1 : Own) (ox12 : Own) : Sim (Z1z) (Z4e x1 x12 x13 x14) (Zdj 0 (.p (.lst ox1 (x1.map Zs))) (.p (.lst ox12 (x12.map Zs))) (iv x13) (iv x14) []) := by
 unfold Z4e
 refine zf (Zgd ..) ?_
 refine ze ?_
 refine zo (iv (IntKind.i64.wrap (x14 + 1))) ?_
 exact zk (Z62 (x1) (x12) (x13) ((IntKind.i64.wrap (x14 + 1))) ox1 ox12)
noncomputable def Z4f (x1 : List Z7) (x12 : List Z7) (x13 : Int) (x14 : Int) : Option (Bool) :=
 (lget x12 x14).bind fun a1 =>
 (lget x1 x14).bind fun a2 =>
 if ((!((a1.Lo == a2.Lo) && ((a1.Hi == a2.Hi) && true)))) = true then
 (some (false))
 else
 (Z4e x1 x12 x13 x14)
theorem Z8i (x1 : List Z7) (x12 : List Z7) (x13 : Int) (x14 : Int) (ox1 : Own) (ox12 : Own) : Sim (Z1z) (Z4f x1 x12 x13 x14) (Zec 0 (.p (.lst ox1 (x1.map Zs))) (.p (.lst ox12 (x12.map Zs))) (iv x13) (iv x14) []) := by
 unfold Z4f
 refine zf (Zfs ..) ?_
 refine ze ?_
 refine zi fun a1 ha1 => ?_
 refine zo (.cptr (ZF a1)) ?_ (Eq.trans (by kernel_rfl) (xidx_of (o := ox12) (k := .i64) (n := 2) (e := Zs) (cs := Z3w) (fun _ => rfl) (fun _ => rfl) (by decide) ha1))
 refine zo (.p (.agg (ZF a1))) ?_
 refine zz (.ptr 0 0) [(Z1i (Z7.mk 0 0))] ?_
 refine zt [(Z1i a1)] ?_
 refine ze ?_
 refine zo (.p (.agg (ZF a1))) ?_
 refine zi fun a2 ha2 => ?_
 refine zo (.cptr (ZF a2)) ?_ (Eq.trans (by kernel_rfl) (xidx_of (o := (shrO ox1)) (k := .i64) (n := 2) (e := Zs) (cs := Z3w) (fun _ => rfl) (fun _ => rfl) (by decide) ha2))
 refine zo (.p (.agg (ZF a2))) ?_
 refine zo (bv (!((a1.Lo == a2.Lo) && ((a1.Hi == a2.Hi) && true)))) ?_ (Eq.trans (b := xbin PP .neq 39 (.p (.agg (ZF a1))) (.p (.agg (ZF a2)))) (by kernel_rfl) (xeq_neq (by kernel_rfl) (by kernel_rfl) (by kernel_rfl) (by kernel_rfl) (by kernel_rfl)))
 refine za ((!((a1.Lo == a2.Lo) && ((a1.Hi == a2.Hi) && true)))) ?_ ?_
 ·refine ze ?_
  exact zr ((bv false), [(Z1i a1)]) ⟨_, rfl⟩
 ·exact zk (Z8n (x1) (x12) (x13) (x14) ox1 ox12)
noncomputable def Z5h  : Option (Bool) :=
 some (true)
theorem Z8q  : Sim (Z1z) (Z5h) (ZdI 0  []) := by
 unfold Z5h
 refine zf (Zft ..) ?_
 refine ze ?_
 exact zr ((bv true), []) ⟨_, rfl⟩
noncomputable def Z3a (x1 : List Z7) (x12 : List Z7) (x13 : Int) (x14 : Int) : Option (Bool) :=
 if ((decide (x14 < x13))) = true then
 (Z4f x1 x12 x13 x14)
 else
 (Z5h)
theorem Z8j (x1 : List Z7) (x12 : List Z7) (x13 : Int) (x14 : Int) (ox1 : Own) (ox12 : Own) : Sim (Z1z) (Z3a x1 x12 x13 x14) (ZaX 0 (.p (.lst ox1 (x1.map Zs))) (.p (.lst ox12 (x12.map Zs))) (iv x13) (iv x14) []) := by
 unfold Z3a
 refine zf (Zgi ..) ?_
 refine ze ?_
 refine zo (bv (decide (x14 < x13))) ?_
 refine za ((decide (x14 < x13))) ?_ ?_
 ·exact zk (Z8i (x1) (x12) (x13) (x14) ox1 ox12)
 ·exact zk (Z8q )
theorem Z64 (x1 : List Z7) (x12 : List Z7) (x13 : Int) (x14 : Int) {r} (h : Z3a x1 x12 x13 x14 = some r) : Z3c x1 x12 x13 x14 = some r :=
 pick_of (fun _ _ ha hb => RRun.uniq (Z6H) (ha .ex .ex) (hb .ex .ex)) (fun ox1 ox12 => Z8j x1 x12 x13 x14 ox1 ox12 r h)
end Go.Proofs.YtadodmjdkphddaaDoor.N2
end
