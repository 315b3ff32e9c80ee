/- More of the functions' typed texts. No condition. -/
import Derived.Test.YtadodmjdkphddaaDoorTypA

section
set_option linter.unusedSimpArgs false
set_option linter.unusedVariables false
namespace Go.Proofs.YtadodmjdkphddaaDoor.N2
open Go Go.Abs
set_option linter.unusedVariables false
set_option maxRecDepth 100000
noncomputable def Z53 (x0 : List Z7) (zZ : List Z7) : Option ((List Z7)) :=
 (Z7k zZ x0).bind fun r1 =>
 some (r1.1)
theorem Z9r (x0 : List Z7) (zZ : List Z7) (ox0 : Own) (z9a : Own) : Sim (Z42) (Z53 x0 zZ) (EE 58 [(.p (.lst ox0 (x0.map Zs))), (.ptr 0 0)] [[(.p (.lst z9a (zZ.map Zs)))]]) := by
 unfold Z53
 refine zf (ZiX ..) ?_
 refine ze ?_
 refine zo (.p (.lst (shrO z9a) (zZ.map Zs))) ?_
 refine zi fun r1 hr1 => ?_
 obtain ⟨qr1, er1, exr1, rfl⟩ := Zcm (zZ) (x0) .sh .sh r1 hr1
 refine zc [] (.p (.tup [(.lst .sh (r1.1.map Zs)), (.v (.int .i64 r1.2))])) [[(.p (.lst z9a (zZ.map Zs)))]] er1 ?_
 refine zo (.p (.lst .sh (r1.1.map Zs))) ?_
 refine zo (iv r1.2) ?_
 refine zt [[(.p (.lst .sh (r1.1.map Zs)))]] ?_
 exact zr ((.p (.tup [])), [[(.p (.lst .sh (r1.1.map Zs)))]]) ⟨.sh, _, rfl⟩
theorem Z9S (x0 : List Z7) (zZ : List Z7) {r} (h : Z53 x0 zZ = some r) : Z43 x0 zZ = some r :=
 pick_of (fun _ _ ha hb => RRun.uniq (Zab) (ha .ex .ex) (hb .ex .ex)) (fun ox0 z9a => Z9r x0 zZ ox0 z9a r h)
noncomputable def Z69  : Option ((List Z7) × Int) :=
 some (([] : List Z7), 10)
theorem Z8i  : Sim (Z4Y) (Z69) (ZcT 0  []) := by
 unfold Z69
 refine zf (Zgl ..) ?_
 refine ze ?_
 exact zr ((.p (.tup [(.lst .sh []), (.v (.int .i64 10))])), []) ⟨_, rfl⟩
noncomputable def Z6c (x0 : List Z7) (x1 : List Z7) : Option ((List Z7) × Int) :=
 (Z6i (([x0, x1] : List (List Z7)))).bind fun r1 =>
 (Z7v r1).bind fun r2 =>
 some (r2, 0)
theorem Zb2 (x0 : List Z7) (x1 : List Z7) (ox0 : Own) (ox1 : Own) : Sim (Z4Y) (Z6c x0 x1) (ZeE 0 (.p (.lst ox0 (x0.map Zs))) (.p (.lst ox1 (x1.map Zs))) []) := by
 unfold Z6c
 refine zf (ZgT ..) ?_
 refine ze ?_
 refine zo (.p (.lst .ex (([x0, x1] : List (List Z7)).map (eL Zs)))) ?_
 refine zi fun r1 hr1 => ?_
 obtain ⟨qr1, er1, exr1, rfl⟩ := Za8 (([x0, x1] : List (List Z7))) .sh r1 hr1
 refine zc [] (.p (.lst .sh (r1.map Zs))) [] er1 ?_
 refine zi fun r2 hr2 => ?_
 obtain ⟨qr2, er2, exr2, rfl⟩ := Z9A (r1) .sh r2 hr2
 refine zc [] (.p (.lst .sh (r2.map Zs))) [] er2 ?_
 exact zr ((.p (.tup [(.lst .sh (r2.map Zs)), (.v (.int .i64 0))])), []) ⟨_, rfl⟩
noncomputable def Z7r (x0 : List Z7) (x1 : List Z7) : Option ((List Z7) × Int) :=
 (Z4i x0).bind fun r1 =>
 if ((!r1)) = true then
 (Z69)
 else
 ((Z4i x1).bind fun r2 =>
 if ((!r2)) = true then
 (Z69)
 else
 (Z6c x0 x1))
theorem Zc4 (x0 : List Z7) (x1 : List Z7) (ox0 : Own) (ox1 : Own) : Sim (Z4Y) (Z7r x0 x1) (EE 59 [(.p (.lst ox0 (x0.map Zs))), (.p (.lst ox1 (x1.map Zs)))] []) := by
 unfold Z7r
 refine zf (ZiT ..) ?_
 refine ze ?_
 refine ze ?_
 refine zi fun r1 hr1 => ?_
 obtain ⟨qr1, er1, exr1, rfl⟩ := Z6p (x0) .sh r1 hr1
 refine zc [] (bv r1) [] er1 ?_
 refine zo (bv (!r1)) ?_
 refine za ((!r1)) ?_ ?_
 ·exact zk (Z8i )
 ·refine zi fun r2 hr2 => ?_
  obtain ⟨qr2, er2, exr2, rfl⟩ := Z6p (x1) .sh r2 hr2
  refine zc [] (bv r2) [] er2 ?_
  refine zo (bv (!r2)) ?_
  refine za ((!r2)) ?_ ?_
  ·exact zk (Z8i )
  ·exact zk (Zb2 (x0) (x1) ox0 ox1)
theorem Zcn (x0 : List Z7) (x1 : List Z7) {r} (h : Z7r x0 x1 = some r) : Z7k x0 x1 = some r :=
 pick_of (fun _ _ ha hb => RRun.uniq (Zcs) (ha .ex .ex) (hb .ex .ex)) (fun ox0 ox1 => Zc4 x0 x1 ox0 ox1 r h)
noncomputable def Z3E (zp : Int) (z6 : Int) (zd : Int) (zh : List Zr) (z1 : Int) (z2 : Int) (z16 : Int) (z1D : Int) (z1E : Int) (z1a : Int) (z1k : Int) (z1l : List Z7) (b2 : Z3) : Option (Z3 × Bool × Int × Int × Int × (List Zr) × Int × Int) :=
 some ((Z3.mk z16 z1D z1E z1a z1k z1l ([b2] : List Z3)), (z16 != 7), zp, z6, zd, zh, z1, z2)
theorem Z8U (zl : List Int) (zp : Int) (z6 : Int) (zd : Int) (zh : List Zr) (z1 : Int) (z2 : Int) (z16 : Int) (z1D : Int) (z1E : Int) (z1a : Int) (z1k : Int) (z1l : List Z7) (z20 : List Z3) (b2 : Z3) (zn : Own) (zb : Own) (zB : Own) (zy : Own) (z1H : Own) (z1x : Own) (zu : okApp zb = true) (zQ : okApp zB = true) (zK : okApp zy = true) : Sim (Z28 zl zn) (Z3E zp z6 zd zh z1 z2 z16 z1D z1E z1a z1k z1l b2) (Zd4 1 (.ptr 1 0) (.ptr 2 0) [(Zj (Zk.mk zl zp z6 zd zh (Zi.mk z1 z2)) zn zb), (Zq (Z3.mk z16 z1D z1E z1a z1k z1l z20) zB zy), (Zq b2 z1H z1x)]) := by
 unfold Z3E
 refine zf (Zft ..) ?_
 refine ze ?_
 refine zo (.p (.agg (ZE b2 (shrO z1H) (shrO z1x)))) ?_
 refine zo (.p (.lst .ex (([b2] : List Z3).map ZI))) ?_ (Eq.trans (b := some (.p (.lst .ex [.agg (Z27 b2)]))) (by kernel_rfl) (by simp only [List.map_cons, List.map_nil, Z36]))
 refine zo (.ptr 1 6) ?_
 refine zt [(Zj (Zk.mk zl zp z6 zd zh (Zi.mk z1 z2)) zn zb), (Zq (Z3.mk z16 z1D z1E z1a z1k z1l ([b2] : List Z3)) zB .ex), (Zq b2 z1H z1x)] ?_
 refine ze ?_
 refine zo (.p (.agg (ZE (Z3.mk z16 z1D z1E z1a z1k z1l ([b2] : List Z3)) (shrO zB) .ex))) ?_
 refine zo (.ptr 1 0) ?_
 refine zo (iv z16) ?_
 refine zo (bv (z16 != 7)) ?_
 refine zt [(Zj (Zk.mk zl zp z6 zd zh (Zi.mk z1 z2)) zn zb), (Zq (Z3.mk z16 z1D z1E z1a z1k z1l ([b2] : List Z3)) (shrO zB) .ex), (Zq b2 z1H z1x)] ?_
 exact zr ((.p (.tup [(.agg (ZE (Z3.mk z16 z1D z1E z1a z1k z1l ([b2] : List Z3)) .sh .sh)), (.v (.bool (z16 != 7)))])), [(Zj (Zk.mk zl zp z6 zd zh (Zi.mk z1 z2)) zn zb), (Zq (Z3.mk z16 z1D z1E z1a z1k z1l ([b2] : List Z3)) (shrO zB) .ex), (Zq b2 z1H z1x)]) ⟨zb, _, zu, rfl⟩
noncomputable def Z1V (zp : Int) (z6 : Int) (zd : Int) (zh : List Zr) (z1 : Int) (z2 : Int) (z16 : Int) (z1D : Int) (z1E : Int) (z1a : Int) (z1k : Int) (z1l : List Z7) (b2 : Z3) : Option (Z3 × Bool × Int × Int × Int × (List Zr) × Int × Int) :=
 if ((z16 == 0)) = true then
 (some (b2, true, zp, z6, (IntKind.i64.wrap (zd - 1)), zh, z1, z2))
 else
 (Z3E zp z6 ((IntKind.i64.wrap (zd - 1))) zh z1 z2 z16 z1D z1E z1a z1k z1l b2)
theorem Z4Z (zl : List Int) (zp : Int) (z6 : Int) (zd : Int) (zh : List Zr) (z1 : Int) (z2 : Int) (z16 : Int) (z1D : Int) (z1E : Int) (z1a : Int) (z1k : Int) (z1l : List Z7) (z20 : List Z3) (b2 : Z3) (zn : Own) (zb : Own) (zB : Own) (zy : Own) (z1H : Own) (z1x : Own) (zu : okApp zb = true) (zQ : okApp zB = true) (zK : okApp zy = true) : Sim (Z28 zl zn) (Z1V zp z6 zd zh z1 z2 z16 z1D z1E z1a z1k z1l b2) (Zbf 1 (.ptr 0 0) (.ptr 1 0) (.ptr 2 0) [(Zj (Zk.mk zl zp z6 zd zh (Zi.mk z1 z2)) zn zb), (Zq (Z3.mk z16 z1D z1E z1a z1k z1l z20) zB zy), (Zq b2 z1H z1x)]) := by
 unfold Z1V
 refine zf (Zf9 ..) ?_
 refine ze ?_
 refine zo (.ptr 0 0) ?_
 refine zo (.ptr 0 3) ?_
 refine zo (iv zd) ?_
 refine zo (iv (IntKind.i64.wrap (zd - 1))) ?_
 refine zo (.ptr 0 0) ?_
 refine zo (.ptr 0 3) ?_
 refine zt [(Zj (Zk.mk zl zp z6 (IntKind.i64.wrap (zd - 1)) zh (Zi.mk z1 z2)) zn zb), (Zq (Z3.mk z16 z1D z1E z1a z1k z1l z20) zB zy), (Zq b2 z1H z1x)] ?_
 refine ze ?_
 refine zo (.ptr 1 0) ?_
 refine zo (iv z16) ?_
 refine zo (bv (z16 == 0)) ?_
 refine za ((z16 == 0)) ?_ ?_
 ·refine ze ?_
  refine zo (.p (.agg (ZE b2 (shrO z1H) (shrO z1x)))) ?_
  refine zt [(Zj (Zk.mk zl zp z6 (IntKind.i64.wrap (zd - 1)) zh (Zi.mk z1 z2)) zn zb), (Zq b2 (shrO z1H) (shrO z1x)), (Zq b2 z1H z1x)] ?_
  exact zr ((.p (.tup [(.agg (ZE b2 .sh .sh)), (.v (.bool true))])), [(Zj (Zk.mk zl zp z6 (IntKind.i64.wrap (zd - 1)) zh (Zi.mk z1 z2)) zn zb), (Zq b2 (shrO z1H) (shrO z1x)), (Zq b2 z1H z1x)]) ⟨zb, _, zu, rfl⟩
 ·exact zk (Z8U (zl) (zp) (z6) ((IntKind.i64.wrap (zd - 1))) (zh) (z1) (z2) (z16) (z1D) (z1E) (z1a) (z1k) (z1l) (z20) (b2) zn zb zB zy z1H z1x zu zQ zK)
noncomputable def Z4G (x1 : Int) (zl : List Int) (z6 : Int) (zd : Int) (zh : List Zr) (z1 : Int) (z2 : Int) (z16 : Int) (z1D : Int) (z1E : Int) (z1a : Int) (z1k : Int) (z1l : List Z7) (b2 : Z3) : Option (Z3 × Bool × Int × Int × Int × (List Zr) × Int × Int) :=
 (ZT 20 x1 zl z1 z2).bind fun r1 =>
 Z1V r1.1 z6 zd zh r1.2.1 r1.2.2 z16 z1D z1E z1a z1k z1l b2
theorem Z95 (x1 : Int) (zl : List Int) (zp : Int) (z6 : Int) (zd : Int) (zh : List Zr) (z1 : Int) (z2 : Int) (z16 : Int) (z1D : Int) (z1E : Int) (z1a : Int) (z1k : Int) (z1l : List Z7) (z20 : List Z3) (b2 : Z3) (zn : Own) (zb : Own) (zB : Own) (zy : Own) (z1H : Own) (z1x : Own) (zu : okApp zb = true) (zQ : okApp zB = true) (zK : okApp zy = true) : Sim (Z28 zl zn) (Z4G x1 zl z6 zd zh z1 z2 z16 z1D z1E z1a z1k z1l b2) (Zd2 1 (.ptr 0 0) (iv x1) (.ptr 1 0) (.ptr 2 0) [(Zj (Zk.mk zl zp z6 zd zh (Zi.mk z1 z2)) zn zb), (Zq (Z3.mk z16 z1D z1E z1a z1k z1l z20) zB zy), (Zq b2 z1H z1x)]) := by
 unfold Z4G
 refine zf (Zfd ..) ?_
 refine ze ?_
 refine zi fun r1 hr1 => ?_
 obtain ⟨qr1, er1, exr1, rfl⟩ := ZX (20) (x1) (zl) (zp) (z6) (zd) (zh) (z1) (z2) zn zb zu r1 hr1
 refine zc [0] (.p (.tup [])) [(Zj (Zk.mk zl r1.1 z6 zd zh (Zi.mk r1.2.1 r1.2.2)) zn zb), (Zq (Z3.mk z16 z1D z1E z1a z1k z1l z20) zB zy), (Zq b2 z1H z1x)] er1 ?_
 exact zk (Z4Z (zl) (r1.1) (z6) (zd) (zh) (r1.2.1) (r1.2.2) (z16) (z1D) (z1E) (z1a) (z1k) (z1l) (z20) (b2) zn zb zB zy z1H z1x zu zQ zK)
noncomputable def Z1w (x1 : Int) (zl : List Int) (zp : Int) (z6 : Int) (zd : Int) (zh : List Zr) (z1 : Int) (z2 : Int) (z16 : Int) (z1D : Int) (z1E : Int) (z1a : Int) (z1k : Int) (z1l : List Z7) : Option (Z3 × Bool × Int × Int × Int × (List Zr) × Int × Int) :=
 (Z2N zl zp z6 zd zh z1 z2).bind fun r1 =>
 if ((r1.2.2.2.2.2.1 == 0)) = true then
 ((Z15 ((ByteArray.mk #[41])) zl r1.2.1).bind fun r2 =>
 if ((!r2.1)) = true then
 (Z4G x1 zl r1.2.2.1 r1.2.2.2.1 r1.2.2.2.2.1 r1.2.2.2.2.2.1 r1.2.2.2.2.2.2 z16 z1D z1E z1a z1k z1l r1.1)
 else
 (Z1V r2.2 r1.2.2.1 r1.2.2.2.1 r1.2.2.2.2.1 r1.2.2.2.2.2.1 r1.2.2.2.2.2.2 z16 z1D z1E z1a z1k z1l r1.1))
 else
 (Z1V r1.2.1 r1.2.2.1 r1.2.2.2.1 r1.2.2.2.2.1 r1.2.2.2.2.2.1 r1.2.2.2.2.2.2 z16 z1D z1E z1a z1k z1l r1.1)
theorem Z2s (x1 : Int) (zl : List Int) (zp : Int) (z6 : Int) (zd : Int) (zh : List Zr) (z1 : Int) (z2 : Int) (z16 : Int) (z1D : Int) (z1E : Int) (z1a : Int) (z1k : Int) (z1l : List Z7) (z20 : List Z3) (zn : Own) (zb : Own) (zB : Own) (zy : Own) (zu : okApp zb = true) (zQ : okApp zB = true) (zK : okApp zy = true) : Sim (Z28 zl zn) (Z1w x1 zl zp z6 zd zh z1 z2 z16 z1D z1E z1a z1k z1l) (Z8j 1 (.ptr 0 0) (iv x1) (.ptr 1 0) [(Zj (Zk.mk zl zp z6 zd zh (Zi.mk z1 z2)) zn zb), (Zq (Z3.mk z16 z1D z1E z1a z1k z1l z20) zB zy)]) := by
 unfold Z1w
 refine zf (Zfb ..) ?_
 refine ze ?_
 refine zi fun r1 hr1 => ?_
 obtain ⟨qr1, er1, or1_0_4, exr1, hor1_0_4, rfl⟩ := Z8d (zl) (zp) (z6) (zd) (zh) (z1) (z2) zn zb zu r1 hr1
 refine zc [0] (.p (.agg (ZE r1.1 .sh .sh))) [(Zj (Zk.mk zl r1.2.1 r1.2.2.1 r1.2.2.2.1 r1.2.2.2.2.1 (Zi.mk r1.2.2.2.2.2.1 r1.2.2.2.2.2.2)) zn or1_0_4), (Zq (Z3.mk z16 z1D z1E z1a z1k z1l z20) zB zy)] er1 ?_
 refine zz (.ptr 2 0) [(Zj (Zk.mk zl r1.2.1 r1.2.2.1 r1.2.2.2.1 r1.2.2.2.2.1 (Zi.mk r1.2.2.2.2.2.1 r1.2.2.2.2.2.2)) zn or1_0_4), (Zq (Z3.mk z16 z1D z1E z1a z1k z1l z20) zB zy), (Zq (Z3.mk 0 0 0 0 0 ([] : List Z7) ([] : List Z3)) .nl .nl)] ?_
 refine zt [(Zj (Zk.mk zl r1.2.1 r1.2.2.1 r1.2.2.2.1 r1.2.2.2.2.1 (Zi.mk r1.2.2.2.2.2.1 r1.2.2.2.2.2.2)) zn or1_0_4), (Zq (Z3.mk z16 z1D z1E z1a z1k z1l z20) zB zy), (Zq r1.1 .sh .sh)] ?_
 refine ze ?_
 refine zo (.ptr 0 0) ?_
 refine zo (.ptr 0 5) ?_
 refine zo (.ptr 0 5) ?_
 refine zo (iv r1.2.2.2.2.2.1) ?_
 refine zo (bv (r1.2.2.2.2.2.1 == 0)) ?_
 refine za ((r1.2.2.2.2.2.1 == 0)) ?_ ?_
 ·refine zi fun r2 hr2 => ?_
  obtain ⟨qr2, er2, exr2, rfl⟩ := Z1b ((ByteArray.mk #[41])) (zl) (r1.2.1) (r1.2.2.1) (r1.2.2.2.1) (r1.2.2.2.2.1) (r1.2.2.2.2.2.1) (r1.2.2.2.2.2.2) zn or1_0_4 hor1_0_4 r2 hr2
  refine zc [0] (bv r2.1) [(Zj (Zk.mk zl r2.2 r1.2.2.1 r1.2.2.2.1 r1.2.2.2.2.1 (Zi.mk r1.2.2.2.2.2.1 r1.2.2.2.2.2.2)) zn or1_0_4), (Zq (Z3.mk z16 z1D z1E z1a z1k z1l z20) zB zy), (Zq r1.1 .sh .sh)] er2 ?_
  refine zo (bv (!r2.1)) ?_
  refine za ((!r2.1)) ?_ ?_
  ·exact zk (Z95 (x1) (zl) (r2.2) (r1.2.2.1) (r1.2.2.2.1) (r1.2.2.2.2.1) (r1.2.2.2.2.2.1) (r1.2.2.2.2.2.2) (z16) (z1D) (z1E) (z1a) (z1k) (z1l) (z20) (r1.1) zn or1_0_4 zB zy .sh .sh hor1_0_4 zQ zK)
  ·exact zk (Z4Z (zl) (r2.2) (r1.2.2.1) (r1.2.2.2.1) (r1.2.2.2.2.1) (r1.2.2.2.2.2.1) (r1.2.2.2.2.2.2) (z16) (z1D) (z1E) (z1a) (z1k) (z1l) (z20) (r1.1) zn or1_0_4 zB zy .sh .sh hor1_0_4 zQ zK)
 ·exact zk (Z4Z (zl) (r1.2.1) (r1.2.2.1) (r1.2.2.2.1) (r1.2.2.2.2.1) (r1.2.2.2.2.2.1) (r1.2.2.2.2.2.2) (z16) (z1D) (z1E) (z1a) (z1k) (z1l) (z20) (r1.1) zn or1_0_4 zB zy .sh .sh hor1_0_4 zQ zK)
noncomputable def Z3V (x1 : Int) (zl : List Int) (zp : Int) (z6 : Int) (zd : Int) (zh : List Zr) (z1 : Int) (z2 : Int) (z16 : Int) (z1D : Int) (z1E : Int) (z1a : Int) (z1k : Int) (z1l : List Z7) : Option (Z3 × Bool × Int × Int × Int × (List Zr) × Int × Int) :=
 (Z7Z).bind fun r1 =>
 (Z3A r1 zl zp).bind fun r2 =>
 if ((decide (0 ≤ r2.1))) = true then
 (Z1w x1 zl r2.2 z6 ((IntKind.i64.wrap (zd + 1))) zh z1 z2 7 0 0 r2.1 0 (([] : List Z7)))
 else
 ((Z15 ((ByteArray.mk #[63, 62])) zl r2.2).bind fun r3 =>
 if (r3.1) = true then
 (Z1w x1 zl r3.2 z6 ((IntKind.i64.wrap (zd + 1))) zh z1 z2 8 0 0 0 0 (([] : List Z7)))
 else
 ((Z15 ((ByteArray.mk #[63, 58])) zl r3.2).bind fun r4 =>
 if (r4.1) = true then
 (Z1w x1 zl r4.2 z6 ((IntKind.i64.wrap (zd + 1))) zh z1 z2 z16 z1D z1E z1a z1k z1l)
 else
 ((Z1F ((Zk.mk zl r4.2 z6 (IntKind.i64.wrap (zd + 1)) zh (Zi.mk z1 z2)))).bind fun r5 =>
 if ((r5 == 63)) = true then
 ((ZT 20 x1 zl z1 z2).bind fun r6 =>
 Z1w x1 zl r6.1 z6 ((IntKind.i64.wrap (zd + 1))) zh r6.2.1 r6.2.2 z16 z1D z1E z1a z1k z1l)
 else
 (if ((z6 == 9)) = true then
 ((ZT 24 x1 zl z1 z2).bind fun r7 =>
 Z1w x1 zl r7.1 z6 ((IntKind.i64.wrap (zd + 1))) zh r7.2.1 r7.2.2 z16 z1D z1E z1a z1k z1l)
 else
 (Z1w x1 zl r4.2 ((IntKind.i64.wrap (z6 + 1))) ((IntKind.i64.wrap (zd + 1))) zh z1 z2 5 0 0 0 ((IntKind.i64.wrap (z6 + 1))) (([] : List Z7)))))))
theorem Z9p (x1 : Int) (zl : List Int) (zp : Int) (z6 : Int) (zd : Int) (zh : List Zr) (z1 : Int) (z2 : Int) (z16 : Int) (z1D : Int) (z1E : Int) (z1a : Int) (z1k : Int) (z1l : List Z7) (z20 : List Z3) (zn : Own) (zb : Own) (zB : Own) (zy : Own) (zu : okApp zb = true) (zQ : okApp zB = true) (zK : okApp zy = true) : Sim (Z28 zl zn) (Z3V x1 zl zp z6 zd zh z1 z2 z16 z1D z1E z1a z1k z1l) (ZdG 1 (.ptr 0 0) (iv x1) (.ptr 1 0) [(Zj (Zk.mk zl zp z6 zd zh (Zi.mk z1 z2)) zn zb), (Zq (Z3.mk z16 z1D z1E z1a z1k z1l z20) zB zy)]) := by
 unfold Z3V
 refine zf (ZfP ..) ?_
 refine ze ?_
 refine zo (.ptr 0 0) ?_
 refine zo (.ptr 0 3) ?_
 refine zo (iv zd) ?_
 refine zo (iv (IntKind.i64.wrap (zd + 1))) ?_
 refine zo (.ptr 0 0) ?_
 refine zo (.ptr 0 3) ?_
 refine zt [(Zj (Zk.mk zl zp z6 (IntKind.i64.wrap (zd + 1)) zh (Zi.mk z1 z2)) zn zb), (Zq (Z3.mk z16 z1D z1E z1a z1k z1l z20) zB zy)] ?_
 refine ze ?_
 refine zi fun r1 hr1 => ?_
 obtain ⟨qr1, er1, exr1, rfl⟩ := Zcr  r1 hr1
 refine zc [] (.p (.lst .sh (r1.map eS))) [(Zj (Zk.mk zl zp z6 (IntKind.i64.wrap (zd + 1)) zh (Zi.mk z1 z2)) zn zb), (Zq (Z3.mk z16 z1D z1E z1a z1k z1l z20) zB zy)] er1 ?_
 refine zi fun r2 hr2 => ?_
 obtain ⟨qr2, er2, exr2, rfl⟩ := Z85 (r1) (zl) (zp) (z6) ((IntKind.i64.wrap (zd + 1))) (zh) (z1) (z2) .sh zn zb zu r2 hr2
 refine zc [0] (iv r2.1) [(Zj (Zk.mk zl r2.2 z6 (IntKind.i64.wrap (zd + 1)) zh (Zi.mk z1 z2)) zn zb), (Zq (Z3.mk z16 z1D z1E z1a z1k z1l z20) zB zy)] er2 ?_
 refine ze ?_
 refine zo (bv (decide (0 ≤ r2.1))) ?_
 refine za ((decide (0 ≤ r2.1))) ?_ ?_
 ·refine ze ?_
  refine zo (.p (.agg (ZE (Z3.mk 7 0 0 r2.1 0 ([] : List Z7) ([] : List Z3)) .nl .nl))) ?_
  refine zt [(Zj (Zk.mk zl r2.2 z6 (IntKind.i64.wrap (zd + 1)) zh (Zi.mk z1 z2)) zn zb), (Zq (Z3.mk 7 0 0 r2.1 0 ([] : List Z7) ([] : List Z3)) .nl .nl)] ?_
  exact zk (Z2s (x1) (zl) (r2.2) (z6) ((IntKind.i64.wrap (zd + 1))) (zh) (z1) (z2) (7) (0) (0) (r2.1) (0) (([] : List Z7)) (([] : List Z3)) zn zb .nl .nl zu rfl rfl)
 ·refine ze ?_
  refine zi fun r3 hr3 => ?_
  obtain ⟨qr3, er3, exr3, rfl⟩ := Z1b ((ByteArray.mk #[63, 62])) (zl) (r2.2) (z6) ((IntKind.i64.wrap (zd + 1))) (zh) (z1) (z2) zn zb zu r3 hr3
  refine zc [0] (bv r3.1) [(Zj (Zk.mk zl r3.2 z6 (IntKind.i64.wrap (zd + 1)) zh (Zi.mk z1 z2)) zn zb), (Zq (Z3.mk z16 z1D z1E z1a z1k z1l z20) zB zy)] er3 ?_
  refine za (r3.1) ?_ ?_
  ·refine ze ?_
   refine zo (.p (.agg (ZE (Z3.mk 8 0 0 0 0 ([] : List Z7) ([] : List Z3)) .nl .nl))) ?_
   refine zt [(Zj (Zk.mk zl r3.2 z6 (IntKind.i64.wrap (zd + 1)) zh (Zi.mk z1 z2)) zn zb), (Zq (Z3.mk 8 0 0 0 0 ([] : List Z7) ([] : List Z3)) .nl .nl)] ?_
   exact zk (Z2s (x1) (zl) (r3.2) (z6) ((IntKind.i64.wrap (zd + 1))) (zh) (z1) (z2) (8) (0) (0) (0) (0) (([] : List Z7)) (([] : List Z3)) zn zb .nl .nl zu rfl rfl)
  ·refine ze ?_
   refine zi fun r4 hr4 => ?_
   obtain ⟨qr4, er4, exr4, rfl⟩ := Z1b ((ByteArray.mk #[63, 58])) (zl) (r3.2) (z6) ((IntKind.i64.wrap (zd + 1))) (zh) (z1) (z2) zn zb zu r4 hr4
   refine zc [0] (bv r4.1) [(Zj (Zk.mk zl r4.2 z6 (IntKind.i64.wrap (zd + 1)) zh (Zi.mk z1 z2)) zn zb), (Zq (Z3.mk z16 z1D z1E z1a z1k z1l z20) zB zy)] er4 ?_
   refine za (r4.1) ?_ ?_
   ·exact zk (Z2s (x1) (zl) (r4.2) (z6) ((IntKind.i64.wrap (zd + 1))) (zh) (z1) (z2) (z16) (z1D) (z1E) (z1a) (z1k) (z1l) (z20) zn zb zB zy zu zQ zK)
   ·refine ze ?_
    refine zi fun r5 hr5 => ?_
    obtain ⟨qr5, er5, exr5, rfl⟩ := Z1I ((Zk.mk zl r4.2 z6 (IntKind.i64.wrap (zd + 1)) zh (Zi.mk z1 z2))) zn zb zu r5 hr5
    refine zc [0] (iv r5) [(Zj (Zk.mk zl r4.2 z6 (IntKind.i64.wrap (zd + 1)) zh (Zi.mk z1 z2)) zn zb), (Zq (Z3.mk z16 z1D z1E z1a z1k z1l z20) zB zy)] er5 ?_
    refine zo (bv (r5 == 63)) ?_
    refine za ((r5 == 63)) ?_ ?_
    ·refine ze ?_
     refine zi fun r6 hr6 => ?_
     obtain ⟨qr6, er6, exr6, rfl⟩ := ZX (20) (x1) (zl) (r4.2) (z6) ((IntKind.i64.wrap (zd + 1))) (zh) (z1) (z2) zn zb zu r6 hr6
     refine zc [0] (.p (.tup [])) [(Zj (Zk.mk zl r6.1 z6 (IntKind.i64.wrap (zd + 1)) zh (Zi.mk r6.2.1 r6.2.2)) zn zb), (Zq (Z3.mk z16 z1D z1E z1a z1k z1l z20) zB zy)] er6 ?_
     exact zk (Z2s (x1) (zl) (r6.1) (z6) ((IntKind.i64.wrap (zd + 1))) (zh) (r6.2.1) (r6.2.2) (z16) (z1D) (z1E) (z1a) (z1k) (z1l) (z20) zn zb zB zy zu zQ zK)
    ·refine ze ?_
     refine zo (.ptr 0 0) ?_
     refine zo (.ptr 0 2) ?_
     refine zo (iv z6) ?_
     refine zo (bv (z6 == 9)) ?_
     refine za ((z6 == 9)) ?_ ?_
     ·refine ze ?_
      refine zi fun r7 hr7 => ?_
      obtain ⟨qr7, er7, exr7, rfl⟩ := ZX (24) (x1) (zl) (r4.2) (z6) ((IntKind.i64.wrap (zd + 1))) (zh) (z1) (z2) zn zb zu r7 hr7
      refine zc [0] (.p (.tup [])) [(Zj (Zk.mk zl r7.1 z6 (IntKind.i64.wrap (zd + 1)) zh (Zi.mk r7.2.1 r7.2.2)) zn zb), (Zq (Z3.mk z16 z1D z1E z1a z1k z1l z20) zB zy)] er7 ?_
      exact zk (Z2s (x1) (zl) (r7.1) (z6) ((IntKind.i64.wrap (zd + 1))) (zh) (r7.2.1) (r7.2.2) (z16) (z1D) (z1E) (z1a) (z1k) (z1l) (z20) zn zb zB zy zu zQ zK)
     ·refine ze ?_
      refine zo (.ptr 0 0) ?_
      refine zo (.ptr 0 2) ?_
      refine zo (iv z6) ?_
      refine zo (iv (IntKind.i64.wrap (z6 + 1))) ?_
      refine zo (.ptr 0 0) ?_
      refine zo (.ptr 0 2) ?_
      refine zt [(Zj (Zk.mk zl r4.2 (IntKind.i64.wrap (z6 + 1)) (IntKind.i64.wrap (zd + 1)) zh (Zi.mk z1 z2)) zn zb), (Zq (Z3.mk z16 z1D z1E z1a z1k z1l z20) zB zy)] ?_
      refine ze ?_
      refine zo (.ptr 0 0) ?_
      refine zo (.ptr 0 2) ?_
      refine zo (iv (IntKind.i64.wrap (z6 + 1))) ?_
      refine zo (.p (.agg (ZE (Z3.mk 5 0 0 0 (IntKind.i64.wrap (z6 + 1)) ([] : List Z7) ([] : List Z3)) .nl .nl))) ?_
      refine zt [(Zj (Zk.mk zl r4.2 (IntKind.i64.wrap (z6 + 1)) (IntKind.i64.wrap (zd + 1)) zh (Zi.mk z1 z2)) zn zb), (Zq (Z3.mk 5 0 0 0 (IntKind.i64.wrap (z6 + 1)) ([] : List Z7) ([] : List Z3)) .nl .nl)] ?_
      exact zk (Z2s (x1) (zl) (r4.2) ((IntKind.i64.wrap (z6 + 1))) ((IntKind.i64.wrap (zd + 1))) (zh) (z1) (z2) (5) (0) (0) (0) ((IntKind.i64.wrap (z6 + 1))) (([] : List Z7)) (([] : List Z3)) zn zb .nl .nl zu rfl rfl)
noncomputable def Z3O (x1 : Int) (zl : List Int) (zp : Int) (z6 : Int) (zd : Int) (zh : List Zr) (z1 : Int) (z2 : Int) : Option (Z3 × Bool × Int × Int × Int × (List Zr) × Int × Int) :=
 if ((zd == 32)) = true then
 ((ZT 25 x1 zl z1 z2).bind fun r1 =>
 some ((Z3.mk 0 0 0 0 0 ([] : List Z7) ([] : List Z3)), true, r1.1, z6, zd, zh, r1.2.1, r1.2.2))
 else
 (Z3V x1 zl zp z6 zd zh z1 z2 0 0 0 0 0 (([] : List Z7)))
theorem Za4 (x1 : Int) (zl : List Int) (zp : Int) (z6 : Int) (zd : Int) (zh : List Zr) (z1 : Int) (z2 : Int) (zn : Own) (zb : Own) (zu : okApp zb = true) : Sim (Z28 zl zn) (Z3O x1 zl zp z6 zd zh z1 z2) (EE 51 [(.ptr 0 0), (iv x1)] [(Zj (Zk.mk zl zp z6 zd zh (Zi.mk z1 z2)) zn zb)]) := by
 unfold Z3O
 refine zf (Zik ..) ?_
 refine ze ?_
 refine zz (.ptr 1 0) [(Zj (Zk.mk zl zp z6 zd zh (Zi.mk z1 z2)) zn zb), (Zq (Z3.mk 0 0 0 0 0 ([] : List Z7) ([] : List Z3)) .nl .nl)] ?_
 refine ze ?_
 refine zo (.ptr 0 0) ?_
 refine zo (.ptr 0 3) ?_
 refine zo (iv zd) ?_
 refine zo (bv (zd == 32)) ?_
 refine za ((zd == 32)) ?_ ?_
 ·refine ze ?_
  refine zi fun r1 hr1 => ?_
  obtain ⟨qr1, er1, exr1, rfl⟩ := ZX (25) (x1) (zl) (zp) (z6) (zd) (zh) (z1) (z2) zn zb zu r1 hr1
  refine zc [0] (.p (.tup [])) [(Zj (Zk.mk zl r1.1 z6 zd zh (Zi.mk r1.2.1 r1.2.2)) zn zb), (Zq (Z3.mk 0 0 0 0 0 ([] : List Z7) ([] : List Z3)) .nl .nl)] er1 ?_
  refine ze ?_
  refine zo (.p (.agg (ZE (Z3.mk 0 0 0 0 0 ([] : List Z7) ([] : List Z3)) .nl .nl))) ?_
  refine zt [(Zj (Zk.mk zl r1.1 z6 zd zh (Zi.mk r1.2.1 r1.2.2)) zn zb), (Zq (Z3.mk 0 0 0 0 0 ([] : List Z7) ([] : List Z3)) .nl .nl)] ?_
  exact zr ((.p (.tup [(.agg (ZE (Z3.mk 0 0 0 0 0 ([] : List Z7) ([] : List Z3)) .sh .sh)), (.v (.bool true))])), [(Zj (Zk.mk zl r1.1 z6 zd zh (Zi.mk r1.2.1 r1.2.2)) zn zb), (Zq (Z3.mk 0 0 0 0 0 ([] : List Z7) ([] : List Z3)) .nl .nl)]) ⟨zb, _, zu, rfl⟩
 ·exact zk (Z9p (x1) (zl) (zp) (z6) (zd) (zh) (z1) (z2) (0) (0) (0) (0) (0) (([] : List Z7)) (([] : List Z3)) zn zb .nl .nl zu rfl rfl)
theorem Z5T (x1 : Int) (zl : List Int) (zp : Int) (z6 : Int) (zd : Int) (zh : List Zr) (z1 : Int) (z2 : Int) {r} (h : Z3O x1 zl zp z6 zd zh z1 z2 = some r) : Z37 x1 zl zp z6 zd zh z1 z2 = some r :=
 pick_of (fun _ _ ha hb => RRun.uniq (ZaR _ _) (ha .ex .ex rfl) (hb .ex .ex rfl)) (fun zn zb zu => Za4 x1 zl zp z6 zd zh z1 z2 zn zb zu r h)
noncomputable def Z9u  : Option ((List ByteArray)) :=
 some (([(ByteArray.mk #[63, 61]), (ByteArray.mk #[63, 33]), (ByteArray.mk #[63, 60, 61]), (ByteArray.mk #[63, 60, 33])] : List ByteArray))
theorem Zci  : Sim (Z6A) (Z9u) (EE 62 [] []) := by
 unfold Z9u
 refine zf (ZiU ..) ?_
 refine ze ?_
 refine ze ?_
 refine zo (.p (.lst .ex (([(ByteArray.mk #[63, 61]), (ByteArray.mk #[63, 33]), (ByteArray.mk #[63, 60, 61]), (ByteArray.mk #[63, 60, 33])] : List ByteArray).map eS))) ?_
 exact zr ((.p (.lst .sh (([(ByteArray.mk #[63, 61]), (ByteArray.mk #[63, 33]), (ByteArray.mk #[63, 60, 61]), (ByteArray.mk #[63, 60, 33])] : List ByteArray).map eS))), []) ⟨_, rfl⟩
theorem Zct  {r} (h : Z9u = some r) : Z7Z = some r :=
 pick_of (fun _ _ ha hb => RRun.uniq (ZcV) (ha ) (hb )) (Zci  r h)
noncomputable def Z3z (x0 : List ByteArray) (zl : List Int) (zp : Int) : Option (Int × Int) :=
 Z1t x0 ((x0.length : Int)) 0 zl zp
theorem Z7F (x0 : List ByteArray) (zl : List Int) (zp : Int) (z6 : Int) (zd : Int) (zh : List Zr) (z1 : Int) (z2 : Int) (ox0 : Own) (zn : Own) (zb : Own) (zu : okApp zb = true) : Sim (Z1j zl z6 zd zh z1 z2 zn zb) (Z3z x0 zl zp) (EE 61 [(.p (.lst ox0 (x0.map eS))), (.clo 27 [(.ptr 0 0)] [])] [(Zj (Zk.mk zl zp z6 zd zh (Zi.mk z1 z2)) zn zb)]) := by
 unfold Z3z
 refine zf (Zic ..) ?_
 refine ze ?_
 refine ze ?_
 refine zo (iv (x0.length : Int)) ?_ (Eq.trans (by kernel_rfl) (xlen_of (P := PP) (t := 43) (d := 9) (by kernel_rfl) eS (shrO ox0) x0))
 exact zk (Z5g (x0) ((x0.length : Int)) (0) (zl) (zp) (z6) (zd) (zh) (z1) (z2) ox0 zn zb zu)
theorem Z88 (x0 : List ByteArray) (zl : List Int) (zp : Int) {r} (h : Z3z x0 zl zp = some r) : Z3A x0 zl zp = some r :=
 pick_of (fun _ _ ha hb => RRun.uniq (Z5S _ _ _ _ _ _ _ _) (ha default default default default default .ex .ex .ex rfl) (hb default default default default default .ex .ex .ex rfl)) (fun z6 zd zh z1 z2 ox0 zn zb zu => Z7F x0 zl zp z6 zd zh z1 z2 ox0 zn zb zu r h)
noncomputable def Z38 (x0 : List ByteArray) (x7 : Int) (x8 : Int) (zl : List Int) (zp : Int) : Option (Int × Int) :=
 Z1t x0 x7 ((IntKind.i64.wrap (x8 + 1))) zl zp
theorem Z72 (x0 : List ByteArray) (x7 : Int) (x8 : Int) (zl : List Int) (zp : Int) (z6 : Int) (zd : Int) (zh : List Zr) (z1 : Int) (z2 : Int) (ox0 : Own) (zn : Own) (zb : Own) (zu : okApp zb = true) : Sim (Z1j zl z6 zd zh z1 z2 zn zb) (Z38 x0 x7 x8 zl zp) (Zem 1 (.p (.lst ox0 (x0.map eS))) (.clo 27 [(.ptr 0 0)] []) (iv x7) (iv x8) [(Zj (Zk.mk zl zp z6 zd zh (Zi.mk z1 z2)) zn zb)]) := by
 unfold Z38
 refine zf (Zgp ..) ?_
 refine ze ?_
 refine zo (iv (IntKind.i64.wrap (x8 + 1))) ?_
 exact zk (Z5g (x0) (x7) ((IntKind.i64.wrap (x8 + 1))) (zl) (zp) (z6) (zd) (zh) (z1) (z2) ox0 zn zb zu)
noncomputable def Z2y (x0 : List ByteArray) (x7 : Int) (x8 : Int) (zl : List Int) (zp : Int) : Option (Int × Int) :=
 (lget x0 x8).bind fun a1 =>
 (Z15 a1 zl zp).bind fun r2 =>
 if (r2.1) = true then
 (some (x8, r2.2))
 else
 (Z38 x0 x7 x8 zl r2.2)
theorem Z78 (x0 : List ByteArray) (x7 : Int) (x8 : Int) (zl : List Int) (zp : Int) (z6 : Int) (zd : Int) (zh : List Zr) (z1 : Int) (z2 : Int) (ox0 : Own) (zn : Own) (zb : Own) (zu : okApp zb = true) : Sim (Z1j zl z6 zd zh z1 z2 zn zb) (Z2y x0 x7 x8 zl zp) (ZdN 1 (.p (.lst ox0 (x0.map eS))) (.clo 27 [(.ptr 0 0)] []) (iv x7) (iv x8) [(Zj (Zk.mk zl zp z6 zd zh (Zi.mk z1 z2)) zn zb)]) := by
 unfold Z2y
 refine zf (Zgw ..) ?_
 refine ze ?_
 refine ze ?_
 refine zi fun a1 ha1 => ?_
 refine zo (.cptr [(.v (.string a1))]) ?_ (Eq.trans (by kernel_rfl) (xidx_of (o := (shrO ox0)) (k := .i64) (n := 1) (e := eS) (cs := (fun a => [eS a])) (fun _ => rfl) (fun _ => rfl) (by decide) ha1))
 refine zo (.p (.v (.string a1))) ?_
 refine zi fun r2 hr2 => ?_
 obtain ⟨qr2, er2, exr2, rfl⟩ := Z1b (a1) (zl) (zp) (z6) (zd) (zh) (z1) (z2) zn zb zu r2 hr2
 refine zv [0] (bv r2.1) [(Zj (Zk.mk zl r2.2 z6 zd zh (Zi.mk z1 z2)) zn zb)] er2 ?_
 refine za (r2.1) ?_ ?_
 ·refine ze ?_
  exact zr ((iv x8), [(Zj (Zk.mk zl r2.2 z6 zd zh (Zi.mk z1 z2)) zn zb)]) ⟨_, rfl⟩
 ·exact zk (Z72 (x0) (x7) (x8) (zl) (r2.2) (z6) (zd) (zh) (z1) (z2) ox0 zn zb zu)
noncomputable def Z49 (zp : Int) : Option (Int × Int) :=
 some ((-1), zp)
theorem Z70 (zl : List Int) (zp : Int) (z6 : Int) (zd : Int) (zh : List Zr) (z1 : Int) (z2 : Int) (zn : Own) (zb : Own) (zu : okApp zb = true) : Sim (Z1j zl z6 zd zh z1 z2 zn zb) (Z49 zp) (ZeR 1  [(Zj (Zk.mk zl zp z6 zd zh (Zi.mk z1 z2)) zn zb)]) := by
 unfold Z49
 refine zf (Zgh ..) ?_
 refine ze ?_
 exact zr ((iv (-1)), [(Zj (Zk.mk zl zp z6 zd zh (Zi.mk z1 z2)) zn zb)]) ⟨_, rfl⟩
noncomputable def Z26 (x0 : List ByteArray) (x7 : Int) (x8 : Int) (zl : List Int) (zp : Int) : Option (Int × Int) :=
 if ((decide (x8 < x7))) = true then
 (Z2y x0 x7 x8 zl zp)
 else
 (Z49 zp)
theorem Z6W (x0 : List ByteArray) (x7 : Int) (x8 : Int) (zl : List Int) (zp : Int) (z6 : Int) (zd : Int) (zh : List Zr) (z1 : Int) (z2 : Int) (ox0 : Own) (zn : Own) (zb : Own) (zu : okApp zb = true) : Sim (Z1j zl z6 zd zh z1 z2 zn zb) (Z26 x0 x7 x8 zl zp) (Zbp 1 (.p (.lst ox0 (x0.map eS))) (.clo 27 [(.ptr 0 0)] []) (iv x7) (iv x8) [(Zj (Zk.mk zl zp z6 zd zh (Zi.mk z1 z2)) zn zb)]) := by
 unfold Z26
 refine zf (Zhc ..) ?_
 refine ze ?_
 refine zo (bv (decide (x8 < x7))) ?_
 refine za ((decide (x8 < x7))) ?_ ?_
 ·exact zk (Z78 (x0) (x7) (x8) (zl) (zp) (z6) (zd) (zh) (z1) (z2) ox0 zn zb zu)
 ·exact zk (Z70 (zl) (zp) (z6) (zd) (zh) (z1) (z2) zn zb zu)
theorem Z3S (x0 : List ByteArray) (x7 : Int) (x8 : Int) (zl : List Int) (zp : Int) {r} (h : Z26 x0 x7 x8 zl zp = some r) : Z1t x0 x7 x8 zl zp = some r :=
 pick_of (fun _ _ ha hb => RRun.uniq (Z5S _ _ _ _ _ _ _ _) (ha default default default default default .ex .ex .ex rfl) (hb default default default default default .ex .ex .ex rfl)) (fun z6 zd zh z1 z2 ox0 zn zb zu => Z6W x0 x7 x8 zl zp z6 zd zh z1 z2 ox0 zn zb zu r h)
noncomputable def Z2P (zp : Int) (z1 : Int) (z2 : Int) (z1X : Int) (z2S : Int) (z2T : Int) (z2t : Int) (z2g : Int) (z2h : List Z7) (z1W : List Z3) : Option (Z3 × Int × Int × Int) :=
 some ((Z3.mk z1X z2S z2T z2t z2g z2h z1W), zp, z1, z2)
theorem Z4L (zl : List Int) (zp : Int) (z6 : Int) (zd : Int) (zh : List Zr) (z1 : Int) (z2 : Int) (b1 : Z3) (b2 : Z3) (z1X : Int) (z2S : Int) (z2T : Int) (z2t : Int) (z2g : Int) (z2h : List Z7) (z1W : List Z3) (zn : Own) (zb : Own) (zB : Own) (zy : Own) (z1H : Own) (z1x : Own) (z2X : Own) (z2w : Own) (zu : okApp zb = true) (z84 : okApp z1H = true) (z6U : okApp z1x = true) (z80 : okApp z2X = true) (z6P : okApp z2w = true) : Sim (Z2B zl z6 zd zh zn zb) (Z2P zp z1 z2 z1X z2S z2T z2t z2g z2h z1W) (Zb5 1 (.ptr 2 0) (.ptr 3 0) [(Zj (Zk.mk zl zp z6 zd zh (Zi.mk z1 z2)) zn zb), (Zq b1 zB zy), (Zq b2 z1H z1x), (Zq (Z3.mk z1X z2S z2T z2t z2g z2h z1W) z2X z2w)]) := by
 unfold Z2P
 refine zf (Zfw ..) ?_
 refine ze ?_
 refine zo (.p (.agg (ZE (Z3.mk z1X z2S z2T z2t z2g z2h z1W) (shrO z2X) (shrO z2w)))) ?_
 refine zt [(Zj (Zk.mk zl zp z6 zd zh (Zi.mk z1 z2)) zn zb), (Zq b1 zB zy), (Zq (Z3.mk z1X z2S z2T z2t z2g z2h z1W) (shrO z2X) (shrO z2w)), (Zq (Z3.mk z1X z2S z2T z2t z2g z2h z1W) z2X z2w)] ?_
 exact zr ((.p (.agg (ZE (Z3.mk z1X z2S z2T z2t z2g z2h z1W) .sh .sh))), [(Zj (Zk.mk zl zp z6 zd zh (Zi.mk z1 z2)) zn zb), (Zq b1 zB zy), (Zq (Z3.mk z1X z2S z2T z2t z2g z2h z1W) (shrO z2X) (shrO z2w)), (Zq (Z3.mk z1X z2S z2T z2t z2g z2h z1W) z2X z2w)]) ⟨_, rfl⟩
noncomputable def Z2m (zl : List Int) (zp : Int) (z1 : Int) (z2 : Int) (z1X : Int) (z2S : Int) (z2T : Int) (z2t : Int) (z2g : Int) (z2h : List Z7) (z1W : List Z3) : Option (Z3 × Int × Int × Int) :=
 (Z15 ((ByteArray.mk #[63])) zl zp).bind fun r1 =>
 if (r1.1) = true then
 (Z2P r1.2 z1 z2 z1X z2S z2T 1 z2g z2h z1W)
 else
 ((Z15 ((ByteArray.mk #[43])) zl r1.2).bind fun r2 =>
 if (r2.1) = true then
 (Z2P r2.2 z1 z2 z1X z2S z2T 2 z2g z2h z1W)
 else
 (Z2P r2.2 z1 z2 z1X z2S z2T z2t z2g z2h z1W))
theorem Z65 (zl : List Int) (zp : Int) (z6 : Int) (zd : Int) (zh : List Zr) (z1 : Int) (z2 : Int) (b1 : Z3) (b2 : Z3) (z1X : Int) (z2S : Int) (z2T : Int) (z2t : Int) (z2g : Int) (z2h : List Z7) (z1W : List Z3) (zn : Own) (zb : Own) (zB : Own) (zy : Own) (z1H : Own) (z1x : Own) (z2X : Own) (z2w : Own) (zu : okApp zb = true) (z84 : okApp z1H = true) (z6U : okApp z1x = true) (z80 : okApp z2X = true) (z6P : okApp z2w = true) : Sim (Z2B zl z6 zd zh zn zb) (Z2m zl zp z1 z2 z1X z2S z2T z2t z2g z2h z1W) (Zch 1 (.ptr 0 0) (.ptr 2 0) (.ptr 3 0) [(Zj (Zk.mk zl zp z6 zd zh (Zi.mk z1 z2)) zn zb), (Zq b1 zB zy), (Zq b2 z1H z1x), (Zq (Z3.mk z1X z2S z2T z2t z2g z2h z1W) z2X z2w)]) := by
 unfold Z2m
 refine zf (ZfE ..) ?_
 refine ze ?_
 refine zi fun r1 hr1 => ?_
 obtain ⟨qr1, er1, exr1, rfl⟩ := Z1b ((ByteArray.mk #[63])) (zl) (zp) (z6) (zd) (zh) (z1) (z2) zn zb zu r1 hr1
 refine zc [0] (bv r1.1) [(Zj (Zk.mk zl r1.2 z6 zd zh (Zi.mk z1 z2)) zn zb), (Zq b1 zB zy), (Zq b2 z1H z1x), (Zq (Z3.mk z1X z2S z2T z2t z2g z2h z1W) z2X z2w)] er1 ?_
 refine za (r1.1) ?_ ?_
 ·refine ze ?_
  refine zo (.ptr 3 3) ?_
  refine zt [(Zj (Zk.mk zl r1.2 z6 zd zh (Zi.mk z1 z2)) zn zb), (Zq b1 zB zy), (Zq b2 z1H z1x), (Zq (Z3.mk z1X z2S z2T 1 z2g z2h z1W) z2X z2w)] ?_
  exact zk (Z4L (zl) (r1.2) (z6) (zd) (zh) (z1) (z2) (b1) (b2) (z1X) (z2S) (z2T) (1) (z2g) (z2h) (z1W) zn zb zB zy z1H z1x z2X z2w zu z84 z6U z80 z6P)
 ·refine ze ?_
  refine zi fun r2 hr2 => ?_
  obtain ⟨qr2, er2, exr2, rfl⟩ := Z1b ((ByteArray.mk #[43])) (zl) (r1.2) (z6) (zd) (zh) (z1) (z2) zn zb zu r2 hr2
  refine zc [0] (bv r2.1) [(Zj (Zk.mk zl r2.2 z6 zd zh (Zi.mk z1 z2)) zn zb), (Zq b1 zB zy), (Zq b2 z1H z1x), (Zq (Z3.mk z1X z2S z2T z2t z2g z2h z1W) z2X z2w)] er2 ?_
  refine za (r2.1) ?_ ?_
  ·refine ze ?_
   refine zo (.ptr 3 3) ?_
   refine zt [(Zj (Zk.mk zl r2.2 z6 zd zh (Zi.mk z1 z2)) zn zb), (Zq b1 zB zy), (Zq b2 z1H z1x), (Zq (Z3.mk z1X z2S z2T 2 z2g z2h z1W) z2X z2w)] ?_
   exact zk (Z4L (zl) (r2.2) (z6) (zd) (zh) (z1) (z2) (b1) (b2) (z1X) (z2S) (z2T) (2) (z2g) (z2h) (z1W) zn zb zB zy z1H z1x z2X z2w zu z84 z6U z80 z6P)
  ·exact zk (Z4L (zl) (r2.2) (z6) (zd) (zh) (z1) (z2) (b1) (b2) (z1X) (z2S) (z2T) (z2t) (z2g) (z2h) (z1W) zn zb zB zy z1H z1x z2X z2w zu z84 z6U z80 z6P)
noncomputable def Z1Q (x2 : Bool) (x7 : Int) (zl : List Int) (zp : Int) (z1 : Int) (z2 : Int) (z1X : Int) (z2S : Int) (z2T : Int) (z2t : Int) (z2g : Int) (z2h : List Z7) (z1W : List Z3) : Option (Z3 × Int × Int × Int) :=
 if ((!x2)) = true then
 ((ZT 23 x7 zl z1 z2).bind fun r1 =>
 Z2m zl r1.1 r1.2.1 r1.2.2 z1X z2S z2T z2t z2g z2h z1W)
 else
 (Z2m zl zp z1 z2 z1X z2S z2T z2t z2g z2h z1W)
theorem Z3y (x2 : Bool) (x7 : Int) (zl : List Int) (zp : Int) (z6 : Int) (zd : Int) (zh : List Zr) (z1 : Int) (z2 : Int) (b1 : Z3) (b2 : Z3) (z1X : Int) (z2S : Int) (z2T : Int) (z2t : Int) (z2g : Int) (z2h : List Z7) (z1W : List Z3) (zn : Own) (zb : Own) (zB : Own) (zy : Own) (z1H : Own) (z1x : Own) (z2X : Own) (z2w : Own) (zu : okApp zb = true) (z84 : okApp z1H = true) (z6U : okApp z1x = true) (z80 : okApp z2X = true) (z6P : okApp z2w = true) : Sim (Z2B zl z6 zd zh zn zb) (Z1Q x2 x7 zl zp z1 z2 z1X z2S z2T z2t z2g z2h z1W) (Za2 1 (.ptr 0 0) (bv x2) (.ptr 2 0) (iv x7) (.ptr 3 0) [(Zj (Zk.mk zl zp z6 zd zh (Zi.mk z1 z2)) zn zb), (Zq b1 zB zy), (Zq b2 z1H z1x), (Zq (Z3.mk z1X z2S z2T z2t z2g z2h z1W) z2X z2w)]) := by
 unfold Z1Q
 refine zf (Zfc ..) ?_
 refine ze ?_
 refine zo (bv (!x2)) ?_
 refine za ((!x2)) ?_ ?_
 ·refine ze ?_
  refine zi fun r1 hr1 => ?_
  obtain ⟨qr1, er1, exr1, rfl⟩ := ZX (23) (x7) (zl) (zp) (z6) (zd) (zh) (z1) (z2) zn zb zu r1 hr1
  refine zc [0] (.p (.tup [])) [(Zj (Zk.mk zl r1.1 z6 zd zh (Zi.mk r1.2.1 r1.2.2)) zn zb), (Zq b1 zB zy), (Zq b2 z1H z1x), (Zq (Z3.mk z1X z2S z2T z2t z2g z2h z1W) z2X z2w)] er1 ?_
  exact zk (Z65 (zl) (r1.1) (z6) (zd) (zh) (r1.2.1) (r1.2.2) (b1) (b2) (z1X) (z2S) (z2T) (z2t) (z2g) (z2h) (z1W) zn zb zB zy z1H z1x z2X z2w zu z84 z6U z80 z6P)
 ·exact zk (Z65 (zl) (zp) (z6) (zd) (zh) (z1) (z2) (b1) (b2) (z1X) (z2S) (z2T) (z2t) (z2g) (z2h) (z1W) zn zb zB zy z1H z1x z2X z2w zu z84 z6U z80 z6P)
noncomputable def Z3t (x1 : Z3) (x2 : Bool) (zl : List Int) (zp : Int) (z6 : Int) (zd : Int) (zh : List Zr) (z1 : Int) (z2 : Int) : Option (Z3 × Int × Int × Int) :=
 (Z15 ((ByteArray.mk #[42])) zl zp).bind fun r1 =>
 if (r1.1) = true then
 (Z1Q x2 zp zl r1.2 z1 z2 4 0 ((-1)) 0 0 (([] : List Z7)) (([x1] : List Z3)))
 else
 ((Z15 ((ByteArray.mk #[43])) zl r1.2).bind fun r2 =>
 if (r2.1) = true then
 (Z1Q x2 zp zl r2.2 z1 z2 4 1 ((-1)) 0 0 (([] : List Z7)) (([x1] : List Z3)))
 else
 ((Z15 ((ByteArray.mk #[63])) zl r2.2).bind fun r3 =>
 if (r3.1) = true then
 (Z1Q x2 zp zl r3.2 z1 z2 4 0 1 0 0 (([] : List Z7)) (([x1] : List Z3)))
 else
 ((Z15 ((ByteArray.mk #[123])) zl r3.2).bind fun r4 =>
 if (r4.1) = true then
 ((Z4k zp zl r4.2 z6 zd zh z1 z2).bind fun r5 =>
 Z1Q x2 zp zl r5.2.2.1 r5.2.2.2.1 r5.2.2.2.2 4 r5.1 r5.2.1 0 0 (([] : List Z7)) (([x1] : List Z3)))
 else
 (some (x1, r4.2, z1, z2)))))
theorem Z9G (x1 : Z3) (x2 : Bool) (zl : List Int) (zp : Int) (z6 : Int) (zd : Int) (zh : List Zr) (z1 : Int) (z2 : Int) (z1u : Own) (z1g : Own) (zn : Own) (zb : Own) (zu : okApp zb = true) : Sim (Z2B zl z6 zd zh zn zb) (Z3t x1 x2 zl zp z6 zd zh z1 z2) (EE 43 [(.ptr 0 0), (.p (.agg (ZE x1 z1u z1g))), (bv x2)] [(Zj (Zk.mk zl zp z6 zd zh (Zi.mk z1 z2)) zn zb)]) := by
 unfold Z3t
 refine zf (ZiI ..) ?_
 refine ze ?_
 refine zx (.ptr 1 0) [(Zj (Zk.mk zl zp z6 zd zh (Zi.mk z1 z2)) zn zb), (Zq x1 z1u z1g)] ?_
 refine zz (.ptr 2 0) [(Zj (Zk.mk zl zp z6 zd zh (Zi.mk z1 z2)) zn zb), (Zq x1 z1u z1g), (Zq (Z3.mk 0 0 0 0 0 ([] : List Z7) ([] : List Z3)) .nl .nl)] ?_
 refine ze ?_
 refine zo (.ptr 0 0) ?_
 refine zo (.ptr 0 1) ?_
 refine zo (iv zp) ?_
 refine ze ?_
 refine zo (.p (.agg (ZE x1 (shrO z1u) (shrO z1g)))) ?_
 refine zo (.p (.lst .ex (([x1] : List Z3).map ZI))) ?_ (Eq.trans (b := some (.p (.lst .ex [.agg (Z27 x1)]))) (by kernel_rfl) (by simp only [List.map_cons, List.map_nil, Z36]))
 refine zo (.p (.agg (ZE (Z3.mk 4 0 (-1) 0 0 ([] : List Z7) ([x1] : List Z3)) .nl .ex))) ?_
 refine zz (.ptr 3 0) [(Zj (Zk.mk zl zp z6 zd zh (Zi.mk z1 z2)) zn zb), (Zq x1 z1u z1g), (Zq (Z3.mk 0 0 0 0 0 ([] : List Z7) ([] : List Z3)) .nl .nl), (Zq (Z3.mk 0 0 0 0 0 ([] : List Z7) ([] : List Z3)) .nl .nl)] ?_
 refine zt [(Zj (Zk.mk zl zp z6 zd zh (Zi.mk z1 z2)) zn zb), (Zq x1 z1u z1g), (Zq (Z3.mk 0 0 0 0 0 ([] : List Z7) ([] : List Z3)) .nl .nl), (Zq (Z3.mk 4 0 (-1) 0 0 ([] : List Z7) ([x1] : List Z3)) .nl .ex)] ?_
 refine ze ?_
 refine zi fun r1 hr1 => ?_
 obtain ⟨qr1, er1, exr1, rfl⟩ := Z1b ((ByteArray.mk #[42])) (zl) (zp) (z6) (zd) (zh) (z1) (z2) zn zb zu r1 hr1
 refine zc [0] (bv r1.1) [(Zj (Zk.mk zl r1.2 z6 zd zh (Zi.mk z1 z2)) zn zb), (Zq x1 z1u z1g), (Zq (Z3.mk 0 0 0 0 0 ([] : List Z7) ([] : List Z3)) .nl .nl), (Zq (Z3.mk 4 0 (-1) 0 0 ([] : List Z7) ([x1] : List Z3)) .nl .ex)] er1 ?_
 refine za (r1.1) ?_ ?_
 ·exact zk (Z3y (x2) (zp) (zl) (r1.2) (z6) (zd) (zh) (z1) (z2) (x1) ((Z3.mk 0 0 0 0 0 ([] : List Z7) ([] : List Z3))) (4) (0) ((-1)) (0) (0) (([] : List Z7)) (([x1] : List Z3)) zn zb z1u z1g .nl .nl .nl .ex zu rfl rfl rfl rfl)
 ·refine ze ?_
  refine zi fun r2 hr2 => ?_
  obtain ⟨qr2, er2, exr2, rfl⟩ := Z1b ((ByteArray.mk #[43])) (zl) (r1.2) (z6) (zd) (zh) (z1) (z2) zn zb zu r2 hr2
  refine zc [0] (bv r2.1) [(Zj (Zk.mk zl r2.2 z6 zd zh (Zi.mk z1 z2)) zn zb), (Zq x1 z1u z1g), (Zq (Z3.mk 0 0 0 0 0 ([] : List Z7) ([] : List Z3)) .nl .nl), (Zq (Z3.mk 4 0 (-1) 0 0 ([] : List Z7) ([x1] : List Z3)) .nl .ex)] er2 ?_
  refine za (r2.1) ?_ ?_
  ·refine ze ?_
   refine zo (.ptr 3 1) ?_
   refine zt [(Zj (Zk.mk zl r2.2 z6 zd zh (Zi.mk z1 z2)) zn zb), (Zq x1 z1u z1g), (Zq (Z3.mk 0 0 0 0 0 ([] : List Z7) ([] : List Z3)) .nl .nl), (Zq (Z3.mk 4 1 (-1) 0 0 ([] : List Z7) ([x1] : List Z3)) .nl .ex)] ?_
   exact zk (Z3y (x2) (zp) (zl) (r2.2) (z6) (zd) (zh) (z1) (z2) (x1) ((Z3.mk 0 0 0 0 0 ([] : List Z7) ([] : List Z3))) (4) (1) ((-1)) (0) (0) (([] : List Z7)) (([x1] : List Z3)) zn zb z1u z1g .nl .nl .nl .ex zu rfl rfl rfl rfl)
  ·refine ze ?_
   refine zi fun r3 hr3 => ?_
   obtain ⟨qr3, er3, exr3, rfl⟩ := Z1b ((ByteArray.mk #[63])) (zl) (r2.2) (z6) (zd) (zh) (z1) (z2) zn zb zu r3 hr3
   refine zc [0] (bv r3.1) [(Zj (Zk.mk zl r3.2 z6 zd zh (Zi.mk z1 z2)) zn zb), (Zq x1 z1u z1g), (Zq (Z3.mk 0 0 0 0 0 ([] : List Z7) ([] : List Z3)) .nl .nl), (Zq (Z3.mk 4 0 (-1) 0 0 ([] : List Z7) ([x1] : List Z3)) .nl .ex)] er3 ?_
   refine za (r3.1) ?_ ?_
   ·refine ze ?_
    refine zo (.ptr 3 2) ?_
    refine zt [(Zj (Zk.mk zl r3.2 z6 zd zh (Zi.mk z1 z2)) zn zb), (Zq x1 z1u z1g), (Zq (Z3.mk 0 0 0 0 0 ([] : List Z7) ([] : List Z3)) .nl .nl), (Zq (Z3.mk 4 0 1 0 0 ([] : List Z7) ([x1] : List Z3)) .nl .ex)] ?_
    exact zk (Z3y (x2) (zp) (zl) (r3.2) (z6) (zd) (zh) (z1) (z2) (x1) ((Z3.mk 0 0 0 0 0 ([] : List Z7) ([] : List Z3))) (4) (0) (1) (0) (0) (([] : List Z7)) (([x1] : List Z3)) zn zb z1u z1g .nl .nl .nl .ex zu rfl rfl rfl rfl)
   ·refine ze ?_
    refine zi fun r4 hr4 => ?_
    obtain ⟨qr4, er4, exr4, rfl⟩ := Z1b ((ByteArray.mk #[123])) (zl) (r3.2) (z6) (zd) (zh) (z1) (z2) zn zb zu r4 hr4
    refine zc [0] (bv r4.1) [(Zj (Zk.mk zl r4.2 z6 zd zh (Zi.mk z1 z2)) zn zb), (Zq x1 z1u z1g), (Zq (Z3.mk 0 0 0 0 0 ([] : List Z7) ([] : List Z3)) .nl .nl), (Zq (Z3.mk 4 0 (-1) 0 0 ([] : List Z7) ([x1] : List Z3)) .nl .ex)] er4 ?_
    refine za (r4.1) ?_ ?_
    ·refine ze ?_
     refine zi fun r5 hr5 => ?_
     obtain ⟨qr5, er5, exr5, rfl⟩ := Zag (zp) (zl) (r4.2) (z6) (zd) (zh) (z1) (z2) zn zb zu r5 hr5
     refine zc [0] (.p (.tup [(.v (.int .i64 r5.1)), (.v (.int .i64 r5.2.1))])) [(Zj (Zk.mk zl r5.2.2.1 z6 zd zh (Zi.mk r5.2.2.2.1 r5.2.2.2.2)) zn zb), (Zq x1 z1u z1g), (Zq (Z3.mk 0 0 0 0 0 ([] : List Z7) ([] : List Z3)) .nl .nl), (Zq (Z3.mk 4 0 (-1) 0 0 ([] : List Z7) ([x1] : List Z3)) .nl .ex)] er5 ?_
     refine zo (iv r5.1) ?_
     refine zo (iv r5.2.1) ?_
     refine zo (.ptr 3 1) ?_
     refine zt [(Zj (Zk.mk zl r5.2.2.1 z6 zd zh (Zi.mk r5.2.2.2.1 r5.2.2.2.2)) zn zb), (Zq x1 z1u z1g), (Zq (Z3.mk 0 0 0 0 0 ([] : List Z7) ([] : List Z3)) .nl .nl), (Zq (Z3.mk 4 r5.1 (-1) 0 0 ([] : List Z7) ([x1] : List Z3)) .nl .ex)] ?_
     refine zo (.ptr 3 2) ?_
     refine zt [(Zj (Zk.mk zl r5.2.2.1 z6 zd zh (Zi.mk r5.2.2.2.1 r5.2.2.2.2)) zn zb), (Zq x1 z1u z1g), (Zq (Z3.mk 0 0 0 0 0 ([] : List Z7) ([] : List Z3)) .nl .nl), (Zq (Z3.mk 4 r5.1 r5.2.1 0 0 ([] : List Z7) ([x1] : List Z3)) .nl .ex)] ?_
     exact zk (Z3y (x2) (zp) (zl) (r5.2.2.1) (z6) (zd) (zh) (r5.2.2.2.1) (r5.2.2.2.2) (x1) ((Z3.mk 0 0 0 0 0 ([] : List Z7) ([] : List Z3))) (4) (r5.1) (r5.2.1) (0) (0) (([] : List Z7)) (([x1] : List Z3)) zn zb z1u z1g .nl .nl .nl .ex zu rfl rfl rfl rfl)
    ·refine ze ?_
     refine zo (.p (.agg (ZE x1 (shrO z1u) (shrO z1g)))) ?_
     refine zt [(Zj (Zk.mk zl r4.2 z6 zd zh (Zi.mk z1 z2)) zn zb), (Zq x1 z1u z1g), (Zq x1 (shrO z1u) (shrO z1g)), (Zq (Z3.mk 4 0 (-1) 0 0 ([] : List Z7) ([x1] : List Z3)) .nl .ex)] ?_
     exact zr ((.p (.agg (ZE x1 .sh .sh))), [(Zj (Zk.mk zl r4.2 z6 zd zh (Zi.mk z1 z2)) zn zb), (Zq x1 z1u z1g), (Zq x1 (shrO z1u) (shrO z1g)), (Zq (Z3.mk 4 0 (-1) 0 0 ([] : List Z7) ([x1] : List Z3)) .nl .ex)]) ⟨_, rfl⟩
theorem Z6Y (x1 : Z3) (x2 : Bool) (zl : List Int) (zp : Int) (z6 : Int) (zd : Int) (zh : List Zr) (z1 : Int) (z2 : Int) {r} (h : Z3t x1 x2 zl zp z6 zd zh z1 z2 = some r) : Z4d x1 x2 zl zp z6 zd zh z1 z2 = some r :=
 pick_of (fun _ _ ha hb => RRun.uniq (Zav _ _ _ _ _ _) (ha .ex .ex .ex .ex rfl) (hb .ex .ex .ex .ex rfl)) (fun z1u z1g zn zb zu => Z9G x1 x2 zl zp z6 zd zh z1 z2 z1u z1g zn zb zu r h)
noncomputable def Z5I (x4 : Int) (zp : Int) (z1 : Int) (z2 : Int) : Option (Int × Int × Int × Int × Int) :=
 some (x4, (-1), zp, z1, z2)
theorem Z8P (x4 : Int) (zl : List Int) (zp : Int) (z6 : Int) (zd : Int) (zh : List Zr) (z1 : Int) (z2 : Int) (zn : Own) (zb : Own) (zu : okApp zb = true) : Sim (Z1O zl z6 zd zh zn zb) (Z5I x4 zp z1 z2) (Zea 1 (iv x4) [(Zj (Zk.mk zl zp z6 zd zh (Zi.mk z1 z2)) zn zb)]) := by
 unfold Z5I
 refine zf (ZgN ..) ?_
 refine ze ?_
 exact zr ((.p (.tup [(.v (.int .i64 x4)), (.v (.int .i64 (-1)))])), [(Zj (Zk.mk zl zp z6 zd zh (Zi.mk z1 z2)) zn zb)]) ⟨_, rfl⟩
noncomputable def Z4r (x4 : Int) (x5 : Int) (zp : Int) (z1 : Int) (z2 : Int) : Option (Int × Int × Int × Int × Int) :=
 some (x4, x5, zp, z1, z2)
theorem Z66 (x4 : Int) (x5 : Int) (zl : List Int) (zp : Int) (z6 : Int) (zd : Int) (zh : List Zr) (z1 : Int) (z2 : Int) (zn : Own) (zb : Own) (zu : okApp zb = true) : Sim (Z1O zl z6 zd zh zn zb) (Z4r x4 x5 zp z1 z2) (Zc9 1 (iv x4) (iv x5) [(Zj (Zk.mk zl zp z6 zd zh (Zi.mk z1 z2)) zn zb)]) := by
 unfold Z4r
 refine zf (Zfu ..) ?_
 refine ze ?_
 exact zr ((.p (.tup [(.v (.int .i64 x4)), (.v (.int .i64 x5))])), [(Zj (Zk.mk zl zp z6 zd zh (Zi.mk z1 z2)) zn zb)]) ⟨_, rfl⟩
noncomputable def Z23 (x1 : Int) (x4 : Int) (x5 : Int) (zl : List Int) (z1 : Int) (z2 : Int) : Option (Int × Int × Int × Int × Int) :=
 (ZT 23 x1 zl z1 z2).bind fun r1 =>
 Z4r x4 x5 r1.1 r1.2.1 r1.2.2
theorem Z3x (x1 : Int) (x4 : Int) (x5 : Int) (zl : List Int) (zp : Int) (z6 : Int) (zd : Int) (zh : List Zr) (z1 : Int) (z2 : Int) (zn : Own) (zb : Own) (zu : okApp zb = true) : Sim (Z1O zl z6 zd zh zn zb) (Z23 x1 x4 x5 zl z1 z2) (Za1 1 (.ptr 0 0) (iv x1) (iv x4) (iv x5) [(Zj (Zk.mk zl zp z6 zd zh (Zi.mk z1 z2)) zn zb)]) := by
 unfold Z23
 refine zf (Zfl ..) ?_
 refine ze ?_
 refine zi fun r1 hr1 => ?_
 obtain ⟨qr1, er1, exr1, rfl⟩ := ZX (23) (x1) (zl) (zp) (z6) (zd) (zh) (z1) (z2) zn zb zu r1 hr1
 refine zc [0] (.p (.tup [])) [(Zj (Zk.mk zl r1.1 z6 zd zh (Zi.mk r1.2.1 r1.2.2)) zn zb)] er1 ?_
 exact zk (Z66 (x4) (x5) (zl) (r1.1) (z6) (zd) (zh) (r1.2.1) (r1.2.2) zn zb zu)
noncomputable def Z1S (x1 : Int) (x4 : Int) (x5 : Int) (zl : List Int) (zp : Int) (z1 : Int) (z2 : Int) : Option (Int × Int × Int × Int × Int) :=
 if ((decide (x4 < 0))) = true then
 (Z23 x1 x4 x5 zl z1 z2)
 else
 (if ((decide (x5 < x4))) = true then
 (Z23 x1 x4 x5 zl z1 z2)
 else
 (if ((decide (64 < x5))) = true then
 (Z23 x1 x4 x5 zl z1 z2)
 else
 ((Z15 ((ByteArray.mk #[125])) zl zp).bind fun r1 =>
 if ((!r1.1)) = true then
 (Z23 x1 x4 x5 zl z1 z2)
 else
 (Z4r x4 x5 r1.2 z1 z2))))
theorem Z3M (x1 : Int) (x4 : Int) (x5 : Int) (zl : List Int) (zp : Int) (z6 : Int) (zd : Int) (zh : List Zr) (z1 : Int) (z2 : Int) (zn : Own) (zb : Own) (zu : okApp zb = true) : Sim (Z1O zl z6 zd zh zn zb) (Z1S x1 x4 x5 zl zp z1 z2) (Zbj 1 (.ptr 0 0) (iv x1) (iv x4) (iv x5) [(Zj (Zk.mk zl zp z6 zd zh (Zi.mk z1 z2)) zn zb)]) := by
 unfold Z1S
 refine zf (Zgj ..) ?_
 refine ze ?_
 refine zo (bv (decide (x4 < 0))) ?_
 refine za ((decide (x4 < 0))) ?_ ?_
 ·exact zk (Z3x (x1) (x4) (x5) (zl) (zp) (z6) (zd) (zh) (z1) (z2) zn zb zu)
 ·refine zo (bv (decide (x5 < x4))) ?_
  refine za ((decide (x5 < x4))) ?_ ?_
  ·exact zk (Z3x (x1) (x4) (x5) (zl) (zp) (z6) (zd) (zh) (z1) (z2) zn zb zu)
  ·refine zo (bv (decide (64 < x5))) ?_
   refine za ((decide (64 < x5))) ?_ ?_
   ·exact zk (Z3x (x1) (x4) (x5) (zl) (zp) (z6) (zd) (zh) (z1) (z2) zn zb zu)
   ·refine zi fun r1 hr1 => ?_
    obtain ⟨qr1, er1, exr1, rfl⟩ := Z1b ((ByteArray.mk #[125])) (zl) (zp) (z6) (zd) (zh) (z1) (z2) zn zb zu r1 hr1
    refine zc [0] (bv r1.1) [(Zj (Zk.mk zl r1.2 z6 zd zh (Zi.mk z1 z2)) zn zb)] er1 ?_
    refine zo (bv (!r1.1)) ?_
    refine za ((!r1.1)) ?_ ?_
    ·exact zk (Z3x (x1) (x4) (x5) (zl) (r1.2) (z6) (zd) (zh) (z1) (z2) zn zb zu)
    ·exact zk (Z66 (x4) (x5) (zl) (r1.2) (z6) (zd) (zh) (z1) (z2) zn zb zu)
noncomputable def Z31 (x1 : Int) (x4 : Int) (zl : List Int) (zp : Int) (z1 : Int) (z2 : Int) : Option (Int × Int × Int × Int × Int) :=
 Z1S x1 x4 ((-2)) zl zp z1 z2
theorem Z6k (x1 : Int) (x4 : Int) (zl : List Int) (zp : Int) (z6 : Int) (zd : Int) (zh : List Zr) (z1 : Int) (z2 : Int) (zn : Own) (zb : Own) (zu : okApp zb = true) : Sim (Z1O zl z6 zd zh zn zb) (Z31 x1 x4 zl zp z1 z2) (ZcB 1 (.ptr 0 0) (iv x1) (iv x4) [(Zj (Zk.mk zl zp z6 zd zh (Zi.mk z1 z2)) zn zb)]) := by
 unfold Z31
 refine zf (Zgf ..) ?_
 refine ze ?_
 exact zk (Z3M (x1) (x4) ((-2)) (zl) (zp) (z6) (zd) (zh) (z1) (z2) zn zb zu)
noncomputable def Z4I (x1 : Int) (x4 : Int) (zl : List Int) (zp : Int) (z1 : Int) (z2 : Int) : Option (Int × Int × Int × Int × Int) :=
 (Z15 ((ByteArray.mk #[125])) zl zp).bind fun r1 =>
 if (r1.1) = true then
 (if ((decide (x4 ≤ 64))) = true then
 (Z5I x4 r1.2 z1 z2)
 else
 (Z31 x1 x4 zl r1.2 z1 z2))
 else
 (Z31 x1 x4 zl r1.2 z1 z2)
theorem Z8Z (x1 : Int) (x4 : Int) (zl : List Int) (zp : Int) (z6 : Int) (zd : Int) (zh : List Zr) (z1 : Int) (z2 : Int) (zn : Own) (zb : Own) (zu : okApp zb = true) : Sim (Z1O zl z6 zd zh zn zb) (Z4I x1 x4 zl zp z1 z2) (ZdP 1 (.ptr 0 0) (iv x1) (iv x4) [(Zj (Zk.mk zl zp z6 zd zh (Zi.mk z1 z2)) zn zb)]) := by
 unfold Z4I
 refine zf (Zgr ..) ?_
 refine ze ?_
 refine zi fun r1 hr1 => ?_
 obtain ⟨qr1, er1, exr1, rfl⟩ := Z1b ((ByteArray.mk #[125])) (zl) (zp) (z6) (zd) (zh) (z1) (z2) zn zb zu r1 hr1
 refine zc [0] (bv r1.1) [(Zj (Zk.mk zl r1.2 z6 zd zh (Zi.mk z1 z2)) zn zb)] er1 ?_
 refine za (r1.1) ?_ ?_
 ·refine zo (bv (decide (x4 ≤ 64))) ?_
  refine za ((decide (x4 ≤ 64))) ?_ ?_
  ·exact zk (Z8P (x4) (zl) (r1.2) (z6) (zd) (zh) (z1) (z2) zn zb zu)
  ·exact zk (Z6k (x1) (x4) (zl) (r1.2) (z6) (zd) (zh) (z1) (z2) zn zb zu)
 ·exact zk (Z6k (x1) (x4) (zl) (r1.2) (z6) (zd) (zh) (z1) (z2) zn zb zu)
noncomputable def Z4h (x1 : Int) (zl : List Int) (zp : Int) (z6 : Int) (zd : Int) (zh : List Zr) (z1 : Int) (z2 : Int) : Option (Int × Int × Int × Int × Int) :=
 (Z3s zl zp z6 zd zh z1 z2).bind fun r1 =>
 (Z15 ((ByteArray.mk #[44])) zl r1.2).bind fun r2 =>
 if (r2.1) = true then
 ((Z3s zl r2.2 z6 zd zh z1 z2).bind fun r3 =>
 if ((decide (r3.1 < 0))) = true then
 (if ((decide (0 ≤ r1.1))) = true then
 (Z4I x1 r1.1 zl r3.2 z1 z2)
 else
 (Z1S x1 r1.1 r3.1 zl r3.2 z1 z2))
 else
 (Z1S x1 r1.1 r3.1 zl r3.2 z1 z2))
 else
 (Z1S x1 r1.1 r1.1 zl r2.2 z1 z2)
theorem Z9V (x1 : Int) (zl : List Int) (zp : Int) (z6 : Int) (zd : Int) (zh : List Zr) (z1 : Int) (z2 : Int) (zn : Own) (zb : Own) (zu : okApp zb = true) : Sim (Z1O zl z6 zd zh zn zb) (Z4h x1 zl zp z6 zd zh z1 z2) (EE 52 [(.ptr 0 0), (iv x1)] [(Zj (Zk.mk zl zp z6 zd zh (Zi.mk z1 z2)) zn zb)]) := by
 unfold Z4h
 refine zf (Zi7 ..) ?_
 refine ze ?_
 refine ze ?_
 refine zi fun r1 hr1 => ?_
 obtain ⟨qr1, er1, exr1, rfl⟩ := Z6V (zl) (zp) (z6) (zd) (zh) (z1) (z2) zn zb zu r1 hr1
 refine zc [0] (iv r1.1) [(Zj (Zk.mk zl r1.2 z6 zd zh (Zi.mk z1 z2)) zn zb)] er1 ?_
 refine ze ?_
 refine ze ?_
 refine zi fun r2 hr2 => ?_
 obtain ⟨qr2, er2, exr2, rfl⟩ := Z1b ((ByteArray.mk #[44])) (zl) (r1.2) (z6) (zd) (zh) (z1) (z2) zn zb zu r2 hr2
 refine zc [0] (bv r2.1) [(Zj (Zk.mk zl r2.2 z6 zd zh (Zi.mk z1 z2)) zn zb)] er2 ?_
 refine za (r2.1) ?_ ?_
 ·refine ze ?_
  refine zi fun r3 hr3 => ?_
  obtain ⟨qr3, er3, exr3, rfl⟩ := Z6V (zl) (r2.2) (z6) (zd) (zh) (z1) (z2) zn zb zu r3 hr3
  refine zc [0] (iv r3.1) [(Zj (Zk.mk zl r3.2 z6 zd zh (Zi.mk z1 z2)) zn zb)] er3 ?_
  refine ze ?_
  refine zo (bv (decide (r3.1 < 0))) ?_
  refine za ((decide (r3.1 < 0))) ?_ ?_
  ·refine zo (bv (decide (0 ≤ r1.1))) ?_
   refine za ((decide (0 ≤ r1.1))) ?_ ?_
   ·exact zk (Z8Z (x1) (r1.1) (zl) (r3.2) (z6) (zd) (zh) (z1) (z2) zn zb zu)
   ·exact zk (Z3M (x1) (r1.1) (r3.1) (zl) (r3.2) (z6) (zd) (zh) (z1) (z2) zn zb zu)
  ·exact zk (Z3M (x1) (r1.1) (r3.1) (zl) (r3.2) (z6) (zd) (zh) (z1) (z2) zn zb zu)
 ·exact zk (Z3M (x1) (r1.1) (r1.1) (zl) (r2.2) (z6) (zd) (zh) (z1) (z2) zn zb zu)
theorem Z6Q (x1 : Int) (zl : List Int) (zp : Int) (z6 : Int) (zd : Int) (zh : List Zr) (z1 : Int) (z2 : Int) {r} (h : Z4h x1 zl zp z6 zd zh z1 z2 = some r) : Z4k x1 zl zp z6 zd zh z1 z2 = some r :=
 pick_of (fun _ _ ha hb => RRun.uniq (Zam _ _ _ _ _ _) (ha .ex .ex rfl) (hb .ex .ex rfl)) (fun zn zb zu => Z9V x1 zl zp z6 zd zh z1 z2 zn zb zu r h)
noncomputable def Z6q (zl : List Int) (zp : Int) (z6 : Int) (zd : Int) (zh : List Zr) (z1 : Int) (z2 : Int) : Option (Int × Int) :=
 Z2x ((-1)) 0 zl zp z6 zd zh z1 z2
theorem Z9U (zl : List Int) (zp : Int) (z6 : Int) (zd : Int) (zh : List Zr) (z1 : Int) (z2 : Int) (zn : Own) (zb : Own) (zu : okApp zb = true) : Sim (Z1Z zl z6 zd zh z1 z2 zn zb) (Z6q zl zp z6 zd zh z1 z2) (EE 63 [(.ptr 0 0)] [(Zj (Zk.mk zl zp z6 zd zh (Zi.mk z1 z2)) zn zb)]) := by
 unfold Z6q
 refine zf (ZhX ..) ?_
 refine ze ?_
 refine ze ?_
 refine ze ?_
 exact zk (Z6t ((-1)) (0) (zl) (zp) (z6) (zd) (zh) (z1) (z2) zn zb zu)
theorem Zae (zl : List Int) (zp : Int) (z6 : Int) (zd : Int) (zh : List Zr) (z1 : Int) (z2 : Int) {r} (h : Z6q zl zp z6 zd zh z1 z2 = some r) : Z3s zl zp z6 zd zh z1 z2 = some r :=
 pick_of (fun _ _ ha hb => RRun.uniq (Z7w _ _ _ _ _ _ _ _) (ha .ex .ex rfl) (hb .ex .ex rfl)) (fun zn zb zu => Z9U zl zp z6 zd zh z1 z2 zn zb zu r h)
noncomputable def Z4H (x3 : Int) (x4 : Int) (zl : List Int) (zp : Int) (z6 : Int) (zd : Int) (zh : List Zr) (z1 : Int) (z2 : Int) : Option (Int × Int) :=
 (Z22 zl zp).bind fun r1 =>
 Z2x ((IntKind.i64.wrap ((IntKind.i64.wrap ((IntKind.i64.wrap (10 * (max x3 0))) + r1.1)) - 48))) ((IntKind.i64.wrap (x4 + 1))) zl r1.2 z6 zd zh z1 z2
theorem Z91 (x3 : Int) (x4 : Int) (zl : List Int) (zp : Int) (z6 : Int) (zd : Int) (zh : List Zr) (z1 : Int) (z2 : Int) (zn : Own) (zb : Own) (zu : okApp zb = true) : Sim (Z1Z zl z6 zd zh z1 z2 zn zb) (Z4H x3 x4 zl zp z6 zd zh z1 z2) (ZdX 1 (.ptr 0 0) (iv x3) (iv x4) [(Zj (Zk.mk zl zp z6 zd zh (Zi.mk z1 z2)) zn zb)]) := by
 unfold Z4H
 refine zf (ZgW ..) ?_
 refine ze ?_
 refine zo (iv (max x3 0)) ?_ (xminmax2_max _ _)
 refine zo (iv (IntKind.i64.wrap (10 * (max x3 0)))) ?_
 refine zi fun r1 hr1 => ?_
 obtain ⟨qr1, er1, exr1, rfl⟩ := Z2o (zl) (zp) (z6) (zd) (zh) (z1) (z2) zn zb zu r1 hr1
 refine zc [0] (iv r1.1) [(Zj (Zk.mk zl r1.2 z6 zd zh (Zi.mk z1 z2)) zn zb)] er1 ?_
 refine zo (iv (IntKind.i64.wrap ((IntKind.i64.wrap (10 * (max x3 0))) + r1.1))) ?_
 refine zo (iv (IntKind.i64.wrap ((IntKind.i64.wrap ((IntKind.i64.wrap (10 * (max x3 0))) + r1.1)) - 48))) ?_
 refine ze ?_
 refine zo (iv (IntKind.i64.wrap (x4 + 1))) ?_
 exact zk (Z6t ((IntKind.i64.wrap ((IntKind.i64.wrap ((IntKind.i64.wrap (10 * (max x3 0))) + r1.1)) - 48))) ((IntKind.i64.wrap (x4 + 1))) (zl) (r1.2) (z6) (zd) (zh) (z1) (z2) zn zb zu)
noncomputable def Z2U (x3 : Int) (zp : Int) : Option (Int × Int) :=
 some (x3, zp)
theorem Z4T (x3 : Int) (zl : List Int) (zp : Int) (z6 : Int) (zd : Int) (zh : List Zr) (z1 : Int) (z2 : Int) (zn : Own) (zb : Own) (zu : okApp zb = true) : Sim (Z1Z zl z6 zd zh z1 z2 zn zb) (Z2U x3 zp) (ZbV 1 (iv x3) [(Zj (Zk.mk zl zp z6 zd zh (Zi.mk z1 z2)) zn zb)]) := by
 unfold Z2U
 refine zf (Zhe ..) ?_
 refine ze ?_
 exact zr ((iv x3), [(Zj (Zk.mk zl zp z6 zd zh (Zi.mk z1 z2)) zn zb)]) ⟨_, rfl⟩
noncomputable def Z4z (x3 : Int) (x4 : Int) (zl : List Int) (zp : Int) (z6 : Int) (zd : Int) (zh : List Zr) (z1 : Int) (z2 : Int) : Option (Int × Int) :=
 if ((decide (x4 < 2))) = true then
 ((Z1F ((Zk.mk zl zp z6 zd zh (Zi.mk z1 z2)))).bind fun r1 =>
 if ((decide (48 ≤ r1))) = true then
 ((Z1F ((Zk.mk zl zp z6 zd zh (Zi.mk z1 z2)))).bind fun r2 =>
 if ((decide (r2 ≤ 57))) = true then
 (Z4H x3 x4 zl zp z6 zd zh z1 z2)
 else
 (Z2U x3 zp))
 else
 (Z2U x3 zp))
 else
 (Z2U x3 zp)
theorem Z8V (x3 : Int) (x4 : Int) (zl : List Int) (zp : Int) (z6 : Int) (zd : Int) (zh : List Zr) (z1 : Int) (z2 : Int) (zn : Own) (zb : Own) (zu : okApp zb = true) : Sim (Z1Z zl z6 zd zh z1 z2 zn zb) (Z4z x3 x4 zl zp z6 zd zh z1 z2) (Zbq 1 (.ptr 0 0) (iv x3) (iv x4) [(Zj (Zk.mk zl zp z6 zd zh (Zi.mk z1 z2)) zn zb)]) := by
 unfold Z4z
 refine zf (ZgK ..) ?_
 refine ze ?_
 refine zo (bv (decide (x4 < 2))) ?_
 refine za ((decide (x4 < 2))) ?_ ?_
 ·refine zi fun r1 hr1 => ?_
  obtain ⟨qr1, er1, exr1, rfl⟩ := Z1I ((Zk.mk zl zp z6 zd zh (Zi.mk z1 z2))) zn zb zu r1 hr1
  refine zc [0] (iv r1) [(Zj (Zk.mk zl zp z6 zd zh (Zi.mk z1 z2)) zn zb)] er1 ?_
  refine zo (bv (decide (48 ≤ r1))) ?_
  refine za ((decide (48 ≤ r1))) ?_ ?_
  ·refine zi fun r2 hr2 => ?_
   obtain ⟨qr2, er2, exr2, rfl⟩ := Z1I ((Zk.mk zl zp z6 zd zh (Zi.mk z1 z2))) zn zb zu r2 hr2
   refine zc [0] (iv r2) [(Zj (Zk.mk zl zp z6 zd zh (Zi.mk z1 z2)) zn zb)] er2 ?_
   refine zo (bv (decide (r2 ≤ 57))) ?_
   refine za ((decide (r2 ≤ 57))) ?_ ?_
   ·exact zk (Z91 (x3) (x4) (zl) (zp) (z6) (zd) (zh) (z1) (z2) zn zb zu)
   ·exact zk (Z4T (x3) (zl) (zp) (z6) (zd) (zh) (z1) (z2) zn zb zu)
  ·exact zk (Z4T (x3) (zl) (zp) (z6) (zd) (zh) (z1) (z2) zn zb zu)
 ·exact zk (Z4T (x3) (zl) (zp) (z6) (zd) (zh) (z1) (z2) zn zb zu)
theorem Z9n (x3 : Int) (x4 : Int) (zl : List Int) (zp : Int) (z6 : Int) (zd : Int) (zh : List Zr) (z1 : Int) (z2 : Int) {r} (h : Z4z x3 x4 zl zp z6 zd zh z1 z2 = some r) : Z2x x3 x4 zl zp z6 zd zh z1 z2 = some r :=
 pick_of (fun _ _ ha hb => RRun.uniq (Z7w _ _ _ _ _ _ _ _) (ha .ex .ex rfl) (hb .ex .ex rfl)) (fun zn zb zu => Z8V x3 x4 zl zp z6 zd zh z1 z2 zn zb zu r h)
noncomputable def Z1J  : Option (Bool) :=
 some (false)
theorem Z1T  : Sim (Z1r) (Z1J) (Z8A 0  []) := by
 unfold Z1J
 refine zf (Zh0 ..) ?_
 refine ze ?_
 exact zr ((bv false), []) ⟨_, rfl⟩
noncomputable def Z45 (b0 : Z3) (b1 : Z3) : Option (Bool) :=
 Z39 b0.Kids ((b0.Kids.length : Int)) 0 b1
theorem Z8t (b0 : Z3) (b1 : Z3) (z2i : Own) (z1L : Own) (zB : Own) (zy : Own) : Sim (Z1r) (Z45 b0 b1) (Ze1 0 (.ptr 0 0) (.ptr 1 0) [(Zq b0 z2i z1L), (Zq b1 zB zy)]) := by
 unfold Z45
 refine zf (Zhb ..) ?_
 refine ze ?_
 refine zo (.ptr 0 6) ?_
 refine zo (.p (.lst (shrO z1L) (b0.Kids.map ZI))) ?_
 refine zo (iv (b0.Kids.length : Int)) ?_ (Eq.trans (by kernel_rfl) (xlen_of (P := PP) (t := 25) (d := 27) (by kernel_rfl) ZI (shrO z1L) b0.Kids))
 exact zk (Z67 (b0.Kids) ((b0.Kids.length : Int)) (0) (b0) (b1) (shrO z1L) z2i z1L zB zy)
noncomputable def Z4N (x0 : Z3) (x1 : Z3) : Option (Bool) :=
 if ((x0.Kind != x1.Kind)) = true then
 (Z1J)
 else
 (if ((x0.Lo != x1.Lo)) = true then
 (Z1J)
 else
 (if ((x0.Hi != x1.Hi)) = true then
 (Z1J)
 else
 (if ((x0.Mode != x1.Mode)) = true then
 (Z1J)
 else
 (if ((x0.Ref != x1.Ref)) = true then
 (Z1J)
 else
 (if (((x0.Kids.length : Int) != (x1.Kids.length : Int))) = true then
 (Z1J)
 else
 ((Z56 x0.Set x1.Set).bind fun r1 =>
 if ((!r1)) = true then
 (Z1J)
 else
 (Z45 x0 x1)))))))
theorem Z9i (x0 : Z3) (x1 : Z3) (z5C : Own) (z4F : Own) (z1u : Own) (z1g : Own) : Sim (Z1r) (Z4N x0 x1) (EE 17 [(.p (.agg (ZE x0 z5C z4F))), (.p (.agg (ZE x1 z1u z1g)))] []) := by
 unfold Z4N
 refine zf (Zi4 ..) ?_
 refine ze ?_
 refine zx (.ptr 0 0) [(Zq x0 z5C z4F)] ?_
 refine zx (.ptr 1 0) [(Zq x0 z5C z4F), (Zq x1 z1u z1g)] ?_
 refine ze ?_
 refine zo (.ptr 0 0) ?_
 refine zo (iv x0.Kind) ?_
 refine zo (.ptr 1 0) ?_
 refine zo (iv x1.Kind) ?_
 refine zo (bv (x0.Kind != x1.Kind)) ?_
 refine za ((x0.Kind != x1.Kind)) ?_ ?_
 ·exact zk (Z1T )
 ·refine zo (.ptr 0 1) ?_
  refine zo (iv x0.Lo) ?_
  refine zo (.ptr 1 1) ?_
  refine zo (iv x1.Lo) ?_
  refine zo (bv (x0.Lo != x1.Lo)) ?_
  refine za ((x0.Lo != x1.Lo)) ?_ ?_
  ·exact zk (Z1T )
  ·refine zo (.ptr 0 2) ?_
   refine zo (iv x0.Hi) ?_
   refine zo (.ptr 1 2) ?_
   refine zo (iv x1.Hi) ?_
   refine zo (bv (x0.Hi != x1.Hi)) ?_
   refine za ((x0.Hi != x1.Hi)) ?_ ?_
   ·exact zk (Z1T )
   ·refine zo (.ptr 0 3) ?_
    refine zo (iv x0.Mode) ?_
    refine zo (.ptr 1 3) ?_
    refine zo (iv x1.Mode) ?_
    refine zo (bv (x0.Mode != x1.Mode)) ?_
    refine za ((x0.Mode != x1.Mode)) ?_ ?_
    ·exact zk (Z1T )
    ·refine zo (.ptr 0 4) ?_
     refine zo (iv x0.Ref) ?_
     refine zo (.ptr 1 4) ?_
     refine zo (iv x1.Ref) ?_
     refine zo (bv (x0.Ref != x1.Ref)) ?_
     refine za ((x0.Ref != x1.Ref)) ?_ ?_
     ·exact zk (Z1T )
     ·refine zo (.ptr 0 6) ?_
      refine zo (.p (.lst (shrO z4F) (x0.Kids.map ZI))) ?_
      refine zo (iv (x0.Kids.length : Int)) ?_ (Eq.trans (by kernel_rfl) (xlen_of (P := PP) (t := 25) (d := 27) (by kernel_rfl) ZI (shrO z4F) x0.Kids))
      refine zo (.ptr 1 6) ?_
      refine zo (.p (.lst (shrO z1g) (x1.Kids.map ZI))) ?_
      refine zo (iv (x1.Kids.length : Int)) ?_ (Eq.trans (by kernel_rfl) (xlen_of (P := PP) (t := 25) (d := 27) (by kernel_rfl) ZI (shrO z1g) x1.Kids))
      refine zo (bv ((x0.Kids.length : Int) != (x1.Kids.length : Int))) ?_
      refine za (((x0.Kids.length : Int) != (x1.Kids.length : Int))) ?_ ?_
      ·exact zk (Z1T )
      ·refine zo (.ptr 0 5) ?_
       refine zo (.p (.lst (shrO z5C) (x0.Set.map Zs))) ?_
       refine zo (.ptr 1 5) ?_
       refine zo (.p (.lst (shrO z1u) (x1.Set.map Zs))) ?_
       refine zi fun r1 hr1 => ?_
       obtain ⟨qr1, er1, exr1, rfl⟩ := Z9W (x0.Set) (x1.Set) .sh .sh r1 hr1
       refine zc [] (bv r1) [(Zq x0 z5C z4F), (Zq x1 z1u z1g)] er1 ?_
       refine zo (bv (!r1)) ?_
       refine za ((!r1)) ?_ ?_
       ·exact zk (Z1T )
       ·exact zk (Z8t (x0) (x1) z5C z4F z1u z1g)
theorem Z9v (x0 : Z3) (x1 : Z3) {r} (h : Z4N x0 x1 = some r) : Z21 x0 x1 = some r :=
 pick_of (fun _ _ ha hb => RRun.uniq (Z6L) (ha .ex .ex .ex .ex) (hb .ex .ex .ex .ex)) (fun z5C z4F z1u z1g => Z9i x0 x1 z5C z4F z1u z1g r h)
noncomputable def Z44 (x58 : List Z3) (x59 : Int) (x60 : Int) (b1 : Z3) : Option (Bool) :=
 Z39 x58 x59 ((IntKind.i64.wrap (x60 + 1))) b1
theorem Z8q (x58 : List Z3) (x59 : Int) (x60 : Int) (b0 : Z3) (b1 : Z3) (ox58 : Own) (z2i : Own) (z1L : Own) (zB : Own) (zy : Own) : Sim (Z1r) (Z44 x58 x59 x60 b1) (Zer 0 (.ptr 1 0) (.p (.lst ox58 (x58.map ZI))) (iv x59) (iv x60) [(Zq b0 z2i z1L), (Zq b1 zB zy)]) := by
 unfold Z44
 refine zf (ZgH ..) ?_
 refine ze ?_
 refine zo (iv (IntKind.i64.wrap (x60 + 1))) ?_
 exact zk (Z67 (x58) (x59) ((IntKind.i64.wrap (x60 + 1))) (b0) (b1) ox58 z2i z1L zB zy)
noncomputable def Z46 (x58 : List Z3) (x59 : Int) (x60 : Int) (b1 : Z3) : Option (Bool) :=
 (lget x58 x60).bind fun a1 =>
 (lget b1.Kids x60).bind fun a2 =>
 (Z21 a1 a2).bind fun r3 =>
 if ((!r3)) = true then
 (some (false))
 else
 (Z44 x58 x59 x60 b1)
theorem Z8D (x58 : List Z3) (x59 : Int) (x60 : Int) (b0 : Z3) (b1 : Z3) (ox58 : Own) (z2i : Own) (z1L : Own) (zB : Own) (zy : Own) : Sim (Z1r) (Z46 x58 x59 x60 b1) (Ze5 0 (.ptr 1 0) (.p (.lst ox58 (x58.map ZI))) (iv x59) (iv x60) [(Zq b0 z2i z1L), (Zq b1 zB zy)]) := by
 unfold Z46
 refine zf (Zhd ..) ?_
 refine ze ?_
 refine zi fun a1 ha1 => ?_
 refine zo (.cptr (ZE a1 .sh .sh)) ?_ (Eq.trans (by kernel_rfl) (xidx_of (o := ox58) (k := .i64) (n := 7) (e := ZI) (cs := Z27) Z4X (fun _ => rfl) (by decide) ha1))
 refine zo (.p (.agg (ZE a1 .sh .sh))) ?_
 refine zz (.ptr 2 0) [(Zq b0 z2i z1L), (Zq b1 zB zy), (Zq (Z3.mk 0 0 0 0 0 ([] : List Z7) ([] : List Z3)) .nl .nl)] ?_
 refine zt [(Zq b0 z2i z1L), (Zq b1 zB zy), (Zq a1 .sh .sh)] ?_
 refine ze ?_
 refine zo (.p (.agg (ZE a1 .sh .sh))) ?_
 refine zo (.ptr 1 6) ?_
 refine zo (.p (.lst (shrO zy) (b1.Kids.map ZI))) ?_
 refine zi fun a2 ha2 => ?_
 refine zo (.cptr (ZE a2 .sh .sh)) ?_ (Eq.trans (by kernel_rfl) (xidx_of (o := (shrO zy)) (k := .i64) (n := 7) (e := ZI) (cs := Z27) Z4X (fun _ => rfl) (by decide) ha2))
 refine zo (.p (.agg (ZE a2 .sh .sh))) ?_
 refine zi fun r3 hr3 => ?_
 obtain ⟨qr3, er3, exr3, rfl⟩ := Z5n (a1) (a2) .sh .sh .sh .sh r3 hr3
 refine zc [] (bv r3) [(Zq b0 z2i z1L), (Zq b1 zB zy), (Zq a1 .sh .sh)] er3 ?_
 refine zo (bv (!r3)) ?_
 refine za ((!r3)) ?_ ?_
 ·refine ze ?_
  exact zr ((bv false), [(Zq b0 z2i z1L), (Zq b1 zB zy), (Zq a1 .sh .sh)]) ⟨_, rfl⟩
 ·exact zk (Z8q (x58) (x59) (x60) (b0) (b1) ox58 z2i z1L zB zy)
noncomputable def Z5m  : Option (Bool) :=
 some (true)
theorem Z8s  : Sim (Z1r) (Z5m) (Zec 0  []) := by
 unfold Z5m
 refine zf (Zgd ..) ?_
 refine ze ?_
 exact zr ((bv true), []) ⟨_, rfl⟩
noncomputable def Z3a (x58 : List Z3) (x59 : Int) (x60 : Int) (b1 : Z3) : Option (Bool) :=
 if ((decide (x60 < x59))) = true then
 (Z46 x58 x59 x60 b1)
 else
 (Z5m)
theorem Z8p (x58 : List Z3) (x59 : Int) (x60 : Int) (b0 : Z3) (b1 : Z3) (ox58 : Own) (z2i : Own) (z1L : Own) (zB : Own) (zy : Own) : Sim (Z1r) (Z3a x58 x59 x60 b1) (ZaX 0 (.ptr 1 0) (.p (.lst ox58 (x58.map ZI))) (iv x59) (iv x60) [(Zq b0 z2i z1L), (Zq b1 zB zy)]) := by
 unfold Z3a
 refine zf (ZgL ..) ?_
 refine ze ?_
 refine zo (bv (decide (x60 < x59))) ?_
 refine za ((decide (x60 < x59))) ?_ ?_
 ·exact zk (Z8D (x58) (x59) (x60) (b0) (b1) ox58 z2i z1L zB zy)
 ·exact zk (Z8s )
theorem Z68 (x58 : List Z3) (x59 : Int) (x60 : Int) (b1 : Z3) {r} (h : Z3a x58 x59 x60 b1 = some r) : Z39 x58 x59 x60 b1 = some r :=
 pick_of (fun _ _ ha hb => RRun.uniq (Z6L) (ha default .ex .ex .ex .ex .ex) (hb default .ex .ex .ex .ex .ex)) (fun b0 ox58 z2i z1L zB zy => Z8p x58 x59 x60 b0 b1 ox58 z2i z1L zB zy r h)
end Go.Proofs.YtadodmjdkphddaaDoor.N2
end
section
set_option linter.unusedSimpArgs false
set_option linter.unusedVariables false
namespace Go.Proofs.YtadodmjdkphddaaDoor.N2
open Go Go.Abs
set_option linter.unusedVariables false
set_option maxRecDepth 100000
noncomputable def Z4u (x0 : List Z7) (x1 : List Z7) : Option (Bool) :=
 Z3m x1 x0 ((x0.length : Int)) 0
theorem Z8M (x0 : List Z7) (x1 : List Z7) (ox0 : Own) (ox1 : Own) : Sim (Z1C) (Z4u x0 x1) (Ze4 0 (.p (.lst ox0 (x0.map Zs))) (.p (.lst ox1 (x1.map Zs))) []) := by
 unfold Z4u
 refine zf (Zgo ..) ?_
 refine ze ?_
 refine zo (iv (x0.length : Int)) ?_ (Eq.trans (by kernel_rfl) (xlen_of (P := PP) (t := 24) (d := 39) (by kernel_rfl) Zs (shrO ox0) x0))
 exact zk (Z6o (x1) (x0) ((x0.length : Int)) (0) ox1 (shrO ox0))
noncomputable def Z59 (x0 : List Z7) (x1 : List Z7) : Option (Bool) :=
 if (((x0.length : Int) != (x1.length : Int))) = true then
 (some (false))
 else
 (Z4u x0 x1)
theorem Z9w (x0 : List Z7) (x1 : List Z7) (ox0 : Own) (ox1 : Own) : Sim (Z1C) (Z59 x0 x1) (EE 22 [(.p (.lst ox0 (x0.map Zs))), (.p (.lst ox1 (x1.map Zs)))] []) := by
 unfold Z59
 refine zf (ZhE ..) ?_
 refine ze ?_
 refine ze ?_
 refine zo (iv (x0.length : Int)) ?_ (Eq.trans (by kernel_rfl) (xlen_of (P := PP) (t := 24) (d := 39) (by kernel_rfl) Zs (shrO ox0) x0))
 refine zo (iv (x1.length : Int)) ?_ (Eq.trans (by kernel_rfl) (xlen_of (P := PP) (t := 24) (d := 39) (by kernel_rfl) Zs (shrO ox1) x1))
 refine zo (bv ((x0.length : Int) != (x1.length : Int))) ?_
 refine za (((x0.length : Int) != (x1.length : Int))) ?_ ?_
 ·refine ze ?_
  exact zr ((bv false), []) ⟨_, rfl⟩
 ·exact zk (Z8M (x0) (x1) ox0 ox1)
theorem Z9R (x0 : List Z7) (x1 : List Z7) {r} (h : Z59 x0 x1 = some r) : Z56 x0 x1 = some r :=
 pick_of (fun _ _ ha hb => RRun.uniq (Z77) (ha .ex .ex) (hb .ex .ex)) (fun ox0 ox1 => Z9w x0 x1 ox0 ox1 r h)
noncomputable def Z4s (x1 : List Z7) (x12 : List Z7) (x13 : Int) (x14 : Int) : Option (Bool) :=
 Z3m x1 x12 x13 ((IntKind.i64.wrap (x14 + 1)))
theorem Z8F (x1 : List Z7) (x12 : List Z7) (x13 : Int) (x14 : Int) (ox1 : Own) (ox12 : Own) : Sim (Z1C) (Z4s x1 x12 x13 x14) (ZeQ 0 (.p (.lst ox1 (x1.map Zs))) (.p (.lst ox12 (x12.map Zs))) (iv x13) (iv x14) []) := by
 unfold Z4s
 refine zf (ZfK ..) ?_
 refine ze ?_
 refine zo (iv (IntKind.i64.wrap (x14 + 1))) ?_
 exact zk (Z6o (x1) (x12) (x13) ((IntKind.i64.wrap (x14 + 1))) ox1 ox12)
noncomputable def Z4q (x1 : List Z7) (x12 : List Z7) (x13 : Int) (x14 : Int) : Option (Bool) :=
 (lget x12 x14).bind fun a1 =>
 (lget x1 x14).bind fun a2 =>
 if ((!((a1.Lo == a2.Lo) && ((a1.Hi == a2.Hi) && true)))) = true then
 (some (false))
 else
 (Z4s x1 x12 x13 x14)
theorem Z8L (x1 : List Z7) (x12 : List Z7) (x13 : Int) (x14 : Int) (ox1 : Own) (ox12 : Own) : Sim (Z1C) (Z4q x1 x12 x13 x14) (Zeo 0 (.p (.lst ox1 (x1.map Zs))) (.p (.lst ox12 (x12.map Zs))) (iv x13) (iv x14) []) := by
 unfold Z4q
 refine zf (Zg2 ..) ?_
 refine ze ?_
 refine zi fun a1 ha1 => ?_
 refine zo (.cptr (ZG a1)) ?_ (Eq.trans (by kernel_rfl) (xidx_of (o := ox12) (k := .i64) (n := 2) (e := Zs) (cs := Z3H) (fun _ => rfl) (fun _ => rfl) (by decide) ha1))
 refine zo (.p (.agg (ZG a1))) ?_
 refine zz (.ptr 0 0) [(Z1n (Z7.mk 0 0))] ?_
 refine zt [(Z1n a1)] ?_
 refine ze ?_
 refine zo (.p (.agg (ZG a1))) ?_
 refine zi fun a2 ha2 => ?_
 refine zo (.cptr (ZG a2)) ?_ (Eq.trans (by kernel_rfl) (xidx_of (o := (shrO ox1)) (k := .i64) (n := 2) (e := Zs) (cs := Z3H) (fun _ => rfl) (fun _ => rfl) (by decide) ha2))
 refine zo (.p (.agg (ZG a2))) ?_
 refine zo (bv (!((a1.Lo == a2.Lo) && ((a1.Hi == a2.Hi) && true)))) ?_ (Eq.trans (b := xbin PP .neq 39 (.p (.agg (ZG a1))) (.p (.agg (ZG a2)))) (by kernel_rfl) (xeq_neq (by kernel_rfl) (by kernel_rfl) (by kernel_rfl) (by kernel_rfl) (by kernel_rfl)))
 refine za ((!((a1.Lo == a2.Lo) && ((a1.Hi == a2.Hi) && true)))) ?_ ?_
 ·refine ze ?_
  exact zr ((bv false), [(Z1n a1)]) ⟨_, rfl⟩
 ·exact zk (Z8F (x1) (x12) (x13) (x14) ox1 ox12)
noncomputable def Z5y  : Option (Bool) :=
 some (true)
theorem Z8E  : Sim (Z1C) (Z5y) (ZeD 0  []) := by
 unfold Z5y
 refine zf (Zgi ..) ?_
 refine ze ?_
 exact zr ((bv true), []) ⟨_, rfl⟩
noncomputable def Z3n (x1 : List Z7) (x12 : List Z7) (x13 : Int) (x14 : Int) : Option (Bool) :=
 if ((decide (x14 < x13))) = true then
 (Z4q x1 x12 x13 x14)
 else
 (Z5y)
theorem Z8G (x1 : List Z7) (x12 : List Z7) (x13 : Int) (x14 : Int) (ox1 : Own) (ox12 : Own) : Sim (Z1C) (Z3n x1 x12 x13 x14) (Zb9 0 (.p (.lst ox1 (x1.map Zs))) (.p (.lst ox12 (x12.map Zs))) (iv x13) (iv x14) []) := by
 unfold Z3n
 refine zf (Zg5 ..) ?_
 refine ze ?_
 refine zo (bv (decide (x14 < x13))) ?_
 refine za ((decide (x14 < x13))) ?_ ?_
 ·exact zk (Z8L (x1) (x12) (x13) (x14) ox1 ox12)
 ·exact zk (Z8E )
theorem Z6r (x1 : List Z7) (x12 : List Z7) (x13 : Int) (x14 : Int) {r} (h : Z3n x1 x12 x13 x14 = some r) : Z3m x1 x12 x13 x14 = some r :=
 pick_of (fun _ _ ha hb => RRun.uniq (Z77) (ha .ex .ex) (hb .ex .ex)) (fun ox1 ox12 => Z8G x1 x12 x13 x14 ox1 ox12 r h)
end Go.Proofs.YtadodmjdkphddaaDoor.N2
end
