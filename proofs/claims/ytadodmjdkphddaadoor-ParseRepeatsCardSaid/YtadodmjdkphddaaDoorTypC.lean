/- More of the functions' typed texts. No condition. -/
import Derived.Test.YtadodmjdkphddaaDoorTypA

section
set_option linter.unusedSimpArgs false
set_option linter.unusedVariables false
namespace Go.Proofs.YtadodmjdkphddaaDoor.N2
open Go Go.Abs
set_option linter.unusedVariables false
set_option maxRecDepth 100000
noncomputable def Z4L (x0 : List Z7) (zZ : List Z7) : Option ((List Z7)) :=
 (Z75 zZ x0).bind fun r1 =>
 some (r1.1)
theorem Z91 (x0 : List Z7) (zZ : List Z7) (ox0 : Own) (z8L : Own) : Sim (Z3M) (Z4L x0 zZ) (EE 58 [(.p (.lst ox0 (x0.map Zs))), (.ptr 0 0)] [[(.p (.lst z8L (zZ.map Zs)))]]) := by
 unfold Z4L
 refine zf (Zhi ..) ?_
 refine ze ?_
 refine zo (.p (.lst (shrO z8L) (zZ.map Zs))) ?_
 refine zi fun r1 hr1 => ?_
 obtain ⟨qr1, er1, exr1, rfl⟩ := Zc2 (zZ) (x0) .sh .sh r1 hr1
 refine zc [] (.p (.tup [(.lst .sh (r1.1.map Zs)), (.v (.int .i64 r1.2))])) [[(.p (.lst z8L (zZ.map Zs)))]] er1 ?_
 refine zo (.p (.lst .sh (r1.1.map Zs))) ?_
 refine zo (iv r1.2) ?_
 refine zt [[(.p (.lst .sh (r1.1.map Zs)))]] ?_
 exact zr ((.p (.tup [])), [[(.p (.lst .sh (r1.1.map Zs)))]]) ⟨.sh, _, rfl⟩
theorem Z9t (x0 : List Z7) (zZ : List Z7) {r} (h : Z4L x0 zZ = some r) : Z3O x0 zZ = some r :=
 pick_of (fun _ _ ha hb => RRun.uniq (Z9N) (ha .ex .ex) (hb .ex .ex)) (fun ox0 z8L => Z91 x0 zZ ox0 z8L r h)
noncomputable def Z5N  : Option ((List Z7) × Int) :=
 some (([] : List Z7), 10)
theorem Z7W  : Sim (Z4B) (Z5N) (ZcC 0  []) := by
 unfold Z5N
 refine zf (Zgb ..) ?_
 refine ze ?_
 exact zr ((.p (.tup [(.lst .sh []), (.v (.int .i64 10))])), []) ⟨_, rfl⟩
noncomputable def Z5O (x0 : List Z7) (x1 : List Z7) : Option ((List Z7) × Int) :=
 (Z5Z (([x0, x1] : List (List Z7)))).bind fun r1 =>
 (Z79 r1).bind fun r2 =>
 some (r2, 0)
theorem Zbc (x0 : List Z7) (x1 : List Z7) (ox0 : Own) (ox1 : Own) : Sim (Z4B) (Z5O x0 x1) (Zdq 0 (.p (.lst ox0 (x0.map Zs))) (.p (.lst ox1 (x1.map Zs))) []) := by
 unfold Z5O
 refine zf (ZgJ ..) ?_
 refine ze ?_
 refine zo (.p (.lst .ex (([x0, x1] : List (List Z7)).map (eL Zs)))) ?_
 refine zi fun r1 hr1 => ?_
 obtain ⟨qr1, er1, exr1, rfl⟩ := Z9M (([x0, x1] : List (List Z7))) .sh r1 hr1
 refine zc [] (.p (.lst .sh (r1.map Zs))) [] er1 ?_
 refine zi fun r2 hr2 => ?_
 obtain ⟨qr2, er2, exr2, rfl⟩ := Z98 (r1) .sh r2 hr2
 refine zc [] (.p (.lst .sh (r2.map Zs))) [] er2 ?_
 exact zr ((.p (.tup [(.lst .sh (r2.map Zs)), (.v (.int .i64 0))])), []) ⟨_, rfl⟩
noncomputable def Z7d (x0 : List Z7) (x1 : List Z7) : Option ((List Z7) × Int) :=
 (Z3T x0).bind fun r1 =>
 if ((!r1)) = true then
 (Z5N)
 else
 ((Z3T x1).bind fun r2 =>
 if ((!r2)) = true then
 (Z5N)
 else
 (Z5O x0 x1))
theorem ZbG (x0 : List Z7) (x1 : List Z7) (ox0 : Own) (ox1 : Own) : Sim (Z4B) (Z7d x0 x1) (EE 59 [(.p (.lst ox0 (x0.map Zs))), (.p (.lst ox1 (x1.map Zs)))] []) := by
 unfold Z7d
 refine zf (ZhW ..) ?_
 refine ze ?_
 refine ze ?_
 refine zi fun r1 hr1 => ?_
 obtain ⟨qr1, er1, exr1, rfl⟩ := Z65 (x0) .sh r1 hr1
 refine zc [] (bv r1) [] er1 ?_
 refine zo (bv (!r1)) ?_
 refine za ((!r1)) ?_ ?_
 ·exact zk (Z7W )
 ·refine zi fun r2 hr2 => ?_
  obtain ⟨qr2, er2, exr2, rfl⟩ := Z65 (x1) .sh r2 hr2
  refine zc [] (bv r2) [] er2 ?_
  refine zo (bv (!r2)) ?_
  refine za ((!r2)) ?_ ?_
  ·exact zk (Z7W )
  ·exact zk (Zbc (x0) (x1) ox0 ox1)
theorem Zcb (x0 : List Z7) (x1 : List Z7) {r} (h : Z7d x0 x1 = some r) : Z75 x0 x1 = some r :=
 pick_of (fun _ _ ha hb => RRun.uniq (Zci) (ha .ex .ex) (hb .ex .ex)) (fun ox0 ox1 => ZbG x0 x1 ox0 ox1 r h)
noncomputable def Z3n (zp : Int) (z6 : Int) (zd : Int) (zh : List Zq) (z1 : Int) (z2 : Int) (z15 : Int) (z1C : Int) (z1A : Int) (z19 : Int) (z1i : Int) (z1h : List Z7) (b2 : Z8) : Option (Z8 × Bool × Int × Int × Int × (List Zq) × Int × Int) :=
 some ((Z8.mk z15 z1C z1A z19 z1i z1h ([b2] : List Z8)), (z15 != 7), zp, z6, zd, zh, z1, z2)
theorem Z8r (zl : List Int) (zp : Int) (z6 : Int) (zd : Int) (zh : List Zq) (z1 : Int) (z2 : Int) (z15 : Int) (z1C : Int) (z1A : Int) (z19 : Int) (z1i : Int) (z1h : List Z7) (z1V : List Z8) (b2 : Z8) (zn : Own) (zb : Own) (zB : Own) (zy : Own) (z1E : Own) (z1t : Own) (zu : okApp zb = true) (zP : okApp zB = true) (zJ : okApp zy = true) : Sim (Z23 zl zn) (Z3n zp z6 zd zh z1 z2 z15 z1C z1A z19 z1i z1h b2) (ZcZ 1 (.ptr 1 0) (.ptr 2 0) [(Zj (Zk.mk zl zp z6 zd zh (Zi.mk z1 z2)) zn zb), (Zr (Z8.mk z15 z1C z1A z19 z1i z1h z1V) zB zy), (Zr b2 z1E z1t)]) := by
 unfold Z3n
 refine zf (Zf0 ..) ?_
 refine ze ?_
 refine zo (.p (.agg (ZE b2 (shrO z1E) (shrO z1t)))) ?_
 refine zo (.p (.lst .ex (([b2] : List Z8).map ZR))) ?_ (Eq.trans (b := some (.p (.lst .ex [.agg (Z2D b2)]))) (by kernel_rfl) (by simp only [List.map_cons, List.map_nil, Z2U]))
 refine zo (.ptr 1 6) ?_
 refine zt [(Zj (Zk.mk zl zp z6 zd zh (Zi.mk z1 z2)) zn zb), (Zr (Z8.mk z15 z1C z1A z19 z1i z1h ([b2] : List Z8)) zB .ex), (Zr b2 z1E z1t)] ?_
 refine ze ?_
 refine zo (.p (.agg (ZE (Z8.mk z15 z1C z1A z19 z1i z1h ([b2] : List Z8)) (shrO zB) .ex))) ?_
 refine zo (.ptr 1 0) ?_
 refine zo (iv z15) ?_
 refine zo (bv (z15 != 7)) ?_
 refine zt [(Zj (Zk.mk zl zp z6 zd zh (Zi.mk z1 z2)) zn zb), (Zr (Z8.mk z15 z1C z1A z19 z1i z1h ([b2] : List Z8)) (shrO zB) .ex), (Zr b2 z1E z1t)] ?_
 exact zr ((.p (.tup [(.agg (ZE (Z8.mk z15 z1C z1A z19 z1i z1h ([b2] : List Z8)) .sh .sh)), (.v (.bool (z15 != 7)))])), [(Zj (Zk.mk zl zp z6 zd zh (Zi.mk z1 z2)) zn zb), (Zr (Z8.mk z15 z1C z1A z19 z1i z1h ([b2] : List Z8)) (shrO zB) .ex), (Zr b2 z1E z1t)]) ⟨zb, _, zu, rfl⟩
noncomputable def Z1P (zp : Int) (z6 : Int) (zd : Int) (zh : List Zq) (z1 : Int) (z2 : Int) (z15 : Int) (z1C : Int) (z1A : Int) (z19 : Int) (z1i : Int) (z1h : List Z7) (b2 : Z8) : Option (Z8 × Bool × Int × Int × Int × (List Zq) × Int × Int) :=
 if ((z15 == 0)) = true then
 (some (b2, true, zp, z6, (IntKind.i64.wrap (zd - 1)), zh, z1, z2))
 else
 (Z3n zp z6 ((IntKind.i64.wrap (zd - 1))) zh z1 z2 z15 z1C z1A z19 z1i z1h b2)
theorem Z4H (zl : List Int) (zp : Int) (z6 : Int) (zd : Int) (zh : List Zq) (z1 : Int) (z2 : Int) (z15 : Int) (z1C : Int) (z1A : Int) (z19 : Int) (z1i : Int) (z1h : List Z7) (z1V : List Z8) (b2 : Z8) (zn : Own) (zb : Own) (zB : Own) (zy : Own) (z1E : Own) (z1t : Own) (zu : okApp zb = true) (zP : okApp zB = true) (zJ : okApp zy = true) : Sim (Z23 zl zn) (Z1P zp z6 zd zh z1 z2 z15 z1C z1A z19 z1i z1h b2) (ZaD 1 (.ptr 0 0) (.ptr 1 0) (.ptr 2 0) [(Zj (Zk.mk zl zp z6 zd zh (Zi.mk z1 z2)) zn zb), (Zr (Z8.mk z15 z1C z1A z19 z1i z1h z1V) zB zy), (Zr b2 z1E z1t)]) := by
 unfold Z1P
 refine zf (Zfn ..) ?_
 refine ze ?_
 refine zo (.ptr 0 0) ?_
 refine zo (.ptr 0 3) ?_
 refine zo (iv zd) ?_
 refine zo (iv (IntKind.i64.wrap (zd - 1))) ?_
 refine zo (.ptr 0 0) ?_
 refine zo (.ptr 0 3) ?_
 refine zt [(Zj (Zk.mk zl zp z6 (IntKind.i64.wrap (zd - 1)) zh (Zi.mk z1 z2)) zn zb), (Zr (Z8.mk z15 z1C z1A z19 z1i z1h z1V) zB zy), (Zr b2 z1E z1t)] ?_
 refine ze ?_
 refine zo (.ptr 1 0) ?_
 refine zo (iv z15) ?_
 refine zo (bv (z15 == 0)) ?_
 refine za ((z15 == 0)) ?_ ?_
 ·refine ze ?_
  refine zo (.p (.agg (ZE b2 (shrO z1E) (shrO z1t)))) ?_
  refine zt [(Zj (Zk.mk zl zp z6 (IntKind.i64.wrap (zd - 1)) zh (Zi.mk z1 z2)) zn zb), (Zr b2 (shrO z1E) (shrO z1t)), (Zr b2 z1E z1t)] ?_
  exact zr ((.p (.tup [(.agg (ZE b2 .sh .sh)), (.v (.bool true))])), [(Zj (Zk.mk zl zp z6 (IntKind.i64.wrap (zd - 1)) zh (Zi.mk z1 z2)) zn zb), (Zr b2 (shrO z1E) (shrO z1t)), (Zr b2 z1E z1t)]) ⟨zb, _, zu, rfl⟩
 ·exact zk (Z8r (zl) (zp) (z6) ((IntKind.i64.wrap (zd - 1))) (zh) (z1) (z2) (z15) (z1C) (z1A) (z19) (z1i) (z1h) (z1V) (b2) zn zb zB zy z1E z1t zu zP zJ)
noncomputable def Z4g (x1 : Int) (zl : List Int) (z6 : Int) (zd : Int) (zh : List Zq) (z1 : Int) (z2 : Int) (z15 : Int) (z1C : Int) (z1A : Int) (z19 : Int) (z1i : Int) (z1h : List Z7) (b2 : Z8) : Option (Z8 × Bool × Int × Int × Int × (List Zq) × Int × Int) :=
 (ZT 20 x1 zl z1 z2).bind fun r1 =>
 Z1P r1.1 z6 zd zh r1.2.1 r1.2.2 z15 z1C z1A z19 z1i z1h b2
theorem Z8H (x1 : Int) (zl : List Int) (zp : Int) (z6 : Int) (zd : Int) (zh : List Zq) (z1 : Int) (z2 : Int) (z15 : Int) (z1C : Int) (z1A : Int) (z19 : Int) (z1i : Int) (z1h : List Z7) (z1V : List Z8) (b2 : Z8) (zn : Own) (zb : Own) (zB : Own) (zy : Own) (z1E : Own) (z1t : Own) (zu : okApp zb = true) (zP : okApp zB = true) (zJ : okApp zy = true) : Sim (Z23 zl zn) (Z4g x1 zl z6 zd zh z1 z2 z15 z1C z1A z19 z1i z1h b2) (Zd2 1 (.ptr 0 0) (iv x1) (.ptr 1 0) (.ptr 2 0) [(Zj (Zk.mk zl zp z6 zd zh (Zi.mk z1 z2)) zn zb), (Zr (Z8.mk z15 z1C z1A z19 z1i z1h z1V) zB zy), (Zr b2 z1E z1t)]) := by
 unfold Z4g
 refine zf (ZeY ..) ?_
 refine ze ?_
 refine zi fun r1 hr1 => ?_
 obtain ⟨qr1, er1, exr1, rfl⟩ := ZW (20) (x1) (zl) (zp) (z6) (zd) (zh) (z1) (z2) zn zb zu r1 hr1
 refine zc [0] (.p (.tup [])) [(Zj (Zk.mk zl r1.1 z6 zd zh (Zi.mk r1.2.1 r1.2.2)) zn zb), (Zr (Z8.mk z15 z1C z1A z19 z1i z1h z1V) zB zy), (Zr b2 z1E z1t)] er1 ?_
 exact zk (Z4H (zl) (r1.1) (z6) (zd) (zh) (r1.2.1) (r1.2.2) (z15) (z1C) (z1A) (z19) (z1i) (z1h) (z1V) (b2) zn zb zB zy z1E z1t zu zP zJ)
noncomputable def Z1s (x1 : Int) (zl : List Int) (zp : Int) (z6 : Int) (zd : Int) (zh : List Zq) (z1 : Int) (z2 : Int) (z15 : Int) (z1C : Int) (z1A : Int) (z19 : Int) (z1i : Int) (z1h : List Z7) : Option (Z8 × Bool × Int × Int × Int × (List Zq) × Int × Int) :=
 (Z2F zl zp z6 zd zh z1 z2).bind fun r1 =>
 if ((r1.2.2.2.2.2.1 == 0)) = true then
 ((Z14 ((ByteArray.mk #[41])) zl r1.2.1).bind fun r2 =>
 if ((!r2.1)) = true then
 (Z4g x1 zl r1.2.2.1 r1.2.2.2.1 r1.2.2.2.2.1 r1.2.2.2.2.2.1 r1.2.2.2.2.2.2 z15 z1C z1A z19 z1i z1h r1.1)
 else
 (Z1P r2.2 r1.2.2.1 r1.2.2.2.1 r1.2.2.2.2.1 r1.2.2.2.2.2.1 r1.2.2.2.2.2.2 z15 z1C z1A z19 z1i z1h r1.1))
 else
 (Z1P r1.2.1 r1.2.2.1 r1.2.2.2.1 r1.2.2.2.2.1 r1.2.2.2.2.2.1 r1.2.2.2.2.2.2 z15 z1C z1A z19 z1i z1h r1.1)
theorem Z2k (x1 : Int) (zl : List Int) (zp : Int) (z6 : Int) (zd : Int) (zh : List Zq) (z1 : Int) (z2 : Int) (z15 : Int) (z1C : Int) (z1A : Int) (z19 : Int) (z1i : Int) (z1h : List Z7) (z1V : List Z8) (zn : Own) (zb : Own) (zB : Own) (zy : Own) (zu : okApp zb = true) (zP : okApp zB = true) (zJ : okApp zy = true) : Sim (Z23 zl zn) (Z1s x1 zl zp z6 zd zh z1 z2 z15 z1C z1A z19 z1i z1h) (Z7V 1 (.ptr 0 0) (iv x1) (.ptr 1 0) [(Zj (Zk.mk zl zp z6 zd zh (Zi.mk z1 z2)) zn zb), (Zr (Z8.mk z15 z1C z1A z19 z1i z1h z1V) zB zy)]) := by
 unfold Z1s
 refine zf (ZeQ ..) ?_
 refine ze ?_
 refine zi fun r1 hr1 => ?_
 obtain ⟨qr1, er1, or1_0_4, exr1, hor1_0_4, rfl⟩ := Z7Z (zl) (zp) (z6) (zd) (zh) (z1) (z2) zn zb zu r1 hr1
 refine zc [0] (.p (.agg (ZE r1.1 .sh .sh))) [(Zj (Zk.mk zl r1.2.1 r1.2.2.1 r1.2.2.2.1 r1.2.2.2.2.1 (Zi.mk r1.2.2.2.2.2.1 r1.2.2.2.2.2.2)) zn or1_0_4), (Zr (Z8.mk z15 z1C z1A z19 z1i z1h z1V) zB zy)] er1 ?_
 refine zz (.ptr 2 0) [(Zj (Zk.mk zl r1.2.1 r1.2.2.1 r1.2.2.2.1 r1.2.2.2.2.1 (Zi.mk r1.2.2.2.2.2.1 r1.2.2.2.2.2.2)) zn or1_0_4), (Zr (Z8.mk z15 z1C z1A z19 z1i z1h z1V) zB zy), (Zr (Z8.mk 0 0 0 0 0 ([] : List Z7) ([] : List Z8)) .nl .nl)] ?_
 refine zt [(Zj (Zk.mk zl r1.2.1 r1.2.2.1 r1.2.2.2.1 r1.2.2.2.2.1 (Zi.mk r1.2.2.2.2.2.1 r1.2.2.2.2.2.2)) zn or1_0_4), (Zr (Z8.mk z15 z1C z1A z19 z1i z1h z1V) zB zy), (Zr r1.1 .sh .sh)] ?_
 refine ze ?_
 refine zo (.ptr 0 0) ?_
 refine zo (.ptr 0 5) ?_
 refine zo (.ptr 0 5) ?_
 refine zo (iv r1.2.2.2.2.2.1) ?_
 refine zo (bv (r1.2.2.2.2.2.1 == 0)) ?_
 refine za ((r1.2.2.2.2.2.1 == 0)) ?_ ?_
 ·refine zi fun r2 hr2 => ?_
  obtain ⟨qr2, er2, exr2, rfl⟩ := Z1a ((ByteArray.mk #[41])) (zl) (r1.2.1) (r1.2.2.1) (r1.2.2.2.1) (r1.2.2.2.2.1) (r1.2.2.2.2.2.1) (r1.2.2.2.2.2.2) zn or1_0_4 hor1_0_4 r2 hr2
  refine zc [0] (bv r2.1) [(Zj (Zk.mk zl r2.2 r1.2.2.1 r1.2.2.2.1 r1.2.2.2.2.1 (Zi.mk r1.2.2.2.2.2.1 r1.2.2.2.2.2.2)) zn or1_0_4), (Zr (Z8.mk z15 z1C z1A z19 z1i z1h z1V) zB zy), (Zr r1.1 .sh .sh)] er2 ?_
  refine zo (bv (!r2.1)) ?_
  refine za ((!r2.1)) ?_ ?_
  ·exact zk (Z8H (x1) (zl) (r2.2) (r1.2.2.1) (r1.2.2.2.1) (r1.2.2.2.2.1) (r1.2.2.2.2.2.1) (r1.2.2.2.2.2.2) (z15) (z1C) (z1A) (z19) (z1i) (z1h) (z1V) (r1.1) zn or1_0_4 zB zy .sh .sh hor1_0_4 zP zJ)
  ·exact zk (Z4H (zl) (r2.2) (r1.2.2.1) (r1.2.2.2.1) (r1.2.2.2.2.1) (r1.2.2.2.2.2.1) (r1.2.2.2.2.2.2) (z15) (z1C) (z1A) (z19) (z1i) (z1h) (z1V) (r1.1) zn or1_0_4 zB zy .sh .sh hor1_0_4 zP zJ)
 ·exact zk (Z4H (zl) (r1.2.1) (r1.2.2.1) (r1.2.2.2.1) (r1.2.2.2.2.1) (r1.2.2.2.2.2.1) (r1.2.2.2.2.2.2) (z15) (z1C) (z1A) (z19) (z1i) (z1h) (z1V) (r1.1) zn or1_0_4 zB zy .sh .sh hor1_0_4 zP zJ)
noncomputable def Z3F (x1 : Int) (zl : List Int) (zp : Int) (z6 : Int) (zd : Int) (zh : List Zq) (z1 : Int) (z2 : Int) (z15 : Int) (z1C : Int) (z1A : Int) (z19 : Int) (z1i : Int) (z1h : List Z7) : Option (Z8 × Bool × Int × Int × Int × (List Zq) × Int × Int) :=
 (Z7F).bind fun r1 =>
 (Z3k r1 zl zp).bind fun r2 =>
 if ((decide (0 ≤ r2.1))) = true then
 (Z1s x1 zl r2.2 z6 ((IntKind.i64.wrap (zd + 1))) zh z1 z2 7 0 0 r2.1 0 (([] : List Z7)))
 else
 ((Z14 ((ByteArray.mk #[63, 62])) zl r2.2).bind fun r3 =>
 if (r3.1) = true then
 (Z1s x1 zl r3.2 z6 ((IntKind.i64.wrap (zd + 1))) zh z1 z2 8 0 0 0 0 (([] : List Z7)))
 else
 ((Z14 ((ByteArray.mk #[63, 58])) zl r3.2).bind fun r4 =>
 if (r4.1) = true then
 (Z1s x1 zl r4.2 z6 ((IntKind.i64.wrap (zd + 1))) zh z1 z2 z15 z1C z1A z19 z1i z1h)
 else
 ((Z1B ((Zk.mk zl r4.2 z6 (IntKind.i64.wrap (zd + 1)) zh (Zi.mk z1 z2)))).bind fun r5 =>
 if ((r5 == 63)) = true then
 ((ZT 20 x1 zl z1 z2).bind fun r6 =>
 Z1s x1 zl r6.1 z6 ((IntKind.i64.wrap (zd + 1))) zh r6.2.1 r6.2.2 z15 z1C z1A z19 z1i z1h)
 else
 (if ((z6 == 9)) = true then
 ((ZT 24 x1 zl z1 z2).bind fun r7 =>
 Z1s x1 zl r7.1 z6 ((IntKind.i64.wrap (zd + 1))) zh r7.2.1 r7.2.2 z15 z1C z1A z19 z1i z1h)
 else
 (Z1s x1 zl r4.2 ((IntKind.i64.wrap (z6 + 1))) ((IntKind.i64.wrap (zd + 1))) zh z1 z2 5 0 0 0 ((IntKind.i64.wrap (z6 + 1))) (([] : List Z7)))))))
theorem Z8M (x1 : Int) (zl : List Int) (zp : Int) (z6 : Int) (zd : Int) (zh : List Zq) (z1 : Int) (z2 : Int) (z15 : Int) (z1C : Int) (z1A : Int) (z19 : Int) (z1i : Int) (z1h : List Z7) (z1V : List Z8) (zn : Own) (zb : Own) (zB : Own) (zy : Own) (zu : okApp zb = true) (zP : okApp zB = true) (zJ : okApp zy = true) : Sim (Z23 zl zn) (Z3F x1 zl zp z6 zd zh z1 z2 z15 z1C z1A z19 z1i z1h) (Ze7 1 (.ptr 0 0) (iv x1) (.ptr 1 0) [(Zj (Zk.mk zl zp z6 zd zh (Zi.mk z1 z2)) zn zb), (Zr (Z8.mk z15 z1C z1A z19 z1i z1h z1V) zB zy)]) := by
 unfold Z3F
 refine zf (ZfD ..) ?_
 refine ze ?_
 refine zo (.ptr 0 0) ?_
 refine zo (.ptr 0 3) ?_
 refine zo (iv zd) ?_
 refine zo (iv (IntKind.i64.wrap (zd + 1))) ?_
 refine zo (.ptr 0 0) ?_
 refine zo (.ptr 0 3) ?_
 refine zt [(Zj (Zk.mk zl zp z6 (IntKind.i64.wrap (zd + 1)) zh (Zi.mk z1 z2)) zn zb), (Zr (Z8.mk z15 z1C z1A z19 z1i z1h z1V) zB zy)] ?_
 refine ze ?_
 refine zi fun r1 hr1 => ?_
 obtain ⟨qr1, er1, exr1, rfl⟩ := Zcf  r1 hr1
 refine zc [] (.p (.lst .sh (r1.map eS))) [(Zj (Zk.mk zl zp z6 (IntKind.i64.wrap (zd + 1)) zh (Zi.mk z1 z2)) zn zb), (Zr (Z8.mk z15 z1C z1A z19 z1i z1h z1V) zB zy)] er1 ?_
 refine zi fun r2 hr2 => ?_
 obtain ⟨qr2, er2, exr2, rfl⟩ := Z7Q (r1) (zl) (zp) (z6) ((IntKind.i64.wrap (zd + 1))) (zh) (z1) (z2) .sh zn zb zu r2 hr2
 refine zc [0] (iv r2.1) [(Zj (Zk.mk zl r2.2 z6 (IntKind.i64.wrap (zd + 1)) zh (Zi.mk z1 z2)) zn zb), (Zr (Z8.mk z15 z1C z1A z19 z1i z1h z1V) zB zy)] er2 ?_
 refine ze ?_
 refine zo (bv (decide (0 ≤ r2.1))) ?_
 refine za ((decide (0 ≤ r2.1))) ?_ ?_
 ·refine ze ?_
  refine zo (.p (.agg (ZE (Z8.mk 7 0 0 r2.1 0 ([] : List Z7) ([] : List Z8)) .nl .nl))) ?_
  refine zt [(Zj (Zk.mk zl r2.2 z6 (IntKind.i64.wrap (zd + 1)) zh (Zi.mk z1 z2)) zn zb), (Zr (Z8.mk 7 0 0 r2.1 0 ([] : List Z7) ([] : List Z8)) .nl .nl)] ?_
  exact zk (Z2k (x1) (zl) (r2.2) (z6) ((IntKind.i64.wrap (zd + 1))) (zh) (z1) (z2) (7) (0) (0) (r2.1) (0) (([] : List Z7)) (([] : List Z8)) zn zb .nl .nl zu rfl rfl)
 ·refine ze ?_
  refine zi fun r3 hr3 => ?_
  obtain ⟨qr3, er3, exr3, rfl⟩ := Z1a ((ByteArray.mk #[63, 62])) (zl) (r2.2) (z6) ((IntKind.i64.wrap (zd + 1))) (zh) (z1) (z2) zn zb zu r3 hr3
  refine zc [0] (bv r3.1) [(Zj (Zk.mk zl r3.2 z6 (IntKind.i64.wrap (zd + 1)) zh (Zi.mk z1 z2)) zn zb), (Zr (Z8.mk z15 z1C z1A z19 z1i z1h z1V) zB zy)] er3 ?_
  refine za (r3.1) ?_ ?_
  ·refine ze ?_
   refine zo (.p (.agg (ZE (Z8.mk 8 0 0 0 0 ([] : List Z7) ([] : List Z8)) .nl .nl))) ?_
   refine zt [(Zj (Zk.mk zl r3.2 z6 (IntKind.i64.wrap (zd + 1)) zh (Zi.mk z1 z2)) zn zb), (Zr (Z8.mk 8 0 0 0 0 ([] : List Z7) ([] : List Z8)) .nl .nl)] ?_
   exact zk (Z2k (x1) (zl) (r3.2) (z6) ((IntKind.i64.wrap (zd + 1))) (zh) (z1) (z2) (8) (0) (0) (0) (0) (([] : List Z7)) (([] : List Z8)) zn zb .nl .nl zu rfl rfl)
  ·refine ze ?_
   refine zi fun r4 hr4 => ?_
   obtain ⟨qr4, er4, exr4, rfl⟩ := Z1a ((ByteArray.mk #[63, 58])) (zl) (r3.2) (z6) ((IntKind.i64.wrap (zd + 1))) (zh) (z1) (z2) zn zb zu r4 hr4
   refine zc [0] (bv r4.1) [(Zj (Zk.mk zl r4.2 z6 (IntKind.i64.wrap (zd + 1)) zh (Zi.mk z1 z2)) zn zb), (Zr (Z8.mk z15 z1C z1A z19 z1i z1h z1V) zB zy)] er4 ?_
   refine za (r4.1) ?_ ?_
   ·exact zk (Z2k (x1) (zl) (r4.2) (z6) ((IntKind.i64.wrap (zd + 1))) (zh) (z1) (z2) (z15) (z1C) (z1A) (z19) (z1i) (z1h) (z1V) zn zb zB zy zu zP zJ)
   ·refine ze ?_
    refine zi fun r5 hr5 => ?_
    obtain ⟨qr5, er5, exr5, rfl⟩ := Z1F ((Zk.mk zl r4.2 z6 (IntKind.i64.wrap (zd + 1)) zh (Zi.mk z1 z2))) zn zb zu r5 hr5
    refine zc [0] (iv r5) [(Zj (Zk.mk zl r4.2 z6 (IntKind.i64.wrap (zd + 1)) zh (Zi.mk z1 z2)) zn zb), (Zr (Z8.mk z15 z1C z1A z19 z1i z1h z1V) zB zy)] er5 ?_
    refine zo (bv (r5 == 63)) ?_
    refine za ((r5 == 63)) ?_ ?_
    ·refine ze ?_
     refine zi fun r6 hr6 => ?_
     obtain ⟨qr6, er6, exr6, rfl⟩ := ZW (20) (x1) (zl) (r4.2) (z6) ((IntKind.i64.wrap (zd + 1))) (zh) (z1) (z2) zn zb zu r6 hr6
     refine zc [0] (.p (.tup [])) [(Zj (Zk.mk zl r6.1 z6 (IntKind.i64.wrap (zd + 1)) zh (Zi.mk r6.2.1 r6.2.2)) zn zb), (Zr (Z8.mk z15 z1C z1A z19 z1i z1h z1V) zB zy)] er6 ?_
     exact zk (Z2k (x1) (zl) (r6.1) (z6) ((IntKind.i64.wrap (zd + 1))) (zh) (r6.2.1) (r6.2.2) (z15) (z1C) (z1A) (z19) (z1i) (z1h) (z1V) zn zb zB zy zu zP zJ)
    ·refine ze ?_
     refine zo (.ptr 0 0) ?_
     refine zo (.ptr 0 2) ?_
     refine zo (iv z6) ?_
     refine zo (bv (z6 == 9)) ?_
     refine za ((z6 == 9)) ?_ ?_
     ·refine ze ?_
      refine zi fun r7 hr7 => ?_
      obtain ⟨qr7, er7, exr7, rfl⟩ := ZW (24) (x1) (zl) (r4.2) (z6) ((IntKind.i64.wrap (zd + 1))) (zh) (z1) (z2) zn zb zu r7 hr7
      refine zc [0] (.p (.tup [])) [(Zj (Zk.mk zl r7.1 z6 (IntKind.i64.wrap (zd + 1)) zh (Zi.mk r7.2.1 r7.2.2)) zn zb), (Zr (Z8.mk z15 z1C z1A z19 z1i z1h z1V) zB zy)] er7 ?_
      exact zk (Z2k (x1) (zl) (r7.1) (z6) ((IntKind.i64.wrap (zd + 1))) (zh) (r7.2.1) (r7.2.2) (z15) (z1C) (z1A) (z19) (z1i) (z1h) (z1V) zn zb zB zy zu zP zJ)
     ·refine ze ?_
      refine zo (.ptr 0 0) ?_
      refine zo (.ptr 0 2) ?_
      refine zo (iv z6) ?_
      refine zo (iv (IntKind.i64.wrap (z6 + 1))) ?_
      refine zo (.ptr 0 0) ?_
      refine zo (.ptr 0 2) ?_
      refine zt [(Zj (Zk.mk zl r4.2 (IntKind.i64.wrap (z6 + 1)) (IntKind.i64.wrap (zd + 1)) zh (Zi.mk z1 z2)) zn zb), (Zr (Z8.mk z15 z1C z1A z19 z1i z1h z1V) zB zy)] ?_
      refine ze ?_
      refine zo (.ptr 0 0) ?_
      refine zo (.ptr 0 2) ?_
      refine zo (iv (IntKind.i64.wrap (z6 + 1))) ?_
      refine zo (.p (.agg (ZE (Z8.mk 5 0 0 0 (IntKind.i64.wrap (z6 + 1)) ([] : List Z7) ([] : List Z8)) .nl .nl))) ?_
      refine zt [(Zj (Zk.mk zl r4.2 (IntKind.i64.wrap (z6 + 1)) (IntKind.i64.wrap (zd + 1)) zh (Zi.mk z1 z2)) zn zb), (Zr (Z8.mk 5 0 0 0 (IntKind.i64.wrap (z6 + 1)) ([] : List Z7) ([] : List Z8)) .nl .nl)] ?_
      exact zk (Z2k (x1) (zl) (r4.2) ((IntKind.i64.wrap (z6 + 1))) ((IntKind.i64.wrap (zd + 1))) (zh) (z1) (z2) (5) (0) (0) (0) ((IntKind.i64.wrap (z6 + 1))) (([] : List Z7)) (([] : List Z8)) zn zb .nl .nl zu rfl rfl)
noncomputable def Z3x (x1 : Int) (zl : List Int) (zp : Int) (z6 : Int) (zd : Int) (zh : List Zq) (z1 : Int) (z2 : Int) : Option (Z8 × Bool × Int × Int × Int × (List Zq) × Int × Int) :=
 if ((zd == 32)) = true then
 ((ZT 25 x1 zl z1 z2).bind fun r1 =>
 some ((Z8.mk 0 0 0 0 0 ([] : List Z7) ([] : List Z8)), true, r1.1, z6, zd, zh, r1.2.1, r1.2.2))
 else
 (Z3F x1 zl zp z6 zd zh z1 z2 0 0 0 0 0 (([] : List Z7)))
theorem Z9R (x1 : Int) (zl : List Int) (zp : Int) (z6 : Int) (zd : Int) (zh : List Zq) (z1 : Int) (z2 : Int) (zn : Own) (zb : Own) (zu : okApp zb = true) : Sim (Z23 zl zn) (Z3x x1 zl zp z6 zd zh z1 z2) (EE 51 [(.ptr 0 0), (iv x1)] [(Zj (Zk.mk zl zp z6 zd zh (Zi.mk z1 z2)) zn zb)]) := by
 unfold Z3x
 refine zf (ZhV ..) ?_
 refine ze ?_
 refine zz (.ptr 1 0) [(Zj (Zk.mk zl zp z6 zd zh (Zi.mk z1 z2)) zn zb), (Zr (Z8.mk 0 0 0 0 0 ([] : List Z7) ([] : List Z8)) .nl .nl)] ?_
 refine ze ?_
 refine zo (.ptr 0 0) ?_
 refine zo (.ptr 0 3) ?_
 refine zo (iv zd) ?_
 refine zo (bv (zd == 32)) ?_
 refine za ((zd == 32)) ?_ ?_
 ·refine ze ?_
  refine zi fun r1 hr1 => ?_
  obtain ⟨qr1, er1, exr1, rfl⟩ := ZW (25) (x1) (zl) (zp) (z6) (zd) (zh) (z1) (z2) zn zb zu r1 hr1
  refine zc [0] (.p (.tup [])) [(Zj (Zk.mk zl r1.1 z6 zd zh (Zi.mk r1.2.1 r1.2.2)) zn zb), (Zr (Z8.mk 0 0 0 0 0 ([] : List Z7) ([] : List Z8)) .nl .nl)] er1 ?_
  refine ze ?_
  refine zo (.p (.agg (ZE (Z8.mk 0 0 0 0 0 ([] : List Z7) ([] : List Z8)) .nl .nl))) ?_
  refine zt [(Zj (Zk.mk zl r1.1 z6 zd zh (Zi.mk r1.2.1 r1.2.2)) zn zb), (Zr (Z8.mk 0 0 0 0 0 ([] : List Z7) ([] : List Z8)) .nl .nl)] ?_
  exact zr ((.p (.tup [(.agg (ZE (Z8.mk 0 0 0 0 0 ([] : List Z7) ([] : List Z8)) .sh .sh)), (.v (.bool true))])), [(Zj (Zk.mk zl r1.1 z6 zd zh (Zi.mk r1.2.1 r1.2.2)) zn zb), (Zr (Z8.mk 0 0 0 0 0 ([] : List Z7) ([] : List Z8)) .nl .nl)]) ⟨zb, _, zu, rfl⟩
 ·exact zk (Z8M (x1) (zl) (zp) (z6) (zd) (zh) (z1) (z2) (0) (0) (0) (0) (0) (([] : List Z7)) (([] : List Z8)) zn zb .nl .nl zu rfl rfl)
theorem Z5y (x1 : Int) (zl : List Int) (zp : Int) (z6 : Int) (zd : Int) (zh : List Zq) (z1 : Int) (z2 : Int) {r} (h : Z3x x1 zl zp z6 zd zh z1 z2 = some r) : Z2T x1 zl zp z6 zd zh z1 z2 = some r :=
 pick_of (fun _ _ ha hb => RRun.uniq (Zaz _ _) (ha .ex .ex rfl) (hb .ex .ex rfl)) (fun zn zb zu => Z9R x1 zl zp z6 zd zh z1 z2 zn zb zu r h)
noncomputable def Z92  : Option ((List ByteArray)) :=
 some (([(ByteArray.mk #[63, 61]), (ByteArray.mk #[63, 33]), (ByteArray.mk #[63, 60, 61]), (ByteArray.mk #[63, 60, 33])] : List ByteArray))
theorem Zca  : Sim (Z6j) (Z92) (EE 62 [] []) := by
 unfold Z92
 refine zf (ZhR ..) ?_
 refine ze ?_
 refine ze ?_
 refine zo (.p (.lst .ex (([(ByteArray.mk #[63, 61]), (ByteArray.mk #[63, 33]), (ByteArray.mk #[63, 60, 61]), (ByteArray.mk #[63, 60, 33])] : List ByteArray).map eS))) ?_
 exact zr ((.p (.lst .sh (([(ByteArray.mk #[63, 61]), (ByteArray.mk #[63, 33]), (ByteArray.mk #[63, 60, 61]), (ByteArray.mk #[63, 60, 33])] : List ByteArray).map eS))), []) ⟨_, rfl⟩
theorem Zce  {r} (h : Z92 = some r) : Z7F = some r :=
 pick_of (fun _ _ ha hb => RRun.uniq (Zcp) (ha ) (hb )) (Zca  r h)
noncomputable def Z3j (x0 : List ByteArray) (zl : List Int) (zp : Int) : Option (Int × Int) :=
 Z1q x0 ((x0.length : Int)) 0 zl zp
theorem Z7s (x0 : List ByteArray) (zl : List Int) (zp : Int) (z6 : Int) (zd : Int) (zh : List Zq) (z1 : Int) (z2 : Int) (ox0 : Own) (zn : Own) (zb : Own) (zu : okApp zb = true) : Sim (Z1g zl z6 zd zh z1 z2 zn zb) (Z3j x0 zl zp) (EE 61 [(.p (.lst ox0 (x0.map eS))), (.clo 27 [(.ptr 0 0)] [])] [(Zj (Zk.mk zl zp z6 zd zh (Zi.mk z1 z2)) zn zb)]) := by
 unfold Z3j
 refine zf (Zis ..) ?_
 refine ze ?_
 refine ze ?_
 refine zo (iv (x0.length : Int)) ?_ (Eq.trans (by kernel_rfl) (xlen_of (P := PP) (t := 43) (d := 9) (by kernel_rfl) eS (shrO ox0) x0))
 exact zk (Z56 (x0) ((x0.length : Int)) (0) (zl) (zp) (z6) (zd) (zh) (z1) (z2) ox0 zn zb zu)
theorem Z7O (x0 : List ByteArray) (zl : List Int) (zp : Int) {r} (h : Z3j x0 zl zp = some r) : Z3k x0 zl zp = some r :=
 pick_of (fun _ _ ha hb => RRun.uniq (Z5x _ _ _ _ _ _ _ _) (ha default default default default default .ex .ex .ex rfl) (hb default default default default default .ex .ex .ex rfl)) (fun z6 zd zh z1 z2 ox0 zn zb zu => Z7s x0 zl zp z6 zd zh z1 z2 ox0 zn zb zu r h)
noncomputable def Z2V (x0 : List ByteArray) (x7 : Int) (x8 : Int) (zl : List Int) (zp : Int) : Option (Int × Int) :=
 Z1q x0 x7 ((IntKind.i64.wrap (x8 + 1))) zl zp
theorem Z6C (x0 : List ByteArray) (x7 : Int) (x8 : Int) (zl : List Int) (zp : Int) (z6 : Int) (zd : Int) (zh : List Zq) (z1 : Int) (z2 : Int) (ox0 : Own) (zn : Own) (zb : Own) (zu : okApp zb = true) : Sim (Z1g zl z6 zd zh z1 z2 zn zb) (Z2V x0 x7 x8 zl zp) (ZdH 1 (.p (.lst ox0 (x0.map eS))) (.clo 27 [(.ptr 0 0)] []) (iv x7) (iv x8) [(Zj (Zk.mk zl zp z6 zd zh (Zi.mk z1 z2)) zn zb)]) := by
 unfold Z2V
 refine zf (Zfs ..) ?_
 refine ze ?_
 refine zo (iv (IntKind.i64.wrap (x8 + 1))) ?_
 exact zk (Z56 (x0) (x7) ((IntKind.i64.wrap (x8 + 1))) (zl) (zp) (z6) (zd) (zh) (z1) (z2) ox0 zn zb zu)
noncomputable def Z2o (x0 : List ByteArray) (x7 : Int) (x8 : Int) (zl : List Int) (zp : Int) : Option (Int × Int) :=
 (lget x0 x8).bind fun a1 =>
 (Z14 a1 zl zp).bind fun r2 =>
 if (r2.1) = true then
 (some (x8, r2.2))
 else
 (Z2V x0 x7 x8 zl r2.2)
theorem Z6K (x0 : List ByteArray) (x7 : Int) (x8 : Int) (zl : List Int) (zp : Int) (z6 : Int) (zd : Int) (zh : List Zq) (z1 : Int) (z2 : Int) (ox0 : Own) (zn : Own) (zb : Own) (zu : okApp zb = true) : Sim (Z1g zl z6 zd zh z1 z2 zn zb) (Z2o x0 x7 x8 zl zp) (Zen 1 (.p (.lst ox0 (x0.map eS))) (.clo 27 [(.ptr 0 0)] []) (iv x7) (iv x8) [(Zj (Zk.mk zl zp z6 zd zh (Zi.mk z1 z2)) zn zb)]) := by
 unfold Z2o
 refine zf (ZfE ..) ?_
 refine ze ?_
 refine ze ?_
 refine zi fun a1 ha1 => ?_
 refine zo (.cptr [(.v (.string a1))]) ?_ (Eq.trans (by kernel_rfl) (xidx_of (o := (shrO ox0)) (k := .i64) (n := 1) (e := eS) (cs := (fun a => [eS a])) (fun _ => rfl) (fun _ => rfl) (by decide) ha1))
 refine zo (.p (.v (.string a1))) ?_
 refine zi fun r2 hr2 => ?_
 obtain ⟨qr2, er2, exr2, rfl⟩ := Z1a (a1) (zl) (zp) (z6) (zd) (zh) (z1) (z2) zn zb zu r2 hr2
 refine zv [0] (bv r2.1) [(Zj (Zk.mk zl r2.2 z6 zd zh (Zi.mk z1 z2)) zn zb)] er2 ?_
 refine za (r2.1) ?_ ?_
 ·refine ze ?_
  exact zr ((iv x8), [(Zj (Zk.mk zl r2.2 z6 zd zh (Zi.mk z1 z2)) zn zb)]) ⟨_, rfl⟩
 ·exact zk (Z6C (x0) (x7) (x8) (zl) (r2.2) (z6) (zd) (zh) (z1) (z2) ox0 zn zb zu)
noncomputable def Z3P (zp : Int) : Option (Int × Int) :=
 some ((-1), zp)
theorem Z6E (zl : List Int) (zp : Int) (z6 : Int) (zd : Int) (zh : List Zq) (z1 : Int) (z2 : Int) (zn : Own) (zb : Own) (zu : okApp zb = true) : Sim (Z1g zl z6 zd zh z1 z2 zn zb) (Z3P zp) (Ze9 1  [(Zj (Zk.mk zl zp z6 zd zh (Zi.mk z1 z2)) zn zb)]) := by
 unfold Z3P
 refine zf (ZfY ..) ?_
 refine ze ?_
 exact zr ((iv (-1)), [(Zj (Zk.mk zl zp z6 zd zh (Zi.mk z1 z2)) zn zb)]) ⟨_, rfl⟩
noncomputable def Z22 (x0 : List ByteArray) (x7 : Int) (x8 : Int) (zl : List Int) (zp : Int) : Option (Int × Int) :=
 if ((decide (x8 < x7))) = true then
 (Z2o x0 x7 x8 zl zp)
 else
 (Z3P zp)
theorem Z6A (x0 : List ByteArray) (x7 : Int) (x8 : Int) (zl : List Int) (zp : Int) (z6 : Int) (zd : Int) (zh : List Zq) (z1 : Int) (z2 : Int) (ox0 : Own) (zn : Own) (zb : Own) (zu : okApp zb = true) : Sim (Z1g zl z6 zd zh z1 z2 zn zb) (Z22 x0 x7 x8 zl zp) (Zb2 1 (.p (.lst ox0 (x0.map eS))) (.clo 27 [(.ptr 0 0)] []) (iv x7) (iv x8) [(Zj (Zk.mk zl zp z6 zd zh (Zi.mk z1 z2)) zn zb)]) := by
 unfold Z22
 refine zf (ZgL ..) ?_
 refine ze ?_
 refine zo (bv (decide (x8 < x7))) ?_
 refine za ((decide (x8 < x7))) ?_ ?_
 ·exact zk (Z6K (x0) (x7) (x8) (zl) (zp) (z6) (zd) (zh) (z1) (z2) ox0 zn zb zu)
 ·exact zk (Z6E (zl) (zp) (z6) (zd) (zh) (z1) (z2) zn zb zu)
theorem Z3t (x0 : List ByteArray) (x7 : Int) (x8 : Int) (zl : List Int) (zp : Int) {r} (h : Z22 x0 x7 x8 zl zp = some r) : Z1q x0 x7 x8 zl zp = some r :=
 pick_of (fun _ _ ha hb => RRun.uniq (Z5x _ _ _ _ _ _ _ _) (ha default default default default default .ex .ex .ex rfl) (hb default default default default default .ex .ex .ex rfl)) (fun z6 zd zh z1 z2 ox0 zn zb zu => Z6A x0 x7 x8 zl zp z6 zd zh z1 z2 ox0 zn zb zu r h)
noncomputable def Z2H (zp : Int) (z1 : Int) (z2 : Int) (z1T : Int) (z2J : Int) (z2K : Int) (z2l : Int) (z2d : Int) (z2c : List Z7) (z1S : List Z8) : Option (Z8 × Int × Int × Int) :=
 some ((Z8.mk z1T z2J z2K z2l z2d z2c z1S), zp, z1, z2)
theorem Z4t (zl : List Int) (zp : Int) (z6 : Int) (zd : Int) (zh : List Zq) (z1 : Int) (z2 : Int) (b1 : Z8) (b2 : Z8) (z1T : Int) (z2J : Int) (z2K : Int) (z2l : Int) (z2d : Int) (z2c : List Z7) (z1S : List Z8) (zn : Own) (zb : Own) (zB : Own) (zy : Own) (z1E : Own) (z1t : Own) (z2R : Own) (z2m : Own) (zu : okApp zb = true) (z7I : okApp z1E = true) (z6N : okApp z1t = true) (z7M : okApp z2R = true) (z6L : okApp z2m = true) : Sim (Z2r zl z6 zd zh zn zb) (Z2H zp z1 z2 z1T z2J z2K z2l z2d z2c z1S) (ZaI 1 (.ptr 2 0) (.ptr 3 0) [(Zj (Zk.mk zl zp z6 zd zh (Zi.mk z1 z2)) zn zb), (Zr b1 zB zy), (Zr b2 z1E z1t), (Zr (Z8.mk z1T z2J z2K z2l z2d z2c z1S) z2R z2m)]) := by
 unfold Z2H
 refine zf (ZeX ..) ?_
 refine ze ?_
 refine zo (.p (.agg (ZE (Z8.mk z1T z2J z2K z2l z2d z2c z1S) (shrO z2R) (shrO z2m)))) ?_
 refine zt [(Zj (Zk.mk zl zp z6 zd zh (Zi.mk z1 z2)) zn zb), (Zr b1 zB zy), (Zr (Z8.mk z1T z2J z2K z2l z2d z2c z1S) (shrO z2R) (shrO z2m)), (Zr (Z8.mk z1T z2J z2K z2l z2d z2c z1S) z2R z2m)] ?_
 exact zr ((.p (.agg (ZE (Z8.mk z1T z2J z2K z2l z2d z2c z1S) .sh .sh))), [(Zj (Zk.mk zl zp z6 zd zh (Zi.mk z1 z2)) zn zb), (Zr b1 zB zy), (Zr (Z8.mk z1T z2J z2K z2l z2d z2c z1S) (shrO z2R) (shrO z2m)), (Zr (Z8.mk z1T z2J z2K z2l z2d z2c z1S) z2R z2m)]) ⟨_, rfl⟩
noncomputable def Z2f (zl : List Int) (zp : Int) (z1 : Int) (z2 : Int) (z1T : Int) (z2J : Int) (z2K : Int) (z2l : Int) (z2d : Int) (z2c : List Z7) (z1S : List Z8) : Option (Z8 × Int × Int × Int) :=
 (Z14 ((ByteArray.mk #[63])) zl zp).bind fun r1 =>
 if (r1.1) = true then
 (Z2H r1.2 z1 z2 z1T z2J z2K 1 z2d z2c z1S)
 else
 ((Z14 ((ByteArray.mk #[43])) zl r1.2).bind fun r2 =>
 if (r2.1) = true then
 (Z2H r2.2 z1 z2 z1T z2J z2K 2 z2d z2c z1S)
 else
 (Z2H r2.2 z1 z2 z1T z2J z2K z2l z2d z2c z1S))
theorem Z5J (zl : List Int) (zp : Int) (z6 : Int) (zd : Int) (zh : List Zq) (z1 : Int) (z2 : Int) (b1 : Z8) (b2 : Z8) (z1T : Int) (z2J : Int) (z2K : Int) (z2l : Int) (z2d : Int) (z2c : List Z7) (z1S : List Z8) (zn : Own) (zb : Own) (zB : Own) (zy : Own) (z1E : Own) (z1t : Own) (z2R : Own) (z2m : Own) (zu : okApp zb = true) (z7I : okApp z1E = true) (z6N : okApp z1t = true) (z7M : okApp z2R = true) (z6L : okApp z2m = true) : Sim (Z2r zl z6 zd zh zn zb) (Z2f zl zp z1 z2 z1T z2J z2K z2l z2d z2c z1S) (ZbY 1 (.ptr 0 0) (.ptr 2 0) (.ptr 3 0) [(Zj (Zk.mk zl zp z6 zd zh (Zi.mk z1 z2)) zn zb), (Zr b1 zB zy), (Zr b2 z1E z1t), (Zr (Z8.mk z1T z2J z2K z2l z2d z2c z1S) z2R z2m)]) := by
 unfold Z2f
 refine zf (ZeR ..) ?_
 refine ze ?_
 refine zi fun r1 hr1 => ?_
 obtain ⟨qr1, er1, exr1, rfl⟩ := Z1a ((ByteArray.mk #[63])) (zl) (zp) (z6) (zd) (zh) (z1) (z2) zn zb zu r1 hr1
 refine zc [0] (bv r1.1) [(Zj (Zk.mk zl r1.2 z6 zd zh (Zi.mk z1 z2)) zn zb), (Zr b1 zB zy), (Zr b2 z1E z1t), (Zr (Z8.mk z1T z2J z2K z2l z2d z2c z1S) z2R z2m)] er1 ?_
 refine za (r1.1) ?_ ?_
 ·refine ze ?_
  refine zo (.ptr 3 3) ?_
  refine zt [(Zj (Zk.mk zl r1.2 z6 zd zh (Zi.mk z1 z2)) zn zb), (Zr b1 zB zy), (Zr b2 z1E z1t), (Zr (Z8.mk z1T z2J z2K 1 z2d z2c z1S) z2R z2m)] ?_
  exact zk (Z4t (zl) (r1.2) (z6) (zd) (zh) (z1) (z2) (b1) (b2) (z1T) (z2J) (z2K) (1) (z2d) (z2c) (z1S) zn zb zB zy z1E z1t z2R z2m zu z7I z6N z7M z6L)
 ·refine ze ?_
  refine zi fun r2 hr2 => ?_
  obtain ⟨qr2, er2, exr2, rfl⟩ := Z1a ((ByteArray.mk #[43])) (zl) (r1.2) (z6) (zd) (zh) (z1) (z2) zn zb zu r2 hr2
  refine zc [0] (bv r2.1) [(Zj (Zk.mk zl r2.2 z6 zd zh (Zi.mk z1 z2)) zn zb), (Zr b1 zB zy), (Zr b2 z1E z1t), (Zr (Z8.mk z1T z2J z2K z2l z2d z2c z1S) z2R z2m)] er2 ?_
  refine za (r2.1) ?_ ?_
  ·refine ze ?_
   refine zo (.ptr 3 3) ?_
   refine zt [(Zj (Zk.mk zl r2.2 z6 zd zh (Zi.mk z1 z2)) zn zb), (Zr b1 zB zy), (Zr b2 z1E z1t), (Zr (Z8.mk z1T z2J z2K 2 z2d z2c z1S) z2R z2m)] ?_
   exact zk (Z4t (zl) (r2.2) (z6) (zd) (zh) (z1) (z2) (b1) (b2) (z1T) (z2J) (z2K) (2) (z2d) (z2c) (z1S) zn zb zB zy z1E z1t z2R z2m zu z7I z6N z7M z6L)
  ·exact zk (Z4t (zl) (r2.2) (z6) (zd) (zh) (z1) (z2) (b1) (b2) (z1T) (z2J) (z2K) (z2l) (z2d) (z2c) (z1S) zn zb zB zy z1E z1t z2R z2m zu z7I z6N z7M z6L)
noncomputable def Z1M (x2 : Bool) (x7 : Int) (zl : List Int) (zp : Int) (z1 : Int) (z2 : Int) (z1T : Int) (z2J : Int) (z2K : Int) (z2l : Int) (z2d : Int) (z2c : List Z7) (z1S : List Z8) : Option (Z8 × Int × Int × Int) :=
 if ((!x2)) = true then
 ((ZT 23 x7 zl z1 z2).bind fun r1 =>
 Z2f zl r1.1 r1.2.1 r1.2.2 z1T z2J z2K z2l z2d z2c z1S)
 else
 (Z2f zl zp z1 z2 z1T z2J z2K z2l z2d z2c z1S)
theorem Z3m (x2 : Bool) (x7 : Int) (zl : List Int) (zp : Int) (z6 : Int) (zd : Int) (zh : List Zq) (z1 : Int) (z2 : Int) (b1 : Z8) (b2 : Z8) (z1T : Int) (z2J : Int) (z2K : Int) (z2l : Int) (z2d : Int) (z2c : List Z7) (z1S : List Z8) (zn : Own) (zb : Own) (zB : Own) (zy : Own) (z1E : Own) (z1t : Own) (z2R : Own) (z2m : Own) (zu : okApp zb = true) (z7I : okApp z1E = true) (z6N : okApp z1t = true) (z7M : okApp z2R = true) (z6L : okApp z2m = true) : Sim (Z2r zl z6 zd zh zn zb) (Z1M x2 x7 zl zp z1 z2 z1T z2J z2K z2l z2d z2c z1S) (Z9C 1 (.ptr 0 0) (bv x2) (.ptr 2 0) (iv x7) (.ptr 3 0) [(Zj (Zk.mk zl zp z6 zd zh (Zi.mk z1 z2)) zn zb), (Zr b1 zB zy), (Zr b2 z1E z1t), (Zr (Z8.mk z1T z2J z2K z2l z2d z2c z1S) z2R z2m)]) := by
 unfold Z1M
 refine zf (ZeP ..) ?_
 refine ze ?_
 refine zo (bv (!x2)) ?_
 refine za ((!x2)) ?_ ?_
 ·refine ze ?_
  refine zi fun r1 hr1 => ?_
  obtain ⟨qr1, er1, exr1, rfl⟩ := ZW (23) (x7) (zl) (zp) (z6) (zd) (zh) (z1) (z2) zn zb zu r1 hr1
  refine zc [0] (.p (.tup [])) [(Zj (Zk.mk zl r1.1 z6 zd zh (Zi.mk r1.2.1 r1.2.2)) zn zb), (Zr b1 zB zy), (Zr b2 z1E z1t), (Zr (Z8.mk z1T z2J z2K z2l z2d z2c z1S) z2R z2m)] er1 ?_
  exact zk (Z5J (zl) (r1.1) (z6) (zd) (zh) (r1.2.1) (r1.2.2) (b1) (b2) (z1T) (z2J) (z2K) (z2l) (z2d) (z2c) (z1S) zn zb zB zy z1E z1t z2R z2m zu z7I z6N z7M z6L)
 ·exact zk (Z5J (zl) (zp) (z6) (zd) (zh) (z1) (z2) (b1) (b2) (z1T) (z2J) (z2K) (z2l) (z2d) (z2c) (z1S) zn zb zB zy z1E z1t z2R z2m zu z7I z6N z7M z6L)
noncomputable def Z3c (x1 : Z8) (x2 : Bool) (zl : List Int) (zp : Int) (z6 : Int) (zd : Int) (zh : List Zq) (z1 : Int) (z2 : Int) : Option (Z8 × Int × Int × Int) :=
 (Z14 ((ByteArray.mk #[42])) zl zp).bind fun r1 =>
 if (r1.1) = true then
 (Z1M x2 zp zl r1.2 z1 z2 4 0 ((-1)) 0 0 (([] : List Z7)) (([x1] : List Z8)))
 else
 ((Z14 ((ByteArray.mk #[43])) zl r1.2).bind fun r2 =>
 if (r2.1) = true then
 (Z1M x2 zp zl r2.2 z1 z2 4 1 ((-1)) 0 0 (([] : List Z7)) (([x1] : List Z8)))
 else
 ((Z14 ((ByteArray.mk #[63])) zl r2.2).bind fun r3 =>
 if (r3.1) = true then
 (Z1M x2 zp zl r3.2 z1 z2 4 0 1 0 0 (([] : List Z7)) (([x1] : List Z8)))
 else
 ((Z14 ((ByteArray.mk #[123])) zl r3.2).bind fun r4 =>
 if (r4.1) = true then
 ((Z3Z zp zl r4.2 z6 zd zh z1 z2).bind fun r5 =>
 Z1M x2 zp zl r5.2.2.1 r5.2.2.2.1 r5.2.2.2.2 4 r5.1 r5.2.1 0 0 (([] : List Z7)) (([x1] : List Z8)))
 else
 (some (x1, r4.2, z1, z2)))))
theorem Z9f (x1 : Z8) (x2 : Bool) (zl : List Int) (zp : Int) (z6 : Int) (zd : Int) (zh : List Zq) (z1 : Int) (z2 : Int) (z20 : Own) (z1H : Own) (zn : Own) (zb : Own) (zu : okApp zb = true) : Sim (Z2r zl z6 zd zh zn zb) (Z3c x1 x2 zl zp z6 zd zh z1 z2) (EE 43 [(.ptr 0 0), (.p (.agg (ZE x1 z20 z1H))), (bv x2)] [(Zj (Zk.mk zl zp z6 zd zh (Zi.mk z1 z2)) zn zb)]) := by
 unfold Z3c
 refine zf (Zhb ..) ?_
 refine ze ?_
 refine zx (.ptr 1 0) [(Zj (Zk.mk zl zp z6 zd zh (Zi.mk z1 z2)) zn zb), (Zr x1 z20 z1H)] ?_
 refine zz (.ptr 2 0) [(Zj (Zk.mk zl zp z6 zd zh (Zi.mk z1 z2)) zn zb), (Zr x1 z20 z1H), (Zr (Z8.mk 0 0 0 0 0 ([] : List Z7) ([] : List Z8)) .nl .nl)] ?_
 refine ze ?_
 refine zo (.ptr 0 0) ?_
 refine zo (.ptr 0 1) ?_
 refine zo (iv zp) ?_
 refine ze ?_
 refine zo (.p (.agg (ZE x1 (shrO z20) (shrO z1H)))) ?_
 refine zo (.p (.lst .ex (([x1] : List Z8).map ZR))) ?_ (Eq.trans (b := some (.p (.lst .ex [.agg (Z2D x1)]))) (by kernel_rfl) (by simp only [List.map_cons, List.map_nil, Z2U]))
 refine zo (.p (.agg (ZE (Z8.mk 4 0 (-1) 0 0 ([] : List Z7) ([x1] : List Z8)) .nl .ex))) ?_
 refine zz (.ptr 3 0) [(Zj (Zk.mk zl zp z6 zd zh (Zi.mk z1 z2)) zn zb), (Zr x1 z20 z1H), (Zr (Z8.mk 0 0 0 0 0 ([] : List Z7) ([] : List Z8)) .nl .nl), (Zr (Z8.mk 0 0 0 0 0 ([] : List Z7) ([] : List Z8)) .nl .nl)] ?_
 refine zt [(Zj (Zk.mk zl zp z6 zd zh (Zi.mk z1 z2)) zn zb), (Zr x1 z20 z1H), (Zr (Z8.mk 0 0 0 0 0 ([] : List Z7) ([] : List Z8)) .nl .nl), (Zr (Z8.mk 4 0 (-1) 0 0 ([] : List Z7) ([x1] : List Z8)) .nl .ex)] ?_
 refine ze ?_
 refine zi fun r1 hr1 => ?_
 obtain ⟨qr1, er1, exr1, rfl⟩ := Z1a ((ByteArray.mk #[42])) (zl) (zp) (z6) (zd) (zh) (z1) (z2) zn zb zu r1 hr1
 refine zc [0] (bv r1.1) [(Zj (Zk.mk zl r1.2 z6 zd zh (Zi.mk z1 z2)) zn zb), (Zr x1 z20 z1H), (Zr (Z8.mk 0 0 0 0 0 ([] : List Z7) ([] : List Z8)) .nl .nl), (Zr (Z8.mk 4 0 (-1) 0 0 ([] : List Z7) ([x1] : List Z8)) .nl .ex)] er1 ?_
 refine za (r1.1) ?_ ?_
 ·exact zk (Z3m (x2) (zp) (zl) (r1.2) (z6) (zd) (zh) (z1) (z2) (x1) ((Z8.mk 0 0 0 0 0 ([] : List Z7) ([] : List Z8))) (4) (0) ((-1)) (0) (0) (([] : List Z7)) (([x1] : List Z8)) zn zb z20 z1H .nl .nl .nl .ex zu rfl rfl rfl rfl)
 ·refine ze ?_
  refine zi fun r2 hr2 => ?_
  obtain ⟨qr2, er2, exr2, rfl⟩ := Z1a ((ByteArray.mk #[43])) (zl) (r1.2) (z6) (zd) (zh) (z1) (z2) zn zb zu r2 hr2
  refine zc [0] (bv r2.1) [(Zj (Zk.mk zl r2.2 z6 zd zh (Zi.mk z1 z2)) zn zb), (Zr x1 z20 z1H), (Zr (Z8.mk 0 0 0 0 0 ([] : List Z7) ([] : List Z8)) .nl .nl), (Zr (Z8.mk 4 0 (-1) 0 0 ([] : List Z7) ([x1] : List Z8)) .nl .ex)] er2 ?_
  refine za (r2.1) ?_ ?_
  ·refine ze ?_
   refine zo (.ptr 3 1) ?_
   refine zt [(Zj (Zk.mk zl r2.2 z6 zd zh (Zi.mk z1 z2)) zn zb), (Zr x1 z20 z1H), (Zr (Z8.mk 0 0 0 0 0 ([] : List Z7) ([] : List Z8)) .nl .nl), (Zr (Z8.mk 4 1 (-1) 0 0 ([] : List Z7) ([x1] : List Z8)) .nl .ex)] ?_
   exact zk (Z3m (x2) (zp) (zl) (r2.2) (z6) (zd) (zh) (z1) (z2) (x1) ((Z8.mk 0 0 0 0 0 ([] : List Z7) ([] : List Z8))) (4) (1) ((-1)) (0) (0) (([] : List Z7)) (([x1] : List Z8)) zn zb z20 z1H .nl .nl .nl .ex zu rfl rfl rfl rfl)
  ·refine ze ?_
   refine zi fun r3 hr3 => ?_
   obtain ⟨qr3, er3, exr3, rfl⟩ := Z1a ((ByteArray.mk #[63])) (zl) (r2.2) (z6) (zd) (zh) (z1) (z2) zn zb zu r3 hr3
   refine zc [0] (bv r3.1) [(Zj (Zk.mk zl r3.2 z6 zd zh (Zi.mk z1 z2)) zn zb), (Zr x1 z20 z1H), (Zr (Z8.mk 0 0 0 0 0 ([] : List Z7) ([] : List Z8)) .nl .nl), (Zr (Z8.mk 4 0 (-1) 0 0 ([] : List Z7) ([x1] : List Z8)) .nl .ex)] er3 ?_
   refine za (r3.1) ?_ ?_
   ·refine ze ?_
    refine zo (.ptr 3 2) ?_
    refine zt [(Zj (Zk.mk zl r3.2 z6 zd zh (Zi.mk z1 z2)) zn zb), (Zr x1 z20 z1H), (Zr (Z8.mk 0 0 0 0 0 ([] : List Z7) ([] : List Z8)) .nl .nl), (Zr (Z8.mk 4 0 1 0 0 ([] : List Z7) ([x1] : List Z8)) .nl .ex)] ?_
    exact zk (Z3m (x2) (zp) (zl) (r3.2) (z6) (zd) (zh) (z1) (z2) (x1) ((Z8.mk 0 0 0 0 0 ([] : List Z7) ([] : List Z8))) (4) (0) (1) (0) (0) (([] : List Z7)) (([x1] : List Z8)) zn zb z20 z1H .nl .nl .nl .ex zu rfl rfl rfl rfl)
   ·refine ze ?_
    refine zi fun r4 hr4 => ?_
    obtain ⟨qr4, er4, exr4, rfl⟩ := Z1a ((ByteArray.mk #[123])) (zl) (r3.2) (z6) (zd) (zh) (z1) (z2) zn zb zu r4 hr4
    refine zc [0] (bv r4.1) [(Zj (Zk.mk zl r4.2 z6 zd zh (Zi.mk z1 z2)) zn zb), (Zr x1 z20 z1H), (Zr (Z8.mk 0 0 0 0 0 ([] : List Z7) ([] : List Z8)) .nl .nl), (Zr (Z8.mk 4 0 (-1) 0 0 ([] : List Z7) ([x1] : List Z8)) .nl .ex)] er4 ?_
    refine za (r4.1) ?_ ?_
    ·refine ze ?_
     refine zi fun r5 hr5 => ?_
     obtain ⟨qr5, er5, exr5, rfl⟩ := Z9L (zp) (zl) (r4.2) (z6) (zd) (zh) (z1) (z2) zn zb zu r5 hr5
     refine zc [0] (.p (.tup [(.v (.int .i64 r5.1)), (.v (.int .i64 r5.2.1))])) [(Zj (Zk.mk zl r5.2.2.1 z6 zd zh (Zi.mk r5.2.2.2.1 r5.2.2.2.2)) zn zb), (Zr x1 z20 z1H), (Zr (Z8.mk 0 0 0 0 0 ([] : List Z7) ([] : List Z8)) .nl .nl), (Zr (Z8.mk 4 0 (-1) 0 0 ([] : List Z7) ([x1] : List Z8)) .nl .ex)] er5 ?_
     refine zo (iv r5.1) ?_
     refine zo (iv r5.2.1) ?_
     refine zo (.ptr 3 1) ?_
     refine zt [(Zj (Zk.mk zl r5.2.2.1 z6 zd zh (Zi.mk r5.2.2.2.1 r5.2.2.2.2)) zn zb), (Zr x1 z20 z1H), (Zr (Z8.mk 0 0 0 0 0 ([] : List Z7) ([] : List Z8)) .nl .nl), (Zr (Z8.mk 4 r5.1 (-1) 0 0 ([] : List Z7) ([x1] : List Z8)) .nl .ex)] ?_
     refine zo (.ptr 3 2) ?_
     refine zt [(Zj (Zk.mk zl r5.2.2.1 z6 zd zh (Zi.mk r5.2.2.2.1 r5.2.2.2.2)) zn zb), (Zr x1 z20 z1H), (Zr (Z8.mk 0 0 0 0 0 ([] : List Z7) ([] : List Z8)) .nl .nl), (Zr (Z8.mk 4 r5.1 r5.2.1 0 0 ([] : List Z7) ([x1] : List Z8)) .nl .ex)] ?_
     exact zk (Z3m (x2) (zp) (zl) (r5.2.2.1) (z6) (zd) (zh) (r5.2.2.2.1) (r5.2.2.2.2) (x1) ((Z8.mk 0 0 0 0 0 ([] : List Z7) ([] : List Z8))) (4) (r5.1) (r5.2.1) (0) (0) (([] : List Z7)) (([x1] : List Z8)) zn zb z20 z1H .nl .nl .nl .ex zu rfl rfl rfl rfl)
    ·refine ze ?_
     refine zo (.p (.agg (ZE x1 (shrO z20) (shrO z1H)))) ?_
     refine zt [(Zj (Zk.mk zl r4.2 z6 zd zh (Zi.mk z1 z2)) zn zb), (Zr x1 z20 z1H), (Zr x1 (shrO z20) (shrO z1H)), (Zr (Z8.mk 4 0 (-1) 0 0 ([] : List Z7) ([x1] : List Z8)) .nl .ex)] ?_
     exact zr ((.p (.agg (ZE x1 .sh .sh))), [(Zj (Zk.mk zl r4.2 z6 zd zh (Zi.mk z1 z2)) zn zb), (Zr x1 z20 z1H), (Zr x1 (shrO z20) (shrO z1H)), (Zr (Z8.mk 4 0 (-1) 0 0 ([] : List Z7) ([x1] : List Z8)) .nl .ex)]) ⟨_, rfl⟩
theorem Z6I (x1 : Z8) (x2 : Bool) (zl : List Int) (zp : Int) (z6 : Int) (zd : Int) (zh : List Zq) (z1 : Int) (z2 : Int) {r} (h : Z3c x1 x2 zl zp z6 zd zh z1 z2 = some r) : Z3Y x1 x2 zl zp z6 zd zh z1 z2 = some r :=
 pick_of (fun _ _ ha hb => RRun.uniq (Z9V _ _ _ _ _ _) (ha .ex .ex .ex .ex rfl) (hb .ex .ex .ex .ex rfl)) (fun z20 z1H zn zb zu => Z9f x1 x2 zl zp z6 zd zh z1 z2 z20 z1H zn zb zu r h)
noncomputable def Z5m (x4 : Int) (zp : Int) (z1 : Int) (z2 : Int) : Option (Int × Int × Int × Int × Int) :=
 some (x4, (-1), zp, z1, z2)
theorem Z8E (x4 : Int) (zl : List Int) (zp : Int) (z6 : Int) (zd : Int) (zh : List Zq) (z1 : Int) (z2 : Int) (zn : Own) (zb : Own) (zu : okApp zb = true) : Sim (Z1K zl z6 zd zh zn zb) (Z5m x4 zp z1 z2) (Zds 1 (iv x4) [(Zj (Zk.mk zl zp z6 zd zh (Zi.mk z1 z2)) zn zb)]) := by
 unfold Z5m
 refine zf (Zfw ..) ?_
 refine ze ?_
 exact zr ((.p (.tup [(.v (.int .i64 x4)), (.v (.int .i64 (-1)))])), [(Zj (Zk.mk zl zp z6 zd zh (Zi.mk z1 z2)) zn zb)]) ⟨_, rfl⟩
noncomputable def Z47 (x4 : Int) (x5 : Int) (zp : Int) (z1 : Int) (z2 : Int) : Option (Int × Int × Int × Int × Int) :=
 some (x4, x5, zp, z1, z2)
theorem Z5I (x4 : Int) (x5 : Int) (zl : List Int) (zp : Int) (z6 : Int) (zd : Int) (zh : List Zq) (z1 : Int) (z2 : Int) (zn : Own) (zb : Own) (zu : okApp zb = true) : Sim (Z1K zl z6 zd zh zn zb) (Z47 x4 x5 zp z1 z2) (ZbW 1 (iv x4) (iv x5) [(Zj (Zk.mk zl zp z6 zd zh (Zi.mk z1 z2)) zn zb)]) := by
 unfold Z47
 refine zf (Zfl ..) ?_
 refine ze ?_
 exact zr ((.p (.tup [(.v (.int .i64 x4)), (.v (.int .i64 x5))])), [(Zj (Zk.mk zl zp z6 zd zh (Zi.mk z1 z2)) zn zb)]) ⟨_, rfl⟩
noncomputable def Z1X (x1 : Int) (x4 : Int) (x5 : Int) (zl : List Int) (z1 : Int) (z2 : Int) : Option (Int × Int × Int × Int × Int) :=
 (ZT 23 x1 zl z1 z2).bind fun r1 =>
 Z47 x4 x5 r1.1 r1.2.1 r1.2.2
theorem Z3l (x1 : Int) (x4 : Int) (x5 : Int) (zl : List Int) (zp : Int) (z6 : Int) (zd : Int) (zh : List Zq) (z1 : Int) (z2 : Int) (zn : Own) (zb : Own) (zu : okApp zb = true) : Sim (Z1K zl z6 zd zh zn zb) (Z1X x1 x4 x5 zl z1 z2) (Z9A 1 (.ptr 0 0) (iv x1) (iv x4) (iv x5) [(Zj (Zk.mk zl zp z6 zd zh (Zi.mk z1 z2)) zn zb)]) := by
 unfold Z1X
 refine zf (Zfg ..) ?_
 refine ze ?_
 refine zi fun r1 hr1 => ?_
 obtain ⟨qr1, er1, exr1, rfl⟩ := ZW (23) (x1) (zl) (zp) (z6) (zd) (zh) (z1) (z2) zn zb zu r1 hr1
 refine zc [0] (.p (.tup [])) [(Zj (Zk.mk zl r1.1 z6 zd zh (Zi.mk r1.2.1 r1.2.2)) zn zb)] er1 ?_
 exact zk (Z5I (x4) (x5) (zl) (r1.1) (z6) (zd) (zh) (r1.2.1) (r1.2.2) zn zb zu)
noncomputable def Z1Q (x1 : Int) (x4 : Int) (x5 : Int) (zl : List Int) (zp : Int) (z1 : Int) (z2 : Int) : Option (Int × Int × Int × Int × Int) :=
 if ((decide (x4 < 0))) = true then
 (Z1X x1 x4 x5 zl z1 z2)
 else
 (if ((decide (x5 < x4))) = true then
 (Z1X x1 x4 x5 zl z1 z2)
 else
 (if ((decide (64 < x5))) = true then
 (Z1X x1 x4 x5 zl z1 z2)
 else
 ((Z14 ((ByteArray.mk #[125])) zl zp).bind fun r1 =>
 if ((!r1.1)) = true then
 (Z1X x1 x4 x5 zl z1 z2)
 else
 (Z47 x4 x5 r1.2 z1 z2))))
theorem Z3u (x1 : Int) (x4 : Int) (x5 : Int) (zl : List Int) (zp : Int) (z6 : Int) (zd : Int) (zh : List Zq) (z1 : Int) (z2 : Int) (zn : Own) (zb : Own) (zu : okApp zb = true) : Sim (Z1K zl z6 zd zh zn zb) (Z1Q x1 x4 x5 zl zp z1 z2) (ZaK 1 (.ptr 0 0) (iv x1) (iv x4) (iv x5) [(Zj (Zk.mk zl zp z6 zd zh (Zi.mk z1 z2)) zn zb)]) := by
 unfold Z1Q
 refine zf (ZfI ..) ?_
 refine ze ?_
 refine zo (bv (decide (x4 < 0))) ?_
 refine za ((decide (x4 < 0))) ?_ ?_
 ·exact zk (Z3l (x1) (x4) (x5) (zl) (zp) (z6) (zd) (zh) (z1) (z2) zn zb zu)
 ·refine zo (bv (decide (x5 < x4))) ?_
  refine za ((decide (x5 < x4))) ?_ ?_
  ·exact zk (Z3l (x1) (x4) (x5) (zl) (zp) (z6) (zd) (zh) (z1) (z2) zn zb zu)
  ·refine zo (bv (decide (64 < x5))) ?_
   refine za ((decide (64 < x5))) ?_ ?_
   ·exact zk (Z3l (x1) (x4) (x5) (zl) (zp) (z6) (zd) (zh) (z1) (z2) zn zb zu)
   ·refine zi fun r1 hr1 => ?_
    obtain ⟨qr1, er1, exr1, rfl⟩ := Z1a ((ByteArray.mk #[125])) (zl) (zp) (z6) (zd) (zh) (z1) (z2) zn zb zu r1 hr1
    refine zc [0] (bv r1.1) [(Zj (Zk.mk zl r1.2 z6 zd zh (Zi.mk z1 z2)) zn zb)] er1 ?_
    refine zo (bv (!r1.1)) ?_
    refine za ((!r1.1)) ?_ ?_
    ·exact zk (Z3l (x1) (x4) (x5) (zl) (r1.2) (z6) (zd) (zh) (z1) (z2) zn zb zu)
    ·exact zk (Z5I (x4) (x5) (zl) (r1.2) (z6) (zd) (zh) (z1) (z2) zn zb zu)
noncomputable def Z2N (x1 : Int) (x4 : Int) (zl : List Int) (zp : Int) (z1 : Int) (z2 : Int) : Option (Int × Int × Int × Int × Int) :=
 Z1Q x1 x4 ((-2)) zl zp z1 z2
theorem Z60 (x1 : Int) (x4 : Int) (zl : List Int) (zp : Int) (z6 : Int) (zd : Int) (zh : List Zq) (z1 : Int) (z2 : Int) (zn : Own) (zb : Own) (zu : okApp zb = true) : Sim (Z1K zl z6 zd zh zn zb) (Z2N x1 x4 zl zp z1 z2) (Zct 1 (.ptr 0 0) (iv x1) (iv x4) [(Zj (Zk.mk zl zp z6 zd zh (Zi.mk z1 z2)) zn zb)]) := by
 unfold Z2N
 refine zf (ZfF ..) ?_
 refine ze ?_
 exact zk (Z3u (x1) (x4) ((-2)) (zl) (zp) (z6) (zd) (zh) (z1) (z2) zn zb zu)
noncomputable def Z4i (x1 : Int) (x4 : Int) (zl : List Int) (zp : Int) (z1 : Int) (z2 : Int) : Option (Int × Int × Int × Int × Int) :=
 (Z14 ((ByteArray.mk #[125])) zl zp).bind fun r1 =>
 if (r1.1) = true then
 (if ((decide (x4 ≤ 64))) = true then
 (Z5m x4 r1.2 z1 z2)
 else
 (Z2N x1 x4 zl r1.2 z1 z2))
 else
 (Z2N x1 x4 zl r1.2 z1 z2)
theorem Z8B (x1 : Int) (x4 : Int) (zl : List Int) (zp : Int) (z6 : Int) (zd : Int) (zh : List Zq) (z1 : Int) (z2 : Int) (zn : Own) (zb : Own) (zu : okApp zb = true) : Sim (Z1K zl z6 zd zh zn zb) (Z4i x1 x4 zl zp z1 z2) (Zeg 1 (.ptr 0 0) (iv x1) (iv x4) [(Zj (Zk.mk zl zp z6 zd zh (Zi.mk z1 z2)) zn zb)]) := by
 unfold Z4i
 refine zf (Zfv ..) ?_
 refine ze ?_
 refine zi fun r1 hr1 => ?_
 obtain ⟨qr1, er1, exr1, rfl⟩ := Z1a ((ByteArray.mk #[125])) (zl) (zp) (z6) (zd) (zh) (z1) (z2) zn zb zu r1 hr1
 refine zc [0] (bv r1.1) [(Zj (Zk.mk zl r1.2 z6 zd zh (Zi.mk z1 z2)) zn zb)] er1 ?_
 refine za (r1.1) ?_ ?_
 ·refine zo (bv (decide (x4 ≤ 64))) ?_
  refine za ((decide (x4 ≤ 64))) ?_ ?_
  ·exact zk (Z8E (x4) (zl) (r1.2) (z6) (zd) (zh) (z1) (z2) zn zb zu)
  ·exact zk (Z60 (x1) (x4) (zl) (r1.2) (z6) (zd) (zh) (z1) (z2) zn zb zu)
 ·exact zk (Z60 (x1) (x4) (zl) (r1.2) (z6) (zd) (zh) (z1) (z2) zn zb zu)
noncomputable def Z3V (x1 : Int) (zl : List Int) (zp : Int) (z6 : Int) (zd : Int) (zh : List Zq) (z1 : Int) (z2 : Int) : Option (Int × Int × Int × Int × Int) :=
 (Z3h zl zp z6 zd zh z1 z2).bind fun r1 =>
 (Z14 ((ByteArray.mk #[44])) zl r1.2).bind fun r2 =>
 if (r2.1) = true then
 ((Z3h zl r2.2 z6 zd zh z1 z2).bind fun r3 =>
 if ((decide (r3.1 < 0))) = true then
 (if ((decide (0 ≤ r1.1))) = true then
 (Z4i x1 r1.1 zl r3.2 z1 z2)
 else
 (Z1Q x1 r1.1 r3.1 zl r3.2 z1 z2))
 else
 (Z1Q x1 r1.1 r3.1 zl r3.2 z1 z2))
 else
 (Z1Q x1 r1.1 r1.1 zl r2.2 z1 z2)
theorem Z9s (x1 : Int) (zl : List Int) (zp : Int) (z6 : Int) (zd : Int) (zh : List Zq) (z1 : Int) (z2 : Int) (zn : Own) (zb : Own) (zu : okApp zb = true) : Sim (Z1K zl z6 zd zh zn zb) (Z3V x1 zl zp z6 zd zh z1 z2) (EE 52 [(.ptr 0 0), (iv x1)] [(Zj (Zk.mk zl zp z6 zd zh (Zi.mk z1 z2)) zn zb)]) := by
 unfold Z3V
 refine zf (Zhj ..) ?_
 refine ze ?_
 refine ze ?_
 refine zi fun r1 hr1 => ?_
 obtain ⟨qr1, er1, exr1, rfl⟩ := Z6y (zl) (zp) (z6) (zd) (zh) (z1) (z2) zn zb zu r1 hr1
 refine zc [0] (iv r1.1) [(Zj (Zk.mk zl r1.2 z6 zd zh (Zi.mk z1 z2)) zn zb)] er1 ?_
 refine ze ?_
 refine ze ?_
 refine zi fun r2 hr2 => ?_
 obtain ⟨qr2, er2, exr2, rfl⟩ := Z1a ((ByteArray.mk #[44])) (zl) (r1.2) (z6) (zd) (zh) (z1) (z2) zn zb zu r2 hr2
 refine zc [0] (bv r2.1) [(Zj (Zk.mk zl r2.2 z6 zd zh (Zi.mk z1 z2)) zn zb)] er2 ?_
 refine za (r2.1) ?_ ?_
 ·refine ze ?_
  refine zi fun r3 hr3 => ?_
  obtain ⟨qr3, er3, exr3, rfl⟩ := Z6y (zl) (r2.2) (z6) (zd) (zh) (z1) (z2) zn zb zu r3 hr3
  refine zc [0] (iv r3.1) [(Zj (Zk.mk zl r3.2 z6 zd zh (Zi.mk z1 z2)) zn zb)] er3 ?_
  refine ze ?_
  refine zo (bv (decide (r3.1 < 0))) ?_
  refine za ((decide (r3.1 < 0))) ?_ ?_
  ·refine zo (bv (decide (0 ≤ r1.1))) ?_
   refine za ((decide (0 ≤ r1.1))) ?_ ?_
   ·exact zk (Z8B (x1) (r1.1) (zl) (r3.2) (z6) (zd) (zh) (z1) (z2) zn zb zu)
   ·exact zk (Z3u (x1) (r1.1) (r3.1) (zl) (r3.2) (z6) (zd) (zh) (z1) (z2) zn zb zu)
  ·exact zk (Z3u (x1) (r1.1) (r3.1) (zl) (r3.2) (z6) (zd) (zh) (z1) (z2) zn zb zu)
 ·exact zk (Z3u (x1) (r1.1) (r1.1) (zl) (r2.2) (z6) (zd) (zh) (z1) (z2) zn zb zu)
theorem Z6H (x1 : Int) (zl : List Int) (zp : Int) (z6 : Int) (zd : Int) (zh : List Zq) (z1 : Int) (z2 : Int) {r} (h : Z3V x1 zl zp z6 zd zh z1 z2 = some r) : Z3Z x1 zl zp z6 zd zh z1 z2 = some r :=
 pick_of (fun _ _ ha hb => RRun.uniq (Za3 _ _ _ _ _ _) (ha .ex .ex rfl) (hb .ex .ex rfl)) (fun zn zb zu => Z9s x1 zl zp z6 zd zh z1 z2 zn zb zu r h)
noncomputable def Z5S (zl : List Int) (zp : Int) (z6 : Int) (zd : Int) (zh : List Zq) (z1 : Int) (z2 : Int) : Option (Int × Int) :=
 Z2n ((-1)) 0 zl zp z6 zd zh z1 z2
theorem Z9u (zl : List Int) (zp : Int) (z6 : Int) (zd : Int) (zh : List Zq) (z1 : Int) (z2 : Int) (zn : Own) (zb : Own) (zu : okApp zb = true) : Sim (Z1U zl z6 zd zh z1 z2 zn zb) (Z5S zl zp z6 zd zh z1 z2) (EE 63 [(.ptr 0 0)] [(Zj (Zk.mk zl zp z6 zd zh (Zi.mk z1 z2)) zn zb)]) := by
 unfold Z5S
 refine zf (Zik ..) ?_
 refine ze ?_
 refine ze ?_
 refine ze ?_
 exact zk (Z66 ((-1)) (0) (zl) (zp) (z6) (zd) (zh) (z1) (z2) zn zb zu)
theorem Z9J (zl : List Int) (zp : Int) (z6 : Int) (zd : Int) (zh : List Zq) (z1 : Int) (z2 : Int) {r} (h : Z5S zl zp z6 zd zh z1 z2 = some r) : Z3h zl zp z6 zd zh z1 z2 = some r :=
 pick_of (fun _ _ ha hb => RRun.uniq (Z7h _ _ _ _ _ _ _ _) (ha .ex .ex rfl) (hb .ex .ex rfl)) (fun zn zb zu => Z9u zl zp z6 zd zh z1 z2 zn zb zu r h)
noncomputable def Z4h (x3 : Int) (x4 : Int) (zl : List Int) (zp : Int) (z6 : Int) (zd : Int) (zh : List Zq) (z1 : Int) (z2 : Int) : Option (Int × Int) :=
 (Z1W zl zp).bind fun r1 =>
 Z2n ((IntKind.i64.wrap ((IntKind.i64.wrap ((IntKind.i64.wrap (10 * (max x3 0))) + r1.1)) - 48))) ((IntKind.i64.wrap (x4 + 1))) zl r1.2 z6 zd zh z1 z2
theorem Z8x (x3 : Int) (x4 : Int) (zl : List Int) (zp : Int) (z6 : Int) (zd : Int) (zh : List Zq) (z1 : Int) (z2 : Int) (zn : Own) (zb : Own) (zu : okApp zb = true) : Sim (Z1U zl z6 zd zh z1 z2 zn zb) (Z4h x3 x4 zl zp z6 zd zh z1 z2) (Zdt 1 (.ptr 0 0) (iv x3) (iv x4) [(Zj (Zk.mk zl zp z6 zd zh (Zi.mk z1 z2)) zn zb)]) := by
 unfold Z4h
 refine zf (Zgm ..) ?_
 refine ze ?_
 refine zo (iv (max x3 0)) ?_ (xminmax2_max _ _)
 refine zo (iv (IntKind.i64.wrap (10 * (max x3 0)))) ?_
 refine zi fun r1 hr1 => ?_
 obtain ⟨qr1, er1, exr1, rfl⟩ := Z2j (zl) (zp) (z6) (zd) (zh) (z1) (z2) zn zb zu r1 hr1
 refine zc [0] (iv r1.1) [(Zj (Zk.mk zl r1.2 z6 zd zh (Zi.mk z1 z2)) zn zb)] er1 ?_
 refine zo (iv (IntKind.i64.wrap ((IntKind.i64.wrap (10 * (max x3 0))) + r1.1))) ?_
 refine zo (iv (IntKind.i64.wrap ((IntKind.i64.wrap ((IntKind.i64.wrap (10 * (max x3 0))) + r1.1)) - 48))) ?_
 refine ze ?_
 refine zo (iv (IntKind.i64.wrap (x4 + 1))) ?_
 exact zk (Z66 ((IntKind.i64.wrap ((IntKind.i64.wrap ((IntKind.i64.wrap (10 * (max x3 0))) + r1.1)) - 48))) ((IntKind.i64.wrap (x4 + 1))) (zl) (r1.2) (z6) (zd) (zh) (z1) (z2) zn zb zu)
noncomputable def Z2L (x3 : Int) (zp : Int) : Option (Int × Int) :=
 some (x3, zp)
theorem Z4G (x3 : Int) (zl : List Int) (zp : Int) (z6 : Int) (zd : Int) (zh : List Zq) (z1 : Int) (z2 : Int) (zn : Own) (zb : Own) (zu : okApp zb = true) : Sim (Z1U zl z6 zd zh z1 z2 zn zb) (Z2L x3 zp) (ZbM 1 (iv x3) [(Zj (Zk.mk zl zp z6 zd zh (Zi.mk z1 z2)) zn zb)]) := by
 unfold Z2L
 refine zf (ZgF ..) ?_
 refine ze ?_
 exact zr ((iv x3), [(Zj (Zk.mk zl zp z6 zd zh (Zi.mk z1 z2)) zn zb)]) ⟨_, rfl⟩
noncomputable def Z4n (x3 : Int) (x4 : Int) (zl : List Int) (zp : Int) (z6 : Int) (zd : Int) (zh : List Zq) (z1 : Int) (z2 : Int) : Option (Int × Int) :=
 if ((decide (x4 < 2))) = true then
 ((Z1B ((Zk.mk zl zp z6 zd zh (Zi.mk z1 z2)))).bind fun r1 =>
 if ((decide (48 ≤ r1))) = true then
 ((Z1B ((Zk.mk zl zp z6 zd zh (Zi.mk z1 z2)))).bind fun r2 =>
 if ((decide (r2 ≤ 57))) = true then
 (Z4h x3 x4 zl zp z6 zd zh z1 z2)
 else
 (Z2L x3 zp))
 else
 (Z2L x3 zp))
 else
 (Z2L x3 zp)
theorem Z8D (x3 : Int) (x4 : Int) (zl : List Int) (zp : Int) (z6 : Int) (zd : Int) (zh : List Zq) (z1 : Int) (z2 : Int) (zn : Own) (zb : Own) (zu : okApp zb = true) : Sim (Z1U zl z6 zd zh z1 z2 zn zb) (Z4n x3 x4 zl zp z6 zd zh z1 z2) (Zb0 1 (.ptr 0 0) (iv x3) (iv x4) [(Zj (Zk.mk zl zp z6 zd zh (Zi.mk z1 z2)) zn zb)]) := by
 unfold Z4n
 refine zf (ZfT ..) ?_
 refine ze ?_
 refine zo (bv (decide (x4 < 2))) ?_
 refine za ((decide (x4 < 2))) ?_ ?_
 ·refine zi fun r1 hr1 => ?_
  obtain ⟨qr1, er1, exr1, rfl⟩ := Z1F ((Zk.mk zl zp z6 zd zh (Zi.mk z1 z2))) zn zb zu r1 hr1
  refine zc [0] (iv r1) [(Zj (Zk.mk zl zp z6 zd zh (Zi.mk z1 z2)) zn zb)] er1 ?_
  refine zo (bv (decide (48 ≤ r1))) ?_
  refine za ((decide (48 ≤ r1))) ?_ ?_
  ·refine zi fun r2 hr2 => ?_
   obtain ⟨qr2, er2, exr2, rfl⟩ := Z1F ((Zk.mk zl zp z6 zd zh (Zi.mk z1 z2))) zn zb zu r2 hr2
   refine zc [0] (iv r2) [(Zj (Zk.mk zl zp z6 zd zh (Zi.mk z1 z2)) zn zb)] er2 ?_
   refine zo (bv (decide (r2 ≤ 57))) ?_
   refine za ((decide (r2 ≤ 57))) ?_ ?_
   ·exact zk (Z8x (x3) (x4) (zl) (zp) (z6) (zd) (zh) (z1) (z2) zn zb zu)
   ·exact zk (Z4G (x3) (zl) (zp) (z6) (zd) (zh) (z1) (z2) zn zb zu)
  ·exact zk (Z4G (x3) (zl) (zp) (z6) (zd) (zh) (z1) (z2) zn zb zu)
 ·exact zk (Z4G (x3) (zl) (zp) (z6) (zd) (zh) (z1) (z2) zn zb zu)
theorem Z8Q (x3 : Int) (x4 : Int) (zl : List Int) (zp : Int) (z6 : Int) (zd : Int) (zh : List Zq) (z1 : Int) (z2 : Int) {r} (h : Z4n x3 x4 zl zp z6 zd zh z1 z2 = some r) : Z2n x3 x4 zl zp z6 zd zh z1 z2 = some r :=
 pick_of (fun _ _ ha hb => RRun.uniq (Z7h _ _ _ _ _ _ _ _) (ha .ex .ex rfl) (hb .ex .ex rfl)) (fun zn zb zu => Z8D x3 x4 zl zp z6 zd zh z1 z2 zn zb zu r h)
noncomputable def Z5M (x0 : Int) : Option (Bool) :=
 if ((decide (0 ≤ x0))) = true then
 (if ((decide (x0 ≤ 1114111))) = true then
 (if ((decide (x0 < 55296))) = true then
 (some (true))
 else
 (some ((decide (57343 < x0)))))
 else
 (some (false)))
 else
 (some (false))
theorem Zb5 (x0 : Int) : Sim (Z58) (Z5M x0) (EE 18 [(iv x0)] []) := by
 unfold Z5M
 refine zf (Zhn ..) ?_
 refine ze ?_
 refine ze ?_
 refine zo (bv (decide (0 ≤ x0))) ?_
 refine za ((decide (0 ≤ x0))) ?_ ?_
 ·refine zo (bv (decide (x0 ≤ 1114111))) ?_
  refine za ((decide (x0 ≤ 1114111))) ?_ ?_
  ·refine zo (bv (decide (x0 < 55296))) ?_
   refine za ((decide (x0 < 55296))) ?_ ?_
   ·exact zr ((bv true), []) ⟨_, rfl⟩
   ·refine zo (bv (decide (57343 < x0))) ?_
    exact zr ((bv (decide (57343 < x0))), []) ⟨_, rfl⟩
  ·exact zr ((bv false), []) ⟨_, rfl⟩
 ·exact zr ((bv false), []) ⟨_, rfl⟩
theorem Zbg (x0 : Int) {r} (h : Z5M x0 = some r) : Z5L x0 = some r :=
 pick_of (fun _ _ ha hb => RRun.uniq (Zbw) (ha ) (hb )) (Zb5 x0 r h)
end Go.Proofs.YtadodmjdkphddaaDoor.N2
end
section
set_option linter.unusedSimpArgs false
set_option linter.unusedVariables false
namespace Go.Proofs.YtadodmjdkphddaaDoor.N2
open Go Go.Abs
set_option linter.unusedVariables false
set_option maxRecDepth 100000
noncomputable def Z67 (x0 : Int) : Option ((List Int)) :=
 some (([(IntKind.u8.wrap (IntKind.i64.wrap (240 + (IntKind.i64.wrap (Int.tdiv x0 262144))))), (IntKind.u8.wrap (IntKind.i64.wrap (128 + (Int.tmod (IntKind.i64.wrap (Int.tdiv x0 4096)) 64)))), (IntKind.u8.wrap (IntKind.i64.wrap (128 + (Int.tmod (IntKind.i64.wrap (Int.tdiv x0 64)) 64)))), (IntKind.u8.wrap (IntKind.i64.wrap (128 + (Int.tmod x0 64))))] : List Int))
theorem Zbe (x0 : Int) : Sim (Z4r) (Z67 x0) (Zel 0 (iv x0) []) := by
 unfold Z67
 refine zf (Zga ..) ?_
 refine ze ?_
 refine zo (iv (IntKind.i64.wrap (Int.tdiv x0 262144))) ?_ (Eq.trans (by kernel_rfl) (x_quo (P := PP) (t := 3) (k := .i64) (a := x0) (b := 262144) (by decide)))
 refine zo (iv (IntKind.i64.wrap (240 + (IntKind.i64.wrap (Int.tdiv x0 262144))))) ?_
 refine zo (.p (.v (.int .u8 (IntKind.u8.wrap (IntKind.i64.wrap (240 + (IntKind.i64.wrap (Int.tdiv x0 262144)))))))) ?_
 refine zo (iv (IntKind.i64.wrap (Int.tdiv x0 4096))) ?_ (Eq.trans (by kernel_rfl) (x_quo (P := PP) (t := 3) (k := .i64) (a := x0) (b := 4096) (by decide)))
 refine zo (iv (Int.tmod (IntKind.i64.wrap (Int.tdiv x0 4096)) 64)) ?_ (Eq.trans (by kernel_rfl) (x_rem (P := PP) (t := 3) (k := .i64) (a := (IntKind.i64.wrap (Int.tdiv x0 4096))) (b := 64) (by decide)))
 refine zo (iv (IntKind.i64.wrap (128 + (Int.tmod (IntKind.i64.wrap (Int.tdiv x0 4096)) 64)))) ?_
 refine zo (.p (.v (.int .u8 (IntKind.u8.wrap (IntKind.i64.wrap (128 + (Int.tmod (IntKind.i64.wrap (Int.tdiv x0 4096)) 64))))))) ?_
 refine zo (iv (IntKind.i64.wrap (Int.tdiv x0 64))) ?_ (Eq.trans (by kernel_rfl) (x_quo (P := PP) (t := 3) (k := .i64) (a := x0) (b := 64) (by decide)))
 refine zo (iv (Int.tmod (IntKind.i64.wrap (Int.tdiv x0 64)) 64)) ?_ (Eq.trans (by kernel_rfl) (x_rem (P := PP) (t := 3) (k := .i64) (a := (IntKind.i64.wrap (Int.tdiv x0 64))) (b := 64) (by decide)))
 refine zo (iv (IntKind.i64.wrap (128 + (Int.tmod (IntKind.i64.wrap (Int.tdiv x0 64)) 64)))) ?_
 refine zo (.p (.v (.int .u8 (IntKind.u8.wrap (IntKind.i64.wrap (128 + (Int.tmod (IntKind.i64.wrap (Int.tdiv x0 64)) 64))))))) ?_
 refine zo (iv (Int.tmod x0 64)) ?_ (Eq.trans (by kernel_rfl) (x_rem (P := PP) (t := 3) (k := .i64) (a := x0) (b := 64) (by decide)))
 refine zo (iv (IntKind.i64.wrap (128 + (Int.tmod x0 64)))) ?_
 refine zo (.p (.v (.int .u8 (IntKind.u8.wrap (IntKind.i64.wrap (128 + (Int.tmod x0 64))))))) ?_
 refine zo (.p (.lst .ex (([(IntKind.u8.wrap (IntKind.i64.wrap (240 + (IntKind.i64.wrap (Int.tdiv x0 262144))))), (IntKind.u8.wrap (IntKind.i64.wrap (128 + (Int.tmod (IntKind.i64.wrap (Int.tdiv x0 4096)) 64)))), (IntKind.u8.wrap (IntKind.i64.wrap (128 + (Int.tmod (IntKind.i64.wrap (Int.tdiv x0 64)) 64)))), (IntKind.u8.wrap (IntKind.i64.wrap (128 + (Int.tmod x0 64))))] : List Int).map (eI .u8)))) ?_
 exact zr ((.p (.lst .sh (([(IntKind.u8.wrap (IntKind.i64.wrap (240 + (IntKind.i64.wrap (Int.tdiv x0 262144))))), (IntKind.u8.wrap (IntKind.i64.wrap (128 + (Int.tmod (IntKind.i64.wrap (Int.tdiv x0 4096)) 64)))), (IntKind.u8.wrap (IntKind.i64.wrap (128 + (Int.tmod (IntKind.i64.wrap (Int.tdiv x0 64)) 64)))), (IntKind.u8.wrap (IntKind.i64.wrap (128 + (Int.tmod x0 64))))] : List Int).map (eI .u8)))), []) ⟨_, rfl⟩
noncomputable def Z68 (x0 : Int) : Option ((List Int)) :=
 if ((decide (x0 < 65536))) = true then
 (some (([(IntKind.u8.wrap (IntKind.i64.wrap (224 + (IntKind.i64.wrap (Int.tdiv x0 4096))))), (IntKind.u8.wrap (IntKind.i64.wrap (128 + (Int.tmod (IntKind.i64.wrap (Int.tdiv x0 64)) 64)))), (IntKind.u8.wrap (IntKind.i64.wrap (128 + (Int.tmod x0 64))))] : List Int)))
 else
 (Z67 x0)
theorem Zbj (x0 : Int) : Sim (Z4r) (Z68 x0) (ZdM 0 (iv x0) []) := by
 unfold Z68
 refine zf (ZfU ..) ?_
 refine ze ?_
 refine zo (bv (decide (x0 < 65536))) ?_
 refine za ((decide (x0 < 65536))) ?_ ?_
 ·refine ze ?_
  refine zo (iv (IntKind.i64.wrap (Int.tdiv x0 4096))) ?_ (Eq.trans (by kernel_rfl) (x_quo (P := PP) (t := 3) (k := .i64) (a := x0) (b := 4096) (by decide)))
  refine zo (iv (IntKind.i64.wrap (224 + (IntKind.i64.wrap (Int.tdiv x0 4096))))) ?_
  refine zo (.p (.v (.int .u8 (IntKind.u8.wrap (IntKind.i64.wrap (224 + (IntKind.i64.wrap (Int.tdiv x0 4096)))))))) ?_
  refine zo (iv (IntKind.i64.wrap (Int.tdiv x0 64))) ?_ (Eq.trans (by kernel_rfl) (x_quo (P := PP) (t := 3) (k := .i64) (a := x0) (b := 64) (by decide)))
  refine zo (iv (Int.tmod (IntKind.i64.wrap (Int.tdiv x0 64)) 64)) ?_ (Eq.trans (by kernel_rfl) (x_rem (P := PP) (t := 3) (k := .i64) (a := (IntKind.i64.wrap (Int.tdiv x0 64))) (b := 64) (by decide)))
  refine zo (iv (IntKind.i64.wrap (128 + (Int.tmod (IntKind.i64.wrap (Int.tdiv x0 64)) 64)))) ?_
  refine zo (.p (.v (.int .u8 (IntKind.u8.wrap (IntKind.i64.wrap (128 + (Int.tmod (IntKind.i64.wrap (Int.tdiv x0 64)) 64))))))) ?_
  refine zo (iv (Int.tmod x0 64)) ?_ (Eq.trans (by kernel_rfl) (x_rem (P := PP) (t := 3) (k := .i64) (a := x0) (b := 64) (by decide)))
  refine zo (iv (IntKind.i64.wrap (128 + (Int.tmod x0 64)))) ?_
  refine zo (.p (.v (.int .u8 (IntKind.u8.wrap (IntKind.i64.wrap (128 + (Int.tmod x0 64))))))) ?_
  refine zo (.p (.lst .ex (([(IntKind.u8.wrap (IntKind.i64.wrap (224 + (IntKind.i64.wrap (Int.tdiv x0 4096))))), (IntKind.u8.wrap (IntKind.i64.wrap (128 + (Int.tmod (IntKind.i64.wrap (Int.tdiv x0 64)) 64)))), (IntKind.u8.wrap (IntKind.i64.wrap (128 + (Int.tmod x0 64))))] : List Int).map (eI .u8)))) ?_
  exact zr ((.p (.lst .sh (([(IntKind.u8.wrap (IntKind.i64.wrap (224 + (IntKind.i64.wrap (Int.tdiv x0 4096))))), (IntKind.u8.wrap (IntKind.i64.wrap (128 + (Int.tmod (IntKind.i64.wrap (Int.tdiv x0 64)) 64)))), (IntKind.u8.wrap (IntKind.i64.wrap (128 + (Int.tmod x0 64))))] : List Int).map (eI .u8)))), []) ⟨_, rfl⟩
 ·exact zk (Zbe (x0))
noncomputable def Z6b (x0 : Int) : Option ((List Int)) :=
 if ((decide (x0 < 2048))) = true then
 (some (([(IntKind.u8.wrap (IntKind.i64.wrap (192 + (IntKind.i64.wrap (Int.tdiv x0 64))))), (IntKind.u8.wrap (IntKind.i64.wrap (128 + (Int.tmod x0 64))))] : List Int)))
 else
 (Z68 x0)
theorem Zbr (x0 : Int) : Sim (Z4r) (Z6b x0) (Zdv 0 (iv x0) []) := by
 unfold Z6b
 refine zf (Zgd ..) ?_
 refine ze ?_
 refine zo (bv (decide (x0 < 2048))) ?_
 refine za ((decide (x0 < 2048))) ?_ ?_
 ·refine ze ?_
  refine zo (iv (IntKind.i64.wrap (Int.tdiv x0 64))) ?_ (Eq.trans (by kernel_rfl) (x_quo (P := PP) (t := 3) (k := .i64) (a := x0) (b := 64) (by decide)))
  refine zo (iv (IntKind.i64.wrap (192 + (IntKind.i64.wrap (Int.tdiv x0 64))))) ?_
  refine zo (.p (.v (.int .u8 (IntKind.u8.wrap (IntKind.i64.wrap (192 + (IntKind.i64.wrap (Int.tdiv x0 64)))))))) ?_
  refine zo (iv (Int.tmod x0 64)) ?_ (Eq.trans (by kernel_rfl) (x_rem (P := PP) (t := 3) (k := .i64) (a := x0) (b := 64) (by decide)))
  refine zo (iv (IntKind.i64.wrap (128 + (Int.tmod x0 64)))) ?_
  refine zo (.p (.v (.int .u8 (IntKind.u8.wrap (IntKind.i64.wrap (128 + (Int.tmod x0 64))))))) ?_
  refine zo (.p (.lst .ex (([(IntKind.u8.wrap (IntKind.i64.wrap (192 + (IntKind.i64.wrap (Int.tdiv x0 64))))), (IntKind.u8.wrap (IntKind.i64.wrap (128 + (Int.tmod x0 64))))] : List Int).map (eI .u8)))) ?_
  exact zr ((.p (.lst .sh (([(IntKind.u8.wrap (IntKind.i64.wrap (192 + (IntKind.i64.wrap (Int.tdiv x0 64))))), (IntKind.u8.wrap (IntKind.i64.wrap (128 + (Int.tmod x0 64))))] : List Int).map (eI .u8)))), []) ⟨_, rfl⟩
 ·exact zk (Zbj (x0))
noncomputable def Z7C (x0 : Int) : Option ((List Int)) :=
 if ((decide (x0 < 128))) = true then
 (some (([(IntKind.u8.wrap x0)] : List Int)))
 else
 (Z6b x0)
theorem Zc6 (x0 : Int) : Sim (Z4r) (Z7C x0) (EE 20 [(iv x0)] []) := by
 unfold Z7C
 refine zf (Zi7 ..) ?_
 refine ze ?_
 refine ze ?_
 refine zo (bv (decide (x0 < 128))) ?_
 refine za ((decide (x0 < 128))) ?_ ?_
 ·refine ze ?_
  refine zo (.p (.v (.int .u8 (IntKind.u8.wrap x0)))) ?_
  refine zo (.p (.lst .ex (([(IntKind.u8.wrap x0)] : List Int).map (eI .u8)))) ?_
  exact zr ((.p (.lst .sh (([(IntKind.u8.wrap x0)] : List Int).map (eI .u8)))), []) ⟨_, rfl⟩
 ·exact zk (Zbr (x0))
theorem Zck (x0 : Int) {r} (h : Z7C x0 = some r) : Z6e x0 = some r :=
 pick_of (fun _ _ ha hb => RRun.uniq (Zcx) (ha ) (hb )) (Zc6 x0 r h)
noncomputable def Z6m (x0 : Int) : Option (ByteArray) :=
 some ((strI ([(IntKind.u8.wrap (IntKind.i64.wrap (48 + (IntKind.i64.wrap (Int.tdiv x0 10))))), (IntKind.u8.wrap (IntKind.i64.wrap (48 + (Int.tmod x0 10))))] : List Int)))
theorem Za4 (x0 : Int) : Sim (Z4u) (Z6m x0) (EE 21 [(iv x0)] []) := by
 unfold Z6m
 refine zf (Zi9 ..) ?_
 refine ze ?_
 refine ze ?_
 refine zo (iv (IntKind.i64.wrap (Int.tdiv x0 10))) ?_ (Eq.trans (by kernel_rfl) (x_quo (P := PP) (t := 3) (k := .i64) (a := x0) (b := 10) (by decide)))
 refine zo (iv (IntKind.i64.wrap (48 + (IntKind.i64.wrap (Int.tdiv x0 10))))) ?_
 refine zo (.p (.v (.int .u8 (IntKind.u8.wrap (IntKind.i64.wrap (48 + (IntKind.i64.wrap (Int.tdiv x0 10)))))))) ?_
 refine zo (iv (Int.tmod x0 10)) ?_ (Eq.trans (by kernel_rfl) (x_rem (P := PP) (t := 3) (k := .i64) (a := x0) (b := 10) (by decide)))
 refine zo (iv (IntKind.i64.wrap (48 + (Int.tmod x0 10)))) ?_
 refine zo (.p (.v (.int .u8 (IntKind.u8.wrap (IntKind.i64.wrap (48 + (Int.tmod x0 10))))))) ?_
 refine zo (.p (.lst .ex (([(IntKind.u8.wrap (IntKind.i64.wrap (48 + (IntKind.i64.wrap (Int.tdiv x0 10))))), (IntKind.u8.wrap (IntKind.i64.wrap (48 + (Int.tmod x0 10))))] : List Int).map (eI .u8)))) ?_
 refine zo (.p (.v (.string (strI ([(IntKind.u8.wrap (IntKind.i64.wrap (48 + (IntKind.i64.wrap (Int.tdiv x0 10))))), (IntKind.u8.wrap (IntKind.i64.wrap (48 + (Int.tmod x0 10))))] : List Int))))) ?_ (Eq.trans (by kernel_rfl) (xcnv_str (P := PP) (s := 40) (d := 9) (by kernel_rfl) .ex ([(IntKind.u8.wrap (IntKind.i64.wrap (48 + (IntKind.i64.wrap (Int.tdiv x0 10))))), (IntKind.u8.wrap (IntKind.i64.wrap (48 + (Int.tmod x0 10))))] : List Int)))
 exact zr ((.p (.v (.string (strI ([(IntKind.u8.wrap (IntKind.i64.wrap (48 + (IntKind.i64.wrap (Int.tdiv x0 10))))), (IntKind.u8.wrap (IntKind.i64.wrap (48 + (Int.tmod x0 10))))] : List Int))))), []) ⟨_, rfl⟩
theorem Zas (x0 : Int) {r} (h : Z6m x0 = some r) : Z4A x0 = some r :=
 pick_of (fun _ _ ha hb => RRun.uniq (Zb8) (ha ) (hb )) (Za4 x0 r h)
noncomputable def Z49 (x0 : List Z7) (x1 : List Z7) : Option (Bool) :=
 Z45 x1 x0 ((x0.length : Int)) 0
theorem Z8i (x0 : List Z7) (x1 : List Z7) (ox0 : Own) (ox1 : Own) : Sim (Z1z) (Z49 x0 x1) (ZdK 0 (.p (.lst ox0 (x0.map Zs))) (.p (.lst ox1 (x1.map Zs))) []) := by
 unfold Z49
 refine zf (Zg6 ..) ?_
 refine ze ?_
 refine zo (iv (x0.length : Int)) ?_ (Eq.trans (by kernel_rfl) (xlen_of (P := PP) (t := 24) (d := 39) (by kernel_rfl) Zs (shrO ox0) x0))
 exact zk (Z61 (x1) (x0) ((x0.length : Int)) (0) ox1 (shrO ox0))
noncomputable def Z4K (x0 : List Z7) (x1 : List Z7) : Option (Bool) :=
 if (((x0.length : Int) != (x1.length : Int))) = true then
 (some (false))
 else
 (Z49 x0 x1)
theorem Z95 (x0 : List Z7) (x1 : List Z7) (ox0 : Own) (ox1 : Own) : Sim (Z1z) (Z4K x0 x1) (EE 22 [(.p (.lst ox0 (x0.map Zs))), (.p (.lst ox1 (x1.map Zs)))] []) := by
 unfold Z4K
 refine zf (Zhv ..) ?_
 refine ze ?_
 refine ze ?_
 refine zo (iv (x0.length : Int)) ?_ (Eq.trans (by kernel_rfl) (xlen_of (P := PP) (t := 24) (d := 39) (by kernel_rfl) Zs (shrO ox0) x0))
 refine zo (iv (x1.length : Int)) ?_ (Eq.trans (by kernel_rfl) (xlen_of (P := PP) (t := 24) (d := 39) (by kernel_rfl) Zs (shrO ox1) x1))
 refine zo (bv ((x0.length : Int) != (x1.length : Int))) ?_
 refine za (((x0.length : Int) != (x1.length : Int))) ?_ ?_
 ·refine ze ?_
  exact zr ((bv false), []) ⟨_, rfl⟩
 ·exact zk (Z8i (x0) (x1) ox0 ox1)
theorem Z9w (x0 : List Z7) (x1 : List Z7) {r} (h : Z4K x0 x1 = some r) : Z3N x0 x1 = some r :=
 pick_of (fun _ _ ha hb => RRun.uniq (Z6Q) (ha .ex .ex) (hb .ex .ex)) (fun ox0 ox1 => Z95 x0 x1 ox0 ox1 r h)
noncomputable def Z44 (x1 : List Z7) (x12 : List Z7) (x13 : Int) (x14 : Int) : Option (Bool) :=
 Z45 x1 x12 x13 ((IntKind.i64.wrap (x14 + 1)))
theorem Z8l (x1 : List Z7) (x12 : List Z7) (x13 : Int) (x14 : Int) (ox1 : Own) (ox12 : Own) : Sim (Z1z) (Z44 x1 x12 x13 x14) (ZdL 0 (.p (.lst ox1 (x1.map Zs))) (.p (.lst ox12 (x12.map Zs))) (iv x13) (iv x14) []) := by
 unfold Z44
 refine zf (Zgn ..) ?_
 refine ze ?_
 refine zo (iv (IntKind.i64.wrap (x14 + 1))) ?_
 exact zk (Z61 (x1) (x12) (x13) ((IntKind.i64.wrap (x14 + 1))) ox1 ox12)
noncomputable def Z48 (x1 : List Z7) (x12 : List Z7) (x13 : Int) (x14 : Int) : Option (Bool) :=
 (lget x12 x14).bind fun a1 =>
 (lget x1 x14).bind fun a2 =>
 if ((!((a1.Lo == a2.Lo) && ((a1.Hi == a2.Hi) && true)))) = true then
 (some (false))
 else
 (Z44 x1 x12 x13 x14)
theorem Z8n (x1 : List Z7) (x12 : List Z7) (x13 : Int) (x14 : Int) (ox1 : Own) (ox12 : Own) : Sim (Z1z) (Z48 x1 x12 x13 x14) (ZdE 0 (.p (.lst ox1 (x1.map Zs))) (.p (.lst ox12 (x12.map Zs))) (iv x13) (iv x14) []) := by
 unfold Z48
 refine zf (ZfG ..) ?_
 refine ze ?_
 refine zi fun a1 ha1 => ?_
 refine zo (.cptr (ZG a1)) ?_ (Eq.trans (by kernel_rfl) (xidx_of (o := ox12) (k := .i64) (n := 2) (e := Zs) (cs := Z3w) (fun _ => rfl) (fun _ => rfl) (by decide) ha1))
 refine zo (.p (.agg (ZG a1))) ?_
 refine zz (.ptr 0 0) [(Z1m (Z7.mk 0 0))] ?_
 refine zt [(Z1m a1)] ?_
 refine ze ?_
 refine zo (.p (.agg (ZG a1))) ?_
 refine zi fun a2 ha2 => ?_
 refine zo (.cptr (ZG a2)) ?_ (Eq.trans (by kernel_rfl) (xidx_of (o := (shrO ox1)) (k := .i64) (n := 2) (e := Zs) (cs := Z3w) (fun _ => rfl) (fun _ => rfl) (by decide) ha2))
 refine zo (.p (.agg (ZG a2))) ?_
 refine zo (bv (!((a1.Lo == a2.Lo) && ((a1.Hi == a2.Hi) && true)))) ?_ (Eq.trans (b := xbin PP .neq 39 (.p (.agg (ZG a1))) (.p (.agg (ZG a2)))) (by kernel_rfl) (xeq_neq (by kernel_rfl) (by kernel_rfl) (by kernel_rfl) (by kernel_rfl) (by kernel_rfl)))
 refine za ((!((a1.Lo == a2.Lo) && ((a1.Hi == a2.Hi) && true)))) ?_ ?_
 ·refine ze ?_
  exact zr ((bv false), [(Z1m a1)]) ⟨_, rfl⟩
 ·exact zk (Z8l (x1) (x12) (x13) (x14) ox1 ox12)
noncomputable def Z4c  : Option (Bool) :=
 some (true)
theorem Z8m  : Sim (Z1z) (Z4c) (Zdx 0  []) := by
 unfold Z4c
 refine zf (ZgK ..) ?_
 refine ze ?_
 exact zr ((bv true), []) ⟨_, rfl⟩
noncomputable def Z3a (x1 : List Z7) (x12 : List Z7) (x13 : Int) (x14 : Int) : Option (Bool) :=
 if ((decide (x14 < x13))) = true then
 (Z48 x1 x12 x13 x14)
 else
 (Z4c)
theorem Z8p (x1 : List Z7) (x12 : List Z7) (x13 : Int) (x14 : Int) (ox1 : Own) (ox12 : Own) : Sim (Z1z) (Z3a x1 x12 x13 x14) (ZaC 0 (.p (.lst ox1 (x1.map Zs))) (.p (.lst ox12 (x12.map Zs))) (iv x13) (iv x14) []) := by
 unfold Z3a
 refine zf (Zg9 ..) ?_
 refine ze ?_
 refine zo (bv (decide (x14 < x13))) ?_
 refine za ((decide (x14 < x13))) ?_ ?_
 ·exact zk (Z8n (x1) (x12) (x13) (x14) ox1 ox12)
 ·exact zk (Z8m )
theorem Z64 (x1 : List Z7) (x12 : List Z7) (x13 : Int) (x14 : Int) {r} (h : Z3a x1 x12 x13 x14 = some r) : Z45 x1 x12 x13 x14 = some r :=
 pick_of (fun _ _ ha hb => RRun.uniq (Z6Q) (ha .ex .ex) (hb .ex .ex)) (fun ox1 ox12 => Z8p x1 x12 x13 x14 ox1 ox12 r h)
end Go.Proofs.YtadodmjdkphddaaDoor.N2
end
