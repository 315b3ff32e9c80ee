/- More of the functions' typed texts. No condition. -/
import Derived.Test.YtadodmjdkphddaaDoorTypA

section
set_option linter.unusedSimpArgs false
set_option linter.unusedVariables false
namespace Go.Proofs.YtadodmjdkphddaaDoor.N2
open Go Go.Abs
set_option linter.unusedVariables false
set_option maxRecDepth 100000
noncomputable def Z5i (x0 : List Z8) (zZ : List Z8) : Option ((List Z8)) :=
 (Z7Y zZ x0).bind fun r1 =>
 some (r1.1)
theorem Zah (x0 : List Z8) (zZ : List Z8) (ox0 : Own) (z9W : Own) : Sim (Z4k) (Z5i x0 zZ) (EE 58 [(.p (.lst ox0 (x0.map Zv))), (.ptr 0 0)] [[(.p (.lst z9W (zZ.map Zv)))]]) := by
 unfold Z5i
 refine zf (Zkb ..) ?_
 refine ze ?_
 refine zo (.p (.lst (shrO z9W) (zZ.map Zv))) ?_
 refine zi fun r1 hr1 => ?_
 obtain ⟨qr1, er1, exr1, rfl⟩ := ZdE (zZ) (x0) .sh .sh r1 hr1
 refine zc [] (.p (.tup [(.lst .sh (r1.1.map Zv)), (.v (.int .i64 r1.2))])) [[(.p (.lst z9W (zZ.map Zv)))]] er1 ?_
 refine zo (.p (.lst .sh (r1.1.map Zv))) ?_
 refine zo (iv r1.2) ?_
 refine zt [[(.p (.lst .sh (r1.1.map Zv)))]] ?_
 exact zr ((.p (.tup [])), [[(.p (.lst .sh (r1.1.map Zv)))]]) ⟨.sh, _, rfl⟩
theorem Zaq (x0 : List Z8) (zZ : List Z8) {r} (h : Z5i x0 zZ = some r) : Z4j x0 zZ = some r :=
 pick_of (fun _ _ ha hb => RRun.uniq (ZaW) (ha .ex .ex) (hb .ex .ex)) (fun ox0 z9W => Zah x0 zZ ox0 z9W r h)
noncomputable def Z6F  : Option ((List Z8) × Int) :=
 some (([] : List Z8), 10)
theorem Z97  : Sim (Z5b) (Z6F) (Ze9 0  []) := by
 unfold Z6F
 refine zf (Ziz ..) ?_
 refine ze ?_
 exact zr ((.p (.tup [(.lst .sh []), (.v (.int .i64 10))])), []) ⟨_, rfl⟩
noncomputable def Z6C (x0 : List Z8) (x1 : List Z8) : Option ((List Z8) × Int) :=
 (Z6U (([x0, x1] : List (List Z8)))).bind fun r1 =>
 (Z84 r1).bind fun r2 =>
 some (r2, 0)
theorem Zcn (x0 : List Z8) (x1 : List Z8) (ox0 : Own) (ox1 : Own) : Sim (Z5b) (Z6C x0 x1) (Zgb 0 (.p (.lst ox0 (x0.map Zv))) (.p (.lst ox1 (x1.map Zv))) []) := by
 unfold Z6C
 refine zf (Zim ..) ?_
 refine ze ?_
 refine zo (.p (.lst .ex (([x0, x1] : List (List Z8)).map (eL Zv)))) ?_
 refine zi fun r1 hr1 => ?_
 obtain ⟨qr1, er1, exr1, rfl⟩ := ZaU (([x0, x1] : List (List Z8))) .sh r1 hr1
 refine zc [] (.p (.lst .sh (r1.map Zv))) [] er1 ?_
 refine zi fun r2 hr2 => ?_
 obtain ⟨qr2, er2, exr2, rfl⟩ := Zan (r1) .sh r2 hr2
 refine zc [] (.p (.lst .sh (r2.map Zv))) [] er2 ?_
 exact zr ((.p (.tup [(.lst .sh (r2.map Zv)), (.v (.int .i64 0))])), []) ⟨_, rfl⟩
noncomputable def Z7P (x0 : List Z8) (x1 : List Z8) : Option ((List Z8) × Int) :=
 (Z4A x0).bind fun r1 =>
 if ((!r1)) = true then
 (Z6F)
 else
 ((Z4A x1).bind fun r2 =>
 if ((!r2)) = true then
 (Z6F)
 else
 (Z6C x0 x1))
theorem Zdi (x0 : List Z8) (x1 : List Z8) (ox0 : Own) (ox1 : Own) : Sim (Z5b) (Z7P x0 x1) (EE 59 [(.p (.lst ox0 (x0.map Zv))), (.p (.lst ox1 (x1.map Zv)))] []) := by
 unfold Z7P
 refine zf (Zlk ..) ?_
 refine ze ?_
 refine ze ?_
 refine zi fun r1 hr1 => ?_
 obtain ⟨qr1, er1, exr1, rfl⟩ := Z6L (x0) .sh r1 hr1
 refine zc [] (bv r1) [] er1 ?_
 refine zo (bv (!r1)) ?_
 refine za ((!r1)) ?_ ?_
 ·exact zk (Z97 )
 ·refine zi fun r2 hr2 => ?_
  obtain ⟨qr2, er2, exr2, rfl⟩ := Z6L (x1) .sh r2 hr2
  refine zc [] (bv r2) [] er2 ?_
  refine zo (bv (!r2)) ?_
  refine za ((!r2)) ?_ ?_
  ·exact zk (Z97 )
  ·exact zk (Zcn (x0) (x1) ox0 ox1)
theorem ZdH (x0 : List Z8) (x1 : List Z8) {r} (h : Z7P x0 x1 = some r) : Z7Y x0 x1 = some r :=
 pick_of (fun _ _ ha hb => RRun.uniq (ZdY) (ha .ex .ex) (hb .ex .ex)) (fun ox0 ox1 => Zdi x0 x1 ox0 ox1 r h)
noncomputable def Z3P (zp : Int) (z7 : Int) (zd : Int) (zh : List Zq) (z2 : Int) (z6 : Int) (z17 : Int) (z1G : Int) (z1H : Int) (z1b : Int) (z1n : Int) (z1m : List Z8) (b2 : Z3) : Option (Z3 × Bool × Int × Int × Int × (List Zq) × Int × Int) :=
 some ((Z3.mk z17 z1G z1H z1b z1n z1m ([b2] : List Z3)), (z17 != 7), zp, z7, zd, zh, z2, z6)
theorem Z9B (zl : List Int) (zp : Int) (z7 : Int) (zd : Int) (zh : List Zq) (z2 : Int) (z6 : Int) (z17 : Int) (z1G : Int) (z1H : Int) (z1b : Int) (z1n : Int) (z1m : List Z8) (z23 : List Z3) (b2 : Z3) (zn : Own) (zb : Own) (zB : Own) (zy : Own) (z1J : Own) (z1z : Own) (zu : okApp zb = true) (zP : okApp zB = true) (zI : okApp zy = true) : Sim (Z2a zl zn) (Z3P zp z7 zd zh z2 z6 z17 z1G z1H z1b z1n z1m b2) (Zf5 1 (.ptr 1 0) (.ptr 2 0) [(Zi (Zk.mk zl zp z7 zd zh (Zj.mk z2 z6)) zn zb), (Zo (Z3.mk z17 z1G z1H z1b z1n z1m z23) zB zy), (Zo b2 z1J z1z)]) := by
 unfold Z3P
 refine zf (Zhz ..) ?_
 refine ze ?_
 refine zo (.p (.agg (Zz b2 (shrO z1J) (shrO z1z)))) ?_
 refine zo (.p (.lst .ex (([b2] : List Z3).map ZD))) ?_ (Eq.trans (b := some (.p (.lst .ex [.agg (Z1T b2)]))) (by kernel_rfl) (by simp only [List.map_cons, List.map_nil, Z3a]))
 refine zo (.ptr 1 6) ?_
 refine zt [(Zi (Zk.mk zl zp z7 zd zh (Zj.mk z2 z6)) zn zb), (Zo (Z3.mk z17 z1G z1H z1b z1n z1m ([b2] : List Z3)) zB .ex), (Zo b2 z1J z1z)] ?_
 refine ze ?_
 refine zo (.p (.agg (Zz (Z3.mk z17 z1G z1H z1b z1n z1m ([b2] : List Z3)) (shrO zB) .ex))) ?_
 refine zo (.ptr 1 0) ?_
 refine zo (iv z17) ?_
 refine zo (bv (z17 != 7)) ?_
 refine zt [(Zi (Zk.mk zl zp z7 zd zh (Zj.mk z2 z6)) zn zb), (Zo (Z3.mk z17 z1G z1H z1b z1n z1m ([b2] : List Z3)) (shrO zB) .ex), (Zo b2 z1J z1z)] ?_
 exact zr ((.p (.tup [(.agg (Zz (Z3.mk z17 z1G z1H z1b z1n z1m ([b2] : List Z3)) .sh .sh)), (.v (.bool (z17 != 7)))])), [(Zi (Zk.mk zl zp z7 zd zh (Zj.mk z2 z6)) zn zb), (Zo (Z3.mk z17 z1G z1H z1b z1n z1m ([b2] : List Z3)) (shrO zB) .ex), (Zo b2 z1J z1z)]) ⟨zb, _, zu, rfl⟩
noncomputable def Z1V (zp : Int) (z7 : Int) (zd : Int) (zh : List Zq) (z2 : Int) (z6 : Int) (z17 : Int) (z1G : Int) (z1H : Int) (z1b : Int) (z1n : Int) (z1m : List Z8) (b2 : Z3) : Option (Z3 × Bool × Int × Int × Int × (List Zq) × Int × Int) :=
 if ((z17 == 0)) = true then
 (some (b2, true, zp, z7, (IntKind.i64.wrap (zd - 1)), zh, z2, z6))
 else
 (Z3P zp z7 ((IntKind.i64.wrap (zd - 1))) zh z2 z6 z17 z1G z1H z1b z1n z1m b2)
theorem Z5a (zl : List Int) (zp : Int) (z7 : Int) (zd : Int) (zh : List Zq) (z2 : Int) (z6 : Int) (z17 : Int) (z1G : Int) (z1H : Int) (z1b : Int) (z1n : Int) (z1m : List Z8) (z23 : List Z3) (b2 : Z3) (zn : Own) (zb : Own) (zB : Own) (zy : Own) (z1J : Own) (z1z : Own) (zu : okApp zb = true) (zP : okApp zB = true) (zI : okApp zy = true) : Sim (Z2a zl zn) (Z1V zp z7 zd zh z2 z6 z17 z1G z1H z1b z1n z1m b2) (Zcc 1 (.ptr 0 0) (.ptr 1 0) (.ptr 2 0) [(Zi (Zk.mk zl zp z7 zd zh (Zj.mk z2 z6)) zn zb), (Zo (Z3.mk z17 z1G z1H z1b z1n z1m z23) zB zy), (Zo b2 z1J z1z)]) := by
 unfold Z1V
 refine zf (Zha ..) ?_
 refine ze ?_
 refine zo (.ptr 0 0) ?_
 refine zo (.ptr 0 3) ?_
 refine zo (iv zd) ?_
 refine zo (iv (IntKind.i64.wrap (zd - 1))) ?_
 refine zo (.ptr 0 0) ?_
 refine zo (.ptr 0 3) ?_
 refine zt [(Zi (Zk.mk zl zp z7 (IntKind.i64.wrap (zd - 1)) zh (Zj.mk z2 z6)) zn zb), (Zo (Z3.mk z17 z1G z1H z1b z1n z1m z23) zB zy), (Zo b2 z1J z1z)] ?_
 refine ze ?_
 refine zo (.ptr 1 0) ?_
 refine zo (iv z17) ?_
 refine zo (bv (z17 == 0)) ?_
 refine za ((z17 == 0)) ?_ ?_
 ·refine ze ?_
  refine zo (.p (.agg (Zz b2 (shrO z1J) (shrO z1z)))) ?_
  refine zt [(Zi (Zk.mk zl zp z7 (IntKind.i64.wrap (zd - 1)) zh (Zj.mk z2 z6)) zn zb), (Zo b2 (shrO z1J) (shrO z1z)), (Zo b2 z1J z1z)] ?_
  exact zr ((.p (.tup [(.agg (Zz b2 .sh .sh)), (.v (.bool true))])), [(Zi (Zk.mk zl zp z7 (IntKind.i64.wrap (zd - 1)) zh (Zj.mk z2 z6)) zn zb), (Zo b2 (shrO z1J) (shrO z1z)), (Zo b2 z1J z1z)]) ⟨zb, _, zu, rfl⟩
 ·exact zk (Z9B (zl) (zp) (z7) ((IntKind.i64.wrap (zd - 1))) (zh) (z2) (z6) (z17) (z1G) (z1H) (z1b) (z1n) (z1m) (z23) (b2) zn zb zB zy z1J z1z zu zP zI)
noncomputable def Z4R (x1 : Int) (zl : List Int) (z7 : Int) (zd : Int) (zh : List Zq) (z2 : Int) (z6 : Int) (z17 : Int) (z1G : Int) (z1H : Int) (z1b : Int) (z1n : Int) (z1m : List Z8) (b2 : Z3) : Option (Z3 × Bool × Int × Int × Int × (List Zq) × Int × Int) :=
 (ZS 20 x1 zl z2 z6).bind fun r1 =>
 Z1V r1.1 z7 zd zh r1.2.1 r1.2.2 z17 z1G z1H z1b z1n z1m b2
theorem Z9S (x1 : Int) (zl : List Int) (zp : Int) (z7 : Int) (zd : Int) (zh : List Zq) (z2 : Int) (z6 : Int) (z17 : Int) (z1G : Int) (z1H : Int) (z1b : Int) (z1n : Int) (z1m : List Z8) (z23 : List Z3) (b2 : Z3) (zn : Own) (zb : Own) (zB : Own) (zy : Own) (z1J : Own) (z1z : Own) (zu : okApp zb = true) (zP : okApp zB = true) (zI : okApp zy = true) : Sim (Z2a zl zn) (Z4R x1 zl z7 zd zh z2 z6 z17 z1G z1H z1b z1n z1m b2) (ZeC 1 (.ptr 0 0) (iv x1) (.ptr 1 0) (.ptr 2 0) [(Zi (Zk.mk zl zp z7 zd zh (Zj.mk z2 z6)) zn zb), (Zo (Z3.mk z17 z1G z1H z1b z1n z1m z23) zB zy), (Zo b2 z1J z1z)]) := by
 unfold Z4R
 refine zf (ZhJ ..) ?_
 refine ze ?_
 refine zi fun r1 hr1 => ?_
 obtain ⟨qr1, er1, exr1, rfl⟩ := ZV (20) (x1) (zl) (zp) (z7) (zd) (zh) (z2) (z6) zn zb zu r1 hr1
 refine zc [0] (.p (.tup [])) [(Zi (Zk.mk zl r1.1 z7 zd zh (Zj.mk r1.2.1 r1.2.2)) zn zb), (Zo (Z3.mk z17 z1G z1H z1b z1n z1m z23) zB zy), (Zo b2 z1J z1z)] er1 ?_
 exact zk (Z5a (zl) (r1.1) (z7) (zd) (zh) (r1.2.1) (r1.2.2) (z17) (z1G) (z1H) (z1b) (z1n) (z1m) (z23) (b2) zn zb zB zy z1J z1z zu zP zI)
noncomputable def Z1x (x1 : Int) (zl : List Int) (zp : Int) (z7 : Int) (zd : Int) (zh : List Zq) (z2 : Int) (z6 : Int) (z17 : Int) (z1G : Int) (z1H : Int) (z1b : Int) (z1n : Int) (z1m : List Z8) : Option (Z3 × Bool × Int × Int × Int × (List Zq) × Int × Int) :=
 (Z2U zl zp z7 zd zh z2 z6).bind fun r1 =>
 if ((r1.2.2.2.2.2.1 == 0)) = true then
 ((Z16 ((ByteArray.mk #[41])) zl r1.2.1).bind fun r2 =>
 if ((!r2.1)) = true then
 (Z4R x1 zl r1.2.2.1 r1.2.2.2.1 r1.2.2.2.2.1 r1.2.2.2.2.2.1 r1.2.2.2.2.2.2 z17 z1G z1H z1b z1n z1m r1.1)
 else
 (Z1V r2.2 r1.2.2.1 r1.2.2.2.1 r1.2.2.2.2.1 r1.2.2.2.2.2.1 r1.2.2.2.2.2.2 z17 z1G z1H z1b z1n z1m r1.1))
 else
 (Z1V r1.2.1 r1.2.2.1 r1.2.2.2.1 r1.2.2.2.2.1 r1.2.2.2.2.2.1 r1.2.2.2.2.2.2 z17 z1G z1H z1b z1n z1m r1.1)
theorem Z2u (x1 : Int) (zl : List Int) (zp : Int) (z7 : Int) (zd : Int) (zh : List Zq) (z2 : Int) (z6 : Int) (z17 : Int) (z1G : Int) (z1H : Int) (z1b : Int) (z1n : Int) (z1m : List Z8) (z23 : List Z3) (zn : Own) (zb : Own) (zB : Own) (zy : Own) (zu : okApp zb = true) (zP : okApp zB = true) (zI : okApp zy = true) : Sim (Z2a zl zn) (Z1x x1 zl zp z7 zd zh z2 z6 z17 z1G z1H z1b z1n z1m) (Z95 1 (.ptr 0 0) (iv x1) (.ptr 1 0) [(Zi (Zk.mk zl zp z7 zd zh (Zj.mk z2 z6)) zn zb), (Zo (Z3.mk z17 z1G z1H z1b z1n z1m z23) zB zy)]) := by
 unfold Z1x
 refine zf (Zhf ..) ?_
 refine ze ?_
 refine zi fun r1 hr1 => ?_
 obtain ⟨qr1, er1, or1_0_4, exr1, hor1_0_4, rfl⟩ := Z92 (zl) (zp) (z7) (zd) (zh) (z2) (z6) zn zb zu r1 hr1
 refine zc [0] (.p (.agg (Zz r1.1 .sh .sh))) [(Zi (Zk.mk zl r1.2.1 r1.2.2.1 r1.2.2.2.1 r1.2.2.2.2.1 (Zj.mk r1.2.2.2.2.2.1 r1.2.2.2.2.2.2)) zn or1_0_4), (Zo (Z3.mk z17 z1G z1H z1b z1n z1m z23) zB zy)] er1 ?_
 refine zz (.ptr 2 0) [(Zi (Zk.mk zl r1.2.1 r1.2.2.1 r1.2.2.2.1 r1.2.2.2.2.1 (Zj.mk r1.2.2.2.2.2.1 r1.2.2.2.2.2.2)) zn or1_0_4), (Zo (Z3.mk z17 z1G z1H z1b z1n z1m z23) zB zy), (Zo (Z3.mk 0 0 0 0 0 ([] : List Z8) ([] : List Z3)) .nl .nl)] ?_
 refine zt [(Zi (Zk.mk zl r1.2.1 r1.2.2.1 r1.2.2.2.1 r1.2.2.2.2.1 (Zj.mk r1.2.2.2.2.2.1 r1.2.2.2.2.2.2)) zn or1_0_4), (Zo (Z3.mk z17 z1G z1H z1b z1n z1m z23) zB zy), (Zo r1.1 .sh .sh)] ?_
 refine ze ?_
 refine zo (.ptr 0 0) ?_
 refine zo (.ptr 0 5) ?_
 refine zo (.ptr 0 5) ?_
 refine zo (iv r1.2.2.2.2.2.1) ?_
 refine zo (bv (r1.2.2.2.2.2.1 == 0)) ?_
 refine za ((r1.2.2.2.2.2.1 == 0)) ?_ ?_
 ·refine zi fun r2 hr2 => ?_
  obtain ⟨qr2, er2, exr2, rfl⟩ := Z1c ((ByteArray.mk #[41])) (zl) (r1.2.1) (r1.2.2.1) (r1.2.2.2.1) (r1.2.2.2.2.1) (r1.2.2.2.2.2.1) (r1.2.2.2.2.2.2) zn or1_0_4 hor1_0_4 r2 hr2
  refine zc [0] (bv r2.1) [(Zi (Zk.mk zl r2.2 r1.2.2.1 r1.2.2.2.1 r1.2.2.2.2.1 (Zj.mk r1.2.2.2.2.2.1 r1.2.2.2.2.2.2)) zn or1_0_4), (Zo (Z3.mk z17 z1G z1H z1b z1n z1m z23) zB zy), (Zo r1.1 .sh .sh)] er2 ?_
  refine zo (bv (!r2.1)) ?_
  refine za ((!r2.1)) ?_ ?_
  ·exact zk (Z9S (x1) (zl) (r2.2) (r1.2.2.1) (r1.2.2.2.1) (r1.2.2.2.2.1) (r1.2.2.2.2.2.1) (r1.2.2.2.2.2.2) (z17) (z1G) (z1H) (z1b) (z1n) (z1m) (z23) (r1.1) zn or1_0_4 zB zy .sh .sh hor1_0_4 zP zI)
  ·exact zk (Z5a (zl) (r2.2) (r1.2.2.1) (r1.2.2.2.1) (r1.2.2.2.2.1) (r1.2.2.2.2.2.1) (r1.2.2.2.2.2.2) (z17) (z1G) (z1H) (z1b) (z1n) (z1m) (z23) (r1.1) zn or1_0_4 zB zy .sh .sh hor1_0_4 zP zI)
 ·exact zk (Z5a (zl) (r1.2.1) (r1.2.2.1) (r1.2.2.2.1) (r1.2.2.2.2.1) (r1.2.2.2.2.2.1) (r1.2.2.2.2.2.2) (z17) (z1G) (z1H) (z1b) (z1n) (z1m) (z23) (r1.1) zn or1_0_4 zB zy .sh .sh hor1_0_4 zP zI)
noncomputable def Z46 (x1 : Int) (zl : List Int) (zp : Int) (z7 : Int) (zd : Int) (zh : List Zq) (z2 : Int) (z6 : Int) (z17 : Int) (z1G : Int) (z1H : Int) (z1b : Int) (z1n : Int) (z1m : List Z8) : Option (Z3 × Bool × Int × Int × Int × (List Zq) × Int × Int) :=
 (Z8H).bind fun r1 =>
 (Z3G r1 zl zp).bind fun r2 =>
 if ((decide (0 ≤ r2.1))) = true then
 (Z1x x1 zl r2.2 z7 ((IntKind.i64.wrap (zd + 1))) zh z2 z6 7 0 0 r2.1 0 (([] : List Z8)))
 else
 ((Z16 ((ByteArray.mk #[63, 62])) zl r2.2).bind fun r3 =>
 if (r3.1) = true then
 (Z1x x1 zl r3.2 z7 ((IntKind.i64.wrap (zd + 1))) zh z2 z6 8 0 0 0 0 (([] : List Z8)))
 else
 ((Z16 ((ByteArray.mk #[63, 58])) zl r3.2).bind fun r4 =>
 if (r4.1) = true then
 (Z1x x1 zl r4.2 z7 ((IntKind.i64.wrap (zd + 1))) zh z2 z6 z17 z1G z1H z1b z1n z1m)
 else
 ((Z1F ((Zk.mk zl r4.2 z7 (IntKind.i64.wrap (zd + 1)) zh (Zj.mk z2 z6)))).bind fun r5 =>
 if ((r5 == 63)) = true then
 ((ZS 20 x1 zl z2 z6).bind fun r6 =>
 Z1x x1 zl r6.1 z7 ((IntKind.i64.wrap (zd + 1))) zh r6.2.1 r6.2.2 z17 z1G z1H z1b z1n z1m)
 else
 (if ((z7 == 9)) = true then
 ((ZS 24 x1 zl z2 z6).bind fun r7 =>
 Z1x x1 zl r7.1 z7 ((IntKind.i64.wrap (zd + 1))) zh r7.2.1 r7.2.2 z17 z1G z1H z1b z1n z1m)
 else
 (Z1x x1 zl r4.2 ((IntKind.i64.wrap (z7 + 1))) ((IntKind.i64.wrap (zd + 1))) zh z2 z6 5 0 0 0 ((IntKind.i64.wrap (z7 + 1))) (([] : List Z8)))))))
theorem Za6 (x1 : Int) (zl : List Int) (zp : Int) (z7 : Int) (zd : Int) (zh : List Zq) (z2 : Int) (z6 : Int) (z17 : Int) (z1G : Int) (z1H : Int) (z1b : Int) (z1n : Int) (z1m : List Z8) (z23 : List Z3) (zn : Own) (zb : Own) (zB : Own) (zy : Own) (zu : okApp zb = true) (zP : okApp zB = true) (zI : okApp zy = true) : Sim (Z2a zl zn) (Z46 x1 zl zp z7 zd zh z2 z6 z17 z1G z1H z1b z1n z1m) (Zgh 1 (.ptr 0 0) (iv x1) (.ptr 1 0) [(Zi (Zk.mk zl zp z7 zd zh (Zj.mk z2 z6)) zn zb), (Zo (Z3.mk z17 z1G z1H z1b z1n z1m z23) zB zy)]) := by
 unfold Z46
 refine zf (Zj2 ..) ?_
 refine ze ?_
 refine zo (.ptr 0 0) ?_
 refine zo (.ptr 0 3) ?_
 refine zo (iv zd) ?_
 refine zo (iv (IntKind.i64.wrap (zd + 1))) ?_
 refine zo (.ptr 0 0) ?_
 refine zo (.ptr 0 3) ?_
 refine zt [(Zi (Zk.mk zl zp z7 (IntKind.i64.wrap (zd + 1)) zh (Zj.mk z2 z6)) zn zb), (Zo (Z3.mk z17 z1G z1H z1b z1n z1m z23) zB zy)] ?_
 refine ze ?_
 refine zi fun r1 hr1 => ?_
 obtain ⟨qr1, er1, exr1, rfl⟩ := ZdV  r1 hr1
 refine zc [] (.p (.lst .sh (r1.map eS))) [(Zi (Zk.mk zl zp z7 (IntKind.i64.wrap (zd + 1)) zh (Zj.mk z2 z6)) zn zb), (Zo (Z3.mk z17 z1G z1H z1b z1n z1m z23) zB zy)] er1 ?_
 refine zi fun r2 hr2 => ?_
 obtain ⟨qr2, er2, exr2, rfl⟩ := Z8W (r1) (zl) (zp) (z7) ((IntKind.i64.wrap (zd + 1))) (zh) (z2) (z6) .sh zn zb zu r2 hr2
 refine zc [0] (iv r2.1) [(Zi (Zk.mk zl r2.2 z7 (IntKind.i64.wrap (zd + 1)) zh (Zj.mk z2 z6)) zn zb), (Zo (Z3.mk z17 z1G z1H z1b z1n z1m z23) zB zy)] er2 ?_
 refine ze ?_
 refine zo (bv (decide (0 ≤ r2.1))) ?_
 refine za ((decide (0 ≤ r2.1))) ?_ ?_
 ·refine ze ?_
  refine zo (.p (.agg (Zz (Z3.mk 7 0 0 r2.1 0 ([] : List Z8) ([] : List Z3)) .nl .nl))) ?_
  refine zt [(Zi (Zk.mk zl r2.2 z7 (IntKind.i64.wrap (zd + 1)) zh (Zj.mk z2 z6)) zn zb), (Zo (Z3.mk 7 0 0 r2.1 0 ([] : List Z8) ([] : List Z3)) .nl .nl)] ?_
  exact zk (Z2u (x1) (zl) (r2.2) (z7) ((IntKind.i64.wrap (zd + 1))) (zh) (z2) (z6) (7) (0) (0) (r2.1) (0) (([] : List Z8)) (([] : List Z3)) zn zb .nl .nl zu rfl rfl)
 ·refine ze ?_
  refine zi fun r3 hr3 => ?_
  obtain ⟨qr3, er3, exr3, rfl⟩ := Z1c ((ByteArray.mk #[63, 62])) (zl) (r2.2) (z7) ((IntKind.i64.wrap (zd + 1))) (zh) (z2) (z6) zn zb zu r3 hr3
  refine zc [0] (bv r3.1) [(Zi (Zk.mk zl r3.2 z7 (IntKind.i64.wrap (zd + 1)) zh (Zj.mk z2 z6)) zn zb), (Zo (Z3.mk z17 z1G z1H z1b z1n z1m z23) zB zy)] er3 ?_
  refine za (r3.1) ?_ ?_
  ·refine ze ?_
   refine zo (.p (.agg (Zz (Z3.mk 8 0 0 0 0 ([] : List Z8) ([] : List Z3)) .nl .nl))) ?_
   refine zt [(Zi (Zk.mk zl r3.2 z7 (IntKind.i64.wrap (zd + 1)) zh (Zj.mk z2 z6)) zn zb), (Zo (Z3.mk 8 0 0 0 0 ([] : List Z8) ([] : List Z3)) .nl .nl)] ?_
   exact zk (Z2u (x1) (zl) (r3.2) (z7) ((IntKind.i64.wrap (zd + 1))) (zh) (z2) (z6) (8) (0) (0) (0) (0) (([] : List Z8)) (([] : List Z3)) zn zb .nl .nl zu rfl rfl)
  ·refine ze ?_
   refine zi fun r4 hr4 => ?_
   obtain ⟨qr4, er4, exr4, rfl⟩ := Z1c ((ByteArray.mk #[63, 58])) (zl) (r3.2) (z7) ((IntKind.i64.wrap (zd + 1))) (zh) (z2) (z6) zn zb zu r4 hr4
   refine zc [0] (bv r4.1) [(Zi (Zk.mk zl r4.2 z7 (IntKind.i64.wrap (zd + 1)) zh (Zj.mk z2 z6)) zn zb), (Zo (Z3.mk z17 z1G z1H z1b z1n z1m z23) zB zy)] er4 ?_
   refine za (r4.1) ?_ ?_
   ·exact zk (Z2u (x1) (zl) (r4.2) (z7) ((IntKind.i64.wrap (zd + 1))) (zh) (z2) (z6) (z17) (z1G) (z1H) (z1b) (z1n) (z1m) (z23) zn zb zB zy zu zP zI)
   ·refine ze ?_
    refine zi fun r5 hr5 => ?_
    obtain ⟨qr5, er5, exr5, rfl⟩ := Z1K ((Zk.mk zl r4.2 z7 (IntKind.i64.wrap (zd + 1)) zh (Zj.mk z2 z6))) zn zb zu r5 hr5
    refine zc [0] (iv r5) [(Zi (Zk.mk zl r4.2 z7 (IntKind.i64.wrap (zd + 1)) zh (Zj.mk z2 z6)) zn zb), (Zo (Z3.mk z17 z1G z1H z1b z1n z1m z23) zB zy)] er5 ?_
    refine zo (bv (r5 == 63)) ?_
    refine za ((r5 == 63)) ?_ ?_
    ·refine ze ?_
     refine zi fun r6 hr6 => ?_
     obtain ⟨qr6, er6, exr6, rfl⟩ := ZV (20) (x1) (zl) (r4.2) (z7) ((IntKind.i64.wrap (zd + 1))) (zh) (z2) (z6) zn zb zu r6 hr6
     refine zc [0] (.p (.tup [])) [(Zi (Zk.mk zl r6.1 z7 (IntKind.i64.wrap (zd + 1)) zh (Zj.mk r6.2.1 r6.2.2)) zn zb), (Zo (Z3.mk z17 z1G z1H z1b z1n z1m z23) zB zy)] er6 ?_
     exact zk (Z2u (x1) (zl) (r6.1) (z7) ((IntKind.i64.wrap (zd + 1))) (zh) (r6.2.1) (r6.2.2) (z17) (z1G) (z1H) (z1b) (z1n) (z1m) (z23) zn zb zB zy zu zP zI)
    ·refine ze ?_
     refine zo (.ptr 0 0) ?_
     refine zo (.ptr 0 2) ?_
     refine zo (iv z7) ?_
     refine zo (bv (z7 == 9)) ?_
     refine za ((z7 == 9)) ?_ ?_
     ·refine ze ?_
      refine zi fun r7 hr7 => ?_
      obtain ⟨qr7, er7, exr7, rfl⟩ := ZV (24) (x1) (zl) (r4.2) (z7) ((IntKind.i64.wrap (zd + 1))) (zh) (z2) (z6) zn zb zu r7 hr7
      refine zc [0] (.p (.tup [])) [(Zi (Zk.mk zl r7.1 z7 (IntKind.i64.wrap (zd + 1)) zh (Zj.mk r7.2.1 r7.2.2)) zn zb), (Zo (Z3.mk z17 z1G z1H z1b z1n z1m z23) zB zy)] er7 ?_
      exact zk (Z2u (x1) (zl) (r7.1) (z7) ((IntKind.i64.wrap (zd + 1))) (zh) (r7.2.1) (r7.2.2) (z17) (z1G) (z1H) (z1b) (z1n) (z1m) (z23) zn zb zB zy zu zP zI)
     ·refine ze ?_
      refine zo (.ptr 0 0) ?_
      refine zo (.ptr 0 2) ?_
      refine zo (iv z7) ?_
      refine zo (iv (IntKind.i64.wrap (z7 + 1))) ?_
      refine zo (.ptr 0 0) ?_
      refine zo (.ptr 0 2) ?_
      refine zt [(Zi (Zk.mk zl r4.2 (IntKind.i64.wrap (z7 + 1)) (IntKind.i64.wrap (zd + 1)) zh (Zj.mk z2 z6)) zn zb), (Zo (Z3.mk z17 z1G z1H z1b z1n z1m z23) zB zy)] ?_
      refine ze ?_
      refine zo (.ptr 0 0) ?_
      refine zo (.ptr 0 2) ?_
      refine zo (iv (IntKind.i64.wrap (z7 + 1))) ?_
      refine zo (.p (.agg (Zz (Z3.mk 5 0 0 0 (IntKind.i64.wrap (z7 + 1)) ([] : List Z8) ([] : List Z3)) .nl .nl))) ?_
      refine zt [(Zi (Zk.mk zl r4.2 (IntKind.i64.wrap (z7 + 1)) (IntKind.i64.wrap (zd + 1)) zh (Zj.mk z2 z6)) zn zb), (Zo (Z3.mk 5 0 0 0 (IntKind.i64.wrap (z7 + 1)) ([] : List Z8) ([] : List Z3)) .nl .nl)] ?_
      exact zk (Z2u (x1) (zl) (r4.2) ((IntKind.i64.wrap (z7 + 1))) ((IntKind.i64.wrap (zd + 1))) (zh) (z2) (z6) (5) (0) (0) (0) ((IntKind.i64.wrap (z7 + 1))) (([] : List Z8)) (([] : List Z3)) zn zb .nl .nl zu rfl rfl)
noncomputable def Z3T (x1 : Int) (zl : List Int) (zp : Int) (z7 : Int) (zd : Int) (zh : List Zq) (z2 : Int) (z6 : Int) : Option (Z3 × Bool × Int × Int × Int × (List Zq) × Int × Int) :=
 if ((zd == 32)) = true then
 ((ZS 25 x1 zl z2 z6).bind fun r1 =>
 some ((Z3.mk 0 0 0 0 0 ([] : List Z8) ([] : List Z3)), true, r1.1, z7, zd, zh, r1.2.1, r1.2.2))
 else
 (Z46 x1 zl zp z7 zd zh z2 z6 0 0 0 0 0 (([] : List Z8)))
theorem ZaY (x1 : Int) (zl : List Int) (zp : Int) (z7 : Int) (zd : Int) (zh : List Zq) (z2 : Int) (z6 : Int) (zn : Own) (zb : Own) (zu : okApp zb = true) : Sim (Z2a zl zn) (Z3T x1 zl zp z7 zd zh z2 z6) (EE 51 [(.ptr 0 0), (iv x1)] [(Zi (Zk.mk zl zp z7 zd zh (Zj.mk z2 z6)) zn zb)]) := by
 unfold Z3T
 refine zf (ZkO ..) ?_
 refine ze ?_
 refine zz (.ptr 1 0) [(Zi (Zk.mk zl zp z7 zd zh (Zj.mk z2 z6)) zn zb), (Zo (Z3.mk 0 0 0 0 0 ([] : List Z8) ([] : List Z3)) .nl .nl)] ?_
 refine ze ?_
 refine zo (.ptr 0 0) ?_
 refine zo (.ptr 0 3) ?_
 refine zo (iv zd) ?_
 refine zo (bv (zd == 32)) ?_
 refine za ((zd == 32)) ?_ ?_
 ·refine ze ?_
  refine zi fun r1 hr1 => ?_
  obtain ⟨qr1, er1, exr1, rfl⟩ := ZV (25) (x1) (zl) (zp) (z7) (zd) (zh) (z2) (z6) zn zb zu r1 hr1
  refine zc [0] (.p (.tup [])) [(Zi (Zk.mk zl r1.1 z7 zd zh (Zj.mk r1.2.1 r1.2.2)) zn zb), (Zo (Z3.mk 0 0 0 0 0 ([] : List Z8) ([] : List Z3)) .nl .nl)] er1 ?_
  refine ze ?_
  refine zo (.p (.agg (Zz (Z3.mk 0 0 0 0 0 ([] : List Z8) ([] : List Z3)) .nl .nl))) ?_
  refine zt [(Zi (Zk.mk zl r1.1 z7 zd zh (Zj.mk r1.2.1 r1.2.2)) zn zb), (Zo (Z3.mk 0 0 0 0 0 ([] : List Z8) ([] : List Z3)) .nl .nl)] ?_
  exact zr ((.p (.tup [(.agg (Zz (Z3.mk 0 0 0 0 0 ([] : List Z8) ([] : List Z3)) .sh .sh)), (.v (.bool true))])), [(Zi (Zk.mk zl r1.1 z7 zd zh (Zj.mk r1.2.1 r1.2.2)) zn zb), (Zo (Z3.mk 0 0 0 0 0 ([] : List Z8) ([] : List Z3)) .nl .nl)]) ⟨zb, _, zu, rfl⟩
 ·exact zk (Za6 (x1) (zl) (zp) (z7) (zd) (zh) (z2) (z6) (0) (0) (0) (0) (0) (([] : List Z8)) (([] : List Z3)) zn zb .nl .nl zu rfl rfl)
theorem Z6e (x1 : Int) (zl : List Int) (zp : Int) (z7 : Int) (zd : Int) (zh : List Zq) (z2 : Int) (z6 : Int) {r} (h : Z3T x1 zl zp z7 zd zh z2 z6 = some r) : Z3b x1 zl zp z7 zd zh z2 z6 = some r :=
 pick_of (fun _ _ ha hb => RRun.uniq (ZbF _ _) (ha .ex .ex rfl) (hb .ex .ex rfl)) (fun zn zb zu => ZaY x1 zl zp z7 zd zh z2 z6 zn zb zu r h)
noncomputable def Zaj  : Option ((List ByteArray)) :=
 some (([(ByteArray.mk #[63, 61]), (ByteArray.mk #[63, 33]), (ByteArray.mk #[63, 60, 61]), (ByteArray.mk #[63, 60, 33])] : List ByteArray))
theorem ZdF  : Sim (Z74) (Zaj) (EE 62 [] []) := by
 unfold Zaj
 refine zf (ZkF ..) ?_
 refine ze ?_
 refine ze ?_
 refine zo (.p (.lst .ex (([(ByteArray.mk #[63, 61]), (ByteArray.mk #[63, 33]), (ByteArray.mk #[63, 60, 61]), (ByteArray.mk #[63, 60, 33])] : List ByteArray).map eS))) ?_
 exact zr ((.p (.lst .sh (([(ByteArray.mk #[63, 61]), (ByteArray.mk #[63, 33]), (ByteArray.mk #[63, 60, 61]), (ByteArray.mk #[63, 60, 33])] : List ByteArray).map eS))), []) ⟨_, rfl⟩
theorem ZdS  {r} (h : Zaj = some r) : Z8H = some r :=
 pick_of (fun _ _ ha hb => RRun.uniq (Zeu) (ha ) (hb )) (ZdF  r h)
noncomputable def Z3K (x0 : List ByteArray) (zl : List Int) (zp : Int) : Option (Int × Int) :=
 Z1v x0 ((x0.length : Int)) 0 zl zp
theorem Z8r (x0 : List ByteArray) (zl : List Int) (zp : Int) (z7 : Int) (zd : Int) (zh : List Zq) (z2 : Int) (z6 : Int) (ox0 : Own) (zn : Own) (zb : Own) (zu : okApp zb = true) : Sim (Z1l zl z7 zd zh z2 z6 zn zb) (Z3K x0 zl zp) (EE 61 [(.p (.lst ox0 (x0.map eS))), (.clo 27 [(.ptr 0 0)] [])] [(Zi (Zk.mk zl zp z7 zd zh (Zj.mk z2 z6)) zn zb)]) := by
 unfold Z3K
 refine zf (ZkU ..) ?_
 refine ze ?_
 refine ze ?_
 refine zo (iv (x0.length : Int)) ?_ (Eq.trans (by kernel_rfl) (xlen_of (P := PP) (t := 43) (d := 9) (by kernel_rfl) eS (shrO ox0) x0))
 exact zk (Z5z (x0) ((x0.length : Int)) (0) (zl) (zp) (z7) (zd) (zh) (z2) (z6) ox0 zn zb zu)
theorem Z8V (x0 : List ByteArray) (zl : List Int) (zp : Int) {r} (h : Z3K x0 zl zp = some r) : Z3G x0 zl zp = some r :=
 pick_of (fun _ _ ha hb => RRun.uniq (Z6d _ _ _ _ _ _ _ _) (ha default default default default default .ex .ex .ex rfl) (hb default default default default default .ex .ex .ex rfl)) (fun z7 zd zh z2 z6 ox0 zn zb zu => Z8r x0 zl zp z7 zd zh z2 z6 ox0 zn zb zu r h)
noncomputable def Z3d (x0 : List ByteArray) (x7 : Int) (x8 : Int) (zl : List Int) (zp : Int) : Option (Int × Int) :=
 Z1v x0 x7 ((IntKind.i64.wrap (x8 + 1))) zl zp
theorem Z7q (x0 : List ByteArray) (x7 : Int) (x8 : Int) (zl : List Int) (zp : Int) (z7 : Int) (zd : Int) (zh : List Zq) (z2 : Int) (z6 : Int) (ox0 : Own) (zn : Own) (zb : Own) (zu : okApp zb = true) : Sim (Z1l zl z7 zd zh z2 z6 zn zb) (Z3d x0 x7 x8 zl zp) (ZgG 1 (.p (.lst ox0 (x0.map eS))) (.clo 27 [(.ptr 0 0)] []) (iv x7) (iv x8) [(Zi (Zk.mk zl zp z7 zd zh (Zj.mk z2 z6)) zn zb)]) := by
 unfold Z3d
 refine zf (Zjn ..) ?_
 refine ze ?_
 refine zo (iv (IntKind.i64.wrap (x8 + 1))) ?_
 exact zk (Z5z (x0) (x7) ((IntKind.i64.wrap (x8 + 1))) (zl) (zp) (z7) (zd) (zh) (z2) (z6) ox0 zn zb zu)
noncomputable def Z2w (x0 : List ByteArray) (x7 : Int) (x8 : Int) (zl : List Int) (zp : Int) : Option (Int × Int) :=
 (lget x0 x8).bind fun a1 =>
 (Z16 a1 zl zp).bind fun r2 =>
 if (r2.1) = true then
 (some (x8, r2.2))
 else
 (Z3d x0 x7 x8 zl r2.2)
theorem Z7C (x0 : List ByteArray) (x7 : Int) (x8 : Int) (zl : List Int) (zp : Int) (z7 : Int) (zd : Int) (zh : List Zq) (z2 : Int) (z6 : Int) (ox0 : Own) (zn : Own) (zb : Own) (zu : okApp zb = true) : Sim (Z1l zl z7 zd zh z2 z6 zn zb) (Z2w x0 x7 x8 zl zp) (ZfN 1 (.p (.lst ox0 (x0.map eS))) (.clo 27 [(.ptr 0 0)] []) (iv x7) (iv x8) [(Zi (Zk.mk zl zp z7 zd zh (Zj.mk z2 z6)) zn zb)]) := by
 unfold Z2w
 refine zf (Zio ..) ?_
 refine ze ?_
 refine ze ?_
 refine zi fun a1 ha1 => ?_
 refine zo (.cptr [(.v (.string a1))]) ?_ (Eq.trans (by kernel_rfl) (xidx_of (o := (shrO ox0)) (k := .i64) (n := 1) (e := eS) (cs := (fun a => [eS a])) (fun _ => rfl) (fun _ => rfl) (by decide) ha1))
 refine zo (.p (.v (.string a1))) ?_
 refine zi fun r2 hr2 => ?_
 obtain ⟨qr2, er2, exr2, rfl⟩ := Z1c (a1) (zl) (zp) (z7) (zd) (zh) (z2) (z6) zn zb zu r2 hr2
 refine zv [0] (bv r2.1) [(Zi (Zk.mk zl r2.2 z7 zd zh (Zj.mk z2 z6)) zn zb)] er2 ?_
 refine za (r2.1) ?_ ?_
 ·refine ze ?_
  exact zr ((iv x8), [(Zi (Zk.mk zl r2.2 z7 zd zh (Zj.mk z2 z6)) zn zb)]) ⟨_, rfl⟩
 ·exact zk (Z7q (x0) (x7) (x8) (zl) (r2.2) (z7) (zd) (zh) (z2) (z6) ox0 zn zb zu)
noncomputable def Z4o (zp : Int) : Option (Int × Int) :=
 some ((-1), zp)
theorem Z7F (zl : List Int) (zp : Int) (z7 : Int) (zd : Int) (zh : List Zq) (z2 : Int) (z6 : Int) (zn : Own) (zb : Own) (zu : okApp zb = true) : Sim (Z1l zl z7 zd zh z2 z6 zn zb) (Z4o zp) (ZgF 1  [(Zi (Zk.mk zl zp z7 zd zh (Zj.mk z2 z6)) zn zb)]) := by
 unfold Z4o
 refine zf (Zj9 ..) ?_
 refine ze ?_
 exact zr ((iv (-1)), [(Zi (Zk.mk zl zp z7 zd zh (Zj.mk z2 z6)) zn zb)]) ⟨_, rfl⟩
noncomputable def Z28 (x0 : List ByteArray) (x7 : Int) (x8 : Int) (zl : List Int) (zp : Int) : Option (Int × Int) :=
 if ((decide (x8 < x7))) = true then
 (Z2w x0 x7 x8 zl zp)
 else
 (Z4o zp)
theorem Z7w (x0 : List ByteArray) (x7 : Int) (x8 : Int) (zl : List Int) (zp : Int) (z7 : Int) (zd : Int) (zh : List Zq) (z2 : Int) (z6 : Int) (ox0 : Own) (zn : Own) (zb : Own) (zu : okApp zb = true) : Sim (Z1l zl z7 zd zh z2 z6 zn zb) (Z28 x0 x7 x8 zl zp) (Zcv 1 (.p (.lst ox0 (x0.map eS))) (.clo 27 [(.ptr 0 0)] []) (iv x7) (iv x8) [(Zi (Zk.mk zl zp z7 zd zh (Zj.mk z2 z6)) zn zb)]) := by
 unfold Z28
 refine zf (Zjt ..) ?_
 refine ze ?_
 refine zo (bv (decide (x8 < x7))) ?_
 refine za ((decide (x8 < x7))) ?_ ?_
 ·exact zk (Z7C (x0) (x7) (x8) (zl) (zp) (z7) (zd) (zh) (z2) (z6) ox0 zn zb zu)
 ·exact zk (Z7F (zl) (zp) (z7) (zd) (zh) (z2) (z6) zn zb zu)
theorem Z3X (x0 : List ByteArray) (x7 : Int) (x8 : Int) (zl : List Int) (zp : Int) {r} (h : Z28 x0 x7 x8 zl zp = some r) : Z1v x0 x7 x8 zl zp = some r :=
 pick_of (fun _ _ ha hb => RRun.uniq (Z6d _ _ _ _ _ _ _ _) (ha default default default default default .ex .ex .ex rfl) (hb default default default default default .ex .ex .ex rfl)) (fun z7 zd zh z2 z6 ox0 zn zb zu => Z7w x0 x7 x8 zl zp z7 zd zh z2 z6 ox0 zn zb zu r h)
noncomputable def Z2V (zp : Int) (z2 : Int) (z6 : Int) (z1X : Int) (z2Z : Int) (z2Y : Int) (z2v : Int) (z2m : Int) (z2n : List Z8) (z1Y : List Z3) : Option (Z3 × Int × Int × Int) :=
 some ((Z3.mk z1X z2Z z2Y z2v z2m z2n z1Y), zp, z2, z6)
theorem Z51 (zl : List Int) (zp : Int) (z7 : Int) (zd : Int) (zh : List Zq) (z2 : Int) (z6 : Int) (b1 : Z3) (b2 : Z3) (z1X : Int) (z2Z : Int) (z2Y : Int) (z2v : Int) (z2m : Int) (z2n : List Z8) (z1Y : List Z3) (zn : Own) (zb : Own) (zB : Own) (zy : Own) (z1J : Own) (z1z : Own) (z31 : Own) (z2A : Own) (zu : okApp zb = true) (z8R : okApp z1J = true) (z7v : okApp z1z = true) (z8O : okApp z31 = true) (z7J : okApp z2A = true) : Sim (Z2B zl z7 zd zh zn zb) (Z2V zp z2 z6 z1X z2Z z2Y z2v z2m z2n z1Y) (Zck 1 (.ptr 2 0) (.ptr 3 0) [(Zi (Zk.mk zl zp z7 zd zh (Zj.mk z2 z6)) zn zb), (Zo b1 zB zy), (Zo b2 z1J z1z), (Zo (Z3.mk z1X z2Z z2Y z2v z2m z2n z1Y) z31 z2A)]) := by
 unfold Z2V
 refine zf (Zhu ..) ?_
 refine ze ?_
 refine zo (.p (.agg (Zz (Z3.mk z1X z2Z z2Y z2v z2m z2n z1Y) (shrO z31) (shrO z2A)))) ?_
 refine zt [(Zi (Zk.mk zl zp z7 zd zh (Zj.mk z2 z6)) zn zb), (Zo b1 zB zy), (Zo (Z3.mk z1X z2Z z2Y z2v z2m z2n z1Y) (shrO z31) (shrO z2A)), (Zo (Z3.mk z1X z2Z z2Y z2v z2m z2n z1Y) z31 z2A)] ?_
 exact zr ((.p (.agg (Zz (Z3.mk z1X z2Z z2Y z2v z2m z2n z1Y) .sh .sh))), [(Zi (Zk.mk zl zp z7 zd zh (Zj.mk z2 z6)) zn zb), (Zo b1 zB zy), (Zo (Z3.mk z1X z2Z z2Y z2v z2m z2n z1Y) (shrO z31) (shrO z2A)), (Zo (Z3.mk z1X z2Z z2Y z2v z2m z2n z1Y) z31 z2A)]) ⟨_, rfl⟩
noncomputable def Z2o (zl : List Int) (zp : Int) (z2 : Int) (z6 : Int) (z1X : Int) (z2Z : Int) (z2Y : Int) (z2v : Int) (z2m : Int) (z2n : List Z8) (z1Y : List Z3) : Option (Z3 × Int × Int × Int) :=
 (Z16 ((ByteArray.mk #[63])) zl zp).bind fun r1 =>
 if (r1.1) = true then
 (Z2V r1.2 z2 z6 z1X z2Z z2Y 1 z2m z2n z1Y)
 else
 ((Z16 ((ByteArray.mk #[43])) zl r1.2).bind fun r2 =>
 if (r2.1) = true then
 (Z2V r2.2 z2 z6 z1X z2Z z2Y 2 z2m z2n z1Y)
 else
 (Z2V r2.2 z2 z6 z1X z2Z z2Y z2v z2m z2n z1Y))
theorem Z6v (zl : List Int) (zp : Int) (z7 : Int) (zd : Int) (zh : List Zq) (z2 : Int) (z6 : Int) (b1 : Z3) (b2 : Z3) (z1X : Int) (z2Z : Int) (z2Y : Int) (z2v : Int) (z2m : Int) (z2n : List Z8) (z1Y : List Z3) (zn : Own) (zb : Own) (zB : Own) (zy : Own) (z1J : Own) (z1z : Own) (z31 : Own) (z2A : Own) (zu : okApp zb = true) (z8R : okApp z1J = true) (z7v : okApp z1z = true) (z8O : okApp z31 = true) (z7J : okApp z2A = true) : Sim (Z2B zl z7 zd zh zn zb) (Z2o zl zp z2 z6 z1X z2Z z2Y z2v z2m z2n z1Y) (Zdv 1 (.ptr 0 0) (.ptr 2 0) (.ptr 3 0) [(Zi (Zk.mk zl zp z7 zd zh (Zj.mk z2 z6)) zn zb), (Zo b1 zB zy), (Zo b2 z1J z1z), (Zo (Z3.mk z1X z2Z z2Y z2v z2m z2n z1Y) z31 z2A)]) := by
 unfold Z2o
 refine zf (Zhj ..) ?_
 refine ze ?_
 refine zi fun r1 hr1 => ?_
 obtain ⟨qr1, er1, exr1, rfl⟩ := Z1c ((ByteArray.mk #[63])) (zl) (zp) (z7) (zd) (zh) (z2) (z6) zn zb zu r1 hr1
 refine zc [0] (bv r1.1) [(Zi (Zk.mk zl r1.2 z7 zd zh (Zj.mk z2 z6)) zn zb), (Zo b1 zB zy), (Zo b2 z1J z1z), (Zo (Z3.mk z1X z2Z z2Y z2v z2m z2n z1Y) z31 z2A)] er1 ?_
 refine za (r1.1) ?_ ?_
 ·refine ze ?_
  refine zo (.ptr 3 3) ?_
  refine zt [(Zi (Zk.mk zl r1.2 z7 zd zh (Zj.mk z2 z6)) zn zb), (Zo b1 zB zy), (Zo b2 z1J z1z), (Zo (Z3.mk z1X z2Z z2Y 1 z2m z2n z1Y) z31 z2A)] ?_
  exact zk (Z51 (zl) (r1.2) (z7) (zd) (zh) (z2) (z6) (b1) (b2) (z1X) (z2Z) (z2Y) (1) (z2m) (z2n) (z1Y) zn zb zB zy z1J z1z z31 z2A zu z8R z7v z8O z7J)
 ·refine ze ?_
  refine zi fun r2 hr2 => ?_
  obtain ⟨qr2, er2, exr2, rfl⟩ := Z1c ((ByteArray.mk #[43])) (zl) (r1.2) (z7) (zd) (zh) (z2) (z6) zn zb zu r2 hr2
  refine zc [0] (bv r2.1) [(Zi (Zk.mk zl r2.2 z7 zd zh (Zj.mk z2 z6)) zn zb), (Zo b1 zB zy), (Zo b2 z1J z1z), (Zo (Z3.mk z1X z2Z z2Y z2v z2m z2n z1Y) z31 z2A)] er2 ?_
  refine za (r2.1) ?_ ?_
  ·refine ze ?_
   refine zo (.ptr 3 3) ?_
   refine zt [(Zi (Zk.mk zl r2.2 z7 zd zh (Zj.mk z2 z6)) zn zb), (Zo b1 zB zy), (Zo b2 z1J z1z), (Zo (Z3.mk z1X z2Z z2Y 2 z2m z2n z1Y) z31 z2A)] ?_
   exact zk (Z51 (zl) (r2.2) (z7) (zd) (zh) (z2) (z6) (b1) (b2) (z1X) (z2Z) (z2Y) (2) (z2m) (z2n) (z1Y) zn zb zB zy z1J z1z z31 z2A zu z8R z7v z8O z7J)
  ·exact zk (Z51 (zl) (r2.2) (z7) (zd) (zh) (z2) (z6) (b1) (b2) (z1X) (z2Z) (z2Y) (z2v) (z2m) (z2n) (z1Y) zn zb zB zy z1J z1z z31 z2A zu z8R z7v z8O z7J)
noncomputable def Z1R (x2 : Bool) (x7 : Int) (zl : List Int) (zp : Int) (z2 : Int) (z6 : Int) (z1X : Int) (z2Z : Int) (z2Y : Int) (z2v : Int) (z2m : Int) (z2n : List Z8) (z1Y : List Z3) : Option (Z3 × Int × Int × Int) :=
 if ((!x2)) = true then
 ((ZS 23 x7 zl z2 z6).bind fun r1 =>
 Z2o zl r1.1 r1.2.1 r1.2.2 z1X z2Z z2Y z2v z2m z2n z1Y)
 else
 (Z2o zl zp z2 z6 z1X z2Z z2Y z2v z2m z2n z1Y)
theorem Z3I (x2 : Bool) (x7 : Int) (zl : List Int) (zp : Int) (z7 : Int) (zd : Int) (zh : List Zq) (z2 : Int) (z6 : Int) (b1 : Z3) (b2 : Z3) (z1X : Int) (z2Z : Int) (z2Y : Int) (z2v : Int) (z2m : Int) (z2n : List Z8) (z1Y : List Z3) (zn : Own) (zb : Own) (zB : Own) (zy : Own) (z1J : Own) (z1z : Own) (z31 : Own) (z2A : Own) (zu : okApp zb = true) (z8R : okApp z1J = true) (z7v : okApp z1z = true) (z8O : okApp z31 = true) (z7J : okApp z2A = true) : Sim (Z2B zl z7 zd zh zn zb) (Z1R x2 x7 zl zp z2 z6 z1X z2Z z2Y z2v z2m z2n z1Y) (ZaO 1 (.ptr 0 0) (bv x2) (.ptr 2 0) (iv x7) (.ptr 3 0) [(Zi (Zk.mk zl zp z7 zd zh (Zj.mk z2 z6)) zn zb), (Zo b1 zB zy), (Zo b2 z1J z1z), (Zo (Z3.mk z1X z2Z z2Y z2v z2m z2n z1Y) z31 z2A)]) := by
 unfold Z1R
 refine zf (Zhw ..) ?_
 refine ze ?_
 refine zo (bv (!x2)) ?_
 refine za ((!x2)) ?_ ?_
 ·refine ze ?_
  refine zi fun r1 hr1 => ?_
  obtain ⟨qr1, er1, exr1, rfl⟩ := ZV (23) (x7) (zl) (zp) (z7) (zd) (zh) (z2) (z6) zn zb zu r1 hr1
  refine zc [0] (.p (.tup [])) [(Zi (Zk.mk zl r1.1 z7 zd zh (Zj.mk r1.2.1 r1.2.2)) zn zb), (Zo b1 zB zy), (Zo b2 z1J z1z), (Zo (Z3.mk z1X z2Z z2Y z2v z2m z2n z1Y) z31 z2A)] er1 ?_
  exact zk (Z6v (zl) (r1.1) (z7) (zd) (zh) (r1.2.1) (r1.2.2) (b1) (b2) (z1X) (z2Z) (z2Y) (z2v) (z2m) (z2n) (z1Y) zn zb zB zy z1J z1z z31 z2A zu z8R z7v z8O z7J)
 ·exact zk (Z6v (zl) (zp) (z7) (zd) (zh) (z2) (z6) (b1) (b2) (z1X) (z2Z) (z2Y) (z2v) (z2m) (z2n) (z1Y) zn zb zB zy z1J z1z z31 z2A zu z8R z7v z8O z7J)
noncomputable def Z3z (x1 : Z3) (x2 : Bool) (zl : List Int) (zp : Int) (z7 : Int) (zd : Int) (zh : List Zq) (z2 : Int) (z6 : Int) : Option (Z3 × Int × Int × Int) :=
 (Z16 ((ByteArray.mk #[42])) zl zp).bind fun r1 =>
 if (r1.1) = true then
 (Z1R x2 zp zl r1.2 z2 z6 4 0 ((-1)) 0 0 (([] : List Z8)) (([x1] : List Z3)))
 else
 ((Z16 ((ByteArray.mk #[43])) zl r1.2).bind fun r2 =>
 if (r2.1) = true then
 (Z1R x2 zp zl r2.2 z2 z6 4 1 ((-1)) 0 0 (([] : List Z8)) (([x1] : List Z3)))
 else
 ((Z16 ((ByteArray.mk #[63])) zl r2.2).bind fun r3 =>
 if (r3.1) = true then
 (Z1R x2 zp zl r3.2 z2 z6 4 0 1 0 0 (([] : List Z8)) (([x1] : List Z3)))
 else
 ((Z16 ((ByteArray.mk #[123])) zl r3.2).bind fun r4 =>
 if (r4.1) = true then
 ((Z4x zp zl r4.2 z7 zd zh z2 z6).bind fun r5 =>
 Z1R x2 zp zl r5.2.2.1 r5.2.2.2.1 r5.2.2.2.2 4 r5.1 r5.2.1 0 0 (([] : List Z8)) (([x1] : List Z3)))
 else
 (some (x1, r4.2, z2, z6)))))
theorem ZaF (x1 : Z3) (x2 : Bool) (zl : List Int) (zp : Int) (z7 : Int) (zd : Int) (zh : List Zq) (z2 : Int) (z6 : Int) (z29 : Own) (z1M : Own) (zn : Own) (zb : Own) (zu : okApp zb = true) : Sim (Z2B zl z7 zd zh zn zb) (Z3z x1 x2 zl zp z7 zd zh z2 z6) (EE 43 [(.ptr 0 0), (.p (.agg (Zz x1 z29 z1M))), (bv x2)] [(Zi (Zk.mk zl zp z7 zd zh (Zj.mk z2 z6)) zn zb)]) := by
 unfold Z3z
 refine zf (Zk9 ..) ?_
 refine ze ?_
 refine zx (.ptr 1 0) [(Zi (Zk.mk zl zp z7 zd zh (Zj.mk z2 z6)) zn zb), (Zo x1 z29 z1M)] ?_
 refine zz (.ptr 2 0) [(Zi (Zk.mk zl zp z7 zd zh (Zj.mk z2 z6)) zn zb), (Zo x1 z29 z1M), (Zo (Z3.mk 0 0 0 0 0 ([] : List Z8) ([] : List Z3)) .nl .nl)] ?_
 refine ze ?_
 refine zo (.ptr 0 0) ?_
 refine zo (.ptr 0 1) ?_
 refine zo (iv zp) ?_
 refine ze ?_
 refine zo (.p (.agg (Zz x1 (shrO z29) (shrO z1M)))) ?_
 refine zo (.p (.lst .ex (([x1] : List Z3).map ZD))) ?_ (Eq.trans (b := some (.p (.lst .ex [.agg (Z1T x1)]))) (by kernel_rfl) (by simp only [List.map_cons, List.map_nil, Z3a]))
 refine zo (.p (.agg (Zz (Z3.mk 4 0 (-1) 0 0 ([] : List Z8) ([x1] : List Z3)) .nl .ex))) ?_
 refine zz (.ptr 3 0) [(Zi (Zk.mk zl zp z7 zd zh (Zj.mk z2 z6)) zn zb), (Zo x1 z29 z1M), (Zo (Z3.mk 0 0 0 0 0 ([] : List Z8) ([] : List Z3)) .nl .nl), (Zo (Z3.mk 0 0 0 0 0 ([] : List Z8) ([] : List Z3)) .nl .nl)] ?_
 refine zt [(Zi (Zk.mk zl zp z7 zd zh (Zj.mk z2 z6)) zn zb), (Zo x1 z29 z1M), (Zo (Z3.mk 0 0 0 0 0 ([] : List Z8) ([] : List Z3)) .nl .nl), (Zo (Z3.mk 4 0 (-1) 0 0 ([] : List Z8) ([x1] : List Z3)) .nl .ex)] ?_
 refine ze ?_
 refine zi fun r1 hr1 => ?_
 obtain ⟨qr1, er1, exr1, rfl⟩ := Z1c ((ByteArray.mk #[42])) (zl) (zp) (z7) (zd) (zh) (z2) (z6) zn zb zu r1 hr1
 refine zc [0] (bv r1.1) [(Zi (Zk.mk zl r1.2 z7 zd zh (Zj.mk z2 z6)) zn zb), (Zo x1 z29 z1M), (Zo (Z3.mk 0 0 0 0 0 ([] : List Z8) ([] : List Z3)) .nl .nl), (Zo (Z3.mk 4 0 (-1) 0 0 ([] : List Z8) ([x1] : List Z3)) .nl .ex)] er1 ?_
 refine za (r1.1) ?_ ?_
 ·exact zk (Z3I (x2) (zp) (zl) (r1.2) (z7) (zd) (zh) (z2) (z6) (x1) ((Z3.mk 0 0 0 0 0 ([] : List Z8) ([] : List Z3))) (4) (0) ((-1)) (0) (0) (([] : List Z8)) (([x1] : List Z3)) zn zb z29 z1M .nl .nl .nl .ex zu rfl rfl rfl rfl)
 ·refine ze ?_
  refine zi fun r2 hr2 => ?_
  obtain ⟨qr2, er2, exr2, rfl⟩ := Z1c ((ByteArray.mk #[43])) (zl) (r1.2) (z7) (zd) (zh) (z2) (z6) zn zb zu r2 hr2
  refine zc [0] (bv r2.1) [(Zi (Zk.mk zl r2.2 z7 zd zh (Zj.mk z2 z6)) zn zb), (Zo x1 z29 z1M), (Zo (Z3.mk 0 0 0 0 0 ([] : List Z8) ([] : List Z3)) .nl .nl), (Zo (Z3.mk 4 0 (-1) 0 0 ([] : List Z8) ([x1] : List Z3)) .nl .ex)] er2 ?_
  refine za (r2.1) ?_ ?_
  ·refine ze ?_
   refine zo (.ptr 3 1) ?_
   refine zt [(Zi (Zk.mk zl r2.2 z7 zd zh (Zj.mk z2 z6)) zn zb), (Zo x1 z29 z1M), (Zo (Z3.mk 0 0 0 0 0 ([] : List Z8) ([] : List Z3)) .nl .nl), (Zo (Z3.mk 4 1 (-1) 0 0 ([] : List Z8) ([x1] : List Z3)) .nl .ex)] ?_
   exact zk (Z3I (x2) (zp) (zl) (r2.2) (z7) (zd) (zh) (z2) (z6) (x1) ((Z3.mk 0 0 0 0 0 ([] : List Z8) ([] : List Z3))) (4) (1) ((-1)) (0) (0) (([] : List Z8)) (([x1] : List Z3)) zn zb z29 z1M .nl .nl .nl .ex zu rfl rfl rfl rfl)
  ·refine ze ?_
   refine zi fun r3 hr3 => ?_
   obtain ⟨qr3, er3, exr3, rfl⟩ := Z1c ((ByteArray.mk #[63])) (zl) (r2.2) (z7) (zd) (zh) (z2) (z6) zn zb zu r3 hr3
   refine zc [0] (bv r3.1) [(Zi (Zk.mk zl r3.2 z7 zd zh (Zj.mk z2 z6)) zn zb), (Zo x1 z29 z1M), (Zo (Z3.mk 0 0 0 0 0 ([] : List Z8) ([] : List Z3)) .nl .nl), (Zo (Z3.mk 4 0 (-1) 0 0 ([] : List Z8) ([x1] : List Z3)) .nl .ex)] er3 ?_
   refine za (r3.1) ?_ ?_
   ·refine ze ?_
    refine zo (.ptr 3 2) ?_
    refine zt [(Zi (Zk.mk zl r3.2 z7 zd zh (Zj.mk z2 z6)) zn zb), (Zo x1 z29 z1M), (Zo (Z3.mk 0 0 0 0 0 ([] : List Z8) ([] : List Z3)) .nl .nl), (Zo (Z3.mk 4 0 1 0 0 ([] : List Z8) ([x1] : List Z3)) .nl .ex)] ?_
    exact zk (Z3I (x2) (zp) (zl) (r3.2) (z7) (zd) (zh) (z2) (z6) (x1) ((Z3.mk 0 0 0 0 0 ([] : List Z8) ([] : List Z3))) (4) (0) (1) (0) (0) (([] : List Z8)) (([x1] : List Z3)) zn zb z29 z1M .nl .nl .nl .ex zu rfl rfl rfl rfl)
   ·refine ze ?_
    refine zi fun r4 hr4 => ?_
    obtain ⟨qr4, er4, exr4, rfl⟩ := Z1c ((ByteArray.mk #[123])) (zl) (r3.2) (z7) (zd) (zh) (z2) (z6) zn zb zu r4 hr4
    refine zc [0] (bv r4.1) [(Zi (Zk.mk zl r4.2 z7 zd zh (Zj.mk z2 z6)) zn zb), (Zo x1 z29 z1M), (Zo (Z3.mk 0 0 0 0 0 ([] : List Z8) ([] : List Z3)) .nl .nl), (Zo (Z3.mk 4 0 (-1) 0 0 ([] : List Z8) ([x1] : List Z3)) .nl .ex)] er4 ?_
    refine za (r4.1) ?_ ?_
    ·refine ze ?_
     refine zi fun r5 hr5 => ?_
     obtain ⟨qr5, er5, exr5, rfl⟩ := Zb5 (zp) (zl) (r4.2) (z7) (zd) (zh) (z2) (z6) zn zb zu r5 hr5
     refine zc [0] (.p (.tup [(.v (.int .i64 r5.1)), (.v (.int .i64 r5.2.1))])) [(Zi (Zk.mk zl r5.2.2.1 z7 zd zh (Zj.mk r5.2.2.2.1 r5.2.2.2.2)) zn zb), (Zo x1 z29 z1M), (Zo (Z3.mk 0 0 0 0 0 ([] : List Z8) ([] : List Z3)) .nl .nl), (Zo (Z3.mk 4 0 (-1) 0 0 ([] : List Z8) ([x1] : List Z3)) .nl .ex)] er5 ?_
     refine zo (iv r5.1) ?_
     refine zo (iv r5.2.1) ?_
     refine zo (.ptr 3 1) ?_
     refine zt [(Zi (Zk.mk zl r5.2.2.1 z7 zd zh (Zj.mk r5.2.2.2.1 r5.2.2.2.2)) zn zb), (Zo x1 z29 z1M), (Zo (Z3.mk 0 0 0 0 0 ([] : List Z8) ([] : List Z3)) .nl .nl), (Zo (Z3.mk 4 r5.1 (-1) 0 0 ([] : List Z8) ([x1] : List Z3)) .nl .ex)] ?_
     refine zo (.ptr 3 2) ?_
     refine zt [(Zi (Zk.mk zl r5.2.2.1 z7 zd zh (Zj.mk r5.2.2.2.1 r5.2.2.2.2)) zn zb), (Zo x1 z29 z1M), (Zo (Z3.mk 0 0 0 0 0 ([] : List Z8) ([] : List Z3)) .nl .nl), (Zo (Z3.mk 4 r5.1 r5.2.1 0 0 ([] : List Z8) ([x1] : List Z3)) .nl .ex)] ?_
     exact zk (Z3I (x2) (zp) (zl) (r5.2.2.1) (z7) (zd) (zh) (r5.2.2.2.1) (r5.2.2.2.2) (x1) ((Z3.mk 0 0 0 0 0 ([] : List Z8) ([] : List Z3))) (4) (r5.1) (r5.2.1) (0) (0) (([] : List Z8)) (([x1] : List Z3)) zn zb z29 z1M .nl .nl .nl .ex zu rfl rfl rfl rfl)
    ·refine ze ?_
     refine zo (.p (.agg (Zz x1 (shrO z29) (shrO z1M)))) ?_
     refine zt [(Zi (Zk.mk zl r4.2 z7 zd zh (Zj.mk z2 z6)) zn zb), (Zo x1 z29 z1M), (Zo x1 (shrO z29) (shrO z1M)), (Zo (Z3.mk 4 0 (-1) 0 0 ([] : List Z8) ([x1] : List Z3)) .nl .ex)] ?_
     exact zr ((.p (.agg (Zz x1 .sh .sh))), [(Zi (Zk.mk zl r4.2 z7 zd zh (Zj.mk z2 z6)) zn zb), (Zo x1 z29 z1M), (Zo x1 (shrO z29) (shrO z1M)), (Zo (Z3.mk 4 0 (-1) 0 0 ([] : List Z8) ([x1] : List Z3)) .nl .ex)]) ⟨_, rfl⟩
theorem Z7B (x1 : Z3) (x2 : Bool) (zl : List Int) (zp : Int) (z7 : Int) (zd : Int) (zh : List Zq) (z2 : Int) (z6 : Int) {r} (h : Z3z x1 x2 zl zp z7 zd zh z2 z6 = some r) : Z4r x1 x2 zl zp z7 zd zh z2 z6 = some r :=
 pick_of (fun _ _ ha hb => RRun.uniq (Zbc _ _ _ _ _ _) (ha .ex .ex .ex .ex rfl) (hb .ex .ex .ex .ex rfl)) (fun z29 z1M zn zb zu => ZaF x1 x2 zl zp z7 zd zh z2 z6 z29 z1M zn zb zu r h)
noncomputable def Z5X (x4 : Int) (zp : Int) (z2 : Int) (z6 : Int) : Option (Int × Int × Int × Int × Int) :=
 some (x4, (-1), zp, z2, z6)
theorem Z9M (x4 : Int) (zl : List Int) (zp : Int) (z7 : Int) (zd : Int) (zh : List Zq) (z2 : Int) (z6 : Int) (zn : Own) (zb : Own) (zu : okApp zb = true) : Sim (Z1P zl z7 zd zh zn zb) (Z5X x4 zp z2 z6) (ZfG 1 (iv x4) [(Zi (Zk.mk zl zp z7 zd zh (Zj.mk z2 z6)) zn zb)]) := by
 unfold Z5X
 refine zf (Zj8 ..) ?_
 refine ze ?_
 exact zr ((.p (.tup [(.v (.int .i64 x4)), (.v (.int .i64 (-1)))])), [(Zi (Zk.mk zl zp z7 zd zh (Zj.mk z2 z6)) zn zb)]) ⟨_, rfl⟩
noncomputable def Z4D (x4 : Int) (x5 : Int) (zp : Int) (z2 : Int) (z6 : Int) : Option (Int × Int × Int × Int × Int) :=
 some (x4, x5, zp, z2, z6)
theorem Z6y (x4 : Int) (x5 : Int) (zl : List Int) (zp : Int) (z7 : Int) (zd : Int) (zh : List Zq) (z2 : Int) (z6 : Int) (zn : Own) (zb : Own) (zu : okApp zb = true) : Sim (Z1P zl z7 zd zh zn zb) (Z4D x4 x5 zp z2 z6) (Zdr 1 (iv x4) (iv x5) [(Zi (Zk.mk zl zp z7 zd zh (Zj.mk z2 z6)) zn zb)]) := by
 unfold Z4D
 refine zf (Zhn ..) ?_
 refine ze ?_
 exact zr ((.p (.tup [(.v (.int .i64 x4)), (.v (.int .i64 x5))])), [(Zi (Zk.mk zl zp z7 zd zh (Zj.mk z2 z6)) zn zb)]) ⟨_, rfl⟩
noncomputable def Z25 (x1 : Int) (x4 : Int) (x5 : Int) (zl : List Int) (z2 : Int) (z6 : Int) : Option (Int × Int × Int × Int × Int) :=
 (ZS 23 x1 zl z2 z6).bind fun r1 =>
 Z4D x4 x5 r1.1 r1.2.1 r1.2.2
theorem Z3J (x1 : Int) (x4 : Int) (x5 : Int) (zl : List Int) (zp : Int) (z7 : Int) (zd : Int) (zh : List Zq) (z2 : Int) (z6 : Int) (zn : Own) (zb : Own) (zu : okApp zb = true) : Sim (Z1P zl z7 zd zh zn zb) (Z25 x1 x4 x5 zl z2 z6) (ZaI 1 (.ptr 0 0) (iv x1) (iv x4) (iv x5) [(Zi (Zk.mk zl zp z7 zd zh (Zj.mk z2 z6)) zn zb)]) := by
 unfold Z25
 refine zf (Zhl ..) ?_
 refine ze ?_
 refine zi fun r1 hr1 => ?_
 obtain ⟨qr1, er1, exr1, rfl⟩ := ZV (23) (x1) (zl) (zp) (z7) (zd) (zh) (z2) (z6) zn zb zu r1 hr1
 refine zc [0] (.p (.tup [])) [(Zi (Zk.mk zl r1.1 z7 zd zh (Zj.mk r1.2.1 r1.2.2)) zn zb)] er1 ?_
 exact zk (Z6y (x4) (x5) (zl) (r1.1) (z7) (zd) (zh) (r1.2.1) (r1.2.2) zn zb zu)
noncomputable def Z1W (x1 : Int) (x4 : Int) (x5 : Int) (zl : List Int) (zp : Int) (z2 : Int) (z6 : Int) : Option (Int × Int × Int × Int × Int) :=
 if ((decide (x4 < 0))) = true then
 (Z25 x1 x4 x5 zl z2 z6)
 else
 (if ((decide (x5 < x4))) = true then
 (Z25 x1 x4 x5 zl z2 z6)
 else
 (if ((decide (64 < x5))) = true then
 (Z25 x1 x4 x5 zl z2 z6)
 else
 ((Z16 ((ByteArray.mk #[125])) zl zp).bind fun r1 =>
 if ((!r1.1)) = true then
 (Z25 x1 x4 x5 zl z2 z6)
 else
 (Z4D x4 x5 r1.2 z2 z6))))
theorem Z3W (x1 : Int) (x4 : Int) (x5 : Int) (zl : List Int) (zp : Int) (z7 : Int) (zd : Int) (zh : List Zq) (z2 : Int) (z6 : Int) (zn : Own) (zb : Own) (zu : okApp zb = true) : Sim (Z1P zl z7 zd zh zn zb) (Z1W x1 x4 x5 zl zp z2 z6) (Zcg 1 (.ptr 0 0) (iv x1) (iv x4) (iv x5) [(Zi (Zk.mk zl zp z7 zd zh (Zj.mk z2 z6)) zn zb)]) := by
 unfold Z1W
 refine zf (Ziv ..) ?_
 refine ze ?_
 refine zo (bv (decide (x4 < 0))) ?_
 refine za ((decide (x4 < 0))) ?_ ?_
 ·exact zk (Z3J (x1) (x4) (x5) (zl) (zp) (z7) (zd) (zh) (z2) (z6) zn zb zu)
 ·refine zo (bv (decide (x5 < x4))) ?_
  refine za ((decide (x5 < x4))) ?_ ?_
  ·exact zk (Z3J (x1) (x4) (x5) (zl) (zp) (z7) (zd) (zh) (z2) (z6) zn zb zu)
  ·refine zo (bv (decide (64 < x5))) ?_
   refine za ((decide (64 < x5))) ?_ ?_
   ·exact zk (Z3J (x1) (x4) (x5) (zl) (zp) (z7) (zd) (zh) (z2) (z6) zn zb zu)
   ·refine zi fun r1 hr1 => ?_
    obtain ⟨qr1, er1, exr1, rfl⟩ := Z1c ((ByteArray.mk #[125])) (zl) (zp) (z7) (zd) (zh) (z2) (z6) zn zb zu r1 hr1
    refine zc [0] (bv r1.1) [(Zi (Zk.mk zl r1.2 z7 zd zh (Zj.mk z2 z6)) zn zb)] er1 ?_
    refine zo (bv (!r1.1)) ?_
    refine za ((!r1.1)) ?_ ?_
    ·exact zk (Z3J (x1) (x4) (x5) (zl) (r1.2) (z7) (zd) (zh) (z2) (z6) zn zb zu)
    ·exact zk (Z6y (x4) (x5) (zl) (r1.2) (z7) (zd) (zh) (z2) (z6) zn zb zu)
noncomputable def Z36 (x1 : Int) (x4 : Int) (zl : List Int) (zp : Int) (z2 : Int) (z6 : Int) : Option (Int × Int × Int × Int × Int) :=
 Z1W x1 x4 ((-2)) zl zp z2 z6
theorem Z6N (x1 : Int) (x4 : Int) (zl : List Int) (zp : Int) (z7 : Int) (zd : Int) (zh : List Zq) (z2 : Int) (z6 : Int) (zn : Own) (zb : Own) (zu : okApp zb = true) : Sim (Z1P zl z7 zd zh zn zb) (Z36 x1 x4 zl zp z2 z6) (Zew 1 (.ptr 0 0) (iv x1) (iv x4) [(Zi (Zk.mk zl zp z7 zd zh (Zj.mk z2 z6)) zn zb)]) := by
 unfold Z36
 refine zf (Zi8 ..) ?_
 refine ze ?_
 exact zk (Z3W (x1) (x4) ((-2)) (zl) (zp) (z7) (zd) (zh) (z2) (z6) zn zb zu)
noncomputable def Z4O (x1 : Int) (x4 : Int) (zl : List Int) (zp : Int) (z2 : Int) (z6 : Int) : Option (Int × Int × Int × Int × Int) :=
 (Z16 ((ByteArray.mk #[125])) zl zp).bind fun r1 =>
 if (r1.1) = true then
 (if ((decide (x4 ≤ 64))) = true then
 (Z5X x4 r1.2 z2 z6)
 else
 (Z36 x1 x4 zl r1.2 z2 z6))
 else
 (Z36 x1 x4 zl r1.2 z2 z6)
theorem Z9F (x1 : Int) (x4 : Int) (zl : List Int) (zp : Int) (z7 : Int) (zd : Int) (zh : List Zq) (z2 : Int) (z6 : Int) (zn : Own) (zb : Own) (zu : okApp zb = true) : Sim (Z1P zl z7 zd zh zn zb) (Z4O x1 x4 zl zp z2 z6) (ZgJ 1 (.ptr 0 0) (iv x1) (iv x4) [(Zi (Zk.mk zl zp z7 zd zh (Zj.mk z2 z6)) zn zb)]) := by
 unfold Z4O
 refine zf (ZiZ ..) ?_
 refine ze ?_
 refine zi fun r1 hr1 => ?_
 obtain ⟨qr1, er1, exr1, rfl⟩ := Z1c ((ByteArray.mk #[125])) (zl) (zp) (z7) (zd) (zh) (z2) (z6) zn zb zu r1 hr1
 refine zc [0] (bv r1.1) [(Zi (Zk.mk zl r1.2 z7 zd zh (Zj.mk z2 z6)) zn zb)] er1 ?_
 refine za (r1.1) ?_ ?_
 ·refine zo (bv (decide (x4 ≤ 64))) ?_
  refine za ((decide (x4 ≤ 64))) ?_ ?_
  ·exact zk (Z9M (x4) (zl) (r1.2) (z7) (zd) (zh) (z2) (z6) zn zb zu)
  ·exact zk (Z6N (x1) (x4) (zl) (r1.2) (z7) (zd) (zh) (z2) (z6) zn zb zu)
 ·exact zk (Z6N (x1) (x4) (zl) (r1.2) (z7) (zd) (zh) (z2) (z6) zn zb zu)
noncomputable def Z4v (x1 : Int) (zl : List Int) (zp : Int) (z7 : Int) (zd : Int) (zh : List Zq) (z2 : Int) (z6 : Int) : Option (Int × Int × Int × Int × Int) :=
 (Z3x zl zp z7 zd zh z2 z6).bind fun r1 =>
 (Z16 ((ByteArray.mk #[44])) zl r1.2).bind fun r2 =>
 if (r2.1) = true then
 ((Z3x zl r2.2 z7 zd zh z2 z6).bind fun r3 =>
 if ((decide (r3.1 < 0))) = true then
 (if ((decide (0 ≤ r1.1))) = true then
 (Z4O x1 r1.1 zl r3.2 z2 z6)
 else
 (Z1W x1 r1.1 r3.1 zl r3.2 z2 z6))
 else
 (Z1W x1 r1.1 r3.1 zl r3.2 z2 z6))
 else
 (Z1W x1 r1.1 r1.1 zl r2.2 z2 z6)
theorem Zar (x1 : Int) (zl : List Int) (zp : Int) (z7 : Int) (zd : Int) (zh : List Zq) (z2 : Int) (z6 : Int) (zn : Own) (zb : Own) (zu : okApp zb = true) : Sim (Z1P zl z7 zd zh zn zb) (Z4v x1 zl zp z7 zd zh z2 z6) (EE 52 [(.ptr 0 0), (iv x1)] [(Zi (Zk.mk zl zp z7 zd zh (Zj.mk z2 z6)) zn zb)]) := by
 unfold Z4v
 refine zf (ZjO ..) ?_
 refine ze ?_
 refine ze ?_
 refine zi fun r1 hr1 => ?_
 obtain ⟨qr1, er1, exr1, rfl⟩ := Z7r (zl) (zp) (z7) (zd) (zh) (z2) (z6) zn zb zu r1 hr1
 refine zc [0] (iv r1.1) [(Zi (Zk.mk zl r1.2 z7 zd zh (Zj.mk z2 z6)) zn zb)] er1 ?_
 refine ze ?_
 refine ze ?_
 refine zi fun r2 hr2 => ?_
 obtain ⟨qr2, er2, exr2, rfl⟩ := Z1c ((ByteArray.mk #[44])) (zl) (r1.2) (z7) (zd) (zh) (z2) (z6) zn zb zu r2 hr2
 refine zc [0] (bv r2.1) [(Zi (Zk.mk zl r2.2 z7 zd zh (Zj.mk z2 z6)) zn zb)] er2 ?_
 refine za (r2.1) ?_ ?_
 ·refine ze ?_
  refine zi fun r3 hr3 => ?_
  obtain ⟨qr3, er3, exr3, rfl⟩ := Z7r (zl) (r2.2) (z7) (zd) (zh) (z2) (z6) zn zb zu r3 hr3
  refine zc [0] (iv r3.1) [(Zi (Zk.mk zl r3.2 z7 zd zh (Zj.mk z2 z6)) zn zb)] er3 ?_
  refine ze ?_
  refine zo (bv (decide (r3.1 < 0))) ?_
  refine za ((decide (r3.1 < 0))) ?_ ?_
  ·refine zo (bv (decide (0 ≤ r1.1))) ?_
   refine za ((decide (0 ≤ r1.1))) ?_ ?_
   ·exact zk (Z9F (x1) (r1.1) (zl) (r3.2) (z7) (zd) (zh) (z2) (z6) zn zb zu)
   ·exact zk (Z3W (x1) (r1.1) (r3.1) (zl) (r3.2) (z7) (zd) (zh) (z2) (z6) zn zb zu)
  ·exact zk (Z3W (x1) (r1.1) (r3.1) (zl) (r3.2) (z7) (zd) (zh) (z2) (z6) zn zb zu)
 ·exact zk (Z3W (x1) (r1.1) (r1.1) (zl) (r2.2) (z7) (zd) (zh) (z2) (z6) zn zb zu)
theorem Z7z (x1 : Int) (zl : List Int) (zp : Int) (z7 : Int) (zd : Int) (zh : List Zq) (z2 : Int) (z6 : Int) {r} (h : Z4v x1 zl zp z7 zd zh z2 z6 = some r) : Z4x x1 zl zp z7 zd zh z2 z6 = some r :=
 pick_of (fun _ _ ha hb => RRun.uniq (Zbl _ _ _ _ _ _) (ha .ex .ex rfl) (hb .ex .ex rfl)) (fun zn zb zu => Zar x1 zl zp z7 zd zh z2 z6 zn zb zu r h)
noncomputable def Z6R (zl : List Int) (zp : Int) (z7 : Int) (zd : Int) (zh : List Zq) (z2 : Int) (z6 : Int) : Option (Int × Int) :=
 Z2x ((-1)) 0 zl zp z7 zd zh z2 z6
theorem ZaA (zl : List Int) (zp : Int) (z7 : Int) (zd : Int) (zh : List Zq) (z2 : Int) (z6 : Int) (zn : Own) (zb : Own) (zu : okApp zb = true) : Sim (Z20 zl z7 zd zh z2 z6 zn zb) (Z6R zl zp z7 zd zh z2 z6) (EE 63 [(.ptr 0 0)] [(Zi (Zk.mk zl zp z7 zd zh (Zj.mk z2 z6)) zn zb)]) := by
 unfold Z6R
 refine zf (Zka ..) ?_
 refine ze ?_
 refine ze ?_
 refine ze ?_
 exact zk (Z6V ((-1)) (0) (zl) (zp) (z7) (zd) (zh) (z2) (z6) zn zb zu)
theorem Zb6 (zl : List Int) (zp : Int) (z7 : Int) (zd : Int) (zh : List Zq) (z2 : Int) (z6 : Int) {r} (h : Z6R zl zp z7 zd zh z2 z6 = some r) : Z3x zl zp z7 zd zh z2 z6 = some r :=
 pick_of (fun _ _ ha hb => RRun.uniq (Z89 _ _ _ _ _ _ _ _) (ha .ex .ex rfl) (hb .ex .ex rfl)) (fun zn zb zu => ZaA zl zp z7 zd zh z2 z6 zn zb zu r h)
noncomputable def Z4U (x3 : Int) (x4 : Int) (zl : List Int) (zp : Int) (z7 : Int) (zd : Int) (zh : List Zq) (z2 : Int) (z6 : Int) : Option (Int × Int) :=
 (Z24 zl zp).bind fun r1 =>
 Z2x ((IntKind.i64.wrap ((IntKind.i64.wrap ((IntKind.i64.wrap (10 * (max x3 0))) + r1.1)) - 48))) ((IntKind.i64.wrap (x4 + 1))) zl r1.2 z7 zd zh z2 z6
theorem Z9H (x3 : Int) (x4 : Int) (zl : List Int) (zp : Int) (z7 : Int) (zd : Int) (zh : List Zq) (z2 : Int) (z6 : Int) (zn : Own) (zb : Own) (zu : okApp zb = true) : Sim (Z20 zl z7 zd zh z2 z6 zn zb) (Z4U x3 x4 zl zp z7 zd zh z2 z6) (ZfZ 1 (.ptr 0 0) (iv x3) (iv x4) [(Zi (Zk.mk zl zp z7 zd zh (Zj.mk z2 z6)) zn zb)]) := by
 unfold Z4U
 refine zf (Zig ..) ?_
 refine ze ?_
 refine zo (iv (max x3 0)) ?_ (xminmax2_max _ _)
 refine zo (iv (IntKind.i64.wrap (10 * (max x3 0)))) ?_
 refine zi fun r1 hr1 => ?_
 obtain ⟨qr1, er1, exr1, rfl⟩ := Z2p (zl) (zp) (z7) (zd) (zh) (z2) (z6) zn zb zu r1 hr1
 refine zc [0] (iv r1.1) [(Zi (Zk.mk zl r1.2 z7 zd zh (Zj.mk z2 z6)) zn zb)] er1 ?_
 refine zo (iv (IntKind.i64.wrap ((IntKind.i64.wrap (10 * (max x3 0))) + r1.1))) ?_
 refine zo (iv (IntKind.i64.wrap ((IntKind.i64.wrap ((IntKind.i64.wrap (10 * (max x3 0))) + r1.1)) - 48))) ?_
 refine ze ?_
 refine zo (iv (IntKind.i64.wrap (x4 + 1))) ?_
 exact zk (Z6V ((IntKind.i64.wrap ((IntKind.i64.wrap ((IntKind.i64.wrap (10 * (max x3 0))) + r1.1)) - 48))) ((IntKind.i64.wrap (x4 + 1))) (zl) (r1.2) (z7) (zd) (zh) (z2) (z6) zn zb zu)
noncomputable def Z32 (x3 : Int) (zp : Int) : Option (Int × Int) :=
 some (x3, zp)
theorem Z57 (x3 : Int) (zl : List Int) (zp : Int) (z7 : Int) (zd : Int) (zh : List Zq) (z2 : Int) (z6 : Int) (zn : Own) (zb : Own) (zu : okApp zb = true) : Sim (Z20 zl z7 zd zh z2 z6 zn zb) (Z32 x3 zp) (Zde 1 (iv x3) [(Zi (Zk.mk zl zp z7 zd zh (Zj.mk z2 z6)) zn zb)]) := by
 unfold Z32
 refine zf (ZhW ..) ?_
 refine ze ?_
 exact zr ((iv x3), [(Zi (Zk.mk zl zp z7 zd zh (Zj.mk z2 z6)) zn zb)]) ⟨_, rfl⟩
noncomputable def Z4K (x3 : Int) (x4 : Int) (zl : List Int) (zp : Int) (z7 : Int) (zd : Int) (zh : List Zq) (z2 : Int) (z6 : Int) : Option (Int × Int) :=
 if ((decide (x4 < 2))) = true then
 ((Z1F ((Zk.mk zl zp z7 zd zh (Zj.mk z2 z6)))).bind fun r1 =>
 if ((decide (48 ≤ r1))) = true then
 ((Z1F ((Zk.mk zl zp z7 zd zh (Zj.mk z2 z6)))).bind fun r2 =>
 if ((decide (r2 ≤ 57))) = true then
 (Z4U x3 x4 zl zp z7 zd zh z2 z6)
 else
 (Z32 x3 zp))
 else
 (Z32 x3 zp))
 else
 (Z32 x3 zp)
theorem Z9J (x3 : Int) (x4 : Int) (zl : List Int) (zp : Int) (z7 : Int) (zd : Int) (zh : List Zq) (z2 : Int) (z6 : Int) (zn : Own) (zb : Own) (zu : okApp zb = true) : Sim (Z20 zl z7 zd zh z2 z6 zn zb) (Z4K x3 x4 zl zp z7 zd zh z2 z6) (Zch 1 (.ptr 0 0) (iv x3) (iv x4) [(Zi (Zk.mk zl zp z7 zd zh (Zj.mk z2 z6)) zn zb)]) := by
 unfold Z4K
 refine zf (Zjc ..) ?_
 refine ze ?_
 refine zo (bv (decide (x4 < 2))) ?_
 refine za ((decide (x4 < 2))) ?_ ?_
 ·refine zi fun r1 hr1 => ?_
  obtain ⟨qr1, er1, exr1, rfl⟩ := Z1K ((Zk.mk zl zp z7 zd zh (Zj.mk z2 z6))) zn zb zu r1 hr1
  refine zc [0] (iv r1) [(Zi (Zk.mk zl zp z7 zd zh (Zj.mk z2 z6)) zn zb)] er1 ?_
  refine zo (bv (decide (48 ≤ r1))) ?_
  refine za ((decide (48 ≤ r1))) ?_ ?_
  ·refine zi fun r2 hr2 => ?_
   obtain ⟨qr2, er2, exr2, rfl⟩ := Z1K ((Zk.mk zl zp z7 zd zh (Zj.mk z2 z6))) zn zb zu r2 hr2
   refine zc [0] (iv r2) [(Zi (Zk.mk zl zp z7 zd zh (Zj.mk z2 z6)) zn zb)] er2 ?_
   refine zo (bv (decide (r2 ≤ 57))) ?_
   refine za ((decide (r2 ≤ 57))) ?_ ?_
   ·exact zk (Z9H (x3) (x4) (zl) (zp) (z7) (zd) (zh) (z2) (z6) zn zb zu)
   ·exact zk (Z57 (x3) (zl) (zp) (z7) (zd) (zh) (z2) (z6) zn zb zu)
  ·exact zk (Z57 (x3) (zl) (zp) (z7) (zd) (zh) (z2) (z6) zn zb zu)
 ·exact zk (Z57 (x3) (zl) (zp) (z7) (zd) (zh) (z2) (z6) zn zb zu)
theorem Za3 (x3 : Int) (x4 : Int) (zl : List Int) (zp : Int) (z7 : Int) (zd : Int) (zh : List Zq) (z2 : Int) (z6 : Int) {r} (h : Z4K x3 x4 zl zp z7 zd zh z2 z6 = some r) : Z2x x3 x4 zl zp z7 zd zh z2 z6 = some r :=
 pick_of (fun _ _ ha hb => RRun.uniq (Z89 _ _ _ _ _ _ _ _) (ha .ex .ex rfl) (hb .ex .ex rfl)) (fun zn zb zu => Z9J x3 x4 zl zp z7 zd zh z2 z6 zn zb zu r h)
noncomputable def Z4Y (x2 : Int) (x3 : Int) : Option (Int × Int) :=
 some (x2, x3)
theorem Z5t (x2 : Int) (x3 : Int) : Sim (Z1Z) (Z4Y x2 x3) (ZaJ 0 (iv x2) (iv x3) []) := by
 unfold Z4Y
 refine zf (Zh9 ..) ?_
 refine ze ?_
 exact zr ((.p (.tup [(.v (.int .i64 x2)), (.v (.int .i64 x3))])), []) ⟨_, rfl⟩
noncomputable def Z77 (x0 : Z3) : Option (Int × Int) :=
 if ((x0.Kind == 1)) = true then
 (some (1, 1))
 else
 (if ((x0.Kind == 6)) = true then
 (some (0, (-1)))
 else
 (if ((x0.Kind == 2)) = true then
 (Z58 0 0 x0.Kids ((x0.Kids.length : Int)) 0)
 else
 (if ((x0.Kind == 3)) = true then
 (Z4a 1048576 0 x0.Kids ((x0.Kids.length : Int)) 0)
 else
 (if ((x0.Kind == 4)) = true then
 ((lget x0.Kids 0).bind fun a1 =>
 (Z1r a1).bind fun r2 =>
 (Z6f r2.2 x0.Hi).bind fun r3 =>
 some ((min (IntKind.i64.wrap (r2.1 * x0.Lo)) 1048576), r3))
 else
 (if ((x0.Kind == 5)) = true then
 (if ((x0.Kind == 5)) = true then
 ((lget x0.Kids 0).bind fun a4 =>
 (Z1r a4).bind fun r5 =>
 some (r5.1, r5.2))
 else
 (Z4Y 0 0))
 else
 (if ((x0.Kind == 8)) = true then
 ((lget x0.Kids 0).bind fun a6 =>
 (Z1r a6).bind fun r7 =>
 some (r7.1, r7.2))
 else
 (Z4Y 0 0)))))))
theorem ZdI (x0 : Z3) (z1d : Own) (zY : Own) : Sim (Z1Z) (Z77 x0) (EE 24 [(.p (.agg (Zz x0 z1d zY)))] []) := by
 unfold Z77
 refine zf (Zll ..) ?_
 refine ze ?_
 refine zx (.ptr 0 0) [(Zo x0 z1d zY)] ?_
 refine ze ?_
 refine zo (.ptr 0 0) ?_
 refine zo (iv x0.Kind) ?_
 refine ze ?_
 refine zo (bv (x0.Kind == 1)) ?_
 refine za ((x0.Kind == 1)) ?_ ?_
 ·refine ze ?_
  exact zr ((.p (.tup [(.v (.int .i64 1)), (.v (.int .i64 1))])), [(Zo x0 z1d zY)]) ⟨_, rfl⟩
 ·refine ze ?_
  refine zo (bv (x0.Kind == 6)) ?_
  refine za ((x0.Kind == 6)) ?_ ?_
  ·refine ze ?_
   exact zr ((.p (.tup [(.v (.int .i64 0)), (.v (.int .i64 (-1)))])), [(Zo x0 z1d zY)]) ⟨_, rfl⟩
  ·refine ze ?_
   refine zo (bv (x0.Kind == 2)) ?_
   refine za ((x0.Kind == 2)) ?_ ?_
   ·refine ze ?_
    refine zo (.ptr 0 6) ?_
    refine zo (.p (.lst (shrO zY) (x0.Kids.map ZD))) ?_
    refine zo (iv (x0.Kids.length : Int)) ?_ (Eq.trans (by kernel_rfl) (xlen_of (P := PP) (t := 25) (d := 27) (by kernel_rfl) ZD (shrO zY) x0.Kids))
    exact zk (Z9y (0) (0) (x0.Kids) ((x0.Kids.length : Int)) (0) (shrO zY))
   ·refine ze ?_
    refine zo (bv (x0.Kind == 3)) ?_
    refine za ((x0.Kind == 3)) ?_ ?_
    ·refine ze ?_
     refine ze ?_
     refine zo (.ptr 0 6) ?_
     refine zo (.p (.lst (shrO zY) (x0.Kids.map ZD))) ?_
     refine zo (iv (x0.Kids.length : Int)) ?_ (Eq.trans (by kernel_rfl) (xlen_of (P := PP) (t := 25) (d := 27) (by kernel_rfl) ZD (shrO zY) x0.Kids))
     exact zk (Z9p (1048576) (0) (x0.Kids) ((x0.Kids.length : Int)) (0) (shrO zY))
    ·refine ze ?_
     refine zo (bv (x0.Kind == 4)) ?_
     refine za ((x0.Kind == 4)) ?_ ?_
     ·refine ze ?_
      refine zo (.ptr 0 6) ?_
      refine zo (.p (.lst (shrO zY) (x0.Kids.map ZD))) ?_
      refine zi fun a1 ha1 => ?_
      refine zo (.cptr (Zz a1 .sh .sh)) ?_ (Eq.trans (by kernel_rfl) (xidx_of (o := (shrO zY)) (k := .i64) (n := 7) (e := ZD) (cs := Z1T) Z40 (fun _ => rfl) (by decide) ha1))
      refine zo (.p (.agg (Zz a1 .sh .sh))) ?_
      refine zi fun r2 hr2 => ?_
      obtain ⟨qr2, er2, exr2, rfl⟩ := Z3N (a1) .sh .sh r2 hr2
      refine zc [] (.p (.tup [(.v (.int .i64 r2.1)), (.v (.int .i64 r2.2))])) [(Zo x0 z1d zY)] er2 ?_
      refine zo (iv r2.1) ?_
      refine zo (iv r2.2) ?_
      refine ze ?_
      refine zo (.ptr 0 1) ?_
      refine zo (iv x0.Lo) ?_
      refine zo (iv (IntKind.i64.wrap (r2.1 * x0.Lo))) ?_
      refine zo (iv (min (IntKind.i64.wrap (r2.1 * x0.Lo)) 1048576)) ?_ (xminmax2_min _ _)
      refine zo (.ptr 0 2) ?_
      refine zo (iv x0.Hi) ?_
      refine zi fun r3 hr3 => ?_
      obtain ⟨qr3, er3, exr3, rfl⟩ := ZdO (r2.2) (x0.Hi) r3 hr3
      refine zc [] (iv r3) [(Zo x0 z1d zY)] er3 ?_
      refine zg ?_
      exact zr ((.p (.tup [(.v (.int .i64 (min (IntKind.i64.wrap (r2.1 * x0.Lo)) 1048576))), (.v (.int .i64 r3))])), [(Zo x0 z1d zY)]) ⟨_, rfl⟩
     ·refine ze ?_
      refine zo (bv (x0.Kind == 5)) ?_
      refine za ((x0.Kind == 5)) ?_ ?_
      ·refine za ((x0.Kind == 5)) ?_ ?_
       ·refine ze ?_
        refine zo (.ptr 0 6) ?_
        refine zo (.p (.lst (shrO zY) (x0.Kids.map ZD))) ?_
        refine zi fun a4 ha4 => ?_
        refine zo (.cptr (Zz a4 .sh .sh)) ?_ (Eq.trans (by kernel_rfl) (xidx_of (o := (shrO zY)) (k := .i64) (n := 7) (e := ZD) (cs := Z1T) Z40 (fun _ => rfl) (by decide) ha4))
        refine zo (.p (.agg (Zz a4 .sh .sh))) ?_
        refine zi fun r5 hr5 => ?_
        obtain ⟨qr5, er5, exr5, rfl⟩ := Z3N (a4) .sh .sh r5 hr5
        refine zc [] (.p (.tup [(.v (.int .i64 r5.1)), (.v (.int .i64 r5.2))])) [(Zo x0 z1d zY)] er5 ?_
        refine zo (iv r5.1) ?_
        refine zo (iv r5.2) ?_
        exact zr ((.p (.tup [(.v (.int .i64 r5.1)), (.v (.int .i64 r5.2))])), [(Zo x0 z1d zY)]) ⟨_, rfl⟩
       ·exact zk (Z5t (0) (0))
      ·refine ze ?_
       refine zo (bv (x0.Kind == 8)) ?_
       refine za ((x0.Kind == 8)) ?_ ?_
       ·refine ze ?_
        refine zo (.ptr 0 6) ?_
        refine zo (.p (.lst (shrO zY) (x0.Kids.map ZD))) ?_
        refine zi fun a6 ha6 => ?_
        refine zo (.cptr (Zz a6 .sh .sh)) ?_ (Eq.trans (by kernel_rfl) (xidx_of (o := (shrO zY)) (k := .i64) (n := 7) (e := ZD) (cs := Z1T) Z40 (fun _ => rfl) (by decide) ha6))
        refine zo (.p (.agg (Zz a6 .sh .sh))) ?_
        refine zi fun r7 hr7 => ?_
        obtain ⟨qr7, er7, exr7, rfl⟩ := Z3N (a6) .sh .sh r7 hr7
        refine zc [] (.p (.tup [(.v (.int .i64 r7.1)), (.v (.int .i64 r7.2))])) [(Zo x0 z1d zY)] er7 ?_
        refine zo (iv r7.1) ?_
        refine zo (iv r7.2) ?_
        exact zr ((.p (.tup [(.v (.int .i64 r7.1)), (.v (.int .i64 r7.2))])), [(Zo x0 z1d zY)]) ⟨_, rfl⟩
       ·exact zk (Z5t (0) (0))
theorem ZaZ (x0 : Z3) {r} (h : Z77 x0 = some r) : Z1r x0 = some r :=
 pick_of (fun _ _ ha hb => RRun.uniq (Z9r) (ha .ex .ex) (hb .ex .ex)) (fun z1d zY => ZdI x0 z1d zY r h)
noncomputable def Z5Z (x2 : Int) (x3 : Int) (x23 : List Z3) (x24 : Int) (x25 : Int) : Option (Int × Int) :=
 (lget x23 x25).bind fun a1 =>
 (Z1r a1).bind fun r2 =>
 (Z9T x3 r2.2).bind fun r3 =>
 Z58 ((min (IntKind.i64.wrap (x2 + r2.1)) 1048576)) r3 x23 x24 ((IntKind.i64.wrap (x25 + 1)))
theorem ZcA (x2 : Int) (x3 : Int) (x23 : List Z3) (x24 : Int) (x25 : Int) (ox23 : Own) : Sim (Z1Z) (Z5Z x2 x3 x23 x24 x25) (Zg7 0 (iv x2) (iv x3) (.p (.lst ox23 (x23.map ZD))) (iv x24) (iv x25) []) := by
 unfold Z5Z
 refine zf (Zja ..) ?_
 refine ze ?_
 refine zi fun a1 ha1 => ?_
 refine zo (.cptr (Zz a1 .sh .sh)) ?_ (Eq.trans (by kernel_rfl) (xidx_of (o := ox23) (k := .i64) (n := 7) (e := ZD) (cs := Z1T) Z40 (fun _ => rfl) (by decide) ha1))
 refine zo (.p (.agg (Zz a1 .sh .sh))) ?_
 refine zz (.ptr 0 0) [(Zo (Z3.mk 0 0 0 0 0 ([] : List Z8) ([] : List Z3)) .nl .nl)] ?_
 refine zt [(Zo a1 .sh .sh)] ?_
 refine ze ?_
 refine zo (.p (.agg (Zz a1 .sh .sh))) ?_
 refine zi fun r2 hr2 => ?_
 obtain ⟨qr2, er2, exr2, rfl⟩ := Z3N (a1) .sh .sh r2 hr2
 refine zc [] (.p (.tup [(.v (.int .i64 r2.1)), (.v (.int .i64 r2.2))])) [(Zo a1 .sh .sh)] er2 ?_
 refine zo (iv r2.1) ?_
 refine zo (iv r2.2) ?_
 refine ze ?_
 refine zo (iv (IntKind.i64.wrap (x2 + r2.1))) ?_
 refine zo (iv (min (IntKind.i64.wrap (x2 + r2.1)) 1048576)) ?_ (xminmax2_min _ _)
 refine zi fun r3 hr3 => ?_
 obtain ⟨qr3, er3, exr3, rfl⟩ := Zf1 (x3) (r2.2) r3 hr3
 refine zc [] (iv r3) [(Zo a1 .sh .sh)] er3 ?_
 refine ze ?_
 refine zo (iv (IntKind.i64.wrap (x25 + 1))) ?_
 exact zk (Z9y ((min (IntKind.i64.wrap (x2 + r2.1)) 1048576)) (r3) (x23) (x24) ((IntKind.i64.wrap (x25 + 1))) ox23)
noncomputable def Z4p (x2 : Int) (x3 : Int) (x23 : List Z3) (x24 : Int) (x25 : Int) : Option (Int × Int) :=
 if ((decide (x25 < x24))) = true then
 (Z5Z x2 x3 x23 x24 x25)
 else
 (Z4Y x2 x3)
theorem ZcH (x2 : Int) (x3 : Int) (x23 : List Z3) (x24 : Int) (x25 : Int) (ox23 : Own) : Sim (Z1Z) (Z4p x2 x3 x23 x24 x25) (Zcj 0 (iv x2) (iv x3) (.p (.lst ox23 (x23.map ZD))) (iv x24) (iv x25) []) := by
 unfold Z4p
 refine zf (Zjb ..) ?_
 refine ze ?_
 refine zo (bv (decide (x25 < x24))) ?_
 refine za ((decide (x25 < x24))) ?_ ?_
 ·exact zk (ZcA (x2) (x3) (x23) (x24) (x25) ox23)
 ·exact zk (Z5t (x2) (x3))
theorem Z67 (x2 : Int) (x3 : Int) (x23 : List Z3) (x24 : Int) (x25 : Int) {r} (h : Z4p x2 x3 x23 x24 x25 = some r) : Z58 x2 x3 x23 x24 x25 = some r :=
 pick_of (fun _ _ ha hb => RRun.uniq (Z9r) (ha .ex) (hb .ex)) (fun ox23 => ZcH x2 x3 x23 x24 x25 ox23 r h)
noncomputable def Z4W (x2 : Int) (x3 : Int) (x45 : List Z3) (x46 : Int) (x47 : Int) : Option (Int × Int) :=
 Z4a x2 x3 x45 x46 ((IntKind.i64.wrap (x47 + 1)))
theorem Z93 (x2 : Int) (x3 : Int) (x45 : List Z3) (x46 : Int) (x47 : Int) (ox45 : Own) : Sim (Z1Z) (Z4W x2 x3 x45 x46 x47) (Zdm 0 (iv x2) (iv x3) (.p (.lst ox45 (x45.map ZD))) (iv x46) (iv x47) []) := by
 unfold Z4W
 refine zf (Zh7 ..) ?_
 refine ze ?_
 refine zo (iv (IntKind.i64.wrap (x47 + 1))) ?_
 exact zk (Z9p (x2) (x3) (x45) (x46) ((IntKind.i64.wrap (x47 + 1))) ox45)
noncomputable def Z4X (x2 : Int) (x45 : List Z3) (x46 : Int) (x47 : Int) : Option (Int × Int) :=
 Z4W x2 ((-1)) x45 x46 x47
theorem Z99 (x2 : Int) (x45 : List Z3) (x46 : Int) (x47 : Int) (ox45 : Own) : Sim (Z1Z) (Z4X x2 x45 x46 x47) (Zdy 0 (iv x2) (.p (.lst ox45 (x45.map ZD))) (iv x46) (iv x47) []) := by
 unfold Z4X
 refine zf (ZhH ..) ?_
 refine ze ?_
 exact zk (Z93 (x2) ((-1)) (x45) (x46) (x47) ox45)
noncomputable def Z5C (x2 : Int) (x3 : Int) (x11 : Int) (x45 : List Z3) (x46 : Int) (x47 : Int) : Option (Int × Int) :=
 Z4W x2 ((max x3 x11)) x45 x46 x47
theorem ZbY (x2 : Int) (x3 : Int) (x11 : Int) (x45 : List Z3) (x46 : Int) (x47 : Int) (ox45 : Own) : Sim (Z1Z) (Z5C x2 x3 x11 x45 x46 x47) (Zf2 0 (iv x2) (iv x3) (iv x11) (.p (.lst ox45 (x45.map ZD))) (iv x46) (iv x47) []) := by
 unfold Z5C
 refine zf (ZhB ..) ?_
 refine ze ?_
 refine zo (iv (max x3 x11)) ?_ (xminmax2_max _ _)
 exact zk (Z93 (x2) ((max x3 x11)) (x45) (x46) (x47) ox45)
noncomputable def Z5K (x2 : Int) (x3 : Int) (x45 : List Z3) (x46 : Int) (x47 : Int) : Option (Int × Int) :=
 (lget x45 x47).bind fun a1 =>
 (Z1r a1).bind fun r2 =>
 if ((decide (r2.2 < 0))) = true then
 (Z4X ((min x2 r2.1)) x45 x46 x47)
 else
 (if ((decide (x3 < 0))) = true then
 (Z4X ((min x2 r2.1)) x45 x46 x47)
 else
 (Z5C ((min x2 r2.1)) x3 r2.2 x45 x46 x47))
theorem ZbT (x2 : Int) (x3 : Int) (x45 : List Z3) (x46 : Int) (x47 : Int) (ox45 : Own) : Sim (Z1Z) (Z5K x2 x3 x45 x46 x47) (ZeS 0 (iv x2) (iv x3) (.p (.lst ox45 (x45.map ZD))) (iv x46) (iv x47) []) := by
 unfold Z5K
 refine zf (Zhp ..) ?_
 refine ze ?_
 refine zi fun a1 ha1 => ?_
 refine zo (.cptr (Zz a1 .sh .sh)) ?_ (Eq.trans (by kernel_rfl) (xidx_of (o := ox45) (k := .i64) (n := 7) (e := ZD) (cs := Z1T) Z40 (fun _ => rfl) (by decide) ha1))
 refine zo (.p (.agg (Zz a1 .sh .sh))) ?_
 refine zz (.ptr 0 0) [(Zo (Z3.mk 0 0 0 0 0 ([] : List Z8) ([] : List Z3)) .nl .nl)] ?_
 refine zt [(Zo a1 .sh .sh)] ?_
 refine ze ?_
 refine zo (.p (.agg (Zz a1 .sh .sh))) ?_
 refine zi fun r2 hr2 => ?_
 obtain ⟨qr2, er2, exr2, rfl⟩ := Z3N (a1) .sh .sh r2 hr2
 refine zc [] (.p (.tup [(.v (.int .i64 r2.1)), (.v (.int .i64 r2.2))])) [(Zo a1 .sh .sh)] er2 ?_
 refine zo (iv r2.1) ?_
 refine zo (iv r2.2) ?_
 refine ze ?_
 refine zo (iv (min x2 r2.1)) ?_ (xminmax2_min _ _)
 refine ze ?_
 refine zo (bv (decide (r2.2 < 0))) ?_
 refine za ((decide (r2.2 < 0))) ?_ ?_
 ·exact zk (Z99 ((min x2 r2.1)) (x45) (x46) (x47) ox45)
 ·refine zo (bv (decide (x3 < 0))) ?_
  refine za ((decide (x3 < 0))) ?_ ?_
  ·exact zk (Z99 ((min x2 r2.1)) (x45) (x46) (x47) ox45)
  ·exact zk (ZbY ((min x2 r2.1)) (x3) (r2.2) (x45) (x46) (x47) ox45)
noncomputable def Z49 (x2 : Int) (x3 : Int) (x45 : List Z3) (x46 : Int) (x47 : Int) : Option (Int × Int) :=
 if ((decide (x47 < x46))) = true then
 (Z5K x2 x3 x45 x46 x47)
 else
 (Z4Y x2 x3)
theorem Zcs (x2 : Int) (x3 : Int) (x45 : List Z3) (x46 : Int) (x47 : Int) (ox45 : Own) : Sim (Z1Z) (Z49 x2 x3 x45 x46 x47) (ZaK 0 (iv x2) (iv x3) (.p (.lst ox45 (x45.map ZD))) (iv x46) (iv x47) []) := by
 unfold Z49
 refine zf (ZhF ..) ?_
 refine ze ?_
 refine zo (bv (decide (x47 < x46))) ?_
 refine za ((decide (x47 < x46))) ?_ ?_
 ·exact zk (ZbT (x2) (x3) (x45) (x46) (x47) ox45)
 ·exact zk (Z5t (x2) (x3))
theorem Z5O (x2 : Int) (x3 : Int) (x45 : List Z3) (x46 : Int) (x47 : Int) {r} (h : Z49 x2 x3 x45 x46 x47 = some r) : Z4a x2 x3 x45 x46 x47 = some r :=
 pick_of (fun _ _ ha hb => RRun.uniq (Z9r) (ha .ex) (hb .ex)) (fun ox45 => Zcs x2 x3 x45 x46 x47 ox45 r h)
end Go.Proofs.YtadodmjdkphddaaDoor.N2
end
section
set_option linter.unusedSimpArgs false
set_option linter.unusedVariables false
namespace Go.Proofs.YtadodmjdkphddaaDoor.N2
open Go Go.Abs
set_option linter.unusedVariables false
set_option maxRecDepth 100000
noncomputable def Z5Y  : Option (Int) :=
 some (0)
theorem Z9n  : Sim (Z4m) (Z5Y) (Zet 0  []) := by
 unfold Z5Y
 refine zf (ZiA ..) ?_
 refine ze ?_
 exact zr ((iv 0), []) ⟨_, rfl⟩
noncomputable def Z61  : Option (Int) :=
 some ((-1))
theorem Z9m  : Sim (Z4m) (Z61) (Ze7 0  []) := by
 unfold Z61
 refine zf (Zjs ..) ?_
 refine ze ?_
 exact zr ((iv (-1)), []) ⟨_, rfl⟩
noncomputable def Z73 (x0 : Int) (x1 : Int) : Option (Int) :=
 (Z7E ((IntKind.i64.wrap (x0 * x1)))).bind fun r1 =>
 some (r1)
theorem ZcG (x0 : Int) (x1 : Int) : Sim (Z4m) (Z73 x0 x1) (ZfW 0 (iv x0) (iv x1) []) := by
 unfold Z73
 refine zf (Zje ..) ?_
 refine ze ?_
 refine zo (iv (IntKind.i64.wrap (x0 * x1))) ?_
 refine zi fun r1 hr1 => ?_
 obtain ⟨qr1, er1, exr1, rfl⟩ := Zbv ((IntKind.i64.wrap (x0 * x1))) r1 hr1
 refine zc [] (iv r1) [] er1 ?_
 exact zr ((iv r1), []) ⟨_, rfl⟩
noncomputable def Z6Z (x0 : Int) (x1 : Int) : Option (Int) :=
 if ((decide (x0 < 0))) = true then
 (Z61)
 else
 (if ((decide (x1 < 0))) = true then
 (Z61)
 else
 (Z73 x0 x1))
theorem ZcK (x0 : Int) (x1 : Int) : Sim (Z4m) (Z6Z x0 x1) (ZfE 0 (iv x0) (iv x1) []) := by
 unfold Z6Z
 refine zf (ZiN ..) ?_
 refine ze ?_
 refine zo (bv (decide (x0 < 0))) ?_
 refine za ((decide (x0 < 0))) ?_ ?_
 ·exact zk (Z9m )
 ·refine zo (bv (decide (x1 < 0))) ?_
  refine za ((decide (x1 < 0))) ?_ ?_
  ·exact zk (Z9m )
  ·exact zk (ZcG (x0) (x1))
noncomputable def Z8J (x0 : Int) (x1 : Int) : Option (Int) :=
 if ((x0 == 0)) = true then
 (Z5Y)
 else
 (if ((x1 == 0)) = true then
 (Z5Y)
 else
 (Z6Z x0 x1))
theorem ZdL (x0 : Int) (x1 : Int) : Sim (Z4m) (Z8J x0 x1) (EE 33 [(iv x0), (iv x1)] []) := by
 unfold Z8J
 refine zf (Zl9 ..) ?_
 refine ze ?_
 refine ze ?_
 refine zo (bv (x0 == 0)) ?_
 refine za ((x0 == 0)) ?_ ?_
 ·exact zk (Z9n )
 ·refine zo (bv (x1 == 0)) ?_
  refine za ((x1 == 0)) ?_ ?_
  ·exact zk (Z9n )
  ·exact zk (ZcK (x0) (x1))
theorem ZdR (x0 : Int) (x1 : Int) {r} (h : Z8J x0 x1 = some r) : Z6f x0 x1 = some r :=
 pick_of (fun _ _ ha hb => RRun.uniq (Ze0) (ha ) (hb )) (ZdL x0 x1 r h)
noncomputable def Z7l (x0 : Int) : Option (Int) :=
 some (x0)
theorem Zd1 (x0 : Int) : Sim (Z6H) (Z7l x0) (Zfo 0 (iv x0) []) := by
 unfold Z7l
 refine zf (ZhR ..) ?_
 refine ze ?_
 exact zr ((iv x0), []) ⟨_, rfl⟩
noncomputable def Z9h (x0 : Int) : Option (Int) :=
 if ((decide (1048576 < x0))) = true then
 (some ((-1)))
 else
 (Z7l x0)
theorem ZdQ (x0 : Int) : Sim (Z6H) (Z9h x0) (EE 38 [(iv x0)] []) := by
 unfold Z9h
 refine zf (Zla ..) ?_
 refine ze ?_
 refine ze ?_
 refine zo (bv (decide (1048576 < x0))) ?_
 refine za ((decide (1048576 < x0))) ?_ ?_
 ·refine ze ?_
  exact zr ((iv (-1)), []) ⟨_, rfl⟩
 ·exact zk (Zd1 (x0))
theorem ZdZ (x0 : Int) {r} (h : Z9h x0 = some r) : Z7E x0 = some r :=
 pick_of (fun _ _ ha hb => RRun.uniq (Zf9) (ha ) (hb )) (ZdQ x0 r h)
noncomputable def Z6T  : Option (Int) :=
 some ((-1))
theorem Za4  : Sim (Z6u) (Z6T) (Zey 0  []) := by
 unfold Z6T
 refine zf (ZhY ..) ?_
 refine ze ?_
 exact zr ((iv (-1)), []) ⟨_, rfl⟩
noncomputable def Z7T (x0 : Int) (x1 : Int) : Option (Int) :=
 (Z7E ((IntKind.i64.wrap (x0 + x1)))).bind fun r1 =>
 some (r1)
theorem Zdd (x0 : Int) (x1 : Int) : Sim (Z6u) (Z7T x0 x1) (ZfH 0 (iv x0) (iv x1) []) := by
 unfold Z7T
 refine zf (Zj6 ..) ?_
 refine ze ?_
 refine zo (iv (IntKind.i64.wrap (x0 + x1))) ?_
 refine zi fun r1 hr1 => ?_
 obtain ⟨qr1, er1, exr1, rfl⟩ := Zbv ((IntKind.i64.wrap (x0 + x1))) r1 hr1
 refine zc [] (iv r1) [] er1 ?_
 exact zr ((iv r1), []) ⟨_, rfl⟩
noncomputable def Z9U (x0 : Int) (x1 : Int) : Option (Int) :=
 if ((decide (x0 < 0))) = true then
 (Z6T)
 else
 (if ((decide (x1 < 0))) = true then
 (Z6T)
 else
 (Z7T x0 x1))
theorem Zei (x0 : Int) (x1 : Int) : Sim (Z6u) (Z9U x0 x1) (EE 32 [(iv x0), (iv x1)] []) := by
 unfold Z9U
 refine zf (Zlm ..) ?_
 refine ze ?_
 refine ze ?_
 refine zo (bv (decide (x0 < 0))) ?_
 refine za ((decide (x0 < 0))) ?_ ?_
 ·exact zk (Za4 )
 ·refine zo (bv (decide (x1 < 0))) ?_
  refine za ((decide (x1 < 0))) ?_ ?_
  ·exact zk (Za4 )
  ·exact zk (Zdd (x0) (x1))
theorem ZeE (x0 : Int) (x1 : Int) {r} (h : Z9U x0 x1 = some r) : Z9T x0 x1 = some r :=
 pick_of (fun _ _ ha hb => RRun.uniq (Zfd) (ha ) (hb )) (Zei x0 x1 r h)
noncomputable def ZaX (x0 : Z3) : Option (Int) :=
 Z3r 0 x0.Kids ((x0.Kids.length : Int)) 0 x0
theorem ZdU (x0 : Z3) (z1d : Own) (zY : Own) : Sim (Z3f) (ZaX x0) (EE 25 [(.p (.agg (Zz x0 z1d zY)))] []) := by
 unfold ZaX
 refine zf (Zku ..) ?_
 refine ze ?_
 refine zx (.ptr 0 0) [(Zo x0 z1d zY)] ?_
 refine ze ?_
 refine ze ?_
 refine zo (.ptr 0 6) ?_
 refine zo (.p (.lst (shrO zY) (x0.Kids.map ZD))) ?_
 refine zo (iv (x0.Kids.length : Int)) ?_ (Eq.trans (by kernel_rfl) (xlen_of (P := PP) (t := 25) (d := 27) (by kernel_rfl) ZD (shrO zY) x0.Kids))
 exact zk (Za1 (0) (x0.Kids) ((x0.Kids.length : Int)) (0) (x0) (shrO zY) z1d zY)
theorem Z7o (x0 : Z3) {r} (h : ZaX x0 = some r) : Z2e x0 = some r :=
 pick_of (fun _ _ ha hb => RRun.uniq (Zct) (ha .ex .ex) (hb .ex .ex)) (fun z1d zY => ZdU x0 z1d zY r h)
noncomputable def Z6r (x3 : Int) (x8 : List Z3) (x9 : Int) (x10 : Int) (b0 : Z3) : Option (Int) :=
 (lget x8 x10).bind fun a1 =>
 (Z2e a1).bind fun r2 =>
 Z3r ((min (IntKind.i64.wrap (x3 + r2)) 1048576)) x8 x9 ((IntKind.i64.wrap (x10 + 1))) b0
theorem ZcX (x3 : Int) (x8 : List Z3) (x9 : Int) (x10 : Int) (b0 : Z3) (ox8 : Own) (z1e : Own) (z12 : Own) : Sim (Z3f) (Z6r x3 x8 x9 x10 b0) (ZfV 0 (.ptr 0 0) (iv x3) (.p (.lst ox8 (x8.map ZD))) (iv x9) (iv x10) [(Zo b0 z1e z12)]) := by
 unfold Z6r
 refine zf (Zj1 ..) ?_
 refine ze ?_
 refine zi fun a1 ha1 => ?_
 refine zo (.cptr (Zz a1 .sh .sh)) ?_ (Eq.trans (by kernel_rfl) (xidx_of (o := ox8) (k := .i64) (n := 7) (e := ZD) (cs := Z1T) Z40 (fun _ => rfl) (by decide) ha1))
 refine zo (.p (.agg (Zz a1 .sh .sh))) ?_
 refine zz (.ptr 1 0) [(Zo b0 z1e z12), (Zo (Z3.mk 0 0 0 0 0 ([] : List Z8) ([] : List Z3)) .nl .nl)] ?_
 refine zt [(Zo b0 z1e z12), (Zo a1 .sh .sh)] ?_
 refine ze ?_
 refine zo (.p (.agg (Zz a1 .sh .sh))) ?_
 refine zi fun r2 hr2 => ?_
 obtain ⟨qr2, er2, exr2, rfl⟩ := Z7i (a1) .sh .sh r2 hr2
 refine zc [] (iv r2) [(Zo b0 z1e z12), (Zo a1 .sh .sh)] er2 ?_
 refine zo (iv (IntKind.i64.wrap (x3 + r2))) ?_
 refine zo (iv (min (IntKind.i64.wrap (x3 + r2)) 1048576)) ?_ (xminmax2_min _ _)
 refine ze ?_
 refine zo (iv (IntKind.i64.wrap (x10 + 1))) ?_
 exact zk (Za1 ((min (IntKind.i64.wrap (x3 + r2)) 1048576)) (x8) (x9) ((IntKind.i64.wrap (x10 + 1))) (b0) ox8 z1e z12)
noncomputable def ZW (x3 : Int) : Option (Int) :=
 some ((min x3 1048576))
theorem Z14 (x3 : Int) : Sim (Z3f) (ZW x3) (Z2P 0 (iv x3) []) := by
 unfold ZW
 refine zf (Zhb ..) ?_
 refine ze ?_
 refine zo (iv (min x3 1048576)) ?_ (xminmax2_min _ _)
 exact zr ((iv (min x3 1048576)), []) ⟨_, rfl⟩
noncomputable def Z15 (x3 : Int) (b0 : Z3) : Option (Int) :=
 if ((b0.Mode == 2)) = true then
 (ZW ((IntKind.i64.wrap (x3 + 2))))
 else
 (ZW x3)
theorem Z1h (x3 : Int) (b0 : Z3) (z1e : Own) (z12 : Own) : Sim (Z3f) (Z15 x3 b0) (Z3B 0 (.ptr 0 0) (iv x3) [(Zo b0 z1e z12)]) := by
 unfold Z15
 refine zf (ZhN ..) ?_
 refine ze ?_
 refine zo (.ptr 0 3) ?_
 refine zo (iv b0.Mode) ?_
 refine zo (bv (b0.Mode == 2)) ?_
 refine za ((b0.Mode == 2)) ?_ ?_
 ·refine ze ?_
  refine zo (iv (IntKind.i64.wrap (x3 + 2))) ?_
  exact zk (Z14 ((IntKind.i64.wrap (x3 + 2))))
 ·exact zk (Z14 (x3))
noncomputable def Z1N (x3 : Int) (b0 : Z3) : Option (Int) :=
 if ((b0.Kind == 1)) = true then
 (if ((b0.Kind == 1)) = true then
 (some (1))
 else
 (if ((b0.Kind == 3)) = true then
 (ZW ((IntKind.i64.wrap (x3 + (IntKind.i64.wrap (2 * (IntKind.i64.wrap ((b0.Kids.length : Int) - 1))))))))
 else
 (if ((b0.Kind == 5)) = true then
 (if ((b0.Kind == 5)) = true then
 (ZW ((IntKind.i64.wrap (x3 + 2))))
 else
 (if ((b0.Kind == 4)) = true then
 (if ((decide (b0.Hi < 0))) = true then
 (Z15 ((IntKind.i64.wrap ((IntKind.i64.wrap (b0.Lo * x3)) + (IntKind.i64.wrap (x3 + 4))))) b0)
 else
 (Z15 ((IntKind.i64.wrap ((IntKind.i64.wrap (b0.Lo * x3)) + (IntKind.i64.wrap ((IntKind.i64.wrap (b0.Hi - b0.Lo)) * (IntKind.i64.wrap (x3 + 1))))))) b0))
 else
 (ZW x3)))
 else
 (if ((b0.Kind == 7)) = true then
 (if ((b0.Kind == 7)) = true then
 (ZW ((IntKind.i64.wrap (x3 + 2))))
 else
 (if ((b0.Kind == 4)) = true then
 (if ((decide (b0.Hi < 0))) = true then
 (Z15 ((IntKind.i64.wrap ((IntKind.i64.wrap (b0.Lo * x3)) + (IntKind.i64.wrap (x3 + 4))))) b0)
 else
 (Z15 ((IntKind.i64.wrap ((IntKind.i64.wrap (b0.Lo * x3)) + (IntKind.i64.wrap ((IntKind.i64.wrap (b0.Hi - b0.Lo)) * (IntKind.i64.wrap (x3 + 1))))))) b0))
 else
 (ZW x3)))
 else
 (if ((b0.Kind == 8)) = true then
 (ZW ((IntKind.i64.wrap (x3 + 2))))
 else
 (if ((b0.Kind == 4)) = true then
 (if ((decide (b0.Hi < 0))) = true then
 (Z15 ((IntKind.i64.wrap ((IntKind.i64.wrap (b0.Lo * x3)) + (IntKind.i64.wrap (x3 + 4))))) b0)
 else
 (Z15 ((IntKind.i64.wrap ((IntKind.i64.wrap (b0.Lo * x3)) + (IntKind.i64.wrap ((IntKind.i64.wrap (b0.Hi - b0.Lo)) * (IntKind.i64.wrap (x3 + 1))))))) b0))
 else
 (ZW x3)))))))
 else
 (if ((b0.Kind == 6)) = true then
 (if ((b0.Kind == 6)) = true then
 (some (1))
 else
 (if ((b0.Kind == 3)) = true then
 (ZW ((IntKind.i64.wrap (x3 + (IntKind.i64.wrap (2 * (IntKind.i64.wrap ((b0.Kids.length : Int) - 1))))))))
 else
 (if ((b0.Kind == 5)) = true then
 (if ((b0.Kind == 5)) = true then
 (ZW ((IntKind.i64.wrap (x3 + 2))))
 else
 (if ((b0.Kind == 4)) = true then
 (if ((decide (b0.Hi < 0))) = true then
 (Z15 ((IntKind.i64.wrap ((IntKind.i64.wrap (b0.Lo * x3)) + (IntKind.i64.wrap (x3 + 4))))) b0)
 else
 (Z15 ((IntKind.i64.wrap ((IntKind.i64.wrap (b0.Lo * x3)) + (IntKind.i64.wrap ((IntKind.i64.wrap (b0.Hi - b0.Lo)) * (IntKind.i64.wrap (x3 + 1))))))) b0))
 else
 (ZW x3)))
 else
 (if ((b0.Kind == 7)) = true then
 (if ((b0.Kind == 7)) = true then
 (ZW ((IntKind.i64.wrap (x3 + 2))))
 else
 (if ((b0.Kind == 4)) = true then
 (if ((decide (b0.Hi < 0))) = true then
 (Z15 ((IntKind.i64.wrap ((IntKind.i64.wrap (b0.Lo * x3)) + (IntKind.i64.wrap (x3 + 4))))) b0)
 else
 (Z15 ((IntKind.i64.wrap ((IntKind.i64.wrap (b0.Lo * x3)) + (IntKind.i64.wrap ((IntKind.i64.wrap (b0.Hi - b0.Lo)) * (IntKind.i64.wrap (x3 + 1))))))) b0))
 else
 (ZW x3)))
 else
 (if ((b0.Kind == 8)) = true then
 (ZW ((IntKind.i64.wrap (x3 + 2))))
 else
 (if ((b0.Kind == 4)) = true then
 (if ((decide (b0.Hi < 0))) = true then
 (Z15 ((IntKind.i64.wrap ((IntKind.i64.wrap (b0.Lo * x3)) + (IntKind.i64.wrap (x3 + 4))))) b0)
 else
 (Z15 ((IntKind.i64.wrap ((IntKind.i64.wrap (b0.Lo * x3)) + (IntKind.i64.wrap ((IntKind.i64.wrap (b0.Hi - b0.Lo)) * (IntKind.i64.wrap (x3 + 1))))))) b0))
 else
 (ZW x3)))))))
 else
 (if ((b0.Kind == 9)) = true then
 (some (1))
 else
 (if ((b0.Kind == 3)) = true then
 (ZW ((IntKind.i64.wrap (x3 + (IntKind.i64.wrap (2 * (IntKind.i64.wrap ((b0.Kids.length : Int) - 1))))))))
 else
 (if ((b0.Kind == 5)) = true then
 (if ((b0.Kind == 5)) = true then
 (ZW ((IntKind.i64.wrap (x3 + 2))))
 else
 (if ((b0.Kind == 4)) = true then
 (if ((decide (b0.Hi < 0))) = true then
 (Z15 ((IntKind.i64.wrap ((IntKind.i64.wrap (b0.Lo * x3)) + (IntKind.i64.wrap (x3 + 4))))) b0)
 else
 (Z15 ((IntKind.i64.wrap ((IntKind.i64.wrap (b0.Lo * x3)) + (IntKind.i64.wrap ((IntKind.i64.wrap (b0.Hi - b0.Lo)) * (IntKind.i64.wrap (x3 + 1))))))) b0))
 else
 (ZW x3)))
 else
 (if ((b0.Kind == 7)) = true then
 (if ((b0.Kind == 7)) = true then
 (ZW ((IntKind.i64.wrap (x3 + 2))))
 else
 (if ((b0.Kind == 4)) = true then
 (if ((decide (b0.Hi < 0))) = true then
 (Z15 ((IntKind.i64.wrap ((IntKind.i64.wrap (b0.Lo * x3)) + (IntKind.i64.wrap (x3 + 4))))) b0)
 else
 (Z15 ((IntKind.i64.wrap ((IntKind.i64.wrap (b0.Lo * x3)) + (IntKind.i64.wrap ((IntKind.i64.wrap (b0.Hi - b0.Lo)) * (IntKind.i64.wrap (x3 + 1))))))) b0))
 else
 (ZW x3)))
 else
 (if ((b0.Kind == 8)) = true then
 (ZW ((IntKind.i64.wrap (x3 + 2))))
 else
 (if ((b0.Kind == 4)) = true then
 (if ((decide (b0.Hi < 0))) = true then
 (Z15 ((IntKind.i64.wrap ((IntKind.i64.wrap (b0.Lo * x3)) + (IntKind.i64.wrap (x3 + 4))))) b0)
 else
 (Z15 ((IntKind.i64.wrap ((IntKind.i64.wrap (b0.Lo * x3)) + (IntKind.i64.wrap ((IntKind.i64.wrap (b0.Hi - b0.Lo)) * (IntKind.i64.wrap (x3 + 1))))))) b0))
 else
 (ZW x3))))))))
theorem ZcP (x3 : Int) (b0 : Z3) (z1e : Own) (z12 : Own) : Sim (Z3f) (Z1N x3 b0) (Zft 0 (.ptr 0 0) (iv x3) [(Zo b0 z1e z12)]) := by
 unfold Z1N
 refine zf (ZiS ..) ?_
 refine ze ?_
 refine zo (.ptr 0 0) ?_
 refine zo (iv b0.Kind) ?_
 refine ze ?_
 refine zo (bv (b0.Kind == 1)) ?_
 refine za ((b0.Kind == 1)) ?_ ?_
 ·refine za ((b0.Kind == 1)) ?_ ?_
  ·refine ze ?_
   exact zr ((iv 1), [(Zo b0 z1e z12)]) ⟨_, rfl⟩
  ·refine ze ?_
   refine zo (bv (b0.Kind == 3)) ?_
   refine za ((b0.Kind == 3)) ?_ ?_
   ·refine ze ?_
    refine zo (.ptr 0 6) ?_
    refine zo (.p (.lst (shrO z12) (b0.Kids.map ZD))) ?_
    refine zo (iv (b0.Kids.length : Int)) ?_ (Eq.trans (by kernel_rfl) (xlen_of (P := PP) (t := 25) (d := 27) (by kernel_rfl) ZD (shrO z12) b0.Kids))
    refine zo (iv (IntKind.i64.wrap ((b0.Kids.length : Int) - 1))) ?_
    refine zo (iv (IntKind.i64.wrap (2 * (IntKind.i64.wrap ((b0.Kids.length : Int) - 1))))) ?_
    refine zo (iv (IntKind.i64.wrap (x3 + (IntKind.i64.wrap (2 * (IntKind.i64.wrap ((b0.Kids.length : Int) - 1))))))) ?_
    exact zk (Z14 ((IntKind.i64.wrap (x3 + (IntKind.i64.wrap (2 * (IntKind.i64.wrap ((b0.Kids.length : Int) - 1))))))))
   ·refine ze ?_
    refine zo (bv (b0.Kind == 5)) ?_
    refine za ((b0.Kind == 5)) ?_ ?_
    ·refine za ((b0.Kind == 5)) ?_ ?_
     ·refine ze ?_
      refine zo (iv (IntKind.i64.wrap (x3 + 2))) ?_
      exact zk (Z14 ((IntKind.i64.wrap (x3 + 2))))
     ·refine ze ?_
      refine zo (bv (b0.Kind == 4)) ?_
      refine za ((b0.Kind == 4)) ?_ ?_
      ·refine ze ?_
       refine ze ?_
       refine zo (.ptr 0 1) ?_
       refine zo (iv b0.Lo) ?_
       refine zo (iv (IntKind.i64.wrap (b0.Lo * x3))) ?_
       refine ze ?_
       refine zo (.ptr 0 2) ?_
       refine zo (iv b0.Hi) ?_
       refine zo (bv (decide (b0.Hi < 0))) ?_
       refine za ((decide (b0.Hi < 0))) ?_ ?_
       ·refine ze ?_
        refine zo (iv (IntKind.i64.wrap (x3 + 4))) ?_
        refine zo (iv (IntKind.i64.wrap ((IntKind.i64.wrap (b0.Lo * x3)) + (IntKind.i64.wrap (x3 + 4))))) ?_
        exact zk (Z1h ((IntKind.i64.wrap ((IntKind.i64.wrap (b0.Lo * x3)) + (IntKind.i64.wrap (x3 + 4))))) (b0) z1e z12)
       ·refine ze ?_
        refine zo (.ptr 0 2) ?_
        refine zo (iv b0.Hi) ?_
        refine zo (.ptr 0 1) ?_
        refine zo (iv b0.Lo) ?_
        refine zo (iv (IntKind.i64.wrap (b0.Hi - b0.Lo))) ?_
        refine zo (iv (IntKind.i64.wrap (x3 + 1))) ?_
        refine zo (iv (IntKind.i64.wrap ((IntKind.i64.wrap (b0.Hi - b0.Lo)) * (IntKind.i64.wrap (x3 + 1))))) ?_
        refine zo (iv (IntKind.i64.wrap ((IntKind.i64.wrap (b0.Lo * x3)) + (IntKind.i64.wrap ((IntKind.i64.wrap (b0.Hi - b0.Lo)) * (IntKind.i64.wrap (x3 + 1))))))) ?_
        exact zk (Z1h ((IntKind.i64.wrap ((IntKind.i64.wrap (b0.Lo * x3)) + (IntKind.i64.wrap ((IntKind.i64.wrap (b0.Hi - b0.Lo)) * (IntKind.i64.wrap (x3 + 1))))))) (b0) z1e z12)
      ·exact zk (Z14 (x3))
    ·refine ze ?_
     refine zo (bv (b0.Kind == 7)) ?_
     refine za ((b0.Kind == 7)) ?_ ?_
     ·refine za ((b0.Kind == 7)) ?_ ?_
      ·refine ze ?_
       refine zo (iv (IntKind.i64.wrap (x3 + 2))) ?_
       exact zk (Z14 ((IntKind.i64.wrap (x3 + 2))))
      ·refine ze ?_
       refine zo (bv (b0.Kind == 4)) ?_
       refine za ((b0.Kind == 4)) ?_ ?_
       ·refine ze ?_
        refine ze ?_
        refine zo (.ptr 0 1) ?_
        refine zo (iv b0.Lo) ?_
        refine zo (iv (IntKind.i64.wrap (b0.Lo * x3))) ?_
        refine ze ?_
        refine zo (.ptr 0 2) ?_
        refine zo (iv b0.Hi) ?_
        refine zo (bv (decide (b0.Hi < 0))) ?_
        refine za ((decide (b0.Hi < 0))) ?_ ?_
        ·refine ze ?_
         refine zo (iv (IntKind.i64.wrap (x3 + 4))) ?_
         refine zo (iv (IntKind.i64.wrap ((IntKind.i64.wrap (b0.Lo * x3)) + (IntKind.i64.wrap (x3 + 4))))) ?_
         exact zk (Z1h ((IntKind.i64.wrap ((IntKind.i64.wrap (b0.Lo * x3)) + (IntKind.i64.wrap (x3 + 4))))) (b0) z1e z12)
        ·refine ze ?_
         refine zo (.ptr 0 2) ?_
         refine zo (iv b0.Hi) ?_
         refine zo (.ptr 0 1) ?_
         refine zo (iv b0.Lo) ?_
         refine zo (iv (IntKind.i64.wrap (b0.Hi - b0.Lo))) ?_
         refine zo (iv (IntKind.i64.wrap (x3 + 1))) ?_
         refine zo (iv (IntKind.i64.wrap ((IntKind.i64.wrap (b0.Hi - b0.Lo)) * (IntKind.i64.wrap (x3 + 1))))) ?_
         refine zo (iv (IntKind.i64.wrap ((IntKind.i64.wrap (b0.Lo * x3)) + (IntKind.i64.wrap ((IntKind.i64.wrap (b0.Hi - b0.Lo)) * (IntKind.i64.wrap (x3 + 1))))))) ?_
         exact zk (Z1h ((IntKind.i64.wrap ((IntKind.i64.wrap (b0.Lo * x3)) + (IntKind.i64.wrap ((IntKind.i64.wrap (b0.Hi - b0.Lo)) * (IntKind.i64.wrap (x3 + 1))))))) (b0) z1e z12)
       ·exact zk (Z14 (x3))
     ·refine ze ?_
      refine zo (bv (b0.Kind == 8)) ?_
      refine za ((b0.Kind == 8)) ?_ ?_
      ·refine ze ?_
       refine zo (iv (IntKind.i64.wrap (x3 + 2))) ?_
       exact zk (Z14 ((IntKind.i64.wrap (x3 + 2))))
      ·refine ze ?_
       refine zo (bv (b0.Kind == 4)) ?_
       refine za ((b0.Kind == 4)) ?_ ?_
       ·refine ze ?_
        refine ze ?_
        refine zo (.ptr 0 1) ?_
        refine zo (iv b0.Lo) ?_
        refine zo (iv (IntKind.i64.wrap (b0.Lo * x3))) ?_
        refine ze ?_
        refine zo (.ptr 0 2) ?_
        refine zo (iv b0.Hi) ?_
        refine zo (bv (decide (b0.Hi < 0))) ?_
        refine za ((decide (b0.Hi < 0))) ?_ ?_
        ·refine ze ?_
         refine zo (iv (IntKind.i64.wrap (x3 + 4))) ?_
         refine zo (iv (IntKind.i64.wrap ((IntKind.i64.wrap (b0.Lo * x3)) + (IntKind.i64.wrap (x3 + 4))))) ?_
         exact zk (Z1h ((IntKind.i64.wrap ((IntKind.i64.wrap (b0.Lo * x3)) + (IntKind.i64.wrap (x3 + 4))))) (b0) z1e z12)
        ·refine ze ?_
         refine zo (.ptr 0 2) ?_
         refine zo (iv b0.Hi) ?_
         refine zo (.ptr 0 1) ?_
         refine zo (iv b0.Lo) ?_
         refine zo (iv (IntKind.i64.wrap (b0.Hi - b0.Lo))) ?_
         refine zo (iv (IntKind.i64.wrap (x3 + 1))) ?_
         refine zo (iv (IntKind.i64.wrap ((IntKind.i64.wrap (b0.Hi - b0.Lo)) * (IntKind.i64.wrap (x3 + 1))))) ?_
         refine zo (iv (IntKind.i64.wrap ((IntKind.i64.wrap (b0.Lo * x3)) + (IntKind.i64.wrap ((IntKind.i64.wrap (b0.Hi - b0.Lo)) * (IntKind.i64.wrap (x3 + 1))))))) ?_
         exact zk (Z1h ((IntKind.i64.wrap ((IntKind.i64.wrap (b0.Lo * x3)) + (IntKind.i64.wrap ((IntKind.i64.wrap (b0.Hi - b0.Lo)) * (IntKind.i64.wrap (x3 + 1))))))) (b0) z1e z12)
       ·exact zk (Z14 (x3))
 ·refine ze ?_
  refine zo (bv (b0.Kind == 6)) ?_
  refine za ((b0.Kind == 6)) ?_ ?_
  ·refine za ((b0.Kind == 6)) ?_ ?_
   ·refine ze ?_
    exact zr ((iv 1), [(Zo b0 z1e z12)]) ⟨_, rfl⟩
   ·refine ze ?_
    refine zo (bv (b0.Kind == 3)) ?_
    refine za ((b0.Kind == 3)) ?_ ?_
    ·refine ze ?_
     refine zo (.ptr 0 6) ?_
     refine zo (.p (.lst (shrO z12) (b0.Kids.map ZD))) ?_
     refine zo (iv (b0.Kids.length : Int)) ?_ (Eq.trans (by kernel_rfl) (xlen_of (P := PP) (t := 25) (d := 27) (by kernel_rfl) ZD (shrO z12) b0.Kids))
     refine zo (iv (IntKind.i64.wrap ((b0.Kids.length : Int) - 1))) ?_
     refine zo (iv (IntKind.i64.wrap (2 * (IntKind.i64.wrap ((b0.Kids.length : Int) - 1))))) ?_
     refine zo (iv (IntKind.i64.wrap (x3 + (IntKind.i64.wrap (2 * (IntKind.i64.wrap ((b0.Kids.length : Int) - 1))))))) ?_
     exact zk (Z14 ((IntKind.i64.wrap (x3 + (IntKind.i64.wrap (2 * (IntKind.i64.wrap ((b0.Kids.length : Int) - 1))))))))
    ·refine ze ?_
     refine zo (bv (b0.Kind == 5)) ?_
     refine za ((b0.Kind == 5)) ?_ ?_
     ·refine za ((b0.Kind == 5)) ?_ ?_
      ·refine ze ?_
       refine zo (iv (IntKind.i64.wrap (x3 + 2))) ?_
       exact zk (Z14 ((IntKind.i64.wrap (x3 + 2))))
      ·refine ze ?_
       refine zo (bv (b0.Kind == 4)) ?_
       refine za ((b0.Kind == 4)) ?_ ?_
       ·refine ze ?_
        refine ze ?_
        refine zo (.ptr 0 1) ?_
        refine zo (iv b0.Lo) ?_
        refine zo (iv (IntKind.i64.wrap (b0.Lo * x3))) ?_
        refine ze ?_
        refine zo (.ptr 0 2) ?_
        refine zo (iv b0.Hi) ?_
        refine zo (bv (decide (b0.Hi < 0))) ?_
        refine za ((decide (b0.Hi < 0))) ?_ ?_
        ·refine ze ?_
         refine zo (iv (IntKind.i64.wrap (x3 + 4))) ?_
         refine zo (iv (IntKind.i64.wrap ((IntKind.i64.wrap (b0.Lo * x3)) + (IntKind.i64.wrap (x3 + 4))))) ?_
         exact zk (Z1h ((IntKind.i64.wrap ((IntKind.i64.wrap (b0.Lo * x3)) + (IntKind.i64.wrap (x3 + 4))))) (b0) z1e z12)
        ·refine ze ?_
         refine zo (.ptr 0 2) ?_
         refine zo (iv b0.Hi) ?_
         refine zo (.ptr 0 1) ?_
         refine zo (iv b0.Lo) ?_
         refine zo (iv (IntKind.i64.wrap (b0.Hi - b0.Lo))) ?_
         refine zo (iv (IntKind.i64.wrap (x3 + 1))) ?_
         refine zo (iv (IntKind.i64.wrap ((IntKind.i64.wrap (b0.Hi - b0.Lo)) * (IntKind.i64.wrap (x3 + 1))))) ?_
         refine zo (iv (IntKind.i64.wrap ((IntKind.i64.wrap (b0.Lo * x3)) + (IntKind.i64.wrap ((IntKind.i64.wrap (b0.Hi - b0.Lo)) * (IntKind.i64.wrap (x3 + 1))))))) ?_
         exact zk (Z1h ((IntKind.i64.wrap ((IntKind.i64.wrap (b0.Lo * x3)) + (IntKind.i64.wrap ((IntKind.i64.wrap (b0.Hi - b0.Lo)) * (IntKind.i64.wrap (x3 + 1))))))) (b0) z1e z12)
       ·exact zk (Z14 (x3))
     ·refine ze ?_
      refine zo (bv (b0.Kind == 7)) ?_
      refine za ((b0.Kind == 7)) ?_ ?_
      ·refine za ((b0.Kind == 7)) ?_ ?_
       ·refine ze ?_
        refine zo (iv (IntKind.i64.wrap (x3 + 2))) ?_
        exact zk (Z14 ((IntKind.i64.wrap (x3 + 2))))
       ·refine ze ?_
        refine zo (bv (b0.Kind == 4)) ?_
        refine za ((b0.Kind == 4)) ?_ ?_
        ·refine ze ?_
         refine ze ?_
         refine zo (.ptr 0 1) ?_
         refine zo (iv b0.Lo) ?_
         refine zo (iv (IntKind.i64.wrap (b0.Lo * x3))) ?_
         refine ze ?_
         refine zo (.ptr 0 2) ?_
         refine zo (iv b0.Hi) ?_
         refine zo (bv (decide (b0.Hi < 0))) ?_
         refine za ((decide (b0.Hi < 0))) ?_ ?_
         ·refine ze ?_
          refine zo (iv (IntKind.i64.wrap (x3 + 4))) ?_
          refine zo (iv (IntKind.i64.wrap ((IntKind.i64.wrap (b0.Lo * x3)) + (IntKind.i64.wrap (x3 + 4))))) ?_
          exact zk (Z1h ((IntKind.i64.wrap ((IntKind.i64.wrap (b0.Lo * x3)) + (IntKind.i64.wrap (x3 + 4))))) (b0) z1e z12)
         ·refine ze ?_
          refine zo (.ptr 0 2) ?_
          refine zo (iv b0.Hi) ?_
          refine zo (.ptr 0 1) ?_
          refine zo (iv b0.Lo) ?_
          refine zo (iv (IntKind.i64.wrap (b0.Hi - b0.Lo))) ?_
          refine zo (iv (IntKind.i64.wrap (x3 + 1))) ?_
          refine zo (iv (IntKind.i64.wrap ((IntKind.i64.wrap (b0.Hi - b0.Lo)) * (IntKind.i64.wrap (x3 + 1))))) ?_
          refine zo (iv (IntKind.i64.wrap ((IntKind.i64.wrap (b0.Lo * x3)) + (IntKind.i64.wrap ((IntKind.i64.wrap (b0.Hi - b0.Lo)) * (IntKind.i64.wrap (x3 + 1))))))) ?_
          exact zk (Z1h ((IntKind.i64.wrap ((IntKind.i64.wrap (b0.Lo * x3)) + (IntKind.i64.wrap ((IntKind.i64.wrap (b0.Hi - b0.Lo)) * (IntKind.i64.wrap (x3 + 1))))))) (b0) z1e z12)
        ·exact zk (Z14 (x3))
      ·refine ze ?_
       refine zo (bv (b0.Kind == 8)) ?_
       refine za ((b0.Kind == 8)) ?_ ?_
       ·refine ze ?_
        refine zo (iv (IntKind.i64.wrap (x3 + 2))) ?_
        exact zk (Z14 ((IntKind.i64.wrap (x3 + 2))))
       ·refine ze ?_
        refine zo (bv (b0.Kind == 4)) ?_
        refine za ((b0.Kind == 4)) ?_ ?_
        ·refine ze ?_
         refine ze ?_
         refine zo (.ptr 0 1) ?_
         refine zo (iv b0.Lo) ?_
         refine zo (iv (IntKind.i64.wrap (b0.Lo * x3))) ?_
         refine ze ?_
         refine zo (.ptr 0 2) ?_
         refine zo (iv b0.Hi) ?_
         refine zo (bv (decide (b0.Hi < 0))) ?_
         refine za ((decide (b0.Hi < 0))) ?_ ?_
         ·refine ze ?_
          refine zo (iv (IntKind.i64.wrap (x3 + 4))) ?_
          refine zo (iv (IntKind.i64.wrap ((IntKind.i64.wrap (b0.Lo * x3)) + (IntKind.i64.wrap (x3 + 4))))) ?_
          exact zk (Z1h ((IntKind.i64.wrap ((IntKind.i64.wrap (b0.Lo * x3)) + (IntKind.i64.wrap (x3 + 4))))) (b0) z1e z12)
         ·refine ze ?_
          refine zo (.ptr 0 2) ?_
          refine zo (iv b0.Hi) ?_
          refine zo (.ptr 0 1) ?_
          refine zo (iv b0.Lo) ?_
          refine zo (iv (IntKind.i64.wrap (b0.Hi - b0.Lo))) ?_
          refine zo (iv (IntKind.i64.wrap (x3 + 1))) ?_
          refine zo (iv (IntKind.i64.wrap ((IntKind.i64.wrap (b0.Hi - b0.Lo)) * (IntKind.i64.wrap (x3 + 1))))) ?_
          refine zo (iv (IntKind.i64.wrap ((IntKind.i64.wrap (b0.Lo * x3)) + (IntKind.i64.wrap ((IntKind.i64.wrap (b0.Hi - b0.Lo)) * (IntKind.i64.wrap (x3 + 1))))))) ?_
          exact zk (Z1h ((IntKind.i64.wrap ((IntKind.i64.wrap (b0.Lo * x3)) + (IntKind.i64.wrap ((IntKind.i64.wrap (b0.Hi - b0.Lo)) * (IntKind.i64.wrap (x3 + 1))))))) (b0) z1e z12)
        ·exact zk (Z14 (x3))
  ·refine ze ?_
   refine zo (bv (b0.Kind == 9)) ?_
   refine za ((b0.Kind == 9)) ?_ ?_
   ·refine ze ?_
    exact zr ((iv 1), [(Zo b0 z1e z12)]) ⟨_, rfl⟩
   ·refine ze ?_
    refine zo (bv (b0.Kind == 3)) ?_
    refine za ((b0.Kind == 3)) ?_ ?_
    ·refine ze ?_
     refine zo (.ptr 0 6) ?_
     refine zo (.p (.lst (shrO z12) (b0.Kids.map ZD))) ?_
     refine zo (iv (b0.Kids.length : Int)) ?_ (Eq.trans (by kernel_rfl) (xlen_of (P := PP) (t := 25) (d := 27) (by kernel_rfl) ZD (shrO z12) b0.Kids))
     refine zo (iv (IntKind.i64.wrap ((b0.Kids.length : Int) - 1))) ?_
     refine zo (iv (IntKind.i64.wrap (2 * (IntKind.i64.wrap ((b0.Kids.length : Int) - 1))))) ?_
     refine zo (iv (IntKind.i64.wrap (x3 + (IntKind.i64.wrap (2 * (IntKind.i64.wrap ((b0.Kids.length : Int) - 1))))))) ?_
     exact zk (Z14 ((IntKind.i64.wrap (x3 + (IntKind.i64.wrap (2 * (IntKind.i64.wrap ((b0.Kids.length : Int) - 1))))))))
    ·refine ze ?_
     refine zo (bv (b0.Kind == 5)) ?_
     refine za ((b0.Kind == 5)) ?_ ?_
     ·refine za ((b0.Kind == 5)) ?_ ?_
      ·refine ze ?_
       refine zo (iv (IntKind.i64.wrap (x3 + 2))) ?_
       exact zk (Z14 ((IntKind.i64.wrap (x3 + 2))))
      ·refine ze ?_
       refine zo (bv (b0.Kind == 4)) ?_
       refine za ((b0.Kind == 4)) ?_ ?_
       ·refine ze ?_
        refine ze ?_
        refine zo (.ptr 0 1) ?_
        refine zo (iv b0.Lo) ?_
        refine zo (iv (IntKind.i64.wrap (b0.Lo * x3))) ?_
        refine ze ?_
        refine zo (.ptr 0 2) ?_
        refine zo (iv b0.Hi) ?_
        refine zo (bv (decide (b0.Hi < 0))) ?_
        refine za ((decide (b0.Hi < 0))) ?_ ?_
        ·refine ze ?_
         refine zo (iv (IntKind.i64.wrap (x3 + 4))) ?_
         refine zo (iv (IntKind.i64.wrap ((IntKind.i64.wrap (b0.Lo * x3)) + (IntKind.i64.wrap (x3 + 4))))) ?_
         exact zk (Z1h ((IntKind.i64.wrap ((IntKind.i64.wrap (b0.Lo * x3)) + (IntKind.i64.wrap (x3 + 4))))) (b0) z1e z12)
        ·refine ze ?_
         refine zo (.ptr 0 2) ?_
         refine zo (iv b0.Hi) ?_
         refine zo (.ptr 0 1) ?_
         refine zo (iv b0.Lo) ?_
         refine zo (iv (IntKind.i64.wrap (b0.Hi - b0.Lo))) ?_
         refine zo (iv (IntKind.i64.wrap (x3 + 1))) ?_
         refine zo (iv (IntKind.i64.wrap ((IntKind.i64.wrap (b0.Hi - b0.Lo)) * (IntKind.i64.wrap (x3 + 1))))) ?_
         refine zo (iv (IntKind.i64.wrap ((IntKind.i64.wrap (b0.Lo * x3)) + (IntKind.i64.wrap ((IntKind.i64.wrap (b0.Hi - b0.Lo)) * (IntKind.i64.wrap (x3 + 1))))))) ?_
         exact zk (Z1h ((IntKind.i64.wrap ((IntKind.i64.wrap (b0.Lo * x3)) + (IntKind.i64.wrap ((IntKind.i64.wrap (b0.Hi - b0.Lo)) * (IntKind.i64.wrap (x3 + 1))))))) (b0) z1e z12)
       ·exact zk (Z14 (x3))
     ·refine ze ?_
      refine zo (bv (b0.Kind == 7)) ?_
      refine za ((b0.Kind == 7)) ?_ ?_
      ·refine za ((b0.Kind == 7)) ?_ ?_
       ·refine ze ?_
        refine zo (iv (IntKind.i64.wrap (x3 + 2))) ?_
        exact zk (Z14 ((IntKind.i64.wrap (x3 + 2))))
       ·refine ze ?_
        refine zo (bv (b0.Kind == 4)) ?_
        refine za ((b0.Kind == 4)) ?_ ?_
        ·refine ze ?_
         refine ze ?_
         refine zo (.ptr 0 1) ?_
         refine zo (iv b0.Lo) ?_
         refine zo (iv (IntKind.i64.wrap (b0.Lo * x3))) ?_
         refine ze ?_
         refine zo (.ptr 0 2) ?_
         refine zo (iv b0.Hi) ?_
         refine zo (bv (decide (b0.Hi < 0))) ?_
         refine za ((decide (b0.Hi < 0))) ?_ ?_
         ·refine ze ?_
          refine zo (iv (IntKind.i64.wrap (x3 + 4))) ?_
          refine zo (iv (IntKind.i64.wrap ((IntKind.i64.wrap (b0.Lo * x3)) + (IntKind.i64.wrap (x3 + 4))))) ?_
          exact zk (Z1h ((IntKind.i64.wrap ((IntKind.i64.wrap (b0.Lo * x3)) + (IntKind.i64.wrap (x3 + 4))))) (b0) z1e z12)
         ·refine ze ?_
          refine zo (.ptr 0 2) ?_
          refine zo (iv b0.Hi) ?_
          refine zo (.ptr 0 1) ?_
          refine zo (iv b0.Lo) ?_
          refine zo (iv (IntKind.i64.wrap (b0.Hi - b0.Lo))) ?_
          refine zo (iv (IntKind.i64.wrap (x3 + 1))) ?_
          refine zo (iv (IntKind.i64.wrap ((IntKind.i64.wrap (b0.Hi - b0.Lo)) * (IntKind.i64.wrap (x3 + 1))))) ?_
          refine zo (iv (IntKind.i64.wrap ((IntKind.i64.wrap (b0.Lo * x3)) + (IntKind.i64.wrap ((IntKind.i64.wrap (b0.Hi - b0.Lo)) * (IntKind.i64.wrap (x3 + 1))))))) ?_
          exact zk (Z1h ((IntKind.i64.wrap ((IntKind.i64.wrap (b0.Lo * x3)) + (IntKind.i64.wrap ((IntKind.i64.wrap (b0.Hi - b0.Lo)) * (IntKind.i64.wrap (x3 + 1))))))) (b0) z1e z12)
        ·exact zk (Z14 (x3))
      ·refine ze ?_
       refine zo (bv (b0.Kind == 8)) ?_
       refine za ((b0.Kind == 8)) ?_ ?_
       ·refine ze ?_
        refine zo (iv (IntKind.i64.wrap (x3 + 2))) ?_
        exact zk (Z14 ((IntKind.i64.wrap (x3 + 2))))
       ·refine ze ?_
        refine zo (bv (b0.Kind == 4)) ?_
        refine za ((b0.Kind == 4)) ?_ ?_
        ·refine ze ?_
         refine ze ?_
         refine zo (.ptr 0 1) ?_
         refine zo (iv b0.Lo) ?_
         refine zo (iv (IntKind.i64.wrap (b0.Lo * x3))) ?_
         refine ze ?_
         refine zo (.ptr 0 2) ?_
         refine zo (iv b0.Hi) ?_
         refine zo (bv (decide (b0.Hi < 0))) ?_
         refine za ((decide (b0.Hi < 0))) ?_ ?_
         ·refine ze ?_
          refine zo (iv (IntKind.i64.wrap (x3 + 4))) ?_
          refine zo (iv (IntKind.i64.wrap ((IntKind.i64.wrap (b0.Lo * x3)) + (IntKind.i64.wrap (x3 + 4))))) ?_
          exact zk (Z1h ((IntKind.i64.wrap ((IntKind.i64.wrap (b0.Lo * x3)) + (IntKind.i64.wrap (x3 + 4))))) (b0) z1e z12)
         ·refine ze ?_
          refine zo (.ptr 0 2) ?_
          refine zo (iv b0.Hi) ?_
          refine zo (.ptr 0 1) ?_
          refine zo (iv b0.Lo) ?_
          refine zo (iv (IntKind.i64.wrap (b0.Hi - b0.Lo))) ?_
          refine zo (iv (IntKind.i64.wrap (x3 + 1))) ?_
          refine zo (iv (IntKind.i64.wrap ((IntKind.i64.wrap (b0.Hi - b0.Lo)) * (IntKind.i64.wrap (x3 + 1))))) ?_
          refine zo (iv (IntKind.i64.wrap ((IntKind.i64.wrap (b0.Lo * x3)) + (IntKind.i64.wrap ((IntKind.i64.wrap (b0.Hi - b0.Lo)) * (IntKind.i64.wrap (x3 + 1))))))) ?_
          exact zk (Z1h ((IntKind.i64.wrap ((IntKind.i64.wrap (b0.Lo * x3)) + (IntKind.i64.wrap ((IntKind.i64.wrap (b0.Hi - b0.Lo)) * (IntKind.i64.wrap (x3 + 1))))))) (b0) z1e z12)
        ·exact zk (Z14 (x3))
noncomputable def Z4Q (x3 : Int) (x8 : List Z3) (x9 : Int) (x10 : Int) (b0 : Z3) : Option (Int) :=
 if ((decide (x10 < x9))) = true then
 (Z6r x3 x8 x9 x10 b0)
 else
 (Z1N x3 b0)
theorem ZcT (x3 : Int) (x8 : List Z3) (x9 : Int) (x10 : Int) (b0 : Z3) (ox8 : Own) (z1e : Own) (z12 : Own) : Sim (Z3f) (Z4Q x3 x8 x9 x10 b0) (Zc4 0 (.ptr 0 0) (iv x3) (.p (.lst ox8 (x8.map ZD))) (iv x9) (iv x10) [(Zo b0 z1e z12)]) := by
 unfold Z4Q
 refine zf (ZhV ..) ?_
 refine ze ?_
 refine zo (bv (decide (x10 < x9))) ?_
 refine za ((decide (x10 < x9))) ?_ ?_
 ·exact zk (ZcX (x3) (x8) (x9) (x10) (b0) ox8 z1e z12)
 ·exact zk (ZcP (x3) (b0) z1e z12)
theorem Z6k (x3 : Int) (x8 : List Z3) (x9 : Int) (x10 : Int) (b0 : Z3) {r} (h : Z4Q x3 x8 x9 x10 b0 = some r) : Z3r x3 x8 x9 x10 b0 = some r :=
 pick_of (fun _ _ ha hb => RRun.uniq (Zct) (ha .ex .ex .ex) (hb .ex .ex .ex)) (fun ox8 z1e z12 => ZcT x3 x8 x9 x10 b0 ox8 z1e z12 r h)
noncomputable def Z70  : Option (Int) :=
 some (0)
theorem ZcC  : Sim (Z6h) (Z70) (Zgr 0  []) := by
 unfold Z70
 refine zf (Zjh ..) ?_
 refine ze ?_
 exact zr ((iv 0), []) ⟨_, rfl⟩
noncomputable def Z8G (x0 : ZC) : Option (Int) :=
 (Z2Q x0.Root).bind fun r1 =>
 if ((!r1)) = true then
 (some (27))
 else
 ((Z2e x0.Root).bind fun r2 =>
 if ((decide (2000 < (IntKind.i64.wrap (r2 + 3))))) = true then
 (some (28))
 else
 (Z70))
theorem ZdJ (x0 : ZC) (z2y : Own) (z2k : Own) : Sim (Z6h) (Z8G x0) (EE 26 [(.p (.agg (Z1w x0 z2y z2k)))] []) := by
 unfold Z8G
 refine zf (Zk4 ..) ?_
 refine ze ?_
 refine zx (.ptr 0 0) [(ZA x0 z2y z2k)] ?_
 refine ze ?_
 refine zo (.ptr 0 0) ?_
 refine zo (.p (.agg (Zz x0.Root (shrO z2y) (shrO z2k)))) ?_
 refine zi fun r1 hr1 => ?_
 obtain ⟨qr1, er1, exr1, rfl⟩ := Z9Z (x0.Root) .sh .sh r1 hr1
 refine zc [] (bv r1) [(ZA x0 z2y z2k)] er1 ?_
 refine zo (bv (!r1)) ?_
 refine za ((!r1)) ?_ ?_
 ·refine ze ?_
  exact zr ((iv 27), [(ZA x0 z2y z2k)]) ⟨_, rfl⟩
 ·refine ze ?_
  refine zo (.ptr 0 0) ?_
  refine zo (.p (.agg (Zz x0.Root (shrO z2y) (shrO z2k)))) ?_
  refine zi fun r2 hr2 => ?_
  obtain ⟨qr2, er2, exr2, rfl⟩ := Z7i (x0.Root) .sh .sh r2 hr2
  refine zc [] (iv r2) [(ZA x0 z2y z2k)] er2 ?_
  refine zo (iv (IntKind.i64.wrap (r2 + 3))) ?_
  refine zo (bv (decide (2000 < (IntKind.i64.wrap (r2 + 3))))) ?_
  refine za ((decide (2000 < (IntKind.i64.wrap (r2 + 3))))) ?_ ?_
  ·refine ze ?_
   exact zr ((iv 28), [(ZA x0 z2y z2k)]) ⟨_, rfl⟩
  ·exact zk (ZcC )
theorem ZdM (x0 : ZC) {r} (h : Z8G x0 = some r) : Z75 x0 = some r :=
 pick_of (fun _ _ ha hb => RRun.uniq (Zeg) (ha .ex .ex) (hb .ex .ex)) (fun z2y z2k => ZdJ x0 z2y z2k r h)
noncomputable def Z5q  : Option (Bool) :=
 some (false)
theorem Z8E  : Sim (Z4b) (Z5q) (Zec 0  []) := by
 unfold Z5q
 refine zf (Zji ..) ?_
 refine ze ?_
 exact zr ((bv false), []) ⟨_, rfl⟩
noncomputable def Z2t (b0 : Z3) : Option (Bool) :=
 (Z3v b0.Kids).bind fun r1 =>
 some ((!r1))
theorem Z6t (b0 : Z3) (z1e : Own) (z12 : Own) : Sim (Z4b) (Z2t b0) (Zd4 0 (.ptr 0 0) [(Zo b0 z1e z12)]) := by
 unfold Z2t
 refine zf (Zi3 ..) ?_
 refine ze ?_
 refine zo (.ptr 0 6) ?_
 refine zo (.p (.lst (shrO z12) (b0.Kids.map ZD))) ?_
 refine zi fun r1 hr1 => ?_
 obtain ⟨qr1, er1, exr1, rfl⟩ := Z8o (b0.Kids) .sh r1 hr1
 refine zc [] (bv r1) [(Zo b0 z1e z12)] er1 ?_
 refine zo (bv (!r1)) ?_
 exact zr ((bv (!r1)), [(Zo b0 z1e z12)]) ⟨_, rfl⟩
noncomputable def Z5p (b0 : Z3) : Option (Bool) :=
 (lget b0.Kids 0).bind fun a1 =>
 (Z1r a1).bind fun r2 =>
 if ((decide (r2.2 < 0))) = true then
 (Z5q)
 else
 (if ((decide (32 < r2.2))) = true then
 (Z5q)
 else
 (Z2t b0))
theorem ZbJ (b0 : Z3) (z1e : Own) (z12 : Own) : Sim (Z4b) (Z5p b0) (Zfs 0 (.ptr 0 0) [(Zo b0 z1e z12)]) := by
 unfold Z5p
 refine zf (Zil ..) ?_
 refine ze ?_
 refine zo (.ptr 0 6) ?_
 refine zo (.p (.lst (shrO z12) (b0.Kids.map ZD))) ?_
 refine zi fun a1 ha1 => ?_
 refine zo (.cptr (Zz a1 .sh .sh)) ?_ (Eq.trans (by kernel_rfl) (xidx_of (o := (shrO z12)) (k := .i64) (n := 7) (e := ZD) (cs := Z1T) Z40 (fun _ => rfl) (by decide) ha1))
 refine zo (.p (.agg (Zz a1 .sh .sh))) ?_
 refine zi fun r2 hr2 => ?_
 obtain ⟨qr2, er2, exr2, rfl⟩ := Z3N (a1) .sh .sh r2 hr2
 refine zc [] (.p (.tup [(.v (.int .i64 r2.1)), (.v (.int .i64 r2.2))])) [(Zo b0 z1e z12)] er2 ?_
 refine zo (iv r2.1) ?_
 refine zo (iv r2.2) ?_
 refine ze ?_
 refine zo (bv (decide (r2.2 < 0))) ?_
 refine za ((decide (r2.2 < 0))) ?_ ?_
 ·exact zk (Z8E )
 ·refine zo (bv (decide (32 < r2.2))) ?_
  refine za ((decide (32 < r2.2))) ?_ ?_
  ·exact zk (Z8E )
  ·exact zk (Z6t (b0) z1e z12)
noncomputable def Z7f (x0 : Z3) : Option (Bool) :=
 if ((x0.Kind == 7)) = true then
 (if ((decide (2 ≤ x0.Mode))) = true then
 (Z5p x0)
 else
 (Z2t x0))
 else
 (Z2t x0)
theorem ZcV (x0 : Z3) (z1d : Own) (zY : Own) : Sim (Z4b) (Z7f x0) (EE 34 [(.p (.agg (Zz x0 z1d zY)))] []) := by
 unfold Z7f
 refine zf (ZjT ..) ?_
 refine ze ?_
 refine zx (.ptr 0 0) [(Zo x0 z1d zY)] ?_
 refine ze ?_
 refine zo (.ptr 0 0) ?_
 refine zo (iv x0.Kind) ?_
 refine zo (bv (x0.Kind == 7)) ?_
 refine za ((x0.Kind == 7)) ?_ ?_
 ·refine zo (.ptr 0 3) ?_
  refine zo (iv x0.Mode) ?_
  refine zo (bv (decide (2 ≤ x0.Mode))) ?_
  refine za ((decide (2 ≤ x0.Mode))) ?_ ?_
  ·exact zk (ZbJ (x0) z1d zY)
  ·exact zk (Z6t (x0) z1d zY)
 ·exact zk (Z6t (x0) z1d zY)
theorem Zd2 (x0 : Z3) {r} (h : Z7f x0 = some r) : Z2Q x0 = some r :=
 pick_of (fun _ _ ha hb => RRun.uniq (ZdB) (ha .ex .ex) (hb .ex .ex)) (fun z1d zY => ZcV x0 z1d zY r h)
noncomputable def Z3q (x0 : List Z3) : Option (Bool) :=
 (Z4c x0).bind fun r1 =>
 some ((decide (0 ≤ r1)))
theorem Z8c (x0 : List Z3) (ox0 : Own) : Sim (Z2T) (Z3q x0) (EE 39 [(.p (.lst ox0 (x0.map ZD))), (.clo 40 [] [])] []) := by
 unfold Z3q
 refine zf (ZkP ..) ?_
 refine ze ?_
 refine ze ?_
 refine zi fun r1 hr1 => ?_
 obtain ⟨qr1, er1, exr1, rfl⟩ := Z9t (x0) .sh r1 hr1
 refine zc [] (iv r1) [] er1 ?_
 refine zo (bv (decide (0 ≤ r1))) ?_
 exact zr ((bv (decide (0 ≤ r1))), []) ⟨_, rfl⟩
theorem Z8s (x0 : List Z3) {r} (h : Z3q x0 = some r) : Z3v x0 = some r :=
 pick_of (fun _ _ ha hb => RRun.uniq (Z8Y) (ha .ex) (hb .ex)) (fun ox0 => Z8c x0 ox0 r h)
noncomputable def Z4d (x0 : List Z3) : Option (Int) :=
 Z2R x0 ((x0.length : Int)) 0
theorem Z9c (x0 : List Z3) (ox0 : Own) : Sim (Z1s) (Z4d x0) (EE 44 [(.p (.lst ox0 (x0.map ZD))), (.clo 40 [] [])] []) := by
 unfold Z4d
 refine zf (ZjQ ..) ?_
 refine ze ?_
 refine ze ?_
 refine zo (iv (x0.length : Int)) ?_ (Eq.trans (by kernel_rfl) (xlen_of (P := PP) (t := 25) (d := 27) (by kernel_rfl) ZD (shrO ox0) x0))
 exact zk (Z5S (x0) ((x0.length : Int)) (0) ox0)
theorem Z9i (x0 : List Z3) {r} (h : Z4d x0 = some r) : Z4c x0 = some r :=
 pick_of (fun _ _ ha hb => RRun.uniq (Z6x) (ha .ex) (hb .ex)) (fun ox0 => Z9c x0 ox0 r h)
noncomputable def Z3u (x0 : List Z3) (x7 : Int) (x8 : Int) : Option (Int) :=
 Z2R x0 x7 ((IntKind.i64.wrap (x8 + 1)))
theorem Z8d (x0 : List Z3) (x7 : Int) (x8 : Int) (ox0 : Own) : Sim (Z1s) (Z3u x0 x7 x8) (ZgK 0 (.p (.lst ox0 (x0.map ZD))) (.clo 40 [] []) (iv x7) (iv x8) []) := by
 unfold Z3u
 refine zf (ZiH ..) ?_
 refine ze ?_
 refine zo (iv (IntKind.i64.wrap (x8 + 1))) ?_
 exact zk (Z5S (x0) (x7) ((IntKind.i64.wrap (x8 + 1))) ox0)
noncomputable def Z2S (x0 : List Z3) (x7 : Int) (x8 : Int) : Option (Int) :=
 (lget x0 x8).bind fun a1 =>
 (Z6B a1).bind fun r2 =>
 if (r2) = true then
 (some (x8))
 else
 (Z3u x0 x7 x8)
theorem Z8g (x0 : List Z3) (x7 : Int) (x8 : Int) (ox0 : Own) : Sim (Z1s) (Z2S x0 x7 x8) (ZfT 0 (.p (.lst ox0 (x0.map ZD))) (.clo 40 [] []) (iv x7) (iv x8) []) := by
 unfold Z2S
 refine zf (Ziq ..) ?_
 refine ze ?_
 refine ze ?_
 refine zi fun a1 ha1 => ?_
 refine zo (.cptr (Zz a1 .sh .sh)) ?_ (Eq.trans (by kernel_rfl) (xidx_of (o := (shrO ox0)) (k := .i64) (n := 7) (e := ZD) (cs := Z1T) Z40 (fun _ => rfl) (by decide) ha1))
 refine zo (.p (.agg (Zz a1 .sh .sh))) ?_
 refine zi fun r2 hr2 => ?_
 obtain ⟨qr2, er2, exr2, rfl⟩ := ZcE (a1) .sh .sh r2 hr2
 refine zv [] (bv r2) [] er2 ?_
 refine za (r2) ?_ ?_
 ·refine ze ?_
  exact zr ((iv x8), []) ⟨_, rfl⟩
 ·exact zk (Z8d (x0) (x7) (x8) ox0)
noncomputable def Z4M  : Option (Int) :=
 some ((-1))
theorem Z8e  : Sim (Z1s) (Z4M) (Zga 0  []) := by
 unfold Z4M
 refine zf (Ziy ..) ?_
 refine ze ?_
 exact zr ((iv (-1)), []) ⟨_, rfl⟩
noncomputable def Z2h (x0 : List Z3) (x7 : Int) (x8 : Int) : Option (Int) :=
 if ((decide (x8 < x7))) = true then
 (Z2S x0 x7 x8)
 else
 (Z4M)
theorem Z8j (x0 : List Z3) (x7 : Int) (x8 : Int) (ox0 : Own) : Sim (Z1s) (Z2h x0 x7 x8) (Zc2 0 (.p (.lst ox0 (x0.map ZD))) (.clo 40 [] []) (iv x7) (iv x8) []) := by
 unfold Z2h
 refine zf (ZiK ..) ?_
 refine ze ?_
 refine zo (bv (decide (x8 < x7))) ?_
 refine za ((decide (x8 < x7))) ?_ ?_
 ·exact zk (Z8g (x0) (x7) (x8) ox0)
 ·exact zk (Z8e )
theorem Z4l (x0 : List Z3) (x7 : Int) (x8 : Int) {r} (h : Z2h x0 x7 x8 = some r) : Z2R x0 x7 x8 = some r :=
 pick_of (fun _ _ ha hb => RRun.uniq (Z6x) (ha .ex) (hb .ex)) (fun ox0 => Z8j x0 x7 x8 ox0 r h)
noncomputable def Z6z (x0 : Z3) : Option (Bool) :=
 (Z2Q x0).bind fun r1 =>
 some ((!r1))
theorem Zcm (x0 : Z3) (z1d : Own) (zY : Own) : Sim (Z5D) (Z6z x0) (EE 40 [(.p (.agg (Zz x0 z1d zY)))] []) := by
 unfold Z6z
 refine zf (ZkR ..) ?_
 refine ze ?_
 refine zx (.ptr 0 0) [(Zo x0 z1d zY)] ?_
 refine ze ?_
 refine zo (.p (.agg (Zz x0 (shrO z1d) (shrO zY)))) ?_
 refine zi fun r1 hr1 => ?_
 obtain ⟨qr1, er1, exr1, rfl⟩ := Z9Z (x0) .sh .sh r1 hr1
 refine zc [] (bv r1) [(Zo x0 z1d zY)] er1 ?_
 refine zo (bv (!r1)) ?_
 exact zr ((bv (!r1)), [(Zo x0 z1d zY)]) ⟨_, rfl⟩
theorem ZcB (x0 : Z3) {r} (h : Z6z x0 = some r) : Z6B x0 = some r :=
 pick_of (fun _ _ ha hb => RRun.uniq (ZcW) (ha .ex .ex) (hb .ex .ex)) (fun z1d zY => Zcm x0 z1d zY r h)
end Go.Proofs.YtadodmjdkphddaaDoor.N2
end
