/- More of the functions' typed texts. No condition. -/
import Derived.Test.YtadodmjdkphddaaDoorTypA

section
set_option linter.unusedSimpArgs false
set_option linter.unusedVariables false
namespace Go.Proofs.YtadodmjdkphddaaDoor.N2
open Go Go.Abs
set_option linter.unusedVariables false
set_option maxRecDepth 100000
noncomputable def Z5l (x0 : List Z8) (zZ : List Z8) : Option ((List Z8)) :=
 (Z83 zZ x0).bind fun r1 =>
 some (r1.1)
theorem Zac (x0 : List Z8) (zZ : List Z8) (ox0 : Own) (z9N : Own) : Sim (Z4g) (Z5l x0 zZ) (EE 58 [(.p (.lst ox0 (x0.map Zv))), (.ptr 0 0)] [[(.p (.lst z9N (zZ.map Zv)))]]) := by
 unfold Z5l
 refine zf (ZkB ..) ?_
 refine ze ?_
 refine zo (.p (.lst (shrO z9N) (zZ.map Zv))) ?_
 refine zi fun r1 hr1 => ?_
 obtain ⟨qr1, er1, exr1, rfl⟩ := ZdD (zZ) (x0) .sh .sh r1 hr1
 refine zc [] (.p (.tup [(.lst .sh (r1.1.map Zv)), (.v (.int .i64 r1.2))])) [[(.p (.lst z9N (zZ.map Zv)))]] er1 ?_
 refine zo (.p (.lst .sh (r1.1.map Zv))) ?_
 refine zo (iv r1.2) ?_
 refine zt [[(.p (.lst .sh (r1.1.map Zv)))]] ?_
 exact zr ((.p (.tup [])), [[(.p (.lst .sh (r1.1.map Zv)))]]) ⟨.sh, _, rfl⟩
theorem Zax (x0 : List Z8) (zZ : List Z8) {r} (h : Z5l x0 zZ = some r) : Z4h x0 zZ = some r :=
 pick_of (fun _ _ ha hb => RRun.uniq (ZaW) (ha .ex .ex) (hb .ex .ex)) (fun ox0 z9N => Zac x0 zZ ox0 z9N r h)
noncomputable def Z6C  : Option ((List Z8) × Int) :=
 some (([] : List Z8), 10)
theorem Z8P  : Sim (Z5c) (Z6C) (ZdW 0  []) := by
 unfold Z6C
 refine zf (Zik ..) ?_
 refine ze ?_
 exact zr ((.p (.tup [(.lst .sh []), (.v (.int .i64 10))])), []) ⟨_, rfl⟩
noncomputable def Z6B (x0 : List Z8) (x1 : List Z8) : Option ((List Z8) × Int) :=
 (Z6Q (([x0, x1] : List (List Z8)))).bind fun r1 =>
 (Z7T r1).bind fun r2 =>
 some (r2, 0)
theorem Zc7 (x0 : List Z8) (x1 : List Z8) (ox0 : Own) (ox1 : Own) : Sim (Z5c) (Z6B x0 x1) (ZfK 0 (.p (.lst ox0 (x0.map Zv))) (.p (.lst ox1 (x1.map Zv))) []) := by
 unfold Z6B
 refine zf (Zi0 ..) ?_
 refine ze ?_
 refine zo (.p (.lst .ex (([x0, x1] : List (List Z8)).map (eL Zv)))) ?_
 refine zi fun r1 hr1 => ?_
 obtain ⟨qr1, er1, exr1, rfl⟩ := ZaU (([x0, x1] : List (List Z8))) .sh r1 hr1
 refine zc [] (.p (.lst .sh (r1.map Zv))) [] er1 ?_
 refine zi fun r2 hr2 => ?_
 obtain ⟨qr2, er2, exr2, rfl⟩ := Zaf (r1) .sh r2 hr2
 refine zc [] (.p (.lst .sh (r2.map Zv))) [] er2 ?_
 exact zr ((.p (.tup [(.lst .sh (r2.map Zv)), (.v (.int .i64 0))])), []) ⟨_, rfl⟩
noncomputable def Z7Z (x0 : List Z8) (x1 : List Z8) : Option ((List Z8) × Int) :=
 (Z4B x0).bind fun r1 =>
 if ((!r1)) = true then
 (Z6C)
 else
 ((Z4B x1).bind fun r2 =>
 if ((!r2)) = true then
 (Z6C)
 else
 (Z6B x0 x1))
theorem Zd4 (x0 : List Z8) (x1 : List Z8) (ox0 : Own) (ox1 : Own) : Sim (Z5c) (Z7Z x0 x1) (EE 59 [(.p (.lst ox0 (x0.map Zv))), (.p (.lst ox1 (x1.map Zv)))] []) := by
 unfold Z7Z
 refine zf (Zkn ..) ?_
 refine ze ?_
 refine ze ?_
 refine zi fun r1 hr1 => ?_
 obtain ⟨qr1, er1, exr1, rfl⟩ := Z6H (x0) .sh r1 hr1
 refine zc [] (bv r1) [] er1 ?_
 refine zo (bv (!r1)) ?_
 refine za ((!r1)) ?_ ?_
 ·exact zk (Z8P )
 ·refine zi fun r2 hr2 => ?_
  obtain ⟨qr2, er2, exr2, rfl⟩ := Z6H (x1) .sh r2 hr2
  refine zc [] (bv r2) [] er2 ?_
  refine zo (bv (!r2)) ?_
  refine za ((!r2)) ?_ ?_
  ·exact zk (Z8P )
  ·exact zk (Zc7 (x0) (x1) ox0 ox1)
theorem ZdB (x0 : List Z8) (x1 : List Z8) {r} (h : Z7Z x0 x1 = some r) : Z83 x0 x1 = some r :=
 pick_of (fun _ _ ha hb => RRun.uniq (ZdP) (ha .ex .ex) (hb .ex .ex)) (fun ox0 ox1 => Zd4 x0 x1 ox0 ox1 r h)
noncomputable def Z3M (zp : Int) (z7 : Int) (zd : Int) (zh : List Zq) (z2 : Int) (z6 : Int) (z17 : Int) (z1G : Int) (z1H : Int) (z1a : Int) (z1l : Int) (z1m : List Z8) (b2 : Z3) : Option (Z3 × Bool × Int × Int × Int × (List Zq) × Int × Int) :=
 some ((Z3.mk z17 z1G z1H z1a z1l z1m ([b2] : List Z3)), (z17 != 7), zp, z7, zd, zh, z2, z6)
theorem Z9G (zl : List Int) (zp : Int) (z7 : Int) (zd : Int) (zh : List Zq) (z2 : Int) (z6 : Int) (z17 : Int) (z1G : Int) (z1H : Int) (z1a : Int) (z1l : Int) (z1m : List Z8) (z23 : List Z3) (b2 : Z3) (zn : Own) (zb : Own) (zB : Own) (zy : Own) (z1J : Own) (z1z : Own) (zu : okApp zb = true) (zP : okApp zB = true) (zJ : okApp zy = true) : Sim (Z2d zl zn) (Z3M zp z7 zd zh z2 z6 z17 z1G z1H z1a z1l z1m b2) (ZeA 1 (.ptr 1 0) (.ptr 2 0) [(Zi (Zk.mk zl zp z7 zd zh (Zj.mk z2 z6)) zn zb), (Zo (Z3.mk z17 z1G z1H z1a z1l z1m z23) zB zy), (Zo b2 z1J z1z)]) := by
 unfold Z3M
 refine zf (Zhc ..) ?_
 refine ze ?_
 refine zo (.p (.agg (Zz b2 (shrO z1J) (shrO z1z)))) ?_
 refine zo (.p (.lst .ex (([b2] : List Z3).map ZD))) ?_ (Eq.trans (b := some (.p (.lst .ex [.agg (Z1T b2)]))) (by kernel_rfl) (by simp only [List.map_cons, List.map_nil, Z3f]))
 refine zo (.ptr 1 6) ?_
 refine zt [(Zi (Zk.mk zl zp z7 zd zh (Zj.mk z2 z6)) zn zb), (Zo (Z3.mk z17 z1G z1H z1a z1l z1m ([b2] : List Z3)) zB .ex), (Zo b2 z1J z1z)] ?_
 refine ze ?_
 refine zo (.p (.agg (Zz (Z3.mk z17 z1G z1H z1a z1l z1m ([b2] : List Z3)) (shrO zB) .ex))) ?_
 refine zo (.ptr 1 0) ?_
 refine zo (iv z17) ?_
 refine zo (bv (z17 != 7)) ?_
 refine zt [(Zi (Zk.mk zl zp z7 zd zh (Zj.mk z2 z6)) zn zb), (Zo (Z3.mk z17 z1G z1H z1a z1l z1m ([b2] : List Z3)) (shrO zB) .ex), (Zo b2 z1J z1z)] ?_
 exact zr ((.p (.tup [(.agg (Zz (Z3.mk z17 z1G z1H z1a z1l z1m ([b2] : List Z3)) .sh .sh)), (.v (.bool (z17 != 7)))])), [(Zi (Zk.mk zl zp z7 zd zh (Zj.mk z2 z6)) zn zb), (Zo (Z3.mk z17 z1G z1H z1a z1l z1m ([b2] : List Z3)) (shrO zB) .ex), (Zo b2 z1J z1z)]) ⟨zb, _, zu, rfl⟩
noncomputable def Z1W (zp : Int) (z7 : Int) (zd : Int) (zh : List Zq) (z2 : Int) (z6 : Int) (z17 : Int) (z1G : Int) (z1H : Int) (z1a : Int) (z1l : Int) (z1m : List Z8) (b2 : Z3) : Option (Z3 × Bool × Int × Int × Int × (List Zq) × Int × Int) :=
 if ((z17 == 0)) = true then
 (some (b2, true, zp, z7, (IntKind.i64.wrap (zd - 1)), zh, z2, z6))
 else
 (Z3M zp z7 ((IntKind.i64.wrap (zd - 1))) zh z2 z6 z17 z1G z1H z1a z1l z1m b2)
theorem Z57 (zl : List Int) (zp : Int) (z7 : Int) (zd : Int) (zh : List Zq) (z2 : Int) (z6 : Int) (z17 : Int) (z1G : Int) (z1H : Int) (z1a : Int) (z1l : Int) (z1m : List Z8) (z23 : List Z3) (b2 : Z3) (zn : Own) (zb : Own) (zB : Own) (zy : Own) (z1J : Own) (z1z : Own) (zu : okApp zb = true) (zP : okApp zB = true) (zJ : okApp zy = true) : Sim (Z2d zl zn) (Z1W zp z7 zd zh z2 z6 z17 z1G z1H z1a z1l z1m b2) (Zcg 1 (.ptr 0 0) (.ptr 1 0) (.ptr 2 0) [(Zi (Zk.mk zl zp z7 zd zh (Zj.mk z2 z6)) zn zb), (Zo (Z3.mk z17 z1G z1H z1a z1l z1m z23) zB zy), (Zo b2 z1J z1z)]) := by
 unfold Z1W
 refine zf (Zhg ..) ?_
 refine ze ?_
 refine zo (.ptr 0 0) ?_
 refine zo (.ptr 0 3) ?_
 refine zo (iv zd) ?_
 refine zo (iv (IntKind.i64.wrap (zd - 1))) ?_
 refine zo (.ptr 0 0) ?_
 refine zo (.ptr 0 3) ?_
 refine zt [(Zi (Zk.mk zl zp z7 (IntKind.i64.wrap (zd - 1)) zh (Zj.mk z2 z6)) zn zb), (Zo (Z3.mk z17 z1G z1H z1a z1l z1m z23) zB zy), (Zo b2 z1J z1z)] ?_
 refine ze ?_
 refine zo (.ptr 1 0) ?_
 refine zo (iv z17) ?_
 refine zo (bv (z17 == 0)) ?_
 refine za ((z17 == 0)) ?_ ?_
 ·refine ze ?_
  refine zo (.p (.agg (Zz b2 (shrO z1J) (shrO z1z)))) ?_
  refine zt [(Zi (Zk.mk zl zp z7 (IntKind.i64.wrap (zd - 1)) zh (Zj.mk z2 z6)) zn zb), (Zo b2 (shrO z1J) (shrO z1z)), (Zo b2 z1J z1z)] ?_
  exact zr ((.p (.tup [(.agg (Zz b2 .sh .sh)), (.v (.bool true))])), [(Zi (Zk.mk zl zp z7 (IntKind.i64.wrap (zd - 1)) zh (Zj.mk z2 z6)) zn zb), (Zo b2 (shrO z1J) (shrO z1z)), (Zo b2 z1J z1z)]) ⟨zb, _, zu, rfl⟩
 ·exact zk (Z9G (zl) (zp) (z7) ((IntKind.i64.wrap (zd - 1))) (zh) (z2) (z6) (z17) (z1G) (z1H) (z1a) (z1l) (z1m) (z23) (b2) zn zb zB zy z1J z1z zu zP zJ)
noncomputable def Z4U (x1 : Int) (zl : List Int) (z7 : Int) (zd : Int) (zh : List Zq) (z2 : Int) (z6 : Int) (z17 : Int) (z1G : Int) (z1H : Int) (z1a : Int) (z1l : Int) (z1m : List Z8) (b2 : Z3) : Option (Z3 × Bool × Int × Int × Int × (List Zq) × Int × Int) :=
 (ZS 20 x1 zl z2 z6).bind fun r1 =>
 Z1W r1.1 z7 zd zh r1.2.1 r1.2.2 z17 z1G z1H z1a z1l z1m b2
theorem Z9y (x1 : Int) (zl : List Int) (zp : Int) (z7 : Int) (zd : Int) (zh : List Zq) (z2 : Int) (z6 : Int) (z17 : Int) (z1G : Int) (z1H : Int) (z1a : Int) (z1l : Int) (z1m : List Z8) (z23 : List Z3) (b2 : Z3) (zn : Own) (zb : Own) (zB : Own) (zy : Own) (z1J : Own) (z1z : Own) (zu : okApp zb = true) (zP : okApp zB = true) (zJ : okApp zy = true) : Sim (Z2d zl zn) (Z4U x1 zl z7 zd zh z2 z6 z17 z1G z1H z1a z1l z1m b2) (ZeR 1 (.ptr 0 0) (iv x1) (.ptr 1 0) (.ptr 2 0) [(Zi (Zk.mk zl zp z7 zd zh (Zj.mk z2 z6)) zn zb), (Zo (Z3.mk z17 z1G z1H z1a z1l z1m z23) zB zy), (Zo b2 z1J z1z)]) := by
 unfold Z4U
 refine zf (ZgV ..) ?_
 refine ze ?_
 refine zi fun r1 hr1 => ?_
 obtain ⟨qr1, er1, exr1, rfl⟩ := ZV (20) (x1) (zl) (zp) (z7) (zd) (zh) (z2) (z6) zn zb zu r1 hr1
 refine zc [0] (.p (.tup [])) [(Zi (Zk.mk zl r1.1 z7 zd zh (Zj.mk r1.2.1 r1.2.2)) zn zb), (Zo (Z3.mk z17 z1G z1H z1a z1l z1m z23) zB zy), (Zo b2 z1J z1z)] er1 ?_
 exact zk (Z57 (zl) (r1.1) (z7) (zd) (zh) (r1.2.1) (r1.2.2) (z17) (z1G) (z1H) (z1a) (z1l) (z1m) (z23) (b2) zn zb zB zy z1J z1z zu zP zJ)
noncomputable def Z1y (x1 : Int) (zl : List Int) (zp : Int) (z7 : Int) (zd : Int) (zh : List Zq) (z2 : Int) (z6 : Int) (z17 : Int) (z1G : Int) (z1H : Int) (z1a : Int) (z1l : Int) (z1m : List Z8) : Option (Z3 × Bool × Int × Int × Int × (List Zq) × Int × Int) :=
 (Z2Y zl zp z7 zd zh z2 z6).bind fun r1 =>
 if ((r1.2.2.2.2.2.1 == 0)) = true then
 ((Z16 ((ByteArray.mk #[41])) zl r1.2.1).bind fun r2 =>
 if ((!r2.1)) = true then
 (Z4U x1 zl r1.2.2.1 r1.2.2.2.1 r1.2.2.2.2.1 r1.2.2.2.2.2.1 r1.2.2.2.2.2.2 z17 z1G z1H z1a z1l z1m r1.1)
 else
 (Z1W r2.2 r1.2.2.1 r1.2.2.2.1 r1.2.2.2.2.1 r1.2.2.2.2.2.1 r1.2.2.2.2.2.2 z17 z1G z1H z1a z1l z1m r1.1))
 else
 (Z1W r1.2.1 r1.2.2.1 r1.2.2.2.1 r1.2.2.2.2.1 r1.2.2.2.2.2.1 r1.2.2.2.2.2.2 z17 z1G z1H z1a z1l z1m r1.1)
theorem Z2z (x1 : Int) (zl : List Int) (zp : Int) (z7 : Int) (zd : Int) (zh : List Zq) (z2 : Int) (z6 : Int) (z17 : Int) (z1G : Int) (z1H : Int) (z1a : Int) (z1l : Int) (z1m : List Z8) (z23 : List Z3) (zn : Own) (zb : Own) (zB : Own) (zy : Own) (zu : okApp zb = true) (zP : okApp zB = true) (zJ : okApp zy = true) : Sim (Z2d zl zn) (Z1y x1 zl zp z7 zd zh z2 z6 z17 z1G z1H z1a z1l z1m) (Z8Z 1 (.ptr 0 0) (iv x1) (.ptr 1 0) [(Zi (Zk.mk zl zp z7 zd zh (Zj.mk z2 z6)) zn zb), (Zo (Z3.mk z17 z1G z1H z1a z1l z1m z23) zB zy)]) := by
 unfold Z1y
 refine zf (Zht ..) ?_
 refine ze ?_
 refine zi fun r1 hr1 => ?_
 obtain ⟨qr1, er1, or1_0_4, exr1, hor1_0_4, rfl⟩ := Z8V (zl) (zp) (z7) (zd) (zh) (z2) (z6) zn zb zu r1 hr1
 refine zc [0] (.p (.agg (Zz r1.1 .sh .sh))) [(Zi (Zk.mk zl r1.2.1 r1.2.2.1 r1.2.2.2.1 r1.2.2.2.2.1 (Zj.mk r1.2.2.2.2.2.1 r1.2.2.2.2.2.2)) zn or1_0_4), (Zo (Z3.mk z17 z1G z1H z1a z1l z1m z23) zB zy)] er1 ?_
 refine zz (.ptr 2 0) [(Zi (Zk.mk zl r1.2.1 r1.2.2.1 r1.2.2.2.1 r1.2.2.2.2.1 (Zj.mk r1.2.2.2.2.2.1 r1.2.2.2.2.2.2)) zn or1_0_4), (Zo (Z3.mk z17 z1G z1H z1a z1l z1m z23) zB zy), (Zo (Z3.mk 0 0 0 0 0 ([] : List Z8) ([] : List Z3)) .nl .nl)] ?_
 refine zt [(Zi (Zk.mk zl r1.2.1 r1.2.2.1 r1.2.2.2.1 r1.2.2.2.2.1 (Zj.mk r1.2.2.2.2.2.1 r1.2.2.2.2.2.2)) zn or1_0_4), (Zo (Z3.mk z17 z1G z1H z1a z1l z1m z23) zB zy), (Zo r1.1 .sh .sh)] ?_
 refine ze ?_
 refine zo (.ptr 0 0) ?_
 refine zo (.ptr 0 5) ?_
 refine zo (.ptr 0 5) ?_
 refine zo (iv r1.2.2.2.2.2.1) ?_
 refine zo (bv (r1.2.2.2.2.2.1 == 0)) ?_
 refine za ((r1.2.2.2.2.2.1 == 0)) ?_ ?_
 ·refine zi fun r2 hr2 => ?_
  obtain ⟨qr2, er2, exr2, rfl⟩ := Z1b ((ByteArray.mk #[41])) (zl) (r1.2.1) (r1.2.2.1) (r1.2.2.2.1) (r1.2.2.2.2.1) (r1.2.2.2.2.2.1) (r1.2.2.2.2.2.2) zn or1_0_4 hor1_0_4 r2 hr2
  refine zc [0] (bv r2.1) [(Zi (Zk.mk zl r2.2 r1.2.2.1 r1.2.2.2.1 r1.2.2.2.2.1 (Zj.mk r1.2.2.2.2.2.1 r1.2.2.2.2.2.2)) zn or1_0_4), (Zo (Z3.mk z17 z1G z1H z1a z1l z1m z23) zB zy), (Zo r1.1 .sh .sh)] er2 ?_
  refine zo (bv (!r2.1)) ?_
  refine za ((!r2.1)) ?_ ?_
  ·exact zk (Z9y (x1) (zl) (r2.2) (r1.2.2.1) (r1.2.2.2.1) (r1.2.2.2.2.1) (r1.2.2.2.2.2.1) (r1.2.2.2.2.2.2) (z17) (z1G) (z1H) (z1a) (z1l) (z1m) (z23) (r1.1) zn or1_0_4 zB zy .sh .sh hor1_0_4 zP zJ)
  ·exact zk (Z57 (zl) (r2.2) (r1.2.2.1) (r1.2.2.2.1) (r1.2.2.2.2.1) (r1.2.2.2.2.2.1) (r1.2.2.2.2.2.2) (z17) (z1G) (z1H) (z1a) (z1l) (z1m) (z23) (r1.1) zn or1_0_4 zB zy .sh .sh hor1_0_4 zP zJ)
 ·exact zk (Z57 (zl) (r1.2.1) (r1.2.2.1) (r1.2.2.2.1) (r1.2.2.2.2.1) (r1.2.2.2.2.2.1) (r1.2.2.2.2.2.2) (z17) (z1G) (z1H) (z1a) (z1l) (z1m) (z23) (r1.1) zn or1_0_4 zB zy .sh .sh hor1_0_4 zP zJ)
noncomputable def Z44 (x1 : Int) (zl : List Int) (zp : Int) (z7 : Int) (zd : Int) (zh : List Zq) (z2 : Int) (z6 : Int) (z17 : Int) (z1G : Int) (z1H : Int) (z1a : Int) (z1l : Int) (z1m : List Z8) : Option (Z3 × Bool × Int × Int × Int × (List Zq) × Int × Int) :=
 (Z8A).bind fun r1 =>
 (Z3H r1 zl zp).bind fun r2 =>
 if ((decide (0 ≤ r2.1))) = true then
 (Z1y x1 zl r2.2 z7 ((IntKind.i64.wrap (zd + 1))) zh z2 z6 7 0 0 r2.1 0 (([] : List Z8)))
 else
 ((Z16 ((ByteArray.mk #[63, 62])) zl r2.2).bind fun r3 =>
 if (r3.1) = true then
 (Z1y x1 zl r3.2 z7 ((IntKind.i64.wrap (zd + 1))) zh z2 z6 8 0 0 0 0 (([] : List Z8)))
 else
 ((Z16 ((ByteArray.mk #[63, 58])) zl r3.2).bind fun r4 =>
 if (r4.1) = true then
 (Z1y x1 zl r4.2 z7 ((IntKind.i64.wrap (zd + 1))) zh z2 z6 z17 z1G z1H z1a z1l z1m)
 else
 ((Z1F ((Zk.mk zl r4.2 z7 (IntKind.i64.wrap (zd + 1)) zh (Zj.mk z2 z6)))).bind fun r5 =>
 if ((r5 == 63)) = true then
 ((ZS 20 x1 zl z2 z6).bind fun r6 =>
 Z1y x1 zl r6.1 z7 ((IntKind.i64.wrap (zd + 1))) zh r6.2.1 r6.2.2 z17 z1G z1H z1a z1l z1m)
 else
 (if ((z7 == 9)) = true then
 ((ZS 24 x1 zl z2 z6).bind fun r7 =>
 Z1y x1 zl r7.1 z7 ((IntKind.i64.wrap (zd + 1))) zh r7.2.1 r7.2.2 z17 z1G z1H z1a z1l z1m)
 else
 (Z1y x1 zl r4.2 ((IntKind.i64.wrap (z7 + 1))) ((IntKind.i64.wrap (zd + 1))) zh z2 z6 5 0 0 0 ((IntKind.i64.wrap (z7 + 1))) (([] : List Z8)))))))
theorem Za6 (x1 : Int) (zl : List Int) (zp : Int) (z7 : Int) (zd : Int) (zh : List Zq) (z2 : Int) (z6 : Int) (z17 : Int) (z1G : Int) (z1H : Int) (z1a : Int) (z1l : Int) (z1m : List Z8) (z23 : List Z3) (zn : Own) (zb : Own) (zB : Own) (zy : Own) (zu : okApp zb = true) (zP : okApp zB = true) (zJ : okApp zy = true) : Sim (Z2d zl zn) (Z44 x1 zl zp z7 zd zh z2 z6 z17 z1G z1H z1a z1l z1m) (Zfp 1 (.ptr 0 0) (iv x1) (.ptr 1 0) [(Zi (Zk.mk zl zp z7 zd zh (Zj.mk z2 z6)) zn zb), (Zo (Z3.mk z17 z1G z1H z1a z1l z1m z23) zB zy)]) := by
 unfold Z44
 refine zf (Zj5 ..) ?_
 refine ze ?_
 refine zo (.ptr 0 0) ?_
 refine zo (.ptr 0 3) ?_
 refine zo (iv zd) ?_
 refine zo (iv (IntKind.i64.wrap (zd + 1))) ?_
 refine zo (.ptr 0 0) ?_
 refine zo (.ptr 0 3) ?_
 refine zt [(Zi (Zk.mk zl zp z7 (IntKind.i64.wrap (zd + 1)) zh (Zj.mk z2 z6)) zn zb), (Zo (Z3.mk z17 z1G z1H z1a z1l z1m z23) zB zy)] ?_
 refine ze ?_
 refine zi fun r1 hr1 => ?_
 obtain ⟨qr1, er1, exr1, rfl⟩ := ZdL  r1 hr1
 refine zc [] (.p (.lst .sh (r1.map eS))) [(Zi (Zk.mk zl zp z7 (IntKind.i64.wrap (zd + 1)) zh (Zj.mk z2 z6)) zn zb), (Zo (Z3.mk z17 z1G z1H z1a z1l z1m z23) zB zy)] er1 ?_
 refine zi fun r2 hr2 => ?_
 obtain ⟨qr2, er2, exr2, rfl⟩ := Z8D (r1) (zl) (zp) (z7) ((IntKind.i64.wrap (zd + 1))) (zh) (z2) (z6) .sh zn zb zu r2 hr2
 refine zc [0] (iv r2.1) [(Zi (Zk.mk zl r2.2 z7 (IntKind.i64.wrap (zd + 1)) zh (Zj.mk z2 z6)) zn zb), (Zo (Z3.mk z17 z1G z1H z1a z1l z1m z23) zB zy)] er2 ?_
 refine ze ?_
 refine zo (bv (decide (0 ≤ r2.1))) ?_
 refine za ((decide (0 ≤ r2.1))) ?_ ?_
 ·refine ze ?_
  refine zo (.p (.agg (Zz (Z3.mk 7 0 0 r2.1 0 ([] : List Z8) ([] : List Z3)) .nl .nl))) ?_
  refine zt [(Zi (Zk.mk zl r2.2 z7 (IntKind.i64.wrap (zd + 1)) zh (Zj.mk z2 z6)) zn zb), (Zo (Z3.mk 7 0 0 r2.1 0 ([] : List Z8) ([] : List Z3)) .nl .nl)] ?_
  exact zk (Z2z (x1) (zl) (r2.2) (z7) ((IntKind.i64.wrap (zd + 1))) (zh) (z2) (z6) (7) (0) (0) (r2.1) (0) (([] : List Z8)) (([] : List Z3)) zn zb .nl .nl zu rfl rfl)
 ·refine ze ?_
  refine zi fun r3 hr3 => ?_
  obtain ⟨qr3, er3, exr3, rfl⟩ := Z1b ((ByteArray.mk #[63, 62])) (zl) (r2.2) (z7) ((IntKind.i64.wrap (zd + 1))) (zh) (z2) (z6) zn zb zu r3 hr3
  refine zc [0] (bv r3.1) [(Zi (Zk.mk zl r3.2 z7 (IntKind.i64.wrap (zd + 1)) zh (Zj.mk z2 z6)) zn zb), (Zo (Z3.mk z17 z1G z1H z1a z1l z1m z23) zB zy)] er3 ?_
  refine za (r3.1) ?_ ?_
  ·refine ze ?_
   refine zo (.p (.agg (Zz (Z3.mk 8 0 0 0 0 ([] : List Z8) ([] : List Z3)) .nl .nl))) ?_
   refine zt [(Zi (Zk.mk zl r3.2 z7 (IntKind.i64.wrap (zd + 1)) zh (Zj.mk z2 z6)) zn zb), (Zo (Z3.mk 8 0 0 0 0 ([] : List Z8) ([] : List Z3)) .nl .nl)] ?_
   exact zk (Z2z (x1) (zl) (r3.2) (z7) ((IntKind.i64.wrap (zd + 1))) (zh) (z2) (z6) (8) (0) (0) (0) (0) (([] : List Z8)) (([] : List Z3)) zn zb .nl .nl zu rfl rfl)
  ·refine ze ?_
   refine zi fun r4 hr4 => ?_
   obtain ⟨qr4, er4, exr4, rfl⟩ := Z1b ((ByteArray.mk #[63, 58])) (zl) (r3.2) (z7) ((IntKind.i64.wrap (zd + 1))) (zh) (z2) (z6) zn zb zu r4 hr4
   refine zc [0] (bv r4.1) [(Zi (Zk.mk zl r4.2 z7 (IntKind.i64.wrap (zd + 1)) zh (Zj.mk z2 z6)) zn zb), (Zo (Z3.mk z17 z1G z1H z1a z1l z1m z23) zB zy)] er4 ?_
   refine za (r4.1) ?_ ?_
   ·exact zk (Z2z (x1) (zl) (r4.2) (z7) ((IntKind.i64.wrap (zd + 1))) (zh) (z2) (z6) (z17) (z1G) (z1H) (z1a) (z1l) (z1m) (z23) zn zb zB zy zu zP zJ)
   ·refine ze ?_
    refine zi fun r5 hr5 => ?_
    obtain ⟨qr5, er5, exr5, rfl⟩ := Z1K ((Zk.mk zl r4.2 z7 (IntKind.i64.wrap (zd + 1)) zh (Zj.mk z2 z6))) zn zb zu r5 hr5
    refine zc [0] (iv r5) [(Zi (Zk.mk zl r4.2 z7 (IntKind.i64.wrap (zd + 1)) zh (Zj.mk z2 z6)) zn zb), (Zo (Z3.mk z17 z1G z1H z1a z1l z1m z23) zB zy)] er5 ?_
    refine zo (bv (r5 == 63)) ?_
    refine za ((r5 == 63)) ?_ ?_
    ·refine ze ?_
     refine zi fun r6 hr6 => ?_
     obtain ⟨qr6, er6, exr6, rfl⟩ := ZV (20) (x1) (zl) (r4.2) (z7) ((IntKind.i64.wrap (zd + 1))) (zh) (z2) (z6) zn zb zu r6 hr6
     refine zc [0] (.p (.tup [])) [(Zi (Zk.mk zl r6.1 z7 (IntKind.i64.wrap (zd + 1)) zh (Zj.mk r6.2.1 r6.2.2)) zn zb), (Zo (Z3.mk z17 z1G z1H z1a z1l z1m z23) zB zy)] er6 ?_
     exact zk (Z2z (x1) (zl) (r6.1) (z7) ((IntKind.i64.wrap (zd + 1))) (zh) (r6.2.1) (r6.2.2) (z17) (z1G) (z1H) (z1a) (z1l) (z1m) (z23) zn zb zB zy zu zP zJ)
    ·refine ze ?_
     refine zo (.ptr 0 0) ?_
     refine zo (.ptr 0 2) ?_
     refine zo (iv z7) ?_
     refine zo (bv (z7 == 9)) ?_
     refine za ((z7 == 9)) ?_ ?_
     ·refine ze ?_
      refine zi fun r7 hr7 => ?_
      obtain ⟨qr7, er7, exr7, rfl⟩ := ZV (24) (x1) (zl) (r4.2) (z7) ((IntKind.i64.wrap (zd + 1))) (zh) (z2) (z6) zn zb zu r7 hr7
      refine zc [0] (.p (.tup [])) [(Zi (Zk.mk zl r7.1 z7 (IntKind.i64.wrap (zd + 1)) zh (Zj.mk r7.2.1 r7.2.2)) zn zb), (Zo (Z3.mk z17 z1G z1H z1a z1l z1m z23) zB zy)] er7 ?_
      exact zk (Z2z (x1) (zl) (r7.1) (z7) ((IntKind.i64.wrap (zd + 1))) (zh) (r7.2.1) (r7.2.2) (z17) (z1G) (z1H) (z1a) (z1l) (z1m) (z23) zn zb zB zy zu zP zJ)
     ·refine ze ?_
      refine zo (.ptr 0 0) ?_
      refine zo (.ptr 0 2) ?_
      refine zo (iv z7) ?_
      refine zo (iv (IntKind.i64.wrap (z7 + 1))) ?_
      refine zo (.ptr 0 0) ?_
      refine zo (.ptr 0 2) ?_
      refine zt [(Zi (Zk.mk zl r4.2 (IntKind.i64.wrap (z7 + 1)) (IntKind.i64.wrap (zd + 1)) zh (Zj.mk z2 z6)) zn zb), (Zo (Z3.mk z17 z1G z1H z1a z1l z1m z23) zB zy)] ?_
      refine ze ?_
      refine zo (.ptr 0 0) ?_
      refine zo (.ptr 0 2) ?_
      refine zo (iv (IntKind.i64.wrap (z7 + 1))) ?_
      refine zo (.p (.agg (Zz (Z3.mk 5 0 0 0 (IntKind.i64.wrap (z7 + 1)) ([] : List Z8) ([] : List Z3)) .nl .nl))) ?_
      refine zt [(Zi (Zk.mk zl r4.2 (IntKind.i64.wrap (z7 + 1)) (IntKind.i64.wrap (zd + 1)) zh (Zj.mk z2 z6)) zn zb), (Zo (Z3.mk 5 0 0 0 (IntKind.i64.wrap (z7 + 1)) ([] : List Z8) ([] : List Z3)) .nl .nl)] ?_
      exact zk (Z2z (x1) (zl) (r4.2) ((IntKind.i64.wrap (z7 + 1))) ((IntKind.i64.wrap (zd + 1))) (zh) (z2) (z6) (5) (0) (0) (0) ((IntKind.i64.wrap (z7 + 1))) (([] : List Z8)) (([] : List Z3)) zn zb .nl .nl zu rfl rfl)
noncomputable def Z3X (x1 : Int) (zl : List Int) (zp : Int) (z7 : Int) (zd : Int) (zh : List Zq) (z2 : Int) (z6 : Int) : Option (Z3 × Bool × Int × Int × Int × (List Zq) × Int × Int) :=
 if ((zd == 32)) = true then
 ((ZS 25 x1 zl z2 z6).bind fun r1 =>
 some ((Z3.mk 0 0 0 0 0 ([] : List Z8) ([] : List Z3)), true, r1.1, z7, zd, zh, r1.2.1, r1.2.2))
 else
 (Z44 x1 zl zp z7 zd zh z2 z6 0 0 0 0 0 (([] : List Z8)))
theorem ZaX (x1 : Int) (zl : List Int) (zp : Int) (z7 : Int) (zd : Int) (zh : List Zq) (z2 : Int) (z6 : Int) (zn : Own) (zb : Own) (zu : okApp zb = true) : Sim (Z2d zl zn) (Z3X x1 zl zp z7 zd zh z2 z6) (EE 51 [(.ptr 0 0), (iv x1)] [(Zi (Zk.mk zl zp z7 zd zh (Zj.mk z2 z6)) zn zb)]) := by
 unfold Z3X
 refine zf (Zkv ..) ?_
 refine ze ?_
 refine zz (.ptr 1 0) [(Zi (Zk.mk zl zp z7 zd zh (Zj.mk z2 z6)) zn zb), (Zo (Z3.mk 0 0 0 0 0 ([] : List Z8) ([] : List Z3)) .nl .nl)] ?_
 refine ze ?_
 refine zo (.ptr 0 0) ?_
 refine zo (.ptr 0 3) ?_
 refine zo (iv zd) ?_
 refine zo (bv (zd == 32)) ?_
 refine za ((zd == 32)) ?_ ?_
 ·refine ze ?_
  refine zi fun r1 hr1 => ?_
  obtain ⟨qr1, er1, exr1, rfl⟩ := ZV (25) (x1) (zl) (zp) (z7) (zd) (zh) (z2) (z6) zn zb zu r1 hr1
  refine zc [0] (.p (.tup [])) [(Zi (Zk.mk zl r1.1 z7 zd zh (Zj.mk r1.2.1 r1.2.2)) zn zb), (Zo (Z3.mk 0 0 0 0 0 ([] : List Z8) ([] : List Z3)) .nl .nl)] er1 ?_
  refine ze ?_
  refine zo (.p (.agg (Zz (Z3.mk 0 0 0 0 0 ([] : List Z8) ([] : List Z3)) .nl .nl))) ?_
  refine zt [(Zi (Zk.mk zl r1.1 z7 zd zh (Zj.mk r1.2.1 r1.2.2)) zn zb), (Zo (Z3.mk 0 0 0 0 0 ([] : List Z8) ([] : List Z3)) .nl .nl)] ?_
  exact zr ((.p (.tup [(.agg (Zz (Z3.mk 0 0 0 0 0 ([] : List Z8) ([] : List Z3)) .sh .sh)), (.v (.bool true))])), [(Zi (Zk.mk zl r1.1 z7 zd zh (Zj.mk r1.2.1 r1.2.2)) zn zb), (Zo (Z3.mk 0 0 0 0 0 ([] : List Z8) ([] : List Z3)) .nl .nl)]) ⟨zb, _, zu, rfl⟩
 ·exact zk (Za6 (x1) (zl) (zp) (z7) (zd) (zh) (z2) (z6) (0) (0) (0) (0) (0) (([] : List Z8)) (([] : List Z3)) zn zb .nl .nl zu rfl rfl)
theorem Z6c (x1 : Int) (zl : List Int) (zp : Int) (z7 : Int) (zd : Int) (zh : List Zq) (z2 : Int) (z6 : Int) {r} (h : Z3X x1 zl zp z7 zd zh z2 z6 = some r) : Z3h x1 zl zp z7 zd zh z2 z6 = some r :=
 pick_of (fun _ _ ha hb => RRun.uniq (ZbA _ _) (ha .ex .ex rfl) (hb .ex .ex rfl)) (fun zn zb zu => ZaX x1 zl zp z7 zd zh z2 z6 zn zb zu r h)
noncomputable def Za9  : Option ((List ByteArray)) :=
 some (([(ByteArray.mk #[63, 61]), (ByteArray.mk #[63, 33]), (ByteArray.mk #[63, 60, 61]), (ByteArray.mk #[63, 60, 33])] : List ByteArray))
theorem ZdC  : Sim (Z74) (Za9) (EE 62 [] []) := by
 unfold Za9
 refine zf (ZkT ..) ?_
 refine ze ?_
 refine ze ?_
 refine zo (.p (.lst .ex (([(ByteArray.mk #[63, 61]), (ByteArray.mk #[63, 33]), (ByteArray.mk #[63, 60, 61]), (ByteArray.mk #[63, 60, 33])] : List ByteArray).map eS))) ?_
 exact zr ((.p (.lst .sh (([(ByteArray.mk #[63, 61]), (ByteArray.mk #[63, 33]), (ByteArray.mk #[63, 60, 61]), (ByteArray.mk #[63, 60, 33])] : List ByteArray).map eS))), []) ⟨_, rfl⟩
theorem ZdI  {r} (h : Za9 = some r) : Z8A = some r :=
 pick_of (fun _ _ ha hb => RRun.uniq (Ze9) (ha ) (hb )) (ZdC  r h)
noncomputable def Z3K (x0 : List ByteArray) (zl : List Int) (zp : Int) : Option (Int × Int) :=
 Z1w x0 ((x0.length : Int)) 0 zl zp
theorem Z8p (x0 : List ByteArray) (zl : List Int) (zp : Int) (z7 : Int) (zd : Int) (zh : List Zq) (z2 : Int) (z6 : Int) (ox0 : Own) (zn : Own) (zb : Own) (zu : okApp zb = true) : Sim (Z1k zl z7 zd zh z2 z6 zn zb) (Z3K x0 zl zp) (EE 61 [(.p (.lst ox0 (x0.map eS))), (.clo 27 [(.ptr 0 0)] [])] [(Zi (Zk.mk zl zp z7 zd zh (Zj.mk z2 z6)) zn zb)]) := by
 unfold Z3K
 refine zf (ZjY ..) ?_
 refine ze ?_
 refine ze ?_
 refine zo (iv (x0.length : Int)) ?_ (Eq.trans (by kernel_rfl) (xlen_of (P := PP) (t := 43) (d := 9) (by kernel_rfl) eS (shrO ox0) x0))
 exact zk (Z5y (x0) ((x0.length : Int)) (0) (zl) (zp) (z7) (zd) (zh) (z2) (z6) ox0 zn zb zu)
theorem Z8H (x0 : List ByteArray) (zl : List Int) (zp : Int) {r} (h : Z3K x0 zl zp = some r) : Z3H x0 zl zp = some r :=
 pick_of (fun _ _ ha hb => RRun.uniq (Z6b _ _ _ _ _ _ _ _) (ha default default default default default .ex .ex .ex rfl) (hb default default default default default .ex .ex .ex rfl)) (fun z7 zd zh z2 z6 ox0 zn zb zu => Z8p x0 zl zp z7 zd zh z2 z6 ox0 zn zb zu r h)
noncomputable def Z3c (x0 : List ByteArray) (x7 : Int) (x8 : Int) (zl : List Int) (zp : Int) : Option (Int × Int) :=
 Z1w x0 x7 ((IntKind.i64.wrap (x8 + 1))) zl zp
theorem Z7m (x0 : List ByteArray) (x7 : Int) (x8 : Int) (zl : List Int) (zp : Int) (z7 : Int) (zd : Int) (zh : List Zq) (z2 : Int) (z6 : Int) (ox0 : Own) (zn : Own) (zb : Own) (zu : okApp zb = true) : Sim (Z1k zl z7 zd zh z2 z6 zn zb) (Z3c x0 x7 x8 zl zp) (ZfX 1 (.p (.lst ox0 (x0.map eS))) (.clo 27 [(.ptr 0 0)] []) (iv x7) (iv x8) [(Zi (Zk.mk zl zp z7 zd zh (Zj.mk z2 z6)) zn zb)]) := by
 unfold Z3c
 refine zf (ZhR ..) ?_
 refine ze ?_
 refine zo (iv (IntKind.i64.wrap (x8 + 1))) ?_
 exact zk (Z5y (x0) (x7) ((IntKind.i64.wrap (x8 + 1))) (zl) (zp) (z7) (zd) (zh) (z2) (z6) ox0 zn zb zu)
noncomputable def Z2D (x0 : List ByteArray) (x7 : Int) (x8 : Int) (zl : List Int) (zp : Int) : Option (Int × Int) :=
 (lget x0 x8).bind fun a1 =>
 (Z16 a1 zl zp).bind fun r2 =>
 if (r2.1) = true then
 (some (x8, r2.2))
 else
 (Z3c x0 x7 x8 zl r2.2)
theorem Z7x (x0 : List ByteArray) (x7 : Int) (x8 : Int) (zl : List Int) (zp : Int) (z7 : Int) (zd : Int) (zh : List Zq) (z2 : Int) (z6 : Int) (ox0 : Own) (zn : Own) (zb : Own) (zu : okApp zb = true) : Sim (Z1k zl z7 zd zh z2 z6 zn zb) (Z2D x0 x7 x8 zl zp) (Zg7 1 (.p (.lst ox0 (x0.map eS))) (.clo 27 [(.ptr 0 0)] []) (iv x7) (iv x8) [(Zi (Zk.mk zl zp z7 zd zh (Zj.mk z2 z6)) zn zb)]) := by
 unfold Z2D
 refine zf (ZiM ..) ?_
 refine ze ?_
 refine ze ?_
 refine zi fun a1 ha1 => ?_
 refine zo (.cptr [(.v (.string a1))]) ?_ (Eq.trans (by kernel_rfl) (xidx_of (o := (shrO ox0)) (k := .i64) (n := 1) (e := eS) (cs := (fun a => [eS a])) (fun _ => rfl) (fun _ => rfl) (by decide) ha1))
 refine zo (.p (.v (.string a1))) ?_
 refine zi fun r2 hr2 => ?_
 obtain ⟨qr2, er2, exr2, rfl⟩ := Z1b (a1) (zl) (zp) (z7) (zd) (zh) (z2) (z6) zn zb zu r2 hr2
 refine zv [0] (bv r2.1) [(Zi (Zk.mk zl r2.2 z7 zd zh (Zj.mk z2 z6)) zn zb)] er2 ?_
 refine za (r2.1) ?_ ?_
 ·refine ze ?_
  exact zr ((iv x8), [(Zi (Zk.mk zl r2.2 z7 zd zh (Zj.mk z2 z6)) zn zb)]) ⟨_, rfl⟩
 ·exact zk (Z7m (x0) (x7) (x8) (zl) (r2.2) (z7) (zd) (zh) (z2) (z6) ox0 zn zb zu)
noncomputable def Z4o (zp : Int) : Option (Int × Int) :=
 some ((-1), zp)
theorem Z7D (zl : List Int) (zp : Int) (z7 : Int) (zd : Int) (zh : List Zq) (z2 : Int) (z6 : Int) (zn : Own) (zb : Own) (zu : okApp zb = true) : Sim (Z1k zl z7 zd zh z2 z6 zn zb) (Z4o zp) (ZfF 1  [(Zi (Zk.mk zl zp z7 zd zh (Zj.mk z2 z6)) zn zb)]) := by
 unfold Z4o
 refine zf (Zin ..) ?_
 refine ze ?_
 exact zr ((iv (-1)), [(Zi (Zk.mk zl zp z7 zd zh (Zj.mk z2 z6)) zn zb)]) ⟨_, rfl⟩
noncomputable def Z2c (x0 : List ByteArray) (x7 : Int) (x8 : Int) (zl : List Int) (zp : Int) : Option (Int × Int) :=
 if ((decide (x8 < x7))) = true then
 (Z2D x0 x7 x8 zl zp)
 else
 (Z4o zp)
theorem Z7o (x0 : List ByteArray) (x7 : Int) (x8 : Int) (zl : List Int) (zp : Int) (z7 : Int) (zd : Int) (zh : List Zq) (z2 : Int) (z6 : Int) (ox0 : Own) (zn : Own) (zb : Own) (zu : okApp zb = true) : Sim (Z1k zl z7 zd zh z2 z6 zn zb) (Z2c x0 x7 x8 zl zp) (ZbH 1 (.p (.lst ox0 (x0.map eS))) (.clo 27 [(.ptr 0 0)] []) (iv x7) (iv x8) [(Zi (Zk.mk zl zp z7 zd zh (Zj.mk z2 z6)) zn zb)]) := by
 unfold Z2c
 refine zf (ZiB ..) ?_
 refine ze ?_
 refine zo (bv (decide (x8 < x7))) ?_
 refine za ((decide (x8 < x7))) ?_ ?_
 ·exact zk (Z7x (x0) (x7) (x8) (zl) (zp) (z7) (zd) (zh) (z2) (z6) ox0 zn zb zu)
 ·exact zk (Z7D (zl) (zp) (z7) (zd) (zh) (z2) (z6) zn zb zu)
theorem Z3Q (x0 : List ByteArray) (x7 : Int) (x8 : Int) (zl : List Int) (zp : Int) {r} (h : Z2c x0 x7 x8 zl zp = some r) : Z1w x0 x7 x8 zl zp = some r :=
 pick_of (fun _ _ ha hb => RRun.uniq (Z6b _ _ _ _ _ _ _ _) (ha default default default default default .ex .ex .ex rfl) (hb default default default default default .ex .ex .ex rfl)) (fun z7 zd zh z2 z6 ox0 zn zb zu => Z7o x0 x7 x8 zl zp z7 zd zh z2 z6 ox0 zn zb zu r h)
noncomputable def Z2Z (zp : Int) (z2 : Int) (z6 : Int) (z1Z : Int) (z32 : Int) (z31 : Int) (z2x : Int) (z2n : Int) (z2o : List Z8) (z20 : List Z3) : Option (Z3 × Int × Int × Int) :=
 some ((Z3.mk z1Z z32 z31 z2x z2n z2o z20), zp, z2, z6)
theorem Z51 (zl : List Int) (zp : Int) (z7 : Int) (zd : Int) (zh : List Zq) (z2 : Int) (z6 : Int) (b1 : Z3) (b2 : Z3) (z1Z : Int) (z32 : Int) (z31 : Int) (z2x : Int) (z2n : Int) (z2o : List Z8) (z20 : List Z3) (zn : Own) (zb : Own) (zB : Own) (zy : Own) (z1J : Own) (z1z : Own) (z34 : Own) (z2E : Own) (zu : okApp zb = true) (z8G : okApp z1J = true) (z7F : okApp z1z = true) (z8O : okApp z34 = true) (z7B : okApp z2E = true) : Sim (Z2G zl z7 zd zh zn zb) (Z2Z zp z2 z6 z1Z z32 z31 z2x z2n z2o z20) (ZbP 1 (.ptr 2 0) (.ptr 3 0) [(Zi (Zk.mk zl zp z7 zd zh (Zj.mk z2 z6)) zn zb), (Zo b1 zB zy), (Zo b2 z1J z1z), (Zo (Z3.mk z1Z z32 z31 z2x z2n z2o z20) z34 z2E)]) := by
 unfold Z2Z
 refine zf (Zh0 ..) ?_
 refine ze ?_
 refine zo (.p (.agg (Zz (Z3.mk z1Z z32 z31 z2x z2n z2o z20) (shrO z34) (shrO z2E)))) ?_
 refine zt [(Zi (Zk.mk zl zp z7 zd zh (Zj.mk z2 z6)) zn zb), (Zo b1 zB zy), (Zo (Z3.mk z1Z z32 z31 z2x z2n z2o z20) (shrO z34) (shrO z2E)), (Zo (Z3.mk z1Z z32 z31 z2x z2n z2o z20) z34 z2E)] ?_
 exact zr ((.p (.agg (Zz (Z3.mk z1Z z32 z31 z2x z2n z2o z20) .sh .sh))), [(Zi (Zk.mk zl zp z7 zd zh (Zj.mk z2 z6)) zn zb), (Zo b1 zB zy), (Zo (Z3.mk z1Z z32 z31 z2x z2n z2o z20) (shrO z34) (shrO z2E)), (Zo (Z3.mk z1Z z32 z31 z2x z2n z2o z20) z34 z2E)]) ⟨_, rfl⟩
noncomputable def Z2q (zl : List Int) (zp : Int) (z2 : Int) (z6 : Int) (z1Z : Int) (z32 : Int) (z31 : Int) (z2x : Int) (z2n : Int) (z2o : List Z8) (z20 : List Z3) : Option (Z3 × Int × Int × Int) :=
 (Z16 ((ByteArray.mk #[63])) zl zp).bind fun r1 =>
 if (r1.1) = true then
 (Z2Z r1.2 z2 z6 z1Z z32 z31 1 z2n z2o z20)
 else
 ((Z16 ((ByteArray.mk #[43])) zl r1.2).bind fun r2 =>
 if (r2.1) = true then
 (Z2Z r2.2 z2 z6 z1Z z32 z31 2 z2n z2o z20)
 else
 (Z2Z r2.2 z2 z6 z1Z z32 z31 z2x z2n z2o z20))
theorem Z6w (zl : List Int) (zp : Int) (z7 : Int) (zd : Int) (zh : List Zq) (z2 : Int) (z6 : Int) (b1 : Z3) (b2 : Z3) (z1Z : Int) (z32 : Int) (z31 : Int) (z2x : Int) (z2n : Int) (z2o : List Z8) (z20 : List Z3) (zn : Own) (zb : Own) (zB : Own) (zy : Own) (z1J : Own) (z1z : Own) (z34 : Own) (z2E : Own) (zu : okApp zb = true) (z8G : okApp z1J = true) (z7F : okApp z1z = true) (z8O : okApp z34 = true) (z7B : okApp z2E = true) : Sim (Z2G zl z7 zd zh zn zb) (Z2q zl zp z2 z6 z1Z z32 z31 z2x z2n z2o z20) (Zdo 1 (.ptr 0 0) (.ptr 2 0) (.ptr 3 0) [(Zi (Zk.mk zl zp z7 zd zh (Zj.mk z2 z6)) zn zb), (Zo b1 zB zy), (Zo b2 z1J z1z), (Zo (Z3.mk z1Z z32 z31 z2x z2n z2o z20) z34 z2E)]) := by
 unfold Z2q
 refine zf (Zhn ..) ?_
 refine ze ?_
 refine zi fun r1 hr1 => ?_
 obtain ⟨qr1, er1, exr1, rfl⟩ := Z1b ((ByteArray.mk #[63])) (zl) (zp) (z7) (zd) (zh) (z2) (z6) zn zb zu r1 hr1
 refine zc [0] (bv r1.1) [(Zi (Zk.mk zl r1.2 z7 zd zh (Zj.mk z2 z6)) zn zb), (Zo b1 zB zy), (Zo b2 z1J z1z), (Zo (Z3.mk z1Z z32 z31 z2x z2n z2o z20) z34 z2E)] er1 ?_
 refine za (r1.1) ?_ ?_
 ·refine ze ?_
  refine zo (.ptr 3 3) ?_
  refine zt [(Zi (Zk.mk zl r1.2 z7 zd zh (Zj.mk z2 z6)) zn zb), (Zo b1 zB zy), (Zo b2 z1J z1z), (Zo (Z3.mk z1Z z32 z31 1 z2n z2o z20) z34 z2E)] ?_
  exact zk (Z51 (zl) (r1.2) (z7) (zd) (zh) (z2) (z6) (b1) (b2) (z1Z) (z32) (z31) (1) (z2n) (z2o) (z20) zn zb zB zy z1J z1z z34 z2E zu z8G z7F z8O z7B)
 ·refine ze ?_
  refine zi fun r2 hr2 => ?_
  obtain ⟨qr2, er2, exr2, rfl⟩ := Z1b ((ByteArray.mk #[43])) (zl) (r1.2) (z7) (zd) (zh) (z2) (z6) zn zb zu r2 hr2
  refine zc [0] (bv r2.1) [(Zi (Zk.mk zl r2.2 z7 zd zh (Zj.mk z2 z6)) zn zb), (Zo b1 zB zy), (Zo b2 z1J z1z), (Zo (Z3.mk z1Z z32 z31 z2x z2n z2o z20) z34 z2E)] er2 ?_
  refine za (r2.1) ?_ ?_
  ·refine ze ?_
   refine zo (.ptr 3 3) ?_
   refine zt [(Zi (Zk.mk zl r2.2 z7 zd zh (Zj.mk z2 z6)) zn zb), (Zo b1 zB zy), (Zo b2 z1J z1z), (Zo (Z3.mk z1Z z32 z31 2 z2n z2o z20) z34 z2E)] ?_
   exact zk (Z51 (zl) (r2.2) (z7) (zd) (zh) (z2) (z6) (b1) (b2) (z1Z) (z32) (z31) (2) (z2n) (z2o) (z20) zn zb zB zy z1J z1z z34 z2E zu z8G z7F z8O z7B)
  ·exact zk (Z51 (zl) (r2.2) (z7) (zd) (zh) (z2) (z6) (b1) (b2) (z1Z) (z32) (z31) (z2x) (z2n) (z2o) (z20) zn zb zB zy z1J z1z z34 z2E zu z8G z7F z8O z7B)
noncomputable def Z1R (x2 : Bool) (x7 : Int) (zl : List Int) (zp : Int) (z2 : Int) (z6 : Int) (z1Z : Int) (z32 : Int) (z31 : Int) (z2x : Int) (z2n : Int) (z2o : List Z8) (z20 : List Z3) : Option (Z3 × Int × Int × Int) :=
 if ((!x2)) = true then
 ((ZS 23 x7 zl z2 z6).bind fun r1 =>
 Z2q zl r1.1 r1.2.1 r1.2.2 z1Z z32 z31 z2x z2n z2o z20)
 else
 (Z2q zl zp z2 z6 z1Z z32 z31 z2x z2n z2o z20)
theorem Z3J (x2 : Bool) (x7 : Int) (zl : List Int) (zp : Int) (z7 : Int) (zd : Int) (zh : List Zq) (z2 : Int) (z6 : Int) (b1 : Z3) (b2 : Z3) (z1Z : Int) (z32 : Int) (z31 : Int) (z2x : Int) (z2n : Int) (z2o : List Z8) (z20 : List Z3) (zn : Own) (zb : Own) (zB : Own) (zy : Own) (z1J : Own) (z1z : Own) (z34 : Own) (z2E : Own) (zu : okApp zb = true) (z8G : okApp z1J = true) (z7F : okApp z1z = true) (z8O : okApp z34 = true) (z7B : okApp z2E = true) : Sim (Z2G zl z7 zd zh zn zb) (Z1R x2 x7 zl zp z2 z6 z1Z z32 z31 z2x z2n z2o z20) (ZaJ 1 (.ptr 0 0) (bv x2) (.ptr 2 0) (iv x7) (.ptr 3 0) [(Zi (Zk.mk zl zp z7 zd zh (Zj.mk z2 z6)) zn zb), (Zo b1 zB zy), (Zo b2 z1J z1z), (Zo (Z3.mk z1Z z32 z31 z2x z2n z2o z20) z34 z2E)]) := by
 unfold Z1R
 refine zf (Zhi ..) ?_
 refine ze ?_
 refine zo (bv (!x2)) ?_
 refine za ((!x2)) ?_ ?_
 ·refine ze ?_
  refine zi fun r1 hr1 => ?_
  obtain ⟨qr1, er1, exr1, rfl⟩ := ZV (23) (x7) (zl) (zp) (z7) (zd) (zh) (z2) (z6) zn zb zu r1 hr1
  refine zc [0] (.p (.tup [])) [(Zi (Zk.mk zl r1.1 z7 zd zh (Zj.mk r1.2.1 r1.2.2)) zn zb), (Zo b1 zB zy), (Zo b2 z1J z1z), (Zo (Z3.mk z1Z z32 z31 z2x z2n z2o z20) z34 z2E)] er1 ?_
  exact zk (Z6w (zl) (r1.1) (z7) (zd) (zh) (r1.2.1) (r1.2.2) (b1) (b2) (z1Z) (z32) (z31) (z2x) (z2n) (z2o) (z20) zn zb zB zy z1J z1z z34 z2E zu z8G z7F z8O z7B)
 ·exact zk (Z6w (zl) (zp) (z7) (zd) (zh) (z2) (z6) (b1) (b2) (z1Z) (z32) (z31) (z2x) (z2n) (z2o) (z20) zn zb zB zy z1J z1z z34 z2E zu z8G z7F z8O z7B)
noncomputable def Z3C (x1 : Z3) (x2 : Bool) (zl : List Int) (zp : Int) (z7 : Int) (zd : Int) (zh : List Zq) (z2 : Int) (z6 : Int) : Option (Z3 × Int × Int × Int) :=
 (Z16 ((ByteArray.mk #[42])) zl zp).bind fun r1 =>
 if (r1.1) = true then
 (Z1R x2 zp zl r1.2 z2 z6 4 0 ((-1)) 0 0 (([] : List Z8)) (([x1] : List Z3)))
 else
 ((Z16 ((ByteArray.mk #[43])) zl r1.2).bind fun r2 =>
 if (r2.1) = true then
 (Z1R x2 zp zl r2.2 z2 z6 4 1 ((-1)) 0 0 (([] : List Z8)) (([x1] : List Z3)))
 else
 ((Z16 ((ByteArray.mk #[63])) zl r2.2).bind fun r3 =>
 if (r3.1) = true then
 (Z1R x2 zp zl r3.2 z2 z6 4 0 1 0 0 (([] : List Z8)) (([x1] : List Z3)))
 else
 ((Z16 ((ByteArray.mk #[123])) zl r3.2).bind fun r4 =>
 if (r4.1) = true then
 ((Z4t zp zl r4.2 z7 zd zh z2 z6).bind fun r5 =>
 Z1R x2 zp zl r5.2.2.1 r5.2.2.2.1 r5.2.2.2.2 4 r5.1 r5.2.1 0 0 (([] : List Z8)) (([x1] : List Z3)))
 else
 (some (x1, r4.2, z2, z6)))))
theorem Zap (x1 : Z3) (x2 : Bool) (zl : List Int) (zp : Int) (z7 : Int) (zd : Int) (zh : List Zq) (z2 : Int) (z6 : Int) (z2b : Own) (z1M : Own) (zn : Own) (zb : Own) (zu : okApp zb = true) : Sim (Z2G zl z7 zd zh zn zb) (Z3C x1 x2 zl zp z7 zd zh z2 z6) (EE 43 [(.ptr 0 0), (.p (.agg (Zz x1 z2b z1M))), (bv x2)] [(Zi (Zk.mk zl zp z7 zd zh (Zj.mk z2 z6)) zn zb)]) := by
 unfold Z3C
 refine zf (Zl6 ..) ?_
 refine ze ?_
 refine zx (.ptr 1 0) [(Zi (Zk.mk zl zp z7 zd zh (Zj.mk z2 z6)) zn zb), (Zo x1 z2b z1M)] ?_
 refine zz (.ptr 2 0) [(Zi (Zk.mk zl zp z7 zd zh (Zj.mk z2 z6)) zn zb), (Zo x1 z2b z1M), (Zo (Z3.mk 0 0 0 0 0 ([] : List Z8) ([] : List Z3)) .nl .nl)] ?_
 refine ze ?_
 refine zo (.ptr 0 0) ?_
 refine zo (.ptr 0 1) ?_
 refine zo (iv zp) ?_
 refine ze ?_
 refine zo (.p (.agg (Zz x1 (shrO z2b) (shrO z1M)))) ?_
 refine zo (.p (.lst .ex (([x1] : List Z3).map ZD))) ?_ (Eq.trans (b := some (.p (.lst .ex [.agg (Z1T x1)]))) (by kernel_rfl) (by simp only [List.map_cons, List.map_nil, Z3f]))
 refine zo (.p (.agg (Zz (Z3.mk 4 0 (-1) 0 0 ([] : List Z8) ([x1] : List Z3)) .nl .ex))) ?_
 refine zz (.ptr 3 0) [(Zi (Zk.mk zl zp z7 zd zh (Zj.mk z2 z6)) zn zb), (Zo x1 z2b z1M), (Zo (Z3.mk 0 0 0 0 0 ([] : List Z8) ([] : List Z3)) .nl .nl), (Zo (Z3.mk 0 0 0 0 0 ([] : List Z8) ([] : List Z3)) .nl .nl)] ?_
 refine zt [(Zi (Zk.mk zl zp z7 zd zh (Zj.mk z2 z6)) zn zb), (Zo x1 z2b z1M), (Zo (Z3.mk 0 0 0 0 0 ([] : List Z8) ([] : List Z3)) .nl .nl), (Zo (Z3.mk 4 0 (-1) 0 0 ([] : List Z8) ([x1] : List Z3)) .nl .ex)] ?_
 refine ze ?_
 refine zi fun r1 hr1 => ?_
 obtain ⟨qr1, er1, exr1, rfl⟩ := Z1b ((ByteArray.mk #[42])) (zl) (zp) (z7) (zd) (zh) (z2) (z6) zn zb zu r1 hr1
 refine zc [0] (bv r1.1) [(Zi (Zk.mk zl r1.2 z7 zd zh (Zj.mk z2 z6)) zn zb), (Zo x1 z2b z1M), (Zo (Z3.mk 0 0 0 0 0 ([] : List Z8) ([] : List Z3)) .nl .nl), (Zo (Z3.mk 4 0 (-1) 0 0 ([] : List Z8) ([x1] : List Z3)) .nl .ex)] er1 ?_
 refine za (r1.1) ?_ ?_
 ·exact zk (Z3J (x2) (zp) (zl) (r1.2) (z7) (zd) (zh) (z2) (z6) (x1) ((Z3.mk 0 0 0 0 0 ([] : List Z8) ([] : List Z3))) (4) (0) ((-1)) (0) (0) (([] : List Z8)) (([x1] : List Z3)) zn zb z2b z1M .nl .nl .nl .ex zu rfl rfl rfl rfl)
 ·refine ze ?_
  refine zi fun r2 hr2 => ?_
  obtain ⟨qr2, er2, exr2, rfl⟩ := Z1b ((ByteArray.mk #[43])) (zl) (r1.2) (z7) (zd) (zh) (z2) (z6) zn zb zu r2 hr2
  refine zc [0] (bv r2.1) [(Zi (Zk.mk zl r2.2 z7 zd zh (Zj.mk z2 z6)) zn zb), (Zo x1 z2b z1M), (Zo (Z3.mk 0 0 0 0 0 ([] : List Z8) ([] : List Z3)) .nl .nl), (Zo (Z3.mk 4 0 (-1) 0 0 ([] : List Z8) ([x1] : List Z3)) .nl .ex)] er2 ?_
  refine za (r2.1) ?_ ?_
  ·refine ze ?_
   refine zo (.ptr 3 1) ?_
   refine zt [(Zi (Zk.mk zl r2.2 z7 zd zh (Zj.mk z2 z6)) zn zb), (Zo x1 z2b z1M), (Zo (Z3.mk 0 0 0 0 0 ([] : List Z8) ([] : List Z3)) .nl .nl), (Zo (Z3.mk 4 1 (-1) 0 0 ([] : List Z8) ([x1] : List Z3)) .nl .ex)] ?_
   exact zk (Z3J (x2) (zp) (zl) (r2.2) (z7) (zd) (zh) (z2) (z6) (x1) ((Z3.mk 0 0 0 0 0 ([] : List Z8) ([] : List Z3))) (4) (1) ((-1)) (0) (0) (([] : List Z8)) (([x1] : List Z3)) zn zb z2b z1M .nl .nl .nl .ex zu rfl rfl rfl rfl)
  ·refine ze ?_
   refine zi fun r3 hr3 => ?_
   obtain ⟨qr3, er3, exr3, rfl⟩ := Z1b ((ByteArray.mk #[63])) (zl) (r2.2) (z7) (zd) (zh) (z2) (z6) zn zb zu r3 hr3
   refine zc [0] (bv r3.1) [(Zi (Zk.mk zl r3.2 z7 zd zh (Zj.mk z2 z6)) zn zb), (Zo x1 z2b z1M), (Zo (Z3.mk 0 0 0 0 0 ([] : List Z8) ([] : List Z3)) .nl .nl), (Zo (Z3.mk 4 0 (-1) 0 0 ([] : List Z8) ([x1] : List Z3)) .nl .ex)] er3 ?_
   refine za (r3.1) ?_ ?_
   ·refine ze ?_
    refine zo (.ptr 3 2) ?_
    refine zt [(Zi (Zk.mk zl r3.2 z7 zd zh (Zj.mk z2 z6)) zn zb), (Zo x1 z2b z1M), (Zo (Z3.mk 0 0 0 0 0 ([] : List Z8) ([] : List Z3)) .nl .nl), (Zo (Z3.mk 4 0 1 0 0 ([] : List Z8) ([x1] : List Z3)) .nl .ex)] ?_
    exact zk (Z3J (x2) (zp) (zl) (r3.2) (z7) (zd) (zh) (z2) (z6) (x1) ((Z3.mk 0 0 0 0 0 ([] : List Z8) ([] : List Z3))) (4) (0) (1) (0) (0) (([] : List Z8)) (([x1] : List Z3)) zn zb z2b z1M .nl .nl .nl .ex zu rfl rfl rfl rfl)
   ·refine ze ?_
    refine zi fun r4 hr4 => ?_
    obtain ⟨qr4, er4, exr4, rfl⟩ := Z1b ((ByteArray.mk #[123])) (zl) (r3.2) (z7) (zd) (zh) (z2) (z6) zn zb zu r4 hr4
    refine zc [0] (bv r4.1) [(Zi (Zk.mk zl r4.2 z7 zd zh (Zj.mk z2 z6)) zn zb), (Zo x1 z2b z1M), (Zo (Z3.mk 0 0 0 0 0 ([] : List Z8) ([] : List Z3)) .nl .nl), (Zo (Z3.mk 4 0 (-1) 0 0 ([] : List Z8) ([x1] : List Z3)) .nl .ex)] er4 ?_
    refine za (r4.1) ?_ ?_
    ·refine ze ?_
     refine zi fun r5 hr5 => ?_
     obtain ⟨qr5, er5, exr5, rfl⟩ := ZaS (zp) (zl) (r4.2) (z7) (zd) (zh) (z2) (z6) zn zb zu r5 hr5
     refine zc [0] (.p (.tup [(.v (.int .i64 r5.1)), (.v (.int .i64 r5.2.1))])) [(Zi (Zk.mk zl r5.2.2.1 z7 zd zh (Zj.mk r5.2.2.2.1 r5.2.2.2.2)) zn zb), (Zo x1 z2b z1M), (Zo (Z3.mk 0 0 0 0 0 ([] : List Z8) ([] : List Z3)) .nl .nl), (Zo (Z3.mk 4 0 (-1) 0 0 ([] : List Z8) ([x1] : List Z3)) .nl .ex)] er5 ?_
     refine zo (iv r5.1) ?_
     refine zo (iv r5.2.1) ?_
     refine zo (.ptr 3 1) ?_
     refine zt [(Zi (Zk.mk zl r5.2.2.1 z7 zd zh (Zj.mk r5.2.2.2.1 r5.2.2.2.2)) zn zb), (Zo x1 z2b z1M), (Zo (Z3.mk 0 0 0 0 0 ([] : List Z8) ([] : List Z3)) .nl .nl), (Zo (Z3.mk 4 r5.1 (-1) 0 0 ([] : List Z8) ([x1] : List Z3)) .nl .ex)] ?_
     refine zo (.ptr 3 2) ?_
     refine zt [(Zi (Zk.mk zl r5.2.2.1 z7 zd zh (Zj.mk r5.2.2.2.1 r5.2.2.2.2)) zn zb), (Zo x1 z2b z1M), (Zo (Z3.mk 0 0 0 0 0 ([] : List Z8) ([] : List Z3)) .nl .nl), (Zo (Z3.mk 4 r5.1 r5.2.1 0 0 ([] : List Z8) ([x1] : List Z3)) .nl .ex)] ?_
     exact zk (Z3J (x2) (zp) (zl) (r5.2.2.1) (z7) (zd) (zh) (r5.2.2.2.1) (r5.2.2.2.2) (x1) ((Z3.mk 0 0 0 0 0 ([] : List Z8) ([] : List Z3))) (4) (r5.1) (r5.2.1) (0) (0) (([] : List Z8)) (([x1] : List Z3)) zn zb z2b z1M .nl .nl .nl .ex zu rfl rfl rfl rfl)
    ·refine ze ?_
     refine zo (.p (.agg (Zz x1 (shrO z2b) (shrO z1M)))) ?_
     refine zt [(Zi (Zk.mk zl r4.2 z7 zd zh (Zj.mk z2 z6)) zn zb), (Zo x1 z2b z1M), (Zo x1 (shrO z2b) (shrO z1M)), (Zo (Z3.mk 4 0 (-1) 0 0 ([] : List Z8) ([x1] : List Z3)) .nl .ex)] ?_
     exact zr ((.p (.agg (Zz x1 .sh .sh))), [(Zi (Zk.mk zl r4.2 z7 zd zh (Zj.mk z2 z6)) zn zb), (Zo x1 z2b z1M), (Zo x1 (shrO z2b) (shrO z1M)), (Zo (Z3.mk 4 0 (-1) 0 0 ([] : List Z8) ([x1] : List Z3)) .nl .ex)]) ⟨_, rfl⟩
theorem Z7E (x1 : Z3) (x2 : Bool) (zl : List Int) (zp : Int) (z7 : Int) (zd : Int) (zh : List Zq) (z2 : Int) (z6 : Int) {r} (h : Z3C x1 x2 zl zp z7 zd zh z2 z6 = some r) : Z4A x1 x2 zl zp z7 zd zh z2 z6 = some r :=
 pick_of (fun _ _ ha hb => RRun.uniq (Zb3 _ _ _ _ _ _) (ha .ex .ex .ex .ex rfl) (hb .ex .ex .ex .ex rfl)) (fun z2b z1M zn zb zu => Zap x1 x2 zl zp z7 zd zh z2 z6 z2b z1M zn zb zu r h)
noncomputable def Z62 (x4 : Int) (zp : Int) (z2 : Int) (z6 : Int) : Option (Int × Int × Int × Int × Int) :=
 some (x4, (-1), zp, z2, z6)
theorem Z9C (x4 : Int) (zl : List Int) (zp : Int) (z7 : Int) (zd : Int) (zh : List Zq) (z2 : Int) (z6 : Int) (zn : Own) (zb : Own) (zu : okApp zb = true) : Sim (Z1O zl z7 zd zh zn zb) (Z62 x4 zp z2 z6) (Zfs 1 (iv x4) [(Zi (Zk.mk zl zp z7 zd zh (Zj.mk z2 z6)) zn zb)]) := by
 unfold Z62
 refine zf (ZhA ..) ?_
 refine ze ?_
 exact zr ((.p (.tup [(.v (.int .i64 x4)), (.v (.int .i64 (-1)))])), [(Zi (Zk.mk zl zp z7 zd zh (Zj.mk z2 z6)) zn zb)]) ⟨_, rfl⟩
noncomputable def Z4E (x4 : Int) (x5 : Int) (zp : Int) (z2 : Int) (z6 : Int) : Option (Int × Int × Int × Int × Int) :=
 some (x4, x5, zp, z2, z6)
theorem Z6t (x4 : Int) (x5 : Int) (zl : List Int) (zp : Int) (z7 : Int) (zd : Int) (zh : List Zq) (z2 : Int) (z6 : Int) (zn : Own) (zb : Own) (zu : okApp zb = true) : Sim (Z1O zl z7 zd zh zn zb) (Z4E x4 x5 zp z2 z6) (Zdc 1 (iv x4) (iv x5) [(Zi (Zk.mk zl zp z7 zd zh (Zj.mk z2 z6)) zn zb)]) := by
 unfold Z4E
 refine zf (Zhk ..) ?_
 refine ze ?_
 exact zr ((.p (.tup [(.v (.int .i64 x4)), (.v (.int .i64 x5))])), [(Zi (Zk.mk zl zp z7 zd zh (Zj.mk z2 z6)) zn zb)]) ⟨_, rfl⟩
noncomputable def Z28 (x1 : Int) (x4 : Int) (x5 : Int) (zl : List Int) (z2 : Int) (z6 : Int) : Option (Int × Int × Int × Int × Int) :=
 (ZS 23 x1 zl z2 z6).bind fun r1 =>
 Z4E x4 x5 r1.1 r1.2.1 r1.2.2
theorem Z3I (x1 : Int) (x4 : Int) (x5 : Int) (zl : List Int) (zp : Int) (z7 : Int) (zd : Int) (zh : List Zq) (z2 : Int) (z6 : Int) (zn : Own) (zb : Own) (zu : okApp zb = true) : Sim (Z1O zl z7 zd zh zn zb) (Z28 x1 x4 x5 zl z2 z6) (ZaB 1 (.ptr 0 0) (iv x1) (iv x4) (iv x5) [(Zi (Zk.mk zl zp z7 zd zh (Zj.mk z2 z6)) zn zb)]) := by
 unfold Z28
 refine zf (Zho ..) ?_
 refine ze ?_
 refine zi fun r1 hr1 => ?_
 obtain ⟨qr1, er1, exr1, rfl⟩ := ZV (23) (x1) (zl) (zp) (z7) (zd) (zh) (z2) (z6) zn zb zu r1 hr1
 refine zc [0] (.p (.tup [])) [(Zi (Zk.mk zl r1.1 z7 zd zh (Zj.mk r1.2.1 r1.2.2)) zn zb)] er1 ?_
 exact zk (Z6t (x4) (x5) (zl) (r1.1) (z7) (zd) (zh) (r1.2.1) (r1.2.2) zn zb zu)
noncomputable def Z1V (x1 : Int) (x4 : Int) (x5 : Int) (zl : List Int) (zp : Int) (z2 : Int) (z6 : Int) : Option (Int × Int × Int × Int × Int) :=
 if ((decide (x4 < 0))) = true then
 (Z28 x1 x4 x5 zl z2 z6)
 else
 (if ((decide (x5 < x4))) = true then
 (Z28 x1 x4 x5 zl z2 z6)
 else
 (if ((decide (64 < x5))) = true then
 (Z28 x1 x4 x5 zl z2 z6)
 else
 ((Z16 ((ByteArray.mk #[125])) zl zp).bind fun r1 =>
 if ((!r1.1)) = true then
 (Z28 x1 x4 x5 zl z2 z6)
 else
 (Z4E x4 x5 r1.2 z2 z6))))
theorem Z3S (x1 : Int) (x4 : Int) (x5 : Int) (zl : List Int) (zp : Int) (z7 : Int) (zd : Int) (zh : List Zq) (z2 : Int) (z6 : Int) (zn : Own) (zb : Own) (zu : okApp zb = true) : Sim (Z1O zl z7 zd zh zn zb) (Z1V x1 x4 x5 zl zp z2 z6) (Zc9 1 (.ptr 0 0) (iv x1) (iv x4) (iv x5) [(Zi (Zk.mk zl zp z7 zd zh (Zj.mk z2 z6)) zn zb)]) := by
 unfold Z1V
 refine zf (ZiY ..) ?_
 refine ze ?_
 refine zo (bv (decide (x4 < 0))) ?_
 refine za ((decide (x4 < 0))) ?_ ?_
 ·exact zk (Z3I (x1) (x4) (x5) (zl) (zp) (z7) (zd) (zh) (z2) (z6) zn zb zu)
 ·refine zo (bv (decide (x5 < x4))) ?_
  refine za ((decide (x5 < x4))) ?_ ?_
  ·exact zk (Z3I (x1) (x4) (x5) (zl) (zp) (z7) (zd) (zh) (z2) (z6) zn zb zu)
  ·refine zo (bv (decide (64 < x5))) ?_
   refine za ((decide (64 < x5))) ?_ ?_
   ·exact zk (Z3I (x1) (x4) (x5) (zl) (zp) (z7) (zd) (zh) (z2) (z6) zn zb zu)
   ·refine zi fun r1 hr1 => ?_
    obtain ⟨qr1, er1, exr1, rfl⟩ := Z1b ((ByteArray.mk #[125])) (zl) (zp) (z7) (zd) (zh) (z2) (z6) zn zb zu r1 hr1
    refine zc [0] (bv r1.1) [(Zi (Zk.mk zl r1.2 z7 zd zh (Zj.mk z2 z6)) zn zb)] er1 ?_
    refine zo (bv (!r1.1)) ?_
    refine za ((!r1.1)) ?_ ?_
    ·exact zk (Z3I (x1) (x4) (x5) (zl) (r1.2) (z7) (zd) (zh) (z2) (z6) zn zb zu)
    ·exact zk (Z6t (x4) (x5) (zl) (r1.2) (z7) (zd) (zh) (z2) (z6) zn zb zu)
noncomputable def Z37 (x1 : Int) (x4 : Int) (zl : List Int) (zp : Int) (z2 : Int) (z6 : Int) : Option (Int × Int × Int × Int × Int) :=
 Z1V x1 x4 ((-2)) zl zp z2 z6
theorem Z6S (x1 : Int) (x4 : Int) (zl : List Int) (zp : Int) (z7 : Int) (zd : Int) (zh : List Zq) (z2 : Int) (z6 : Int) (zn : Own) (zb : Own) (zu : okApp zb = true) : Sim (Z1O zl z7 zd zh zn zb) (Z37 x1 x4 zl zp z2 z6) (Zed 1 (.ptr 0 0) (iv x1) (iv x4) [(Zi (Zk.mk zl zp z7 zd zh (Zj.mk z2 z6)) zn zb)]) := by
 unfold Z37
 refine zf (ZhT ..) ?_
 refine ze ?_
 exact zk (Z3S (x1) (x4) ((-2)) (zl) (zp) (z7) (zd) (zh) (z2) (z6) zn zb zu)
noncomputable def Z4S (x1 : Int) (x4 : Int) (zl : List Int) (zp : Int) (z2 : Int) (z6 : Int) : Option (Int × Int × Int × Int × Int) :=
 (Z16 ((ByteArray.mk #[125])) zl zp).bind fun r1 =>
 if (r1.1) = true then
 (if ((decide (x4 ≤ 64))) = true then
 (Z62 x4 r1.2 z2 z6)
 else
 (Z37 x1 x4 zl r1.2 z2 z6))
 else
 (Z37 x1 x4 zl r1.2 z2 z6)
theorem Z9v (x1 : Int) (x4 : Int) (zl : List Int) (zp : Int) (z7 : Int) (zd : Int) (zh : List Zq) (z2 : Int) (z6 : Int) (zn : Own) (zb : Own) (zu : okApp zb = true) : Sim (Z1O zl z7 zd zh zn zb) (Z4S x1 x4 zl zp z2 z6) (Zgj 1 (.ptr 0 0) (iv x1) (iv x4) [(Zi (Zk.mk zl zp z7 zd zh (Zj.mk z2 z6)) zn zb)]) := by
 unfold Z4S
 refine zf (ZhH ..) ?_
 refine ze ?_
 refine zi fun r1 hr1 => ?_
 obtain ⟨qr1, er1, exr1, rfl⟩ := Z1b ((ByteArray.mk #[125])) (zl) (zp) (z7) (zd) (zh) (z2) (z6) zn zb zu r1 hr1
 refine zc [0] (bv r1.1) [(Zi (Zk.mk zl r1.2 z7 zd zh (Zj.mk z2 z6)) zn zb)] er1 ?_
 refine za (r1.1) ?_ ?_
 ·refine zo (bv (decide (x4 ≤ 64))) ?_
  refine za ((decide (x4 ≤ 64))) ?_ ?_
  ·exact zk (Z9C (x4) (zl) (r1.2) (z7) (zd) (zh) (z2) (z6) zn zb zu)
  ·exact zk (Z6S (x1) (x4) (zl) (r1.2) (z7) (zd) (zh) (z2) (z6) zn zb zu)
 ·exact zk (Z6S (x1) (x4) (zl) (r1.2) (z7) (zd) (zh) (z2) (z6) zn zb zu)
noncomputable def Z4v (x1 : Int) (zl : List Int) (zp : Int) (z7 : Int) (zd : Int) (zh : List Zq) (z2 : Int) (z6 : Int) : Option (Int × Int × Int × Int × Int) :=
 (Z3F zl zp z7 zd zh z2 z6).bind fun r1 =>
 (Z16 ((ByteArray.mk #[44])) zl r1.2).bind fun r2 =>
 if (r2.1) = true then
 ((Z3F zl r2.2 z7 zd zh z2 z6).bind fun r3 =>
 if ((decide (r3.1 < 0))) = true then
 (if ((decide (0 ≤ r1.1))) = true then
 (Z4S x1 r1.1 zl r3.2 z2 z6)
 else
 (Z1V x1 r1.1 r3.1 zl r3.2 z2 z6))
 else
 (Z1V x1 r1.1 r3.1 zl r3.2 z2 z6))
 else
 (Z1V x1 r1.1 r1.1 zl r2.2 z2 z6)
theorem Zay (x1 : Int) (zl : List Int) (zp : Int) (z7 : Int) (zd : Int) (zh : List Zq) (z2 : Int) (z6 : Int) (zn : Own) (zb : Own) (zu : okApp zb = true) : Sim (Z1O zl z7 zd zh zn zb) (Z4v x1 zl zp z7 zd zh z2 z6) (EE 52 [(.ptr 0 0), (iv x1)] [(Zi (Zk.mk zl zp z7 zd zh (Zj.mk z2 z6)) zn zb)]) := by
 unfold Z4v
 refine zf (Zkq ..) ?_
 refine ze ?_
 refine ze ?_
 refine zi fun r1 hr1 => ?_
 obtain ⟨qr1, er1, exr1, rfl⟩ := Z7A (zl) (zp) (z7) (zd) (zh) (z2) (z6) zn zb zu r1 hr1
 refine zc [0] (iv r1.1) [(Zi (Zk.mk zl r1.2 z7 zd zh (Zj.mk z2 z6)) zn zb)] er1 ?_
 refine ze ?_
 refine ze ?_
 refine zi fun r2 hr2 => ?_
 obtain ⟨qr2, er2, exr2, rfl⟩ := Z1b ((ByteArray.mk #[44])) (zl) (r1.2) (z7) (zd) (zh) (z2) (z6) zn zb zu r2 hr2
 refine zc [0] (bv r2.1) [(Zi (Zk.mk zl r2.2 z7 zd zh (Zj.mk z2 z6)) zn zb)] er2 ?_
 refine za (r2.1) ?_ ?_
 ·refine ze ?_
  refine zi fun r3 hr3 => ?_
  obtain ⟨qr3, er3, exr3, rfl⟩ := Z7A (zl) (r2.2) (z7) (zd) (zh) (z2) (z6) zn zb zu r3 hr3
  refine zc [0] (iv r3.1) [(Zi (Zk.mk zl r3.2 z7 zd zh (Zj.mk z2 z6)) zn zb)] er3 ?_
  refine ze ?_
  refine zo (bv (decide (r3.1 < 0))) ?_
  refine za ((decide (r3.1 < 0))) ?_ ?_
  ·refine zo (bv (decide (0 ≤ r1.1))) ?_
   refine za ((decide (0 ≤ r1.1))) ?_ ?_
   ·exact zk (Z9v (x1) (r1.1) (zl) (r3.2) (z7) (zd) (zh) (z2) (z6) zn zb zu)
   ·exact zk (Z3S (x1) (r1.1) (r3.1) (zl) (r3.2) (z7) (zd) (zh) (z2) (z6) zn zb zu)
  ·exact zk (Z3S (x1) (r1.1) (r3.1) (zl) (r3.2) (z7) (zd) (zh) (z2) (z6) zn zb zu)
 ·exact zk (Z3S (x1) (r1.1) (r1.1) (zl) (r2.2) (z7) (zd) (zh) (z2) (z6) zn zb zu)
theorem Z7n (x1 : Int) (zl : List Int) (zp : Int) (z7 : Int) (zd : Int) (zh : List Zq) (z2 : Int) (z6 : Int) {r} (h : Z4v x1 zl zp z7 zd zh z2 z6 = some r) : Z4t x1 zl zp z7 zd zh z2 z6 = some r :=
 pick_of (fun _ _ ha hb => RRun.uniq (Zb4 _ _ _ _ _ _) (ha .ex .ex rfl) (hb .ex .ex rfl)) (fun zn zb zu => Zay x1 zl zp z7 zd zh z2 z6 zn zb zu r h)
noncomputable def Z6M (zl : List Int) (zp : Int) (z7 : Int) (zd : Int) (zh : List Zq) (z2 : Int) (z6 : Int) : Option (Int × Int) :=
 Z2B ((-1)) 0 zl zp z7 zd zh z2 z6
theorem Zak (zl : List Int) (zp : Int) (z7 : Int) (zd : Int) (zh : List Zq) (z2 : Int) (z6 : Int) (zn : Own) (zb : Own) (zu : okApp zb = true) : Sim (Z24 zl z7 zd zh z2 z6 zn zb) (Z6M zl zp z7 zd zh z2 z6) (EE 63 [(.ptr 0 0)] [(Zi (Zk.mk zl zp z7 zd zh (Zj.mk z2 z6)) zn zb)]) := by
 unfold Z6M
 refine zf (Zke ..) ?_
 refine ze ?_
 refine ze ?_
 refine ze ?_
 exact zk (Z6T ((-1)) (0) (zl) (zp) (z7) (zd) (zh) (z2) (z6) zn zb zu)
theorem ZaT (zl : List Int) (zp : Int) (z7 : Int) (zd : Int) (zh : List Zq) (z2 : Int) (z6 : Int) {r} (h : Z6M zl zp z7 zd zh z2 z6 = some r) : Z3F zl zp z7 zd zh z2 z6 = some r :=
 pick_of (fun _ _ ha hb => RRun.uniq (Z86 _ _ _ _ _ _ _ _) (ha .ex .ex rfl) (hb .ex .ex rfl)) (fun zn zb zu => Zak zl zp z7 zd zh z2 z6 zn zb zu r h)
noncomputable def Z4K (x3 : Int) (x4 : Int) (zl : List Int) (zp : Int) (z7 : Int) (zd : Int) (zh : List Zq) (z2 : Int) (z6 : Int) : Option (Int × Int) :=
 (Z26 zl zp).bind fun r1 =>
 Z2B ((IntKind.i64.wrap ((IntKind.i64.wrap ((IntKind.i64.wrap (10 * (max x3 0))) + r1.1)) - 48))) ((IntKind.i64.wrap (x4 + 1))) zl r1.2 z7 zd zh z2 z6
theorem Z9z (x3 : Int) (x4 : Int) (zl : List Int) (zp : Int) (z7 : Int) (zd : Int) (zh : List Zq) (z2 : Int) (z6 : Int) (zn : Own) (zb : Own) (zu : okApp zb = true) : Sim (Z24 zl z7 zd zh z2 z6 zn zb) (Z4K x3 x4 zl zp z7 zd zh z2 z6) (Zg6 1 (.ptr 0 0) (iv x3) (iv x4) [(Zi (Zk.mk zl zp z7 zd zh (Zj.mk z2 z6)) zn zb)]) := by
 unfold Z4K
 refine zf (ZiJ ..) ?_
 refine ze ?_
 refine zo (iv (max x3 0)) ?_ (xminmax2_max _ _)
 refine zo (iv (IntKind.i64.wrap (10 * (max x3 0)))) ?_
 refine zi fun r1 hr1 => ?_
 obtain ⟨qr1, er1, exr1, rfl⟩ := Z2t (zl) (zp) (z7) (zd) (zh) (z2) (z6) zn zb zu r1 hr1
 refine zc [0] (iv r1.1) [(Zi (Zk.mk zl r1.2 z7 zd zh (Zj.mk z2 z6)) zn zb)] er1 ?_
 refine zo (iv (IntKind.i64.wrap ((IntKind.i64.wrap (10 * (max x3 0))) + r1.1))) ?_
 refine zo (iv (IntKind.i64.wrap ((IntKind.i64.wrap ((IntKind.i64.wrap (10 * (max x3 0))) + r1.1)) - 48))) ?_
 refine ze ?_
 refine zo (iv (IntKind.i64.wrap (x4 + 1))) ?_
 exact zk (Z6T ((IntKind.i64.wrap ((IntKind.i64.wrap ((IntKind.i64.wrap (10 * (max x3 0))) + r1.1)) - 48))) ((IntKind.i64.wrap (x4 + 1))) (zl) (r1.2) (z7) (zd) (zh) (z2) (z6) zn zb zu)
noncomputable def Z39 (x3 : Int) (zp : Int) : Option (Int × Int) :=
 some (x3, zp)
theorem Z5a (x3 : Int) (zl : List Int) (zp : Int) (z7 : Int) (zd : Int) (zh : List Zq) (z2 : Int) (z6 : Int) (zn : Own) (zb : Own) (zu : okApp zb = true) : Sim (Z24 zl z7 zd zh z2 z6 zn zb) (Z39 x3 zp) (ZcU 1 (iv x3) [(Zi (Zk.mk zl zp z7 zd zh (Zj.mk z2 z6)) zn zb)]) := by
 unfold Z39
 refine zf (Zj9 ..) ?_
 refine ze ?_
 exact zr ((iv x3), [(Zi (Zk.mk zl zp z7 zd zh (Zj.mk z2 z6)) zn zb)]) ⟨_, rfl⟩
noncomputable def Z4N (x3 : Int) (x4 : Int) (zl : List Int) (zp : Int) (z7 : Int) (zd : Int) (zh : List Zq) (z2 : Int) (z6 : Int) : Option (Int × Int) :=
 if ((decide (x4 < 2))) = true then
 ((Z1F ((Zk.mk zl zp z7 zd zh (Zj.mk z2 z6)))).bind fun r1 =>
 if ((decide (48 ≤ r1))) = true then
 ((Z1F ((Zk.mk zl zp z7 zd zh (Zj.mk z2 z6)))).bind fun r2 =>
 if ((decide (r2 ≤ 57))) = true then
 (Z4K x3 x4 zl zp z7 zd zh z2 z6)
 else
 (Z39 x3 zp))
 else
 (Z39 x3 zp))
 else
 (Z39 x3 zp)
theorem Z9u (x3 : Int) (x4 : Int) (zl : List Int) (zp : Int) (z7 : Int) (zd : Int) (zh : List Zq) (z2 : Int) (z6 : Int) (zn : Own) (zb : Own) (zu : okApp zb = true) : Sim (Z24 zl z7 zd zh z2 z6 zn zb) (Z4N x3 x4 zl zp z7 zd zh z2 z6) (Zcb 1 (.ptr 0 0) (iv x3) (iv x4) [(Zi (Zk.mk zl zp z7 zd zh (Zj.mk z2 z6)) zn zb)]) := by
 unfold Z4N
 refine zf (ZiA ..) ?_
 refine ze ?_
 refine zo (bv (decide (x4 < 2))) ?_
 refine za ((decide (x4 < 2))) ?_ ?_
 ·refine zi fun r1 hr1 => ?_
  obtain ⟨qr1, er1, exr1, rfl⟩ := Z1K ((Zk.mk zl zp z7 zd zh (Zj.mk z2 z6))) zn zb zu r1 hr1
  refine zc [0] (iv r1) [(Zi (Zk.mk zl zp z7 zd zh (Zj.mk z2 z6)) zn zb)] er1 ?_
  refine zo (bv (decide (48 ≤ r1))) ?_
  refine za ((decide (48 ≤ r1))) ?_ ?_
  ·refine zi fun r2 hr2 => ?_
   obtain ⟨qr2, er2, exr2, rfl⟩ := Z1K ((Zk.mk zl zp z7 zd zh (Zj.mk z2 z6))) zn zb zu r2 hr2
   refine zc [0] (iv r2) [(Zi (Zk.mk zl zp z7 zd zh (Zj.mk z2 z6)) zn zb)] er2 ?_
   refine zo (bv (decide (r2 ≤ 57))) ?_
   refine za ((decide (r2 ≤ 57))) ?_ ?_
   ·exact zk (Z9z (x3) (x4) (zl) (zp) (z7) (zd) (zh) (z2) (z6) zn zb zu)
   ·exact zk (Z5a (x3) (zl) (zp) (z7) (zd) (zh) (z2) (z6) zn zb zu)
  ·exact zk (Z5a (x3) (zl) (zp) (z7) (zd) (zh) (z2) (z6) zn zb zu)
 ·exact zk (Z5a (x3) (zl) (zp) (z7) (zd) (zh) (z2) (z6) zn zb zu)
theorem Z9W (x3 : Int) (x4 : Int) (zl : List Int) (zp : Int) (z7 : Int) (zd : Int) (zh : List Zq) (z2 : Int) (z6 : Int) {r} (h : Z4N x3 x4 zl zp z7 zd zh z2 z6 = some r) : Z2B x3 x4 zl zp z7 zd zh z2 z6 = some r :=
 pick_of (fun _ _ ha hb => RRun.uniq (Z86 _ _ _ _ _ _ _ _) (ha .ex .ex rfl) (hb .ex .ex rfl)) (fun zn zb zu => Z9u x3 x4 zl zp z7 zd zh z2 z6 zn zb zu r h)
noncomputable def Z4W (x2 : Int) (x3 : Int) : Option (Int × Int) :=
 some (x2, x3)
theorem Z5s (x2 : Int) (x3 : Int) : Sim (Z21) (Z4W x2 x3) (ZaH 0 (iv x2) (iv x3) []) := by
 unfold Z4W
 refine zf (Zhu ..) ?_
 refine ze ?_
 exact zr ((.p (.tup [(.v (.int .i64 x2)), (.v (.int .i64 x3))])), []) ⟨_, rfl⟩
noncomputable def Z75 (x0 : Z3) : Option (Int × Int) :=
 if ((x0.Kind == 1)) = true then
 (some (1, 1))
 else
 (if ((x0.Kind == 6)) = true then
 (some (0, (-1)))
 else
 (if ((x0.Kind == 2)) = true then
 (Z5e 0 0 x0.Kids ((x0.Kids.length : Int)) 0)
 else
 (if ((x0.Kind == 3)) = true then
 (Z47 1048576 0 x0.Kids ((x0.Kids.length : Int)) 0)
 else
 (if ((x0.Kind == 4)) = true then
 ((lget x0.Kids 0).bind fun a1 =>
 (Z1n a1).bind fun r2 =>
 (Z6e r2.2 x0.Hi).bind fun r3 =>
 some ((min (IntKind.i64.wrap (r2.1 * x0.Lo)) 1048576), r3))
 else
 (if ((x0.Kind == 5)) = true then
 (if ((x0.Kind == 5)) = true then
 ((lget x0.Kids 0).bind fun a4 =>
 (Z1n a4).bind fun r5 =>
 some (r5.1, r5.2))
 else
 (Z4W 0 0))
 else
 (if ((x0.Kind == 8)) = true then
 ((lget x0.Kids 0).bind fun a6 =>
 (Z1n a6).bind fun r7 =>
 some (r7.1, r7.2))
 else
 (Z4W 0 0)))))))
theorem Zds (x0 : Z3) (z1c : Own) (zY : Own) : Sim (Z21) (Z75 x0) (EE 24 [(.p (.agg (Zz x0 z1c zY)))] []) := by
 unfold Z75
 refine zf (Zkz ..) ?_
 refine ze ?_
 refine zx (.ptr 0 0) [(Zo x0 z1c zY)] ?_
 refine ze ?_
 refine zo (.ptr 0 0) ?_
 refine zo (iv x0.Kind) ?_
 refine ze ?_
 refine zo (bv (x0.Kind == 1)) ?_
 refine za ((x0.Kind == 1)) ?_ ?_
 ·refine ze ?_
  exact zr ((.p (.tup [(.v (.int .i64 1)), (.v (.int .i64 1))])), [(Zo x0 z1c zY)]) ⟨_, rfl⟩
 ·refine ze ?_
  refine zo (bv (x0.Kind == 6)) ?_
  refine za ((x0.Kind == 6)) ?_ ?_
  ·refine ze ?_
   exact zr ((.p (.tup [(.v (.int .i64 0)), (.v (.int .i64 (-1)))])), [(Zo x0 z1c zY)]) ⟨_, rfl⟩
  ·refine ze ?_
   refine zo (bv (x0.Kind == 2)) ?_
   refine za ((x0.Kind == 2)) ?_ ?_
   ·refine ze ?_
    refine zo (.ptr 0 6) ?_
    refine zo (.p (.lst (shrO zY) (x0.Kids.map ZD))) ?_
    refine zo (iv (x0.Kids.length : Int)) ?_ (Eq.trans (by kernel_rfl) (xlen_of (P := PP) (t := 25) (d := 27) (by kernel_rfl) ZD (shrO zY) x0.Kids))
    exact zk (Z9q (0) (0) (x0.Kids) ((x0.Kids.length : Int)) (0) (shrO zY))
   ·refine ze ?_
    refine zo (bv (x0.Kind == 3)) ?_
    refine za ((x0.Kind == 3)) ?_ ?_
    ·refine ze ?_
     refine ze ?_
     refine zo (.ptr 0 6) ?_
     refine zo (.p (.lst (shrO zY) (x0.Kids.map ZD))) ?_
     refine zo (iv (x0.Kids.length : Int)) ?_ (Eq.trans (by kernel_rfl) (xlen_of (P := PP) (t := 25) (d := 27) (by kernel_rfl) ZD (shrO zY) x0.Kids))
     exact zk (Z96 (1048576) (0) (x0.Kids) ((x0.Kids.length : Int)) (0) (shrO zY))
    ·refine ze ?_
     refine zo (bv (x0.Kind == 4)) ?_
     refine za ((x0.Kind == 4)) ?_ ?_
     ·refine ze ?_
      refine zo (.ptr 0 6) ?_
      refine zo (.p (.lst (shrO zY) (x0.Kids.map ZD))) ?_
      refine zi fun a1 ha1 => ?_
      refine zo (.cptr (Zz a1 .sh .sh)) ?_ (Eq.trans (by kernel_rfl) (xidx_of (o := (shrO zY)) (k := .i64) (n := 7) (e := ZD) (cs := Z1T) Z3Y (fun _ => rfl) (by decide) ha1))
      refine zo (.p (.agg (Zz a1 .sh .sh))) ?_
      refine zi fun r2 hr2 => ?_
      obtain ⟨qr2, er2, exr2, rfl⟩ := Z3g (a1) .sh .sh r2 hr2
      refine zc [] (.p (.tup [(.v (.int .i64 r2.1)), (.v (.int .i64 r2.2))])) [(Zo x0 z1c zY)] er2 ?_
      refine zo (iv r2.1) ?_
      refine zo (iv r2.2) ?_
      refine ze ?_
      refine zo (.ptr 0 1) ?_
      refine zo (iv x0.Lo) ?_
      refine zo (iv (IntKind.i64.wrap (r2.1 * x0.Lo))) ?_
      refine zo (iv (min (IntKind.i64.wrap (r2.1 * x0.Lo)) 1048576)) ?_ (xminmax2_min _ _)
      refine zo (.ptr 0 2) ?_
      refine zo (iv x0.Hi) ?_
      refine zi fun r3 hr3 => ?_
      obtain ⟨qr3, er3, exr3, rfl⟩ := ZdQ (r2.2) (x0.Hi) r3 hr3
      refine zc [] (iv r3) [(Zo x0 z1c zY)] er3 ?_
      refine zg ?_
      exact zr ((.p (.tup [(.v (.int .i64 (min (IntKind.i64.wrap (r2.1 * x0.Lo)) 1048576))), (.v (.int .i64 r3))])), [(Zo x0 z1c zY)]) ⟨_, rfl⟩
     ·refine ze ?_
      refine zo (bv (x0.Kind == 5)) ?_
      refine za ((x0.Kind == 5)) ?_ ?_
      ·refine za ((x0.Kind == 5)) ?_ ?_
       ·refine ze ?_
        refine zo (.ptr 0 6) ?_
        refine zo (.p (.lst (shrO zY) (x0.Kids.map ZD))) ?_
        refine zi fun a4 ha4 => ?_
        refine zo (.cptr (Zz a4 .sh .sh)) ?_ (Eq.trans (by kernel_rfl) (xidx_of (o := (shrO zY)) (k := .i64) (n := 7) (e := ZD) (cs := Z1T) Z3Y (fun _ => rfl) (by decide) ha4))
        refine zo (.p (.agg (Zz a4 .sh .sh))) ?_
        refine zi fun r5 hr5 => ?_
        obtain ⟨qr5, er5, exr5, rfl⟩ := Z3g (a4) .sh .sh r5 hr5
        refine zc [] (.p (.tup [(.v (.int .i64 r5.1)), (.v (.int .i64 r5.2))])) [(Zo x0 z1c zY)] er5 ?_
        refine zo (iv r5.1) ?_
        refine zo (iv r5.2) ?_
        exact zr ((.p (.tup [(.v (.int .i64 r5.1)), (.v (.int .i64 r5.2))])), [(Zo x0 z1c zY)]) ⟨_, rfl⟩
       ·exact zk (Z5s (0) (0))
      ·refine ze ?_
       refine zo (bv (x0.Kind == 8)) ?_
       refine za ((x0.Kind == 8)) ?_ ?_
       ·refine ze ?_
        refine zo (.ptr 0 6) ?_
        refine zo (.p (.lst (shrO zY) (x0.Kids.map ZD))) ?_
        refine zi fun a6 ha6 => ?_
        refine zo (.cptr (Zz a6 .sh .sh)) ?_ (Eq.trans (by kernel_rfl) (xidx_of (o := (shrO zY)) (k := .i64) (n := 7) (e := ZD) (cs := Z1T) Z3Y (fun _ => rfl) (by decide) ha6))
        refine zo (.p (.agg (Zz a6 .sh .sh))) ?_
        refine zi fun r7 hr7 => ?_
        obtain ⟨qr7, er7, exr7, rfl⟩ := Z3g (a6) .sh .sh r7 hr7
        refine zc [] (.p (.tup [(.v (.int .i64 r7.1)), (.v (.int .i64 r7.2))])) [(Zo x0 z1c zY)] er7 ?_
        refine zo (iv r7.1) ?_
        refine zo (iv r7.2) ?_
        exact zr ((.p (.tup [(.v (.int .i64 r7.1)), (.v (.int .i64 r7.2))])), [(Zo x0 z1c zY)]) ⟨_, rfl⟩
       ·exact zk (Z5s (0) (0))
theorem ZaO (x0 : Z3) {r} (h : Z75 x0 = some r) : Z1n x0 = some r :=
 pick_of (fun _ _ ha hb => RRun.uniq (Z9c) (ha .ex .ex) (hb .ex .ex)) (fun z1c zY => Zds x0 z1c zY r h)
noncomputable def Z5Y (x2 : Int) (x3 : Int) (x23 : List Z3) (x24 : Int) (x25 : Int) : Option (Int × Int) :=
 (lget x23 x25).bind fun a1 =>
 (Z1n a1).bind fun r2 =>
 (Z9O x3 r2.2).bind fun r3 =>
 Z5e ((min (IntKind.i64.wrap (x2 + r2.1)) 1048576)) r3 x23 x24 ((IntKind.i64.wrap (x25 + 1)))
theorem Zcr (x2 : Int) (x3 : Int) (x23 : List Z3) (x24 : Int) (x25 : Int) (ox23 : Own) : Sim (Z21) (Z5Y x2 x3 x23 x24 x25) (ZfU 0 (iv x2) (iv x3) (.p (.lst ox23 (x23.map ZD))) (iv x24) (iv x25) []) := by
 unfold Z5Y
 refine zf (Zih ..) ?_
 refine ze ?_
 refine zi fun a1 ha1 => ?_
 refine zo (.cptr (Zz a1 .sh .sh)) ?_ (Eq.trans (by kernel_rfl) (xidx_of (o := ox23) (k := .i64) (n := 7) (e := ZD) (cs := Z1T) Z3Y (fun _ => rfl) (by decide) ha1))
 refine zo (.p (.agg (Zz a1 .sh .sh))) ?_
 refine zz (.ptr 0 0) [(Zo (Z3.mk 0 0 0 0 0 ([] : List Z8) ([] : List Z3)) .nl .nl)] ?_
 refine zt [(Zo a1 .sh .sh)] ?_
 refine ze ?_
 refine zo (.p (.agg (Zz a1 .sh .sh))) ?_
 refine zi fun r2 hr2 => ?_
 obtain ⟨qr2, er2, exr2, rfl⟩ := Z3g (a1) .sh .sh r2 hr2
 refine zc [] (.p (.tup [(.v (.int .i64 r2.1)), (.v (.int .i64 r2.2))])) [(Zo a1 .sh .sh)] er2 ?_
 refine zo (iv r2.1) ?_
 refine zo (iv r2.2) ?_
 refine ze ?_
 refine zo (iv (IntKind.i64.wrap (x2 + r2.1))) ?_
 refine zo (iv (min (IntKind.i64.wrap (x2 + r2.1)) 1048576)) ?_ (xminmax2_min _ _)
 refine zi fun r3 hr3 => ?_
 obtain ⟨qr3, er3, exr3, rfl⟩ := ZeY (x3) (r2.2) r3 hr3
 refine zc [] (iv r3) [(Zo a1 .sh .sh)] er3 ?_
 refine ze ?_
 refine zo (iv (IntKind.i64.wrap (x25 + 1))) ?_
 exact zk (Z9q ((min (IntKind.i64.wrap (x2 + r2.1)) 1048576)) (r3) (x23) (x24) ((IntKind.i64.wrap (x25 + 1))) ox23)
noncomputable def Z4m (x2 : Int) (x3 : Int) (x23 : List Z3) (x24 : Int) (x25 : Int) : Option (Int × Int) :=
 if ((decide (x25 < x24))) = true then
 (Z5Y x2 x3 x23 x24 x25)
 else
 (Z4W x2 x3)
theorem ZcB (x2 : Int) (x3 : Int) (x23 : List Z3) (x24 : Int) (x25 : Int) (ox23 : Own) : Sim (Z21) (Z4m x2 x3 x23 x24 x25) (Zc3 0 (iv x2) (iv x3) (.p (.lst ox23 (x23.map ZD))) (iv x24) (iv x25) []) := by
 unfold Z4m
 refine zf (Zi1 ..) ?_
 refine ze ?_
 refine zo (bv (decide (x25 < x24))) ?_
 refine za ((decide (x25 < x24))) ?_ ?_
 ·exact zk (Zcr (x2) (x3) (x23) (x24) (x25) ox23)
 ·exact zk (Z5s (x2) (x3))
theorem Z67 (x2 : Int) (x3 : Int) (x23 : List Z3) (x24 : Int) (x25 : Int) {r} (h : Z4m x2 x3 x23 x24 x25 = some r) : Z5e x2 x3 x23 x24 x25 = some r :=
 pick_of (fun _ _ ha hb => RRun.uniq (Z9c) (ha .ex) (hb .ex)) (fun ox23 => ZcB x2 x3 x23 x24 x25 ox23 r h)
noncomputable def Z4X (x2 : Int) (x3 : Int) (x45 : List Z3) (x46 : Int) (x47 : Int) : Option (Int × Int) :=
 Z47 x2 x3 x45 x46 ((IntKind.i64.wrap (x47 + 1)))
theorem Z8W (x2 : Int) (x3 : Int) (x45 : List Z3) (x46 : Int) (x47 : Int) (ox45 : Own) : Sim (Z21) (Z4X x2 x3 x45 x46 x47) (Zdj 0 (iv x2) (iv x3) (.p (.lst ox45 (x45.map ZD))) (iv x46) (iv x47) []) := by
 unfold Z4X
 refine zf (Zhe ..) ?_
 refine ze ?_
 refine zo (iv (IntKind.i64.wrap (x47 + 1))) ?_
 exact zk (Z96 (x2) (x3) (x45) (x46) ((IntKind.i64.wrap (x47 + 1))) ox45)
noncomputable def Z4V (x2 : Int) (x45 : List Z3) (x46 : Int) (x47 : Int) : Option (Int × Int) :=
 Z4X x2 ((-1)) x45 x46 x47
theorem Z8T (x2 : Int) (x45 : List Z3) (x46 : Int) (x47 : Int) (ox45 : Own) : Sim (Z21) (Z4V x2 x45 x46 x47) (Zdf 0 (iv x2) (.p (.lst ox45 (x45.map ZD))) (iv x46) (iv x47) []) := by
 unfold Z4V
 refine zf (Zh1 ..) ?_
 refine ze ?_
 exact zk (Z8W (x2) ((-1)) (x45) (x46) (x47) ox45)
noncomputable def Z5H (x2 : Int) (x3 : Int) (x11 : Int) (x45 : List Z3) (x46 : Int) (x47 : Int) : Option (Int × Int) :=
 Z4X x2 ((max x3 x11)) x45 x46 x47
theorem Zc0 (x2 : Int) (x3 : Int) (x11 : Int) (x45 : List Z3) (x46 : Int) (x47 : Int) (ox45 : Own) : Sim (Z21) (Z5H x2 x3 x11 x45 x46 x47) (Zeu 0 (iv x2) (iv x3) (iv x11) (.p (.lst ox45 (x45.map ZD))) (iv x46) (iv x47) []) := by
 unfold Z5H
 refine zf (Zhf ..) ?_
 refine ze ?_
 refine zo (iv (max x3 x11)) ?_ (xminmax2_max _ _)
 exact zk (Z8W (x2) ((max x3 x11)) (x45) (x46) (x47) ox45)
noncomputable def Z5G (x2 : Int) (x3 : Int) (x45 : List Z3) (x46 : Int) (x47 : Int) : Option (Int × Int) :=
 (lget x45 x47).bind fun a1 =>
 (Z1n a1).bind fun r2 =>
 if ((decide (r2.2 < 0))) = true then
 (Z4V ((min x2 r2.1)) x45 x46 x47)
 else
 (if ((decide (x3 < 0))) = true then
 (Z4V ((min x2 r2.1)) x45 x46 x47)
 else
 (Z5H ((min x2 r2.1)) x3 r2.2 x45 x46 x47))
theorem Zca (x2 : Int) (x3 : Int) (x45 : List Z3) (x46 : Int) (x47 : Int) (ox45 : Own) : Sim (Z21) (Z5G x2 x3 x45 x46 x47) (ZeB 0 (iv x2) (iv x3) (.p (.lst ox45 (x45.map ZD))) (iv x46) (iv x47) []) := by
 unfold Z5G
 refine zf (Zhs ..) ?_
 refine ze ?_
 refine zi fun a1 ha1 => ?_
 refine zo (.cptr (Zz a1 .sh .sh)) ?_ (Eq.trans (by kernel_rfl) (xidx_of (o := ox45) (k := .i64) (n := 7) (e := ZD) (cs := Z1T) Z3Y (fun _ => rfl) (by decide) ha1))
 refine zo (.p (.agg (Zz a1 .sh .sh))) ?_
 refine zz (.ptr 0 0) [(Zo (Z3.mk 0 0 0 0 0 ([] : List Z8) ([] : List Z3)) .nl .nl)] ?_
 refine zt [(Zo a1 .sh .sh)] ?_
 refine ze ?_
 refine zo (.p (.agg (Zz a1 .sh .sh))) ?_
 refine zi fun r2 hr2 => ?_
 obtain ⟨qr2, er2, exr2, rfl⟩ := Z3g (a1) .sh .sh r2 hr2
 refine zc [] (.p (.tup [(.v (.int .i64 r2.1)), (.v (.int .i64 r2.2))])) [(Zo a1 .sh .sh)] er2 ?_
 refine zo (iv r2.1) ?_
 refine zo (iv r2.2) ?_
 refine ze ?_
 refine zo (iv (min x2 r2.1)) ?_ (xminmax2_min _ _)
 refine ze ?_
 refine zo (bv (decide (r2.2 < 0))) ?_
 refine za ((decide (r2.2 < 0))) ?_ ?_
 ·exact zk (Z8T ((min x2 r2.1)) (x45) (x46) (x47) ox45)
 ·refine zo (bv (decide (x3 < 0))) ?_
  refine za ((decide (x3 < 0))) ?_ ?_
  ·exact zk (Z8T ((min x2 r2.1)) (x45) (x46) (x47) ox45)
  ·exact zk (Zc0 ((min x2 r2.1)) (x3) (r2.2) (x45) (x46) (x47) ox45)
noncomputable def Z45 (x2 : Int) (x3 : Int) (x45 : List Z3) (x46 : Int) (x47 : Int) : Option (Int × Int) :=
 if ((decide (x47 < x46))) = true then
 (Z5G x2 x3 x45 x46 x47)
 else
 (Z4W x2 x3)
theorem Zc5 (x2 : Int) (x3 : Int) (x45 : List Z3) (x46 : Int) (x47 : Int) (ox45 : Own) : Sim (Z21) (Z45 x2 x3 x45 x46 x47) (ZaE 0 (iv x2) (iv x3) (.p (.lst ox45 (x45.map ZD))) (iv x46) (iv x47) []) := by
 unfold Z45
 refine zf (ZgU ..) ?_
 refine ze ?_
 refine zo (bv (decide (x47 < x46))) ?_
 refine za ((decide (x47 < x46))) ?_ ?_
 ·exact zk (Zca (x2) (x3) (x45) (x46) (x47) ox45)
 ·exact zk (Z5s (x2) (x3))
theorem Z5M (x2 : Int) (x3 : Int) (x45 : List Z3) (x46 : Int) (x47 : Int) {r} (h : Z45 x2 x3 x45 x46 x47 = some r) : Z47 x2 x3 x45 x46 x47 = some r :=
 pick_of (fun _ _ ha hb => RRun.uniq (Z9c) (ha .ex) (hb .ex)) (fun ox45 => Zc5 x2 x3 x45 x46 x47 ox45 r h)
end Go.Proofs.YtadodmjdkphddaaDoor.N2
end
section
set_option linter.unusedSimpArgs false
set_option linter.unusedVariables false
namespace Go.Proofs.YtadodmjdkphddaaDoor.N2
open Go Go.Abs
set_option linter.unusedVariables false
set_option maxRecDepth 100000
noncomputable def Z5W  : Option (Int) :=
 some (0)
theorem Z9i  : Sim (Z4j) (Z5W) (Zej 0  []) := by
 unfold Z5W
 refine zf (Zir ..) ?_
 refine ze ?_
 exact zr ((iv 0), []) ⟨_, rfl⟩
noncomputable def Z5Z  : Option (Int) :=
 some ((-1))
theorem Z9g  : Sim (Z4j) (Z5Z) (Ze2 0  []) := by
 unfold Z5Z
 refine zf (ZhI ..) ?_
 refine ze ?_
 exact zr ((iv (-1)), []) ⟨_, rfl⟩
noncomputable def Z6V (x0 : Int) (x1 : Int) : Option (Int) :=
 (Z7q ((IntKind.i64.wrap (x0 * x1)))).bind fun r1 =>
 some (r1)
theorem Zcp (x0 : Int) (x1 : Int) : Sim (Z4j) (Z6V x0 x1) (Zfd 0 (iv x0) (iv x1) []) := by
 unfold Z6V
 refine zf (ZhZ ..) ?_
 refine ze ?_
 refine zo (iv (IntKind.i64.wrap (x0 * x1))) ?_
 refine zi fun r1 hr1 => ?_
 obtain ⟨qr1, er1, exr1, rfl⟩ := Zbg ((IntKind.i64.wrap (x0 * x1))) r1 hr1
 refine zc [] (iv r1) [] er1 ?_
 exact zr ((iv r1), []) ⟨_, rfl⟩
noncomputable def Z6W (x0 : Int) (x1 : Int) : Option (Int) :=
 if ((decide (x0 < 0))) = true then
 (Z5Z)
 else
 (if ((decide (x1 < 0))) = true then
 (Z5Z)
 else
 (Z6V x0 x1))
theorem Zco (x0 : Int) (x1 : Int) : Sim (Z4j) (Z6W x0 x1) (ZfN 0 (iv x0) (iv x1) []) := by
 unfold Z6W
 refine zf (ZiF ..) ?_
 refine ze ?_
 refine zo (bv (decide (x0 < 0))) ?_
 refine za ((decide (x0 < 0))) ?_ ?_
 ·exact zk (Z9g )
 ·refine zo (bv (decide (x1 < 0))) ?_
  refine za ((decide (x1 < 0))) ?_ ?_
  ·exact zk (Z9g )
  ·exact zk (Zcp (x0) (x1))
noncomputable def Z8v (x0 : Int) (x1 : Int) : Option (Int) :=
 if ((x0 == 0)) = true then
 (Z5W)
 else
 (if ((x1 == 0)) = true then
 (Z5W)
 else
 (Z6W x0 x1))
theorem Zdx (x0 : Int) (x1 : Int) : Sim (Z4j) (Z8v x0 x1) (EE 33 [(iv x0), (iv x1)] []) := by
 unfold Z8v
 refine zf (ZkQ ..) ?_
 refine ze ?_
 refine ze ?_
 refine zo (bv (x0 == 0)) ?_
 refine za ((x0 == 0)) ?_ ?_
 ·exact zk (Z9i )
 ·refine zo (bv (x1 == 0)) ?_
  refine za ((x1 == 0)) ?_ ?_
  ·exact zk (Z9i )
  ·exact zk (Zco (x0) (x1))
theorem ZdG (x0 : Int) (x1 : Int) {r} (h : Z8v x0 x1 = some r) : Z6e x0 x1 = some r :=
 pick_of (fun _ _ ha hb => RRun.uniq (Ze5) (ha ) (hb )) (Zdx x0 x1 r h)
noncomputable def Z7c (x0 : Int) : Option (Int) :=
 some (x0)
theorem ZcL (x0 : Int) : Sim (Z6K) (Z7c x0) (Zgi 0 (iv x0) []) := by
 unfold Z7c
 refine zf (ZiH ..) ?_
 refine ze ?_
 exact zr ((iv x0), []) ⟨_, rfl⟩
noncomputable def Z98 (x0 : Int) : Option (Int) :=
 if ((decide (1048576 < x0))) = true then
 (some ((-1)))
 else
 (Z7c x0)
theorem ZdO (x0 : Int) : Sim (Z6K) (Z98 x0) (EE 38 [(iv x0)] []) := by
 unfold Z98
 refine zf (Zki ..) ?_
 refine ze ?_
 refine ze ?_
 refine zo (bv (decide (1048576 < x0))) ?_
 refine za ((decide (1048576 < x0))) ?_ ?_
 ·refine ze ?_
  exact zr ((iv (-1)), []) ⟨_, rfl⟩
 ·exact zk (ZcL (x0))
theorem Ze3 (x0 : Int) {r} (h : Z98 x0 = some r) : Z7q x0 = some r :=
 pick_of (fun _ _ ha hb => RRun.uniq (ZeH) (ha ) (hb )) (ZdO x0 r h)
noncomputable def Z6P  : Option (Int) :=
 some ((-1))
theorem Z9Y  : Sim (Z6s) (Z6P) (ZdY 0  []) := by
 unfold Z6P
 refine zf (Ziz ..) ?_
 refine ze ?_
 exact zr ((iv (-1)), []) ⟨_, rfl⟩
noncomputable def Z80 (x0 : Int) (x1 : Int) : Option (Int) :=
 (Z7q ((IntKind.i64.wrap (x0 + x1)))).bind fun r1 =>
 some (r1)
theorem Zd8 (x0 : Int) (x1 : Int) : Sim (Z6s) (Z80 x0 x1) (Zgn 0 (iv x0) (iv x1) []) := by
 unfold Z80
 refine zf (ZhP ..) ?_
 refine ze ?_
 refine zo (iv (IntKind.i64.wrap (x0 + x1))) ?_
 refine zi fun r1 hr1 => ?_
 obtain ⟨qr1, er1, exr1, rfl⟩ := Zbg ((IntKind.i64.wrap (x0 + x1))) r1 hr1
 refine zc [] (iv r1) [] er1 ?_
 exact zr ((iv r1), []) ⟨_, rfl⟩
noncomputable def Z9M (x0 : Int) (x1 : Int) : Option (Int) :=
 if ((decide (x0 < 0))) = true then
 (Z6P)
 else
 (if ((decide (x1 < 0))) = true then
 (Z6P)
 else
 (Z80 x0 x1))
theorem ZdT (x0 : Int) (x1 : Int) : Sim (Z6s) (Z9M x0 x1) (EE 32 [(iv x0), (iv x1)] []) := by
 unfold Z9M
 refine zf (Zk0 ..) ?_
 refine ze ?_
 refine ze ?_
 refine zo (bv (decide (x0 < 0))) ?_
 refine za ((decide (x0 < 0))) ?_ ?_
 ·exact zk (Z9Y )
 ·refine zo (bv (decide (x1 < 0))) ?_
  refine za ((decide (x1 < 0))) ?_ ?_
  ·exact zk (Z9Y )
  ·exact zk (Zd8 (x0) (x1))
theorem ZeG (x0 : Int) (x1 : Int) {r} (h : Z9M x0 x1 = some r) : Z9O x0 x1 = some r :=
 pick_of (fun _ _ ha hb => RRun.uniq (ZeZ) (ha ) (hb )) (ZdT x0 x1 r h)
noncomputable def ZaV (x0 : Z3) : Option (Int) :=
 Z3v 0 x0.Kids ((x0.Kids.length : Int)) 0 x0
theorem ZdR (x0 : Z3) (z1c : Own) (zY : Own) : Sim (Z3i) (ZaV x0) (EE 25 [(.p (.agg (Zz x0 z1c zY)))] []) := by
 unfold ZaV
 refine zf (Zko ..) ?_
 refine ze ?_
 refine zx (.ptr 0 0) [(Zo x0 z1c zY)] ?_
 refine ze ?_
 refine ze ?_
 refine zo (.ptr 0 6) ?_
 refine zo (.p (.lst (shrO zY) (x0.Kids.map ZD))) ?_
 refine zo (iv (x0.Kids.length : Int)) ?_ (Eq.trans (by kernel_rfl) (xlen_of (P := PP) (t := 25) (d := 27) (by kernel_rfl) ZD (shrO zY) x0.Kids))
 exact zk (Z9V (0) (x0.Kids) ((x0.Kids.length : Int)) (0) (x0) (shrO zY) z1c zY)
theorem Z7b (x0 : Z3) {r} (h : ZaV x0 = some r) : Z25 x0 = some r :=
 pick_of (fun _ _ ha hb => RRun.uniq (ZbS) (ha .ex .ex) (hb .ex .ex)) (fun z1c zY => ZdR x0 z1c zY r h)
noncomputable def Z6m (x3 : Int) (x8 : List Z3) (x9 : Int) (x10 : Int) (b0 : Z3) : Option (Int) :=
 (lget x8 x10).bind fun a1 =>
 (Z25 a1).bind fun r2 =>
 Z3v ((min (IntKind.i64.wrap (x3 + r2)) 1048576)) x8 x9 ((IntKind.i64.wrap (x10 + 1))) b0
theorem ZcF (x3 : Int) (x8 : List Z3) (x9 : Int) (x10 : Int) (b0 : Z3) (ox8 : Own) (z1d : Own) (z12 : Own) : Sim (Z3i) (Z6m x3 x8 x9 x10 b0) (Zg8 0 (.ptr 0 0) (iv x3) (.p (.lst ox8 (x8.map ZD))) (iv x9) (iv x10) [(Zo b0 z1d z12)]) := by
 unfold Z6m
 refine zf (Zie ..) ?_
 refine ze ?_
 refine zi fun a1 ha1 => ?_
 refine zo (.cptr (Zz a1 .sh .sh)) ?_ (Eq.trans (by kernel_rfl) (xidx_of (o := ox8) (k := .i64) (n := 7) (e := ZD) (cs := Z1T) Z3Y (fun _ => rfl) (by decide) ha1))
 refine zo (.p (.agg (Zz a1 .sh .sh))) ?_
 refine zz (.ptr 1 0) [(Zo b0 z1d z12), (Zo (Z3.mk 0 0 0 0 0 ([] : List Z8) ([] : List Z3)) .nl .nl)] ?_
 refine zt [(Zo b0 z1d z12), (Zo a1 .sh .sh)] ?_
 refine ze ?_
 refine zo (.p (.agg (Zz a1 .sh .sh))) ?_
 refine zi fun r2 hr2 => ?_
 obtain ⟨qr2, er2, exr2, rfl⟩ := Z6q (a1) .sh .sh r2 hr2
 refine zc [] (iv r2) [(Zo b0 z1d z12), (Zo a1 .sh .sh)] er2 ?_
 refine zo (iv (IntKind.i64.wrap (x3 + r2))) ?_
 refine zo (iv (min (IntKind.i64.wrap (x3 + r2)) 1048576)) ?_ (xminmax2_min _ _)
 refine ze ?_
 refine zo (iv (IntKind.i64.wrap (x10 + 1))) ?_
 exact zk (Z9V ((min (IntKind.i64.wrap (x3 + r2)) 1048576)) (x8) (x9) ((IntKind.i64.wrap (x10 + 1))) (b0) ox8 z1d z12)
noncomputable def ZW (x3 : Int) : Option (Int) :=
 some ((min x3 1048576))
theorem Z14 (x3 : Int) : Sim (Z3i) (ZW x3) (Z2T 0 (iv x3) []) := by
 unfold ZW
 refine zf (Zhh ..) ?_
 refine ze ?_
 refine zo (iv (min x3 1048576)) ?_ (xminmax2_min _ _)
 exact zr ((iv (min x3 1048576)), []) ⟨_, rfl⟩
noncomputable def Z15 (x3 : Int) (b0 : Z3) : Option (Int) :=
 if ((b0.Mode == 2)) = true then
 (ZW ((IntKind.i64.wrap (x3 + 2))))
 else
 (ZW x3)
theorem Z1g (x3 : Int) (b0 : Z3) (z1d : Own) (z12 : Own) : Sim (Z3i) (Z15 x3 b0) (Z3E 0 (.ptr 0 0) (iv x3) [(Zo b0 z1d z12)]) := by
 unfold Z15
 refine zf (ZgY ..) ?_
 refine ze ?_
 refine zo (.ptr 0 3) ?_
 refine zo (iv b0.Mode) ?_
 refine zo (bv (b0.Mode == 2)) ?_
 refine za ((b0.Mode == 2)) ?_ ?_
 ·refine ze ?_
  refine zo (iv (IntKind.i64.wrap (x3 + 2))) ?_
  exact zk (Z14 ((IntKind.i64.wrap (x3 + 2))))
 ·exact zk (Z14 (x3))
noncomputable def Z1N (x3 : Int) (b0 : Z3) : Option (Int) :=
 if ((b0.Kind == 1)) = true then
 (if ((b0.Kind == 1)) = true then
 (some (1))
 else
 (if ((b0.Kind == 3)) = true then
 (ZW ((IntKind.i64.wrap (x3 + (IntKind.i64.wrap (2 * (IntKind.i64.wrap ((b0.Kids.length : Int) - 1))))))))
 else
 (if ((b0.Kind == 5)) = true then
 (if ((b0.Kind == 5)) = true then
 (ZW ((IntKind.i64.wrap (x3 + 2))))
 else
 (if ((b0.Kind == 4)) = true then
 (if ((decide (b0.Hi < 0))) = true then
 (Z15 ((IntKind.i64.wrap ((IntKind.i64.wrap (b0.Lo * x3)) + (IntKind.i64.wrap (x3 + 4))))) b0)
 else
 (Z15 ((IntKind.i64.wrap ((IntKind.i64.wrap (b0.Lo * x3)) + (IntKind.i64.wrap ((IntKind.i64.wrap (b0.Hi - b0.Lo)) * (IntKind.i64.wrap (x3 + 1))))))) b0))
 else
 (ZW x3)))
 else
 (if ((b0.Kind == 7)) = true then
 (if ((b0.Kind == 7)) = true then
 (ZW ((IntKind.i64.wrap (x3 + 2))))
 else
 (if ((b0.Kind == 4)) = true then
 (if ((decide (b0.Hi < 0))) = true then
 (Z15 ((IntKind.i64.wrap ((IntKind.i64.wrap (b0.Lo * x3)) + (IntKind.i64.wrap (x3 + 4))))) b0)
 else
 (Z15 ((IntKind.i64.wrap ((IntKind.i64.wrap (b0.Lo * x3)) + (IntKind.i64.wrap ((IntKind.i64.wrap (b0.Hi - b0.Lo)) * (IntKind.i64.wrap (x3 + 1))))))) b0))
 else
 (ZW x3)))
 else
 (if ((b0.Kind == 8)) = true then
 (ZW ((IntKind.i64.wrap (x3 + 2))))
 else
 (if ((b0.Kind == 4)) = true then
 (if ((decide (b0.Hi < 0))) = true then
 (Z15 ((IntKind.i64.wrap ((IntKind.i64.wrap (b0.Lo * x3)) + (IntKind.i64.wrap (x3 + 4))))) b0)
 else
 (Z15 ((IntKind.i64.wrap ((IntKind.i64.wrap (b0.Lo * x3)) + (IntKind.i64.wrap ((IntKind.i64.wrap (b0.Hi - b0.Lo)) * (IntKind.i64.wrap (x3 + 1))))))) b0))
 else
 (ZW x3)))))))
 else
 (if ((b0.Kind == 6)) = true then
 (if ((b0.Kind == 6)) = true then
 (some (1))
 else
 (if ((b0.Kind == 3)) = true then
 (ZW ((IntKind.i64.wrap (x3 + (IntKind.i64.wrap (2 * (IntKind.i64.wrap ((b0.Kids.length : Int) - 1))))))))
 else
 (if ((b0.Kind == 5)) = true then
 (if ((b0.Kind == 5)) = true then
 (ZW ((IntKind.i64.wrap (x3 + 2))))
 else
 (if ((b0.Kind == 4)) = true then
 (if ((decide (b0.Hi < 0))) = true then
 (Z15 ((IntKind.i64.wrap ((IntKind.i64.wrap (b0.Lo * x3)) + (IntKind.i64.wrap (x3 + 4))))) b0)
 else
 (Z15 ((IntKind.i64.wrap ((IntKind.i64.wrap (b0.Lo * x3)) + (IntKind.i64.wrap ((IntKind.i64.wrap (b0.Hi - b0.Lo)) * (IntKind.i64.wrap (x3 + 1))))))) b0))
 else
 (ZW x3)))
 else
 (if ((b0.Kind == 7)) = true then
 (if ((b0.Kind == 7)) = true then
 (ZW ((IntKind.i64.wrap (x3 + 2))))
 else
 (if ((b0.Kind == 4)) = true then
 (if ((decide (b0.Hi < 0))) = true then
 (Z15 ((IntKind.i64.wrap ((IntKind.i64.wrap (b0.Lo * x3)) + (IntKind.i64.wrap (x3 + 4))))) b0)
 else
 (Z15 ((IntKind.i64.wrap ((IntKind.i64.wrap (b0.Lo * x3)) + (IntKind.i64.wrap ((IntKind.i64.wrap (b0.Hi - b0.Lo)) * (IntKind.i64.wrap (x3 + 1))))))) b0))
 else
 (ZW x3)))
 else
 (if ((b0.Kind == 8)) = true then
 (ZW ((IntKind.i64.wrap (x3 + 2))))
 else
 (if ((b0.Kind == 4)) = true then
 (if ((decide (b0.Hi < 0))) = true then
 (Z15 ((IntKind.i64.wrap ((IntKind.i64.wrap (b0.Lo * x3)) + (IntKind.i64.wrap (x3 + 4))))) b0)
 else
 (Z15 ((IntKind.i64.wrap ((IntKind.i64.wrap (b0.Lo * x3)) + (IntKind.i64.wrap ((IntKind.i64.wrap (b0.Hi - b0.Lo)) * (IntKind.i64.wrap (x3 + 1))))))) b0))
 else
 (ZW x3)))))))
 else
 (if ((b0.Kind == 9)) = true then
 (some (1))
 else
 (if ((b0.Kind == 3)) = true then
 (ZW ((IntKind.i64.wrap (x3 + (IntKind.i64.wrap (2 * (IntKind.i64.wrap ((b0.Kids.length : Int) - 1))))))))
 else
 (if ((b0.Kind == 5)) = true then
 (if ((b0.Kind == 5)) = true then
 (ZW ((IntKind.i64.wrap (x3 + 2))))
 else
 (if ((b0.Kind == 4)) = true then
 (if ((decide (b0.Hi < 0))) = true then
 (Z15 ((IntKind.i64.wrap ((IntKind.i64.wrap (b0.Lo * x3)) + (IntKind.i64.wrap (x3 + 4))))) b0)
 else
 (Z15 ((IntKind.i64.wrap ((IntKind.i64.wrap (b0.Lo * x3)) + (IntKind.i64.wrap ((IntKind.i64.wrap (b0.Hi - b0.Lo)) * (IntKind.i64.wrap (x3 + 1))))))) b0))
 else
 (ZW x3)))
 else
 (if ((b0.Kind == 7)) = true then
 (if ((b0.Kind == 7)) = true then
 (ZW ((IntKind.i64.wrap (x3 + 2))))
 else
 (if ((b0.Kind == 4)) = true then
 (if ((decide (b0.Hi < 0))) = true then
 (Z15 ((IntKind.i64.wrap ((IntKind.i64.wrap (b0.Lo * x3)) + (IntKind.i64.wrap (x3 + 4))))) b0)
 else
 (Z15 ((IntKind.i64.wrap ((IntKind.i64.wrap (b0.Lo * x3)) + (IntKind.i64.wrap ((IntKind.i64.wrap (b0.Hi - b0.Lo)) * (IntKind.i64.wrap (x3 + 1))))))) b0))
 else
 (ZW x3)))
 else
 (if ((b0.Kind == 8)) = true then
 (ZW ((IntKind.i64.wrap (x3 + 2))))
 else
 (if ((b0.Kind == 4)) = true then
 (if ((decide (b0.Hi < 0))) = true then
 (Z15 ((IntKind.i64.wrap ((IntKind.i64.wrap (b0.Lo * x3)) + (IntKind.i64.wrap (x3 + 4))))) b0)
 else
 (Z15 ((IntKind.i64.wrap ((IntKind.i64.wrap (b0.Lo * x3)) + (IntKind.i64.wrap ((IntKind.i64.wrap (b0.Hi - b0.Lo)) * (IntKind.i64.wrap (x3 + 1))))))) b0))
 else
 (ZW x3))))))))
theorem ZcN (x3 : Int) (b0 : Z3) (z1d : Own) (z12 : Own) : Sim (Z3i) (Z1N x3 b0) (ZfB 0 (.ptr 0 0) (iv x3) [(Zo b0 z1d z12)]) := by
 unfold Z1N
 refine zf (Zi9 ..) ?_
 refine ze ?_
 refine zo (.ptr 0 0) ?_
 refine zo (iv b0.Kind) ?_
 refine ze ?_
 refine zo (bv (b0.Kind == 1)) ?_
 refine za ((b0.Kind == 1)) ?_ ?_
 ·refine za ((b0.Kind == 1)) ?_ ?_
  ·refine ze ?_
   exact zr ((iv 1), [(Zo b0 z1d z12)]) ⟨_, rfl⟩
  ·refine ze ?_
   refine zo (bv (b0.Kind == 3)) ?_
   refine za ((b0.Kind == 3)) ?_ ?_
   ·refine ze ?_
    refine zo (.ptr 0 6) ?_
    refine zo (.p (.lst (shrO z12) (b0.Kids.map ZD))) ?_
    refine zo (iv (b0.Kids.length : Int)) ?_ (Eq.trans (by kernel_rfl) (xlen_of (P := PP) (t := 25) (d := 27) (by kernel_rfl) ZD (shrO z12) b0.Kids))
    refine zo (iv (IntKind.i64.wrap ((b0.Kids.length : Int) - 1))) ?_
    refine zo (iv (IntKind.i64.wrap (2 * (IntKind.i64.wrap ((b0.Kids.length : Int) - 1))))) ?_
    refine zo (iv (IntKind.i64.wrap (x3 + (IntKind.i64.wrap (2 * (IntKind.i64.wrap ((b0.Kids.length : Int) - 1))))))) ?_
    exact zk (Z14 ((IntKind.i64.wrap (x3 + (IntKind.i64.wrap (2 * (IntKind.i64.wrap ((b0.Kids.length : Int) - 1))))))))
   ·refine ze ?_
    refine zo (bv (b0.Kind == 5)) ?_
    refine za ((b0.Kind == 5)) ?_ ?_
    ·refine za ((b0.Kind == 5)) ?_ ?_
     ·refine ze ?_
      refine zo (iv (IntKind.i64.wrap (x3 + 2))) ?_
      exact zk (Z14 ((IntKind.i64.wrap (x3 + 2))))
     ·refine ze ?_
      refine zo (bv (b0.Kind == 4)) ?_
      refine za ((b0.Kind == 4)) ?_ ?_
      ·refine ze ?_
       refine ze ?_
       refine zo (.ptr 0 1) ?_
       refine zo (iv b0.Lo) ?_
       refine zo (iv (IntKind.i64.wrap (b0.Lo * x3))) ?_
       refine ze ?_
       refine zo (.ptr 0 2) ?_
       refine zo (iv b0.Hi) ?_
       refine zo (bv (decide (b0.Hi < 0))) ?_
       refine za ((decide (b0.Hi < 0))) ?_ ?_
       ·refine ze ?_
        refine zo (iv (IntKind.i64.wrap (x3 + 4))) ?_
        refine zo (iv (IntKind.i64.wrap ((IntKind.i64.wrap (b0.Lo * x3)) + (IntKind.i64.wrap (x3 + 4))))) ?_
        exact zk (Z1g ((IntKind.i64.wrap ((IntKind.i64.wrap (b0.Lo * x3)) + (IntKind.i64.wrap (x3 + 4))))) (b0) z1d z12)
       ·refine ze ?_
        refine zo (.ptr 0 2) ?_
        refine zo (iv b0.Hi) ?_
        refine zo (.ptr 0 1) ?_
        refine zo (iv b0.Lo) ?_
        refine zo (iv (IntKind.i64.wrap (b0.Hi - b0.Lo))) ?_
        refine zo (iv (IntKind.i64.wrap (x3 + 1))) ?_
        refine zo (iv (IntKind.i64.wrap ((IntKind.i64.wrap (b0.Hi - b0.Lo)) * (IntKind.i64.wrap (x3 + 1))))) ?_
        refine zo (iv (IntKind.i64.wrap ((IntKind.i64.wrap (b0.Lo * x3)) + (IntKind.i64.wrap ((IntKind.i64.wrap (b0.Hi - b0.Lo)) * (IntKind.i64.wrap (x3 + 1))))))) ?_
        exact zk (Z1g ((IntKind.i64.wrap ((IntKind.i64.wrap (b0.Lo * x3)) + (IntKind.i64.wrap ((IntKind.i64.wrap (b0.Hi - b0.Lo)) * (IntKind.i64.wrap (x3 + 1))))))) (b0) z1d z12)
      ·exact zk (Z14 (x3))
    ·refine ze ?_
     refine zo (bv (b0.Kind == 7)) ?_
     refine za ((b0.Kind == 7)) ?_ ?_
     ·refine za ((b0.Kind == 7)) ?_ ?_
      ·refine ze ?_
       refine zo (iv (IntKind.i64.wrap (x3 + 2))) ?_
       exact zk (Z14 ((IntKind.i64.wrap (x3 + 2))))
      ·refine ze ?_
       refine zo (bv (b0.Kind == 4)) ?_
       refine za ((b0.Kind == 4)) ?_ ?_
       ·refine ze ?_
        refine ze ?_
        refine zo (.ptr 0 1) ?_
        refine zo (iv b0.Lo) ?_
        refine zo (iv (IntKind.i64.wrap (b0.Lo * x3))) ?_
        refine ze ?_
        refine zo (.ptr 0 2) ?_
        refine zo (iv b0.Hi) ?_
        refine zo (bv (decide (b0.Hi < 0))) ?_
        refine za ((decide (b0.Hi < 0))) ?_ ?_
        ·refine ze ?_
         refine zo (iv (IntKind.i64.wrap (x3 + 4))) ?_
         refine zo (iv (IntKind.i64.wrap ((IntKind.i64.wrap (b0.Lo * x3)) + (IntKind.i64.wrap (x3 + 4))))) ?_
         exact zk (Z1g ((IntKind.i64.wrap ((IntKind.i64.wrap (b0.Lo * x3)) + (IntKind.i64.wrap (x3 + 4))))) (b0) z1d z12)
        ·refine ze ?_
         refine zo (.ptr 0 2) ?_
         refine zo (iv b0.Hi) ?_
         refine zo (.ptr 0 1) ?_
         refine zo (iv b0.Lo) ?_
         refine zo (iv (IntKind.i64.wrap (b0.Hi - b0.Lo))) ?_
         refine zo (iv (IntKind.i64.wrap (x3 + 1))) ?_
         refine zo (iv (IntKind.i64.wrap ((IntKind.i64.wrap (b0.Hi - b0.Lo)) * (IntKind.i64.wrap (x3 + 1))))) ?_
         refine zo (iv (IntKind.i64.wrap ((IntKind.i64.wrap (b0.Lo * x3)) + (IntKind.i64.wrap ((IntKind.i64.wrap (b0.Hi - b0.Lo)) * (IntKind.i64.wrap (x3 + 1))))))) ?_
         exact zk (Z1g ((IntKind.i64.wrap ((IntKind.i64.wrap (b0.Lo * x3)) + (IntKind.i64.wrap ((IntKind.i64.wrap (b0.Hi - b0.Lo)) * (IntKind.i64.wrap (x3 + 1))))))) (b0) z1d z12)
       ·exact zk (Z14 (x3))
     ·refine ze ?_
      refine zo (bv (b0.Kind == 8)) ?_
      refine za ((b0.Kind == 8)) ?_ ?_
      ·refine ze ?_
       refine zo (iv (IntKind.i64.wrap (x3 + 2))) ?_
       exact zk (Z14 ((IntKind.i64.wrap (x3 + 2))))
      ·refine ze ?_
       refine zo (bv (b0.Kind == 4)) ?_
       refine za ((b0.Kind == 4)) ?_ ?_
       ·refine ze ?_
        refine ze ?_
        refine zo (.ptr 0 1) ?_
        refine zo (iv b0.Lo) ?_
        refine zo (iv (IntKind.i64.wrap (b0.Lo * x3))) ?_
        refine ze ?_
        refine zo (.ptr 0 2) ?_
        refine zo (iv b0.Hi) ?_
        refine zo (bv (decide (b0.Hi < 0))) ?_
        refine za ((decide (b0.Hi < 0))) ?_ ?_
        ·refine ze ?_
         refine zo (iv (IntKind.i64.wrap (x3 + 4))) ?_
         refine zo (iv (IntKind.i64.wrap ((IntKind.i64.wrap (b0.Lo * x3)) + (IntKind.i64.wrap (x3 + 4))))) ?_
         exact zk (Z1g ((IntKind.i64.wrap ((IntKind.i64.wrap (b0.Lo * x3)) + (IntKind.i64.wrap (x3 + 4))))) (b0) z1d z12)
        ·refine ze ?_
         refine zo (.ptr 0 2) ?_
         refine zo (iv b0.Hi) ?_
         refine zo (.ptr 0 1) ?_
         refine zo (iv b0.Lo) ?_
         refine zo (iv (IntKind.i64.wrap (b0.Hi - b0.Lo))) ?_
         refine zo (iv (IntKind.i64.wrap (x3 + 1))) ?_
         refine zo (iv (IntKind.i64.wrap ((IntKind.i64.wrap (b0.Hi - b0.Lo)) * (IntKind.i64.wrap (x3 + 1))))) ?_
         refine zo (iv (IntKind.i64.wrap ((IntKind.i64.wrap (b0.Lo * x3)) + (IntKind.i64.wrap ((IntKind.i64.wrap (b0.Hi - b0.Lo)) * (IntKind.i64.wrap (x3 + 1))))))) ?_
         exact zk (Z1g ((IntKind.i64.wrap ((IntKind.i64.wrap (b0.Lo * x3)) + (IntKind.i64.wrap ((IntKind.i64.wrap (b0.Hi - b0.Lo)) * (IntKind.i64.wrap (x3 + 1))))))) (b0) z1d z12)
       ·exact zk (Z14 (x3))
 ·refine ze ?_
  refine zo (bv (b0.Kind == 6)) ?_
  refine za ((b0.Kind == 6)) ?_ ?_
  ·refine za ((b0.Kind == 6)) ?_ ?_
   ·refine ze ?_
    exact zr ((iv 1), [(Zo b0 z1d z12)]) ⟨_, rfl⟩
   ·refine ze ?_
    refine zo (bv (b0.Kind == 3)) ?_
    refine za ((b0.Kind == 3)) ?_ ?_
    ·refine ze ?_
     refine zo (.ptr 0 6) ?_
     refine zo (.p (.lst (shrO z12) (b0.Kids.map ZD))) ?_
     refine zo (iv (b0.Kids.length : Int)) ?_ (Eq.trans (by kernel_rfl) (xlen_of (P := PP) (t := 25) (d := 27) (by kernel_rfl) ZD (shrO z12) b0.Kids))
     refine zo (iv (IntKind.i64.wrap ((b0.Kids.length : Int) - 1))) ?_
     refine zo (iv (IntKind.i64.wrap (2 * (IntKind.i64.wrap ((b0.Kids.length : Int) - 1))))) ?_
     refine zo (iv (IntKind.i64.wrap (x3 + (IntKind.i64.wrap (2 * (IntKind.i64.wrap ((b0.Kids.length : Int) - 1))))))) ?_
     exact zk (Z14 ((IntKind.i64.wrap (x3 + (IntKind.i64.wrap (2 * (IntKind.i64.wrap ((b0.Kids.length : Int) - 1))))))))
    ·refine ze ?_
     refine zo (bv (b0.Kind == 5)) ?_
     refine za ((b0.Kind == 5)) ?_ ?_
     ·refine za ((b0.Kind == 5)) ?_ ?_
      ·refine ze ?_
       refine zo (iv (IntKind.i64.wrap (x3 + 2))) ?_
       exact zk (Z14 ((IntKind.i64.wrap (x3 + 2))))
      ·refine ze ?_
       refine zo (bv (b0.Kind == 4)) ?_
       refine za ((b0.Kind == 4)) ?_ ?_
       ·refine ze ?_
        refine ze ?_
        refine zo (.ptr 0 1) ?_
        refine zo (iv b0.Lo) ?_
        refine zo (iv (IntKind.i64.wrap (b0.Lo * x3))) ?_
        refine ze ?_
        refine zo (.ptr 0 2) ?_
        refine zo (iv b0.Hi) ?_
        refine zo (bv (decide (b0.Hi < 0))) ?_
        refine za ((decide (b0.Hi < 0))) ?_ ?_
        ·refine ze ?_
         refine zo (iv (IntKind.i64.wrap (x3 + 4))) ?_
         refine zo (iv (IntKind.i64.wrap ((IntKind.i64.wrap (b0.Lo * x3)) + (IntKind.i64.wrap (x3 + 4))))) ?_
         exact zk (Z1g ((IntKind.i64.wrap ((IntKind.i64.wrap (b0.Lo * x3)) + (IntKind.i64.wrap (x3 + 4))))) (b0) z1d z12)
        ·refine ze ?_
         refine zo (.ptr 0 2) ?_
         refine zo (iv b0.Hi) ?_
         refine zo (.ptr 0 1) ?_
         refine zo (iv b0.Lo) ?_
         refine zo (iv (IntKind.i64.wrap (b0.Hi - b0.Lo))) ?_
         refine zo (iv (IntKind.i64.wrap (x3 + 1))) ?_
         refine zo (iv (IntKind.i64.wrap ((IntKind.i64.wrap (b0.Hi - b0.Lo)) * (IntKind.i64.wrap (x3 + 1))))) ?_
         refine zo (iv (IntKind.i64.wrap ((IntKind.i64.wrap (b0.Lo * x3)) + (IntKind.i64.wrap ((IntKind.i64.wrap (b0.Hi - b0.Lo)) * (IntKind.i64.wrap (x3 + 1))))))) ?_
         exact zk (Z1g ((IntKind.i64.wrap ((IntKind.i64.wrap (b0.Lo * x3)) + (IntKind.i64.wrap ((IntKind.i64.wrap (b0.Hi - b0.Lo)) * (IntKind.i64.wrap (x3 + 1))))))) (b0) z1d z12)
       ·exact zk (Z14 (x3))
     ·refine ze ?_
      refine zo (bv (b0.Kind == 7)) ?_
      refine za ((b0.Kind == 7)) ?_ ?_
      ·refine za ((b0.Kind == 7)) ?_ ?_
       ·refine ze ?_
        refine zo (iv (IntKind.i64.wrap (x3 + 2))) ?_
        exact zk (Z14 ((IntKind.i64.wrap (x3 + 2))))
       ·refine ze ?_
        refine zo (bv (b0.Kind == 4)) ?_
        refine za ((b0.Kind == 4)) ?_ ?_
        ·refine ze ?_
         refine ze ?_
         refine zo (.ptr 0 1) ?_
         refine zo (iv b0.Lo) ?_
         refine zo (iv (IntKind.i64.wrap (b0.Lo * x3))) ?_
         refine ze ?_
         refine zo (.ptr 0 2) ?_
         refine zo (iv b0.Hi) ?_
         refine zo (bv (decide (b0.Hi < 0))) ?_
         refine za ((decide (b0.Hi < 0))) ?_ ?_
         ·refine ze ?_
          refine zo (iv (IntKind.i64.wrap (x3 + 4))) ?_
          refine zo (iv (IntKind.i64.wrap ((IntKind.i64.wrap (b0.Lo * x3)) + (IntKind.i64.wrap (x3 + 4))))) ?_
          exact zk (Z1g ((IntKind.i64.wrap ((IntKind.i64.wrap (b0.Lo * x3)) + (IntKind.i64.wrap (x3 + 4))))) (b0) z1d z12)
         ·refine ze ?_
          refine zo (.ptr 0 2) ?_
          refine zo (iv b0.Hi) ?_
          refine zo (.ptr 0 1) ?_
          refine zo (iv b0.Lo) ?_
          refine zo (iv (IntKind.i64.wrap (b0.Hi - b0.Lo))) ?_
          refine zo (iv (IntKind.i64.wrap (x3 + 1))) ?_
          refine zo (iv (IntKind.i64.wrap ((IntKind.i64.wrap (b0.Hi - b0.Lo)) * (IntKind.i64.wrap (x3 + 1))))) ?_
          refine zo (iv (IntKind.i64.wrap ((IntKind.i64.wrap (b0.Lo * x3)) + (IntKind.i64.wrap ((IntKind.i64.wrap (b0.Hi - b0.Lo)) * (IntKind.i64.wrap (x3 + 1))))))) ?_
          exact zk (Z1g ((IntKind.i64.wrap ((IntKind.i64.wrap (b0.Lo * x3)) + (IntKind.i64.wrap ((IntKind.i64.wrap (b0.Hi - b0.Lo)) * (IntKind.i64.wrap (x3 + 1))))))) (b0) z1d z12)
        ·exact zk (Z14 (x3))
      ·refine ze ?_
       refine zo (bv (b0.Kind == 8)) ?_
       refine za ((b0.Kind == 8)) ?_ ?_
       ·refine ze ?_
        refine zo (iv (IntKind.i64.wrap (x3 + 2))) ?_
        exact zk (Z14 ((IntKind.i64.wrap (x3 + 2))))
       ·refine ze ?_
        refine zo (bv (b0.Kind == 4)) ?_
        refine za ((b0.Kind == 4)) ?_ ?_
        ·refine ze ?_
         refine ze ?_
         refine zo (.ptr 0 1) ?_
         refine zo (iv b0.Lo) ?_
         refine zo (iv (IntKind.i64.wrap (b0.Lo * x3))) ?_
         refine ze ?_
         refine zo (.ptr 0 2) ?_
         refine zo (iv b0.Hi) ?_
         refine zo (bv (decide (b0.Hi < 0))) ?_
         refine za ((decide (b0.Hi < 0))) ?_ ?_
         ·refine ze ?_
          refine zo (iv (IntKind.i64.wrap (x3 + 4))) ?_
          refine zo (iv (IntKind.i64.wrap ((IntKind.i64.wrap (b0.Lo * x3)) + (IntKind.i64.wrap (x3 + 4))))) ?_
          exact zk (Z1g ((IntKind.i64.wrap ((IntKind.i64.wrap (b0.Lo * x3)) + (IntKind.i64.wrap (x3 + 4))))) (b0) z1d z12)
         ·refine ze ?_
          refine zo (.ptr 0 2) ?_
          refine zo (iv b0.Hi) ?_
          refine zo (.ptr 0 1) ?_
          refine zo (iv b0.Lo) ?_
          refine zo (iv (IntKind.i64.wrap (b0.Hi - b0.Lo))) ?_
          refine zo (iv (IntKind.i64.wrap (x3 + 1))) ?_
          refine zo (iv (IntKind.i64.wrap ((IntKind.i64.wrap (b0.Hi - b0.Lo)) * (IntKind.i64.wrap (x3 + 1))))) ?_
          refine zo (iv (IntKind.i64.wrap ((IntKind.i64.wrap (b0.Lo * x3)) + (IntKind.i64.wrap ((IntKind.i64.wrap (b0.Hi - b0.Lo)) * (IntKind.i64.wrap (x3 + 1))))))) ?_
          exact zk (Z1g ((IntKind.i64.wrap ((IntKind.i64.wrap (b0.Lo * x3)) + (IntKind.i64.wrap ((IntKind.i64.wrap (b0.Hi - b0.Lo)) * (IntKind.i64.wrap (x3 + 1))))))) (b0) z1d z12)
        ·exact zk (Z14 (x3))
  ·refine ze ?_
   refine zo (bv (b0.Kind == 9)) ?_
   refine za ((b0.Kind == 9)) ?_ ?_
   ·refine ze ?_
    exact zr ((iv 1), [(Zo b0 z1d z12)]) ⟨_, rfl⟩
   ·refine ze ?_
    refine zo (bv (b0.Kind == 3)) ?_
    refine za ((b0.Kind == 3)) ?_ ?_
    ·refine ze ?_
     refine zo (.ptr 0 6) ?_
     refine zo (.p (.lst (shrO z12) (b0.Kids.map ZD))) ?_
     refine zo (iv (b0.Kids.length : Int)) ?_ (Eq.trans (by kernel_rfl) (xlen_of (P := PP) (t := 25) (d := 27) (by kernel_rfl) ZD (shrO z12) b0.Kids))
     refine zo (iv (IntKind.i64.wrap ((b0.Kids.length : Int) - 1))) ?_
     refine zo (iv (IntKind.i64.wrap (2 * (IntKind.i64.wrap ((b0.Kids.length : Int) - 1))))) ?_
     refine zo (iv (IntKind.i64.wrap (x3 + (IntKind.i64.wrap (2 * (IntKind.i64.wrap ((b0.Kids.length : Int) - 1))))))) ?_
     exact zk (Z14 ((IntKind.i64.wrap (x3 + (IntKind.i64.wrap (2 * (IntKind.i64.wrap ((b0.Kids.length : Int) - 1))))))))
    ·refine ze ?_
     refine zo (bv (b0.Kind == 5)) ?_
     refine za ((b0.Kind == 5)) ?_ ?_
     ·refine za ((b0.Kind == 5)) ?_ ?_
      ·refine ze ?_
       refine zo (iv (IntKind.i64.wrap (x3 + 2))) ?_
       exact zk (Z14 ((IntKind.i64.wrap (x3 + 2))))
      ·refine ze ?_
       refine zo (bv (b0.Kind == 4)) ?_
       refine za ((b0.Kind == 4)) ?_ ?_
       ·refine ze ?_
        refine ze ?_
        refine zo (.ptr 0 1) ?_
        refine zo (iv b0.Lo) ?_
        refine zo (iv (IntKind.i64.wrap (b0.Lo * x3))) ?_
        refine ze ?_
        refine zo (.ptr 0 2) ?_
        refine zo (iv b0.Hi) ?_
        refine zo (bv (decide (b0.Hi < 0))) ?_
        refine za ((decide (b0.Hi < 0))) ?_ ?_
        ·refine ze ?_
         refine zo (iv (IntKind.i64.wrap (x3 + 4))) ?_
         refine zo (iv (IntKind.i64.wrap ((IntKind.i64.wrap (b0.Lo * x3)) + (IntKind.i64.wrap (x3 + 4))))) ?_
         exact zk (Z1g ((IntKind.i64.wrap ((IntKind.i64.wrap (b0.Lo * x3)) + (IntKind.i64.wrap (x3 + 4))))) (b0) z1d z12)
        ·refine ze ?_
         refine zo (.ptr 0 2) ?_
         refine zo (iv b0.Hi) ?_
         refine zo (.ptr 0 1) ?_
         refine zo (iv b0.Lo) ?_
         refine zo (iv (IntKind.i64.wrap (b0.Hi - b0.Lo))) ?_
         refine zo (iv (IntKind.i64.wrap (x3 + 1))) ?_
         refine zo (iv (IntKind.i64.wrap ((IntKind.i64.wrap (b0.Hi - b0.Lo)) * (IntKind.i64.wrap (x3 + 1))))) ?_
         refine zo (iv (IntKind.i64.wrap ((IntKind.i64.wrap (b0.Lo * x3)) + (IntKind.i64.wrap ((IntKind.i64.wrap (b0.Hi - b0.Lo)) * (IntKind.i64.wrap (x3 + 1))))))) ?_
         exact zk (Z1g ((IntKind.i64.wrap ((IntKind.i64.wrap (b0.Lo * x3)) + (IntKind.i64.wrap ((IntKind.i64.wrap (b0.Hi - b0.Lo)) * (IntKind.i64.wrap (x3 + 1))))))) (b0) z1d z12)
       ·exact zk (Z14 (x3))
     ·refine ze ?_
      refine zo (bv (b0.Kind == 7)) ?_
      refine za ((b0.Kind == 7)) ?_ ?_
      ·refine za ((b0.Kind == 7)) ?_ ?_
       ·refine ze ?_
        refine zo (iv (IntKind.i64.wrap (x3 + 2))) ?_
        exact zk (Z14 ((IntKind.i64.wrap (x3 + 2))))
       ·refine ze ?_
        refine zo (bv (b0.Kind == 4)) ?_
        refine za ((b0.Kind == 4)) ?_ ?_
        ·refine ze ?_
         refine ze ?_
         refine zo (.ptr 0 1) ?_
         refine zo (iv b0.Lo) ?_
         refine zo (iv (IntKind.i64.wrap (b0.Lo * x3))) ?_
         refine ze ?_
         refine zo (.ptr 0 2) ?_
         refine zo (iv b0.Hi) ?_
         refine zo (bv (decide (b0.Hi < 0))) ?_
         refine za ((decide (b0.Hi < 0))) ?_ ?_
         ·refine ze ?_
          refine zo (iv (IntKind.i64.wrap (x3 + 4))) ?_
          refine zo (iv (IntKind.i64.wrap ((IntKind.i64.wrap (b0.Lo * x3)) + (IntKind.i64.wrap (x3 + 4))))) ?_
          exact zk (Z1g ((IntKind.i64.wrap ((IntKind.i64.wrap (b0.Lo * x3)) + (IntKind.i64.wrap (x3 + 4))))) (b0) z1d z12)
         ·refine ze ?_
          refine zo (.ptr 0 2) ?_
          refine zo (iv b0.Hi) ?_
          refine zo (.ptr 0 1) ?_
          refine zo (iv b0.Lo) ?_
          refine zo (iv (IntKind.i64.wrap (b0.Hi - b0.Lo))) ?_
          refine zo (iv (IntKind.i64.wrap (x3 + 1))) ?_
          refine zo (iv (IntKind.i64.wrap ((IntKind.i64.wrap (b0.Hi - b0.Lo)) * (IntKind.i64.wrap (x3 + 1))))) ?_
          refine zo (iv (IntKind.i64.wrap ((IntKind.i64.wrap (b0.Lo * x3)) + (IntKind.i64.wrap ((IntKind.i64.wrap (b0.Hi - b0.Lo)) * (IntKind.i64.wrap (x3 + 1))))))) ?_
          exact zk (Z1g ((IntKind.i64.wrap ((IntKind.i64.wrap (b0.Lo * x3)) + (IntKind.i64.wrap ((IntKind.i64.wrap (b0.Hi - b0.Lo)) * (IntKind.i64.wrap (x3 + 1))))))) (b0) z1d z12)
        ·exact zk (Z14 (x3))
      ·refine ze ?_
       refine zo (bv (b0.Kind == 8)) ?_
       refine za ((b0.Kind == 8)) ?_ ?_
       ·refine ze ?_
        refine zo (iv (IntKind.i64.wrap (x3 + 2))) ?_
        exact zk (Z14 ((IntKind.i64.wrap (x3 + 2))))
       ·refine ze ?_
        refine zo (bv (b0.Kind == 4)) ?_
        refine za ((b0.Kind == 4)) ?_ ?_
        ·refine ze ?_
         refine ze ?_
         refine zo (.ptr 0 1) ?_
         refine zo (iv b0.Lo) ?_
         refine zo (iv (IntKind.i64.wrap (b0.Lo * x3))) ?_
         refine ze ?_
         refine zo (.ptr 0 2) ?_
         refine zo (iv b0.Hi) ?_
         refine zo (bv (decide (b0.Hi < 0))) ?_
         refine za ((decide (b0.Hi < 0))) ?_ ?_
         ·refine ze ?_
          refine zo (iv (IntKind.i64.wrap (x3 + 4))) ?_
          refine zo (iv (IntKind.i64.wrap ((IntKind.i64.wrap (b0.Lo * x3)) + (IntKind.i64.wrap (x3 + 4))))) ?_
          exact zk (Z1g ((IntKind.i64.wrap ((IntKind.i64.wrap (b0.Lo * x3)) + (IntKind.i64.wrap (x3 + 4))))) (b0) z1d z12)
         ·refine ze ?_
          refine zo (.ptr 0 2) ?_
          refine zo (iv b0.Hi) ?_
          refine zo (.ptr 0 1) ?_
          refine zo (iv b0.Lo) ?_
          refine zo (iv (IntKind.i64.wrap (b0.Hi - b0.Lo))) ?_
          refine zo (iv (IntKind.i64.wrap (x3 + 1))) ?_
          refine zo (iv (IntKind.i64.wrap ((IntKind.i64.wrap (b0.Hi - b0.Lo)) * (IntKind.i64.wrap (x3 + 1))))) ?_
          refine zo (iv (IntKind.i64.wrap ((IntKind.i64.wrap (b0.Lo * x3)) + (IntKind.i64.wrap ((IntKind.i64.wrap (b0.Hi - b0.Lo)) * (IntKind.i64.wrap (x3 + 1))))))) ?_
          exact zk (Z1g ((IntKind.i64.wrap ((IntKind.i64.wrap (b0.Lo * x3)) + (IntKind.i64.wrap ((IntKind.i64.wrap (b0.Hi - b0.Lo)) * (IntKind.i64.wrap (x3 + 1))))))) (b0) z1d z12)
        ·exact zk (Z14 (x3))
noncomputable def Z4J (x3 : Int) (x8 : List Z3) (x9 : Int) (x10 : Int) (b0 : Z3) : Option (Int) :=
 if ((decide (x10 < x9))) = true then
 (Z6m x3 x8 x9 x10 b0)
 else
 (Z1N x3 b0)
theorem ZcK (x3 : Int) (x8 : List Z3) (x9 : Int) (x10 : Int) (b0 : Z3) (ox8 : Own) (z1d : Own) (z12 : Own) : Sim (Z3i) (Z4J x3 x8 x9 x10 b0) (ZbK 0 (.ptr 0 0) (iv x3) (.p (.lst ox8 (x8.map ZD))) (iv x9) (iv x10) [(Zo b0 z1d z12)]) := by
 unfold Z4J
 refine zf (ZiR ..) ?_
 refine ze ?_
 refine zo (bv (decide (x10 < x9))) ?_
 refine za ((decide (x10 < x9))) ?_ ?_
 ·exact zk (ZcF (x3) (x8) (x9) (x10) (b0) ox8 z1d z12)
 ·exact zk (ZcN (x3) (b0) z1d z12)
theorem Z6g (x3 : Int) (x8 : List Z3) (x9 : Int) (x10 : Int) (b0 : Z3) {r} (h : Z4J x3 x8 x9 x10 b0 = some r) : Z3v x3 x8 x9 x10 b0 = some r :=
 pick_of (fun _ _ ha hb => RRun.uniq (ZbS) (ha .ex .ex .ex) (hb .ex .ex .ex)) (fun ox8 z1d z12 => ZcK x3 x8 x9 x10 b0 ox8 z1d z12 r h)
noncomputable def Z6Y  : Option (Int) :=
 some (0)
theorem Zcw  : Sim (Z6d) (Z6Y) (Zgt 0  []) := by
 unfold Z6Y
 refine zf (Ziv ..) ?_
 refine ze ?_
 exact zr ((iv 0), []) ⟨_, rfl⟩
noncomputable def Z8B (x0 : ZC) : Option (Int) :=
 (Z2V x0.Root).bind fun r1 =>
 if ((!r1)) = true then
 (some (27))
 else
 ((Z25 x0.Root).bind fun r2 =>
 if ((decide (2000 < (IntKind.i64.wrap (r2 + 3))))) = true then
 (some (28))
 else
 (Z6Y))
theorem Zdw (x0 : ZC) (z2A : Own) (z2m : Own) : Sim (Z6d) (Z8B x0) (EE 26 [(.p (.agg (Z1q x0 z2A z2m)))] []) := by
 unfold Z8B
 refine zf (Zk2 ..) ?_
 refine ze ?_
 refine zx (.ptr 0 0) [(Zw x0 z2A z2m)] ?_
 refine ze ?_
 refine zo (.ptr 0 0) ?_
 refine zo (.p (.agg (Zz x0.Root (shrO z2A) (shrO z2m)))) ?_
 refine zi fun r1 hr1 => ?_
 obtain ⟨qr1, er1, exr1, rfl⟩ := Za4 (x0.Root) .sh .sh r1 hr1
 refine zc [] (bv r1) [(Zw x0 z2A z2m)] er1 ?_
 refine zo (bv (!r1)) ?_
 refine za ((!r1)) ?_ ?_
 ·refine ze ?_
  exact zr ((iv 27), [(Zw x0 z2A z2m)]) ⟨_, rfl⟩
 ·refine ze ?_
  refine zo (.ptr 0 0) ?_
  refine zo (.p (.agg (Zz x0.Root (shrO z2A) (shrO z2m)))) ?_
  refine zi fun r2 hr2 => ?_
  obtain ⟨qr2, er2, exr2, rfl⟩ := Z6q (x0.Root) .sh .sh r2 hr2
  refine zc [] (iv r2) [(Zw x0 z2A z2m)] er2 ?_
  refine zo (iv (IntKind.i64.wrap (r2 + 3))) ?_
  refine zo (bv (decide (2000 < (IntKind.i64.wrap (r2 + 3))))) ?_
  refine za ((decide (2000 < (IntKind.i64.wrap (r2 + 3))))) ?_ ?_
  ·refine ze ?_
   exact zr ((iv 28), [(Zw x0 z2A z2m)]) ⟨_, rfl⟩
  ·exact zk (Zcw )
theorem ZdN (x0 : ZC) {r} (h : Z8B x0 = some r) : Z8z x0 = some r :=
 pick_of (fun _ _ ha hb => RRun.uniq (ZdV) (ha .ex .ex) (hb .ex .ex)) (fun z2A z2m => Zdw x0 z2A z2m r h)
noncomputable def Z5n  : Option (Bool) :=
 some (false)
theorem Z8q  : Sim (Z48) (Z5n) (Zea 0  []) := by
 unfold Z5n
 refine zf (ZhC ..) ?_
 refine ze ?_
 exact zr ((bv false), []) ⟨_, rfl⟩
noncomputable def Z2s (b0 : Z3) : Option (Bool) :=
 (Z3x b0.Kids).bind fun r1 =>
 some ((!r1))
theorem Z6r (b0 : Z3) (z1d : Own) (z12 : Own) : Sim (Z48) (Z2s b0) (Zd3 0 (.ptr 0 0) [(Zo b0 z1d z12)]) := by
 unfold Z2s
 refine zf (Zi3 ..) ?_
 refine ze ?_
 refine zo (.ptr 0 6) ?_
 refine zo (.p (.lst (shrO z12) (b0.Kids.map ZD))) ?_
 refine zi fun r1 hr1 => ?_
 obtain ⟨qr1, er1, exr1, rfl⟩ := Z8s (b0.Kids) .sh r1 hr1
 refine zc [] (bv r1) [(Zo b0 z1d z12)] er1 ?_
 refine zo (bv (!r1)) ?_
 exact zr ((bv (!r1)), [(Zo b0 z1d z12)]) ⟨_, rfl⟩
noncomputable def Z5r (b0 : Z3) : Option (Bool) :=
 (lget b0.Kids 0).bind fun a1 =>
 (Z1n a1).bind fun r2 =>
 if ((decide (r2.2 < 0))) = true then
 (Z5n)
 else
 (if ((decide (32 < r2.2))) = true then
 (Z5n)
 else
 (Z2s b0))
theorem Zbu (b0 : Z3) (z1d : Own) (z12 : Own) : Sim (Z48) (Z5r b0) (Zfe 0 (.ptr 0 0) [(Zo b0 z1d z12)]) := by
 unfold Z5r
 refine zf (ZhL ..) ?_
 refine ze ?_
 refine zo (.ptr 0 6) ?_
 refine zo (.p (.lst (shrO z12) (b0.Kids.map ZD))) ?_
 refine zi fun a1 ha1 => ?_
 refine zo (.cptr (Zz a1 .sh .sh)) ?_ (Eq.trans (by kernel_rfl) (xidx_of (o := (shrO z12)) (k := .i64) (n := 7) (e := ZD) (cs := Z1T) Z3Y (fun _ => rfl) (by decide) ha1))
 refine zo (.p (.agg (Zz a1 .sh .sh))) ?_
 refine zi fun r2 hr2 => ?_
 obtain ⟨qr2, er2, exr2, rfl⟩ := Z3g (a1) .sh .sh r2 hr2
 refine zc [] (.p (.tup [(.v (.int .i64 r2.1)), (.v (.int .i64 r2.2))])) [(Zo b0 z1d z12)] er2 ?_
 refine zo (iv r2.1) ?_
 refine zo (iv r2.2) ?_
 refine ze ?_
 refine zo (bv (decide (r2.2 < 0))) ?_
 refine za ((decide (r2.2 < 0))) ?_ ?_
 ·exact zk (Z8q )
 ·refine zo (bv (decide (32 < r2.2))) ?_
  refine za ((decide (32 < r2.2))) ?_ ?_
  ·exact zk (Z8q )
  ·exact zk (Z6r (b0) z1d z12)
noncomputable def Z7i (x0 : Z3) : Option (Bool) :=
 if ((x0.Kind == 7)) = true then
 (if ((decide (2 ≤ x0.Mode))) = true then
 (Z5r x0)
 else
 (Z2s x0))
 else
 (Z2s x0)
theorem ZcR (x0 : Z3) (z1c : Own) (zY : Own) : Sim (Z48) (Z7i x0) (EE 34 [(.p (.agg (Zz x0 z1c zY)))] []) := by
 unfold Z7i
 refine zf (Zkm ..) ?_
 refine ze ?_
 refine zx (.ptr 0 0) [(Zo x0 z1c zY)] ?_
 refine ze ?_
 refine zo (.ptr 0 0) ?_
 refine zo (iv x0.Kind) ?_
 refine zo (bv (x0.Kind == 7)) ?_
 refine za ((x0.Kind == 7)) ?_ ?_
 ·refine zo (.ptr 0 3) ?_
  refine zo (iv x0.Mode) ?_
  refine zo (bv (decide (2 ≤ x0.Mode))) ?_
  refine za ((decide (2 ≤ x0.Mode))) ?_ ?_
  ·exact zk (Zbu (x0) z1c zY)
  ·exact zk (Z6r (x0) z1c zY)
 ·exact zk (Z6r (x0) z1c zY)
theorem Zd6 (x0 : Z3) {r} (h : Z7i x0 = some r) : Z2V x0 = some r :=
 pick_of (fun _ _ ha hb => RRun.uniq (Zdt) (ha .ex .ex) (hb .ex .ex)) (fun z1c zY => ZcR x0 z1c zY r h)
noncomputable def Z3w (x0 : List Z3) : Option (Bool) :=
 (Z49 x0).bind fun r1 =>
 some ((decide (0 ≤ r1)))
theorem Z8a (x0 : List Z3) (ox0 : Own) : Sim (Z2U) (Z3w x0) (EE 39 [(.p (.lst ox0 (x0.map ZD))), (.clo 40 [] [])] []) := by
 unfold Z3w
 refine zf (ZjP ..) ?_
 refine ze ?_
 refine ze ?_
 refine zi fun r1 hr1 => ?_
 obtain ⟨qr1, er1, exr1, rfl⟩ := Z9l (x0) .sh r1 hr1
 refine zc [] (iv r1) [] er1 ?_
 refine zo (bv (decide (0 ≤ r1))) ?_
 exact zr ((bv (decide (0 ≤ r1))), []) ⟨_, rfl⟩
theorem Z8t (x0 : List Z3) {r} (h : Z3w x0 = some r) : Z3x x0 = some r :=
 pick_of (fun _ _ ha hb => RRun.uniq (Z8E) (ha .ex) (hb .ex)) (fun ox0 => Z8a x0 ox0 r h)
noncomputable def Z4a (x0 : List Z3) : Option (Int) :=
 Z2W x0 ((x0.length : Int)) 0
theorem Z94 (x0 : List Z3) (ox0 : Own) : Sim (Z1t) (Z4a x0) (EE 44 [(.p (.lst ox0 (x0.map ZD))), (.clo 40 [] [])] []) := by
 unfold Z4a
 refine zf (ZkM ..) ?_
 refine ze ?_
 refine ze ?_
 refine zo (iv (x0.length : Int)) ?_ (Eq.trans (by kernel_rfl) (xlen_of (P := PP) (t := 25) (d := 27) (by kernel_rfl) ZD (shrO ox0) x0))
 exact zk (Z5T (x0) ((x0.length : Int)) (0) ox0)
theorem Z9e (x0 : List Z3) {r} (h : Z4a x0 = some r) : Z49 x0 = some r :=
 pick_of (fun _ _ ha hb => RRun.uniq (Z6v) (ha .ex) (hb .ex)) (fun ox0 => Z94 x0 ox0 r h)
noncomputable def Z3y (x0 : List Z3) (x7 : Int) (x8 : Int) : Option (Int) :=
 Z2W x0 x7 ((IntKind.i64.wrap (x8 + 1)))
theorem Z8f (x0 : List Z3) (x7 : Int) (x8 : Int) (ox0 : Own) : Sim (Z1t) (Z3y x0 x7 x8) (Zgl 0 (.p (.lst ox0 (x0.map ZD))) (.clo 40 [] []) (iv x7) (iv x8) []) := by
 unfold Z3y
 refine zf (Zi6 ..) ?_
 refine ze ?_
 refine zo (iv (IntKind.i64.wrap (x8 + 1))) ?_
 exact zk (Z5T (x0) (x7) ((IntKind.i64.wrap (x8 + 1))) ox0)
noncomputable def Z2X (x0 : List Z3) (x7 : Int) (x8 : Int) : Option (Int) :=
 (lget x0 x8).bind fun a1 =>
 (Z6x a1).bind fun r2 =>
 if (r2) = true then
 (some (x8))
 else
 (Z3y x0 x7 x8)
theorem Z8e (x0 : List Z3) (x7 : Int) (x8 : Int) (ox0 : Own) : Sim (Z1t) (Z2X x0 x7 x8) (ZfV 0 (.p (.lst ox0 (x0.map ZD))) (.clo 40 [] []) (iv x7) (iv x8) []) := by
 unfold Z2X
 refine zf (Zi2 ..) ?_
 refine ze ?_
 refine ze ?_
 refine zi fun a1 ha1 => ?_
 refine zo (.cptr (Zz a1 .sh .sh)) ?_ (Eq.trans (by kernel_rfl) (xidx_of (o := (shrO ox0)) (k := .i64) (n := 7) (e := ZD) (cs := Z1T) Z3Y (fun _ => rfl) (by decide) ha1))
 refine zo (.p (.agg (Zz a1 .sh .sh))) ?_
 refine zi fun r2 hr2 => ?_
 obtain ⟨qr2, er2, exr2, rfl⟩ := Zcq (a1) .sh .sh r2 hr2
 refine zv [] (bv r2) [] er2 ?_
 refine za (r2) ?_ ?_
 ·refine ze ?_
  exact zr ((iv x8), []) ⟨_, rfl⟩
 ·exact zk (Z8f (x0) (x7) (x8) ox0)
noncomputable def Z4Q  : Option (Int) :=
 some ((-1))
theorem Z8g  : Sim (Z1t) (Z4Q) (Zfu 0  []) := by
 unfold Z4Q
 refine zf (Zi4 ..) ?_
 refine ze ?_
 exact zr ((iv (-1)), []) ⟨_, rfl⟩
noncomputable def Z2j (x0 : List Z3) (x7 : Int) (x8 : Int) : Option (Int) :=
 if ((decide (x8 < x7))) = true then
 (Z2X x0 x7 x8)
 else
 (Z4Q)
theorem Z87 (x0 : List Z3) (x7 : Int) (x8 : Int) (ox0 : Own) : Sim (Z1t) (Z2j x0 x7 x8) (ZbY 0 (.p (.lst ox0 (x0.map ZD))) (.clo 40 [] []) (iv x7) (iv x8) []) := by
 unfold Z2j
 refine zf (ZhB ..) ?_
 refine ze ?_
 refine zo (bv (decide (x8 < x7))) ?_
 refine za ((decide (x8 < x7))) ?_ ?_
 ·exact zk (Z8e (x0) (x7) (x8) ox0)
 ·exact zk (Z8g )
theorem Z4i (x0 : List Z3) (x7 : Int) (x8 : Int) {r} (h : Z2j x0 x7 x8 = some r) : Z2W x0 x7 x8 = some r :=
 pick_of (fun _ _ ha hb => RRun.uniq (Z6v) (ha .ex) (hb .ex)) (fun ox0 => Z87 x0 x7 x8 ox0 r h)
noncomputable def Z6D (x0 : Z3) : Option (Bool) :=
 (Z2V x0).bind fun r1 =>
 some ((!r1))
theorem ZbM (x0 : Z3) (z1c : Own) (zY : Own) : Sim (Z5D) (Z6D x0) (EE 40 [(.p (.agg (Zz x0 z1c zY)))] []) := by
 unfold Z6D
 refine zf (ZkY ..) ?_
 refine ze ?_
 refine zx (.ptr 0 0) [(Zo x0 z1c zY)] ?_
 refine ze ?_
 refine zo (.p (.agg (Zz x0 (shrO z1c) (shrO zY)))) ?_
 refine zi fun r1 hr1 => ?_
 obtain ⟨qr1, er1, exr1, rfl⟩ := Za4 (x0) .sh .sh r1 hr1
 refine zc [] (bv r1) [(Zo x0 z1c zY)] er1 ?_
 refine zo (bv (!r1)) ?_
 exact zr ((bv (!r1)), [(Zo x0 z1c zY)]) ⟨_, rfl⟩
theorem Zcu (x0 : Z3) {r} (h : Z6D x0 = some r) : Z6x x0 = some r :=
 pick_of (fun _ _ ha hb => RRun.uniq (ZcQ) (ha .ex .ex) (hb .ex .ex)) (fun z1c zY => ZbM x0 z1c zY r h)
end Go.Proofs.YtadodmjdkphddaaDoor.N2
end
