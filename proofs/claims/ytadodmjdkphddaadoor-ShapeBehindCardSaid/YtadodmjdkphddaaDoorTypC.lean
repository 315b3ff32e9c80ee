/- More of the functions' typed texts. No condition. -/
import Derived.Test.YtadodmjdkphddaaDoorTypA

section
set_option linter.unusedSimpArgs false
set_option linter.unusedVariables false
namespace Go.Proofs.YtadodmjdkphddaaDoor.N2
open Go Go.Abs
set_option linter.unusedVariables false
set_option maxRecDepth 100000
noncomputable def Z5l (x0 : List Z8) (zZ : List Z8) : Option ((List Z8)) :=
 (Z81 zZ x0).bind fun r1 =>
 some (r1.1)
theorem Zaf (x0 : List Z8) (zZ : List Z8) (ox0 : Own) (z9Q : Own) : Sim (Z4j) (Z5l x0 zZ) (EE 58 [(.p (.lst ox0 (x0.map Zv))), (.ptr 0 0)] [[(.p (.lst z9Q (zZ.map Zv)))]]) := by
 unfold Z5l
 refine zf (Zkp ..) ?_
 refine ze ?_
 refine zo (.p (.lst (shrO z9Q) (zZ.map Zv))) ?_
 refine zi fun r1 hr1 => ?_
 obtain ⟨qr1, er1, exr1, rfl⟩ := ZdC (zZ) (x0) .sh .sh r1 hr1
 refine zc [] (.p (.tup [(.lst .sh (r1.1.map Zv)), (.v (.int .i64 r1.2))])) [[(.p (.lst z9Q (zZ.map Zv)))]] er1 ?_
 refine zo (.p (.lst .sh (r1.1.map Zv))) ?_
 refine zo (iv r1.2) ?_
 refine zt [[(.p (.lst .sh (r1.1.map Zv)))]] ?_
 exact zr ((.p (.tup [])), [[(.p (.lst .sh (r1.1.map Zv)))]]) ⟨.sh, _, rfl⟩
theorem Zaq (x0 : List Z8) (zZ : List Z8) {r} (h : Z5l x0 zZ = some r) : Z4h x0 zZ = some r :=
 pick_of (fun _ _ ha hb => RRun.uniq (ZaS) (ha .ex .ex) (hb .ex .ex)) (fun ox0 z9Q => Zaf x0 zZ ox0 z9Q r h)
noncomputable def Z6A  : Option ((List Z8) × Int) :=
 some (([] : List Z8), 10)
theorem Z8W  : Sim (Z5d) (Z6A) (Ze7 0  []) := by
 unfold Z6A
 refine zf (ZhO ..) ?_
 refine ze ?_
 exact zr ((.p (.tup [(.lst .sh []), (.v (.int .i64 10))])), []) ⟨_, rfl⟩
noncomputable def Z6w (x0 : List Z8) (x1 : List Z8) : Option ((List Z8) × Int) :=
 (Z6H (([x0, x1] : List (List Z8)))).bind fun r1 =>
 (Z7Q r1).bind fun r2 =>
 some (r2, 0)
theorem Zcc (x0 : List Z8) (x1 : List Z8) (ox0 : Own) (ox1 : Own) : Sim (Z5d) (Z6w x0 x1) (Zga 0 (.p (.lst ox0 (x0.map Zv))) (.p (.lst ox1 (x1.map Zv))) []) := by
 unfold Z6w
 refine zf (ZiB ..) ?_
 refine ze ?_
 refine zo (.p (.lst .ex (([x0, x1] : List (List Z8)).map (eL Zv)))) ?_
 refine zi fun r1 hr1 => ?_
 obtain ⟨qr1, er1, exr1, rfl⟩ := ZaU (([x0, x1] : List (List Z8))) .sh r1 hr1
 refine zc [] (.p (.lst .sh (r1.map Zv))) [] er1 ?_
 refine zi fun r2 hr2 => ?_
 obtain ⟨qr2, er2, exr2, rfl⟩ := Zag (r1) .sh r2 hr2
 refine zc [] (.p (.lst .sh (r2.map Zv))) [] er2 ?_
 exact zr ((.p (.tup [(.lst .sh (r2.map Zv)), (.v (.int .i64 0))])), []) ⟨_, rfl⟩
noncomputable def Z7U (x0 : List Z8) (x1 : List Z8) : Option ((List Z8) × Int) :=
 (Z4t x0).bind fun r1 =>
 if ((!r1)) = true then
 (Z6A)
 else
 ((Z4t x1).bind fun r2 =>
 if ((!r2)) = true then
 (Z6A)
 else
 (Z6w x0 x1))
theorem ZcX (x0 : List Z8) (x1 : List Z8) (ox0 : Own) (ox1 : Own) : Sim (Z5d) (Z7U x0 x1) (EE 59 [(.p (.lst ox0 (x0.map Zv))), (.p (.lst ox1 (x1.map Zv)))] []) := by
 unfold Z7U
 refine zf (Zko ..) ?_
 refine ze ?_
 refine ze ?_
 refine zi fun r1 hr1 => ?_
 obtain ⟨qr1, er1, exr1, rfl⟩ := Z6J (x0) .sh r1 hr1
 refine zc [] (bv r1) [] er1 ?_
 refine zo (bv (!r1)) ?_
 refine za ((!r1)) ?_ ?_
 ·exact zk (Z8W )
 ·refine zi fun r2 hr2 => ?_
  obtain ⟨qr2, er2, exr2, rfl⟩ := Z6J (x1) .sh r2 hr2
  refine zc [] (bv r2) [] er2 ?_
  refine zo (bv (!r2)) ?_
  refine za ((!r2)) ?_ ?_
  ·exact zk (Z8W )
  ·exact zk (Zcc (x0) (x1) ox0 ox1)
theorem Zdw (x0 : List Z8) (x1 : List Z8) {r} (h : Z7U x0 x1 = some r) : Z81 x0 x1 = some r :=
 pick_of (fun _ _ ha hb => RRun.uniq (ZdO) (ha .ex .ex) (hb .ex .ex)) (fun ox0 ox1 => ZcX x0 x1 ox0 ox1 r h)
noncomputable def Z3N (zp : Int) (z7 : Int) (zd : Int) (zh : List Zq) (z2 : Int) (z6 : Int) (z17 : Int) (z1G : Int) (z1H : Int) (z1a : Int) (z1o : Int) (z1n : List Z8) (b2 : Z3) : Option (Z3 × Bool × Int × Int × Int × (List Zq) × Int × Int) :=
 some ((Z3.mk z17 z1G z1H z1a z1o z1n ([b2] : List Z3)), (z17 != 7), zp, z7, zd, zh, z2, z6)
theorem Z9D (zl : List Int) (zp : Int) (z7 : Int) (zd : Int) (zh : List Zq) (z2 : Int) (z6 : Int) (z17 : Int) (z1G : Int) (z1H : Int) (z1a : Int) (z1o : Int) (z1n : List Z8) (z23 : List Z3) (b2 : Z3) (zn : Own) (zb : Own) (zB : Own) (zy : Own) (z1J : Own) (z1z : Own) (zu : okApp zb = true) (zP : okApp zB = true) (zI : okApp zy = true) : Sim (Z2b zl zn) (Z3N zp z7 zd zh z2 z6 z17 z1G z1H z1a z1o z1n b2) (ZeW 1 (.ptr 1 0) (.ptr 2 0) [(Zi (Zk.mk zl zp z7 zd zh (Zj.mk z2 z6)) zn zb), (Zo (Z3.mk z17 z1G z1H z1a z1o z1n z23) zB zy), (Zo b2 z1J z1z)]) := by
 unfold Z3N
 refine zf (Zhg ..) ?_
 refine ze ?_
 refine zo (.p (.agg (Zz b2 (shrO z1J) (shrO z1z)))) ?_
 refine zo (.p (.lst .ex (([b2] : List Z3).map ZD))) ?_ (Eq.trans (b := some (.p (.lst .ex [.agg (Z1T b2)]))) (by kernel_rfl) (by simp only [List.map_cons, List.map_nil, Z3d]))
 refine zo (.ptr 1 6) ?_
 refine zt [(Zi (Zk.mk zl zp z7 zd zh (Zj.mk z2 z6)) zn zb), (Zo (Z3.mk z17 z1G z1H z1a z1o z1n ([b2] : List Z3)) zB .ex), (Zo b2 z1J z1z)] ?_
 refine ze ?_
 refine zo (.p (.agg (Zz (Z3.mk z17 z1G z1H z1a z1o z1n ([b2] : List Z3)) (shrO zB) .ex))) ?_
 refine zo (.ptr 1 0) ?_
 refine zo (iv z17) ?_
 refine zo (bv (z17 != 7)) ?_
 refine zt [(Zi (Zk.mk zl zp z7 zd zh (Zj.mk z2 z6)) zn zb), (Zo (Z3.mk z17 z1G z1H z1a z1o z1n ([b2] : List Z3)) (shrO zB) .ex), (Zo b2 z1J z1z)] ?_
 exact zr ((.p (.tup [(.agg (Zz (Z3.mk z17 z1G z1H z1a z1o z1n ([b2] : List Z3)) .sh .sh)), (.v (.bool (z17 != 7)))])), [(Zi (Zk.mk zl zp z7 zd zh (Zj.mk z2 z6)) zn zb), (Zo (Z3.mk z17 z1G z1H z1a z1o z1n ([b2] : List Z3)) (shrO zB) .ex), (Zo b2 z1J z1z)]) ⟨zb, _, zu, rfl⟩
noncomputable def Z1X (zp : Int) (z7 : Int) (zd : Int) (zh : List Zq) (z2 : Int) (z6 : Int) (z17 : Int) (z1G : Int) (z1H : Int) (z1a : Int) (z1o : Int) (z1n : List Z8) (b2 : Z3) : Option (Z3 × Bool × Int × Int × Int × (List Zq) × Int × Int) :=
 if ((z17 == 0)) = true then
 (some (b2, true, zp, z7, (IntKind.i64.wrap (zd - 1)), zh, z2, z6))
 else
 (Z3N zp z7 ((IntKind.i64.wrap (zd - 1))) zh z2 z6 z17 z1G z1H z1a z1o z1n b2)
theorem Z59 (zl : List Int) (zp : Int) (z7 : Int) (zd : Int) (zh : List Zq) (z2 : Int) (z6 : Int) (z17 : Int) (z1G : Int) (z1H : Int) (z1a : Int) (z1o : Int) (z1n : List Z8) (z23 : List Z3) (b2 : Z3) (zn : Own) (zb : Own) (zB : Own) (zy : Own) (z1J : Own) (z1z : Own) (zu : okApp zb = true) (zP : okApp zB = true) (zI : okApp zy = true) : Sim (Z2b zl zn) (Z1X zp z7 zd zh z2 z6 z17 z1G z1H z1a z1o z1n b2) (Zc9 1 (.ptr 0 0) (.ptr 1 0) (.ptr 2 0) [(Zi (Zk.mk zl zp z7 zd zh (Zj.mk z2 z6)) zn zb), (Zo (Z3.mk z17 z1G z1H z1a z1o z1n z23) zB zy), (Zo b2 z1J z1z)]) := by
 unfold Z1X
 refine zf (Zhj ..) ?_
 refine ze ?_
 refine zo (.ptr 0 0) ?_
 refine zo (.ptr 0 3) ?_
 refine zo (iv zd) ?_
 refine zo (iv (IntKind.i64.wrap (zd - 1))) ?_
 refine zo (.ptr 0 0) ?_
 refine zo (.ptr 0 3) ?_
 refine zt [(Zi (Zk.mk zl zp z7 (IntKind.i64.wrap (zd - 1)) zh (Zj.mk z2 z6)) zn zb), (Zo (Z3.mk z17 z1G z1H z1a z1o z1n z23) zB zy), (Zo b2 z1J z1z)] ?_
 refine ze ?_
 refine zo (.ptr 1 0) ?_
 refine zo (iv z17) ?_
 refine zo (bv (z17 == 0)) ?_
 refine za ((z17 == 0)) ?_ ?_
 ·refine ze ?_
  refine zo (.p (.agg (Zz b2 (shrO z1J) (shrO z1z)))) ?_
  refine zt [(Zi (Zk.mk zl zp z7 (IntKind.i64.wrap (zd - 1)) zh (Zj.mk z2 z6)) zn zb), (Zo b2 (shrO z1J) (shrO z1z)), (Zo b2 z1J z1z)] ?_
  exact zr ((.p (.tup [(.agg (Zz b2 .sh .sh)), (.v (.bool true))])), [(Zi (Zk.mk zl zp z7 (IntKind.i64.wrap (zd - 1)) zh (Zj.mk z2 z6)) zn zb), (Zo b2 (shrO z1J) (shrO z1z)), (Zo b2 z1J z1z)]) ⟨zb, _, zu, rfl⟩
 ·exact zk (Z9D (zl) (zp) (z7) ((IntKind.i64.wrap (zd - 1))) (zh) (z2) (z6) (z17) (z1G) (z1H) (z1a) (z1o) (z1n) (z23) (b2) zn zb zB zy z1J z1z zu zP zI)
noncomputable def Z4N (x1 : Int) (zl : List Int) (z7 : Int) (zd : Int) (zh : List Zq) (z2 : Int) (z6 : Int) (z17 : Int) (z1G : Int) (z1H : Int) (z1a : Int) (z1o : Int) (z1n : List Z8) (b2 : Z3) : Option (Z3 × Bool × Int × Int × Int × (List Zq) × Int × Int) :=
 (ZS 20 x1 zl z2 z6).bind fun r1 =>
 Z1X r1.1 z7 zd zh r1.2.1 r1.2.2 z17 z1G z1H z1a z1o z1n b2
theorem Z9G (x1 : Int) (zl : List Int) (zp : Int) (z7 : Int) (zd : Int) (zh : List Zq) (z2 : Int) (z6 : Int) (z17 : Int) (z1G : Int) (z1H : Int) (z1a : Int) (z1o : Int) (z1n : List Z8) (z23 : List Z3) (b2 : Z3) (zn : Own) (zb : Own) (zB : Own) (zy : Own) (z1J : Own) (z1z : Own) (zu : okApp zb = true) (zP : okApp zB = true) (zI : okApp zy = true) : Sim (Z2b zl zn) (Z4N x1 zl z7 zd zh z2 z6 z17 z1G z1H z1a z1o z1n b2) (ZeT 1 (.ptr 0 0) (iv x1) (.ptr 1 0) (.ptr 2 0) [(Zi (Zk.mk zl zp z7 zd zh (Zj.mk z2 z6)) zn zb), (Zo (Z3.mk z17 z1G z1H z1a z1o z1n z23) zB zy), (Zo b2 z1J z1z)]) := by
 unfold Z4N
 refine zf (Zhr ..) ?_
 refine ze ?_
 refine zi fun r1 hr1 => ?_
 obtain ⟨qr1, er1, exr1, rfl⟩ := ZV (20) (x1) (zl) (zp) (z7) (zd) (zh) (z2) (z6) zn zb zu r1 hr1
 refine zc [0] (.p (.tup [])) [(Zi (Zk.mk zl r1.1 z7 zd zh (Zj.mk r1.2.1 r1.2.2)) zn zb), (Zo (Z3.mk z17 z1G z1H z1a z1o z1n z23) zB zy), (Zo b2 z1J z1z)] er1 ?_
 exact zk (Z59 (zl) (r1.1) (z7) (zd) (zh) (r1.2.1) (r1.2.2) (z17) (z1G) (z1H) (z1a) (z1o) (z1n) (z23) (b2) zn zb zB zy z1J z1z zu zP zI)
noncomputable def Z1y (x1 : Int) (zl : List Int) (zp : Int) (z7 : Int) (zd : Int) (zh : List Zq) (z2 : Int) (z6 : Int) (z17 : Int) (z1G : Int) (z1H : Int) (z1a : Int) (z1o : Int) (z1n : List Z8) : Option (Z3 × Bool × Int × Int × Int × (List Zq) × Int × Int) :=
 (Z2X zl zp z7 zd zh z2 z6).bind fun r1 =>
 if ((r1.2.2.2.2.2.1 == 0)) = true then
 ((Z16 ((ByteArray.mk #[41])) zl r1.2.1).bind fun r2 =>
 if ((!r2.1)) = true then
 (Z4N x1 zl r1.2.2.1 r1.2.2.2.1 r1.2.2.2.2.1 r1.2.2.2.2.2.1 r1.2.2.2.2.2.2 z17 z1G z1H z1a z1o z1n r1.1)
 else
 (Z1X r2.2 r1.2.2.1 r1.2.2.2.1 r1.2.2.2.2.1 r1.2.2.2.2.2.1 r1.2.2.2.2.2.2 z17 z1G z1H z1a z1o z1n r1.1))
 else
 (Z1X r1.2.1 r1.2.2.1 r1.2.2.2.1 r1.2.2.2.2.1 r1.2.2.2.2.2.1 r1.2.2.2.2.2.2 z17 z1G z1H z1a z1o z1n r1.1)
theorem Z2y (x1 : Int) (zl : List Int) (zp : Int) (z7 : Int) (zd : Int) (zh : List Zq) (z2 : Int) (z6 : Int) (z17 : Int) (z1G : Int) (z1H : Int) (z1a : Int) (z1o : Int) (z1n : List Z8) (z23 : List Z3) (zn : Own) (zb : Own) (zB : Own) (zy : Own) (zu : okApp zb = true) (zP : okApp zB = true) (zI : okApp zy = true) : Sim (Z2b zl zn) (Z1y x1 zl zp z7 zd zh z2 z6 z17 z1G z1H z1a z1o z1n) (Z8X 1 (.ptr 0 0) (iv x1) (.ptr 1 0) [(Zi (Zk.mk zl zp z7 zd zh (Zj.mk z2 z6)) zn zb), (Zo (Z3.mk z17 z1G z1H z1a z1o z1n z23) zB zy)]) := by
 unfold Z1y
 refine zf (Zh1 ..) ?_
 refine ze ?_
 refine zi fun r1 hr1 => ?_
 obtain ⟨qr1, er1, or1_0_4, exr1, hor1_0_4, rfl⟩ := Z8V (zl) (zp) (z7) (zd) (zh) (z2) (z6) zn zb zu r1 hr1
 refine zc [0] (.p (.agg (Zz r1.1 .sh .sh))) [(Zi (Zk.mk zl r1.2.1 r1.2.2.1 r1.2.2.2.1 r1.2.2.2.2.1 (Zj.mk r1.2.2.2.2.2.1 r1.2.2.2.2.2.2)) zn or1_0_4), (Zo (Z3.mk z17 z1G z1H z1a z1o z1n z23) zB zy)] er1 ?_
 refine zz (.ptr 2 0) [(Zi (Zk.mk zl r1.2.1 r1.2.2.1 r1.2.2.2.1 r1.2.2.2.2.1 (Zj.mk r1.2.2.2.2.2.1 r1.2.2.2.2.2.2)) zn or1_0_4), (Zo (Z3.mk z17 z1G z1H z1a z1o z1n z23) zB zy), (Zo (Z3.mk 0 0 0 0 0 ([] : List Z8) ([] : List Z3)) .nl .nl)] ?_
 refine zt [(Zi (Zk.mk zl r1.2.1 r1.2.2.1 r1.2.2.2.1 r1.2.2.2.2.1 (Zj.mk r1.2.2.2.2.2.1 r1.2.2.2.2.2.2)) zn or1_0_4), (Zo (Z3.mk z17 z1G z1H z1a z1o z1n z23) zB zy), (Zo r1.1 .sh .sh)] ?_
 refine ze ?_
 refine zo (.ptr 0 0) ?_
 refine zo (.ptr 0 5) ?_
 refine zo (.ptr 0 5) ?_
 refine zo (iv r1.2.2.2.2.2.1) ?_
 refine zo (bv (r1.2.2.2.2.2.1 == 0)) ?_
 refine za ((r1.2.2.2.2.2.1 == 0)) ?_ ?_
 ·refine zi fun r2 hr2 => ?_
  obtain ⟨qr2, er2, exr2, rfl⟩ := Z1b ((ByteArray.mk #[41])) (zl) (r1.2.1) (r1.2.2.1) (r1.2.2.2.1) (r1.2.2.2.2.1) (r1.2.2.2.2.2.1) (r1.2.2.2.2.2.2) zn or1_0_4 hor1_0_4 r2 hr2
  refine zc [0] (bv r2.1) [(Zi (Zk.mk zl r2.2 r1.2.2.1 r1.2.2.2.1 r1.2.2.2.2.1 (Zj.mk r1.2.2.2.2.2.1 r1.2.2.2.2.2.2)) zn or1_0_4), (Zo (Z3.mk z17 z1G z1H z1a z1o z1n z23) zB zy), (Zo r1.1 .sh .sh)] er2 ?_
  refine zo (bv (!r2.1)) ?_
  refine za ((!r2.1)) ?_ ?_
  ·exact zk (Z9G (x1) (zl) (r2.2) (r1.2.2.1) (r1.2.2.2.1) (r1.2.2.2.2.1) (r1.2.2.2.2.2.1) (r1.2.2.2.2.2.2) (z17) (z1G) (z1H) (z1a) (z1o) (z1n) (z23) (r1.1) zn or1_0_4 zB zy .sh .sh hor1_0_4 zP zI)
  ·exact zk (Z59 (zl) (r2.2) (r1.2.2.1) (r1.2.2.2.1) (r1.2.2.2.2.1) (r1.2.2.2.2.2.1) (r1.2.2.2.2.2.2) (z17) (z1G) (z1H) (z1a) (z1o) (z1n) (z23) (r1.1) zn or1_0_4 zB zy .sh .sh hor1_0_4 zP zI)
 ·exact zk (Z59 (zl) (r1.2.1) (r1.2.2.1) (r1.2.2.2.1) (r1.2.2.2.2.1) (r1.2.2.2.2.2.1) (r1.2.2.2.2.2.2) (z17) (z1G) (z1H) (z1a) (z1o) (z1n) (z23) (r1.1) zn or1_0_4 zB zy .sh .sh hor1_0_4 zP zI)
noncomputable def Z43 (x1 : Int) (zl : List Int) (zp : Int) (z7 : Int) (zd : Int) (zh : List Zq) (z2 : Int) (z6 : Int) (z17 : Int) (z1G : Int) (z1H : Int) (z1a : Int) (z1o : Int) (z1n : List Z8) : Option (Z3 × Bool × Int × Int × Int × (List Zq) × Int × Int) :=
 (Z8C).bind fun r1 =>
 (Z3I r1 zl zp).bind fun r2 =>
 if ((decide (0 ≤ r2.1))) = true then
 (Z1y x1 zl r2.2 z7 ((IntKind.i64.wrap (zd + 1))) zh z2 z6 7 0 0 r2.1 0 (([] : List Z8)))
 else
 ((Z16 ((ByteArray.mk #[63, 62])) zl r2.2).bind fun r3 =>
 if (r3.1) = true then
 (Z1y x1 zl r3.2 z7 ((IntKind.i64.wrap (zd + 1))) zh z2 z6 8 0 0 0 0 (([] : List Z8)))
 else
 ((Z16 ((ByteArray.mk #[63, 58])) zl r3.2).bind fun r4 =>
 if (r4.1) = true then
 (Z1y x1 zl r4.2 z7 ((IntKind.i64.wrap (zd + 1))) zh z2 z6 z17 z1G z1H z1a z1o z1n)
 else
 ((Z1F ((Zk.mk zl r4.2 z7 (IntKind.i64.wrap (zd + 1)) zh (Zj.mk z2 z6)))).bind fun r5 =>
 if ((r5 == 63)) = true then
 ((ZS 20 x1 zl z2 z6).bind fun r6 =>
 Z1y x1 zl r6.1 z7 ((IntKind.i64.wrap (zd + 1))) zh r6.2.1 r6.2.2 z17 z1G z1H z1a z1o z1n)
 else
 (if ((z7 == 9)) = true then
 ((ZS 24 x1 zl z2 z6).bind fun r7 =>
 Z1y x1 zl r7.1 z7 ((IntKind.i64.wrap (zd + 1))) zh r7.2.1 r7.2.2 z17 z1G z1H z1a z1o z1n)
 else
 (Z1y x1 zl r4.2 ((IntKind.i64.wrap (z7 + 1))) ((IntKind.i64.wrap (zd + 1))) zh z2 z6 5 0 0 0 ((IntKind.i64.wrap (z7 + 1))) (([] : List Z8)))))))
theorem Za0 (x1 : Int) (zl : List Int) (zp : Int) (z7 : Int) (zd : Int) (zh : List Zq) (z2 : Int) (z6 : Int) (z17 : Int) (z1G : Int) (z1H : Int) (z1a : Int) (z1o : Int) (z1n : List Z8) (z23 : List Z3) (zn : Own) (zb : Own) (zB : Own) (zy : Own) (zu : okApp zb = true) (zP : okApp zB = true) (zI : okApp zy = true) : Sim (Z2b zl zn) (Z43 x1 zl zp z7 zd zh z2 z6 z17 z1G z1H z1a z1o z1n) (Zfu 1 (.ptr 0 0) (iv x1) (.ptr 1 0) [(Zi (Zk.mk zl zp z7 zd zh (Zj.mk z2 z6)) zn zb), (Zo (Z3.mk z17 z1G z1H z1a z1o z1n z23) zB zy)]) := by
 unfold Z43
 refine zf (Zit ..) ?_
 refine ze ?_
 refine zo (.ptr 0 0) ?_
 refine zo (.ptr 0 3) ?_
 refine zo (iv zd) ?_
 refine zo (iv (IntKind.i64.wrap (zd + 1))) ?_
 refine zo (.ptr 0 0) ?_
 refine zo (.ptr 0 3) ?_
 refine zt [(Zi (Zk.mk zl zp z7 (IntKind.i64.wrap (zd + 1)) zh (Zj.mk z2 z6)) zn zb), (Zo (Z3.mk z17 z1G z1H z1a z1o z1n z23) zB zy)] ?_
 refine ze ?_
 refine zi fun r1 hr1 => ?_
 obtain ⟨qr1, er1, exr1, rfl⟩ := ZdJ  r1 hr1
 refine zc [] (.p (.lst .sh (r1.map eS))) [(Zi (Zk.mk zl zp z7 (IntKind.i64.wrap (zd + 1)) zh (Zj.mk z2 z6)) zn zb), (Zo (Z3.mk z17 z1G z1H z1a z1o z1n z23) zB zy)] er1 ?_
 refine zi fun r2 hr2 => ?_
 obtain ⟨qr2, er2, exr2, rfl⟩ := Z8Q (r1) (zl) (zp) (z7) ((IntKind.i64.wrap (zd + 1))) (zh) (z2) (z6) .sh zn zb zu r2 hr2
 refine zc [0] (iv r2.1) [(Zi (Zk.mk zl r2.2 z7 (IntKind.i64.wrap (zd + 1)) zh (Zj.mk z2 z6)) zn zb), (Zo (Z3.mk z17 z1G z1H z1a z1o z1n z23) zB zy)] er2 ?_
 refine ze ?_
 refine zo (bv (decide (0 ≤ r2.1))) ?_
 refine za ((decide (0 ≤ r2.1))) ?_ ?_
 ·refine ze ?_
  refine zo (.p (.agg (Zz (Z3.mk 7 0 0 r2.1 0 ([] : List Z8) ([] : List Z3)) .nl .nl))) ?_
  refine zt [(Zi (Zk.mk zl r2.2 z7 (IntKind.i64.wrap (zd + 1)) zh (Zj.mk z2 z6)) zn zb), (Zo (Z3.mk 7 0 0 r2.1 0 ([] : List Z8) ([] : List Z3)) .nl .nl)] ?_
  exact zk (Z2y (x1) (zl) (r2.2) (z7) ((IntKind.i64.wrap (zd + 1))) (zh) (z2) (z6) (7) (0) (0) (r2.1) (0) (([] : List Z8)) (([] : List Z3)) zn zb .nl .nl zu rfl rfl)
 ·refine ze ?_
  refine zi fun r3 hr3 => ?_
  obtain ⟨qr3, er3, exr3, rfl⟩ := Z1b ((ByteArray.mk #[63, 62])) (zl) (r2.2) (z7) ((IntKind.i64.wrap (zd + 1))) (zh) (z2) (z6) zn zb zu r3 hr3
  refine zc [0] (bv r3.1) [(Zi (Zk.mk zl r3.2 z7 (IntKind.i64.wrap (zd + 1)) zh (Zj.mk z2 z6)) zn zb), (Zo (Z3.mk z17 z1G z1H z1a z1o z1n z23) zB zy)] er3 ?_
  refine za (r3.1) ?_ ?_
  ·refine ze ?_
   refine zo (.p (.agg (Zz (Z3.mk 8 0 0 0 0 ([] : List Z8) ([] : List Z3)) .nl .nl))) ?_
   refine zt [(Zi (Zk.mk zl r3.2 z7 (IntKind.i64.wrap (zd + 1)) zh (Zj.mk z2 z6)) zn zb), (Zo (Z3.mk 8 0 0 0 0 ([] : List Z8) ([] : List Z3)) .nl .nl)] ?_
   exact zk (Z2y (x1) (zl) (r3.2) (z7) ((IntKind.i64.wrap (zd + 1))) (zh) (z2) (z6) (8) (0) (0) (0) (0) (([] : List Z8)) (([] : List Z3)) zn zb .nl .nl zu rfl rfl)
  ·refine ze ?_
   refine zi fun r4 hr4 => ?_
   obtain ⟨qr4, er4, exr4, rfl⟩ := Z1b ((ByteArray.mk #[63, 58])) (zl) (r3.2) (z7) ((IntKind.i64.wrap (zd + 1))) (zh) (z2) (z6) zn zb zu r4 hr4
   refine zc [0] (bv r4.1) [(Zi (Zk.mk zl r4.2 z7 (IntKind.i64.wrap (zd + 1)) zh (Zj.mk z2 z6)) zn zb), (Zo (Z3.mk z17 z1G z1H z1a z1o z1n z23) zB zy)] er4 ?_
   refine za (r4.1) ?_ ?_
   ·exact zk (Z2y (x1) (zl) (r4.2) (z7) ((IntKind.i64.wrap (zd + 1))) (zh) (z2) (z6) (z17) (z1G) (z1H) (z1a) (z1o) (z1n) (z23) zn zb zB zy zu zP zI)
   ·refine ze ?_
    refine zi fun r5 hr5 => ?_
    obtain ⟨qr5, er5, exr5, rfl⟩ := Z1K ((Zk.mk zl r4.2 z7 (IntKind.i64.wrap (zd + 1)) zh (Zj.mk z2 z6))) zn zb zu r5 hr5
    refine zc [0] (iv r5) [(Zi (Zk.mk zl r4.2 z7 (IntKind.i64.wrap (zd + 1)) zh (Zj.mk z2 z6)) zn zb), (Zo (Z3.mk z17 z1G z1H z1a z1o z1n z23) zB zy)] er5 ?_
    refine zo (bv (r5 == 63)) ?_
    refine za ((r5 == 63)) ?_ ?_
    ·refine ze ?_
     refine zi fun r6 hr6 => ?_
     obtain ⟨qr6, er6, exr6, rfl⟩ := ZV (20) (x1) (zl) (r4.2) (z7) ((IntKind.i64.wrap (zd + 1))) (zh) (z2) (z6) zn zb zu r6 hr6
     refine zc [0] (.p (.tup [])) [(Zi (Zk.mk zl r6.1 z7 (IntKind.i64.wrap (zd + 1)) zh (Zj.mk r6.2.1 r6.2.2)) zn zb), (Zo (Z3.mk z17 z1G z1H z1a z1o z1n z23) zB zy)] er6 ?_
     exact zk (Z2y (x1) (zl) (r6.1) (z7) ((IntKind.i64.wrap (zd + 1))) (zh) (r6.2.1) (r6.2.2) (z17) (z1G) (z1H) (z1a) (z1o) (z1n) (z23) zn zb zB zy zu zP zI)
    ·refine ze ?_
     refine zo (.ptr 0 0) ?_
     refine zo (.ptr 0 2) ?_
     refine zo (iv z7) ?_
     refine zo (bv (z7 == 9)) ?_
     refine za ((z7 == 9)) ?_ ?_
     ·refine ze ?_
      refine zi fun r7 hr7 => ?_
      obtain ⟨qr7, er7, exr7, rfl⟩ := ZV (24) (x1) (zl) (r4.2) (z7) ((IntKind.i64.wrap (zd + 1))) (zh) (z2) (z6) zn zb zu r7 hr7
      refine zc [0] (.p (.tup [])) [(Zi (Zk.mk zl r7.1 z7 (IntKind.i64.wrap (zd + 1)) zh (Zj.mk r7.2.1 r7.2.2)) zn zb), (Zo (Z3.mk z17 z1G z1H z1a z1o z1n z23) zB zy)] er7 ?_
      exact zk (Z2y (x1) (zl) (r7.1) (z7) ((IntKind.i64.wrap (zd + 1))) (zh) (r7.2.1) (r7.2.2) (z17) (z1G) (z1H) (z1a) (z1o) (z1n) (z23) zn zb zB zy zu zP zI)
     ·refine ze ?_
      refine zo (.ptr 0 0) ?_
      refine zo (.ptr 0 2) ?_
      refine zo (iv z7) ?_
      refine zo (iv (IntKind.i64.wrap (z7 + 1))) ?_
      refine zo (.ptr 0 0) ?_
      refine zo (.ptr 0 2) ?_
      refine zt [(Zi (Zk.mk zl r4.2 (IntKind.i64.wrap (z7 + 1)) (IntKind.i64.wrap (zd + 1)) zh (Zj.mk z2 z6)) zn zb), (Zo (Z3.mk z17 z1G z1H z1a z1o z1n z23) zB zy)] ?_
      refine ze ?_
      refine zo (.ptr 0 0) ?_
      refine zo (.ptr 0 2) ?_
      refine zo (iv (IntKind.i64.wrap (z7 + 1))) ?_
      refine zo (.p (.agg (Zz (Z3.mk 5 0 0 0 (IntKind.i64.wrap (z7 + 1)) ([] : List Z8) ([] : List Z3)) .nl .nl))) ?_
      refine zt [(Zi (Zk.mk zl r4.2 (IntKind.i64.wrap (z7 + 1)) (IntKind.i64.wrap (zd + 1)) zh (Zj.mk z2 z6)) zn zb), (Zo (Z3.mk 5 0 0 0 (IntKind.i64.wrap (z7 + 1)) ([] : List Z8) ([] : List Z3)) .nl .nl)] ?_
      exact zk (Z2y (x1) (zl) (r4.2) ((IntKind.i64.wrap (z7 + 1))) ((IntKind.i64.wrap (zd + 1))) (zh) (z2) (z6) (5) (0) (0) (0) ((IntKind.i64.wrap (z7 + 1))) (([] : List Z8)) (([] : List Z3)) zn zb .nl .nl zu rfl rfl)
noncomputable def Z40 (x1 : Int) (zl : List Int) (zp : Int) (z7 : Int) (zd : Int) (zh : List Zq) (z2 : Int) (z6 : Int) : Option (Z3 × Bool × Int × Int × Int × (List Zq) × Int × Int) :=
 if ((zd == 32)) = true then
 ((ZS 25 x1 zl z2 z6).bind fun r1 =>
 some ((Z3.mk 0 0 0 0 0 ([] : List Z8) ([] : List Z3)), true, r1.1, z7, zd, zh, r1.2.1, r1.2.2))
 else
 (Z43 x1 zl zp z7 zd zh z2 z6 0 0 0 0 0 (([] : List Z8)))
theorem ZaQ (x1 : Int) (zl : List Int) (zp : Int) (z7 : Int) (zd : Int) (zh : List Zq) (z2 : Int) (z6 : Int) (zn : Own) (zb : Own) (zu : okApp zb = true) : Sim (Z2b zl zn) (Z40 x1 zl zp z7 zd zh z2 z6) (EE 51 [(.ptr 0 0), (iv x1)] [(Zi (Zk.mk zl zp z7 zd zh (Zj.mk z2 z6)) zn zb)]) := by
 unfold Z40
 refine zf (Zk9 ..) ?_
 refine ze ?_
 refine zz (.ptr 1 0) [(Zi (Zk.mk zl zp z7 zd zh (Zj.mk z2 z6)) zn zb), (Zo (Z3.mk 0 0 0 0 0 ([] : List Z8) ([] : List Z3)) .nl .nl)] ?_
 refine ze ?_
 refine zo (.ptr 0 0) ?_
 refine zo (.ptr 0 3) ?_
 refine zo (iv zd) ?_
 refine zo (bv (zd == 32)) ?_
 refine za ((zd == 32)) ?_ ?_
 ·refine ze ?_
  refine zi fun r1 hr1 => ?_
  obtain ⟨qr1, er1, exr1, rfl⟩ := ZV (25) (x1) (zl) (zp) (z7) (zd) (zh) (z2) (z6) zn zb zu r1 hr1
  refine zc [0] (.p (.tup [])) [(Zi (Zk.mk zl r1.1 z7 zd zh (Zj.mk r1.2.1 r1.2.2)) zn zb), (Zo (Z3.mk 0 0 0 0 0 ([] : List Z8) ([] : List Z3)) .nl .nl)] er1 ?_
  refine ze ?_
  refine zo (.p (.agg (Zz (Z3.mk 0 0 0 0 0 ([] : List Z8) ([] : List Z3)) .nl .nl))) ?_
  refine zt [(Zi (Zk.mk zl r1.1 z7 zd zh (Zj.mk r1.2.1 r1.2.2)) zn zb), (Zo (Z3.mk 0 0 0 0 0 ([] : List Z8) ([] : List Z3)) .nl .nl)] ?_
  exact zr ((.p (.tup [(.agg (Zz (Z3.mk 0 0 0 0 0 ([] : List Z8) ([] : List Z3)) .sh .sh)), (.v (.bool true))])), [(Zi (Zk.mk zl r1.1 z7 zd zh (Zj.mk r1.2.1 r1.2.2)) zn zb), (Zo (Z3.mk 0 0 0 0 0 ([] : List Z8) ([] : List Z3)) .nl .nl)]) ⟨zb, _, zu, rfl⟩
 ·exact zk (Za0 (x1) (zl) (zp) (z7) (zd) (zh) (z2) (z6) (0) (0) (0) (0) (0) (([] : List Z8)) (([] : List Z3)) zn zb .nl .nl zu rfl rfl)
theorem Z6c (x1 : Int) (zl : List Int) (zp : Int) (z7 : Int) (zd : Int) (zh : List Zq) (z2 : Int) (z6 : Int) {r} (h : Z40 x1 zl zp z7 zd zh z2 z6 = some r) : Z3c x1 zl zp z7 zd zh z2 z6 = some r :=
 pick_of (fun _ _ ha hb => RRun.uniq (Zbz _ _) (ha .ex .ex rfl) (hb .ex .ex rfl)) (fun zn zb zu => ZaQ x1 zl zp z7 zd zh z2 z6 zn zb zu r h)
noncomputable def Zad  : Option ((List ByteArray)) :=
 some (([(ByteArray.mk #[63, 61]), (ByteArray.mk #[63, 33]), (ByteArray.mk #[63, 60, 61]), (ByteArray.mk #[63, 60, 33])] : List ByteArray))
theorem ZdF  : Sim (Z72) (Zad) (EE 62 [] []) := by
 unfold Zad
 refine zf (Zk5 ..) ?_
 refine ze ?_
 refine ze ?_
 refine zo (.p (.lst .ex (([(ByteArray.mk #[63, 61]), (ByteArray.mk #[63, 33]), (ByteArray.mk #[63, 60, 61]), (ByteArray.mk #[63, 60, 33])] : List ByteArray).map eS))) ?_
 exact zr ((.p (.lst .sh (([(ByteArray.mk #[63, 61]), (ByteArray.mk #[63, 33]), (ByteArray.mk #[63, 60, 61]), (ByteArray.mk #[63, 60, 33])] : List ByteArray).map eS))), []) ⟨_, rfl⟩
theorem ZdI  {r} (h : Zad = some r) : Z8C = some r :=
 pick_of (fun _ _ ha hb => RRun.uniq (Zel) (ha ) (hb )) (ZdF  r h)
noncomputable def Z3J (x0 : List ByteArray) (zl : List Int) (zp : Int) : Option (Int × Int) :=
 Z1w x0 ((x0.length : Int)) 0 zl zp
theorem Z8z (x0 : List ByteArray) (zl : List Int) (zp : Int) (z7 : Int) (zd : Int) (zh : List Zq) (z2 : Int) (z6 : Int) (ox0 : Own) (zn : Own) (zb : Own) (zu : okApp zb = true) : Sim (Z1m zl z7 zd zh z2 z6 zn zb) (Z3J x0 zl zp) (EE 61 [(.p (.lst ox0 (x0.map eS))), (.clo 27 [(.ptr 0 0)] [])] [(Zi (Zk.mk zl zp z7 zd zh (Zj.mk z2 z6)) zn zb)]) := by
 unfold Z3J
 refine zf (Zk6 ..) ?_
 refine ze ?_
 refine ze ?_
 refine zo (iv (x0.length : Int)) ?_ (Eq.trans (by kernel_rfl) (xlen_of (P := PP) (t := 43) (d := 9) (by kernel_rfl) eS (shrO ox0) x0))
 exact zk (Z5A (x0) ((x0.length : Int)) (0) (zl) (zp) (z7) (zd) (zh) (z2) (z6) ox0 zn zb zu)
theorem Z8K (x0 : List ByteArray) (zl : List Int) (zp : Int) {r} (h : Z3J x0 zl zp = some r) : Z3I x0 zl zp = some r :=
 pick_of (fun _ _ ha hb => RRun.uniq (Z6b _ _ _ _ _ _ _ _) (ha default default default default default .ex .ex .ex rfl) (hb default default default default default .ex .ex .ex rfl)) (fun z7 zd zh z2 z6 ox0 zn zb zu => Z8z x0 zl zp z7 zd zh z2 z6 ox0 zn zb zu r h)
noncomputable def Z3e (x0 : List ByteArray) (x7 : Int) (x8 : Int) (zl : List Int) (zp : Int) : Option (Int × Int) :=
 Z1w x0 x7 ((IntKind.i64.wrap (x8 + 1))) zl zp
theorem Z7E (x0 : List ByteArray) (x7 : Int) (x8 : Int) (zl : List Int) (zp : Int) (z7 : Int) (zd : Int) (zh : List Zq) (z2 : Int) (z6 : Int) (ox0 : Own) (zn : Own) (zb : Own) (zu : okApp zb = true) : Sim (Z1m zl z7 zd zh z2 z6 zn zb) (Z3e x0 x7 x8 zl zp) (Zgg 1 (.p (.lst ox0 (x0.map eS))) (.clo 27 [(.ptr 0 0)] []) (iv x7) (iv x8) [(Zi (Zk.mk zl zp z7 zd zh (Zj.mk z2 z6)) zn zb)]) := by
 unfold Z3e
 refine zf (Zj6 ..) ?_
 refine ze ?_
 refine zo (iv (IntKind.i64.wrap (x8 + 1))) ?_
 exact zk (Z5A (x0) (x7) ((IntKind.i64.wrap (x8 + 1))) (zl) (zp) (z7) (zd) (zh) (z2) (z6) ox0 zn zb zu)
noncomputable def Z2A (x0 : List ByteArray) (x7 : Int) (x8 : Int) (zl : List Int) (zp : Int) : Option (Int × Int) :=
 (lget x0 x8).bind fun a1 =>
 (Z16 a1 zl zp).bind fun r2 =>
 if (r2.1) = true then
 (some (x8, r2.2))
 else
 (Z3e x0 x7 x8 zl r2.2)
theorem Z7m (x0 : List ByteArray) (x7 : Int) (x8 : Int) (zl : List Int) (zp : Int) (z7 : Int) (zd : Int) (zh : List Zq) (z2 : Int) (z6 : Int) (ox0 : Own) (zn : Own) (zb : Own) (zu : okApp zb = true) : Sim (Z1m zl z7 zd zh z2 z6 zn zb) (Z2A x0 x7 x8 zl zp) (ZfV 1 (.p (.lst ox0 (x0.map eS))) (.clo 27 [(.ptr 0 0)] []) (iv x7) (iv x8) [(Zi (Zk.mk zl zp z7 zd zh (Zj.mk z2 z6)) zn zb)]) := by
 unfold Z2A
 refine zf (ZiM ..) ?_
 refine ze ?_
 refine ze ?_
 refine zi fun a1 ha1 => ?_
 refine zo (.cptr [(.v (.string a1))]) ?_ (Eq.trans (by kernel_rfl) (xidx_of (o := (shrO ox0)) (k := .i64) (n := 1) (e := eS) (cs := (fun a => [eS a])) (fun _ => rfl) (fun _ => rfl) (by decide) ha1))
 refine zo (.p (.v (.string a1))) ?_
 refine zi fun r2 hr2 => ?_
 obtain ⟨qr2, er2, exr2, rfl⟩ := Z1b (a1) (zl) (zp) (z7) (zd) (zh) (z2) (z6) zn zb zu r2 hr2
 refine zv [0] (bv r2.1) [(Zi (Zk.mk zl r2.2 z7 zd zh (Zj.mk z2 z6)) zn zb)] er2 ?_
 refine za (r2.1) ?_ ?_
 ·refine ze ?_
  exact zr ((iv x8), [(Zi (Zk.mk zl r2.2 z7 zd zh (Zj.mk z2 z6)) zn zb)]) ⟨_, rfl⟩
 ·exact zk (Z7E (x0) (x7) (x8) (zl) (r2.2) (z7) (zd) (zh) (z2) (z6) ox0 zn zb zu)
noncomputable def Z4m (zp : Int) : Option (Int × Int) :=
 some ((-1), zp)
theorem Z7A (zl : List Int) (zp : Int) (z7 : Int) (zd : Int) (zh : List Zq) (z2 : Int) (z6 : Int) (zn : Own) (zb : Own) (zu : okApp zb = true) : Sim (Z1m zl z7 zd zh z2 z6 zn zb) (Z4m zp) (Zgp 1  [(Zi (Zk.mk zl zp z7 zd zh (Zj.mk z2 z6)) zn zb)]) := by
 unfold Z4m
 refine zf (Zik ..) ?_
 refine ze ?_
 exact zr ((iv (-1)), [(Zi (Zk.mk zl zp z7 zd zh (Zj.mk z2 z6)) zn zb)]) ⟨_, rfl⟩
noncomputable def Z29 (x0 : List ByteArray) (x7 : Int) (x8 : Int) (zl : List Int) (zp : Int) : Option (Int × Int) :=
 if ((decide (x8 < x7))) = true then
 (Z2A x0 x7 x8 zl zp)
 else
 (Z4m zp)
theorem Z7u (x0 : List ByteArray) (x7 : Int) (x8 : Int) (zl : List Int) (zp : Int) (z7 : Int) (zd : Int) (zh : List Zq) (z2 : Int) (z6 : Int) (ox0 : Own) (zn : Own) (zb : Own) (zu : okApp zb = true) : Sim (Z1m zl z7 zd zh z2 z6 zn zb) (Z29 x0 x7 x8 zl zp) (ZbN 1 (.p (.lst ox0 (x0.map eS))) (.clo 27 [(.ptr 0 0)] []) (iv x7) (iv x8) [(Zi (Zk.mk zl zp z7 zd zh (Zj.mk z2 z6)) zn zb)]) := by
 unfold Z29
 refine zf (Ziu ..) ?_
 refine ze ?_
 refine zo (bv (decide (x8 < x7))) ?_
 refine za ((decide (x8 < x7))) ?_ ?_
 ·exact zk (Z7m (x0) (x7) (x8) (zl) (zp) (z7) (zd) (zh) (z2) (z6) ox0 zn zb zu)
 ·exact zk (Z7A (zl) (zp) (z7) (zd) (zh) (z2) (z6) zn zb zu)
theorem Z3V (x0 : List ByteArray) (x7 : Int) (x8 : Int) (zl : List Int) (zp : Int) {r} (h : Z29 x0 x7 x8 zl zp = some r) : Z1w x0 x7 x8 zl zp = some r :=
 pick_of (fun _ _ ha hb => RRun.uniq (Z6b _ _ _ _ _ _ _ _) (ha default default default default default .ex .ex .ex rfl) (hb default default default default default .ex .ex .ex rfl)) (fun z7 zd zh z2 z6 ox0 zn zb zu => Z7u x0 x7 x8 zl zp z7 zd zh z2 z6 ox0 zn zb zu r h)
noncomputable def Z2Z (zp : Int) (z2 : Int) (z6 : Int) (z1Z : Int) (z32 : Int) (z31 : Int) (z2x : Int) (z2p : Int) (z2q : List Z8) (z20 : List Z3) : Option (Z3 × Int × Int × Int) :=
 some ((Z3.mk z1Z z32 z31 z2x z2p z2q z20), zp, z2, z6)
theorem Z51 (zl : List Int) (zp : Int) (z7 : Int) (zd : Int) (zh : List Zq) (z2 : Int) (z6 : Int) (b1 : Z3) (b2 : Z3) (z1Z : Int) (z32 : Int) (z31 : Int) (z2x : Int) (z2p : Int) (z2q : List Z8) (z20 : List Z3) (zn : Own) (zb : Own) (zB : Own) (zy : Own) (z1J : Own) (z1z : Own) (z35 : Own) (z2C : Own) (zu : okApp zb = true) (z8L : okApp z1J = true) (z7w : okApp z1z = true) (z8I : okApp z35 = true) (z7x : okApp z2C = true) : Sim (Z2F zl z7 zd zh zn zb) (Z2Z zp z2 z6 z1Z z32 z31 z2x z2p z2q z20) (Zc0 1 (.ptr 2 0) (.ptr 3 0) [(Zi (Zk.mk zl zp z7 zd zh (Zj.mk z2 z6)) zn zb), (Zo b1 zB zy), (Zo b2 z1J z1z), (Zo (Z3.mk z1Z z32 z31 z2x z2p z2q z20) z35 z2C)]) := by
 unfold Z2Z
 refine zf (Zhl ..) ?_
 refine ze ?_
 refine zo (.p (.agg (Zz (Z3.mk z1Z z32 z31 z2x z2p z2q z20) (shrO z35) (shrO z2C)))) ?_
 refine zt [(Zi (Zk.mk zl zp z7 zd zh (Zj.mk z2 z6)) zn zb), (Zo b1 zB zy), (Zo (Z3.mk z1Z z32 z31 z2x z2p z2q z20) (shrO z35) (shrO z2C)), (Zo (Z3.mk z1Z z32 z31 z2x z2p z2q z20) z35 z2C)] ?_
 exact zr ((.p (.agg (Zz (Z3.mk z1Z z32 z31 z2x z2p z2q z20) .sh .sh))), [(Zi (Zk.mk zl zp z7 zd zh (Zj.mk z2 z6)) zn zb), (Zo b1 zB zy), (Zo (Z3.mk z1Z z32 z31 z2x z2p z2q z20) (shrO z35) (shrO z2C)), (Zo (Z3.mk z1Z z32 z31 z2x z2p z2q z20) z35 z2C)]) ⟨_, rfl⟩
noncomputable def Z2r (zl : List Int) (zp : Int) (z2 : Int) (z6 : Int) (z1Z : Int) (z32 : Int) (z31 : Int) (z2x : Int) (z2p : Int) (z2q : List Z8) (z20 : List Z3) : Option (Z3 × Int × Int × Int) :=
 (Z16 ((ByteArray.mk #[63])) zl zp).bind fun r1 =>
 if (r1.1) = true then
 (Z2Z r1.2 z2 z6 z1Z z32 z31 1 z2p z2q z20)
 else
 ((Z16 ((ByteArray.mk #[43])) zl r1.2).bind fun r2 =>
 if (r2.1) = true then
 (Z2Z r2.2 z2 z6 z1Z z32 z31 2 z2p z2q z20)
 else
 (Z2Z r2.2 z2 z6 z1Z z32 z31 z2x z2p z2q z20))
theorem Z6t (zl : List Int) (zp : Int) (z7 : Int) (zd : Int) (zh : List Zq) (z2 : Int) (z6 : Int) (b1 : Z3) (b2 : Z3) (z1Z : Int) (z32 : Int) (z31 : Int) (z2x : Int) (z2p : Int) (z2q : List Z8) (z20 : List Z3) (zn : Own) (zb : Own) (zB : Own) (zy : Own) (z1J : Own) (z1z : Own) (z35 : Own) (z2C : Own) (zu : okApp zb = true) (z8L : okApp z1J = true) (z7w : okApp z1z = true) (z8I : okApp z35 = true) (z7x : okApp z2C = true) : Sim (Z2F zl z7 zd zh zn zb) (Z2r zl zp z2 z6 z1Z z32 z31 z2x z2p z2q z20) (Zdr 1 (.ptr 0 0) (.ptr 2 0) (.ptr 3 0) [(Zi (Zk.mk zl zp z7 zd zh (Zj.mk z2 z6)) zn zb), (Zo b1 zB zy), (Zo b2 z1J z1z), (Zo (Z3.mk z1Z z32 z31 z2x z2p z2q z20) z35 z2C)]) := by
 unfold Z2r
 refine zf (Zhf ..) ?_
 refine ze ?_
 refine zi fun r1 hr1 => ?_
 obtain ⟨qr1, er1, exr1, rfl⟩ := Z1b ((ByteArray.mk #[63])) (zl) (zp) (z7) (zd) (zh) (z2) (z6) zn zb zu r1 hr1
 refine zc [0] (bv r1.1) [(Zi (Zk.mk zl r1.2 z7 zd zh (Zj.mk z2 z6)) zn zb), (Zo b1 zB zy), (Zo b2 z1J z1z), (Zo (Z3.mk z1Z z32 z31 z2x z2p z2q z20) z35 z2C)] er1 ?_
 refine za (r1.1) ?_ ?_
 ·refine ze ?_
  refine zo (.ptr 3 3) ?_
  refine zt [(Zi (Zk.mk zl r1.2 z7 zd zh (Zj.mk z2 z6)) zn zb), (Zo b1 zB zy), (Zo b2 z1J z1z), (Zo (Z3.mk z1Z z32 z31 1 z2p z2q z20) z35 z2C)] ?_
  exact zk (Z51 (zl) (r1.2) (z7) (zd) (zh) (z2) (z6) (b1) (b2) (z1Z) (z32) (z31) (1) (z2p) (z2q) (z20) zn zb zB zy z1J z1z z35 z2C zu z8L z7w z8I z7x)
 ·refine ze ?_
  refine zi fun r2 hr2 => ?_
  obtain ⟨qr2, er2, exr2, rfl⟩ := Z1b ((ByteArray.mk #[43])) (zl) (r1.2) (z7) (zd) (zh) (z2) (z6) zn zb zu r2 hr2
  refine zc [0] (bv r2.1) [(Zi (Zk.mk zl r2.2 z7 zd zh (Zj.mk z2 z6)) zn zb), (Zo b1 zB zy), (Zo b2 z1J z1z), (Zo (Z3.mk z1Z z32 z31 z2x z2p z2q z20) z35 z2C)] er2 ?_
  refine za (r2.1) ?_ ?_
  ·refine ze ?_
   refine zo (.ptr 3 3) ?_
   refine zt [(Zi (Zk.mk zl r2.2 z7 zd zh (Zj.mk z2 z6)) zn zb), (Zo b1 zB zy), (Zo b2 z1J z1z), (Zo (Z3.mk z1Z z32 z31 2 z2p z2q z20) z35 z2C)] ?_
   exact zk (Z51 (zl) (r2.2) (z7) (zd) (zh) (z2) (z6) (b1) (b2) (z1Z) (z32) (z31) (2) (z2p) (z2q) (z20) zn zb zB zy z1J z1z z35 z2C zu z8L z7w z8I z7x)
  ·exact zk (Z51 (zl) (r2.2) (z7) (zd) (zh) (z2) (z6) (b1) (b2) (z1Z) (z32) (z31) (z2x) (z2p) (z2q) (z20) zn zb zB zy z1J z1z z35 z2C zu z8L z7w z8I z7x)
noncomputable def Z1R (x2 : Bool) (x7 : Int) (zl : List Int) (zp : Int) (z2 : Int) (z6 : Int) (z1Z : Int) (z32 : Int) (z31 : Int) (z2x : Int) (z2p : Int) (z2q : List Z8) (z20 : List Z3) : Option (Z3 × Int × Int × Int) :=
 if ((!x2)) = true then
 ((ZS 23 x7 zl z2 z6).bind fun r1 =>
 Z2r zl r1.1 r1.2.1 r1.2.2 z1Z z32 z31 z2x z2p z2q z20)
 else
 (Z2r zl zp z2 z6 z1Z z32 z31 z2x z2p z2q z20)
theorem Z3L (x2 : Bool) (x7 : Int) (zl : List Int) (zp : Int) (z7 : Int) (zd : Int) (zh : List Zq) (z2 : Int) (z6 : Int) (b1 : Z3) (b2 : Z3) (z1Z : Int) (z32 : Int) (z31 : Int) (z2x : Int) (z2p : Int) (z2q : List Z8) (z20 : List Z3) (zn : Own) (zb : Own) (zB : Own) (zy : Own) (z1J : Own) (z1z : Own) (z35 : Own) (z2C : Own) (zu : okApp zb = true) (z8L : okApp z1J = true) (z7w : okApp z1z = true) (z8I : okApp z35 = true) (z7x : okApp z2C = true) : Sim (Z2F zl z7 zd zh zn zb) (Z1R x2 x7 zl zp z2 z6 z1Z z32 z31 z2x z2p z2q z20) (ZaG 1 (.ptr 0 0) (bv x2) (.ptr 2 0) (iv x7) (.ptr 3 0) [(Zi (Zk.mk zl zp z7 zd zh (Zj.mk z2 z6)) zn zb), (Zo b1 zB zy), (Zo b2 z1J z1z), (Zo (Z3.mk z1Z z32 z31 z2x z2p z2q z20) z35 z2C)]) := by
 unfold Z1R
 refine zf (Zhd ..) ?_
 refine ze ?_
 refine zo (bv (!x2)) ?_
 refine za ((!x2)) ?_ ?_
 ·refine ze ?_
  refine zi fun r1 hr1 => ?_
  obtain ⟨qr1, er1, exr1, rfl⟩ := ZV (23) (x7) (zl) (zp) (z7) (zd) (zh) (z2) (z6) zn zb zu r1 hr1
  refine zc [0] (.p (.tup [])) [(Zi (Zk.mk zl r1.1 z7 zd zh (Zj.mk r1.2.1 r1.2.2)) zn zb), (Zo b1 zB zy), (Zo b2 z1J z1z), (Zo (Z3.mk z1Z z32 z31 z2x z2p z2q z20) z35 z2C)] er1 ?_
  exact zk (Z6t (zl) (r1.1) (z7) (zd) (zh) (r1.2.1) (r1.2.2) (b1) (b2) (z1Z) (z32) (z31) (z2x) (z2p) (z2q) (z20) zn zb zB zy z1J z1z z35 z2C zu z8L z7w z8I z7x)
 ·exact zk (Z6t (zl) (zp) (z7) (zd) (zh) (z2) (z6) (b1) (b2) (z1Z) (z32) (z31) (z2x) (z2p) (z2q) (z20) zn zb zB zy z1J z1z z35 z2C zu z8L z7w z8I z7x)
noncomputable def Z3H (x1 : Z3) (x2 : Bool) (zl : List Int) (zp : Int) (z7 : Int) (zd : Int) (zh : List Zq) (z2 : Int) (z6 : Int) : Option (Z3 × Int × Int × Int) :=
 (Z16 ((ByteArray.mk #[42])) zl zp).bind fun r1 =>
 if (r1.1) = true then
 (Z1R x2 zp zl r1.2 z2 z6 4 0 ((-1)) 0 0 (([] : List Z8)) (([x1] : List Z3)))
 else
 ((Z16 ((ByteArray.mk #[43])) zl r1.2).bind fun r2 =>
 if (r2.1) = true then
 (Z1R x2 zp zl r2.2 z2 z6 4 1 ((-1)) 0 0 (([] : List Z8)) (([x1] : List Z3)))
 else
 ((Z16 ((ByteArray.mk #[63])) zl r2.2).bind fun r3 =>
 if (r3.1) = true then
 (Z1R x2 zp zl r3.2 z2 z6 4 0 1 0 0 (([] : List Z8)) (([x1] : List Z3)))
 else
 ((Z16 ((ByteArray.mk #[123])) zl r3.2).bind fun r4 =>
 if (r4.1) = true then
 ((Z4q zp zl r4.2 z7 zd zh z2 z6).bind fun r5 =>
 Z1R x2 zp zl r5.2.2.1 r5.2.2.2.1 r5.2.2.2.2 4 r5.1 r5.2.1 0 0 (([] : List Z8)) (([x1] : List Z3)))
 else
 (some (x1, r4.2, z2, z6)))))
theorem Zaz (x1 : Z3) (x2 : Bool) (zl : List Int) (zp : Int) (z7 : Int) (zd : Int) (zh : List Zq) (z2 : Int) (z6 : Int) (z2a : Own) (z1M : Own) (zn : Own) (zb : Own) (zu : okApp zb = true) : Sim (Z2F zl z7 zd zh zn zb) (Z3H x1 x2 zl zp z7 zd zh z2 z6) (EE 43 [(.ptr 0 0), (.p (.agg (Zz x1 z2a z1M))), (bv x2)] [(Zi (Zk.mk zl zp z7 zd zh (Zj.mk z2 z6)) zn zb)]) := by
 unfold Z3H
 refine zf (ZkP ..) ?_
 refine ze ?_
 refine zx (.ptr 1 0) [(Zi (Zk.mk zl zp z7 zd zh (Zj.mk z2 z6)) zn zb), (Zo x1 z2a z1M)] ?_
 refine zz (.ptr 2 0) [(Zi (Zk.mk zl zp z7 zd zh (Zj.mk z2 z6)) zn zb), (Zo x1 z2a z1M), (Zo (Z3.mk 0 0 0 0 0 ([] : List Z8) ([] : List Z3)) .nl .nl)] ?_
 refine ze ?_
 refine zo (.ptr 0 0) ?_
 refine zo (.ptr 0 1) ?_
 refine zo (iv zp) ?_
 refine ze ?_
 refine zo (.p (.agg (Zz x1 (shrO z2a) (shrO z1M)))) ?_
 refine zo (.p (.lst .ex (([x1] : List Z3).map ZD))) ?_ (Eq.trans (b := some (.p (.lst .ex [.agg (Z1T x1)]))) (by kernel_rfl) (by simp only [List.map_cons, List.map_nil, Z3d]))
 refine zo (.p (.agg (Zz (Z3.mk 4 0 (-1) 0 0 ([] : List Z8) ([x1] : List Z3)) .nl .ex))) ?_
 refine zz (.ptr 3 0) [(Zi (Zk.mk zl zp z7 zd zh (Zj.mk z2 z6)) zn zb), (Zo x1 z2a z1M), (Zo (Z3.mk 0 0 0 0 0 ([] : List Z8) ([] : List Z3)) .nl .nl), (Zo (Z3.mk 0 0 0 0 0 ([] : List Z8) ([] : List Z3)) .nl .nl)] ?_
 refine zt [(Zi (Zk.mk zl zp z7 zd zh (Zj.mk z2 z6)) zn zb), (Zo x1 z2a z1M), (Zo (Z3.mk 0 0 0 0 0 ([] : List Z8) ([] : List Z3)) .nl .nl), (Zo (Z3.mk 4 0 (-1) 0 0 ([] : List Z8) ([x1] : List Z3)) .nl .ex)] ?_
 refine ze ?_
 refine zi fun r1 hr1 => ?_
 obtain ⟨qr1, er1, exr1, rfl⟩ := Z1b ((ByteArray.mk #[42])) (zl) (zp) (z7) (zd) (zh) (z2) (z6) zn zb zu r1 hr1
 refine zc [0] (bv r1.1) [(Zi (Zk.mk zl r1.2 z7 zd zh (Zj.mk z2 z6)) zn zb), (Zo x1 z2a z1M), (Zo (Z3.mk 0 0 0 0 0 ([] : List Z8) ([] : List Z3)) .nl .nl), (Zo (Z3.mk 4 0 (-1) 0 0 ([] : List Z8) ([x1] : List Z3)) .nl .ex)] er1 ?_
 refine za (r1.1) ?_ ?_
 ·exact zk (Z3L (x2) (zp) (zl) (r1.2) (z7) (zd) (zh) (z2) (z6) (x1) ((Z3.mk 0 0 0 0 0 ([] : List Z8) ([] : List Z3))) (4) (0) ((-1)) (0) (0) (([] : List Z8)) (([x1] : List Z3)) zn zb z2a z1M .nl .nl .nl .ex zu rfl rfl rfl rfl)
 ·refine ze ?_
  refine zi fun r2 hr2 => ?_
  obtain ⟨qr2, er2, exr2, rfl⟩ := Z1b ((ByteArray.mk #[43])) (zl) (r1.2) (z7) (zd) (zh) (z2) (z6) zn zb zu r2 hr2
  refine zc [0] (bv r2.1) [(Zi (Zk.mk zl r2.2 z7 zd zh (Zj.mk z2 z6)) zn zb), (Zo x1 z2a z1M), (Zo (Z3.mk 0 0 0 0 0 ([] : List Z8) ([] : List Z3)) .nl .nl), (Zo (Z3.mk 4 0 (-1) 0 0 ([] : List Z8) ([x1] : List Z3)) .nl .ex)] er2 ?_
  refine za (r2.1) ?_ ?_
  ·refine ze ?_
   refine zo (.ptr 3 1) ?_
   refine zt [(Zi (Zk.mk zl r2.2 z7 zd zh (Zj.mk z2 z6)) zn zb), (Zo x1 z2a z1M), (Zo (Z3.mk 0 0 0 0 0 ([] : List Z8) ([] : List Z3)) .nl .nl), (Zo (Z3.mk 4 1 (-1) 0 0 ([] : List Z8) ([x1] : List Z3)) .nl .ex)] ?_
   exact zk (Z3L (x2) (zp) (zl) (r2.2) (z7) (zd) (zh) (z2) (z6) (x1) ((Z3.mk 0 0 0 0 0 ([] : List Z8) ([] : List Z3))) (4) (1) ((-1)) (0) (0) (([] : List Z8)) (([x1] : List Z3)) zn zb z2a z1M .nl .nl .nl .ex zu rfl rfl rfl rfl)
  ·refine ze ?_
   refine zi fun r3 hr3 => ?_
   obtain ⟨qr3, er3, exr3, rfl⟩ := Z1b ((ByteArray.mk #[63])) (zl) (r2.2) (z7) (zd) (zh) (z2) (z6) zn zb zu r3 hr3
   refine zc [0] (bv r3.1) [(Zi (Zk.mk zl r3.2 z7 zd zh (Zj.mk z2 z6)) zn zb), (Zo x1 z2a z1M), (Zo (Z3.mk 0 0 0 0 0 ([] : List Z8) ([] : List Z3)) .nl .nl), (Zo (Z3.mk 4 0 (-1) 0 0 ([] : List Z8) ([x1] : List Z3)) .nl .ex)] er3 ?_
   refine za (r3.1) ?_ ?_
   ·refine ze ?_
    refine zo (.ptr 3 2) ?_
    refine zt [(Zi (Zk.mk zl r3.2 z7 zd zh (Zj.mk z2 z6)) zn zb), (Zo x1 z2a z1M), (Zo (Z3.mk 0 0 0 0 0 ([] : List Z8) ([] : List Z3)) .nl .nl), (Zo (Z3.mk 4 0 1 0 0 ([] : List Z8) ([x1] : List Z3)) .nl .ex)] ?_
    exact zk (Z3L (x2) (zp) (zl) (r3.2) (z7) (zd) (zh) (z2) (z6) (x1) ((Z3.mk 0 0 0 0 0 ([] : List Z8) ([] : List Z3))) (4) (0) (1) (0) (0) (([] : List Z8)) (([x1] : List Z3)) zn zb z2a z1M .nl .nl .nl .ex zu rfl rfl rfl rfl)
   ·refine ze ?_
    refine zi fun r4 hr4 => ?_
    obtain ⟨qr4, er4, exr4, rfl⟩ := Z1b ((ByteArray.mk #[123])) (zl) (r3.2) (z7) (zd) (zh) (z2) (z6) zn zb zu r4 hr4
    refine zc [0] (bv r4.1) [(Zi (Zk.mk zl r4.2 z7 zd zh (Zj.mk z2 z6)) zn zb), (Zo x1 z2a z1M), (Zo (Z3.mk 0 0 0 0 0 ([] : List Z8) ([] : List Z3)) .nl .nl), (Zo (Z3.mk 4 0 (-1) 0 0 ([] : List Z8) ([x1] : List Z3)) .nl .ex)] er4 ?_
    refine za (r4.1) ?_ ?_
    ·refine ze ?_
     refine zi fun r5 hr5 => ?_
     obtain ⟨qr5, er5, exr5, rfl⟩ := ZaV (zp) (zl) (r4.2) (z7) (zd) (zh) (z2) (z6) zn zb zu r5 hr5
     refine zc [0] (.p (.tup [(.v (.int .i64 r5.1)), (.v (.int .i64 r5.2.1))])) [(Zi (Zk.mk zl r5.2.2.1 z7 zd zh (Zj.mk r5.2.2.2.1 r5.2.2.2.2)) zn zb), (Zo x1 z2a z1M), (Zo (Z3.mk 0 0 0 0 0 ([] : List Z8) ([] : List Z3)) .nl .nl), (Zo (Z3.mk 4 0 (-1) 0 0 ([] : List Z8) ([x1] : List Z3)) .nl .ex)] er5 ?_
     refine zo (iv r5.1) ?_
     refine zo (iv r5.2.1) ?_
     refine zo (.ptr 3 1) ?_
     refine zt [(Zi (Zk.mk zl r5.2.2.1 z7 zd zh (Zj.mk r5.2.2.2.1 r5.2.2.2.2)) zn zb), (Zo x1 z2a z1M), (Zo (Z3.mk 0 0 0 0 0 ([] : List Z8) ([] : List Z3)) .nl .nl), (Zo (Z3.mk 4 r5.1 (-1) 0 0 ([] : List Z8) ([x1] : List Z3)) .nl .ex)] ?_
     refine zo (.ptr 3 2) ?_
     refine zt [(Zi (Zk.mk zl r5.2.2.1 z7 zd zh (Zj.mk r5.2.2.2.1 r5.2.2.2.2)) zn zb), (Zo x1 z2a z1M), (Zo (Z3.mk 0 0 0 0 0 ([] : List Z8) ([] : List Z3)) .nl .nl), (Zo (Z3.mk 4 r5.1 r5.2.1 0 0 ([] : List Z8) ([x1] : List Z3)) .nl .ex)] ?_
     exact zk (Z3L (x2) (zp) (zl) (r5.2.2.1) (z7) (zd) (zh) (r5.2.2.2.1) (r5.2.2.2.2) (x1) ((Z3.mk 0 0 0 0 0 ([] : List Z8) ([] : List Z3))) (4) (r5.1) (r5.2.1) (0) (0) (([] : List Z8)) (([x1] : List Z3)) zn zb z2a z1M .nl .nl .nl .ex zu rfl rfl rfl rfl)
    ·refine ze ?_
     refine zo (.p (.agg (Zz x1 (shrO z2a) (shrO z1M)))) ?_
     refine zt [(Zi (Zk.mk zl r4.2 z7 zd zh (Zj.mk z2 z6)) zn zb), (Zo x1 z2a z1M), (Zo x1 (shrO z2a) (shrO z1M)), (Zo (Z3.mk 4 0 (-1) 0 0 ([] : List Z8) ([x1] : List Z3)) .nl .ex)] ?_
     exact zr ((.p (.agg (Zz x1 .sh .sh))), [(Zi (Zk.mk zl r4.2 z7 zd zh (Zj.mk z2 z6)) zn zb), (Zo x1 z2a z1M), (Zo x1 (shrO z2a) (shrO z1M)), (Zo (Z3.mk 4 0 (-1) 0 0 ([] : List Z8) ([x1] : List Z3)) .nl .ex)]) ⟨_, rfl⟩
theorem Z7F (x1 : Z3) (x2 : Bool) (zl : List Int) (zp : Int) (z7 : Int) (zd : Int) (zh : List Zq) (z2 : Int) (z6 : Int) {r} (h : Z3H x1 x2 zl zp z7 zd zh z2 z6 = some r) : Z4z x1 x2 zl zp z7 zd zh z2 z6 = some r :=
 pick_of (fun _ _ ha hb => RRun.uniq (Zbe _ _ _ _ _ _) (ha .ex .ex .ex .ex rfl) (hb .ex .ex .ex .ex rfl)) (fun z2a z1M zn zb zu => Zaz x1 x2 zl zp z7 zd zh z2 z6 z2a z1M zn zb zu r h)
noncomputable def Z5Z (x4 : Int) (zp : Int) (z2 : Int) (z6 : Int) : Option (Int × Int × Int × Int × Int) :=
 some (x4, (-1), zp, z2, z6)
theorem Z9C (x4 : Int) (zl : List Int) (zp : Int) (z7 : Int) (zd : Int) (zh : List Zq) (z2 : Int) (z6 : Int) (zn : Own) (zb : Own) (zu : okApp zb = true) : Sim (Z1Q zl z7 zd zh zn zb) (Z5Z x4 zp z2 z6) (Zgd 1 (iv x4) [(Zi (Zk.mk zl zp z7 zd zh (Zj.mk z2 z6)) zn zb)]) := by
 unfold Z5Z
 refine zf (Zi1 ..) ?_
 refine ze ?_
 exact zr ((.p (.tup [(.v (.int .i64 x4)), (.v (.int .i64 (-1)))])), [(Zi (Zk.mk zl zp z7 zd zh (Zj.mk z2 z6)) zn zb)]) ⟨_, rfl⟩
noncomputable def Z4D (x4 : Int) (x5 : Int) (zp : Int) (z2 : Int) (z6 : Int) : Option (Int × Int × Int × Int × Int) :=
 some (x4, x5, zp, z2, z6)
theorem Z6u (x4 : Int) (x5 : Int) (zl : List Int) (zp : Int) (z7 : Int) (zd : Int) (zh : List Zq) (z2 : Int) (z6 : Int) (zn : Own) (zb : Own) (zu : okApp zb = true) : Sim (Z1Q zl z7 zd zh zn zb) (Z4D x4 x5 zp z2 z6) (Zdf 1 (iv x4) (iv x5) [(Zi (Zk.mk zl zp z7 zd zh (Zj.mk z2 z6)) zn zb)]) := by
 unfold Z4D
 refine zf (ZgX ..) ?_
 refine ze ?_
 exact zr ((.p (.tup [(.v (.int .i64 x4)), (.v (.int .i64 x5))])), [(Zi (Zk.mk zl zp z7 zd zh (Zj.mk z2 z6)) zn zb)]) ⟨_, rfl⟩
noncomputable def Z28 (x1 : Int) (x4 : Int) (x5 : Int) (zl : List Int) (z2 : Int) (z6 : Int) : Option (Int × Int × Int × Int × Int) :=
 (ZS 23 x1 zl z2 z6).bind fun r1 =>
 Z4D x4 x5 r1.1 r1.2.1 r1.2.2
theorem Z3K (x1 : Int) (x4 : Int) (x5 : Int) (zl : List Int) (zp : Int) (z7 : Int) (zd : Int) (zh : List Zq) (z2 : Int) (z6 : Int) (zn : Own) (zb : Own) (zu : okApp zb = true) : Sim (Z1Q zl z7 zd zh zn zb) (Z28 x1 x4 x5 zl z2 z6) (ZaE 1 (.ptr 0 0) (iv x1) (iv x4) (iv x5) [(Zi (Zk.mk zl zp z7 zd zh (Zj.mk z2 z6)) zn zb)]) := by
 unfold Z28
 refine zf (Zh9 ..) ?_
 refine ze ?_
 refine zi fun r1 hr1 => ?_
 obtain ⟨qr1, er1, exr1, rfl⟩ := ZV (23) (x1) (zl) (zp) (z7) (zd) (zh) (z2) (z6) zn zb zu r1 hr1
 refine zc [0] (.p (.tup [])) [(Zi (Zk.mk zl r1.1 z7 zd zh (Zj.mk r1.2.1 r1.2.2)) zn zb)] er1 ?_
 exact zk (Z6u (x4) (x5) (zl) (r1.1) (z7) (zd) (zh) (r1.2.1) (r1.2.2) zn zb zu)
noncomputable def Z1U (x1 : Int) (x4 : Int) (x5 : Int) (zl : List Int) (zp : Int) (z2 : Int) (z6 : Int) : Option (Int × Int × Int × Int × Int) :=
 if ((decide (x4 < 0))) = true then
 (Z28 x1 x4 x5 zl z2 z6)
 else
 (if ((decide (x5 < x4))) = true then
 (Z28 x1 x4 x5 zl z2 z6)
 else
 (if ((decide (64 < x5))) = true then
 (Z28 x1 x4 x5 zl z2 z6)
 else
 ((Z16 ((ByteArray.mk #[125])) zl zp).bind fun r1 =>
 if ((!r1.1)) = true then
 (Z28 x1 x4 x5 zl z2 z6)
 else
 (Z4D x4 x5 r1.2 z2 z6))))
theorem Z3S (x1 : Int) (x4 : Int) (x5 : Int) (zl : List Int) (zp : Int) (z7 : Int) (zd : Int) (zh : List Zq) (z2 : Int) (z6 : Int) (zn : Own) (zb : Own) (zu : okApp zb = true) : Sim (Z1Q zl z7 zd zh zn zb) (Z1U x1 x4 x5 zl zp z2 z6) (ZbJ 1 (.ptr 0 0) (iv x1) (iv x4) (iv x5) [(Zi (Zk.mk zl zp z7 zd zh (Zj.mk z2 z6)) zn zb)]) := by
 unfold Z1U
 refine zf (Zi4 ..) ?_
 refine ze ?_
 refine zo (bv (decide (x4 < 0))) ?_
 refine za ((decide (x4 < 0))) ?_ ?_
 ·exact zk (Z3K (x1) (x4) (x5) (zl) (zp) (z7) (zd) (zh) (z2) (z6) zn zb zu)
 ·refine zo (bv (decide (x5 < x4))) ?_
  refine za ((decide (x5 < x4))) ?_ ?_
  ·exact zk (Z3K (x1) (x4) (x5) (zl) (zp) (z7) (zd) (zh) (z2) (z6) zn zb zu)
  ·refine zo (bv (decide (64 < x5))) ?_
   refine za ((decide (64 < x5))) ?_ ?_
   ·exact zk (Z3K (x1) (x4) (x5) (zl) (zp) (z7) (zd) (zh) (z2) (z6) zn zb zu)
   ·refine zi fun r1 hr1 => ?_
    obtain ⟨qr1, er1, exr1, rfl⟩ := Z1b ((ByteArray.mk #[125])) (zl) (zp) (z7) (zd) (zh) (z2) (z6) zn zb zu r1 hr1
    refine zc [0] (bv r1.1) [(Zi (Zk.mk zl r1.2 z7 zd zh (Zj.mk z2 z6)) zn zb)] er1 ?_
    refine zo (bv (!r1.1)) ?_
    refine za ((!r1.1)) ?_ ?_
    ·exact zk (Z3K (x1) (x4) (x5) (zl) (r1.2) (z7) (zd) (zh) (z2) (z6) zn zb zu)
    ·exact zk (Z6u (x4) (x5) (zl) (r1.2) (z7) (zd) (zh) (z2) (z6) zn zb zu)
noncomputable def Z3a (x1 : Int) (x4 : Int) (zl : List Int) (zp : Int) (z2 : Int) (z6 : Int) : Option (Int × Int × Int × Int × Int) :=
 Z1U x1 x4 ((-2)) zl zp z2 z6
theorem Z6L (x1 : Int) (x4 : Int) (zl : List Int) (zp : Int) (z7 : Int) (zd : Int) (zh : List Zq) (z2 : Int) (z6 : Int) (zn : Own) (zb : Own) (zu : okApp zb = true) : Sim (Z1Q zl z7 zd zh zn zb) (Z3a x1 x4 zl zp z2 z6) (Zej 1 (.ptr 0 0) (iv x1) (iv x4) [(Zi (Zk.mk zl zp z7 zd zh (Zj.mk z2 z6)) zn zb)]) := by
 unfold Z3a
 refine zf (ZiJ ..) ?_
 refine ze ?_
 exact zk (Z3S (x1) (x4) ((-2)) (zl) (zp) (z7) (zd) (zh) (z2) (z6) zn zb zu)
noncomputable def Z4I (x1 : Int) (x4 : Int) (zl : List Int) (zp : Int) (z2 : Int) (z6 : Int) : Option (Int × Int × Int × Int × Int) :=
 (Z16 ((ByteArray.mk #[125])) zl zp).bind fun r1 =>
 if (r1.1) = true then
 (if ((decide (x4 ≤ 64))) = true then
 (Z5Z x4 r1.2 z2 z6)
 else
 (Z3a x1 x4 zl r1.2 z2 z6))
 else
 (Z3a x1 x4 zl r1.2 z2 z6)
theorem Z9z (x1 : Int) (x4 : Int) (zl : List Int) (zp : Int) (z7 : Int) (zd : Int) (zh : List Zq) (z2 : Int) (z6 : Int) (zn : Own) (zb : Own) (zu : okApp zb = true) : Sim (Z1Q zl z7 zd zh zn zb) (Z4I x1 x4 zl zp z2 z6) (Zfn 1 (.ptr 0 0) (iv x1) (iv x4) [(Zi (Zk.mk zl zp z7 zd zh (Zj.mk z2 z6)) zn zb)]) := by
 unfold Z4I
 refine zf (ZiK ..) ?_
 refine ze ?_
 refine zi fun r1 hr1 => ?_
 obtain ⟨qr1, er1, exr1, rfl⟩ := Z1b ((ByteArray.mk #[125])) (zl) (zp) (z7) (zd) (zh) (z2) (z6) zn zb zu r1 hr1
 refine zc [0] (bv r1.1) [(Zi (Zk.mk zl r1.2 z7 zd zh (Zj.mk z2 z6)) zn zb)] er1 ?_
 refine za (r1.1) ?_ ?_
 ·refine zo (bv (decide (x4 ≤ 64))) ?_
  refine za ((decide (x4 ≤ 64))) ?_ ?_
  ·exact zk (Z9C (x4) (zl) (r1.2) (z7) (zd) (zh) (z2) (z6) zn zb zu)
  ·exact zk (Z6L (x1) (x4) (zl) (r1.2) (z7) (zd) (zh) (z2) (z6) zn zb zu)
 ·exact zk (Z6L (x1) (x4) (zl) (r1.2) (z7) (zd) (zh) (z2) (z6) zn zb zu)
noncomputable def Z4s (x1 : Int) (zl : List Int) (zp : Int) (z7 : Int) (zd : Int) (zh : List Zq) (z2 : Int) (z6 : Int) : Option (Int × Int × Int × Int × Int) :=
 (Z3D zl zp z7 zd zh z2 z6).bind fun r1 =>
 (Z16 ((ByteArray.mk #[44])) zl r1.2).bind fun r2 =>
 if (r2.1) = true then
 ((Z3D zl r2.2 z7 zd zh z2 z6).bind fun r3 =>
 if ((decide (r3.1 < 0))) = true then
 (if ((decide (0 ≤ r1.1))) = true then
 (Z4I x1 r1.1 zl r3.2 z2 z6)
 else
 (Z1U x1 r1.1 r3.1 zl r3.2 z2 z6))
 else
 (Z1U x1 r1.1 r3.1 zl r3.2 z2 z6))
 else
 (Z1U x1 r1.1 r1.1 zl r2.2 z2 z6)
theorem Zal (x1 : Int) (zl : List Int) (zp : Int) (z7 : Int) (zd : Int) (zh : List Zq) (z2 : Int) (z6 : Int) (zn : Own) (zb : Own) (zu : okApp zb = true) : Sim (Z1Q zl z7 zd zh zn zb) (Z4s x1 zl zp z7 zd zh z2 z6) (EE 52 [(.ptr 0 0), (iv x1)] [(Zi (Zk.mk zl zp z7 zd zh (Zj.mk z2 z6)) zn zb)]) := by
 unfold Z4s
 refine zf (ZkW ..) ?_
 refine ze ?_
 refine ze ?_
 refine zi fun r1 hr1 => ?_
 obtain ⟨qr1, er1, exr1, rfl⟩ := Z7v (zl) (zp) (z7) (zd) (zh) (z2) (z6) zn zb zu r1 hr1
 refine zc [0] (iv r1.1) [(Zi (Zk.mk zl r1.2 z7 zd zh (Zj.mk z2 z6)) zn zb)] er1 ?_
 refine ze ?_
 refine ze ?_
 refine zi fun r2 hr2 => ?_
 obtain ⟨qr2, er2, exr2, rfl⟩ := Z1b ((ByteArray.mk #[44])) (zl) (r1.2) (z7) (zd) (zh) (z2) (z6) zn zb zu r2 hr2
 refine zc [0] (bv r2.1) [(Zi (Zk.mk zl r2.2 z7 zd zh (Zj.mk z2 z6)) zn zb)] er2 ?_
 refine za (r2.1) ?_ ?_
 ·refine ze ?_
  refine zi fun r3 hr3 => ?_
  obtain ⟨qr3, er3, exr3, rfl⟩ := Z7v (zl) (r2.2) (z7) (zd) (zh) (z2) (z6) zn zb zu r3 hr3
  refine zc [0] (iv r3.1) [(Zi (Zk.mk zl r3.2 z7 zd zh (Zj.mk z2 z6)) zn zb)] er3 ?_
  refine ze ?_
  refine zo (bv (decide (r3.1 < 0))) ?_
  refine za ((decide (r3.1 < 0))) ?_ ?_
  ·refine zo (bv (decide (0 ≤ r1.1))) ?_
   refine za ((decide (0 ≤ r1.1))) ?_ ?_
   ·exact zk (Z9z (x1) (r1.1) (zl) (r3.2) (z7) (zd) (zh) (z2) (z6) zn zb zu)
   ·exact zk (Z3S (x1) (r1.1) (r3.1) (zl) (r3.2) (z7) (zd) (zh) (z2) (z6) zn zb zu)
  ·exact zk (Z3S (x1) (r1.1) (r3.1) (zl) (r3.2) (z7) (zd) (zh) (z2) (z6) zn zb zu)
 ·exact zk (Z3S (x1) (r1.1) (r1.1) (zl) (r2.2) (z7) (zd) (zh) (z2) (z6) zn zb zu)
theorem Z7n (x1 : Int) (zl : List Int) (zp : Int) (z7 : Int) (zd : Int) (zh : List Zq) (z2 : Int) (z6 : Int) {r} (h : Z4s x1 zl zp z7 zd zh z2 z6 = some r) : Z4q x1 zl zp z7 zd zh z2 z6 = some r :=
 pick_of (fun _ _ ha hb => RRun.uniq (Zb4 _ _ _ _ _ _) (ha .ex .ex rfl) (hb .ex .ex rfl)) (fun zn zb zu => Zal x1 zl zp z7 zd zh z2 z6 zn zb zu r h)
noncomputable def Z6R (zl : List Int) (zp : Int) (z7 : Int) (zd : Int) (zh : List Zq) (z2 : Int) (z6 : Int) : Option (Int × Int) :=
 Z2z ((-1)) 0 zl zp z7 zd zh z2 z6
theorem Zam (zl : List Int) (zp : Int) (z7 : Int) (zd : Int) (zh : List Zq) (z2 : Int) (z6 : Int) (zn : Own) (zb : Own) (zu : okApp zb = true) : Sim (Z24 zl z7 zd zh z2 z6 zn zb) (Z6R zl zp z7 zd zh z2 z6) (EE 63 [(.ptr 0 0)] [(Zi (Zk.mk zl zp z7 zd zh (Zj.mk z2 z6)) zn zb)]) := by
 unfold Z6R
 refine zf (ZkO ..) ?_
 refine ze ?_
 refine ze ?_
 refine ze ?_
 exact zk (Z6S ((-1)) (0) (zl) (zp) (z7) (zd) (zh) (z2) (z6) zn zb zu)
theorem ZaX (zl : List Int) (zp : Int) (z7 : Int) (zd : Int) (zh : List Zq) (z2 : Int) (z6 : Int) {r} (h : Z6R zl zp z7 zd zh z2 z6 = some r) : Z3D zl zp z7 zd zh z2 z6 = some r :=
 pick_of (fun _ _ ha hb => RRun.uniq (Z87 _ _ _ _ _ _ _ _) (ha .ex .ex rfl) (hb .ex .ex rfl)) (fun zn zb zu => Zam zl zp z7 zd zh z2 z6 zn zb zu r h)
noncomputable def Z4T (x3 : Int) (x4 : Int) (zl : List Int) (zp : Int) (z7 : Int) (zd : Int) (zh : List Zq) (z2 : Int) (z6 : Int) : Option (Int × Int) :=
 (Z25 zl zp).bind fun r1 =>
 Z2z ((IntKind.i64.wrap ((IntKind.i64.wrap ((IntKind.i64.wrap (10 * (max x3 0))) + r1.1)) - 48))) ((IntKind.i64.wrap (x4 + 1))) zl r1.2 z7 zd zh z2 z6
theorem Z9K (x3 : Int) (x4 : Int) (zl : List Int) (zp : Int) (z7 : Int) (zd : Int) (zh : List Zq) (z2 : Int) (z6 : Int) (zn : Own) (zb : Own) (zu : okApp zb = true) : Sim (Z24 zl z7 zd zh z2 z6 zn zb) (Z4T x3 x4 zl zp z7 zd zh z2 z6) (Zfc 1 (.ptr 0 0) (iv x3) (iv x4) [(Zi (Zk.mk zl zp z7 zd zh (Zj.mk z2 z6)) zn zb)]) := by
 unfold Z4T
 refine zf (ZiG ..) ?_
 refine ze ?_
 refine zo (iv (max x3 0)) ?_ (xminmax2_max _ _)
 refine zo (iv (IntKind.i64.wrap (10 * (max x3 0)))) ?_
 refine zi fun r1 hr1 => ?_
 obtain ⟨qr1, er1, exr1, rfl⟩ := Z2t (zl) (zp) (z7) (zd) (zh) (z2) (z6) zn zb zu r1 hr1
 refine zc [0] (iv r1.1) [(Zi (Zk.mk zl r1.2 z7 zd zh (Zj.mk z2 z6)) zn zb)] er1 ?_
 refine zo (iv (IntKind.i64.wrap ((IntKind.i64.wrap (10 * (max x3 0))) + r1.1))) ?_
 refine zo (iv (IntKind.i64.wrap ((IntKind.i64.wrap ((IntKind.i64.wrap (10 * (max x3 0))) + r1.1)) - 48))) ?_
 refine ze ?_
 refine zo (iv (IntKind.i64.wrap (x4 + 1))) ?_
 exact zk (Z6S ((IntKind.i64.wrap ((IntKind.i64.wrap ((IntKind.i64.wrap (10 * (max x3 0))) + r1.1)) - 48))) ((IntKind.i64.wrap (x4 + 1))) (zl) (r1.2) (z7) (zd) (zh) (z2) (z6) zn zb zu)
noncomputable def Z36 (x3 : Int) (zp : Int) : Option (Int × Int) :=
 some (x3, zp)
theorem Z58 (x3 : Int) (zl : List Int) (zp : Int) (z7 : Int) (zd : Int) (zh : List Zq) (z2 : Int) (z6 : Int) (zn : Own) (zb : Own) (zu : okApp zb = true) : Sim (Z24 zl z7 zd zh z2 z6 zn zb) (Z36 x3 zp) (Zd6 1 (iv x3) [(Zi (Zk.mk zl zp z7 zd zh (Zj.mk z2 z6)) zn zb)]) := by
 unfold Z36
 refine zf (Zia ..) ?_
 refine ze ?_
 exact zr ((iv x3), [(Zi (Zk.mk zl zp z7 zd zh (Zj.mk z2 z6)) zn zb)]) ⟨_, rfl⟩
noncomputable def Z4S (x3 : Int) (x4 : Int) (zl : List Int) (zp : Int) (z7 : Int) (zd : Int) (zh : List Zq) (z2 : Int) (z6 : Int) : Option (Int × Int) :=
 if ((decide (x4 < 2))) = true then
 ((Z1F ((Zk.mk zl zp z7 zd zh (Zj.mk z2 z6)))).bind fun r1 =>
 if ((decide (48 ≤ r1))) = true then
 ((Z1F ((Zk.mk zl zp z7 zd zh (Zj.mk z2 z6)))).bind fun r2 =>
 if ((decide (r2 ≤ 57))) = true then
 (Z4T x3 x4 zl zp z7 zd zh z2 z6)
 else
 (Z36 x3 zp))
 else
 (Z36 x3 zp))
 else
 (Z36 x3 zp)
theorem Z9N (x3 : Int) (x4 : Int) (zl : List Int) (zp : Int) (z7 : Int) (zd : Int) (zh : List Zq) (z2 : Int) (z6 : Int) (zn : Own) (zb : Own) (zu : okApp zb = true) : Sim (Z24 zl z7 zd zh z2 z6 zn zb) (Z4S x3 x4 zl zp z7 zd zh z2 z6) (Zc4 1 (.ptr 0 0) (iv x3) (iv x4) [(Zi (Zk.mk zl zp z7 zd zh (Zj.mk z2 z6)) zn zb)]) := by
 unfold Z4S
 refine zf (Zj0 ..) ?_
 refine ze ?_
 refine zo (bv (decide (x4 < 2))) ?_
 refine za ((decide (x4 < 2))) ?_ ?_
 ·refine zi fun r1 hr1 => ?_
  obtain ⟨qr1, er1, exr1, rfl⟩ := Z1K ((Zk.mk zl zp z7 zd zh (Zj.mk z2 z6))) zn zb zu r1 hr1
  refine zc [0] (iv r1) [(Zi (Zk.mk zl zp z7 zd zh (Zj.mk z2 z6)) zn zb)] er1 ?_
  refine zo (bv (decide (48 ≤ r1))) ?_
  refine za ((decide (48 ≤ r1))) ?_ ?_
  ·refine zi fun r2 hr2 => ?_
   obtain ⟨qr2, er2, exr2, rfl⟩ := Z1K ((Zk.mk zl zp z7 zd zh (Zj.mk z2 z6))) zn zb zu r2 hr2
   refine zc [0] (iv r2) [(Zi (Zk.mk zl zp z7 zd zh (Zj.mk z2 z6)) zn zb)] er2 ?_
   refine zo (bv (decide (r2 ≤ 57))) ?_
   refine za ((decide (r2 ≤ 57))) ?_ ?_
   ·exact zk (Z9K (x3) (x4) (zl) (zp) (z7) (zd) (zh) (z2) (z6) zn zb zu)
   ·exact zk (Z58 (x3) (zl) (zp) (z7) (zd) (zh) (z2) (z6) zn zb zu)
  ·exact zk (Z58 (x3) (zl) (zp) (z7) (zd) (zh) (z2) (z6) zn zb zu)
 ·exact zk (Z58 (x3) (zl) (zp) (z7) (zd) (zh) (z2) (z6) zn zb zu)
theorem Zaa (x3 : Int) (x4 : Int) (zl : List Int) (zp : Int) (z7 : Int) (zd : Int) (zh : List Zq) (z2 : Int) (z6 : Int) {r} (h : Z4S x3 x4 zl zp z7 zd zh z2 z6 = some r) : Z2z x3 x4 zl zp z7 zd zh z2 z6 = some r :=
 pick_of (fun _ _ ha hb => RRun.uniq (Z87 _ _ _ _ _ _ _ _) (ha .ex .ex rfl) (hb .ex .ex rfl)) (fun zn zb zu => Z9N x3 x4 zl zp z7 zd zh z2 z6 zn zb zu r h)
noncomputable def Z4U (x2 : Int) (x3 : Int) : Option (Int × Int) :=
 some (x2, x3)
theorem Z5w (x2 : Int) (x3 : Int) : Sim (Z21) (Z4U x2 x3) (ZaL 0 (iv x2) (iv x3) []) := by
 unfold Z4U
 refine zf (Zhb ..) ?_
 refine ze ?_
 exact zr ((.p (.tup [(.v (.int .i64 x2)), (.v (.int .i64 x3))])), []) ⟨_, rfl⟩
noncomputable def Z74 (x0 : Z3) : Option (Int × Int) :=
 if ((x0.Kind == 1)) = true then
 (some (1, 1))
 else
 (if ((x0.Kind == 6)) = true then
 (some (0, (-1)))
 else
 (if ((x0.Kind == 2)) = true then
 (Z5c 0 0 x0.Kids ((x0.Kids.length : Int)) 0)
 else
 (if ((x0.Kind == 3)) = true then
 (Z46 1048576 0 x0.Kids ((x0.Kids.length : Int)) 0)
 else
 (if ((x0.Kind == 4)) = true then
 ((lget x0.Kids 0).bind fun a1 =>
 (Z1s a1).bind fun r2 =>
 (Z6e r2.2 x0.Hi).bind fun r3 =>
 some ((min (IntKind.i64.wrap (r2.1 * x0.Lo)) 1048576), r3))
 else
 (if ((x0.Kind == 5)) = true then
 (if ((x0.Kind == 5)) = true then
 ((lget x0.Kids 0).bind fun a4 =>
 (Z1s a4).bind fun r5 =>
 some (r5.1, r5.2))
 else
 (Z4U 0 0))
 else
 (if ((x0.Kind == 8)) = true then
 ((lget x0.Kids 0).bind fun a6 =>
 (Z1s a6).bind fun r7 =>
 some (r7.1, r7.2))
 else
 (Z4U 0 0)))))))
theorem Zdv (x0 : Z3) (z1c : Own) (zY : Own) : Sim (Z21) (Z74 x0) (EE 24 [(.p (.agg (Zz x0 z1c zY)))] []) := by
 unfold Z74
 refine zf (Zl0 ..) ?_
 refine ze ?_
 refine zx (.ptr 0 0) [(Zo x0 z1c zY)] ?_
 refine ze ?_
 refine zo (.ptr 0 0) ?_
 refine zo (iv x0.Kind) ?_
 refine ze ?_
 refine zo (bv (x0.Kind == 1)) ?_
 refine za ((x0.Kind == 1)) ?_ ?_
 ·refine ze ?_
  exact zr ((.p (.tup [(.v (.int .i64 1)), (.v (.int .i64 1))])), [(Zo x0 z1c zY)]) ⟨_, rfl⟩
 ·refine ze ?_
  refine zo (bv (x0.Kind == 6)) ?_
  refine za ((x0.Kind == 6)) ?_ ?_
  ·refine ze ?_
   exact zr ((.p (.tup [(.v (.int .i64 0)), (.v (.int .i64 (-1)))])), [(Zo x0 z1c zY)]) ⟨_, rfl⟩
  ·refine ze ?_
   refine zo (bv (x0.Kind == 2)) ?_
   refine za ((x0.Kind == 2)) ?_ ?_
   ·refine ze ?_
    refine zo (.ptr 0 6) ?_
    refine zo (.p (.lst (shrO zY) (x0.Kids.map ZD))) ?_
    refine zo (iv (x0.Kids.length : Int)) ?_ (Eq.trans (by kernel_rfl) (xlen_of (P := PP) (t := 25) (d := 27) (by kernel_rfl) ZD (shrO zY) x0.Kids))
    exact zk (Z9u (0) (0) (x0.Kids) ((x0.Kids.length : Int)) (0) (shrO zY))
   ·refine ze ?_
    refine zo (bv (x0.Kind == 3)) ?_
    refine za ((x0.Kind == 3)) ?_ ?_
    ·refine ze ?_
     refine ze ?_
     refine zo (.ptr 0 6) ?_
     refine zo (.p (.lst (shrO zY) (x0.Kids.map ZD))) ?_
     refine zo (iv (x0.Kids.length : Int)) ?_ (Eq.trans (by kernel_rfl) (xlen_of (P := PP) (t := 25) (d := 27) (by kernel_rfl) ZD (shrO zY) x0.Kids))
     exact zk (Z9j (1048576) (0) (x0.Kids) ((x0.Kids.length : Int)) (0) (shrO zY))
    ·refine ze ?_
     refine zo (bv (x0.Kind == 4)) ?_
     refine za ((x0.Kind == 4)) ?_ ?_
     ·refine ze ?_
      refine zo (.ptr 0 6) ?_
      refine zo (.p (.lst (shrO zY) (x0.Kids.map ZD))) ?_
      refine zi fun a1 ha1 => ?_
      refine zo (.cptr (Zz a1 .sh .sh)) ?_ (Eq.trans (by kernel_rfl) (xidx_of (o := (shrO zY)) (k := .i64) (n := 7) (e := ZD) (cs := Z1T) Z3R (fun _ => rfl) (by decide) ha1))
      refine zo (.p (.agg (Zz a1 .sh .sh))) ?_
      refine zi fun r2 hr2 => ?_
      obtain ⟨qr2, er2, exr2, rfl⟩ := Z3O (a1) .sh .sh r2 hr2
      refine zc [] (.p (.tup [(.v (.int .i64 r2.1)), (.v (.int .i64 r2.2))])) [(Zo x0 z1c zY)] er2 ?_
      refine zo (iv r2.1) ?_
      refine zo (iv r2.2) ?_
      refine ze ?_
      refine zo (.ptr 0 1) ?_
      refine zo (iv x0.Lo) ?_
      refine zo (iv (IntKind.i64.wrap (r2.1 * x0.Lo))) ?_
      refine zo (iv (min (IntKind.i64.wrap (r2.1 * x0.Lo)) 1048576)) ?_ (xminmax2_min _ _)
      refine zo (.ptr 0 2) ?_
      refine zo (iv x0.Hi) ?_
      refine zi fun r3 hr3 => ?_
      obtain ⟨qr3, er3, exr3, rfl⟩ := ZdP (r2.2) (x0.Hi) r3 hr3
      refine zc [] (iv r3) [(Zo x0 z1c zY)] er3 ?_
      refine zg ?_
      exact zr ((.p (.tup [(.v (.int .i64 (min (IntKind.i64.wrap (r2.1 * x0.Lo)) 1048576))), (.v (.int .i64 r3))])), [(Zo x0 z1c zY)]) ⟨_, rfl⟩
     ·refine ze ?_
      refine zo (bv (x0.Kind == 5)) ?_
      refine za ((x0.Kind == 5)) ?_ ?_
      ·refine za ((x0.Kind == 5)) ?_ ?_
       ·refine ze ?_
        refine zo (.ptr 0 6) ?_
        refine zo (.p (.lst (shrO zY) (x0.Kids.map ZD))) ?_
        refine zi fun a4 ha4 => ?_
        refine zo (.cptr (Zz a4 .sh .sh)) ?_ (Eq.trans (by kernel_rfl) (xidx_of (o := (shrO zY)) (k := .i64) (n := 7) (e := ZD) (cs := Z1T) Z3R (fun _ => rfl) (by decide) ha4))
        refine zo (.p (.agg (Zz a4 .sh .sh))) ?_
        refine zi fun r5 hr5 => ?_
        obtain ⟨qr5, er5, exr5, rfl⟩ := Z3O (a4) .sh .sh r5 hr5
        refine zc [] (.p (.tup [(.v (.int .i64 r5.1)), (.v (.int .i64 r5.2))])) [(Zo x0 z1c zY)] er5 ?_
        refine zo (iv r5.1) ?_
        refine zo (iv r5.2) ?_
        exact zr ((.p (.tup [(.v (.int .i64 r5.1)), (.v (.int .i64 r5.2))])), [(Zo x0 z1c zY)]) ⟨_, rfl⟩
       ·exact zk (Z5w (0) (0))
      ·refine ze ?_
       refine zo (bv (x0.Kind == 8)) ?_
       refine za ((x0.Kind == 8)) ?_ ?_
       ·refine ze ?_
        refine zo (.ptr 0 6) ?_
        refine zo (.p (.lst (shrO zY) (x0.Kids.map ZD))) ?_
        refine zi fun a6 ha6 => ?_
        refine zo (.cptr (Zz a6 .sh .sh)) ?_ (Eq.trans (by kernel_rfl) (xidx_of (o := (shrO zY)) (k := .i64) (n := 7) (e := ZD) (cs := Z1T) Z3R (fun _ => rfl) (by decide) ha6))
        refine zo (.p (.agg (Zz a6 .sh .sh))) ?_
        refine zi fun r7 hr7 => ?_
        obtain ⟨qr7, er7, exr7, rfl⟩ := Z3O (a6) .sh .sh r7 hr7
        refine zc [] (.p (.tup [(.v (.int .i64 r7.1)), (.v (.int .i64 r7.2))])) [(Zo x0 z1c zY)] er7 ?_
        refine zo (iv r7.1) ?_
        refine zo (iv r7.2) ?_
        exact zr ((.p (.tup [(.v (.int .i64 r7.1)), (.v (.int .i64 r7.2))])), [(Zo x0 z1c zY)]) ⟨_, rfl⟩
       ·exact zk (Z5w (0) (0))
theorem ZaW (x0 : Z3) {r} (h : Z74 x0 = some r) : Z1s x0 = some r :=
 pick_of (fun _ _ ha hb => RRun.uniq (Z9p) (ha .ex .ex) (hb .ex .ex)) (fun z1c zY => Zdv x0 z1c zY r h)
noncomputable def Z61 (x2 : Int) (x3 : Int) (x23 : List Z3) (x24 : Int) (x25 : Int) : Option (Int × Int) :=
 (lget x23 x25).bind fun a1 =>
 (Z1s a1).bind fun r2 =>
 (Z9R x3 r2.2).bind fun r3 =>
 Z5c ((min (IntKind.i64.wrap (x2 + r2.1)) 1048576)) r3 x23 x24 ((IntKind.i64.wrap (x25 + 1)))
theorem ZcA (x2 : Int) (x3 : Int) (x23 : List Z3) (x24 : Int) (x25 : Int) (ox23 : Own) : Sim (Z21) (Z61 x2 x3 x23 x24 x25) (ZfZ 0 (iv x2) (iv x3) (.p (.lst ox23 (x23.map ZD))) (iv x24) (iv x25) []) := by
 unfold Z61
 refine zf (Zis ..) ?_
 refine ze ?_
 refine zi fun a1 ha1 => ?_
 refine zo (.cptr (Zz a1 .sh .sh)) ?_ (Eq.trans (by kernel_rfl) (xidx_of (o := ox23) (k := .i64) (n := 7) (e := ZD) (cs := Z1T) Z3R (fun _ => rfl) (by decide) ha1))
 refine zo (.p (.agg (Zz a1 .sh .sh))) ?_
 refine zz (.ptr 0 0) [(Zo (Z3.mk 0 0 0 0 0 ([] : List Z8) ([] : List Z3)) .nl .nl)] ?_
 refine zt [(Zo a1 .sh .sh)] ?_
 refine ze ?_
 refine zo (.p (.agg (Zz a1 .sh .sh))) ?_
 refine zi fun r2 hr2 => ?_
 obtain ⟨qr2, er2, exr2, rfl⟩ := Z3O (a1) .sh .sh r2 hr2
 refine zc [] (.p (.tup [(.v (.int .i64 r2.1)), (.v (.int .i64 r2.2))])) [(Zo a1 .sh .sh)] er2 ?_
 refine zo (iv r2.1) ?_
 refine zo (iv r2.2) ?_
 refine ze ?_
 refine zo (iv (IntKind.i64.wrap (x2 + r2.1))) ?_
 refine zo (iv (min (IntKind.i64.wrap (x2 + r2.1)) 1048576)) ?_ (xminmax2_min _ _)
 refine zi fun r3 hr3 => ?_
 obtain ⟨qr3, er3, exr3, rfl⟩ := ZeR (x3) (r2.2) r3 hr3
 refine zc [] (iv r3) [(Zo a1 .sh .sh)] er3 ?_
 refine ze ?_
 refine zo (iv (IntKind.i64.wrap (x25 + 1))) ?_
 exact zk (Z9u ((min (IntKind.i64.wrap (x2 + r2.1)) 1048576)) (r3) (x23) (x24) ((IntKind.i64.wrap (x25 + 1))) ox23)
noncomputable def Z4n (x2 : Int) (x3 : Int) (x23 : List Z3) (x24 : Int) (x25 : Int) : Option (Int × Int) :=
 if ((decide (x25 < x24))) = true then
 (Z61 x2 x3 x23 x24 x25)
 else
 (Z4U x2 x3)
theorem Zcx (x2 : Int) (x3 : Int) (x23 : List Z3) (x24 : Int) (x25 : Int) (ox23 : Own) : Sim (Z21) (Z4n x2 x3 x23 x24 x25) (ZbU 0 (iv x2) (iv x3) (.p (.lst ox23 (x23.map ZD))) (iv x24) (iv x25) []) := by
 unfold Z4n
 refine zf (Zi3 ..) ?_
 refine ze ?_
 refine zo (bv (decide (x25 < x24))) ?_
 refine za ((decide (x25 < x24))) ?_ ?_
 ·exact zk (ZcA (x2) (x3) (x23) (x24) (x25) ox23)
 ·exact zk (Z5w (x2) (x3))
theorem Z68 (x2 : Int) (x3 : Int) (x23 : List Z3) (x24 : Int) (x25 : Int) {r} (h : Z4n x2 x3 x23 x24 x25 = some r) : Z5c x2 x3 x23 x24 x25 = some r :=
 pick_of (fun _ _ ha hb => RRun.uniq (Z9p) (ha .ex) (hb .ex)) (fun ox23 => Zcx x2 x3 x23 x24 x25 ox23 r h)
noncomputable def Z4Y (x2 : Int) (x3 : Int) (x45 : List Z3) (x46 : Int) (x47 : Int) : Option (Int × Int) :=
 Z46 x2 x3 x45 x46 ((IntKind.i64.wrap (x47 + 1)))
theorem Z8S (x2 : Int) (x3 : Int) (x45 : List Z3) (x46 : Int) (x47 : Int) (ox45 : Own) : Sim (Z21) (Z4Y x2 x3 x45 x46 x47) (Zdl 0 (iv x2) (iv x3) (.p (.lst ox45 (x45.map ZD))) (iv x46) (iv x47) []) := by
 unfold Z4Y
 refine zf (Zh0 ..) ?_
 refine ze ?_
 refine zo (iv (IntKind.i64.wrap (x47 + 1))) ?_
 exact zk (Z9j (x2) (x3) (x45) (x46) ((IntKind.i64.wrap (x47 + 1))) ox45)
noncomputable def Z4V (x2 : Int) (x45 : List Z3) (x46 : Int) (x47 : Int) : Option (Int × Int) :=
 Z4Y x2 ((-1)) x45 x46 x47
theorem Z91 (x2 : Int) (x45 : List Z3) (x46 : Int) (x47 : Int) (ox45 : Own) : Sim (Z21) (Z4V x2 x45 x46 x47) (Zdk 0 (iv x2) (.p (.lst ox45 (x45.map ZD))) (iv x46) (iv x47) []) := by
 unfold Z4V
 refine zf (Zhu ..) ?_
 refine ze ?_
 exact zk (Z8S (x2) ((-1)) (x45) (x46) (x47) ox45)
noncomputable def Z5I (x2 : Int) (x3 : Int) (x11 : Int) (x45 : List Z3) (x46 : Int) (x47 : Int) : Option (Int × Int) :=
 Z4Y x2 ((max x3 x11)) x45 x46 x47
theorem ZbX (x2 : Int) (x3 : Int) (x11 : Int) (x45 : List Z3) (x46 : Int) (x47 : Int) (ox45 : Own) : Sim (Z21) (Z5I x2 x3 x11 x45 x46 x47) (ZeQ 0 (iv x2) (iv x3) (iv x11) (.p (.lst ox45 (x45.map ZD))) (iv x46) (iv x47) []) := by
 unfold Z5I
 refine zf (ZgT ..) ?_
 refine ze ?_
 refine zo (iv (max x3 x11)) ?_ (xminmax2_max _ _)
 exact zk (Z8S (x2) ((max x3 x11)) (x45) (x46) (x47) ox45)
noncomputable def Z5N (x2 : Int) (x3 : Int) (x45 : List Z3) (x46 : Int) (x47 : Int) : Option (Int × Int) :=
 (lget x45 x47).bind fun a1 =>
 (Z1s a1).bind fun r2 =>
 if ((decide (r2.2 < 0))) = true then
 (Z4V ((min x2 r2.1)) x45 x46 x47)
 else
 (if ((decide (x3 < 0))) = true then
 (Z4V ((min x2 r2.1)) x45 x46 x47)
 else
 (Z5I ((min x2 r2.1)) x3 r2.2 x45 x46 x47))
theorem Zce (x2 : Int) (x3 : Int) (x45 : List Z3) (x46 : Int) (x47 : Int) (ox45 : Own) : Sim (Z21) (Z5N x2 x3 x45 x46 x47) (ZeM 0 (iv x2) (iv x3) (.p (.lst ox45 (x45.map ZD))) (iv x46) (iv x47) []) := by
 unfold Z5N
 refine zf (ZgS ..) ?_
 refine ze ?_
 refine zi fun a1 ha1 => ?_
 refine zo (.cptr (Zz a1 .sh .sh)) ?_ (Eq.trans (by kernel_rfl) (xidx_of (o := ox45) (k := .i64) (n := 7) (e := ZD) (cs := Z1T) Z3R (fun _ => rfl) (by decide) ha1))
 refine zo (.p (.agg (Zz a1 .sh .sh))) ?_
 refine zz (.ptr 0 0) [(Zo (Z3.mk 0 0 0 0 0 ([] : List Z8) ([] : List Z3)) .nl .nl)] ?_
 refine zt [(Zo a1 .sh .sh)] ?_
 refine ze ?_
 refine zo (.p (.agg (Zz a1 .sh .sh))) ?_
 refine zi fun r2 hr2 => ?_
 obtain ⟨qr2, er2, exr2, rfl⟩ := Z3O (a1) .sh .sh r2 hr2
 refine zc [] (.p (.tup [(.v (.int .i64 r2.1)), (.v (.int .i64 r2.2))])) [(Zo a1 .sh .sh)] er2 ?_
 refine zo (iv r2.1) ?_
 refine zo (iv r2.2) ?_
 refine ze ?_
 refine zo (iv (min x2 r2.1)) ?_ (xminmax2_min _ _)
 refine ze ?_
 refine zo (bv (decide (r2.2 < 0))) ?_
 refine za ((decide (r2.2 < 0))) ?_ ?_
 ·exact zk (Z91 ((min x2 r2.1)) (x45) (x46) (x47) ox45)
 ·refine zo (bv (decide (x3 < 0))) ?_
  refine za ((decide (x3 < 0))) ?_ ?_
  ·exact zk (Z91 ((min x2 r2.1)) (x45) (x46) (x47) ox45)
  ·exact zk (ZbX ((min x2 r2.1)) (x3) (r2.2) (x45) (x46) (x47) ox45)
noncomputable def Z47 (x2 : Int) (x3 : Int) (x45 : List Z3) (x46 : Int) (x47 : Int) : Option (Int × Int) :=
 if ((decide (x47 < x46))) = true then
 (Z5N x2 x3 x45 x46 x47)
 else
 (Z4U x2 x3)
theorem Zcn (x2 : Int) (x3 : Int) (x45 : List Z3) (x46 : Int) (x47 : Int) (ox45 : Own) : Sim (Z21) (Z47 x2 x3 x45 x46 x47) (ZaI 0 (iv x2) (iv x3) (.p (.lst ox45 (x45.map ZD))) (iv x46) (iv x47) []) := by
 unfold Z47
 refine zf (ZgV ..) ?_
 refine ze ?_
 refine zo (bv (decide (x47 < x46))) ?_
 refine za ((decide (x47 < x46))) ?_ ?_
 ·exact zk (Zce (x2) (x3) (x45) (x46) (x47) ox45)
 ·exact zk (Z5w (x2) (x3))
theorem Z5S (x2 : Int) (x3 : Int) (x45 : List Z3) (x46 : Int) (x47 : Int) {r} (h : Z47 x2 x3 x45 x46 x47 = some r) : Z46 x2 x3 x45 x46 x47 = some r :=
 pick_of (fun _ _ ha hb => RRun.uniq (Z9p) (ha .ex) (hb .ex)) (fun ox45 => Zcn x2 x3 x45 x46 x47 ox45 r h)
end Go.Proofs.YtadodmjdkphddaaDoor.N2
end
section
set_option linter.unusedSimpArgs false
set_option linter.unusedVariables false
namespace Go.Proofs.YtadodmjdkphddaaDoor.N2
open Go Go.Abs
set_option linter.unusedVariables false
set_option maxRecDepth 100000
noncomputable def Z5Y  : Option (Int) :=
 some (0)
theorem Z9m  : Sim (Z4l) (Z5Y) (Zer 0  []) := by
 unfold Z5Y
 refine zf (ZiP ..) ?_
 refine ze ?_
 exact zr ((iv 0), []) ⟨_, rfl⟩
noncomputable def Z5X  : Option (Int) :=
 some ((-1))
theorem Z9n  : Sim (Z4l) (Z5X) (Zep 0  []) := by
 unfold Z5X
 refine zf (Ziz ..) ?_
 refine ze ?_
 exact zr ((iv (-1)), []) ⟨_, rfl⟩
noncomputable def Z6X (x0 : Int) (x1 : Int) : Option (Int) :=
 (Z7s ((IntKind.i64.wrap (x0 * x1)))).bind fun r1 =>
 some (r1)
theorem ZcC (x0 : Int) (x1 : Int) : Sim (Z4l) (Z6X x0 x1) (Zfk 0 (iv x0) (iv x1) []) := by
 unfold Z6X
 refine zf (ZiX ..) ?_
 refine ze ?_
 refine zo (iv (IntKind.i64.wrap (x0 * x1))) ?_
 refine zi fun r1 hr1 => ?_
 obtain ⟨qr1, er1, exr1, rfl⟩ := Zbk ((IntKind.i64.wrap (x0 * x1))) r1 hr1
 refine zc [] (iv r1) [] er1 ?_
 exact zr ((iv r1), []) ⟨_, rfl⟩
noncomputable def Z6T (x0 : Int) (x1 : Int) : Option (Int) :=
 if ((decide (x0 < 0))) = true then
 (Z5X)
 else
 (if ((decide (x1 < 0))) = true then
 (Z5X)
 else
 (Z6X x0 x1))
theorem Zcu (x0 : Int) (x1 : Int) : Sim (Z4l) (Z6T x0 x1) (ZfH 0 (iv x0) (iv x1) []) := by
 unfold Z6T
 refine zf (Zim ..) ?_
 refine ze ?_
 refine zo (bv (decide (x0 < 0))) ?_
 refine za ((decide (x0 < 0))) ?_ ?_
 ·exact zk (Z9n )
 ·refine zo (bv (decide (x1 < 0))) ?_
  refine za ((decide (x1 < 0))) ?_ ?_
  ·exact zk (Z9n )
  ·exact zk (ZcC (x0) (x1))
noncomputable def Z8A (x0 : Int) (x1 : Int) : Option (Int) :=
 if ((x0 == 0)) = true then
 (Z5Y)
 else
 (if ((x1 == 0)) = true then
 (Z5Y)
 else
 (Z6T x0 x1))
theorem ZdE (x0 : Int) (x1 : Int) : Sim (Z4l) (Z8A x0 x1) (EE 33 [(iv x0), (iv x1)] []) := by
 unfold Z8A
 refine zf (ZjS ..) ?_
 refine ze ?_
 refine ze ?_
 refine zo (bv (x0 == 0)) ?_
 refine za ((x0 == 0)) ?_ ?_
 ·exact zk (Z9m )
 ·refine zo (bv (x1 == 0)) ?_
  refine za ((x1 == 0)) ?_ ?_
  ·exact zk (Z9m )
  ·exact zk (Zcu (x0) (x1))
theorem ZdT (x0 : Int) (x1 : Int) {r} (h : Z8A x0 x1 = some r) : Z6e x0 x1 = some r :=
 pick_of (fun _ _ ha hb => RRun.uniq (Zet) (ha ) (hb )) (ZdE x0 x1 r h)
noncomputable def Z7k (x0 : Int) : Option (Int) :=
 some (x0)
theorem ZcU (x0 : Int) : Sim (Z6O) (Z7k x0) (Zfq 0 (iv x0) []) := by
 unfold Z7k
 refine zf (ZhL ..) ?_
 refine ze ?_
 exact zr ((iv x0), []) ⟨_, rfl⟩
noncomputable def Z9q (x0 : Int) : Option (Int) :=
 if ((decide (1048576 < x0))) = true then
 (some ((-1)))
 else
 (Z7k x0)
theorem ZdM (x0 : Int) : Sim (Z6O) (Z9q x0) (EE 38 [(iv x0)] []) := by
 unfold Z9q
 refine zf (ZjM ..) ?_
 refine ze ?_
 refine ze ?_
 refine zo (bv (decide (1048576 < x0))) ?_
 refine za ((decide (1048576 < x0))) ?_ ?_
 ·refine ze ?_
  exact zr ((iv (-1)), []) ⟨_, rfl⟩
 ·exact zk (ZcU (x0))
theorem Ze2 (x0 : Int) {r} (h : Z9q x0 = some r) : Z7s x0 = some r :=
 pick_of (fun _ _ ha hb => RRun.uniq (ZeC) (ha ) (hb )) (ZdM x0 r h)
noncomputable def Z6E  : Option (Int) :=
 some ((-1))
theorem Za2  : Sim (Z6r) (Z6E) (Ze9 0  []) := by
 unfold Z6E
 refine zf (ZhE ..) ?_
 refine ze ?_
 exact zr ((iv (-1)), []) ⟨_, rfl⟩
noncomputable def Z7W (x0 : Int) (x1 : Int) : Option (Int) :=
 (Z7s ((IntKind.i64.wrap (x0 + x1)))).bind fun r1 =>
 some (r1)
theorem ZcZ (x0 : Int) (x1 : Int) : Sim (Z6r) (Z7W x0 x1) (Zgw 0 (iv x0) (iv x1) []) := by
 unfold Z7W
 refine zf (Zio ..) ?_
 refine ze ?_
 refine zo (iv (IntKind.i64.wrap (x0 + x1))) ?_
 refine zi fun r1 hr1 => ?_
 obtain ⟨qr1, er1, exr1, rfl⟩ := Zbk ((IntKind.i64.wrap (x0 + x1))) r1 hr1
 refine zc [] (iv r1) [] er1 ?_
 exact zr ((iv r1), []) ⟨_, rfl⟩
noncomputable def Z9O (x0 : Int) (x1 : Int) : Option (Int) :=
 if ((decide (x0 < 0))) = true then
 (Z6E)
 else
 (if ((decide (x1 < 0))) = true then
 (Z6E)
 else
 (Z7W x0 x1))
theorem Zeu (x0 : Int) (x1 : Int) : Sim (Z6r) (Z9O x0 x1) (EE 32 [(iv x0), (iv x1)] []) := by
 unfold Z9O
 refine zf (Zkc ..) ?_
 refine ze ?_
 refine ze ?_
 refine zo (bv (decide (x0 < 0))) ?_
 refine za ((decide (x0 < 0))) ?_ ?_
 ·exact zk (Za2 )
 ·refine zo (bv (decide (x1 < 0))) ?_
  refine za ((decide (x1 < 0))) ?_ ?_
  ·exact zk (Za2 )
  ·exact zk (ZcZ (x0) (x1))
theorem ZeX (x0 : Int) (x1 : Int) {r} (h : Z9O x0 x1 = some r) : Z9R x0 x1 = some r :=
 pick_of (fun _ _ ha hb => RRun.uniq (Zf1) (ha ) (hb )) (Zeu x0 x1 r h)
noncomputable def ZaO (x0 : Z3) : Option (Int) :=
 Z3z 0 x0.Kids ((x0.Kids.length : Int)) 0 x0
theorem ZdL (x0 : Z3) (z1c : Own) (zY : Own) : Sim (Z3h) (ZaO x0) (EE 25 [(.p (.agg (Zz x0 z1c zY)))] []) := by
 unfold ZaO
 refine zf (ZkR ..) ?_
 refine ze ?_
 refine zx (.ptr 0 0) [(Zo x0 z1c zY)] ?_
 refine ze ?_
 refine ze ?_
 refine zo (.ptr 0 6) ?_
 refine zo (.p (.lst (shrO zY) (x0.Kids.map ZD))) ?_
 refine zo (iv (x0.Kids.length : Int)) ?_ (Eq.trans (by kernel_rfl) (xlen_of (P := PP) (t := 25) (d := 27) (by kernel_rfl) ZD (shrO zY) x0.Kids))
 exact zk (Za6 (0) (x0.Kids) ((x0.Kids.length : Int)) (0) (x0) (shrO zY) z1c zY)
theorem Z7j (x0 : Z3) {r} (h : ZaO x0 = some r) : Z2g x0 = some r :=
 pick_of (fun _ _ ha hb => RRun.uniq (Zc3) (ha .ex .ex) (hb .ex .ex)) (fun z1c zY => ZdL x0 z1c zY r h)
noncomputable def Z6n (x3 : Int) (x8 : List Z3) (x9 : Int) (x10 : Int) (b0 : Z3) : Option (Int) :=
 (lget x8 x10).bind fun a1 =>
 (Z2g a1).bind fun r2 =>
 Z3z ((min (IntKind.i64.wrap (x3 + r2)) 1048576)) x8 x9 ((IntKind.i64.wrap (x10 + 1))) b0
theorem ZcS (x3 : Int) (x8 : List Z3) (x9 : Int) (x10 : Int) (b0 : Z3) (ox8 : Own) (z1d : Own) (z12 : Own) : Sim (Z3h) (Z6n x3 x8 x9 x10 b0) (ZfJ 0 (.ptr 0 0) (iv x3) (.p (.lst ox8 (x8.map ZD))) (iv x9) (iv x10) [(Zo b0 z1d z12)]) := by
 unfold Z6n
 refine zf (ZiZ ..) ?_
 refine ze ?_
 refine zi fun a1 ha1 => ?_
 refine zo (.cptr (Zz a1 .sh .sh)) ?_ (Eq.trans (by kernel_rfl) (xidx_of (o := ox8) (k := .i64) (n := 7) (e := ZD) (cs := Z1T) Z3R (fun _ => rfl) (by decide) ha1))
 refine zo (.p (.agg (Zz a1 .sh .sh))) ?_
 refine zz (.ptr 1 0) [(Zo b0 z1d z12), (Zo (Z3.mk 0 0 0 0 0 ([] : List Z8) ([] : List Z3)) .nl .nl)] ?_
 refine zt [(Zo b0 z1d z12), (Zo a1 .sh .sh)] ?_
 refine ze ?_
 refine zo (.p (.agg (Zz a1 .sh .sh))) ?_
 refine zi fun r2 hr2 => ?_
 obtain ⟨qr2, er2, exr2, rfl⟩ := Z7e (a1) .sh .sh r2 hr2
 refine zc [] (iv r2) [(Zo b0 z1d z12), (Zo a1 .sh .sh)] er2 ?_
 refine zo (iv (IntKind.i64.wrap (x3 + r2))) ?_
 refine zo (iv (min (IntKind.i64.wrap (x3 + r2)) 1048576)) ?_ (xminmax2_min _ _)
 refine ze ?_
 refine zo (iv (IntKind.i64.wrap (x10 + 1))) ?_
 exact zk (Za6 ((min (IntKind.i64.wrap (x3 + r2)) 1048576)) (x8) (x9) ((IntKind.i64.wrap (x10 + 1))) (b0) ox8 z1d z12)
noncomputable def ZW (x3 : Int) : Option (Int) :=
 some ((min x3 1048576))
theorem Z14 (x3 : Int) : Sim (Z3h) (ZW x3) (Z2S 0 (iv x3) []) := by
 unfold ZW
 refine zf (ZgZ ..) ?_
 refine ze ?_
 refine zo (iv (min x3 1048576)) ?_ (xminmax2_min _ _)
 exact zr ((iv (min x3 1048576)), []) ⟨_, rfl⟩
noncomputable def Z15 (x3 : Int) (b0 : Z3) : Option (Int) :=
 if ((b0.Mode == 2)) = true then
 (ZW ((IntKind.i64.wrap (x3 + 2))))
 else
 (ZW x3)
theorem Z1g (x3 : Int) (b0 : Z3) (z1d : Own) (z12 : Own) : Sim (Z3h) (Z15 x3 b0) (Z3E 0 (.ptr 0 0) (iv x3) [(Zo b0 z1d z12)]) := by
 unfold Z15
 refine zf (Zh8 ..) ?_
 refine ze ?_
 refine zo (.ptr 0 3) ?_
 refine zo (iv b0.Mode) ?_
 refine zo (bv (b0.Mode == 2)) ?_
 refine za ((b0.Mode == 2)) ?_ ?_
 ·refine ze ?_
  refine zo (iv (IntKind.i64.wrap (x3 + 2))) ?_
  exact zk (Z14 ((IntKind.i64.wrap (x3 + 2))))
 ·exact zk (Z14 (x3))
noncomputable def Z1N (x3 : Int) (b0 : Z3) : Option (Int) :=
 if ((b0.Kind == 1)) = true then
 (if ((b0.Kind == 1)) = true then
 (some (1))
 else
 (if ((b0.Kind == 3)) = true then
 (ZW ((IntKind.i64.wrap (x3 + (IntKind.i64.wrap (2 * (IntKind.i64.wrap ((b0.Kids.length : Int) - 1))))))))
 else
 (if ((b0.Kind == 5)) = true then
 (if ((b0.Kind == 5)) = true then
 (ZW ((IntKind.i64.wrap (x3 + 2))))
 else
 (if ((b0.Kind == 4)) = true then
 (if ((decide (b0.Hi < 0))) = true then
 (Z15 ((IntKind.i64.wrap ((IntKind.i64.wrap (b0.Lo * x3)) + (IntKind.i64.wrap (x3 + 4))))) b0)
 else
 (Z15 ((IntKind.i64.wrap ((IntKind.i64.wrap (b0.Lo * x3)) + (IntKind.i64.wrap ((IntKind.i64.wrap (b0.Hi - b0.Lo)) * (IntKind.i64.wrap (x3 + 1))))))) b0))
 else
 (ZW x3)))
 else
 (if ((b0.Kind == 7)) = true then
 (if ((b0.Kind == 7)) = true then
 (ZW ((IntKind.i64.wrap (x3 + 2))))
 else
 (if ((b0.Kind == 4)) = true then
 (if ((decide (b0.Hi < 0))) = true then
 (Z15 ((IntKind.i64.wrap ((IntKind.i64.wrap (b0.Lo * x3)) + (IntKind.i64.wrap (x3 + 4))))) b0)
 else
 (Z15 ((IntKind.i64.wrap ((IntKind.i64.wrap (b0.Lo * x3)) + (IntKind.i64.wrap ((IntKind.i64.wrap (b0.Hi - b0.Lo)) * (IntKind.i64.wrap (x3 + 1))))))) b0))
 else
 (ZW x3)))
 else
 (if ((b0.Kind == 8)) = true then
 (ZW ((IntKind.i64.wrap (x3 + 2))))
 else
 (if ((b0.Kind == 4)) = true then
 (if ((decide (b0.Hi < 0))) = true then
 (Z15 ((IntKind.i64.wrap ((IntKind.i64.wrap (b0.Lo * x3)) + (IntKind.i64.wrap (x3 + 4))))) b0)
 else
 (Z15 ((IntKind.i64.wrap ((IntKind.i64.wrap (b0.Lo * x3)) + (IntKind.i64.wrap ((IntKind.i64.wrap (b0.Hi - b0.Lo)) * (IntKind.i64.wrap (x3 + 1))))))) b0))
 else
 (ZW x3)))))))
 else
 (if ((b0.Kind == 6)) = true then
 (if ((b0.Kind == 6)) = true then
 (some (1))
 else
 (if ((b0.Kind == 3)) = true then
 (ZW ((IntKind.i64.wrap (x3 + (IntKind.i64.wrap (2 * (IntKind.i64.wrap ((b0.Kids.length : Int) - 1))))))))
 else
 (if ((b0.Kind == 5)) = true then
 (if ((b0.Kind == 5)) = true then
 (ZW ((IntKind.i64.wrap (x3 + 2))))
 else
 (if ((b0.Kind == 4)) = true then
 (if ((decide (b0.Hi < 0))) = true then
 (Z15 ((IntKind.i64.wrap ((IntKind.i64.wrap (b0.Lo * x3)) + (IntKind.i64.wrap (x3 + 4))))) b0)
 else
 (Z15 ((IntKind.i64.wrap ((IntKind.i64.wrap (b0.Lo * x3)) + (IntKind.i64.wrap ((IntKind.i64.wrap (b0.Hi - b0.Lo)) * (IntKind.i64.wrap (x3 + 1))))))) b0))
 else
 (ZW x3)))
 else
 (if ((b0.Kind == 7)) = true then
 (if ((b0.Kind == 7)) = true then
 (ZW ((IntKind.i64.wrap (x3 + 2))))
 else
 (if ((b0.Kind == 4)) = true then
 (if ((decide (b0.Hi < 0))) = true then
 (Z15 ((IntKind.i64.wrap ((IntKind.i64.wrap (b0.Lo * x3)) + (IntKind.i64.wrap (x3 + 4))))) b0)
 else
 (Z15 ((IntKind.i64.wrap ((IntKind.i64.wrap (b0.Lo * x3)) + (IntKind.i64.wrap ((IntKind.i64.wrap (b0.Hi - b0.Lo)) * (IntKind.i64.wrap (x3 + 1))))))) b0))
 else
 (ZW x3)))
 else
 (if ((b0.Kind == 8)) = true then
 (ZW ((IntKind.i64.wrap (x3 + 2))))
 else
 (if ((b0.Kind == 4)) = true then
 (if ((decide (b0.Hi < 0))) = true then
 (Z15 ((IntKind.i64.wrap ((IntKind.i64.wrap (b0.Lo * x3)) + (IntKind.i64.wrap (x3 + 4))))) b0)
 else
 (Z15 ((IntKind.i64.wrap ((IntKind.i64.wrap (b0.Lo * x3)) + (IntKind.i64.wrap ((IntKind.i64.wrap (b0.Hi - b0.Lo)) * (IntKind.i64.wrap (x3 + 1))))))) b0))
 else
 (ZW x3)))))))
 else
 (if ((b0.Kind == 9)) = true then
 (some (1))
 else
 (if ((b0.Kind == 3)) = true then
 (ZW ((IntKind.i64.wrap (x3 + (IntKind.i64.wrap (2 * (IntKind.i64.wrap ((b0.Kids.length : Int) - 1))))))))
 else
 (if ((b0.Kind == 5)) = true then
 (if ((b0.Kind == 5)) = true then
 (ZW ((IntKind.i64.wrap (x3 + 2))))
 else
 (if ((b0.Kind == 4)) = true then
 (if ((decide (b0.Hi < 0))) = true then
 (Z15 ((IntKind.i64.wrap ((IntKind.i64.wrap (b0.Lo * x3)) + (IntKind.i64.wrap (x3 + 4))))) b0)
 else
 (Z15 ((IntKind.i64.wrap ((IntKind.i64.wrap (b0.Lo * x3)) + (IntKind.i64.wrap ((IntKind.i64.wrap (b0.Hi - b0.Lo)) * (IntKind.i64.wrap (x3 + 1))))))) b0))
 else
 (ZW x3)))
 else
 (if ((b0.Kind == 7)) = true then
 (if ((b0.Kind == 7)) = true then
 (ZW ((IntKind.i64.wrap (x3 + 2))))
 else
 (if ((b0.Kind == 4)) = true then
 (if ((decide (b0.Hi < 0))) = true then
 (Z15 ((IntKind.i64.wrap ((IntKind.i64.wrap (b0.Lo * x3)) + (IntKind.i64.wrap (x3 + 4))))) b0)
 else
 (Z15 ((IntKind.i64.wrap ((IntKind.i64.wrap (b0.Lo * x3)) + (IntKind.i64.wrap ((IntKind.i64.wrap (b0.Hi - b0.Lo)) * (IntKind.i64.wrap (x3 + 1))))))) b0))
 else
 (ZW x3)))
 else
 (if ((b0.Kind == 8)) = true then
 (ZW ((IntKind.i64.wrap (x3 + 2))))
 else
 (if ((b0.Kind == 4)) = true then
 (if ((decide (b0.Hi < 0))) = true then
 (Z15 ((IntKind.i64.wrap ((IntKind.i64.wrap (b0.Lo * x3)) + (IntKind.i64.wrap (x3 + 4))))) b0)
 else
 (Z15 ((IntKind.i64.wrap ((IntKind.i64.wrap (b0.Lo * x3)) + (IntKind.i64.wrap ((IntKind.i64.wrap (b0.Hi - b0.Lo)) * (IntKind.i64.wrap (x3 + 1))))))) b0))
 else
 (ZW x3))))))))
theorem ZcO (x3 : Int) (b0 : Z3) (z1d : Own) (z12 : Own) : Sim (Z3h) (Z1N x3 b0) (Zfv 0 (.ptr 0 0) (iv x3) [(Zo b0 z1d z12)]) := by
 unfold Z1N
 refine zf (ZhY ..) ?_
 refine ze ?_
 refine zo (.ptr 0 0) ?_
 refine zo (iv b0.Kind) ?_
 refine ze ?_
 refine zo (bv (b0.Kind == 1)) ?_
 refine za ((b0.Kind == 1)) ?_ ?_
 ·refine za ((b0.Kind == 1)) ?_ ?_
  ·refine ze ?_
   exact zr ((iv 1), [(Zo b0 z1d z12)]) ⟨_, rfl⟩
  ·refine ze ?_
   refine zo (bv (b0.Kind == 3)) ?_
   refine za ((b0.Kind == 3)) ?_ ?_
   ·refine ze ?_
    refine zo (.ptr 0 6) ?_
    refine zo (.p (.lst (shrO z12) (b0.Kids.map ZD))) ?_
    refine zo (iv (b0.Kids.length : Int)) ?_ (Eq.trans (by kernel_rfl) (xlen_of (P := PP) (t := 25) (d := 27) (by kernel_rfl) ZD (shrO z12) b0.Kids))
    refine zo (iv (IntKind.i64.wrap ((b0.Kids.length : Int) - 1))) ?_
    refine zo (iv (IntKind.i64.wrap (2 * (IntKind.i64.wrap ((b0.Kids.length : Int) - 1))))) ?_
    refine zo (iv (IntKind.i64.wrap (x3 + (IntKind.i64.wrap (2 * (IntKind.i64.wrap ((b0.Kids.length : Int) - 1))))))) ?_
    exact zk (Z14 ((IntKind.i64.wrap (x3 + (IntKind.i64.wrap (2 * (IntKind.i64.wrap ((b0.Kids.length : Int) - 1))))))))
   ·refine ze ?_
    refine zo (bv (b0.Kind == 5)) ?_
    refine za ((b0.Kind == 5)) ?_ ?_
    ·refine za ((b0.Kind == 5)) ?_ ?_
     ·refine ze ?_
      refine zo (iv (IntKind.i64.wrap (x3 + 2))) ?_
      exact zk (Z14 ((IntKind.i64.wrap (x3 + 2))))
     ·refine ze ?_
      refine zo (bv (b0.Kind == 4)) ?_
      refine za ((b0.Kind == 4)) ?_ ?_
      ·refine ze ?_
       refine ze ?_
       refine zo (.ptr 0 1) ?_
       refine zo (iv b0.Lo) ?_
       refine zo (iv (IntKind.i64.wrap (b0.Lo * x3))) ?_
       refine ze ?_
       refine zo (.ptr 0 2) ?_
       refine zo (iv b0.Hi) ?_
       refine zo (bv (decide (b0.Hi < 0))) ?_
       refine za ((decide (b0.Hi < 0))) ?_ ?_
       ·refine ze ?_
        refine zo (iv (IntKind.i64.wrap (x3 + 4))) ?_
        refine zo (iv (IntKind.i64.wrap ((IntKind.i64.wrap (b0.Lo * x3)) + (IntKind.i64.wrap (x3 + 4))))) ?_
        exact zk (Z1g ((IntKind.i64.wrap ((IntKind.i64.wrap (b0.Lo * x3)) + (IntKind.i64.wrap (x3 + 4))))) (b0) z1d z12)
       ·refine ze ?_
        refine zo (.ptr 0 2) ?_
        refine zo (iv b0.Hi) ?_
        refine zo (.ptr 0 1) ?_
        refine zo (iv b0.Lo) ?_
        refine zo (iv (IntKind.i64.wrap (b0.Hi - b0.Lo))) ?_
        refine zo (iv (IntKind.i64.wrap (x3 + 1))) ?_
        refine zo (iv (IntKind.i64.wrap ((IntKind.i64.wrap (b0.Hi - b0.Lo)) * (IntKind.i64.wrap (x3 + 1))))) ?_
        refine zo (iv (IntKind.i64.wrap ((IntKind.i64.wrap (b0.Lo * x3)) + (IntKind.i64.wrap ((IntKind.i64.wrap (b0.Hi - b0.Lo)) * (IntKind.i64.wrap (x3 + 1))))))) ?_
        exact zk (Z1g ((IntKind.i64.wrap ((IntKind.i64.wrap (b0.Lo * x3)) + (IntKind.i64.wrap ((IntKind.i64.wrap (b0.Hi - b0.Lo)) * (IntKind.i64.wrap (x3 + 1))))))) (b0) z1d z12)
      ·exact zk (Z14 (x3))
    ·refine ze ?_
     refine zo (bv (b0.Kind == 7)) ?_
     refine za ((b0.Kind == 7)) ?_ ?_
     ·refine za ((b0.Kind == 7)) ?_ ?_
      ·refine ze ?_
       refine zo (iv (IntKind.i64.wrap (x3 + 2))) ?_
       exact zk (Z14 ((IntKind.i64.wrap (x3 + 2))))
      ·refine ze ?_
       refine zo (bv (b0.Kind == 4)) ?_
       refine za ((b0.Kind == 4)) ?_ ?_
       ·refine ze ?_
        refine ze ?_
        refine zo (.ptr 0 1) ?_
        refine zo (iv b0.Lo) ?_
        refine zo (iv (IntKind.i64.wrap (b0.Lo * x3))) ?_
        refine ze ?_
        refine zo (.ptr 0 2) ?_
        refine zo (iv b0.Hi) ?_
        refine zo (bv (decide (b0.Hi < 0))) ?_
        refine za ((decide (b0.Hi < 0))) ?_ ?_
        ·refine ze ?_
         refine zo (iv (IntKind.i64.wrap (x3 + 4))) ?_
         refine zo (iv (IntKind.i64.wrap ((IntKind.i64.wrap (b0.Lo * x3)) + (IntKind.i64.wrap (x3 + 4))))) ?_
         exact zk (Z1g ((IntKind.i64.wrap ((IntKind.i64.wrap (b0.Lo * x3)) + (IntKind.i64.wrap (x3 + 4))))) (b0) z1d z12)
        ·refine ze ?_
         refine zo (.ptr 0 2) ?_
         refine zo (iv b0.Hi) ?_
         refine zo (.ptr 0 1) ?_
         refine zo (iv b0.Lo) ?_
         refine zo (iv (IntKind.i64.wrap (b0.Hi - b0.Lo))) ?_
         refine zo (iv (IntKind.i64.wrap (x3 + 1))) ?_
         refine zo (iv (IntKind.i64.wrap ((IntKind.i64.wrap (b0.Hi - b0.Lo)) * (IntKind.i64.wrap (x3 + 1))))) ?_
         refine zo (iv (IntKind.i64.wrap ((IntKind.i64.wrap (b0.Lo * x3)) + (IntKind.i64.wrap ((IntKind.i64.wrap (b0.Hi - b0.Lo)) * (IntKind.i64.wrap (x3 + 1))))))) ?_
         exact zk (Z1g ((IntKind.i64.wrap ((IntKind.i64.wrap (b0.Lo * x3)) + (IntKind.i64.wrap ((IntKind.i64.wrap (b0.Hi - b0.Lo)) * (IntKind.i64.wrap (x3 + 1))))))) (b0) z1d z12)
       ·exact zk (Z14 (x3))
     ·refine ze ?_
      refine zo (bv (b0.Kind == 8)) ?_
      refine za ((b0.Kind == 8)) ?_ ?_
      ·refine ze ?_
       refine zo (iv (IntKind.i64.wrap (x3 + 2))) ?_
       exact zk (Z14 ((IntKind.i64.wrap (x3 + 2))))
      ·refine ze ?_
       refine zo (bv (b0.Kind == 4)) ?_
       refine za ((b0.Kind == 4)) ?_ ?_
       ·refine ze ?_
        refine ze ?_
        refine zo (.ptr 0 1) ?_
        refine zo (iv b0.Lo) ?_
        refine zo (iv (IntKind.i64.wrap (b0.Lo * x3))) ?_
        refine ze ?_
        refine zo (.ptr 0 2) ?_
        refine zo (iv b0.Hi) ?_
        refine zo (bv (decide (b0.Hi < 0))) ?_
        refine za ((decide (b0.Hi < 0))) ?_ ?_
        ·refine ze ?_
         refine zo (iv (IntKind.i64.wrap (x3 + 4))) ?_
         refine zo (iv (IntKind.i64.wrap ((IntKind.i64.wrap (b0.Lo * x3)) + (IntKind.i64.wrap (x3 + 4))))) ?_
         exact zk (Z1g ((IntKind.i64.wrap ((IntKind.i64.wrap (b0.Lo * x3)) + (IntKind.i64.wrap (x3 + 4))))) (b0) z1d z12)
        ·refine ze ?_
         refine zo (.ptr 0 2) ?_
         refine zo (iv b0.Hi) ?_
         refine zo (.ptr 0 1) ?_
         refine zo (iv b0.Lo) ?_
         refine zo (iv (IntKind.i64.wrap (b0.Hi - b0.Lo))) ?_
         refine zo (iv (IntKind.i64.wrap (x3 + 1))) ?_
         refine zo (iv (IntKind.i64.wrap ((IntKind.i64.wrap (b0.Hi - b0.Lo)) * (IntKind.i64.wrap (x3 + 1))))) ?_
         refine zo (iv (IntKind.i64.wrap ((IntKind.i64.wrap (b0.Lo * x3)) + (IntKind.i64.wrap ((IntKind.i64.wrap (b0.Hi - b0.Lo)) * (IntKind.i64.wrap (x3 + 1))))))) ?_
         exact zk (Z1g ((IntKind.i64.wrap ((IntKind.i64.wrap (b0.Lo * x3)) + (IntKind.i64.wrap ((IntKind.i64.wrap (b0.Hi - b0.Lo)) * (IntKind.i64.wrap (x3 + 1))))))) (b0) z1d z12)
       ·exact zk (Z14 (x3))
 ·refine ze ?_
  refine zo (bv (b0.Kind == 6)) ?_
  refine za ((b0.Kind == 6)) ?_ ?_
  ·refine za ((b0.Kind == 6)) ?_ ?_
   ·refine ze ?_
    exact zr ((iv 1), [(Zo b0 z1d z12)]) ⟨_, rfl⟩
   ·refine ze ?_
    refine zo (bv (b0.Kind == 3)) ?_
    refine za ((b0.Kind == 3)) ?_ ?_
    ·refine ze ?_
     refine zo (.ptr 0 6) ?_
     refine zo (.p (.lst (shrO z12) (b0.Kids.map ZD))) ?_
     refine zo (iv (b0.Kids.length : Int)) ?_ (Eq.trans (by kernel_rfl) (xlen_of (P := PP) (t := 25) (d := 27) (by kernel_rfl) ZD (shrO z12) b0.Kids))
     refine zo (iv (IntKind.i64.wrap ((b0.Kids.length : Int) - 1))) ?_
     refine zo (iv (IntKind.i64.wrap (2 * (IntKind.i64.wrap ((b0.Kids.length : Int) - 1))))) ?_
     refine zo (iv (IntKind.i64.wrap (x3 + (IntKind.i64.wrap (2 * (IntKind.i64.wrap ((b0.Kids.length : Int) - 1))))))) ?_
     exact zk (Z14 ((IntKind.i64.wrap (x3 + (IntKind.i64.wrap (2 * (IntKind.i64.wrap ((b0.Kids.length : Int) - 1))))))))
    ·refine ze ?_
     refine zo (bv (b0.Kind == 5)) ?_
     refine za ((b0.Kind == 5)) ?_ ?_
     ·refine za ((b0.Kind == 5)) ?_ ?_
      ·refine ze ?_
       refine zo (iv (IntKind.i64.wrap (x3 + 2))) ?_
       exact zk (Z14 ((IntKind.i64.wrap (x3 + 2))))
      ·refine ze ?_
       refine zo (bv (b0.Kind == 4)) ?_
       refine za ((b0.Kind == 4)) ?_ ?_
       ·refine ze ?_
        refine ze ?_
        refine zo (.ptr 0 1) ?_
        refine zo (iv b0.Lo) ?_
        refine zo (iv (IntKind.i64.wrap (b0.Lo * x3))) ?_
        refine ze ?_
        refine zo (.ptr 0 2) ?_
        refine zo (iv b0.Hi) ?_
        refine zo (bv (decide (b0.Hi < 0))) ?_
        refine za ((decide (b0.Hi < 0))) ?_ ?_
        ·refine ze ?_
         refine zo (iv (IntKind.i64.wrap (x3 + 4))) ?_
         refine zo (iv (IntKind.i64.wrap ((IntKind.i64.wrap (b0.Lo * x3)) + (IntKind.i64.wrap (x3 + 4))))) ?_
         exact zk (Z1g ((IntKind.i64.wrap ((IntKind.i64.wrap (b0.Lo * x3)) + (IntKind.i64.wrap (x3 + 4))))) (b0) z1d z12)
        ·refine ze ?_
         refine zo (.ptr 0 2) ?_
         refine zo (iv b0.Hi) ?_
         refine zo (.ptr 0 1) ?_
         refine zo (iv b0.Lo) ?_
         refine zo (iv (IntKind.i64.wrap (b0.Hi - b0.Lo))) ?_
         refine zo (iv (IntKind.i64.wrap (x3 + 1))) ?_
         refine zo (iv (IntKind.i64.wrap ((IntKind.i64.wrap (b0.Hi - b0.Lo)) * (IntKind.i64.wrap (x3 + 1))))) ?_
         refine zo (iv (IntKind.i64.wrap ((IntKind.i64.wrap (b0.Lo * x3)) + (IntKind.i64.wrap ((IntKind.i64.wrap (b0.Hi - b0.Lo)) * (IntKind.i64.wrap (x3 + 1))))))) ?_
         exact zk (Z1g ((IntKind.i64.wrap ((IntKind.i64.wrap (b0.Lo * x3)) + (IntKind.i64.wrap ((IntKind.i64.wrap (b0.Hi - b0.Lo)) * (IntKind.i64.wrap (x3 + 1))))))) (b0) z1d z12)
       ·exact zk (Z14 (x3))
     ·refine ze ?_
      refine zo (bv (b0.Kind == 7)) ?_
      refine za ((b0.Kind == 7)) ?_ ?_
      ·refine za ((b0.Kind == 7)) ?_ ?_
       ·refine ze ?_
        refine zo (iv (IntKind.i64.wrap (x3 + 2))) ?_
        exact zk (Z14 ((IntKind.i64.wrap (x3 + 2))))
       ·refine ze ?_
        refine zo (bv (b0.Kind == 4)) ?_
        refine za ((b0.Kind == 4)) ?_ ?_
        ·refine ze ?_
         refine ze ?_
         refine zo (.ptr 0 1) ?_
         refine zo (iv b0.Lo) ?_
         refine zo (iv (IntKind.i64.wrap (b0.Lo * x3))) ?_
         refine ze ?_
         refine zo (.ptr 0 2) ?_
         refine zo (iv b0.Hi) ?_
         refine zo (bv (decide (b0.Hi < 0))) ?_
         refine za ((decide (b0.Hi < 0))) ?_ ?_
         ·refine ze ?_
          refine zo (iv (IntKind.i64.wrap (x3 + 4))) ?_
          refine zo (iv (IntKind.i64.wrap ((IntKind.i64.wrap (b0.Lo * x3)) + (IntKind.i64.wrap (x3 + 4))))) ?_
          exact zk (Z1g ((IntKind.i64.wrap ((IntKind.i64.wrap (b0.Lo * x3)) + (IntKind.i64.wrap (x3 + 4))))) (b0) z1d z12)
         ·refine ze ?_
          refine zo (.ptr 0 2) ?_
          refine zo (iv b0.Hi) ?_
          refine zo (.ptr 0 1) ?_
          refine zo (iv b0.Lo) ?_
          refine zo (iv (IntKind.i64.wrap (b0.Hi - b0.Lo))) ?_
          refine zo (iv (IntKind.i64.wrap (x3 + 1))) ?_
          refine zo (iv (IntKind.i64.wrap ((IntKind.i64.wrap (b0.Hi - b0.Lo)) * (IntKind.i64.wrap (x3 + 1))))) ?_
          refine zo (iv (IntKind.i64.wrap ((IntKind.i64.wrap (b0.Lo * x3)) + (IntKind.i64.wrap ((IntKind.i64.wrap (b0.Hi - b0.Lo)) * (IntKind.i64.wrap (x3 + 1))))))) ?_
          exact zk (Z1g ((IntKind.i64.wrap ((IntKind.i64.wrap (b0.Lo * x3)) + (IntKind.i64.wrap ((IntKind.i64.wrap (b0.Hi - b0.Lo)) * (IntKind.i64.wrap (x3 + 1))))))) (b0) z1d z12)
        ·exact zk (Z14 (x3))
      ·refine ze ?_
       refine zo (bv (b0.Kind == 8)) ?_
       refine za ((b0.Kind == 8)) ?_ ?_
       ·refine ze ?_
        refine zo (iv (IntKind.i64.wrap (x3 + 2))) ?_
        exact zk (Z14 ((IntKind.i64.wrap (x3 + 2))))
       ·refine ze ?_
        refine zo (bv (b0.Kind == 4)) ?_
        refine za ((b0.Kind == 4)) ?_ ?_
        ·refine ze ?_
         refine ze ?_
         refine zo (.ptr 0 1) ?_
         refine zo (iv b0.Lo) ?_
         refine zo (iv (IntKind.i64.wrap (b0.Lo * x3))) ?_
         refine ze ?_
         refine zo (.ptr 0 2) ?_
         refine zo (iv b0.Hi) ?_
         refine zo (bv (decide (b0.Hi < 0))) ?_
         refine za ((decide (b0.Hi < 0))) ?_ ?_
         ·refine ze ?_
          refine zo (iv (IntKind.i64.wrap (x3 + 4))) ?_
          refine zo (iv (IntKind.i64.wrap ((IntKind.i64.wrap (b0.Lo * x3)) + (IntKind.i64.wrap (x3 + 4))))) ?_
          exact zk (Z1g ((IntKind.i64.wrap ((IntKind.i64.wrap (b0.Lo * x3)) + (IntKind.i64.wrap (x3 + 4))))) (b0) z1d z12)
         ·refine ze ?_
          refine zo (.ptr 0 2) ?_
          refine zo (iv b0.Hi) ?_
          refine zo (.ptr 0 1) ?_
          refine zo (iv b0.Lo) ?_
          refine zo (iv (IntKind.i64.wrap (b0.Hi - b0.Lo))) ?_
          refine zo (iv (IntKind.i64.wrap (x3 + 1))) ?_
          refine zo (iv (IntKind.i64.wrap ((IntKind.i64.wrap (b0.Hi - b0.Lo)) * (IntKind.i64.wrap (x3 + 1))))) ?_
          refine zo (iv (IntKind.i64.wrap ((IntKind.i64.wrap (b0.Lo * x3)) + (IntKind.i64.wrap ((IntKind.i64.wrap (b0.Hi - b0.Lo)) * (IntKind.i64.wrap (x3 + 1))))))) ?_
          exact zk (Z1g ((IntKind.i64.wrap ((IntKind.i64.wrap (b0.Lo * x3)) + (IntKind.i64.wrap ((IntKind.i64.wrap (b0.Hi - b0.Lo)) * (IntKind.i64.wrap (x3 + 1))))))) (b0) z1d z12)
        ·exact zk (Z14 (x3))
  ·refine ze ?_
   refine zo (bv (b0.Kind == 9)) ?_
   refine za ((b0.Kind == 9)) ?_ ?_
   ·refine ze ?_
    exact zr ((iv 1), [(Zo b0 z1d z12)]) ⟨_, rfl⟩
   ·refine ze ?_
    refine zo (bv (b0.Kind == 3)) ?_
    refine za ((b0.Kind == 3)) ?_ ?_
    ·refine ze ?_
     refine zo (.ptr 0 6) ?_
     refine zo (.p (.lst (shrO z12) (b0.Kids.map ZD))) ?_
     refine zo (iv (b0.Kids.length : Int)) ?_ (Eq.trans (by kernel_rfl) (xlen_of (P := PP) (t := 25) (d := 27) (by kernel_rfl) ZD (shrO z12) b0.Kids))
     refine zo (iv (IntKind.i64.wrap ((b0.Kids.length : Int) - 1))) ?_
     refine zo (iv (IntKind.i64.wrap (2 * (IntKind.i64.wrap ((b0.Kids.length : Int) - 1))))) ?_
     refine zo (iv (IntKind.i64.wrap (x3 + (IntKind.i64.wrap (2 * (IntKind.i64.wrap ((b0.Kids.length : Int) - 1))))))) ?_
     exact zk (Z14 ((IntKind.i64.wrap (x3 + (IntKind.i64.wrap (2 * (IntKind.i64.wrap ((b0.Kids.length : Int) - 1))))))))
    ·refine ze ?_
     refine zo (bv (b0.Kind == 5)) ?_
     refine za ((b0.Kind == 5)) ?_ ?_
     ·refine za ((b0.Kind == 5)) ?_ ?_
      ·refine ze ?_
       refine zo (iv (IntKind.i64.wrap (x3 + 2))) ?_
       exact zk (Z14 ((IntKind.i64.wrap (x3 + 2))))
      ·refine ze ?_
       refine zo (bv (b0.Kind == 4)) ?_
       refine za ((b0.Kind == 4)) ?_ ?_
       ·refine ze ?_
        refine ze ?_
        refine zo (.ptr 0 1) ?_
        refine zo (iv b0.Lo) ?_
        refine zo (iv (IntKind.i64.wrap (b0.Lo * x3))) ?_
        refine ze ?_
        refine zo (.ptr 0 2) ?_
        refine zo (iv b0.Hi) ?_
        refine zo (bv (decide (b0.Hi < 0))) ?_
        refine za ((decide (b0.Hi < 0))) ?_ ?_
        ·refine ze ?_
         refine zo (iv (IntKind.i64.wrap (x3 + 4))) ?_
         refine zo (iv (IntKind.i64.wrap ((IntKind.i64.wrap (b0.Lo * x3)) + (IntKind.i64.wrap (x3 + 4))))) ?_
         exact zk (Z1g ((IntKind.i64.wrap ((IntKind.i64.wrap (b0.Lo * x3)) + (IntKind.i64.wrap (x3 + 4))))) (b0) z1d z12)
        ·refine ze ?_
         refine zo (.ptr 0 2) ?_
         refine zo (iv b0.Hi) ?_
         refine zo (.ptr 0 1) ?_
         refine zo (iv b0.Lo) ?_
         refine zo (iv (IntKind.i64.wrap (b0.Hi - b0.Lo))) ?_
         refine zo (iv (IntKind.i64.wrap (x3 + 1))) ?_
         refine zo (iv (IntKind.i64.wrap ((IntKind.i64.wrap (b0.Hi - b0.Lo)) * (IntKind.i64.wrap (x3 + 1))))) ?_
         refine zo (iv (IntKind.i64.wrap ((IntKind.i64.wrap (b0.Lo * x3)) + (IntKind.i64.wrap ((IntKind.i64.wrap (b0.Hi - b0.Lo)) * (IntKind.i64.wrap (x3 + 1))))))) ?_
         exact zk (Z1g ((IntKind.i64.wrap ((IntKind.i64.wrap (b0.Lo * x3)) + (IntKind.i64.wrap ((IntKind.i64.wrap (b0.Hi - b0.Lo)) * (IntKind.i64.wrap (x3 + 1))))))) (b0) z1d z12)
       ·exact zk (Z14 (x3))
     ·refine ze ?_
      refine zo (bv (b0.Kind == 7)) ?_
      refine za ((b0.Kind == 7)) ?_ ?_
      ·refine za ((b0.Kind == 7)) ?_ ?_
       ·refine ze ?_
        refine zo (iv (IntKind.i64.wrap (x3 + 2))) ?_
        exact zk (Z14 ((IntKind.i64.wrap (x3 + 2))))
       ·refine ze ?_
        refine zo (bv (b0.Kind == 4)) ?_
        refine za ((b0.Kind == 4)) ?_ ?_
        ·refine ze ?_
         refine ze ?_
         refine zo (.ptr 0 1) ?_
         refine zo (iv b0.Lo) ?_
         refine zo (iv (IntKind.i64.wrap (b0.Lo * x3))) ?_
         refine ze ?_
         refine zo (.ptr 0 2) ?_
         refine zo (iv b0.Hi) ?_
         refine zo (bv (decide (b0.Hi < 0))) ?_
         refine za ((decide (b0.Hi < 0))) ?_ ?_
         ·refine ze ?_
          refine zo (iv (IntKind.i64.wrap (x3 + 4))) ?_
          refine zo (iv (IntKind.i64.wrap ((IntKind.i64.wrap (b0.Lo * x3)) + (IntKind.i64.wrap (x3 + 4))))) ?_
          exact zk (Z1g ((IntKind.i64.wrap ((IntKind.i64.wrap (b0.Lo * x3)) + (IntKind.i64.wrap (x3 + 4))))) (b0) z1d z12)
         ·refine ze ?_
          refine zo (.ptr 0 2) ?_
          refine zo (iv b0.Hi) ?_
          refine zo (.ptr 0 1) ?_
          refine zo (iv b0.Lo) ?_
          refine zo (iv (IntKind.i64.wrap (b0.Hi - b0.Lo))) ?_
          refine zo (iv (IntKind.i64.wrap (x3 + 1))) ?_
          refine zo (iv (IntKind.i64.wrap ((IntKind.i64.wrap (b0.Hi - b0.Lo)) * (IntKind.i64.wrap (x3 + 1))))) ?_
          refine zo (iv (IntKind.i64.wrap ((IntKind.i64.wrap (b0.Lo * x3)) + (IntKind.i64.wrap ((IntKind.i64.wrap (b0.Hi - b0.Lo)) * (IntKind.i64.wrap (x3 + 1))))))) ?_
          exact zk (Z1g ((IntKind.i64.wrap ((IntKind.i64.wrap (b0.Lo * x3)) + (IntKind.i64.wrap ((IntKind.i64.wrap (b0.Hi - b0.Lo)) * (IntKind.i64.wrap (x3 + 1))))))) (b0) z1d z12)
        ·exact zk (Z14 (x3))
      ·refine ze ?_
       refine zo (bv (b0.Kind == 8)) ?_
       refine za ((b0.Kind == 8)) ?_ ?_
       ·refine ze ?_
        refine zo (iv (IntKind.i64.wrap (x3 + 2))) ?_
        exact zk (Z14 ((IntKind.i64.wrap (x3 + 2))))
       ·refine ze ?_
        refine zo (bv (b0.Kind == 4)) ?_
        refine za ((b0.Kind == 4)) ?_ ?_
        ·refine ze ?_
         refine ze ?_
         refine zo (.ptr 0 1) ?_
         refine zo (iv b0.Lo) ?_
         refine zo (iv (IntKind.i64.wrap (b0.Lo * x3))) ?_
         refine ze ?_
         refine zo (.ptr 0 2) ?_
         refine zo (iv b0.Hi) ?_
         refine zo (bv (decide (b0.Hi < 0))) ?_
         refine za ((decide (b0.Hi < 0))) ?_ ?_
         ·refine ze ?_
          refine zo (iv (IntKind.i64.wrap (x3 + 4))) ?_
          refine zo (iv (IntKind.i64.wrap ((IntKind.i64.wrap (b0.Lo * x3)) + (IntKind.i64.wrap (x3 + 4))))) ?_
          exact zk (Z1g ((IntKind.i64.wrap ((IntKind.i64.wrap (b0.Lo * x3)) + (IntKind.i64.wrap (x3 + 4))))) (b0) z1d z12)
         ·refine ze ?_
          refine zo (.ptr 0 2) ?_
          refine zo (iv b0.Hi) ?_
          refine zo (.ptr 0 1) ?_
          refine zo (iv b0.Lo) ?_
          refine zo (iv (IntKind.i64.wrap (b0.Hi - b0.Lo))) ?_
          refine zo (iv (IntKind.i64.wrap (x3 + 1))) ?_
          refine zo (iv (IntKind.i64.wrap ((IntKind.i64.wrap (b0.Hi - b0.Lo)) * (IntKind.i64.wrap (x3 + 1))))) ?_
          refine zo (iv (IntKind.i64.wrap ((IntKind.i64.wrap (b0.Lo * x3)) + (IntKind.i64.wrap ((IntKind.i64.wrap (b0.Hi - b0.Lo)) * (IntKind.i64.wrap (x3 + 1))))))) ?_
          exact zk (Z1g ((IntKind.i64.wrap ((IntKind.i64.wrap (b0.Lo * x3)) + (IntKind.i64.wrap ((IntKind.i64.wrap (b0.Hi - b0.Lo)) * (IntKind.i64.wrap (x3 + 1))))))) (b0) z1d z12)
        ·exact zk (Z14 (x3))
noncomputable def Z4R (x3 : Int) (x8 : List Z3) (x9 : Int) (x10 : Int) (b0 : Z3) : Option (Int) :=
 if ((decide (x10 < x9))) = true then
 (Z6n x3 x8 x9 x10 b0)
 else
 (Z1N x3 b0)
theorem ZcP (x3 : Int) (x8 : List Z3) (x9 : Int) (x10 : Int) (b0 : Z3) (ox8 : Own) (z1d : Own) (z12 : Own) : Sim (Z3h) (Z4R x3 x8 x9 x10 b0) (ZbY 0 (.ptr 0 0) (iv x3) (.p (.lst ox8 (x8.map ZD))) (iv x9) (iv x10) [(Zo b0 z1d z12)]) := by
 unfold Z4R
 refine zf (ZhV ..) ?_
 refine ze ?_
 refine zo (bv (decide (x10 < x9))) ?_
 refine za ((decide (x10 < x9))) ?_ ?_
 ·exact zk (ZcS (x3) (x8) (x9) (x10) (b0) ox8 z1d z12)
 ·exact zk (ZcO (x3) (b0) z1d z12)
theorem Z6j (x3 : Int) (x8 : List Z3) (x9 : Int) (x10 : Int) (b0 : Z3) {r} (h : Z4R x3 x8 x9 x10 b0 = some r) : Z3z x3 x8 x9 x10 b0 = some r :=
 pick_of (fun _ _ ha hb => RRun.uniq (Zc3) (ha .ex .ex .ex) (hb .ex .ex .ex)) (fun ox8 z1d z12 => ZcP x3 x8 x9 x10 b0 ox8 z1d z12 r h)
noncomputable def Z6V  : Option (Int) :=
 some (0)
theorem ZcB  : Sim (Z6d) (Z6V) (Zgq 0  []) := by
 unfold Z6V
 refine zf (Zj7 ..) ?_
 refine ze ?_
 exact zr ((iv 0), []) ⟨_, rfl⟩
noncomputable def Z8B (x0 : ZC) : Option (Int) :=
 (Z2W x0.Root).bind fun r1 =>
 if ((!r1)) = true then
 (some (27))
 else
 ((Z2g x0.Root).bind fun r2 =>
 if ((decide (2000 < (IntKind.i64.wrap (r2 + 3))))) = true then
 (some (28))
 else
 (Z6V))
theorem ZdB (x0 : ZC) (z2B : Own) (z2n : Own) : Sim (Z6d) (Z8B x0) (EE 26 [(.p (.agg (Z1j x0 z2B z2n)))] []) := by
 unfold Z8B
 refine zf (ZkL ..) ?_
 refine ze ?_
 refine zx (.ptr 0 0) [(Zw x0 z2B z2n)] ?_
 refine ze ?_
 refine zo (.ptr 0 0) ?_
 refine zo (.p (.agg (Zz x0.Root (shrO z2B) (shrO z2n)))) ?_
 refine zi fun r1 hr1 => ?_
 obtain ⟨qr1, er1, exr1, rfl⟩ := Za5 (x0.Root) .sh .sh r1 hr1
 refine zc [] (bv r1) [(Zw x0 z2B z2n)] er1 ?_
 refine zo (bv (!r1)) ?_
 refine za ((!r1)) ?_ ?_
 ·refine ze ?_
  exact zr ((iv 27), [(Zw x0 z2B z2n)]) ⟨_, rfl⟩
 ·refine ze ?_
  refine zo (.ptr 0 0) ?_
  refine zo (.p (.agg (Zz x0.Root (shrO z2B) (shrO z2n)))) ?_
  refine zi fun r2 hr2 => ?_
  obtain ⟨qr2, er2, exr2, rfl⟩ := Z7e (x0.Root) .sh .sh r2 hr2
  refine zc [] (iv r2) [(Zw x0 z2B z2n)] er2 ?_
  refine zo (iv (IntKind.i64.wrap (r2 + 3))) ?_
  refine zo (bv (decide (2000 < (IntKind.i64.wrap (r2 + 3))))) ?_
  refine za ((decide (2000 < (IntKind.i64.wrap (r2 + 3))))) ?_ ?_
  ·refine ze ?_
   exact zr ((iv 28), [(Zw x0 z2B z2n)]) ⟨_, rfl⟩
  ·exact zk (ZcB )
theorem ZdK (x0 : ZC) {r} (h : Z8B x0 = some r) : Z4Z x0 = some r :=
 pick_of (fun _ _ ha hb => RRun.uniq (Ze5) (ha .ex .ex) (hb .ex .ex)) (fun z2B z2n => ZdB x0 z2B z2n r h)
noncomputable def Z5o  : Option (Bool) :=
 some (false)
theorem Z8t  : Sim (Z49) (Z5o) (Zek 0  []) := by
 unfold Z5o
 refine zf (ZiS ..) ?_
 refine ze ?_
 exact zr ((bv false), []) ⟨_, rfl⟩
noncomputable def Z2u (b0 : Z3) : Option (Bool) :=
 (Z3w b0.Kids).bind fun r1 =>
 some ((!r1))
theorem Z6q (b0 : Z3) (z1d : Own) (z12 : Own) : Sim (Z49) (Z2u b0) (ZcY 0 (.ptr 0 0) [(Zo b0 z1d z12)]) := by
 unfold Z2u
 refine zf (ZiU ..) ?_
 refine ze ?_
 refine zo (.ptr 0 6) ?_
 refine zo (.p (.lst (shrO z12) (b0.Kids.map ZD))) ?_
 refine zi fun r1 hr1 => ?_
 obtain ⟨qr1, er1, exr1, rfl⟩ := Z8v (b0.Kids) .sh r1 hr1
 refine zc [] (bv r1) [(Zo b0 z1d z12)] er1 ?_
 refine zo (bv (!r1)) ?_
 exact zr ((bv (!r1)), [(Zo b0 z1d z12)]) ⟨_, rfl⟩
noncomputable def Z5n (b0 : Z3) : Option (Bool) :=
 (lget b0.Kids 0).bind fun a1 =>
 (Z1s a1).bind fun r2 =>
 if ((decide (r2.2 < 0))) = true then
 (Z5o)
 else
 (if ((decide (32 < r2.2))) = true then
 (Z5o)
 else
 (Z2u b0))
theorem Zbx (b0 : Z3) (z1d : Own) (z12 : Own) : Sim (Z49) (Z5n b0) (ZfR 0 (.ptr 0 0) [(Zo b0 z1d z12)]) := by
 unfold Z5n
 refine zf (Zj4 ..) ?_
 refine ze ?_
 refine zo (.ptr 0 6) ?_
 refine zo (.p (.lst (shrO z12) (b0.Kids.map ZD))) ?_
 refine zi fun a1 ha1 => ?_
 refine zo (.cptr (Zz a1 .sh .sh)) ?_ (Eq.trans (by kernel_rfl) (xidx_of (o := (shrO z12)) (k := .i64) (n := 7) (e := ZD) (cs := Z1T) Z3R (fun _ => rfl) (by decide) ha1))
 refine zo (.p (.agg (Zz a1 .sh .sh))) ?_
 refine zi fun r2 hr2 => ?_
 obtain ⟨qr2, er2, exr2, rfl⟩ := Z3O (a1) .sh .sh r2 hr2
 refine zc [] (.p (.tup [(.v (.int .i64 r2.1)), (.v (.int .i64 r2.2))])) [(Zo b0 z1d z12)] er2 ?_
 refine zo (iv r2.1) ?_
 refine zo (iv r2.2) ?_
 refine ze ?_
 refine zo (bv (decide (r2.2 < 0))) ?_
 refine za ((decide (r2.2 < 0))) ?_ ?_
 ·exact zk (Z8t )
 ·refine zo (bv (decide (32 < r2.2))) ?_
  refine za ((decide (32 < r2.2))) ?_ ?_
  ·exact zk (Z8t )
  ·exact zk (Z6q (b0) z1d z12)
noncomputable def Z7h (x0 : Z3) : Option (Bool) :=
 if ((x0.Kind == 7)) = true then
 (if ((decide (2 ≤ x0.Mode))) = true then
 (Z5n x0)
 else
 (Z2u x0))
 else
 (Z2u x0)
theorem ZcJ (x0 : Z3) (z1c : Own) (zY : Own) : Sim (Z49) (Z7h x0) (EE 34 [(.p (.agg (Zz x0 z1c zY)))] []) := by
 unfold Z7h
 refine zf (Zjy ..) ?_
 refine ze ?_
 refine zx (.ptr 0 0) [(Zo x0 z1c zY)] ?_
 refine ze ?_
 refine zo (.ptr 0 0) ?_
 refine zo (iv x0.Kind) ?_
 refine zo (bv (x0.Kind == 7)) ?_
 refine za ((x0.Kind == 7)) ?_ ?_
 ·refine zo (.ptr 0 3) ?_
  refine zo (iv x0.Mode) ?_
  refine zo (bv (decide (2 ≤ x0.Mode))) ?_
  refine za ((decide (2 ≤ x0.Mode))) ?_ ?_
  ·exact zk (Zbx (x0) z1c zY)
  ·exact zk (Z6q (x0) z1c zY)
 ·exact zk (Z6q (x0) z1c zY)
theorem Zd3 (x0 : Z3) {r} (h : Z7h x0 = some r) : Z2W x0 = some r :=
 pick_of (fun _ _ ha hb => RRun.uniq (ZdD) (ha .ex .ex) (hb .ex .ex)) (fun z1c zY => ZcJ x0 z1c zY r h)
noncomputable def Z3x (x0 : List Z3) : Option (Bool) :=
 (Z4a x0).bind fun r1 =>
 some ((decide (0 ≤ r1)))
theorem Z8b (x0 : List Z3) (ox0 : Own) : Sim (Z2U) (Z3x x0) (EE 39 [(.p (.lst ox0 (x0.map ZD))), (.clo 40 [] [])] []) := by
 unfold Z3x
 refine zf (ZkM ..) ?_
 refine ze ?_
 refine ze ?_
 refine zi fun r1 hr1 => ?_
 obtain ⟨qr1, er1, exr1, rfl⟩ := Z9b (x0) .sh r1 hr1
 refine zc [] (iv r1) [] er1 ?_
 refine zo (bv (decide (0 ≤ r1))) ?_
 exact zr ((bv (decide (0 ≤ r1))), []) ⟨_, rfl⟩
theorem Z8o (x0 : List Z3) {r} (h : Z3x x0 = some r) : Z3w x0 = some r :=
 pick_of (fun _ _ ha hb => RRun.uniq (Z8R) (ha .ex) (hb .ex)) (fun ox0 => Z8b x0 ox0 r h)
noncomputable def Z4c (x0 : List Z3) : Option (Int) :=
 Z2T x0 ((x0.length : Int)) 0
theorem Z97 (x0 : List Z3) (ox0 : Own) : Sim (Z1t) (Z4c x0) (EE 44 [(.p (.lst ox0 (x0.map ZD))), (.clo 40 [] [])] []) := by
 unfold Z4c
 refine zf (Zkh ..) ?_
 refine ze ?_
 refine ze ?_
 refine zo (iv (x0.length : Int)) ?_ (Eq.trans (by kernel_rfl) (xlen_of (P := PP) (t := 25) (d := 27) (by kernel_rfl) ZD (shrO ox0) x0))
 exact zk (Z5T (x0) ((x0.length : Int)) (0) ox0)
theorem Z9l (x0 : List Z3) {r} (h : Z4c x0 = some r) : Z4a x0 = some r :=
 pick_of (fun _ _ ha hb => RRun.uniq (Z6v) (ha .ex) (hb .ex)) (fun ox0 => Z97 x0 ox0 r h)
noncomputable def Z3u (x0 : List Z3) (x7 : Int) (x8 : Int) : Option (Int) :=
 Z2T x0 x7 ((IntKind.i64.wrap (x8 + 1)))
theorem Z8j (x0 : List Z3) (x7 : Int) (x8 : Int) (ox0 : Own) : Sim (Z1t) (Z3u x0 x7 x8) (ZfB 0 (.p (.lst ox0 (x0.map ZD))) (.clo 40 [] []) (iv x7) (iv x8) []) := by
 unfold Z3u
 refine zf (ZhX ..) ?_
 refine ze ?_
 refine zo (iv (IntKind.i64.wrap (x8 + 1))) ?_
 exact zk (Z5T (x0) (x7) ((IntKind.i64.wrap (x8 + 1))) ox0)
noncomputable def Z2Y (x0 : List Z3) (x7 : Int) (x8 : Int) : Option (Int) :=
 (lget x0 x8).bind fun a1 =>
 (Z6y a1).bind fun r2 =>
 if (r2) = true then
 (some (x8))
 else
 (Z3u x0 x7 x8)
theorem Z8a (x0 : List Z3) (x7 : Int) (x8 : Int) (ox0 : Own) : Sim (Z1t) (Z2Y x0 x7 x8) (Zgv 0 (.p (.lst ox0 (x0.map ZD))) (.clo 40 [] []) (iv x7) (iv x8) []) := by
 unfold Z2Y
 refine zf (Zih ..) ?_
 refine ze ?_
 refine ze ?_
 refine zi fun a1 ha1 => ?_
 refine zo (.cptr (Zz a1 .sh .sh)) ?_ (Eq.trans (by kernel_rfl) (xidx_of (o := (shrO ox0)) (k := .i64) (n := 7) (e := ZD) (cs := Z1T) Z3R (fun _ => rfl) (by decide) ha1))
 refine zo (.p (.agg (Zz a1 .sh .sh))) ?_
 refine zi fun r2 hr2 => ?_
 obtain ⟨qr2, er2, exr2, rfl⟩ := Zcs (a1) .sh .sh r2 hr2
 refine zv [] (bv r2) [] er2 ?_
 refine za (r2) ?_ ?_
 ·refine ze ?_
  exact zr ((iv x8), []) ⟨_, rfl⟩
 ·exact zk (Z8j (x0) (x7) (x8) ox0)
noncomputable def Z4Q  : Option (Int) :=
 some ((-1))
theorem Z8c  : Sim (Z1t) (Z4Q) (Zgk 0  []) := by
 unfold Z4Q
 refine zf (Ziy ..) ?_
 refine ze ?_
 exact zr ((iv (-1)), []) ⟨_, rfl⟩
noncomputable def Z2m (x0 : List Z3) (x7 : Int) (x8 : Int) : Option (Int) :=
 if ((decide (x8 < x7))) = true then
 (Z2Y x0 x7 x8)
 else
 (Z4Q)
theorem Z89 (x0 : List Z3) (x7 : Int) (x8 : Int) (ox0 : Own) : Sim (Z1t) (Z2m x0 x7 x8) (ZbO 0 (.p (.lst ox0 (x0.map ZD))) (.clo 40 [] []) (iv x7) (iv x8) []) := by
 unfold Z2m
 refine zf (ZiR ..) ?_
 refine ze ?_
 refine zo (bv (decide (x8 < x7))) ?_
 refine za ((decide (x8 < x7))) ?_ ?_
 ·exact zk (Z8a (x0) (x7) (x8) ox0)
 ·exact zk (Z8c )
theorem Z4i (x0 : List Z3) (x7 : Int) (x8 : Int) {r} (h : Z2m x0 x7 x8 = some r) : Z2T x0 x7 x8 = some r :=
 pick_of (fun _ _ ha hb => RRun.uniq (Z6v) (ha .ex) (hb .ex)) (fun ox0 => Z89 x0 x7 x8 ox0 r h)
noncomputable def Z6C (x0 : Z3) : Option (Bool) :=
 (Z2W x0).bind fun r1 =>
 some ((!r1))
theorem Zcl (x0 : Z3) (z1c : Own) (zY : Own) : Sim (Z5H) (Z6C x0) (EE 40 [(.p (.agg (Zz x0 z1c zY)))] []) := by
 unfold Z6C
 refine zf (Zl4 ..) ?_
 refine ze ?_
 refine zx (.ptr 0 0) [(Zo x0 z1c zY)] ?_
 refine ze ?_
 refine zo (.p (.agg (Zz x0 (shrO z1c) (shrO zY)))) ?_
 refine zi fun r1 hr1 => ?_
 obtain ⟨qr1, er1, exr1, rfl⟩ := Za5 (x0) .sh .sh r1 hr1
 refine zc [] (bv r1) [(Zo x0 z1c zY)] er1 ?_
 refine zo (bv (!r1)) ?_
 exact zr ((bv (!r1)), [(Zo x0 z1c zY)]) ⟨_, rfl⟩
theorem Zcz (x0 : Z3) {r} (h : Z6C x0 = some r) : Z6y x0 = some r :=
 pick_of (fun _ _ ha hb => RRun.uniq (ZcN) (ha .ex .ex) (hb .ex .ex)) (fun z1c zY => Zcl x0 z1c zY r h)
end Go.Proofs.YtadodmjdkphddaaDoor.N2
end
