/- More of the functions' typed texts. No condition. -/
import Derived.Test.YtadodmjdkphddaaDoorTypA

section
set_option linter.unusedSimpArgs false
set_option linter.unusedVariables false
namespace Go.Proofs.YtadodmjdkphddaaDoor.N2
open Go Go.Abs
set_option linter.unusedVariables false
set_option maxRecDepth 100000
noncomputable def Z5d (x0 : List Zc) (z12 : List Zc) : Option ((List Zc)) :=
 (Z7S z12 x0).bind fun r1 =>
 some (r1.1)
theorem Za6 (x0 : List Zc) (z12 : List Zc) (ox0 : Own) (z9H : Own) : Sim (Z4i) (Z5d x0 z12) (EE 58 [(.p (.lst ox0 (x0.map Zz))), (.ptr 0 0)] [[(.p (.lst z9H (z12.map Zz)))]]) := by
 unfold Z5d
 refine zf (ZjO ..) ?_
 refine ze ?_
 refine zo (.p (.lst (shrO z9H) (z12.map Zz))) ?_
 refine zi fun r1 hr1 => ?_
 obtain ⟨qr1, er1, exr1, rfl⟩ := Zdp (z12) (x0) .sh .sh r1 hr1
 refine zc [] (.p (.tup [(.lst .sh (r1.1.map Zz)), (.v (.int .i64 r1.2))])) [[(.p (.lst z9H (z12.map Zz)))]] er1 ?_
 refine zo (.p (.lst .sh (r1.1.map Zz))) ?_
 refine zo (iv r1.2) ?_
 refine zt [[(.p (.lst .sh (r1.1.map Zz)))]] ?_
 exact zr ((.p (.tup [])), [[(.p (.lst .sh (r1.1.map Zz)))]]) ⟨.sh, _, rfl⟩
theorem Zah (x0 : List Zc) (z12 : List Zc) {r} (h : Z5d x0 z12 = some r) : Z4f x0 z12 = some r :=
 pick_of (fun _ _ ha hb => RRun.uniq (ZaH) (ha .ex .ex) (hb .ex .ex)) (fun ox0 z9H => Za6 x0 z12 ox0 z9H r h)
noncomputable def Z6s  : Option ((List Zc) × Int) :=
 some (([] : List Zc), 10)
theorem Z8L  : Sim (Z53) (Z6s) (Ze6 0  []) := by
 unfold Z6s
 refine zf (Zi9 ..) ?_
 refine ze ?_
 exact zr ((.p (.tup [(.lst .sh []), (.v (.int .i64 10))])), []) ⟨_, rfl⟩
noncomputable def Z6t (x0 : List Zc) (x1 : List Zc) : Option ((List Zc) × Int) :=
 (Z6M (([x0, x1] : List (List Zc)))).bind fun r1 =>
 (Z7G r1).bind fun r2 =>
 some (r2, 0)
theorem ZbJ (x0 : List Zc) (x1 : List Zc) (ox0 : Own) (ox1 : Own) : Sim (Z53) (Z6t x0 x1) (ZfT 0 (.p (.lst ox0 (x0.map Zz))) (.p (.lst ox1 (x1.map Zz))) []) := by
 unfold Z6t
 refine zf (ZhI ..) ?_
 refine ze ?_
 refine zo (.p (.lst .ex (([x0, x1] : List (List Zc)).map (eL Zz)))) ?_
 refine zi fun r1 hr1 => ?_
 obtain ⟨qr1, er1, exr1, rfl⟩ := ZaL (([x0, x1] : List (List Zc))) .sh r1 hr1
 refine zc [] (.p (.lst .sh (r1.map Zz))) [] er1 ?_
 refine zi fun r2 hr2 => ?_
 obtain ⟨qr2, er2, exr2, rfl⟩ := Za7 (r1) .sh r2 hr2
 refine zc [] (.p (.lst .sh (r2.map Zz))) [] er2 ?_
 exact zr ((.p (.tup [(.lst .sh (r2.map Zz)), (.v (.int .i64 0))])), []) ⟨_, rfl⟩
noncomputable def Z7I (x0 : List Zc) (x1 : List Zc) : Option ((List Zc) × Int) :=
 (Z4w x0).bind fun r1 =>
 if ((!r1)) = true then
 (Z6s)
 else
 ((Z4w x1).bind fun r2 =>
 if ((!r2)) = true then
 (Z6s)
 else
 (Z6t x0 x1))
theorem ZcM (x0 : List Zc) (x1 : List Zc) (ox0 : Own) (ox1 : Own) : Sim (Z53) (Z7I x0 x1) (EE 59 [(.p (.lst ox0 (x0.map Zz))), (.p (.lst ox1 (x1.map Zz)))] []) := by
 unfold Z7I
 refine zf (ZkC ..) ?_
 refine ze ?_
 refine ze ?_
 refine zi fun r1 hr1 => ?_
 obtain ⟨qr1, er1, exr1, rfl⟩ := Z6z (x0) .sh r1 hr1
 refine zc [] (bv r1) [] er1 ?_
 refine zo (bv (!r1)) ?_
 refine za ((!r1)) ?_ ?_
 ·exact zk (Z8L )
 ·refine zi fun r2 hr2 => ?_
  obtain ⟨qr2, er2, exr2, rfl⟩ := Z6z (x1) .sh r2 hr2
  refine zc [] (bv r2) [] er2 ?_
  refine zo (bv (!r2)) ?_
  refine za ((!r2)) ?_ ?_
  ·exact zk (Z8L )
  ·exact zk (ZbJ (x0) (x1) ox0 ox1)
theorem Zdt (x0 : List Zc) (x1 : List Zc) {r} (h : Z7I x0 x1 = some r) : Z7S x0 x1 = some r :=
 pick_of (fun _ _ ha hb => RRun.uniq (ZdB) (ha .ex .ex) (hb .ex .ex)) (fun ox0 ox1 => ZcM x0 x1 ox0 ox1 r h)
noncomputable def Z3P (zu : Int) (zb : Int) (zh : Int) (zj : List Zv) (z2 : Int) (z6 : Int) (z1a : Int) (z1I : Int) (z1H : Int) (z1d : Int) (z1o : Int) (z1p : List Zc) (b2 : Z7) : Option (Z7 × Bool × Int × Int × Int × (List Zv) × Int × Int) :=
 some ((Z7.mk z1a z1I z1H z1d z1o z1p ([b2] : List Z7)), (z1a != 7), zu, zb, zh, zj, z2, z6)
theorem Z9u (zn : List Int) (zu : Int) (zb : Int) (zh : Int) (zj : List Zv) (z2 : Int) (z6 : Int) (z1a : Int) (z1I : Int) (z1H : Int) (z1d : Int) (z1o : Int) (z1p : List Zc) (z26 : List Z7) (b2 : Z7) (zp : Own) (zd : Own) (zE : Own) (zB : Own) (z1L : Own) (z1B : Own) (zy : okApp zd = true) (zS : okApp zE = true) (zL : okApp zB = true) : Sim (Z2d zn zp) (Z3P zu zb zh zj z2 z6 z1a z1I z1H z1d z1o z1p b2) (Zew 1 (.ptr 1 0) (.ptr 2 0) [(Zk (Zm.mk zn zu zb zh zj (Zl.mk z2 z6)) zp zd), (Zq (Z7.mk z1a z1I z1H z1d z1o z1p z26) zE zB), (Zq b2 z1L z1B)]) := by
 unfold Z3P
 refine zf (ZgO ..) ?_
 refine ze ?_
 refine zo (.p (.agg (ZC b2 (shrO z1L) (shrO z1B)))) ?_
 refine zo (.p (.lst .ex (([b2] : List Z7).map ZG))) ?_ (Eq.trans (b := some (.p (.lst .ex [.agg (Z1V b2)]))) (by kernel_rfl) (by simp only [List.map_cons, List.map_nil, Z3c]))
 refine zo (.ptr 1 6) ?_
 refine zt [(Zk (Zm.mk zn zu zb zh zj (Zl.mk z2 z6)) zp zd), (Zq (Z7.mk z1a z1I z1H z1d z1o z1p ([b2] : List Z7)) zE .ex), (Zq b2 z1L z1B)] ?_
 refine ze ?_
 refine zo (.p (.agg (ZC (Z7.mk z1a z1I z1H z1d z1o z1p ([b2] : List Z7)) (shrO zE) .ex))) ?_
 refine zo (.ptr 1 0) ?_
 refine zo (iv z1a) ?_
 refine zo (bv (z1a != 7)) ?_
 refine zt [(Zk (Zm.mk zn zu zb zh zj (Zl.mk z2 z6)) zp zd), (Zq (Z7.mk z1a z1I z1H z1d z1o z1p ([b2] : List Z7)) (shrO zE) .ex), (Zq b2 z1L z1B)] ?_
 exact zr ((.p (.tup [(.agg (ZC (Z7.mk z1a z1I z1H z1d z1o z1p ([b2] : List Z7)) .sh .sh)), (.v (.bool (z1a != 7)))])), [(Zk (Zm.mk zn zu zb zh zj (Zl.mk z2 z6)) zp zd), (Zq (Z7.mk z1a z1I z1H z1d z1o z1p ([b2] : List Z7)) (shrO zE) .ex), (Zq b2 z1L z1B)]) ⟨zd, _, zy, rfl⟩
noncomputable def Z1Z (zu : Int) (zb : Int) (zh : Int) (zj : List Zv) (z2 : Int) (z6 : Int) (z1a : Int) (z1I : Int) (z1H : Int) (z1d : Int) (z1o : Int) (z1p : List Zc) (b2 : Z7) : Option (Z7 × Bool × Int × Int × Int × (List Zv) × Int × Int) :=
 if ((z1a == 0)) = true then
 (some (b2, true, zu, zb, (IntKind.i64.wrap (zh - 1)), zj, z2, z6))
 else
 (Z3P zu zb ((IntKind.i64.wrap (zh - 1))) zj z2 z6 z1a z1I z1H z1d z1o z1p b2)
theorem Z5a (zn : List Int) (zu : Int) (zb : Int) (zh : Int) (zj : List Zv) (z2 : Int) (z6 : Int) (z1a : Int) (z1I : Int) (z1H : Int) (z1d : Int) (z1o : Int) (z1p : List Zc) (z26 : List Z7) (b2 : Z7) (zp : Own) (zd : Own) (zE : Own) (zB : Own) (z1L : Own) (z1B : Own) (zy : okApp zd = true) (zS : okApp zE = true) (zL : okApp zB = true) : Sim (Z2d zn zp) (Z1Z zu zb zh zj z2 z6 z1a z1I z1H z1d z1o z1p b2) (Zcb 1 (.ptr 0 0) (.ptr 1 0) (.ptr 2 0) [(Zk (Zm.mk zn zu zb zh zj (Zl.mk z2 z6)) zp zd), (Zq (Z7.mk z1a z1I z1H z1d z1o z1p z26) zE zB), (Zq b2 z1L z1B)]) := by
 unfold Z1Z
 refine zf (Zhj ..) ?_
 refine ze ?_
 refine zo (.ptr 0 0) ?_
 refine zo (.ptr 0 3) ?_
 refine zo (iv zh) ?_
 refine zo (iv (IntKind.i64.wrap (zh - 1))) ?_
 refine zo (.ptr 0 0) ?_
 refine zo (.ptr 0 3) ?_
 refine zt [(Zk (Zm.mk zn zu zb (IntKind.i64.wrap (zh - 1)) zj (Zl.mk z2 z6)) zp zd), (Zq (Z7.mk z1a z1I z1H z1d z1o z1p z26) zE zB), (Zq b2 z1L z1B)] ?_
 refine ze ?_
 refine zo (.ptr 1 0) ?_
 refine zo (iv z1a) ?_
 refine zo (bv (z1a == 0)) ?_
 refine za ((z1a == 0)) ?_ ?_
 ·refine ze ?_
  refine zo (.p (.agg (ZC b2 (shrO z1L) (shrO z1B)))) ?_
  refine zt [(Zk (Zm.mk zn zu zb (IntKind.i64.wrap (zh - 1)) zj (Zl.mk z2 z6)) zp zd), (Zq b2 (shrO z1L) (shrO z1B)), (Zq b2 z1L z1B)] ?_
  exact zr ((.p (.tup [(.agg (ZC b2 .sh .sh)), (.v (.bool true))])), [(Zk (Zm.mk zn zu zb (IntKind.i64.wrap (zh - 1)) zj (Zl.mk z2 z6)) zp zd), (Zq b2 (shrO z1L) (shrO z1B)), (Zq b2 z1L z1B)]) ⟨zd, _, zy, rfl⟩
 ·exact zk (Z9u (zn) (zu) (zb) ((IntKind.i64.wrap (zh - 1))) (zj) (z2) (z6) (z1a) (z1I) (z1H) (z1d) (z1o) (z1p) (z26) (b2) zp zd zE zB z1L z1B zy zS zL)
noncomputable def Z4I (x1 : Int) (zn : List Int) (zb : Int) (zh : Int) (zj : List Zv) (z2 : Int) (z6 : Int) (z1a : Int) (z1I : Int) (z1H : Int) (z1d : Int) (z1o : Int) (z1p : List Zc) (b2 : Z7) : Option (Z7 × Bool × Int × Int × Int × (List Zv) × Int × Int) :=
 (ZV 20 x1 zn z2 z6).bind fun r1 =>
 Z1Z r1.1 zb zh zj r1.2.1 r1.2.2 z1a z1I z1H z1d z1o z1p b2
theorem Z9z (x1 : Int) (zn : List Int) (zu : Int) (zb : Int) (zh : Int) (zj : List Zv) (z2 : Int) (z6 : Int) (z1a : Int) (z1I : Int) (z1H : Int) (z1d : Int) (z1o : Int) (z1p : List Zc) (z26 : List Z7) (b2 : Z7) (zp : Own) (zd : Own) (zE : Own) (zB : Own) (z1L : Own) (z1B : Own) (zy : okApp zd = true) (zS : okApp zE = true) (zL : okApp zB = true) : Sim (Z2d zn zp) (Z4I x1 zn zb zh zj z2 z6 z1a z1I z1H z1d z1o z1p b2) (Zer 1 (.ptr 0 0) (iv x1) (.ptr 1 0) (.ptr 2 0) [(Zk (Zm.mk zn zu zb zh zj (Zl.mk z2 z6)) zp zd), (Zq (Z7.mk z1a z1I z1H z1d z1o z1p z26) zE zB), (Zq b2 z1L z1B)]) := by
 unfold Z4I
 refine zf (ZgV ..) ?_
 refine ze ?_
 refine zi fun r1 hr1 => ?_
 obtain ⟨qr1, er1, exr1, rfl⟩ := ZY (20) (x1) (zn) (zu) (zb) (zh) (zj) (z2) (z6) zp zd zy r1 hr1
 refine zc [0] (.p (.tup [])) [(Zk (Zm.mk zn r1.1 zb zh zj (Zl.mk r1.2.1 r1.2.2)) zp zd), (Zq (Z7.mk z1a z1I z1H z1d z1o z1p z26) zE zB), (Zq b2 z1L z1B)] er1 ?_
 exact zk (Z5a (zn) (r1.1) (zb) (zh) (zj) (r1.2.1) (r1.2.2) (z1a) (z1I) (z1H) (z1d) (z1o) (z1p) (z26) (b2) zp zd zE zB z1L z1B zy zS zL)
noncomputable def Z1z (x1 : Int) (zn : List Int) (zu : Int) (zb : Int) (zh : Int) (zj : List Zv) (z2 : Int) (z6 : Int) (z1a : Int) (z1I : Int) (z1H : Int) (z1d : Int) (z1o : Int) (z1p : List Zc) : Option (Z7 × Bool × Int × Int × Int × (List Zv) × Int × Int) :=
 (Z2Y zn zu zb zh zj z2 z6).bind fun r1 =>
 if ((r1.2.2.2.2.2.1 == 0)) = true then
 ((Z19 ((ByteArray.mk #[41])) zn r1.2.1).bind fun r2 =>
 if ((!r2.1)) = true then
 (Z4I x1 zn r1.2.2.1 r1.2.2.2.1 r1.2.2.2.2.1 r1.2.2.2.2.2.1 r1.2.2.2.2.2.2 z1a z1I z1H z1d z1o z1p r1.1)
 else
 (Z1Z r2.2 r1.2.2.1 r1.2.2.2.1 r1.2.2.2.2.1 r1.2.2.2.2.2.1 r1.2.2.2.2.2.2 z1a z1I z1H z1d z1o z1p r1.1))
 else
 (Z1Z r1.2.1 r1.2.2.1 r1.2.2.2.1 r1.2.2.2.2.1 r1.2.2.2.2.2.1 r1.2.2.2.2.2.2 z1a z1I z1H z1d z1o z1p r1.1)
theorem Z2y (x1 : Int) (zn : List Int) (zu : Int) (zb : Int) (zh : Int) (zj : List Zv) (z2 : Int) (z6 : Int) (z1a : Int) (z1I : Int) (z1H : Int) (z1d : Int) (z1o : Int) (z1p : List Zc) (z26 : List Z7) (zp : Own) (zd : Own) (zE : Own) (zB : Own) (zy : okApp zd = true) (zS : okApp zE = true) (zL : okApp zB = true) : Sim (Z2d zn zp) (Z1z x1 zn zu zb zh zj z2 z6 z1a z1I z1H z1d z1o z1p) (Z8S 1 (.ptr 0 0) (iv x1) (.ptr 1 0) [(Zk (Zm.mk zn zu zb zh zj (Zl.mk z2 z6)) zp zd), (Zq (Z7.mk z1a z1I z1H z1d z1o z1p z26) zE zB)]) := by
 unfold Z1z
 refine zf (ZgC ..) ?_
 refine ze ?_
 refine zi fun r1 hr1 => ?_
 obtain ⟨qr1, er1, or1_0_4, exr1, hor1_0_4, rfl⟩ := Z8P (zn) (zu) (zb) (zh) (zj) (z2) (z6) zp zd zy r1 hr1
 refine zc [0] (.p (.agg (ZC r1.1 .sh .sh))) [(Zk (Zm.mk zn r1.2.1 r1.2.2.1 r1.2.2.2.1 r1.2.2.2.2.1 (Zl.mk r1.2.2.2.2.2.1 r1.2.2.2.2.2.2)) zp or1_0_4), (Zq (Z7.mk z1a z1I z1H z1d z1o z1p z26) zE zB)] er1 ?_
 refine zz (.ptr 2 0) [(Zk (Zm.mk zn r1.2.1 r1.2.2.1 r1.2.2.2.1 r1.2.2.2.2.1 (Zl.mk r1.2.2.2.2.2.1 r1.2.2.2.2.2.2)) zp or1_0_4), (Zq (Z7.mk z1a z1I z1H z1d z1o z1p z26) zE zB), (Zq (Z7.mk 0 0 0 0 0 ([] : List Zc) ([] : List Z7)) .nl .nl)] ?_
 refine zt [(Zk (Zm.mk zn r1.2.1 r1.2.2.1 r1.2.2.2.1 r1.2.2.2.2.1 (Zl.mk r1.2.2.2.2.2.1 r1.2.2.2.2.2.2)) zp or1_0_4), (Zq (Z7.mk z1a z1I z1H z1d z1o z1p z26) zE zB), (Zq r1.1 .sh .sh)] ?_
 refine ze ?_
 refine zo (.ptr 0 0) ?_
 refine zo (.ptr 0 5) ?_
 refine zo (.ptr 0 5) ?_
 refine zo (iv r1.2.2.2.2.2.1) ?_
 refine zo (bv (r1.2.2.2.2.2.1 == 0)) ?_
 refine za ((r1.2.2.2.2.2.1 == 0)) ?_ ?_
 ·refine zi fun r2 hr2 => ?_
  obtain ⟨qr2, er2, exr2, rfl⟩ := Z1e ((ByteArray.mk #[41])) (zn) (r1.2.1) (r1.2.2.1) (r1.2.2.2.1) (r1.2.2.2.2.1) (r1.2.2.2.2.2.1) (r1.2.2.2.2.2.2) zp or1_0_4 hor1_0_4 r2 hr2
  refine zc [0] (bv r2.1) [(Zk (Zm.mk zn r2.2 r1.2.2.1 r1.2.2.2.1 r1.2.2.2.2.1 (Zl.mk r1.2.2.2.2.2.1 r1.2.2.2.2.2.2)) zp or1_0_4), (Zq (Z7.mk z1a z1I z1H z1d z1o z1p z26) zE zB), (Zq r1.1 .sh .sh)] er2 ?_
  refine zo (bv (!r2.1)) ?_
  refine za ((!r2.1)) ?_ ?_
  ·exact zk (Z9z (x1) (zn) (r2.2) (r1.2.2.1) (r1.2.2.2.1) (r1.2.2.2.2.1) (r1.2.2.2.2.2.1) (r1.2.2.2.2.2.2) (z1a) (z1I) (z1H) (z1d) (z1o) (z1p) (z26) (r1.1) zp or1_0_4 zE zB .sh .sh hor1_0_4 zS zL)
  ·exact zk (Z5a (zn) (r2.2) (r1.2.2.1) (r1.2.2.2.1) (r1.2.2.2.2.1) (r1.2.2.2.2.2.1) (r1.2.2.2.2.2.2) (z1a) (z1I) (z1H) (z1d) (z1o) (z1p) (z26) (r1.1) zp or1_0_4 zE zB .sh .sh hor1_0_4 zS zL)
 ·exact zk (Z5a (zn) (r1.2.1) (r1.2.2.1) (r1.2.2.2.1) (r1.2.2.2.2.1) (r1.2.2.2.2.2.1) (r1.2.2.2.2.2.2) (z1a) (z1I) (z1H) (z1d) (z1o) (z1p) (z26) (r1.1) zp or1_0_4 zE zB .sh .sh hor1_0_4 zS zL)
noncomputable def Z43 (x1 : Int) (zn : List Int) (zu : Int) (zb : Int) (zh : Int) (zj : List Zv) (z2 : Int) (z6 : Int) (z1a : Int) (z1I : Int) (z1H : Int) (z1d : Int) (z1o : Int) (z1p : List Zc) : Option (Z7 × Bool × Int × Int × Int × (List Zv) × Int × Int) :=
 (Z8w).bind fun r1 =>
 (Z3I r1 zn zu).bind fun r2 =>
 if ((decide (0 ≤ r2.1))) = true then
 (Z1z x1 zn r2.2 zb ((IntKind.i64.wrap (zh + 1))) zj z2 z6 7 0 0 r2.1 0 (([] : List Zc)))
 else
 ((Z19 ((ByteArray.mk #[63, 62])) zn r2.2).bind fun r3 =>
 if (r3.1) = true then
 (Z1z x1 zn r3.2 zb ((IntKind.i64.wrap (zh + 1))) zj z2 z6 8 0 0 0 0 (([] : List Zc)))
 else
 ((Z19 ((ByteArray.mk #[63, 58])) zn r3.2).bind fun r4 =>
 if (r4.1) = true then
 (Z1z x1 zn r4.2 zb ((IntKind.i64.wrap (zh + 1))) zj z2 z6 z1a z1I z1H z1d z1o z1p)
 else
 ((Z1J ((Zm.mk zn r4.2 zb (IntKind.i64.wrap (zh + 1)) zj (Zl.mk z2 z6)))).bind fun r5 =>
 if ((r5 == 63)) = true then
 ((ZV 20 x1 zn z2 z6).bind fun r6 =>
 Z1z x1 zn r6.1 zb ((IntKind.i64.wrap (zh + 1))) zj r6.2.1 r6.2.2 z1a z1I z1H z1d z1o z1p)
 else
 (if ((zb == 9)) = true then
 ((ZV 24 x1 zn z2 z6).bind fun r7 =>
 Z1z x1 zn r7.1 zb ((IntKind.i64.wrap (zh + 1))) zj r7.2.1 r7.2.2 z1a z1I z1H z1d z1o z1p)
 else
 (Z1z x1 zn r4.2 ((IntKind.i64.wrap (zb + 1))) ((IntKind.i64.wrap (zh + 1))) zj z2 z6 5 0 0 0 ((IntKind.i64.wrap (zb + 1))) (([] : List Zc)))))))
theorem Z9P (x1 : Int) (zn : List Int) (zu : Int) (zb : Int) (zh : Int) (zj : List Zv) (z2 : Int) (z6 : Int) (z1a : Int) (z1I : Int) (z1H : Int) (z1d : Int) (z1o : Int) (z1p : List Zc) (z26 : List Z7) (zp : Own) (zd : Own) (zE : Own) (zB : Own) (zy : okApp zd = true) (zS : okApp zE = true) (zL : okApp zB = true) : Sim (Z2d zn zp) (Z43 x1 zn zu zb zh zj z2 z6 z1a z1I z1H z1d z1o z1p) (Zf2 1 (.ptr 0 0) (iv x1) (.ptr 1 0) [(Zk (Zm.mk zn zu zb zh zj (Zl.mk z2 z6)) zp zd), (Zq (Z7.mk z1a z1I z1H z1d z1o z1p z26) zE zB)]) := by
 unfold Z43
 refine zf (Zir ..) ?_
 refine ze ?_
 refine zo (.ptr 0 0) ?_
 refine zo (.ptr 0 3) ?_
 refine zo (iv zh) ?_
 refine zo (iv (IntKind.i64.wrap (zh + 1))) ?_
 refine zo (.ptr 0 0) ?_
 refine zo (.ptr 0 3) ?_
 refine zt [(Zk (Zm.mk zn zu zb (IntKind.i64.wrap (zh + 1)) zj (Zl.mk z2 z6)) zp zd), (Zq (Z7.mk z1a z1I z1H z1d z1o z1p z26) zE zB)] ?_
 refine ze ?_
 refine zi fun r1 hr1 => ?_
 obtain ⟨qr1, er1, exr1, rfl⟩ := Zdw  r1 hr1
 refine zc [] (.p (.lst .sh (r1.map eS))) [(Zk (Zm.mk zn zu zb (IntKind.i64.wrap (zh + 1)) zj (Zl.mk z2 z6)) zp zd), (Zq (Z7.mk z1a z1I z1H z1d z1o z1p z26) zE zB)] er1 ?_
 refine zi fun r2 hr2 => ?_
 obtain ⟨qr2, er2, exr2, rfl⟩ := Z8I (r1) (zn) (zu) (zb) ((IntKind.i64.wrap (zh + 1))) (zj) (z2) (z6) .sh zp zd zy r2 hr2
 refine zc [0] (iv r2.1) [(Zk (Zm.mk zn r2.2 zb (IntKind.i64.wrap (zh + 1)) zj (Zl.mk z2 z6)) zp zd), (Zq (Z7.mk z1a z1I z1H z1d z1o z1p z26) zE zB)] er2 ?_
 refine ze ?_
 refine zo (bv (decide (0 ≤ r2.1))) ?_
 refine za ((decide (0 ≤ r2.1))) ?_ ?_
 ·refine ze ?_
  refine zo (.p (.agg (ZC (Z7.mk 7 0 0 r2.1 0 ([] : List Zc) ([] : List Z7)) .nl .nl))) ?_
  refine zt [(Zk (Zm.mk zn r2.2 zb (IntKind.i64.wrap (zh + 1)) zj (Zl.mk z2 z6)) zp zd), (Zq (Z7.mk 7 0 0 r2.1 0 ([] : List Zc) ([] : List Z7)) .nl .nl)] ?_
  exact zk (Z2y (x1) (zn) (r2.2) (zb) ((IntKind.i64.wrap (zh + 1))) (zj) (z2) (z6) (7) (0) (0) (r2.1) (0) (([] : List Zc)) (([] : List Z7)) zp zd .nl .nl zy rfl rfl)
 ·refine ze ?_
  refine zi fun r3 hr3 => ?_
  obtain ⟨qr3, er3, exr3, rfl⟩ := Z1e ((ByteArray.mk #[63, 62])) (zn) (r2.2) (zb) ((IntKind.i64.wrap (zh + 1))) (zj) (z2) (z6) zp zd zy r3 hr3
  refine zc [0] (bv r3.1) [(Zk (Zm.mk zn r3.2 zb (IntKind.i64.wrap (zh + 1)) zj (Zl.mk z2 z6)) zp zd), (Zq (Z7.mk z1a z1I z1H z1d z1o z1p z26) zE zB)] er3 ?_
  refine za (r3.1) ?_ ?_
  ·refine ze ?_
   refine zo (.p (.agg (ZC (Z7.mk 8 0 0 0 0 ([] : List Zc) ([] : List Z7)) .nl .nl))) ?_
   refine zt [(Zk (Zm.mk zn r3.2 zb (IntKind.i64.wrap (zh + 1)) zj (Zl.mk z2 z6)) zp zd), (Zq (Z7.mk 8 0 0 0 0 ([] : List Zc) ([] : List Z7)) .nl .nl)] ?_
   exact zk (Z2y (x1) (zn) (r3.2) (zb) ((IntKind.i64.wrap (zh + 1))) (zj) (z2) (z6) (8) (0) (0) (0) (0) (([] : List Zc)) (([] : List Z7)) zp zd .nl .nl zy rfl rfl)
  ·refine ze ?_
   refine zi fun r4 hr4 => ?_
   obtain ⟨qr4, er4, exr4, rfl⟩ := Z1e ((ByteArray.mk #[63, 58])) (zn) (r3.2) (zb) ((IntKind.i64.wrap (zh + 1))) (zj) (z2) (z6) zp zd zy r4 hr4
   refine zc [0] (bv r4.1) [(Zk (Zm.mk zn r4.2 zb (IntKind.i64.wrap (zh + 1)) zj (Zl.mk z2 z6)) zp zd), (Zq (Z7.mk z1a z1I z1H z1d z1o z1p z26) zE zB)] er4 ?_
   refine za (r4.1) ?_ ?_
   ·exact zk (Z2y (x1) (zn) (r4.2) (zb) ((IntKind.i64.wrap (zh + 1))) (zj) (z2) (z6) (z1a) (z1I) (z1H) (z1d) (z1o) (z1p) (z26) zp zd zE zB zy zS zL)
   ·refine ze ?_
    refine zi fun r5 hr5 => ?_
    obtain ⟨qr5, er5, exr5, rfl⟩ := Z1M ((Zm.mk zn r4.2 zb (IntKind.i64.wrap (zh + 1)) zj (Zl.mk z2 z6))) zp zd zy r5 hr5
    refine zc [0] (iv r5) [(Zk (Zm.mk zn r4.2 zb (IntKind.i64.wrap (zh + 1)) zj (Zl.mk z2 z6)) zp zd), (Zq (Z7.mk z1a z1I z1H z1d z1o z1p z26) zE zB)] er5 ?_
    refine zo (bv (r5 == 63)) ?_
    refine za ((r5 == 63)) ?_ ?_
    ·refine ze ?_
     refine zi fun r6 hr6 => ?_
     obtain ⟨qr6, er6, exr6, rfl⟩ := ZY (20) (x1) (zn) (r4.2) (zb) ((IntKind.i64.wrap (zh + 1))) (zj) (z2) (z6) zp zd zy r6 hr6
     refine zc [0] (.p (.tup [])) [(Zk (Zm.mk zn r6.1 zb (IntKind.i64.wrap (zh + 1)) zj (Zl.mk r6.2.1 r6.2.2)) zp zd), (Zq (Z7.mk z1a z1I z1H z1d z1o z1p z26) zE zB)] er6 ?_
     exact zk (Z2y (x1) (zn) (r6.1) (zb) ((IntKind.i64.wrap (zh + 1))) (zj) (r6.2.1) (r6.2.2) (z1a) (z1I) (z1H) (z1d) (z1o) (z1p) (z26) zp zd zE zB zy zS zL)
    ·refine ze ?_
     refine zo (.ptr 0 0) ?_
     refine zo (.ptr 0 2) ?_
     refine zo (iv zb) ?_
     refine zo (bv (zb == 9)) ?_
     refine za ((zb == 9)) ?_ ?_
     ·refine ze ?_
      refine zi fun r7 hr7 => ?_
      obtain ⟨qr7, er7, exr7, rfl⟩ := ZY (24) (x1) (zn) (r4.2) (zb) ((IntKind.i64.wrap (zh + 1))) (zj) (z2) (z6) zp zd zy r7 hr7
      refine zc [0] (.p (.tup [])) [(Zk (Zm.mk zn r7.1 zb (IntKind.i64.wrap (zh + 1)) zj (Zl.mk r7.2.1 r7.2.2)) zp zd), (Zq (Z7.mk z1a z1I z1H z1d z1o z1p z26) zE zB)] er7 ?_
      exact zk (Z2y (x1) (zn) (r7.1) (zb) ((IntKind.i64.wrap (zh + 1))) (zj) (r7.2.1) (r7.2.2) (z1a) (z1I) (z1H) (z1d) (z1o) (z1p) (z26) zp zd zE zB zy zS zL)
     ·refine ze ?_
      refine zo (.ptr 0 0) ?_
      refine zo (.ptr 0 2) ?_
      refine zo (iv zb) ?_
      refine zo (iv (IntKind.i64.wrap (zb + 1))) ?_
      refine zo (.ptr 0 0) ?_
      refine zo (.ptr 0 2) ?_
      refine zt [(Zk (Zm.mk zn r4.2 (IntKind.i64.wrap (zb + 1)) (IntKind.i64.wrap (zh + 1)) zj (Zl.mk z2 z6)) zp zd), (Zq (Z7.mk z1a z1I z1H z1d z1o z1p z26) zE zB)] ?_
      refine ze ?_
      refine zo (.ptr 0 0) ?_
      refine zo (.ptr 0 2) ?_
      refine zo (iv (IntKind.i64.wrap (zb + 1))) ?_
      refine zo (.p (.agg (ZC (Z7.mk 5 0 0 0 (IntKind.i64.wrap (zb + 1)) ([] : List Zc) ([] : List Z7)) .nl .nl))) ?_
      refine zt [(Zk (Zm.mk zn r4.2 (IntKind.i64.wrap (zb + 1)) (IntKind.i64.wrap (zh + 1)) zj (Zl.mk z2 z6)) zp zd), (Zq (Z7.mk 5 0 0 0 (IntKind.i64.wrap (zb + 1)) ([] : List Zc) ([] : List Z7)) .nl .nl)] ?_
      exact zk (Z2y (x1) (zn) (r4.2) ((IntKind.i64.wrap (zb + 1))) ((IntKind.i64.wrap (zh + 1))) (zj) (z2) (z6) (5) (0) (0) (0) ((IntKind.i64.wrap (zb + 1))) (([] : List Zc)) (([] : List Z7)) zp zd .nl .nl zy rfl rfl)
noncomputable def Z3Z (x1 : Int) (zn : List Int) (zu : Int) (zb : Int) (zh : Int) (zj : List Zv) (z2 : Int) (z6 : Int) : Option (Z7 × Bool × Int × Int × Int × (List Zv) × Int × Int) :=
 if ((zh == 32)) = true then
 ((ZV 25 x1 zn z2 z6).bind fun r1 =>
 some ((Z7.mk 0 0 0 0 0 ([] : List Zc) ([] : List Z7)), true, r1.1, zb, zh, zj, r1.2.1, r1.2.2))
 else
 (Z43 x1 zn zu zb zh zj z2 z6 0 0 0 0 0 (([] : List Zc)))
theorem ZaF (x1 : Int) (zn : List Int) (zu : Int) (zb : Int) (zh : Int) (zj : List Zv) (z2 : Int) (z6 : Int) (zp : Own) (zd : Own) (zy : okApp zd = true) : Sim (Z2d zn zp) (Z3Z x1 zn zu zb zh zj z2 z6) (EE 51 [(.ptr 0 0), (iv x1)] [(Zk (Zm.mk zn zu zb zh zj (Zl.mk z2 z6)) zp zd)]) := by
 unfold Z3Z
 refine zf (ZjK ..) ?_
 refine ze ?_
 refine zz (.ptr 1 0) [(Zk (Zm.mk zn zu zb zh zj (Zl.mk z2 z6)) zp zd), (Zq (Z7.mk 0 0 0 0 0 ([] : List Zc) ([] : List Z7)) .nl .nl)] ?_
 refine ze ?_
 refine zo (.ptr 0 0) ?_
 refine zo (.ptr 0 3) ?_
 refine zo (iv zh) ?_
 refine zo (bv (zh == 32)) ?_
 refine za ((zh == 32)) ?_ ?_
 ·refine ze ?_
  refine zi fun r1 hr1 => ?_
  obtain ⟨qr1, er1, exr1, rfl⟩ := ZY (25) (x1) (zn) (zu) (zb) (zh) (zj) (z2) (z6) zp zd zy r1 hr1
  refine zc [0] (.p (.tup [])) [(Zk (Zm.mk zn r1.1 zb zh zj (Zl.mk r1.2.1 r1.2.2)) zp zd), (Zq (Z7.mk 0 0 0 0 0 ([] : List Zc) ([] : List Z7)) .nl .nl)] er1 ?_
  refine ze ?_
  refine zo (.p (.agg (ZC (Z7.mk 0 0 0 0 0 ([] : List Zc) ([] : List Z7)) .nl .nl))) ?_
  refine zt [(Zk (Zm.mk zn r1.1 zb zh zj (Zl.mk r1.2.1 r1.2.2)) zp zd), (Zq (Z7.mk 0 0 0 0 0 ([] : List Zc) ([] : List Z7)) .nl .nl)] ?_
  exact zr ((.p (.tup [(.agg (ZC (Z7.mk 0 0 0 0 0 ([] : List Zc) ([] : List Z7)) .sh .sh)), (.v (.bool true))])), [(Zk (Zm.mk zn r1.1 zb zh zj (Zl.mk r1.2.1 r1.2.2)) zp zd), (Zq (Z7.mk 0 0 0 0 0 ([] : List Zc) ([] : List Z7)) .nl .nl)]) ⟨zd, _, zy, rfl⟩
 ·exact zk (Z9P (x1) (zn) (zu) (zb) (zh) (zj) (z2) (z6) (0) (0) (0) (0) (0) (([] : List Zc)) (([] : List Z7)) zp zd .nl .nl zy rfl rfl)
theorem Z66 (x1 : Int) (zn : List Int) (zu : Int) (zb : Int) (zh : Int) (zj : List Zv) (z2 : Int) (z6 : Int) {r} (h : Z3Z x1 zn zu zb zh zj z2 z6 = some r) : Z3d x1 zn zu zb zh zj z2 z6 = some r :=
 pick_of (fun _ _ ha hb => RRun.uniq (Zbl _ _) (ha .ex .ex rfl) (hb .ex .ex rfl)) (fun zp zd zy => ZaF x1 zn zu zb zh zj z2 z6 zp zd zy r h)
noncomputable def Za4  : Option ((List ByteArray)) :=
 some (([(ByteArray.mk #[63, 61]), (ByteArray.mk #[63, 33]), (ByteArray.mk #[63, 60, 61]), (ByteArray.mk #[63, 60, 33])] : List ByteArray))
theorem Zdn  : Sim (Z6W) (Za4) (EE 62 [] []) := by
 unfold Za4
 refine zf (Zk6 ..) ?_
 refine ze ?_
 refine ze ?_
 refine zo (.p (.lst .ex (([(ByteArray.mk #[63, 61]), (ByteArray.mk #[63, 33]), (ByteArray.mk #[63, 60, 61]), (ByteArray.mk #[63, 60, 33])] : List ByteArray).map eS))) ?_
 exact zr ((.p (.lst .sh (([(ByteArray.mk #[63, 61]), (ByteArray.mk #[63, 33]), (ByteArray.mk #[63, 60, 61]), (ByteArray.mk #[63, 60, 33])] : List ByteArray).map eS))), []) ⟨_, rfl⟩
theorem ZdC  {r} (h : Za4 = some r) : Z8w = some r :=
 pick_of (fun _ _ ha hb => RRun.uniq (ZdY) (ha ) (hb )) (Zdn  r h)
noncomputable def Z3H (x0 : List ByteArray) (zn : List Int) (zu : Int) : Option (Int × Int) :=
 Z1x x0 ((x0.length : Int)) 0 zn zu
theorem Z8m (x0 : List ByteArray) (zn : List Int) (zu : Int) (zb : Int) (zh : Int) (zj : List Zv) (z2 : Int) (z6 : Int) (ox0 : Own) (zp : Own) (zd : Own) (zy : okApp zd = true) : Sim (Z1n zn zb zh zj z2 z6 zp zd) (Z3H x0 zn zu) (EE 61 [(.p (.lst ox0 (x0.map eS))), (.clo 27 [(.ptr 0 0)] [])] [(Zk (Zm.mk zn zu zb zh zj (Zl.mk z2 z6)) zp zd)]) := by
 unfold Z3H
 refine zf (Zjj ..) ?_
 refine ze ?_
 refine ze ?_
 refine zo (iv (x0.length : Int)) ?_ (Eq.trans (by kernel_rfl) (xlen_of (P := PP) (t := 43) (d := 9) (by kernel_rfl) eS (shrO ox0) x0))
 exact zk (Z5w (x0) ((x0.length : Int)) (0) (zn) (zu) (zb) (zh) (zj) (z2) (z6) ox0 zp zd zy)
theorem Z8B (x0 : List ByteArray) (zn : List Int) (zu : Int) {r} (h : Z3H x0 zn zu = some r) : Z3I x0 zn zu = some r :=
 pick_of (fun _ _ ha hb => RRun.uniq (Z65 _ _ _ _ _ _ _ _) (ha default default default default default .ex .ex .ex rfl) (hb default default default default default .ex .ex .ex rfl)) (fun zb zh zj z2 z6 ox0 zp zd zy => Z8m x0 zn zu zb zh zj z2 z6 ox0 zp zd zy r h)
noncomputable def Z3f (x0 : List ByteArray) (x7 : Int) (x8 : Int) (zn : List Int) (zu : Int) : Option (Int × Int) :=
 Z1x x0 x7 ((IntKind.i64.wrap (x8 + 1))) zn zu
theorem Z7p (x0 : List ByteArray) (x7 : Int) (x8 : Int) (zn : List Int) (zu : Int) (zb : Int) (zh : Int) (zj : List Zv) (z2 : Int) (z6 : Int) (ox0 : Own) (zp : Own) (zd : Own) (zy : okApp zd = true) : Sim (Z1n zn zb zh zj z2 z6 zp zd) (Z3f x0 x7 x8 zn zu) (Zfn 1 (.p (.lst ox0 (x0.map eS))) (.clo 27 [(.ptr 0 0)] []) (iv x7) (iv x8) [(Zk (Zm.mk zn zu zb zh zj (Zl.mk z2 z6)) zp zd)]) := by
 unfold Z3f
 refine zf (ZhN ..) ?_
 refine ze ?_
 refine zo (iv (IntKind.i64.wrap (x8 + 1))) ?_
 exact zk (Z5w (x0) (x7) ((IntKind.i64.wrap (x8 + 1))) (zn) (zu) (zb) (zh) (zj) (z2) (z6) ox0 zp zd zy)
noncomputable def Z2C (x0 : List ByteArray) (x7 : Int) (x8 : Int) (zn : List Int) (zu : Int) : Option (Int × Int) :=
 (lget x0 x8).bind fun a1 =>
 (Z19 a1 zn zu).bind fun r2 =>
 if (r2.1) = true then
 (some (x8, r2.2))
 else
 (Z3f x0 x7 x8 zn r2.2)
theorem Z7z (x0 : List ByteArray) (x7 : Int) (x8 : Int) (zn : List Int) (zu : Int) (zb : Int) (zh : Int) (zj : List Zv) (z2 : Int) (z6 : Int) (ox0 : Own) (zp : Own) (zd : Own) (zy : okApp zd = true) : Sim (Z1n zn zb zh zj z2 z6 zp zd) (Z2C x0 x7 x8 zn zu) (Zfj 1 (.p (.lst ox0 (x0.map eS))) (.clo 27 [(.ptr 0 0)] []) (iv x7) (iv x8) [(Zk (Zm.mk zn zu zb zh zj (Zl.mk z2 z6)) zp zd)]) := by
 unfold Z2C
 refine zf (ZhS ..) ?_
 refine ze ?_
 refine ze ?_
 refine zi fun a1 ha1 => ?_
 refine zo (.cptr [(.v (.string a1))]) ?_ (Eq.trans (by kernel_rfl) (xidx_of (o := (shrO ox0)) (k := .i64) (n := 1) (e := eS) (cs := (fun a => [eS a])) (fun _ => rfl) (fun _ => rfl) (by decide) ha1))
 refine zo (.p (.v (.string a1))) ?_
 refine zi fun r2 hr2 => ?_
 obtain ⟨qr2, er2, exr2, rfl⟩ := Z1e (a1) (zn) (zu) (zb) (zh) (zj) (z2) (z6) zp zd zy r2 hr2
 refine zv [0] (bv r2.1) [(Zk (Zm.mk zn r2.2 zb zh zj (Zl.mk z2 z6)) zp zd)] er2 ?_
 refine za (r2.1) ?_ ?_
 ·refine ze ?_
  exact zr ((iv x8), [(Zk (Zm.mk zn r2.2 zb zh zj (Zl.mk z2 z6)) zp zd)]) ⟨_, rfl⟩
 ·exact zk (Z7p (x0) (x7) (x8) (zn) (r2.2) (zb) (zh) (zj) (z2) (z6) ox0 zp zd zy)
noncomputable def Z4m (zu : Int) : Option (Int × Int) :=
 some ((-1), zu)
theorem Z7q (zn : List Int) (zu : Int) (zb : Int) (zh : Int) (zj : List Zv) (z2 : Int) (z6 : Int) (zp : Own) (zd : Own) (zy : okApp zd = true) : Sim (Z1n zn zb zh zj z2 z6 zp zd) (Z4m zu) (Zf1 1  [(Zk (Zm.mk zn zu zb zh zj (Zl.mk z2 z6)) zp zd)]) := by
 unfold Z4m
 refine zf (ZhY ..) ?_
 refine ze ?_
 exact zr ((iv (-1)), [(Zk (Zm.mk zn zu zb zh zj (Zl.mk z2 z6)) zp zd)]) ⟨_, rfl⟩
noncomputable def Z2b (x0 : List ByteArray) (x7 : Int) (x8 : Int) (zn : List Int) (zu : Int) : Option (Int × Int) :=
 if ((decide (x8 < x7))) = true then
 (Z2C x0 x7 x8 zn zu)
 else
 (Z4m zu)
theorem Z7i (x0 : List ByteArray) (x7 : Int) (x8 : Int) (zn : List Int) (zu : Int) (zb : Int) (zh : Int) (zj : List Zv) (z2 : Int) (z6 : Int) (ox0 : Own) (zp : Own) (zd : Own) (zy : okApp zd = true) : Sim (Z1n zn zb zh zj z2 z6 zp zd) (Z2b x0 x7 x8 zn zu) (ZbW 1 (.p (.lst ox0 (x0.map eS))) (.clo 27 [(.ptr 0 0)] []) (iv x7) (iv x8) [(Zk (Zm.mk zn zu zb zh zj (Zl.mk z2 z6)) zp zd)]) := by
 unfold Z2b
 refine zf (ZhZ ..) ?_
 refine ze ?_
 refine zo (bv (decide (x8 < x7))) ?_
 refine za ((decide (x8 < x7))) ?_ ?_
 ·exact zk (Z7z (x0) (x7) (x8) (zn) (zu) (zb) (zh) (zj) (z2) (z6) ox0 zp zd zy)
 ·exact zk (Z7q (zn) (zu) (zb) (zh) (zj) (z2) (z6) zp zd zy)
theorem Z40 (x0 : List ByteArray) (x7 : Int) (x8 : Int) (zn : List Int) (zu : Int) {r} (h : Z2b x0 x7 x8 zn zu = some r) : Z1x x0 x7 x8 zn zu = some r :=
 pick_of (fun _ _ ha hb => RRun.uniq (Z65 _ _ _ _ _ _ _ _) (ha default default default default default .ex .ex .ex rfl) (hb default default default default default .ex .ex .ex rfl)) (fun zb zh zj z2 z6 ox0 zp zd zy => Z7i x0 x7 x8 zn zu zb zh zj z2 z6 ox0 zp zd zy r h)
noncomputable def Z2Z (zu : Int) (z2 : Int) (z6 : Int) (z23 : Int) (z32 : Int) (z31 : Int) (z2x : Int) (z2p : Int) (z2q : List Zc) (z20 : List Z7) : Option (Z7 × Int × Int × Int) :=
 some ((Z7.mk z23 z32 z31 z2x z2p z2q z20), zu, z2, z6)
theorem Z4X (zn : List Int) (zu : Int) (zb : Int) (zh : Int) (zj : List Zv) (z2 : Int) (z6 : Int) (b1 : Z7) (b2 : Z7) (z23 : Int) (z32 : Int) (z31 : Int) (z2x : Int) (z2p : Int) (z2q : List Zc) (z20 : List Z7) (zp : Own) (zd : Own) (zE : Own) (zB : Own) (z1L : Own) (z1B : Own) (z37 : Own) (z2z : Own) (zy : okApp zd = true) (z8F : okApp z1L = true) (z7m : okApp z1B = true) (z8H : okApp z37 = true) (z7j : okApp z2z = true) : Sim (Z2E zn zb zh zj zp zd) (Z2Z zu z2 z6 z23 z32 z31 z2x z2p z2q z20) (ZbO 1 (.ptr 2 0) (.ptr 3 0) [(Zk (Zm.mk zn zu zb zh zj (Zl.mk z2 z6)) zp zd), (Zq b1 zE zB), (Zq b2 z1L z1B), (Zq (Z7.mk z23 z32 z31 z2x z2p z2q z20) z37 z2z)]) := by
 unfold Z2Z
 refine zf (ZgY ..) ?_
 refine ze ?_
 refine zo (.p (.agg (ZC (Z7.mk z23 z32 z31 z2x z2p z2q z20) (shrO z37) (shrO z2z)))) ?_
 refine zt [(Zk (Zm.mk zn zu zb zh zj (Zl.mk z2 z6)) zp zd), (Zq b1 zE zB), (Zq (Z7.mk z23 z32 z31 z2x z2p z2q z20) (shrO z37) (shrO z2z)), (Zq (Z7.mk z23 z32 z31 z2x z2p z2q z20) z37 z2z)] ?_
 exact zr ((.p (.agg (ZC (Z7.mk z23 z32 z31 z2x z2p z2q z20) .sh .sh))), [(Zk (Zm.mk zn zu zb zh zj (Zl.mk z2 z6)) zp zd), (Zq b1 zE zB), (Zq (Z7.mk z23 z32 z31 z2x z2p z2q z20) (shrO z37) (shrO z2z)), (Zq (Z7.mk z23 z32 z31 z2x z2p z2q z20) z37 z2z)]) ⟨_, rfl⟩
noncomputable def Z2r (zn : List Int) (zu : Int) (z2 : Int) (z6 : Int) (z23 : Int) (z32 : Int) (z31 : Int) (z2x : Int) (z2p : Int) (z2q : List Zc) (z20 : List Z7) : Option (Z7 × Int × Int × Int) :=
 (Z19 ((ByteArray.mk #[63])) zn zu).bind fun r1 =>
 if (r1.1) = true then
 (Z2Z r1.2 z2 z6 z23 z32 z31 1 z2p z2q z20)
 else
 ((Z19 ((ByteArray.mk #[43])) zn r1.2).bind fun r2 =>
 if (r2.1) = true then
 (Z2Z r2.2 z2 z6 z23 z32 z31 2 z2p z2q z20)
 else
 (Z2Z r2.2 z2 z6 z23 z32 z31 z2x z2p z2q z20))
theorem Z6o (zn : List Int) (zu : Int) (zb : Int) (zh : Int) (zj : List Zv) (z2 : Int) (z6 : Int) (b1 : Z7) (b2 : Z7) (z23 : Int) (z32 : Int) (z31 : Int) (z2x : Int) (z2p : Int) (z2q : List Zc) (z20 : List Z7) (zp : Own) (zd : Own) (zE : Own) (zB : Own) (z1L : Own) (z1B : Own) (z37 : Own) (z2z : Own) (zy : okApp zd = true) (z8F : okApp z1L = true) (z7m : okApp z1B = true) (z8H : okApp z37 = true) (z7j : okApp z2z = true) : Sim (Z2E zn zb zh zj zp zd) (Z2r zn zu z2 z6 z23 z32 z31 z2x z2p z2q z20) (Zda 1 (.ptr 0 0) (.ptr 2 0) (.ptr 3 0) [(Zk (Zm.mk zn zu zb zh zj (Zl.mk z2 z6)) zp zd), (Zq b1 zE zB), (Zq b2 z1L z1B), (Zq (Z7.mk z23 z32 z31 z2x z2p z2q z20) z37 z2z)]) := by
 unfold Z2r
 refine zf (Zh1 ..) ?_
 refine ze ?_
 refine zi fun r1 hr1 => ?_
 obtain ⟨qr1, er1, exr1, rfl⟩ := Z1e ((ByteArray.mk #[63])) (zn) (zu) (zb) (zh) (zj) (z2) (z6) zp zd zy r1 hr1
 refine zc [0] (bv r1.1) [(Zk (Zm.mk zn r1.2 zb zh zj (Zl.mk z2 z6)) zp zd), (Zq b1 zE zB), (Zq b2 z1L z1B), (Zq (Z7.mk z23 z32 z31 z2x z2p z2q z20) z37 z2z)] er1 ?_
 refine za (r1.1) ?_ ?_
 ·refine ze ?_
  refine zo (.ptr 3 3) ?_
  refine zt [(Zk (Zm.mk zn r1.2 zb zh zj (Zl.mk z2 z6)) zp zd), (Zq b1 zE zB), (Zq b2 z1L z1B), (Zq (Z7.mk z23 z32 z31 1 z2p z2q z20) z37 z2z)] ?_
  exact zk (Z4X (zn) (r1.2) (zb) (zh) (zj) (z2) (z6) (b1) (b2) (z23) (z32) (z31) (1) (z2p) (z2q) (z20) zp zd zE zB z1L z1B z37 z2z zy z8F z7m z8H z7j)
 ·refine ze ?_
  refine zi fun r2 hr2 => ?_
  obtain ⟨qr2, er2, exr2, rfl⟩ := Z1e ((ByteArray.mk #[43])) (zn) (r1.2) (zb) (zh) (zj) (z2) (z6) zp zd zy r2 hr2
  refine zc [0] (bv r2.1) [(Zk (Zm.mk zn r2.2 zb zh zj (Zl.mk z2 z6)) zp zd), (Zq b1 zE zB), (Zq b2 z1L z1B), (Zq (Z7.mk z23 z32 z31 z2x z2p z2q z20) z37 z2z)] er2 ?_
  refine za (r2.1) ?_ ?_
  ·refine ze ?_
   refine zo (.ptr 3 3) ?_
   refine zt [(Zk (Zm.mk zn r2.2 zb zh zj (Zl.mk z2 z6)) zp zd), (Zq b1 zE zB), (Zq b2 z1L z1B), (Zq (Z7.mk z23 z32 z31 2 z2p z2q z20) z37 z2z)] ?_
   exact zk (Z4X (zn) (r2.2) (zb) (zh) (zj) (z2) (z6) (b1) (b2) (z23) (z32) (z31) (2) (z2p) (z2q) (z20) zp zd zE zB z1L z1B z37 z2z zy z8F z7m z8H z7j)
  ·exact zk (Z4X (zn) (r2.2) (zb) (zh) (zj) (z2) (z6) (b1) (b2) (z23) (z32) (z31) (z2x) (z2p) (z2q) (z20) zp zd zE zB z1L z1B z37 z2z zy z8F z7m z8H z7j)
noncomputable def Z1T (x2 : Bool) (x7 : Int) (zn : List Int) (zu : Int) (z2 : Int) (z6 : Int) (z23 : Int) (z32 : Int) (z31 : Int) (z2x : Int) (z2p : Int) (z2q : List Zc) (z20 : List Z7) : Option (Z7 × Int × Int × Int) :=
 if ((!x2)) = true then
 ((ZV 23 x7 zn z2 z6).bind fun r1 =>
 Z2r zn r1.1 r1.2.1 r1.2.2 z23 z32 z31 z2x z2p z2q z20)
 else
 (Z2r zn zu z2 z6 z23 z32 z31 z2x z2p z2q z20)
theorem Z3K (x2 : Bool) (x7 : Int) (zn : List Int) (zu : Int) (zb : Int) (zh : Int) (zj : List Zv) (z2 : Int) (z6 : Int) (b1 : Z7) (b2 : Z7) (z23 : Int) (z32 : Int) (z31 : Int) (z2x : Int) (z2p : Int) (z2q : List Zc) (z20 : List Z7) (zp : Own) (zd : Own) (zE : Own) (zB : Own) (z1L : Own) (z1B : Own) (z37 : Own) (z2z : Own) (zy : okApp zd = true) (z8F : okApp z1L = true) (z7m : okApp z1B = true) (z8H : okApp z37 = true) (z7j : okApp z2z = true) : Sim (Z2E zn zb zh zj zp zd) (Z1T x2 x7 zn zu z2 z6 z23 z32 z31 z2x z2p z2q z20) (Zau 1 (.ptr 0 0) (bv x2) (.ptr 2 0) (iv x7) (.ptr 3 0) [(Zk (Zm.mk zn zu zb zh zj (Zl.mk z2 z6)) zp zd), (Zq b1 zE zB), (Zq b2 z1L z1B), (Zq (Z7.mk z23 z32 z31 z2x z2p z2q z20) z37 z2z)]) := by
 unfold Z1T
 refine zf (Zh0 ..) ?_
 refine ze ?_
 refine zo (bv (!x2)) ?_
 refine za ((!x2)) ?_ ?_
 ·refine ze ?_
  refine zi fun r1 hr1 => ?_
  obtain ⟨qr1, er1, exr1, rfl⟩ := ZY (23) (x7) (zn) (zu) (zb) (zh) (zj) (z2) (z6) zp zd zy r1 hr1
  refine zc [0] (.p (.tup [])) [(Zk (Zm.mk zn r1.1 zb zh zj (Zl.mk r1.2.1 r1.2.2)) zp zd), (Zq b1 zE zB), (Zq b2 z1L z1B), (Zq (Z7.mk z23 z32 z31 z2x z2p z2q z20) z37 z2z)] er1 ?_
  exact zk (Z6o (zn) (r1.1) (zb) (zh) (zj) (r1.2.1) (r1.2.2) (b1) (b2) (z23) (z32) (z31) (z2x) (z2p) (z2q) (z20) zp zd zE zB z1L z1B z37 z2z zy z8F z7m z8H z7j)
 ·exact zk (Z6o (zn) (zu) (zb) (zh) (zj) (z2) (z6) (b1) (b2) (z23) (z32) (z31) (z2x) (z2p) (z2q) (z20) zp zd zE zB z1L z1B z37 z2z zy z8F z7m z8H z7j)
noncomputable def Z3z (x1 : Z7) (x2 : Bool) (zn : List Int) (zu : Int) (zb : Int) (zh : Int) (zj : List Zv) (z2 : Int) (z6 : Int) : Option (Z7 × Int × Int × Int) :=
 (Z19 ((ByteArray.mk #[42])) zn zu).bind fun r1 =>
 if (r1.1) = true then
 (Z1T x2 zu zn r1.2 z2 z6 4 0 ((-1)) 0 0 (([] : List Zc)) (([x1] : List Z7)))
 else
 ((Z19 ((ByteArray.mk #[43])) zn r1.2).bind fun r2 =>
 if (r2.1) = true then
 (Z1T x2 zu zn r2.2 z2 z6 4 1 ((-1)) 0 0 (([] : List Zc)) (([x1] : List Z7)))
 else
 ((Z19 ((ByteArray.mk #[63])) zn r2.2).bind fun r3 =>
 if (r3.1) = true then
 (Z1T x2 zu zn r3.2 z2 z6 4 0 1 0 0 (([] : List Zc)) (([x1] : List Z7)))
 else
 ((Z19 ((ByteArray.mk #[123])) zn r3.2).bind fun r4 =>
 if (r4.1) = true then
 ((Z4x zu zn r4.2 zb zh zj z2 z6).bind fun r5 =>
 Z1T x2 zu zn r5.2.2.1 r5.2.2.2.1 r5.2.2.2.2 4 r5.1 r5.2.1 0 0 (([] : List Zc)) (([x1] : List Z7)))
 else
 (some (x1, r4.2, z2, z6)))))
theorem Zal (x1 : Z7) (x2 : Bool) (zn : List Int) (zu : Int) (zb : Int) (zh : Int) (zj : List Zv) (z2 : Int) (z6 : Int) (z2c : Own) (z1O : Own) (zp : Own) (zd : Own) (zy : okApp zd = true) : Sim (Z2E zn zb zh zj zp zd) (Z3z x1 x2 zn zu zb zh zj z2 z6) (EE 43 [(.ptr 0 0), (.p (.agg (ZC x1 z2c z1O))), (bv x2)] [(Zk (Zm.mk zn zu zb zh zj (Zl.mk z2 z6)) zp zd)]) := by
 unfold Z3z
 refine zf (Zjq ..) ?_
 refine ze ?_
 refine zx (.ptr 1 0) [(Zk (Zm.mk zn zu zb zh zj (Zl.mk z2 z6)) zp zd), (Zq x1 z2c z1O)] ?_
 refine zz (.ptr 2 0) [(Zk (Zm.mk zn zu zb zh zj (Zl.mk z2 z6)) zp zd), (Zq x1 z2c z1O), (Zq (Z7.mk 0 0 0 0 0 ([] : List Zc) ([] : List Z7)) .nl .nl)] ?_
 refine ze ?_
 refine zo (.ptr 0 0) ?_
 refine zo (.ptr 0 1) ?_
 refine zo (iv zu) ?_
 refine ze ?_
 refine zo (.p (.agg (ZC x1 (shrO z2c) (shrO z1O)))) ?_
 refine zo (.p (.lst .ex (([x1] : List Z7).map ZG))) ?_ (Eq.trans (b := some (.p (.lst .ex [.agg (Z1V x1)]))) (by kernel_rfl) (by simp only [List.map_cons, List.map_nil, Z3c]))
 refine zo (.p (.agg (ZC (Z7.mk 4 0 (-1) 0 0 ([] : List Zc) ([x1] : List Z7)) .nl .ex))) ?_
 refine zz (.ptr 3 0) [(Zk (Zm.mk zn zu zb zh zj (Zl.mk z2 z6)) zp zd), (Zq x1 z2c z1O), (Zq (Z7.mk 0 0 0 0 0 ([] : List Zc) ([] : List Z7)) .nl .nl), (Zq (Z7.mk 0 0 0 0 0 ([] : List Zc) ([] : List Z7)) .nl .nl)] ?_
 refine zt [(Zk (Zm.mk zn zu zb zh zj (Zl.mk z2 z6)) zp zd), (Zq x1 z2c z1O), (Zq (Z7.mk 0 0 0 0 0 ([] : List Zc) ([] : List Z7)) .nl .nl), (Zq (Z7.mk 4 0 (-1) 0 0 ([] : List Zc) ([x1] : List Z7)) .nl .ex)] ?_
 refine ze ?_
 refine zi fun r1 hr1 => ?_
 obtain ⟨qr1, er1, exr1, rfl⟩ := Z1e ((ByteArray.mk #[42])) (zn) (zu) (zb) (zh) (zj) (z2) (z6) zp zd zy r1 hr1
 refine zc [0] (bv r1.1) [(Zk (Zm.mk zn r1.2 zb zh zj (Zl.mk z2 z6)) zp zd), (Zq x1 z2c z1O), (Zq (Z7.mk 0 0 0 0 0 ([] : List Zc) ([] : List Z7)) .nl .nl), (Zq (Z7.mk 4 0 (-1) 0 0 ([] : List Zc) ([x1] : List Z7)) .nl .ex)] er1 ?_
 refine za (r1.1) ?_ ?_
 ·exact zk (Z3K (x2) (zu) (zn) (r1.2) (zb) (zh) (zj) (z2) (z6) (x1) ((Z7.mk 0 0 0 0 0 ([] : List Zc) ([] : List Z7))) (4) (0) ((-1)) (0) (0) (([] : List Zc)) (([x1] : List Z7)) zp zd z2c z1O .nl .nl .nl .ex zy rfl rfl rfl rfl)
 ·refine ze ?_
  refine zi fun r2 hr2 => ?_
  obtain ⟨qr2, er2, exr2, rfl⟩ := Z1e ((ByteArray.mk #[43])) (zn) (r1.2) (zb) (zh) (zj) (z2) (z6) zp zd zy r2 hr2
  refine zc [0] (bv r2.1) [(Zk (Zm.mk zn r2.2 zb zh zj (Zl.mk z2 z6)) zp zd), (Zq x1 z2c z1O), (Zq (Z7.mk 0 0 0 0 0 ([] : List Zc) ([] : List Z7)) .nl .nl), (Zq (Z7.mk 4 0 (-1) 0 0 ([] : List Zc) ([x1] : List Z7)) .nl .ex)] er2 ?_
  refine za (r2.1) ?_ ?_
  ·refine ze ?_
   refine zo (.ptr 3 1) ?_
   refine zt [(Zk (Zm.mk zn r2.2 zb zh zj (Zl.mk z2 z6)) zp zd), (Zq x1 z2c z1O), (Zq (Z7.mk 0 0 0 0 0 ([] : List Zc) ([] : List Z7)) .nl .nl), (Zq (Z7.mk 4 1 (-1) 0 0 ([] : List Zc) ([x1] : List Z7)) .nl .ex)] ?_
   exact zk (Z3K (x2) (zu) (zn) (r2.2) (zb) (zh) (zj) (z2) (z6) (x1) ((Z7.mk 0 0 0 0 0 ([] : List Zc) ([] : List Z7))) (4) (1) ((-1)) (0) (0) (([] : List Zc)) (([x1] : List Z7)) zp zd z2c z1O .nl .nl .nl .ex zy rfl rfl rfl rfl)
  ·refine ze ?_
   refine zi fun r3 hr3 => ?_
   obtain ⟨qr3, er3, exr3, rfl⟩ := Z1e ((ByteArray.mk #[63])) (zn) (r2.2) (zb) (zh) (zj) (z2) (z6) zp zd zy r3 hr3
   refine zc [0] (bv r3.1) [(Zk (Zm.mk zn r3.2 zb zh zj (Zl.mk z2 z6)) zp zd), (Zq x1 z2c z1O), (Zq (Z7.mk 0 0 0 0 0 ([] : List Zc) ([] : List Z7)) .nl .nl), (Zq (Z7.mk 4 0 (-1) 0 0 ([] : List Zc) ([x1] : List Z7)) .nl .ex)] er3 ?_
   refine za (r3.1) ?_ ?_
   ·refine ze ?_
    refine zo (.ptr 3 2) ?_
    refine zt [(Zk (Zm.mk zn r3.2 zb zh zj (Zl.mk z2 z6)) zp zd), (Zq x1 z2c z1O), (Zq (Z7.mk 0 0 0 0 0 ([] : List Zc) ([] : List Z7)) .nl .nl), (Zq (Z7.mk 4 0 1 0 0 ([] : List Zc) ([x1] : List Z7)) .nl .ex)] ?_
    exact zk (Z3K (x2) (zu) (zn) (r3.2) (zb) (zh) (zj) (z2) (z6) (x1) ((Z7.mk 0 0 0 0 0 ([] : List Zc) ([] : List Z7))) (4) (0) (1) (0) (0) (([] : List Zc)) (([x1] : List Z7)) zp zd z2c z1O .nl .nl .nl .ex zy rfl rfl rfl rfl)
   ·refine ze ?_
    refine zi fun r4 hr4 => ?_
    obtain ⟨qr4, er4, exr4, rfl⟩ := Z1e ((ByteArray.mk #[123])) (zn) (r3.2) (zb) (zh) (zj) (z2) (z6) zp zd zy r4 hr4
    refine zc [0] (bv r4.1) [(Zk (Zm.mk zn r4.2 zb zh zj (Zl.mk z2 z6)) zp zd), (Zq x1 z2c z1O), (Zq (Z7.mk 0 0 0 0 0 ([] : List Zc) ([] : List Z7)) .nl .nl), (Zq (Z7.mk 4 0 (-1) 0 0 ([] : List Zc) ([x1] : List Z7)) .nl .ex)] er4 ?_
    refine za (r4.1) ?_ ?_
    ·refine ze ?_
     refine zi fun r5 hr5 => ?_
     obtain ⟨qr5, er5, exr5, rfl⟩ := ZaK (zu) (zn) (r4.2) (zb) (zh) (zj) (z2) (z6) zp zd zy r5 hr5
     refine zc [0] (.p (.tup [(.v (.int .i64 r5.1)), (.v (.int .i64 r5.2.1))])) [(Zk (Zm.mk zn r5.2.2.1 zb zh zj (Zl.mk r5.2.2.2.1 r5.2.2.2.2)) zp zd), (Zq x1 z2c z1O), (Zq (Z7.mk 0 0 0 0 0 ([] : List Zc) ([] : List Z7)) .nl .nl), (Zq (Z7.mk 4 0 (-1) 0 0 ([] : List Zc) ([x1] : List Z7)) .nl .ex)] er5 ?_
     refine zo (iv r5.1) ?_
     refine zo (iv r5.2.1) ?_
     refine zo (.ptr 3 1) ?_
     refine zt [(Zk (Zm.mk zn r5.2.2.1 zb zh zj (Zl.mk r5.2.2.2.1 r5.2.2.2.2)) zp zd), (Zq x1 z2c z1O), (Zq (Z7.mk 0 0 0 0 0 ([] : List Zc) ([] : List Z7)) .nl .nl), (Zq (Z7.mk 4 r5.1 (-1) 0 0 ([] : List Zc) ([x1] : List Z7)) .nl .ex)] ?_
     refine zo (.ptr 3 2) ?_
     refine zt [(Zk (Zm.mk zn r5.2.2.1 zb zh zj (Zl.mk r5.2.2.2.1 r5.2.2.2.2)) zp zd), (Zq x1 z2c z1O), (Zq (Z7.mk 0 0 0 0 0 ([] : List Zc) ([] : List Z7)) .nl .nl), (Zq (Z7.mk 4 r5.1 r5.2.1 0 0 ([] : List Zc) ([x1] : List Z7)) .nl .ex)] ?_
     exact zk (Z3K (x2) (zu) (zn) (r5.2.2.1) (zb) (zh) (zj) (r5.2.2.2.1) (r5.2.2.2.2) (x1) ((Z7.mk 0 0 0 0 0 ([] : List Zc) ([] : List Z7))) (4) (r5.1) (r5.2.1) (0) (0) (([] : List Zc)) (([x1] : List Z7)) zp zd z2c z1O .nl .nl .nl .ex zy rfl rfl rfl rfl)
    ·refine ze ?_
     refine zo (.p (.agg (ZC x1 (shrO z2c) (shrO z1O)))) ?_
     refine zt [(Zk (Zm.mk zn r4.2 zb zh zj (Zl.mk z2 z6)) zp zd), (Zq x1 z2c z1O), (Zq x1 (shrO z2c) (shrO z1O)), (Zq (Z7.mk 4 0 (-1) 0 0 ([] : List Zc) ([x1] : List Z7)) .nl .ex)] ?_
     exact zr ((.p (.agg (ZC x1 .sh .sh))), [(Zk (Zm.mk zn r4.2 zb zh zj (Zl.mk z2 z6)) zp zd), (Zq x1 z2c z1O), (Zq x1 (shrO z2c) (shrO z1O)), (Zq (Z7.mk 4 0 (-1) 0 0 ([] : List Zc) ([x1] : List Z7)) .nl .ex)]) ⟨_, rfl⟩
theorem Z7l (x1 : Z7) (x2 : Bool) (zn : List Int) (zu : Int) (zb : Int) (zh : Int) (zj : List Zv) (z2 : Int) (z6 : Int) {r} (h : Z3z x1 x2 zn zu zb zh zj z2 z6 = some r) : Z4s x1 x2 zn zu zb zh zj z2 z6 = some r :=
 pick_of (fun _ _ ha hb => RRun.uniq (Zb3 _ _ _ _ _ _) (ha .ex .ex .ex .ex rfl) (hb .ex .ex .ex .ex rfl)) (fun z2c z1O zp zd zy => Zal x1 x2 zn zu zb zh zj z2 z6 z2c z1O zp zd zy r h)
noncomputable def Z5V (x4 : Int) (zu : Int) (z2 : Int) (z6 : Int) : Option (Int × Int × Int × Int × Int) :=
 some (x4, (-1), zu, z2, z6)
theorem Z9w (x4 : Int) (zn : List Int) (zu : Int) (zb : Int) (zh : Int) (zj : List Zv) (z2 : Int) (z6 : Int) (zp : Own) (zd : Own) (zy : okApp zd = true) : Sim (Z1Q zn zb zh zj zp zd) (Z5V x4 zu z2 z6) (ZfU 1 (iv x4) [(Zk (Zm.mk zn zu zb zh zj (Zl.mk z2 z6)) zp zd)]) := by
 unfold Z5V
 refine zf (Zit ..) ?_
 refine ze ?_
 exact zr ((.p (.tup [(.v (.int .i64 x4)), (.v (.int .i64 (-1)))])), [(Zk (Zm.mk zn zu zb zh zj (Zl.mk z2 z6)) zp zd)]) ⟨_, rfl⟩
noncomputable def Z4C (x4 : Int) (x5 : Int) (zu : Int) (z2 : Int) (z6 : Int) : Option (Int × Int × Int × Int × Int) :=
 some (x4, x5, zu, z2, z6)
theorem Z6q (x4 : Int) (x5 : Int) (zn : List Int) (zu : Int) (zb : Int) (zh : Int) (zj : List Zv) (z2 : Int) (z6 : Int) (zp : Own) (zd : Own) (zy : okApp zd = true) : Sim (Z1Q zn zb zh zj zp zd) (Z4C x4 x5 zu z2 z6) (Zde 1 (iv x4) (iv x5) [(Zk (Zm.mk zn zu zb zh zj (Zl.mk z2 z6)) zp zd)]) := by
 unfold Z4C
 refine zf (Zhl ..) ?_
 refine ze ?_
 exact zr ((.p (.tup [(.v (.int .i64 x4)), (.v (.int .i64 x5))])), [(Zk (Zm.mk zn zu zb zh zj (Zl.mk z2 z6)) zp zd)]) ⟨_, rfl⟩
noncomputable def Z28 (x1 : Int) (x4 : Int) (x5 : Int) (zn : List Int) (z2 : Int) (z6 : Int) : Option (Int × Int × Int × Int × Int) :=
 (ZV 23 x1 zn z2 z6).bind fun r1 =>
 Z4C x4 x5 r1.1 r1.2.1 r1.2.2
theorem Z3J (x1 : Int) (x4 : Int) (x5 : Int) (zn : List Int) (zu : Int) (zb : Int) (zh : Int) (zj : List Zv) (z2 : Int) (z6 : Int) (zp : Own) (zd : Own) (zy : okApp zd = true) : Sim (Z1Q zn zb zh zj zp zd) (Z28 x1 x4 x5 zn z2 z6) (Zaw 1 (.ptr 0 0) (iv x1) (iv x4) (iv x5) [(Zk (Zm.mk zn zu zb zh zj (Zl.mk z2 z6)) zp zd)]) := by
 unfold Z28
 refine zf (Zh2 ..) ?_
 refine ze ?_
 refine zi fun r1 hr1 => ?_
 obtain ⟨qr1, er1, exr1, rfl⟩ := ZY (23) (x1) (zn) (zu) (zb) (zh) (zj) (z2) (z6) zp zd zy r1 hr1
 refine zc [0] (.p (.tup [])) [(Zk (Zm.mk zn r1.1 zb zh zj (Zl.mk r1.2.1 r1.2.2)) zp zd)] er1 ?_
 exact zk (Z6q (x4) (x5) (zn) (r1.1) (zb) (zh) (zj) (r1.2.1) (r1.2.2) zp zd zy)
noncomputable def Z1Y (x1 : Int) (x4 : Int) (x5 : Int) (zn : List Int) (zu : Int) (z2 : Int) (z6 : Int) : Option (Int × Int × Int × Int × Int) :=
 if ((decide (x4 < 0))) = true then
 (Z28 x1 x4 x5 zn z2 z6)
 else
 (if ((decide (x5 < x4))) = true then
 (Z28 x1 x4 x5 zn z2 z6)
 else
 (if ((decide (64 < x5))) = true then
 (Z28 x1 x4 x5 zn z2 z6)
 else
 ((Z19 ((ByteArray.mk #[125])) zn zu).bind fun r1 =>
 if ((!r1.1)) = true then
 (Z28 x1 x4 x5 zn z2 z6)
 else
 (Z4C x4 x5 r1.2 z2 z6))))
theorem Z3V (x1 : Int) (x4 : Int) (x5 : Int) (zn : List Int) (zu : Int) (zb : Int) (zh : Int) (zj : List Zv) (z2 : Int) (z6 : Int) (zp : Own) (zd : Own) (zy : okApp zd = true) : Sim (Z1Q zn zb zh zj zp zd) (Z1Y x1 x4 x5 zn zu z2 z6) (ZbI 1 (.ptr 0 0) (iv x1) (iv x4) (iv x5) [(Zk (Zm.mk zn zu zb zh zj (Zl.mk z2 z6)) zp zd)]) := by
 unfold Z1Y
 refine zf (ZiI ..) ?_
 refine ze ?_
 refine zo (bv (decide (x4 < 0))) ?_
 refine za ((decide (x4 < 0))) ?_ ?_
 ·exact zk (Z3J (x1) (x4) (x5) (zn) (zu) (zb) (zh) (zj) (z2) (z6) zp zd zy)
 ·refine zo (bv (decide (x5 < x4))) ?_
  refine za ((decide (x5 < x4))) ?_ ?_
  ·exact zk (Z3J (x1) (x4) (x5) (zn) (zu) (zb) (zh) (zj) (z2) (z6) zp zd zy)
  ·refine zo (bv (decide (64 < x5))) ?_
   refine za ((decide (64 < x5))) ?_ ?_
   ·exact zk (Z3J (x1) (x4) (x5) (zn) (zu) (zb) (zh) (zj) (z2) (z6) zp zd zy)
   ·refine zi fun r1 hr1 => ?_
    obtain ⟨qr1, er1, exr1, rfl⟩ := Z1e ((ByteArray.mk #[125])) (zn) (zu) (zb) (zh) (zj) (z2) (z6) zp zd zy r1 hr1
    refine zc [0] (bv r1.1) [(Zk (Zm.mk zn r1.2 zb zh zj (Zl.mk z2 z6)) zp zd)] er1 ?_
    refine zo (bv (!r1.1)) ?_
    refine za ((!r1.1)) ?_ ?_
    ·exact zk (Z3J (x1) (x4) (x5) (zn) (r1.2) (zb) (zh) (zj) (z2) (z6) zp zd zy)
    ·exact zk (Z6q (x4) (x5) (zn) (r1.2) (zb) (zh) (zj) (z2) (z6) zp zd zy)
noncomputable def Z35 (x1 : Int) (x4 : Int) (zn : List Int) (zu : Int) (z2 : Int) (z6 : Int) : Option (Int × Int × Int × Int × Int) :=
 Z1Y x1 x4 ((-2)) zn zu z2 z6
theorem Z6L (x1 : Int) (x4 : Int) (zn : List Int) (zu : Int) (zb : Int) (zh : Int) (zj : List Zv) (z2 : Int) (z6 : Int) (zp : Own) (zd : Own) (zy : okApp zd = true) : Sim (Z1Q zn zb zh zj zp zd) (Z35 x1 x4 zn zu z2 z6) (Ze8 1 (.ptr 0 0) (iv x1) (iv x4) [(Zk (Zm.mk zn zu zb zh zj (Zl.mk z2 z6)) zp zd)]) := by
 unfold Z35
 refine zf (ZhG ..) ?_
 refine ze ?_
 exact zk (Z3V (x1) (x4) ((-2)) (zn) (zu) (zb) (zh) (zj) (z2) (z6) zp zd zy)
noncomputable def Z4J (x1 : Int) (x4 : Int) (zn : List Int) (zu : Int) (z2 : Int) (z6 : Int) : Option (Int × Int × Int × Int × Int) :=
 (Z19 ((ByteArray.mk #[125])) zn zu).bind fun r1 =>
 if (r1.1) = true then
 (if ((decide (x4 ≤ 64))) = true then
 (Z5V x4 r1.2 z2 z6)
 else
 (Z35 x1 x4 zn r1.2 z2 z6))
 else
 (Z35 x1 x4 zn r1.2 z2 z6)
theorem Z9o (x1 : Int) (x4 : Int) (zn : List Int) (zu : Int) (zb : Int) (zh : Int) (zj : List Zv) (z2 : Int) (z6 : Int) (zp : Own) (zd : Own) (zy : okApp zd = true) : Sim (Z1Q zn zb zh zj zp zd) (Z4J x1 x4 zn zu z2 z6) (ZfH 1 (.ptr 0 0) (iv x1) (iv x4) [(Zk (Zm.mk zn zu zb zh zj (Zl.mk z2 z6)) zp zd)]) := by
 unfold Z4J
 refine zf (ZiP ..) ?_
 refine ze ?_
 refine zi fun r1 hr1 => ?_
 obtain ⟨qr1, er1, exr1, rfl⟩ := Z1e ((ByteArray.mk #[125])) (zn) (zu) (zb) (zh) (zj) (z2) (z6) zp zd zy r1 hr1
 refine zc [0] (bv r1.1) [(Zk (Zm.mk zn r1.2 zb zh zj (Zl.mk z2 z6)) zp zd)] er1 ?_
 refine za (r1.1) ?_ ?_
 ·refine zo (bv (decide (x4 ≤ 64))) ?_
  refine za ((decide (x4 ≤ 64))) ?_ ?_
  ·exact zk (Z9w (x4) (zn) (r1.2) (zb) (zh) (zj) (z2) (z6) zp zd zy)
  ·exact zk (Z6L (x1) (x4) (zn) (r1.2) (zb) (zh) (zj) (z2) (z6) zp zd zy)
 ·exact zk (Z6L (x1) (x4) (zn) (r1.2) (zb) (zh) (zj) (z2) (z6) zp zd zy)
noncomputable def Z4r (x1 : Int) (zn : List Int) (zu : Int) (zb : Int) (zh : Int) (zj : List Zv) (z2 : Int) (z6 : Int) : Option (Int × Int × Int × Int × Int) :=
 (Z3E zn zu zb zh zj z2 z6).bind fun r1 =>
 (Z19 ((ByteArray.mk #[44])) zn r1.2).bind fun r2 =>
 if (r2.1) = true then
 ((Z3E zn r2.2 zb zh zj z2 z6).bind fun r3 =>
 if ((decide (r3.1 < 0))) = true then
 (if ((decide (0 ≤ r1.1))) = true then
 (Z4J x1 r1.1 zn r3.2 z2 z6)
 else
 (Z1Y x1 r1.1 r3.1 zn r3.2 z2 z6))
 else
 (Z1Y x1 r1.1 r3.1 zn r3.2 z2 z6))
 else
 (Z1Y x1 r1.1 r1.1 zn r2.2 z2 z6)
theorem Zas (x1 : Int) (zn : List Int) (zu : Int) (zb : Int) (zh : Int) (zj : List Zv) (z2 : Int) (z6 : Int) (zp : Own) (zd : Own) (zy : okApp zd = true) : Sim (Z1Q zn zb zh zj zp zd) (Z4r x1 zn zu zb zh zj z2 z6) (EE 52 [(.ptr 0 0), (iv x1)] [(Zk (Zm.mk zn zu zb zh zj (Zl.mk z2 z6)) zp zd)]) := by
 unfold Z4r
 refine zf (Zjt ..) ?_
 refine ze ?_
 refine ze ?_
 refine zi fun r1 hr1 => ?_
 obtain ⟨qr1, er1, exr1, rfl⟩ := Z7s (zn) (zu) (zb) (zh) (zj) (z2) (z6) zp zd zy r1 hr1
 refine zc [0] (iv r1.1) [(Zk (Zm.mk zn r1.2 zb zh zj (Zl.mk z2 z6)) zp zd)] er1 ?_
 refine ze ?_
 refine ze ?_
 refine zi fun r2 hr2 => ?_
 obtain ⟨qr2, er2, exr2, rfl⟩ := Z1e ((ByteArray.mk #[44])) (zn) (r1.2) (zb) (zh) (zj) (z2) (z6) zp zd zy r2 hr2
 refine zc [0] (bv r2.1) [(Zk (Zm.mk zn r2.2 zb zh zj (Zl.mk z2 z6)) zp zd)] er2 ?_
 refine za (r2.1) ?_ ?_
 ·refine ze ?_
  refine zi fun r3 hr3 => ?_
  obtain ⟨qr3, er3, exr3, rfl⟩ := Z7s (zn) (r2.2) (zb) (zh) (zj) (z2) (z6) zp zd zy r3 hr3
  refine zc [0] (iv r3.1) [(Zk (Zm.mk zn r3.2 zb zh zj (Zl.mk z2 z6)) zp zd)] er3 ?_
  refine ze ?_
  refine zo (bv (decide (r3.1 < 0))) ?_
  refine za ((decide (r3.1 < 0))) ?_ ?_
  ·refine zo (bv (decide (0 ≤ r1.1))) ?_
   refine za ((decide (0 ≤ r1.1))) ?_ ?_
   ·exact zk (Z9o (x1) (r1.1) (zn) (r3.2) (zb) (zh) (zj) (z2) (z6) zp zd zy)
   ·exact zk (Z3V (x1) (r1.1) (r3.1) (zn) (r3.2) (zb) (zh) (zj) (z2) (z6) zp zd zy)
  ·exact zk (Z3V (x1) (r1.1) (r3.1) (zn) (r3.2) (zb) (zh) (zj) (z2) (z6) zp zd zy)
 ·exact zk (Z3V (x1) (r1.1) (r1.1) (zn) (r2.2) (zb) (zh) (zj) (z2) (z6) zp zd zy)
theorem Z7h (x1 : Int) (zn : List Int) (zu : Int) (zb : Int) (zh : Int) (zj : List Zv) (z2 : Int) (z6 : Int) {r} (h : Z4r x1 zn zu zb zh zj z2 z6 = some r) : Z4x x1 zn zu zb zh zj z2 z6 = some r :=
 pick_of (fun _ _ ha hb => RRun.uniq (Zb8 _ _ _ _ _ _) (ha .ex .ex rfl) (hb .ex .ex rfl)) (fun zp zd zy => Zas x1 zn zu zb zh zj z2 z6 zp zd zy r h)
noncomputable def Z6J (zn : List Int) (zu : Int) (zb : Int) (zh : Int) (zj : List Zv) (z2 : Int) (z6 : Int) : Option (Int × Int) :=
 Z2B ((-1)) 0 zn zu zb zh zj z2 z6
theorem Zar (zn : List Int) (zu : Int) (zb : Int) (zh : Int) (zj : List Zv) (z2 : Int) (z6 : Int) (zp : Own) (zd : Own) (zy : okApp zd = true) : Sim (Z25 zn zb zh zj z2 z6 zp zd) (Z6J zn zu zb zh zj z2 z6) (EE 63 [(.ptr 0 0)] [(Zk (Zm.mk zn zu zb zh zj (Zl.mk z2 z6)) zp zd)]) := by
 unfold Z6J
 refine zf (Zjo ..) ?_
 refine ze ?_
 refine ze ?_
 refine ze ?_
 exact zk (Z6N ((-1)) (0) (zn) (zu) (zb) (zh) (zj) (z2) (z6) zp zd zy)
theorem ZaN (zn : List Int) (zu : Int) (zb : Int) (zh : Int) (zj : List Zv) (z2 : Int) (z6 : Int) {r} (h : Z6J zn zu zb zh zj z2 z6 = some r) : Z3E zn zu zb zh zj z2 z6 = some r :=
 pick_of (fun _ _ ha hb => RRun.uniq (Z81 _ _ _ _ _ _ _ _) (ha .ex .ex rfl) (hb .ex .ex rfl)) (fun zp zd zy => Zar zn zu zb zh zj z2 z6 zp zd zy r h)
noncomputable def Z4R (x3 : Int) (x4 : Int) (zn : List Int) (zu : Int) (zb : Int) (zh : Int) (zj : List Zv) (z2 : Int) (z6 : Int) : Option (Int × Int) :=
 (Z27 zn zu).bind fun r1 =>
 Z2B ((IntKind.i64.wrap ((IntKind.i64.wrap ((IntKind.i64.wrap (10 * (max x3 0))) + r1.1)) - 48))) ((IntKind.i64.wrap (x4 + 1))) zn r1.2 zb zh zj z2 z6
theorem Z9C (x3 : Int) (x4 : Int) (zn : List Int) (zu : Int) (zb : Int) (zh : Int) (zj : List Zv) (z2 : Int) (z6 : Int) (zp : Own) (zd : Own) (zy : okApp zd = true) : Sim (Z25 zn zb zh zj z2 z6 zp zd) (Z4R x3 x4 zn zu zb zh zj z2 z6) (Zf9 1 (.ptr 0 0) (iv x3) (iv x4) [(Zk (Zm.mk zn zu zb zh zj (Zl.mk z2 z6)) zp zd)]) := by
 unfold Z4R
 refine zf (Zin ..) ?_
 refine ze ?_
 refine zo (iv (max x3 0)) ?_ (xminmax2_max _ _)
 refine zo (iv (IntKind.i64.wrap (10 * (max x3 0)))) ?_
 refine zi fun r1 hr1 => ?_
 obtain ⟨qr1, er1, exr1, rfl⟩ := Z2t (zn) (zu) (zb) (zh) (zj) (z2) (z6) zp zd zy r1 hr1
 refine zc [0] (iv r1.1) [(Zk (Zm.mk zn r1.2 zb zh zj (Zl.mk z2 z6)) zp zd)] er1 ?_
 refine zo (iv (IntKind.i64.wrap ((IntKind.i64.wrap (10 * (max x3 0))) + r1.1))) ?_
 refine zo (iv (IntKind.i64.wrap ((IntKind.i64.wrap ((IntKind.i64.wrap (10 * (max x3 0))) + r1.1)) - 48))) ?_
 refine ze ?_
 refine zo (iv (IntKind.i64.wrap (x4 + 1))) ?_
 exact zk (Z6N ((IntKind.i64.wrap ((IntKind.i64.wrap ((IntKind.i64.wrap (10 * (max x3 0))) + r1.1)) - 48))) ((IntKind.i64.wrap (x4 + 1))) (zn) (r1.2) (zb) (zh) (zj) (z2) (z6) zp zd zy)
noncomputable def Z39 (x3 : Int) (zu : Int) : Option (Int × Int) :=
 some (x3, zu)
theorem Z59 (x3 : Int) (zn : List Int) (zu : Int) (zb : Int) (zh : Int) (zj : List Zv) (z2 : Int) (z6 : Int) (zp : Own) (zd : Own) (zy : okApp zd = true) : Sim (Z25 zn zb zh zj z2 z6 zp zd) (Z39 x3 zu) (ZcL 1 (iv x3) [(Zk (Zm.mk zn zu zb zh zj (Zl.mk z2 z6)) zp zd)]) := by
 unfold Z39
 refine zf (Zij ..) ?_
 refine ze ?_
 exact zr ((iv x3), [(Zk (Zm.mk zn zu zb zh zj (Zl.mk z2 z6)) zp zd)]) ⟨_, rfl⟩
noncomputable def Z4G (x3 : Int) (x4 : Int) (zn : List Int) (zu : Int) (zb : Int) (zh : Int) (zj : List Zv) (z2 : Int) (z6 : Int) : Option (Int × Int) :=
 if ((decide (x4 < 2))) = true then
 ((Z1J ((Zm.mk zn zu zb zh zj (Zl.mk z2 z6)))).bind fun r1 =>
 if ((decide (48 ≤ r1))) = true then
 ((Z1J ((Zm.mk zn zu zb zh zj (Zl.mk z2 z6)))).bind fun r2 =>
 if ((decide (r2 ≤ 57))) = true then
 (Z4R x3 x4 zn zu zb zh zj z2 z6)
 else
 (Z39 x3 zu))
 else
 (Z39 x3 zu))
 else
 (Z39 x3 zu)
theorem Z9p (x3 : Int) (x4 : Int) (zn : List Int) (zu : Int) (zb : Int) (zh : Int) (zj : List Zv) (z2 : Int) (z6 : Int) (zp : Own) (zd : Own) (zy : okApp zd = true) : Sim (Z25 zn zb zh zj z2 z6 zp zd) (Z4G x3 x4 zn zu zb zh zj z2 z6) (ZbU 1 (.ptr 0 0) (iv x3) (iv x4) [(Zk (Zm.mk zn zu zb zh zj (Zl.mk z2 z6)) zp zd)]) := by
 unfold Z4G
 refine zf (Zih ..) ?_
 refine ze ?_
 refine zo (bv (decide (x4 < 2))) ?_
 refine za ((decide (x4 < 2))) ?_ ?_
 ·refine zi fun r1 hr1 => ?_
  obtain ⟨qr1, er1, exr1, rfl⟩ := Z1M ((Zm.mk zn zu zb zh zj (Zl.mk z2 z6))) zp zd zy r1 hr1
  refine zc [0] (iv r1) [(Zk (Zm.mk zn zu zb zh zj (Zl.mk z2 z6)) zp zd)] er1 ?_
  refine zo (bv (decide (48 ≤ r1))) ?_
  refine za ((decide (48 ≤ r1))) ?_ ?_
  ·refine zi fun r2 hr2 => ?_
   obtain ⟨qr2, er2, exr2, rfl⟩ := Z1M ((Zm.mk zn zu zb zh zj (Zl.mk z2 z6))) zp zd zy r2 hr2
   refine zc [0] (iv r2) [(Zk (Zm.mk zn zu zb zh zj (Zl.mk z2 z6)) zp zd)] er2 ?_
   refine zo (bv (decide (r2 ≤ 57))) ?_
   refine za ((decide (r2 ≤ 57))) ?_ ?_
   ·exact zk (Z9C (x3) (x4) (zn) (zu) (zb) (zh) (zj) (z2) (z6) zp zd zy)
   ·exact zk (Z59 (x3) (zn) (zu) (zb) (zh) (zj) (z2) (z6) zp zd zy)
  ·exact zk (Z59 (x3) (zn) (zu) (zb) (zh) (zj) (z2) (z6) zp zd zy)
 ·exact zk (Z59 (x3) (zn) (zu) (zb) (zh) (zj) (z2) (z6) zp zd zy)
theorem Z9T (x3 : Int) (x4 : Int) (zn : List Int) (zu : Int) (zb : Int) (zh : Int) (zj : List Zv) (z2 : Int) (z6 : Int) {r} (h : Z4G x3 x4 zn zu zb zh zj z2 z6 = some r) : Z2B x3 x4 zn zu zb zh zj z2 z6 = some r :=
 pick_of (fun _ _ ha hb => RRun.uniq (Z81 _ _ _ _ _ _ _ _) (ha .ex .ex rfl) (hb .ex .ex rfl)) (fun zp zd zy => Z9p x3 x4 zn zu zb zh zj z2 z6 zp zd zy r h)
noncomputable def Z4V (x2 : Int) (x3 : Int) : Option (Int × Int) :=
 some (x2, x3)
theorem Z5q (x2 : Int) (x3 : Int) : Sim (Z24) (Z4V x2 x3) (ZaC 0 (iv x2) (iv x3) []) := by
 unfold Z4V
 refine zf (Zhg ..) ?_
 refine ze ?_
 exact zr ((.p (.tup [(.v (.int .i64 x2)), (.v (.int .i64 x3))])), []) ⟨_, rfl⟩
noncomputable def Z70 (x0 : Z7) : Option (Int × Int) :=
 if ((x0.Kind == 1)) = true then
 (some (1, 1))
 else
 (if ((x0.Kind == 6)) = true then
 (some (0, (-1)))
 else
 (if ((x0.Kind == 2)) = true then
 (Z56 0 0 x0.Kids ((x0.Kids.length : Int)) 0)
 else
 (if ((x0.Kind == 3)) = true then
 (Z45 1048576 0 x0.Kids ((x0.Kids.length : Int)) 0)
 else
 (if ((x0.Kind == 4)) = true then
 ((lget x0.Kids 0).bind fun a1 =>
 (Z1t a1).bind fun r2 =>
 (Z68 r2.2 x0.Hi).bind fun r3 =>
 some ((min (IntKind.i64.wrap (r2.1 * x0.Lo)) 1048576), r3))
 else
 (if ((x0.Kind == 5)) = true then
 (if ((x0.Kind == 5)) = true then
 ((lget x0.Kids 0).bind fun a4 =>
 (Z1t a4).bind fun r5 =>
 some (r5.1, r5.2))
 else
 (Z4V 0 0))
 else
 (if ((x0.Kind == 8)) = true then
 ((lget x0.Kids 0).bind fun a6 =>
 (Z1t a6).bind fun r7 =>
 some (r7.1, r7.2))
 else
 (Z4V 0 0)))))))
theorem Zdh (x0 : Z7) (z1g : Own) (z11 : Own) : Sim (Z24) (Z70 x0) (EE 24 [(.p (.agg (ZC x0 z1g z11)))] []) := by
 unfold Z70
 refine zf (ZkE ..) ?_
 refine ze ?_
 refine zx (.ptr 0 0) [(Zq x0 z1g z11)] ?_
 refine ze ?_
 refine zo (.ptr 0 0) ?_
 refine zo (iv x0.Kind) ?_
 refine ze ?_
 refine zo (bv (x0.Kind == 1)) ?_
 refine za ((x0.Kind == 1)) ?_ ?_
 ·refine ze ?_
  exact zr ((.p (.tup [(.v (.int .i64 1)), (.v (.int .i64 1))])), [(Zq x0 z1g z11)]) ⟨_, rfl⟩
 ·refine ze ?_
  refine zo (bv (x0.Kind == 6)) ?_
  refine za ((x0.Kind == 6)) ?_ ?_
  ·refine ze ?_
   exact zr ((.p (.tup [(.v (.int .i64 0)), (.v (.int .i64 (-1)))])), [(Zq x0 z1g z11)]) ⟨_, rfl⟩
  ·refine ze ?_
   refine zo (bv (x0.Kind == 2)) ?_
   refine za ((x0.Kind == 2)) ?_ ?_
   ·refine ze ?_
    refine zo (.ptr 0 6) ?_
    refine zo (.p (.lst (shrO z11) (x0.Kids.map ZG))) ?_
    refine zo (iv (x0.Kids.length : Int)) ?_ (Eq.trans (by kernel_rfl) (xlen_of (P := PP) (t := 25) (d := 27) (by kernel_rfl) ZG (shrO z11) x0.Kids))
    exact zk (Z9n (0) (0) (x0.Kids) ((x0.Kids.length : Int)) (0) (shrO z11))
   ·refine ze ?_
    refine zo (bv (x0.Kind == 3)) ?_
    refine za ((x0.Kind == 3)) ?_ ?_
    ·refine ze ?_
     refine ze ?_
     refine zo (.ptr 0 6) ?_
     refine zo (.p (.lst (shrO z11) (x0.Kids.map ZG))) ?_
     refine zo (iv (x0.Kids.length : Int)) ?_ (Eq.trans (by kernel_rfl) (xlen_of (P := PP) (t := 25) (d := 27) (by kernel_rfl) ZG (shrO z11) x0.Kids))
     exact zk (Z99 (1048576) (0) (x0.Kids) ((x0.Kids.length : Int)) (0) (shrO z11))
    ·refine ze ?_
     refine zo (bv (x0.Kind == 4)) ?_
     refine za ((x0.Kind == 4)) ?_ ?_
     ·refine ze ?_
      refine zo (.ptr 0 6) ?_
      refine zo (.p (.lst (shrO z11) (x0.Kids.map ZG))) ?_
      refine zi fun a1 ha1 => ?_
      refine zo (.cptr (ZC a1 .sh .sh)) ?_ (Eq.trans (by kernel_rfl) (xidx_of (o := (shrO z11)) (k := .i64) (n := 7) (e := ZG) (cs := Z1V) Z3X (fun _ => rfl) (by decide) ha1))
      refine zo (.p (.agg (ZC a1 .sh .sh))) ?_
      refine zi fun r2 hr2 => ?_
      obtain ⟨qr2, er2, exr2, rfl⟩ := Z3M (a1) .sh .sh r2 hr2
      refine zc [] (.p (.tup [(.v (.int .i64 r2.1)), (.v (.int .i64 r2.2))])) [(Zq x0 z1g z11)] er2 ?_
      refine zo (iv r2.1) ?_
      refine zo (iv r2.2) ?_
      refine ze ?_
      refine zo (.ptr 0 1) ?_
      refine zo (iv x0.Lo) ?_
      refine zo (iv (IntKind.i64.wrap (r2.1 * x0.Lo))) ?_
      refine zo (iv (min (IntKind.i64.wrap (r2.1 * x0.Lo)) 1048576)) ?_ (xminmax2_min _ _)
      refine zo (.ptr 0 2) ?_
      refine zo (iv x0.Hi) ?_
      refine zi fun r3 hr3 => ?_
      obtain ⟨qr3, er3, exr3, rfl⟩ := ZdG (r2.2) (x0.Hi) r3 hr3
      refine zc [] (iv r3) [(Zq x0 z1g z11)] er3 ?_
      refine zg ?_
      exact zr ((.p (.tup [(.v (.int .i64 (min (IntKind.i64.wrap (r2.1 * x0.Lo)) 1048576))), (.v (.int .i64 r3))])), [(Zq x0 z1g z11)]) ⟨_, rfl⟩
     ·refine ze ?_
      refine zo (bv (x0.Kind == 5)) ?_
      refine za ((x0.Kind == 5)) ?_ ?_
      ·refine za ((x0.Kind == 5)) ?_ ?_
       ·refine ze ?_
        refine zo (.ptr 0 6) ?_
        refine zo (.p (.lst (shrO z11) (x0.Kids.map ZG))) ?_
        refine zi fun a4 ha4 => ?_
        refine zo (.cptr (ZC a4 .sh .sh)) ?_ (Eq.trans (by kernel_rfl) (xidx_of (o := (shrO z11)) (k := .i64) (n := 7) (e := ZG) (cs := Z1V) Z3X (fun _ => rfl) (by decide) ha4))
        refine zo (.p (.agg (ZC a4 .sh .sh))) ?_
        refine zi fun r5 hr5 => ?_
        obtain ⟨qr5, er5, exr5, rfl⟩ := Z3M (a4) .sh .sh r5 hr5
        refine zc [] (.p (.tup [(.v (.int .i64 r5.1)), (.v (.int .i64 r5.2))])) [(Zq x0 z1g z11)] er5 ?_
        refine zo (iv r5.1) ?_
        refine zo (iv r5.2) ?_
        exact zr ((.p (.tup [(.v (.int .i64 r5.1)), (.v (.int .i64 r5.2))])), [(Zq x0 z1g z11)]) ⟨_, rfl⟩
       ·exact zk (Z5q (0) (0))
      ·refine ze ?_
       refine zo (bv (x0.Kind == 8)) ?_
       refine za ((x0.Kind == 8)) ?_ ?_
       ·refine ze ?_
        refine zo (.ptr 0 6) ?_
        refine zo (.p (.lst (shrO z11) (x0.Kids.map ZG))) ?_
        refine zi fun a6 ha6 => ?_
        refine zo (.cptr (ZC a6 .sh .sh)) ?_ (Eq.trans (by kernel_rfl) (xidx_of (o := (shrO z11)) (k := .i64) (n := 7) (e := ZG) (cs := Z1V) Z3X (fun _ => rfl) (by decide) ha6))
        refine zo (.p (.agg (ZC a6 .sh .sh))) ?_
        refine zi fun r7 hr7 => ?_
        obtain ⟨qr7, er7, exr7, rfl⟩ := Z3M (a6) .sh .sh r7 hr7
        refine zc [] (.p (.tup [(.v (.int .i64 r7.1)), (.v (.int .i64 r7.2))])) [(Zq x0 z1g z11)] er7 ?_
        refine zo (iv r7.1) ?_
        refine zo (iv r7.2) ?_
        exact zr ((.p (.tup [(.v (.int .i64 r7.1)), (.v (.int .i64 r7.2))])), [(Zq x0 z1g z11)]) ⟨_, rfl⟩
       ·exact zk (Z5q (0) (0))
theorem ZaP (x0 : Z7) {r} (h : Z70 x0 = some r) : Z1t x0 = some r :=
 pick_of (fun _ _ ha hb => RRun.uniq (Z9c) (ha .ex .ex) (hb .ex .ex)) (fun z1g z11 => Zdh x0 z1g z11 r h)
noncomputable def Z5U (x2 : Int) (x3 : Int) (x23 : List Z7) (x24 : Int) (x25 : Int) : Option (Int × Int) :=
 (lget x23 x25).bind fun a1 =>
 (Z1t a1).bind fun r2 =>
 (Z9I x3 r2.2).bind fun r3 =>
 Z56 ((min (IntKind.i64.wrap (x2 + r2.1)) 1048576)) r3 x23 x24 ((IntKind.i64.wrap (x25 + 1)))
theorem Zcv (x2 : Int) (x3 : Int) (x23 : List Z7) (x24 : Int) (x25 : Int) (ox23 : Own) : Sim (Z24) (Z5U x2 x3 x23 x24 x25) (ZfQ 0 (iv x2) (iv x3) (.p (.lst ox23 (x23.map ZG))) (iv x24) (iv x25) []) := by
 unfold Z5U
 refine zf (ZiO ..) ?_
 refine ze ?_
 refine zi fun a1 ha1 => ?_
 refine zo (.cptr (ZC a1 .sh .sh)) ?_ (Eq.trans (by kernel_rfl) (xidx_of (o := ox23) (k := .i64) (n := 7) (e := ZG) (cs := Z1V) Z3X (fun _ => rfl) (by decide) ha1))
 refine zo (.p (.agg (ZC a1 .sh .sh))) ?_
 refine zz (.ptr 0 0) [(Zq (Z7.mk 0 0 0 0 0 ([] : List Zc) ([] : List Z7)) .nl .nl)] ?_
 refine zt [(Zq a1 .sh .sh)] ?_
 refine ze ?_
 refine zo (.p (.agg (ZC a1 .sh .sh))) ?_
 refine zi fun r2 hr2 => ?_
 obtain ⟨qr2, er2, exr2, rfl⟩ := Z3M (a1) .sh .sh r2 hr2
 refine zc [] (.p (.tup [(.v (.int .i64 r2.1)), (.v (.int .i64 r2.2))])) [(Zq a1 .sh .sh)] er2 ?_
 refine zo (iv r2.1) ?_
 refine zo (iv r2.2) ?_
 refine ze ?_
 refine zo (iv (IntKind.i64.wrap (x2 + r2.1))) ?_
 refine zo (iv (min (IntKind.i64.wrap (x2 + r2.1)) 1048576)) ?_ (xminmax2_min _ _)
 refine zi fun r3 hr3 => ?_
 obtain ⟨qr3, er3, exr3, rfl⟩ := ZeD (x3) (r2.2) r3 hr3
 refine zc [] (iv r3) [(Zq a1 .sh .sh)] er3 ?_
 refine ze ?_
 refine zo (iv (IntKind.i64.wrap (x25 + 1))) ?_
 exact zk (Z9n ((min (IntKind.i64.wrap (x2 + r2.1)) 1048576)) (r3) (x23) (x24) ((IntKind.i64.wrap (x25 + 1))) ox23)
noncomputable def Z4l (x2 : Int) (x3 : Int) (x23 : List Z7) (x24 : Int) (x25 : Int) : Option (Int × Int) :=
 if ((decide (x25 < x24))) = true then
 (Z5U x2 x3 x23 x24 x25)
 else
 (Z4V x2 x3)
theorem Zcu (x2 : Int) (x3 : Int) (x23 : List Z7) (x24 : Int) (x25 : Int) (ox23 : Own) : Sim (Z24) (Z4l x2 x3 x23 x24 x25) (Zbz 0 (iv x2) (iv x3) (.p (.lst ox23 (x23.map ZG))) (iv x24) (iv x25) []) := by
 unfold Z4l
 refine zf (Ziv ..) ?_
 refine ze ?_
 refine zo (bv (decide (x25 < x24))) ?_
 refine za ((decide (x25 < x24))) ?_ ?_
 ·exact zk (Zcv (x2) (x3) (x23) (x24) (x25) ox23)
 ·exact zk (Z5q (x2) (x3))
theorem Z64 (x2 : Int) (x3 : Int) (x23 : List Z7) (x24 : Int) (x25 : Int) {r} (h : Z4l x2 x3 x23 x24 x25 = some r) : Z56 x2 x3 x23 x24 x25 = some r :=
 pick_of (fun _ _ ha hb => RRun.uniq (Z9c) (ha .ex) (hb .ex)) (fun ox23 => Zcu x2 x3 x23 x24 x25 ox23 r h)
noncomputable def Z4U (x2 : Int) (x3 : Int) (x45 : List Z7) (x46 : Int) (x47 : Int) : Option (Int × Int) :=
 Z45 x2 x3 x45 x46 ((IntKind.i64.wrap (x47 + 1)))
theorem Z8N (x2 : Int) (x3 : Int) (x45 : List Z7) (x46 : Int) (x47 : Int) (ox45 : Own) : Sim (Z24) (Z4U x2 x3 x45 x46 x47) (Zdf 0 (iv x2) (iv x3) (.p (.lst ox45 (x45.map ZG))) (iv x46) (iv x47) []) := by
 unfold Z4U
 refine zf (ZgF ..) ?_
 refine ze ?_
 refine zo (iv (IntKind.i64.wrap (x47 + 1))) ?_
 exact zk (Z99 (x2) (x3) (x45) (x46) ((IntKind.i64.wrap (x47 + 1))) ox45)
noncomputable def Z4S (x2 : Int) (x45 : List Z7) (x46 : Int) (x47 : Int) : Option (Int × Int) :=
 Z4U x2 ((-1)) x45 x46 x47
theorem Z8V (x2 : Int) (x45 : List Z7) (x46 : Int) (x47 : Int) (ox45 : Own) : Sim (Z24) (Z4S x2 x45 x46 x47) (Zd7 0 (iv x2) (.p (.lst ox45 (x45.map ZG))) (iv x46) (iv x47) []) := by
 unfold Z4S
 refine zf (Zhb ..) ?_
 refine ze ?_
 exact zk (Z8N (x2) ((-1)) (x45) (x46) (x47) ox45)
noncomputable def Z5B (x2 : Int) (x3 : Int) (x11 : Int) (x45 : List Z7) (x46 : Int) (x47 : Int) : Option (Int × Int) :=
 Z4U x2 ((max x3 x11)) x45 x46 x47
theorem Zcf (x2 : Int) (x3 : Int) (x11 : Int) (x45 : List Z7) (x46 : Int) (x47 : Int) (ox45 : Own) : Sim (Z24) (Z5B x2 x3 x11 x45 x46 x47) (ZeH 0 (iv x2) (iv x3) (iv x11) (.p (.lst ox45 (x45.map ZG))) (iv x46) (iv x47) []) := by
 unfold Z5B
 refine zf (ZgP ..) ?_
 refine ze ?_
 refine zo (iv (max x3 x11)) ?_ (xminmax2_max _ _)
 exact zk (Z8N (x2) ((max x3 x11)) (x45) (x46) (x47) ox45)
noncomputable def Z5D (x2 : Int) (x3 : Int) (x45 : List Z7) (x46 : Int) (x47 : Int) : Option (Int × Int) :=
 (lget x45 x47).bind fun a1 =>
 (Z1t a1).bind fun r2 =>
 if ((decide (r2.2 < 0))) = true then
 (Z4S ((min x2 r2.1)) x45 x46 x47)
 else
 (if ((decide (x3 < 0))) = true then
 (Z4S ((min x2 r2.1)) x45 x46 x47)
 else
 (Z5B ((min x2 r2.1)) x3 r2.2 x45 x46 x47))
theorem Zcd (x2 : Int) (x3 : Int) (x45 : List Z7) (x46 : Int) (x47 : Int) (ox45 : Own) : Sim (Z24) (Z5D x2 x3 x45 x46 x47) (ZeB 0 (iv x2) (iv x3) (.p (.lst ox45 (x45.map ZG))) (iv x46) (iv x47) []) := by
 unfold Z5D
 refine zf (ZgL ..) ?_
 refine ze ?_
 refine zi fun a1 ha1 => ?_
 refine zo (.cptr (ZC a1 .sh .sh)) ?_ (Eq.trans (by kernel_rfl) (xidx_of (o := ox45) (k := .i64) (n := 7) (e := ZG) (cs := Z1V) Z3X (fun _ => rfl) (by decide) ha1))
 refine zo (.p (.agg (ZC a1 .sh .sh))) ?_
 refine zz (.ptr 0 0) [(Zq (Z7.mk 0 0 0 0 0 ([] : List Zc) ([] : List Z7)) .nl .nl)] ?_
 refine zt [(Zq a1 .sh .sh)] ?_
 refine ze ?_
 refine zo (.p (.agg (ZC a1 .sh .sh))) ?_
 refine zi fun r2 hr2 => ?_
 obtain ⟨qr2, er2, exr2, rfl⟩ := Z3M (a1) .sh .sh r2 hr2
 refine zc [] (.p (.tup [(.v (.int .i64 r2.1)), (.v (.int .i64 r2.2))])) [(Zq a1 .sh .sh)] er2 ?_
 refine zo (iv r2.1) ?_
 refine zo (iv r2.2) ?_
 refine ze ?_
 refine zo (iv (min x2 r2.1)) ?_ (xminmax2_min _ _)
 refine ze ?_
 refine zo (bv (decide (r2.2 < 0))) ?_
 refine za ((decide (r2.2 < 0))) ?_ ?_
 ·exact zk (Z8V ((min x2 r2.1)) (x45) (x46) (x47) ox45)
 ·refine zo (bv (decide (x3 < 0))) ?_
  refine za ((decide (x3 < 0))) ?_ ?_
  ·exact zk (Z8V ((min x2 r2.1)) (x45) (x46) (x47) ox45)
  ·exact zk (Zcf ((min x2 r2.1)) (x3) (r2.2) (x45) (x46) (x47) ox45)
noncomputable def Z44 (x2 : Int) (x3 : Int) (x45 : List Z7) (x46 : Int) (x47 : Int) : Option (Int × Int) :=
 if ((decide (x47 < x46))) = true then
 (Z5D x2 x3 x45 x46 x47)
 else
 (Z4V x2 x3)
theorem ZbM (x2 : Int) (x3 : Int) (x45 : List Z7) (x46 : Int) (x47 : Int) (ox45 : Own) : Sim (Z24) (Z44 x2 x3 x45 x46 x47) (Zaz 0 (iv x2) (iv x3) (.p (.lst ox45 (x45.map ZG))) (iv x46) (iv x47) []) := by
 unfold Z44
 refine zf (Zhi ..) ?_
 refine ze ?_
 refine zo (bv (decide (x47 < x46))) ?_
 refine za ((decide (x47 < x46))) ?_ ?_
 ·exact zk (Zcd (x2) (x3) (x45) (x46) (x47) ox45)
 ·exact zk (Z5q (x2) (x3))
theorem Z5L (x2 : Int) (x3 : Int) (x45 : List Z7) (x46 : Int) (x47 : Int) {r} (h : Z44 x2 x3 x45 x46 x47 = some r) : Z45 x2 x3 x45 x46 x47 = some r :=
 pick_of (fun _ _ ha hb => RRun.uniq (Z9c) (ha .ex) (hb .ex)) (fun ox45 => ZbM x2 x3 x45 x46 x47 ox45 r h)
end Go.Proofs.YtadodmjdkphddaaDoor.N2
end
section
set_option linter.unusedSimpArgs false
set_option linter.unusedVariables false
namespace Go.Proofs.YtadodmjdkphddaaDoor.N2
open Go Go.Abs
set_option linter.unusedVariables false
set_option maxRecDepth 100000
noncomputable def Z5T  : Option (Int) :=
 some (0)
theorem Z9b  : Sim (Z4j) (Z5T) (ZdK 0  []) := by
 unfold Z5T
 refine zf (Zil ..) ?_
 refine ze ?_
 exact zr ((iv 0), []) ⟨_, rfl⟩
noncomputable def Z5Q  : Option (Int) :=
 some ((-1))
theorem Z9h  : Sim (Z4j) (Z5Q) (ZdT 0  []) := by
 unfold Z5Q
 refine zf (Zid ..) ?_
 refine ze ?_
 exact zr ((iv (-1)), []) ⟨_, rfl⟩
noncomputable def Z6O (x0 : Int) (x1 : Int) : Option (Int) :=
 (Z7k ((IntKind.i64.wrap (x0 * x1)))).bind fun r1 =>
 some (r1)
theorem Zcm (x0 : Int) (x1 : Int) : Sim (Z4j) (Z6O x0 x1) (ZfA 0 (iv x0) (iv x1) []) := by
 unfold Z6O
 refine zf (Zii ..) ?_
 refine ze ?_
 refine zo (iv (IntKind.i64.wrap (x0 * x1))) ?_
 refine zi fun r1 hr1 => ?_
 obtain ⟨qr1, er1, exr1, rfl⟩ := Zbh ((IntKind.i64.wrap (x0 * x1))) r1 hr1
 refine zc [] (iv r1) [] er1 ?_
 exact zr ((iv r1), []) ⟨_, rfl⟩
noncomputable def Z6R (x0 : Int) (x1 : Int) : Option (Int) :=
 if ((decide (x0 < 0))) = true then
 (Z5Q)
 else
 (if ((decide (x1 < 0))) = true then
 (Z5Q)
 else
 (Z6O x0 x1))
theorem Zcq (x0 : Int) (x1 : Int) : Sim (Z4j) (Z6R x0 x1) (Zfm 0 (iv x0) (iv x1) []) := by
 unfold Z6R
 refine zf (Zht ..) ?_
 refine ze ?_
 refine zo (bv (decide (x0 < 0))) ?_
 refine za ((decide (x0 < 0))) ?_ ?_
 ·exact zk (Z9h )
 ·refine zo (bv (decide (x1 < 0))) ?_
  refine za ((decide (x1 < 0))) ?_ ?_
  ·exact zk (Z9h )
  ·exact zk (Zcm (x0) (x1))
noncomputable def Z8v (x0 : Int) (x1 : Int) : Option (Int) :=
 if ((x0 == 0)) = true then
 (Z5T)
 else
 (if ((x1 == 0)) = true then
 (Z5T)
 else
 (Z6R x0 x1))
theorem Zdm (x0 : Int) (x1 : Int) : Sim (Z4j) (Z8v x0 x1) (EE 33 [(iv x0), (iv x1)] []) := by
 unfold Z8v
 refine zf (ZkP ..) ?_
 refine ze ?_
 refine ze ?_
 refine zo (bv (x0 == 0)) ?_
 refine za ((x0 == 0)) ?_ ?_
 ·exact zk (Z9b )
 ·refine zo (bv (x1 == 0)) ?_
  refine za ((x1 == 0)) ?_ ?_
  ·exact zk (Z9b )
  ·exact zk (Zcq (x0) (x1))
theorem ZdH (x0 : Int) (x1 : Int) {r} (h : Z8v x0 x1 = some r) : Z68 x0 x1 = some r :=
 pick_of (fun _ _ ha hb => RRun.uniq (Ze2) (ha ) (hb )) (Zdm x0 x1 r h)
noncomputable def Z77 (x0 : Int) : Option (Int) :=
 some (x0)
theorem Zcz (x0 : Int) : Sim (Z6H) (Z77 x0) (Zfd 0 (iv x0) []) := by
 unfold Z77
 refine zf (ZhT ..) ?_
 refine ze ?_
 exact zr ((iv x0), []) ⟨_, rfl⟩
noncomputable def Z9f (x0 : Int) : Option (Int) :=
 if ((decide (1048576 < x0))) = true then
 (some ((-1)))
 else
 (Z77 x0)
theorem Zdu (x0 : Int) : Sim (Z6H) (Z9f x0) (EE 38 [(iv x0)] []) := by
 unfold Z9f
 refine zf (ZkK ..) ?_
 refine ze ?_
 refine ze ?_
 refine zo (bv (decide (1048576 < x0))) ?_
 refine za ((decide (1048576 < x0))) ?_ ?_
 ·refine ze ?_
  exact zr ((iv (-1)), []) ⟨_, rfl⟩
 ·exact zk (Zcz (x0))
theorem ZdJ (x0 : Int) {r} (h : Z9f x0 = some r) : Z7k x0 = some r :=
 pick_of (fun _ _ ha hb => RRun.uniq (Zem) (ha ) (hb )) (Zdu x0 r h)
noncomputable def Z6B  : Option (Int) :=
 some ((-1))
theorem Z9R  : Sim (Z6m) (Z6B) (Zea 0  []) := by
 unfold Z6B
 refine zf (ZiG ..) ?_
 refine ze ?_
 exact zr ((iv (-1)), []) ⟨_, rfl⟩
noncomputable def Z7M (x0 : Int) (x1 : Int) : Option (Int) :=
 (Z7k ((IntKind.i64.wrap (x0 + x1)))).bind fun r1 =>
 some (r1)
theorem Zd1 (x0 : Int) (x1 : Int) : Sim (Z6m) (Z7M x0 x1) (Zgg 0 (iv x0) (iv x1) []) := by
 unfold Z7M
 refine zf (Ziu ..) ?_
 refine ze ?_
 refine zo (iv (IntKind.i64.wrap (x0 + x1))) ?_
 refine zi fun r1 hr1 => ?_
 obtain ⟨qr1, er1, exr1, rfl⟩ := Zbh ((IntKind.i64.wrap (x0 + x1))) r1 hr1
 refine zc [] (iv r1) [] er1 ?_
 exact zr ((iv r1), []) ⟨_, rfl⟩
noncomputable def Z9G (x0 : Int) (x1 : Int) : Option (Int) :=
 if ((decide (x0 < 0))) = true then
 (Z6B)
 else
 (if ((decide (x1 < 0))) = true then
 (Z6B)
 else
 (Z7M x0 x1))
theorem ZdN (x0 : Int) (x1 : Int) : Sim (Z6m) (Z9G x0 x1) (EE 32 [(iv x0), (iv x1)] []) := by
 unfold Z9G
 refine zf (ZjR ..) ?_
 refine ze ?_
 refine ze ?_
 refine zo (bv (decide (x0 < 0))) ?_
 refine za ((decide (x0 < 0))) ?_ ?_
 ·exact zk (Z9R )
 ·refine zo (bv (decide (x1 < 0))) ?_
  refine za ((decide (x1 < 0))) ?_ ?_
  ·exact zk (Z9R )
  ·exact zk (Zd1 (x0) (x1))
theorem ZeE (x0 : Int) (x1 : Int) {r} (h : Z9G x0 x1 = some r) : Z9I x0 x1 = some r :=
 pick_of (fun _ _ ha hb => RRun.uniq (ZeQ) (ha ) (hb )) (ZdN x0 x1 r h)
noncomputable def ZaR (x0 : Z7) : Option (Int) :=
 Z3u 0 x0.Kids ((x0.Kids.length : Int)) 0 x0
theorem Zdv (x0 : Z7) (z1g : Own) (z11 : Own) : Sim (Z3g) (ZaR x0) (EE 25 [(.p (.agg (ZC x0 z1g z11)))] []) := by
 unfold ZaR
 refine zf (Zk9 ..) ?_
 refine ze ?_
 refine zx (.ptr 0 0) [(Zq x0 z1g z11)] ?_
 refine ze ?_
 refine ze ?_
 refine zo (.ptr 0 6) ?_
 refine zo (.p (.lst (shrO z11) (x0.Kids.map ZG))) ?_
 refine zo (iv (x0.Kids.length : Int)) ?_ (Eq.trans (by kernel_rfl) (xlen_of (P := PP) (t := 25) (d := 27) (by kernel_rfl) ZG (shrO z11) x0.Kids))
 exact zk (Z9U (0) (x0.Kids) ((x0.Kids.length : Int)) (0) (x0) (shrO z11) z1g z11)
theorem Z7g (x0 : Z7) {r} (h : ZaR x0 = some r) : Z2g x0 = some r :=
 pick_of (fun _ _ ha hb => RRun.uniq (ZbV) (ha .ex .ex) (hb .ex .ex)) (fun z1g z11 => Zdv x0 z1g z11 r h)
noncomputable def Z6b (x3 : Int) (x8 : List Z7) (x9 : Int) (x10 : Int) (b0 : Z7) : Option (Int) :=
 (lget x8 x10).bind fun a1 =>
 (Z2g a1).bind fun r2 =>
 Z3u ((min (IntKind.i64.wrap (x3 + r2)) 1048576)) x8 x9 ((IntKind.i64.wrap (x10 + 1))) b0
theorem ZcK (x3 : Int) (x8 : List Z7) (x9 : Int) (x10 : Int) (b0 : Z7) (ox8 : Own) (z1f : Own) (z15 : Own) : Sim (Z3g) (Z6b x3 x8 x9 x10 b0) (ZfV 0 (.ptr 0 0) (iv x3) (.p (.lst ox8 (x8.map ZG))) (iv x9) (iv x10) [(Zq b0 z1f z15)]) := by
 unfold Z6b
 refine zf (ZiL ..) ?_
 refine ze ?_
 refine zi fun a1 ha1 => ?_
 refine zo (.cptr (ZC a1 .sh .sh)) ?_ (Eq.trans (by kernel_rfl) (xidx_of (o := ox8) (k := .i64) (n := 7) (e := ZG) (cs := Z1V) Z3X (fun _ => rfl) (by decide) ha1))
 refine zo (.p (.agg (ZC a1 .sh .sh))) ?_
 refine zz (.ptr 1 0) [(Zq b0 z1f z15), (Zq (Z7.mk 0 0 0 0 0 ([] : List Zc) ([] : List Z7)) .nl .nl)] ?_
 refine zt [(Zq b0 z1f z15), (Zq a1 .sh .sh)] ?_
 refine ze ?_
 refine zo (.p (.agg (ZC a1 .sh .sh))) ?_
 refine zi fun r2 hr2 => ?_
 obtain ⟨qr2, er2, exr2, rfl⟩ := Z75 (a1) .sh .sh r2 hr2
 refine zc [] (iv r2) [(Zq b0 z1f z15), (Zq a1 .sh .sh)] er2 ?_
 refine zo (iv (IntKind.i64.wrap (x3 + r2))) ?_
 refine zo (iv (min (IntKind.i64.wrap (x3 + r2)) 1048576)) ?_ (xminmax2_min _ _)
 refine ze ?_
 refine zo (iv (IntKind.i64.wrap (x10 + 1))) ?_
 exact zk (Z9U ((min (IntKind.i64.wrap (x3 + r2)) 1048576)) (x8) (x9) ((IntKind.i64.wrap (x10 + 1))) (b0) ox8 z1f z15)
noncomputable def ZZ (x3 : Int) : Option (Int) :=
 some ((min x3 1048576))
theorem Z17 (x3 : Int) : Sim (Z3g) (ZZ x3) (Z2R 0 (iv x3) []) := by
 unfold ZZ
 refine zf (Zhd ..) ?_
 refine ze ?_
 refine zo (iv (min x3 1048576)) ?_ (xminmax2_min _ _)
 exact zr ((iv (min x3 1048576)), []) ⟨_, rfl⟩
noncomputable def Z18 (x3 : Int) (b0 : Z7) : Option (Int) :=
 if ((b0.Mode == 2)) = true then
 (ZZ ((IntKind.i64.wrap (x3 + 2))))
 else
 (ZZ x3)
theorem Z1j (x3 : Int) (b0 : Z7) (z1f : Own) (z15 : Own) : Sim (Z3g) (Z18 x3 b0) (Z3A 0 (.ptr 0 0) (iv x3) [(Zq b0 z1f z15)]) := by
 unfold Z18
 refine zf (Zh3 ..) ?_
 refine ze ?_
 refine zo (.ptr 0 3) ?_
 refine zo (iv b0.Mode) ?_
 refine zo (bv (b0.Mode == 2)) ?_
 refine za ((b0.Mode == 2)) ?_ ?_
 ·refine ze ?_
  refine zo (iv (IntKind.i64.wrap (x3 + 2))) ?_
  exact zk (Z17 ((IntKind.i64.wrap (x3 + 2))))
 ·exact zk (Z17 (x3))
noncomputable def Z1P (x3 : Int) (b0 : Z7) : Option (Int) :=
 if ((b0.Kind == 1)) = true then
 (if ((b0.Kind == 1)) = true then
 (some (1))
 else
 (if ((b0.Kind == 3)) = true then
 (ZZ ((IntKind.i64.wrap (x3 + (IntKind.i64.wrap (2 * (IntKind.i64.wrap ((b0.Kids.length : Int) - 1))))))))
 else
 (if ((b0.Kind == 5)) = true then
 (if ((b0.Kind == 5)) = true then
 (ZZ ((IntKind.i64.wrap (x3 + 2))))
 else
 (if ((b0.Kind == 4)) = true then
 (if ((decide (b0.Hi < 0))) = true then
 (Z18 ((IntKind.i64.wrap ((IntKind.i64.wrap (b0.Lo * x3)) + (IntKind.i64.wrap (x3 + 4))))) b0)
 else
 (Z18 ((IntKind.i64.wrap ((IntKind.i64.wrap (b0.Lo * x3)) + (IntKind.i64.wrap ((IntKind.i64.wrap (b0.Hi - b0.Lo)) * (IntKind.i64.wrap (x3 + 1))))))) b0))
 else
 (ZZ x3)))
 else
 (if ((b0.Kind == 7)) = true then
 (if ((b0.Kind == 7)) = true then
 (ZZ ((IntKind.i64.wrap (x3 + 2))))
 else
 (if ((b0.Kind == 4)) = true then
 (if ((decide (b0.Hi < 0))) = true then
 (Z18 ((IntKind.i64.wrap ((IntKind.i64.wrap (b0.Lo * x3)) + (IntKind.i64.wrap (x3 + 4))))) b0)
 else
 (Z18 ((IntKind.i64.wrap ((IntKind.i64.wrap (b0.Lo * x3)) + (IntKind.i64.wrap ((IntKind.i64.wrap (b0.Hi - b0.Lo)) * (IntKind.i64.wrap (x3 + 1))))))) b0))
 else
 (ZZ x3)))
 else
 (if ((b0.Kind == 8)) = true then
 (ZZ ((IntKind.i64.wrap (x3 + 2))))
 else
 (if ((b0.Kind == 4)) = true then
 (if ((decide (b0.Hi < 0))) = true then
 (Z18 ((IntKind.i64.wrap ((IntKind.i64.wrap (b0.Lo * x3)) + (IntKind.i64.wrap (x3 + 4))))) b0)
 else
 (Z18 ((IntKind.i64.wrap ((IntKind.i64.wrap (b0.Lo * x3)) + (IntKind.i64.wrap ((IntKind.i64.wrap (b0.Hi - b0.Lo)) * (IntKind.i64.wrap (x3 + 1))))))) b0))
 else
 (ZZ x3)))))))
 else
 (if ((b0.Kind == 6)) = true then
 (if ((b0.Kind == 6)) = true then
 (some (1))
 else
 (if ((b0.Kind == 3)) = true then
 (ZZ ((IntKind.i64.wrap (x3 + (IntKind.i64.wrap (2 * (IntKind.i64.wrap ((b0.Kids.length : Int) - 1))))))))
 else
 (if ((b0.Kind == 5)) = true then
 (if ((b0.Kind == 5)) = true then
 (ZZ ((IntKind.i64.wrap (x3 + 2))))
 else
 (if ((b0.Kind == 4)) = true then
 (if ((decide (b0.Hi < 0))) = true then
 (Z18 ((IntKind.i64.wrap ((IntKind.i64.wrap (b0.Lo * x3)) + (IntKind.i64.wrap (x3 + 4))))) b0)
 else
 (Z18 ((IntKind.i64.wrap ((IntKind.i64.wrap (b0.Lo * x3)) + (IntKind.i64.wrap ((IntKind.i64.wrap (b0.Hi - b0.Lo)) * (IntKind.i64.wrap (x3 + 1))))))) b0))
 else
 (ZZ x3)))
 else
 (if ((b0.Kind == 7)) = true then
 (if ((b0.Kind == 7)) = true then
 (ZZ ((IntKind.i64.wrap (x3 + 2))))
 else
 (if ((b0.Kind == 4)) = true then
 (if ((decide (b0.Hi < 0))) = true then
 (Z18 ((IntKind.i64.wrap ((IntKind.i64.wrap (b0.Lo * x3)) + (IntKind.i64.wrap (x3 + 4))))) b0)
 else
 (Z18 ((IntKind.i64.wrap ((IntKind.i64.wrap (b0.Lo * x3)) + (IntKind.i64.wrap ((IntKind.i64.wrap (b0.Hi - b0.Lo)) * (IntKind.i64.wrap (x3 + 1))))))) b0))
 else
 (ZZ x3)))
 else
 (if ((b0.Kind == 8)) = true then
 (ZZ ((IntKind.i64.wrap (x3 + 2))))
 else
 (if ((b0.Kind == 4)) = true then
 (if ((decide (b0.Hi < 0))) = true then
 (Z18 ((IntKind.i64.wrap ((IntKind.i64.wrap (b0.Lo * x3)) + (IntKind.i64.wrap (x3 + 4))))) b0)
 else
 (Z18 ((IntKind.i64.wrap ((IntKind.i64.wrap (b0.Lo * x3)) + (IntKind.i64.wrap ((IntKind.i64.wrap (b0.Hi - b0.Lo)) * (IntKind.i64.wrap (x3 + 1))))))) b0))
 else
 (ZZ x3)))))))
 else
 (if ((b0.Kind == 9)) = true then
 (some (1))
 else
 (if ((b0.Kind == 3)) = true then
 (ZZ ((IntKind.i64.wrap (x3 + (IntKind.i64.wrap (2 * (IntKind.i64.wrap ((b0.Kids.length : Int) - 1))))))))
 else
 (if ((b0.Kind == 5)) = true then
 (if ((b0.Kind == 5)) = true then
 (ZZ ((IntKind.i64.wrap (x3 + 2))))
 else
 (if ((b0.Kind == 4)) = true then
 (if ((decide (b0.Hi < 0))) = true then
 (Z18 ((IntKind.i64.wrap ((IntKind.i64.wrap (b0.Lo * x3)) + (IntKind.i64.wrap (x3 + 4))))) b0)
 else
 (Z18 ((IntKind.i64.wrap ((IntKind.i64.wrap (b0.Lo * x3)) + (IntKind.i64.wrap ((IntKind.i64.wrap (b0.Hi - b0.Lo)) * (IntKind.i64.wrap (x3 + 1))))))) b0))
 else
 (ZZ x3)))
 else
 (if ((b0.Kind == 7)) = true then
 (if ((b0.Kind == 7)) = true then
 (ZZ ((IntKind.i64.wrap (x3 + 2))))
 else
 (if ((b0.Kind == 4)) = true then
 (if ((decide (b0.Hi < 0))) = true then
 (Z18 ((IntKind.i64.wrap ((IntKind.i64.wrap (b0.Lo * x3)) + (IntKind.i64.wrap (x3 + 4))))) b0)
 else
 (Z18 ((IntKind.i64.wrap ((IntKind.i64.wrap (b0.Lo * x3)) + (IntKind.i64.wrap ((IntKind.i64.wrap (b0.Hi - b0.Lo)) * (IntKind.i64.wrap (x3 + 1))))))) b0))
 else
 (ZZ x3)))
 else
 (if ((b0.Kind == 8)) = true then
 (ZZ ((IntKind.i64.wrap (x3 + 2))))
 else
 (if ((b0.Kind == 4)) = true then
 (if ((decide (b0.Hi < 0))) = true then
 (Z18 ((IntKind.i64.wrap ((IntKind.i64.wrap (b0.Lo * x3)) + (IntKind.i64.wrap (x3 + 4))))) b0)
 else
 (Z18 ((IntKind.i64.wrap ((IntKind.i64.wrap (b0.Lo * x3)) + (IntKind.i64.wrap ((IntKind.i64.wrap (b0.Hi - b0.Lo)) * (IntKind.i64.wrap (x3 + 1))))))) b0))
 else
 (ZZ x3))))))))
theorem ZcH (x3 : Int) (b0 : Z7) (z1f : Own) (z15 : Own) : Sim (Z3g) (Z1P x3 b0) (ZeX 0 (.ptr 0 0) (iv x3) [(Zq b0 z1f z15)]) := by
 unfold Z1P
 refine zf (Zi6 ..) ?_
 refine ze ?_
 refine zo (.ptr 0 0) ?_
 refine zo (iv b0.Kind) ?_
 refine ze ?_
 refine zo (bv (b0.Kind == 1)) ?_
 refine za ((b0.Kind == 1)) ?_ ?_
 ·refine za ((b0.Kind == 1)) ?_ ?_
  ·refine ze ?_
   exact zr ((iv 1), [(Zq b0 z1f z15)]) ⟨_, rfl⟩
  ·refine ze ?_
   refine zo (bv (b0.Kind == 3)) ?_
   refine za ((b0.Kind == 3)) ?_ ?_
   ·refine ze ?_
    refine zo (.ptr 0 6) ?_
    refine zo (.p (.lst (shrO z15) (b0.Kids.map ZG))) ?_
    refine zo (iv (b0.Kids.length : Int)) ?_ (Eq.trans (by kernel_rfl) (xlen_of (P := PP) (t := 25) (d := 27) (by kernel_rfl) ZG (shrO z15) b0.Kids))
    refine zo (iv (IntKind.i64.wrap ((b0.Kids.length : Int) - 1))) ?_
    refine zo (iv (IntKind.i64.wrap (2 * (IntKind.i64.wrap ((b0.Kids.length : Int) - 1))))) ?_
    refine zo (iv (IntKind.i64.wrap (x3 + (IntKind.i64.wrap (2 * (IntKind.i64.wrap ((b0.Kids.length : Int) - 1))))))) ?_
    exact zk (Z17 ((IntKind.i64.wrap (x3 + (IntKind.i64.wrap (2 * (IntKind.i64.wrap ((b0.Kids.length : Int) - 1))))))))
   ·refine ze ?_
    refine zo (bv (b0.Kind == 5)) ?_
    refine za ((b0.Kind == 5)) ?_ ?_
    ·refine za ((b0.Kind == 5)) ?_ ?_
     ·refine ze ?_
      refine zo (iv (IntKind.i64.wrap (x3 + 2))) ?_
      exact zk (Z17 ((IntKind.i64.wrap (x3 + 2))))
     ·refine ze ?_
      refine zo (bv (b0.Kind == 4)) ?_
      refine za ((b0.Kind == 4)) ?_ ?_
      ·refine ze ?_
       refine ze ?_
       refine zo (.ptr 0 1) ?_
       refine zo (iv b0.Lo) ?_
       refine zo (iv (IntKind.i64.wrap (b0.Lo * x3))) ?_
       refine ze ?_
       refine zo (.ptr 0 2) ?_
       refine zo (iv b0.Hi) ?_
       refine zo (bv (decide (b0.Hi < 0))) ?_
       refine za ((decide (b0.Hi < 0))) ?_ ?_
       ·refine ze ?_
        refine zo (iv (IntKind.i64.wrap (x3 + 4))) ?_
        refine zo (iv (IntKind.i64.wrap ((IntKind.i64.wrap (b0.Lo * x3)) + (IntKind.i64.wrap (x3 + 4))))) ?_
        exact zk (Z1j ((IntKind.i64.wrap ((IntKind.i64.wrap (b0.Lo * x3)) + (IntKind.i64.wrap (x3 + 4))))) (b0) z1f z15)
       ·refine ze ?_
        refine zo (.ptr 0 2) ?_
        refine zo (iv b0.Hi) ?_
        refine zo (.ptr 0 1) ?_
        refine zo (iv b0.Lo) ?_
        refine zo (iv (IntKind.i64.wrap (b0.Hi - b0.Lo))) ?_
        refine zo (iv (IntKind.i64.wrap (x3 + 1))) ?_
        refine zo (iv (IntKind.i64.wrap ((IntKind.i64.wrap (b0.Hi - b0.Lo)) * (IntKind.i64.wrap (x3 + 1))))) ?_
        refine zo (iv (IntKind.i64.wrap ((IntKind.i64.wrap (b0.Lo * x3)) + (IntKind.i64.wrap ((IntKind.i64.wrap (b0.Hi - b0.Lo)) * (IntKind.i64.wrap (x3 + 1))))))) ?_
        exact zk (Z1j ((IntKind.i64.wrap ((IntKind.i64.wrap (b0.Lo * x3)) + (IntKind.i64.wrap ((IntKind.i64.wrap (b0.Hi - b0.Lo)) * (IntKind.i64.wrap (x3 + 1))))))) (b0) z1f z15)
      ·exact zk (Z17 (x3))
    ·refine ze ?_
     refine zo (bv (b0.Kind == 7)) ?_
     refine za ((b0.Kind == 7)) ?_ ?_
     ·refine za ((b0.Kind == 7)) ?_ ?_
      ·refine ze ?_
       refine zo (iv (IntKind.i64.wrap (x3 + 2))) ?_
       exact zk (Z17 ((IntKind.i64.wrap (x3 + 2))))
      ·refine ze ?_
       refine zo (bv (b0.Kind == 4)) ?_
       refine za ((b0.Kind == 4)) ?_ ?_
       ·refine ze ?_
        refine ze ?_
        refine zo (.ptr 0 1) ?_
        refine zo (iv b0.Lo) ?_
        refine zo (iv (IntKind.i64.wrap (b0.Lo * x3))) ?_
        refine ze ?_
        refine zo (.ptr 0 2) ?_
        refine zo (iv b0.Hi) ?_
        refine zo (bv (decide (b0.Hi < 0))) ?_
        refine za ((decide (b0.Hi < 0))) ?_ ?_
        ·refine ze ?_
         refine zo (iv (IntKind.i64.wrap (x3 + 4))) ?_
         refine zo (iv (IntKind.i64.wrap ((IntKind.i64.wrap (b0.Lo * x3)) + (IntKind.i64.wrap (x3 + 4))))) ?_
         exact zk (Z1j ((IntKind.i64.wrap ((IntKind.i64.wrap (b0.Lo * x3)) + (IntKind.i64.wrap (x3 + 4))))) (b0) z1f z15)
        ·refine ze ?_
         refine zo (.ptr 0 2) ?_
         refine zo (iv b0.Hi) ?_
         refine zo (.ptr 0 1) ?_
         refine zo (iv b0.Lo) ?_
         refine zo (iv (IntKind.i64.wrap (b0.Hi - b0.Lo))) ?_
         refine zo (iv (IntKind.i64.wrap (x3 + 1))) ?_
         refine zo (iv (IntKind.i64.wrap ((IntKind.i64.wrap (b0.Hi - b0.Lo)) * (IntKind.i64.wrap (x3 + 1))))) ?_
         refine zo (iv (IntKind.i64.wrap ((IntKind.i64.wrap (b0.Lo * x3)) + (IntKind.i64.wrap ((IntKind.i64.wrap (b0.Hi - b0.Lo)) * (IntKind.i64.wrap (x3 + 1))))))) ?_
         exact zk (Z1j ((IntKind.i64.wrap ((IntKind.i64.wrap (b0.Lo * x3)) + (IntKind.i64.wrap ((IntKind.i64.wrap (b0.Hi - b0.Lo)) * (IntKind.i64.wrap (x3 + 1))))))) (b0) z1f z15)
       ·exact zk (Z17 (x3))
     ·refine ze ?_
      refine zo (bv (b0.Kind == 8)) ?_
      refine za ((b0.Kind == 8)) ?_ ?_
      ·refine ze ?_
       refine zo (iv (IntKind.i64.wrap (x3 + 2))) ?_
       exact zk (Z17 ((IntKind.i64.wrap (x3 + 2))))
      ·refine ze ?_
       refine zo (bv (b0.Kind == 4)) ?_
       refine za ((b0.Kind == 4)) ?_ ?_
       ·refine ze ?_
        refine ze ?_
        refine zo (.ptr 0 1) ?_
        refine zo (iv b0.Lo) ?_
        refine zo (iv (IntKind.i64.wrap (b0.Lo * x3))) ?_
        refine ze ?_
        refine zo (.ptr 0 2) ?_
        refine zo (iv b0.Hi) ?_
        refine zo (bv (decide (b0.Hi < 0))) ?_
        refine za ((decide (b0.Hi < 0))) ?_ ?_
        ·refine ze ?_
         refine zo (iv (IntKind.i64.wrap (x3 + 4))) ?_
         refine zo (iv (IntKind.i64.wrap ((IntKind.i64.wrap (b0.Lo * x3)) + (IntKind.i64.wrap (x3 + 4))))) ?_
         exact zk (Z1j ((IntKind.i64.wrap ((IntKind.i64.wrap (b0.Lo * x3)) + (IntKind.i64.wrap (x3 + 4))))) (b0) z1f z15)
        ·refine ze ?_
         refine zo (.ptr 0 2) ?_
         refine zo (iv b0.Hi) ?_
         refine zo (.ptr 0 1) ?_
         refine zo (iv b0.Lo) ?_
         refine zo (iv (IntKind.i64.wrap (b0.Hi - b0.Lo))) ?_
         refine zo (iv (IntKind.i64.wrap (x3 + 1))) ?_
         refine zo (iv (IntKind.i64.wrap ((IntKind.i64.wrap (b0.Hi - b0.Lo)) * (IntKind.i64.wrap (x3 + 1))))) ?_
         refine zo (iv (IntKind.i64.wrap ((IntKind.i64.wrap (b0.Lo * x3)) + (IntKind.i64.wrap ((IntKind.i64.wrap (b0.Hi - b0.Lo)) * (IntKind.i64.wrap (x3 + 1))))))) ?_
         exact zk (Z1j ((IntKind.i64.wrap ((IntKind.i64.wrap (b0.Lo * x3)) + (IntKind.i64.wrap ((IntKind.i64.wrap (b0.Hi - b0.Lo)) * (IntKind.i64.wrap (x3 + 1))))))) (b0) z1f z15)
       ·exact zk (Z17 (x3))
 ·refine ze ?_
  refine zo (bv (b0.Kind == 6)) ?_
  refine za ((b0.Kind == 6)) ?_ ?_
  ·refine za ((b0.Kind == 6)) ?_ ?_
   ·refine ze ?_
    exact zr ((iv 1), [(Zq b0 z1f z15)]) ⟨_, rfl⟩
   ·refine ze ?_
    refine zo (bv (b0.Kind == 3)) ?_
    refine za ((b0.Kind == 3)) ?_ ?_
    ·refine ze ?_
     refine zo (.ptr 0 6) ?_
     refine zo (.p (.lst (shrO z15) (b0.Kids.map ZG))) ?_
     refine zo (iv (b0.Kids.length : Int)) ?_ (Eq.trans (by kernel_rfl) (xlen_of (P := PP) (t := 25) (d := 27) (by kernel_rfl) ZG (shrO z15) b0.Kids))
     refine zo (iv (IntKind.i64.wrap ((b0.Kids.length : Int) - 1))) ?_
     refine zo (iv (IntKind.i64.wrap (2 * (IntKind.i64.wrap ((b0.Kids.length : Int) - 1))))) ?_
     refine zo (iv (IntKind.i64.wrap (x3 + (IntKind.i64.wrap (2 * (IntKind.i64.wrap ((b0.Kids.length : Int) - 1))))))) ?_
     exact zk (Z17 ((IntKind.i64.wrap (x3 + (IntKind.i64.wrap (2 * (IntKind.i64.wrap ((b0.Kids.length : Int) - 1))))))))
    ·refine ze ?_
     refine zo (bv (b0.Kind == 5)) ?_
     refine za ((b0.Kind == 5)) ?_ ?_
     ·refine za ((b0.Kind == 5)) ?_ ?_
      ·refine ze ?_
       refine zo (iv (IntKind.i64.wrap (x3 + 2))) ?_
       exact zk (Z17 ((IntKind.i64.wrap (x3 + 2))))
      ·refine ze ?_
       refine zo (bv (b0.Kind == 4)) ?_
       refine za ((b0.Kind == 4)) ?_ ?_
       ·refine ze ?_
        refine ze ?_
        refine zo (.ptr 0 1) ?_
        refine zo (iv b0.Lo) ?_
        refine zo (iv (IntKind.i64.wrap (b0.Lo * x3))) ?_
        refine ze ?_
        refine zo (.ptr 0 2) ?_
        refine zo (iv b0.Hi) ?_
        refine zo (bv (decide (b0.Hi < 0))) ?_
        refine za ((decide (b0.Hi < 0))) ?_ ?_
        ·refine ze ?_
         refine zo (iv (IntKind.i64.wrap (x3 + 4))) ?_
         refine zo (iv (IntKind.i64.wrap ((IntKind.i64.wrap (b0.Lo * x3)) + (IntKind.i64.wrap (x3 + 4))))) ?_
         exact zk (Z1j ((IntKind.i64.wrap ((IntKind.i64.wrap (b0.Lo * x3)) + (IntKind.i64.wrap (x3 + 4))))) (b0) z1f z15)
        ·refine ze ?_
         refine zo (.ptr 0 2) ?_
         refine zo (iv b0.Hi) ?_
         refine zo (.ptr 0 1) ?_
         refine zo (iv b0.Lo) ?_
         refine zo (iv (IntKind.i64.wrap (b0.Hi - b0.Lo))) ?_
         refine zo (iv (IntKind.i64.wrap (x3 + 1))) ?_
         refine zo (iv (IntKind.i64.wrap ((IntKind.i64.wrap (b0.Hi - b0.Lo)) * (IntKind.i64.wrap (x3 + 1))))) ?_
         refine zo (iv (IntKind.i64.wrap ((IntKind.i64.wrap (b0.Lo * x3)) + (IntKind.i64.wrap ((IntKind.i64.wrap (b0.Hi - b0.Lo)) * (IntKind.i64.wrap (x3 + 1))))))) ?_
         exact zk (Z1j ((IntKind.i64.wrap ((IntKind.i64.wrap (b0.Lo * x3)) + (IntKind.i64.wrap ((IntKind.i64.wrap (b0.Hi - b0.Lo)) * (IntKind.i64.wrap (x3 + 1))))))) (b0) z1f z15)
       ·exact zk (Z17 (x3))
     ·refine ze ?_
      refine zo (bv (b0.Kind == 7)) ?_
      refine za ((b0.Kind == 7)) ?_ ?_
      ·refine za ((b0.Kind == 7)) ?_ ?_
       ·refine ze ?_
        refine zo (iv (IntKind.i64.wrap (x3 + 2))) ?_
        exact zk (Z17 ((IntKind.i64.wrap (x3 + 2))))
       ·refine ze ?_
        refine zo (bv (b0.Kind == 4)) ?_
        refine za ((b0.Kind == 4)) ?_ ?_
        ·refine ze ?_
         refine ze ?_
         refine zo (.ptr 0 1) ?_
         refine zo (iv b0.Lo) ?_
         refine zo (iv (IntKind.i64.wrap (b0.Lo * x3))) ?_
         refine ze ?_
         refine zo (.ptr 0 2) ?_
         refine zo (iv b0.Hi) ?_
         refine zo (bv (decide (b0.Hi < 0))) ?_
         refine za ((decide (b0.Hi < 0))) ?_ ?_
         ·refine ze ?_
          refine zo (iv (IntKind.i64.wrap (x3 + 4))) ?_
          refine zo (iv (IntKind.i64.wrap ((IntKind.i64.wrap (b0.Lo * x3)) + (IntKind.i64.wrap (x3 + 4))))) ?_
          exact zk (Z1j ((IntKind.i64.wrap ((IntKind.i64.wrap (b0.Lo * x3)) + (IntKind.i64.wrap (x3 + 4))))) (b0) z1f z15)
         ·refine ze ?_
          refine zo (.ptr 0 2) ?_
          refine zo (iv b0.Hi) ?_
          refine zo (.ptr 0 1) ?_
          refine zo (iv b0.Lo) ?_
          refine zo (iv (IntKind.i64.wrap (b0.Hi - b0.Lo))) ?_
          refine zo (iv (IntKind.i64.wrap (x3 + 1))) ?_
          refine zo (iv (IntKind.i64.wrap ((IntKind.i64.wrap (b0.Hi - b0.Lo)) * (IntKind.i64.wrap (x3 + 1))))) ?_
          refine zo (iv (IntKind.i64.wrap ((IntKind.i64.wrap (b0.Lo * x3)) + (IntKind.i64.wrap ((IntKind.i64.wrap (b0.Hi - b0.Lo)) * (IntKind.i64.wrap (x3 + 1))))))) ?_
          exact zk (Z1j ((IntKind.i64.wrap ((IntKind.i64.wrap (b0.Lo * x3)) + (IntKind.i64.wrap ((IntKind.i64.wrap (b0.Hi - b0.Lo)) * (IntKind.i64.wrap (x3 + 1))))))) (b0) z1f z15)
        ·exact zk (Z17 (x3))
      ·refine ze ?_
       refine zo (bv (b0.Kind == 8)) ?_
       refine za ((b0.Kind == 8)) ?_ ?_
       ·refine ze ?_
        refine zo (iv (IntKind.i64.wrap (x3 + 2))) ?_
        exact zk (Z17 ((IntKind.i64.wrap (x3 + 2))))
       ·refine ze ?_
        refine zo (bv (b0.Kind == 4)) ?_
        refine za ((b0.Kind == 4)) ?_ ?_
        ·refine ze ?_
         refine ze ?_
         refine zo (.ptr 0 1) ?_
         refine zo (iv b0.Lo) ?_
         refine zo (iv (IntKind.i64.wrap (b0.Lo * x3))) ?_
         refine ze ?_
         refine zo (.ptr 0 2) ?_
         refine zo (iv b0.Hi) ?_
         refine zo (bv (decide (b0.Hi < 0))) ?_
         refine za ((decide (b0.Hi < 0))) ?_ ?_
         ·refine ze ?_
          refine zo (iv (IntKind.i64.wrap (x3 + 4))) ?_
          refine zo (iv (IntKind.i64.wrap ((IntKind.i64.wrap (b0.Lo * x3)) + (IntKind.i64.wrap (x3 + 4))))) ?_
          exact zk (Z1j ((IntKind.i64.wrap ((IntKind.i64.wrap (b0.Lo * x3)) + (IntKind.i64.wrap (x3 + 4))))) (b0) z1f z15)
         ·refine ze ?_
          refine zo (.ptr 0 2) ?_
          refine zo (iv b0.Hi) ?_
          refine zo (.ptr 0 1) ?_
          refine zo (iv b0.Lo) ?_
          refine zo (iv (IntKind.i64.wrap (b0.Hi - b0.Lo))) ?_
          refine zo (iv (IntKind.i64.wrap (x3 + 1))) ?_
          refine zo (iv (IntKind.i64.wrap ((IntKind.i64.wrap (b0.Hi - b0.Lo)) * (IntKind.i64.wrap (x3 + 1))))) ?_
          refine zo (iv (IntKind.i64.wrap ((IntKind.i64.wrap (b0.Lo * x3)) + (IntKind.i64.wrap ((IntKind.i64.wrap (b0.Hi - b0.Lo)) * (IntKind.i64.wrap (x3 + 1))))))) ?_
          exact zk (Z1j ((IntKind.i64.wrap ((IntKind.i64.wrap (b0.Lo * x3)) + (IntKind.i64.wrap ((IntKind.i64.wrap (b0.Hi - b0.Lo)) * (IntKind.i64.wrap (x3 + 1))))))) (b0) z1f z15)
        ·exact zk (Z17 (x3))
  ·refine ze ?_
   refine zo (bv (b0.Kind == 9)) ?_
   refine za ((b0.Kind == 9)) ?_ ?_
   ·refine ze ?_
    exact zr ((iv 1), [(Zq b0 z1f z15)]) ⟨_, rfl⟩
   ·refine ze ?_
    refine zo (bv (b0.Kind == 3)) ?_
    refine za ((b0.Kind == 3)) ?_ ?_
    ·refine ze ?_
     refine zo (.ptr 0 6) ?_
     refine zo (.p (.lst (shrO z15) (b0.Kids.map ZG))) ?_
     refine zo (iv (b0.Kids.length : Int)) ?_ (Eq.trans (by kernel_rfl) (xlen_of (P := PP) (t := 25) (d := 27) (by kernel_rfl) ZG (shrO z15) b0.Kids))
     refine zo (iv (IntKind.i64.wrap ((b0.Kids.length : Int) - 1))) ?_
     refine zo (iv (IntKind.i64.wrap (2 * (IntKind.i64.wrap ((b0.Kids.length : Int) - 1))))) ?_
     refine zo (iv (IntKind.i64.wrap (x3 + (IntKind.i64.wrap (2 * (IntKind.i64.wrap ((b0.Kids.length : Int) - 1))))))) ?_
     exact zk (Z17 ((IntKind.i64.wrap (x3 + (IntKind.i64.wrap (2 * (IntKind.i64.wrap ((b0.Kids.length : Int) - 1))))))))
    ·refine ze ?_
     refine zo (bv (b0.Kind == 5)) ?_
     refine za ((b0.Kind == 5)) ?_ ?_
     ·refine za ((b0.Kind == 5)) ?_ ?_
      ·refine ze ?_
       refine zo (iv (IntKind.i64.wrap (x3 + 2))) ?_
       exact zk (Z17 ((IntKind.i64.wrap (x3 + 2))))
      ·refine ze ?_
       refine zo (bv (b0.Kind == 4)) ?_
       refine za ((b0.Kind == 4)) ?_ ?_
       ·refine ze ?_
        refine ze ?_
        refine zo (.ptr 0 1) ?_
        refine zo (iv b0.Lo) ?_
        refine zo (iv (IntKind.i64.wrap (b0.Lo * x3))) ?_
        refine ze ?_
        refine zo (.ptr 0 2) ?_
        refine zo (iv b0.Hi) ?_
        refine zo (bv (decide (b0.Hi < 0))) ?_
        refine za ((decide (b0.Hi < 0))) ?_ ?_
        ·refine ze ?_
         refine zo (iv (IntKind.i64.wrap (x3 + 4))) ?_
         refine zo (iv (IntKind.i64.wrap ((IntKind.i64.wrap (b0.Lo * x3)) + (IntKind.i64.wrap (x3 + 4))))) ?_
         exact zk (Z1j ((IntKind.i64.wrap ((IntKind.i64.wrap (b0.Lo * x3)) + (IntKind.i64.wrap (x3 + 4))))) (b0) z1f z15)
        ·refine ze ?_
         refine zo (.ptr 0 2) ?_
         refine zo (iv b0.Hi) ?_
         refine zo (.ptr 0 1) ?_
         refine zo (iv b0.Lo) ?_
         refine zo (iv (IntKind.i64.wrap (b0.Hi - b0.Lo))) ?_
         refine zo (iv (IntKind.i64.wrap (x3 + 1))) ?_
         refine zo (iv (IntKind.i64.wrap ((IntKind.i64.wrap (b0.Hi - b0.Lo)) * (IntKind.i64.wrap (x3 + 1))))) ?_
         refine zo (iv (IntKind.i64.wrap ((IntKind.i64.wrap (b0.Lo * x3)) + (IntKind.i64.wrap ((IntKind.i64.wrap (b0.Hi - b0.Lo)) * (IntKind.i64.wrap (x3 + 1))))))) ?_
         exact zk (Z1j ((IntKind.i64.wrap ((IntKind.i64.wrap (b0.Lo * x3)) + (IntKind.i64.wrap ((IntKind.i64.wrap (b0.Hi - b0.Lo)) * (IntKind.i64.wrap (x3 + 1))))))) (b0) z1f z15)
       ·exact zk (Z17 (x3))
     ·refine ze ?_
      refine zo (bv (b0.Kind == 7)) ?_
      refine za ((b0.Kind == 7)) ?_ ?_
      ·refine za ((b0.Kind == 7)) ?_ ?_
       ·refine ze ?_
        refine zo (iv (IntKind.i64.wrap (x3 + 2))) ?_
        exact zk (Z17 ((IntKind.i64.wrap (x3 + 2))))
       ·refine ze ?_
        refine zo (bv (b0.Kind == 4)) ?_
        refine za ((b0.Kind == 4)) ?_ ?_
        ·refine ze ?_
         refine ze ?_
         refine zo (.ptr 0 1) ?_
         refine zo (iv b0.Lo) ?_
         refine zo (iv (IntKind.i64.wrap (b0.Lo * x3))) ?_
         refine ze ?_
         refine zo (.ptr 0 2) ?_
         refine zo (iv b0.Hi) ?_
         refine zo (bv (decide (b0.Hi < 0))) ?_
         refine za ((decide (b0.Hi < 0))) ?_ ?_
         ·refine ze ?_
          refine zo (iv (IntKind.i64.wrap (x3 + 4))) ?_
          refine zo (iv (IntKind.i64.wrap ((IntKind.i64.wrap (b0.Lo * x3)) + (IntKind.i64.wrap (x3 + 4))))) ?_
          exact zk (Z1j ((IntKind.i64.wrap ((IntKind.i64.wrap (b0.Lo * x3)) + (IntKind.i64.wrap (x3 + 4))))) (b0) z1f z15)
         ·refine ze ?_
          refine zo (.ptr 0 2) ?_
          refine zo (iv b0.Hi) ?_
          refine zo (.ptr 0 1) ?_
          refine zo (iv b0.Lo) ?_
          refine zo (iv (IntKind.i64.wrap (b0.Hi - b0.Lo))) ?_
          refine zo (iv (IntKind.i64.wrap (x3 + 1))) ?_
          refine zo (iv (IntKind.i64.wrap ((IntKind.i64.wrap (b0.Hi - b0.Lo)) * (IntKind.i64.wrap (x3 + 1))))) ?_
          refine zo (iv (IntKind.i64.wrap ((IntKind.i64.wrap (b0.Lo * x3)) + (IntKind.i64.wrap ((IntKind.i64.wrap (b0.Hi - b0.Lo)) * (IntKind.i64.wrap (x3 + 1))))))) ?_
          exact zk (Z1j ((IntKind.i64.wrap ((IntKind.i64.wrap (b0.Lo * x3)) + (IntKind.i64.wrap ((IntKind.i64.wrap (b0.Hi - b0.Lo)) * (IntKind.i64.wrap (x3 + 1))))))) (b0) z1f z15)
        ·exact zk (Z17 (x3))
      ·refine ze ?_
       refine zo (bv (b0.Kind == 8)) ?_
       refine za ((b0.Kind == 8)) ?_ ?_
       ·refine ze ?_
        refine zo (iv (IntKind.i64.wrap (x3 + 2))) ?_
        exact zk (Z17 ((IntKind.i64.wrap (x3 + 2))))
       ·refine ze ?_
        refine zo (bv (b0.Kind == 4)) ?_
        refine za ((b0.Kind == 4)) ?_ ?_
        ·refine ze ?_
         refine ze ?_
         refine zo (.ptr 0 1) ?_
         refine zo (iv b0.Lo) ?_
         refine zo (iv (IntKind.i64.wrap (b0.Lo * x3))) ?_
         refine ze ?_
         refine zo (.ptr 0 2) ?_
         refine zo (iv b0.Hi) ?_
         refine zo (bv (decide (b0.Hi < 0))) ?_
         refine za ((decide (b0.Hi < 0))) ?_ ?_
         ·refine ze ?_
          refine zo (iv (IntKind.i64.wrap (x3 + 4))) ?_
          refine zo (iv (IntKind.i64.wrap ((IntKind.i64.wrap (b0.Lo * x3)) + (IntKind.i64.wrap (x3 + 4))))) ?_
          exact zk (Z1j ((IntKind.i64.wrap ((IntKind.i64.wrap (b0.Lo * x3)) + (IntKind.i64.wrap (x3 + 4))))) (b0) z1f z15)
         ·refine ze ?_
          refine zo (.ptr 0 2) ?_
          refine zo (iv b0.Hi) ?_
          refine zo (.ptr 0 1) ?_
          refine zo (iv b0.Lo) ?_
          refine zo (iv (IntKind.i64.wrap (b0.Hi - b0.Lo))) ?_
          refine zo (iv (IntKind.i64.wrap (x3 + 1))) ?_
          refine zo (iv (IntKind.i64.wrap ((IntKind.i64.wrap (b0.Hi - b0.Lo)) * (IntKind.i64.wrap (x3 + 1))))) ?_
          refine zo (iv (IntKind.i64.wrap ((IntKind.i64.wrap (b0.Lo * x3)) + (IntKind.i64.wrap ((IntKind.i64.wrap (b0.Hi - b0.Lo)) * (IntKind.i64.wrap (x3 + 1))))))) ?_
          exact zk (Z1j ((IntKind.i64.wrap ((IntKind.i64.wrap (b0.Lo * x3)) + (IntKind.i64.wrap ((IntKind.i64.wrap (b0.Hi - b0.Lo)) * (IntKind.i64.wrap (x3 + 1))))))) (b0) z1f z15)
        ·exact zk (Z17 (x3))
noncomputable def Z4P (x3 : Int) (x8 : List Z7) (x9 : Int) (x10 : Int) (b0 : Z7) : Option (Int) :=
 if ((decide (x10 < x9))) = true then
 (Z6b x3 x8 x9 x10 b0)
 else
 (Z1P x3 b0)
theorem Zcy (x3 : Int) (x8 : List Z7) (x9 : Int) (x10 : Int) (b0 : Z7) (ox8 : Own) (z1f : Own) (z15 : Own) : Sim (Z3g) (Z4P x3 x8 x9 x10 b0) (Zc0 0 (.ptr 0 0) (iv x3) (.p (.lst ox8 (x8.map ZG))) (iv x9) (iv x10) [(Zq b0 z1f z15)]) := by
 unfold Z4P
 refine zf (Zho ..) ?_
 refine ze ?_
 refine zo (bv (decide (x10 < x9))) ?_
 refine za ((decide (x10 < x9))) ?_ ?_
 ·exact zk (ZcK (x3) (x8) (x9) (x10) (b0) ox8 z1f z15)
 ·exact zk (ZcH (x3) (b0) z1f z15)
theorem Z6a (x3 : Int) (x8 : List Z7) (x9 : Int) (x10 : Int) (b0 : Z7) {r} (h : Z4P x3 x8 x9 x10 b0 = some r) : Z3u x3 x8 x9 x10 b0 = some r :=
 pick_of (fun _ _ ha hb => RRun.uniq (ZbV) (ha .ex .ex .ex) (hb .ex .ex .ex)) (fun ox8 z1f z15 => Zcy x3 x8 x9 x10 b0 ox8 z1f z15 r h)
noncomputable def Z6T  : Option (Int) :=
 some (0)
theorem Zcl  : Sim (Z67) (Z6T) (Zfy 0  []) := by
 unfold Z6T
 refine zf (Zi7 ..) ?_
 refine ze ?_
 exact zr ((iv 0), []) ⟨_, rfl⟩
noncomputable def Z8z (x0 : ZF) : Option (Int) :=
 (Z2U x0.Root).bind fun r1 =>
 if ((!r1)) = true then
 (some (27))
 else
 ((Z2g x0.Root).bind fun r2 =>
 if ((decide (2000 < (IntKind.i64.wrap (r2 + 3))))) = true then
 (some (28))
 else
 (Z6T))
theorem Zdk (x0 : ZF) (z2D : Own) (z2n : Own) : Sim (Z67) (Z8z x0) (EE 26 [(.p (.agg (Z1A x0 z2D z2n)))] []) := by
 unfold Z8z
 refine zf (ZjG ..) ?_
 refine ze ?_
 refine zx (.ptr 0 0) [(ZD x0 z2D z2n)] ?_
 refine ze ?_
 refine zo (.ptr 0 0) ?_
 refine zo (.p (.agg (ZC x0.Root (shrO z2D) (shrO z2n)))) ?_
 refine zi fun r1 hr1 => ?_
 obtain ⟨qr1, er1, exr1, rfl⟩ := Z9O (x0.Root) .sh .sh r1 hr1
 refine zc [] (bv r1) [(ZD x0 z2D z2n)] er1 ?_
 refine zo (bv (!r1)) ?_
 refine za ((!r1)) ?_ ?_
 ·refine ze ?_
  exact zr ((iv 27), [(ZD x0 z2D z2n)]) ⟨_, rfl⟩
 ·refine ze ?_
  refine zo (.ptr 0 0) ?_
  refine zo (.p (.agg (ZC x0.Root (shrO z2D) (shrO z2n)))) ?_
  refine zi fun r2 hr2 => ?_
  obtain ⟨qr2, er2, exr2, rfl⟩ := Z75 (x0.Root) .sh .sh r2 hr2
  refine zc [] (iv r2) [(ZD x0 z2D z2n)] er2 ?_
  refine zo (iv (IntKind.i64.wrap (r2 + 3))) ?_
  refine zo (bv (decide (2000 < (IntKind.i64.wrap (r2 + 3))))) ?_
  refine za ((decide (2000 < (IntKind.i64.wrap (r2 + 3))))) ?_ ?_
  ·refine ze ?_
   exact zr ((iv 28), [(ZD x0 z2D z2n)]) ⟨_, rfl⟩
  ·exact zk (Zcl )
theorem Zdy (x0 : ZF) {r} (h : Z8z x0 = some r) : Z8t x0 = some r :=
 pick_of (fun _ _ ha hb => RRun.uniq (ZdI) (ha .ex .ex) (hb .ex .ex)) (fun z2D z2n => Zdk x0 z2D z2n r h)
noncomputable def Z5l  : Option (Bool) :=
 some (false)
theorem Z8i  : Sim (Z4a) (Z5l) (Zef 0  []) := by
 unfold Z5l
 refine zf (ZiC ..) ?_
 refine ze ?_
 exact zr ((bv false), []) ⟨_, rfl⟩
noncomputable def Z2s (b0 : Z7) : Option (Bool) :=
 (Z3y b0.Kids).bind fun r1 =>
 some ((!r1))
theorem Z6l (b0 : Z7) (z1f : Own) (z15 : Own) : Sim (Z4a) (Z2s b0) (ZcY 0 (.ptr 0 0) [(Zq b0 z1f z15)]) := by
 unfold Z2s
 refine zf (Zi1 ..) ?_
 refine ze ?_
 refine zo (.ptr 0 6) ?_
 refine zo (.p (.lst (shrO z15) (b0.Kids.map ZG))) ?_
 refine zi fun r1 hr1 => ?_
 obtain ⟨qr1, er1, exr1, rfl⟩ := Z8l (b0.Kids) .sh r1 hr1
 refine zc [] (bv r1) [(Zq b0 z1f z15)] er1 ?_
 refine zo (bv (!r1)) ?_
 exact zr ((bv (!r1)), [(Zq b0 z1f z15)]) ⟨_, rfl⟩
noncomputable def Z5m (b0 : Z7) : Option (Bool) :=
 (lget b0.Kids 0).bind fun a1 =>
 (Z1t a1).bind fun r2 =>
 if ((decide (r2.2 < 0))) = true then
 (Z5l)
 else
 (if ((decide (32 < r2.2))) = true then
 (Z5l)
 else
 (Z2s b0))
theorem Zbs (b0 : Z7) (z1f : Own) (z15 : Own) : Sim (Z4a) (Z5m b0) (Zfo 0 (.ptr 0 0) [(Zq b0 z1f z15)]) := by
 unfold Z5m
 refine zf (Zig ..) ?_
 refine ze ?_
 refine zo (.ptr 0 6) ?_
 refine zo (.p (.lst (shrO z15) (b0.Kids.map ZG))) ?_
 refine zi fun a1 ha1 => ?_
 refine zo (.cptr (ZC a1 .sh .sh)) ?_ (Eq.trans (by kernel_rfl) (xidx_of (o := (shrO z15)) (k := .i64) (n := 7) (e := ZG) (cs := Z1V) Z3X (fun _ => rfl) (by decide) ha1))
 refine zo (.p (.agg (ZC a1 .sh .sh))) ?_
 refine zi fun r2 hr2 => ?_
 obtain ⟨qr2, er2, exr2, rfl⟩ := Z3M (a1) .sh .sh r2 hr2
 refine zc [] (.p (.tup [(.v (.int .i64 r2.1)), (.v (.int .i64 r2.2))])) [(Zq b0 z1f z15)] er2 ?_
 refine zo (iv r2.1) ?_
 refine zo (iv r2.2) ?_
 refine ze ?_
 refine zo (bv (decide (r2.2 < 0))) ?_
 refine za ((decide (r2.2 < 0))) ?_ ?_
 ·exact zk (Z8i )
 ·refine zo (bv (decide (32 < r2.2))) ?_
  refine za ((decide (32 < r2.2))) ?_ ?_
  ·exact zk (Z8i )
  ·exact zk (Z6l (b0) z1f z15)
noncomputable def Z7f (x0 : Z7) : Option (Bool) :=
 if ((x0.Kind == 7)) = true then
 (if ((decide (2 ≤ x0.Mode))) = true then
 (Z5m x0)
 else
 (Z2s x0))
 else
 (Z2s x0)
theorem ZcJ (x0 : Z7) (z1g : Own) (z11 : Own) : Sim (Z4a) (Z7f x0) (EE 34 [(.p (.agg (ZC x0 z1g z11)))] []) := by
 unfold Z7f
 refine zf (Zkp ..) ?_
 refine ze ?_
 refine zx (.ptr 0 0) [(Zq x0 z1g z11)] ?_
 refine ze ?_
 refine zo (.ptr 0 0) ?_
 refine zo (iv x0.Kind) ?_
 refine zo (bv (x0.Kind == 7)) ?_
 refine za ((x0.Kind == 7)) ?_ ?_
 ·refine zo (.ptr 0 3) ?_
  refine zo (iv x0.Mode) ?_
  refine zo (bv (decide (2 ≤ x0.Mode))) ?_
  refine za ((decide (2 ≤ x0.Mode))) ?_ ?_
  ·exact zk (Zbs (x0) z1g z11)
  ·exact zk (Z6l (x0) z1g z11)
 ·exact zk (Z6l (x0) z1g z11)
theorem Zd0 (x0 : Z7) {r} (h : Z7f x0 = some r) : Z2U x0 = some r :=
 pick_of (fun _ _ ha hb => RRun.uniq (Zdi) (ha .ex .ex) (hb .ex .ex)) (fun z1g z11 => ZcJ x0 z1g z11 r h)
noncomputable def Z3r (x0 : List Z7) : Option (Bool) :=
 (Z47 x0).bind fun r1 =>
 some ((decide (0 ≤ r1)))
theorem Z86 (x0 : List Z7) (ox0 : Own) : Sim (Z2X) (Z3r x0) (EE 39 [(.p (.lst ox0 (x0.map ZG))), (.clo 40 [] [])] []) := by
 unfold Z3r
 refine zf (ZjB ..) ?_
 refine ze ?_
 refine ze ?_
 refine zi fun r1 hr1 => ?_
 obtain ⟨qr1, er1, exr1, rfl⟩ := Z9a (x0) .sh r1 hr1
 refine zc [] (iv r1) [] er1 ?_
 refine zo (bv (decide (0 ≤ r1))) ?_
 exact zr ((bv (decide (0 ≤ r1))), []) ⟨_, rfl⟩
theorem Z8g (x0 : List Z7) {r} (h : Z3r x0 = some r) : Z3y x0 = some r :=
 pick_of (fun _ _ ha hb => RRun.uniq (Z8E) (ha .ex) (hb .ex)) (fun ox0 => Z86 x0 ox0 r h)
noncomputable def Z48 (x0 : List Z7) : Option (Int) :=
 Z2T x0 ((x0.length : Int)) 0
theorem Z8Z (x0 : List Z7) (ox0 : Own) : Sim (Z1u) (Z48 x0) (EE 44 [(.p (.lst ox0 (x0.map ZG))), (.clo 40 [] [])] []) := by
 unfold Z48
 refine zf (ZkT ..) ?_
 refine ze ?_
 refine ze ?_
 refine zo (iv (x0.length : Int)) ?_ (Eq.trans (by kernel_rfl) (xlen_of (P := PP) (t := 25) (d := 27) (by kernel_rfl) ZG (shrO ox0) x0))
 exact zk (Z5N (x0) ((x0.length : Int)) (0) ox0)
theorem Z93 (x0 : List Z7) {r} (h : Z48 x0 = some r) : Z47 x0 = some r :=
 pick_of (fun _ _ ha hb => RRun.uniq (Z6p) (ha .ex) (hb .ex)) (fun ox0 => Z8Z x0 ox0 r h)
noncomputable def Z3v (x0 : List Z7) (x7 : Int) (x8 : Int) : Option (Int) :=
 Z2T x0 x7 ((IntKind.i64.wrap (x8 + 1)))
theorem Z87 (x0 : List Z7) (x7 : Int) (x8 : Int) (ox0 : Own) : Sim (Z1u) (Z3v x0 x7 x8) (Zge 0 (.p (.lst ox0 (x0.map ZG))) (.clo 40 [] []) (iv x7) (iv x8) []) := by
 unfold Z3v
 refine zf (ZiA ..) ?_
 refine ze ?_
 refine zo (iv (IntKind.i64.wrap (x8 + 1))) ?_
 exact zk (Z5N (x0) (x7) ((IntKind.i64.wrap (x8 + 1))) ox0)
noncomputable def Z2V (x0 : List Z7) (x7 : Int) (x8 : Int) : Option (Int) :=
 (lget x0 x8).bind fun a1 =>
 (Z6x a1).bind fun r2 =>
 if (r2) = true then
 (some (x8))
 else
 (Z3v x0 x7 x8)
theorem Z88 (x0 : List Z7) (x7 : Int) (x8 : Int) (ox0 : Own) : Sim (Z1u) (Z2V x0 x7 x8) (Zfv 0 (.p (.lst ox0 (x0.map ZG))) (.clo 40 [] []) (iv x7) (iv x8) []) := by
 unfold Z2V
 refine zf (ZhA ..) ?_
 refine ze ?_
 refine ze ?_
 refine zi fun a1 ha1 => ?_
 refine zo (.cptr (ZC a1 .sh .sh)) ?_ (Eq.trans (by kernel_rfl) (xidx_of (o := (shrO ox0)) (k := .i64) (n := 7) (e := ZG) (cs := Z1V) Z3X (fun _ => rfl) (by decide) ha1))
 refine zo (.p (.agg (ZC a1 .sh .sh))) ?_
 refine zi fun r2 hr2 => ?_
 obtain ⟨qr2, er2, exr2, rfl⟩ := Zcp (a1) .sh .sh r2 hr2
 refine zv [] (bv r2) [] er2 ?_
 refine za (r2) ?_ ?_
 ·refine ze ?_
  exact zr ((iv x8), []) ⟨_, rfl⟩
 ·exact zk (Z87 (x0) (x7) (x8) ox0)
noncomputable def Z4N  : Option (Int) :=
 some ((-1))
theorem Z83  : Sim (Z1u) (Z4N) (Zfw 0  []) := by
 unfold Z4N
 refine zf (Zis ..) ?_
 refine ze ?_
 exact zr ((iv (-1)), []) ⟨_, rfl⟩
noncomputable def Z2i (x0 : List Z7) (x7 : Int) (x8 : Int) : Option (Int) :=
 if ((decide (x8 < x7))) = true then
 (Z2V x0 x7 x8)
 else
 (Z4N)
theorem Z84 (x0 : List Z7) (x7 : Int) (x8 : Int) (ox0 : Own) : Sim (Z1u) (Z2i x0 x7 x8) (ZbR 0 (.p (.lst ox0 (x0.map ZG))) (.clo 40 [] []) (iv x7) (iv x8) []) := by
 unfold Z2i
 refine zf (Zif ..) ?_
 refine ze ?_
 refine zo (bv (decide (x8 < x7))) ?_
 refine za ((decide (x8 < x7))) ?_ ?_
 ·exact zk (Z88 (x0) (x7) (x8) ox0)
 ·exact zk (Z83 )
theorem Z4h (x0 : List Z7) (x7 : Int) (x8 : Int) {r} (h : Z2i x0 x7 x8 = some r) : Z2T x0 x7 x8 = some r :=
 pick_of (fun _ _ ha hb => RRun.uniq (Z6p) (ha .ex) (hb .ex)) (fun ox0 => Z84 x0 x7 x8 ox0 r h)
noncomputable def Z6v (x0 : Z7) : Option (Bool) :=
 (Z2U x0).bind fun r1 =>
 some ((!r1))
theorem ZbE (x0 : Z7) (z1g : Own) (z11 : Own) : Sim (Z5E) (Z6v x0) (EE 40 [(.p (.agg (ZC x0 z1g z11)))] []) := by
 unfold Z6v
 refine zf (Zka ..) ?_
 refine ze ?_
 refine zx (.ptr 0 0) [(Zq x0 z1g z11)] ?_
 refine ze ?_
 refine zo (.p (.agg (ZC x0 (shrO z1g) (shrO z11)))) ?_
 refine zi fun r1 hr1 => ?_
 obtain ⟨qr1, er1, exr1, rfl⟩ := Z9O (x0) .sh .sh r1 hr1
 refine zc [] (bv r1) [(Zq x0 z1g z11)] er1 ?_
 refine zo (bv (!r1)) ?_
 exact zr ((bv (!r1)), [(Zq x0 z1g z11)]) ⟨_, rfl⟩
theorem Zcx (x0 : Z7) {r} (h : Z6v x0 = some r) : Z6x x0 = some r :=
 pick_of (fun _ _ ha hb => RRun.uniq (ZcF) (ha .ex .ex) (hb .ex .ex)) (fun z1g z11 => ZbE x0 z1g z11 r h)
end Go.Proofs.YtadodmjdkphddaaDoor.N2
end
