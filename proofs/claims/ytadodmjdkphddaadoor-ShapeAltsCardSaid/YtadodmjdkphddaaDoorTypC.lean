/- More of the functions' typed texts. No condition. -/
import Derived.Test.YtadodmjdkphddaaDoorTypA

section
set_option linter.unusedSimpArgs false
set_option linter.unusedVariables false
namespace Go.Proofs.YtadodmjdkphddaaDoor.N2
open Go Go.Abs
set_option linter.unusedVariables false
set_option maxRecDepth 100000
noncomputable def Z5o (x0 : List Z8) (z11 : List Z8) : Option ((List Z8)) :=
 (Z87 z11 x0).bind fun r1 =>
 some (r1.1)
theorem Zae (x0 : List Z8) (z11 : List Z8) (ox0 : Own) (z9O : Own) : Sim (Z4l) (Z5o x0 z11) (EE 58 [(.p (.lst ox0 (x0.map Zz))), (.ptr 0 0)] [[(.p (.lst z9O (z11.map Zz)))]]) := by
 unfold Z5o
 refine zf (Zkt ..) ?_
 refine ze ?_
 refine zo (.p (.lst (shrO z9O) (z11.map Zz))) ?_
 refine zi fun r1 hr1 => ?_
 obtain ⟨qr1, er1, exr1, rfl⟩ := Zdy (z11) (x0) .sh .sh r1 hr1
 refine zc [] (.p (.tup [(.lst .sh (r1.1.map Zz)), (.v (.int .i64 r1.2))])) [[(.p (.lst z9O (z11.map Zz)))]] er1 ?_
 refine zo (.p (.lst .sh (r1.1.map Zz))) ?_
 refine zo (iv r1.2) ?_
 refine zt [[(.p (.lst .sh (r1.1.map Zz)))]] ?_
 exact zr ((.p (.tup [])), [[(.p (.lst .sh (r1.1.map Zz)))]]) ⟨.sh, _, rfl⟩
theorem Zaw (x0 : List Z8) (z11 : List Z8) {r} (h : Z5o x0 z11 = some r) : Z4j x0 z11 = some r :=
 pick_of (fun _ _ ha hb => RRun.uniq (ZaQ) (ha .ex .ex) (hb .ex .ex)) (fun ox0 z9O => Zae x0 z11 ox0 z9O r h)
noncomputable def Z6G  : Option ((List Z8) × Int) :=
 some (([] : List Z8), 10)
theorem Z8Z  : Sim (Z59) (Z6G) (Ze5 0  []) := by
 unfold Z6G
 refine zf (Zj9 ..) ?_
 refine ze ?_
 exact zr ((.p (.tup [(.lst .sh []), (.v (.int .i64 10))])), []) ⟨_, rfl⟩
noncomputable def Z6B (x0 : List Z8) (x1 : List Z8) : Option ((List Z8) × Int) :=
 (Z6N (([x0, x1] : List (List Z8)))).bind fun r1 =>
 (Z7T r1).bind fun r2 =>
 some (r2, 0)
theorem Zc1 (x0 : List Z8) (x1 : List Z8) (ox0 : Own) (ox1 : Own) : Sim (Z59) (Z6B x0 x1) (Zfc 0 (.p (.lst ox0 (x0.map Zz))) (.p (.lst ox1 (x1.map Zz))) []) := by
 unfold Z6B
 refine zf (Zjb ..) ?_
 refine ze ?_
 refine zo (.p (.lst .ex (([x0, x1] : List (List Z8)).map (eL Zz)))) ?_
 refine zi fun r1 hr1 => ?_
 obtain ⟨qr1, er1, exr1, rfl⟩ := ZaS (([x0, x1] : List (List Z8))) .sh r1 hr1
 refine zc [] (.p (.lst .sh (r1.map Zz))) [] er1 ?_
 refine zi fun r2 hr2 => ?_
 obtain ⟨qr2, er2, exr2, rfl⟩ := Zah (r1) .sh r2 hr2
 refine zc [] (.p (.lst .sh (r2.map Zz))) [] er2 ?_
 exact zr ((.p (.tup [(.lst .sh (r2.map Zz)), (.v (.int .i64 0))])), []) ⟨_, rfl⟩
noncomputable def Z80 (x0 : List Z8) (x1 : List Z8) : Option ((List Z8) × Int) :=
 (Z4y x0).bind fun r1 =>
 if ((!r1)) = true then
 (Z6G)
 else
 ((Z4y x1).bind fun r2 =>
 if ((!r2)) = true then
 (Z6G)
 else
 (Z6B x0 x1))
theorem ZcX (x0 : List Z8) (x1 : List Z8) (ox0 : Own) (ox1 : Own) : Sim (Z59) (Z80 x0 x1) (EE 59 [(.p (.lst ox0 (x0.map Zz))), (.p (.lst ox1 (x1.map Zz)))] []) := by
 unfold Z80
 refine zf (Zlc ..) ?_
 refine ze ?_
 refine ze ?_
 refine zi fun r1 hr1 => ?_
 obtain ⟨qr1, er1, exr1, rfl⟩ := Z6O (x0) .sh r1 hr1
 refine zc [] (bv r1) [] er1 ?_
 refine zo (bv (!r1)) ?_
 refine za ((!r1)) ?_ ?_
 ·exact zk (Z8Z )
 ·refine zi fun r2 hr2 => ?_
  obtain ⟨qr2, er2, exr2, rfl⟩ := Z6O (x1) .sh r2 hr2
  refine zc [] (bv r2) [] er2 ?_
  refine zo (bv (!r2)) ?_
  refine za ((!r2)) ?_ ?_
  ·exact zk (Z8Z )
  ·exact zk (Zc1 (x0) (x1) ox0 ox1)
theorem Zdz (x0 : List Z8) (x1 : List Z8) {r} (h : Z80 x0 x1 = some r) : Z87 x0 x1 = some r :=
 pick_of (fun _ _ ha hb => RRun.uniq (ZdJ) (ha .ex .ex) (hb .ex .ex)) (fun ox0 ox1 => ZcX x0 x1 ox0 ox1 r h)
noncomputable def Z3S (zu : Int) (z7 : Int) (zh : Int) (zj : List Zv) (z2 : Int) (z6 : Int) (z19 : Int) (z1H : Int) (z1I : Int) (z1c : Int) (z1q : Int) (z1p : List Z8) (b2 : Z3) : Option (Z3 × Bool × Int × Int × Int × (List Zv) × Int × Int) :=
 some ((Z3.mk z19 z1H z1I z1c z1q z1p ([b2] : List Z3)), (z19 != 7), zu, z7, zh, zj, z2, z6)
theorem Z9K (zn : List Int) (zu : Int) (z7 : Int) (zh : Int) (zj : List Zv) (z2 : Int) (z6 : Int) (z19 : Int) (z1H : Int) (z1I : Int) (z1c : Int) (z1q : Int) (z1p : List Z8) (z29 : List Z3) (b2 : Z3) (zp : Own) (zd : Own) (zD : Own) (zB : Own) (z1N : Own) (z1B : Own) (zy : okApp zd = true) (zR : okApp zD = true) (zL : okApp zB = true) : Sim (Z2h zn zp) (Z3S zu z7 zh zj z2 z6 z19 z1H z1I z1c z1q z1p b2) (ZeV 1 (.ptr 1 0) (.ptr 2 0) [(Zk (Zm.mk zn zu z7 zh zj (Zl.mk z2 z6)) zp zd), (Zq (Z3.mk z19 z1H z1I z1c z1q z1p z29) zD zB), (Zq b2 z1N z1B)]) := by
 unfold Z3S
 refine zf (ZgW ..) ?_
 refine ze ?_
 refine zo (.p (.agg (ZC b2 (shrO z1N) (shrO z1B)))) ?_
 refine zo (.p (.lst .ex (([b2] : List Z3).map ZG))) ?_ (Eq.trans (b := some (.p (.lst .ex [.agg (Z21 b2)]))) (by kernel_rfl) (by simp only [List.map_cons, List.map_nil, Z3k]))
 refine zo (.ptr 1 6) ?_
 refine zt [(Zk (Zm.mk zn zu z7 zh zj (Zl.mk z2 z6)) zp zd), (Zq (Z3.mk z19 z1H z1I z1c z1q z1p ([b2] : List Z3)) zD .ex), (Zq b2 z1N z1B)] ?_
 refine ze ?_
 refine zo (.p (.agg (ZC (Z3.mk z19 z1H z1I z1c z1q z1p ([b2] : List Z3)) (shrO zD) .ex))) ?_
 refine zo (.ptr 1 0) ?_
 refine zo (iv z19) ?_
 refine zo (bv (z19 != 7)) ?_
 refine zt [(Zk (Zm.mk zn zu z7 zh zj (Zl.mk z2 z6)) zp zd), (Zq (Z3.mk z19 z1H z1I z1c z1q z1p ([b2] : List Z3)) (shrO zD) .ex), (Zq b2 z1N z1B)] ?_
 exact zr ((.p (.tup [(.agg (ZC (Z3.mk z19 z1H z1I z1c z1q z1p ([b2] : List Z3)) .sh .sh)), (.v (.bool (z19 != 7)))])), [(Zk (Zm.mk zn zu z7 zh zj (Zl.mk z2 z6)) zp zd), (Zq (Z3.mk z19 z1H z1I z1c z1q z1p ([b2] : List Z3)) (shrO zD) .ex), (Zq b2 z1N z1B)]) ⟨zd, _, zy, rfl⟩
noncomputable def Z25 (zu : Int) (z7 : Int) (zh : Int) (zj : List Zv) (z2 : Int) (z6 : Int) (z19 : Int) (z1H : Int) (z1I : Int) (z1c : Int) (z1q : Int) (z1p : List Z8) (b2 : Z3) : Option (Z3 × Bool × Int × Int × Int × (List Zv) × Int × Int) :=
 if ((z19 == 0)) = true then
 (some (b2, true, zu, z7, (IntKind.i64.wrap (zh - 1)), zj, z2, z6))
 else
 (Z3S zu z7 ((IntKind.i64.wrap (zh - 1))) zj z2 z6 z19 z1H z1I z1c z1q z1p b2)
theorem Z5c (zn : List Int) (zu : Int) (z7 : Int) (zh : Int) (zj : List Zv) (z2 : Int) (z6 : Int) (z19 : Int) (z1H : Int) (z1I : Int) (z1c : Int) (z1q : Int) (z1p : List Z8) (z29 : List Z3) (b2 : Z3) (zp : Own) (zd : Own) (zD : Own) (zB : Own) (z1N : Own) (z1B : Own) (zy : okApp zd = true) (zR : okApp zD = true) (zL : okApp zB = true) : Sim (Z2h zn zp) (Z25 zu z7 zh zj z2 z6 z19 z1H z1I z1c z1q z1p b2) (Zco 1 (.ptr 0 0) (.ptr 1 0) (.ptr 2 0) [(Zk (Zm.mk zn zu z7 zh zj (Zl.mk z2 z6)) zp zd), (Zq (Z3.mk z19 z1H z1I z1c z1q z1p z29) zD zB), (Zq b2 z1N z1B)]) := by
 unfold Z25
 refine zf (Zh3 ..) ?_
 refine ze ?_
 refine zo (.ptr 0 0) ?_
 refine zo (.ptr 0 3) ?_
 refine zo (iv zh) ?_
 refine zo (iv (IntKind.i64.wrap (zh - 1))) ?_
 refine zo (.ptr 0 0) ?_
 refine zo (.ptr 0 3) ?_
 refine zt [(Zk (Zm.mk zn zu z7 (IntKind.i64.wrap (zh - 1)) zj (Zl.mk z2 z6)) zp zd), (Zq (Z3.mk z19 z1H z1I z1c z1q z1p z29) zD zB), (Zq b2 z1N z1B)] ?_
 refine ze ?_
 refine zo (.ptr 1 0) ?_
 refine zo (iv z19) ?_
 refine zo (bv (z19 == 0)) ?_
 refine za ((z19 == 0)) ?_ ?_
 ·refine ze ?_
  refine zo (.p (.agg (ZC b2 (shrO z1N) (shrO z1B)))) ?_
  refine zt [(Zk (Zm.mk zn zu z7 (IntKind.i64.wrap (zh - 1)) zj (Zl.mk z2 z6)) zp zd), (Zq b2 (shrO z1N) (shrO z1B)), (Zq b2 z1N z1B)] ?_
  exact zr ((.p (.tup [(.agg (ZC b2 .sh .sh)), (.v (.bool true))])), [(Zk (Zm.mk zn zu z7 (IntKind.i64.wrap (zh - 1)) zj (Zl.mk z2 z6)) zp zd), (Zq b2 (shrO z1N) (shrO z1B)), (Zq b2 z1N z1B)]) ⟨zd, _, zy, rfl⟩
 ·exact zk (Z9K (zn) (zu) (z7) ((IntKind.i64.wrap (zh - 1))) (zj) (z2) (z6) (z19) (z1H) (z1I) (z1c) (z1q) (z1p) (z29) (b2) zp zd zD zB z1N z1B zy zR zL)
noncomputable def Z4N (x1 : Int) (zn : List Int) (z7 : Int) (zh : Int) (zj : List Zv) (z2 : Int) (z6 : Int) (z19 : Int) (z1H : Int) (z1I : Int) (z1c : Int) (z1q : Int) (z1p : List Z8) (b2 : Z3) : Option (Z3 × Bool × Int × Int × Int × (List Zv) × Int × Int) :=
 (ZU 20 x1 zn z2 z6).bind fun r1 =>
 Z25 r1.1 z7 zh zj r1.2.1 r1.2.2 z19 z1H z1I z1c z1q z1p b2
theorem Z9x (x1 : Int) (zn : List Int) (zu : Int) (z7 : Int) (zh : Int) (zj : List Zv) (z2 : Int) (z6 : Int) (z19 : Int) (z1H : Int) (z1I : Int) (z1c : Int) (z1q : Int) (z1p : List Z8) (z29 : List Z3) (b2 : Z3) (zp : Own) (zd : Own) (zD : Own) (zB : Own) (z1N : Own) (z1B : Own) (zy : okApp zd = true) (zR : okApp zD = true) (zL : okApp zB = true) : Sim (Z2h zn zp) (Z4N x1 zn z7 zh zj z2 z6 z19 z1H z1I z1c z1q z1p b2) (ZeJ 1 (.ptr 0 0) (iv x1) (.ptr 1 0) (.ptr 2 0) [(Zk (Zm.mk zn zu z7 zh zj (Zl.mk z2 z6)) zp zd), (Zq (Z3.mk z19 z1H z1I z1c z1q z1p z29) zD zB), (Zq b2 z1N z1B)]) := by
 unfold Z4N
 refine zf (ZgV ..) ?_
 refine ze ?_
 refine zi fun r1 hr1 => ?_
 obtain ⟨qr1, er1, exr1, rfl⟩ := ZX (20) (x1) (zn) (zu) (z7) (zh) (zj) (z2) (z6) zp zd zy r1 hr1
 refine zc [0] (.p (.tup [])) [(Zk (Zm.mk zn r1.1 z7 zh zj (Zl.mk r1.2.1 r1.2.2)) zp zd), (Zq (Z3.mk z19 z1H z1I z1c z1q z1p z29) zD zB), (Zq b2 z1N z1B)] er1 ?_
 exact zk (Z5c (zn) (r1.1) (z7) (zh) (zj) (r1.2.1) (r1.2.2) (z19) (z1H) (z1I) (z1c) (z1q) (z1p) (z29) (b2) zp zd zD zB z1N z1B zy zR zL)
noncomputable def Z1z (x1 : Int) (zn : List Int) (zu : Int) (z7 : Int) (zh : Int) (zj : List Zv) (z2 : Int) (z6 : Int) (z19 : Int) (z1H : Int) (z1I : Int) (z1c : Int) (z1q : Int) (z1p : List Z8) : Option (Z3 × Bool × Int × Int × Int × (List Zv) × Int × Int) :=
 (Z30 zn zu z7 zh zj z2 z6).bind fun r1 =>
 if ((r1.2.2.2.2.2.1 == 0)) = true then
 ((Z18 ((ByteArray.mk #[41])) zn r1.2.1).bind fun r2 =>
 if ((!r2.1)) = true then
 (Z4N x1 zn r1.2.2.1 r1.2.2.2.1 r1.2.2.2.2.1 r1.2.2.2.2.2.1 r1.2.2.2.2.2.2 z19 z1H z1I z1c z1q z1p r1.1)
 else
 (Z25 r2.2 r1.2.2.1 r1.2.2.2.1 r1.2.2.2.2.1 r1.2.2.2.2.2.1 r1.2.2.2.2.2.2 z19 z1H z1I z1c z1q z1p r1.1))
 else
 (Z25 r1.2.1 r1.2.2.1 r1.2.2.2.1 r1.2.2.2.2.1 r1.2.2.2.2.2.1 r1.2.2.2.2.2.2 z19 z1H z1I z1c z1q z1p r1.1)
theorem Z2A (x1 : Int) (zn : List Int) (zu : Int) (z7 : Int) (zh : Int) (zj : List Zv) (z2 : Int) (z6 : Int) (z19 : Int) (z1H : Int) (z1I : Int) (z1c : Int) (z1q : Int) (z1p : List Z8) (z29 : List Z3) (zp : Own) (zd : Own) (zD : Own) (zB : Own) (zy : okApp zd = true) (zR : okApp zD = true) (zL : okApp zB = true) : Sim (Z2h zn zp) (Z1z x1 zn zu z7 zh zj z2 z6 z19 z1H z1I z1c z1q z1p) (Z8X 1 (.ptr 0 0) (iv x1) (.ptr 1 0) [(Zk (Zm.mk zn zu z7 zh zj (Zl.mk z2 z6)) zp zd), (Zq (Z3.mk z19 z1H z1I z1c z1q z1p z29) zD zB)]) := by
 unfold Z1z
 refine zf (Zhz ..) ?_
 refine ze ?_
 refine zi fun r1 hr1 => ?_
 obtain ⟨qr1, er1, or1_0_4, exr1, hor1_0_4, rfl⟩ := Z90 (zn) (zu) (z7) (zh) (zj) (z2) (z6) zp zd zy r1 hr1
 refine zc [0] (.p (.agg (ZC r1.1 .sh .sh))) [(Zk (Zm.mk zn r1.2.1 r1.2.2.1 r1.2.2.2.1 r1.2.2.2.2.1 (Zl.mk r1.2.2.2.2.2.1 r1.2.2.2.2.2.2)) zp or1_0_4), (Zq (Z3.mk z19 z1H z1I z1c z1q z1p z29) zD zB)] er1 ?_
 refine zz (.ptr 2 0) [(Zk (Zm.mk zn r1.2.1 r1.2.2.1 r1.2.2.2.1 r1.2.2.2.2.1 (Zl.mk r1.2.2.2.2.2.1 r1.2.2.2.2.2.2)) zp or1_0_4), (Zq (Z3.mk z19 z1H z1I z1c z1q z1p z29) zD zB), (Zq (Z3.mk 0 0 0 0 0 ([] : List Z8) ([] : List Z3)) .nl .nl)] ?_
 refine zt [(Zk (Zm.mk zn r1.2.1 r1.2.2.1 r1.2.2.2.1 r1.2.2.2.2.1 (Zl.mk r1.2.2.2.2.2.1 r1.2.2.2.2.2.2)) zp or1_0_4), (Zq (Z3.mk z19 z1H z1I z1c z1q z1p z29) zD zB), (Zq r1.1 .sh .sh)] ?_
 refine ze ?_
 refine zo (.ptr 0 0) ?_
 refine zo (.ptr 0 5) ?_
 refine zo (.ptr 0 5) ?_
 refine zo (iv r1.2.2.2.2.2.1) ?_
 refine zo (bv (r1.2.2.2.2.2.1 == 0)) ?_
 refine za ((r1.2.2.2.2.2.1 == 0)) ?_ ?_
 ·refine zi fun r2 hr2 => ?_
  obtain ⟨qr2, er2, exr2, rfl⟩ := Z1d ((ByteArray.mk #[41])) (zn) (r1.2.1) (r1.2.2.1) (r1.2.2.2.1) (r1.2.2.2.2.1) (r1.2.2.2.2.2.1) (r1.2.2.2.2.2.2) zp or1_0_4 hor1_0_4 r2 hr2
  refine zc [0] (bv r2.1) [(Zk (Zm.mk zn r2.2 r1.2.2.1 r1.2.2.2.1 r1.2.2.2.2.1 (Zl.mk r1.2.2.2.2.2.1 r1.2.2.2.2.2.2)) zp or1_0_4), (Zq (Z3.mk z19 z1H z1I z1c z1q z1p z29) zD zB), (Zq r1.1 .sh .sh)] er2 ?_
  refine zo (bv (!r2.1)) ?_
  refine za ((!r2.1)) ?_ ?_
  ·exact zk (Z9x (x1) (zn) (r2.2) (r1.2.2.1) (r1.2.2.2.1) (r1.2.2.2.2.1) (r1.2.2.2.2.2.1) (r1.2.2.2.2.2.2) (z19) (z1H) (z1I) (z1c) (z1q) (z1p) (z29) (r1.1) zp or1_0_4 zD zB .sh .sh hor1_0_4 zR zL)
  ·exact zk (Z5c (zn) (r2.2) (r1.2.2.1) (r1.2.2.2.1) (r1.2.2.2.2.1) (r1.2.2.2.2.2.1) (r1.2.2.2.2.2.2) (z19) (z1H) (z1I) (z1c) (z1q) (z1p) (z29) (r1.1) zp or1_0_4 zD zB .sh .sh hor1_0_4 zR zL)
 ·exact zk (Z5c (zn) (r1.2.1) (r1.2.2.1) (r1.2.2.2.1) (r1.2.2.2.2.1) (r1.2.2.2.2.2.1) (r1.2.2.2.2.2.2) (z19) (z1H) (z1I) (z1c) (z1q) (z1p) (z29) (r1.1) zp or1_0_4 zD zB .sh .sh hor1_0_4 zR zL)
noncomputable def Z48 (x1 : Int) (zn : List Int) (zu : Int) (z7 : Int) (zh : Int) (zj : List Zv) (z2 : Int) (z6 : Int) (z19 : Int) (z1H : Int) (z1I : Int) (z1c : Int) (z1q : Int) (z1p : List Z8) : Option (Z3 × Bool × Int × Int × Int × (List Zv) × Int × Int) :=
 (Z8G).bind fun r1 =>
 (Z3M r1 zn zu).bind fun r2 =>
 if ((decide (0 ≤ r2.1))) = true then
 (Z1z x1 zn r2.2 z7 ((IntKind.i64.wrap (zh + 1))) zj z2 z6 7 0 0 r2.1 0 (([] : List Z8)))
 else
 ((Z18 ((ByteArray.mk #[63, 62])) zn r2.2).bind fun r3 =>
 if (r3.1) = true then
 (Z1z x1 zn r3.2 z7 ((IntKind.i64.wrap (zh + 1))) zj z2 z6 8 0 0 0 0 (([] : List Z8)))
 else
 ((Z18 ((ByteArray.mk #[63, 58])) zn r3.2).bind fun r4 =>
 if (r4.1) = true then
 (Z1z x1 zn r4.2 z7 ((IntKind.i64.wrap (zh + 1))) zj z2 z6 z19 z1H z1I z1c z1q z1p)
 else
 ((Z1J ((Zm.mk zn r4.2 z7 (IntKind.i64.wrap (zh + 1)) zj (Zl.mk z2 z6)))).bind fun r5 =>
 if ((r5 == 63)) = true then
 ((ZU 20 x1 zn z2 z6).bind fun r6 =>
 Z1z x1 zn r6.1 z7 ((IntKind.i64.wrap (zh + 1))) zj r6.2.1 r6.2.2 z19 z1H z1I z1c z1q z1p)
 else
 (if ((z7 == 9)) = true then
 ((ZU 24 x1 zn z2 z6).bind fun r7 =>
 Z1z x1 zn r7.1 z7 ((IntKind.i64.wrap (zh + 1))) zj r7.2.1 r7.2.2 z19 z1H z1I z1c z1q z1p)
 else
 (Z1z x1 zn r4.2 ((IntKind.i64.wrap (z7 + 1))) ((IntKind.i64.wrap (zh + 1))) zj z2 z6 5 0 0 0 ((IntKind.i64.wrap (z7 + 1))) (([] : List Z8)))))))
theorem Za7 (x1 : Int) (zn : List Int) (zu : Int) (z7 : Int) (zh : Int) (zj : List Zv) (z2 : Int) (z6 : Int) (z19 : Int) (z1H : Int) (z1I : Int) (z1c : Int) (z1q : Int) (z1p : List Z8) (z29 : List Z3) (zp : Own) (zd : Own) (zD : Own) (zB : Own) (zy : okApp zd = true) (zR : okApp zD = true) (zL : okApp zB = true) : Sim (Z2h zn zp) (Z48 x1 zn zu z7 zh zj z2 z6 z19 z1H z1I z1c z1q z1p) (Zgn 1 (.ptr 0 0) (iv x1) (.ptr 1 0) [(Zk (Zm.mk zn zu z7 zh zj (Zl.mk z2 z6)) zp zd), (Zq (Z3.mk z19 z1H z1I z1c z1q z1p z29) zD zB)]) := by
 unfold Z48
 refine zf (ZiL ..) ?_
 refine ze ?_
 refine zo (.ptr 0 0) ?_
 refine zo (.ptr 0 3) ?_
 refine zo (iv zh) ?_
 refine zo (iv (IntKind.i64.wrap (zh + 1))) ?_
 refine zo (.ptr 0 0) ?_
 refine zo (.ptr 0 3) ?_
 refine zt [(Zk (Zm.mk zn zu z7 (IntKind.i64.wrap (zh + 1)) zj (Zl.mk z2 z6)) zp zd), (Zq (Z3.mk z19 z1H z1I z1c z1q z1p z29) zD zB)] ?_
 refine ze ?_
 refine zi fun r1 hr1 => ?_
 obtain ⟨qr1, er1, exr1, rfl⟩ := ZdL  r1 hr1
 refine zc [] (.p (.lst .sh (r1.map eS))) [(Zk (Zm.mk zn zu z7 (IntKind.i64.wrap (zh + 1)) zj (Zl.mk z2 z6)) zp zd), (Zq (Z3.mk z19 z1H z1I z1c z1q z1p z29) zD zB)] er1 ?_
 refine zi fun r2 hr2 => ?_
 obtain ⟨qr2, er2, exr2, rfl⟩ := Z8M (r1) (zn) (zu) (z7) ((IntKind.i64.wrap (zh + 1))) (zj) (z2) (z6) .sh zp zd zy r2 hr2
 refine zc [0] (iv r2.1) [(Zk (Zm.mk zn r2.2 z7 (IntKind.i64.wrap (zh + 1)) zj (Zl.mk z2 z6)) zp zd), (Zq (Z3.mk z19 z1H z1I z1c z1q z1p z29) zD zB)] er2 ?_
 refine ze ?_
 refine zo (bv (decide (0 ≤ r2.1))) ?_
 refine za ((decide (0 ≤ r2.1))) ?_ ?_
 ·refine ze ?_
  refine zo (.p (.agg (ZC (Z3.mk 7 0 0 r2.1 0 ([] : List Z8) ([] : List Z3)) .nl .nl))) ?_
  refine zt [(Zk (Zm.mk zn r2.2 z7 (IntKind.i64.wrap (zh + 1)) zj (Zl.mk z2 z6)) zp zd), (Zq (Z3.mk 7 0 0 r2.1 0 ([] : List Z8) ([] : List Z3)) .nl .nl)] ?_
  exact zk (Z2A (x1) (zn) (r2.2) (z7) ((IntKind.i64.wrap (zh + 1))) (zj) (z2) (z6) (7) (0) (0) (r2.1) (0) (([] : List Z8)) (([] : List Z3)) zp zd .nl .nl zy rfl rfl)
 ·refine ze ?_
  refine zi fun r3 hr3 => ?_
  obtain ⟨qr3, er3, exr3, rfl⟩ := Z1d ((ByteArray.mk #[63, 62])) (zn) (r2.2) (z7) ((IntKind.i64.wrap (zh + 1))) (zj) (z2) (z6) zp zd zy r3 hr3
  refine zc [0] (bv r3.1) [(Zk (Zm.mk zn r3.2 z7 (IntKind.i64.wrap (zh + 1)) zj (Zl.mk z2 z6)) zp zd), (Zq (Z3.mk z19 z1H z1I z1c z1q z1p z29) zD zB)] er3 ?_
  refine za (r3.1) ?_ ?_
  ·refine ze ?_
   refine zo (.p (.agg (ZC (Z3.mk 8 0 0 0 0 ([] : List Z8) ([] : List Z3)) .nl .nl))) ?_
   refine zt [(Zk (Zm.mk zn r3.2 z7 (IntKind.i64.wrap (zh + 1)) zj (Zl.mk z2 z6)) zp zd), (Zq (Z3.mk 8 0 0 0 0 ([] : List Z8) ([] : List Z3)) .nl .nl)] ?_
   exact zk (Z2A (x1) (zn) (r3.2) (z7) ((IntKind.i64.wrap (zh + 1))) (zj) (z2) (z6) (8) (0) (0) (0) (0) (([] : List Z8)) (([] : List Z3)) zp zd .nl .nl zy rfl rfl)
  ·refine ze ?_
   refine zi fun r4 hr4 => ?_
   obtain ⟨qr4, er4, exr4, rfl⟩ := Z1d ((ByteArray.mk #[63, 58])) (zn) (r3.2) (z7) ((IntKind.i64.wrap (zh + 1))) (zj) (z2) (z6) zp zd zy r4 hr4
   refine zc [0] (bv r4.1) [(Zk (Zm.mk zn r4.2 z7 (IntKind.i64.wrap (zh + 1)) zj (Zl.mk z2 z6)) zp zd), (Zq (Z3.mk z19 z1H z1I z1c z1q z1p z29) zD zB)] er4 ?_
   refine za (r4.1) ?_ ?_
   ·exact zk (Z2A (x1) (zn) (r4.2) (z7) ((IntKind.i64.wrap (zh + 1))) (zj) (z2) (z6) (z19) (z1H) (z1I) (z1c) (z1q) (z1p) (z29) zp zd zD zB zy zR zL)
   ·refine ze ?_
    refine zi fun r5 hr5 => ?_
    obtain ⟨qr5, er5, exr5, rfl⟩ := Z1P ((Zm.mk zn r4.2 z7 (IntKind.i64.wrap (zh + 1)) zj (Zl.mk z2 z6))) zp zd zy r5 hr5
    refine zc [0] (iv r5) [(Zk (Zm.mk zn r4.2 z7 (IntKind.i64.wrap (zh + 1)) zj (Zl.mk z2 z6)) zp zd), (Zq (Z3.mk z19 z1H z1I z1c z1q z1p z29) zD zB)] er5 ?_
    refine zo (bv (r5 == 63)) ?_
    refine za ((r5 == 63)) ?_ ?_
    ·refine ze ?_
     refine zi fun r6 hr6 => ?_
     obtain ⟨qr6, er6, exr6, rfl⟩ := ZX (20) (x1) (zn) (r4.2) (z7) ((IntKind.i64.wrap (zh + 1))) (zj) (z2) (z6) zp zd zy r6 hr6
     refine zc [0] (.p (.tup [])) [(Zk (Zm.mk zn r6.1 z7 (IntKind.i64.wrap (zh + 1)) zj (Zl.mk r6.2.1 r6.2.2)) zp zd), (Zq (Z3.mk z19 z1H z1I z1c z1q z1p z29) zD zB)] er6 ?_
     exact zk (Z2A (x1) (zn) (r6.1) (z7) ((IntKind.i64.wrap (zh + 1))) (zj) (r6.2.1) (r6.2.2) (z19) (z1H) (z1I) (z1c) (z1q) (z1p) (z29) zp zd zD zB zy zR zL)
    ·refine ze ?_
     refine zo (.ptr 0 0) ?_
     refine zo (.ptr 0 2) ?_
     refine zo (iv z7) ?_
     refine zo (bv (z7 == 9)) ?_
     refine za ((z7 == 9)) ?_ ?_
     ·refine ze ?_
      refine zi fun r7 hr7 => ?_
      obtain ⟨qr7, er7, exr7, rfl⟩ := ZX (24) (x1) (zn) (r4.2) (z7) ((IntKind.i64.wrap (zh + 1))) (zj) (z2) (z6) zp zd zy r7 hr7
      refine zc [0] (.p (.tup [])) [(Zk (Zm.mk zn r7.1 z7 (IntKind.i64.wrap (zh + 1)) zj (Zl.mk r7.2.1 r7.2.2)) zp zd), (Zq (Z3.mk z19 z1H z1I z1c z1q z1p z29) zD zB)] er7 ?_
      exact zk (Z2A (x1) (zn) (r7.1) (z7) ((IntKind.i64.wrap (zh + 1))) (zj) (r7.2.1) (r7.2.2) (z19) (z1H) (z1I) (z1c) (z1q) (z1p) (z29) zp zd zD zB zy zR zL)
     ·refine ze ?_
      refine zo (.ptr 0 0) ?_
      refine zo (.ptr 0 2) ?_
      refine zo (iv z7) ?_
      refine zo (iv (IntKind.i64.wrap (z7 + 1))) ?_
      refine zo (.ptr 0 0) ?_
      refine zo (.ptr 0 2) ?_
      refine zt [(Zk (Zm.mk zn r4.2 (IntKind.i64.wrap (z7 + 1)) (IntKind.i64.wrap (zh + 1)) zj (Zl.mk z2 z6)) zp zd), (Zq (Z3.mk z19 z1H z1I z1c z1q z1p z29) zD zB)] ?_
      refine ze ?_
      refine zo (.ptr 0 0) ?_
      refine zo (.ptr 0 2) ?_
      refine zo (iv (IntKind.i64.wrap (z7 + 1))) ?_
      refine zo (.p (.agg (ZC (Z3.mk 5 0 0 0 (IntKind.i64.wrap (z7 + 1)) ([] : List Z8) ([] : List Z3)) .nl .nl))) ?_
      refine zt [(Zk (Zm.mk zn r4.2 (IntKind.i64.wrap (z7 + 1)) (IntKind.i64.wrap (zh + 1)) zj (Zl.mk z2 z6)) zp zd), (Zq (Z3.mk 5 0 0 0 (IntKind.i64.wrap (z7 + 1)) ([] : List Z8) ([] : List Z3)) .nl .nl)] ?_
      exact zk (Z2A (x1) (zn) (r4.2) ((IntKind.i64.wrap (z7 + 1))) ((IntKind.i64.wrap (zh + 1))) (zj) (z2) (z6) (5) (0) (0) (0) ((IntKind.i64.wrap (z7 + 1))) (([] : List Z8)) (([] : List Z3)) zp zd .nl .nl zy rfl rfl)
noncomputable def Z3U (x1 : Int) (zn : List Int) (zu : Int) (z7 : Int) (zh : Int) (zj : List Zv) (z2 : Int) (z6 : Int) : Option (Z3 × Bool × Int × Int × Int × (List Zv) × Int × Int) :=
 if ((zh == 32)) = true then
 ((ZU 25 x1 zn z2 z6).bind fun r1 =>
 some ((Z3.mk 0 0 0 0 0 ([] : List Z8) ([] : List Z3)), true, r1.1, z7, zh, zj, r1.2.1, r1.2.2))
 else
 (Z48 x1 zn zu z7 zh zj z2 z6 0 0 0 0 0 (([] : List Z8)))
theorem ZaO (x1 : Int) (zn : List Int) (zu : Int) (z7 : Int) (zh : Int) (zj : List Zv) (z2 : Int) (z6 : Int) (zp : Own) (zd : Own) (zy : okApp zd = true) : Sim (Z2h zn zp) (Z3U x1 zn zu z7 zh zj z2 z6) (EE 51 [(.ptr 0 0), (iv x1)] [(Zk (Zm.mk zn zu z7 zh zj (Zl.mk z2 z6)) zp zd)]) := by
 unfold Z3U
 refine zf (Zkx ..) ?_
 refine ze ?_
 refine zz (.ptr 1 0) [(Zk (Zm.mk zn zu z7 zh zj (Zl.mk z2 z6)) zp zd), (Zq (Z3.mk 0 0 0 0 0 ([] : List Z8) ([] : List Z3)) .nl .nl)] ?_
 refine ze ?_
 refine zo (.ptr 0 0) ?_
 refine zo (.ptr 0 3) ?_
 refine zo (iv zh) ?_
 refine zo (bv (zh == 32)) ?_
 refine za ((zh == 32)) ?_ ?_
 ·refine ze ?_
  refine zi fun r1 hr1 => ?_
  obtain ⟨qr1, er1, exr1, rfl⟩ := ZX (25) (x1) (zn) (zu) (z7) (zh) (zj) (z2) (z6) zp zd zy r1 hr1
  refine zc [0] (.p (.tup [])) [(Zk (Zm.mk zn r1.1 z7 zh zj (Zl.mk r1.2.1 r1.2.2)) zp zd), (Zq (Z3.mk 0 0 0 0 0 ([] : List Z8) ([] : List Z3)) .nl .nl)] er1 ?_
  refine ze ?_
  refine zo (.p (.agg (ZC (Z3.mk 0 0 0 0 0 ([] : List Z8) ([] : List Z3)) .nl .nl))) ?_
  refine zt [(Zk (Zm.mk zn r1.1 z7 zh zj (Zl.mk r1.2.1 r1.2.2)) zp zd), (Zq (Z3.mk 0 0 0 0 0 ([] : List Z8) ([] : List Z3)) .nl .nl)] ?_
  exact zr ((.p (.tup [(.agg (ZC (Z3.mk 0 0 0 0 0 ([] : List Z8) ([] : List Z3)) .sh .sh)), (.v (.bool true))])), [(Zk (Zm.mk zn r1.1 z7 zh zj (Zl.mk r1.2.1 r1.2.2)) zp zd), (Zq (Z3.mk 0 0 0 0 0 ([] : List Z8) ([] : List Z3)) .nl .nl)]) ⟨zd, _, zy, rfl⟩
 ·exact zk (Za7 (x1) (zn) (zu) (z7) (zh) (zj) (z2) (z6) (0) (0) (0) (0) (0) (([] : List Z8)) (([] : List Z3)) zp zd .nl .nl zy rfl rfl)
theorem Z6h (x1 : Int) (zn : List Int) (zu : Int) (z7 : Int) (zh : Int) (zj : List Zv) (z2 : Int) (z6 : Int) {r} (h : Z3U x1 zn zu z7 zh zj z2 z6 = some r) : Z3h x1 zn zu z7 zh zj z2 z6 = some r :=
 pick_of (fun _ _ ha hb => RRun.uniq (Zbw _ _) (ha .ex .ex rfl) (hb .ex .ex rfl)) (fun zp zd zy => ZaO x1 zn zu z7 zh zj z2 z6 zp zd zy r h)
noncomputable def Zaf  : Option ((List ByteArray)) :=
 some (([(ByteArray.mk #[63, 61]), (ByteArray.mk #[63, 33]), (ByteArray.mk #[63, 60, 61]), (ByteArray.mk #[63, 60, 33])] : List ByteArray))
theorem ZdB  : Sim (Z7a) (Zaf) (EE 62 [] []) := by
 unfold Zaf
 refine zf (ZkU ..) ?_
 refine ze ?_
 refine ze ?_
 refine zo (.p (.lst .ex (([(ByteArray.mk #[63, 61]), (ByteArray.mk #[63, 33]), (ByteArray.mk #[63, 60, 61]), (ByteArray.mk #[63, 60, 33])] : List ByteArray).map eS))) ?_
 exact zr ((.p (.lst .sh (([(ByteArray.mk #[63, 61]), (ByteArray.mk #[63, 33]), (ByteArray.mk #[63, 60, 61]), (ByteArray.mk #[63, 60, 33])] : List ByteArray).map eS))), []) ⟨_, rfl⟩
theorem ZdO  {r} (h : Zaf = some r) : Z8G = some r :=
 pick_of (fun _ _ ha hb => RRun.uniq (Zew) (ha ) (hb )) (ZdB  r h)
noncomputable def Z3L (x0 : List ByteArray) (zn : List Int) (zu : Int) : Option (Int × Int) :=
 Z1y x0 ((x0.length : Int)) 0 zn zu
theorem Z8u (x0 : List ByteArray) (zn : List Int) (zu : Int) (z7 : Int) (zh : Int) (zj : List Zv) (z2 : Int) (z6 : Int) (ox0 : Own) (zp : Own) (zd : Own) (zy : okApp zd = true) : Sim (Z1o zn z7 zh zj z2 z6 zp zd) (Z3L x0 zn zu) (EE 61 [(.p (.lst ox0 (x0.map eS))), (.clo 27 [(.ptr 0 0)] [])] [(Zk (Zm.mk zn zu z7 zh zj (Zl.mk z2 z6)) zp zd)]) := by
 unfold Z3L
 refine zf (ZjD ..) ?_
 refine ze ?_
 refine ze ?_
 refine zo (iv (x0.length : Int)) ?_ (Eq.trans (by kernel_rfl) (xlen_of (P := PP) (t := 43) (d := 9) (by kernel_rfl) eS (shrO ox0) x0))
 exact zk (Z5z (x0) ((x0.length : Int)) (0) (zn) (zu) (z7) (zh) (zj) (z2) (z6) ox0 zp zd zy)
theorem Z8S (x0 : List ByteArray) (zn : List Int) (zu : Int) {r} (h : Z3L x0 zn zu = some r) : Z3M x0 zn zu = some r :=
 pick_of (fun _ _ ha hb => RRun.uniq (Z6g _ _ _ _ _ _ _ _) (ha default default default default default .ex .ex .ex rfl) (hb default default default default default .ex .ex .ex rfl)) (fun z7 zh zj z2 z6 ox0 zp zd zy => Z8u x0 zn zu z7 zh zj z2 z6 ox0 zp zd zy r h)
noncomputable def Z3i (x0 : List ByteArray) (x7 : Int) (x8 : Int) (zn : List Int) (zu : Int) : Option (Int × Int) :=
 Z1y x0 x7 ((IntKind.i64.wrap (x8 + 1))) zn zu
theorem Z7p (x0 : List ByteArray) (x7 : Int) (x8 : Int) (zn : List Int) (zu : Int) (z7 : Int) (zh : Int) (zj : List Zv) (z2 : Int) (z6 : Int) (ox0 : Own) (zp : Own) (zd : Own) (zy : okApp zd = true) : Sim (Z1o zn z7 zh zj z2 z6 zp zd) (Z3i x0 x7 x8 zn zu) (ZfI 1 (.p (.lst ox0 (x0.map eS))) (.clo 27 [(.ptr 0 0)] []) (iv x7) (iv x8) [(Zk (Zm.mk zn zu z7 zh zj (Zl.mk z2 z6)) zp zd)]) := by
 unfold Z3i
 refine zf (Zia ..) ?_
 refine ze ?_
 refine zo (iv (IntKind.i64.wrap (x8 + 1))) ?_
 exact zk (Z5z (x0) (x7) ((IntKind.i64.wrap (x8 + 1))) (zn) (zu) (z7) (zh) (zj) (z2) (z6) ox0 zp zd zy)
noncomputable def Z2C (x0 : List ByteArray) (x7 : Int) (x8 : Int) (zn : List Int) (zu : Int) : Option (Int × Int) :=
 (lget x0 x8).bind fun a1 =>
 (Z18 a1 zn zu).bind fun r2 =>
 if (r2.1) = true then
 (some (x8, r2.2))
 else
 (Z3i x0 x7 x8 zn r2.2)
theorem Z7I (x0 : List ByteArray) (x7 : Int) (x8 : Int) (zn : List Int) (zu : Int) (z7 : Int) (zh : Int) (zj : List Zv) (z2 : Int) (z6 : Int) (ox0 : Own) (zp : Own) (zd : Own) (zy : okApp zd = true) : Sim (Z1o zn z7 zh zj z2 z6 zp zd) (Z2C x0 x7 x8 zn zu) (Zfg 1 (.p (.lst ox0 (x0.map eS))) (.clo 27 [(.ptr 0 0)] []) (iv x7) (iv x8) [(Zk (Zm.mk zn zu z7 zh zj (Zl.mk z2 z6)) zp zd)]) := by
 unfold Z2C
 refine zf (Zic ..) ?_
 refine ze ?_
 refine ze ?_
 refine zi fun a1 ha1 => ?_
 refine zo (.cptr [(.v (.string a1))]) ?_ (Eq.trans (by kernel_rfl) (xidx_of (o := (shrO ox0)) (k := .i64) (n := 1) (e := eS) (cs := (fun a => [eS a])) (fun _ => rfl) (fun _ => rfl) (by decide) ha1))
 refine zo (.p (.v (.string a1))) ?_
 refine zi fun r2 hr2 => ?_
 obtain ⟨qr2, er2, exr2, rfl⟩ := Z1d (a1) (zn) (zu) (z7) (zh) (zj) (z2) (z6) zp zd zy r2 hr2
 refine zv [0] (bv r2.1) [(Zk (Zm.mk zn r2.2 z7 zh zj (Zl.mk z2 z6)) zp zd)] er2 ?_
 refine za (r2.1) ?_ ?_
 ·refine ze ?_
  exact zr ((iv x8), [(Zk (Zm.mk zn r2.2 z7 zh zj (Zl.mk z2 z6)) zp zd)]) ⟨_, rfl⟩
 ·exact zk (Z7p (x0) (x7) (x8) (zn) (r2.2) (z7) (zh) (zj) (z2) (z6) ox0 zp zd zy)
noncomputable def Z4q (zu : Int) : Option (Int × Int) :=
 some ((-1), zu)
theorem Z7C (zn : List Int) (zu : Int) (z7 : Int) (zh : Int) (zj : List Zv) (z2 : Int) (z6 : Int) (zp : Own) (zd : Own) (zy : okApp zd = true) : Sim (Z1o zn z7 zh zj z2 z6 zp zd) (Z4q zu) (ZgB 1  [(Zk (Zm.mk zn zu z7 zh zj (Zl.mk z2 z6)) zp zd)]) := by
 unfold Z4q
 refine zf (Zi3 ..) ?_
 refine ze ?_
 exact zr ((iv (-1)), [(Zk (Zm.mk zn zu z7 zh zj (Zl.mk z2 z6)) zp zd)]) ⟨_, rfl⟩
noncomputable def Z2g (x0 : List ByteArray) (x7 : Int) (x8 : Int) (zn : List Int) (zu : Int) : Option (Int × Int) :=
 if ((decide (x8 < x7))) = true then
 (Z2C x0 x7 x8 zn zu)
 else
 (Z4q zu)
theorem Z7y (x0 : List ByteArray) (x7 : Int) (x8 : Int) (zn : List Int) (zu : Int) (z7 : Int) (zh : Int) (zj : List Zv) (z2 : Int) (z6 : Int) (ox0 : Own) (zp : Own) (zd : Own) (zy : okApp zd = true) : Sim (Z1o zn z7 zh zj z2 z6 zp zd) (Z2g x0 x7 x8 zn zu) (Zck 1 (.p (.lst ox0 (x0.map eS))) (.clo 27 [(.ptr 0 0)] []) (iv x7) (iv x8) [(Zk (Zm.mk zn zu z7 zh zj (Zl.mk z2 z6)) zp zd)]) := by
 unfold Z2g
 refine zf (ZiV ..) ?_
 refine ze ?_
 refine zo (bv (decide (x8 < x7))) ?_
 refine za ((decide (x8 < x7))) ?_ ?_
 ·exact zk (Z7I (x0) (x7) (x8) (zn) (zu) (z7) (zh) (zj) (z2) (z6) ox0 zp zd zy)
 ·exact zk (Z7C (zn) (zu) (z7) (zh) (zj) (z2) (z6) zp zd zy)
theorem Z3Z (x0 : List ByteArray) (x7 : Int) (x8 : Int) (zn : List Int) (zu : Int) {r} (h : Z2g x0 x7 x8 zn zu = some r) : Z1y x0 x7 x8 zn zu = some r :=
 pick_of (fun _ _ ha hb => RRun.uniq (Z6g _ _ _ _ _ _ _ _) (ha default default default default default .ex .ex .ex rfl) (hb default default default default default .ex .ex .ex rfl)) (fun z7 zh zj z2 z6 ox0 zp zd zy => Z7y x0 x7 x8 zn zu z7 zh zj z2 z6 ox0 zp zd zy r h)
noncomputable def Z33 (zu : Int) (z2 : Int) (z6 : Int) (z27 : Int) (z35 : Int) (z36 : Int) (z2B : Int) (z2r : Int) (z2s : List Z8) (z26 : List Z3) : Option (Z3 × Int × Int × Int) :=
 some ((Z3.mk z27 z35 z36 z2B z2r z2s z26), zu, z2, z6)
theorem Z53 (zn : List Int) (zu : Int) (z7 : Int) (zh : Int) (zj : List Zv) (z2 : Int) (z6 : Int) (b1 : Z3) (b2 : Z3) (z27 : Int) (z35 : Int) (z36 : Int) (z2B : Int) (z2r : Int) (z2s : List Z8) (z26 : List Z3) (zp : Own) (zd : Own) (zD : Own) (zB : Own) (z1N : Own) (z1B : Own) (z3d : Own) (z2D : Own) (zy : okApp zd = true) (z8L : okApp z1N = true) (z7w : okApp z1B = true) (z8J : okApp z3d = true) (z7v : okApp z2D = true) : Sim (Z2I zn z7 zh zj zp zd) (Z33 zu z2 z6 z27 z35 z36 z2B z2r z2s z26) (Zc4 1 (.ptr 2 0) (.ptr 3 0) [(Zk (Zm.mk zn zu z7 zh zj (Zl.mk z2 z6)) zp zd), (Zq b1 zD zB), (Zq b2 z1N z1B), (Zq (Z3.mk z27 z35 z36 z2B z2r z2s z26) z3d z2D)]) := by
 unfold Z33
 refine zf (Zhi ..) ?_
 refine ze ?_
 refine zo (.p (.agg (ZC (Z3.mk z27 z35 z36 z2B z2r z2s z26) (shrO z3d) (shrO z2D)))) ?_
 refine zt [(Zk (Zm.mk zn zu z7 zh zj (Zl.mk z2 z6)) zp zd), (Zq b1 zD zB), (Zq (Z3.mk z27 z35 z36 z2B z2r z2s z26) (shrO z3d) (shrO z2D)), (Zq (Z3.mk z27 z35 z36 z2B z2r z2s z26) z3d z2D)] ?_
 exact zr ((.p (.agg (ZC (Z3.mk z27 z35 z36 z2B z2r z2s z26) .sh .sh))), [(Zk (Zm.mk zn zu z7 zh zj (Zl.mk z2 z6)) zp zd), (Zq b1 zD zB), (Zq (Z3.mk z27 z35 z36 z2B z2r z2s z26) (shrO z3d) (shrO z2D)), (Zq (Z3.mk z27 z35 z36 z2B z2r z2s z26) z3d z2D)]) ⟨_, rfl⟩
noncomputable def Z2u (zn : List Int) (zu : Int) (z2 : Int) (z6 : Int) (z27 : Int) (z35 : Int) (z36 : Int) (z2B : Int) (z2r : Int) (z2s : List Z8) (z26 : List Z3) : Option (Z3 × Int × Int × Int) :=
 (Z18 ((ByteArray.mk #[63])) zn zu).bind fun r1 =>
 if (r1.1) = true then
 (Z33 r1.2 z2 z6 z27 z35 z36 1 z2r z2s z26)
 else
 ((Z18 ((ByteArray.mk #[43])) zn r1.2).bind fun r2 =>
 if (r2.1) = true then
 (Z33 r2.2 z2 z6 z27 z35 z36 2 z2r z2s z26)
 else
 (Z33 r2.2 z2 z6 z27 z35 z36 z2B z2r z2s z26))
theorem Z6A (zn : List Int) (zu : Int) (z7 : Int) (zh : Int) (zj : List Zv) (z2 : Int) (z6 : Int) (b1 : Z3) (b2 : Z3) (z27 : Int) (z35 : Int) (z36 : Int) (z2B : Int) (z2r : Int) (z2s : List Z8) (z26 : List Z3) (zp : Own) (zd : Own) (zD : Own) (zB : Own) (z1N : Own) (z1B : Own) (z3d : Own) (z2D : Own) (zy : okApp zd = true) (z8L : okApp z1N = true) (z7w : okApp z1B = true) (z8J : okApp z3d = true) (z7v : okApp z2D = true) : Sim (Z2I zn z7 zh zj zp zd) (Z2u zn zu z2 z6 z27 z35 z36 z2B z2r z2s z26) (Zdf 1 (.ptr 0 0) (.ptr 2 0) (.ptr 3 0) [(Zk (Zm.mk zn zu z7 zh zj (Zl.mk z2 z6)) zp zd), (Zq b1 zD zB), (Zq b2 z1N z1B), (Zq (Z3.mk z27 z35 z36 z2B z2r z2s z26) z3d z2D)]) := by
 unfold Z2u
 refine zf (Zht ..) ?_
 refine ze ?_
 refine zi fun r1 hr1 => ?_
 obtain ⟨qr1, er1, exr1, rfl⟩ := Z1d ((ByteArray.mk #[63])) (zn) (zu) (z7) (zh) (zj) (z2) (z6) zp zd zy r1 hr1
 refine zc [0] (bv r1.1) [(Zk (Zm.mk zn r1.2 z7 zh zj (Zl.mk z2 z6)) zp zd), (Zq b1 zD zB), (Zq b2 z1N z1B), (Zq (Z3.mk z27 z35 z36 z2B z2r z2s z26) z3d z2D)] er1 ?_
 refine za (r1.1) ?_ ?_
 ·refine ze ?_
  refine zo (.ptr 3 3) ?_
  refine zt [(Zk (Zm.mk zn r1.2 z7 zh zj (Zl.mk z2 z6)) zp zd), (Zq b1 zD zB), (Zq b2 z1N z1B), (Zq (Z3.mk z27 z35 z36 1 z2r z2s z26) z3d z2D)] ?_
  exact zk (Z53 (zn) (r1.2) (z7) (zh) (zj) (z2) (z6) (b1) (b2) (z27) (z35) (z36) (1) (z2r) (z2s) (z26) zp zd zD zB z1N z1B z3d z2D zy z8L z7w z8J z7v)
 ·refine ze ?_
  refine zi fun r2 hr2 => ?_
  obtain ⟨qr2, er2, exr2, rfl⟩ := Z1d ((ByteArray.mk #[43])) (zn) (r1.2) (z7) (zh) (zj) (z2) (z6) zp zd zy r2 hr2
  refine zc [0] (bv r2.1) [(Zk (Zm.mk zn r2.2 z7 zh zj (Zl.mk z2 z6)) zp zd), (Zq b1 zD zB), (Zq b2 z1N z1B), (Zq (Z3.mk z27 z35 z36 z2B z2r z2s z26) z3d z2D)] er2 ?_
  refine za (r2.1) ?_ ?_
  ·refine ze ?_
   refine zo (.ptr 3 3) ?_
   refine zt [(Zk (Zm.mk zn r2.2 z7 zh zj (Zl.mk z2 z6)) zp zd), (Zq b1 zD zB), (Zq b2 z1N z1B), (Zq (Z3.mk z27 z35 z36 2 z2r z2s z26) z3d z2D)] ?_
   exact zk (Z53 (zn) (r2.2) (z7) (zh) (zj) (z2) (z6) (b1) (b2) (z27) (z35) (z36) (2) (z2r) (z2s) (z26) zp zd zD zB z1N z1B z3d z2D zy z8L z7w z8J z7v)
  ·exact zk (Z53 (zn) (r2.2) (z7) (zh) (zj) (z2) (z6) (b1) (b2) (z27) (z35) (z36) (z2B) (z2r) (z2s) (z26) zp zd zD zB z1N z1B z3d z2D zy z8L z7w z8J z7v)
noncomputable def Z1Z (x2 : Bool) (x7 : Int) (zn : List Int) (zu : Int) (z2 : Int) (z6 : Int) (z27 : Int) (z35 : Int) (z36 : Int) (z2B : Int) (z2r : Int) (z2s : List Z8) (z26 : List Z3) : Option (Z3 × Int × Int × Int) :=
 if ((!x2)) = true then
 ((ZU 23 x7 zn z2 z6).bind fun r1 =>
 Z2u zn r1.1 r1.2.1 r1.2.2 z27 z35 z36 z2B z2r z2s z26)
 else
 (Z2u zn zu z2 z6 z27 z35 z36 z2B z2r z2s z26)
theorem Z3N (x2 : Bool) (x7 : Int) (zn : List Int) (zu : Int) (z7 : Int) (zh : Int) (zj : List Zv) (z2 : Int) (z6 : Int) (b1 : Z3) (b2 : Z3) (z27 : Int) (z35 : Int) (z36 : Int) (z2B : Int) (z2r : Int) (z2s : List Z8) (z26 : List Z3) (zp : Own) (zd : Own) (zD : Own) (zB : Own) (z1N : Own) (z1B : Own) (z3d : Own) (z2D : Own) (zy : okApp zd = true) (z8L : okApp z1N = true) (z7w : okApp z1B = true) (z8J : okApp z3d = true) (z7v : okApp z2D = true) : Sim (Z2I zn z7 zh zj zp zd) (Z1Z x2 x7 zn zu z2 z6 z27 z35 z36 z2B z2r z2s z26) (ZaF 1 (.ptr 0 0) (bv x2) (.ptr 2 0) (iv x7) (.ptr 3 0) [(Zk (Zm.mk zn zu z7 zh zj (Zl.mk z2 z6)) zp zd), (Zq b1 zD zB), (Zq b2 z1N z1B), (Zq (Z3.mk z27 z35 z36 z2B z2r z2s z26) z3d z2D)]) := by
 unfold Z1Z
 refine zf (ZgU ..) ?_
 refine ze ?_
 refine zo (bv (!x2)) ?_
 refine za ((!x2)) ?_ ?_
 ·refine ze ?_
  refine zi fun r1 hr1 => ?_
  obtain ⟨qr1, er1, exr1, rfl⟩ := ZX (23) (x7) (zn) (zu) (z7) (zh) (zj) (z2) (z6) zp zd zy r1 hr1
  refine zc [0] (.p (.tup [])) [(Zk (Zm.mk zn r1.1 z7 zh zj (Zl.mk r1.2.1 r1.2.2)) zp zd), (Zq b1 zD zB), (Zq b2 z1N z1B), (Zq (Z3.mk z27 z35 z36 z2B z2r z2s z26) z3d z2D)] er1 ?_
  exact zk (Z6A (zn) (r1.1) (z7) (zh) (zj) (r1.2.1) (r1.2.2) (b1) (b2) (z27) (z35) (z36) (z2B) (z2r) (z2s) (z26) zp zd zD zB z1N z1B z3d z2D zy z8L z7w z8J z7v)
 ·exact zk (Z6A (zn) (zu) (z7) (zh) (zj) (z2) (z6) (b1) (b2) (z27) (z35) (z36) (z2B) (z2r) (z2s) (z26) zp zd zD zB z1N z1B z3d z2D zy z8L z7w z8J z7v)
noncomputable def Z3D (x1 : Z3) (x2 : Bool) (zn : List Int) (zu : Int) (z7 : Int) (zh : Int) (zj : List Zv) (z2 : Int) (z6 : Int) : Option (Z3 × Int × Int × Int) :=
 (Z18 ((ByteArray.mk #[42])) zn zu).bind fun r1 =>
 if (r1.1) = true then
 (Z1Z x2 zu zn r1.2 z2 z6 4 0 ((-1)) 0 0 (([] : List Z8)) (([x1] : List Z3)))
 else
 ((Z18 ((ByteArray.mk #[43])) zn r1.2).bind fun r2 =>
 if (r2.1) = true then
 (Z1Z x2 zu zn r2.2 z2 z6 4 1 ((-1)) 0 0 (([] : List Z8)) (([x1] : List Z3)))
 else
 ((Z18 ((ByteArray.mk #[63])) zn r2.2).bind fun r3 =>
 if (r3.1) = true then
 (Z1Z x2 zu zn r3.2 z2 z6 4 0 1 0 0 (([] : List Z8)) (([x1] : List Z3)))
 else
 ((Z18 ((ByteArray.mk #[123])) zn r3.2).bind fun r4 =>
 if (r4.1) = true then
 ((Z4x zu zn r4.2 z7 zh zj z2 z6).bind fun r5 =>
 Z1Z x2 zu zn r5.2.2.1 r5.2.2.2.1 r5.2.2.2.2 4 r5.1 r5.2.1 0 0 (([] : List Z8)) (([x1] : List Z3)))
 else
 (some (x1, r4.2, z2, z6)))))
theorem Zar (x1 : Z3) (x2 : Bool) (zn : List Int) (zu : Int) (z7 : Int) (zh : Int) (zj : List Zv) (z2 : Int) (z6 : Int) (z2f : Own) (z1R : Own) (zp : Own) (zd : Own) (zy : okApp zd = true) : Sim (Z2I zn z7 zh zj zp zd) (Z3D x1 x2 zn zu z7 zh zj z2 z6) (EE 43 [(.ptr 0 0), (.p (.agg (ZC x1 z2f z1R))), (bv x2)] [(Zk (Zm.mk zn zu z7 zh zj (Zl.mk z2 z6)) zp zd)]) := by
 unfold Z3D
 refine zf (Zlb ..) ?_
 refine ze ?_
 refine zx (.ptr 1 0) [(Zk (Zm.mk zn zu z7 zh zj (Zl.mk z2 z6)) zp zd), (Zq x1 z2f z1R)] ?_
 refine zz (.ptr 2 0) [(Zk (Zm.mk zn zu z7 zh zj (Zl.mk z2 z6)) zp zd), (Zq x1 z2f z1R), (Zq (Z3.mk 0 0 0 0 0 ([] : List Z8) ([] : List Z3)) .nl .nl)] ?_
 refine ze ?_
 refine zo (.ptr 0 0) ?_
 refine zo (.ptr 0 1) ?_
 refine zo (iv zu) ?_
 refine ze ?_
 refine zo (.p (.agg (ZC x1 (shrO z2f) (shrO z1R)))) ?_
 refine zo (.p (.lst .ex (([x1] : List Z3).map ZG))) ?_ (Eq.trans (b := some (.p (.lst .ex [.agg (Z21 x1)]))) (by kernel_rfl) (by simp only [List.map_cons, List.map_nil, Z3k]))
 refine zo (.p (.agg (ZC (Z3.mk 4 0 (-1) 0 0 ([] : List Z8) ([x1] : List Z3)) .nl .ex))) ?_
 refine zz (.ptr 3 0) [(Zk (Zm.mk zn zu z7 zh zj (Zl.mk z2 z6)) zp zd), (Zq x1 z2f z1R), (Zq (Z3.mk 0 0 0 0 0 ([] : List Z8) ([] : List Z3)) .nl .nl), (Zq (Z3.mk 0 0 0 0 0 ([] : List Z8) ([] : List Z3)) .nl .nl)] ?_
 refine zt [(Zk (Zm.mk zn zu z7 zh zj (Zl.mk z2 z6)) zp zd), (Zq x1 z2f z1R), (Zq (Z3.mk 0 0 0 0 0 ([] : List Z8) ([] : List Z3)) .nl .nl), (Zq (Z3.mk 4 0 (-1) 0 0 ([] : List Z8) ([x1] : List Z3)) .nl .ex)] ?_
 refine ze ?_
 refine zi fun r1 hr1 => ?_
 obtain ⟨qr1, er1, exr1, rfl⟩ := Z1d ((ByteArray.mk #[42])) (zn) (zu) (z7) (zh) (zj) (z2) (z6) zp zd zy r1 hr1
 refine zc [0] (bv r1.1) [(Zk (Zm.mk zn r1.2 z7 zh zj (Zl.mk z2 z6)) zp zd), (Zq x1 z2f z1R), (Zq (Z3.mk 0 0 0 0 0 ([] : List Z8) ([] : List Z3)) .nl .nl), (Zq (Z3.mk 4 0 (-1) 0 0 ([] : List Z8) ([x1] : List Z3)) .nl .ex)] er1 ?_
 refine za (r1.1) ?_ ?_
 ·exact zk (Z3N (x2) (zu) (zn) (r1.2) (z7) (zh) (zj) (z2) (z6) (x1) ((Z3.mk 0 0 0 0 0 ([] : List Z8) ([] : List Z3))) (4) (0) ((-1)) (0) (0) (([] : List Z8)) (([x1] : List Z3)) zp zd z2f z1R .nl .nl .nl .ex zy rfl rfl rfl rfl)
 ·refine ze ?_
  refine zi fun r2 hr2 => ?_
  obtain ⟨qr2, er2, exr2, rfl⟩ := Z1d ((ByteArray.mk #[43])) (zn) (r1.2) (z7) (zh) (zj) (z2) (z6) zp zd zy r2 hr2
  refine zc [0] (bv r2.1) [(Zk (Zm.mk zn r2.2 z7 zh zj (Zl.mk z2 z6)) zp zd), (Zq x1 z2f z1R), (Zq (Z3.mk 0 0 0 0 0 ([] : List Z8) ([] : List Z3)) .nl .nl), (Zq (Z3.mk 4 0 (-1) 0 0 ([] : List Z8) ([x1] : List Z3)) .nl .ex)] er2 ?_
  refine za (r2.1) ?_ ?_
  ·refine ze ?_
   refine zo (.ptr 3 1) ?_
   refine zt [(Zk (Zm.mk zn r2.2 z7 zh zj (Zl.mk z2 z6)) zp zd), (Zq x1 z2f z1R), (Zq (Z3.mk 0 0 0 0 0 ([] : List Z8) ([] : List Z3)) .nl .nl), (Zq (Z3.mk 4 1 (-1) 0 0 ([] : List Z8) ([x1] : List Z3)) .nl .ex)] ?_
   exact zk (Z3N (x2) (zu) (zn) (r2.2) (z7) (zh) (zj) (z2) (z6) (x1) ((Z3.mk 0 0 0 0 0 ([] : List Z8) ([] : List Z3))) (4) (1) ((-1)) (0) (0) (([] : List Z8)) (([x1] : List Z3)) zp zd z2f z1R .nl .nl .nl .ex zy rfl rfl rfl rfl)
  ·refine ze ?_
   refine zi fun r3 hr3 => ?_
   obtain ⟨qr3, er3, exr3, rfl⟩ := Z1d ((ByteArray.mk #[63])) (zn) (r2.2) (z7) (zh) (zj) (z2) (z6) zp zd zy r3 hr3
   refine zc [0] (bv r3.1) [(Zk (Zm.mk zn r3.2 z7 zh zj (Zl.mk z2 z6)) zp zd), (Zq x1 z2f z1R), (Zq (Z3.mk 0 0 0 0 0 ([] : List Z8) ([] : List Z3)) .nl .nl), (Zq (Z3.mk 4 0 (-1) 0 0 ([] : List Z8) ([x1] : List Z3)) .nl .ex)] er3 ?_
   refine za (r3.1) ?_ ?_
   ·refine ze ?_
    refine zo (.ptr 3 2) ?_
    refine zt [(Zk (Zm.mk zn r3.2 z7 zh zj (Zl.mk z2 z6)) zp zd), (Zq x1 z2f z1R), (Zq (Z3.mk 0 0 0 0 0 ([] : List Z8) ([] : List Z3)) .nl .nl), (Zq (Z3.mk 4 0 1 0 0 ([] : List Z8) ([x1] : List Z3)) .nl .ex)] ?_
    exact zk (Z3N (x2) (zu) (zn) (r3.2) (z7) (zh) (zj) (z2) (z6) (x1) ((Z3.mk 0 0 0 0 0 ([] : List Z8) ([] : List Z3))) (4) (0) (1) (0) (0) (([] : List Z8)) (([x1] : List Z3)) zp zd z2f z1R .nl .nl .nl .ex zy rfl rfl rfl rfl)
   ·refine ze ?_
    refine zi fun r4 hr4 => ?_
    obtain ⟨qr4, er4, exr4, rfl⟩ := Z1d ((ByteArray.mk #[123])) (zn) (r3.2) (z7) (zh) (zj) (z2) (z6) zp zd zy r4 hr4
    refine zc [0] (bv r4.1) [(Zk (Zm.mk zn r4.2 z7 zh zj (Zl.mk z2 z6)) zp zd), (Zq x1 z2f z1R), (Zq (Z3.mk 0 0 0 0 0 ([] : List Z8) ([] : List Z3)) .nl .nl), (Zq (Z3.mk 4 0 (-1) 0 0 ([] : List Z8) ([x1] : List Z3)) .nl .ex)] er4 ?_
    refine za (r4.1) ?_ ?_
    ·refine ze ?_
     refine zi fun r5 hr5 => ?_
     obtain ⟨qr5, er5, exr5, rfl⟩ := Zb2 (zu) (zn) (r4.2) (z7) (zh) (zj) (z2) (z6) zp zd zy r5 hr5
     refine zc [0] (.p (.tup [(.v (.int .i64 r5.1)), (.v (.int .i64 r5.2.1))])) [(Zk (Zm.mk zn r5.2.2.1 z7 zh zj (Zl.mk r5.2.2.2.1 r5.2.2.2.2)) zp zd), (Zq x1 z2f z1R), (Zq (Z3.mk 0 0 0 0 0 ([] : List Z8) ([] : List Z3)) .nl .nl), (Zq (Z3.mk 4 0 (-1) 0 0 ([] : List Z8) ([x1] : List Z3)) .nl .ex)] er5 ?_
     refine zo (iv r5.1) ?_
     refine zo (iv r5.2.1) ?_
     refine zo (.ptr 3 1) ?_
     refine zt [(Zk (Zm.mk zn r5.2.2.1 z7 zh zj (Zl.mk r5.2.2.2.1 r5.2.2.2.2)) zp zd), (Zq x1 z2f z1R), (Zq (Z3.mk 0 0 0 0 0 ([] : List Z8) ([] : List Z3)) .nl .nl), (Zq (Z3.mk 4 r5.1 (-1) 0 0 ([] : List Z8) ([x1] : List Z3)) .nl .ex)] ?_
     refine zo (.ptr 3 2) ?_
     refine zt [(Zk (Zm.mk zn r5.2.2.1 z7 zh zj (Zl.mk r5.2.2.2.1 r5.2.2.2.2)) zp zd), (Zq x1 z2f z1R), (Zq (Z3.mk 0 0 0 0 0 ([] : List Z8) ([] : List Z3)) .nl .nl), (Zq (Z3.mk 4 r5.1 r5.2.1 0 0 ([] : List Z8) ([x1] : List Z3)) .nl .ex)] ?_
     exact zk (Z3N (x2) (zu) (zn) (r5.2.2.1) (z7) (zh) (zj) (r5.2.2.2.1) (r5.2.2.2.2) (x1) ((Z3.mk 0 0 0 0 0 ([] : List Z8) ([] : List Z3))) (4) (r5.1) (r5.2.1) (0) (0) (([] : List Z8)) (([x1] : List Z3)) zp zd z2f z1R .nl .nl .nl .ex zy rfl rfl rfl rfl)
    ·refine ze ?_
     refine zo (.p (.agg (ZC x1 (shrO z2f) (shrO z1R)))) ?_
     refine zt [(Zk (Zm.mk zn r4.2 z7 zh zj (Zl.mk z2 z6)) zp zd), (Zq x1 z2f z1R), (Zq x1 (shrO z2f) (shrO z1R)), (Zq (Z3.mk 4 0 (-1) 0 0 ([] : List Z8) ([x1] : List Z3)) .nl .ex)] ?_
     exact zr ((.p (.agg (ZC x1 .sh .sh))), [(Zk (Zm.mk zn r4.2 z7 zh zj (Zl.mk z2 z6)) zp zd), (Zq x1 z2f z1R), (Zq x1 (shrO z2f) (shrO z1R)), (Zq (Z3.mk 4 0 (-1) 0 0 ([] : List Z8) ([x1] : List Z3)) .nl .ex)]) ⟨_, rfl⟩
theorem Z7B (x1 : Z3) (x2 : Bool) (zn : List Int) (zu : Int) (z7 : Int) (zh : Int) (zj : List Zv) (z2 : Int) (z6 : Int) {r} (h : Z3D x1 x2 zn zu z7 zh zj z2 z6 = some r) : Z4C x1 x2 zn zu z7 zh zj z2 z6 = some r :=
 pick_of (fun _ _ ha hb => RRun.uniq (Zb6 _ _ _ _ _ _) (ha .ex .ex .ex .ex rfl) (hb .ex .ex .ex .ex rfl)) (fun z2f z1R zp zd zy => Zar x1 x2 zn zu z7 zh zj z2 z6 z2f z1R zp zd zy r h)
noncomputable def Z64 (x4 : Int) (zu : Int) (z2 : Int) (z6 : Int) : Option (Int × Int × Int × Int × Int) :=
 some (x4, (-1), zu, z2, z6)
theorem Z9E (x4 : Int) (zn : List Int) (zu : Int) (z7 : Int) (zh : Int) (zj : List Zv) (z2 : Int) (z6 : Int) (zp : Own) (zd : Own) (zy : okApp zd = true) : Sim (Z1V zn z7 zh zj zp zd) (Z64 x4 zu z2 z6) (Zgo 1 (iv x4) [(Zk (Zm.mk zn zu z7 zh zj (Zl.mk z2 z6)) zp zd)]) := by
 unfold Z64
 refine zf (ZhU ..) ?_
 refine ze ?_
 exact zr ((.p (.tup [(.v (.int .i64 x4)), (.v (.int .i64 (-1)))])), [(Zk (Zm.mk zn zu z7 zh zj (Zl.mk z2 z6)) zp zd)]) ⟨_, rfl⟩
noncomputable def Z4H (x4 : Int) (x5 : Int) (zu : Int) (z2 : Int) (z6 : Int) : Option (Int × Int × Int × Int × Int) :=
 some (x4, x5, zu, z2, z6)
theorem Z6z (x4 : Int) (x5 : Int) (zn : List Int) (zu : Int) (z7 : Int) (zh : Int) (zj : List Zv) (z2 : Int) (z6 : Int) (zp : Own) (zd : Own) (zy : okApp zd = true) : Sim (Z1V zn z7 zh zj zp zd) (Z4H x4 x5 zu z2 z6) (Zdm 1 (iv x4) (iv x5) [(Zk (Zm.mk zn zu z7 zh zj (Zl.mk z2 z6)) zp zd)]) := by
 unfold Z4H
 refine zf (Zhk ..) ?_
 refine ze ?_
 exact zr ((.p (.tup [(.v (.int .i64 x4)), (.v (.int .i64 x5))])), [(Zk (Zm.mk zn zu z7 zh zj (Zl.mk z2 z6)) zp zd)]) ⟨_, rfl⟩
noncomputable def Z2d (x1 : Int) (x4 : Int) (x5 : Int) (zn : List Int) (z2 : Int) (z6 : Int) : Option (Int × Int × Int × Int × Int) :=
 (ZU 23 x1 zn z2 z6).bind fun r1 =>
 Z4H x4 x5 r1.1 r1.2.1 r1.2.2
theorem Z3O (x1 : Int) (x4 : Int) (x5 : Int) (zn : List Int) (zu : Int) (z7 : Int) (zh : Int) (zj : List Zv) (z2 : Int) (z6 : Int) (zp : Own) (zd : Own) (zy : okApp zd = true) : Sim (Z1V zn z7 zh zj zp zd) (Z2d x1 x4 x5 zn z2 z6) (ZaL 1 (.ptr 0 0) (iv x1) (iv x4) (iv x5) [(Zk (Zm.mk zn zu z7 zh zj (Zl.mk z2 z6)) zp zd)]) := by
 unfold Z2d
 refine zf (Zhq ..) ?_
 refine ze ?_
 refine zi fun r1 hr1 => ?_
 obtain ⟨qr1, er1, exr1, rfl⟩ := ZX (23) (x1) (zn) (zu) (z7) (zh) (zj) (z2) (z6) zp zd zy r1 hr1
 refine zc [0] (.p (.tup [])) [(Zk (Zm.mk zn r1.1 z7 zh zj (Zl.mk r1.2.1 r1.2.2)) zp zd)] er1 ?_
 exact zk (Z6z (x4) (x5) (zn) (r1.1) (z7) (zh) (zj) (r1.2.1) (r1.2.2) zp zd zy)
noncomputable def Z23 (x1 : Int) (x4 : Int) (x5 : Int) (zn : List Int) (zu : Int) (z2 : Int) (z6 : Int) : Option (Int × Int × Int × Int × Int) :=
 if ((decide (x4 < 0))) = true then
 (Z2d x1 x4 x5 zn z2 z6)
 else
 (if ((decide (x5 < x4))) = true then
 (Z2d x1 x4 x5 zn z2 z6)
 else
 (if ((decide (64 < x5))) = true then
 (Z2d x1 x4 x5 zn z2 z6)
 else
 ((Z18 ((ByteArray.mk #[125])) zn zu).bind fun r1 =>
 if ((!r1.1)) = true then
 (Z2d x1 x4 x5 zn z2 z6)
 else
 (Z4H x4 x5 r1.2 z2 z6))))
theorem Z41 (x1 : Int) (x4 : Int) (x5 : Int) (zn : List Int) (zu : Int) (z7 : Int) (zh : Int) (zj : List Zv) (z2 : Int) (z6 : Int) (zp : Own) (zd : Own) (zy : okApp zd = true) : Sim (Z1V zn z7 zh zj zp zd) (Z23 x1 x4 x5 zn zu z2 z6) (ZbY 1 (.ptr 0 0) (iv x1) (iv x4) (iv x5) [(Zk (Zm.mk zn zu z7 zh zj (Zl.mk z2 z6)) zp zd)]) := by
 unfold Z23
 refine zf (ZhK ..) ?_
 refine ze ?_
 refine zo (bv (decide (x4 < 0))) ?_
 refine za ((decide (x4 < 0))) ?_ ?_
 ·exact zk (Z3O (x1) (x4) (x5) (zn) (zu) (z7) (zh) (zj) (z2) (z6) zp zd zy)
 ·refine zo (bv (decide (x5 < x4))) ?_
  refine za ((decide (x5 < x4))) ?_ ?_
  ·exact zk (Z3O (x1) (x4) (x5) (zn) (zu) (z7) (zh) (zj) (z2) (z6) zp zd zy)
  ·refine zo (bv (decide (64 < x5))) ?_
   refine za ((decide (64 < x5))) ?_ ?_
   ·exact zk (Z3O (x1) (x4) (x5) (zn) (zu) (z7) (zh) (zj) (z2) (z6) zp zd zy)
   ·refine zi fun r1 hr1 => ?_
    obtain ⟨qr1, er1, exr1, rfl⟩ := Z1d ((ByteArray.mk #[125])) (zn) (zu) (z7) (zh) (zj) (z2) (z6) zp zd zy r1 hr1
    refine zc [0] (bv r1.1) [(Zk (Zm.mk zn r1.2 z7 zh zj (Zl.mk z2 z6)) zp zd)] er1 ?_
    refine zo (bv (!r1.1)) ?_
    refine za ((!r1.1)) ?_ ?_
    ·exact zk (Z3O (x1) (x4) (x5) (zn) (r1.2) (z7) (zh) (zj) (z2) (z6) zp zd zy)
    ·exact zk (Z6z (x4) (x5) (zn) (r1.2) (z7) (zh) (zj) (z2) (z6) zp zd zy)
noncomputable def Z3e (x1 : Int) (x4 : Int) (zn : List Int) (zu : Int) (z2 : Int) (z6 : Int) : Option (Int × Int × Int × Int × Int) :=
 Z23 x1 x4 ((-2)) zn zu z2 z6
theorem Z6M (x1 : Int) (x4 : Int) (zn : List Int) (zu : Int) (z7 : Int) (zh : Int) (zj : List Zv) (z2 : Int) (z6 : Int) (zp : Own) (zd : Own) (zy : okApp zd = true) : Sim (Z1V zn z7 zh zj zp zd) (Z3e x1 x4 zn zu z2 z6) (Zed 1 (.ptr 0 0) (iv x1) (iv x4) [(Zk (Zm.mk zn zu z7 zh zj (Zl.mk z2 z6)) zp zd)]) := by
 unfold Z3e
 refine zf (ZiM ..) ?_
 refine ze ?_
 exact zk (Z41 (x1) (x4) ((-2)) (zn) (zu) (z7) (zh) (zj) (z2) (z6) zp zd zy)
noncomputable def Z4V (x1 : Int) (x4 : Int) (zn : List Int) (zu : Int) (z2 : Int) (z6 : Int) : Option (Int × Int × Int × Int × Int) :=
 (Z18 ((ByteArray.mk #[125])) zn zu).bind fun r1 =>
 if (r1.1) = true then
 (if ((decide (x4 ≤ 64))) = true then
 (Z64 x4 r1.2 z2 z6)
 else
 (Z3e x1 x4 zn r1.2 z2 z6))
 else
 (Z3e x1 x4 zn r1.2 z2 z6)
theorem Z9J (x1 : Int) (x4 : Int) (zn : List Int) (zu : Int) (z7 : Int) (zh : Int) (zj : List Zv) (z2 : Int) (z6 : Int) (zp : Own) (zd : Own) (zy : okApp zd = true) : Sim (Z1V zn z7 zh zj zp zd) (Z4V x1 x4 zn zu z2 z6) (ZfM 1 (.ptr 0 0) (iv x1) (iv x4) [(Zk (Zm.mk zn zu z7 zh zj (Zl.mk z2 z6)) zp zd)]) := by
 unfold Z4V
 refine zf (Zj2 ..) ?_
 refine ze ?_
 refine zi fun r1 hr1 => ?_
 obtain ⟨qr1, er1, exr1, rfl⟩ := Z1d ((ByteArray.mk #[125])) (zn) (zu) (z7) (zh) (zj) (z2) (z6) zp zd zy r1 hr1
 refine zc [0] (bv r1.1) [(Zk (Zm.mk zn r1.2 z7 zh zj (Zl.mk z2 z6)) zp zd)] er1 ?_
 refine za (r1.1) ?_ ?_
 ·refine zo (bv (decide (x4 ≤ 64))) ?_
  refine za ((decide (x4 ≤ 64))) ?_ ?_
  ·exact zk (Z9E (x4) (zn) (r1.2) (z7) (zh) (zj) (z2) (z6) zp zd zy)
  ·exact zk (Z6M (x1) (x4) (zn) (r1.2) (z7) (zh) (zj) (z2) (z6) zp zd zy)
 ·exact zk (Z6M (x1) (x4) (zn) (r1.2) (z7) (zh) (zj) (z2) (z6) zp zd zy)
noncomputable def Z4u (x1 : Int) (zn : List Int) (zu : Int) (z7 : Int) (zh : Int) (zj : List Zv) (z2 : Int) (z6 : Int) : Option (Int × Int × Int × Int × Int) :=
 (Z3F zn zu z7 zh zj z2 z6).bind fun r1 =>
 (Z18 ((ByteArray.mk #[44])) zn r1.2).bind fun r2 =>
 if (r2.1) = true then
 ((Z3F zn r2.2 z7 zh zj z2 z6).bind fun r3 =>
 if ((decide (r3.1 < 0))) = true then
 (if ((decide (0 ≤ r1.1))) = true then
 (Z4V x1 r1.1 zn r3.2 z2 z6)
 else
 (Z23 x1 r1.1 r3.1 zn r3.2 z2 z6))
 else
 (Z23 x1 r1.1 r3.1 zn r3.2 z2 z6))
 else
 (Z23 x1 r1.1 r1.1 zn r2.2 z2 z6)
theorem Zam (x1 : Int) (zn : List Int) (zu : Int) (z7 : Int) (zh : Int) (zj : List Zv) (z2 : Int) (z6 : Int) (zp : Own) (zd : Own) (zy : okApp zd = true) : Sim (Z1V zn z7 zh zj zp zd) (Z4u x1 zn zu z7 zh zj z2 z6) (EE 52 [(.ptr 0 0), (iv x1)] [(Zk (Zm.mk zn zu z7 zh zj (Zl.mk z2 z6)) zp zd)]) := by
 unfold Z4u
 refine zf (Zkq ..) ?_
 refine ze ?_
 refine ze ?_
 refine zi fun r1 hr1 => ?_
 obtain ⟨qr1, er1, exr1, rfl⟩ := Z7A (zn) (zu) (z7) (zh) (zj) (z2) (z6) zp zd zy r1 hr1
 refine zc [0] (iv r1.1) [(Zk (Zm.mk zn r1.2 z7 zh zj (Zl.mk z2 z6)) zp zd)] er1 ?_
 refine ze ?_
 refine ze ?_
 refine zi fun r2 hr2 => ?_
 obtain ⟨qr2, er2, exr2, rfl⟩ := Z1d ((ByteArray.mk #[44])) (zn) (r1.2) (z7) (zh) (zj) (z2) (z6) zp zd zy r2 hr2
 refine zc [0] (bv r2.1) [(Zk (Zm.mk zn r2.2 z7 zh zj (Zl.mk z2 z6)) zp zd)] er2 ?_
 refine za (r2.1) ?_ ?_
 ·refine ze ?_
  refine zi fun r3 hr3 => ?_
  obtain ⟨qr3, er3, exr3, rfl⟩ := Z7A (zn) (r2.2) (z7) (zh) (zj) (z2) (z6) zp zd zy r3 hr3
  refine zc [0] (iv r3.1) [(Zk (Zm.mk zn r3.2 z7 zh zj (Zl.mk z2 z6)) zp zd)] er3 ?_
  refine ze ?_
  refine zo (bv (decide (r3.1 < 0))) ?_
  refine za ((decide (r3.1 < 0))) ?_ ?_
  ·refine zo (bv (decide (0 ≤ r1.1))) ?_
   refine za ((decide (0 ≤ r1.1))) ?_ ?_
   ·exact zk (Z9J (x1) (r1.1) (zn) (r3.2) (z7) (zh) (zj) (z2) (z6) zp zd zy)
   ·exact zk (Z41 (x1) (r1.1) (r3.1) (zn) (r3.2) (z7) (zh) (zj) (z2) (z6) zp zd zy)
  ·exact zk (Z41 (x1) (r1.1) (r3.1) (zn) (r3.2) (z7) (zh) (zj) (z2) (z6) zp zd zy)
 ·exact zk (Z41 (x1) (r1.1) (r1.1) (zn) (r2.2) (z7) (zh) (zj) (z2) (z6) zp zd zy)
theorem Z7D (x1 : Int) (zn : List Int) (zu : Int) (z7 : Int) (zh : Int) (zj : List Zv) (z2 : Int) (z6 : Int) {r} (h : Z4u x1 zn zu z7 zh zj z2 z6 = some r) : Z4x x1 zn zu z7 zh zj z2 z6 = some r :=
 pick_of (fun _ _ ha hb => RRun.uniq (Zb7 _ _ _ _ _ _) (ha .ex .ex rfl) (hb .ex .ex rfl)) (fun zp zd zy => Zam x1 zn zu z7 zh zj z2 z6 zp zd zy r h)
noncomputable def Z6W (zn : List Int) (zu : Int) (z7 : Int) (zh : Int) (zj : List Zv) (z2 : Int) (z6 : Int) : Option (Int × Int) :=
 Z2E ((-1)) 0 zn zu z7 zh zj z2 z6
theorem Zaq (zn : List Int) (zu : Int) (z7 : Int) (zh : Int) (zj : List Zv) (z2 : Int) (z6 : Int) (zp : Own) (zd : Own) (zy : okApp zd = true) : Sim (Z2a zn z7 zh zj z2 z6 zp zd) (Z6W zn zu z7 zh zj z2 z6) (EE 63 [(.ptr 0 0)] [(Zk (Zm.mk zn zu z7 zh zj (Zl.mk z2 z6)) zp zd)]) := by
 unfold Z6W
 refine zf (Zl0 ..) ?_
 refine ze ?_
 refine ze ?_
 refine ze ?_
 exact zk (Z6X ((-1)) (0) (zn) (zu) (z7) (zh) (zj) (z2) (z6) zp zd zy)
theorem Zb3 (zn : List Int) (zu : Int) (z7 : Int) (zh : Int) (zj : List Zv) (z2 : Int) (z6 : Int) {r} (h : Z6W zn zu z7 zh zj z2 z6 = some r) : Z3F zn zu z7 zh zj z2 z6 = some r :=
 pick_of (fun _ _ ha hb => RRun.uniq (Z88 _ _ _ _ _ _ _ _) (ha .ex .ex rfl) (hb .ex .ex rfl)) (fun zp zd zy => Zaq zn zu z7 zh zj z2 z6 zp zd zy r h)
noncomputable def Z4M (x3 : Int) (x4 : Int) (zn : List Int) (zu : Int) (z7 : Int) (zh : Int) (zj : List Zv) (z2 : Int) (z6 : Int) : Option (Int × Int) :=
 (Z2b zn zu).bind fun r1 =>
 Z2E ((IntKind.i64.wrap ((IntKind.i64.wrap ((IntKind.i64.wrap (10 * (max x3 0))) + r1.1)) - 48))) ((IntKind.i64.wrap (x4 + 1))) zn r1.2 z7 zh zj z2 z6
theorem Z9B (x3 : Int) (x4 : Int) (zn : List Int) (zu : Int) (z7 : Int) (zh : Int) (zj : List Zv) (z2 : Int) (z6 : Int) (zp : Own) (zd : Own) (zy : okApp zd = true) : Sim (Z2a zn z7 zh zj z2 z6 zp zd) (Z4M x3 x4 zn zu z7 zh zj z2 z6) (Zgi 1 (.ptr 0 0) (iv x3) (iv x4) [(Zk (Zm.mk zn zu z7 zh zj (Zl.mk z2 z6)) zp zd)]) := by
 unfold Z4M
 refine zf (Zj8 ..) ?_
 refine ze ?_
 refine zo (iv (max x3 0)) ?_ (xminmax2_max _ _)
 refine zo (iv (IntKind.i64.wrap (10 * (max x3 0)))) ?_
 refine zi fun r1 hr1 => ?_
 obtain ⟨qr1, er1, exr1, rfl⟩ := Z2z (zn) (zu) (z7) (zh) (zj) (z2) (z6) zp zd zy r1 hr1
 refine zc [0] (iv r1.1) [(Zk (Zm.mk zn r1.2 z7 zh zj (Zl.mk z2 z6)) zp zd)] er1 ?_
 refine zo (iv (IntKind.i64.wrap ((IntKind.i64.wrap (10 * (max x3 0))) + r1.1))) ?_
 refine zo (iv (IntKind.i64.wrap ((IntKind.i64.wrap ((IntKind.i64.wrap (10 * (max x3 0))) + r1.1)) - 48))) ?_
 refine ze ?_
 refine zo (iv (IntKind.i64.wrap (x4 + 1))) ?_
 exact zk (Z6X ((IntKind.i64.wrap ((IntKind.i64.wrap ((IntKind.i64.wrap (10 * (max x3 0))) + r1.1)) - 48))) ((IntKind.i64.wrap (x4 + 1))) (zn) (r1.2) (z7) (zh) (zj) (z2) (z6) zp zd zy)
noncomputable def Z38 (x3 : Int) (zu : Int) : Option (Int × Int) :=
 some (x3, zu)
theorem Z5b (x3 : Int) (zn : List Int) (zu : Int) (z7 : Int) (zh : Int) (zj : List Zv) (z2 : Int) (z6 : Int) (zp : Own) (zd : Own) (zy : okApp zd = true) : Sim (Z2a zn z7 zh zj z2 z6 zp zd) (Z38 x3 zu) (ZcZ 1 (iv x3) [(Zk (Zm.mk zn zu z7 zh zj (Zl.mk z2 z6)) zp zd)]) := by
 unfold Z38
 refine zf (ZhP ..) ?_
 refine ze ?_
 exact zr ((iv x3), [(Zk (Zm.mk zn zu z7 zh zj (Zl.mk z2 z6)) zp zd)]) ⟨_, rfl⟩
noncomputable def Z4O (x3 : Int) (x4 : Int) (zn : List Int) (zu : Int) (z7 : Int) (zh : Int) (zj : List Zv) (z2 : Int) (z6 : Int) : Option (Int × Int) :=
 if ((decide (x4 < 2))) = true then
 ((Z1J ((Zm.mk zn zu z7 zh zj (Zl.mk z2 z6)))).bind fun r1 =>
 if ((decide (48 ≤ r1))) = true then
 ((Z1J ((Zm.mk zn zu z7 zh zj (Zl.mk z2 z6)))).bind fun r2 =>
 if ((decide (r2 ≤ 57))) = true then
 (Z4M x3 x4 zn zu z7 zh zj z2 z6)
 else
 (Z38 x3 zu))
 else
 (Z38 x3 zu))
 else
 (Z38 x3 zu)
theorem Z9H (x3 : Int) (x4 : Int) (zn : List Int) (zu : Int) (z7 : Int) (zh : Int) (zj : List Zv) (z2 : Int) (z6 : Int) (zp : Own) (zd : Own) (zy : okApp zd = true) : Sim (Z2a zn z7 zh zj z2 z6 zp zd) (Z4O x3 x4 zn zu z7 zh zj z2 z6) (Zcm 1 (.ptr 0 0) (iv x3) (iv x4) [(Zk (Zm.mk zn zu z7 zh zj (Zl.mk z2 z6)) zp zd)]) := by
 unfold Z4O
 refine zf (ZhE ..) ?_
 refine ze ?_
 refine zo (bv (decide (x4 < 2))) ?_
 refine za ((decide (x4 < 2))) ?_ ?_
 ·refine zi fun r1 hr1 => ?_
  obtain ⟨qr1, er1, exr1, rfl⟩ := Z1P ((Zm.mk zn zu z7 zh zj (Zl.mk z2 z6))) zp zd zy r1 hr1
  refine zc [0] (iv r1) [(Zk (Zm.mk zn zu z7 zh zj (Zl.mk z2 z6)) zp zd)] er1 ?_
  refine zo (bv (decide (48 ≤ r1))) ?_
  refine za ((decide (48 ≤ r1))) ?_ ?_
  ·refine zi fun r2 hr2 => ?_
   obtain ⟨qr2, er2, exr2, rfl⟩ := Z1P ((Zm.mk zn zu z7 zh zj (Zl.mk z2 z6))) zp zd zy r2 hr2
   refine zc [0] (iv r2) [(Zk (Zm.mk zn zu z7 zh zj (Zl.mk z2 z6)) zp zd)] er2 ?_
   refine zo (bv (decide (r2 ≤ 57))) ?_
   refine za ((decide (r2 ≤ 57))) ?_ ?_
   ·exact zk (Z9B (x3) (x4) (zn) (zu) (z7) (zh) (zj) (z2) (z6) zp zd zy)
   ·exact zk (Z5b (x3) (zn) (zu) (z7) (zh) (zj) (z2) (z6) zp zd zy)
  ·exact zk (Z5b (x3) (zn) (zu) (z7) (zh) (zj) (z2) (z6) zp zd zy)
 ·exact zk (Z5b (x3) (zn) (zu) (z7) (zh) (zj) (z2) (z6) zp zd zy)
theorem Za6 (x3 : Int) (x4 : Int) (zn : List Int) (zu : Int) (z7 : Int) (zh : Int) (zj : List Zv) (z2 : Int) (z6 : Int) {r} (h : Z4O x3 x4 zn zu z7 zh zj z2 z6 = some r) : Z2E x3 x4 zn zu z7 zh zj z2 z6 = some r :=
 pick_of (fun _ _ ha hb => RRun.uniq (Z88 _ _ _ _ _ _ _ _) (ha .ex .ex rfl) (hb .ex .ex rfl)) (fun zp zd zy => Z9H x3 x4 zn zu z7 zh zj z2 z6 zp zd zy r h)
noncomputable def Z50 (x2 : Int) (x3 : Int) : Option (Int × Int) :=
 some (x2, x3)
theorem Z5v (x2 : Int) (x3 : Int) : Sim (Z28) (Z50 x2 x3) (ZaK 0 (iv x2) (iv x3) []) := by
 unfold Z50
 refine zf (Zhx ..) ?_
 refine ze ?_
 exact zr ((.p (.tup [(.v (.int .i64 x2)), (.v (.int .i64 x3))])), []) ⟨_, rfl⟩
noncomputable def Z75 (x0 : Z3) : Option (Int × Int) :=
 if ((x0.Kind == 1)) = true then
 (some (1, 1))
 else
 (if ((x0.Kind == 6)) = true then
 (some (0, (-1)))
 else
 (if ((x0.Kind == 2)) = true then
 (Z5a 0 0 x0.Kids ((x0.Kids.length : Int)) 0)
 else
 (if ((x0.Kind == 3)) = true then
 (Z49 1048576 0 x0.Kids ((x0.Kids.length : Int)) 0)
 else
 (if ((x0.Kind == 4)) = true then
 ((lget x0.Kids 0).bind fun a1 =>
 (Z1n a1).bind fun r2 =>
 (Z6i r2.2 x0.Hi).bind fun r3 =>
 some ((min (IntKind.i64.wrap (r2.1 * x0.Lo)) 1048576), r3))
 else
 (if ((x0.Kind == 5)) = true then
 (if ((x0.Kind == 5)) = true then
 ((lget x0.Kids 0).bind fun a4 =>
 (Z1n a4).bind fun r5 =>
 some (r5.1, r5.2))
 else
 (Z50 0 0))
 else
 (if ((x0.Kind == 8)) = true then
 ((lget x0.Kids 0).bind fun a6 =>
 (Z1n a6).bind fun r7 =>
 some (r7.1, r7.2))
 else
 (Z50 0 0)))))))
theorem Zdx (x0 : Z3) (z1e : Own) (z10 : Own) : Sim (Z28) (Z75 x0) (EE 24 [(.p (.agg (ZC x0 z1e z10)))] []) := by
 unfold Z75
 refine zf (ZkJ ..) ?_
 refine ze ?_
 refine zx (.ptr 0 0) [(Zq x0 z1e z10)] ?_
 refine ze ?_
 refine zo (.ptr 0 0) ?_
 refine zo (iv x0.Kind) ?_
 refine ze ?_
 refine zo (bv (x0.Kind == 1)) ?_
 refine za ((x0.Kind == 1)) ?_ ?_
 ·refine ze ?_
  exact zr ((.p (.tup [(.v (.int .i64 1)), (.v (.int .i64 1))])), [(Zq x0 z1e z10)]) ⟨_, rfl⟩
 ·refine ze ?_
  refine zo (bv (x0.Kind == 6)) ?_
  refine za ((x0.Kind == 6)) ?_ ?_
  ·refine ze ?_
   exact zr ((.p (.tup [(.v (.int .i64 0)), (.v (.int .i64 (-1)))])), [(Zq x0 z1e z10)]) ⟨_, rfl⟩
  ·refine ze ?_
   refine zo (bv (x0.Kind == 2)) ?_
   refine za ((x0.Kind == 2)) ?_ ?_
   ·refine ze ?_
    refine zo (.ptr 0 6) ?_
    refine zo (.p (.lst (shrO z10) (x0.Kids.map ZG))) ?_
    refine zo (iv (x0.Kids.length : Int)) ?_ (Eq.trans (by kernel_rfl) (xlen_of (P := PP) (t := 25) (d := 27) (by kernel_rfl) ZG (shrO z10) x0.Kids))
    exact zk (Z9s (0) (0) (x0.Kids) ((x0.Kids.length : Int)) (0) (shrO z10))
   ·refine ze ?_
    refine zo (bv (x0.Kind == 3)) ?_
    refine za ((x0.Kind == 3)) ?_ ?_
    ·refine ze ?_
     refine ze ?_
     refine zo (.ptr 0 6) ?_
     refine zo (.p (.lst (shrO z10) (x0.Kids.map ZG))) ?_
     refine zo (iv (x0.Kids.length : Int)) ?_ (Eq.trans (by kernel_rfl) (xlen_of (P := PP) (t := 25) (d := 27) (by kernel_rfl) ZG (shrO z10) x0.Kids))
     exact zk (Z9g (1048576) (0) (x0.Kids) ((x0.Kids.length : Int)) (0) (shrO z10))
    ·refine ze ?_
     refine zo (bv (x0.Kind == 4)) ?_
     refine za ((x0.Kind == 4)) ?_ ?_
     ·refine ze ?_
      refine zo (.ptr 0 6) ?_
      refine zo (.p (.lst (shrO z10) (x0.Kids.map ZG))) ?_
      refine zi fun a1 ha1 => ?_
      refine zo (.cptr (ZC a1 .sh .sh)) ?_ (Eq.trans (by kernel_rfl) (xidx_of (o := (shrO z10)) (k := .i64) (n := 7) (e := ZG) (cs := Z21) Z45 (fun _ => rfl) (by decide) ha1))
      refine zo (.p (.agg (ZC a1 .sh .sh))) ?_
      refine zi fun r2 hr2 => ?_
      obtain ⟨qr2, er2, exr2, rfl⟩ := Z32 (a1) .sh .sh r2 hr2
      refine zc [] (.p (.tup [(.v (.int .i64 r2.1)), (.v (.int .i64 r2.2))])) [(Zq x0 z1e z10)] er2 ?_
      refine zo (iv r2.1) ?_
      refine zo (iv r2.2) ?_
      refine ze ?_
      refine zo (.ptr 0 1) ?_
      refine zo (iv x0.Lo) ?_
      refine zo (iv (IntKind.i64.wrap (r2.1 * x0.Lo))) ?_
      refine zo (iv (min (IntKind.i64.wrap (r2.1 * x0.Lo)) 1048576)) ?_ (xminmax2_min _ _)
      refine zo (.ptr 0 2) ?_
      refine zo (iv x0.Hi) ?_
      refine zi fun r3 hr3 => ?_
      obtain ⟨qr3, er3, exr3, rfl⟩ := ZdM (r2.2) (x0.Hi) r3 hr3
      refine zc [] (iv r3) [(Zq x0 z1e z10)] er3 ?_
      refine zg ?_
      exact zr ((.p (.tup [(.v (.int .i64 (min (IntKind.i64.wrap (r2.1 * x0.Lo)) 1048576))), (.v (.int .i64 r3))])), [(Zq x0 z1e z10)]) ⟨_, rfl⟩
     ·refine ze ?_
      refine zo (bv (x0.Kind == 5)) ?_
      refine za ((x0.Kind == 5)) ?_ ?_
      ·refine za ((x0.Kind == 5)) ?_ ?_
       ·refine ze ?_
        refine zo (.ptr 0 6) ?_
        refine zo (.p (.lst (shrO z10) (x0.Kids.map ZG))) ?_
        refine zi fun a4 ha4 => ?_
        refine zo (.cptr (ZC a4 .sh .sh)) ?_ (Eq.trans (by kernel_rfl) (xidx_of (o := (shrO z10)) (k := .i64) (n := 7) (e := ZG) (cs := Z21) Z45 (fun _ => rfl) (by decide) ha4))
        refine zo (.p (.agg (ZC a4 .sh .sh))) ?_
        refine zi fun r5 hr5 => ?_
        obtain ⟨qr5, er5, exr5, rfl⟩ := Z32 (a4) .sh .sh r5 hr5
        refine zc [] (.p (.tup [(.v (.int .i64 r5.1)), (.v (.int .i64 r5.2))])) [(Zq x0 z1e z10)] er5 ?_
        refine zo (iv r5.1) ?_
        refine zo (iv r5.2) ?_
        exact zr ((.p (.tup [(.v (.int .i64 r5.1)), (.v (.int .i64 r5.2))])), [(Zq x0 z1e z10)]) ⟨_, rfl⟩
       ·exact zk (Z5v (0) (0))
      ·refine ze ?_
       refine zo (bv (x0.Kind == 8)) ?_
       refine za ((x0.Kind == 8)) ?_ ?_
       ·refine ze ?_
        refine zo (.ptr 0 6) ?_
        refine zo (.p (.lst (shrO z10) (x0.Kids.map ZG))) ?_
        refine zi fun a6 ha6 => ?_
        refine zo (.cptr (ZC a6 .sh .sh)) ?_ (Eq.trans (by kernel_rfl) (xidx_of (o := (shrO z10)) (k := .i64) (n := 7) (e := ZG) (cs := Z21) Z45 (fun _ => rfl) (by decide) ha6))
        refine zo (.p (.agg (ZC a6 .sh .sh))) ?_
        refine zi fun r7 hr7 => ?_
        obtain ⟨qr7, er7, exr7, rfl⟩ := Z32 (a6) .sh .sh r7 hr7
        refine zc [] (.p (.tup [(.v (.int .i64 r7.1)), (.v (.int .i64 r7.2))])) [(Zq x0 z1e z10)] er7 ?_
        refine zo (iv r7.1) ?_
        refine zo (iv r7.2) ?_
        exact zr ((.p (.tup [(.v (.int .i64 r7.1)), (.v (.int .i64 r7.2))])), [(Zq x0 z1e z10)]) ⟨_, rfl⟩
       ·exact zk (Z5v (0) (0))
theorem ZaT (x0 : Z3) {r} (h : Z75 x0 = some r) : Z1n x0 = some r :=
 pick_of (fun _ _ ha hb => RRun.uniq (Z9a) (ha .ex .ex) (hb .ex .ex)) (fun z1e z10 => Zdx x0 z1e z10 r h)
noncomputable def Z63 (x2 : Int) (x3 : Int) (x23 : List Z3) (x24 : Int) (x25 : Int) : Option (Int × Int) :=
 (lget x23 x25).bind fun a1 =>
 (Z1n a1).bind fun r2 =>
 (Z9S x3 r2.2).bind fun r3 =>
 Z5a ((min (IntKind.i64.wrap (x2 + r2.1)) 1048576)) r3 x23 x24 ((IntKind.i64.wrap (x25 + 1)))
theorem Zcx (x2 : Int) (x3 : Int) (x23 : List Z3) (x24 : Int) (x25 : Int) (ox23 : Own) : Sim (Z28) (Z63 x2 x3 x23 x24 x25) (Zgy 0 (iv x2) (iv x3) (.p (.lst ox23 (x23.map ZG))) (iv x24) (iv x25) []) := by
 unfold Z63
 refine zf (Ziy ..) ?_
 refine ze ?_
 refine zi fun a1 ha1 => ?_
 refine zo (.cptr (ZC a1 .sh .sh)) ?_ (Eq.trans (by kernel_rfl) (xidx_of (o := ox23) (k := .i64) (n := 7) (e := ZG) (cs := Z21) Z45 (fun _ => rfl) (by decide) ha1))
 refine zo (.p (.agg (ZC a1 .sh .sh))) ?_
 refine zz (.ptr 0 0) [(Zq (Z3.mk 0 0 0 0 0 ([] : List Z8) ([] : List Z3)) .nl .nl)] ?_
 refine zt [(Zq a1 .sh .sh)] ?_
 refine ze ?_
 refine zo (.p (.agg (ZC a1 .sh .sh))) ?_
 refine zi fun r2 hr2 => ?_
 obtain ⟨qr2, er2, exr2, rfl⟩ := Z32 (a1) .sh .sh r2 hr2
 refine zc [] (.p (.tup [(.v (.int .i64 r2.1)), (.v (.int .i64 r2.2))])) [(Zq a1 .sh .sh)] er2 ?_
 refine zo (iv r2.1) ?_
 refine zo (iv r2.2) ?_
 refine ze ?_
 refine zo (iv (IntKind.i64.wrap (x2 + r2.1))) ?_
 refine zo (iv (min (IntKind.i64.wrap (x2 + r2.1)) 1048576)) ?_ (xminmax2_min _ _)
 refine zi fun r3 hr3 => ?_
 obtain ⟨qr3, er3, exr3, rfl⟩ := ZeU (x3) (r2.2) r3 hr3
 refine zc [] (iv r3) [(Zq a1 .sh .sh)] er3 ?_
 refine ze ?_
 refine zo (iv (IntKind.i64.wrap (x25 + 1))) ?_
 exact zk (Z9s ((min (IntKind.i64.wrap (x2 + r2.1)) 1048576)) (r3) (x23) (x24) ((IntKind.i64.wrap (x25 + 1))) ox23)
noncomputable def Z4o (x2 : Int) (x3 : Int) (x23 : List Z3) (x24 : Int) (x25 : Int) : Option (Int × Int) :=
 if ((decide (x25 < x24))) = true then
 (Z63 x2 x3 x23 x24 x25)
 else
 (Z50 x2 x3)
theorem Zcw (x2 : Int) (x3 : Int) (x23 : List Z3) (x24 : Int) (x25 : Int) (ox23 : Own) : Sim (Z28) (Z4o x2 x3 x23 x24 x25) (Zcg 0 (iv x2) (iv x3) (.p (.lst ox23 (x23.map ZG))) (iv x24) (iv x25) []) := by
 unfold Z4o
 refine zf (Zjd ..) ?_
 refine ze ?_
 refine zo (bv (decide (x25 < x24))) ?_
 refine za ((decide (x25 < x24))) ?_ ?_
 ·exact zk (Zcx (x2) (x3) (x23) (x24) (x25) ox23)
 ·exact zk (Z5v (x2) (x3))
theorem Z68 (x2 : Int) (x3 : Int) (x23 : List Z3) (x24 : Int) (x25 : Int) {r} (h : Z4o x2 x3 x23 x24 x25 = some r) : Z5a x2 x3 x23 x24 x25 = some r :=
 pick_of (fun _ _ ha hb => RRun.uniq (Z9a) (ha .ex) (hb .ex)) (fun ox23 => Zcw x2 x3 x23 x24 x25 ox23 r h)
noncomputable def Z4Y (x2 : Int) (x3 : Int) (x45 : List Z3) (x46 : Int) (x47 : Int) : Option (Int × Int) :=
 Z49 x2 x3 x45 x46 ((IntKind.i64.wrap (x47 + 1)))
theorem Z91 (x2 : Int) (x3 : Int) (x45 : List Z3) (x46 : Int) (x47 : Int) (ox45 : Own) : Sim (Z28) (Z4Y x2 x3 x45 x46 x47) (Zdt 0 (iv x2) (iv x3) (.p (.lst ox45 (x45.map ZG))) (iv x46) (iv x47) []) := by
 unfold Z4Y
 refine zf (Zha ..) ?_
 refine ze ?_
 refine zo (iv (IntKind.i64.wrap (x47 + 1))) ?_
 exact zk (Z9g (x2) (x3) (x45) (x46) ((IntKind.i64.wrap (x47 + 1))) ox45)
noncomputable def Z4Z (x2 : Int) (x45 : List Z3) (x46 : Int) (x47 : Int) : Option (Int × Int) :=
 Z4Y x2 ((-1)) x45 x46 x47
theorem Z8U (x2 : Int) (x45 : List Z3) (x46 : Int) (x47 : Int) (ox45 : Own) : Sim (Z28) (Z4Z x2 x45 x46 x47) (Zdl 0 (iv x2) (.p (.lst ox45 (x45.map ZG))) (iv x46) (iv x47) []) := by
 unfold Z4Z
 refine zf (ZgX ..) ?_
 refine ze ?_
 exact zk (Z91 (x2) ((-1)) (x45) (x46) (x47) ox45)
noncomputable def Z5M (x2 : Int) (x3 : Int) (x11 : Int) (x45 : List Z3) (x46 : Int) (x47 : Int) : Option (Int × Int) :=
 Z4Y x2 ((max x3 x11)) x45 x46 x47
theorem ZbT (x2 : Int) (x3 : Int) (x11 : Int) (x45 : List Z3) (x46 : Int) (x47 : Int) (ox45 : Own) : Sim (Z28) (Z5M x2 x3 x11 x45 x46 x47) (Zf0 0 (iv x2) (iv x3) (iv x11) (.p (.lst ox45 (x45.map ZG))) (iv x46) (iv x47) []) := by
 unfold Z5M
 refine zf (ZgT ..) ?_
 refine ze ?_
 refine zo (iv (max x3 x11)) ?_ (xminmax2_max _ _)
 exact zk (Z91 (x2) ((max x3 x11)) (x45) (x46) (x47) ox45)
noncomputable def Z5I (x2 : Int) (x3 : Int) (x45 : List Z3) (x46 : Int) (x47 : Int) : Option (Int × Int) :=
 (lget x45 x47).bind fun a1 =>
 (Z1n a1).bind fun r2 =>
 if ((decide (r2.2 < 0))) = true then
 (Z4Z ((min x2 r2.1)) x45 x46 x47)
 else
 (if ((decide (x3 < 0))) = true then
 (Z4Z ((min x2 r2.1)) x45 x46 x47)
 else
 (Z5M ((min x2 r2.1)) x3 r2.2 x45 x46 x47))
theorem Zc7 (x2 : Int) (x3 : Int) (x45 : List Z3) (x46 : Int) (x47 : Int) (ox45 : Own) : Sim (Z28) (Z5I x2 x3 x45 x46 x47) (ZeX 0 (iv x2) (iv x3) (.p (.lst ox45 (x45.map ZG))) (iv x46) (iv x47) []) := by
 unfold Z5I
 refine zf (Zhl ..) ?_
 refine ze ?_
 refine zi fun a1 ha1 => ?_
 refine zo (.cptr (ZC a1 .sh .sh)) ?_ (Eq.trans (by kernel_rfl) (xidx_of (o := ox45) (k := .i64) (n := 7) (e := ZG) (cs := Z21) Z45 (fun _ => rfl) (by decide) ha1))
 refine zo (.p (.agg (ZC a1 .sh .sh))) ?_
 refine zz (.ptr 0 0) [(Zq (Z3.mk 0 0 0 0 0 ([] : List Z8) ([] : List Z3)) .nl .nl)] ?_
 refine zt [(Zq a1 .sh .sh)] ?_
 refine ze ?_
 refine zo (.p (.agg (ZC a1 .sh .sh))) ?_
 refine zi fun r2 hr2 => ?_
 obtain ⟨qr2, er2, exr2, rfl⟩ := Z32 (a1) .sh .sh r2 hr2
 refine zc [] (.p (.tup [(.v (.int .i64 r2.1)), (.v (.int .i64 r2.2))])) [(Zq a1 .sh .sh)] er2 ?_
 refine zo (iv r2.1) ?_
 refine zo (iv r2.2) ?_
 refine ze ?_
 refine zo (iv (min x2 r2.1)) ?_ (xminmax2_min _ _)
 refine ze ?_
 refine zo (bv (decide (r2.2 < 0))) ?_
 refine za ((decide (r2.2 < 0))) ?_ ?_
 ·exact zk (Z8U ((min x2 r2.1)) (x45) (x46) (x47) ox45)
 ·refine zo (bv (decide (x3 < 0))) ?_
  refine za ((decide (x3 < 0))) ?_ ?_
  ·exact zk (Z8U ((min x2 r2.1)) (x45) (x46) (x47) ox45)
  ·exact zk (ZbT ((min x2 r2.1)) (x3) (r2.2) (x45) (x46) (x47) ox45)
noncomputable def Z4b (x2 : Int) (x3 : Int) (x45 : List Z3) (x46 : Int) (x47 : Int) : Option (Int × Int) :=
 if ((decide (x47 < x46))) = true then
 (Z5I x2 x3 x45 x46 x47)
 else
 (Z50 x2 x3)
theorem Zc5 (x2 : Int) (x3 : Int) (x45 : List Z3) (x46 : Int) (x47 : Int) (ox45 : Own) : Sim (Z28) (Z4b x2 x3 x45 x46 x47) (ZaH 0 (iv x2) (iv x3) (.p (.lst ox45 (x45.map ZG))) (iv x46) (iv x47) []) := by
 unfold Z4b
 refine zf (Zh0 ..) ?_
 refine ze ?_
 refine zo (bv (decide (x47 < x46))) ?_
 refine za ((decide (x47 < x46))) ?_ ?_
 ·exact zk (Zc7 (x2) (x3) (x45) (x46) (x47) ox45)
 ·exact zk (Z5v (x2) (x3))
theorem Z5Q (x2 : Int) (x3 : Int) (x45 : List Z3) (x46 : Int) (x47 : Int) {r} (h : Z4b x2 x3 x45 x46 x47 = some r) : Z49 x2 x3 x45 x46 x47 = some r :=
 pick_of (fun _ _ ha hb => RRun.uniq (Z9a) (ha .ex) (hb .ex)) (fun ox45 => Zc5 x2 x3 x45 x46 x47 ox45 r h)
end Go.Proofs.YtadodmjdkphddaaDoor.N2
end
section
set_option linter.unusedSimpArgs false
set_option linter.unusedVariables false
namespace Go.Proofs.YtadodmjdkphddaaDoor.N2
open Go Go.Abs
set_option linter.unusedVariables false
set_option maxRecDepth 100000
noncomputable def Z60  : Option (Int) :=
 some (0)
theorem Z9d  : Sim (Z4n) (Z60) (Zeq 0  []) := by
 unfold Z60
 refine zf (Zjf ..) ?_
 refine ze ?_
 exact zr ((iv 0), []) ⟨_, rfl⟩
noncomputable def Z5Z  : Option (Int) :=
 some ((-1))
theorem Z9c  : Sim (Z4n) (Z5Z) (Ze7 0  []) := by
 unfold Z5Z
 refine zf (Zif ..) ?_
 refine ze ?_
 exact zr ((iv (-1)), []) ⟨_, rfl⟩
noncomputable def Z73 (x0 : Int) (x1 : Int) : Option (Int) :=
 (Z7z ((IntKind.i64.wrap (x0 * x1)))).bind fun r1 =>
 some (r1)
theorem ZcA (x0 : Int) (x1 : Int) : Sim (Z4n) (Z73 x0 x1) (ZfY 0 (iv x0) (iv x1) []) := by
 unfold Z73
 refine zf (ZhM ..) ?_
 refine ze ?_
 refine zo (iv (IntKind.i64.wrap (x0 * x1))) ?_
 refine zi fun r1 hr1 => ?_
 obtain ⟨qr1, er1, exr1, rfl⟩ := Zbl ((IntKind.i64.wrap (x0 * x1))) r1 hr1
 refine zc [] (iv r1) [] er1 ?_
 exact zr ((iv r1), []) ⟨_, rfl⟩
noncomputable def Z71 (x0 : Int) (x1 : Int) : Option (Int) :=
 if ((decide (x0 < 0))) = true then
 (Z5Z)
 else
 (if ((decide (x1 < 0))) = true then
 (Z5Z)
 else
 (Z73 x0 x1))
theorem ZcB (x0 : Int) (x1 : Int) : Sim (Z4n) (Z71 x0 x1) (Zgf 0 (iv x0) (iv x1) []) := by
 unfold Z71
 refine zf (Ziv ..) ?_
 refine ze ?_
 refine zo (bv (decide (x0 < 0))) ?_
 refine za ((decide (x0 < 0))) ?_ ?_
 ·exact zk (Z9c )
 ·refine zo (bv (decide (x1 < 0))) ?_
  refine za ((decide (x1 < 0))) ?_ ?_
  ·exact zk (Z9c )
  ·exact zk (ZcA (x0) (x1))
noncomputable def Z8H (x0 : Int) (x1 : Int) : Option (Int) :=
 if ((x0 == 0)) = true then
 (Z60)
 else
 (if ((x1 == 0)) = true then
 (Z60)
 else
 (Z71 x0 x1))
theorem ZdF (x0 : Int) (x1 : Int) : Sim (Z4n) (Z8H x0 x1) (EE 33 [(iv x0), (iv x1)] []) := by
 unfold Z8H
 refine zf (ZkV ..) ?_
 refine ze ?_
 refine ze ?_
 refine zo (bv (x0 == 0)) ?_
 refine za ((x0 == 0)) ?_ ?_
 ·exact zk (Z9d )
 ·refine zo (bv (x1 == 0)) ?_
  refine za ((x1 == 0)) ?_ ?_
  ·exact zk (Z9d )
  ·exact zk (ZcB (x0) (x1))
theorem ZdS (x0 : Int) (x1 : Int) {r} (h : Z8H x0 x1 = some r) : Z6i x0 x1 = some r :=
 pick_of (fun _ _ ha hb => RRun.uniq (Zem) (ha ) (hb )) (ZdF x0 x1 r h)
noncomputable def Z7n (x0 : Int) : Option (Int) :=
 some (x0)
theorem ZcK (x0 : Int) : Sim (Z6Q) (Z7n x0) (Zfw 0 (iv x0) []) := by
 unfold Z7n
 refine zf (ZiS ..) ?_
 refine ze ?_
 exact zr ((iv x0), []) ⟨_, rfl⟩
noncomputable def Z9j (x0 : Int) : Option (Int) :=
 if ((decide (1048576 < x0))) = true then
 (some ((-1)))
 else
 (Z7n x0)
theorem ZdQ (x0 : Int) : Sim (Z6Q) (Z9j x0) (EE 38 [(iv x0)] []) := by
 unfold Z9j
 refine zf (ZkP ..) ?_
 refine ze ?_
 refine ze ?_
 refine zo (bv (decide (1048576 < x0))) ?_
 refine za ((decide (1048576 < x0))) ?_ ?_
 ·refine ze ?_
  exact zr ((iv (-1)), []) ⟨_, rfl⟩
 ·exact zk (ZcK (x0))
theorem ZdY (x0 : Int) {r} (h : Z9j x0 = some r) : Z7z x0 = some r :=
 pick_of (fun _ _ ha hb => RRun.uniq (ZeI) (ha ) (hb )) (ZdQ x0 r h)
noncomputable def Z6R  : Option (Int) :=
 some ((-1))
theorem Za2  : Sim (Z6w) (Z6R) (Zep 0  []) := by
 unfold Z6R
 refine zf (Zil ..) ?_
 refine ze ?_
 exact zr ((iv (-1)), []) ⟨_, rfl⟩
noncomputable def Z7Y (x0 : Int) (x1 : Int) : Option (Int) :=
 (Z7z ((IntKind.i64.wrap (x0 + x1)))).bind fun r1 =>
 some (r1)
theorem ZcY (x0 : Int) (x1 : Int) : Sim (Z6w) (Z7Y x0 x1) (ZfX 0 (iv x0) (iv x1) []) := by
 unfold Z7Y
 refine zf (Zip ..) ?_
 refine ze ?_
 refine zo (iv (IntKind.i64.wrap (x0 + x1))) ?_
 refine zi fun r1 hr1 => ?_
 obtain ⟨qr1, er1, exr1, rfl⟩ := Zbl ((IntKind.i64.wrap (x0 + x1))) r1 hr1
 refine zc [] (iv r1) [] er1 ?_
 exact zr ((iv r1), []) ⟨_, rfl⟩
noncomputable def Z9Q (x0 : Int) (x1 : Int) : Option (Int) :=
 if ((decide (x0 < 0))) = true then
 (Z6R)
 else
 (if ((decide (x1 < 0))) = true then
 (Z6R)
 else
 (Z7Y x0 x1))
theorem Zeu (x0 : Int) (x1 : Int) : Sim (Z6w) (Z9Q x0 x1) (EE 32 [(iv x0), (iv x1)] []) := by
 unfold Z9Q
 refine zf (Zkz ..) ?_
 refine ze ?_
 refine ze ?_
 refine zo (bv (decide (x0 < 0))) ?_
 refine za ((decide (x0 < 0))) ?_ ?_
 ·exact zk (Za2 )
 ·refine zo (bv (decide (x1 < 0))) ?_
  refine za ((decide (x1 < 0))) ?_ ?_
  ·exact zk (Za2 )
  ·exact zk (ZcY (x0) (x1))
theorem ZeO (x0 : Int) (x1 : Int) {r} (h : Z9Q x0 x1 = some r) : Z9S x0 x1 = some r :=
 pick_of (fun _ _ ha hb => RRun.uniq (Zf5) (ha ) (hb )) (Zeu x0 x1 r h)
noncomputable def ZaP (x0 : Z3) : Option (Int) :=
 Z3w 0 x0.Kids ((x0.Kids.length : Int)) 0 x0
theorem ZdT (x0 : Z3) (z1e : Own) (z10 : Own) : Sim (Z3l) (ZaP x0) (EE 25 [(.p (.agg (ZC x0 z1e z10)))] []) := by
 unfold ZaP
 refine zf (Zl7 ..) ?_
 refine ze ?_
 refine zx (.ptr 0 0) [(Zq x0 z1e z10)] ?_
 refine ze ?_
 refine ze ?_
 refine zo (.ptr 0 6) ?_
 refine zo (.p (.lst (shrO z10) (x0.Kids.map ZG))) ?_
 refine zo (iv (x0.Kids.length : Int)) ?_ (Eq.trans (by kernel_rfl) (xlen_of (P := PP) (t := 25) (d := 27) (by kernel_rfl) ZG (shrO z10) x0.Kids))
 exact zk (Za4 (0) (x0.Kids) ((x0.Kids.length : Int)) (0) (x0) (shrO z10) z1e z10)
theorem Z7g (x0 : Z3) {r} (h : ZaP x0 = some r) : Z22 x0 = some r :=
 pick_of (fun _ _ ha hb => RRun.uniq (Zce) (ha .ex .ex) (hb .ex .ex)) (fun z1e z10 => ZdT x0 z1e z10 r h)
noncomputable def Z6m (x3 : Int) (x8 : List Z3) (x9 : Int) (x10 : Int) (b0 : Z3) : Option (Int) :=
 (lget x8 x10).bind fun a1 =>
 (Z22 a1).bind fun r2 =>
 Z3w ((min (IntKind.i64.wrap (x3 + r2)) 1048576)) x8 x9 ((IntKind.i64.wrap (x10 + 1))) b0
theorem ZcL (x3 : Int) (x8 : List Z3) (x9 : Int) (x10 : Int) (b0 : Z3) (ox8 : Own) (z1f : Own) (z14 : Own) : Sim (Z3l) (Z6m x3 x8 x9 x10 b0) (Zgh 0 (.ptr 0 0) (iv x3) (.p (.lst ox8 (x8.map ZG))) (iv x9) (iv x10) [(Zq b0 z1f z14)]) := by
 unfold Z6m
 refine zf (ZiZ ..) ?_
 refine ze ?_
 refine zi fun a1 ha1 => ?_
 refine zo (.cptr (ZC a1 .sh .sh)) ?_ (Eq.trans (by kernel_rfl) (xidx_of (o := ox8) (k := .i64) (n := 7) (e := ZG) (cs := Z21) Z45 (fun _ => rfl) (by decide) ha1))
 refine zo (.p (.agg (ZC a1 .sh .sh))) ?_
 refine zz (.ptr 1 0) [(Zq b0 z1f z14), (Zq (Z3.mk 0 0 0 0 0 ([] : List Z8) ([] : List Z3)) .nl .nl)] ?_
 refine zt [(Zq b0 z1f z14), (Zq a1 .sh .sh)] ?_
 refine ze ?_
 refine zo (.p (.agg (ZC a1 .sh .sh))) ?_
 refine zi fun r2 hr2 => ?_
 obtain ⟨qr2, er2, exr2, rfl⟩ := Z5C (a1) .sh .sh r2 hr2
 refine zc [] (iv r2) [(Zq b0 z1f z14), (Zq a1 .sh .sh)] er2 ?_
 refine zo (iv (IntKind.i64.wrap (x3 + r2))) ?_
 refine zo (iv (min (IntKind.i64.wrap (x3 + r2)) 1048576)) ?_ (xminmax2_min _ _)
 refine ze ?_
 refine zo (iv (IntKind.i64.wrap (x10 + 1))) ?_
 exact zk (Za4 ((min (IntKind.i64.wrap (x3 + r2)) 1048576)) (x8) (x9) ((IntKind.i64.wrap (x10 + 1))) (b0) ox8 z1f z14)
noncomputable def ZY (x3 : Int) : Option (Int) :=
 some ((min x3 1048576))
theorem Z16 (x3 : Int) : Sim (Z3l) (ZY x3) (Z2V 0 (iv x3) []) := by
 unfold ZY
 refine zf (Zhp ..) ?_
 refine ze ?_
 refine zo (iv (min x3 1048576)) ?_ (xminmax2_min _ _)
 exact zr ((iv (min x3 1048576)), []) ⟨_, rfl⟩
noncomputable def Z17 (x3 : Int) (b0 : Z3) : Option (Int) :=
 if ((b0.Mode == 2)) = true then
 (ZY ((IntKind.i64.wrap (x3 + 2))))
 else
 (ZY x3)
theorem Z1i (x3 : Int) (b0 : Z3) (z1f : Own) (z14 : Own) : Sim (Z3l) (Z17 x3 b0) (Z3E 0 (.ptr 0 0) (iv x3) [(Zq b0 z1f z14)]) := by
 unfold Z17
 refine zf (Zhy ..) ?_
 refine ze ?_
 refine zo (.ptr 0 3) ?_
 refine zo (iv b0.Mode) ?_
 refine zo (bv (b0.Mode == 2)) ?_
 refine za ((b0.Mode == 2)) ?_ ?_
 ·refine ze ?_
  refine zo (iv (IntKind.i64.wrap (x3 + 2))) ?_
  exact zk (Z16 ((IntKind.i64.wrap (x3 + 2))))
 ·exact zk (Z16 (x3))
noncomputable def Z1S (x3 : Int) (b0 : Z3) : Option (Int) :=
 if ((b0.Kind == 1)) = true then
 (if ((b0.Kind == 1)) = true then
 (some (1))
 else
 (if ((b0.Kind == 3)) = true then
 (ZY ((IntKind.i64.wrap (x3 + (IntKind.i64.wrap (2 * (IntKind.i64.wrap ((b0.Kids.length : Int) - 1))))))))
 else
 (if ((b0.Kind == 5)) = true then
 (if ((b0.Kind == 5)) = true then
 (ZY ((IntKind.i64.wrap (x3 + 2))))
 else
 (if ((b0.Kind == 4)) = true then
 (if ((decide (b0.Hi < 0))) = true then
 (Z17 ((IntKind.i64.wrap ((IntKind.i64.wrap (b0.Lo * x3)) + (IntKind.i64.wrap (x3 + 4))))) b0)
 else
 (Z17 ((IntKind.i64.wrap ((IntKind.i64.wrap (b0.Lo * x3)) + (IntKind.i64.wrap ((IntKind.i64.wrap (b0.Hi - b0.Lo)) * (IntKind.i64.wrap (x3 + 1))))))) b0))
 else
 (ZY x3)))
 else
 (if ((b0.Kind == 7)) = true then
 (if ((b0.Kind == 7)) = true then
 (ZY ((IntKind.i64.wrap (x3 + 2))))
 else
 (if ((b0.Kind == 4)) = true then
 (if ((decide (b0.Hi < 0))) = true then
 (Z17 ((IntKind.i64.wrap ((IntKind.i64.wrap (b0.Lo * x3)) + (IntKind.i64.wrap (x3 + 4))))) b0)
 else
 (Z17 ((IntKind.i64.wrap ((IntKind.i64.wrap (b0.Lo * x3)) + (IntKind.i64.wrap ((IntKind.i64.wrap (b0.Hi - b0.Lo)) * (IntKind.i64.wrap (x3 + 1))))))) b0))
 else
 (ZY x3)))
 else
 (if ((b0.Kind == 8)) = true then
 (ZY ((IntKind.i64.wrap (x3 + 2))))
 else
 (if ((b0.Kind == 4)) = true then
 (if ((decide (b0.Hi < 0))) = true then
 (Z17 ((IntKind.i64.wrap ((IntKind.i64.wrap (b0.Lo * x3)) + (IntKind.i64.wrap (x3 + 4))))) b0)
 else
 (Z17 ((IntKind.i64.wrap ((IntKind.i64.wrap (b0.Lo * x3)) + (IntKind.i64.wrap ((IntKind.i64.wrap (b0.Hi - b0.Lo)) * (IntKind.i64.wrap (x3 + 1))))))) b0))
 else
 (ZY x3)))))))
 else
 (if ((b0.Kind == 6)) = true then
 (if ((b0.Kind == 6)) = true then
 (some (1))
 else
 (if ((b0.Kind == 3)) = true then
 (ZY ((IntKind.i64.wrap (x3 + (IntKind.i64.wrap (2 * (IntKind.i64.wrap ((b0.Kids.length : Int) - 1))))))))
 else
 (if ((b0.Kind == 5)) = true then
 (if ((b0.Kind == 5)) = true then
 (ZY ((IntKind.i64.wrap (x3 + 2))))
 else
 (if ((b0.Kind == 4)) = true then
 (if ((decide (b0.Hi < 0))) = true then
 (Z17 ((IntKind.i64.wrap ((IntKind.i64.wrap (b0.Lo * x3)) + (IntKind.i64.wrap (x3 + 4))))) b0)
 else
 (Z17 ((IntKind.i64.wrap ((IntKind.i64.wrap (b0.Lo * x3)) + (IntKind.i64.wrap ((IntKind.i64.wrap (b0.Hi - b0.Lo)) * (IntKind.i64.wrap (x3 + 1))))))) b0))
 else
 (ZY x3)))
 else
 (if ((b0.Kind == 7)) = true then
 (if ((b0.Kind == 7)) = true then
 (ZY ((IntKind.i64.wrap (x3 + 2))))
 else
 (if ((b0.Kind == 4)) = true then
 (if ((decide (b0.Hi < 0))) = true then
 (Z17 ((IntKind.i64.wrap ((IntKind.i64.wrap (b0.Lo * x3)) + (IntKind.i64.wrap (x3 + 4))))) b0)
 else
 (Z17 ((IntKind.i64.wrap ((IntKind.i64.wrap (b0.Lo * x3)) + (IntKind.i64.wrap ((IntKind.i64.wrap (b0.Hi - b0.Lo)) * (IntKind.i64.wrap (x3 + 1))))))) b0))
 else
 (ZY x3)))
 else
 (if ((b0.Kind == 8)) = true then
 (ZY ((IntKind.i64.wrap (x3 + 2))))
 else
 (if ((b0.Kind == 4)) = true then
 (if ((decide (b0.Hi < 0))) = true then
 (Z17 ((IntKind.i64.wrap ((IntKind.i64.wrap (b0.Lo * x3)) + (IntKind.i64.wrap (x3 + 4))))) b0)
 else
 (Z17 ((IntKind.i64.wrap ((IntKind.i64.wrap (b0.Lo * x3)) + (IntKind.i64.wrap ((IntKind.i64.wrap (b0.Hi - b0.Lo)) * (IntKind.i64.wrap (x3 + 1))))))) b0))
 else
 (ZY x3)))))))
 else
 (if ((b0.Kind == 9)) = true then
 (some (1))
 else
 (if ((b0.Kind == 3)) = true then
 (ZY ((IntKind.i64.wrap (x3 + (IntKind.i64.wrap (2 * (IntKind.i64.wrap ((b0.Kids.length : Int) - 1))))))))
 else
 (if ((b0.Kind == 5)) = true then
 (if ((b0.Kind == 5)) = true then
 (ZY ((IntKind.i64.wrap (x3 + 2))))
 else
 (if ((b0.Kind == 4)) = true then
 (if ((decide (b0.Hi < 0))) = true then
 (Z17 ((IntKind.i64.wrap ((IntKind.i64.wrap (b0.Lo * x3)) + (IntKind.i64.wrap (x3 + 4))))) b0)
 else
 (Z17 ((IntKind.i64.wrap ((IntKind.i64.wrap (b0.Lo * x3)) + (IntKind.i64.wrap ((IntKind.i64.wrap (b0.Hi - b0.Lo)) * (IntKind.i64.wrap (x3 + 1))))))) b0))
 else
 (ZY x3)))
 else
 (if ((b0.Kind == 7)) = true then
 (if ((b0.Kind == 7)) = true then
 (ZY ((IntKind.i64.wrap (x3 + 2))))
 else
 (if ((b0.Kind == 4)) = true then
 (if ((decide (b0.Hi < 0))) = true then
 (Z17 ((IntKind.i64.wrap ((IntKind.i64.wrap (b0.Lo * x3)) + (IntKind.i64.wrap (x3 + 4))))) b0)
 else
 (Z17 ((IntKind.i64.wrap ((IntKind.i64.wrap (b0.Lo * x3)) + (IntKind.i64.wrap ((IntKind.i64.wrap (b0.Hi - b0.Lo)) * (IntKind.i64.wrap (x3 + 1))))))) b0))
 else
 (ZY x3)))
 else
 (if ((b0.Kind == 8)) = true then
 (ZY ((IntKind.i64.wrap (x3 + 2))))
 else
 (if ((b0.Kind == 4)) = true then
 (if ((decide (b0.Hi < 0))) = true then
 (Z17 ((IntKind.i64.wrap ((IntKind.i64.wrap (b0.Lo * x3)) + (IntKind.i64.wrap (x3 + 4))))) b0)
 else
 (Z17 ((IntKind.i64.wrap ((IntKind.i64.wrap (b0.Lo * x3)) + (IntKind.i64.wrap ((IntKind.i64.wrap (b0.Hi - b0.Lo)) * (IntKind.i64.wrap (x3 + 1))))))) b0))
 else
 (ZY x3))))))))
theorem ZcQ (x3 : Int) (b0 : Z3) (z1f : Own) (z14 : Own) : Sim (Z3l) (Z1S x3 b0) (Zfe 0 (.ptr 0 0) (iv x3) [(Zq b0 z1f z14)]) := by
 unfold Z1S
 refine zf (ZiI ..) ?_
 refine ze ?_
 refine zo (.ptr 0 0) ?_
 refine zo (iv b0.Kind) ?_
 refine ze ?_
 refine zo (bv (b0.Kind == 1)) ?_
 refine za ((b0.Kind == 1)) ?_ ?_
 ·refine za ((b0.Kind == 1)) ?_ ?_
  ·refine ze ?_
   exact zr ((iv 1), [(Zq b0 z1f z14)]) ⟨_, rfl⟩
  ·refine ze ?_
   refine zo (bv (b0.Kind == 3)) ?_
   refine za ((b0.Kind == 3)) ?_ ?_
   ·refine ze ?_
    refine zo (.ptr 0 6) ?_
    refine zo (.p (.lst (shrO z14) (b0.Kids.map ZG))) ?_
    refine zo (iv (b0.Kids.length : Int)) ?_ (Eq.trans (by kernel_rfl) (xlen_of (P := PP) (t := 25) (d := 27) (by kernel_rfl) ZG (shrO z14) b0.Kids))
    refine zo (iv (IntKind.i64.wrap ((b0.Kids.length : Int) - 1))) ?_
    refine zo (iv (IntKind.i64.wrap (2 * (IntKind.i64.wrap ((b0.Kids.length : Int) - 1))))) ?_
    refine zo (iv (IntKind.i64.wrap (x3 + (IntKind.i64.wrap (2 * (IntKind.i64.wrap ((b0.Kids.length : Int) - 1))))))) ?_
    exact zk (Z16 ((IntKind.i64.wrap (x3 + (IntKind.i64.wrap (2 * (IntKind.i64.wrap ((b0.Kids.length : Int) - 1))))))))
   ·refine ze ?_
    refine zo (bv (b0.Kind == 5)) ?_
    refine za ((b0.Kind == 5)) ?_ ?_
    ·refine za ((b0.Kind == 5)) ?_ ?_
     ·refine ze ?_
      refine zo (iv (IntKind.i64.wrap (x3 + 2))) ?_
      exact zk (Z16 ((IntKind.i64.wrap (x3 + 2))))
     ·refine ze ?_
      refine zo (bv (b0.Kind == 4)) ?_
      refine za ((b0.Kind == 4)) ?_ ?_
      ·refine ze ?_
       refine ze ?_
       refine zo (.ptr 0 1) ?_
       refine zo (iv b0.Lo) ?_
       refine zo (iv (IntKind.i64.wrap (b0.Lo * x3))) ?_
       refine ze ?_
       refine zo (.ptr 0 2) ?_
       refine zo (iv b0.Hi) ?_
       refine zo (bv (decide (b0.Hi < 0))) ?_
       refine za ((decide (b0.Hi < 0))) ?_ ?_
       ·refine ze ?_
        refine zo (iv (IntKind.i64.wrap (x3 + 4))) ?_
        refine zo (iv (IntKind.i64.wrap ((IntKind.i64.wrap (b0.Lo * x3)) + (IntKind.i64.wrap (x3 + 4))))) ?_
        exact zk (Z1i ((IntKind.i64.wrap ((IntKind.i64.wrap (b0.Lo * x3)) + (IntKind.i64.wrap (x3 + 4))))) (b0) z1f z14)
       ·refine ze ?_
        refine zo (.ptr 0 2) ?_
        refine zo (iv b0.Hi) ?_
        refine zo (.ptr 0 1) ?_
        refine zo (iv b0.Lo) ?_
        refine zo (iv (IntKind.i64.wrap (b0.Hi - b0.Lo))) ?_
        refine zo (iv (IntKind.i64.wrap (x3 + 1))) ?_
        refine zo (iv (IntKind.i64.wrap ((IntKind.i64.wrap (b0.Hi - b0.Lo)) * (IntKind.i64.wrap (x3 + 1))))) ?_
        refine zo (iv (IntKind.i64.wrap ((IntKind.i64.wrap (b0.Lo * x3)) + (IntKind.i64.wrap ((IntKind.i64.wrap (b0.Hi - b0.Lo)) * (IntKind.i64.wrap (x3 + 1))))))) ?_
        exact zk (Z1i ((IntKind.i64.wrap ((IntKind.i64.wrap (b0.Lo * x3)) + (IntKind.i64.wrap ((IntKind.i64.wrap (b0.Hi - b0.Lo)) * (IntKind.i64.wrap (x3 + 1))))))) (b0) z1f z14)
      ·exact zk (Z16 (x3))
    ·refine ze ?_
     refine zo (bv (b0.Kind == 7)) ?_
     refine za ((b0.Kind == 7)) ?_ ?_
     ·refine za ((b0.Kind == 7)) ?_ ?_
      ·refine ze ?_
       refine zo (iv (IntKind.i64.wrap (x3 + 2))) ?_
       exact zk (Z16 ((IntKind.i64.wrap (x3 + 2))))
      ·refine ze ?_
       refine zo (bv (b0.Kind == 4)) ?_
       refine za ((b0.Kind == 4)) ?_ ?_
       ·refine ze ?_
        refine ze ?_
        refine zo (.ptr 0 1) ?_
        refine zo (iv b0.Lo) ?_
        refine zo (iv (IntKind.i64.wrap (b0.Lo * x3))) ?_
        refine ze ?_
        refine zo (.ptr 0 2) ?_
        refine zo (iv b0.Hi) ?_
        refine zo (bv (decide (b0.Hi < 0))) ?_
        refine za ((decide (b0.Hi < 0))) ?_ ?_
        ·refine ze ?_
         refine zo (iv (IntKind.i64.wrap (x3 + 4))) ?_
         refine zo (iv (IntKind.i64.wrap ((IntKind.i64.wrap (b0.Lo * x3)) + (IntKind.i64.wrap (x3 + 4))))) ?_
         exact zk (Z1i ((IntKind.i64.wrap ((IntKind.i64.wrap (b0.Lo * x3)) + (IntKind.i64.wrap (x3 + 4))))) (b0) z1f z14)
        ·refine ze ?_
         refine zo (.ptr 0 2) ?_
         refine zo (iv b0.Hi) ?_
         refine zo (.ptr 0 1) ?_
         refine zo (iv b0.Lo) ?_
         refine zo (iv (IntKind.i64.wrap (b0.Hi - b0.Lo))) ?_
         refine zo (iv (IntKind.i64.wrap (x3 + 1))) ?_
         refine zo (iv (IntKind.i64.wrap ((IntKind.i64.wrap (b0.Hi - b0.Lo)) * (IntKind.i64.wrap (x3 + 1))))) ?_
         refine zo (iv (IntKind.i64.wrap ((IntKind.i64.wrap (b0.Lo * x3)) + (IntKind.i64.wrap ((IntKind.i64.wrap (b0.Hi - b0.Lo)) * (IntKind.i64.wrap (x3 + 1))))))) ?_
         exact zk (Z1i ((IntKind.i64.wrap ((IntKind.i64.wrap (b0.Lo * x3)) + (IntKind.i64.wrap ((IntKind.i64.wrap (b0.Hi - b0.Lo)) * (IntKind.i64.wrap (x3 + 1))))))) (b0) z1f z14)
       ·exact zk (Z16 (x3))
     ·refine ze ?_
      refine zo (bv (b0.Kind == 8)) ?_
      refine za ((b0.Kind == 8)) ?_ ?_
      ·refine ze ?_
       refine zo (iv (IntKind.i64.wrap (x3 + 2))) ?_
       exact zk (Z16 ((IntKind.i64.wrap (x3 + 2))))
      ·refine ze ?_
       refine zo (bv (b0.Kind == 4)) ?_
       refine za ((b0.Kind == 4)) ?_ ?_
       ·refine ze ?_
        refine ze ?_
        refine zo (.ptr 0 1) ?_
        refine zo (iv b0.Lo) ?_
        refine zo (iv (IntKind.i64.wrap (b0.Lo * x3))) ?_
        refine ze ?_
        refine zo (.ptr 0 2) ?_
        refine zo (iv b0.Hi) ?_
        refine zo (bv (decide (b0.Hi < 0))) ?_
        refine za ((decide (b0.Hi < 0))) ?_ ?_
        ·refine ze ?_
         refine zo (iv (IntKind.i64.wrap (x3 + 4))) ?_
         refine zo (iv (IntKind.i64.wrap ((IntKind.i64.wrap (b0.Lo * x3)) + (IntKind.i64.wrap (x3 + 4))))) ?_
         exact zk (Z1i ((IntKind.i64.wrap ((IntKind.i64.wrap (b0.Lo * x3)) + (IntKind.i64.wrap (x3 + 4))))) (b0) z1f z14)
        ·refine ze ?_
         refine zo (.ptr 0 2) ?_
         refine zo (iv b0.Hi) ?_
         refine zo (.ptr 0 1) ?_
         refine zo (iv b0.Lo) ?_
         refine zo (iv (IntKind.i64.wrap (b0.Hi - b0.Lo))) ?_
         refine zo (iv (IntKind.i64.wrap (x3 + 1))) ?_
         refine zo (iv (IntKind.i64.wrap ((IntKind.i64.wrap (b0.Hi - b0.Lo)) * (IntKind.i64.wrap (x3 + 1))))) ?_
         refine zo (iv (IntKind.i64.wrap ((IntKind.i64.wrap (b0.Lo * x3)) + (IntKind.i64.wrap ((IntKind.i64.wrap (b0.Hi - b0.Lo)) * (IntKind.i64.wrap (x3 + 1))))))) ?_
         exact zk (Z1i ((IntKind.i64.wrap ((IntKind.i64.wrap (b0.Lo * x3)) + (IntKind.i64.wrap ((IntKind.i64.wrap (b0.Hi - b0.Lo)) * (IntKind.i64.wrap (x3 + 1))))))) (b0) z1f z14)
       ·exact zk (Z16 (x3))
 ·refine ze ?_
  refine zo (bv (b0.Kind == 6)) ?_
  refine za ((b0.Kind == 6)) ?_ ?_
  ·refine za ((b0.Kind == 6)) ?_ ?_
   ·refine ze ?_
    exact zr ((iv 1), [(Zq b0 z1f z14)]) ⟨_, rfl⟩
   ·refine ze ?_
    refine zo (bv (b0.Kind == 3)) ?_
    refine za ((b0.Kind == 3)) ?_ ?_
    ·refine ze ?_
     refine zo (.ptr 0 6) ?_
     refine zo (.p (.lst (shrO z14) (b0.Kids.map ZG))) ?_
     refine zo (iv (b0.Kids.length : Int)) ?_ (Eq.trans (by kernel_rfl) (xlen_of (P := PP) (t := 25) (d := 27) (by kernel_rfl) ZG (shrO z14) b0.Kids))
     refine zo (iv (IntKind.i64.wrap ((b0.Kids.length : Int) - 1))) ?_
     refine zo (iv (IntKind.i64.wrap (2 * (IntKind.i64.wrap ((b0.Kids.length : Int) - 1))))) ?_
     refine zo (iv (IntKind.i64.wrap (x3 + (IntKind.i64.wrap (2 * (IntKind.i64.wrap ((b0.Kids.length : Int) - 1))))))) ?_
     exact zk (Z16 ((IntKind.i64.wrap (x3 + (IntKind.i64.wrap (2 * (IntKind.i64.wrap ((b0.Kids.length : Int) - 1))))))))
    ·refine ze ?_
     refine zo (bv (b0.Kind == 5)) ?_
     refine za ((b0.Kind == 5)) ?_ ?_
     ·refine za ((b0.Kind == 5)) ?_ ?_
      ·refine ze ?_
       refine zo (iv (IntKind.i64.wrap (x3 + 2))) ?_
       exact zk (Z16 ((IntKind.i64.wrap (x3 + 2))))
      ·refine ze ?_
       refine zo (bv (b0.Kind == 4)) ?_
       refine za ((b0.Kind == 4)) ?_ ?_
       ·refine ze ?_
        refine ze ?_
        refine zo (.ptr 0 1) ?_
        refine zo (iv b0.Lo) ?_
        refine zo (iv (IntKind.i64.wrap (b0.Lo * x3))) ?_
        refine ze ?_
        refine zo (.ptr 0 2) ?_
        refine zo (iv b0.Hi) ?_
        refine zo (bv (decide (b0.Hi < 0))) ?_
        refine za ((decide (b0.Hi < 0))) ?_ ?_
        ·refine ze ?_
         refine zo (iv (IntKind.i64.wrap (x3 + 4))) ?_
         refine zo (iv (IntKind.i64.wrap ((IntKind.i64.wrap (b0.Lo * x3)) + (IntKind.i64.wrap (x3 + 4))))) ?_
         exact zk (Z1i ((IntKind.i64.wrap ((IntKind.i64.wrap (b0.Lo * x3)) + (IntKind.i64.wrap (x3 + 4))))) (b0) z1f z14)
        ·refine ze ?_
         refine zo (.ptr 0 2) ?_
         refine zo (iv b0.Hi) ?_
         refine zo (.ptr 0 1) ?_
         refine zo (iv b0.Lo) ?_
         refine zo (iv (IntKind.i64.wrap (b0.Hi - b0.Lo))) ?_
         refine zo (iv (IntKind.i64.wrap (x3 + 1))) ?_
         refine zo (iv (IntKind.i64.wrap ((IntKind.i64.wrap (b0.Hi - b0.Lo)) * (IntKind.i64.wrap (x3 + 1))))) ?_
         refine zo (iv (IntKind.i64.wrap ((IntKind.i64.wrap (b0.Lo * x3)) + (IntKind.i64.wrap ((IntKind.i64.wrap (b0.Hi - b0.Lo)) * (IntKind.i64.wrap (x3 + 1))))))) ?_
         exact zk (Z1i ((IntKind.i64.wrap ((IntKind.i64.wrap (b0.Lo * x3)) + (IntKind.i64.wrap ((IntKind.i64.wrap (b0.Hi - b0.Lo)) * (IntKind.i64.wrap (x3 + 1))))))) (b0) z1f z14)
       ·exact zk (Z16 (x3))
     ·refine ze ?_
      refine zo (bv (b0.Kind == 7)) ?_
      refine za ((b0.Kind == 7)) ?_ ?_
      ·refine za ((b0.Kind == 7)) ?_ ?_
       ·refine ze ?_
        refine zo (iv (IntKind.i64.wrap (x3 + 2))) ?_
        exact zk (Z16 ((IntKind.i64.wrap (x3 + 2))))
       ·refine ze ?_
        refine zo (bv (b0.Kind == 4)) ?_
        refine za ((b0.Kind == 4)) ?_ ?_
        ·refine ze ?_
         refine ze ?_
         refine zo (.ptr 0 1) ?_
         refine zo (iv b0.Lo) ?_
         refine zo (iv (IntKind.i64.wrap (b0.Lo * x3))) ?_
         refine ze ?_
         refine zo (.ptr 0 2) ?_
         refine zo (iv b0.Hi) ?_
         refine zo (bv (decide (b0.Hi < 0))) ?_
         refine za ((decide (b0.Hi < 0))) ?_ ?_
         ·refine ze ?_
          refine zo (iv (IntKind.i64.wrap (x3 + 4))) ?_
          refine zo (iv (IntKind.i64.wrap ((IntKind.i64.wrap (b0.Lo * x3)) + (IntKind.i64.wrap (x3 + 4))))) ?_
          exact zk (Z1i ((IntKind.i64.wrap ((IntKind.i64.wrap (b0.Lo * x3)) + (IntKind.i64.wrap (x3 + 4))))) (b0) z1f z14)
         ·refine ze ?_
          refine zo (.ptr 0 2) ?_
          refine zo (iv b0.Hi) ?_
          refine zo (.ptr 0 1) ?_
          refine zo (iv b0.Lo) ?_
          refine zo (iv (IntKind.i64.wrap (b0.Hi - b0.Lo))) ?_
          refine zo (iv (IntKind.i64.wrap (x3 + 1))) ?_
          refine zo (iv (IntKind.i64.wrap ((IntKind.i64.wrap (b0.Hi - b0.Lo)) * (IntKind.i64.wrap (x3 + 1))))) ?_
          refine zo (iv (IntKind.i64.wrap ((IntKind.i64.wrap (b0.Lo * x3)) + (IntKind.i64.wrap ((IntKind.i64.wrap (b0.Hi - b0.Lo)) * (IntKind.i64.wrap (x3 + 1))))))) ?_
          exact zk (Z1i ((IntKind.i64.wrap ((IntKind.i64.wrap (b0.Lo * x3)) + (IntKind.i64.wrap ((IntKind.i64.wrap (b0.Hi - b0.Lo)) * (IntKind.i64.wrap (x3 + 1))))))) (b0) z1f z14)
        ·exact zk (Z16 (x3))
      ·refine ze ?_
       refine zo (bv (b0.Kind == 8)) ?_
       refine za ((b0.Kind == 8)) ?_ ?_
       ·refine ze ?_
        refine zo (iv (IntKind.i64.wrap (x3 + 2))) ?_
        exact zk (Z16 ((IntKind.i64.wrap (x3 + 2))))
       ·refine ze ?_
        refine zo (bv (b0.Kind == 4)) ?_
        refine za ((b0.Kind == 4)) ?_ ?_
        ·refine ze ?_
         refine ze ?_
         refine zo (.ptr 0 1) ?_
         refine zo (iv b0.Lo) ?_
         refine zo (iv (IntKind.i64.wrap (b0.Lo * x3))) ?_
         refine ze ?_
         refine zo (.ptr 0 2) ?_
         refine zo (iv b0.Hi) ?_
         refine zo (bv (decide (b0.Hi < 0))) ?_
         refine za ((decide (b0.Hi < 0))) ?_ ?_
         ·refine ze ?_
          refine zo (iv (IntKind.i64.wrap (x3 + 4))) ?_
          refine zo (iv (IntKind.i64.wrap ((IntKind.i64.wrap (b0.Lo * x3)) + (IntKind.i64.wrap (x3 + 4))))) ?_
          exact zk (Z1i ((IntKind.i64.wrap ((IntKind.i64.wrap (b0.Lo * x3)) + (IntKind.i64.wrap (x3 + 4))))) (b0) z1f z14)
         ·refine ze ?_
          refine zo (.ptr 0 2) ?_
          refine zo (iv b0.Hi) ?_
          refine zo (.ptr 0 1) ?_
          refine zo (iv b0.Lo) ?_
          refine zo (iv (IntKind.i64.wrap (b0.Hi - b0.Lo))) ?_
          refine zo (iv (IntKind.i64.wrap (x3 + 1))) ?_
          refine zo (iv (IntKind.i64.wrap ((IntKind.i64.wrap (b0.Hi - b0.Lo)) * (IntKind.i64.wrap (x3 + 1))))) ?_
          refine zo (iv (IntKind.i64.wrap ((IntKind.i64.wrap (b0.Lo * x3)) + (IntKind.i64.wrap ((IntKind.i64.wrap (b0.Hi - b0.Lo)) * (IntKind.i64.wrap (x3 + 1))))))) ?_
          exact zk (Z1i ((IntKind.i64.wrap ((IntKind.i64.wrap (b0.Lo * x3)) + (IntKind.i64.wrap ((IntKind.i64.wrap (b0.Hi - b0.Lo)) * (IntKind.i64.wrap (x3 + 1))))))) (b0) z1f z14)
        ·exact zk (Z16 (x3))
  ·refine ze ?_
   refine zo (bv (b0.Kind == 9)) ?_
   refine za ((b0.Kind == 9)) ?_ ?_
   ·refine ze ?_
    exact zr ((iv 1), [(Zq b0 z1f z14)]) ⟨_, rfl⟩
   ·refine ze ?_
    refine zo (bv (b0.Kind == 3)) ?_
    refine za ((b0.Kind == 3)) ?_ ?_
    ·refine ze ?_
     refine zo (.ptr 0 6) ?_
     refine zo (.p (.lst (shrO z14) (b0.Kids.map ZG))) ?_
     refine zo (iv (b0.Kids.length : Int)) ?_ (Eq.trans (by kernel_rfl) (xlen_of (P := PP) (t := 25) (d := 27) (by kernel_rfl) ZG (shrO z14) b0.Kids))
     refine zo (iv (IntKind.i64.wrap ((b0.Kids.length : Int) - 1))) ?_
     refine zo (iv (IntKind.i64.wrap (2 * (IntKind.i64.wrap ((b0.Kids.length : Int) - 1))))) ?_
     refine zo (iv (IntKind.i64.wrap (x3 + (IntKind.i64.wrap (2 * (IntKind.i64.wrap ((b0.Kids.length : Int) - 1))))))) ?_
     exact zk (Z16 ((IntKind.i64.wrap (x3 + (IntKind.i64.wrap (2 * (IntKind.i64.wrap ((b0.Kids.length : Int) - 1))))))))
    ·refine ze ?_
     refine zo (bv (b0.Kind == 5)) ?_
     refine za ((b0.Kind == 5)) ?_ ?_
     ·refine za ((b0.Kind == 5)) ?_ ?_
      ·refine ze ?_
       refine zo (iv (IntKind.i64.wrap (x3 + 2))) ?_
       exact zk (Z16 ((IntKind.i64.wrap (x3 + 2))))
      ·refine ze ?_
       refine zo (bv (b0.Kind == 4)) ?_
       refine za ((b0.Kind == 4)) ?_ ?_
       ·refine ze ?_
        refine ze ?_
        refine zo (.ptr 0 1) ?_
        refine zo (iv b0.Lo) ?_
        refine zo (iv (IntKind.i64.wrap (b0.Lo * x3))) ?_
        refine ze ?_
        refine zo (.ptr 0 2) ?_
        refine zo (iv b0.Hi) ?_
        refine zo (bv (decide (b0.Hi < 0))) ?_
        refine za ((decide (b0.Hi < 0))) ?_ ?_
        ·refine ze ?_
         refine zo (iv (IntKind.i64.wrap (x3 + 4))) ?_
         refine zo (iv (IntKind.i64.wrap ((IntKind.i64.wrap (b0.Lo * x3)) + (IntKind.i64.wrap (x3 + 4))))) ?_
         exact zk (Z1i ((IntKind.i64.wrap ((IntKind.i64.wrap (b0.Lo * x3)) + (IntKind.i64.wrap (x3 + 4))))) (b0) z1f z14)
        ·refine ze ?_
         refine zo (.ptr 0 2) ?_
         refine zo (iv b0.Hi) ?_
         refine zo (.ptr 0 1) ?_
         refine zo (iv b0.Lo) ?_
         refine zo (iv (IntKind.i64.wrap (b0.Hi - b0.Lo))) ?_
         refine zo (iv (IntKind.i64.wrap (x3 + 1))) ?_
         refine zo (iv (IntKind.i64.wrap ((IntKind.i64.wrap (b0.Hi - b0.Lo)) * (IntKind.i64.wrap (x3 + 1))))) ?_
         refine zo (iv (IntKind.i64.wrap ((IntKind.i64.wrap (b0.Lo * x3)) + (IntKind.i64.wrap ((IntKind.i64.wrap (b0.Hi - b0.Lo)) * (IntKind.i64.wrap (x3 + 1))))))) ?_
         exact zk (Z1i ((IntKind.i64.wrap ((IntKind.i64.wrap (b0.Lo * x3)) + (IntKind.i64.wrap ((IntKind.i64.wrap (b0.Hi - b0.Lo)) * (IntKind.i64.wrap (x3 + 1))))))) (b0) z1f z14)
       ·exact zk (Z16 (x3))
     ·refine ze ?_
      refine zo (bv (b0.Kind == 7)) ?_
      refine za ((b0.Kind == 7)) ?_ ?_
      ·refine za ((b0.Kind == 7)) ?_ ?_
       ·refine ze ?_
        refine zo (iv (IntKind.i64.wrap (x3 + 2))) ?_
        exact zk (Z16 ((IntKind.i64.wrap (x3 + 2))))
       ·refine ze ?_
        refine zo (bv (b0.Kind == 4)) ?_
        refine za ((b0.Kind == 4)) ?_ ?_
        ·refine ze ?_
         refine ze ?_
         refine zo (.ptr 0 1) ?_
         refine zo (iv b0.Lo) ?_
         refine zo (iv (IntKind.i64.wrap (b0.Lo * x3))) ?_
         refine ze ?_
         refine zo (.ptr 0 2) ?_
         refine zo (iv b0.Hi) ?_
         refine zo (bv (decide (b0.Hi < 0))) ?_
         refine za ((decide (b0.Hi < 0))) ?_ ?_
         ·refine ze ?_
          refine zo (iv (IntKind.i64.wrap (x3 + 4))) ?_
          refine zo (iv (IntKind.i64.wrap ((IntKind.i64.wrap (b0.Lo * x3)) + (IntKind.i64.wrap (x3 + 4))))) ?_
          exact zk (Z1i ((IntKind.i64.wrap ((IntKind.i64.wrap (b0.Lo * x3)) + (IntKind.i64.wrap (x3 + 4))))) (b0) z1f z14)
         ·refine ze ?_
          refine zo (.ptr 0 2) ?_
          refine zo (iv b0.Hi) ?_
          refine zo (.ptr 0 1) ?_
          refine zo (iv b0.Lo) ?_
          refine zo (iv (IntKind.i64.wrap (b0.Hi - b0.Lo))) ?_
          refine zo (iv (IntKind.i64.wrap (x3 + 1))) ?_
          refine zo (iv (IntKind.i64.wrap ((IntKind.i64.wrap (b0.Hi - b0.Lo)) * (IntKind.i64.wrap (x3 + 1))))) ?_
          refine zo (iv (IntKind.i64.wrap ((IntKind.i64.wrap (b0.Lo * x3)) + (IntKind.i64.wrap ((IntKind.i64.wrap (b0.Hi - b0.Lo)) * (IntKind.i64.wrap (x3 + 1))))))) ?_
          exact zk (Z1i ((IntKind.i64.wrap ((IntKind.i64.wrap (b0.Lo * x3)) + (IntKind.i64.wrap ((IntKind.i64.wrap (b0.Hi - b0.Lo)) * (IntKind.i64.wrap (x3 + 1))))))) (b0) z1f z14)
        ·exact zk (Z16 (x3))
      ·refine ze ?_
       refine zo (bv (b0.Kind == 8)) ?_
       refine za ((b0.Kind == 8)) ?_ ?_
       ·refine ze ?_
        refine zo (iv (IntKind.i64.wrap (x3 + 2))) ?_
        exact zk (Z16 ((IntKind.i64.wrap (x3 + 2))))
       ·refine ze ?_
        refine zo (bv (b0.Kind == 4)) ?_
        refine za ((b0.Kind == 4)) ?_ ?_
        ·refine ze ?_
         refine ze ?_
         refine zo (.ptr 0 1) ?_
         refine zo (iv b0.Lo) ?_
         refine zo (iv (IntKind.i64.wrap (b0.Lo * x3))) ?_
         refine ze ?_
         refine zo (.ptr 0 2) ?_
         refine zo (iv b0.Hi) ?_
         refine zo (bv (decide (b0.Hi < 0))) ?_
         refine za ((decide (b0.Hi < 0))) ?_ ?_
         ·refine ze ?_
          refine zo (iv (IntKind.i64.wrap (x3 + 4))) ?_
          refine zo (iv (IntKind.i64.wrap ((IntKind.i64.wrap (b0.Lo * x3)) + (IntKind.i64.wrap (x3 + 4))))) ?_
          exact zk (Z1i ((IntKind.i64.wrap ((IntKind.i64.wrap (b0.Lo * x3)) + (IntKind.i64.wrap (x3 + 4))))) (b0) z1f z14)
         ·refine ze ?_
          refine zo (.ptr 0 2) ?_
          refine zo (iv b0.Hi) ?_
          refine zo (.ptr 0 1) ?_
          refine zo (iv b0.Lo) ?_
          refine zo (iv (IntKind.i64.wrap (b0.Hi - b0.Lo))) ?_
          refine zo (iv (IntKind.i64.wrap (x3 + 1))) ?_
          refine zo (iv (IntKind.i64.wrap ((IntKind.i64.wrap (b0.Hi - b0.Lo)) * (IntKind.i64.wrap (x3 + 1))))) ?_
          refine zo (iv (IntKind.i64.wrap ((IntKind.i64.wrap (b0.Lo * x3)) + (IntKind.i64.wrap ((IntKind.i64.wrap (b0.Hi - b0.Lo)) * (IntKind.i64.wrap (x3 + 1))))))) ?_
          exact zk (Z1i ((IntKind.i64.wrap ((IntKind.i64.wrap (b0.Lo * x3)) + (IntKind.i64.wrap ((IntKind.i64.wrap (b0.Hi - b0.Lo)) * (IntKind.i64.wrap (x3 + 1))))))) (b0) z1f z14)
        ·exact zk (Z16 (x3))
noncomputable def Z4T (x3 : Int) (x8 : List Z3) (x9 : Int) (x10 : Int) (b0 : Z3) : Option (Int) :=
 if ((decide (x10 < x9))) = true then
 (Z6m x3 x8 x9 x10 b0)
 else
 (Z1S x3 b0)
theorem ZcP (x3 : Int) (x8 : List Z3) (x9 : Int) (x10 : Int) (b0 : Z3) (ox8 : Own) (z1f : Own) (z14 : Own) : Sim (Z3l) (Z4T x3 x8 x9 x10 b0) (Zci 0 (.ptr 0 0) (iv x3) (.p (.lst ox8 (x8.map ZG))) (iv x9) (iv x10) [(Zq b0 z1f z14)]) := by
 unfold Z4T
 refine zf (Zje ..) ?_
 refine ze ?_
 refine zo (bv (decide (x10 < x9))) ?_
 refine za ((decide (x10 < x9))) ?_ ?_
 ·exact zk (ZcL (x3) (x8) (x9) (x10) (b0) ox8 z1f z14)
 ·exact zk (ZcQ (x3) (b0) z1f z14)
theorem Z6q (x3 : Int) (x8 : List Z3) (x9 : Int) (x10 : Int) (b0 : Z3) {r} (h : Z4T x3 x8 x9 x10 b0 = some r) : Z3w x3 x8 x9 x10 b0 = some r :=
 pick_of (fun _ _ ha hb => RRun.uniq (Zce) (ha .ex .ex .ex) (hb .ex .ex .ex)) (fun ox8 z1f z14 => ZcP x3 x8 x9 x10 b0 ox8 z1f z14 r h)
noncomputable def Z74  : Option (Int) :=
 some (0)
theorem Zct  : Sim (Z6j) (Z74) (Zgq 0  []) := by
 unfold Z74
 refine zf (Zig ..) ?_
 refine ze ?_
 exact zr ((iv 0), []) ⟨_, rfl⟩
noncomputable def Z8C (x0 : ZE) : Option (Int) :=
 (Z2X x0.Root).bind fun r1 =>
 if ((!r1)) = true then
 (some (27))
 else
 ((Z22 x0.Root).bind fun r2 =>
 if ((decide (2000 < (IntKind.i64.wrap (r2 + 3))))) = true then
 (some (28))
 else
 (Z74))
theorem ZdA (x0 : ZE) (z2G : Own) (z2q : Own) : Sim (Z6j) (Z8C x0) (EE 26 [(.p (.agg (Z1k x0 z2G z2q)))] []) := by
 unfold Z8C
 refine zf (Zk1 ..) ?_
 refine ze ?_
 refine zx (.ptr 0 0) [(ZA x0 z2G z2q)] ?_
 refine ze ?_
 refine zo (.ptr 0 0) ?_
 refine zo (.p (.agg (ZC x0.Root (shrO z2G) (shrO z2q)))) ?_
 refine zi fun r1 hr1 => ?_
 obtain ⟨qr1, er1, exr1, rfl⟩ := Z9Z (x0.Root) .sh .sh r1 hr1
 refine zc [] (bv r1) [(ZA x0 z2G z2q)] er1 ?_
 refine zo (bv (!r1)) ?_
 refine za ((!r1)) ?_ ?_
 ·refine ze ?_
  exact zr ((iv 27), [(ZA x0 z2G z2q)]) ⟨_, rfl⟩
 ·refine ze ?_
  refine zo (.ptr 0 0) ?_
  refine zo (.p (.agg (ZC x0.Root (shrO z2G) (shrO z2q)))) ?_
  refine zi fun r2 hr2 => ?_
  obtain ⟨qr2, er2, exr2, rfl⟩ := Z5C (x0.Root) .sh .sh r2 hr2
  refine zc [] (iv r2) [(ZA x0 z2G z2q)] er2 ?_
  refine zo (iv (IntKind.i64.wrap (r2 + 3))) ?_
  refine zo (bv (decide (2000 < (IntKind.i64.wrap (r2 + 3))))) ?_
  refine za ((decide (2000 < (IntKind.i64.wrap (r2 + 3))))) ?_ ?_
  ·refine ze ?_
   exact zr ((iv 28), [(ZA x0 z2G z2q)]) ⟨_, rfl⟩
  ·exact zk (Zct )
theorem ZdH (x0 : ZE) {r} (h : Z8C x0 = some r) : Z8D x0 = some r :=
 pick_of (fun _ _ ha hb => RRun.uniq (Zel) (ha .ex .ex) (hb .ex .ex)) (fun z2G z2q => ZdA x0 z2G z2q r h)
noncomputable def Z5r  : Option (Bool) :=
 some (false)
theorem Z8t  : Sim (Z4e) (Z5r) (ZdW 0  []) := by
 unfold Z5r
 refine zf (Zi6 ..) ?_
 refine ze ?_
 exact zr ((bv false), []) ⟨_, rfl⟩
noncomputable def Z2y (b0 : Z3) : Option (Bool) :=
 (Z3x b0.Kids).bind fun r1 =>
 some ((!r1))
theorem Z6v (b0 : Z3) (z1f : Own) (z14 : Own) : Sim (Z4e) (Z2y b0) (Zd3 0 (.ptr 0 0) [(Zq b0 z1f z14)]) := by
 unfold Z2y
 refine zf (Zib ..) ?_
 refine ze ?_
 refine zo (.ptr 0 6) ?_
 refine zo (.p (.lst (shrO z14) (b0.Kids.map ZG))) ?_
 refine zi fun r1 hr1 => ?_
 obtain ⟨qr1, er1, exr1, rfl⟩ := Z8r (b0.Kids) .sh r1 hr1
 refine zc [] (bv r1) [(Zq b0 z1f z14)] er1 ?_
 refine zo (bv (!r1)) ?_
 exact zr ((bv (!r1)), [(Zq b0 z1f z14)]) ⟨_, rfl⟩
noncomputable def Z5p (b0 : Z3) : Option (Bool) :=
 (lget b0.Kids 0).bind fun a1 =>
 (Z1n a1).bind fun r2 =>
 if ((decide (r2.2 < 0))) = true then
 (Z5r)
 else
 (if ((decide (32 < r2.2))) = true then
 (Z5r)
 else
 (Z2y b0))
theorem ZbF (b0 : Z3) (z1f : Own) (z14 : Own) : Sim (Z4e) (Z5p b0) (Zfj 0 (.ptr 0 0) [(Zq b0 z1f z14)]) := by
 unfold Z5p
 refine zf (ZhR ..) ?_
 refine ze ?_
 refine zo (.ptr 0 6) ?_
 refine zo (.p (.lst (shrO z14) (b0.Kids.map ZG))) ?_
 refine zi fun a1 ha1 => ?_
 refine zo (.cptr (ZC a1 .sh .sh)) ?_ (Eq.trans (by kernel_rfl) (xidx_of (o := (shrO z14)) (k := .i64) (n := 7) (e := ZG) (cs := Z21) Z45 (fun _ => rfl) (by decide) ha1))
 refine zo (.p (.agg (ZC a1 .sh .sh))) ?_
 refine zi fun r2 hr2 => ?_
 obtain ⟨qr2, er2, exr2, rfl⟩ := Z32 (a1) .sh .sh r2 hr2
 refine zc [] (.p (.tup [(.v (.int .i64 r2.1)), (.v (.int .i64 r2.2))])) [(Zq b0 z1f z14)] er2 ?_
 refine zo (iv r2.1) ?_
 refine zo (iv r2.2) ?_
 refine ze ?_
 refine zo (bv (decide (r2.2 < 0))) ?_
 refine za ((decide (r2.2 < 0))) ?_ ?_
 ·exact zk (Z8t )
 ·refine zo (bv (decide (32 < r2.2))) ?_
  refine za ((decide (32 < r2.2))) ?_ ?_
  ·exact zk (Z8t )
  ·exact zk (Z6v (b0) z1f z14)
noncomputable def Z7e (x0 : Z3) : Option (Bool) :=
 if ((x0.Kind == 7)) = true then
 (if ((decide (2 ≤ x0.Mode))) = true then
 (Z5p x0)
 else
 (Z2y x0))
 else
 (Z2y x0)
theorem ZcU (x0 : Z3) (z1e : Own) (z10 : Own) : Sim (Z4e) (Z7e x0) (EE 34 [(.p (.agg (ZC x0 z1e z10)))] []) := by
 unfold Z7e
 refine zf (ZkH ..) ?_
 refine ze ?_
 refine zx (.ptr 0 0) [(Zq x0 z1e z10)] ?_
 refine ze ?_
 refine zo (.ptr 0 0) ?_
 refine zo (iv x0.Kind) ?_
 refine zo (bv (x0.Kind == 7)) ?_
 refine za ((x0.Kind == 7)) ?_ ?_
 ·refine zo (.ptr 0 3) ?_
  refine zo (iv x0.Mode) ?_
  refine zo (bv (decide (2 ≤ x0.Mode))) ?_
  refine za ((decide (2 ≤ x0.Mode))) ?_ ?_
  ·exact zk (ZbF (x0) z1e z10)
  ·exact zk (Z6v (x0) z1e z10)
 ·exact zk (Z6v (x0) z1e z10)
theorem Zd4 (x0 : Z3) {r} (h : Z7e x0 = some r) : Z2X x0 = some r :=
 pick_of (fun _ _ ha hb => RRun.uniq (Zdv) (ha .ex .ex) (hb .ex .ex)) (fun z1e z10 => ZcU x0 z1e z10 r h)
noncomputable def Z3y (x0 : List Z3) : Option (Bool) :=
 (Z4d x0).bind fun r1 =>
 some ((decide (0 ≤ r1)))
theorem Z8d (x0 : List Z3) (ox0 : Own) : Sim (Z2Y) (Z3y x0) (EE 39 [(.p (.lst ox0 (x0.map ZG))), (.clo 40 [] [])] []) := by
 unfold Z3y
 refine zf (ZkQ ..) ?_
 refine ze ?_
 refine ze ?_
 refine zi fun r1 hr1 => ?_
 obtain ⟨qr1, er1, exr1, rfl⟩ := Z9h (x0) .sh r1 hr1
 refine zc [] (iv r1) [] er1 ?_
 refine zo (bv (decide (0 ≤ r1))) ?_
 exact zr ((bv (decide (0 ≤ r1))), []) ⟨_, rfl⟩
theorem Z8m (x0 : List Z3) {r} (h : Z3y x0 = some r) : Z3x x0 = some r :=
 pick_of (fun _ _ ha hb => RRun.uniq (Z8T) (ha .ex) (hb .ex)) (fun ox0 => Z8d x0 ox0 r h)
noncomputable def Z4c (x0 : List Z3) : Option (Int) :=
 Z2Z x0 ((x0.length : Int)) 0
theorem Z95 (x0 : List Z3) (ox0 : Own) : Sim (Z1v) (Z4c x0) (EE 44 [(.p (.lst ox0 (x0.map ZG))), (.clo 40 [] [])] []) := by
 unfold Z4c
 refine zf (Zkb ..) ?_
 refine ze ?_
 refine ze ?_
 refine zo (iv (x0.length : Int)) ?_ (Eq.trans (by kernel_rfl) (xlen_of (P := PP) (t := 25) (d := 27) (by kernel_rfl) ZG (shrO ox0) x0))
 exact zk (Z5U (x0) ((x0.length : Int)) (0) ox0)
theorem Z9e (x0 : List Z3) {r} (h : Z4c x0 = some r) : Z4d x0 = some r :=
 pick_of (fun _ _ ha hb => RRun.uniq (Z6x) (ha .ex) (hb .ex)) (fun ox0 => Z95 x0 ox0 r h)
noncomputable def Z3B (x0 : List Z3) (x7 : Int) (x8 : Int) : Option (Int) :=
 Z2Z x0 x7 ((IntKind.i64.wrap (x8 + 1)))
theorem Z8b (x0 : List Z3) (x7 : Int) (x8 : Int) (ox0 : Own) : Sim (Z1v) (Z3B x0 x7 x8) (ZfW 0 (.p (.lst ox0 (x0.map ZG))) (.clo 40 [] []) (iv x7) (iv x8) []) := by
 unfold Z3B
 refine zf (Ziq ..) ?_
 refine ze ?_
 refine zo (iv (IntKind.i64.wrap (x8 + 1))) ?_
 exact zk (Z5U (x0) (x7) ((IntKind.i64.wrap (x8 + 1))) ox0)
noncomputable def Z31 (x0 : List Z3) (x7 : Int) (x8 : Int) : Option (Int) :=
 (lget x0 x8).bind fun a1 =>
 (Z6D a1).bind fun r2 =>
 if (r2) = true then
 (some (x8))
 else
 (Z3B x0 x7 x8)
theorem Z8l (x0 : List Z3) (x7 : Int) (x8 : Int) (ox0 : Own) : Sim (Z1v) (Z31 x0 x7 x8) (Zfv 0 (.p (.lst ox0 (x0.map ZG))) (.clo 40 [] []) (iv x7) (iv x8) []) := by
 unfold Z31
 refine zf (Ziw ..) ?_
 refine ze ?_
 refine ze ?_
 refine zi fun a1 ha1 => ?_
 refine zo (.cptr (ZC a1 .sh .sh)) ?_ (Eq.trans (by kernel_rfl) (xidx_of (o := (shrO ox0)) (k := .i64) (n := 7) (e := ZG) (cs := Z21) Z45 (fun _ => rfl) (by decide) ha1))
 refine zo (.p (.agg (ZC a1 .sh .sh))) ?_
 refine zi fun r2 hr2 => ?_
 obtain ⟨qr2, er2, exr2, rfl⟩ := ZcE (a1) .sh .sh r2 hr2
 refine zv [] (bv r2) [] er2 ?_
 refine za (r2) ?_ ?_
 ·refine ze ?_
  exact zr ((iv x8), []) ⟨_, rfl⟩
 ·exact zk (Z8b (x0) (x7) (x8) ox0)
noncomputable def Z4L  : Option (Int) :=
 some ((-1))
theorem Z8g  : Sim (Z1v) (Z4L) (ZfF 0  []) := by
 unfold Z4L
 refine zf (Zj5 ..) ?_
 refine ze ?_
 exact zr ((iv (-1)), []) ⟨_, rfl⟩
noncomputable def Z2l (x0 : List Z3) (x7 : Int) (x8 : Int) : Option (Int) :=
 if ((decide (x8 < x7))) = true then
 (Z31 x0 x7 x8)
 else
 (Z4L)
theorem Z8j (x0 : List Z3) (x7 : Int) (x8 : Int) (ox0 : Own) : Sim (Z1v) (Z2l x0 x7 x8) (Zc0 0 (.p (.lst ox0 (x0.map ZG))) (.clo 40 [] []) (iv x7) (iv x8) []) := by
 unfold Z2l
 refine zf (ZhI ..) ?_
 refine ze ?_
 refine zo (bv (decide (x8 < x7))) ?_
 refine za ((decide (x8 < x7))) ?_ ?_
 ·exact zk (Z8l (x0) (x7) (x8) ox0)
 ·exact zk (Z8g )
theorem Z4m (x0 : List Z3) (x7 : Int) (x8 : Int) {r} (h : Z2l x0 x7 x8 = some r) : Z2Z x0 x7 x8 = some r :=
 pick_of (fun _ _ ha hb => RRun.uniq (Z6x) (ha .ex) (hb .ex)) (fun ox0 => Z8j x0 x7 x8 ox0 r h)
noncomputable def Z6E (x0 : Z3) : Option (Bool) :=
 (Z2X x0).bind fun r1 =>
 some ((!r1))
theorem Zcq (x0 : Z3) (z1e : Own) (z10 : Own) : Sim (Z5G) (Z6E x0) (EE 40 [(.p (.agg (ZC x0 z1e z10)))] []) := by
 unfold Z6E
 refine zf (Zka ..) ?_
 refine ze ?_
 refine zx (.ptr 0 0) [(Zq x0 z1e z10)] ?_
 refine ze ?_
 refine zo (.p (.agg (ZC x0 (shrO z1e) (shrO z10)))) ?_
 refine zi fun r1 hr1 => ?_
 obtain ⟨qr1, er1, exr1, rfl⟩ := Z9Z (x0) .sh .sh r1 hr1
 refine zc [] (bv r1) [(Zq x0 z1e z10)] er1 ?_
 refine zo (bv (!r1)) ?_
 exact zr ((bv (!r1)), [(Zq x0 z1e z10)]) ⟨_, rfl⟩
theorem Zcs (x0 : Z3) {r} (h : Z6E x0 = some r) : Z6D x0 = some r :=
 pick_of (fun _ _ ha hb => RRun.uniq (ZcN) (ha .ex .ex) (hb .ex .ex)) (fun z1e z10 => Zcq x0 z1e z10 r h)
end Go.Proofs.YtadodmjdkphddaaDoor.N2
end
