/- More of the functions' typed texts. No condition. -/
import Derived.Test.YtadodmjdkphddaaDoorTypA

section
set_option linter.unusedSimpArgs false
set_option linter.unusedVariables false
namespace Go.Proofs.YtadodmjdkphddaaDoor.N2
open Go Go.Abs
set_option linter.unusedVariables false
set_option maxRecDepth 100000
noncomputable def Z5q (x0 : List Z8) (z11 : List Z8) : Option ((List Z8)) :=
 (Z7R z11 x0).bind fun r1 =>
 some (r1.1)
theorem Zag (x0 : List Z8) (z11 : List Z8) (ox0 : Own) (z9Q : Own) : Sim (Z4o) (Z5q x0 z11) (EE 58 [(.p (.lst ox0 (x0.map Zz))), (.ptr 0 0)] [[(.p (.lst z9Q (z11.map Zz)))]]) := by
 unfold Z5q
 refine zf (Zl8 ..) ?_
 refine ze ?_
 refine zo (.p (.lst (shrO z9Q) (z11.map Zz))) ?_
 refine zi fun r1 hr1 => ?_
 obtain ⟨qr1, er1, exr1, rfl⟩ := Zdw (z11) (x0) .sh .sh r1 hr1
 refine zc [] (.p (.tup [(.lst .sh (r1.1.map Zz)), (.v (.int .i64 r1.2))])) [[(.p (.lst z9Q (z11.map Zz)))]] er1 ?_
 refine zo (.p (.lst .sh (r1.1.map Zz))) ?_
 refine zo (iv r1.2) ?_
 refine zt [[(.p (.lst .sh (r1.1.map Zz)))]] ?_
 exact zr ((.p (.tup [])), [[(.p (.lst .sh (r1.1.map Zz)))]]) ⟨.sh, _, rfl⟩
theorem Zaz (x0 : List Z8) (z11 : List Z8) {r} (h : Z5q x0 z11 = some r) : Z4p x0 z11 = some r :=
 pick_of (fun _ _ ha hb => RRun.uniq (Zb6) (ha .ex .ex) (hb .ex .ex)) (fun ox0 z9Q => Zag x0 z11 ox0 z9Q r h)
noncomputable def Z6C  : Option ((List Z8) × Int) :=
 some (([] : List Z8), 10)
theorem Z94  : Sim (Z5i) (Z6C) (ZdW 0  []) := by
 unfold Z6C
 refine zf (Zi1 ..) ?_
 refine ze ?_
 exact zr ((.p (.tup [(.lst .sh []), (.v (.int .i64 10))])), []) ⟨_, rfl⟩
noncomputable def Z6D (x0 : List Z8) (x1 : List Z8) : Option ((List Z8) × Int) :=
 (Z6P (([x0, x1] : List (List Z8)))).bind fun r1 =>
 (Z83 r1).bind fun r2 =>
 some (r2, 0)
theorem ZbR (x0 : List Z8) (x1 : List Z8) (ox0 : Own) (ox1 : Own) : Sim (Z5i) (Z6D x0 x1) (Zfu 0 (.p (.lst ox0 (x0.map Zz))) (.p (.lst ox1 (x1.map Zz))) []) := by
 unfold Z6D
 refine zf (Zi6 ..) ?_
 refine ze ?_
 refine zo (.p (.lst .ex (([x0, x1] : List (List Z8)).map (eL Zz)))) ?_
 refine zi fun r1 hr1 => ?_
 obtain ⟨qr1, er1, exr1, rfl⟩ := Zb4 (([x0, x1] : List (List Z8))) .sh r1 hr1
 refine zc [] (.p (.lst .sh (r1.map Zz))) [] er1 ?_
 refine zi fun r2 hr2 => ?_
 obtain ⟨qr2, er2, exr2, rfl⟩ := Zaj (r1) .sh r2 hr2
 refine zc [] (.p (.lst .sh (r2.map Zz))) [] er2 ?_
 exact zr ((.p (.tup [(.lst .sh (r2.map Zz)), (.v (.int .i64 0))])), []) ⟨_, rfl⟩
noncomputable def Z7V (x0 : List Z8) (x1 : List Z8) : Option ((List Z8) × Int) :=
 (Z4G x0).bind fun r1 =>
 if ((!r1)) = true then
 (Z6C)
 else
 ((Z4G x1).bind fun r2 =>
 if ((!r2)) = true then
 (Z6C)
 else
 (Z6D x0 x1))
theorem Zd8 (x0 : List Z8) (x1 : List Z8) (ox0 : Own) (ox1 : Own) : Sim (Z5i) (Z7V x0 x1) (EE 59 [(.p (.lst ox0 (x0.map Zz))), (.p (.lst ox1 (x1.map Zz)))] []) := by
 unfold Z7V
 refine zf (ZjO ..) ?_
 refine ze ?_
 refine ze ?_
 refine zi fun r1 hr1 => ?_
 obtain ⟨qr1, er1, exr1, rfl⟩ := Z6V (x0) .sh r1 hr1
 refine zc [] (bv r1) [] er1 ?_
 refine zo (bv (!r1)) ?_
 refine za ((!r1)) ?_ ?_
 ·exact zk (Z94 )
 ·refine zi fun r2 hr2 => ?_
  obtain ⟨qr2, er2, exr2, rfl⟩ := Z6V (x1) .sh r2 hr2
  refine zc [] (bv r2) [] er2 ?_
  refine zo (bv (!r2)) ?_
  refine za ((!r2)) ?_ ?_
  ·exact zk (Z94 )
  ·exact zk (ZbR (x0) (x1) ox0 ox1)
theorem ZdF (x0 : List Z8) (x1 : List Z8) {r} (h : Z7V x0 x1 = some r) : Z7R x0 x1 = some r :=
 pick_of (fun _ _ ha hb => RRun.uniq (ZdI) (ha .ex .ex) (hb .ex .ex)) (fun ox0 ox1 => Zd8 x0 x1 ox0 ox1 r h)
noncomputable def Z3S (zu : Int) (z7 : Int) (zh : Int) (zj : List Zv) (z2 : Int) (z6 : Int) (z19 : Int) (z1L : Int) (z1J : Int) (z1c : Int) (z1p : Int) (z1q : List Z8) (b2 : Z3) : Option (Z3 × Bool × Int × Int × Int × (List Zv) × Int × Int) :=
 some ((Z3.mk z19 z1L z1J z1c z1p z1q ([b2] : List Z3)), (z19 != 7), zu, z7, zh, zj, z2, z6)
theorem Z9H (zn : List Int) (zu : Int) (z7 : Int) (zh : Int) (zj : List Zv) (z2 : Int) (z6 : Int) (z19 : Int) (z1L : Int) (z1J : Int) (z1c : Int) (z1p : Int) (z1q : List Z8) (z2c : List Z3) (b2 : Z3) (zp : Own) (zd : Own) (zD : Own) (zB : Own) (z1O : Own) (z1B : Own) (zy : okApp zd = true) (zR : okApp zD = true) (zL : okApp zB = true) : Sim (Z2k zn zp) (Z3S zu z7 zh zj z2 z6 z19 z1L z1J z1c z1p z1q b2) (ZeL 1 (.ptr 1 0) (.ptr 2 0) [(Zk (Zm.mk zn zu z7 zh zj (Zl.mk z2 z6)) zp zd), (Zq (Z3.mk z19 z1L z1J z1c z1p z1q z2c) zD zB), (Zq b2 z1O z1B)]) := by
 unfold Z3S
 refine zf (Zh4 ..) ?_
 refine ze ?_
 refine zo (.p (.agg (ZC b2 (shrO z1O) (shrO z1B)))) ?_
 refine zo (.p (.lst .ex (([b2] : List Z3).map ZG))) ?_ (Eq.trans (b := some (.p (.lst .ex [.agg (Z24 b2)]))) (by kernel_rfl) (by simp only [List.map_cons, List.map_nil, Z3j]))
 refine zo (.ptr 1 6) ?_
 refine zt [(Zk (Zm.mk zn zu z7 zh zj (Zl.mk z2 z6)) zp zd), (Zq (Z3.mk z19 z1L z1J z1c z1p z1q ([b2] : List Z3)) zD .ex), (Zq b2 z1O z1B)] ?_
 refine ze ?_
 refine zo (.p (.agg (ZC (Z3.mk z19 z1L z1J z1c z1p z1q ([b2] : List Z3)) (shrO zD) .ex))) ?_
 refine zo (.ptr 1 0) ?_
 refine zo (iv z19) ?_
 refine zo (bv (z19 != 7)) ?_
 refine zt [(Zk (Zm.mk zn zu z7 zh zj (Zl.mk z2 z6)) zp zd), (Zq (Z3.mk z19 z1L z1J z1c z1p z1q ([b2] : List Z3)) (shrO zD) .ex), (Zq b2 z1O z1B)] ?_
 exact zr ((.p (.tup [(.agg (ZC (Z3.mk z19 z1L z1J z1c z1p z1q ([b2] : List Z3)) .sh .sh)), (.v (.bool (z19 != 7)))])), [(Zk (Zm.mk zn zu z7 zh zj (Zl.mk z2 z6)) zp zd), (Zq (Z3.mk z19 z1L z1J z1c z1p z1q ([b2] : List Z3)) (shrO zD) .ex), (Zq b2 z1O z1B)]) ⟨zd, _, zy, rfl⟩
noncomputable def Z27 (zu : Int) (z7 : Int) (zh : Int) (zj : List Zv) (z2 : Int) (z6 : Int) (z19 : Int) (z1L : Int) (z1J : Int) (z1c : Int) (z1p : Int) (z1q : List Z8) (b2 : Z3) : Option (Z3 × Bool × Int × Int × Int × (List Zv) × Int × Int) :=
 if ((z19 == 0)) = true then
 (some (b2, true, zu, z7, (IntKind.i64.wrap (zh - 1)), zj, z2, z6))
 else
 (Z3S zu z7 ((IntKind.i64.wrap (zh - 1))) zj z2 z6 z19 z1L z1J z1c z1p z1q b2)
theorem Z5j (zn : List Int) (zu : Int) (z7 : Int) (zh : Int) (zj : List Zv) (z2 : Int) (z6 : Int) (z19 : Int) (z1L : Int) (z1J : Int) (z1c : Int) (z1p : Int) (z1q : List Z8) (z2c : List Z3) (b2 : Z3) (zp : Own) (zd : Own) (zD : Own) (zB : Own) (z1O : Own) (z1B : Own) (zy : okApp zd = true) (zR : okApp zD = true) (zL : okApp zB = true) : Sim (Z2k zn zp) (Z27 zu z7 zh zj z2 z6 z19 z1L z1J z1c z1p z1q b2) (Zc0 1 (.ptr 0 0) (.ptr 1 0) (.ptr 2 0) [(Zk (Zm.mk zn zu z7 zh zj (Zl.mk z2 z6)) zp zd), (Zq (Z3.mk z19 z1L z1J z1c z1p z1q z2c) zD zB), (Zq b2 z1O z1B)]) := by
 unfold Z27
 refine zf (Zhh ..) ?_
 refine ze ?_
 refine zo (.ptr 0 0) ?_
 refine zo (.ptr 0 3) ?_
 refine zo (iv zh) ?_
 refine zo (iv (IntKind.i64.wrap (zh - 1))) ?_
 refine zo (.ptr 0 0) ?_
 refine zo (.ptr 0 3) ?_
 refine zt [(Zk (Zm.mk zn zu z7 (IntKind.i64.wrap (zh - 1)) zj (Zl.mk z2 z6)) zp zd), (Zq (Z3.mk z19 z1L z1J z1c z1p z1q z2c) zD zB), (Zq b2 z1O z1B)] ?_
 refine ze ?_
 refine zo (.ptr 1 0) ?_
 refine zo (iv z19) ?_
 refine zo (bv (z19 == 0)) ?_
 refine za ((z19 == 0)) ?_ ?_
 ·refine ze ?_
  refine zo (.p (.agg (ZC b2 (shrO z1O) (shrO z1B)))) ?_
  refine zt [(Zk (Zm.mk zn zu z7 (IntKind.i64.wrap (zh - 1)) zj (Zl.mk z2 z6)) zp zd), (Zq b2 (shrO z1O) (shrO z1B)), (Zq b2 z1O z1B)] ?_
  exact zr ((.p (.tup [(.agg (ZC b2 .sh .sh)), (.v (.bool true))])), [(Zk (Zm.mk zn zu z7 (IntKind.i64.wrap (zh - 1)) zj (Zl.mk z2 z6)) zp zd), (Zq b2 (shrO z1O) (shrO z1B)), (Zq b2 z1O z1B)]) ⟨zd, _, zy, rfl⟩
 ·exact zk (Z9H (zn) (zu) (z7) ((IntKind.i64.wrap (zh - 1))) (zj) (z2) (z6) (z19) (z1L) (z1J) (z1c) (z1p) (z1q) (z2c) (b2) zp zd zD zB z1O z1B zy zR zL)
noncomputable def Z4X (x1 : Int) (zn : List Int) (z7 : Int) (zh : Int) (zj : List Zv) (z2 : Int) (z6 : Int) (z19 : Int) (z1L : Int) (z1J : Int) (z1c : Int) (z1p : Int) (z1q : List Z8) (b2 : Z3) : Option (Z3 × Bool × Int × Int × Int × (List Zv) × Int × Int) :=
 (ZU 20 x1 zn z2 z6).bind fun r1 =>
 Z27 r1.1 z7 zh zj r1.2.1 r1.2.2 z19 z1L z1J z1c z1p z1q b2
theorem Z9x (x1 : Int) (zn : List Int) (zu : Int) (z7 : Int) (zh : Int) (zj : List Zv) (z2 : Int) (z6 : Int) (z19 : Int) (z1L : Int) (z1J : Int) (z1c : Int) (z1p : Int) (z1q : List Z8) (z2c : List Z3) (b2 : Z3) (zp : Own) (zd : Own) (zD : Own) (zB : Own) (z1O : Own) (z1B : Own) (zy : okApp zd = true) (zR : okApp zD = true) (zL : okApp zB = true) : Sim (Z2k zn zp) (Z4X x1 zn z7 zh zj z2 z6 z19 z1L z1J z1c z1p z1q b2) (ZeA 1 (.ptr 0 0) (iv x1) (.ptr 1 0) (.ptr 2 0) [(Zk (Zm.mk zn zu z7 zh zj (Zl.mk z2 z6)) zp zd), (Zq (Z3.mk z19 z1L z1J z1c z1p z1q z2c) zD zB), (Zq b2 z1O z1B)]) := by
 unfold Z4X
 refine zf (Zhw ..) ?_
 refine ze ?_
 refine zi fun r1 hr1 => ?_
 obtain ⟨qr1, er1, exr1, rfl⟩ := ZX (20) (x1) (zn) (zu) (z7) (zh) (zj) (z2) (z6) zp zd zy r1 hr1
 refine zc [0] (.p (.tup [])) [(Zk (Zm.mk zn r1.1 z7 zh zj (Zl.mk r1.2.1 r1.2.2)) zp zd), (Zq (Z3.mk z19 z1L z1J z1c z1p z1q z2c) zD zB), (Zq b2 z1O z1B)] er1 ?_
 exact zk (Z5j (zn) (r1.1) (z7) (zh) (zj) (r1.2.1) (r1.2.2) (z19) (z1L) (z1J) (z1c) (z1p) (z1q) (z2c) (b2) zp zd zD zB z1O z1B zy zR zL)
noncomputable def Z1z (x1 : Int) (zn : List Int) (zu : Int) (z7 : Int) (zh : Int) (zj : List Zv) (z2 : Int) (z6 : Int) (z19 : Int) (z1L : Int) (z1J : Int) (z1c : Int) (z1p : Int) (z1q : List Z8) : Option (Z3 × Bool × Int × Int × Int × (List Zv) × Int × Int) :=
 (Z32 zn zu z7 zh zj z2 z6).bind fun r1 =>
 if ((r1.2.2.2.2.2.1 == 0)) = true then
 ((Z18 ((ByteArray.mk #[41])) zn r1.2.1).bind fun r2 =>
 if ((!r2.1)) = true then
 (Z4X x1 zn r1.2.2.1 r1.2.2.2.1 r1.2.2.2.2.1 r1.2.2.2.2.2.1 r1.2.2.2.2.2.2 z19 z1L z1J z1c z1p z1q r1.1)
 else
 (Z27 r2.2 r1.2.2.1 r1.2.2.2.1 r1.2.2.2.2.1 r1.2.2.2.2.2.1 r1.2.2.2.2.2.2 z19 z1L z1J z1c z1p z1q r1.1))
 else
 (Z27 r1.2.1 r1.2.2.1 r1.2.2.2.1 r1.2.2.2.2.1 r1.2.2.2.2.2.1 r1.2.2.2.2.2.2 z19 z1L z1J z1c z1p z1q r1.1)
theorem Z2D (x1 : Int) (zn : List Int) (zu : Int) (z7 : Int) (zh : Int) (zj : List Zv) (z2 : Int) (z6 : Int) (z19 : Int) (z1L : Int) (z1J : Int) (z1c : Int) (z1p : Int) (z1q : List Z8) (z2c : List Z3) (zp : Own) (zd : Own) (zD : Own) (zB : Own) (zy : okApp zd = true) (zR : okApp zD = true) (zL : okApp zB = true) : Sim (Z2k zn zp) (Z1z x1 zn zu z7 zh zj z2 z6 z19 z1L z1J z1c z1p z1q) (Z96 1 (.ptr 0 0) (iv x1) (.ptr 1 0) [(Zk (Zm.mk zn zu z7 zh zj (Zl.mk z2 z6)) zp zd), (Zq (Z3.mk z19 z1L z1J z1c z1p z1q z2c) zD zB)]) := by
 unfold Z1z
 refine zf (Zh2 ..) ?_
 refine ze ?_
 refine zi fun r1 hr1 => ?_
 obtain ⟨qr1, er1, or1_0_4, exr1, hor1_0_4, rfl⟩ := Z93 (zn) (zu) (z7) (zh) (zj) (z2) (z6) zp zd zy r1 hr1
 refine zc [0] (.p (.agg (ZC r1.1 .sh .sh))) [(Zk (Zm.mk zn r1.2.1 r1.2.2.1 r1.2.2.2.1 r1.2.2.2.2.1 (Zl.mk r1.2.2.2.2.2.1 r1.2.2.2.2.2.2)) zp or1_0_4), (Zq (Z3.mk z19 z1L z1J z1c z1p z1q z2c) zD zB)] er1 ?_
 refine zz (.ptr 2 0) [(Zk (Zm.mk zn r1.2.1 r1.2.2.1 r1.2.2.2.1 r1.2.2.2.2.1 (Zl.mk r1.2.2.2.2.2.1 r1.2.2.2.2.2.2)) zp or1_0_4), (Zq (Z3.mk z19 z1L z1J z1c z1p z1q z2c) zD zB), (Zq (Z3.mk 0 0 0 0 0 ([] : List Z8) ([] : List Z3)) .nl .nl)] ?_
 refine zt [(Zk (Zm.mk zn r1.2.1 r1.2.2.1 r1.2.2.2.1 r1.2.2.2.2.1 (Zl.mk r1.2.2.2.2.2.1 r1.2.2.2.2.2.2)) zp or1_0_4), (Zq (Z3.mk z19 z1L z1J z1c z1p z1q z2c) zD zB), (Zq r1.1 .sh .sh)] ?_
 refine ze ?_
 refine zo (.ptr 0 0) ?_
 refine zo (.ptr 0 5) ?_
 refine zo (.ptr 0 5) ?_
 refine zo (iv r1.2.2.2.2.2.1) ?_
 refine zo (bv (r1.2.2.2.2.2.1 == 0)) ?_
 refine za ((r1.2.2.2.2.2.1 == 0)) ?_ ?_
 ·refine zi fun r2 hr2 => ?_
  obtain ⟨qr2, er2, exr2, rfl⟩ := Z1d ((ByteArray.mk #[41])) (zn) (r1.2.1) (r1.2.2.1) (r1.2.2.2.1) (r1.2.2.2.2.1) (r1.2.2.2.2.2.1) (r1.2.2.2.2.2.2) zp or1_0_4 hor1_0_4 r2 hr2
  refine zc [0] (bv r2.1) [(Zk (Zm.mk zn r2.2 r1.2.2.1 r1.2.2.2.1 r1.2.2.2.2.1 (Zl.mk r1.2.2.2.2.2.1 r1.2.2.2.2.2.2)) zp or1_0_4), (Zq (Z3.mk z19 z1L z1J z1c z1p z1q z2c) zD zB), (Zq r1.1 .sh .sh)] er2 ?_
  refine zo (bv (!r2.1)) ?_
  refine za ((!r2.1)) ?_ ?_
  ·exact zk (Z9x (x1) (zn) (r2.2) (r1.2.2.1) (r1.2.2.2.1) (r1.2.2.2.2.1) (r1.2.2.2.2.2.1) (r1.2.2.2.2.2.2) (z19) (z1L) (z1J) (z1c) (z1p) (z1q) (z2c) (r1.1) zp or1_0_4 zD zB .sh .sh hor1_0_4 zR zL)
  ·exact zk (Z5j (zn) (r2.2) (r1.2.2.1) (r1.2.2.2.1) (r1.2.2.2.2.1) (r1.2.2.2.2.2.1) (r1.2.2.2.2.2.2) (z19) (z1L) (z1J) (z1c) (z1p) (z1q) (z2c) (r1.1) zp or1_0_4 zD zB .sh .sh hor1_0_4 zR zL)
 ·exact zk (Z5j (zn) (r1.2.1) (r1.2.2.1) (r1.2.2.2.1) (r1.2.2.2.2.1) (r1.2.2.2.2.2.1) (r1.2.2.2.2.2.2) (z19) (z1L) (z1J) (z1c) (z1p) (z1q) (z2c) (r1.1) zp or1_0_4 zD zB .sh .sh hor1_0_4 zR zL)
noncomputable def Z4a (x1 : Int) (zn : List Int) (zu : Int) (z7 : Int) (zh : Int) (zj : List Zv) (z2 : Int) (z6 : Int) (z19 : Int) (z1L : Int) (z1J : Int) (z1c : Int) (z1p : Int) (z1q : List Z8) : Option (Z3 × Bool × Int × Int × Int × (List Zv) × Int × Int) :=
 (Z8G).bind fun r1 =>
 (Z3R r1 zn zu).bind fun r2 =>
 if ((decide (0 ≤ r2.1))) = true then
 (Z1z x1 zn r2.2 z7 ((IntKind.i64.wrap (zh + 1))) zj z2 z6 7 0 0 r2.1 0 (([] : List Z8)))
 else
 ((Z18 ((ByteArray.mk #[63, 62])) zn r2.2).bind fun r3 =>
 if (r3.1) = true then
 (Z1z x1 zn r3.2 z7 ((IntKind.i64.wrap (zh + 1))) zj z2 z6 8 0 0 0 0 (([] : List Z8)))
 else
 ((Z18 ((ByteArray.mk #[63, 58])) zn r3.2).bind fun r4 =>
 if (r4.1) = true then
 (Z1z x1 zn r4.2 z7 ((IntKind.i64.wrap (zh + 1))) zj z2 z6 z19 z1L z1J z1c z1p z1q)
 else
 ((Z1K ((Zm.mk zn r4.2 z7 (IntKind.i64.wrap (zh + 1)) zj (Zl.mk z2 z6)))).bind fun r5 =>
 if ((r5 == 63)) = true then
 ((ZU 20 x1 zn z2 z6).bind fun r6 =>
 Z1z x1 zn r6.1 z7 ((IntKind.i64.wrap (zh + 1))) zj r6.2.1 r6.2.2 z19 z1L z1J z1c z1p z1q)
 else
 (if ((z7 == 9)) = true then
 ((ZU 24 x1 zn z2 z6).bind fun r7 =>
 Z1z x1 zn r7.1 z7 ((IntKind.i64.wrap (zh + 1))) zj r7.2.1 r7.2.2 z19 z1L z1J z1c z1p z1q)
 else
 (Z1z x1 zn r4.2 ((IntKind.i64.wrap (z7 + 1))) ((IntKind.i64.wrap (zh + 1))) zj z2 z6 5 0 0 0 ((IntKind.i64.wrap (z7 + 1))) (([] : List Z8)))))))
theorem Z9V (x1 : Int) (zn : List Int) (zu : Int) (z7 : Int) (zh : Int) (zj : List Zv) (z2 : Int) (z6 : Int) (z19 : Int) (z1L : Int) (z1J : Int) (z1c : Int) (z1p : Int) (z1q : List Z8) (z2c : List Z3) (zp : Own) (zd : Own) (zD : Own) (zB : Own) (zy : okApp zd = true) (zR : okApp zD = true) (zL : okApp zB = true) : Sim (Z2k zn zp) (Z4a x1 zn zu z7 zh zj z2 z6 z19 z1L z1J z1c z1p z1q) (ZfJ 1 (.ptr 0 0) (iv x1) (.ptr 1 0) [(Zk (Zm.mk zn zu z7 zh zj (Zl.mk z2 z6)) zp zd), (Zq (Z3.mk z19 z1L z1J z1c z1p z1q z2c) zD zB)]) := by
 unfold Z4a
 refine zf (ZhN ..) ?_
 refine ze ?_
 refine zo (.ptr 0 0) ?_
 refine zo (.ptr 0 3) ?_
 refine zo (iv zh) ?_
 refine zo (iv (IntKind.i64.wrap (zh + 1))) ?_
 refine zo (.ptr 0 0) ?_
 refine zo (.ptr 0 3) ?_
 refine zt [(Zk (Zm.mk zn zu z7 (IntKind.i64.wrap (zh + 1)) zj (Zl.mk z2 z6)) zp zd), (Zq (Z3.mk z19 z1L z1J z1c z1p z1q z2c) zD zB)] ?_
 refine ze ?_
 refine zi fun r1 hr1 => ?_
 obtain ⟨qr1, er1, exr1, rfl⟩ := ZdR  r1 hr1
 refine zc [] (.p (.lst .sh (r1.map eS))) [(Zk (Zm.mk zn zu z7 (IntKind.i64.wrap (zh + 1)) zj (Zl.mk z2 z6)) zp zd), (Zq (Z3.mk z19 z1L z1J z1c z1p z1q z2c) zD zB)] er1 ?_
 refine zi fun r2 hr2 => ?_
 obtain ⟨qr2, er2, exr2, rfl⟩ := Z8U (r1) (zn) (zu) (z7) ((IntKind.i64.wrap (zh + 1))) (zj) (z2) (z6) .sh zp zd zy r2 hr2
 refine zc [0] (iv r2.1) [(Zk (Zm.mk zn r2.2 z7 (IntKind.i64.wrap (zh + 1)) zj (Zl.mk z2 z6)) zp zd), (Zq (Z3.mk z19 z1L z1J z1c z1p z1q z2c) zD zB)] er2 ?_
 refine ze ?_
 refine zo (bv (decide (0 ≤ r2.1))) ?_
 refine za ((decide (0 ≤ r2.1))) ?_ ?_
 ·refine ze ?_
  refine zo (.p (.agg (ZC (Z3.mk 7 0 0 r2.1 0 ([] : List Z8) ([] : List Z3)) .nl .nl))) ?_
  refine zt [(Zk (Zm.mk zn r2.2 z7 (IntKind.i64.wrap (zh + 1)) zj (Zl.mk z2 z6)) zp zd), (Zq (Z3.mk 7 0 0 r2.1 0 ([] : List Z8) ([] : List Z3)) .nl .nl)] ?_
  exact zk (Z2D (x1) (zn) (r2.2) (z7) ((IntKind.i64.wrap (zh + 1))) (zj) (z2) (z6) (7) (0) (0) (r2.1) (0) (([] : List Z8)) (([] : List Z3)) zp zd .nl .nl zy rfl rfl)
 ·refine ze ?_
  refine zi fun r3 hr3 => ?_
  obtain ⟨qr3, er3, exr3, rfl⟩ := Z1d ((ByteArray.mk #[63, 62])) (zn) (r2.2) (z7) ((IntKind.i64.wrap (zh + 1))) (zj) (z2) (z6) zp zd zy r3 hr3
  refine zc [0] (bv r3.1) [(Zk (Zm.mk zn r3.2 z7 (IntKind.i64.wrap (zh + 1)) zj (Zl.mk z2 z6)) zp zd), (Zq (Z3.mk z19 z1L z1J z1c z1p z1q z2c) zD zB)] er3 ?_
  refine za (r3.1) ?_ ?_
  ·refine ze ?_
   refine zo (.p (.agg (ZC (Z3.mk 8 0 0 0 0 ([] : List Z8) ([] : List Z3)) .nl .nl))) ?_
   refine zt [(Zk (Zm.mk zn r3.2 z7 (IntKind.i64.wrap (zh + 1)) zj (Zl.mk z2 z6)) zp zd), (Zq (Z3.mk 8 0 0 0 0 ([] : List Z8) ([] : List Z3)) .nl .nl)] ?_
   exact zk (Z2D (x1) (zn) (r3.2) (z7) ((IntKind.i64.wrap (zh + 1))) (zj) (z2) (z6) (8) (0) (0) (0) (0) (([] : List Z8)) (([] : List Z3)) zp zd .nl .nl zy rfl rfl)
  ·refine ze ?_
   refine zi fun r4 hr4 => ?_
   obtain ⟨qr4, er4, exr4, rfl⟩ := Z1d ((ByteArray.mk #[63, 58])) (zn) (r3.2) (z7) ((IntKind.i64.wrap (zh + 1))) (zj) (z2) (z6) zp zd zy r4 hr4
   refine zc [0] (bv r4.1) [(Zk (Zm.mk zn r4.2 z7 (IntKind.i64.wrap (zh + 1)) zj (Zl.mk z2 z6)) zp zd), (Zq (Z3.mk z19 z1L z1J z1c z1p z1q z2c) zD zB)] er4 ?_
   refine za (r4.1) ?_ ?_
   ·exact zk (Z2D (x1) (zn) (r4.2) (z7) ((IntKind.i64.wrap (zh + 1))) (zj) (z2) (z6) (z19) (z1L) (z1J) (z1c) (z1p) (z1q) (z2c) zp zd zD zB zy zR zL)
   ·refine ze ?_
    refine zi fun r5 hr5 => ?_
    obtain ⟨qr5, er5, exr5, rfl⟩ := Z1Q ((Zm.mk zn r4.2 z7 (IntKind.i64.wrap (zh + 1)) zj (Zl.mk z2 z6))) zp zd zy r5 hr5
    refine zc [0] (iv r5) [(Zk (Zm.mk zn r4.2 z7 (IntKind.i64.wrap (zh + 1)) zj (Zl.mk z2 z6)) zp zd), (Zq (Z3.mk z19 z1L z1J z1c z1p z1q z2c) zD zB)] er5 ?_
    refine zo (bv (r5 == 63)) ?_
    refine za ((r5 == 63)) ?_ ?_
    ·refine ze ?_
     refine zi fun r6 hr6 => ?_
     obtain ⟨qr6, er6, exr6, rfl⟩ := ZX (20) (x1) (zn) (r4.2) (z7) ((IntKind.i64.wrap (zh + 1))) (zj) (z2) (z6) zp zd zy r6 hr6
     refine zc [0] (.p (.tup [])) [(Zk (Zm.mk zn r6.1 z7 (IntKind.i64.wrap (zh + 1)) zj (Zl.mk r6.2.1 r6.2.2)) zp zd), (Zq (Z3.mk z19 z1L z1J z1c z1p z1q z2c) zD zB)] er6 ?_
     exact zk (Z2D (x1) (zn) (r6.1) (z7) ((IntKind.i64.wrap (zh + 1))) (zj) (r6.2.1) (r6.2.2) (z19) (z1L) (z1J) (z1c) (z1p) (z1q) (z2c) zp zd zD zB zy zR zL)
    ·refine ze ?_
     refine zo (.ptr 0 0) ?_
     refine zo (.ptr 0 2) ?_
     refine zo (iv z7) ?_
     refine zo (bv (z7 == 9)) ?_
     refine za ((z7 == 9)) ?_ ?_
     ·refine ze ?_
      refine zi fun r7 hr7 => ?_
      obtain ⟨qr7, er7, exr7, rfl⟩ := ZX (24) (x1) (zn) (r4.2) (z7) ((IntKind.i64.wrap (zh + 1))) (zj) (z2) (z6) zp zd zy r7 hr7
      refine zc [0] (.p (.tup [])) [(Zk (Zm.mk zn r7.1 z7 (IntKind.i64.wrap (zh + 1)) zj (Zl.mk r7.2.1 r7.2.2)) zp zd), (Zq (Z3.mk z19 z1L z1J z1c z1p z1q z2c) zD zB)] er7 ?_
      exact zk (Z2D (x1) (zn) (r7.1) (z7) ((IntKind.i64.wrap (zh + 1))) (zj) (r7.2.1) (r7.2.2) (z19) (z1L) (z1J) (z1c) (z1p) (z1q) (z2c) zp zd zD zB zy zR zL)
     ·refine ze ?_
      refine zo (.ptr 0 0) ?_
      refine zo (.ptr 0 2) ?_
      refine zo (iv z7) ?_
      refine zo (iv (IntKind.i64.wrap (z7 + 1))) ?_
      refine zo (.ptr 0 0) ?_
      refine zo (.ptr 0 2) ?_
      refine zt [(Zk (Zm.mk zn r4.2 (IntKind.i64.wrap (z7 + 1)) (IntKind.i64.wrap (zh + 1)) zj (Zl.mk z2 z6)) zp zd), (Zq (Z3.mk z19 z1L z1J z1c z1p z1q z2c) zD zB)] ?_
      refine ze ?_
      refine zo (.ptr 0 0) ?_
      refine zo (.ptr 0 2) ?_
      refine zo (iv (IntKind.i64.wrap (z7 + 1))) ?_
      refine zo (.p (.agg (ZC (Z3.mk 5 0 0 0 (IntKind.i64.wrap (z7 + 1)) ([] : List Z8) ([] : List Z3)) .nl .nl))) ?_
      refine zt [(Zk (Zm.mk zn r4.2 (IntKind.i64.wrap (z7 + 1)) (IntKind.i64.wrap (zh + 1)) zj (Zl.mk z2 z6)) zp zd), (Zq (Z3.mk 5 0 0 0 (IntKind.i64.wrap (z7 + 1)) ([] : List Z8) ([] : List Z3)) .nl .nl)] ?_
      exact zk (Z2D (x1) (zn) (r4.2) ((IntKind.i64.wrap (z7 + 1))) ((IntKind.i64.wrap (zh + 1))) (zj) (z2) (z6) (5) (0) (0) (0) ((IntKind.i64.wrap (z7 + 1))) (([] : List Z8)) (([] : List Z3)) zp zd .nl .nl zy rfl rfl)
noncomputable def Z44 (x1 : Int) (zn : List Int) (zu : Int) (z7 : Int) (zh : Int) (zj : List Zv) (z2 : Int) (z6 : Int) : Option (Z3 × Bool × Int × Int × Int × (List Zv) × Int × Int) :=
 if ((zh == 32)) = true then
 ((ZU 25 x1 zn z2 z6).bind fun r1 =>
 some ((Z3.mk 0 0 0 0 0 ([] : List Z8) ([] : List Z3)), true, r1.1, z7, zh, zj, r1.2.1, r1.2.2))
 else
 (Z4a x1 zn zu z7 zh zj z2 z6 0 0 0 0 0 (([] : List Z8)))
theorem ZaR (x1 : Int) (zn : List Int) (zu : Int) (z7 : Int) (zh : Int) (zj : List Zv) (z2 : Int) (z6 : Int) (zp : Own) (zd : Own) (zy : okApp zd = true) : Sim (Z2k zn zp) (Z44 x1 zn zu z7 zh zj z2 z6) (EE 51 [(.ptr 0 0), (iv x1)] [(Zk (Zm.mk zn zu z7 zh zj (Zl.mk z2 z6)) zp zd)]) := by
 unfold Z44
 refine zf (ZjZ ..) ?_
 refine ze ?_
 refine zz (.ptr 1 0) [(Zk (Zm.mk zn zu z7 zh zj (Zl.mk z2 z6)) zp zd), (Zq (Z3.mk 0 0 0 0 0 ([] : List Z8) ([] : List Z3)) .nl .nl)] ?_
 refine ze ?_
 refine zo (.ptr 0 0) ?_
 refine zo (.ptr 0 3) ?_
 refine zo (iv zh) ?_
 refine zo (bv (zh == 32)) ?_
 refine za ((zh == 32)) ?_ ?_
 ·refine ze ?_
  refine zi fun r1 hr1 => ?_
  obtain ⟨qr1, er1, exr1, rfl⟩ := ZX (25) (x1) (zn) (zu) (z7) (zh) (zj) (z2) (z6) zp zd zy r1 hr1
  refine zc [0] (.p (.tup [])) [(Zk (Zm.mk zn r1.1 z7 zh zj (Zl.mk r1.2.1 r1.2.2)) zp zd), (Zq (Z3.mk 0 0 0 0 0 ([] : List Z8) ([] : List Z3)) .nl .nl)] er1 ?_
  refine ze ?_
  refine zo (.p (.agg (ZC (Z3.mk 0 0 0 0 0 ([] : List Z8) ([] : List Z3)) .nl .nl))) ?_
  refine zt [(Zk (Zm.mk zn r1.1 z7 zh zj (Zl.mk r1.2.1 r1.2.2)) zp zd), (Zq (Z3.mk 0 0 0 0 0 ([] : List Z8) ([] : List Z3)) .nl .nl)] ?_
  exact zr ((.p (.tup [(.agg (ZC (Z3.mk 0 0 0 0 0 ([] : List Z8) ([] : List Z3)) .sh .sh)), (.v (.bool true))])), [(Zk (Zm.mk zn r1.1 z7 zh zj (Zl.mk r1.2.1 r1.2.2)) zp zd), (Zq (Z3.mk 0 0 0 0 0 ([] : List Z8) ([] : List Z3)) .nl .nl)]) ⟨zd, _, zy, rfl⟩
 ·exact zk (Z9V (x1) (zn) (zu) (z7) (zh) (zj) (z2) (z6) (0) (0) (0) (0) (0) (([] : List Z8)) (([] : List Z3)) zp zd .nl .nl zy rfl rfl)
theorem Z6i (x1 : Int) (zn : List Int) (zu : Int) (z7 : Int) (zh : Int) (zj : List Zv) (z2 : Int) (z6 : Int) {r} (h : Z44 x1 zn zu z7 zh zj z2 z6 = some r) : Z3l x1 zn zu z7 zh zj z2 z6 = some r :=
 pick_of (fun _ _ ha hb => RRun.uniq (Zbw _ _) (ha .ex .ex rfl) (hb .ex .ex rfl)) (fun zp zd zy => ZaR x1 zn zu z7 zh zj z2 z6 zp zd zy r h)
noncomputable def Zaf  : Option ((List ByteArray)) :=
 some (([(ByteArray.mk #[63, 61]), (ByteArray.mk #[63, 33]), (ByteArray.mk #[63, 60, 61]), (ByteArray.mk #[63, 60, 33])] : List ByteArray))
theorem ZdG  : Sim (Z77) (Zaf) (EE 62 [] []) := by
 unfold Zaf
 refine zf (Zlb ..) ?_
 refine ze ?_
 refine ze ?_
 refine zo (.p (.lst .ex (([(ByteArray.mk #[63, 61]), (ByteArray.mk #[63, 33]), (ByteArray.mk #[63, 60, 61]), (ByteArray.mk #[63, 60, 33])] : List ByteArray).map eS))) ?_
 exact zr ((.p (.lst .sh (([(ByteArray.mk #[63, 61]), (ByteArray.mk #[63, 33]), (ByteArray.mk #[63, 60, 61]), (ByteArray.mk #[63, 60, 33])] : List ByteArray).map eS))), []) ⟨_, rfl⟩
theorem ZdK  {r} (h : Zaf = some r) : Z8G = some r :=
 pick_of (fun _ _ ha hb => RRun.uniq (Zed) (ha ) (hb )) (ZdG  r h)
noncomputable def Z3P (x0 : List ByteArray) (zn : List Int) (zu : Int) : Option (Int × Int) :=
 Z1y x0 ((x0.length : Int)) 0 zn zu
theorem Z8u (x0 : List ByteArray) (zn : List Int) (zu : Int) (z7 : Int) (zh : Int) (zj : List Zv) (z2 : Int) (z6 : Int) (ox0 : Own) (zp : Own) (zd : Own) (zy : okApp zd = true) : Sim (Z1o zn z7 zh zj z2 z6 zp zd) (Z3P x0 zn zu) (EE 61 [(.p (.lst ox0 (x0.map eS))), (.clo 27 [(.ptr 0 0)] [])] [(Zk (Zm.mk zn zu z7 zh zj (Zl.mk z2 z6)) zp zd)]) := by
 unfold Z3P
 refine zf (Zjz ..) ?_
 refine ze ?_
 refine ze ?_
 refine zo (iv (x0.length : Int)) ?_ (Eq.trans (by kernel_rfl) (xlen_of (P := PP) (t := 43) (d := 9) (by kernel_rfl) eS (shrO ox0) x0))
 exact zk (Z5A (x0) ((x0.length : Int)) (0) (zn) (zu) (z7) (zh) (zj) (z2) (z6) ox0 zp zd zy)
theorem Z8V (x0 : List ByteArray) (zn : List Int) (zu : Int) {r} (h : Z3P x0 zn zu = some r) : Z3R x0 zn zu = some r :=
 pick_of (fun _ _ ha hb => RRun.uniq (Z6h _ _ _ _ _ _ _ _) (ha default default default default default .ex .ex .ex rfl) (hb default default default default default .ex .ex .ex rfl)) (fun z7 zh zj z2 z6 ox0 zp zd zy => Z8u x0 zn zu z7 zh zj z2 z6 ox0 zp zd zy r h)
noncomputable def Z3i (x0 : List ByteArray) (x7 : Int) (x8 : Int) (zn : List Int) (zu : Int) : Option (Int × Int) :=
 Z1y x0 x7 ((IntKind.i64.wrap (x8 + 1))) zn zu
theorem Z7w (x0 : List ByteArray) (x7 : Int) (x8 : Int) (zn : List Int) (zu : Int) (z7 : Int) (zh : Int) (zj : List Zv) (z2 : Int) (z6 : Int) (ox0 : Own) (zp : Own) (zd : Own) (zy : okApp zd = true) : Sim (Z1o zn z7 zh zj z2 z6 zp zd) (Z3i x0 x7 x8 zn zu) (Zgi 1 (.p (.lst ox0 (x0.map eS))) (.clo 27 [(.ptr 0 0)] []) (iv x7) (iv x8) [(Zk (Zm.mk zn zu z7 zh zj (Zl.mk z2 z6)) zp zd)]) := by
 unfold Z3i
 refine zf (ZhU ..) ?_
 refine ze ?_
 refine zo (iv (IntKind.i64.wrap (x8 + 1))) ?_
 exact zk (Z5A (x0) (x7) ((IntKind.i64.wrap (x8 + 1))) (zn) (zu) (z7) (zh) (zj) (z2) (z6) ox0 zp zd zy)
noncomputable def Z2F (x0 : List ByteArray) (x7 : Int) (x8 : Int) (zn : List Int) (zu : Int) : Option (Int × Int) :=
 (lget x0 x8).bind fun a1 =>
 (Z18 a1 zn zu).bind fun r2 =>
 if (r2.1) = true then
 (some (x8, r2.2))
 else
 (Z3i x0 x7 x8 zn r2.2)
theorem Z7x (x0 : List ByteArray) (x7 : Int) (x8 : Int) (zn : List Int) (zu : Int) (z7 : Int) (zh : Int) (zj : List Zv) (z2 : Int) (z6 : Int) (ox0 : Own) (zp : Own) (zd : Own) (zy : okApp zd = true) : Sim (Z1o zn z7 zh zj z2 z6 zp zd) (Z2F x0 x7 x8 zn zu) (ZfM 1 (.p (.lst ox0 (x0.map eS))) (.clo 27 [(.ptr 0 0)] []) (iv x7) (iv x8) [(Zk (Zm.mk zn zu z7 zh zj (Zl.mk z2 z6)) zp zd)]) := by
 unfold Z2F
 refine zf (Zj7 ..) ?_
 refine ze ?_
 refine ze ?_
 refine zi fun a1 ha1 => ?_
 refine zo (.cptr [(.v (.string a1))]) ?_ (Eq.trans (by kernel_rfl) (xidx_of (o := (shrO ox0)) (k := .i64) (n := 1) (e := eS) (cs := (fun a => [eS a])) (fun _ => rfl) (fun _ => rfl) (by decide) ha1))
 refine zo (.p (.v (.string a1))) ?_
 refine zi fun r2 hr2 => ?_
 obtain ⟨qr2, er2, exr2, rfl⟩ := Z1d (a1) (zn) (zu) (z7) (zh) (zj) (z2) (z6) zp zd zy r2 hr2
 refine zv [0] (bv r2.1) [(Zk (Zm.mk zn r2.2 z7 zh zj (Zl.mk z2 z6)) zp zd)] er2 ?_
 refine za (r2.1) ?_ ?_
 ·refine ze ?_
  exact zr ((iv x8), [(Zk (Zm.mk zn r2.2 z7 zh zj (Zl.mk z2 z6)) zp zd)]) ⟨_, rfl⟩
 ·exact zk (Z7w (x0) (x7) (x8) (zn) (r2.2) (z7) (zh) (zj) (z2) (z6) ox0 zp zd zy)
noncomputable def Z4t (zu : Int) : Option (Int × Int) :=
 some ((-1), zu)
theorem Z7E (zn : List Int) (zu : Int) (z7 : Int) (zh : Int) (zj : List Zv) (z2 : Int) (z6 : Int) (zp : Own) (zd : Own) (zy : okApp zd = true) : Sim (Z1o zn z7 zh zj z2 z6 zp zd) (Z4t zu) (ZfI 1  [(Zk (Zm.mk zn zu z7 zh zj (Zl.mk z2 z6)) zp zd)]) := by
 unfold Z4t
 refine zf (Zjg ..) ?_
 refine ze ?_
 exact zr ((iv (-1)), [(Zk (Zm.mk zn zu z7 zh zj (Zl.mk z2 z6)) zp zd)]) ⟨_, rfl⟩
noncomputable def Z2j (x0 : List ByteArray) (x7 : Int) (x8 : Int) (zn : List Int) (zu : Int) : Option (Int × Int) :=
 if ((decide (x8 < x7))) = true then
 (Z2F x0 x7 x8 zn zu)
 else
 (Z4t zu)
theorem Z7q (x0 : List ByteArray) (x7 : Int) (x8 : Int) (zn : List Int) (zu : Int) (z7 : Int) (zh : Int) (zj : List Zv) (z2 : Int) (z6 : Int) (ox0 : Own) (zp : Own) (zd : Own) (zy : okApp zd = true) : Sim (Z1o zn z7 zh zj z2 z6 zp zd) (Z2j x0 x7 x8 zn zu) (ZbO 1 (.p (.lst ox0 (x0.map eS))) (.clo 27 [(.ptr 0 0)] []) (iv x7) (iv x8) [(Zk (Zm.mk zn zu z7 zh zj (Zl.mk z2 z6)) zp zd)]) := by
 unfold Z2j
 refine zf (ZhT ..) ?_
 refine ze ?_
 refine zo (bv (decide (x8 < x7))) ?_
 refine za ((decide (x8 < x7))) ?_ ?_
 ·exact zk (Z7x (x0) (x7) (x8) (zn) (zu) (z7) (zh) (zj) (z2) (z6) ox0 zp zd zy)
 ·exact zk (Z7E (zn) (zu) (z7) (zh) (zj) (z2) (z6) zp zd zy)
theorem Z3X (x0 : List ByteArray) (x7 : Int) (x8 : Int) (zn : List Int) (zu : Int) {r} (h : Z2j x0 x7 x8 zn zu = some r) : Z1y x0 x7 x8 zn zu = some r :=
 pick_of (fun _ _ ha hb => RRun.uniq (Z6h _ _ _ _ _ _ _ _) (ha default default default default default .ex .ex .ex rfl) (hb default default default default default .ex .ex .ex rfl)) (fun z7 zh zj z2 z6 ox0 zp zd zy => Z7q x0 x7 x8 zn zu z7 zh zj z2 z6 ox0 zp zd zy r h)
noncomputable def Z35 (zu : Int) (z2 : Int) (z6 : Int) (z2a : Int) (z37 : Int) (z36 : Int) (z2C : Int) (z2u : Int) (z2v : List Z8) (z29 : List Z3) : Option (Z3 × Int × Int × Int) :=
 some ((Z3.mk z2a z37 z36 z2C z2u z2v z29), zu, z2, z6)
theorem Z56 (zn : List Int) (zu : Int) (z7 : Int) (zh : Int) (zj : List Zv) (z2 : Int) (z6 : Int) (b1 : Z3) (b2 : Z3) (z2a : Int) (z37 : Int) (z36 : Int) (z2C : Int) (z2u : Int) (z2v : List Z8) (z29 : List Z3) (zp : Own) (zd : Own) (zD : Own) (zB : Own) (z1O : Own) (z1B : Own) (z3a : Own) (z2I : Own) (zy : okApp zd = true) (z8L : okApp z1O = true) (z7A : okApp z1B = true) (z8O : okApp z3a = true) (z7u : okApp z2I = true) : Sim (Z2L zn z7 zh zj zp zd) (Z35 zu z2 z6 z2a z37 z36 z2C z2u z2v z29) (ZbU 1 (.ptr 2 0) (.ptr 3 0) [(Zk (Zm.mk zn zu z7 zh zj (Zl.mk z2 z6)) zp zd), (Zq b1 zD zB), (Zq b2 z1O z1B), (Zq (Z3.mk z2a z37 z36 z2C z2u z2v z29) z3a z2I)]) := by
 unfold Z35
 refine zf (Zhb ..) ?_
 refine ze ?_
 refine zo (.p (.agg (ZC (Z3.mk z2a z37 z36 z2C z2u z2v z29) (shrO z3a) (shrO z2I)))) ?_
 refine zt [(Zk (Zm.mk zn zu z7 zh zj (Zl.mk z2 z6)) zp zd), (Zq b1 zD zB), (Zq (Z3.mk z2a z37 z36 z2C z2u z2v z29) (shrO z3a) (shrO z2I)), (Zq (Z3.mk z2a z37 z36 z2C z2u z2v z29) z3a z2I)] ?_
 exact zr ((.p (.agg (ZC (Z3.mk z2a z37 z36 z2C z2u z2v z29) .sh .sh))), [(Zk (Zm.mk zn zu z7 zh zj (Zl.mk z2 z6)) zp zd), (Zq b1 zD zB), (Zq (Z3.mk z2a z37 z36 z2C z2u z2v z29) (shrO z3a) (shrO z2I)), (Zq (Z3.mk z2a z37 z36 z2C z2u z2v z29) z3a z2I)]) ⟨_, rfl⟩
noncomputable def Z2w (zn : List Int) (zu : Int) (z2 : Int) (z6 : Int) (z2a : Int) (z37 : Int) (z36 : Int) (z2C : Int) (z2u : Int) (z2v : List Z8) (z29 : List Z3) : Option (Z3 × Int × Int × Int) :=
 (Z18 ((ByteArray.mk #[63])) zn zu).bind fun r1 =>
 if (r1.1) = true then
 (Z35 r1.2 z2 z6 z2a z37 z36 1 z2u z2v z29)
 else
 ((Z18 ((ByteArray.mk #[43])) zn r1.2).bind fun r2 =>
 if (r2.1) = true then
 (Z35 r2.2 z2 z6 z2a z37 z36 2 z2u z2v z29)
 else
 (Z35 r2.2 z2 z6 z2a z37 z36 z2C z2u z2v z29))
theorem Z6z (zn : List Int) (zu : Int) (z7 : Int) (zh : Int) (zj : List Zv) (z2 : Int) (z6 : Int) (b1 : Z3) (b2 : Z3) (z2a : Int) (z37 : Int) (z36 : Int) (z2C : Int) (z2u : Int) (z2v : List Z8) (z29 : List Z3) (zp : Own) (zd : Own) (zD : Own) (zB : Own) (z1O : Own) (z1B : Own) (z3a : Own) (z2I : Own) (zy : okApp zd = true) (z8L : okApp z1O = true) (z7A : okApp z1B = true) (z8O : okApp z3a = true) (z7u : okApp z2I = true) : Sim (Z2L zn z7 zh zj zp zd) (Z2w zn zu z2 z6 z2a z37 z36 z2C z2u z2v z29) (Zdl 1 (.ptr 0 0) (.ptr 2 0) (.ptr 3 0) [(Zk (Zm.mk zn zu z7 zh zj (Zl.mk z2 z6)) zp zd), (Zq b1 zD zB), (Zq b2 z1O z1B), (Zq (Z3.mk z2a z37 z36 z2C z2u z2v z29) z3a z2I)]) := by
 unfold Z2w
 refine zf (Zhy ..) ?_
 refine ze ?_
 refine zi fun r1 hr1 => ?_
 obtain ⟨qr1, er1, exr1, rfl⟩ := Z1d ((ByteArray.mk #[63])) (zn) (zu) (z7) (zh) (zj) (z2) (z6) zp zd zy r1 hr1
 refine zc [0] (bv r1.1) [(Zk (Zm.mk zn r1.2 z7 zh zj (Zl.mk z2 z6)) zp zd), (Zq b1 zD zB), (Zq b2 z1O z1B), (Zq (Z3.mk z2a z37 z36 z2C z2u z2v z29) z3a z2I)] er1 ?_
 refine za (r1.1) ?_ ?_
 ·refine ze ?_
  refine zo (.ptr 3 3) ?_
  refine zt [(Zk (Zm.mk zn r1.2 z7 zh zj (Zl.mk z2 z6)) zp zd), (Zq b1 zD zB), (Zq b2 z1O z1B), (Zq (Z3.mk z2a z37 z36 1 z2u z2v z29) z3a z2I)] ?_
  exact zk (Z56 (zn) (r1.2) (z7) (zh) (zj) (z2) (z6) (b1) (b2) (z2a) (z37) (z36) (1) (z2u) (z2v) (z29) zp zd zD zB z1O z1B z3a z2I zy z8L z7A z8O z7u)
 ·refine ze ?_
  refine zi fun r2 hr2 => ?_
  obtain ⟨qr2, er2, exr2, rfl⟩ := Z1d ((ByteArray.mk #[43])) (zn) (r1.2) (z7) (zh) (zj) (z2) (z6) zp zd zy r2 hr2
  refine zc [0] (bv r2.1) [(Zk (Zm.mk zn r2.2 z7 zh zj (Zl.mk z2 z6)) zp zd), (Zq b1 zD zB), (Zq b2 z1O z1B), (Zq (Z3.mk z2a z37 z36 z2C z2u z2v z29) z3a z2I)] er2 ?_
  refine za (r2.1) ?_ ?_
  ·refine ze ?_
   refine zo (.ptr 3 3) ?_
   refine zt [(Zk (Zm.mk zn r2.2 z7 zh zj (Zl.mk z2 z6)) zp zd), (Zq b1 zD zB), (Zq b2 z1O z1B), (Zq (Z3.mk z2a z37 z36 2 z2u z2v z29) z3a z2I)] ?_
   exact zk (Z56 (zn) (r2.2) (z7) (zh) (zj) (z2) (z6) (b1) (b2) (z2a) (z37) (z36) (2) (z2u) (z2v) (z29) zp zd zD zB z1O z1B z3a z2I zy z8L z7A z8O z7u)
  ·exact zk (Z56 (zn) (r2.2) (z7) (zh) (zj) (z2) (z6) (b1) (b2) (z2a) (z37) (z36) (z2C) (z2u) (z2v) (z29) zp zd zD zB z1O z1B z3a z2I zy z8L z7A z8O z7u)
noncomputable def Z20 (x2 : Bool) (x7 : Int) (zn : List Int) (zu : Int) (z2 : Int) (z6 : Int) (z2a : Int) (z37 : Int) (z36 : Int) (z2C : Int) (z2u : Int) (z2v : List Z8) (z29 : List Z3) : Option (Z3 × Int × Int × Int) :=
 if ((!x2)) = true then
 ((ZU 23 x7 zn z2 z6).bind fun r1 =>
 Z2w zn r1.1 r1.2.1 r1.2.2 z2a z37 z36 z2C z2u z2v z29)
 else
 (Z2w zn zu z2 z6 z2a z37 z36 z2C z2u z2v z29)
theorem Z3O (x2 : Bool) (x7 : Int) (zn : List Int) (zu : Int) (z7 : Int) (zh : Int) (zj : List Zv) (z2 : Int) (z6 : Int) (b1 : Z3) (b2 : Z3) (z2a : Int) (z37 : Int) (z36 : Int) (z2C : Int) (z2u : Int) (z2v : List Z8) (z29 : List Z3) (zp : Own) (zd : Own) (zD : Own) (zB : Own) (z1O : Own) (z1B : Own) (z3a : Own) (z2I : Own) (zy : okApp zd = true) (z8L : okApp z1O = true) (z7A : okApp z1B = true) (z8O : okApp z3a = true) (z7u : okApp z2I = true) : Sim (Z2L zn z7 zh zj zp zd) (Z20 x2 x7 zn zu z2 z6 z2a z37 z36 z2C z2u z2v z29) (ZaG 1 (.ptr 0 0) (bv x2) (.ptr 2 0) (iv x7) (.ptr 3 0) [(Zk (Zm.mk zn zu z7 zh zj (Zl.mk z2 z6)) zp zd), (Zq b1 zD zB), (Zq b2 z1O z1B), (Zq (Z3.mk z2a z37 z36 z2C z2u z2v z29) z3a z2I)]) := by
 unfold Z20
 refine zf (Zhs ..) ?_
 refine ze ?_
 refine zo (bv (!x2)) ?_
 refine za ((!x2)) ?_ ?_
 ·refine ze ?_
  refine zi fun r1 hr1 => ?_
  obtain ⟨qr1, er1, exr1, rfl⟩ := ZX (23) (x7) (zn) (zu) (z7) (zh) (zj) (z2) (z6) zp zd zy r1 hr1
  refine zc [0] (.p (.tup [])) [(Zk (Zm.mk zn r1.1 z7 zh zj (Zl.mk r1.2.1 r1.2.2)) zp zd), (Zq b1 zD zB), (Zq b2 z1O z1B), (Zq (Z3.mk z2a z37 z36 z2C z2u z2v z29) z3a z2I)] er1 ?_
  exact zk (Z6z (zn) (r1.1) (z7) (zh) (zj) (r1.2.1) (r1.2.2) (b1) (b2) (z2a) (z37) (z36) (z2C) (z2u) (z2v) (z29) zp zd zD zB z1O z1B z3a z2I zy z8L z7A z8O z7u)
 ·exact zk (Z6z (zn) (zu) (z7) (zh) (zj) (z2) (z6) (b1) (b2) (z2a) (z37) (z36) (z2C) (z2u) (z2v) (z29) zp zd zD zB z1O z1B z3a z2I zy z8L z7A z8O z7u)
noncomputable def Z3K (x1 : Z3) (x2 : Bool) (zn : List Int) (zu : Int) (z7 : Int) (zh : Int) (zj : List Zv) (z2 : Int) (z6 : Int) : Option (Z3 × Int × Int × Int) :=
 (Z18 ((ByteArray.mk #[42])) zn zu).bind fun r1 =>
 if (r1.1) = true then
 (Z20 x2 zu zn r1.2 z2 z6 4 0 ((-1)) 0 0 (([] : List Z8)) (([x1] : List Z3)))
 else
 ((Z18 ((ByteArray.mk #[43])) zn r1.2).bind fun r2 =>
 if (r2.1) = true then
 (Z20 x2 zu zn r2.2 z2 z6 4 1 ((-1)) 0 0 (([] : List Z8)) (([x1] : List Z3)))
 else
 ((Z18 ((ByteArray.mk #[63])) zn r2.2).bind fun r3 =>
 if (r3.1) = true then
 (Z20 x2 zu zn r3.2 z2 z6 4 0 1 0 0 (([] : List Z8)) (([x1] : List Z3)))
 else
 ((Z18 ((ByteArray.mk #[123])) zn r3.2).bind fun r4 =>
 if (r4.1) = true then
 ((Z4u zu zn r4.2 z7 zh zj z2 z6).bind fun r5 =>
 Z20 x2 zu zn r5.2.2.1 r5.2.2.2.1 r5.2.2.2.2 4 r5.1 r5.2.1 0 0 (([] : List Z8)) (([x1] : List Z3)))
 else
 (some (x1, r4.2, z2, z6)))))
theorem ZaD (x1 : Z3) (x2 : Bool) (zn : List Int) (zu : Int) (z7 : Int) (zh : Int) (zj : List Zv) (z2 : Int) (z6 : Int) (z2i : Own) (z1U : Own) (zp : Own) (zd : Own) (zy : okApp zd = true) : Sim (Z2L zn z7 zh zj zp zd) (Z3K x1 x2 zn zu z7 zh zj z2 z6) (EE 43 [(.ptr 0 0), (.p (.agg (ZC x1 z2i z1U))), (bv x2)] [(Zk (Zm.mk zn zu z7 zh zj (Zl.mk z2 z6)) zp zd)]) := by
 unfold Z3K
 refine zf (Zkt ..) ?_
 refine ze ?_
 refine zx (.ptr 1 0) [(Zk (Zm.mk zn zu z7 zh zj (Zl.mk z2 z6)) zp zd), (Zq x1 z2i z1U)] ?_
 refine zz (.ptr 2 0) [(Zk (Zm.mk zn zu z7 zh zj (Zl.mk z2 z6)) zp zd), (Zq x1 z2i z1U), (Zq (Z3.mk 0 0 0 0 0 ([] : List Z8) ([] : List Z3)) .nl .nl)] ?_
 refine ze ?_
 refine zo (.ptr 0 0) ?_
 refine zo (.ptr 0 1) ?_
 refine zo (iv zu) ?_
 refine ze ?_
 refine zo (.p (.agg (ZC x1 (shrO z2i) (shrO z1U)))) ?_
 refine zo (.p (.lst .ex (([x1] : List Z3).map ZG))) ?_ (Eq.trans (b := some (.p (.lst .ex [.agg (Z24 x1)]))) (by kernel_rfl) (by simp only [List.map_cons, List.map_nil, Z3j]))
 refine zo (.p (.agg (ZC (Z3.mk 4 0 (-1) 0 0 ([] : List Z8) ([x1] : List Z3)) .nl .ex))) ?_
 refine zz (.ptr 3 0) [(Zk (Zm.mk zn zu z7 zh zj (Zl.mk z2 z6)) zp zd), (Zq x1 z2i z1U), (Zq (Z3.mk 0 0 0 0 0 ([] : List Z8) ([] : List Z3)) .nl .nl), (Zq (Z3.mk 0 0 0 0 0 ([] : List Z8) ([] : List Z3)) .nl .nl)] ?_
 refine zt [(Zk (Zm.mk zn zu z7 zh zj (Zl.mk z2 z6)) zp zd), (Zq x1 z2i z1U), (Zq (Z3.mk 0 0 0 0 0 ([] : List Z8) ([] : List Z3)) .nl .nl), (Zq (Z3.mk 4 0 (-1) 0 0 ([] : List Z8) ([x1] : List Z3)) .nl .ex)] ?_
 refine ze ?_
 refine zi fun r1 hr1 => ?_
 obtain ⟨qr1, er1, exr1, rfl⟩ := Z1d ((ByteArray.mk #[42])) (zn) (zu) (z7) (zh) (zj) (z2) (z6) zp zd zy r1 hr1
 refine zc [0] (bv r1.1) [(Zk (Zm.mk zn r1.2 z7 zh zj (Zl.mk z2 z6)) zp zd), (Zq x1 z2i z1U), (Zq (Z3.mk 0 0 0 0 0 ([] : List Z8) ([] : List Z3)) .nl .nl), (Zq (Z3.mk 4 0 (-1) 0 0 ([] : List Z8) ([x1] : List Z3)) .nl .ex)] er1 ?_
 refine za (r1.1) ?_ ?_
 ·exact zk (Z3O (x2) (zu) (zn) (r1.2) (z7) (zh) (zj) (z2) (z6) (x1) ((Z3.mk 0 0 0 0 0 ([] : List Z8) ([] : List Z3))) (4) (0) ((-1)) (0) (0) (([] : List Z8)) (([x1] : List Z3)) zp zd z2i z1U .nl .nl .nl .ex zy rfl rfl rfl rfl)
 ·refine ze ?_
  refine zi fun r2 hr2 => ?_
  obtain ⟨qr2, er2, exr2, rfl⟩ := Z1d ((ByteArray.mk #[43])) (zn) (r1.2) (z7) (zh) (zj) (z2) (z6) zp zd zy r2 hr2
  refine zc [0] (bv r2.1) [(Zk (Zm.mk zn r2.2 z7 zh zj (Zl.mk z2 z6)) zp zd), (Zq x1 z2i z1U), (Zq (Z3.mk 0 0 0 0 0 ([] : List Z8) ([] : List Z3)) .nl .nl), (Zq (Z3.mk 4 0 (-1) 0 0 ([] : List Z8) ([x1] : List Z3)) .nl .ex)] er2 ?_
  refine za (r2.1) ?_ ?_
  ·refine ze ?_
   refine zo (.ptr 3 1) ?_
   refine zt [(Zk (Zm.mk zn r2.2 z7 zh zj (Zl.mk z2 z6)) zp zd), (Zq x1 z2i z1U), (Zq (Z3.mk 0 0 0 0 0 ([] : List Z8) ([] : List Z3)) .nl .nl), (Zq (Z3.mk 4 1 (-1) 0 0 ([] : List Z8) ([x1] : List Z3)) .nl .ex)] ?_
   exact zk (Z3O (x2) (zu) (zn) (r2.2) (z7) (zh) (zj) (z2) (z6) (x1) ((Z3.mk 0 0 0 0 0 ([] : List Z8) ([] : List Z3))) (4) (1) ((-1)) (0) (0) (([] : List Z8)) (([x1] : List Z3)) zp zd z2i z1U .nl .nl .nl .ex zy rfl rfl rfl rfl)
  ·refine ze ?_
   refine zi fun r3 hr3 => ?_
   obtain ⟨qr3, er3, exr3, rfl⟩ := Z1d ((ByteArray.mk #[63])) (zn) (r2.2) (z7) (zh) (zj) (z2) (z6) zp zd zy r3 hr3
   refine zc [0] (bv r3.1) [(Zk (Zm.mk zn r3.2 z7 zh zj (Zl.mk z2 z6)) zp zd), (Zq x1 z2i z1U), (Zq (Z3.mk 0 0 0 0 0 ([] : List Z8) ([] : List Z3)) .nl .nl), (Zq (Z3.mk 4 0 (-1) 0 0 ([] : List Z8) ([x1] : List Z3)) .nl .ex)] er3 ?_
   refine za (r3.1) ?_ ?_
   ·refine ze ?_
    refine zo (.ptr 3 2) ?_
    refine zt [(Zk (Zm.mk zn r3.2 z7 zh zj (Zl.mk z2 z6)) zp zd), (Zq x1 z2i z1U), (Zq (Z3.mk 0 0 0 0 0 ([] : List Z8) ([] : List Z3)) .nl .nl), (Zq (Z3.mk 4 0 1 0 0 ([] : List Z8) ([x1] : List Z3)) .nl .ex)] ?_
    exact zk (Z3O (x2) (zu) (zn) (r3.2) (z7) (zh) (zj) (z2) (z6) (x1) ((Z3.mk 0 0 0 0 0 ([] : List Z8) ([] : List Z3))) (4) (0) (1) (0) (0) (([] : List Z8)) (([x1] : List Z3)) zp zd z2i z1U .nl .nl .nl .ex zy rfl rfl rfl rfl)
   ·refine ze ?_
    refine zi fun r4 hr4 => ?_
    obtain ⟨qr4, er4, exr4, rfl⟩ := Z1d ((ByteArray.mk #[123])) (zn) (r3.2) (z7) (zh) (zj) (z2) (z6) zp zd zy r4 hr4
    refine zc [0] (bv r4.1) [(Zk (Zm.mk zn r4.2 z7 zh zj (Zl.mk z2 z6)) zp zd), (Zq x1 z2i z1U), (Zq (Z3.mk 0 0 0 0 0 ([] : List Z8) ([] : List Z3)) .nl .nl), (Zq (Z3.mk 4 0 (-1) 0 0 ([] : List Z8) ([x1] : List Z3)) .nl .ex)] er4 ?_
    refine za (r4.1) ?_ ?_
    ·refine ze ?_
     refine zi fun r5 hr5 => ?_
     obtain ⟨qr5, er5, exr5, rfl⟩ := Zb0 (zu) (zn) (r4.2) (z7) (zh) (zj) (z2) (z6) zp zd zy r5 hr5
     refine zc [0] (.p (.tup [(.v (.int .i64 r5.1)), (.v (.int .i64 r5.2.1))])) [(Zk (Zm.mk zn r5.2.2.1 z7 zh zj (Zl.mk r5.2.2.2.1 r5.2.2.2.2)) zp zd), (Zq x1 z2i z1U), (Zq (Z3.mk 0 0 0 0 0 ([] : List Z8) ([] : List Z3)) .nl .nl), (Zq (Z3.mk 4 0 (-1) 0 0 ([] : List Z8) ([x1] : List Z3)) .nl .ex)] er5 ?_
     refine zo (iv r5.1) ?_
     refine zo (iv r5.2.1) ?_
     refine zo (.ptr 3 1) ?_
     refine zt [(Zk (Zm.mk zn r5.2.2.1 z7 zh zj (Zl.mk r5.2.2.2.1 r5.2.2.2.2)) zp zd), (Zq x1 z2i z1U), (Zq (Z3.mk 0 0 0 0 0 ([] : List Z8) ([] : List Z3)) .nl .nl), (Zq (Z3.mk 4 r5.1 (-1) 0 0 ([] : List Z8) ([x1] : List Z3)) .nl .ex)] ?_
     refine zo (.ptr 3 2) ?_
     refine zt [(Zk (Zm.mk zn r5.2.2.1 z7 zh zj (Zl.mk r5.2.2.2.1 r5.2.2.2.2)) zp zd), (Zq x1 z2i z1U), (Zq (Z3.mk 0 0 0 0 0 ([] : List Z8) ([] : List Z3)) .nl .nl), (Zq (Z3.mk 4 r5.1 r5.2.1 0 0 ([] : List Z8) ([x1] : List Z3)) .nl .ex)] ?_
     exact zk (Z3O (x2) (zu) (zn) (r5.2.2.1) (z7) (zh) (zj) (r5.2.2.2.1) (r5.2.2.2.2) (x1) ((Z3.mk 0 0 0 0 0 ([] : List Z8) ([] : List Z3))) (4) (r5.1) (r5.2.1) (0) (0) (([] : List Z8)) (([x1] : List Z3)) zp zd z2i z1U .nl .nl .nl .ex zy rfl rfl rfl rfl)
    ·refine ze ?_
     refine zo (.p (.agg (ZC x1 (shrO z2i) (shrO z1U)))) ?_
     refine zt [(Zk (Zm.mk zn r4.2 z7 zh zj (Zl.mk z2 z6)) zp zd), (Zq x1 z2i z1U), (Zq x1 (shrO z2i) (shrO z1U)), (Zq (Z3.mk 4 0 (-1) 0 0 ([] : List Z8) ([x1] : List Z3)) .nl .ex)] ?_
     exact zr ((.p (.agg (ZC x1 .sh .sh))), [(Zk (Zm.mk zn r4.2 z7 zh zj (Zl.mk z2 z6)) zp zd), (Zq x1 z2i z1U), (Zq x1 (shrO z2i) (shrO z1U)), (Zq (Z3.mk 4 0 (-1) 0 0 ([] : List Z8) ([x1] : List Z3)) .nl .ex)]) ⟨_, rfl⟩
theorem Z7C (x1 : Z3) (x2 : Bool) (zn : List Int) (zu : Int) (z7 : Int) (zh : Int) (zj : List Zv) (z2 : Int) (z6 : Int) {r} (h : Z3K x1 x2 zn zu z7 zh zj z2 z6 = some r) : Z4w x1 x2 zn zu z7 zh zj z2 z6 = some r :=
 pick_of (fun _ _ ha hb => RRun.uniq (Zbm _ _ _ _ _ _) (ha .ex .ex .ex .ex rfl) (hb .ex .ex .ex .ex rfl)) (fun z2i z1U zp zd zy => ZaD x1 x2 zn zu z7 zh zj z2 z6 z2i z1U zp zd zy r h)
noncomputable def Z60 (x4 : Int) (zu : Int) (z2 : Int) (z6 : Int) : Option (Int × Int × Int × Int × Int) :=
 some (x4, (-1), zu, z2, z6)
theorem Z9B (x4 : Int) (zn : List Int) (zu : Int) (z7 : Int) (zh : Int) (zj : List Zv) (z2 : Int) (z6 : Int) (zp : Own) (zd : Own) (zy : okApp zd = true) : Sim (Z1Y zn z7 zh zj zp zd) (Z60 x4 zu z2 z6) (Zgm 1 (iv x4) [(Zk (Zm.mk zn zu z7 zh zj (Zl.mk z2 z6)) zp zd)]) := by
 unfold Z60
 refine zf (Zim ..) ?_
 refine ze ?_
 exact zr ((.p (.tup [(.v (.int .i64 x4)), (.v (.int .i64 (-1)))])), [(Zk (Zm.mk zn zu z7 zh zj (Zl.mk z2 z6)) zp zd)]) ⟨_, rfl⟩
noncomputable def Z4L (x4 : Int) (x5 : Int) (zu : Int) (z2 : Int) (z6 : Int) : Option (Int × Int × Int × Int × Int) :=
 some (x4, x5, zu, z2, z6)
theorem Z6y (x4 : Int) (x5 : Int) (zn : List Int) (zu : Int) (z7 : Int) (zh : Int) (zj : List Zv) (z2 : Int) (z6 : Int) (zp : Own) (zd : Own) (zy : okApp zd = true) : Sim (Z1Y zn z7 zh zj zp zd) (Z4L x4 x5 zu z2 z6) (Zds 1 (iv x4) (iv x5) [(Zk (Zm.mk zn zu z7 zh zj (Zl.mk z2 z6)) zp zd)]) := by
 unfold Z4L
 refine zf (Zh8 ..) ?_
 refine ze ?_
 exact zr ((.p (.tup [(.v (.int .i64 x4)), (.v (.int .i64 x5))])), [(Zk (Zm.mk zn zu z7 zh zj (Zl.mk z2 z6)) zp zd)]) ⟨_, rfl⟩
noncomputable def Z2g (x1 : Int) (x4 : Int) (x5 : Int) (zn : List Int) (z2 : Int) (z6 : Int) : Option (Int × Int × Int × Int × Int) :=
 (ZU 23 x1 zn z2 z6).bind fun r1 =>
 Z4L x4 x5 r1.1 r1.2.1 r1.2.2
theorem Z3M (x1 : Int) (x4 : Int) (x5 : Int) (zn : List Int) (zu : Int) (z7 : Int) (zh : Int) (zj : List Zv) (z2 : Int) (z6 : Int) (zp : Own) (zd : Own) (zy : okApp zd = true) : Sim (Z1Y zn z7 zh zj zp zd) (Z2g x1 x4 x5 zn z2 z6) (ZaK 1 (.ptr 0 0) (iv x1) (iv x4) (iv x5) [(Zk (Zm.mk zn zu z7 zh zj (Zl.mk z2 z6)) zp zd)]) := by
 unfold Z2g
 refine zf (Zh6 ..) ?_
 refine ze ?_
 refine zi fun r1 hr1 => ?_
 obtain ⟨qr1, er1, exr1, rfl⟩ := ZX (23) (x1) (zn) (zu) (z7) (zh) (zj) (z2) (z6) zp zd zy r1 hr1
 refine zc [0] (.p (.tup [])) [(Zk (Zm.mk zn r1.1 z7 zh zj (Zl.mk r1.2.1 r1.2.2)) zp zd)] er1 ?_
 exact zk (Z6y (x4) (x5) (zn) (r1.1) (z7) (zh) (zj) (r1.2.1) (r1.2.2) zp zd zy)
noncomputable def Z26 (x1 : Int) (x4 : Int) (x5 : Int) (zn : List Int) (zu : Int) (z2 : Int) (z6 : Int) : Option (Int × Int × Int × Int × Int) :=
 if ((decide (x4 < 0))) = true then
 (Z2g x1 x4 x5 zn z2 z6)
 else
 (if ((decide (x5 < x4))) = true then
 (Z2g x1 x4 x5 zn z2 z6)
 else
 (if ((decide (64 < x5))) = true then
 (Z2g x1 x4 x5 zn z2 z6)
 else
 ((Z18 ((ByteArray.mk #[125])) zn zu).bind fun r1 =>
 if ((!r1.1)) = true then
 (Z2g x1 x4 x5 zn z2 z6)
 else
 (Z4L x4 x5 r1.2 z2 z6))))
theorem Z49 (x1 : Int) (x4 : Int) (x5 : Int) (zn : List Int) (zu : Int) (z7 : Int) (zh : Int) (zj : List Zv) (z2 : Int) (z6 : Int) (zp : Own) (zd : Own) (zy : okApp zd = true) : Sim (Z1Y zn z7 zh zj zp zd) (Z26 x1 x4 x5 zn zu z2 z6) (Zcf 1 (.ptr 0 0) (iv x1) (iv x4) (iv x5) [(Zk (Zm.mk zn zu z7 zh zj (Zl.mk z2 z6)) zp zd)]) := by
 unfold Z26
 refine zf (ZhR ..) ?_
 refine ze ?_
 refine zo (bv (decide (x4 < 0))) ?_
 refine za ((decide (x4 < 0))) ?_ ?_
 ·exact zk (Z3M (x1) (x4) (x5) (zn) (zu) (z7) (zh) (zj) (z2) (z6) zp zd zy)
 ·refine zo (bv (decide (x5 < x4))) ?_
  refine za ((decide (x5 < x4))) ?_ ?_
  ·exact zk (Z3M (x1) (x4) (x5) (zn) (zu) (z7) (zh) (zj) (z2) (z6) zp zd zy)
  ·refine zo (bv (decide (64 < x5))) ?_
   refine za ((decide (64 < x5))) ?_ ?_
   ·exact zk (Z3M (x1) (x4) (x5) (zn) (zu) (z7) (zh) (zj) (z2) (z6) zp zd zy)
   ·refine zi fun r1 hr1 => ?_
    obtain ⟨qr1, er1, exr1, rfl⟩ := Z1d ((ByteArray.mk #[125])) (zn) (zu) (z7) (zh) (zj) (z2) (z6) zp zd zy r1 hr1
    refine zc [0] (bv r1.1) [(Zk (Zm.mk zn r1.2 z7 zh zj (Zl.mk z2 z6)) zp zd)] er1 ?_
    refine zo (bv (!r1.1)) ?_
    refine za ((!r1.1)) ?_ ?_
    ·exact zk (Z3M (x1) (x4) (x5) (zn) (r1.2) (z7) (zh) (zj) (z2) (z6) zp zd zy)
    ·exact zk (Z6y (x4) (x5) (zn) (r1.2) (z7) (zh) (zj) (z2) (z6) zp zd zy)
noncomputable def Z3b (x1 : Int) (x4 : Int) (zn : List Int) (zu : Int) (z2 : Int) (z6 : Int) : Option (Int × Int × Int × Int × Int) :=
 Z26 x1 x4 ((-2)) zn zu z2 z6
theorem Z6N (x1 : Int) (x4 : Int) (zn : List Int) (zu : Int) (z7 : Int) (zh : Int) (zj : List Zv) (z2 : Int) (z6 : Int) (zp : Own) (zd : Own) (zy : okApp zd = true) : Sim (Z1Y zn z7 zh zj zp zd) (Z3b x1 x4 zn zu z2 z6) (Zee 1 (.ptr 0 0) (iv x1) (iv x4) [(Zk (Zm.mk zn zu z7 zh zj (Zl.mk z2 z6)) zp zd)]) := by
 unfold Z3b
 refine zf (Zi4 ..) ?_
 refine ze ?_
 exact zk (Z49 (x1) (x4) ((-2)) (zn) (zu) (z7) (zh) (zj) (z2) (z6) zp zd zy)
noncomputable def Z4V (x1 : Int) (x4 : Int) (zn : List Int) (zu : Int) (z2 : Int) (z6 : Int) : Option (Int × Int × Int × Int × Int) :=
 (Z18 ((ByteArray.mk #[125])) zn zu).bind fun r1 =>
 if (r1.1) = true then
 (if ((decide (x4 ≤ 64))) = true then
 (Z60 x4 r1.2 z2 z6)
 else
 (Z3b x1 x4 zn r1.2 z2 z6))
 else
 (Z3b x1 x4 zn r1.2 z2 z6)
theorem Z9w (x1 : Int) (x4 : Int) (zn : List Int) (zu : Int) (z7 : Int) (zh : Int) (zj : List Zv) (z2 : Int) (z6 : Int) (zp : Own) (zd : Own) (zy : okApp zd = true) : Sim (Z1Y zn z7 zh zj zp zd) (Z4V x1 x4 zn zu z2 z6) (Zfk 1 (.ptr 0 0) (iv x1) (iv x4) [(Zk (Zm.mk zn zu z7 zh zj (Zl.mk z2 z6)) zp zd)]) := by
 unfold Z4V
 refine zf (Zie ..) ?_
 refine ze ?_
 refine zi fun r1 hr1 => ?_
 obtain ⟨qr1, er1, exr1, rfl⟩ := Z1d ((ByteArray.mk #[125])) (zn) (zu) (z7) (zh) (zj) (z2) (z6) zp zd zy r1 hr1
 refine zc [0] (bv r1.1) [(Zk (Zm.mk zn r1.2 z7 zh zj (Zl.mk z2 z6)) zp zd)] er1 ?_
 refine za (r1.1) ?_ ?_
 ·refine zo (bv (decide (x4 ≤ 64))) ?_
  refine za ((decide (x4 ≤ 64))) ?_ ?_
  ·exact zk (Z9B (x4) (zn) (r1.2) (z7) (zh) (zj) (z2) (z6) zp zd zy)
  ·exact zk (Z6N (x1) (x4) (zn) (r1.2) (z7) (zh) (zj) (z2) (z6) zp zd zy)
 ·exact zk (Z6N (x1) (x4) (zn) (r1.2) (z7) (zh) (zj) (z2) (z6) zp zd zy)
noncomputable def Z4D (x1 : Int) (zn : List Int) (zu : Int) (z7 : Int) (zh : Int) (zj : List Zv) (z2 : Int) (z6 : Int) : Option (Int × Int × Int × Int × Int) :=
 (Z3F zn zu z7 zh zj z2 z6).bind fun r1 =>
 (Z18 ((ByteArray.mk #[44])) zn r1.2).bind fun r2 =>
 if (r2.1) = true then
 ((Z3F zn r2.2 z7 zh zj z2 z6).bind fun r3 =>
 if ((decide (r3.1 < 0))) = true then
 (if ((decide (0 ≤ r1.1))) = true then
 (Z4V x1 r1.1 zn r3.2 z2 z6)
 else
 (Z26 x1 r1.1 r3.1 zn r3.2 z2 z6))
 else
 (Z26 x1 r1.1 r3.1 zn r3.2 z2 z6))
 else
 (Z26 x1 r1.1 r1.1 zn r2.2 z2 z6)
theorem Zax (x1 : Int) (zn : List Int) (zu : Int) (z7 : Int) (zh : Int) (zj : List Zv) (z2 : Int) (z6 : Int) (zp : Own) (zd : Own) (zy : okApp zd = true) : Sim (Z1Y zn z7 zh zj zp zd) (Z4D x1 zn zu z7 zh zj z2 z6) (EE 52 [(.ptr 0 0), (iv x1)] [(Zk (Zm.mk zn zu z7 zh zj (Zl.mk z2 z6)) zp zd)]) := by
 unfold Z4D
 refine zf (ZkY ..) ?_
 refine ze ?_
 refine ze ?_
 refine zi fun r1 hr1 => ?_
 obtain ⟨qr1, er1, exr1, rfl⟩ := Z7D (zn) (zu) (z7) (zh) (zj) (z2) (z6) zp zd zy r1 hr1
 refine zc [0] (iv r1.1) [(Zk (Zm.mk zn r1.2 z7 zh zj (Zl.mk z2 z6)) zp zd)] er1 ?_
 refine ze ?_
 refine ze ?_
 refine zi fun r2 hr2 => ?_
 obtain ⟨qr2, er2, exr2, rfl⟩ := Z1d ((ByteArray.mk #[44])) (zn) (r1.2) (z7) (zh) (zj) (z2) (z6) zp zd zy r2 hr2
 refine zc [0] (bv r2.1) [(Zk (Zm.mk zn r2.2 z7 zh zj (Zl.mk z2 z6)) zp zd)] er2 ?_
 refine za (r2.1) ?_ ?_
 ·refine ze ?_
  refine zi fun r3 hr3 => ?_
  obtain ⟨qr3, er3, exr3, rfl⟩ := Z7D (zn) (r2.2) (z7) (zh) (zj) (z2) (z6) zp zd zy r3 hr3
  refine zc [0] (iv r3.1) [(Zk (Zm.mk zn r3.2 z7 zh zj (Zl.mk z2 z6)) zp zd)] er3 ?_
  refine ze ?_
  refine zo (bv (decide (r3.1 < 0))) ?_
  refine za ((decide (r3.1 < 0))) ?_ ?_
  ·refine zo (bv (decide (0 ≤ r1.1))) ?_
   refine za ((decide (0 ≤ r1.1))) ?_ ?_
   ·exact zk (Z9w (x1) (r1.1) (zn) (r3.2) (z7) (zh) (zj) (z2) (z6) zp zd zy)
   ·exact zk (Z49 (x1) (r1.1) (r3.1) (zn) (r3.2) (z7) (zh) (zj) (z2) (z6) zp zd zy)
  ·exact zk (Z49 (x1) (r1.1) (r3.1) (zn) (r3.2) (z7) (zh) (zj) (z2) (z6) zp zd zy)
 ·exact zk (Z49 (x1) (r1.1) (r1.1) (zn) (r2.2) (z7) (zh) (zj) (z2) (z6) zp zd zy)
theorem Z7r (x1 : Int) (zn : List Int) (zu : Int) (z7 : Int) (zh : Int) (zj : List Zv) (z2 : Int) (z6 : Int) {r} (h : Z4D x1 zn zu z7 zh zj z2 z6 = some r) : Z4u x1 zn zu z7 zh zj z2 z6 = some r :=
 pick_of (fun _ _ ha hb => RRun.uniq (Zbi _ _ _ _ _ _) (ha .ex .ex rfl) (hb .ex .ex rfl)) (fun zp zd zy => Zax x1 zn zu z7 zh zj z2 z6 zp zd zy r h)
noncomputable def Z6J (zn : List Int) (zu : Int) (z7 : Int) (zh : Int) (zj : List Zv) (z2 : Int) (z6 : Int) : Option (Int × Int) :=
 Z2J ((-1)) 0 zn zu z7 zh zj z2 z6
theorem Zau (zn : List Int) (zu : Int) (z7 : Int) (zh : Int) (zj : List Zv) (z2 : Int) (z6 : Int) (zp : Own) (zd : Own) (zy : okApp zd = true) : Sim (Z2d zn z7 zh zj z2 z6 zp zd) (Z6J zn zu z7 zh zj z2 z6) (EE 63 [(.ptr 0 0)] [(Zk (Zm.mk zn zu z7 zh zj (Zl.mk z2 z6)) zp zd)]) := by
 unfold Z6J
 refine zf (ZkW ..) ?_
 refine ze ?_
 refine ze ?_
 refine ze ?_
 exact zk (Z6Y ((-1)) (0) (zn) (zu) (z7) (zh) (zj) (z2) (z6) zp zd zy)
theorem Zb2 (zn : List Int) (zu : Int) (z7 : Int) (zh : Int) (zj : List Zv) (z2 : Int) (z6 : Int) {r} (h : Z6J zn zu z7 zh zj z2 z6 = some r) : Z3F zn zu z7 zh zj z2 z6 = some r :=
 pick_of (fun _ _ ha hb => RRun.uniq (Z8b _ _ _ _ _ _ _ _) (ha .ex .ex rfl) (hb .ex .ex rfl)) (fun zp zd zy => Zau zn zu z7 zh zj z2 z6 zp zd zy r h)
noncomputable def Z4R (x3 : Int) (x4 : Int) (zn : List Int) (zu : Int) (z7 : Int) (zh : Int) (zj : List Zv) (z2 : Int) (z6 : Int) : Option (Int × Int) :=
 (Z2e zn zu).bind fun r1 =>
 Z2J ((IntKind.i64.wrap ((IntKind.i64.wrap ((IntKind.i64.wrap (10 * (max x3 0))) + r1.1)) - 48))) ((IntKind.i64.wrap (x4 + 1))) zn r1.2 z7 zh zj z2 z6
theorem Z9F (x3 : Int) (x4 : Int) (zn : List Int) (zu : Int) (z7 : Int) (zh : Int) (zj : List Zv) (z2 : Int) (z6 : Int) (zp : Own) (zd : Own) (zy : okApp zd = true) : Sim (Z2d zn z7 zh zj z2 z6 zp zd) (Z4R x3 x4 zn zu z7 zh zj z2 z6) (Zgw 1 (.ptr 0 0) (iv x3) (iv x4) [(Zk (Zm.mk zn zu z7 zh zj (Zl.mk z2 z6)) zp zd)]) := by
 unfold Z4R
 refine zf (ZiE ..) ?_
 refine ze ?_
 refine zo (iv (max x3 0)) ?_ (xminmax2_max _ _)
 refine zo (iv (IntKind.i64.wrap (10 * (max x3 0)))) ?_
 refine zi fun r1 hr1 => ?_
 obtain ⟨qr1, er1, exr1, rfl⟩ := Z2A (zn) (zu) (z7) (zh) (zj) (z2) (z6) zp zd zy r1 hr1
 refine zc [0] (iv r1.1) [(Zk (Zm.mk zn r1.2 z7 zh zj (Zl.mk z2 z6)) zp zd)] er1 ?_
 refine zo (iv (IntKind.i64.wrap ((IntKind.i64.wrap (10 * (max x3 0))) + r1.1))) ?_
 refine zo (iv (IntKind.i64.wrap ((IntKind.i64.wrap ((IntKind.i64.wrap (10 * (max x3 0))) + r1.1)) - 48))) ?_
 refine ze ?_
 refine zo (iv (IntKind.i64.wrap (x4 + 1))) ?_
 exact zk (Z6Y ((IntKind.i64.wrap ((IntKind.i64.wrap ((IntKind.i64.wrap (10 * (max x3 0))) + r1.1)) - 48))) ((IntKind.i64.wrap (x4 + 1))) (zn) (r1.2) (z7) (zh) (zj) (z2) (z6) zp zd zy)
noncomputable def Z3d (x3 : Int) (zu : Int) : Option (Int × Int) :=
 some (x3, zu)
theorem Z5f (x3 : Int) (zn : List Int) (zu : Int) (z7 : Int) (zh : Int) (zj : List Zv) (z2 : Int) (z6 : Int) (zp : Own) (zd : Own) (zy : okApp zd = true) : Sim (Z2d zn z7 zh zj z2 z6 zp zd) (Z3d x3 zu) (Zdg 1 (iv x3) [(Zk (Zm.mk zn zu z7 zh zj (Zl.mk z2 z6)) zp zd)]) := by
 unfold Z3d
 refine zf (ZiA ..) ?_
 refine ze ?_
 exact zr ((iv x3), [(Zk (Zm.mk zn zu z7 zh zj (Zl.mk z2 z6)) zp zd)]) ⟨_, rfl⟩
noncomputable def Z4W (x3 : Int) (x4 : Int) (zn : List Int) (zu : Int) (z7 : Int) (zh : Int) (zj : List Zv) (z2 : Int) (z6 : Int) : Option (Int × Int) :=
 if ((decide (x4 < 2))) = true then
 ((Z1K ((Zm.mk zn zu z7 zh zj (Zl.mk z2 z6)))).bind fun r1 =>
 if ((decide (48 ≤ r1))) = true then
 ((Z1K ((Zm.mk zn zu z7 zh zj (Zl.mk z2 z6)))).bind fun r2 =>
 if ((decide (r2 ≤ 57))) = true then
 (Z4R x3 x4 zn zu z7 zh zj z2 z6)
 else
 (Z3d x3 zu))
 else
 (Z3d x3 zu))
 else
 (Z3d x3 zu)
theorem Z9N (x3 : Int) (x4 : Int) (zn : List Int) (zu : Int) (z7 : Int) (zh : Int) (zj : List Zv) (z2 : Int) (z6 : Int) (zp : Own) (zd : Own) (zy : okApp zd = true) : Sim (Z2d zn z7 zh zj z2 z6 zp zd) (Z4W x3 x4 zn zu z7 zh zj z2 z6) (Zct 1 (.ptr 0 0) (iv x3) (iv x4) [(Zk (Zm.mk zn zu z7 zh zj (Zl.mk z2 z6)) zp zd)]) := by
 unfold Z4W
 refine zf (Zj1 ..) ?_
 refine ze ?_
 refine zo (bv (decide (x4 < 2))) ?_
 refine za ((decide (x4 < 2))) ?_ ?_
 ·refine zi fun r1 hr1 => ?_
  obtain ⟨qr1, er1, exr1, rfl⟩ := Z1Q ((Zm.mk zn zu z7 zh zj (Zl.mk z2 z6))) zp zd zy r1 hr1
  refine zc [0] (iv r1) [(Zk (Zm.mk zn zu z7 zh zj (Zl.mk z2 z6)) zp zd)] er1 ?_
  refine zo (bv (decide (48 ≤ r1))) ?_
  refine za ((decide (48 ≤ r1))) ?_ ?_
  ·refine zi fun r2 hr2 => ?_
   obtain ⟨qr2, er2, exr2, rfl⟩ := Z1Q ((Zm.mk zn zu z7 zh zj (Zl.mk z2 z6))) zp zd zy r2 hr2
   refine zc [0] (iv r2) [(Zk (Zm.mk zn zu z7 zh zj (Zl.mk z2 z6)) zp zd)] er2 ?_
   refine zo (bv (decide (r2 ≤ 57))) ?_
   refine za ((decide (r2 ≤ 57))) ?_ ?_
   ·exact zk (Z9F (x3) (x4) (zn) (zu) (z7) (zh) (zj) (z2) (z6) zp zd zy)
   ·exact zk (Z5f (x3) (zn) (zu) (z7) (zh) (zj) (z2) (z6) zp zd zy)
  ·exact zk (Z5f (x3) (zn) (zu) (z7) (zh) (zj) (z2) (z6) zp zd zy)
 ·exact zk (Z5f (x3) (zn) (zu) (z7) (zh) (zj) (z2) (z6) zp zd zy)
theorem Za2 (x3 : Int) (x4 : Int) (zn : List Int) (zu : Int) (z7 : Int) (zh : Int) (zj : List Zv) (z2 : Int) (z6 : Int) {r} (h : Z4W x3 x4 zn zu z7 zh zj z2 z6 = some r) : Z2J x3 x4 zn zu z7 zh zj z2 z6 = some r :=
 pick_of (fun _ _ ha hb => RRun.uniq (Z8b _ _ _ _ _ _ _ _) (ha .ex .ex rfl) (hb .ex .ex rfl)) (fun zp zd zy => Z9N x3 x4 zn zu z7 zh zj z2 z6 zp zd zy r h)
noncomputable def Z53 (x2 : Int) (x3 : Int) : Option (Int × Int) :=
 some (x2, x3)
theorem Z5H (x2 : Int) (x3 : Int) : Sim (Z2b) (Z53 x2 x3) (ZaL 0 (iv x2) (iv x3) []) := by
 unfold Z53
 refine zf (Zhu ..) ?_
 refine ze ?_
 exact zr ((.p (.tup [(.v (.int .i64 x2)), (.v (.int .i64 x3))])), []) ⟨_, rfl⟩
noncomputable def Z79 (x0 : Z3) : Option (Int × Int) :=
 if ((x0.Kind == 1)) = true then
 (some (1, 1))
 else
 (if ((x0.Kind == 6)) = true then
 (some (0, (-1)))
 else
 (if ((x0.Kind == 2)) = true then
 (Z5g 0 0 x0.Kids ((x0.Kids.length : Int)) 0)
 else
 (if ((x0.Kind == 3)) = true then
 (Z4c 1048576 0 x0.Kids ((x0.Kids.length : Int)) 0)
 else
 (if ((x0.Kind == 4)) = true then
 ((lget x0.Kids 0).bind fun a1 =>
 (Z1n a1).bind fun r2 =>
 (Z6k r2.2 x0.Hi).bind fun r3 =>
 some ((min (IntKind.i64.wrap (r2.1 * x0.Lo)) 1048576), r3))
 else
 (if ((x0.Kind == 5)) = true then
 (if ((x0.Kind == 5)) = true then
 ((lget x0.Kids 0).bind fun a4 =>
 (Z1n a4).bind fun r5 =>
 some (r5.1, r5.2))
 else
 (Z53 0 0))
 else
 (if ((x0.Kind == 8)) = true then
 ((lget x0.Kids 0).bind fun a6 =>
 (Z1n a6).bind fun r7 =>
 some (r7.1, r7.2))
 else
 (Z53 0 0)))))))
theorem ZdH (x0 : Z3) (z1e : Own) (z10 : Own) : Sim (Z2b) (Z79 x0) (EE 24 [(.p (.agg (ZC x0 z1e z10)))] []) := by
 unfold Z79
 refine zf (Zkx ..) ?_
 refine ze ?_
 refine zx (.ptr 0 0) [(Zq x0 z1e z10)] ?_
 refine ze ?_
 refine zo (.ptr 0 0) ?_
 refine zo (iv x0.Kind) ?_
 refine ze ?_
 refine zo (bv (x0.Kind == 1)) ?_
 refine za ((x0.Kind == 1)) ?_ ?_
 ·refine ze ?_
  exact zr ((.p (.tup [(.v (.int .i64 1)), (.v (.int .i64 1))])), [(Zq x0 z1e z10)]) ⟨_, rfl⟩
 ·refine ze ?_
  refine zo (bv (x0.Kind == 6)) ?_
  refine za ((x0.Kind == 6)) ?_ ?_
  ·refine ze ?_
   exact zr ((.p (.tup [(.v (.int .i64 0)), (.v (.int .i64 (-1)))])), [(Zq x0 z1e z10)]) ⟨_, rfl⟩
  ·refine ze ?_
   refine zo (bv (x0.Kind == 2)) ?_
   refine za ((x0.Kind == 2)) ?_ ?_
   ·refine ze ?_
    refine zo (.ptr 0 6) ?_
    refine zo (.p (.lst (shrO z10) (x0.Kids.map ZG))) ?_
    refine zo (iv (x0.Kids.length : Int)) ?_ (Eq.trans (by kernel_rfl) (xlen_of (P := PP) (t := 25) (d := 27) (by kernel_rfl) ZG (shrO z10) x0.Kids))
    exact zk (Z9v (0) (0) (x0.Kids) ((x0.Kids.length : Int)) (0) (shrO z10))
   ·refine ze ?_
    refine zo (bv (x0.Kind == 3)) ?_
    refine za ((x0.Kind == 3)) ?_ ?_
    ·refine ze ?_
     refine ze ?_
     refine zo (.ptr 0 6) ?_
     refine zo (.p (.lst (shrO z10) (x0.Kids.map ZG))) ?_
     refine zo (iv (x0.Kids.length : Int)) ?_ (Eq.trans (by kernel_rfl) (xlen_of (P := PP) (t := 25) (d := 27) (by kernel_rfl) ZG (shrO z10) x0.Kids))
     exact zk (Z9c (1048576) (0) (x0.Kids) ((x0.Kids.length : Int)) (0) (shrO z10))
    ·refine ze ?_
     refine zo (bv (x0.Kind == 4)) ?_
     refine za ((x0.Kind == 4)) ?_ ?_
     ·refine ze ?_
      refine zo (.ptr 0 6) ?_
      refine zo (.p (.lst (shrO z10) (x0.Kids.map ZG))) ?_
      refine zi fun a1 ha1 => ?_
      refine zo (.cptr (ZC a1 .sh .sh)) ?_ (Eq.trans (by kernel_rfl) (xidx_of (o := (shrO z10)) (k := .i64) (n := 7) (e := ZG) (cs := Z24) Z42 (fun _ => rfl) (by decide) ha1))
      refine zo (.p (.agg (ZC a1 .sh .sh))) ?_
      refine zi fun r2 hr2 => ?_
      obtain ⟨qr2, er2, exr2, rfl⟩ := Z34 (a1) .sh .sh r2 hr2
      refine zc [] (.p (.tup [(.v (.int .i64 r2.1)), (.v (.int .i64 r2.2))])) [(Zq x0 z1e z10)] er2 ?_
      refine zo (iv r2.1) ?_
      refine zo (iv r2.2) ?_
      refine ze ?_
      refine zo (.ptr 0 1) ?_
      refine zo (iv x0.Lo) ?_
      refine zo (iv (IntKind.i64.wrap (r2.1 * x0.Lo))) ?_
      refine zo (iv (min (IntKind.i64.wrap (r2.1 * x0.Lo)) 1048576)) ?_ (xminmax2_min _ _)
      refine zo (.ptr 0 2) ?_
      refine zo (iv x0.Hi) ?_
      refine zi fun r3 hr3 => ?_
      obtain ⟨qr3, er3, exr3, rfl⟩ := ZdS (r2.2) (x0.Hi) r3 hr3
      refine zc [] (iv r3) [(Zq x0 z1e z10)] er3 ?_
      refine zg ?_
      exact zr ((.p (.tup [(.v (.int .i64 (min (IntKind.i64.wrap (r2.1 * x0.Lo)) 1048576))), (.v (.int .i64 r3))])), [(Zq x0 z1e z10)]) ⟨_, rfl⟩
     ·refine ze ?_
      refine zo (bv (x0.Kind == 5)) ?_
      refine za ((x0.Kind == 5)) ?_ ?_
      ·refine za ((x0.Kind == 5)) ?_ ?_
       ·refine ze ?_
        refine zo (.ptr 0 6) ?_
        refine zo (.p (.lst (shrO z10) (x0.Kids.map ZG))) ?_
        refine zi fun a4 ha4 => ?_
        refine zo (.cptr (ZC a4 .sh .sh)) ?_ (Eq.trans (by kernel_rfl) (xidx_of (o := (shrO z10)) (k := .i64) (n := 7) (e := ZG) (cs := Z24) Z42 (fun _ => rfl) (by decide) ha4))
        refine zo (.p (.agg (ZC a4 .sh .sh))) ?_
        refine zi fun r5 hr5 => ?_
        obtain ⟨qr5, er5, exr5, rfl⟩ := Z34 (a4) .sh .sh r5 hr5
        refine zc [] (.p (.tup [(.v (.int .i64 r5.1)), (.v (.int .i64 r5.2))])) [(Zq x0 z1e z10)] er5 ?_
        refine zo (iv r5.1) ?_
        refine zo (iv r5.2) ?_
        exact zr ((.p (.tup [(.v (.int .i64 r5.1)), (.v (.int .i64 r5.2))])), [(Zq x0 z1e z10)]) ⟨_, rfl⟩
       ·exact zk (Z5H (0) (0))
      ·refine ze ?_
       refine zo (bv (x0.Kind == 8)) ?_
       refine za ((x0.Kind == 8)) ?_ ?_
       ·refine ze ?_
        refine zo (.ptr 0 6) ?_
        refine zo (.p (.lst (shrO z10) (x0.Kids.map ZG))) ?_
        refine zi fun a6 ha6 => ?_
        refine zo (.cptr (ZC a6 .sh .sh)) ?_ (Eq.trans (by kernel_rfl) (xidx_of (o := (shrO z10)) (k := .i64) (n := 7) (e := ZG) (cs := Z24) Z42 (fun _ => rfl) (by decide) ha6))
        refine zo (.p (.agg (ZC a6 .sh .sh))) ?_
        refine zi fun r7 hr7 => ?_
        obtain ⟨qr7, er7, exr7, rfl⟩ := Z34 (a6) .sh .sh r7 hr7
        refine zc [] (.p (.tup [(.v (.int .i64 r7.1)), (.v (.int .i64 r7.2))])) [(Zq x0 z1e z10)] er7 ?_
        refine zo (iv r7.1) ?_
        refine zo (iv r7.2) ?_
        exact zr ((.p (.tup [(.v (.int .i64 r7.1)), (.v (.int .i64 r7.2))])), [(Zq x0 z1e z10)]) ⟨_, rfl⟩
       ·exact zk (Z5H (0) (0))
theorem Zb5 (x0 : Z3) {r} (h : Z79 x0 = some r) : Z1n x0 = some r :=
 pick_of (fun _ _ ha hb => RRun.uniq (Z9q) (ha .ex .ex) (hb .ex .ex)) (fun z1e z10 => ZdH x0 z1e z10 r h)
noncomputable def Z67 (x2 : Int) (x3 : Int) (x23 : List Z3) (x24 : Int) (x25 : Int) : Option (Int × Int) :=
 (lget x23 x25).bind fun a1 =>
 (Z1n a1).bind fun r2 =>
 (Z9T x3 r2.2).bind fun r3 =>
 Z5g ((min (IntKind.i64.wrap (x2 + r2.1)) 1048576)) r3 x23 x24 ((IntKind.i64.wrap (x25 + 1)))
theorem ZcH (x2 : Int) (x3 : Int) (x23 : List Z3) (x24 : Int) (x25 : Int) (ox23 : Own) : Sim (Z2b) (Z67 x2 x3 x23 x24 x25) (ZfV 0 (iv x2) (iv x3) (.p (.lst ox23 (x23.map ZG))) (iv x24) (iv x25) []) := by
 unfold Z67
 refine zf (ZiS ..) ?_
 refine ze ?_
 refine zi fun a1 ha1 => ?_
 refine zo (.cptr (ZC a1 .sh .sh)) ?_ (Eq.trans (by kernel_rfl) (xidx_of (o := ox23) (k := .i64) (n := 7) (e := ZG) (cs := Z24) Z42 (fun _ => rfl) (by decide) ha1))
 refine zo (.p (.agg (ZC a1 .sh .sh))) ?_
 refine zz (.ptr 0 0) [(Zq (Z3.mk 0 0 0 0 0 ([] : List Z8) ([] : List Z3)) .nl .nl)] ?_
 refine zt [(Zq a1 .sh .sh)] ?_
 refine ze ?_
 refine zo (.p (.agg (ZC a1 .sh .sh))) ?_
 refine zi fun r2 hr2 => ?_
 obtain ⟨qr2, er2, exr2, rfl⟩ := Z34 (a1) .sh .sh r2 hr2
 refine zc [] (.p (.tup [(.v (.int .i64 r2.1)), (.v (.int .i64 r2.2))])) [(Zq a1 .sh .sh)] er2 ?_
 refine zo (iv r2.1) ?_
 refine zo (iv r2.2) ?_
 refine ze ?_
 refine zo (iv (IntKind.i64.wrap (x2 + r2.1))) ?_
 refine zo (iv (min (IntKind.i64.wrap (x2 + r2.1)) 1048576)) ?_ (xminmax2_min _ _)
 refine zi fun r3 hr3 => ?_
 obtain ⟨qr3, er3, exr3, rfl⟩ := ZeW (x3) (r2.2) r3 hr3
 refine zc [] (iv r3) [(Zq a1 .sh .sh)] er3 ?_
 refine ze ?_
 refine zo (iv (IntKind.i64.wrap (x25 + 1))) ?_
 exact zk (Z9v ((min (IntKind.i64.wrap (x2 + r2.1)) 1048576)) (r3) (x23) (x24) ((IntKind.i64.wrap (x25 + 1))) ox23)
noncomputable def Z4s (x2 : Int) (x3 : Int) (x23 : List Z3) (x24 : Int) (x25 : Int) : Option (Int × Int) :=
 if ((decide (x25 < x24))) = true then
 (Z67 x2 x3 x23 x24 x25)
 else
 (Z53 x2 x3)
theorem ZcC (x2 : Int) (x3 : Int) (x23 : List Z3) (x24 : Int) (x25 : Int) (ox23 : Own) : Sim (Z2b) (Z4s x2 x3 x23 x24 x25) (Zcn 0 (iv x2) (iv x3) (.p (.lst ox23 (x23.map ZG))) (iv x24) (iv x25) []) := by
 unfold Z4s
 refine zf (Zip ..) ?_
 refine ze ?_
 refine zo (bv (decide (x25 < x24))) ?_
 refine za ((decide (x25 < x24))) ?_ ?_
 ·exact zk (ZcH (x2) (x3) (x23) (x24) (x25) ox23)
 ·exact zk (Z5H (x2) (x3))
theorem Z6g (x2 : Int) (x3 : Int) (x23 : List Z3) (x24 : Int) (x25 : Int) {r} (h : Z4s x2 x3 x23 x24 x25 = some r) : Z5g x2 x3 x23 x24 x25 = some r :=
 pick_of (fun _ _ ha hb => RRun.uniq (Z9q) (ha .ex) (hb .ex)) (fun ox23 => ZcC x2 x3 x23 x24 x25 ox23 r h)
noncomputable def Z52 (x2 : Int) (x3 : Int) (x45 : List Z3) (x46 : Int) (x47 : Int) : Option (Int × Int) :=
 Z4c x2 x3 x45 x46 ((IntKind.i64.wrap (x47 + 1)))
theorem Z95 (x2 : Int) (x3 : Int) (x45 : List Z3) (x46 : Int) (x47 : Int) (ox45 : Own) : Sim (Z2b) (Z52 x2 x3 x45 x46 x47) (Zdt 0 (iv x2) (iv x3) (.p (.lst ox45 (x45.map ZG))) (iv x46) (iv x47) []) := by
 unfold Z52
 refine zf (ZgX ..) ?_
 refine ze ?_
 refine zo (iv (IntKind.i64.wrap (x47 + 1))) ?_
 exact zk (Z9c (x2) (x3) (x45) (x46) ((IntKind.i64.wrap (x47 + 1))) ox45)
noncomputable def Z54 (x2 : Int) (x45 : List Z3) (x46 : Int) (x47 : Int) : Option (Int × Int) :=
 Z52 x2 ((-1)) x45 x46 x47
theorem Z92 (x2 : Int) (x45 : List Z3) (x46 : Int) (x47 : Int) (ox45 : Own) : Sim (Z2b) (Z54 x2 x45 x46 x47) (Zdh 0 (iv x2) (.p (.lst ox45 (x45.map ZG))) (iv x46) (iv x47) []) := by
 unfold Z54
 refine zf (Zhv ..) ?_
 refine ze ?_
 exact zk (Z95 (x2) ((-1)) (x45) (x46) (x47) ox45)
noncomputable def Z5Q (x2 : Int) (x3 : Int) (x11 : Int) (x45 : List Z3) (x46 : Int) (x47 : Int) : Option (Int × Int) :=
 Z52 x2 ((max x3 x11)) x45 x46 x47
theorem Zcu (x2 : Int) (x3 : Int) (x11 : Int) (x45 : List Z3) (x46 : Int) (x47 : Int) (ox45 : Own) : Sim (Z2b) (Z5Q x2 x3 x11 x45 x46 x47) (ZeY 0 (iv x2) (iv x3) (iv x11) (.p (.lst ox45 (x45.map ZG))) (iv x46) (iv x47) []) := by
 unfold Z5Q
 refine zf (Zhx ..) ?_
 refine ze ?_
 refine zo (iv (max x3 x11)) ?_ (xminmax2_max _ _)
 exact zk (Z95 (x2) ((max x3 x11)) (x45) (x46) (x47) ox45)
noncomputable def Z5N (x2 : Int) (x3 : Int) (x45 : List Z3) (x46 : Int) (x47 : Int) : Option (Int × Int) :=
 (lget x45 x47).bind fun a1 =>
 (Z1n a1).bind fun r2 =>
 if ((decide (r2.2 < 0))) = true then
 (Z54 ((min x2 r2.1)) x45 x46 x47)
 else
 (if ((decide (x3 < 0))) = true then
 (Z54 ((min x2 r2.1)) x45 x46 x47)
 else
 (Z5Q ((min x2 r2.1)) x3 r2.2 x45 x46 x47))
theorem ZbX (x2 : Int) (x3 : Int) (x45 : List Z3) (x46 : Int) (x47 : Int) (ox45 : Own) : Sim (Z2b) (Z5N x2 x3 x45 x46 x47) (ZeQ 0 (iv x2) (iv x3) (.p (.lst ox45 (x45.map ZG))) (iv x46) (iv x47) []) := by
 unfold Z5N
 refine zf (Zho ..) ?_
 refine ze ?_
 refine zi fun a1 ha1 => ?_
 refine zo (.cptr (ZC a1 .sh .sh)) ?_ (Eq.trans (by kernel_rfl) (xidx_of (o := ox45) (k := .i64) (n := 7) (e := ZG) (cs := Z24) Z42 (fun _ => rfl) (by decide) ha1))
 refine zo (.p (.agg (ZC a1 .sh .sh))) ?_
 refine zz (.ptr 0 0) [(Zq (Z3.mk 0 0 0 0 0 ([] : List Z8) ([] : List Z3)) .nl .nl)] ?_
 refine zt [(Zq a1 .sh .sh)] ?_
 refine ze ?_
 refine zo (.p (.agg (ZC a1 .sh .sh))) ?_
 refine zi fun r2 hr2 => ?_
 obtain ⟨qr2, er2, exr2, rfl⟩ := Z34 (a1) .sh .sh r2 hr2
 refine zc [] (.p (.tup [(.v (.int .i64 r2.1)), (.v (.int .i64 r2.2))])) [(Zq a1 .sh .sh)] er2 ?_
 refine zo (iv r2.1) ?_
 refine zo (iv r2.2) ?_
 refine ze ?_
 refine zo (iv (min x2 r2.1)) ?_ (xminmax2_min _ _)
 refine ze ?_
 refine zo (bv (decide (r2.2 < 0))) ?_
 refine za ((decide (r2.2 < 0))) ?_ ?_
 ·exact zk (Z92 ((min x2 r2.1)) (x45) (x46) (x47) ox45)
 ·refine zo (bv (decide (x3 < 0))) ?_
  refine za ((decide (x3 < 0))) ?_ ?_
  ·exact zk (Z92 ((min x2 r2.1)) (x45) (x46) (x47) ox45)
  ·exact zk (Zcu ((min x2 r2.1)) (x3) (r2.2) (x45) (x46) (x47) ox45)
noncomputable def Z4d (x2 : Int) (x3 : Int) (x45 : List Z3) (x46 : Int) (x47 : Int) : Option (Int × Int) :=
 if ((decide (x47 < x46))) = true then
 (Z5N x2 x3 x45 x46 x47)
 else
 (Z53 x2 x3)
theorem ZbY (x2 : Int) (x3 : Int) (x45 : List Z3) (x46 : Int) (x47 : Int) (ox45 : Own) : Sim (Z2b) (Z4d x2 x3 x45 x46 x47) (ZaI 0 (iv x2) (iv x3) (.p (.lst ox45 (x45.map ZG))) (iv x46) (iv x47) []) := by
 unfold Z4d
 refine zf (Zhe ..) ?_
 refine ze ?_
 refine zo (bv (decide (x47 < x46))) ?_
 refine za ((decide (x47 < x46))) ?_ ?_
 ·exact zk (ZbX (x2) (x3) (x45) (x46) (x47) ox45)
 ·exact zk (Z5H (x2) (x3))
theorem Z5R (x2 : Int) (x3 : Int) (x45 : List Z3) (x46 : Int) (x47 : Int) {r} (h : Z4d x2 x3 x45 x46 x47 = some r) : Z4c x2 x3 x45 x46 x47 = some r :=
 pick_of (fun _ _ ha hb => RRun.uniq (Z9q) (ha .ex) (hb .ex)) (fun ox45 => ZbY x2 x3 x45 x46 x47 ox45 r h)
end Go.Proofs.YtadodmjdkphddaaDoor.N2
end
section
set_option linter.unusedSimpArgs false
set_option linter.unusedVariables false
namespace Go.Proofs.YtadodmjdkphddaaDoor.N2
open Go Go.Abs
set_option linter.unusedVariables false
set_option maxRecDepth 100000
noncomputable def Z66  : Option (Int) :=
 some (0)
theorem Z9e  : Sim (Z4q) (Z66) (Ze0 0  []) := by
 unfold Z66
 refine zf (Zif ..) ?_
 refine ze ?_
 exact zr ((iv 0), []) ⟨_, rfl⟩
noncomputable def Z62  : Option (Int) :=
 some ((-1))
theorem Z9o  : Sim (Z4q) (Z62) (Ze6 0  []) := by
 unfold Z62
 refine zf (ZiI ..) ?_
 refine ze ?_
 exact zr ((iv (-1)), []) ⟨_, rfl⟩
noncomputable def Z75 (x0 : Int) (x1 : Int) : Option (Int) :=
 (Z7y ((IntKind.i64.wrap (x0 * x1)))).bind fun r1 =>
 some (r1)
theorem ZcF (x0 : Int) (x1 : Int) : Sim (Z4q) (Z75 x0 x1) (ZfC 0 (iv x0) (iv x1) []) := by
 unfold Z75
 refine zf (ZiR ..) ?_
 refine ze ?_
 refine zo (iv (IntKind.i64.wrap (x0 * x1))) ?_
 refine zi fun r1 hr1 => ?_
 obtain ⟨qr1, er1, exr1, rfl⟩ := Zbt ((IntKind.i64.wrap (x0 * x1))) r1 hr1
 refine zc [] (iv r1) [] er1 ?_
 exact zr ((iv r1), []) ⟨_, rfl⟩
noncomputable def Z6Z (x0 : Int) (x1 : Int) : Option (Int) :=
 if ((decide (x0 < 0))) = true then
 (Z62)
 else
 (if ((decide (x1 < 0))) = true then
 (Z62)
 else
 (Z75 x0 x1))
theorem Zcw (x0 : Int) (x1 : Int) : Sim (Z4q) (Z6Z x0 x1) (Zg8 0 (iv x0) (iv x1) []) := by
 unfold Z6Z
 refine zf (ZhL ..) ?_
 refine ze ?_
 refine zo (bv (decide (x0 < 0))) ?_
 refine za ((decide (x0 < 0))) ?_ ?_
 ·exact zk (Z9o )
 ·refine zo (bv (decide (x1 < 0))) ?_
  refine za ((decide (x1 < 0))) ?_ ?_
  ·exact zk (Z9o )
  ·exact zk (ZcF (x0) (x1))
noncomputable def Z8H (x0 : Int) (x1 : Int) : Option (Int) :=
 if ((x0 == 0)) = true then
 (Z66)
 else
 (if ((x1 == 0)) = true then
 (Z66)
 else
 (Z6Z x0 x1))
theorem ZdA (x0 : Int) (x1 : Int) : Sim (Z4q) (Z8H x0 x1) (EE 33 [(iv x0), (iv x1)] []) := by
 unfold Z8H
 refine zf (ZjG ..) ?_
 refine ze ?_
 refine ze ?_
 refine zo (bv (x0 == 0)) ?_
 refine za ((x0 == 0)) ?_ ?_
 ·exact zk (Z9e )
 ·refine zo (bv (x1 == 0)) ?_
  refine za ((x1 == 0)) ?_ ?_
  ·exact zk (Z9e )
  ·exact zk (Zcw (x0) (x1))
theorem ZdP (x0 : Int) (x1 : Int) {r} (h : Z8H x0 x1 = some r) : Z6k x0 x1 = some r :=
 pick_of (fun _ _ ha hb => RRun.uniq (Ze4) (ha ) (hb )) (ZdA x0 x1 r h)
noncomputable def Z7g (x0 : Int) : Option (Int) :=
 some (x0)
theorem ZcO (x0 : Int) : Sim (Z6R) (Z7g x0) (Zgx 0 (iv x0) []) := by
 unfold Z7g
 refine zf (Zjb ..) ?_
 refine ze ?_
 exact zr ((iv x0), []) ⟨_, rfl⟩
noncomputable def Z9h (x0 : Int) : Option (Int) :=
 if ((decide (1048576 < x0))) = true then
 (some ((-1)))
 else
 (Z7g x0)
theorem ZdJ (x0 : Int) : Sim (Z6R) (Z9h x0) (EE 38 [(iv x0)] []) := by
 unfold Z9h
 refine zf (ZjQ ..) ?_
 refine ze ?_
 refine ze ?_
 refine zo (bv (decide (1048576 < x0))) ?_
 refine za ((decide (1048576 < x0))) ?_ ?_
 ·refine ze ?_
  exact zr ((iv (-1)), []) ⟨_, rfl⟩
 ·exact zk (ZcO (x0))
theorem Zec (x0 : Int) {r} (h : Z9h x0 = some r) : Z7y x0 = some r :=
 pick_of (fun _ _ ha hb => RRun.uniq (ZeR) (ha ) (hb )) (ZdJ x0 r h)
noncomputable def Z6W  : Option (Int) :=
 some ((-1))
theorem Za1  : Sim (Z6x) (Z6W) (Ze3 0  []) := by
 unfold Z6W
 refine zf (ZhV ..) ?_
 refine ze ?_
 exact zr ((iv (-1)), []) ⟨_, rfl⟩
noncomputable def Z81 (x0 : Int) (x1 : Int) : Option (Int) :=
 (Z7y ((IntKind.i64.wrap (x0 + x1)))).bind fun r1 =>
 some (r1)
theorem Zd5 (x0 : Int) (x1 : Int) : Sim (Z6x) (Z81 x0 x1) (Zfp 0 (iv x0) (iv x1) []) := by
 unfold Z81
 refine zf (ZhF ..) ?_
 refine ze ?_
 refine zo (iv (IntKind.i64.wrap (x0 + x1))) ?_
 refine zi fun r1 hr1 => ?_
 obtain ⟨qr1, er1, exr1, rfl⟩ := Zbt ((IntKind.i64.wrap (x0 + x1))) r1 hr1
 refine zc [] (iv r1) [] er1 ?_
 exact zr ((iv r1), []) ⟨_, rfl⟩
noncomputable def Z9P (x0 : Int) (x1 : Int) : Option (Int) :=
 if ((decide (x0 < 0))) = true then
 (Z6W)
 else
 (if ((decide (x1 < 0))) = true then
 (Z6W)
 else
 (Z81 x0 x1))
theorem ZdZ (x0 : Int) (x1 : Int) : Sim (Z6x) (Z9P x0 x1) (EE 32 [(iv x0), (iv x1)] []) := by
 unfold Z9P
 refine zf (ZjK ..) ?_
 refine ze ?_
 refine ze ?_
 refine zo (bv (decide (x0 < 0))) ?_
 refine za ((decide (x0 < 0))) ?_ ?_
 ·exact zk (Za1 )
 ·refine zo (bv (decide (x1 < 0))) ?_
  refine za ((decide (x1 < 0))) ?_ ?_
  ·exact zk (Za1 )
  ·exact zk (Zd5 (x0) (x1))
theorem Zf4 (x0 : Int) (x1 : Int) {r} (h : Z9P x0 x1 = some r) : Z9T x0 x1 = some r :=
 pick_of (fun _ _ ha hb => RRun.uniq (Zf7) (ha ) (hb )) (ZdZ x0 x1 r h)
noncomputable def ZaX (x0 : Z3) : Option (Int) :=
 Z3A 0 x0.Kids ((x0.Kids.length : Int)) 0 x0
theorem ZdM (x0 : Z3) (z1e : Own) (z10 : Own) : Sim (Z3n) (ZaX x0) (EE 25 [(.p (.agg (ZC x0 z1e z10)))] []) := by
 unfold ZaX
 refine zf (ZjW ..) ?_
 refine ze ?_
 refine zx (.ptr 0 0) [(Zq x0 z1e z10)] ?_
 refine ze ?_
 refine ze ?_
 refine zo (.ptr 0 6) ?_
 refine zo (.p (.lst (shrO z10) (x0.Kids.map ZG))) ?_
 refine zo (iv (x0.Kids.length : Int)) ?_ (Eq.trans (by kernel_rfl) (xlen_of (P := PP) (t := 25) (d := 27) (by kernel_rfl) ZG (shrO z10) x0.Kids))
 exact zk (Za8 (0) (x0.Kids) ((x0.Kids.length : Int)) (0) (x0) (shrO z10) z1e z10)
theorem Z7l (x0 : Z3) {r} (h : ZaX x0 = some r) : Z28 x0 = some r :=
 pick_of (fun _ _ ha hb => RRun.uniq (Zco) (ha .ex .ex) (hb .ex .ex)) (fun z1e z10 => ZdM x0 z1e z10 r h)
noncomputable def Z6q (x3 : Int) (x8 : List Z3) (x9 : Int) (x10 : Int) (b0 : Z3) : Option (Int) :=
 (lget x8 x10).bind fun a1 =>
 (Z28 a1).bind fun r2 =>
 Z3A ((min (IntKind.i64.wrap (x3 + r2)) 1048576)) x8 x9 ((IntKind.i64.wrap (x10 + 1))) b0
theorem ZcU (x3 : Int) (x8 : List Z3) (x9 : Int) (x10 : Int) (b0 : Z3) (ox8 : Own) (z1f : Own) (z14 : Own) : Sim (Z3n) (Z6q x3 x8 x9 x10 b0) (Zgu 0 (.ptr 0 0) (iv x3) (.p (.lst ox8 (x8.map ZG))) (iv x9) (iv x10) [(Zq b0 z1f z14)]) := by
 unfold Z6q
 refine zf (Zi3 ..) ?_
 refine ze ?_
 refine zi fun a1 ha1 => ?_
 refine zo (.cptr (ZC a1 .sh .sh)) ?_ (Eq.trans (by kernel_rfl) (xidx_of (o := ox8) (k := .i64) (n := 7) (e := ZG) (cs := Z24) Z42 (fun _ => rfl) (by decide) ha1))
 refine zo (.p (.agg (ZC a1 .sh .sh))) ?_
 refine zz (.ptr 1 0) [(Zq b0 z1f z14), (Zq (Z3.mk 0 0 0 0 0 ([] : List Z8) ([] : List Z3)) .nl .nl)] ?_
 refine zt [(Zq b0 z1f z14), (Zq a1 .sh .sh)] ?_
 refine ze ?_
 refine zo (.p (.agg (ZC a1 .sh .sh))) ?_
 refine zi fun r2 hr2 => ?_
 obtain ⟨qr2, er2, exr2, rfl⟩ := Z5z (a1) .sh .sh r2 hr2
 refine zc [] (iv r2) [(Zq b0 z1f z14), (Zq a1 .sh .sh)] er2 ?_
 refine zo (iv (IntKind.i64.wrap (x3 + r2))) ?_
 refine zo (iv (min (IntKind.i64.wrap (x3 + r2)) 1048576)) ?_ (xminmax2_min _ _)
 refine ze ?_
 refine zo (iv (IntKind.i64.wrap (x10 + 1))) ?_
 exact zk (Za8 ((min (IntKind.i64.wrap (x3 + r2)) 1048576)) (x8) (x9) ((IntKind.i64.wrap (x10 + 1))) (b0) ox8 z1f z14)
noncomputable def ZY (x3 : Int) : Option (Int) :=
 some ((min x3 1048576))
theorem Z16 (x3 : Int) : Sim (Z3n) (ZY x3) (Z2Y 0 (iv x3) []) := by
 unfold ZY
 refine zf (ZhA ..) ?_
 refine ze ?_
 refine zo (iv (min x3 1048576)) ?_ (xminmax2_min _ _)
 exact zr ((iv (min x3 1048576)), []) ⟨_, rfl⟩
noncomputable def Z17 (x3 : Int) (b0 : Z3) : Option (Int) :=
 if ((b0.Mode == 2)) = true then
 (ZY ((IntKind.i64.wrap (x3 + 2))))
 else
 (ZY x3)
theorem Z1i (x3 : Int) (b0 : Z3) (z1f : Own) (z14 : Own) : Sim (Z3n) (Z17 x3 b0) (Z3I 0 (.ptr 0 0) (iv x3) [(Zq b0 z1f z14)]) := by
 unfold Z17
 refine zf (ZgW ..) ?_
 refine ze ?_
 refine zo (.ptr 0 3) ?_
 refine zo (iv b0.Mode) ?_
 refine zo (bv (b0.Mode == 2)) ?_
 refine za ((b0.Mode == 2)) ?_ ?_
 ·refine ze ?_
  refine zo (iv (IntKind.i64.wrap (x3 + 2))) ?_
  exact zk (Z16 ((IntKind.i64.wrap (x3 + 2))))
 ·exact zk (Z16 (x3))
noncomputable def Z1V (x3 : Int) (b0 : Z3) : Option (Int) :=
 if ((b0.Kind == 1)) = true then
 (if ((b0.Kind == 1)) = true then
 (some (1))
 else
 (if ((b0.Kind == 3)) = true then
 (ZY ((IntKind.i64.wrap (x3 + (IntKind.i64.wrap (2 * (IntKind.i64.wrap ((b0.Kids.length : Int) - 1))))))))
 else
 (if ((b0.Kind == 5)) = true then
 (if ((b0.Kind == 5)) = true then
 (ZY ((IntKind.i64.wrap (x3 + 2))))
 else
 (if ((b0.Kind == 4)) = true then
 (if ((decide (b0.Hi < 0))) = true then
 (Z17 ((IntKind.i64.wrap ((IntKind.i64.wrap (b0.Lo * x3)) + (IntKind.i64.wrap (x3 + 4))))) b0)
 else
 (Z17 ((IntKind.i64.wrap ((IntKind.i64.wrap (b0.Lo * x3)) + (IntKind.i64.wrap ((IntKind.i64.wrap (b0.Hi - b0.Lo)) * (IntKind.i64.wrap (x3 + 1))))))) b0))
 else
 (ZY x3)))
 else
 (if ((b0.Kind == 7)) = true then
 (if ((b0.Kind == 7)) = true then
 (ZY ((IntKind.i64.wrap (x3 + 2))))
 else
 (if ((b0.Kind == 4)) = true then
 (if ((decide (b0.Hi < 0))) = true then
 (Z17 ((IntKind.i64.wrap ((IntKind.i64.wrap (b0.Lo * x3)) + (IntKind.i64.wrap (x3 + 4))))) b0)
 else
 (Z17 ((IntKind.i64.wrap ((IntKind.i64.wrap (b0.Lo * x3)) + (IntKind.i64.wrap ((IntKind.i64.wrap (b0.Hi - b0.Lo)) * (IntKind.i64.wrap (x3 + 1))))))) b0))
 else
 (ZY x3)))
 else
 (if ((b0.Kind == 8)) = true then
 (ZY ((IntKind.i64.wrap (x3 + 2))))
 else
 (if ((b0.Kind == 4)) = true then
 (if ((decide (b0.Hi < 0))) = true then
 (Z17 ((IntKind.i64.wrap ((IntKind.i64.wrap (b0.Lo * x3)) + (IntKind.i64.wrap (x3 + 4))))) b0)
 else
 (Z17 ((IntKind.i64.wrap ((IntKind.i64.wrap (b0.Lo * x3)) + (IntKind.i64.wrap ((IntKind.i64.wrap (b0.Hi - b0.Lo)) * (IntKind.i64.wrap (x3 + 1))))))) b0))
 else
 (ZY x3)))))))
 else
 (if ((b0.Kind == 6)) = true then
 (if ((b0.Kind == 6)) = true then
 (some (1))
 else
 (if ((b0.Kind == 3)) = true then
 (ZY ((IntKind.i64.wrap (x3 + (IntKind.i64.wrap (2 * (IntKind.i64.wrap ((b0.Kids.length : Int) - 1))))))))
 else
 (if ((b0.Kind == 5)) = true then
 (if ((b0.Kind == 5)) = true then
 (ZY ((IntKind.i64.wrap (x3 + 2))))
 else
 (if ((b0.Kind == 4)) = true then
 (if ((decide (b0.Hi < 0))) = true then
 (Z17 ((IntKind.i64.wrap ((IntKind.i64.wrap (b0.Lo * x3)) + (IntKind.i64.wrap (x3 + 4))))) b0)
 else
 (Z17 ((IntKind.i64.wrap ((IntKind.i64.wrap (b0.Lo * x3)) + (IntKind.i64.wrap ((IntKind.i64.wrap (b0.Hi - b0.Lo)) * (IntKind.i64.wrap (x3 + 1))))))) b0))
 else
 (ZY x3)))
 else
 (if ((b0.Kind == 7)) = true then
 (if ((b0.Kind == 7)) = true then
 (ZY ((IntKind.i64.wrap (x3 + 2))))
 else
 (if ((b0.Kind == 4)) = true then
 (if ((decide (b0.Hi < 0))) = true then
 (Z17 ((IntKind.i64.wrap ((IntKind.i64.wrap (b0.Lo * x3)) + (IntKind.i64.wrap (x3 + 4))))) b0)
 else
 (Z17 ((IntKind.i64.wrap ((IntKind.i64.wrap (b0.Lo * x3)) + (IntKind.i64.wrap ((IntKind.i64.wrap (b0.Hi - b0.Lo)) * (IntKind.i64.wrap (x3 + 1))))))) b0))
 else
 (ZY x3)))
 else
 (if ((b0.Kind == 8)) = true then
 (ZY ((IntKind.i64.wrap (x3 + 2))))
 else
 (if ((b0.Kind == 4)) = true then
 (if ((decide (b0.Hi < 0))) = true then
 (Z17 ((IntKind.i64.wrap ((IntKind.i64.wrap (b0.Lo * x3)) + (IntKind.i64.wrap (x3 + 4))))) b0)
 else
 (Z17 ((IntKind.i64.wrap ((IntKind.i64.wrap (b0.Lo * x3)) + (IntKind.i64.wrap ((IntKind.i64.wrap (b0.Hi - b0.Lo)) * (IntKind.i64.wrap (x3 + 1))))))) b0))
 else
 (ZY x3)))))))
 else
 (if ((b0.Kind == 9)) = true then
 (some (1))
 else
 (if ((b0.Kind == 3)) = true then
 (ZY ((IntKind.i64.wrap (x3 + (IntKind.i64.wrap (2 * (IntKind.i64.wrap ((b0.Kids.length : Int) - 1))))))))
 else
 (if ((b0.Kind == 5)) = true then
 (if ((b0.Kind == 5)) = true then
 (ZY ((IntKind.i64.wrap (x3 + 2))))
 else
 (if ((b0.Kind == 4)) = true then
 (if ((decide (b0.Hi < 0))) = true then
 (Z17 ((IntKind.i64.wrap ((IntKind.i64.wrap (b0.Lo * x3)) + (IntKind.i64.wrap (x3 + 4))))) b0)
 else
 (Z17 ((IntKind.i64.wrap ((IntKind.i64.wrap (b0.Lo * x3)) + (IntKind.i64.wrap ((IntKind.i64.wrap (b0.Hi - b0.Lo)) * (IntKind.i64.wrap (x3 + 1))))))) b0))
 else
 (ZY x3)))
 else
 (if ((b0.Kind == 7)) = true then
 (if ((b0.Kind == 7)) = true then
 (ZY ((IntKind.i64.wrap (x3 + 2))))
 else
 (if ((b0.Kind == 4)) = true then
 (if ((decide (b0.Hi < 0))) = true then
 (Z17 ((IntKind.i64.wrap ((IntKind.i64.wrap (b0.Lo * x3)) + (IntKind.i64.wrap (x3 + 4))))) b0)
 else
 (Z17 ((IntKind.i64.wrap ((IntKind.i64.wrap (b0.Lo * x3)) + (IntKind.i64.wrap ((IntKind.i64.wrap (b0.Hi - b0.Lo)) * (IntKind.i64.wrap (x3 + 1))))))) b0))
 else
 (ZY x3)))
 else
 (if ((b0.Kind == 8)) = true then
 (ZY ((IntKind.i64.wrap (x3 + 2))))
 else
 (if ((b0.Kind == 4)) = true then
 (if ((decide (b0.Hi < 0))) = true then
 (Z17 ((IntKind.i64.wrap ((IntKind.i64.wrap (b0.Lo * x3)) + (IntKind.i64.wrap (x3 + 4))))) b0)
 else
 (Z17 ((IntKind.i64.wrap ((IntKind.i64.wrap (b0.Lo * x3)) + (IntKind.i64.wrap ((IntKind.i64.wrap (b0.Hi - b0.Lo)) * (IntKind.i64.wrap (x3 + 1))))))) b0))
 else
 (ZY x3))))))))
theorem ZcY (x3 : Int) (b0 : Z3) (z1f : Own) (z14 : Own) : Sim (Z3n) (Z1V x3 b0) (Zfj 0 (.ptr 0 0) (iv x3) [(Zq b0 z1f z14)]) := by
 unfold Z1V
 refine zf (Zi8 ..) ?_
 refine ze ?_
 refine zo (.ptr 0 0) ?_
 refine zo (iv b0.Kind) ?_
 refine ze ?_
 refine zo (bv (b0.Kind == 1)) ?_
 refine za ((b0.Kind == 1)) ?_ ?_
 ·refine za ((b0.Kind == 1)) ?_ ?_
  ·refine ze ?_
   exact zr ((iv 1), [(Zq b0 z1f z14)]) ⟨_, rfl⟩
  ·refine ze ?_
   refine zo (bv (b0.Kind == 3)) ?_
   refine za ((b0.Kind == 3)) ?_ ?_
   ·refine ze ?_
    refine zo (.ptr 0 6) ?_
    refine zo (.p (.lst (shrO z14) (b0.Kids.map ZG))) ?_
    refine zo (iv (b0.Kids.length : Int)) ?_ (Eq.trans (by kernel_rfl) (xlen_of (P := PP) (t := 25) (d := 27) (by kernel_rfl) ZG (shrO z14) b0.Kids))
    refine zo (iv (IntKind.i64.wrap ((b0.Kids.length : Int) - 1))) ?_
    refine zo (iv (IntKind.i64.wrap (2 * (IntKind.i64.wrap ((b0.Kids.length : Int) - 1))))) ?_
    refine zo (iv (IntKind.i64.wrap (x3 + (IntKind.i64.wrap (2 * (IntKind.i64.wrap ((b0.Kids.length : Int) - 1))))))) ?_
    exact zk (Z16 ((IntKind.i64.wrap (x3 + (IntKind.i64.wrap (2 * (IntKind.i64.wrap ((b0.Kids.length : Int) - 1))))))))
   ·refine ze ?_
    refine zo (bv (b0.Kind == 5)) ?_
    refine za ((b0.Kind == 5)) ?_ ?_
    ·refine za ((b0.Kind == 5)) ?_ ?_
     ·refine ze ?_
      refine zo (iv (IntKind.i64.wrap (x3 + 2))) ?_
      exact zk (Z16 ((IntKind.i64.wrap (x3 + 2))))
     ·refine ze ?_
      refine zo (bv (b0.Kind == 4)) ?_
      refine za ((b0.Kind == 4)) ?_ ?_
      ·refine ze ?_
       refine ze ?_
       refine zo (.ptr 0 1) ?_
       refine zo (iv b0.Lo) ?_
       refine zo (iv (IntKind.i64.wrap (b0.Lo * x3))) ?_
       refine ze ?_
       refine zo (.ptr 0 2) ?_
       refine zo (iv b0.Hi) ?_
       refine zo (bv (decide (b0.Hi < 0))) ?_
       refine za ((decide (b0.Hi < 0))) ?_ ?_
       ·refine ze ?_
        refine zo (iv (IntKind.i64.wrap (x3 + 4))) ?_
        refine zo (iv (IntKind.i64.wrap ((IntKind.i64.wrap (b0.Lo * x3)) + (IntKind.i64.wrap (x3 + 4))))) ?_
        exact zk (Z1i ((IntKind.i64.wrap ((IntKind.i64.wrap (b0.Lo * x3)) + (IntKind.i64.wrap (x3 + 4))))) (b0) z1f z14)
       ·refine ze ?_
        refine zo (.ptr 0 2) ?_
        refine zo (iv b0.Hi) ?_
        refine zo (.ptr 0 1) ?_
        refine zo (iv b0.Lo) ?_
        refine zo (iv (IntKind.i64.wrap (b0.Hi - b0.Lo))) ?_
        refine zo (iv (IntKind.i64.wrap (x3 + 1))) ?_
        refine zo (iv (IntKind.i64.wrap ((IntKind.i64.wrap (b0.Hi - b0.Lo)) * (IntKind.i64.wrap (x3 + 1))))) ?_
        refine zo (iv (IntKind.i64.wrap ((IntKind.i64.wrap (b0.Lo * x3)) + (IntKind.i64.wrap ((IntKind.i64.wrap (b0.Hi - b0.Lo)) * (IntKind.i64.wrap (x3 + 1))))))) ?_
        exact zk (Z1i ((IntKind.i64.wrap ((IntKind.i64.wrap (b0.Lo * x3)) + (IntKind.i64.wrap ((IntKind.i64.wrap (b0.Hi - b0.Lo)) * (IntKind.i64.wrap (x3 + 1))))))) (b0) z1f z14)
      ·exact zk (Z16 (x3))
    ·refine ze ?_
     refine zo (bv (b0.Kind == 7)) ?_
     refine za ((b0.Kind == 7)) ?_ ?_
     ·refine za ((b0.Kind == 7)) ?_ ?_
      ·refine ze ?_
       refine zo (iv (IntKind.i64.wrap (x3 + 2))) ?_
       exact zk (Z16 ((IntKind.i64.wrap (x3 + 2))))
      ·refine ze ?_
       refine zo (bv (b0.Kind == 4)) ?_
       refine za ((b0.Kind == 4)) ?_ ?_
       ·refine ze ?_
        refine ze ?_
        refine zo (.ptr 0 1) ?_
        refine zo (iv b0.Lo) ?_
        refine zo (iv (IntKind.i64.wrap (b0.Lo * x3))) ?_
        refine ze ?_
        refine zo (.ptr 0 2) ?_
        refine zo (iv b0.Hi) ?_
        refine zo (bv (decide (b0.Hi < 0))) ?_
        refine za ((decide (b0.Hi < 0))) ?_ ?_
        ·refine ze ?_
         refine zo (iv (IntKind.i64.wrap (x3 + 4))) ?_
         refine zo (iv (IntKind.i64.wrap ((IntKind.i64.wrap (b0.Lo * x3)) + (IntKind.i64.wrap (x3 + 4))))) ?_
         exact zk (Z1i ((IntKind.i64.wrap ((IntKind.i64.wrap (b0.Lo * x3)) + (IntKind.i64.wrap (x3 + 4))))) (b0) z1f z14)
        ·refine ze ?_
         refine zo (.ptr 0 2) ?_
         refine zo (iv b0.Hi) ?_
         refine zo (.ptr 0 1) ?_
         refine zo (iv b0.Lo) ?_
         refine zo (iv (IntKind.i64.wrap (b0.Hi - b0.Lo))) ?_
         refine zo (iv (IntKind.i64.wrap (x3 + 1))) ?_
         refine zo (iv (IntKind.i64.wrap ((IntKind.i64.wrap (b0.Hi - b0.Lo)) * (IntKind.i64.wrap (x3 + 1))))) ?_
         refine zo (iv (IntKind.i64.wrap ((IntKind.i64.wrap (b0.Lo * x3)) + (IntKind.i64.wrap ((IntKind.i64.wrap (b0.Hi - b0.Lo)) * (IntKind.i64.wrap (x3 + 1))))))) ?_
         exact zk (Z1i ((IntKind.i64.wrap ((IntKind.i64.wrap (b0.Lo * x3)) + (IntKind.i64.wrap ((IntKind.i64.wrap (b0.Hi - b0.Lo)) * (IntKind.i64.wrap (x3 + 1))))))) (b0) z1f z14)
       ·exact zk (Z16 (x3))
     ·refine ze ?_
      refine zo (bv (b0.Kind == 8)) ?_
      refine za ((b0.Kind == 8)) ?_ ?_
      ·refine ze ?_
       refine zo (iv (IntKind.i64.wrap (x3 + 2))) ?_
       exact zk (Z16 ((IntKind.i64.wrap (x3 + 2))))
      ·refine ze ?_
       refine zo (bv (b0.Kind == 4)) ?_
       refine za ((b0.Kind == 4)) ?_ ?_
       ·refine ze ?_
        refine ze ?_
        refine zo (.ptr 0 1) ?_
        refine zo (iv b0.Lo) ?_
        refine zo (iv (IntKind.i64.wrap (b0.Lo * x3))) ?_
        refine ze ?_
        refine zo (.ptr 0 2) ?_
        refine zo (iv b0.Hi) ?_
        refine zo (bv (decide (b0.Hi < 0))) ?_
        refine za ((decide (b0.Hi < 0))) ?_ ?_
        ·refine ze ?_
         refine zo (iv (IntKind.i64.wrap (x3 + 4))) ?_
         refine zo (iv (IntKind.i64.wrap ((IntKind.i64.wrap (b0.Lo * x3)) + (IntKind.i64.wrap (x3 + 4))))) ?_
         exact zk (Z1i ((IntKind.i64.wrap ((IntKind.i64.wrap (b0.Lo * x3)) + (IntKind.i64.wrap (x3 + 4))))) (b0) z1f z14)
        ·refine ze ?_
         refine zo (.ptr 0 2) ?_
         refine zo (iv b0.Hi) ?_
         refine zo (.ptr 0 1) ?_
         refine zo (iv b0.Lo) ?_
         refine zo (iv (IntKind.i64.wrap (b0.Hi - b0.Lo))) ?_
         refine zo (iv (IntKind.i64.wrap (x3 + 1))) ?_
         refine zo (iv (IntKind.i64.wrap ((IntKind.i64.wrap (b0.Hi - b0.Lo)) * (IntKind.i64.wrap (x3 + 1))))) ?_
         refine zo (iv (IntKind.i64.wrap ((IntKind.i64.wrap (b0.Lo * x3)) + (IntKind.i64.wrap ((IntKind.i64.wrap (b0.Hi - b0.Lo)) * (IntKind.i64.wrap (x3 + 1))))))) ?_
         exact zk (Z1i ((IntKind.i64.wrap ((IntKind.i64.wrap (b0.Lo * x3)) + (IntKind.i64.wrap ((IntKind.i64.wrap (b0.Hi - b0.Lo)) * (IntKind.i64.wrap (x3 + 1))))))) (b0) z1f z14)
       ·exact zk (Z16 (x3))
 ·refine ze ?_
  refine zo (bv (b0.Kind == 6)) ?_
  refine za ((b0.Kind == 6)) ?_ ?_
  ·refine za ((b0.Kind == 6)) ?_ ?_
   ·refine ze ?_
    exact zr ((iv 1), [(Zq b0 z1f z14)]) ⟨_, rfl⟩
   ·refine ze ?_
    refine zo (bv (b0.Kind == 3)) ?_
    refine za ((b0.Kind == 3)) ?_ ?_
    ·refine ze ?_
     refine zo (.ptr 0 6) ?_
     refine zo (.p (.lst (shrO z14) (b0.Kids.map ZG))) ?_
     refine zo (iv (b0.Kids.length : Int)) ?_ (Eq.trans (by kernel_rfl) (xlen_of (P := PP) (t := 25) (d := 27) (by kernel_rfl) ZG (shrO z14) b0.Kids))
     refine zo (iv (IntKind.i64.wrap ((b0.Kids.length : Int) - 1))) ?_
     refine zo (iv (IntKind.i64.wrap (2 * (IntKind.i64.wrap ((b0.Kids.length : Int) - 1))))) ?_
     refine zo (iv (IntKind.i64.wrap (x3 + (IntKind.i64.wrap (2 * (IntKind.i64.wrap ((b0.Kids.length : Int) - 1))))))) ?_
     exact zk (Z16 ((IntKind.i64.wrap (x3 + (IntKind.i64.wrap (2 * (IntKind.i64.wrap ((b0.Kids.length : Int) - 1))))))))
    ·refine ze ?_
     refine zo (bv (b0.Kind == 5)) ?_
     refine za ((b0.Kind == 5)) ?_ ?_
     ·refine za ((b0.Kind == 5)) ?_ ?_
      ·refine ze ?_
       refine zo (iv (IntKind.i64.wrap (x3 + 2))) ?_
       exact zk (Z16 ((IntKind.i64.wrap (x3 + 2))))
      ·refine ze ?_
       refine zo (bv (b0.Kind == 4)) ?_
       refine za ((b0.Kind == 4)) ?_ ?_
       ·refine ze ?_
        refine ze ?_
        refine zo (.ptr 0 1) ?_
        refine zo (iv b0.Lo) ?_
        refine zo (iv (IntKind.i64.wrap (b0.Lo * x3))) ?_
        refine ze ?_
        refine zo (.ptr 0 2) ?_
        refine zo (iv b0.Hi) ?_
        refine zo (bv (decide (b0.Hi < 0))) ?_
        refine za ((decide (b0.Hi < 0))) ?_ ?_
        ·refine ze ?_
         refine zo (iv (IntKind.i64.wrap (x3 + 4))) ?_
         refine zo (iv (IntKind.i64.wrap ((IntKind.i64.wrap (b0.Lo * x3)) + (IntKind.i64.wrap (x3 + 4))))) ?_
         exact zk (Z1i ((IntKind.i64.wrap ((IntKind.i64.wrap (b0.Lo * x3)) + (IntKind.i64.wrap (x3 + 4))))) (b0) z1f z14)
        ·refine ze ?_
         refine zo (.ptr 0 2) ?_
         refine zo (iv b0.Hi) ?_
         refine zo (.ptr 0 1) ?_
         refine zo (iv b0.Lo) ?_
         refine zo (iv (IntKind.i64.wrap (b0.Hi - b0.Lo))) ?_
         refine zo (iv (IntKind.i64.wrap (x3 + 1))) ?_
         refine zo (iv (IntKind.i64.wrap ((IntKind.i64.wrap (b0.Hi - b0.Lo)) * (IntKind.i64.wrap (x3 + 1))))) ?_
         refine zo (iv (IntKind.i64.wrap ((IntKind.i64.wrap (b0.Lo * x3)) + (IntKind.i64.wrap ((IntKind.i64.wrap (b0.Hi - b0.Lo)) * (IntKind.i64.wrap (x3 + 1))))))) ?_
         exact zk (Z1i ((IntKind.i64.wrap ((IntKind.i64.wrap (b0.Lo * x3)) + (IntKind.i64.wrap ((IntKind.i64.wrap (b0.Hi - b0.Lo)) * (IntKind.i64.wrap (x3 + 1))))))) (b0) z1f z14)
       ·exact zk (Z16 (x3))
     ·refine ze ?_
      refine zo (bv (b0.Kind == 7)) ?_
      refine za ((b0.Kind == 7)) ?_ ?_
      ·refine za ((b0.Kind == 7)) ?_ ?_
       ·refine ze ?_
        refine zo (iv (IntKind.i64.wrap (x3 + 2))) ?_
        exact zk (Z16 ((IntKind.i64.wrap (x3 + 2))))
       ·refine ze ?_
        refine zo (bv (b0.Kind == 4)) ?_
        refine za ((b0.Kind == 4)) ?_ ?_
        ·refine ze ?_
         refine ze ?_
         refine zo (.ptr 0 1) ?_
         refine zo (iv b0.Lo) ?_
         refine zo (iv (IntKind.i64.wrap (b0.Lo * x3))) ?_
         refine ze ?_
         refine zo (.ptr 0 2) ?_
         refine zo (iv b0.Hi) ?_
         refine zo (bv (decide (b0.Hi < 0))) ?_
         refine za ((decide (b0.Hi < 0))) ?_ ?_
         ·refine ze ?_
          refine zo (iv (IntKind.i64.wrap (x3 + 4))) ?_
          refine zo (iv (IntKind.i64.wrap ((IntKind.i64.wrap (b0.Lo * x3)) + (IntKind.i64.wrap (x3 + 4))))) ?_
          exact zk (Z1i ((IntKind.i64.wrap ((IntKind.i64.wrap (b0.Lo * x3)) + (IntKind.i64.wrap (x3 + 4))))) (b0) z1f z14)
         ·refine ze ?_
          refine zo (.ptr 0 2) ?_
          refine zo (iv b0.Hi) ?_
          refine zo (.ptr 0 1) ?_
          refine zo (iv b0.Lo) ?_
          refine zo (iv (IntKind.i64.wrap (b0.Hi - b0.Lo))) ?_
          refine zo (iv (IntKind.i64.wrap (x3 + 1))) ?_
          refine zo (iv (IntKind.i64.wrap ((IntKind.i64.wrap (b0.Hi - b0.Lo)) * (IntKind.i64.wrap (x3 + 1))))) ?_
          refine zo (iv (IntKind.i64.wrap ((IntKind.i64.wrap (b0.Lo * x3)) + (IntKind.i64.wrap ((IntKind.i64.wrap (b0.Hi - b0.Lo)) * (IntKind.i64.wrap (x3 + 1))))))) ?_
          exact zk (Z1i ((IntKind.i64.wrap ((IntKind.i64.wrap (b0.Lo * x3)) + (IntKind.i64.wrap ((IntKind.i64.wrap (b0.Hi - b0.Lo)) * (IntKind.i64.wrap (x3 + 1))))))) (b0) z1f z14)
        ·exact zk (Z16 (x3))
      ·refine ze ?_
       refine zo (bv (b0.Kind == 8)) ?_
       refine za ((b0.Kind == 8)) ?_ ?_
       ·refine ze ?_
        refine zo (iv (IntKind.i64.wrap (x3 + 2))) ?_
        exact zk (Z16 ((IntKind.i64.wrap (x3 + 2))))
       ·refine ze ?_
        refine zo (bv (b0.Kind == 4)) ?_
        refine za ((b0.Kind == 4)) ?_ ?_
        ·refine ze ?_
         refine ze ?_
         refine zo (.ptr 0 1) ?_
         refine zo (iv b0.Lo) ?_
         refine zo (iv (IntKind.i64.wrap (b0.Lo * x3))) ?_
         refine ze ?_
         refine zo (.ptr 0 2) ?_
         refine zo (iv b0.Hi) ?_
         refine zo (bv (decide (b0.Hi < 0))) ?_
         refine za ((decide (b0.Hi < 0))) ?_ ?_
         ·refine ze ?_
          refine zo (iv (IntKind.i64.wrap (x3 + 4))) ?_
          refine zo (iv (IntKind.i64.wrap ((IntKind.i64.wrap (b0.Lo * x3)) + (IntKind.i64.wrap (x3 + 4))))) ?_
          exact zk (Z1i ((IntKind.i64.wrap ((IntKind.i64.wrap (b0.Lo * x3)) + (IntKind.i64.wrap (x3 + 4))))) (b0) z1f z14)
         ·refine ze ?_
          refine zo (.ptr 0 2) ?_
          refine zo (iv b0.Hi) ?_
          refine zo (.ptr 0 1) ?_
          refine zo (iv b0.Lo) ?_
          refine zo (iv (IntKind.i64.wrap (b0.Hi - b0.Lo))) ?_
          refine zo (iv (IntKind.i64.wrap (x3 + 1))) ?_
          refine zo (iv (IntKind.i64.wrap ((IntKind.i64.wrap (b0.Hi - b0.Lo)) * (IntKind.i64.wrap (x3 + 1))))) ?_
          refine zo (iv (IntKind.i64.wrap ((IntKind.i64.wrap (b0.Lo * x3)) + (IntKind.i64.wrap ((IntKind.i64.wrap (b0.Hi - b0.Lo)) * (IntKind.i64.wrap (x3 + 1))))))) ?_
          exact zk (Z1i ((IntKind.i64.wrap ((IntKind.i64.wrap (b0.Lo * x3)) + (IntKind.i64.wrap ((IntKind.i64.wrap (b0.Hi - b0.Lo)) * (IntKind.i64.wrap (x3 + 1))))))) (b0) z1f z14)
        ·exact zk (Z16 (x3))
  ·refine ze ?_
   refine zo (bv (b0.Kind == 9)) ?_
   refine za ((b0.Kind == 9)) ?_ ?_
   ·refine ze ?_
    exact zr ((iv 1), [(Zq b0 z1f z14)]) ⟨_, rfl⟩
   ·refine ze ?_
    refine zo (bv (b0.Kind == 3)) ?_
    refine za ((b0.Kind == 3)) ?_ ?_
    ·refine ze ?_
     refine zo (.ptr 0 6) ?_
     refine zo (.p (.lst (shrO z14) (b0.Kids.map ZG))) ?_
     refine zo (iv (b0.Kids.length : Int)) ?_ (Eq.trans (by kernel_rfl) (xlen_of (P := PP) (t := 25) (d := 27) (by kernel_rfl) ZG (shrO z14) b0.Kids))
     refine zo (iv (IntKind.i64.wrap ((b0.Kids.length : Int) - 1))) ?_
     refine zo (iv (IntKind.i64.wrap (2 * (IntKind.i64.wrap ((b0.Kids.length : Int) - 1))))) ?_
     refine zo (iv (IntKind.i64.wrap (x3 + (IntKind.i64.wrap (2 * (IntKind.i64.wrap ((b0.Kids.length : Int) - 1))))))) ?_
     exact zk (Z16 ((IntKind.i64.wrap (x3 + (IntKind.i64.wrap (2 * (IntKind.i64.wrap ((b0.Kids.length : Int) - 1))))))))
    ·refine ze ?_
     refine zo (bv (b0.Kind == 5)) ?_
     refine za ((b0.Kind == 5)) ?_ ?_
     ·refine za ((b0.Kind == 5)) ?_ ?_
      ·refine ze ?_
       refine zo (iv (IntKind.i64.wrap (x3 + 2))) ?_
       exact zk (Z16 ((IntKind.i64.wrap (x3 + 2))))
      ·refine ze ?_
       refine zo (bv (b0.Kind == 4)) ?_
       refine za ((b0.Kind == 4)) ?_ ?_
       ·refine ze ?_
        refine ze ?_
        refine zo (.ptr 0 1) ?_
        refine zo (iv b0.Lo) ?_
        refine zo (iv (IntKind.i64.wrap (b0.Lo * x3))) ?_
        refine ze ?_
        refine zo (.ptr 0 2) ?_
        refine zo (iv b0.Hi) ?_
        refine zo (bv (decide (b0.Hi < 0))) ?_
        refine za ((decide (b0.Hi < 0))) ?_ ?_
        ·refine ze ?_
         refine zo (iv (IntKind.i64.wrap (x3 + 4))) ?_
         refine zo (iv (IntKind.i64.wrap ((IntKind.i64.wrap (b0.Lo * x3)) + (IntKind.i64.wrap (x3 + 4))))) ?_
         exact zk (Z1i ((IntKind.i64.wrap ((IntKind.i64.wrap (b0.Lo * x3)) + (IntKind.i64.wrap (x3 + 4))))) (b0) z1f z14)
        ·refine ze ?_
         refine zo (.ptr 0 2) ?_
         refine zo (iv b0.Hi) ?_
         refine zo (.ptr 0 1) ?_
         refine zo (iv b0.Lo) ?_
         refine zo (iv (IntKind.i64.wrap (b0.Hi - b0.Lo))) ?_
         refine zo (iv (IntKind.i64.wrap (x3 + 1))) ?_
         refine zo (iv (IntKind.i64.wrap ((IntKind.i64.wrap (b0.Hi - b0.Lo)) * (IntKind.i64.wrap (x3 + 1))))) ?_
         refine zo (iv (IntKind.i64.wrap ((IntKind.i64.wrap (b0.Lo * x3)) + (IntKind.i64.wrap ((IntKind.i64.wrap (b0.Hi - b0.Lo)) * (IntKind.i64.wrap (x3 + 1))))))) ?_
         exact zk (Z1i ((IntKind.i64.wrap ((IntKind.i64.wrap (b0.Lo * x3)) + (IntKind.i64.wrap ((IntKind.i64.wrap (b0.Hi - b0.Lo)) * (IntKind.i64.wrap (x3 + 1))))))) (b0) z1f z14)
       ·exact zk (Z16 (x3))
     ·refine ze ?_
      refine zo (bv (b0.Kind == 7)) ?_
      refine za ((b0.Kind == 7)) ?_ ?_
      ·refine za ((b0.Kind == 7)) ?_ ?_
       ·refine ze ?_
        refine zo (iv (IntKind.i64.wrap (x3 + 2))) ?_
        exact zk (Z16 ((IntKind.i64.wrap (x3 + 2))))
       ·refine ze ?_
        refine zo (bv (b0.Kind == 4)) ?_
        refine za ((b0.Kind == 4)) ?_ ?_
        ·refine ze ?_
         refine ze ?_
         refine zo (.ptr 0 1) ?_
         refine zo (iv b0.Lo) ?_
         refine zo (iv (IntKind.i64.wrap (b0.Lo * x3))) ?_
         refine ze ?_
         refine zo (.ptr 0 2) ?_
         refine zo (iv b0.Hi) ?_
         refine zo (bv (decide (b0.Hi < 0))) ?_
         refine za ((decide (b0.Hi < 0))) ?_ ?_
         ·refine ze ?_
          refine zo (iv (IntKind.i64.wrap (x3 + 4))) ?_
          refine zo (iv (IntKind.i64.wrap ((IntKind.i64.wrap (b0.Lo * x3)) + (IntKind.i64.wrap (x3 + 4))))) ?_
          exact zk (Z1i ((IntKind.i64.wrap ((IntKind.i64.wrap (b0.Lo * x3)) + (IntKind.i64.wrap (x3 + 4))))) (b0) z1f z14)
         ·refine ze ?_
          refine zo (.ptr 0 2) ?_
          refine zo (iv b0.Hi) ?_
          refine zo (.ptr 0 1) ?_
          refine zo (iv b0.Lo) ?_
          refine zo (iv (IntKind.i64.wrap (b0.Hi - b0.Lo))) ?_
          refine zo (iv (IntKind.i64.wrap (x3 + 1))) ?_
          refine zo (iv (IntKind.i64.wrap ((IntKind.i64.wrap (b0.Hi - b0.Lo)) * (IntKind.i64.wrap (x3 + 1))))) ?_
          refine zo (iv (IntKind.i64.wrap ((IntKind.i64.wrap (b0.Lo * x3)) + (IntKind.i64.wrap ((IntKind.i64.wrap (b0.Hi - b0.Lo)) * (IntKind.i64.wrap (x3 + 1))))))) ?_
          exact zk (Z1i ((IntKind.i64.wrap ((IntKind.i64.wrap (b0.Lo * x3)) + (IntKind.i64.wrap ((IntKind.i64.wrap (b0.Hi - b0.Lo)) * (IntKind.i64.wrap (x3 + 1))))))) (b0) z1f z14)
        ·exact zk (Z16 (x3))
      ·refine ze ?_
       refine zo (bv (b0.Kind == 8)) ?_
       refine za ((b0.Kind == 8)) ?_ ?_
       ·refine ze ?_
        refine zo (iv (IntKind.i64.wrap (x3 + 2))) ?_
        exact zk (Z16 ((IntKind.i64.wrap (x3 + 2))))
       ·refine ze ?_
        refine zo (bv (b0.Kind == 4)) ?_
        refine za ((b0.Kind == 4)) ?_ ?_
        ·refine ze ?_
         refine ze ?_
         refine zo (.ptr 0 1) ?_
         refine zo (iv b0.Lo) ?_
         refine zo (iv (IntKind.i64.wrap (b0.Lo * x3))) ?_
         refine ze ?_
         refine zo (.ptr 0 2) ?_
         refine zo (iv b0.Hi) ?_
         refine zo (bv (decide (b0.Hi < 0))) ?_
         refine za ((decide (b0.Hi < 0))) ?_ ?_
         ·refine ze ?_
          refine zo (iv (IntKind.i64.wrap (x3 + 4))) ?_
          refine zo (iv (IntKind.i64.wrap ((IntKind.i64.wrap (b0.Lo * x3)) + (IntKind.i64.wrap (x3 + 4))))) ?_
          exact zk (Z1i ((IntKind.i64.wrap ((IntKind.i64.wrap (b0.Lo * x3)) + (IntKind.i64.wrap (x3 + 4))))) (b0) z1f z14)
         ·refine ze ?_
          refine zo (.ptr 0 2) ?_
          refine zo (iv b0.Hi) ?_
          refine zo (.ptr 0 1) ?_
          refine zo (iv b0.Lo) ?_
          refine zo (iv (IntKind.i64.wrap (b0.Hi - b0.Lo))) ?_
          refine zo (iv (IntKind.i64.wrap (x3 + 1))) ?_
          refine zo (iv (IntKind.i64.wrap ((IntKind.i64.wrap (b0.Hi - b0.Lo)) * (IntKind.i64.wrap (x3 + 1))))) ?_
          refine zo (iv (IntKind.i64.wrap ((IntKind.i64.wrap (b0.Lo * x3)) + (IntKind.i64.wrap ((IntKind.i64.wrap (b0.Hi - b0.Lo)) * (IntKind.i64.wrap (x3 + 1))))))) ?_
          exact zk (Z1i ((IntKind.i64.wrap ((IntKind.i64.wrap (b0.Lo * x3)) + (IntKind.i64.wrap ((IntKind.i64.wrap (b0.Hi - b0.Lo)) * (IntKind.i64.wrap (x3 + 1))))))) (b0) z1f z14)
        ·exact zk (Z16 (x3))
noncomputable def Z4Q (x3 : Int) (x8 : List Z3) (x9 : Int) (x10 : Int) (b0 : Z3) : Option (Int) :=
 if ((decide (x10 < x9))) = true then
 (Z6q x3 x8 x9 x10 b0)
 else
 (Z1V x3 b0)
theorem ZcW (x3 : Int) (x8 : List Z3) (x9 : Int) (x10 : Int) (b0 : Z3) (ox8 : Own) (z1f : Own) (z14 : Own) : Sim (Z3n) (Z4Q x3 x8 x9 x10 b0) (Zca 0 (.ptr 0 0) (iv x3) (.p (.lst ox8 (x8.map ZG))) (iv x9) (iv x10) [(Zq b0 z1f z14)]) := by
 unfold Z4Q
 refine zf (ZiC ..) ?_
 refine ze ?_
 refine zo (bv (decide (x10 < x9))) ?_
 refine za ((decide (x10 < x9))) ?_ ?_
 ·exact zk (ZcU (x3) (x8) (x9) (x10) (b0) ox8 z1f z14)
 ·exact zk (ZcY (x3) (b0) z1f z14)
theorem Z6t (x3 : Int) (x8 : List Z3) (x9 : Int) (x10 : Int) (b0 : Z3) {r} (h : Z4Q x3 x8 x9 x10 b0 = some r) : Z3A x3 x8 x9 x10 b0 = some r :=
 pick_of (fun _ _ ha hb => RRun.uniq (Zco) (ha .ex .ex .ex) (hb .ex .ex .ex)) (fun ox8 z1f z14 => ZcW x3 x8 x9 x10 b0 ox8 z1f z14 r h)
noncomputable def Z71  : Option (Int) :=
 some (0)
theorem ZcJ  : Sim (Z6j) (Z71) (Zfs 0  []) := by
 unfold Z71
 refine zf (ZhJ ..) ?_
 refine ze ?_
 exact zr ((iv 0), []) ⟨_, rfl⟩
noncomputable def Z8I (x0 : ZE) : Option (Int) :=
 (Z2Z x0.Root).bind fun r1 =>
 if ((!r1)) = true then
 (some (27))
 else
 ((Z28 x0.Root).bind fun r2 =>
 if ((decide (2000 < (IntKind.i64.wrap (r2 + 3))))) = true then
 (some (28))
 else
 (Z71))
theorem Zdv (x0 : ZE) (z2E : Own) (z2s : Own) : Sim (Z6j) (Z8I x0) (EE 26 [(.p (.agg (Z1k x0 z2E z2s)))] []) := by
 unfold Z8I
 refine zf (Zk5 ..) ?_
 refine ze ?_
 refine zx (.ptr 0 0) [(ZA x0 z2E z2s)] ?_
 refine ze ?_
 refine zo (.ptr 0 0) ?_
 refine zo (.p (.agg (ZC x0.Root (shrO z2E) (shrO z2s)))) ?_
 refine zi fun r1 hr1 => ?_
 obtain ⟨qr1, er1, exr1, rfl⟩ := Z9Z (x0.Root) .sh .sh r1 hr1
 refine zc [] (bv r1) [(ZA x0 z2E z2s)] er1 ?_
 refine zo (bv (!r1)) ?_
 refine za ((!r1)) ?_ ?_
 ·refine ze ?_
  exact zr ((iv 27), [(ZA x0 z2E z2s)]) ⟨_, rfl⟩
 ·refine ze ?_
  refine zo (.ptr 0 0) ?_
  refine zo (.p (.agg (ZC x0.Root (shrO z2E) (shrO z2s)))) ?_
  refine zi fun r2 hr2 => ?_
  obtain ⟨qr2, er2, exr2, rfl⟩ := Z5z (x0.Root) .sh .sh r2 hr2
  refine zc [] (iv r2) [(ZA x0 z2E z2s)] er2 ?_
  refine zo (iv (IntKind.i64.wrap (r2 + 3))) ?_
  refine zo (bv (decide (2000 < (IntKind.i64.wrap (r2 + 3))))) ?_
  refine za ((decide (2000 < (IntKind.i64.wrap (r2 + 3))))) ?_ ?_
  ·refine ze ?_
   exact zr ((iv 28), [(ZA x0 z2E z2s)]) ⟨_, rfl⟩
  ·exact zk (ZcJ )
theorem ZdN (x0 : ZE) {r} (h : Z8I x0 = some r) : Z8F x0 = some r :=
 pick_of (fun _ _ ha hb => RRun.uniq (Zeh) (ha .ex .ex) (hb .ex .ex)) (fun z2E z2s => Zdv x0 z2E z2s r h)
noncomputable def Z5w  : Option (Bool) :=
 some (false)
theorem Z8v  : Sim (Z4g) (Z5w) (Ze8 0  []) := by
 unfold Z5w
 refine zf (Ziz ..) ?_
 refine ze ?_
 exact zr ((bv false), []) ⟨_, rfl⟩
noncomputable def Z2z (b0 : Z3) : Option (Bool) :=
 (Z3D b0.Kids).bind fun r1 =>
 some ((!r1))
theorem Z6w (b0 : Z3) (z1f : Own) (z14 : Own) : Sim (Z4g) (Z2z b0) (Zd6 0 (.ptr 0 0) [(Zq b0 z1f z14)]) := by
 unfold Z2z
 refine zf (ZiL ..) ?_
 refine ze ?_
 refine zo (.ptr 0 6) ?_
 refine zo (.p (.lst (shrO z14) (b0.Kids.map ZG))) ?_
 refine zi fun r1 hr1 => ?_
 obtain ⟨qr1, er1, exr1, rfl⟩ := Z8B (b0.Kids) .sh r1 hr1
 refine zc [] (bv r1) [(Zq b0 z1f z14)] er1 ?_
 refine zo (bv (!r1)) ?_
 exact zr ((bv (!r1)), [(Zq b0 z1f z14)]) ⟨_, rfl⟩
noncomputable def Z5u (b0 : Z3) : Option (Bool) :=
 (lget b0.Kids 0).bind fun a1 =>
 (Z1n a1).bind fun r2 =>
 if ((decide (r2.2 < 0))) = true then
 (Z5w)
 else
 (if ((decide (32 < r2.2))) = true then
 (Z5w)
 else
 (Z2z b0))
theorem ZbM (b0 : Z3) (z1f : Own) (z14 : Own) : Sim (Z4g) (Z5u b0) (ZfD 0 (.ptr 0 0) [(Zq b0 z1f z14)]) := by
 unfold Z5u
 refine zf (ZhM ..) ?_
 refine ze ?_
 refine zo (.ptr 0 6) ?_
 refine zo (.p (.lst (shrO z14) (b0.Kids.map ZG))) ?_
 refine zi fun a1 ha1 => ?_
 refine zo (.cptr (ZC a1 .sh .sh)) ?_ (Eq.trans (by kernel_rfl) (xidx_of (o := (shrO z14)) (k := .i64) (n := 7) (e := ZG) (cs := Z24) Z42 (fun _ => rfl) (by decide) ha1))
 refine zo (.p (.agg (ZC a1 .sh .sh))) ?_
 refine zi fun r2 hr2 => ?_
 obtain ⟨qr2, er2, exr2, rfl⟩ := Z34 (a1) .sh .sh r2 hr2
 refine zc [] (.p (.tup [(.v (.int .i64 r2.1)), (.v (.int .i64 r2.2))])) [(Zq b0 z1f z14)] er2 ?_
 refine zo (iv r2.1) ?_
 refine zo (iv r2.2) ?_
 refine ze ?_
 refine zo (bv (decide (r2.2 < 0))) ?_
 refine za ((decide (r2.2 < 0))) ?_ ?_
 ·exact zk (Z8v )
 ·refine zo (bv (decide (32 < r2.2))) ?_
  refine za ((decide (32 < r2.2))) ?_ ?_
  ·exact zk (Z8v )
  ·exact zk (Z6w (b0) z1f z14)
noncomputable def Z7j (x0 : Z3) : Option (Bool) :=
 if ((x0.Kind == 7)) = true then
 (if ((decide (2 ≤ x0.Mode))) = true then
 (Z5u x0)
 else
 (Z2z x0))
 else
 (Z2z x0)
theorem ZcV (x0 : Z3) (z1e : Own) (z10 : Own) : Sim (Z4g) (Z7j x0) (EE 34 [(.p (.agg (ZC x0 z1e z10)))] []) := by
 unfold Z7j
 refine zf (Zkv ..) ?_
 refine ze ?_
 refine zx (.ptr 0 0) [(Zq x0 z1e z10)] ?_
 refine ze ?_
 refine zo (.ptr 0 0) ?_
 refine zo (iv x0.Kind) ?_
 refine zo (bv (x0.Kind == 7)) ?_
 refine za ((x0.Kind == 7)) ?_ ?_
 ·refine zo (.ptr 0 3) ?_
  refine zo (iv x0.Mode) ?_
  refine zo (bv (decide (2 ≤ x0.Mode))) ?_
  refine za ((decide (2 ≤ x0.Mode))) ?_ ?_
  ·exact zk (ZbM (x0) z1e z10)
  ·exact zk (Z6w (x0) z1e z10)
 ·exact zk (Z6w (x0) z1e z10)
theorem Zda (x0 : Z3) {r} (h : Z7j x0 = some r) : Z2Z x0 = some r :=
 pick_of (fun _ _ ha hb => RRun.uniq (Zdy) (ha .ex .ex) (hb .ex .ex)) (fun z1e z10 => ZcV x0 z1e z10 r h)
noncomputable def Z3B (x0 : List Z3) : Option (Bool) :=
 (Z4h x0).bind fun r1 =>
 some ((decide (0 ≤ r1)))
theorem Z8e (x0 : List Z3) (ox0 : Own) : Sim (Z31) (Z3B x0) (EE 39 [(.p (.lst ox0 (x0.map ZG))), (.clo 40 [] [])] []) := by
 unfold Z3B
 refine zf (ZjP ..) ?_
 refine ze ?_
 refine ze ?_
 refine zi fun r1 hr1 => ?_
 obtain ⟨qr1, er1, exr1, rfl⟩ := Z9l (x0) .sh r1 hr1
 refine zc [] (iv r1) [] er1 ?_
 refine zo (bv (decide (0 ≤ r1))) ?_
 exact zr ((bv (decide (0 ≤ r1))), []) ⟨_, rfl⟩
theorem Z8t (x0 : List Z3) {r} (h : Z3B x0 = some r) : Z3D x0 = some r :=
 pick_of (fun _ _ ha hb => RRun.uniq (Z8Q) (ha .ex) (hb .ex)) (fun ox0 => Z8e x0 ox0 r h)
noncomputable def Z4f (x0 : List Z3) : Option (Int) :=
 Z30 x0 ((x0.length : Int)) 0
theorem Z9b (x0 : List Z3) (ox0 : Own) : Sim (Z1w) (Z4f x0) (EE 44 [(.p (.lst ox0 (x0.map ZG))), (.clo 40 [] [])] []) := by
 unfold Z4f
 refine zf (ZkI ..) ?_
 refine ze ?_
 refine ze ?_
 refine zo (iv (x0.length : Int)) ?_ (Eq.trans (by kernel_rfl) (xlen_of (P := PP) (t := 25) (d := 27) (by kernel_rfl) ZG (shrO ox0) x0))
 exact zk (Z5X (x0) ((x0.length : Int)) (0) ox0)
theorem Z9i (x0 : List Z3) {r} (h : Z4f x0 = some r) : Z4h x0 = some r :=
 pick_of (fun _ _ ha hb => RRun.uniq (Z6A) (ha .ex) (hb .ex)) (fun ox0 => Z9b x0 ox0 r h)
noncomputable def Z3C (x0 : List Z3) (x7 : Int) (x8 : Int) : Option (Int) :=
 Z30 x0 x7 ((IntKind.i64.wrap (x8 + 1)))
theorem Z8c (x0 : List Z3) (x7 : Int) (x8 : Int) (ox0 : Own) : Sim (Z1w) (Z3C x0 x7 x8) (Zfz 0 (.p (.lst ox0 (x0.map ZG))) (.clo 40 [] []) (iv x7) (iv x8) []) := by
 unfold Z3C
 refine zf (ZiN ..) ?_
 refine ze ?_
 refine zo (iv (IntKind.i64.wrap (x8 + 1))) ?_
 exact zk (Z5X (x0) (x7) ((IntKind.i64.wrap (x8 + 1))) ox0)
noncomputable def Z33 (x0 : List Z3) (x7 : Int) (x8 : Int) : Option (Int) :=
 (lget x0 x8).bind fun a1 =>
 (Z6I a1).bind fun r2 =>
 if (r2) = true then
 (some (x8))
 else
 (Z3C x0 x7 x8)
theorem Z8d (x0 : List Z3) (x7 : Int) (x8 : Int) (ox0 : Own) : Sim (Z1w) (Z33 x0 x7 x8) (Zfl 0 (.p (.lst ox0 (x0.map ZG))) (.clo 40 [] []) (iv x7) (iv x8) []) := by
 unfold Z33
 refine zf (ZiU ..) ?_
 refine ze ?_
 refine ze ?_
 refine zi fun a1 ha1 => ?_
 refine zo (.cptr (ZC a1 .sh .sh)) ?_ (Eq.trans (by kernel_rfl) (xidx_of (o := (shrO ox0)) (k := .i64) (n := 7) (e := ZG) (cs := Z24) Z42 (fun _ => rfl) (by decide) ha1))
 refine zo (.p (.agg (ZC a1 .sh .sh))) ?_
 refine zi fun r2 hr2 => ?_
 obtain ⟨qr2, er2, exr2, rfl⟩ := ZcG (a1) .sh .sh r2 hr2
 refine zv [] (bv r2) [] er2 ?_
 refine za (r2) ?_ ?_
 ·refine ze ?_
  exact zr ((iv x8), []) ⟨_, rfl⟩
 ·exact zk (Z8c (x0) (x7) (x8) ox0)
noncomputable def Z4U  : Option (Int) :=
 some ((-1))
theorem Z8h  : Sim (Z1w) (Z4U) (Zg7 0  []) := by
 unfold Z4U
 refine zf (Zj4 ..) ?_
 refine ze ?_
 exact zr ((iv (-1)), []) ⟨_, rfl⟩
noncomputable def Z2r (x0 : List Z3) (x7 : Int) (x8 : Int) : Option (Int) :=
 if ((decide (x8 < x7))) = true then
 (Z33 x0 x7 x8)
 else
 (Z4U)
theorem Z8g (x0 : List Z3) (x7 : Int) (x8 : Int) (ox0 : Own) : Sim (Z1w) (Z2r x0 x7 x8) (Zc3 0 (.p (.lst ox0 (x0.map ZG))) (.clo 40 [] []) (iv x7) (iv x8) []) := by
 unfold Z2r
 refine zf (ZiX ..) ?_
 refine ze ?_
 refine zo (bv (decide (x8 < x7))) ?_
 refine za ((decide (x8 < x7))) ?_ ?_
 ·exact zk (Z8d (x0) (x7) (x8) ox0)
 ·exact zk (Z8h )
theorem Z4m (x0 : List Z3) (x7 : Int) (x8 : Int) {r} (h : Z2r x0 x7 x8 = some r) : Z30 x0 x7 x8 = some r :=
 pick_of (fun _ _ ha hb => RRun.uniq (Z6A) (ha .ex) (hb .ex)) (fun ox0 => Z8g x0 x7 x8 ox0 r h)
noncomputable def Z6F (x0 : Z3) : Option (Bool) :=
 (Z2Z x0).bind fun r1 =>
 some ((!r1))
theorem Zcd (x0 : Z3) (z1e : Own) (z10 : Own) : Sim (Z5J) (Z6F x0) (EE 40 [(.p (.agg (ZC x0 z1e z10)))] []) := by
 unfold Z6F
 refine zf (ZkK ..) ?_
 refine ze ?_
 refine zx (.ptr 0 0) [(Zq x0 z1e z10)] ?_
 refine ze ?_
 refine zo (.p (.agg (ZC x0 (shrO z1e) (shrO z10)))) ?_
 refine zi fun r1 hr1 => ?_
 obtain ⟨qr1, er1, exr1, rfl⟩ := Z9Z (x0) .sh .sh r1 hr1
 refine zc [] (bv r1) [(Zq x0 z1e z10)] er1 ?_
 refine zo (bv (!r1)) ?_
 exact zr ((bv (!r1)), [(Zq x0 z1e z10)]) ⟨_, rfl⟩
theorem ZcA (x0 : Z3) {r} (h : Z6F x0 = some r) : Z6I x0 = some r :=
 pick_of (fun _ _ ha hb => RRun.uniq (ZcP) (ha .ex .ex) (hb .ex .ex)) (fun z1e z10 => Zcd x0 z1e z10 r h)
end Go.Proofs.YtadodmjdkphddaaDoor.N2
end
