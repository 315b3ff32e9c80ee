/- More of the functions' typed texts. No condition. -/
import Derived.Test.YtadodmjdkphddaaDoorTypA

section
set_option linter.unusedSimpArgs false
set_option linter.unusedVariables false
namespace Go.Proofs.YtadodmjdkphddaaDoor.N2
open Go Go.Abs
set_option linter.unusedVariables false
set_option maxRecDepth 100000
noncomputable def Z4Y (x0 : List Z7) (zZ : List Z7) : Option ((List Z7)) :=
 (Z77 zZ x0).bind fun r1 =>
 some (r1.1)
theorem Z9n (x0 : List Z7) (zZ : List Z7) (ox0 : Own) (z91 : Own) : Sim (Z40) (Z4Y x0 zZ) (EE 58 [(.p (.lst ox0 (x0.map Zs))), (.ptr 0 0)] [[(.p (.lst z91 (zZ.map Zs)))]]) := by
 unfold Z4Y
 refine zf (Ziw ..) ?_
 refine ze ?_
 refine zo (.p (.lst (shrO z91) (zZ.map Zs))) ?_
 refine zi fun r1 hr1 => ?_
 obtain ⟨qr1, er1, exr1, rfl⟩ := Zch (zZ) (x0) .sh .sh r1 hr1
 refine zc [] (.p (.tup [(.lst .sh (r1.1.map Zs)), (.v (.int .i64 r1.2))])) [[(.p (.lst z91 (zZ.map Zs)))]] er1 ?_
 refine zo (.p (.lst .sh (r1.1.map Zs))) ?_
 refine zo (iv r1.2) ?_
 refine zt [[(.p (.lst .sh (r1.1.map Zs)))]] ?_
 exact zr ((.p (.tup [])), [[(.p (.lst .sh (r1.1.map Zs)))]]) ⟨.sh, _, rfl⟩
theorem Z9A (x0 : List Z7) (zZ : List Z7) {r} (h : Z4Y x0 zZ = some r) : Z41 x0 zZ = some r :=
 pick_of (fun _ _ ha hb => RRun.uniq (Za6) (ha .ex .ex) (hb .ex .ex)) (fun ox0 z91 => Z9n x0 zZ ox0 z91 r h)
noncomputable def Z62  : Option ((List Z7) × Int) :=
 some (([] : List Z7), 10)
theorem Z8b  : Sim (Z4Q) (Z62) (ZcL 0  []) := by
 unfold Z62
 refine zf (ZgM ..) ?_
 refine ze ?_
 exact zr ((.p (.tup [(.lst .sh []), (.v (.int .i64 10))])), []) ⟨_, rfl⟩
noncomputable def Z63 (x0 : List Z7) (x1 : List Z7) : Option ((List Z7) × Int) :=
 (Z6i (([x0, x1] : List (List Z7)))).bind fun r1 =>
 (Z7e r1).bind fun r2 =>
 some (r2, 0)
theorem ZaQ (x0 : List Z7) (x1 : List Z7) (ox0 : Own) (ox1 : Own) : Sim (Z4Q) (Z63 x0 x1) (Zdr 0 (.p (.lst ox0 (x0.map Zs))) (.p (.lst ox1 (x1.map Zs))) []) := by
 unfold Z63
 refine zf (ZgH ..) ?_
 refine ze ?_
 refine zo (.p (.lst .ex (([x0, x1] : List (List Z7)).map (eL Zs)))) ?_
 refine zi fun r1 hr1 => ?_
 obtain ⟨qr1, er1, exr1, rfl⟩ := Z9Z (([x0, x1] : List (List Z7))) .sh r1 hr1
 refine zc [] (.p (.lst .sh (r1.map Zs))) [] er1 ?_
 refine zi fun r2 hr2 => ?_
 obtain ⟨qr2, er2, exr2, rfl⟩ := Z9t (r1) .sh r2 hr2
 refine zc [] (.p (.lst .sh (r2.map Zs))) [] er2 ?_
 exact zr ((.p (.tup [(.lst .sh (r2.map Zs)), (.v (.int .i64 0))])), []) ⟨_, rfl⟩
noncomputable def Z7m (x0 : List Z7) (x1 : List Z7) : Option ((List Z7) × Int) :=
 (Z4j x0).bind fun r1 =>
 if ((!r1)) = true then
 (Z62)
 else
 ((Z4j x1).bind fun r2 =>
 if ((!r2)) = true then
 (Z62)
 else
 (Z63 x0 x1))
theorem ZbT (x0 : List Z7) (x1 : List Z7) (ox0 : Own) (ox1 : Own) : Sim (Z4Q) (Z7m x0 x1) (EE 59 [(.p (.lst ox0 (x0.map Zs))), (.p (.lst ox1 (x1.map Zs)))] []) := by
 unfold Z7m
 refine zf (ZhY ..) ?_
 refine ze ?_
 refine ze ?_
 refine zi fun r1 hr1 => ?_
 obtain ⟨qr1, er1, exr1, rfl⟩ := Z6a (x0) .sh r1 hr1
 refine zc [] (bv r1) [] er1 ?_
 refine zo (bv (!r1)) ?_
 refine za ((!r1)) ?_ ?_
 ·exact zk (Z8b )
 ·refine zi fun r2 hr2 => ?_
  obtain ⟨qr2, er2, exr2, rfl⟩ := Z6a (x1) .sh r2 hr2
  refine zc [] (bv r2) [] er2 ?_
  refine zo (bv (!r2)) ?_
  refine za ((!r2)) ?_ ?_
  ·exact zk (Z8b )
  ·exact zk (ZaQ (x0) (x1) ox0 ox1)
theorem Zcc (x0 : List Z7) (x1 : List Z7) {r} (h : Z7m x0 x1 = some r) : Z77 x0 x1 = some r :=
 pick_of (fun _ _ ha hb => RRun.uniq (Zcm) (ha .ex .ex) (hb .ex .ex)) (fun ox0 ox1 => ZbT x0 x1 ox0 ox1 r h)
noncomputable def Z3A (zp : Int) (z6 : Int) (zd : Int) (zh : List Zr) (z1 : Int) (z2 : Int) (z14 : Int) (z1D : Int) (z1B : Int) (z17 : Int) (z1j : Int) (z1i : List Z7) (b2 : Z3) : Option (Z3 × Bool × Int × Int × Int × (List Zr) × Int × Int) :=
 some ((Z3.mk z14 z1D z1B z17 z1j z1i ([b2] : List Z3)), (z14 != 7), zp, z6, zd, zh, z1, z2)
theorem Z8T (zl : List Int) (zp : Int) (z6 : Int) (zd : Int) (zh : List Zr) (z1 : Int) (z2 : Int) (z14 : Int) (z1D : Int) (z1B : Int) (z17 : Int) (z1j : Int) (z1i : List Z7) (z1X : List Z3) (b2 : Z3) (zn : Own) (zb : Own) (zB : Own) (zy : Own) (z1F : Own) (z1v : Own) (zu : okApp zb = true) (zQ : okApp zB = true) (zK : okApp zy = true) : Sim (Z25 zl zn) (Z3A zp z6 zd zh z1 z2 z14 z1D z1B z17 z1j z1i b2) (Zd4 1 (.ptr 1 0) (.ptr 2 0) [(Zj (Zk.mk zl zp z6 zd zh (Zi.mk z1 z2)) zn zb), (Zq (Z3.mk z14 z1D z1B z17 z1j z1i z1X) zB zy), (Zq b2 z1F z1v)]) := by
 unfold Z3A
 refine zf (Zf4 ..) ?_
 refine ze ?_
 refine zo (.p (.agg (ZE b2 (shrO z1F) (shrO z1v)))) ?_
 refine zo (.p (.lst .ex (([b2] : List Z3).map ZI))) ?_ (Eq.trans (b := some (.p (.lst .ex [.agg (Z2e b2)]))) (by kernel_rfl) (by simp only [List.map_cons, List.map_nil, Z31]))
 refine zo (.ptr 1 6) ?_
 refine zt [(Zj (Zk.mk zl zp z6 zd zh (Zi.mk z1 z2)) zn zb), (Zq (Z3.mk z14 z1D z1B z17 z1j z1i ([b2] : List Z3)) zB .ex), (Zq b2 z1F z1v)] ?_
 refine ze ?_
 refine zo (.p (.agg (ZE (Z3.mk z14 z1D z1B z17 z1j z1i ([b2] : List Z3)) (shrO zB) .ex))) ?_
 refine zo (.ptr 1 0) ?_
 refine zo (iv z14) ?_
 refine zo (bv (z14 != 7)) ?_
 refine zt [(Zj (Zk.mk zl zp z6 zd zh (Zi.mk z1 z2)) zn zb), (Zq (Z3.mk z14 z1D z1B z17 z1j z1i ([b2] : List Z3)) (shrO zB) .ex), (Zq b2 z1F z1v)] ?_
 exact zr ((.p (.tup [(.agg (ZE (Z3.mk z14 z1D z1B z17 z1j z1i ([b2] : List Z3)) .sh .sh)), (.v (.bool (z14 != 7)))])), [(Zj (Zk.mk zl zp z6 zd zh (Zi.mk z1 z2)) zn zb), (Zq (Z3.mk z14 z1D z1B z17 z1j z1i ([b2] : List Z3)) (shrO zB) .ex), (Zq b2 z1F z1v)]) ⟨zb, _, zu, rfl⟩
noncomputable def Z1S (zp : Int) (z6 : Int) (zd : Int) (zh : List Zr) (z1 : Int) (z2 : Int) (z14 : Int) (z1D : Int) (z1B : Int) (z17 : Int) (z1j : Int) (z1i : List Z7) (b2 : Z3) : Option (Z3 × Bool × Int × Int × Int × (List Zr) × Int × Int) :=
 if ((z14 == 0)) = true then
 (some (b2, true, zp, z6, (IntKind.i64.wrap (zd - 1)), zh, z1, z2))
 else
 (Z3A zp z6 ((IntKind.i64.wrap (zd - 1))) zh z1 z2 z14 z1D z1B z17 z1j z1i b2)
theorem Z4S (zl : List Int) (zp : Int) (z6 : Int) (zd : Int) (zh : List Zr) (z1 : Int) (z2 : Int) (z14 : Int) (z1D : Int) (z1B : Int) (z17 : Int) (z1j : Int) (z1i : List Z7) (z1X : List Z3) (b2 : Z3) (zn : Own) (zb : Own) (zB : Own) (zy : Own) (z1F : Own) (z1v : Own) (zu : okApp zb = true) (zQ : okApp zB = true) (zK : okApp zy = true) : Sim (Z25 zl zn) (Z1S zp z6 zd zh z1 z2 z14 z1D z1B z17 z1j z1i b2) (Zb9 1 (.ptr 0 0) (.ptr 1 0) (.ptr 2 0) [(Zj (Zk.mk zl zp z6 zd zh (Zi.mk z1 z2)) zn zb), (Zq (Z3.mk z14 z1D z1B z17 z1j z1i z1X) zB zy), (Zq b2 z1F z1v)]) := by
 unfold Z1S
 refine zf (Zfn ..) ?_
 refine ze ?_
 refine zo (.ptr 0 0) ?_
 refine zo (.ptr 0 3) ?_
 refine zo (iv zd) ?_
 refine zo (iv (IntKind.i64.wrap (zd - 1))) ?_
 refine zo (.ptr 0 0) ?_
 refine zo (.ptr 0 3) ?_
 refine zt [(Zj (Zk.mk zl zp z6 (IntKind.i64.wrap (zd - 1)) zh (Zi.mk z1 z2)) zn zb), (Zq (Z3.mk z14 z1D z1B z17 z1j z1i z1X) zB zy), (Zq b2 z1F z1v)] ?_
 refine ze ?_
 refine zo (.ptr 1 0) ?_
 refine zo (iv z14) ?_
 refine zo (bv (z14 == 0)) ?_
 refine za ((z14 == 0)) ?_ ?_
 ·refine ze ?_
  refine zo (.p (.agg (ZE b2 (shrO z1F) (shrO z1v)))) ?_
  refine zt [(Zj (Zk.mk zl zp z6 (IntKind.i64.wrap (zd - 1)) zh (Zi.mk z1 z2)) zn zb), (Zq b2 (shrO z1F) (shrO z1v)), (Zq b2 z1F z1v)] ?_
  exact zr ((.p (.tup [(.agg (ZE b2 .sh .sh)), (.v (.bool true))])), [(Zj (Zk.mk zl zp z6 (IntKind.i64.wrap (zd - 1)) zh (Zi.mk z1 z2)) zn zb), (Zq b2 (shrO z1F) (shrO z1v)), (Zq b2 z1F z1v)]) ⟨zb, _, zu, rfl⟩
 ·exact zk (Z8T (zl) (zp) (z6) ((IntKind.i64.wrap (zd - 1))) (zh) (z1) (z2) (z14) (z1D) (z1B) (z17) (z1j) (z1i) (z1X) (b2) zn zb zB zy z1F z1v zu zQ zK)
noncomputable def Z4D (x1 : Int) (zl : List Int) (z6 : Int) (zd : Int) (zh : List Zr) (z1 : Int) (z2 : Int) (z14 : Int) (z1D : Int) (z1B : Int) (z17 : Int) (z1j : Int) (z1i : List Z7) (b2 : Z3) : Option (Z3 × Bool × Int × Int × Int × (List Zr) × Int × Int) :=
 (ZT 20 x1 zl z1 z2).bind fun r1 =>
 Z1S r1.1 z6 zd zh r1.2.1 r1.2.2 z14 z1D z1B z17 z1j z1i b2
theorem Z8Z (x1 : Int) (zl : List Int) (zp : Int) (z6 : Int) (zd : Int) (zh : List Zr) (z1 : Int) (z2 : Int) (z14 : Int) (z1D : Int) (z1B : Int) (z17 : Int) (z1j : Int) (z1i : List Z7) (z1X : List Z3) (b2 : Z3) (zn : Own) (zb : Own) (zB : Own) (zy : Own) (z1F : Own) (z1v : Own) (zu : okApp zb = true) (zQ : okApp zB = true) (zK : okApp zy = true) : Sim (Z25 zl zn) (Z4D x1 zl z6 zd zh z1 z2 z14 z1D z1B z17 z1j z1i b2) (Zde 1 (.ptr 0 0) (iv x1) (.ptr 1 0) (.ptr 2 0) [(Zj (Zk.mk zl zp z6 zd zh (Zi.mk z1 z2)) zn zb), (Zq (Z3.mk z14 z1D z1B z17 z1j z1i z1X) zB zy), (Zq b2 z1F z1v)]) := by
 unfold Z4D
 refine zf (Zf1 ..) ?_
 refine ze ?_
 refine zi fun r1 hr1 => ?_
 obtain ⟨qr1, er1, exr1, rfl⟩ := ZW (20) (x1) (zl) (zp) (z6) (zd) (zh) (z1) (z2) zn zb zu r1 hr1
 refine zc [0] (.p (.tup [])) [(Zj (Zk.mk zl r1.1 z6 zd zh (Zi.mk r1.2.1 r1.2.2)) zn zb), (Zq (Z3.mk z14 z1D z1B z17 z1j z1i z1X) zB zy), (Zq b2 z1F z1v)] er1 ?_
 exact zk (Z4S (zl) (r1.1) (z6) (zd) (zh) (r1.2.1) (r1.2.2) (z14) (z1D) (z1B) (z17) (z1j) (z1i) (z1X) (b2) zn zb zB zy z1F z1v zu zQ zK)
noncomputable def Z1u (x1 : Int) (zl : List Int) (zp : Int) (z6 : Int) (zd : Int) (zh : List Zr) (z1 : Int) (z2 : Int) (z14 : Int) (z1D : Int) (z1B : Int) (z17 : Int) (z1j : Int) (z1i : List Z7) : Option (Z3 × Bool × Int × Int × Int × (List Zr) × Int × Int) :=
 (Z2J zl zp z6 zd zh z1 z2).bind fun r1 =>
 if ((r1.2.2.2.2.2.1 == 0)) = true then
 ((Z13 ((ByteArray.mk #[41])) zl r1.2.1).bind fun r2 =>
 if ((!r2.1)) = true then
 (Z4D x1 zl r1.2.2.1 r1.2.2.2.1 r1.2.2.2.2.1 r1.2.2.2.2.2.1 r1.2.2.2.2.2.2 z14 z1D z1B z17 z1j z1i r1.1)
 else
 (Z1S r2.2 r1.2.2.1 r1.2.2.2.1 r1.2.2.2.2.1 r1.2.2.2.2.2.1 r1.2.2.2.2.2.2 z14 z1D z1B z17 z1j z1i r1.1))
 else
 (Z1S r1.2.1 r1.2.2.1 r1.2.2.2.1 r1.2.2.2.2.1 r1.2.2.2.2.2.1 r1.2.2.2.2.2.2 z14 z1D z1B z17 z1j z1i r1.1)
theorem Z2p (x1 : Int) (zl : List Int) (zp : Int) (z6 : Int) (zd : Int) (zh : List Zr) (z1 : Int) (z2 : Int) (z14 : Int) (z1D : Int) (z1B : Int) (z17 : Int) (z1j : Int) (z1i : List Z7) (z1X : List Z3) (zn : Own) (zb : Own) (zB : Own) (zy : Own) (zu : okApp zb = true) (zQ : okApp zB = true) (zK : okApp zy = true) : Sim (Z25 zl zn) (Z1u x1 zl zp z6 zd zh z1 z2 z14 z1D z1B z17 z1j z1i) (Z84 1 (.ptr 0 0) (iv x1) (.ptr 1 0) [(Zj (Zk.mk zl zp z6 zd zh (Zi.mk z1 z2)) zn zb), (Zq (Z3.mk z14 z1D z1B z17 z1j z1i z1X) zB zy)]) := by
 unfold Z1u
 refine zf (Zfo ..) ?_
 refine ze ?_
 refine zi fun r1 hr1 => ?_
 obtain ⟨qr1, er1, or1_0_4, exr1, hor1_0_4, rfl⟩ := Z85 (zl) (zp) (z6) (zd) (zh) (z1) (z2) zn zb zu r1 hr1
 refine zc [0] (.p (.agg (ZE r1.1 .sh .sh))) [(Zj (Zk.mk zl r1.2.1 r1.2.2.1 r1.2.2.2.1 r1.2.2.2.2.1 (Zi.mk r1.2.2.2.2.2.1 r1.2.2.2.2.2.2)) zn or1_0_4), (Zq (Z3.mk z14 z1D z1B z17 z1j z1i z1X) zB zy)] er1 ?_
 refine zz (.ptr 2 0) [(Zj (Zk.mk zl r1.2.1 r1.2.2.1 r1.2.2.2.1 r1.2.2.2.2.1 (Zi.mk r1.2.2.2.2.2.1 r1.2.2.2.2.2.2)) zn or1_0_4), (Zq (Z3.mk z14 z1D z1B z17 z1j z1i z1X) zB zy), (Zq (Z3.mk 0 0 0 0 0 ([] : List Z7) ([] : List Z3)) .nl .nl)] ?_
 refine zt [(Zj (Zk.mk zl r1.2.1 r1.2.2.1 r1.2.2.2.1 r1.2.2.2.2.1 (Zi.mk r1.2.2.2.2.2.1 r1.2.2.2.2.2.2)) zn or1_0_4), (Zq (Z3.mk z14 z1D z1B z17 z1j z1i z1X) zB zy), (Zq r1.1 .sh .sh)] ?_
 refine ze ?_
 refine zo (.ptr 0 0) ?_
 refine zo (.ptr 0 5) ?_
 refine zo (.ptr 0 5) ?_
 refine zo (iv r1.2.2.2.2.2.1) ?_
 refine zo (bv (r1.2.2.2.2.2.1 == 0)) ?_
 refine za ((r1.2.2.2.2.2.1 == 0)) ?_ ?_
 ·refine zi fun r2 hr2 => ?_
  obtain ⟨qr2, er2, exr2, rfl⟩ := Z18 ((ByteArray.mk #[41])) (zl) (r1.2.1) (r1.2.2.1) (r1.2.2.2.1) (r1.2.2.2.2.1) (r1.2.2.2.2.2.1) (r1.2.2.2.2.2.2) zn or1_0_4 hor1_0_4 r2 hr2
  refine zc [0] (bv r2.1) [(Zj (Zk.mk zl r2.2 r1.2.2.1 r1.2.2.2.1 r1.2.2.2.2.1 (Zi.mk r1.2.2.2.2.2.1 r1.2.2.2.2.2.2)) zn or1_0_4), (Zq (Z3.mk z14 z1D z1B z17 z1j z1i z1X) zB zy), (Zq r1.1 .sh .sh)] er2 ?_
  refine zo (bv (!r2.1)) ?_
  refine za ((!r2.1)) ?_ ?_
  ·exact zk (Z8Z (x1) (zl) (r2.2) (r1.2.2.1) (r1.2.2.2.1) (r1.2.2.2.2.1) (r1.2.2.2.2.2.1) (r1.2.2.2.2.2.2) (z14) (z1D) (z1B) (z17) (z1j) (z1i) (z1X) (r1.1) zn or1_0_4 zB zy .sh .sh hor1_0_4 zQ zK)
  ·exact zk (Z4S (zl) (r2.2) (r1.2.2.1) (r1.2.2.2.1) (r1.2.2.2.2.1) (r1.2.2.2.2.2.1) (r1.2.2.2.2.2.2) (z14) (z1D) (z1B) (z17) (z1j) (z1i) (z1X) (r1.1) zn or1_0_4 zB zy .sh .sh hor1_0_4 zQ zK)
 ·exact zk (Z4S (zl) (r1.2.1) (r1.2.2.1) (r1.2.2.2.1) (r1.2.2.2.2.1) (r1.2.2.2.2.2.1) (r1.2.2.2.2.2.2) (z14) (z1D) (z1B) (z17) (z1j) (z1i) (z1X) (r1.1) zn or1_0_4 zB zy .sh .sh hor1_0_4 zQ zK)
noncomputable def Z3R (x1 : Int) (zl : List Int) (zp : Int) (z6 : Int) (zd : Int) (zh : List Zr) (z1 : Int) (z2 : Int) (z14 : Int) (z1D : Int) (z1B : Int) (z17 : Int) (z1j : Int) (z1i : List Z7) : Option (Z3 × Bool × Int × Int × Int × (List Zr) × Int × Int) :=
 (Z7P).bind fun r1 =>
 (Z3x r1 zl zp).bind fun r2 =>
 if ((decide (0 ≤ r2.1))) = true then
 (Z1u x1 zl r2.2 z6 ((IntKind.i64.wrap (zd + 1))) zh z1 z2 7 0 0 r2.1 0 (([] : List Z7)))
 else
 ((Z13 ((ByteArray.mk #[63, 62])) zl r2.2).bind fun r3 =>
 if (r3.1) = true then
 (Z1u x1 zl r3.2 z6 ((IntKind.i64.wrap (zd + 1))) zh z1 z2 8 0 0 0 0 (([] : List Z7)))
 else
 ((Z13 ((ByteArray.mk #[63, 58])) zl r3.2).bind fun r4 =>
 if (r4.1) = true then
 (Z1u x1 zl r4.2 z6 ((IntKind.i64.wrap (zd + 1))) zh z1 z2 z14 z1D z1B z17 z1j z1i)
 else
 ((Z1C ((Zk.mk zl r4.2 z6 (IntKind.i64.wrap (zd + 1)) zh (Zi.mk z1 z2)))).bind fun r5 =>
 if ((r5 == 63)) = true then
 ((ZT 20 x1 zl z1 z2).bind fun r6 =>
 Z1u x1 zl r6.1 z6 ((IntKind.i64.wrap (zd + 1))) zh r6.2.1 r6.2.2 z14 z1D z1B z17 z1j z1i)
 else
 (if ((z6 == 9)) = true then
 ((ZT 24 x1 zl z1 z2).bind fun r7 =>
 Z1u x1 zl r7.1 z6 ((IntKind.i64.wrap (zd + 1))) zh r7.2.1 r7.2.2 z14 z1D z1B z17 z1j z1i)
 else
 (Z1u x1 zl r4.2 ((IntKind.i64.wrap (z6 + 1))) ((IntKind.i64.wrap (zd + 1))) zh z1 z2 5 0 0 0 ((IntKind.i64.wrap (z6 + 1))) (([] : List Z7)))))))
theorem Z9g (x1 : Int) (zl : List Int) (zp : Int) (z6 : Int) (zd : Int) (zh : List Zr) (z1 : Int) (z2 : Int) (z14 : Int) (z1D : Int) (z1B : Int) (z17 : Int) (z1j : Int) (z1i : List Z7) (z1X : List Z3) (zn : Own) (zb : Own) (zB : Own) (zy : Own) (zu : okApp zb = true) (zQ : okApp zB = true) (zK : okApp zy = true) : Sim (Z25 zl zn) (Z3R x1 zl zp z6 zd zh z1 z2 z14 z1D z1B z17 z1j z1i) (ZeH 1 (.ptr 0 0) (iv x1) (.ptr 1 0) [(Zj (Zk.mk zl zp z6 zd zh (Zi.mk z1 z2)) zn zb), (Zq (Z3.mk z14 z1D z1B z17 z1j z1i z1X) zB zy)]) := by
 unfold Z3R
 refine zf (Zgv ..) ?_
 refine ze ?_
 refine zo (.ptr 0 0) ?_
 refine zo (.ptr 0 3) ?_
 refine zo (iv zd) ?_
 refine zo (iv (IntKind.i64.wrap (zd + 1))) ?_
 refine zo (.ptr 0 0) ?_
 refine zo (.ptr 0 3) ?_
 refine zt [(Zj (Zk.mk zl zp z6 (IntKind.i64.wrap (zd + 1)) zh (Zi.mk z1 z2)) zn zb), (Zq (Z3.mk z14 z1D z1B z17 z1j z1i z1X) zB zy)] ?_
 refine ze ?_
 refine zi fun r1 hr1 => ?_
 obtain ⟨qr1, er1, exr1, rfl⟩ := Zcj  r1 hr1
 refine zc [] (.p (.lst .sh (r1.map eS))) [(Zj (Zk.mk zl zp z6 (IntKind.i64.wrap (zd + 1)) zh (Zi.mk z1 z2)) zn zb), (Zq (Z3.mk z14 z1D z1B z17 z1j z1i z1X) zB zy)] er1 ?_
 refine zi fun r2 hr2 => ?_
 obtain ⟨qr2, er2, exr2, rfl⟩ := Z7W (r1) (zl) (zp) (z6) ((IntKind.i64.wrap (zd + 1))) (zh) (z1) (z2) .sh zn zb zu r2 hr2
 refine zc [0] (iv r2.1) [(Zj (Zk.mk zl r2.2 z6 (IntKind.i64.wrap (zd + 1)) zh (Zi.mk z1 z2)) zn zb), (Zq (Z3.mk z14 z1D z1B z17 z1j z1i z1X) zB zy)] er2 ?_
 refine ze ?_
 refine zo (bv (decide (0 ≤ r2.1))) ?_
 refine za ((decide (0 ≤ r2.1))) ?_ ?_
 ·refine ze ?_
  refine zo (.p (.agg (ZE (Z3.mk 7 0 0 r2.1 0 ([] : List Z7) ([] : List Z3)) .nl .nl))) ?_
  refine zt [(Zj (Zk.mk zl r2.2 z6 (IntKind.i64.wrap (zd + 1)) zh (Zi.mk z1 z2)) zn zb), (Zq (Z3.mk 7 0 0 r2.1 0 ([] : List Z7) ([] : List Z3)) .nl .nl)] ?_
  exact zk (Z2p (x1) (zl) (r2.2) (z6) ((IntKind.i64.wrap (zd + 1))) (zh) (z1) (z2) (7) (0) (0) (r2.1) (0) (([] : List Z7)) (([] : List Z3)) zn zb .nl .nl zu rfl rfl)
 ·refine ze ?_
  refine zi fun r3 hr3 => ?_
  obtain ⟨qr3, er3, exr3, rfl⟩ := Z18 ((ByteArray.mk #[63, 62])) (zl) (r2.2) (z6) ((IntKind.i64.wrap (zd + 1))) (zh) (z1) (z2) zn zb zu r3 hr3
  refine zc [0] (bv r3.1) [(Zj (Zk.mk zl r3.2 z6 (IntKind.i64.wrap (zd + 1)) zh (Zi.mk z1 z2)) zn zb), (Zq (Z3.mk z14 z1D z1B z17 z1j z1i z1X) zB zy)] er3 ?_
  refine za (r3.1) ?_ ?_
  ·refine ze ?_
   refine zo (.p (.agg (ZE (Z3.mk 8 0 0 0 0 ([] : List Z7) ([] : List Z3)) .nl .nl))) ?_
   refine zt [(Zj (Zk.mk zl r3.2 z6 (IntKind.i64.wrap (zd + 1)) zh (Zi.mk z1 z2)) zn zb), (Zq (Z3.mk 8 0 0 0 0 ([] : List Z7) ([] : List Z3)) .nl .nl)] ?_
   exact zk (Z2p (x1) (zl) (r3.2) (z6) ((IntKind.i64.wrap (zd + 1))) (zh) (z1) (z2) (8) (0) (0) (0) (0) (([] : List Z7)) (([] : List Z3)) zn zb .nl .nl zu rfl rfl)
  ·refine ze ?_
   refine zi fun r4 hr4 => ?_
   obtain ⟨qr4, er4, exr4, rfl⟩ := Z18 ((ByteArray.mk #[63, 58])) (zl) (r3.2) (z6) ((IntKind.i64.wrap (zd + 1))) (zh) (z1) (z2) zn zb zu r4 hr4
   refine zc [0] (bv r4.1) [(Zj (Zk.mk zl r4.2 z6 (IntKind.i64.wrap (zd + 1)) zh (Zi.mk z1 z2)) zn zb), (Zq (Z3.mk z14 z1D z1B z17 z1j z1i z1X) zB zy)] er4 ?_
   refine za (r4.1) ?_ ?_
   ·exact zk (Z2p (x1) (zl) (r4.2) (z6) ((IntKind.i64.wrap (zd + 1))) (zh) (z1) (z2) (z14) (z1D) (z1B) (z17) (z1j) (z1i) (z1X) zn zb zB zy zu zQ zK)
   ·refine ze ?_
    refine zi fun r5 hr5 => ?_
    obtain ⟨qr5, er5, exr5, rfl⟩ := Z1G ((Zk.mk zl r4.2 z6 (IntKind.i64.wrap (zd + 1)) zh (Zi.mk z1 z2))) zn zb zu r5 hr5
    refine zc [0] (iv r5) [(Zj (Zk.mk zl r4.2 z6 (IntKind.i64.wrap (zd + 1)) zh (Zi.mk z1 z2)) zn zb), (Zq (Z3.mk z14 z1D z1B z17 z1j z1i z1X) zB zy)] er5 ?_
    refine zo (bv (r5 == 63)) ?_
    refine za ((r5 == 63)) ?_ ?_
    ·refine ze ?_
     refine zi fun r6 hr6 => ?_
     obtain ⟨qr6, er6, exr6, rfl⟩ := ZW (20) (x1) (zl) (r4.2) (z6) ((IntKind.i64.wrap (zd + 1))) (zh) (z1) (z2) zn zb zu r6 hr6
     refine zc [0] (.p (.tup [])) [(Zj (Zk.mk zl r6.1 z6 (IntKind.i64.wrap (zd + 1)) zh (Zi.mk r6.2.1 r6.2.2)) zn zb), (Zq (Z3.mk z14 z1D z1B z17 z1j z1i z1X) zB zy)] er6 ?_
     exact zk (Z2p (x1) (zl) (r6.1) (z6) ((IntKind.i64.wrap (zd + 1))) (zh) (r6.2.1) (r6.2.2) (z14) (z1D) (z1B) (z17) (z1j) (z1i) (z1X) zn zb zB zy zu zQ zK)
    ·refine ze ?_
     refine zo (.ptr 0 0) ?_
     refine zo (.ptr 0 2) ?_
     refine zo (iv z6) ?_
     refine zo (bv (z6 == 9)) ?_
     refine za ((z6 == 9)) ?_ ?_
     ·refine ze ?_
      refine zi fun r7 hr7 => ?_
      obtain ⟨qr7, er7, exr7, rfl⟩ := ZW (24) (x1) (zl) (r4.2) (z6) ((IntKind.i64.wrap (zd + 1))) (zh) (z1) (z2) zn zb zu r7 hr7
      refine zc [0] (.p (.tup [])) [(Zj (Zk.mk zl r7.1 z6 (IntKind.i64.wrap (zd + 1)) zh (Zi.mk r7.2.1 r7.2.2)) zn zb), (Zq (Z3.mk z14 z1D z1B z17 z1j z1i z1X) zB zy)] er7 ?_
      exact zk (Z2p (x1) (zl) (r7.1) (z6) ((IntKind.i64.wrap (zd + 1))) (zh) (r7.2.1) (r7.2.2) (z14) (z1D) (z1B) (z17) (z1j) (z1i) (z1X) zn zb zB zy zu zQ zK)
     ·refine ze ?_
      refine zo (.ptr 0 0) ?_
      refine zo (.ptr 0 2) ?_
      refine zo (iv z6) ?_
      refine zo (iv (IntKind.i64.wrap (z6 + 1))) ?_
      refine zo (.ptr 0 0) ?_
      refine zo (.ptr 0 2) ?_
      refine zt [(Zj (Zk.mk zl r4.2 (IntKind.i64.wrap (z6 + 1)) (IntKind.i64.wrap (zd + 1)) zh (Zi.mk z1 z2)) zn zb), (Zq (Z3.mk z14 z1D z1B z17 z1j z1i z1X) zB zy)] ?_
      refine ze ?_
      refine zo (.ptr 0 0) ?_
      refine zo (.ptr 0 2) ?_
      refine zo (iv (IntKind.i64.wrap (z6 + 1))) ?_
      refine zo (.p (.agg (ZE (Z3.mk 5 0 0 0 (IntKind.i64.wrap (z6 + 1)) ([] : List Z7) ([] : List Z3)) .nl .nl))) ?_
      refine zt [(Zj (Zk.mk zl r4.2 (IntKind.i64.wrap (z6 + 1)) (IntKind.i64.wrap (zd + 1)) zh (Zi.mk z1 z2)) zn zb), (Zq (Z3.mk 5 0 0 0 (IntKind.i64.wrap (z6 + 1)) ([] : List Z7) ([] : List Z3)) .nl .nl)] ?_
      exact zk (Z2p (x1) (zl) (r4.2) ((IntKind.i64.wrap (z6 + 1))) ((IntKind.i64.wrap (zd + 1))) (zh) (z1) (z2) (5) (0) (0) (0) ((IntKind.i64.wrap (z6 + 1))) (([] : List Z7)) (([] : List Z3)) zn zb .nl .nl zu rfl rfl)
noncomputable def Z3G (x1 : Int) (zl : List Int) (zp : Int) (z6 : Int) (zd : Int) (zh : List Zr) (z1 : Int) (z2 : Int) : Option (Z3 × Bool × Int × Int × Int × (List Zr) × Int × Int) :=
 if ((zd == 32)) = true then
 ((ZT 25 x1 zl z1 z2).bind fun r1 =>
 some ((Z3.mk 0 0 0 0 0 ([] : List Z7) ([] : List Z3)), true, r1.1, z6, zd, zh, r1.2.1, r1.2.2))
 else
 (Z3R x1 zl zp z6 zd zh z1 z2 0 0 0 0 0 (([] : List Z7)))
theorem Za3 (x1 : Int) (zl : List Int) (zp : Int) (z6 : Int) (zd : Int) (zh : List Zr) (z1 : Int) (z2 : Int) (zn : Own) (zb : Own) (zu : okApp zb = true) : Sim (Z25 zl zn) (Z3G x1 zl zp z6 zd zh z1 z2) (EE 51 [(.ptr 0 0), (iv x1)] [(Zj (Zk.mk zl zp z6 zd zh (Zi.mk z1 z2)) zn zb)]) := by
 unfold Z3G
 refine zf (Zii ..) ?_
 refine ze ?_
 refine zz (.ptr 1 0) [(Zj (Zk.mk zl zp z6 zd zh (Zi.mk z1 z2)) zn zb), (Zq (Z3.mk 0 0 0 0 0 ([] : List Z7) ([] : List Z3)) .nl .nl)] ?_
 refine ze ?_
 refine zo (.ptr 0 0) ?_
 refine zo (.ptr 0 3) ?_
 refine zo (iv zd) ?_
 refine zo (bv (zd == 32)) ?_
 refine za ((zd == 32)) ?_ ?_
 ·refine ze ?_
  refine zi fun r1 hr1 => ?_
  obtain ⟨qr1, er1, exr1, rfl⟩ := ZW (25) (x1) (zl) (zp) (z6) (zd) (zh) (z1) (z2) zn zb zu r1 hr1
  refine zc [0] (.p (.tup [])) [(Zj (Zk.mk zl r1.1 z6 zd zh (Zi.mk r1.2.1 r1.2.2)) zn zb), (Zq (Z3.mk 0 0 0 0 0 ([] : List Z7) ([] : List Z3)) .nl .nl)] er1 ?_
  refine ze ?_
  refine zo (.p (.agg (ZE (Z3.mk 0 0 0 0 0 ([] : List Z7) ([] : List Z3)) .nl .nl))) ?_
  refine zt [(Zj (Zk.mk zl r1.1 z6 zd zh (Zi.mk r1.2.1 r1.2.2)) zn zb), (Zq (Z3.mk 0 0 0 0 0 ([] : List Z7) ([] : List Z3)) .nl .nl)] ?_
  exact zr ((.p (.tup [(.agg (ZE (Z3.mk 0 0 0 0 0 ([] : List Z7) ([] : List Z3)) .sh .sh)), (.v (.bool true))])), [(Zj (Zk.mk zl r1.1 z6 zd zh (Zi.mk r1.2.1 r1.2.2)) zn zb), (Zq (Z3.mk 0 0 0 0 0 ([] : List Z7) ([] : List Z3)) .nl .nl)]) ⟨zb, _, zu, rfl⟩
 ·exact zk (Z9g (x1) (zl) (zp) (z6) (zd) (zh) (z1) (z2) (0) (0) (0) (0) (0) (([] : List Z7)) (([] : List Z3)) zn zb .nl .nl zu rfl rfl)
theorem Z5L (x1 : Int) (zl : List Int) (zp : Int) (z6 : Int) (zd : Int) (zh : List Zr) (z1 : Int) (z2 : Int) {r} (h : Z3G x1 zl zp z6 zd zh z1 z2 = some r) : Z2Y x1 zl zp z6 zd zh z1 z2 = some r :=
 pick_of (fun _ _ ha hb => RRun.uniq (ZaM _ _) (ha .ex .ex rfl) (hb .ex .ex rfl)) (fun zn zb zu => Za3 x1 zl zp z6 zd zh z1 z2 zn zb zu r h)
noncomputable def Z9o  : Option ((List ByteArray)) :=
 some (([(ByteArray.mk #[63, 61]), (ByteArray.mk #[63, 33]), (ByteArray.mk #[63, 60, 61]), (ByteArray.mk #[63, 60, 33])] : List ByteArray))
theorem Zc9  : Sim (Z6o) (Z9o) (EE 62 [] []) := by
 unfold Z9o
 refine zf (ZiD ..) ?_
 refine ze ?_
 refine ze ?_
 refine zo (.p (.lst .ex (([(ByteArray.mk #[63, 61]), (ByteArray.mk #[63, 33]), (ByteArray.mk #[63, 60, 61]), (ByteArray.mk #[63, 60, 33])] : List ByteArray).map eS))) ?_
 exact zr ((.p (.lst .sh (([(ByteArray.mk #[63, 61]), (ByteArray.mk #[63, 33]), (ByteArray.mk #[63, 60, 61]), (ByteArray.mk #[63, 60, 33])] : List ByteArray).map eS))), []) ⟨_, rfl⟩
theorem Zcn  {r} (h : Z9o = some r) : Z7P = some r :=
 pick_of (fun _ _ ha hb => RRun.uniq (ZcG) (ha ) (hb )) (Zc9  r h)
noncomputable def Z3z (x0 : List ByteArray) (zl : List Int) (zp : Int) : Option (Int × Int) :=
 Z1r x0 ((x0.length : Int)) 0 zl zp
theorem Z7C (x0 : List ByteArray) (zl : List Int) (zp : Int) (z6 : Int) (zd : Int) (zh : List Zr) (z1 : Int) (z2 : Int) (ox0 : Own) (zn : Own) (zb : Own) (zu : okApp zb = true) : Sim (Z1h zl z6 zd zh z1 z2 zn zb) (Z3z x0 zl zp) (EE 61 [(.p (.lst ox0 (x0.map eS))), (.clo 27 [(.ptr 0 0)] [])] [(Zj (Zk.mk zl zp z6 zd zh (Zi.mk z1 z2)) zn zb)]) := by
 unfold Z3z
 refine zf (ZhJ ..) ?_
 refine ze ?_
 refine ze ?_
 refine zo (iv (x0.length : Int)) ?_ (Eq.trans (by kernel_rfl) (xlen_of (P := PP) (t := 43) (d := 9) (by kernel_rfl) eS (shrO ox0) x0))
 exact zk (Z5e (x0) ((x0.length : Int)) (0) (zl) (zp) (z6) (zd) (zh) (z1) (z2) ox0 zn zb zu)
theorem Z81 (x0 : List ByteArray) (zl : List Int) (zp : Int) {r} (h : Z3z x0 zl zp = some r) : Z3x x0 zl zp = some r :=
 pick_of (fun _ _ ha hb => RRun.uniq (Z5K _ _ _ _ _ _ _ _) (ha default default default default default .ex .ex .ex rfl) (hb default default default default default .ex .ex .ex rfl)) (fun z6 zd zh z1 z2 ox0 zn zb zu => Z7C x0 zl zp z6 zd zh z1 z2 ox0 zn zb zu r h)
noncomputable def Z32 (x0 : List ByteArray) (x7 : Int) (x8 : Int) (zl : List Int) (zp : Int) : Option (Int × Int) :=
 Z1r x0 x7 ((IntKind.i64.wrap (x8 + 1))) zl zp
theorem Z6Q (x0 : List ByteArray) (x7 : Int) (x8 : Int) (zl : List Int) (zp : Int) (z6 : Int) (zd : Int) (zh : List Zr) (z1 : Int) (z2 : Int) (ox0 : Own) (zn : Own) (zb : Own) (zu : okApp zb = true) : Sim (Z1h zl z6 zd zh z1 z2 zn zb) (Z32 x0 x7 x8 zl zp) (Zey 1 (.p (.lst ox0 (x0.map eS))) (.clo 27 [(.ptr 0 0)] []) (iv x7) (iv x8) [(Zj (Zk.mk zl zp z6 zd zh (Zi.mk z1 z2)) zn zb)]) := by
 unfold Z32
 refine zf (ZfK ..) ?_
 refine ze ?_
 refine zo (iv (IntKind.i64.wrap (x8 + 1))) ?_
 exact zk (Z5e (x0) (x7) ((IntKind.i64.wrap (x8 + 1))) (zl) (zp) (z6) (zd) (zh) (z1) (z2) ox0 zn zb zu)
noncomputable def Z2r (x0 : List ByteArray) (x7 : Int) (x8 : Int) (zl : List Int) (zp : Int) : Option (Int × Int) :=
 (lget x0 x8).bind fun a1 =>
 (Z13 a1 zl zp).bind fun r2 =>
 if (r2.1) = true then
 (some (x8, r2.2))
 else
 (Z32 x0 x7 x8 zl r2.2)
theorem Z6T (x0 : List ByteArray) (x7 : Int) (x8 : Int) (zl : List Int) (zp : Int) (z6 : Int) (zd : Int) (zh : List Zr) (z1 : Int) (z2 : Int) (ox0 : Own) (zn : Own) (zb : Own) (zu : okApp zb = true) : Sim (Z1h zl z6 zd zh z1 z2 zn zb) (Z2r x0 x7 x8 zl zp) (ZeG 1 (.p (.lst ox0 (x0.map eS))) (.clo 27 [(.ptr 0 0)] []) (iv x7) (iv x8) [(Zj (Zk.mk zl zp z6 zd zh (Zi.mk z1 z2)) zn zb)]) := by
 unfold Z2r
 refine zf (Zgd ..) ?_
 refine ze ?_
 refine ze ?_
 refine zi fun a1 ha1 => ?_
 refine zo (.cptr [(.v (.string a1))]) ?_ (Eq.trans (by kernel_rfl) (xidx_of (o := (shrO ox0)) (k := .i64) (n := 1) (e := eS) (cs := (fun a => [eS a])) (fun _ => rfl) (fun _ => rfl) (by decide) ha1))
 refine zo (.p (.v (.string a1))) ?_
 refine zi fun r2 hr2 => ?_
 obtain ⟨qr2, er2, exr2, rfl⟩ := Z18 (a1) (zl) (zp) (z6) (zd) (zh) (z1) (z2) zn zb zu r2 hr2
 refine zv [0] (bv r2.1) [(Zj (Zk.mk zl r2.2 z6 zd zh (Zi.mk z1 z2)) zn zb)] er2 ?_
 refine za (r2.1) ?_ ?_
 ·refine ze ?_
  exact zr ((iv x8), [(Zj (Zk.mk zl r2.2 z6 zd zh (Zi.mk z1 z2)) zn zb)]) ⟨_, rfl⟩
 ·exact zk (Z6Q (x0) (x7) (x8) (zl) (r2.2) (z6) (zd) (zh) (z1) (z2) ox0 zn zb zu)
noncomputable def Z46 (zp : Int) : Option (Int × Int) :=
 some ((-1), zp)
theorem Z6J (zl : List Int) (zp : Int) (z6 : Int) (zd : Int) (zh : List Zr) (z1 : Int) (z2 : Int) (zn : Own) (zb : Own) (zu : okApp zb = true) : Sim (Z1h zl z6 zd zh z1 z2 zn zb) (Z46 zp) (ZdY 1  [(Zj (Zk.mk zl zp z6 zd zh (Zi.mk z1 z2)) zn zb)]) := by
 unfold Z46
 refine zf (ZgZ ..) ?_
 refine ze ?_
 exact zr ((iv (-1)), [(Zj (Zk.mk zl zp z6 zd zh (Zi.mk z1 z2)) zn zb)]) ⟨_, rfl⟩
noncomputable def Z24 (x0 : List ByteArray) (x7 : Int) (x8 : Int) (zl : List Int) (zp : Int) : Option (Int × Int) :=
 if ((decide (x8 < x7))) = true then
 (Z2r x0 x7 x8 zl zp)
 else
 (Z46 zp)
theorem Z6S (x0 : List ByteArray) (x7 : Int) (x8 : Int) (zl : List Int) (zp : Int) (z6 : Int) (zd : Int) (zh : List Zr) (z1 : Int) (z2 : Int) (ox0 : Own) (zn : Own) (zb : Own) (zu : okApp zb = true) : Sim (Z1h zl z6 zd zh z1 z2 zn zb) (Z24 x0 x7 x8 zl zp) (Zbi 1 (.p (.lst ox0 (x0.map eS))) (.clo 27 [(.ptr 0 0)] []) (iv x7) (iv x8) [(Zj (Zk.mk zl zp z6 zd zh (Zi.mk z1 z2)) zn zb)]) := by
 unfold Z24
 refine zf (Zgy ..) ?_
 refine ze ?_
 refine zo (bv (decide (x8 < x7))) ?_
 refine za ((decide (x8 < x7))) ?_ ?_
 ·exact zk (Z6T (x0) (x7) (x8) (zl) (zp) (z6) (zd) (zh) (z1) (z2) ox0 zn zb zu)
 ·exact zk (Z6J (zl) (zp) (z6) (zd) (zh) (z1) (z2) zn zb zu)
theorem Z3Q (x0 : List ByteArray) (x7 : Int) (x8 : Int) (zl : List Int) (zp : Int) {r} (h : Z24 x0 x7 x8 zl zp = some r) : Z1r x0 x7 x8 zl zp = some r :=
 pick_of (fun _ _ ha hb => RRun.uniq (Z5K _ _ _ _ _ _ _ _) (ha default default default default default .ex .ex .ex rfl) (hb default default default default default .ex .ex .ex rfl)) (fun z6 zd zh z1 z2 ox0 zn zb zu => Z6S x0 x7 x8 zl zp z6 zd zh z1 z2 ox0 zn zb zu r h)
noncomputable def Z2M (zp : Int) (z1 : Int) (z2 : Int) (z1W : Int) (z2P : Int) (z2O : Int) (z2o : Int) (z2g : Int) (z2f : List Z7) (z1V : List Z3) : Option (Z3 × Int × Int × Int) :=
 some ((Z3.mk z1W z2P z2O z2o z2g z2f z1V), zp, z1, z2)
theorem Z4H (zl : List Int) (zp : Int) (z6 : Int) (zd : Int) (zh : List Zr) (z1 : Int) (z2 : Int) (b1 : Z3) (b2 : Z3) (z1W : Int) (z2P : Int) (z2O : Int) (z2o : Int) (z2g : Int) (z2f : List Z7) (z1V : List Z3) (zn : Own) (zb : Own) (zB : Own) (zy : Own) (z1F : Own) (z1v : Own) (z2R : Own) (z2t : Own) (zu : okApp zb = true) (z7V : okApp z1F = true) (z6O : okApp z1v = true) (z7Z : okApp z2R = true) (z6F : okApp z2t = true) : Sim (Z2v zl z6 zd zh zn zb) (Z2M zp z1 z2 z1W z2P z2O z2o z2g z2f z1V) (Zb0 1 (.ptr 2 0) (.ptr 3 0) [(Zj (Zk.mk zl zp z6 zd zh (Zi.mk z1 z2)) zn zb), (Zq b1 zB zy), (Zq b2 z1F z1v), (Zq (Z3.mk z1W z2P z2O z2o z2g z2f z1V) z2R z2t)]) := by
 unfold Z2M
 refine zf (Zf9 ..) ?_
 refine ze ?_
 refine zo (.p (.agg (ZE (Z3.mk z1W z2P z2O z2o z2g z2f z1V) (shrO z2R) (shrO z2t)))) ?_
 refine zt [(Zj (Zk.mk zl zp z6 zd zh (Zi.mk z1 z2)) zn zb), (Zq b1 zB zy), (Zq (Z3.mk z1W z2P z2O z2o z2g z2f z1V) (shrO z2R) (shrO z2t)), (Zq (Z3.mk z1W z2P z2O z2o z2g z2f z1V) z2R z2t)] ?_
 exact zr ((.p (.agg (ZE (Z3.mk z1W z2P z2O z2o z2g z2f z1V) .sh .sh))), [(Zj (Zk.mk zl zp z6 zd zh (Zi.mk z1 z2)) zn zb), (Zq b1 zB zy), (Zq (Z3.mk z1W z2P z2O z2o z2g z2f z1V) (shrO z2R) (shrO z2t)), (Zq (Z3.mk z1W z2P z2O z2o z2g z2f z1V) z2R z2t)]) ⟨_, rfl⟩
noncomputable def Z2j (zl : List Int) (zp : Int) (z1 : Int) (z2 : Int) (z1W : Int) (z2P : Int) (z2O : Int) (z2o : Int) (z2g : Int) (z2f : List Z7) (z1V : List Z3) : Option (Z3 × Int × Int × Int) :=
 (Z13 ((ByteArray.mk #[63])) zl zp).bind fun r1 =>
 if (r1.1) = true then
 (Z2M r1.2 z1 z2 z1W z2P z2O 1 z2g z2f z1V)
 else
 ((Z13 ((ByteArray.mk #[43])) zl r1.2).bind fun r2 =>
 if (r2.1) = true then
 (Z2M r2.2 z1 z2 z1W z2P z2O 2 z2g z2f z1V)
 else
 (Z2M r2.2 z1 z2 z1W z2P z2O z2o z2g z2f z1V))
theorem Z5W (zl : List Int) (zp : Int) (z6 : Int) (zd : Int) (zh : List Zr) (z1 : Int) (z2 : Int) (b1 : Z3) (b2 : Z3) (z1W : Int) (z2P : Int) (z2O : Int) (z2o : Int) (z2g : Int) (z2f : List Z7) (z1V : List Z3) (zn : Own) (zb : Own) (zB : Own) (zy : Own) (z1F : Own) (z1v : Own) (z2R : Own) (z2t : Own) (zu : okApp zb = true) (z7V : okApp z1F = true) (z6O : okApp z1v = true) (z7Z : okApp z2R = true) (z6F : okApp z2t = true) : Sim (Z2v zl z6 zd zh zn zb) (Z2j zl zp z1 z2 z1W z2P z2O z2o z2g z2f z1V) (Zc6 1 (.ptr 0 0) (.ptr 2 0) (.ptr 3 0) [(Zj (Zk.mk zl zp z6 zd zh (Zi.mk z1 z2)) zn zb), (Zq b1 zB zy), (Zq b2 z1F z1v), (Zq (Z3.mk z1W z2P z2O z2o z2g z2f z1V) z2R z2t)]) := by
 unfold Z2j
 refine zf (Zfb ..) ?_
 refine ze ?_
 refine zi fun r1 hr1 => ?_
 obtain ⟨qr1, er1, exr1, rfl⟩ := Z18 ((ByteArray.mk #[63])) (zl) (zp) (z6) (zd) (zh) (z1) (z2) zn zb zu r1 hr1
 refine zc [0] (bv r1.1) [(Zj (Zk.mk zl r1.2 z6 zd zh (Zi.mk z1 z2)) zn zb), (Zq b1 zB zy), (Zq b2 z1F z1v), (Zq (Z3.mk z1W z2P z2O z2o z2g z2f z1V) z2R z2t)] er1 ?_
 refine za (r1.1) ?_ ?_
 ·refine ze ?_
  refine zo (.ptr 3 3) ?_
  refine zt [(Zj (Zk.mk zl r1.2 z6 zd zh (Zi.mk z1 z2)) zn zb), (Zq b1 zB zy), (Zq b2 z1F z1v), (Zq (Z3.mk z1W z2P z2O 1 z2g z2f z1V) z2R z2t)] ?_
  exact zk (Z4H (zl) (r1.2) (z6) (zd) (zh) (z1) (z2) (b1) (b2) (z1W) (z2P) (z2O) (1) (z2g) (z2f) (z1V) zn zb zB zy z1F z1v z2R z2t zu z7V z6O z7Z z6F)
 ·refine ze ?_
  refine zi fun r2 hr2 => ?_
  obtain ⟨qr2, er2, exr2, rfl⟩ := Z18 ((ByteArray.mk #[43])) (zl) (r1.2) (z6) (zd) (zh) (z1) (z2) zn zb zu r2 hr2
  refine zc [0] (bv r2.1) [(Zj (Zk.mk zl r2.2 z6 zd zh (Zi.mk z1 z2)) zn zb), (Zq b1 zB zy), (Zq b2 z1F z1v), (Zq (Z3.mk z1W z2P z2O z2o z2g z2f z1V) z2R z2t)] er2 ?_
  refine za (r2.1) ?_ ?_
  ·refine ze ?_
   refine zo (.ptr 3 3) ?_
   refine zt [(Zj (Zk.mk zl r2.2 z6 zd zh (Zi.mk z1 z2)) zn zb), (Zq b1 zB zy), (Zq b2 z1F z1v), (Zq (Z3.mk z1W z2P z2O 2 z2g z2f z1V) z2R z2t)] ?_
   exact zk (Z4H (zl) (r2.2) (z6) (zd) (zh) (z1) (z2) (b1) (b2) (z1W) (z2P) (z2O) (2) (z2g) (z2f) (z1V) zn zb zB zy z1F z1v z2R z2t zu z7V z6O z7Z z6F)
  ·exact zk (Z4H (zl) (r2.2) (z6) (zd) (zh) (z1) (z2) (b1) (b2) (z1W) (z2P) (z2O) (z2o) (z2g) (z2f) (z1V) zn zb zB zy z1F z1v z2R z2t zu z7V z6O z7Z z6F)
noncomputable def Z1O (x2 : Bool) (x7 : Int) (zl : List Int) (zp : Int) (z1 : Int) (z2 : Int) (z1W : Int) (z2P : Int) (z2O : Int) (z2o : Int) (z2g : Int) (z2f : List Z7) (z1V : List Z3) : Option (Z3 × Int × Int × Int) :=
 if ((!x2)) = true then
 ((ZT 23 x7 zl z1 z2).bind fun r1 =>
 Z2j zl r1.1 r1.2.1 r1.2.2 z1W z2P z2O z2o z2g z2f z1V)
 else
 (Z2j zl zp z1 z2 z1W z2P z2O z2o z2g z2f z1V)
theorem Z3w (x2 : Bool) (x7 : Int) (zl : List Int) (zp : Int) (z6 : Int) (zd : Int) (zh : List Zr) (z1 : Int) (z2 : Int) (b1 : Z3) (b2 : Z3) (z1W : Int) (z2P : Int) (z2O : Int) (z2o : Int) (z2g : Int) (z2f : List Z7) (z1V : List Z3) (zn : Own) (zb : Own) (zB : Own) (zy : Own) (z1F : Own) (z1v : Own) (z2R : Own) (z2t : Own) (zu : okApp zb = true) (z7V : okApp z1F = true) (z6O : okApp z1v = true) (z7Z : okApp z2R = true) (z6F : okApp z2t = true) : Sim (Z2v zl z6 zd zh zn zb) (Z1O x2 x7 zl zp z1 z2 z1W z2P z2O z2o z2g z2f z1V) (Z9U 1 (.ptr 0 0) (bv x2) (.ptr 2 0) (iv x7) (.ptr 3 0) [(Zj (Zk.mk zl zp z6 zd zh (Zi.mk z1 z2)) zn zb), (Zq b1 zB zy), (Zq b2 z1F z1v), (Zq (Z3.mk z1W z2P z2O z2o z2g z2f z1V) z2R z2t)]) := by
 unfold Z1O
 refine zf (Zf8 ..) ?_
 refine ze ?_
 refine zo (bv (!x2)) ?_
 refine za ((!x2)) ?_ ?_
 ·refine ze ?_
  refine zi fun r1 hr1 => ?_
  obtain ⟨qr1, er1, exr1, rfl⟩ := ZW (23) (x7) (zl) (zp) (z6) (zd) (zh) (z1) (z2) zn zb zu r1 hr1
  refine zc [0] (.p (.tup [])) [(Zj (Zk.mk zl r1.1 z6 zd zh (Zi.mk r1.2.1 r1.2.2)) zn zb), (Zq b1 zB zy), (Zq b2 z1F z1v), (Zq (Z3.mk z1W z2P z2O z2o z2g z2f z1V) z2R z2t)] er1 ?_
  exact zk (Z5W (zl) (r1.1) (z6) (zd) (zh) (r1.2.1) (r1.2.2) (b1) (b2) (z1W) (z2P) (z2O) (z2o) (z2g) (z2f) (z1V) zn zb zB zy z1F z1v z2R z2t zu z7V z6O z7Z z6F)
 ·exact zk (Z5W (zl) (zp) (z6) (zd) (zh) (z1) (z2) (b1) (b2) (z1W) (z2P) (z2O) (z2o) (z2g) (z2f) (z1V) zn zb zB zy z1F z1v z2R z2t zu z7V z6O z7Z z6F)
noncomputable def Z3v (x1 : Z3) (x2 : Bool) (zl : List Int) (zp : Int) (z6 : Int) (zd : Int) (zh : List Zr) (z1 : Int) (z2 : Int) : Option (Z3 × Int × Int × Int) :=
 (Z13 ((ByteArray.mk #[42])) zl zp).bind fun r1 =>
 if (r1.1) = true then
 (Z1O x2 zp zl r1.2 z1 z2 4 0 ((-1)) 0 0 (([] : List Z7)) (([x1] : List Z3)))
 else
 ((Z13 ((ByteArray.mk #[43])) zl r1.2).bind fun r2 =>
 if (r2.1) = true then
 (Z1O x2 zp zl r2.2 z1 z2 4 1 ((-1)) 0 0 (([] : List Z7)) (([x1] : List Z3)))
 else
 ((Z13 ((ByteArray.mk #[63])) zl r2.2).bind fun r3 =>
 if (r3.1) = true then
 (Z1O x2 zp zl r3.2 z1 z2 4 0 1 0 0 (([] : List Z7)) (([x1] : List Z3)))
 else
 ((Z13 ((ByteArray.mk #[123])) zl r3.2).bind fun r4 =>
 if (r4.1) = true then
 ((Z4b zp zl r4.2 z6 zd zh z1 z2).bind fun r5 =>
 Z1O x2 zp zl r5.2.2.1 r5.2.2.2.1 r5.2.2.2.2 4 r5.1 r5.2.1 0 0 (([] : List Z7)) (([x1] : List Z3)))
 else
 (some (x1, r4.2, z1, z2)))))
theorem Z9E (x1 : Z3) (x2 : Bool) (zl : List Int) (zp : Int) (z6 : Int) (zd : Int) (zh : List Zr) (z1 : Int) (z2 : Int) (z1s : Own) (z1f : Own) (zn : Own) (zb : Own) (zu : okApp zb = true) : Sim (Z2v zl z6 zd zh zn zb) (Z3v x1 x2 zl zp z6 zd zh z1 z2) (EE 43 [(.ptr 0 0), (.p (.agg (ZE x1 z1s z1f))), (bv x2)] [(Zj (Zk.mk zl zp z6 zd zh (Zi.mk z1 z2)) zn zb)]) := by
 unfold Z3v
 refine zf (Zi4 ..) ?_
 refine ze ?_
 refine zx (.ptr 1 0) [(Zj (Zk.mk zl zp z6 zd zh (Zi.mk z1 z2)) zn zb), (Zq x1 z1s z1f)] ?_
 refine zz (.ptr 2 0) [(Zj (Zk.mk zl zp z6 zd zh (Zi.mk z1 z2)) zn zb), (Zq x1 z1s z1f), (Zq (Z3.mk 0 0 0 0 0 ([] : List Z7) ([] : List Z3)) .nl .nl)] ?_
 refine ze ?_
 refine zo (.ptr 0 0) ?_
 refine zo (.ptr 0 1) ?_
 refine zo (iv zp) ?_
 refine ze ?_
 refine zo (.p (.agg (ZE x1 (shrO z1s) (shrO z1f)))) ?_
 refine zo (.p (.lst .ex (([x1] : List Z3).map ZI))) ?_ (Eq.trans (b := some (.p (.lst .ex [.agg (Z2e x1)]))) (by kernel_rfl) (by simp only [List.map_cons, List.map_nil, Z31]))
 refine zo (.p (.agg (ZE (Z3.mk 4 0 (-1) 0 0 ([] : List Z7) ([x1] : List Z3)) .nl .ex))) ?_
 refine zz (.ptr 3 0) [(Zj (Zk.mk zl zp z6 zd zh (Zi.mk z1 z2)) zn zb), (Zq x1 z1s z1f), (Zq (Z3.mk 0 0 0 0 0 ([] : List Z7) ([] : List Z3)) .nl .nl), (Zq (Z3.mk 0 0 0 0 0 ([] : List Z7) ([] : List Z3)) .nl .nl)] ?_
 refine zt [(Zj (Zk.mk zl zp z6 zd zh (Zi.mk z1 z2)) zn zb), (Zq x1 z1s z1f), (Zq (Z3.mk 0 0 0 0 0 ([] : List Z7) ([] : List Z3)) .nl .nl), (Zq (Z3.mk 4 0 (-1) 0 0 ([] : List Z7) ([x1] : List Z3)) .nl .ex)] ?_
 refine ze ?_
 refine zi fun r1 hr1 => ?_
 obtain ⟨qr1, er1, exr1, rfl⟩ := Z18 ((ByteArray.mk #[42])) (zl) (zp) (z6) (zd) (zh) (z1) (z2) zn zb zu r1 hr1
 refine zc [0] (bv r1.1) [(Zj (Zk.mk zl r1.2 z6 zd zh (Zi.mk z1 z2)) zn zb), (Zq x1 z1s z1f), (Zq (Z3.mk 0 0 0 0 0 ([] : List Z7) ([] : List Z3)) .nl .nl), (Zq (Z3.mk 4 0 (-1) 0 0 ([] : List Z7) ([x1] : List Z3)) .nl .ex)] er1 ?_
 refine za (r1.1) ?_ ?_
 ·exact zk (Z3w (x2) (zp) (zl) (r1.2) (z6) (zd) (zh) (z1) (z2) (x1) ((Z3.mk 0 0 0 0 0 ([] : List Z7) ([] : List Z3))) (4) (0) ((-1)) (0) (0) (([] : List Z7)) (([x1] : List Z3)) zn zb z1s z1f .nl .nl .nl .ex zu rfl rfl rfl rfl)
 ·refine ze ?_
  refine zi fun r2 hr2 => ?_
  obtain ⟨qr2, er2, exr2, rfl⟩ := Z18 ((ByteArray.mk #[43])) (zl) (r1.2) (z6) (zd) (zh) (z1) (z2) zn zb zu r2 hr2
  refine zc [0] (bv r2.1) [(Zj (Zk.mk zl r2.2 z6 zd zh (Zi.mk z1 z2)) zn zb), (Zq x1 z1s z1f), (Zq (Z3.mk 0 0 0 0 0 ([] : List Z7) ([] : List Z3)) .nl .nl), (Zq (Z3.mk 4 0 (-1) 0 0 ([] : List Z7) ([x1] : List Z3)) .nl .ex)] er2 ?_
  refine za (r2.1) ?_ ?_
  ·refine ze ?_
   refine zo (.ptr 3 1) ?_
   refine zt [(Zj (Zk.mk zl r2.2 z6 zd zh (Zi.mk z1 z2)) zn zb), (Zq x1 z1s z1f), (Zq (Z3.mk 0 0 0 0 0 ([] : List Z7) ([] : List Z3)) .nl .nl), (Zq (Z3.mk 4 1 (-1) 0 0 ([] : List Z7) ([x1] : List Z3)) .nl .ex)] ?_
   exact zk (Z3w (x2) (zp) (zl) (r2.2) (z6) (zd) (zh) (z1) (z2) (x1) ((Z3.mk 0 0 0 0 0 ([] : List Z7) ([] : List Z3))) (4) (1) ((-1)) (0) (0) (([] : List Z7)) (([x1] : List Z3)) zn zb z1s z1f .nl .nl .nl .ex zu rfl rfl rfl rfl)
  ·refine ze ?_
   refine zi fun r3 hr3 => ?_
   obtain ⟨qr3, er3, exr3, rfl⟩ := Z18 ((ByteArray.mk #[63])) (zl) (r2.2) (z6) (zd) (zh) (z1) (z2) zn zb zu r3 hr3
   refine zc [0] (bv r3.1) [(Zj (Zk.mk zl r3.2 z6 zd zh (Zi.mk z1 z2)) zn zb), (Zq x1 z1s z1f), (Zq (Z3.mk 0 0 0 0 0 ([] : List Z7) ([] : List Z3)) .nl .nl), (Zq (Z3.mk 4 0 (-1) 0 0 ([] : List Z7) ([x1] : List Z3)) .nl .ex)] er3 ?_
   refine za (r3.1) ?_ ?_
   ·refine ze ?_
    refine zo (.ptr 3 2) ?_
    refine zt [(Zj (Zk.mk zl r3.2 z6 zd zh (Zi.mk z1 z2)) zn zb), (Zq x1 z1s z1f), (Zq (Z3.mk 0 0 0 0 0 ([] : List Z7) ([] : List Z3)) .nl .nl), (Zq (Z3.mk 4 0 1 0 0 ([] : List Z7) ([x1] : List Z3)) .nl .ex)] ?_
    exact zk (Z3w (x2) (zp) (zl) (r3.2) (z6) (zd) (zh) (z1) (z2) (x1) ((Z3.mk 0 0 0 0 0 ([] : List Z7) ([] : List Z3))) (4) (0) (1) (0) (0) (([] : List Z7)) (([x1] : List Z3)) zn zb z1s z1f .nl .nl .nl .ex zu rfl rfl rfl rfl)
   ·refine ze ?_
    refine zi fun r4 hr4 => ?_
    obtain ⟨qr4, er4, exr4, rfl⟩ := Z18 ((ByteArray.mk #[123])) (zl) (r3.2) (z6) (zd) (zh) (z1) (z2) zn zb zu r4 hr4
    refine zc [0] (bv r4.1) [(Zj (Zk.mk zl r4.2 z6 zd zh (Zi.mk z1 z2)) zn zb), (Zq x1 z1s z1f), (Zq (Z3.mk 0 0 0 0 0 ([] : List Z7) ([] : List Z3)) .nl .nl), (Zq (Z3.mk 4 0 (-1) 0 0 ([] : List Z7) ([x1] : List Z3)) .nl .ex)] er4 ?_
    refine za (r4.1) ?_ ?_
    ·refine ze ?_
     refine zi fun r5 hr5 => ?_
     obtain ⟨qr5, er5, exr5, rfl⟩ := Za4 (zp) (zl) (r4.2) (z6) (zd) (zh) (z1) (z2) zn zb zu r5 hr5
     refine zc [0] (.p (.tup [(.v (.int .i64 r5.1)), (.v (.int .i64 r5.2.1))])) [(Zj (Zk.mk zl r5.2.2.1 z6 zd zh (Zi.mk r5.2.2.2.1 r5.2.2.2.2)) zn zb), (Zq x1 z1s z1f), (Zq (Z3.mk 0 0 0 0 0 ([] : List Z7) ([] : List Z3)) .nl .nl), (Zq (Z3.mk 4 0 (-1) 0 0 ([] : List Z7) ([x1] : List Z3)) .nl .ex)] er5 ?_
     refine zo (iv r5.1) ?_
     refine zo (iv r5.2.1) ?_
     refine zo (.ptr 3 1) ?_
     refine zt [(Zj (Zk.mk zl r5.2.2.1 z6 zd zh (Zi.mk r5.2.2.2.1 r5.2.2.2.2)) zn zb), (Zq x1 z1s z1f), (Zq (Z3.mk 0 0 0 0 0 ([] : List Z7) ([] : List Z3)) .nl .nl), (Zq (Z3.mk 4 r5.1 (-1) 0 0 ([] : List Z7) ([x1] : List Z3)) .nl .ex)] ?_
     refine zo (.ptr 3 2) ?_
     refine zt [(Zj (Zk.mk zl r5.2.2.1 z6 zd zh (Zi.mk r5.2.2.2.1 r5.2.2.2.2)) zn zb), (Zq x1 z1s z1f), (Zq (Z3.mk 0 0 0 0 0 ([] : List Z7) ([] : List Z3)) .nl .nl), (Zq (Z3.mk 4 r5.1 r5.2.1 0 0 ([] : List Z7) ([x1] : List Z3)) .nl .ex)] ?_
     exact zk (Z3w (x2) (zp) (zl) (r5.2.2.1) (z6) (zd) (zh) (r5.2.2.2.1) (r5.2.2.2.2) (x1) ((Z3.mk 0 0 0 0 0 ([] : List Z7) ([] : List Z3))) (4) (r5.1) (r5.2.1) (0) (0) (([] : List Z7)) (([x1] : List Z3)) zn zb z1s z1f .nl .nl .nl .ex zu rfl rfl rfl rfl)
    ·refine ze ?_
     refine zo (.p (.agg (ZE x1 (shrO z1s) (shrO z1f)))) ?_
     refine zt [(Zj (Zk.mk zl r4.2 z6 zd zh (Zi.mk z1 z2)) zn zb), (Zq x1 z1s z1f), (Zq x1 (shrO z1s) (shrO z1f)), (Zq (Z3.mk 4 0 (-1) 0 0 ([] : List Z7) ([x1] : List Z3)) .nl .ex)] ?_
     exact zr ((.p (.agg (ZE x1 .sh .sh))), [(Zj (Zk.mk zl r4.2 z6 zd zh (Zi.mk z1 z2)) zn zb), (Zq x1 z1s z1f), (Zq x1 (shrO z1s) (shrO z1f)), (Zq (Z3.mk 4 0 (-1) 0 0 ([] : List Z7) ([x1] : List Z3)) .nl .ex)]) ⟨_, rfl⟩
theorem Z6W (x1 : Z3) (x2 : Bool) (zl : List Int) (zp : Int) (z6 : Int) (zd : Int) (zh : List Zr) (z1 : Int) (z2 : Int) {r} (h : Z3v x1 x2 zl zp z6 zd zh z1 z2 = some r) : Z4f x1 x2 zl zp z6 zd zh z1 z2 = some r :=
 pick_of (fun _ _ ha hb => RRun.uniq (Zah _ _ _ _ _ _) (ha .ex .ex .ex .ex rfl) (hb .ex .ex .ex .ex rfl)) (fun z1s z1f zn zb zu => Z9E x1 x2 zl zp z6 zd zh z1 z2 z1s z1f zn zb zu r h)
noncomputable def Z5z (x4 : Int) (zp : Int) (z1 : Int) (z2 : Int) : Option (Int × Int × Int × Int × Int) :=
 some (x4, (-1), zp, z1, z2)
theorem Z8O (x4 : Int) (zl : List Int) (zp : Int) (z6 : Int) (zd : Int) (zh : List Zr) (z1 : Int) (z2 : Int) (zn : Own) (zb : Own) (zu : okApp zb = true) : Sim (Z1L zl z6 zd zh zn zb) (Z5z x4 zp z1 z2) (ZdV 1 (iv x4) [(Zj (Zk.mk zl zp z6 zd zh (Zi.mk z1 z2)) zn zb)]) := by
 unfold Z5z
 refine zf (ZfP ..) ?_
 refine ze ?_
 exact zr ((.p (.tup [(.v (.int .i64 x4)), (.v (.int .i64 (-1)))])), [(Zj (Zk.mk zl zp z6 zd zh (Zi.mk z1 z2)) zn zb)]) ⟨_, rfl⟩
noncomputable def Z4l (x4 : Int) (x5 : Int) (zp : Int) (z1 : Int) (z2 : Int) : Option (Int × Int × Int × Int × Int) :=
 some (x4, x5, zp, z1, z2)
theorem Z5X (x4 : Int) (x5 : Int) (zl : List Int) (zp : Int) (z6 : Int) (zd : Int) (zh : List Zr) (z1 : Int) (z2 : Int) (zn : Own) (zb : Own) (zu : okApp zb = true) : Sim (Z1L zl z6 zd zh zn zb) (Z4l x4 x5 zp z1 z2) (Zc7 1 (iv x4) (iv x5) [(Zj (Zk.mk zl zp z6 zd zh (Zi.mk z1 z2)) zn zb)]) := by
 unfold Z4l
 refine zf (Zfd ..) ?_
 refine ze ?_
 exact zr ((.p (.tup [(.v (.int .i64 x4)), (.v (.int .i64 x5))])), [(Zj (Zk.mk zl zp z6 zd zh (Zi.mk z1 z2)) zn zb)]) ⟨_, rfl⟩
noncomputable def Z22 (x1 : Int) (x4 : Int) (x5 : Int) (zl : List Int) (z1 : Int) (z2 : Int) : Option (Int × Int × Int × Int × Int) :=
 (ZT 23 x1 zl z1 z2).bind fun r1 =>
 Z4l x4 x5 r1.1 r1.2.1 r1.2.2
theorem Z3y (x1 : Int) (x4 : Int) (x5 : Int) (zl : List Int) (zp : Int) (z6 : Int) (zd : Int) (zh : List Zr) (z1 : Int) (z2 : Int) (zn : Own) (zb : Own) (zu : okApp zb = true) : Sim (Z1L zl z6 zd zh zn zb) (Z22 x1 x4 x5 zl z1 z2) (Z9V 1 (.ptr 0 0) (iv x1) (iv x4) (iv x5) [(Zj (Zk.mk zl zp z6 zd zh (Zi.mk z1 z2)) zn zb)]) := by
 unfold Z22
 refine zf (Zff ..) ?_
 refine ze ?_
 refine zi fun r1 hr1 => ?_
 obtain ⟨qr1, er1, exr1, rfl⟩ := ZW (23) (x1) (zl) (zp) (z6) (zd) (zh) (z1) (z2) zn zb zu r1 hr1
 refine zc [0] (.p (.tup [])) [(Zj (Zk.mk zl r1.1 z6 zd zh (Zi.mk r1.2.1 r1.2.2)) zn zb)] er1 ?_
 exact zk (Z5X (x4) (x5) (zl) (r1.1) (z6) (zd) (zh) (r1.2.1) (r1.2.2) zn zb zu)
noncomputable def Z1R (x1 : Int) (x4 : Int) (x5 : Int) (zl : List Int) (zp : Int) (z1 : Int) (z2 : Int) : Option (Int × Int × Int × Int × Int) :=
 if ((decide (x4 < 0))) = true then
 (Z22 x1 x4 x5 zl z1 z2)
 else
 (if ((decide (x5 < x4))) = true then
 (Z22 x1 x4 x5 zl z1 z2)
 else
 (if ((decide (64 < x5))) = true then
 (Z22 x1 x4 x5 zl z1 z2)
 else
 ((Z13 ((ByteArray.mk #[125])) zl zp).bind fun r1 =>
 if ((!r1.1)) = true then
 (Z22 x1 x4 x5 zl z1 z2)
 else
 (Z4l x4 x5 r1.2 z1 z2))))
theorem Z3M (x1 : Int) (x4 : Int) (x5 : Int) (zl : List Int) (zp : Int) (z6 : Int) (zd : Int) (zh : List Zr) (z1 : Int) (z2 : Int) (zn : Own) (zb : Own) (zu : okApp zb = true) : Sim (Z1L zl z6 zd zh zn zb) (Z1R x1 x4 x5 zl zp z1 z2) (Zbd 1 (.ptr 0 0) (iv x1) (iv x4) (iv x5) [(Zj (Zk.mk zl zp z6 zd zh (Zi.mk z1 z2)) zn zb)]) := by
 unfold Z1R
 refine zf (ZfI ..) ?_
 refine ze ?_
 refine zo (bv (decide (x4 < 0))) ?_
 refine za ((decide (x4 < 0))) ?_ ?_
 ·exact zk (Z3y (x1) (x4) (x5) (zl) (zp) (z6) (zd) (zh) (z1) (z2) zn zb zu)
 ·refine zo (bv (decide (x5 < x4))) ?_
  refine za ((decide (x5 < x4))) ?_ ?_
  ·exact zk (Z3y (x1) (x4) (x5) (zl) (zp) (z6) (zd) (zh) (z1) (z2) zn zb zu)
  ·refine zo (bv (decide (64 < x5))) ?_
   refine za ((decide (64 < x5))) ?_ ?_
   ·exact zk (Z3y (x1) (x4) (x5) (zl) (zp) (z6) (zd) (zh) (z1) (z2) zn zb zu)
   ·refine zi fun r1 hr1 => ?_
    obtain ⟨qr1, er1, exr1, rfl⟩ := Z18 ((ByteArray.mk #[125])) (zl) (zp) (z6) (zd) (zh) (z1) (z2) zn zb zu r1 hr1
    refine zc [0] (bv r1.1) [(Zj (Zk.mk zl r1.2 z6 zd zh (Zi.mk z1 z2)) zn zb)] er1 ?_
    refine zo (bv (!r1.1)) ?_
    refine za ((!r1.1)) ?_ ?_
    ·exact zk (Z3y (x1) (x4) (x5) (zl) (r1.2) (z6) (zd) (zh) (z1) (z2) zn zb zu)
    ·exact zk (Z5X (x4) (x5) (zl) (r1.2) (z6) (zd) (zh) (z1) (z2) zn zb zu)
noncomputable def Z2U (x1 : Int) (x4 : Int) (zl : List Int) (zp : Int) (z1 : Int) (z2 : Int) : Option (Int × Int × Int × Int × Int) :=
 Z1R x1 x4 ((-2)) zl zp z1 z2
theorem Z64 (x1 : Int) (x4 : Int) (zl : List Int) (zp : Int) (z6 : Int) (zd : Int) (zh : List Zr) (z1 : Int) (z2 : Int) (zn : Own) (zb : Own) (zu : okApp zb = true) : Sim (Z1L zl z6 zd zh zn zb) (Z2U x1 x4 zl zp z1 z2) (Zcs 1 (.ptr 0 0) (iv x1) (iv x4) [(Zj (Zk.mk zl zp z6 zd zh (Zi.mk z1 z2)) zn zb)]) := by
 unfold Z2U
 refine zf (Zg4 ..) ?_
 refine ze ?_
 exact zk (Z3M (x1) (x4) ((-2)) (zl) (zp) (z6) (zd) (zh) (z1) (z2) zn zb zu)
noncomputable def Z4v (x1 : Int) (x4 : Int) (zl : List Int) (zp : Int) (z1 : Int) (z2 : Int) : Option (Int × Int × Int × Int × Int) :=
 (Z13 ((ByteArray.mk #[125])) zl zp).bind fun r1 =>
 if (r1.1) = true then
 (if ((decide (x4 ≤ 64))) = true then
 (Z5z x4 r1.2 z1 z2)
 else
 (Z2U x1 x4 zl r1.2 z1 z2))
 else
 (Z2U x1 x4 zl r1.2 z1 z2)
theorem Z8W (x1 : Int) (x4 : Int) (zl : List Int) (zp : Int) (z6 : Int) (zd : Int) (zh : List Zr) (z1 : Int) (z2 : Int) (zn : Own) (zb : Own) (zu : okApp zb = true) : Sim (Z1L zl z6 zd zh zn zb) (Z4v x1 x4 zl zp z1 z2) (ZeF 1 (.ptr 0 0) (iv x1) (iv x4) [(Zj (Zk.mk zl zp z6 zd zh (Zi.mk z1 z2)) zn zb)]) := by
 unfold Z4v
 refine zf (Zg6 ..) ?_
 refine ze ?_
 refine zi fun r1 hr1 => ?_
 obtain ⟨qr1, er1, exr1, rfl⟩ := Z18 ((ByteArray.mk #[125])) (zl) (zp) (z6) (zd) (zh) (z1) (z2) zn zb zu r1 hr1
 refine zc [0] (bv r1.1) [(Zj (Zk.mk zl r1.2 z6 zd zh (Zi.mk z1 z2)) zn zb)] er1 ?_
 refine za (r1.1) ?_ ?_
 ·refine zo (bv (decide (x4 ≤ 64))) ?_
  refine za ((decide (x4 ≤ 64))) ?_ ?_
  ·exact zk (Z8O (x4) (zl) (r1.2) (z6) (zd) (zh) (z1) (z2) zn zb zu)
  ·exact zk (Z64 (x1) (x4) (zl) (r1.2) (z6) (zd) (zh) (z1) (z2) zn zb zu)
 ·exact zk (Z64 (x1) (x4) (zl) (r1.2) (z6) (zd) (zh) (z1) (z2) zn zb zu)
noncomputable def Z49 (x1 : Int) (zl : List Int) (zp : Int) (z6 : Int) (zd : Int) (zh : List Zr) (z1 : Int) (z2 : Int) : Option (Int × Int × Int × Int × Int) :=
 (Z3r zl zp z6 zd zh z1 z2).bind fun r1 =>
 (Z13 ((ByteArray.mk #[44])) zl r1.2).bind fun r2 =>
 if (r2.1) = true then
 ((Z3r zl r2.2 z6 zd zh z1 z2).bind fun r3 =>
 if ((decide (r3.1 < 0))) = true then
 (if ((decide (0 ≤ r1.1))) = true then
 (Z4v x1 r1.1 zl r3.2 z1 z2)
 else
 (Z1R x1 r1.1 r3.1 zl r3.2 z1 z2))
 else
 (Z1R x1 r1.1 r3.1 zl r3.2 z1 z2))
 else
 (Z1R x1 r1.1 r1.1 zl r2.2 z1 z2)
theorem Z9C (x1 : Int) (zl : List Int) (zp : Int) (z6 : Int) (zd : Int) (zh : List Zr) (z1 : Int) (z2 : Int) (zn : Own) (zb : Own) (zu : okApp zb = true) : Sim (Z1L zl z6 zd zh zn zb) (Z49 x1 zl zp z6 zd zh z1 z2) (EE 52 [(.ptr 0 0), (iv x1)] [(Zj (Zk.mk zl zp z6 zd zh (Zi.mk z1 z2)) zn zb)]) := by
 unfold Z49
 refine zf (ZhZ ..) ?_
 refine ze ?_
 refine ze ?_
 refine zi fun r1 hr1 => ?_
 obtain ⟨qr1, er1, exr1, rfl⟩ := Z6P (zl) (zp) (z6) (zd) (zh) (z1) (z2) zn zb zu r1 hr1
 refine zc [0] (iv r1.1) [(Zj (Zk.mk zl r1.2 z6 zd zh (Zi.mk z1 z2)) zn zb)] er1 ?_
 refine ze ?_
 refine ze ?_
 refine zi fun r2 hr2 => ?_
 obtain ⟨qr2, er2, exr2, rfl⟩ := Z18 ((ByteArray.mk #[44])) (zl) (r1.2) (z6) (zd) (zh) (z1) (z2) zn zb zu r2 hr2
 refine zc [0] (bv r2.1) [(Zj (Zk.mk zl r2.2 z6 zd zh (Zi.mk z1 z2)) zn zb)] er2 ?_
 refine za (r2.1) ?_ ?_
 ·refine ze ?_
  refine zi fun r3 hr3 => ?_
  obtain ⟨qr3, er3, exr3, rfl⟩ := Z6P (zl) (r2.2) (z6) (zd) (zh) (z1) (z2) zn zb zu r3 hr3
  refine zc [0] (iv r3.1) [(Zj (Zk.mk zl r3.2 z6 zd zh (Zi.mk z1 z2)) zn zb)] er3 ?_
  refine ze ?_
  refine zo (bv (decide (r3.1 < 0))) ?_
  refine za ((decide (r3.1 < 0))) ?_ ?_
  ·refine zo (bv (decide (0 ≤ r1.1))) ?_
   refine za ((decide (0 ≤ r1.1))) ?_ ?_
   ·exact zk (Z8W (x1) (r1.1) (zl) (r3.2) (z6) (zd) (zh) (z1) (z2) zn zb zu)
   ·exact zk (Z3M (x1) (r1.1) (r3.1) (zl) (r3.2) (z6) (zd) (zh) (z1) (z2) zn zb zu)
  ·exact zk (Z3M (x1) (r1.1) (r3.1) (zl) (r3.2) (z6) (zd) (zh) (z1) (z2) zn zb zu)
 ·exact zk (Z3M (x1) (r1.1) (r1.1) (zl) (r2.2) (z6) (zd) (zh) (z1) (z2) zn zb zu)
theorem Z6G (x1 : Int) (zl : List Int) (zp : Int) (z6 : Int) (zd : Int) (zh : List Zr) (z1 : Int) (z2 : Int) {r} (h : Z49 x1 zl zp z6 zd zh z1 z2 = some r) : Z4b x1 zl zp z6 zd zh z1 z2 = some r :=
 pick_of (fun _ _ ha hb => RRun.uniq (Zad _ _ _ _ _ _) (ha .ex .ex rfl) (hb .ex .ex rfl)) (fun zn zb zu => Z9C x1 zl zp z6 zd zh z1 z2 zn zb zu r h)
noncomputable def Z6b (zl : List Int) (zp : Int) (z6 : Int) (zd : Int) (zh : List Zr) (z1 : Int) (z2 : Int) : Option (Int × Int) :=
 Z2q ((-1)) 0 zl zp z6 zd zh z1 z2
theorem Z9D (zl : List Int) (zp : Int) (z6 : Int) (zd : Int) (zh : List Zr) (z1 : Int) (z2 : Int) (zn : Own) (zb : Own) (zu : okApp zb = true) : Sim (Z1Y zl z6 zd zh z1 z2 zn zb) (Z6b zl zp z6 zd zh z1 z2) (EE 63 [(.ptr 0 0)] [(Zj (Zk.mk zl zp z6 zd zh (Zi.mk z1 z2)) zn zb)]) := by
 unfold Z6b
 refine zf (Zi7 ..) ?_
 refine ze ?_
 refine ze ?_
 refine ze ?_
 exact zk (Z6j ((-1)) (0) (zl) (zp) (z6) (zd) (zh) (z1) (z2) zn zb zu)
theorem Za0 (zl : List Int) (zp : Int) (z6 : Int) (zd : Int) (zh : List Zr) (z1 : Int) (z2 : Int) {r} (h : Z6b zl zp z6 zd zh z1 z2 = some r) : Z3r zl zp z6 zd zh z1 z2 = some r :=
 pick_of (fun _ _ ha hb => RRun.uniq (Z7s _ _ _ _ _ _ _ _) (ha .ex .ex rfl) (hb .ex .ex rfl)) (fun zn zb zu => Z9D zl zp z6 zd zh z1 z2 zn zb zu r h)
noncomputable def Z4z (x3 : Int) (x4 : Int) (zl : List Int) (zp : Int) (z6 : Int) (zd : Int) (zh : List Zr) (z1 : Int) (z2 : Int) : Option (Int × Int) :=
 (Z20 zl zp).bind fun r1 =>
 Z2q ((IntKind.i64.wrap ((IntKind.i64.wrap ((IntKind.i64.wrap (10 * (max x3 0))) + r1.1)) - 48))) ((IntKind.i64.wrap (x4 + 1))) zl r1.2 z6 zd zh z1 z2
theorem Z8J (x3 : Int) (x4 : Int) (zl : List Int) (zp : Int) (z6 : Int) (zd : Int) (zh : List Zr) (z1 : Int) (z2 : Int) (zn : Own) (zb : Own) (zu : okApp zb = true) : Sim (Z1Y zl z6 zd zh z1 z2 zn zb) (Z4z x3 x4 zl zp z6 zd zh z1 z2) (ZdT 1 (.ptr 0 0) (iv x3) (iv x4) [(Zj (Zk.mk zl zp z6 zd zh (Zi.mk z1 z2)) zn zb)]) := by
 unfold Z4z
 refine zf (ZgI ..) ?_
 refine ze ?_
 refine zo (iv (max x3 0)) ?_ (xminmax2_max _ _)
 refine zo (iv (IntKind.i64.wrap (10 * (max x3 0)))) ?_
 refine zi fun r1 hr1 => ?_
 obtain ⟨qr1, er1, exr1, rfl⟩ := Z2l (zl) (zp) (z6) (zd) (zh) (z1) (z2) zn zb zu r1 hr1
 refine zc [0] (iv r1.1) [(Zj (Zk.mk zl r1.2 z6 zd zh (Zi.mk z1 z2)) zn zb)] er1 ?_
 refine zo (iv (IntKind.i64.wrap ((IntKind.i64.wrap (10 * (max x3 0))) + r1.1))) ?_
 refine zo (iv (IntKind.i64.wrap ((IntKind.i64.wrap ((IntKind.i64.wrap (10 * (max x3 0))) + r1.1)) - 48))) ?_
 refine ze ?_
 refine zo (iv (IntKind.i64.wrap (x4 + 1))) ?_
 exact zk (Z6j ((IntKind.i64.wrap ((IntKind.i64.wrap ((IntKind.i64.wrap (10 * (max x3 0))) + r1.1)) - 48))) ((IntKind.i64.wrap (x4 + 1))) (zl) (r1.2) (z6) (zd) (zh) (z1) (z2) zn zb zu)
noncomputable def Z2S (x3 : Int) (zp : Int) : Option (Int × Int) :=
 some (x3, zp)
theorem Z4T (x3 : Int) (zl : List Int) (zp : Int) (z6 : Int) (zd : Int) (zh : List Zr) (z1 : Int) (z2 : Int) (zn : Own) (zb : Own) (zu : okApp zb = true) : Sim (Z1Y zl z6 zd zh z1 z2 zn zb) (Z2S x3 zp) (ZbM 1 (iv x3) [(Zj (Zk.mk zl zp z6 zd zh (Zi.mk z1 z2)) zn zb)]) := by
 unfold Z2S
 refine zf (Zgf ..) ?_
 refine ze ?_
 exact zr ((iv x3), [(Zj (Zk.mk zl zp z6 zd zh (Zi.mk z1 z2)) zn zb)]) ⟨_, rfl⟩
noncomputable def Z4A (x3 : Int) (x4 : Int) (zl : List Int) (zp : Int) (z6 : Int) (zd : Int) (zh : List Zr) (z1 : Int) (z2 : Int) : Option (Int × Int) :=
 if ((decide (x4 < 2))) = true then
 ((Z1C ((Zk.mk zl zp z6 zd zh (Zi.mk z1 z2)))).bind fun r1 =>
 if ((decide (48 ≤ r1))) = true then
 ((Z1C ((Zk.mk zl zp z6 zd zh (Zi.mk z1 z2)))).bind fun r2 =>
 if ((decide (r2 ≤ 57))) = true then
 (Z4z x3 x4 zl zp z6 zd zh z1 z2)
 else
 (Z2S x3 zp))
 else
 (Z2S x3 zp))
 else
 (Z2S x3 zp)
theorem Z8Y (x3 : Int) (x4 : Int) (zl : List Int) (zp : Int) (z6 : Int) (zd : Int) (zh : List Zr) (z1 : Int) (z2 : Int) (zn : Own) (zb : Own) (zu : okApp zb = true) : Sim (Z1Y zl z6 zd zh z1 z2 zn zb) (Z4A x3 x4 zl zp z6 zd zh z1 z2) (Zb1 1 (.ptr 0 0) (iv x3) (iv x4) [(Zj (Zk.mk zl zp z6 zd zh (Zi.mk z1 z2)) zn zb)]) := by
 unfold Z4A
 refine zf (Zgo ..) ?_
 refine ze ?_
 refine zo (bv (decide (x4 < 2))) ?_
 refine za ((decide (x4 < 2))) ?_ ?_
 ·refine zi fun r1 hr1 => ?_
  obtain ⟨qr1, er1, exr1, rfl⟩ := Z1G ((Zk.mk zl zp z6 zd zh (Zi.mk z1 z2))) zn zb zu r1 hr1
  refine zc [0] (iv r1) [(Zj (Zk.mk zl zp z6 zd zh (Zi.mk z1 z2)) zn zb)] er1 ?_
  refine zo (bv (decide (48 ≤ r1))) ?_
  refine za ((decide (48 ≤ r1))) ?_ ?_
  ·refine zi fun r2 hr2 => ?_
   obtain ⟨qr2, er2, exr2, rfl⟩ := Z1G ((Zk.mk zl zp z6 zd zh (Zi.mk z1 z2))) zn zb zu r2 hr2
   refine zc [0] (iv r2) [(Zj (Zk.mk zl zp z6 zd zh (Zi.mk z1 z2)) zn zb)] er2 ?_
   refine zo (bv (decide (r2 ≤ 57))) ?_
   refine za ((decide (r2 ≤ 57))) ?_ ?_
   ·exact zk (Z8J (x3) (x4) (zl) (zp) (z6) (zd) (zh) (z1) (z2) zn zb zu)
   ·exact zk (Z4T (x3) (zl) (zp) (z6) (zd) (zh) (z1) (z2) zn zb zu)
  ·exact zk (Z4T (x3) (zl) (zp) (z6) (zd) (zh) (z1) (z2) zn zb zu)
 ·exact zk (Z4T (x3) (zl) (zp) (z6) (zd) (zh) (z1) (z2) zn zb zu)
theorem Z95 (x3 : Int) (x4 : Int) (zl : List Int) (zp : Int) (z6 : Int) (zd : Int) (zh : List Zr) (z1 : Int) (z2 : Int) {r} (h : Z4A x3 x4 zl zp z6 zd zh z1 z2 = some r) : Z2q x3 x4 zl zp z6 zd zh z1 z2 = some r :=
 pick_of (fun _ _ ha hb => RRun.uniq (Z7s _ _ _ _ _ _ _ _) (ha .ex .ex rfl) (hb .ex .ex rfl)) (fun zn zb zu => Z8Y x3 x4 zl zp z6 zd zh z1 z2 zn zb zu r h)
noncomputable def Z1I  : Option (Bool) :=
 some (false)
theorem Z1T  : Sim (Z1q) (Z1I) (Z8s 0  []) := by
 unfold Z1I
 refine zf (Zgr ..) ?_
 refine ze ?_
 exact zr ((bv false), []) ⟨_, rfl⟩
noncomputable def Z43 (b0 : Z3) (b1 : Z3) : Option (Bool) :=
 Z33 b0.Kids ((b0.Kids.length : Int)) 0 b1
theorem Z8m (b0 : Z3) (b1 : Z3) (z2h : Own) (z1K : Own) (zB : Own) (zy : Own) : Sim (Z1q) (Z43 b0 b1) (Zdz 0 (.ptr 0 0) (.ptr 1 0) [(Zq b0 z2h z1K), (Zq b1 zB zy)]) := by
 unfold Z43
 refine zf (Zgw ..) ?_
 refine ze ?_
 refine zo (.ptr 0 6) ?_
 refine zo (.p (.lst (shrO z1K) (b0.Kids.map ZI))) ?_
 refine zo (iv (b0.Kids.length : Int)) ?_ (Eq.trans (by kernel_rfl) (xlen_of (P := PP) (t := 25) (d := 27) (by kernel_rfl) ZI (shrO z1K) b0.Kids))
 exact zk (Z5V (b0.Kids) ((b0.Kids.length : Int)) (0) (b0) (b1) (shrO z1K) z2h z1K zB zy)
noncomputable def Z4I (x0 : Z3) (x1 : Z3) : Option (Bool) :=
 if ((x0.Kind != x1.Kind)) = true then
 (Z1I)
 else
 (if ((x0.Lo != x1.Lo)) = true then
 (Z1I)
 else
 (if ((x0.Hi != x1.Hi)) = true then
 (Z1I)
 else
 (if ((x0.Mode != x1.Mode)) = true then
 (Z1I)
 else
 (if ((x0.Ref != x1.Ref)) = true then
 (Z1I)
 else
 (if (((x0.Kids.length : Int) != (x1.Kids.length : Int))) = true then
 (Z1I)
 else
 ((Z4V x0.Set x1.Set).bind fun r1 =>
 if ((!r1)) = true then
 (Z1I)
 else
 (Z43 x0 x1)))))))
theorem Z9e (x0 : Z3) (x1 : Z3) (z5v : Own) (z4u : Own) (z1s : Own) (z1f : Own) : Sim (Z1q) (Z4I x0 x1) (EE 17 [(.p (.agg (ZE x0 z5v z4u))), (.p (.agg (ZE x1 z1s z1f)))] []) := by
 unfold Z4I
 refine zf (ZhQ ..) ?_
 refine ze ?_
 refine zx (.ptr 0 0) [(Zq x0 z5v z4u)] ?_
 refine zx (.ptr 1 0) [(Zq x0 z5v z4u), (Zq x1 z1s z1f)] ?_
 refine ze ?_
 refine zo (.ptr 0 0) ?_
 refine zo (iv x0.Kind) ?_
 refine zo (.ptr 1 0) ?_
 refine zo (iv x1.Kind) ?_
 refine zo (bv (x0.Kind != x1.Kind)) ?_
 refine za ((x0.Kind != x1.Kind)) ?_ ?_
 ·exact zk (Z1T )
 ·refine zo (.ptr 0 1) ?_
  refine zo (iv x0.Lo) ?_
  refine zo (.ptr 1 1) ?_
  refine zo (iv x1.Lo) ?_
  refine zo (bv (x0.Lo != x1.Lo)) ?_
  refine za ((x0.Lo != x1.Lo)) ?_ ?_
  ·exact zk (Z1T )
  ·refine zo (.ptr 0 2) ?_
   refine zo (iv x0.Hi) ?_
   refine zo (.ptr 1 2) ?_
   refine zo (iv x1.Hi) ?_
   refine zo (bv (x0.Hi != x1.Hi)) ?_
   refine za ((x0.Hi != x1.Hi)) ?_ ?_
   ·exact zk (Z1T )
   ·refine zo (.ptr 0 3) ?_
    refine zo (iv x0.Mode) ?_
    refine zo (.ptr 1 3) ?_
    refine zo (iv x1.Mode) ?_
    refine zo (bv (x0.Mode != x1.Mode)) ?_
    refine za ((x0.Mode != x1.Mode)) ?_ ?_
    ·exact zk (Z1T )
    ·refine zo (.ptr 0 4) ?_
     refine zo (iv x0.Ref) ?_
     refine zo (.ptr 1 4) ?_
     refine zo (iv x1.Ref) ?_
     refine zo (bv (x0.Ref != x1.Ref)) ?_
     refine za ((x0.Ref != x1.Ref)) ?_ ?_
     ·exact zk (Z1T )
     ·refine zo (.ptr 0 6) ?_
      refine zo (.p (.lst (shrO z4u) (x0.Kids.map ZI))) ?_
      refine zo (iv (x0.Kids.length : Int)) ?_ (Eq.trans (by kernel_rfl) (xlen_of (P := PP) (t := 25) (d := 27) (by kernel_rfl) ZI (shrO z4u) x0.Kids))
      refine zo (.ptr 1 6) ?_
      refine zo (.p (.lst (shrO z1f) (x1.Kids.map ZI))) ?_
      refine zo (iv (x1.Kids.length : Int)) ?_ (Eq.trans (by kernel_rfl) (xlen_of (P := PP) (t := 25) (d := 27) (by kernel_rfl) ZI (shrO z1f) x1.Kids))
      refine zo (bv ((x0.Kids.length : Int) != (x1.Kids.length : Int))) ?_
      refine za (((x0.Kids.length : Int) != (x1.Kids.length : Int))) ?_ ?_
      ·exact zk (Z1T )
      ·refine zo (.ptr 0 5) ?_
       refine zo (.p (.lst (shrO z5v) (x0.Set.map Zs))) ?_
       refine zo (.ptr 1 5) ?_
       refine zo (.p (.lst (shrO z1s) (x1.Set.map Zs))) ?_
       refine zi fun r1 hr1 => ?_
       obtain ⟨qr1, er1, exr1, rfl⟩ := Z9P (x0.Set) (x1.Set) .sh .sh r1 hr1
       refine zc [] (bv r1) [(Zq x0 z5v z4u), (Zq x1 z1s z1f)] er1 ?_
       refine zo (bv (!r1)) ?_
       refine za ((!r1)) ?_ ?_
       ·exact zk (Z1T )
       ·exact zk (Z8m (x0) (x1) z5v z4u z1s z1f)
theorem Z9r (x0 : Z3) (x1 : Z3) {r} (h : Z4I x0 x1 = some r) : Z1Z x0 x1 = some r :=
 pick_of (fun _ _ ha hb => RRun.uniq (Z6x) (ha .ex .ex .ex .ex) (hb .ex .ex .ex .ex)) (fun z5v z4u z1s z1f => Z9e x0 x1 z5v z4u z1s z1f r h)
noncomputable def Z42 (x58 : List Z3) (x59 : Int) (x60 : Int) (b1 : Z3) : Option (Bool) :=
 Z33 x58 x59 ((IntKind.i64.wrap (x60 + 1))) b1
theorem Z8h (x58 : List Z3) (x59 : Int) (x60 : Int) (b0 : Z3) (b1 : Z3) (ox58 : Own) (z2h : Own) (z1K : Own) (zB : Own) (zy : Own) : Sim (Z1q) (Z42 x58 x59 x60 b1) (ZdK 0 (.ptr 1 0) (.p (.lst ox58 (x58.map ZI))) (iv x59) (iv x60) [(Zq b0 z2h z1K), (Zq b1 zB zy)]) := by
 unfold Z42
 refine zf (ZgE ..) ?_
 refine ze ?_
 refine zo (iv (IntKind.i64.wrap (x60 + 1))) ?_
 exact zk (Z5V (x58) (x59) ((IntKind.i64.wrap (x60 + 1))) (b0) (b1) ox58 z2h z1K zB zy)
noncomputable def Z44 (x58 : List Z3) (x59 : Int) (x60 : Int) (b1 : Z3) : Option (Bool) :=
 (lget x58 x60).bind fun a1 =>
 (lget b1.Kids x60).bind fun a2 =>
 (Z1Z a1 a2).bind fun r3 =>
 if ((!r3)) = true then
 (some (false))
 else
 (Z42 x58 x59 x60 b1)
theorem Z8x (x58 : List Z3) (x59 : Int) (x60 : Int) (b0 : Z3) (b1 : Z3) (ox58 : Own) (z2h : Own) (z1K : Own) (zB : Own) (zy : Own) : Sim (Z1q) (Z44 x58 x59 x60 b1) (ZdQ 0 (.ptr 1 0) (.p (.lst ox58 (x58.map ZI))) (iv x59) (iv x60) [(Zq b0 z2h z1K), (Zq b1 zB zy)]) := by
 unfold Z44
 refine zf (ZgB ..) ?_
 refine ze ?_
 refine zi fun a1 ha1 => ?_
 refine zo (.cptr (ZE a1 .sh .sh)) ?_ (Eq.trans (by kernel_rfl) (xidx_of (o := ox58) (k := .i64) (n := 7) (e := ZI) (cs := Z2e) Z5x (fun _ => rfl) (by decide) ha1))
 refine zo (.p (.agg (ZE a1 .sh .sh))) ?_
 refine zz (.ptr 2 0) [(Zq b0 z2h z1K), (Zq b1 zB zy), (Zq (Z3.mk 0 0 0 0 0 ([] : List Z7) ([] : List Z3)) .nl .nl)] ?_
 refine zt [(Zq b0 z2h z1K), (Zq b1 zB zy), (Zq a1 .sh .sh)] ?_
 refine ze ?_
 refine zo (.p (.agg (ZE a1 .sh .sh))) ?_
 refine zo (.ptr 1 6) ?_
 refine zo (.p (.lst (shrO zy) (b1.Kids.map ZI))) ?_
 refine zi fun a2 ha2 => ?_
 refine zo (.cptr (ZE a2 .sh .sh)) ?_ (Eq.trans (by kernel_rfl) (xidx_of (o := (shrO zy)) (k := .i64) (n := 7) (e := ZI) (cs := Z2e) Z5x (fun _ => rfl) (by decide) ha2))
 refine zo (.p (.agg (ZE a2 .sh .sh))) ?_
 refine zi fun r3 hr3 => ?_
 obtain ⟨qr3, er3, exr3, rfl⟩ := Z5i (a1) (a2) .sh .sh .sh .sh r3 hr3
 refine zc [] (bv r3) [(Zq b0 z2h z1K), (Zq b1 zB zy), (Zq a1 .sh .sh)] er3 ?_
 refine zo (bv (!r3)) ?_
 refine za ((!r3)) ?_ ?_
 ·refine ze ?_
  exact zr ((bv false), [(Zq b0 z2h z1K), (Zq b1 zB zy), (Zq a1 .sh .sh)]) ⟨_, rfl⟩
 ·exact zk (Z8h (x58) (x59) (x60) (b0) (b1) ox58 z2h z1K zB zy)
noncomputable def Z5h  : Option (Bool) :=
 some (true)
theorem Z8t  : Sim (Z1q) (Z5h) (Zej 0  []) := by
 unfold Z5h
 refine zf (ZgY ..) ?_
 refine ze ?_
 exact zr ((bv true), []) ⟨_, rfl⟩
noncomputable def Z34 (x58 : List Z3) (x59 : Int) (x60 : Int) (b1 : Z3) : Option (Bool) :=
 if ((decide (x60 < x59))) = true then
 (Z44 x58 x59 x60 b1)
 else
 (Z5h)
theorem Z8j (x58 : List Z3) (x59 : Int) (x60 : Int) (b0 : Z3) (b1 : Z3) (ox58 : Own) (z2h : Own) (z1K : Own) (zB : Own) (zy : Own) : Sim (Z1q) (Z34 x58 x59 x60 b1) (Zb8 0 (.ptr 1 0) (.p (.lst ox58 (x58.map ZI))) (iv x59) (iv x60) [(Zq b0 z2h z1K), (Zq b1 zB zy)]) := by
 unfold Z34
 refine zf (ZfJ ..) ?_
 refine ze ?_
 refine zo (bv (decide (x60 < x59))) ?_
 refine za ((decide (x60 < x59))) ?_ ?_
 ·exact zk (Z8x (x58) (x59) (x60) (b0) (b1) ox58 z2h z1K zB zy)
 ·exact zk (Z8t )
theorem Z5Z (x58 : List Z3) (x59 : Int) (x60 : Int) (b1 : Z3) {r} (h : Z34 x58 x59 x60 b1 = some r) : Z33 x58 x59 x60 b1 = some r :=
 pick_of (fun _ _ ha hb => RRun.uniq (Z6x) (ha default .ex .ex .ex .ex .ex) (hb default .ex .ex .ex .ex .ex)) (fun b0 ox58 z2h z1K zB zy => Z8j x58 x59 x60 b0 b1 ox58 z2h z1K zB zy r h)
end Go.Proofs.YtadodmjdkphddaaDoor.N2
end
section
set_option linter.unusedSimpArgs false
set_option linter.unusedVariables false
namespace Go.Proofs.YtadodmjdkphddaaDoor.N2
open Go Go.Abs
set_option linter.unusedVariables false
set_option maxRecDepth 100000
noncomputable def Z4o (x0 : List Z7) (x1 : List Z7) : Option (Bool) :=
 Z3m x1 x0 ((x0.length : Int)) 0
theorem Z8E (x0 : List Z7) (x1 : List Z7) (ox0 : Own) (ox1 : Own) : Sim (Z1A) (Z4o x0 x1) (ZdH 0 (.p (.lst ox0 (x0.map Zs))) (.p (.lst ox1 (x1.map Zs))) []) := by
 unfold Z4o
 refine zf (ZfM ..) ?_
 refine ze ?_
 refine zo (iv (x0.length : Int)) ?_ (Eq.trans (by kernel_rfl) (xlen_of (P := PP) (t := 24) (d := 39) (by kernel_rfl) Zs (shrO ox0) x0))
 exact zk (Z65 (x1) (x0) ((x0.length : Int)) (0) ox1 (shrO ox0))
noncomputable def Z52 (x0 : List Z7) (x1 : List Z7) : Option (Bool) :=
 if (((x0.length : Int) != (x1.length : Int))) = true then
 (some (false))
 else
 (Z4o x0 x1)
theorem Z9m (x0 : List Z7) (x1 : List Z7) (ox0 : Own) (ox1 : Own) : Sim (Z1A) (Z52 x0 x1) (EE 22 [(.p (.lst ox0 (x0.map Zs))), (.p (.lst ox1 (x1.map Zs)))] []) := by
 unfold Z52
 refine zf (Ziv ..) ?_
 refine ze ?_
 refine ze ?_
 refine zo (iv (x0.length : Int)) ?_ (Eq.trans (by kernel_rfl) (xlen_of (P := PP) (t := 24) (d := 39) (by kernel_rfl) Zs (shrO ox0) x0))
 refine zo (iv (x1.length : Int)) ?_ (Eq.trans (by kernel_rfl) (xlen_of (P := PP) (t := 24) (d := 39) (by kernel_rfl) Zs (shrO ox1) x1))
 refine zo (bv ((x0.length : Int) != (x1.length : Int))) ?_
 refine za (((x0.length : Int) != (x1.length : Int))) ?_ ?_
 ·refine ze ?_
  exact zr ((bv false), []) ⟨_, rfl⟩
 ·exact zk (Z8E (x0) (x1) ox0 ox1)
theorem Z9I (x0 : List Z7) (x1 : List Z7) {r} (h : Z52 x0 x1 = some r) : Z4V x0 x1 = some r :=
 pick_of (fun _ _ ha hb => RRun.uniq (Z6L) (ha .ex .ex) (hb .ex .ex)) (fun ox0 ox1 => Z9m x0 x1 ox0 ox1 r h)
noncomputable def Z4n (x1 : List Z7) (x12 : List Z7) (x13 : Int) (x14 : Int) : Option (Bool) :=
 Z3m x1 x12 x13 ((IntKind.i64.wrap (x14 + 1)))
theorem Z8H (x1 : List Z7) (x12 : List Z7) (x13 : Int) (x14 : Int) (ox1 : Own) (ox12 : Own) : Sim (Z1A) (Z4n x1 x12 x13 x14) (Ze6 0 (.p (.lst ox1 (x1.map Zs))) (.p (.lst ox12 (x12.map Zs))) (iv x13) (iv x14) []) := by
 unfold Z4n
 refine zf (Zgh ..) ?_
 refine ze ?_
 refine zo (iv (IntKind.i64.wrap (x14 + 1))) ?_
 exact zk (Z65 (x1) (x12) (x13) ((IntKind.i64.wrap (x14 + 1))) ox1 ox12)
noncomputable def Z4p (x1 : List Z7) (x12 : List Z7) (x13 : Int) (x14 : Int) : Option (Bool) :=
 (lget x12 x14).bind fun a1 =>
 (lget x1 x14).bind fun a2 =>
 if ((!((a1.Lo == a2.Lo) && ((a1.Hi == a2.Hi) && true)))) = true then
 (some (false))
 else
 (Z4n x1 x12 x13 x14)
theorem Z8G (x1 : List Z7) (x12 : List Z7) (x13 : Int) (x14 : Int) (ox1 : Own) (ox12 : Own) : Sim (Z1A) (Z4p x1 x12 x13 x14) (Ze0 0 (.p (.lst ox1 (x1.map Zs))) (.p (.lst ox12 (x12.map Zs))) (iv x13) (iv x14) []) := by
 unfold Z4p
 refine zf (ZgJ ..) ?_
 refine ze ?_
 refine zi fun a1 ha1 => ?_
 refine zo (.cptr (ZG a1)) ?_ (Eq.trans (by kernel_rfl) (xidx_of (o := ox12) (k := .i64) (n := 2) (e := Zs) (cs := Z3O) (fun _ => rfl) (fun _ => rfl) (by decide) ha1))
 refine zo (.p (.agg (ZG a1))) ?_
 refine zz (.ptr 0 0) [(Z1m (Z7.mk 0 0))] ?_
 refine zt [(Z1m a1)] ?_
 refine ze ?_
 refine zo (.p (.agg (ZG a1))) ?_
 refine zi fun a2 ha2 => ?_
 refine zo (.cptr (ZG a2)) ?_ (Eq.trans (by kernel_rfl) (xidx_of (o := (shrO ox1)) (k := .i64) (n := 2) (e := Zs) (cs := Z3O) (fun _ => rfl) (fun _ => rfl) (by decide) ha2))
 refine zo (.p (.agg (ZG a2))) ?_
 refine zo (bv (!((a1.Lo == a2.Lo) && ((a1.Hi == a2.Hi) && true)))) ?_ (Eq.trans (b := xbin PP .neq 39 (.p (.agg (ZG a1))) (.p (.agg (ZG a2)))) (by kernel_rfl) (xeq_neq (by kernel_rfl) (by kernel_rfl) (by kernel_rfl) (by kernel_rfl) (by kernel_rfl)))
 refine za ((!((a1.Lo == a2.Lo) && ((a1.Hi == a2.Hi) && true)))) ?_ ?_
 ·refine ze ?_
  exact zr ((bv false), [(Z1m a1)]) ⟨_, rfl⟩
 ·exact zk (Z8H (x1) (x12) (x13) (x14) ox1 ox12)
noncomputable def Z5t  : Option (Bool) :=
 some (true)
theorem Z8F  : Sim (Z1A) (Z5t) (ZeB 0  []) := by
 unfold Z5t
 refine zf (Zgz ..) ?_
 refine ze ?_
 exact zr ((bv true), []) ⟨_, rfl⟩
noncomputable def Z3o (x1 : List Z7) (x12 : List Z7) (x13 : Int) (x14 : Int) : Option (Bool) :=
 if ((decide (x14 < x13))) = true then
 (Z4p x1 x12 x13 x14)
 else
 (Z5t)
theorem Z8A (x1 : List Z7) (x12 : List Z7) (x13 : Int) (x14 : Int) (ox1 : Own) (ox12 : Own) : Sim (Z1A) (Z3o x1 x12 x13 x14) (Zbk 0 (.p (.lst ox1 (x1.map Zs))) (.p (.lst ox12 (x12.map Zs))) (iv x13) (iv x14) []) := by
 unfold Z3o
 refine zf (Zgn ..) ?_
 refine ze ?_
 refine zo (bv (decide (x14 < x13))) ?_
 refine za ((decide (x14 < x13))) ?_ ?_
 ·exact zk (Z8G (x1) (x12) (x13) (x14) ox1 ox12)
 ·exact zk (Z8F )
theorem Z6d (x1 : List Z7) (x12 : List Z7) (x13 : Int) (x14 : Int) {r} (h : Z3o x1 x12 x13 x14 = some r) : Z3m x1 x12 x13 x14 = some r :=
 pick_of (fun _ _ ha hb => RRun.uniq (Z6L) (ha .ex .ex) (hb .ex .ex)) (fun ox1 ox12 => Z8A x1 x12 x13 x14 ox1 ox12 r h)
end Go.Proofs.YtadodmjdkphddaaDoor.N2
end
