/- More of the functions' typed texts. No condition. -/
import Derived.Test.YtadodmjdkphddaaDoorTypA

section
set_option linter.unusedSimpArgs false
set_option linter.unusedVariables false
namespace Go.Proofs.YtadodmjdkphddaaDoor.N2
open Go Go.Abs
set_option linter.unusedVariables false
set_option maxRecDepth 100000
noncomputable def Z4R (x0 : List Z7) (zY : List Z7) : Option ((List Z7)) :=
 (Z7e zY x0).bind fun r1 =>
 some (r1.1)
theorem Z9e (x0 : List Z7) (zY : List Z7) (ox0 : Own) (z8X : Own) : Sim (Z3S) (Z4R x0 zY) (EE 58 [(.p (.lst ox0 (x0.map Zs))), (.ptr 0 0)] [[(.p (.lst z8X (zY.map Zs)))]]) := by
 unfold Z4R
 refine zf (ZhJ ..) ?_
 refine ze ?_
 refine zo (.p (.lst (shrO z8X) (zY.map Zs))) ?_
 refine zi fun r1 hr1 => ?_
 obtain ⟨qr1, er1, exr1, rfl⟩ := Zc6 (zY) (x0) .sh .sh r1 hr1
 refine zc [] (.p (.tup [(.lst .sh (r1.1.map Zs)), (.v (.int .i64 r1.2))])) [[(.p (.lst z8X (zY.map Zs)))]] er1 ?_
 refine zo (.p (.lst .sh (r1.1.map Zs))) ?_
 refine zo (iv r1.2) ?_
 refine zt [[(.p (.lst .sh (r1.1.map Zs)))]] ?_
 exact zr ((.p (.tup [])), [[(.p (.lst .sh (r1.1.map Zs)))]]) ⟨.sh, _, rfl⟩
theorem Z9D (x0 : List Z7) (zY : List Z7) {r} (h : Z4R x0 zY = some r) : Z3R x0 zY = some r :=
 pick_of (fun _ _ ha hb => RRun.uniq (Z9S) (ha .ex .ex) (hb .ex .ex)) (fun ox0 z8X => Z9e x0 zY ox0 z8X r h)
noncomputable def Z5V  : Option ((List Z7) × Int) :=
 some (([] : List Z7), 10)
theorem Z83  : Sim (Z4J) (Z5V) (Zct 0  []) := by
 unfold Z5V
 refine zf (Zgf ..) ?_
 refine ze ?_
 exact zr ((.p (.tup [(.lst .sh []), (.v (.int .i64 10))])), []) ⟨_, rfl⟩
noncomputable def Z5U (x0 : List Z7) (x1 : List Z7) : Option ((List Z7) × Int) :=
 (Z6d (([x0, x1] : List (List Z7)))).bind fun r1 =>
 (Z72 r1).bind fun r2 =>
 some (r2, 0)
theorem ZaW (x0 : List Z7) (x1 : List Z7) (ox0 : Own) (ox1 : Own) : Sim (Z4J) (Z5U x0 x1) (Zeq 0 (.p (.lst ox0 (x0.map Zs))) (.p (.lst ox1 (x1.map Zs))) []) := by
 unfold Z5U
 refine zf (ZfM ..) ?_
 refine ze ?_
 refine zo (.p (.lst .ex (([x0, x1] : List (List Z7)).map (eL Zs)))) ?_
 refine zi fun r1 hr1 => ?_
 obtain ⟨qr1, er1, exr1, rfl⟩ := Z9W (([x0, x1] : List (List Z7))) .sh r1 hr1
 refine zc [] (.p (.lst .sh (r1.map Zs))) [] er1 ?_
 refine zi fun r2 hr2 => ?_
 obtain ⟨qr2, er2, exr2, rfl⟩ := Z9o (r1) .sh r2 hr2
 refine zc [] (.p (.lst .sh (r2.map Zs))) [] er2 ?_
 exact zr ((.p (.tup [(.lst .sh (r2.map Zs)), (.v (.int .i64 0))])), []) ⟨_, rfl⟩
noncomputable def Z77 (x0 : List Z7) (x1 : List Z7) : Option ((List Z7) × Int) :=
 (Z44 x0).bind fun r1 =>
 if ((!r1)) = true then
 (Z5V)
 else
 ((Z44 x1).bind fun r2 =>
 if ((!r2)) = true then
 (Z5V)
 else
 (Z5U x0 x1))
theorem ZbA (x0 : List Z7) (x1 : List Z7) (ox0 : Own) (ox1 : Own) : Sim (Z4J) (Z77 x0 x1) (EE 59 [(.p (.lst ox0 (x0.map Zs))), (.p (.lst ox1 (x1.map Zs)))] []) := by
 unfold Z77
 refine zf (Zid ..) ?_
 refine ze ?_
 refine ze ?_
 refine zi fun r1 hr1 => ?_
 obtain ⟨qr1, er1, exr1, rfl⟩ := Z68 (x0) .sh r1 hr1
 refine zc [] (bv r1) [] er1 ?_
 refine zo (bv (!r1)) ?_
 refine za ((!r1)) ?_ ?_
 ·exact zk (Z83 )
 ·refine zi fun r2 hr2 => ?_
  obtain ⟨qr2, er2, exr2, rfl⟩ := Z68 (x1) .sh r2 hr2
  refine zc [] (bv r2) [] er2 ?_
  refine zo (bv (!r2)) ?_
  refine za ((!r2)) ?_ ?_
  ·exact zk (Z83 )
  ·exact zk (ZaW (x0) (x1) ox0 ox1)
theorem Zc8 (x0 : List Z7) (x1 : List Z7) {r} (h : Z77 x0 x1 = some r) : Z7e x0 x1 = some r :=
 pick_of (fun _ _ ha hb => RRun.uniq (Zcg) (ha .ex .ex) (hb .ex .ex)) (fun ox0 ox1 => ZbA x0 x1 ox0 ox1 r h)
noncomputable def Z3w (zp : Int) (z6 : Int) (zd : Int) (zh : List Zr) (z1 : Int) (z2 : Int) (z14 : Int) (z1C : Int) (z1D : Int) (z17 : Int) (z1h : Int) (z1g : List Z7) (b2 : Z3) : Option (Z3 × Bool × Int × Int × Int × (List Zr) × Int × Int) :=
 some ((Z3.mk z14 z1C z1D z17 z1h z1g ([b2] : List Z3)), (z14 != 7), zp, z6, zd, zh, z1, z2)
theorem Z8E (zl : List Int) (zp : Int) (z6 : Int) (zd : Int) (zh : List Zr) (z1 : Int) (z2 : Int) (z14 : Int) (z1C : Int) (z1D : Int) (z17 : Int) (z1h : Int) (z1g : List Z7) (z1W : List Z3) (b2 : Z3) (zn : Own) (zb : Own) (zB : Own) (zy : Own) (z1F : Own) (z1u : Own) (zu : okApp zb = true) (zQ : okApp zB = true) (zJ : okApp zy = true) : Sim (Z22 zl zn) (Z3w zp z6 zd zh z1 z2 z14 z1C z1D z17 z1h z1g b2) (Zd7 1 (.ptr 1 0) (.ptr 2 0) [(Zi (Zk.mk zl zp z6 zd zh (Zj.mk z1 z2)) zn zb), (Zq (Z3.mk z14 z1C z1D z17 z1h z1g z1W) zB zy), (Zq b2 z1F z1u)]) := by
 unfold Z3w
 refine zf (Zf4 ..) ?_
 refine ze ?_
 refine zo (.p (.agg (ZD b2 (shrO z1F) (shrO z1u)))) ?_
 refine zo (.p (.lst .ex (([b2] : List Z3).map ZK))) ?_ (Eq.trans (b := some (.p (.lst .ex [.agg (Z2m b2)]))) (by kernel_rfl) (by simp only [List.map_cons, List.map_nil, Z2V]))
 refine zo (.ptr 1 6) ?_
 refine zt [(Zi (Zk.mk zl zp z6 zd zh (Zj.mk z1 z2)) zn zb), (Zq (Z3.mk z14 z1C z1D z17 z1h z1g ([b2] : List Z3)) zB .ex), (Zq b2 z1F z1u)] ?_
 refine ze ?_
 refine zo (.p (.agg (ZD (Z3.mk z14 z1C z1D z17 z1h z1g ([b2] : List Z3)) (shrO zB) .ex))) ?_
 refine zo (.ptr 1 0) ?_
 refine zo (iv z14) ?_
 refine zo (bv (z14 != 7)) ?_
 refine zt [(Zi (Zk.mk zl zp z6 zd zh (Zj.mk z1 z2)) zn zb), (Zq (Z3.mk z14 z1C z1D z17 z1h z1g ([b2] : List Z3)) (shrO zB) .ex), (Zq b2 z1F z1u)] ?_
 exact zr ((.p (.tup [(.agg (ZD (Z3.mk z14 z1C z1D z17 z1h z1g ([b2] : List Z3)) .sh .sh)), (.v (.bool (z14 != 7)))])), [(Zi (Zk.mk zl zp z6 zd zh (Zj.mk z1 z2)) zn zb), (Zq (Z3.mk z14 z1C z1D z17 z1h z1g ([b2] : List Z3)) (shrO zB) .ex), (Zq b2 z1F z1u)]) ⟨zb, _, zu, rfl⟩
noncomputable def Z1P (zp : Int) (z6 : Int) (zd : Int) (zh : List Zr) (z1 : Int) (z2 : Int) (z14 : Int) (z1C : Int) (z1D : Int) (z17 : Int) (z1h : Int) (z1g : List Z7) (b2 : Z3) : Option (Z3 × Bool × Int × Int × Int × (List Zr) × Int × Int) :=
 if ((z14 == 0)) = true then
 (some (b2, true, zp, z6, (IntKind.i64.wrap (zd - 1)), zh, z1, z2))
 else
 (Z3w zp z6 ((IntKind.i64.wrap (zd - 1))) zh z1 z2 z14 z1C z1D z17 z1h z1g b2)
theorem Z4G (zl : List Int) (zp : Int) (z6 : Int) (zd : Int) (zh : List Zr) (z1 : Int) (z2 : Int) (z14 : Int) (z1C : Int) (z1D : Int) (z17 : Int) (z1h : Int) (z1g : List Z7) (z1W : List Z3) (b2 : Z3) (zn : Own) (zb : Own) (zB : Own) (zy : Own) (z1F : Own) (z1u : Own) (zu : okApp zb = true) (zQ : okApp zB = true) (zJ : okApp zy = true) : Sim (Z22 zl zn) (Z1P zp z6 zd zh z1 z2 z14 z1C z1D z17 z1h z1g b2) (Zb6 1 (.ptr 0 0) (.ptr 1 0) (.ptr 2 0) [(Zi (Zk.mk zl zp z6 zd zh (Zj.mk z1 z2)) zn zb), (Zq (Z3.mk z14 z1C z1D z17 z1h z1g z1W) zB zy), (Zq b2 z1F z1u)]) := by
 unfold Z1P
 refine zf (ZeO ..) ?_
 refine ze ?_
 refine zo (.ptr 0 0) ?_
 refine zo (.ptr 0 3) ?_
 refine zo (iv zd) ?_
 refine zo (iv (IntKind.i64.wrap (zd - 1))) ?_
 refine zo (.ptr 0 0) ?_
 refine zo (.ptr 0 3) ?_
 refine zt [(Zi (Zk.mk zl zp z6 (IntKind.i64.wrap (zd - 1)) zh (Zj.mk z1 z2)) zn zb), (Zq (Z3.mk z14 z1C z1D z17 z1h z1g z1W) zB zy), (Zq b2 z1F z1u)] ?_
 refine ze ?_
 refine zo (.ptr 1 0) ?_
 refine zo (iv z14) ?_
 refine zo (bv (z14 == 0)) ?_
 refine za ((z14 == 0)) ?_ ?_
 ·refine ze ?_
  refine zo (.p (.agg (ZD b2 (shrO z1F) (shrO z1u)))) ?_
  refine zt [(Zi (Zk.mk zl zp z6 (IntKind.i64.wrap (zd - 1)) zh (Zj.mk z1 z2)) zn zb), (Zq b2 (shrO z1F) (shrO z1u)), (Zq b2 z1F z1u)] ?_
  exact zr ((.p (.tup [(.agg (ZD b2 .sh .sh)), (.v (.bool true))])), [(Zi (Zk.mk zl zp z6 (IntKind.i64.wrap (zd - 1)) zh (Zj.mk z1 z2)) zn zb), (Zq b2 (shrO z1F) (shrO z1u)), (Zq b2 z1F z1u)]) ⟨zb, _, zu, rfl⟩
 ·exact zk (Z8E (zl) (zp) (z6) ((IntKind.i64.wrap (zd - 1))) (zh) (z1) (z2) (z14) (z1C) (z1D) (z17) (z1h) (z1g) (z1W) (b2) zn zb zB zy z1F z1u zu zQ zJ)
noncomputable def Z4s (x1 : Int) (zl : List Int) (z6 : Int) (zd : Int) (zh : List Zr) (z1 : Int) (z2 : Int) (z14 : Int) (z1C : Int) (z1D : Int) (z17 : Int) (z1h : Int) (z1g : List Z7) (b2 : Z3) : Option (Z3 × Bool × Int × Int × Int × (List Zr) × Int × Int) :=
 (ZT 20 x1 zl z1 z2).bind fun r1 =>
 Z1P r1.1 z6 zd zh r1.2.1 r1.2.2 z14 z1C z1D z17 z1h z1g b2
theorem Z8I (x1 : Int) (zl : List Int) (zp : Int) (z6 : Int) (zd : Int) (zh : List Zr) (z1 : Int) (z2 : Int) (z14 : Int) (z1C : Int) (z1D : Int) (z17 : Int) (z1h : Int) (z1g : List Z7) (z1W : List Z3) (b2 : Z3) (zn : Own) (zb : Own) (zB : Own) (zy : Own) (z1F : Own) (z1u : Own) (zu : okApp zb = true) (zQ : okApp zB = true) (zJ : okApp zy = true) : Sim (Z22 zl zn) (Z4s x1 zl z6 zd zh z1 z2 z14 z1C z1D z17 z1h z1g b2) (ZcS 1 (.ptr 0 0) (iv x1) (.ptr 1 0) (.ptr 2 0) [(Zi (Zk.mk zl zp z6 zd zh (Zj.mk z1 z2)) zn zb), (Zq (Z3.mk z14 z1C z1D z17 z1h z1g z1W) zB zy), (Zq b2 z1F z1u)]) := by
 unfold Z4s
 refine zf (Zfd ..) ?_
 refine ze ?_
 refine zi fun r1 hr1 => ?_
 obtain ⟨qr1, er1, exr1, rfl⟩ := ZW (20) (x1) (zl) (zp) (z6) (zd) (zh) (z1) (z2) zn zb zu r1 hr1
 refine zc [0] (.p (.tup [])) [(Zi (Zk.mk zl r1.1 z6 zd zh (Zj.mk r1.2.1 r1.2.2)) zn zb), (Zq (Z3.mk z14 z1C z1D z17 z1h z1g z1W) zB zy), (Zq b2 z1F z1u)] er1 ?_
 exact zk (Z4G (zl) (r1.1) (z6) (zd) (zh) (r1.2.1) (r1.2.2) (z14) (z1C) (z1D) (z17) (z1h) (z1g) (z1W) (b2) zn zb zB zy z1F z1u zu zQ zJ)
noncomputable def Z1t (x1 : Int) (zl : List Int) (zp : Int) (z6 : Int) (zd : Int) (zh : List Zr) (z1 : Int) (z2 : Int) (z14 : Int) (z1C : Int) (z1D : Int) (z17 : Int) (z1h : Int) (z1g : List Z7) : Option (Z3 × Bool × Int × Int × Int × (List Zr) × Int × Int) :=
 (Z2F zl zp z6 zd zh z1 z2).bind fun r1 =>
 if ((r1.2.2.2.2.2.1 == 0)) = true then
 ((Z13 ((ByteArray.mk #[41])) zl r1.2.1).bind fun r2 =>
 if ((!r2.1)) = true then
 (Z4s x1 zl r1.2.2.1 r1.2.2.2.1 r1.2.2.2.2.1 r1.2.2.2.2.2.1 r1.2.2.2.2.2.2 z14 z1C z1D z17 z1h z1g r1.1)
 else
 (Z1P r2.2 r1.2.2.1 r1.2.2.2.1 r1.2.2.2.2.1 r1.2.2.2.2.2.1 r1.2.2.2.2.2.2 z14 z1C z1D z17 z1h z1g r1.1))
 else
 (Z1P r1.2.1 r1.2.2.1 r1.2.2.2.1 r1.2.2.2.2.1 r1.2.2.2.2.2.1 r1.2.2.2.2.2.2 z14 z1C z1D z17 z1h z1g r1.1)
theorem Z2l (x1 : Int) (zl : List Int) (zp : Int) (z6 : Int) (zd : Int) (zh : List Zr) (z1 : Int) (z2 : Int) (z14 : Int) (z1C : Int) (z1D : Int) (z17 : Int) (z1h : Int) (z1g : List Z7) (z1W : List Z3) (zn : Own) (zb : Own) (zB : Own) (zy : Own) (zu : okApp zb = true) (zQ : okApp zB = true) (zJ : okApp zy = true) : Sim (Z22 zl zn) (Z1t x1 zl zp z6 zd zh z1 z2 z14 z1C z1D z17 z1h z1g) (Z7Z 1 (.ptr 0 0) (iv x1) (.ptr 1 0) [(Zi (Zk.mk zl zp z6 zd zh (Zj.mk z1 z2)) zn zb), (Zq (Z3.mk z14 z1C z1D z17 z1h z1g z1W) zB zy)]) := by
 unfold Z1t
 refine zf (Zf1 ..) ?_
 refine ze ?_
 refine zi fun r1 hr1 => ?_
 obtain ⟨qr1, er1, or1_0_4, exr1, hor1_0_4, rfl⟩ := Z7W (zl) (zp) (z6) (zd) (zh) (z1) (z2) zn zb zu r1 hr1
 refine zc [0] (.p (.agg (ZD r1.1 .sh .sh))) [(Zi (Zk.mk zl r1.2.1 r1.2.2.1 r1.2.2.2.1 r1.2.2.2.2.1 (Zj.mk r1.2.2.2.2.2.1 r1.2.2.2.2.2.2)) zn or1_0_4), (Zq (Z3.mk z14 z1C z1D z17 z1h z1g z1W) zB zy)] er1 ?_
 refine zz (.ptr 2 0) [(Zi (Zk.mk zl r1.2.1 r1.2.2.1 r1.2.2.2.1 r1.2.2.2.2.1 (Zj.mk r1.2.2.2.2.2.1 r1.2.2.2.2.2.2)) zn or1_0_4), (Zq (Z3.mk z14 z1C z1D z17 z1h z1g z1W) zB zy), (Zq (Z3.mk 0 0 0 0 0 ([] : List Z7) ([] : List Z3)) .nl .nl)] ?_
 refine zt [(Zi (Zk.mk zl r1.2.1 r1.2.2.1 r1.2.2.2.1 r1.2.2.2.2.1 (Zj.mk r1.2.2.2.2.2.1 r1.2.2.2.2.2.2)) zn or1_0_4), (Zq (Z3.mk z14 z1C z1D z17 z1h z1g z1W) zB zy), (Zq r1.1 .sh .sh)] ?_
 refine ze ?_
 refine zo (.ptr 0 0) ?_
 refine zo (.ptr 0 5) ?_
 refine zo (.ptr 0 5) ?_
 refine zo (iv r1.2.2.2.2.2.1) ?_
 refine zo (bv (r1.2.2.2.2.2.1 == 0)) ?_
 refine za ((r1.2.2.2.2.2.1 == 0)) ?_ ?_
 ·refine zi fun r2 hr2 => ?_
  obtain ⟨qr2, er2, exr2, rfl⟩ := Z18 ((ByteArray.mk #[41])) (zl) (r1.2.1) (r1.2.2.1) (r1.2.2.2.1) (r1.2.2.2.2.1) (r1.2.2.2.2.2.1) (r1.2.2.2.2.2.2) zn or1_0_4 hor1_0_4 r2 hr2
  refine zc [0] (bv r2.1) [(Zi (Zk.mk zl r2.2 r1.2.2.1 r1.2.2.2.1 r1.2.2.2.2.1 (Zj.mk r1.2.2.2.2.2.1 r1.2.2.2.2.2.2)) zn or1_0_4), (Zq (Z3.mk z14 z1C z1D z17 z1h z1g z1W) zB zy), (Zq r1.1 .sh .sh)] er2 ?_
  refine zo (bv (!r2.1)) ?_
  refine za ((!r2.1)) ?_ ?_
  ·exact zk (Z8I (x1) (zl) (r2.2) (r1.2.2.1) (r1.2.2.2.1) (r1.2.2.2.2.1) (r1.2.2.2.2.2.1) (r1.2.2.2.2.2.2) (z14) (z1C) (z1D) (z17) (z1h) (z1g) (z1W) (r1.1) zn or1_0_4 zB zy .sh .sh hor1_0_4 zQ zJ)
  ·exact zk (Z4G (zl) (r2.2) (r1.2.2.1) (r1.2.2.2.1) (r1.2.2.2.2.1) (r1.2.2.2.2.2.1) (r1.2.2.2.2.2.2) (z14) (z1C) (z1D) (z17) (z1h) (z1g) (z1W) (r1.1) zn or1_0_4 zB zy .sh .sh hor1_0_4 zQ zJ)
 ·exact zk (Z4G (zl) (r1.2.1) (r1.2.2.1) (r1.2.2.2.1) (r1.2.2.2.2.1) (r1.2.2.2.2.2.1) (r1.2.2.2.2.2.2) (z14) (z1C) (z1D) (z17) (z1h) (z1g) (z1W) (r1.1) zn or1_0_4 zB zy .sh .sh hor1_0_4 zQ zJ)
noncomputable def Z3L (x1 : Int) (zl : List Int) (zp : Int) (z6 : Int) (zd : Int) (zh : List Zr) (z1 : Int) (z2 : Int) (z14 : Int) (z1C : Int) (z1D : Int) (z17 : Int) (z1h : Int) (z1g : List Z7) : Option (Z3 × Bool × Int × Int × Int × (List Zr) × Int × Int) :=
 (Z7H).bind fun r1 =>
 (Z3s r1 zl zp).bind fun r2 =>
 if ((decide (0 ≤ r2.1))) = true then
 (Z1t x1 zl r2.2 z6 ((IntKind.i64.wrap (zd + 1))) zh z1 z2 7 0 0 r2.1 0 (([] : List Z7)))
 else
 ((Z13 ((ByteArray.mk #[63, 62])) zl r2.2).bind fun r3 =>
 if (r3.1) = true then
 (Z1t x1 zl r3.2 z6 ((IntKind.i64.wrap (zd + 1))) zh z1 z2 8 0 0 0 0 (([] : List Z7)))
 else
 ((Z13 ((ByteArray.mk #[63, 58])) zl r3.2).bind fun r4 =>
 if (r4.1) = true then
 (Z1t x1 zl r4.2 z6 ((IntKind.i64.wrap (zd + 1))) zh z1 z2 z14 z1C z1D z17 z1h z1g)
 else
 ((Z1B ((Zk.mk zl r4.2 z6 (IntKind.i64.wrap (zd + 1)) zh (Zj.mk z1 z2)))).bind fun r5 =>
 if ((r5 == 63)) = true then
 ((ZT 20 x1 zl z1 z2).bind fun r6 =>
 Z1t x1 zl r6.1 z6 ((IntKind.i64.wrap (zd + 1))) zh r6.2.1 r6.2.2 z14 z1C z1D z17 z1h z1g)
 else
 (if ((z6 == 9)) = true then
 ((ZT 24 x1 zl z1 z2).bind fun r7 =>
 Z1t x1 zl r7.1 z6 ((IntKind.i64.wrap (zd + 1))) zh r7.2.1 r7.2.2 z14 z1C z1D z17 z1h z1g)
 else
 (Z1t x1 zl r4.2 ((IntKind.i64.wrap (z6 + 1))) ((IntKind.i64.wrap (zd + 1))) zh z1 z2 5 0 0 0 ((IntKind.i64.wrap (z6 + 1))) (([] : List Z7)))))))
theorem Z98 (x1 : Int) (zl : List Int) (zp : Int) (z6 : Int) (zd : Int) (zh : List Zr) (z1 : Int) (z2 : Int) (z14 : Int) (z1C : Int) (z1D : Int) (z17 : Int) (z1h : Int) (z1g : List Z7) (z1W : List Z3) (zn : Own) (zb : Own) (zB : Own) (zy : Own) (zu : okApp zb = true) (zQ : okApp zB = true) (zJ : okApp zy = true) : Sim (Z22 zl zn) (Z3L x1 zl zp z6 zd zh z1 z2 z14 z1C z1D z17 z1h z1g) (Ze9 1 (.ptr 0 0) (iv x1) (.ptr 1 0) [(Zi (Zk.mk zl zp z6 zd zh (Zj.mk z1 z2)) zn zb), (Zq (Z3.mk z14 z1C z1D z17 z1h z1g z1W) zB zy)]) := by
 unfold Z3L
 refine zf (Zfs ..) ?_
 refine ze ?_
 refine zo (.ptr 0 0) ?_
 refine zo (.ptr 0 3) ?_
 refine zo (iv zd) ?_
 refine zo (iv (IntKind.i64.wrap (zd + 1))) ?_
 refine zo (.ptr 0 0) ?_
 refine zo (.ptr 0 3) ?_
 refine zt [(Zi (Zk.mk zl zp z6 (IntKind.i64.wrap (zd + 1)) zh (Zj.mk z1 z2)) zn zb), (Zq (Z3.mk z14 z1C z1D z17 z1h z1g z1W) zB zy)] ?_
 refine ze ?_
 refine zi fun r1 hr1 => ?_
 obtain ⟨qr1, er1, exr1, rfl⟩ := Zcb  r1 hr1
 refine zc [] (.p (.lst .sh (r1.map eS))) [(Zi (Zk.mk zl zp z6 (IntKind.i64.wrap (zd + 1)) zh (Zj.mk z1 z2)) zn zb), (Zq (Z3.mk z14 z1C z1D z17 z1h z1g z1W) zB zy)] er1 ?_
 refine zi fun r2 hr2 => ?_
 obtain ⟨qr2, er2, exr2, rfl⟩ := Z7S (r1) (zl) (zp) (z6) ((IntKind.i64.wrap (zd + 1))) (zh) (z1) (z2) .sh zn zb zu r2 hr2
 refine zc [0] (iv r2.1) [(Zi (Zk.mk zl r2.2 z6 (IntKind.i64.wrap (zd + 1)) zh (Zj.mk z1 z2)) zn zb), (Zq (Z3.mk z14 z1C z1D z17 z1h z1g z1W) zB zy)] er2 ?_
 refine ze ?_
 refine zo (bv (decide (0 ≤ r2.1))) ?_
 refine za ((decide (0 ≤ r2.1))) ?_ ?_
 ·refine ze ?_
  refine zo (.p (.agg (ZD (Z3.mk 7 0 0 r2.1 0 ([] : List Z7) ([] : List Z3)) .nl .nl))) ?_
  refine zt [(Zi (Zk.mk zl r2.2 z6 (IntKind.i64.wrap (zd + 1)) zh (Zj.mk z1 z2)) zn zb), (Zq (Z3.mk 7 0 0 r2.1 0 ([] : List Z7) ([] : List Z3)) .nl .nl)] ?_
  exact zk (Z2l (x1) (zl) (r2.2) (z6) ((IntKind.i64.wrap (zd + 1))) (zh) (z1) (z2) (7) (0) (0) (r2.1) (0) (([] : List Z7)) (([] : List Z3)) zn zb .nl .nl zu rfl rfl)
 ·refine ze ?_
  refine zi fun r3 hr3 => ?_
  obtain ⟨qr3, er3, exr3, rfl⟩ := Z18 ((ByteArray.mk #[63, 62])) (zl) (r2.2) (z6) ((IntKind.i64.wrap (zd + 1))) (zh) (z1) (z2) zn zb zu r3 hr3
  refine zc [0] (bv r3.1) [(Zi (Zk.mk zl r3.2 z6 (IntKind.i64.wrap (zd + 1)) zh (Zj.mk z1 z2)) zn zb), (Zq (Z3.mk z14 z1C z1D z17 z1h z1g z1W) zB zy)] er3 ?_
  refine za (r3.1) ?_ ?_
  ·refine ze ?_
   refine zo (.p (.agg (ZD (Z3.mk 8 0 0 0 0 ([] : List Z7) ([] : List Z3)) .nl .nl))) ?_
   refine zt [(Zi (Zk.mk zl r3.2 z6 (IntKind.i64.wrap (zd + 1)) zh (Zj.mk z1 z2)) zn zb), (Zq (Z3.mk 8 0 0 0 0 ([] : List Z7) ([] : List Z3)) .nl .nl)] ?_
   exact zk (Z2l (x1) (zl) (r3.2) (z6) ((IntKind.i64.wrap (zd + 1))) (zh) (z1) (z2) (8) (0) (0) (0) (0) (([] : List Z7)) (([] : List Z3)) zn zb .nl .nl zu rfl rfl)
  ·refine ze ?_
   refine zi fun r4 hr4 => ?_
   obtain ⟨qr4, er4, exr4, rfl⟩ := Z18 ((ByteArray.mk #[63, 58])) (zl) (r3.2) (z6) ((IntKind.i64.wrap (zd + 1))) (zh) (z1) (z2) zn zb zu r4 hr4
   refine zc [0] (bv r4.1) [(Zi (Zk.mk zl r4.2 z6 (IntKind.i64.wrap (zd + 1)) zh (Zj.mk z1 z2)) zn zb), (Zq (Z3.mk z14 z1C z1D z17 z1h z1g z1W) zB zy)] er4 ?_
   refine za (r4.1) ?_ ?_
   ·exact zk (Z2l (x1) (zl) (r4.2) (z6) ((IntKind.i64.wrap (zd + 1))) (zh) (z1) (z2) (z14) (z1C) (z1D) (z17) (z1h) (z1g) (z1W) zn zb zB zy zu zQ zJ)
   ·refine ze ?_
    refine zi fun r5 hr5 => ?_
    obtain ⟨qr5, er5, exr5, rfl⟩ := Z1G ((Zk.mk zl r4.2 z6 (IntKind.i64.wrap (zd + 1)) zh (Zj.mk z1 z2))) zn zb zu r5 hr5
    refine zc [0] (iv r5) [(Zi (Zk.mk zl r4.2 z6 (IntKind.i64.wrap (zd + 1)) zh (Zj.mk z1 z2)) zn zb), (Zq (Z3.mk z14 z1C z1D z17 z1h z1g z1W) zB zy)] er5 ?_
    refine zo (bv (r5 == 63)) ?_
    refine za ((r5 == 63)) ?_ ?_
    ·refine ze ?_
     refine zi fun r6 hr6 => ?_
     obtain ⟨qr6, er6, exr6, rfl⟩ := ZW (20) (x1) (zl) (r4.2) (z6) ((IntKind.i64.wrap (zd + 1))) (zh) (z1) (z2) zn zb zu r6 hr6
     refine zc [0] (.p (.tup [])) [(Zi (Zk.mk zl r6.1 z6 (IntKind.i64.wrap (zd + 1)) zh (Zj.mk r6.2.1 r6.2.2)) zn zb), (Zq (Z3.mk z14 z1C z1D z17 z1h z1g z1W) zB zy)] er6 ?_
     exact zk (Z2l (x1) (zl) (r6.1) (z6) ((IntKind.i64.wrap (zd + 1))) (zh) (r6.2.1) (r6.2.2) (z14) (z1C) (z1D) (z17) (z1h) (z1g) (z1W) zn zb zB zy zu zQ zJ)
    ·refine ze ?_
     refine zo (.ptr 0 0) ?_
     refine zo (.ptr 0 2) ?_
     refine zo (iv z6) ?_
     refine zo (bv (z6 == 9)) ?_
     refine za ((z6 == 9)) ?_ ?_
     ·refine ze ?_
      refine zi fun r7 hr7 => ?_
      obtain ⟨qr7, er7, exr7, rfl⟩ := ZW (24) (x1) (zl) (r4.2) (z6) ((IntKind.i64.wrap (zd + 1))) (zh) (z1) (z2) zn zb zu r7 hr7
      refine zc [0] (.p (.tup [])) [(Zi (Zk.mk zl r7.1 z6 (IntKind.i64.wrap (zd + 1)) zh (Zj.mk r7.2.1 r7.2.2)) zn zb), (Zq (Z3.mk z14 z1C z1D z17 z1h z1g z1W) zB zy)] er7 ?_
      exact zk (Z2l (x1) (zl) (r7.1) (z6) ((IntKind.i64.wrap (zd + 1))) (zh) (r7.2.1) (r7.2.2) (z14) (z1C) (z1D) (z17) (z1h) (z1g) (z1W) zn zb zB zy zu zQ zJ)
     ·refine ze ?_
      refine zo (.ptr 0 0) ?_
      refine zo (.ptr 0 2) ?_
      refine zo (iv z6) ?_
      refine zo (iv (IntKind.i64.wrap (z6 + 1))) ?_
      refine zo (.ptr 0 0) ?_
      refine zo (.ptr 0 2) ?_
      refine zt [(Zi (Zk.mk zl r4.2 (IntKind.i64.wrap (z6 + 1)) (IntKind.i64.wrap (zd + 1)) zh (Zj.mk z1 z2)) zn zb), (Zq (Z3.mk z14 z1C z1D z17 z1h z1g z1W) zB zy)] ?_
      refine ze ?_
      refine zo (.ptr 0 0) ?_
      refine zo (.ptr 0 2) ?_
      refine zo (iv (IntKind.i64.wrap (z6 + 1))) ?_
      refine zo (.p (.agg (ZD (Z3.mk 5 0 0 0 (IntKind.i64.wrap (z6 + 1)) ([] : List Z7) ([] : List Z3)) .nl .nl))) ?_
      refine zt [(Zi (Zk.mk zl r4.2 (IntKind.i64.wrap (z6 + 1)) (IntKind.i64.wrap (zd + 1)) zh (Zj.mk z1 z2)) zn zb), (Zq (Z3.mk 5 0 0 0 (IntKind.i64.wrap (z6 + 1)) ([] : List Z7) ([] : List Z3)) .nl .nl)] ?_
      exact zk (Z2l (x1) (zl) (r4.2) ((IntKind.i64.wrap (z6 + 1))) ((IntKind.i64.wrap (zd + 1))) (zh) (z1) (z2) (5) (0) (0) (0) ((IntKind.i64.wrap (z6 + 1))) (([] : List Z7)) (([] : List Z3)) zn zb .nl .nl zu rfl rfl)
noncomputable def Z3H (x1 : Int) (zl : List Int) (zp : Int) (z6 : Int) (zd : Int) (zh : List Zr) (z1 : Int) (z2 : Int) : Option (Z3 × Bool × Int × Int × Int × (List Zr) × Int × Int) :=
 if ((zd == 32)) = true then
 ((ZT 25 x1 zl z1 z2).bind fun r1 =>
 some ((Z3.mk 0 0 0 0 0 ([] : List Z7) ([] : List Z3)), true, r1.1, z6, zd, zh, r1.2.1, r1.2.2))
 else
 (Z3L x1 zl zp z6 zd zh z1 z2 0 0 0 0 0 (([] : List Z7)))
theorem Z9Z (x1 : Int) (zl : List Int) (zp : Int) (z6 : Int) (zd : Int) (zh : List Zr) (z1 : Int) (z2 : Int) (zn : Own) (zb : Own) (zu : okApp zb = true) : Sim (Z22 zl zn) (Z3H x1 zl zp z6 zd zh z1 z2) (EE 51 [(.ptr 0 0), (iv x1)] [(Zi (Zk.mk zl zp z6 zd zh (Zj.mk z1 z2)) zn zb)]) := by
 unfold Z3H
 refine zf (ZhB ..) ?_
 refine ze ?_
 refine zz (.ptr 1 0) [(Zi (Zk.mk zl zp z6 zd zh (Zj.mk z1 z2)) zn zb), (Zq (Z3.mk 0 0 0 0 0 ([] : List Z7) ([] : List Z3)) .nl .nl)] ?_
 refine ze ?_
 refine zo (.ptr 0 0) ?_
 refine zo (.ptr 0 3) ?_
 refine zo (iv zd) ?_
 refine zo (bv (zd == 32)) ?_
 refine za ((zd == 32)) ?_ ?_
 ·refine ze ?_
  refine zi fun r1 hr1 => ?_
  obtain ⟨qr1, er1, exr1, rfl⟩ := ZW (25) (x1) (zl) (zp) (z6) (zd) (zh) (z1) (z2) zn zb zu r1 hr1
  refine zc [0] (.p (.tup [])) [(Zi (Zk.mk zl r1.1 z6 zd zh (Zj.mk r1.2.1 r1.2.2)) zn zb), (Zq (Z3.mk 0 0 0 0 0 ([] : List Z7) ([] : List Z3)) .nl .nl)] er1 ?_
  refine ze ?_
  refine zo (.p (.agg (ZD (Z3.mk 0 0 0 0 0 ([] : List Z7) ([] : List Z3)) .nl .nl))) ?_
  refine zt [(Zi (Zk.mk zl r1.1 z6 zd zh (Zj.mk r1.2.1 r1.2.2)) zn zb), (Zq (Z3.mk 0 0 0 0 0 ([] : List Z7) ([] : List Z3)) .nl .nl)] ?_
  exact zr ((.p (.tup [(.agg (ZD (Z3.mk 0 0 0 0 0 ([] : List Z7) ([] : List Z3)) .sh .sh)), (.v (.bool true))])), [(Zi (Zk.mk zl r1.1 z6 zd zh (Zj.mk r1.2.1 r1.2.2)) zn zb), (Zq (Z3.mk 0 0 0 0 0 ([] : List Z7) ([] : List Z3)) .nl .nl)]) ⟨zb, _, zu, rfl⟩
 ·exact zk (Z98 (x1) (zl) (zp) (z6) (zd) (zh) (z1) (z2) (0) (0) (0) (0) (0) (([] : List Z7)) (([] : List Z3)) zn zb .nl .nl zu rfl rfl)
theorem Z5D (x1 : Int) (zl : List Int) (zp : Int) (z6 : Int) (zd : Int) (zh : List Zr) (z1 : Int) (z2 : Int) {r} (h : Z3H x1 zl zp z6 zd zh z1 z2 = some r) : Z2U x1 zl zp z6 zd zh z1 z2 = some r :=
 pick_of (fun _ _ ha hb => RRun.uniq (ZaC _ _) (ha .ex .ex rfl) (hb .ex .ex rfl)) (fun zn zb zu => Z9Z x1 zl zp z6 zd zh z1 z2 zn zb zu r h)
noncomputable def Z9d  : Option ((List ByteArray)) :=
 some (([(ByteArray.mk #[63, 61]), (ByteArray.mk #[63, 33]), (ByteArray.mk #[63, 60, 61]), (ByteArray.mk #[63, 60, 33])] : List ByteArray))
theorem Zc2  : Sim (Z6n) (Z9d) (EE 62 [] []) := by
 unfold Z9d
 refine zf (Zi7 ..) ?_
 refine ze ?_
 refine ze ?_
 refine zo (.p (.lst .ex (([(ByteArray.mk #[63, 61]), (ByteArray.mk #[63, 33]), (ByteArray.mk #[63, 60, 61]), (ByteArray.mk #[63, 60, 33])] : List ByteArray).map eS))) ?_
 exact zr ((.p (.lst .sh (([(ByteArray.mk #[63, 61]), (ByteArray.mk #[63, 33]), (ByteArray.mk #[63, 60, 61]), (ByteArray.mk #[63, 60, 33])] : List ByteArray).map eS))), []) ⟨_, rfl⟩
theorem Zcc  {r} (h : Z9d = some r) : Z7H = some r :=
 pick_of (fun _ _ ha hb => RRun.uniq (ZcJ) (ha ) (hb )) (Zc2  r h)
noncomputable def Z3t (x0 : List ByteArray) (zl : List Int) (zp : Int) : Option (Int × Int) :=
 Z1q x0 ((x0.length : Int)) 0 zl zp
theorem Z7E (x0 : List ByteArray) (zl : List Int) (zp : Int) (z6 : Int) (zd : Int) (zh : List Zr) (z1 : Int) (z2 : Int) (ox0 : Own) (zn : Own) (zb : Own) (zu : okApp zb = true) : Sim (Z1f zl z6 zd zh z1 z2 zn zb) (Z3t x0 zl zp) (EE 61 [(.p (.lst ox0 (x0.map eS))), (.clo 27 [(.ptr 0 0)] [])] [(Zi (Zk.mk zl zp z6 zd zh (Zj.mk z1 z2)) zn zb)]) := by
 unfold Z3t
 refine zf (Zit ..) ?_
 refine ze ?_
 refine ze ?_
 refine zo (iv (x0.length : Int)) ?_ (Eq.trans (by kernel_rfl) (xlen_of (P := PP) (t := 43) (d := 9) (by kernel_rfl) eS (shrO ox0) x0))
 exact zk (Z57 (x0) ((x0.length : Int)) (0) (zl) (zp) (z6) (zd) (zh) (z1) (z2) ox0 zn zb zu)
theorem Z7U (x0 : List ByteArray) (zl : List Int) (zp : Int) {r} (h : Z3t x0 zl zp = some r) : Z3s x0 zl zp = some r :=
 pick_of (fun _ _ ha hb => RRun.uniq (Z5C _ _ _ _ _ _ _ _) (ha default default default default default .ex .ex .ex rfl) (hb default default default default default .ex .ex .ex rfl)) (fun z6 zd zh z1 z2 ox0 zn zb zu => Z7E x0 zl zp z6 zd zh z1 z2 ox0 zn zb zu r h)
noncomputable def Z2W (x0 : List ByteArray) (x7 : Int) (x8 : Int) (zl : List Int) (zp : Int) : Option (Int × Int) :=
 Z1q x0 x7 ((IntKind.i64.wrap (x8 + 1))) zl zp
theorem Z6I (x0 : List ByteArray) (x7 : Int) (x8 : Int) (zl : List Int) (zp : Int) (z6 : Int) (zd : Int) (zh : List Zr) (z1 : Int) (z2 : Int) (ox0 : Own) (zn : Own) (zb : Own) (zu : okApp zb = true) : Sim (Z1f zl z6 zd zh z1 z2 zn zb) (Z2W x0 x7 x8 zl zp) (Ze1 1 (.p (.lst ox0 (x0.map eS))) (.clo 27 [(.ptr 0 0)] []) (iv x7) (iv x8) [(Zi (Zk.mk zl zp z6 zd zh (Zj.mk z1 z2)) zn zb)]) := by
 unfold Z2W
 refine zf (Zgq ..) ?_
 refine ze ?_
 refine zo (iv (IntKind.i64.wrap (x8 + 1))) ?_
 exact zk (Z57 (x0) (x7) ((IntKind.i64.wrap (x8 + 1))) (zl) (zp) (z6) (zd) (zh) (z1) (z2) ox0 zn zb zu)
noncomputable def Z2q (x0 : List ByteArray) (x7 : Int) (x8 : Int) (zl : List Int) (zp : Int) : Option (Int × Int) :=
 (lget x0 x8).bind fun a1 =>
 (Z13 a1 zl zp).bind fun r2 =>
 if (r2.1) = true then
 (some (x8, r2.2))
 else
 (Z2W x0 x7 x8 zl r2.2)
theorem Z6F (x0 : List ByteArray) (x7 : Int) (x8 : Int) (zl : List Int) (zp : Int) (z6 : Int) (zd : Int) (zh : List Zr) (z1 : Int) (z2 : Int) (ox0 : Own) (zn : Own) (zb : Own) (zu : okApp zb = true) : Sim (Z1f zl z6 zd zh z1 z2 zn zb) (Z2q x0 x7 x8 zl zp) (Zem 1 (.p (.lst ox0 (x0.map eS))) (.clo 27 [(.ptr 0 0)] []) (iv x7) (iv x8) [(Zi (Zk.mk zl zp z6 zd zh (Zj.mk z1 z2)) zn zb)]) := by
 unfold Z2q
 refine zf (ZgE ..) ?_
 refine ze ?_
 refine ze ?_
 refine zi fun a1 ha1 => ?_
 refine zo (.cptr [(.v (.string a1))]) ?_ (Eq.trans (by kernel_rfl) (xidx_of (o := (shrO ox0)) (k := .i64) (n := 1) (e := eS) (cs := (fun a => [eS a])) (fun _ => rfl) (fun _ => rfl) (by decide) ha1))
 refine zo (.p (.v (.string a1))) ?_
 refine zi fun r2 hr2 => ?_
 obtain ⟨qr2, er2, exr2, rfl⟩ := Z18 (a1) (zl) (zp) (z6) (zd) (zh) (z1) (z2) zn zb zu r2 hr2
 refine zv [0] (bv r2.1) [(Zi (Zk.mk zl r2.2 z6 zd zh (Zj.mk z1 z2)) zn zb)] er2 ?_
 refine za (r2.1) ?_ ?_
 ·refine ze ?_
  exact zr ((iv x8), [(Zi (Zk.mk zl r2.2 z6 zd zh (Zj.mk z1 z2)) zn zb)]) ⟨_, rfl⟩
 ·exact zk (Z6I (x0) (x7) (x8) (zl) (r2.2) (z6) (zd) (zh) (z1) (z2) ox0 zn zb zu)
noncomputable def Z3Z (zp : Int) : Option (Int × Int) :=
 some ((-1), zp)
theorem Z6G (zl : List Int) (zp : Int) (z6 : Int) (zd : Int) (zh : List Zr) (z1 : Int) (z2 : Int) (zn : Own) (zb : Own) (zu : okApp zb = true) : Sim (Z1f zl z6 zd zh z1 z2 zn zb) (Z3Z zp) (ZdM 1  [(Zi (Zk.mk zl zp z6 zd zh (Zj.mk z1 z2)) zn zb)]) := by
 unfold Z3Z
 refine zf (ZfB ..) ?_
 refine ze ?_
 exact zr ((iv (-1)), [(Zi (Zk.mk zl zp z6 zd zh (Zj.mk z1 z2)) zn zb)]) ⟨_, rfl⟩
noncomputable def Z21 (x0 : List ByteArray) (x7 : Int) (x8 : Int) (zl : List Int) (zp : Int) : Option (Int × Int) :=
 if ((decide (x8 < x7))) = true then
 (Z2q x0 x7 x8 zl zp)
 else
 (Z3Z zp)
theorem Z6B (x0 : List ByteArray) (x7 : Int) (x8 : Int) (zl : List Int) (zp : Int) (z6 : Int) (zd : Int) (zh : List Zr) (z1 : Int) (z2 : Int) (ox0 : Own) (zn : Own) (zb : Own) (zu : okApp zb = true) : Sim (Z1f zl z6 zd zh z1 z2 zn zb) (Z21 x0 x7 x8 zl zp) (ZaH 1 (.p (.lst ox0 (x0.map eS))) (.clo 27 [(.ptr 0 0)] []) (iv x7) (iv x8) [(Zi (Zk.mk zl zp z6 zd zh (Zj.mk z1 z2)) zn zb)]) := by
 unfold Z21
 refine zf (Zfq ..) ?_
 refine ze ?_
 refine zo (bv (decide (x8 < x7))) ?_
 refine za ((decide (x8 < x7))) ?_ ?_
 ·exact zk (Z6F (x0) (x7) (x8) (zl) (zp) (z6) (zd) (zh) (z1) (z2) ox0 zn zb zu)
 ·exact zk (Z6G (zl) (zp) (z6) (zd) (zh) (z1) (z2) zn zb zu)
theorem Z3E (x0 : List ByteArray) (x7 : Int) (x8 : Int) (zl : List Int) (zp : Int) {r} (h : Z21 x0 x7 x8 zl zp = some r) : Z1q x0 x7 x8 zl zp = some r :=
 pick_of (fun _ _ ha hb => RRun.uniq (Z5C _ _ _ _ _ _ _ _) (ha default default default default default .ex .ex .ex rfl) (hb default default default default default .ex .ex .ex rfl)) (fun z6 zd zh z1 z2 ox0 zn zb zu => Z6B x0 x7 x8 zl zp z6 zd zh z1 z2 ox0 zn zb zu r h)
noncomputable def Z2H (zp : Int) (z1 : Int) (z2 : Int) (z1U : Int) (z2L : Int) (z2K : Int) (z2k : Int) (z2b : Int) (z2c : List Z7) (z1T : List Z3) : Option (Z3 × Int × Int × Int) :=
 some ((Z3.mk z1U z2L z2K z2k z2b z2c z1T), zp, z1, z2)
theorem Z4z (zl : List Int) (zp : Int) (z6 : Int) (zd : Int) (zh : List Zr) (z1 : Int) (z2 : Int) (b1 : Z3) (b2 : Z3) (z1U : Int) (z2L : Int) (z2K : Int) (z2k : Int) (z2b : Int) (z2c : List Z7) (z1T : List Z3) (zn : Own) (zb : Own) (zB : Own) (zy : Own) (z1F : Own) (z1u : Own) (z2Q : Own) (z2o : Own) (zu : okApp zb = true) (z7T : okApp z1F = true) (z6H : okApp z1u = true) (z7N : okApp z2Q = true) (z6C : okApp z2o = true) : Sim (Z2t zl z6 zd zh zn zb) (Z2H zp z1 z2 z1U z2L z2K z2k z2b z2c z1T) (Zbe 1 (.ptr 2 0) (.ptr 3 0) [(Zi (Zk.mk zl zp z6 zd zh (Zj.mk z1 z2)) zn zb), (Zq b1 zB zy), (Zq b2 z1F z1u), (Zq (Z3.mk z1U z2L z2K z2k z2b z2c z1T) z2Q z2o)]) := by
 unfold Z2H
 refine zf (ZeP ..) ?_
 refine ze ?_
 refine zo (.p (.agg (ZD (Z3.mk z1U z2L z2K z2k z2b z2c z1T) (shrO z2Q) (shrO z2o)))) ?_
 refine zt [(Zi (Zk.mk zl zp z6 zd zh (Zj.mk z1 z2)) zn zb), (Zq b1 zB zy), (Zq (Z3.mk z1U z2L z2K z2k z2b z2c z1T) (shrO z2Q) (shrO z2o)), (Zq (Z3.mk z1U z2L z2K z2k z2b z2c z1T) z2Q z2o)] ?_
 exact zr ((.p (.agg (ZD (Z3.mk z1U z2L z2K z2k z2b z2c z1T) .sh .sh))), [(Zi (Zk.mk zl zp z6 zd zh (Zj.mk z1 z2)) zn zb), (Zq b1 zB zy), (Zq (Z3.mk z1U z2L z2K z2k z2b z2c z1T) (shrO z2Q) (shrO z2o)), (Zq (Z3.mk z1U z2L z2K z2k z2b z2c z1T) z2Q z2o)]) ⟨_, rfl⟩
noncomputable def Z2e (zl : List Int) (zp : Int) (z1 : Int) (z2 : Int) (z1U : Int) (z2L : Int) (z2K : Int) (z2k : Int) (z2b : Int) (z2c : List Z7) (z1T : List Z3) : Option (Z3 × Int × Int × Int) :=
 (Z13 ((ByteArray.mk #[63])) zl zp).bind fun r1 =>
 if (r1.1) = true then
 (Z2H r1.2 z1 z2 z1U z2L z2K 1 z2b z2c z1T)
 else
 ((Z13 ((ByteArray.mk #[43])) zl r1.2).bind fun r2 =>
 if (r2.1) = true then
 (Z2H r2.2 z1 z2 z1U z2L z2K 2 z2b z2c z1T)
 else
 (Z2H r2.2 z1 z2 z1U z2L z2K z2k z2b z2c z1T))
theorem Z5R (zl : List Int) (zp : Int) (z6 : Int) (zd : Int) (zh : List Zr) (z1 : Int) (z2 : Int) (b1 : Z3) (b2 : Z3) (z1U : Int) (z2L : Int) (z2K : Int) (z2k : Int) (z2b : Int) (z2c : List Z7) (z1T : List Z3) (zn : Own) (zb : Own) (zB : Own) (zy : Own) (z1F : Own) (z1u : Own) (z2Q : Own) (z2o : Own) (zu : okApp zb = true) (z7T : okApp z1F = true) (z6H : okApp z1u = true) (z7N : okApp z2Q = true) (z6C : okApp z2o = true) : Sim (Z2t zl z6 zd zh zn zb) (Z2e zl zp z1 z2 z1U z2L z2K z2k z2b z2c z1T) (ZbY 1 (.ptr 0 0) (.ptr 2 0) (.ptr 3 0) [(Zi (Zk.mk zl zp z6 zd zh (Zj.mk z1 z2)) zn zb), (Zq b1 zB zy), (Zq b2 z1F z1u), (Zq (Z3.mk z1U z2L z2K z2k z2b z2c z1T) z2Q z2o)]) := by
 unfold Z2e
 refine zf (Zfe ..) ?_
 refine ze ?_
 refine zi fun r1 hr1 => ?_
 obtain ⟨qr1, er1, exr1, rfl⟩ := Z18 ((ByteArray.mk #[63])) (zl) (zp) (z6) (zd) (zh) (z1) (z2) zn zb zu r1 hr1
 refine zc [0] (bv r1.1) [(Zi (Zk.mk zl r1.2 z6 zd zh (Zj.mk z1 z2)) zn zb), (Zq b1 zB zy), (Zq b2 z1F z1u), (Zq (Z3.mk z1U z2L z2K z2k z2b z2c z1T) z2Q z2o)] er1 ?_
 refine za (r1.1) ?_ ?_
 ·refine ze ?_
  refine zo (.ptr 3 3) ?_
  refine zt [(Zi (Zk.mk zl r1.2 z6 zd zh (Zj.mk z1 z2)) zn zb), (Zq b1 zB zy), (Zq b2 z1F z1u), (Zq (Z3.mk z1U z2L z2K 1 z2b z2c z1T) z2Q z2o)] ?_
  exact zk (Z4z (zl) (r1.2) (z6) (zd) (zh) (z1) (z2) (b1) (b2) (z1U) (z2L) (z2K) (1) (z2b) (z2c) (z1T) zn zb zB zy z1F z1u z2Q z2o zu z7T z6H z7N z6C)
 ·refine ze ?_
  refine zi fun r2 hr2 => ?_
  obtain ⟨qr2, er2, exr2, rfl⟩ := Z18 ((ByteArray.mk #[43])) (zl) (r1.2) (z6) (zd) (zh) (z1) (z2) zn zb zu r2 hr2
  refine zc [0] (bv r2.1) [(Zi (Zk.mk zl r2.2 z6 zd zh (Zj.mk z1 z2)) zn zb), (Zq b1 zB zy), (Zq b2 z1F z1u), (Zq (Z3.mk z1U z2L z2K z2k z2b z2c z1T) z2Q z2o)] er2 ?_
  refine za (r2.1) ?_ ?_
  ·refine ze ?_
   refine zo (.ptr 3 3) ?_
   refine zt [(Zi (Zk.mk zl r2.2 z6 zd zh (Zj.mk z1 z2)) zn zb), (Zq b1 zB zy), (Zq b2 z1F z1u), (Zq (Z3.mk z1U z2L z2K 2 z2b z2c z1T) z2Q z2o)] ?_
   exact zk (Z4z (zl) (r2.2) (z6) (zd) (zh) (z1) (z2) (b1) (b2) (z1U) (z2L) (z2K) (2) (z2b) (z2c) (z1T) zn zb zB zy z1F z1u z2Q z2o zu z7T z6H z7N z6C)
  ·exact zk (Z4z (zl) (r2.2) (z6) (zd) (zh) (z1) (z2) (b1) (b2) (z1U) (z2L) (z2K) (z2k) (z2b) (z2c) (z1T) zn zb zB zy z1F z1u z2Q z2o zu z7T z6H z7N z6C)
noncomputable def Z1N (x2 : Bool) (x7 : Int) (zl : List Int) (zp : Int) (z1 : Int) (z2 : Int) (z1U : Int) (z2L : Int) (z2K : Int) (z2k : Int) (z2b : Int) (z2c : List Z7) (z1T : List Z3) : Option (Z3 × Int × Int × Int) :=
 if ((!x2)) = true then
 ((ZT 23 x7 zl z1 z2).bind fun r1 =>
 Z2e zl r1.1 r1.2.1 r1.2.2 z1U z2L z2K z2k z2b z2c z1T)
 else
 (Z2e zl zp z1 z2 z1U z2L z2K z2k z2b z2c z1T)
theorem Z3p (x2 : Bool) (x7 : Int) (zl : List Int) (zp : Int) (z6 : Int) (zd : Int) (zh : List Zr) (z1 : Int) (z2 : Int) (b1 : Z3) (b2 : Z3) (z1U : Int) (z2L : Int) (z2K : Int) (z2k : Int) (z2b : Int) (z2c : List Z7) (z1T : List Z3) (zn : Own) (zb : Own) (zB : Own) (zy : Own) (z1F : Own) (z1u : Own) (z2Q : Own) (z2o : Own) (zu : okApp zb = true) (z7T : okApp z1F = true) (z6H : okApp z1u = true) (z7N : okApp z2Q = true) (z6C : okApp z2o = true) : Sim (Z2t zl z6 zd zh zn zb) (Z1N x2 x7 zl zp z1 z2 z1U z2L z2K z2k z2b z2c z1T) (Z9M 1 (.ptr 0 0) (bv x2) (.ptr 2 0) (iv x7) (.ptr 3 0) [(Zi (Zk.mk zl zp z6 zd zh (Zj.mk z1 z2)) zn zb), (Zq b1 zB zy), (Zq b2 z1F z1u), (Zq (Z3.mk z1U z2L z2K z2k z2b z2c z1T) z2Q z2o)]) := by
 unfold Z1N
 refine zf (Zf3 ..) ?_
 refine ze ?_
 refine zo (bv (!x2)) ?_
 refine za ((!x2)) ?_ ?_
 ·refine ze ?_
  refine zi fun r1 hr1 => ?_
  obtain ⟨qr1, er1, exr1, rfl⟩ := ZW (23) (x7) (zl) (zp) (z6) (zd) (zh) (z1) (z2) zn zb zu r1 hr1
  refine zc [0] (.p (.tup [])) [(Zi (Zk.mk zl r1.1 z6 zd zh (Zj.mk r1.2.1 r1.2.2)) zn zb), (Zq b1 zB zy), (Zq b2 z1F z1u), (Zq (Z3.mk z1U z2L z2K z2k z2b z2c z1T) z2Q z2o)] er1 ?_
  exact zk (Z5R (zl) (r1.1) (z6) (zd) (zh) (r1.2.1) (r1.2.2) (b1) (b2) (z1U) (z2L) (z2K) (z2k) (z2b) (z2c) (z1T) zn zb zB zy z1F z1u z2Q z2o zu z7T z6H z7N z6C)
 ·exact zk (Z5R (zl) (zp) (z6) (zd) (zh) (z1) (z2) (b1) (b2) (z1U) (z2L) (z2K) (z2k) (z2b) (z2c) (z1T) zn zb zB zy z1F z1u z2Q z2o zu z7T z6H z7N z6C)
noncomputable def Z3l (x1 : Z3) (x2 : Bool) (zl : List Int) (zp : Int) (z6 : Int) (zd : Int) (zh : List Zr) (z1 : Int) (z2 : Int) : Option (Z3 × Int × Int × Int) :=
 (Z13 ((ByteArray.mk #[42])) zl zp).bind fun r1 =>
 if (r1.1) = true then
 (Z1N x2 zp zl r1.2 z1 z2 4 0 ((-1)) 0 0 (([] : List Z7)) (([x1] : List Z3)))
 else
 ((Z13 ((ByteArray.mk #[43])) zl r1.2).bind fun r2 =>
 if (r2.1) = true then
 (Z1N x2 zp zl r2.2 z1 z2 4 1 ((-1)) 0 0 (([] : List Z7)) (([x1] : List Z3)))
 else
 ((Z13 ((ByteArray.mk #[63])) zl r2.2).bind fun r3 =>
 if (r3.1) = true then
 (Z1N x2 zp zl r3.2 z1 z2 4 0 1 0 0 (([] : List Z7)) (([x1] : List Z3)))
 else
 ((Z13 ((ByteArray.mk #[123])) zl r3.2).bind fun r4 =>
 if (r4.1) = true then
 ((Z42 zp zl r4.2 z6 zd zh z1 z2).bind fun r5 =>
 Z1N x2 zp zl r5.2.2.1 r5.2.2.2.1 r5.2.2.2.2 4 r5.1 r5.2.1 0 0 (([] : List Z7)) (([x1] : List Z3)))
 else
 (some (x1, r4.2, z1, z2)))))
theorem Z9J (x1 : Z3) (x2 : Bool) (zl : List Int) (zp : Int) (z6 : Int) (zd : Int) (zh : List Zr) (z1 : Int) (z2 : Int) (z1r : Own) (z1c : Own) (zn : Own) (zb : Own) (zu : okApp zb = true) : Sim (Z2t zl z6 zd zh zn zb) (Z3l x1 x2 zl zp z6 zd zh z1 z2) (EE 43 [(.ptr 0 0), (.p (.agg (ZD x1 z1r z1c))), (bv x2)] [(Zi (Zk.mk zl zp z6 zd zh (Zj.mk z1 z2)) zn zb)]) := by
 unfold Z3l
 refine zf (ZhP ..) ?_
 refine ze ?_
 refine zx (.ptr 1 0) [(Zi (Zk.mk zl zp z6 zd zh (Zj.mk z1 z2)) zn zb), (Zq x1 z1r z1c)] ?_
 refine zz (.ptr 2 0) [(Zi (Zk.mk zl zp z6 zd zh (Zj.mk z1 z2)) zn zb), (Zq x1 z1r z1c), (Zq (Z3.mk 0 0 0 0 0 ([] : List Z7) ([] : List Z3)) .nl .nl)] ?_
 refine ze ?_
 refine zo (.ptr 0 0) ?_
 refine zo (.ptr 0 1) ?_
 refine zo (iv zp) ?_
 refine ze ?_
 refine zo (.p (.agg (ZD x1 (shrO z1r) (shrO z1c)))) ?_
 refine zo (.p (.lst .ex (([x1] : List Z3).map ZK))) ?_ (Eq.trans (b := some (.p (.lst .ex [.agg (Z2m x1)]))) (by kernel_rfl) (by simp only [List.map_cons, List.map_nil, Z2V]))
 refine zo (.p (.agg (ZD (Z3.mk 4 0 (-1) 0 0 ([] : List Z7) ([x1] : List Z3)) .nl .ex))) ?_
 refine zz (.ptr 3 0) [(Zi (Zk.mk zl zp z6 zd zh (Zj.mk z1 z2)) zn zb), (Zq x1 z1r z1c), (Zq (Z3.mk 0 0 0 0 0 ([] : List Z7) ([] : List Z3)) .nl .nl), (Zq (Z3.mk 0 0 0 0 0 ([] : List Z7) ([] : List Z3)) .nl .nl)] ?_
 refine zt [(Zi (Zk.mk zl zp z6 zd zh (Zj.mk z1 z2)) zn zb), (Zq x1 z1r z1c), (Zq (Z3.mk 0 0 0 0 0 ([] : List Z7) ([] : List Z3)) .nl .nl), (Zq (Z3.mk 4 0 (-1) 0 0 ([] : List Z7) ([x1] : List Z3)) .nl .ex)] ?_
 refine ze ?_
 refine zi fun r1 hr1 => ?_
 obtain ⟨qr1, er1, exr1, rfl⟩ := Z18 ((ByteArray.mk #[42])) (zl) (zp) (z6) (zd) (zh) (z1) (z2) zn zb zu r1 hr1
 refine zc [0] (bv r1.1) [(Zi (Zk.mk zl r1.2 z6 zd zh (Zj.mk z1 z2)) zn zb), (Zq x1 z1r z1c), (Zq (Z3.mk 0 0 0 0 0 ([] : List Z7) ([] : List Z3)) .nl .nl), (Zq (Z3.mk 4 0 (-1) 0 0 ([] : List Z7) ([x1] : List Z3)) .nl .ex)] er1 ?_
 refine za (r1.1) ?_ ?_
 ·exact zk (Z3p (x2) (zp) (zl) (r1.2) (z6) (zd) (zh) (z1) (z2) (x1) ((Z3.mk 0 0 0 0 0 ([] : List Z7) ([] : List Z3))) (4) (0) ((-1)) (0) (0) (([] : List Z7)) (([x1] : List Z3)) zn zb z1r z1c .nl .nl .nl .ex zu rfl rfl rfl rfl)
 ·refine ze ?_
  refine zi fun r2 hr2 => ?_
  obtain ⟨qr2, er2, exr2, rfl⟩ := Z18 ((ByteArray.mk #[43])) (zl) (r1.2) (z6) (zd) (zh) (z1) (z2) zn zb zu r2 hr2
  refine zc [0] (bv r2.1) [(Zi (Zk.mk zl r2.2 z6 zd zh (Zj.mk z1 z2)) zn zb), (Zq x1 z1r z1c), (Zq (Z3.mk 0 0 0 0 0 ([] : List Z7) ([] : List Z3)) .nl .nl), (Zq (Z3.mk 4 0 (-1) 0 0 ([] : List Z7) ([x1] : List Z3)) .nl .ex)] er2 ?_
  refine za (r2.1) ?_ ?_
  ·refine ze ?_
   refine zo (.ptr 3 1) ?_
   refine zt [(Zi (Zk.mk zl r2.2 z6 zd zh (Zj.mk z1 z2)) zn zb), (Zq x1 z1r z1c), (Zq (Z3.mk 0 0 0 0 0 ([] : List Z7) ([] : List Z3)) .nl .nl), (Zq (Z3.mk 4 1 (-1) 0 0 ([] : List Z7) ([x1] : List Z3)) .nl .ex)] ?_
   exact zk (Z3p (x2) (zp) (zl) (r2.2) (z6) (zd) (zh) (z1) (z2) (x1) ((Z3.mk 0 0 0 0 0 ([] : List Z7) ([] : List Z3))) (4) (1) ((-1)) (0) (0) (([] : List Z7)) (([x1] : List Z3)) zn zb z1r z1c .nl .nl .nl .ex zu rfl rfl rfl rfl)
  ·refine ze ?_
   refine zi fun r3 hr3 => ?_
   obtain ⟨qr3, er3, exr3, rfl⟩ := Z18 ((ByteArray.mk #[63])) (zl) (r2.2) (z6) (zd) (zh) (z1) (z2) zn zb zu r3 hr3
   refine zc [0] (bv r3.1) [(Zi (Zk.mk zl r3.2 z6 zd zh (Zj.mk z1 z2)) zn zb), (Zq x1 z1r z1c), (Zq (Z3.mk 0 0 0 0 0 ([] : List Z7) ([] : List Z3)) .nl .nl), (Zq (Z3.mk 4 0 (-1) 0 0 ([] : List Z7) ([x1] : List Z3)) .nl .ex)] er3 ?_
   refine za (r3.1) ?_ ?_
   ·refine ze ?_
    refine zo (.ptr 3 2) ?_
    refine zt [(Zi (Zk.mk zl r3.2 z6 zd zh (Zj.mk z1 z2)) zn zb), (Zq x1 z1r z1c), (Zq (Z3.mk 0 0 0 0 0 ([] : List Z7) ([] : List Z3)) .nl .nl), (Zq (Z3.mk 4 0 1 0 0 ([] : List Z7) ([x1] : List Z3)) .nl .ex)] ?_
    exact zk (Z3p (x2) (zp) (zl) (r3.2) (z6) (zd) (zh) (z1) (z2) (x1) ((Z3.mk 0 0 0 0 0 ([] : List Z7) ([] : List Z3))) (4) (0) (1) (0) (0) (([] : List Z7)) (([x1] : List Z3)) zn zb z1r z1c .nl .nl .nl .ex zu rfl rfl rfl rfl)
   ·refine ze ?_
    refine zi fun r4 hr4 => ?_
    obtain ⟨qr4, er4, exr4, rfl⟩ := Z18 ((ByteArray.mk #[123])) (zl) (r3.2) (z6) (zd) (zh) (z1) (z2) zn zb zu r4 hr4
    refine zc [0] (bv r4.1) [(Zi (Zk.mk zl r4.2 z6 zd zh (Zj.mk z1 z2)) zn zb), (Zq x1 z1r z1c), (Zq (Z3.mk 0 0 0 0 0 ([] : List Z7) ([] : List Z3)) .nl .nl), (Zq (Z3.mk 4 0 (-1) 0 0 ([] : List Z7) ([x1] : List Z3)) .nl .ex)] er4 ?_
    refine za (r4.1) ?_ ?_
    ·refine ze ?_
     refine zi fun r5 hr5 => ?_
     obtain ⟨qr5, er5, exr5, rfl⟩ := Za2 (zp) (zl) (r4.2) (z6) (zd) (zh) (z1) (z2) zn zb zu r5 hr5
     refine zc [0] (.p (.tup [(.v (.int .i64 r5.1)), (.v (.int .i64 r5.2.1))])) [(Zi (Zk.mk zl r5.2.2.1 z6 zd zh (Zj.mk r5.2.2.2.1 r5.2.2.2.2)) zn zb), (Zq x1 z1r z1c), (Zq (Z3.mk 0 0 0 0 0 ([] : List Z7) ([] : List Z3)) .nl .nl), (Zq (Z3.mk 4 0 (-1) 0 0 ([] : List Z7) ([x1] : List Z3)) .nl .ex)] er5 ?_
     refine zo (iv r5.1) ?_
     refine zo (iv r5.2.1) ?_
     refine zo (.ptr 3 1) ?_
     refine zt [(Zi (Zk.mk zl r5.2.2.1 z6 zd zh (Zj.mk r5.2.2.2.1 r5.2.2.2.2)) zn zb), (Zq x1 z1r z1c), (Zq (Z3.mk 0 0 0 0 0 ([] : List Z7) ([] : List Z3)) .nl .nl), (Zq (Z3.mk 4 r5.1 (-1) 0 0 ([] : List Z7) ([x1] : List Z3)) .nl .ex)] ?_
     refine zo (.ptr 3 2) ?_
     refine zt [(Zi (Zk.mk zl r5.2.2.1 z6 zd zh (Zj.mk r5.2.2.2.1 r5.2.2.2.2)) zn zb), (Zq x1 z1r z1c), (Zq (Z3.mk 0 0 0 0 0 ([] : List Z7) ([] : List Z3)) .nl .nl), (Zq (Z3.mk 4 r5.1 r5.2.1 0 0 ([] : List Z7) ([x1] : List Z3)) .nl .ex)] ?_
     exact zk (Z3p (x2) (zp) (zl) (r5.2.2.1) (z6) (zd) (zh) (r5.2.2.2.1) (r5.2.2.2.2) (x1) ((Z3.mk 0 0 0 0 0 ([] : List Z7) ([] : List Z3))) (4) (r5.1) (r5.2.1) (0) (0) (([] : List Z7)) (([x1] : List Z3)) zn zb z1r z1c .nl .nl .nl .ex zu rfl rfl rfl rfl)
    ·refine ze ?_
     refine zo (.p (.agg (ZD x1 (shrO z1r) (shrO z1c)))) ?_
     refine zt [(Zi (Zk.mk zl r4.2 z6 zd zh (Zj.mk z1 z2)) zn zb), (Zq x1 z1r z1c), (Zq x1 (shrO z1r) (shrO z1c)), (Zq (Z3.mk 4 0 (-1) 0 0 ([] : List Z7) ([x1] : List Z3)) .nl .ex)] ?_
     exact zr ((.p (.agg (ZD x1 .sh .sh))), [(Zi (Zk.mk zl r4.2 z6 zd zh (Zj.mk z1 z2)) zn zb), (Zq x1 z1r z1c), (Zq x1 (shrO z1r) (shrO z1c)), (Zq (Z3.mk 4 0 (-1) 0 0 ([] : List Z7) ([x1] : List Z3)) .nl .ex)]) ⟨_, rfl⟩
theorem Z6S (x1 : Z3) (x2 : Bool) (zl : List Int) (zp : Int) (z6 : Int) (zd : Int) (zh : List Zr) (z1 : Int) (z2 : Int) {r} (h : Z3l x1 x2 zl zp z6 zd zh z1 z2 = some r) : Z40 x1 x2 zl zp z6 zd zh z1 z2 = some r :=
 pick_of (fun _ _ ha hb => RRun.uniq (Zac _ _ _ _ _ _) (ha .ex .ex .ex .ex rfl) (hb .ex .ex .ex .ex rfl)) (fun z1r z1c zn zb zu => Z9J x1 x2 zl zp z6 zd zh z1 z2 z1r z1c zn zb zu r h)
noncomputable def Z5t (x4 : Int) (zp : Int) (z1 : Int) (z2 : Int) : Option (Int × Int × Int × Int × Int) :=
 some (x4, (-1), zp, z1, z2)
theorem Z8L (x4 : Int) (zl : List Int) (zp : Int) (z6 : Int) (zd : Int) (zh : List Zr) (z1 : Int) (z2 : Int) (zn : Own) (zb : Own) (zu : okApp zb = true) : Sim (Z1K zl z6 zd zh zn zb) (Z5t x4 zp z1 z2) (Zek 1 (iv x4) [(Zi (Zk.mk zl zp z6 zd zh (Zj.mk z1 z2)) zn zb)]) := by
 unfold Z5t
 refine zf (ZfQ ..) ?_
 refine ze ?_
 exact zr ((.p (.tup [(.v (.int .i64 x4)), (.v (.int .i64 (-1)))])), [(Zi (Zk.mk zl zp z6 zd zh (Zj.mk z1 z2)) zn zb)]) ⟨_, rfl⟩
noncomputable def Z4g (x4 : Int) (x5 : Int) (zp : Int) (z1 : Int) (z2 : Int) : Option (Int × Int × Int × Int × Int) :=
 some (x4, x5, zp, z1, z2)
theorem Z5P (x4 : Int) (x5 : Int) (zl : List Int) (zp : Int) (z6 : Int) (zd : Int) (zh : List Zr) (z1 : Int) (z2 : Int) (zn : Own) (zb : Own) (zu : okApp zb = true) : Sim (Z1K zl z6 zd zh zn zb) (Z4g x4 x5 zp z1 z2) (ZbQ 1 (iv x4) (iv x5) [(Zi (Zk.mk zl zp z6 zd zh (Zj.mk z1 z2)) zn zb)]) := by
 unfold Z4g
 refine zf (Zf2 ..) ?_
 refine ze ?_
 exact zr ((.p (.tup [(.v (.int .i64 x4)), (.v (.int .i64 x5))])), [(Zi (Zk.mk zl zp z6 zd zh (Zj.mk z1 z2)) zn zb)]) ⟨_, rfl⟩
noncomputable def Z1Y (x1 : Int) (x4 : Int) (x5 : Int) (zl : List Int) (z1 : Int) (z2 : Int) : Option (Int × Int × Int × Int × Int) :=
 (ZT 23 x1 zl z1 z2).bind fun r1 =>
 Z4g x4 x5 r1.1 r1.2.1 r1.2.2
theorem Z3o (x1 : Int) (x4 : Int) (x5 : Int) (zl : List Int) (zp : Int) (z6 : Int) (zd : Int) (zh : List Zr) (z1 : Int) (z2 : Int) (zn : Own) (zb : Own) (zu : okApp zb = true) : Sim (Z1K zl z6 zd zh zn zb) (Z1Y x1 x4 x5 zl z1 z2) (Z9K 1 (.ptr 0 0) (iv x1) (iv x4) (iv x5) [(Zi (Zk.mk zl zp z6 zd zh (Zj.mk z1 z2)) zn zb)]) := by
 unfold Z1Y
 refine zf (Zf5 ..) ?_
 refine ze ?_
 refine zi fun r1 hr1 => ?_
 obtain ⟨qr1, er1, exr1, rfl⟩ := ZW (23) (x1) (zl) (zp) (z6) (zd) (zh) (z1) (z2) zn zb zu r1 hr1
 refine zc [0] (.p (.tup [])) [(Zi (Zk.mk zl r1.1 z6 zd zh (Zj.mk r1.2.1 r1.2.2)) zn zb)] er1 ?_
 exact zk (Z5P (x4) (x5) (zl) (r1.1) (z6) (zd) (zh) (r1.2.1) (r1.2.2) zn zb zu)
noncomputable def Z1Q (x1 : Int) (x4 : Int) (x5 : Int) (zl : List Int) (zp : Int) (z1 : Int) (z2 : Int) : Option (Int × Int × Int × Int × Int) :=
 if ((decide (x4 < 0))) = true then
 (Z1Y x1 x4 x5 zl z1 z2)
 else
 (if ((decide (x5 < x4))) = true then
 (Z1Y x1 x4 x5 zl z1 z2)
 else
 (if ((decide (64 < x5))) = true then
 (Z1Y x1 x4 x5 zl z1 z2)
 else
 ((Z13 ((ByteArray.mk #[125])) zl zp).bind fun r1 =>
 if ((!r1.1)) = true then
 (Z1Y x1 x4 x5 zl z1 z2)
 else
 (Z4g x4 x5 r1.2 z1 z2))))
theorem Z3y (x1 : Int) (x4 : Int) (x5 : Int) (zl : List Int) (zp : Int) (z6 : Int) (zd : Int) (zh : List Zr) (z1 : Int) (z2 : Int) (zn : Own) (zb : Own) (zu : okApp zb = true) : Sim (Z1K zl z6 zd zh zn zb) (Z1Q x1 x4 x5 zl zp z1 z2) (ZaX 1 (.ptr 0 0) (iv x1) (iv x4) (iv x5) [(Zi (Zk.mk zl zp z6 zd zh (Zj.mk z1 z2)) zn zb)]) := by
 unfold Z1Q
 refine zf (ZgH ..) ?_
 refine ze ?_
 refine zo (bv (decide (x4 < 0))) ?_
 refine za ((decide (x4 < 0))) ?_ ?_
 ·exact zk (Z3o (x1) (x4) (x5) (zl) (zp) (z6) (zd) (zh) (z1) (z2) zn zb zu)
 ·refine zo (bv (decide (x5 < x4))) ?_
  refine za ((decide (x5 < x4))) ?_ ?_
  ·exact zk (Z3o (x1) (x4) (x5) (zl) (zp) (z6) (zd) (zh) (z1) (z2) zn zb zu)
  ·refine zo (bv (decide (64 < x5))) ?_
   refine za ((decide (64 < x5))) ?_ ?_
   ·exact zk (Z3o (x1) (x4) (x5) (zl) (zp) (z6) (zd) (zh) (z1) (z2) zn zb zu)
   ·refine zi fun r1 hr1 => ?_
    obtain ⟨qr1, er1, exr1, rfl⟩ := Z18 ((ByteArray.mk #[125])) (zl) (zp) (z6) (zd) (zh) (z1) (z2) zn zb zu r1 hr1
    refine zc [0] (bv r1.1) [(Zi (Zk.mk zl r1.2 z6 zd zh (Zj.mk z1 z2)) zn zb)] er1 ?_
    refine zo (bv (!r1.1)) ?_
    refine za ((!r1.1)) ?_ ?_
    ·exact zk (Z3o (x1) (x4) (x5) (zl) (r1.2) (z6) (zd) (zh) (z1) (z2) zn zb zu)
    ·exact zk (Z5P (x4) (x5) (zl) (r1.2) (z6) (zd) (zh) (z1) (z2) zn zb zu)
noncomputable def Z2N (x1 : Int) (x4 : Int) (zl : List Int) (zp : Int) (z1 : Int) (z2 : Int) : Option (Int × Int × Int × Int × Int) :=
 Z1Q x1 x4 ((-2)) zl zp z1 z2
theorem Z66 (x1 : Int) (x4 : Int) (zl : List Int) (zp : Int) (z6 : Int) (zd : Int) (zh : List Zr) (z1 : Int) (z2 : Int) (zn : Own) (zb : Own) (zu : okApp zb = true) : Sim (Z1K zl z6 zd zh zn zb) (Z2N x1 x4 zl zp z1 z2) (Zcl 1 (.ptr 0 0) (iv x1) (iv x4) [(Zi (Zk.mk zl zp z6 zd zh (Zj.mk z1 z2)) zn zb)]) := by
 unfold Z2N
 refine zf (ZfJ ..) ?_
 refine ze ?_
 exact zk (Z3y (x1) (x4) ((-2)) (zl) (zp) (z6) (zd) (zh) (z1) (z2) zn zb zu)
noncomputable def Z4r (x1 : Int) (x4 : Int) (zl : List Int) (zp : Int) (z1 : Int) (z2 : Int) : Option (Int × Int × Int × Int × Int) :=
 (Z13 ((ByteArray.mk #[125])) zl zp).bind fun r1 =>
 if (r1.1) = true then
 (if ((decide (x4 ≤ 64))) = true then
 (Z5t x4 r1.2 z1 z2)
 else
 (Z2N x1 x4 zl r1.2 z1 z2))
 else
 (Z2N x1 x4 zl r1.2 z1 z2)
theorem Z8Q (x1 : Int) (x4 : Int) (zl : List Int) (zp : Int) (z6 : Int) (zd : Int) (zh : List Zr) (z1 : Int) (z2 : Int) (zn : Own) (zb : Own) (zu : okApp zb = true) : Sim (Z1K zl z6 zd zh zn zb) (Z4r x1 x4 zl zp z1 z2) (ZdL 1 (.ptr 0 0) (iv x1) (iv x4) [(Zi (Zk.mk zl zp z6 zd zh (Zj.mk z1 z2)) zn zb)]) := by
 unfold Z4r
 refine zf (ZfF ..) ?_
 refine ze ?_
 refine zi fun r1 hr1 => ?_
 obtain ⟨qr1, er1, exr1, rfl⟩ := Z18 ((ByteArray.mk #[125])) (zl) (zp) (z6) (zd) (zh) (z1) (z2) zn zb zu r1 hr1
 refine zc [0] (bv r1.1) [(Zi (Zk.mk zl r1.2 z6 zd zh (Zj.mk z1 z2)) zn zb)] er1 ?_
 refine za (r1.1) ?_ ?_
 ·refine zo (bv (decide (x4 ≤ 64))) ?_
  refine za ((decide (x4 ≤ 64))) ?_ ?_
  ·exact zk (Z8L (x4) (zl) (r1.2) (z6) (zd) (zh) (z1) (z2) zn zb zu)
  ·exact zk (Z66 (x1) (x4) (zl) (r1.2) (z6) (zd) (zh) (z1) (z2) zn zb zu)
 ·exact zk (Z66 (x1) (x4) (zl) (r1.2) (z6) (zd) (zh) (z1) (z2) zn zb zu)
noncomputable def Z41 (x1 : Int) (zl : List Int) (zp : Int) (z6 : Int) (zd : Int) (zh : List Zr) (z1 : Int) (z2 : Int) : Option (Int × Int × Int × Int × Int) :=
 (Z3g zl zp z6 zd zh z1 z2).bind fun r1 =>
 (Z13 ((ByteArray.mk #[44])) zl r1.2).bind fun r2 =>
 if (r2.1) = true then
 ((Z3g zl r2.2 z6 zd zh z1 z2).bind fun r3 =>
 if ((decide (r3.1 < 0))) = true then
 (if ((decide (0 ≤ r1.1))) = true then
 (Z4r x1 r1.1 zl r3.2 z1 z2)
 else
 (Z1Q x1 r1.1 r3.1 zl r3.2 z1 z2))
 else
 (Z1Q x1 r1.1 r3.1 zl r3.2 z1 z2))
 else
 (Z1Q x1 r1.1 r1.1 zl r2.2 z1 z2)
theorem Z9u (x1 : Int) (zl : List Int) (zp : Int) (z6 : Int) (zd : Int) (zh : List Zr) (z1 : Int) (z2 : Int) (zn : Own) (zb : Own) (zu : okApp zb = true) : Sim (Z1K zl z6 zd zh zn zb) (Z41 x1 zl zp z6 zd zh z1 z2) (EE 52 [(.ptr 0 0), (iv x1)] [(Zi (Zk.mk zl zp z6 zd zh (Zj.mk z1 z2)) zn zb)]) := by
 unfold Z41
 refine zf (ZhX ..) ?_
 refine ze ?_
 refine ze ?_
 refine zi fun r1 hr1 => ?_
 obtain ⟨qr1, er1, exr1, rfl⟩ := Z6M (zl) (zp) (z6) (zd) (zh) (z1) (z2) zn zb zu r1 hr1
 refine zc [0] (iv r1.1) [(Zi (Zk.mk zl r1.2 z6 zd zh (Zj.mk z1 z2)) zn zb)] er1 ?_
 refine ze ?_
 refine ze ?_
 refine zi fun r2 hr2 => ?_
 obtain ⟨qr2, er2, exr2, rfl⟩ := Z18 ((ByteArray.mk #[44])) (zl) (r1.2) (z6) (zd) (zh) (z1) (z2) zn zb zu r2 hr2
 refine zc [0] (bv r2.1) [(Zi (Zk.mk zl r2.2 z6 zd zh (Zj.mk z1 z2)) zn zb)] er2 ?_
 refine za (r2.1) ?_ ?_
 ·refine ze ?_
  refine zi fun r3 hr3 => ?_
  obtain ⟨qr3, er3, exr3, rfl⟩ := Z6M (zl) (r2.2) (z6) (zd) (zh) (z1) (z2) zn zb zu r3 hr3
  refine zc [0] (iv r3.1) [(Zi (Zk.mk zl r3.2 z6 zd zh (Zj.mk z1 z2)) zn zb)] er3 ?_
  refine ze ?_
  refine zo (bv (decide (r3.1 < 0))) ?_
  refine za ((decide (r3.1 < 0))) ?_ ?_
  ·refine zo (bv (decide (0 ≤ r1.1))) ?_
   refine za ((decide (0 ≤ r1.1))) ?_ ?_
   ·exact zk (Z8Q (x1) (r1.1) (zl) (r3.2) (z6) (zd) (zh) (z1) (z2) zn zb zu)
   ·exact zk (Z3y (x1) (r1.1) (r3.1) (zl) (r3.2) (z6) (zd) (zh) (z1) (z2) zn zb zu)
  ·exact zk (Z3y (x1) (r1.1) (r3.1) (zl) (r3.2) (z6) (zd) (zh) (z1) (z2) zn zb zu)
 ·exact zk (Z3y (x1) (r1.1) (r1.1) (zl) (r2.2) (z6) (zd) (zh) (z1) (z2) zn zb zu)
theorem Z6K (x1 : Int) (zl : List Int) (zp : Int) (z6 : Int) (zd : Int) (zh : List Zr) (z1 : Int) (z2 : Int) {r} (h : Z41 x1 zl zp z6 zd zh z1 z2 = some r) : Z42 x1 zl zp z6 zd zh z1 z2 = some r :=
 pick_of (fun _ _ ha hb => RRun.uniq (Zad _ _ _ _ _ _) (ha .ex .ex rfl) (hb .ex .ex rfl)) (fun zn zb zu => Z9u x1 zl zp z6 zd zh z1 z2 zn zb zu r h)
noncomputable def Z61 (zl : List Int) (zp : Int) (z6 : Int) (zd : Int) (zh : List Zr) (z1 : Int) (z2 : Int) : Option (Int × Int) :=
 Z2n ((-1)) 0 zl zp z6 zd zh z1 z2
theorem Z9q (zl : List Int) (zp : Int) (z6 : Int) (zd : Int) (zh : List Zr) (z1 : Int) (z2 : Int) (zn : Own) (zb : Own) (zu : okApp zb = true) : Sim (Z1V zl z6 zd zh z1 z2 zn zb) (Z61 zl zp z6 zd zh z1 z2) (EE 63 [(.ptr 0 0)] [(Zi (Zk.mk zl zp z6 zd zh (Zj.mk z1 z2)) zn zb)]) := by
 unfold Z61
 refine zf (Zhu ..) ?_
 refine ze ?_
 refine ze ?_
 refine ze ?_
 exact zk (Z6e ((-1)) (0) (zl) (zp) (z6) (zd) (zh) (z1) (z2) zn zb zu)
theorem Z9T (zl : List Int) (zp : Int) (z6 : Int) (zd : Int) (zh : List Zr) (z1 : Int) (z2 : Int) {r} (h : Z61 zl zp z6 zd zh z1 z2 = some r) : Z3g zl zp z6 zd zh z1 z2 = some r :=
 pick_of (fun _ _ ha hb => RRun.uniq (Z7j _ _ _ _ _ _ _ _) (ha .ex .ex rfl) (hb .ex .ex rfl)) (fun zn zb zu => Z9q zl zp z6 zd zh z1 z2 zn zb zu r h)
noncomputable def Z4w (x3 : Int) (x4 : Int) (zl : List Int) (zp : Int) (z6 : Int) (zd : Int) (zh : List Zr) (z1 : Int) (z2 : Int) : Option (Int × Int) :=
 (Z1X zl zp).bind fun r1 =>
 Z2n ((IntKind.i64.wrap ((IntKind.i64.wrap ((IntKind.i64.wrap (10 * (max x3 0))) + r1.1)) - 48))) ((IntKind.i64.wrap (x4 + 1))) zl r1.2 z6 zd zh z1 z2
theorem Z8S (x3 : Int) (x4 : Int) (zl : List Int) (zp : Int) (z6 : Int) (zd : Int) (zh : List Zr) (z1 : Int) (z2 : Int) (zn : Own) (zb : Own) (zu : okApp zb = true) : Sim (Z1V zl z6 zd zh z1 z2 zn zb) (Z4w x3 x4 zl zp z6 zd zh z1 z2) (ZdI 1 (.ptr 0 0) (iv x3) (iv x4) [(Zi (Zk.mk zl zp z6 zd zh (Zj.mk z1 z2)) zn zb)]) := by
 unfold Z4w
 refine zf (Zgi ..) ?_
 refine ze ?_
 refine zo (iv (max x3 0)) ?_ (xminmax2_max _ _)
 refine zo (iv (IntKind.i64.wrap (10 * (max x3 0)))) ?_
 refine zi fun r1 hr1 => ?_
 obtain ⟨qr1, er1, exr1, rfl⟩ := Z2i (zl) (zp) (z6) (zd) (zh) (z1) (z2) zn zb zu r1 hr1
 refine zc [0] (iv r1.1) [(Zi (Zk.mk zl r1.2 z6 zd zh (Zj.mk z1 z2)) zn zb)] er1 ?_
 refine zo (iv (IntKind.i64.wrap ((IntKind.i64.wrap (10 * (max x3 0))) + r1.1))) ?_
 refine zo (iv (IntKind.i64.wrap ((IntKind.i64.wrap ((IntKind.i64.wrap (10 * (max x3 0))) + r1.1)) - 48))) ?_
 refine ze ?_
 refine zo (iv (IntKind.i64.wrap (x4 + 1))) ?_
 exact zk (Z6e ((IntKind.i64.wrap ((IntKind.i64.wrap ((IntKind.i64.wrap (10 * (max x3 0))) + r1.1)) - 48))) ((IntKind.i64.wrap (x4 + 1))) (zl) (r1.2) (z6) (zd) (zh) (z1) (z2) zn zb zu)
noncomputable def Z2M (x3 : Int) (zp : Int) : Option (Int × Int) :=
 some (x3, zp)
theorem Z4K (x3 : Int) (zl : List Int) (zp : Int) (z6 : Int) (zd : Int) (zh : List Zr) (z1 : Int) (z2 : Int) (zn : Own) (zb : Own) (zu : okApp zb = true) : Sim (Z1V zl z6 zd zh z1 z2 zn zb) (Z2M x3 zp) (ZbE 1 (iv x3) [(Zi (Zk.mk zl zp z6 zd zh (Zj.mk z1 z2)) zn zb)]) := by
 unfold Z2M
 refine zf (Zgx ..) ?_
 refine ze ?_
 exact zr ((iv x3), [(Zi (Zk.mk zl zp z6 zd zh (Zj.mk z1 z2)) zn zb)]) ⟨_, rfl⟩
noncomputable def Z4u (x3 : Int) (x4 : Int) (zl : List Int) (zp : Int) (z6 : Int) (zd : Int) (zh : List Zr) (z1 : Int) (z2 : Int) : Option (Int × Int) :=
 if ((decide (x4 < 2))) = true then
 ((Z1B ((Zk.mk zl zp z6 zd zh (Zj.mk z1 z2)))).bind fun r1 =>
 if ((decide (48 ≤ r1))) = true then
 ((Z1B ((Zk.mk zl zp z6 zd zh (Zj.mk z1 z2)))).bind fun r2 =>
 if ((decide (r2 ≤ 57))) = true then
 (Z4w x3 x4 zl zp z6 zd zh z1 z2)
 else
 (Z2M x3 zp))
 else
 (Z2M x3 zp))
 else
 (Z2M x3 zp)
theorem Z8G (x3 : Int) (x4 : Int) (zl : List Int) (zp : Int) (z6 : Int) (zd : Int) (zh : List Zr) (z1 : Int) (z2 : Int) (zn : Own) (zb : Own) (zu : okApp zb = true) : Sim (Z1V zl z6 zd zh z1 z2 zn zb) (Z4u x3 x4 zl zp z6 zd zh z1 z2) (Zb9 1 (.ptr 0 0) (iv x3) (iv x4) [(Zi (Zk.mk zl zp z6 zd zh (Zj.mk z1 z2)) zn zb)]) := by
 unfold Z4u
 refine zf (Zgg ..) ?_
 refine ze ?_
 refine zo (bv (decide (x4 < 2))) ?_
 refine za ((decide (x4 < 2))) ?_ ?_
 ·refine zi fun r1 hr1 => ?_
  obtain ⟨qr1, er1, exr1, rfl⟩ := Z1G ((Zk.mk zl zp z6 zd zh (Zj.mk z1 z2))) zn zb zu r1 hr1
  refine zc [0] (iv r1) [(Zi (Zk.mk zl zp z6 zd zh (Zj.mk z1 z2)) zn zb)] er1 ?_
  refine zo (bv (decide (48 ≤ r1))) ?_
  refine za ((decide (48 ≤ r1))) ?_ ?_
  ·refine zi fun r2 hr2 => ?_
   obtain ⟨qr2, er2, exr2, rfl⟩ := Z1G ((Zk.mk zl zp z6 zd zh (Zj.mk z1 z2))) zn zb zu r2 hr2
   refine zc [0] (iv r2) [(Zi (Zk.mk zl zp z6 zd zh (Zj.mk z1 z2)) zn zb)] er2 ?_
   refine zo (bv (decide (r2 ≤ 57))) ?_
   refine za ((decide (r2 ≤ 57))) ?_ ?_
   ·exact zk (Z8S (x3) (x4) (zl) (zp) (z6) (zd) (zh) (z1) (z2) zn zb zu)
   ·exact zk (Z4K (x3) (zl) (zp) (z6) (zd) (zh) (z1) (z2) zn zb zu)
  ·exact zk (Z4K (x3) (zl) (zp) (z6) (zd) (zh) (z1) (z2) zn zb zu)
 ·exact zk (Z4K (x3) (zl) (zp) (z6) (zd) (zh) (z1) (z2) zn zb zu)
theorem Z96 (x3 : Int) (x4 : Int) (zl : List Int) (zp : Int) (z6 : Int) (zd : Int) (zh : List Zr) (z1 : Int) (z2 : Int) {r} (h : Z4u x3 x4 zl zp z6 zd zh z1 z2 = some r) : Z2n x3 x4 zl zp z6 zd zh z1 z2 = some r :=
 pick_of (fun _ _ ha hb => RRun.uniq (Z7j _ _ _ _ _ _ _ _) (ha .ex .ex rfl) (hb .ex .ex rfl)) (fun zn zb zu => Z8G x3 x4 zl zp z6 zd zh z1 z2 zn zb zu r h)
noncomputable def Z1H  : Option (Bool) :=
 some (false)
theorem Z1R  : Sim (Z1p) (Z1H) (Z8d 0  []) := by
 unfold Z1H
 refine zf (Zg1 ..) ?_
 refine ze ?_
 exact zr ((bv false), []) ⟨_, rfl⟩
noncomputable def Z3U (b0 : Z3) (b1 : Z3) : Option (Bool) :=
 Z2Z b0.Kids ((b0.Kids.length : Int)) 0 b1
theorem Z8c (b0 : Z3) (b1 : Z3) (z2d : Own) (z1J : Own) (zB : Own) (zy : Own) : Sim (Z1p) (Z3U b0 b1) (Zen 0 (.ptr 0 0) (.ptr 1 0) [(Zq b0 z2d z1J), (Zq b1 zB zy)]) := by
 unfold Z3U
 refine zf (ZfT ..) ?_
 refine ze ?_
 refine zo (.ptr 0 6) ?_
 refine zo (.p (.lst (shrO z1J) (b0.Kids.map ZK))) ?_
 refine zo (iv (b0.Kids.length : Int)) ?_ (Eq.trans (by kernel_rfl) (xlen_of (P := PP) (t := 25) (d := 27) (by kernel_rfl) ZK (shrO z1J) b0.Kids))
 exact zk (Z5S (b0.Kids) ((b0.Kids.length : Int)) (0) (b0) (b1) (shrO z1J) z2d z1J zB zy)
noncomputable def Z4A (x0 : Z3) (x1 : Z3) : Option (Bool) :=
 if ((x0.Kind != x1.Kind)) = true then
 (Z1H)
 else
 (if ((x0.Lo != x1.Lo)) = true then
 (Z1H)
 else
 (if ((x0.Hi != x1.Hi)) = true then
 (Z1H)
 else
 (if ((x0.Mode != x1.Mode)) = true then
 (Z1H)
 else
 (if ((x0.Ref != x1.Ref)) = true then
 (Z1H)
 else
 (if (((x0.Kids.length : Int) != (x1.Kids.length : Int))) = true then
 (Z1H)
 else
 ((Z4U x0.Set x1.Set).bind fun r1 =>
 if ((!r1)) = true then
 (Z1H)
 else
 (Z3U x0 x1)))))))
theorem Z9a (x0 : Z3) (x1 : Z3) (z5q : Own) (z4o : Own) (z1r : Own) (z1c : Own) : Sim (Z1p) (Z4A x0 x1) (EE 17 [(.p (.agg (ZD x0 z5q z4o))), (.p (.agg (ZD x1 z1r z1c)))] []) := by
 unfold Z4A
 refine zf (ZhZ ..) ?_
 refine ze ?_
 refine zx (.ptr 0 0) [(Zq x0 z5q z4o)] ?_
 refine zx (.ptr 1 0) [(Zq x0 z5q z4o), (Zq x1 z1r z1c)] ?_
 refine ze ?_
 refine zo (.ptr 0 0) ?_
 refine zo (iv x0.Kind) ?_
 refine zo (.ptr 1 0) ?_
 refine zo (iv x1.Kind) ?_
 refine zo (bv (x0.Kind != x1.Kind)) ?_
 refine za ((x0.Kind != x1.Kind)) ?_ ?_
 ·exact zk (Z1R )
 ·refine zo (.ptr 0 1) ?_
  refine zo (iv x0.Lo) ?_
  refine zo (.ptr 1 1) ?_
  refine zo (iv x1.Lo) ?_
  refine zo (bv (x0.Lo != x1.Lo)) ?_
  refine za ((x0.Lo != x1.Lo)) ?_ ?_
  ·exact zk (Z1R )
  ·refine zo (.ptr 0 2) ?_
   refine zo (iv x0.Hi) ?_
   refine zo (.ptr 1 2) ?_
   refine zo (iv x1.Hi) ?_
   refine zo (bv (x0.Hi != x1.Hi)) ?_
   refine za ((x0.Hi != x1.Hi)) ?_ ?_
   ·exact zk (Z1R )
   ·refine zo (.ptr 0 3) ?_
    refine zo (iv x0.Mode) ?_
    refine zo (.ptr 1 3) ?_
    refine zo (iv x1.Mode) ?_
    refine zo (bv (x0.Mode != x1.Mode)) ?_
    refine za ((x0.Mode != x1.Mode)) ?_ ?_
    ·exact zk (Z1R )
    ·refine zo (.ptr 0 4) ?_
     refine zo (iv x0.Ref) ?_
     refine zo (.ptr 1 4) ?_
     refine zo (iv x1.Ref) ?_
     refine zo (bv (x0.Ref != x1.Ref)) ?_
     refine za ((x0.Ref != x1.Ref)) ?_ ?_
     ·exact zk (Z1R )
     ·refine zo (.ptr 0 6) ?_
      refine zo (.p (.lst (shrO z4o) (x0.Kids.map ZK))) ?_
      refine zo (iv (x0.Kids.length : Int)) ?_ (Eq.trans (by kernel_rfl) (xlen_of (P := PP) (t := 25) (d := 27) (by kernel_rfl) ZK (shrO z4o) x0.Kids))
      refine zo (.ptr 1 6) ?_
      refine zo (.p (.lst (shrO z1c) (x1.Kids.map ZK))) ?_
      refine zo (iv (x1.Kids.length : Int)) ?_ (Eq.trans (by kernel_rfl) (xlen_of (P := PP) (t := 25) (d := 27) (by kernel_rfl) ZK (shrO z1c) x1.Kids))
      refine zo (bv ((x0.Kids.length : Int) != (x1.Kids.length : Int))) ?_
      refine za (((x0.Kids.length : Int) != (x1.Kids.length : Int))) ?_ ?_
      ·exact zk (Z1R )
      ·refine zo (.ptr 0 5) ?_
       refine zo (.p (.lst (shrO z5q) (x0.Set.map Zs))) ?_
       refine zo (.ptr 1 5) ?_
       refine zo (.p (.lst (shrO z1r) (x1.Set.map Zs))) ?_
       refine zi fun r1 hr1 => ?_
       obtain ⟨qr1, er1, exr1, rfl⟩ := Z9A (x0.Set) (x1.Set) .sh .sh r1 hr1
       refine zc [] (bv r1) [(Zq x0 z5q z4o), (Zq x1 z1r z1c)] er1 ?_
       refine zo (bv (!r1)) ?_
       refine za ((!r1)) ?_ ?_
       ·exact zk (Z1R )
       ·exact zk (Z8c (x0) (x1) z5q z4o z1r z1c)
theorem Z9f (x0 : Z3) (x1 : Z3) {r} (h : Z4A x0 x1 = some r) : Z2a x0 x1 = some r :=
 pick_of (fun _ _ ha hb => RRun.uniq (Z6r) (ha .ex .ex .ex .ex) (hb .ex .ex .ex .ex)) (fun z5q z4o z1r z1c => Z9a x0 x1 z5q z4o z1r z1c r h)
noncomputable def Z3W (x58 : List Z3) (x59 : Int) (x60 : Int) (b1 : Z3) : Option (Bool) :=
 Z2Z x58 x59 ((IntKind.i64.wrap (x60 + 1))) b1
theorem Z89 (x58 : List Z3) (x59 : Int) (x60 : Int) (b0 : Z3) (b1 : Z3) (ox58 : Own) (z2d : Own) (z1J : Own) (zB : Own) (zy : Own) : Sim (Z1p) (Z3W x58 x59 x60 b1) (Zdt 0 (.ptr 1 0) (.p (.lst ox58 (x58.map ZK))) (iv x59) (iv x60) [(Zq b0 z2d z1J), (Zq b1 zB zy)]) := by
 unfold Z3W
 refine zf (Zge ..) ?_
 refine ze ?_
 refine zo (iv (IntKind.i64.wrap (x60 + 1))) ?_
 exact zk (Z5S (x58) (x59) ((IntKind.i64.wrap (x60 + 1))) (b0) (b1) ox58 z2d z1J zB zy)
noncomputable def Z3X (x58 : List Z3) (x59 : Int) (x60 : Int) (b1 : Z3) : Option (Bool) :=
 (lget x58 x60).bind fun a1 =>
 (lget b1.Kids x60).bind fun a2 =>
 (Z2a a1 a2).bind fun r3 =>
 if ((!r3)) = true then
 (some (false))
 else
 (Z3W x58 x59 x60 b1)
theorem Z8m (x58 : List Z3) (x59 : Int) (x60 : Int) (b0 : Z3) (b1 : Z3) (ox58 : Own) (z2d : Own) (z1J : Own) (zB : Own) (zy : Own) : Sim (Z1p) (Z3X x58 x59 x60 b1) (ZdR 0 (.ptr 1 0) (.p (.lst ox58 (x58.map ZK))) (iv x59) (iv x60) [(Zq b0 z2d z1J), (Zq b1 zB zy)]) := by
 unfold Z3X
 refine zf (ZfR ..) ?_
 refine ze ?_
 refine zi fun a1 ha1 => ?_
 refine zo (.cptr (ZD a1 .sh .sh)) ?_ (Eq.trans (by kernel_rfl) (xidx_of (o := ox58) (k := .i64) (n := 7) (e := ZK) (cs := Z2m) Z5Z (fun _ => rfl) (by decide) ha1))
 refine zo (.p (.agg (ZD a1 .sh .sh))) ?_
 refine zz (.ptr 2 0) [(Zq b0 z2d z1J), (Zq b1 zB zy), (Zq (Z3.mk 0 0 0 0 0 ([] : List Z7) ([] : List Z3)) .nl .nl)] ?_
 refine zt [(Zq b0 z2d z1J), (Zq b1 zB zy), (Zq a1 .sh .sh)] ?_
 refine ze ?_
 refine zo (.p (.agg (ZD a1 .sh .sh))) ?_
 refine zo (.ptr 1 6) ?_
 refine zo (.p (.lst (shrO zy) (b1.Kids.map ZK))) ?_
 refine zi fun a2 ha2 => ?_
 refine zo (.cptr (ZD a2 .sh .sh)) ?_ (Eq.trans (by kernel_rfl) (xidx_of (o := (shrO zy)) (k := .i64) (n := 7) (e := ZK) (cs := Z2m) Z5Z (fun _ => rfl) (by decide) ha2))
 refine zo (.p (.agg (ZD a2 .sh .sh))) ?_
 refine zi fun r3 hr3 => ?_
 obtain ⟨qr3, er3, exr3, rfl⟩ := Z6o (a1) (a2) .sh .sh .sh .sh r3 hr3
 refine zc [] (bv r3) [(Zq b0 z2d z1J), (Zq b1 zB zy), (Zq a1 .sh .sh)] er3 ?_
 refine zo (bv (!r3)) ?_
 refine za ((!r3)) ?_ ?_
 ·refine ze ?_
  exact zr ((bv false), [(Zq b0 z2d z1J), (Zq b1 zB zy), (Zq a1 .sh .sh)]) ⟨_, rfl⟩
 ·exact zk (Z89 (x58) (x59) (x60) (b0) (b1) ox58 z2d z1J zB zy)
noncomputable def Z59  : Option (Bool) :=
 some (true)
theorem Z8p  : Sim (Z1p) (Z59) (ZdX 0  []) := by
 unfold Z59
 refine zf (ZfW ..) ?_
 refine ze ?_
 exact zr ((bv true), []) ⟨_, rfl⟩
noncomputable def Z30 (x58 : List Z3) (x59 : Int) (x60 : Int) (b1 : Z3) : Option (Bool) :=
 if ((decide (x60 < x59))) = true then
 (Z3X x58 x59 x60 b1)
 else
 (Z59)
theorem Z8b (x58 : List Z3) (x59 : Int) (x60 : Int) (b0 : Z3) (b1 : Z3) (ox58 : Own) (z2d : Own) (z1J : Own) (zB : Own) (zy : Own) : Sim (Z1p) (Z30 x58 x59 x60 b1) (ZaS 0 (.ptr 1 0) (.p (.lst ox58 (x58.map ZK))) (iv x59) (iv x60) [(Zq b0 z2d z1J), (Zq b1 zB zy)]) := by
 unfold Z30
 refine zf (Zfw ..) ?_
 refine ze ?_
 refine zo (bv (decide (x60 < x59))) ?_
 refine za ((decide (x60 < x59))) ?_ ?_
 ·exact zk (Z8m (x58) (x59) (x60) (b0) (b1) ox58 z2d z1J zB zy)
 ·exact zk (Z8p )
theorem Z5O (x58 : List Z3) (x59 : Int) (x60 : Int) (b1 : Z3) {r} (h : Z30 x58 x59 x60 b1 = some r) : Z2Z x58 x59 x60 b1 = some r :=
 pick_of (fun _ _ ha hb => RRun.uniq (Z6r) (ha default .ex .ex .ex .ex .ex) (hb default .ex .ex .ex .ex .ex)) (fun b0 ox58 z2d z1J zB zy => Z8b x58 x59 x60 b0 b1 ox58 z2d z1J zB zy r h)
end Go.Proofs.YtadodmjdkphddaaDoor.N2
end
section
set_option linter.unusedSimpArgs false
set_option linter.unusedVariables false
namespace Go.Proofs.YtadodmjdkphddaaDoor.N2
open Go Go.Abs
set_option linter.unusedVariables false
set_option maxRecDepth 100000
noncomputable def Z4i (x0 : List Z7) (x1 : List Z7) : Option (Bool) :=
 Z3f x1 x0 ((x0.length : Int)) 0
theorem Z8z (x0 : List Z7) (x1 : List Z7) (ox0 : Own) (ox1 : Own) : Sim (Z1z) (Z4i x0 x1) (Zed 0 (.p (.lst ox0 (x0.map Zs))) (.p (.lst ox1 (x1.map Zs))) []) := by
 unfold Z4i
 refine zf (Zg2 ..) ?_
 refine ze ?_
 refine zo (iv (x0.length : Int)) ?_ (Eq.trans (by kernel_rfl) (xlen_of (P := PP) (t := 24) (d := 39) (by kernel_rfl) Zs (shrO ox0) x0))
 exact zk (Z62 (x1) (x0) ((x0.length : Int)) (0) ox1 (shrO ox0))
noncomputable def Z4S (x0 : List Z7) (x1 : List Z7) : Option (Bool) :=
 if (((x0.length : Int) != (x1.length : Int))) = true then
 (some (false))
 else
 (Z4i x0 x1)
theorem Z9g (x0 : List Z7) (x1 : List Z7) (ox0 : Own) (ox1 : Own) : Sim (Z1z) (Z4S x0 x1) (EE 22 [(.p (.lst ox0 (x0.map Zs))), (.p (.lst ox1 (x1.map Zs)))] []) := by
 unfold Z4S
 refine zf (Zhg ..) ?_
 refine ze ?_
 refine ze ?_
 refine zo (iv (x0.length : Int)) ?_ (Eq.trans (by kernel_rfl) (xlen_of (P := PP) (t := 24) (d := 39) (by kernel_rfl) Zs (shrO ox0) x0))
 refine zo (iv (x1.length : Int)) ?_ (Eq.trans (by kernel_rfl) (xlen_of (P := PP) (t := 24) (d := 39) (by kernel_rfl) Zs (shrO ox1) x1))
 refine zo (bv ((x0.length : Int) != (x1.length : Int))) ?_
 refine za (((x0.length : Int) != (x1.length : Int))) ?_ ?_
 ·refine ze ?_
  exact zr ((bv false), []) ⟨_, rfl⟩
 ·exact zk (Z8z (x0) (x1) ox0 ox1)
theorem Z9H (x0 : List Z7) (x1 : List Z7) {r} (h : Z4S x0 x1 = some r) : Z4U x0 x1 = some r :=
 pick_of (fun _ _ ha hb => RRun.uniq (Z6D) (ha .ex .ex) (hb .ex .ex)) (fun ox0 ox1 => Z9g x0 x1 ox0 ox1 r h)
noncomputable def Z4h (x1 : List Z7) (x12 : List Z7) (x13 : Int) (x14 : Int) : Option (Bool) :=
 Z3f x1 x12 x13 ((IntKind.i64.wrap (x14 + 1)))
theorem Z8w (x1 : List Z7) (x12 : List Z7) (x13 : Int) (x14 : Int) (ox1 : Own) (ox12 : Own) : Sim (Z1z) (Z4h x1 x12 x13 x14) (ZdV 0 (.p (.lst ox1 (x1.map Zs))) (.p (.lst ox12 (x12.map Zs))) (iv x13) (iv x14) []) := by
 unfold Z4h
 refine zf (Zg7 ..) ?_
 refine ze ?_
 refine zo (iv (IntKind.i64.wrap (x14 + 1))) ?_
 exact zk (Z62 (x1) (x12) (x13) ((IntKind.i64.wrap (x14 + 1))) ox1 ox12)
noncomputable def Z4e (x1 : List Z7) (x12 : List Z7) (x13 : Int) (x14 : Int) : Option (Bool) :=
 (lget x12 x14).bind fun a1 =>
 (lget x1 x14).bind fun a2 =>
 if ((!((a1.Lo == a2.Lo) && ((a1.Hi == a2.Hi) && true)))) = true then
 (some (false))
 else
 (Z4h x1 x12 x13 x14)
theorem Z8u (x1 : List Z7) (x12 : List Z7) (x13 : Int) (x14 : Int) (ox1 : Own) (ox12 : Own) : Sim (Z1z) (Z4e x1 x12 x13 x14) (ZdK 0 (.p (.lst ox1 (x1.map Zs))) (.p (.lst ox12 (x12.map Zs))) (iv x13) (iv x14) []) := by
 unfold Z4e
 refine zf (ZgI ..) ?_
 refine ze ?_
 refine zi fun a1 ha1 => ?_
 refine zo (.cptr (ZF a1)) ?_ (Eq.trans (by kernel_rfl) (xidx_of (o := ox12) (k := .i64) (n := 2) (e := Zs) (cs := Z3J) (fun _ => rfl) (fun _ => rfl) (by decide) ha1))
 refine zo (.p (.agg (ZF a1))) ?_
 refine zz (.ptr 0 0) [(Z1m (Z7.mk 0 0))] ?_
 refine zt [(Z1m a1)] ?_
 refine ze ?_
 refine zo (.p (.agg (ZF a1))) ?_
 refine zi fun a2 ha2 => ?_
 refine zo (.cptr (ZF a2)) ?_ (Eq.trans (by kernel_rfl) (xidx_of (o := (shrO ox1)) (k := .i64) (n := 2) (e := Zs) (cs := Z3J) (fun _ => rfl) (fun _ => rfl) (by decide) ha2))
 refine zo (.p (.agg (ZF a2))) ?_
 refine zo (bv (!((a1.Lo == a2.Lo) && ((a1.Hi == a2.Hi) && true)))) ?_ (Eq.trans (b := xbin PP .neq 39 (.p (.agg (ZF a1))) (.p (.agg (ZF a2)))) (by kernel_rfl) (xeq_neq (by kernel_rfl) (by kernel_rfl) (by kernel_rfl) (by kernel_rfl) (by kernel_rfl)))
 refine za ((!((a1.Lo == a2.Lo) && ((a1.Hi == a2.Hi) && true)))) ?_ ?_
 ·refine ze ?_
  exact zr ((bv false), [(Z1m a1)]) ⟨_, rfl⟩
 ·exact zk (Z8w (x1) (x12) (x13) (x14) ox1 ox12)
noncomputable def Z5i  : Option (Bool) :=
 some (true)
theorem Z8A  : Sim (Z1z) (Z5i) (Zeb 0  []) := by
 unfold Z5i
 refine zf (ZgN ..) ?_
 refine ze ?_
 exact zr ((bv true), []) ⟨_, rfl⟩
noncomputable def Z3b (x1 : List Z7) (x12 : List Z7) (x13 : Int) (x14 : Int) : Option (Bool) :=
 if ((decide (x14 < x13))) = true then
 (Z4e x1 x12 x13 x14)
 else
 (Z5i)
theorem Z8v (x1 : List Z7) (x12 : List Z7) (x13 : Int) (x14 : Int) (ox1 : Own) (ox12 : Own) : Sim (Z1z) (Z3b x1 x12 x13 x14) (Zbb 0 (.p (.lst ox1 (x1.map Zs))) (.p (.lst ox12 (x12.map Zs))) (iv x13) (iv x14) []) := by
 unfold Z3b
 refine zf (ZgG ..) ?_
 refine ze ?_
 refine zo (bv (decide (x14 < x13))) ?_
 refine za ((decide (x14 < x13))) ?_ ?_
 ·exact zk (Z8u (x1) (x12) (x13) (x14) ox1 ox12)
 ·exact zk (Z8A )
theorem Z6b (x1 : List Z7) (x12 : List Z7) (x13 : Int) (x14 : Int) {r} (h : Z3b x1 x12 x13 x14 = some r) : Z3f x1 x12 x13 x14 = some r :=
 pick_of (fun _ _ ha hb => RRun.uniq (Z6D) (ha .ex .ex) (hb .ex .ex)) (fun ox1 ox12 => Z8v x1 x12 x13 x14 ox1 ox12 r h)
end Go.Proofs.YtadodmjdkphddaaDoor.N2
end
