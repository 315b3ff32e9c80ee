/- More of the functions' typed texts. No condition. -/
import Derived.Test.YteoeggbihfnbfaaGreatDoorTypA

noncomputable section
set_option linter.unusedSimpArgs false
set_option linter.unusedVariables false
namespace Go.Proofs.YteoeggbihfnbfaaGreatDoor.N2
open Go Go.Abs
set_option linter.unusedVariables false
set_option maxRecDepth 100000
def Z88 (x0 z1p : List Zc) : Option (List Zc) :=
 (Zd6 z1p x0).bind fun r1 =>
 some (r1.1)
theorem ZhX (x0 z1p : List Zc) ox0 zh8 : Sim (Z6v) (Z88 x0 z1p) (EE 151 [(.p (.lst ox0 (x0.map Zz))), (.ptr 0 0)] [[(.p (.lst zh8 (z1p.map Zz)))]]) := by
 unfold Z88
 refine zf (ZEE ..)<|ze<|zq<|zi fun r1 hr1 => ?_
 obtain ⟨qr1, er1, exr1, rfl⟩ := Zpu z1p x0 .sh .sh r1 hr1
 refine zc [] (.p (.tup [(.lst .sh (r1.1.map Zz)), (.v (.int .i64 r1.2))])) [[(.p (.lst zh8 (z1p.map Zz)))]] er1<|zq<|zq<|zt [[(.p (.lst .sh (r1.1.map Zz)))]] ?_
 exact zr ((.p (.tup [])), [[(.p (.lst .sh (r1.1.map Zz)))]]) ⟨.sh, _, rfl⟩
theorem Zis (x0 z1p : List Zc) {r} (h : Z88 x0 z1p = some r) : Z6w x0 z1p = some r :=
 Z1a (fun _ _ ha hb => RRun.uniq Zj7 (ha .ex .ex) (hb .ex .ex)) (fun ox0 zh8 => ZhX x0 z1p ox0 zh8 r h)
def Zaz  : Option ((List Zc) × Int) :=
 some (([] : List Zc), 10)
theorem Zf2  : Sim (Z7U) (Zaz) (Zp2 0  []) := by
 unfold Zaz
 refine zf (ZyR ..)<|ze ?_
 exact zr ((.p (.tup [(.lst .sh []), (.v (.int .i64 10))])), []) ⟨_, rfl⟩
def ZaA (x0 x1 : List Zc) : Option ((List Zc) × Int) :=
 (Zb9 ([x0, x1] : List (List Zc))).bind fun r1 =>
 (Zd7 r1).bind fun r2 =>
 some (r2, 0)
theorem Zly (x0 x1 : List Zc) ox0 ox1 : Sim (Z7U) (ZaA x0 x1) (ZsC 0 (.p (.lst ox0 (x0.map Zz))) (.p (.lst ox1 (x1.map Zz))) []) := by
 unfold ZaA
 refine zf (ZyS ..)<|ze<|zq<|zi fun r1 hr1 => ?_
 obtain ⟨qr1, er1, exr1, rfl⟩ := Zjw ([x0, x1] : List (List Zc)) .sh r1 hr1
 refine zc [] (.p (.lst .sh (r1.map Zz))) [] er1<|zi fun r2 hr2 => ?_
 obtain ⟨qr2, er2, exr2, rfl⟩ := Zi8 r1 .sh r2 hr2
 refine zc [] (.p (.lst .sh (r2.map Zz))) [] er2 ?_
 exact zr ((.p (.tup [(.lst .sh (r2.map Zz)), (.v (.int .i64 0))])), []) ⟨_, rfl⟩
def ZcV (x0 x1 : List Zc) : Option ((List Zc) × Int) :=
 (Z6Y x0).bind fun r1 =>
 if (!r1) = true then
 (Zaz)
 else
 ((Z6Y x1).bind fun r2 =>
 if (!r2) = true then
 (Zaz)
 else
 (ZaA x0 x1))
theorem Zoe (x0 x1 : List Zc) ox0 ox1 : Sim (Z7U) (ZcV x0 x1) (EE 152 [(.p (.lst ox0 (x0.map Zz))), (.p (.lst ox1 (x1.map Zz)))] []) := by
 unfold ZcV
 refine zf (ZEF ..)<|ze<|ze<|zi fun r1 hr1 => ?_
 obtain ⟨qr1, er1, exr1, rfl⟩ := Zb1 x0 .sh r1 hr1
 refine zc [] (bv r1) [] er1<|zq ?_
 refine za (!r1) ?_ ?_
 ·exact zk (Zf2 )
 ·refine zi fun r2 hr2 => ?_
  obtain ⟨qr2, er2, exr2, rfl⟩ := Zb1 x1 .sh r2 hr2
  refine zc [] (bv r2) [] er2<|zq ?_
  refine za (!r2) ?_ ?_
  ·exact zk (Zf2 )
  ·exact zk (Zly x0 x1 ox0 ox1)
theorem Zpt (x0 x1 : List Zc) {r} (h : ZcV x0 x1 = some r) : Zd6 x0 x1 = some r :=
 Z1a (fun _ _ ha hb => RRun.uniq Zq1 (ha .ex .ex) (hb .ex .ex)) (fun ox0 ox1 => Zoe x0 x1 ox0 ox1 r h)
def Z5T (zu zb zh : Int) (zj : List Zv) (z2 z6 z1H z2B z2A z1N z29 : Int) (z2a : List Zc) (b2 : Z7) : Option (Z7 × Bool × Int × Int × Int × (List Zv) × Int × Int) :=
 some ((Z7.mk z1H z2B z2A z1N z29 z2a ([b2] : List Z7)), (z1H != 7), zu, zb, zh, zj, z2, z6)
theorem ZgL zn zu zb zh zj z2 z6 z1H z2B z2A z1N z29 z2a z3c b2 zp zd zH zE z2K z2s (zy : ZL zd = true) (z18 : ZL zH = true) (z10 : ZL zE = true) : Sim (Z3j zn zp) (Z5T zu zb zh zj z2 z6 z1H z2B z2A z1N z29 z2a b2) (Zqh 1 (.ptr 1 0) (.ptr 2 0) [(Zk (Zm.mk zn zu zb zh zj (Zl.mk z2 z6)) zp zd), (Zq (Z7.mk z1H z2B z2A z1N z29 z2a z3c) zH zE), (Zq b2 z2K z2s)]) := by
 unfold Z5T
 refine zf (Zxa ..)<|ze<|zq ?_
 refine zo (.p (.lst .ex (([b2] : List Z7).map ZR))) ?_ (Eq.trans (b := some (.p (.lst .ex [.agg (Z2V b2)]))) (by kernel_rfl) (by simp only [List.map_cons, List.map_nil, Z4W]))
 refine zq<|zt [(Zk (Zm.mk zn zu zb zh zj (Zl.mk z2 z6)) zp zd), (Zq (Z7.mk z1H z2B z2A z1N z29 z2a ([b2] : List Z7)) zH .ex), (Zq b2 z2K z2s)]<|ze<|zq<|zq<|zq<|zq<|zt [(Zk (Zm.mk zn zu zb zh zj (Zl.mk z2 z6)) zp zd), (Zq (Z7.mk z1H z2B z2A z1N z29 z2a ([b2] : List Z7)) (shrO zH) .ex), (Zq b2 z2K z2s)] ?_
 exact zr ((.p (.tup [(.agg (ZG (Z7.mk z1H z2B z2A z1N z29 z2a ([b2] : List Z7)) .sh .sh)), (.v (.bool (z1H != 7)))])), [(Zk (Zm.mk zn zu zb zh zj (Zl.mk z2 z6)) zp zd), (Zq (Z7.mk z1H z2B z2A z1N z29 z2a ([b2] : List Z7)) (shrO zH) .ex), (Zq b2 z2K z2s)]) ⟨zd, _, zy, rfl⟩
def Z2X (zu zb zh : Int) (zj : List Zv) (z2 z6 z1H z2B z2A z1N z29 : Int) (z2a : List Zc) (b2 : Z7) : Option (Z7 × Bool × Int × Int × Int × (List Zv) × Int × Int) :=
 if (z1H == 0) = true then
 (some (b2, true, zu, zb, (IntKind.i64.wrap (zh - 1)), zj, z2, z6))
 else
 (Z5T zu zb (IntKind.i64.wrap (zh - 1)) zj z2 z6 z1H z2B z2A z1N z29 z2a b2)
theorem Z7Z zn zu zb zh zj z2 z6 z1H z2B z2A z1N z29 z2a z3c b2 zp zd zH zE z2K z2s (zy : ZL zd = true) (z18 : ZL zH = true) (z10 : ZL zE = true) : Sim (Z3j zn zp) (Z2X zu zb zh zj z2 z6 z1H z2B z2A z1N z29 z2a b2) (Zjf 1 (.ptr 0 0) (.ptr 1 0) (.ptr 2 0) [(Zk (Zm.mk zn zu zb zh zj (Zl.mk z2 z6)) zp zd), (Zq (Z7.mk z1H z2B z2A z1N z29 z2a z3c) zH zE), (Zq b2 z2K z2s)]) := by
 unfold Z2X
 refine zf (Zx9 ..)<|ze<|zq<|zq<|zq<|zq<|zq<|zq<|zt [(Zk (Zm.mk zn zu zb (IntKind.i64.wrap (zh - 1)) zj (Zl.mk z2 z6)) zp zd), (Zq (Z7.mk z1H z2B z2A z1N z29 z2a z3c) zH zE), (Zq b2 z2K z2s)]<|ze<|zq<|zq<|zq ?_
 refine za (z1H == 0) ?_ ?_
 ·refine ze<|zq<|zt [(Zk (Zm.mk zn zu zb (IntKind.i64.wrap (zh - 1)) zj (Zl.mk z2 z6)) zp zd), (Zq b2 (shrO z2K) (shrO z2s)), (Zq b2 z2K z2s)] ?_
  exact zr ((.p (.tup [(.agg (ZG b2 .sh .sh)), (.v (.bool true))])), [(Zk (Zm.mk zn zu zb (IntKind.i64.wrap (zh - 1)) zj (Zl.mk z2 z6)) zp zd), (Zq b2 (shrO z2K) (shrO z2s)), (Zq b2 z2K z2s)]) ⟨zd, _, zy, rfl⟩
 ·exact zk (ZgL zn zu zb (IntKind.i64.wrap (zh - 1)) zj z2 z6 z1H z2B z2A z1N z29 z2a z3c b2 zp zd zH zE z2K z2s zy z18 z10)
def Z7o (x1 : Int) (zn : List Int) (zb zh : Int) (zj : List Zv) (z2 z6 z1H z2B z2A z1N z29 : Int) (z2a : List Zc) (b2 : Z7) : Option (Z7 × Bool × Int × Int × Int × (List Zv) × Int × Int) :=
 (Z1g 20 x1 zn z2 z6).bind fun r1 =>
 Z2X r1.1 zb zh zj r1.2.1 r1.2.2 z1H z2B z2A z1N z29 z2a b2
theorem ZgK x1 zn zu zb zh zj z2 z6 z1H z2B z2A z1N z29 z2a z3c b2 zp zd zH zE z2K z2s (zy : ZL zd = true) (z18 : ZL zH = true) (z10 : ZL zE = true) : Sim (Z3j zn zp) (Z7o x1 zn zb zh zj z2 z6 z1H z2B z2A z1N z29 z2a b2) (Zqg 1 (.ptr 0 0) (iv x1) (.ptr 1 0) (.ptr 2 0) [(Zk (Zm.mk zn zu zb zh zj (Zl.mk z2 z6)) zp zd), (Zq (Z7.mk z1H z2B z2A z1N z29 z2a z3c) zH zE), (Zq b2 z2K z2s)]) := by
 unfold Z7o
 refine zf (Zx8 ..)<|ze<|zi fun r1 hr1 => ?_
 obtain ⟨qr1, er1, exr1, rfl⟩ := Z1j 20 x1 zn zu zb zh zj z2 z6 zp zd zy r1 hr1
 refine zc [0] (.p (.tup [])) [(Zk (Zm.mk zn r1.1 zb zh zj (Zl.mk r1.2.1 r1.2.2)) zp zd), (Zq (Z7.mk z1H z2B z2A z1N z29 z2a z3c) zH zE), (Zq b2 z2K z2s)] er1 ?_
 exact zk (Z7Z zn r1.1 zb zh zj r1.2.1 r1.2.2 z1H z2B z2A z1N z29 z2a z3c b2 zp zd zH zE z2K z2s zy z18 z10)
def Z2q (x1 : Int) (zn : List Int) (zu zb zh : Int) (zj : List Zv) (z2 z6 z1H z2B z2A z1N z29 : Int) (z2a : List Zc) : Option (Z7 × Bool × Int × Int × Int × (List Zv) × Int × Int) :=
 (Z4l zn zu zb zh zj z2 z6).bind fun r1 =>
 if (r1.2.2.2.2.2.1 == 0) = true then
 ((Z1G (ByteArray.mk #[41]) zn r1.2.1).bind fun r2 =>
 if (!r2.1) = true then
 (Z7o x1 zn r1.2.2.1 r1.2.2.2.1 r1.2.2.2.2.1 r1.2.2.2.2.2.1 r1.2.2.2.2.2.2 z1H z2B z2A z1N z29 z2a r1.1)
 else
 (Z2X r2.2 r1.2.2.1 r1.2.2.2.1 r1.2.2.2.2.1 r1.2.2.2.2.2.1 r1.2.2.2.2.2.2 z1H z2B z2A z1N z29 z2a r1.1))
 else
 (Z2X r1.2.1 r1.2.2.1 r1.2.2.2.1 r1.2.2.2.2.1 r1.2.2.2.2.2.1 r1.2.2.2.2.2.2 z1H z2B z2A z1N z29 z2a r1.1)
theorem Z3P x1 zn zu zb zh zj z2 z6 z1H z2B z2A z1N z29 z2a z3c zp zd zH zE (zy : ZL zd = true) (z18 : ZL zH = true) (z10 : ZL zE = true) : Sim (Z3j zn zp) (Z2q x1 zn zu zb zh zj z2 z6 z1H z2B z2A z1N z29 z2a) (Zcj 1 (.ptr 0 0) (iv x1) (.ptr 1 0) [(Zk (Zm.mk zn zu zb zh zj (Zl.mk z2 z6)) zp zd), (Zq (Z7.mk z1H z2B z2A z1N z29 z2a z3c) zH zE)]) := by
 unfold Z2q
 refine zf (Zx7 ..)<|ze<|zi fun r1 hr1 => ?_
 obtain ⟨qr1, er1, or1_0_4, exr1, hor1_0_4, rfl⟩ := Zf7 zn zu zb zh zj z2 z6 zp zd zy r1 hr1
 refine zc [0] (.p (.agg (ZG r1.1 .sh .sh))) [(Zk (Zm.mk zn r1.2.1 r1.2.2.1 r1.2.2.2.1 r1.2.2.2.2.1 (Zl.mk r1.2.2.2.2.2.1 r1.2.2.2.2.2.2)) zp or1_0_4), (Zq (Z7.mk z1H z2B z2A z1N z29 z2a z3c) zH zE)] er1<|zz (.ptr 2 0) [(Zk (Zm.mk zn r1.2.1 r1.2.2.1 r1.2.2.2.1 r1.2.2.2.2.1 (Zl.mk r1.2.2.2.2.2.1 r1.2.2.2.2.2.2)) zp or1_0_4), (Zq (Z7.mk z1H z2B z2A z1N z29 z2a z3c) zH zE), (Zq (Z7.mk 0 0 0 0 0 ([] : List Zc) ([] : List Z7)) .nl .nl)]<|zt [(Zk (Zm.mk zn r1.2.1 r1.2.2.1 r1.2.2.2.1 r1.2.2.2.2.1 (Zl.mk r1.2.2.2.2.2.1 r1.2.2.2.2.2.2)) zp or1_0_4), (Zq (Z7.mk z1H z2B z2A z1N z29 z2a z3c) zH zE), (Zq r1.1 .sh .sh)]<|ze<|zq<|zq<|zq<|zq<|zq ?_
 refine za (r1.2.2.2.2.2.1 == 0) ?_ ?_
 ·refine zi fun r2 hr2 => ?_
  obtain ⟨qr2, er2, exr2, rfl⟩ := Z1P (ByteArray.mk #[41]) zn r1.2.1 r1.2.2.1 r1.2.2.2.1 r1.2.2.2.2.1 r1.2.2.2.2.2.1 r1.2.2.2.2.2.2 zp or1_0_4 hor1_0_4 r2 hr2
  refine zc [0] (bv r2.1) [(Zk (Zm.mk zn r2.2 r1.2.2.1 r1.2.2.2.1 r1.2.2.2.2.1 (Zl.mk r1.2.2.2.2.2.1 r1.2.2.2.2.2.2)) zp or1_0_4), (Zq (Z7.mk z1H z2B z2A z1N z29 z2a z3c) zH zE), (Zq r1.1 .sh .sh)] er2<|zq ?_
  refine za (!r2.1) ?_ ?_
  ·exact zk (ZgK x1 zn r2.2 r1.2.2.1 r1.2.2.2.1 r1.2.2.2.2.1 r1.2.2.2.2.2.1 r1.2.2.2.2.2.2 z1H z2B z2A z1N z29 z2a z3c r1.1 zp or1_0_4 zH zE .sh .sh hor1_0_4 z18 z10)
  ·exact zk (Z7Z zn r2.2 r1.2.2.1 r1.2.2.2.1 r1.2.2.2.2.1 r1.2.2.2.2.2.1 r1.2.2.2.2.2.2 z1H z2B z2A z1N z29 z2a z3c r1.1 zp or1_0_4 zH zE .sh .sh hor1_0_4 z18 z10)
 ·exact zk (Z7Z zn r1.2.1 r1.2.2.1 r1.2.2.2.1 r1.2.2.2.2.1 r1.2.2.2.2.2.1 r1.2.2.2.2.2.2 z1H z2B z2A z1N z29 z2a z3c r1.1 zp or1_0_4 zH zE .sh .sh hor1_0_4 z18 z10)
def Z6e (x1 : Int) (zn : List Int) (zu zb zh : Int) (zj : List Zv) (z2 z6 z1H z2B z2A z1N z29 : Int) (z2a : List Zc) : Option (Z7 × Bool × Int × Int × Int × (List Zv) × Int × Int) :=
 (Zex).bind fun r1 =>
 (Z5L r1 zn zu).bind fun r2 =>
 if (decide (0 ≤ r2.1)) = true then
 (Z2q x1 zn r2.2 zb (IntKind.i64.wrap (zh + 1)) zj z2 z6 7 0 0 r2.1 0 ([] : List Zc))
 else
 ((Z1G (ByteArray.mk #[63, 62]) zn r2.2).bind fun r3 =>
 if (r3.1) = true then
 (Z2q x1 zn r3.2 zb (IntKind.i64.wrap (zh + 1)) zj z2 z6 8 0 0 0 0 ([] : List Zc))
 else
 ((Z1G (ByteArray.mk #[63, 58]) zn r3.2).bind fun r4 =>
 if (r4.1) = true then
 (Z2q x1 zn r4.2 zb (IntKind.i64.wrap (zh + 1)) zj z2 z6 z1H z2B z2A z1N z29 z2a)
 else
 ((Z2C (Zm.mk zn r4.2 zb (IntKind.i64.wrap (zh + 1)) zj (Zl.mk z2 z6))).bind fun r5 =>
 if (r5 == 63) = true then
 ((Z1g 20 x1 zn z2 z6).bind fun r6 =>
 Z2q x1 zn r6.1 zb (IntKind.i64.wrap (zh + 1)) zj r6.2.1 r6.2.2 z1H z2B z2A z1N z29 z2a)
 else
 (if (zb == 9) = true then
 ((Z1g 24 x1 zn z2 z6).bind fun r7 =>
 Z2q x1 zn r7.1 zb (IntKind.i64.wrap (zh + 1)) zj r7.2.1 r7.2.2 z1H z2B z2A z1N z29 z2a)
 else
 (Z2q x1 zn r4.2 (IntKind.i64.wrap (zb + 1)) (IntKind.i64.wrap (zh + 1)) zj z2 z6 5 0 0 0 (IntKind.i64.wrap (zb + 1)) ([] : List Zc))))))
theorem Zhs x1 zn zu zb zh zj z2 z6 z1H z2B z2A z1N z29 z2a z3c zp zd zH zE (zy : ZL zd = true) (z18 : ZL zH = true) (z10 : ZL zE = true) : Sim (Z3j zn zp) (Z6e x1 zn zu zb zh zj z2 z6 z1H z2B z2A z1N z29 z2a) (Zst 1 (.ptr 0 0) (iv x1) (.ptr 1 0) [(Zk (Zm.mk zn zu zb zh zj (Zl.mk z2 z6)) zp zd), (Zq (Z7.mk z1H z2B z2A z1N z29 z2a z3c) zH zE)]) := by
 unfold Z6e
 refine zf (ZyJ ..)<|ze<|zq<|zq<|zq<|zq<|zq<|zq<|zt [(Zk (Zm.mk zn zu zb (IntKind.i64.wrap (zh + 1)) zj (Zl.mk z2 z6)) zp zd), (Zq (Z7.mk z1H z2B z2A z1N z29 z2a z3c) zH zE)]<|ze<|zi fun r1 hr1 => ?_
 obtain ⟨qr1, er1, exr1, rfl⟩ := Zqs  r1 hr1
 refine zc [] (.p (.lst .sh (r1.map eS))) [(Zk (Zm.mk zn zu zb (IntKind.i64.wrap (zh + 1)) zj (Zl.mk z2 z6)) zp zd), (Zq (Z7.mk z1H z2B z2A z1N z29 z2a z3c) zH zE)] er1<|zi fun r2 hr2 => ?_
 obtain ⟨qr2, er2, exr2, rfl⟩ := ZeS r1 zn zu zb (IntKind.i64.wrap (zh + 1)) zj z2 z6 .sh zp zd zy r2 hr2
 refine zc [0] (iv r2.1) [(Zk (Zm.mk zn r2.2 zb (IntKind.i64.wrap (zh + 1)) zj (Zl.mk z2 z6)) zp zd), (Zq (Z7.mk z1H z2B z2A z1N z29 z2a z3c) zH zE)] er2<|ze<|zq ?_
 refine za (decide (0 ≤ r2.1)) ?_ ?_
 ·refine ze<|zq<|zt [(Zk (Zm.mk zn r2.2 zb (IntKind.i64.wrap (zh + 1)) zj (Zl.mk z2 z6)) zp zd), (Zq (Z7.mk 7 0 0 r2.1 0 ([] : List Zc) ([] : List Z7)) .nl .nl)] ?_
  exact zk (Z3P x1 zn r2.2 zb (IntKind.i64.wrap (zh + 1)) zj z2 z6 7 0 0 r2.1 0 ([] : List Zc) ([] : List Z7) zp zd .nl .nl zy rfl rfl)
 ·refine ze<|zi fun r3 hr3 => ?_
  obtain ⟨qr3, er3, exr3, rfl⟩ := Z1P (ByteArray.mk #[63, 62]) zn r2.2 zb (IntKind.i64.wrap (zh + 1)) zj z2 z6 zp zd zy r3 hr3
  refine zc [0] (bv r3.1) [(Zk (Zm.mk zn r3.2 zb (IntKind.i64.wrap (zh + 1)) zj (Zl.mk z2 z6)) zp zd), (Zq (Z7.mk z1H z2B z2A z1N z29 z2a z3c) zH zE)] er3 ?_
  refine za r3.1 ?_ ?_
  ·refine ze<|zq<|zt [(Zk (Zm.mk zn r3.2 zb (IntKind.i64.wrap (zh + 1)) zj (Zl.mk z2 z6)) zp zd), (Zq (Z7.mk 8 0 0 0 0 ([] : List Zc) ([] : List Z7)) .nl .nl)] ?_
   exact zk (Z3P x1 zn r3.2 zb (IntKind.i64.wrap (zh + 1)) zj z2 z6 8 0 0 0 0 ([] : List Zc) ([] : List Z7) zp zd .nl .nl zy rfl rfl)
  ·refine ze<|zi fun r4 hr4 => ?_
   obtain ⟨qr4, er4, exr4, rfl⟩ := Z1P (ByteArray.mk #[63, 58]) zn r3.2 zb (IntKind.i64.wrap (zh + 1)) zj z2 z6 zp zd zy r4 hr4
   refine zc [0] (bv r4.1) [(Zk (Zm.mk zn r4.2 zb (IntKind.i64.wrap (zh + 1)) zj (Zl.mk z2 z6)) zp zd), (Zq (Z7.mk z1H z2B z2A z1N z29 z2a z3c) zH zE)] er4 ?_
   refine za r4.1 ?_ ?_
   ·exact zk (Z3P x1 zn r4.2 zb (IntKind.i64.wrap (zh + 1)) zj z2 z6 z1H z2B z2A z1N z29 z2a z3c zp zd zH zE zy z18 z10)
   ·refine ze<|zi fun r5 hr5 => ?_
    obtain ⟨qr5, er5, exr5, rfl⟩ := Z2L (Zm.mk zn r4.2 zb (IntKind.i64.wrap (zh + 1)) zj (Zl.mk z2 z6)) zp zd zy r5 hr5
    refine zc [0] (iv r5) [(Zk (Zm.mk zn r4.2 zb (IntKind.i64.wrap (zh + 1)) zj (Zl.mk z2 z6)) zp zd), (Zq (Z7.mk z1H z2B z2A z1N z29 z2a z3c) zH zE)] er5<|zq ?_
    refine za (r5 == 63) ?_ ?_
    ·refine ze<|zi fun r6 hr6 => ?_
     obtain ⟨qr6, er6, exr6, rfl⟩ := Z1j 20 x1 zn r4.2 zb (IntKind.i64.wrap (zh + 1)) zj z2 z6 zp zd zy r6 hr6
     refine zc [0] (.p (.tup [])) [(Zk (Zm.mk zn r6.1 zb (IntKind.i64.wrap (zh + 1)) zj (Zl.mk r6.2.1 r6.2.2)) zp zd), (Zq (Z7.mk z1H z2B z2A z1N z29 z2a z3c) zH zE)] er6 ?_
     exact zk (Z3P x1 zn r6.1 zb (IntKind.i64.wrap (zh + 1)) zj r6.2.1 r6.2.2 z1H z2B z2A z1N z29 z2a z3c zp zd zH zE zy z18 z10)
    ·refine ze<|zq<|zq<|zq<|zq ?_
     refine za (zb == 9) ?_ ?_
     ·refine ze<|zi fun r7 hr7 => ?_
      obtain ⟨qr7, er7, exr7, rfl⟩ := Z1j 24 x1 zn r4.2 zb (IntKind.i64.wrap (zh + 1)) zj z2 z6 zp zd zy r7 hr7
      refine zc [0] (.p (.tup [])) [(Zk (Zm.mk zn r7.1 zb (IntKind.i64.wrap (zh + 1)) zj (Zl.mk r7.2.1 r7.2.2)) zp zd), (Zq (Z7.mk z1H z2B z2A z1N z29 z2a z3c) zH zE)] er7 ?_
      exact zk (Z3P x1 zn r7.1 zb (IntKind.i64.wrap (zh + 1)) zj r7.2.1 r7.2.2 z1H z2B z2A z1N z29 z2a z3c zp zd zH zE zy z18 z10)
     ·refine ze<|zq<|zq<|zq<|zq<|zq<|zq<|zt [(Zk (Zm.mk zn r4.2 (IntKind.i64.wrap (zb + 1)) (IntKind.i64.wrap (zh + 1)) zj (Zl.mk z2 z6)) zp zd), (Zq (Z7.mk z1H z2B z2A z1N z29 z2a z3c) zH zE)]<|ze<|zq<|zq<|zq<|zq<|zt [(Zk (Zm.mk zn r4.2 (IntKind.i64.wrap (zb + 1)) (IntKind.i64.wrap (zh + 1)) zj (Zl.mk z2 z6)) zp zd), (Zq (Z7.mk 5 0 0 0 (IntKind.i64.wrap (zb + 1)) ([] : List Zc) ([] : List Z7)) .nl .nl)] ?_
      exact zk (Z3P x1 zn r4.2 (IntKind.i64.wrap (zb + 1)) (IntKind.i64.wrap (zh + 1)) zj z2 z6 5 0 0 0 (IntKind.i64.wrap (zb + 1)) ([] : List Zc) ([] : List Z7) zp zd .nl .nl zy rfl rfl)
def Z61 (x1 : Int) (zn : List Int) (zu zb zh : Int) (zj : List Zv) (z2 z6 : Int) : Option (Z7 × Bool × Int × Int × Int × (List Zv) × Int × Int) :=
 if (zh == 32) = true then
 ((Z1g 25 x1 zn z2 z6).bind fun r1 =>
 some ((Z7.mk 0 0 0 0 0 ([] : List Zc) ([] : List Z7)), true, r1.1, zb, zh, zj, r1.2.1, r1.2.2))
 else
 (Z6e x1 zn zu zb zh zj z2 z6 0 0 0 0 0 ([] : List Zc))
theorem Zjq x1 zn zu zb zh zj z2 z6 zp zd (zy : ZL zd = true) : Sim (Z3j zn zp) (Z61 x1 zn zu zb zh zj z2 z6) (EE 132 [(.ptr 0 0), (iv x1)] [(Zk (Zm.mk zn zu zb zh zj (Zl.mk z2 z6)) zp zd)]) := by
 unfold Z61
 refine zf (ZEo ..)<|ze<|zz (.ptr 1 0) [(Zk (Zm.mk zn zu zb zh zj (Zl.mk z2 z6)) zp zd), (Zq (Z7.mk 0 0 0 0 0 ([] : List Zc) ([] : List Z7)) .nl .nl)]<|ze<|zq<|zq<|zq<|zq ?_
 refine za (zh == 32) ?_ ?_
 ·refine ze<|zi fun r1 hr1 => ?_
  obtain ⟨qr1, er1, exr1, rfl⟩ := Z1j 25 x1 zn zu zb zh zj z2 z6 zp zd zy r1 hr1
  refine zc [0] (.p (.tup [])) [(Zk (Zm.mk zn r1.1 zb zh zj (Zl.mk r1.2.1 r1.2.2)) zp zd), (Zq (Z7.mk 0 0 0 0 0 ([] : List Zc) ([] : List Z7)) .nl .nl)] er1<|ze<|zq<|zt [(Zk (Zm.mk zn r1.1 zb zh zj (Zl.mk r1.2.1 r1.2.2)) zp zd), (Zq (Z7.mk 0 0 0 0 0 ([] : List Zc) ([] : List Z7)) .nl .nl)] ?_
  exact zr ((.p (.tup [(.agg (ZG (Z7.mk 0 0 0 0 0 ([] : List Zc) ([] : List Z7)) .sh .sh)), (.v (.bool true))])), [(Zk (Zm.mk zn r1.1 zb zh zj (Zl.mk r1.2.1 r1.2.2)) zp zd), (Zq (Z7.mk 0 0 0 0 0 ([] : List Zc) ([] : List Z7)) .nl .nl)]) ⟨zd, _, zy, rfl⟩
 ·exact zk (Zhs x1 zn zu zb zh zj z2 z6 0 0 0 0 0 ([] : List Zc) ([] : List Z7) zp zd .nl .nl zy rfl rfl)
theorem Z9V (x1 : Int) (zn : List Int) (zu zb zh : Int) (zj : List Zv) (z2 z6 : Int) {r} (h : Z61 x1 zn zu zb zh zj z2 z6 = some r) : Z4X x1 zn zu zb zh zj z2 z6 = some r :=
 Z1a (fun _ _ ha hb => RRun.uniq (Zkv _ _) (ha .ex .ex rfl) (hb .ex .ex rfl)) (fun zp zd zy => Zjq x1 zn zu zb zh zj z2 z6 zp zd zy r h)
def ZhU  : Option (List ByteArray) :=
 some ([(ByteArray.mk #[63, 61]), (ByteArray.mk #[63, 33]), (ByteArray.mk #[63, 60, 61]), (ByteArray.mk #[63, 60, 33])] : List ByteArray)
theorem Zpx  : Sim (ZbK) (ZhU) (EE 155 [] []) := by
 unfold ZhU
 refine zf (ZEK ..)<|ze<|ze<|zq ?_
 exact zr ((.p (.lst .sh (([(ByteArray.mk #[63, 61]), (ByteArray.mk #[63, 33]), (ByteArray.mk #[63, 60, 61]), (ByteArray.mk #[63, 60, 33])] : List ByteArray).map eS))), []) ⟨_, rfl⟩
theorem Zqr  {r} (h : ZhU = some r) : Zex = some r :=
 Z1a (fun _ _ ha hb => RRun.uniq ZqY (ha ) (hb )) (Zpx  r h)
def Z5H (x0 : List ByteArray) (zn : List Int) (zu : Int) : Option (Int × Int) :=
 Z2n x0 (x0.length : Int) 0 zn zu
theorem Zem (x0 : List ByteArray) zn zu zb zh zj z2 z6 ox0 zp zd (zy : ZL zd = true) : Sim (Z24 zn zb zh zj z2 z6 zp zd) (Z5H x0 zn zu) (EE 154 [(.p (.lst ox0 (x0.map eS))), (.clo 68 [(.ptr 0 0)] [])] [(Zk (Zm.mk zn zu zb zh zj (Zl.mk z2 z6)) zp zd)]) := by
 unfold Z5H
 refine zf (ZEI ..)<|ze<|ze ?_
 refine zo (iv (x0.length : Int)) ?_ (Eq.trans (by kernel_rfl) (Z38 (P := PP) (t := 226) (d := 9) (by kernel_rfl) eS (shrO ox0) x0))
 exact zk (Z8E x0 (x0.length : Int) 0 zn zu zb zh zj z2 z6 ox0 zp zd zy)
theorem ZeR (x0 : List ByteArray) (zn : List Int) (zu : Int) {r} (h : Z5H x0 zn zu = some r) : Z5L x0 zn zu = some r :=
 Z1a (fun _ _ ha hb => RRun.uniq (Z9T _ _ _ _ _ _ _ _) (ha default default default default default .ex .ex .ex rfl) (hb default default default default default .ex .ex .ex rfl)) (fun zb zh zj z2 z6 ox0 zp zd zy => Zem x0 zn zu zb zh zj z2 z6 ox0 zp zd zy r h)
def Z4V (x0 : List ByteArray) (x7 x8 : Int) (zn : List Int) (zu : Int) : Option (Int × Int) :=
 Z2n x0 x7 (IntKind.i64.wrap (x8 + 1)) zn zu
theorem ZcG (x0 : List ByteArray) x7 x8 zn zu zb zh zj z2 z6 ox0 zp zd (zy : ZL zd = true) : Sim (Z24 zn zb zh zj z2 z6 zp zd) (Z4V x0 x7 x8 zn zu) (ZsJ 1 (.p (.lst ox0 (x0.map eS))) (.clo 68 [(.ptr 0 0)] []) (iv x7) (iv x8) [(Zk (Zm.mk zn zu zb zh zj (Zl.mk z2 z6)) zp zd)]) := by
 unfold Z4V
 refine zf (ZyX ..)<|ze<|zq ?_
 exact zk (Z8E x0 x7 (IntKind.i64.wrap (x8 + 1)) zn zu zb zh zj z2 z6 ox0 zp zd zy)
def Z3S (x0 : List ByteArray) (x7 x8 : Int) (zn : List Int) (zu : Int) : Option (Int × Int) :=
 (lget x0 x8).bind fun a1 =>
 (Z1G a1 zn zu).bind fun r2 =>
 if (r2.1) = true then
 (some (x8, r2.2))
 else
 (Z4V x0 x7 x8 zn r2.2)
theorem ZcF (x0 : List ByteArray) x7 x8 zn zu zb zh zj z2 z6 ox0 zp zd (zy : ZL zd = true) : Sim (Z24 zn zb zh zj z2 z6 zp zd) (Z3S x0 x7 x8 zn zu) (ZsI 1 (.p (.lst ox0 (x0.map eS))) (.clo 68 [(.ptr 0 0)] []) (iv x7) (iv x8) [(Zk (Zm.mk zn zu zb zh zj (Zl.mk z2 z6)) zp zd)]) := by
 unfold Z3S
 refine zf (ZyW ..)<|ze<|ze<|zi fun a1 ha1 => ?_
 refine zo (.cptr [(.v (.string a1))]) ?_ (Eq.trans (by kernel_rfl) (Z3Z (o := (shrO ox0)) (k := .i64) (n := 1) (e := eS) (cs := (fun a => [eS a])) (fun _ => rfl) (fun _ => rfl) (by decide) ha1))
 refine zq<|zi fun r2 hr2 => ?_
 obtain ⟨qr2, er2, exr2, rfl⟩ := Z1P a1 zn zu zb zh zj z2 z6 zp zd zy r2 hr2
 refine zv [0] (bv r2.1) [(Zk (Zm.mk zn r2.2 zb zh zj (Zl.mk z2 z6)) zp zd)] er2 ?_
 refine za r2.1 ?_ ?_
 ·refine ze ?_
  exact zr ((iv x8), [(Zk (Zm.mk zn r2.2 zb zh zj (Zl.mk z2 z6)) zp zd)]) ⟨_, rfl⟩
 ·exact zk (ZcG x0 x7 x8 zn r2.2 zb zh zj z2 z6 ox0 zp zd zy)
def Z6J (zu : Int) : Option (Int × Int) :=
 some ((-1), zu)
theorem ZcH zn zu zb zh zj z2 z6 zp zd (zy : ZL zd = true) : Sim (Z24 zn zb zh zj z2 z6 zp zd) (Z6J zu) (ZsK 1  [(Zk (Zm.mk zn zu zb zh zj (Zl.mk z2 z6)) zp zd)]) := by
 unfold Z6J
 refine zf (ZyY ..)<|ze ?_
 exact zr ((iv (-1)), [(Zk (Zm.mk zn zu zb zh zj (Zl.mk z2 z6)) zp zd)]) ⟨_, rfl⟩
def Z3h (x0 : List ByteArray) (x7 x8 : Int) (zn : List Int) (zu : Int) : Option (Int × Int) :=
 if (decide (x8 < x7)) = true then
 (Z3S x0 x7 x8 zn zu)
 else
 (Z6J zu)
theorem ZcE (x0 : List ByteArray) x7 x8 zn zu zb zh zj z2 z6 ox0 zp zd (zy : ZL zd = true) : Sim (Z24 zn zb zh zj z2 z6 zp zd) (Z3h x0 x7 x8 zn zu) (ZiP 1 (.p (.lst ox0 (x0.map eS))) (.clo 68 [(.ptr 0 0)] []) (iv x7) (iv x8) [(Zk (Zm.mk zn zu zb zh zj (Zl.mk z2 z6)) zp zd)]) := by
 unfold Z3h
 refine zf (ZyV ..)<|ze<|zq ?_
 refine za (decide (x8 < x7)) ?_ ?_
 ·exact zk (ZcF x0 x7 x8 zn zu zb zh zj z2 z6 ox0 zp zd zy)
 ·exact zk (ZcH zn zu zb zh zj z2 z6 zp zd zy)
theorem Z6a (x0 : List ByteArray) (x7 x8 : Int) (zn : List Int) (zu : Int) {r} (h : Z3h x0 x7 x8 zn zu = some r) : Z2n x0 x7 x8 zn zu = some r :=
 Z1a (fun _ _ ha hb => RRun.uniq (Z9T _ _ _ _ _ _ _ _) (ha default default default default default .ex .ex .ex rfl) (hb default default default default default .ex .ex .ex rfl)) (fun zb zh zj z2 z6 ox0 zp zd zy => ZcE x0 x7 x8 zn zu zb zh zj z2 z6 ox0 zp zd zy r h)
def Z4s (zu z2 z6 z37 z4z z4y z3O z3A : Int) (z3B : List Zc) (z34 : List Z7) : Option (Z7 × Int × Int × Int) :=
 some ((Z7.mk z37 z4z z4y z3O z3A z3B z34), zu, z2, z6)
theorem Z7F zn zu zb zh zj z2 z6 b1 b2 z37 z4z z4y z3O z3A z3B z34 zp zd zH zE z2K z2s z4M z3U (zy : ZL zd = true) (zeT : ZL z2K = true) (zcJ : ZL z2s = true) (zeU : ZL z4M = true) (zcK : ZL z3U = true) : Sim (Z3Y zn zb zh zj zp zd) (Z4s zu z2 z6 z37 z4z z4y z3O z3A z3B z34) (Zjd 1 (.ptr 2 0) (.ptr 3 0) [(Zk (Zm.mk zn zu zb zh zj (Zl.mk z2 z6)) zp zd), (Zq b1 zH zE), (Zq b2 z2K z2s), (Zq (Z7.mk z37 z4z z4y z3O z3A z3B z34) z4M z3U)]) := by
 unfold Z4s
 refine zf (ZwV ..)<|ze<|zq<|zt [(Zk (Zm.mk zn zu zb zh zj (Zl.mk z2 z6)) zp zd), (Zq b1 zH zE), (Zq (Z7.mk z37 z4z z4y z3O z3A z3B z34) (shrO z4M) (shrO z3U)), (Zq (Z7.mk z37 z4z z4y z3O z3A z3B z34) z4M z3U)] ?_
 exact zr ((.p (.agg (ZG (Z7.mk z37 z4z z4y z3O z3A z3B z34) .sh .sh))), [(Zk (Zm.mk zn zu zb zh zj (Zl.mk z2 z6)) zp zd), (Zq b1 zH zE), (Zq (Z7.mk z37 z4z z4y z3O z3A z3B z34) (shrO z4M) (shrO z3U)), (Zq (Z7.mk z37 z4z z4y z3O z3A z3B z34) z4M z3U)]) ⟨_, rfl⟩
def Z3F (zn : List Int) (zu z2 z6 z37 z4z z4y z3O z3A : Int) (z3B : List Zc) (z34 : List Z7) : Option (Z7 × Int × Int × Int) :=
 (Z1G (ByteArray.mk #[63]) zn zu).bind fun r1 =>
 if (r1.1) = true then
 (Z4s r1.2 z2 z6 z37 z4z z4y 1 z3A z3B z34)
 else
 ((Z1G (ByteArray.mk #[43]) zn r1.2).bind fun r2 =>
 if (r2.1) = true then
 (Z4s r2.2 z2 z6 z37 z4z z4y 2 z3A z3B z34)
 else
 (Z4s r2.2 z2 z6 z37 z4z z4y z3O z3A z3B z34))
theorem Zax zn zu zb zh zj z2 z6 b1 b2 z37 z4z z4y z3O z3A z3B z34 zp zd zH zE z2K z2s z4M z3U (zy : ZL zd = true) (zeT : ZL z2K = true) (zcJ : ZL z2s = true) (zeU : ZL z4M = true) (zcK : ZL z3U = true) : Sim (Z3Y zn zb zh zj zp zd) (Z3F zn zu z2 z6 z37 z4z z4y z3O z3A z3B z34) (Zmm 1 (.ptr 0 0) (.ptr 2 0) (.ptr 3 0) [(Zk (Zm.mk zn zu zb zh zj (Zl.mk z2 z6)) zp zd), (Zq b1 zH zE), (Zq b2 z2K z2s), (Zq (Z7.mk z37 z4z z4y z3O z3A z3B z34) z4M z3U)]) := by
 unfold Z3F
 refine zf (ZwU ..)<|ze<|zi fun r1 hr1 => ?_
 obtain ⟨qr1, er1, exr1, rfl⟩ := Z1P (ByteArray.mk #[63]) zn zu zb zh zj z2 z6 zp zd zy r1 hr1
 refine zc [0] (bv r1.1) [(Zk (Zm.mk zn r1.2 zb zh zj (Zl.mk z2 z6)) zp zd), (Zq b1 zH zE), (Zq b2 z2K z2s), (Zq (Z7.mk z37 z4z z4y z3O z3A z3B z34) z4M z3U)] er1 ?_
 refine za r1.1 ?_ ?_
 ·refine ze<|zq<|zt [(Zk (Zm.mk zn r1.2 zb zh zj (Zl.mk z2 z6)) zp zd), (Zq b1 zH zE), (Zq b2 z2K z2s), (Zq (Z7.mk z37 z4z z4y 1 z3A z3B z34) z4M z3U)] ?_
  exact zk (Z7F zn r1.2 zb zh zj z2 z6 b1 b2 z37 z4z z4y 1 z3A z3B z34 zp zd zH zE z2K z2s z4M z3U zy zeT zcJ zeU zcK)
 ·refine ze<|zi fun r2 hr2 => ?_
  obtain ⟨qr2, er2, exr2, rfl⟩ := Z1P (ByteArray.mk #[43]) zn r1.2 zb zh zj z2 z6 zp zd zy r2 hr2
  refine zc [0] (bv r2.1) [(Zk (Zm.mk zn r2.2 zb zh zj (Zl.mk z2 z6)) zp zd), (Zq b1 zH zE), (Zq b2 z2K z2s), (Zq (Z7.mk z37 z4z z4y z3O z3A z3B z34) z4M z3U)] er2 ?_
  refine za r2.1 ?_ ?_
  ·refine ze<|zq<|zt [(Zk (Zm.mk zn r2.2 zb zh zj (Zl.mk z2 z6)) zp zd), (Zq b1 zH zE), (Zq b2 z2K z2s), (Zq (Z7.mk z37 z4z z4y 2 z3A z3B z34) z4M z3U)] ?_
   exact zk (Z7F zn r2.2 zb zh zj z2 z6 b1 b2 z37 z4z z4y 2 z3A z3B z34 zp zd zH zE z2K z2s z4M z3U zy zeT zcJ zeU zcK)
  ·exact zk (Z7F zn r2.2 zb zh zj z2 z6 b1 b2 z37 z4z z4y z3O z3A z3B z34 zp zd zH zE z2K z2s z4M z3U zy zeT zcJ zeU zcK)
def Z2T (x2 : Bool) (x7 : Int) (zn : List Int) (zu z2 z6 z37 z4z z4y z3O z3A : Int) (z3B : List Zc) (z34 : List Z7) : Option (Z7 × Int × Int × Int) :=
 if (!x2) = true then
 ((Z1g 23 x7 zn z2 z6).bind fun r1 =>
 Z3F zn r1.1 r1.2.1 r1.2.2 z37 z4z z4y z3O z3A z3B z34)
 else
 (Z3F zn zu z2 z6 z37 z4z z4y z3O z3A z3B z34)
theorem Z5J x2 x7 zn zu zb zh zj z2 z6 b1 b2 z37 z4z z4y z3O z3A z3B z34 zp zd zH zE z2K z2s z4M z3U (zy : ZL zd = true) (zeT : ZL z2K = true) (zcJ : ZL z2s = true) (zeU : ZL z4M = true) (zcK : ZL z3U = true) : Sim (Z3Y zn zb zh zj zp zd) (Z2T x2 x7 zn zu z2 z6 z37 z4z z4y z3O z3A z3B z34) (Zgn 1 (.ptr 0 0) (bv x2) (.ptr 2 0) (iv x7) (.ptr 3 0) [(Zk (Zm.mk zn zu zb zh zj (Zl.mk z2 z6)) zp zd), (Zq b1 zH zE), (Zq b2 z2K z2s), (Zq (Z7.mk z37 z4z z4y z3O z3A z3B z34) z4M z3U)]) := by
 unfold Z2T
 refine zf (ZwT ..)<|ze<|zq ?_
 refine za (!x2) ?_ ?_
 ·refine ze<|zi fun r1 hr1 => ?_
  obtain ⟨qr1, er1, exr1, rfl⟩ := Z1j 23 x7 zn zu zb zh zj z2 z6 zp zd zy r1 hr1
  refine zc [0] (.p (.tup [])) [(Zk (Zm.mk zn r1.1 zb zh zj (Zl.mk r1.2.1 r1.2.2)) zp zd), (Zq b1 zH zE), (Zq b2 z2K z2s), (Zq (Z7.mk z37 z4z z4y z3O z3A z3B z34) z4M z3U)] er1 ?_
  exact zk (Zax zn r1.1 zb zh zj r1.2.1 r1.2.2 b1 b2 z37 z4z z4y z3O z3A z3B z34 zp zd zH zE z2K z2s z4M z3U zy zeT zcJ zeU zcK)
 ·exact zk (Zax zn zu zb zh zj z2 z6 b1 b2 z37 z4z z4y z3O z3A z3B z34 zp zd zH zE z2K z2s z4M z3U zy zeT zcJ zeU zcK)
def Z5z (x1 : Z7) (x2 : Bool) (zn : List Int) (zu zb zh : Int) (zj : List Zv) (z2 z6 : Int) : Option (Z7 × Int × Int × Int) :=
 (Z1G (ByteArray.mk #[42]) zn zu).bind fun r1 =>
 if (r1.1) = true then
 (Z2T x2 zu zn r1.2 z2 z6 4 0 (-1) 0 0 ([] : List Zc) ([x1] : List Z7))
 else
 ((Z1G (ByteArray.mk #[43]) zn r1.2).bind fun r2 =>
 if (r2.1) = true then
 (Z2T x2 zu zn r2.2 z2 z6 4 1 (-1) 0 0 ([] : List Zc) ([x1] : List Z7))
 else
 ((Z1G (ByteArray.mk #[63]) zn r2.2).bind fun r3 =>
 if (r3.1) = true then
 (Z2T x2 zu zn r3.2 z2 z6 4 0 1 0 0 ([] : List Zc) ([x1] : List Z7))
 else
 ((Z1G (ByteArray.mk #[123]) zn r3.2).bind fun r4 =>
 if (r4.1) = true then
 ((Z71 zu zn r4.2 zb zh zj z2 z6).bind fun r5 =>
 Z2T x2 zu zn r5.2.2.1 r5.2.2.2.1 r5.2.2.2.2 4 r5.1 r5.2.1 0 0 ([] : List Zc) ([x1] : List Z7))
 else
 (some (x1, r4.2, z2, z6)))))
theorem Zix x1 x2 zn zu zb zh zj z2 z6 z3i z2P zp zd (zy : ZL zd = true) : Sim (Z3Y zn zb zh zj zp zd) (Z5z x1 x2 zn zu zb zh zj z2 z6) (EE 106 [(.ptr 0 0), (.p (.agg (ZG x1 z3i z2P))), (bv x2)] [(Zk (Zm.mk zn zu zb zh zj (Zl.mk z2 z6)) zp zd)]) := by
 unfold Z5z
 refine zf (ZE2 ..)<|ze<|zx (.ptr 1 0) [(Zk (Zm.mk zn zu zb zh zj (Zl.mk z2 z6)) zp zd), (Zq x1 z3i z2P)]<|zz (.ptr 2 0) [(Zk (Zm.mk zn zu zb zh zj (Zl.mk z2 z6)) zp zd), (Zq x1 z3i z2P), (Zq (Z7.mk 0 0 0 0 0 ([] : List Zc) ([] : List Z7)) .nl .nl)]<|ze<|zq<|zq<|zq<|ze<|zq ?_
 refine zo (.p (.lst .ex (([x1] : List Z7).map ZR))) ?_ (Eq.trans (b := some (.p (.lst .ex [.agg (Z2V x1)]))) (by kernel_rfl) (by simp only [List.map_cons, List.map_nil, Z4W]))
 refine zq<|zz (.ptr 3 0) [(Zk (Zm.mk zn zu zb zh zj (Zl.mk z2 z6)) zp zd), (Zq x1 z3i z2P), (Zq (Z7.mk 0 0 0 0 0 ([] : List Zc) ([] : List Z7)) .nl .nl), (Zq (Z7.mk 0 0 0 0 0 ([] : List Zc) ([] : List Z7)) .nl .nl)]<|zt [(Zk (Zm.mk zn zu zb zh zj (Zl.mk z2 z6)) zp zd), (Zq x1 z3i z2P), (Zq (Z7.mk 0 0 0 0 0 ([] : List Zc) ([] : List Z7)) .nl .nl), (Zq (Z7.mk 4 0 (-1) 0 0 ([] : List Zc) ([x1] : List Z7)) .nl .ex)]<|ze<|zi fun r1 hr1 => ?_
 obtain ⟨qr1, er1, exr1, rfl⟩ := Z1P (ByteArray.mk #[42]) zn zu zb zh zj z2 z6 zp zd zy r1 hr1
 refine zc [0] (bv r1.1) [(Zk (Zm.mk zn r1.2 zb zh zj (Zl.mk z2 z6)) zp zd), (Zq x1 z3i z2P), (Zq (Z7.mk 0 0 0 0 0 ([] : List Zc) ([] : List Z7)) .nl .nl), (Zq (Z7.mk 4 0 (-1) 0 0 ([] : List Zc) ([x1] : List Z7)) .nl .ex)] er1 ?_
 refine za r1.1 ?_ ?_
 ·exact zk (Z5J x2 zu zn r1.2 zb zh zj z2 z6 x1 (Z7.mk 0 0 0 0 0 ([] : List Zc) ([] : List Z7)) 4 0 (-1) 0 0 ([] : List Zc) ([x1] : List Z7) zp zd z3i z2P .nl .nl .nl .ex zy rfl rfl rfl rfl)
 ·refine ze<|zi fun r2 hr2 => ?_
  obtain ⟨qr2, er2, exr2, rfl⟩ := Z1P (ByteArray.mk #[43]) zn r1.2 zb zh zj z2 z6 zp zd zy r2 hr2
  refine zc [0] (bv r2.1) [(Zk (Zm.mk zn r2.2 zb zh zj (Zl.mk z2 z6)) zp zd), (Zq x1 z3i z2P), (Zq (Z7.mk 0 0 0 0 0 ([] : List Zc) ([] : List Z7)) .nl .nl), (Zq (Z7.mk 4 0 (-1) 0 0 ([] : List Zc) ([x1] : List Z7)) .nl .ex)] er2 ?_
  refine za r2.1 ?_ ?_
  ·refine ze<|zq<|zt [(Zk (Zm.mk zn r2.2 zb zh zj (Zl.mk z2 z6)) zp zd), (Zq x1 z3i z2P), (Zq (Z7.mk 0 0 0 0 0 ([] : List Zc) ([] : List Z7)) .nl .nl), (Zq (Z7.mk 4 1 (-1) 0 0 ([] : List Zc) ([x1] : List Z7)) .nl .ex)] ?_
   exact zk (Z5J x2 zu zn r2.2 zb zh zj z2 z6 x1 (Z7.mk 0 0 0 0 0 ([] : List Zc) ([] : List Z7)) 4 1 (-1) 0 0 ([] : List Zc) ([x1] : List Z7) zp zd z3i z2P .nl .nl .nl .ex zy rfl rfl rfl rfl)
  ·refine ze<|zi fun r3 hr3 => ?_
   obtain ⟨qr3, er3, exr3, rfl⟩ := Z1P (ByteArray.mk #[63]) zn r2.2 zb zh zj z2 z6 zp zd zy r3 hr3
   refine zc [0] (bv r3.1) [(Zk (Zm.mk zn r3.2 zb zh zj (Zl.mk z2 z6)) zp zd), (Zq x1 z3i z2P), (Zq (Z7.mk 0 0 0 0 0 ([] : List Zc) ([] : List Z7)) .nl .nl), (Zq (Z7.mk 4 0 (-1) 0 0 ([] : List Zc) ([x1] : List Z7)) .nl .ex)] er3 ?_
   refine za r3.1 ?_ ?_
   ·refine ze<|zq<|zt [(Zk (Zm.mk zn r3.2 zb zh zj (Zl.mk z2 z6)) zp zd), (Zq x1 z3i z2P), (Zq (Z7.mk 0 0 0 0 0 ([] : List Zc) ([] : List Z7)) .nl .nl), (Zq (Z7.mk 4 0 1 0 0 ([] : List Zc) ([x1] : List Z7)) .nl .ex)] ?_
    exact zk (Z5J x2 zu zn r3.2 zb zh zj z2 z6 x1 (Z7.mk 0 0 0 0 0 ([] : List Zc) ([] : List Z7)) 4 0 1 0 0 ([] : List Zc) ([x1] : List Z7) zp zd z3i z2P .nl .nl .nl .ex zy rfl rfl rfl rfl)
   ·refine ze<|zi fun r4 hr4 => ?_
    obtain ⟨qr4, er4, exr4, rfl⟩ := Z1P (ByteArray.mk #[123]) zn r3.2 zb zh zj z2 z6 zp zd zy r4 hr4
    refine zc [0] (bv r4.1) [(Zk (Zm.mk zn r4.2 zb zh zj (Zl.mk z2 z6)) zp zd), (Zq x1 z3i z2P), (Zq (Z7.mk 0 0 0 0 0 ([] : List Zc) ([] : List Z7)) .nl .nl), (Zq (Z7.mk 4 0 (-1) 0 0 ([] : List Zc) ([x1] : List Z7)) .nl .ex)] er4 ?_
    refine za r4.1 ?_ ?_
    ·refine ze<|zi fun r5 hr5 => ?_
     obtain ⟨qr5, er5, exr5, rfl⟩ := Zjm zu zn r4.2 zb zh zj z2 z6 zp zd zy r5 hr5
     refine zc [0] (.p (.tup [(.v (.int .i64 r5.1)), (.v (.int .i64 r5.2.1))])) [(Zk (Zm.mk zn r5.2.2.1 zb zh zj (Zl.mk r5.2.2.2.1 r5.2.2.2.2)) zp zd), (Zq x1 z3i z2P), (Zq (Z7.mk 0 0 0 0 0 ([] : List Zc) ([] : List Z7)) .nl .nl), (Zq (Z7.mk 4 0 (-1) 0 0 ([] : List Zc) ([x1] : List Z7)) .nl .ex)] er5<|zq<|zq<|zq<|zt [(Zk (Zm.mk zn r5.2.2.1 zb zh zj (Zl.mk r5.2.2.2.1 r5.2.2.2.2)) zp zd), (Zq x1 z3i z2P), (Zq (Z7.mk 0 0 0 0 0 ([] : List Zc) ([] : List Z7)) .nl .nl), (Zq (Z7.mk 4 r5.1 (-1) 0 0 ([] : List Zc) ([x1] : List Z7)) .nl .ex)]<|zq<|zt [(Zk (Zm.mk zn r5.2.2.1 zb zh zj (Zl.mk r5.2.2.2.1 r5.2.2.2.2)) zp zd), (Zq x1 z3i z2P), (Zq (Z7.mk 0 0 0 0 0 ([] : List Zc) ([] : List Z7)) .nl .nl), (Zq (Z7.mk 4 r5.1 r5.2.1 0 0 ([] : List Zc) ([x1] : List Z7)) .nl .ex)] ?_
     exact zk (Z5J x2 zu zn r5.2.2.1 zb zh zj r5.2.2.2.1 r5.2.2.2.2 x1 (Z7.mk 0 0 0 0 0 ([] : List Zc) ([] : List Z7)) 4 r5.1 r5.2.1 0 0 ([] : List Zc) ([x1] : List Z7) zp zd z3i z2P .nl .nl .nl .ex zy rfl rfl rfl rfl)
    ·refine ze<|zq<|zt [(Zk (Zm.mk zn r4.2 zb zh zj (Zl.mk z2 z6)) zp zd), (Zq x1 z3i z2P), (Zq x1 (shrO z3i) (shrO z2P)), (Zq (Z7.mk 4 0 (-1) 0 0 ([] : List Zc) ([x1] : List Z7)) .nl .ex)] ?_
     exact zr ((.p (.agg (ZG x1 .sh .sh))), [(Zk (Zm.mk zn r4.2 zb zh zj (Zl.mk z2 z6)) zp zd), (Zq x1 z3i z2P), (Zq x1 (shrO z3i) (shrO z2P)), (Zq (Z7.mk 4 0 (-1) 0 0 ([] : List Zc) ([x1] : List Z7)) .nl .ex)]) ⟨_, rfl⟩
theorem Zcz (x1 : Z7) (x2 : Bool) (zn : List Int) (zu zb zh : Int) (zj : List Zv) (z2 z6 : Int) {r} (h : Z5z x1 x2 zn zu zb zh zj z2 z6 = some r) : Z72 x1 x2 zn zu zb zh zj z2 z6 = some r :=
 Z1a (fun _ _ ha hb => RRun.uniq (ZjI _ _ _ _ _ _) (ha .ex .ex .ex .ex rfl) (hb .ex .ex .ex .ex rfl)) (fun z3i z2P zp zd zy => Zix x1 x2 zn zu zb zh zj z2 z6 z3i z2P zp zd zy r h)
def Z9i (x4 zu z2 z6 : Int) : Option (Int × Int × Int × Int × Int) :=
 some (x4, (-1), zu, z2, z6)
theorem ZgE x4 zn zu zb zh zj z2 z6 zp zd (zy : ZL zd = true) : Sim (Z2R zn zb zh zj zp zd) (Z9i x4 zu z2 z6) (Zsv 1 (iv x4) [(Zk (Zm.mk zn zu zb zh zj (Zl.mk z2 z6)) zp zd)]) := by
 unfold Z9i
 refine zf (ZyL ..)<|ze ?_
 exact zr ((.p (.tup [(.v (.int .i64 x4)), (.v (.int .i64 (-1)))])), [(Zk (Zm.mk zn zu zb zh zj (Zl.mk z2 z6)) zp zd)]) ⟨_, rfl⟩
def Z78 (x4 x5 zu z2 z6 : Int) : Option (Int × Int × Int × Int × Int) :=
 some (x4, x5, zu, z2, z6)
theorem Zav x4 x5 zn zu zb zh zj z2 z6 zp zd (zy : ZL zd = true) : Sim (Z2R zn zb zh zj zp zd) (Z78 x4 x5 zu z2 z6) (Zmr 1 (iv x4) (iv x5) [(Zk (Zm.mk zn zu zb zh zj (Zl.mk z2 z6)) zp zd)]) := by
 unfold Z78
 refine zf (Zxc ..)<|ze ?_
 exact zr ((.p (.tup [(.v (.int .i64 x4)), (.v (.int .i64 x5))])), [(Zk (Zm.mk zn zu zb zh zj (Zl.mk z2 z6)) zp zd)]) ⟨_, rfl⟩
def Z3e (x1 x4 x5 : Int) (zn : List Int) (z2 z6 : Int) : Option (Int × Int × Int × Int × Int) :=
 (Z1g 23 x1 zn z2 z6).bind fun r1 =>
 Z78 x4 x5 r1.1 r1.2.1 r1.2.2
theorem Z5I x1 x4 x5 zn zu zb zh zj z2 z6 zp zd (zy : ZL zd = true) : Sim (Z2R zn zb zh zj zp zd) (Z3e x1 x4 x5 zn z2 z6) (Zgs 1 (.ptr 0 0) (iv x1) (iv x4) (iv x5) [(Zk (Zm.mk zn zu zb zh zj (Zl.mk z2 z6)) zp zd)]) := by
 unfold Z3e
 refine zf (Zxb ..)<|ze<|zi fun r1 hr1 => ?_
 obtain ⟨qr1, er1, exr1, rfl⟩ := Z1j 23 x1 zn zu zb zh zj z2 z6 zp zd zy r1 hr1
 refine zc [0] (.p (.tup [])) [(Zk (Zm.mk zn r1.1 zb zh zj (Zl.mk r1.2.1 r1.2.2)) zp zd)] er1 ?_
 exact zk (Zav x4 x5 zn r1.1 zb zh zj r1.2.1 r1.2.2 zp zd zy)
def Z2W (x1 x4 x5 : Int) (zn : List Int) (zu z2 z6 : Int) : Option (Int × Int × Int × Int × Int) :=
 if (decide (x4 < 0)) = true then
 (Z3e x1 x4 x5 zn z2 z6)
 else
 (if (decide (x5 < x4)) = true then
 (Z3e x1 x4 x5 zn z2 z6)
 else
 (if (decide (64 < x5)) = true then
 (Z3e x1 x4 x5 zn z2 z6)
 else
 ((Z1G (ByteArray.mk #[125]) zn zu).bind fun r1 =>
 if (!r1.1) = true then
 (Z3e x1 x4 x5 zn z2 z6)
 else
 (Z78 x4 x5 r1.2 z2 z6))))
theorem Z67 x1 x4 x5 zn zu zb zh zj z2 z6 zp zd (zy : ZL zd = true) : Sim (Z2R zn zb zh zj zp zd) (Z2W x1 x4 x5 zn zu z2 z6) (ZiO 1 (.ptr 0 0) (iv x1) (iv x4) (iv x5) [(Zk (Zm.mk zn zu zb zh zj (Zl.mk z2 z6)) zp zd)]) := by
 unfold Z2W
 refine zf (ZyN ..)<|ze<|zq ?_
 refine za (decide (x4 < 0)) ?_ ?_
 ·exact zk (Z5I x1 x4 x5 zn zu zb zh zj z2 z6 zp zd zy)
 ·refine zq ?_
  refine za (decide (x5 < x4)) ?_ ?_
  ·exact zk (Z5I x1 x4 x5 zn zu zb zh zj z2 z6 zp zd zy)
  ·refine zq ?_
   refine za (decide (64 < x5)) ?_ ?_
   ·exact zk (Z5I x1 x4 x5 zn zu zb zh zj z2 z6 zp zd zy)
   ·refine zi fun r1 hr1 => ?_
    obtain ⟨qr1, er1, exr1, rfl⟩ := Z1P (ByteArray.mk #[125]) zn zu zb zh zj z2 z6 zp zd zy r1 hr1
    refine zc [0] (bv r1.1) [(Zk (Zm.mk zn r1.2 zb zh zj (Zl.mk z2 z6)) zp zd)] er1<|zq ?_
    refine za (!r1.1) ?_ ?_
    ·exact zk (Z5I x1 x4 x5 zn r1.2 zb zh zj z2 z6 zp zd zy)
    ·exact zk (Zav x4 x5 zn r1.2 zb zh zj z2 z6 zp zd zy)
def Z4H (x1 x4 : Int) (zn : List Int) (zu z2 z6 : Int) : Option (Int × Int × Int × Int × Int) :=
 Z2W x1 x4 (-2) zn zu z2 z6
theorem Zb6 x1 x4 zn zu zb zh zj z2 z6 zp zd (zy : ZL zd = true) : Sim (Z2R zn zb zh zj zp zd) (Z4H x1 x4 zn zu z2 z6) (Zp1 1 (.ptr 0 0) (iv x1) (iv x4) [(Zk (Zm.mk zn zu zb zh zj (Zl.mk z2 z6)) zp zd)]) := by
 unfold Z4H
 refine zf (ZyM ..)<|ze ?_
 exact zk (Z67 x1 x4 (-2) zn zu zb zh zj z2 z6 zp zd zy)
def Z7j (x1 x4 : Int) (zn : List Int) (zu z2 z6 : Int) : Option (Int × Int × Int × Int × Int) :=
 (Z1G (ByteArray.mk #[125]) zn zu).bind fun r1 =>
 if (r1.1) = true then
 (if (decide (x4 ≤ 64)) = true then
 (Z9i x4 r1.2 z2 z6)
 else
 (Z4H x1 x4 zn r1.2 z2 z6))
 else
 (Z4H x1 x4 zn r1.2 z2 z6)
theorem ZgD x1 x4 zn zu zb zh zj z2 z6 zp zd (zy : ZL zd = true) : Sim (Z2R zn zb zh zj zp zd) (Z7j x1 x4 zn zu z2 z6) (Zsu 1 (.ptr 0 0) (iv x1) (iv x4) [(Zk (Zm.mk zn zu zb zh zj (Zl.mk z2 z6)) zp zd)]) := by
 unfold Z7j
 refine zf (ZyK ..)<|ze<|zi fun r1 hr1 => ?_
 obtain ⟨qr1, er1, exr1, rfl⟩ := Z1P (ByteArray.mk #[125]) zn zu zb zh zj z2 z6 zp zd zy r1 hr1
 refine zc [0] (bv r1.1) [(Zk (Zm.mk zn r1.2 zb zh zj (Zl.mk z2 z6)) zp zd)] er1 ?_
 refine za r1.1 ?_ ?_
 ·refine zq ?_
  refine za (decide (x4 ≤ 64)) ?_ ?_
  ·exact zk (ZgE x4 zn r1.2 zb zh zj z2 z6 zp zd zy)
  ·exact zk (Zb6 x1 x4 zn r1.2 zb zh zj z2 z6 zp zd zy)
 ·exact zk (Zb6 x1 x4 zn r1.2 zb zh zj z2 z6 zp zd zy)
def Z6V (x1 : Int) (zn : List Int) (zu zb zh : Int) (zj : List Zv) (z2 z6 : Int) : Option (Int × Int × Int × Int × Int) :=
 (Z5E zn zu zb zh zj z2 z6).bind fun r1 =>
 (Z1G (ByteArray.mk #[44]) zn r1.2).bind fun r2 =>
 if (r2.1) = true then
 ((Z5E zn r2.2 zb zh zj z2 z6).bind fun r3 =>
 if (decide (r3.1 < 0)) = true then
 (if (decide (0 ≤ r1.1)) = true then
 (Z7j x1 r1.1 zn r3.2 z2 z6)
 else
 (Z2W x1 r1.1 r3.1 zn r3.2 z2 z6))
 else
 (Z2W x1 r1.1 r3.1 zn r3.2 z2 z6))
 else
 (Z2W x1 r1.1 r1.1 zn r2.2 z2 z6)
theorem Zit x1 zn zu zb zh zj z2 z6 zp zd (zy : ZL zd = true) : Sim (Z2R zn zb zh zj zp zd) (Z6V x1 zn zu zb zh zj z2 z6) (EE 133 [(.ptr 0 0), (iv x1)] [(Zk (Zm.mk zn zu zb zh zj (Zl.mk z2 z6)) zp zd)]) := by
 unfold Z6V
 refine zf (ZEq ..)<|ze<|ze<|zi fun r1 hr1 => ?_
 obtain ⟨qr1, er1, exr1, rfl⟩ := Zcy zn zu zb zh zj z2 z6 zp zd zy r1 hr1
 refine zc [0] (iv r1.1) [(Zk (Zm.mk zn r1.2 zb zh zj (Zl.mk z2 z6)) zp zd)] er1<|ze<|ze<|zi fun r2 hr2 => ?_
 obtain ⟨qr2, er2, exr2, rfl⟩ := Z1P (ByteArray.mk #[44]) zn r1.2 zb zh zj z2 z6 zp zd zy r2 hr2
 refine zc [0] (bv r2.1) [(Zk (Zm.mk zn r2.2 zb zh zj (Zl.mk z2 z6)) zp zd)] er2 ?_
 refine za r2.1 ?_ ?_
 ·refine ze<|zi fun r3 hr3 => ?_
  obtain ⟨qr3, er3, exr3, rfl⟩ := Zcy zn r2.2 zb zh zj z2 z6 zp zd zy r3 hr3
  refine zc [0] (iv r3.1) [(Zk (Zm.mk zn r3.2 zb zh zj (Zl.mk z2 z6)) zp zd)] er3<|ze<|zq ?_
  refine za (decide (r3.1 < 0)) ?_ ?_
  ·refine zq ?_
   refine za (decide (0 ≤ r1.1)) ?_ ?_
   ·exact zk (ZgD x1 r1.1 zn r3.2 zb zh zj z2 z6 zp zd zy)
   ·exact zk (Z67 x1 r1.1 r3.1 zn r3.2 zb zh zj z2 z6 zp zd zy)
  ·exact zk (Z67 x1 r1.1 r3.1 zn r3.2 zb zh zj z2 z6 zp zd zy)
 ·exact zk (Z67 x1 r1.1 r1.1 zn r2.2 zb zh zj z2 z6 zp zd zy)
theorem Zcv (x1 : Int) (zn : List Int) (zu zb zh : Int) (zj : List Zv) (z2 z6 : Int) {r} (h : Z6V x1 zn zu zb zh zj z2 z6 = some r) : Z71 x1 zn zu zb zh zj z2 z6 = some r :=
 Z1a (fun _ _ ha hb => RRun.uniq (ZjF _ _ _ _ _ _) (ha .ex .ex rfl) (hb .ex .ex rfl)) (fun zp zd zy => Zit x1 zn zu zb zh zj z2 z6 zp zd zy r h)
def ZaY (zn : List Int) (zu zb zh : Int) (zj : List Zv) (z2 z6 : Int) : Option (Int × Int) :=
 Z3T (-1) 0 zn zu zb zh zj z2 z6
theorem Ziw zn zu zb zh zj z2 z6 zp zd (zy : ZL zd = true) : Sim (Z3b zn zb zh zj z2 z6 zp zd) (ZaY zn zu zb zh zj z2 z6) (EE 156 [(.ptr 0 0)] [(Zk (Zm.mk zn zu zb zh zj (Zl.mk z2 z6)) zp zd)]) := by
 unfold ZaY
 refine zf (ZEL ..)<|ze<|ze<|ze ?_
 exact zk (Zbe (-1) 0 zn zu zb zh zj z2 z6 zp zd zy)
theorem Zjp (zn : List Int) (zu zb zh : Int) (zj : List Zv) (z2 z6 : Int) {r} (h : ZaY zn zu zb zh zj z2 z6 = some r) : Z5E zn zu zb zh zj z2 z6 = some r :=
 Z1a (fun _ _ ha hb => RRun.uniq (Zds _ _ _ _ _ _ _ _) (ha .ex .ex rfl) (hb .ex .ex rfl)) (fun zp zd zy => Ziw zn zu zb zh zj z2 z6 zp zd zy r h)
def Z7n (x3 x4 : Int) (zn : List Int) (zu zb zh : Int) (zj : List Zv) (z2 z6 : Int) : Option (Int × Int) :=
 (Z3d zn zu).bind fun r1 =>
 Z3T ((IntKind.i64.wrap ((IntKind.i64.wrap ((IntKind.i64.wrap (10 * (max x3 0))) + r1.1)) - 48))) (IntKind.i64.wrap (x4 + 1)) zn r1.2 zb zh zj z2 z6
theorem ZgJ x3 x4 zn zu zb zh zj z2 z6 zp zd (zy : ZL zd = true) : Sim (Z3b zn zb zh zj z2 z6 zp zd) (Z7n x3 x4 zn zu zb zh zj z2 z6) (ZsN 1 (.ptr 0 0) (iv x3) (iv x4) [(Zk (Zm.mk zn zu zb zh zj (Zl.mk z2 z6)) zp zd)]) := by
 unfold Z7n
 refine zf (Zz0 ..)<|ze ?_
 refine zo (iv (max x3 0)) ?_ (ZoM _ _)
 refine zq<|zi fun r1 hr1 => ?_
 obtain ⟨qr1, er1, exr1, rfl⟩ := Z3L zn zu zb zh zj z2 z6 zp zd zy r1 hr1
 refine zc [0] (iv r1.1) [(Zk (Zm.mk zn r1.2 zb zh zj (Zl.mk z2 z6)) zp zd)] er1<|zq<|zq<|ze<|zq ?_
 exact zk (Zbe ((IntKind.i64.wrap ((IntKind.i64.wrap ((IntKind.i64.wrap (10 * (max x3 0))) + r1.1)) - 48))) (IntKind.i64.wrap (x4 + 1)) zn r1.2 zb zh zj z2 z6 zp zd zy)
def Z4I (x3 zu : Int) : Option (Int × Int) :=
 some (x3, zu)
theorem Z7Y x3 zn zu zb zh zj z2 z6 zp zd (zy : ZL zd = true) : Sim (Z3b zn zb zh zj z2 z6 zp zd) (Z4I x3 zu) (Zlf 1 (iv x3) [(Zk (Zm.mk zn zu zb zh zj (Zl.mk z2 z6)) zp zd)]) := by
 unfold Z4I
 refine zf (Zz1 ..)<|ze ?_
 exact zr ((iv x3), [(Zk (Zm.mk zn zu zb zh zj (Zl.mk z2 z6)) zp zd)]) ⟨_, rfl⟩
def Z7m (x3 x4 : Int) (zn : List Int) (zu zb zh : Int) (zj : List Zv) (z2 z6 : Int) : Option (Int × Int) :=
 if (decide (x4 < 2)) = true then
 ((Z2C (Zm.mk zn zu zb zh zj (Zl.mk z2 z6))).bind fun r1 =>
 if (decide (48 ≤ r1)) = true then
 ((Z2C (Zm.mk zn zu zb zh zj (Zl.mk z2 z6))).bind fun r2 =>
 if (decide (r2 ≤ 57)) = true then
 (Z7n x3 x4 zn zu zb zh zj z2 z6)
 else
 (Z4I x3 zu))
 else
 (Z4I x3 zu))
 else
 (Z4I x3 zu)
theorem ZgI x3 x4 zn zu zb zh zj z2 z6 zp zd (zy : ZL zd = true) : Sim (Z3b zn zb zh zj z2 z6 zp zd) (Z7m x3 x4 zn zu zb zh zj z2 z6) (ZiQ 1 (.ptr 0 0) (iv x3) (iv x4) [(Zk (Zm.mk zn zu zb zh zj (Zl.mk z2 z6)) zp zd)]) := by
 unfold Z7m
 refine zf (ZyZ ..)<|ze<|zq ?_
 refine za (decide (x4 < 2)) ?_ ?_
 ·refine zi fun r1 hr1 => ?_
  obtain ⟨qr1, er1, exr1, rfl⟩ := Z2L (Zm.mk zn zu zb zh zj (Zl.mk z2 z6)) zp zd zy r1 hr1
  refine zc [0] (iv r1) [(Zk (Zm.mk zn zu zb zh zj (Zl.mk z2 z6)) zp zd)] er1<|zq ?_
  refine za (decide (48 ≤ r1)) ?_ ?_
  ·refine zi fun r2 hr2 => ?_
   obtain ⟨qr2, er2, exr2, rfl⟩ := Z2L (Zm.mk zn zu zb zh zj (Zl.mk z2 z6)) zp zd zy r2 hr2
   refine zc [0] (iv r2) [(Zk (Zm.mk zn zu zb zh zj (Zl.mk z2 z6)) zp zd)] er2<|zq ?_
   refine za (decide (r2 ≤ 57)) ?_ ?_
   ·exact zk (ZgJ x3 x4 zn zu zb zh zj z2 z6 zp zd zy)
   ·exact zk (Z7Y x3 zn zu zb zh zj z2 z6 zp zd zy)
  ·exact zk (Z7Y x3 zn zu zb zh zj z2 z6 zp zd zy)
 ·exact zk (Z7Y x3 zn zu zb zh zj z2 z6 zp zd zy)
theorem Zhr (x3 x4 : Int) (zn : List Int) (zu zb zh : Int) (zj : List Zv) (z2 z6 : Int) {r} (h : Z7m x3 x4 zn zu zb zh zj z2 z6 = some r) : Z3T x3 x4 zn zu zb zh zj z2 z6 = some r :=
 Z1a (fun _ _ ha hb => RRun.uniq (Zds _ _ _ _ _ _ _ _) (ha .ex .ex rfl) (hb .ex .ex rfl)) (fun zp zd zy => ZgI x3 x4 zn zu zb zh zj z2 z6 zp zd zy r h)
def Zbx  : Option (Int) :=
 some (0)
theorem Zn8  : Sim (Z9Y) (Zbx) (Zvn 0  []) := by
 unfold Zbx
 refine zf (ZBe ..)<|ze ?_
 exact zr ((iv 0), []) ⟨_, rfl⟩
def Zet (x0 : ZS) : Option (Int) :=
 (Z4m x0.Root).bind fun r1 =>
 if (!r1) = true then
 (some (27))
 else
 ((Z5X x0.Root).bind fun r2 =>
 if (decide (2000 < (IntKind.i64.wrap (r2 + 3)))) = true then
 (some (28))
 else
 (Zbx))
theorem ZpA x0 z3V z3y : Sim (Z9Y) (Zet x0) (EE 48 [(.p (.agg (Z2Z x0 z3V z3y)))] []) := by
 unfold Zet
 refine zf (ZGz ..)<|ze<|zx (.ptr 0 0) [(ZT x0 z3V z3y)]<|ze<|zq<|zq<|zi fun r1 hr1 => ?_
 obtain ⟨qr1, er1, exr1, rfl⟩ := Zhz x0.Root .sh .sh r1 hr1
 refine zc [] (bv r1) [(ZT x0 z3V z3y)] er1<|zq ?_
 refine za (!r1) ?_ ?_
 ·refine ze ?_
  exact zr ((iv 27), [(ZT x0 z3V z3y)]) ⟨_, rfl⟩
 ·refine ze<|zq<|zq<|zi fun r2 hr2 => ?_
  obtain ⟨qr2, er2, exr2, rfl⟩ := Zke x0.Root .sh .sh r2 hr2
  refine zc [] (iv r2) [(ZT x0 z3V z3y)] er2<|zq<|zq ?_
  refine za (decide (2000 < (IntKind.i64.wrap (r2 + 3)))) ?_ ?_
  ·refine ze ?_
   exact zr ((iv 28), [(ZT x0 z3V z3y)]) ⟨_, rfl⟩
  ·exact zk (Zn8 )
theorem Zqx (x0 : ZS) {r} (h : Zet x0 = some r) : Zez x0 = some r :=
 Z1a (fun _ _ ha hb => RRun.uniq Zr0 (ha .ex .ex) (hb .ex .ex)) (fun z3V z3y => ZpA x0 z3V z3y r h)
end Go.Proofs.YteoeggbihfnbfaaGreatDoor.N2
end
noncomputable section
set_option linter.unusedSimpArgs false
set_option linter.unusedVariables false
namespace Go.Proofs.YteoeggbihfnbfaaGreatDoor.N2
open Go Go.Abs
set_option linter.unusedVariables false
set_option maxRecDepth 100000
def Z8l  : Option (Bool) :=
 some (false)
theorem Zea  : Sim (Z6h) (Z8l) (Zrn 0  []) := by
 unfold Z8l
 refine zf (ZBt ..)<|ze ?_
 exact zr ((bv false), []) ⟨_, rfl⟩
def Z3J (b0 : Z7) : Option (Bool) :=
 (Z5u b0.Kids).bind fun r1 =>
 some (!r1)
theorem Zar b0 z1R z1z : Sim (Z6h) (Z3J b0) (Zo8 0 (.ptr 0 0) [(Zq b0 z1R z1z)]) := by
 unfold Z3J
 refine zf (ZBu ..)<|ze<|zq<|zq<|zi fun r1 hr1 => ?_
 obtain ⟨qr1, er1, exr1, rfl⟩ := Zec b0.Kids .sh r1 hr1
 refine zc [] (bv r1) [(Zq b0 z1R z1z)] er1<|zq ?_
 exact zr ((bv (!r1)), [(Zq b0 z1R z1z)]) ⟨_, rfl⟩
def Z8k (b0 : Z7) : Option (Bool) :=
 (lget b0.Kids 0).bind fun a1 =>
 (Z3w a1).bind fun r2 =>
 if (decide (r2.2 < 0)) = true then
 (Z8l)
 else
 (if (decide (32 < r2.2)) = true then
 (Z8l)
 else
 (Z3J b0))
theorem ZkR b0 z1R z1z : Sim (Z6h) (Z8k b0) (ZvA 0 (.ptr 0 0) [(Zq b0 z1R z1z)]) := by
 unfold Z8k
 refine zf (ZBs ..)<|ze<|zq<|zq<|zi fun a1 ha1 => ?_
 refine zo (.cptr (ZG a1 .sh .sh)) ?_ (Eq.trans (by kernel_rfl) (Z3Z (o := (shrO z1z)) (k := .i64) (n := 7) (e := ZR) (cs := Z2V) Z6c (fun _ => rfl) (by decide) ha1))
 refine zq<|zi fun r2 hr2 => ?_
 obtain ⟨qr2, er2, exr2, rfl⟩ := Z82 a1 .sh .sh r2 hr2
 refine zc [] (.p (.tup [(.v (.int .i64 r2.1)), (.v (.int .i64 r2.2))])) [(Zq b0 z1R z1z)] er2<|zq<|zq<|ze<|zq ?_
 refine za (decide (r2.2 < 0)) ?_ ?_
 ·exact zk (Zea )
 ·refine zq ?_
  refine za (decide (32 < r2.2)) ?_ ?_
  ·exact zk (Zea )
  ·exact zk (Zar b0 z1R z1z)
def Zca (x0 : Z7) : Option (Bool) :=
 if (x0.Kind == 7) = true then
 (if (decide (2 ≤ x0.Mode)) = true then
 (Z8k x0)
 else
 (Z3J x0))
 else
 (Z3J x0)
theorem ZnY x0 z1S z1t : Sim (Z6h) (Zca x0) (EE 71 [(.p (.agg (ZG x0 z1S z1t)))] []) := by
 unfold Zca
 refine zf (ZGM ..)<|ze<|zx (.ptr 0 0) [(Zq x0 z1S z1t)]<|ze<|zq<|zq<|zq ?_
 refine za (x0.Kind == 7) ?_ ?_
 ·refine zq<|zq<|zq ?_
  refine za (decide (2 ≤ x0.Mode)) ?_ ?_
  ·exact zk (ZkR x0 z1S z1t)
  ·exact zk (Zar x0 z1S z1t)
 ·exact zk (Zar x0 z1S z1t)
theorem Zok (x0 : Z7) {r} (h : Zca x0 = some r) : Z4m x0 = some r :=
 Z1a (fun _ _ ha hb => RRun.uniq Zpq (ha .ex .ex) (hb .ex .ex)) (fun z1S z1t => ZnY x0 z1S z1t r h)
def Z7A (x2 x3 : Int) : Option (Int × Int) :=
 some (x2, x3)
theorem Z8D x2 x3 : Sim (Z3a) (Z7A x2 x3) (Zj1 0 (iv x2) (iv x3) []) := by
 unfold Z7A
 refine zf (ZA2 ..)<|ze ?_
 exact zr ((.p (.tup [(.v (.int .i64 x2)), (.v (.int .i64 x3))])), []) ⟨_, rfl⟩
def Zeu (x0 : Z7) : Option (Int × Int) :=
 if (x0.Kind == 1) = true then
 (some (1, 1))
 else
 (if (x0.Kind == 6) = true then
 (some (0, (-1)))
 else
 (if (x0.Kind == 2) = true then
 (Z9z 0 0 x0.Kids (x0.Kids.length : Int) 0)
 else
 (if (x0.Kind == 3) = true then
 (Z8W 1048576 0 x0.Kids (x0.Kids.length : Int) 0)
 else
 (if (x0.Kind == 4) = true then
 ((lget x0.Kids 0).bind fun a1 =>
 (Z3w a1).bind fun r2 =>
 (ZbS r2.2 x0.Hi).bind fun r3 =>
 some ((min (IntKind.i64.wrap (r2.1 * x0.Lo)) 1048576), r3))
 else
 (if (x0.Kind == 5) = true then
 (if (x0.Kind == 5) = true then
 ((lget x0.Kids 0).bind fun a4 =>
 (Z3w a4).bind fun r5 =>
 some (r5.1, r5.2))
 else
 (Z7A 0 0))
 else
 (if (x0.Kind == 8) = true then
 ((lget x0.Kids 0).bind fun a6 =>
 (Z3w a6).bind fun r7 =>
 some (r7.1, r7.2))
 else
 (Z7A 0 0)))))))
theorem ZpB x0 z1S z1t : Sim (Z3a) (Zeu x0) (EE 93 [(.p (.agg (ZG x0 z1S z1t)))] []) := by
 unfold Zeu
 refine zf (ZH3 ..)<|ze<|zx (.ptr 0 0) [(Zq x0 z1S z1t)]<|ze<|zq<|zq<|ze<|zq ?_
 refine za (x0.Kind == 1) ?_ ?_
 ·refine ze ?_
  exact zr ((.p (.tup [(.v (.int .i64 1)), (.v (.int .i64 1))])), [(Zq x0 z1S z1t)]) ⟨_, rfl⟩
 ·refine ze<|zq ?_
  refine za (x0.Kind == 6) ?_ ?_
  ·refine ze ?_
   exact zr ((.p (.tup [(.v (.int .i64 0)), (.v (.int .i64 (-1)))])), [(Zq x0 z1S z1t)]) ⟨_, rfl⟩
  ·refine ze<|zq ?_
   refine za (x0.Kind == 2) ?_ ?_
   ·refine ze<|zq<|zq ?_
    refine zo (iv (x0.Kids.length : Int)) ?_ (Eq.trans (by kernel_rfl) (Z38 (P := PP) (t := 96) (d := 98) (by kernel_rfl) ZR (shrO z1t) x0.Kids))
    exact zk (Zgk 0 0 x0.Kids (x0.Kids.length : Int) 0 (shrO z1t))
   ·refine ze<|zq ?_
    refine za (x0.Kind == 3) ?_ ?_
    ·refine ze<|ze<|zq<|zq ?_
     refine zo (iv (x0.Kids.length : Int)) ?_ (Eq.trans (by kernel_rfl) (Z38 (P := PP) (t := 96) (d := 98) (by kernel_rfl) ZR (shrO z1t) x0.Kids))
     exact zk (ZfG 1048576 0 x0.Kids (x0.Kids.length : Int) 0 (shrO z1t))
    ·refine ze<|zq ?_
     refine za (x0.Kind == 4) ?_ ?_
     ·refine ze<|zq<|zq<|zi fun a1 ha1 => ?_
      refine zo (.cptr (ZG a1 .sh .sh)) ?_ (Eq.trans (by kernel_rfl) (Z3Z (o := (shrO z1t)) (k := .i64) (n := 7) (e := ZR) (cs := Z2V) Z6c (fun _ => rfl) (by decide) ha1))
      refine zq<|zi fun r2 hr2 => ?_
      obtain ⟨qr2, er2, exr2, rfl⟩ := Z82 a1 .sh .sh r2 hr2
      refine zc [] (.p (.tup [(.v (.int .i64 r2.1)), (.v (.int .i64 r2.2))])) [(Zq x0 z1S z1t)] er2<|zq<|zq<|ze<|zq<|zq<|zq ?_
      refine zo (iv (min (IntKind.i64.wrap (r2.1 * x0.Lo)) 1048576)) ?_ (ZcR _ _)
      refine zq<|zq<|zi fun r3 hr3 => ?_
      obtain ⟨qr3, er3, exr3, rfl⟩ := ZqD r2.2 x0.Hi r3 hr3
      refine zc [] (iv r3) [(Zq x0 z1S z1t)] er3<|zg ?_
      exact zr ((.p (.tup [(.v (.int .i64 (min (IntKind.i64.wrap (r2.1 * x0.Lo)) 1048576))), (.v (.int .i64 r3))])), [(Zq x0 z1S z1t)]) ⟨_, rfl⟩
     ·refine ze<|zq ?_
      refine za (x0.Kind == 5) ?_ ?_
      ·refine za (x0.Kind == 5) ?_ ?_
       ·refine ze<|zq<|zq<|zi fun a4 ha4 => ?_
        refine zo (.cptr (ZG a4 .sh .sh)) ?_ (Eq.trans (by kernel_rfl) (Z3Z (o := (shrO z1t)) (k := .i64) (n := 7) (e := ZR) (cs := Z2V) Z6c (fun _ => rfl) (by decide) ha4))
        refine zq<|zi fun r5 hr5 => ?_
        obtain ⟨qr5, er5, exr5, rfl⟩ := Z82 a4 .sh .sh r5 hr5
        refine zc [] (.p (.tup [(.v (.int .i64 r5.1)), (.v (.int .i64 r5.2))])) [(Zq x0 z1S z1t)] er5<|zq<|zq ?_
        exact zr ((.p (.tup [(.v (.int .i64 r5.1)), (.v (.int .i64 r5.2))])), [(Zq x0 z1S z1t)]) ⟨_, rfl⟩
       ·exact zk (Z8D 0 0)
      ·refine ze<|zq ?_
       refine za (x0.Kind == 8) ?_ ?_
       ·refine ze<|zq<|zq<|zi fun a6 ha6 => ?_
        refine zo (.cptr (ZG a6 .sh .sh)) ?_ (Eq.trans (by kernel_rfl) (Z3Z (o := (shrO z1t)) (k := .i64) (n := 7) (e := ZR) (cs := Z2V) Z6c (fun _ => rfl) (by decide) ha6))
        refine zq<|zi fun r7 hr7 => ?_
        obtain ⟨qr7, er7, exr7, rfl⟩ := Z82 a6 .sh .sh r7 hr7
        refine zc [] (.p (.tup [(.v (.int .i64 r7.1)), (.v (.int .i64 r7.2))])) [(Zq x0 z1S z1t)] er7<|zq<|zq ?_
        exact zr ((.p (.tup [(.v (.int .i64 r7.1)), (.v (.int .i64 r7.2))])), [(Zq x0 z1S z1t)]) ⟨_, rfl⟩
       ·exact zk (Z8D 0 0)
theorem ZqA (x0 : Z7) {r} (h : Zeu x0 = some r) : Z3w x0 = some r :=
 Z1a (fun _ _ ha hb => RRun.uniq Zfu (ha .ex .ex) (hb .ex .ex)) (fun z1S z1t => ZpB x0 z1S z1t r h)
def Zby (x2 x3 : Int) (x23 : List Z7) (x24 x25 : Int) : Option (Int × Int) :=
 (lget x23 x25).bind fun a1 =>
 (Z3w a1).bind fun r2 =>
 (Zh6 x3 r2.2).bind fun r3 =>
 Z9z (min (IntKind.i64.wrap (x2 + r2.1)) 1048576) r3 x23 x24 (IntKind.i64.wrap (x25 + 1))
theorem Zna x2 x3 (x23 : List Z7) x24 x25 ox23 : Sim (Z3a) (Zby x2 x3 x23 x24 x25) (ZvS 0 (iv x2) (iv x3) (.p (.lst ox23 (x23.map ZR))) (iv x24) (iv x25) []) := by
 unfold Zby
 refine zf (ZBO ..)<|ze<|zi fun a1 ha1 => ?_
 refine zo (.cptr (ZG a1 .sh .sh)) ?_ (Eq.trans (by kernel_rfl) (Z3Z (o := ox23) (k := .i64) (n := 7) (e := ZR) (cs := Z2V) Z6c (fun _ => rfl) (by decide) ha1))
 refine zq<|zz (.ptr 0 0) [(Zq (Z7.mk 0 0 0 0 0 ([] : List Zc) ([] : List Z7)) .nl .nl)]<|zt [(Zq a1 .sh .sh)]<|ze<|zq<|zi fun r2 hr2 => ?_
 obtain ⟨qr2, er2, exr2, rfl⟩ := Z82 a1 .sh .sh r2 hr2
 refine zc [] (.p (.tup [(.v (.int .i64 r2.1)), (.v (.int .i64 r2.2))])) [(Zq a1 .sh .sh)] er2<|zq<|zq<|ze<|zq ?_
 refine zo (iv (min (IntKind.i64.wrap (x2 + r2.1)) 1048576)) ?_ (ZcR _ _)
 refine zi fun r3 hr3 => ?_
 obtain ⟨qr3, er3, exr3, rfl⟩ := ZtO x3 r2.2 r3 hr3
 refine zc [] (iv r3) [(Zq a1 .sh .sh)] er3<|ze<|zq ?_
 exact zk (Zgk (min (IntKind.i64.wrap (x2 + r2.1)) 1048576) r3 x23 x24 (IntKind.i64.wrap (x25 + 1)) ox23)
def Z9s (x2 x3 : Int) (x23 : List Z7) (x24 x25 : Int) : Option (Int × Int) :=
 if (decide (x25 < x24)) = true then
 (Zby x2 x3 x23 x24 x25)
 else
 (Z7A x2 x3)
theorem Zn9 x2 x3 (x23 : List Z7) x24 x25 ox23 : Sim (Z3a) (Z9s x2 x3 x23 x24 x25) (Zlu 0 (iv x2) (iv x3) (.p (.lst ox23 (x23.map ZR))) (iv x24) (iv x25) []) := by
 unfold Z9s
 refine zf (ZBN ..)<|ze<|zq ?_
 refine za (decide (x25 < x24)) ?_ ?_
 ·exact zk (Zna x2 x3 x23 x24 x25 ox23)
 ·exact zk (Z8D x2 x3)
theorem Zgj (x2 x3 : Int) (x23 : List Z7) (x24 x25 : Int) {r} (h : Z9s x2 x3 x23 x24 x25 = some r) : Z9z x2 x3 x23 x24 x25 = some r :=
 Z1a (fun _ _ ha hb => RRun.uniq Zfu (ha .ex) (hb .ex)) (fun ox23 => Zn9 x2 x3 x23 x24 x25 ox23 r h)
def Z8S (x2 x3 : Int) (x45 : List Z7) (x46 x47 : Int) : Option (Int × Int) :=
 Z8W x2 x3 x45 x46 (IntKind.i64.wrap (x47 + 1))
theorem Zfb x2 x3 (x45 : List Z7) x46 x47 ox45 : Sim (Z3a) (Z8S x2 x3 x45 x46 x47) (Zpe 0 (iv x2) (iv x3) (.p (.lst ox45 (x45.map ZR))) (iv x46) (iv x47) []) := by
 unfold Z8S
 refine zf (ZA1 ..)<|ze<|zq ?_
 exact zk (ZfG x2 x3 x45 x46 (IntKind.i64.wrap (x47 + 1)) ox45)
def Z8R (x2 : Int) (x45 : List Z7) (x46 x47 : Int) : Option (Int × Int) :=
 Z8S x2 (-1) x45 x46 x47
theorem Zfa x2 (x45 : List Z7) x46 x47 ox45 : Sim (Z3a) (Z8R x2 x45 x46 x47) (Zpd 0 (iv x2) (.p (.lst ox45 (x45.map ZR))) (iv x46) (iv x47) []) := by
 unfold Z8R
 refine zf (ZzZ ..)<|ze ?_
 exact zk (Zfb x2 (-1) x45 x46 x47 ox45)
def ZaG (x2 x3 x11 : Int) (x45 : List Z7) (x46 x47 : Int) : Option (Int × Int) :=
 Z8S x2 (max x3 x11) x45 x46 x47
theorem ZlR x2 x3 x11 (x45 : List Z7) x46 x47 ox45 : Sim (Z3a) (ZaG x2 x3 x11 x45 x46 x47) (ZtI 0 (iv x2) (iv x3) (iv x11) (.p (.lst ox45 (x45.map ZR))) (iv x46) (iv x47) []) := by
 unfold ZaG
 refine zf (ZA0 ..)<|ze ?_
 refine zo (iv (max x3 x11)) ?_ (ZoM _ _)
 exact zk (Zfb x2 (max x3 x11) x45 x46 x47 ox45)
def ZaF (x2 x3 : Int) (x45 : List Z7) (x46 x47 : Int) : Option (Int × Int) :=
 (lget x45 x47).bind fun a1 =>
 (Z3w a1).bind fun r2 =>
 if (decide (r2.2 < 0)) = true then
 (Z8R (min x2 r2.1) x45 x46 x47)
 else
 (if (decide (x3 < 0)) = true then
 (Z8R (min x2 r2.1) x45 x46 x47)
 else
 (ZaG (min x2 r2.1) x3 r2.2 x45 x46 x47))
theorem ZlQ x2 x3 (x45 : List Z7) x46 x47 ox45 : Sim (Z3a) (ZaF x2 x3 x45 x46 x47) (ZtH 0 (iv x2) (iv x3) (.p (.lst ox45 (x45.map ZR))) (iv x46) (iv x47) []) := by
 unfold ZaF
 refine zf (ZzY ..)<|ze<|zi fun a1 ha1 => ?_
 refine zo (.cptr (ZG a1 .sh .sh)) ?_ (Eq.trans (by kernel_rfl) (Z3Z (o := ox45) (k := .i64) (n := 7) (e := ZR) (cs := Z2V) Z6c (fun _ => rfl) (by decide) ha1))
 refine zq<|zz (.ptr 0 0) [(Zq (Z7.mk 0 0 0 0 0 ([] : List Zc) ([] : List Z7)) .nl .nl)]<|zt [(Zq a1 .sh .sh)]<|ze<|zq<|zi fun r2 hr2 => ?_
 obtain ⟨qr2, er2, exr2, rfl⟩ := Z82 a1 .sh .sh r2 hr2
 refine zc [] (.p (.tup [(.v (.int .i64 r2.1)), (.v (.int .i64 r2.2))])) [(Zq a1 .sh .sh)] er2<|zq<|zq<|ze ?_
 refine zo (iv (min x2 r2.1)) ?_ (ZcR _ _)
 refine ze<|zq ?_
 refine za (decide (r2.2 < 0)) ?_ ?_
 ·exact zk (Zfa (min x2 r2.1) x45 x46 x47 ox45)
 ·refine zq ?_
  refine za (decide (x3 < 0)) ?_ ?_
  ·exact zk (Zfa (min x2 r2.1) x45 x46 x47 ox45)
  ·exact zk (ZlR (min x2 r2.1) x3 r2.2 x45 x46 x47 ox45)
def Z8Q (x2 x3 : Int) (x45 : List Z7) (x46 x47 : Int) : Option (Int × Int) :=
 if (decide (x47 < x46)) = true then
 (ZaF x2 x3 x45 x46 x47)
 else
 (Z7A x2 x3)
theorem ZlP x2 x3 (x45 : List Z7) x46 x47 ox45 : Sim (Z3a) (Z8Q x2 x3 x45 x46 x47) (Zj0 0 (iv x2) (iv x3) (.p (.lst ox45 (x45.map ZR))) (iv x46) (iv x47) []) := by
 unfold Z8Q
 refine zf (ZzX ..)<|ze<|zq ?_
 refine za (decide (x47 < x46)) ?_ ?_
 ·exact zk (ZlQ x2 x3 x45 x46 x47 ox45)
 ·exact zk (Z8D x2 x3)
theorem ZfF (x2 x3 : Int) (x45 : List Z7) (x46 x47 : Int) {r} (h : Z8Q x2 x3 x45 x46 x47 = some r) : Z8W x2 x3 x45 x46 x47 = some r :=
 Z1a (fun _ _ ha hb => RRun.uniq Zfu (ha .ex) (hb .ex)) (fun ox45 => ZlP x2 x3 x45 x46 x47 ox45 r h)
def Z9t  : Option (Int) :=
 some (0)
theorem ZfH  : Sim (Z6D) (Z9t) (ZoS 0  []) := by
 unfold Z9t
 refine zf (Zys ..)<|ze ?_
 exact zr ((iv 0), []) ⟨_, rfl⟩
def Z9u  : Option (Int) :=
 some (-1)
theorem ZfI  : Sim (Z6D) (Z9u) (ZoT 0  []) := by
 unfold Z9u
 refine zf (Zyu ..)<|ze ?_
 exact zr ((iv (-1)), []) ⟨_, rfl⟩
def ZbA (x0 x1 : Int) : Option (Int) :=
 (ZcD (IntKind.i64.wrap (x0 * x1))).bind fun r1 =>
 some (r1)
theorem Zne x0 x1 : Sim (Z6D) (ZbA x0 x1) (Zsh 0 (iv x0) (iv x1) []) := by
 unfold ZbA
 refine zf (Zyv ..)<|ze<|zq<|zi fun r1 hr1 => ?_
 obtain ⟨qr1, er1, exr1, rfl⟩ := Zkf (IntKind.i64.wrap (x0 * x1)) r1 hr1
 refine zc [] (iv r1) [] er1 ?_
 exact zr ((iv r1), []) ⟨_, rfl⟩
def Zbz (x0 x1 : Int) : Option (Int) :=
 if (decide (x0 < 0)) = true then
 (Z9u)
 else
 (if (decide (x1 < 0)) = true then
 (Z9u)
 else
 (ZbA x0 x1))
theorem Znd x0 x1 : Sim (Z6D) (Zbz x0 x1) (Zsg 0 (iv x0) (iv x1) []) := by
 unfold Zbz
 refine zf (Zyt ..)<|ze<|zq ?_
 refine za (decide (x0 < 0)) ?_ ?_
 ·exact zk (ZfI )
 ·refine zq ?_
  refine za (decide (x1 < 0)) ?_ ?_
  ·exact zk (ZfI )
  ·exact zk (Zne x0 x1)
def Zev (x0 x1 : Int) : Option (Int) :=
 if (x0 == 0) = true then
 (Z9t)
 else
 (if (x1 == 0) = true then
 (Z9t)
 else
 (Zbz x0 x1))
theorem ZpC x0 x1 : Sim (Z6D) (Zev x0 x1) (EE 108 [(iv x0), (iv x1)] []) := by
 unfold Zev
 refine zf (ZE5 ..)<|ze<|ze<|zq ?_
 refine za (x0 == 0) ?_ ?_
 ·exact zk (ZfH )
 ·refine zq ?_
  refine za (x1 == 0) ?_ ?_
  ·exact zk (ZfH )
  ·exact zk (Znd x0 x1)
theorem ZqC (x0 x1 : Int) {r} (h : Zev x0 x1 = some r) : ZbS x0 x1 = some r :=
 Z1a (fun _ _ ha hb => RRun.uniq Zr1 (ha ) (hb )) (ZpC x0 x1 r h)
def Zcb (x0 : Int) : Option (Int) :=
 some (x0)
theorem ZnZ x0 : Sim (ZaT) (Zcb x0) (Zsw 0 (iv x0) []) := by
 unfold Zcb
 refine zf (ZyO ..)<|ze ?_
 exact zr ((iv x0), []) ⟨_, rfl⟩
def Zfy (x0 : Int) : Option (Int) :=
 if (decide (1048576 < x0)) = true then
 (some (-1))
 else
 (Zcb x0)
theorem ZqB x0 : Sim (ZaT) (Zfy x0) (EE 134 [(iv x0)] []) := by
 unfold Zfy
 refine zf (ZEt ..)<|ze<|ze<|zq ?_
 refine za (decide (1048576 < x0)) ?_ ?_
 ·refine ze ?_
  exact zr ((iv (-1)), []) ⟨_, rfl⟩
 ·exact zk (ZnZ x0)
theorem ZrB (x0 : Int) {r} (h : Zfy x0 = some r) : ZcD x0 = some r :=
 Z1a (fun _ _ ha hb => RRun.uniq Zs8 (ha ) (hb )) (ZqB x0 r h)
def ZaZ  : Option (Int) :=
 some (-1)
theorem ZhA  : Sim (Zao) (ZaZ) (ZoR 0  []) := by
 unfold ZaZ
 refine zf (Zyq ..)<|ze ?_
 exact zr ((iv (-1)), []) ⟨_, rfl⟩
def Zd0 (x0 x1 : Int) : Option (Int) :=
 (ZcD (IntKind.i64.wrap (x0 + x1))).bind fun r1 =>
 some (r1)
theorem Zol x0 x1 : Sim (Zao) (Zd0 x0 x1) (Zsd 0 (iv x0) (iv x1) []) := by
 unfold Zd0
 refine zf (Zyr ..)<|ze<|zq<|zi fun r1 hr1 => ?_
 obtain ⟨qr1, er1, exr1, rfl⟩ := Zkf (IntKind.i64.wrap (x0 + x1)) r1 hr1
 refine zc [] (iv r1) [] er1 ?_
 exact zr ((iv r1), []) ⟨_, rfl⟩
def Zh2 (x0 x1 : Int) : Option (Int) :=
 if (decide (x0 < 0)) = true then
 (ZaZ)
 else
 (if (decide (x1 < 0)) = true then
 (ZaZ)
 else
 (Zd0 x0 x1))
theorem ZrC x0 x1 : Sim (Zao) (Zh2 x0 x1) (EE 107 [(iv x0), (iv x1)] []) := by
 unfold Zh2
 refine zf (ZE3 ..)<|ze<|ze<|zq ?_
 refine za (decide (x0 < 0)) ?_ ?_
 ·exact zk (ZhA )
 ·refine zq ?_
  refine za (decide (x1 < 0)) ?_ ?_
  ·exact zk (ZhA )
  ·exact zk (Zol x0 x1)
theorem ZtN (x0 x1 : Int) {r} (h : Zh2 x0 x1 = some r) : Zh6 x0 x1 = some r :=
 Z1a (fun _ _ ha hb => RRun.uniq Zun (ha ) (hb )) (ZrC x0 x1 r h)
def Z5m (x0 : List Z7) : Option (Bool) :=
 (Z6m x0).bind fun r1 =>
 some (decide (0 ≤ r1))
theorem ZdB (x0 : List Z7) ox0 : Sim (Z4e) (Z5m x0) (EE 94 [(.p (.lst ox0 (x0.map ZR))), (.clo 95 [] [])] []) := by
 unfold Z5m
 refine zf (ZH7 ..)<|ze<|ze<|zi fun r1 hr1 => ?_
 obtain ⟨qr1, er1, exr1, rfl⟩ := ZfK x0 .sh r1 hr1
 refine zc [] (iv r1) [] er1<|zq ?_
 exact zr ((bv (decide (0 ≤ r1))), []) ⟨_, rfl⟩
theorem Zeb (x0 : List Z7) {r} (h : Z5m x0 = some r) : Z5u x0 = some r :=
 Z1a (fun _ _ ha hb => RRun.uniq ZeE (ha .ex) (hb .ex)) (fun ox0 => ZdB x0 ox0 r h)
def Z6i (x0 : List Z7) : Option (Int) :=
 Z4n x0 (x0.length : Int) 0
theorem Zfj (x0 : List Z7) ox0 : Sim (Z2g) (Z6i x0) (EE 109 [(.p (.lst ox0 (x0.map ZR))), (.clo 95 [] [])] []) := by
 unfold Z6i
 refine zf (ZE7 ..)<|ze<|ze ?_
 refine zo (iv (x0.length : Int)) ?_ (Eq.trans (by kernel_rfl) (Z38 (P := PP) (t := 96) (d := 98) (by kernel_rfl) ZR (shrO ox0) x0))
 exact zk (Z99 x0 (x0.length : Int) 0 ox0)
theorem ZfJ (x0 : List Z7) {r} (h : Z6i x0 = some r) : Z6m x0 = some r :=
 Z1a (fun _ _ ha hb => RRun.uniq Zas (ha .ex) (hb .ex)) (fun ox0 => Zfj x0 ox0 r h)
def Z5p (x0 : List Z7) (x7 x8 : Int) : Option (Int) :=
 Z4n x0 x7 (IntKind.i64.wrap (x8 + 1))
theorem ZdK (x0 : List Z7) x7 x8 ox0 : Sim (Z2g) (Z5p x0 x7 x8) (Zsl 0 (.p (.lst ox0 (x0.map ZR))) (.clo 95 [] []) (iv x7) (iv x8) []) := by
 unfold Z5p
 refine zf (Zyy ..)<|ze<|zq ?_
 exact zk (Z99 x0 x7 (IntKind.i64.wrap (x8 + 1)) ox0)
def Z4h (x0 : List Z7) (x7 x8 : Int) : Option (Int) :=
 (lget x0 x8).bind fun a1 =>
 (ZaO a1).bind fun r2 =>
 if (r2) = true then
 (some (x8))
 else
 (Z5p x0 x7 x8)
theorem ZdJ (x0 : List Z7) x7 x8 ox0 : Sim (Z2g) (Z4h x0 x7 x8) (Zsk 0 (.p (.lst ox0 (x0.map ZR))) (.clo 95 [] []) (iv x7) (iv x8) []) := by
 unfold Z4h
 refine zf (Zyx ..)<|ze<|ze<|zi fun a1 ha1 => ?_
 refine zo (.cptr (ZG a1 .sh .sh)) ?_ (Eq.trans (by kernel_rfl) (Z3Z (o := (shrO ox0)) (k := .i64) (n := 7) (e := ZR) (cs := Z2V) Z6c (fun _ => rfl) (by decide) ha1))
 refine zq<|zi fun r2 hr2 => ?_
 obtain ⟨qr2, er2, exr2, rfl⟩ := Znc a1 .sh .sh r2 hr2
 refine zv [] (bv r2) [] er2 ?_
 refine za r2 ?_ ?_
 ·refine ze ?_
  exact zr ((iv x8), []) ⟨_, rfl⟩
 ·exact zk (ZdK x0 x7 x8 ox0)
def Z7q  : Option (Int) :=
 some (-1)
theorem ZdL  : Sim (Z2g) (Z7q) (Zsm 0  []) := by
 unfold Z7q
 refine zf (Zyz ..)<|ze ?_
 exact zr ((iv (-1)), []) ⟨_, rfl⟩
def Z3r (x0 : List Z7) (x7 x8 : Int) : Option (Int) :=
 if (decide (x8 < x7)) = true then
 (Z4h x0 x7 x8)
 else
 (Z7q)
theorem ZdI (x0 : List Z7) x7 x8 ox0 : Sim (Z2g) (Z3r x0 x7 x8) (ZiJ 0 (.p (.lst ox0 (x0.map ZR))) (.clo 95 [] []) (iv x7) (iv x8) []) := by
 unfold Z3r
 refine zf (Zyw ..)<|ze<|zq ?_
 refine za (decide (x8 < x7)) ?_ ?_
 ·exact zk (ZdJ x0 x7 x8 ox0)
 ·exact zk (ZdL )
theorem Z6x (x0 : List Z7) (x7 x8 : Int) {r} (h : Z3r x0 x7 x8 = some r) : Z4n x0 x7 x8 = some r :=
 Z1a (fun _ _ ha hb => RRun.uniq Zas (ha .ex) (hb .ex)) (fun ox0 => ZdI x0 x7 x8 ox0 r h)
def ZaH (x0 : Z7) : Option (Bool) :=
 (Z4m x0).bind fun r1 =>
 some (!r1)
theorem ZlS x0 z1S z1t : Sim (Z8N) (ZaH x0) (EE 95 [(.p (.agg (ZG x0 z1S z1t)))] []) := by
 unfold ZaH
 refine zf (ZH8 ..)<|ze<|zx (.ptr 0 0) [(Zq x0 z1S z1t)]<|ze<|zq<|zi fun r1 hr1 => ?_
 obtain ⟨qr1, er1, exr1, rfl⟩ := Zhz x0 .sh .sh r1 hr1
 refine zc [] (bv r1) [(Zq x0 z1S z1t)] er1<|zq ?_
 exact zr ((bv (!r1)), [(Zq x0 z1S z1t)]) ⟨_, rfl⟩
theorem Znb (x0 : Z7) {r} (h : ZaH x0 = some r) : ZaO x0 = some r :=
 Z1a (fun _ _ ha hb => RRun.uniq ZnN (ha .ex .ex) (hb .ex .ex)) (fun z1S z1t => ZlS x0 z1S z1t r h)
def Zj9 (x0 : Z7) : Option (Int) :=
 Z6l 0 x0.Kids (x0.Kids.length : Int) 0 x0
theorem Zqz x0 z1S z1t : Sim (Z4Z) (Zj9 x0) (EE 72 [(.p (.agg (ZG x0 z1S z1t)))] []) := by
 unfold Zj9
 refine zf (ZGN ..)<|ze<|zx (.ptr 0 0) [(Zq x0 z1S z1t)]<|ze<|ze<|zq<|zq ?_
 refine zo (iv (x0.Kids.length : Int)) ?_ (Eq.trans (by kernel_rfl) (Z38 (P := PP) (t := 96) (d := 98) (by kernel_rfl) ZR (shrO z1t) x0.Kids))
 exact zk (Zhy 0 x0.Kids (x0.Kids.length : Int) 0 x0 (shrO z1t) z1S z1t)
theorem ZfE (x0 : Z7) {r} (h : Zj9 x0 = some r) : Z5X x0 = some r :=
 Z1a (fun _ _ ha hb => RRun.uniq Zl9 (ha .ex .ex) (hb .ex .ex)) (fun z1S z1t => Zqz x0 z1S z1t r h)
def Zc9 (x3 : Int) (x8 : List Z7) (x9 x10 : Int) (b0 : Z7) : Option (Int) :=
 (lget x8 x10).bind fun a1 =>
 (Z5X a1).bind fun r2 =>
 Z6l (min (IntKind.i64.wrap (x3 + r2)) 1048576) x8 x9 (IntKind.i64.wrap (x10 + 1)) b0
theorem ZnW x3 (x8 : List Z7) x9 x10 b0 ox8 z1R z1z : Sim (Z4Z) (Zc9 x3 x8 x9 x10 b0) (ZvC 0 (.ptr 0 0) (iv x3) (.p (.lst ox8 (x8.map ZR))) (iv x9) (iv x10) [(Zq b0 z1R z1z)]) := by
 unfold Zc9
 refine zf (ZBw ..)<|ze<|zi fun a1 ha1 => ?_
 refine zo (.cptr (ZG a1 .sh .sh)) ?_ (Eq.trans (by kernel_rfl) (Z3Z (o := ox8) (k := .i64) (n := 7) (e := ZR) (cs := Z2V) Z6c (fun _ => rfl) (by decide) ha1))
 refine zq<|zz (.ptr 1 0) [(Zq b0 z1R z1z), (Zq (Z7.mk 0 0 0 0 0 ([] : List Zc) ([] : List Z7)) .nl .nl)]<|zt [(Zq b0 z1R z1z), (Zq a1 .sh .sh)]<|ze<|zq<|zi fun r2 hr2 => ?_
 obtain ⟨qr2, er2, exr2, rfl⟩ := Zke a1 .sh .sh r2 hr2
 refine zc [] (iv r2) [(Zq b0 z1R z1z), (Zq a1 .sh .sh)] er2<|zq ?_
 refine zo (iv (min (IntKind.i64.wrap (x3 + r2)) 1048576)) ?_ (ZcR _ _)
 refine ze<|zq ?_
 exact zk (Zhy (min (IntKind.i64.wrap (x3 + r2)) 1048576) x8 x9 (IntKind.i64.wrap (x10 + 1)) b0 ox8 z1R z1z)
def Z1B (x3 : Int) : Option (Int) :=
 some (min x3 1048576)
theorem Z1E x3 : Sim (Z4Z) (Z1B x3) (Z4c 0 (iv x3) []) := by
 unfold Z1B
 refine zf (ZzW ..)<|ze ?_
 refine zo (iv (min x3 1048576)) ?_ (ZcR _ _)
 exact zr ((iv (min x3 1048576)), []) ⟨_, rfl⟩
def Z1M (x3 : Int) (b0 : Z7) : Option (Int) :=
 if (b0.Mode == 2) = true then
 (Z1B (IntKind.i64.wrap (x3 + 2)))
 else
 (Z1B x3)
theorem Z1W x3 b0 z1R z1z : Sim (Z4Z) (Z1M x3 b0) (Z5A 0 (.ptr 0 0) (iv x3) [(Zq b0 z1R z1z)]) := by
 unfold Z1M
 refine zf (ZzV ..)<|ze<|zq<|zq<|zq ?_
 refine za (b0.Mode == 2) ?_ ?_
 ·refine ze<|zq ?_
  exact zk (Z1E (IntKind.i64.wrap (x3 + 2)))
 ·exact zk (Z1E x3)
def Z5l (x3 : Int) (b0 : Z7) : Option (Int) :=
 if (b0.Kind == 1) = true then
 (if (b0.Kind == 1) = true then
 (some (1))
 else
 (if (b0.Kind == 3) = true then
 (Z1B ((IntKind.i64.wrap (x3 + (IntKind.i64.wrap (2 * (IntKind.i64.wrap ((b0.Kids.length : Int) - 1))))))))
 else
 (if (b0.Kind == 5) = true then
 (if (b0.Kind == 5) = true then
 (Z1B (IntKind.i64.wrap (x3 + 2)))
 else
 (if (b0.Kind == 4) = true then
 (if (decide (b0.Hi < 0)) = true then
 (Z1M (IntKind.i64.wrap ((IntKind.i64.wrap (b0.Lo * x3)) + (IntKind.i64.wrap (x3 + 4)))) b0)
 else
 (Z1M ((IntKind.i64.wrap ((IntKind.i64.wrap (b0.Lo * x3)) + (IntKind.i64.wrap ((IntKind.i64.wrap (b0.Hi - b0.Lo)) * (IntKind.i64.wrap (x3 + 1))))))) b0))
 else
 (Z1B x3)))
 else
 (if (b0.Kind == 7) = true then
 (if (b0.Kind == 7) = true then
 (Z1B (IntKind.i64.wrap (x3 + 2)))
 else
 (if (b0.Kind == 4) = true then
 (if (decide (b0.Hi < 0)) = true then
 (Z1M (IntKind.i64.wrap ((IntKind.i64.wrap (b0.Lo * x3)) + (IntKind.i64.wrap (x3 + 4)))) b0)
 else
 (Z1M ((IntKind.i64.wrap ((IntKind.i64.wrap (b0.Lo * x3)) + (IntKind.i64.wrap ((IntKind.i64.wrap (b0.Hi - b0.Lo)) * (IntKind.i64.wrap (x3 + 1))))))) b0))
 else
 (Z1B x3)))
 else
 (if (b0.Kind == 8) = true then
 (Z1B (IntKind.i64.wrap (x3 + 2)))
 else
 (if (b0.Kind == 4) = true then
 (if (decide (b0.Hi < 0)) = true then
 (Z1M (IntKind.i64.wrap ((IntKind.i64.wrap (b0.Lo * x3)) + (IntKind.i64.wrap (x3 + 4)))) b0)
 else
 (Z1M ((IntKind.i64.wrap ((IntKind.i64.wrap (b0.Lo * x3)) + (IntKind.i64.wrap ((IntKind.i64.wrap (b0.Hi - b0.Lo)) * (IntKind.i64.wrap (x3 + 1))))))) b0))
 else
 (Z1B x3)))))))
 else
 (if (b0.Kind == 6) = true then
 (if (b0.Kind == 6) = true then
 (some (1))
 else
 (if (b0.Kind == 3) = true then
 (Z1B ((IntKind.i64.wrap (x3 + (IntKind.i64.wrap (2 * (IntKind.i64.wrap ((b0.Kids.length : Int) - 1))))))))
 else
 (if (b0.Kind == 5) = true then
 (if (b0.Kind == 5) = true then
 (Z1B (IntKind.i64.wrap (x3 + 2)))
 else
 (if (b0.Kind == 4) = true then
 (if (decide (b0.Hi < 0)) = true then
 (Z1M (IntKind.i64.wrap ((IntKind.i64.wrap (b0.Lo * x3)) + (IntKind.i64.wrap (x3 + 4)))) b0)
 else
 (Z1M ((IntKind.i64.wrap ((IntKind.i64.wrap (b0.Lo * x3)) + (IntKind.i64.wrap ((IntKind.i64.wrap (b0.Hi - b0.Lo)) * (IntKind.i64.wrap (x3 + 1))))))) b0))
 else
 (Z1B x3)))
 else
 (if (b0.Kind == 7) = true then
 (if (b0.Kind == 7) = true then
 (Z1B (IntKind.i64.wrap (x3 + 2)))
 else
 (if (b0.Kind == 4) = true then
 (if (decide (b0.Hi < 0)) = true then
 (Z1M (IntKind.i64.wrap ((IntKind.i64.wrap (b0.Lo * x3)) + (IntKind.i64.wrap (x3 + 4)))) b0)
 else
 (Z1M ((IntKind.i64.wrap ((IntKind.i64.wrap (b0.Lo * x3)) + (IntKind.i64.wrap ((IntKind.i64.wrap (b0.Hi - b0.Lo)) * (IntKind.i64.wrap (x3 + 1))))))) b0))
 else
 (Z1B x3)))
 else
 (if (b0.Kind == 8) = true then
 (Z1B (IntKind.i64.wrap (x3 + 2)))
 else
 (if (b0.Kind == 4) = true then
 (if (decide (b0.Hi < 0)) = true then
 (Z1M (IntKind.i64.wrap ((IntKind.i64.wrap (b0.Lo * x3)) + (IntKind.i64.wrap (x3 + 4)))) b0)
 else
 (Z1M ((IntKind.i64.wrap ((IntKind.i64.wrap (b0.Lo * x3)) + (IntKind.i64.wrap ((IntKind.i64.wrap (b0.Hi - b0.Lo)) * (IntKind.i64.wrap (x3 + 1))))))) b0))
 else
 (Z1B x3)))))))
 else
 (if (b0.Kind == 9) = true then
 (some (1))
 else
 (if (b0.Kind == 3) = true then
 (Z1B ((IntKind.i64.wrap (x3 + (IntKind.i64.wrap (2 * (IntKind.i64.wrap ((b0.Kids.length : Int) - 1))))))))
 else
 (if (b0.Kind == 5) = true then
 (if (b0.Kind == 5) = true then
 (Z1B (IntKind.i64.wrap (x3 + 2)))
 else
 (if (b0.Kind == 4) = true then
 (if (decide (b0.Hi < 0)) = true then
 (Z1M (IntKind.i64.wrap ((IntKind.i64.wrap (b0.Lo * x3)) + (IntKind.i64.wrap (x3 + 4)))) b0)
 else
 (Z1M ((IntKind.i64.wrap ((IntKind.i64.wrap (b0.Lo * x3)) + (IntKind.i64.wrap ((IntKind.i64.wrap (b0.Hi - b0.Lo)) * (IntKind.i64.wrap (x3 + 1))))))) b0))
 else
 (Z1B x3)))
 else
 (if (b0.Kind == 7) = true then
 (if (b0.Kind == 7) = true then
 (Z1B (IntKind.i64.wrap (x3 + 2)))
 else
 (if (b0.Kind == 4) = true then
 (if (decide (b0.Hi < 0)) = true then
 (Z1M (IntKind.i64.wrap ((IntKind.i64.wrap (b0.Lo * x3)) + (IntKind.i64.wrap (x3 + 4)))) b0)
 else
 (Z1M ((IntKind.i64.wrap ((IntKind.i64.wrap (b0.Lo * x3)) + (IntKind.i64.wrap ((IntKind.i64.wrap (b0.Hi - b0.Lo)) * (IntKind.i64.wrap (x3 + 1))))))) b0))
 else
 (Z1B x3)))
 else
 (if (b0.Kind == 8) = true then
 (Z1B (IntKind.i64.wrap (x3 + 2)))
 else
 (if (b0.Kind == 4) = true then
 (if (decide (b0.Hi < 0)) = true then
 (Z1M (IntKind.i64.wrap ((IntKind.i64.wrap (b0.Lo * x3)) + (IntKind.i64.wrap (x3 + 4)))) b0)
 else
 (Z1M ((IntKind.i64.wrap ((IntKind.i64.wrap (b0.Lo * x3)) + (IntKind.i64.wrap ((IntKind.i64.wrap (b0.Hi - b0.Lo)) * (IntKind.i64.wrap (x3 + 1))))))) b0))
 else
 (Z1B x3))))))))
theorem ZnX x3 b0 z1R z1z : Sim (Z4Z) (Z5l x3 b0) (ZvD 0 (.ptr 0 0) (iv x3) [(Zq b0 z1R z1z)]) := by
 unfold Z5l
 refine zf (ZBx ..)<|ze<|zq<|zq<|ze<|zq ?_
 refine za (b0.Kind == 1) ?_ ?_
 ·refine za (b0.Kind == 1) ?_ ?_
  ·refine ze ?_
   exact zr ((iv 1), [(Zq b0 z1R z1z)]) ⟨_, rfl⟩
  ·refine ze<|zq ?_
   refine za (b0.Kind == 3) ?_ ?_
   ·refine ze<|zq<|zq ?_
    refine zo (iv (b0.Kids.length : Int)) ?_ (Eq.trans (by kernel_rfl) (Z38 (P := PP) (t := 96) (d := 98) (by kernel_rfl) ZR (shrO z1z) b0.Kids))
    refine zq<|zq<|zq ?_
    exact zk (Z1E ((IntKind.i64.wrap (x3 + (IntKind.i64.wrap (2 * (IntKind.i64.wrap ((b0.Kids.length : Int) - 1))))))))
   ·refine ze<|zq ?_
    refine za (b0.Kind == 5) ?_ ?_
    ·refine za (b0.Kind == 5) ?_ ?_
     ·refine ze<|zq ?_
      exact zk (Z1E (IntKind.i64.wrap (x3 + 2)))
     ·refine ze<|zq ?_
      refine za (b0.Kind == 4) ?_ ?_
      ·refine ze<|ze<|zq<|zq<|zq<|ze<|zq<|zq<|zq ?_
       refine za (decide (b0.Hi < 0)) ?_ ?_
       ·refine ze<|zq<|zq ?_
        exact zk (Z1W (IntKind.i64.wrap ((IntKind.i64.wrap (b0.Lo * x3)) + (IntKind.i64.wrap (x3 + 4)))) b0 z1R z1z)
       ·refine ze<|zq<|zq<|zq<|zq<|zq<|zq<|zq<|zq ?_
        exact zk (Z1W ((IntKind.i64.wrap ((IntKind.i64.wrap (b0.Lo * x3)) + (IntKind.i64.wrap ((IntKind.i64.wrap (b0.Hi - b0.Lo)) * (IntKind.i64.wrap (x3 + 1))))))) b0 z1R z1z)
      ·exact zk (Z1E x3)
    ·refine ze<|zq ?_
     refine za (b0.Kind == 7) ?_ ?_
     ·refine za (b0.Kind == 7) ?_ ?_
      ·refine ze<|zq ?_
       exact zk (Z1E (IntKind.i64.wrap (x3 + 2)))
      ·refine ze<|zq ?_
       refine za (b0.Kind == 4) ?_ ?_
       ·refine ze<|ze<|zq<|zq<|zq<|ze<|zq<|zq<|zq ?_
        refine za (decide (b0.Hi < 0)) ?_ ?_
        ·refine ze<|zq<|zq ?_
         exact zk (Z1W (IntKind.i64.wrap ((IntKind.i64.wrap (b0.Lo * x3)) + (IntKind.i64.wrap (x3 + 4)))) b0 z1R z1z)
        ·refine ze<|zq<|zq<|zq<|zq<|zq<|zq<|zq<|zq ?_
         exact zk (Z1W ((IntKind.i64.wrap ((IntKind.i64.wrap (b0.Lo * x3)) + (IntKind.i64.wrap ((IntKind.i64.wrap (b0.Hi - b0.Lo)) * (IntKind.i64.wrap (x3 + 1))))))) b0 z1R z1z)
       ·exact zk (Z1E x3)
     ·refine ze<|zq ?_
      refine za (b0.Kind == 8) ?_ ?_
      ·refine ze<|zq ?_
       exact zk (Z1E (IntKind.i64.wrap (x3 + 2)))
      ·refine ze<|zq ?_
       refine za (b0.Kind == 4) ?_ ?_
       ·refine ze<|ze<|zq<|zq<|zq<|ze<|zq<|zq<|zq ?_
        refine za (decide (b0.Hi < 0)) ?_ ?_
        ·refine ze<|zq<|zq ?_
         exact zk (Z1W (IntKind.i64.wrap ((IntKind.i64.wrap (b0.Lo * x3)) + (IntKind.i64.wrap (x3 + 4)))) b0 z1R z1z)
        ·refine ze<|zq<|zq<|zq<|zq<|zq<|zq<|zq<|zq ?_
         exact zk (Z1W ((IntKind.i64.wrap ((IntKind.i64.wrap (b0.Lo * x3)) + (IntKind.i64.wrap ((IntKind.i64.wrap (b0.Hi - b0.Lo)) * (IntKind.i64.wrap (x3 + 1))))))) b0 z1R z1z)
       ·exact zk (Z1E x3)
 ·refine ze<|zq ?_
  refine za (b0.Kind == 6) ?_ ?_
  ·refine za (b0.Kind == 6) ?_ ?_
   ·refine ze ?_
    exact zr ((iv 1), [(Zq b0 z1R z1z)]) ⟨_, rfl⟩
   ·refine ze<|zq ?_
    refine za (b0.Kind == 3) ?_ ?_
    ·refine ze<|zq<|zq ?_
     refine zo (iv (b0.Kids.length : Int)) ?_ (Eq.trans (by kernel_rfl) (Z38 (P := PP) (t := 96) (d := 98) (by kernel_rfl) ZR (shrO z1z) b0.Kids))
     refine zq<|zq<|zq ?_
     exact zk (Z1E ((IntKind.i64.wrap (x3 + (IntKind.i64.wrap (2 * (IntKind.i64.wrap ((b0.Kids.length : Int) - 1))))))))
    ·refine ze<|zq ?_
     refine za (b0.Kind == 5) ?_ ?_
     ·refine za (b0.Kind == 5) ?_ ?_
      ·refine ze<|zq ?_
       exact zk (Z1E (IntKind.i64.wrap (x3 + 2)))
      ·refine ze<|zq ?_
       refine za (b0.Kind == 4) ?_ ?_
       ·refine ze<|ze<|zq<|zq<|zq<|ze<|zq<|zq<|zq ?_
        refine za (decide (b0.Hi < 0)) ?_ ?_
        ·refine ze<|zq<|zq ?_
         exact zk (Z1W (IntKind.i64.wrap ((IntKind.i64.wrap (b0.Lo * x3)) + (IntKind.i64.wrap (x3 + 4)))) b0 z1R z1z)
        ·refine ze<|zq<|zq<|zq<|zq<|zq<|zq<|zq<|zq ?_
         exact zk (Z1W ((IntKind.i64.wrap ((IntKind.i64.wrap (b0.Lo * x3)) + (IntKind.i64.wrap ((IntKind.i64.wrap (b0.Hi - b0.Lo)) * (IntKind.i64.wrap (x3 + 1))))))) b0 z1R z1z)
       ·exact zk (Z1E x3)
     ·refine ze<|zq ?_
      refine za (b0.Kind == 7) ?_ ?_
      ·refine za (b0.Kind == 7) ?_ ?_
       ·refine ze<|zq ?_
        exact zk (Z1E (IntKind.i64.wrap (x3 + 2)))
       ·refine ze<|zq ?_
        refine za (b0.Kind == 4) ?_ ?_
        ·refine ze<|ze<|zq<|zq<|zq<|ze<|zq<|zq<|zq ?_
         refine za (decide (b0.Hi < 0)) ?_ ?_
         ·refine ze<|zq<|zq ?_
          exact zk (Z1W (IntKind.i64.wrap ((IntKind.i64.wrap (b0.Lo * x3)) + (IntKind.i64.wrap (x3 + 4)))) b0 z1R z1z)
         ·refine ze<|zq<|zq<|zq<|zq<|zq<|zq<|zq<|zq ?_
          exact zk (Z1W ((IntKind.i64.wrap ((IntKind.i64.wrap (b0.Lo * x3)) + (IntKind.i64.wrap ((IntKind.i64.wrap (b0.Hi - b0.Lo)) * (IntKind.i64.wrap (x3 + 1))))))) b0 z1R z1z)
        ·exact zk (Z1E x3)
      ·refine ze<|zq ?_
       refine za (b0.Kind == 8) ?_ ?_
       ·refine ze<|zq ?_
        exact zk (Z1E (IntKind.i64.wrap (x3 + 2)))
       ·refine ze<|zq ?_
        refine za (b0.Kind == 4) ?_ ?_
        ·refine ze<|ze<|zq<|zq<|zq<|ze<|zq<|zq<|zq ?_
         refine za (decide (b0.Hi < 0)) ?_ ?_
         ·refine ze<|zq<|zq ?_
          exact zk (Z1W (IntKind.i64.wrap ((IntKind.i64.wrap (b0.Lo * x3)) + (IntKind.i64.wrap (x3 + 4)))) b0 z1R z1z)
         ·refine ze<|zq<|zq<|zq<|zq<|zq<|zq<|zq<|zq ?_
          exact zk (Z1W ((IntKind.i64.wrap ((IntKind.i64.wrap (b0.Lo * x3)) + (IntKind.i64.wrap ((IntKind.i64.wrap (b0.Hi - b0.Lo)) * (IntKind.i64.wrap (x3 + 1))))))) b0 z1R z1z)
        ·exact zk (Z1E x3)
  ·refine ze<|zq ?_
   refine za (b0.Kind == 9) ?_ ?_
   ·refine ze ?_
    exact zr ((iv 1), [(Zq b0 z1R z1z)]) ⟨_, rfl⟩
   ·refine ze<|zq ?_
    refine za (b0.Kind == 3) ?_ ?_
    ·refine ze<|zq<|zq ?_
     refine zo (iv (b0.Kids.length : Int)) ?_ (Eq.trans (by kernel_rfl) (Z38 (P := PP) (t := 96) (d := 98) (by kernel_rfl) ZR (shrO z1z) b0.Kids))
     refine zq<|zq<|zq ?_
     exact zk (Z1E ((IntKind.i64.wrap (x3 + (IntKind.i64.wrap (2 * (IntKind.i64.wrap ((b0.Kids.length : Int) - 1))))))))
    ·refine ze<|zq ?_
     refine za (b0.Kind == 5) ?_ ?_
     ·refine za (b0.Kind == 5) ?_ ?_
      ·refine ze<|zq ?_
       exact zk (Z1E (IntKind.i64.wrap (x3 + 2)))
      ·refine ze<|zq ?_
       refine za (b0.Kind == 4) ?_ ?_
       ·refine ze<|ze<|zq<|zq<|zq<|ze<|zq<|zq<|zq ?_
        refine za (decide (b0.Hi < 0)) ?_ ?_
        ·refine ze<|zq<|zq ?_
         exact zk (Z1W (IntKind.i64.wrap ((IntKind.i64.wrap (b0.Lo * x3)) + (IntKind.i64.wrap (x3 + 4)))) b0 z1R z1z)
        ·refine ze<|zq<|zq<|zq<|zq<|zq<|zq<|zq<|zq ?_
         exact zk (Z1W ((IntKind.i64.wrap ((IntKind.i64.wrap (b0.Lo * x3)) + (IntKind.i64.wrap ((IntKind.i64.wrap (b0.Hi - b0.Lo)) * (IntKind.i64.wrap (x3 + 1))))))) b0 z1R z1z)
       ·exact zk (Z1E x3)
     ·refine ze<|zq ?_
      refine za (b0.Kind == 7) ?_ ?_
      ·refine za (b0.Kind == 7) ?_ ?_
       ·refine ze<|zq ?_
        exact zk (Z1E (IntKind.i64.wrap (x3 + 2)))
       ·refine ze<|zq ?_
        refine za (b0.Kind == 4) ?_ ?_
        ·refine ze<|ze<|zq<|zq<|zq<|ze<|zq<|zq<|zq ?_
         refine za (decide (b0.Hi < 0)) ?_ ?_
         ·refine ze<|zq<|zq ?_
          exact zk (Z1W (IntKind.i64.wrap ((IntKind.i64.wrap (b0.Lo * x3)) + (IntKind.i64.wrap (x3 + 4)))) b0 z1R z1z)
         ·refine ze<|zq<|zq<|zq<|zq<|zq<|zq<|zq<|zq ?_
          exact zk (Z1W ((IntKind.i64.wrap ((IntKind.i64.wrap (b0.Lo * x3)) + (IntKind.i64.wrap ((IntKind.i64.wrap (b0.Hi - b0.Lo)) * (IntKind.i64.wrap (x3 + 1))))))) b0 z1R z1z)
        ·exact zk (Z1E x3)
      ·refine ze<|zq ?_
       refine za (b0.Kind == 8) ?_ ?_
       ·refine ze<|zq ?_
        exact zk (Z1E (IntKind.i64.wrap (x3 + 2)))
       ·refine ze<|zq ?_
        refine za (b0.Kind == 4) ?_ ?_
        ·refine ze<|ze<|zq<|zq<|zq<|ze<|zq<|zq<|zq ?_
         refine za (decide (b0.Hi < 0)) ?_ ?_
         ·refine ze<|zq<|zq ?_
          exact zk (Z1W (IntKind.i64.wrap ((IntKind.i64.wrap (b0.Lo * x3)) + (IntKind.i64.wrap (x3 + 4)))) b0 z1R z1z)
         ·refine ze<|zq<|zq<|zq<|zq<|zq<|zq<|zq<|zq ?_
          exact zk (Z1W ((IntKind.i64.wrap ((IntKind.i64.wrap (b0.Lo * x3)) + (IntKind.i64.wrap ((IntKind.i64.wrap (b0.Hi - b0.Lo)) * (IntKind.i64.wrap (x3 + 1))))))) b0 z1R z1z)
        ·exact zk (Z1E x3)
def Zad (x3 : Int) (x8 : List Z7) (x9 x10 : Int) (b0 : Z7) : Option (Int) :=
 if (decide (x10 < x9)) = true then
 (Zc9 x3 x8 x9 x10 b0)
 else
 (Z5l x3 b0)
theorem ZnV x3 (x8 : List Z7) x9 x10 b0 ox8 z1R z1z : Sim (Z4Z) (Zad x3 x8 x9 x10 b0) (Zlq 0 (.ptr 0 0) (iv x3) (.p (.lst ox8 (x8.map ZR))) (iv x9) (iv x10) [(Zq b0 z1R z1z)]) := by
 unfold Zad
 refine zf (ZBv ..)<|ze<|zq ?_
 refine za (decide (x10 < x9)) ?_ ?_
 ·exact zk (ZnW x3 x8 x9 x10 b0 ox8 z1R z1z)
 ·exact zk (ZnX x3 b0 z1R z1z)
theorem Zhx (x3 : Int) (x8 : List Z7) (x9 x10 : Int) (b0 : Z7) {r} (h : Zad x3 x8 x9 x10 b0 = some r) : Z6l x3 x8 x9 x10 b0 = some r :=
 Z1a (fun _ _ ha hb => RRun.uniq Zl9 (ha .ex .ex .ex) (hb .ex .ex .ex)) (fun ox8 z1R z1z => ZnV x3 x8 x9 x10 b0 ox8 z1R z1z r h)
def Zae (b0 : ZC) : Option (ZO) :=
 Z8q b0.Rules (b0.Rules.length : Int) 0
theorem ZkT b0 b1 zB : Sim (Z3Q) (Zae b0) (Zv5 0 (.ptr 0 0) (.ptr 1 0) [(Zx b0 zB), (ZY b1)]) := by
 unfold Zae
 refine zf (ZAY ..)<|ze<|zq<|zq ?_
 refine zo (iv (b0.Rules.length : Int)) ?_ (Eq.trans (by kernel_rfl) (Z38 (P := PP) (t := 22) (d := 43) (by kernel_rfl) ZD (shrO zB) b0.Rules))
 exact zk (Zfd b0.Rules (b0.Rules.length : Int) 0 b0 b1 (shrO zB) zB)
def Zcc (x0 : ZC) : Option (ZO) :=
 (Z81 x0).bind fun r1 =>
 if (!r1) = true then
 (some (ZO.mk 10 0 0))
 else
 (Zae x0)
theorem Zo0 x0 z12 : Sim (Z3Q) (Zcc x0) (EE 16 [(.p (.agg (Z1w x0 z12)))] []) := by
 unfold Zcc
 refine zf (ZGd ..)<|ze<|zx (.ptr 0 0) [(Zx x0 z12)]<|zz (.ptr 1 0) [(Zx x0 z12), (ZY (ZO.mk 0 0 0))]<|ze<|zq<|zi fun r1 hr1 => ?_
 obtain ⟨qr1, er1, exr1, rfl⟩ := Zc3 x0 .sh r1 hr1
 refine zc [] (bv r1) [(Zx x0 z12), (ZY (ZO.mk 0 0 0))] er1<|zq ?_
 refine za (!r1) ?_ ?_
 ·refine ze<|zq<|zt [(Zx x0 z12), (ZY (ZO.mk 10 0 0))] ?_
  exact zr ((.p (.agg (Z1u (ZO.mk 10 0 0)))), [(Zx x0 z12), (ZY (ZO.mk 10 0 0))]) ⟨_, rfl⟩
 ·exact zk (ZkT x0 (ZO.mk 0 0 0) z12)
theorem Zoo (x0 : ZC) {r} (h : Zcc x0 = some r) : Z8F x0 = some r :=
 Z1a (fun _ _ ha hb => RRun.uniq Zi5 (ha .ex) (hb .ex)) (fun z12 => Zo0 x0 z12 r h)
def Z9N (x11 : List Zw) (x12 x13 : Int) : Option (ZO) :=
 Z8q x11 x12 (IntKind.i64.wrap (x13 + 1))
theorem Zk5 (x11 : List Zw) x12 x13 b0 b1 ox11 zB : Sim (Z3Q) (Z9N x11 x12 x13) (ZsS 0 (.ptr 1 0) (.p (.lst ox11 (x11.map ZD))) (iv x12) (iv x13) [(Zx b0 zB), (ZY b1)]) := by
 unfold Z9N
 refine zf (Zz5 ..)<|ze<|zq ?_
 exact zk (Zfd x11 x12 (IntKind.i64.wrap (x13 + 1)) b0 b1 ox11 zB)
def Zaf (x11 : List Zw) (x12 x13 : Int) : Option (ZO) :=
 (lget x11 x13).bind fun a1 =>
 (Z5g a1.Pattern).bind fun r2 =>
 if (r2.Code != 0) = true then
 (some (ZO.mk r2.Code a1.ID r2.At))
 else
 (Z9N x11 x12 x13)
theorem ZkU (x11 : List Zw) x12 x13 b0 b1 ox11 zB : Sim (Z3Q) (Zaf x11 x12 x13) (Zv6 0 (.ptr 1 0) (.p (.lst ox11 (x11.map ZD))) (iv x12) (iv x13) [(Zx b0 zB), (ZY b1)]) := by
 unfold Zaf
 refine zf (ZAZ ..)<|ze<|zi fun a1 ha1 => ?_
 refine zo (.cptr (Z1J a1)) ?_ (Eq.trans (by kernel_rfl) (Z3Z (o := ox11) (k := .i64) (n := 5) (e := ZD) (cs := Z5U) (fun _ => rfl) (fun _ => rfl) (by decide) ha1))
 refine zq<|zz (.ptr 2 0) [(Zx b0 zB), (ZY b1), (Z1v (Zw.mk 0 0 0 0 (ByteArray.mk #[])))]<|zt [(Zx b0 zB), (ZY b1), (Z1v a1)]<|ze<|zq<|zq<|zi fun r2 hr2 => ?_
 obtain ⟨qr2, er2, exr2, rfl⟩ := ZfQ a1.Pattern r2 hr2
 refine zc [] (.p (.agg (Z1u r2))) [(Zx b0 zB), (ZY b1), (Z1v a1)] er2<|zz (.ptr 3 0) [(Zx b0 zB), (ZY b1), (Z1v a1), (ZY (ZO.mk 0 0 0))]<|zt [(Zx b0 zB), (ZY b1), (Z1v a1), (ZY r2)]<|ze<|zq<|zq<|zq ?_
 refine za (r2.Code != 0) ?_ ?_
 ·refine ze<|zq<|zq<|zq<|zt [(Zx b0 zB), (ZY b1), (Z1v a1), (ZY (ZO.mk r2.Code a1.ID r2.At))]<|ze<|zq<|zt [(Zx b0 zB), (ZY (ZO.mk r2.Code a1.ID r2.At)), (Z1v a1), (ZY (ZO.mk r2.Code a1.ID r2.At))] ?_
  exact zr ((.p (.agg (Z1u (ZO.mk r2.Code a1.ID r2.At)))), [(Zx b0 zB), (ZY (ZO.mk r2.Code a1.ID r2.At)), (Z1v a1), (ZY (ZO.mk r2.Code a1.ID r2.At))]) ⟨_, rfl⟩
 ·exact zk (Zk5 x11 x12 x13 b0 b1 ox11 zB)
def Z9O  : Option (ZO) :=
 some (ZO.mk 0 0 0)
theorem Zk6 b0 b1 zB : Sim (Z3Q) (Z9O) (ZsT 0 (.ptr 1 0) [(Zx b0 zB), (ZY b1)]) := by
 unfold Z9O
 refine zf (Zz6 ..)<|ze<|zq<|zt [(Zx b0 zB), (ZY (ZO.mk 0 0 0))] ?_
 exact zr ((.p (.agg (Z1u (ZO.mk 0 0 0)))), [(Zx b0 zB), (ZY (ZO.mk 0 0 0))]) ⟨_, rfl⟩
def Z8m (x11 : List Zw) (x12 x13 : Int) : Option (ZO) :=
 if (decide (x13 < x12)) = true then
 (Zaf x11 x12 x13)
 else
 (Z9O)
theorem ZkS (x11 : List Zw) x12 x13 b0 b1 ox11 zB : Sim (Z3Q) (Z8m x11 x12 x13) (Zli 0 (.ptr 1 0) (.p (.lst ox11 (x11.map ZD))) (iv x12) (iv x13) [(Zx b0 zB), (ZY b1)]) := by
 unfold Z8m
 refine zf (ZAX ..)<|ze<|zq ?_
 refine za (decide (x13 < x12)) ?_ ?_
 ·exact zk (ZkU x11 x12 x13 b0 b1 ox11 zB)
 ·exact zk (Zk6 b0 b1 zB)
theorem Zfc (x11 : List Zw) (x12 x13 : Int) {r} (h : Z8m x11 x12 x13 = some r) : Z8q x11 x12 x13 = some r :=
 Z1a (fun _ _ ha hb => RRun.uniq Zi5 (ha default default .ex .ex) (hb default default .ex .ex)) (fun b0 b1 ox11 zB => ZkS x11 x12 x13 b0 b1 ox11 zB r h)
def Z7O  : Option (Bool) :=
 some (false)
theorem Zdv  : Sim (Z2O) (Z7O) (Zrf 0  []) := by
 unfold Z7O
 refine zf (ZB1 ..)<|ze ?_
 exact zr ((bv false), []) ⟨_, rfl⟩
def Z9I (b0 : ZC) : Option (Bool) :=
 Z7S 0 b0.Rules (b0.Rules.length : Int) 0
theorem ZjZ b0 zB : Sim (Z2O) (Z9I b0) (Zvd 0 (.ptr 0 0) [(Zx b0 zB)]) := by
 unfold Z9I
 refine zf (ZB2 ..)<|ze<|ze<|zq<|zq ?_
 refine zo (iv (b0.Rules.length : Int)) ?_ (Eq.trans (by kernel_rfl) (Z38 (P := PP) (t := 22) (d := 43) (by kernel_rfl) ZD (shrO zB) b0.Rules))
 exact zk (Ze8 0 b0.Rules (b0.Rules.length : Int) 0 (shrO zB))
def Zbv (x0 : ZC) : Option (Bool) :=
 (Z7T x0).bind fun r1 =>
 if (!r1) = true then
 (Z7O)
 else
 (if (decide (16 < (x0.Rules.length : Int))) = true then
 (Z7O)
 else
 (Z9I x0))
theorem Zn1 x0 z12 : Sim (Z2O) (Zbv x0) (EE 20 [(.p (.agg (Z1w x0 z12)))] []) := by
 unfold Zbv
 refine zf (ZGf ..)<|ze<|zx (.ptr 0 0) [(Zx x0 z12)]<|ze<|zq<|zi fun r1 hr1 => ?_
 obtain ⟨qr1, er1, exr1, rfl⟩ := Ze9 x0 .sh r1 hr1
 refine zc [] (bv r1) [(Zx x0 z12)] er1<|zq ?_
 refine za (!r1) ?_ ?_
 ·exact zk (Zdv )
 ·refine zq<|zq ?_
  refine zo (iv (x0.Rules.length : Int)) ?_ (Eq.trans (by kernel_rfl) (Z38 (P := PP) (t := 22) (d := 43) (by kernel_rfl) ZD (shrO z12) x0.Rules))
  refine zq ?_
  refine za (decide (16 < (x0.Rules.length : Int))) ?_ ?_
  ·exact zk (Zdv )
  ·exact zk (ZjZ x0 z12)
theorem ZnU (x0 : ZC) {r} (h : Zbv x0 = some r) : Z81 x0 = some r :=
 Z1a (fun _ _ ha hb => RRun.uniq Zh9 (ha .ex) (hb .ex)) (fun z12 => Zn1 x0 z12 r h)
def Z7P  : Option (Bool) :=
 some (false)
theorem Zdw  : Sim (Z2O) (Z7P) (Zrg 0  []) := by
 unfold Z7P
 refine zf (ZB4 ..)<|ze ?_
 exact zr ((bv false), []) ⟨_, rfl⟩
def Z92 (x3 : Int) (x16 : List Zw) (x17 x18 : Int) : Option (Bool) :=
 Z7S x3 x16 x17 (IntKind.i64.wrap (x18 + 1))
theorem Zjt x3 (x16 : List Zw) x17 x18 ox16 : Sim (Z2O) (Z92 x3 x16 x17 x18) (Ztj 0 (iv x3) (.p (.lst ox16 (x16.map ZD))) (iv x17) (iv x18) []) := by
 unfold Z92
 refine zf (Zzt ..)<|ze<|zq ?_
 exact zk (Ze8 x3 x16 x17 (IntKind.i64.wrap (x18 + 1)) ox16)
def Z9K (x16 : List Zw) (x17 x18 : Int) (b0 : Zw) : Option (Bool) :=
 Z92 b0.ID x16 x17 x18
theorem Zk1 (x16 : List Zw) x17 x18 b0 ox16 : Sim (Z2O) (Z9K x16 x17 x18 b0) (Zvf 0 (.ptr 0 0) (.p (.lst ox16 (x16.map ZD))) (iv x17) (iv x18) [(Z1v b0)]) := by
 unfold Z9K
 refine zf (ZB5 ..)<|ze<|zq<|zq ?_
 exact zk (Zjt b0.ID x16 x17 x18 ox16)
def Z9J (x3 : Int) (x16 : List Zw) (x17 x18 : Int) : Option (Bool) :=
 (lget x16 x18).bind fun a1 =>
 (Z8V a1).bind fun r2 =>
 if (!r2) = true then
 (Z7P)
 else
 (if (decide (a1.ID ≤ x3)) = true then
 (Z7P)
 else
 (Z9K x16 x17 x18 a1))
theorem Zk0 x3 (x16 : List Zw) x17 x18 ox16 : Sim (Z2O) (Z9J x3 x16 x17 x18) (Zve 0 (iv x3) (.p (.lst ox16 (x16.map ZD))) (iv x17) (iv x18) []) := by
 unfold Z9J
 refine zf (ZB3 ..)<|ze<|zi fun a1 ha1 => ?_
 refine zo (.cptr (Z1J a1)) ?_ (Eq.trans (by kernel_rfl) (Z3Z (o := ox16) (k := .i64) (n := 5) (e := ZD) (cs := Z5U) (fun _ => rfl) (fun _ => rfl) (by decide) ha1))
 refine zq<|zz (.ptr 0 0) [(Z1v (Zw.mk 0 0 0 0 (ByteArray.mk #[])))]<|zt [(Z1v a1)]<|ze<|zq<|zi fun r2 hr2 => ?_
 obtain ⟨qr2, er2, exr2, rfl⟩ := ZfD a1 r2 hr2
 refine zc [] (bv r2) [(Z1v a1)] er2<|zq ?_
 refine za (!r2) ?_ ?_
 ·exact zk (Zdw )
 ·refine zq<|zq<|zq ?_
  refine za (decide (a1.ID ≤ x3)) ?_ ?_
  ·exact zk (Zdw )
  ·exact zk (Zk1 x16 x17 x18 a1 ox16)
def Zbw  : Option (Bool) :=
 some (true)
theorem Zju  : Sim (Z2O) (Zbw) (Ztk 0  []) := by
 unfold Zbw
 refine zf (Zzu ..)<|ze ?_
 exact zr ((bv true), []) ⟨_, rfl⟩
def Z7N (x3 : Int) (x16 : List Zw) (x17 x18 : Int) : Option (Bool) :=
 if (decide (x18 < x17)) = true then
 (Z9J x3 x16 x17 x18)
 else
 (Zbw)
theorem ZjY x3 (x16 : List Zw) x17 x18 ox16 : Sim (Z2O) (Z7N x3 x16 x17 x18) (Zll 0 (iv x3) (.p (.lst ox16 (x16.map ZD))) (iv x17) (iv x18) []) := by
 unfold Z7N
 refine zf (ZB0 ..)<|ze<|zq ?_
 refine za (decide (x18 < x17)) ?_ ?_
 ·exact zk (Zk0 x3 x16 x17 x18 ox16)
 ·exact zk (Zju )
theorem Ze7 (x3 : Int) (x16 : List Zw) (x17 x18 : Int) {r} (h : Z7N x3 x16 x17 x18 = some r) : Z7S x3 x16 x17 x18 = some r :=
 Z1a (fun _ _ ha hb => RRun.uniq Zh9 (ha .ex) (hb .ex)) (fun ox16 => ZjY x3 x16 x17 x18 ox16 r h)
def Z9L (x0 : ZC) : Option (Bool) :=
 if (decide (0 ≤ x0.Default)) = true then
 (if (decide (x0.Default ≤ 255)) = true then
 (if (decide (0 ≤ x0.Closed)) = true then
 (if (decide (x0.Closed ≤ 255)) = true then
 (if (decide (1 ≤ x0.Fuel)) = true then
 (if (decide (x0.Fuel ≤ 1048576)) = true then
 (if (decide (0 ≤ x0.Stack)) = true then
 (some (decide (x0.Stack ≤ 4096)))
 else
 (some (false)))
 else
 (some (false)))
 else
 (some (false)))
 else
 (some (false)))
 else
 (some (false)))
 else
 (some (false)))
 else
 (some (false))
theorem Zk2 x0 z12 : Sim (Z7J) (Z9L x0) (EE 46 [(.p (.agg (Z1w x0 z12)))] []) := by
 unfold Z9L
 refine zf (ZGv ..)<|ze<|zx (.ptr 0 0) [(Zx x0 z12)]<|ze<|zq<|zq<|zq ?_
 refine za (decide (0 ≤ x0.Default)) ?_ ?_
 ·refine zq<|zq<|zq ?_
  refine za (decide (x0.Default ≤ 255)) ?_ ?_
  ·refine zq<|zq<|zq ?_
   refine za (decide (0 ≤ x0.Closed)) ?_ ?_
   ·refine zq<|zq<|zq ?_
    refine za (decide (x0.Closed ≤ 255)) ?_ ?_
    ·refine zq<|zq<|zq ?_
     refine za (decide (1 ≤ x0.Fuel)) ?_ ?_
     ·refine zq<|zq<|zq ?_
      refine za (decide (x0.Fuel ≤ 1048576)) ?_ ?_
      ·refine zq<|zq<|zq ?_
       refine za (decide (0 ≤ x0.Stack)) ?_ ?_
       ·refine zq<|zq<|zq ?_
        exact zr ((bv (decide (x0.Stack ≤ 4096))), [(Zx x0 z12)]) ⟨_, rfl⟩
       ·exact zr ((bv false), [(Zx x0 z12)]) ⟨_, rfl⟩
      ·exact zr ((bv false), [(Zx x0 z12)]) ⟨_, rfl⟩
     ·exact zr ((bv false), [(Zx x0 z12)]) ⟨_, rfl⟩
    ·exact zr ((bv false), [(Zx x0 z12)]) ⟨_, rfl⟩
   ·exact zr ((bv false), [(Zx x0 z12)]) ⟨_, rfl⟩
  ·exact zr ((bv false), [(Zx x0 z12)]) ⟨_, rfl⟩
 ·exact zr ((bv false), [(Zx x0 z12)]) ⟨_, rfl⟩
theorem ZkO (x0 : ZC) {r} (h : Z9L x0 = some r) : Z7T x0 = some r :=
 Z1a (fun _ _ ha hb => RRun.uniq Zl7 (ha .ex) (hb .ex)) (fun z12 => Zk2 x0 z12 r h)
def ZaB (x0 : Zw) : Option (Bool) :=
 if (decide (1 ≤ x0.ID)) = true then
 (if (decide (x0.ID ≤ 1099511627776)) = true then
 (if (decide (0 ≤ x0.Priority)) = true then
 (if (decide (x0.Priority ≤ 1000)) = true then
 (if (decide (0 ≤ x0.Action)) = true then
 (if (decide (x0.Action ≤ 255)) = true then
 (if (decide (1 ≤ x0.Scope)) = true then
 (if (decide (x0.Scope ≤ 65535)) = true then
 (some (decide ((x0.Pattern.size : Int) ≤ 256)))
 else
 (some (false)))
 else
 (some (false)))
 else
 (some (false)))
 else
 (some (false)))
 else
 (some (false)))
 else
 (some (false)))
 else
 (some (false)))
 else
 (some (false))
theorem ZlH x0 : Sim (Z8J) (ZaB x0) (EE 27 [(.p (.agg (Z1J x0)))] []) := by
 unfold ZaB
 refine zf (ZGt ..)<|ze<|zx (.ptr 0 0) [(Z1v x0)]<|ze<|zq<|zq<|zq ?_
 refine za (decide (1 ≤ x0.ID)) ?_ ?_
 ·refine zq<|zq<|zq ?_
  refine za (decide (x0.ID ≤ 1099511627776)) ?_ ?_
  ·refine zq<|zq<|zq ?_
   refine za (decide (0 ≤ x0.Priority)) ?_ ?_
   ·refine zq<|zq<|zq ?_
    refine za (decide (x0.Priority ≤ 1000)) ?_ ?_
    ·refine zq<|zq<|zq ?_
     refine za (decide (0 ≤ x0.Action)) ?_ ?_
     ·refine zq<|zq<|zq ?_
      refine za (decide (x0.Action ≤ 255)) ?_ ?_
      ·refine zq<|zq<|zq ?_
       refine za (decide (1 ≤ x0.Scope)) ?_ ?_
       ·refine zq<|zq<|zq ?_
        refine za (decide (x0.Scope ≤ 65535)) ?_ ?_
        ·refine zq<|zq<|zq<|zq ?_
         exact zr ((bv (decide ((x0.Pattern.size : Int) ≤ 256))), [(Z1v x0)]) ⟨_, rfl⟩
        ·exact zr ((bv false), [(Z1v x0)]) ⟨_, rfl⟩
       ·exact zr ((bv false), [(Z1v x0)]) ⟨_, rfl⟩
      ·exact zr ((bv false), [(Z1v x0)]) ⟨_, rfl⟩
     ·exact zr ((bv false), [(Z1v x0)]) ⟨_, rfl⟩
    ·exact zr ((bv false), [(Z1v x0)]) ⟨_, rfl⟩
   ·exact zr ((bv false), [(Z1v x0)]) ⟨_, rfl⟩
  ·exact zr ((bv false), [(Z1v x0)]) ⟨_, rfl⟩
 ·exact zr ((bv false), [(Z1v x0)]) ⟨_, rfl⟩
theorem Zn0 (x0 : Zw) {r} (h : ZaB x0 = some r) : Z8V x0 = some r :=
 Z1a (fun _ _ ha hb => RRun.uniq ZnJ (ha ) (hb )) (ZlH x0 r h)
def Z8z (x0 : ZC) (x1 : ZU) : Option (Bool) :=
 Z3n (S91.mk x0.Rules x1.Put) 0 x1
theorem Zim x0 x1 z12 z3E z3z : Sim (Z1X) (Z8z x0 x1) (EE 15 [(.p (.agg (Z1w x0 z12))), (.p (.agg (Z4B x1 z3E z3z)))] []) := by
 unfold Z8z
 refine zf (ZGa ..)<|ze<|zx (.ptr 0 0) [(Zx x0 z12)]<|zx (.ptr 1 0) [(Zx x0 z12), (ZN x1 z3E z3z)]<|ze<|zq<|zq<|zq<|zq<|zq ?_
 exact zk (Zbc (S91.mk x0.Rules x1.Put) 0 x0 x1 (shrO (shrO z12)) (shrO (shrO z3E)) z12 z3E z3z)
theorem Zjh (x0 : ZC) (x1 : ZU) {r} (h : Z8z x0 x1 = some r) : Z8C x0 x1 = some r :=
 Z1a (fun _ _ ha hb => RRun.uniq Z9U (ha .ex .ex .ex) (hb .ex .ex .ex)) (fun z12 z3E z3z => Zim x0 x1 z12 z3E z3z r h)
def Z7f (x6 : List Zw) (x13 : S91) (x14 : Int) (b1 : ZU) : Option (Bool) :=
 Z5V x13 x14 x6 (x6.length : Int) 0 b1
theorem Zgx (x6 : List Zw) x13 x14 b0 b1 ox6 z2E z2F zB zQ zK : Sim (Z1X) (Z7f x6 x13 x14 b1) (Zv2 0 (.ptr 1 0) (.p (.lst ox6 (x6.map ZD))) (.p (.agg (ZeA x13 z2E z2F))) (iv x14) [(Zx b0 zB), (ZN b1 zQ zK)]) := by
 unfold Z7f
 refine zf (ZAU ..)<|ze ?_
 refine zo (iv (x6.length : Int)) ?_ (Eq.trans (by kernel_rfl) (Z38 (P := PP) (t := 22) (d := 43) (by kernel_rfl) ZD (shrO ox6) x6))
 exact zk (Zbd x13 x14 x6 (x6.length : Int) 0 b0 b1 z2E z2F (shrO ox6) zB zQ zK)
def Z5O (x13 : S91) (x14 : Int) (b1 : ZU) : Option (Bool) :=
 (lget ([x13.c0, x13.c1] : List (List Zw)) x14).bind fun a1 =>
 if (decide (20 < (a1.length : Int))) = true then
 (some (false))
 else
 (Z7f a1 x13 x14 b1)
theorem Zgw x13 x14 b0 b1 z2E z2F zB zQ zK : Sim (Z1X) (Z5O x13 x14 b1) (Zv1 0 (.ptr 1 0) (.p (.agg (ZeA x13 z2E z2F))) (iv x14) [(Zx b0 zB), (ZN b1 zQ zK)]) := by
 unfold Z5O
 refine zf (ZAT ..)<|ze<|zi fun a1 ha1 => ?_
 refine zo (.p (.lst (lown [z2E, z2F] x14) (a1.map ZD))) ?_ (Eq.trans (b := xat PP 91 (.p (.agg (List.zipWith (fun o x => PV.lst o (x.map ZD)) [z2E, z2F] ([x13.c0, x13.c1] : List (List Zw))))) (.p (.v (.int .i64 x14)))) (by kernel_rfl) (ZDH (P := PP) (t := 91) (ee := ZD) (m := 2) (k := .i64) (e := 22) (by kernel_rfl) (by kernel_rfl) (by kernel_rfl) (by kernel_rfl) ha1))
 refine ze ?_
 refine zo (iv (a1.length : Int)) ?_ (Eq.trans (by kernel_rfl) (Z38 (P := PP) (t := 22) (d := 43) (by kernel_rfl) ZD (shrO (shrO (lown [z2E, z2F] x14))) a1))
 refine zq ?_
 refine za (decide (20 < (a1.length : Int))) ?_ ?_
 ·refine ze ?_
  exact zr ((bv false), [(Zx b0 zB), (ZN b1 zQ zK)]) ⟨_, rfl⟩
 ·exact zk (Zgx a1 x13 x14 b0 b1 (shrO (lown [z2E, z2F] x14)) z2E z2F zB zQ zK)
def Z77 (b1 : ZU) : Option (Bool) :=
 some (decide ((b1.Drop.length : Int) ≤ 40))
theorem Zg4 b0 b1 zB zQ zK : Sim (Z1X) (Z77 b1) (ZsQ 0 (.ptr 1 0) [(Zx b0 zB), (ZN b1 zQ zK)]) := by
 unfold Z77
 refine zf (Zz4 ..)<|ze<|zq<|zq ?_
 refine zo (iv (b1.Drop.length : Int)) ?_ (Eq.trans (by kernel_rfl) (Z38 (P := PP) (t := 27) (d := 3) (by kernel_rfl) (eI .i64) (shrO zK) b1.Drop))
 refine zq ?_
 exact zr ((bv (decide ((b1.Drop.length : Int) ≤ 40))), [(Zx b0 zB), (ZN b1 zQ zK)]) ⟨_, rfl⟩
def Z4D (x13 : S91) (x14 : Int) (b1 : ZU) : Option (Bool) :=
 if (decide (x14 < 2)) = true then
 (Z5O x13 x14 b1)
 else
 (Z77 b1)
theorem Zgu x13 x14 b0 b1 z2E z2F zB zQ zK : Sim (Z1X) (Z4D x13 x14 b1) (Zlg 0 (.ptr 1 0) (.p (.agg (ZeA x13 z2E z2F))) (iv x14) [(Zx b0 zB), (ZN b1 zQ zK)]) := by
 unfold Z4D
 refine zf (ZAR ..)<|ze<|zq ?_
 refine za (decide (x14 < 2)) ?_ ?_
 ·exact zk (Zgw x13 x14 b0 b1 z2E z2F zB zQ zK)
 ·exact zk (Zg4 b0 b1 zB zQ zK)
theorem Z8o (x13 : S91) (x14 : Int) (b1 : ZU) {r} (h : Z4D x13 x14 b1 = some r) : Z3n x13 x14 b1 = some r :=
 Z1a (fun _ _ ha hb => RRun.uniq Z9U (ha default .ex .ex .ex .ex .ex) (hb default .ex .ex .ex .ex .ex)) (fun b0 z2E z2F zB zQ zK => Zgu x13 x14 b0 b1 z2E z2F zB zQ zK r h)
def Z75 (x13 : S91) (x14 : Int) (x20 : List Zw) (x21 x22 : Int) (b1 : ZU) : Option (Bool) :=
 Z5V x13 x14 x20 x21 (IntKind.i64.wrap (x22 + 1)) b1
theorem Zg2 x13 x14 (x20 : List Zw) x21 x22 b0 b1 z2E z2F ox20 zB zQ zK : Sim (Z1X) (Z75 x13 x14 x20 x21 x22 b1) (ZsO 0 (.ptr 1 0) (.p (.agg (ZeA x13 z2E z2F))) (iv x14) (.p (.lst ox20 (x20.map ZD))) (iv x21) (iv x22) [(Zx b0 zB), (ZN b1 zQ zK)]) := by
 unfold Z75
 refine zf (Zz2 ..)<|ze<|zq ?_
 exact zk (Zbd x13 x14 x20 x21 (IntKind.i64.wrap (x22 + 1)) b0 b1 z2E z2F ox20 zB zQ zK)
def Z5P (x13 : S91) (x14 : Int) (x20 : List Zw) (x21 x22 : Int) (b1 : ZU) : Option (Bool) :=
 (lget x20 x22).bind fun a1 =>
 if (decide (300 < (a1.Pattern.size : Int))) = true then
 (some (false))
 else
 (Z75 x13 x14 x20 x21 x22 b1)
theorem Zgy x13 x14 (x20 : List Zw) x21 x22 b0 b1 z2E z2F ox20 zB zQ zK : Sim (Z1X) (Z5P x13 x14 x20 x21 x22 b1) (Zv3 0 (.ptr 1 0) (.p (.agg (ZeA x13 z2E z2F))) (iv x14) (.p (.lst ox20 (x20.map ZD))) (iv x21) (iv x22) [(Zx b0 zB), (ZN b1 zQ zK)]) := by
 unfold Z5P
 refine zf (ZAV ..)<|ze<|zi fun a1 ha1 => ?_
 refine zo (.cptr (Z1J a1)) ?_ (Eq.trans (by kernel_rfl) (Z3Z (o := ox20) (k := .i64) (n := 5) (e := ZD) (cs := Z5U) (fun _ => rfl) (fun _ => rfl) (by decide) ha1))
 refine zq<|zz (.ptr 2 0) [(Zx b0 zB), (ZN b1 zQ zK), (Z1v (Zw.mk 0 0 0 0 (ByteArray.mk #[])))]<|zt [(Zx b0 zB), (ZN b1 zQ zK), (Z1v a1)]<|ze<|zq<|zq<|zq<|zq ?_
 refine za (decide (300 < (a1.Pattern.size : Int))) ?_ ?_
 ·refine ze ?_
  exact zr ((bv false), [(Zx b0 zB), (ZN b1 zQ zK), (Z1v a1)]) ⟨_, rfl⟩
 ·exact zk (Zg2 x13 x14 x20 x21 x22 b0 b1 z2E z2F ox20 zB zQ zK)
def Z76 (x13 : S91) (x14 : Int) (b1 : ZU) : Option (Bool) :=
 Z3n x13 (IntKind.i64.wrap (x14 + 1)) b1
theorem Zg3 x13 x14 b0 b1 z2E z2F zB zQ zK : Sim (Z1X) (Z76 x13 x14 b1) (ZsP 0 (.ptr 1 0) (.p (.agg (ZeA x13 z2E z2F))) (iv x14) [(Zx b0 zB), (ZN b1 zQ zK)]) := by
 unfold Z76
 refine zf (Zz3 ..)<|ze<|zq ?_
 exact zk (Zbc x13 (IntKind.i64.wrap (x14 + 1)) b0 b1 z2E z2F zB zQ zK)
def Z4E (x13 : S91) (x14 : Int) (x20 : List Zw) (x21 x22 : Int) (b1 : ZU) : Option (Bool) :=
 if (decide (x22 < x21)) = true then
 (Z5P x13 x14 x20 x21 x22 b1)
 else
 (Z76 x13 x14 b1)
theorem Zgv x13 x14 (x20 : List Zw) x21 x22 b0 b1 z2E z2F ox20 zB zQ zK : Sim (Z1X) (Z4E x13 x14 x20 x21 x22 b1) (Zlh 0 (.ptr 1 0) (.p (.agg (ZeA x13 z2E z2F))) (iv x14) (.p (.lst ox20 (x20.map ZD))) (iv x21) (iv x22) [(Zx b0 zB), (ZN b1 zQ zK)]) := by
 unfold Z4E
 refine zf (ZAS ..)<|ze<|zq ?_
 refine za (decide (x22 < x21)) ?_ ?_
 ·exact zk (Zgy x13 x14 x20 x21 x22 b0 b1 z2E z2F ox20 zB zQ zK)
 ·exact zk (Zg3 x13 x14 b0 b1 z2E z2F zB zQ zK)
theorem Z8p (x13 : S91) (x14 : Int) (x20 : List Zw) (x21 x22 : Int) (b1 : ZU) {r} (h : Z4E x13 x14 x20 x21 x22 b1 = some r) : Z5V x13 x14 x20 x21 x22 b1 = some r :=
 Z1a (fun _ _ ha hb => RRun.uniq Z9U (ha default .ex .ex .ex .ex .ex .ex) (hb default .ex .ex .ex .ex .ex .ex)) (fun b0 z2E z2F ox20 zB zQ zK => Zgv x13 x14 x20 x21 x22 b0 b1 z2E z2F ox20 zB zQ zK r h)
end Go.Proofs.YteoeggbihfnbfaaGreatDoor.N2
end
noncomputable section
set_option linter.unusedSimpArgs false
set_option linter.unusedVariables false
namespace Go.Proofs.YteoeggbihfnbfaaGreatDoor.N2
open Go Go.Abs
set_option linter.unusedVariables false
set_option maxRecDepth 100000
def Zab  : Option (ZC × Int) :=
 some ((ZC.mk 0 0 0 0 ([] : List Zw)), 30)
theorem Zgi b0 b1 b2 zB zQ zK zM (z1q : ZL zM = true) : Sim (Z1O) (Zab) (Zri 0 (.ptr 2 0) [(Zx b0 zB), (ZN b1 zQ zK), (Zx b2 zM)]) := by
 unfold Zab
 refine zf (ZB8 ..)<|ze<|zq<|zt [(Zx b0 zB), (ZN b1 zQ zK), (Zx (ZC.mk 0 0 0 0 ([] : List Zw)) .nl)] ?_
 exact zr ((.p (.tup [(.agg (Z1w (ZC.mk 0 0 0 0 ([] : List Zw)) .sh)), (.v (.int .i64 30))])), [(Zx b0 zB), (ZN b1 zQ zK), (Zx (ZC.mk 0 0 0 0 ([] : List Zw)) .nl)]) ⟨_, rfl⟩
def Zbm (b0 : ZC) (b1 : ZU) (zF zI zP zJ : Int) : Option (ZC × Int) :=
 Z9v b0.Rules (b0.Rules.length : Int) 0 b1 zF zI zP zJ ([] : List (Int × Zw))
theorem ZmO b0 b1 b2 zF zI zP zJ zX zB zQ zK zM zV (z1q : ZL zM = true) : Sim (Z1O) (Zbm b0 b1 zF zI zP zJ) (Ztp 0 (.ptr 0 0) (.ptr 1 0) (.ptr 2 0) (.ptr 3 0) [(Zx b0 zB), (ZN b1 zQ zK), (Zx b2 zM), (Zx (ZC.mk zF zI zP zJ zX) zV)]) := by
 unfold Zbm
 refine zf (ZzA ..)<|ze<|zm (.mp 4) [(Zx b0 zB), (ZN b1 zQ zK), (Zx b2 zM), (Zx (ZC.mk zF zI zP zJ zX) zV), [(.md (([] : List (Int × Zw)).map (encM ZD)))]]<|ze<|zq<|zq ?_
 refine zo (iv (b0.Rules.length : Int)) ?_ (Eq.trans (by kernel_rfl) (Z38 (P := PP) (t := 22) (d := 43) (by kernel_rfl) ZD (shrO zB) b0.Rules))
 exact zk (Zgb b0.Rules (b0.Rules.length : Int) 0 b0 b1 b2 zF zI zP zJ zX ([] : List (Int × Zw)) (shrO zB) zB zQ zK zM zV z1q)
def Zbl (b0 : ZC) (b1 : ZU) (zF zI zP zJ : Int) : Option (ZC × Int) :=
 (Zak b1).bind fun r1 =>
 if (r1) = true then
 (some ((ZC.mk 0 0 0 0 ([] : List Zw)), 31))
 else
 (Zbm b0 b1 zF zI zP zJ)
theorem ZmN b0 b1 b2 zF zI zP zJ zX zB zQ zK zM zV (z1q : ZL zM = true) : Sim (Z1O) (Zbl b0 b1 zF zI zP zJ) (Zto 0 (.ptr 0 0) (.ptr 1 0) (.ptr 2 0) (.ptr 3 0) [(Zx b0 zB), (ZN b1 zQ zK), (Zx b2 zM), (Zx (ZC.mk zF zI zP zJ zX) zV)]) := by
 unfold Zbl
 refine zf (Zzz ..)<|ze<|zq<|zi fun r1 hr1 => ?_
 obtain ⟨qr1, er1, exr1, rfl⟩ := ZlG b1 .sh .sh r1 hr1
 refine zc [] (bv r1) [(Zx b0 zB), (ZN b1 zQ zK), (Zx b2 zM), (Zx (ZC.mk zF zI zP zJ zX) zV)] er1 ?_
 refine za r1 ?_ ?_
 ·refine ze<|zq<|zt [(Zx b0 zB), (ZN b1 zQ zK), (Zx (ZC.mk 0 0 0 0 ([] : List Zw)) .nl), (Zx (ZC.mk zF zI zP zJ zX) zV)] ?_
  exact zr ((.p (.tup [(.agg (Z1w (ZC.mk 0 0 0 0 ([] : List Zw)) .sh)), (.v (.int .i64 31))])), [(Zx b0 zB), (ZN b1 zQ zK), (Zx (ZC.mk 0 0 0 0 ([] : List Zw)) .nl), (Zx (ZC.mk zF zI zP zJ zX) zV)]) ⟨_, rfl⟩
 ·exact zk (ZmO b0 b1 b2 zF zI zP zJ zX zB zQ zK zM zV z1q)
def Zc8 (b0 : ZC) (b1 : ZU) : Option (ZC × Int) :=
 (Zey b1.Default b0.Default).bind fun r1 =>
 (ZaN b1.Closed b0.Closed).bind fun r2 =>
 (ZaM b1.Fuel b0.Fuel).bind fun r3 =>
 (ZaL b1.Stack b0.Stack).bind fun r4 =>
 (Z7T (ZC.mk r1 r2 r3 r4 b0.Rules)).bind fun r5 =>
 if (!r5) = true then
 (Zab)
 else
 ((Z9S b1.Put).bind fun r6 =>
 if (!r6) = true then
 (Zab)
 else
 (Zbl b0 b1 r1 r2 r3 r4))
theorem ZnT b0 b1 b2 zB zQ zK zM (z1q : ZL zM = true) : Sim (Z1O) (Zc8 b0 b1) (Zvj 0 (.ptr 0 0) (.ptr 1 0) (.ptr 2 0) [(Zx b0 zB), (ZN b1 zQ zK), (Zx b2 zM)]) := by
 unfold Zc8
 refine zf (ZB7 ..)<|ze<|zq<|zz (.ptr 3 0) [(Zx b0 zB), (ZN b1 zQ zK), (Zx b2 zM), (Zx (ZC.mk 0 0 0 0 ([] : List Zw)) .nl)]<|zt [(Zx b0 zB), (ZN b1 zQ zK), (Zx b2 zM), (Zx b0 (shrO zB))]<|ze<|zq<|zq<|zq<|zi fun r1 hr1 => ?_
 obtain ⟨qr1, er1, exr1, rfl⟩ := Zqw b1.Default b0.Default b0.Closed b0.Fuel b0.Stack b0.Rules (shrO zB) r1 hr1
 refine zc [3] (.p (.tup [])) [(Zx b0 zB), (ZN b1 zQ zK), (Zx b2 zM), (Zx (ZC.mk r1 b0.Closed b0.Fuel b0.Stack b0.Rules) (shrO zB))] er1<|ze<|zq<|zq<|zq<|zi fun r2 hr2 => ?_
 obtain ⟨qr2, er2, exr2, rfl⟩ := Zn7 b1.Closed r1 b0.Closed b0.Fuel b0.Stack b0.Rules (shrO zB) r2 hr2
 refine zc [3] (.p (.tup [])) [(Zx b0 zB), (ZN b1 zQ zK), (Zx b2 zM), (Zx (ZC.mk r1 r2 b0.Fuel b0.Stack b0.Rules) (shrO zB))] er2<|ze<|zq<|zq<|zq<|zi fun r3 hr3 => ?_
 obtain ⟨qr3, er3, exr3, rfl⟩ := Zn5 b1.Fuel r1 r2 b0.Fuel b0.Stack b0.Rules (shrO zB) r3 hr3
 refine zc [3] (.p (.tup [])) [(Zx b0 zB), (ZN b1 zQ zK), (Zx b2 zM), (Zx (ZC.mk r1 r2 r3 b0.Stack b0.Rules) (shrO zB))] er3<|ze<|zq<|zq<|zq<|zi fun r4 hr4 => ?_
 obtain ⟨qr4, er4, exr4, rfl⟩ := Zn3 b1.Stack r1 r2 r3 b0.Stack b0.Rules (shrO zB) r4 hr4
 refine zc [3] (.p (.tup [])) [(Zx b0 zB), (ZN b1 zQ zK), (Zx b2 zM), (Zx (ZC.mk r1 r2 r3 r4 b0.Rules) (shrO zB))] er4<|ze<|zq<|zi fun r5 hr5 => ?_
 obtain ⟨qr5, er5, exr5, rfl⟩ := Ze9 (ZC.mk r1 r2 r3 r4 b0.Rules) .sh r5 hr5
 refine zc [] (bv r5) [(Zx b0 zB), (ZN b1 zQ zK), (Zx b2 zM), (Zx (ZC.mk r1 r2 r3 r4 b0.Rules) (shrO zB))] er5<|zq ?_
 refine za (!r5) ?_ ?_
 ·exact zk (Zgi b0 b1 b2 zB zQ zK zM z1q)
 ·refine zq<|zq<|zi fun r6 hr6 => ?_
  obtain ⟨qr6, er6, exr6, rfl⟩ := ZkQ b1.Put .sh r6 hr6
  refine zc [] (bv r6) [(Zx b0 zB), (ZN b1 zQ zK), (Zx b2 zM), (Zx (ZC.mk r1 r2 r3 r4 b0.Rules) (shrO zB))] er6<|zq ?_
  refine za (!r6) ?_ ?_
  ·exact zk (Zgi b0 b1 b2 zB zQ zK zM z1q)
  ·exact zk (ZmN b0 b1 b2 r1 r2 r3 r4 b0.Rules zB zQ zK zM (shrO zB) z1q)
def Zfx (x0 : ZC) (x1 : ZU) : Option (ZC × Int) :=
 (Z81 x0).bind fun r1 =>
 if (!r1) = true then
 (some ((ZC.mk 0 0 0 0 ([] : List Zw)), 10))
 else
 (Zc8 x0 x1)
theorem Zqt x0 x1 z12 z3E z3z : Sim (Z1O) (Zfx x0 x1) (EE 22 [(.p (.agg (Z1w x0 z12))), (.p (.agg (Z4B x1 z3E z3z)))] []) := by
 unfold Zfx
 refine zf (ZGm ..)<|ze<|zx (.ptr 0 0) [(Zx x0 z12)]<|zx (.ptr 1 0) [(Zx x0 z12), (ZN x1 z3E z3z)]<|zz (.ptr 2 0) [(Zx x0 z12), (ZN x1 z3E z3z), (Zx (ZC.mk 0 0 0 0 ([] : List Zw)) .nl)]<|ze<|zq<|zi fun r1 hr1 => ?_
 obtain ⟨qr1, er1, exr1, rfl⟩ := Zc3 x0 .sh r1 hr1
 refine zc [] (bv r1) [(Zx x0 z12), (ZN x1 z3E z3z), (Zx (ZC.mk 0 0 0 0 ([] : List Zw)) .nl)] er1<|zq ?_
 refine za (!r1) ?_ ?_
 ·refine ze<|zq<|zt [(Zx x0 z12), (ZN x1 z3E z3z), (Zx (ZC.mk 0 0 0 0 ([] : List Zw)) .nl)] ?_
  exact zr ((.p (.tup [(.agg (Z1w (ZC.mk 0 0 0 0 ([] : List Zw)) .sh)), (.v (.int .i64 10))])), [(Zx x0 z12), (ZN x1 z3E z3z), (Zx (ZC.mk 0 0 0 0 ([] : List Zw)) .nl)]) ⟨_, rfl⟩
 ·exact zk (ZnT x0 x1 (ZC.mk 0 0 0 0 ([] : List Zw)) z12 z3E z3z .nl rfl)
theorem Zry (x0 : ZC) (x1 : ZU) {r} (h : Zfx x0 x1 = some r) : ZcA x0 x1 = some r :=
 Z1a (fun _ _ ha hb => RRun.uniq ZaS (ha .ex .ex .ex) (hb .ex .ex .ex)) (fun z12 z3E z3z => Zqt x0 x1 z12 z3E z3z r h)
def Zbn (x54 : List Zw) (x55 x56 : Int) (b1 : ZU) (zF zI zP zJ : Int) (z1d : List (Int × Zw)) : Option (ZC × Int) :=
 (lget x54 x56).bind fun a1 =>
 Z9v x54 x55 (IntKind.i64.wrap (x56 + 1)) b1 zF zI zP zJ (putM z1d a1.ID a1)
theorem ZmP (x54 : List Zw) x55 x56 b0 b1 b2 zF zI zP zJ zX z1d ox54 zB zQ zK zM zV (z1q : ZL zM = true) : Sim (Z1O) (Zbn x54 x55 x56 b1 zF zI zP zJ z1d) (Ztq 0 (.ptr 1 0) (.ptr 2 0) (.ptr 3 0) (.mp 4) (.p (.lst ox54 (x54.map ZD))) (iv x55) (iv x56) [(Zx b0 zB), (ZN b1 zQ zK), (Zx b2 zM), (Zx (ZC.mk zF zI zP zJ zX) zV), [(.md ((z1d).map (encM ZD)))]]) := by
 unfold Zbn
 refine zf (ZzB ..)<|ze<|zi fun a1 ha1 => ?_
 refine zo (.cptr (Z1J a1)) ?_ (Eq.trans (by kernel_rfl) (Z3Z (o := ox54) (k := .i64) (n := 5) (e := ZD) (cs := Z5U) (fun _ => rfl) (fun _ => rfl) (by decide) ha1))
 refine zq<|zz (.ptr 5 0) [(Zx b0 zB), (ZN b1 zQ zK), (Zx b2 zM), (Zx (ZC.mk zF zI zP zJ zX) zV), [(.md ((z1d).map (encM ZD)))], (Z1v (Zw.mk 0 0 0 0 (ByteArray.mk #[])))]<|zt [(Zx b0 zB), (ZN b1 zQ zK), (Zx b2 zM), (Zx (ZC.mk zF zI zP zJ zX) zV), [(.md ((z1d).map (encM ZD)))], (Z1v a1)]<|ze<|zq<|zq<|zq ?_
 refine Sim.xupd (B2 := [(Zx b0 zB), (ZN b1 zQ zK), (Zx b2 zM), (Zx (ZC.mk zF zI zP zJ zX) zV), [(.md ((putM z1d a1.ID a1).map (encM ZD)))], (Z1v a1)]) (fun K => Eq.trans (b := xupd PP 110 (.mp 4) (iv a1.ID) (.p (.agg (Z1J a1))) [(Zx b0 zB), (ZN b1 zQ zK), (Zx b2 zM), (Zx (ZC.mk zF zI zP zJ zX) zV), [(.md ((z1d).map (encM ZD)))], (Z1v a1)] K) (by kernel_rfl) <| ZtT (P := PP) (t := 110) (K := K) (B2 := [(Zx b0 zB), (ZN b1 zQ zK), (Zx b2 zM), (Zx (ZC.mk zF zI zP zJ zX) zV), [(.md ((putM z1d a1.ID a1).map (encM ZD)))], (Z1v a1)]) (e := ZD) (a := a1) (es := z1d) (te := 43) (by kernel_rfl) (by kernel_rfl) (by kernel_rfl) (by kernel_rfl) (by kernel_rfl)) ?_
 refine ze<|zq ?_
 exact zk (Zgb x54 x55 (IntKind.i64.wrap (x56 + 1)) b0 b1 b2 zF zI zP zJ zX (putM z1d a1.ID a1) ox54 zB zQ zK zM zV z1q)
def Z9o (b1 : ZU) (zF zI zP zJ : Int) (z1d : List (Int × Zw)) : Option (ZC × Int) :=
 Z9w b1.Drop (b1.Drop.length : Int) 0 b1 zF zI zP zJ z1d
theorem ZmQ b0 b1 b2 zF zI zP zJ zX z1d zB zQ zK zM zV (z1q : ZL zM = true) : Sim (Z1O) (Z9o b1 zF zI zP zJ z1d) (Ztr 0 (.ptr 1 0) (.ptr 2 0) (.ptr 3 0) (.mp 4) [(Zx b0 zB), (ZN b1 zQ zK), (Zx b2 zM), (Zx (ZC.mk zF zI zP zJ zX) zV), [(.md ((z1d).map (encM ZD)))]]) := by
 unfold Z9o
 refine zf (ZzC ..)<|ze<|zq<|zq ?_
 refine zo (iv (b1.Drop.length : Int)) ?_ (Eq.trans (by kernel_rfl) (Z38 (P := PP) (t := 27) (d := 3) (by kernel_rfl) (eI .i64) (shrO zK) b1.Drop))
 exact zk (Zgd b1.Drop (b1.Drop.length : Int) 0 b0 b1 b2 zF zI zP zJ zX z1d (shrO zK) zB zQ zK zM zV z1q)
def Z9k (x54 : List Zw) (x55 x56 : Int) (b1 : ZU) (zF zI zP zJ : Int) (z1d : List (Int × Zw)) : Option (ZC × Int) :=
 if (decide (x56 < x55)) = true then
 (Zbn x54 x55 x56 b1 zF zI zP zJ z1d)
 else
 (Z9o b1 zF zI zP zJ z1d)
theorem ZmG (x54 : List Zw) x55 x56 b0 b1 b2 zF zI zP zJ zX z1d ox54 zB zQ zK zM zV (z1q : ZL zM = true) : Sim (Z1O) (Z9k x54 x55 x56 b1 zF zI zP zJ z1d) (ZiV 0 (.ptr 1 0) (.ptr 2 0) (.ptr 3 0) (.mp 4) (.p (.lst ox54 (x54.map ZD))) (iv x55) (iv x56) [(Zx b0 zB), (ZN b1 zQ zK), (Zx b2 zM), (Zx (ZC.mk zF zI zP zJ zX) zV), [(.md ((z1d).map (encM ZD)))]]) := by
 unfold Z9k
 refine zf (Zzv ..)<|ze<|zq ?_
 refine za (decide (x56 < x55)) ?_ ?_
 ·exact zk (ZmP x54 x55 x56 b0 b1 b2 zF zI zP zJ zX z1d ox54 zB zQ zK zM zV z1q)
 ·exact zk (ZmQ b0 b1 b2 zF zI zP zJ zX z1d zB zQ zK zM zV z1q)
theorem Zga (x54 : List Zw) (x55 x56 : Int) (b1 : ZU) (zF zI zP zJ : Int) (z1d : List (Int × Zw)) {r} (h : Z9k x54 x55 x56 b1 zF zI zP zJ z1d = some r) : Z9v x54 x55 x56 b1 zF zI zP zJ z1d = some r :=
 Z1a (fun _ _ ha hb => RRun.uniq ZaS (ha default default default .ex .ex .ex .ex .ex .ex rfl) (hb default default default .ex .ex .ex .ex .ex .ex rfl)) (fun b0 b2 zX ox54 zB zQ zK zM zV z1q => ZmG x54 x55 x56 b0 b1 b2 zF zI zP zJ zX z1d ox54 zB zQ zK zM zV z1q r h)
def Zbq (x66 : List Int) (x67 x68 : Int) (b1 : ZU) (zF zI zP zJ : Int) (z1d : List (Int × Zw)) : Option (ZC × Int) :=
 Z9w x66 x67 (IntKind.i64.wrap (x68 + 1)) b1 zF zI zP zJ z1d
theorem ZmT (x66 : List Int) x67 x68 b0 b1 b2 zF zI zP zJ zX z1d ox66 zB zQ zK zM zV (z1q : ZL zM = true) : Sim (Z1O) (Zbq x66 x67 x68 b1 zF zI zP zJ z1d) (Ztu 0 (.ptr 1 0) (.ptr 2 0) (.ptr 3 0) (.mp 4) (.p (.lst ox66 (x66.map (eI .i64)))) (iv x67) (iv x68) [(Zx b0 zB), (ZN b1 zQ zK), (Zx b2 zM), (Zx (ZC.mk zF zI zP zJ zX) zV), [(.md ((z1d).map (encM ZD)))]]) := by
 unfold Zbq
 refine zf (ZzF ..)<|ze<|zq ?_
 exact zk (Zgd x66 x67 (IntKind.i64.wrap (x68 + 1)) b0 b1 b2 zF zI zP zJ zX z1d ox66 zB zQ zK zM zV z1q)
def Zbp (x11 : Int) (x66 : List Int) (x67 x68 : Int) (b1 : ZU) (zF zI zP zJ : Int) (z1d : List (Int × Zw)) : Option (ZC × Int) :=
 Zbq x66 x67 x68 b1 zF zI zP zJ (delM z1d x11)
theorem ZmS x11 (x66 : List Int) x67 x68 b0 b1 b2 zF zI zP zJ zX z1d ox66 zB zQ zK zM zV (z1q : ZL zM = true) : Sim (Z1O) (Zbp x11 x66 x67 x68 b1 zF zI zP zJ z1d) (Ztt 0 (.ptr 1 0) (.ptr 2 0) (.ptr 3 0) (.mp 4) (iv x11) (.p (.lst ox66 (x66.map (eI .i64)))) (iv x67) (iv x68) [(Zx b0 zB), (ZN b1 zQ zK), (Zx b2 zM), (Zx (ZC.mk zF zI zP zJ zX) zV), [(.md ((z1d).map (encM ZD)))]]) := by
 unfold Zbp
 refine zf (ZzE ..)<|ze ?_
 refine Sim.xdel (B2 := [(Zx b0 zB), (ZN b1 zQ zK), (Zx b2 zM), (Zx (ZC.mk zF zI zP zJ zX) zV), [(.md ((delM z1d x11).map (encM ZD)))]]) (fun K => Eq.trans (b := xdel PP 110 (.mp 4) (iv x11) [(Zx b0 zB), (ZN b1 zQ zK), (Zx b2 zM), (Zx (ZC.mk zF zI zP zJ zX) zV), [(.md ((z1d).map (encM ZD)))]] K) (by kernel_rfl) <| ZFX (P := PP) (t := 110) (K := K) (B2 := [(Zx b0 zB), (ZN b1 zQ zK), (Zx b2 zM), (Zx (ZC.mk zF zI zP zJ zX) zV), [(.md ((delM z1d x11).map (encM ZD)))]]) (e := ZD) (es := z1d) (te := 43) (by kernel_rfl) (by kernel_rfl) (by kernel_rfl)) ?_
 exact zk (ZmT x66 x67 x68 b0 b1 b2 zF zI zP zJ zX (delM z1d x11) ox66 zB zQ zK zM zV z1q)
def Zbo (x66 : List Int) (x67 x68 : Int) (b1 : ZU) (zF zI zP zJ : Int) (z1d : List (Int × Zw)) : Option (ZC × Int) :=
 (lget x66 x68).bind fun a1 =>
 if (!(getM z1d a1).isSome) = true then
 (some ((ZC.mk 0 0 0 0 ([] : List Zw)), 32))
 else
 (Zbp a1 x66 x67 x68 b1 zF zI zP zJ z1d)
theorem ZmR (x66 : List Int) x67 x68 b0 b1 b2 zF zI zP zJ zX z1d ox66 zB zQ zK zM zV (z1q : ZL zM = true) : Sim (Z1O) (Zbo x66 x67 x68 b1 zF zI zP zJ z1d) (Zts 0 (.ptr 1 0) (.ptr 2 0) (.ptr 3 0) (.mp 4) (.p (.lst ox66 (x66.map (eI .i64)))) (iv x67) (iv x68) [(Zx b0 zB), (ZN b1 zQ zK), (Zx b2 zM), (Zx (ZC.mk zF zI zP zJ zX) zV), [(.md ((z1d).map (encM ZD)))]]) := by
 unfold Zbo
 refine zf (ZzD ..)<|ze<|zi fun a1 ha1 => ?_
 refine zo (.cptr [(.v (.int .i64 a1))]) ?_ (Eq.trans (by kernel_rfl) (Z3Z (o := ox66) (k := .i64) (n := 1) (e := (eI .i64)) (cs := (fun a => [(eI .i64) a])) (fun _ => rfl) (fun _ => rfl) (by decide) ha1))
 refine zq<|ze ?_
 refine zo (.p (.tup [(.agg (Z1J ((getM z1d a1).getD (Zw.mk 0 0 0 0 (ByteArray.mk #[]))))), (.v (.bool (getM z1d a1).isSome))])) ?_ (Eq.trans (b := Zg1 PP 110 true (.mp 4) (iv a1) [(Zx b0 zB), (ZN b1 zQ zK), (Zx b2 zM), (Zx (ZC.mk zF zI zP zJ zX) zV), [(.md ((z1d).map (encM ZD)))]]) (by kernel_rfl) <| (ZqW (e := ZD) (z := (Zw.mk 0 0 0 0 (ByteArray.mk #[]))) (es := z1d) (te := 43) (by kernel_rfl) (by kernel_rfl) (by kernel_rfl) true).trans (by kernel_rfl))
 refine zq<|zq<|zz (.ptr 5 0) [(Zx b0 zB), (ZN b1 zQ zK), (Zx b2 zM), (Zx (ZC.mk zF zI zP zJ zX) zV), [(.md ((z1d).map (encM ZD)))], (Z1v (Zw.mk 0 0 0 0 (ByteArray.mk #[])))]<|zt [(Zx b0 zB), (ZN b1 zQ zK), (Zx b2 zM), (Zx (ZC.mk zF zI zP zJ zX) zV), [(.md ((z1d).map (encM ZD)))], (Z1v ((getM z1d a1).getD (Zw.mk 0 0 0 0 (ByteArray.mk #[]))))]<|ze<|zq ?_
 refine za (!(getM z1d a1).isSome) ?_ ?_
 ·refine ze<|zq<|zt [(Zx b0 zB), (ZN b1 zQ zK), (Zx (ZC.mk 0 0 0 0 ([] : List Zw)) .nl), (Zx (ZC.mk zF zI zP zJ zX) zV), [(.md ((z1d).map (encM ZD)))], (Z1v ((getM z1d a1).getD (Zw.mk 0 0 0 0 (ByteArray.mk #[]))))] ?_
  exact zr ((.p (.tup [(.agg (Z1w (ZC.mk 0 0 0 0 ([] : List Zw)) .sh)), (.v (.int .i64 32))])), [(Zx b0 zB), (ZN b1 zQ zK), (Zx (ZC.mk 0 0 0 0 ([] : List Zw)) .nl), (Zx (ZC.mk zF zI zP zJ zX) zV), [(.md ((z1d).map (encM ZD)))], (Z1v ((getM z1d a1).getD (Zw.mk 0 0 0 0 (ByteArray.mk #[]))))]) ⟨_, rfl⟩
 ·exact zk (ZmS a1 x66 x67 x68 b0 b1 b2 zF zI zP zJ zX z1d ox66 zB zQ zK zM zV z1q)
def Z9p (b1 : ZU) (zF zI zP zJ : Int) (z1d : List (Int × Zw)) : Option (ZC × Int) :=
 Z9x b1.Put (b1.Put.length : Int) 0 zF zI zP zJ z1d
theorem ZmU b0 b1 b2 zF zI zP zJ zX z1d zB zQ zK zM zV (z1q : ZL zM = true) : Sim (Z1O) (Z9p b1 zF zI zP zJ z1d) (Ztv 0 (.ptr 1 0) (.ptr 2 0) (.ptr 3 0) (.mp 4) [(Zx b0 zB), (ZN b1 zQ zK), (Zx b2 zM), (Zx (ZC.mk zF zI zP zJ zX) zV), [(.md ((z1d).map (encM ZD)))]]) := by
 unfold Z9p
 refine zf (ZzG ..)<|ze<|zq<|zq ?_
 refine zo (iv (b1.Put.length : Int)) ?_ (Eq.trans (by kernel_rfl) (Z38 (P := PP) (t := 22) (d := 43) (by kernel_rfl) ZD (shrO zQ) b1.Put))
 exact zk (Zgf b1.Put (b1.Put.length : Int) 0 b0 b1 b2 zF zI zP zJ zX z1d (shrO zQ) zB zQ zK zM zV z1q)
def Z9l (x66 : List Int) (x67 x68 : Int) (b1 : ZU) (zF zI zP zJ : Int) (z1d : List (Int × Zw)) : Option (ZC × Int) :=
 if (decide (x68 < x67)) = true then
 (Zbo x66 x67 x68 b1 zF zI zP zJ z1d)
 else
 (Z9p b1 zF zI zP zJ z1d)
theorem ZmI (x66 : List Int) x67 x68 b0 b1 b2 zF zI zP zJ zX z1d ox66 zB zQ zK zM zV (z1q : ZL zM = true) : Sim (Z1O) (Z9l x66 x67 x68 b1 zF zI zP zJ z1d) (ZiW 0 (.ptr 1 0) (.ptr 2 0) (.ptr 3 0) (.mp 4) (.p (.lst ox66 (x66.map (eI .i64)))) (iv x67) (iv x68) [(Zx b0 zB), (ZN b1 zQ zK), (Zx b2 zM), (Zx (ZC.mk zF zI zP zJ zX) zV), [(.md ((z1d).map (encM ZD)))]]) := by
 unfold Z9l
 refine zf (Zzw ..)<|ze<|zq ?_
 refine za (decide (x68 < x67)) ?_ ?_
 ·exact zk (ZmR x66 x67 x68 b0 b1 b2 zF zI zP zJ zX z1d ox66 zB zQ zK zM zV z1q)
 ·exact zk (ZmU b0 b1 b2 zF zI zP zJ zX z1d zB zQ zK zM zV z1q)
theorem Zgc (x66 : List Int) (x67 x68 : Int) (b1 : ZU) (zF zI zP zJ : Int) (z1d : List (Int × Zw)) {r} (h : Z9l x66 x67 x68 b1 zF zI zP zJ z1d = some r) : Z9w x66 x67 x68 b1 zF zI zP zJ z1d = some r :=
 Z1a (fun _ _ ha hb => RRun.uniq ZaS (ha default default default .ex .ex .ex .ex .ex .ex rfl) (hb default default default .ex .ex .ex .ex .ex .ex rfl)) (fun b0 b2 zX ox66 zB zQ zK zM zV z1q => ZmI x66 x67 x68 b0 b1 b2 zF zI zP zJ zX z1d ox66 zB zQ zK zM zV z1q r h)
def Zbr (x85 : List Zw) (x86 x87 zF zI zP zJ : Int) (z1d : List (Int × Zw)) : Option (ZC × Int) :=
 (lget x85 x87).bind fun a1 =>
 Z9x x85 x86 (IntKind.i64.wrap (x87 + 1)) zF zI zP zJ (putM z1d a1.ID a1)
theorem ZmV (x85 : List Zw) x86 x87 b0 b1 b2 zF zI zP zJ zX z1d ox85 zB zQ zK zM zV (z1q : ZL zM = true) : Sim (Z1O) (Zbr x85 x86 x87 zF zI zP zJ z1d) (Ztw 0 (.ptr 2 0) (.ptr 3 0) (.mp 4) (.p (.lst ox85 (x85.map ZD))) (iv x86) (iv x87) [(Zx b0 zB), (ZN b1 zQ zK), (Zx b2 zM), (Zx (ZC.mk zF zI zP zJ zX) zV), [(.md ((z1d).map (encM ZD)))]]) := by
 unfold Zbr
 refine zf (ZzH ..)<|ze<|zi fun a1 ha1 => ?_
 refine zo (.cptr (Z1J a1)) ?_ (Eq.trans (by kernel_rfl) (Z3Z (o := ox85) (k := .i64) (n := 5) (e := ZD) (cs := Z5U) (fun _ => rfl) (fun _ => rfl) (by decide) ha1))
 refine zq<|zz (.ptr 5 0) [(Zx b0 zB), (ZN b1 zQ zK), (Zx b2 zM), (Zx (ZC.mk zF zI zP zJ zX) zV), [(.md ((z1d).map (encM ZD)))], (Z1v (Zw.mk 0 0 0 0 (ByteArray.mk #[])))]<|zt [(Zx b0 zB), (ZN b1 zQ zK), (Zx b2 zM), (Zx (ZC.mk zF zI zP zJ zX) zV), [(.md ((z1d).map (encM ZD)))], (Z1v a1)]<|ze<|zq<|zq<|zq ?_
 refine Sim.xupd (B2 := [(Zx b0 zB), (ZN b1 zQ zK), (Zx b2 zM), (Zx (ZC.mk zF zI zP zJ zX) zV), [(.md ((putM z1d a1.ID a1).map (encM ZD)))], (Z1v a1)]) (fun K => Eq.trans (b := xupd PP 110 (.mp 4) (iv a1.ID) (.p (.agg (Z1J a1))) [(Zx b0 zB), (ZN b1 zQ zK), (Zx b2 zM), (Zx (ZC.mk zF zI zP zJ zX) zV), [(.md ((z1d).map (encM ZD)))], (Z1v a1)] K) (by kernel_rfl) <| ZtT (P := PP) (t := 110) (K := K) (B2 := [(Zx b0 zB), (ZN b1 zQ zK), (Zx b2 zM), (Zx (ZC.mk zF zI zP zJ zX) zV), [(.md ((putM z1d a1.ID a1).map (encM ZD)))], (Z1v a1)]) (e := ZD) (a := a1) (es := z1d) (te := 43) (by kernel_rfl) (by kernel_rfl) (by kernel_rfl) (by kernel_rfl) (by kernel_rfl)) ?_
 refine ze<|zq ?_
 exact zk (Zgf x85 x86 (IntKind.i64.wrap (x87 + 1)) b0 b1 b2 zF zI zP zJ zX (putM z1d a1.ID a1) ox85 zB zQ zK zM zV z1q)
def Zbs (zF zI zP zJ : Int) (z1d : List (Int × Zw)) : Option (ZC × Int) :=
 (Z94).bind fun r1 =>
 (Z9W z1d).bind fun r2 =>
 Z9y r2 (r2.length : Int) 0 zF zI zP zJ ([] : List Zw) z1d
theorem ZmX b0 b1 b2 zF zI zP zJ zX z1d zB zQ zK zM zV (z1q : ZL zM = true) : Sim (Z1O) (Zbs zF zI zP zJ z1d) (Zty 0 (.ptr 2 0) (.ptr 3 0) (.mp 4) [(Zx b0 zB), (ZN b1 zQ zK), (Zx b2 zM), (Zx (ZC.mk zF zI zP zJ zX) zV), [(.md ((z1d).map (encM ZD)))]]) := by
 unfold Zbs
 refine zf (ZzJ ..)<|ze<|zq<|zt [(Zx b0 zB), (ZN b1 zQ zK), (Zx b2 zM), (Zx (ZC.mk zF zI zP zJ ([] : List Zw)) .nl), [(.md ((z1d).map (encM ZD)))]]<|ze<|zi fun r1 hr1 => ?_
 obtain ⟨qr1, er1, exr1, rfl, _⟩ := ZjO z1d r1 hr1
 refine zc [4] (.clo 78 [] [(.ptr 5 0)]) [(Zx b0 zB), (ZN b1 zQ zK), (Zx b2 zM), (Zx (ZC.mk zF zI zP zJ ([] : List Zw)) .nl), [(.md ((z1d).map (encM ZD)))], [(.mp 4)]] er1<|zi fun r2 hr2 => ?_
 obtain ⟨qr2, er2, exr2, rfl⟩ := Zi0 z1d r2 hr2
 refine zc [5, 4] (.p (.lst .sh (r2.map (eI .i64)))) [(Zx b0 zB), (ZN b1 zQ zK), (Zx b2 zM), (Zx (ZC.mk zF zI zP zJ ([] : List Zw)) .nl), [(.md ((z1d).map (encM ZD)))], [(.mp 4)]] er2 ?_
 refine zo (iv (r2.length : Int)) ?_ (Eq.trans (by kernel_rfl) (Z38 (P := PP) (t := 27) (d := 3) (by kernel_rfl) (eI .i64) .sh r2))
 exact zk (Zgh r2 (r2.length : Int) 0 b0 b1 b2 zF zI zP zJ ([] : List Zw) z1d .sh zB zQ zK zM .nl z1q rfl)
def Z9q (zF zI zP zJ : Int) (z1d : List (Int × Zw)) : Option (ZC × Int) :=
 if (decide (16 < (z1d.length : Int))) = true then
 (some ((ZC.mk 0 0 0 0 ([] : List Zw)), 33))
 else
 (Zbs zF zI zP zJ z1d)
theorem ZmW b0 b1 b2 zF zI zP zJ zX z1d zB zQ zK zM zV (z1q : ZL zM = true) : Sim (Z1O) (Z9q zF zI zP zJ z1d) (Ztx 0 (.ptr 2 0) (.ptr 3 0) (.mp 4) [(Zx b0 zB), (ZN b1 zQ zK), (Zx b2 zM), (Zx (ZC.mk zF zI zP zJ zX) zV), [(.md ((z1d).map (encM ZD)))]]) := by
 unfold Z9q
 refine zf (ZzI ..)<|ze ?_
 refine zo (iv (z1d.length : Int)) ?_ (Eq.trans (b := ZnB (.mp 4) [(Zx b0 zB), (ZN b1 zQ zK), (Zx b2 zM), (Zx (ZC.mk zF zI zP zJ zX) zV), [(.md ((z1d).map (encM ZD)))]]) (by kernel_rfl) (ZDK (e := ZD) (es := z1d) (by kernel_rfl)))
 refine zq ?_
 refine za (decide (16 < (z1d.length : Int))) ?_ ?_
 ·refine ze<|zq<|zt [(Zx b0 zB), (ZN b1 zQ zK), (Zx (ZC.mk 0 0 0 0 ([] : List Zw)) .nl), (Zx (ZC.mk zF zI zP zJ zX) zV), [(.md ((z1d).map (encM ZD)))]] ?_
  exact zr ((.p (.tup [(.agg (Z1w (ZC.mk 0 0 0 0 ([] : List Zw)) .sh)), (.v (.int .i64 33))])), [(Zx b0 zB), (ZN b1 zQ zK), (Zx (ZC.mk 0 0 0 0 ([] : List Zw)) .nl), (Zx (ZC.mk zF zI zP zJ zX) zV), [(.md ((z1d).map (encM ZD)))]]) ⟨_, rfl⟩
 ·exact zk (ZmX b0 b1 b2 zF zI zP zJ zX z1d zB zQ zK zM zV z1q)
def Z9m (x85 : List Zw) (x86 x87 zF zI zP zJ : Int) (z1d : List (Int × Zw)) : Option (ZC × Int) :=
 if (decide (x87 < x86)) = true then
 (Zbr x85 x86 x87 zF zI zP zJ z1d)
 else
 (Z9q zF zI zP zJ z1d)
theorem ZmK (x85 : List Zw) x86 x87 b0 b1 b2 zF zI zP zJ zX z1d ox85 zB zQ zK zM zV (z1q : ZL zM = true) : Sim (Z1O) (Z9m x85 x86 x87 zF zI zP zJ z1d) (ZiX 0 (.ptr 2 0) (.ptr 3 0) (.mp 4) (.p (.lst ox85 (x85.map ZD))) (iv x86) (iv x87) [(Zx b0 zB), (ZN b1 zQ zK), (Zx b2 zM), (Zx (ZC.mk zF zI zP zJ zX) zV), [(.md ((z1d).map (encM ZD)))]]) := by
 unfold Z9m
 refine zf (Zzx ..)<|ze<|zq ?_
 refine za (decide (x87 < x86)) ?_ ?_
 ·exact zk (ZmV x85 x86 x87 b0 b1 b2 zF zI zP zJ zX z1d ox85 zB zQ zK zM zV z1q)
 ·exact zk (ZmW b0 b1 b2 zF zI zP zJ zX z1d zB zQ zK zM zV z1q)
theorem Zge (x85 : List Zw) (x86 x87 zF zI zP zJ : Int) (z1d : List (Int × Zw)) {r} (h : Z9m x85 x86 x87 zF zI zP zJ z1d = some r) : Z9x x85 x86 x87 zF zI zP zJ z1d = some r :=
 Z1a (fun _ _ ha hb => RRun.uniq ZaS (ha default default default default .ex .ex .ex .ex .ex .ex rfl) (hb default default default default .ex .ex .ex .ex .ex .ex rfl)) (fun b0 b1 b2 zX ox85 zB zQ zK zM zV z1q => ZmK x85 x86 x87 b0 b1 b2 zF zI zP zJ zX z1d ox85 zB zQ zK zM zV z1q r h)
def Zbt (x103 : List Int) (x104 x105 zF zI zP zJ : Int) (zX : List Zw) (z1d : List (Int × Zw)) : Option (ZC × Int) :=
 (lget x103 x105).bind fun a1 =>
 (lapp zX ([((getM z1d a1).getD (Zw.mk 0 0 0 0 (ByteArray.mk #[])))] : List Zw)).bind fun a2 =>
 Z9y x103 x104 (IntKind.i64.wrap (x105 + 1)) zF zI zP zJ a2 z1d
theorem ZmY (x103 : List Int) x104 x105 b0 b1 b2 zF zI zP zJ zX z1d ox103 zB zQ zK zM zV (z1q : ZL zM = true) (z8d : ZL zV = true) : Sim (Z1O) (Zbt x103 x104 x105 zF zI zP zJ zX z1d) (Ztz 0 (.ptr 2 0) (.ptr 3 0) (.mp 4) (.p (.lst ox103 (x103.map (eI .i64)))) (iv x104) (iv x105) [(Zx b0 zB), (ZN b1 zQ zK), (Zx b2 zM), (Zx (ZC.mk zF zI zP zJ zX) zV), [(.md ((z1d).map (encM ZD)))]]) := by
 unfold Zbt
 refine zf (ZzK ..)<|ze<|zi fun a1 ha1 => ?_
 refine zo (.cptr [(.v (.int .i64 a1))]) ?_ (Eq.trans (by kernel_rfl) (Z3Z (o := ox103) (k := .i64) (n := 1) (e := (eI .i64)) (cs := (fun a => [(eI .i64) a])) (fun _ => rfl) (fun _ => rfl) (by decide) ha1))
 refine zq<|ze<|zq<|zw (.p (.lst zV (zX.map ZD))) [(Zx b0 zB), (ZN b1 zQ zK), (Zx b2 zM), (Zx (ZC.mk zF zI zP zJ zX) (shrO zV)), [(.md ((z1d).map (encM ZD)))]] ?_
 refine zo (.p (.agg (Z1J ((getM z1d a1).getD (Zw.mk 0 0 0 0 (ByteArray.mk #[])))))) ?_ (Eq.trans (b := Zg1 PP 110 false (.mp 4) (iv a1) [(Zx b0 zB), (ZN b1 zQ zK), (Zx b2 zM), (Zx (ZC.mk zF zI zP zJ zX) (shrO zV)), [(.md ((z1d).map (encM ZD)))]]) (by kernel_rfl) <| (ZqW (e := ZD) (z := (Zw.mk 0 0 0 0 (ByteArray.mk #[]))) (es := z1d) (te := 43) (by kernel_rfl) (by kernel_rfl) (by kernel_rfl) false).trans (by kernel_rfl))
 refine zq<|zi fun a2 ha2 => ?_
 refine zo (.p (.lst .un (a2.map ZD))) ?_ (Eq.trans (by kernel_rfl) <| Zj5 (n := 5) (o := zV) (o' := .ex) (e := ZD) (ys := ([((getM z1d a1).getD (Zw.mk 0 0 0 0 (ByteArray.mk #[])))] : List Zw)) (fun _ => rfl) (by decide) z8d ha2)
 refine zq<|zt [(Zx b0 zB), (ZN b1 zQ zK), (Zx b2 zM), (Zx (ZC.mk zF zI zP zJ a2) .un), [(.md ((z1d).map (encM ZD)))]]<|ze<|zq ?_
 exact zk (Zgh x103 x104 (IntKind.i64.wrap (x105 + 1)) b0 b1 b2 zF zI zP zJ a2 z1d ox103 zB zQ zK zM .un z1q rfl)
def Zbu (zF zI zP zJ : Int) (zX : List Zw) : Option (ZC × Int) :=
 some ((ZC.mk zF zI zP zJ zX), 0)
theorem ZmZ b0 b1 b2 zF zI zP zJ zX zB zQ zK zM zV (z1q : ZL zM = true) (z8d : ZL zV = true) : Sim (Z1O) (Zbu zF zI zP zJ zX) (ZtA 0 (.ptr 2 0) (.ptr 3 0) [(Zx b0 zB), (ZN b1 zQ zK), (Zx b2 zM), (Zx (ZC.mk zF zI zP zJ zX) zV)]) := by
 unfold Zbu
 refine zf (ZzL ..)<|ze<|zq<|zt [(Zx b0 zB), (ZN b1 zQ zK), (Zx (ZC.mk zF zI zP zJ zX) (shrO zV)), (Zx (ZC.mk zF zI zP zJ zX) zV)] ?_
 exact zr ((.p (.tup [(.agg (Z1w (ZC.mk zF zI zP zJ zX) .sh)), (.v (.int .i64 0))])), [(Zx b0 zB), (ZN b1 zQ zK), (Zx (ZC.mk zF zI zP zJ zX) (shrO zV)), (Zx (ZC.mk zF zI zP zJ zX) zV)]) ⟨_, rfl⟩
def Z9n (x103 : List Int) (x104 x105 zF zI zP zJ : Int) (zX : List Zw) (z1d : List (Int × Zw)) : Option (ZC × Int) :=
 if (decide (x105 < x104)) = true then
 (Zbt x103 x104 x105 zF zI zP zJ zX z1d)
 else
 (Zbu zF zI zP zJ zX)
theorem ZmM (x103 : List Int) x104 x105 b0 b1 b2 zF zI zP zJ zX z1d ox103 zB zQ zK zM zV (z1q : ZL zM = true) (z8d : ZL zV = true) : Sim (Z1O) (Z9n x103 x104 x105 zF zI zP zJ zX z1d) (ZiY 0 (.ptr 2 0) (.ptr 3 0) (.mp 4) (.p (.lst ox103 (x103.map (eI .i64)))) (iv x104) (iv x105) [(Zx b0 zB), (ZN b1 zQ zK), (Zx b2 zM), (Zx (ZC.mk zF zI zP zJ zX) zV), [(.md ((z1d).map (encM ZD)))]]) := by
 unfold Z9n
 refine zf (Zzy ..)<|ze<|zq ?_
 refine za (decide (x105 < x104)) ?_ ?_
 ·exact zk (ZmY x103 x104 x105 b0 b1 b2 zF zI zP zJ zX z1d ox103 zB zQ zK zM zV z1q z8d)
 ·exact zk (ZmZ b0 b1 b2 zF zI zP zJ zX zB zQ zK zM zV z1q z8d)
theorem Zgg (x103 : List Int) (x104 x105 zF zI zP zJ : Int) (zX : List Zw) (z1d : List (Int × Zw)) {r} (h : Z9n x103 x104 x105 zF zI zP zJ zX z1d = some r) : Z9y x103 x104 x105 zF zI zP zJ zX z1d = some r :=
 Z1a (fun _ _ ha hb => RRun.uniq ZaS (ha default default default .ex .ex .ex .ex .ex .ex rfl rfl) (hb default default default .ex .ex .ex .ex .ex .ex rfl rfl)) (fun b0 b1 b2 ox103 zB zQ zK zM zV z1q z8d => ZmM x103 x104 x105 b0 b1 b2 zF zI zP zJ zX z1d ox103 zB zQ zK zM zV z1q z8d r h)
def Zes (x1 z19 : Int) : Option (Int) :=
 if (x1 != (-1)) = true then
 (some (x1))
 else
 (some (z19))
theorem Zpy x1 z19 z1k z1y z1r z1n zB : Sim (ZbL z1k z1y z1r z1n zB) (Zes x1 z19) (EE 49 [(.ptr 0 0), (iv x1)] [(Zx (ZC.mk z19 z1k z1y z1r z1n) zB)]) := by
 unfold Zes
 refine zf (Zrj ..)<|ze<|zq ?_
 refine za (x1 != (-1)) ?_ ?_
 ·refine ze<|zq<|zt [(Zx (ZC.mk x1 z1k z1y z1r z1n) zB)] ?_
  exact zr ((.p (.tup [])), [(Zx (ZC.mk x1 z1k z1y z1r z1n) zB)]) ⟨_, rfl⟩
 ·exact zr ((.p (.tup [])), [(Zx (ZC.mk z19 z1k z1y z1r z1n) zB)]) ⟨_, rfl⟩
theorem Zqv (x1 z19 : Int) {r} (h : Zes x1 z19 = some r) : Zey x1 z19 = some r :=
 Z1a (fun _ _ ha hb => RRun.uniq (ZqZ _ _ _ _ _) (ha default default default default .ex) (hb default default default default .ex)) (fun z1k z1y z1r z1n zB => Zpy x1 z19 z1k z1y z1r z1n zB r h)
def ZaE (x1 z1k : Int) : Option (Int) :=
 if (x1 != (-1)) = true then
 (some (x1))
 else
 (some (z1k))
theorem ZlN x1 z19 z1k z1y z1r z1n zB : Sim (Z8M z19 z1y z1r z1n zB) (ZaE x1 z1k) (EE 49 [(.ptr 0 1), (iv x1)] [(Zx (ZC.mk z19 z1k z1y z1r z1n) zB)]) := by
 unfold ZaE
 refine zf (Zrj ..)<|ze<|zq ?_
 refine za (x1 != (-1)) ?_ ?_
 ·refine ze<|zq<|zt [(Zx (ZC.mk z19 x1 z1y z1r z1n) zB)] ?_
  exact zr ((.p (.tup [])), [(Zx (ZC.mk z19 x1 z1y z1r z1n) zB)]) ⟨_, rfl⟩
 ·exact zr ((.p (.tup [])), [(Zx (ZC.mk z19 z1k z1y z1r z1n) zB)]) ⟨_, rfl⟩
theorem Zn6 (x1 z1k : Int) {r} (h : ZaE x1 z1k = some r) : ZaN x1 z1k = some r :=
 Z1a (fun _ _ ha hb => RRun.uniq (ZnM _ _ _ _ _) (ha default default default default .ex) (hb default default default default .ex)) (fun z19 z1y z1r z1n zB => ZlN x1 z19 z1k z1y z1r z1n zB r h)
def ZaD (x1 z1y : Int) : Option (Int) :=
 if (x1 != (-1)) = true then
 (some (x1))
 else
 (some (z1y))
theorem ZlL x1 z19 z1k z1y z1r z1n zB : Sim (Z8L z19 z1k z1r z1n zB) (ZaD x1 z1y) (EE 49 [(.ptr 0 2), (iv x1)] [(Zx (ZC.mk z19 z1k z1y z1r z1n) zB)]) := by
 unfold ZaD
 refine zf (Zrj ..)<|ze<|zq ?_
 refine za (x1 != (-1)) ?_ ?_
 ·refine ze<|zq<|zt [(Zx (ZC.mk z19 z1k x1 z1r z1n) zB)] ?_
  exact zr ((.p (.tup [])), [(Zx (ZC.mk z19 z1k x1 z1r z1n) zB)]) ⟨_, rfl⟩
 ·exact zr ((.p (.tup [])), [(Zx (ZC.mk z19 z1k z1y z1r z1n) zB)]) ⟨_, rfl⟩
theorem Zn4 (x1 z1y : Int) {r} (h : ZaD x1 z1y = some r) : ZaM x1 z1y = some r :=
 Z1a (fun _ _ ha hb => RRun.uniq (ZnL _ _ _ _ _) (ha default default default default .ex) (hb default default default default .ex)) (fun z19 z1k z1r z1n zB => ZlL x1 z19 z1k z1y z1r z1n zB r h)
def ZaC (x1 z1r : Int) : Option (Int) :=
 if (x1 != (-1)) = true then
 (some (x1))
 else
 (some (z1r))
theorem ZlJ x1 z19 z1k z1y z1r z1n zB : Sim (Z8K z19 z1k z1y z1n zB) (ZaC x1 z1r) (EE 49 [(.ptr 0 3), (iv x1)] [(Zx (ZC.mk z19 z1k z1y z1r z1n) zB)]) := by
 unfold ZaC
 refine zf (Zrj ..)<|ze<|zq ?_
 refine za (x1 != (-1)) ?_ ?_
 ·refine ze<|zq<|zt [(Zx (ZC.mk z19 z1k z1y x1 z1n) zB)] ?_
  exact zr ((.p (.tup [])), [(Zx (ZC.mk z19 z1k z1y x1 z1n) zB)]) ⟨_, rfl⟩
 ·exact zr ((.p (.tup [])), [(Zx (ZC.mk z19 z1k z1y z1r z1n) zB)]) ⟨_, rfl⟩
theorem Zn2 (x1 z1r : Int) {r} (h : ZaC x1 z1r = some r) : ZaL x1 z1r = some r :=
 Z1a (fun _ _ ha hb => RRun.uniq (ZnK _ _ _ _ _) (ha default default default default .ex) (hb default default default default .ex)) (fun z19 z1k z1y z1n zB => ZlJ x1 z19 z1k z1y z1r z1n zB r h)
def Z9M (x0 : List Zw) : Option (Bool) :=
 (Z5v x0).bind fun r1 =>
 some (!r1)
theorem Zk3 (x0 : List Zw) ox0 : Sim (Z7K) (Z9M x0) (EE 50 [(.p (.lst ox0 (x0.map ZD))), (.clo 27 [] [])] []) := by
 unfold Z9M
 refine zf (ZGB ..)<|ze<|zx (.ptr 0 0) [[(.clo 27 [] [])]]<|ze<|zi fun r1 hr1 => ?_
 obtain ⟨qr1, er1, exr1, rfl⟩ := Zee x0 .sh r1 hr1
 refine zc [0] (bv r1) [[(.clo 27 [] [])]] er1<|zq ?_
 exact zr ((bv (!r1)), [[(.clo 27 [] [])]]) ⟨_, rfl⟩
theorem ZkP (x0 : List Zw) {r} (h : Z9M x0 = some r) : Z9S x0 = some r :=
 Z1a (fun _ _ ha hb => RRun.uniq Zl8 (ha .ex) (hb .ex)) (fun ox0 => Zk3 x0 ox0 r h)
def Z5n (x0 : List Zw) : Option (Bool) :=
 (Z6n x0).bind fun r1 =>
 some (decide (0 ≤ r1))
theorem ZdG (x0 : List Zw) ox0 : Sim (Z4f) (Z5n x0) (EE 57 [(.p (.lst ox0 (x0.map ZD))), (.clo 73 [] [(.ptr 0 0)])] [[(.clo 27 [] [])]]) := by
 unfold Z5n
 refine zf (ZBk ..)<|ze<|ze<|zi fun r1 hr1 => ?_
 obtain ⟨qr1, er1, exr1, rfl⟩ := ZfM x0 .sh r1 hr1
 refine zc [0] (iv r1) [[(.clo 27 [] [])]] er1<|zq ?_
 exact zr ((bv (decide (0 ≤ r1))), [[(.clo 27 [] [])]]) ⟨_, rfl⟩
theorem Zed (x0 : List Zw) {r} (h : Z5n x0 = some r) : Z5v x0 = some r :=
 Z1a (fun _ _ ha hb => RRun.uniq ZeF (ha .ex) (hb .ex)) (fun ox0 => ZdG x0 ox0 r h)
def Z6j (x0 : List Zw) : Option (Int) :=
 Z4o x0 (x0.length : Int) 0
theorem Zfo (x0 : List Zw) ox0 : Sim (Z2h) (Z6j x0) (EE 83 [(.p (.lst ox0 (x0.map ZD))), (.clo 73 [] [(.ptr 0 0)])] [[(.clo 27 [] [])]]) := by
 unfold Z6j
 refine zf (ZBy ..)<|ze<|ze ?_
 refine zo (iv (x0.length : Int)) ?_ (Eq.trans (by kernel_rfl) (Z38 (P := PP) (t := 22) (d := 43) (by kernel_rfl) ZD (shrO ox0) x0))
 exact zk (Z9a x0 (x0.length : Int) 0 ox0)
theorem ZfL (x0 : List Zw) {r} (h : Z6j x0 = some r) : Z6n x0 = some r :=
 Z1a (fun _ _ ha hb => RRun.uniq Zat (ha .ex) (hb .ex)) (fun ox0 => Zfo x0 ox0 r h)
def Z5q (x0 : List Zw) (x7 x8 : Int) : Option (Int) :=
 Z4o x0 x7 (IntKind.i64.wrap (x8 + 1))
theorem ZdO (x0 : List Zw) x7 x8 ox0 : Sim (Z2h) (Z5q x0 x7 x8) (Zrp 1 (.p (.lst ox0 (x0.map ZD))) (.clo 73 [] [(.ptr 0 0)]) (iv x7) (iv x8) [[(.clo 27 [] [])]]) := by
 unfold Z5q
 refine zf (ZtY ..)<|ze<|zq ?_
 exact zk (Z9a x0 x7 (IntKind.i64.wrap (x8 + 1)) ox0)
def Z4i (x0 : List Zw) (x7 x8 : Int) : Option (Int) :=
 (lget x0 x8).bind fun a1 =>
 (Z73 a1).bind fun r2 =>
 if (r2) = true then
 (some (x8))
 else
 (Z5q x0 x7 x8)
theorem ZdN (x0 : List Zw) x7 x8 ox0 : Sim (Z2h) (Z4i x0 x7 x8) (Zro 1 (.p (.lst ox0 (x0.map ZD))) (.clo 73 [] [(.ptr 0 0)]) (iv x7) (iv x8) [[(.clo 27 [] [])]]) := by
 unfold Z4i
 refine zf (ZtX ..)<|ze<|ze<|zi fun a1 ha1 => ?_
 refine zo (.cptr (Z1J a1)) ?_ (Eq.trans (by kernel_rfl) (Z3Z (o := (shrO ox0)) (k := .i64) (n := 5) (e := ZD) (cs := Z5U) (fun _ => rfl) (fun _ => rfl) (by decide) ha1))
 refine zq<|zi fun r2 hr2 => ?_
 obtain ⟨qr2, er2, exr2, rfl⟩ := Zjv a1 r2 hr2
 refine zv [0] (bv r2) [[(.clo 27 [] [])]] er2 ?_
 refine za r2 ?_ ?_
 ·refine ze ?_
  exact zr ((iv x8), [[(.clo 27 [] [])]]) ⟨_, rfl⟩
 ·exact zk (ZdO x0 x7 x8 ox0)
def Z7r  : Option (Int) :=
 some (-1)
theorem ZdP  : Sim (Z2h) (Z7r) (Zrq 1  [[(.clo 27 [] [])]]) := by
 unfold Z7r
 refine zf (ZtZ ..)<|ze ?_
 exact zr ((iv (-1)), [[(.clo 27 [] [])]]) ⟨_, rfl⟩
def Z3s (x0 : List Zw) (x7 x8 : Int) : Option (Int) :=
 if (decide (x8 < x7)) = true then
 (Z4i x0 x7 x8)
 else
 (Z7r)
theorem ZdM (x0 : List Zw) x7 x8 ox0 : Sim (Z2h) (Z3s x0 x7 x8) (ZfB 1 (.p (.lst ox0 (x0.map ZD))) (.clo 73 [] [(.ptr 0 0)]) (iv x7) (iv x8) [[(.clo 27 [] [])]]) := by
 unfold Z3s
 refine zf (ZtW ..)<|ze<|zq ?_
 refine za (decide (x8 < x7)) ?_ ?_
 ·exact zk (ZdN x0 x7 x8 ox0)
 ·exact zk (ZdP )
theorem Z6y (x0 : List Zw) (x7 x8 : Int) {r} (h : Z3s x0 x7 x8 = some r) : Z4o x0 x7 x8 = some r :=
 Z1a (fun _ _ ha hb => RRun.uniq Zat (ha .ex) (hb .ex)) (fun ox0 => ZdM x0 x7 x8 ox0 r h)
def Z6X (x0 : Zw) : Option (Bool) :=
 (Z8V x0).bind fun r1 =>
 some (!r1)
theorem Ziy x0 : Sim (Z6O) (Z6X x0) (EE 73 [(.p (.agg (Z1J x0))), (.ptr 0 0)] [[(.clo 27 [] [])]]) := by
 unfold Z6X
 refine zf (ZGS ..)<|ze<|zx (.ptr 1 0) [[(.clo 27 [] [])], (Z1v x0)]<|ze<|zq<|zq<|zi fun r1 hr1 => ?_
 obtain ⟨qr1, er1, exr1, rfl⟩ := ZfD x0 r1 hr1
 refine zv [] (bv r1) [[(.clo 27 [] [])], (Z1v x0)] er1<|zq ?_
 exact zr ((bv (!r1)), [[(.clo 27 [] [])], (Z1v x0)]) ⟨_, rfl⟩
theorem ZcC (x0 : Zw) {r} (h : Z6X x0 = some r) : Z73 x0 = some r :=
 Z1a (fun _ _ ha hb => RRun.uniq ZjJ (ha ) (hb )) (Ziy x0 r h)
def Zac (x0 : ZU) : Option (Bool) :=
 (Z5w x0.Put ([] : List (Int × Bool))).bind fun r1 =>
 if (r1.1) = true then
 (some (true))
 else
 ((Z5K x0.Drop r1.2).bind fun r2 =>
 some (r2.1))
theorem ZkM x0 z6b z4Y : Sim (Z8h) (Zac x0) (EE 51 [(.p (.agg (Z4B x0 z6b z4Y)))] []) := by
 unfold Zac
 refine zf (ZGC ..)<|ze<|zx (.ptr 0 0) [(ZN x0 z6b z4Y)]<|ze<|zm (.mp 1) [(ZN x0 z6b z4Y), [(.md (([] : List (Int × Bool)).map (encM eB)))]]<|zz (.ptr 2 0) [(ZN x0 z6b z4Y), [(.md (([] : List (Int × Bool)).map (encM eB)))], [(.p (.v (.map none)))]]<|zt [(ZN x0 z6b z4Y), [(.md (([] : List (Int × Bool)).map (encM eB)))], [(.mp 1)]]<|ze<|zz (.ptr 3 0) [(ZN x0 z6b z4Y), [(.md (([] : List (Int × Bool)).map (encM eB)))], [(.mp 1)], [(.p (.v .nilFunc))]]<|zt [(ZN x0 z6b z4Y), [(.md (([] : List (Int × Bool)).map (encM eB)))], [(.mp 1)], [(.clo 74 [] [(.ptr 2 0)])]]<|ze<|zq<|zq<|zi fun r1 hr1 => ?_
 obtain ⟨qr1, er1, exr1, rfl⟩ := Zeg x0.Put ([] : List (Int × Bool)) .sh r1 hr1
 refine zc [3, 2, 1] (bv r1.1) [(ZN x0 z6b z4Y), [(.md ((r1.2).map (encM eB)))], [(.mp 1)], [(.clo 74 [] [(.ptr 2 0)])]] er1 ?_
 refine za r1.1 ?_ ?_
 ·exact zr ((bv true), [(ZN x0 z6b z4Y), [(.md ((r1.2).map (encM eB)))], [(.mp 1)], [(.clo 74 [] [(.ptr 2 0)])]]) ⟨_, rfl⟩
 ·refine zq<|zq<|zq<|zi fun r2 hr2 => ?_
  obtain ⟨qr2, er2, exr2, rfl⟩ := ZeM x0.Drop r1.2 .sh r2 hr2
  refine zc [2, 1] (bv r2.1) [(ZN x0 z6b z4Y), [(.md ((r2.2).map (encM eB)))], [(.mp 1)], [(.clo 74 [] [(.ptr 2 0)])]] er2 ?_
  exact zr ((bv r2.1), [(ZN x0 z6b z4Y), [(.md ((r2.2).map (encM eB)))], [(.mp 1)], [(.clo 74 [] [(.ptr 2 0)])]]) ⟨_, rfl⟩
theorem ZlF (x0 : ZU) {r} (h : Zac x0 = some r) : Zak x0 = some r :=
 Z1a (fun _ _ ha hb => RRun.uniq Zme (ha .ex .ex) (hb .ex .ex)) (fun z6b z4Y => ZkM x0 z6b z4Y r h)
def Z5o (x0 : List Zw) (z11 : List (Int × Bool)) : Option (Bool × (List (Int × Bool))) :=
 (Z6o x0 z11).bind fun r1 =>
 some ((decide (0 ≤ r1.1)), r1.2)
theorem ZdH (x0 : List Zw) z11 ox0 : Sim (Z4g) (Z5o x0 z11) (EE 57 [(.p (.lst ox0 (x0.map ZD))), (.clo 75 [] [(.ptr 0 0)])] [[(.clo 74 [] [(.ptr 1 0)])], [(.mp 2)], [(.md ((z11).map (encM eB)))]]) := by
 unfold Z5o
 refine zf (ZBk ..)<|ze<|ze<|zi fun r1 hr1 => ?_
 obtain ⟨qr1, er1, exr1, rfl⟩ := ZfO x0 z11 .sh r1 hr1
 refine zc [0, 1, 2] (iv r1.1) [[(.clo 74 [] [(.ptr 1 0)])], [(.mp 2)], [(.md ((r1.2).map (encM eB)))]] er1<|zq ?_
 exact zr ((bv (decide (0 ≤ r1.1))), [[(.clo 74 [] [(.ptr 1 0)])], [(.mp 2)], [(.md ((r1.2).map (encM eB)))]]) ⟨_, rfl⟩
theorem Zef (x0 : List Zw) (z11 : List (Int × Bool)) {r} (h : Z5o x0 z11 = some r) : Z5w x0 z11 = some r :=
 Z1a (fun _ _ ha hb => RRun.uniq ZeG (ha .ex) (hb .ex)) (fun ox0 => ZdH x0 z11 ox0 r h)
def Z6k (x0 : List Zw) (z11 : List (Int × Bool)) : Option (Int × (List (Int × Bool))) :=
 Z4p x0 (x0.length : Int) 0 z11
theorem Zfp (x0 : List Zw) z11 ox0 : Sim (Z2i) (Z6k x0 z11) (EE 83 [(.p (.lst ox0 (x0.map ZD))), (.clo 75 [] [(.ptr 0 0)])] [[(.clo 74 [] [(.ptr 1 0)])], [(.mp 2)], [(.md ((z11).map (encM eB)))]]) := by
 unfold Z6k
 refine zf (ZBy ..)<|ze<|ze ?_
 refine zo (iv (x0.length : Int)) ?_ (Eq.trans (by kernel_rfl) (Z38 (P := PP) (t := 22) (d := 43) (by kernel_rfl) ZD (shrO ox0) x0))
 exact zk (Z9b x0 (x0.length : Int) 0 z11 ox0)
theorem ZfN (x0 : List Zw) (z11 : List (Int × Bool)) {r} (h : Z6k x0 z11 = some r) : Z6o x0 z11 = some r :=
 Z1a (fun _ _ ha hb => RRun.uniq Zau (ha .ex) (hb .ex)) (fun ox0 => Zfp x0 z11 ox0 r h)
def Z5r (x0 : List Zw) (x7 x8 : Int) (z11 : List (Int × Bool)) : Option (Int × (List (Int × Bool))) :=
 Z4p x0 x7 (IntKind.i64.wrap (x8 + 1)) z11
theorem ZdS (x0 : List Zw) x7 x8 z11 ox0 : Sim (Z2i) (Z5r x0 x7 x8 z11) (Zrp 3 (.p (.lst ox0 (x0.map ZD))) (.clo 75 [] [(.ptr 0 0)]) (iv x7) (iv x8) [[(.clo 74 [] [(.ptr 1 0)])], [(.mp 2)], [(.md ((z11).map (encM eB)))]]) := by
 unfold Z5r
 refine zf (ZtY ..)<|ze<|zq ?_
 exact zk (Z9b x0 x7 (IntKind.i64.wrap (x8 + 1)) z11 ox0)
def Z4j (x0 : List Zw) (x7 x8 : Int) (z11 : List (Int × Bool)) : Option (Int × (List (Int × Bool))) :=
 (lget x0 x8).bind fun a1 =>
 (Z7w a1 z11).bind fun r2 =>
 if (r2.1) = true then
 (some (x8, r2.2))
 else
 (Z5r x0 x7 x8 r2.2)
theorem ZdR (x0 : List Zw) x7 x8 z11 ox0 : Sim (Z2i) (Z4j x0 x7 x8 z11) (Zro 3 (.p (.lst ox0 (x0.map ZD))) (.clo 75 [] [(.ptr 0 0)]) (iv x7) (iv x8) [[(.clo 74 [] [(.ptr 1 0)])], [(.mp 2)], [(.md ((z11).map (encM eB)))]]) := by
 unfold Z4j
 refine zf (ZtX ..)<|ze<|ze<|zi fun a1 ha1 => ?_
 refine zo (.cptr (Z1J a1)) ?_ (Eq.trans (by kernel_rfl) (Z3Z (o := (shrO ox0)) (k := .i64) (n := 5) (e := ZD) (cs := Z5U) (fun _ => rfl) (fun _ => rfl) (by decide) ha1))
 refine zq<|zi fun r2 hr2 => ?_
 obtain ⟨qr2, er2, exr2, rfl⟩ := Zhw a1 z11 r2 hr2
 refine zv [0, 1, 2] (bv r2.1) [[(.clo 74 [] [(.ptr 1 0)])], [(.mp 2)], [(.md ((r2.2).map (encM eB)))]] er2 ?_
 refine za r2.1 ?_ ?_
 ·refine ze ?_
  exact zr ((iv x8), [[(.clo 74 [] [(.ptr 1 0)])], [(.mp 2)], [(.md ((r2.2).map (encM eB)))]]) ⟨_, rfl⟩
 ·exact zk (ZdS x0 x7 x8 r2.2 ox0)
def Z7s (z11 : List (Int × Bool)) : Option (Int × (List (Int × Bool))) :=
 some ((-1), z11)
theorem ZdT z11 : Sim (Z2i) (Z7s z11) (Zrq 3  [[(.clo 74 [] [(.ptr 1 0)])], [(.mp 2)], [(.md ((z11).map (encM eB)))]]) := by
 unfold Z7s
 refine zf (ZtZ ..)<|ze ?_
 exact zr ((iv (-1)), [[(.clo 74 [] [(.ptr 1 0)])], [(.mp 2)], [(.md ((z11).map (encM eB)))]]) ⟨_, rfl⟩
def Z3t (x0 : List Zw) (x7 x8 : Int) (z11 : List (Int × Bool)) : Option (Int × (List (Int × Bool))) :=
 if (decide (x8 < x7)) = true then
 (Z4j x0 x7 x8 z11)
 else
 (Z7s z11)
theorem ZdQ (x0 : List Zw) x7 x8 z11 ox0 : Sim (Z2i) (Z3t x0 x7 x8 z11) (ZfB 3 (.p (.lst ox0 (x0.map ZD))) (.clo 75 [] [(.ptr 0 0)]) (iv x7) (iv x8) [[(.clo 74 [] [(.ptr 1 0)])], [(.mp 2)], [(.md ((z11).map (encM eB)))]]) := by
 unfold Z3t
 refine zf (ZtW ..)<|ze<|zq ?_
 refine za (decide (x8 < x7)) ?_ ?_
 ·exact zk (ZdR x0 x7 x8 z11 ox0)
 ·exact zk (ZdT z11)
theorem Z6z (x0 : List Zw) (x7 x8 : Int) (z11 : List (Int × Bool)) {r} (h : Z3t x0 x7 x8 z11 = some r) : Z4p x0 x7 x8 z11 = some r :=
 Z1a (fun _ _ ha hb => RRun.uniq Zau (ha .ex) (hb .ex)) (fun ox0 => ZdQ x0 x7 x8 z11 ox0 r h)
def Z7p (x0 : Zw) (z11 : List (Int × Bool)) : Option (Bool × (List (Int × Bool))) :=
 (Z5W x0.ID z11).bind fun r1 =>
 some (r1.1, r1.2)
theorem ZgO x0 z11 : Sim (Z5N) (Z7p x0 z11) (EE 75 [(.p (.agg (Z1J x0))), (.ptr 0 0)] [[(.clo 74 [] [(.ptr 1 0)])], [(.mp 2)], [(.md ((z11).map (encM eB)))]]) := by
 unfold Z7p
 refine zf (ZGU ..)<|ze<|zx (.ptr 3 0) [[(.clo 74 [] [(.ptr 1 0)])], [(.mp 2)], [(.md ((z11).map (encM eB)))], (Z1v x0)]<|ze<|zq<|zq<|zq<|zi fun r1 hr1 => ?_
 obtain ⟨qr1, er1, exr1, rfl⟩ := Zbf x0.ID z11 r1 hr1
 refine zv [1, 2] (bv r1.1) [[(.clo 74 [] [(.ptr 1 0)])], [(.mp 2)], [(.md ((r1.2).map (encM eB)))], (Z1v x0)] er1 ?_
 exact zr ((bv r1.1), [[(.clo 74 [] [(.ptr 1 0)])], [(.mp 2)], [(.md ((r1.2).map (encM eB)))], (Z1v x0)]) ⟨_, rfl⟩
theorem Zhv (x0 : Zw) (z11 : List (Int × Bool)) {r} (h : Z7p x0 z11 = some r) : Z7w x0 z11 = some r :=
 Z1a (fun _ _ ha hb => RRun.uniq ZhS (ha ) (hb )) (ZgO x0 z11 r h)
def Z9r (x0 : Int) (z1K : List (Int × Bool)) : Option (Bool × (List (Int × Bool))) :=
 some (((getM z1K x0).getD false), (putM z1K x0 true))
theorem ZgN x0 z1K : Sim (Z5M) (Z9r x0 z1K) (EE 74 [(iv x0), (.ptr 0 0)] [[(.mp 1)], [(.md ((z1K).map (encM eB)))]]) := by
 unfold Z9r
 refine zf (ZGT ..)<|ze<|ze<|zq ?_
 refine zo (bv ((getM z1K x0).getD false)) ?_ (Eq.trans (b := Zg1 PP 152 false (.mp 1) (iv x0) [[(.mp 1)], [(.md ((z1K).map (encM eB)))]]) (by kernel_rfl) <| (ZqW (e := eB) (z := false) (es := z1K) (te := 4) (by kernel_rfl) (by kernel_rfl) (by kernel_rfl) false).trans (by kernel_rfl))
 refine ze<|zq ?_
 refine Sim.xupd (B2 := [[(.mp 1)], [(.md ((putM z1K x0 true).map (encM eB)))]]) (fun K => Eq.trans (b := xupd PP 152 (.mp 1) (iv x0) (bv true) [[(.mp 1)], [(.md ((z1K).map (encM eB)))]] K) (by kernel_rfl) <| ZtT (P := PP) (t := 152) (K := K) (B2 := [[(.mp 1)], [(.md ((putM z1K x0 true).map (encM eB)))]]) (e := eB) (a := true) (es := z1K) (te := 4) (by kernel_rfl) (by kernel_rfl) (by kernel_rfl) (by kernel_rfl) (by kernel_rfl)) ?_
 refine ze ?_
 exact zr ((bv ((getM z1K x0).getD false)), [[(.mp 1)], [(.md ((putM z1K x0 true).map (encM eB)))]]) ⟨_, rfl⟩
theorem Zhu (x0 : Int) (z1K : List (Int × Bool)) {r} (h : Z9r x0 z1K = some r) : Z5W x0 z1K = some r :=
 Z1a (fun _ _ ha hb => RRun.uniq ZhR (ha ) (hb )) (ZgN x0 z1K r h)
def Z5F (x0 : List Int) (z1K : List (Int × Bool)) : Option (Bool × (List (Int × Bool))) :=
 (Z6F x0 z1K).bind fun r1 =>
 some ((decide (0 ≤ r1.1)), r1.2)
theorem Zeh (x0 : List Int) z1K ox0 : Sim (Z4t) (Z5F x0 z1K) (EE 59 [(.p (.lst ox0 (x0.map (eI .i64)))), (.clo 74 [] [(.ptr 0 0)])] [[(.mp 1)], [(.md ((z1K).map (encM eB)))]]) := by
 unfold Z5F
 refine zf (ZGE ..)<|ze<|ze<|zi fun r1 hr1 => ?_
 obtain ⟨qr1, er1, exr1, rfl⟩ := Zg8 x0 z1K .sh r1 hr1
 refine zc [0, 1] (iv r1.1) [[(.mp 1)], [(.md ((r1.2).map (encM eB)))]] er1<|zq ?_
 exact zr ((bv (decide (0 ≤ r1.1))), [[(.mp 1)], [(.md ((r1.2).map (encM eB)))]]) ⟨_, rfl⟩
theorem ZeL (x0 : List Int) (z1K : List (Int × Bool)) {r} (h : Z5F x0 z1K = some r) : Z5K x0 z1K = some r :=
 Z1a (fun _ _ ha hb => RRun.uniq Zfg (ha .ex) (hb .ex)) (fun ox0 => Zeh x0 z1K ox0 r h)
def Z6E (x0 : List Int) (z1K : List (Int × Bool)) : Option (Int × (List (Int × Bool))) :=
 Z4w x0 (x0.length : Int) 0 z1K
theorem ZfP (x0 : List Int) z1K ox0 : Sim (Z2p) (Z6E x0 z1K) (EE 84 [(.p (.lst ox0 (x0.map (eI .i64)))), (.clo 74 [] [(.ptr 0 0)])] [[(.mp 1)], [(.md ((z1K).map (encM eB)))]]) := by
 unfold Z6E
 refine zf (ZGW ..)<|ze<|ze ?_
 refine zo (iv (x0.length : Int)) ?_ (Eq.trans (by kernel_rfl) (Z38 (P := PP) (t := 27) (d := 3) (by kernel_rfl) (eI .i64) (shrO ox0) x0))
 exact zk (Z9A x0 (x0.length : Int) 0 z1K ox0)
theorem Zg7 (x0 : List Int) (z1K : List (Int × Bool)) {r} (h : Z6E x0 z1K = some r) : Z6F x0 z1K = some r :=
 Z1a (fun _ _ ha hb => RRun.uniq ZaU (ha .ex) (hb .ex)) (fun ox0 => ZfP x0 z1K ox0 r h)
def Z5G (x0 : List Int) (x7 x8 : Int) (z1K : List (Int × Bool)) : Option (Int × (List (Int × Bool))) :=
 Z4w x0 x7 (IntKind.i64.wrap (x8 + 1)) z1K
theorem Zek (x0 : List Int) x7 x8 z1K ox0 : Sim (Z2p) (Z5G x0 x7 x8 z1K) (ZvJ 2 (.p (.lst ox0 (x0.map (eI .i64)))) (.clo 74 [] [(.ptr 0 0)]) (iv x7) (iv x8) [[(.mp 1)], [(.md ((z1K).map (encM eB)))]]) := by
 unfold Z5G
 refine zf (ZBD ..)<|ze<|zq ?_
 exact zk (Z9A x0 x7 (IntKind.i64.wrap (x8 + 1)) z1K ox0)
def Z4v (x0 : List Int) (x7 x8 : Int) (z1K : List (Int × Bool)) : Option (Int × (List (Int × Bool))) :=
 (lget x0 x8).bind fun a1 =>
 (Z5W a1 z1K).bind fun r2 =>
 if (r2.1) = true then
 (some (x8, r2.2))
 else
 (Z5G x0 x7 x8 r2.2)
theorem Zej (x0 : List Int) x7 x8 z1K ox0 : Sim (Z2p) (Z4v x0 x7 x8 z1K) (ZvI 2 (.p (.lst ox0 (x0.map (eI .i64)))) (.clo 74 [] [(.ptr 0 0)]) (iv x7) (iv x8) [[(.mp 1)], [(.md ((z1K).map (encM eB)))]]) := by
 unfold Z4v
 refine zf (ZBC ..)<|ze<|ze<|zi fun a1 ha1 => ?_
 refine zo (.cptr [(.v (.int .i64 a1))]) ?_ (Eq.trans (by kernel_rfl) (Z3Z (o := (shrO ox0)) (k := .i64) (n := 1) (e := (eI .i64)) (cs := (fun a => [(eI .i64) a])) (fun _ => rfl) (fun _ => rfl) (by decide) ha1))
 refine zq<|zi fun r2 hr2 => ?_
 obtain ⟨qr2, er2, exr2, rfl⟩ := Zbf a1 z1K r2 hr2
 refine zv [0, 1] (bv r2.1) [[(.mp 1)], [(.md ((r2.2).map (encM eB)))]] er2 ?_
 refine za r2.1 ?_ ?_
 ·refine ze ?_
  exact zr ((iv x8), [[(.mp 1)], [(.md ((r2.2).map (encM eB)))]]) ⟨_, rfl⟩
 ·exact zk (Zek x0 x7 x8 r2.2 ox0)
def Z7E (z1K : List (Int × Bool)) : Option (Int × (List (Int × Bool))) :=
 some ((-1), z1K)
theorem Zel z1K : Sim (Z2p) (Z7E z1K) (ZvK 2  [[(.mp 1)], [(.md ((z1K).map (encM eB)))]]) := by
 unfold Z7E
 refine zf (ZBE ..)<|ze ?_
 exact zr ((iv (-1)), [[(.mp 1)], [(.md ((z1K).map (encM eB)))]]) ⟨_, rfl⟩
def Z3C (x0 : List Int) (x7 x8 : Int) (z1K : List (Int × Bool)) : Option (Int × (List (Int × Bool))) :=
 if (decide (x8 < x7)) = true then
 (Z4v x0 x7 x8 z1K)
 else
 (Z7E z1K)
theorem Zei (x0 : List Int) x7 x8 z1K ox0 : Sim (Z2p) (Z3C x0 x7 x8 z1K) (Zlr 2 (.p (.lst ox0 (x0.map (eI .i64)))) (.clo 74 [] [(.ptr 0 0)]) (iv x7) (iv x8) [[(.mp 1)], [(.md ((z1K).map (encM eB)))]]) := by
 unfold Z3C
 refine zf (ZBB ..)<|ze<|zq ?_
 refine za (decide (x8 < x7)) ?_ ?_
 ·exact zk (Zej x0 x7 x8 z1K ox0)
 ·exact zk (Zel z1K)
theorem Z6N (x0 : List Int) (x7 x8 : Int) (z1K : List (Int × Bool)) {r} (h : Z3C x0 x7 x8 z1K = some r) : Z4w x0 x7 x8 z1K = some r :=
 Z1a (fun _ _ ha hb => RRun.uniq ZaU (ha .ex) (hb .ex)) (fun ox0 => Zei x0 x7 x8 z1K ox0 r h)
def Zbj  : Option (Unit) :=
 some ()
theorem Zjj z1p : Sim (Z7e z1p) (Zbj) (EE 53 [(.mp 0)] [[(.md ((z1p).map (encM ZD)))]]) := by
 unfold Zbj
 refine zf (ZGD ..)<|ze<|zx (.ptr 1 0) [[(.md ((z1p).map (encM ZD)))], [(.mp 0)]]<|ze ?_
 exact zr ((.clo 78 [] [(.ptr 1 0)]), [[(.md ((z1p).map (encM ZD)))], [(.mp 0)]]) ⟨[], rfl, rfl⟩
theorem ZjN  {r} (h : Zbj = some r) : Z94 = some r :=
 Z1a (fun _ _ ha hb => RRun.uniq (Zku _) (ha default) (hb default)) (fun z1p => Zjj z1p r h)
end Go.Proofs.YteoeggbihfnbfaaGreatDoor.N2
end
