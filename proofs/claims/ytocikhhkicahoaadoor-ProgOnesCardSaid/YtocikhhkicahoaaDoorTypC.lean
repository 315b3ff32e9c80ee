/- More of the functions' typed texts. No condition. -/
import Derived.Test.YtocikhhkicahoaaDoorTypA

set_option linter.unusedSimpArgs false
set_option linter.unusedVariables false
set_option linter.defProp false
noncomputable section
namespace Go.Proofs.YtocikhhkicahoaaDoor.N2
open Go Go.Abs
set_option maxRecDepth 100000
def Z89 (x0 z1x : List Z8) : Option (List Z8) :=
 (Z9e z1x x0).bind fun r1 =>
 some r1.1
theorem Zhe (x0 z1x : List Z8) ox0 zi1 : Sim Z86 (Z89 x0 z1x) (EE 80 [(ZP ox0 (x0.map Zv)), (.ptr 0 0)] [[(ZP zi1 (z1x.map Zv))]]) := by
 unfold Z89
 refine zf (ZGH ..)<|ze<|zq<|zi fun r1 hr1 => ?_
 obtain ⟨_, er1, _, rfl⟩ := Zht z1x x0 .sh .sh r1 hr1
 refine zc [] (.p (.tup [(.lst .sh (r1.1.map Zv)), (.v (.int .i64 r1.2))])) [[(ZP zi1 (z1x.map Zv))]] er1<|zq<|zq<|zt [[(ZP .sh (r1.1.map Zv))]] ?_
 exact zr ((.p (.tup [])), [[(ZP .sh (r1.1.map Zv))]]) ⟨.sh, _, rfl⟩
theorem ZhM x0 z1x {r} (h : Z89 x0 z1x = some r) : Z6v x0 z1x = some r :=
 Z1i (fun _ _ ha hb => ru_ Zij (ha .ex .ex) (hb .ex .ex)) (fun ox0 zi1 => Zhe x0 z1x ox0 zi1 r h)
def Zax : Option ((List Z8) × Int) :=
 some (([] : List Z8), 10)
theorem Zek : Sim Z2R Zax (ZpE 0 []) := by
 unfold Zax
 refine zf (ZA1 ..)<|ze ?_
 exact zr ((.p (.tup [(.lst .sh []), (.v (.int .i64 10))])), []) ⟨_, rfl⟩
def Z8L (x0 x1 : List Z8) : Option ((List Z8) × Int) :=
 (ZaZ ([x0, x1] : List (List Z8))).bind fun r1 =>
 (ZaO r1).bind fun r2 =>
 some (r2, 0)
theorem Zkf (x0 x1 : List Z8) ox0 ox1 : Sim Z2R (Z8L x0 x1) (ZtK 0 (ZP ox0 (x0.map Zv)) (ZP ox1 (x1.map Zv)) []) := by
 unfold Z8L
 refine zf (ZA2 ..)<|ze<|zq<|zi fun r1 hr1 => ?_
 obtain ⟨_, er1, _, rfl⟩ := ZiD ([x0, x1] : List (List Z8)) .sh r1 hr1
 refine zc [] (ZP .sh (r1.map Zv)) [] er1<|zi fun r2 hr2 => ?_
 obtain ⟨_, er2, _, rfl⟩ := Zdd r1 .sh r2 hr2
 refine zc [] (ZP .sh (r2.map Zv)) [] er2 ?_
 exact zr ((.p (.tup [(.lst .sh (r2.map Zv)), (.v (.int .i64 0))])), []) ⟨_, rfl⟩
def ZaJ (x0 x1 : List Z8) : Option ((List Z8) × Int) :=
 (Z4c x0).bind fun r1 =>
 if (!r1) = true then
 Zax
 else
 ((Z4c x1).bind fun r2 =>
 if (!r2) = true then
 Zax
 else
 (Z8L x0 x1))
theorem ZmB (x0 x1 : List Z8) ox0 ox1 : Sim Z2R (ZaJ x0 x1) (EE 39 [(ZP ox0 (x0.map Zv)), (ZP ox1 (x1.map Zv))] []) := by
 unfold ZaJ
 refine zf (ZFE ..)<|ze<|ze<|zi fun r1 hr1 => ?_
 obtain ⟨_, er1, _, rfl⟩ := Z6Q x0 .sh r1 hr1
 refine zc [] (bv r1) [] er1<|zq ?_
 refine za (!r1) ?_ ?_
 ·exact zk Zek
 ·refine zi fun r2 hr2 => ?_
  obtain ⟨_, er2, _, rfl⟩ := Z6Q x1 .sh r2 hr2
  refine zc [] (bv r2) [] er2<|zq ?_
  refine za (!r2) ?_ ?_
  ·exact zk Zek
  ·exact zk (Zkf x0 x1 ox0 ox1)
theorem Zhs x0 x1 {r} (h : ZaJ x0 x1 = some r) : Z9e x0 x1 = some r :=
 Z1i (fun _ _ ha hb => ru_ ZaG (ha .ex .ex) (hb .ex .ex)) (fun ox0 ox1 => ZmB x0 x1 ox0 ox1 r h)
def Z5M (zn z7 zh : Int) (zj : List Zz) (z2 z6 z1I z2F z2E z1P z2d : Int) (z2e : List Z8) (b2 : Zk) : Option (Zk × Bool × Int × Int × Int × (List Zz) × Int × Int) :=
 some ((Zk.mk z1I z2F z2E z1P z2d z2e ([b2] : List Zk)), (z1I != 7), zn, z7, zh, zj, z2, z6)
theorem ZfO zm zn z7 zh zj z2 z6 z1I z2F z2E z1P z2d z2e z3i b2 zu zd zH zE z19 zZ (zy : ZM zd = true) (z16 : ZM zH = true) (zY : ZM zE = true) : Sim (Z2T zm zu) (Z5M zn z7 zh zj z2 z6 z1I z2F z2E z1P z2d z2e b2) (Zrz 1 (.ptr 1 0) (.ptr 2 0) [(ZL zm zn z7 zh zj z2 z6 zu zd), (Z2P z1I z2F z2E z1P z2d z2e z3i zH zE), (Zl b2 z19 zZ)]) := by
 unfold Z5M
 refine zf (Zy5 ..)<|ze<|zq<|zp (ZP .ex (([b2] : List Zk).map ZJ)) (Eq.trans (b := some (ZP .ex [.agg (Z1Z b2)])) (by kernel_rfl) (by simp only [Z9x, Zfc, Z4V]))<|zq<|zt [(ZL zm zn z7 zh zj z2 z6 zu zd), (Z2P z1I z2F z2E z1P z2d z2e ([b2] : List Zk) zH .ex), (Zl b2 z19 zZ)]<|ze<|zq<|zq<|zq<|zq<|zt [(ZL zm zn z7 zh zj z2 z6 zu zd), (Z2P z1I z2F z2E z1P z2d z2e ([b2] : List Zk) (shrO zH) .ex), (Zl b2 z19 zZ)] ?_
 exact zr ((.p (.tup [(.agg (ZI (Zk.mk z1I z2F z2E z1P z2d z2e ([b2] : List Zk)) .sh .sh)), (.v (.bool (z1I != 7)))])), [(ZL zm zn z7 zh zj z2 z6 zu zd), (Z2P z1I z2F z2E z1P z2d z2e ([b2] : List Zk) (shrO zH) .ex), (Zl b2 z19 zZ)]) ⟨zd, _, zy, rfl⟩
def Z37 (zn z7 zh : Int) (zj : List Zz) (z2 z6 z1I z2F z2E z1P z2d : Int) (z2e : List Z8) (b2 : Zk) : Option (Zk × Bool × Int × Int × Int × (List Zz) × Int × Int) :=
 if (z1I == 0) = true then
 (some (b2, true, zn, z7, (IntKind.i64.wrap (zh - 1)), zj, z2, z6))
 else
 (Z5M zn z7 (IntKind.i64.wrap (zh - 1)) zj z2 z6 z1I z2F z2E z1P z2d z2e b2)
theorem Z82 zm zn z7 zh zj z2 z6 z1I z2F z2E z1P z2d z2e z3i b2 zu zd zH zE z19 zZ (zy : ZM zd = true) (z16 : ZM zH = true) (zY : ZM zE = true) : Sim (Z2T zm zu) (Z37 zn z7 zh zj z2 z6 z1I z2F z2E z1P z2d z2e b2) (Zkb 1 (.ptr 0 0) (.ptr 1 0) (.ptr 2 0) [(ZL zm zn z7 zh zj z2 z6 zu zd), (Z2P z1I z2F z2E z1P z2d z2e z3i zH zE), (Zl b2 z19 zZ)]) := by
 unfold Z37
 refine zf (Zy4 ..)<|ze<|zq<|zq<|zq<|zq<|zq<|zq<|zt [(ZL zm zn z7 (IntKind.i64.wrap (zh - 1)) zj z2 z6 zu zd), (Z2P z1I z2F z2E z1P z2d z2e z3i zH zE), (Zl b2 z19 zZ)]<|ze<|zq<|zq<|zq ?_
 refine za (z1I == 0) ?_ ?_
 ·refine ze<|zq<|zt [(ZL zm zn z7 (IntKind.i64.wrap (zh - 1)) zj z2 z6 zu zd), (Zl b2 (shrO z19) (shrO zZ)), (Zl b2 z19 zZ)] ?_
  exact zr ((.p (.tup [(.agg (ZI b2 .sh .sh)), (.v (.bool true))])), [(ZL zm zn z7 (IntKind.i64.wrap (zh - 1)) zj z2 z6 zu zd), (Zl b2 (shrO z19) (shrO zZ)), (Zl b2 z19 zZ)]) ⟨zd, _, zy, rfl⟩
 ·exact zk (ZfO zm zn z7 (IntKind.i64.wrap (zh - 1)) zj z2 z6 z1I z2F z2E z1P z2d z2e z3i b2 zu zd zH zE z19 zZ zy z16 zY)
def Z7h (x1 : Int) (zm : List Int) (z7 zh : Int) (zj : List Zz) (z2 z6 z1I z2F z2E z1P z2d : Int) (z2e : List Z8) (b2 : Zk) : Option (Zk × Bool × Int × Int × Int × (List Zz) × Int × Int) :=
 (Z1c 20 x1 zm z2 z6).bind fun r1 =>
 Z37 r1.1 z7 zh zj r1.2.1 r1.2.2 z1I z2F z2E z1P z2d z2e b2
theorem ZfN x1 zm zn z7 zh zj z2 z6 z1I z2F z2E z1P z2d z2e z3i b2 zu zd zH zE z19 zZ (zy : ZM zd = true) (z16 : ZM zH = true) (zY : ZM zE = true) : Sim (Z2T zm zu) (Z7h x1 zm z7 zh zj z2 z6 z1I z2F z2E z1P z2d z2e b2) (Zry 1 (.ptr 0 0) (iv x1) (.ptr 1 0) (.ptr 2 0) [(ZL zm zn z7 zh zj z2 z6 zu zd), (Z2P z1I z2F z2E z1P z2d z2e z3i zH zE), (Zl b2 z19 zZ)]) := by
 unfold Z7h
 refine zf (Zy3 ..)<|ze<|zi fun r1 hr1 => ?_
 obtain ⟨_, er1, _, rfl⟩ := Z1h 20 x1 zm zn z7 zh zj z2 z6 zu zd zy r1 hr1
 refine zc [0] (.p (.tup [])) [(ZL zm r1.1 z7 zh zj r1.2.1 r1.2.2 zu zd), (Z2P z1I z2F z2E z1P z2d z2e z3i zH zE), (Zl b2 z19 zZ)] er1 ?_
 exact zk (Z82 zm r1.1 z7 zh zj r1.2.1 r1.2.2 z1I z2F z2E z1P z2d z2e z3i b2 zu zd zH zE z19 zZ zy z16 zY)
def Z2t (x1 : Int) (zm : List Int) (zn z7 zh : Int) (zj : List Zz) (z2 z6 z1I z2F z2E z1P z2d : Int) (z2e : List Z8) : Option (Zk × Bool × Int × Int × Int × (List Zz) × Int × Int) :=
 (Z4d zm zn z7 zh zj z2 z6).bind fun r1 =>
 if (r1.2.2.2.2.2.1 == 0) = true then
 ((Z1H (ByteArray.mk #[41]) zm r1.2.1).bind fun r2 =>
 if (!r2.1) = true then
 (Z7h x1 zm r1.2.2.1 r1.2.2.2.1 r1.2.2.2.2.1 r1.2.2.2.2.2.1 r1.2.2.2.2.2.2 z1I z2F z2E z1P z2d z2e r1.1)
 else
 (Z37 r2.2 r1.2.2.1 r1.2.2.2.1 r1.2.2.2.2.1 r1.2.2.2.2.2.1 r1.2.2.2.2.2.2 z1I z2F z2E z1P z2d z2e r1.1))
 else
 (Z37 r1.2.1 r1.2.2.1 r1.2.2.2.1 r1.2.2.2.2.1 r1.2.2.2.2.2.1 r1.2.2.2.2.2.2 z1I z2F z2E z1P z2d z2e r1.1)
theorem Z3O x1 zm zn z7 zh zj z2 z6 z1I z2F z2E z1P z2d z2e z3i zu zd zH zE (zy : ZM zd = true) (z16 : ZM zH = true) (zY : ZM zE = true) : Sim (Z2T zm zu) (Z2t x1 zm zn z7 zh zj z2 z6 z1I z2F z2E z1P z2d z2e) (Zeh 1 (.ptr 0 0) (iv x1) (.ptr 1 0) [(ZL zm zn z7 zh zj z2 z6 zu zd), (Z2P z1I z2F z2E z1P z2d z2e z3i zH zE)]) := by
 unfold Z2t
 refine zf (Zy2 ..)<|ze<|zi fun r1 hr1 => ?_
 obtain ⟨_, er1, z5e, _, z9r, rfl⟩ := Zep zm zn z7 zh zj z2 z6 zu zd zy r1 hr1
 refine zc [0] (pA_ (ZI r1.1 .sh .sh)) [(ZL zm r1.2.1 r1.2.2.1 r1.2.2.2.1 r1.2.2.2.2.1 r1.2.2.2.2.2.1 r1.2.2.2.2.2.2 zu z5e), (Z2P z1I z2F z2E z1P z2d z2e z3i zH zE)] er1<|zz (.ptr 2 0) [(ZL zm r1.2.1 r1.2.2.1 r1.2.2.2.1 r1.2.2.2.2.1 r1.2.2.2.2.2.1 r1.2.2.2.2.2.2 zu z5e), (Z2P z1I z2F z2E z1P z2d z2e z3i zH zE), (Zl Z1B .nl .nl)]<|zt [(ZL zm r1.2.1 r1.2.2.1 r1.2.2.2.1 r1.2.2.2.2.1 r1.2.2.2.2.2.1 r1.2.2.2.2.2.2 zu z5e), (Z2P z1I z2F z2E z1P z2d z2e z3i zH zE), (Zl r1.1 .sh .sh)]<|ze<|zq<|zq<|zq<|zq<|zq ?_
 refine za (r1.2.2.2.2.2.1 == 0) ?_ ?_
 ·refine zi fun r2 hr2 => ?_
  obtain ⟨_, er2, _, rfl⟩ := Z1Q (ByteArray.mk #[41]) zm r1.2.1 r1.2.2.1 r1.2.2.2.1 r1.2.2.2.2.1 r1.2.2.2.2.2.1 r1.2.2.2.2.2.2 zu z5e z9r r2 hr2
  refine zc [0] (bv r2.1) [(ZL zm r2.2 r1.2.2.1 r1.2.2.2.1 r1.2.2.2.2.1 r1.2.2.2.2.2.1 r1.2.2.2.2.2.2 zu z5e), (Z2P z1I z2F z2E z1P z2d z2e z3i zH zE), (Zl r1.1 .sh .sh)] er2<|zq ?_
  refine za (!r2.1) ?_ ?_
  ·exact zk (ZfN x1 zm r2.2 r1.2.2.1 r1.2.2.2.1 r1.2.2.2.2.1 r1.2.2.2.2.2.1 r1.2.2.2.2.2.2 z1I z2F z2E z1P z2d z2e z3i r1.1 zu z5e zH zE .sh .sh z9r z16 zY)
  ·exact zk (Z82 zm r2.2 r1.2.2.1 r1.2.2.2.1 r1.2.2.2.2.1 r1.2.2.2.2.2.1 r1.2.2.2.2.2.2 z1I z2F z2E z1P z2d z2e z3i r1.1 zu z5e zH zE .sh .sh z9r z16 zY)
 ·exact zk (Z82 zm r1.2.1 r1.2.2.1 r1.2.2.2.1 r1.2.2.2.2.1 r1.2.2.2.2.2.1 r1.2.2.2.2.2.2 z1I z2F z2E z1P z2d z2e z3i r1.1 zu z5e zH zE .sh .sh z9r z16 zY)
def Z6f (x1 : Int) (zm : List Int) (zn z7 zh : Int) (zj : List Zz) (z2 z6 z1I z2F z2E z1P z2d : Int) (z2e : List Z8) : Option (Zk × Bool × Int × Int × Int × (List Zz) × Int × Int) :=
 (ZdR).bind fun r1 =>
 (Z5I r1 zm zn).bind fun r2 =>
 if (decide (0 ≤ r2.1)) = true then
 (Z2t x1 zm r2.2 z7 (IntKind.i64.wrap (zh + 1)) zj z2 z6 7 0 0 r2.1 0 ([] : List Z8))
 else
 ((Z1H (ByteArray.mk #[63, 62]) zm r2.2).bind fun r3 =>
 if r3.1 = true then
 (Z2t x1 zm r3.2 z7 (IntKind.i64.wrap (zh + 1)) zj z2 z6 8 0 0 0 0 ([] : List Z8))
 else
 ((Z1H (ByteArray.mk #[63, 58]) zm r3.2).bind fun r4 =>
 if r4.1 = true then
 (Z2t x1 zm r4.2 z7 (IntKind.i64.wrap (zh + 1)) zj z2 z6 z1I z2F z2E z1P z2d z2e)
 else
 ((Z2G (Z1y.mk zm r4.2 z7 (IntKind.i64.wrap (zh + 1)) zj (Z14.mk z2 z6))).bind fun r5 =>
 if (r5 == 63) = true then
 ((Z1c 20 x1 zm z2 z6).bind fun r6 =>
 Z2t x1 zm r6.1 z7 (IntKind.i64.wrap (zh + 1)) zj r6.2.1 r6.2.2 z1I z2F z2E z1P z2d z2e)
 else
 (if (z7 == 9) = true then
 ((Z1c 24 x1 zm z2 z6).bind fun r7 =>
 Z2t x1 zm r7.1 z7 (IntKind.i64.wrap (zh + 1)) zj r7.2.1 r7.2.2 z1I z2F z2E z1P z2d z2e)
 else
 (Z2t x1 zm r4.2 (IntKind.i64.wrap (z7 + 1)) (IntKind.i64.wrap (zh + 1)) zj z2 z6 5 0 0 0 (IntKind.i64.wrap (z7 + 1)) ([] : List Z8))))))
theorem ZgF x1 zm zn z7 zh zj z2 z6 z1I z2F z2E z1P z2d z2e z3i zu zd zH zE (zy : ZM zd = true) (z16 : ZM zH = true) (zY : ZM zE = true) : Sim (Z2T zm zu) (Z6f x1 zm zn z7 zh zj z2 z6 z1I z2F z2E z1P z2d z2e) (Zuv 1 (.ptr 0 0) (iv x1) (.ptr 1 0) [(ZL zm zn z7 zh zj z2 z6 zu zd), (Z2P z1I z2F z2E z1P z2d z2e z3i zH zE)]) := by
 unfold Z6f
 refine zf (ZAI ..)<|ze<|zq<|zq<|zq<|zq<|zq<|zq<|zt [(ZL zm zn z7 (IntKind.i64.wrap (zh + 1)) zj z2 z6 zu zd), (Z2P z1I z2F z2E z1P z2d z2e z3i zH zE)]<|ze<|zi fun r1 hr1 => ?_
 obtain ⟨_, er1, _, rfl⟩ := Zox r1 hr1
 refine zc [] (ZP .sh (r1.map eS)) [(ZL zm zn z7 (IntKind.i64.wrap (zh + 1)) zj z2 z6 zu zd), (Z2P z1I z2F z2E z1P z2d z2e z3i zH zE)] er1<|zi fun r2 hr2 => ?_
 obtain ⟨_, er2, _, rfl⟩ := Ze7 r1 zm zn z7 (IntKind.i64.wrap (zh + 1)) zj z2 z6 .sh zu zd zy r2 hr2
 refine zc [0] (iv r2.1) [(ZL zm r2.2 z7 (IntKind.i64.wrap (zh + 1)) zj z2 z6 zu zd), (Z2P z1I z2F z2E z1P z2d z2e z3i zH zE)] er2<|ze<|zq ?_
 refine za (decide (0 ≤ r2.1)) ?_ ?_
 ·refine ze<|zq<|zt [(ZL zm r2.2 z7 (IntKind.i64.wrap (zh + 1)) zj z2 z6 zu zd), (Z2P 7 0 0 r2.1 0 ([] : List Z8) ([] : List Zk) .nl .nl)] ?_
  exact zk (Z3O x1 zm r2.2 z7 (IntKind.i64.wrap (zh + 1)) zj z2 z6 7 0 0 r2.1 0 ([] : List Z8) ([] : List Zk) zu zd .nl .nl zy rfl rfl)
 ·refine ze<|zi fun r3 hr3 => ?_
  obtain ⟨_, er3, _, rfl⟩ := Z1Q (ByteArray.mk #[63, 62]) zm r2.2 z7 (IntKind.i64.wrap (zh + 1)) zj z2 z6 zu zd zy r3 hr3
  refine zc [0] (bv r3.1) [(ZL zm r3.2 z7 (IntKind.i64.wrap (zh + 1)) zj z2 z6 zu zd), (Z2P z1I z2F z2E z1P z2d z2e z3i zH zE)] er3 ?_
  refine za r3.1 ?_ ?_
  ·refine ze<|zq<|zt [(ZL zm r3.2 z7 (IntKind.i64.wrap (zh + 1)) zj z2 z6 zu zd), (Z2P 8 0 0 0 0 ([] : List Z8) ([] : List Zk) .nl .nl)] ?_
   exact zk (Z3O x1 zm r3.2 z7 (IntKind.i64.wrap (zh + 1)) zj z2 z6 8 0 0 0 0 ([] : List Z8) ([] : List Zk) zu zd .nl .nl zy rfl rfl)
  ·refine ze<|zi fun r4 hr4 => ?_
   obtain ⟨_, er4, _, rfl⟩ := Z1Q (ByteArray.mk #[63, 58]) zm r3.2 z7 (IntKind.i64.wrap (zh + 1)) zj z2 z6 zu zd zy r4 hr4
   refine zc [0] (bv r4.1) [(ZL zm r4.2 z7 (IntKind.i64.wrap (zh + 1)) zj z2 z6 zu zd), (Z2P z1I z2F z2E z1P z2d z2e z3i zH zE)] er4 ?_
   refine za r4.1 ?_ ?_
   ·exact zk (Z3O x1 zm r4.2 z7 (IntKind.i64.wrap (zh + 1)) zj z2 z6 z1I z2F z2E z1P z2d z2e z3i zu zd zH zE zy z16 zY)
   ·refine ze<|zi fun r5 hr5 => ?_
    obtain ⟨_, er5, _, rfl⟩ := Z2S (Z1y.mk zm r4.2 z7 (IntKind.i64.wrap (zh + 1)) zj (Z14.mk z2 z6)) zu zd zy r5 hr5
    refine zc [0] (iv r5) [(ZL zm r4.2 z7 (IntKind.i64.wrap (zh + 1)) zj z2 z6 zu zd), (Z2P z1I z2F z2E z1P z2d z2e z3i zH zE)] er5<|zq ?_
    refine za (r5 == 63) ?_ ?_
    ·refine ze<|zi fun r6 hr6 => ?_
     obtain ⟨_, er6, _, rfl⟩ := Z1h 20 x1 zm r4.2 z7 (IntKind.i64.wrap (zh + 1)) zj z2 z6 zu zd zy r6 hr6
     refine zc [0] (.p (.tup [])) [(ZL zm r6.1 z7 (IntKind.i64.wrap (zh + 1)) zj r6.2.1 r6.2.2 zu zd), (Z2P z1I z2F z2E z1P z2d z2e z3i zH zE)] er6 ?_
     exact zk (Z3O x1 zm r6.1 z7 (IntKind.i64.wrap (zh + 1)) zj r6.2.1 r6.2.2 z1I z2F z2E z1P z2d z2e z3i zu zd zH zE zy z16 zY)
    ·refine ze<|zq<|zq<|zq<|zq ?_
     refine za (z7 == 9) ?_ ?_
     ·refine ze<|zi fun r7 hr7 => ?_
      obtain ⟨_, er7, _, rfl⟩ := Z1h 24 x1 zm r4.2 z7 (IntKind.i64.wrap (zh + 1)) zj z2 z6 zu zd zy r7 hr7
      refine zc [0] (.p (.tup [])) [(ZL zm r7.1 z7 (IntKind.i64.wrap (zh + 1)) zj r7.2.1 r7.2.2 zu zd), (Z2P z1I z2F z2E z1P z2d z2e z3i zH zE)] er7 ?_
      exact zk (Z3O x1 zm r7.1 z7 (IntKind.i64.wrap (zh + 1)) zj r7.2.1 r7.2.2 z1I z2F z2E z1P z2d z2e z3i zu zd zH zE zy z16 zY)
     ·refine ze<|zq<|zq<|zq<|zq<|zq<|zq<|zt [(ZL zm r4.2 (IntKind.i64.wrap (z7 + 1)) (IntKind.i64.wrap (zh + 1)) zj z2 z6 zu zd), (Z2P z1I z2F z2E z1P z2d z2e z3i zH zE)]<|ze<|zq<|zq<|zq<|zq<|zt [(ZL zm r4.2 (IntKind.i64.wrap (z7 + 1)) (IntKind.i64.wrap (zh + 1)) zj z2 z6 zu zd), (Z2P 5 0 0 0 (IntKind.i64.wrap (z7 + 1)) ([] : List Z8) ([] : List Zk) .nl .nl)] ?_
      exact zk (Z3O x1 zm r4.2 (IntKind.i64.wrap (z7 + 1)) (IntKind.i64.wrap (zh + 1)) zj z2 z6 5 0 0 0 (IntKind.i64.wrap (z7 + 1)) ([] : List Z8) ([] : List Zk) zu zd .nl .nl zy rfl rfl)
def Z7g (x1 : Int) (zm : List Int) (zn z7 zh : Int) (zj : List Zz) (z2 z6 : Int) : Option (Zk × Bool × Int × Int × Int × (List Zz) × Int × Int) :=
 if (zh == 32) = true then
 ((Z1c 25 x1 zm z2 z6).bind fun r1 =>
 some ((Zk.mk 0 0 0 0 0 ([] : List Z8) ([] : List Zk)), true, r1.1, z7, zh, zj, r1.2.1, r1.2.2))
 else
 (Z6f x1 zm zn z7 zh zj z2 z6 0 0 0 0 0 ([] : List Z8))
theorem Zix x1 zm zn z7 zh zj z2 z6 zu zd (zy : ZM zd = true) : Sim (Z2T zm zu) (Z7g x1 zm zn z7 zh zj z2 z6) (EE 68 [(.ptr 0 0), (iv x1)] [(ZL zm zn z7 zh zj z2 z6 zu zd)]) := by
 unfold Z7g
 refine zf (ZGr ..)<|ze<|zz (.ptr 1 0) [(ZL zm zn z7 zh zj z2 z6 zu zd), (Zl Z1B .nl .nl)]<|ze<|zq<|zq<|zq<|zq ?_
 refine za (zh == 32) ?_ ?_
 ·refine ze<|zi fun r1 hr1 => ?_
  obtain ⟨_, er1, _, rfl⟩ := Z1h 25 x1 zm zn z7 zh zj z2 z6 zu zd zy r1 hr1
  refine zc [0] (.p (.tup [])) [(ZL zm r1.1 z7 zh zj r1.2.1 r1.2.2 zu zd), (Zl Z1B .nl .nl)] er1<|ze<|zq<|zt [(ZL zm r1.1 z7 zh zj r1.2.1 r1.2.2 zu zd), (Zl Z1B .nl .nl)] ?_
  exact zr ((.p (.tup [(.agg (ZI Z1B .sh .sh)), (.v (.bool true))])), [(ZL zm r1.1 z7 zh zj r1.2.1 r1.2.2 zu zd), (Zl Z1B .nl .nl)]) ⟨zd, _, zy, rfl⟩
 ·exact zk (ZgF x1 zm zn z7 zh zj z2 z6 0 0 0 0 0 ([] : List Z8) ([] : List Zk) zu zd .nl .nl zy rfl rfl)
theorem Zd9 x1 zm zn z7 zh zj z2 z6 {r} (h : Z7g x1 zm zn z7 zh zj z2 z6 = some r) : Z4W x1 zm zn z7 zh zj z2 z6 = some r :=
 Z1i (fun _ _ ha hb => ru_ (Zds _ _) (ha .ex .ex rfl) (hb .ex .ex rfl)) (fun zu zd zy => Zix x1 zm zn z7 zh zj z2 z6 zu zd zy r h)
def Zhb : Option (List ByteArray) :=
 some ([(ByteArray.mk #[63, 61]), (ByteArray.mk #[63, 33]), (ByteArray.mk #[63, 60, 61]), (ByteArray.mk #[63, 60, 33])] : List ByteArray)
theorem ZnW : Sim ZdK Zhb (EE 83 [] []) := by
 unfold Zhb
 refine zf (ZGL ..)<|ze<|ze<|zq ?_
 exact zr ((ZP .sh (([(ByteArray.mk #[63, 61]), (ByteArray.mk #[63, 33]), (ByteArray.mk #[63, 60, 61]), (ByteArray.mk #[63, 60, 33])] : List ByteArray).map eS)), []) ⟨_, rfl⟩
theorem Zow {r} (h : Zhb = some r) : ZdR = some r :=
 Z1i (fun _ _ ha hb => ru_ Zp6 ha hb) (ZnW r h)
def Z5F (x0 : List ByteArray) (zm : List Int) (zn : Int) : Option (Int × Int) :=
 Z2n x0 (x0.length : Int) 0 zm zn
theorem ZdE (x0 : List ByteArray) zm zn z7 zh zj z2 z6 ox0 zu zd (zy : ZM zd = true) : Sim (Z2c zm z7 zh zj z2 z6 zu zd) (Z5F x0 zm zn) (EE 82 [(ZP ox0 (x0.map eS)), (.clo 19 [(.ptr 0 0)] [])] [(ZL zm zn z7 zh zj z2 z6 zu zd)]) := by
 unfold Z5F
 refine zf (ZGJ ..)<|ze<|ze<|zp (iv (x0.length : Int)) (et_ (Z30 (P := PP) (t := 121) (d := 9) (by kernel_rfl) eS (shrO ox0) x0)) ?_
 exact zk (Z8E x0 (x0.length : Int) 0 zm zn z7 zh zj z2 z6 ox0 zu zd zy)
theorem Ze6 x0 zm zn {r} (h : Z5F x0 zm zn = some r) : Z5I x0 zm zn = some r :=
 Z1i (fun _ _ ha hb => ru_ (Z6E _ _ _ _ _ _ _ _) (ha default default default default default .ex .ex .ex rfl) (hb default default default default default .ex .ex .ex rfl)) (fun z7 zh zj z2 z6 ox0 zu zd zy => ZdE x0 zm zn z7 zh zj z2 z6 ox0 zu zd zy r h)
def Z4U (x0 : List ByteArray) (x7 x8 : Int) (zm : List Int) (zn : Int) : Option (Int × Int) :=
 Z2n x0 x7 (IntKind.i64.wrap (x8 + 1)) zm zn
theorem Zcl (x0 : List ByteArray) x7 x8 zm zn z7 zh zj z2 z6 ox0 zu zd (zy : ZM zd = true) : Sim (Z2c zm z7 zh zj z2 z6 zu zd) (Z4U x0 x7 x8 zm zn) (ZuQ 1 (ZP ox0 (x0.map eS)) (.clo 19 [(.ptr 0 0)] []) (iv x7) (iv x8) [(ZL zm zn z7 zh zj z2 z6 zu zd)]) := by
 unfold Z4U
 refine zf (ZB1 ..)<|ze<|zq ?_
 exact zk (Z8E x0 x7 (IntKind.i64.wrap (x8 + 1)) zm zn z7 zh zj z2 z6 ox0 zu zd zy)
def Z3S (x0 : List ByteArray) (x7 x8 : Int) (zm : List Int) (zn : Int) : Option (Int × Int) :=
 (lget x0 x8).bind fun a1 =>
 (Z1H a1 zm zn).bind fun r2 =>
 if r2.1 = true then
 (some (x8, r2.2))
 else
 (Z4U x0 x7 x8 zm r2.2)
theorem Zck (x0 : List ByteArray) x7 x8 zm zn z7 zh zj z2 z6 ox0 zu zd (zy : ZM zd = true) : Sim (Z2c zm z7 zh zj z2 z6 zu zd) (Z3S x0 x7 x8 zm zn) (ZuP 1 (ZP ox0 (x0.map eS)) (.clo 19 [(.ptr 0 0)] []) (iv x7) (iv x8) [(ZL zm zn z7 zh zj z2 z6 zu zd)]) := by
 unfold Z3S
 refine zf (ZB0 ..)<|ze<|ze<|zi fun a1 ha1 => zp (.cptr [(.v (.string a1))]) (et_ (Z2v (o := (shrO ox0)) (k := .i64) (n := 1) (e := eS) (cs := (fun a => [eS a])) (fun _ => rfl) (fun _ => rfl) (by decide) ha1))<|zq<|zi fun r2 hr2 => ?_
 obtain ⟨_, er2, _, rfl⟩ := Z1Q a1 zm zn z7 zh zj z2 z6 zu zd zy r2 hr2
 refine zv [0] (bv r2.1) [(ZL zm r2.2 z7 zh zj z2 z6 zu zd)] er2 ?_
 refine za r2.1 ?_ ?_
 ·refine ze ?_
  exact zr ((iv x8), [(ZL zm r2.2 z7 zh zj z2 z6 zu zd)]) ⟨_, rfl⟩
 ·exact zk (Zcl x0 x7 x8 zm r2.2 z7 zh zj z2 z6 ox0 zu zd zy)
def Z6z (zn : Int) : Option (Int × Int) :=
 some ((-1), zn)
theorem Zcm zm zn z7 zh zj z2 z6 zu zd (zy : ZM zd = true) : Sim (Z2c zm z7 zh zj z2 z6 zu zd) (Z6z zn) (ZuR 1 [(ZL zm zn z7 zh zj z2 z6 zu zd)]) := by
 unfold Z6z
 refine zf (ZB2 ..)<|ze ?_
 exact zr ((iv (-1)), [(ZL zm zn z7 zh zj z2 z6 zu zd)]) ⟨_, rfl⟩
def Z3q (x0 : List ByteArray) (x7 x8 : Int) (zm : List Int) (zn : Int) : Option (Int × Int) :=
 if (decide (x8 < x7)) = true then
 (Z3S x0 x7 x8 zm zn)
 else
 (Z6z zn)
theorem Zcj (x0 : List ByteArray) x7 x8 zm zn z7 zh zj z2 z6 ox0 zu zd (zy : ZM zd = true) : Sim (Z2c zm z7 zh zj z2 z6 zu zd) (Z3q x0 x7 x8 zm zn) (Zmv 1 (ZP ox0 (x0.map eS)) (.clo 19 [(.ptr 0 0)] []) (iv x7) (iv x8) [(ZL zm zn z7 zh zj z2 z6 zu zd)]) := by
 unfold Z3q
 refine zf (ZAZ ..)<|ze<|zq ?_
 refine za (decide (x8 < x7)) ?_ ?_
 ·exact zk (Zck x0 x7 x8 zm zn z7 zh zj z2 z6 ox0 zu zd zy)
 ·exact zk (Zcm zm zn z7 zh zj z2 z6 zu zd zy)
theorem Z6b x0 x7 x8 zm zn {r} (h : Z3q x0 x7 x8 zm zn = some r) : Z2n x0 x7 x8 zm zn = some r :=
 Z1i (fun _ _ ha hb => ru_ (Z6E _ _ _ _ _ _ _ _) (ha default default default default default .ex .ex .ex rfl) (hb default default default default default .ex .ex .ex rfl)) (fun z7 zh zj z2 z6 ox0 zu zd zy => Zcj x0 x7 x8 zm zn z7 zh zj z2 z6 ox0 zu zd zy r h)
def Z4k (zn z2 z6 z3b z4n z4m z3N z3D : Int) (z2s : List Z8) (z3a : List Zk) : Option (Zk × Int × Int × Int) :=
 some ((Zk.mk z3b z4n z4m z3N z3D z2s z3a), zn, z2, z6)
theorem Z7K zm zn z7 zh zj z2 z6 b1 b2 z3b z4n z4m z3N z3D z2s z3a zu zd zH zE z19 zZ z2Z z3U (zy : ZM zd = true) (ze8 : ZM z19 = true) (zcn : ZM zZ = true) (zbn : ZM z2Z = true) (zco : ZM z3U = true) : Sim (Z1G zm z7 zh zj zu zd) (Z4k zn z2 z6 z3b z4n z4m z3N z3D z2s z3a) (Zk8 1 (.ptr 2 0) (.ptr 3 0) [(ZL zm zn z7 zh zj z2 z6 zu zd), (Zl b1 zH zE), (Zl b2 z19 zZ), (Z2P z3b z4n z4m z3N z3D z2s z3a z2Z z3U)]) := by
 unfold Z4k
 refine zf (ZxK ..)<|ze<|zq<|zt [(ZL zm zn z7 zh zj z2 z6 zu zd), (Zl b1 zH zE), (Z2P z3b z4n z4m z3N z3D z2s z3a (shrO z2Z) (shrO z3U)), (Z2P z3b z4n z4m z3N z3D z2s z3a z2Z z3U)] ?_
 exact zr ((pA_ (ZI (Zk.mk z3b z4n z4m z3N z3D z2s z3a) .sh .sh)), [(ZL zm zn z7 zh zj z2 z6 zu zd), (Zl b1 zH zE), (Z2P z3b z4n z4m z3N z3D z2s z3a (shrO z2Z) (shrO z3U)), (Z2P z3b z4n z4m z3N z3D z2s z3a z2Z z3U)]) ⟨_, rfl⟩
def Z3G (zm : List Int) (zn z2 z6 z3b z4n z4m z3N z3D : Int) (z2s : List Z8) (z3a : List Zk) : Option (Zk × Int × Int × Int) :=
 (Z1H (ByteArray.mk #[63]) zm zn).bind fun r1 =>
 if r1.1 = true then
 (Z4k r1.2 z2 z6 z3b z4n z4m 1 z3D z2s z3a)
 else
 ((Z1H (ByteArray.mk #[43]) zm r1.2).bind fun r2 =>
 if r2.1 = true then
 (Z4k r2.2 z2 z6 z3b z4n z4m 2 z3D z2s z3a)
 else
 (Z4k r2.2 z2 z6 z3b z4n z4m z3N z3D z2s z3a))
theorem Zar zm zn z7 zh zj z2 z6 b1 b2 z3b z4n z4m z3N z3D z2s z3a zu zd zH zE z19 zZ z2Z z3U (zy : ZM zd = true) (ze8 : ZM z19 = true) (zcn : ZM zZ = true) (zbn : ZM z2Z = true) (zco : ZM z3U = true) : Sim (Z1G zm z7 zh zj zu zd) (Z3G zm zn z2 z6 z3b z4n z4m z3N z3D z2s z3a) (ZnA 1 (.ptr 0 0) (.ptr 2 0) (.ptr 3 0) [(ZL zm zn z7 zh zj z2 z6 zu zd), (Zl b1 zH zE), (Zl b2 z19 zZ), (Z2P z3b z4n z4m z3N z3D z2s z3a z2Z z3U)]) := by
 unfold Z3G
 refine zf (ZxJ ..)<|ze<|zi fun r1 hr1 => ?_
 obtain ⟨_, er1, _, rfl⟩ := Z1Q (ByteArray.mk #[63]) zm zn z7 zh zj z2 z6 zu zd zy r1 hr1
 refine zc [0] (bv r1.1) [(ZL zm r1.2 z7 zh zj z2 z6 zu zd), (Zl b1 zH zE), (Zl b2 z19 zZ), (Z2P z3b z4n z4m z3N z3D z2s z3a z2Z z3U)] er1 ?_
 refine za r1.1 ?_ ?_
 ·refine ze<|zq<|zt [(ZL zm r1.2 z7 zh zj z2 z6 zu zd), (Zl b1 zH zE), (Zl b2 z19 zZ), (Z2P z3b z4n z4m 1 z3D z2s z3a z2Z z3U)] ?_
  exact zk (Z7K zm r1.2 z7 zh zj z2 z6 b1 b2 z3b z4n z4m 1 z3D z2s z3a zu zd zH zE z19 zZ z2Z z3U zy ze8 zcn zbn zco)
 ·refine ze<|zi fun r2 hr2 => ?_
  obtain ⟨_, er2, _, rfl⟩ := Z1Q (ByteArray.mk #[43]) zm r1.2 z7 zh zj z2 z6 zu zd zy r2 hr2
  refine zc [0] (bv r2.1) [(ZL zm r2.2 z7 zh zj z2 z6 zu zd), (Zl b1 zH zE), (Zl b2 z19 zZ), (Z2P z3b z4n z4m z3N z3D z2s z3a z2Z z3U)] er2 ?_
  refine za r2.1 ?_ ?_
  ·refine ze<|zq<|zt [(ZL zm r2.2 z7 zh zj z2 z6 zu zd), (Zl b1 zH zE), (Zl b2 z19 zZ), (Z2P z3b z4n z4m 2 z3D z2s z3a z2Z z3U)] ?_
   exact zk (Z7K zm r2.2 z7 zh zj z2 z6 b1 b2 z3b z4n z4m 2 z3D z2s z3a zu zd zH zE z19 zZ z2Z z3U zy ze8 zcn zbn zco)
  ·exact zk (Z7K zm r2.2 z7 zh zj z2 z6 b1 b2 z3b z4n z4m z3N z3D z2s z3a zu zd zH zE z19 zZ z2Z z3U zy ze8 zcn zbn zco)
def Z32 (x2 : Bool) (x7 : Int) (zm : List Int) (zn z2 z6 z3b z4n z4m z3N z3D : Int) (z2s : List Z8) (z3a : List Zk) : Option (Zk × Int × Int × Int) :=
 if (!x2) = true then
 ((Z1c 23 x7 zm z2 z6).bind fun r1 =>
 Z3G zm r1.1 r1.2.1 r1.2.2 z3b z4n z4m z3N z3D z2s z3a)
 else
 (Z3G zm zn z2 z6 z3b z4n z4m z3N z3D z2s z3a)
theorem Z5H x2 x7 zm zn z7 zh zj z2 z6 b1 b2 z3b z4n z4m z3N z3D z2s z3a zu zd zH zE z19 zZ z2Z z3U (zy : ZM zd = true) (ze8 : ZM z19 = true) (zcn : ZM zZ = true) (zbn : ZM z2Z = true) (zco : ZM z3U = true) : Sim (Z1G zm z7 zh zj zu zd) (Z32 x2 x7 zm zn z2 z6 z3b z4n z4m z3N z3D z2s z3a) (Zi8 1 (.ptr 0 0) (bv x2) (.ptr 2 0) (iv x7) (.ptr 3 0) [(ZL zm zn z7 zh zj z2 z6 zu zd), (Zl b1 zH zE), (Zl b2 z19 zZ), (Z2P z3b z4n z4m z3N z3D z2s z3a z2Z z3U)]) := by
 unfold Z32
 refine zf (ZxI ..)<|ze<|zq ?_
 refine za (!x2) ?_ ?_
 ·refine ze<|zi fun r1 hr1 => ?_
  obtain ⟨_, er1, _, rfl⟩ := Z1h 23 x7 zm zn z7 zh zj z2 z6 zu zd zy r1 hr1
  refine zc [0] (.p (.tup [])) [(ZL zm r1.1 z7 zh zj r1.2.1 r1.2.2 zu zd), (Zl b1 zH zE), (Zl b2 z19 zZ), (Z2P z3b z4n z4m z3N z3D z2s z3a z2Z z3U)] er1 ?_
  exact zk (Zar zm r1.1 z7 zh zj r1.2.1 r1.2.2 b1 b2 z3b z4n z4m z3N z3D z2s z3a zu zd zH zE z19 zZ z2Z z3U zy ze8 zcn zbn zco)
 ·exact zk (Zar zm zn z7 zh zj z2 z6 b1 b2 z3b z4n z4m z3N z3D z2s z3a zu zd zH zE z19 zZ z2Z z3U zy ze8 zcn zbn zco)
def Z5y (x1 : Zk) (x2 : Bool) (zm : List Int) (zn z7 zh : Int) (zj : List Zz) (z2 z6 : Int) : Option (Zk × Int × Int × Int) :=
 (Z1H (ByteArray.mk #[42]) zm zn).bind fun r1 =>
 if r1.1 = true then
 (Z32 x2 zn zm r1.2 z2 z6 4 0 (-1) 0 0 ([] : List Z8) ([x1] : List Zk))
 else
 ((Z1H (ByteArray.mk #[43]) zm r1.2).bind fun r2 =>
 if r2.1 = true then
 (Z32 x2 zn zm r2.2 z2 z6 4 1 (-1) 0 0 ([] : List Z8) ([x1] : List Zk))
 else
 ((Z1H (ByteArray.mk #[63]) zm r2.2).bind fun r3 =>
 if r3.1 = true then
 (Z32 x2 zn zm r3.2 z2 z6 4 0 1 0 0 ([] : List Z8) ([x1] : List Zk))
 else
 ((Z1H (ByteArray.mk #[123]) zm r3.2).bind fun r4 =>
 if r4.1 = true then
 ((Z6S zn zm r4.2 z7 zh zj z2 z6).bind fun r5 =>
 Z32 x2 zn zm r5.2.2.1 r5.2.2.2.1 r5.2.2.2.2 4 r5.1 r5.2.1 0 0 ([] : List Z8) ([x1] : List Zk))
 else
 (some (x1, r4.2, z2, z6)))))
theorem ZhR x1 x2 zm zn z7 zh zj z2 z6 zO zW zu zd (zy : ZM zd = true) : Sim (Z1G zm z7 zh zj zu zd) (Z5y x1 x2 zm zn z7 zh zj z2 z6) (EE 49 [(.ptr 0 0), (pA_ (ZI x1 zO zW)), (bv x2)] [(ZL zm zn z7 zh zj z2 z6 zu zd)]) := by
 unfold Z5y
 refine zf (ZG0 ..)<|ze<|zx (.ptr 1 0) [(ZL zm zn z7 zh zj z2 z6 zu zd), (Zl x1 zO zW)]<|zz (.ptr 2 0) [(ZL zm zn z7 zh zj z2 z6 zu zd), (Zl x1 zO zW), (Zl Z1B .nl .nl)]<|ze<|zq<|zq<|zq<|ze<|zq<|zp (ZP .ex (([x1] : List Zk).map ZJ)) (Eq.trans (b := some (ZP .ex [.agg (Z1Z x1)])) (by kernel_rfl) (by simp only [Z9x, Zfc, Z4V]))<|zq<|zz (.ptr 3 0) [(ZL zm zn z7 zh zj z2 z6 zu zd), (Zl x1 zO zW), (Zl Z1B .nl .nl), (Zl Z1B .nl .nl)]<|zt [(ZL zm zn z7 zh zj z2 z6 zu zd), (Zl x1 zO zW), (Zl Z1B .nl .nl), (Z2P 4 0 (-1) 0 0 ([] : List Z8) ([x1] : List Zk) .nl .ex)]<|ze<|zi fun r1 hr1 => ?_
 obtain ⟨_, er1, _, rfl⟩ := Z1Q (ByteArray.mk #[42]) zm zn z7 zh zj z2 z6 zu zd zy r1 hr1
 refine zc [0] (bv r1.1) [(ZL zm r1.2 z7 zh zj z2 z6 zu zd), (Zl x1 zO zW), (Zl Z1B .nl .nl), (Z2P 4 0 (-1) 0 0 ([] : List Z8) ([x1] : List Zk) .nl .ex)] er1 ?_
 refine za r1.1 ?_ ?_
 ·exact zk (Z5H x2 zn zm r1.2 z7 zh zj z2 z6 x1 Z1B 4 0 (-1) 0 0 ([] : List Z8) ([x1] : List Zk) zu zd zO zW .nl .nl .nl .ex zy rfl rfl rfl rfl)
 ·refine ze<|zi fun r2 hr2 => ?_
  obtain ⟨_, er2, _, rfl⟩ := Z1Q (ByteArray.mk #[43]) zm r1.2 z7 zh zj z2 z6 zu zd zy r2 hr2
  refine zc [0] (bv r2.1) [(ZL zm r2.2 z7 zh zj z2 z6 zu zd), (Zl x1 zO zW), (Zl Z1B .nl .nl), (Z2P 4 0 (-1) 0 0 ([] : List Z8) ([x1] : List Zk) .nl .ex)] er2 ?_
  refine za r2.1 ?_ ?_
  ·refine ze<|zq<|zt [(ZL zm r2.2 z7 zh zj z2 z6 zu zd), (Zl x1 zO zW), (Zl Z1B .nl .nl), (Z2P 4 1 (-1) 0 0 ([] : List Z8) ([x1] : List Zk) .nl .ex)] ?_
   exact zk (Z5H x2 zn zm r2.2 z7 zh zj z2 z6 x1 Z1B 4 1 (-1) 0 0 ([] : List Z8) ([x1] : List Zk) zu zd zO zW .nl .nl .nl .ex zy rfl rfl rfl rfl)
  ·refine ze<|zi fun r3 hr3 => ?_
   obtain ⟨_, er3, _, rfl⟩ := Z1Q (ByteArray.mk #[63]) zm r2.2 z7 zh zj z2 z6 zu zd zy r3 hr3
   refine zc [0] (bv r3.1) [(ZL zm r3.2 z7 zh zj z2 z6 zu zd), (Zl x1 zO zW), (Zl Z1B .nl .nl), (Z2P 4 0 (-1) 0 0 ([] : List Z8) ([x1] : List Zk) .nl .ex)] er3 ?_
   refine za r3.1 ?_ ?_
   ·refine ze<|zq<|zt [(ZL zm r3.2 z7 zh zj z2 z6 zu zd), (Zl x1 zO zW), (Zl Z1B .nl .nl), (Z2P 4 0 1 0 0 ([] : List Z8) ([x1] : List Zk) .nl .ex)] ?_
    exact zk (Z5H x2 zn zm r3.2 z7 zh zj z2 z6 x1 Z1B 4 0 1 0 0 ([] : List Z8) ([x1] : List Zk) zu zd zO zW .nl .nl .nl .ex zy rfl rfl rfl rfl)
   ·refine ze<|zi fun r4 hr4 => ?_
    obtain ⟨_, er4, _, rfl⟩ := Z1Q (ByteArray.mk #[123]) zm r3.2 z7 zh zj z2 z6 zu zd zy r4 hr4
    refine zc [0] (bv r4.1) [(ZL zm r4.2 z7 zh zj z2 z6 zu zd), (Zl x1 zO zW), (Zl Z1B .nl .nl), (Z2P 4 0 (-1) 0 0 ([] : List Z8) ([x1] : List Zk) .nl .ex)] er4 ?_
    refine za r4.1 ?_ ?_
    ·refine ze<|zi fun r5 hr5 => ?_
     obtain ⟨_, er5, _, rfl⟩ := Zit zn zm r4.2 z7 zh zj z2 z6 zu zd zy r5 hr5
     refine zc [0] (.p (.tup [(.v (.int .i64 r5.1)), (.v (.int .i64 r5.2.1))])) [(ZL zm r5.2.2.1 z7 zh zj r5.2.2.2.1 r5.2.2.2.2 zu zd), (Zl x1 zO zW), (Zl Z1B .nl .nl), (Z2P 4 0 (-1) 0 0 ([] : List Z8) ([x1] : List Zk) .nl .ex)] er5<|zq<|zq<|zq<|zt [(ZL zm r5.2.2.1 z7 zh zj r5.2.2.2.1 r5.2.2.2.2 zu zd), (Zl x1 zO zW), (Zl Z1B .nl .nl), (Z2P 4 r5.1 (-1) 0 0 ([] : List Z8) ([x1] : List Zk) .nl .ex)]<|zq<|zt [(ZL zm r5.2.2.1 z7 zh zj r5.2.2.2.1 r5.2.2.2.2 zu zd), (Zl x1 zO zW), (Zl Z1B .nl .nl), (Z2P 4 r5.1 r5.2.1 0 0 ([] : List Z8) ([x1] : List Zk) .nl .ex)] ?_
     exact zk (Z5H x2 zn zm r5.2.2.1 z7 zh zj r5.2.2.2.1 r5.2.2.2.2 x1 Z1B 4 r5.1 r5.2.1 0 0 ([] : List Z8) ([x1] : List Zk) zu zd zO zW .nl .nl .nl .ex zy rfl rfl rfl rfl)
    ·refine ze<|zq<|zt [(ZL zm r4.2 z7 zh zj z2 z6 zu zd), (Zl x1 zO zW), (Zl x1 (shrO zO) (shrO zW)), (Z2P 4 0 (-1) 0 0 ([] : List Z8) ([x1] : List Zk) .nl .ex)] ?_
     exact zr ((pA_ (ZI x1 .sh .sh)), [(ZL zm r4.2 z7 zh zj z2 z6 zu zd), (Zl x1 zO zW), (Zl x1 (shrO zO) (shrO zW)), (Z2P 4 0 (-1) 0 0 ([] : List Z8) ([x1] : List Zk) .nl .ex)]) ⟨_, rfl⟩
theorem Zch x1 x2 zm zn z7 zh zj z2 z6 {r} (h : Z5y x1 x2 zm zn z7 zh zj z2 z6 = some r) : Z6T x1 x2 zm zn z7 zh zj z2 z6 = some r :=
 Z1i (fun _ _ ha hb => ru_ (Zal _ _ _ _ _ _) (ha .ex .ex .ex .ex rfl) (hb .ex .ex .ex .ex rfl)) (fun zO zW zu zd zy => ZhR x1 x2 zm zn z7 zh zj z2 z6 zO zW zu zd zy r h)
def Z9j (x4 zn z2 z6 : Int) : Option (Int × Int × Int × Int × Int) :=
 some (x4, (-1), zn, z2, z6)
theorem ZfH x4 zm zn z7 zh zj z2 z6 zu zd (zy : ZM zd = true) : Sim (Z3g zm z7 zh zj zu zd) (Z9j x4 zn z2 z6) (Zuy 1 (iv x4) [(ZL zm zn z7 zh zj z2 z6 zu zd)]) := by
 unfold Z9j
 refine zf (ZAL ..)<|ze ?_
 exact zr ((.p (.tup [(.v (.int .i64 x4)), (.v (.int .i64 (-1)))])), [(ZL zm zn z7 zh zj z2 z6 zu zd)]) ⟨_, rfl⟩
def Z70 (x4 x5 zn z2 z6 : Int) : Option (Int × Int × Int × Int × Int) :=
 some (x4, x5, zn, z2, z6)
theorem Zap x4 x5 zm zn z7 zh zj z2 z6 zu zd (zy : ZM zd = true) : Sim (Z3g zm z7 zh zj zu zd) (Z70 x4 x5 zn z2 z6) (ZnF 1 (iv x4) (iv x5) [(ZL zm zn z7 zh zj z2 z6 zu zd)]) := by
 unfold Z70
 refine zf (Zy7 ..)<|ze ?_
 exact zr ((.p (.tup [(.v (.int .i64 x4)), (.v (.int .i64 x5))])), [(ZL zm zn z7 zh zj z2 z6 zu zd)]) ⟨_, rfl⟩
def Z3l (x1 x4 x5 : Int) (zm : List Int) (z2 z6 : Int) : Option (Int × Int × Int × Int × Int) :=
 (Z1c 23 x1 zm z2 z6).bind fun r1 =>
 Z70 x4 x5 r1.1 r1.2.1 r1.2.2
theorem Z5G x1 x4 x5 zm zn z7 zh zj z2 z6 zu zd (zy : ZM zd = true) : Sim (Z3g zm z7 zh zj zu zd) (Z3l x1 x4 x5 zm z2 z6) (Zib 1 (.ptr 0 0) (iv x1) (iv x4) (iv x5) [(ZL zm zn z7 zh zj z2 z6 zu zd)]) := by
 unfold Z3l
 refine zf (Zy6 ..)<|ze<|zi fun r1 hr1 => ?_
 obtain ⟨_, er1, _, rfl⟩ := Z1h 23 x1 zm zn z7 zh zj z2 z6 zu zd zy r1 hr1
 refine zc [0] (.p (.tup [])) [(ZL zm r1.1 z7 zh zj r1.2.1 r1.2.2 zu zd)] er1 ?_
 exact zk (Zap x4 x5 zm r1.1 z7 zh zj r1.2.1 r1.2.2 zu zd zy)
def Z36 (x1 x4 x5 : Int) (zm : List Int) (zn z2 z6 : Int) : Option (Int × Int × Int × Int × Int) :=
 if (decide (x4 < 0)) = true then
 (Z3l x1 x4 x5 zm z2 z6)
 else
 (if (decide (x5 < x4)) = true then
 (Z3l x1 x4 x5 zm z2 z6)
 else
 (if (decide (64 < x5)) = true then
 (Z3l x1 x4 x5 zm z2 z6)
 else
 ((Z1H (ByteArray.mk #[125]) zm zn).bind fun r1 =>
 if (!r1.1) = true then
 (Z3l x1 x4 x5 zm z2 z6)
 else
 (Z70 x4 x5 r1.2 z2 z6))))
theorem Z68 x1 x4 x5 zm zn z7 zh zj z2 z6 zu zd (zy : ZM zd = true) : Sim (Z3g zm z7 zh zj zu zd) (Z36 x1 x4 x5 zm zn z2 z6) (Zkd 1 (.ptr 0 0) (iv x1) (iv x4) (iv x5) [(ZL zm zn z7 zh zj z2 z6 zu zd)]) := by
 unfold Z36
 refine zf (ZAN ..)<|ze<|zq ?_
 refine za (decide (x4 < 0)) ?_ ?_
 ·exact zk (Z5G x1 x4 x5 zm zn z7 zh zj z2 z6 zu zd zy)
 ·refine zq ?_
  refine za (decide (x5 < x4)) ?_ ?_
  ·exact zk (Z5G x1 x4 x5 zm zn z7 zh zj z2 z6 zu zd zy)
  ·refine zq ?_
   refine za (decide (64 < x5)) ?_ ?_
   ·exact zk (Z5G x1 x4 x5 zm zn z7 zh zj z2 z6 zu zd zy)
   ·refine zi fun r1 hr1 => ?_
    obtain ⟨_, er1, _, rfl⟩ := Z1Q (ByteArray.mk #[125]) zm zn z7 zh zj z2 z6 zu zd zy r1 hr1
    refine zc [0] (bv r1.1) [(ZL zm r1.2 z7 zh zj z2 z6 zu zd)] er1<|zq ?_
    refine za (!r1.1) ?_ ?_
    ·exact zk (Z5G x1 x4 x5 zm r1.2 z7 zh zj z2 z6 zu zd zy)
    ·exact zk (Zap x4 x5 zm r1.2 z7 zh zj z2 z6 zu zd zy)
def Z4t (x1 x4 : Int) (zm : List Int) (zn z2 z6 : Int) : Option (Int × Int × Int × Int × Int) :=
 Z36 x1 x4 (-2) zm zn z2 z6
theorem ZaV x1 x4 zm zn z7 zh zj z2 z6 zu zd (zy : ZM zd = true) : Sim (Z3g zm z7 zh zj zu zd) (Z4t x1 x4 zm zn z2 z6) (Zqa 1 (.ptr 0 0) (iv x1) (iv x4) [(ZL zm zn z7 zh zj z2 z6 zu zd)]) := by
 unfold Z4t
 refine zf (ZAM ..)<|ze ?_
 exact zk (Z68 x1 x4 (-2) zm zn z7 zh zj z2 z6 zu zd zy)
def Z7b (x1 x4 : Int) (zm : List Int) (zn z2 z6 : Int) : Option (Int × Int × Int × Int × Int) :=
 (Z1H (ByteArray.mk #[125]) zm zn).bind fun r1 =>
 if r1.1 = true then
 (if (decide (x4 ≤ 64)) = true then
 (Z9j x4 r1.2 z2 z6)
 else
 (Z4t x1 x4 zm r1.2 z2 z6))
 else
 (Z4t x1 x4 zm r1.2 z2 z6)
theorem ZfG x1 x4 zm zn z7 zh zj z2 z6 zu zd (zy : ZM zd = true) : Sim (Z3g zm z7 zh zj zu zd) (Z7b x1 x4 zm zn z2 z6) (Zux 1 (.ptr 0 0) (iv x1) (iv x4) [(ZL zm zn z7 zh zj z2 z6 zu zd)]) := by
 unfold Z7b
 refine zf (ZAK ..)<|ze<|zi fun r1 hr1 => ?_
 obtain ⟨_, er1, _, rfl⟩ := Z1Q (ByteArray.mk #[125]) zm zn z7 zh zj z2 z6 zu zd zy r1 hr1
 refine zc [0] (bv r1.1) [(ZL zm r1.2 z7 zh zj z2 z6 zu zd)] er1 ?_
 refine za r1.1 ?_ ?_
 ·refine zq ?_
  refine za (decide (x4 ≤ 64)) ?_ ?_
  ·exact zk (ZfH x4 zm r1.2 z7 zh zj z2 z6 zu zd zy)
  ·exact zk (ZaV x1 x4 zm r1.2 z7 zh zj z2 z6 zu zd zy)
 ·exact zk (ZaV x1 x4 zm r1.2 z7 zh zj z2 z6 zu zd zy)
def Z6O (x1 : Int) (zm : List Int) (zn z7 zh : Int) (zj : List Zz) (z2 z6 : Int) : Option (Int × Int × Int × Int × Int) :=
 (Z5E zm zn z7 zh zj z2 z6).bind fun r1 =>
 (Z1H (ByteArray.mk #[44]) zm r1.2).bind fun r2 =>
 if r2.1 = true then
 ((Z5E zm r2.2 z7 zh zj z2 z6).bind fun r3 =>
 if (decide (r3.1 < 0)) = true then
 (if (decide (0 ≤ r1.1)) = true then
 (Z7b x1 r1.1 zm r3.2 z2 z6)
 else
 (Z36 x1 r1.1 r3.1 zm r3.2 z2 z6))
 else
 (Z36 x1 r1.1 r3.1 zm r3.2 z2 z6))
 else
 (Z36 x1 r1.1 r1.1 zm r2.2 z2 z6)
theorem ZhN x1 zm zn z7 zh zj z2 z6 zu zd (zy : ZM zd = true) : Sim (Z3g zm z7 zh zj zu zd) (Z6O x1 zm zn z7 zh zj z2 z6) (EE 69 [(.ptr 0 0), (iv x1)] [(ZL zm zn z7 zh zj z2 z6 zu zd)]) := by
 unfold Z6O
 refine zf (ZGt ..)<|ze<|ze<|zi fun r1 hr1 => ?_
 obtain ⟨_, er1, _, rfl⟩ := Zcg zm zn z7 zh zj z2 z6 zu zd zy r1 hr1
 refine zc [0] (iv r1.1) [(ZL zm r1.2 z7 zh zj z2 z6 zu zd)] er1<|ze<|ze<|zi fun r2 hr2 => ?_
 obtain ⟨_, er2, _, rfl⟩ := Z1Q (ByteArray.mk #[44]) zm r1.2 z7 zh zj z2 z6 zu zd zy r2 hr2
 refine zc [0] (bv r2.1) [(ZL zm r2.2 z7 zh zj z2 z6 zu zd)] er2 ?_
 refine za r2.1 ?_ ?_
 ·refine ze<|zi fun r3 hr3 => ?_
  obtain ⟨_, er3, _, rfl⟩ := Zcg zm r2.2 z7 zh zj z2 z6 zu zd zy r3 hr3
  refine zc [0] (iv r3.1) [(ZL zm r3.2 z7 zh zj z2 z6 zu zd)] er3<|ze<|zq ?_
  refine za (decide (r3.1 < 0)) ?_ ?_
  ·refine zq ?_
   refine za (decide (0 ≤ r1.1)) ?_ ?_
   ·exact zk (ZfG x1 r1.1 zm r3.2 z7 zh zj z2 z6 zu zd zy)
   ·exact zk (Z68 x1 r1.1 r3.1 zm r3.2 z7 zh zj z2 z6 zu zd zy)
  ·exact zk (Z68 x1 r1.1 r3.1 zm r3.2 z7 zh zj z2 z6 zu zd zy)
 ·exact zk (Z68 x1 r1.1 r1.1 zm r2.2 z7 zh zj z2 z6 zu zd zy)
theorem Zcd x1 zm zn z7 zh zj z2 z6 {r} (h : Z6O x1 zm zn z7 zh zj z2 z6 = some r) : Z6S x1 zm zn z7 zh zj z2 z6 = some r :=
 Z1i (fun _ _ ha hb => ru_ (ZiR _ _ _ _ _ _) (ha .ex .ex rfl) (hb .ex .ex rfl)) (fun zu zd zy => ZhN x1 zm zn z7 zh zj z2 z6 zu zd zy r h)
def ZaM (zm : List Int) (zn z7 zh : Int) (zj : List Zz) (z2 z6 : Int) : Option (Int × Int) :=
 Z3T (-1) 0 zm zn z7 zh zj z2 z6
theorem ZhQ zm zn z7 zh zj z2 z6 zu zd (zy : ZM zd = true) : Sim (Z2c zm z7 zh zj z2 z6 zu zd) (ZaM zm zn z7 zh zj z2 z6) (EE 84 [(.ptr 0 0)] [(ZL zm zn z7 zh zj z2 z6 zu zd)]) := by
 unfold ZaM
 refine zf (ZGM ..)<|ze<|ze<|ze ?_
 exact zk (Zb2 (-1) 0 zm zn z7 zh zj z2 z6 zu zd zy)
theorem Ziw zm zn z7 zh zj z2 z6 {r} (h : ZaM zm zn z7 zh zj z2 z6 = some r) : Z5E zm zn z7 zh zj z2 z6 = some r :=
 Z1i (fun _ _ ha hb => ru_ (Z6E _ _ _ _ _ _ _ _) (ha .ex .ex rfl) (hb .ex .ex rfl)) (fun zu zd zy => ZhQ zm zn z7 zh zj z2 z6 zu zd zy r h)
def Z7f (x3 x4 : Int) (zm : List Int) (zn z7 zh : Int) (zj : List Zz) (z2 z6 : Int) : Option (Int × Int) :=
 (Z3k zm zn).bind fun r1 =>
 Z3T ((IntKind.i64.wrap ((IntKind.i64.wrap ((IntKind.i64.wrap (10 * (max x3 0))) + r1.1)) - 48))) (IntKind.i64.wrap (x4 + 1)) zm r1.2 z7 zh zj z2 z6
theorem ZfM x3 x4 zm zn z7 zh zj z2 z6 zu zd (zy : ZM zd = true) : Sim (Z2c zm z7 zh zj z2 z6 zu zd) (Z7f x3 x4 zm zn z7 zh zj z2 z6) (ZuV 1 (.ptr 0 0) (iv x3) (iv x4) [(ZL zm zn z7 zh zj z2 z6 zu zd)]) := by
 unfold Z7f
 refine zf (ZB5 ..)<|ze<|zp (iv (max x3 0)) (Zno _ _)<|zq<|zi fun r1 hr1 => ?_
 obtain ⟨_, er1, _, rfl⟩ := Z3J zm zn z7 zh zj z2 z6 zu zd zy r1 hr1
 refine zc [0] (iv r1.1) [(ZL zm r1.2 z7 zh zj z2 z6 zu zd)] er1<|zq<|zq<|ze<|zq ?_
 exact zk (Zb2 ((IntKind.i64.wrap ((IntKind.i64.wrap ((IntKind.i64.wrap (10 * (max x3 0))) + r1.1)) - 48))) (IntKind.i64.wrap (x4 + 1)) zm r1.2 z7 zh zj z2 z6 zu zd zy)
def Z4u (x3 zn : Int) : Option (Int × Int) :=
 some (x3, zn)
theorem Z81 x3 zm zn z7 zh zj z2 z6 zu zd (zy : ZM zd = true) : Sim (Z2c zm z7 zh zj z2 z6 zu zd) (Z4u x3 zn) (Zmx 1 (iv x3) [(ZL zm zn z7 zh zj z2 z6 zu zd)]) := by
 unfold Z4u
 refine zf (ZB6 ..)<|ze ?_
 exact zr ((iv x3), [(ZL zm zn z7 zh zj z2 z6 zu zd)]) ⟨_, rfl⟩
def Z7e (x3 x4 : Int) (zm : List Int) (zn z7 zh : Int) (zj : List Zz) (z2 z6 : Int) : Option (Int × Int) :=
 if (decide (x4 < 2)) = true then
 ((Z2G (Z1y.mk zm zn z7 zh zj (Z14.mk z2 z6))).bind fun r1 =>
 if (decide (48 ≤ r1)) = true then
 ((Z2G (Z1y.mk zm zn z7 zh zj (Z14.mk z2 z6))).bind fun r2 =>
 if (decide (r2 ≤ 57)) = true then
 (Z7f x3 x4 zm zn z7 zh zj z2 z6)
 else
 (Z4u x3 zn))
 else
 (Z4u x3 zn))
 else
 (Z4u x3 zn)
theorem ZfL x3 x4 zm zn z7 zh zj z2 z6 zu zd (zy : ZM zd = true) : Sim (Z2c zm z7 zh zj z2 z6 zu zd) (Z7e x3 x4 zm zn z7 zh zj z2 z6) (Zmw 1 (.ptr 0 0) (iv x3) (iv x4) [(ZL zm zn z7 zh zj z2 z6 zu zd)]) := by
 unfold Z7e
 refine zf (ZB4 ..)<|ze<|zq ?_
 refine za (decide (x4 < 2)) ?_ ?_
 ·refine zi fun r1 hr1 => ?_
  obtain ⟨_, er1, _, rfl⟩ := Z2S (Z1y.mk zm zn z7 zh zj (Z14.mk z2 z6)) zu zd zy r1 hr1
  refine zc [0] (iv r1) [(ZL zm zn z7 zh zj z2 z6 zu zd)] er1<|zq ?_
  refine za (decide (48 ≤ r1)) ?_ ?_
  ·refine zi fun r2 hr2 => ?_
   obtain ⟨_, er2, _, rfl⟩ := Z2S (Z1y.mk zm zn z7 zh zj (Z14.mk z2 z6)) zu zd zy r2 hr2
   refine zc [0] (iv r2) [(ZL zm zn z7 zh zj z2 z6 zu zd)] er2<|zq ?_
   refine za (decide (r2 ≤ 57)) ?_ ?_
   ·exact zk (ZfM x3 x4 zm zn z7 zh zj z2 z6 zu zd zy)
   ·exact zk (Z81 x3 zm zn z7 zh zj z2 z6 zu zd zy)
  ·exact zk (Z81 x3 zm zn z7 zh zj z2 z6 zu zd zy)
 ·exact zk (Z81 x3 zm zn z7 zh zj z2 z6 zu zd zy)
theorem ZgE x3 x4 zm zn z7 zh zj z2 z6 {r} (h : Z7e x3 x4 zm zn z7 zh zj z2 z6 = some r) : Z3T x3 x4 zm zn z7 zh zj z2 z6 = some r :=
 Z1i (fun _ _ ha hb => ru_ (Z6E _ _ _ _ _ _ _ _) (ha .ex .ex rfl) (hb .ex .ex rfl)) (fun zu zd zy => ZfL x3 x4 zm zn z7 zh zj z2 z6 zu zd zy r h)
def Zaz (b0 : Z1d) : Option ((List Zw) × Int) :=
 (Z1k (Zw.mk 4 0 0 0 0 ([] : List Z8)) ([] : List Zw)).bind fun r1 =>
 (Z1R b0.Root r1.2 b0.Fold 0).bind fun r2 =>
 (Z1k (Zw.mk 4 1 0 0 0 ([] : List Z8)) r2.1).bind fun r3 =>
 (Z1k (Zw.mk 0 0 0 0 0 ([] : List Z8)) r3.2).bind fun r4 =>
 some (r4.2, 0)
theorem Zkn b0 z13 zT : Sim ZaH (Zaz b0) (Ztn 0 (.ptr 0 0) [(ZS b0 z13 zT)]) := by
 unfold Zaz
 refine zf (ZzD ..)<|ze<|zq<|zq<|zq<|zX (.ptr 1 0) [(ZS b0 z13 zT), [(.p (.ml 6 [])), (bv b0.Fold), (iv 0)]]<|ze<|zq<|zi fun r1 hr1 => ?_
 obtain ⟨_, er1, _, rfl⟩ := Z1r (Zw.mk 4 0 0 0 0 ([] : List Z8)) ([] : List Zw) b0.Fold 0 .sh r1 hr1
 refine zc [1] (iv r1.1) [(ZS b0 z13 zT), [(.p (.ml 6 (r1.2.map ZD))), (bv b0.Fold), (iv 0)]] er1<|ze<|zq<|zq<|zi fun r2 hr2 => ?_
 obtain ⟨_, er2, _, rfl⟩ := Z2L b0.Root r1.2 b0.Fold 0 .sh .sh r2 hr2
 refine zc [1] (.p (.tup [])) [(ZS b0 z13 zT), [(.p (.ml 6 (r2.1.map ZD))), (bv b0.Fold), (iv r2.2)]] er2<|ze<|zq<|zi fun r3 hr3 => ?_
 obtain ⟨_, er3, _, rfl⟩ := Z1r (Zw.mk 4 1 0 0 0 ([] : List Z8)) r2.1 b0.Fold r2.2 .sh r3 hr3
 refine zc [1] (iv r3.1) [(ZS b0 z13 zT), [(.p (.ml 6 (r3.2.map ZD))), (bv b0.Fold), (iv r2.2)]] er3<|ze<|zq<|zi fun r4 hr4 => ?_
 obtain ⟨_, er4, _, rfl⟩ := Z1r ZvX r3.2 b0.Fold r2.2 .sh r4 hr4
 refine zc [1] (iv r4.1) [(ZS b0 z13 zT), [(.p (.ml 6 (r4.2.map ZD))), (bv b0.Fold), (iv r2.2)]] er4<|ze<|zq<|zq<|zF (ZP .sh (r4.2.map ZD)) [(ZS b0 z13 zT), [(.p (.hd (List.length (r4.2.map ZD)))), (bv b0.Fold), (iv r2.2)]] ?_
 exact zr ((.p (.tup [(.lst .sh (r4.2.map ZD)), (.v (.int .i64 0))])), [(ZS b0 z13 zT), [(.p (.hd (List.length (r4.2.map ZD)))), (bv b0.Fold), (iv r2.2)]]) ⟨_, rfl⟩
def ZcI (x0 : Z1d) : Option ((List Zw) × Int) :=
 (ZdS x0).bind fun r1 =>
 if (r1 != 0) = true then
 (some (([] : List Zw), r1))
 else
 (Zaz x0)
theorem ZmH x0 z2k z26 : Sim ZaH (ZcI x0) (EE 18 [(pA_ (Z2N x0 z2k z26))] []) := by
 unfold ZcI
 refine zf (ZFb ..)<|ze<|zx (.ptr 0 0) [(ZS x0 z2k z26)]<|ze<|zq<|zi fun r1 hr1 => ?_
 obtain ⟨_, er1, _, rfl⟩ := ZoA x0 .sh .sh r1 hr1
 refine zc [] (iv r1) [(ZS x0 z2k z26)] er1<|ze<|zq ?_
 refine za (r1 != 0) ?_ ?_
 ·refine ze ?_
  exact zr ((.p (.tup [(.lst .sh []), (.v (.int .i64 r1))])), [(ZS x0 z2k z26)]) ⟨_, rfl⟩
 ·exact zk (Zkn x0 z2k z26)
theorem ZnX x0 {r} (h : ZcI x0 = some r) : ZaW x0 = some r :=
 Z1i (fun _ _ ha hb => ru_ Zom (ha .ex .ex) (hb .ex .ex)) (fun z2k z26 => ZmH x0 z2k z26 r h)
def Zbd : Option Int :=
 some (0)
theorem Zl8 : Sim ZK Zbd (Ztz 0 []) := by
 unfold Zbd
 refine zf (ZzO ..)<|ze ?_
 exact zr ((iv 0), []) ⟨_, rfl⟩
def ZdN (x0 : Z1d) : Option Int :=
 (Z4e x0.Root).bind fun r1 =>
 if (!r1) = true then
 (some (27))
 else
 ((Z5R x0.Root).bind fun r2 =>
 if (decide (2000 < (IntKind.i64.wrap (r2 + 3)))) = true then
 (some (28))
 else
 Zbd)
theorem ZnZ x0 z2k z26 : Sim ZK (ZdN x0) (EE 27 [(pA_ (Z2N x0 z2k z26))] []) := by
 unfold ZdN
 refine zf (ZFq ..)<|ze<|zx (.ptr 0 0) [(ZS x0 z2k z26)]<|ze<|zq<|zq<|zi fun r1 hr1 => ?_
 obtain ⟨_, er1, _, rfl⟩ := ZgZ x0.Root .sh .sh r1 hr1
 refine zc [] (bv r1) [(ZS x0 z2k z26)] er1<|zq ?_
 refine za (!r1) ?_ ?_
 ·refine ze ?_
  exact zr ((iv 27), [(ZS x0 z2k z26)]) ⟨_, rfl⟩
 ·refine ze<|zq<|zq<|zi fun r2 hr2 => ?_
  obtain ⟨_, er2, _, rfl⟩ := Zjh x0.Root .sh .sh r2 hr2
  refine zc [] (iv r2) [(ZS x0 z2k z26)] er2<|zq<|zq ?_
  refine za (decide (2000 < (IntKind.i64.wrap (r2 + 3)))) ?_ ?_
  ·refine ze ?_
   exact zr ((iv 28), [(ZS x0 z2k z26)]) ⟨_, rfl⟩
  ·exact zk Zl8
theorem Zoz x0 {r} (h : ZdN x0 = some r) : ZdS x0 = some r :=
 Z1i (fun _ _ ha hb => ru_ Z1J (ha .ex .ex) (hb .ex .ex)) (fun z2k z26 => ZnZ x0 z2k z26 r h)
def Z8m : Option Bool :=
 some false
theorem ZdB : Sim ZQ Z8m (ZpD 0 []) := by
 unfold Z8m
 refine zf (ZzY ..)<|ze ?_
 exact zr ((bv false), []) ⟨_, rfl⟩
def Z3I (b0 : Zk) : Option Bool :=
 (Z5u b0.Kids).bind fun r1 =>
 some (!r1)
theorem Zan b0 z1V z1v : Sim ZQ (Z3I b0) (Zmm 0 (.ptr 0 0) [(Zl b0 z1V z1v)]) := by
 unfold Z3I
 refine zf (ZzZ ..)<|ze<|zq<|zq<|zi fun r1 hr1 => ?_
 obtain ⟨_, er1, _, rfl⟩ := ZdD b0.Kids .sh r1 hr1
 refine zc [] (bv r1) [(Zl b0 z1V z1v)] er1<|zq ?_
 exact zr ((bv (!r1)), [(Zl b0 z1V z1v)]) ⟨_, rfl⟩
def Z8l (b0 : Zk) : Option Bool :=
 (lget b0.Kids 0).bind fun a1 =>
 (Z3f a1).bind fun r2 =>
 if (decide (r2.2 < 0)) = true then
 Z8m
 else
 (if (decide (32 < r2.2)) = true then
 Z8m
 else
 (Z3I b0))
theorem ZjJ b0 z1V z1v : Sim ZQ (Z8l b0) (ZtH 0 (.ptr 0 0) [(Zl b0 z1V z1v)]) := by
 unfold Z8l
 refine zf (ZzX ..)<|ze<|zq<|zq<|zi fun a1 ha1 => zp (.cptr (ZI a1 .sh .sh)) (et_ (Z2v (o := (shrO z1v)) (k := .i64) (n := 7) (e := ZJ) (cs := Z1Z) Z2J (fun _ => rfl) (by decide) ha1))<|zq<|zi fun r2 hr2 => ?_
 obtain ⟨_, er2, _, rfl⟩ := Z6B a1 .sh .sh r2 hr2
 refine zc [] (.p (.tup [(.v (.int .i64 r2.1)), (.v (.int .i64 r2.2))])) [(Zl b0 z1V z1v)] er2<|zq<|zq<|ze<|zq ?_
 refine za (decide (r2.2 < 0)) ?_ ?_
 ·exact zk ZdB
 ·refine zq ?_
  refine za (decide (32 < r2.2)) ?_ ?_
  ·exact zk ZdB
  ·exact zk (Zan b0 z1V z1v)
def ZbM (x0 : Zk) : Option Bool :=
 if (x0.Kind == 7) = true then
 (if (decide (2 ≤ x0.Mode)) = true then
 (Z8l x0)
 else
 (Z3I x0))
 else
 (Z3I x0)
theorem Zm2 x0 z27 z1q : Sim ZQ (ZbM x0) (EE 38 [(pA_ (ZI x0 z27 z1q))] []) := by
 unfold ZbM
 refine zf (ZFD ..)<|ze<|zx (.ptr 0 0) [(Zl x0 z27 z1q)]<|ze<|zq<|zq<|zq ?_
 refine za (x0.Kind == 7) ?_ ?_
 ·refine zq<|zq<|zq ?_
  refine za (decide (2 ≤ x0.Mode)) ?_ ?_
  ·exact zk (ZjJ x0 z27 z1q)
  ·exact zk (Zan x0 z27 z1q)
 ·exact zk (Zan x0 z27 z1q)
theorem ZmI x0 {r} (h : ZbM x0 = some r) : Z4e x0 = some r :=
 Z1i (fun _ _ ha hb => ru_ Z2q (ha .ex .ex) (hb .ex .ex)) (fun z27 z1q => Zm2 x0 z27 z1q r h)
def Z7D (x2 x3 : Int) : Option (Int × Int) :=
 some (x2, x3)
theorem Z8D x2 x3 : Sim Z3h (Z7D x2 x3) (Zi7 0 (iv x2) (iv x3) []) := by
 unfold Z7D
 refine zf (ZxG ..)<|ze ?_
 exact zr ((.p (.tup [(.v (.int .i64 x2)), (.v (.int .i64 x3))])), []) ⟨_, rfl⟩
def ZdO (x0 : Zk) : Option (Int × Int) :=
 if (x0.Kind == 1) = true then
 (some (1, 1))
 else
 (if (x0.Kind == 6) = true then
 (some (0, (-1)))
 else
 (if (x0.Kind == 2) = true then
 (Z9q 0 0 x0.Kids (x0.Kids.length : Int) 0)
 else
 (if (x0.Kind == 3) = true then
 (Z8T 1048576 0 x0.Kids (x0.Kids.length : Int) 0)
 else
 (if (x0.Kind == 4) = true then
 ((lget x0.Kids 0).bind fun a1 =>
 (Z3f a1).bind fun r2 =>
 (Zbx r2.2 x0.Hi).bind fun r3 =>
 some ((min (IntKind.i64.wrap (r2.1 * x0.Lo)) 1048576), r3))
 else
 (if (x0.Kind == 5) = true then
 (if (x0.Kind == 5) = true then
 ((lget x0.Kids 0).bind fun a4 =>
 (Z3f a4).bind fun r5 =>
 some (r5.1, r5.2))
 else
 (Z7D 0 0))
 else
 (if (x0.Kind == 8) = true then
 ((lget x0.Kids 0).bind fun a6 =>
 (Z3f a6).bind fun r7 =>
 some (r7.1, r7.2))
 else
 (Z7D 0 0)))))))
theorem Zo0 x0 z27 z1q : Sim Z3h (ZdO x0) (EE 44 [(pA_ (ZI x0 z27 z1q))] []) := by
 unfold ZdO
 refine zf (ZFQ ..)<|ze<|zx (.ptr 0 0) [(Zl x0 z27 z1q)]<|ze<|zq<|zq<|ze<|zq ?_
 refine za (x0.Kind == 1) ?_ ?_
 ·refine ze ?_
  exact zr ((.p (.tup [(.v (.int .i64 1)), (.v (.int .i64 1))])), [(Zl x0 z27 z1q)]) ⟨_, rfl⟩
 ·refine ze<|zq ?_
  refine za (x0.Kind == 6) ?_ ?_
  ·refine ze ?_
   exact zr ((.p (.tup [(.v (.int .i64 0)), (.v (.int .i64 (-1)))])), [(Zl x0 z27 z1q)]) ⟨_, rfl⟩
  ·refine ze<|zq ?_
   refine za (x0.Kind == 2) ?_ ?_
   ·refine ze<|zq<|zq<|zp (iv (x0.Kids.length : Int)) (et_ (Z30 (P := PP) (t := 29) (d := 31) (by kernel_rfl) ZJ (shrO z1q) x0.Kids)) ?_
    exact zk (Zfz 0 0 x0.Kids (x0.Kids.length : Int) 0 (shrO z1q))
   ·refine ze<|zq ?_
    refine za (x0.Kind == 3) ?_ ?_
    ·refine ze<|ze<|zq<|zq<|zp (iv (x0.Kids.length : Int)) (et_ (Z30 (P := PP) (t := 29) (d := 31) (by kernel_rfl) ZJ (shrO z1q) x0.Kids)) ?_
     exact zk (ZeY 1048576 0 x0.Kids (x0.Kids.length : Int) 0 (shrO z1q))
    ·refine ze<|zq ?_
     refine za (x0.Kind == 4) ?_ ?_
     ·refine ze<|zq<|zq<|zi fun a1 ha1 => zp (.cptr (ZI a1 .sh .sh)) (et_ (Z2v (o := (shrO z1q)) (k := .i64) (n := 7) (e := ZJ) (cs := Z1Z) Z2J (fun _ => rfl) (by decide) ha1))<|zq<|zi fun r2 hr2 => ?_
      obtain ⟨_, er2, _, rfl⟩ := Z6B a1 .sh .sh r2 hr2
      refine zc [] (.p (.tup [(.v (.int .i64 r2.1)), (.v (.int .i64 r2.2))])) [(Zl x0 z27 z1q)] er2<|zq<|zq<|ze<|zq<|zq<|zq<|zp (iv (min (IntKind.i64.wrap (r2.1 * x0.Lo)) 1048576)) (ZcA _ _)<|zq<|zq<|zi fun r3 hr3 => ?_
      obtain ⟨_, er3, _, rfl⟩ := ZoF r2.2 x0.Hi r3 hr3
      refine zc [] (iv r3) [(Zl x0 z27 z1q)] er3<|zg ?_
      exact zr ((.p (.tup [(.v (.int .i64 (min (IntKind.i64.wrap (r2.1 * x0.Lo)) 1048576))), (.v (.int .i64 r3))])), [(Zl x0 z27 z1q)]) ⟨_, rfl⟩
     ·refine ze<|zq ?_
      refine za (x0.Kind == 5) ?_ ?_
      ·refine za (x0.Kind == 5) ?_ ?_
       ·refine ze<|zq<|zq<|zi fun a4 ha4 => zp (.cptr (ZI a4 .sh .sh)) (et_ (Z2v (o := (shrO z1q)) (k := .i64) (n := 7) (e := ZJ) (cs := Z1Z) Z2J (fun _ => rfl) (by decide) ha4))<|zq<|zi fun r5 hr5 => ?_
        obtain ⟨_, er5, _, rfl⟩ := Z6B a4 .sh .sh r5 hr5
        refine zc [] (.p (.tup [(.v (.int .i64 r5.1)), (.v (.int .i64 r5.2))])) [(Zl x0 z27 z1q)] er5<|zq<|zq ?_
        exact zr ((.p (.tup [(.v (.int .i64 r5.1)), (.v (.int .i64 r5.2))])), [(Zl x0 z27 z1q)]) ⟨_, rfl⟩
       ·exact zk (Z8D 0 0)
      ·refine ze<|zq ?_
       refine za (x0.Kind == 8) ?_ ?_
       ·refine ze<|zq<|zq<|zi fun a6 ha6 => zp (.cptr (ZI a6 .sh .sh)) (et_ (Z2v (o := (shrO z1q)) (k := .i64) (n := 7) (e := ZJ) (cs := Z1Z) Z2J (fun _ => rfl) (by decide) ha6))<|zq<|zi fun r7 hr7 => ?_
        obtain ⟨_, er7, _, rfl⟩ := Z6B a6 .sh .sh r7 hr7
        refine zc [] (.p (.tup [(.v (.int .i64 r7.1)), (.v (.int .i64 r7.2))])) [(Zl x0 z27 z1q)] er7<|zq<|zq ?_
        exact zr ((.p (.tup [(.v (.int .i64 r7.1)), (.v (.int .i64 r7.2))])), [(Zl x0 z27 z1q)]) ⟨_, rfl⟩
       ·exact zk (Z8D 0 0)
theorem ZoC x0 {r} (h : ZdO x0 = some r) : Z3f x0 = some r :=
 Z1i (fun _ _ ha hb => ru_ ZdL (ha .ex .ex) (hb .ex .ex)) (fun z27 z1q => Zo0 x0 z27 z1q r h)
def Zbe (x2 x3 : Int) (x23 : List Zk) (x24 x25 : Int) : Option (Int × Int) :=
 (lget x23 x25).bind fun a1 =>
 (Z3f a1).bind fun r2 =>
 (Zgi x3 r2.2).bind fun r3 =>
 Z9q (min (IntKind.i64.wrap (x2 + r2.1)) 1048576) r3 x23 x24 (IntKind.i64.wrap (x25 + 1))
theorem Zla x2 x3 (x23 : List Zk) x24 x25 ox23 : Sim Z3h (Zbe x2 x3 x23 x24 x25) (ZtY 0 (iv x2) (iv x3) (ZP ox23 (x23.map ZJ)) (iv x24) (iv x25) []) := by
 unfold Zbe
 refine zf (ZAe ..)<|ze<|zi fun a1 ha1 => zp (.cptr (ZI a1 .sh .sh)) (et_ (Z2v (o := ox23) (k := .i64) (n := 7) (e := ZJ) (cs := Z1Z) Z2J (fun _ => rfl) (by decide) ha1))<|zq<|zz (.ptr 0 0) [(Zl Z1B .nl .nl)]<|zt [(Zl a1 .sh .sh)]<|ze<|zq<|zi fun r2 hr2 => ?_
 obtain ⟨_, er2, _, rfl⟩ := Z6B a1 .sh .sh r2 hr2
 refine zc [] (.p (.tup [(.v (.int .i64 r2.1)), (.v (.int .i64 r2.2))])) [(Zl a1 .sh .sh)] er2<|zq<|zq<|ze<|zq<|zp (iv (min (IntKind.i64.wrap (x2 + r2.1)) 1048576)) (ZcA _ _)<|zi fun r3 hr3 => ?_
 obtain ⟨_, er3, _, rfl⟩ := ZrH x3 r2.2 r3 hr3
 refine zc [] (iv r3) [(Zl a1 .sh .sh)] er3<|ze<|zq ?_
 exact zk (Zfz (min (IntKind.i64.wrap (x2 + r2.1)) 1048576) r3 x23 x24 (IntKind.i64.wrap (x25 + 1)) ox23)
def Z9l (x2 x3 : Int) (x23 : List Zk) (x24 x25 : Int) : Option (Int × Int) :=
 if (decide (x25 < x24)) = true then
 (Zbe x2 x3 x23 x24 x25)
 else
 (Z7D x2 x3)
theorem Zl9 x2 x3 (x23 : List Zk) x24 x25 ox23 : Sim Z3h (Z9l x2 x3 x23 x24 x25) (Zmp 0 (iv x2) (iv x3) (ZP ox23 (x23.map ZJ)) (iv x24) (iv x25) []) := by
 unfold Z9l
 refine zf (ZAd ..)<|ze<|zq ?_
 refine za (decide (x25 < x24)) ?_ ?_
 ·exact zk (Zla x2 x3 x23 x24 x25 ox23)
 ·exact zk (Z8D x2 x3)
theorem Zfy x2 x3 x23 x24 x25 {r} (h : Z9l x2 x3 x23 x24 x25 = some r) : Z9q x2 x3 x23 x24 x25 = some r :=
 Z1i (fun _ _ ha hb => ru_ ZdL (ha .ex) (hb .ex)) (fun ox23 => Zl9 x2 x3 x23 x24 x25 ox23 r h)
def Z8Q (x2 x3 : Int) (x45 : List Zk) (x46 x47 : Int) : Option (Int × Int) :=
 Z8T x2 x3 x45 x46 (IntKind.i64.wrap (x47 + 1))
theorem Zet x2 x3 (x45 : List Zk) x46 x47 ox45 : Sim Z3h (Z8Q x2 x3 x45 x46 x47) (Znz 0 (iv x2) (iv x3) (ZP ox45 (x45.map ZJ)) (iv x46) (iv x47) []) := by
 unfold Z8Q
 refine zf (ZxF ..)<|ze<|zq ?_
 exact zk (ZeY x2 x3 x45 x46 (IntKind.i64.wrap (x47 + 1)) ox45)
def Z8P (x2 : Int) (x45 : List Zk) (x46 x47 : Int) : Option (Int × Int) :=
 Z8Q x2 (-1) x45 x46 x47
theorem Zes x2 (x45 : List Zk) x46 x47 ox45 : Sim Z3h (Z8P x2 x45 x46 x47) (Zny 0 (iv x2) (ZP ox45 (x45.map ZJ)) (iv x46) (iv x47) []) := by
 unfold Z8P
 refine zf (ZxD ..)<|ze ?_
 exact zk (Zet x2 (-1) x45 x46 x47 ox45)
def ZaB (x2 x3 x11 : Int) (x45 : List Zk) (x46 x47 : Int) : Option (Int × Int) :=
 Z8Q x2 (max x3 x11) x45 x46 x47
theorem Zkq x2 x3 x11 (x45 : List Zk) x46 x47 ox45 : Sim Z3h (ZaB x2 x3 x11 x45 x46 x47) (Zrs 0 (iv x2) (iv x3) (iv x11) (ZP ox45 (x45.map ZJ)) (iv x46) (iv x47) []) := by
 unfold ZaB
 refine zf (ZxE ..)<|ze<|zp (iv (max x3 x11)) (Zno _ _) ?_
 exact zk (Zet x2 (max x3 x11) x45 x46 x47 ox45)
def ZaA (x2 x3 : Int) (x45 : List Zk) (x46 x47 : Int) : Option (Int × Int) :=
 (lget x45 x47).bind fun a1 =>
 (Z3f a1).bind fun r2 =>
 if (decide (r2.2 < 0)) = true then
 (Z8P (min x2 r2.1) x45 x46 x47)
 else
 (if (decide (x3 < 0)) = true then
 (Z8P (min x2 r2.1) x45 x46 x47)
 else
 (ZaB (min x2 r2.1) x3 r2.2 x45 x46 x47))
theorem Zkp x2 x3 (x45 : List Zk) x46 x47 ox45 : Sim Z3h (ZaA x2 x3 x45 x46 x47) (Zrr 0 (iv x2) (iv x3) (ZP ox45 (x45.map ZJ)) (iv x46) (iv x47) []) := by
 unfold ZaA
 refine zf (ZxC ..)<|ze<|zi fun a1 ha1 => zp (.cptr (ZI a1 .sh .sh)) (et_ (Z2v (o := ox45) (k := .i64) (n := 7) (e := ZJ) (cs := Z1Z) Z2J (fun _ => rfl) (by decide) ha1))<|zq<|zz (.ptr 0 0) [(Zl Z1B .nl .nl)]<|zt [(Zl a1 .sh .sh)]<|ze<|zq<|zi fun r2 hr2 => ?_
 obtain ⟨_, er2, _, rfl⟩ := Z6B a1 .sh .sh r2 hr2
 refine zc [] (.p (.tup [(.v (.int .i64 r2.1)), (.v (.int .i64 r2.2))])) [(Zl a1 .sh .sh)] er2<|zq<|zq<|ze<|zp (iv (min x2 r2.1)) (ZcA _ _)<|ze<|zq ?_
 refine za (decide (r2.2 < 0)) ?_ ?_
 ·exact zk (Zes (min x2 r2.1) x45 x46 x47 ox45)
 ·refine zq ?_
  refine za (decide (x3 < 0)) ?_ ?_
  ·exact zk (Zes (min x2 r2.1) x45 x46 x47 ox45)
  ·exact zk (Zkq (min x2 r2.1) x3 r2.2 x45 x46 x47 ox45)
def Z8O (x2 x3 : Int) (x45 : List Zk) (x46 x47 : Int) : Option (Int × Int) :=
 if (decide (x47 < x46)) = true then
 (ZaA x2 x3 x45 x46 x47)
 else
 (Z7D x2 x3)
theorem Zko x2 x3 (x45 : List Zk) x46 x47 ox45 : Sim Z3h (Z8O x2 x3 x45 x46 x47) (Zk6 0 (iv x2) (iv x3) (ZP ox45 (x45.map ZJ)) (iv x46) (iv x47) []) := by
 unfold Z8O
 refine zf (ZxB ..)<|ze<|zq ?_
 refine za (decide (x47 < x46)) ?_ ?_
 ·exact zk (Zkp x2 x3 x45 x46 x47 ox45)
 ·exact zk (Z8D x2 x3)
theorem ZeX x2 x3 x45 x46 x47 {r} (h : Z8O x2 x3 x45 x46 x47 = some r) : Z8T x2 x3 x45 x46 x47 = some r :=
 Z1i (fun _ _ ha hb => ru_ ZdL (ha .ex) (hb .ex)) (fun ox45 => Zko x2 x3 x45 x46 x47 ox45 r h)
def Z9m : Option Int :=
 some (0)
theorem ZeZ : Sim ZK Z9m (ZpX 0 []) := by
 unfold Z9m
 refine zf (ZAs ..)<|ze ?_
 exact zr ((iv 0), []) ⟨_, rfl⟩
def Z9n : Option Int :=
 some (-1)
theorem Zf0 : Sim ZK Z9n (ZpY 0 []) := by
 unfold Z9n
 refine zf (ZAu ..)<|ze ?_
 exact zr ((iv (-1)), []) ⟨_, rfl⟩
def Zbg (x0 x1 : Int) : Option Int :=
 (Zci (IntKind.i64.wrap (x0 * x1))).bind fun r1 =>
 some r1
theorem Zle x0 x1 : Sim ZK (Zbg x0 x1) (Zui 0 (iv x0) (iv x1) []) := by
 unfold Zbg
 refine zf (ZAv ..)<|ze<|zq<|zi fun r1 hr1 => ?_
 obtain ⟨_, er1, _, rfl⟩ := Zji (IntKind.i64.wrap (x0 * x1)) r1 hr1
 refine zc [] (iv r1) [] er1 ?_
 exact zr ((iv r1), []) ⟨_, rfl⟩
def Zbf (x0 x1 : Int) : Option Int :=
 if (decide (x0 < 0)) = true then
 Z9n
 else
 (if (decide (x1 < 0)) = true then
 Z9n
 else
 (Zbg x0 x1))
theorem Zld x0 x1 : Sim ZK (Zbf x0 x1) (Zuh 0 (iv x0) (iv x1) []) := by
 unfold Zbf
 refine zf (ZAt ..)<|ze<|zq ?_
 refine za (decide (x0 < 0)) ?_ ?_
 ·exact zk Zf0
 ·refine zq ?_
  refine za (decide (x1 < 0)) ?_ ?_
  ·exact zk Zf0
  ·exact zk (Zle x0 x1)
def ZdP (x0 x1 : Int) : Option Int :=
 if (x0 == 0) = true then
 Z9m
 else
 (if (x1 == 0) = true then
 Z9m
 else
 (Zbf x0 x1))
theorem Zo1 x0 x1 : Sim ZK (ZdP x0 x1) (EE 61 [(iv x0), (iv x1)] []) := by
 unfold ZdP
 refine zf (ZGa ..)<|ze<|ze<|zq ?_
 refine za (x0 == 0) ?_ ?_
 ·exact zk ZeZ
 ·refine zq ?_
  refine za (x1 == 0) ?_ ?_
  ·exact zk ZeZ
  ·exact zk (Zld x0 x1)
theorem ZoE x0 x1 {r} (h : ZdP x0 x1 = some r) : Zbx x0 x1 = some r :=
 Z1i (fun _ _ ha hb => ru_ Z1J ha hb) (Zo1 x0 x1 r h)
def ZbN (x0 : Int) : Option Int :=
 some x0
theorem Zm3 x0 : Sim ZK (ZbN x0) (ZuF 0 (iv x0) []) := by
 unfold ZbN
 refine zf (ZAU ..)<|ze ?_
 exact zr ((iv x0), []) ⟨_, rfl⟩
def ZeO (x0 : Int) : Option Int :=
 if (decide (1048576 < x0)) = true then
 (some (-1))
 else
 (ZbN x0)
theorem ZoD x0 : Sim ZK (ZeO x0) (EE 75 [(iv x0)] []) := by
 unfold ZeO
 refine zf (ZGy ..)<|ze<|ze<|zq ?_
 refine za (decide (1048576 < x0)) ?_ ?_
 ·refine ze ?_
  exact zr ((iv (-1)), []) ⟨_, rfl⟩
 ·exact zk (Zm3 x0)
theorem Zqp x0 {r} (h : ZeO x0 = some r) : Zci x0 = some r :=
 Z1i (fun _ _ ha hb => ru_ Z1J ha hb) (ZoD x0 r h)
def ZaN : Option Int :=
 some (-1)
theorem Zh0 : Sim ZK ZaN (ZpW 0 []) := by
 unfold ZaN
 refine zf (ZAq ..)<|ze ?_
 exact zr ((iv (-1)), []) ⟨_, rfl⟩
def ZcJ (x0 x1 : Int) : Option Int :=
 (Zci (IntKind.i64.wrap (x0 + x1))).bind fun r1 =>
 some r1
theorem ZmJ x0 x1 : Sim ZK (ZcJ x0 x1) (Zud 0 (iv x0) (iv x1) []) := by
 unfold ZcJ
 refine zf (ZAr ..)<|ze<|zq<|zi fun r1 hr1 => ?_
 obtain ⟨_, er1, _, rfl⟩ := Zji (IntKind.i64.wrap (x0 + x1)) r1 hr1
 refine zc [] (iv r1) [] er1 ?_
 exact zr ((iv r1), []) ⟨_, rfl⟩
def Zgg (x0 x1 : Int) : Option Int :=
 if (decide (x0 < 0)) = true then
 ZaN
 else
 (if (decide (x1 < 0)) = true then
 ZaN
 else
 (ZcJ x0 x1))
theorem Zqq x0 x1 : Sim ZK (Zgg x0 x1) (EE 60 [(iv x0), (iv x1)] []) := by
 unfold Zgg
 refine zf (ZG8 ..)<|ze<|ze<|zq ?_
 refine za (decide (x0 < 0)) ?_ ?_
 ·exact zk Zh0
 ·refine zq ?_
  refine za (decide (x1 < 0)) ?_ ?_
  ·exact zk Zh0
  ·exact zk (ZmJ x0 x1)
theorem ZrG x0 x1 {r} (h : Zgg x0 x1 = some r) : Zgi x0 x1 = some r :=
 Z1i (fun _ _ ha hb => ru_ Z1J ha hb) (Zqq x0 x1 r h)
def Z5q (x0 : List Zk) : Option Bool :=
 (Z6p x0).bind fun r1 =>
 some (decide (0 ≤ r1))
theorem Zde (x0 : List Zk) ox0 : Sim ZQ (Z5q x0) (EE 55 [(ZP ox0 (x0.map ZJ)), (.clo 56 [] [])] []) := by
 unfold Z5q
 refine zf (ZG3 ..)<|ze<|ze<|zi fun r1 hr1 => ?_
 obtain ⟨_, er1, _, rfl⟩ := Zf2 x0 .sh r1 hr1
 refine zc [] (iv r1) [] er1<|zq ?_
 exact zr ((bv (decide (0 ≤ r1))), []) ⟨_, rfl⟩
theorem ZdC x0 {r} (h : Z5q x0 = some r) : Z5u x0 = some r :=
 Z1i (fun _ _ ha hb => ru_ Z2q (ha .ex) (hb .ex)) (fun ox0 => Zde x0 ox0 r h)
def Z6n (x0 : List Zk) : Option Int :=
 Z4f x0 (x0.length : Int) 0
theorem ZeH (x0 : List Zk) ox0 : Sim ZK (Z6n x0) (EE 73 [(ZP ox0 (x0.map ZJ)), (.clo 56 [] [])] []) := by
 unfold Z6n
 refine zf (ZGw ..)<|ze<|ze<|zp (iv (x0.length : Int)) (et_ (Z30 (P := PP) (t := 29) (d := 31) (by kernel_rfl) ZJ (shrO ox0) x0)) ?_
 exact zk (Z9c x0 (x0.length : Int) 0 ox0)
theorem Zf1 x0 {r} (h : Z6n x0 = some r) : Z6p x0 = some r :=
 Z1i (fun _ _ ha hb => ru_ Z1J (ha .ex) (hb .ex)) (fun ox0 => ZeH x0 ox0 r h)
def Z5r (x0 : List Zk) (x7 x8 : Int) : Option Int :=
 Z4f x0 x7 (IntKind.i64.wrap (x8 + 1))
theorem Zdl (x0 : List Zk) x7 x8 ox0 : Sim ZK (Z5r x0 x7 x8) (ZuC 0 (ZP ox0 (x0.map ZJ)) (.clo 56 [] []) (iv x7) (iv x8) []) := by
 unfold Z5r
 refine zf (ZAR ..)<|ze<|zq ?_
 exact zk (Z9c x0 x7 (IntKind.i64.wrap (x8 + 1)) ox0)
def Z48 (x0 : List Zk) (x7 x8 : Int) : Option Int :=
 (lget x0 x8).bind fun a1 =>
 (ZaE a1).bind fun r2 =>
 if r2 = true then
 (some x8)
 else
 (Z5r x0 x7 x8)
theorem Zdk (x0 : List Zk) x7 x8 ox0 : Sim ZK (Z48 x0 x7 x8) (ZuB 0 (ZP ox0 (x0.map ZJ)) (.clo 56 [] []) (iv x7) (iv x8) []) := by
 unfold Z48
 refine zf (ZAQ ..)<|ze<|ze<|zi fun a1 ha1 => zp (.cptr (ZI a1 .sh .sh)) (et_ (Z2v (o := (shrO ox0)) (k := .i64) (n := 7) (e := ZJ) (cs := Z1Z) Z2J (fun _ => rfl) (by decide) ha1))<|zq<|zi fun r2 hr2 => ?_
 obtain ⟨_, er2, _, rfl⟩ := Zlc a1 .sh .sh r2 hr2
 refine zv [] (bv r2) [] er2 ?_
 refine za r2 ?_ ?_
 ·refine ze ?_
  exact zr ((iv x8), []) ⟨_, rfl⟩
 ·exact zk (Zdl x0 x7 x8 ox0)
def Z7q : Option Int :=
 some (-1)
theorem Zdm : Sim ZK Z7q (ZuD 0 []) := by
 unfold Z7q
 refine zf (ZAS ..)<|ze ?_
 exact zr ((iv (-1)), []) ⟨_, rfl⟩
def Z3A (x0 : List Zk) (x7 x8 : Int) : Option Int :=
 if (decide (x8 < x7)) = true then
 (Z48 x0 x7 x8)
 else
 Z7q
theorem Zdj (x0 : List Zk) x7 x8 ox0 : Sim ZK (Z3A x0 x7 x8) (Zmu 0 (ZP ox0 (x0.map ZJ)) (.clo 56 [] []) (iv x7) (iv x8) []) := by
 unfold Z3A
 refine zf (ZAP ..)<|ze<|zq ?_
 refine za (decide (x8 < x7)) ?_ ?_
 ·exact zk (Zdk x0 x7 x8 ox0)
 ·exact zk Zdm
theorem Z6w x0 x7 x8 {r} (h : Z3A x0 x7 x8 = some r) : Z4f x0 x7 x8 = some r :=
 Z1i (fun _ _ ha hb => ru_ Z1J (ha .ex) (hb .ex)) (fun ox0 => Zdj x0 x7 x8 ox0 r h)
def ZaC (x0 : Zk) : Option Bool :=
 (Z4e x0).bind fun r1 =>
 some (!r1)
theorem Zkr x0 z27 z1q : Sim ZQ (ZaC x0) (EE 56 [(pA_ (ZI x0 z27 z1q))] []) := by
 unfold ZaC
 refine zf (ZG4 ..)<|ze<|zx (.ptr 0 0) [(Zl x0 z27 z1q)]<|ze<|zq<|zi fun r1 hr1 => ?_
 obtain ⟨_, er1, _, rfl⟩ := ZgZ x0 .sh .sh r1 hr1
 refine zc [] (bv r1) [(Zl x0 z27 z1q)] er1<|zq ?_
 exact zr ((bv (!r1)), [(Zl x0 z27 z1q)]) ⟨_, rfl⟩
theorem Zlb x0 {r} (h : ZaC x0 = some r) : ZaE x0 = some r :=
 Z1i (fun _ _ ha hb => ru_ Z2q (ha .ex .ex) (hb .ex .ex)) (fun z27 z1q => Zkr x0 z27 z1q r h)
def Zil (x0 : Zk) : Option Int :=
 Z6o 0 x0.Kids (x0.Kids.length : Int) 0 x0
theorem ZoB x0 z27 z1q : Sim ZK (Zil x0) (EE 11 [(pA_ (ZI x0 z27 z1q))] []) := by
 unfold Zil
 refine zf (ZER ..)<|ze<|zx (.ptr 0 0) [(Zl x0 z27 z1q)]<|ze<|ze<|zq<|zq<|zp (iv (x0.Kids.length : Int)) (et_ (Z30 (P := PP) (t := 29) (d := 31) (by kernel_rfl) ZJ (shrO z1q) x0.Kids)) ?_
 exact zk (ZgY 0 x0.Kids (x0.Kids.length : Int) 0 x0 (shrO z1q) z27 z1q)
theorem ZeW x0 {r} (h : Zil x0 = some r) : Z5R x0 = some r :=
 Z1i (fun _ _ ha hb => ru_ Z1J (ha .ex .ex) (hb .ex .ex)) (fun z27 z1q => ZoB x0 z27 z1q r h)
def ZbL (x3 : Int) (x8 : List Zk) (x9 x10 : Int) (b0 : Zk) : Option Int :=
 (lget x8 x10).bind fun a1 =>
 (Z5R a1).bind fun r2 =>
 Z6o (min (IntKind.i64.wrap (x3 + r2)) 1048576) x8 x9 (IntKind.i64.wrap (x10 + 1)) b0
theorem Zm0 x3 (x8 : List Zk) x9 x10 b0 ox8 z1V z1v : Sim ZK (ZbL x3 x8 x9 x10 b0) (ZsV 0 (.ptr 0 0) (iv x3) (ZP ox8 (x8.map ZJ)) (iv x9) (iv x10) [(Zl b0 z1V z1v)]) := by
 unfold ZbL
 refine zf (Zzb ..)<|ze<|zi fun a1 ha1 => zp (.cptr (ZI a1 .sh .sh)) (et_ (Z2v (o := ox8) (k := .i64) (n := 7) (e := ZJ) (cs := Z1Z) Z2J (fun _ => rfl) (by decide) ha1))<|zq<|zz (.ptr 1 0) [(Zl b0 z1V z1v), (Zl Z1B .nl .nl)]<|zt [(Zl b0 z1V z1v), (Zl a1 .sh .sh)]<|ze<|zq<|zi fun r2 hr2 => ?_
 obtain ⟨_, er2, _, rfl⟩ := Zjh a1 .sh .sh r2 hr2
 refine zc [] (iv r2) [(Zl b0 z1V z1v), (Zl a1 .sh .sh)] er2<|zq<|zp (iv (min (IntKind.i64.wrap (x3 + r2)) 1048576)) (ZcA _ _)<|ze<|zq ?_
 exact zk (ZgY (min (IntKind.i64.wrap (x3 + r2)) 1048576) x8 x9 (IntKind.i64.wrap (x10 + 1)) b0 ox8 z1V z1v)
def Z1u (x3 : Int) : Option Int :=
 some (min x3 1048576)
theorem Z1D x3 : Sim ZK (Z1u x3) (Z46 0 (iv x3) []) := by
 unfold Z1u
 refine zf (Zxk ..)<|ze<|zp (iv (min x3 1048576)) (ZcA _ _) ?_
 exact zr ((iv (min x3 1048576)), []) ⟨_, rfl⟩
def Z1O (x3 : Int) (b0 : Zk) : Option Int :=
 if (b0.Mode == 2) = true then
 (Z1u (IntKind.i64.wrap (x3 + 2)))
 else
 (Z1u x3)
theorem Z1Y x3 b0 z1V z1v : Sim ZK (Z1O x3 b0) (Z5z 0 (.ptr 0 0) (iv x3) [(Zl b0 z1V z1v)]) := by
 unfold Z1O
 refine zf (Zxj ..)<|ze<|zq<|zq<|zq ?_
 refine za (b0.Mode == 2) ?_ ?_
 ·refine ze<|zq ?_
  exact zk (Z1D (IntKind.i64.wrap (x3 + 2)))
 ·exact zk (Z1D x3)
def Z5p (x3 : Int) (b0 : Zk) : Option Int :=
 if (b0.Kind == 1) = true then
 (if (b0.Kind == 1) = true then
 (some (1))
 else
 (if (b0.Kind == 3) = true then
 (Z1u ((IntKind.i64.wrap (x3 + (IntKind.i64.wrap (2 * (IntKind.i64.wrap ((b0.Kids.length : Int) - 1))))))))
 else
 (if (b0.Kind == 5) = true then
 (if (b0.Kind == 5) = true then
 (Z1u (IntKind.i64.wrap (x3 + 2)))
 else
 (if (b0.Kind == 4) = true then
 (if (decide (b0.Hi < 0)) = true then
 (Z1O (IntKind.i64.wrap ((IntKind.i64.wrap (b0.Lo * x3)) + (IntKind.i64.wrap (x3 + 4)))) b0)
 else
 (Z1O ((IntKind.i64.wrap ((IntKind.i64.wrap (b0.Lo * x3)) + (IntKind.i64.wrap ((IntKind.i64.wrap (b0.Hi - b0.Lo)) * (IntKind.i64.wrap (x3 + 1))))))) b0))
 else
 (Z1u x3)))
 else
 (if (b0.Kind == 7) = true then
 (if (b0.Kind == 7) = true then
 (Z1u (IntKind.i64.wrap (x3 + 2)))
 else
 (if (b0.Kind == 4) = true then
 (if (decide (b0.Hi < 0)) = true then
 (Z1O (IntKind.i64.wrap ((IntKind.i64.wrap (b0.Lo * x3)) + (IntKind.i64.wrap (x3 + 4)))) b0)
 else
 (Z1O ((IntKind.i64.wrap ((IntKind.i64.wrap (b0.Lo * x3)) + (IntKind.i64.wrap ((IntKind.i64.wrap (b0.Hi - b0.Lo)) * (IntKind.i64.wrap (x3 + 1))))))) b0))
 else
 (Z1u x3)))
 else
 (if (b0.Kind == 8) = true then
 (Z1u (IntKind.i64.wrap (x3 + 2)))
 else
 (if (b0.Kind == 4) = true then
 (if (decide (b0.Hi < 0)) = true then
 (Z1O (IntKind.i64.wrap ((IntKind.i64.wrap (b0.Lo * x3)) + (IntKind.i64.wrap (x3 + 4)))) b0)
 else
 (Z1O ((IntKind.i64.wrap ((IntKind.i64.wrap (b0.Lo * x3)) + (IntKind.i64.wrap ((IntKind.i64.wrap (b0.Hi - b0.Lo)) * (IntKind.i64.wrap (x3 + 1))))))) b0))
 else
 (Z1u x3)))))))
 else
 (if (b0.Kind == 6) = true then
 (if (b0.Kind == 6) = true then
 (some (1))
 else
 (if (b0.Kind == 3) = true then
 (Z1u ((IntKind.i64.wrap (x3 + (IntKind.i64.wrap (2 * (IntKind.i64.wrap ((b0.Kids.length : Int) - 1))))))))
 else
 (if (b0.Kind == 5) = true then
 (if (b0.Kind == 5) = true then
 (Z1u (IntKind.i64.wrap (x3 + 2)))
 else
 (if (b0.Kind == 4) = true then
 (if (decide (b0.Hi < 0)) = true then
 (Z1O (IntKind.i64.wrap ((IntKind.i64.wrap (b0.Lo * x3)) + (IntKind.i64.wrap (x3 + 4)))) b0)
 else
 (Z1O ((IntKind.i64.wrap ((IntKind.i64.wrap (b0.Lo * x3)) + (IntKind.i64.wrap ((IntKind.i64.wrap (b0.Hi - b0.Lo)) * (IntKind.i64.wrap (x3 + 1))))))) b0))
 else
 (Z1u x3)))
 else
 (if (b0.Kind == 7) = true then
 (if (b0.Kind == 7) = true then
 (Z1u (IntKind.i64.wrap (x3 + 2)))
 else
 (if (b0.Kind == 4) = true then
 (if (decide (b0.Hi < 0)) = true then
 (Z1O (IntKind.i64.wrap ((IntKind.i64.wrap (b0.Lo * x3)) + (IntKind.i64.wrap (x3 + 4)))) b0)
 else
 (Z1O ((IntKind.i64.wrap ((IntKind.i64.wrap (b0.Lo * x3)) + (IntKind.i64.wrap ((IntKind.i64.wrap (b0.Hi - b0.Lo)) * (IntKind.i64.wrap (x3 + 1))))))) b0))
 else
 (Z1u x3)))
 else
 (if (b0.Kind == 8) = true then
 (Z1u (IntKind.i64.wrap (x3 + 2)))
 else
 (if (b0.Kind == 4) = true then
 (if (decide (b0.Hi < 0)) = true then
 (Z1O (IntKind.i64.wrap ((IntKind.i64.wrap (b0.Lo * x3)) + (IntKind.i64.wrap (x3 + 4)))) b0)
 else
 (Z1O ((IntKind.i64.wrap ((IntKind.i64.wrap (b0.Lo * x3)) + (IntKind.i64.wrap ((IntKind.i64.wrap (b0.Hi - b0.Lo)) * (IntKind.i64.wrap (x3 + 1))))))) b0))
 else
 (Z1u x3)))))))
 else
 (if (b0.Kind == 9) = true then
 (some (1))
 else
 (if (b0.Kind == 3) = true then
 (Z1u ((IntKind.i64.wrap (x3 + (IntKind.i64.wrap (2 * (IntKind.i64.wrap ((b0.Kids.length : Int) - 1))))))))
 else
 (if (b0.Kind == 5) = true then
 (if (b0.Kind == 5) = true then
 (Z1u (IntKind.i64.wrap (x3 + 2)))
 else
 (if (b0.Kind == 4) = true then
 (if (decide (b0.Hi < 0)) = true then
 (Z1O (IntKind.i64.wrap ((IntKind.i64.wrap (b0.Lo * x3)) + (IntKind.i64.wrap (x3 + 4)))) b0)
 else
 (Z1O ((IntKind.i64.wrap ((IntKind.i64.wrap (b0.Lo * x3)) + (IntKind.i64.wrap ((IntKind.i64.wrap (b0.Hi - b0.Lo)) * (IntKind.i64.wrap (x3 + 1))))))) b0))
 else
 (Z1u x3)))
 else
 (if (b0.Kind == 7) = true then
 (if (b0.Kind == 7) = true then
 (Z1u (IntKind.i64.wrap (x3 + 2)))
 else
 (if (b0.Kind == 4) = true then
 (if (decide (b0.Hi < 0)) = true then
 (Z1O (IntKind.i64.wrap ((IntKind.i64.wrap (b0.Lo * x3)) + (IntKind.i64.wrap (x3 + 4)))) b0)
 else
 (Z1O ((IntKind.i64.wrap ((IntKind.i64.wrap (b0.Lo * x3)) + (IntKind.i64.wrap ((IntKind.i64.wrap (b0.Hi - b0.Lo)) * (IntKind.i64.wrap (x3 + 1))))))) b0))
 else
 (Z1u x3)))
 else
 (if (b0.Kind == 8) = true then
 (Z1u (IntKind.i64.wrap (x3 + 2)))
 else
 (if (b0.Kind == 4) = true then
 (if (decide (b0.Hi < 0)) = true then
 (Z1O (IntKind.i64.wrap ((IntKind.i64.wrap (b0.Lo * x3)) + (IntKind.i64.wrap (x3 + 4)))) b0)
 else
 (Z1O ((IntKind.i64.wrap ((IntKind.i64.wrap (b0.Lo * x3)) + (IntKind.i64.wrap ((IntKind.i64.wrap (b0.Hi - b0.Lo)) * (IntKind.i64.wrap (x3 + 1))))))) b0))
 else
 (Z1u x3))))))))
theorem Zm1 x3 b0 z1V z1v : Sim ZK (Z5p x3 b0) (ZsW 0 (.ptr 0 0) (iv x3) [(Zl b0 z1V z1v)]) := by
 unfold Z5p
 refine zf (Zzc ..)<|ze<|zq<|zq<|ze<|zq ?_
 refine za (b0.Kind == 1) ?_ ?_
 ·refine za (b0.Kind == 1) ?_ ?_
  ·refine ze ?_
   exact zr ((iv 1), [(Zl b0 z1V z1v)]) ⟨_, rfl⟩
  ·refine ze<|zq ?_
   refine za (b0.Kind == 3) ?_ ?_
   ·refine ze<|zq<|zq<|zp (iv (b0.Kids.length : Int)) (et_ (Z30 (P := PP) (t := 29) (d := 31) (by kernel_rfl) ZJ (shrO z1v) b0.Kids))<|zq<|zq<|zq ?_
    exact zk (Z1D ((IntKind.i64.wrap (x3 + (IntKind.i64.wrap (2 * (IntKind.i64.wrap ((b0.Kids.length : Int) - 1))))))))
   ·refine ze<|zq ?_
    refine za (b0.Kind == 5) ?_ ?_
    ·refine za (b0.Kind == 5) ?_ ?_
     ·refine ze<|zq ?_
      exact zk (Z1D (IntKind.i64.wrap (x3 + 2)))
     ·refine ze<|zq ?_
      refine za (b0.Kind == 4) ?_ ?_
      ·refine ze<|ze<|zq<|zq<|zq<|ze<|zq<|zq<|zq ?_
       refine za (decide (b0.Hi < 0)) ?_ ?_
       ·refine ze<|zq<|zq ?_
        exact zk (Z1Y (IntKind.i64.wrap ((IntKind.i64.wrap (b0.Lo * x3)) + (IntKind.i64.wrap (x3 + 4)))) b0 z1V z1v)
       ·refine ze<|zq<|zq<|zq<|zq<|zq<|zq<|zq<|zq ?_
        exact zk (Z1Y ((IntKind.i64.wrap ((IntKind.i64.wrap (b0.Lo * x3)) + (IntKind.i64.wrap ((IntKind.i64.wrap (b0.Hi - b0.Lo)) * (IntKind.i64.wrap (x3 + 1))))))) b0 z1V z1v)
      ·exact zk (Z1D x3)
    ·refine ze<|zq ?_
     refine za (b0.Kind == 7) ?_ ?_
     ·refine za (b0.Kind == 7) ?_ ?_
      ·refine ze<|zq ?_
       exact zk (Z1D (IntKind.i64.wrap (x3 + 2)))
      ·refine ze<|zq ?_
       refine za (b0.Kind == 4) ?_ ?_
       ·refine ze<|ze<|zq<|zq<|zq<|ze<|zq<|zq<|zq ?_
        refine za (decide (b0.Hi < 0)) ?_ ?_
        ·refine ze<|zq<|zq ?_
         exact zk (Z1Y (IntKind.i64.wrap ((IntKind.i64.wrap (b0.Lo * x3)) + (IntKind.i64.wrap (x3 + 4)))) b0 z1V z1v)
        ·refine ze<|zq<|zq<|zq<|zq<|zq<|zq<|zq<|zq ?_
         exact zk (Z1Y ((IntKind.i64.wrap ((IntKind.i64.wrap (b0.Lo * x3)) + (IntKind.i64.wrap ((IntKind.i64.wrap (b0.Hi - b0.Lo)) * (IntKind.i64.wrap (x3 + 1))))))) b0 z1V z1v)
       ·exact zk (Z1D x3)
     ·refine ze<|zq ?_
      refine za (b0.Kind == 8) ?_ ?_
      ·refine ze<|zq ?_
       exact zk (Z1D (IntKind.i64.wrap (x3 + 2)))
      ·refine ze<|zq ?_
       refine za (b0.Kind == 4) ?_ ?_
       ·refine ze<|ze<|zq<|zq<|zq<|ze<|zq<|zq<|zq ?_
        refine za (decide (b0.Hi < 0)) ?_ ?_
        ·refine ze<|zq<|zq ?_
         exact zk (Z1Y (IntKind.i64.wrap ((IntKind.i64.wrap (b0.Lo * x3)) + (IntKind.i64.wrap (x3 + 4)))) b0 z1V z1v)
        ·refine ze<|zq<|zq<|zq<|zq<|zq<|zq<|zq<|zq ?_
         exact zk (Z1Y ((IntKind.i64.wrap ((IntKind.i64.wrap (b0.Lo * x3)) + (IntKind.i64.wrap ((IntKind.i64.wrap (b0.Hi - b0.Lo)) * (IntKind.i64.wrap (x3 + 1))))))) b0 z1V z1v)
       ·exact zk (Z1D x3)
 ·refine ze<|zq ?_
  refine za (b0.Kind == 6) ?_ ?_
  ·refine za (b0.Kind == 6) ?_ ?_
   ·refine ze ?_
    exact zr ((iv 1), [(Zl b0 z1V z1v)]) ⟨_, rfl⟩
   ·refine ze<|zq ?_
    refine za (b0.Kind == 3) ?_ ?_
    ·refine ze<|zq<|zq<|zp (iv (b0.Kids.length : Int)) (et_ (Z30 (P := PP) (t := 29) (d := 31) (by kernel_rfl) ZJ (shrO z1v) b0.Kids))<|zq<|zq<|zq ?_
     exact zk (Z1D ((IntKind.i64.wrap (x3 + (IntKind.i64.wrap (2 * (IntKind.i64.wrap ((b0.Kids.length : Int) - 1))))))))
    ·refine ze<|zq ?_
     refine za (b0.Kind == 5) ?_ ?_
     ·refine za (b0.Kind == 5) ?_ ?_
      ·refine ze<|zq ?_
       exact zk (Z1D (IntKind.i64.wrap (x3 + 2)))
      ·refine ze<|zq ?_
       refine za (b0.Kind == 4) ?_ ?_
       ·refine ze<|ze<|zq<|zq<|zq<|ze<|zq<|zq<|zq ?_
        refine za (decide (b0.Hi < 0)) ?_ ?_
        ·refine ze<|zq<|zq ?_
         exact zk (Z1Y (IntKind.i64.wrap ((IntKind.i64.wrap (b0.Lo * x3)) + (IntKind.i64.wrap (x3 + 4)))) b0 z1V z1v)
        ·refine ze<|zq<|zq<|zq<|zq<|zq<|zq<|zq<|zq ?_
         exact zk (Z1Y ((IntKind.i64.wrap ((IntKind.i64.wrap (b0.Lo * x3)) + (IntKind.i64.wrap ((IntKind.i64.wrap (b0.Hi - b0.Lo)) * (IntKind.i64.wrap (x3 + 1))))))) b0 z1V z1v)
       ·exact zk (Z1D x3)
     ·refine ze<|zq ?_
      refine za (b0.Kind == 7) ?_ ?_
      ·refine za (b0.Kind == 7) ?_ ?_
       ·refine ze<|zq ?_
        exact zk (Z1D (IntKind.i64.wrap (x3 + 2)))
       ·refine ze<|zq ?_
        refine za (b0.Kind == 4) ?_ ?_
        ·refine ze<|ze<|zq<|zq<|zq<|ze<|zq<|zq<|zq ?_
         refine za (decide (b0.Hi < 0)) ?_ ?_
         ·refine ze<|zq<|zq ?_
          exact zk (Z1Y (IntKind.i64.wrap ((IntKind.i64.wrap (b0.Lo * x3)) + (IntKind.i64.wrap (x3 + 4)))) b0 z1V z1v)
         ·refine ze<|zq<|zq<|zq<|zq<|zq<|zq<|zq<|zq ?_
          exact zk (Z1Y ((IntKind.i64.wrap ((IntKind.i64.wrap (b0.Lo * x3)) + (IntKind.i64.wrap ((IntKind.i64.wrap (b0.Hi - b0.Lo)) * (IntKind.i64.wrap (x3 + 1))))))) b0 z1V z1v)
        ·exact zk (Z1D x3)
      ·refine ze<|zq ?_
       refine za (b0.Kind == 8) ?_ ?_
       ·refine ze<|zq ?_
        exact zk (Z1D (IntKind.i64.wrap (x3 + 2)))
       ·refine ze<|zq ?_
        refine za (b0.Kind == 4) ?_ ?_
        ·refine ze<|ze<|zq<|zq<|zq<|ze<|zq<|zq<|zq ?_
         refine za (decide (b0.Hi < 0)) ?_ ?_
         ·refine ze<|zq<|zq ?_
          exact zk (Z1Y (IntKind.i64.wrap ((IntKind.i64.wrap (b0.Lo * x3)) + (IntKind.i64.wrap (x3 + 4)))) b0 z1V z1v)
         ·refine ze<|zq<|zq<|zq<|zq<|zq<|zq<|zq<|zq ?_
          exact zk (Z1Y ((IntKind.i64.wrap ((IntKind.i64.wrap (b0.Lo * x3)) + (IntKind.i64.wrap ((IntKind.i64.wrap (b0.Hi - b0.Lo)) * (IntKind.i64.wrap (x3 + 1))))))) b0 z1V z1v)
        ·exact zk (Z1D x3)
  ·refine ze<|zq ?_
   refine za (b0.Kind == 9) ?_ ?_
   ·refine ze ?_
    exact zr ((iv 1), [(Zl b0 z1V z1v)]) ⟨_, rfl⟩
   ·refine ze<|zq ?_
    refine za (b0.Kind == 3) ?_ ?_
    ·refine ze<|zq<|zq<|zp (iv (b0.Kids.length : Int)) (et_ (Z30 (P := PP) (t := 29) (d := 31) (by kernel_rfl) ZJ (shrO z1v) b0.Kids))<|zq<|zq<|zq ?_
     exact zk (Z1D ((IntKind.i64.wrap (x3 + (IntKind.i64.wrap (2 * (IntKind.i64.wrap ((b0.Kids.length : Int) - 1))))))))
    ·refine ze<|zq ?_
     refine za (b0.Kind == 5) ?_ ?_
     ·refine za (b0.Kind == 5) ?_ ?_
      ·refine ze<|zq ?_
       exact zk (Z1D (IntKind.i64.wrap (x3 + 2)))
      ·refine ze<|zq ?_
       refine za (b0.Kind == 4) ?_ ?_
       ·refine ze<|ze<|zq<|zq<|zq<|ze<|zq<|zq<|zq ?_
        refine za (decide (b0.Hi < 0)) ?_ ?_
        ·refine ze<|zq<|zq ?_
         exact zk (Z1Y (IntKind.i64.wrap ((IntKind.i64.wrap (b0.Lo * x3)) + (IntKind.i64.wrap (x3 + 4)))) b0 z1V z1v)
        ·refine ze<|zq<|zq<|zq<|zq<|zq<|zq<|zq<|zq ?_
         exact zk (Z1Y ((IntKind.i64.wrap ((IntKind.i64.wrap (b0.Lo * x3)) + (IntKind.i64.wrap ((IntKind.i64.wrap (b0.Hi - b0.Lo)) * (IntKind.i64.wrap (x3 + 1))))))) b0 z1V z1v)
       ·exact zk (Z1D x3)
     ·refine ze<|zq ?_
      refine za (b0.Kind == 7) ?_ ?_
      ·refine za (b0.Kind == 7) ?_ ?_
       ·refine ze<|zq ?_
        exact zk (Z1D (IntKind.i64.wrap (x3 + 2)))
       ·refine ze<|zq ?_
        refine za (b0.Kind == 4) ?_ ?_
        ·refine ze<|ze<|zq<|zq<|zq<|ze<|zq<|zq<|zq ?_
         refine za (decide (b0.Hi < 0)) ?_ ?_
         ·refine ze<|zq<|zq ?_
          exact zk (Z1Y (IntKind.i64.wrap ((IntKind.i64.wrap (b0.Lo * x3)) + (IntKind.i64.wrap (x3 + 4)))) b0 z1V z1v)
         ·refine ze<|zq<|zq<|zq<|zq<|zq<|zq<|zq<|zq ?_
          exact zk (Z1Y ((IntKind.i64.wrap ((IntKind.i64.wrap (b0.Lo * x3)) + (IntKind.i64.wrap ((IntKind.i64.wrap (b0.Hi - b0.Lo)) * (IntKind.i64.wrap (x3 + 1))))))) b0 z1V z1v)
        ·exact zk (Z1D x3)
      ·refine ze<|zq ?_
       refine za (b0.Kind == 8) ?_ ?_
       ·refine ze<|zq ?_
        exact zk (Z1D (IntKind.i64.wrap (x3 + 2)))
       ·refine ze<|zq ?_
        refine za (b0.Kind == 4) ?_ ?_
        ·refine ze<|ze<|zq<|zq<|zq<|ze<|zq<|zq<|zq ?_
         refine za (decide (b0.Hi < 0)) ?_ ?_
         ·refine ze<|zq<|zq ?_
          exact zk (Z1Y (IntKind.i64.wrap ((IntKind.i64.wrap (b0.Lo * x3)) + (IntKind.i64.wrap (x3 + 4)))) b0 z1V z1v)
         ·refine ze<|zq<|zq<|zq<|zq<|zq<|zq<|zq<|zq ?_
          exact zk (Z1Y ((IntKind.i64.wrap ((IntKind.i64.wrap (b0.Lo * x3)) + (IntKind.i64.wrap ((IntKind.i64.wrap (b0.Hi - b0.Lo)) * (IntKind.i64.wrap (x3 + 1))))))) b0 z1V z1v)
        ·exact zk (Z1D x3)
def Za4 (x3 : Int) (x8 : List Zk) (x9 x10 : Int) (b0 : Zk) : Option Int :=
 if (decide (x10 < x9)) = true then
 (ZbL x3 x8 x9 x10 b0)
 else
 (Z5p x3 b0)
theorem ZlZ x3 (x8 : List Zk) x9 x10 b0 ox8 z1V z1v : Sim ZK (Za4 x3 x8 x9 x10 b0) (Zma 0 (.ptr 0 0) (iv x3) (ZP ox8 (x8.map ZJ)) (iv x9) (iv x10) [(Zl b0 z1V z1v)]) := by
 unfold Za4
 refine zf (Zza ..)<|ze<|zq ?_
 refine za (decide (x10 < x9)) ?_ ?_
 ·exact zk (Zm0 x3 x8 x9 x10 b0 ox8 z1V z1v)
 ·exact zk (Zm1 x3 b0 z1V z1v)
theorem ZgX x3 x8 x9 x10 b0 {r} (h : Za4 x3 x8 x9 x10 b0 = some r) : Z6o x3 x8 x9 x10 b0 = some r :=
 Z1i (fun _ _ ha hb => ru_ Z1J (ha .ex .ex .ex) (hb .ex .ex .ex)) (fun ox8 z1V z1v => ZlZ x3 x8 x9 x10 b0 ox8 z1V z1v r h)
def Z8A (x1 : Zw) (zG : List Zw) : Option (Int × (List Zw)) :=
 (lapp zG ([x1] : List Zw)).bind fun a1 =>
 some ((IntKind.i64.wrap ((a1.length : Int) - 1)), a1)
theorem ZhV x1 (zG : List Zw) zB zC zO : Sim (Z8x zB zC) (Z8A x1 zG) (EE 28 [(.ptr 0 0), (pA_ (Z1m x1 zO))] [[(.p (.ml 6 (zG.map ZD))), (bv zB), (iv zC)]]) := by
 unfold Z8A
 refine zf (ZFs ..)<|ze<|zx (.ptr 1 0) [[(.p (.ml 6 (zG.map ZD))), (bv zB), (iv zC)], (Z1w x1 zO)]<|ze<|zq<|zq<|zw (.p (.ml 6 (zG.map ZD))) [[(.p (.hd (List.length (zG.map ZD)))), (bv zB), (iv zC)], (Z1w x1 zO)]<|zq<|zq<|zi fun a1 ha1 => zp (.p (.ml 6 (a1.map ZD))) (Eq.trans (by kernel_rfl) <| ZDe (n := 6) (o' := .ex) (e := ZD) (ys := ([x1] : List Zw)) (fun _ => rfl) (by decide) ha1)<|zq<|zq<|zt [[(.p (.ml 6 (a1.map ZD))), (bv zB), (iv zC)], (Z1w x1 zO)]<|zg<|ze<|zq<|zq<|zq<|zp (iv (a1.length : Int)) (et_ (ZbE (P := PP) (t := 23) (d := 40) (by kernel_rfl) ZD a1))<|zq ?_
 exact zr ((iv (IntKind.i64.wrap ((a1.length : Int) - 1))), [[(.p (.ml 6 (a1.map ZD))), (bv zB), (iv zC)], (Z1w x1 zO)]) ⟨_, rfl⟩
theorem ZiC x1 zG {r} (h : Z8A x1 zG = some r) : Z1k x1 zG = some r :=
 Z1i (fun _ _ ha hb => ru_ (ZiU _ _) (ha default default .ex) (hb default default .ex)) (fun zB zC zO => ZhV x1 zG zB zC zO r h)
def Z3n (x4 : List Z8) (zG : List Zw) (zC : Int) : Option ((List Zw) × Int) :=
 (Z9e x4 ([] : List Z8)).bind fun r1 =>
 (Z1k (Zw.mk 1 0 0 0 0 r1.1) zG).bind fun r2 =>
 some (r2.2, zC)
theorem Zau (x4 : List Z8) (zG : List Zw) zB zC ox4 : Sim (Z15 zB) (Z3n x4 zG zC) (ZpB 1 (.ptr 1 0) (ZP ox4 (x4.map Zv)) [[(.p (.ml 6 (zG.map ZD))), (bv zB), (iv zC)], [(.ptr 0 0)]]) := by
 unfold Z3n
 refine zf (ZzP ..)<|ze<|zi fun r1 hr1 => ?_
 obtain ⟨_, er1, _, rfl⟩ := Zht x4 ([] : List Z8) .sh .sh r1 hr1
 refine zc [] (.p (.tup [(.lst .sh (r1.1.map Zv)), (.v (.int .i64 r1.2))])) [[(.p (.ml 6 (zG.map ZD))), (bv zB), (iv zC)], [(.ptr 0 0)]] er1<|zq<|zq<|ze<|zq<|zq<|zi fun r2 hr2 => ?_
 obtain ⟨_, er2, _, rfl⟩ := Z1r (Zw.mk 1 0 0 0 0 r1.1) zG zB zC .sh r2 hr2
 refine zc [0] (iv r2.1) [[(.p (.ml 6 (r2.2.map ZD))), (bv zB), (iv zC)], [(.ptr 0 0)]] er2 ?_
 exact zr ((.p (.tup [])), [[(.p (.ml 6 (r2.2.map ZD))), (bv zB), (iv zC)], [(.ptr 0 0)]]) ⟨_, rfl⟩
def Z3d (zG : List Zw) (zC z9Y zbY zbZ zc0 zc1 : Int) (z2s : List Z8) : Option ((List Zw) × Int) :=
 (Z1k (Zw.mk z9Y zbY zbZ zc0 zc1 z2s) zG).bind fun r1 =>
 some (r1.2, zC)
theorem Zaa (zG : List Zw) zB zC b2 z9Y zbY zbZ zc0 zc1 z2s z19 zZ z2Z (zbn : ZM z2Z = true) : Sim (Z15 zB) (Z3d zG zC z9Y zbY zbZ zc0 zc1 z2s) (Znw 1 (.ptr 1 0) (.ptr 3 0) [[(.p (.ml 6 (zG.map ZD))), (bv zB), (iv zC)], [(.ptr 0 0)], (Zl b2 z19 zZ), (Z1w (Zw.mk z9Y zbY zbZ zc0 zc1 z2s) z2Z)]) := by
 unfold Z3d
 refine zf (Zxp ..)<|ze<|zq<|zq<|zi fun r1 hr1 => ?_
 obtain ⟨_, er1, _, rfl⟩ := Z1r (Zw.mk z9Y zbY zbZ zc0 zc1 z2s) zG zB zC .sh r1 hr1
 refine zc [0] (iv r1.1) [[(.p (.ml 6 (r1.2.map ZD))), (bv zB), (iv zC)], [(.ptr 0 0)], (Zl b2 z19 zZ), (Z1w (Zw.mk z9Y zbY zbZ zc0 zc1 z2s) z2Z)] er1 ?_
 exact zr ((.p (.tup [])), [[(.p (.ml 6 (r1.2.map ZD))), (bv zB), (iv zC)], [(.ptr 0 0)], (Zl b2 z19 zZ), (Z1w (Zw.mk z9Y zbY zbZ zc0 zc1 z2s) z2Z)]) ⟨_, rfl⟩
def Z3e (zG : List Zw) (zB : Bool) (zC : Int) (b2 : Zk) (z9Y zbY zbZ zc0 zc1 : Int) (z2s : List Z8) : Option ((List Zw) × Int) :=
 (Z7y (Zw.mk z9Y zbY zbZ zc0 zc1 z2s) zG zB zC b2).bind fun r1 =>
 some (r1.1, r1.2)
theorem Zab (zG : List Zw) zB zC b2 z9Y zbY zbZ zc0 zc1 z2s z19 zZ z2Z (zbn : ZM z2Z = true) : Sim (Z15 zB) (Z3e zG zB zC b2 z9Y zbY zbZ zc0 zc1 z2s) (Znx 1 (.ptr 1 0) (.ptr 2 0) (.ptr 3 0) [[(.p (.ml 6 (zG.map ZD))), (bv zB), (iv zC)], [(.ptr 0 0)], (Zl b2 z19 zZ), (Z1w (Zw.mk z9Y zbY zbZ zc0 zc1 z2s) z2Z)]) := by
 unfold Z3e
 refine zf (Zxq ..)<|ze<|zq<|zq<|zi fun r1 hr1 => ?_
 obtain ⟨_, er1, _, rfl⟩ := ZgW (Zw.mk z9Y zbY zbZ zc0 zc1 z2s) zG zB zC b2 .sh z19 zZ r1 hr1
 refine zc [0, 1, 2] (.p (.tup [])) [[(.p (.ml 6 (r1.1.map ZD))), (bv zB), (iv r1.2)], [(.ptr 0 0)], (Zl b2 z19 zZ), (Z1w (Zw.mk z9Y zbY zbZ zc0 zc1 z2s) z2Z)] er1 ?_
 exact zr ((.p (.tup [])), [[(.p (.ml 6 (r1.1.map ZD))), (bv zB), (iv r1.2)], [(.ptr 0 0)], (Zl b2 z19 zZ), (Z1w (Zw.mk z9Y zbY zbZ zc0 zc1 z2s) z2Z)]) ⟨_, rfl⟩
def Z5a (x1 : Zk) (zG : List Zw) (zB : Bool) (zC : Int) : Option ((List Zw) × Int) :=
 if (x1.Kind == 1) = true then
 (if zB = true then
 ((Z9o x1.Set).bind fun r1 =>
 Z3n r1.1 zG zC)
 else
 (Z3n x1.Set zG zC))
 else
 (if (x1.Kind == 2) = true then
 (Z51 x1.Kids (x1.Kids.length : Int) 0 zG zB zC)
 else
 (if (x1.Kind == 3) = true then
 ((Z6U x1.Kids zG zB zC).bind fun r2 =>
 some (r2.1, r2.2))
 else
 (if (x1.Kind == 4) = true then
 (if (x1.Mode == 2) = true then
 ((Z4E (Zw.mk 8 0 0 0 0 ([] : List Z8)) zG zB zC x1).bind fun r3 =>
 some (r3.1, r3.2))
 else
 ((Z4B x1 zG zB zC).bind fun r4 =>
 some (r4.1, r4.2)))
 else
 (if (x1.Kind == 5) = true then
 ((Z1k (Zw.mk 4 (IntKind.i64.wrap (2 * x1.Ref)) 0 0 0 ([] : List Z8)) zG).bind fun r5 =>
 (lget x1.Kids 0).bind fun a6 =>
 (Z1R a6 r5.2 zB zC).bind fun r7 =>
 (Z1k ((Zw.mk 4 (IntKind.i64.wrap ((IntKind.i64.wrap (2 * x1.Ref)) + 1)) 0 0 0 ([] : List Z8))) r7.1).bind fun r8 =>
 some (r8.2, r7.2))
 else
 (if (x1.Kind == 6) = true then
 (if zB = true then
 (Z3d zG zC 5 x1.Ref 1 0 0 ([] : List Z8))
 else
 (Z3d zG zC 5 x1.Ref 0 0 0 ([] : List Z8)))
 else
 (if (x1.Kind == 7) = true then
 (if (decide (2 ≤ x1.Mode)) = true then
 ((lget x1.Kids 0).bind fun a9 =>
 (Z3f a9).bind fun r10 =>
 Z3e zG zB zC x1 7 x1.Mode 0 r10.1 r10.2 ([] : List Z8))
 else
 (Z3e zG zB zC x1 7 x1.Mode 0 0 0 ([] : List Z8)))
 else
 (if (x1.Kind == 8) = true then
 ((Z5Q (Zw.mk 8 0 0 0 0 ([] : List Z8)) zG zB zC x1).bind fun r11 =>
 some (r11.1, r11.2))
 else
 (if (x1.Kind == 9) = true then
 ((Z1k (Zw.mk 6 x1.Ref 0 0 0 ([] : List Z8)) zG).bind fun r12 =>
 some (r12.2, zC))
 else
 (some (zG, zC))))))))))
theorem Zhi x1 (zG : List Zw) zB zC zO zW : Sim (Z15 zB) (Z5a x1 zG zB zC) (EE 29 [(.ptr 0 0), (pA_ (ZI x1 zO zW))] [[(.p (.ml 6 (zG.map ZD))), (bv zB), (iv zC)]]) := by
 unfold Z5a
 refine zf (ZFt ..)<|ze<|zx (.ptr 1 0) [[(.p (.ml 6 (zG.map ZD))), (bv zB), (iv zC)], [(.ptr 0 0)]]<|zx (.ptr 2 0) [[(.p (.ml 6 (zG.map ZD))), (bv zB), (iv zC)], [(.ptr 0 0)], (Zl x1 zO zW)]<|ze<|zq<|zq<|ze<|zq ?_
 refine za (x1.Kind == 1) ?_ ?_
 ·refine ze<|zq<|zq<|ze<|zq<|zq<|zq<|zq ?_
  refine za zB ?_ ?_
  ·refine ze<|zi fun r1 hr1 => ?_
   obtain ⟨_, er1, _, rfl⟩ := ZlS x1.Set .sh r1 hr1
   refine zc [] (.p (.tup [(.lst .sh (r1.1.map Zv)), (.v (.int .i64 r1.2))])) [[(.p (.ml 6 (zG.map ZD))), (bv zB), (iv zC)], [(.ptr 0 0)], (Zl x1 zO zW)] er1<|zq<|zq ?_
   exact zk (Zau r1.1 zG zB zC .sh)
  ·exact zk (Zau x1.Set zG zB zC (shrO (shrO zO)))
 ·refine ze<|zq ?_
  refine za (x1.Kind == 2) ?_ ?_
  ·refine ze<|zq<|zq<|zp (iv (x1.Kids.length : Int)) (et_ (Z30 (P := PP) (t := 29) (d := 31) (by kernel_rfl) ZJ (shrO zW) x1.Kids)) ?_
   exact zk (Zat x1.Kids (x1.Kids.length : Int) 0 zG zB zC (shrO zW))
  ·refine ze<|zq ?_
   refine za (x1.Kind == 3) ?_ ?_
   ·refine ze<|zq<|zq<|zq<|zi fun r2 hr2 => ?_
    obtain ⟨_, er2, _, rfl⟩ := ZiB x1.Kids zG zB zC .sh r2 hr2
    refine zc [0] (.p (.tup [])) [[(.p (.ml 6 (r2.1.map ZD))), (bv zB), (iv r2.2)], [(.ptr 0 0)], (Zl x1 zO zW)] er2 ?_
    exact zr ((.p (.tup [])), [[(.p (.ml 6 (r2.1.map ZD))), (bv zB), (iv r2.2)], [(.ptr 0 0)], (Zl x1 zO zW)]) ⟨_, rfl⟩
   ·refine ze<|zq ?_
    refine za (x1.Kind == 4) ?_ ?_
    ·refine ze<|zq<|zq<|zq ?_
     refine za (x1.Mode == 2) ?_ ?_
     ·refine ze<|zq<|zq<|zi fun r3 hr3 => ?_
      obtain ⟨_, er3, _, rfl⟩ := ZgS (Zw.mk 8 0 0 0 0 ([] : List Z8)) zG zB zC x1 .sh zO zW r3 hr3
      refine zc [0, 1, 2] (.p (.tup [])) [[(.p (.ml 6 (r3.1.map ZD))), (bv zB), (iv r3.2)], [(.ptr 0 0)], (Zl x1 zO zW)] er3 ?_
      exact zr ((.p (.tup [])), [[(.p (.ml 6 (r3.1.map ZD))), (bv zB), (iv r3.2)], [(.ptr 0 0)], (Zl x1 zO zW)]) ⟨_, rfl⟩
     ·refine ze<|zq<|zq<|zi fun r4 hr4 => ?_
      obtain ⟨_, er4, _, rfl⟩ := Zb5 x1 zG zB zC .sh .sh r4 hr4
      refine zc [0] (.p (.tup [])) [[(.p (.ml 6 (r4.1.map ZD))), (bv zB), (iv r4.2)], [(.ptr 0 0)], (Zl x1 zO zW)] er4 ?_
      exact zr ((.p (.tup [])), [[(.p (.ml 6 (r4.1.map ZD))), (bv zB), (iv r4.2)], [(.ptr 0 0)], (Zl x1 zO zW)]) ⟨_, rfl⟩
    ·refine ze<|zq ?_
     refine za (x1.Kind == 5) ?_ ?_
     ·refine ze<|zq<|zq<|zq<|zq<|zq<|zi fun r5 hr5 => ?_
      obtain ⟨_, er5, _, rfl⟩ := Z1r (Zw.mk 4 (IntKind.i64.wrap (2 * x1.Ref)) 0 0 0 ([] : List Z8)) zG zB zC .sh r5 hr5
      refine zc [0] (iv r5.1) [[(.p (.ml 6 (r5.2.map ZD))), (bv zB), (iv zC)], [(.ptr 0 0)], (Zl x1 zO zW)] er5<|ze<|zq<|zq<|zq<|zi fun a6 ha6 => zp (.cptr (ZI a6 .sh .sh)) (et_ (Z2v (o := (shrO zW)) (k := .i64) (n := 7) (e := ZJ) (cs := Z1Z) Z2J (fun _ => rfl) (by decide) ha6))<|zq<|zi fun r7 hr7 => ?_
      obtain ⟨_, er7, _, rfl⟩ := Z2L a6 r5.2 zB zC .sh .sh r7 hr7
      refine zc [0] (.p (.tup [])) [[(.p (.ml 6 (r7.1.map ZD))), (bv zB), (iv r7.2)], [(.ptr 0 0)], (Zl x1 zO zW)] er7<|ze<|zq<|zq<|zq<|zq<|zq<|zq<|zi fun r8 hr8 => ?_
      obtain ⟨_, er8, _, rfl⟩ := Z1r ((Zw.mk 4 (IntKind.i64.wrap ((IntKind.i64.wrap (2 * x1.Ref)) + 1)) 0 0 0 ([] : List Z8))) r7.1 zB r7.2 .sh r8 hr8
      refine zc [0] (iv r8.1) [[(.p (.ml 6 (r8.2.map ZD))), (bv zB), (iv r7.2)], [(.ptr 0 0)], (Zl x1 zO zW)] er8 ?_
      exact zr ((.p (.tup [])), [[(.p (.ml 6 (r8.2.map ZD))), (bv zB), (iv r7.2)], [(.ptr 0 0)], (Zl x1 zO zW)]) ⟨_, rfl⟩
     ·refine ze<|zq ?_
      refine za (x1.Kind == 6) ?_ ?_
      ·refine ze<|zq<|zq<|zq<|zz (.ptr 3 0) [[(.p (.ml 6 (zG.map ZD))), (bv zB), (iv zC)], [(.ptr 0 0)], (Zl x1 zO zW), (Z1w ZvX .nl)]<|zt [[(.p (.ml 6 (zG.map ZD))), (bv zB), (iv zC)], [(.ptr 0 0)], (Zl x1 zO zW), (Z1w (Zw.mk 5 x1.Ref 0 0 0 ([] : List Z8)) .nl)]<|ze<|zq<|zq<|zq<|zq ?_
       refine za zB ?_ ?_
       ·refine ze<|zq<|zt [[(.p (.ml 6 (zG.map ZD))), (bv zB), (iv zC)], [(.ptr 0 0)], (Zl x1 zO zW), (Z1w (Zw.mk 5 x1.Ref 1 0 0 ([] : List Z8)) .nl)] ?_
        exact zk (Zaa zG zB zC x1 5 x1.Ref 1 0 0 ([] : List Z8) zO zW .nl rfl)
       ·exact zk (Zaa zG zB zC x1 5 x1.Ref 0 0 0 ([] : List Z8) zO zW .nl rfl)
      ·refine ze<|zq ?_
       refine za (x1.Kind == 7) ?_ ?_
       ·refine ze<|zq<|zq<|zq<|zz (.ptr 3 0) [[(.p (.ml 6 (zG.map ZD))), (bv zB), (iv zC)], [(.ptr 0 0)], (Zl x1 zO zW), (Z1w ZvX .nl)]<|zt [[(.p (.ml 6 (zG.map ZD))), (bv zB), (iv zC)], [(.ptr 0 0)], (Zl x1 zO zW), (Z1w (Zw.mk 7 x1.Mode 0 0 0 ([] : List Z8)) .nl)]<|ze<|zq<|zq<|zq ?_
        refine za (decide (2 ≤ x1.Mode)) ?_ ?_
        ·refine ze<|zq<|zq<|zi fun a9 ha9 => zp (.cptr (ZI a9 .sh .sh)) (et_ (Z2v (o := (shrO zW)) (k := .i64) (n := 7) (e := ZJ) (cs := Z1Z) Z2J (fun _ => rfl) (by decide) ha9))<|zq<|zi fun r10 hr10 => ?_
         obtain ⟨_, er10, _, rfl⟩ := Z6B a9 .sh .sh r10 hr10
         refine zc [] (.p (.tup [(.v (.int .i64 r10.1)), (.v (.int .i64 r10.2))])) [[(.p (.ml 6 (zG.map ZD))), (bv zB), (iv zC)], [(.ptr 0 0)], (Zl x1 zO zW), (Z1w (Zw.mk 7 x1.Mode 0 0 0 ([] : List Z8)) .nl)] er10<|zq<|zq<|zq<|zt [[(.p (.ml 6 (zG.map ZD))), (bv zB), (iv zC)], [(.ptr 0 0)], (Zl x1 zO zW), (Z1w (Zw.mk 7 x1.Mode 0 r10.1 0 ([] : List Z8)) .nl)]<|zq<|zt [[(.p (.ml 6 (zG.map ZD))), (bv zB), (iv zC)], [(.ptr 0 0)], (Zl x1 zO zW), (Z1w (Zw.mk 7 x1.Mode 0 r10.1 r10.2 ([] : List Z8)) .nl)] ?_
         exact zk (Zab zG zB zC x1 7 x1.Mode 0 r10.1 r10.2 ([] : List Z8) zO zW .nl rfl)
        ·exact zk (Zab zG zB zC x1 7 x1.Mode 0 0 0 ([] : List Z8) zO zW .nl rfl)
       ·refine ze<|zq ?_
        refine za (x1.Kind == 8) ?_ ?_
        ·refine ze<|zq<|zq<|zi fun r11 hr11 => ?_
         obtain ⟨_, er11, _, rfl⟩ := ZgU (Zw.mk 8 0 0 0 0 ([] : List Z8)) zG zB zC x1 .sh zO zW r11 hr11
         refine zc [0, 1, 2] (.p (.tup [])) [[(.p (.ml 6 (r11.1.map ZD))), (bv zB), (iv r11.2)], [(.ptr 0 0)], (Zl x1 zO zW)] er11 ?_
         exact zr ((.p (.tup [])), [[(.p (.ml 6 (r11.1.map ZD))), (bv zB), (iv r11.2)], [(.ptr 0 0)], (Zl x1 zO zW)]) ⟨_, rfl⟩
        ·refine ze<|zq ?_
         refine za (x1.Kind == 9) ?_ ?_
         ·refine ze<|zq<|zq<|zq<|zq<|zi fun r12 hr12 => ?_
          obtain ⟨_, er12, _, rfl⟩ := Z1r (Zw.mk 6 x1.Ref 0 0 0 ([] : List Z8)) zG zB zC .sh r12 hr12
          refine zc [0] (iv r12.1) [[(.p (.ml 6 (r12.2.map ZD))), (bv zB), (iv zC)], [(.ptr 0 0)], (Zl x1 zO zW)] er12 ?_
          exact zr ((.p (.tup [])), [[(.p (.ml 6 (r12.2.map ZD))), (bv zB), (iv zC)], [(.ptr 0 0)], (Zl x1 zO zW)]) ⟨_, rfl⟩
         ·exact zr ((.p (.tup [])), [[(.p (.ml 6 (zG.map ZD))), (bv zB), (iv zC)], [(.ptr 0 0)], (Zl x1 zO zW)]) ⟨_, rfl⟩
theorem ZbS x1 zG zB zC {r} (h : Z5a x1 zG zB zC = some r) : Z1R x1 zG zB zC = some r :=
 Z1i (fun _ _ ha hb => ru_ (Z2V _) (ha .ex .ex) (hb .ex .ex)) (fun zO zW => Zhi x1 zG zB zC zO zW r h)
def Z6x (x36 : List Zk) (x37 x38 : Int) (zG : List Zw) (zB : Bool) (zC : Int) : Option ((List Zw) × Int) :=
 (lget x36 x38).bind fun a1 =>
 (Z1R a1 zG zB zC).bind fun r2 =>
 Z51 x36 x37 (IntKind.i64.wrap (x38 + 1)) r2.1 zB r2.2
theorem ZeV (x36 : List Zk) x37 x38 (zG : List Zw) zB zC ox36 : Sim (Z15 zB) (Z6x x36 x37 x38 zG zB zC) (Zrk 1 (.ptr 1 0) (ZP ox36 (x36.map ZJ)) (iv x37) (iv x38) [[(.p (.ml 6 (zG.map ZD))), (bv zB), (iv zC)], [(.ptr 0 0)]]) := by
 unfold Z6x
 refine zf (Zxo ..)<|ze<|zi fun a1 ha1 => zp (.cptr (ZI a1 .sh .sh)) (et_ (Z2v (o := ox36) (k := .i64) (n := 7) (e := ZJ) (cs := Z1Z) Z2J (fun _ => rfl) (by decide) ha1))<|zq<|zz (.ptr 2 0) [[(.p (.ml 6 (zG.map ZD))), (bv zB), (iv zC)], [(.ptr 0 0)], (Zl Z1B .nl .nl)]<|zt [[(.p (.ml 6 (zG.map ZD))), (bv zB), (iv zC)], [(.ptr 0 0)], (Zl a1 .sh .sh)]<|ze<|zq<|zq<|zi fun r2 hr2 => ?_
 obtain ⟨_, er2, _, rfl⟩ := Z2L a1 zG zB zC .sh .sh r2 hr2
 refine zc [0] (.p (.tup [])) [[(.p (.ml 6 (r2.1.map ZD))), (bv zB), (iv r2.2)], [(.ptr 0 0)], (Zl a1 .sh .sh)] er2<|ze<|zq ?_
 exact zk (Zat x36 x37 (IntKind.i64.wrap (x38 + 1)) r2.1 zB r2.2 ox36)
def Z4Z (x36 : List Zk) (x37 x38 : Int) (zG : List Zw) (zB : Bool) (zC : Int) : Option ((List Zw) × Int) :=
 if (decide (x38 < x37)) = true then
 (Z6x x36 x37 x38 zG zB zC)
 else
 (some (zG, zC))
theorem ZeU (x36 : List Zk) x37 x38 (zG : List Zw) zB zC ox36 : Sim (Z15 zB) (Z4Z x36 x37 x38 zG zB zC) (Zk0 1 (.ptr 1 0) (ZP ox36 (x36.map ZJ)) (iv x37) (iv x38) [[(.p (.ml 6 (zG.map ZD))), (bv zB), (iv zC)], [(.ptr 0 0)]]) := by
 unfold Z4Z
 refine zf (Zxn ..)<|ze<|zq ?_
 refine za (decide (x38 < x37)) ?_ ?_
 ·exact zk (ZeV x36 x37 x38 zG zB zC ox36)
 ·exact zr ((.p (.tup [])), [[(.p (.ml 6 (zG.map ZD))), (bv zB), (iv zC)], [(.ptr 0 0)]]) ⟨_, rfl⟩
theorem Zas x36 x37 x38 zG zB zC {r} (h : Z4Z x36 x37 x38 zG zB zC = some r) : Z51 x36 x37 x38 zG zB zC = some r :=
 Z1i (fun _ _ ha hb => ru_ (Z2V _) (ha .ex) (hb .ex)) (fun ox36 => ZeU x36 x37 x38 zG zB zC ox36 r h)
def Z9z (x0 : List Z8) : Option ((List Z8) × Int) :=
 (Zbl x0).bind fun r1 =>
 (okA r1.1).bind fun a2 =>
 Z7V x0 r1.2 65
theorem ZiX (x0 : List Z8) ox0 : Sim Z2R (Z9z x0) (Ztc 0 (ZP ox0 (x0.map Zv)) []) := by
 unfold Z9z
 refine zf (Zzq ..)<|ze<|zi fun r1 hr1 => ?_
 obtain ⟨_, er1, _, rfl⟩ := Zjb x0 ox0 r1 hr1
 refine zc [] (ZP r1.1 (r1.2.map Zv)) [] er1<|zi fun a2 ha2 => ze ?_
 exact zk (Zdx x0 r1.2 65 (shrO ox0) r1.1 (ZH0 ha2))
def Zbb (x0 : List Z8) : Option ((List Z8) × Int) :=
 (Z4c x0).bind fun r1 =>
 if (!r1) = true then
 (some (([] : List Z8), 10))
 else
 (Z9z x0)
theorem Zl0 (x0 : List Z8) ox0 : Sim Z2R (Zbb x0) (EE 14 [(ZP ox0 (x0.map Zv))] []) := by
 unfold Zbb
 refine zf (ZF2 ..)<|ze<|ze<|zi fun r1 hr1 => ?_
 obtain ⟨_, er1, _, rfl⟩ := Z6Q x0 .sh r1 hr1
 refine zc [] (bv r1) [] er1<|zq ?_
 refine za (!r1) ?_ ?_
 ·refine ze ?_
  exact zr ((.p (.tup [(.lst .sh []), (.v (.int .i64 10))])), []) ⟨_, rfl⟩
 ·exact zk (ZiX x0 ox0)
theorem ZlR x0 {r} (h : Zbb x0 = some r) : Z9o x0 = some r :=
 Z1i (fun _ _ ha hb => ru_ ZaG (ha .ex) (hb .ex)) (fun ox0 => Zl0 x0 ox0 r h)
def Z5h (x0 x4 : List Z8) (x5 : Int) : Option ((List Z8) × Int) :=
 Z7V x0 x4 (IntKind.i32.wrap (x5 + 1))
theorem Zd6 (x0 x4 : List Z8) x5 ox0 ox4 (hox4 : ZM ox4 = true) : Sim Z2R (Z5h x0 x4 x5) (Zpo 0 (ZP ox0 (x0.map Zv)) (ZP ox4 (x4.map Zv)) (.p (.v (.int .i32 x5))) []) := by
 unfold Z5h
 refine zf (Zzr ..)<|ze<|zq ?_
 exact zk (Zdx x0 x4 (IntKind.i32.wrap (x5 + 1)) ox0 ox4 hox4)
def Z6r (x0 x4 : List Z8) (x5 : Int) : Option ((List Z8) × Int) :=
 (lapp x4 ([(Z8.mk (IntKind.i64.wrap x5) (IntKind.i64.wrap x5)), (Z8.mk (IntKind.i64.wrap (IntKind.i32.wrap (x5 + 32))) (IntKind.i64.wrap (IntKind.i32.wrap (x5 + 32))))] : List Z8)).bind fun a1 =>
 Z5h x0 a1 x5
theorem Zd7 (x0 x4 : List Z8) x5 ox0 ox4 (hox4 : ZM ox4 = true) : Sim Z2R (Z6r x0 x4 x5) (Zpp 0 (ZP ox0 (x0.map Zv)) (ZP ox4 (x4.map Zv)) (.p (.v (.int .i32 x5))) []) := by
 unfold Z6r
 refine zf (Zzt ..)<|ze<|zq<|zq<|zq<|zq<|zq<|zq<|zq<|zq<|zq<|zi fun a1 ha1 => zp (ZP .un (a1.map Zv)) (Eq.trans (by kernel_rfl) <| Zez (n := 2) (o := ox4) (o' := .ex) (e := Zv) (ys := ([(Z8.mk (IntKind.i64.wrap x5) (IntKind.i64.wrap x5)), (Z8.mk (IntKind.i64.wrap (IntKind.i32.wrap (x5 + 32))) (IntKind.i64.wrap (IntKind.i32.wrap (x5 + 32))))] : List Z8)) (fun _ => rfl) (by decide) hox4 ha1) ?_
 exact zk (Zd6 x0 a1 x5 ox0 .un rfl)
def Z9A (x0 x4 : List Z8) (x5 : Int) : Option ((List Z8) × Int) :=
 (Z7s x0 (IntKind.i64.wrap x5)).bind fun r1 =>
 if r1 = true then
 (Z6r x0 x4 x5)
 else
 ((Z7s x0 (IntKind.i64.wrap (IntKind.i32.wrap (x5 + 32)))).bind fun r2 =>
 if r2 = true then
 (Z6r x0 x4 x5)
 else
 (Z5h x0 x4 x5))
theorem ZiY (x0 x4 : List Z8) x5 ox0 ox4 (hox4 : ZM ox4 = true) : Sim Z2R (Z9A x0 x4 x5) (Ztd 0 (ZP ox0 (x0.map Zv)) (ZP ox4 (x4.map Zv)) (.p (.v (.int .i32 x5))) []) := by
 unfold Z9A
 refine zf (Zzs ..)<|ze<|zq<|zi fun r1 hr1 => ?_
 obtain ⟨_, er1, _, rfl⟩ := Zc6 x0 (IntKind.i64.wrap x5) .sh r1 hr1
 refine zc [] (bv r1) [] er1 ?_
 refine za r1 ?_ ?_
 ·exact zk (Zd7 x0 x4 x5 ox0 ox4 hox4)
 ·refine zq<|zq<|zi fun r2 hr2 => ?_
  obtain ⟨_, er2, _, rfl⟩ := Zc6 x0 (IntKind.i64.wrap (IntKind.i32.wrap (x5 + 32))) .sh r2 hr2
  refine zc [] (bv r2) [] er2 ?_
  refine za r2 ?_ ?_
  ·exact zk (Zd7 x0 x4 x5 ox0 ox4 hox4)
  ·exact zk (Zd6 x0 x4 x5 ox0 ox4 hox4)
def Z9B (x4 : List Z8) : Option ((List Z8) × Int) :=
 (ZaO x4).bind fun r1 =>
 some (r1, 0)
theorem ZiZ (x4 : List Z8) ox4 (hox4 : ZM ox4 = true) : Sim Z2R (Z9B x4) (Zte 0 (ZP ox4 (x4.map Zv)) []) := by
 unfold Z9B
 refine zf (Zzu ..)<|ze<|zi fun r1 hr1 => ?_
 obtain ⟨_, er1, _, rfl⟩ := Zdd x4 .sh r1 hr1
 refine zc [] (ZP .sh (r1.map Zv)) [] er1 ?_
 exact zr ((.p (.tup [(.lst .sh (r1.map Zv)), (.v (.int .i64 0))])), []) ⟨_, rfl⟩
def Z7R (x0 x4 : List Z8) (x5 : Int) : Option ((List Z8) × Int) :=
 if (decide (x5 < 91)) = true then
 (Z9A x0 x4 x5)
 else
 (Z9B x4)
theorem ZiW (x0 x4 : List Z8) x5 ox0 ox4 (hox4 : ZM ox4 = true) : Sim Z2R (Z7R x0 x4 x5) (Zmd 0 (ZP ox0 (x0.map Zv)) (ZP ox4 (x4.map Zv)) (.p (.v (.int .i32 x5))) []) := by
 unfold Z7R
 refine zf (Zzp ..)<|ze<|zq ?_
 refine za (decide (x5 < 91)) ?_ ?_
 ·exact zk (ZiY x0 x4 x5 ox0 ox4 hox4)
 ·exact zk (ZiZ x4 ox4 hox4)
theorem Zdw x0 x4 x5 {r} (h : Z7R x0 x4 x5 = some r) : Z7V x0 x4 x5 = some r :=
 Z1i (fun _ _ ha hb => ru_ ZaG (ha .ex .ex rfl) (hb .ex .ex rfl)) (fun ox0 ox4 hox4 => ZiW x0 x4 x5 ox0 ox4 hox4 r h)
def Z8z (x1 : List Zk) (zG : List Zw) (zB : Bool) (zC : Int) : Option ((List Zw) × Int) :=
 (lsl x1 0 (IntKind.i64.wrap ((x1.length : Int) - 1))).bind fun a1 =>
 Z5P x1 ([] : List Int) (IntKind.i64.wrap ((x1.length : Int) - 1)) a1 (a1.length : Int) 0 zG zB zC
theorem ZhS (x1 : List Zk) (zG : List Zw) zB zC ox1 : Sim (Z15 zB) (Z8z x1 zG zB zC) (EE 40 [(.ptr 0 0), (ZP ox1 (x1.map ZJ))] [[(.p (.ml 6 (zG.map ZD))), (bv zB), (iv zC)]]) := by
 unfold Z8z
 refine zf (ZFG ..)<|ze<|ze<|zp (iv (x1.length : Int)) (et_ (Z30 (P := PP) (t := 29) (d := 31) (by kernel_rfl) ZJ (shrO ox1) x1))<|zq<|ze<|zi fun a1 ha1 => zp (ZP (slO (shrO ox1)) (a1.map ZJ)) (Eq.trans (by kernel_rfl) <| ZvV (n := 7) (o := (shrO ox1)) (lo := none) (hi := (some (iv (IntKind.i64.wrap ((x1.length : Int) - 1))))) (e := ZJ) Zg2 (by decide) (by kernel_rfl) (by kernel_rfl) ha1)<|zp (iv (a1.length : Int)) (et_ (Z30 (P := PP) (t := 29) (d := 31) (by kernel_rfl) ZJ (slO (shrO ox1)) a1)) ?_
 exact zk (Zb4 x1 ([] : List Int) (IntKind.i64.wrap ((x1.length : Int) - 1)) a1 (a1.length : Int) 0 zG zB zC ox1 .nl (slO (shrO ox1)) rfl)
theorem ZiA x1 zG zB zC {r} (h : Z8z x1 zG zB zC = some r) : Z6U x1 zG zB zC = some r :=
 Z1i (fun _ _ ha hb => ru_ (Z2V _) (ha .ex) (hb .ex)) (fun ox1 => ZhS x1 zG zB zC ox1 r h)
def Z7i (x1 : List Zk) (x4 : List Int) (x5 : Int) (x16 : List Zk) (x17 x18 : Int) (zG : List Zw) (zB : Bool) (zC : Int) : Option ((List Zw) × Int) :=
 (lget x16 x18).bind fun a1 =>
 (Z1k (Zw.mk 3 0 0 0 0 ([] : List Z8)) zG).bind fun r2 =>
 (Z1R a1 r2.2 zB zC).bind fun r3 =>
 (Z1k (Zw.mk 2 0 0 0 0 ([] : List Z8)) r3.1).bind fun r4 =>
 (lapp x4 ([r4.1] : List Int)).bind fun a5 =>
 (Z4S r2.1 (IntKind.i64.wrap (r2.1 + 1)) (r4.2.length : Int) false r4.2).bind fun r6 =>
 Z5P x1 a5 x5 x16 x17 (IntKind.i64.wrap (x18 + 1)) r6 zB r3.2
theorem ZfR (x1 : List Zk) (x4 : List Int) x5 (x16 : List Zk) x17 x18 (zG : List Zw) zB zC ox1 ox4 ox16 (hox4 : ZM ox4 = true) : Sim (Z15 zB) (Z7i x1 x4 x5 x16 x17 x18 zG zB zC) (ZtO 1 (.ptr 0 0) (ZP ox1 (x1.map ZJ)) (ZP ox4 (x4.map (eI .i64))) (iv x5) (ZP ox16 (x16.map ZJ)) (iv x17) (iv x18) [[(.p (.ml 6 (zG.map ZD))), (bv zB), (iv zC)]]) := by
 unfold Z7i
 refine zf (ZA4 ..)<|ze<|zi fun a1 ha1 => zp (.cptr (ZI a1 .sh .sh)) (et_ (Z2v (o := ox16) (k := .i64) (n := 7) (e := ZJ) (cs := Z1Z) Z2J (fun _ => rfl) (by decide) ha1))<|zq<|zz (.ptr 1 0) [[(.p (.ml 6 (zG.map ZD))), (bv zB), (iv zC)], (Zl Z1B .nl .nl)]<|zt [[(.p (.ml 6 (zG.map ZD))), (bv zB), (iv zC)], (Zl a1 .sh .sh)]<|ze<|zq<|zi fun r2 hr2 => ?_
 obtain ⟨_, er2, _, rfl⟩ := Z1r (Zw.mk 3 0 0 0 0 ([] : List Z8)) zG zB zC .sh r2 hr2
 refine zc [0] (iv r2.1) [[(.p (.ml 6 (r2.2.map ZD))), (bv zB), (iv zC)], (Zl a1 .sh .sh)] er2<|ze<|zq<|zi fun r3 hr3 => ?_
 obtain ⟨_, er3, _, rfl⟩ := Z2L a1 r2.2 zB zC .sh .sh r3 hr3
 refine zc [0] (.p (.tup [])) [[(.p (.ml 6 (r3.1.map ZD))), (bv zB), (iv r3.2)], (Zl a1 .sh .sh)] er3<|ze<|zq<|zi fun r4 hr4 => ?_
 obtain ⟨_, er4, _, rfl⟩ := Z1r (Zw.mk 2 0 0 0 0 ([] : List Z8)) r3.1 zB r3.2 .sh r4 hr4
 refine zc [0] (iv r4.1) [[(.p (.ml 6 (r4.2.map ZD))), (bv zB), (iv r3.2)], (Zl a1 .sh .sh)] er4<|zq<|zi fun a5 ha5 => zp (ZP .un (a5.map (eI .i64))) (Eq.trans (by kernel_rfl) <| Zez (n := 1) (o := ox4) (o' := .ex) (e := (eI .i64)) (ys := ([r4.1] : List Int)) (fun _ => rfl) (by decide) hox4 ha5)<|ze<|zq<|zq<|zq<|zq<|zp (iv (r4.2.length : Int)) (et_ (ZbE (P := PP) (t := 23) (d := 40) (by kernel_rfl) ZD r4.2))<|zi fun r6 hr6 => ?_
 obtain ⟨_, er6, _, rfl⟩ := Z8J r2.1 (IntKind.i64.wrap (r2.1 + 1)) (r4.2.length : Int) false r4.2 zB r3.2 r6 hr6
 refine zc [0] (.p (.tup [])) [[(.p (.ml 6 (r6.map ZD))), (bv zB), (iv r3.2)], (Zl a1 .sh .sh)] er6<|ze<|zq ?_
 exact zk (Zb4 x1 a5 x5 x16 x17 (IntKind.i64.wrap (x18 + 1)) r6 zB r3.2 ox1 .un ox16 rfl)
def Z5o (x1 : List Zk) (x4 : List Int) (x5 : Int) (zG : List Zw) (zB : Bool) (zC : Int) : Option ((List Zw) × Int) :=
 (lget x1 x5).bind fun a1 =>
 (Z1R a1 zG zB zC).bind fun r2 =>
 Z5t x4 (x4.length : Int) 0 r2.1 r2.2
theorem Zfs (x1 : List Zk) (x4 : List Int) x5 (zG : List Zw) zB zC ox1 ox4 (hox4 : ZM ox4 = true) : Sim (Z15 zB) (Z5o x1 x4 x5 zG zB zC) (Zrl 1 (.ptr 0 0) (ZP ox1 (x1.map ZJ)) (ZP ox4 (x4.map (eI .i64))) (iv x5) [[(.p (.ml 6 (zG.map ZD))), (bv zB), (iv zC)]]) := by
 unfold Z5o
 refine zf (Zxs ..)<|ze<|zi fun a1 ha1 => zp (.cptr (ZI a1 .sh .sh)) (et_ (Z2v (o := (shrO ox1)) (k := .i64) (n := 7) (e := ZJ) (cs := Z1Z) Z2J (fun _ => rfl) (by decide) ha1))<|zq<|zi fun r2 hr2 => ?_
 obtain ⟨_, er2, _, rfl⟩ := Z2L a1 zG zB zC .sh .sh r2 hr2
 refine zc [0] (.p (.tup [])) [[(.p (.ml 6 (r2.1.map ZD))), (bv zB), (iv r2.2)]] er2<|ze<|zp (iv (x4.length : Int)) (et_ (Z30 (P := PP) (t := 96) (d := 3) (by kernel_rfl) (eI .i64) (shrO ox4) x4)) ?_
 exact zk (ZaY x4 (x4.length : Int) 0 r2.1 zB r2.2 (shrO ox4))
def Z5N (x1 : List Zk) (x4 : List Int) (x5 : Int) (x16 : List Zk) (x17 x18 : Int) (zG : List Zw) (zB : Bool) (zC : Int) : Option ((List Zw) × Int) :=
 if (decide (x18 < x17)) = true then
 (Z7i x1 x4 x5 x16 x17 x18 zG zB zC)
 else
 (Z5o x1 x4 x5 zG zB zC)
theorem ZfQ (x1 : List Zk) (x4 : List Int) x5 (x16 : List Zk) x17 x18 (zG : List Zw) zB zC ox1 ox4 ox16 (hox4 : ZM ox4 = true) : Sim (Z15 zB) (Z5N x1 x4 x5 x16 x17 x18 zG zB zC) (Zmn 1 (.ptr 0 0) (ZP ox1 (x1.map ZJ)) (ZP ox4 (x4.map (eI .i64))) (iv x5) (ZP ox16 (x16.map ZJ)) (iv x17) (iv x18) [[(.p (.ml 6 (zG.map ZD))), (bv zB), (iv zC)]]) := by
 unfold Z5N
 refine zf (ZA3 ..)<|ze<|zq ?_
 refine za (decide (x18 < x17)) ?_ ?_
 ·exact zk (ZfR x1 x4 x5 x16 x17 x18 zG zB zC ox1 ox4 ox16 hox4)
 ·exact zk (Zfs x1 x4 x5 zG zB zC ox1 ox4 hox4)
theorem Zb3 x1 x4 x5 x16 x17 x18 zG zB zC {r} (h : Z5N x1 x4 x5 x16 x17 x18 zG zB zC = some r) : Z5P x1 x4 x5 x16 x17 x18 zG zB zC = some r :=
 Z1i (fun _ _ ha hb => ru_ (Z2V _) (ha .ex .ex .ex rfl) (hb .ex .ex .ex rfl)) (fun ox1 ox4 ox16 hox4 => ZfQ x1 x4 x5 x16 x17 x18 zG zB zC ox1 ox4 ox16 hox4 r h)
def Z71 (x51 : List Int) (x52 x53 : Int) (zG : List Zw) (zC : Int) : Option ((List Zw) × Int) :=
 (lget x51 x53).bind fun a1 =>
 (lget zG a1).bind fun a2 =>
 (lget zG a1).bind fun a3 =>
 Z5t x51 x52 (IntKind.i64.wrap (x53 + 1)) (lset zG a1 (Zw.mk a3.Op (zG.length : Int) a3.B a3.C a3.D a3.Set)) zC
theorem Zft (x51 : List Int) x52 x53 (zG : List Zw) zB zC ox51 : Sim (Z15 zB) (Z71 x51 x52 x53 zG zC) (Zrm 1 (.ptr 0 0) (ZP ox51 (x51.map (eI .i64))) (iv x52) (iv x53) [[(.p (.ml 6 (zG.map ZD))), (bv zB), (iv zC)]]) := by
 unfold Z71
 refine zf (Zxt ..)<|ze<|zi fun a1 ha1 => zp (.cptr [(.v (.int .i64 a1))]) (et_ (Z2v (o := ox51) (k := .i64) (n := 1) (e := (eI .i64)) (cs := (fun a => [(eI .i64) a])) (fun _ => rfl) (fun _ => rfl) (by decide) ha1))<|zq<|ze<|zq<|zq<|zq<|zq<|zq<|zq<|zp (iv (zG.length : Int)) (et_ (ZbE (P := PP) (t := 23) (d := 40) (by kernel_rfl) ZD zG))<|zi fun a2 ha2 => zp (.p (.jnk (.ep 0 0 6 (Int.toNat a1) 0))) (et_ (Zkv (e := ZD) (n := 6) (id := 0) (off := 0) (k := .i64) (by decide) ha2))<|zq<|zi fun a3 ha3 => zb [[(.p (.ml 6 ((lset zG a1 (Zw.mk a3.Op (zG.length : Int) a3.B a3.C a3.D a3.Set)).map ZD))), (bv zB), (iv zC)]] (Eq.trans (b := stEl 1 (.p (.jnk (.ep 0 0 6 (Int.toNat a1) 1))) (iv (zG.length : Int)) [[(.p (.ml 6 (zG.map ZD))), (bv zB), (iv zC)]]) (by kernel_rfl) (Zih (e := ZD) (row := [(.p (.ml 6 (zG.map ZD))), (bv zB), (iv zC)]) (n := 6) (l := zG) (a' := (Zw.mk a3.Op (zG.length : Int) a3.B a3.C a3.D a3.Set)) (by kernel_rfl) ha3 (by kernel_rfl) (by kernel_rfl)))<|ze<|zq ?_
 exact zk (ZaY x51 x52 (IntKind.i64.wrap (x53 + 1)) (lset zG a1 (Zw.mk a3.Op (zG.length : Int) a3.B a3.C a3.D a3.Set)) zB zC ox51)
def Z5n (x51 : List Int) (x52 x53 : Int) (zG : List Zw) (zC : Int) : Option ((List Zw) × Int) :=
 if (decide (x53 < x52)) = true then
 (Z71 x51 x52 x53 zG zC)
 else
 (some (zG, zC))
theorem Zfr (x51 : List Int) x52 x53 (zG : List Zw) zB zC ox51 : Sim (Z15 zB) (Z5n x51 x52 x53 zG zC) (Zk2 1 (.ptr 0 0) (ZP ox51 (x51.map (eI .i64))) (iv x52) (iv x53) [[(.p (.ml 6 (zG.map ZD))), (bv zB), (iv zC)]]) := by
 unfold Z5n
 refine zf (Zxr ..)<|ze<|zq ?_
 refine za (decide (x53 < x52)) ?_ ?_
 ·exact zk (Zft x51 x52 x53 zG zB zC ox51)
 ·exact zr ((.p (.tup [])), [[(.p (.ml 6 (zG.map ZD))), (bv zB), (iv zC)]]) ⟨_, rfl⟩
theorem ZaX x51 x52 x53 zG zC {r} (h : Z5n x51 x52 x53 zG zC = some r) : Z5t x51 x52 x53 zG zC = some r :=
 Z1i (fun _ _ ha hb => ru_ (Z2V _) (ha default .ex) (hb default .ex)) (fun zB ox51 => Zfr x51 x52 x53 zG zB zC ox51 r h)
def Z50 (x1 x2 x3 : Int) (zG : List Zw) : Option (List Zw) :=
 (lget zG x1).bind fun a1 =>
 (lget zG x1).bind fun a2 =>
 (lget zG x1).bind fun a3 =>
 (lget (lset zG x1 (Zw.mk a2.Op x2 a2.B a2.C a2.D a2.Set)) x1).bind fun a4 =>
 some (lset (lset zG x1 (Zw.mk a2.Op x2 a2.B a2.C a2.D a2.Set)) x1 (Zw.mk a4.Op a4.A x3 a4.C a4.D a4.Set))
theorem Zae x1 x2 x3 (zG : List Zw) zB zC : Sim (Z6d zB zC) (Z50 x1 x2 x3 zG) (ZpS 1 (.ptr 0 0) (iv x1) (iv x2) (iv x3) [[(.p (.ml 6 (zG.map ZD))), (bv zB), (iv zC)]]) := by
 unfold Z50
 refine zf (ZAm ..)<|ze<|zq<|zq<|zq<|zq<|zq<|zq<|zi fun a1 ha1 => zp (.p (.jnk (.ep 0 0 6 (Int.toNat x1) 0))) (et_ (Zkv (e := ZD) (n := 6) (id := 0) (off := 0) (k := .i64) (by decide) ha1))<|zq<|zi fun a2 ha2 => zb [[(.p (.ml 6 ((lset zG x1 (Zw.mk a2.Op x2 a2.B a2.C a2.D a2.Set)).map ZD))), (bv zB), (iv zC)]] (Eq.trans (b := stEl 1 (.p (.jnk (.ep 0 0 6 (Int.toNat x1) 1))) (iv x2) [[(.p (.ml 6 (zG.map ZD))), (bv zB), (iv zC)]]) (by kernel_rfl) (Zih (e := ZD) (row := [(.p (.ml 6 (zG.map ZD))), (bv zB), (iv zC)]) (n := 6) (l := zG) (a' := (Zw.mk a2.Op x2 a2.B a2.C a2.D a2.Set)) (by kernel_rfl) ha2 (by kernel_rfl) (by kernel_rfl)))<|zi fun a3 ha3 => zp (.p (.jnk (.ep 0 0 6 (Int.toNat x1) 0))) (et_ (Zkv (e := ZD) (n := 6) (id := 0) (off := 0) (k := .i64) (by decide) ha3))<|zq<|zi fun a4 ha4 => zb [[(.p (.ml 6 ((lset (lset zG x1 (Zw.mk a2.Op x2 a2.B a2.C a2.D a2.Set)) x1 (Zw.mk a4.Op a4.A x3 a4.C a4.D a4.Set)).map ZD))), (bv zB), (iv zC)]] (Eq.trans (b := stEl 1 (.p (.jnk (.ep 0 0 6 (Int.toNat x1) 2))) (iv x3) [[(.p (.ml 6 ((lset zG x1 (Zw.mk a2.Op x2 a2.B a2.C a2.D a2.Set)).map ZD))), (bv zB), (iv zC)]]) (by kernel_rfl) (Zih (e := ZD) (row := [(.p (.ml 6 ((lset zG x1 (Zw.mk a2.Op x2 a2.B a2.C a2.D a2.Set)).map ZD))), (bv zB), (iv zC)]) (n := 6) (l := (lset zG x1 (Zw.mk a2.Op x2 a2.B a2.C a2.D a2.Set))) (a' := (Zw.mk a4.Op a4.A x3 a4.C a4.D a4.Set)) (by kernel_rfl) ha4 (by kernel_rfl) (by kernel_rfl))) ?_
 exact zr ((.p (.tup [])), [[(.p (.ml 6 ((lset (lset zG x1 (Zw.mk a2.Op x2 a2.B a2.C a2.D a2.Set)) x1 (Zw.mk a4.Op a4.A x3 a4.C a4.D a4.Set)).map ZD))), (bv zB), (iv zC)]]) ⟨_, rfl⟩
def Z7N (x1 x2 x3 : Int) (x4 : Bool) (zG : List Zw) : Option (List Zw) :=
 if x4 = true then
 (Z50 x1 x3 x2 zG)
 else
 (Z50 x1 x2 x3 zG)
theorem ZgQ x1 x2 x3 x4 (zG : List Zw) zB zC : Sim (Z6d zB zC) (Z7N x1 x2 x3 x4 zG) (EE 58 [(.ptr 0 0), (iv x1), (iv x2), (iv x3), (bv x4)] [[(.p (.ml 6 (zG.map ZD))), (bv zB), (iv zC)]]) := by
 unfold Z7N
 refine zf (ZG5 ..)<|ze ?_
 refine za x4 ?_ ?_
 ·refine ze ?_
  exact zk (Zae x1 x3 x2 zG zB zC)
 ·exact zk (Zae x1 x2 x3 zG zB zC)
theorem Zhj x1 x2 x3 x4 zG {r} (h : Z7N x1 x2 x3 x4 zG = some r) : Z4S x1 x2 x3 x4 zG = some r :=
 Z1i (fun _ _ ha hb => ru_ (Zhv _ _) (ha default default) (hb default default)) (fun zB zC => ZgQ x1 x2 x3 x4 zG zB zC r h)
def Z7n (x1 : Zw) (zG : List Zw) (zB : Bool) (zC : Int) (b2 : Zk) : Option ((List Zw) × Int) :=
 (Z1k x1 zG).bind fun r1 =>
 (Z7v b2 r1.2 zB zC).bind fun r2 =>
 (Z1k (Zw.mk 9 0 0 0 0 ([] : List Z8)) r2.1).bind fun r3 =>
 (lget r3.2 r1.1).bind fun a4 =>
 (lget r3.2 r1.1).bind fun a5 =>
 some ((lset r3.2 r1.1 (Zw.mk a5.Op a5.A (r3.2.length : Int) a5.C a5.D a5.Set)), r2.2)
theorem ZfW x1 (zG : List Zw) zB zC b2 zO z19 zZ : Sim (Z3v zB b2 z19 zZ) (Z7n x1 zG zB zC b2) (EE 41 [(.ptr 0 0), (pA_ (Z1m x1 zO)), (.clo 42 [] [(.ptr 1 0), (.ptr 2 0)])] [[(.p (.ml 6 (zG.map ZD))), (bv zB), (iv zC)], [(.ptr 0 0)], (Zl b2 z19 zZ)]) := by
 unfold Z7n
 refine zf (ZtP ..)<|ze<|zx (.ptr 3 0) [[(.p (.ml 6 (zG.map ZD))), (bv zB), (iv zC)], [(.ptr 0 0)], (Zl b2 z19 zZ), (Z1w x1 zO)]<|ze<|zq<|zi fun r1 hr1 => ?_
 obtain ⟨_, er1, _, rfl⟩ := Z1r x1 zG zB zC .sh r1 hr1
 refine zc [0] (iv r1.1) [[(.p (.ml 6 (r1.2.map ZD))), (bv zB), (iv zC)], [(.ptr 0 0)], (Zl b2 z19 zZ), (Z1w x1 zO)] er1<|ze<|zi fun r2 hr2 => ?_
 obtain ⟨_, er2, _, rfl⟩ := ZgK b2 r1.2 zB zC z19 zZ r2 hr2
 refine zv [1, 2, 0] (.p (.tup [])) [[(.p (.ml 6 (r2.1.map ZD))), (bv zB), (iv r2.2)], [(.ptr 0 0)], (Zl b2 z19 zZ), (Z1w x1 zO)] er2<|ze<|zq<|zi fun r3 hr3 => ?_
 obtain ⟨_, er3, _, rfl⟩ := Z1r (Zw.mk 9 0 0 0 0 ([] : List Z8)) r2.1 zB r2.2 .sh r3 hr3
 refine zc [0] (iv r3.1) [[(.p (.ml 6 (r3.2.map ZD))), (bv zB), (iv r2.2)], [(.ptr 0 0)], (Zl b2 z19 zZ), (Z1w x1 zO)] er3<|ze<|zq<|zq<|zq<|zq<|zq<|zq<|zp (iv (r3.2.length : Int)) (et_ (ZbE (P := PP) (t := 23) (d := 40) (by kernel_rfl) ZD r3.2))<|zi fun a4 ha4 => zp (.p (.jnk (.ep 0 0 6 (Int.toNat r1.1) 0))) (et_ (Zkv (e := ZD) (n := 6) (id := 0) (off := 0) (k := .i64) (by decide) ha4))<|zq<|zi fun a5 ha5 => zb [[(.p (.ml 6 ((lset r3.2 r1.1 (Zw.mk a5.Op a5.A (r3.2.length : Int) a5.C a5.D a5.Set)).map ZD))), (bv zB), (iv r2.2)], [(.ptr 0 0)], (Zl b2 z19 zZ), (Z1w x1 zO)] (Eq.trans (b := stEl 1 (.p (.jnk (.ep 0 0 6 (Int.toNat r1.1) 2))) (iv (r3.2.length : Int)) [[(.p (.ml 6 (r3.2.map ZD))), (bv zB), (iv r2.2)], [(.ptr 0 0)], (Zl b2 z19 zZ), (Z1w x1 zO)]) (by kernel_rfl) (Zih (e := ZD) (row := [(.p (.ml 6 (r3.2.map ZD))), (bv zB), (iv r2.2)]) (n := 6) (l := r3.2) (a' := (Zw.mk a5.Op a5.A (r3.2.length : Int) a5.C a5.D a5.Set)) (by kernel_rfl) ha5 (by kernel_rfl) (by kernel_rfl))) ?_
 exact zr ((.p (.tup [])), [[(.p (.ml 6 ((lset r3.2 r1.1 (Zw.mk a5.Op a5.A (r3.2.length : Int) a5.C a5.D a5.Set)).map ZD))), (bv zB), (iv r2.2)], [(.ptr 0 0)], (Zl b2 z19 zZ), (Z1w x1 zO)]) ⟨_, rfl⟩
theorem ZgR x1 zG zB zC b2 {r} (h : Z7n x1 zG zB zC b2 = some r) : Z4E x1 zG zB zC b2 = some r :=
 Z1i (fun _ _ ha hb => ru_ (Z8I _ _ _ _) (ha .ex .ex .ex) (hb .ex .ex .ex)) (fun zO z19 zZ => ZfW x1 zG zB zC b2 zO z19 zZ r h)
def Z7j (b1 : Zk) (z2X : List Zw) (z1M : Bool) (z2h : Int) : Option ((List Zw) × Int) :=
 (Z4B b1 z2X z1M z2h).bind fun r1 =>
 some (r1.1, r1.2)
theorem ZfS b1 (z2X : List Zw) z1M z2h zH zE : Sim (Z3u b1 z1M zH zE) (Z7j b1 z2X z1M z2h) (EE 42 [(.ptr 0 0), (.ptr 1 0)] [[(.ptr 2 0)], (Zl b1 zH zE), [(.p (.ml 6 (z2X.map ZD))), (bv z1M), (iv z2h)]]) := by
 unfold Z7j
 refine zf (ZFK ..)<|ze<|zq<|zq<|zi fun r1 hr1 => ?_
 obtain ⟨_, er1, _, rfl⟩ := Zb5 b1 z2X z1M z2h .sh .sh r1 hr1
 refine zc [2] (.p (.tup [])) [[(.ptr 2 0)], (Zl b1 zH zE), [(.p (.ml 6 (r1.1.map ZD))), (bv z1M), (iv r1.2)]] er1 ?_
 exact zr ((.p (.tup [])), [[(.ptr 2 0)], (Zl b1 zH zE), [(.p (.ml 6 (r1.1.map ZD))), (bv z1M), (iv r1.2)]]) ⟨_, rfl⟩
theorem ZgJ b1 z2X z1M z2h {r} (h : Z7j b1 z2X z1M z2h = some r) : Z7v b1 z2X z1M z2h = some r :=
 Z1i (fun _ _ ha hb => ru_ (Z8H _ _ _ _) (ha .ex .ex) (hb .ex .ex)) (fun zH zE => ZfS b1 z2X z1M z2h zH zE r h)
def Z7m (x1 : Zk) (zG : List Zw) (zB : Bool) (zC : Int) : Option ((List Zw) × Int) :=
 Z4N (x1.Mode == 1) x1.Lo 0 zG zB zC x1
theorem ZfV x1 (zG : List Zw) zB zC zO zW : Sim (Z15 zB) (Z7m x1 zG zB zC) (EE 43 [(.ptr 0 0), (pA_ (ZI x1 zO zW))] [[(.p (.ml 6 (zG.map ZD))), (bv zB), (iv zC)]]) := by
 unfold Z7m
 refine zf (ZFL ..)<|ze<|zx (.ptr 1 0) [[(.p (.ml 6 (zG.map ZD))), (bv zB), (iv zC)], (Zl x1 zO zW)]<|ze<|zq<|zq<|zq<|ze<|zq<|zq ?_
 exact zk (Zad (x1.Mode == 1) x1.Lo 0 zG zB zC x1 zO zW)
theorem ZgP x1 zG zB zC {r} (h : Z7m x1 zG zB zC = some r) : Z4B x1 zG zB zC = some r :=
 Z1i (fun _ _ ha hb => ru_ (Z2V _) (ha .ex .ex) (hb .ex .ex)) (fun zO zW => ZfV x1 zG zB zC zO zW r h)
def Z60 (x4 : Bool) (zG : List Zw) (zB : Bool) (zC : Int) (b1 : Zk) : Option ((List Zw) × Int) :=
 Z4C x4 ([] : List Int) (IntKind.i64.wrap (b1.Hi - b1.Lo)) 0 zG zB zC b1
theorem Ze0 x4 (zG : List Zw) zB zC b1 zH zE : Sim (Z15 zB) (Z60 x4 zG zB zC b1) (Zrn 1 (.ptr 0 0) (.ptr 1 0) (bv x4) [[(.p (.ml 6 (zG.map ZD))), (bv zB), (iv zC)], (Zl b1 zH zE)]) := by
 unfold Z60
 refine zf (Zxw ..)<|ze<|ze<|zq<|zq<|zq<|zq<|zq ?_
 exact zk (Z9J x4 ([] : List Int) (IntKind.i64.wrap (b1.Hi - b1.Lo)) 0 zG zB zC b1 .nl zH zE rfl)
def Z3x (x4 : Bool) (zG : List Zw) (zB : Bool) (zC : Int) (b1 : Zk) : Option ((List Zw) × Int) :=
 if (decide (b1.Hi < 0)) = true then
 ((lget b1.Kids 0).bind fun a1 =>
 (Z8f a1 x4 zG zB zC).bind fun r2 =>
 some (r2.1, r2.2))
 else
 (Z60 x4 zG zB zC b1)
theorem Z9M x4 (zG : List Zw) zB zC b1 zH zE : Sim (Z15 zB) (Z3x x4 zG zB zC b1) (ZpJ 1 (.ptr 0 0) (.ptr 1 0) (bv x4) [[(.p (.ml 6 (zG.map ZD))), (bv zB), (iv zC)], (Zl b1 zH zE)]) := by
 unfold Z3x
 refine zf (ZA9 ..)<|ze<|zq<|zq<|zq ?_
 refine za (decide (b1.Hi < 0)) ?_ ?_
 ·refine ze<|zq<|zq<|zi fun a1 ha1 => zp (.cptr (ZI a1 .sh .sh)) (et_ (Z2v (o := (shrO zE)) (k := .i64) (n := 7) (e := ZJ) (cs := Z1Z) Z2J (fun _ => rfl) (by decide) ha1))<|zq<|zi fun r2 hr2 => ?_
  obtain ⟨_, er2, _, rfl⟩ := ZhU a1 x4 zG zB zC .sh .sh r2 hr2
  refine zc [0] (.p (.tup [])) [[(.p (.ml 6 (r2.1.map ZD))), (bv zB), (iv r2.2)], (Zl b1 zH zE)] er2 ?_
  exact zr ((.p (.tup [])), [[(.p (.ml 6 (r2.1.map ZD))), (bv zB), (iv r2.2)], (Zl b1 zH zE)]) ⟨_, rfl⟩
 ·exact zk (Ze0 x4 zG zB zC b1 zH zE)
def Z6m (x4 : Bool) (x13 x14 : Int) (zG : List Zw) (zB : Bool) (zC : Int) (b1 : Zk) : Option ((List Zw) × Int) :=
 Z4N x4 x13 (IntKind.i64.wrap (x14 + 1)) zG zB zC b1
theorem ZeG x4 x13 x14 (zG : List Zw) zB zC b1 zH zE : Sim (Z15 zB) (Z6m x4 x13 x14 zG zB zC b1) (ZtU 1 (.ptr 0 0) (.ptr 1 0) (bv x4) (iv x13) (iv x14) [[(.p (.ml 6 (zG.map ZD))), (bv zB), (iv zC)], (Zl b1 zH zE)]) := by
 unfold Z6m
 refine zf (ZA8 ..)<|ze<|zq ?_
 exact zk (Zad x4 x13 (IntKind.i64.wrap (x14 + 1)) zG zB zC b1 zH zE)
def Z6l (x4 : Bool) (x13 x14 : Int) (zG : List Zw) (zB : Bool) (zC : Int) (b1 : Zk) : Option ((List Zw) × Int) :=
 (lget b1.Kids 0).bind fun a1 =>
 (Z1R a1 zG zB zC).bind fun r2 =>
 if ((r2.1.length : Int) == (zG.length : Int)) = true then
 (Z3x x4 r2.1 zB r2.2 b1)
 else
 (Z6m x4 x13 x14 r2.1 zB r2.2 b1)
theorem ZeF x4 x13 x14 (zG : List Zw) zB zC b1 zH zE : Sim (Z15 zB) (Z6l x4 x13 x14 zG zB zC b1) (ZtT 1 (.ptr 0 0) (.ptr 1 0) (bv x4) (iv x13) (iv x14) [[(.p (.ml 6 (zG.map ZD))), (bv zB), (iv zC)], (Zl b1 zH zE)]) := by
 unfold Z6l
 refine zf (ZA7 ..)<|ze<|zq<|zq<|zq<|zp (iv (zG.length : Int)) (et_ (ZbE (P := PP) (t := 23) (d := 40) (by kernel_rfl) ZD zG))<|ze<|zq<|zq<|zi fun a1 ha1 => zp (.cptr (ZI a1 .sh .sh)) (et_ (Z2v (o := (shrO zE)) (k := .i64) (n := 7) (e := ZJ) (cs := Z1Z) Z2J (fun _ => rfl) (by decide) ha1))<|zq<|zi fun r2 hr2 => ?_
 obtain ⟨_, er2, _, rfl⟩ := Z2L a1 zG zB zC .sh .sh r2 hr2
 refine zc [0] (.p (.tup [])) [[(.p (.ml 6 (r2.1.map ZD))), (bv zB), (iv r2.2)], (Zl b1 zH zE)] er2<|ze<|zq<|zq<|zq<|zp (iv (r2.1.length : Int)) (et_ (ZbE (P := PP) (t := 23) (d := 40) (by kernel_rfl) ZD r2.1))<|zq ?_
 refine za ((r2.1.length : Int) == (zG.length : Int)) ?_ ?_
 ·exact zk (Z9M x4 r2.1 zB r2.2 b1 zH zE)
 ·exact zk (ZeG x4 x13 x14 r2.1 zB r2.2 b1 zH zE)
def Z4L (x4 : Bool) (x13 x14 : Int) (zG : List Zw) (zB : Bool) (zC : Int) (b1 : Zk) : Option ((List Zw) × Int) :=
 if (decide (x14 < x13)) = true then
 (Z6l x4 x13 x14 zG zB zC b1)
 else
 (Z3x x4 zG zB zC b1)
theorem ZeE x4 x13 x14 (zG : List Zw) zB zC b1 zH zE : Sim (Z15 zB) (Z4L x4 x13 x14 zG zB zC b1) (Zmo 1 (.ptr 0 0) (.ptr 1 0) (bv x4) (iv x13) (iv x14) [[(.p (.ml 6 (zG.map ZD))), (bv zB), (iv zC)], (Zl b1 zH zE)]) := by
 unfold Z4L
 refine zf (ZA6 ..)<|ze<|zq ?_
 refine za (decide (x14 < x13)) ?_ ?_
 ·exact zk (ZeF x4 x13 x14 zG zB zC b1 zH zE)
 ·exact zk (Z9M x4 zG zB zC b1 zH zE)
theorem Zac x4 x13 x14 zG zB zC b1 {r} (h : Z4L x4 x13 x14 zG zB zC b1 = some r) : Z4N x4 x13 x14 zG zB zC b1 = some r :=
 Z1i (fun _ _ ha hb => ru_ (Z2V _) (ha .ex .ex) (hb .ex .ex)) (fun zH zE => ZeE x4 x13 x14 zG zB zC b1 zH zE r h)
def Z61 (x4 : Bool) (x6 : List Int) (x49 x50 : Int) (zG : List Zw) (zB : Bool) (zC : Int) (b1 : Zk) : Option ((List Zw) × Int) :=
 (Z1k (Zw.mk 3 0 0 0 0 ([] : List Z8)) zG).bind fun r1 =>
 (lapp x6 ([r1.1] : List Int)).bind fun a2 =>
 (lget b1.Kids 0).bind fun a3 =>
 (Z1R a3 r1.2 zB zC).bind fun r4 =>
 Z4C x4 a2 x49 (IntKind.i64.wrap (x50 + 1)) r4.1 zB r4.2 b1
theorem Ze1 x4 (x6 : List Int) x49 x50 (zG : List Zw) zB zC b1 ox6 zH zE (hox6 : ZM ox6 = true) : Sim (Z15 zB) (Z61 x4 x6 x49 x50 zG zB zC b1) (Zro 1 (.ptr 0 0) (.ptr 1 0) (bv x4) (ZP ox6 (x6.map (eI .i64))) (iv x49) (iv x50) [[(.p (.ml 6 (zG.map ZD))), (bv zB), (iv zC)], (Zl b1 zH zE)]) := by
 unfold Z61
 refine zf (Zxx ..)<|ze<|zq<|zi fun r1 hr1 => ?_
 obtain ⟨_, er1, _, rfl⟩ := Z1r (Zw.mk 3 0 0 0 0 ([] : List Z8)) zG zB zC .sh r1 hr1
 refine zc [0] (iv r1.1) [[(.p (.ml 6 (r1.2.map ZD))), (bv zB), (iv zC)], (Zl b1 zH zE)] er1<|zq<|zi fun a2 ha2 => zp (ZP .un (a2.map (eI .i64))) (Eq.trans (by kernel_rfl) <| Zez (n := 1) (o := ox6) (o' := .ex) (e := (eI .i64)) (ys := ([r1.1] : List Int)) (fun _ => rfl) (by decide) hox6 ha2)<|ze<|zq<|zq<|zi fun a3 ha3 => zp (.cptr (ZI a3 .sh .sh)) (et_ (Z2v (o := (shrO zE)) (k := .i64) (n := 7) (e := ZJ) (cs := Z1Z) Z2J (fun _ => rfl) (by decide) ha3))<|zq<|zi fun r4 hr4 => ?_
 obtain ⟨_, er4, _, rfl⟩ := Z2L a3 r1.2 zB zC .sh .sh r4 hr4
 refine zc [0] (.p (.tup [])) [[(.p (.ml 6 (r4.1.map ZD))), (bv zB), (iv r4.2)], (Zl b1 zH zE)] er4<|ze<|zq ?_
 exact zk (Z9J x4 a2 x49 (IntKind.i64.wrap (x50 + 1)) r4.1 zB r4.2 b1 .un zH zE rfl)
def Z4x (x4 : Bool) (x6 : List Int) (zG : List Zw) (zC : Int) : Option ((List Zw) × Int) :=
 Z4D x4 x6 (x6.length : Int) 0 zG zC
theorem Ze2 x4 (x6 : List Int) (zG : List Zw) zB zC ox6 (hox6 : ZM ox6 = true) : Sim (Z15 zB) (Z4x x4 x6 zG zC) (Zrp 1 (.ptr 0 0) (bv x4) (ZP ox6 (x6.map (eI .i64))) [[(.p (.ml 6 (zG.map ZD))), (bv zB), (iv zC)]]) := by
 unfold Z4x
 refine zf (Zxy ..)<|ze<|zp (iv (x6.length : Int)) (et_ (Z30 (P := PP) (t := 96) (d := 3) (by kernel_rfl) (eI .i64) (shrO ox6) x6)) ?_
 exact zk (Z9L x4 x6 (x6.length : Int) 0 zG zB zC (shrO ox6))
def Z4v (x4 : Bool) (x6 : List Int) (x49 x50 : Int) (zG : List Zw) (zB : Bool) (zC : Int) (b1 : Zk) : Option ((List Zw) × Int) :=
 if (decide (x50 < x49)) = true then
 (Z61 x4 x6 x49 x50 zG zB zC b1)
 else
 (Z4x x4 x6 zG zC)
theorem ZdY x4 (x6 : List Int) x49 x50 (zG : List Zw) zB zC b1 ox6 zH zE (hox6 : ZM ox6 = true) : Sim (Z15 zB) (Z4v x4 x6 x49 x50 zG zB zC b1) (Zk3 1 (.ptr 0 0) (.ptr 1 0) (bv x4) (ZP ox6 (x6.map (eI .i64))) (iv x49) (iv x50) [[(.p (.ml 6 (zG.map ZD))), (bv zB), (iv zC)], (Zl b1 zH zE)]) := by
 unfold Z4v
 refine zf (Zxu ..)<|ze<|zq ?_
 refine za (decide (x50 < x49)) ?_ ?_
 ·exact zk (Ze1 x4 x6 x49 x50 zG zB zC b1 ox6 zH zE hox6)
 ·exact zk (Ze2 x4 x6 zG zB zC ox6 hox6)
theorem Z9I x4 x6 x49 x50 zG zB zC b1 {r} (h : Z4v x4 x6 x49 x50 zG zB zC b1 = some r) : Z4C x4 x6 x49 x50 zG zB zC b1 = some r :=
 Z1i (fun _ _ ha hb => ru_ (Z2V _) (ha .ex .ex .ex rfl) (hb .ex .ex .ex rfl)) (fun ox6 zH zE hox6 => ZdY x4 x6 x49 x50 zG zB zC b1 ox6 zH zE hox6 r h)
def Z62 (x4 : Bool) (x65 : List Int) (x66 x67 : Int) (zG : List Zw) (zC : Int) : Option ((List Zw) × Int) :=
 (lget x65 x67).bind fun a1 =>
 (Z4S a1 (IntKind.i64.wrap (a1 + 1)) (zG.length : Int) x4 zG).bind fun r2 =>
 Z4D x4 x65 x66 (IntKind.i64.wrap (x67 + 1)) r2 zC
theorem Ze3 x4 (x65 : List Int) x66 x67 (zG : List Zw) zB zC ox65 : Sim (Z15 zB) (Z62 x4 x65 x66 x67 zG zC) (Zrq 1 (.ptr 0 0) (bv x4) (ZP ox65 (x65.map (eI .i64))) (iv x66) (iv x67) [[(.p (.ml 6 (zG.map ZD))), (bv zB), (iv zC)]]) := by
 unfold Z62
 refine zf (Zxz ..)<|ze<|zi fun a1 ha1 => zp (.cptr [(.v (.int .i64 a1))]) (et_ (Z2v (o := ox65) (k := .i64) (n := 1) (e := (eI .i64)) (cs := (fun a => [(eI .i64) a])) (fun _ => rfl) (fun _ => rfl) (by decide) ha1))<|zq<|ze<|zq<|zq<|zq<|zq<|zp (iv (zG.length : Int)) (et_ (ZbE (P := PP) (t := 23) (d := 40) (by kernel_rfl) ZD zG))<|zi fun r2 hr2 => ?_
 obtain ⟨_, er2, _, rfl⟩ := Z8J a1 (IntKind.i64.wrap (a1 + 1)) (zG.length : Int) x4 zG zB zC r2 hr2
 refine zc [0] (.p (.tup [])) [[(.p (.ml 6 (r2.map ZD))), (bv zB), (iv zC)]] er2<|ze<|zq ?_
 exact zk (Z9L x4 x65 x66 (IntKind.i64.wrap (x67 + 1)) r2 zB zC ox65)
def Z4w (x4 : Bool) (x65 : List Int) (x66 x67 : Int) (zG : List Zw) (zC : Int) : Option ((List Zw) × Int) :=
 if (decide (x67 < x66)) = true then
 (Z62 x4 x65 x66 x67 zG zC)
 else
 (some (zG, zC))
theorem ZdZ x4 (x65 : List Int) x66 x67 (zG : List Zw) zB zC ox65 : Sim (Z15 zB) (Z4w x4 x65 x66 x67 zG zC) (Zk4 1 (.ptr 0 0) (bv x4) (ZP ox65 (x65.map (eI .i64))) (iv x66) (iv x67) [[(.p (.ml 6 (zG.map ZD))), (bv zB), (iv zC)]]) := by
 unfold Z4w
 refine zf (Zxv ..)<|ze<|zq ?_
 refine za (decide (x67 < x66)) ?_ ?_
 ·exact zk (Ze3 x4 x65 x66 x67 zG zB zC ox65)
 ·exact zr ((.p (.tup [])), [[(.p (.ml 6 (zG.map ZD))), (bv zB), (iv zC)]]) ⟨_, rfl⟩
theorem Z9K x4 x65 x66 x67 zG zC {r} (h : Z4w x4 x65 x66 x67 zG zC = some r) : Z4D x4 x65 x66 x67 zG zC = some r :=
 Z1i (fun _ _ ha hb => ru_ (Z2V _) (ha default .ex) (hb default .ex)) (fun zB ox65 => ZdZ x4 x65 x66 x67 zG zB zC ox65 r h)
def Z8d (x1 : Zk) (x2 : Bool) (zG : List Zw) (zB : Bool) (zC : Int) : Option ((List Zw) × Int) :=
 (Z1k (Zw.mk 3 0 0 0 0 ([] : List Z8)) zG).bind fun r1 =>
 (Z1k (Zw.mk 10 zC 0 0 0 ([] : List Z8)) r1.2).bind fun r2 =>
 (Z1R x1 r2.2 zB (IntKind.i64.wrap (zC + 1))).bind fun r3 =>
 (Z1k (Zw.mk 11 zC 0 0 0 ([] : List Z8)) r3.1).bind fun r4 =>
 (Z1k (Zw.mk 2 r1.1 0 0 0 ([] : List Z8)) r4.2).bind fun r5 =>
 (Z4S r1.1 (IntKind.i64.wrap (r1.1 + 1)) (r5.2.length : Int) x2 r5.2).bind fun r6 =>
 some (r6, r3.2)
theorem Zhh x1 x2 (zG : List Zw) zB zC zO zW : Sim (Z15 zB) (Z8d x1 x2 zG zB zC) (EE 59 [(.ptr 0 0), (pA_ (ZI x1 zO zW)), (bv x2)] [[(.p (.ml 6 (zG.map ZD))), (bv zB), (iv zC)]]) := by
 unfold Z8d
 refine zf (ZG7 ..)<|ze<|zx (.ptr 1 0) [[(.p (.ml 6 (zG.map ZD))), (bv zB), (iv zC)], (Zl x1 zO zW)]<|ze<|zq<|zi fun r1 hr1 => ?_
 obtain ⟨_, er1, _, rfl⟩ := Z1r (Zw.mk 3 0 0 0 0 ([] : List Z8)) zG zB zC .sh r1 hr1
 refine zc [0] (iv r1.1) [[(.p (.ml 6 (r1.2.map ZD))), (bv zB), (iv zC)], (Zl x1 zO zW)] er1<|ze<|zq<|zq<|zq<|ze<|zq<|zq<|zq<|zq<|zq<|zq<|zt [[(.p (.ml 6 (r1.2.map ZD))), (bv zB), (iv (IntKind.i64.wrap (zC + 1)))], (Zl x1 zO zW)]<|ze<|zq<|zi fun r2 hr2 => ?_
 obtain ⟨_, er2, _, rfl⟩ := Z1r (Zw.mk 10 zC 0 0 0 ([] : List Z8)) r1.2 zB (IntKind.i64.wrap (zC + 1)) .sh r2 hr2
 refine zc [0] (iv r2.1) [[(.p (.ml 6 (r2.2.map ZD))), (bv zB), (iv (IntKind.i64.wrap (zC + 1)))], (Zl x1 zO zW)] er2<|ze<|zq<|zi fun r3 hr3 => ?_
 obtain ⟨_, er3, _, rfl⟩ := Z2L x1 r2.2 zB (IntKind.i64.wrap (zC + 1)) .sh .sh r3 hr3
 refine zc [0] (.p (.tup [])) [[(.p (.ml 6 (r3.1.map ZD))), (bv zB), (iv r3.2)], (Zl x1 zO zW)] er3<|ze<|zq<|zi fun r4 hr4 => ?_
 obtain ⟨_, er4, _, rfl⟩ := Z1r (Zw.mk 11 zC 0 0 0 ([] : List Z8)) r3.1 zB r3.2 .sh r4 hr4
 refine zc [0] (iv r4.1) [[(.p (.ml 6 (r4.2.map ZD))), (bv zB), (iv r3.2)], (Zl x1 zO zW)] er4<|ze<|zq<|zi fun r5 hr5 => ?_
 obtain ⟨_, er5, _, rfl⟩ := Z1r (Zw.mk 2 r1.1 0 0 0 ([] : List Z8)) r4.2 zB r3.2 .sh r5 hr5
 refine zc [0] (iv r5.1) [[(.p (.ml 6 (r5.2.map ZD))), (bv zB), (iv r3.2)], (Zl x1 zO zW)] er5<|ze<|zq<|zq<|zq<|zq<|zp (iv (r5.2.length : Int)) (et_ (ZbE (P := PP) (t := 23) (d := 40) (by kernel_rfl) ZD r5.2))<|zi fun r6 hr6 => ?_
 obtain ⟨_, er6, _, rfl⟩ := Z8J r1.1 (IntKind.i64.wrap (r1.1 + 1)) (r5.2.length : Int) x2 r5.2 zB r3.2 r6 hr6
 refine zc [0] (.p (.tup [])) [[(.p (.ml 6 (r6.map ZD))), (bv zB), (iv r3.2)], (Zl x1 zO zW)] er6 ?_
 exact zr ((.p (.tup [])), [[(.p (.ml 6 (r6.map ZD))), (bv zB), (iv r3.2)], (Zl x1 zO zW)]) ⟨_, rfl⟩
theorem ZhT x1 x2 zG zB zC {r} (h : Z8d x1 x2 zG zB zC = some r) : Z8f x1 x2 zG zB zC = some r :=
 Z1i (fun _ _ ha hb => ru_ (Z2V _) (ha .ex .ex) (hb .ex .ex)) (fun zO zW => Zhh x1 x2 zG zB zC zO zW r h)
def Z7o (x1 : Zw) (zG : List Zw) (zB : Bool) (zC : Int) (b2 : Zk) : Option ((List Zw) × Int) :=
 (Z1k x1 zG).bind fun r1 =>
 (Z7x b2 r1.2 zB zC).bind fun r2 =>
 (Z1k (Zw.mk 9 0 0 0 0 ([] : List Z8)) r2.1).bind fun r3 =>
 (lget r3.2 r1.1).bind fun a4 =>
 (lget r3.2 r1.1).bind fun a5 =>
 some ((lset r3.2 r1.1 (Zw.mk a5.Op a5.A (r3.2.length : Int) a5.C a5.D a5.Set)), r2.2)
theorem ZfX x1 (zG : List Zw) zB zC b2 zO z19 zZ : Sim (Z3v zB b2 z19 zZ) (Z7o x1 zG zB zC b2) (EE 41 [(.ptr 0 0), (pA_ (Z1m x1 zO)), (.clo 46 [] [(.ptr 1 0), (.ptr 2 0)])] [[(.p (.ml 6 (zG.map ZD))), (bv zB), (iv zC)], [(.ptr 0 0)], (Zl b2 z19 zZ)]) := by
 unfold Z7o
 refine zf (ZtP ..)<|ze<|zx (.ptr 3 0) [[(.p (.ml 6 (zG.map ZD))), (bv zB), (iv zC)], [(.ptr 0 0)], (Zl b2 z19 zZ), (Z1w x1 zO)]<|ze<|zq<|zi fun r1 hr1 => ?_
 obtain ⟨_, er1, _, rfl⟩ := Z1r x1 zG zB zC .sh r1 hr1
 refine zc [0] (iv r1.1) [[(.p (.ml 6 (r1.2.map ZD))), (bv zB), (iv zC)], [(.ptr 0 0)], (Zl b2 z19 zZ), (Z1w x1 zO)] er1<|ze<|zi fun r2 hr2 => ?_
 obtain ⟨_, er2, _, rfl⟩ := ZgO b2 r1.2 zB zC z19 zZ r2 hr2
 refine zv [1, 2, 0] (.p (.tup [])) [[(.p (.ml 6 (r2.1.map ZD))), (bv zB), (iv r2.2)], [(.ptr 0 0)], (Zl b2 z19 zZ), (Z1w x1 zO)] er2<|ze<|zq<|zi fun r3 hr3 => ?_
 obtain ⟨_, er3, _, rfl⟩ := Z1r (Zw.mk 9 0 0 0 0 ([] : List Z8)) r2.1 zB r2.2 .sh r3 hr3
 refine zc [0] (iv r3.1) [[(.p (.ml 6 (r3.2.map ZD))), (bv zB), (iv r2.2)], [(.ptr 0 0)], (Zl b2 z19 zZ), (Z1w x1 zO)] er3<|ze<|zq<|zq<|zq<|zq<|zq<|zq<|zp (iv (r3.2.length : Int)) (et_ (ZbE (P := PP) (t := 23) (d := 40) (by kernel_rfl) ZD r3.2))<|zi fun a4 ha4 => zp (.p (.jnk (.ep 0 0 6 (Int.toNat r1.1) 0))) (et_ (Zkv (e := ZD) (n := 6) (id := 0) (off := 0) (k := .i64) (by decide) ha4))<|zq<|zi fun a5 ha5 => zb [[(.p (.ml 6 ((lset r3.2 r1.1 (Zw.mk a5.Op a5.A (r3.2.length : Int) a5.C a5.D a5.Set)).map ZD))), (bv zB), (iv r2.2)], [(.ptr 0 0)], (Zl b2 z19 zZ), (Z1w x1 zO)] (Eq.trans (b := stEl 1 (.p (.jnk (.ep 0 0 6 (Int.toNat r1.1) 2))) (iv (r3.2.length : Int)) [[(.p (.ml 6 (r3.2.map ZD))), (bv zB), (iv r2.2)], [(.ptr 0 0)], (Zl b2 z19 zZ), (Z1w x1 zO)]) (by kernel_rfl) (Zih (e := ZD) (row := [(.p (.ml 6 (r3.2.map ZD))), (bv zB), (iv r2.2)]) (n := 6) (l := r3.2) (a' := (Zw.mk a5.Op a5.A (r3.2.length : Int) a5.C a5.D a5.Set)) (by kernel_rfl) ha5 (by kernel_rfl) (by kernel_rfl))) ?_
 exact zr ((.p (.tup [])), [[(.p (.ml 6 ((lset r3.2 r1.1 (Zw.mk a5.Op a5.A (r3.2.length : Int) a5.C a5.D a5.Set)).map ZD))), (bv zB), (iv r2.2)], [(.ptr 0 0)], (Zl b2 z19 zZ), (Z1w x1 zO)]) ⟨_, rfl⟩
theorem ZgT x1 zG zB zC b2 {r} (h : Z7o x1 zG zB zC b2 = some r) : Z5Q x1 zG zB zC b2 = some r :=
 Z1i (fun _ _ ha hb => ru_ (Z8I _ _ _ _) (ha .ex .ex .ex) (hb .ex .ex .ex)) (fun zO z19 zZ => ZfX x1 zG zB zC b2 zO z19 zZ r h)
def Z7l (b1 : Zk) (z2X : List Zw) (z1M : Bool) (z2h : Int) : Option ((List Zw) × Int) :=
 (lget b1.Kids 0).bind fun a1 =>
 (Z1R a1 z2X z1M z2h).bind fun r2 =>
 some (r2.1, r2.2)
theorem ZfU b1 (z2X : List Zw) z1M z2h zH zE : Sim (Z3u b1 z1M zH zE) (Z7l b1 z2X z1M z2h) (EE 46 [(.ptr 0 0), (.ptr 1 0)] [[(.ptr 2 0)], (Zl b1 zH zE), [(.p (.ml 6 (z2X.map ZD))), (bv z1M), (iv z2h)]]) := by
 unfold Z7l
 refine zf (ZFV ..)<|ze<|zq<|zq<|zq<|zi fun a1 ha1 => zp (.cptr (ZI a1 .sh .sh)) (et_ (Z2v (o := (shrO zE)) (k := .i64) (n := 7) (e := ZJ) (cs := Z1Z) Z2J (fun _ => rfl) (by decide) ha1))<|zq<|zi fun r2 hr2 => ?_
 obtain ⟨_, er2, _, rfl⟩ := Z2L a1 z2X z1M z2h .sh .sh r2 hr2
 refine zc [2] (.p (.tup [])) [[(.ptr 2 0)], (Zl b1 zH zE), [(.p (.ml 6 (r2.1.map ZD))), (bv z1M), (iv r2.2)]] er2 ?_
 exact zr ((.p (.tup [])), [[(.ptr 2 0)], (Zl b1 zH zE), [(.p (.ml 6 (r2.1.map ZD))), (bv z1M), (iv r2.2)]]) ⟨_, rfl⟩
theorem ZgN b1 z2X z1M z2h {r} (h : Z7l b1 z2X z1M z2h = some r) : Z7x b1 z2X z1M z2h = some r :=
 Z1i (fun _ _ ha hb => ru_ (Z8H _ _ _ _) (ha .ex .ex) (hb .ex .ex)) (fun zH zE => ZfU b1 z2X z1M z2h zH zE r h)
def Z7p (x1 : Zw) (zG : List Zw) (zB : Bool) (zC : Int) (b2 : Zk) : Option ((List Zw) × Int) :=
 (Z1k x1 zG).bind fun r1 =>
 (Z7w b2 r1.2 zB zC).bind fun r2 =>
 (Z1k (Zw.mk 9 0 0 0 0 ([] : List Z8)) r2.1).bind fun r3 =>
 (lget r3.2 r1.1).bind fun a4 =>
 (lget r3.2 r1.1).bind fun a5 =>
 some ((lset r3.2 r1.1 (Zw.mk a5.Op a5.A (r3.2.length : Int) a5.C a5.D a5.Set)), r2.2)
theorem ZfY x1 (zG : List Zw) zB zC b2 zO z19 zZ : Sim (Z3v zB b2 z19 zZ) (Z7p x1 zG zB zC b2) (EE 41 [(.ptr 0 0), (pA_ (Z1m x1 zO)), (.clo 45 [] [(.ptr 1 0), (.ptr 2 0)])] [[(.p (.ml 6 (zG.map ZD))), (bv zB), (iv zC)], [(.ptr 0 0)], (Zl b2 z19 zZ)]) := by
 unfold Z7p
 refine zf (ZtP ..)<|ze<|zx (.ptr 3 0) [[(.p (.ml 6 (zG.map ZD))), (bv zB), (iv zC)], [(.ptr 0 0)], (Zl b2 z19 zZ), (Z1w x1 zO)]<|ze<|zq<|zi fun r1 hr1 => ?_
 obtain ⟨_, er1, _, rfl⟩ := Z1r x1 zG zB zC .sh r1 hr1
 refine zc [0] (iv r1.1) [[(.p (.ml 6 (r1.2.map ZD))), (bv zB), (iv zC)], [(.ptr 0 0)], (Zl b2 z19 zZ), (Z1w x1 zO)] er1<|ze<|zi fun r2 hr2 => ?_
 obtain ⟨_, er2, _, rfl⟩ := ZgM b2 r1.2 zB zC z19 zZ r2 hr2
 refine zv [1, 2, 0] (.p (.tup [])) [[(.p (.ml 6 (r2.1.map ZD))), (bv zB), (iv r2.2)], [(.ptr 0 0)], (Zl b2 z19 zZ), (Z1w x1 zO)] er2<|ze<|zq<|zi fun r3 hr3 => ?_
 obtain ⟨_, er3, _, rfl⟩ := Z1r (Zw.mk 9 0 0 0 0 ([] : List Z8)) r2.1 zB r2.2 .sh r3 hr3
 refine zc [0] (iv r3.1) [[(.p (.ml 6 (r3.2.map ZD))), (bv zB), (iv r2.2)], [(.ptr 0 0)], (Zl b2 z19 zZ), (Z1w x1 zO)] er3<|ze<|zq<|zq<|zq<|zq<|zq<|zq<|zp (iv (r3.2.length : Int)) (et_ (ZbE (P := PP) (t := 23) (d := 40) (by kernel_rfl) ZD r3.2))<|zi fun a4 ha4 => zp (.p (.jnk (.ep 0 0 6 (Int.toNat r1.1) 0))) (et_ (Zkv (e := ZD) (n := 6) (id := 0) (off := 0) (k := .i64) (by decide) ha4))<|zq<|zi fun a5 ha5 => zb [[(.p (.ml 6 ((lset r3.2 r1.1 (Zw.mk a5.Op a5.A (r3.2.length : Int) a5.C a5.D a5.Set)).map ZD))), (bv zB), (iv r2.2)], [(.ptr 0 0)], (Zl b2 z19 zZ), (Z1w x1 zO)] (Eq.trans (b := stEl 1 (.p (.jnk (.ep 0 0 6 (Int.toNat r1.1) 2))) (iv (r3.2.length : Int)) [[(.p (.ml 6 (r3.2.map ZD))), (bv zB), (iv r2.2)], [(.ptr 0 0)], (Zl b2 z19 zZ), (Z1w x1 zO)]) (by kernel_rfl) (Zih (e := ZD) (row := [(.p (.ml 6 (r3.2.map ZD))), (bv zB), (iv r2.2)]) (n := 6) (l := r3.2) (a' := (Zw.mk a5.Op a5.A (r3.2.length : Int) a5.C a5.D a5.Set)) (by kernel_rfl) ha5 (by kernel_rfl) (by kernel_rfl))) ?_
 exact zr ((.p (.tup [])), [[(.p (.ml 6 ((lset r3.2 r1.1 (Zw.mk a5.Op a5.A (r3.2.length : Int) a5.C a5.D a5.Set)).map ZD))), (bv zB), (iv r2.2)], [(.ptr 0 0)], (Zl b2 z19 zZ), (Z1w x1 zO)]) ⟨_, rfl⟩
theorem ZgV x1 zG zB zC b2 {r} (h : Z7p x1 zG zB zC b2 = some r) : Z7y x1 zG zB zC b2 = some r :=
 Z1i (fun _ _ ha hb => ru_ (Z8I _ _ _ _) (ha .ex .ex .ex) (hb .ex .ex .ex)) (fun zO z19 zZ => ZfY x1 zG zB zC b2 zO z19 zZ r h)
def Z7k (b1 : Zk) (z2X : List Zw) (z1M : Bool) (z2h : Int) : Option ((List Zw) × Int) :=
 (lget b1.Kids 0).bind fun a1 =>
 (Z1R a1 z2X z1M z2h).bind fun r2 =>
 some (r2.1, r2.2)
theorem ZfT b1 (z2X : List Zw) z1M z2h zH zE : Sim (Z3u b1 z1M zH zE) (Z7k b1 z2X z1M z2h) (EE 45 [(.ptr 0 0), (.ptr 1 0)] [[(.ptr 2 0)], (Zl b1 zH zE), [(.p (.ml 6 (z2X.map ZD))), (bv z1M), (iv z2h)]]) := by
 unfold Z7k
 refine zf (ZFU ..)<|ze<|zq<|zq<|zq<|zi fun a1 ha1 => zp (.cptr (ZI a1 .sh .sh)) (et_ (Z2v (o := (shrO zE)) (k := .i64) (n := 7) (e := ZJ) (cs := Z1Z) Z2J (fun _ => rfl) (by decide) ha1))<|zq<|zi fun r2 hr2 => ?_
 obtain ⟨_, er2, _, rfl⟩ := Z2L a1 z2X z1M z2h .sh .sh r2 hr2
 refine zc [2] (.p (.tup [])) [[(.ptr 2 0)], (Zl b1 zH zE), [(.p (.ml 6 (r2.1.map ZD))), (bv z1M), (iv r2.2)]] er2 ?_
 exact zr ((.p (.tup [])), [[(.ptr 2 0)], (Zl b1 zH zE), [(.p (.ml 6 (r2.1.map ZD))), (bv z1M), (iv r2.2)]]) ⟨_, rfl⟩
theorem ZgL b1 z2X z1M z2h {r} (h : Z7k b1 z2X z1M z2h = some r) : Z7w b1 z2X z1M z2h = some r :=
 Z1i (fun _ _ ha hb => ru_ (Z8H _ _ _ _) (ha .ex .ex) (hb .ex .ex)) (fun zH zE => ZfT b1 z2X z1M z2h zH zE r h)
def ZeN (x0 : List Zw) : Option Int :=
 Za9 0 x0 (x0.length : Int) 0
theorem Zoy (x0 : List Zw) ox0 : Sim ZK (ZeN x0) (EE 13 [(ZP ox0 (x0.map ZD))] []) := by
 unfold ZeN
 refine zf (ZF0 ..)<|ze<|ze<|ze<|zp (iv (x0.length : Int)) (et_ (Z30 (P := PP) (t := 23) (d := 40) (by kernel_rfl) ZD (shrO ox0) x0)) ?_
 exact zk (ZgI 0 x0 (x0.length : Int) 0 (shrO ox0))
theorem Zqn x0 {r} (h : ZeN x0 = some r) : ZeT x0 = some r :=
 Z1i (fun _ _ ha hb => ru_ Z1J (ha .ex) (hb .ex)) (fun ox0 => Zoy x0 ox0 r h)
def Za3 (x3 : Int) (x6 : List Zw) (x7 x8 : Int) : Option Int :=
 Za9 x3 x6 x7 (IntKind.i64.wrap (x8 + 1))
theorem Zfx x3 (x6 : List Zw) x7 x8 ox6 : Sim ZK (Za3 x3 x6 x7 x8) (Zpk 0 (iv x3) (ZP ox6 (x6.map ZD)) (iv x7) (iv x8) []) := by
 unfold Za3
 refine zf (Zzm ..)<|ze<|zq ?_
 exact zk (ZgI x3 x6 x7 (IntKind.i64.wrap (x8 + 1)) ox6)
def ZbJ (x3 : Int) (x6 : List Zw) (x7 x8 : Int) : Option Int :=
 (lget x6 x8).bind fun a1 =>
 if (a1.Op == 10) = true then
 (Za3 (IntKind.i64.wrap (x3 + 1)) x6 x7 x8)
 else
 (Za3 x3 x6 x7 x8)
theorem ZlX x3 (x6 : List Zw) x7 x8 ox6 : Sim ZK (ZbJ x3 x6 x7 x8) (Zt8 0 (iv x3) (ZP ox6 (x6.map ZD)) (iv x7) (iv x8) []) := by
 unfold ZbJ
 refine zf (Zzl ..)<|ze<|zi fun a1 ha1 => zp (.cptr (Z1m a1 .sh)) (et_ (Z2v (o := ox6) (k := .i64) (n := 6) (e := ZD) (cs := Z4a) (fun _ => rfl) (fun _ => rfl) (by decide) ha1))<|zq<|zz (.ptr 0 0) [(Z1w ZvX .nl)]<|zt [(Z1w a1 .sh)]<|ze<|zq<|zq<|zq ?_
 refine za (a1.Op == 10) ?_ ?_
 ·refine ze<|zq ?_
  exact zk (Zfx (IntKind.i64.wrap (x3 + 1)) x6 x7 x8 ox6)
 ·exact zk (Zfx x3 x6 x7 x8 ox6)
def ZbK (x3 : Int) : Option Int :=
 some x3
theorem ZlY x3 : Sim ZK (ZbK x3) (Zt9 0 (iv x3) []) := by
 unfold ZbK
 refine zf (Zzn ..)<|ze ?_
 exact zr ((iv x3), []) ⟨_, rfl⟩
def Za2 (x3 : Int) (x6 : List Zw) (x7 x8 : Int) : Option Int :=
 if (decide (x8 < x7)) = true then
 (ZbJ x3 x6 x7 x8)
 else
 (ZbK x3)
theorem ZlW x3 (x6 : List Zw) x7 x8 ox6 : Sim ZK (Za2 x3 x6 x7 x8) (Zmc 0 (iv x3) (ZP ox6 (x6.map ZD)) (iv x7) (iv x8) []) := by
 unfold Za2
 refine zf (Zzk ..)<|ze<|zq ?_
 refine za (decide (x8 < x7)) ?_ ?_
 ·exact zk (ZlX x3 x6 x7 x8 ox6)
 ·exact zk (ZlY x3)
theorem ZgH x3 x6 x7 x8 {r} (h : Za2 x3 x6 x7 x8 = some r) : Za9 x3 x6 x7 x8 = some r :=
 Z1i (fun _ _ ha hb => ru_ Z1J (ha .ex) (hb .ex)) (fun ox6 => ZlW x3 x6 x7 x8 ox6 r h)
def Z6X (x0 x1 : List Z8) : Option Bool :=
 Z5s x1 x0 (x0.length : Int) 0
theorem Zfl (x0 x1 : List Z8) ox0 ox1 : Sim ZQ (Z6X x0 x1) (Zti 0 (ZP ox0 (x0.map Zv)) (ZP ox1 (x1.map Zv)) []) := by
 unfold Z6X
 refine zf (Zzx ..)<|ze<|zp (iv (x0.length : Int)) (et_ (Z30 (P := PP) (t := 28) (d := 47) (by kernel_rfl) Zv (shrO ox0) x0)) ?_
 exact zk (ZaQ x1 x0 (x0.length : Int) 0 ox1 (shrO ox0))
def Z88 (x0 x1 : List Z8) : Option Bool :=
 if ((x0.length : Int) != (x1.length : Int)) = true then
 (some false)
 else
 (Z6X x0 x1)
theorem Zhd (x0 x1 : List Z8) ox0 ox1 : Sim ZQ (Z88 x0 x1) (EE 15 [(ZP ox0 (x0.map Zv)), (ZP ox1 (x1.map Zv))] []) := by
 unfold Z88
 refine zf (ZF6 ..)<|ze<|ze<|zp (iv (x0.length : Int)) (et_ (Z30 (P := PP) (t := 28) (d := 47) (by kernel_rfl) Zv (shrO ox0) x0))<|zp (iv (x1.length : Int)) (et_ (Z30 (P := PP) (t := 28) (d := 47) (by kernel_rfl) Zv (shrO ox1) x1))<|zq ?_
 refine za ((x0.length : Int) != (x1.length : Int)) ?_ ?_
 ·refine ze ?_
  exact zr ((bv false), []) ⟨_, rfl⟩
 ·exact zk (Zfl x0 x1 ox0 ox1)
theorem ZhG x0 x1 {r} (h : Z88 x0 x1 = some r) : Z6u x0 x1 = some r :=
 Z1i (fun _ _ ha hb => ru_ Z2q (ha .ex .ex) (hb .ex .ex)) (fun ox0 ox1 => Zhd x0 x1 ox0 ox1 r h)
def Z6Z (x1 x12 : List Z8) (x13 x14 : Int) : Option Bool :=
 Z5s x1 x12 x13 (IntKind.i64.wrap (x14 + 1))
theorem Zfn (x1 x12 : List Z8) x13 x14 ox1 ox12 : Sim ZQ (Z6Z x1 x12 x13 x14) (Ztk 0 (ZP ox1 (x1.map Zv)) (ZP ox12 (x12.map Zv)) (iv x13) (iv x14) []) := by
 unfold Z6Z
 refine zf (Zzz ..)<|ze<|zq ?_
 exact zk (ZaQ x1 x12 x13 (IntKind.i64.wrap (x14 + 1)) ox1 ox12)
def Z6Y (x1 x12 : List Z8) (x13 x14 : Int) : Option Bool :=
 (lget x12 x14).bind fun a1 =>
 (lget x1 x14).bind fun a2 =>
 if (!((a1.Lo == a2.Lo) && ((a1.Hi == a2.Hi) && true))) = true then
 (some false)
 else
 (Z6Z x1 x12 x13 x14)
theorem Zfm (x1 x12 : List Z8) x13 x14 ox1 ox12 : Sim ZQ (Z6Y x1 x12 x13 x14) (Ztj 0 (ZP ox1 (x1.map Zv)) (ZP ox12 (x12.map Zv)) (iv x13) (iv x14) []) := by
 unfold Z6Y
 refine zf (Zzy ..)<|ze<|zi fun a1 ha1 => zp (.cptr (ZN a1)) (et_ (Z2v (o := ox12) (k := .i64) (n := 2) (e := Zv) (cs := Z4y) (fun _ => rfl) (fun _ => rfl) (by decide) ha1))<|zq<|zz (.ptr 0 0) [(Z1K ZvW)]<|zt [(Z1K a1)]<|ze<|zq<|zi fun a2 ha2 => zp (.cptr (ZN a2)) (et_ (Z2v (o := (shrO ox1)) (k := .i64) (n := 2) (e := Zv) (cs := Z4y) (fun _ => rfl) (fun _ => rfl) (by decide) ha2))<|zq<|zp (bv (!((a1.Lo == a2.Lo) && ((a1.Hi == a2.Hi) && true)))) (Eq.trans (b := xbin PP .neq 47 (pA_ (ZN a1)) (pA_ (ZN a2))) (by kernel_rfl) (ZEH (by kernel_rfl) (by kernel_rfl) (by kernel_rfl) (by kernel_rfl) (by kernel_rfl))) ?_
 refine za (!((a1.Lo == a2.Lo) && ((a1.Hi == a2.Hi) && true))) ?_ ?_
 ·refine ze ?_
  exact zr ((bv false), [(Z1K a1)]) ⟨_, rfl⟩
 ·exact zk (Zfn x1 x12 x13 x14 ox1 ox12)
def Z91 : Option Bool :=
 some true
theorem Zfo : Sim ZQ Z91 (Ztl 0 []) := by
 unfold Z91
 refine zf (ZzA ..)<|ze ?_
 exact zr ((bv true), []) ⟨_, rfl⟩
def Z5k (x1 x12 : List Z8) (x13 x14 : Int) : Option Bool :=
 if (decide (x14 < x13)) = true then
 (Z6Y x1 x12 x13 x14)
 else
 Z91
theorem Zfk (x1 x12 : List Z8) x13 x14 ox1 ox12 : Sim ZQ (Z5k x1 x12 x13 x14) (Zme 0 (ZP ox1 (x1.map Zv)) (ZP ox12 (x12.map Zv)) (iv x13) (iv x14) []) := by
 unfold Z5k
 refine zf (Zzw ..)<|ze<|zq ?_
 refine za (decide (x14 < x13)) ?_ ?_
 ·exact zk (Zfm x1 x12 x13 x14 ox1 ox12)
 ·exact zk Zfo
theorem ZaP x1 x12 x13 x14 {r} (h : Z5k x1 x12 x13 x14 = some r) : Z5s x1 x12 x13 x14 = some r :=
 Z1i (fun _ _ ha hb => ru_ Z2q (ha .ex .ex) (hb .ex .ex)) (fun ox1 ox12 => Zfk x1 x12 x13 x14 ox1 ox12 r h)
def Zay (x0 : Int) : Option ByteArray :=
 (ssl (ByteArray.mk #[48, 49, 50, 51, 52, 53, 54, 55, 56, 57, 97, 98, 99, 100, 101, 102]) (IntKind.i64.wrap (Int.tdiv x0 16)) (IntKind.i64.wrap ((IntKind.i64.wrap (Int.tdiv x0 16)) + 1))).bind fun a1 =>
 (sadd (ByteArray.mk #[92, 120]) a1).bind fun a2 =>
 (ssl (ByteArray.mk #[48, 49, 50, 51, 52, 53, 54, 55, 56, 57, 97, 98, 99, 100, 101, 102]) (Int.tmod x0 16) (IntKind.i64.wrap ((Int.tmod x0 16) + 1))).bind fun a3 =>
 (sadd a2 a3).bind fun a4 =>
 some a4
theorem Zkg x0 : Sim Zav (Zay x0) (EE 16 [(iv x0)] []) := by
 unfold Zay
 refine zf (ZF8 ..)<|ze<|ze<|zp (iv (IntKind.i64.wrap (Int.tdiv x0 16))) (et_ (ZDM (P := PP) (t := 3) (k := .i64) (a := x0) (b := 16) (by decide)))<|zp (iv (IntKind.i64.wrap (Int.tdiv x0 16))) (et_ (ZDM (P := PP) (t := 3) (k := .i64) (a := x0) (b := 16) (by decide)))<|zq<|zi fun a1 ha1 => zp (.p (.v (.string a1))) (et_ (ZrV (lo := (some (iv (IntKind.i64.wrap (Int.tdiv x0 16))))) (hi := (some (iv (IntKind.i64.wrap ((IntKind.i64.wrap (Int.tdiv x0 16)) + 1))))) (by kernel_rfl) (by kernel_rfl) ha1))<|zi fun a2 ha2 => zp (.p (.v (.string a2))) (et_ (ZcB (P := PP) (t := 9) ha2))<|zp (iv (Int.tmod x0 16)) (et_ (ZDN (P := PP) (t := 3) (k := .i64) (a := x0) (b := 16) (by decide)))<|zp (iv (Int.tmod x0 16)) (et_ (ZDN (P := PP) (t := 3) (k := .i64) (a := x0) (b := 16) (by decide)))<|zq<|zi fun a3 ha3 => zp (.p (.v (.string a3))) (et_ (ZrV (lo := (some (iv (Int.tmod x0 16)))) (hi := (some (iv (IntKind.i64.wrap ((Int.tmod x0 16) + 1))))) (by kernel_rfl) (by kernel_rfl) ha3))<|zi fun a4 ha4 => zp (.p (.v (.string a4))) (et_ (ZcB (P := PP) (t := 9) ha4)) ?_
 exact zr ((.p (.v (.string a4))), []) ⟨_, rfl⟩
theorem Zl3 x0 {r} (h : Zay x0 = some r) : Z8S x0 = some r :=
 Z1i (fun _ _ ha hb => ru_ ZlP ha hb) (Zkg x0 r h)
end Go.Proofs.YtocikhhkicahoaaDoor.N2
end
