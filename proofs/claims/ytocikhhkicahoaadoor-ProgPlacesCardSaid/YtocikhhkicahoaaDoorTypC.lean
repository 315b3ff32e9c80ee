/- More of the functions' typed texts. No condition. -/
import Derived.Test.YtocikhhkicahoaaDoorTypA

set_option linter.unusedSimpArgs false
set_option linter.unusedVariables false
set_option linter.defProp false
noncomputable section
namespace Go.Proofs.YtocikhhkicahoaaDoor.N2
open Go Go.Abs
set_option maxRecDepth 100000
def Z5t (x2 x5 : Int) (zl : List Int) (zn z7 zh : Int) (zj : List Zz) (z2 z6 : Int) : Option (Int × (Own × (List Z8)) × Bool × Int × Int × Int) :=
 (Z7p x2 x5 zl zn z7 zh zj z2 z6).bind fun r1 =>
 some (r1.1, (.nl, ([] : List Z8)), false, r1.2.1, r1.2.2.1, r1.2.2.2)
theorem Zfr x2 x5 zl zn z7 zh zj z2 z6 zu zd (zy : ZO zd = true) : Sim (Z4t zl z7 zh zj zu zd) (Z5t x2 x5 zl zn z7 zh zj z2 z6) (Zrq 1 (.ptr 0 0) (iv x2) (iv x5) [(ZN zl zn z7 zh zj z2 z6 zu zd)]) := by
 unfold Z5t
 refine zf (Zyc ..)<|ze<|zi fun r1 hr1 => ?_
 obtain ⟨_, er1, _, rfl⟩ := Zde x2 x5 zl zn z7 zh zj z2 z6 zu zd zy r1 hr1
 refine zc [0] (iv r1.1) [(ZN zl r1.2.1 z7 zh zj r1.2.2.1 r1.2.2.2 zu zd)] er1 ?_
 exact zr ((.p (.tup [(.v (.int .i64 r1.1)), (.lst .nl []), (.v (.bool false))])), [(ZN zl r1.2.1 z7 zh zj r1.2.2.1 r1.2.2.2 zu zd)]) ⟨_, rfl⟩
def Z7b (x2 x5 : Int) (zl : List Int) (zn z7 zh : Int) (zj : List Zz) (z2 z6 : Int) : Option (Int × (Own × (List Z8)) × Bool × Int × Int × Int) :=
 (Z3m zl zn).bind fun r1 =>
 (Z7A x2).bind fun r2 =>
 (nilO (shrO r2.1) r2.2).bind fun a3 =>
 if (!a3) = true then
 (some (0, ((shrO r2.1), r2.2), (decide (x2 < 97)), r1.2, z2, z6))
 else
 (Z5t x2 x5 zl r1.2 z7 zh zj z2 z6)
theorem ZfL x2 x5 zl zn z7 zh zj z2 z6 zu zd (zy : ZO zd = true) : Sim (Z4t zl z7 zh zj zu zd) (Z7b x2 x5 zl zn z7 zh zj z2 z6) (ZuH 1 (.ptr 0 0) (iv x2) (iv x5) [(ZN zl zn z7 zh zj z2 z6 zu zd)]) := by
 unfold Z7b
 refine zf (ZB4 ..)<|ze<|zi fun r1 hr1 => ?_
 obtain ⟨_, er1, _, rfl⟩ := Z3K zl zn z7 zh zj z2 z6 zu zd zy r1 hr1
 refine zc [0] (iv r1.1) [(ZN zl r1.2 z7 zh zj z2 z6 zu zd)] er1<|ze<|zi fun r2 hr2 => ?_
 obtain ⟨_, er2, _, rfl⟩ := Zbh x2 r2 hr2
 refine zc [] (ZR r2.1 (r2.2.map Zv)) [(ZN zl r1.2 z7 zh zj z2 z6 zu zd)] er2<|ze<|zi fun a3 ha3 => zp (bv (!a3)) (et_ (ZlJ (P := PP) (t := 27) (c := .slice none 0 0) (e := Zv) (by kernel_rfl) ha3)) ?_
 refine za (!a3) ?_ ?_
 ·refine ze<|zq ?_
  exact zr ((.p (.tup [(.v (.int .i64 0)), (.lst (shrO r2.1) (r2.2.map Zv)), (.v (.bool (decide (x2 < 97))))])), [(ZN zl r1.2 z7 zh zj z2 z6 zu zd)]) ⟨_, rfl⟩
 ·exact zk (Zfr x2 x5 zl r1.2 z7 zh zj z2 z6 zu zd zy)
def Z7a (x5 : Int) (zl : List Int) (zn z7 zh : Int) (zj : List Zz) (z2 z6 : Int) : Option (Int × (Own × (List Z8)) × Bool × Int × Int × Int) :=
 (Z2F (Z1C.mk zl zn z7 zh zj (Z17.mk z2 z6))).bind fun r1 =>
 if (decide (r1 < 0)) = true then
 ((Z1f 21 x5 zl z2 z6).bind fun r2 =>
 some (0, (.nl, ([] : List Z8)), false, r2.1, r2.2.1, r2.2.2))
 else
 (Z7b r1 x5 zl zn z7 zh zj z2 z6)
theorem ZfK x5 zl zn z7 zh zj z2 z6 zu zd (zy : ZO zd = true) : Sim (Z4t zl z7 zh zj zu zd) (Z7a x5 zl zn z7 zh zj z2 z6) (ZuG 1 (.ptr 0 0) (iv x5) [(ZN zl zn z7 zh zj z2 z6 zu zd)]) := by
 unfold Z7a
 refine zf (ZB3 ..)<|ze<|zi fun r1 hr1 => ?_
 obtain ⟨_, er1, _, rfl⟩ := Z2V (Z1C.mk zl zn z7 zh zj (Z17.mk z2 z6)) zu zd zy r1 hr1
 refine zc [0] (iv r1) [(ZN zl zn z7 zh zj z2 z6 zu zd)] er1<|ze<|zq ?_
 refine za (decide (r1 < 0)) ?_ ?_
 ·refine ze<|zi fun r2 hr2 => ?_
  obtain ⟨_, er2, _, rfl⟩ := Z1j 21 x5 zl zn z7 zh zj z2 z6 zu zd zy r2 hr2
  refine zc [0] (.p (.tup [])) [(ZN zl r2.1 z7 zh zj r2.2.1 r2.2.2 zu zd)] er2<|ze ?_
  exact zr ((.p (.tup [(.v (.int .i64 0)), (.lst .nl []), (.v (.bool false))])), [(ZN zl r2.1 z7 zh zj r2.2.1 r2.2.2 zu zd)]) ⟨_, rfl⟩
 ·exact zk (ZfL r1 x5 zl zn z7 zh zj z2 z6 zu zd zy)
def Z6N (zl : List Int) (zn z7 zh : Int) (zj : List Zz) (z2 z6 : Int) : Option (Int × (Own × (List Z8)) × Bool × Int × Int × Int) :=
 (Z3m zl zn).bind fun r1 =>
 if (r1.1 != 92) = true then
 (some (r1.1, (.nl, ([] : List Z8)), false, r1.2, z2, z6))
 else
 (Z7a zn zl r1.2 z7 zh zj z2 z6)
theorem ZhS zl zn z7 zh zj z2 z6 zu zd (zy : ZO zd = true) : Sim (Z4t zl z7 zh zj zu zd) (Z6N zl zn z7 zh zj z2 z6) (EE 81 [(.ptr 0 0)] [(ZN zl zn z7 zh zj z2 z6 zu zd)]) := by
 unfold Z6N
 refine zf (ZGC ..)<|ze<|ze<|zq<|zq<|zq<|ze<|zi fun r1 hr1 => ?_
 obtain ⟨_, er1, _, rfl⟩ := Z3K zl zn z7 zh zj z2 z6 zu zd zy r1 hr1
 refine zc [0] (iv r1.1) [(ZN zl r1.2 z7 zh zj z2 z6 zu zd)] er1<|ze<|zq ?_
 refine za (r1.1 != 92) ?_ ?_
 ·refine ze ?_
  exact zr ((.p (.tup [(.v (.int .i64 r1.1)), (.lst .nl []), (.v (.bool false))])), [(ZN zl r1.2 z7 zh zj z2 z6 zu zd)]) ⟨_, rfl⟩
 ·exact zk (ZfK zn zl r1.2 z7 zh zj z2 z6 zu zd zy)
theorem Zch zl zn z7 zh zj z2 z6 {r} (h : Z6N zl zn z7 zh zj z2 z6 = some r) : Z5J zl zn z7 zh zj z2 z6 = some r :=
 Z1l (fun _ _ ha hb => ru_ (Zj0 _ _ _ _ _ _) (ha .ex .ex rfl) (hb .ex .ex rfl)) (fun zu zd zy => ZhS zl zn z7 zh zj z2 z6 zu zd zy r h)
def Z80 (x0 z1B : List Z8) : Option (List Z8) :=
 (Z9c z1B x0).bind fun r1 =>
 some r1.1
theorem Zhh (x0 z1B : List Z8) ox0 zi5 : Sim Z7Y (Z80 x0 z1B) (EE 80 [(ZR ox0 (x0.map Zv)), (.ptr 0 0)] [[(ZR zi5 (z1B.map Zv))]]) := by
 unfold Z80
 refine zf (ZGB ..)<|ze<|zq<|zi fun r1 hr1 => ?_
 obtain ⟨_, er1, _, rfl⟩ := Zhw z1B x0 .sh .sh r1 hr1
 refine zc [] (.p (.tup [(.lst .sh (r1.1.map Zv)), (.v (.int .i64 r1.2))])) [[(ZR zi5 (z1B.map Zv))]] er1<|zq<|zq<|zt [[(ZR .sh (r1.1.map Zv))]] ?_
 exact zr ((.p (.tup [])), [[(ZR .sh (r1.1.map Zv))]]) ⟨.sh, _, rfl⟩
theorem ZhP x0 z1B {r} (h : Z80 x0 z1B = some r) : Z6v x0 z1B = some r :=
 Z1l (fun _ _ ha hb => ru_ Zin (ha .ex .ex) (hb .ex .ex)) (fun ox0 zi5 => Zhh x0 z1B ox0 zi5 r h)
def Zaw : Option ((List Z8) × Int) :=
 some (([] : List Z8), 10)
theorem Zeq : Sim Z2T Zaw (Zpy 0 []) := by
 unfold Zaw
 refine zf (ZA4 ..)<|ze ?_
 exact zr ((.p (.tup [(.lst .sh []), (.v (.int .i64 10))])), []) ⟨_, rfl⟩
def Z8F (x0 x1 : List Z8) : Option ((List Z8) × Int) :=
 (ZaV ([x0, x1] : List (List Z8))).bind fun r1 =>
 (ZaN r1).bind fun r2 =>
 some (r2, 0)
theorem Zkl (x0 x1 : List Z8) ox0 ox1 : Sim Z2T (Z8F x0 x1) (ZtF 0 (ZR ox0 (x0.map Zv)) (ZR ox1 (x1.map Zv)) []) := by
 unfold Z8F
 refine zf (ZA5 ..)<|ze<|zq<|zi fun r1 hr1 => ?_
 obtain ⟨_, er1, _, rfl⟩ := ZiI ([x0, x1] : List (List Z8)) .sh r1 hr1
 refine zc [] (ZR .sh (r1.map Zv)) [] er1<|zi fun r2 hr2 => ?_
 obtain ⟨_, er2, _, rfl⟩ := Zdh r1 .sh r2 hr2
 refine zc [] (ZR .sh (r2.map Zv)) [] er2 ?_
 exact zr ((.p (.tup [(.lst .sh (r2.map Zv)), (.v (.int .i64 0))])), []) ⟨_, rfl⟩
def ZaH (x0 x1 : List Z8) : Option ((List Z8) × Int) :=
 (Z4N x0).bind fun r1 =>
 if (!r1) = true then
 Zaw
 else
 ((Z4N x1).bind fun r2 =>
 if (!r2) = true then
 Zaw
 else
 (Z8F x0 x1))
theorem Zmw (x0 x1 : List Z8) ox0 ox1 : Sim Z2T (ZaH x0 x1) (EE 39 [(ZR ox0 (x0.map Zv)), (ZR ox1 (x1.map Zv))] []) := by
 unfold ZaH
 refine zf (ZFy ..)<|ze<|ze<|zi fun r1 hr1 => ?_
 obtain ⟨_, er1, _, rfl⟩ := Z6P x0 .sh r1 hr1
 refine zc [] (bv r1) [] er1<|zq ?_
 refine za (!r1) ?_ ?_
 ·exact zk Zeq
 ·refine zi fun r2 hr2 => ?_
  obtain ⟨_, er2, _, rfl⟩ := Z6P x1 .sh r2 hr2
  refine zc [] (bv r2) [] er2<|zq ?_
  refine za (!r2) ?_ ?_
  ·exact zk Zeq
  ·exact zk (Zkl x0 x1 ox0 ox1)
theorem Zhv x0 x1 {r} (h : ZaH x0 x1 = some r) : Z9c x0 x1 = some r :=
 Z1l (fun _ _ ha hb => ru_ ZaE (ha .ex .ex) (hb .ex .ex)) (fun ox0 ox1 => Zmw x0 x1 ox0 ox1 r h)
def Z5W (zn z7 zh : Int) (zj : List Zz) (z2 z6 z1K z2E z2D z1T z2c : Int) (z2d : List Z8) (b2 : Z9) : Option (Z9 × Bool × Int × Int × Int × (List Zz) × Int × Int) :=
 some ((Z9.mk z1K z2E z2D z1T z2c z2d ([b2] : List Z9)), (z1K != 7), zn, z7, zh, zj, z2, z6)
theorem ZfP zl zn z7 zh zj z2 z6 z1K z2E z2D z1T z2c z2d z3k b2 zu zd zH zE z1c z12 (zy : ZO zd = true) (z19 : ZO zH = true) (z11 : ZO zE = true) : Sim (Z2W zl zu) (Z5W zn z7 zh zj z2 z6 z1K z2E z2D z1T z2c z2d b2) (Zro 1 (.ptr 1 0) (.ptr 2 0) [(ZN zl zn z7 zh zj z2 z6 zu zd), (Z2P z1K z2E z2D z1T z2c z2d z3k zH zE), (Zk b2 z1c z12)]) := by
 unfold Z5W
 refine zf (Zy6 ..)<|ze<|zq<|zp (ZR .ex (([b2] : List Z9).map ZJ)) (Eq.trans (b := some (ZR .ex [.agg (Z22 b2)])) (by kernel_rfl) (by simp only [Z9w, Zfh, Z4W]))<|zq<|zt [(ZN zl zn z7 zh zj z2 z6 zu zd), (Z2P z1K z2E z2D z1T z2c z2d ([b2] : List Z9) zH .ex), (Zk b2 z1c z12)]<|ze<|zq<|zq<|zq<|zq<|zt [(ZN zl zn z7 zh zj z2 z6 zu zd), (Z2P z1K z2E z2D z1T z2c z2d ([b2] : List Z9) (shrO zH) .ex), (Zk b2 z1c z12)] ?_
 exact zr ((.p (.tup [(.agg (ZI (Z9.mk z1K z2E z2D z1T z2c z2d ([b2] : List Z9)) .sh .sh)), (.v (.bool (z1K != 7)))])), [(ZN zl zn z7 zh zj z2 z6 zu zd), (Z2P z1K z2E z2D z1T z2c z2d ([b2] : List Z9) (shrO zH) .ex), (Zk b2 z1c z12)]) ⟨zd, _, zy, rfl⟩
def Z39 (zn z7 zh : Int) (zj : List Zz) (z2 z6 z1K z2E z2D z1T z2c : Int) (z2d : List Z8) (b2 : Z9) : Option (Z9 × Bool × Int × Int × Int × (List Zz) × Int × Int) :=
 if (z1K == 0) = true then
 (some (b2, true, zn, z7, (IntKind.i64.wrap (zh - 1)), zj, z2, z6))
 else
 (Z5W zn z7 (IntKind.i64.wrap (zh - 1)) zj z2 z6 z1K z2E z2D z1T z2c z2d b2)
theorem Z7U zl zn z7 zh zj z2 z6 z1K z2E z2D z1T z2c z2d z3k b2 zu zd zH zE z1c z12 (zy : ZO zd = true) (z19 : ZO zH = true) (z11 : ZO zE = true) : Sim (Z2W zl zu) (Z39 zn z7 zh zj z2 z6 z1K z2E z2D z1T z2c z2d b2) (Zkg 1 (.ptr 0 0) (.ptr 1 0) (.ptr 2 0) [(ZN zl zn z7 zh zj z2 z6 zu zd), (Z2P z1K z2E z2D z1T z2c z2d z3k zH zE), (Zk b2 z1c z12)]) := by
 unfold Z39
 refine zf (Zy5 ..)<|ze<|zq<|zq<|zq<|zq<|zq<|zq<|zt [(ZN zl zn z7 (IntKind.i64.wrap (zh - 1)) zj z2 z6 zu zd), (Z2P z1K z2E z2D z1T z2c z2d z3k zH zE), (Zk b2 z1c z12)]<|ze<|zq<|zq<|zq ?_
 refine za (z1K == 0) ?_ ?_
 ·refine ze<|zq<|zt [(ZN zl zn z7 (IntKind.i64.wrap (zh - 1)) zj z2 z6 zu zd), (Zk b2 (shrO z1c) (shrO z12)), (Zk b2 z1c z12)] ?_
  exact zr ((.p (.tup [(.agg (ZI b2 .sh .sh)), (.v (.bool true))])), [(ZN zl zn z7 (IntKind.i64.wrap (zh - 1)) zj z2 z6 zu zd), (Zk b2 (shrO z1c) (shrO z12)), (Zk b2 z1c z12)]) ⟨zd, _, zy, rfl⟩
 ·exact zk (ZfP zl zn z7 (IntKind.i64.wrap (zh - 1)) zj z2 z6 z1K z2E z2D z1T z2c z2d z3k b2 zu zd zH zE z1c z12 zy z19 z11)
def Z7e (x1 : Int) (zl : List Int) (z7 zh : Int) (zj : List Zz) (z2 z6 z1K z2E z2D z1T z2c : Int) (z2d : List Z8) (b2 : Z9) : Option (Z9 × Bool × Int × Int × Int × (List Zz) × Int × Int) :=
 (Z1f 20 x1 zl z2 z6).bind fun r1 =>
 Z39 r1.1 z7 zh zj r1.2.1 r1.2.2 z1K z2E z2D z1T z2c z2d b2
theorem ZfO x1 zl zn z7 zh zj z2 z6 z1K z2E z2D z1T z2c z2d z3k b2 zu zd zH zE z1c z12 (zy : ZO zd = true) (z19 : ZO zH = true) (z11 : ZO zE = true) : Sim (Z2W zl zu) (Z7e x1 zl z7 zh zj z2 z6 z1K z2E z2D z1T z2c z2d b2) (Zrn 1 (.ptr 0 0) (iv x1) (.ptr 1 0) (.ptr 2 0) [(ZN zl zn z7 zh zj z2 z6 zu zd), (Z2P z1K z2E z2D z1T z2c z2d z3k zH zE), (Zk b2 z1c z12)]) := by
 unfold Z7e
 refine zf (Zy4 ..)<|ze<|zi fun r1 hr1 => ?_
 obtain ⟨_, er1, _, rfl⟩ := Z1j 20 x1 zl zn z7 zh zj z2 z6 zu zd zy r1 hr1
 refine zc [0] (.p (.tup [])) [(ZN zl r1.1 z7 zh zj r1.2.1 r1.2.2 zu zd), (Z2P z1K z2E z2D z1T z2c z2d z3k zH zE), (Zk b2 z1c z12)] er1 ?_
 exact zk (Z7U zl r1.1 z7 zh zj r1.2.1 r1.2.2 z1K z2E z2D z1T z2c z2d z3k b2 zu zd zH zE z1c z12 zy z19 z11)
def Z2s (x1 : Int) (zl : List Int) (zn z7 zh : Int) (zj : List Zz) (z2 z6 z1K z2E z2D z1T z2c : Int) (z2d : List Z8) : Option (Z9 × Bool × Int × Int × Int × (List Zz) × Int × Int) :=
 (Z4f zl zn z7 zh zj z2 z6).bind fun r1 =>
 if (r1.2.2.2.2.2.1 == 0) = true then
 ((Z1J (ByteArray.mk #[41]) zl r1.2.1).bind fun r2 =>
 if (!r2.1) = true then
 (Z7e x1 zl r1.2.2.1 r1.2.2.2.1 r1.2.2.2.2.1 r1.2.2.2.2.2.1 r1.2.2.2.2.2.2 z1K z2E z2D z1T z2c z2d r1.1)
 else
 (Z39 r2.2 r1.2.2.1 r1.2.2.2.1 r1.2.2.2.2.1 r1.2.2.2.2.2.1 r1.2.2.2.2.2.2 z1K z2E z2D z1T z2c z2d r1.1))
 else
 (Z39 r1.2.1 r1.2.2.1 r1.2.2.2.1 r1.2.2.2.2.1 r1.2.2.2.2.2.1 r1.2.2.2.2.2.2 z1K z2E z2D z1T z2c z2d r1.1)
theorem Z3O x1 zl zn z7 zh zj z2 z6 z1K z2E z2D z1T z2c z2d z3k zu zd zH zE (zy : ZO zd = true) (z19 : ZO zH = true) (z11 : ZO zE = true) : Sim (Z2W zl zu) (Z2s x1 zl zn z7 zh zj z2 z6 z1K z2E z2D z1T z2c z2d) (Zeo 1 (.ptr 0 0) (iv x1) (.ptr 1 0) [(ZN zl zn z7 zh zj z2 z6 zu zd), (Z2P z1K z2E z2D z1T z2c z2d z3k zH zE)]) := by
 unfold Z2s
 refine zf (Zy3 ..)<|ze<|zi fun r1 hr1 => ?_
 obtain ⟨_, er1, z5g, _, z9p, rfl⟩ := Zev zl zn z7 zh zj z2 z6 zu zd zy r1 hr1
 refine zc [0] (pA_ (ZI r1.1 .sh .sh)) [(ZN zl r1.2.1 r1.2.2.1 r1.2.2.2.1 r1.2.2.2.2.1 r1.2.2.2.2.2.1 r1.2.2.2.2.2.2 zu z5g), (Z2P z1K z2E z2D z1T z2c z2d z3k zH zE)] er1<|zz (.ptr 2 0) [(ZN zl r1.2.1 r1.2.2.1 r1.2.2.2.1 r1.2.2.2.2.1 r1.2.2.2.2.2.1 r1.2.2.2.2.2.2 zu z5g), (Z2P z1K z2E z2D z1T z2c z2d z3k zH zE), (Zk Z1D .nl .nl)]<|zt [(ZN zl r1.2.1 r1.2.2.1 r1.2.2.2.1 r1.2.2.2.2.1 r1.2.2.2.2.2.1 r1.2.2.2.2.2.2 zu z5g), (Z2P z1K z2E z2D z1T z2c z2d z3k zH zE), (Zk r1.1 .sh .sh)]<|ze<|zq<|zq<|zq<|zq<|zq ?_
 refine za (r1.2.2.2.2.2.1 == 0) ?_ ?_
 ·refine zi fun r2 hr2 => ?_
  obtain ⟨_, er2, _, rfl⟩ := Z1U (ByteArray.mk #[41]) zl r1.2.1 r1.2.2.1 r1.2.2.2.1 r1.2.2.2.2.1 r1.2.2.2.2.2.1 r1.2.2.2.2.2.2 zu z5g z9p r2 hr2
  refine zc [0] (bv r2.1) [(ZN zl r2.2 r1.2.2.1 r1.2.2.2.1 r1.2.2.2.2.1 r1.2.2.2.2.2.1 r1.2.2.2.2.2.2 zu z5g), (Z2P z1K z2E z2D z1T z2c z2d z3k zH zE), (Zk r1.1 .sh .sh)] er2<|zq ?_
  refine za (!r2.1) ?_ ?_
  ·exact zk (ZfO x1 zl r2.2 r1.2.2.1 r1.2.2.2.1 r1.2.2.2.2.1 r1.2.2.2.2.2.1 r1.2.2.2.2.2.2 z1K z2E z2D z1T z2c z2d z3k r1.1 zu z5g zH zE .sh .sh z9p z19 z11)
  ·exact zk (Z7U zl r2.2 r1.2.2.1 r1.2.2.2.1 r1.2.2.2.2.1 r1.2.2.2.2.2.1 r1.2.2.2.2.2.2 z1K z2E z2D z1T z2c z2d z3k r1.1 zu z5g zH zE .sh .sh z9p z19 z11)
 ·exact zk (Z7U zl r1.2.1 r1.2.2.1 r1.2.2.2.1 r1.2.2.2.2.1 r1.2.2.2.2.2.1 r1.2.2.2.2.2.2 z1K z2E z2D z1T z2c z2d z3k r1.1 zu z5g zH zE .sh .sh z9p z19 z11)
def Z6j (x1 : Int) (zl : List Int) (zn z7 zh : Int) (zj : List Zz) (z2 z6 z1K z2E z2D z1T z2c : Int) (z2d : List Z8) : Option (Z9 × Bool × Int × Int × Int × (List Zz) × Int × Int) :=
 (Ze1).bind fun r1 =>
 (Z5S r1 zl zn).bind fun r2 =>
 if (decide (0 ≤ r2.1)) = true then
 (Z2s x1 zl r2.2 z7 (IntKind.i64.wrap (zh + 1)) zj z2 z6 7 0 0 r2.1 0 ([] : List Z8))
 else
 ((Z1J (ByteArray.mk #[63, 62]) zl r2.2).bind fun r3 =>
 if r3.1 = true then
 (Z2s x1 zl r3.2 z7 (IntKind.i64.wrap (zh + 1)) zj z2 z6 8 0 0 0 0 ([] : List Z8))
 else
 ((Z1J (ByteArray.mk #[63, 58]) zl r3.2).bind fun r4 =>
 if r4.1 = true then
 (Z2s x1 zl r4.2 z7 (IntKind.i64.wrap (zh + 1)) zj z2 z6 z1K z2E z2D z1T z2c z2d)
 else
 ((Z2F (Z1C.mk zl r4.2 z7 (IntKind.i64.wrap (zh + 1)) zj (Z17.mk z2 z6))).bind fun r5 =>
 if (r5 == 63) = true then
 ((Z1f 20 x1 zl z2 z6).bind fun r6 =>
 Z2s x1 zl r6.1 z7 (IntKind.i64.wrap (zh + 1)) zj r6.2.1 r6.2.2 z1K z2E z2D z1T z2c z2d)
 else
 (if (z7 == 9) = true then
 ((Z1f 24 x1 zl z2 z6).bind fun r7 =>
 Z2s x1 zl r7.1 z7 (IntKind.i64.wrap (zh + 1)) zj r7.2.1 r7.2.2 z1K z2E z2D z1T z2c z2d)
 else
 (Z2s x1 zl r4.2 (IntKind.i64.wrap (z7 + 1)) (IntKind.i64.wrap (zh + 1)) zj z2 z6 5 0 0 0 (IntKind.i64.wrap (z7 + 1)) ([] : List Z8))))))
theorem ZgJ x1 zl zn z7 zh zj z2 z6 z1K z2E z2D z1T z2c z2d z3k zu zd zH zE (zy : ZO zd = true) (z19 : ZO zH = true) (z11 : ZO zE = true) : Sim (Z2W zl zu) (Z6j x1 zl zn z7 zh zj z2 z6 z1K z2E z2D z1T z2c z2d) (Zur 1 (.ptr 0 0) (iv x1) (.ptr 1 0) [(ZN zl zn z7 zh zj z2 z6 zu zd), (Z2P z1K z2E z2D z1T z2c z2d z3k zH zE)]) := by
 unfold Z6j
 refine zf (ZAP ..)<|ze<|zq<|zq<|zq<|zq<|zq<|zq<|zt [(ZN zl zn z7 (IntKind.i64.wrap (zh + 1)) zj z2 z6 zu zd), (Z2P z1K z2E z2D z1T z2c z2d z3k zH zE)]<|ze<|zi fun r1 hr1 => ?_
 obtain ⟨_, er1, _, rfl⟩ := Zoq r1 hr1
 refine zc [] (ZR .sh (r1.map eS)) [(ZN zl zn z7 (IntKind.i64.wrap (zh + 1)) zj z2 z6 zu zd), (Z2P z1K z2E z2D z1T z2c z2d z3k zH zE)] er1<|zi fun r2 hr2 => ?_
 obtain ⟨_, er2, _, rfl⟩ := Zed r1 zl zn z7 (IntKind.i64.wrap (zh + 1)) zj z2 z6 .sh zu zd zy r2 hr2
 refine zc [0] (iv r2.1) [(ZN zl r2.2 z7 (IntKind.i64.wrap (zh + 1)) zj z2 z6 zu zd), (Z2P z1K z2E z2D z1T z2c z2d z3k zH zE)] er2<|ze<|zq ?_
 refine za (decide (0 ≤ r2.1)) ?_ ?_
 ·refine ze<|zq<|zt [(ZN zl r2.2 z7 (IntKind.i64.wrap (zh + 1)) zj z2 z6 zu zd), (Z2P 7 0 0 r2.1 0 ([] : List Z8) ([] : List Z9) .nl .nl)] ?_
  exact zk (Z3O x1 zl r2.2 z7 (IntKind.i64.wrap (zh + 1)) zj z2 z6 7 0 0 r2.1 0 ([] : List Z8) ([] : List Z9) zu zd .nl .nl zy rfl rfl)
 ·refine ze<|zi fun r3 hr3 => ?_
  obtain ⟨_, er3, _, rfl⟩ := Z1U (ByteArray.mk #[63, 62]) zl r2.2 z7 (IntKind.i64.wrap (zh + 1)) zj z2 z6 zu zd zy r3 hr3
  refine zc [0] (bv r3.1) [(ZN zl r3.2 z7 (IntKind.i64.wrap (zh + 1)) zj z2 z6 zu zd), (Z2P z1K z2E z2D z1T z2c z2d z3k zH zE)] er3 ?_
  refine za r3.1 ?_ ?_
  ·refine ze<|zq<|zt [(ZN zl r3.2 z7 (IntKind.i64.wrap (zh + 1)) zj z2 z6 zu zd), (Z2P 8 0 0 0 0 ([] : List Z8) ([] : List Z9) .nl .nl)] ?_
   exact zk (Z3O x1 zl r3.2 z7 (IntKind.i64.wrap (zh + 1)) zj z2 z6 8 0 0 0 0 ([] : List Z8) ([] : List Z9) zu zd .nl .nl zy rfl rfl)
  ·refine ze<|zi fun r4 hr4 => ?_
   obtain ⟨_, er4, _, rfl⟩ := Z1U (ByteArray.mk #[63, 58]) zl r3.2 z7 (IntKind.i64.wrap (zh + 1)) zj z2 z6 zu zd zy r4 hr4
   refine zc [0] (bv r4.1) [(ZN zl r4.2 z7 (IntKind.i64.wrap (zh + 1)) zj z2 z6 zu zd), (Z2P z1K z2E z2D z1T z2c z2d z3k zH zE)] er4 ?_
   refine za r4.1 ?_ ?_
   ·exact zk (Z3O x1 zl r4.2 z7 (IntKind.i64.wrap (zh + 1)) zj z2 z6 z1K z2E z2D z1T z2c z2d z3k zu zd zH zE zy z19 z11)
   ·refine ze<|zi fun r5 hr5 => ?_
    obtain ⟨_, er5, _, rfl⟩ := Z2V (Z1C.mk zl r4.2 z7 (IntKind.i64.wrap (zh + 1)) zj (Z17.mk z2 z6)) zu zd zy r5 hr5
    refine zc [0] (iv r5) [(ZN zl r4.2 z7 (IntKind.i64.wrap (zh + 1)) zj z2 z6 zu zd), (Z2P z1K z2E z2D z1T z2c z2d z3k zH zE)] er5<|zq ?_
    refine za (r5 == 63) ?_ ?_
    ·refine ze<|zi fun r6 hr6 => ?_
     obtain ⟨_, er6, _, rfl⟩ := Z1j 20 x1 zl r4.2 z7 (IntKind.i64.wrap (zh + 1)) zj z2 z6 zu zd zy r6 hr6
     refine zc [0] (.p (.tup [])) [(ZN zl r6.1 z7 (IntKind.i64.wrap (zh + 1)) zj r6.2.1 r6.2.2 zu zd), (Z2P z1K z2E z2D z1T z2c z2d z3k zH zE)] er6 ?_
     exact zk (Z3O x1 zl r6.1 z7 (IntKind.i64.wrap (zh + 1)) zj r6.2.1 r6.2.2 z1K z2E z2D z1T z2c z2d z3k zu zd zH zE zy z19 z11)
    ·refine ze<|zq<|zq<|zq<|zq ?_
     refine za (z7 == 9) ?_ ?_
     ·refine ze<|zi fun r7 hr7 => ?_
      obtain ⟨_, er7, _, rfl⟩ := Z1j 24 x1 zl r4.2 z7 (IntKind.i64.wrap (zh + 1)) zj z2 z6 zu zd zy r7 hr7
      refine zc [0] (.p (.tup [])) [(ZN zl r7.1 z7 (IntKind.i64.wrap (zh + 1)) zj r7.2.1 r7.2.2 zu zd), (Z2P z1K z2E z2D z1T z2c z2d z3k zH zE)] er7 ?_
      exact zk (Z3O x1 zl r7.1 z7 (IntKind.i64.wrap (zh + 1)) zj r7.2.1 r7.2.2 z1K z2E z2D z1T z2c z2d z3k zu zd zH zE zy z19 z11)
     ·refine ze<|zq<|zq<|zq<|zq<|zq<|zq<|zt [(ZN zl r4.2 (IntKind.i64.wrap (z7 + 1)) (IntKind.i64.wrap (zh + 1)) zj z2 z6 zu zd), (Z2P z1K z2E z2D z1T z2c z2d z3k zH zE)]<|ze<|zq<|zq<|zq<|zq<|zt [(ZN zl r4.2 (IntKind.i64.wrap (z7 + 1)) (IntKind.i64.wrap (zh + 1)) zj z2 z6 zu zd), (Z2P 5 0 0 0 (IntKind.i64.wrap (z7 + 1)) ([] : List Z8) ([] : List Z9) .nl .nl)] ?_
      exact zk (Z3O x1 zl r4.2 (IntKind.i64.wrap (z7 + 1)) (IntKind.i64.wrap (zh + 1)) zj z2 z6 5 0 0 0 (IntKind.i64.wrap (z7 + 1)) ([] : List Z8) ([] : List Z9) zu zd .nl .nl zy rfl rfl)
def Z64 (x1 : Int) (zl : List Int) (zn z7 zh : Int) (zj : List Zz) (z2 z6 : Int) : Option (Z9 × Bool × Int × Int × Int × (List Zz) × Int × Int) :=
 if (zh == 32) = true then
 ((Z1f 25 x1 zl z2 z6).bind fun r1 =>
 some ((Z9.mk 0 0 0 0 0 ([] : List Z8) ([] : List Z9)), true, r1.1, z7, zh, zj, r1.2.1, r1.2.2))
 else
 (Z6j x1 zl zn z7 zh zj z2 z6 0 0 0 0 0 ([] : List Z8))
theorem ZiC x1 zl zn z7 zh zj z2 z6 zu zd (zy : ZO zd = true) : Sim (Z2W zl zu) (Z64 x1 zl zn z7 zh zj z2 z6) (EE 68 [(.ptr 0 0), (iv x1)] [(ZN zl zn z7 zh zj z2 z6 zu zd)]) := by
 unfold Z64
 refine zf (ZGl ..)<|ze<|zz (.ptr 1 0) [(ZN zl zn z7 zh zj z2 z6 zu zd), (Zk Z1D .nl .nl)]<|ze<|zq<|zq<|zq<|zq ?_
 refine za (zh == 32) ?_ ?_
 ·refine ze<|zi fun r1 hr1 => ?_
  obtain ⟨_, er1, _, rfl⟩ := Z1j 25 x1 zl zn z7 zh zj z2 z6 zu zd zy r1 hr1
  refine zc [0] (.p (.tup [])) [(ZN zl r1.1 z7 zh zj r1.2.1 r1.2.2 zu zd), (Zk Z1D .nl .nl)] er1<|ze<|zq<|zt [(ZN zl r1.1 z7 zh zj r1.2.1 r1.2.2 zu zd), (Zk Z1D .nl .nl)] ?_
  exact zr ((.p (.tup [(.agg (ZI Z1D .sh .sh)), (.v (.bool true))])), [(ZN zl r1.1 z7 zh zj r1.2.1 r1.2.2 zu zd), (Zk Z1D .nl .nl)]) ⟨zd, _, zy, rfl⟩
 ·exact zk (ZgJ x1 zl zn z7 zh zj z2 z6 0 0 0 0 0 ([] : List Z8) ([] : List Z9) zu zd .nl .nl zy rfl rfl)
theorem Z9N x1 zl zn z7 zh zj z2 z6 {r} (h : Z64 x1 zl zn z7 zh zj z2 z6 = some r) : Z4X x1 zl zn z7 zh zj z2 z6 = some r :=
 Z1l (fun _ _ ha hb => ru_ (ZdB _ _) (ha .ex .ex rfl) (hb .ex .ex rfl)) (fun zu zd zy => ZiC x1 zl zn z7 zh zj z2 z6 zu zd zy r h)
def Zhf : Option (List ByteArray) :=
 some ([(ByteArray.mk #[63, 61]), (ByteArray.mk #[63, 33]), (ByteArray.mk #[63, 60, 61]), (ByteArray.mk #[63, 60, 33])] : List ByteArray)
theorem ZnQ : Sim ZdV Zhf (EE 83 [] []) := by
 unfold Zhf
 refine zf (ZGF ..)<|ze<|ze<|zq ?_
 exact zr ((ZR .sh (([(ByteArray.mk #[63, 61]), (ByteArray.mk #[63, 33]), (ByteArray.mk #[63, 60, 61]), (ByteArray.mk #[63, 60, 33])] : List ByteArray).map eS)), []) ⟨_, rfl⟩
theorem Zop {r} (h : Zhf = some r) : Ze1 = some r :=
 Z1l (fun _ _ ha hb => ru_ Zp0 ha hb) (ZnQ r h)
def Z5P (x0 : List ByteArray) (zl : List Int) (zn : Int) : Option (Int × Int) :=
 Z2m x0 (x0.length : Int) 0 zl zn
theorem ZdQ (x0 : List ByteArray) zl zn z7 zh zj z2 z6 ox0 zu zd (zy : ZO zd = true) : Sim (Z2b zl z7 zh zj z2 z6 zu zd) (Z5P x0 zl zn) (EE 82 [(ZR ox0 (x0.map eS)), (.clo 19 [(.ptr 0 0)] [])] [(ZN zl zn z7 zh zj z2 z6 zu zd)]) := by
 unfold Z5P
 refine zf (ZGD ..)<|ze<|ze<|zp (iv (x0.length : Int)) (et_ (Z2S (P := PP) (t := 121) (d := 9) (by kernel_rfl) eS (shrO ox0) x0)) ?_
 exact zk (Z8v x0 (x0.length : Int) 0 zl zn z7 zh zj z2 z6 ox0 zu zd zy)
theorem Zec x0 zl zn {r} (h : Z5P x0 zl zn = some r) : Z5S x0 zl zn = some r :=
 Z1l (fun _ _ ha hb => ru_ (Z6F _ _ _ _ _ _ _ _) (ha default default default default default .ex .ex .ex rfl) (hb default default default default default .ex .ex .ex rfl)) (fun z7 zh zj z2 z6 ox0 zu zd zy => ZdQ x0 zl zn z7 zh zj z2 z6 ox0 zu zd zy r h)
def Z4V (x0 : List ByteArray) (x7 x8 : Int) (zl : List Int) (zn : Int) : Option (Int × Int) :=
 Z2m x0 x7 (IntKind.i64.wrap (x8 + 1)) zl zn
theorem Zcp (x0 : List ByteArray) x7 x8 zl zn z7 zh zj z2 z6 ox0 zu zd (zy : ZO zd = true) : Sim (Z2b zl z7 zh zj z2 z6 zu zd) (Z4V x0 x7 x8 zl zn) (ZuM 1 (ZR ox0 (x0.map eS)) (.clo 19 [(.ptr 0 0)] []) (iv x7) (iv x8) [(ZN zl zn z7 zh zj z2 z6 zu zd)]) := by
 unfold Z4V
 refine zf (ZB8 ..)<|ze<|zq ?_
 exact zk (Z8v x0 x7 (IntKind.i64.wrap (x8 + 1)) zl zn z7 zh zj z2 z6 ox0 zu zd zy)
def Z3S (x0 : List ByteArray) (x7 x8 : Int) (zl : List Int) (zn : Int) : Option (Int × Int) :=
 (lget x0 x8).bind fun a1 =>
 (Z1J a1 zl zn).bind fun r2 =>
 if r2.1 = true then
 (some (x8, r2.2))
 else
 (Z4V x0 x7 x8 zl r2.2)
theorem Zco (x0 : List ByteArray) x7 x8 zl zn z7 zh zj z2 z6 ox0 zu zd (zy : ZO zd = true) : Sim (Z2b zl z7 zh zj z2 z6 zu zd) (Z3S x0 x7 x8 zl zn) (ZuL 1 (ZR ox0 (x0.map eS)) (.clo 19 [(.ptr 0 0)] []) (iv x7) (iv x8) [(ZN zl zn z7 zh zj z2 z6 zu zd)]) := by
 unfold Z3S
 refine zf (ZB7 ..)<|ze<|ze<|zi fun a1 ha1 => zp (.cptr [(.v (.string a1))]) (et_ (Z2k (o := (shrO ox0)) (k := .i64) (n := 1) (e := eS) (cs := (fun a => [eS a])) (fun _ => rfl) (fun _ => rfl) (by decide) ha1))<|zq<|zi fun r2 hr2 => ?_
 obtain ⟨_, er2, _, rfl⟩ := Z1U a1 zl zn z7 zh zj z2 z6 zu zd zy r2 hr2
 refine zv [0] (bv r2.1) [(ZN zl r2.2 z7 zh zj z2 z6 zu zd)] er2 ?_
 refine za r2.1 ?_ ?_
 ·refine ze ?_
  exact zr ((iv x8), [(ZN zl r2.2 z7 zh zj z2 z6 zu zd)]) ⟨_, rfl⟩
 ·exact zk (Zcp x0 x7 x8 zl r2.2 z7 zh zj z2 z6 ox0 zu zd zy)
def Z6A (zn : Int) : Option (Int × Int) :=
 some ((-1), zn)
theorem Zcq zl zn z7 zh zj z2 z6 zu zd (zy : ZO zd = true) : Sim (Z2b zl z7 zh zj z2 z6 zu zd) (Z6A zn) (ZuN 1 [(ZN zl zn z7 zh zj z2 z6 zu zd)]) := by
 unfold Z6A
 refine zf (ZB9 ..)<|ze ?_
 exact zr ((iv (-1)), [(ZN zl zn z7 zh zj z2 z6 zu zd)]) ⟨_, rfl⟩
def Z3s (x0 : List ByteArray) (x7 x8 : Int) (zl : List Int) (zn : Int) : Option (Int × Int) :=
 if (decide (x8 < x7)) = true then
 (Z3S x0 x7 x8 zl zn)
 else
 (Z6A zn)
theorem Zcn (x0 : List ByteArray) x7 x8 zl zn z7 zh zj z2 z6 ox0 zu zd (zy : ZO zd = true) : Sim (Z2b zl z7 zh zj z2 z6 zu zd) (Z3s x0 x7 x8 zl zn) (Zmp 1 (ZR ox0 (x0.map eS)) (.clo 19 [(.ptr 0 0)] []) (iv x7) (iv x8) [(ZN zl zn z7 zh zj z2 z6 zu zd)]) := by
 unfold Z3s
 refine zf (ZB6 ..)<|ze<|zq ?_
 refine za (decide (x8 < x7)) ?_ ?_
 ·exact zk (Zco x0 x7 x8 zl zn z7 zh zj z2 z6 ox0 zu zd zy)
 ·exact zk (Zcq zl zn z7 zh zj z2 z6 zu zd zy)
theorem Z6g x0 x7 x8 zl zn {r} (h : Z3s x0 x7 x8 zl zn = some r) : Z2m x0 x7 x8 zl zn = some r :=
 Z1l (fun _ _ ha hb => ru_ (Z6F _ _ _ _ _ _ _ _) (ha default default default default default .ex .ex .ex rfl) (hb default default default default default .ex .ex .ex rfl)) (fun z7 zh zj z2 z6 ox0 zu zd zy => Zcn x0 x7 x8 zl zn z7 zh zj z2 z6 ox0 zu zd zy r h)
def Z4n (zn z2 z6 z3d z4r z4q z3N z3E : Int) (z2r : List Z8) (z3c : List Z9) : Option (Z9 × Int × Int × Int) :=
 some ((Z9.mk z3d z4r z4q z3N z3E z2r z3c), zn, z2, z6)
theorem Z7E zl zn z7 zh zj z2 z6 b1 b2 z3d z4r z4q z3N z3E z2r z3c zu zd zH zE z1c z12 z34 z3V (zy : ZO zd = true) (zee : ZO z1c = true) (zcr : ZO z12 = true) (zbk : ZO z34 = true) (zcs : ZO z3V = true) : Sim (Z1I zl z7 zh zj zu zd) (Z4n zn z2 z6 z3d z4r z4q z3N z3E z2r z3c) (Zkd 1 (.ptr 2 0) (.ptr 3 0) [(ZN zl zn z7 zh zj z2 z6 zu zd), (Zk b1 zH zE), (Zk b2 z1c z12), (Z2P z3d z4r z4q z3N z3E z2r z3c z34 z3V)]) := by
 unfold Z4n
 refine zf (ZxQ ..)<|ze<|zq<|zt [(ZN zl zn z7 zh zj z2 z6 zu zd), (Zk b1 zH zE), (Z2P z3d z4r z4q z3N z3E z2r z3c (shrO z34) (shrO z3V)), (Z2P z3d z4r z4q z3N z3E z2r z3c z34 z3V)] ?_
 exact zr ((pA_ (ZI (Z9.mk z3d z4r z4q z3N z3E z2r z3c) .sh .sh)), [(ZN zl zn z7 zh zj z2 z6 zu zd), (Zk b1 zH zE), (Z2P z3d z4r z4q z3N z3E z2r z3c (shrO z34) (shrO z3V)), (Z2P z3d z4r z4q z3N z3E z2r z3c z34 z3V)]) ⟨_, rfl⟩
def Z3H (zl : List Int) (zn z2 z6 z3d z4r z4q z3N z3E : Int) (z2r : List Z8) (z3c : List Z9) : Option (Z9 × Int × Int × Int) :=
 (Z1J (ByteArray.mk #[63]) zl zn).bind fun r1 =>
 if r1.1 = true then
 (Z4n r1.2 z2 z6 z3d z4r z4q 1 z3E z2r z3c)
 else
 ((Z1J (ByteArray.mk #[43]) zl r1.2).bind fun r2 =>
 if r2.1 = true then
 (Z4n r2.2 z2 z6 z3d z4r z4q 2 z3E z2r z3c)
 else
 (Z4n r2.2 z2 z6 z3d z4r z4q z3N z3E z2r z3c))
theorem Zar zl zn z7 zh zj z2 z6 b1 b2 z3d z4r z4q z3N z3E z2r z3c zu zd zH zE z1c z12 z34 z3V (zy : ZO zd = true) (zee : ZO z1c = true) (zcr : ZO z12 = true) (zbk : ZO z34 = true) (zcs : ZO z3V = true) : Sim (Z1I zl z7 zh zj zu zd) (Z3H zl zn z2 z6 z3d z4r z4q z3N z3E z2r z3c) (Znv 1 (.ptr 0 0) (.ptr 2 0) (.ptr 3 0) [(ZN zl zn z7 zh zj z2 z6 zu zd), (Zk b1 zH zE), (Zk b2 z1c z12), (Z2P z3d z4r z4q z3N z3E z2r z3c z34 z3V)]) := by
 unfold Z3H
 refine zf (ZxP ..)<|ze<|zi fun r1 hr1 => ?_
 obtain ⟨_, er1, _, rfl⟩ := Z1U (ByteArray.mk #[63]) zl zn z7 zh zj z2 z6 zu zd zy r1 hr1
 refine zc [0] (bv r1.1) [(ZN zl r1.2 z7 zh zj z2 z6 zu zd), (Zk b1 zH zE), (Zk b2 z1c z12), (Z2P z3d z4r z4q z3N z3E z2r z3c z34 z3V)] er1 ?_
 refine za r1.1 ?_ ?_
 ·refine ze<|zq<|zt [(ZN zl r1.2 z7 zh zj z2 z6 zu zd), (Zk b1 zH zE), (Zk b2 z1c z12), (Z2P z3d z4r z4q 1 z3E z2r z3c z34 z3V)] ?_
  exact zk (Z7E zl r1.2 z7 zh zj z2 z6 b1 b2 z3d z4r z4q 1 z3E z2r z3c zu zd zH zE z1c z12 z34 z3V zy zee zcr zbk zcs)
 ·refine ze<|zi fun r2 hr2 => ?_
  obtain ⟨_, er2, _, rfl⟩ := Z1U (ByteArray.mk #[43]) zl r1.2 z7 zh zj z2 z6 zu zd zy r2 hr2
  refine zc [0] (bv r2.1) [(ZN zl r2.2 z7 zh zj z2 z6 zu zd), (Zk b1 zH zE), (Zk b2 z1c z12), (Z2P z3d z4r z4q z3N z3E z2r z3c z34 z3V)] er2 ?_
  refine za r2.1 ?_ ?_
  ·refine ze<|zq<|zt [(ZN zl r2.2 z7 zh zj z2 z6 zu zd), (Zk b1 zH zE), (Zk b2 z1c z12), (Z2P z3d z4r z4q 2 z3E z2r z3c z34 z3V)] ?_
   exact zk (Z7E zl r2.2 z7 zh zj z2 z6 b1 b2 z3d z4r z4q 2 z3E z2r z3c zu zd zH zE z1c z12 z34 z3V zy zee zcr zbk zcs)
  ·exact zk (Z7E zl r2.2 z7 zh zj z2 z6 b1 b2 z3d z4r z4q z3N z3E z2r z3c zu zd zH zE z1c z12 z34 z3V zy zee zcr zbk zcs)
def Z36 (x2 : Bool) (x7 : Int) (zl : List Int) (zn z2 z6 z3d z4r z4q z3N z3E : Int) (z2r : List Z8) (z3c : List Z9) : Option (Z9 × Int × Int × Int) :=
 if (!x2) = true then
 ((Z1f 23 x7 zl z2 z6).bind fun r1 =>
 Z3H zl r1.1 r1.2.1 r1.2.2 z3d z4r z4q z3N z3E z2r z3c)
 else
 (Z3H zl zn z2 z6 z3d z4r z4q z3N z3E z2r z3c)
theorem Z5R x2 x7 zl zn z7 zh zj z2 z6 b1 b2 z3d z4r z4q z3N z3E z2r z3c zu zd zH zE z1c z12 z34 z3V (zy : ZO zd = true) (zee : ZO z1c = true) (zcr : ZO z12 = true) (zbk : ZO z34 = true) (zcs : ZO z3V = true) : Sim (Z1I zl z7 zh zj zu zd) (Z36 x2 x7 zl zn z2 z6 z3d z4r z4q z3N z3E z2r z3c) (Zid 1 (.ptr 0 0) (bv x2) (.ptr 2 0) (iv x7) (.ptr 3 0) [(ZN zl zn z7 zh zj z2 z6 zu zd), (Zk b1 zH zE), (Zk b2 z1c z12), (Z2P z3d z4r z4q z3N z3E z2r z3c z34 z3V)]) := by
 unfold Z36
 refine zf (ZxO ..)<|ze<|zq ?_
 refine za (!x2) ?_ ?_
 ·refine ze<|zi fun r1 hr1 => ?_
  obtain ⟨_, er1, _, rfl⟩ := Z1j 23 x7 zl zn z7 zh zj z2 z6 zu zd zy r1 hr1
  refine zc [0] (.p (.tup [])) [(ZN zl r1.1 z7 zh zj r1.2.1 r1.2.2 zu zd), (Zk b1 zH zE), (Zk b2 z1c z12), (Z2P z3d z4r z4q z3N z3E z2r z3c z34 z3V)] er1 ?_
  exact zk (Zar zl r1.1 z7 zh zj r1.2.1 r1.2.2 b1 b2 z3d z4r z4q z3N z3E z2r z3c zu zd zH zE z1c z12 z34 z3V zy zee zcr zbk zcs)
 ·exact zk (Zar zl zn z7 zh zj z2 z6 b1 b2 z3d z4r z4q z3N z3E z2r z3c zu zd zH zE z1c z12 z34 z3V zy zee zcr zbk zcs)
def Z5F (x1 : Z9) (x2 : Bool) (zl : List Int) (zn z7 zh : Int) (zj : List Zz) (z2 z6 : Int) : Option (Z9 × Int × Int × Int) :=
 (Z1J (ByteArray.mk #[42]) zl zn).bind fun r1 =>
 if r1.1 = true then
 (Z36 x2 zn zl r1.2 z2 z6 4 0 (-1) 0 0 ([] : List Z8) ([x1] : List Z9))
 else
 ((Z1J (ByteArray.mk #[43]) zl r1.2).bind fun r2 =>
 if r2.1 = true then
 (Z36 x2 zn zl r2.2 z2 z6 4 1 (-1) 0 0 ([] : List Z8) ([x1] : List Z9))
 else
 ((Z1J (ByteArray.mk #[63]) zl r2.2).bind fun r3 =>
 if r3.1 = true then
 (Z36 x2 zn zl r3.2 z2 z6 4 0 1 0 0 ([] : List Z8) ([x1] : List Z9))
 else
 ((Z1J (ByteArray.mk #[123]) zl r3.2).bind fun r4 =>
 if r4.1 = true then
 ((Z6R zn zl r4.2 z7 zh zj z2 z6).bind fun r5 =>
 Z36 x2 zn zl r5.2.2.1 r5.2.2.2.1 r5.2.2.2.2 4 r5.1 r5.2.1 0 0 ([] : List Z8) ([x1] : List Z9))
 else
 (some (x1, r4.2, z2, z6)))))
theorem ZhU x1 x2 zl zn z7 zh zj z2 z6 zQ z10 zu zd (zy : ZO zd = true) : Sim (Z1I zl z7 zh zj zu zd) (Z5F x1 x2 zl zn z7 zh zj z2 z6) (EE 49 [(.ptr 0 0), (pA_ (ZI x1 zQ z10)), (bv x2)] [(ZN zl zn z7 zh zj z2 z6 zu zd)]) := by
 unfold Z5F
 refine zf (ZFU ..)<|ze<|zx (.ptr 1 0) [(ZN zl zn z7 zh zj z2 z6 zu zd), (Zk x1 zQ z10)]<|zz (.ptr 2 0) [(ZN zl zn z7 zh zj z2 z6 zu zd), (Zk x1 zQ z10), (Zk Z1D .nl .nl)]<|ze<|zq<|zq<|zq<|ze<|zq<|zp (ZR .ex (([x1] : List Z9).map ZJ)) (Eq.trans (b := some (ZR .ex [.agg (Z22 x1)])) (by kernel_rfl) (by simp only [Z9w, Zfh, Z4W]))<|zq<|zz (.ptr 3 0) [(ZN zl zn z7 zh zj z2 z6 zu zd), (Zk x1 zQ z10), (Zk Z1D .nl .nl), (Zk Z1D .nl .nl)]<|zt [(ZN zl zn z7 zh zj z2 z6 zu zd), (Zk x1 zQ z10), (Zk Z1D .nl .nl), (Z2P 4 0 (-1) 0 0 ([] : List Z8) ([x1] : List Z9) .nl .ex)]<|ze<|zi fun r1 hr1 => ?_
 obtain ⟨_, er1, _, rfl⟩ := Z1U (ByteArray.mk #[42]) zl zn z7 zh zj z2 z6 zu zd zy r1 hr1
 refine zc [0] (bv r1.1) [(ZN zl r1.2 z7 zh zj z2 z6 zu zd), (Zk x1 zQ z10), (Zk Z1D .nl .nl), (Z2P 4 0 (-1) 0 0 ([] : List Z8) ([x1] : List Z9) .nl .ex)] er1 ?_
 refine za r1.1 ?_ ?_
 ·exact zk (Z5R x2 zn zl r1.2 z7 zh zj z2 z6 x1 Z1D 4 0 (-1) 0 0 ([] : List Z8) ([x1] : List Z9) zu zd zQ z10 .nl .nl .nl .ex zy rfl rfl rfl rfl)
 ·refine ze<|zi fun r2 hr2 => ?_
  obtain ⟨_, er2, _, rfl⟩ := Z1U (ByteArray.mk #[43]) zl r1.2 z7 zh zj z2 z6 zu zd zy r2 hr2
  refine zc [0] (bv r2.1) [(ZN zl r2.2 z7 zh zj z2 z6 zu zd), (Zk x1 zQ z10), (Zk Z1D .nl .nl), (Z2P 4 0 (-1) 0 0 ([] : List Z8) ([x1] : List Z9) .nl .ex)] er2 ?_
  refine za r2.1 ?_ ?_
  ·refine ze<|zq<|zt [(ZN zl r2.2 z7 zh zj z2 z6 zu zd), (Zk x1 zQ z10), (Zk Z1D .nl .nl), (Z2P 4 1 (-1) 0 0 ([] : List Z8) ([x1] : List Z9) .nl .ex)] ?_
   exact zk (Z5R x2 zn zl r2.2 z7 zh zj z2 z6 x1 Z1D 4 1 (-1) 0 0 ([] : List Z8) ([x1] : List Z9) zu zd zQ z10 .nl .nl .nl .ex zy rfl rfl rfl rfl)
  ·refine ze<|zi fun r3 hr3 => ?_
   obtain ⟨_, er3, _, rfl⟩ := Z1U (ByteArray.mk #[63]) zl r2.2 z7 zh zj z2 z6 zu zd zy r3 hr3
   refine zc [0] (bv r3.1) [(ZN zl r3.2 z7 zh zj z2 z6 zu zd), (Zk x1 zQ z10), (Zk Z1D .nl .nl), (Z2P 4 0 (-1) 0 0 ([] : List Z8) ([x1] : List Z9) .nl .ex)] er3 ?_
   refine za r3.1 ?_ ?_
   ·refine ze<|zq<|zt [(ZN zl r3.2 z7 zh zj z2 z6 zu zd), (Zk x1 zQ z10), (Zk Z1D .nl .nl), (Z2P 4 0 1 0 0 ([] : List Z8) ([x1] : List Z9) .nl .ex)] ?_
    exact zk (Z5R x2 zn zl r3.2 z7 zh zj z2 z6 x1 Z1D 4 0 1 0 0 ([] : List Z8) ([x1] : List Z9) zu zd zQ z10 .nl .nl .nl .ex zy rfl rfl rfl rfl)
   ·refine ze<|zi fun r4 hr4 => ?_
    obtain ⟨_, er4, _, rfl⟩ := Z1U (ByteArray.mk #[123]) zl r3.2 z7 zh zj z2 z6 zu zd zy r4 hr4
    refine zc [0] (bv r4.1) [(ZN zl r4.2 z7 zh zj z2 z6 zu zd), (Zk x1 zQ z10), (Zk Z1D .nl .nl), (Z2P 4 0 (-1) 0 0 ([] : List Z8) ([x1] : List Z9) .nl .ex)] er4 ?_
    refine za r4.1 ?_ ?_
    ·refine ze<|zi fun r5 hr5 => ?_
     obtain ⟨_, er5, _, rfl⟩ := Ziy zn zl r4.2 z7 zh zj z2 z6 zu zd zy r5 hr5
     refine zc [0] (.p (.tup [(.v (.int .i64 r5.1)), (.v (.int .i64 r5.2.1))])) [(ZN zl r5.2.2.1 z7 zh zj r5.2.2.2.1 r5.2.2.2.2 zu zd), (Zk x1 zQ z10), (Zk Z1D .nl .nl), (Z2P 4 0 (-1) 0 0 ([] : List Z8) ([x1] : List Z9) .nl .ex)] er5<|zq<|zq<|zq<|zt [(ZN zl r5.2.2.1 z7 zh zj r5.2.2.2.1 r5.2.2.2.2 zu zd), (Zk x1 zQ z10), (Zk Z1D .nl .nl), (Z2P 4 r5.1 (-1) 0 0 ([] : List Z8) ([x1] : List Z9) .nl .ex)]<|zq<|zt [(ZN zl r5.2.2.1 z7 zh zj r5.2.2.2.1 r5.2.2.2.2 zu zd), (Zk x1 zQ z10), (Zk Z1D .nl .nl), (Z2P 4 r5.1 r5.2.1 0 0 ([] : List Z8) ([x1] : List Z9) .nl .ex)] ?_
     exact zk (Z5R x2 zn zl r5.2.2.1 z7 zh zj r5.2.2.2.1 r5.2.2.2.2 x1 Z1D 4 r5.1 r5.2.1 0 0 ([] : List Z8) ([x1] : List Z9) zu zd zQ z10 .nl .nl .nl .ex zy rfl rfl rfl rfl)
    ·refine ze<|zq<|zt [(ZN zl r4.2 z7 zh zj z2 z6 zu zd), (Zk x1 zQ z10), (Zk x1 (shrO zQ) (shrO z10)), (Z2P 4 0 (-1) 0 0 ([] : List Z8) ([x1] : List Z9) .nl .ex)] ?_
     exact zr ((pA_ (ZI x1 .sh .sh)), [(ZN zl r4.2 z7 zh zj z2 z6 zu zd), (Zk x1 zQ z10), (Zk x1 (shrO zQ) (shrO z10)), (Z2P 4 0 (-1) 0 0 ([] : List Z8) ([x1] : List Z9) .nl .ex)]) ⟨_, rfl⟩
theorem Zck x1 x2 zl zn z7 zh zj z2 z6 {r} (h : Z5F x1 x2 zl zn z7 zh zj z2 z6 = some r) : Z6S x1 x2 zl zn z7 zh zj z2 z6 = some r :=
 Z1l (fun _ _ ha hb => ru_ (Zal _ _ _ _ _ _) (ha .ex .ex .ex .ex rfl) (hb .ex .ex .ex .ex rfl)) (fun zQ z10 zu zd zy => ZhU x1 x2 zl zn z7 zh zj z2 z6 zQ z10 zu zd zy r h)
def Z9i (x4 zn z2 z6 : Int) : Option (Int × Int × Int × Int × Int) :=
 some (x4, (-1), zn, z2, z6)
theorem ZfI x4 zl zn z7 zh zj z2 z6 zu zd (zy : ZO zd = true) : Sim (Z3i zl z7 zh zj zu zd) (Z9i x4 zn z2 z6) (Zuu 1 (iv x4) [(ZN zl zn z7 zh zj z2 z6 zu zd)]) := by
 unfold Z9i
 refine zf (ZAS ..)<|ze ?_
 exact zr ((.p (.tup [(.v (.int .i64 x4)), (.v (.int .i64 (-1)))])), [(ZN zl zn z7 zh zj z2 z6 zu zd)]) ⟨_, rfl⟩
def Z6Y (x4 x5 zn z2 z6 : Int) : Option (Int × Int × Int × Int × Int) :=
 some (x4, x5, zn, z2, z6)
theorem Zap x4 x5 zl zn z7 zh zj z2 z6 zu zd (zy : ZO zd = true) : Sim (Z3i zl z7 zh zj zu zd) (Z6Y x4 x5 zn z2 z6) (ZnA 1 (iv x4) (iv x5) [(ZN zl zn z7 zh zj z2 z6 zu zd)]) := by
 unfold Z6Y
 refine zf (Zy8 ..)<|ze ?_
 exact zr ((.p (.tup [(.v (.int .i64 x4)), (.v (.int .i64 x5))])), [(ZN zl zn z7 zh zj z2 z6 zu zd)]) ⟨_, rfl⟩
def Z3n (x1 x4 x5 : Int) (zl : List Int) (z2 z6 : Int) : Option (Int × Int × Int × Int × Int) :=
 (Z1f 23 x1 zl z2 z6).bind fun r1 =>
 Z6Y x4 x5 r1.1 r1.2.1 r1.2.2
theorem Z5Q x1 x4 x5 zl zn z7 zh zj z2 z6 zu zd (zy : ZO zd = true) : Sim (Z3i zl z7 zh zj zu zd) (Z3n x1 x4 x5 zl z2 z6) (Zig 1 (.ptr 0 0) (iv x1) (iv x4) (iv x5) [(ZN zl zn z7 zh zj z2 z6 zu zd)]) := by
 unfold Z3n
 refine zf (Zy7 ..)<|ze<|zi fun r1 hr1 => ?_
 obtain ⟨_, er1, _, rfl⟩ := Z1j 23 x1 zl zn z7 zh zj z2 z6 zu zd zy r1 hr1
 refine zc [0] (.p (.tup [])) [(ZN zl r1.1 z7 zh zj r1.2.1 r1.2.2 zu zd)] er1 ?_
 exact zk (Zap x4 x5 zl r1.1 z7 zh zj r1.2.1 r1.2.2 zu zd zy)
def Z38 (x1 x4 x5 : Int) (zl : List Int) (zn z2 z6 : Int) : Option (Int × Int × Int × Int × Int) :=
 if (decide (x4 < 0)) = true then
 (Z3n x1 x4 x5 zl z2 z6)
 else
 (if (decide (x5 < x4)) = true then
 (Z3n x1 x4 x5 zl z2 z6)
 else
 (if (decide (64 < x5)) = true then
 (Z3n x1 x4 x5 zl z2 z6)
 else
 ((Z1J (ByteArray.mk #[125]) zl zn).bind fun r1 =>
 if (!r1.1) = true then
 (Z3n x1 x4 x5 zl z2 z6)
 else
 (Z6Y x4 x5 r1.2 z2 z6))))
theorem Z6d x1 x4 x5 zl zn z7 zh zj z2 z6 zu zd (zy : ZO zd = true) : Sim (Z3i zl z7 zh zj zu zd) (Z38 x1 x4 x5 zl zn z2 z6) (Zki 1 (.ptr 0 0) (iv x1) (iv x4) (iv x5) [(ZN zl zn z7 zh zj z2 z6 zu zd)]) := by
 unfold Z38
 refine zf (ZAU ..)<|ze<|zq ?_
 refine za (decide (x4 < 0)) ?_ ?_
 ·exact zk (Z5Q x1 x4 x5 zl zn z7 zh zj z2 z6 zu zd zy)
 ·refine zq ?_
  refine za (decide (x5 < x4)) ?_ ?_
  ·exact zk (Z5Q x1 x4 x5 zl zn z7 zh zj z2 z6 zu zd zy)
  ·refine zq ?_
   refine za (decide (64 < x5)) ?_ ?_
   ·exact zk (Z5Q x1 x4 x5 zl zn z7 zh zj z2 z6 zu zd zy)
   ·refine zi fun r1 hr1 => ?_
    obtain ⟨_, er1, _, rfl⟩ := Z1U (ByteArray.mk #[125]) zl zn z7 zh zj z2 z6 zu zd zy r1 hr1
    refine zc [0] (bv r1.1) [(ZN zl r1.2 z7 zh zj z2 z6 zu zd)] er1<|zq ?_
    refine za (!r1.1) ?_ ?_
    ·exact zk (Z5Q x1 x4 x5 zl r1.2 z7 zh zj z2 z6 zu zd zy)
    ·exact zk (Zap x4 x5 zl r1.2 z7 zh zj z2 z6 zu zd zy)
def Z4w (x1 x4 : Int) (zl : List Int) (zn z2 z6 : Int) : Option (Int × Int × Int × Int × Int) :=
 Z38 x1 x4 (-2) zl zn z2 z6
theorem ZaS x1 x4 zl zn z7 zh zj z2 z6 zu zd (zy : ZO zd = true) : Sim (Z3i zl z7 zh zj zu zd) (Z4w x1 x4 zl zn z2 z6) (Zq5 1 (.ptr 0 0) (iv x1) (iv x4) [(ZN zl zn z7 zh zj z2 z6 zu zd)]) := by
 unfold Z4w
 refine zf (ZAT ..)<|ze ?_
 exact zk (Z6d x1 x4 (-2) zl zn z7 zh zj z2 z6 zu zd zy)
def Z79 (x1 x4 : Int) (zl : List Int) (zn z2 z6 : Int) : Option (Int × Int × Int × Int × Int) :=
 (Z1J (ByteArray.mk #[125]) zl zn).bind fun r1 =>
 if r1.1 = true then
 (if (decide (x4 ≤ 64)) = true then
 (Z9i x4 r1.2 z2 z6)
 else
 (Z4w x1 x4 zl r1.2 z2 z6))
 else
 (Z4w x1 x4 zl r1.2 z2 z6)
theorem ZfH x1 x4 zl zn z7 zh zj z2 z6 zu zd (zy : ZO zd = true) : Sim (Z3i zl z7 zh zj zu zd) (Z79 x1 x4 zl zn z2 z6) (Zut 1 (.ptr 0 0) (iv x1) (iv x4) [(ZN zl zn z7 zh zj z2 z6 zu zd)]) := by
 unfold Z79
 refine zf (ZAR ..)<|ze<|zi fun r1 hr1 => ?_
 obtain ⟨_, er1, _, rfl⟩ := Z1U (ByteArray.mk #[125]) zl zn z7 zh zj z2 z6 zu zd zy r1 hr1
 refine zc [0] (bv r1.1) [(ZN zl r1.2 z7 zh zj z2 z6 zu zd)] er1 ?_
 refine za r1.1 ?_ ?_
 ·refine zq ?_
  refine za (decide (x4 ≤ 64)) ?_ ?_
  ·exact zk (ZfI x4 zl r1.2 z7 zh zj z2 z6 zu zd zy)
  ·exact zk (ZaS x1 x4 zl r1.2 z7 zh zj z2 z6 zu zd zy)
 ·exact zk (ZaS x1 x4 zl r1.2 z7 zh zj z2 z6 zu zd zy)
def Z6M (x1 : Int) (zl : List Int) (zn z7 zh : Int) (zj : List Zz) (z2 z6 : Int) : Option (Int × Int × Int × Int × Int) :=
 (Z5K zl zn z7 zh zj z2 z6).bind fun r1 =>
 (Z1J (ByteArray.mk #[44]) zl r1.2).bind fun r2 =>
 if r2.1 = true then
 ((Z5K zl r2.2 z7 zh zj z2 z6).bind fun r3 =>
 if (decide (r3.1 < 0)) = true then
 (if (decide (0 ≤ r1.1)) = true then
 (Z79 x1 r1.1 zl r3.2 z2 z6)
 else
 (Z38 x1 r1.1 r3.1 zl r3.2 z2 z6))
 else
 (Z38 x1 r1.1 r3.1 zl r3.2 z2 z6))
 else
 (Z38 x1 r1.1 r1.1 zl r2.2 z2 z6)
theorem ZhQ x1 zl zn z7 zh zj z2 z6 zu zd (zy : ZO zd = true) : Sim (Z3i zl z7 zh zj zu zd) (Z6M x1 zl zn z7 zh zj z2 z6) (EE 69 [(.ptr 0 0), (iv x1)] [(ZN zl zn z7 zh zj z2 z6 zu zd)]) := by
 unfold Z6M
 refine zf (ZGn ..)<|ze<|ze<|zi fun r1 hr1 => ?_
 obtain ⟨_, er1, _, rfl⟩ := Zcj zl zn z7 zh zj z2 z6 zu zd zy r1 hr1
 refine zc [0] (iv r1.1) [(ZN zl r1.2 z7 zh zj z2 z6 zu zd)] er1<|ze<|ze<|zi fun r2 hr2 => ?_
 obtain ⟨_, er2, _, rfl⟩ := Z1U (ByteArray.mk #[44]) zl r1.2 z7 zh zj z2 z6 zu zd zy r2 hr2
 refine zc [0] (bv r2.1) [(ZN zl r2.2 z7 zh zj z2 z6 zu zd)] er2 ?_
 refine za r2.1 ?_ ?_
 ·refine ze<|zi fun r3 hr3 => ?_
  obtain ⟨_, er3, _, rfl⟩ := Zcj zl r2.2 z7 zh zj z2 z6 zu zd zy r3 hr3
  refine zc [0] (iv r3.1) [(ZN zl r3.2 z7 zh zj z2 z6 zu zd)] er3<|ze<|zq ?_
  refine za (decide (r3.1 < 0)) ?_ ?_
  ·refine zq ?_
   refine za (decide (0 ≤ r1.1)) ?_ ?_
   ·exact zk (ZfH x1 r1.1 zl r3.2 z7 zh zj z2 z6 zu zd zy)
   ·exact zk (Z6d x1 r1.1 r3.1 zl r3.2 z7 zh zj z2 z6 zu zd zy)
  ·exact zk (Z6d x1 r1.1 r3.1 zl r3.2 z7 zh zj z2 z6 zu zd zy)
 ·exact zk (Z6d x1 r1.1 r1.1 zl r2.2 z7 zh zj z2 z6 zu zd zy)
theorem Zcg x1 zl zn z7 zh zj z2 z6 {r} (h : Z6M x1 zl zn z7 zh zj z2 z6 = some r) : Z6R x1 zl zn z7 zh zj z2 z6 = some r :=
 Z1l (fun _ _ ha hb => ru_ (ZiY _ _ _ _ _ _) (ha .ex .ex rfl) (hb .ex .ex rfl)) (fun zu zd zy => ZhQ x1 zl zn z7 zh zj z2 z6 zu zd zy r h)
def ZaK (zl : List Int) (zn z7 zh : Int) (zj : List Zz) (z2 z6 : Int) : Option (Int × Int) :=
 Z3U (-1) 0 zl zn z7 zh zj z2 z6
theorem ZhT zl zn z7 zh zj z2 z6 zu zd (zy : ZO zd = true) : Sim (Z2b zl z7 zh zj z2 z6 zu zd) (ZaK zl zn z7 zh zj z2 z6) (EE 84 [(.ptr 0 0)] [(ZN zl zn z7 zh zj z2 z6 zu zd)]) := by
 unfold ZaK
 refine zf (ZGG ..)<|ze<|ze<|ze ?_
 exact zk (ZaZ (-1) 0 zl zn z7 zh zj z2 z6 zu zd zy)
theorem ZiB zl zn z7 zh zj z2 z6 {r} (h : ZaK zl zn z7 zh zj z2 z6 = some r) : Z5K zl zn z7 zh zj z2 z6 = some r :=
 Z1l (fun _ _ ha hb => ru_ (Z6F _ _ _ _ _ _ _ _) (ha .ex .ex rfl) (hb .ex .ex rfl)) (fun zu zd zy => ZhT zl zn z7 zh zj z2 z6 zu zd zy r h)
def Z7d (x3 x4 : Int) (zl : List Int) (zn z7 zh : Int) (zj : List Zz) (z2 z6 : Int) : Option (Int × Int) :=
 (Z3m zl zn).bind fun r1 =>
 Z3U ((IntKind.i64.wrap ((IntKind.i64.wrap ((IntKind.i64.wrap (10 * (max x3 0))) + r1.1)) - 48))) (IntKind.i64.wrap (x4 + 1)) zl r1.2 z7 zh zj z2 z6
theorem ZfN x3 x4 zl zn z7 zh zj z2 z6 zu zd (zy : ZO zd = true) : Sim (Z2b zl z7 zh zj z2 z6 zu zd) (Z7d x3 x4 zl zn z7 zh zj z2 z6) (ZuR 1 (.ptr 0 0) (iv x3) (iv x4) [(ZN zl zn z7 zh zj z2 z6 zu zd)]) := by
 unfold Z7d
 refine zf (ZBc ..)<|ze<|zp (iv (max x3 0)) (Znh _ _)<|zq<|zi fun r1 hr1 => ?_
 obtain ⟨_, er1, _, rfl⟩ := Z3K zl zn z7 zh zj z2 z6 zu zd zy r1 hr1
 refine zc [0] (iv r1.1) [(ZN zl r1.2 z7 zh zj z2 z6 zu zd)] er1<|zq<|zq<|ze<|zq ?_
 exact zk (ZaZ ((IntKind.i64.wrap ((IntKind.i64.wrap ((IntKind.i64.wrap (10 * (max x3 0))) + r1.1)) - 48))) (IntKind.i64.wrap (x4 + 1)) zl r1.2 z7 zh zj z2 z6 zu zd zy)
def Z4x (x3 zn : Int) : Option (Int × Int) :=
 some (x3, zn)
theorem Z7T x3 zl zn z7 zh zj z2 z6 zu zd (zy : ZO zd = true) : Sim (Z2b zl z7 zh zj z2 z6 zu zd) (Z4x x3 zn) (Zmr 1 (iv x3) [(ZN zl zn z7 zh zj z2 z6 zu zd)]) := by
 unfold Z4x
 refine zf (ZBd ..)<|ze ?_
 exact zr ((iv x3), [(ZN zl zn z7 zh zj z2 z6 zu zd)]) ⟨_, rfl⟩
def Z7c (x3 x4 : Int) (zl : List Int) (zn z7 zh : Int) (zj : List Zz) (z2 z6 : Int) : Option (Int × Int) :=
 if (decide (x4 < 2)) = true then
 ((Z2F (Z1C.mk zl zn z7 zh zj (Z17.mk z2 z6))).bind fun r1 =>
 if (decide (48 ≤ r1)) = true then
 ((Z2F (Z1C.mk zl zn z7 zh zj (Z17.mk z2 z6))).bind fun r2 =>
 if (decide (r2 ≤ 57)) = true then
 (Z7d x3 x4 zl zn z7 zh zj z2 z6)
 else
 (Z4x x3 zn))
 else
 (Z4x x3 zn))
 else
 (Z4x x3 zn)
theorem ZfM x3 x4 zl zn z7 zh zj z2 z6 zu zd (zy : ZO zd = true) : Sim (Z2b zl z7 zh zj z2 z6 zu zd) (Z7c x3 x4 zl zn z7 zh zj z2 z6) (Zmq 1 (.ptr 0 0) (iv x3) (iv x4) [(ZN zl zn z7 zh zj z2 z6 zu zd)]) := by
 unfold Z7c
 refine zf (ZBb ..)<|ze<|zq ?_
 refine za (decide (x4 < 2)) ?_ ?_
 ·refine zi fun r1 hr1 => ?_
  obtain ⟨_, er1, _, rfl⟩ := Z2V (Z1C.mk zl zn z7 zh zj (Z17.mk z2 z6)) zu zd zy r1 hr1
  refine zc [0] (iv r1) [(ZN zl zn z7 zh zj z2 z6 zu zd)] er1<|zq ?_
  refine za (decide (48 ≤ r1)) ?_ ?_
  ·refine zi fun r2 hr2 => ?_
   obtain ⟨_, er2, _, rfl⟩ := Z2V (Z1C.mk zl zn z7 zh zj (Z17.mk z2 z6)) zu zd zy r2 hr2
   refine zc [0] (iv r2) [(ZN zl zn z7 zh zj z2 z6 zu zd)] er2<|zq ?_
   refine za (decide (r2 ≤ 57)) ?_ ?_
   ·exact zk (ZfN x3 x4 zl zn z7 zh zj z2 z6 zu zd zy)
   ·exact zk (Z7T x3 zl zn z7 zh zj z2 z6 zu zd zy)
  ·exact zk (Z7T x3 zl zn z7 zh zj z2 z6 zu zd zy)
 ·exact zk (Z7T x3 zl zn z7 zh zj z2 z6 zu zd zy)
theorem ZgI x3 x4 zl zn z7 zh zj z2 z6 {r} (h : Z7c x3 x4 zl zn z7 zh zj z2 z6 = some r) : Z3U x3 x4 zl zn z7 zh zj z2 z6 = some r :=
 Z1l (fun _ _ ha hb => ru_ (Z6F _ _ _ _ _ _ _ _) (ha .ex .ex rfl) (hb .ex .ex rfl)) (fun zu zd zy => ZfM x3 x4 zl zn z7 zh zj z2 z6 zu zd zy r h)
def Zax (b0 : ZZ) : Option ((List Zm) × Int) :=
 (Z1n (Zm.mk 4 0 0 0 0 ([] : List Z8)) ([] : List Zm)).bind fun r1 =>
 (Z1V b0.Root r1.2 b0.Fold 0).bind fun r2 =>
 (Z1n (Zm.mk 4 1 0 0 0 ([] : List Z8)) r2.1).bind fun r3 =>
 (Z1n (Zm.mk 0 0 0 0 0 ([] : List Z8)) r3.2).bind fun r4 =>
 some (r4.2, 0)
theorem Zks b0 zM zK : Sim ZaF (Zax b0) (Zti 0 (.ptr 0 0) [(ZP b0 zM zK)]) := by
 unfold Zax
 refine zf (ZzG ..)<|ze<|zq<|zq<|zq<|zX (.ptr 1 0) [(ZP b0 zM zK), [(.p (.ml 6 [])), (bv b0.Fold), (iv 0)]]<|ze<|zq<|zi fun r1 hr1 => ?_
 obtain ⟨_, er1, _, rfl⟩ := Z1w (Zm.mk 4 0 0 0 0 ([] : List Z8)) ([] : List Zm) b0.Fold 0 .sh r1 hr1
 refine zc [1] (iv r1.1) [(ZP b0 zM zK), [(.p (.ml 6 (r1.2.map ZC))), (bv b0.Fold), (iv 0)]] er1<|ze<|zq<|zq<|zi fun r2 hr2 => ?_
 obtain ⟨_, er2, _, rfl⟩ := Z2J b0.Root r1.2 b0.Fold 0 .sh .sh r2 hr2
 refine zc [1] (.p (.tup [])) [(ZP b0 zM zK), [(.p (.ml 6 (r2.1.map ZC))), (bv b0.Fold), (iv r2.2)]] er2<|ze<|zq<|zi fun r3 hr3 => ?_
 obtain ⟨_, er3, _, rfl⟩ := Z1w (Zm.mk 4 1 0 0 0 ([] : List Z8)) r2.1 b0.Fold r2.2 .sh r3 hr3
 refine zc [1] (iv r3.1) [(ZP b0 zM zK), [(.p (.ml 6 (r3.2.map ZC))), (bv b0.Fold), (iv r2.2)]] er3<|ze<|zq<|zi fun r4 hr4 => ?_
 obtain ⟨_, er4, _, rfl⟩ := Z1w ZrL r3.2 b0.Fold r2.2 .sh r4 hr4
 refine zc [1] (iv r4.1) [(ZP b0 zM zK), [(.p (.ml 6 (r4.2.map ZC))), (bv b0.Fold), (iv r2.2)]] er4<|ze<|zq<|zq<|zF (ZR .sh (r4.2.map ZC)) [(ZP b0 zM zK), [(.p (.hd (List.length (r4.2.map ZC)))), (bv b0.Fold), (iv r2.2)]] ?_
 exact zr ((.p (.tup [(.lst .sh (r4.2.map ZC)), (.v (.int .i64 0))])), [(ZP b0 zM zK), [(.p (.hd (List.length (r4.2.map ZC)))), (bv b0.Fold), (iv r2.2)]]) ⟨_, rfl⟩
def ZaL (x0 : ZZ) : Option ((List Zm) × Int) :=
 (Ze2 x0).bind fun r1 =>
 if (r1 != 0) = true then
 (some (([] : List Zm), r1))
 else
 (Zax x0)
theorem ZmC x0 z2h z26 : Sim ZaF (ZaL x0) (EE 18 [(pA_ (Z2v x0 z2h z26))] []) := by
 unfold ZaL
 refine zf (ZF5 ..)<|ze<|zx (.ptr 0 0) [(ZP x0 z2h z26)]<|ze<|zq<|zi fun r1 hr1 => ?_
 obtain ⟨_, er1, _, rfl⟩ := Zot x0 .sh .sh r1 hr1
 refine zc [] (iv r1) [(ZP x0 z2h z26)] er1<|ze<|zq ?_
 refine za (r1 != 0) ?_ ?_
 ·refine ze ?_
  exact zr ((.p (.tup [(.lst .sh []), (.v (.int .i64 r1))])), [(ZP x0 z2h z26)]) ⟨_, rfl⟩
 ·exact zk (Zks x0 z2h z26)
theorem Zhy x0 {r} (h : ZaL x0 = some r) : Z9d x0 = some r :=
 Z1l (fun _ _ ha hb => ru_ Zog (ha .ex .ex) (hb .ex .ex)) (fun z2h z26 => ZmC x0 z2h z26 r h)
def Zba : Option Int :=
 some (0)
theorem Zla : Sim ZL Zba (Ztu 0 []) := by
 unfold Zba
 refine zf (ZzR ..)<|ze ?_
 exact zr ((iv 0), []) ⟨_, rfl⟩
def ZdY (x0 : ZZ) : Option Int :=
 (Z4g x0.Root).bind fun r1 =>
 if (!r1) = true then
 (some (27))
 else
 ((Z53 x0.Root).bind fun r2 =>
 if (decide (2000 < (IntKind.i64.wrap (r2 + 3)))) = true then
 (some (28))
 else
 Zba)
theorem ZnS x0 z2h z26 : Sim ZL (ZdY x0) (EE 27 [(pA_ (Z2v x0 z2h z26))] []) := by
 unfold ZdY
 refine zf (ZFk ..)<|ze<|zx (.ptr 0 0) [(ZP x0 z2h z26)]<|ze<|zq<|zq<|zi fun r1 hr1 => ?_
 obtain ⟨_, er1, _, rfl⟩ := Zh3 x0.Root .sh .sh r1 hr1
 refine zc [] (bv r1) [(ZP x0 z2h z26)] er1<|zq ?_
 refine za (!r1) ?_ ?_
 ·refine ze ?_
  exact zr ((iv 27), [(ZP x0 z2h z26)]) ⟨_, rfl⟩
 ·refine ze<|zq<|zq<|zi fun r2 hr2 => ?_
  obtain ⟨_, er2, _, rfl⟩ := Zf2 x0.Root .sh .sh r2 hr2
  refine zc [] (iv r2) [(ZP x0 z2h z26)] er2<|zq<|zq ?_
  refine za (decide (2000 < (IntKind.i64.wrap (r2 + 3)))) ?_ ?_
  ·refine ze ?_
   exact zr ((iv 28), [(ZP x0 z2h z26)]) ⟨_, rfl⟩
  ·exact zk Zla
theorem Zos x0 {r} (h : ZdY x0 = some r) : Ze2 x0 = some r :=
 Z1l (fun _ _ ha hb => ru_ Z1N (ha .ex .ex) (hb .ex .ex)) (fun z2h z26 => ZnS x0 z2h z26 r h)
def Z8b : Option Bool :=
 some false
theorem ZdN : Sim ZW Z8b (Zpx 0 []) := by
 unfold Z8b
 refine zf (ZA1 ..)<|ze ?_
 exact zr ((bv false), []) ⟨_, rfl⟩
def Z3J (b0 : Z9) : Option Bool :=
 (Z5A b0.Kids).bind fun r1 =>
 some (!r1)
theorem Zan b0 z1Y z1A : Sim ZW (Z3J b0) (Zmf 0 (.ptr 0 0) [(Zk b0 z1Y z1A)]) := by
 unfold Z3J
 refine zf (ZA2 ..)<|ze<|zq<|zq<|zi fun r1 hr1 => ?_
 obtain ⟨_, er1, _, rfl⟩ := ZdP b0.Kids .sh r1 hr1
 refine zc [] (bv r1) [(Zk b0 z1Y z1A)] er1<|zq ?_
 exact zr ((bv (!r1)), [(Zk b0 z1Y z1A)]) ⟨_, rfl⟩
def Z8a (b0 : Z9) : Option Bool :=
 (lget b0.Kids 0).bind fun a1 =>
 (Z3h a1).bind fun r2 =>
 if (decide (r2.2 < 0)) = true then
 Z8b
 else
 (if (decide (32 < r2.2)) = true then
 Z8b
 else
 (Z3J b0))
theorem ZjO b0 z1Y z1A : Sim ZW (Z8a b0) (ZtC 0 (.ptr 0 0) [(Zk b0 z1Y z1A)]) := by
 unfold Z8a
 refine zf (ZA0 ..)<|ze<|zq<|zq<|zi fun a1 ha1 => zp (.cptr (ZI a1 .sh .sh)) (et_ (Z2k (o := (shrO z1A)) (k := .i64) (n := 7) (e := ZJ) (cs := Z22) Z2I (fun _ => rfl) (by decide) ha1))<|zq<|zi fun r2 hr2 => ?_
 obtain ⟨_, er2, _, rfl⟩ := Z6D a1 .sh .sh r2 hr2
 refine zc [] (.p (.tup [(.v (.int .i64 r2.1)), (.v (.int .i64 r2.2))])) [(Zk b0 z1Y z1A)] er2<|zq<|zq<|ze<|zq ?_
 refine za (decide (r2.2 < 0)) ?_ ?_
 ·exact zk ZdN
 ·refine zq ?_
  refine za (decide (32 < r2.2)) ?_ ?_
  ·exact zk ZdN
  ·exact zk (Zan b0 z1Y z1A)
def ZbS (x0 : Z9) : Option Bool :=
 if (x0.Kind == 7) = true then
 (if (decide (2 ≤ x0.Mode)) = true then
 (Z8a x0)
 else
 (Z3J x0))
 else
 (Z3J x0)
theorem ZlX x0 z27 z1u : Sim ZW (ZbS x0) (EE 38 [(pA_ (ZI x0 z27 z1u))] []) := by
 unfold ZbS
 refine zf (ZFx ..)<|ze<|zx (.ptr 0 0) [(Zk x0 z27 z1u)]<|ze<|zq<|zq<|zq ?_
 refine za (x0.Kind == 7) ?_ ?_
 ·refine zq<|zq<|zq ?_
  refine za (decide (2 ≤ x0.Mode)) ?_ ?_
  ·exact zk (ZjO x0 z27 z1u)
  ·exact zk (Zan x0 z27 z1u)
 ·exact zk (Zan x0 z27 z1u)
theorem ZmD x0 {r} (h : ZbS x0 = some r) : Z4g x0 = some r :=
 Z1l (fun _ _ ha hb => ru_ Z2L (ha .ex .ex) (hb .ex .ex)) (fun z27 z1u => ZlX x0 z27 z1u r h)
def Z7x (x2 x3 : Int) : Option (Int × Int) :=
 some (x2, x3)
theorem Z8u x2 x3 : Sim Z3j (Z7x x2 x3) (Zic 0 (iv x2) (iv x3) []) := by
 unfold Z7x
 refine zf (ZxM ..)<|ze ?_
 exact zr ((.p (.tup [(.v (.int .i64 x2)), (.v (.int .i64 x3))])), []) ⟨_, rfl⟩
def ZdZ (x0 : Z9) : Option (Int × Int) :=
 if (x0.Kind == 1) = true then
 (some (1, 1))
 else
 (if (x0.Kind == 6) = true then
 (some (0, (-1)))
 else
 (if (x0.Kind == 2) = true then
 (Z9o 0 0 x0.Kids (x0.Kids.length : Int) 0)
 else
 (if (x0.Kind == 3) = true then
 (Z8N 1048576 0 x0.Kids (x0.Kids.length : Int) 0)
 else
 (if (x0.Kind == 4) = true then
 ((lget x0.Kids 0).bind fun a1 =>
 (Z3h a1).bind fun r2 =>
 (Zbx r2.2 x0.Hi).bind fun r3 =>
 some ((min (IntKind.i64.wrap (r2.1 * x0.Lo)) 1048576), r3))
 else
 (if (x0.Kind == 5) = true then
 (if (x0.Kind == 5) = true then
 ((lget x0.Kids 0).bind fun a4 =>
 (Z3h a4).bind fun r5 =>
 some (r5.1, r5.2))
 else
 (Z7x 0 0))
 else
 (if (x0.Kind == 8) = true then
 ((lget x0.Kids 0).bind fun a6 =>
 (Z3h a6).bind fun r7 =>
 some (r7.1, r7.2))
 else
 (Z7x 0 0)))))))
theorem ZnT x0 z27 z1u : Sim Z3j (ZdZ x0) (EE 44 [(pA_ (ZI x0 z27 z1u))] []) := by
 unfold ZdZ
 refine zf (ZFK ..)<|ze<|zx (.ptr 0 0) [(Zk x0 z27 z1u)]<|ze<|zq<|zq<|ze<|zq ?_
 refine za (x0.Kind == 1) ?_ ?_
 ·refine ze ?_
  exact zr ((.p (.tup [(.v (.int .i64 1)), (.v (.int .i64 1))])), [(Zk x0 z27 z1u)]) ⟨_, rfl⟩
 ·refine ze<|zq ?_
  refine za (x0.Kind == 6) ?_ ?_
  ·refine ze ?_
   exact zr ((.p (.tup [(.v (.int .i64 0)), (.v (.int .i64 (-1)))])), [(Zk x0 z27 z1u)]) ⟨_, rfl⟩
  ·refine ze<|zq ?_
   refine za (x0.Kind == 2) ?_ ?_
   ·refine ze<|zq<|zq<|zp (iv (x0.Kids.length : Int)) (et_ (Z2S (P := PP) (t := 29) (d := 31) (by kernel_rfl) ZJ (shrO z1u) x0.Kids)) ?_
    exact zk (ZfA 0 0 x0.Kids (x0.Kids.length : Int) 0 (shrO z1u))
   ·refine ze<|zq ?_
    refine za (x0.Kind == 3) ?_ ?_
    ·refine ze<|ze<|zq<|zq<|zp (iv (x0.Kids.length : Int)) (et_ (Z2S (P := PP) (t := 29) (d := 31) (by kernel_rfl) ZJ (shrO z1u) x0.Kids)) ?_
     exact zk (Zf4 1048576 0 x0.Kids (x0.Kids.length : Int) 0 (shrO z1u))
    ·refine ze<|zq ?_
     refine za (x0.Kind == 4) ?_ ?_
     ·refine ze<|zq<|zq<|zi fun a1 ha1 => zp (.cptr (ZI a1 .sh .sh)) (et_ (Z2k (o := (shrO z1u)) (k := .i64) (n := 7) (e := ZJ) (cs := Z22) Z2I (fun _ => rfl) (by decide) ha1))<|zq<|zi fun r2 hr2 => ?_
      obtain ⟨_, er2, _, rfl⟩ := Z6D a1 .sh .sh r2 hr2
      refine zc [] (.p (.tup [(.v (.int .i64 r2.1)), (.v (.int .i64 r2.2))])) [(Zk x0 z27 z1u)] er2<|zq<|zq<|ze<|zq<|zq<|zq<|zp (iv (min (IntKind.i64.wrap (r2.1 * x0.Lo)) 1048576)) (ZaY _ _)<|zq<|zq<|zi fun r3 hr3 => ?_
      obtain ⟨_, er3, _, rfl⟩ := Zoy r2.2 x0.Hi r3 hr3
      refine zc [] (iv r3) [(Zk x0 z27 z1u)] er3<|zg ?_
      exact zr ((.p (.tup [(.v (.int .i64 (min (IntKind.i64.wrap (r2.1 * x0.Lo)) 1048576))), (.v (.int .i64 r3))])), [(Zk x0 z27 z1u)]) ⟨_, rfl⟩
     ·refine ze<|zq ?_
      refine za (x0.Kind == 5) ?_ ?_
      ·refine za (x0.Kind == 5) ?_ ?_
       ·refine ze<|zq<|zq<|zi fun a4 ha4 => zp (.cptr (ZI a4 .sh .sh)) (et_ (Z2k (o := (shrO z1u)) (k := .i64) (n := 7) (e := ZJ) (cs := Z22) Z2I (fun _ => rfl) (by decide) ha4))<|zq<|zi fun r5 hr5 => ?_
        obtain ⟨_, er5, _, rfl⟩ := Z6D a4 .sh .sh r5 hr5
        refine zc [] (.p (.tup [(.v (.int .i64 r5.1)), (.v (.int .i64 r5.2))])) [(Zk x0 z27 z1u)] er5<|zq<|zq ?_
        exact zr ((.p (.tup [(.v (.int .i64 r5.1)), (.v (.int .i64 r5.2))])), [(Zk x0 z27 z1u)]) ⟨_, rfl⟩
       ·exact zk (Z8u 0 0)
      ·refine ze<|zq ?_
       refine za (x0.Kind == 8) ?_ ?_
       ·refine ze<|zq<|zq<|zi fun a6 ha6 => zp (.cptr (ZI a6 .sh .sh)) (et_ (Z2k (o := (shrO z1u)) (k := .i64) (n := 7) (e := ZJ) (cs := Z22) Z2I (fun _ => rfl) (by decide) ha6))<|zq<|zi fun r7 hr7 => ?_
        obtain ⟨_, er7, _, rfl⟩ := Z6D a6 .sh .sh r7 hr7
        refine zc [] (.p (.tup [(.v (.int .i64 r7.1)), (.v (.int .i64 r7.2))])) [(Zk x0 z27 z1u)] er7<|zq<|zq ?_
        exact zr ((.p (.tup [(.v (.int .i64 r7.1)), (.v (.int .i64 r7.2))])), [(Zk x0 z27 z1u)]) ⟨_, rfl⟩
       ·exact zk (Z8u 0 0)
theorem Zov x0 {r} (h : ZdZ x0 = some r) : Z3h x0 = some r :=
 Z1l (fun _ _ ha hb => ru_ ZdW (ha .ex .ex) (hb .ex .ex)) (fun z27 z1u => ZnT x0 z27 z1u r h)
def Zbb (x2 x3 : Int) (x23 : List Z9) (x24 x25 : Int) : Option (Int × Int) :=
 (lget x23 x25).bind fun a1 =>
 (Z3h a1).bind fun r2 =>
 (Zgk x3 r2.2).bind fun r3 =>
 Z9o (min (IntKind.i64.wrap (x2 + r2.1)) 1048576) r3 x23 x24 (IntKind.i64.wrap (x25 + 1))
theorem Zlc x2 x3 (x23 : List Z9) x24 x25 ox23 : Sim Z3j (Zbb x2 x3 x23 x24 x25) (ZtX 0 (iv x2) (iv x3) (ZR ox23 (x23.map ZJ)) (iv x24) (iv x25) []) := by
 unfold Zbb
 refine zf (ZAo ..)<|ze<|zi fun a1 ha1 => zp (.cptr (ZI a1 .sh .sh)) (et_ (Z2k (o := ox23) (k := .i64) (n := 7) (e := ZJ) (cs := Z22) Z2I (fun _ => rfl) (by decide) ha1))<|zq<|zz (.ptr 0 0) [(Zk Z1D .nl .nl)]<|zt [(Zk a1 .sh .sh)]<|ze<|zq<|zi fun r2 hr2 => ?_
 obtain ⟨_, er2, _, rfl⟩ := Z6D a1 .sh .sh r2 hr2
 refine zc [] (.p (.tup [(.v (.int .i64 r2.1)), (.v (.int .i64 r2.2))])) [(Zk a1 .sh .sh)] er2<|zq<|zq<|ze<|zq<|zp (iv (min (IntKind.i64.wrap (x2 + r2.1)) 1048576)) (ZaY _ _)<|zi fun r3 hr3 => ?_
 obtain ⟨_, er3, _, rfl⟩ := Zrw x3 r2.2 r3 hr3
 refine zc [] (iv r3) [(Zk a1 .sh .sh)] er3<|ze<|zq ?_
 exact zk (ZfA (min (IntKind.i64.wrap (x2 + r2.1)) 1048576) r3 x23 x24 (IntKind.i64.wrap (x25 + 1)) ox23)
def Z9k (x2 x3 : Int) (x23 : List Z9) (x24 x25 : Int) : Option (Int × Int) :=
 if (decide (x25 < x24)) = true then
 (Zbb x2 x3 x23 x24 x25)
 else
 (Z7x x2 x3)
theorem Zlb x2 x3 (x23 : List Z9) x24 x25 ox23 : Sim Z3j (Z9k x2 x3 x23 x24 x25) (Zmj 0 (iv x2) (iv x3) (ZR ox23 (x23.map ZJ)) (iv x24) (iv x25) []) := by
 unfold Z9k
 refine zf (ZAn ..)<|ze<|zq ?_
 refine za (decide (x25 < x24)) ?_ ?_
 ·exact zk (Zlc x2 x3 x23 x24 x25 ox23)
 ·exact zk (Z8u x2 x3)
theorem Zfz x2 x3 x23 x24 x25 {r} (h : Z9k x2 x3 x23 x24 x25 = some r) : Z9o x2 x3 x23 x24 x25 = some r :=
 Z1l (fun _ _ ha hb => ru_ ZdW (ha .ex) (hb .ex)) (fun ox23 => Zlb x2 x3 x23 x24 x25 ox23 r h)
def Z8K (x2 x3 : Int) (x45 : List Z9) (x46 x47 : Int) : Option (Int × Int) :=
 Z8N x2 x3 x45 x46 (IntKind.i64.wrap (x47 + 1))
theorem Zez x2 x3 (x45 : List Z9) x46 x47 ox45 : Sim Z3j (Z8K x2 x3 x45 x46 x47) (Znu 0 (iv x2) (iv x3) (ZR ox45 (x45.map ZJ)) (iv x46) (iv x47) []) := by
 unfold Z8K
 refine zf (ZxL ..)<|ze<|zq ?_
 exact zk (Zf4 x2 x3 x45 x46 (IntKind.i64.wrap (x47 + 1)) ox45)
def Z8J (x2 : Int) (x45 : List Z9) (x46 x47 : Int) : Option (Int × Int) :=
 Z8K x2 (-1) x45 x46 x47
theorem Zey x2 (x45 : List Z9) x46 x47 ox45 : Sim Z3j (Z8J x2 x45 x46 x47) (Znt 0 (iv x2) (ZR ox45 (x45.map ZJ)) (iv x46) (iv x47) []) := by
 unfold Z8J
 refine zf (ZxJ ..)<|ze ?_
 exact zk (Zez x2 (-1) x45 x46 x47 ox45)
def Zaz (x2 x3 x11 : Int) (x45 : List Z9) (x46 x47 : Int) : Option (Int × Int) :=
 Z8K x2 (max x3 x11) x45 x46 x47
theorem Zkv x2 x3 x11 (x45 : List Z9) x46 x47 ox45 : Sim Z3j (Zaz x2 x3 x11 x45 x46 x47) (Zrh 0 (iv x2) (iv x3) (iv x11) (ZR ox45 (x45.map ZJ)) (iv x46) (iv x47) []) := by
 unfold Zaz
 refine zf (ZxK ..)<|ze<|zp (iv (max x3 x11)) (Znh _ _) ?_
 exact zk (Zez x2 (max x3 x11) x45 x46 x47 ox45)
def Zay (x2 x3 : Int) (x45 : List Z9) (x46 x47 : Int) : Option (Int × Int) :=
 (lget x45 x47).bind fun a1 =>
 (Z3h a1).bind fun r2 =>
 if (decide (r2.2 < 0)) = true then
 (Z8J (min x2 r2.1) x45 x46 x47)
 else
 (if (decide (x3 < 0)) = true then
 (Z8J (min x2 r2.1) x45 x46 x47)
 else
 (Zaz (min x2 r2.1) x3 r2.2 x45 x46 x47))
theorem Zku x2 x3 (x45 : List Z9) x46 x47 ox45 : Sim Z3j (Zay x2 x3 x45 x46 x47) (Zrg 0 (iv x2) (iv x3) (ZR ox45 (x45.map ZJ)) (iv x46) (iv x47) []) := by
 unfold Zay
 refine zf (ZxI ..)<|ze<|zi fun a1 ha1 => zp (.cptr (ZI a1 .sh .sh)) (et_ (Z2k (o := ox45) (k := .i64) (n := 7) (e := ZJ) (cs := Z22) Z2I (fun _ => rfl) (by decide) ha1))<|zq<|zz (.ptr 0 0) [(Zk Z1D .nl .nl)]<|zt [(Zk a1 .sh .sh)]<|ze<|zq<|zi fun r2 hr2 => ?_
 obtain ⟨_, er2, _, rfl⟩ := Z6D a1 .sh .sh r2 hr2
 refine zc [] (.p (.tup [(.v (.int .i64 r2.1)), (.v (.int .i64 r2.2))])) [(Zk a1 .sh .sh)] er2<|zq<|zq<|ze<|zp (iv (min x2 r2.1)) (ZaY _ _)<|ze<|zq ?_
 refine za (decide (r2.2 < 0)) ?_ ?_
 ·exact zk (Zey (min x2 r2.1) x45 x46 x47 ox45)
 ·refine zq ?_
  refine za (decide (x3 < 0)) ?_ ?_
  ·exact zk (Zey (min x2 r2.1) x45 x46 x47 ox45)
  ·exact zk (Zkv (min x2 r2.1) x3 r2.2 x45 x46 x47 ox45)
def Z8I (x2 x3 : Int) (x45 : List Z9) (x46 x47 : Int) : Option (Int × Int) :=
 if (decide (x47 < x46)) = true then
 (Zay x2 x3 x45 x46 x47)
 else
 (Z7x x2 x3)
theorem Zkt x2 x3 (x45 : List Z9) x46 x47 ox45 : Sim Z3j (Z8I x2 x3 x45 x46 x47) (Zkb 0 (iv x2) (iv x3) (ZR ox45 (x45.map ZJ)) (iv x46) (iv x47) []) := by
 unfold Z8I
 refine zf (ZxH ..)<|ze<|zq ?_
 refine za (decide (x47 < x46)) ?_ ?_
 ·exact zk (Zku x2 x3 x45 x46 x47 ox45)
 ·exact zk (Z8u x2 x3)
theorem Zf3 x2 x3 x45 x46 x47 {r} (h : Z8I x2 x3 x45 x46 x47 = some r) : Z8N x2 x3 x45 x46 x47 = some r :=
 Z1l (fun _ _ ha hb => ru_ ZdW (ha .ex) (hb .ex)) (fun ox45 => Zkt x2 x3 x45 x46 x47 ox45 r h)
def Z9l : Option Int :=
 some (0)
theorem Zf5 : Sim ZL Z9l (ZpS 0 []) := by
 unfold Z9l
 refine zf (ZAz ..)<|ze ?_
 exact zr ((iv 0), []) ⟨_, rfl⟩
def Z9m : Option Int :=
 some (-1)
theorem Zf6 : Sim ZL Z9m (ZpT 0 []) := by
 unfold Z9m
 refine zf (ZAB ..)<|ze ?_
 exact zr ((iv (-1)), []) ⟨_, rfl⟩
def Zbd (x0 x1 : Int) : Option Int :=
 (Zcm (IntKind.i64.wrap (x0 * x1))).bind fun r1 =>
 some r1
theorem Zlg x0 x1 : Sim ZL (Zbd x0 x1) (Zue 0 (iv x0) (iv x1) []) := by
 unfold Zbd
 refine zf (ZAC ..)<|ze<|zq<|zi fun r1 hr1 => ?_
 obtain ⟨_, er1, _, rfl⟩ := Zjm (IntKind.i64.wrap (x0 * x1)) r1 hr1
 refine zc [] (iv r1) [] er1 ?_
 exact zr ((iv r1), []) ⟨_, rfl⟩
def Zbc (x0 x1 : Int) : Option Int :=
 if (decide (x0 < 0)) = true then
 Z9m
 else
 (if (decide (x1 < 0)) = true then
 Z9m
 else
 (Zbd x0 x1))
theorem Zlf x0 x1 : Sim ZL (Zbc x0 x1) (Zud 0 (iv x0) (iv x1) []) := by
 unfold Zbc
 refine zf (ZAA ..)<|ze<|zq ?_
 refine za (decide (x0 < 0)) ?_ ?_
 ·exact zk Zf6
 ·refine zq ?_
  refine za (decide (x1 < 0)) ?_ ?_
  ·exact zk Zf6
  ·exact zk (Zlg x0 x1)
def Ze0 (x0 x1 : Int) : Option Int :=
 if (x0 == 0) = true then
 Z9l
 else
 (if (x1 == 0) = true then
 Z9l
 else
 (Zbc x0 x1))
theorem ZnU x0 x1 : Sim ZL (Ze0 x0 x1) (EE 61 [(iv x0), (iv x1)] []) := by
 unfold Ze0
 refine zf (ZG4 ..)<|ze<|ze<|zq ?_
 refine za (x0 == 0) ?_ ?_
 ·exact zk Zf5
 ·refine zq ?_
  refine za (x1 == 0) ?_ ?_
  ·exact zk Zf5
  ·exact zk (Zlf x0 x1)
theorem Zox x0 x1 {r} (h : Ze0 x0 x1 = some r) : Zbx x0 x1 = some r :=
 Z1l (fun _ _ ha hb => ru_ Z1N ha hb) (ZnU x0 x1 r h)
def ZbT (x0 : Int) : Option Int :=
 some x0
theorem ZlY x0 : Sim ZL (ZbT x0) (ZuB 0 (iv x0) []) := by
 unfold ZbT
 refine zf (ZB1 ..)<|ze ?_
 exact zr ((iv x0), []) ⟨_, rfl⟩
def ZeS (x0 : Int) : Option Int :=
 if (decide (1048576 < x0)) = true then
 (some (-1))
 else
 (ZbT x0)
theorem Zow x0 : Sim ZL (ZeS x0) (EE 75 [(iv x0)] []) := by
 unfold ZeS
 refine zf (ZGs ..)<|ze<|ze<|zq ?_
 refine za (decide (1048576 < x0)) ?_ ?_
 ·refine ze ?_
  exact zr ((iv (-1)), []) ⟨_, rfl⟩
 ·exact zk (ZlY x0)
theorem Zqj x0 {r} (h : ZeS x0 = some r) : Zcm x0 = some r :=
 Z1l (fun _ _ ha hb => ru_ Z1N ha hb) (Zow x0 r h)
def ZaM : Option Int :=
 some (-1)
theorem Zh4 : Sim ZL ZaM (ZpR 0 []) := by
 unfold ZaM
 refine zf (ZAx ..)<|ze ?_
 exact zr ((iv (-1)), []) ⟨_, rfl⟩
def ZcM (x0 x1 : Int) : Option Int :=
 (Zcm (IntKind.i64.wrap (x0 + x1))).bind fun r1 =>
 some r1
theorem ZmE x0 x1 : Sim ZL (ZcM x0 x1) (Zu9 0 (iv x0) (iv x1) []) := by
 unfold ZcM
 refine zf (ZAy ..)<|ze<|zq<|zi fun r1 hr1 => ?_
 obtain ⟨_, er1, _, rfl⟩ := Zjm (IntKind.i64.wrap (x0 + x1)) r1 hr1
 refine zc [] (iv r1) [] er1 ?_
 exact zr ((iv r1), []) ⟨_, rfl⟩
def Zgi (x0 x1 : Int) : Option Int :=
 if (decide (x0 < 0)) = true then
 ZaM
 else
 (if (decide (x1 < 0)) = true then
 ZaM
 else
 (ZcM x0 x1))
theorem Zqk x0 x1 : Sim ZL (Zgi x0 x1) (EE 60 [(iv x0), (iv x1)] []) := by
 unfold Zgi
 refine zf (ZG2 ..)<|ze<|ze<|zq ?_
 refine za (decide (x0 < 0)) ?_ ?_
 ·exact zk Zh4
 ·refine zq ?_
  refine za (decide (x1 < 0)) ?_ ?_
  ·exact zk Zh4
  ·exact zk (ZmE x0 x1)
theorem Zrv x0 x1 {r} (h : Zgi x0 x1 = some r) : Zgk x0 x1 = some r :=
 Z1l (fun _ _ ha hb => ru_ Z1N ha hb) (Zqk x0 x1 r h)
def Z5x (x0 : List Z9) : Option Bool :=
 (Z6q x0).bind fun r1 =>
 some (decide (0 ≤ r1))
theorem Zdn (x0 : List Z9) ox0 : Sim ZW (Z5x x0) (EE 55 [(ZR ox0 (x0.map ZJ)), (.clo 56 [] [])] []) := by
 unfold Z5x
 refine zf (ZFX ..)<|ze<|ze<|zi fun r1 hr1 => ?_
 obtain ⟨_, er1, _, rfl⟩ := Zf8 x0 .sh r1 hr1
 refine zc [] (iv r1) [] er1<|zq ?_
 exact zr ((bv (decide (0 ≤ r1))), []) ⟨_, rfl⟩
theorem ZdO x0 {r} (h : Z5x x0 = some r) : Z5A x0 = some r :=
 Z1l (fun _ _ ha hb => ru_ Z2L (ha .ex) (hb .ex)) (fun ox0 => Zdn x0 ox0 r h)
def Z6o (x0 : List Z9) : Option Int :=
 Z4h x0 (x0.length : Int) 0
theorem ZeL (x0 : List Z9) ox0 : Sim ZL (Z6o x0) (EE 73 [(ZR ox0 (x0.map ZJ)), (.clo 56 [] [])] []) := by
 unfold Z6o
 refine zf (ZGq ..)<|ze<|ze<|zp (iv (x0.length : Int)) (et_ (Z2S (P := PP) (t := 29) (d := 31) (by kernel_rfl) ZJ (shrO ox0) x0)) ?_
 exact zk (Z99 x0 (x0.length : Int) 0 ox0)
theorem Zf7 x0 {r} (h : Z6o x0 = some r) : Z6q x0 = some r :=
 Z1l (fun _ _ ha hb => ru_ Z1N (ha .ex) (hb .ex)) (fun ox0 => ZeL x0 ox0 r h)
def Z5y (x0 : List Z9) (x7 x8 : Int) : Option Int :=
 Z4h x0 x7 (IntKind.i64.wrap (x8 + 1))
theorem Zdu (x0 : List Z9) x7 x8 ox0 : Sim ZL (Z5y x0 x7 x8) (Zuy 0 (ZR ox0 (x0.map ZJ)) (.clo 56 [] []) (iv x7) (iv x8) []) := by
 unfold Z5y
 refine zf (ZAY ..)<|ze<|zq ?_
 exact zk (Z99 x0 x7 (IntKind.i64.wrap (x8 + 1)) ox0)
def Z4b (x0 : List Z9) (x7 x8 : Int) : Option Int :=
 (lget x0 x8).bind fun a1 =>
 (ZaC a1).bind fun r2 =>
 if r2 = true then
 (some x8)
 else
 (Z5y x0 x7 x8)
theorem Zdt (x0 : List Z9) x7 x8 ox0 : Sim ZL (Z4b x0 x7 x8) (Zux 0 (ZR ox0 (x0.map ZJ)) (.clo 56 [] []) (iv x7) (iv x8) []) := by
 unfold Z4b
 refine zf (ZAX ..)<|ze<|ze<|zi fun a1 ha1 => zp (.cptr (ZI a1 .sh .sh)) (et_ (Z2k (o := (shrO ox0)) (k := .i64) (n := 7) (e := ZJ) (cs := Z22) Z2I (fun _ => rfl) (by decide) ha1))<|zq<|zi fun r2 hr2 => ?_
 obtain ⟨_, er2, _, rfl⟩ := Zle a1 .sh .sh r2 hr2
 refine zv [] (bv r2) [] er2 ?_
 refine za r2 ?_ ?_
 ·refine ze ?_
  exact zr ((iv x8), []) ⟨_, rfl⟩
 ·exact zk (Zdu x0 x7 x8 ox0)
def Z7n : Option Int :=
 some (-1)
theorem Zdv : Sim ZL Z7n (Zuz 0 []) := by
 unfold Z7n
 refine zf (ZAZ ..)<|ze ?_
 exact zr ((iv (-1)), []) ⟨_, rfl⟩
def Z3A (x0 : List Z9) (x7 x8 : Int) : Option Int :=
 if (decide (x8 < x7)) = true then
 (Z4b x0 x7 x8)
 else
 Z7n
theorem Zds (x0 : List Z9) x7 x8 ox0 : Sim ZL (Z3A x0 x7 x8) (Zmo 0 (ZR ox0 (x0.map ZJ)) (.clo 56 [] []) (iv x7) (iv x8) []) := by
 unfold Z3A
 refine zf (ZAW ..)<|ze<|zq ?_
 refine za (decide (x8 < x7)) ?_ ?_
 ·exact zk (Zdt x0 x7 x8 ox0)
 ·exact zk Zdv
theorem Z6w x0 x7 x8 {r} (h : Z3A x0 x7 x8 = some r) : Z4h x0 x7 x8 = some r :=
 Z1l (fun _ _ ha hb => ru_ Z1N (ha .ex) (hb .ex)) (fun ox0 => Zds x0 x7 x8 ox0 r h)
def ZaA (x0 : Z9) : Option Bool :=
 (Z4g x0).bind fun r1 =>
 some (!r1)
theorem Zkw x0 z27 z1u : Sim ZW (ZaA x0) (EE 56 [(pA_ (ZI x0 z27 z1u))] []) := by
 unfold ZaA
 refine zf (ZFY ..)<|ze<|zx (.ptr 0 0) [(Zk x0 z27 z1u)]<|ze<|zq<|zi fun r1 hr1 => ?_
 obtain ⟨_, er1, _, rfl⟩ := Zh3 x0 .sh .sh r1 hr1
 refine zc [] (bv r1) [(Zk x0 z27 z1u)] er1<|zq ?_
 exact zr ((bv (!r1)), [(Zk x0 z27 z1u)]) ⟨_, rfl⟩
theorem Zld x0 {r} (h : ZaA x0 = some r) : ZaC x0 = some r :=
 Z1l (fun _ _ ha hb => ru_ Z2L (ha .ex .ex) (hb .ex .ex)) (fun z27 z1u => Zkw x0 z27 z1u r h)
def Zip (x0 : Z9) : Option Int :=
 Z6p 0 x0.Kids (x0.Kids.length : Int) 0 x0
theorem Zou x0 z27 z1u : Sim ZL (Zip x0) (EE 11 [(pA_ (ZI x0 z27 z1u))] []) := by
 unfold Zip
 refine zf (ZEO ..)<|ze<|zx (.ptr 0 0) [(Zk x0 z27 z1u)]<|ze<|ze<|zq<|zq<|zp (iv (x0.Kids.length : Int)) (et_ (Z2S (P := PP) (t := 29) (d := 31) (by kernel_rfl) ZJ (shrO z1u) x0.Kids)) ?_
 exact zk (Zh2 0 x0.Kids (x0.Kids.length : Int) 0 x0 (shrO z1u) z27 z1u)
theorem Zf1 x0 {r} (h : Zip x0 = some r) : Z53 x0 = some r :=
 Z1l (fun _ _ ha hb => ru_ Z1N (ha .ex .ex) (hb .ex .ex)) (fun z27 z1u => Zou x0 z27 z1u r h)
def ZbR (x3 : Int) (x8 : List Z9) (x9 x10 : Int) (b0 : Z9) : Option Int :=
 (lget x8 x10).bind fun a1 =>
 (Z53 a1).bind fun r2 =>
 Z6p (min (IntKind.i64.wrap (x3 + r2)) 1048576) x8 x9 (IntKind.i64.wrap (x10 + 1)) b0
theorem ZlV x3 (x8 : List Z9) x9 x10 b0 ox8 z1Y z1A : Sim ZL (ZbR x3 x8 x9 x10 b0) (ZsV 0 (.ptr 0 0) (iv x3) (ZR ox8 (x8.map ZJ)) (iv x9) (iv x10) [(Zk b0 z1Y z1A)]) := by
 unfold ZbR
 refine zf (Zzl ..)<|ze<|zi fun a1 ha1 => zp (.cptr (ZI a1 .sh .sh)) (et_ (Z2k (o := ox8) (k := .i64) (n := 7) (e := ZJ) (cs := Z22) Z2I (fun _ => rfl) (by decide) ha1))<|zq<|zz (.ptr 1 0) [(Zk b0 z1Y z1A), (Zk Z1D .nl .nl)]<|zt [(Zk b0 z1Y z1A), (Zk a1 .sh .sh)]<|ze<|zq<|zi fun r2 hr2 => ?_
 obtain ⟨_, er2, _, rfl⟩ := Zf2 a1 .sh .sh r2 hr2
 refine zc [] (iv r2) [(Zk b0 z1Y z1A), (Zk a1 .sh .sh)] er2<|zq<|zp (iv (min (IntKind.i64.wrap (x3 + r2)) 1048576)) (ZaY _ _)<|ze<|zq ?_
 exact zk (Zh2 (min (IntKind.i64.wrap (x3 + r2)) 1048576) x8 x9 (IntKind.i64.wrap (x10 + 1)) b0 ox8 z1Y z1A)
def Z1z (x3 : Int) : Option Int :=
 some (min x3 1048576)
theorem Z1F x3 : Sim ZL (Z1z x3) (Z47 0 (iv x3) []) := by
 unfold Z1z
 refine zf (Zxl ..)<|ze<|zp (iv (min x3 1048576)) (ZaY _ _) ?_
 exact zr ((iv (min x3 1048576)), []) ⟨_, rfl⟩
def Z1S (x3 : Int) (b0 : Z9) : Option Int :=
 if (b0.Mode == 2) = true then
 (Z1z (IntKind.i64.wrap (x3 + 2)))
 else
 (Z1z x3)
theorem Z21 x3 b0 z1Y z1A : Sim ZL (Z1S x3 b0) (Z5G 0 (.ptr 0 0) (iv x3) [(Zk b0 z1Y z1A)]) := by
 unfold Z1S
 refine zf (Zxk ..)<|ze<|zq<|zq<|zq ?_
 refine za (b0.Mode == 2) ?_ ?_
 ·refine ze<|zq ?_
  exact zk (Z1F (IntKind.i64.wrap (x3 + 2)))
 ·exact zk (Z1F x3)
def Z5w (x3 : Int) (b0 : Z9) : Option Int :=
 if (b0.Kind == 1) = true then
 (if (b0.Kind == 1) = true then
 (some (1))
 else
 (if (b0.Kind == 3) = true then
 (Z1z ((IntKind.i64.wrap (x3 + (IntKind.i64.wrap (2 * (IntKind.i64.wrap ((b0.Kids.length : Int) - 1))))))))
 else
 (if (b0.Kind == 5) = true then
 (if (b0.Kind == 5) = true then
 (Z1z (IntKind.i64.wrap (x3 + 2)))
 else
 (if (b0.Kind == 4) = true then
 (if (decide (b0.Hi < 0)) = true then
 (Z1S (IntKind.i64.wrap ((IntKind.i64.wrap (b0.Lo * x3)) + (IntKind.i64.wrap (x3 + 4)))) b0)
 else
 (Z1S ((IntKind.i64.wrap ((IntKind.i64.wrap (b0.Lo * x3)) + (IntKind.i64.wrap ((IntKind.i64.wrap (b0.Hi - b0.Lo)) * (IntKind.i64.wrap (x3 + 1))))))) b0))
 else
 (Z1z x3)))
 else
 (if (b0.Kind == 7) = true then
 (if (b0.Kind == 7) = true then
 (Z1z (IntKind.i64.wrap (x3 + 2)))
 else
 (if (b0.Kind == 4) = true then
 (if (decide (b0.Hi < 0)) = true then
 (Z1S (IntKind.i64.wrap ((IntKind.i64.wrap (b0.Lo * x3)) + (IntKind.i64.wrap (x3 + 4)))) b0)
 else
 (Z1S ((IntKind.i64.wrap ((IntKind.i64.wrap (b0.Lo * x3)) + (IntKind.i64.wrap ((IntKind.i64.wrap (b0.Hi - b0.Lo)) * (IntKind.i64.wrap (x3 + 1))))))) b0))
 else
 (Z1z x3)))
 else
 (if (b0.Kind == 8) = true then
 (Z1z (IntKind.i64.wrap (x3 + 2)))
 else
 (if (b0.Kind == 4) = true then
 (if (decide (b0.Hi < 0)) = true then
 (Z1S (IntKind.i64.wrap ((IntKind.i64.wrap (b0.Lo * x3)) + (IntKind.i64.wrap (x3 + 4)))) b0)
 else
 (Z1S ((IntKind.i64.wrap ((IntKind.i64.wrap (b0.Lo * x3)) + (IntKind.i64.wrap ((IntKind.i64.wrap (b0.Hi - b0.Lo)) * (IntKind.i64.wrap (x3 + 1))))))) b0))
 else
 (Z1z x3)))))))
 else
 (if (b0.Kind == 6) = true then
 (if (b0.Kind == 6) = true then
 (some (1))
 else
 (if (b0.Kind == 3) = true then
 (Z1z ((IntKind.i64.wrap (x3 + (IntKind.i64.wrap (2 * (IntKind.i64.wrap ((b0.Kids.length : Int) - 1))))))))
 else
 (if (b0.Kind == 5) = true then
 (if (b0.Kind == 5) = true then
 (Z1z (IntKind.i64.wrap (x3 + 2)))
 else
 (if (b0.Kind == 4) = true then
 (if (decide (b0.Hi < 0)) = true then
 (Z1S (IntKind.i64.wrap ((IntKind.i64.wrap (b0.Lo * x3)) + (IntKind.i64.wrap (x3 + 4)))) b0)
 else
 (Z1S ((IntKind.i64.wrap ((IntKind.i64.wrap (b0.Lo * x3)) + (IntKind.i64.wrap ((IntKind.i64.wrap (b0.Hi - b0.Lo)) * (IntKind.i64.wrap (x3 + 1))))))) b0))
 else
 (Z1z x3)))
 else
 (if (b0.Kind == 7) = true then
 (if (b0.Kind == 7) = true then
 (Z1z (IntKind.i64.wrap (x3 + 2)))
 else
 (if (b0.Kind == 4) = true then
 (if (decide (b0.Hi < 0)) = true then
 (Z1S (IntKind.i64.wrap ((IntKind.i64.wrap (b0.Lo * x3)) + (IntKind.i64.wrap (x3 + 4)))) b0)
 else
 (Z1S ((IntKind.i64.wrap ((IntKind.i64.wrap (b0.Lo * x3)) + (IntKind.i64.wrap ((IntKind.i64.wrap (b0.Hi - b0.Lo)) * (IntKind.i64.wrap (x3 + 1))))))) b0))
 else
 (Z1z x3)))
 else
 (if (b0.Kind == 8) = true then
 (Z1z (IntKind.i64.wrap (x3 + 2)))
 else
 (if (b0.Kind == 4) = true then
 (if (decide (b0.Hi < 0)) = true then
 (Z1S (IntKind.i64.wrap ((IntKind.i64.wrap (b0.Lo * x3)) + (IntKind.i64.wrap (x3 + 4)))) b0)
 else
 (Z1S ((IntKind.i64.wrap ((IntKind.i64.wrap (b0.Lo * x3)) + (IntKind.i64.wrap ((IntKind.i64.wrap (b0.Hi - b0.Lo)) * (IntKind.i64.wrap (x3 + 1))))))) b0))
 else
 (Z1z x3)))))))
 else
 (if (b0.Kind == 9) = true then
 (some (1))
 else
 (if (b0.Kind == 3) = true then
 (Z1z ((IntKind.i64.wrap (x3 + (IntKind.i64.wrap (2 * (IntKind.i64.wrap ((b0.Kids.length : Int) - 1))))))))
 else
 (if (b0.Kind == 5) = true then
 (if (b0.Kind == 5) = true then
 (Z1z (IntKind.i64.wrap (x3 + 2)))
 else
 (if (b0.Kind == 4) = true then
 (if (decide (b0.Hi < 0)) = true then
 (Z1S (IntKind.i64.wrap ((IntKind.i64.wrap (b0.Lo * x3)) + (IntKind.i64.wrap (x3 + 4)))) b0)
 else
 (Z1S ((IntKind.i64.wrap ((IntKind.i64.wrap (b0.Lo * x3)) + (IntKind.i64.wrap ((IntKind.i64.wrap (b0.Hi - b0.Lo)) * (IntKind.i64.wrap (x3 + 1))))))) b0))
 else
 (Z1z x3)))
 else
 (if (b0.Kind == 7) = true then
 (if (b0.Kind == 7) = true then
 (Z1z (IntKind.i64.wrap (x3 + 2)))
 else
 (if (b0.Kind == 4) = true then
 (if (decide (b0.Hi < 0)) = true then
 (Z1S (IntKind.i64.wrap ((IntKind.i64.wrap (b0.Lo * x3)) + (IntKind.i64.wrap (x3 + 4)))) b0)
 else
 (Z1S ((IntKind.i64.wrap ((IntKind.i64.wrap (b0.Lo * x3)) + (IntKind.i64.wrap ((IntKind.i64.wrap (b0.Hi - b0.Lo)) * (IntKind.i64.wrap (x3 + 1))))))) b0))
 else
 (Z1z x3)))
 else
 (if (b0.Kind == 8) = true then
 (Z1z (IntKind.i64.wrap (x3 + 2)))
 else
 (if (b0.Kind == 4) = true then
 (if (decide (b0.Hi < 0)) = true then
 (Z1S (IntKind.i64.wrap ((IntKind.i64.wrap (b0.Lo * x3)) + (IntKind.i64.wrap (x3 + 4)))) b0)
 else
 (Z1S ((IntKind.i64.wrap ((IntKind.i64.wrap (b0.Lo * x3)) + (IntKind.i64.wrap ((IntKind.i64.wrap (b0.Hi - b0.Lo)) * (IntKind.i64.wrap (x3 + 1))))))) b0))
 else
 (Z1z x3))))))))
theorem ZlW x3 b0 z1Y z1A : Sim ZL (Z5w x3 b0) (ZsW 0 (.ptr 0 0) (iv x3) [(Zk b0 z1Y z1A)]) := by
 unfold Z5w
 refine zf (Zzm ..)<|ze<|zq<|zq<|ze<|zq ?_
 refine za (b0.Kind == 1) ?_ ?_
 ·refine za (b0.Kind == 1) ?_ ?_
  ·refine ze ?_
   exact zr ((iv 1), [(Zk b0 z1Y z1A)]) ⟨_, rfl⟩
  ·refine ze<|zq ?_
   refine za (b0.Kind == 3) ?_ ?_
   ·refine ze<|zq<|zq<|zp (iv (b0.Kids.length : Int)) (et_ (Z2S (P := PP) (t := 29) (d := 31) (by kernel_rfl) ZJ (shrO z1A) b0.Kids))<|zq<|zq<|zq ?_
    exact zk (Z1F ((IntKind.i64.wrap (x3 + (IntKind.i64.wrap (2 * (IntKind.i64.wrap ((b0.Kids.length : Int) - 1))))))))
   ·refine ze<|zq ?_
    refine za (b0.Kind == 5) ?_ ?_
    ·refine za (b0.Kind == 5) ?_ ?_
     ·refine ze<|zq ?_
      exact zk (Z1F (IntKind.i64.wrap (x3 + 2)))
     ·refine ze<|zq ?_
      refine za (b0.Kind == 4) ?_ ?_
      ·refine ze<|ze<|zq<|zq<|zq<|ze<|zq<|zq<|zq ?_
       refine za (decide (b0.Hi < 0)) ?_ ?_
       ·refine ze<|zq<|zq ?_
        exact zk (Z21 (IntKind.i64.wrap ((IntKind.i64.wrap (b0.Lo * x3)) + (IntKind.i64.wrap (x3 + 4)))) b0 z1Y z1A)
       ·refine ze<|zq<|zq<|zq<|zq<|zq<|zq<|zq<|zq ?_
        exact zk (Z21 ((IntKind.i64.wrap ((IntKind.i64.wrap (b0.Lo * x3)) + (IntKind.i64.wrap ((IntKind.i64.wrap (b0.Hi - b0.Lo)) * (IntKind.i64.wrap (x3 + 1))))))) b0 z1Y z1A)
      ·exact zk (Z1F x3)
    ·refine ze<|zq ?_
     refine za (b0.Kind == 7) ?_ ?_
     ·refine za (b0.Kind == 7) ?_ ?_
      ·refine ze<|zq ?_
       exact zk (Z1F (IntKind.i64.wrap (x3 + 2)))
      ·refine ze<|zq ?_
       refine za (b0.Kind == 4) ?_ ?_
       ·refine ze<|ze<|zq<|zq<|zq<|ze<|zq<|zq<|zq ?_
        refine za (decide (b0.Hi < 0)) ?_ ?_
        ·refine ze<|zq<|zq ?_
         exact zk (Z21 (IntKind.i64.wrap ((IntKind.i64.wrap (b0.Lo * x3)) + (IntKind.i64.wrap (x3 + 4)))) b0 z1Y z1A)
        ·refine ze<|zq<|zq<|zq<|zq<|zq<|zq<|zq<|zq ?_
         exact zk (Z21 ((IntKind.i64.wrap ((IntKind.i64.wrap (b0.Lo * x3)) + (IntKind.i64.wrap ((IntKind.i64.wrap (b0.Hi - b0.Lo)) * (IntKind.i64.wrap (x3 + 1))))))) b0 z1Y z1A)
       ·exact zk (Z1F x3)
     ·refine ze<|zq ?_
      refine za (b0.Kind == 8) ?_ ?_
      ·refine ze<|zq ?_
       exact zk (Z1F (IntKind.i64.wrap (x3 + 2)))
      ·refine ze<|zq ?_
       refine za (b0.Kind == 4) ?_ ?_
       ·refine ze<|ze<|zq<|zq<|zq<|ze<|zq<|zq<|zq ?_
        refine za (decide (b0.Hi < 0)) ?_ ?_
        ·refine ze<|zq<|zq ?_
         exact zk (Z21 (IntKind.i64.wrap ((IntKind.i64.wrap (b0.Lo * x3)) + (IntKind.i64.wrap (x3 + 4)))) b0 z1Y z1A)
        ·refine ze<|zq<|zq<|zq<|zq<|zq<|zq<|zq<|zq ?_
         exact zk (Z21 ((IntKind.i64.wrap ((IntKind.i64.wrap (b0.Lo * x3)) + (IntKind.i64.wrap ((IntKind.i64.wrap (b0.Hi - b0.Lo)) * (IntKind.i64.wrap (x3 + 1))))))) b0 z1Y z1A)
       ·exact zk (Z1F x3)
 ·refine ze<|zq ?_
  refine za (b0.Kind == 6) ?_ ?_
  ·refine za (b0.Kind == 6) ?_ ?_
   ·refine ze ?_
    exact zr ((iv 1), [(Zk b0 z1Y z1A)]) ⟨_, rfl⟩
   ·refine ze<|zq ?_
    refine za (b0.Kind == 3) ?_ ?_
    ·refine ze<|zq<|zq<|zp (iv (b0.Kids.length : Int)) (et_ (Z2S (P := PP) (t := 29) (d := 31) (by kernel_rfl) ZJ (shrO z1A) b0.Kids))<|zq<|zq<|zq ?_
     exact zk (Z1F ((IntKind.i64.wrap (x3 + (IntKind.i64.wrap (2 * (IntKind.i64.wrap ((b0.Kids.length : Int) - 1))))))))
    ·refine ze<|zq ?_
     refine za (b0.Kind == 5) ?_ ?_
     ·refine za (b0.Kind == 5) ?_ ?_
      ·refine ze<|zq ?_
       exact zk (Z1F (IntKind.i64.wrap (x3 + 2)))
      ·refine ze<|zq ?_
       refine za (b0.Kind == 4) ?_ ?_
       ·refine ze<|ze<|zq<|zq<|zq<|ze<|zq<|zq<|zq ?_
        refine za (decide (b0.Hi < 0)) ?_ ?_
        ·refine ze<|zq<|zq ?_
         exact zk (Z21 (IntKind.i64.wrap ((IntKind.i64.wrap (b0.Lo * x3)) + (IntKind.i64.wrap (x3 + 4)))) b0 z1Y z1A)
        ·refine ze<|zq<|zq<|zq<|zq<|zq<|zq<|zq<|zq ?_
         exact zk (Z21 ((IntKind.i64.wrap ((IntKind.i64.wrap (b0.Lo * x3)) + (IntKind.i64.wrap ((IntKind.i64.wrap (b0.Hi - b0.Lo)) * (IntKind.i64.wrap (x3 + 1))))))) b0 z1Y z1A)
       ·exact zk (Z1F x3)
     ·refine ze<|zq ?_
      refine za (b0.Kind == 7) ?_ ?_
      ·refine za (b0.Kind == 7) ?_ ?_
       ·refine ze<|zq ?_
        exact zk (Z1F (IntKind.i64.wrap (x3 + 2)))
       ·refine ze<|zq ?_
        refine za (b0.Kind == 4) ?_ ?_
        ·refine ze<|ze<|zq<|zq<|zq<|ze<|zq<|zq<|zq ?_
         refine za (decide (b0.Hi < 0)) ?_ ?_
         ·refine ze<|zq<|zq ?_
          exact zk (Z21 (IntKind.i64.wrap ((IntKind.i64.wrap (b0.Lo * x3)) + (IntKind.i64.wrap (x3 + 4)))) b0 z1Y z1A)
         ·refine ze<|zq<|zq<|zq<|zq<|zq<|zq<|zq<|zq ?_
          exact zk (Z21 ((IntKind.i64.wrap ((IntKind.i64.wrap (b0.Lo * x3)) + (IntKind.i64.wrap ((IntKind.i64.wrap (b0.Hi - b0.Lo)) * (IntKind.i64.wrap (x3 + 1))))))) b0 z1Y z1A)
        ·exact zk (Z1F x3)
      ·refine ze<|zq ?_
       refine za (b0.Kind == 8) ?_ ?_
       ·refine ze<|zq ?_
        exact zk (Z1F (IntKind.i64.wrap (x3 + 2)))
       ·refine ze<|zq ?_
        refine za (b0.Kind == 4) ?_ ?_
        ·refine ze<|ze<|zq<|zq<|zq<|ze<|zq<|zq<|zq ?_
         refine za (decide (b0.Hi < 0)) ?_ ?_
         ·refine ze<|zq<|zq ?_
          exact zk (Z21 (IntKind.i64.wrap ((IntKind.i64.wrap (b0.Lo * x3)) + (IntKind.i64.wrap (x3 + 4)))) b0 z1Y z1A)
         ·refine ze<|zq<|zq<|zq<|zq<|zq<|zq<|zq<|zq ?_
          exact zk (Z21 ((IntKind.i64.wrap ((IntKind.i64.wrap (b0.Lo * x3)) + (IntKind.i64.wrap ((IntKind.i64.wrap (b0.Hi - b0.Lo)) * (IntKind.i64.wrap (x3 + 1))))))) b0 z1Y z1A)
        ·exact zk (Z1F x3)
  ·refine ze<|zq ?_
   refine za (b0.Kind == 9) ?_ ?_
   ·refine ze ?_
    exact zr ((iv 1), [(Zk b0 z1Y z1A)]) ⟨_, rfl⟩
   ·refine ze<|zq ?_
    refine za (b0.Kind == 3) ?_ ?_
    ·refine ze<|zq<|zq<|zp (iv (b0.Kids.length : Int)) (et_ (Z2S (P := PP) (t := 29) (d := 31) (by kernel_rfl) ZJ (shrO z1A) b0.Kids))<|zq<|zq<|zq ?_
     exact zk (Z1F ((IntKind.i64.wrap (x3 + (IntKind.i64.wrap (2 * (IntKind.i64.wrap ((b0.Kids.length : Int) - 1))))))))
    ·refine ze<|zq ?_
     refine za (b0.Kind == 5) ?_ ?_
     ·refine za (b0.Kind == 5) ?_ ?_
      ·refine ze<|zq ?_
       exact zk (Z1F (IntKind.i64.wrap (x3 + 2)))
      ·refine ze<|zq ?_
       refine za (b0.Kind == 4) ?_ ?_
       ·refine ze<|ze<|zq<|zq<|zq<|ze<|zq<|zq<|zq ?_
        refine za (decide (b0.Hi < 0)) ?_ ?_
        ·refine ze<|zq<|zq ?_
         exact zk (Z21 (IntKind.i64.wrap ((IntKind.i64.wrap (b0.Lo * x3)) + (IntKind.i64.wrap (x3 + 4)))) b0 z1Y z1A)
        ·refine ze<|zq<|zq<|zq<|zq<|zq<|zq<|zq<|zq ?_
         exact zk (Z21 ((IntKind.i64.wrap ((IntKind.i64.wrap (b0.Lo * x3)) + (IntKind.i64.wrap ((IntKind.i64.wrap (b0.Hi - b0.Lo)) * (IntKind.i64.wrap (x3 + 1))))))) b0 z1Y z1A)
       ·exact zk (Z1F x3)
     ·refine ze<|zq ?_
      refine za (b0.Kind == 7) ?_ ?_
      ·refine za (b0.Kind == 7) ?_ ?_
       ·refine ze<|zq ?_
        exact zk (Z1F (IntKind.i64.wrap (x3 + 2)))
       ·refine ze<|zq ?_
        refine za (b0.Kind == 4) ?_ ?_
        ·refine ze<|ze<|zq<|zq<|zq<|ze<|zq<|zq<|zq ?_
         refine za (decide (b0.Hi < 0)) ?_ ?_
         ·refine ze<|zq<|zq ?_
          exact zk (Z21 (IntKind.i64.wrap ((IntKind.i64.wrap (b0.Lo * x3)) + (IntKind.i64.wrap (x3 + 4)))) b0 z1Y z1A)
         ·refine ze<|zq<|zq<|zq<|zq<|zq<|zq<|zq<|zq ?_
          exact zk (Z21 ((IntKind.i64.wrap ((IntKind.i64.wrap (b0.Lo * x3)) + (IntKind.i64.wrap ((IntKind.i64.wrap (b0.Hi - b0.Lo)) * (IntKind.i64.wrap (x3 + 1))))))) b0 z1Y z1A)
        ·exact zk (Z1F x3)
      ·refine ze<|zq ?_
       refine za (b0.Kind == 8) ?_ ?_
       ·refine ze<|zq ?_
        exact zk (Z1F (IntKind.i64.wrap (x3 + 2)))
       ·refine ze<|zq ?_
        refine za (b0.Kind == 4) ?_ ?_
        ·refine ze<|ze<|zq<|zq<|zq<|ze<|zq<|zq<|zq ?_
         refine za (decide (b0.Hi < 0)) ?_ ?_
         ·refine ze<|zq<|zq ?_
          exact zk (Z21 (IntKind.i64.wrap ((IntKind.i64.wrap (b0.Lo * x3)) + (IntKind.i64.wrap (x3 + 4)))) b0 z1Y z1A)
         ·refine ze<|zq<|zq<|zq<|zq<|zq<|zq<|zq<|zq ?_
          exact zk (Z21 ((IntKind.i64.wrap ((IntKind.i64.wrap (b0.Lo * x3)) + (IntKind.i64.wrap ((IntKind.i64.wrap (b0.Hi - b0.Lo)) * (IntKind.i64.wrap (x3 + 1))))))) b0 z1Y z1A)
        ·exact zk (Z1F x3)
def Za6 (x3 : Int) (x8 : List Z9) (x9 x10 : Int) (b0 : Z9) : Option Int :=
 if (decide (x10 < x9)) = true then
 (ZbR x3 x8 x9 x10 b0)
 else
 (Z5w x3 b0)
theorem ZlU x3 (x8 : List Z9) x9 x10 b0 ox8 z1Y z1A : Sim ZL (Za6 x3 x8 x9 x10 b0) (Zm5 0 (.ptr 0 0) (iv x3) (ZR ox8 (x8.map ZJ)) (iv x9) (iv x10) [(Zk b0 z1Y z1A)]) := by
 unfold Za6
 refine zf (Zzk ..)<|ze<|zq ?_
 refine za (decide (x10 < x9)) ?_ ?_
 ·exact zk (ZlV x3 x8 x9 x10 b0 ox8 z1Y z1A)
 ·exact zk (ZlW x3 b0 z1Y z1A)
theorem Zh1 x3 x8 x9 x10 b0 {r} (h : Za6 x3 x8 x9 x10 b0 = some r) : Z6p x3 x8 x9 x10 b0 = some r :=
 Z1l (fun _ _ ha hb => ru_ Z1N (ha .ex .ex .ex) (hb .ex .ex .ex)) (fun ox8 z1Y z1A => ZlU x3 x8 x9 x10 b0 ox8 z1Y z1A r h)
def Z8s (x1 : Zm) (zG : List Zm) : Option (Int × (List Zm)) :=
 (lapp zG ([x1] : List Zm)).bind fun a1 =>
 some ((IntKind.i64.wrap ((a1.length : Int) - 1)), a1)
theorem ZhY x1 (zG : List Zm) zB zD zQ : Sim (Z8l zB zD) (Z8s x1 zG) (EE 28 [(.ptr 0 0), (pA_ (Z1k x1 zQ))] [[(.p (.ml 6 (zG.map ZC))), (bv zB), (iv zD)]]) := by
 unfold Z8s
 refine zf (ZFm ..)<|ze<|zx (.ptr 1 0) [[(.p (.ml 6 (zG.map ZC))), (bv zB), (iv zD)], (Z1t x1 zQ)]<|ze<|zq<|zq<|zw (.p (.ml 6 (zG.map ZC))) [[(.p (.hd (List.length (zG.map ZC)))), (bv zB), (iv zD)], (Z1t x1 zQ)]<|zq<|zq<|zi fun a1 ha1 => zp (.p (.ml 6 (a1.map ZC))) (Eq.trans (by kernel_rfl) <| ZDk (n := 6) (o' := .ex) (e := ZC) (ys := ([x1] : List Zm)) (fun _ => rfl) (by decide) ha1)<|zq<|zq<|zt [[(.p (.ml 6 (a1.map ZC))), (bv zB), (iv zD)], (Z1t x1 zQ)]<|zg<|ze<|zq<|zq<|zq<|zp (iv (a1.length : Int)) (et_ (ZbI (P := PP) (t := 23) (d := 40) (by kernel_rfl) ZC a1))<|zq ?_
 exact zr ((iv (IntKind.i64.wrap ((a1.length : Int) - 1))), [[(.p (.ml 6 (a1.map ZC))), (bv zB), (iv zD)], (Z1t x1 zQ)]) ⟨_, rfl⟩
theorem ZiH x1 zG {r} (h : Z8s x1 zG = some r) : Z1n x1 zG = some r :=
 Z1l (fun _ _ ha hb => ru_ (Zj1 _ _) (ha default default .ex) (hb default default .ex)) (fun zB zD zQ => ZhY x1 zG zB zD zQ r h)
def Z3p (x4 : List Z8) (zG : List Zm) (zD : Int) : Option ((List Zm) × Int) :=
 (Z9c x4 ([] : List Z8)).bind fun r1 =>
 (Z1n (Zm.mk 1 0 0 0 0 r1.1) zG).bind fun r2 =>
 some (r2.2, zD)
theorem Zau (x4 : List Z8) (zG : List Zm) zB zD ox4 : Sim (Z18 zB) (Z3p x4 zG zD) (Zpv 1 (.ptr 1 0) (ZR ox4 (x4.map Zv)) [[(.p (.ml 6 (zG.map ZC))), (bv zB), (iv zD)], [(.ptr 0 0)]]) := by
 unfold Z3p
 refine zf (ZzS ..)<|ze<|zi fun r1 hr1 => ?_
 obtain ⟨_, er1, _, rfl⟩ := Zhw x4 ([] : List Z8) .sh .sh r1 hr1
 refine zc [] (.p (.tup [(.lst .sh (r1.1.map Zv)), (.v (.int .i64 r1.2))])) [[(.p (.ml 6 (zG.map ZC))), (bv zB), (iv zD)], [(.ptr 0 0)]] er1<|zq<|zq<|ze<|zq<|zq<|zi fun r2 hr2 => ?_
 obtain ⟨_, er2, _, rfl⟩ := Z1w (Zm.mk 1 0 0 0 0 r1.1) zG zB zD .sh r2 hr2
 refine zc [0] (iv r2.1) [[(.p (.ml 6 (r2.2.map ZC))), (bv zB), (iv zD)], [(.ptr 0 0)]] er2 ?_
 exact zr ((.p (.tup [])), [[(.p (.ml 6 (r2.2.map ZC))), (bv zB), (iv zD)], [(.ptr 0 0)]]) ⟨_, rfl⟩
def Z3f (zG : List Zm) (zD z9Z zc1 zc2 zc3 zc4 : Int) (z2r : List Z8) : Option ((List Zm) × Int) :=
 (Z1n (Zm.mk z9Z zc1 zc2 zc3 zc4 z2r) zG).bind fun r1 =>
 some (r1.2, zD)
theorem Zab (zG : List Zm) zB zD b2 z9Z zc1 zc2 zc3 zc4 z2r z1c z12 z34 (zbk : ZO z34 = true) : Sim (Z18 zB) (Z3f zG zD z9Z zc1 zc2 zc3 zc4 z2r) (Znr 1 (.ptr 1 0) (.ptr 3 0) [[(.p (.ml 6 (zG.map ZC))), (bv zB), (iv zD)], [(.ptr 0 0)], (Zk b2 z1c z12), (Z1t (Zm.mk z9Z zc1 zc2 zc3 zc4 z2r) z34)]) := by
 unfold Z3f
 refine zf (Zxq ..)<|ze<|zq<|zq<|zi fun r1 hr1 => ?_
 obtain ⟨_, er1, _, rfl⟩ := Z1w (Zm.mk z9Z zc1 zc2 zc3 zc4 z2r) zG zB zD .sh r1 hr1
 refine zc [0] (iv r1.1) [[(.p (.ml 6 (r1.2.map ZC))), (bv zB), (iv zD)], [(.ptr 0 0)], (Zk b2 z1c z12), (Z1t (Zm.mk z9Z zc1 zc2 zc3 zc4 z2r) z34)] er1 ?_
 exact zr ((.p (.tup [])), [[(.p (.ml 6 (r1.2.map ZC))), (bv zB), (iv zD)], [(.ptr 0 0)], (Zk b2 z1c z12), (Z1t (Zm.mk z9Z zc1 zc2 zc3 zc4 z2r) z34)]) ⟨_, rfl⟩
def Z3g (zG : List Zm) (zB : Bool) (zD : Int) (b2 : Z9) (z9Z zc1 zc2 zc3 zc4 : Int) (z2r : List Z8) : Option ((List Zm) × Int) :=
 (Z7t (Zm.mk z9Z zc1 zc2 zc3 zc4 z2r) zG zB zD b2).bind fun r1 =>
 some (r1.1, r1.2)
theorem Zac (zG : List Zm) zB zD b2 z9Z zc1 zc2 zc3 zc4 z2r z1c z12 z34 (zbk : ZO z34 = true) : Sim (Z18 zB) (Z3g zG zB zD b2 z9Z zc1 zc2 zc3 zc4 z2r) (Zns 1 (.ptr 1 0) (.ptr 2 0) (.ptr 3 0) [[(.p (.ml 6 (zG.map ZC))), (bv zB), (iv zD)], [(.ptr 0 0)], (Zk b2 z1c z12), (Z1t (Zm.mk z9Z zc1 zc2 zc3 zc4 z2r) z34)]) := by
 unfold Z3g
 refine zf (Zxr ..)<|ze<|zq<|zq<|zi fun r1 hr1 => ?_
 obtain ⟨_, er1, _, rfl⟩ := Zh0 (Zm.mk z9Z zc1 zc2 zc3 zc4 z2r) zG zB zD b2 .sh z1c z12 r1 hr1
 refine zc [0, 1, 2] (.p (.tup [])) [[(.p (.ml 6 (r1.1.map ZC))), (bv zB), (iv r1.2)], [(.ptr 0 0)], (Zk b2 z1c z12), (Z1t (Zm.mk z9Z zc1 zc2 zc3 zc4 z2r) z34)] er1 ?_
 exact zr ((.p (.tup [])), [[(.p (.ml 6 (r1.1.map ZC))), (bv zB), (iv r1.2)], [(.ptr 0 0)], (Zk b2 z1c z12), (Z1t (Zm.mk z9Z zc1 zc2 zc3 zc4 z2r) z34)]) ⟨_, rfl⟩
def Z5d (x1 : Z9) (zG : List Zm) (zB : Bool) (zD : Int) : Option ((List Zm) × Int) :=
 if (x1.Kind == 1) = true then
 (if zB = true then
 ((Z9n x1.Set).bind fun r1 =>
 Z3p r1.1 zG zD)
 else
 (Z3p x1.Set zG zD))
 else
 (if (x1.Kind == 2) = true then
 (Z52 x1.Kids (x1.Kids.length : Int) 0 zG zB zD)
 else
 (if (x1.Kind == 3) = true then
 ((Z6T x1.Kids zG zB zD).bind fun r2 =>
 some (r2.1, r2.2))
 else
 (if (x1.Kind == 4) = true then
 (if (x1.Mode == 2) = true then
 ((Z4G (Zm.mk 8 0 0 0 0 ([] : List Z8)) zG zB zD x1).bind fun r3 =>
 some (r3.1, r3.2))
 else
 ((Z4D x1 zG zB zD).bind fun r4 =>
 some (r4.1, r4.2)))
 else
 (if (x1.Kind == 5) = true then
 ((Z1n (Zm.mk 4 (IntKind.i64.wrap (2 * x1.Ref)) 0 0 0 ([] : List Z8)) zG).bind fun r5 =>
 (lget x1.Kids 0).bind fun a6 =>
 (Z1V a6 r5.2 zB zD).bind fun r7 =>
 (Z1n ((Zm.mk 4 (IntKind.i64.wrap ((IntKind.i64.wrap (2 * x1.Ref)) + 1)) 0 0 0 ([] : List Z8))) r7.1).bind fun r8 =>
 some (r8.2, r7.2))
 else
 (if (x1.Kind == 6) = true then
 (if zB = true then
 (Z3f zG zD 5 x1.Ref 1 0 0 ([] : List Z8))
 else
 (Z3f zG zD 5 x1.Ref 0 0 0 ([] : List Z8)))
 else
 (if (x1.Kind == 7) = true then
 (if (decide (2 ≤ x1.Mode)) = true then
 ((lget x1.Kids 0).bind fun a9 =>
 (Z3h a9).bind fun r10 =>
 Z3g zG zB zD x1 7 x1.Mode 0 r10.1 r10.2 ([] : List Z8))
 else
 (Z3g zG zB zD x1 7 x1.Mode 0 0 0 ([] : List Z8)))
 else
 (if (x1.Kind == 8) = true then
 ((Z60 (Zm.mk 8 0 0 0 0 ([] : List Z8)) zG zB zD x1).bind fun r11 =>
 some (r11.1, r11.2))
 else
 (if (x1.Kind == 9) = true then
 ((Z1n (Zm.mk 6 x1.Ref 0 0 0 ([] : List Z8)) zG).bind fun r12 =>
 some (r12.2, zD))
 else
 (some (zG, zD))))))))))
theorem Zhl x1 (zG : List Zm) zB zD zQ z10 : Sim (Z18 zB) (Z5d x1 zG zB zD) (EE 29 [(.ptr 0 0), (pA_ (ZI x1 zQ z10))] [[(.p (.ml 6 (zG.map ZC))), (bv zB), (iv zD)]]) := by
 unfold Z5d
 refine zf (ZFn ..)<|ze<|zx (.ptr 1 0) [[(.p (.ml 6 (zG.map ZC))), (bv zB), (iv zD)], [(.ptr 0 0)]]<|zx (.ptr 2 0) [[(.p (.ml 6 (zG.map ZC))), (bv zB), (iv zD)], [(.ptr 0 0)], (Zk x1 zQ z10)]<|ze<|zq<|zq<|ze<|zq ?_
 refine za (x1.Kind == 1) ?_ ?_
 ·refine ze<|zq<|zq<|ze<|zq<|zq<|zq<|zq ?_
  refine za zB ?_ ?_
  ·refine ze<|zi fun r1 hr1 => ?_
   obtain ⟨_, er1, _, rfl⟩ := ZlN x1.Set .sh r1 hr1
   refine zc [] (.p (.tup [(.lst .sh (r1.1.map Zv)), (.v (.int .i64 r1.2))])) [[(.p (.ml 6 (zG.map ZC))), (bv zB), (iv zD)], [(.ptr 0 0)], (Zk x1 zQ z10)] er1<|zq<|zq ?_
   exact zk (Zau r1.1 zG zB zD .sh)
  ·exact zk (Zau x1.Set zG zB zD (shrO (shrO zQ)))
 ·refine ze<|zq ?_
  refine za (x1.Kind == 2) ?_ ?_
  ·refine ze<|zq<|zq<|zp (iv (x1.Kids.length : Int)) (et_ (Z2S (P := PP) (t := 29) (d := 31) (by kernel_rfl) ZJ (shrO z10) x1.Kids)) ?_
   exact zk (Zat x1.Kids (x1.Kids.length : Int) 0 zG zB zD (shrO z10))
  ·refine ze<|zq ?_
   refine za (x1.Kind == 3) ?_ ?_
   ·refine ze<|zq<|zq<|zq<|zi fun r2 hr2 => ?_
    obtain ⟨_, er2, _, rfl⟩ := ZiG x1.Kids zG zB zD .sh r2 hr2
    refine zc [0] (.p (.tup [])) [[(.p (.ml 6 (r2.1.map ZC))), (bv zB), (iv r2.2)], [(.ptr 0 0)], (Zk x1 zQ z10)] er2 ?_
    exact zr ((.p (.tup [])), [[(.p (.ml 6 (r2.1.map ZC))), (bv zB), (iv r2.2)], [(.ptr 0 0)], (Zk x1 zQ z10)]) ⟨_, rfl⟩
   ·refine ze<|zq ?_
    refine za (x1.Kind == 4) ?_ ?_
    ·refine ze<|zq<|zq<|zq ?_
     refine za (x1.Mode == 2) ?_ ?_
     ·refine ze<|zq<|zq<|zi fun r3 hr3 => ?_
      obtain ⟨_, er3, _, rfl⟩ := ZgW (Zm.mk 8 0 0 0 0 ([] : List Z8)) zG zB zD x1 .sh zQ z10 r3 hr3
      refine zc [0, 1, 2] (.p (.tup [])) [[(.p (.ml 6 (r3.1.map ZC))), (bv zB), (iv r3.2)], [(.ptr 0 0)], (Zk x1 zQ z10)] er3 ?_
      exact zr ((.p (.tup [])), [[(.p (.ml 6 (r3.1.map ZC))), (bv zB), (iv r3.2)], [(.ptr 0 0)], (Zk x1 zQ z10)]) ⟨_, rfl⟩
     ·refine ze<|zq<|zq<|zi fun r4 hr4 => ?_
      obtain ⟨_, er4, _, rfl⟩ := Zb2 x1 zG zB zD .sh .sh r4 hr4
      refine zc [0] (.p (.tup [])) [[(.p (.ml 6 (r4.1.map ZC))), (bv zB), (iv r4.2)], [(.ptr 0 0)], (Zk x1 zQ z10)] er4 ?_
      exact zr ((.p (.tup [])), [[(.p (.ml 6 (r4.1.map ZC))), (bv zB), (iv r4.2)], [(.ptr 0 0)], (Zk x1 zQ z10)]) ⟨_, rfl⟩
    ·refine ze<|zq ?_
     refine za (x1.Kind == 5) ?_ ?_
     ·refine ze<|zq<|zq<|zq<|zq<|zq<|zi fun r5 hr5 => ?_
      obtain ⟨_, er5, _, rfl⟩ := Z1w (Zm.mk 4 (IntKind.i64.wrap (2 * x1.Ref)) 0 0 0 ([] : List Z8)) zG zB zD .sh r5 hr5
      refine zc [0] (iv r5.1) [[(.p (.ml 6 (r5.2.map ZC))), (bv zB), (iv zD)], [(.ptr 0 0)], (Zk x1 zQ z10)] er5<|ze<|zq<|zq<|zq<|zi fun a6 ha6 => zp (.cptr (ZI a6 .sh .sh)) (et_ (Z2k (o := (shrO z10)) (k := .i64) (n := 7) (e := ZJ) (cs := Z22) Z2I (fun _ => rfl) (by decide) ha6))<|zq<|zi fun r7 hr7 => ?_
      obtain ⟨_, er7, _, rfl⟩ := Z2J a6 r5.2 zB zD .sh .sh r7 hr7
      refine zc [0] (.p (.tup [])) [[(.p (.ml 6 (r7.1.map ZC))), (bv zB), (iv r7.2)], [(.ptr 0 0)], (Zk x1 zQ z10)] er7<|ze<|zq<|zq<|zq<|zq<|zq<|zq<|zi fun r8 hr8 => ?_
      obtain ⟨_, er8, _, rfl⟩ := Z1w ((Zm.mk 4 (IntKind.i64.wrap ((IntKind.i64.wrap (2 * x1.Ref)) + 1)) 0 0 0 ([] : List Z8))) r7.1 zB r7.2 .sh r8 hr8
      refine zc [0] (iv r8.1) [[(.p (.ml 6 (r8.2.map ZC))), (bv zB), (iv r7.2)], [(.ptr 0 0)], (Zk x1 zQ z10)] er8 ?_
      exact zr ((.p (.tup [])), [[(.p (.ml 6 (r8.2.map ZC))), (bv zB), (iv r7.2)], [(.ptr 0 0)], (Zk x1 zQ z10)]) ⟨_, rfl⟩
     ·refine ze<|zq ?_
      refine za (x1.Kind == 6) ?_ ?_
      ·refine ze<|zq<|zq<|zq<|zz (.ptr 3 0) [[(.p (.ml 6 (zG.map ZC))), (bv zB), (iv zD)], [(.ptr 0 0)], (Zk x1 zQ z10), (Z1t ZrL .nl)]<|zt [[(.p (.ml 6 (zG.map ZC))), (bv zB), (iv zD)], [(.ptr 0 0)], (Zk x1 zQ z10), (Z1t (Zm.mk 5 x1.Ref 0 0 0 ([] : List Z8)) .nl)]<|ze<|zq<|zq<|zq<|zq ?_
       refine za zB ?_ ?_
       ·refine ze<|zq<|zt [[(.p (.ml 6 (zG.map ZC))), (bv zB), (iv zD)], [(.ptr 0 0)], (Zk x1 zQ z10), (Z1t (Zm.mk 5 x1.Ref 1 0 0 ([] : List Z8)) .nl)] ?_
        exact zk (Zab zG zB zD x1 5 x1.Ref 1 0 0 ([] : List Z8) zQ z10 .nl rfl)
       ·exact zk (Zab zG zB zD x1 5 x1.Ref 0 0 0 ([] : List Z8) zQ z10 .nl rfl)
      ·refine ze<|zq ?_
       refine za (x1.Kind == 7) ?_ ?_
       ·refine ze<|zq<|zq<|zq<|zz (.ptr 3 0) [[(.p (.ml 6 (zG.map ZC))), (bv zB), (iv zD)], [(.ptr 0 0)], (Zk x1 zQ z10), (Z1t ZrL .nl)]<|zt [[(.p (.ml 6 (zG.map ZC))), (bv zB), (iv zD)], [(.ptr 0 0)], (Zk x1 zQ z10), (Z1t (Zm.mk 7 x1.Mode 0 0 0 ([] : List Z8)) .nl)]<|ze<|zq<|zq<|zq ?_
        refine za (decide (2 ≤ x1.Mode)) ?_ ?_
        ·refine ze<|zq<|zq<|zi fun a9 ha9 => zp (.cptr (ZI a9 .sh .sh)) (et_ (Z2k (o := (shrO z10)) (k := .i64) (n := 7) (e := ZJ) (cs := Z22) Z2I (fun _ => rfl) (by decide) ha9))<|zq<|zi fun r10 hr10 => ?_
         obtain ⟨_, er10, _, rfl⟩ := Z6D a9 .sh .sh r10 hr10
         refine zc [] (.p (.tup [(.v (.int .i64 r10.1)), (.v (.int .i64 r10.2))])) [[(.p (.ml 6 (zG.map ZC))), (bv zB), (iv zD)], [(.ptr 0 0)], (Zk x1 zQ z10), (Z1t (Zm.mk 7 x1.Mode 0 0 0 ([] : List Z8)) .nl)] er10<|zq<|zq<|zq<|zt [[(.p (.ml 6 (zG.map ZC))), (bv zB), (iv zD)], [(.ptr 0 0)], (Zk x1 zQ z10), (Z1t (Zm.mk 7 x1.Mode 0 r10.1 0 ([] : List Z8)) .nl)]<|zq<|zt [[(.p (.ml 6 (zG.map ZC))), (bv zB), (iv zD)], [(.ptr 0 0)], (Zk x1 zQ z10), (Z1t (Zm.mk 7 x1.Mode 0 r10.1 r10.2 ([] : List Z8)) .nl)] ?_
         exact zk (Zac zG zB zD x1 7 x1.Mode 0 r10.1 r10.2 ([] : List Z8) zQ z10 .nl rfl)
        ·exact zk (Zac zG zB zD x1 7 x1.Mode 0 0 0 ([] : List Z8) zQ z10 .nl rfl)
       ·refine ze<|zq ?_
        refine za (x1.Kind == 8) ?_ ?_
        ·refine ze<|zq<|zq<|zi fun r11 hr11 => ?_
         obtain ⟨_, er11, _, rfl⟩ := ZgY (Zm.mk 8 0 0 0 0 ([] : List Z8)) zG zB zD x1 .sh zQ z10 r11 hr11
         refine zc [0, 1, 2] (.p (.tup [])) [[(.p (.ml 6 (r11.1.map ZC))), (bv zB), (iv r11.2)], [(.ptr 0 0)], (Zk x1 zQ z10)] er11 ?_
         exact zr ((.p (.tup [])), [[(.p (.ml 6 (r11.1.map ZC))), (bv zB), (iv r11.2)], [(.ptr 0 0)], (Zk x1 zQ z10)]) ⟨_, rfl⟩
        ·refine ze<|zq ?_
         refine za (x1.Kind == 9) ?_ ?_
         ·refine ze<|zq<|zq<|zq<|zq<|zi fun r12 hr12 => ?_
          obtain ⟨_, er12, _, rfl⟩ := Z1w (Zm.mk 6 x1.Ref 0 0 0 ([] : List Z8)) zG zB zD .sh r12 hr12
          refine zc [0] (iv r12.1) [[(.p (.ml 6 (r12.2.map ZC))), (bv zB), (iv zD)], [(.ptr 0 0)], (Zk x1 zQ z10)] er12 ?_
          exact zr ((.p (.tup [])), [[(.p (.ml 6 (r12.2.map ZC))), (bv zB), (iv zD)], [(.ptr 0 0)], (Zk x1 zQ z10)]) ⟨_, rfl⟩
         ·exact zr ((.p (.tup [])), [[(.p (.ml 6 (zG.map ZC))), (bv zB), (iv zD)], [(.ptr 0 0)], (Zk x1 zQ z10)]) ⟨_, rfl⟩
theorem ZbX x1 zG zB zD {r} (h : Z5d x1 zG zB zD = some r) : Z1V x1 zG zB zD = some r :=
 Z1l (fun _ _ ha hb => ru_ (Z2Y _) (ha .ex .ex) (hb .ex .ex)) (fun zQ z10 => Zhl x1 zG zB zD zQ z10 r h)
def Z6y (x36 : List Z9) (x37 x38 : Int) (zG : List Zm) (zB : Bool) (zD : Int) : Option ((List Zm) × Int) :=
 (lget x36 x38).bind fun a1 =>
 (Z1V a1 zG zB zD).bind fun r2 =>
 Z52 x36 x37 (IntKind.i64.wrap (x38 + 1)) r2.1 zB r2.2
theorem Zf0 (x36 : List Z9) x37 x38 (zG : List Zm) zB zD ox36 : Sim (Z18 zB) (Z6y x36 x37 x38 zG zB zD) (Zr9 1 (.ptr 1 0) (ZR ox36 (x36.map ZJ)) (iv x37) (iv x38) [[(.p (.ml 6 (zG.map ZC))), (bv zB), (iv zD)], [(.ptr 0 0)]]) := by
 unfold Z6y
 refine zf (Zxp ..)<|ze<|zi fun a1 ha1 => zp (.cptr (ZI a1 .sh .sh)) (et_ (Z2k (o := ox36) (k := .i64) (n := 7) (e := ZJ) (cs := Z22) Z2I (fun _ => rfl) (by decide) ha1))<|zq<|zz (.ptr 2 0) [[(.p (.ml 6 (zG.map ZC))), (bv zB), (iv zD)], [(.ptr 0 0)], (Zk Z1D .nl .nl)]<|zt [[(.p (.ml 6 (zG.map ZC))), (bv zB), (iv zD)], [(.ptr 0 0)], (Zk a1 .sh .sh)]<|ze<|zq<|zq<|zi fun r2 hr2 => ?_
 obtain ⟨_, er2, _, rfl⟩ := Z2J a1 zG zB zD .sh .sh r2 hr2
 refine zc [0] (.p (.tup [])) [[(.p (.ml 6 (r2.1.map ZC))), (bv zB), (iv r2.2)], [(.ptr 0 0)], (Zk a1 .sh .sh)] er2<|ze<|zq ?_
 exact zk (Zat x36 x37 (IntKind.i64.wrap (x38 + 1)) r2.1 zB r2.2 ox36)
def Z50 (x36 : List Z9) (x37 x38 : Int) (zG : List Zm) (zB : Bool) (zD : Int) : Option ((List Zm) × Int) :=
 if (decide (x38 < x37)) = true then
 (Z6y x36 x37 x38 zG zB zD)
 else
 (some (zG, zD))
theorem ZeZ (x36 : List Z9) x37 x38 (zG : List Zm) zB zD ox36 : Sim (Z18 zB) (Z50 x36 x37 x38 zG zB zD) (Zk5 1 (.ptr 1 0) (ZR ox36 (x36.map ZJ)) (iv x37) (iv x38) [[(.p (.ml 6 (zG.map ZC))), (bv zB), (iv zD)], [(.ptr 0 0)]]) := by
 unfold Z50
 refine zf (Zxo ..)<|ze<|zq ?_
 refine za (decide (x38 < x37)) ?_ ?_
 ·exact zk (Zf0 x36 x37 x38 zG zB zD ox36)
 ·exact zr ((.p (.tup [])), [[(.p (.ml 6 (zG.map ZC))), (bv zB), (iv zD)], [(.ptr 0 0)]]) ⟨_, rfl⟩
theorem Zas x36 x37 x38 zG zB zD {r} (h : Z50 x36 x37 x38 zG zB zD = some r) : Z52 x36 x37 x38 zG zB zD = some r :=
 Z1l (fun _ _ ha hb => ru_ (Z2Y _) (ha .ex) (hb .ex)) (fun ox36 => ZeZ x36 x37 x38 zG zB zD ox36 r h)
def Z9y (x0 : List Z8) : Option ((List Z8) × Int) :=
 (Zbi x0).bind fun r1 =>
 (okA r1.1).bind fun a2 =>
 Z7N x0 r1.2 65
theorem Zj4 (x0 : List Z8) ox0 : Sim Z2T (Z9y x0) (Ztc 0 (ZR ox0 (x0.map Zv)) []) := by
 unfold Z9y
 refine zf (ZzA ..)<|ze<|zi fun r1 hr1 => ?_
 obtain ⟨_, er1, _, rfl⟩ := Zjh x0 ox0 r1 hr1
 refine zc [] (ZR r1.1 (r1.2.map Zv)) [] er1<|zi fun a2 ha2 => ze ?_
 exact zk (ZdG x0 r1.2 65 (shrO ox0) r1.1 (ZGT ha2))
def Zb8 (x0 : List Z8) : Option ((List Z8) × Int) :=
 (Z4N x0).bind fun r1 =>
 if (!r1) = true then
 (some (([] : List Z8), 10))
 else
 (Z9y x0)
theorem Zl3 (x0 : List Z8) ox0 : Sim Z2T (Zb8 x0) (EE 14 [(ZR ox0 (x0.map Zv))] []) := by
 unfold Zb8
 refine zf (ZEZ ..)<|ze<|ze<|zi fun r1 hr1 => ?_
 obtain ⟨_, er1, _, rfl⟩ := Z6P x0 .sh r1 hr1
 refine zc [] (bv r1) [] er1<|zq ?_
 refine za (!r1) ?_ ?_
 ·refine ze ?_
  exact zr ((.p (.tup [(.lst .sh []), (.v (.int .i64 10))])), []) ⟨_, rfl⟩
 ·exact zk (Zj4 x0 ox0)
theorem ZlM x0 {r} (h : Zb8 x0 = some r) : Z9n x0 = some r :=
 Z1l (fun _ _ ha hb => ru_ ZaE (ha .ex) (hb .ex)) (fun ox0 => Zl3 x0 ox0 r h)
def Z5k (x0 x4 : List Z8) (x5 : Int) : Option ((List Z8) × Int) :=
 Z7N x0 x4 (IntKind.i32.wrap (x5 + 1))
theorem Zda (x0 x4 : List Z8) x5 ox0 ox4 (hox4 : ZO ox4 = true) : Sim Z2T (Z5k x0 x4 x5) (Zpk 0 (ZR ox0 (x0.map Zv)) (ZR ox4 (x4.map Zv)) (.p (.v (.int .i32 x5))) []) := by
 unfold Z5k
 refine zf (ZzB ..)<|ze<|zq ?_
 exact zk (ZdG x0 x4 (IntKind.i32.wrap (x5 + 1)) ox0 ox4 hox4)
def Z6s (x0 x4 : List Z8) (x5 : Int) : Option ((List Z8) × Int) :=
 (lapp x4 ([(Z8.mk (IntKind.i64.wrap x5) (IntKind.i64.wrap x5)), (Z8.mk (IntKind.i64.wrap (IntKind.i32.wrap (x5 + 32))) (IntKind.i64.wrap (IntKind.i32.wrap (x5 + 32))))] : List Z8)).bind fun a1 =>
 Z5k x0 a1 x5
theorem Zdb (x0 x4 : List Z8) x5 ox0 ox4 (hox4 : ZO ox4 = true) : Sim Z2T (Z6s x0 x4 x5) (Zpl 0 (ZR ox0 (x0.map Zv)) (ZR ox4 (x4.map Zv)) (.p (.v (.int .i32 x5))) []) := by
 unfold Z6s
 refine zf (ZzD ..)<|ze<|zq<|zq<|zq<|zq<|zq<|zq<|zq<|zq<|zq<|zi fun a1 ha1 => zp (ZR .un (a1.map Zv)) (Eq.trans (by kernel_rfl) <| ZeH (n := 2) (o := ox4) (o' := .ex) (e := Zv) (ys := ([(Z8.mk (IntKind.i64.wrap x5) (IntKind.i64.wrap x5)), (Z8.mk (IntKind.i64.wrap (IntKind.i32.wrap (x5 + 32))) (IntKind.i64.wrap (IntKind.i32.wrap (x5 + 32))))] : List Z8)) (fun _ => rfl) (by decide) hox4 ha1) ?_
 exact zk (Zda x0 a1 x5 ox0 .un rfl)
def Z9z (x0 x4 : List Z8) (x5 : Int) : Option ((List Z8) × Int) :=
 (Z7o x0 (IntKind.i64.wrap x5)).bind fun r1 =>
 if r1 = true then
 (Z6s x0 x4 x5)
 else
 ((Z7o x0 (IntKind.i64.wrap (IntKind.i32.wrap (x5 + 32)))).bind fun r2 =>
 if r2 = true then
 (Z6s x0 x4 x5)
 else
 (Z5k x0 x4 x5))
theorem Zj5 (x0 x4 : List Z8) x5 ox0 ox4 (hox4 : ZO ox4 = true) : Sim Z2T (Z9z x0 x4 x5) (Ztd 0 (ZR ox0 (x0.map Zv)) (ZR ox4 (x4.map Zv)) (.p (.v (.int .i32 x5))) []) := by
 unfold Z9z
 refine zf (ZzC ..)<|ze<|zq<|zi fun r1 hr1 => ?_
 obtain ⟨_, er1, _, rfl⟩ := Zc9 x0 (IntKind.i64.wrap x5) .sh r1 hr1
 refine zc [] (bv r1) [] er1 ?_
 refine za r1 ?_ ?_
 ·exact zk (Zdb x0 x4 x5 ox0 ox4 hox4)
 ·refine zq<|zq<|zi fun r2 hr2 => ?_
  obtain ⟨_, er2, _, rfl⟩ := Zc9 x0 (IntKind.i64.wrap (IntKind.i32.wrap (x5 + 32))) .sh r2 hr2
  refine zc [] (bv r2) [] er2 ?_
  refine za r2 ?_ ?_
  ·exact zk (Zdb x0 x4 x5 ox0 ox4 hox4)
  ·exact zk (Zda x0 x4 x5 ox0 ox4 hox4)
def Z9A (x4 : List Z8) : Option ((List Z8) × Int) :=
 (ZaN x4).bind fun r1 =>
 some (r1, 0)
theorem Zj6 (x4 : List Z8) ox4 (hox4 : ZO ox4 = true) : Sim Z2T (Z9A x4) (Zte 0 (ZR ox4 (x4.map Zv)) []) := by
 unfold Z9A
 refine zf (ZzE ..)<|ze<|zi fun r1 hr1 => ?_
 obtain ⟨_, er1, _, rfl⟩ := Zdh x4 .sh r1 hr1
 refine zc [] (ZR .sh (r1.map Zv)) [] er1 ?_
 exact zr ((.p (.tup [(.lst .sh (r1.map Zv)), (.v (.int .i64 0))])), []) ⟨_, rfl⟩
def Z7J (x0 x4 : List Z8) (x5 : Int) : Option ((List Z8) × Int) :=
 if (decide (x5 < 91)) = true then
 (Z9z x0 x4 x5)
 else
 (Z9A x4)
theorem Zj3 (x0 x4 : List Z8) x5 ox0 ox4 (hox4 : ZO ox4 = true) : Sim Z2T (Z7J x0 x4 x5) (Zm8 0 (ZR ox0 (x0.map Zv)) (ZR ox4 (x4.map Zv)) (.p (.v (.int .i32 x5))) []) := by
 unfold Z7J
 refine zf (Zzz ..)<|ze<|zq ?_
 refine za (decide (x5 < 91)) ?_ ?_
 ·exact zk (Zj5 x0 x4 x5 ox0 ox4 hox4)
 ·exact zk (Zj6 x4 ox4 hox4)
theorem ZdF x0 x4 x5 {r} (h : Z7J x0 x4 x5 = some r) : Z7N x0 x4 x5 = some r :=
 Z1l (fun _ _ ha hb => ru_ ZaE (ha .ex .ex rfl) (hb .ex .ex rfl)) (fun ox0 ox4 hox4 => Zj3 x0 x4 x5 ox0 ox4 hox4 r h)
def Z8r (x1 : List Z9) (zG : List Zm) (zB : Bool) (zD : Int) : Option ((List Zm) × Int) :=
 (lsl x1 0 (IntKind.i64.wrap ((x1.length : Int) - 1))).bind fun a1 =>
 Z5Z x1 ([] : List Int) (IntKind.i64.wrap ((x1.length : Int) - 1)) a1 (a1.length : Int) 0 zG zB zD
theorem ZhV (x1 : List Z9) (zG : List Zm) zB zD ox1 : Sim (Z18 zB) (Z8r x1 zG zB zD) (EE 40 [(.ptr 0 0), (ZR ox1 (x1.map ZJ))] [[(.p (.ml 6 (zG.map ZC))), (bv zB), (iv zD)]]) := by
 unfold Z8r
 refine zf (ZFA ..)<|ze<|ze<|zp (iv (x1.length : Int)) (et_ (Z2S (P := PP) (t := 29) (d := 31) (by kernel_rfl) ZJ (shrO ox1) x1))<|zq<|ze<|zi fun a1 ha1 => zp (ZR (slO (shrO ox1)) (a1.map ZJ)) (Eq.trans (by kernel_rfl) <| ZvR (n := 7) (o := (shrO ox1)) (lo := none) (hi := (some (iv (IntKind.i64.wrap ((x1.length : Int) - 1))))) (e := ZJ) Zg3 (by decide) (by kernel_rfl) (by kernel_rfl) ha1)<|zp (iv (a1.length : Int)) (et_ (Z2S (P := PP) (t := 29) (d := 31) (by kernel_rfl) ZJ (slO (shrO ox1)) a1)) ?_
 exact zk (Zb1 x1 ([] : List Int) (IntKind.i64.wrap ((x1.length : Int) - 1)) a1 (a1.length : Int) 0 zG zB zD ox1 .nl (slO (shrO ox1)) rfl)
theorem ZiF x1 zG zB zD {r} (h : Z8r x1 zG zB zD = some r) : Z6T x1 zG zB zD = some r :=
 Z1l (fun _ _ ha hb => ru_ (Z2Y _) (ha .ex) (hb .ex)) (fun ox1 => ZhV x1 zG zB zD ox1 r h)
def Z7f (x1 : List Z9) (x4 : List Int) (x5 : Int) (x16 : List Z9) (x17 x18 : Int) (zG : List Zm) (zB : Bool) (zD : Int) : Option ((List Zm) × Int) :=
 (lget x16 x18).bind fun a1 =>
 (Z1n (Zm.mk 3 0 0 0 0 ([] : List Z8)) zG).bind fun r2 =>
 (Z1V a1 r2.2 zB zD).bind fun r3 =>
 (Z1n (Zm.mk 2 0 0 0 0 ([] : List Z8)) r3.1).bind fun r4 =>
 (lapp x4 ([r4.1] : List Int)).bind fun a5 =>
 (Z4T r2.1 (IntKind.i64.wrap (r2.1 + 1)) (r4.2.length : Int) false r4.2).bind fun r6 =>
 Z5Z x1 a5 x5 x16 x17 (IntKind.i64.wrap (x18 + 1)) r6 zB r3.2
theorem ZfS (x1 : List Z9) (x4 : List Int) x5 (x16 : List Z9) x17 x18 (zG : List Zm) zB zD ox1 ox4 ox16 (hox4 : ZO ox4 = true) : Sim (Z18 zB) (Z7f x1 x4 x5 x16 x17 x18 zG zB zD) (ZtN 1 (.ptr 0 0) (ZR ox1 (x1.map ZJ)) (ZR ox4 (x4.map (eI .i64))) (iv x5) (ZR ox16 (x16.map ZJ)) (iv x17) (iv x18) [[(.p (.ml 6 (zG.map ZC))), (bv zB), (iv zD)]]) := by
 unfold Z7f
 refine zf (ZAe ..)<|ze<|zi fun a1 ha1 => zp (.cptr (ZI a1 .sh .sh)) (et_ (Z2k (o := ox16) (k := .i64) (n := 7) (e := ZJ) (cs := Z22) Z2I (fun _ => rfl) (by decide) ha1))<|zq<|zz (.ptr 1 0) [[(.p (.ml 6 (zG.map ZC))), (bv zB), (iv zD)], (Zk Z1D .nl .nl)]<|zt [[(.p (.ml 6 (zG.map ZC))), (bv zB), (iv zD)], (Zk a1 .sh .sh)]<|ze<|zq<|zi fun r2 hr2 => ?_
 obtain ⟨_, er2, _, rfl⟩ := Z1w (Zm.mk 3 0 0 0 0 ([] : List Z8)) zG zB zD .sh r2 hr2
 refine zc [0] (iv r2.1) [[(.p (.ml 6 (r2.2.map ZC))), (bv zB), (iv zD)], (Zk a1 .sh .sh)] er2<|ze<|zq<|zi fun r3 hr3 => ?_
 obtain ⟨_, er3, _, rfl⟩ := Z2J a1 r2.2 zB zD .sh .sh r3 hr3
 refine zc [0] (.p (.tup [])) [[(.p (.ml 6 (r3.1.map ZC))), (bv zB), (iv r3.2)], (Zk a1 .sh .sh)] er3<|ze<|zq<|zi fun r4 hr4 => ?_
 obtain ⟨_, er4, _, rfl⟩ := Z1w (Zm.mk 2 0 0 0 0 ([] : List Z8)) r3.1 zB r3.2 .sh r4 hr4
 refine zc [0] (iv r4.1) [[(.p (.ml 6 (r4.2.map ZC))), (bv zB), (iv r3.2)], (Zk a1 .sh .sh)] er4<|zq<|zi fun a5 ha5 => zp (ZR .un (a5.map (eI .i64))) (Eq.trans (by kernel_rfl) <| ZeH (n := 1) (o := ox4) (o' := .ex) (e := (eI .i64)) (ys := ([r4.1] : List Int)) (fun _ => rfl) (by decide) hox4 ha5)<|ze<|zq<|zq<|zq<|zq<|zp (iv (r4.2.length : Int)) (et_ (ZbI (P := PP) (t := 23) (d := 40) (by kernel_rfl) ZC r4.2))<|zi fun r6 hr6 => ?_
 obtain ⟨_, er6, _, rfl⟩ := Z8D r2.1 (IntKind.i64.wrap (r2.1 + 1)) (r4.2.length : Int) false r4.2 zB r3.2 r6 hr6
 refine zc [0] (.p (.tup [])) [[(.p (.ml 6 (r6.map ZC))), (bv zB), (iv r3.2)], (Zk a1 .sh .sh)] er6<|ze<|zq ?_
 exact zk (Zb1 x1 a5 x5 x16 x17 (IntKind.i64.wrap (x18 + 1)) r6 zB r3.2 ox1 .un ox16 rfl)
def Z5v (x1 : List Z9) (x4 : List Int) (x5 : Int) (zG : List Zm) (zB : Bool) (zD : Int) : Option ((List Zm) × Int) :=
 (lget x1 x5).bind fun a1 =>
 (Z1V a1 zG zB zD).bind fun r2 =>
 Z5z x4 (x4.length : Int) 0 r2.1 r2.2
theorem Zft (x1 : List Z9) (x4 : List Int) x5 (zG : List Zm) zB zD ox1 ox4 (hox4 : ZO ox4 = true) : Sim (Z18 zB) (Z5v x1 x4 x5 zG zB zD) (Zra 1 (.ptr 0 0) (ZR ox1 (x1.map ZJ)) (ZR ox4 (x4.map (eI .i64))) (iv x5) [[(.p (.ml 6 (zG.map ZC))), (bv zB), (iv zD)]]) := by
 unfold Z5v
 refine zf (Zxy ..)<|ze<|zi fun a1 ha1 => zp (.cptr (ZI a1 .sh .sh)) (et_ (Z2k (o := (shrO ox1)) (k := .i64) (n := 7) (e := ZJ) (cs := Z22) Z2I (fun _ => rfl) (by decide) ha1))<|zq<|zi fun r2 hr2 => ?_
 obtain ⟨_, er2, _, rfl⟩ := Z2J a1 zG zB zD .sh .sh r2 hr2
 refine zc [0] (.p (.tup [])) [[(.p (.ml 6 (r2.1.map ZC))), (bv zB), (iv r2.2)]] er2<|ze<|zp (iv (x4.length : Int)) (et_ (Z2S (P := PP) (t := 96) (d := 3) (by kernel_rfl) (eI .i64) (shrO ox4) x4)) ?_
 exact zk (ZaU x4 (x4.length : Int) 0 r2.1 zB r2.2 (shrO ox4))
def Z5X (x1 : List Z9) (x4 : List Int) (x5 : Int) (x16 : List Z9) (x17 x18 : Int) (zG : List Zm) (zB : Bool) (zD : Int) : Option ((List Zm) × Int) :=
 if (decide (x18 < x17)) = true then
 (Z7f x1 x4 x5 x16 x17 x18 zG zB zD)
 else
 (Z5v x1 x4 x5 zG zB zD)
theorem ZfR (x1 : List Z9) (x4 : List Int) x5 (x16 : List Z9) x17 x18 (zG : List Zm) zB zD ox1 ox4 ox16 (hox4 : ZO ox4 = true) : Sim (Z18 zB) (Z5X x1 x4 x5 x16 x17 x18 zG zB zD) (Zmh 1 (.ptr 0 0) (ZR ox1 (x1.map ZJ)) (ZR ox4 (x4.map (eI .i64))) (iv x5) (ZR ox16 (x16.map ZJ)) (iv x17) (iv x18) [[(.p (.ml 6 (zG.map ZC))), (bv zB), (iv zD)]]) := by
 unfold Z5X
 refine zf (ZAd ..)<|ze<|zq ?_
 refine za (decide (x18 < x17)) ?_ ?_
 ·exact zk (ZfS x1 x4 x5 x16 x17 x18 zG zB zD ox1 ox4 ox16 hox4)
 ·exact zk (Zft x1 x4 x5 zG zB zD ox1 ox4 hox4)
theorem Zb0 x1 x4 x5 x16 x17 x18 zG zB zD {r} (h : Z5X x1 x4 x5 x16 x17 x18 zG zB zD = some r) : Z5Z x1 x4 x5 x16 x17 x18 zG zB zD = some r :=
 Z1l (fun _ _ ha hb => ru_ (Z2Y _) (ha .ex .ex .ex rfl) (hb .ex .ex .ex rfl)) (fun ox1 ox4 ox16 hox4 => ZfR x1 x4 x5 x16 x17 x18 zG zB zD ox1 ox4 ox16 hox4 r h)
def Z6Z (x51 : List Int) (x52 x53 : Int) (zG : List Zm) (zD : Int) : Option ((List Zm) × Int) :=
 (lget x51 x53).bind fun a1 =>
 (lget zG a1).bind fun a2 =>
 (lget zG a1).bind fun a3 =>
 Z5z x51 x52 (IntKind.i64.wrap (x53 + 1)) (lset zG a1 (Zm.mk a3.Op (zG.length : Int) a3.B a3.C a3.D a3.Set)) zD
theorem Zfu (x51 : List Int) x52 x53 (zG : List Zm) zB zD ox51 : Sim (Z18 zB) (Z6Z x51 x52 x53 zG zD) (Zrb 1 (.ptr 0 0) (ZR ox51 (x51.map (eI .i64))) (iv x52) (iv x53) [[(.p (.ml 6 (zG.map ZC))), (bv zB), (iv zD)]]) := by
 unfold Z6Z
 refine zf (Zxz ..)<|ze<|zi fun a1 ha1 => zp (.cptr [(.v (.int .i64 a1))]) (et_ (Z2k (o := ox51) (k := .i64) (n := 1) (e := (eI .i64)) (cs := (fun a => [(eI .i64) a])) (fun _ => rfl) (fun _ => rfl) (by decide) ha1))<|zq<|ze<|zq<|zq<|zq<|zq<|zq<|zq<|zp (iv (zG.length : Int)) (et_ (ZbI (P := PP) (t := 23) (d := 40) (by kernel_rfl) ZC zG))<|zi fun a2 ha2 => zp (.p (.jnk (.ep 0 0 6 (Int.toNat a1) 0))) (et_ (Zkz (e := ZC) (n := 6) (id := 0) (off := 0) (k := .i64) (by decide) ha2))<|zq<|zi fun a3 ha3 => zb [[(.p (.ml 6 ((lset zG a1 (Zm.mk a3.Op (zG.length : Int) a3.B a3.C a3.D a3.Set)).map ZC))), (bv zB), (iv zD)]] (Eq.trans (b := stEl 1 (.p (.jnk (.ep 0 0 6 (Int.toNat a1) 1))) (iv (zG.length : Int)) [[(.p (.ml 6 (zG.map ZC))), (bv zB), (iv zD)]]) (by kernel_rfl) (Zil (e := ZC) (row := [(.p (.ml 6 (zG.map ZC))), (bv zB), (iv zD)]) (n := 6) (l := zG) (a' := (Zm.mk a3.Op (zG.length : Int) a3.B a3.C a3.D a3.Set)) (by kernel_rfl) ha3 (by kernel_rfl) (by kernel_rfl)))<|ze<|zq ?_
 exact zk (ZaU x51 x52 (IntKind.i64.wrap (x53 + 1)) (lset zG a1 (Zm.mk a3.Op (zG.length : Int) a3.B a3.C a3.D a3.Set)) zB zD ox51)
def Z5u (x51 : List Int) (x52 x53 : Int) (zG : List Zm) (zD : Int) : Option ((List Zm) × Int) :=
 if (decide (x53 < x52)) = true then
 (Z6Z x51 x52 x53 zG zD)
 else
 (some (zG, zD))
theorem Zfs (x51 : List Int) x52 x53 (zG : List Zm) zB zD ox51 : Sim (Z18 zB) (Z5u x51 x52 x53 zG zD) (Zk7 1 (.ptr 0 0) (ZR ox51 (x51.map (eI .i64))) (iv x52) (iv x53) [[(.p (.ml 6 (zG.map ZC))), (bv zB), (iv zD)]]) := by
 unfold Z5u
 refine zf (Zxx ..)<|ze<|zq ?_
 refine za (decide (x53 < x52)) ?_ ?_
 ·exact zk (Zfu x51 x52 x53 zG zB zD ox51)
 ·exact zr ((.p (.tup [])), [[(.p (.ml 6 (zG.map ZC))), (bv zB), (iv zD)]]) ⟨_, rfl⟩
theorem ZaT x51 x52 x53 zG zD {r} (h : Z5u x51 x52 x53 zG zD = some r) : Z5z x51 x52 x53 zG zD = some r :=
 Z1l (fun _ _ ha hb => ru_ (Z2Y _) (ha default .ex) (hb default .ex)) (fun zB ox51 => Zfs x51 x52 x53 zG zB zD ox51 r h)
def Z51 (x1 x2 x3 : Int) (zG : List Zm) : Option (List Zm) :=
 (lget zG x1).bind fun a1 =>
 (lget zG x1).bind fun a2 =>
 (lget zG x1).bind fun a3 =>
 (lget (lset zG x1 (Zm.mk a2.Op x2 a2.B a2.C a2.D a2.Set)) x1).bind fun a4 =>
 some (lset (lset zG x1 (Zm.mk a2.Op x2 a2.B a2.C a2.D a2.Set)) x1 (Zm.mk a4.Op a4.A x3 a4.C a4.D a4.Set))
theorem Zaf x1 x2 x3 (zG : List Zm) zB zD : Sim (Z6h zB zD) (Z51 x1 x2 x3 zG) (ZpQ 1 (.ptr 0 0) (iv x1) (iv x2) (iv x3) [[(.p (.ml 6 (zG.map ZC))), (bv zB), (iv zD)]]) := by
 unfold Z51
 refine zf (ZAw ..)<|ze<|zq<|zq<|zq<|zq<|zq<|zq<|zi fun a1 ha1 => zp (.p (.jnk (.ep 0 0 6 (Int.toNat x1) 0))) (et_ (Zkz (e := ZC) (n := 6) (id := 0) (off := 0) (k := .i64) (by decide) ha1))<|zq<|zi fun a2 ha2 => zb [[(.p (.ml 6 ((lset zG x1 (Zm.mk a2.Op x2 a2.B a2.C a2.D a2.Set)).map ZC))), (bv zB), (iv zD)]] (Eq.trans (b := stEl 1 (.p (.jnk (.ep 0 0 6 (Int.toNat x1) 1))) (iv x2) [[(.p (.ml 6 (zG.map ZC))), (bv zB), (iv zD)]]) (by kernel_rfl) (Zil (e := ZC) (row := [(.p (.ml 6 (zG.map ZC))), (bv zB), (iv zD)]) (n := 6) (l := zG) (a' := (Zm.mk a2.Op x2 a2.B a2.C a2.D a2.Set)) (by kernel_rfl) ha2 (by kernel_rfl) (by kernel_rfl)))<|zi fun a3 ha3 => zp (.p (.jnk (.ep 0 0 6 (Int.toNat x1) 0))) (et_ (Zkz (e := ZC) (n := 6) (id := 0) (off := 0) (k := .i64) (by decide) ha3))<|zq<|zi fun a4 ha4 => zb [[(.p (.ml 6 ((lset (lset zG x1 (Zm.mk a2.Op x2 a2.B a2.C a2.D a2.Set)) x1 (Zm.mk a4.Op a4.A x3 a4.C a4.D a4.Set)).map ZC))), (bv zB), (iv zD)]] (Eq.trans (b := stEl 1 (.p (.jnk (.ep 0 0 6 (Int.toNat x1) 2))) (iv x3) [[(.p (.ml 6 ((lset zG x1 (Zm.mk a2.Op x2 a2.B a2.C a2.D a2.Set)).map ZC))), (bv zB), (iv zD)]]) (by kernel_rfl) (Zil (e := ZC) (row := [(.p (.ml 6 ((lset zG x1 (Zm.mk a2.Op x2 a2.B a2.C a2.D a2.Set)).map ZC))), (bv zB), (iv zD)]) (n := 6) (l := (lset zG x1 (Zm.mk a2.Op x2 a2.B a2.C a2.D a2.Set))) (a' := (Zm.mk a4.Op a4.A x3 a4.C a4.D a4.Set)) (by kernel_rfl) ha4 (by kernel_rfl) (by kernel_rfl))) ?_
 exact zr ((.p (.tup [])), [[(.p (.ml 6 ((lset (lset zG x1 (Zm.mk a2.Op x2 a2.B a2.C a2.D a2.Set)) x1 (Zm.mk a4.Op a4.A x3 a4.C a4.D a4.Set)).map ZC))), (bv zB), (iv zD)]]) ⟨_, rfl⟩
def Z7G (x1 x2 x3 : Int) (x4 : Bool) (zG : List Zm) : Option (List Zm) :=
 if x4 = true then
 (Z51 x1 x3 x2 zG)
 else
 (Z51 x1 x2 x3 zG)
theorem ZgU x1 x2 x3 x4 (zG : List Zm) zB zD : Sim (Z6h zB zD) (Z7G x1 x2 x3 x4 zG) (EE 58 [(.ptr 0 0), (iv x1), (iv x2), (iv x3), (bv x4)] [[(.p (.ml 6 (zG.map ZC))), (bv zB), (iv zD)]]) := by
 unfold Z7G
 refine zf (ZFZ ..)<|ze ?_
 refine za x4 ?_ ?_
 ·refine ze ?_
  exact zk (Zaf x1 x3 x2 zG zB zD)
 ·exact zk (Zaf x1 x2 x3 zG zB zD)
theorem Zhm x1 x2 x3 x4 zG {r} (h : Z7G x1 x2 x3 x4 zG = some r) : Z4T x1 x2 x3 x4 zG = some r :=
 Z1l (fun _ _ ha hb => ru_ (Zhz _ _) (ha default default) (hb default default)) (fun zB zD => ZgU x1 x2 x3 x4 zG zB zD r h)
def Z7k (x1 : Zm) (zG : List Zm) (zB : Bool) (zD : Int) (b2 : Z9) : Option ((List Zm) × Int) :=
 (Z1n x1 zG).bind fun r1 =>
 (Z7q b2 r1.2 zB zD).bind fun r2 =>
 (Z1n (Zm.mk 9 0 0 0 0 ([] : List Z8)) r2.1).bind fun r3 =>
 (lget r3.2 r1.1).bind fun a4 =>
 (lget r3.2 r1.1).bind fun a5 =>
 some ((lset r3.2 r1.1 (Zm.mk a5.Op a5.A (r3.2.length : Int) a5.C a5.D a5.Set)), r2.2)
theorem ZfX x1 (zG : List Zm) zB zD b2 zQ z1c z12 : Sim (Z3w zB b2 z1c z12) (Z7k x1 zG zB zD b2) (EE 41 [(.ptr 0 0), (pA_ (Z1k x1 zQ)), (.clo 42 [] [(.ptr 1 0), (.ptr 2 0)])] [[(.p (.ml 6 (zG.map ZC))), (bv zB), (iv zD)], [(.ptr 0 0)], (Zk b2 z1c z12)]) := by
 unfold Z7k
 refine zf (ZtO ..)<|ze<|zx (.ptr 3 0) [[(.p (.ml 6 (zG.map ZC))), (bv zB), (iv zD)], [(.ptr 0 0)], (Zk b2 z1c z12), (Z1t x1 zQ)]<|ze<|zq<|zi fun r1 hr1 => ?_
 obtain ⟨_, er1, _, rfl⟩ := Z1w x1 zG zB zD .sh r1 hr1
 refine zc [0] (iv r1.1) [[(.p (.ml 6 (r1.2.map ZC))), (bv zB), (iv zD)], [(.ptr 0 0)], (Zk b2 z1c z12), (Z1t x1 zQ)] er1<|ze<|zi fun r2 hr2 => ?_
 obtain ⟨_, er2, _, rfl⟩ := ZgO b2 r1.2 zB zD z1c z12 r2 hr2
 refine zv [1, 2, 0] (.p (.tup [])) [[(.p (.ml 6 (r2.1.map ZC))), (bv zB), (iv r2.2)], [(.ptr 0 0)], (Zk b2 z1c z12), (Z1t x1 zQ)] er2<|ze<|zq<|zi fun r3 hr3 => ?_
 obtain ⟨_, er3, _, rfl⟩ := Z1w (Zm.mk 9 0 0 0 0 ([] : List Z8)) r2.1 zB r2.2 .sh r3 hr3
 refine zc [0] (iv r3.1) [[(.p (.ml 6 (r3.2.map ZC))), (bv zB), (iv r2.2)], [(.ptr 0 0)], (Zk b2 z1c z12), (Z1t x1 zQ)] er3<|ze<|zq<|zq<|zq<|zq<|zq<|zq<|zp (iv (r3.2.length : Int)) (et_ (ZbI (P := PP) (t := 23) (d := 40) (by kernel_rfl) ZC r3.2))<|zi fun a4 ha4 => zp (.p (.jnk (.ep 0 0 6 (Int.toNat r1.1) 0))) (et_ (Zkz (e := ZC) (n := 6) (id := 0) (off := 0) (k := .i64) (by decide) ha4))<|zq<|zi fun a5 ha5 => zb [[(.p (.ml 6 ((lset r3.2 r1.1 (Zm.mk a5.Op a5.A (r3.2.length : Int) a5.C a5.D a5.Set)).map ZC))), (bv zB), (iv r2.2)], [(.ptr 0 0)], (Zk b2 z1c z12), (Z1t x1 zQ)] (Eq.trans (b := stEl 1 (.p (.jnk (.ep 0 0 6 (Int.toNat r1.1) 2))) (iv (r3.2.length : Int)) [[(.p (.ml 6 (r3.2.map ZC))), (bv zB), (iv r2.2)], [(.ptr 0 0)], (Zk b2 z1c z12), (Z1t x1 zQ)]) (by kernel_rfl) (Zil (e := ZC) (row := [(.p (.ml 6 (r3.2.map ZC))), (bv zB), (iv r2.2)]) (n := 6) (l := r3.2) (a' := (Zm.mk a5.Op a5.A (r3.2.length : Int) a5.C a5.D a5.Set)) (by kernel_rfl) ha5 (by kernel_rfl) (by kernel_rfl))) ?_
 exact zr ((.p (.tup [])), [[(.p (.ml 6 ((lset r3.2 r1.1 (Zm.mk a5.Op a5.A (r3.2.length : Int) a5.C a5.D a5.Set)).map ZC))), (bv zB), (iv r2.2)], [(.ptr 0 0)], (Zk b2 z1c z12), (Z1t x1 zQ)]) ⟨_, rfl⟩
theorem ZgV x1 zG zB zD b2 {r} (h : Z7k x1 zG zB zD b2 = some r) : Z4G x1 zG zB zD b2 = some r :=
 Z1l (fun _ _ ha hb => ru_ (Z8A _ _ _ _) (ha .ex .ex .ex) (hb .ex .ex .ex)) (fun zQ z1c z12 => ZfX x1 zG zB zD b2 zQ z1c z12 r h)
def Z7g (b1 : Z9) (z31 : List Zm) (z1P : Bool) (z2f : Int) : Option ((List Zm) × Int) :=
 (Z4D b1 z31 z1P z2f).bind fun r1 =>
 some (r1.1, r1.2)
theorem ZfT b1 (z31 : List Zm) z1P z2f zH zE : Sim (Z3v b1 z1P zH zE) (Z7g b1 z31 z1P z2f) (EE 42 [(.ptr 0 0), (.ptr 1 0)] [[(.ptr 2 0)], (Zk b1 zH zE), [(.p (.ml 6 (z31.map ZC))), (bv z1P), (iv z2f)]]) := by
 unfold Z7g
 refine zf (ZFE ..)<|ze<|zq<|zq<|zi fun r1 hr1 => ?_
 obtain ⟨_, er1, _, rfl⟩ := Zb2 b1 z31 z1P z2f .sh .sh r1 hr1
 refine zc [2] (.p (.tup [])) [[(.ptr 2 0)], (Zk b1 zH zE), [(.p (.ml 6 (r1.1.map ZC))), (bv z1P), (iv r1.2)]] er1 ?_
 exact zr ((.p (.tup [])), [[(.ptr 2 0)], (Zk b1 zH zE), [(.p (.ml 6 (r1.1.map ZC))), (bv z1P), (iv r1.2)]]) ⟨_, rfl⟩
theorem ZgN b1 z31 z1P z2f {r} (h : Z7g b1 z31 z1P z2f = some r) : Z7q b1 z31 z1P z2f = some r :=
 Z1l (fun _ _ ha hb => ru_ (Z8z _ _ _ _) (ha .ex .ex) (hb .ex .ex)) (fun zH zE => ZfT b1 z31 z1P z2f zH zE r h)
def Z7j (x1 : Z9) (zG : List Zm) (zB : Bool) (zD : Int) : Option ((List Zm) × Int) :=
 Z4O (x1.Mode == 1) x1.Lo 0 zG zB zD x1
theorem ZfW x1 (zG : List Zm) zB zD zQ z10 : Sim (Z18 zB) (Z7j x1 zG zB zD) (EE 43 [(.ptr 0 0), (pA_ (ZI x1 zQ z10))] [[(.p (.ml 6 (zG.map ZC))), (bv zB), (iv zD)]]) := by
 unfold Z7j
 refine zf (ZFF ..)<|ze<|zx (.ptr 1 0) [[(.p (.ml 6 (zG.map ZC))), (bv zB), (iv zD)], (Zk x1 zQ z10)]<|ze<|zq<|zq<|zq<|ze<|zq<|zq ?_
 exact zk (Zae (x1.Mode == 1) x1.Lo 0 zG zB zD x1 zQ z10)
theorem ZgT x1 zG zB zD {r} (h : Z7j x1 zG zB zD = some r) : Z4D x1 zG zB zD = some r :=
 Z1l (fun _ _ ha hb => ru_ (Z2Y _) (ha .ex .ex) (hb .ex .ex)) (fun zQ z10 => ZfW x1 zG zB zD zQ z10 r h)
def Z65 (x4 : Bool) (zG : List Zm) (zB : Bool) (zD : Int) (b1 : Z9) : Option ((List Zm) × Int) :=
 Z4E x4 ([] : List Int) (IntKind.i64.wrap (b1.Hi - b1.Lo)) 0 zG zB zD b1
theorem Ze6 x4 (zG : List Zm) zB zD b1 zH zE : Sim (Z18 zB) (Z65 x4 zG zB zD b1) (Zrc 1 (.ptr 0 0) (.ptr 1 0) (bv x4) [[(.p (.ml 6 (zG.map ZC))), (bv zB), (iv zD)], (Zk b1 zH zE)]) := by
 unfold Z65
 refine zf (ZxC ..)<|ze<|ze<|zq<|zq<|zq<|zq<|zq ?_
 exact zk (Z9I x4 ([] : List Int) (IntKind.i64.wrap (b1.Hi - b1.Lo)) 0 zG zB zD b1 .nl zH zE rfl)
def Z3y (x4 : Bool) (zG : List Zm) (zB : Bool) (zD : Int) (b1 : Z9) : Option ((List Zm) × Int) :=
 if (decide (b1.Hi < 0)) = true then
 ((lget b1.Kids 0).bind fun a1 =>
 (Z86 a1 x4 zG zB zD).bind fun r2 =>
 some (r2.1, r2.2))
 else
 (Z65 x4 zG zB zD b1)
theorem Z9L x4 (zG : List Zm) zB zD b1 zH zE : Sim (Z18 zB) (Z3y x4 zG zB zD b1) (ZpH 1 (.ptr 0 0) (.ptr 1 0) (bv x4) [[(.p (.ml 6 (zG.map ZC))), (bv zB), (iv zD)], (Zk b1 zH zE)]) := by
 unfold Z3y
 refine zf (ZAj ..)<|ze<|zq<|zq<|zq ?_
 refine za (decide (b1.Hi < 0)) ?_ ?_
 ·refine ze<|zq<|zq<|zi fun a1 ha1 => zp (.cptr (ZI a1 .sh .sh)) (et_ (Z2k (o := (shrO zE)) (k := .i64) (n := 7) (e := ZJ) (cs := Z22) Z2I (fun _ => rfl) (by decide) ha1))<|zq<|zi fun r2 hr2 => ?_
  obtain ⟨_, er2, _, rfl⟩ := ZhX a1 x4 zG zB zD .sh .sh r2 hr2
  refine zc [0] (.p (.tup [])) [[(.p (.ml 6 (r2.1.map ZC))), (bv zB), (iv r2.2)], (Zk b1 zH zE)] er2 ?_
  exact zr ((.p (.tup [])), [[(.p (.ml 6 (r2.1.map ZC))), (bv zB), (iv r2.2)], (Zk b1 zH zE)]) ⟨_, rfl⟩
 ·exact zk (Ze6 x4 zG zB zD b1 zH zE)
def Z6n (x4 : Bool) (x13 x14 : Int) (zG : List Zm) (zB : Bool) (zD : Int) (b1 : Z9) : Option ((List Zm) × Int) :=
 Z4O x4 x13 (IntKind.i64.wrap (x14 + 1)) zG zB zD b1
theorem ZeK x4 x13 x14 (zG : List Zm) zB zD b1 zH zE : Sim (Z18 zB) (Z6n x4 x13 x14 zG zB zD b1) (ZtT 1 (.ptr 0 0) (.ptr 1 0) (bv x4) (iv x13) (iv x14) [[(.p (.ml 6 (zG.map ZC))), (bv zB), (iv zD)], (Zk b1 zH zE)]) := by
 unfold Z6n
 refine zf (ZAi ..)<|ze<|zq ?_
 exact zk (Zae x4 x13 (IntKind.i64.wrap (x14 + 1)) zG zB zD b1 zH zE)
def Z6m (x4 : Bool) (x13 x14 : Int) (zG : List Zm) (zB : Bool) (zD : Int) (b1 : Z9) : Option ((List Zm) × Int) :=
 (lget b1.Kids 0).bind fun a1 =>
 (Z1V a1 zG zB zD).bind fun r2 =>
 if ((r2.1.length : Int) == (zG.length : Int)) = true then
 (Z3y x4 r2.1 zB r2.2 b1)
 else
 (Z6n x4 x13 x14 r2.1 zB r2.2 b1)
theorem ZeJ x4 x13 x14 (zG : List Zm) zB zD b1 zH zE : Sim (Z18 zB) (Z6m x4 x13 x14 zG zB zD b1) (ZtS 1 (.ptr 0 0) (.ptr 1 0) (bv x4) (iv x13) (iv x14) [[(.p (.ml 6 (zG.map ZC))), (bv zB), (iv zD)], (Zk b1 zH zE)]) := by
 unfold Z6m
 refine zf (ZAh ..)<|ze<|zq<|zq<|zq<|zp (iv (zG.length : Int)) (et_ (ZbI (P := PP) (t := 23) (d := 40) (by kernel_rfl) ZC zG))<|ze<|zq<|zq<|zi fun a1 ha1 => zp (.cptr (ZI a1 .sh .sh)) (et_ (Z2k (o := (shrO zE)) (k := .i64) (n := 7) (e := ZJ) (cs := Z22) Z2I (fun _ => rfl) (by decide) ha1))<|zq<|zi fun r2 hr2 => ?_
 obtain ⟨_, er2, _, rfl⟩ := Z2J a1 zG zB zD .sh .sh r2 hr2
 refine zc [0] (.p (.tup [])) [[(.p (.ml 6 (r2.1.map ZC))), (bv zB), (iv r2.2)], (Zk b1 zH zE)] er2<|ze<|zq<|zq<|zq<|zp (iv (r2.1.length : Int)) (et_ (ZbI (P := PP) (t := 23) (d := 40) (by kernel_rfl) ZC r2.1))<|zq ?_
 refine za ((r2.1.length : Int) == (zG.length : Int)) ?_ ?_
 ·exact zk (Z9L x4 r2.1 zB r2.2 b1 zH zE)
 ·exact zk (ZeK x4 x13 x14 r2.1 zB r2.2 b1 zH zE)
def Z4M (x4 : Bool) (x13 x14 : Int) (zG : List Zm) (zB : Bool) (zD : Int) (b1 : Z9) : Option ((List Zm) × Int) :=
 if (decide (x14 < x13)) = true then
 (Z6m x4 x13 x14 zG zB zD b1)
 else
 (Z3y x4 zG zB zD b1)
theorem ZeI x4 x13 x14 (zG : List Zm) zB zD b1 zH zE : Sim (Z18 zB) (Z4M x4 x13 x14 zG zB zD b1) (Zmi 1 (.ptr 0 0) (.ptr 1 0) (bv x4) (iv x13) (iv x14) [[(.p (.ml 6 (zG.map ZC))), (bv zB), (iv zD)], (Zk b1 zH zE)]) := by
 unfold Z4M
 refine zf (ZAg ..)<|ze<|zq ?_
 refine za (decide (x14 < x13)) ?_ ?_
 ·exact zk (ZeJ x4 x13 x14 zG zB zD b1 zH zE)
 ·exact zk (Z9L x4 zG zB zD b1 zH zE)
theorem Zad x4 x13 x14 zG zB zD b1 {r} (h : Z4M x4 x13 x14 zG zB zD b1 = some r) : Z4O x4 x13 x14 zG zB zD b1 = some r :=
 Z1l (fun _ _ ha hb => ru_ (Z2Y _) (ha .ex .ex) (hb .ex .ex)) (fun zH zE => ZeI x4 x13 x14 zG zB zD b1 zH zE r h)
def Z66 (x4 : Bool) (x6 : List Int) (x49 x50 : Int) (zG : List Zm) (zB : Bool) (zD : Int) (b1 : Z9) : Option ((List Zm) × Int) :=
 (Z1n (Zm.mk 3 0 0 0 0 ([] : List Z8)) zG).bind fun r1 =>
 (lapp x6 ([r1.1] : List Int)).bind fun a2 =>
 (lget b1.Kids 0).bind fun a3 =>
 (Z1V a3 r1.2 zB zD).bind fun r4 =>
 Z4E x4 a2 x49 (IntKind.i64.wrap (x50 + 1)) r4.1 zB r4.2 b1
theorem Ze7 x4 (x6 : List Int) x49 x50 (zG : List Zm) zB zD b1 ox6 zH zE (hox6 : ZO ox6 = true) : Sim (Z18 zB) (Z66 x4 x6 x49 x50 zG zB zD b1) (Zrd 1 (.ptr 0 0) (.ptr 1 0) (bv x4) (ZR ox6 (x6.map (eI .i64))) (iv x49) (iv x50) [[(.p (.ml 6 (zG.map ZC))), (bv zB), (iv zD)], (Zk b1 zH zE)]) := by
 unfold Z66
 refine zf (ZxD ..)<|ze<|zq<|zi fun r1 hr1 => ?_
 obtain ⟨_, er1, _, rfl⟩ := Z1w (Zm.mk 3 0 0 0 0 ([] : List Z8)) zG zB zD .sh r1 hr1
 refine zc [0] (iv r1.1) [[(.p (.ml 6 (r1.2.map ZC))), (bv zB), (iv zD)], (Zk b1 zH zE)] er1<|zq<|zi fun a2 ha2 => zp (ZR .un (a2.map (eI .i64))) (Eq.trans (by kernel_rfl) <| ZeH (n := 1) (o := ox6) (o' := .ex) (e := (eI .i64)) (ys := ([r1.1] : List Int)) (fun _ => rfl) (by decide) hox6 ha2)<|ze<|zq<|zq<|zi fun a3 ha3 => zp (.cptr (ZI a3 .sh .sh)) (et_ (Z2k (o := (shrO zE)) (k := .i64) (n := 7) (e := ZJ) (cs := Z22) Z2I (fun _ => rfl) (by decide) ha3))<|zq<|zi fun r4 hr4 => ?_
 obtain ⟨_, er4, _, rfl⟩ := Z2J a3 r1.2 zB zD .sh .sh r4 hr4
 refine zc [0] (.p (.tup [])) [[(.p (.ml 6 (r4.1.map ZC))), (bv zB), (iv r4.2)], (Zk b1 zH zE)] er4<|ze<|zq ?_
 exact zk (Z9I x4 a2 x49 (IntKind.i64.wrap (x50 + 1)) r4.1 zB r4.2 b1 .un zH zE rfl)
def Z4A (x4 : Bool) (x6 : List Int) (zG : List Zm) (zD : Int) : Option ((List Zm) × Int) :=
 Z4F x4 x6 (x6.length : Int) 0 zG zD
theorem Ze8 x4 (x6 : List Int) (zG : List Zm) zB zD ox6 (hox6 : ZO ox6 = true) : Sim (Z18 zB) (Z4A x4 x6 zG zD) (Zre 1 (.ptr 0 0) (bv x4) (ZR ox6 (x6.map (eI .i64))) [[(.p (.ml 6 (zG.map ZC))), (bv zB), (iv zD)]]) := by
 unfold Z4A
 refine zf (ZxE ..)<|ze<|zp (iv (x6.length : Int)) (et_ (Z2S (P := PP) (t := 96) (d := 3) (by kernel_rfl) (eI .i64) (shrO ox6) x6)) ?_
 exact zk (Z9K x4 x6 (x6.length : Int) 0 zG zB zD (shrO ox6))
def Z4y (x4 : Bool) (x6 : List Int) (x49 x50 : Int) (zG : List Zm) (zB : Bool) (zD : Int) (b1 : Z9) : Option ((List Zm) × Int) :=
 if (decide (x50 < x49)) = true then
 (Z66 x4 x6 x49 x50 zG zB zD b1)
 else
 (Z4A x4 x6 zG zD)
theorem Ze4 x4 (x6 : List Int) x49 x50 (zG : List Zm) zB zD b1 ox6 zH zE (hox6 : ZO ox6 = true) : Sim (Z18 zB) (Z4y x4 x6 x49 x50 zG zB zD b1) (Zk8 1 (.ptr 0 0) (.ptr 1 0) (bv x4) (ZR ox6 (x6.map (eI .i64))) (iv x49) (iv x50) [[(.p (.ml 6 (zG.map ZC))), (bv zB), (iv zD)], (Zk b1 zH zE)]) := by
 unfold Z4y
 refine zf (ZxA ..)<|ze<|zq ?_
 refine za (decide (x50 < x49)) ?_ ?_
 ·exact zk (Ze7 x4 x6 x49 x50 zG zB zD b1 ox6 zH zE hox6)
 ·exact zk (Ze8 x4 x6 zG zB zD ox6 hox6)
theorem Z9H x4 x6 x49 x50 zG zB zD b1 {r} (h : Z4y x4 x6 x49 x50 zG zB zD b1 = some r) : Z4E x4 x6 x49 x50 zG zB zD b1 = some r :=
 Z1l (fun _ _ ha hb => ru_ (Z2Y _) (ha .ex .ex .ex rfl) (hb .ex .ex .ex rfl)) (fun ox6 zH zE hox6 => Ze4 x4 x6 x49 x50 zG zB zD b1 ox6 zH zE hox6 r h)
def Z67 (x4 : Bool) (x65 : List Int) (x66 x67 : Int) (zG : List Zm) (zD : Int) : Option ((List Zm) × Int) :=
 (lget x65 x67).bind fun a1 =>
 (Z4T a1 (IntKind.i64.wrap (a1 + 1)) (zG.length : Int) x4 zG).bind fun r2 =>
 Z4F x4 x65 x66 (IntKind.i64.wrap (x67 + 1)) r2 zD
theorem Ze9 x4 (x65 : List Int) x66 x67 (zG : List Zm) zB zD ox65 : Sim (Z18 zB) (Z67 x4 x65 x66 x67 zG zD) (Zrf 1 (.ptr 0 0) (bv x4) (ZR ox65 (x65.map (eI .i64))) (iv x66) (iv x67) [[(.p (.ml 6 (zG.map ZC))), (bv zB), (iv zD)]]) := by
 unfold Z67
 refine zf (ZxF ..)<|ze<|zi fun a1 ha1 => zp (.cptr [(.v (.int .i64 a1))]) (et_ (Z2k (o := ox65) (k := .i64) (n := 1) (e := (eI .i64)) (cs := (fun a => [(eI .i64) a])) (fun _ => rfl) (fun _ => rfl) (by decide) ha1))<|zq<|ze<|zq<|zq<|zq<|zq<|zp (iv (zG.length : Int)) (et_ (ZbI (P := PP) (t := 23) (d := 40) (by kernel_rfl) ZC zG))<|zi fun r2 hr2 => ?_
 obtain ⟨_, er2, _, rfl⟩ := Z8D a1 (IntKind.i64.wrap (a1 + 1)) (zG.length : Int) x4 zG zB zD r2 hr2
 refine zc [0] (.p (.tup [])) [[(.p (.ml 6 (r2.map ZC))), (bv zB), (iv zD)]] er2<|ze<|zq ?_
 exact zk (Z9K x4 x65 x66 (IntKind.i64.wrap (x67 + 1)) r2 zB zD ox65)
def Z4z (x4 : Bool) (x65 : List Int) (x66 x67 : Int) (zG : List Zm) (zD : Int) : Option ((List Zm) × Int) :=
 if (decide (x67 < x66)) = true then
 (Z67 x4 x65 x66 x67 zG zD)
 else
 (some (zG, zD))
theorem Ze5 x4 (x65 : List Int) x66 x67 (zG : List Zm) zB zD ox65 : Sim (Z18 zB) (Z4z x4 x65 x66 x67 zG zD) (Zk9 1 (.ptr 0 0) (bv x4) (ZR ox65 (x65.map (eI .i64))) (iv x66) (iv x67) [[(.p (.ml 6 (zG.map ZC))), (bv zB), (iv zD)]]) := by
 unfold Z4z
 refine zf (ZxB ..)<|ze<|zq ?_
 refine za (decide (x67 < x66)) ?_ ?_
 ·exact zk (Ze9 x4 x65 x66 x67 zG zB zD ox65)
 ·exact zr ((.p (.tup [])), [[(.p (.ml 6 (zG.map ZC))), (bv zB), (iv zD)]]) ⟨_, rfl⟩
theorem Z9J x4 x65 x66 x67 zG zD {r} (h : Z4z x4 x65 x66 x67 zG zD = some r) : Z4F x4 x65 x66 x67 zG zD = some r :=
 Z1l (fun _ _ ha hb => ru_ (Z2Y _) (ha default .ex) (hb default .ex)) (fun zB ox65 => Ze5 x4 x65 x66 x67 zG zB zD ox65 r h)
def Z84 (x1 : Z9) (x2 : Bool) (zG : List Zm) (zB : Bool) (zD : Int) : Option ((List Zm) × Int) :=
 (Z1n (Zm.mk 3 0 0 0 0 ([] : List Z8)) zG).bind fun r1 =>
 (Z1n (Zm.mk 10 zD 0 0 0 ([] : List Z8)) r1.2).bind fun r2 =>
 (Z1V x1 r2.2 zB (IntKind.i64.wrap (zD + 1))).bind fun r3 =>
 (Z1n (Zm.mk 11 zD 0 0 0 ([] : List Z8)) r3.1).bind fun r4 =>
 (Z1n (Zm.mk 2 r1.1 0 0 0 ([] : List Z8)) r4.2).bind fun r5 =>
 (Z4T r1.1 (IntKind.i64.wrap (r1.1 + 1)) (r5.2.length : Int) x2 r5.2).bind fun r6 =>
 some (r6, r3.2)
theorem Zhk x1 x2 (zG : List Zm) zB zD zQ z10 : Sim (Z18 zB) (Z84 x1 x2 zG zB zD) (EE 59 [(.ptr 0 0), (pA_ (ZI x1 zQ z10)), (bv x2)] [[(.p (.ml 6 (zG.map ZC))), (bv zB), (iv zD)]]) := by
 unfold Z84
 refine zf (ZG1 ..)<|ze<|zx (.ptr 1 0) [[(.p (.ml 6 (zG.map ZC))), (bv zB), (iv zD)], (Zk x1 zQ z10)]<|ze<|zq<|zi fun r1 hr1 => ?_
 obtain ⟨_, er1, _, rfl⟩ := Z1w (Zm.mk 3 0 0 0 0 ([] : List Z8)) zG zB zD .sh r1 hr1
 refine zc [0] (iv r1.1) [[(.p (.ml 6 (r1.2.map ZC))), (bv zB), (iv zD)], (Zk x1 zQ z10)] er1<|ze<|zq<|zq<|zq<|ze<|zq<|zq<|zq<|zq<|zq<|zq<|zt [[(.p (.ml 6 (r1.2.map ZC))), (bv zB), (iv (IntKind.i64.wrap (zD + 1)))], (Zk x1 zQ z10)]<|ze<|zq<|zi fun r2 hr2 => ?_
 obtain ⟨_, er2, _, rfl⟩ := Z1w (Zm.mk 10 zD 0 0 0 ([] : List Z8)) r1.2 zB (IntKind.i64.wrap (zD + 1)) .sh r2 hr2
 refine zc [0] (iv r2.1) [[(.p (.ml 6 (r2.2.map ZC))), (bv zB), (iv (IntKind.i64.wrap (zD + 1)))], (Zk x1 zQ z10)] er2<|ze<|zq<|zi fun r3 hr3 => ?_
 obtain ⟨_, er3, _, rfl⟩ := Z2J x1 r2.2 zB (IntKind.i64.wrap (zD + 1)) .sh .sh r3 hr3
 refine zc [0] (.p (.tup [])) [[(.p (.ml 6 (r3.1.map ZC))), (bv zB), (iv r3.2)], (Zk x1 zQ z10)] er3<|ze<|zq<|zi fun r4 hr4 => ?_
 obtain ⟨_, er4, _, rfl⟩ := Z1w (Zm.mk 11 zD 0 0 0 ([] : List Z8)) r3.1 zB r3.2 .sh r4 hr4
 refine zc [0] (iv r4.1) [[(.p (.ml 6 (r4.2.map ZC))), (bv zB), (iv r3.2)], (Zk x1 zQ z10)] er4<|ze<|zq<|zi fun r5 hr5 => ?_
 obtain ⟨_, er5, _, rfl⟩ := Z1w (Zm.mk 2 r1.1 0 0 0 ([] : List Z8)) r4.2 zB r3.2 .sh r5 hr5
 refine zc [0] (iv r5.1) [[(.p (.ml 6 (r5.2.map ZC))), (bv zB), (iv r3.2)], (Zk x1 zQ z10)] er5<|ze<|zq<|zq<|zq<|zq<|zp (iv (r5.2.length : Int)) (et_ (ZbI (P := PP) (t := 23) (d := 40) (by kernel_rfl) ZC r5.2))<|zi fun r6 hr6 => ?_
 obtain ⟨_, er6, _, rfl⟩ := Z8D r1.1 (IntKind.i64.wrap (r1.1 + 1)) (r5.2.length : Int) x2 r5.2 zB r3.2 r6 hr6
 refine zc [0] (.p (.tup [])) [[(.p (.ml 6 (r6.map ZC))), (bv zB), (iv r3.2)], (Zk x1 zQ z10)] er6 ?_
 exact zr ((.p (.tup [])), [[(.p (.ml 6 (r6.map ZC))), (bv zB), (iv r3.2)], (Zk x1 zQ z10)]) ⟨_, rfl⟩
theorem ZhW x1 x2 zG zB zD {r} (h : Z84 x1 x2 zG zB zD = some r) : Z86 x1 x2 zG zB zD = some r :=
 Z1l (fun _ _ ha hb => ru_ (Z2Y _) (ha .ex .ex) (hb .ex .ex)) (fun zQ z10 => Zhk x1 x2 zG zB zD zQ z10 r h)
def Z7l (x1 : Zm) (zG : List Zm) (zB : Bool) (zD : Int) (b2 : Z9) : Option ((List Zm) × Int) :=
 (Z1n x1 zG).bind fun r1 =>
 (Z7s b2 r1.2 zB zD).bind fun r2 =>
 (Z1n (Zm.mk 9 0 0 0 0 ([] : List Z8)) r2.1).bind fun r3 =>
 (lget r3.2 r1.1).bind fun a4 =>
 (lget r3.2 r1.1).bind fun a5 =>
 some ((lset r3.2 r1.1 (Zm.mk a5.Op a5.A (r3.2.length : Int) a5.C a5.D a5.Set)), r2.2)
theorem ZfY x1 (zG : List Zm) zB zD b2 zQ z1c z12 : Sim (Z3w zB b2 z1c z12) (Z7l x1 zG zB zD b2) (EE 41 [(.ptr 0 0), (pA_ (Z1k x1 zQ)), (.clo 46 [] [(.ptr 1 0), (.ptr 2 0)])] [[(.p (.ml 6 (zG.map ZC))), (bv zB), (iv zD)], [(.ptr 0 0)], (Zk b2 z1c z12)]) := by
 unfold Z7l
 refine zf (ZtO ..)<|ze<|zx (.ptr 3 0) [[(.p (.ml 6 (zG.map ZC))), (bv zB), (iv zD)], [(.ptr 0 0)], (Zk b2 z1c z12), (Z1t x1 zQ)]<|ze<|zq<|zi fun r1 hr1 => ?_
 obtain ⟨_, er1, _, rfl⟩ := Z1w x1 zG zB zD .sh r1 hr1
 refine zc [0] (iv r1.1) [[(.p (.ml 6 (r1.2.map ZC))), (bv zB), (iv zD)], [(.ptr 0 0)], (Zk b2 z1c z12), (Z1t x1 zQ)] er1<|ze<|zi fun r2 hr2 => ?_
 obtain ⟨_, er2, _, rfl⟩ := ZgS b2 r1.2 zB zD z1c z12 r2 hr2
 refine zv [1, 2, 0] (.p (.tup [])) [[(.p (.ml 6 (r2.1.map ZC))), (bv zB), (iv r2.2)], [(.ptr 0 0)], (Zk b2 z1c z12), (Z1t x1 zQ)] er2<|ze<|zq<|zi fun r3 hr3 => ?_
 obtain ⟨_, er3, _, rfl⟩ := Z1w (Zm.mk 9 0 0 0 0 ([] : List Z8)) r2.1 zB r2.2 .sh r3 hr3
 refine zc [0] (iv r3.1) [[(.p (.ml 6 (r3.2.map ZC))), (bv zB), (iv r2.2)], [(.ptr 0 0)], (Zk b2 z1c z12), (Z1t x1 zQ)] er3<|ze<|zq<|zq<|zq<|zq<|zq<|zq<|zp (iv (r3.2.length : Int)) (et_ (ZbI (P := PP) (t := 23) (d := 40) (by kernel_rfl) ZC r3.2))<|zi fun a4 ha4 => zp (.p (.jnk (.ep 0 0 6 (Int.toNat r1.1) 0))) (et_ (Zkz (e := ZC) (n := 6) (id := 0) (off := 0) (k := .i64) (by decide) ha4))<|zq<|zi fun a5 ha5 => zb [[(.p (.ml 6 ((lset r3.2 r1.1 (Zm.mk a5.Op a5.A (r3.2.length : Int) a5.C a5.D a5.Set)).map ZC))), (bv zB), (iv r2.2)], [(.ptr 0 0)], (Zk b2 z1c z12), (Z1t x1 zQ)] (Eq.trans (b := stEl 1 (.p (.jnk (.ep 0 0 6 (Int.toNat r1.1) 2))) (iv (r3.2.length : Int)) [[(.p (.ml 6 (r3.2.map ZC))), (bv zB), (iv r2.2)], [(.ptr 0 0)], (Zk b2 z1c z12), (Z1t x1 zQ)]) (by kernel_rfl) (Zil (e := ZC) (row := [(.p (.ml 6 (r3.2.map ZC))), (bv zB), (iv r2.2)]) (n := 6) (l := r3.2) (a' := (Zm.mk a5.Op a5.A (r3.2.length : Int) a5.C a5.D a5.Set)) (by kernel_rfl) ha5 (by kernel_rfl) (by kernel_rfl))) ?_
 exact zr ((.p (.tup [])), [[(.p (.ml 6 ((lset r3.2 r1.1 (Zm.mk a5.Op a5.A (r3.2.length : Int) a5.C a5.D a5.Set)).map ZC))), (bv zB), (iv r2.2)], [(.ptr 0 0)], (Zk b2 z1c z12), (Z1t x1 zQ)]) ⟨_, rfl⟩
theorem ZgX x1 zG zB zD b2 {r} (h : Z7l x1 zG zB zD b2 = some r) : Z60 x1 zG zB zD b2 = some r :=
 Z1l (fun _ _ ha hb => ru_ (Z8A _ _ _ _) (ha .ex .ex .ex) (hb .ex .ex .ex)) (fun zQ z1c z12 => ZfY x1 zG zB zD b2 zQ z1c z12 r h)
def Z7i (b1 : Z9) (z31 : List Zm) (z1P : Bool) (z2f : Int) : Option ((List Zm) × Int) :=
 (lget b1.Kids 0).bind fun a1 =>
 (Z1V a1 z31 z1P z2f).bind fun r2 =>
 some (r2.1, r2.2)
theorem ZfV b1 (z31 : List Zm) z1P z2f zH zE : Sim (Z3v b1 z1P zH zE) (Z7i b1 z31 z1P z2f) (EE 46 [(.ptr 0 0), (.ptr 1 0)] [[(.ptr 2 0)], (Zk b1 zH zE), [(.p (.ml 6 (z31.map ZC))), (bv z1P), (iv z2f)]]) := by
 unfold Z7i
 refine zf (ZFP ..)<|ze<|zq<|zq<|zq<|zi fun a1 ha1 => zp (.cptr (ZI a1 .sh .sh)) (et_ (Z2k (o := (shrO zE)) (k := .i64) (n := 7) (e := ZJ) (cs := Z22) Z2I (fun _ => rfl) (by decide) ha1))<|zq<|zi fun r2 hr2 => ?_
 obtain ⟨_, er2, _, rfl⟩ := Z2J a1 z31 z1P z2f .sh .sh r2 hr2
 refine zc [2] (.p (.tup [])) [[(.ptr 2 0)], (Zk b1 zH zE), [(.p (.ml 6 (r2.1.map ZC))), (bv z1P), (iv r2.2)]] er2 ?_
 exact zr ((.p (.tup [])), [[(.ptr 2 0)], (Zk b1 zH zE), [(.p (.ml 6 (r2.1.map ZC))), (bv z1P), (iv r2.2)]]) ⟨_, rfl⟩
theorem ZgR b1 z31 z1P z2f {r} (h : Z7i b1 z31 z1P z2f = some r) : Z7s b1 z31 z1P z2f = some r :=
 Z1l (fun _ _ ha hb => ru_ (Z8z _ _ _ _) (ha .ex .ex) (hb .ex .ex)) (fun zH zE => ZfV b1 z31 z1P z2f zH zE r h)
def Z7m (x1 : Zm) (zG : List Zm) (zB : Bool) (zD : Int) (b2 : Z9) : Option ((List Zm) × Int) :=
 (Z1n x1 zG).bind fun r1 =>
 (Z7r b2 r1.2 zB zD).bind fun r2 =>
 (Z1n (Zm.mk 9 0 0 0 0 ([] : List Z8)) r2.1).bind fun r3 =>
 (lget r3.2 r1.1).bind fun a4 =>
 (lget r3.2 r1.1).bind fun a5 =>
 some ((lset r3.2 r1.1 (Zm.mk a5.Op a5.A (r3.2.length : Int) a5.C a5.D a5.Set)), r2.2)
theorem ZfZ x1 (zG : List Zm) zB zD b2 zQ z1c z12 : Sim (Z3w zB b2 z1c z12) (Z7m x1 zG zB zD b2) (EE 41 [(.ptr 0 0), (pA_ (Z1k x1 zQ)), (.clo 45 [] [(.ptr 1 0), (.ptr 2 0)])] [[(.p (.ml 6 (zG.map ZC))), (bv zB), (iv zD)], [(.ptr 0 0)], (Zk b2 z1c z12)]) := by
 unfold Z7m
 refine zf (ZtO ..)<|ze<|zx (.ptr 3 0) [[(.p (.ml 6 (zG.map ZC))), (bv zB), (iv zD)], [(.ptr 0 0)], (Zk b2 z1c z12), (Z1t x1 zQ)]<|ze<|zq<|zi fun r1 hr1 => ?_
 obtain ⟨_, er1, _, rfl⟩ := Z1w x1 zG zB zD .sh r1 hr1
 refine zc [0] (iv r1.1) [[(.p (.ml 6 (r1.2.map ZC))), (bv zB), (iv zD)], [(.ptr 0 0)], (Zk b2 z1c z12), (Z1t x1 zQ)] er1<|ze<|zi fun r2 hr2 => ?_
 obtain ⟨_, er2, _, rfl⟩ := ZgQ b2 r1.2 zB zD z1c z12 r2 hr2
 refine zv [1, 2, 0] (.p (.tup [])) [[(.p (.ml 6 (r2.1.map ZC))), (bv zB), (iv r2.2)], [(.ptr 0 0)], (Zk b2 z1c z12), (Z1t x1 zQ)] er2<|ze<|zq<|zi fun r3 hr3 => ?_
 obtain ⟨_, er3, _, rfl⟩ := Z1w (Zm.mk 9 0 0 0 0 ([] : List Z8)) r2.1 zB r2.2 .sh r3 hr3
 refine zc [0] (iv r3.1) [[(.p (.ml 6 (r3.2.map ZC))), (bv zB), (iv r2.2)], [(.ptr 0 0)], (Zk b2 z1c z12), (Z1t x1 zQ)] er3<|ze<|zq<|zq<|zq<|zq<|zq<|zq<|zp (iv (r3.2.length : Int)) (et_ (ZbI (P := PP) (t := 23) (d := 40) (by kernel_rfl) ZC r3.2))<|zi fun a4 ha4 => zp (.p (.jnk (.ep 0 0 6 (Int.toNat r1.1) 0))) (et_ (Zkz (e := ZC) (n := 6) (id := 0) (off := 0) (k := .i64) (by decide) ha4))<|zq<|zi fun a5 ha5 => zb [[(.p (.ml 6 ((lset r3.2 r1.1 (Zm.mk a5.Op a5.A (r3.2.length : Int) a5.C a5.D a5.Set)).map ZC))), (bv zB), (iv r2.2)], [(.ptr 0 0)], (Zk b2 z1c z12), (Z1t x1 zQ)] (Eq.trans (b := stEl 1 (.p (.jnk (.ep 0 0 6 (Int.toNat r1.1) 2))) (iv (r3.2.length : Int)) [[(.p (.ml 6 (r3.2.map ZC))), (bv zB), (iv r2.2)], [(.ptr 0 0)], (Zk b2 z1c z12), (Z1t x1 zQ)]) (by kernel_rfl) (Zil (e := ZC) (row := [(.p (.ml 6 (r3.2.map ZC))), (bv zB), (iv r2.2)]) (n := 6) (l := r3.2) (a' := (Zm.mk a5.Op a5.A (r3.2.length : Int) a5.C a5.D a5.Set)) (by kernel_rfl) ha5 (by kernel_rfl) (by kernel_rfl))) ?_
 exact zr ((.p (.tup [])), [[(.p (.ml 6 ((lset r3.2 r1.1 (Zm.mk a5.Op a5.A (r3.2.length : Int) a5.C a5.D a5.Set)).map ZC))), (bv zB), (iv r2.2)], [(.ptr 0 0)], (Zk b2 z1c z12), (Z1t x1 zQ)]) ⟨_, rfl⟩
theorem ZgZ x1 zG zB zD b2 {r} (h : Z7m x1 zG zB zD b2 = some r) : Z7t x1 zG zB zD b2 = some r :=
 Z1l (fun _ _ ha hb => ru_ (Z8A _ _ _ _) (ha .ex .ex .ex) (hb .ex .ex .ex)) (fun zQ z1c z12 => ZfZ x1 zG zB zD b2 zQ z1c z12 r h)
def Z7h (b1 : Z9) (z31 : List Zm) (z1P : Bool) (z2f : Int) : Option ((List Zm) × Int) :=
 (lget b1.Kids 0).bind fun a1 =>
 (Z1V a1 z31 z1P z2f).bind fun r2 =>
 some (r2.1, r2.2)
theorem ZfU b1 (z31 : List Zm) z1P z2f zH zE : Sim (Z3v b1 z1P zH zE) (Z7h b1 z31 z1P z2f) (EE 45 [(.ptr 0 0), (.ptr 1 0)] [[(.ptr 2 0)], (Zk b1 zH zE), [(.p (.ml 6 (z31.map ZC))), (bv z1P), (iv z2f)]]) := by
 unfold Z7h
 refine zf (ZFO ..)<|ze<|zq<|zq<|zq<|zi fun a1 ha1 => zp (.cptr (ZI a1 .sh .sh)) (et_ (Z2k (o := (shrO zE)) (k := .i64) (n := 7) (e := ZJ) (cs := Z22) Z2I (fun _ => rfl) (by decide) ha1))<|zq<|zi fun r2 hr2 => ?_
 obtain ⟨_, er2, _, rfl⟩ := Z2J a1 z31 z1P z2f .sh .sh r2 hr2
 refine zc [2] (.p (.tup [])) [[(.ptr 2 0)], (Zk b1 zH zE), [(.p (.ml 6 (r2.1.map ZC))), (bv z1P), (iv r2.2)]] er2 ?_
 exact zr ((.p (.tup [])), [[(.ptr 2 0)], (Zk b1 zH zE), [(.p (.ml 6 (r2.1.map ZC))), (bv z1P), (iv r2.2)]]) ⟨_, rfl⟩
theorem ZgP b1 z31 z1P z2f {r} (h : Z7h b1 z31 z1P z2f = some r) : Z7r b1 z31 z1P z2f = some r :=
 Z1l (fun _ _ ha hb => ru_ (Z8z _ _ _ _) (ha .ex .ex) (hb .ex .ex)) (fun zH zE => ZfU b1 z31 z1P z2f zH zE r h)
def ZeR (x0 : List Zm) : Option Int :=
 Zaa 0 x0 (x0.length : Int) 0
theorem Zor (x0 : List Zm) ox0 : Sim ZL (ZeR x0) (EE 13 [(ZR ox0 (x0.map ZC))] []) := by
 unfold ZeR
 refine zf (ZEX ..)<|ze<|ze<|ze<|zp (iv (x0.length : Int)) (et_ (Z2S (P := PP) (t := 23) (d := 40) (by kernel_rfl) ZC (shrO ox0) x0)) ?_
 exact zk (ZgM 0 x0 (x0.length : Int) 0 (shrO ox0))
theorem Zqi x0 {r} (h : ZeR x0 = some r) : Zcl x0 = some r :=
 Z1l (fun _ _ ha hb => ru_ Z1N (ha .ex) (hb .ex)) (fun ox0 => Zor x0 ox0 r h)
def Za5 (x3 : Int) (x6 : List Zm) (x7 x8 : Int) : Option Int :=
 Zaa x3 x6 x7 (IntKind.i64.wrap (x8 + 1))
theorem Zfy x3 (x6 : List Zm) x7 x8 ox6 : Sim ZL (Za5 x3 x6 x7 x8) (Zpg 0 (iv x3) (ZR ox6 (x6.map ZC)) (iv x7) (iv x8) []) := by
 unfold Za5
 refine zf (Zzw ..)<|ze<|zq ?_
 exact zk (ZgM x3 x6 x7 (IntKind.i64.wrap (x8 + 1)) ox6)
def ZbP (x3 : Int) (x6 : List Zm) (x7 x8 : Int) : Option Int :=
 (lget x6 x8).bind fun a1 =>
 if (a1.Op == 10) = true then
 (Za5 (IntKind.i64.wrap (x3 + 1)) x6 x7 x8)
 else
 (Za5 x3 x6 x7 x8)
theorem ZlS x3 (x6 : List Zm) x7 x8 ox6 : Sim ZL (ZbP x3 x6 x7 x8) (Zt8 0 (iv x3) (ZR ox6 (x6.map ZC)) (iv x7) (iv x8) []) := by
 unfold ZbP
 refine zf (Zzv ..)<|ze<|zi fun a1 ha1 => zp (.cptr (Z1k a1 .sh)) (et_ (Z2k (o := ox6) (k := .i64) (n := 6) (e := ZC) (cs := Z2U) (fun _ => rfl) (fun _ => rfl) (by decide) ha1))<|zq<|zz (.ptr 0 0) [(Z1t ZrL .nl)]<|zt [(Z1t a1 .sh)]<|ze<|zq<|zq<|zq ?_
 refine za (a1.Op == 10) ?_ ?_
 ·refine ze<|zq ?_
  exact zk (Zfy (IntKind.i64.wrap (x3 + 1)) x6 x7 x8 ox6)
 ·exact zk (Zfy x3 x6 x7 x8 ox6)
def ZbQ (x3 : Int) : Option Int :=
 some x3
theorem ZlT x3 : Sim ZL (ZbQ x3) (Zt9 0 (iv x3) []) := by
 unfold ZbQ
 refine zf (Zzx ..)<|ze ?_
 exact zr ((iv x3), []) ⟨_, rfl⟩
def Za4 (x3 : Int) (x6 : List Zm) (x7 x8 : Int) : Option Int :=
 if (decide (x8 < x7)) = true then
 (ZbP x3 x6 x7 x8)
 else
 (ZbQ x3)
theorem ZlR x3 (x6 : List Zm) x7 x8 ox6 : Sim ZL (Za4 x3 x6 x7 x8) (Zm7 0 (iv x3) (ZR ox6 (x6.map ZC)) (iv x7) (iv x8) []) := by
 unfold Za4
 refine zf (Zzu ..)<|ze<|zq ?_
 refine za (decide (x8 < x7)) ?_ ?_
 ·exact zk (ZlS x3 x6 x7 x8 ox6)
 ·exact zk (ZlT x3)
theorem ZgL x3 x6 x7 x8 {r} (h : Za4 x3 x6 x7 x8 = some r) : Zaa x3 x6 x7 x8 = some r :=
 Z1l (fun _ _ ha hb => ru_ Z1N (ha .ex) (hb .ex)) (fun ox6 => ZlR x3 x6 x7 x8 ox6 r h)
end Go.Proofs.YtocikhhkicahoaaDoor.N2
end
