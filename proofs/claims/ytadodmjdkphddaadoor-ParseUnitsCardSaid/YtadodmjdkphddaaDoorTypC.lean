/- More of the functions' typed texts. No condition. -/
import Derived.Test.YtadodmjdkphddaaDoorTypA

noncomputable section
set_option linter.unusedSimpArgs false
set_option linter.unusedVariables false
namespace Go.Proofs.YtadodmjdkphddaaDoor.N2
open Go Go.Abs
set_option linter.unusedVariables false
set_option maxRecDepth 100000
def Z3Q (x2 x5 : Int) (zl : List Int) (zp z6 zd : Int) (zh : List Zq) (z1 z2 : Int) : Option (Int × (Own × (List Z7)) × Bool × Int × Int × Int) :=
 (Z58 x2 x5 zl zp z6 zd zh z1 z2).bind fun r1 =>
 some (r1.1, (.nl, ([] : List Z7)), false, r1.2.1, r1.2.2.1, r1.2.2.2)
theorem Zaj x2 x5 zl zp z6 zd zh z1 z2 zn zb (zu : ZF zb = true) : Sim (Z2T zl z6 zd zh zn zb) (Z3Q x2 x5 zl zp z6 zd zh z1 z2) (Ziw 1 (.ptr 0 0) (iv x2) (iv x5) [(Zi (Zk.mk zl zp z6 zd zh (Zj.mk z1 z2)) zn zb)]) := by
 unfold Z3Q
 refine zf (ZmS ..)<|ze<|zi fun r1 hr1 => ?_
 obtain ⟨qr1, er1, exr1, rfl⟩ := Z8M x2 x5 zl zp z6 zd zh z1 z2 zn zb zu r1 hr1
 refine zc [0] (iv r1.1) [(Zi (Zk.mk zl r1.2.1 z6 zd zh (Zj.mk r1.2.2.1 r1.2.2.2)) zn zb)] er1 ?_
 exact zr ((.p (.tup [(.v (.int .i64 r1.1)), (.lst .nl []), (.v (.bool false))])), [(Zi (Zk.mk zl r1.2.1 z6 zd zh (Zj.mk r1.2.2.1 r1.2.2.2)) zn zb)]) ⟨_, rfl⟩
def Z51 (x2 x5 : Int) (zl : List Int) (zp z6 zd : Int) (zh : List Zq) (z1 z2 : Int) : Option (Int × (Own × (List Z7)) × Bool × Int × Int × Int) :=
 (Z2f zl zp).bind fun r1 =>
 (Z5b x2).bind fun r2 =>
 (nilO (shrO r2.1) r2.2).bind fun a3 =>
 if (!a3) = true then
 (some (0, ((shrO r2.1), r2.2), (decide (x2 < 97)), r1.2, z1, z2))
 else
 (Z3Q x2 x5 zl r1.2 z6 zd zh z1 z2)
theorem Zay x2 x5 zl zp z6 zd zh z1 z2 zn zb (zu : ZF zb = true) : Sim (Z2T zl z6 zd zh zn zb) (Z51 x2 x5 zl zp z6 zd zh z1 z2) (Zk3 1 (.ptr 0 0) (iv x2) (iv x5) [(Zi (Zk.mk zl zp z6 zd zh (Zj.mk z1 z2)) zn zb)]) := by
 unfold Z51
 refine zf (Zoh ..)<|ze<|zi fun r1 hr1 => ?_
 obtain ⟨qr1, er1, exr1, rfl⟩ := Z2H zl zp z6 zd zh z1 z2 zn zb zu r1 hr1
 refine zc [0] (iv r1.1) [(Zi (Zk.mk zl r1.2 z6 zd zh (Zj.mk z1 z2)) zn zb)] er1<|ze<|zi fun r2 hr2 => ?_
 obtain ⟨qr2, er2, exr2, rfl⟩ := Z7l x2 r2 hr2
 refine zc [] (.p (.lst r2.1 (r2.2.map Zv))) [(Zi (Zk.mk zl r1.2 z6 zd zh (Zj.mk z1 z2)) zn zb)] er2<|ze<|zi fun a3 ha3 => ?_
 refine zo (bv (!a3)) ?_ (Eq.trans (by kernel_rfl) (Zf2 (P := PP) (t := 23) (c := .slice none 0 0) (e := Zv) (by kernel_rfl) ha3))
 refine za (!a3) ?_ ?_
 ·refine ze<|zq ?_
  exact zr ((.p (.tup [(.v (.int .i64 0)), (.lst (shrO r2.1) (r2.2.map Zv)), (.v (.bool (decide (x2 < 97))))])), [(Zi (Zk.mk zl r1.2 z6 zd zh (Zj.mk z1 z2)) zn zb)]) ⟨_, rfl⟩
 ·exact zk (Zaj x2 x5 zl r1.2 z6 zd zh z1 z2 zn zb zu)
def Z50 (x5 : Int) (zl : List Int) (zp z6 zd : Int) (zh : List Zq) (z1 z2 : Int) : Option (Int × (Own × (List Z7)) × Bool × Int × Int × Int) :=
 (Z1Q (Zk.mk zl zp z6 zd zh (Zj.mk z1 z2))).bind fun r1 =>
 if (decide (r1 < 0)) = true then
 ((ZT 21 x5 zl z1 z2).bind fun r2 =>
 some (0, (.nl, ([] : List Z7)), false, r2.1, r2.2.1, r2.2.2))
 else
 (Z51 r1 x5 zl zp z6 zd zh z1 z2)
theorem Zax x5 zl zp z6 zd zh z1 z2 zn zb (zu : ZF zb = true) : Sim (Z2T zl z6 zd zh zn zb) (Z50 x5 zl zp z6 zd zh z1 z2) (Zk2 1 (.ptr 0 0) (iv x5) [(Zi (Zk.mk zl zp z6 zd zh (Zj.mk z1 z2)) zn zb)]) := by
 unfold Z50
 refine zf (Zog ..)<|ze<|zi fun r1 hr1 => ?_
 obtain ⟨qr1, er1, exr1, rfl⟩ := Z1V (Zk.mk zl zp z6 zd zh (Zj.mk z1 z2)) zn zb zu r1 hr1
 refine zc [0] (iv r1) [(Zi (Zk.mk zl zp z6 zd zh (Zj.mk z1 z2)) zn zb)] er1<|ze<|zq ?_
 refine za (decide (r1 < 0)) ?_ ?_
 ·refine ze<|zi fun r2 hr2 => ?_
  obtain ⟨qr2, er2, exr2, rfl⟩ := ZW 21 x5 zl zp z6 zd zh z1 z2 zn zb zu r2 hr2
  refine zc [0] (.p (.tup [])) [(Zi (Zk.mk zl r2.1 z6 zd zh (Zj.mk r2.2.1 r2.2.2)) zn zb)] er2<|ze ?_
  exact zr ((.p (.tup [(.v (.int .i64 0)), (.lst .nl []), (.v (.bool false))])), [(Zi (Zk.mk zl r2.1 z6 zd zh (Zj.mk r2.2.1 r2.2.2)) zn zb)]) ⟨_, rfl⟩
 ·exact zk (Zay r1 x5 zl zp z6 zd zh z1 z2 zn zb zu)
def Z4I (zl : List Int) (zp z6 zd : Int) (zh : List Zq) (z1 z2 : Int) : Option (Int × (Own × (List Z7)) × Bool × Int × Int × Int) :=
 (Z2f zl zp).bind fun r1 =>
 if (r1.1 != 92) = true then
 (some (r1.1, (.nl, ([] : List Z7)), false, r1.2, z1, z2))
 else
 (Z50 zp zl r1.2 z6 zd zh z1 z2)
theorem ZbU zl zp z6 zd zh z1 z2 zn zb (zu : ZF zb = true) : Sim (Z2T zl z6 zd zh zn zb) (Z4I zl zp z6 zd zh z1 z2) (EE 60 [(.ptr 0 0)] [(Zi (Zk.mk zl zp z6 zd zh (Zj.mk z1 z2)) zn zb)]) := by
 unfold Z4I
 refine zf (Zsj ..)<|ze<|ze<|zq<|zq<|zq<|ze<|zi fun r1 hr1 => ?_
 obtain ⟨qr1, er1, exr1, rfl⟩ := Z2H zl zp z6 zd zh z1 z2 zn zb zu r1 hr1
 refine zc [0] (iv r1.1) [(Zi (Zk.mk zl r1.2 z6 zd zh (Zj.mk z1 z2)) zn zb)] er1<|ze<|zq ?_
 refine za (r1.1 != 92) ?_ ?_
 ·refine ze ?_
  exact zr ((.p (.tup [(.v (.int .i64 r1.1)), (.lst .nl []), (.v (.bool false))])), [(Zi (Zk.mk zl r1.2 z6 zd zh (Zj.mk z1 z2)) zn zb)]) ⟨_, rfl⟩
 ·exact zk (Zax zp zl r1.2 z6 zd zh z1 z2 zn zb zu)
theorem Z7W (zl : List Int) (zp z6 zd : Int) (zh : List Zq) (z1 z2 : Int) {r} (h : Z4I zl zp z6 zd zh z1 z2 = some r) : Z3W zl zp z6 zd zh z1 z2 = some r :=
 Z1e (fun _ _ ha hb => RRun.uniq (ZcD _ _ _ _ _ _) (ha .ex .ex rfl) (hb .ex .ex rfl)) (fun zn zb zu => ZbU zl zp z6 zd zh z1 z2 zn zb zu r h)
def Z5v (x0 zZ : List Z7) : Option (List Z7) :=
 (Z8o zZ x0).bind fun r1 =>
 some (r1.1)
theorem Zbr (x0 zZ : List Z7) ox0 zaW : Sim (Z4t) (Z5v x0 zZ) (EE 58 [(.p (.lst ox0 (x0.map Zv))), (.ptr 0 0)] [[(.p (.lst zaW (zZ.map Zv)))]]) := by
 unfold Z5v
 refine zf (Zsg ..)<|ze<|zq<|zi fun r1 hr1 => ?_
 obtain ⟨qr1, er1, exr1, rfl⟩ := Zgq zZ x0 .sh .sh r1 hr1
 refine zc [] (.p (.tup [(.lst .sh (r1.1.map Zv)), (.v (.int .i64 r1.2))])) [[(.p (.lst zaW (zZ.map Zv)))]] er1<|zq<|zq<|zt [[(.p (.lst .sh (r1.1.map Zv)))]] ?_
 exact zr ((.p (.tup [])), [[(.p (.lst .sh (r1.1.map Zv)))]]) ⟨.sh, _, rfl⟩
theorem ZbR (x0 zZ : List Z7) {r} (h : Z5v x0 zZ = some r) : Z4u x0 zZ = some r :=
 Z1e (fun _ _ ha hb => RRun.uniq Zce (ha .ex .ex) (hb .ex .ex)) (fun ox0 zaW => Zbr x0 zZ ox0 zaW r h)
def Z6R  : Option ((List Z7) × Int) :=
 some (([] : List Z7), 10)
theorem Z9D  : Sim (Z5j) (Z6R) (Zhw 0  []) := by
 unfold Z6R
 refine zf (Zoe ..)<|ze ?_
 exact zr ((.p (.tup [(.lst .sh []), (.v (.int .i64 10))])), []) ⟨_, rfl⟩
def Z6S (x0 x1 : List Z7) : Option ((List Z7) × Int) :=
 (Z7a ([x0, x1] : List (List Z7))).bind fun r1 =>
 (Z8p r1).bind fun r2 =>
 some (r2, 0)
theorem ZdU (x0 x1 : List Z7) ox0 ox1 : Sim (Z5j) (Z6S x0 x1) (Zk0 0 (.p (.lst ox0 (x0.map Zv))) (.p (.lst ox1 (x1.map Zv))) []) := by
 unfold Z6S
 refine zf (Zof ..)<|ze<|zq<|zi fun r1 hr1 => ?_
 obtain ⟨qr1, er1, exr1, rfl⟩ := Zcr ([x0, x1] : List (List Z7)) .sh r1 hr1
 refine zc [] (.p (.lst .sh (r1.map Zv))) [] er1<|zi fun r2 hr2 => ?_
 obtain ⟨qr2, er2, exr2, rfl⟩ := ZbA r1 .sh r2 hr2
 refine zc [] (.p (.lst .sh (r2.map Zv))) [] er2 ?_
 exact zr ((.p (.tup [(.lst .sh (r2.map Zv)), (.v (.int .i64 0))])), []) ⟨_, rfl⟩
def Z8f (x0 x1 : List Z7) : Option ((List Z7) × Int) :=
 (Z4J x0).bind fun r1 =>
 if (!r1) = true then
 (Z6R)
 else
 ((Z4J x1).bind fun r2 =>
 if (!r2) = true then
 (Z6R)
 else
 (Z6S x0 x1))
theorem Zfp (x0 x1 : List Z7) ox0 ox1 : Sim (Z5j) (Z8f x0 x1) (EE 59 [(.p (.lst ox0 (x0.map Zv))), (.p (.lst ox1 (x1.map Zv)))] []) := by
 unfold Z8f
 refine zf (Zsh ..)<|ze<|ze<|zi fun r1 hr1 => ?_
 obtain ⟨qr1, er1, exr1, rfl⟩ := Z74 x0 .sh r1 hr1
 refine zc [] (bv r1) [] er1<|zq ?_
 refine za (!r1) ?_ ?_
 ·exact zk (Z9D )
 ·refine zi fun r2 hr2 => ?_
  obtain ⟨qr2, er2, exr2, rfl⟩ := Z74 x1 .sh r2 hr2
  refine zc [] (bv r2) [] er2<|zq ?_
  refine za (!r2) ?_ ?_
  ·exact zk (Z9D )
  ·exact zk (ZdU x0 x1 ox0 ox1)
theorem Zgp (x0 x1 : List Z7) {r} (h : Z8f x0 x1 = some r) : Z8o x0 x1 = some r :=
 Z1e (fun _ _ ha hb => RRun.uniq ZgM (ha .ex .ex) (hb .ex .ex)) (fun ox0 ox1 => Zfp x0 x1 ox0 ox1 r h)
def Z48 (zp z6 zd : Int) (zh : List Zq) (z1 z2 z18 z1P z1O z1c z1s : Int) (z1t : List Z7) (b2 : Z8) : Option (Z8 × Bool × Int × Int × Int × (List Zq) × Int × Int) :=
 some ((Z8.mk z18 z1P z1O z1c z1s z1t ([b2] : List Z8)), (z18 != 7), zp, z6, zd, zh, z1, z2)
theorem ZaC zl zp z6 zd zh z1 z2 z18 z1P z1O z1c z1s z1t z2d b2 zn zb zB zy z1U z1F (zu : ZF zb = true) (zP : ZF zB = true) (zI : ZF zy = true) : Sim (Z2l zl zn) (Z48 zp z6 zd zh z1 z2 z18 z1P z1O z1c z1s z1t b2) (Zit 1 (.ptr 1 0) (.ptr 2 0) [(Zi (Zk.mk zl zp z6 zd zh (Zj.mk z1 z2)) zn zb), (Zr (Z8.mk z18 z1P z1O z1c z1s z1t z2d) zB zy), (Zr b2 z1U z1F)]) := by
 unfold Z48
 refine zf (ZmL ..)<|ze<|zq ?_
 refine zo (.p (.lst .ex (([b2] : List Z8).map ZX))) ?_ (Eq.trans (b := some (.p (.lst .ex [.agg (Z3i b2)]))) (by kernel_rfl) (by simp only [List.map_cons, List.map_nil, Z3y]))
 refine zq<|zt [(Zi (Zk.mk zl zp z6 zd zh (Zj.mk z1 z2)) zn zb), (Zr (Z8.mk z18 z1P z1O z1c z1s z1t ([b2] : List Z8)) zB .ex), (Zr b2 z1U z1F)]<|ze<|zq<|zq<|zq<|zq<|zt [(Zi (Zk.mk zl zp z6 zd zh (Zj.mk z1 z2)) zn zb), (Zr (Z8.mk z18 z1P z1O z1c z1s z1t ([b2] : List Z8)) (shrO zB) .ex), (Zr b2 z1U z1F)] ?_
 exact zr ((.p (.tup [(.agg (ZE (Z8.mk z18 z1P z1O z1c z1s z1t ([b2] : List Z8)) .sh .sh)), (.v (.bool (z18 != 7)))])), [(Zi (Zk.mk zl zp z6 zd zh (Zj.mk z1 z2)) zn zb), (Zr (Z8.mk z18 z1P z1O z1c z1s z1t ([b2] : List Z8)) (shrO zB) .ex), (Zr b2 z1U z1F)]) ⟨zb, _, zu, rfl⟩
def Z26 (zp z6 zd : Int) (zh : List Zq) (z1 z2 z18 z1P z1O z1c z1s : Int) (z1t : List Z7) (b2 : Z8) : Option (Z8 × Bool × Int × Int × Int × (List Zq) × Int × Int) :=
 if (z18 == 0) = true then
 (some (b2, true, zp, z6, (IntKind.i64.wrap (zd - 1)), zh, z1, z2))
 else
 (Z48 zp z6 (IntKind.i64.wrap (zd - 1)) zh z1 z2 z18 z1P z1O z1c z1s z1t b2)
theorem Z5p zl zp z6 zd zh z1 z2 z18 z1P z1O z1c z1s z1t z2d b2 zn zb zB zy z1U z1F (zu : ZF zb = true) (zP : ZF zB = true) (zI : ZF zy = true) : Sim (Z2l zl zn) (Z26 zp z6 zd zh z1 z2 z18 z1P z1O z1c z1s z1t b2) (ZdK 1 (.ptr 0 0) (.ptr 1 0) (.ptr 2 0) [(Zi (Zk.mk zl zp z6 zd zh (Zj.mk z1 z2)) zn zb), (Zr (Z8.mk z18 z1P z1O z1c z1s z1t z2d) zB zy), (Zr b2 z1U z1F)]) := by
 unfold Z26
 refine zf (ZmK ..)<|ze<|zq<|zq<|zq<|zq<|zq<|zq<|zt [(Zi (Zk.mk zl zp z6 (IntKind.i64.wrap (zd - 1)) zh (Zj.mk z1 z2)) zn zb), (Zr (Z8.mk z18 z1P z1O z1c z1s z1t z2d) zB zy), (Zr b2 z1U z1F)]<|ze<|zq<|zq<|zq ?_
 refine za (z18 == 0) ?_ ?_
 ·refine ze<|zq<|zt [(Zi (Zk.mk zl zp z6 (IntKind.i64.wrap (zd - 1)) zh (Zj.mk z1 z2)) zn zb), (Zr b2 (shrO z1U) (shrO z1F)), (Zr b2 z1U z1F)] ?_
  exact zr ((.p (.tup [(.agg (ZE b2 .sh .sh)), (.v (.bool true))])), [(Zi (Zk.mk zl zp z6 (IntKind.i64.wrap (zd - 1)) zh (Zj.mk z1 z2)) zn zb), (Zr b2 (shrO z1U) (shrO z1F)), (Zr b2 z1U z1F)]) ⟨zb, _, zu, rfl⟩
 ·exact zk (ZaC zl zp z6 (IntKind.i64.wrap (zd - 1)) zh z1 z2 z18 z1P z1O z1c z1s z1t z2d b2 zn zb zB zy z1U z1F zu zP zI)
def Z55 (x1 : Int) (zl : List Int) (z6 zd : Int) (zh : List Zq) (z1 z2 z18 z1P z1O z1c z1s : Int) (z1t : List Z7) (b2 : Z8) : Option (Z8 × Bool × Int × Int × Int × (List Zq) × Int × Int) :=
 (ZT 20 x1 zl z1 z2).bind fun r1 =>
 Z26 r1.1 z6 zd zh r1.2.1 r1.2.2 z18 z1P z1O z1c z1s z1t b2
theorem ZaB x1 zl zp z6 zd zh z1 z2 z18 z1P z1O z1c z1s z1t z2d b2 zn zb zB zy z1U z1F (zu : ZF zb = true) (zP : ZF zB = true) (zI : ZF zy = true) : Sim (Z2l zl zn) (Z55 x1 zl z6 zd zh z1 z2 z18 z1P z1O z1c z1s z1t b2) (Zis 1 (.ptr 0 0) (iv x1) (.ptr 1 0) (.ptr 2 0) [(Zi (Zk.mk zl zp z6 zd zh (Zj.mk z1 z2)) zn zb), (Zr (Z8.mk z18 z1P z1O z1c z1s z1t z2d) zB zy), (Zr b2 z1U z1F)]) := by
 unfold Z55
 refine zf (ZmJ ..)<|ze<|zi fun r1 hr1 => ?_
 obtain ⟨qr1, er1, exr1, rfl⟩ := ZW 20 x1 zl zp z6 zd zh z1 z2 zn zb zu r1 hr1
 refine zc [0] (.p (.tup [])) [(Zi (Zk.mk zl r1.1 z6 zd zh (Zj.mk r1.2.1 r1.2.2)) zn zb), (Zr (Z8.mk z18 z1P z1O z1c z1s z1t z2d) zB zy), (Zr b2 z1U z1F)] er1 ?_
 exact zk (Z5p zl r1.1 z6 zd zh r1.2.1 r1.2.2 z18 z1P z1O z1c z1s z1t z2d b2 zn zb zB zy z1U z1F zu zP zI)
def Z1D (x1 : Int) (zl : List Int) (zp z6 zd : Int) (zh : List Zq) (z1 z2 z18 z1P z1O z1c z1s : Int) (z1t : List Z7) : Option (Z8 × Bool × Int × Int × Int × (List Zq) × Int × Int) :=
 (Z37 zl zp z6 zd zh z1 z2).bind fun r1 =>
 if (r1.2.2.2.2.2.1 == 0) = true then
 ((Z17 (ByteArray.mk #[41]) zl r1.2.1).bind fun r2 =>
 if (!r2.1) = true then
 (Z55 x1 zl r1.2.2.1 r1.2.2.2.1 r1.2.2.2.2.1 r1.2.2.2.2.2.1 r1.2.2.2.2.2.2 z18 z1P z1O z1c z1s z1t r1.1)
 else
 (Z26 r2.2 r1.2.2.1 r1.2.2.2.1 r1.2.2.2.2.1 r1.2.2.2.2.2.1 r1.2.2.2.2.2.2 z18 z1P z1O z1c z1s z1t r1.1))
 else
 (Z26 r1.2.1 r1.2.2.1 r1.2.2.2.1 r1.2.2.2.2.1 r1.2.2.2.2.2.1 r1.2.2.2.2.2.2 z18 z1P z1O z1c z1s z1t r1.1)
theorem Z2M x1 zl zp z6 zd zh z1 z2 z18 z1P z1O z1c z1s z1t z2d zn zb zB zy (zu : ZF zb = true) (zP : ZF zB = true) (zI : ZF zy = true) : Sim (Z2l zl zn) (Z1D x1 zl zp z6 zd zh z1 z2 z18 z1P z1O z1c z1s z1t) (Z9B 1 (.ptr 0 0) (iv x1) (.ptr 1 0) [(Zi (Zk.mk zl zp z6 zd zh (Zj.mk z1 z2)) zn zb), (Zr (Z8.mk z18 z1P z1O z1c z1s z1t z2d) zB zy)]) := by
 unfold Z1D
 refine zf (ZmI ..)<|ze<|zi fun r1 hr1 => ?_
 obtain ⟨qr1, er1, or1_0_4, exr1, hor1_0_4, rfl⟩ := Z9I zl zp z6 zd zh z1 z2 zn zb zu r1 hr1
 refine zc [0] (.p (.agg (ZE r1.1 .sh .sh))) [(Zi (Zk.mk zl r1.2.1 r1.2.2.1 r1.2.2.2.1 r1.2.2.2.2.1 (Zj.mk r1.2.2.2.2.2.1 r1.2.2.2.2.2.2)) zn or1_0_4), (Zr (Z8.mk z18 z1P z1O z1c z1s z1t z2d) zB zy)] er1<|zz (.ptr 2 0) [(Zi (Zk.mk zl r1.2.1 r1.2.2.1 r1.2.2.2.1 r1.2.2.2.2.1 (Zj.mk r1.2.2.2.2.2.1 r1.2.2.2.2.2.2)) zn or1_0_4), (Zr (Z8.mk z18 z1P z1O z1c z1s z1t z2d) zB zy), (Zr (Z8.mk 0 0 0 0 0 ([] : List Z7) ([] : List Z8)) .nl .nl)]<|zt [(Zi (Zk.mk zl r1.2.1 r1.2.2.1 r1.2.2.2.1 r1.2.2.2.2.1 (Zj.mk r1.2.2.2.2.2.1 r1.2.2.2.2.2.2)) zn or1_0_4), (Zr (Z8.mk z18 z1P z1O z1c z1s z1t z2d) zB zy), (Zr r1.1 .sh .sh)]<|ze<|zq<|zq<|zq<|zq<|zq ?_
 refine za (r1.2.2.2.2.2.1 == 0) ?_ ?_
 ·refine zi fun r2 hr2 => ?_
  obtain ⟨qr2, er2, exr2, rfl⟩ := Z1d (ByteArray.mk #[41]) zl r1.2.1 r1.2.2.1 r1.2.2.2.1 r1.2.2.2.2.1 r1.2.2.2.2.2.1 r1.2.2.2.2.2.2 zn or1_0_4 hor1_0_4 r2 hr2
  refine zc [0] (bv r2.1) [(Zi (Zk.mk zl r2.2 r1.2.2.1 r1.2.2.2.1 r1.2.2.2.2.1 (Zj.mk r1.2.2.2.2.2.1 r1.2.2.2.2.2.2)) zn or1_0_4), (Zr (Z8.mk z18 z1P z1O z1c z1s z1t z2d) zB zy), (Zr r1.1 .sh .sh)] er2<|zq ?_
  refine za (!r2.1) ?_ ?_
  ·exact zk (ZaB x1 zl r2.2 r1.2.2.1 r1.2.2.2.1 r1.2.2.2.2.1 r1.2.2.2.2.2.1 r1.2.2.2.2.2.2 z18 z1P z1O z1c z1s z1t z2d r1.1 zn or1_0_4 zB zy .sh .sh hor1_0_4 zP zI)
  ·exact zk (Z5p zl r2.2 r1.2.2.1 r1.2.2.2.1 r1.2.2.2.2.1 r1.2.2.2.2.2.1 r1.2.2.2.2.2.2 z18 z1P z1O z1c z1s z1t z2d r1.1 zn or1_0_4 zB zy .sh .sh hor1_0_4 zP zI)
 ·exact zk (Z5p zl r1.2.1 r1.2.2.1 r1.2.2.2.1 r1.2.2.2.2.1 r1.2.2.2.2.2.1 r1.2.2.2.2.2.2 z18 z1P z1O z1c z1s z1t z2d r1.1 zn or1_0_4 zB zy .sh .sh hor1_0_4 zP zI)
def Z4l (x1 : Int) (zl : List Int) (zp z6 zd : Int) (zh : List Zq) (z1 z2 z18 z1P z1O z1c z1s : Int) (z1t : List Z7) : Option (Z8 × Bool × Int × Int × Int × (List Zq) × Int × Int) :=
 (Z9i).bind fun r1 =>
 (Z44 r1 zl zp).bind fun r2 =>
 if (decide (0 ≤ r2.1)) = true then
 (Z1D x1 zl r2.2 z6 (IntKind.i64.wrap (zd + 1)) zh z1 z2 7 0 0 r2.1 0 ([] : List Z7))
 else
 ((Z17 (ByteArray.mk #[63, 62]) zl r2.2).bind fun r3 =>
 if (r3.1) = true then
 (Z1D x1 zl r3.2 z6 (IntKind.i64.wrap (zd + 1)) zh z1 z2 8 0 0 0 0 ([] : List Z7))
 else
 ((Z17 (ByteArray.mk #[63, 58]) zl r3.2).bind fun r4 =>
 if (r4.1) = true then
 (Z1D x1 zl r4.2 z6 (IntKind.i64.wrap (zd + 1)) zh z1 z2 z18 z1P z1O z1c z1s z1t)
 else
 ((Z1Q (Zk.mk zl r4.2 z6 (IntKind.i64.wrap (zd + 1)) zh (Zj.mk z1 z2))).bind fun r5 =>
 if (r5 == 63) = true then
 ((ZT 20 x1 zl z1 z2).bind fun r6 =>
 Z1D x1 zl r6.1 z6 (IntKind.i64.wrap (zd + 1)) zh r6.2.1 r6.2.2 z18 z1P z1O z1c z1s z1t)
 else
 (if (z6 == 9) = true then
 ((ZT 24 x1 zl z1 z2).bind fun r7 =>
 Z1D x1 zl r7.1 z6 (IntKind.i64.wrap (zd + 1)) zh r7.2.1 r7.2.2 z18 z1P z1O z1c z1s z1t)
 else
 (Z1D x1 zl r4.2 (IntKind.i64.wrap (z6 + 1)) (IntKind.i64.wrap (zd + 1)) zh z1 z2 5 0 0 0 (IntKind.i64.wrap (z6 + 1)) ([] : List Z7))))))
theorem Zba x1 zl zp z6 zd zh z1 z2 z18 z1P z1O z1c z1s z1t z2d zn zb zB zy (zu : ZF zb = true) (zP : ZF zB = true) (zI : ZF zy = true) : Sim (Z2l zl zn) (Z4l x1 zl zp z6 zd zh z1 z2 z18 z1P z1O z1c z1s z1t) (ZjT 1 (.ptr 0 0) (iv x1) (.ptr 1 0) [(Zi (Zk.mk zl zp z6 zd zh (Zj.mk z1 z2)) zn zb), (Zr (Z8.mk z18 z1P z1O z1c z1s z1t z2d) zB zy)]) := by
 unfold Z4l
 refine zf (Zo7 ..)<|ze<|zq<|zq<|zq<|zq<|zq<|zq<|zt [(Zi (Zk.mk zl zp z6 (IntKind.i64.wrap (zd + 1)) zh (Zj.mk z1 z2)) zn zb), (Zr (Z8.mk z18 z1P z1O z1c z1s z1t z2d) zB zy)]<|ze<|zi fun r1 hr1 => ?_
 obtain ⟨qr1, er1, exr1, rfl⟩ := ZgV  r1 hr1
 refine zc [] (.p (.lst .sh (r1.map eS))) [(Zi (Zk.mk zl zp z6 (IntKind.i64.wrap (zd + 1)) zh (Zj.mk z1 z2)) zn zb), (Zr (Z8.mk z18 z1P z1O z1c z1s z1t z2d) zB zy)] er1<|zi fun r2 hr2 => ?_
 obtain ⟨qr2, er2, exr2, rfl⟩ := Z9t r1 zl zp z6 (IntKind.i64.wrap (zd + 1)) zh z1 z2 .sh zn zb zu r2 hr2
 refine zc [0] (iv r2.1) [(Zi (Zk.mk zl r2.2 z6 (IntKind.i64.wrap (zd + 1)) zh (Zj.mk z1 z2)) zn zb), (Zr (Z8.mk z18 z1P z1O z1c z1s z1t z2d) zB zy)] er2<|ze<|zq ?_
 refine za (decide (0 ≤ r2.1)) ?_ ?_
 ·refine ze<|zq<|zt [(Zi (Zk.mk zl r2.2 z6 (IntKind.i64.wrap (zd + 1)) zh (Zj.mk z1 z2)) zn zb), (Zr (Z8.mk 7 0 0 r2.1 0 ([] : List Z7) ([] : List Z8)) .nl .nl)] ?_
  exact zk (Z2M x1 zl r2.2 z6 (IntKind.i64.wrap (zd + 1)) zh z1 z2 7 0 0 r2.1 0 ([] : List Z7) ([] : List Z8) zn zb .nl .nl zu rfl rfl)
 ·refine ze<|zi fun r3 hr3 => ?_
  obtain ⟨qr3, er3, exr3, rfl⟩ := Z1d (ByteArray.mk #[63, 62]) zl r2.2 z6 (IntKind.i64.wrap (zd + 1)) zh z1 z2 zn zb zu r3 hr3
  refine zc [0] (bv r3.1) [(Zi (Zk.mk zl r3.2 z6 (IntKind.i64.wrap (zd + 1)) zh (Zj.mk z1 z2)) zn zb), (Zr (Z8.mk z18 z1P z1O z1c z1s z1t z2d) zB zy)] er3 ?_
  refine za r3.1 ?_ ?_
  ·refine ze<|zq<|zt [(Zi (Zk.mk zl r3.2 z6 (IntKind.i64.wrap (zd + 1)) zh (Zj.mk z1 z2)) zn zb), (Zr (Z8.mk 8 0 0 0 0 ([] : List Z7) ([] : List Z8)) .nl .nl)] ?_
   exact zk (Z2M x1 zl r3.2 z6 (IntKind.i64.wrap (zd + 1)) zh z1 z2 8 0 0 0 0 ([] : List Z7) ([] : List Z8) zn zb .nl .nl zu rfl rfl)
  ·refine ze<|zi fun r4 hr4 => ?_
   obtain ⟨qr4, er4, exr4, rfl⟩ := Z1d (ByteArray.mk #[63, 58]) zl r3.2 z6 (IntKind.i64.wrap (zd + 1)) zh z1 z2 zn zb zu r4 hr4
   refine zc [0] (bv r4.1) [(Zi (Zk.mk zl r4.2 z6 (IntKind.i64.wrap (zd + 1)) zh (Zj.mk z1 z2)) zn zb), (Zr (Z8.mk z18 z1P z1O z1c z1s z1t z2d) zB zy)] er4 ?_
   refine za r4.1 ?_ ?_
   ·exact zk (Z2M x1 zl r4.2 z6 (IntKind.i64.wrap (zd + 1)) zh z1 z2 z18 z1P z1O z1c z1s z1t z2d zn zb zB zy zu zP zI)
   ·refine ze<|zi fun r5 hr5 => ?_
    obtain ⟨qr5, er5, exr5, rfl⟩ := Z1V (Zk.mk zl r4.2 z6 (IntKind.i64.wrap (zd + 1)) zh (Zj.mk z1 z2)) zn zb zu r5 hr5
    refine zc [0] (iv r5) [(Zi (Zk.mk zl r4.2 z6 (IntKind.i64.wrap (zd + 1)) zh (Zj.mk z1 z2)) zn zb), (Zr (Z8.mk z18 z1P z1O z1c z1s z1t z2d) zB zy)] er5<|zq ?_
    refine za (r5 == 63) ?_ ?_
    ·refine ze<|zi fun r6 hr6 => ?_
     obtain ⟨qr6, er6, exr6, rfl⟩ := ZW 20 x1 zl r4.2 z6 (IntKind.i64.wrap (zd + 1)) zh z1 z2 zn zb zu r6 hr6
     refine zc [0] (.p (.tup [])) [(Zi (Zk.mk zl r6.1 z6 (IntKind.i64.wrap (zd + 1)) zh (Zj.mk r6.2.1 r6.2.2)) zn zb), (Zr (Z8.mk z18 z1P z1O z1c z1s z1t z2d) zB zy)] er6 ?_
     exact zk (Z2M x1 zl r6.1 z6 (IntKind.i64.wrap (zd + 1)) zh r6.2.1 r6.2.2 z18 z1P z1O z1c z1s z1t z2d zn zb zB zy zu zP zI)
    ·refine ze<|zq<|zq<|zq<|zq ?_
     refine za (z6 == 9) ?_ ?_
     ·refine ze<|zi fun r7 hr7 => ?_
      obtain ⟨qr7, er7, exr7, rfl⟩ := ZW 24 x1 zl r4.2 z6 (IntKind.i64.wrap (zd + 1)) zh z1 z2 zn zb zu r7 hr7
      refine zc [0] (.p (.tup [])) [(Zi (Zk.mk zl r7.1 z6 (IntKind.i64.wrap (zd + 1)) zh (Zj.mk r7.2.1 r7.2.2)) zn zb), (Zr (Z8.mk z18 z1P z1O z1c z1s z1t z2d) zB zy)] er7 ?_
      exact zk (Z2M x1 zl r7.1 z6 (IntKind.i64.wrap (zd + 1)) zh r7.2.1 r7.2.2 z18 z1P z1O z1c z1s z1t z2d zn zb zB zy zu zP zI)
     ·refine ze<|zq<|zq<|zq<|zq<|zq<|zq<|zt [(Zi (Zk.mk zl r4.2 (IntKind.i64.wrap (z6 + 1)) (IntKind.i64.wrap (zd + 1)) zh (Zj.mk z1 z2)) zn zb), (Zr (Z8.mk z18 z1P z1O z1c z1s z1t z2d) zB zy)]<|ze<|zq<|zq<|zq<|zq<|zt [(Zi (Zk.mk zl r4.2 (IntKind.i64.wrap (z6 + 1)) (IntKind.i64.wrap (zd + 1)) zh (Zj.mk z1 z2)) zn zb), (Zr (Z8.mk 5 0 0 0 (IntKind.i64.wrap (z6 + 1)) ([] : List Z7) ([] : List Z8)) .nl .nl)] ?_
      exact zk (Z2M x1 zl r4.2 (IntKind.i64.wrap (z6 + 1)) (IntKind.i64.wrap (zd + 1)) zh z1 z2 5 0 0 0 (IntKind.i64.wrap (z6 + 1)) ([] : List Z7) ([] : List Z8) zn zb .nl .nl zu rfl rfl)
def Z54 (x1 : Int) (zl : List Int) (zp z6 zd : Int) (zh : List Zq) (z1 z2 : Int) : Option (Z8 × Bool × Int × Int × Int × (List Zq) × Int × Int) :=
 if (zd == 32) = true then
 ((ZT 25 x1 zl z1 z2).bind fun r1 =>
 some ((Z8.mk 0 0 0 0 0 ([] : List Z7) ([] : List Z8)), true, r1.1, z6, zd, zh, r1.2.1, r1.2.2))
 else
 (Z4l x1 zl zp z6 zd zh z1 z2 0 0 0 0 0 ([] : List Z7))
theorem Zco x1 zl zp z6 zd zh z1 z2 zn zb (zu : ZF zb = true) : Sim (Z2l zl zn) (Z54 x1 zl zp z6 zd zh z1 z2) (EE 51 [(.ptr 0 0), (iv x1)] [(Zi (Zk.mk zl zp z6 zd zh (Zj.mk z1 z2)) zn zb)]) := by
 unfold Z54
 refine zf (Zs2 ..)<|ze<|zz (.ptr 1 0) [(Zi (Zk.mk zl zp z6 zd zh (Zj.mk z1 z2)) zn zb), (Zr (Z8.mk 0 0 0 0 0 ([] : List Z7) ([] : List Z8)) .nl .nl)]<|ze<|zq<|zq<|zq<|zq ?_
 refine za (zd == 32) ?_ ?_
 ·refine ze<|zi fun r1 hr1 => ?_
  obtain ⟨qr1, er1, exr1, rfl⟩ := ZW 25 x1 zl zp z6 zd zh z1 z2 zn zb zu r1 hr1
  refine zc [0] (.p (.tup [])) [(Zi (Zk.mk zl r1.1 z6 zd zh (Zj.mk r1.2.1 r1.2.2)) zn zb), (Zr (Z8.mk 0 0 0 0 0 ([] : List Z7) ([] : List Z8)) .nl .nl)] er1<|ze<|zq<|zt [(Zi (Zk.mk zl r1.1 z6 zd zh (Zj.mk r1.2.1 r1.2.2)) zn zb), (Zr (Z8.mk 0 0 0 0 0 ([] : List Z7) ([] : List Z8)) .nl .nl)] ?_
  exact zr ((.p (.tup [(.agg (ZE (Z8.mk 0 0 0 0 0 ([] : List Z7) ([] : List Z8)) .sh .sh)), (.v (.bool true))])), [(Zi (Zk.mk zl r1.1 z6 zd zh (Zj.mk r1.2.1 r1.2.2)) zn zb), (Zr (Z8.mk 0 0 0 0 0 ([] : List Z7) ([] : List Z8)) .nl .nl)]) ⟨zb, _, zu, rfl⟩
 ·exact zk (Zba x1 zl zp z6 zd zh z1 z2 0 0 0 0 0 ([] : List Z7) ([] : List Z8) zn zb .nl .nl zu rfl rfl)
theorem Z8L (x1 : Int) (zl : List Int) (zp z6 zd : Int) (zh : List Zq) (z1 z2 : Int) {r} (h : Z54 x1 zl zp z6 zd zh z1 z2 = some r) : Z3z x1 zl zp z6 zd zh z1 z2 = some r :=
 Z1e (fun _ _ ha hb => RRun.uniq (Zd9 _ _) (ha .ex .ex rfl) (hb .ex .ex rfl)) (fun zn zb zu => Zco x1 zl zp z6 zd zh z1 z2 zn zb zu r h)
def Zbp  : Option (List ByteArray) :=
 some ([(ByteArray.mk #[63, 61]), (ByteArray.mk #[63, 33]), (ByteArray.mk #[63, 60, 61]), (ByteArray.mk #[63, 60, 33])] : List ByteArray)
theorem Zgt  : Sim (Z7q) (Zbp) (EE 62 [] []) := by
 unfold Zbp
 refine zf (Zsm ..)<|ze<|ze<|zq ?_
 exact zr ((.p (.lst .sh (([(ByteArray.mk #[63, 61]), (ByteArray.mk #[63, 33]), (ByteArray.mk #[63, 60, 61]), (ByteArray.mk #[63, 60, 33])] : List ByteArray).map eS))), []) ⟨_, rfl⟩
theorem ZgU  {r} (h : Zbp = some r) : Z9i = some r :=
 Z1e (fun _ _ ha hb => RRun.uniq Zhe (ha ) (hb )) (Zgt  r h)
def Z41 (x0 : List ByteArray) (zl : List Int) (zp : Int) : Option (Int × Int) :=
 Z1B x0 (x0.length : Int) 0 zl zp
theorem Z99 (x0 : List ByteArray) zl zp z6 zd zh z1 z2 ox0 zn zb (zu : ZF zb = true) : Sim (Z1r zl z6 zd zh z1 z2 zn zb) (Z41 x0 zl zp) (EE 61 [(.p (.lst ox0 (x0.map eS))), (.clo 27 [(.ptr 0 0)] [])] [(Zi (Zk.mk zl zp z6 zd zh (Zj.mk z1 z2)) zn zb)]) := by
 unfold Z41
 refine zf (Zsk ..)<|ze<|ze ?_
 refine zo (iv (x0.length : Int)) ?_ (Eq.trans (by kernel_rfl) (Z5r (P := PP) (t := 43) (d := 9) (by kernel_rfl) eS (shrO ox0) x0))
 exact zk (Z5Q x0 (x0.length : Int) 0 zl zp z6 zd zh z1 z2 ox0 zn zb zu)
theorem Z9s (x0 : List ByteArray) (zl : List Int) (zp : Int) {r} (h : Z41 x0 zl zp = some r) : Z44 x0 zl zp = some r :=
 Z1e (fun _ _ ha hb => RRun.uniq (Z6u _ _ _ _ _ _ _ _) (ha default default default default default .ex .ex .ex rfl) (hb default default default default default .ex .ex .ex rfl)) (fun z6 zd zh z1 z2 ox0 zn zb zu => Z99 x0 zl zp z6 zd zh z1 z2 ox0 zn zb zu r h)
def Z3x (x0 : List ByteArray) (x7 x8 : Int) (zl : List Int) (zp : Int) : Option (Int × Int) :=
 Z1B x0 x7 (IntKind.i64.wrap (x8 + 1)) zl zp
theorem Z82 (x0 : List ByteArray) x7 x8 zl zp z6 zd zh z1 z2 ox0 zn zb (zu : ZF zb = true) : Sim (Z1r zl z6 zd zh z1 z2 zn zb) (Z3x x0 x7 x8 zl zp) (Zk7 1 (.p (.lst ox0 (x0.map eS))) (.clo 27 [(.ptr 0 0)] []) (iv x7) (iv x8) [(Zi (Zk.mk zl zp z6 zd zh (Zj.mk z1 z2)) zn zb)]) := by
 unfold Z3x
 refine zf (Zol ..)<|ze<|zq ?_
 exact zk (Z5Q x0 x7 (IntKind.i64.wrap (x8 + 1)) zl zp z6 zd zh z1 z2 ox0 zn zb zu)
def Z2O (x0 : List ByteArray) (x7 x8 : Int) (zl : List Int) (zp : Int) : Option (Int × Int) :=
 (lget x0 x8).bind fun a1 =>
 (Z17 a1 zl zp).bind fun r2 =>
 if (r2.1) = true then
 (some (x8, r2.2))
 else
 (Z3x x0 x7 x8 zl r2.2)
theorem Z81 (x0 : List ByteArray) x7 x8 zl zp z6 zd zh z1 z2 ox0 zn zb (zu : ZF zb = true) : Sim (Z1r zl z6 zd zh z1 z2 zn zb) (Z2O x0 x7 x8 zl zp) (Zk6 1 (.p (.lst ox0 (x0.map eS))) (.clo 27 [(.ptr 0 0)] []) (iv x7) (iv x8) [(Zi (Zk.mk zl zp z6 zd zh (Zj.mk z1 z2)) zn zb)]) := by
 unfold Z2O
 refine zf (Zok ..)<|ze<|ze<|zi fun a1 ha1 => ?_
 refine zo (.cptr [(.v (.string a1))]) ?_ (Eq.trans (by kernel_rfl) (Z6d (o := (shrO ox0)) (k := .i64) (n := 1) (e := eS) (cs := (fun a => [eS a])) (fun _ => rfl) (fun _ => rfl) (by decide) ha1))
 refine zq<|zi fun r2 hr2 => ?_
 obtain ⟨qr2, er2, exr2, rfl⟩ := Z1d a1 zl zp z6 zd zh z1 z2 zn zb zu r2 hr2
 refine zv [0] (bv r2.1) [(Zi (Zk.mk zl r2.2 z6 zd zh (Zj.mk z1 z2)) zn zb)] er2 ?_
 refine za r2.1 ?_ ?_
 ·refine ze ?_
  exact zr ((iv x8), [(Zi (Zk.mk zl r2.2 z6 zd zh (Zj.mk z1 z2)) zn zb)]) ⟨_, rfl⟩
 ·exact zk (Z82 x0 x7 x8 zl r2.2 z6 zd zh z1 z2 ox0 zn zb zu)
def Z4A (zp : Int) : Option (Int × Int) :=
 some ((-1), zp)
theorem Z83 zl zp z6 zd zh z1 z2 zn zb (zu : ZF zb = true) : Sim (Z1r zl z6 zd zh z1 z2 zn zb) (Z4A zp) (Zk8 1  [(Zi (Zk.mk zl zp z6 zd zh (Zj.mk z1 z2)) zn zb)]) := by
 unfold Z4A
 refine zf (Zom ..)<|ze ?_
 exact zr ((iv (-1)), [(Zi (Zk.mk zl zp z6 zd zh (Zj.mk z1 z2)) zn zb)]) ⟨_, rfl⟩
def Z2j (x0 : List ByteArray) (x7 x8 : Int) (zl : List Int) (zp : Int) : Option (Int × Int) :=
 if (decide (x8 < x7)) = true then
 (Z2O x0 x7 x8 zl zp)
 else
 (Z4A zp)
theorem Z80 (x0 : List ByteArray) x7 x8 zl zp z6 zd zh z1 z2 ox0 zn zb (zu : ZF zb = true) : Sim (Z1r zl z6 zd zh z1 z2 zn zb) (Z2j x0 x7 x8 zl zp) (ZdN 1 (.p (.lst ox0 (x0.map eS))) (.clo 27 [(.ptr 0 0)] []) (iv x7) (iv x8) [(Zi (Zk.mk zl zp z6 zd zh (Zj.mk z1 z2)) zn zb)]) := by
 unfold Z2j
 refine zf (Zoj ..)<|ze<|zq ?_
 refine za (decide (x8 < x7)) ?_ ?_
 ·exact zk (Z81 x0 x7 x8 zl zp z6 zd zh z1 z2 ox0 zn zb zu)
 ·exact zk (Z83 zl zp z6 zd zh z1 z2 zn zb zu)
theorem Z4j (x0 : List ByteArray) (x7 x8 : Int) (zl : List Int) (zp : Int) {r} (h : Z2j x0 x7 x8 zl zp = some r) : Z1B x0 x7 x8 zl zp = some r :=
 Z1e (fun _ _ ha hb => RRun.uniq (Z6u _ _ _ _ _ _ _ _) (ha default default default default default .ex .ex .ex rfl) (hb default default default default default .ex .ex .ex rfl)) (fun z6 zd zh z1 z2 ox0 zn zb zu => Z80 x0 x7 x8 zl zp z6 zd zh z1 z2 ox0 zn zb zu r h)
def Z3a (zp z1 z2 z2a z3g z3f z2L z2z : Int) (z2A : List Z7) (z29 : List Z8) : Option (Z8 × Int × Int × Int) :=
 some ((Z8.mk z2a z3g z3f z2L z2z z2A z29), zp, z1, z2)
theorem Z5d zl zp z6 zd zh z1 z2 b1 b2 z2a z3g z3f z2L z2z z2A z29 zn zb zB zy z1U z1F z3r z2R (zu : ZF zb = true) (z9u : ZF z1U = true) (z84 : ZF z1F = true) (z9v : ZF z3r = true) (z85 : ZF z2R = true) : Sim (Z2U zl z6 zd zh zn zb) (Z3a zp z1 z2 z2a z3g z3f z2L z2z z2A z29) (ZdG 1 (.ptr 2 0) (.ptr 3 0) [(Zi (Zk.mk zl zp z6 zd zh (Zj.mk z1 z2)) zn zb), (Zr b1 zB zy), (Zr b2 z1U z1F), (Zr (Z8.mk z2a z3g z3f z2L z2z z2A z29) z3r z2R)]) := by
 unfold Z3a
 refine zf (Zmw ..)<|ze<|zq<|zt [(Zi (Zk.mk zl zp z6 zd zh (Zj.mk z1 z2)) zn zb), (Zr b1 zB zy), (Zr (Z8.mk z2a z3g z3f z2L z2z z2A z29) (shrO z3r) (shrO z2R)), (Zr (Z8.mk z2a z3g z3f z2L z2z z2A z29) z3r z2R)] ?_
 exact zr ((.p (.agg (ZE (Z8.mk z2a z3g z3f z2L z2z z2A z29) .sh .sh))), [(Zi (Zk.mk zl zp z6 zd zh (Zj.mk z1 z2)) zn zb), (Zr b1 zB zy), (Zr (Z8.mk z2a z3g z3f z2L z2z z2A z29) (shrO z3r) (shrO z2R)), (Zr (Z8.mk z2a z3g z3f z2L z2z z2A z29) z3r z2R)]) ⟨_, rfl⟩
def Z2D (zl : List Int) (zp z1 z2 z2a z3g z3f z2L z2z : Int) (z2A : List Z7) (z29 : List Z8) : Option (Z8 × Int × Int × Int) :=
 (Z17 (ByteArray.mk #[63]) zl zp).bind fun r1 =>
 if (r1.1) = true then
 (Z3a r1.2 z1 z2 z2a z3g z3f 1 z2z z2A z29)
 else
 ((Z17 (ByteArray.mk #[43]) zl r1.2).bind fun r2 =>
 if (r2.1) = true then
 (Z3a r2.2 z1 z2 z2a z3g z3f 2 z2z z2A z29)
 else
 (Z3a r2.2 z1 z2 z2a z3g z3f z2L z2z z2A z29))
theorem Z6P zl zp z6 zd zh z1 z2 b1 b2 z2a z3g z3f z2L z2z z2A z29 zn zb zB zy z1U z1F z3r z2R (zu : ZF zb = true) (z9u : ZF z1U = true) (z84 : ZF z1F = true) (z9v : ZF z3r = true) (z85 : ZF z2R = true) : Sim (Z2U zl z6 zd zh zn zb) (Z2D zl zp z1 z2 z2a z3g z3f z2L z2z z2A z29) (Zg1 1 (.ptr 0 0) (.ptr 2 0) (.ptr 3 0) [(Zi (Zk.mk zl zp z6 zd zh (Zj.mk z1 z2)) zn zb), (Zr b1 zB zy), (Zr b2 z1U z1F), (Zr (Z8.mk z2a z3g z3f z2L z2z z2A z29) z3r z2R)]) := by
 unfold Z2D
 refine zf (Zmv ..)<|ze<|zi fun r1 hr1 => ?_
 obtain ⟨qr1, er1, exr1, rfl⟩ := Z1d (ByteArray.mk #[63]) zl zp z6 zd zh z1 z2 zn zb zu r1 hr1
 refine zc [0] (bv r1.1) [(Zi (Zk.mk zl r1.2 z6 zd zh (Zj.mk z1 z2)) zn zb), (Zr b1 zB zy), (Zr b2 z1U z1F), (Zr (Z8.mk z2a z3g z3f z2L z2z z2A z29) z3r z2R)] er1 ?_
 refine za r1.1 ?_ ?_
 ·refine ze<|zq<|zt [(Zi (Zk.mk zl r1.2 z6 zd zh (Zj.mk z1 z2)) zn zb), (Zr b1 zB zy), (Zr b2 z1U z1F), (Zr (Z8.mk z2a z3g z3f 1 z2z z2A z29) z3r z2R)] ?_
  exact zk (Z5d zl r1.2 z6 zd zh z1 z2 b1 b2 z2a z3g z3f 1 z2z z2A z29 zn zb zB zy z1U z1F z3r z2R zu z9u z84 z9v z85)
 ·refine ze<|zi fun r2 hr2 => ?_
  obtain ⟨qr2, er2, exr2, rfl⟩ := Z1d (ByteArray.mk #[43]) zl r1.2 z6 zd zh z1 z2 zn zb zu r2 hr2
  refine zc [0] (bv r2.1) [(Zi (Zk.mk zl r2.2 z6 zd zh (Zj.mk z1 z2)) zn zb), (Zr b1 zB zy), (Zr b2 z1U z1F), (Zr (Z8.mk z2a z3g z3f z2L z2z z2A z29) z3r z2R)] er2 ?_
  refine za r2.1 ?_ ?_
  ·refine ze<|zq<|zt [(Zi (Zk.mk zl r2.2 z6 zd zh (Zj.mk z1 z2)) zn zb), (Zr b1 zB zy), (Zr b2 z1U z1F), (Zr (Z8.mk z2a z3g z3f 2 z2z z2A z29) z3r z2R)] ?_
   exact zk (Z5d zl r2.2 z6 zd zh z1 z2 b1 b2 z2a z3g z3f 2 z2z z2A z29 zn zb zB zy z1U z1F z3r z2R zu z9u z84 z9v z85)
  ·exact zk (Z5d zl r2.2 z6 zd zh z1 z2 b1 b2 z2a z3g z3f z2L z2z z2A z29 zn zb zB zy z1U z1F z3r z2R zu z9u z84 z9v z85)
def Z23 (x2 : Bool) (x7 : Int) (zl : List Int) (zp z1 z2 z2a z3g z3f z2L z2z : Int) (z2A : List Z7) (z29 : List Z8) : Option (Z8 × Int × Int × Int) :=
 if (!x2) = true then
 ((ZT 23 x7 zl z1 z2).bind fun r1 =>
 Z2D zl r1.1 r1.2.1 r1.2.2 z2a z3g z3f z2L z2z z2A z29)
 else
 (Z2D zl zp z1 z2 z2a z3g z3f z2L z2z z2A z29)
theorem Z43 x2 x7 zl zp z6 zd zh z1 z2 b1 b2 z2a z3g z3f z2L z2z z2A z29 zn zb zB zy z1U z1F z3r z2R (zu : ZF zb = true) (z9u : ZF z1U = true) (z84 : ZF z1F = true) (z9v : ZF z3r = true) (z85 : ZF z2R = true) : Sim (Z2U zl z6 zd zh zn zb) (Z23 x2 x7 zl zp z1 z2 z2a z3g z3f z2L z2z z2A z29) (Zc5 1 (.ptr 0 0) (bv x2) (.ptr 2 0) (iv x7) (.ptr 3 0) [(Zi (Zk.mk zl zp z6 zd zh (Zj.mk z1 z2)) zn zb), (Zr b1 zB zy), (Zr b2 z1U z1F), (Zr (Z8.mk z2a z3g z3f z2L z2z z2A z29) z3r z2R)]) := by
 unfold Z23
 refine zf (Zmu ..)<|ze<|zq ?_
 refine za (!x2) ?_ ?_
 ·refine ze<|zi fun r1 hr1 => ?_
  obtain ⟨qr1, er1, exr1, rfl⟩ := ZW 23 x7 zl zp z6 zd zh z1 z2 zn zb zu r1 hr1
  refine zc [0] (.p (.tup [])) [(Zi (Zk.mk zl r1.1 z6 zd zh (Zj.mk r1.2.1 r1.2.2)) zn zb), (Zr b1 zB zy), (Zr b2 z1U z1F), (Zr (Z8.mk z2a z3g z3f z2L z2z z2A z29) z3r z2R)] er1 ?_
  exact zk (Z6P zl r1.1 z6 zd zh r1.2.1 r1.2.2 b1 b2 z2a z3g z3f z2L z2z z2A z29 zn zb zB zy z1U z1F z3r z2R zu z9u z84 z9v z85)
 ·exact zk (Z6P zl zp z6 zd zh z1 z2 b1 b2 z2a z3g z3f z2L z2z z2A z29 zn zb zB zy z1U z1F z3r z2R zu z9u z84 z9v z85)
def Z3T (x1 : Z8) (x2 : Bool) (zl : List Int) (zp z6 zd : Int) (zh : List Zq) (z1 z2 : Int) : Option (Z8 × Int × Int × Int) :=
 (Z17 (ByteArray.mk #[42]) zl zp).bind fun r1 =>
 if (r1.1) = true then
 (Z23 x2 zp zl r1.2 z1 z2 4 0 (-1) 0 0 ([] : List Z7) ([x1] : List Z8))
 else
 ((Z17 (ByteArray.mk #[43]) zl r1.2).bind fun r2 =>
 if (r2.1) = true then
 (Z23 x2 zp zl r2.2 z1 z2 4 1 (-1) 0 0 ([] : List Z7) ([x1] : List Z8))
 else
 ((Z17 (ByteArray.mk #[63]) zl r2.2).bind fun r3 =>
 if (r3.1) = true then
 (Z23 x2 zp zl r3.2 z1 z2 4 0 1 0 0 ([] : List Z7) ([x1] : List Z8))
 else
 ((Z17 (ByteArray.mk #[123]) zl r3.2).bind fun r4 =>
 if (r4.1) = true then
 ((Z4M zp zl r4.2 z6 zd zh z1 z2).bind fun r5 =>
 Z23 x2 zp zl r5.2.2.1 r5.2.2.2.1 r5.2.2.2.2 4 r5.1 r5.2.1 0 0 ([] : List Z7) ([x1] : List Z8))
 else
 (some (x1, r4.2, z1, z2)))))
theorem ZbW x1 x2 zl zp z6 zd zh z1 z2 z2k z1Z zn zb (zu : ZF zb = true) : Sim (Z2U zl z6 zd zh zn zb) (Z3T x1 x2 zl zp z6 zd zh z1 z2) (EE 43 [(.ptr 0 0), (.p (.agg (ZE x1 z2k z1Z))), (bv x2)] [(Zi (Zk.mk zl zp z6 zd zh (Zj.mk z1 z2)) zn zb)]) := by
 unfold Z3T
 refine zf (ZrM ..)<|ze<|zx (.ptr 1 0) [(Zi (Zk.mk zl zp z6 zd zh (Zj.mk z1 z2)) zn zb), (Zr x1 z2k z1Z)]<|zz (.ptr 2 0) [(Zi (Zk.mk zl zp z6 zd zh (Zj.mk z1 z2)) zn zb), (Zr x1 z2k z1Z), (Zr (Z8.mk 0 0 0 0 0 ([] : List Z7) ([] : List Z8)) .nl .nl)]<|ze<|zq<|zq<|zq<|ze<|zq ?_
 refine zo (.p (.lst .ex (([x1] : List Z8).map ZX))) ?_ (Eq.trans (b := some (.p (.lst .ex [.agg (Z3i x1)]))) (by kernel_rfl) (by simp only [List.map_cons, List.map_nil, Z3y]))
 refine zq<|zz (.ptr 3 0) [(Zi (Zk.mk zl zp z6 zd zh (Zj.mk z1 z2)) zn zb), (Zr x1 z2k z1Z), (Zr (Z8.mk 0 0 0 0 0 ([] : List Z7) ([] : List Z8)) .nl .nl), (Zr (Z8.mk 0 0 0 0 0 ([] : List Z7) ([] : List Z8)) .nl .nl)]<|zt [(Zi (Zk.mk zl zp z6 zd zh (Zj.mk z1 z2)) zn zb), (Zr x1 z2k z1Z), (Zr (Z8.mk 0 0 0 0 0 ([] : List Z7) ([] : List Z8)) .nl .nl), (Zr (Z8.mk 4 0 (-1) 0 0 ([] : List Z7) ([x1] : List Z8)) .nl .ex)]<|ze<|zi fun r1 hr1 => ?_
 obtain ⟨qr1, er1, exr1, rfl⟩ := Z1d (ByteArray.mk #[42]) zl zp z6 zd zh z1 z2 zn zb zu r1 hr1
 refine zc [0] (bv r1.1) [(Zi (Zk.mk zl r1.2 z6 zd zh (Zj.mk z1 z2)) zn zb), (Zr x1 z2k z1Z), (Zr (Z8.mk 0 0 0 0 0 ([] : List Z7) ([] : List Z8)) .nl .nl), (Zr (Z8.mk 4 0 (-1) 0 0 ([] : List Z7) ([x1] : List Z8)) .nl .ex)] er1 ?_
 refine za r1.1 ?_ ?_
 ·exact zk (Z43 x2 zp zl r1.2 z6 zd zh z1 z2 x1 (Z8.mk 0 0 0 0 0 ([] : List Z7) ([] : List Z8)) 4 0 (-1) 0 0 ([] : List Z7) ([x1] : List Z8) zn zb z2k z1Z .nl .nl .nl .ex zu rfl rfl rfl rfl)
 ·refine ze<|zi fun r2 hr2 => ?_
  obtain ⟨qr2, er2, exr2, rfl⟩ := Z1d (ByteArray.mk #[43]) zl r1.2 z6 zd zh z1 z2 zn zb zu r2 hr2
  refine zc [0] (bv r2.1) [(Zi (Zk.mk zl r2.2 z6 zd zh (Zj.mk z1 z2)) zn zb), (Zr x1 z2k z1Z), (Zr (Z8.mk 0 0 0 0 0 ([] : List Z7) ([] : List Z8)) .nl .nl), (Zr (Z8.mk 4 0 (-1) 0 0 ([] : List Z7) ([x1] : List Z8)) .nl .ex)] er2 ?_
  refine za r2.1 ?_ ?_
  ·refine ze<|zq<|zt [(Zi (Zk.mk zl r2.2 z6 zd zh (Zj.mk z1 z2)) zn zb), (Zr x1 z2k z1Z), (Zr (Z8.mk 0 0 0 0 0 ([] : List Z7) ([] : List Z8)) .nl .nl), (Zr (Z8.mk 4 1 (-1) 0 0 ([] : List Z7) ([x1] : List Z8)) .nl .ex)] ?_
   exact zk (Z43 x2 zp zl r2.2 z6 zd zh z1 z2 x1 (Z8.mk 0 0 0 0 0 ([] : List Z7) ([] : List Z8)) 4 1 (-1) 0 0 ([] : List Z7) ([x1] : List Z8) zn zb z2k z1Z .nl .nl .nl .ex zu rfl rfl rfl rfl)
  ·refine ze<|zi fun r3 hr3 => ?_
   obtain ⟨qr3, er3, exr3, rfl⟩ := Z1d (ByteArray.mk #[63]) zl r2.2 z6 zd zh z1 z2 zn zb zu r3 hr3
   refine zc [0] (bv r3.1) [(Zi (Zk.mk zl r3.2 z6 zd zh (Zj.mk z1 z2)) zn zb), (Zr x1 z2k z1Z), (Zr (Z8.mk 0 0 0 0 0 ([] : List Z7) ([] : List Z8)) .nl .nl), (Zr (Z8.mk 4 0 (-1) 0 0 ([] : List Z7) ([x1] : List Z8)) .nl .ex)] er3 ?_
   refine za r3.1 ?_ ?_
   ·refine ze<|zq<|zt [(Zi (Zk.mk zl r3.2 z6 zd zh (Zj.mk z1 z2)) zn zb), (Zr x1 z2k z1Z), (Zr (Z8.mk 0 0 0 0 0 ([] : List Z7) ([] : List Z8)) .nl .nl), (Zr (Z8.mk 4 0 1 0 0 ([] : List Z7) ([x1] : List Z8)) .nl .ex)] ?_
    exact zk (Z43 x2 zp zl r3.2 z6 zd zh z1 z2 x1 (Z8.mk 0 0 0 0 0 ([] : List Z7) ([] : List Z8)) 4 0 1 0 0 ([] : List Z7) ([x1] : List Z8) zn zb z2k z1Z .nl .nl .nl .ex zu rfl rfl rfl rfl)
   ·refine ze<|zi fun r4 hr4 => ?_
    obtain ⟨qr4, er4, exr4, rfl⟩ := Z1d (ByteArray.mk #[123]) zl r3.2 z6 zd zh z1 z2 zn zb zu r4 hr4
    refine zc [0] (bv r4.1) [(Zi (Zk.mk zl r4.2 z6 zd zh (Zj.mk z1 z2)) zn zb), (Zr x1 z2k z1Z), (Zr (Z8.mk 0 0 0 0 0 ([] : List Z7) ([] : List Z8)) .nl .nl), (Zr (Z8.mk 4 0 (-1) 0 0 ([] : List Z7) ([x1] : List Z8)) .nl .ex)] er4 ?_
    refine za r4.1 ?_ ?_
    ·refine ze<|zi fun r5 hr5 => ?_
     obtain ⟨qr5, er5, exr5, rfl⟩ := Zck zp zl r4.2 z6 zd zh z1 z2 zn zb zu r5 hr5
     refine zc [0] (.p (.tup [(.v (.int .i64 r5.1)), (.v (.int .i64 r5.2.1))])) [(Zi (Zk.mk zl r5.2.2.1 z6 zd zh (Zj.mk r5.2.2.2.1 r5.2.2.2.2)) zn zb), (Zr x1 z2k z1Z), (Zr (Z8.mk 0 0 0 0 0 ([] : List Z7) ([] : List Z8)) .nl .nl), (Zr (Z8.mk 4 0 (-1) 0 0 ([] : List Z7) ([x1] : List Z8)) .nl .ex)] er5<|zq<|zq<|zq<|zt [(Zi (Zk.mk zl r5.2.2.1 z6 zd zh (Zj.mk r5.2.2.2.1 r5.2.2.2.2)) zn zb), (Zr x1 z2k z1Z), (Zr (Z8.mk 0 0 0 0 0 ([] : List Z7) ([] : List Z8)) .nl .nl), (Zr (Z8.mk 4 r5.1 (-1) 0 0 ([] : List Z7) ([x1] : List Z8)) .nl .ex)]<|zq<|zt [(Zi (Zk.mk zl r5.2.2.1 z6 zd zh (Zj.mk r5.2.2.2.1 r5.2.2.2.2)) zn zb), (Zr x1 z2k z1Z), (Zr (Z8.mk 0 0 0 0 0 ([] : List Z7) ([] : List Z8)) .nl .nl), (Zr (Z8.mk 4 r5.1 r5.2.1 0 0 ([] : List Z7) ([x1] : List Z8)) .nl .ex)] ?_
     exact zk (Z43 x2 zp zl r5.2.2.1 z6 zd zh r5.2.2.2.1 r5.2.2.2.2 x1 (Z8.mk 0 0 0 0 0 ([] : List Z7) ([] : List Z8)) 4 r5.1 r5.2.1 0 0 ([] : List Z7) ([x1] : List Z8) zn zb z2k z1Z .nl .nl .nl .ex zu rfl rfl rfl rfl)
    ·refine ze<|zq<|zt [(Zi (Zk.mk zl r4.2 z6 zd zh (Zj.mk z1 z2)) zn zb), (Zr x1 z2k z1Z), (Zr x1 (shrO z2k) (shrO z1Z)), (Zr (Z8.mk 4 0 (-1) 0 0 ([] : List Z7) ([x1] : List Z8)) .nl .ex)] ?_
     exact zr ((.p (.agg (ZE x1 .sh .sh))), [(Zi (Zk.mk zl r4.2 z6 zd zh (Zj.mk z1 z2)) zn zb), (Zr x1 z2k z1Z), (Zr x1 (shrO z2k) (shrO z1Z)), (Zr (Z8.mk 4 0 (-1) 0 0 ([] : List Z7) ([x1] : List Z8)) .nl .ex)]) ⟨_, rfl⟩
theorem Z7Z (x1 : Z8) (x2 : Bool) (zl : List Int) (zp z6 zd : Int) (zh : List Zq) (z1 z2 : Int) {r} (h : Z3T x1 x2 zl zp z6 zd zh z1 z2 = some r) : Z4N x1 x2 zl zp z6 zd zh z1 z2 = some r :=
 Z1e (fun _ _ ha hb => RRun.uniq (ZcE _ _ _ _ _ _) (ha .ex .ex .ex .ex rfl) (hb .ex .ex .ex .ex rfl)) (fun z2k z1Z zn zb zu => ZbW x1 x2 zl zp z6 zd zh z1 z2 z2k z1Z zn zb zu r h)
def Z6h (x4 zp z1 z2 : Int) : Option (Int × Int × Int × Int × Int) :=
 some (x4, (-1), zp, z1, z2)
theorem Zav x4 zl zp z6 zd zh z1 z2 zn zb (zu : ZF zb = true) : Sim (Z21 zl z6 zd zh zn zb) (Z6h x4 zp z1 z2) (ZjV 1 (iv x4) [(Zi (Zk.mk zl zp z6 zd zh (Zj.mk z1 z2)) zn zb)]) := by
 unfold Z6h
 refine zf (Zo9 ..)<|ze ?_
 exact zr ((.p (.tup [(.v (.int .i64 x4)), (.v (.int .i64 (-1)))])), [(Zi (Zk.mk zl zp z6 zd zh (Zj.mk z1 z2)) zn zb)]) ⟨_, rfl⟩
def Z4P (x4 x5 zp z1 z2 : Int) : Option (Int × Int × Int × Int × Int) :=
 some (x4, x5, zp, z1, z2)
theorem Z6N x4 x5 zl zp z6 zd zh z1 z2 zn zb (zu : ZF zb = true) : Sim (Z21 zl z6 zd zh zn zb) (Z4P x4 x5 zp z1 z2) (Zg6 1 (iv x4) (iv x5) [(Zi (Zk.mk zl zp z6 zd zh (Zj.mk z1 z2)) zn zb)]) := by
 unfold Z4P
 refine zf (ZmN ..)<|ze ?_
 exact zr ((.p (.tup [(.v (.int .i64 x4)), (.v (.int .i64 x5))])), [(Zi (Zk.mk zl zp z6 zd zh (Zj.mk z1 z2)) zn zb)]) ⟨_, rfl⟩
def Z2g (x1 x4 x5 : Int) (zl : List Int) (z1 z2 : Int) : Option (Int × Int × Int × Int × Int) :=
 (ZT 23 x1 zl z1 z2).bind fun r1 =>
 Z4P x4 x5 r1.1 r1.2.1 r1.2.2
theorem Z42 x1 x4 x5 zl zp z6 zd zh z1 z2 zn zb (zu : ZF zb = true) : Sim (Z21 zl z6 zd zh zn zb) (Z2g x1 x4 x5 zl z1 z2) (Zc9 1 (.ptr 0 0) (iv x1) (iv x4) (iv x5) [(Zi (Zk.mk zl zp z6 zd zh (Zj.mk z1 z2)) zn zb)]) := by
 unfold Z2g
 refine zf (ZmM ..)<|ze<|zi fun r1 hr1 => ?_
 obtain ⟨qr1, er1, exr1, rfl⟩ := ZW 23 x1 zl zp z6 zd zh z1 z2 zn zb zu r1 hr1
 refine zc [0] (.p (.tup [])) [(Zi (Zk.mk zl r1.1 z6 zd zh (Zj.mk r1.2.1 r1.2.2)) zn zb)] er1 ?_
 exact zk (Z6N x4 x5 zl r1.1 z6 zd zh r1.2.1 r1.2.2 zn zb zu)
def Z25 (x1 x4 x5 : Int) (zl : List Int) (zp z1 z2 : Int) : Option (Int × Int × Int × Int × Int) :=
 if (decide (x4 < 0)) = true then
 (Z2g x1 x4 x5 zl z1 z2)
 else
 (if (decide (x5 < x4)) = true then
 (Z2g x1 x4 x5 zl z1 z2)
 else
 (if (decide (64 < x5)) = true then
 (Z2g x1 x4 x5 zl z1 z2)
 else
 ((Z17 (ByteArray.mk #[125]) zl zp).bind fun r1 =>
 if (!r1.1) = true then
 (Z2g x1 x4 x5 zl z1 z2)
 else
 (Z4P x4 x5 r1.2 z1 z2))))
theorem Z4g x1 x4 x5 zl zp z6 zd zh z1 z2 zn zb (zu : ZF zb = true) : Sim (Z21 zl z6 zd zh zn zb) (Z25 x1 x4 x5 zl zp z1 z2) (ZdM 1 (.ptr 0 0) (iv x1) (iv x4) (iv x5) [(Zi (Zk.mk zl zp z6 zd zh (Zj.mk z1 z2)) zn zb)]) := by
 unfold Z25
 refine zf (Zob ..)<|ze<|zq ?_
 refine za (decide (x4 < 0)) ?_ ?_
 ·exact zk (Z42 x1 x4 x5 zl zp z6 zd zh z1 z2 zn zb zu)
 ·refine zq ?_
  refine za (decide (x5 < x4)) ?_ ?_
  ·exact zk (Z42 x1 x4 x5 zl zp z6 zd zh z1 z2 zn zb zu)
  ·refine zq ?_
   refine za (decide (64 < x5)) ?_ ?_
   ·exact zk (Z42 x1 x4 x5 zl zp z6 zd zh z1 z2 zn zb zu)
   ·refine zi fun r1 hr1 => ?_
    obtain ⟨qr1, er1, exr1, rfl⟩ := Z1d (ByteArray.mk #[125]) zl zp z6 zd zh z1 z2 zn zb zu r1 hr1
    refine zc [0] (bv r1.1) [(Zi (Zk.mk zl r1.2 z6 zd zh (Zj.mk z1 z2)) zn zb)] er1<|zq ?_
    refine za (!r1.1) ?_ ?_
    ·exact zk (Z42 x1 x4 x5 zl r1.2 z6 zd zh z1 z2 zn zb zu)
    ·exact zk (Z6N x4 x5 zl r1.2 z6 zd zh z1 z2 zn zb zu)
def Z3m (x1 x4 : Int) (zl : List Int) (zp z1 z2 : Int) : Option (Int × Int × Int × Int × Int) :=
 Z25 x1 x4 (-2) zl zp z1 z2
theorem Z79 x1 x4 zl zp z6 zd zh z1 z2 zn zb (zu : ZF zb = true) : Sim (Z21 zl z6 zd zh zn zb) (Z3m x1 x4 zl zp z1 z2) (Zhv 1 (.ptr 0 0) (iv x1) (iv x4) [(Zi (Zk.mk zl zp z6 zd zh (Zj.mk z1 z2)) zn zb)]) := by
 unfold Z3m
 refine zf (Zoa ..)<|ze ?_
 exact zk (Z4g x1 x4 (-2) zl zp z6 zd zh z1 z2 zn zb zu)
def Z4Z (x1 x4 : Int) (zl : List Int) (zp z1 z2 : Int) : Option (Int × Int × Int × Int × Int) :=
 (Z17 (ByteArray.mk #[125]) zl zp).bind fun r1 =>
 if (r1.1) = true then
 (if (decide (x4 ≤ 64)) = true then
 (Z6h x4 r1.2 z1 z2)
 else
 (Z3m x1 x4 zl r1.2 z1 z2))
 else
 (Z3m x1 x4 zl r1.2 z1 z2)
theorem Zau x1 x4 zl zp z6 zd zh z1 z2 zn zb (zu : ZF zb = true) : Sim (Z21 zl z6 zd zh zn zb) (Z4Z x1 x4 zl zp z1 z2) (ZjU 1 (.ptr 0 0) (iv x1) (iv x4) [(Zi (Zk.mk zl zp z6 zd zh (Zj.mk z1 z2)) zn zb)]) := by
 unfold Z4Z
 refine zf (Zo8 ..)<|ze<|zi fun r1 hr1 => ?_
 obtain ⟨qr1, er1, exr1, rfl⟩ := Z1d (ByteArray.mk #[125]) zl zp z6 zd zh z1 z2 zn zb zu r1 hr1
 refine zc [0] (bv r1.1) [(Zi (Zk.mk zl r1.2 z6 zd zh (Zj.mk z1 z2)) zn zb)] er1 ?_
 refine za r1.1 ?_ ?_
 ·refine zq ?_
  refine za (decide (x4 ≤ 64)) ?_ ?_
  ·exact zk (Zav x4 zl r1.2 z6 zd zh z1 z2 zn zb zu)
  ·exact zk (Z79 x1 x4 zl r1.2 z6 zd zh z1 z2 zn zb zu)
 ·exact zk (Z79 x1 x4 zl r1.2 z6 zd zh z1 z2 zn zb zu)
def Z4H (x1 : Int) (zl : List Int) (zp z6 zd : Int) (zh : List Zq) (z1 z2 : Int) : Option (Int × Int × Int × Int × Int) :=
 (Z3X zl zp z6 zd zh z1 z2).bind fun r1 =>
 (Z17 (ByteArray.mk #[44]) zl r1.2).bind fun r2 =>
 if (r2.1) = true then
 ((Z3X zl r2.2 z6 zd zh z1 z2).bind fun r3 =>
 if (decide (r3.1 < 0)) = true then
 (if (decide (0 ≤ r1.1)) = true then
 (Z4Z x1 r1.1 zl r3.2 z1 z2)
 else
 (Z25 x1 r1.1 r3.1 zl r3.2 z1 z2))
 else
 (Z25 x1 r1.1 r3.1 zl r3.2 z1 z2))
 else
 (Z25 x1 r1.1 r1.1 zl r2.2 z1 z2)
theorem ZbS x1 zl zp z6 zd zh z1 z2 zn zb (zu : ZF zb = true) : Sim (Z21 zl z6 zd zh zn zb) (Z4H x1 zl zp z6 zd zh z1 z2) (EE 52 [(.ptr 0 0), (iv x1)] [(Zi (Zk.mk zl zp z6 zd zh (Zj.mk z1 z2)) zn zb)]) := by
 unfold Z4H
 refine zf (Zs4 ..)<|ze<|ze<|zi fun r1 hr1 => ?_
 obtain ⟨qr1, er1, exr1, rfl⟩ := Z7Y zl zp z6 zd zh z1 z2 zn zb zu r1 hr1
 refine zc [0] (iv r1.1) [(Zi (Zk.mk zl r1.2 z6 zd zh (Zj.mk z1 z2)) zn zb)] er1<|ze<|ze<|zi fun r2 hr2 => ?_
 obtain ⟨qr2, er2, exr2, rfl⟩ := Z1d (ByteArray.mk #[44]) zl r1.2 z6 zd zh z1 z2 zn zb zu r2 hr2
 refine zc [0] (bv r2.1) [(Zi (Zk.mk zl r2.2 z6 zd zh (Zj.mk z1 z2)) zn zb)] er2 ?_
 refine za r2.1 ?_ ?_
 ·refine ze<|zi fun r3 hr3 => ?_
  obtain ⟨qr3, er3, exr3, rfl⟩ := Z7Y zl r2.2 z6 zd zh z1 z2 zn zb zu r3 hr3
  refine zc [0] (iv r3.1) [(Zi (Zk.mk zl r3.2 z6 zd zh (Zj.mk z1 z2)) zn zb)] er3<|ze<|zq ?_
  refine za (decide (r3.1 < 0)) ?_ ?_
  ·refine zq ?_
   refine za (decide (0 ≤ r1.1)) ?_ ?_
   ·exact zk (Zau x1 r1.1 zl r3.2 z6 zd zh z1 z2 zn zb zu)
   ·exact zk (Z4g x1 r1.1 r3.1 zl r3.2 z6 zd zh z1 z2 zn zb zu)
  ·exact zk (Z4g x1 r1.1 r3.1 zl r3.2 z6 zd zh z1 z2 zn zb zu)
 ·exact zk (Z4g x1 r1.1 r1.1 zl r2.2 z6 zd zh z1 z2 zn zb zu)
theorem Z7V (x1 : Int) (zl : List Int) (zp z6 zd : Int) (zh : List Zq) (z1 z2 : Int) {r} (h : Z4H x1 zl zp z6 zd zh z1 z2 = some r) : Z4M x1 zl zp z6 zd zh z1 z2 = some r :=
 Z1e (fun _ _ ha hb => RRun.uniq (ZcB _ _ _ _ _ _) (ha .ex .ex rfl) (hb .ex .ex rfl)) (fun zn zb zu => ZbS x1 zl zp z6 zd zh z1 z2 zn zb zu r h)
end Go.Proofs.YtadodmjdkphddaaDoor.N2
end
noncomputable section
set_option linter.unusedSimpArgs false
set_option linter.unusedVariables false
namespace Go.Proofs.YtadodmjdkphddaaDoor.N2
open Go Go.Abs
set_option linter.unusedVariables false
set_option maxRecDepth 100000
def Z71 (zl : List Int) (zp z6 zd : Int) (zh : List Zq) (z1 z2 : Int) : Option (Int × Int) :=
 Z2Q (-1) 0 zl zp z6 zd zh z1 z2
theorem ZbV zl zp z6 zd zh z1 z2 zn zb (zu : ZF zb = true) : Sim (Z2c zl z6 zd zh z1 z2 zn zb) (Z71 zl zp z6 zd zh z1 z2) (EE 63 [(.ptr 0 0)] [(Zi (Zk.mk zl zp z6 zd zh (Zj.mk z1 z2)) zn zb)]) := by
 unfold Z71
 refine zf (Zsn ..)<|ze<|ze<|ze ?_
 exact zk (Z7b (-1) 0 zl zp z6 zd zh z1 z2 zn zb zu)
theorem Zcn (zl : List Int) (zp z6 zd : Int) (zh : List Zq) (z1 z2 : Int) {r} (h : Z71 zl zp z6 zd zh z1 z2 = some r) : Z3X zl zp z6 zd zh z1 z2 = some r :=
 Z1e (fun _ _ ha hb => RRun.uniq (Z8J _ _ _ _ _ _ _ _) (ha .ex .ex rfl) (hb .ex .ex rfl)) (fun zn zb zu => ZbV zl zp z6 zd zh z1 z2 zn zb zu r h)
def Z53 (x3 x4 : Int) (zl : List Int) (zp z6 zd : Int) (zh : List Zq) (z1 z2 : Int) : Option (Int × Int) :=
 (Z2f zl zp).bind fun r1 =>
 Z2Q ((IntKind.i64.wrap ((IntKind.i64.wrap ((IntKind.i64.wrap (10 * (max x3 0))) + r1.1)) - 48))) (IntKind.i64.wrap (x4 + 1)) zl r1.2 z6 zd zh z1 z2
theorem ZaA x3 x4 zl zp z6 zd zh z1 z2 zn zb (zu : ZF zb = true) : Sim (Z2c zl z6 zd zh z1 z2 zn zb) (Z53 x3 x4 zl zp z6 zd zh z1 z2) (Zkb 1 (.ptr 0 0) (iv x3) (iv x4) [(Zi (Zk.mk zl zp z6 zd zh (Zj.mk z1 z2)) zn zb)]) := by
 unfold Z53
 refine zf (Zoo ..)<|ze ?_
 refine zo (iv (max x3 0)) ?_ (Zl6 _ _)
 refine zq<|zi fun r1 hr1 => ?_
 obtain ⟨qr1, er1, exr1, rfl⟩ := Z2H zl zp z6 zd zh z1 z2 zn zb zu r1 hr1
 refine zc [0] (iv r1.1) [(Zi (Zk.mk zl r1.2 z6 zd zh (Zj.mk z1 z2)) zn zb)] er1<|zq<|zq<|ze<|zq ?_
 exact zk (Z7b ((IntKind.i64.wrap ((IntKind.i64.wrap ((IntKind.i64.wrap (10 * (max x3 0))) + r1.1)) - 48))) (IntKind.i64.wrap (x4 + 1)) zl r1.2 z6 zd zh z1 z2 zn zb zu)
def Z3n (x3 zp : Int) : Option (Int × Int) :=
 some (x3, zp)
theorem Z5o x3 zl zp z6 zd zh z1 z2 zn zb (zu : ZF zb = true) : Sim (Z2c zl z6 zd zh z1 z2 zn zb) (Z3n x3 zp) (Zfj 1 (iv x3) [(Zi (Zk.mk zl zp z6 zd zh (Zj.mk z1 z2)) zn zb)]) := by
 unfold Z3n
 refine zf (Zop ..)<|ze ?_
 exact zr ((iv x3), [(Zi (Zk.mk zl zp z6 zd zh (Zj.mk z1 z2)) zn zb)]) ⟨_, rfl⟩
def Z52 (x3 x4 : Int) (zl : List Int) (zp z6 zd : Int) (zh : List Zq) (z1 z2 : Int) : Option (Int × Int) :=
 if (decide (x4 < 2)) = true then
 ((Z1Q (Zk.mk zl zp z6 zd zh (Zj.mk z1 z2))).bind fun r1 =>
 if (decide (48 ≤ r1)) = true then
 ((Z1Q (Zk.mk zl zp z6 zd zh (Zj.mk z1 z2))).bind fun r2 =>
 if (decide (r2 ≤ 57)) = true then
 (Z53 x3 x4 zl zp z6 zd zh z1 z2)
 else
 (Z3n x3 zp))
 else
 (Z3n x3 zp))
 else
 (Z3n x3 zp)
theorem Zaz x3 x4 zl zp z6 zd zh z1 z2 zn zb (zu : ZF zb = true) : Sim (Z2c zl z6 zd zh z1 z2 zn zb) (Z52 x3 x4 zl zp z6 zd zh z1 z2) (ZdO 1 (.ptr 0 0) (iv x3) (iv x4) [(Zi (Zk.mk zl zp z6 zd zh (Zj.mk z1 z2)) zn zb)]) := by
 unfold Z52
 refine zf (Zon ..)<|ze<|zq ?_
 refine za (decide (x4 < 2)) ?_ ?_
 ·refine zi fun r1 hr1 => ?_
  obtain ⟨qr1, er1, exr1, rfl⟩ := Z1V (Zk.mk zl zp z6 zd zh (Zj.mk z1 z2)) zn zb zu r1 hr1
  refine zc [0] (iv r1) [(Zi (Zk.mk zl zp z6 zd zh (Zj.mk z1 z2)) zn zb)] er1<|zq ?_
  refine za (decide (48 ≤ r1)) ?_ ?_
  ·refine zi fun r2 hr2 => ?_
   obtain ⟨qr2, er2, exr2, rfl⟩ := Z1V (Zk.mk zl zp z6 zd zh (Zj.mk z1 z2)) zn zb zu r2 hr2
   refine zc [0] (iv r2) [(Zi (Zk.mk zl zp z6 zd zh (Zj.mk z1 z2)) zn zb)] er2<|zq ?_
   refine za (decide (r2 ≤ 57)) ?_ ?_
   ·exact zk (ZaA x3 x4 zl zp z6 zd zh z1 z2 zn zb zu)
   ·exact zk (Z5o x3 zl zp z6 zd zh z1 z2 zn zb zu)
  ·exact zk (Z5o x3 zl zp z6 zd zh z1 z2 zn zb zu)
 ·exact zk (Z5o x3 zl zp z6 zd zh z1 z2 zn zb zu)
theorem Zb9 (x3 x4 : Int) (zl : List Int) (zp z6 zd : Int) (zh : List Zq) (z1 z2 : Int) {r} (h : Z52 x3 x4 zl zp z6 zd zh z1 z2 = some r) : Z2Q x3 x4 zl zp z6 zd zh z1 z2 = some r :=
 Z1e (fun _ _ ha hb => RRun.uniq (Z8J _ _ _ _ _ _ _ _) (ha .ex .ex rfl) (hb .ex .ex rfl)) (fun zn zb zu => Zaz x3 x4 zl zp z6 zd zh z1 z2 zn zb zu r h)
def Z6T (x0 : Int) : Option (Bool) :=
 if (decide (0 ≤ x0)) = true then
 (if (decide (x0 ≤ 1114111)) = true then
 (if (decide (x0 < 55296)) = true then
 (some (true))
 else
 (some (decide (57343 < x0))))
 else
 (some (false)))
 else
 (some (false))
theorem Ze1 x0 : Sim (Z5W) (Z6T x0) (EE 18 [(iv x0)] []) := by
 unfold Z6T
 refine zf (Zrp ..)<|ze<|ze<|zq ?_
 refine za (decide (0 ≤ x0)) ?_ ?_
 ·refine zq ?_
  refine za (decide (x0 ≤ 1114111)) ?_ ?_
  ·refine zq ?_
   refine za (decide (x0 < 55296)) ?_ ?_
   ·exact zr ((bv true), []) ⟨_, rfl⟩
   ·refine zq ?_
    exact zr ((bv (decide (57343 < x0))), []) ⟨_, rfl⟩
  ·exact zr ((bv false), []) ⟨_, rfl⟩
 ·exact zr ((bv false), []) ⟨_, rfl⟩
theorem ZeG (x0 : Int) {r} (h : Z6T x0 = some r) : Z6V x0 = some r :=
 Z1e (fun _ _ ha hb => RRun.uniq Zf8 (ha ) (hb )) (Ze1 x0 r h)
def Z7h (x0 : Int) : Option (List Int) :=
 some (([(IntKind.u8.wrap (IntKind.i64.wrap (240 + (IntKind.i64.wrap (Int.tdiv x0 262144))))), (IntKind.u8.wrap (IntKind.i64.wrap (128 + (Int.tmod (IntKind.i64.wrap (Int.tdiv x0 4096)) 64)))), (IntKind.u8.wrap (IntKind.i64.wrap (128 + (Int.tmod (IntKind.i64.wrap (Int.tdiv x0 64)) 64)))), (IntKind.u8.wrap (IntKind.i64.wrap (128 + (Int.tmod x0 64))))] : List Int))
theorem ZeF x0 : Sim (Z5c) (Z7h x0) (Zjv 0 (iv x0) []) := by
 unfold Z7h
 refine zf (ZnE ..)<|ze ?_
 refine zo (iv (IntKind.i64.wrap (Int.tdiv x0 262144))) ?_ (Eq.trans (by kernel_rfl) (Zgi (P := PP) (t := 3) (k := .i64) (a := x0) (b := 262144) (by decide)))
 refine zq<|zq ?_
 refine zo (iv (IntKind.i64.wrap (Int.tdiv x0 4096))) ?_ (Eq.trans (by kernel_rfl) (Zgi (P := PP) (t := 3) (k := .i64) (a := x0) (b := 4096) (by decide)))
 refine zo (iv (Int.tmod (IntKind.i64.wrap (Int.tdiv x0 4096)) 64)) ?_ (Eq.trans (by kernel_rfl) (Zgj (P := PP) (t := 3) (k := .i64) (a := (IntKind.i64.wrap (Int.tdiv x0 4096))) (b := 64) (by decide)))
 refine zq<|zq ?_
 refine zo (iv (IntKind.i64.wrap (Int.tdiv x0 64))) ?_ (Eq.trans (by kernel_rfl) (Zgi (P := PP) (t := 3) (k := .i64) (a := x0) (b := 64) (by decide)))
 refine zo (iv (Int.tmod (IntKind.i64.wrap (Int.tdiv x0 64)) 64)) ?_ (Eq.trans (by kernel_rfl) (Zgj (P := PP) (t := 3) (k := .i64) (a := (IntKind.i64.wrap (Int.tdiv x0 64))) (b := 64) (by decide)))
 refine zq<|zq ?_
 refine zo (iv (Int.tmod x0 64)) ?_ (Eq.trans (by kernel_rfl) (Zgj (P := PP) (t := 3) (k := .i64) (a := x0) (b := 64) (by decide)))
 refine zq<|zq<|zq ?_
 exact zr ((.p (.lst .sh (([(IntKind.u8.wrap (IntKind.i64.wrap (240 + (IntKind.i64.wrap (Int.tdiv x0 262144))))), (IntKind.u8.wrap (IntKind.i64.wrap (128 + (Int.tmod (IntKind.i64.wrap (Int.tdiv x0 4096)) 64)))), (IntKind.u8.wrap (IntKind.i64.wrap (128 + (Int.tmod (IntKind.i64.wrap (Int.tdiv x0 64)) 64)))), (IntKind.u8.wrap (IntKind.i64.wrap (128 + (Int.tmod x0 64))))] : List Int).map (eI .u8)))), []) ⟨_, rfl⟩
def Z7g (x0 : Int) : Option (List Int) :=
 if (decide (x0 < 65536)) = true then
 (some (([(IntKind.u8.wrap (IntKind.i64.wrap (224 + (IntKind.i64.wrap (Int.tdiv x0 4096))))), (IntKind.u8.wrap (IntKind.i64.wrap (128 + (Int.tmod (IntKind.i64.wrap (Int.tdiv x0 64)) 64)))), (IntKind.u8.wrap (IntKind.i64.wrap (128 + (Int.tmod x0 64))))] : List Int)))
 else
 (Z7h x0)
theorem ZeE x0 : Sim (Z5c) (Z7g x0) (Zju 0 (iv x0) []) := by
 unfold Z7g
 refine zf (ZnD ..)<|ze<|zq ?_
 refine za (decide (x0 < 65536)) ?_ ?_
 ·refine ze ?_
  refine zo (iv (IntKind.i64.wrap (Int.tdiv x0 4096))) ?_ (Eq.trans (by kernel_rfl) (Zgi (P := PP) (t := 3) (k := .i64) (a := x0) (b := 4096) (by decide)))
  refine zq<|zq ?_
  refine zo (iv (IntKind.i64.wrap (Int.tdiv x0 64))) ?_ (Eq.trans (by kernel_rfl) (Zgi (P := PP) (t := 3) (k := .i64) (a := x0) (b := 64) (by decide)))
  refine zo (iv (Int.tmod (IntKind.i64.wrap (Int.tdiv x0 64)) 64)) ?_ (Eq.trans (by kernel_rfl) (Zgj (P := PP) (t := 3) (k := .i64) (a := (IntKind.i64.wrap (Int.tdiv x0 64))) (b := 64) (by decide)))
  refine zq<|zq ?_
  refine zo (iv (Int.tmod x0 64)) ?_ (Eq.trans (by kernel_rfl) (Zgj (P := PP) (t := 3) (k := .i64) (a := x0) (b := 64) (by decide)))
  refine zq<|zq<|zq ?_
  exact zr ((.p (.lst .sh (([(IntKind.u8.wrap (IntKind.i64.wrap (224 + (IntKind.i64.wrap (Int.tdiv x0 4096))))), (IntKind.u8.wrap (IntKind.i64.wrap (128 + (Int.tmod (IntKind.i64.wrap (Int.tdiv x0 64)) 64)))), (IntKind.u8.wrap (IntKind.i64.wrap (128 + (Int.tmod x0 64))))] : List Int).map (eI .u8)))), []) ⟨_, rfl⟩
 ·exact zk (ZeF x0)
def Z7f (x0 : Int) : Option (List Int) :=
 if (decide (x0 < 2048)) = true then
 (some (([(IntKind.u8.wrap (IntKind.i64.wrap (192 + (IntKind.i64.wrap (Int.tdiv x0 64))))), (IntKind.u8.wrap (IntKind.i64.wrap (128 + (Int.tmod x0 64))))] : List Int)))
 else
 (Z7g x0)
theorem ZeD x0 : Sim (Z5c) (Z7f x0) (Zjt 0 (iv x0) []) := by
 unfold Z7f
 refine zf (ZnC ..)<|ze<|zq ?_
 refine za (decide (x0 < 2048)) ?_ ?_
 ·refine ze ?_
  refine zo (iv (IntKind.i64.wrap (Int.tdiv x0 64))) ?_ (Eq.trans (by kernel_rfl) (Zgi (P := PP) (t := 3) (k := .i64) (a := x0) (b := 64) (by decide)))
  refine zq<|zq ?_
  refine zo (iv (Int.tmod x0 64)) ?_ (Eq.trans (by kernel_rfl) (Zgj (P := PP) (t := 3) (k := .i64) (a := x0) (b := 64) (by decide)))
  refine zq<|zq<|zq ?_
  exact zr ((.p (.lst .sh (([(IntKind.u8.wrap (IntKind.i64.wrap (192 + (IntKind.i64.wrap (Int.tdiv x0 64))))), (IntKind.u8.wrap (IntKind.i64.wrap (128 + (Int.tmod x0 64))))] : List Int).map (eI .u8)))), []) ⟨_, rfl⟩
 ·exact zk (ZeE x0)
def Z9f (x0 : Int) : Option (List Int) :=
 if (decide (x0 < 128)) = true then
 (some ([(IntKind.u8.wrap x0)] : List Int))
 else
 (Z7f x0)
theorem Zgu x0 : Sim (Z5c) (Z9f x0) (EE 20 [(iv x0)] []) := by
 unfold Z9f
 refine zf (Zrr ..)<|ze<|ze<|zq ?_
 refine za (decide (x0 < 128)) ?_ ?_
 ·refine ze<|zq<|zq ?_
  exact zr ((.p (.lst .sh (([(IntKind.u8.wrap x0)] : List Int).map (eI .u8)))), []) ⟨_, rfl⟩
 ·exact zk (ZeD x0)
theorem ZgW (x0 : Int) {r} (h : Z9f x0 = some r) : Z9j x0 = some r :=
 Z1e (fun _ _ ha hb => RRun.uniq Zhf (ha ) (hb )) (Zgu x0 r h)
end Go.Proofs.YtadodmjdkphddaaDoor.N2
end
