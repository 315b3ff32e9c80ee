/- More of the functions' typed texts. No condition. -/
import Derived.Test.YtocikhhkicahoaaDoorTypA

set_option linter.unusedSimpArgs false
set_option linter.unusedVariables false
set_option linter.defProp false
noncomputable section
namespace Go.Proofs.YtocikhhkicahoaaDoor.N2
open Go Go.Abs
set_option maxRecDepth 100000
def Z5w (x2 x5:Int) (zm:List Int) (zn z7 zh:Int) (zj:List ZA) (z2 z6:Int):Option (Int × (Own × (List Z8)) × Bool × Int × Int × Int) :=
 (Z7x x2 x5 zm zn z7 zh zj z2 z6).bind fun r1 =>
 some (r1.1,(.nl,([]:List Z8)),false,r1.2.1,r1.2.2.1,r1.2.2.2)
theorem Zfz x2 x5 zm zn z7 zh zj z2 z6 zu zd (zy:ZM zd = true):Sim (Z4x zm z7 zh zj zu zd) (Z5w x2 x5 zm zn z7 zh zj z2 z6) (ZrX 1 (.ptr 0 0) (iv x2) (iv x5) [(ZL zm zn z7 zh zj z2 z6 zu zd)]):=by
 unfold Z5w
 refine zf (ZyO ..)<|ze<|zi fun r1 hr1 => ?_
 obtain ⟨_,er1,_,rfl⟩:=Zdo x2 x5 zm zn z7 zh zj z2 z6 zu zd zy r1 hr1
 refine zc [0] (iv r1.1) [(ZL zm r1.2.1 z7 zh zj r1.2.2.1 r1.2.2.2 zu zd)] er1 ?_
 exact zr ((.p (.tup [(.v (.int .i64 r1.1)),(.lst .nl []),(.v (.bool false))])),[(ZL zm r1.2.1 z7 zh zj r1.2.2.1 r1.2.2.2 zu zd)]) ⟨_,rfl⟩
def Z7j (x2 x5:Int) (zm:List Int) (zn z7 zh:Int) (zj:List ZA) (z2 z6:Int):Option (Int × (Own × (List Z8)) × Bool × Int × Int × Int) :=
 (Z3o zm zn).bind fun r1 =>
 (Z7H x2).bind fun r2 =>
 (nilO (shrO r2.1) r2.2).bind fun a3 =>
 if (!a3) = true then
 (some (0,((shrO r2.1),r2.2),(decide (x2 < 97)),r1.2,z2,z6))
 else
 (Z5w x2 x5 zm r1.2 z7 zh zj z2 z6)
theorem ZfU x2 x5 zm zn z7 zh zj z2 z6 zu zd (zy:ZM zd = true):Sim (Z4x zm z7 zh zj zu zd) (Z7j x2 x5 zm zn z7 zh zj z2 z6) (Zvh 1 (.ptr 0 0) (iv x2) (iv x5) [(ZL zm zn z7 zh zj z2 z6 zu zd)]):=by
 unfold Z7j
 refine zf (ZBH ..)<|ze<|zi fun r1 hr1 => ?_
 obtain ⟨_,er1,_,rfl⟩:=Z3M zm zn z7 zh zj z2 z6 zu zd zy r1 hr1
 refine zc [0] (iv r1.1) [(ZL zm r1.2 z7 zh zj z2 z6 zu zd)] er1<|ze<|zi fun r2 hr2 => ?_
 obtain ⟨_,er2,_,rfl⟩:=Zbt x2 r2 hr2
 refine zc [] (ZP r2.1 (r2.2.map Zz)) [(ZL zm r1.2 z7 zh zj z2 z6 zu zd)] er2<|ze<|zi fun a3 ha3 => zp (bv (!a3)) (et_ (Zmb (P:=PP) (t:=27) (c:=.slice none 0 0) (e:=Zz) (by kernel_rfl) ha3)) ?_
 refine za (!a3) ?_ ?_
 ·refine ze<|zq ?_
  exact zr ((.p (.tup [(.v (.int .i64 0)),(.lst (shrO r2.1) (r2.2.map Zz)),(.v (.bool (decide (x2 < 97))))])),[(ZL zm r1.2 z7 zh zj z2 z6 zu zd)]) ⟨_,rfl⟩
 ·exact zk (Zfz x2 x5 zm r1.2 z7 zh zj z2 z6 zu zd zy)
def Z7i (x5:Int) (zm:List Int) (zn z7 zh:Int) (zj:List ZA) (z2 z6:Int):Option (Int × (Own × (List Z8)) × Bool × Int × Int × Int) :=
 (Z2I (Z1D.mk zm zn z7 zh zj (Z16.mk z2 z6))).bind fun r1 =>
 if (decide (r1 < 0)) = true then
 ((Z1g 21 x5 zm z2 z6).bind fun r2 =>
 some (0,(.nl,([]:List Z8)),false,r2.1,r2.2.1,r2.2.2))
 else
 (Z7j r1 x5 zm zn z7 zh zj z2 z6)
theorem ZfT x5 zm zn z7 zh zj z2 z6 zu zd (zy:ZM zd = true):Sim (Z4x zm z7 zh zj zu zd) (Z7i x5 zm zn z7 zh zj z2 z6) (Zvg 1 (.ptr 0 0) (iv x5) [(ZL zm zn z7 zh zj z2 z6 zu zd)]):=by
 unfold Z7i
 refine zf (ZBG ..)<|ze<|zi fun r1 hr1 => ?_
 obtain ⟨_,er1,_,rfl⟩:=Z2W (Z1D.mk zm zn z7 zh zj (Z16.mk z2 z6)) zu zd zy r1 hr1
 refine zc [0] (iv r1) [(ZL zm zn z7 zh zj z2 z6 zu zd)] er1<|ze<|zq ?_
 refine za (decide (r1 < 0)) ?_ ?_
 ·refine ze<|zi fun r2 hr2 => ?_
  obtain ⟨_,er2,_,rfl⟩:=Z1k 21 x5 zm zn z7 zh zj z2 z6 zu zd zy r2 hr2
  refine zc [0] (.p (.tup [])) [(ZL zm r2.1 z7 zh zj r2.2.1 r2.2.2 zu zd)] er2<|ze ?_
  exact zr ((.p (.tup [(.v (.int .i64 0)),(.lst .nl []),(.v (.bool false))])),[(ZL zm r2.1 z7 zh zj r2.2.1 r2.2.2 zu zd)]) ⟨_,rfl⟩
 ·exact zk (ZfU r1 x5 zm zn z7 zh zj z2 z6 zu zd zy)
def Z6W (zm:List Int) (zn z7 zh:Int) (zj:List ZA) (z2 z6:Int):Option (Int × (Own × (List Z8)) × Bool × Int × Int × Int) :=
 (Z3o zm zn).bind fun r1 =>
 if (r1.1 != 92) = true then
 (some (r1.1,(.nl,([]:List Z8)),false,r1.2,z2,z6))
 else
 (Z7i zn zm r1.2 z7 zh zj z2 z6)
theorem Zi5 zm zn z7 zh zj z2 z6 zu zd (zy:ZM zd = true):Sim (Z4x zm z7 zh zj zu zd) (Z6W zm zn z7 zh zj z2 z6) (EE 81 [(.ptr 0 0)] [(ZL zm zn z7 zh zj z2 z6 zu zd)]):=by
 unfold Z6W
 refine zf (ZHq ..)<|ze<|ze<|zq<|zq<|zq<|ze<|zi fun r1 hr1 => ?_
 obtain ⟨_,er1,_,rfl⟩:=Z3M zm zn z7 zh zj z2 z6 zu zd zy r1 hr1
 refine zc [0] (iv r1.1) [(ZL zm r1.2 z7 zh zj z2 z6 zu zd)] er1<|ze<|zq ?_
 refine za (r1.1 != 92) ?_ ?_
 ·refine ze ?_
  exact zr ((.p (.tup [(.v (.int .i64 r1.1)),(.lst .nl []),(.v (.bool false))])),[(ZL zm r1.2 z7 zh zj z2 z6 zu zd)]) ⟨_,rfl⟩
 ·exact zk (ZfT zn zm r1.2 z7 zh zj z2 z6 zu zd zy)
theorem Zcr zm zn z7 zh zj z2 z6 {r} (h:Z6W zm zn z7 zh zj z2 z6 = some r):Z5N zm zn z7 zh zj z2 z6 = some r :=
 Z1l (fun _ _ ha hb => ru_ (Zjg _ _ _ _ _ _) (ha .ex .ex rfl) (hb .ex .ex rfl)) (fun zu zd zy => Zi5 zm zn z7 zh zj z2 z6 zu zd zy r h)
def Z8b (x0 z1C:List Z8):Option (List Z8) :=
 (Z9g z1C x0).bind fun r1 =>
 some r1.1
theorem Zhr (x0 z1C:List Z8) ox0 zij:Sim Z89 (Z8b x0 z1C) (EE 80 [(ZP ox0 (x0.map Zz)),(.ptr 0 0)] [[(ZP zij (z1C.map Zz))]]):=by
 unfold Z8b
 refine zf (ZHp ..)<|ze<|zq<|zi fun r1 hr1 => ?_
 obtain ⟨_,er1,_,rfl⟩:=ZhI z1C x0 .sh .sh r1 hr1
 refine zc [] (.p (.tup [(.lst .sh (r1.1.map Zz)),(.v (.int .i64 r1.2))])) [[(ZP zij (z1C.map Zz))]] er1<|zq<|zq<|zt [[(ZP .sh (r1.1.map Zz))]] ?_
 exact zr ((.p (.tup [])),[[(ZP .sh (r1.1.map Zz))]]) ⟨.sh,_,rfl⟩
theorem Zi2 x0 z1C {r} (h:Z8b x0 z1C = some r):Z6F x0 z1C = some r :=
 Z1l (fun _ _ ha hb => ru_ ZiG (ha .ex .ex) (hb .ex .ex)) (fun ox0 zij => Zhr x0 z1C ox0 zij r h)
def ZaH:Option ((List Z8) × Int) :=
 some (([]:List Z8),10)
theorem ZeA:Sim Z2V ZaH (Zq3 0 []):=by
 unfold ZaH
 refine zf (ZAE ..)<|ze ?_
 exact zr ((.p (.tup [(.lst .sh []),(.v (.int .i64 10))])),[]) ⟨_,rfl⟩
def Z8P (x0 x1:List Z8):Option ((List Z8) × Int) :=
 (Zb6 ([x0,x1]:List (List Z8))).bind fun r1 =>
 (ZaY r1).bind fun r2 =>
 some (r2,0)
theorem ZkL (x0 x1:List Z8) ox0 ox1:Sim Z2V (Z8P x0 x1) (Zuf 0 (ZP ox0 (x0.map Zz)) (ZP ox1 (x1.map Zz)) []):=by
 unfold Z8P
 refine zf (ZAF ..)<|ze<|zq<|zi fun r1 hr1 => ?_
 obtain ⟨_,er1,_,rfl⟩:=Zj0 ([x0,x1]:List (List Z8)) .sh r1 hr1
 refine zc [] (ZP .sh (r1.map Zz)) [] er1<|zi fun r2 hr2 => ?_
 obtain ⟨_,er2,_,rfl⟩:=Zdr r1 .sh r2 hr2
 refine zc [] (ZP .sh (r2.map Zz)) [] er2 ?_
 exact zr ((.p (.tup [(.lst .sh (r2.map Zz)),(.v (.int .i64 0))])),[]) ⟨_,rfl⟩
def ZaS (x0 x1:List Z8):Option ((List Z8) × Int) :=
 (Z5Z x0).bind fun r1 =>
 if (!r1) = true then
 ZaH
 else
 ((Z5Z x1).bind fun r2 =>
 if (!r2) = true then
 ZaH
 else
 (Z8P x0 x1))
theorem ZmY (x0 x1:List Z8) ox0 ox1:Sim Z2V (ZaS x0 x1) (EE 39 [(ZP ox0 (x0.map Zz)),(ZP ox1 (x1.map Zz))] []):=by
 unfold ZaS
 refine zf (ZGl ..)<|ze<|ze<|zi fun r1 hr1 => ?_
 obtain ⟨_,er1,_,rfl⟩:=Z8G x0 .sh r1 hr1
 refine zc [] (bv r1) [] er1<|zq ?_
 refine za (!r1) ?_ ?_
 ·exact zk ZeA
 ·refine zi fun r2 hr2 => ?_
  obtain ⟨_,er2,_,rfl⟩:=Z8G x1 .sh r2 hr2
  refine zc [] (bv r2) [] er2<|zq ?_
  refine za (!r2) ?_ ?_
  ·exact zk ZeA
  ·exact zk (ZkL x0 x1 ox0 ox1)
theorem ZhH x0 x1 {r} (h:ZaS x0 x1 = some r):Z9g x0 x1 = some r :=
 Z1l (fun _ _ ha hb => ru_ ZaP (ha .ex .ex) (hb .ex .ex)) (fun ox0 ox1 => ZmY x0 x1 ox0 ox1 r h)
def Z5W (zn z7 zh:Int) (zj:List ZA) (z2 z6 z1M z2H z2G z1S z2d:Int) (z2e:List Z8) (b2:Z9):Option (Z9 × Bool × Int × Int × Int × (List ZA) × Int × Int) :=
 some ((Z9.mk z1M z2H z2G z1S z2d z2e ([b2]:List Z9)),(z1M != 7),zn,z7,zh,zj,z2,z6)
theorem ZfY zm zn z7 zh zj z2 z6 z1M z2H z2G z1S z2d z2e z3m b2 zu zd zH zE z1c zZ (zy:ZM zd = true) (z19:ZM zH = true) (zY:ZM zE = true):Sim (Z2X zm zu) (Z5W zn z7 zh zj z2 z6 z1M z2H z2G z1S z2d z2e b2) (ZrV 1 (.ptr 1 0) (.ptr 2 0) [(ZL zm zn z7 zh zj z2 z6 zu zd),(Z2U z1M z2H z2G z1S z2d z2e z3m zH zE),(Zk b2 z1c zZ)]):=by
 unfold Z5W
 refine zf (ZyF ..)<|ze<|zq<|zp (ZP .ex (([b2]:List Z9).map ZJ)) (Eq.trans (b:=some (ZP .ex [.agg (Z21 b2)])) (by kernel_rfl) (by simp only [Z99,Zev,Z55]))<|zq<|zt [(ZL zm zn z7 zh zj z2 z6 zu zd),(Z2U z1M z2H z2G z1S z2d z2e ([b2]:List Z9) zH .ex),(Zk b2 z1c zZ)]<|ze<|zq<|zq<|zq<|zq<|zt [(ZL zm zn z7 zh zj z2 z6 zu zd),(Z2U z1M z2H z2G z1S z2d z2e ([b2]:List Z9) (shrO zH) .ex),(Zk b2 z1c zZ)] ?_
 exact zr ((.p (.tup [(.agg (ZI (Z9.mk z1M z2H z2G z1S z2d z2e ([b2]:List Z9)) .sh .sh)),(.v (.bool (z1M != 7)))])),[(ZL zm zn z7 zh zj z2 z6 zu zd),(Z2U z1M z2H z2G z1S z2d z2e ([b2]:List Z9) (shrO zH) .ex),(Zk b2 z1c zZ)]) ⟨zd,_,zy,rfl⟩
def Z3a (zn z7 zh:Int) (zj:List ZA) (z2 z6 z1M z2H z2G z1S z2d:Int) (z2e:List Z8) (b2:Z9):Option (Z9 × Bool × Int × Int × Int × (List ZA) × Int × Int) :=
 if (z1M == 0) = true then
 (some (b2,true,zn,z7,(IntKind.i64.wrap (zh - 1)),zj,z2,z6))
 else
 (Z5W zn z7 (IntKind.i64.wrap (zh - 1)) zj z2 z6 z1M z2H z2G z1S z2d z2e b2)
theorem Z83 zm zn z7 zh zj z2 z6 z1M z2H z2G z1S z2d z2e z3m b2 zu zd zH zE z1c zZ (zy:ZM zd = true) (z19:ZM zH = true) (zY:ZM zE = true):Sim (Z2X zm zu) (Z3a zn z7 zh zj z2 z6 z1M z2H z2G z1S z2d z2e b2) (ZkD 1 (.ptr 0 0) (.ptr 1 0) (.ptr 2 0) [(ZL zm zn z7 zh zj z2 z6 zu zd),(Z2U z1M z2H z2G z1S z2d z2e z3m zH zE),(Zk b2 z1c zZ)]):=by
 unfold Z3a
 refine zf (ZyE ..)<|ze<|zq<|zq<|zq<|zq<|zq<|zq<|zt [(ZL zm zn z7 (IntKind.i64.wrap (zh - 1)) zj z2 z6 zu zd),(Z2U z1M z2H z2G z1S z2d z2e z3m zH zE),(Zk b2 z1c zZ)]<|ze<|zq<|zq<|zq ?_
 refine za (z1M == 0) ?_ ?_
 ·refine ze<|zq<|zt [(ZL zm zn z7 (IntKind.i64.wrap (zh - 1)) zj z2 z6 zu zd),(Zk b2 (shrO z1c) (shrO zZ)),(Zk b2 z1c zZ)] ?_
  exact zr ((.p (.tup [(.agg (ZI b2 .sh .sh)),(.v (.bool true))])),[(ZL zm zn z7 (IntKind.i64.wrap (zh - 1)) zj z2 z6 zu zd),(Zk b2 (shrO z1c) (shrO zZ)),(Zk b2 z1c zZ)]) ⟨zd,_,zy,rfl⟩
 ·exact zk (ZfY zm zn z7 (IntKind.i64.wrap (zh - 1)) zj z2 z6 z1M z2H z2G z1S z2d z2e z3m b2 zu zd zH zE z1c zZ zy z19 zY)
def Z7m (x1:Int) (zm:List Int) (z7 zh:Int) (zj:List ZA) (z2 z6 z1M z2H z2G z1S z2d:Int) (z2e:List Z8) (b2:Z9):Option (Z9 × Bool × Int × Int × Int × (List ZA) × Int × Int) :=
 (Z1g 20 x1 zm z2 z6).bind fun r1 =>
 Z3a r1.1 z7 zh zj r1.2.1 r1.2.2 z1M z2H z2G z1S z2d z2e b2
theorem ZfX x1 zm zn z7 zh zj z2 z6 z1M z2H z2G z1S z2d z2e z3m b2 zu zd zH zE z1c zZ (zy:ZM zd = true) (z19:ZM zH = true) (zY:ZM zE = true):Sim (Z2X zm zu) (Z7m x1 zm z7 zh zj z2 z6 z1M z2H z2G z1S z2d z2e b2) (ZrU 1 (.ptr 0 0) (iv x1) (.ptr 1 0) (.ptr 2 0) [(ZL zm zn z7 zh zj z2 z6 zu zd),(Z2U z1M z2H z2G z1S z2d z2e z3m zH zE),(Zk b2 z1c zZ)]):=by
 unfold Z7m
 refine zf (ZyD ..)<|ze<|zi fun r1 hr1 => ?_
 obtain ⟨_,er1,_,rfl⟩:=Z1k 20 x1 zm zn z7 zh zj z2 z6 zu zd zy r1 hr1
 refine zc [0] (.p (.tup [])) [(ZL zm r1.1 z7 zh zj r1.2.1 r1.2.2 zu zd),(Z2U z1M z2H z2G z1S z2d z2e z3m zH zE),(Zk b2 z1c zZ)] er1 ?_
 exact zk (Z83 zm r1.1 z7 zh zj r1.2.1 r1.2.2 z1M z2H z2G z1S z2d z2e z3m b2 zu zd zH zE z1c zZ zy z19 zY)
def Z2s (x1:Int) (zm:List Int) (zn z7 zh:Int) (zj:List ZA) (z2 z6 z1M z2H z2G z1S z2d:Int) (z2e:List Z8):Option (Z9 × Bool × Int × Int × Int × (List ZA) × Int × Int) :=
 (Z4k zm zn z7 zh zj z2 z6).bind fun r1 =>
 if (r1.2.2.2.2.2.1 == 0) = true then
 ((Z1L (ByteArray.mk #[41]) zm r1.2.1).bind fun r2 =>
 if (!r2.1) = true then
 (Z7m x1 zm r1.2.2.1 r1.2.2.2.1 r1.2.2.2.2.1 r1.2.2.2.2.2.1 r1.2.2.2.2.2.2 z1M z2H z2G z1S z2d z2e r1.1)
 else
 (Z3a r2.2 r1.2.2.1 r1.2.2.2.1 r1.2.2.2.2.1 r1.2.2.2.2.2.1 r1.2.2.2.2.2.2 z1M z2H z2G z1S z2d z2e r1.1))
 else
 (Z3a r1.2.1 r1.2.2.1 r1.2.2.2.1 r1.2.2.2.2.1 r1.2.2.2.2.2.1 r1.2.2.2.2.2.2 z1M z2H z2G z1S z2d z2e r1.1)
theorem Z3T x1 zm zn z7 zh zj z2 z6 z1M z2H z2G z1S z2d z2e z3m zu zd zH zE (zy:ZM zd = true) (z19:ZM zH = true) (zY:ZM zE = true):Sim (Z2X zm zu) (Z2s x1 zm zn z7 zh zj z2 z6 z1M z2H z2G z1S z2d z2e) (Zey 1 (.ptr 0 0) (iv x1) (.ptr 1 0) [(ZL zm zn z7 zh zj z2 z6 zu zd),(Z2U z1M z2H z2G z1S z2d z2e z3m zH zE)]):=by
 unfold Z2s
 refine zf (ZyC ..)<|ze<|zi fun r1 hr1 => ?_
 obtain ⟨_,er1,z5r,_,z9v,rfl⟩:=ZeF zm zn z7 zh zj z2 z6 zu zd zy r1 hr1
 refine zc [0] (pA_ (ZI r1.1 .sh .sh)) [(ZL zm r1.2.1 r1.2.2.1 r1.2.2.2.1 r1.2.2.2.2.1 r1.2.2.2.2.2.1 r1.2.2.2.2.2.2 zu z5r),(Z2U z1M z2H z2G z1S z2d z2e z3m zH zE)] er1<|zz (.ptr 2 0) [(ZL zm r1.2.1 r1.2.2.1 r1.2.2.2.1 r1.2.2.2.2.1 r1.2.2.2.2.2.1 r1.2.2.2.2.2.2 zu z5r),(Z2U z1M z2H z2G z1S z2d z2e z3m zH zE),(Zk Z1F .nl .nl)]<|zt [(ZL zm r1.2.1 r1.2.2.1 r1.2.2.2.1 r1.2.2.2.2.1 r1.2.2.2.2.2.1 r1.2.2.2.2.2.2 zu z5r),(Z2U z1M z2H z2G z1S z2d z2e z3m zH zE),(Zk r1.1 .sh .sh)]<|ze<|zq<|zq<|zq<|zq<|zq ?_
 refine za (r1.2.2.2.2.2.1 == 0) ?_ ?_
 ·refine zi fun r2 hr2 => ?_
  obtain ⟨_,er2,_,rfl⟩:=Z1T (ByteArray.mk #[41]) zm r1.2.1 r1.2.2.1 r1.2.2.2.1 r1.2.2.2.2.1 r1.2.2.2.2.2.1 r1.2.2.2.2.2.2 zu z5r z9v r2 hr2
  refine zc [0] (bv r2.1) [(ZL zm r2.2 r1.2.2.1 r1.2.2.2.1 r1.2.2.2.2.1 r1.2.2.2.2.2.1 r1.2.2.2.2.2.2 zu z5r),(Z2U z1M z2H z2G z1S z2d z2e z3m zH zE),(Zk r1.1 .sh .sh)] er2<|zq ?_
  refine za (!r2.1) ?_ ?_
  ·exact zk (ZfX x1 zm r2.2 r1.2.2.1 r1.2.2.2.1 r1.2.2.2.2.1 r1.2.2.2.2.2.1 r1.2.2.2.2.2.2 z1M z2H z2G z1S z2d z2e z3m r1.1 zu z5r zH zE .sh .sh z9v z19 zY)
  ·exact zk (Z83 zm r2.2 r1.2.2.1 r1.2.2.2.1 r1.2.2.2.2.1 r1.2.2.2.2.2.1 r1.2.2.2.2.2.2 z1M z2H z2G z1S z2d z2e z3m r1.1 zu z5r zH zE .sh .sh z9v z19 zY)
 ·exact zk (Z83 zm r1.2.1 r1.2.2.1 r1.2.2.2.1 r1.2.2.2.2.1 r1.2.2.2.2.2.1 r1.2.2.2.2.2.2 z1M z2H z2G z1S z2d z2e z3m r1.1 zu z5r zH zE .sh .sh z9v z19 zY)
def Z6p (x1:Int) (zm:List Int) (zn z7 zh:Int) (zj:List ZA) (z2 z6 z1M z2H z2G z1S z2d:Int) (z2e:List Z8):Option (Z9 × Bool × Int × Int × Int × (List ZA) × Int × Int) :=
 (Ze3).bind fun r1 =>
 (Z5S r1 zm zn).bind fun r2 =>
 if (decide (0 ≤ r2.1)) = true then
 (Z2s x1 zm r2.2 z7 (IntKind.i64.wrap (zh + 1)) zj z2 z6 7 0 0 r2.1 0 ([]:List Z8))
 else
 ((Z1L (ByteArray.mk #[63,62]) zm r2.2).bind fun r3 =>
 if r3.1 = true then
 (Z2s x1 zm r3.2 z7 (IntKind.i64.wrap (zh + 1)) zj z2 z6 8 0 0 0 0 ([]:List Z8))
 else
 ((Z1L (ByteArray.mk #[63,58]) zm r3.2).bind fun r4 =>
 if r4.1 = true then
 (Z2s x1 zm r4.2 z7 (IntKind.i64.wrap (zh + 1)) zj z2 z6 z1M z2H z2G z1S z2d z2e)
 else
 ((Z2I (Z1D.mk zm r4.2 z7 (IntKind.i64.wrap (zh + 1)) zj (Z16.mk z2 z6))).bind fun r5 =>
 if (r5 == 63) = true then
 ((Z1g 20 x1 zm z2 z6).bind fun r6 =>
 Z2s x1 zm r6.1 z7 (IntKind.i64.wrap (zh + 1)) zj r6.2.1 r6.2.2 z1M z2H z2G z1S z2d z2e)
 else
 (if (z7 == 9) = true then
 ((Z1g 24 x1 zm z2 z6).bind fun r7 =>
 Z2s x1 zm r7.1 z7 (IntKind.i64.wrap (zh + 1)) zj r7.2.1 r7.2.2 z1M z2H z2G z1S z2d z2e)
 else
 (Z2s x1 zm r4.2 (IntKind.i64.wrap (z7 + 1)) (IntKind.i64.wrap (zh + 1)) zj z2 z6 5 0 0 0 (IntKind.i64.wrap (z7 + 1)) ([]:List Z8))))))
theorem ZgU x1 zm zn z7 zh zj z2 z6 z1M z2H z2G z1S z2d z2e z3m zu zd zH zE (zy:ZM zd = true) (z19:ZM zH = true) (zY:ZM zE = true):Sim (Z2X zm zu) (Z6p x1 zm zn z7 zh zj z2 z6 z1M z2H z2G z1S z2d z2e) (ZuX 1 (.ptr 0 0) (iv x1) (.ptr 1 0) [(ZL zm zn z7 zh zj z2 z6 zu zd),(Z2U z1M z2H z2G z1S z2d z2e z3m zH zE)]):=by
 unfold Z6p
 refine zf (ZBi ..)<|ze<|zq<|zq<|zq<|zq<|zq<|zq<|zt [(ZL zm zn z7 (IntKind.i64.wrap (zh + 1)) zj z2 z6 zu zd),(Z2U z1M z2H z2G z1S z2d z2e z3m zH zE)]<|ze<|zi fun r1 hr1 => ?_
 obtain ⟨_,er1,_,rfl⟩:=ZoX r1 hr1
 refine zc [] (ZP .sh (r1.map eS)) [(ZL zm zn z7 (IntKind.i64.wrap (zh + 1)) zj z2 z6 zu zd),(Z2U z1M z2H z2G z1S z2d z2e z3m zH zE)] er1<|zi fun r2 hr2 => ?_
 obtain ⟨_,er2,_,rfl⟩:=Zem r1 zm zn z7 (IntKind.i64.wrap (zh + 1)) zj z2 z6 .sh zu zd zy r2 hr2
 refine zc [0] (iv r2.1) [(ZL zm r2.2 z7 (IntKind.i64.wrap (zh + 1)) zj z2 z6 zu zd),(Z2U z1M z2H z2G z1S z2d z2e z3m zH zE)] er2<|ze<|zq ?_
 refine za (decide (0 ≤ r2.1)) ?_ ?_
 ·refine ze<|zq<|zt [(ZL zm r2.2 z7 (IntKind.i64.wrap (zh + 1)) zj z2 z6 zu zd),(Z2U 7 0 0 r2.1 0 ([]:List Z8) ([]:List Z9) .nl .nl)] ?_
  exact zk (Z3T x1 zm r2.2 z7 (IntKind.i64.wrap (zh + 1)) zj z2 z6 7 0 0 r2.1 0 ([]:List Z8) ([]:List Z9) zu zd .nl .nl zy rfl rfl)
 ·refine ze<|zi fun r3 hr3 => ?_
  obtain ⟨_,er3,_,rfl⟩:=Z1T (ByteArray.mk #[63,62]) zm r2.2 z7 (IntKind.i64.wrap (zh + 1)) zj z2 z6 zu zd zy r3 hr3
  refine zc [0] (bv r3.1) [(ZL zm r3.2 z7 (IntKind.i64.wrap (zh + 1)) zj z2 z6 zu zd),(Z2U z1M z2H z2G z1S z2d z2e z3m zH zE)] er3 ?_
  refine za r3.1 ?_ ?_
  ·refine ze<|zq<|zt [(ZL zm r3.2 z7 (IntKind.i64.wrap (zh + 1)) zj z2 z6 zu zd),(Z2U 8 0 0 0 0 ([]:List Z8) ([]:List Z9) .nl .nl)] ?_
   exact zk (Z3T x1 zm r3.2 z7 (IntKind.i64.wrap (zh + 1)) zj z2 z6 8 0 0 0 0 ([]:List Z8) ([]:List Z9) zu zd .nl .nl zy rfl rfl)
  ·refine ze<|zi fun r4 hr4 => ?_
   obtain ⟨_,er4,_,rfl⟩:=Z1T (ByteArray.mk #[63,58]) zm r3.2 z7 (IntKind.i64.wrap (zh + 1)) zj z2 z6 zu zd zy r4 hr4
   refine zc [0] (bv r4.1) [(ZL zm r4.2 z7 (IntKind.i64.wrap (zh + 1)) zj z2 z6 zu zd),(Z2U z1M z2H z2G z1S z2d z2e z3m zH zE)] er4 ?_
   refine za r4.1 ?_ ?_
   ·exact zk (Z3T x1 zm r4.2 z7 (IntKind.i64.wrap (zh + 1)) zj z2 z6 z1M z2H z2G z1S z2d z2e z3m zu zd zH zE zy z19 zY)
   ·refine ze<|zi fun r5 hr5 => ?_
    obtain ⟨_,er5,_,rfl⟩:=Z2W (Z1D.mk zm r4.2 z7 (IntKind.i64.wrap (zh + 1)) zj (Z16.mk z2 z6)) zu zd zy r5 hr5
    refine zc [0] (iv r5) [(ZL zm r4.2 z7 (IntKind.i64.wrap (zh + 1)) zj z2 z6 zu zd),(Z2U z1M z2H z2G z1S z2d z2e z3m zH zE)] er5<|zq ?_
    refine za (r5 == 63) ?_ ?_
    ·refine ze<|zi fun r6 hr6 => ?_
     obtain ⟨_,er6,_,rfl⟩:=Z1k 20 x1 zm r4.2 z7 (IntKind.i64.wrap (zh + 1)) zj z2 z6 zu zd zy r6 hr6
     refine zc [0] (.p (.tup [])) [(ZL zm r6.1 z7 (IntKind.i64.wrap (zh + 1)) zj r6.2.1 r6.2.2 zu zd),(Z2U z1M z2H z2G z1S z2d z2e z3m zH zE)] er6 ?_
     exact zk (Z3T x1 zm r6.1 z7 (IntKind.i64.wrap (zh + 1)) zj r6.2.1 r6.2.2 z1M z2H z2G z1S z2d z2e z3m zu zd zH zE zy z19 zY)
    ·refine ze<|zq<|zq<|zq<|zq ?_
     refine za (z7 == 9) ?_ ?_
     ·refine ze<|zi fun r7 hr7 => ?_
      obtain ⟨_,er7,_,rfl⟩:=Z1k 24 x1 zm r4.2 z7 (IntKind.i64.wrap (zh + 1)) zj z2 z6 zu zd zy r7 hr7
      refine zc [0] (.p (.tup [])) [(ZL zm r7.1 z7 (IntKind.i64.wrap (zh + 1)) zj r7.2.1 r7.2.2 zu zd),(Z2U z1M z2H z2G z1S z2d z2e z3m zH zE)] er7 ?_
      exact zk (Z3T x1 zm r7.1 z7 (IntKind.i64.wrap (zh + 1)) zj r7.2.1 r7.2.2 z1M z2H z2G z1S z2d z2e z3m zu zd zH zE zy z19 zY)
     ·refine ze<|zq<|zq<|zq<|zq<|zq<|zq<|zt [(ZL zm r4.2 (IntKind.i64.wrap (z7 + 1)) (IntKind.i64.wrap (zh + 1)) zj z2 z6 zu zd),(Z2U z1M z2H z2G z1S z2d z2e z3m zH zE)]<|ze<|zq<|zq<|zq<|zq<|zt [(ZL zm r4.2 (IntKind.i64.wrap (z7 + 1)) (IntKind.i64.wrap (zh + 1)) zj z2 z6 zu zd),(Z2U 5 0 0 0 (IntKind.i64.wrap (z7 + 1)) ([]:List Z8) ([]:List Z9) .nl .nl)] ?_
      exact zk (Z3T x1 zm r4.2 (IntKind.i64.wrap (z7 + 1)) (IntKind.i64.wrap (zh + 1)) zj z2 z6 5 0 0 0 (IntKind.i64.wrap (z7 + 1)) ([]:List Z8) ([]:List Z9) zu zd .nl .nl zy rfl rfl)
def Z6a (x1:Int) (zm:List Int) (zn z7 zh:Int) (zj:List ZA) (z2 z6:Int):Option (Z9 × Bool × Int × Int × Int × (List ZA) × Int × Int) :=
 if (zh == 32) = true then
 ((Z1g 25 x1 zm z2 z6).bind fun r1 =>
 some ((Z9.mk 0 0 0 0 0 ([]:List Z8) ([]:List Z9)),true,r1.1,z7,zh,zj,r1.2.1,r1.2.2))
 else
 (Z6p x1 zm zn z7 zh zj z2 z6 0 0 0 0 0 ([]:List Z8))
theorem ZiU x1 zm zn z7 zh zj z2 z6 zu zd (zy:ZM zd = true):Sim (Z2X zm zu) (Z6a x1 zm zn z7 zh zj z2 z6) (EE 68 [(.ptr 0 0),(iv x1)] [(ZL zm zn z7 zh zj z2 z6 zu zd)]):=by
 unfold Z6a
 refine zf (ZH8 ..)<|ze<|zz (.ptr 1 0) [(ZL zm zn z7 zh zj z2 z6 zu zd),(Zk Z1F .nl .nl)]<|ze<|zq<|zq<|zq<|zq ?_
 refine za (zh == 32) ?_ ?_
 ·refine ze<|zi fun r1 hr1 => ?_
  obtain ⟨_,er1,_,rfl⟩:=Z1k 25 x1 zm zn z7 zh zj z2 z6 zu zd zy r1 hr1
  refine zc [0] (.p (.tup [])) [(ZL zm r1.1 z7 zh zj r1.2.1 r1.2.2 zu zd),(Zk Z1F .nl .nl)] er1<|ze<|zq<|zt [(ZL zm r1.1 z7 zh zj r1.2.1 r1.2.2 zu zd),(Zk Z1F .nl .nl)] ?_
  exact zr ((.p (.tup [(.agg (ZI Z1F .sh .sh)),(.v (.bool true))])),[(ZL zm r1.1 z7 zh zj r1.2.1 r1.2.2 zu zd),(Zk Z1F .nl .nl)]) ⟨zd,_,zy,rfl⟩
 ·exact zk (ZgU x1 zm zn z7 zh zj z2 z6 0 0 0 0 0 ([]:List Z8) ([]:List Z9) zu zd .nl .nl zy rfl rfl)
theorem Z9W x1 zm zn z7 zh zj z2 z6 {r} (h:Z6a x1 zm zn z7 zh zj z2 z6 = some r):Z59 x1 zm zn z7 zh zj z2 z6 = some r :=
 Z1l (fun _ _ ha hb => ru_ (ZdF _ _) (ha .ex .ex rfl) (hb .ex .ex rfl)) (fun zu zd zy => ZiU x1 zm zn z7 zh zj z2 z6 zu zd zy r h)
def Zhp:Option (List ByteArray) :=
 some ([(ByteArray.mk #[63,61]),(ByteArray.mk #[63,33]),(ByteArray.mk #[63,60,61]),(ByteArray.mk #[63,60,33])]:List ByteArray)
theorem Zok:Sim ZdW Zhp (EE 83 [] []):=by
 unfold Zhp
 refine zf (ZHt ..)<|ze<|ze<|zq ?_
 exact zr ((ZP .sh (([(ByteArray.mk #[63,61]),(ByteArray.mk #[63,33]),(ByteArray.mk #[63,60,61]),(ByteArray.mk #[63,60,33])]:List ByteArray).map eS)),[]) ⟨_,rfl⟩
theorem ZoW {r} (h:Zhp = some r):Ze3 = some r :=
 Z1l (fun _ _ ha hb => ru_ Zpv ha hb) (Zok r h)
def Z5P (x0:List ByteArray) (zm:List Int) (zn:Int):Option (Int × Int) :=
 Z2n x0 (x0.length:Int) 0 zm zn
theorem ZdR (x0:List ByteArray) zm zn z7 zh zj z2 z6 ox0 zu zd (zy:ZM zd = true):Sim (Z2c zm z7 zh zj z2 z6 zu zd) (Z5P x0 zm zn) (EE 82 [(ZP ox0 (x0.map eS)),(.clo 19 [(.ptr 0 0)] [])] [(ZL zm zn z7 zh zj z2 z6 zu zd)]):=by
 unfold Z5P
 refine zf (ZHr ..)<|ze<|ze<|zp (iv (x0.length:Int)) (et_ (Z37 (P:=PP) (t:=121) (d:=9) (by kernel_rfl) eS (shrO ox0) x0)) ?_
 exact zk (Z8I x0 (x0.length:Int) 0 zm zn z7 zh zj z2 z6 ox0 zu zd zy)
theorem Zel x0 zm zn {r} (h:Z5P x0 zm zn = some r):Z5S x0 zm zn = some r :=
 Z1l (fun _ _ ha hb => ru_ (Z6O _ _ _ _ _ _ _ _) (ha default default default default default .ex .ex .ex rfl) (hb default default default default default .ex .ex .ex rfl)) (fun z7 zh zj z2 z6 ox0 zu zd zy => ZdR x0 zm zn z7 zh zj z2 z6 ox0 zu zd zy r h)
def Z53 (x0:List ByteArray) (x7 x8:Int) (zm:List Int) (zn:Int):Option (Int × Int) :=
 Z2n x0 x7 (IntKind.i64.wrap (x8 + 1)) zm zn
theorem Zcy (x0:List ByteArray) x7 x8 zm zn z7 zh zj z2 z6 ox0 zu zd (zy:ZM zd = true):Sim (Z2c zm z7 zh zj z2 z6 zu zd) (Z53 x0 x7 x8 zm zn) (Zvm 1 (ZP ox0 (x0.map eS)) (.clo 19 [(.ptr 0 0)] []) (iv x7) (iv x8) [(ZL zm zn z7 zh zj z2 z6 zu zd)]):=by
 unfold Z53
 refine zf (ZBL ..)<|ze<|zq ?_
 exact zk (Z8I x0 x7 (IntKind.i64.wrap (x8 + 1)) zm zn z7 zh zj z2 z6 ox0 zu zd zy)
def Z3Z (x0:List ByteArray) (x7 x8:Int) (zm:List Int) (zn:Int):Option (Int × Int) :=
 (lget x0 x8).bind fun a1 =>
 (Z1L a1 zm zn).bind fun r2 =>
 if r2.1 = true then
 (some (x8,r2.2))
 else
 (Z53 x0 x7 x8 zm r2.2)
theorem Zcx (x0:List ByteArray) x7 x8 zm zn z7 zh zj z2 z6 ox0 zu zd (zy:ZM zd = true):Sim (Z2c zm z7 zh zj z2 z6 zu zd) (Z3Z x0 x7 x8 zm zn) (Zvl 1 (ZP ox0 (x0.map eS)) (.clo 19 [(.ptr 0 0)] []) (iv x7) (iv x8) [(ZL zm zn z7 zh zj z2 z6 zu zd)]):=by
 unfold Z3Z
 refine zf (ZBK ..)<|ze<|ze<|zi fun a1 ha1 => zp (.cptr [(.v (.string a1))]) (et_ (Z2Q (o:=(shrO ox0)) (k:=.i64) (n:=1) (e:=eS) (cs:=(fun a => [eS a])) (fun _ => rfl) (fun _ => rfl) (by decide) ha1))<|zq<|zi fun r2 hr2 => ?_
 obtain ⟨_,er2,_,rfl⟩:=Z1T a1 zm zn z7 zh zj z2 z6 zu zd zy r2 hr2
 refine zv [0] (bv r2.1) [(ZL zm r2.2 z7 zh zj z2 z6 zu zd)] er2 ?_
 refine za r2.1 ?_ ?_
 ·refine ze ?_
  exact zr ((iv x8),[(ZL zm r2.2 z7 zh zj z2 z6 zu zd)]) ⟨_,rfl⟩
 ·exact zk (Zcy x0 x7 x8 zm r2.2 z7 zh zj z2 z6 ox0 zu zd zy)
def Z6J (zn:Int):Option (Int × Int) :=
 some ((-1),zn)
theorem Zcz zm zn z7 zh zj z2 z6 zu zd (zy:ZM zd = true):Sim (Z2c zm z7 zh zj z2 z6 zu zd) (Z6J zn) (Zvn 1 [(ZL zm zn z7 zh zj z2 z6 zu zd)]):=by
 unfold Z6J
 refine zf (ZBM ..)<|ze ?_
 exact zr ((iv (-1)),[(ZL zm zn z7 zh zj z2 z6 zu zd)]) ⟨_,rfl⟩
def Z3v (x0:List ByteArray) (x7 x8:Int) (zm:List Int) (zn:Int):Option (Int × Int) :=
 if (decide (x8 < x7)) = true then
 (Z3Z x0 x7 x8 zm zn)
 else
 (Z6J zn)
theorem Zcw (x0:List ByteArray) x7 x8 zm zn z7 zh zj z2 z6 ox0 zu zd (zy:ZM zd = true):Sim (Z2c zm z7 zh zj z2 z6 zu zd) (Z3v x0 x7 x8 zm zn) (ZmS 1 (ZP ox0 (x0.map eS)) (.clo 19 [(.ptr 0 0)] []) (iv x7) (iv x8) [(ZL zm zn z7 zh zj z2 z6 zu zd)]):=by
 unfold Z3v
 refine zf (ZBJ ..)<|ze<|zq ?_
 refine za (decide (x8 < x7)) ?_ ?_
 ·exact zk (Zcx x0 x7 x8 zm zn z7 zh zj z2 z6 ox0 zu zd zy)
 ·exact zk (Zcz zm zn z7 zh zj z2 z6 zu zd zy)
theorem Z6m x0 x7 x8 zm zn {r} (h:Z3v x0 x7 x8 zm zn = some r):Z2n x0 x7 x8 zm zn = some r :=
 Z1l (fun _ _ ha hb => ru_ (Z6O _ _ _ _ _ _ _ _) (ha default default default default default .ex .ex .ex rfl) (hb default default default default default .ex .ex .ex rfl)) (fun z7 zh zj z2 z6 ox0 zu zd zy => Zcw x0 x7 x8 zm zn z7 zh zj z2 z6 ox0 zu zd zy r h)
def Z4q (zn z2 z6 z3f z4v z4u z3Q z3H:Int) (z2r:List Z8) (z3e:List Z9):Option (Z9 × Int × Int × Int) :=
 some ((Z9.mk z3f z4v z4u z3Q z3H z2r z3e),zn,z2,z6)
theorem Z7L zm zn z7 zh zj z2 z6 b1 b2 z3f z4v z4u z3Q z3H z2r z3e zu zd zH zE z1c zZ z34 z41 (zy:ZM zd = true) (zeo:ZM z1c = true) (zcA:ZM zZ = true) (zbw:ZM z34 = true) (zcB:ZM z41 = true):Sim (Z1K zm z7 zh zj zu zd) (Z4q zn z2 z6 z3f z4v z4u z3Q z3H z2r z3e) (ZkA 1 (.ptr 2 0) (.ptr 3 0) [(ZL zm zn z7 zh zj z2 z6 zu zd),(Zk b1 zH zE),(Zk b2 z1c zZ),(Z2U z3f z4v z4u z3Q z3H z2r z3e z34 z41)]):=by
 unfold Z4q
 refine zf (Zyp ..)<|ze<|zq<|zt [(ZL zm zn z7 zh zj z2 z6 zu zd),(Zk b1 zH zE),(Z2U z3f z4v z4u z3Q z3H z2r z3e (shrO z34) (shrO z41)),(Z2U z3f z4v z4u z3Q z3H z2r z3e z34 z41)] ?_
 exact zr ((pA_ (ZI (Z9.mk z3f z4v z4u z3Q z3H z2r z3e) .sh .sh)),[(ZL zm zn z7 zh zj z2 z6 zu zd),(Zk b1 zH zE),(Z2U z3f z4v z4u z3Q z3H z2r z3e (shrO z34) (shrO z41)),(Z2U z3f z4v z4u z3Q z3H z2r z3e z34 z41)]) ⟨_,rfl⟩
def Z3J (zm:List Int) (zn z2 z6 z3f z4v z4u z3Q z3H:Int) (z2r:List Z8) (z3e:List Z9):Option (Z9 × Int × Int × Int) :=
 (Z1L (ByteArray.mk #[63]) zm zn).bind fun r1 =>
 if r1.1 = true then
 (Z4q r1.2 z2 z6 z3f z4v z4u 1 z3H z2r z3e)
 else
 ((Z1L (ByteArray.mk #[43]) zm r1.2).bind fun r2 =>
 if r2.1 = true then
 (Z4q r2.2 z2 z6 z3f z4v z4u 2 z3H z2r z3e)
 else
 (Z4q r2.2 z2 z6 z3f z4v z4u z3Q z3H z2r z3e))
theorem ZaC zm zn z7 zh zj z2 z6 b1 b2 z3f z4v z4u z3Q z3H z2r z3e zu zd zH zE z1c zZ z34 z41 (zy:ZM zd = true) (zeo:ZM z1c = true) (zcA:ZM zZ = true) (zbw:ZM z34 = true) (zcB:ZM z41 = true):Sim (Z1K zm z7 zh zj zu zd) (Z3J zm zn z2 z6 z3f z4v z4u z3Q z3H z2r z3e) (ZnW 1 (.ptr 0 0) (.ptr 2 0) (.ptr 3 0) [(ZL zm zn z7 zh zj z2 z6 zu zd),(Zk b1 zH zE),(Zk b2 z1c zZ),(Z2U z3f z4v z4u z3Q z3H z2r z3e z34 z41)]):=by
 unfold Z3J
 refine zf (Zyo ..)<|ze<|zi fun r1 hr1 => ?_
 obtain ⟨_,er1,_,rfl⟩:=Z1T (ByteArray.mk #[63]) zm zn z7 zh zj z2 z6 zu zd zy r1 hr1
 refine zc [0] (bv r1.1) [(ZL zm r1.2 z7 zh zj z2 z6 zu zd),(Zk b1 zH zE),(Zk b2 z1c zZ),(Z2U z3f z4v z4u z3Q z3H z2r z3e z34 z41)] er1 ?_
 refine za r1.1 ?_ ?_
 ·refine ze<|zq<|zt [(ZL zm r1.2 z7 zh zj z2 z6 zu zd),(Zk b1 zH zE),(Zk b2 z1c zZ),(Z2U z3f z4v z4u 1 z3H z2r z3e z34 z41)] ?_
  exact zk (Z7L zm r1.2 z7 zh zj z2 z6 b1 b2 z3f z4v z4u 1 z3H z2r z3e zu zd zH zE z1c zZ z34 z41 zy zeo zcA zbw zcB)
 ·refine ze<|zi fun r2 hr2 => ?_
  obtain ⟨_,er2,_,rfl⟩:=Z1T (ByteArray.mk #[43]) zm r1.2 z7 zh zj z2 z6 zu zd zy r2 hr2
  refine zc [0] (bv r2.1) [(ZL zm r2.2 z7 zh zj z2 z6 zu zd),(Zk b1 zH zE),(Zk b2 z1c zZ),(Z2U z3f z4v z4u z3Q z3H z2r z3e z34 z41)] er2 ?_
  refine za r2.1 ?_ ?_
  ·refine ze<|zq<|zt [(ZL zm r2.2 z7 zh zj z2 z6 zu zd),(Zk b1 zH zE),(Zk b2 z1c zZ),(Z2U z3f z4v z4u 2 z3H z2r z3e z34 z41)] ?_
   exact zk (Z7L zm r2.2 z7 zh zj z2 z6 b1 b2 z3f z4v z4u 2 z3H z2r z3e zu zd zH zE z1c zZ z34 z41 zy zeo zcA zbw zcB)
  ·exact zk (Z7L zm r2.2 z7 zh zj z2 z6 b1 b2 z3f z4v z4u z3Q z3H z2r z3e zu zd zH zE z1c zZ z34 z41 zy zeo zcA zbw zcB)
def Z36 (x2:Bool) (x7:Int) (zm:List Int) (zn z2 z6 z3f z4v z4u z3Q z3H:Int) (z2r:List Z8) (z3e:List Z9):Option (Z9 × Int × Int × Int) :=
 if (!x2) = true then
 ((Z1g 23 x7 zm z2 z6).bind fun r1 =>
 Z3J zm r1.1 r1.2.1 r1.2.2 z3f z4v z4u z3Q z3H z2r z3e)
 else
 (Z3J zm zn z2 z6 z3f z4v z4u z3Q z3H z2r z3e)
theorem Z5R x2 x7 zm zn z7 zh zj z2 z6 b1 b2 z3f z4v z4u z3Q z3H z2r z3e zu zd zH zE z1c zZ z34 z41 (zy:ZM zd = true) (zeo:ZM z1c = true) (zcA:ZM zZ = true) (zbw:ZM z34 = true) (zcB:ZM z41 = true):Sim (Z1K zm z7 zh zj zu zd) (Z36 x2 x7 zm zn z2 z6 z3f z4v z4u z3Q z3H z2r z3e) (Zis 1 (.ptr 0 0) (bv x2) (.ptr 2 0) (iv x7) (.ptr 3 0) [(ZL zm zn z7 zh zj z2 z6 zu zd),(Zk b1 zH zE),(Zk b2 z1c zZ),(Z2U z3f z4v z4u z3Q z3H z2r z3e z34 z41)]):=by
 unfold Z36
 refine zf (Zyn ..)<|ze<|zq ?_
 refine za (!x2) ?_ ?_
 ·refine ze<|zi fun r1 hr1 => ?_
  obtain ⟨_,er1,_,rfl⟩:=Z1k 23 x7 zm zn z7 zh zj z2 z6 zu zd zy r1 hr1
  refine zc [0] (.p (.tup [])) [(ZL zm r1.1 z7 zh zj r1.2.1 r1.2.2 zu zd),(Zk b1 zH zE),(Zk b2 z1c zZ),(Z2U z3f z4v z4u z3Q z3H z2r z3e z34 z41)] er1 ?_
  exact zk (ZaC zm r1.1 z7 zh zj r1.2.1 r1.2.2 b1 b2 z3f z4v z4u z3Q z3H z2r z3e zu zd zH zE z1c zZ z34 z41 zy zeo zcA zbw zcB)
 ·exact zk (ZaC zm zn z7 zh zj z2 z6 b1 b2 z3f z4v z4u z3Q z3H z2r z3e zu zd zH zE z1c zZ z34 z41 zy zeo zcA zbw zcB)
def Z5J (x1:Z9) (x2:Bool) (zm:List Int) (zn z7 zh:Int) (zj:List ZA) (z2 z6:Int):Option (Z9 × Int × Int × Int) :=
 (Z1L (ByteArray.mk #[42]) zm zn).bind fun r1 =>
 if r1.1 = true then
 (Z36 x2 zn zm r1.2 z2 z6 4 0 (-1) 0 0 ([]:List Z8) ([x1]:List Z9))
 else
 ((Z1L (ByteArray.mk #[43]) zm r1.2).bind fun r2 =>
 if r2.1 = true then
 (Z36 x2 zn zm r2.2 z2 z6 4 1 (-1) 0 0 ([]:List Z8) ([x1]:List Z9))
 else
 ((Z1L (ByteArray.mk #[63]) zm r2.2).bind fun r3 =>
 if r3.1 = true then
 (Z36 x2 zn zm r3.2 z2 z6 4 0 1 0 0 ([]:List Z8) ([x1]:List Z9))
 else
 ((Z1L (ByteArray.mk #[123]) zm r3.2).bind fun r4 =>
 if r4.1 = true then
 ((Z6Z zn zm r4.2 z7 zh zj z2 z6).bind fun r5 =>
 Z36 x2 zn zm r5.2.2.1 r5.2.2.2.1 r5.2.2.2.2 4 r5.1 r5.2.1 0 0 ([]:List Z8) ([x1]:List Z9))
 else
 (some (x1,r4.2,z2,z6)))))
theorem Zi7 x1 x2 zm zn z7 zh zj z2 z6 zN zW zu zd (zy:ZM zd = true):Sim (Z1K zm z7 zh zj zu zd) (Z5J x1 x2 zm zn z7 zh zj z2 z6) (EE 49 [(.ptr 0 0),(pA_ (ZI x1 zN zW)),(bv x2)] [(ZL zm zn z7 zh zj z2 z6 zu zd)]):=by
 unfold Z5J
 refine zf (ZGH ..)<|ze<|zx (.ptr 1 0) [(ZL zm zn z7 zh zj z2 z6 zu zd),(Zk x1 zN zW)]<|zz (.ptr 2 0) [(ZL zm zn z7 zh zj z2 z6 zu zd),(Zk x1 zN zW),(Zk Z1F .nl .nl)]<|ze<|zq<|zq<|zq<|ze<|zq<|zp (ZP .ex (([x1]:List Z9).map ZJ)) (Eq.trans (b:=some (ZP .ex [.agg (Z21 x1)])) (by kernel_rfl) (by simp only [Z99,Zev,Z55]))<|zq<|zz (.ptr 3 0) [(ZL zm zn z7 zh zj z2 z6 zu zd),(Zk x1 zN zW),(Zk Z1F .nl .nl),(Zk Z1F .nl .nl)]<|zt [(ZL zm zn z7 zh zj z2 z6 zu zd),(Zk x1 zN zW),(Zk Z1F .nl .nl),(Z2U 4 0 (-1) 0 0 ([]:List Z8) ([x1]:List Z9) .nl .ex)]<|ze<|zi fun r1 hr1 => ?_
 obtain ⟨_,er1,_,rfl⟩:=Z1T (ByteArray.mk #[42]) zm zn z7 zh zj z2 z6 zu zd zy r1 hr1
 refine zc [0] (bv r1.1) [(ZL zm r1.2 z7 zh zj z2 z6 zu zd),(Zk x1 zN zW),(Zk Z1F .nl .nl),(Z2U 4 0 (-1) 0 0 ([]:List Z8) ([x1]:List Z9) .nl .ex)] er1 ?_
 refine za r1.1 ?_ ?_
 ·exact zk (Z5R x2 zn zm r1.2 z7 zh zj z2 z6 x1 Z1F 4 0 (-1) 0 0 ([]:List Z8) ([x1]:List Z9) zu zd zN zW .nl .nl .nl .ex zy rfl rfl rfl rfl)
 ·refine ze<|zi fun r2 hr2 => ?_
  obtain ⟨_,er2,_,rfl⟩:=Z1T (ByteArray.mk #[43]) zm r1.2 z7 zh zj z2 z6 zu zd zy r2 hr2
  refine zc [0] (bv r2.1) [(ZL zm r2.2 z7 zh zj z2 z6 zu zd),(Zk x1 zN zW),(Zk Z1F .nl .nl),(Z2U 4 0 (-1) 0 0 ([]:List Z8) ([x1]:List Z9) .nl .ex)] er2 ?_
  refine za r2.1 ?_ ?_
  ·refine ze<|zq<|zt [(ZL zm r2.2 z7 zh zj z2 z6 zu zd),(Zk x1 zN zW),(Zk Z1F .nl .nl),(Z2U 4 1 (-1) 0 0 ([]:List Z8) ([x1]:List Z9) .nl .ex)] ?_
   exact zk (Z5R x2 zn zm r2.2 z7 zh zj z2 z6 x1 Z1F 4 1 (-1) 0 0 ([]:List Z8) ([x1]:List Z9) zu zd zN zW .nl .nl .nl .ex zy rfl rfl rfl rfl)
  ·refine ze<|zi fun r3 hr3 => ?_
   obtain ⟨_,er3,_,rfl⟩:=Z1T (ByteArray.mk #[63]) zm r2.2 z7 zh zj z2 z6 zu zd zy r3 hr3
   refine zc [0] (bv r3.1) [(ZL zm r3.2 z7 zh zj z2 z6 zu zd),(Zk x1 zN zW),(Zk Z1F .nl .nl),(Z2U 4 0 (-1) 0 0 ([]:List Z8) ([x1]:List Z9) .nl .ex)] er3 ?_
   refine za r3.1 ?_ ?_
   ·refine ze<|zq<|zt [(ZL zm r3.2 z7 zh zj z2 z6 zu zd),(Zk x1 zN zW),(Zk Z1F .nl .nl),(Z2U 4 0 1 0 0 ([]:List Z8) ([x1]:List Z9) .nl .ex)] ?_
    exact zk (Z5R x2 zn zm r3.2 z7 zh zj z2 z6 x1 Z1F 4 0 1 0 0 ([]:List Z8) ([x1]:List Z9) zu zd zN zW .nl .nl .nl .ex zy rfl rfl rfl rfl)
   ·refine ze<|zi fun r4 hr4 => ?_
    obtain ⟨_,er4,_,rfl⟩:=Z1T (ByteArray.mk #[123]) zm r3.2 z7 zh zj z2 z6 zu zd zy r4 hr4
    refine zc [0] (bv r4.1) [(ZL zm r4.2 z7 zh zj z2 z6 zu zd),(Zk x1 zN zW),(Zk Z1F .nl .nl),(Z2U 4 0 (-1) 0 0 ([]:List Z8) ([x1]:List Z9) .nl .ex)] er4 ?_
    refine za r4.1 ?_ ?_
    ·refine ze<|zi fun r5 hr5 => ?_
     obtain ⟨_,er5,_,rfl⟩:=ZiQ zn zm r4.2 z7 zh zj z2 z6 zu zd zy r5 hr5
     refine zc [0] (.p (.tup [(.v (.int .i64 r5.1)),(.v (.int .i64 r5.2.1))])) [(ZL zm r5.2.2.1 z7 zh zj r5.2.2.2.1 r5.2.2.2.2 zu zd),(Zk x1 zN zW),(Zk Z1F .nl .nl),(Z2U 4 0 (-1) 0 0 ([]:List Z8) ([x1]:List Z9) .nl .ex)] er5<|zq<|zq<|zq<|zt [(ZL zm r5.2.2.1 z7 zh zj r5.2.2.2.1 r5.2.2.2.2 zu zd),(Zk x1 zN zW),(Zk Z1F .nl .nl),(Z2U 4 r5.1 (-1) 0 0 ([]:List Z8) ([x1]:List Z9) .nl .ex)]<|zq<|zt [(ZL zm r5.2.2.1 z7 zh zj r5.2.2.2.1 r5.2.2.2.2 zu zd),(Zk x1 zN zW),(Zk Z1F .nl .nl),(Z2U 4 r5.1 r5.2.1 0 0 ([]:List Z8) ([x1]:List Z9) .nl .ex)] ?_
     exact zk (Z5R x2 zn zm r5.2.2.1 z7 zh zj r5.2.2.2.1 r5.2.2.2.2 x1 Z1F 4 r5.1 r5.2.1 0 0 ([]:List Z8) ([x1]:List Z9) zu zd zN zW .nl .nl .nl .ex zy rfl rfl rfl rfl)
    ·refine ze<|zq<|zt [(ZL zm r4.2 z7 zh zj z2 z6 zu zd),(Zk x1 zN zW),(Zk x1 (shrO zN) (shrO zW)),(Z2U 4 0 (-1) 0 0 ([]:List Z8) ([x1]:List Z9) .nl .ex)] ?_
     exact zr ((pA_ (ZI x1 .sh .sh)),[(ZL zm r4.2 z7 zh zj z2 z6 zu zd),(Zk x1 zN zW),(Zk x1 (shrO zN) (shrO zW)),(Z2U 4 0 (-1) 0 0 ([]:List Z8) ([x1]:List Z9) .nl .ex)]) ⟨_,rfl⟩
theorem Zcu x1 x2 zm zn z7 zh zj z2 z6 {r} (h:Z5J x1 x2 zm zn z7 zh zj z2 z6 = some r):Z70 x1 x2 zm zn z7 zh zj z2 z6 = some r :=
 Z1l (fun _ _ ha hb => ru_ (Zav _ _ _ _ _ _) (ha .ex .ex .ex .ex rfl) (hb .ex .ex .ex .ex rfl)) (fun zN zW zu zd zy => Zi7 x1 x2 zm zn z7 zh zj z2 z6 zN zW zu zd zy r h)
def Z9m (x4 zn z2 z6:Int):Option (Int × Int × Int × Int × Int) :=
 some (x4,(-1),zn,z2,z6)
theorem ZfR x4 zm zn z7 zh zj z2 z6 zu zd (zy:ZM zd = true):Sim (Z3k zm z7 zh zj zu zd) (Z9m x4 zn z2 z6) (Zv0 1 (iv x4) [(ZL zm zn z7 zh zj z2 z6 zu zd)]):=by
 unfold Z9m
 refine zf (ZBl ..)<|ze ?_
 exact zr ((.p (.tup [(.v (.int .i64 x4)),(.v (.int .i64 (-1)))])),[(ZL zm zn z7 zh zj z2 z6 zu zd)]) ⟨_,rfl⟩
def Z74 (x4 x5 zn z2 z6:Int):Option (Int × Int × Int × Int × Int) :=
 some (x4,x5,zn,z2,z6)
theorem ZaA x4 x5 zm zn z7 zh zj z2 z6 zu zd (zy:ZM zd = true):Sim (Z3k zm z7 zh zj zu zd) (Z74 x4 x5 zn z2 z6) (Zo1 1 (iv x4) (iv x5) [(ZL zm zn z7 zh zj z2 z6 zu zd)]):=by
 unfold Z74
 refine zf (ZyH ..)<|ze ?_
 exact zr ((.p (.tup [(.v (.int .i64 x4)),(.v (.int .i64 x5))])),[(ZL zm zn z7 zh zj z2 z6 zu zd)]) ⟨_,rfl⟩
def Z3q (x1 x4 x5:Int) (zm:List Int) (z2 z6:Int):Option (Int × Int × Int × Int × Int) :=
 (Z1g 23 x1 zm z2 z6).bind fun r1 =>
 Z74 x4 x5 r1.1 r1.2.1 r1.2.2
theorem Z5Q x1 x4 x5 zm zn z7 zh zj z2 z6 zu zd (zy:ZM zd = true):Sim (Z3k zm z7 zh zj zu zd) (Z3q x1 x4 x5 zm z2 z6) (Ziv 1 (.ptr 0 0) (iv x1) (iv x4) (iv x5) [(ZL zm zn z7 zh zj z2 z6 zu zd)]):=by
 unfold Z3q
 refine zf (ZyG ..)<|ze<|zi fun r1 hr1 => ?_
 obtain ⟨_,er1,_,rfl⟩:=Z1k 23 x1 zm zn z7 zh zj z2 z6 zu zd zy r1 hr1
 refine zc [0] (.p (.tup [])) [(ZL zm r1.1 z7 zh zj r1.2.1 r1.2.2 zu zd)] er1 ?_
 exact zk (ZaA x4 x5 zm r1.1 z7 zh zj r1.2.1 r1.2.2 zu zd zy)
def Z39 (x1 x4 x5:Int) (zm:List Int) (zn z2 z6:Int):Option (Int × Int × Int × Int × Int) :=
 if (decide (x4 < 0)) = true then
 (Z3q x1 x4 x5 zm z2 z6)
 else
 (if (decide (x5 < x4)) = true then
 (Z3q x1 x4 x5 zm z2 z6)
 else
 (if (decide (64 < x5)) = true then
 (Z3q x1 x4 x5 zm z2 z6)
 else
 ((Z1L (ByteArray.mk #[125]) zm zn).bind fun r1 =>
 if (!r1.1) = true then
 (Z3q x1 x4 x5 zm z2 z6)
 else
 (Z74 x4 x5 r1.2 z2 z6))))
theorem Z6j x1 x4 x5 zm zn z7 zh zj z2 z6 zu zd (zy:ZM zd = true):Sim (Z3k zm z7 zh zj zu zd) (Z39 x1 x4 x5 zm zn z2 z6) (ZkF 1 (.ptr 0 0) (iv x1) (iv x4) (iv x5) [(ZL zm zn z7 zh zj z2 z6 zu zd)]):=by
 unfold Z39
 refine zf (ZBn ..)<|ze<|zq ?_
 refine za (decide (x4 < 0)) ?_ ?_
 ·exact zk (Z5Q x1 x4 x5 zm zn z7 zh zj z2 z6 zu zd zy)
 ·refine zq ?_
  refine za (decide (x5 < x4)) ?_ ?_
  ·exact zk (Z5Q x1 x4 x5 zm zn z7 zh zj z2 z6 zu zd zy)
  ·refine zq ?_
   refine za (decide (64 < x5)) ?_ ?_
   ·exact zk (Z5Q x1 x4 x5 zm zn z7 zh zj z2 z6 zu zd zy)
   ·refine zi fun r1 hr1 => ?_
    obtain ⟨_,er1,_,rfl⟩:=Z1T (ByteArray.mk #[125]) zm zn z7 zh zj z2 z6 zu zd zy r1 hr1
    refine zc [0] (bv r1.1) [(ZL zm r1.2 z7 zh zj z2 z6 zu zd)] er1<|zq ?_
    refine za (!r1.1) ?_ ?_
    ·exact zk (Z5Q x1 x4 x5 zm r1.2 z7 zh zj z2 z6 zu zd zy)
    ·exact zk (ZaA x4 x5 zm r1.2 z7 zh zj z2 z6 zu zd zy)
def Z4B (x1 x4:Int) (zm:List Int) (zn z2 z6:Int):Option (Int × Int × Int × Int × Int) :=
 Z39 x1 x4 (-2) zm zn z2 z6
theorem Zb3 x1 x4 zm zn z7 zh zj z2 z6 zu zd (zy:ZM zd = true):Sim (Z3k zm z7 zh zj zu zd) (Z4B x1 x4 zm zn z2 z6) (Zqw 1 (.ptr 0 0) (iv x1) (iv x4) [(ZL zm zn z7 zh zj z2 z6 zu zd)]):=by
 unfold Z4B
 refine zf (ZBm ..)<|ze ?_
 exact zk (Z6j x1 x4 (-2) zm zn z7 zh zj z2 z6 zu zd zy)
def Z7h (x1 x4:Int) (zm:List Int) (zn z2 z6:Int):Option (Int × Int × Int × Int × Int) :=
 (Z1L (ByteArray.mk #[125]) zm zn).bind fun r1 =>
 if r1.1 = true then
 (if (decide (x4 ≤ 64)) = true then
 (Z9m x4 r1.2 z2 z6)
 else
 (Z4B x1 x4 zm r1.2 z2 z6))
 else
 (Z4B x1 x4 zm r1.2 z2 z6)
theorem ZfQ x1 x4 zm zn z7 zh zj z2 z6 zu zd (zy:ZM zd = true):Sim (Z3k zm z7 zh zj zu zd) (Z7h x1 x4 zm zn z2 z6) (ZuZ 1 (.ptr 0 0) (iv x1) (iv x4) [(ZL zm zn z7 zh zj z2 z6 zu zd)]):=by
 unfold Z7h
 refine zf (ZBk ..)<|ze<|zi fun r1 hr1 => ?_
 obtain ⟨_,er1,_,rfl⟩:=Z1T (ByteArray.mk #[125]) zm zn z7 zh zj z2 z6 zu zd zy r1 hr1
 refine zc [0] (bv r1.1) [(ZL zm r1.2 z7 zh zj z2 z6 zu zd)] er1 ?_
 refine za r1.1 ?_ ?_
 ·refine zq ?_
  refine za (decide (x4 ≤ 64)) ?_ ?_
  ·exact zk (ZfR x4 zm r1.2 z7 zh zj z2 z6 zu zd zy)
  ·exact zk (Zb3 x1 x4 zm r1.2 z7 zh zj z2 z6 zu zd zy)
 ·exact zk (Zb3 x1 x4 zm r1.2 z7 zh zj z2 z6 zu zd zy)
def Z6V (x1:Int) (zm:List Int) (zn z7 zh:Int) (zj:List ZA) (z2 z6:Int):Option (Int × Int × Int × Int × Int) :=
 (Z5O zm zn z7 zh zj z2 z6).bind fun r1 =>
 (Z1L (ByteArray.mk #[44]) zm r1.2).bind fun r2 =>
 if r2.1 = true then
 ((Z5O zm r2.2 z7 zh zj z2 z6).bind fun r3 =>
 if (decide (r3.1 < 0)) = true then
 (if (decide (0 ≤ r1.1)) = true then
 (Z7h x1 r1.1 zm r3.2 z2 z6)
 else
 (Z39 x1 r1.1 r3.1 zm r3.2 z2 z6))
 else
 (Z39 x1 r1.1 r3.1 zm r3.2 z2 z6))
 else
 (Z39 x1 r1.1 r1.1 zm r2.2 z2 z6)
theorem Zi3 x1 zm zn z7 zh zj z2 z6 zu zd (zy:ZM zd = true):Sim (Z3k zm z7 zh zj zu zd) (Z6V x1 zm zn z7 zh zj z2 z6) (EE 69 [(.ptr 0 0),(iv x1)] [(ZL zm zn z7 zh zj z2 z6 zu zd)]):=by
 unfold Z6V
 refine zf (ZHa ..)<|ze<|ze<|zi fun r1 hr1 => ?_
 obtain ⟨_,er1,_,rfl⟩:=Zct zm zn z7 zh zj z2 z6 zu zd zy r1 hr1
 refine zc [0] (iv r1.1) [(ZL zm r1.2 z7 zh zj z2 z6 zu zd)] er1<|ze<|ze<|zi fun r2 hr2 => ?_
 obtain ⟨_,er2,_,rfl⟩:=Z1T (ByteArray.mk #[44]) zm r1.2 z7 zh zj z2 z6 zu zd zy r2 hr2
 refine zc [0] (bv r2.1) [(ZL zm r2.2 z7 zh zj z2 z6 zu zd)] er2 ?_
 refine za r2.1 ?_ ?_
 ·refine ze<|zi fun r3 hr3 => ?_
  obtain ⟨_,er3,_,rfl⟩:=Zct zm r2.2 z7 zh zj z2 z6 zu zd zy r3 hr3
  refine zc [0] (iv r3.1) [(ZL zm r3.2 z7 zh zj z2 z6 zu zd)] er3<|ze<|zq ?_
  refine za (decide (r3.1 < 0)) ?_ ?_
  ·refine zq ?_
   refine za (decide (0 ≤ r1.1)) ?_ ?_
   ·exact zk (ZfQ x1 r1.1 zm r3.2 z7 zh zj z2 z6 zu zd zy)
   ·exact zk (Z6j x1 r1.1 r3.1 zm r3.2 z7 zh zj z2 z6 zu zd zy)
  ·exact zk (Z6j x1 r1.1 r3.1 zm r3.2 z7 zh zj z2 z6 zu zd zy)
 ·exact zk (Z6j x1 r1.1 r1.1 zm r2.2 z7 zh zj z2 z6 zu zd zy)
theorem Zcq x1 zm zn z7 zh zj z2 z6 {r} (h:Z6V x1 zm zn z7 zh zj z2 z6 = some r):Z6Z x1 zm zn z7 zh zj z2 z6 = some r :=
 Z1l (fun _ _ ha hb => ru_ (Zje _ _ _ _ _ _) (ha .ex .ex rfl) (hb .ex .ex rfl)) (fun zu zd zy => Zi3 x1 zm zn z7 zh zj z2 z6 zu zd zy r h)
def ZaV (zm:List Int) (zn z7 zh:Int) (zj:List ZA) (z2 z6:Int):Option (Int × Int) :=
 Z40 (-1) 0 zm zn z7 zh zj z2 z6
theorem Zi6 zm zn z7 zh zj z2 z6 zu zd (zy:ZM zd = true):Sim (Z2c zm z7 zh zj z2 z6 zu zd) (ZaV zm zn z7 zh zj z2 z6) (EE 84 [(.ptr 0 0)] [(ZL zm zn z7 zh zj z2 z6 zu zd)]):=by
 unfold ZaV
 refine zf (ZHu ..)<|ze<|ze<|ze ?_
 exact zk (Zb9 (-1) 0 zm zn z7 zh zj z2 z6 zu zd zy)
theorem ZiT zm zn z7 zh zj z2 z6 {r} (h:ZaV zm zn z7 zh zj z2 z6 = some r):Z5O zm zn z7 zh zj z2 z6 = some r :=
 Z1l (fun _ _ ha hb => ru_ (Z6O _ _ _ _ _ _ _ _) (ha .ex .ex rfl) (hb .ex .ex rfl)) (fun zu zd zy => Zi6 zm zn z7 zh zj z2 z6 zu zd zy r h)
def Z7l (x3 x4:Int) (zm:List Int) (zn z7 zh:Int) (zj:List ZA) (z2 z6:Int):Option (Int × Int) :=
 (Z3o zm zn).bind fun r1 =>
 Z40 ((IntKind.i64.wrap ((IntKind.i64.wrap ((IntKind.i64.wrap (10 * (max x3 0))) + r1.1)) - 48))) (IntKind.i64.wrap (x4 + 1)) zm r1.2 z7 zh zj z2 z6
theorem ZfW x3 x4 zm zn z7 zh zj z2 z6 zu zd (zy:ZM zd = true):Sim (Z2c zm z7 zh zj z2 z6 zu zd) (Z7l x3 x4 zm zn z7 zh zj z2 z6) (Zvr 1 (.ptr 0 0) (iv x3) (iv x4) [(ZL zm zn z7 zh zj z2 z6 zu zd)]):=by
 unfold Z7l
 refine zf (ZBP ..)<|ze<|zp (iv (max x3 0)) (ZnJ _ _)<|zq<|zi fun r1 hr1 => ?_
 obtain ⟨_,er1,_,rfl⟩:=Z3M zm zn z7 zh zj z2 z6 zu zd zy r1 hr1
 refine zc [0] (iv r1.1) [(ZL zm r1.2 z7 zh zj z2 z6 zu zd)] er1<|zq<|zq<|ze<|zq ?_
 exact zk (Zb9 ((IntKind.i64.wrap ((IntKind.i64.wrap ((IntKind.i64.wrap (10 * (max x3 0))) + r1.1)) - 48))) (IntKind.i64.wrap (x4 + 1)) zm r1.2 z7 zh zj z2 z6 zu zd zy)
def Z4C (x3 zn:Int):Option (Int × Int) :=
 some (x3,zn)
theorem Z82 x3 zm zn z7 zh zj z2 z6 zu zd (zy:ZM zd = true):Sim (Z2c zm z7 zh zj z2 z6 zu zd) (Z4C x3 zn) (ZmU 1 (iv x3) [(ZL zm zn z7 zh zj z2 z6 zu zd)]):=by
 unfold Z4C
 refine zf (ZBQ ..)<|ze ?_
 exact zr ((iv x3),[(ZL zm zn z7 zh zj z2 z6 zu zd)]) ⟨_,rfl⟩
def Z7k (x3 x4:Int) (zm:List Int) (zn z7 zh:Int) (zj:List ZA) (z2 z6:Int):Option (Int × Int) :=
 if (decide (x4 < 2)) = true then
 ((Z2I (Z1D.mk zm zn z7 zh zj (Z16.mk z2 z6))).bind fun r1 =>
 if (decide (48 ≤ r1)) = true then
 ((Z2I (Z1D.mk zm zn z7 zh zj (Z16.mk z2 z6))).bind fun r2 =>
 if (decide (r2 ≤ 57)) = true then
 (Z7l x3 x4 zm zn z7 zh zj z2 z6)
 else
 (Z4C x3 zn))
 else
 (Z4C x3 zn))
 else
 (Z4C x3 zn)
theorem ZfV x3 x4 zm zn z7 zh zj z2 z6 zu zd (zy:ZM zd = true):Sim (Z2c zm z7 zh zj z2 z6 zu zd) (Z7k x3 x4 zm zn z7 zh zj z2 z6) (ZmT 1 (.ptr 0 0) (iv x3) (iv x4) [(ZL zm zn z7 zh zj z2 z6 zu zd)]):=by
 unfold Z7k
 refine zf (ZBO ..)<|ze<|zq ?_
 refine za (decide (x4 < 2)) ?_ ?_
 ·refine zi fun r1 hr1 => ?_
  obtain ⟨_,er1,_,rfl⟩:=Z2W (Z1D.mk zm zn z7 zh zj (Z16.mk z2 z6)) zu zd zy r1 hr1
  refine zc [0] (iv r1) [(ZL zm zn z7 zh zj z2 z6 zu zd)] er1<|zq ?_
  refine za (decide (48 ≤ r1)) ?_ ?_
  ·refine zi fun r2 hr2 => ?_
   obtain ⟨_,er2,_,rfl⟩:=Z2W (Z1D.mk zm zn z7 zh zj (Z16.mk z2 z6)) zu zd zy r2 hr2
   refine zc [0] (iv r2) [(ZL zm zn z7 zh zj z2 z6 zu zd)] er2<|zq ?_
   refine za (decide (r2 ≤ 57)) ?_ ?_
   ·exact zk (ZfW x3 x4 zm zn z7 zh zj z2 z6 zu zd zy)
   ·exact zk (Z82 x3 zm zn z7 zh zj z2 z6 zu zd zy)
  ·exact zk (Z82 x3 zm zn z7 zh zj z2 z6 zu zd zy)
 ·exact zk (Z82 x3 zm zn z7 zh zj z2 z6 zu zd zy)
theorem ZgT x3 x4 zm zn z7 zh zj z2 z6 {r} (h:Z7k x3 x4 zm zn z7 zh zj z2 z6 = some r):Z40 x3 x4 zm zn z7 zh zj z2 z6 = some r :=
 Z1l (fun _ _ ha hb => ru_ (Z6O _ _ _ _ _ _ _ _) (ha .ex .ex rfl) (hb .ex .ex rfl)) (fun zu zd zy => ZfV x3 x4 zm zn z7 zh zj z2 z6 zu zd zy r h)
def ZaI (b0:Z1f):Option ((List Zl) × Int) :=
 (Z1n (Zl.mk 4 0 0 0 0 ([]:List Z8)) ([]:List Zl)).bind fun r1 =>
 (Z1U b0.Root r1.2 b0.Fold 0).bind fun r2 =>
 (Z1n (Zl.mk 4 1 0 0 0 ([]:List Z8)) r2.1).bind fun r3 =>
 (Z1n (Zl.mk 0 0 0 0 0 ([]:List Z8)) r3.2).bind fun r4 =>
 some (r4.2,0)
theorem ZkS b0 z14 zU:Sim ZaQ (ZaI b0) (ZtS 0 (.ptr 0 0) [(ZT b0 z14 zU)]):=by
 unfold ZaI
 refine zf (ZAg ..)<|ze<|zq<|zq<|zq<|zX (.ptr 1 0) [(ZT b0 z14 zU),[(.p (.ml 6 [])),(bv b0.Fold),(iv 0)]]<|ze<|zq<|zi fun r1 hr1 => ?_
 obtain ⟨_,er1,_,rfl⟩:=Z1w (Zl.mk 4 0 0 0 0 ([]:List Z8)) ([]:List Zl) b0.Fold 0 .sh r1 hr1
 refine zc [1] (iv r1.1) [(ZT b0 z14 zU),[(.p (.ml 6 (r1.2.map ZC))),(bv b0.Fold),(iv 0)]] er1<|ze<|zq<|zq<|zi fun r2 hr2 => ?_
 obtain ⟨_,er2,_,rfl⟩:=Z2N b0.Root r1.2 b0.Fold 0 .sh .sh r2 hr2
 refine zc [1] (.p (.tup [])) [(ZT b0 z14 zU),[(.p (.ml 6 (r2.1.map ZC))),(bv b0.Fold),(iv r2.2)]] er2<|ze<|zq<|zi fun r3 hr3 => ?_
 obtain ⟨_,er3,_,rfl⟩:=Z1w (Zl.mk 4 1 0 0 0 ([]:List Z8)) r2.1 b0.Fold r2.2 .sh r3 hr3
 refine zc [1] (iv r3.1) [(ZT b0 z14 zU),[(.p (.ml 6 (r3.2.map ZC))),(bv b0.Fold),(iv r2.2)]] er3<|ze<|zq<|zi fun r4 hr4 => ?_
 obtain ⟨_,er4,_,rfl⟩:=Z1w Zps r3.2 b0.Fold r2.2 .sh r4 hr4
 refine zc [1] (iv r4.1) [(ZT b0 z14 zU),[(.p (.ml 6 (r4.2.map ZC))),(bv b0.Fold),(iv r2.2)]] er4<|ze<|zq<|zq<|zF (ZP .sh (r4.2.map ZC)) [(ZT b0 z14 zU),[(.p (.hd (List.length (r4.2.map ZC)))),(bv b0.Fold),(iv r2.2)]] ?_
 exact zr ((.p (.tup [(.lst .sh (r4.2.map ZC)),(.v (.int .i64 0))])),[(ZT b0 z14 zU),[(.p (.hd (List.length (r4.2.map ZC)))),(bv b0.Fold),(iv r2.2)]]) ⟨_,rfl⟩
def ZaW (x0:Z1f):Option ((List Zl) × Int) :=
 (Ze4 x0).bind fun r1 =>
 if (r1 != 0) = true then
 (some (([]:List Zl),r1))
 else
 (ZaI x0)
theorem Zn4 x0 z2j z26:Sim ZaQ (ZaW x0) (EE 18 [(pA_ (Z2R x0 z2j z26))] []):=by
 unfold ZaW
 refine zf (ZFS ..)<|ze<|zx (.ptr 0 0) [(ZT x0 z2j z26)]<|ze<|zq<|zi fun r1 hr1 => ?_
 obtain ⟨_,er1,_,rfl⟩:=Zp0 x0 .sh .sh r1 hr1
 refine zc [] (iv r1) [(ZT x0 z2j z26)] er1<|ze<|zq ?_
 refine za (r1 != 0) ?_ ?_
 ·refine ze ?_
  exact zr ((.p (.tup [(.lst .sh []),(.v (.int .i64 r1))])),[(ZT x0 z2j z26)]) ⟨_,rfl⟩
 ·exact zk (ZkS x0 z2j z26)
theorem ZhK x0 {r} (h:ZaW x0 = some r):Z9h x0 = some r :=
 Z1l (fun _ _ ha hb => ru_ ZoL (ha .ex .ex) (hb .ex .ex)) (fun z2j z26 => Zn4 x0 z2j z26 r h)
def Zbl:Option Int :=
 some (0)
theorem ZlA:Sim ZK Zbl (Zu4 0 []):=by
 unfold Zbl
 refine zf (ZAr ..)<|ze ?_
 exact zr ((iv 0),[]) ⟨_,rfl⟩
def ZdZ (x0:Z1f):Option Int :=
 (Z4l x0.Root).bind fun r1 =>
 if (!r1) = true then
 (some (27))
 else
 ((Z62 x0.Root).bind fun r2 =>
 if (decide (2000 < (IntKind.i64.wrap (r2 + 3)))) = true then
 (some (28))
 else
 Zbl)
theorem Zom x0 z2j z26:Sim ZK (ZdZ x0) (EE 27 [(pA_ (Z2R x0 z2j z26))] []):=by
 unfold ZdZ
 refine zf (ZG7 ..)<|ze<|zx (.ptr 0 0) [(ZT x0 z2j z26)]<|ze<|zq<|zq<|zi fun r1 hr1 => ?_
 obtain ⟨_,er1,_,rfl⟩:=Zhe x0.Root .sh .sh r1 hr1
 refine zc [] (bv r1) [(ZT x0 z2j z26)] er1<|zq ?_
 refine za (!r1) ?_ ?_
 ·refine ze ?_
  exact zr ((iv 27),[(ZT x0 z2j z26)]) ⟨_,rfl⟩
 ·refine ze<|zq<|zq<|zi fun r2 hr2 => ?_
  obtain ⟨_,er2,_,rfl⟩:=ZjB x0.Root .sh .sh r2 hr2
  refine zc [] (iv r2) [(ZT x0 z2j z26)] er2<|zq<|zq ?_
  refine za (decide (2000 < (IntKind.i64.wrap (r2 + 3)))) ?_ ?_
  ·refine ze ?_
   exact zr ((iv 28),[(ZT x0 z2j z26)]) ⟨_,rfl⟩
  ·exact zk ZlA
theorem ZoZ x0 {r} (h:ZdZ x0 = some r):Ze4 x0 = some r :=
 Z1l (fun _ _ ha hb => ru_ Z1N (ha .ex .ex) (hb .ex .ex)) (fun z2j z26 => Zom x0 z2j z26 r h)
def Z8n:Option Bool :=
 some false
theorem ZdO:Sim ZS Z8n (Zq2 0 []):=by
 unfold Z8n
 refine zf (ZAB ..)<|ze ?_
 exact zr ((bv false),[]) ⟨_,rfl⟩
def Z3L (b0:Z9):Option Bool :=
 (Z5D b0.Kids).bind fun r1 =>
 some (!r1)
theorem Zax b0 z1u z1A:Sim ZS (Z3L b0) (ZmI 0 (.ptr 0 0) [(Zk b0 z1u z1A)]):=by
 unfold Z3L
 refine zf (ZAC ..)<|ze<|zq<|zq<|zi fun r1 hr1 => ?_
 obtain ⟨_,er1,_,rfl⟩:=ZdQ b0.Kids .sh r1 hr1
 refine zc [] (bv r1) [(Zk b0 z1u z1A)] er1<|zq ?_
 exact zr ((bv (!r1)),[(Zk b0 z1u z1A)]) ⟨_,rfl⟩
def Z8m (b0:Z9):Option Bool :=
 (lget b0.Kids 0).bind fun a1 =>
 (Z3j a1).bind fun r2 =>
 if (decide (r2.2 < 0)) = true then
 Z8n
 else
 (if (decide (32 < r2.2)) = true then
 Z8n
 else
 (Z3L b0))
theorem Zk7 b0 z1u z1A:Sim ZS (Z8m b0) (Zuc 0 (.ptr 0 0) [(Zk b0 z1u z1A)]):=by
 unfold Z8m
 refine zf (ZAA ..)<|ze<|zq<|zq<|zi fun a1 ha1 => zp (.cptr (ZI a1 .sh .sh)) (et_ (Z2Q (o:=(shrO z1A)) (k:=.i64) (n:=7) (e:=ZJ) (cs:=Z21) Z2M (fun _ => rfl) (by decide) ha1))<|zq<|zi fun r2 hr2 => ?_
 obtain ⟨_,er2,_,rfl⟩:=Z6M a1 .sh .sh r2 hr2
 refine zc [] (.p (.tup [(.v (.int .i64 r2.1)),(.v (.int .i64 r2.2))])) [(Zk b0 z1u z1A)] er2<|zq<|zq<|ze<|zq ?_
 refine za (decide (r2.2 < 0)) ?_ ?_
 ·exact zk ZdO
 ·refine zq ?_
  refine za (decide (32 < r2.2)) ?_ ?_
  ·exact zk ZdO
  ·exact zk (Zax b0 z1u z1A)
def Zc2 (x0:Z9):Option Bool :=
 if (x0.Kind == 7) = true then
 (if (decide (2 ≤ x0.Mode)) = true then
 (Z8m x0)
 else
 (Z3L x0))
 else
 (Z3L x0)
theorem Zmq x0 z27 z1v:Sim ZS (Zc2 x0) (EE 38 [(pA_ (ZI x0 z27 z1v))] []):=by
 unfold Zc2
 refine zf (ZGk ..)<|ze<|zx (.ptr 0 0) [(Zk x0 z27 z1v)]<|ze<|zq<|zq<|zq ?_
 refine za (x0.Kind == 7) ?_ ?_
 ·refine zq<|zq<|zq ?_
  refine za (decide (2 ≤ x0.Mode)) ?_ ?_
  ·exact zk (Zk7 x0 z27 z1v)
  ·exact zk (Zax x0 z27 z1v)
 ·exact zk (Zax x0 z27 z1v)
theorem Zn5 x0 {r} (h:Zc2 x0 = some r):Z4l x0 = some r :=
 Z1l (fun _ _ ha hb => ru_ Z2P (ha .ex .ex) (hb .ex .ex)) (fun z27 z1v => Zmq x0 z27 z1v r h)
def Z7E (x2 x3:Int):Option (Int × Int) :=
 some (x2,x3)
theorem Z8H x2 x3:Sim Z3l (Z7E x2 x3) (Zir 0 (iv x2) (iv x3) []):=by
 unfold Z7E
 refine zf (Zyl ..)<|ze ?_
 exact zr ((.p (.tup [(.v (.int .i64 x2)),(.v (.int .i64 x3))])),[]) ⟨_,rfl⟩
def Ze0 (x0:Z9):Option (Int × Int) :=
 if (x0.Kind == 1) = true then
 (some (1,1))
 else
 (if (x0.Kind == 6) = true then
 (some (0,(-1)))
 else
 (if (x0.Kind == 2) = true then
 (Z9u 0 0 x0.Kids (x0.Kids.length:Int) 0)
 else
 (if (x0.Kind == 3) = true then
 (Z8W 1048576 0 x0.Kids (x0.Kids.length:Int) 0)
 else
 (if (x0.Kind == 4) = true then
 ((lget x0.Kids 0).bind fun a1 =>
 (Z3j a1).bind fun r2 =>
 (ZbK r2.2 x0.Hi).bind fun r3 =>
 some ((min (IntKind.i64.wrap (r2.1 * x0.Lo)) 1048576),r3))
 else
 (if (x0.Kind == 5) = true then
 (if (x0.Kind == 5) = true then
 ((lget x0.Kids 0).bind fun a4 =>
 (Z3j a4).bind fun r5 =>
 some (r5.1,r5.2))
 else
 (Z7E 0 0))
 else
 (if (x0.Kind == 8) = true then
 ((lget x0.Kids 0).bind fun a6 =>
 (Z3j a6).bind fun r7 =>
 some (r7.1,r7.2))
 else
 (Z7E 0 0)))))))
theorem Zon x0 z27 z1v:Sim Z3l (Ze0 x0) (EE 44 [(pA_ (ZI x0 z27 z1v))] []):=by
 unfold Ze0
 refine zf (ZGx ..)<|ze<|zx (.ptr 0 0) [(Zk x0 z27 z1v)]<|ze<|zq<|zq<|ze<|zq ?_
 refine za (x0.Kind == 1) ?_ ?_
 ·refine ze ?_
  exact zr ((.p (.tup [(.v (.int .i64 1)),(.v (.int .i64 1))])),[(Zk x0 z27 z1v)]) ⟨_,rfl⟩
 ·refine ze<|zq ?_
  refine za (x0.Kind == 6) ?_ ?_
  ·refine ze ?_
   exact zr ((.p (.tup [(.v (.int .i64 0)),(.v (.int .i64 (-1)))])),[(Zk x0 z27 z1v)]) ⟨_,rfl⟩
  ·refine ze<|zq ?_
   refine za (x0.Kind == 2) ?_ ?_
   ·refine ze<|zq<|zq<|zp (iv (x0.Kids.length:Int)) (et_ (Z37 (P:=PP) (t:=29) (d:=31) (by kernel_rfl) ZJ (shrO z1v) x0.Kids)) ?_
    exact zk (ZfI 0 0 x0.Kids (x0.Kids.length:Int) 0 (shrO z1v))
   ·refine ze<|zq ?_
    refine za (x0.Kind == 3) ?_ ?_
    ·refine ze<|ze<|zq<|zq<|zp (iv (x0.Kids.length:Int)) (et_ (Z37 (P:=PP) (t:=29) (d:=31) (by kernel_rfl) ZJ (shrO z1v) x0.Kids)) ?_
     exact zk (Zfb 1048576 0 x0.Kids (x0.Kids.length:Int) 0 (shrO z1v))
    ·refine ze<|zq ?_
     refine za (x0.Kind == 4) ?_ ?_
     ·refine ze<|zq<|zq<|zi fun a1 ha1 => zp (.cptr (ZI a1 .sh .sh)) (et_ (Z2Q (o:=(shrO z1v)) (k:=.i64) (n:=7) (e:=ZJ) (cs:=Z21) Z2M (fun _ => rfl) (by decide) ha1))<|zq<|zi fun r2 hr2 => ?_
      obtain ⟨_,er2,_,rfl⟩:=Z6M a1 .sh .sh r2 hr2
      refine zc [] (.p (.tup [(.v (.int .i64 r2.1)),(.v (.int .i64 r2.2))])) [(Zk x0 z27 z1v)] er2<|zq<|zq<|ze<|zq<|zq<|zq<|zp (iv (min (IntKind.i64.wrap (r2.1 * x0.Lo)) 1048576)) (ZcQ _ _)<|zq<|zq<|zi fun r3 hr3 => ?_
      obtain ⟨_,er3,_,rfl⟩:=Zp5 r2.2 x0.Hi r3 hr3
      refine zc [] (iv r3) [(Zk x0 z27 z1v)] er3<|zg ?_
      exact zr ((.p (.tup [(.v (.int .i64 (min (IntKind.i64.wrap (r2.1 * x0.Lo)) 1048576))),(.v (.int .i64 r3))])),[(Zk x0 z27 z1v)]) ⟨_,rfl⟩
     ·refine ze<|zq ?_
      refine za (x0.Kind == 5) ?_ ?_
      ·refine za (x0.Kind == 5) ?_ ?_
       ·refine ze<|zq<|zq<|zi fun a4 ha4 => zp (.cptr (ZI a4 .sh .sh)) (et_ (Z2Q (o:=(shrO z1v)) (k:=.i64) (n:=7) (e:=ZJ) (cs:=Z21) Z2M (fun _ => rfl) (by decide) ha4))<|zq<|zi fun r5 hr5 => ?_
        obtain ⟨_,er5,_,rfl⟩:=Z6M a4 .sh .sh r5 hr5
        refine zc [] (.p (.tup [(.v (.int .i64 r5.1)),(.v (.int .i64 r5.2))])) [(Zk x0 z27 z1v)] er5<|zq<|zq ?_
        exact zr ((.p (.tup [(.v (.int .i64 r5.1)),(.v (.int .i64 r5.2))])),[(Zk x0 z27 z1v)]) ⟨_,rfl⟩
       ·exact zk (Z8H 0 0)
      ·refine ze<|zq ?_
       refine za (x0.Kind == 8) ?_ ?_
       ·refine ze<|zq<|zq<|zi fun a6 ha6 => zp (.cptr (ZI a6 .sh .sh)) (et_ (Z2Q (o:=(shrO z1v)) (k:=.i64) (n:=7) (e:=ZJ) (cs:=Z21) Z2M (fun _ => rfl) (by decide) ha6))<|zq<|zi fun r7 hr7 => ?_
        obtain ⟨_,er7,_,rfl⟩:=Z6M a6 .sh .sh r7 hr7
        refine zc [] (.p (.tup [(.v (.int .i64 r7.1)),(.v (.int .i64 r7.2))])) [(Zk x0 z27 z1v)] er7<|zq<|zq ?_
        exact zr ((.p (.tup [(.v (.int .i64 r7.1)),(.v (.int .i64 r7.2))])),[(Zk x0 z27 z1v)]) ⟨_,rfl⟩
       ·exact zk (Z8H 0 0)
theorem Zp2 x0 {r} (h:Ze0 x0 = some r):Z3j x0 = some r :=
 Z1l (fun _ _ ha hb => ru_ ZdX (ha .ex .ex) (hb .ex .ex)) (fun z27 z1v => Zon x0 z27 z1v r h)
def Zbm (x2 x3:Int) (x23:List Z9) (x24 x25:Int):Option (Int × Int) :=
 (lget x23 x25).bind fun a1 =>
 (Z3j a1).bind fun r2 =>
 (Zgv x3 r2.2).bind fun r3 =>
 Z9u (min (IntKind.i64.wrap (x2 + r2.1)) 1048576) r3 x23 x24 (IntKind.i64.wrap (x25 + 1))
theorem ZlC x2 x3 (x23:List Z9) x24 x25 ox23:Sim Z3l (Zbm x2 x3 x23 x24 x25) (Zut 0 (iv x2) (iv x3) (ZP ox23 (x23.map ZJ)) (iv x24) (iv x25) []):=by
 unfold Zbm
 refine zf (ZAR ..)<|ze<|zi fun a1 ha1 => zp (.cptr (ZI a1 .sh .sh)) (et_ (Z2Q (o:=ox23) (k:=.i64) (n:=7) (e:=ZJ) (cs:=Z21) Z2M (fun _ => rfl) (by decide) ha1))<|zq<|zz (.ptr 0 0) [(Zk Z1F .nl .nl)]<|zt [(Zk a1 .sh .sh)]<|ze<|zq<|zi fun r2 hr2 => ?_
 obtain ⟨_,er2,_,rfl⟩:=Z6M a1 .sh .sh r2 hr2
 refine zc [] (.p (.tup [(.v (.int .i64 r2.1)),(.v (.int .i64 r2.2))])) [(Zk a1 .sh .sh)] er2<|zq<|zq<|ze<|zq<|zp (iv (min (IntKind.i64.wrap (x2 + r2.1)) 1048576)) (ZcQ _ _)<|zi fun r3 hr3 => ?_
 obtain ⟨_,er3,_,rfl⟩:=Zs3 x3 r2.2 r3 hr3
 refine zc [] (iv r3) [(Zk a1 .sh .sh)] er3<|ze<|zq ?_
 exact zk (ZfI (min (IntKind.i64.wrap (x2 + r2.1)) 1048576) r3 x23 x24 (IntKind.i64.wrap (x25 + 1)) ox23)
def Z9o (x2 x3:Int) (x23:List Z9) (x24 x25:Int):Option (Int × Int) :=
 if (decide (x25 < x24)) = true then
 (Zbm x2 x3 x23 x24 x25)
 else
 (Z7E x2 x3)
theorem ZlB x2 x3 (x23:List Z9) x24 x25 ox23:Sim Z3l (Z9o x2 x3 x23 x24 x25) (ZmL 0 (iv x2) (iv x3) (ZP ox23 (x23.map ZJ)) (iv x24) (iv x25) []):=by
 unfold Z9o
 refine zf (ZAQ ..)<|ze<|zq ?_
 refine za (decide (x25 < x24)) ?_ ?_
 ·exact zk (ZlC x2 x3 x23 x24 x25 ox23)
 ·exact zk (Z8H x2 x3)
theorem ZfH x2 x3 x23 x24 x25 {r} (h:Z9o x2 x3 x23 x24 x25 = some r):Z9u x2 x3 x23 x24 x25 = some r :=
 Z1l (fun _ _ ha hb => ru_ ZdX (ha .ex) (hb .ex)) (fun ox23 => ZlB x2 x3 x23 x24 x25 ox23 r h)
def Z8U (x2 x3:Int) (x45:List Z9) (x46 x47:Int):Option (Int × Int) :=
 Z8W x2 x3 x45 x46 (IntKind.i64.wrap (x47 + 1))
theorem ZeJ x2 x3 (x45:List Z9) x46 x47 ox45:Sim Z3l (Z8U x2 x3 x45 x46 x47) (ZnV 0 (iv x2) (iv x3) (ZP ox45 (x45.map ZJ)) (iv x46) (iv x47) []):=by
 unfold Z8U
 refine zf (Zyk ..)<|ze<|zq ?_
 exact zk (Zfb x2 x3 x45 x46 (IntKind.i64.wrap (x47 + 1)) ox45)
def Z8T (x2:Int) (x45:List Z9) (x46 x47:Int):Option (Int × Int) :=
 Z8U x2 (-1) x45 x46 x47
theorem ZeI x2 (x45:List Z9) x46 x47 ox45:Sim Z3l (Z8T x2 x45 x46 x47) (ZnU 0 (iv x2) (ZP ox45 (x45.map ZJ)) (iv x46) (iv x47) []):=by
 unfold Z8T
 refine zf (Zyi ..)<|ze ?_
 exact zk (ZeJ x2 (-1) x45 x46 x47 ox45)
def ZaK (x2 x3 x11:Int) (x45:List Z9) (x46 x47:Int):Option (Int × Int) :=
 Z8U x2 (max x3 x11) x45 x46 x47
theorem ZkV x2 x3 x11 (x45:List Z9) x46 x47 ox45:Sim Z3l (ZaK x2 x3 x11 x45 x46 x47) (ZrO 0 (iv x2) (iv x3) (iv x11) (ZP ox45 (x45.map ZJ)) (iv x46) (iv x47) []):=by
 unfold ZaK
 refine zf (Zyj ..)<|ze<|zp (iv (max x3 x11)) (ZnJ _ _) ?_
 exact zk (ZeJ x2 (max x3 x11) x45 x46 x47 ox45)
def ZaJ (x2 x3:Int) (x45:List Z9) (x46 x47:Int):Option (Int × Int) :=
 (lget x45 x47).bind fun a1 =>
 (Z3j a1).bind fun r2 =>
 if (decide (r2.2 < 0)) = true then
 (Z8T (min x2 r2.1) x45 x46 x47)
 else
 (if (decide (x3 < 0)) = true then
 (Z8T (min x2 r2.1) x45 x46 x47)
 else
 (ZaK (min x2 r2.1) x3 r2.2 x45 x46 x47))
theorem ZkU x2 x3 (x45:List Z9) x46 x47 ox45:Sim Z3l (ZaJ x2 x3 x45 x46 x47) (ZrN 0 (iv x2) (iv x3) (ZP ox45 (x45.map ZJ)) (iv x46) (iv x47) []):=by
 unfold ZaJ
 refine zf (Zyh ..)<|ze<|zi fun a1 ha1 => zp (.cptr (ZI a1 .sh .sh)) (et_ (Z2Q (o:=ox45) (k:=.i64) (n:=7) (e:=ZJ) (cs:=Z21) Z2M (fun _ => rfl) (by decide) ha1))<|zq<|zz (.ptr 0 0) [(Zk Z1F .nl .nl)]<|zt [(Zk a1 .sh .sh)]<|ze<|zq<|zi fun r2 hr2 => ?_
 obtain ⟨_,er2,_,rfl⟩:=Z6M a1 .sh .sh r2 hr2
 refine zc [] (.p (.tup [(.v (.int .i64 r2.1)),(.v (.int .i64 r2.2))])) [(Zk a1 .sh .sh)] er2<|zq<|zq<|ze<|zp (iv (min x2 r2.1)) (ZcQ _ _)<|ze<|zq ?_
 refine za (decide (r2.2 < 0)) ?_ ?_
 ·exact zk (ZeI (min x2 r2.1) x45 x46 x47 ox45)
 ·refine zq ?_
  refine za (decide (x3 < 0)) ?_ ?_
  ·exact zk (ZeI (min x2 r2.1) x45 x46 x47 ox45)
  ·exact zk (ZkV (min x2 r2.1) x3 r2.2 x45 x46 x47 ox45)
def Z8S (x2 x3:Int) (x45:List Z9) (x46 x47:Int):Option (Int × Int) :=
 if (decide (x47 < x46)) = true then
 (ZaJ x2 x3 x45 x46 x47)
 else
 (Z7E x2 x3)
theorem ZkT x2 x3 (x45:List Z9) x46 x47 ox45:Sim Z3l (Z8S x2 x3 x45 x46 x47) (Zky 0 (iv x2) (iv x3) (ZP ox45 (x45.map ZJ)) (iv x46) (iv x47) []):=by
 unfold Z8S
 refine zf (Zyg ..)<|ze<|zq ?_
 refine za (decide (x47 < x46)) ?_ ?_
 ·exact zk (ZkU x2 x3 x45 x46 x47 ox45)
 ·exact zk (Z8H x2 x3)
theorem Zfa x2 x3 x45 x46 x47 {r} (h:Z8S x2 x3 x45 x46 x47 = some r):Z8W x2 x3 x45 x46 x47 = some r :=
 Z1l (fun _ _ ha hb => ru_ ZdX (ha .ex) (hb .ex)) (fun ox45 => ZkT x2 x3 x45 x46 x47 ox45 r h)
def Z9p:Option Int :=
 some (0)
theorem Zfc:Sim ZK Z9p (Zqj 0 []):=by
 unfold Z9p
 refine zf (ZB2 ..)<|ze ?_
 exact zr ((iv 0),[]) ⟨_,rfl⟩
def Z9q:Option Int :=
 some (-1)
theorem Zfd:Sim ZK Z9q (Zqk 0 []):=by
 unfold Z9q
 refine zf (ZB4 ..)<|ze ?_
 exact zr ((iv (-1)),[]) ⟨_,rfl⟩
def Zbo (x0 x1:Int):Option Int :=
 (Zcv (IntKind.i64.wrap (x0 * x1))).bind fun r1 =>
 some r1
theorem ZlG x0 x1:Sim ZK (Zbo x0 x1) (ZuK 0 (iv x0) (iv x1) []):=by
 unfold Zbo
 refine zf (ZB5 ..)<|ze<|zq<|zi fun r1 hr1 => ?_
 obtain ⟨_,er1,_,rfl⟩:=ZjC (IntKind.i64.wrap (x0 * x1)) r1 hr1
 refine zc [] (iv r1) [] er1 ?_
 exact zr ((iv r1),[]) ⟨_,rfl⟩
def Zbn (x0 x1:Int):Option Int :=
 if (decide (x0 < 0)) = true then
 Z9q
 else
 (if (decide (x1 < 0)) = true then
 Z9q
 else
 (Zbo x0 x1))
theorem ZlF x0 x1:Sim ZK (Zbn x0 x1) (ZuJ 0 (iv x0) (iv x1) []):=by
 unfold Zbn
 refine zf (ZB3 ..)<|ze<|zq ?_
 refine za (decide (x0 < 0)) ?_ ?_
 ·exact zk Zfd
 ·refine zq ?_
  refine za (decide (x1 < 0)) ?_ ?_
  ·exact zk Zfd
  ·exact zk (ZlG x0 x1)
def Ze1 (x0 x1:Int):Option Int :=
 if (x0 == 0) = true then
 Z9p
 else
 (if (x1 == 0) = true then
 Z9p
 else
 (Zbn x0 x1))
theorem Zoo x0 x1:Sim ZK (Ze1 x0 x1) (EE 61 [(iv x0),(iv x1)] []):=by
 unfold Ze1
 refine zf (ZGR ..)<|ze<|ze<|zq ?_
 refine za (x0 == 0) ?_ ?_
 ·exact zk Zfc
 ·refine zq ?_
  refine za (x1 == 0) ?_ ?_
  ·exact zk Zfc
  ·exact zk (ZlF x0 x1)
theorem Zp4 x0 x1 {r} (h:Ze1 x0 x1 = some r):ZbK x0 x1 = some r :=
 Z1l (fun _ _ ha hb => ru_ Z1N ha hb) (Zoo x0 x1 r h)
def Zc3 (x0:Int):Option Int :=
 some x0
theorem Zmr x0:Sim ZK (Zc3 x0) (Zvb 0 (iv x0) []):=by
 unfold Zc3
 refine zf (ZBE ..)<|ze ?_
 exact zr ((iv x0),[]) ⟨_,rfl⟩
def Zf2 (x0:Int):Option Int :=
 if (decide (1048576 < x0)) = true then
 (some (-1))
 else
 (Zc3 x0)
theorem Zp3 x0:Sim ZK (Zf2 x0) (EE 75 [(iv x0)] []):=by
 unfold Zf2
 refine zf (ZHg ..)<|ze<|ze<|zq ?_
 refine za (decide (1048576 < x0)) ?_ ?_
 ·refine ze ?_
  exact zr ((iv (-1)),[]) ⟨_,rfl⟩
 ·exact zk (Zmr x0)
theorem ZqM x0 {r} (h:Zf2 x0 = some r):Zcv x0 = some r :=
 Z1l (fun _ _ ha hb => ru_ Z1N ha hb) (Zp3 x0 r h)
def ZaX:Option Int :=
 some (-1)
theorem Zhf:Sim ZK ZaX (Zqi 0 []):=by
 unfold ZaX
 refine zf (ZB0 ..)<|ze ?_
 exact zr ((iv (-1)),[]) ⟨_,rfl⟩
def ZcX (x0 x1:Int):Option Int :=
 (Zcv (IntKind.i64.wrap (x0 + x1))).bind fun r1 =>
 some r1
theorem Zn6 x0 x1:Sim ZK (ZcX x0 x1) (ZuF 0 (iv x0) (iv x1) []):=by
 unfold ZcX
 refine zf (ZB1 ..)<|ze<|zq<|zi fun r1 hr1 => ?_
 obtain ⟨_,er1,_,rfl⟩:=ZjC (IntKind.i64.wrap (x0 + x1)) r1 hr1
 refine zc [] (iv r1) [] er1 ?_
 exact zr ((iv r1),[]) ⟨_,rfl⟩
def Zgs (x0 x1:Int):Option Int :=
 if (decide (x0 < 0)) = true then
 ZaX
 else
 (if (decide (x1 < 0)) = true then
 ZaX
 else
 (ZcX x0 x1))
theorem ZqN x0 x1:Sim ZK (Zgs x0 x1) (EE 60 [(iv x0),(iv x1)] []):=by
 unfold Zgs
 refine zf (ZGP ..)<|ze<|ze<|zq ?_
 refine za (decide (x0 < 0)) ?_ ?_
 ·exact zk Zhf
 ·refine zq ?_
  refine za (decide (x1 < 0)) ?_ ?_
  ·exact zk Zhf
  ·exact zk (Zn6 x0 x1)
theorem Zs2 x0 x1 {r} (h:Zgs x0 x1 = some r):Zgv x0 x1 = some r :=
 Z1l (fun _ _ ha hb => ru_ Z1N ha hb) (ZqN x0 x1 r h)
def Z5A (x0:List Z9):Option Bool :=
 (Z6A x0).bind fun r1 =>
 some (decide (0 ≤ r1))
theorem Zds (x0:List Z9) ox0:Sim ZS (Z5A x0) (EE 55 [(ZP ox0 (x0.map ZJ)),(.clo 56 [] [])] []):=by
 unfold Z5A
 refine zf (ZGK ..)<|ze<|ze<|zi fun r1 hr1 => ?_
 obtain ⟨_,er1,_,rfl⟩:=Zff x0 .sh r1 hr1
 refine zc [] (iv r1) [] er1<|zq ?_
 exact zr ((bv (decide (0 ≤ r1))),[]) ⟨_,rfl⟩
theorem ZdP x0 {r} (h:Z5A x0 = some r):Z5D x0 = some r :=
 Z1l (fun _ _ ha hb => ru_ Z2P (ha .ex) (hb .ex)) (fun ox0 => Zds x0 ox0 r h)
def Z6y (x0:List Z9):Option Int :=
 Z4m x0 (x0.length:Int) 0
theorem ZeV (x0:List Z9) ox0:Sim ZK (Z6y x0) (EE 73 [(ZP ox0 (x0.map ZJ)),(.clo 56 [] [])] []):=by
 unfold Z6y
 refine zf (ZHe ..)<|ze<|ze<|zp (iv (x0.length:Int)) (et_ (Z37 (P:=PP) (t:=29) (d:=31) (by kernel_rfl) ZJ (shrO ox0) x0)) ?_
 exact zk (Z9e x0 (x0.length:Int) 0 ox0)
theorem Zfe x0 {r} (h:Z6y x0 = some r):Z6A x0 = some r :=
 Z1l (fun _ _ ha hb => ru_ Z1N (ha .ex) (hb .ex)) (fun ox0 => ZeV x0 ox0 r h)
def Z5B (x0:List Z9) (x7 x8:Int):Option Int :=
 Z4m x0 x7 (IntKind.i64.wrap (x8 + 1))
theorem Zdz (x0:List Z9) x7 x8 ox0:Sim ZK (Z5B x0 x7 x8) (Zv8 0 (ZP ox0 (x0.map ZJ)) (.clo 56 [] []) (iv x7) (iv x8) []):=by
 unfold Z5B
 refine zf (ZBB ..)<|ze<|zq ?_
 exact zk (Z9e x0 x7 (IntKind.i64.wrap (x8 + 1)) ox0)
def Z4h (x0:List Z9) (x7 x8:Int):Option Int :=
 (lget x0 x8).bind fun a1 =>
 (ZaN a1).bind fun r2 =>
 if r2 = true then
 (some x8)
 else
 (Z5B x0 x7 x8)
theorem Zdy (x0:List Z9) x7 x8 ox0:Sim ZK (Z4h x0 x7 x8) (Zv7 0 (ZP ox0 (x0.map ZJ)) (.clo 56 [] []) (iv x7) (iv x8) []):=by
 unfold Z4h
 refine zf (ZBA ..)<|ze<|ze<|zi fun a1 ha1 => zp (.cptr (ZI a1 .sh .sh)) (et_ (Z2Q (o:=(shrO ox0)) (k:=.i64) (n:=7) (e:=ZJ) (cs:=Z21) Z2M (fun _ => rfl) (by decide) ha1))<|zq<|zi fun r2 hr2 => ?_
 obtain ⟨_,er2,_,rfl⟩:=ZlE a1 .sh .sh r2 hr2
 refine zv [] (bv r2) [] er2 ?_
 refine za r2 ?_ ?_
 ·refine ze ?_
  exact zr ((iv x8),[]) ⟨_,rfl⟩
 ·exact zk (Zdz x0 x7 x8 ox0)
def Z7v:Option Int :=
 some (-1)
theorem ZdA:Sim ZK Z7v (Zv9 0 []):=by
 unfold Z7v
 refine zf (ZBC ..)<|ze ?_
 exact zr ((iv (-1)),[]) ⟨_,rfl⟩
def Z3D (x0:List Z9) (x7 x8:Int):Option Int :=
 if (decide (x8 < x7)) = true then
 (Z4h x0 x7 x8)
 else
 Z7v
theorem Zdx (x0:List Z9) x7 x8 ox0:Sim ZK (Z3D x0 x7 x8) (ZmR 0 (ZP ox0 (x0.map ZJ)) (.clo 56 [] []) (iv x7) (iv x8) []):=by
 unfold Z3D
 refine zf (ZBz ..)<|ze<|zq ?_
 refine za (decide (x8 < x7)) ?_ ?_
 ·exact zk (Zdy x0 x7 x8 ox0)
 ·exact zk ZdA
theorem Z6G x0 x7 x8 {r} (h:Z3D x0 x7 x8 = some r):Z4m x0 x7 x8 = some r :=
 Z1l (fun _ _ ha hb => ru_ Z1N (ha .ex) (hb .ex)) (fun ox0 => Zdx x0 x7 x8 ox0 r h)
def ZaL (x0:Z9):Option Bool :=
 (Z4l x0).bind fun r1 =>
 some (!r1)
theorem ZkW x0 z27 z1v:Sim ZS (ZaL x0) (EE 56 [(pA_ (ZI x0 z27 z1v))] []):=by
 unfold ZaL
 refine zf (ZGL ..)<|ze<|zx (.ptr 0 0) [(Zk x0 z27 z1v)]<|ze<|zq<|zi fun r1 hr1 => ?_
 obtain ⟨_,er1,_,rfl⟩:=Zhe x0 .sh .sh r1 hr1
 refine zc [] (bv r1) [(Zk x0 z27 z1v)] er1<|zq ?_
 exact zr ((bv (!r1)),[(Zk x0 z27 z1v)]) ⟨_,rfl⟩
theorem ZlD x0 {r} (h:ZaL x0 = some r):ZaN x0 = some r :=
 Z1l (fun _ _ ha hb => ru_ Z2P (ha .ex .ex) (hb .ex .ex)) (fun z27 z1v => ZkW x0 z27 z1v r h)
def ZiI (x0:Z9):Option Int :=
 Z6z 0 x0.Kids (x0.Kids.length:Int) 0 x0
theorem Zp1 x0 z27 z1v:Sim ZK (ZiI x0) (EE 11 [(pA_ (ZI x0 z27 z1v))] []):=by
 unfold ZiI
 refine zf (ZFB ..)<|ze<|zx (.ptr 0 0) [(Zk x0 z27 z1v)]<|ze<|ze<|zq<|zq<|zp (iv (x0.Kids.length:Int)) (et_ (Z37 (P:=PP) (t:=29) (d:=31) (by kernel_rfl) ZJ (shrO z1v) x0.Kids)) ?_
 exact zk (Zhd 0 x0.Kids (x0.Kids.length:Int) 0 x0 (shrO z1v) z27 z1v)
theorem Zf9 x0 {r} (h:ZiI x0 = some r):Z62 x0 = some r :=
 Z1l (fun _ _ ha hb => ru_ Z1N (ha .ex .ex) (hb .ex .ex)) (fun z27 z1v => Zp1 x0 z27 z1v r h)
def Zc1 (x3:Int) (x8:List Z9) (x9 x10:Int) (b0:Z9):Option Int :=
 (lget x8 x10).bind fun a1 =>
 (Z62 a1).bind fun r2 =>
 Z6z (min (IntKind.i64.wrap (x3 + r2)) 1048576) x8 x9 (IntKind.i64.wrap (x10 + 1)) b0
theorem Zmo x3 (x8:List Z9) x9 x10 b0 ox8 z1u z1A:Sim ZK (Zc1 x3 x8 x9 x10 b0) (Ztv 0 (.ptr 0 0) (iv x3) (ZP ox8 (x8.map ZJ)) (iv x9) (iv x10) [(Zk b0 z1u z1A)]):=by
 unfold Zc1
 refine zf (ZzV ..)<|ze<|zi fun a1 ha1 => zp (.cptr (ZI a1 .sh .sh)) (et_ (Z2Q (o:=ox8) (k:=.i64) (n:=7) (e:=ZJ) (cs:=Z21) Z2M (fun _ => rfl) (by decide) ha1))<|zq<|zz (.ptr 1 0) [(Zk b0 z1u z1A),(Zk Z1F .nl .nl)]<|zt [(Zk b0 z1u z1A),(Zk a1 .sh .sh)]<|ze<|zq<|zi fun r2 hr2 => ?_
 obtain ⟨_,er2,_,rfl⟩:=ZjB a1 .sh .sh r2 hr2
 refine zc [] (iv r2) [(Zk b0 z1u z1A),(Zk a1 .sh .sh)] er2<|zq<|zp (iv (min (IntKind.i64.wrap (x3 + r2)) 1048576)) (ZcQ _ _)<|ze<|zq ?_
 exact zk (Zhd (min (IntKind.i64.wrap (x3 + r2)) 1048576) x8 x9 (IntKind.i64.wrap (x10 + 1)) b0 ox8 z1u z1A)
def Z1z (x3:Int):Option Int :=
 some (min x3 1048576)
theorem Z1H x3:Sim ZK (Z1z x3) (Z4f 0 (iv x3) []):=by
 unfold Z1z
 refine zf (ZxZ ..)<|ze<|zp (iv (min x3 1048576)) (ZcQ _ _) ?_
 exact zr ((iv (min x3 1048576)),[]) ⟨_,rfl⟩
def Z1R (x3:Int) (b0:Z9):Option Int :=
 if (b0.Mode == 2) = true then
 (Z1z (IntKind.i64.wrap (x3 + 2)))
 else
 (Z1z x3)
theorem Z20 x3 b0 z1u z1A:Sim ZK (Z1R x3 b0) (Z5K 0 (.ptr 0 0) (iv x3) [(Zk b0 z1u z1A)]):=by
 unfold Z1R
 refine zf (ZxY ..)<|ze<|zq<|zq<|zq ?_
 refine za (b0.Mode == 2) ?_ ?_
 ·refine ze<|zq ?_
  exact zk (Z1H (IntKind.i64.wrap (x3 + 2)))
 ·exact zk (Z1H x3)
def Z5z (x3:Int) (b0:Z9):Option Int :=
 if (b0.Kind == 1) = true then
 (if (b0.Kind == 1) = true then
 (some (1))
 else
 (if (b0.Kind == 3) = true then
 (Z1z ((IntKind.i64.wrap (x3 + (IntKind.i64.wrap (2 * (IntKind.i64.wrap ((b0.Kids.length:Int) - 1))))))))
 else
 (if (b0.Kind == 5) = true then
 (if (b0.Kind == 5) = true then
 (Z1z (IntKind.i64.wrap (x3 + 2)))
 else
 (if (b0.Kind == 4) = true then
 (if (decide (b0.Hi < 0)) = true then
 (Z1R (IntKind.i64.wrap ((IntKind.i64.wrap (b0.Lo * x3)) + (IntKind.i64.wrap (x3 + 4)))) b0)
 else
 (Z1R ((IntKind.i64.wrap ((IntKind.i64.wrap (b0.Lo * x3)) + (IntKind.i64.wrap ((IntKind.i64.wrap (b0.Hi - b0.Lo)) * (IntKind.i64.wrap (x3 + 1))))))) b0))
 else
 (Z1z x3)))
 else
 (if (b0.Kind == 7) = true then
 (if (b0.Kind == 7) = true then
 (Z1z (IntKind.i64.wrap (x3 + 2)))
 else
 (if (b0.Kind == 4) = true then
 (if (decide (b0.Hi < 0)) = true then
 (Z1R (IntKind.i64.wrap ((IntKind.i64.wrap (b0.Lo * x3)) + (IntKind.i64.wrap (x3 + 4)))) b0)
 else
 (Z1R ((IntKind.i64.wrap ((IntKind.i64.wrap (b0.Lo * x3)) + (IntKind.i64.wrap ((IntKind.i64.wrap (b0.Hi - b0.Lo)) * (IntKind.i64.wrap (x3 + 1))))))) b0))
 else
 (Z1z x3)))
 else
 (if (b0.Kind == 8) = true then
 (Z1z (IntKind.i64.wrap (x3 + 2)))
 else
 (if (b0.Kind == 4) = true then
 (if (decide (b0.Hi < 0)) = true then
 (Z1R (IntKind.i64.wrap ((IntKind.i64.wrap (b0.Lo * x3)) + (IntKind.i64.wrap (x3 + 4)))) b0)
 else
 (Z1R ((IntKind.i64.wrap ((IntKind.i64.wrap (b0.Lo * x3)) + (IntKind.i64.wrap ((IntKind.i64.wrap (b0.Hi - b0.Lo)) * (IntKind.i64.wrap (x3 + 1))))))) b0))
 else
 (Z1z x3)))))))
 else
 (if (b0.Kind == 6) = true then
 (if (b0.Kind == 6) = true then
 (some (1))
 else
 (if (b0.Kind == 3) = true then
 (Z1z ((IntKind.i64.wrap (x3 + (IntKind.i64.wrap (2 * (IntKind.i64.wrap ((b0.Kids.length:Int) - 1))))))))
 else
 (if (b0.Kind == 5) = true then
 (if (b0.Kind == 5) = true then
 (Z1z (IntKind.i64.wrap (x3 + 2)))
 else
 (if (b0.Kind == 4) = true then
 (if (decide (b0.Hi < 0)) = true then
 (Z1R (IntKind.i64.wrap ((IntKind.i64.wrap (b0.Lo * x3)) + (IntKind.i64.wrap (x3 + 4)))) b0)
 else
 (Z1R ((IntKind.i64.wrap ((IntKind.i64.wrap (b0.Lo * x3)) + (IntKind.i64.wrap ((IntKind.i64.wrap (b0.Hi - b0.Lo)) * (IntKind.i64.wrap (x3 + 1))))))) b0))
 else
 (Z1z x3)))
 else
 (if (b0.Kind == 7) = true then
 (if (b0.Kind == 7) = true then
 (Z1z (IntKind.i64.wrap (x3 + 2)))
 else
 (if (b0.Kind == 4) = true then
 (if (decide (b0.Hi < 0)) = true then
 (Z1R (IntKind.i64.wrap ((IntKind.i64.wrap (b0.Lo * x3)) + (IntKind.i64.wrap (x3 + 4)))) b0)
 else
 (Z1R ((IntKind.i64.wrap ((IntKind.i64.wrap (b0.Lo * x3)) + (IntKind.i64.wrap ((IntKind.i64.wrap (b0.Hi - b0.Lo)) * (IntKind.i64.wrap (x3 + 1))))))) b0))
 else
 (Z1z x3)))
 else
 (if (b0.Kind == 8) = true then
 (Z1z (IntKind.i64.wrap (x3 + 2)))
 else
 (if (b0.Kind == 4) = true then
 (if (decide (b0.Hi < 0)) = true then
 (Z1R (IntKind.i64.wrap ((IntKind.i64.wrap (b0.Lo * x3)) + (IntKind.i64.wrap (x3 + 4)))) b0)
 else
 (Z1R ((IntKind.i64.wrap ((IntKind.i64.wrap (b0.Lo * x3)) + (IntKind.i64.wrap ((IntKind.i64.wrap (b0.Hi - b0.Lo)) * (IntKind.i64.wrap (x3 + 1))))))) b0))
 else
 (Z1z x3)))))))
 else
 (if (b0.Kind == 9) = true then
 (some (1))
 else
 (if (b0.Kind == 3) = true then
 (Z1z ((IntKind.i64.wrap (x3 + (IntKind.i64.wrap (2 * (IntKind.i64.wrap ((b0.Kids.length:Int) - 1))))))))
 else
 (if (b0.Kind == 5) = true then
 (if (b0.Kind == 5) = true then
 (Z1z (IntKind.i64.wrap (x3 + 2)))
 else
 (if (b0.Kind == 4) = true then
 (if (decide (b0.Hi < 0)) = true then
 (Z1R (IntKind.i64.wrap ((IntKind.i64.wrap (b0.Lo * x3)) + (IntKind.i64.wrap (x3 + 4)))) b0)
 else
 (Z1R ((IntKind.i64.wrap ((IntKind.i64.wrap (b0.Lo * x3)) + (IntKind.i64.wrap ((IntKind.i64.wrap (b0.Hi - b0.Lo)) * (IntKind.i64.wrap (x3 + 1))))))) b0))
 else
 (Z1z x3)))
 else
 (if (b0.Kind == 7) = true then
 (if (b0.Kind == 7) = true then
 (Z1z (IntKind.i64.wrap (x3 + 2)))
 else
 (if (b0.Kind == 4) = true then
 (if (decide (b0.Hi < 0)) = true then
 (Z1R (IntKind.i64.wrap ((IntKind.i64.wrap (b0.Lo * x3)) + (IntKind.i64.wrap (x3 + 4)))) b0)
 else
 (Z1R ((IntKind.i64.wrap ((IntKind.i64.wrap (b0.Lo * x3)) + (IntKind.i64.wrap ((IntKind.i64.wrap (b0.Hi - b0.Lo)) * (IntKind.i64.wrap (x3 + 1))))))) b0))
 else
 (Z1z x3)))
 else
 (if (b0.Kind == 8) = true then
 (Z1z (IntKind.i64.wrap (x3 + 2)))
 else
 (if (b0.Kind == 4) = true then
 (if (decide (b0.Hi < 0)) = true then
 (Z1R (IntKind.i64.wrap ((IntKind.i64.wrap (b0.Lo * x3)) + (IntKind.i64.wrap (x3 + 4)))) b0)
 else
 (Z1R ((IntKind.i64.wrap ((IntKind.i64.wrap (b0.Lo * x3)) + (IntKind.i64.wrap ((IntKind.i64.wrap (b0.Hi - b0.Lo)) * (IntKind.i64.wrap (x3 + 1))))))) b0))
 else
 (Z1z x3))))))))
theorem Zmp x3 b0 z1u z1A:Sim ZK (Z5z x3 b0) (Ztw 0 (.ptr 0 0) (iv x3) [(Zk b0 z1u z1A)]):=by
 unfold Z5z
 refine zf (ZzW ..)<|ze<|zq<|zq<|ze<|zq ?_
 refine za (b0.Kind == 1) ?_ ?_
 ·refine za (b0.Kind == 1) ?_ ?_
  ·refine ze ?_
   exact zr ((iv 1),[(Zk b0 z1u z1A)]) ⟨_,rfl⟩
  ·refine ze<|zq ?_
   refine za (b0.Kind == 3) ?_ ?_
   ·refine ze<|zq<|zq<|zp (iv (b0.Kids.length:Int)) (et_ (Z37 (P:=PP) (t:=29) (d:=31) (by kernel_rfl) ZJ (shrO z1A) b0.Kids))<|zq<|zq<|zq ?_
    exact zk (Z1H ((IntKind.i64.wrap (x3 + (IntKind.i64.wrap (2 * (IntKind.i64.wrap ((b0.Kids.length:Int) - 1))))))))
   ·refine ze<|zq ?_
    refine za (b0.Kind == 5) ?_ ?_
    ·refine za (b0.Kind == 5) ?_ ?_
     ·refine ze<|zq ?_
      exact zk (Z1H (IntKind.i64.wrap (x3 + 2)))
     ·refine ze<|zq ?_
      refine za (b0.Kind == 4) ?_ ?_
      ·refine ze<|ze<|zq<|zq<|zq<|ze<|zq<|zq<|zq ?_
       refine za (decide (b0.Hi < 0)) ?_ ?_
       ·refine ze<|zq<|zq ?_
        exact zk (Z20 (IntKind.i64.wrap ((IntKind.i64.wrap (b0.Lo * x3)) + (IntKind.i64.wrap (x3 + 4)))) b0 z1u z1A)
       ·refine ze<|zq<|zq<|zq<|zq<|zq<|zq<|zq<|zq ?_
        exact zk (Z20 ((IntKind.i64.wrap ((IntKind.i64.wrap (b0.Lo * x3)) + (IntKind.i64.wrap ((IntKind.i64.wrap (b0.Hi - b0.Lo)) * (IntKind.i64.wrap (x3 + 1))))))) b0 z1u z1A)
      ·exact zk (Z1H x3)
    ·refine ze<|zq ?_
     refine za (b0.Kind == 7) ?_ ?_
     ·refine za (b0.Kind == 7) ?_ ?_
      ·refine ze<|zq ?_
       exact zk (Z1H (IntKind.i64.wrap (x3 + 2)))
      ·refine ze<|zq ?_
       refine za (b0.Kind == 4) ?_ ?_
       ·refine ze<|ze<|zq<|zq<|zq<|ze<|zq<|zq<|zq ?_
        refine za (decide (b0.Hi < 0)) ?_ ?_
        ·refine ze<|zq<|zq ?_
         exact zk (Z20 (IntKind.i64.wrap ((IntKind.i64.wrap (b0.Lo * x3)) + (IntKind.i64.wrap (x3 + 4)))) b0 z1u z1A)
        ·refine ze<|zq<|zq<|zq<|zq<|zq<|zq<|zq<|zq ?_
         exact zk (Z20 ((IntKind.i64.wrap ((IntKind.i64.wrap (b0.Lo * x3)) + (IntKind.i64.wrap ((IntKind.i64.wrap (b0.Hi - b0.Lo)) * (IntKind.i64.wrap (x3 + 1))))))) b0 z1u z1A)
       ·exact zk (Z1H x3)
     ·refine ze<|zq ?_
      refine za (b0.Kind == 8) ?_ ?_
      ·refine ze<|zq ?_
       exact zk (Z1H (IntKind.i64.wrap (x3 + 2)))
      ·refine ze<|zq ?_
       refine za (b0.Kind == 4) ?_ ?_
       ·refine ze<|ze<|zq<|zq<|zq<|ze<|zq<|zq<|zq ?_
        refine za (decide (b0.Hi < 0)) ?_ ?_
        ·refine ze<|zq<|zq ?_
         exact zk (Z20 (IntKind.i64.wrap ((IntKind.i64.wrap (b0.Lo * x3)) + (IntKind.i64.wrap (x3 + 4)))) b0 z1u z1A)
        ·refine ze<|zq<|zq<|zq<|zq<|zq<|zq<|zq<|zq ?_
         exact zk (Z20 ((IntKind.i64.wrap ((IntKind.i64.wrap (b0.Lo * x3)) + (IntKind.i64.wrap ((IntKind.i64.wrap (b0.Hi - b0.Lo)) * (IntKind.i64.wrap (x3 + 1))))))) b0 z1u z1A)
       ·exact zk (Z1H x3)
 ·refine ze<|zq ?_
  refine za (b0.Kind == 6) ?_ ?_
  ·refine za (b0.Kind == 6) ?_ ?_
   ·refine ze ?_
    exact zr ((iv 1),[(Zk b0 z1u z1A)]) ⟨_,rfl⟩
   ·refine ze<|zq ?_
    refine za (b0.Kind == 3) ?_ ?_
    ·refine ze<|zq<|zq<|zp (iv (b0.Kids.length:Int)) (et_ (Z37 (P:=PP) (t:=29) (d:=31) (by kernel_rfl) ZJ (shrO z1A) b0.Kids))<|zq<|zq<|zq ?_
     exact zk (Z1H ((IntKind.i64.wrap (x3 + (IntKind.i64.wrap (2 * (IntKind.i64.wrap ((b0.Kids.length:Int) - 1))))))))
    ·refine ze<|zq ?_
     refine za (b0.Kind == 5) ?_ ?_
     ·refine za (b0.Kind == 5) ?_ ?_
      ·refine ze<|zq ?_
       exact zk (Z1H (IntKind.i64.wrap (x3 + 2)))
      ·refine ze<|zq ?_
       refine za (b0.Kind == 4) ?_ ?_
       ·refine ze<|ze<|zq<|zq<|zq<|ze<|zq<|zq<|zq ?_
        refine za (decide (b0.Hi < 0)) ?_ ?_
        ·refine ze<|zq<|zq ?_
         exact zk (Z20 (IntKind.i64.wrap ((IntKind.i64.wrap (b0.Lo * x3)) + (IntKind.i64.wrap (x3 + 4)))) b0 z1u z1A)
        ·refine ze<|zq<|zq<|zq<|zq<|zq<|zq<|zq<|zq ?_
         exact zk (Z20 ((IntKind.i64.wrap ((IntKind.i64.wrap (b0.Lo * x3)) + (IntKind.i64.wrap ((IntKind.i64.wrap (b0.Hi - b0.Lo)) * (IntKind.i64.wrap (x3 + 1))))))) b0 z1u z1A)
       ·exact zk (Z1H x3)
     ·refine ze<|zq ?_
      refine za (b0.Kind == 7) ?_ ?_
      ·refine za (b0.Kind == 7) ?_ ?_
       ·refine ze<|zq ?_
        exact zk (Z1H (IntKind.i64.wrap (x3 + 2)))
       ·refine ze<|zq ?_
        refine za (b0.Kind == 4) ?_ ?_
        ·refine ze<|ze<|zq<|zq<|zq<|ze<|zq<|zq<|zq ?_
         refine za (decide (b0.Hi < 0)) ?_ ?_
         ·refine ze<|zq<|zq ?_
          exact zk (Z20 (IntKind.i64.wrap ((IntKind.i64.wrap (b0.Lo * x3)) + (IntKind.i64.wrap (x3 + 4)))) b0 z1u z1A)
         ·refine ze<|zq<|zq<|zq<|zq<|zq<|zq<|zq<|zq ?_
          exact zk (Z20 ((IntKind.i64.wrap ((IntKind.i64.wrap (b0.Lo * x3)) + (IntKind.i64.wrap ((IntKind.i64.wrap (b0.Hi - b0.Lo)) * (IntKind.i64.wrap (x3 + 1))))))) b0 z1u z1A)
        ·exact zk (Z1H x3)
      ·refine ze<|zq ?_
       refine za (b0.Kind == 8) ?_ ?_
       ·refine ze<|zq ?_
        exact zk (Z1H (IntKind.i64.wrap (x3 + 2)))
       ·refine ze<|zq ?_
        refine za (b0.Kind == 4) ?_ ?_
        ·refine ze<|ze<|zq<|zq<|zq<|ze<|zq<|zq<|zq ?_
         refine za (decide (b0.Hi < 0)) ?_ ?_
         ·refine ze<|zq<|zq ?_
          exact zk (Z20 (IntKind.i64.wrap ((IntKind.i64.wrap (b0.Lo * x3)) + (IntKind.i64.wrap (x3 + 4)))) b0 z1u z1A)
         ·refine ze<|zq<|zq<|zq<|zq<|zq<|zq<|zq<|zq ?_
          exact zk (Z20 ((IntKind.i64.wrap ((IntKind.i64.wrap (b0.Lo * x3)) + (IntKind.i64.wrap ((IntKind.i64.wrap (b0.Hi - b0.Lo)) * (IntKind.i64.wrap (x3 + 1))))))) b0 z1u z1A)
        ·exact zk (Z1H x3)
  ·refine ze<|zq ?_
   refine za (b0.Kind == 9) ?_ ?_
   ·refine ze ?_
    exact zr ((iv 1),[(Zk b0 z1u z1A)]) ⟨_,rfl⟩
   ·refine ze<|zq ?_
    refine za (b0.Kind == 3) ?_ ?_
    ·refine ze<|zq<|zq<|zp (iv (b0.Kids.length:Int)) (et_ (Z37 (P:=PP) (t:=29) (d:=31) (by kernel_rfl) ZJ (shrO z1A) b0.Kids))<|zq<|zq<|zq ?_
     exact zk (Z1H ((IntKind.i64.wrap (x3 + (IntKind.i64.wrap (2 * (IntKind.i64.wrap ((b0.Kids.length:Int) - 1))))))))
    ·refine ze<|zq ?_
     refine za (b0.Kind == 5) ?_ ?_
     ·refine za (b0.Kind == 5) ?_ ?_
      ·refine ze<|zq ?_
       exact zk (Z1H (IntKind.i64.wrap (x3 + 2)))
      ·refine ze<|zq ?_
       refine za (b0.Kind == 4) ?_ ?_
       ·refine ze<|ze<|zq<|zq<|zq<|ze<|zq<|zq<|zq ?_
        refine za (decide (b0.Hi < 0)) ?_ ?_
        ·refine ze<|zq<|zq ?_
         exact zk (Z20 (IntKind.i64.wrap ((IntKind.i64.wrap (b0.Lo * x3)) + (IntKind.i64.wrap (x3 + 4)))) b0 z1u z1A)
        ·refine ze<|zq<|zq<|zq<|zq<|zq<|zq<|zq<|zq ?_
         exact zk (Z20 ((IntKind.i64.wrap ((IntKind.i64.wrap (b0.Lo * x3)) + (IntKind.i64.wrap ((IntKind.i64.wrap (b0.Hi - b0.Lo)) * (IntKind.i64.wrap (x3 + 1))))))) b0 z1u z1A)
       ·exact zk (Z1H x3)
     ·refine ze<|zq ?_
      refine za (b0.Kind == 7) ?_ ?_
      ·refine za (b0.Kind == 7) ?_ ?_
       ·refine ze<|zq ?_
        exact zk (Z1H (IntKind.i64.wrap (x3 + 2)))
       ·refine ze<|zq ?_
        refine za (b0.Kind == 4) ?_ ?_
        ·refine ze<|ze<|zq<|zq<|zq<|ze<|zq<|zq<|zq ?_
         refine za (decide (b0.Hi < 0)) ?_ ?_
         ·refine ze<|zq<|zq ?_
          exact zk (Z20 (IntKind.i64.wrap ((IntKind.i64.wrap (b0.Lo * x3)) + (IntKind.i64.wrap (x3 + 4)))) b0 z1u z1A)
         ·refine ze<|zq<|zq<|zq<|zq<|zq<|zq<|zq<|zq ?_
          exact zk (Z20 ((IntKind.i64.wrap ((IntKind.i64.wrap (b0.Lo * x3)) + (IntKind.i64.wrap ((IntKind.i64.wrap (b0.Hi - b0.Lo)) * (IntKind.i64.wrap (x3 + 1))))))) b0 z1u z1A)
        ·exact zk (Z1H x3)
      ·refine ze<|zq ?_
       refine za (b0.Kind == 8) ?_ ?_
       ·refine ze<|zq ?_
        exact zk (Z1H (IntKind.i64.wrap (x3 + 2)))
       ·refine ze<|zq ?_
        refine za (b0.Kind == 4) ?_ ?_
        ·refine ze<|ze<|zq<|zq<|zq<|ze<|zq<|zq<|zq ?_
         refine za (decide (b0.Hi < 0)) ?_ ?_
         ·refine ze<|zq<|zq ?_
          exact zk (Z20 (IntKind.i64.wrap ((IntKind.i64.wrap (b0.Lo * x3)) + (IntKind.i64.wrap (x3 + 4)))) b0 z1u z1A)
         ·refine ze<|zq<|zq<|zq<|zq<|zq<|zq<|zq<|zq ?_
          exact zk (Z20 ((IntKind.i64.wrap ((IntKind.i64.wrap (b0.Lo * x3)) + (IntKind.i64.wrap ((IntKind.i64.wrap (b0.Hi - b0.Lo)) * (IntKind.i64.wrap (x3 + 1))))))) b0 z1u z1A)
        ·exact zk (Z1H x3)
def Zad (x3:Int) (x8:List Z9) (x9 x10:Int) (b0:Z9):Option Int :=
 if (decide (x10 < x9)) = true then
 (Zc1 x3 x8 x9 x10 b0)
 else
 (Z5z x3 b0)
theorem Zmn x3 (x8:List Z9) x9 x10 b0 ox8 z1u z1A:Sim ZK (Zad x3 x8 x9 x10 b0) (Zmy 0 (.ptr 0 0) (iv x3) (ZP ox8 (x8.map ZJ)) (iv x9) (iv x10) [(Zk b0 z1u z1A)]):=by
 unfold Zad
 refine zf (ZzU ..)<|ze<|zq ?_
 refine za (decide (x10 < x9)) ?_ ?_
 ·exact zk (Zmo x3 x8 x9 x10 b0 ox8 z1u z1A)
 ·exact zk (Zmp x3 b0 z1u z1A)
theorem Zhc x3 x8 x9 x10 b0 {r} (h:Zad x3 x8 x9 x10 b0 = some r):Z6z x3 x8 x9 x10 b0 = some r :=
 Z1l (fun _ _ ha hb => ru_ Z1N (ha .ex .ex .ex) (hb .ex .ex .ex)) (fun ox8 z1u z1A => Zmn x3 x8 x9 x10 b0 ox8 z1u z1A r h)
def Z8E (x1:Zl) (zG:List Zl):Option (Int × (List Zl)) :=
 (lapp zG ([x1]:List Zl)).bind fun a1 =>
 some ((IntKind.i64.wrap ((a1.length:Int) - 1)),a1)
theorem Zib x1 (zG:List Zl) zB zD zN:Sim (Z8x zB zD) (Z8E x1 zG) (EE 28 [(.ptr 0 0),(pA_ (Z1q x1 zN))] [[(.p (.ml 6 (zG.map ZC))),(bv zB),(iv zD)]]):=by
 unfold Z8E
 refine zf (ZG9 ..)<|ze<|zx (.ptr 1 0) [[(.p (.ml 6 (zG.map ZC))),(bv zB),(iv zD)],(ZO x1 zN)]<|ze<|zq<|zq<|zw (.p (.ml 6 (zG.map ZC))) [[(.p (.hd (List.length (zG.map ZC)))),(bv zB),(iv zD)],(ZO x1 zN)]<|zq<|zq<|zi fun a1 ha1 => zp (.p (.ml 6 (a1.map ZC))) (Eq.trans (by kernel_rfl) <| ZE0 (n:=6) (o':=.ex) (e:=ZC) (ys:=([x1]:List Zl)) (fun _ => rfl) (by decide) ha1)<|zq<|zq<|zt [[(.p (.ml 6 (a1.map ZC))),(bv zB),(iv zD)],(ZO x1 zN)]<|zg<|ze<|zq<|zq<|zq<|zp (iv (a1.length:Int)) (et_ (ZbT (P:=PP) (t:=23) (d:=40) (by kernel_rfl) ZC a1))<|zq ?_
 exact zr ((iv (IntKind.i64.wrap ((a1.length:Int) - 1))),[[(.p (.ml 6 (a1.map ZC))),(bv zB),(iv zD)],(ZO x1 zN)]) ⟨_,rfl⟩
theorem ZiZ x1 zG {r} (h:Z8E x1 zG = some r):Z1n x1 zG = some r :=
 Z1l (fun _ _ ha hb => ru_ (Zjh _ _) (ha default default .ex) (hb default default .ex)) (fun zB zD zN => Zib x1 zG zB zD zN r h)
def Z3s (x4:List Z8) (zG:List Zl) (zD:Int):Option ((List Zl) × Int) :=
 (Z9g x4 ([]:List Z8)).bind fun r1 =>
 (Z1n (Zl.mk 1 0 0 0 0 r1.1) zG).bind fun r2 =>
 some (r2.2,zD)
theorem ZaF (x4:List Z8) (zG:List Zl) zB zD ox4:Sim (Z18 zB) (Z3s x4 zG zD) (Zq0 1 (.ptr 1 0) (ZP ox4 (x4.map Zz)) [[(.p (.ml 6 (zG.map ZC))),(bv zB),(iv zD)],[(.ptr 0 0)]]):=by
 unfold Z3s
 refine zf (ZAs ..)<|ze<|zi fun r1 hr1 => ?_
 obtain ⟨_,er1,_,rfl⟩:=ZhI x4 ([]:List Z8) .sh .sh r1 hr1
 refine zc [] (.p (.tup [(.lst .sh (r1.1.map Zz)),(.v (.int .i64 r1.2))])) [[(.p (.ml 6 (zG.map ZC))),(bv zB),(iv zD)],[(.ptr 0 0)]] er1<|zq<|zq<|ze<|zq<|zq<|zi fun r2 hr2 => ?_
 obtain ⟨_,er2,_,rfl⟩:=Z1w (Zl.mk 1 0 0 0 0 r1.1) zG zB zD .sh r2 hr2
 refine zc [0] (iv r2.1) [[(.p (.ml 6 (r2.2.map ZC))),(bv zB),(iv zD)],[(.ptr 0 0)]] er2 ?_
 exact zr ((.p (.tup [])),[[(.p (.ml 6 (r2.2.map ZC))),(bv zB),(iv zD)],[(.ptr 0 0)]]) ⟨_,rfl⟩
def Z3h (zG:List Zl) (zD za6 zcb zcc zcd zce:Int) (z2r:List Z8):Option ((List Zl) × Int) :=
 (Z1n (Zl.mk za6 zcb zcc zcd zce z2r) zG).bind fun r1 =>
 some (r1.2,zD)
theorem Zai (zG:List Zl) zB zD b2 za6 zcb zcc zcd zce z2r z1c zZ z34 (zbw:ZM z34 = true):Sim (Z18 zB) (Z3h zG zD za6 zcb zcc zcd zce z2r) (ZnS 1 (.ptr 1 0) (.ptr 3 0) [[(.p (.ml 6 (zG.map ZC))),(bv zB),(iv zD)],[(.ptr 0 0)],(Zk b2 z1c zZ),(ZO (Zl.mk za6 zcb zcc zcd zce z2r) z34)]):=by
 unfold Z3h
 refine zf (Zy4 ..)<|ze<|zq<|zq<|zi fun r1 hr1 => ?_
 obtain ⟨_,er1,_,rfl⟩:=Z1w (Zl.mk za6 zcb zcc zcd zce z2r) zG zB zD .sh r1 hr1
 refine zc [0] (iv r1.1) [[(.p (.ml 6 (r1.2.map ZC))),(bv zB),(iv zD)],[(.ptr 0 0)],(Zk b2 z1c zZ),(ZO (Zl.mk za6 zcb zcc zcd zce z2r) z34)] er1 ?_
 exact zr ((.p (.tup [])),[[(.p (.ml 6 (r1.2.map ZC))),(bv zB),(iv zD)],[(.ptr 0 0)],(Zk b2 z1c zZ),(ZO (Zl.mk za6 zcb zcc zcd zce z2r) z34)]) ⟨_,rfl⟩
def Z3i (zG:List Zl) (zB:Bool) (zD:Int) (b2:Z9) (za6 zcb zcc zcd zce:Int) (z2r:List Z8):Option ((List Zl) × Int) :=
 (Z7B (Zl.mk za6 zcb zcc zcd zce z2r) zG zB zD b2).bind fun r1 =>
 some (r1.1,r1.2)
theorem Zaj (zG:List Zl) zB zD b2 za6 zcb zcc zcd zce z2r z1c zZ z34 (zbw:ZM z34 = true):Sim (Z18 zB) (Z3i zG zB zD b2 za6 zcb zcc zcd zce z2r) (ZnT 1 (.ptr 1 0) (.ptr 2 0) (.ptr 3 0) [[(.p (.ml 6 (zG.map ZC))),(bv zB),(iv zD)],[(.ptr 0 0)],(Zk b2 z1c zZ),(ZO (Zl.mk za6 zcb zcc zcd zce z2r) z34)]):=by
 unfold Z3i
 refine zf (Zy5 ..)<|ze<|zq<|zq<|zi fun r1 hr1 => ?_
 obtain ⟨_,er1,_,rfl⟩:=Zhb (Zl.mk za6 zcb zcc zcd zce z2r) zG zB zD b2 .sh z1c zZ r1 hr1
 refine zc [0,1,2] (.p (.tup [])) [[(.p (.ml 6 (r1.1.map ZC))),(bv zB),(iv r1.2)],[(.ptr 0 0)],(Zk b2 z1c zZ),(ZO (Zl.mk za6 zcb zcc zcd zce z2r) z34)] er1 ?_
 exact zr ((.p (.tup [])),[[(.p (.ml 6 (r1.1.map ZC))),(bv zB),(iv r1.2)],[(.ptr 0 0)],(Zk b2 z1c zZ),(ZO (Zl.mk za6 zcb zcc zcd zce z2r) z34)]) ⟨_,rfl⟩
def Z5n (x1:Z9) (zG:List Zl) (zB:Bool) (zD:Int):Option ((List Zl) × Int) :=
 if (x1.Kind == 1) = true then
 (if zB = true then
 ((Z9r x1.Set).bind fun r1 =>
 Z3s r1.1 zG zD)
 else
 (Z3s x1.Set zG zD))
 else
 (if (x1.Kind == 2) = true then
 (Z5e x1.Kids (x1.Kids.length:Int) 0 zG zB zD)
 else
 (if (x1.Kind == 3) = true then
 ((Z71 x1.Kids zG zB zD).bind fun r2 =>
 some (r2.1,r2.2))
 else
 (if (x1.Kind == 4) = true then
 (if (x1.Mode == 2) = true then
 ((Z4N (Zl.mk 8 0 0 0 0 ([]:List Z8)) zG zB zD x1).bind fun r3 =>
 some (r3.1,r3.2))
 else
 ((Z4K x1 zG zB zD).bind fun r4 =>
 some (r4.1,r4.2)))
 else
 (if (x1.Kind == 5) = true then
 ((Z1n (Zl.mk 4 (IntKind.i64.wrap (2 * x1.Ref)) 0 0 0 ([]:List Z8)) zG).bind fun r5 =>
 (lget x1.Kids 0).bind fun a6 =>
 (Z1U a6 r5.2 zB zD).bind fun r7 =>
 (Z1n ((Zl.mk 4 (IntKind.i64.wrap ((IntKind.i64.wrap (2 * x1.Ref)) + 1)) 0 0 0 ([]:List Z8))) r7.1).bind fun r8 =>
 some (r8.2,r7.2))
 else
 (if (x1.Kind == 6) = true then
 (if zB = true then
 (Z3h zG zD 5 x1.Ref 1 0 0 ([]:List Z8))
 else
 (Z3h zG zD 5 x1.Ref 0 0 0 ([]:List Z8)))
 else
 (if (x1.Kind == 7) = true then
 (if (decide (2 ≤ x1.Mode)) = true then
 ((lget x1.Kids 0).bind fun a9 =>
 (Z3j a9).bind fun r10 =>
 Z3i zG zB zD x1 7 x1.Mode 0 r10.1 r10.2 ([]:List Z8))
 else
 (Z3i zG zB zD x1 7 x1.Mode 0 0 0 ([]:List Z8)))
 else
 (if (x1.Kind == 8) = true then
 ((Z61 (Zl.mk 8 0 0 0 0 ([]:List Z8)) zG zB zD x1).bind fun r11 =>
 some (r11.1,r11.2))
 else
 (if (x1.Kind == 9) = true then
 ((Z1n (Zl.mk 6 x1.Ref 0 0 0 ([]:List Z8)) zG).bind fun r12 =>
 some (r12.2,zD))
 else
 (some (zG,zD))))))))))
theorem Zhv x1 (zG:List Zl) zB zD zN zW:Sim (Z18 zB) (Z5n x1 zG zB zD) (EE 29 [(.ptr 0 0),(pA_ (ZI x1 zN zW))] [[(.p (.ml 6 (zG.map ZC))),(bv zB),(iv zD)]]):=by
 unfold Z5n
 refine zf (ZGa ..)<|ze<|zx (.ptr 1 0) [[(.p (.ml 6 (zG.map ZC))),(bv zB),(iv zD)],[(.ptr 0 0)]]<|zx (.ptr 2 0) [[(.p (.ml 6 (zG.map ZC))),(bv zB),(iv zD)],[(.ptr 0 0)],(Zk x1 zN zW)]<|ze<|zq<|zq<|ze<|zq ?_
 refine za (x1.Kind == 1) ?_ ?_
 ·refine ze<|zq<|zq<|ze<|zq<|zq<|zq<|zq ?_
  refine za zB ?_ ?_
  ·refine ze<|zi fun r1 hr1 => ?_
   obtain ⟨_,er1,_,rfl⟩:=Zmg x1.Set .sh r1 hr1
   refine zc [] (.p (.tup [(.lst .sh (r1.1.map Zz)),(.v (.int .i64 r1.2))])) [[(.p (.ml 6 (zG.map ZC))),(bv zB),(iv zD)],[(.ptr 0 0)],(Zk x1 zN zW)] er1<|zq<|zq ?_
   exact zk (ZaF r1.1 zG zB zD .sh)
  ·exact zk (ZaF x1.Set zG zB zD (shrO (shrO zN)))
 ·refine ze<|zq ?_
  refine za (x1.Kind == 2) ?_ ?_
  ·refine ze<|zq<|zq<|zp (iv (x1.Kids.length:Int)) (et_ (Z37 (P:=PP) (t:=29) (d:=31) (by kernel_rfl) ZJ (shrO zW) x1.Kids)) ?_
   exact zk (ZaE x1.Kids (x1.Kids.length:Int) 0 zG zB zD (shrO zW))
  ·refine ze<|zq ?_
   refine za (x1.Kind == 3) ?_ ?_
   ·refine ze<|zq<|zq<|zq<|zi fun r2 hr2 => ?_
    obtain ⟨_,er2,_,rfl⟩:=ZiY x1.Kids zG zB zD .sh r2 hr2
    refine zc [0] (.p (.tup [])) [[(.p (.ml 6 (r2.1.map ZC))),(bv zB),(iv r2.2)],[(.ptr 0 0)],(Zk x1 zN zW)] er2 ?_
    exact zr ((.p (.tup [])),[[(.p (.ml 6 (r2.1.map ZC))),(bv zB),(iv r2.2)],[(.ptr 0 0)],(Zk x1 zN zW)]) ⟨_,rfl⟩
   ·refine ze<|zq ?_
    refine za (x1.Kind == 4) ?_ ?_
    ·refine ze<|zq<|zq<|zq ?_
     refine za (x1.Mode == 2) ?_ ?_
     ·refine ze<|zq<|zq<|zi fun r3 hr3 => ?_
      obtain ⟨_,er3,_,rfl⟩:=Zh7 (Zl.mk 8 0 0 0 0 ([]:List Z8)) zG zB zD x1 .sh zN zW r3 hr3
      refine zc [0,1,2] (.p (.tup [])) [[(.p (.ml 6 (r3.1.map ZC))),(bv zB),(iv r3.2)],[(.ptr 0 0)],(Zk x1 zN zW)] er3 ?_
      exact zr ((.p (.tup [])),[[(.p (.ml 6 (r3.1.map ZC))),(bv zB),(iv r3.2)],[(.ptr 0 0)],(Zk x1 zN zW)]) ⟨_,rfl⟩
     ·refine ze<|zq<|zq<|zi fun r4 hr4 => ?_
      obtain ⟨_,er4,_,rfl⟩:=Zbc x1 zG zB zD .sh .sh r4 hr4
      refine zc [0] (.p (.tup [])) [[(.p (.ml 6 (r4.1.map ZC))),(bv zB),(iv r4.2)],[(.ptr 0 0)],(Zk x1 zN zW)] er4 ?_
      exact zr ((.p (.tup [])),[[(.p (.ml 6 (r4.1.map ZC))),(bv zB),(iv r4.2)],[(.ptr 0 0)],(Zk x1 zN zW)]) ⟨_,rfl⟩
    ·refine ze<|zq ?_
     refine za (x1.Kind == 5) ?_ ?_
     ·refine ze<|zq<|zq<|zq<|zq<|zq<|zi fun r5 hr5 => ?_
      obtain ⟨_,er5,_,rfl⟩:=Z1w (Zl.mk 4 (IntKind.i64.wrap (2 * x1.Ref)) 0 0 0 ([]:List Z8)) zG zB zD .sh r5 hr5
      refine zc [0] (iv r5.1) [[(.p (.ml 6 (r5.2.map ZC))),(bv zB),(iv zD)],[(.ptr 0 0)],(Zk x1 zN zW)] er5<|ze<|zq<|zq<|zq<|zi fun a6 ha6 => zp (.cptr (ZI a6 .sh .sh)) (et_ (Z2Q (o:=(shrO zW)) (k:=.i64) (n:=7) (e:=ZJ) (cs:=Z21) Z2M (fun _ => rfl) (by decide) ha6))<|zq<|zi fun r7 hr7 => ?_
      obtain ⟨_,er7,_,rfl⟩:=Z2N a6 r5.2 zB zD .sh .sh r7 hr7
      refine zc [0] (.p (.tup [])) [[(.p (.ml 6 (r7.1.map ZC))),(bv zB),(iv r7.2)],[(.ptr 0 0)],(Zk x1 zN zW)] er7<|ze<|zq<|zq<|zq<|zq<|zq<|zq<|zi fun r8 hr8 => ?_
      obtain ⟨_,er8,_,rfl⟩:=Z1w ((Zl.mk 4 (IntKind.i64.wrap ((IntKind.i64.wrap (2 * x1.Ref)) + 1)) 0 0 0 ([]:List Z8))) r7.1 zB r7.2 .sh r8 hr8
      refine zc [0] (iv r8.1) [[(.p (.ml 6 (r8.2.map ZC))),(bv zB),(iv r7.2)],[(.ptr 0 0)],(Zk x1 zN zW)] er8 ?_
      exact zr ((.p (.tup [])),[[(.p (.ml 6 (r8.2.map ZC))),(bv zB),(iv r7.2)],[(.ptr 0 0)],(Zk x1 zN zW)]) ⟨_,rfl⟩
     ·refine ze<|zq ?_
      refine za (x1.Kind == 6) ?_ ?_
      ·refine ze<|zq<|zq<|zq<|zz (.ptr 3 0) [[(.p (.ml 6 (zG.map ZC))),(bv zB),(iv zD)],[(.ptr 0 0)],(Zk x1 zN zW),(ZO Zps .nl)]<|zt [[(.p (.ml 6 (zG.map ZC))),(bv zB),(iv zD)],[(.ptr 0 0)],(Zk x1 zN zW),(ZO (Zl.mk 5 x1.Ref 0 0 0 ([]:List Z8)) .nl)]<|ze<|zq<|zq<|zq<|zq ?_
       refine za zB ?_ ?_
       ·refine ze<|zq<|zt [[(.p (.ml 6 (zG.map ZC))),(bv zB),(iv zD)],[(.ptr 0 0)],(Zk x1 zN zW),(ZO (Zl.mk 5 x1.Ref 1 0 0 ([]:List Z8)) .nl)] ?_
        exact zk (Zai zG zB zD x1 5 x1.Ref 1 0 0 ([]:List Z8) zN zW .nl rfl)
       ·exact zk (Zai zG zB zD x1 5 x1.Ref 0 0 0 ([]:List Z8) zN zW .nl rfl)
      ·refine ze<|zq ?_
       refine za (x1.Kind == 7) ?_ ?_
       ·refine ze<|zq<|zq<|zq<|zz (.ptr 3 0) [[(.p (.ml 6 (zG.map ZC))),(bv zB),(iv zD)],[(.ptr 0 0)],(Zk x1 zN zW),(ZO Zps .nl)]<|zt [[(.p (.ml 6 (zG.map ZC))),(bv zB),(iv zD)],[(.ptr 0 0)],(Zk x1 zN zW),(ZO (Zl.mk 7 x1.Mode 0 0 0 ([]:List Z8)) .nl)]<|ze<|zq<|zq<|zq ?_
        refine za (decide (2 ≤ x1.Mode)) ?_ ?_
        ·refine ze<|zq<|zq<|zi fun a9 ha9 => zp (.cptr (ZI a9 .sh .sh)) (et_ (Z2Q (o:=(shrO zW)) (k:=.i64) (n:=7) (e:=ZJ) (cs:=Z21) Z2M (fun _ => rfl) (by decide) ha9))<|zq<|zi fun r10 hr10 => ?_
         obtain ⟨_,er10,_,rfl⟩:=Z6M a9 .sh .sh r10 hr10
         refine zc [] (.p (.tup [(.v (.int .i64 r10.1)),(.v (.int .i64 r10.2))])) [[(.p (.ml 6 (zG.map ZC))),(bv zB),(iv zD)],[(.ptr 0 0)],(Zk x1 zN zW),(ZO (Zl.mk 7 x1.Mode 0 0 0 ([]:List Z8)) .nl)] er10<|zq<|zq<|zq<|zt [[(.p (.ml 6 (zG.map ZC))),(bv zB),(iv zD)],[(.ptr 0 0)],(Zk x1 zN zW),(ZO (Zl.mk 7 x1.Mode 0 r10.1 0 ([]:List Z8)) .nl)]<|zq<|zt [[(.p (.ml 6 (zG.map ZC))),(bv zB),(iv zD)],[(.ptr 0 0)],(Zk x1 zN zW),(ZO (Zl.mk 7 x1.Mode 0 r10.1 r10.2 ([]:List Z8)) .nl)] ?_
         exact zk (Zaj zG zB zD x1 7 x1.Mode 0 r10.1 r10.2 ([]:List Z8) zN zW .nl rfl)
        ·exact zk (Zaj zG zB zD x1 7 x1.Mode 0 0 0 ([]:List Z8) zN zW .nl rfl)
       ·refine ze<|zq ?_
        refine za (x1.Kind == 8) ?_ ?_
        ·refine ze<|zq<|zq<|zi fun r11 hr11 => ?_
         obtain ⟨_,er11,_,rfl⟩:=Zh9 (Zl.mk 8 0 0 0 0 ([]:List Z8)) zG zB zD x1 .sh zN zW r11 hr11
         refine zc [0,1,2] (.p (.tup [])) [[(.p (.ml 6 (r11.1.map ZC))),(bv zB),(iv r11.2)],[(.ptr 0 0)],(Zk x1 zN zW)] er11 ?_
         exact zr ((.p (.tup [])),[[(.p (.ml 6 (r11.1.map ZC))),(bv zB),(iv r11.2)],[(.ptr 0 0)],(Zk x1 zN zW)]) ⟨_,rfl⟩
        ·refine ze<|zq ?_
         refine za (x1.Kind == 9) ?_ ?_
         ·refine ze<|zq<|zq<|zq<|zq<|zi fun r12 hr12 => ?_
          obtain ⟨_,er12,_,rfl⟩:=Z1w (Zl.mk 6 x1.Ref 0 0 0 ([]:List Z8)) zG zB zD .sh r12 hr12
          refine zc [0] (iv r12.1) [[(.p (.ml 6 (r12.2.map ZC))),(bv zB),(iv zD)],[(.ptr 0 0)],(Zk x1 zN zW)] er12 ?_
          exact zr ((.p (.tup [])),[[(.p (.ml 6 (r12.2.map ZC))),(bv zB),(iv zD)],[(.ptr 0 0)],(Zk x1 zN zW)]) ⟨_,rfl⟩
         ·exact zr ((.p (.tup [])),[[(.p (.ml 6 (zG.map ZC))),(bv zB),(iv zD)],[(.ptr 0 0)],(Zk x1 zN zW)]) ⟨_,rfl⟩
theorem Zc7 x1 zG zB zD {r} (h:Z5n x1 zG zB zD = some r):Z1U x1 zG zB zD = some r :=
 Z1l (fun _ _ ha hb => ru_ (Z30 _) (ha .ex .ex) (hb .ex .ex)) (fun zN zW => Zhv x1 zG zB zD zN zW r h)
def Z6H (x36:List Z9) (x37 x38:Int) (zG:List Zl) (zB:Bool) (zD:Int):Option ((List Zl) × Int) :=
 (lget x36 x38).bind fun a1 =>
 (Z1U a1 zG zB zD).bind fun r2 =>
 Z5e x36 x37 (IntKind.i64.wrap (x38 + 1)) r2.1 zB r2.2
theorem Zf8 (x36:List Z9) x37 x38 (zG:List Zl) zB zD ox36:Sim (Z18 zB) (Z6H x36 x37 x38 zG zB zD) (ZrG 1 (.ptr 1 0) (ZP ox36 (x36.map ZJ)) (iv x37) (iv x38) [[(.p (.ml 6 (zG.map ZC))),(bv zB),(iv zD)],[(.ptr 0 0)]]):=by
 unfold Z6H
 refine zf (Zy3 ..)<|ze<|zi fun a1 ha1 => zp (.cptr (ZI a1 .sh .sh)) (et_ (Z2Q (o:=ox36) (k:=.i64) (n:=7) (e:=ZJ) (cs:=Z21) Z2M (fun _ => rfl) (by decide) ha1))<|zq<|zz (.ptr 2 0) [[(.p (.ml 6 (zG.map ZC))),(bv zB),(iv zD)],[(.ptr 0 0)],(Zk Z1F .nl .nl)]<|zt [[(.p (.ml 6 (zG.map ZC))),(bv zB),(iv zD)],[(.ptr 0 0)],(Zk a1 .sh .sh)]<|ze<|zq<|zq<|zi fun r2 hr2 => ?_
 obtain ⟨_,er2,_,rfl⟩:=Z2N a1 zG zB zD .sh .sh r2 hr2
 refine zc [0] (.p (.tup [])) [[(.p (.ml 6 (r2.1.map ZC))),(bv zB),(iv r2.2)],[(.ptr 0 0)],(Zk a1 .sh .sh)] er2<|ze<|zq ?_
 exact zk (ZaE x36 x37 (IntKind.i64.wrap (x38 + 1)) r2.1 zB r2.2 ox36)
def Z5c (x36:List Z9) (x37 x38:Int) (zG:List Zl) (zB:Bool) (zD:Int):Option ((List Zl) × Int) :=
 if (decide (x38 < x37)) = true then
 (Z6H x36 x37 x38 zG zB zD)
 else
 (some (zG,zD))
theorem Zf7 (x36:List Z9) x37 x38 (zG:List Zl) zB zD ox36:Sim (Z18 zB) (Z5c x36 x37 x38 zG zB zD) (Zks 1 (.ptr 1 0) (ZP ox36 (x36.map ZJ)) (iv x37) (iv x38) [[(.p (.ml 6 (zG.map ZC))),(bv zB),(iv zD)],[(.ptr 0 0)]]):=by
 unfold Z5c
 refine zf (Zy2 ..)<|ze<|zq ?_
 refine za (decide (x38 < x37)) ?_ ?_
 ·exact zk (Zf8 x36 x37 x38 zG zB zD ox36)
 ·exact zr ((.p (.tup [])),[[(.p (.ml 6 (zG.map ZC))),(bv zB),(iv zD)],[(.ptr 0 0)]]) ⟨_,rfl⟩
theorem ZaD x36 x37 x38 zG zB zD {r} (h:Z5c x36 x37 x38 zG zB zD = some r):Z5e x36 x37 x38 zG zB zD = some r :=
 Z1l (fun _ _ ha hb => ru_ (Z30 _) (ha .ex) (hb .ex)) (fun ox36 => Zf7 x36 x37 x38 zG zB zD ox36 r h)
def Z9E (x0:List Z8):Option ((List Z8) × Int) :=
 (Zbu x0).bind fun r1 =>
 (okA r1.1).bind fun a2 =>
 Z7U x0 r1.2 65
theorem Zjk (x0:List Z8) ox0:Sim Z2V (Z9E x0) (ZtM 0 (ZP ox0 (x0.map Zz)) []):=by
 unfold Z9E
 refine zf (ZAa ..)<|ze<|zi fun r1 hr1 => ?_
 obtain ⟨_,er1,_,rfl⟩:=Zjx x0 ox0 r1 hr1
 refine zc [] (ZP r1.1 (r1.2.map Zz)) [] er1<|zi fun a2 ha2 => ze ?_
 exact zk (ZdK x0 r1.2 65 (shrO ox0) r1.1 (ZHK ha2))
def Zbj (x0:List Z8):Option ((List Z8) × Int) :=
 (Z5Z x0).bind fun r1 =>
 if (!r1) = true then
 (some (([]:List Z8),10))
 else
 (Z9E x0)
theorem Zlt (x0:List Z8) ox0:Sim Z2V (Zbj x0) (EE 14 [(ZP ox0 (x0.map Zz))] []):=by
 unfold Zbj
 refine zf (ZFM ..)<|ze<|ze<|zi fun r1 hr1 => ?_
 obtain ⟨_,er1,_,rfl⟩:=Z8G x0 .sh r1 hr1
 refine zc [] (bv r1) [] er1<|zq ?_
 refine za (!r1) ?_ ?_
 ·refine ze ?_
  exact zr ((.p (.tup [(.lst .sh []),(.v (.int .i64 10))])),[]) ⟨_,rfl⟩
 ·exact zk (Zjk x0 ox0)
theorem Zmf x0 {r} (h:Zbj x0 = some r):Z9r x0 = some r :=
 Z1l (fun _ _ ha hb => ru_ ZaP (ha .ex) (hb .ex)) (fun ox0 => Zlt x0 ox0 r h)
def Z5t (x0 x4:List Z8) (x5:Int):Option ((List Z8) × Int) :=
 Z7U x0 x4 (IntKind.i32.wrap (x5 + 1))
theorem Zdk (x0 x4:List Z8) x5 ox0 ox4 (hox4:ZM ox4 = true):Sim Z2V (Z5t x0 x4 x5) (ZpP 0 (ZP ox0 (x0.map Zz)) (ZP ox4 (x4.map Zz)) (.p (.v (.int .i32 x5))) []):=by
 unfold Z5t
 refine zf (ZAb ..)<|ze<|zq ?_
 exact zk (ZdK x0 x4 (IntKind.i32.wrap (x5 + 1)) ox0 ox4 hox4)
def Z6C (x0 x4:List Z8) (x5:Int):Option ((List Z8) × Int) :=
 (lapp x4 ([(Z8.mk (IntKind.i64.wrap x5) (IntKind.i64.wrap x5)),(Z8.mk (IntKind.i64.wrap (IntKind.i32.wrap (x5 + 32))) (IntKind.i64.wrap (IntKind.i32.wrap (x5 + 32))))]:List Z8)).bind fun a1 =>
 Z5t x0 a1 x5
theorem Zdl (x0 x4:List Z8) x5 ox0 ox4 (hox4:ZM ox4 = true):Sim Z2V (Z6C x0 x4 x5) (ZpQ 0 (ZP ox0 (x0.map Zz)) (ZP ox4 (x4.map Zz)) (.p (.v (.int .i32 x5))) []):=by
 unfold Z6C
 refine zf (ZAd ..)<|ze<|zq<|zq<|zq<|zq<|zq<|zq<|zq<|zq<|zq<|zi fun a1 ha1 => zp (ZP .un (a1.map Zz)) (Eq.trans (by kernel_rfl) <| ZeP (n:=2) (o:=ox4) (o':=.ex) (e:=Zz) (ys:=([(Z8.mk (IntKind.i64.wrap x5) (IntKind.i64.wrap x5)),(Z8.mk (IntKind.i64.wrap (IntKind.i32.wrap (x5 + 32))) (IntKind.i64.wrap (IntKind.i32.wrap (x5 + 32))))]:List Z8)) (fun _ => rfl) (by decide) hox4 ha1) ?_
 exact zk (Zdk x0 a1 x5 ox0 .un rfl)
def Z9F (x0 x4:List Z8) (x5:Int):Option ((List Z8) × Int) :=
 (Z7w x0 (IntKind.i64.wrap x5)).bind fun r1 =>
 if r1 = true then
 (Z6C x0 x4 x5)
 else
 ((Z7w x0 (IntKind.i64.wrap (IntKind.i32.wrap (x5 + 32)))).bind fun r2 =>
 if r2 = true then
 (Z6C x0 x4 x5)
 else
 (Z5t x0 x4 x5))
theorem Zjl (x0 x4:List Z8) x5 ox0 ox4 (hox4:ZM ox4 = true):Sim Z2V (Z9F x0 x4 x5) (ZtN 0 (ZP ox0 (x0.map Zz)) (ZP ox4 (x4.map Zz)) (.p (.v (.int .i32 x5))) []):=by
 unfold Z9F
 refine zf (ZAc ..)<|ze<|zq<|zi fun r1 hr1 => ?_
 obtain ⟨_,er1,_,rfl⟩:=Zcj x0 (IntKind.i64.wrap x5) .sh r1 hr1
 refine zc [] (bv r1) [] er1 ?_
 refine za r1 ?_ ?_
 ·exact zk (Zdl x0 x4 x5 ox0 ox4 hox4)
 ·refine zq<|zq<|zi fun r2 hr2 => ?_
  obtain ⟨_,er2,_,rfl⟩:=Zcj x0 (IntKind.i64.wrap (IntKind.i32.wrap (x5 + 32))) .sh r2 hr2
  refine zc [] (bv r2) [] er2 ?_
  refine za r2 ?_ ?_
  ·exact zk (Zdl x0 x4 x5 ox0 ox4 hox4)
  ·exact zk (Zdk x0 x4 x5 ox0 ox4 hox4)
def Z9G (x4:List Z8):Option ((List Z8) × Int) :=
 (ZaY x4).bind fun r1 =>
 some (r1,0)
theorem Zjm (x4:List Z8) ox4 (hox4:ZM ox4 = true):Sim Z2V (Z9G x4) (ZtO 0 (ZP ox4 (x4.map Zz)) []):=by
 unfold Z9G
 refine zf (ZAe ..)<|ze<|zi fun r1 hr1 => ?_
 obtain ⟨_,er1,_,rfl⟩:=Zdr x4 .sh r1 hr1
 refine zc [] (ZP .sh (r1.map Zz)) [] er1 ?_
 exact zr ((.p (.tup [(.lst .sh (r1.map Zz)),(.v (.int .i64 0))])),[]) ⟨_,rfl⟩
def Z7Q (x0 x4:List Z8) (x5:Int):Option ((List Z8) × Int) :=
 if (decide (x5 < 91)) = true then
 (Z9F x0 x4 x5)
 else
 (Z9G x4)
theorem Zjj (x0 x4:List Z8) x5 ox0 ox4 (hox4:ZM ox4 = true):Sim Z2V (Z7Q x0 x4 x5) (ZmB 0 (ZP ox0 (x0.map Zz)) (ZP ox4 (x4.map Zz)) (.p (.v (.int .i32 x5))) []):=by
 unfold Z7Q
 refine zf (ZA9 ..)<|ze<|zq ?_
 refine za (decide (x5 < 91)) ?_ ?_
 ·exact zk (Zjl x0 x4 x5 ox0 ox4 hox4)
 ·exact zk (Zjm x4 ox4 hox4)
theorem ZdJ x0 x4 x5 {r} (h:Z7Q x0 x4 x5 = some r):Z7U x0 x4 x5 = some r :=
 Z1l (fun _ _ ha hb => ru_ ZaP (ha .ex .ex rfl) (hb .ex .ex rfl)) (fun ox0 ox4 hox4 => Zjj x0 x4 x5 ox0 ox4 hox4 r h)
def Z8D (x1:List Z9) (zG:List Zl) (zB:Bool) (zD:Int):Option ((List Zl) × Int) :=
 (lsl x1 0 (IntKind.i64.wrap ((x1.length:Int) - 1))).bind fun a1 =>
 Z60 x1 ([]:List Int) (IntKind.i64.wrap ((x1.length:Int) - 1)) a1 (a1.length:Int) 0 zG zB zD
theorem Zi8 (x1:List Z9) (zG:List Zl) zB zD ox1:Sim (Z18 zB) (Z8D x1 zG zB zD) (EE 40 [(.ptr 0 0),(ZP ox1 (x1.map ZJ))] [[(.p (.ml 6 (zG.map ZC))),(bv zB),(iv zD)]]):=by
 unfold Z8D
 refine zf (ZGn ..)<|ze<|ze<|zp (iv (x1.length:Int)) (et_ (Z37 (P:=PP) (t:=29) (d:=31) (by kernel_rfl) ZJ (shrO ox1) x1))<|zq<|ze<|zi fun a1 ha1 => zp (ZP (slO (shrO ox1)) (a1.map ZJ)) (Eq.trans (by kernel_rfl) <| Zrr (n:=7) (o:=(shrO ox1)) (lo:=none) (hi:=(some (iv (IntKind.i64.wrap ((x1.length:Int) - 1))))) (e:=ZJ) Zgc (by decide) (by kernel_rfl) (by kernel_rfl) ha1)<|zp (iv (a1.length:Int)) (et_ (Z37 (P:=PP) (t:=29) (d:=31) (by kernel_rfl) ZJ (slO (shrO ox1)) a1)) ?_
 exact zk (Zbb x1 ([]:List Int) (IntKind.i64.wrap ((x1.length:Int) - 1)) a1 (a1.length:Int) 0 zG zB zD ox1 .nl (slO (shrO ox1)) rfl)
theorem ZiX x1 zG zB zD {r} (h:Z8D x1 zG zB zD = some r):Z71 x1 zG zB zD = some r :=
 Z1l (fun _ _ ha hb => ru_ (Z30 _) (ha .ex) (hb .ex)) (fun ox1 => Zi8 x1 zG zB zD ox1 r h)
def Z7n (x1:List Z9) (x4:List Int) (x5:Int) (x16:List Z9) (x17 x18:Int) (zG:List Zl) (zB:Bool) (zD:Int):Option ((List Zl) × Int) :=
 (lget x16 x18).bind fun a1 =>
 (Z1n (Zl.mk 3 0 0 0 0 ([]:List Z8)) zG).bind fun r2 =>
 (Z1U a1 r2.2 zB zD).bind fun r3 =>
 (Z1n (Zl.mk 2 0 0 0 0 ([]:List Z8)) r3.1).bind fun r4 =>
 (lapp x4 ([r4.1]:List Int)).bind fun a5 =>
 (Z50 r2.1 (IntKind.i64.wrap (r2.1 + 1)) (r4.2.length:Int) false r4.2).bind fun r6 =>
 Z60 x1 a5 x5 x16 x17 (IntKind.i64.wrap (x18 + 1)) r6 zB r3.2
theorem Zg1 (x1:List Z9) (x4:List Int) x5 (x16:List Z9) x17 x18 (zG:List Zl) zB zD ox1 ox4 ox16 (hox4:ZM ox4 = true):Sim (Z18 zB) (Z7n x1 x4 x5 x16 x17 x18 zG zB zD) (Zuj 1 (.ptr 0 0) (ZP ox1 (x1.map ZJ)) (ZP ox4 (x4.map (eI .i64))) (iv x5) (ZP ox16 (x16.map ZJ)) (iv x17) (iv x18) [[(.p (.ml 6 (zG.map ZC))),(bv zB),(iv zD)]]):=by
 unfold Z7n
 refine zf (ZAH ..)<|ze<|zi fun a1 ha1 => zp (.cptr (ZI a1 .sh .sh)) (et_ (Z2Q (o:=ox16) (k:=.i64) (n:=7) (e:=ZJ) (cs:=Z21) Z2M (fun _ => rfl) (by decide) ha1))<|zq<|zz (.ptr 1 0) [[(.p (.ml 6 (zG.map ZC))),(bv zB),(iv zD)],(Zk Z1F .nl .nl)]<|zt [[(.p (.ml 6 (zG.map ZC))),(bv zB),(iv zD)],(Zk a1 .sh .sh)]<|ze<|zq<|zi fun r2 hr2 => ?_
 obtain ⟨_,er2,_,rfl⟩:=Z1w (Zl.mk 3 0 0 0 0 ([]:List Z8)) zG zB zD .sh r2 hr2
 refine zc [0] (iv r2.1) [[(.p (.ml 6 (r2.2.map ZC))),(bv zB),(iv zD)],(Zk a1 .sh .sh)] er2<|ze<|zq<|zi fun r3 hr3 => ?_
 obtain ⟨_,er3,_,rfl⟩:=Z2N a1 r2.2 zB zD .sh .sh r3 hr3
 refine zc [0] (.p (.tup [])) [[(.p (.ml 6 (r3.1.map ZC))),(bv zB),(iv r3.2)],(Zk a1 .sh .sh)] er3<|ze<|zq<|zi fun r4 hr4 => ?_
 obtain ⟨_,er4,_,rfl⟩:=Z1w (Zl.mk 2 0 0 0 0 ([]:List Z8)) r3.1 zB r3.2 .sh r4 hr4
 refine zc [0] (iv r4.1) [[(.p (.ml 6 (r4.2.map ZC))),(bv zB),(iv r3.2)],(Zk a1 .sh .sh)] er4<|zq<|zi fun a5 ha5 => zp (ZP .un (a5.map (eI .i64))) (Eq.trans (by kernel_rfl) <| ZeP (n:=1) (o:=ox4) (o':=.ex) (e:=(eI .i64)) (ys:=([r4.1]:List Int)) (fun _ => rfl) (by decide) hox4 ha5)<|ze<|zq<|zq<|zq<|zq<|zp (iv (r4.2.length:Int)) (et_ (ZbT (P:=PP) (t:=23) (d:=40) (by kernel_rfl) ZC r4.2))<|zi fun r6 hr6 => ?_
 obtain ⟨_,er6,_,rfl⟩:=Z8N r2.1 (IntKind.i64.wrap (r2.1 + 1)) (r4.2.length:Int) false r4.2 zB r3.2 r6 hr6
 refine zc [0] (.p (.tup [])) [[(.p (.ml 6 (r6.map ZC))),(bv zB),(iv r3.2)],(Zk a1 .sh .sh)] er6<|ze<|zq ?_
 exact zk (Zbb x1 a5 x5 x16 x17 (IntKind.i64.wrap (x18 + 1)) r6 zB r3.2 ox1 .un ox16 rfl)
def Z5y (x1:List Z9) (x4:List Int) (x5:Int) (zG:List Zl) (zB:Bool) (zD:Int):Option ((List Zl) × Int) :=
 (lget x1 x5).bind fun a1 =>
 (Z1U a1 zG zB zD).bind fun r2 =>
 Z5C x4 (x4.length:Int) 0 r2.1 r2.2
theorem ZfB (x1:List Z9) (x4:List Int) x5 (zG:List Zl) zB zD ox1 ox4 (hox4:ZM ox4 = true):Sim (Z18 zB) (Z5y x1 x4 x5 zG zB zD) (ZrH 1 (.ptr 0 0) (ZP ox1 (x1.map ZJ)) (ZP ox4 (x4.map (eI .i64))) (iv x5) [[(.p (.ml 6 (zG.map ZC))),(bv zB),(iv zD)]]):=by
 unfold Z5y
 refine zf (Zy7 ..)<|ze<|zi fun a1 ha1 => zp (.cptr (ZI a1 .sh .sh)) (et_ (Z2Q (o:=(shrO ox1)) (k:=.i64) (n:=7) (e:=ZJ) (cs:=Z21) Z2M (fun _ => rfl) (by decide) ha1))<|zq<|zi fun r2 hr2 => ?_
 obtain ⟨_,er2,_,rfl⟩:=Z2N a1 zG zB zD .sh .sh r2 hr2
 refine zc [0] (.p (.tup [])) [[(.p (.ml 6 (r2.1.map ZC))),(bv zB),(iv r2.2)]] er2<|ze<|zp (iv (x4.length:Int)) (et_ (Z37 (P:=PP) (t:=96) (d:=3) (by kernel_rfl) (eI .i64) (shrO ox4) x4)) ?_
 exact zk (Zb5 x4 (x4.length:Int) 0 r2.1 zB r2.2 (shrO ox4))
def Z5X (x1:List Z9) (x4:List Int) (x5:Int) (x16:List Z9) (x17 x18:Int) (zG:List Zl) (zB:Bool) (zD:Int):Option ((List Zl) × Int) :=
 if (decide (x18 < x17)) = true then
 (Z7n x1 x4 x5 x16 x17 x18 zG zB zD)
 else
 (Z5y x1 x4 x5 zG zB zD)
theorem Zg0 (x1:List Z9) (x4:List Int) x5 (x16:List Z9) x17 x18 (zG:List Zl) zB zD ox1 ox4 ox16 (hox4:ZM ox4 = true):Sim (Z18 zB) (Z5X x1 x4 x5 x16 x17 x18 zG zB zD) (ZmJ 1 (.ptr 0 0) (ZP ox1 (x1.map ZJ)) (ZP ox4 (x4.map (eI .i64))) (iv x5) (ZP ox16 (x16.map ZJ)) (iv x17) (iv x18) [[(.p (.ml 6 (zG.map ZC))),(bv zB),(iv zD)]]):=by
 unfold Z5X
 refine zf (ZAG ..)<|ze<|zq ?_
 refine za (decide (x18 < x17)) ?_ ?_
 ·exact zk (Zg1 x1 x4 x5 x16 x17 x18 zG zB zD ox1 ox4 ox16 hox4)
 ·exact zk (ZfB x1 x4 x5 zG zB zD ox1 ox4 hox4)
theorem Zba x1 x4 x5 x16 x17 x18 zG zB zD {r} (h:Z5X x1 x4 x5 x16 x17 x18 zG zB zD = some r):Z60 x1 x4 x5 x16 x17 x18 zG zB zD = some r :=
 Z1l (fun _ _ ha hb => ru_ (Z30 _) (ha .ex .ex .ex rfl) (hb .ex .ex .ex rfl)) (fun ox1 ox4 ox16 hox4 => Zg0 x1 x4 x5 x16 x17 x18 zG zB zD ox1 ox4 ox16 hox4 r h)
def Z75 (x51:List Int) (x52 x53:Int) (zG:List Zl) (zD:Int):Option ((List Zl) × Int) :=
 (lget x51 x53).bind fun a1 =>
 (lget zG a1).bind fun a2 =>
 (lget zG a1).bind fun a3 =>
 Z5C x51 x52 (IntKind.i64.wrap (x53 + 1)) (lset zG a1 (Zl.mk a3.Op (zG.length:Int) a3.B a3.C a3.D a3.Set)) zD
theorem ZfC (x51:List Int) x52 x53 (zG:List Zl) zB zD ox51:Sim (Z18 zB) (Z75 x51 x52 x53 zG zD) (ZrI 1 (.ptr 0 0) (ZP ox51 (x51.map (eI .i64))) (iv x52) (iv x53) [[(.p (.ml 6 (zG.map ZC))),(bv zB),(iv zD)]]):=by
 unfold Z75
 refine zf (Zy8 ..)<|ze<|zi fun a1 ha1 => zp (.cptr [(.v (.int .i64 a1))]) (et_ (Z2Q (o:=ox51) (k:=.i64) (n:=1) (e:=(eI .i64)) (cs:=(fun a => [(eI .i64) a])) (fun _ => rfl) (fun _ => rfl) (by decide) ha1))<|zq<|ze<|zq<|zq<|zq<|zq<|zq<|zq<|zp (iv (zG.length:Int)) (et_ (ZbT (P:=PP) (t:=23) (d:=40) (by kernel_rfl) ZC zG))<|zi fun a2 ha2 => zp (.p (.jnk (.ep 0 0 6 (Int.toNat a1) 0))) (et_ (ZkZ (e:=ZC) (n:=6) (id:=0) (off:=0) (k:=.i64) (by decide) ha2))<|zq<|zi fun a3 ha3 => zb [[(.p (.ml 6 ((lset zG a1 (Zl.mk a3.Op (zG.length:Int) a3.B a3.C a3.D a3.Set)).map ZC))),(bv zB),(iv zD)]] (Eq.trans (b:=stEl 1 (.p (.jnk (.ep 0 0 6 (Int.toNat a1) 1))) (iv (zG.length:Int)) [[(.p (.ml 6 (zG.map ZC))),(bv zB),(iv zD)]]) (by kernel_rfl) (ZiE (e:=ZC) (row:=[(.p (.ml 6 (zG.map ZC))),(bv zB),(iv zD)]) (n:=6) (l:=zG) (a':=(Zl.mk a3.Op (zG.length:Int) a3.B a3.C a3.D a3.Set)) (by kernel_rfl) ha3 (by kernel_rfl) (by kernel_rfl)))<|ze<|zq ?_
 exact zk (Zb5 x51 x52 (IntKind.i64.wrap (x53 + 1)) (lset zG a1 (Zl.mk a3.Op (zG.length:Int) a3.B a3.C a3.D a3.Set)) zB zD ox51)
def Z5x (x51:List Int) (x52 x53:Int) (zG:List Zl) (zD:Int):Option ((List Zl) × Int) :=
 if (decide (x53 < x52)) = true then
 (Z75 x51 x52 x53 zG zD)
 else
 (some (zG,zD))
theorem ZfA (x51:List Int) x52 x53 (zG:List Zl) zB zD ox51:Sim (Z18 zB) (Z5x x51 x52 x53 zG zD) (Zku 1 (.ptr 0 0) (ZP ox51 (x51.map (eI .i64))) (iv x52) (iv x53) [[(.p (.ml 6 (zG.map ZC))),(bv zB),(iv zD)]]):=by
 unfold Z5x
 refine zf (Zy6 ..)<|ze<|zq ?_
 refine za (decide (x53 < x52)) ?_ ?_
 ·exact zk (ZfC x51 x52 x53 zG zB zD ox51)
 ·exact zr ((.p (.tup [])),[[(.p (.ml 6 (zG.map ZC))),(bv zB),(iv zD)]]) ⟨_,rfl⟩
theorem Zb4 x51 x52 x53 zG zD {r} (h:Z5x x51 x52 x53 zG zD = some r):Z5C x51 x52 x53 zG zD = some r :=
 Z1l (fun _ _ ha hb => ru_ (Z30 _) (ha default .ex) (hb default .ex)) (fun zB ox51 => ZfA x51 x52 x53 zG zB zD ox51 r h)
def Z5d (x1 x2 x3:Int) (zG:List Zl):Option (List Zl) :=
 (lget zG x1).bind fun a1 =>
 (lget zG x1).bind fun a2 =>
 (lget zG x1).bind fun a3 =>
 (lget (lset zG x1 (Zl.mk a2.Op x2 a2.B a2.C a2.D a2.Set)) x1).bind fun a4 =>
 some (lset (lset zG x1 (Zl.mk a2.Op x2 a2.B a2.C a2.D a2.Set)) x1 (Zl.mk a4.Op a4.A x3 a4.C a4.D a4.Set))
theorem Zam x1 x2 x3 (zG:List Zl) zB zD:Sim (Z6n zB zD) (Z5d x1 x2 x3 zG) (Zqh 1 (.ptr 0 0) (iv x1) (iv x2) (iv x3) [[(.p (.ml 6 (zG.map ZC))),(bv zB),(iv zD)]]):=by
 unfold Z5d
 refine zf (ZAZ ..)<|ze<|zq<|zq<|zq<|zq<|zq<|zq<|zi fun a1 ha1 => zp (.p (.jnk (.ep 0 0 6 (Int.toNat x1) 0))) (et_ (ZkZ (e:=ZC) (n:=6) (id:=0) (off:=0) (k:=.i64) (by decide) ha1))<|zq<|zi fun a2 ha2 => zb [[(.p (.ml 6 ((lset zG x1 (Zl.mk a2.Op x2 a2.B a2.C a2.D a2.Set)).map ZC))),(bv zB),(iv zD)]] (Eq.trans (b:=stEl 1 (.p (.jnk (.ep 0 0 6 (Int.toNat x1) 1))) (iv x2) [[(.p (.ml 6 (zG.map ZC))),(bv zB),(iv zD)]]) (by kernel_rfl) (ZiE (e:=ZC) (row:=[(.p (.ml 6 (zG.map ZC))),(bv zB),(iv zD)]) (n:=6) (l:=zG) (a':=(Zl.mk a2.Op x2 a2.B a2.C a2.D a2.Set)) (by kernel_rfl) ha2 (by kernel_rfl) (by kernel_rfl)))<|zi fun a3 ha3 => zp (.p (.jnk (.ep 0 0 6 (Int.toNat x1) 0))) (et_ (ZkZ (e:=ZC) (n:=6) (id:=0) (off:=0) (k:=.i64) (by decide) ha3))<|zq<|zi fun a4 ha4 => zb [[(.p (.ml 6 ((lset (lset zG x1 (Zl.mk a2.Op x2 a2.B a2.C a2.D a2.Set)) x1 (Zl.mk a4.Op a4.A x3 a4.C a4.D a4.Set)).map ZC))),(bv zB),(iv zD)]] (Eq.trans (b:=stEl 1 (.p (.jnk (.ep 0 0 6 (Int.toNat x1) 2))) (iv x3) [[(.p (.ml 6 ((lset zG x1 (Zl.mk a2.Op x2 a2.B a2.C a2.D a2.Set)).map ZC))),(bv zB),(iv zD)]]) (by kernel_rfl) (ZiE (e:=ZC) (row:=[(.p (.ml 6 ((lset zG x1 (Zl.mk a2.Op x2 a2.B a2.C a2.D a2.Set)).map ZC))),(bv zB),(iv zD)]) (n:=6) (l:=(lset zG x1 (Zl.mk a2.Op x2 a2.B a2.C a2.D a2.Set))) (a':=(Zl.mk a4.Op a4.A x3 a4.C a4.D a4.Set)) (by kernel_rfl) ha4 (by kernel_rfl) (by kernel_rfl))) ?_
 exact zr ((.p (.tup [])),[[(.p (.ml 6 ((lset (lset zG x1 (Zl.mk a2.Op x2 a2.B a2.C a2.D a2.Set)) x1 (Zl.mk a4.Op a4.A x3 a4.C a4.D a4.Set)).map ZC))),(bv zB),(iv zD)]]) ⟨_,rfl⟩
def Z7N (x1 x2 x3:Int) (x4:Bool) (zG:List Zl):Option (List Zl) :=
 if x4 = true then
 (Z5d x1 x3 x2 zG)
 else
 (Z5d x1 x2 x3 zG)
theorem Zh5 x1 x2 x3 x4 (zG:List Zl) zB zD:Sim (Z6n zB zD) (Z7N x1 x2 x3 x4 zG) (EE 58 [(.ptr 0 0),(iv x1),(iv x2),(iv x3),(bv x4)] [[(.p (.ml 6 (zG.map ZC))),(bv zB),(iv zD)]]):=by
 unfold Z7N
 refine zf (ZGM ..)<|ze ?_
 refine za x4 ?_ ?_
 ·refine ze ?_
  exact zk (Zam x1 x3 x2 zG zB zD)
 ·exact zk (Zam x1 x2 x3 zG zB zD)
theorem Zhw x1 x2 x3 x4 zG {r} (h:Z7N x1 x2 x3 x4 zG = some r):Z50 x1 x2 x3 x4 zG = some r :=
 Z1l (fun _ _ ha hb => ru_ (ZhL _ _) (ha default default) (hb default default)) (fun zB zD => Zh5 x1 x2 x3 x4 zG zB zD r h)
def Z7s (x1:Zl) (zG:List Zl) (zB:Bool) (zD:Int) (b2:Z9):Option ((List Zl) × Int) :=
 (Z1n x1 zG).bind fun r1 =>
 (Z7y b2 r1.2 zB zD).bind fun r2 =>
 (Z1n (Zl.mk 9 0 0 0 0 ([]:List Z8)) r2.1).bind fun r3 =>
 (lget r3.2 r1.1).bind fun a4 =>
 (lget r3.2 r1.1).bind fun a5 =>
 some ((lset r3.2 r1.1 (Zl.mk a5.Op a5.A (r3.2.length:Int) a5.C a5.D a5.Set)),r2.2)
theorem Zg6 x1 (zG:List Zl) zB zD b2 zN z1c zZ:Sim (Z3z zB b2 z1c zZ) (Z7s x1 zG zB zD b2) (EE 41 [(.ptr 0 0),(pA_ (Z1q x1 zN)),(.clo 42 [] [(.ptr 1 0),(.ptr 2 0)])] [[(.p (.ml 6 (zG.map ZC))),(bv zB),(iv zD)],[(.ptr 0 0)],(Zk b2 z1c zZ)]):=by
 unfold Z7s
 refine zf (Zuk ..)<|ze<|zx (.ptr 3 0) [[(.p (.ml 6 (zG.map ZC))),(bv zB),(iv zD)],[(.ptr 0 0)],(Zk b2 z1c zZ),(ZO x1 zN)]<|ze<|zq<|zi fun r1 hr1 => ?_
 obtain ⟨_,er1,_,rfl⟩:=Z1w x1 zG zB zD .sh r1 hr1
 refine zc [0] (iv r1.1) [[(.p (.ml 6 (r1.2.map ZC))),(bv zB),(iv zD)],[(.ptr 0 0)],(Zk b2 z1c zZ),(ZO x1 zN)] er1<|ze<|zi fun r2 hr2 => ?_
 obtain ⟨_,er2,_,rfl⟩:=ZgZ b2 r1.2 zB zD z1c zZ r2 hr2
 refine zv [1,2,0] (.p (.tup [])) [[(.p (.ml 6 (r2.1.map ZC))),(bv zB),(iv r2.2)],[(.ptr 0 0)],(Zk b2 z1c zZ),(ZO x1 zN)] er2<|ze<|zq<|zi fun r3 hr3 => ?_
 obtain ⟨_,er3,_,rfl⟩:=Z1w (Zl.mk 9 0 0 0 0 ([]:List Z8)) r2.1 zB r2.2 .sh r3 hr3
 refine zc [0] (iv r3.1) [[(.p (.ml 6 (r3.2.map ZC))),(bv zB),(iv r2.2)],[(.ptr 0 0)],(Zk b2 z1c zZ),(ZO x1 zN)] er3<|ze<|zq<|zq<|zq<|zq<|zq<|zq<|zp (iv (r3.2.length:Int)) (et_ (ZbT (P:=PP) (t:=23) (d:=40) (by kernel_rfl) ZC r3.2))<|zi fun a4 ha4 => zp (.p (.jnk (.ep 0 0 6 (Int.toNat r1.1) 0))) (et_ (ZkZ (e:=ZC) (n:=6) (id:=0) (off:=0) (k:=.i64) (by decide) ha4))<|zq<|zi fun a5 ha5 => zb [[(.p (.ml 6 ((lset r3.2 r1.1 (Zl.mk a5.Op a5.A (r3.2.length:Int) a5.C a5.D a5.Set)).map ZC))),(bv zB),(iv r2.2)],[(.ptr 0 0)],(Zk b2 z1c zZ),(ZO x1 zN)] (Eq.trans (b:=stEl 1 (.p (.jnk (.ep 0 0 6 (Int.toNat r1.1) 2))) (iv (r3.2.length:Int)) [[(.p (.ml 6 (r3.2.map ZC))),(bv zB),(iv r2.2)],[(.ptr 0 0)],(Zk b2 z1c zZ),(ZO x1 zN)]) (by kernel_rfl) (ZiE (e:=ZC) (row:=[(.p (.ml 6 (r3.2.map ZC))),(bv zB),(iv r2.2)]) (n:=6) (l:=r3.2) (a':=(Zl.mk a5.Op a5.A (r3.2.length:Int) a5.C a5.D a5.Set)) (by kernel_rfl) ha5 (by kernel_rfl) (by kernel_rfl))) ?_
 exact zr ((.p (.tup [])),[[(.p (.ml 6 ((lset r3.2 r1.1 (Zl.mk a5.Op a5.A (r3.2.length:Int) a5.C a5.D a5.Set)).map ZC))),(bv zB),(iv r2.2)],[(.ptr 0 0)],(Zk b2 z1c zZ),(ZO x1 zN)]) ⟨_,rfl⟩
theorem Zh6 x1 zG zB zD b2 {r} (h:Z7s x1 zG zB zD b2 = some r):Z4N x1 zG zB zD b2 = some r :=
 Z1l (fun _ _ ha hb => ru_ (Z8L _ _ _ _) (ha .ex .ex .ex) (hb .ex .ex .ex)) (fun zN z1c zZ => Zg6 x1 zG zB zD b2 zN z1c zZ r h)
def Z7o (b1:Z9) (z32:List Zl) (z1P:Bool) (z2h:Int):Option ((List Zl) × Int) :=
 (Z4K b1 z32 z1P z2h).bind fun r1 =>
 some (r1.1,r1.2)
theorem Zg2 b1 (z32:List Zl) z1P z2h zH zE:Sim (Z3y b1 z1P zH zE) (Z7o b1 z32 z1P z2h) (EE 42 [(.ptr 0 0),(.ptr 1 0)] [[(.ptr 2 0)],(Zk b1 zH zE),[(.p (.ml 6 (z32.map ZC))),(bv z1P),(iv z2h)]]):=by
 unfold Z7o
 refine zf (ZGr ..)<|ze<|zq<|zq<|zi fun r1 hr1 => ?_
 obtain ⟨_,er1,_,rfl⟩:=Zbc b1 z32 z1P z2h .sh .sh r1 hr1
 refine zc [2] (.p (.tup [])) [[(.ptr 2 0)],(Zk b1 zH zE),[(.p (.ml 6 (r1.1.map ZC))),(bv z1P),(iv r1.2)]] er1 ?_
 exact zr ((.p (.tup [])),[[(.ptr 2 0)],(Zk b1 zH zE),[(.p (.ml 6 (r1.1.map ZC))),(bv z1P),(iv r1.2)]]) ⟨_,rfl⟩
theorem ZgY b1 z32 z1P z2h {r} (h:Z7o b1 z32 z1P z2h = some r):Z7y b1 z32 z1P z2h = some r :=
 Z1l (fun _ _ ha hb => ru_ (Z8K _ _ _ _) (ha .ex .ex) (hb .ex .ex)) (fun zH zE => Zg2 b1 z32 z1P z2h zH zE r h)
def Z7r (x1:Z9) (zG:List Zl) (zB:Bool) (zD:Int):Option ((List Zl) × Int) :=
 Z4V (x1.Mode == 1) x1.Lo 0 zG zB zD x1
theorem Zg5 x1 (zG:List Zl) zB zD zN zW:Sim (Z18 zB) (Z7r x1 zG zB zD) (EE 43 [(.ptr 0 0),(pA_ (ZI x1 zN zW))] [[(.p (.ml 6 (zG.map ZC))),(bv zB),(iv zD)]]):=by
 unfold Z7r
 refine zf (ZGs ..)<|ze<|zx (.ptr 1 0) [[(.p (.ml 6 (zG.map ZC))),(bv zB),(iv zD)],(Zk x1 zN zW)]<|ze<|zq<|zq<|zq<|ze<|zq<|zq ?_
 exact zk (Zal (x1.Mode == 1) x1.Lo 0 zG zB zD x1 zN zW)
theorem Zh4 x1 zG zB zD {r} (h:Z7r x1 zG zB zD = some r):Z4K x1 zG zB zD = some r :=
 Z1l (fun _ _ ha hb => ru_ (Z30 _) (ha .ex .ex) (hb .ex .ex)) (fun zN zW => Zg5 x1 zG zB zD zN zW r h)
def Z6b (x4:Bool) (zG:List Zl) (zB:Bool) (zD:Int) (b1:Z9):Option ((List Zl) × Int) :=
 Z4L x4 ([]:List Int) (IntKind.i64.wrap (b1.Hi - b1.Lo)) 0 zG zB zD b1
theorem Zef x4 (zG:List Zl) zB zD b1 zH zE:Sim (Z18 zB) (Z6b x4 zG zB zD b1) (ZrJ 1 (.ptr 0 0) (.ptr 1 0) (bv x4) [[(.p (.ml 6 (zG.map ZC))),(bv zB),(iv zD)],(Zk b1 zH zE)]):=by
 unfold Z6b
 refine zf (Zyb ..)<|ze<|ze<|zq<|zq<|zq<|zq<|zq ?_
 exact zk (Z9S x4 ([]:List Int) (IntKind.i64.wrap (b1.Hi - b1.Lo)) 0 zG zB zD b1 .nl zH zE rfl)
def Z3B (x4:Bool) (zG:List Zl) (zB:Bool) (zD:Int) (b1:Z9):Option ((List Zl) × Int) :=
 if (decide (b1.Hi < 0)) = true then
 ((lget b1.Kids 0).bind fun a1 =>
 (Z8h a1 x4 zG zB zD).bind fun r2 =>
 some (r2.1,r2.2))
 else
 (Z6b x4 zG zB zD b1)
theorem Z9V x4 (zG:List Zl) zB zD b1 zH zE:Sim (Z18 zB) (Z3B x4 zG zB zD b1) (Zq8 1 (.ptr 0 0) (.ptr 1 0) (bv x4) [[(.p (.ml 6 (zG.map ZC))),(bv zB),(iv zD)],(Zk b1 zH zE)]):=by
 unfold Z3B
 refine zf (ZAM ..)<|ze<|zq<|zq<|zq ?_
 refine za (decide (b1.Hi < 0)) ?_ ?_
 ·refine ze<|zq<|zq<|zi fun a1 ha1 => zp (.cptr (ZI a1 .sh .sh)) (et_ (Z2Q (o:=(shrO zE)) (k:=.i64) (n:=7) (e:=ZJ) (cs:=Z21) Z2M (fun _ => rfl) (by decide) ha1))<|zq<|zi fun r2 hr2 => ?_
  obtain ⟨_,er2,_,rfl⟩:=Zia a1 x4 zG zB zD .sh .sh r2 hr2
  refine zc [0] (.p (.tup [])) [[(.p (.ml 6 (r2.1.map ZC))),(bv zB),(iv r2.2)],(Zk b1 zH zE)] er2 ?_
  exact zr ((.p (.tup [])),[[(.p (.ml 6 (r2.1.map ZC))),(bv zB),(iv r2.2)],(Zk b1 zH zE)]) ⟨_,rfl⟩
 ·exact zk (Zef x4 zG zB zD b1 zH zE)
def Z6x (x4:Bool) (x13 x14:Int) (zG:List Zl) (zB:Bool) (zD:Int) (b1:Z9):Option ((List Zl) × Int) :=
 Z4V x4 x13 (IntKind.i64.wrap (x14 + 1)) zG zB zD b1
theorem ZeU x4 x13 x14 (zG:List Zl) zB zD b1 zH zE:Sim (Z18 zB) (Z6x x4 x13 x14 zG zB zD b1) (Zup 1 (.ptr 0 0) (.ptr 1 0) (bv x4) (iv x13) (iv x14) [[(.p (.ml 6 (zG.map ZC))),(bv zB),(iv zD)],(Zk b1 zH zE)]):=by
 unfold Z6x
 refine zf (ZAL ..)<|ze<|zq ?_
 exact zk (Zal x4 x13 (IntKind.i64.wrap (x14 + 1)) zG zB zD b1 zH zE)
def Z6w (x4:Bool) (x13 x14:Int) (zG:List Zl) (zB:Bool) (zD:Int) (b1:Z9):Option ((List Zl) × Int) :=
 (lget b1.Kids 0).bind fun a1 =>
 (Z1U a1 zG zB zD).bind fun r2 =>
 if ((r2.1.length:Int) == (zG.length:Int)) = true then
 (Z3B x4 r2.1 zB r2.2 b1)
 else
 (Z6x x4 x13 x14 r2.1 zB r2.2 b1)
theorem ZeT x4 x13 x14 (zG:List Zl) zB zD b1 zH zE:Sim (Z18 zB) (Z6w x4 x13 x14 zG zB zD b1) (Zuo 1 (.ptr 0 0) (.ptr 1 0) (bv x4) (iv x13) (iv x14) [[(.p (.ml 6 (zG.map ZC))),(bv zB),(iv zD)],(Zk b1 zH zE)]):=by
 unfold Z6w
 refine zf (ZAK ..)<|ze<|zq<|zq<|zq<|zp (iv (zG.length:Int)) (et_ (ZbT (P:=PP) (t:=23) (d:=40) (by kernel_rfl) ZC zG))<|ze<|zq<|zq<|zi fun a1 ha1 => zp (.cptr (ZI a1 .sh .sh)) (et_ (Z2Q (o:=(shrO zE)) (k:=.i64) (n:=7) (e:=ZJ) (cs:=Z21) Z2M (fun _ => rfl) (by decide) ha1))<|zq<|zi fun r2 hr2 => ?_
 obtain ⟨_,er2,_,rfl⟩:=Z2N a1 zG zB zD .sh .sh r2 hr2
 refine zc [0] (.p (.tup [])) [[(.p (.ml 6 (r2.1.map ZC))),(bv zB),(iv r2.2)],(Zk b1 zH zE)] er2<|ze<|zq<|zq<|zq<|zp (iv (r2.1.length:Int)) (et_ (ZbT (P:=PP) (t:=23) (d:=40) (by kernel_rfl) ZC r2.1))<|zq ?_
 refine za ((r2.1.length:Int) == (zG.length:Int)) ?_ ?_
 ·exact zk (Z9V x4 r2.1 zB r2.2 b1 zH zE)
 ·exact zk (ZeU x4 x13 x14 r2.1 zB r2.2 b1 zH zE)
def Z4T (x4:Bool) (x13 x14:Int) (zG:List Zl) (zB:Bool) (zD:Int) (b1:Z9):Option ((List Zl) × Int) :=
 if (decide (x14 < x13)) = true then
 (Z6w x4 x13 x14 zG zB zD b1)
 else
 (Z3B x4 zG zB zD b1)
theorem ZeS x4 x13 x14 (zG:List Zl) zB zD b1 zH zE:Sim (Z18 zB) (Z4T x4 x13 x14 zG zB zD b1) (ZmK 1 (.ptr 0 0) (.ptr 1 0) (bv x4) (iv x13) (iv x14) [[(.p (.ml 6 (zG.map ZC))),(bv zB),(iv zD)],(Zk b1 zH zE)]):=by
 unfold Z4T
 refine zf (ZAJ ..)<|ze<|zq ?_
 refine za (decide (x14 < x13)) ?_ ?_
 ·exact zk (ZeT x4 x13 x14 zG zB zD b1 zH zE)
 ·exact zk (Z9V x4 zG zB zD b1 zH zE)
theorem Zak x4 x13 x14 zG zB zD b1 {r} (h:Z4T x4 x13 x14 zG zB zD b1 = some r):Z4V x4 x13 x14 zG zB zD b1 = some r :=
 Z1l (fun _ _ ha hb => ru_ (Z30 _) (ha .ex .ex) (hb .ex .ex)) (fun zH zE => ZeS x4 x13 x14 zG zB zD b1 zH zE r h)
def Z6c (x4:Bool) (x6:List Int) (x49 x50:Int) (zG:List Zl) (zB:Bool) (zD:Int) (b1:Z9):Option ((List Zl) × Int) :=
 (Z1n (Zl.mk 3 0 0 0 0 ([]:List Z8)) zG).bind fun r1 =>
 (lapp x6 ([r1.1]:List Int)).bind fun a2 =>
 (lget b1.Kids 0).bind fun a3 =>
 (Z1U a3 r1.2 zB zD).bind fun r4 =>
 Z4L x4 a2 x49 (IntKind.i64.wrap (x50 + 1)) r4.1 zB r4.2 b1
theorem Zeg x4 (x6:List Int) x49 x50 (zG:List Zl) zB zD b1 ox6 zH zE (hox6:ZM ox6 = true):Sim (Z18 zB) (Z6c x4 x6 x49 x50 zG zB zD b1) (ZrK 1 (.ptr 0 0) (.ptr 1 0) (bv x4) (ZP ox6 (x6.map (eI .i64))) (iv x49) (iv x50) [[(.p (.ml 6 (zG.map ZC))),(bv zB),(iv zD)],(Zk b1 zH zE)]):=by
 unfold Z6c
 refine zf (Zyc ..)<|ze<|zq<|zi fun r1 hr1 => ?_
 obtain ⟨_,er1,_,rfl⟩:=Z1w (Zl.mk 3 0 0 0 0 ([]:List Z8)) zG zB zD .sh r1 hr1
 refine zc [0] (iv r1.1) [[(.p (.ml 6 (r1.2.map ZC))),(bv zB),(iv zD)],(Zk b1 zH zE)] er1<|zq<|zi fun a2 ha2 => zp (ZP .un (a2.map (eI .i64))) (Eq.trans (by kernel_rfl) <| ZeP (n:=1) (o:=ox6) (o':=.ex) (e:=(eI .i64)) (ys:=([r1.1]:List Int)) (fun _ => rfl) (by decide) hox6 ha2)<|ze<|zq<|zq<|zi fun a3 ha3 => zp (.cptr (ZI a3 .sh .sh)) (et_ (Z2Q (o:=(shrO zE)) (k:=.i64) (n:=7) (e:=ZJ) (cs:=Z21) Z2M (fun _ => rfl) (by decide) ha3))<|zq<|zi fun r4 hr4 => ?_
 obtain ⟨_,er4,_,rfl⟩:=Z2N a3 r1.2 zB zD .sh .sh r4 hr4
 refine zc [0] (.p (.tup [])) [[(.p (.ml 6 (r4.1.map ZC))),(bv zB),(iv r4.2)],(Zk b1 zH zE)] er4<|ze<|zq ?_
 exact zk (Z9S x4 a2 x49 (IntKind.i64.wrap (x50 + 1)) r4.1 zB r4.2 b1 .un zH zE rfl)
def Z4F (x4:Bool) (x6:List Int) (zG:List Zl) (zD:Int):Option ((List Zl) × Int) :=
 Z4M x4 x6 (x6.length:Int) 0 zG zD
theorem Zeh x4 (x6:List Int) (zG:List Zl) zB zD ox6 (hox6:ZM ox6 = true):Sim (Z18 zB) (Z4F x4 x6 zG zD) (ZrL 1 (.ptr 0 0) (bv x4) (ZP ox6 (x6.map (eI .i64))) [[(.p (.ml 6 (zG.map ZC))),(bv zB),(iv zD)]]):=by
 unfold Z4F
 refine zf (Zyd ..)<|ze<|zp (iv (x6.length:Int)) (et_ (Z37 (P:=PP) (t:=96) (d:=3) (by kernel_rfl) (eI .i64) (shrO ox6) x6)) ?_
 exact zk (Z9U x4 x6 (x6.length:Int) 0 zG zB zD (shrO ox6))
def Z4D (x4:Bool) (x6:List Int) (x49 x50:Int) (zG:List Zl) (zB:Bool) (zD:Int) (b1:Z9):Option ((List Zl) × Int) :=
 if (decide (x50 < x49)) = true then
 (Z6c x4 x6 x49 x50 zG zB zD b1)
 else
 (Z4F x4 x6 zG zD)
theorem Zed x4 (x6:List Int) x49 x50 (zG:List Zl) zB zD b1 ox6 zH zE (hox6:ZM ox6 = true):Sim (Z18 zB) (Z4D x4 x6 x49 x50 zG zB zD b1) (Zkv 1 (.ptr 0 0) (.ptr 1 0) (bv x4) (ZP ox6 (x6.map (eI .i64))) (iv x49) (iv x50) [[(.p (.ml 6 (zG.map ZC))),(bv zB),(iv zD)],(Zk b1 zH zE)]):=by
 unfold Z4D
 refine zf (Zy9 ..)<|ze<|zq ?_
 refine za (decide (x50 < x49)) ?_ ?_
 ·exact zk (Zeg x4 x6 x49 x50 zG zB zD b1 ox6 zH zE hox6)
 ·exact zk (Zeh x4 x6 zG zB zD ox6 hox6)
theorem Z9R x4 x6 x49 x50 zG zB zD b1 {r} (h:Z4D x4 x6 x49 x50 zG zB zD b1 = some r):Z4L x4 x6 x49 x50 zG zB zD b1 = some r :=
 Z1l (fun _ _ ha hb => ru_ (Z30 _) (ha .ex .ex .ex rfl) (hb .ex .ex .ex rfl)) (fun ox6 zH zE hox6 => Zed x4 x6 x49 x50 zG zB zD b1 ox6 zH zE hox6 r h)
def Z6d (x4:Bool) (x65:List Int) (x66 x67:Int) (zG:List Zl) (zD:Int):Option ((List Zl) × Int) :=
 (lget x65 x67).bind fun a1 =>
 (Z50 a1 (IntKind.i64.wrap (a1 + 1)) (zG.length:Int) x4 zG).bind fun r2 =>
 Z4M x4 x65 x66 (IntKind.i64.wrap (x67 + 1)) r2 zD
theorem Zei x4 (x65:List Int) x66 x67 (zG:List Zl) zB zD ox65:Sim (Z18 zB) (Z6d x4 x65 x66 x67 zG zD) (ZrM 1 (.ptr 0 0) (bv x4) (ZP ox65 (x65.map (eI .i64))) (iv x66) (iv x67) [[(.p (.ml 6 (zG.map ZC))),(bv zB),(iv zD)]]):=by
 unfold Z6d
 refine zf (Zye ..)<|ze<|zi fun a1 ha1 => zp (.cptr [(.v (.int .i64 a1))]) (et_ (Z2Q (o:=ox65) (k:=.i64) (n:=1) (e:=(eI .i64)) (cs:=(fun a => [(eI .i64) a])) (fun _ => rfl) (fun _ => rfl) (by decide) ha1))<|zq<|ze<|zq<|zq<|zq<|zq<|zp (iv (zG.length:Int)) (et_ (ZbT (P:=PP) (t:=23) (d:=40) (by kernel_rfl) ZC zG))<|zi fun r2 hr2 => ?_
 obtain ⟨_,er2,_,rfl⟩:=Z8N a1 (IntKind.i64.wrap (a1 + 1)) (zG.length:Int) x4 zG zB zD r2 hr2
 refine zc [0] (.p (.tup [])) [[(.p (.ml 6 (r2.map ZC))),(bv zB),(iv zD)]] er2<|ze<|zq ?_
 exact zk (Z9U x4 x65 x66 (IntKind.i64.wrap (x67 + 1)) r2 zB zD ox65)
def Z4E (x4:Bool) (x65:List Int) (x66 x67:Int) (zG:List Zl) (zD:Int):Option ((List Zl) × Int) :=
 if (decide (x67 < x66)) = true then
 (Z6d x4 x65 x66 x67 zG zD)
 else
 (some (zG,zD))
theorem Zee x4 (x65:List Int) x66 x67 (zG:List Zl) zB zD ox65:Sim (Z18 zB) (Z4E x4 x65 x66 x67 zG zD) (Zkw 1 (.ptr 0 0) (bv x4) (ZP ox65 (x65.map (eI .i64))) (iv x66) (iv x67) [[(.p (.ml 6 (zG.map ZC))),(bv zB),(iv zD)]]):=by
 unfold Z4E
 refine zf (Zya ..)<|ze<|zq ?_
 refine za (decide (x67 < x66)) ?_ ?_
 ·exact zk (Zei x4 x65 x66 x67 zG zB zD ox65)
 ·exact zr ((.p (.tup [])),[[(.p (.ml 6 (zG.map ZC))),(bv zB),(iv zD)]]) ⟨_,rfl⟩
theorem Z9T x4 x65 x66 x67 zG zD {r} (h:Z4E x4 x65 x66 x67 zG zD = some r):Z4M x4 x65 x66 x67 zG zD = some r :=
 Z1l (fun _ _ ha hb => ru_ (Z30 _) (ha default .ex) (hb default .ex)) (fun zB ox65 => Zee x4 x65 x66 x67 zG zB zD ox65 r h)
def Z8f (x1:Z9) (x2:Bool) (zG:List Zl) (zB:Bool) (zD:Int):Option ((List Zl) × Int) :=
 (Z1n (Zl.mk 3 0 0 0 0 ([]:List Z8)) zG).bind fun r1 =>
 (Z1n (Zl.mk 10 zD 0 0 0 ([]:List Z8)) r1.2).bind fun r2 =>
 (Z1U x1 r2.2 zB (IntKind.i64.wrap (zD + 1))).bind fun r3 =>
 (Z1n (Zl.mk 11 zD 0 0 0 ([]:List Z8)) r3.1).bind fun r4 =>
 (Z1n (Zl.mk 2 r1.1 0 0 0 ([]:List Z8)) r4.2).bind fun r5 =>
 (Z50 r1.1 (IntKind.i64.wrap (r1.1 + 1)) (r5.2.length:Int) x2 r5.2).bind fun r6 =>
 some (r6,r3.2)
theorem Zhu x1 x2 (zG:List Zl) zB zD zN zW:Sim (Z18 zB) (Z8f x1 x2 zG zB zD) (EE 59 [(.ptr 0 0),(pA_ (ZI x1 zN zW)),(bv x2)] [[(.p (.ml 6 (zG.map ZC))),(bv zB),(iv zD)]]):=by
 unfold Z8f
 refine zf (ZGO ..)<|ze<|zx (.ptr 1 0) [[(.p (.ml 6 (zG.map ZC))),(bv zB),(iv zD)],(Zk x1 zN zW)]<|ze<|zq<|zi fun r1 hr1 => ?_
 obtain ⟨_,er1,_,rfl⟩:=Z1w (Zl.mk 3 0 0 0 0 ([]:List Z8)) zG zB zD .sh r1 hr1
 refine zc [0] (iv r1.1) [[(.p (.ml 6 (r1.2.map ZC))),(bv zB),(iv zD)],(Zk x1 zN zW)] er1<|ze<|zq<|zq<|zq<|ze<|zq<|zq<|zq<|zq<|zq<|zq<|zt [[(.p (.ml 6 (r1.2.map ZC))),(bv zB),(iv (IntKind.i64.wrap (zD + 1)))],(Zk x1 zN zW)]<|ze<|zq<|zi fun r2 hr2 => ?_
 obtain ⟨_,er2,_,rfl⟩:=Z1w (Zl.mk 10 zD 0 0 0 ([]:List Z8)) r1.2 zB (IntKind.i64.wrap (zD + 1)) .sh r2 hr2
 refine zc [0] (iv r2.1) [[(.p (.ml 6 (r2.2.map ZC))),(bv zB),(iv (IntKind.i64.wrap (zD + 1)))],(Zk x1 zN zW)] er2<|ze<|zq<|zi fun r3 hr3 => ?_
 obtain ⟨_,er3,_,rfl⟩:=Z2N x1 r2.2 zB (IntKind.i64.wrap (zD + 1)) .sh .sh r3 hr3
 refine zc [0] (.p (.tup [])) [[(.p (.ml 6 (r3.1.map ZC))),(bv zB),(iv r3.2)],(Zk x1 zN zW)] er3<|ze<|zq<|zi fun r4 hr4 => ?_
 obtain ⟨_,er4,_,rfl⟩:=Z1w (Zl.mk 11 zD 0 0 0 ([]:List Z8)) r3.1 zB r3.2 .sh r4 hr4
 refine zc [0] (iv r4.1) [[(.p (.ml 6 (r4.2.map ZC))),(bv zB),(iv r3.2)],(Zk x1 zN zW)] er4<|ze<|zq<|zi fun r5 hr5 => ?_
 obtain ⟨_,er5,_,rfl⟩:=Z1w (Zl.mk 2 r1.1 0 0 0 ([]:List Z8)) r4.2 zB r3.2 .sh r5 hr5
 refine zc [0] (iv r5.1) [[(.p (.ml 6 (r5.2.map ZC))),(bv zB),(iv r3.2)],(Zk x1 zN zW)] er5<|ze<|zq<|zq<|zq<|zq<|zp (iv (r5.2.length:Int)) (et_ (ZbT (P:=PP) (t:=23) (d:=40) (by kernel_rfl) ZC r5.2))<|zi fun r6 hr6 => ?_
 obtain ⟨_,er6,_,rfl⟩:=Z8N r1.1 (IntKind.i64.wrap (r1.1 + 1)) (r5.2.length:Int) x2 r5.2 zB r3.2 r6 hr6
 refine zc [0] (.p (.tup [])) [[(.p (.ml 6 (r6.map ZC))),(bv zB),(iv r3.2)],(Zk x1 zN zW)] er6 ?_
 exact zr ((.p (.tup [])),[[(.p (.ml 6 (r6.map ZC))),(bv zB),(iv r3.2)],(Zk x1 zN zW)]) ⟨_,rfl⟩
theorem Zi9 x1 x2 zG zB zD {r} (h:Z8f x1 x2 zG zB zD = some r):Z8h x1 x2 zG zB zD = some r :=
 Z1l (fun _ _ ha hb => ru_ (Z30 _) (ha .ex .ex) (hb .ex .ex)) (fun zN zW => Zhu x1 x2 zG zB zD zN zW r h)
def Z7t (x1:Zl) (zG:List Zl) (zB:Bool) (zD:Int) (b2:Z9):Option ((List Zl) × Int) :=
 (Z1n x1 zG).bind fun r1 =>
 (Z7A b2 r1.2 zB zD).bind fun r2 =>
 (Z1n (Zl.mk 9 0 0 0 0 ([]:List Z8)) r2.1).bind fun r3 =>
 (lget r3.2 r1.1).bind fun a4 =>
 (lget r3.2 r1.1).bind fun a5 =>
 some ((lset r3.2 r1.1 (Zl.mk a5.Op a5.A (r3.2.length:Int) a5.C a5.D a5.Set)),r2.2)
theorem Zg7 x1 (zG:List Zl) zB zD b2 zN z1c zZ:Sim (Z3z zB b2 z1c zZ) (Z7t x1 zG zB zD b2) (EE 41 [(.ptr 0 0),(pA_ (Z1q x1 zN)),(.clo 46 [] [(.ptr 1 0),(.ptr 2 0)])] [[(.p (.ml 6 (zG.map ZC))),(bv zB),(iv zD)],[(.ptr 0 0)],(Zk b2 z1c zZ)]):=by
 unfold Z7t
 refine zf (Zuk ..)<|ze<|zx (.ptr 3 0) [[(.p (.ml 6 (zG.map ZC))),(bv zB),(iv zD)],[(.ptr 0 0)],(Zk b2 z1c zZ),(ZO x1 zN)]<|ze<|zq<|zi fun r1 hr1 => ?_
 obtain ⟨_,er1,_,rfl⟩:=Z1w x1 zG zB zD .sh r1 hr1
 refine zc [0] (iv r1.1) [[(.p (.ml 6 (r1.2.map ZC))),(bv zB),(iv zD)],[(.ptr 0 0)],(Zk b2 z1c zZ),(ZO x1 zN)] er1<|ze<|zi fun r2 hr2 => ?_
 obtain ⟨_,er2,_,rfl⟩:=Zh3 b2 r1.2 zB zD z1c zZ r2 hr2
 refine zv [1,2,0] (.p (.tup [])) [[(.p (.ml 6 (r2.1.map ZC))),(bv zB),(iv r2.2)],[(.ptr 0 0)],(Zk b2 z1c zZ),(ZO x1 zN)] er2<|ze<|zq<|zi fun r3 hr3 => ?_
 obtain ⟨_,er3,_,rfl⟩:=Z1w (Zl.mk 9 0 0 0 0 ([]:List Z8)) r2.1 zB r2.2 .sh r3 hr3
 refine zc [0] (iv r3.1) [[(.p (.ml 6 (r3.2.map ZC))),(bv zB),(iv r2.2)],[(.ptr 0 0)],(Zk b2 z1c zZ),(ZO x1 zN)] er3<|ze<|zq<|zq<|zq<|zq<|zq<|zq<|zp (iv (r3.2.length:Int)) (et_ (ZbT (P:=PP) (t:=23) (d:=40) (by kernel_rfl) ZC r3.2))<|zi fun a4 ha4 => zp (.p (.jnk (.ep 0 0 6 (Int.toNat r1.1) 0))) (et_ (ZkZ (e:=ZC) (n:=6) (id:=0) (off:=0) (k:=.i64) (by decide) ha4))<|zq<|zi fun a5 ha5 => zb [[(.p (.ml 6 ((lset r3.2 r1.1 (Zl.mk a5.Op a5.A (r3.2.length:Int) a5.C a5.D a5.Set)).map ZC))),(bv zB),(iv r2.2)],[(.ptr 0 0)],(Zk b2 z1c zZ),(ZO x1 zN)] (Eq.trans (b:=stEl 1 (.p (.jnk (.ep 0 0 6 (Int.toNat r1.1) 2))) (iv (r3.2.length:Int)) [[(.p (.ml 6 (r3.2.map ZC))),(bv zB),(iv r2.2)],[(.ptr 0 0)],(Zk b2 z1c zZ),(ZO x1 zN)]) (by kernel_rfl) (ZiE (e:=ZC) (row:=[(.p (.ml 6 (r3.2.map ZC))),(bv zB),(iv r2.2)]) (n:=6) (l:=r3.2) (a':=(Zl.mk a5.Op a5.A (r3.2.length:Int) a5.C a5.D a5.Set)) (by kernel_rfl) ha5 (by kernel_rfl) (by kernel_rfl))) ?_
 exact zr ((.p (.tup [])),[[(.p (.ml 6 ((lset r3.2 r1.1 (Zl.mk a5.Op a5.A (r3.2.length:Int) a5.C a5.D a5.Set)).map ZC))),(bv zB),(iv r2.2)],[(.ptr 0 0)],(Zk b2 z1c zZ),(ZO x1 zN)]) ⟨_,rfl⟩
theorem Zh8 x1 zG zB zD b2 {r} (h:Z7t x1 zG zB zD b2 = some r):Z61 x1 zG zB zD b2 = some r :=
 Z1l (fun _ _ ha hb => ru_ (Z8L _ _ _ _) (ha .ex .ex .ex) (hb .ex .ex .ex)) (fun zN z1c zZ => Zg7 x1 zG zB zD b2 zN z1c zZ r h)
def Z7q (b1:Z9) (z32:List Zl) (z1P:Bool) (z2h:Int):Option ((List Zl) × Int) :=
 (lget b1.Kids 0).bind fun a1 =>
 (Z1U a1 z32 z1P z2h).bind fun r2 =>
 some (r2.1,r2.2)
theorem Zg4 b1 (z32:List Zl) z1P z2h zH zE:Sim (Z3y b1 z1P zH zE) (Z7q b1 z32 z1P z2h) (EE 46 [(.ptr 0 0),(.ptr 1 0)] [[(.ptr 2 0)],(Zk b1 zH zE),[(.p (.ml 6 (z32.map ZC))),(bv z1P),(iv z2h)]]):=by
 unfold Z7q
 refine zf (ZGC ..)<|ze<|zq<|zq<|zq<|zi fun a1 ha1 => zp (.cptr (ZI a1 .sh .sh)) (et_ (Z2Q (o:=(shrO zE)) (k:=.i64) (n:=7) (e:=ZJ) (cs:=Z21) Z2M (fun _ => rfl) (by decide) ha1))<|zq<|zi fun r2 hr2 => ?_
 obtain ⟨_,er2,_,rfl⟩:=Z2N a1 z32 z1P z2h .sh .sh r2 hr2
 refine zc [2] (.p (.tup [])) [[(.ptr 2 0)],(Zk b1 zH zE),[(.p (.ml 6 (r2.1.map ZC))),(bv z1P),(iv r2.2)]] er2 ?_
 exact zr ((.p (.tup [])),[[(.ptr 2 0)],(Zk b1 zH zE),[(.p (.ml 6 (r2.1.map ZC))),(bv z1P),(iv r2.2)]]) ⟨_,rfl⟩
theorem Zh2 b1 z32 z1P z2h {r} (h:Z7q b1 z32 z1P z2h = some r):Z7A b1 z32 z1P z2h = some r :=
 Z1l (fun _ _ ha hb => ru_ (Z8K _ _ _ _) (ha .ex .ex) (hb .ex .ex)) (fun zH zE => Zg4 b1 z32 z1P z2h zH zE r h)
def Z7u (x1:Zl) (zG:List Zl) (zB:Bool) (zD:Int) (b2:Z9):Option ((List Zl) × Int) :=
 (Z1n x1 zG).bind fun r1 =>
 (Z7z b2 r1.2 zB zD).bind fun r2 =>
 (Z1n (Zl.mk 9 0 0 0 0 ([]:List Z8)) r2.1).bind fun r3 =>
 (lget r3.2 r1.1).bind fun a4 =>
 (lget r3.2 r1.1).bind fun a5 =>
 some ((lset r3.2 r1.1 (Zl.mk a5.Op a5.A (r3.2.length:Int) a5.C a5.D a5.Set)),r2.2)
theorem Zg8 x1 (zG:List Zl) zB zD b2 zN z1c zZ:Sim (Z3z zB b2 z1c zZ) (Z7u x1 zG zB zD b2) (EE 41 [(.ptr 0 0),(pA_ (Z1q x1 zN)),(.clo 45 [] [(.ptr 1 0),(.ptr 2 0)])] [[(.p (.ml 6 (zG.map ZC))),(bv zB),(iv zD)],[(.ptr 0 0)],(Zk b2 z1c zZ)]):=by
 unfold Z7u
 refine zf (Zuk ..)<|ze<|zx (.ptr 3 0) [[(.p (.ml 6 (zG.map ZC))),(bv zB),(iv zD)],[(.ptr 0 0)],(Zk b2 z1c zZ),(ZO x1 zN)]<|ze<|zq<|zi fun r1 hr1 => ?_
 obtain ⟨_,er1,_,rfl⟩:=Z1w x1 zG zB zD .sh r1 hr1
 refine zc [0] (iv r1.1) [[(.p (.ml 6 (r1.2.map ZC))),(bv zB),(iv zD)],[(.ptr 0 0)],(Zk b2 z1c zZ),(ZO x1 zN)] er1<|ze<|zi fun r2 hr2 => ?_
 obtain ⟨_,er2,_,rfl⟩:=Zh1 b2 r1.2 zB zD z1c zZ r2 hr2
 refine zv [1,2,0] (.p (.tup [])) [[(.p (.ml 6 (r2.1.map ZC))),(bv zB),(iv r2.2)],[(.ptr 0 0)],(Zk b2 z1c zZ),(ZO x1 zN)] er2<|ze<|zq<|zi fun r3 hr3 => ?_
 obtain ⟨_,er3,_,rfl⟩:=Z1w (Zl.mk 9 0 0 0 0 ([]:List Z8)) r2.1 zB r2.2 .sh r3 hr3
 refine zc [0] (iv r3.1) [[(.p (.ml 6 (r3.2.map ZC))),(bv zB),(iv r2.2)],[(.ptr 0 0)],(Zk b2 z1c zZ),(ZO x1 zN)] er3<|ze<|zq<|zq<|zq<|zq<|zq<|zq<|zp (iv (r3.2.length:Int)) (et_ (ZbT (P:=PP) (t:=23) (d:=40) (by kernel_rfl) ZC r3.2))<|zi fun a4 ha4 => zp (.p (.jnk (.ep 0 0 6 (Int.toNat r1.1) 0))) (et_ (ZkZ (e:=ZC) (n:=6) (id:=0) (off:=0) (k:=.i64) (by decide) ha4))<|zq<|zi fun a5 ha5 => zb [[(.p (.ml 6 ((lset r3.2 r1.1 (Zl.mk a5.Op a5.A (r3.2.length:Int) a5.C a5.D a5.Set)).map ZC))),(bv zB),(iv r2.2)],[(.ptr 0 0)],(Zk b2 z1c zZ),(ZO x1 zN)] (Eq.trans (b:=stEl 1 (.p (.jnk (.ep 0 0 6 (Int.toNat r1.1) 2))) (iv (r3.2.length:Int)) [[(.p (.ml 6 (r3.2.map ZC))),(bv zB),(iv r2.2)],[(.ptr 0 0)],(Zk b2 z1c zZ),(ZO x1 zN)]) (by kernel_rfl) (ZiE (e:=ZC) (row:=[(.p (.ml 6 (r3.2.map ZC))),(bv zB),(iv r2.2)]) (n:=6) (l:=r3.2) (a':=(Zl.mk a5.Op a5.A (r3.2.length:Int) a5.C a5.D a5.Set)) (by kernel_rfl) ha5 (by kernel_rfl) (by kernel_rfl))) ?_
 exact zr ((.p (.tup [])),[[(.p (.ml 6 ((lset r3.2 r1.1 (Zl.mk a5.Op a5.A (r3.2.length:Int) a5.C a5.D a5.Set)).map ZC))),(bv zB),(iv r2.2)],[(.ptr 0 0)],(Zk b2 z1c zZ),(ZO x1 zN)]) ⟨_,rfl⟩
theorem Zha x1 zG zB zD b2 {r} (h:Z7u x1 zG zB zD b2 = some r):Z7B x1 zG zB zD b2 = some r :=
 Z1l (fun _ _ ha hb => ru_ (Z8L _ _ _ _) (ha .ex .ex .ex) (hb .ex .ex .ex)) (fun zN z1c zZ => Zg8 x1 zG zB zD b2 zN z1c zZ r h)
def Z7p (b1:Z9) (z32:List Zl) (z1P:Bool) (z2h:Int):Option ((List Zl) × Int) :=
 (lget b1.Kids 0).bind fun a1 =>
 (Z1U a1 z32 z1P z2h).bind fun r2 =>
 some (r2.1,r2.2)
theorem Zg3 b1 (z32:List Zl) z1P z2h zH zE:Sim (Z3y b1 z1P zH zE) (Z7p b1 z32 z1P z2h) (EE 45 [(.ptr 0 0),(.ptr 1 0)] [[(.ptr 2 0)],(Zk b1 zH zE),[(.p (.ml 6 (z32.map ZC))),(bv z1P),(iv z2h)]]):=by
 unfold Z7p
 refine zf (ZGB ..)<|ze<|zq<|zq<|zq<|zi fun a1 ha1 => zp (.cptr (ZI a1 .sh .sh)) (et_ (Z2Q (o:=(shrO zE)) (k:=.i64) (n:=7) (e:=ZJ) (cs:=Z21) Z2M (fun _ => rfl) (by decide) ha1))<|zq<|zi fun r2 hr2 => ?_
 obtain ⟨_,er2,_,rfl⟩:=Z2N a1 z32 z1P z2h .sh .sh r2 hr2
 refine zc [2] (.p (.tup [])) [[(.ptr 2 0)],(Zk b1 zH zE),[(.p (.ml 6 (r2.1.map ZC))),(bv z1P),(iv r2.2)]] er2 ?_
 exact zr ((.p (.tup [])),[[(.ptr 2 0)],(Zk b1 zH zE),[(.p (.ml 6 (r2.1.map ZC))),(bv z1P),(iv r2.2)]]) ⟨_,rfl⟩
theorem Zh0 b1 z32 z1P z2h {r} (h:Z7p b1 z32 z1P z2h = some r):Z7z b1 z32 z1P z2h = some r :=
 Z1l (fun _ _ ha hb => ru_ (Z8K _ _ _ _) (ha .ex .ex) (hb .ex .ex)) (fun zH zE => Zg3 b1 z32 z1P z2h zH zE r h)
def Zf1 (x0:List Zl):Option Int :=
 Zah 0 x0 (x0.length:Int) 0
theorem ZoY (x0:List Zl) ox0:Sim ZK (Zf1 x0) (EE 13 [(ZP ox0 (x0.map ZC))] []):=by
 unfold Zf1
 refine zf (ZFK ..)<|ze<|ze<|ze<|zp (iv (x0.length:Int)) (et_ (Z37 (P:=PP) (t:=23) (d:=40) (by kernel_rfl) ZC (shrO ox0) x0)) ?_
 exact zk (ZgX 0 x0 (x0.length:Int) 0 (shrO ox0))
theorem ZqL x0 {r} (h:Zf1 x0 = some r):Z3c x0 = some r :=
 Z1l (fun _ _ ha hb => ru_ Z1N (ha .ex) (hb .ex)) (fun ox0 => ZoY x0 ox0 r h)
def Zac (x3:Int) (x6:List Zl) (x7 x8:Int):Option Int :=
 Zah x3 x6 x7 (IntKind.i64.wrap (x8 + 1))
theorem ZfG x3 (x6:List Zl) x7 x8 ox6:Sim ZK (Zac x3 x6 x7 x8) (ZpL 0 (iv x3) (ZP ox6 (x6.map ZC)) (iv x7) (iv x8) []):=by
 unfold Zac
 refine zf (ZA6 ..)<|ze<|zq ?_
 exact zk (ZgX x3 x6 x7 (IntKind.i64.wrap (x8 + 1)) ox6)
def ZbZ (x3:Int) (x6:List Zl) (x7 x8:Int):Option Int :=
 (lget x6 x8).bind fun a1 =>
 if (a1.Op == 10) = true then
 (Zac (IntKind.i64.wrap (x3 + 1)) x6 x7 x8)
 else
 (Zac x3 x6 x7 x8)
theorem Zml x3 (x6:List Zl) x7 x8 ox6:Sim ZK (ZbZ x3 x6 x7 x8) (ZtI 0 (iv x3) (ZP ox6 (x6.map ZC)) (iv x7) (iv x8) []):=by
 unfold ZbZ
 refine zf (ZA5 ..)<|ze<|zi fun a1 ha1 => zp (.cptr (Z1q a1 .sh)) (et_ (Z2Q (o:=ox6) (k:=.i64) (n:=6) (e:=ZC) (cs:=Z4G) (fun _ => rfl) (fun _ => rfl) (by decide) ha1))<|zq<|zz (.ptr 0 0) [(ZO Zps .nl)]<|zt [(ZO a1 .sh)]<|ze<|zq<|zq<|zq ?_
 refine za (a1.Op == 10) ?_ ?_
 ·refine ze<|zq ?_
  exact zk (ZfG (IntKind.i64.wrap (x3 + 1)) x6 x7 x8 ox6)
 ·exact zk (ZfG x3 x6 x7 x8 ox6)
def Zc0 (x3:Int):Option Int :=
 some x3
theorem Zmm x3:Sim ZK (Zc0 x3) (ZtJ 0 (iv x3) []):=by
 unfold Zc0
 refine zf (ZA7 ..)<|ze ?_
 exact zr ((iv x3),[]) ⟨_,rfl⟩
def Zab (x3:Int) (x6:List Zl) (x7 x8:Int):Option Int :=
 if (decide (x8 < x7)) = true then
 (ZbZ x3 x6 x7 x8)
 else
 (Zc0 x3)
theorem Zmk x3 (x6:List Zl) x7 x8 ox6:Sim ZK (Zab x3 x6 x7 x8) (ZmA 0 (iv x3) (ZP ox6 (x6.map ZC)) (iv x7) (iv x8) []):=by
 unfold Zab
 refine zf (ZA4 ..)<|ze<|zq ?_
 refine za (decide (x8 < x7)) ?_ ?_
 ·exact zk (Zml x3 x6 x7 x8 ox6)
 ·exact zk (Zmm x3)
theorem ZgW x3 x6 x7 x8 {r} (h:Zab x3 x6 x7 x8 = some r):Zah x3 x6 x7 x8 = some r :=
 Z1l (fun _ _ ha hb => ru_ Z1N (ha .ex) (hb .ex)) (fun ox6 => Zmk x3 x6 x7 x8 ox6 r h)
end Go.Proofs.YtocikhhkicahoaaDoor.N2
end
