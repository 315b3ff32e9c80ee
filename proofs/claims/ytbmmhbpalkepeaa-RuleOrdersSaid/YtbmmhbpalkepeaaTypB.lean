/- The functions' typed texts. No condition. -/
import Derived.Test.YtbmmhbpalkepeaaTypA

set_option linter.unusedSimpArgs false
set_option linter.unusedVariables false
set_option linter.defProp false
noncomputable section
namespace Go.Proofs.Ytbmmhbpalkepeaa.N2
open Go Go.Abs
set_option maxRecDepth 100000
def ZiL : Option Bool :=
 some true
def ZfI : Option Bool :=
 some false
def ZfJ (b0 : Z8) (b1 b2 : ZC) (b3 : Z8) : Option Bool :=
 ZlL (S39.mk (S38.mk b1.Default b2.Default) (S38.mk b1.Closed b2.Closed) (S38.mk b1.Fuel b2.Fuel) (S38.mk b1.Stack b2.Stack)) 0 b0 b1 b2 b3
def Zmn (b0 : Z8) (b1 b2 : ZC) (b3 : Z8) : Option Bool :=
 (g12 b3 b1).bind fun r1 =>
 if ((b1.Drop.length : Int) == 0) = true then
 (if (r1.2 != 0) = true then
 ZfI
 else
 ((g14 b3).bind fun r2 =>
 (g14 r1.1).bind fun r3 =>
 (g13 r2 r3).bind fun r4 =>
 if (!r4) = true then
 ZfI
 else
 (ZfJ b0 b1 b2 b3)))
 else
 (ZfJ b0 b1 b2 b3)
def Zmm (b0 : Z8) (b1 b2 : ZC) : Option Bool :=
 (g12 b0 b1).bind fun r1 =>
 if (r1.2 != 0) = true then
 (some true)
 else
 (Zmn b0 b1 b2 r1.1)
def Zml (b0 : Z8) (b1 b2 : ZC) : Option Bool :=
 (g11 b0 b1).bind fun r1 =>
 if (!r1) = true then
 ZiL
 else
 ((g11 b0 b2).bind fun r2 =>
 if (!r2) = true then
 ZiL
 else
 (Zmm b0 b1 b2))
def b3 (x0 : Z8) (x1 x2 : ZC) : Option Bool :=
 (g10).bind fun r1 =>
 if (!r1) = true then
 (some false)
 else
 (Zml x0 x1 x2)
def b10 : Option Bool :=
 (g25).bind fun r1 =>
 (g12 r1 (ZC.mk (-1) 7 (-1) (-1) ([(Z2.mk 3 0 0 1 (ByteArray.mk #[97]))] : List Z2) ([] : List Int))).bind fun r2 =>
 if (r2.2 == 0) = true then
 (if (r2.1.Closed == 7) = true then
 (if ((r2.1.Rules.length : Int) == 1) = true then
 ((lget r2.1.Rules 0).bind fun a3 =>
 if (a3.ID == 3) = true then
 (some (r2.1.Fuel == 10000))
 else
 (some false))
 else
 (some false))
 else
 (some false))
 else
 (some false)
theorem Zjr : Sim Q27 b10 (EE 10 [] []) := by
 unfold b10
 refine zf (ZkC ..)<|ze<|ze<|zi fun r1 hr1 => ?_
 obtain ⟨_, er1, _, rfl⟩ := Zlv r1 hr1
 refine zc [] (pA_ (ZL r1 .sh)) [] er1<|zq<|zq<|zq<|zi fun r2 hr2 => ?_
 obtain ⟨_, er2, _, rfl⟩ := Zln r1 (ZC.mk (-1) 7 (-1) (-1) ([(Z2.mk 3 0 0 1 (ByteArray.mk #[97]))] : List Z2) ([] : List Int)) .sh .sh .sh r2 hr2
 refine zc [] (.p (.tup [(.agg (ZL r2.1 .sh)), (.v (.int .i64 r2.2))])) [] er2<|zq<|zq<|zz (.ptr 0 0) [(Z3 Z1S .nl)]<|zt [(Z3 r2.1 .sh)]<|ze<|zq ?_
 refine za (r2.2 == 0) ?_ ?_
 ·refine zq<|zq<|zq ?_
  refine za (r2.1.Closed == 7) ?_ ?_
  ·refine zq<|zq<|zp (iv (r2.1.Rules.length : Int)) (et_ (Z1E (P := PP) (t := 22) (d := 43) (by kernel_rfl) Z4 .sh r2.1.Rules))<|zq ?_
   refine za ((r2.1.Rules.length : Int) == 1) ?_ ?_
   ·refine zq<|zq<|zi fun a3 ha3 => zp (.cptr (ZQ a3)) (et_ (Z1T (o := .sh) (k := .i64) (n := 5) (e := Z4) (cs := Z1q) (fun _ => rfl) (fun _ => rfl) (by decide) ha3))<|zq<|zq<|zq ?_
    refine za (a3.ID == 3) ?_ ?_
    ·refine zq<|zq<|zq ?_
     exact zr ((bv (r2.1.Fuel == 10000)), [(Z3 r2.1 .sh)]) ⟨_, rfl⟩
    ·exact zr ((bv false), [(Z3 r2.1 .sh)]) ⟨_, rfl⟩
   ·exact zr ((bv false), [(Z3 r2.1 .sh)]) ⟨_, rfl⟩
  ·exact zr ((bv false), [(Z3 r2.1 .sh)]) ⟨_, rfl⟩
 ·exact zr ((bv false), [(Z3 r2.1 .sh)]) ⟨_, rfl⟩
theorem Zlk {r} (h : b10 = some r) : g10 = some r :=
 Z13 (fun _ _ ha hb => ru_ Z3h ha hb) (Zjr r h)
def b25 : Option Z8 :=
 some (Z8.mk 0 255 10000 500 ([] : List Z2))
theorem ZjD : Sim Q25 b25 (EE 25 [] []) := by
 unfold b25
 refine zf (Zl5 ..)<|ze<|zz (.ptr 0 0) [(Z3 Z1S .nl)]<|ze<|zq<|zt [(ZW 0 255 10000 500 ([] : List Z2) .nl)] ?_
 exact zr ((pA_ (ZL (Z8.mk 0 255 10000 500 ([] : List Z2)) .sh)), [(ZW 0 255 10000 500 ([] : List Z2) .nl)]) ⟨_, rfl⟩
theorem Zlu {r} (h : b25 = some r) : g25 = some r :=
 Z13 (fun _ _ ha hb => ru_ Zmh ha hb) (ZjD r h)
def Z6i : Option (Z8 × Int) :=
 some (Z1S, 30)
theorem Z9h b0 b1 b2 z1 zB zn zb (zE : Z1d zb = true) : Sim Q12 Z6i (Z8L 0 (.ptr 2 0) [(Z3 b0 z1), (Zl b1 zB zn), (Z3 b2 zb)]) := by
 unfold Z6i
 refine zf (ZfS ..)<|ze<|zq<|zt [(Z3 b0 z1), (Zl b1 zB zn), (Z3 Z1S .nl)] ?_
 exact zr ((.p (.tup [(.agg (ZL Z1S .sh)), (.v (.int .i64 30))])), [(Z3 b0 z1), (Zl b1 zB zn), (Z3 Z1S .nl)]) ⟨_, rfl⟩
def Z7l (b0 : Z8) (b1 : ZC) (z6 z7 zj zh : Int) : Option (Z8 × Int) :=
 Z5m b0.Rules (b0.Rules.length : Int) 0 b1 z6 z7 zj zh ([] : List (Int × Z2))
theorem Zd5 b0 b1 b2 z6 z7 zj zh zy z1 zB zn zb zu (zE : Z1d zb = true) : Sim Q12 (Z7l b0 b1 z6 z7 zj zh) (Z9R 0 (.ptr 0 0) (.ptr 1 0) (.ptr 2 0) (.ptr 3 0) [(Z3 b0 z1), (Zl b1 zB zn), (Z3 b2 zb), (ZW z6 z7 zj zh zy zu)]) := by
 unfold Z7l
 refine zf (Zeg ..)<|ze<|zm (.mp 4) [(Z3 b0 z1), (Zl b1 zB zn), (Z3 b2 zb), (ZW z6 z7 zj zh zy zu), (rM_ Z4 ([] : List (Int × Z2)))]<|ze<|zq<|zq<|zp (iv (b0.Rules.length : Int)) (et_ (Z1E (P := PP) (t := 22) (d := 43) (by kernel_rfl) Z4 (shrO z1) b0.Rules)) ?_
 exact zk (Z9a b0.Rules (b0.Rules.length : Int) 0 b0 b1 b2 z6 z7 zj zh zy ([] : List (Int × Z2)) (shrO z1) z1 zB zn zb zu zE)
def Z7k (b0 : Z8) (b1 : ZC) (z6 z7 zj zh : Int) : Option (Z8 × Int) :=
 (g29 b1).bind fun r1 =>
 if r1 = true then
 (some (Z1S, 31))
 else
 (Z7l b0 b1 z6 z7 zj zh)
theorem Zd4 b0 b1 b2 z6 z7 zj zh zy z1 zB zn zb zu (zE : Z1d zb = true) : Sim Q12 (Z7k b0 b1 z6 z7 zj zh) (Z9Q 0 (.ptr 0 0) (.ptr 1 0) (.ptr 2 0) (.ptr 3 0) [(Z3 b0 z1), (Zl b1 zB zn), (Z3 b2 zb), (ZW z6 z7 zj zh zy zu)]) := by
 unfold Z7k
 refine zf (Zef ..)<|ze<|zq<|zi fun r1 hr1 => ?_
 obtain ⟨_, er1, _, rfl⟩ := ZlC b1 .sh .sh r1 hr1
 refine zc [] (bv r1) [(Z3 b0 z1), (Zl b1 zB zn), (Z3 b2 zb), (ZW z6 z7 zj zh zy zu)] er1 ?_
 refine za r1 ?_ ?_
 ·refine ze<|zq<|zt [(Z3 b0 z1), (Zl b1 zB zn), (Z3 Z1S .nl), (ZW z6 z7 zj zh zy zu)] ?_
  exact zr ((.p (.tup [(.agg (ZL Z1S .sh)), (.v (.int .i64 31))])), [(Z3 b0 z1), (Zl b1 zB zn), (Z3 Z1S .nl), (ZW z6 z7 zj zh zy zu)]) ⟨_, rfl⟩
 ·exact zk (Zd5 b0 b1 b2 z6 z7 zj zh zy z1 zB zn zb zu zE)
def Z8q (b0 : Z8) (b1 : ZC) : Option (Z8 × Int) :=
 (g26 b1.Default b0.Default).bind fun r1 =>
 (Zb4 b1.Closed b0.Closed).bind fun r2 =>
 (Zb5 b1.Fuel b0.Fuel).bind fun r3 =>
 (Zb6 b1.Stack b0.Stack).bind fun r4 =>
 (g27 (Z8.mk r1 r2 r3 r4 b0.Rules)).bind fun r5 =>
 if (!r5) = true then
 Z6i
 else
 ((g28 b1.Put).bind fun r6 =>
 if (!r6) = true then
 Z6i
 else
 (Z7k b0 b1 r1 r2 r3 r4))
theorem Zez b0 b1 b2 z1 zB zn zb (zE : Z1d zb = true) : Sim Q12 (Z8q b0 b1) (Zbj 0 (.ptr 0 0) (.ptr 1 0) (.ptr 2 0) [(Z3 b0 z1), (Zl b1 zB zn), (Z3 b2 zb)]) := by
 unfold Z8q
 refine zf (ZfR ..)<|ze<|zq<|zz (.ptr 3 0) [(Z3 b0 z1), (Zl b1 zB zn), (Z3 b2 zb), (Z3 Z1S .nl)]<|zt [(Z3 b0 z1), (Zl b1 zB zn), (Z3 b2 zb), (Z3 b0 (shrO z1))]<|ze<|zq<|zq<|zq<|zi fun r1 hr1 => ?_
 obtain ⟨_, er1, _, rfl⟩ := Zlx b1.Default b0.Default b0.Closed b0.Fuel b0.Stack b0.Rules (shrO z1) r1 hr1
 refine zc [3] (.p (.tup [])) [(Z3 b0 z1), (Zl b1 zB zn), (Z3 b2 zb), (ZW r1 b0.Closed b0.Fuel b0.Stack b0.Rules (shrO z1))] er1<|ze<|zq<|zq<|zq<|zi fun r2 hr2 => ?_
 obtain ⟨_, er2, _, rfl⟩ := ZhC b1.Closed r1 b0.Closed b0.Fuel b0.Stack b0.Rules (shrO z1) r2 hr2
 refine zc [3] (.p (.tup [])) [(Z3 b0 z1), (Zl b1 zB zn), (Z3 b2 zb), (ZW r1 r2 b0.Fuel b0.Stack b0.Rules (shrO z1))] er2<|ze<|zq<|zq<|zq<|zi fun r3 hr3 => ?_
 obtain ⟨_, er3, _, rfl⟩ := ZhE b1.Fuel r1 r2 b0.Fuel b0.Stack b0.Rules (shrO z1) r3 hr3
 refine zc [3] (.p (.tup [])) [(Z3 b0 z1), (Zl b1 zB zn), (Z3 b2 zb), (ZW r1 r2 r3 b0.Stack b0.Rules (shrO z1))] er3<|ze<|zq<|zq<|zq<|zi fun r4 hr4 => ?_
 obtain ⟨_, er4, _, rfl⟩ := ZhG b1.Stack r1 r2 r3 b0.Stack b0.Rules (shrO z1) r4 hr4
 refine zc [3] (.p (.tup [])) [(Z3 b0 z1), (Zl b1 zB zn), (Z3 b2 zb), (ZW r1 r2 r3 r4 b0.Rules (shrO z1))] er4<|ze<|zq<|zi fun r5 hr5 => ?_
 obtain ⟨_, er5, _, rfl⟩ := ZgG (Z8.mk r1 r2 r3 r4 b0.Rules) .sh r5 hr5
 refine zc [] (bv r5) [(Z3 b0 z1), (Zl b1 zB zn), (Z3 b2 zb), (ZW r1 r2 r3 r4 b0.Rules (shrO z1))] er5<|zq ?_
 refine za (!r5) ?_ ?_
 ·exact zk (Z9h b0 b1 b2 z1 zB zn zb zE)
 ·refine zq<|zq<|zi fun r6 hr6 => ?_
  obtain ⟨_, er6, _, rfl⟩ := ZlA b1.Put .sh r6 hr6
  refine zc [] (bv r6) [(Z3 b0 z1), (Zl b1 zB zn), (Z3 b2 zb), (ZW r1 r2 r3 r4 b0.Rules (shrO z1))] er6<|zq ?_
  refine za (!r6) ?_ ?_
  ·exact zk (Z9h b0 b1 b2 z1 zB zn zb zE)
  ·exact zk (Zd4 b0 b1 b2 r1 r2 r3 r4 b0.Rules z1 zB zn zb (shrO z1) zE)
def b12 (x0 : Z8) (x1 : ZC) : Option (Z8 × Int) :=
 (g16 x0).bind fun r1 =>
 if (!r1) = true then
 (some (Z1S, 10))
 else
 (Z8q x0 x1)
theorem Zjv x0 x1 zd z1f z1a : Sim Q12 (b12 x0 x1) (EE 12 [(pA_ (ZL x0 zd)), (pA_ (Z1s x1 z1f z1a))] []) := by
 unfold b12
 refine zf (ZkE ..)<|ze<|zx (.ptr 0 0) [(Z3 x0 zd)]<|zx (.ptr 1 0) [(Z3 x0 zd), (Zl x1 z1f z1a)]<|zz (.ptr 2 0) [(Z3 x0 zd), (Zl x1 z1f z1a), (Z3 Z1S .nl)]<|ze<|zq<|zi fun r1 hr1 => ?_
 obtain ⟨_, er1, _, rfl⟩ := Zgt x0 .sh r1 hr1
 refine zc [] (bv r1) [(Z3 x0 zd), (Zl x1 z1f z1a), (Z3 Z1S .nl)] er1<|zq ?_
 refine za (!r1) ?_ ?_
 ·refine ze<|zq<|zt [(Z3 x0 zd), (Zl x1 z1f z1a), (Z3 Z1S .nl)] ?_
  exact zr ((.p (.tup [(.agg (ZL Z1S .sh)), (.v (.int .i64 10))])), [(Z3 x0 zd), (Zl x1 z1f z1a), (Z3 Z1S .nl)]) ⟨_, rfl⟩
 ·exact zk (Zez x0 x1 Z1S zd z1f z1a .nl rfl)
theorem Zlm x0 x1 {r} (h : b12 x0 x1 = some r) : g12 x0 x1 = some r :=
 Z13 (fun _ _ ha hb => ru_ Z8k (ha .ex .ex .ex) (hb .ex .ex .ex)) (fun zd z1f z1a => Zjv x0 x1 zd z1f z1a r h)
def Z7m (x54 : List Z2) (x55 x56 : Int) (b1 : ZC) (z6 z7 zj zh : Int) (zF : List (Int × Z2)) : Option (Z8 × Int) :=
 (lget x54 x56).bind fun a1 =>
 Z5m x54 x55 (IntKind.i64.wrap (x56 + 1)) b1 z6 z7 zj zh (putM zF a1.ID a1)
theorem Zd6 (x54 : List Z2) x55 x56 b0 b1 b2 z6 z7 zj zh zy zF ox54 z1 zB zn zb zu (zE : Z1d zb = true) : Sim Q12 (Z7m x54 x55 x56 b1 z6 z7 zj zh zF) (Z9S 0 (.ptr 1 0) (.ptr 2 0) (.ptr 3 0) (.mp 4) (pL_ ox54 (x54.map Z4)) (iv x55) (iv x56) [(Z3 b0 z1), (Zl b1 zB zn), (Z3 b2 zb), (ZW z6 z7 zj zh zy zu), (rM_ Z4 zF)]) := by
 unfold Z7m
 refine zf (Zeh ..)<|ze<|zi fun a1 ha1 => zp (.cptr (ZQ a1)) (et_ (Z1T (o := ox54) (k := .i64) (n := 5) (e := Z4) (cs := Z1q) (fun _ => rfl) (fun _ => rfl) (by decide) ha1))<|zq<|zz (.ptr 5 0) [(Z3 b0 z1), (Zl b1 zB zn), (Z3 b2 zb), (ZW z6 z7 zj zh zy zu), (rM_ Z4 zF), (Zcb 0 0 0 0 (ByteArray.mk #[]))]<|zt [(Z3 b0 z1), (Zl b1 zB zn), (Z3 b2 zb), (ZW z6 z7 zj zh zy zu), (rM_ Z4 zF), (ZN a1)]<|ze<|zq<|zq<|zq ?_
 refine Sim.xupd (B2 := [(Z3 b0 z1), (Zl b1 zB zn), (Z3 b2 zb), (ZW z6 z7 zj zh zy zu), (rM_ Z4 (putM zF a1.ID a1)), (ZN a1)]) (fun K => Eq.trans (b := xupd PP 64 (.mp 4) (iv a1.ID) (pA_ (ZQ a1)) [(Z3 b0 z1), (Zl b1 zB zn), (Z3 b2 zb), (ZW z6 z7 zj zh zy zu), (rM_ Z4 zF), (ZN a1)] K) (by kernel_rfl) <| Zah (P := PP) (t := 64) (K := K) (B2 := [(Z3 b0 z1), (Zl b1 zB zn), (Z3 b2 zb), (ZW z6 z7 zj zh zy zu), (rM_ Z4 (putM zF a1.ID a1)), (ZN a1)]) (e := Z4) (a := a1) (es := zF) (te := 43) (by kernel_rfl) (by kernel_rfl) (by kernel_rfl) (by kernel_rfl) (by kernel_rfl)) ?_
 refine ze<|zq ?_
 exact zk (Z9a x54 x55 (IntKind.i64.wrap (x56 + 1)) b0 b1 b2 z6 z7 zj zh zy (putM zF a1.ID a1) ox54 z1 zB zn zb zu zE)
def Z52 (b1 : ZC) (z6 z7 zj zh : Int) (zF : List (Int × Z2)) : Option (Z8 × Int) :=
 Z5n b1.Drop (b1.Drop.length : Int) 0 b1 z6 z7 zj zh zF
theorem Zd7 b0 b1 b2 z6 z7 zj zh zy zF z1 zB zn zb zu (zE : Z1d zb = true) : Sim Q12 (Z52 b1 z6 z7 zj zh zF) (Z9T 0 (.ptr 1 0) (.ptr 2 0) (.ptr 3 0) (.mp 4) [(Z3 b0 z1), (Zl b1 zB zn), (Z3 b2 zb), (ZW z6 z7 zj zh zy zu), (rM_ Z4 zF)]) := by
 unfold Z52
 refine zf (Zei ..)<|ze<|zq<|zq<|zp (iv (b1.Drop.length : Int)) (et_ (Z1E (P := PP) (t := 25) (d := 3) (by kernel_rfl) (eI .i64) (shrO zn) b1.Drop)) ?_
 exact zk (Z9c b1.Drop (b1.Drop.length : Int) 0 b0 b1 b2 z6 z7 zj zh zy zF (shrO zn) z1 zB zn zb zu zE)
def Z4Y (x54 : List Z2) (x55 x56 : Int) (b1 : ZC) (z6 z7 zj zh : Int) (zF : List (Int × Z2)) : Option (Z8 × Int) :=
 if (decide (x56 < x55)) = true then
 (Z7m x54 x55 x56 b1 z6 z7 zj zh zF)
 else
 (Z52 b1 z6 z7 zj zh zF)
theorem ZcX (x54 : List Z2) x55 x56 b0 b1 b2 z6 z7 zj zh zy zF ox54 z1 zB zn zb zu (zE : Z1d zb = true) : Sim Q12 (Z4Y x54 x55 x56 b1 z6 z7 zj zh zF) (Z5a 0 (.ptr 1 0) (.ptr 2 0) (.ptr 3 0) (.mp 4) (pL_ ox54 (x54.map Z4)) (iv x55) (iv x56) [(Z3 b0 z1), (Zl b1 zB zn), (Z3 b2 zb), (ZW z6 z7 zj zh zy zu), (rM_ Z4 zF)]) := by
 unfold Z4Y
 refine zf (Zeb ..)<|ze<|zq ?_
 refine za (decide (x56 < x55)) ?_ ?_
 ·exact zk (Zd6 x54 x55 x56 b0 b1 b2 z6 z7 zj zh zy zF ox54 z1 zB zn zb zu zE)
 ·exact zk (Zd7 b0 b1 b2 z6 z7 zj zh zy zF z1 zB zn zb zu zE)
theorem Z99 x54 x55 x56 b1 z6 z7 zj zh zF {r} (h : Z4Y x54 x55 x56 b1 z6 z7 zj zh zF = some r) : Z5m x54 x55 x56 b1 z6 z7 zj zh zF = some r :=
 Z13 (fun _ _ ha hb => ru_ Z8k (ha default default default .ex .ex .ex .ex .ex .ex rfl) (hb default default default .ex .ex .ex .ex .ex .ex rfl)) (fun b0 b2 zy ox54 z1 zB zn zb zu zE => ZcX x54 x55 x56 b0 b1 b2 z6 z7 zj zh zy zF ox54 z1 zB zn zb zu zE r h)
def Z7p (x66 : List Int) (x67 x68 : Int) (b1 : ZC) (z6 z7 zj zh : Int) (zF : List (Int × Z2)) : Option (Z8 × Int) :=
 Z5n x66 x67 (IntKind.i64.wrap (x68 + 1)) b1 z6 z7 zj zh zF
theorem Zda (x66 : List Int) x67 x68 b0 b1 b2 z6 z7 zj zh zy zF ox66 z1 zB zn zb zu (zE : Z1d zb = true) : Sim Q12 (Z7p x66 x67 x68 b1 z6 z7 zj zh zF) (Z9W 0 (.ptr 1 0) (.ptr 2 0) (.ptr 3 0) (.mp 4) (pL_ ox66 (x66.map (eI .i64))) (iv x67) (iv x68) [(Z3 b0 z1), (Zl b1 zB zn), (Z3 b2 zb), (ZW z6 z7 zj zh zy zu), (rM_ Z4 zF)]) := by
 unfold Z7p
 refine zf (Zel ..)<|ze<|zq ?_
 exact zk (Z9c x66 x67 (IntKind.i64.wrap (x68 + 1)) b0 b1 b2 z6 z7 zj zh zy zF ox66 z1 zB zn zb zu zE)
def Z7o (x11 : Int) (x66 : List Int) (x67 x68 : Int) (b1 : ZC) (z6 z7 zj zh : Int) (zF : List (Int × Z2)) : Option (Z8 × Int) :=
 Z7p x66 x67 x68 b1 z6 z7 zj zh (delM zF x11)
theorem Zd9 x11 (x66 : List Int) x67 x68 b0 b1 b2 z6 z7 zj zh zy zF ox66 z1 zB zn zb zu (zE : Z1d zb = true) : Sim Q12 (Z7o x11 x66 x67 x68 b1 z6 z7 zj zh zF) (Z9V 0 (.ptr 1 0) (.ptr 2 0) (.ptr 3 0) (.mp 4) (iv x11) (pL_ ox66 (x66.map (eI .i64))) (iv x67) (iv x68) [(Z3 b0 z1), (Zl b1 zB zn), (Z3 b2 zb), (ZW z6 z7 zj zh zy zu), (rM_ Z4 zF)]) := by
 unfold Z7o
 refine zf (Zek ..)<|ze ?_
 refine Sim.xdel (B2 := [(Z3 b0 z1), (Zl b1 zB zn), (Z3 b2 zb), (ZW z6 z7 zj zh zy zu), (rM_ Z4 (delM zF x11))]) (fun K => Eq.trans (b := xdel PP 64 (.mp 4) (iv x11) [(Z3 b0 z1), (Zl b1 zB zn), (Z3 b2 zb), (ZW z6 z7 zj zh zy zu), (rM_ Z4 zF)] K) (by kernel_rfl) <| Zkv (P := PP) (t := 64) (K := K) (B2 := [(Z3 b0 z1), (Zl b1 zB zn), (Z3 b2 zb), (ZW z6 z7 zj zh zy zu), (rM_ Z4 (delM zF x11))]) (e := Z4) (es := zF) (te := 43) (by kernel_rfl) (by kernel_rfl) (by kernel_rfl)) ?_
 exact zk (Zda x66 x67 x68 b0 b1 b2 z6 z7 zj zh zy (delM zF x11) ox66 z1 zB zn zb zu zE)
def Z7n (x66 : List Int) (x67 x68 : Int) (b1 : ZC) (z6 z7 zj zh : Int) (zF : List (Int × Z2)) : Option (Z8 × Int) :=
 (lget x66 x68).bind fun a1 =>
 if (!(getM zF a1).isSome) = true then
 (some (Z1S, 32))
 else
 (Z7o a1 x66 x67 x68 b1 z6 z7 zj zh zF)
theorem Zd8 (x66 : List Int) x67 x68 b0 b1 b2 z6 z7 zj zh zy zF ox66 z1 zB zn zb zu (zE : Z1d zb = true) : Sim Q12 (Z7n x66 x67 x68 b1 z6 z7 zj zh zF) (Z9U 0 (.ptr 1 0) (.ptr 2 0) (.ptr 3 0) (.mp 4) (pL_ ox66 (x66.map (eI .i64))) (iv x67) (iv x68) [(Z3 b0 z1), (Zl b1 zB zn), (Z3 b2 zb), (ZW z6 z7 zj zh zy zu), (rM_ Z4 zF)]) := by
 unfold Z7n
 refine zf (Zej ..)<|ze<|zi fun a1 ha1 => zp (.cptr [(.v (.int .i64 a1))]) (et_ (Z1T (o := ox66) (k := .i64) (n := 1) (e := (eI .i64)) (cs := (fun a => [(eI .i64) a])) (fun _ => rfl) (fun _ => rfl) (by decide) ha1))<|zq<|ze<|zp (.p (.tup [(.agg (ZQ ((getM zF a1).getD (Z2.mk 0 0 0 0 (ByteArray.mk #[]))))), (.v (.bool (getM zF a1).isSome))])) (Eq.trans (b := Z34 PP 64 true (.mp 4) (iv a1) [(Z3 b0 z1), (Zl b1 zB zn), (Z3 b2 zb), (ZW z6 z7 zj zh zy zu), (rM_ Z4 zF)]) (by kernel_rfl) <| (Z8h (e := Z4) (z := (Z2.mk 0 0 0 0 (ByteArray.mk #[]))) (es := zF) (te := 43) (by kernel_rfl) (by kernel_rfl) (by kernel_rfl) true).trans (by kernel_rfl))<|zq<|zq<|zz (.ptr 5 0) [(Z3 b0 z1), (Zl b1 zB zn), (Z3 b2 zb), (ZW z6 z7 zj zh zy zu), (rM_ Z4 zF), (Zcb 0 0 0 0 (ByteArray.mk #[]))]<|zt [(Z3 b0 z1), (Zl b1 zB zn), (Z3 b2 zb), (ZW z6 z7 zj zh zy zu), (rM_ Z4 zF), (ZN ((getM zF a1).getD (Z2.mk 0 0 0 0 (ByteArray.mk #[]))))]<|ze<|zq ?_
 refine za (!(getM zF a1).isSome) ?_ ?_
 ·refine ze<|zq<|zt [(Z3 b0 z1), (Zl b1 zB zn), (Z3 Z1S .nl), (ZW z6 z7 zj zh zy zu), (rM_ Z4 zF), (ZN ((getM zF a1).getD (Z2.mk 0 0 0 0 (ByteArray.mk #[]))))] ?_
  exact zr ((.p (.tup [(.agg (ZL Z1S .sh)), (.v (.int .i64 32))])), [(Z3 b0 z1), (Zl b1 zB zn), (Z3 Z1S .nl), (ZW z6 z7 zj zh zy zu), (rM_ Z4 zF), (ZN ((getM zF a1).getD (Z2.mk 0 0 0 0 (ByteArray.mk #[]))))]) ⟨_, rfl⟩
 ·exact zk (Zd9 a1 x66 x67 x68 b0 b1 b2 z6 z7 zj zh zy zF ox66 z1 zB zn zb zu zE)
def Z53 (b1 : ZC) (z6 z7 zj zh : Int) (zF : List (Int × Z2)) : Option (Z8 × Int) :=
 Z5o b1.Put (b1.Put.length : Int) 0 z6 z7 zj zh zF
theorem Zdb b0 b1 b2 z6 z7 zj zh zy zF z1 zB zn zb zu (zE : Z1d zb = true) : Sim Q12 (Z53 b1 z6 z7 zj zh zF) (Z9X 0 (.ptr 1 0) (.ptr 2 0) (.ptr 3 0) (.mp 4) [(Z3 b0 z1), (Zl b1 zB zn), (Z3 b2 zb), (ZW z6 z7 zj zh zy zu), (rM_ Z4 zF)]) := by
 unfold Z53
 refine zf (Zem ..)<|ze<|zq<|zq<|zp (iv (b1.Put.length : Int)) (et_ (Z1E (P := PP) (t := 22) (d := 43) (by kernel_rfl) Z4 (shrO zB) b1.Put)) ?_
 exact zk (Z9e b1.Put (b1.Put.length : Int) 0 b0 b1 b2 z6 z7 zj zh zy zF (shrO zB) z1 zB zn zb zu zE)
def Z4Z (x66 : List Int) (x67 x68 : Int) (b1 : ZC) (z6 z7 zj zh : Int) (zF : List (Int × Z2)) : Option (Z8 × Int) :=
 if (decide (x68 < x67)) = true then
 (Z7n x66 x67 x68 b1 z6 z7 zj zh zF)
 else
 (Z53 b1 z6 z7 zj zh zF)
theorem ZcZ (x66 : List Int) x67 x68 b0 b1 b2 z6 z7 zj zh zy zF ox66 z1 zB zn zb zu (zE : Z1d zb = true) : Sim Q12 (Z4Z x66 x67 x68 b1 z6 z7 zj zh zF) (Z5b 0 (.ptr 1 0) (.ptr 2 0) (.ptr 3 0) (.mp 4) (pL_ ox66 (x66.map (eI .i64))) (iv x67) (iv x68) [(Z3 b0 z1), (Zl b1 zB zn), (Z3 b2 zb), (ZW z6 z7 zj zh zy zu), (rM_ Z4 zF)]) := by
 unfold Z4Z
 refine zf (Zec ..)<|ze<|zq ?_
 refine za (decide (x68 < x67)) ?_ ?_
 ·exact zk (Zd8 x66 x67 x68 b0 b1 b2 z6 z7 zj zh zy zF ox66 z1 zB zn zb zu zE)
 ·exact zk (Zdb b0 b1 b2 z6 z7 zj zh zy zF z1 zB zn zb zu zE)
theorem Z9b x66 x67 x68 b1 z6 z7 zj zh zF {r} (h : Z4Z x66 x67 x68 b1 z6 z7 zj zh zF = some r) : Z5n x66 x67 x68 b1 z6 z7 zj zh zF = some r :=
 Z13 (fun _ _ ha hb => ru_ Z8k (ha default default default .ex .ex .ex .ex .ex .ex rfl) (hb default default default .ex .ex .ex .ex .ex .ex rfl)) (fun b0 b2 zy ox66 z1 zB zn zb zu zE => ZcZ x66 x67 x68 b0 b1 b2 z6 z7 zj zh zy zF ox66 z1 zB zn zb zu zE r h)
def Z7q (x85 : List Z2) (x86 x87 z6 z7 zj zh : Int) (zF : List (Int × Z2)) : Option (Z8 × Int) :=
 (lget x85 x87).bind fun a1 =>
 Z5o x85 x86 (IntKind.i64.wrap (x87 + 1)) z6 z7 zj zh (putM zF a1.ID a1)
theorem Zdc (x85 : List Z2) x86 x87 b0 b1 b2 z6 z7 zj zh zy zF ox85 z1 zB zn zb zu (zE : Z1d zb = true) : Sim Q12 (Z7q x85 x86 x87 z6 z7 zj zh zF) (Z9Y 0 (.ptr 2 0) (.ptr 3 0) (.mp 4) (pL_ ox85 (x85.map Z4)) (iv x86) (iv x87) [(Z3 b0 z1), (Zl b1 zB zn), (Z3 b2 zb), (ZW z6 z7 zj zh zy zu), (rM_ Z4 zF)]) := by
 unfold Z7q
 refine zf (Zen ..)<|ze<|zi fun a1 ha1 => zp (.cptr (ZQ a1)) (et_ (Z1T (o := ox85) (k := .i64) (n := 5) (e := Z4) (cs := Z1q) (fun _ => rfl) (fun _ => rfl) (by decide) ha1))<|zq<|zz (.ptr 5 0) [(Z3 b0 z1), (Zl b1 zB zn), (Z3 b2 zb), (ZW z6 z7 zj zh zy zu), (rM_ Z4 zF), (Zcb 0 0 0 0 (ByteArray.mk #[]))]<|zt [(Z3 b0 z1), (Zl b1 zB zn), (Z3 b2 zb), (ZW z6 z7 zj zh zy zu), (rM_ Z4 zF), (ZN a1)]<|ze<|zq<|zq<|zq ?_
 refine Sim.xupd (B2 := [(Z3 b0 z1), (Zl b1 zB zn), (Z3 b2 zb), (ZW z6 z7 zj zh zy zu), (rM_ Z4 (putM zF a1.ID a1)), (ZN a1)]) (fun K => Eq.trans (b := xupd PP 64 (.mp 4) (iv a1.ID) (pA_ (ZQ a1)) [(Z3 b0 z1), (Zl b1 zB zn), (Z3 b2 zb), (ZW z6 z7 zj zh zy zu), (rM_ Z4 zF), (ZN a1)] K) (by kernel_rfl) <| Zah (P := PP) (t := 64) (K := K) (B2 := [(Z3 b0 z1), (Zl b1 zB zn), (Z3 b2 zb), (ZW z6 z7 zj zh zy zu), (rM_ Z4 (putM zF a1.ID a1)), (ZN a1)]) (e := Z4) (a := a1) (es := zF) (te := 43) (by kernel_rfl) (by kernel_rfl) (by kernel_rfl) (by kernel_rfl) (by kernel_rfl)) ?_
 refine ze<|zq ?_
 exact zk (Z9e x85 x86 (IntKind.i64.wrap (x87 + 1)) b0 b1 b2 z6 z7 zj zh zy (putM zF a1.ID a1) ox85 z1 zB zn zb zu zE)
def Z7r (z6 z7 zj zh : Int) (zF : List (Int × Z2)) : Option (Z8 × Int) :=
 (g31).bind fun r1 =>
 (g30 zF).bind fun r2 =>
 Z5p r2 (r2.length : Int) 0 z6 z7 zj zh ([] : List Z2) zF
theorem Zde b0 b1 b2 z6 z7 zj zh zy zF z1 zB zn zb zu (zE : Z1d zb = true) : Sim Q12 (Z7r z6 z7 zj zh zF) (Za0 0 (.ptr 2 0) (.ptr 3 0) (.mp 4) [(Z3 b0 z1), (Zl b1 zB zn), (Z3 b2 zb), (ZW z6 z7 zj zh zy zu), (rM_ Z4 zF)]) := by
 unfold Z7r
 refine zf (Zep ..)<|ze<|zq<|zt [(Z3 b0 z1), (Zl b1 zB zn), (Z3 b2 zb), (ZW z6 z7 zj zh ([] : List Z2) .nl), (rM_ Z4 zF)]<|ze<|zi fun r1 hr1 => ?_
 obtain ⟨_, er1, _, rfl, _⟩ := ZlG zF r1 hr1
 refine zc [4] (.clo 49 [] [(.ptr 5 0)]) [(Z3 b0 z1), (Zl b1 zB zn), (Z3 b2 zb), (ZW z6 z7 zj zh ([] : List Z2) .nl), (rM_ Z4 zF), [(.mp 4)]] er1<|zi fun r2 hr2 => ?_
 obtain ⟨_, er2, _, rfl⟩ := ZlE zF r2 hr2
 refine zc [5, 4] (pL_ .sh (r2.map (eI .i64))) [(Z3 b0 z1), (Zl b1 zB zn), (Z3 b2 zb), (ZW z6 z7 zj zh ([] : List Z2) .nl), (rM_ Z4 zF), [(.mp 4)]] er2<|zp (iv (r2.length : Int)) (et_ (Z1E (P := PP) (t := 25) (d := 3) (by kernel_rfl) (eI .i64) .sh r2)) ?_
 exact zk (Z9g r2 (r2.length : Int) 0 b0 b1 b2 z6 z7 zj zh ([] : List Z2) zF .sh z1 zB zn zb .nl zE rfl)
def Z54 (z6 z7 zj zh : Int) (zF : List (Int × Z2)) : Option (Z8 × Int) :=
 if (decide (16 < (zF.length : Int))) = true then
 (some (Z1S, 33))
 else
 (Z7r z6 z7 zj zh zF)
theorem Zdd b0 b1 b2 z6 z7 zj zh zy zF z1 zB zn zb zu (zE : Z1d zb = true) : Sim Q12 (Z54 z6 z7 zj zh zF) (Z9Z 0 (.ptr 2 0) (.ptr 3 0) (.mp 4) [(Z3 b0 z1), (Zl b1 zB zn), (Z3 b2 zb), (ZW z6 z7 zj zh zy zu), (rM_ Z4 zF)]) := by
 unfold Z54
 refine zf (Zeo ..)<|ze<|zp (iv (zF.length : Int)) (Eq.trans (b := Z6e (.mp 4) [(Z3 b0 z1), (Zl b1 zB zn), (Z3 b2 zb), (ZW z6 z7 zj zh zy zu), (rM_ Z4 zF)]) (by kernel_rfl) (Zim (e := Z4) (es := zF) (by kernel_rfl)))<|zq ?_
 refine za (decide (16 < (zF.length : Int))) ?_ ?_
 ·refine ze<|zq<|zt [(Z3 b0 z1), (Zl b1 zB zn), (Z3 Z1S .nl), (ZW z6 z7 zj zh zy zu), (rM_ Z4 zF)] ?_
  exact zr ((.p (.tup [(.agg (ZL Z1S .sh)), (.v (.int .i64 33))])), [(Z3 b0 z1), (Zl b1 zB zn), (Z3 Z1S .nl), (ZW z6 z7 zj zh zy zu), (rM_ Z4 zF)]) ⟨_, rfl⟩
 ·exact zk (Zde b0 b1 b2 z6 z7 zj zh zy zF z1 zB zn zb zu zE)
def Z50 (x85 : List Z2) (x86 x87 z6 z7 zj zh : Int) (zF : List (Int × Z2)) : Option (Z8 × Int) :=
 if (decide (x87 < x86)) = true then
 (Z7q x85 x86 x87 z6 z7 zj zh zF)
 else
 (Z54 z6 z7 zj zh zF)
theorem Zd1 (x85 : List Z2) x86 x87 b0 b1 b2 z6 z7 zj zh zy zF ox85 z1 zB zn zb zu (zE : Z1d zb = true) : Sim Q12 (Z50 x85 x86 x87 z6 z7 zj zh zF) (Z5c 0 (.ptr 2 0) (.ptr 3 0) (.mp 4) (pL_ ox85 (x85.map Z4)) (iv x86) (iv x87) [(Z3 b0 z1), (Zl b1 zB zn), (Z3 b2 zb), (ZW z6 z7 zj zh zy zu), (rM_ Z4 zF)]) := by
 unfold Z50
 refine zf (Zed ..)<|ze<|zq ?_
 refine za (decide (x87 < x86)) ?_ ?_
 ·exact zk (Zdc x85 x86 x87 b0 b1 b2 z6 z7 zj zh zy zF ox85 z1 zB zn zb zu zE)
 ·exact zk (Zdd b0 b1 b2 z6 z7 zj zh zy zF z1 zB zn zb zu zE)
theorem Z9d x85 x86 x87 z6 z7 zj zh zF {r} (h : Z50 x85 x86 x87 z6 z7 zj zh zF = some r) : Z5o x85 x86 x87 z6 z7 zj zh zF = some r :=
 Z13 (fun _ _ ha hb => ru_ Z8k (ha default default default default .ex .ex .ex .ex .ex .ex rfl) (hb default default default default .ex .ex .ex .ex .ex .ex rfl)) (fun b0 b1 b2 zy ox85 z1 zB zn zb zu zE => Zd1 x85 x86 x87 b0 b1 b2 z6 z7 zj zh zy zF ox85 z1 zB zn zb zu zE r h)
def Z7s (x103 : List Int) (x104 x105 z6 z7 zj zh : Int) (zy : List Z2) (zF : List (Int × Z2)) : Option (Z8 × Int) :=
 (lget x103 x105).bind fun a1 =>
 (lapp zy ([((getM zF a1).getD (Z2.mk 0 0 0 0 (ByteArray.mk #[])))] : List Z2)).bind fun a2 =>
 Z5p x103 x104 (IntKind.i64.wrap (x105 + 1)) z6 z7 zj zh a2 zF
theorem Zdf (x103 : List Int) x104 x105 b0 b1 b2 z6 z7 zj zh zy zF ox103 z1 zB zn zb zu (zE : Z1d zb = true) (z2a : Z1d zu = true) : Sim Q12 (Z7s x103 x104 x105 z6 z7 zj zh zy zF) (Za1 0 (.ptr 2 0) (.ptr 3 0) (.mp 4) (pL_ ox103 (x103.map (eI .i64))) (iv x104) (iv x105) [(Z3 b0 z1), (Zl b1 zB zn), (Z3 b2 zb), (ZW z6 z7 zj zh zy zu), (rM_ Z4 zF)]) := by
 unfold Z7s
 refine zf (Zeq ..)<|ze<|zi fun a1 ha1 => zp (.cptr [(.v (.int .i64 a1))]) (et_ (Z1T (o := ox103) (k := .i64) (n := 1) (e := (eI .i64)) (cs := (fun a => [(eI .i64) a])) (fun _ => rfl) (fun _ => rfl) (by decide) ha1))<|zq<|ze<|zq<|zw (pL_ zu (zy.map Z4)) [(Z3 b0 z1), (Zl b1 zB zn), (Z3 b2 zb), (ZW z6 z7 zj zh zy (shrO zu)), (rM_ Z4 zF)]<|zp (pA_ (ZQ ((getM zF a1).getD (Z2.mk 0 0 0 0 (ByteArray.mk #[]))))) (Eq.trans (b := Z34 PP 64 false (.mp 4) (iv a1) [(Z3 b0 z1), (Zl b1 zB zn), (Z3 b2 zb), (ZW z6 z7 zj zh zy (shrO zu)), (rM_ Z4 zF)]) (by kernel_rfl) <| (Z8h (e := Z4) (z := (Z2.mk 0 0 0 0 (ByteArray.mk #[]))) (es := zF) (te := 43) (by kernel_rfl) (by kernel_rfl) (by kernel_rfl) false).trans (by kernel_rfl))<|zq<|zi fun a2 ha2 => zp (pL_ .un (a2.map Z4)) (Eq.trans (by kernel_rfl) <| Zag (n := 5) (o := zu) (o' := .ex) (e := Z4) (ys := ([((getM zF a1).getD (Z2.mk 0 0 0 0 (ByteArray.mk #[])))] : List Z2)) (fun _ => rfl) (by decide) z2a ha2)<|zq<|zt [(Z3 b0 z1), (Zl b1 zB zn), (Z3 b2 zb), (ZW z6 z7 zj zh a2 .un), (rM_ Z4 zF)]<|ze<|zq ?_
 exact zk (Z9g x103 x104 (IntKind.i64.wrap (x105 + 1)) b0 b1 b2 z6 z7 zj zh a2 zF ox103 z1 zB zn zb .un zE rfl)
def Z7t (z6 z7 zj zh : Int) (zy : List Z2) : Option (Z8 × Int) :=
 some ((Z8.mk z6 z7 zj zh zy), 0)
theorem Zdg b0 b1 b2 z6 z7 zj zh zy z1 zB zn zb zu (zE : Z1d zb = true) (z2a : Z1d zu = true) : Sim Q12 (Z7t z6 z7 zj zh zy) (Za2 0 (.ptr 2 0) (.ptr 3 0) [(Z3 b0 z1), (Zl b1 zB zn), (Z3 b2 zb), (ZW z6 z7 zj zh zy zu)]) := by
 unfold Z7t
 refine zf (Zer ..)<|ze<|zq<|zt [(Z3 b0 z1), (Zl b1 zB zn), (ZW z6 z7 zj zh zy (shrO zu)), (ZW z6 z7 zj zh zy zu)] ?_
 exact zr ((.p (.tup [(.agg (ZL (Z8.mk z6 z7 zj zh zy) .sh)), (.v (.int .i64 0))])), [(Z3 b0 z1), (Zl b1 zB zn), (ZW z6 z7 zj zh zy (shrO zu)), (ZW z6 z7 zj zh zy zu)]) ⟨_, rfl⟩
def Z51 (x103 : List Int) (x104 x105 z6 z7 zj zh : Int) (zy : List Z2) (zF : List (Int × Z2)) : Option (Z8 × Int) :=
 if (decide (x105 < x104)) = true then
 (Z7s x103 x104 x105 z6 z7 zj zh zy zF)
 else
 (Z7t z6 z7 zj zh zy)
theorem Zd3 (x103 : List Int) x104 x105 b0 b1 b2 z6 z7 zj zh zy zF ox103 z1 zB zn zb zu (zE : Z1d zb = true) (z2a : Z1d zu = true) : Sim Q12 (Z51 x103 x104 x105 z6 z7 zj zh zy zF) (Z5d 0 (.ptr 2 0) (.ptr 3 0) (.mp 4) (pL_ ox103 (x103.map (eI .i64))) (iv x104) (iv x105) [(Z3 b0 z1), (Zl b1 zB zn), (Z3 b2 zb), (ZW z6 z7 zj zh zy zu), (rM_ Z4 zF)]) := by
 unfold Z51
 refine zf (Zee ..)<|ze<|zq ?_
 refine za (decide (x105 < x104)) ?_ ?_
 ·exact zk (Zdf x103 x104 x105 b0 b1 b2 z6 z7 zj zh zy zF ox103 z1 zB zn zb zu zE z2a)
 ·exact zk (Zdg b0 b1 b2 z6 z7 zj zh zy z1 zB zn zb zu zE z2a)
theorem Z9f x103 x104 x105 z6 z7 zj zh zy zF {r} (h : Z51 x103 x104 x105 z6 z7 zj zh zy zF = some r) : Z5p x103 x104 x105 z6 z7 zj zh zy zF = some r :=
 Z13 (fun _ _ ha hb => ru_ Z8k (ha default default default .ex .ex .ex .ex .ex .ex rfl rfl) (hb default default default .ex .ex .ex .ex .ex .ex rfl rfl)) (fun b0 b1 b2 ox103 z1 zB zn zb zu zE z2a => Zd3 x103 x104 x105 b0 b1 b2 z6 z7 zj zh zy zF ox103 z1 zB zn zb zu zE z2a r h)
def Z6l : Option Bool :=
 some false
theorem Z9i : Sim Q27 Z6l (Z8S 0 []) := by
 unfold Z6l
 refine zf (ZfX ..)<|ze ?_
 exact zr ((bv false), []) ⟨_, rfl⟩
def Z8t (b0 : Z8) : Option Bool :=
 Z6I 0 b0.Rules (b0.Rules.length : Int) 0
theorem ZeE b0 z1 : Sim Q27 (Z8t b0) (Zbt 0 (.ptr 0 0) [(Z3 b0 z1)]) := by
 unfold Z8t
 refine zf (ZfY ..)<|ze<|ze<|zq<|zq<|zp (iv (b0.Rules.length : Int)) (et_ (Z1E (P := PP) (t := 22) (d := 43) (by kernel_rfl) Z4 (shrO z1) b0.Rules)) ?_
 exact zk (Zay 0 b0.Rules (b0.Rules.length : Int) 0 (shrO z1))
def b16 (x0 : Z8) : Option Bool :=
 (g27 x0).bind fun r1 =>
 if (!r1) = true then
 Z6l
 else
 (if (decide (16 < (x0.Rules.length : Int))) = true then
 Z6l
 else
 (Z8t x0))
theorem Zjx x0 zd : Sim Q27 (b16 x0) (EE 16 [(pA_ (ZL x0 zd))] []) := by
 unfold b16
 refine zf (ZkO ..)<|ze<|zx (.ptr 0 0) [(Z3 x0 zd)]<|ze<|zq<|zi fun r1 hr1 => ?_
 obtain ⟨_, er1, _, rfl⟩ := ZgG x0 .sh r1 hr1
 refine zc [] (bv r1) [(Z3 x0 zd)] er1<|zq ?_
 refine za (!r1) ?_ ?_
 ·exact zk Z9i
 ·refine zq<|zq<|zp (iv (x0.Rules.length : Int)) (et_ (Z1E (P := PP) (t := 22) (d := 43) (by kernel_rfl) Z4 (shrO zd) x0.Rules))<|zq ?_
  refine za (decide (16 < (x0.Rules.length : Int))) ?_ ?_
  ·exact zk Z9i
  ·exact zk (ZeE x0 zd)
theorem Zlp x0 {r} (h : b16 x0 = some r) : g16 x0 = some r :=
 Z13 (fun _ _ ha hb => ru_ Z3h (ha .ex) (hb .ex)) (fun zd => Zjx x0 zd r h)
def Z6m : Option Bool :=
 some false
theorem Z9j : Sim Q27 Z6m (Z8T 0 []) := by
 unfold Z6m
 refine zf (Zg0 ..)<|ze ?_
 exact zr ((bv false), []) ⟨_, rfl⟩
def Z7u (x3 : Int) (x16 : List Z2) (x17 x18 : Int) : Option Bool :=
 Z6I x3 x16 x17 (IntKind.i64.wrap (x18 + 1))
theorem Zdh x3 (x16 : List Z2) x17 x18 ox16 : Sim Q27 (Z7u x3 x16 x17 x18) (Za3 0 (iv x3) (pL_ ox16 (x16.map Z4)) (iv x17) (iv x18) []) := by
 unfold Z7u
 refine zf (Zes ..)<|ze<|zq ?_
 exact zk (Zay x3 x16 x17 (IntKind.i64.wrap (x18 + 1)) ox16)
def Z8v (x16 : List Z2) (x17 x18 : Int) (b0 : Z2) : Option Bool :=
 Z7u b0.ID x16 x17 x18
theorem ZeG (x16 : List Z2) x17 x18 b0 ox16 : Sim Q27 (Z8v x16 x17 x18 b0) (Zbv 0 (.ptr 0 0) (pL_ ox16 (x16.map Z4)) (iv x17) (iv x18) [(ZN b0)]) := by
 unfold Z8v
 refine zf (Zg1 ..)<|ze<|zq<|zq ?_
 exact zk (Zdh b0.ID x16 x17 x18 ox16)
def Z8u (x3 : Int) (x16 : List Z2) (x17 x18 : Int) : Option Bool :=
 (lget x16 x18).bind fun a1 =>
 (g21 a1).bind fun r2 =>
 if (!r2) = true then
 Z6m
 else
 (if (decide (a1.ID ≤ x3)) = true then
 Z6m
 else
 (Z8v x16 x17 x18 a1))
theorem ZeF x3 (x16 : List Z2) x17 x18 ox16 : Sim Q27 (Z8u x3 x16 x17 x18) (Zbu 0 (iv x3) (pL_ ox16 (x16.map Z4)) (iv x17) (iv x18) []) := by
 unfold Z8u
 refine zf (ZfZ ..)<|ze<|zi fun a1 ha1 => zp (.cptr (ZQ a1)) (et_ (Z1T (o := ox16) (k := .i64) (n := 5) (e := Z4) (cs := Z1q) (fun _ => rfl) (fun _ => rfl) (by decide) ha1))<|zq<|zz (.ptr 0 0) [(Zcb 0 0 0 0 (ByteArray.mk #[]))]<|zt [(ZN a1)]<|ze<|zq<|zi fun r2 hr2 => ?_
 obtain ⟨_, er2, _, rfl⟩ := Zgw a1 r2 hr2
 refine zc [] (bv r2) [(ZN a1)] er2<|zq ?_
 refine za (!r2) ?_ ?_
 ·exact zk Z9j
 ·refine zq<|zq<|zq ?_
  refine za (decide (a1.ID ≤ x3)) ?_ ?_
  ·exact zk Z9j
  ·exact zk (ZeG x16 x17 x18 a1 ox16)
def Z9M : Option Bool :=
 some true
theorem Zdi : Sim Q27 Z9M (Za4 0 []) := by
 unfold Z9M
 refine zf (Zet ..)<|ze ?_
 exact zr ((bv true), []) ⟨_, rfl⟩
def Z6k (x3 : Int) (x16 : List Z2) (x17 x18 : Int) : Option Bool :=
 if (decide (x18 < x17)) = true then
 (Z8u x3 x16 x17 x18)
 else
 Z9M
theorem ZeD x3 (x16 : List Z2) x17 x18 ox16 : Sim Q27 (Z6k x3 x16 x17 x18) (Z6z 0 (iv x3) (pL_ ox16 (x16.map Z4)) (iv x17) (iv x18) []) := by
 unfold Z6k
 refine zf (ZfW ..)<|ze<|zq ?_
 refine za (decide (x18 < x17)) ?_ ?_
 ·exact zk (ZeF x3 x16 x17 x18 ox16)
 ·exact zk Zdi
theorem Zax x3 x16 x17 x18 {r} (h : Z6k x3 x16 x17 x18 = some r) : Z6I x3 x16 x17 x18 = some r :=
 Z13 (fun _ _ ha hb => ru_ Z3h (ha .ex) (hb .ex)) (fun ox16 => ZeD x3 x16 x17 x18 ox16 r h)
def b27 (x0 : Z8) : Option Bool :=
 if (decide (0 ≤ x0.Default)) = true then
 (if (decide (x0.Default ≤ 255)) = true then
 (if (decide (0 ≤ x0.Closed)) = true then
 (if (decide (x0.Closed ≤ 255)) = true then
 (if (decide (1 ≤ x0.Fuel)) = true then
 (if (decide (x0.Fuel ≤ 1048576)) = true then
 (if (decide (0 ≤ x0.Stack)) = true then
 (some (decide (x0.Stack ≤ 4096)))
 else
 (some false))
 else
 (some false))
 else
 (some false))
 else
 (some false))
 else
 (some false))
 else
 (some false))
 else
 (some false)
theorem ZjG x0 zd : Sim Q27 (b27 x0) (EE 27 [(pA_ (ZL x0 zd))] []) := by
 unfold b27
 refine zf (Zl6 ..)<|ze<|zx (.ptr 0 0) [(Z3 x0 zd)]<|ze<|zq<|zq<|zq ?_
 refine za (decide (0 ≤ x0.Default)) ?_ ?_
 ·refine zq<|zq<|zq ?_
  refine za (decide (x0.Default ≤ 255)) ?_ ?_
  ·refine zq<|zq<|zq ?_
   refine za (decide (0 ≤ x0.Closed)) ?_ ?_
   ·refine zq<|zq<|zq ?_
    refine za (decide (x0.Closed ≤ 255)) ?_ ?_
    ·refine zq<|zq<|zq ?_
     refine za (decide (1 ≤ x0.Fuel)) ?_ ?_
     ·refine zq<|zq<|zq ?_
      refine za (decide (x0.Fuel ≤ 1048576)) ?_ ?_
      ·refine zq<|zq<|zq ?_
       refine za (decide (0 ≤ x0.Stack)) ?_ ?_
       ·refine zq<|zq<|zq ?_
        exact zr ((bv (decide (x0.Stack ≤ 4096))), [(Z3 x0 zd)]) ⟨_, rfl⟩
       ·exact zr ((bv false), [(Z3 x0 zd)]) ⟨_, rfl⟩
      ·exact zr ((bv false), [(Z3 x0 zd)]) ⟨_, rfl⟩
     ·exact zr ((bv false), [(Z3 x0 zd)]) ⟨_, rfl⟩
    ·exact zr ((bv false), [(Z3 x0 zd)]) ⟨_, rfl⟩
   ·exact zr ((bv false), [(Z3 x0 zd)]) ⟨_, rfl⟩
  ·exact zr ((bv false), [(Z3 x0 zd)]) ⟨_, rfl⟩
 ·exact zr ((bv false), [(Z3 x0 zd)]) ⟨_, rfl⟩
theorem Zly x0 {r} (h : b27 x0 = some r) : g27 x0 = some r :=
 Z13 (fun _ _ ha hb => ru_ Z3h (ha .ex) (hb .ex)) (fun zd => ZjG x0 zd r h)
def b21 (x0 : Z2) : Option Bool :=
 if (decide (1 ≤ x0.ID)) = true then
 (if (decide (x0.ID ≤ 1099511627776)) = true then
 (if (decide (0 ≤ x0.Priority)) = true then
 (if (decide (x0.Priority ≤ 1000)) = true then
 (if (decide (0 ≤ x0.Action)) = true then
 (if (decide (x0.Action ≤ 255)) = true then
 (if (decide (1 ≤ x0.Scope)) = true then
 (if (decide (x0.Scope ≤ 65535)) = true then
 (some (decide ((x0.Pattern.size : Int) ≤ 256)))
 else
 (some false))
 else
 (some false))
 else
 (some false))
 else
 (some false))
 else
 (some false))
 else
 (some false))
 else
 (some false))
 else
 (some false)
theorem ZjA x0 : Sim Q27 (b21 x0) (EE 21 [(pA_ (ZQ x0))] []) := by
 unfold b21
 refine zf (ZkY ..)<|ze<|zx (.ptr 0 0) [(ZN x0)]<|ze<|zq<|zq<|zq ?_
 refine za (decide (1 ≤ x0.ID)) ?_ ?_
 ·refine zq<|zq<|zq ?_
  refine za (decide (x0.ID ≤ 1099511627776)) ?_ ?_
  ·refine zq<|zq<|zq ?_
   refine za (decide (0 ≤ x0.Priority)) ?_ ?_
   ·refine zq<|zq<|zq ?_
    refine za (decide (x0.Priority ≤ 1000)) ?_ ?_
    ·refine zq<|zq<|zq ?_
     refine za (decide (0 ≤ x0.Action)) ?_ ?_
     ·refine zq<|zq<|zq ?_
      refine za (decide (x0.Action ≤ 255)) ?_ ?_
      ·refine zq<|zq<|zq ?_
       refine za (decide (1 ≤ x0.Scope)) ?_ ?_
       ·refine zq<|zq<|zq ?_
        refine za (decide (x0.Scope ≤ 65535)) ?_ ?_
        ·refine zq<|zq<|zq<|zq ?_
         exact zr ((bv (decide ((x0.Pattern.size : Int) ≤ 256))), [(ZN x0)]) ⟨_, rfl⟩
        ·exact zr ((bv false), [(ZN x0)]) ⟨_, rfl⟩
       ·exact zr ((bv false), [(ZN x0)]) ⟨_, rfl⟩
      ·exact zr ((bv false), [(ZN x0)]) ⟨_, rfl⟩
     ·exact zr ((bv false), [(ZN x0)]) ⟨_, rfl⟩
    ·exact zr ((bv false), [(ZN x0)]) ⟨_, rfl⟩
   ·exact zr ((bv false), [(ZN x0)]) ⟨_, rfl⟩
  ·exact zr ((bv false), [(ZN x0)]) ⟨_, rfl⟩
 ·exact zr ((bv false), [(ZN x0)]) ⟨_, rfl⟩
theorem Zlr x0 {r} (h : b21 x0 = some r) : g21 x0 = some r :=
 Z13 (fun _ _ ha hb => ru_ Z3h ha hb) (ZjA x0 r h)
def b26 (x1 zG : Int) : Option Int :=
 if (x1 != (-1)) = true then
 (some x1)
 else
 (some zG)
theorem ZjE x1 zG zJ zP zM zK z1 : Sim (Q26 zJ zP zM zK z1) (b26 x1 zG) (EE 26 [(.ptr 0 0), (iv x1)] [(ZW zG zJ zP zM zK z1)]) := by
 unfold b26
 refine zf (Z91 ..)<|ze<|zq ?_
 refine za (x1 != (-1)) ?_ ?_
 ·refine ze<|zq<|zt [(ZW x1 zJ zP zM zK z1)] ?_
  exact zr ((.p (.tup [])), [(ZW x1 zJ zP zM zK z1)]) ⟨_, rfl⟩
 ·exact zr ((.p (.tup [])), [(ZW zG zJ zP zM zK z1)]) ⟨_, rfl⟩
theorem Zlw x1 zG {r} (h : b26 x1 zG = some r) : g26 x1 zG = some r :=
 Z13 (fun _ _ ha hb => ru_ (Zmi _ _ _ _ _) (ha default default default default .ex) (hb default default default default .ex)) (fun zJ zP zM zK z1 => ZjE x1 zG zJ zP zM zK z1 r h)
def ZaU (x1 zJ : Int) : Option Int :=
 if (x1 != (-1)) = true then
 (some x1)
 else
 (some zJ)
theorem Zgz x1 zG zJ zP zM zK z1 : Sim (ZaR zG zP zM zK z1) (ZaU x1 zJ) (EE 26 [(.ptr 0 1), (iv x1)] [(ZW zG zJ zP zM zK z1)]) := by
 unfold ZaU
 refine zf (Z91 ..)<|ze<|zq ?_
 refine za (x1 != (-1)) ?_ ?_
 ·refine ze<|zq<|zt [(ZW zG x1 zP zM zK z1)] ?_
  exact zr ((.p (.tup [])), [(ZW zG x1 zP zM zK z1)]) ⟨_, rfl⟩
 ·exact zr ((.p (.tup [])), [(ZW zG zJ zP zM zK z1)]) ⟨_, rfl⟩
theorem ZhB x1 zJ {r} (h : ZaU x1 zJ = some r) : Zb4 x1 zJ = some r :=
 Z13 (fun _ _ ha hb => ru_ (Zjh _ _ _ _ _) (ha default default default default .ex) (hb default default default default .ex)) (fun zG zP zM zK z1 => Zgz x1 zG zJ zP zM zK z1 r h)
def ZaV (x1 zP : Int) : Option Int :=
 if (x1 != (-1)) = true then
 (some x1)
 else
 (some zP)
theorem ZgB x1 zG zJ zP zM zK z1 : Sim (ZaS zG zJ zM zK z1) (ZaV x1 zP) (EE 26 [(.ptr 0 2), (iv x1)] [(ZW zG zJ zP zM zK z1)]) := by
 unfold ZaV
 refine zf (Z91 ..)<|ze<|zq ?_
 refine za (x1 != (-1)) ?_ ?_
 ·refine ze<|zq<|zt [(ZW zG zJ x1 zM zK z1)] ?_
  exact zr ((.p (.tup [])), [(ZW zG zJ x1 zM zK z1)]) ⟨_, rfl⟩
 ·exact zr ((.p (.tup [])), [(ZW zG zJ zP zM zK z1)]) ⟨_, rfl⟩
theorem ZhD x1 zP {r} (h : ZaV x1 zP = some r) : Zb5 x1 zP = some r :=
 Z13 (fun _ _ ha hb => ru_ (Zji _ _ _ _ _) (ha default default default default .ex) (hb default default default default .ex)) (fun zG zJ zM zK z1 => ZgB x1 zG zJ zP zM zK z1 r h)
def ZaW (x1 zM : Int) : Option Int :=
 if (x1 != (-1)) = true then
 (some x1)
 else
 (some zM)
theorem ZgD x1 zG zJ zP zM zK z1 : Sim (ZaT zG zJ zP zK z1) (ZaW x1 zM) (EE 26 [(.ptr 0 3), (iv x1)] [(ZW zG zJ zP zM zK z1)]) := by
 unfold ZaW
 refine zf (Z91 ..)<|ze<|zq ?_
 refine za (x1 != (-1)) ?_ ?_
 ·refine ze<|zq<|zt [(ZW zG zJ zP x1 zK z1)] ?_
  exact zr ((.p (.tup [])), [(ZW zG zJ zP x1 zK z1)]) ⟨_, rfl⟩
 ·exact zr ((.p (.tup [])), [(ZW zG zJ zP zM zK z1)]) ⟨_, rfl⟩
theorem ZhF x1 zM {r} (h : ZaW x1 zM = some r) : Zb6 x1 zM = some r :=
 Z13 (fun _ _ ha hb => ru_ (Zjj _ _ _ _ _) (ha default default default default .ex) (hb default default default default .ex)) (fun zG zJ zP zK z1 => ZgD x1 zG zJ zP zM zK z1 r h)
def b28 (x0 : List Z2) : Option Bool :=
 (g42 x0).bind fun r1 =>
 some (!r1)
theorem ZjH (x0 : List Z2) ox0 : Sim Q27 (b28 x0) (EE 28 [(pL_ ox0 (x0.map Z4)), (.clo 21 [] [])] []) := by
 unfold b28
 refine zf (Zl7 ..)<|ze<|zx (.ptr 0 0) [[(.clo 21 [] [])]]<|ze<|zi fun r1 hr1 => ?_
 obtain ⟨_, er1, _, rfl⟩ := ZlN x0 .sh r1 hr1
 refine zc [0] (bv r1) [[(.clo 21 [] [])]] er1<|zq ?_
 exact zr ((bv (!r1)), [[(.clo 21 [] [])]]) ⟨_, rfl⟩
theorem Zlz x0 {r} (h : b28 x0 = some r) : g28 x0 = some r :=
 Z13 (fun _ _ ha hb => ru_ Z3h (ha .ex) (hb .ex)) (fun ox0 => ZjH x0 ox0 r h)
def b42 (x0 : List Z2) : Option Bool :=
 (g52 x0).bind fun r1 =>
 some (decide (0 ≤ r1))
theorem ZjS (x0 : List Z2) ox0 : Sim Q43 (b42 x0) (EE 42 [(pL_ ox0 (x0.map Z4)), (.clo 43 [] [(.ptr 0 0)])] [[(.clo 21 [] [])]]) := by
 unfold b42
 refine zf (Zgg ..)<|ze<|ze<|zi fun r1 hr1 => ?_
 obtain ⟨_, er1, _, rfl⟩ := ZlV x0 .sh r1 hr1
 refine zc [0] (iv r1) [[(.clo 21 [] [])]] er1<|zq ?_
 exact zr ((bv (decide (0 ≤ r1))), [[(.clo 21 [] [])]]) ⟨_, rfl⟩
theorem ZlM x0 {r} (h : b42 x0 = some r) : g42 x0 = some r :=
 Z13 (fun _ _ ha hb => ru_ Zir (ha .ex) (hb .ex)) (fun ox0 => ZjS x0 ox0 r h)
def b52 (x0 : List Z2) : Option Int :=
 Z6N x0 (x0.length : Int) 0
theorem ZjX (x0 : List Z2) ox0 : Sim Q52 (b52 x0) (EE 52 [(pL_ ox0 (x0.map Z4)), (.clo 43 [] [(.ptr 0 0)])] [[(.clo 21 [] [])]]) := by
 unfold b52
 refine zf (Zgh ..)<|ze<|ze<|zp (iv (x0.length : Int)) (et_ (Z1E (P := PP) (t := 22) (d := 43) (by kernel_rfl) Z4 (shrO ox0) x0)) ?_
 exact zk (ZaF x0 (x0.length : Int) 0 ox0)
theorem ZlU x0 {r} (h : b52 x0 = some r) : g52 x0 = some r :=
 Z13 (fun _ _ ha hb => ru_ Ziu (ha .ex) (hb .ex)) (fun ox0 => ZjX x0 ox0 r h)
def Z8A (x0 : List Z2) (x7 x8 : Int) : Option Int :=
 Z6N x0 x7 (IntKind.i64.wrap (x8 + 1))
theorem ZeT (x0 : List Z2) x7 x8 ox0 : Sim Q52 (Z8A x0 x7 x8) (Z93 1 (pL_ ox0 (x0.map Z4)) (.clo 43 [] [(.ptr 0 0)]) (iv x7) (iv x8) [[(.clo 21 [] [])]]) := by
 unfold Z8A
 refine zf (Zal ..)<|ze<|zq ?_
 exact zk (ZaF x0 x7 (IntKind.i64.wrap (x8 + 1)) ox0)
def Z6t (x0 : List Z2) (x7 x8 : Int) : Option Int :=
 (lget x0 x8).bind fun a1 =>
 (g43 a1).bind fun r2 =>
 if r2 = true then
 (some x8)
 else
 (Z8A x0 x7 x8)
theorem ZeS (x0 : List Z2) x7 x8 ox0 : Sim Q52 (Z6t x0 x7 x8) (Z92 1 (pL_ ox0 (x0.map Z4)) (.clo 43 [] [(.ptr 0 0)]) (iv x7) (iv x8) [[(.clo 21 [] [])]]) := by
 unfold Z6t
 refine zf (Zak ..)<|ze<|ze<|zi fun a1 ha1 => zp (.cptr (ZQ a1)) (et_ (Z1T (o := (shrO ox0)) (k := .i64) (n := 5) (e := Z4) (cs := Z1q) (fun _ => rfl) (fun _ => rfl) (by decide) ha1))<|zq<|zi fun r2 hr2 => ?_
 obtain ⟨_, er2, _, rfl⟩ := ZlO a1 r2 hr2
 refine zv [0] (bv r2) [[(.clo 21 [] [])]] er2 ?_
 refine za r2 ?_ ?_
 ·refine ze ?_
  exact zr ((iv x8), [[(.clo 21 [] [])]]) ⟨_, rfl⟩
 ·exact zk (ZeT x0 x7 x8 ox0)
def Zbc : Option Int :=
 some (-1)
theorem ZeU : Sim Q52 Zbc (Z94 1 [[(.clo 21 [] [])]]) := by
 unfold Zbc
 refine zf (Zam ..)<|ze ?_
 exact zr ((iv (-1)), [[(.clo 21 [] [])]]) ⟨_, rfl⟩
def Z57 (x0 : List Z2) (x7 x8 : Int) : Option Int :=
 if (decide (x8 < x7)) = true then
 (Z6t x0 x7 x8)
 else
 Zbc
theorem ZeR (x0 : List Z2) x7 x8 ox0 : Sim Q52 (Z57 x0 x7 x8) (Z4x 1 (pL_ ox0 (x0.map Z4)) (.clo 43 [] [(.ptr 0 0)]) (iv x7) (iv x8) [[(.clo 21 [] [])]]) := by
 unfold Z57
 refine zf (Zaj ..)<|ze<|zq ?_
 refine za (decide (x8 < x7)) ?_ ?_
 ·exact zk (ZeS x0 x7 x8 ox0)
 ·exact zk ZeU
theorem Z6O x0 x7 x8 {r} (h : Z57 x0 x7 x8 = some r) : Z6N x0 x7 x8 = some r :=
 Z13 (fun _ _ ha hb => ru_ Ziu (ha .ex) (hb .ex)) (fun ox0 => ZeR x0 x7 x8 ox0 r h)
def b43 (x0 : Z2) : Option Bool :=
 (g21 x0).bind fun r1 =>
 some (!r1)
theorem ZjT x0 : Sim Q43 (b43 x0) (EE 43 [(pA_ (ZQ x0)), (.ptr 0 0)] [[(.clo 21 [] [])]]) := by
 unfold b43
 refine zf (Zld ..)<|ze<|zx (.ptr 1 0) [[(.clo 21 [] [])], (ZN x0)]<|ze<|zq<|zq<|zi fun r1 hr1 => ?_
 obtain ⟨_, er1, _, rfl⟩ := Zgw x0 r1 hr1
 refine zv [] (bv r1) [[(.clo 21 [] [])], (ZN x0)] er1<|zq ?_
 exact zr ((bv (!r1)), [[(.clo 21 [] [])], (ZN x0)]) ⟨_, rfl⟩
theorem ZgJ x0 {r} (h : b43 x0 = some r) : g43 x0 = some r :=
 Z13 (fun _ _ ha hb => ru_ Zir ha hb) (ZjT x0 r h)
def b29 (x0 : ZC) : Option Bool :=
 (Zb7 x0.Put ([] : List (Int × Bool))).bind fun r1 =>
 if r1.1 = true then
 (some true)
 else
 ((g46 x0.Drop r1.2).bind fun r2 =>
 some r2.1)
theorem ZjJ x0 z1P z1F : Sim Q27 (b29 x0) (EE 29 [(pA_ (Z1s x0 z1P z1F))] []) := by
 unfold b29
 refine zf (Zl8 ..)<|ze<|zx (.ptr 0 0) [(Zl x0 z1P z1F)]<|ze<|zm (.mp 1) [(Zl x0 z1P z1F), (rM_ eB ([] : List (Int × Bool)))]<|zz (.ptr 2 0) [(Zl x0 z1P z1F), (rM_ eB ([] : List (Int × Bool))), [(.p (.v (.map none)))]]<|zt [(Zl x0 z1P z1F), (rM_ eB ([] : List (Int × Bool))), [(.mp 1)]]<|ze<|zz (.ptr 3 0) [(Zl x0 z1P z1F), (rM_ eB ([] : List (Int × Bool))), [(.mp 1)], [(.p (.v .nilFunc))]]<|zt [(Zl x0 z1P z1F), (rM_ eB ([] : List (Int × Bool))), [(.mp 1)], [(.clo 44 [] [(.ptr 2 0)])]]<|ze<|zq<|zq<|zi fun r1 hr1 => ?_
 obtain ⟨_, er1, _, rfl⟩ := ZhI x0.Put ([] : List (Int × Bool)) .sh r1 hr1
 refine zc [3, 2, 1] (bv r1.1) [(Zl x0 z1P z1F), (rM_ eB r1.2), [(.mp 1)], [(.clo 44 [] [(.ptr 2 0)])]] er1 ?_
 refine za r1.1 ?_ ?_
 ·exact zr ((bv true), [(Zl x0 z1P z1F), (rM_ eB r1.2), [(.mp 1)], [(.clo 44 [] [(.ptr 2 0)])]]) ⟨_, rfl⟩
 ·refine zq<|zq<|zq<|zi fun r2 hr2 => ?_
  obtain ⟨_, er2, _, rfl⟩ := ZlT x0.Drop r1.2 .sh r2 hr2
  refine zc [2, 1] (bv r2.1) [(Zl x0 z1P z1F), (rM_ eB r2.2), [(.mp 1)], [(.clo 44 [] [(.ptr 2 0)])]] er2 ?_
  exact zr ((bv r2.1), [(Zl x0 z1P z1F), (rM_ eB r2.2), [(.mp 1)], [(.clo 44 [] [(.ptr 2 0)])]]) ⟨_, rfl⟩
theorem ZlB x0 {r} (h : b29 x0 = some r) : g29 x0 = some r :=
 Z13 (fun _ _ ha hb => ru_ Z3h (ha .ex .ex) (hb .ex .ex)) (fun z1P z1F => ZjJ x0 z1P z1F r h)
def ZaX (x0 : List Z2) (z14 : List (Int × Bool)) : Option (Bool × (List (Int × Bool))) :=
 (Zb8 x0 z14).bind fun r1 =>
 some ((decide (0 ≤ r1.1)), r1.2)
theorem ZgH (x0 : List Z2) z14 ox0 : Sim Q45 (ZaX x0 z14) (EE 42 [(pL_ ox0 (x0.map Z4)), (.clo 45 [] [(.ptr 0 0)])] [[(.clo 44 [] [(.ptr 1 0)])], [(.mp 2)], (rM_ eB z14)]) := by
 unfold ZaX
 refine zf (Zgg ..)<|ze<|ze<|zi fun r1 hr1 => ?_
 obtain ⟨_, er1, _, rfl⟩ := ZhL x0 z14 .sh r1 hr1
 refine zc [0, 1, 2] (iv r1.1) [[(.clo 44 [] [(.ptr 1 0)])], [(.mp 2)], (rM_ eB r1.2)] er1<|zq ?_
 exact zr ((bv (decide (0 ≤ r1.1))), [[(.clo 44 [] [(.ptr 1 0)])], [(.mp 2)], (rM_ eB r1.2)]) ⟨_, rfl⟩
theorem ZhH x0 z14 {r} (h : ZaX x0 z14 = some r) : Zb7 x0 z14 = some r :=
 Z13 (fun _ _ ha hb => ru_ Zit (ha .ex) (hb .ex)) (fun ox0 => ZgH x0 z14 ox0 r h)
def ZaY (x0 : List Z2) (z14 : List (Int × Bool)) : Option (Int × (List (Int × Bool))) :=
 Z4y x0 (x0.length : Int) 0 z14
theorem ZgM (x0 : List Z2) z14 ox0 : Sim Z4k (ZaY x0 z14) (EE 52 [(pL_ ox0 (x0.map Z4)), (.clo 45 [] [(.ptr 0 0)])] [[(.clo 44 [] [(.ptr 1 0)])], [(.mp 2)], (rM_ eB z14)]) := by
 unfold ZaY
 refine zf (Zgh ..)<|ze<|ze<|zp (iv (x0.length : Int)) (et_ (Z1E (P := PP) (t := 22) (d := 43) (by kernel_rfl) Z4 (shrO ox0) x0)) ?_
 exact zk (Z7P x0 (x0.length : Int) 0 z14 ox0)
theorem ZhK x0 z14 {r} (h : ZaY x0 z14 = some r) : Zb8 x0 z14 = some r :=
 Z13 (fun _ _ ha hb => ru_ Zdx (ha .ex) (hb .ex)) (fun ox0 => ZgM x0 z14 ox0 r h)
def Z5F (x0 : List Z2) (x7 x8 : Int) (z14 : List (Int × Bool)) : Option (Int × (List (Int × Bool))) :=
 Z4y x0 x7 (IntKind.i64.wrap (x8 + 1)) z14
theorem Zc2 (x0 : List Z2) x7 x8 z14 ox0 : Sim Z4k (Z5F x0 x7 x8 z14) (Z93 3 (pL_ ox0 (x0.map Z4)) (.clo 45 [] [(.ptr 0 0)]) (iv x7) (iv x8) [[(.clo 44 [] [(.ptr 1 0)])], [(.mp 2)], (rM_ eB z14)]) := by
 unfold Z5F
 refine zf (Zal ..)<|ze<|zq ?_
 exact zk (Z7P x0 x7 (IntKind.i64.wrap (x8 + 1)) z14 ox0)
def Z4s (x0 : List Z2) (x7 x8 : Int) (z14 : List (Int × Bool)) : Option (Int × (List (Int × Bool))) :=
 (lget x0 x8).bind fun a1 =>
 (g45 a1 z14).bind fun r2 =>
 if r2.1 = true then
 (some (x8, r2.2))
 else
 (Z5F x0 x7 x8 r2.2)
theorem Zc1 (x0 : List Z2) x7 x8 z14 ox0 : Sim Z4k (Z4s x0 x7 x8 z14) (Z92 3 (pL_ ox0 (x0.map Z4)) (.clo 45 [] [(.ptr 0 0)]) (iv x7) (iv x8) [[(.clo 44 [] [(.ptr 1 0)])], [(.mp 2)], (rM_ eB z14)]) := by
 unfold Z4s
 refine zf (Zak ..)<|ze<|ze<|zi fun a1 ha1 => zp (.cptr (ZQ a1)) (et_ (Z1T (o := (shrO ox0)) (k := .i64) (n := 5) (e := Z4) (cs := Z1q) (fun _ => rfl) (fun _ => rfl) (by decide) ha1))<|zq<|zi fun r2 hr2 => ?_
 obtain ⟨_, er2, _, rfl⟩ := ZlR a1 z14 r2 hr2
 refine zv [0, 1, 2] (bv r2.1) [[(.clo 44 [] [(.ptr 1 0)])], [(.mp 2)], (rM_ eB r2.2)] er2 ?_
 refine za r2.1 ?_ ?_
 ·refine ze ?_
  exact zr ((iv x8), [[(.clo 44 [] [(.ptr 1 0)])], [(.mp 2)], (rM_ eB r2.2)]) ⟨_, rfl⟩
 ·exact zk (Zc2 x0 x7 x8 r2.2 ox0)
def Z7Y (z14 : List (Int × Bool)) : Option (Int × (List (Int × Bool))) :=
 some ((-1), z14)
theorem Zc3 z14 : Sim Z4k (Z7Y z14) (Z94 3 [[(.clo 44 [] [(.ptr 1 0)])], [(.mp 2)], (rM_ eB z14)]) := by
 unfold Z7Y
 refine zf (Zam ..)<|ze ?_
 exact zr ((iv (-1)), [[(.clo 44 [] [(.ptr 1 0)])], [(.mp 2)], (rM_ eB z14)]) ⟨_, rfl⟩
def Z3G (x0 : List Z2) (x7 x8 : Int) (z14 : List (Int × Bool)) : Option (Int × (List (Int × Bool))) :=
 if (decide (x8 < x7)) = true then
 (Z4s x0 x7 x8 z14)
 else
 (Z7Y z14)
theorem Zc0 (x0 : List Z2) x7 x8 z14 ox0 : Sim Z4k (Z3G x0 x7 x8 z14) (Z4x 3 (pL_ ox0 (x0.map Z4)) (.clo 45 [] [(.ptr 0 0)]) (iv x7) (iv x8) [[(.clo 44 [] [(.ptr 1 0)])], [(.mp 2)], (rM_ eB z14)]) := by
 unfold Z3G
 refine zf (Zaj ..)<|ze<|zq ?_
 refine za (decide (x8 < x7)) ?_ ?_
 ·exact zk (Zc1 x0 x7 x8 z14 ox0)
 ·exact zk (Zc3 z14)
theorem Z4P x0 x7 x8 z14 {r} (h : Z3G x0 x7 x8 z14 = some r) : Z4y x0 x7 x8 z14 = some r :=
 Z13 (fun _ _ ha hb => ru_ Zdx (ha .ex) (hb .ex)) (fun ox0 => Zc0 x0 x7 x8 z14 ox0 r h)
def b45 (x0 : Z2) (z14 : List (Int × Bool)) : Option (Bool × (List (Int × Bool))) :=
 (g44 x0.ID z14).bind fun r1 =>
 some (r1.1, r1.2)
theorem ZjV x0 z14 : Sim Q45 (b45 x0 z14) (EE 45 [(pA_ (ZQ x0)), (.ptr 0 0)] [[(.clo 44 [] [(.ptr 1 0)])], [(.mp 2)], (rM_ eB z14)]) := by
 unfold b45
 refine zf (Zlf ..)<|ze<|zx (.ptr 3 0) [[(.clo 44 [] [(.ptr 1 0)])], [(.mp 2)], (rM_ eB z14), (ZN x0)]<|ze<|zq<|zq<|zq<|zi fun r1 hr1 => ?_
 obtain ⟨_, er1, _, rfl⟩ := ZgL x0.ID z14 r1 hr1
 refine zv [1, 2] (bv r1.1) [[(.clo 44 [] [(.ptr 1 0)])], [(.mp 2)], (rM_ eB r1.2), (ZN x0)] er1 ?_
 exact zr ((bv r1.1), [[(.clo 44 [] [(.ptr 1 0)])], [(.mp 2)], (rM_ eB r1.2), (ZN x0)]) ⟨_, rfl⟩
theorem ZlQ x0 z14 {r} (h : b45 x0 z14 = some r) : g45 x0 z14 = some r :=
 Z13 (fun _ _ ha hb => ru_ Zit ha hb) (ZjV x0 z14 r h)
def b44 (x0 : Int) (zU : List (Int × Bool)) : Option (Bool × (List (Int × Bool))) :=
 some (((getM zU x0).getD false), (putM zU x0 true))
theorem ZjU x0 zU : Sim Q44 (b44 x0 zU) (EE 44 [(iv x0), (.ptr 0 0)] [[(.mp 1)], (rM_ eB zU)]) := by
 unfold b44
 refine zf (Zle ..)<|ze<|ze<|zq<|zp (bv ((getM zU x0).getD false)) (Eq.trans (b := Z34 PP 75 false (.mp 1) (iv x0) [[(.mp 1)], (rM_ eB zU)]) (by kernel_rfl) <| (Z8h (e := eB) (z := false) (es := zU) (te := 4) (by kernel_rfl) (by kernel_rfl) (by kernel_rfl) false).trans (by kernel_rfl))<|ze<|zq ?_
 refine Sim.xupd (B2 := [[(.mp 1)], (rM_ eB (putM zU x0 true))]) (fun K => Eq.trans (b := xupd PP 75 (.mp 1) (iv x0) (bv true) [[(.mp 1)], (rM_ eB zU)] K) (by kernel_rfl) <| Zah (P := PP) (t := 75) (K := K) (B2 := [[(.mp 1)], (rM_ eB (putM zU x0 true))]) (e := eB) (a := true) (es := zU) (te := 4) (by kernel_rfl) (by kernel_rfl) (by kernel_rfl) (by kernel_rfl) (by kernel_rfl)) ?_
 refine ze ?_
 exact zr ((bv ((getM zU x0).getD false)), [[(.mp 1)], (rM_ eB (putM zU x0 true))]) ⟨_, rfl⟩
theorem ZlP x0 zU {r} (h : b44 x0 zU = some r) : g44 x0 zU = some r :=
 Z13 (fun _ _ ha hb => ru_ Zis ha hb) (ZjU x0 zU r h)
def b46 (x0 : List Int) (zU : List (Int × Bool)) : Option (Bool × (List (Int × Bool))) :=
 (g53 x0 zU).bind fun r1 =>
 some ((decide (0 ≤ r1.1)), r1.2)
theorem ZjW (x0 : List Int) zU ox0 : Sim Q44 (b46 x0 zU) (EE 46 [(pL_ ox0 (x0.map (eI .i64))), (.clo 44 [] [(.ptr 0 0)])] [[(.mp 1)], (rM_ eB zU)]) := by
 unfold b46
 refine zf (Zlg ..)<|ze<|ze<|zi fun r1 hr1 => ?_
 obtain ⟨_, er1, _, rfl⟩ := ZlX x0 zU .sh r1 hr1
 refine zc [0, 1] (iv r1.1) [[(.mp 1)], (rM_ eB r1.2)] er1<|zq ?_
 exact zr ((bv (decide (0 ≤ r1.1))), [[(.mp 1)], (rM_ eB r1.2)]) ⟨_, rfl⟩
theorem ZlS x0 zU {r} (h : b46 x0 zU = some r) : g46 x0 zU = some r :=
 Z13 (fun _ _ ha hb => ru_ Zis (ha .ex) (hb .ex)) (fun ox0 => ZjW x0 zU ox0 r h)
def b53 (x0 : List Int) (zU : List (Int × Bool)) : Option (Int × (List (Int × Bool))) :=
 Z6P x0 (x0.length : Int) 0 zU
theorem ZjY (x0 : List Int) zU ox0 : Sim Q53 (b53 x0 zU) (EE 53 [(pL_ ox0 (x0.map (eI .i64))), (.clo 44 [] [(.ptr 0 0)])] [[(.mp 1)], (rM_ eB zU)]) := by
 unfold b53
 refine zf (Zli ..)<|ze<|ze<|zp (iv (x0.length : Int)) (et_ (Z1E (P := PP) (t := 25) (d := 3) (by kernel_rfl) (eI .i64) (shrO ox0) x0)) ?_
 exact zk (ZaG x0 (x0.length : Int) 0 zU ox0)
theorem ZlW x0 zU {r} (h : b53 x0 zU = some r) : g53 x0 zU = some r :=
 Z13 (fun _ _ ha hb => ru_ Ziv (ha .ex) (hb .ex)) (fun ox0 => ZjY x0 zU ox0 r h)
def Z8B (x0 : List Int) (x7 x8 : Int) (zU : List (Int × Bool)) : Option (Int × (List (Int × Bool))) :=
 Z6P x0 x7 (IntKind.i64.wrap (x8 + 1)) zU
theorem ZeY (x0 : List Int) x7 x8 zU ox0 : Sim Q53 (Z8B x0 x7 x8 zU) (ZbQ 2 (pL_ ox0 (x0.map (eI .i64))) (.clo 44 [] [(.ptr 0 0)]) (iv x7) (iv x8) [[(.mp 1)], (rM_ eB zU)]) := by
 unfold Z8B
 refine zf (Zgn ..)<|ze<|zq ?_
 exact zk (ZaG x0 x7 (IntKind.i64.wrap (x8 + 1)) zU ox0)
def Z6u (x0 : List Int) (x7 x8 : Int) (zU : List (Int × Bool)) : Option (Int × (List (Int × Bool))) :=
 (lget x0 x8).bind fun a1 =>
 (g44 a1 zU).bind fun r2 =>
 if r2.1 = true then
 (some (x8, r2.2))
 else
 (Z8B x0 x7 x8 r2.2)
theorem ZeX (x0 : List Int) x7 x8 zU ox0 : Sim Q53 (Z6u x0 x7 x8 zU) (ZbP 2 (pL_ ox0 (x0.map (eI .i64))) (.clo 44 [] [(.ptr 0 0)]) (iv x7) (iv x8) [[(.mp 1)], (rM_ eB zU)]) := by
 unfold Z6u
 refine zf (Zgm ..)<|ze<|ze<|zi fun a1 ha1 => zp (.cptr [(.v (.int .i64 a1))]) (et_ (Z1T (o := (shrO ox0)) (k := .i64) (n := 1) (e := (eI .i64)) (cs := (fun a => [(eI .i64) a])) (fun _ => rfl) (fun _ => rfl) (by decide) ha1))<|zq<|zi fun r2 hr2 => ?_
 obtain ⟨_, er2, _, rfl⟩ := ZgL a1 zU r2 hr2
 refine zv [0, 1] (bv r2.1) [[(.mp 1)], (rM_ eB r2.2)] er2 ?_
 refine za r2.1 ?_ ?_
 ·refine ze ?_
  exact zr ((iv x8), [[(.mp 1)], (rM_ eB r2.2)]) ⟨_, rfl⟩
 ·exact zk (ZeY x0 x7 x8 r2.2 ox0)
def Zbd (zU : List (Int × Bool)) : Option (Int × (List (Int × Bool))) :=
 some ((-1), zU)
theorem ZeZ zU : Sim Q53 (Zbd zU) (ZbR 2 [[(.mp 1)], (rM_ eB zU)]) := by
 unfold Zbd
 refine zf (Zgo ..)<|ze ?_
 exact zr ((iv (-1)), [[(.mp 1)], (rM_ eB zU)]) ⟨_, rfl⟩
def Z58 (x0 : List Int) (x7 x8 : Int) (zU : List (Int × Bool)) : Option (Int × (List (Int × Bool))) :=
 if (decide (x8 < x7)) = true then
 (Z6u x0 x7 x8 zU)
 else
 (Zbd zU)
theorem ZeW (x0 : List Int) x7 x8 zU ox0 : Sim Q53 (Z58 x0 x7 x8 zU) (Z6F 2 (pL_ ox0 (x0.map (eI .i64))) (.clo 44 [] [(.ptr 0 0)]) (iv x7) (iv x8) [[(.mp 1)], (rM_ eB zU)]) := by
 unfold Z58
 refine zf (Zgl ..)<|ze<|zq ?_
 refine za (decide (x8 < x7)) ?_ ?_
 ·exact zk (ZeX x0 x7 x8 zU ox0)
 ·exact zk (ZeZ zU)
theorem Z6Q x0 x7 x8 zU {r} (h : Z58 x0 x7 x8 zU = some r) : Z6P x0 x7 x8 zU = some r :=
 Z13 (fun _ _ ha hb => ru_ Ziv (ha .ex) (hb .ex)) (fun ox0 => ZeW x0 x7 x8 zU ox0 r h)
def b31 : Option Unit :=
 some ()
theorem ZjM z37 : Sim (Q31 z37) b31 (EE 31 [(.mp 0)] [(rM_ Z4 z37)]) := by
 unfold b31
 refine zf (Zl9 ..)<|ze<|zx (.ptr 1 0) [(rM_ Z4 z37), [(.mp 0)]]<|ze ?_
 exact zr ((.clo 49 [] [(.ptr 1 0)]), [(rM_ Z4 z37), [(.mp 0)]]) ⟨[], rfl, rfl⟩
theorem ZlF {r} (h : b31 = some r) : g31 = some r :=
 Z13 (fun _ _ ha hb => ru_ (Zmk _) (ha default) (hb default)) (fun z37 => ZjM z37 r h)
def b11 (x0 : Z8) (x1 : ZC) : Option Bool :=
 if (decide ((x0.Rules.length : Int) ≤ 40)) = true then
 (if (decide ((x1.Put.length : Int) ≤ 40)) = true then
 (some (decide ((x1.Drop.length : Int) ≤ 40)))
 else
 (some false))
 else
 (some false)
theorem Zjt x0 x1 zd z1f z1a : Sim Q27 (b11 x0 x1) (EE 11 [(pA_ (ZL x0 zd)), (pA_ (Z1s x1 z1f z1a))] []) := by
 unfold b11
 refine zf (ZkD ..)<|ze<|zx (.ptr 0 0) [(Z3 x0 zd)]<|zx (.ptr 1 0) [(Z3 x0 zd), (Zl x1 z1f z1a)]<|ze<|zq<|zq<|zp (iv (x0.Rules.length : Int)) (et_ (Z1E (P := PP) (t := 22) (d := 43) (by kernel_rfl) Z4 (shrO zd) x0.Rules))<|zq ?_
 refine za (decide ((x0.Rules.length : Int) ≤ 40)) ?_ ?_
 ·refine zq<|zq<|zp (iv (x1.Put.length : Int)) (et_ (Z1E (P := PP) (t := 22) (d := 43) (by kernel_rfl) Z4 (shrO z1f) x1.Put))<|zq ?_
  refine za (decide ((x1.Put.length : Int) ≤ 40)) ?_ ?_
  ·refine zq<|zq<|zp (iv (x1.Drop.length : Int)) (et_ (Z1E (P := PP) (t := 25) (d := 3) (by kernel_rfl) (eI .i64) (shrO z1a) x1.Drop))<|zq ?_
   exact zr ((bv (decide ((x1.Drop.length : Int) ≤ 40))), [(Z3 x0 zd), (Zl x1 z1f z1a)]) ⟨_, rfl⟩
  ·exact zr ((bv false), [(Z3 x0 zd), (Zl x1 z1f z1a)]) ⟨_, rfl⟩
 ·exact zr ((bv false), [(Z3 x0 zd), (Zl x1 z1f z1a)]) ⟨_, rfl⟩
theorem Zll x0 x1 {r} (h : b11 x0 x1 = some r) : g11 x0 x1 = some r :=
 Z13 (fun _ _ ha hb => ru_ Z3h (ha .ex .ex .ex) (hb .ex .ex .ex)) (fun zd z1f z1a => Zjt x0 x1 zd z1f z1a r h)
def b14 (x0 : Z8) : Option Zk :=
 Z6H x0.Rules (x0.Rules.length : Int) 0 x0.Default x0.Closed x0.Fuel x0.Stack ([] : List Z2)
theorem Zjw x0 zd : Sim Q14 (b14 x0) (EE 14 [(pA_ (ZL x0 zd))] []) := by
 unfold b14
 refine zf (ZkL ..)<|ze<|zx (.ptr 0 0) [(Z3 x0 zd)]<|zz (.ptr 1 0) [(Z3 x0 zd), (ZD ZcN .nl)]<|ze<|zq<|zq<|zq<|zq<|zq<|zq<|zq<|zq<|zq<|zz (.ptr 2 0) [(Z3 x0 zd), (ZD ZcN .nl), (ZD ZcN .nl)]<|zt [(Z3 x0 zd), (ZD ZcN .nl), (Z3I x0.Default x0.Closed x0.Fuel x0.Stack ([] : List Z2) .nl)]<|ze<|zq<|zq<|zp (iv (x0.Rules.length : Int)) (et_ (Z1E (P := PP) (t := 22) (d := 43) (by kernel_rfl) Z4 (shrO zd) x0.Rules)) ?_
 exact zk (Zaw x0.Rules (x0.Rules.length : Int) 0 x0 ZcN x0.Default x0.Closed x0.Fuel x0.Stack ([] : List Z2) (shrO zd) zd .nl .nl rfl rfl)
theorem Zlo x0 {r} (h : b14 x0 = some r) : g14 x0 = some r :=
 Z13 (fun _ _ ha hb => ru_ Zin (ha .ex) (hb .ex)) (fun zd => Zjw x0 zd r h)
def Z8r (x16 : List Z2) (x17 x18 zV zZ z1c z15 : Int) (z17 : List Z2) : Option Zk :=
 (lget x16 x18).bind fun a1 =>
 (lapp z17 ([a1] : List Z2)).bind fun a2 =>
 Z6H x16 x17 (IntKind.i64.wrap (x18 + 1)) zV zZ z1c z15 a2
theorem ZeB (x16 : List Z2) x17 x18 b0 b1 zV zZ z1c z15 z17 ox16 z1 z1p zb (z29 : Z1d z1p = true) (zE : Z1d zb = true) : Sim Q14 (Z8r x16 x17 x18 zV zZ z1c z15 z17) (Zbo 0 (.ptr 1 0) (.ptr 2 0) (pL_ ox16 (x16.map Z4)) (iv x17) (iv x18) [(Z3 b0 z1), (ZD b1 z1p), (Z3I zV zZ z1c z15 z17 zb)]) := by
 unfold Z8r
 refine zf (ZfU ..)<|ze<|zi fun a1 ha1 => zp (.cptr (ZQ a1)) (et_ (Z1T (o := ox16) (k := .i64) (n := 5) (e := Z4) (cs := Z1q) (fun _ => rfl) (fun _ => rfl) (by decide) ha1))<|zq<|zz (.ptr 3 0) [(Z3 b0 z1), (ZD b1 z1p), (Z3I zV zZ z1c z15 z17 zb), (Zcb 0 0 0 0 (ByteArray.mk #[]))]<|zt [(Z3 b0 z1), (ZD b1 z1p), (Z3I zV zZ z1c z15 z17 zb), (ZN a1)]<|ze<|zq<|zw (pL_ zb (z17.map Z4)) [(Z3 b0 z1), (ZD b1 z1p), (Z3I zV zZ z1c z15 z17 (shrO zb)), (ZN a1)]<|zq<|zq<|zi fun a2 ha2 => zp (pL_ .un (a2.map Z4)) (Eq.trans (by kernel_rfl) <| Zag (n := 5) (o := zb) (o' := .ex) (e := Z4) (ys := ([a1] : List Z2)) (fun _ => rfl) (by decide) zE ha2)<|zq<|zt [(Z3 b0 z1), (ZD b1 z1p), (Z3I zV zZ z1c z15 a2 .un), (ZN a1)]<|ze<|zq ?_
 exact zk (Zaw x16 x17 (IntKind.i64.wrap (x18 + 1)) b0 b1 zV zZ z1c z15 a2 ox16 z1 z1p .un z29 rfl)
def Z8s (zV zZ z1c z15 : Int) (z17 : List Z2) : Option Zk :=
 some (Zk.mk zV zZ z1c z15 z17)
theorem ZeC b0 b1 zV zZ z1c z15 z17 z1 z1p zb (z29 : Z1d z1p = true) (zE : Z1d zb = true) : Sim Q14 (Z8s zV zZ z1c z15 z17) (Zbp 0 (.ptr 1 0) (.ptr 2 0) [(Z3 b0 z1), (ZD b1 z1p), (Z3I zV zZ z1c z15 z17 zb)]) := by
 unfold Z8s
 refine zf (ZfV ..)<|ze<|zq<|zt [(Z3 b0 z1), (Z3I zV zZ z1c z15 z17 (shrO zb)), (Z3I zV zZ z1c z15 z17 zb)] ?_
 exact zr ((pA_ (ZS (Zk.mk zV zZ z1c z15 z17) .sh)), [(Z3 b0 z1), (Z3I zV zZ z1c z15 z17 (shrO zb)), (Z3I zV zZ z1c z15 z17 zb)]) ⟨_, rfl⟩
def Z6j (x16 : List Z2) (x17 x18 zV zZ z1c z15 : Int) (z17 : List Z2) : Option Zk :=
 if (decide (x18 < x17)) = true then
 (Z8r x16 x17 x18 zV zZ z1c z15 z17)
 else
 (Z8s zV zZ z1c z15 z17)
theorem ZeA (x16 : List Z2) x17 x18 b0 b1 zV zZ z1c z15 z17 ox16 z1 z1p zb (z29 : Z1d z1p = true) (zE : Z1d zb = true) : Sim Q14 (Z6j x16 x17 x18 zV zZ z1c z15 z17) (Z6y 0 (.ptr 1 0) (.ptr 2 0) (pL_ ox16 (x16.map Z4)) (iv x17) (iv x18) [(Z3 b0 z1), (ZD b1 z1p), (Z3I zV zZ z1c z15 z17 zb)]) := by
 unfold Z6j
 refine zf (ZfT ..)<|ze<|zq ?_
 refine za (decide (x18 < x17)) ?_ ?_
 ·exact zk (ZeB x16 x17 x18 b0 b1 zV zZ z1c z15 z17 ox16 z1 z1p zb z29 zE)
 ·exact zk (ZeC b0 b1 zV zZ z1c z15 z17 z1 z1p zb z29 zE)
theorem Zav x16 x17 x18 zV zZ z1c z15 z17 {r} (h : Z6j x16 x17 x18 zV zZ z1c z15 z17 = some r) : Z6H x16 x17 x18 zV zZ z1c z15 z17 = some r :=
 Z13 (fun _ _ ha hb => ru_ Zin (ha default default .ex .ex .ex .ex rfl rfl) (hb default default .ex .ex .ex .ex rfl rfl)) (fun b0 b1 ox16 z1 z1p zb z29 zE => ZeA x16 x17 x18 b0 b1 zV zZ z1c z15 z17 ox16 z1 z1p zb z29 zE r h)
end Go.Proofs.Ytbmmhbpalkepeaa.N2
end
