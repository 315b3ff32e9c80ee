/- The functions' typed texts. No condition. -/
import Derived.Test.YteoeggbihfnbfaaGreatDoorTypA

noncomputable section
set_option linter.unusedSimpArgs false
set_option linter.unusedVariables false
namespace Go.Proofs.YteoeggbihfnbfaaGreatDoor.N2
open Go Go.Abs
set_option linter.unusedVariables false
set_option maxRecDepth 100000
def Z45  : Option (Bool) :=
 some (true)
theorem Z8B  : Sim (Z1C) (Z45) (Zux 0  []) := by
 unfold Z45
 refine zf (ZD0 ..)<|ze ?_
 exact zr ((bv true), []) ⟨_, rfl⟩
def Z53 (b0 : ZC) : Option (Bool) :=
 Z48 0 (IntKind.i64.wrap ((b0.Rules.length : Int) + 1)) 0 b0
theorem Zda b0 zB : Sim (Z1C) (Z53 b0) (ZzT 0 (.ptr 0 0) [(Zx b0 zB)]) := by
 unfold Z53
 refine zf (ZD1 ..)<|ze<|ze<|zq<|zq ?_
 refine zo (iv (b0.Rules.length : Int)) ?_ (Eq.trans (by kernel_rfl) (Z38 (P := PP) (t := 22) (d := 43) (by kernel_rfl) ZD (shrO zB) b0.Rules))
 refine zq ?_
 exact zk (Z8U 0 (IntKind.i64.wrap ((b0.Rules.length : Int) + 1)) 0 b0 zB)
def Z52 (b0 : ZC) : Option (Bool) :=
 (Z8C b0 (ZU.mk 0 0 0 0 ([] : List Zw) ([] : List Int))).bind fun r1 =>
 if (!r1) = true then
 (Z45)
 else
 ((Z81 b0).bind fun r2 =>
 if (!r2) = true then
 (Z45)
 else
 (Z53 b0))
theorem Zd9 b0 zB : Sim (Z1C) (Z52 b0) (ZzS 0 (.ptr 0 0) [(Zx b0 zB)]) := by
 unfold Z52
 refine zf (ZCZ ..)<|ze<|zq<|zq<|zi fun r1 hr1 => ?_
 obtain ⟨qr1, er1, exr1, rfl⟩ := Zji b0 (ZU.mk 0 0 0 0 ([] : List Zw) ([] : List Int)) .sh .sh .sh r1 hr1
 refine zc [] (bv r1) [(Zx b0 zB)] er1<|zq ?_
 refine za (!r1) ?_ ?_
 ·exact zk (Z8B )
 ·refine zq<|zi fun r2 hr2 => ?_
  obtain ⟨qr2, er2, exr2, rfl⟩ := Zc3 b0 .sh r2 hr2
  refine zc [] (bv r2) [(Zx b0 zB)] er2<|zq ?_
  refine za (!r2) ?_ ?_
  ·exact zk (Z8B )
  ·exact zk (Zda b0 zB)
def Z60 (x0 : ZC) : Option (Bool) :=
 (Z8c).bind fun r1 =>
 if (!r1) = true then
 (some (false))
 else
 (Z52 x0)
theorem ZeK x0 z12 : Sim (Z1C) (Z60 x0) (EE 4 [(.p (.agg (Z1w x0 z12)))] []) := by
 unfold Z60
 refine zf (ZHo ..)<|ze<|zx (.ptr 0 0) [(Zx x0 z12)]<|ze<|zi fun r1 hr1 => ?_
 obtain ⟨qr1, er1, exr1, rfl⟩ := Zil  r1 hr1
 refine zc [] (bv r1) [(Zx x0 z12)] er1<|zq ?_
 refine za (!r1) ?_ ?_
 ·refine ze ?_
  exact zr ((bv false), [(Zx x0 z12)]) ⟨_, rfl⟩
 ·exact zk (Zd9 x0 z12)
theorem Zfh (x0 : ZC) {r} (h : Z60 x0 = some r) : Z7W x0 = some r :=
 Z1a (fun _ _ ha hb => RRun.uniq Za4 (ha .ex) (hb .ex)) (fun z12 => ZeK x0 z12 r h)
def Z4T (x3 x21 x22 : Int) (b0 : ZC) : Option (Bool) :=
 Z48 x3 x21 (IntKind.i64.wrap (x22 + 1)) b0
theorem Zcp x3 x21 x22 b0 zB : Sim (Z1C) (Z4T x3 x21 x22 b0) (Zvr 0 (.ptr 0 0) (iv x3) (iv x21) (iv x22) [(Zx b0 zB)]) := by
 unfold Z4T
 refine zf (ZBi ..)<|ze<|zq ?_
 exact zk (Z8U x3 x21 (IntKind.i64.wrap (x22 + 1)) b0 zB)
def Z4S (x3 x21 x22 : Int) (b2 : ZC) : Option (Bool) :=
 Z4T x3 x21 x22 b2
theorem Zco x3 x21 x22 b0 b1 b2 zB zM : Sim (Z1C) (Z4S x3 x21 x22 b2) (Zvq 0 (.ptr 0 0) (iv x3) (.ptr 2 0) (iv x21) (iv x22) [(Zx b0 zB), (ZY b1), (Zx b2 zM)]) := by
 unfold Z4S
 refine zf (ZBh ..)<|ze<|zq<|zt [(Zx b2 (shrO zM)), (ZY b1), (Zx b2 zM)] ?_
 exact zk (Zcp x3 x21 x22 b2 (shrO zM))
def Z4R (x21 x22 : Int) (b0 : ZC) (b1 : ZO) : Option (Bool) :=
 (ZcA b0 (ZU.mk (-1) (-1) (-1) (-1) ([] : List Zw) ([b1.Rule] : List Int))).bind fun r1 =>
 if (r1.2 != 0) = true then
 (some (false))
 else
 (Z4S b1.Rule x21 x22 r1.1)
theorem Zcn x21 x22 b0 b1 zB : Sim (Z1C) (Z4R x21 x22 b0 b1) (Zvp 0 (.ptr 0 0) (.ptr 1 0) (iv x21) (iv x22) [(Zx b0 zB), (ZY b1)]) := by
 unfold Z4R
 refine zf (ZBg ..)<|ze<|zq<|zq<|ze<|zq<|zq<|zq<|zq<|zq<|zi fun r1 hr1 => ?_
 obtain ⟨qr1, er1, exr1, rfl⟩ := Zrz b0 (ZU.mk (-1) (-1) (-1) (-1) ([] : List Zw) ([b1.Rule] : List Int)) .sh .sh .sh r1 hr1
 refine zc [] (.p (.tup [(.agg (Z1w r1.1 .sh)), (.v (.int .i64 r1.2))])) [(Zx b0 zB), (ZY b1)] er1<|zq<|zq<|zz (.ptr 2 0) [(Zx b0 zB), (ZY b1), (Zx (ZC.mk 0 0 0 0 ([] : List Zw)) .nl)]<|zt [(Zx b0 zB), (ZY b1), (Zx r1.1 .sh)]<|ze<|zq ?_
 refine za (r1.2 != 0) ?_ ?_
 ·refine ze ?_
  exact zr ((bv false), [(Zx b0 zB), (ZY b1), (Zx r1.1 .sh)]) ⟨_, rfl⟩
 ·exact zk (Zco b1.Rule x21 x22 b0 b1 r1.1 zB .sh)
def Z4Q (x3 x21 x22 : Int) (b0 : ZC) (b1 : ZO) : Option (Bool) :=
 if (decide (b1.Rule ≤ x3)) = true then
 (some (false))
 else
 (Z4R x21 x22 b0 b1)
theorem Zcm x3 x21 x22 b0 b1 zB : Sim (Z1C) (Z4Q x3 x21 x22 b0 b1) (Zvo 0 (.ptr 0 0) (iv x3) (.ptr 1 0) (iv x21) (iv x22) [(Zx b0 zB), (ZY b1)]) := by
 unfold Z4Q
 refine zf (ZBf ..)<|ze<|zq<|zq<|zq ?_
 refine za (decide (b1.Rule ≤ x3)) ?_ ?_
 ·refine ze ?_
  exact zr ((bv false), [(Zx b0 zB), (ZY b1)]) ⟨_, rfl⟩
 ·exact zk (Zcn x21 x22 b0 b1 zB)
def Z54 (x3 x21 x22 : Int) (b0 : ZC) : Option (Bool) :=
 (Z8F b0).bind fun r1 =>
 if (r1.Code == 0) = true then
 (some ((r1.Code == 0) && ((r1.Rule == 0) && ((r1.At == 0) && true))))
 else
 (Z4Q x3 x21 x22 b0 r1)
theorem Zdb x3 x21 x22 b0 zB : Sim (Z1C) (Z54 x3 x21 x22 b0) (ZzU 0 (.ptr 0 0) (iv x3) (iv x21) (iv x22) [(Zx b0 zB)]) := by
 unfold Z54
 refine zf (ZD2 ..)<|ze<|zq<|zi fun r1 hr1 => ?_
 obtain ⟨qr1, er1, exr1, rfl⟩ := ZcI b0 .sh r1 hr1
 refine zc [] (.p (.agg (Z1u r1))) [(Zx b0 zB)] er1<|zz (.ptr 1 0) [(Zx b0 zB), (ZY (ZO.mk 0 0 0))]<|zt [(Zx b0 zB), (ZY r1)]<|ze<|zq<|zq<|zq ?_
 refine za (r1.Code == 0) ?_ ?_
 ·refine ze<|zq<|zq ?_
  refine zo (bv ((r1.Code == 0) && ((r1.Rule == 0) && ((r1.At == 0) && true)))) ?_ (Eq.trans (b := xbin PP .eql 32 (.p (.agg (Z1u r1))) (.p (.agg (Z1u (ZO.mk 0 0 0))))) (by kernel_rfl) (Zpn (by kernel_rfl) (by kernel_rfl) (by kernel_rfl) (by kernel_rfl) (by kernel_rfl)))
  exact zr ((bv ((r1.Code == 0) && ((r1.Rule == 0) && ((r1.At == 0) && true)))), [(Zx b0 zB), (ZY r1)]) ⟨_, rfl⟩
 ·exact zk (Zcm x3 x21 x22 b0 r1 zB)
def Z6H  : Option (Bool) :=
 some (false)
theorem Zcq  : Sim (Z1C) (Z6H) (Zvs 0  []) := by
 unfold Z6H
 refine zf (ZBj ..)<|ze ?_
 exact zr ((bv false), []) ⟨_, rfl⟩
def Z51 (x3 x21 x22 : Int) (b0 : ZC) : Option (Bool) :=
 if (decide (x22 < x21)) = true then
 (Z54 x3 x21 x22 b0)
 else
 (Z6H)
theorem Zd8 x3 x21 x22 b0 zB : Sim (Z1C) (Z51 x3 x21 x22 b0) (Zpb 0 (.ptr 0 0) (iv x3) (iv x21) (iv x22) [(Zx b0 zB)]) := by
 unfold Z51
 refine zf (ZCY ..)<|ze<|zq ?_
 refine za (decide (x22 < x21)) ?_ ?_
 ·exact zk (Zdb x3 x21 x22 b0 zB)
 ·exact zk (Zcq )
theorem ZdA (x3 x21 x22 : Int) (b0 : ZC) {r} (h : Z51 x3 x21 x22 b0 = some r) : Z48 x3 x21 x22 b0 = some r :=
 Z1a (fun _ _ ha hb => RRun.uniq Za4 (ha .ex) (hb .ex)) (fun zB => Zd8 x3 x21 x22 b0 zB r h)
def Z87  : Option (Bool) :=
 (ZcB).bind fun r1 =>
 (Z5g (ByteArray.mk #[97, 42, 42])).bind fun r2 =>
 if ((r2.Code == 23) && ((r2.Rule == 0) && ((r2.At == 2) && true))) = true then
 ((Z8F (ZC.mk r1.Default r1.Closed r1.Fuel r1.Stack ([(Zw.mk 3 0 0 1 (ByteArray.mk #[40])), (Zw.mk 7 0 0 1 (ByteArray.mk #[41]))] : List Zw))).bind fun r3 =>
 if ((r3.Code == 20) && ((r3.Rule == 3) && ((r3.At == 0) && true))) = true then
 ((ZcB).bind fun r4 =>
 (Z8F r4).bind fun r5 =>
 some ((r5.Code == 0) && ((r5.Rule == 0) && ((r5.At == 0) && true))))
 else
 (some (false)))
 else
 (some (false))
theorem ZhW  : Sim (Z6u) (Z87) (EE 14 [] []) := by
 unfold Z87
 refine zf (ZG9 ..)<|ze<|ze<|zi fun r1 hr1 => ?_
 obtain ⟨qr1, er1, exr1, rfl⟩ := Zkd  r1 hr1
 refine zc [] (.p (.agg (Z1w r1 .sh))) [] er1<|zz (.ptr 0 0) [(Zx (ZC.mk 0 0 0 0 ([] : List Zw)) .nl)]<|zt [(Zx r1 .sh)]<|ze<|zq<|zq<|zq<|zq<|zt [(Zx (ZC.mk r1.Default r1.Closed r1.Fuel r1.Stack ([(Zw.mk 3 0 0 1 (ByteArray.mk #[40])), (Zw.mk 7 0 0 1 (ByteArray.mk #[41]))] : List Zw)) .ex)]<|ze<|zi fun r2 hr2 => ?_
 obtain ⟨qr2, er2, exr2, rfl⟩ := ZfQ (ByteArray.mk #[97, 42, 42]) r2 hr2
 refine zc [] (.p (.agg (Z1u r2))) [(Zx (ZC.mk r1.Default r1.Closed r1.Fuel r1.Stack ([(Zw.mk 3 0 0 1 (ByteArray.mk #[40])), (Zw.mk 7 0 0 1 (ByteArray.mk #[41]))] : List Zw)) .ex)] er2<|zq ?_
 refine zo (bv ((r2.Code == 23) && ((r2.Rule == 0) && ((r2.At == 2) && true)))) ?_ (Eq.trans (b := xbin PP .eql 32 (.p (.agg (Z1u r2))) (.p (.agg (Z1u (ZO.mk 23 0 2))))) (by kernel_rfl) (Zpn (by kernel_rfl) (by kernel_rfl) (by kernel_rfl) (by kernel_rfl) (by kernel_rfl)))
 refine za ((r2.Code == 23) && ((r2.Rule == 0) && ((r2.At == 2) && true))) ?_ ?_
 ·refine zq<|zi fun r3 hr3 => ?_
  obtain ⟨qr3, er3, exr3, rfl⟩ := ZcI (ZC.mk r1.Default r1.Closed r1.Fuel r1.Stack ([(Zw.mk 3 0 0 1 (ByteArray.mk #[40])), (Zw.mk 7 0 0 1 (ByteArray.mk #[41]))] : List Zw)) .sh r3 hr3
  refine zc [] (.p (.agg (Z1u r3))) [(Zx (ZC.mk r1.Default r1.Closed r1.Fuel r1.Stack ([(Zw.mk 3 0 0 1 (ByteArray.mk #[40])), (Zw.mk 7 0 0 1 (ByteArray.mk #[41]))] : List Zw)) .ex)] er3<|zq ?_
  refine zo (bv ((r3.Code == 20) && ((r3.Rule == 3) && ((r3.At == 0) && true)))) ?_ (Eq.trans (b := xbin PP .eql 32 (.p (.agg (Z1u r3))) (.p (.agg (Z1u (ZO.mk 20 3 0))))) (by kernel_rfl) (Zpn (by kernel_rfl) (by kernel_rfl) (by kernel_rfl) (by kernel_rfl) (by kernel_rfl)))
  refine za ((r3.Code == 20) && ((r3.Rule == 3) && ((r3.At == 0) && true))) ?_ ?_
  ·refine zi fun r4 hr4 => ?_
   obtain ⟨qr4, er4, exr4, rfl⟩ := Zkd  r4 hr4
   refine zc [] (.p (.agg (Z1w r4 .sh))) [(Zx (ZC.mk r1.Default r1.Closed r1.Fuel r1.Stack ([(Zw.mk 3 0 0 1 (ByteArray.mk #[40])), (Zw.mk 7 0 0 1 (ByteArray.mk #[41]))] : List Zw)) .ex)] er4<|zi fun r5 hr5 => ?_
   obtain ⟨qr5, er5, exr5, rfl⟩ := ZcI r4 .sh r5 hr5
   refine zc [] (.p (.agg (Z1u r5))) [(Zx (ZC.mk r1.Default r1.Closed r1.Fuel r1.Stack ([(Zw.mk 3 0 0 1 (ByteArray.mk #[40])), (Zw.mk 7 0 0 1 (ByteArray.mk #[41]))] : List Zw)) .ex)] er5<|zq ?_
   refine zo (bv ((r5.Code == 0) && ((r5.Rule == 0) && ((r5.At == 0) && true)))) ?_ (Eq.trans (b := xbin PP .eql 32 (.p (.agg (Z1u r5))) (.p (.agg (Z1u (ZO.mk 0 0 0))))) (by kernel_rfl) (Zpn (by kernel_rfl) (by kernel_rfl) (by kernel_rfl) (by kernel_rfl) (by kernel_rfl)))
   exact zr ((bv ((r5.Code == 0) && ((r5.Rule == 0) && ((r5.At == 0) && true)))), [(Zx (ZC.mk r1.Default r1.Closed r1.Fuel r1.Stack ([(Zw.mk 3 0 0 1 (ByteArray.mk #[40])), (Zw.mk 7 0 0 1 (ByteArray.mk #[41]))] : List Zw)) .ex)]) ⟨_, rfl⟩
  ·exact zr ((bv false), [(Zx (ZC.mk r1.Default r1.Closed r1.Fuel r1.Stack ([(Zw.mk 3 0 0 1 (ByteArray.mk #[40])), (Zw.mk 7 0 0 1 (ByteArray.mk #[41]))] : List Zw)) .ex)]) ⟨_, rfl⟩
 ·exact zr ((bv false), [(Zx (ZC.mk r1.Default r1.Closed r1.Fuel r1.Stack ([(Zw.mk 3 0 0 1 (ByteArray.mk #[40])), (Zw.mk 7 0 0 1 (ByteArray.mk #[41]))] : List Zw)) .ex)]) ⟨_, rfl⟩
theorem Zik  {r} (h : Z87 = some r) : Z8c = some r :=
 Z1a (fun _ _ ha hb => RRun.uniq Zj6 (ha ) (hb )) (ZhW  r h)
def Zj8  : Option (ZC) :=
 some (ZC.mk 0 255 10000 500 ([] : List Zw))
theorem Zqu  : Sim (Zch) (Zj8) (EE 43 [] []) := by
 unfold Zj8
 refine zf (ZGu ..)<|ze<|zz (.ptr 0 0) [(Zx (ZC.mk 0 0 0 0 ([] : List Zw)) .nl)]<|ze<|zq<|zt [(Zx (ZC.mk 0 255 10000 500 ([] : List Zw)) .nl)] ?_
 exact zr ((.p (.agg (Z1w (ZC.mk 0 255 10000 500 ([] : List Zw)) .sh))), [(Zx (ZC.mk 0 255 10000 500 ([] : List Zw)) .nl)]) ⟨_, rfl⟩
theorem ZrA  {r} (h : Zj8 = some r) : ZcB = some r :=
 Z1a (fun _ _ ha hb => RRun.uniq Zs7 (ha ) (hb )) (Zqu  r h)
def Z93 (b1 : ZS) : Option (ZO) :=
 (Zez b1).bind fun r1 =>
 some (ZO.mk r1 0 0)
theorem Zjx b0 b1 zcN zbT : Sim (Z7z) (Z93 b1) (Zvg 0 (.ptr 0 0) (.ptr 1 0) [(ZY b0), (ZT b1 zcN zbT)]) := by
 unfold Z93
 refine zf (ZB6 ..)<|ze<|zq<|zi fun r1 hr1 => ?_
 obtain ⟨qr1, er1, exr1, rfl⟩ := Zqy b1 .sh .sh r1 hr1
 refine zc [] (iv r1) [(ZY b0), (ZT b1 zcN zbT)] er1<|zq<|zt [(ZY (ZO.mk r1 0 0)), (ZT b1 zcN zbT)] ?_
 exact zr ((.p (.agg (Z1u (ZO.mk r1 0 0)))), [(ZY (ZO.mk r1 0 0)), (ZT b1 zcN zbT)]) ⟨_, rfl⟩
def Z7B (x0 : ByteArray) : Option (ZO) :=
 (Zew x0).bind fun r1 =>
 if (r1.2.Code != 0) = true then
 (some (ZO.mk r1.2.Code 0 r1.2.At))
 else
 (Z93 r1.1)
theorem ZlU x0 : Sim (Z7z) (Z7B x0) (EE 21 [(.p (.v (.string x0)))] []) := by
 unfold Z7B
 refine zf (ZGk ..)<|ze<|zz (.ptr 0 0) [(ZY (ZO.mk 0 0 0))]<|ze<|zi fun r1 hr1 => ?_
 obtain ⟨qr1, er1, exr1, rfl⟩ := Zqq x0 r1 hr1
 refine zc [] (.p (.tup [(.agg (Z2Z r1.1 .sh .sh)), (.agg (Z5e r1.2))])) [(ZY (ZO.mk 0 0 0))] er1<|zq<|zq<|zz (.ptr 1 0) [(ZY (ZO.mk 0 0 0)), (ZT (ZS.mk (Z7.mk 0 0 0 0 0 ([] : List Zc) ([] : List Z7)) 0 false) .nl .nl)]<|zz (.ptr 2 0) [(ZY (ZO.mk 0 0 0)), (ZT (ZS.mk (Z7.mk 0 0 0 0 0 ([] : List Zc) ([] : List Z7)) 0 false) .nl .nl), (Z1A (Zl.mk 0 0))]<|zt [(ZY (ZO.mk 0 0 0)), (ZT r1.1 .sh .sh), (Z1A (Zl.mk 0 0))]<|zt [(ZY (ZO.mk 0 0 0)), (ZT r1.1 .sh .sh), (Z1A r1.2)]<|ze<|zq<|zq<|zq ?_
 refine za (r1.2.Code != 0) ?_ ?_
 ·refine ze<|zq<|zq<|zq<|zq<|zq<|zt [(ZY (ZO.mk r1.2.Code 0 r1.2.At)), (ZT r1.1 .sh .sh), (Z1A r1.2)] ?_
  exact zr ((.p (.agg (Z1u (ZO.mk r1.2.Code 0 r1.2.At)))), [(ZY (ZO.mk r1.2.Code 0 r1.2.At)), (ZT r1.1 .sh .sh), (Z1A r1.2)]) ⟨_, rfl⟩
 ·exact zk (Zjx (ZO.mk 0 0 0) r1.1 .sh .sh)
theorem ZbG (x0 : ByteArray) {r} (h : Z7B x0 = some r) : Z5g x0 = some r :=
 Z1a (fun _ _ ha hb => RRun.uniq ZnO (ha ) (hb )) (ZlU x0 r h)
def Z4U (z2U : List Int) (z1c : Int) (z1Y : List Zv) (zZ z1f z14 z1i z1h z15 z16 : Int) (z17 : List Zc) (z13 : List Z7) (z1D : Bool) : Option (ZS × Zl) :=
 Z7X z1Y (z1Y.length : Int) 0 z2U z1c zZ z1f z14 z1i z1h z15 z16 z17 z13 z1D
theorem ZbD b0 b1 z2U z2N z1c z2v z1Y zZ z1f z14 z1i z1h z15 z16 z17 z13 z2j z1D z1l z1e z3u z1I z1x z1s (z2r : ZL z1l = true) (z2d : ZL z1e = true) (z3M : ZL z1I = true) : Sim (Z3v) (Z4U z2U z1c z1Y zZ z1f z14 z1i z1h z15 z16 z17 z13 z1D) (Zo7 0 (.ptr 0 0) (.ptr 1 0) (.ptr 2 0) (.ptr 3 0) [(ZT b0 z1l z1e), (Z1A b1), (Zk (Zm.mk z2U z2N z1c z2v z1Y (Zl.mk zZ z1f)) z3u z1I), (ZT (ZS.mk (Z7.mk z14 z1i z1h z15 z16 z17 z13) z2j z1D) z1x z1s)]) := by
 unfold Z4U
 refine zf (ZBd ..)<|ze<|zq<|zq<|zq ?_
 refine zo (iv (z1Y.length : Int)) ?_ (Eq.trans (by kernel_rfl) (Z38 (P := PP) (t := 142) (d := 149) (by kernel_rfl) Z2H (shrO z1I) z1Y))
 exact zk (Zg9 z1Y (z1Y.length : Int) 0 b0 b1 z2U z2N z1c z2v z1Y zZ z1f z14 z1i z1h z15 z16 z17 z13 z2j z1D (shrO z1I) z1l z1e z3u z1I z1x z1s z2r z2d z3M)
def Z9g (z2U : List Int) (z2N z1c : Int) (z1Y : List Zv) (zZ z1f z14 z1i z1h z15 z16 : Int) (z17 : List Zc) (z13 : List Z7) (z1D : Bool) : Option (ZS × Zl) :=
 (Z1g 20 z2N z2U zZ z1f).bind fun r1 =>
 Z4U z2U z1c z1Y r1.2.1 r1.2.2 z14 z1i z1h z15 z16 z17 z13 z1D
theorem ZmD b0 b1 z2U z2N z1c z2v z1Y zZ z1f z14 z1i z1h z15 z16 z17 z13 z2j z1D z1l z1e z3u z1I z1x z1s (z2r : ZL z1l = true) (z2d : ZL z1e = true) (z3M : ZL z1I = true) : Sim (Z3v) (Z9g z2U z2N z1c z1Y zZ z1f z14 z1i z1h z15 z16 z17 z13 z1D) (Zvm 0 (.ptr 0 0) (.ptr 1 0) (.ptr 2 0) (.ptr 3 0) [(ZT b0 z1l z1e), (Z1A b1), (Zk (Zm.mk z2U z2N z1c z2v z1Y (Zl.mk zZ z1f)) z3u z1I), (ZT (ZS.mk (Z7.mk z14 z1i z1h z15 z16 z17 z13) z2j z1D) z1x z1s)]) := by
 unfold Z9g
 refine zf (ZBc ..)<|ze<|zq<|zq<|zq<|zi fun r1 hr1 => ?_
 obtain ⟨qr1, er1, exr1, rfl⟩ := Z1j 20 z2N z2U z2N z1c z2v z1Y zZ z1f z3u z1I z3M r1 hr1
 refine zc [2] (.p (.tup [])) [(ZT b0 z1l z1e), (Z1A b1), (Zk (Zm.mk z2U r1.1 z1c z2v z1Y (Zl.mk r1.2.1 r1.2.2)) z3u z1I), (ZT (ZS.mk (Z7.mk z14 z1i z1h z15 z16 z17 z13) z2j z1D) z1x z1s)] er1 ?_
 exact zk (ZbD b0 b1 z2U r1.1 z1c z2v z1Y r1.2.1 r1.2.2 z14 z1i z1h z15 z16 z17 z13 z2j z1D z1l z1e z3u z1I z1x z1s z2r z2d z3M)
def Zbk (x0 : ByteArray) : Option (ZS × Zl) :=
 (Z1G (ByteArray.mk #[40, 63, 105, 41]) (Z4k x0) 0).bind fun r1 =>
 (Z4l (Z4k x0) r1.2 0 0 ([] : List Zv) 0 0).bind fun r2 =>
 if (r2.2.2.2.2.2.1 == 0) = true then
 (if (decide (r2.2.1 < ((Z4k x0).length : Int))) = true then
 (Z9g (Z4k x0) r2.2.1 r2.2.2.1 r2.2.2.2.2.1 r2.2.2.2.2.2.1 r2.2.2.2.2.2.2 r2.1.Kind r2.1.Lo r2.1.Hi r2.1.Mode r2.1.Ref r2.1.Set r2.1.Kids r1.1)
 else
 (Z4U (Z4k x0) r2.2.2.1 r2.2.2.2.2.1 r2.2.2.2.2.2.1 r2.2.2.2.2.2.2 r2.1.Kind r2.1.Lo r2.1.Hi r2.1.Mode r2.1.Ref r2.1.Set r2.1.Kids r1.1))
 else
 (Z4U (Z4k x0) r2.2.2.1 r2.2.2.2.2.1 r2.2.2.2.2.2.1 r2.2.2.2.2.2.2 r2.1.Kind r2.1.Lo r2.1.Hi r2.1.Mode r2.1.Ref r2.1.Set r2.1.Kids r1.1)
theorem ZmC x0 b0 b1 z1l z1e (z2r : ZL z1l = true) (z2d : ZL z1e = true) : Sim (Z3v) (Zbk x0) (Zvl 0 (.p (.v (.string x0))) (.ptr 0 0) (.ptr 1 0) [(ZT b0 z1l z1e), (Z1A b1)]) := by
 unfold Zbk
 refine zf (ZBb ..)<|ze ?_
 refine zo (.p (.lst .sh ((Z4k x0).map (eI .u8)))) ?_ (Eq.trans (by kernel_rfl) (ZDI (P := PP) (s := 9) (d := 141) (by kernel_rfl) (by kernel_rfl) x0))
 refine zq<|zx (.ptr 2 0) [(ZT b0 z1l z1e), (Z1A b1), (Zk (Zm.mk (Z4k x0) 0 0 0 ([] : List Zv) (Zl.mk 0 0)) .sh .nl)]<|ze<|zi fun r1 hr1 => ?_
 obtain ⟨qr1, er1, exr1, rfl⟩ := Z1P (ByteArray.mk #[40, 63, 105, 41]) (Z4k x0) 0 0 0 ([] : List Zv) 0 0 .sh .nl rfl r1 hr1
 refine zc [2] (bv r1.1) [(ZT b0 z1l z1e), (Z1A b1), (Zk (Zm.mk (Z4k x0) r1.2 0 0 ([] : List Zv) (Zl.mk 0 0)) .sh .nl)] er1<|zq<|zz (.ptr 3 0) [(ZT b0 z1l z1e), (Z1A b1), (Zk (Zm.mk (Z4k x0) r1.2 0 0 ([] : List Zv) (Zl.mk 0 0)) .sh .nl), (ZT (ZS.mk (Z7.mk 0 0 0 0 0 ([] : List Zc) ([] : List Z7)) 0 false) .nl .nl)]<|zt [(ZT b0 z1l z1e), (Z1A b1), (Zk (Zm.mk (Z4k x0) r1.2 0 0 ([] : List Zv) (Zl.mk 0 0)) .sh .nl), (ZT (ZS.mk (Z7.mk 0 0 0 0 0 ([] : List Zc) ([] : List Z7)) 0 r1.1) .nl .nl)]<|ze<|zi fun r2 hr2 => ?_
 obtain ⟨qr2, er2, or2_0_4, exr2, hor2_0_4, rfl⟩ := Zf7 (Z4k x0) r1.2 0 0 ([] : List Zv) 0 0 .sh .nl rfl r2 hr2
 refine zc [2] (.p (.agg (ZG r2.1 .sh .sh))) [(ZT b0 z1l z1e), (Z1A b1), (Zk (Zm.mk (Z4k x0) r2.2.1 r2.2.2.1 r2.2.2.2.1 r2.2.2.2.2.1 (Zl.mk r2.2.2.2.2.2.1 r2.2.2.2.2.2.2)) .sh or2_0_4), (ZT (ZS.mk (Z7.mk 0 0 0 0 0 ([] : List Zc) ([] : List Z7)) 0 r1.1) .nl .nl)] er2<|zq<|zt [(ZT b0 z1l z1e), (Z1A b1), (Zk (Zm.mk (Z4k x0) r2.2.1 r2.2.2.1 r2.2.2.2.1 r2.2.2.2.2.1 (Zl.mk r2.2.2.2.2.2.1 r2.2.2.2.2.2.2)) .sh or2_0_4), (ZT (ZS.mk (Z7.mk r2.1.Kind r2.1.Lo r2.1.Hi r2.1.Mode r2.1.Ref r2.1.Set r2.1.Kids) 0 r1.1) .sh .sh)]<|ze<|zq<|zq<|zq<|zq<|zq ?_
 refine za (r2.2.2.2.2.2.1 == 0) ?_ ?_
 ·refine zq<|zq<|zq<|zq<|zq<|zq ?_
  refine zo (iv ((Z4k x0).length : Int)) ?_ (Eq.trans (by kernel_rfl) (Z38 (P := PP) (t := 141) (d := 5) (by kernel_rfl) (eI .u8) .sh (Z4k x0)))
  refine zq ?_
  refine za (decide (r2.2.1 < ((Z4k x0).length : Int))) ?_ ?_
  ·exact zk (ZmD b0 b1 (Z4k x0) r2.2.1 r2.2.2.1 r2.2.2.2.1 r2.2.2.2.2.1 r2.2.2.2.2.2.1 r2.2.2.2.2.2.2 r2.1.Kind r2.1.Lo r2.1.Hi r2.1.Mode r2.1.Ref r2.1.Set r2.1.Kids 0 r1.1 z1l z1e .sh or2_0_4 .sh .sh z2r z2d hor2_0_4)
  ·exact zk (ZbD b0 b1 (Z4k x0) r2.2.1 r2.2.2.1 r2.2.2.2.1 r2.2.2.2.2.1 r2.2.2.2.2.2.1 r2.2.2.2.2.2.2 r2.1.Kind r2.1.Lo r2.1.Hi r2.1.Mode r2.1.Ref r2.1.Set r2.1.Kids 0 r1.1 z1l z1e .sh or2_0_4 .sh .sh z2r z2d hor2_0_4)
 ·exact zk (ZbD b0 b1 (Z4k x0) r2.2.1 r2.2.2.1 r2.2.2.2.1 r2.2.2.2.2.1 r2.2.2.2.2.2.1 r2.2.2.2.2.2.2 r2.1.Kind r2.1.Lo r2.1.Hi r2.1.Mode r2.1.Ref r2.1.Set r2.1.Kids 0 r1.1 z1l z1e .sh or2_0_4 .sh .sh z2r z2d hor2_0_4)
def Zer (x0 : ByteArray) : Option (ZS × Zl) :=
 if (decide (256 < (x0.size : Int))) = true then
 (some ((ZS.mk (Z7.mk 0 0 0 0 0 ([] : List Zc) ([] : List Z7)) 0 false), (Zl.mk 12 0)))
 else
 (Zbk x0)
theorem Zpv x0 : Sim (Z3v) (Zer x0) (EE 47 [(.p (.v (.string x0)))] []) := by
 unfold Zer
 refine zf (ZGw ..)<|ze<|zz (.ptr 0 0) [(ZT (ZS.mk (Z7.mk 0 0 0 0 0 ([] : List Zc) ([] : List Z7)) 0 false) .nl .nl)]<|zz (.ptr 1 0) [(ZT (ZS.mk (Z7.mk 0 0 0 0 0 ([] : List Zc) ([] : List Z7)) 0 false) .nl .nl), (Z1A (Zl.mk 0 0))]<|ze<|zq<|zq ?_
 refine za (decide (256 < (x0.size : Int))) ?_ ?_
 ·refine ze<|zq<|zq<|zt [(ZT (ZS.mk (Z7.mk 0 0 0 0 0 ([] : List Zc) ([] : List Z7)) 0 false) .nl .nl), (Z1A (Zl.mk 0 0))]<|zt [(ZT (ZS.mk (Z7.mk 0 0 0 0 0 ([] : List Zc) ([] : List Z7)) 0 false) .nl .nl), (Z1A (Zl.mk 12 0))] ?_
  exact zr ((.p (.tup [(.agg (Z2Z (ZS.mk (Z7.mk 0 0 0 0 0 ([] : List Zc) ([] : List Z7)) 0 false) .sh .sh)), (.agg (Z5e (Zl.mk 12 0)))])), [(ZT (ZS.mk (Z7.mk 0 0 0 0 0 ([] : List Zc) ([] : List Z7)) 0 false) .nl .nl), (Z1A (Zl.mk 12 0))]) ⟨_, rfl⟩
 ·exact zk (ZmC x0 (ZS.mk (Z7.mk 0 0 0 0 0 ([] : List Zc) ([] : List Z7)) 0 false) (Zl.mk 0 0) .nl .nl rfl rfl)
theorem Zqp (x0 : ByteArray) {r} (h : Zer x0 = some r) : Zew x0 = some r :=
 Z1a (fun _ _ ha hb => RRun.uniq Zk7 (ha ) (hb )) (Zpv x0 r h)
def Z5f (x50 : List Zv) (x51 x52 : Int) (z2U : List Int) (z1c zZ z1f z14 z1i z1h z15 z16 : Int) (z17 : List Zc) (z13 : List Z7) (z1D : Bool) : Option (ZS × Zl) :=
 Z7X x50 x51 (IntKind.i64.wrap (x52 + 1)) z2U z1c zZ z1f z14 z1i z1h z15 z16 z17 z13 z1D
theorem Zf5 (x50 : List Zv) x51 x52 b0 b1 z2U z2N z1c z2v z1Y zZ z1f z14 z1i z1h z15 z16 z17 z13 z2j z1D ox50 z1l z1e z3u z1I z1x z1s (z2r : ZL z1l = true) (z2d : ZL z1e = true) (z3M : ZL z1I = true) : Sim (Z3v) (Z5f x50 x51 x52 z2U z1c zZ z1f z14 z1i z1h z15 z16 z17 z13 z1D) (Zpa 0 (.ptr 0 0) (.ptr 1 0) (.ptr 2 0) (.ptr 3 0) (.p (.lst ox50 (x50.map Z2H))) (iv x51) (iv x52) [(ZT b0 z1l z1e), (Z1A b1), (Zk (Zm.mk z2U z2N z1c z2v z1Y (Zl.mk zZ z1f)) z3u z1I), (ZT (ZS.mk (Z7.mk z14 z1i z1h z15 z16 z17 z13) z2j z1D) z1x z1s)]) := by
 unfold Z5f
 refine zf (ZzN ..)<|ze<|zq ?_
 exact zk (Zg9 x50 x51 (IntKind.i64.wrap (x52 + 1)) b0 b1 z2U z2N z1c z2v z1Y zZ z1f z14 z1i z1h z15 z16 z17 z13 z2j z1D ox50 z1l z1e z3u z1I z1x z1s z2r z2d z3M)
def Z8O (x50 : List Zv) (x51 x52 : Int) (z2U : List Int) (z1c zZ z1f z14 z1i z1h z15 z16 : Int) (z17 : List Zc) (z13 : List Z7) (z1D : Bool) : Option (ZS × Zl) :=
 (lget x50 x52).bind fun a1 =>
 if (decide (z1c < a1.group)) = true then
 ((Z1g 26 a1.at_ z2U zZ z1f).bind fun r2 =>
 Z5f x50 x51 x52 z2U z1c r2.2.1 r2.2.2 z14 z1i z1h z15 z16 z17 z13 z1D)
 else
 (Z5f x50 x51 x52 z2U z1c zZ z1f z14 z1i z1h z15 z16 z17 z13 z1D)
theorem Zlz (x50 : List Zv) x51 x52 b0 b1 z2U z2N z1c z2v z1Y zZ z1f z14 z1i z1h z15 z16 z17 z13 z2j z1D ox50 z1l z1e z3u z1I z1x z1s (z2r : ZL z1l = true) (z2d : ZL z1e = true) (z3M : ZL z1I = true) : Sim (Z3v) (Z8O x50 x51 x52 z2U z1c zZ z1f z14 z1i z1h z15 z16 z17 z13 z1D) (ZtB 0 (.ptr 0 0) (.ptr 1 0) (.ptr 2 0) (.ptr 3 0) (.p (.lst ox50 (x50.map Z2H))) (iv x51) (iv x52) [(ZT b0 z1l z1e), (Z1A b1), (Zk (Zm.mk z2U z2N z1c z2v z1Y (Zl.mk zZ z1f)) z3u z1I), (ZT (ZS.mk (Z7.mk z14 z1i z1h z15 z16 z17 z13) z2j z1D) z1x z1s)]) := by
 unfold Z8O
 refine zf (ZzM ..)<|ze<|zi fun a1 ha1 => ?_
 refine zo (.cptr (ZeV a1)) ?_ (Eq.trans (by kernel_rfl) (Z3Z (o := ox50) (k := .i64) (n := 2) (e := Z2H) (cs := ZbB) (fun _ => rfl) (fun _ => rfl) (by decide) ha1))
 refine zq<|zz (.ptr 4 0) [(ZT b0 z1l z1e), (Z1A b1), (Zk (Zm.mk z2U z2N z1c z2v z1Y (Zl.mk zZ z1f)) z3u z1I), (ZT (ZS.mk (Z7.mk z14 z1i z1h z15 z16 z17 z13) z2j z1D) z1x z1s), (ZeX (Zv.mk 0 0))]<|zt [(ZT b0 z1l z1e), (Z1A b1), (Zk (Zm.mk z2U z2N z1c z2v z1Y (Zl.mk zZ z1f)) z3u z1I), (ZT (ZS.mk (Z7.mk z14 z1i z1h z15 z16 z17 z13) z2j z1D) z1x z1s), (ZeX a1)]<|ze<|zq<|zq<|zq<|zq<|zq<|zq ?_
 refine za (decide (z1c < a1.group)) ?_ ?_
 ·refine ze<|zq<|zq<|zi fun r2 hr2 => ?_
  obtain ⟨qr2, er2, exr2, rfl⟩ := Z1j 26 a1.at_ z2U z2N z1c z2v z1Y zZ z1f z3u z1I z3M r2 hr2
  refine zc [2] (.p (.tup [])) [(ZT b0 z1l z1e), (Z1A b1), (Zk (Zm.mk z2U r2.1 z1c z2v z1Y (Zl.mk r2.2.1 r2.2.2)) z3u z1I), (ZT (ZS.mk (Z7.mk z14 z1i z1h z15 z16 z17 z13) z2j z1D) z1x z1s), (ZeX a1)] er2 ?_
  exact zk (Zf5 x50 x51 x52 b0 b1 z2U r2.1 z1c z2v z1Y r2.2.1 r2.2.2 z14 z1i z1h z15 z16 z17 z13 z2j z1D ox50 z1l z1e z3u z1I z1x z1s z2r z2d z3M)
 ·exact zk (Zf5 x50 x51 x52 b0 b1 z2U z2N z1c z2v z1Y zZ z1f z14 z1i z1h z15 z16 z17 z13 z2j z1D ox50 z1l z1e z3u z1I z1x z1s z2r z2d z3M)
def Zdy (z1c z14 z1i z1h z15 z16 : Int) (z17 : List Zc) (z13 : List Z7) (z1D : Bool) : Option (ZS × Zl) :=
 some ((ZS.mk (Z7.mk z14 z1i z1h z15 z16 z17 z13) z1c z1D), (Zl.mk 0 0))
theorem ZlB b0 b1 z2U z2N z1c z2v z1Y zZ z1f z14 z1i z1h z15 z16 z17 z13 z2j z1D z1l z1e z3u z1I z1x z1s (z2r : ZL z1l = true) (z2d : ZL z1e = true) (z3M : ZL z1I = true) : Sim (Z3v) (Zdy z1c z14 z1i z1h z15 z16 z17 z13 z1D) (ZtD 0 (.ptr 0 0) (.ptr 1 0) (.ptr 2 0) (.ptr 3 0) [(ZT b0 z1l z1e), (Z1A b1), (Zk (Zm.mk z2U z2N z1c z2v z1Y (Zl.mk zZ z1f)) z3u z1I), (ZT (ZS.mk (Z7.mk z14 z1i z1h z15 z16 z17 z13) z2j z1D) z1x z1s)]) := by
 unfold Zdy
 refine zf (ZzP ..)<|ze<|zq<|zq<|zq<|zq<|zt [(ZT b0 z1l z1e), (Z1A b1), (Zk (Zm.mk z2U z2N z1c z2v z1Y (Zl.mk zZ z1f)) z3u z1I), (ZT (ZS.mk (Z7.mk z14 z1i z1h z15 z16 z17 z13) z1c z1D) z1x z1s)]<|ze<|zq<|zq<|zt [(ZT (ZS.mk (Z7.mk z14 z1i z1h z15 z16 z17 z13) z1c z1D) (shrO z1x) (shrO z1s)), (Z1A b1), (Zk (Zm.mk z2U z2N z1c z2v z1Y (Zl.mk zZ z1f)) z3u z1I), (ZT (ZS.mk (Z7.mk z14 z1i z1h z15 z16 z17 z13) z1c z1D) z1x z1s)]<|zt [(ZT (ZS.mk (Z7.mk z14 z1i z1h z15 z16 z17 z13) z1c z1D) (shrO z1x) (shrO z1s)), (Z1A (Zl.mk 0 0)), (Zk (Zm.mk z2U z2N z1c z2v z1Y (Zl.mk zZ z1f)) z3u z1I), (ZT (ZS.mk (Z7.mk z14 z1i z1h z15 z16 z17 z13) z1c z1D) z1x z1s)] ?_
 exact zr ((.p (.tup [(.agg (Z2Z (ZS.mk (Z7.mk z14 z1i z1h z15 z16 z17 z13) z1c z1D) .sh .sh)), (.agg (Z5e (Zl.mk 0 0)))])), [(ZT (ZS.mk (Z7.mk z14 z1i z1h z15 z16 z17 z13) z1c z1D) (shrO z1x) (shrO z1s)), (Z1A (Zl.mk 0 0)), (Zk (Zm.mk z2U z2N z1c z2v z1Y (Zl.mk zZ z1f)) z3u z1I), (ZT (ZS.mk (Z7.mk z14 z1i z1h z15 z16 z17 z13) z1c z1D) z1x z1s)]) ⟨_, rfl⟩
def Z8P (z1c zZ z1f z14 z1i z1h z15 z16 : Int) (z17 : List Zc) (z13 : List Z7) (z1D : Bool) : Option (ZS × Zl) :=
 if (zZ != 0) = true then
 (some ((ZS.mk (Z7.mk 0 0 0 0 0 ([] : List Zc) ([] : List Z7)) 0 false), (Zl.mk zZ z1f)))
 else
 (Zdy z1c z14 z1i z1h z15 z16 z17 z13 z1D)
theorem ZlA b0 b1 z2U z2N z1c z2v z1Y zZ z1f z14 z1i z1h z15 z16 z17 z13 z2j z1D z1l z1e z3u z1I z1x z1s (z2r : ZL z1l = true) (z2d : ZL z1e = true) (z3M : ZL z1I = true) : Sim (Z3v) (Z8P z1c zZ z1f z14 z1i z1h z15 z16 z17 z13 z1D) (ZtC 0 (.ptr 0 0) (.ptr 1 0) (.ptr 2 0) (.ptr 3 0) [(ZT b0 z1l z1e), (Z1A b1), (Zk (Zm.mk z2U z2N z1c z2v z1Y (Zl.mk zZ z1f)) z3u z1I), (ZT (ZS.mk (Z7.mk z14 z1i z1h z15 z16 z17 z13) z2j z1D) z1x z1s)]) := by
 unfold Z8P
 refine zf (ZzO ..)<|ze<|zq<|zq<|zq<|zq<|zq ?_
 refine za (zZ != 0) ?_ ?_
 ·refine ze<|zq<|zq<|zq<|zq<|zt [(ZT (ZS.mk (Z7.mk 0 0 0 0 0 ([] : List Zc) ([] : List Z7)) 0 false) .nl .nl), (Z1A b1), (Zk (Zm.mk z2U z2N z1c z2v z1Y (Zl.mk zZ z1f)) z3u z1I), (ZT (ZS.mk (Z7.mk z14 z1i z1h z15 z16 z17 z13) z2j z1D) z1x z1s)]<|zt [(ZT (ZS.mk (Z7.mk 0 0 0 0 0 ([] : List Zc) ([] : List Z7)) 0 false) .nl .nl), (Z1A (Zl.mk zZ z1f)), (Zk (Zm.mk z2U z2N z1c z2v z1Y (Zl.mk zZ z1f)) z3u z1I), (ZT (ZS.mk (Z7.mk z14 z1i z1h z15 z16 z17 z13) z2j z1D) z1x z1s)]<|zg ?_
  exact zr ((.p (.tup [(.agg (Z2Z (ZS.mk (Z7.mk 0 0 0 0 0 ([] : List Zc) ([] : List Z7)) 0 false) .sh .sh)), (.agg (Z5e (Zl.mk zZ z1f)))])), [(ZT (ZS.mk (Z7.mk 0 0 0 0 0 ([] : List Zc) ([] : List Z7)) 0 false) .nl .nl), (Z1A (Zl.mk zZ z1f)), (Zk (Zm.mk z2U z2N z1c z2v z1Y (Zl.mk zZ z1f)) z3u z1I), (ZT (ZS.mk (Z7.mk z14 z1i z1h z15 z16 z17 z13) z2j z1D) z1x z1s)]) ⟨_, rfl⟩
 ·exact zk (ZlB b0 b1 z2U z2N z1c z2v z1Y zZ z1f z14 z1i z1h z15 z16 z17 z13 z2j z1D z1l z1e z3u z1I z1x z1s z2r z2d z3M)
def Z6I (x50 : List Zv) (x51 x52 : Int) (z2U : List Int) (z1c zZ z1f z14 z1i z1h z15 z16 : Int) (z17 : List Zc) (z13 : List Z7) (z1D : Bool) : Option (ZS × Zl) :=
 if (decide (x52 < x51)) = true then
 (Z8O x50 x51 x52 z2U z1c zZ z1f z14 z1i z1h z15 z16 z17 z13 z1D)
 else
 (Z8P z1c zZ z1f z14 z1i z1h z15 z16 z17 z13 z1D)
theorem ZmB (x50 : List Zv) x51 x52 b0 b1 z2U z2N z1c z2v z1Y zZ z1f z14 z1i z1h z15 z16 z17 z13 z2j z1D ox50 z1l z1e z3u z1I z1x z1s (z2r : ZL z1l = true) (z2d : ZL z1e = true) (z3M : ZL z1I = true) : Sim (Z3v) (Z6I x50 x51 x52 z2U z1c zZ z1f z14 z1i z1h z15 z16 z17 z13 z1D) (Zlm 0 (.ptr 0 0) (.ptr 1 0) (.ptr 2 0) (.ptr 3 0) (.p (.lst ox50 (x50.map Z2H))) (iv x51) (iv x52) [(ZT b0 z1l z1e), (Z1A b1), (Zk (Zm.mk z2U z2N z1c z2v z1Y (Zl.mk zZ z1f)) z3u z1I), (ZT (ZS.mk (Z7.mk z14 z1i z1h z15 z16 z17 z13) z2j z1D) z1x z1s)]) := by
 unfold Z6I
 refine zf (ZBa ..)<|ze<|zq ?_
 refine za (decide (x52 < x51)) ?_ ?_
 ·exact zk (Zlz x50 x51 x52 b0 b1 z2U z2N z1c z2v z1Y zZ z1f z14 z1i z1h z15 z16 z17 z13 z2j z1D ox50 z1l z1e z3u z1I z1x z1s z2r z2d z3M)
 ·exact zk (ZlA b0 b1 z2U z2N z1c z2v z1Y zZ z1f z14 z1i z1h z15 z16 z17 z13 z2j z1D z1l z1e z3u z1I z1x z1s z2r z2d z3M)
theorem Z9Q (x50 : List Zv) (x51 x52 : Int) (z2U : List Int) (z1c zZ z1f z14 z1i z1h z15 z16 : Int) (z17 : List Zc) (z13 : List Z7) (z1D : Bool) {r} (h : Z6I x50 x51 x52 z2U z1c zZ z1f z14 z1i z1h z15 z16 z17 z13 z1D = some r) : Z7X x50 x51 x52 z2U z1c zZ z1f z14 z1i z1h z15 z16 z17 z13 z1D = some r :=
 Z1a (fun _ _ ha hb => RRun.uniq Zk7 (ha default default default default default default .ex .ex .ex .ex .ex .ex .ex rfl rfl rfl) (hb default default default default default default .ex .ex .ex .ex .ex .ex .ex rfl rfl rfl)) (fun b0 b1 z2N z2v z1Y z2j ox50 z1l z1e z3u z1I z1x z1s z2r z2d z3M => ZmB x50 x51 x52 b0 b1 z2U z2N z1c z2v z1Y zZ z1f z14 z1i z1h z15 z16 z17 z13 z2j z1D ox50 z1l z1e z3u z1I z1x z1s z2r z2d z3M r h)
def Z8a (zu : Int) : Option (Bool × Int) :=
 some (false, zu)
theorem ZbR zn zu zb zh zj z2 z6 zp zd (zy : ZL zd = true) : Sim (Z5h zn zb zh zj z2 z6 zp zd) (Z8a zu) (Zrk 1  [(Zk (Zm.mk zn zu zb zh zj (Zl.mk z2 z6)) zp zd)]) := by
 unfold Z8a
 refine zf (ZBl ..)<|ze ?_
 exact zr ((bv false), [(Zk (Zm.mk zn zu zb zh zj (Zl.mk z2 z6)) zp zd)]) ⟨_, rfl⟩
def Z8b (x1 : ByteArray) (zu : Int) : Option (Bool × Int) :=
 some (true, (IntKind.i64.wrap (zu + (x1.size : Int))))
theorem ZhZ x1 zn zu zb zh zj z2 z6 zp zd (zy : ZL zd = true) : Sim (Z5h zn zb zh zj z2 z6 zp zd) (Z8b x1 zu) (Zvu 1 (.ptr 0 0) (.p (.v (.string x1))) [(Zk (Zm.mk zn zu zb zh zj (Zl.mk z2 z6)) zp zd)]) := by
 unfold Z8b
 refine zf (ZBm ..)<|ze<|zq<|zq<|zq<|zq<|zq<|zq<|zq<|zt [(Zk (Zm.mk zn (IntKind.i64.wrap (zu + (x1.size : Int))) zb zh zj (Zl.mk z2 z6)) zp zd)]<|ze ?_
 exact zr ((bv true), [(Zk (Zm.mk zn (IntKind.i64.wrap (zu + (x1.size : Int))) zb zh zj (Zl.mk z2 z6)) zp zd)]) ⟨_, rfl⟩
def Z9H (x1 : ByteArray) (zn : List Int) (zu : Int) : Option (Bool × Int) :=
 if ((decide ((IntKind.i64.wrap ((zn.length : Int) - zu)) < (x1.size : Int)))) = true then
 (Z8a zu)
 else
 ((lsl zn zu (IntKind.i64.wrap (zu + (x1.size : Int)))).bind fun a1 =>
 if (!(seq (strI a1) x1)) = true then
 (Z8a zu)
 else
 (Z8b x1 zu))
theorem ZjX x1 zn zu zb zh zj z2 z6 zp zd (zy : ZL zd = true) : Sim (Z5h zn zb zh zj z2 z6 zp zd) (Z9H x1 zn zu) (EE 68 [(.ptr 0 0), (.p (.v (.string x1)))] [(Zk (Zm.mk zn zu zb zh zj (Zl.mk z2 z6)) zp zd)]) := by
 unfold Z9H
 refine zf (ZGF ..)<|ze<|ze<|zq<|zq<|zq ?_
 refine zo (iv (zn.length : Int)) ?_ (Eq.trans (by kernel_rfl) (Z38 (P := PP) (t := 141) (d := 5) (by kernel_rfl) (eI .u8) (shrO zp) zn))
 refine zq<|zq<|zq<|zq<|zq<|zq ?_
 refine za ((decide ((IntKind.i64.wrap ((zn.length : Int) - zu)) < (x1.size : Int)))) ?_ ?_
 ·exact zk (ZbR zn zu zb zh zj z2 z6 zp zd zy)
 ·refine zq<|zq<|zq<|zq<|zq<|zq<|zq<|zq<|zq<|zq<|zq<|zi fun a1 ha1 => ?_
  refine zo (.p (.lst (slO (shrO zp)) (a1.map (eI .u8)))) ?_ (Eq.trans (by kernel_rfl) <| ZCz (n := 1) (o := (shrO zp)) (lo := (some (iv zu))) (hi := (some (iv (IntKind.i64.wrap (zu + (x1.size : Int)))))) (e := (eI .u8)) (fun _ => rfl) (by decide) (by kernel_rfl) (by kernel_rfl) ha1)
  refine zo (.p (.v (.string (strI a1)))) ?_ (Eq.trans (by kernel_rfl) (ZDJ (P := PP) (s := 141) (d := 9) (by kernel_rfl) (slO (shrO zp)) a1))
  refine zq ?_
  refine za (!(seq (strI a1) x1)) ?_ ?_
  ·exact zk (ZbR zn zu zb zh zj z2 z6 zp zd zy)
  ·exact zk (ZhZ x1 zn zu zb zh zj z2 z6 zp zd zy)
theorem ZkL (x1 : ByteArray) (zn : List Int) (zu : Int) {r} (h : Z9H x1 zn zu = some r) : Z1G x1 zn zu = some r :=
 Z1a (fun _ _ ha hb => RRun.uniq (Zl6 _ _ _ _ _ _ _ _) (ha default default default default default .ex .ex rfl) (hb default default default default default .ex .ex rfl)) (fun zb zh zj z2 z6 zp zd zy => ZjX x1 zn zu zb zh zj z2 z6 zp zd zy r h)
def Z6R (zn : List Int) (zu zb zh : Int) (zj : List Zv) (z2 z6 : Int) : Option (Z7 × Int × Int × Int × (List Zv) × Int × Int) :=
 (Z70 zn zu zb zh zj z2 z6).bind fun r1 =>
 Z5B ([r1.1] : List Z7) zn r1.2.1 r1.2.2.1 r1.2.2.2.1 r1.2.2.2.2.1 r1.2.2.2.2.2.1 r1.2.2.2.2.2.2
theorem ZkF zn zu zb zh zj z2 z6 zp zd (zy : ZL zd = true) : Sim (Z3I zn zp) (Z6R zn zu zb zh zj z2 z6) (EE 69 [(.ptr 0 0)] [(Zk (Zm.mk zn zu zb zh zj (Zl.mk z2 z6)) zp zd)]) := by
 unfold Z6R
 refine zf (ZGH ..)<|ze<|zz (.ptr 1 0) [(Zk (Zm.mk zn zu zb zh zj (Zl.mk z2 z6)) zp zd), (Zq (Z7.mk 0 0 0 0 0 ([] : List Zc) ([] : List Z7)) .nl .nl)]<|ze<|zi fun r1 hr1 => ?_
 obtain ⟨qr1, er1, or1_0_4, exr1, hor1_0_4, rfl⟩ := Zf9 zn zu zb zh zj z2 z6 zp zd zy r1 hr1
 refine zc [0] (.p (.agg (ZG r1.1 .sh .sh))) [(Zk (Zm.mk zn r1.2.1 r1.2.2.1 r1.2.2.2.1 r1.2.2.2.2.1 (Zl.mk r1.2.2.2.2.2.1 r1.2.2.2.2.2.2)) zp or1_0_4), (Zq (Z7.mk 0 0 0 0 0 ([] : List Zc) ([] : List Z7)) .nl .nl)] er1 ?_
 refine zo (.p (.lst .ex (([r1.1] : List Z7).map ZR))) ?_ (Eq.trans (b := some (.p (.lst .ex [.agg (Z2V r1.1)]))) (by kernel_rfl) (by simp only [List.map_cons, List.map_nil, Z4W]))
 exact zk (Zcs ([r1.1] : List Z7) zn r1.2.1 r1.2.2.1 r1.2.2.2.1 r1.2.2.2.2.1 r1.2.2.2.2.2.1 r1.2.2.2.2.2.2 (Z7.mk 0 0 0 0 0 ([] : List Zc) ([] : List Z7)) .ex zp or1_0_4 .nl .nl rfl hor1_0_4 rfl rfl)
theorem Zf6 (zn : List Int) (zu zb zh : Int) (zj : List Zv) (z2 z6 : Int) {r} (h : Z6R zn zu zb zh zj z2 z6 = some r) : Z4l zn zu zb zh zj z2 z6 = some r :=
 Z1a (fun _ _ ha hb => RRun.uniq (Zfs _ _) (ha .ex .ex rfl) (hb .ex .ex rfl)) (fun zp zd zy => ZkF zn zu zb zh zj z2 z6 zp zd zy r h)
def Z8A (x3 : List Z7) (zn : List Int) (zu zb zh : Int) (zj : List Zv) (z2 z6 : Int) : Option (Z7 × Int × Int × Int × (List Zv) × Int × Int) :=
 (Z70 zn zu zb zh zj z2 z6).bind fun r1 =>
 (lapp x3 ([r1.1] : List Z7)).bind fun a2 =>
 Z5B a2 zn r1.2.1 r1.2.2.1 r1.2.2.2.1 r1.2.2.2.2.1 r1.2.2.2.2.2.1 r1.2.2.2.2.2.2
theorem Zio (x3 : List Z7) zn zu zb zh zj z2 z6 b1 ox3 zp zd zH zE (hox3 : ZL ox3 = true) (zy : ZL zd = true) (z18 : ZL zH = true) (z10 : ZL zE = true) : Sim (Z3I zn zp) (Z8A x3 zn zu zb zh zj z2 z6) (Zvx 1 (.ptr 0 0) (.ptr 1 0) (.p (.lst ox3 (x3.map ZR))) [(Zk (Zm.mk zn zu zb zh zj (Zl.mk z2 z6)) zp zd), (Zq b1 zH zE)]) := by
 unfold Z8A
 refine zf (ZBo ..)<|ze<|zi fun r1 hr1 => ?_
 obtain ⟨qr1, er1, or1_0_4, exr1, hor1_0_4, rfl⟩ := Zf9 zn zu zb zh zj z2 z6 zp zd zy r1 hr1
 refine zc [0] (.p (.agg (ZG r1.1 .sh .sh))) [(Zk (Zm.mk zn r1.2.1 r1.2.2.1 r1.2.2.2.1 r1.2.2.2.2.1 (Zl.mk r1.2.2.2.2.2.1 r1.2.2.2.2.2.2)) zp or1_0_4), (Zq b1 zH zE)] er1 ?_
 refine zo (.p (.lst .ex (([r1.1] : List Z7).map ZR))) ?_ (Eq.trans (b := some (.p (.lst .ex [.agg (Z2V r1.1)]))) (by kernel_rfl) (by simp only [List.map_cons, List.map_nil, Z4W]))
 refine zi fun a2 ha2 => ?_
 refine zo (.p (.lst .un (a2.map ZR))) ?_ (Eq.trans (by kernel_rfl) <| Zj5 (n := 7) (o := ox3) (o' := .ex) (e := ZR) (ys := ([r1.1] : List Z7)) ZlY (by decide) hox3 ha2)
 exact zk (Zcs a2 zn r1.2.1 r1.2.2.1 r1.2.2.2.1 r1.2.2.2.2.1 r1.2.2.2.2.2.1 r1.2.2.2.2.2.2 b1 .un zp or1_0_4 zH zE rfl hor1_0_4 z18 z10)
def Z6S (x3 : List Z7) (zu zb zh : Int) (zj : List Zv) (z2 z6 : Int) : Option (Z7 × Int × Int × Int × (List Zv) × Int × Int) :=
 (Zb2 3 x3).bind fun r1 =>
 some (r1, zu, zb, zh, zj, z2, z6)
theorem Zip (x3 : List Z7) zn zu zb zh zj z2 z6 b1 ox3 zp zd zH zE (hox3 : ZL ox3 = true) (zy : ZL zd = true) (z18 : ZL zH = true) (z10 : ZL zE = true) : Sim (Z3I zn zp) (Z6S x3 zu zb zh zj z2 z6) (Zvy 1 (.ptr 1 0) (.p (.lst ox3 (x3.map ZR))) [(Zk (Zm.mk zn zu zb zh zj (Zl.mk z2 z6)) zp zd), (Zq b1 zH zE)]) := by
 unfold Z6S
 refine zf (ZBp ..)<|ze<|zi fun r1 hr1 => ?_
 obtain ⟨qr1, er1, exr1, rfl⟩ := Zi9 3 x3 .sh r1 hr1
 refine zc [] (.p (.agg (ZG r1 .sh .sh))) [(Zk (Zm.mk zn zu zb zh zj (Zl.mk z2 z6)) zp zd), (Zq b1 zH zE)] er1<|zt [(Zk (Zm.mk zn zu zb zh zj (Zl.mk z2 z6)) zp zd), (Zq r1 .sh .sh)] ?_
 exact zr ((.p (.agg (ZG r1 .sh .sh))), [(Zk (Zm.mk zn zu zb zh zj (Zl.mk z2 z6)) zp zd), (Zq r1 .sh .sh)]) ⟨zd, _, zy, rfl⟩
def Z5x (x3 : List Z7) (zn : List Int) (zu zb zh : Int) (zj : List Zv) (z2 z6 : Int) : Option (Z7 × Int × Int × Int × (List Zv) × Int × Int) :=
 (Z1G (ByteArray.mk #[124]) zn zu).bind fun r1 =>
 if (r1.1) = true then
 (Z8A x3 zn r1.2 zb zh zj z2 z6)
 else
 (Z6S x3 r1.2 zb zh zj z2 z6)
theorem Zin (x3 : List Z7) zn zu zb zh zj z2 z6 b1 ox3 zp zd zH zE (hox3 : ZL ox3 = true) (zy : ZL zd = true) (z18 : ZL zH = true) (z10 : ZL zE = true) : Sim (Z3I zn zp) (Z5x x3 zn zu zb zh zj z2 z6) (Zlo 1 (.ptr 0 0) (.ptr 1 0) (.p (.lst ox3 (x3.map ZR))) [(Zk (Zm.mk zn zu zb zh zj (Zl.mk z2 z6)) zp zd), (Zq b1 zH zE)]) := by
 unfold Z5x
 refine zf (ZBn ..)<|ze<|zi fun r1 hr1 => ?_
 obtain ⟨qr1, er1, exr1, rfl⟩ := Z1P (ByteArray.mk #[124]) zn zu zb zh zj z2 z6 zp zd zy r1 hr1
 refine zc [0] (bv r1.1) [(Zk (Zm.mk zn r1.2 zb zh zj (Zl.mk z2 z6)) zp zd), (Zq b1 zH zE)] er1 ?_
 refine za r1.1 ?_ ?_
 ·exact zk (Zio x3 zn r1.2 zb zh zj z2 z6 b1 ox3 zp zd zH zE hox3 zy z18 z10)
 ·exact zk (Zip x3 zn r1.2 zb zh zj z2 z6 b1 ox3 zp zd zH zE hox3 zy z18 z10)
theorem Zcr (x3 : List Z7) (zn : List Int) (zu zb zh : Int) (zj : List Zv) (z2 z6 : Int) {r} (h : Z5x x3 zn zu zb zh zj z2 z6 = some r) : Z5B x3 zn zu zb zh zj z2 z6 = some r :=
 Z1a (fun _ _ ha hb => RRun.uniq (Zfs _ _) (ha default .ex .ex .ex .ex .ex rfl rfl rfl rfl) (hb default .ex .ex .ex .ex .ex rfl rfl rfl rfl)) (fun b1 ox3 zp zd zH zE hox3 zy z18 z10 => Zin x3 zn zu zb zh zj z2 z6 b1 ox3 zp zd zH zE hox3 zy z18 z10 r h)
def Z8j (zn : List Int) (zu zb zh : Int) (zj : List Zv) (z2 z6 : Int) : Option (Z7 × Int × Int × Int × (List Zv) × Int × Int) :=
 Z5C ([] : List Z7) zn zu zb zh zj z2 z6
theorem ZkI zn zu zb zh zj z2 z6 zp zd (zy : ZL zd = true) : Sim (Z3l zn zp) (Z8j zn zu zb zh zj z2 z6) (EE 91 [(.ptr 0 0)] [(Zk (Zm.mk zn zu zb zh zj (Zl.mk z2 z6)) zp zd)]) := by
 unfold Z8j
 refine zf (ZGY ..)<|ze<|zz (.ptr 1 0) [(Zk (Zm.mk zn zu zb zh zj (Zl.mk z2 z6)) zp zd), (Zq (Z7.mk 0 0 0 0 0 ([] : List Zc) ([] : List Z7)) .nl .nl)]<|ze ?_
 exact zk (Zcu ([] : List Z7) zn zu zb zh zj z2 z6 (Z7.mk 0 0 0 0 0 ([] : List Zc) ([] : List Z7)) .nl zp zd .nl .nl rfl zy rfl rfl)
theorem Zf8 (zn : List Int) (zu zb zh : Int) (zj : List Zv) (z2 z6 : Int) {r} (h : Z8j zn zu zb zh zj z2 z6 = some r) : Z70 zn zu zb zh zj z2 z6 = some r :=
 Z1a (fun _ _ ha hb => RRun.uniq (Zft _ _) (ha .ex .ex rfl) (hb .ex .ex rfl)) (fun zp zd zy => ZkI zn zu zb zh zj z2 z6 zp zd zy r h)
def Z3q (x3 : List Z7) (zu zb zh : Int) (zj : List Zv) (z2 z6 : Int) : Option (Z7 × Int × Int × Int × (List Zv) × Int × Int) :=
 (Zb2 2 x3).bind fun r1 =>
 some (r1, zu, zb, zh, zj, z2, z6)
theorem Z79 (x3 : List Z7) zn zu zb zh zj z2 z6 b1 ox3 zp zd zH zE (hox3 : ZL ox3 = true) (zy : ZL zd = true) (z18 : ZL zH = true) (z10 : ZL zE = true) : Sim (Z3l zn zp) (Z3q x3 zu zb zh zj z2 z6) (Zlt 1 (.ptr 1 0) (.p (.lst ox3 (x3.map ZR))) [(Zk (Zm.mk zn zu zb zh zj (Zl.mk z2 z6)) zp zd), (Zq b1 zH zE)]) := by
 unfold Z3q
 refine zf (ZBJ ..)<|ze<|zi fun r1 hr1 => ?_
 obtain ⟨qr1, er1, exr1, rfl⟩ := Zi9 2 x3 .sh r1 hr1
 refine zc [] (.p (.agg (ZG r1 .sh .sh))) [(Zk (Zm.mk zn zu zb zh zj (Zl.mk z2 z6)) zp zd), (Zq b1 zH zE)] er1<|zt [(Zk (Zm.mk zn zu zb zh zj (Zl.mk z2 z6)) zp zd), (Zq r1 .sh .sh)] ?_
 exact zr ((.p (.agg (ZG r1 .sh .sh))), [(Zk (Zm.mk zn zu zb zh zj (Zl.mk z2 z6)) zp zd), (Zq r1 .sh .sh)]) ⟨zd, _, zy, rfl⟩
def Z4F (x3 : List Z7) (zn : List Int) (zu zb zh : Int) (zj : List Zv) (z2 z6 : Int) : Option (Z7 × Int × Int × Int × (List Zv) × Int × Int) :=
 (Z9R zn zu zb zh zj z2 z6).bind fun r1 =>
 (Z72 r1.1 r1.2.1 zn r1.2.2.1 r1.2.2.2.1 r1.2.2.2.2.1 r1.2.2.2.2.2.1 r1.2.2.2.2.2.2.1 r1.2.2.2.2.2.2.2).bind fun r2 =>
 (lapp x3 ([r2.1] : List Z7)).bind fun a3 =>
 Z5C a3 zn r2.2.1 r1.2.2.2.1 r1.2.2.2.2.1 r1.2.2.2.2.2.1 r2.2.2.1 r2.2.2.2
theorem Z95 (x3 : List Z7) zn zu zb zh zj z2 z6 b1 ox3 zp zd zH zE (hox3 : ZL ox3 = true) (zy : ZL zd = true) (z18 : ZL zH = true) (z10 : ZL zE = true) : Sim (Z3l zn zp) (Z4F x3 zn zu zb zh zj z2 z6) (Zo9 1 (.ptr 0 0) (.ptr 1 0) (.p (.lst ox3 (x3.map ZR))) [(Zk (Zm.mk zn zu zb zh zj (Zl.mk z2 z6)) zp zd), (Zq b1 zH zE)]) := by
 unfold Z4F
 refine zf (ZBI ..)<|ze<|zi fun r1 hr1 => ?_
 obtain ⟨qr1, er1, or1_0_4, exr1, hor1_0_4, rfl⟩ := ZkH zn zu zb zh zj z2 z6 zp zd zy r1 hr1
 refine zc [0] (.p (.tup [(.agg (ZG r1.1 .sh .sh)), (.v (.bool r1.2.1))])) [(Zk (Zm.mk zn r1.2.2.1 r1.2.2.2.1 r1.2.2.2.2.1 r1.2.2.2.2.2.1 (Zl.mk r1.2.2.2.2.2.2.1 r1.2.2.2.2.2.2.2)) zp or1_0_4), (Zq b1 zH zE)] er1<|zq<|zq<|zz (.ptr 2 0) [(Zk (Zm.mk zn r1.2.2.1 r1.2.2.2.1 r1.2.2.2.2.1 r1.2.2.2.2.2.1 (Zl.mk r1.2.2.2.2.2.2.1 r1.2.2.2.2.2.2.2)) zp or1_0_4), (Zq b1 zH zE), (Zq (Z7.mk 0 0 0 0 0 ([] : List Zc) ([] : List Z7)) .nl .nl)]<|zt [(Zk (Zm.mk zn r1.2.2.1 r1.2.2.2.1 r1.2.2.2.2.1 r1.2.2.2.2.2.1 (Zl.mk r1.2.2.2.2.2.2.1 r1.2.2.2.2.2.2.2)) zp or1_0_4), (Zq b1 zH zE), (Zq r1.1 .sh .sh)]<|ze<|zq<|zi fun r2 hr2 => ?_
 obtain ⟨qr2, er2, exr2, rfl⟩ := Zjs r1.1 r1.2.1 zn r1.2.2.1 r1.2.2.2.1 r1.2.2.2.2.1 r1.2.2.2.2.2.1 r1.2.2.2.2.2.2.1 r1.2.2.2.2.2.2.2 .sh .sh zp or1_0_4 hor1_0_4 r2 hr2
 refine zc [0] (.p (.agg (ZG r2.1 .sh .sh))) [(Zk (Zm.mk zn r2.2.1 r1.2.2.2.1 r1.2.2.2.2.1 r1.2.2.2.2.2.1 (Zl.mk r2.2.2.1 r2.2.2.2)) zp or1_0_4), (Zq b1 zH zE), (Zq r1.1 .sh .sh)] er2 ?_
 refine zo (.p (.lst .ex (([r2.1] : List Z7).map ZR))) ?_ (Eq.trans (b := some (.p (.lst .ex [.agg (Z2V r2.1)]))) (by kernel_rfl) (by simp only [List.map_cons, List.map_nil, Z4W]))
 refine zi fun a3 ha3 => ?_
 refine zo (.p (.lst .un (a3.map ZR))) ?_ (Eq.trans (by kernel_rfl) <| Zj5 (n := 7) (o := ox3) (o' := .ex) (e := ZR) (ys := ([r2.1] : List Z7)) ZlY (by decide) hox3 ha3)
 exact zk (Zcu a3 zn r2.2.1 r1.2.2.2.1 r1.2.2.2.2.1 r1.2.2.2.2.2.1 r2.2.2.1 r2.2.2.2 b1 .un zp or1_0_4 zH zE rfl hor1_0_4 z18 z10)
def Z6U (x3 : List Z7) (zn : List Int) (zu zb zh : Int) (zj : List Zv) (z2 z6 : Int) : Option (Z7 × Int × Int × Int × (List Zv) × Int × Int) :=
 (Z2C (Zm.mk zn zu zb zh zj (Zl.mk z2 z6))).bind fun r1 =>
 if (r1 == (-1)) = true then
 (if (r1 == (-1)) = true then
 (Z3q x3 zu zb zh zj z2 z6)
 else
 (Z4F x3 zn zu zb zh zj z2 z6))
 else
 (if (r1 == 124) = true then
 (if (r1 == 124) = true then
 (Z3q x3 zu zb zh zj z2 z6)
 else
 (Z4F x3 zn zu zb zh zj z2 z6))
 else
 (if (r1 == 41) = true then
 (Z3q x3 zu zb zh zj z2 z6)
 else
 (Z4F x3 zn zu zb zh zj z2 z6)))
theorem Zir (x3 : List Z7) zn zu zb zh zj z2 z6 b1 ox3 zp zd zH zE (hox3 : ZL ox3 = true) (zy : ZL zd = true) (z18 : ZL zH = true) (z10 : ZL zE = true) : Sim (Z3l zn zp) (Z6U x3 zn zu zb zh zj z2 z6) (ZvN 1 (.ptr 0 0) (.ptr 1 0) (.p (.lst ox3 (x3.map ZR))) [(Zk (Zm.mk zn zu zb zh zj (Zl.mk z2 z6)) zp zd), (Zq b1 zH zE)]) := by
 unfold Z6U
 refine zf (ZBH ..)<|ze<|zi fun r1 hr1 => ?_
 obtain ⟨qr1, er1, exr1, rfl⟩ := Z2L (Zm.mk zn zu zb zh zj (Zl.mk z2 z6)) zp zd zy r1 hr1
 refine zc [0] (iv r1) [(Zk (Zm.mk zn zu zb zh zj (Zl.mk z2 z6)) zp zd), (Zq b1 zH zE)] er1<|ze<|zq ?_
 refine za (r1 == (-1)) ?_ ?_
 ·refine za (r1 == (-1)) ?_ ?_
  ·exact zk (Z79 x3 zn zu zb zh zj z2 z6 b1 ox3 zp zd zH zE hox3 zy z18 z10)
  ·exact zk (Z95 x3 zn zu zb zh zj z2 z6 b1 ox3 zp zd zH zE hox3 zy z18 z10)
 ·refine ze<|zq ?_
  refine za (r1 == 124) ?_ ?_
  ·refine za (r1 == 124) ?_ ?_
   ·exact zk (Z79 x3 zn zu zb zh zj z2 z6 b1 ox3 zp zd zH zE hox3 zy z18 z10)
   ·exact zk (Z95 x3 zn zu zb zh zj z2 z6 b1 ox3 zp zd zH zE hox3 zy z18 z10)
  ·refine ze<|zq ?_
   refine za (r1 == 41) ?_ ?_
   ·exact zk (Z79 x3 zn zu zb zh zj z2 z6 b1 ox3 zp zd zH zE hox3 zy z18 z10)
   ·exact zk (Z95 x3 zn zu zb zh zj z2 z6 b1 ox3 zp zd zH zE hox3 zy z18 z10)
def Z6T (x3 : List Z7) (zn : List Int) (zu zb zh : Int) (zj : List Zv) (z2 z6 : Int) : Option (Z7 × Int × Int × Int × (List Zv) × Int × Int) :=
 if (z2 == 0) = true then
 (Z6U x3 zn zu zb zh zj z2 z6)
 else
 (Z3q x3 zu zb zh zj z2 z6)
theorem Ziq (x3 : List Z7) zn zu zb zh zj z2 z6 b1 ox3 zp zd zH zE (hox3 : ZL ox3 = true) (zy : ZL zd = true) (z18 : ZL zH = true) (z10 : ZL zE = true) : Sim (Z3l zn zp) (Z6T x3 zn zu zb zh zj z2 z6) (Zls 1 (.ptr 0 0) (.ptr 1 0) (.p (.lst ox3 (x3.map ZR))) [(Zk (Zm.mk zn zu zb zh zj (Zl.mk z2 z6)) zp zd), (Zq b1 zH zE)]) := by
 unfold Z6T
 refine zf (ZBG ..)<|ze<|zq<|zq<|zq<|zq<|zq ?_
 refine za (z2 == 0) ?_ ?_
 ·exact zk (Zir x3 zn zu zb zh zj z2 z6 b1 ox3 zp zd zH zE hox3 zy z18 z10)
 ·exact zk (Z79 x3 zn zu zb zh zj z2 z6 b1 ox3 zp zd zH zE hox3 zy z18 z10)
theorem Zct (x3 : List Z7) (zn : List Int) (zu zb zh : Int) (zj : List Zv) (z2 z6 : Int) {r} (h : Z6T x3 zn zu zb zh zj z2 z6 = some r) : Z5C x3 zn zu zb zh zj z2 z6 = some r :=
 Z1a (fun _ _ ha hb => RRun.uniq (Zft _ _) (ha default .ex .ex .ex .ex .ex rfl rfl rfl rfl) (hb default .ex .ex .ex .ex .ex rfl rfl rfl rfl)) (fun b1 ox3 zp zd zH zE hox3 zy z18 z10 => Ziq x3 zn zu zb zh zj z2 z6 b1 ox3 zp zd zH zE hox3 zy z18 z10 r h)
end Go.Proofs.YteoeggbihfnbfaaGreatDoor.N2
end
noncomputable section
set_option linter.unusedSimpArgs false
set_option linter.unusedVariables false
namespace Go.Proofs.YteoeggbihfnbfaaGreatDoor.N2
open Go Go.Abs
set_option linter.unusedVariables false
set_option maxRecDepth 100000
def Z89 (b0 : Zm) : Option (Int) :=
 (Zen b0.b b0.at_).bind fun r1 =>
 some (r1.1)
theorem ZhY b0 zp zd (zy : ZL zd = true) : Sim (Z6s b0 zp zd) (Z89 b0) (Zsa 1 (.ptr 0 0) [(Zk b0 zp zd)]) := by
 unfold Z89
 refine zf (Zyp ..)<|ze<|zq<|zq<|zq<|zq<|zq<|zq<|zi fun r1 hr1 => ?_
 obtain ⟨qr1, er1, exr1, rfl⟩ := ZlT b0.b b0.at_ .sh r1 hr1
 refine zc [] (.p (.tup [(.v (.int .i64 r1.1)), (.v (.int .i64 r1.2))])) [(Zk b0 zp zd)] er1<|zq<|zq<|ze ?_
 exact zr ((iv r1.1), [(Zk b0 zp zd)]) ⟨_, rfl⟩
def Z9F (b0 : Zm) : Option (Int) :=
 if (decide ((b0.b.length : Int) ≤ b0.at_)) = true then
 (some (-1))
 else
 (Z89 b0)
theorem ZjU b0 zp zd (zy : ZL zd = true) : Sim (Z6s b0 zp zd) (Z9F b0) (EE 104 [(.ptr 0 0)] [(Zk b0 zp zd)]) := by
 unfold Z9F
 refine zf (ZDY ..)<|ze<|ze<|zq<|zq<|zq<|zq<|zq<|zq ?_
 refine zo (iv (b0.b.length : Int)) ?_ (Eq.trans (by kernel_rfl) (Z38 (P := PP) (t := 141) (d := 5) (by kernel_rfl) (eI .u8) (shrO zp) b0.b))
 refine zq ?_
 refine za (decide ((b0.b.length : Int) ≤ b0.at_)) ?_ ?_
 ·refine ze ?_
  exact zr ((iv (-1)), [(Zk b0 zp zd)]) ⟨_, rfl⟩
 ·exact zk (ZhY b0 zp zd zy)
theorem ZkJ (b0 : Zm) {r} (h : Z9F b0 = some r) : Z2C b0 = some r :=
 Z1a (fun _ _ ha hb => RRun.uniq (Zl4 _ _ _) (ha .ex .ex rfl) (hb .ex .ex rfl)) (fun zp zd zy => ZjU b0 zp zd zy r h)
def Zd1  : Option (Int × Int) :=
 some (0, 0)
theorem ZhC  : Sim (Z86) (Zd1) (ZoU 0  []) := by
 unfold Zd1
 refine zf (ZyA ..)<|ze ?_
 exact zr ((.p (.tup [(.v (.int .i64 0)), (.v (.int .i64 0))])), []) ⟨_, rfl⟩
def Zd3 (x0 : List Int) (x1 : Int) : Option (Int × Int) :=
 (lget x0 x1).bind fun a1 =>
 some ((IntKind.i64.wrap (1114112 + (IntKind.i64.wrap a1))), 1)
theorem Zon (x0 : List Int) x1 ox0 : Sim (Z86) (Zd3 x0 x1) (Zso 0 (.p (.lst ox0 (x0.map (eI .u8)))) (iv x1) []) := by
 unfold Zd3
 refine zf (ZyC ..)<|ze<|zi fun a1 ha1 => ?_
 refine zo (.cptr [(.v (.int .u8 a1))]) ?_ (Eq.trans (by kernel_rfl) (Z3Z (o := (shrO ox0)) (k := .i64) (n := 1) (e := (eI .u8)) (cs := (fun a => [(eI .u8) a])) (fun _ => rfl) (fun _ => rfl) (by decide) ha1))
 refine zq<|zq<|zq ?_
 exact zr ((.p (.tup [(.v (.int .i64 (IntKind.i64.wrap (1114112 + (IntKind.i64.wrap a1))))), (.v (.int .i64 1))])), []) ⟨_, rfl⟩
def Z9e (x6 x7 : Int) : Option (Int × Int) :=
 some ((IntKind.i64.wrap x6), x7)
theorem ZhD x6 x7 : Sim (Z86) (Z9e x6 x7) (ZoV 0 (.p (.v (.int .i32 x6))) (iv x7) []) := by
 unfold Z9e
 refine zf (ZyD ..)<|ze<|zq ?_
 exact zr ((.p (.tup [(.v (.int .i64 (IntKind.i64.wrap x6))), (.v (.int .i64 x7))])), []) ⟨_, rfl⟩
def Zd2 (x0 : List Int) (x1 : Int) : Option (Int × Int) :=
 (lsl x0 x1 (x0.length : Int)).bind fun a1 =>
 (Z97 a1).bind fun r2 =>
 if (r2.1 == 65533) = true then
 (if (r2.2 == 1) = true then
 (Zd3 x0 x1)
 else
 (Z9e r2.1 r2.2))
 else
 (Z9e r2.1 r2.2)
theorem Zom (x0 : List Int) x1 ox0 : Sim (Z86) (Zd2 x0 x1) (Zsn 0 (.p (.lst ox0 (x0.map (eI .u8)))) (iv x1) []) := by
 unfold Zd2
 refine zf (ZyB ..)<|ze<|zi fun a1 ha1 => ?_
 refine zo (.p (.lst (slO (shrO ox0)) (a1.map (eI .u8)))) ?_ (Eq.trans (by kernel_rfl) <| ZCz (n := 1) (o := (shrO ox0)) (lo := (some (iv x1))) (hi := none) (e := (eI .u8)) (fun _ => rfl) (by decide) (by kernel_rfl) (by kernel_rfl) ha1)
 refine zi fun r2 hr2 => ?_
 obtain ⟨qr2, er2, exr2, rfl⟩ := ZgP a1 .sh r2 hr2
 refine zc [] (.p (.tup [(.v (.int .i32 r2.1)), (.v (.int .i64 r2.2))])) [] er2<|zq<|zq<|ze<|zq ?_
 refine za (r2.1 == 65533) ?_ ?_
 ·refine zq ?_
  refine za (r2.2 == 1) ?_ ?_
  ·exact zk (Zon x0 x1 ox0)
  ·exact zk (ZhD r2.1 r2.2)
 ·exact zk (ZhD r2.1 r2.2)
def Zh3 (x0 : List Int) (x1 : Int) : Option (Int × Int) :=
 if (decide (x1 < 0)) = true then
 (Zd1)
 else
 (if (decide ((x0.length : Int) ≤ x1)) = true then
 (Zd1)
 else
 (Zd2 x0 x1))
theorem ZrD (x0 : List Int) x1 ox0 : Sim (Z86) (Zh3 x0 x1) (EE 126 [(.p (.lst ox0 (x0.map (eI .u8)))), (iv x1)] []) := by
 unfold Zh3
 refine zf (ZE9 ..)<|ze<|ze<|zq ?_
 refine za (decide (x1 < 0)) ?_ ?_
 ·exact zk (ZhC )
 ·refine zo (iv (x0.length : Int)) ?_ (Eq.trans (by kernel_rfl) (Z38 (P := PP) (t := 141) (d := 5) (by kernel_rfl) (eI .u8) (shrO ox0) x0))
  refine zq ?_
  refine za (decide ((x0.length : Int) ≤ x1)) ?_ ?_
  ·exact zk (ZhC )
  ·exact zk (Zom x0 x1 ox0)
theorem ZtP (x0 : List Int) (x1 : Int) {r} (h : Zh3 x0 x1 = some r) : Zen x0 x1 = some r :=
 Z1a (fun _ _ ha hb => RRun.uniq Zuo (ha .ex) (hb .ex)) (fun ox0 => ZrD x0 x1 ox0 r h)
def Zdz (x0 : Int) (x1 : List Z7) : Option (Z7) :=
 some (Z7.mk x0 0 0 0 0 ([] : List Zc) x1)
theorem ZlD x0 (x1 : List Z7) b0 ox1 z1R z1z (zD7 : ZL z1R = true) (zBT : ZL z1z = true) : Sim (Z9d) (Zdz x0 x1) (ZvO 0 (iv x0) (.p (.lst ox1 (x1.map ZR))) (.ptr 0 0) [(Zq b0 z1R z1z)]) := by
 unfold Zdz
 refine zf (ZBK ..)<|ze<|zq<|zt [(Zq (Z7.mk x0 0 0 0 0 ([] : List Zc) x1) .nl (shrO (shrO ox1)))] ?_
 exact zr ((.p (.agg (ZG (Z7.mk x0 0 0 0 0 ([] : List Zc) x1) .sh .sh))), [(Zq (Z7.mk x0 0 0 0 0 ([] : List Zc) x1) .nl (shrO (shrO ox1)))]) ⟨_, rfl⟩
def ZcY (x0 : Int) (x1 : List Z7) : Option (Z7) :=
 if ((x1.length : Int) == 0) = true then
 (some (Z7.mk 0 0 0 0 0 ([] : List Zc) ([] : List Z7)))
 else
 (if ((x1.length : Int) == 1) = true then
 ((lget x1 0).bind fun a1 =>
 some (a1))
 else
 (Zdz x0 x1))
theorem Zoj x0 (x1 : List Z7) ox1 : Sim (Z9d) (ZcY x0 x1) (EE 92 [(iv x0), (.p (.lst ox1 (x1.map ZR)))] []) := by
 unfold ZcY
 refine zf (ZH1 ..)<|ze<|zz (.ptr 0 0) [(Zq (Z7.mk 0 0 0 0 0 ([] : List Zc) ([] : List Z7)) .nl .nl)]<|ze ?_
 refine zo (iv (x1.length : Int)) ?_ (Eq.trans (by kernel_rfl) (Z38 (P := PP) (t := 96) (d := 98) (by kernel_rfl) ZR (shrO ox1) x1))
 refine ze<|zq ?_
 refine za ((x1.length : Int) == 0) ?_ ?_
 ·refine ze<|zq<|zt [(Zq (Z7.mk 0 0 0 0 0 ([] : List Zc) ([] : List Z7)) .nl .nl)] ?_
  exact zr ((.p (.agg (ZG (Z7.mk 0 0 0 0 0 ([] : List Zc) ([] : List Z7)) .sh .sh))), [(Zq (Z7.mk 0 0 0 0 0 ([] : List Zc) ([] : List Z7)) .nl .nl)]) ⟨_, rfl⟩
 ·refine ze<|zq ?_
  refine za ((x1.length : Int) == 1) ?_ ?_
  ·refine ze<|zi fun a1 ha1 => ?_
   refine zo (.cptr (ZG a1 .sh .sh)) ?_ (Eq.trans (by kernel_rfl) (Z3Z (o := (shrO ox1)) (k := .i64) (n := 7) (e := ZR) (cs := Z2V) Z6c (fun _ => rfl) (by decide) ha1))
   refine zq<|zt [(Zq a1 .sh .sh)] ?_
   exact zr ((.p (.agg (ZG a1 .sh .sh))), [(Zq a1 .sh .sh)]) ⟨_, rfl⟩
  ·exact zk (ZlD x0 x1 (Z7.mk 0 0 0 0 0 ([] : List Zc) ([] : List Z7)) ox1 .nl .nl rfl rfl)
theorem Zpw (x0 : Int) (x1 : List Z7) {r} (h : ZcY x0 x1 = some r) : Zb2 x0 x1 = some r :=
 Z1a (fun _ _ ha hb => RRun.uniq Zq3 (ha .ex) (hb .ex)) (fun ox1 => Zoj x0 x1 ox1 r h)
def Z20 (zu zb zh : Int) (zj : List Zv) (z2 z6 : Int) : Option (Z7 × Bool × Int × Int × Int × (List Zv) × Int × Int) :=
 some ((Z7.mk 0 0 0 0 0 ([] : List Zc) ([] : List Z7)), true, zu, zb, zh, zj, z2, z6)
theorem Z21 zn zu zb zh zj z2 z6 b1 zp zd zH zE (zy : ZL zd = true) (z18 : ZL zH = true) (z10 : ZL zE = true) : Sim (Z6q zn zp) (Z20 zu zb zh zj z2 z6) (Z7u 1 (.ptr 1 0) [(Zk (Zm.mk zn zu zb zh zj (Zl.mk z2 z6)) zp zd), (Zq b1 zH zE)]) := by
 unfold Z20
 refine zf (ZwS ..)<|ze<|zq<|zt [(Zk (Zm.mk zn zu zb zh zj (Zl.mk z2 z6)) zp zd), (Zq (Z7.mk 0 0 0 0 0 ([] : List Zc) ([] : List Z7)) .nl .nl)] ?_
 exact zr ((.p (.tup [(.agg (ZG (Z7.mk 0 0 0 0 0 ([] : List Zc) ([] : List Z7)) .sh .sh)), (.v (.bool true))])), [(Zk (Zm.mk zn zu zb zh zj (Zl.mk z2 z6)) zp zd), (Zq (Z7.mk 0 0 0 0 0 ([] : List Zc) ([] : List Z7)) .nl .nl)]) ⟨zd, _, zy, rfl⟩
def Z7L (zn : List Int) (zu zb zh : Int) (zj : List Zv) (z2 z6 : Int) : Option (Z7 × Bool × Int × Int × Int × (List Zv) × Int × Int) :=
 (Z3d zn zu).bind fun r1 =>
 if (r1.1 == 46) = true then
 ((Z2u 10).bind fun r2 =>
 (Z42 true ([r2] : List Zc)).bind fun r3 =>
 some (r3, true, r1.2, zb, zh, zj, z2, z6))
 else
 (if (r1.1 == 94) = true then
 (some ((Z7.mk 9 0 0 0 0 ([] : List Zc) ([] : List Z7)), false, r1.2, zb, zh, zj, z2, z6))
 else
 (if (r1.1 == 36) = true then
 (some ((Z7.mk 9 0 0 0 1 ([] : List Zc) ([] : List Z7)), false, r1.2, zb, zh, zj, z2, z6))
 else
 (if (r1.1 == 92) = true then
 ((Z4J zu zn r1.2 zb zh zj z2 z6).bind fun r4 =>
 some (r4.1, (r4.1.Kind != 9), r4.2.1, zb, zh, r4.2.2.1, r4.2.2.2.1, r4.2.2.2.2))
 else
 (if (r1.1 == 91) = true then
 ((Z96 zu zn r1.2 zb zh zj z2 z6).bind fun r5 =>
 some (r5.1, true, r5.2.1, zb, zh, zj, r5.2.2.1, r5.2.2.2))
 else
 (if (r1.1 == 40) = true then
 ((Z4X zu zn r1.2 zb zh zj z2 z6).bind fun r6 =>
 some (r6.1, r6.2.1, r6.2.2.1, r6.2.2.2.1, r6.2.2.2.2.1, r6.2.2.2.2.2.1, r6.2.2.2.2.2.2.1, r6.2.2.2.2.2.2.2))
 else
 (if (r1.1 == 42) = true then
 (if (r1.1 == 42) = true then
 ((Z1g 23 zu zn z2 z6).bind fun r7 =>
 Z20 r7.1 zb zh zj r7.2.1 r7.2.2)
 else
 (if (r1.1 == 93) = true then
 (if (r1.1 == 93) = true then
 ((Z1g 20 zu zn z2 z6).bind fun r8 =>
 Z20 r8.1 zb zh zj r8.2.1 r8.2.2)
 else
 ((Z2u r1.1).bind fun r9 =>
 (Z42 false ([r9] : List Zc)).bind fun r10 =>
 some (r10, true, r1.2, zb, zh, zj, z2, z6)))
 else
 (if (r1.1 == 125) = true then
 ((Z1g 20 zu zn z2 z6).bind fun r11 =>
 Z20 r11.1 zb zh zj r11.2.1 r11.2.2)
 else
 ((Z2u r1.1).bind fun r12 =>
 (Z42 false ([r12] : List Zc)).bind fun r13 =>
 some (r13, true, r1.2, zb, zh, zj, z2, z6)))))
 else
 (if (r1.1 == 43) = true then
 (if (r1.1 == 43) = true then
 ((Z1g 23 zu zn z2 z6).bind fun r14 =>
 Z20 r14.1 zb zh zj r14.2.1 r14.2.2)
 else
 (if (r1.1 == 93) = true then
 (if (r1.1 == 93) = true then
 ((Z1g 20 zu zn z2 z6).bind fun r15 =>
 Z20 r15.1 zb zh zj r15.2.1 r15.2.2)
 else
 ((Z2u r1.1).bind fun r16 =>
 (Z42 false ([r16] : List Zc)).bind fun r17 =>
 some (r17, true, r1.2, zb, zh, zj, z2, z6)))
 else
 (if (r1.1 == 125) = true then
 ((Z1g 20 zu zn z2 z6).bind fun r18 =>
 Z20 r18.1 zb zh zj r18.2.1 r18.2.2)
 else
 ((Z2u r1.1).bind fun r19 =>
 (Z42 false ([r19] : List Zc)).bind fun r20 =>
 some (r20, true, r1.2, zb, zh, zj, z2, z6)))))
 else
 (if (r1.1 == 63) = true then
 (if (r1.1 == 63) = true then
 ((Z1g 23 zu zn z2 z6).bind fun r21 =>
 Z20 r21.1 zb zh zj r21.2.1 r21.2.2)
 else
 (if (r1.1 == 93) = true then
 (if (r1.1 == 93) = true then
 ((Z1g 20 zu zn z2 z6).bind fun r22 =>
 Z20 r22.1 zb zh zj r22.2.1 r22.2.2)
 else
 ((Z2u r1.1).bind fun r23 =>
 (Z42 false ([r23] : List Zc)).bind fun r24 =>
 some (r24, true, r1.2, zb, zh, zj, z2, z6)))
 else
 (if (r1.1 == 125) = true then
 ((Z1g 20 zu zn z2 z6).bind fun r25 =>
 Z20 r25.1 zb zh zj r25.2.1 r25.2.2)
 else
 ((Z2u r1.1).bind fun r26 =>
 (Z42 false ([r26] : List Zc)).bind fun r27 =>
 some (r27, true, r1.2, zb, zh, zj, z2, z6)))))
 else
 (if (r1.1 == 123) = true then
 ((Z1g 23 zu zn z2 z6).bind fun r28 =>
 Z20 r28.1 zb zh zj r28.2.1 r28.2.2)
 else
 (if (r1.1 == 93) = true then
 (if (r1.1 == 93) = true then
 ((Z1g 20 zu zn z2 z6).bind fun r29 =>
 Z20 r29.1 zb zh zj r29.2.1 r29.2.2)
 else
 ((Z2u r1.1).bind fun r30 =>
 (Z42 false ([r30] : List Zc)).bind fun r31 =>
 some (r31, true, r1.2, zb, zh, zj, z2, z6)))
 else
 (if (r1.1 == 125) = true then
 ((Z1g 20 zu zn z2 z6).bind fun r32 =>
 Z20 r32.1 zb zh zj r32.2.1 r32.2.2)
 else
 ((Z2u r1.1).bind fun r33 =>
 (Z42 false ([r33] : List Zc)).bind fun r34 =>
 some (r34, true, r1.2, zb, zh, zj, z2, z6)))))))))))))
theorem ZjP zn zu zb zh zj z2 z6 zp zd (zy : ZL zd = true) : Sim (Z6q zn zp) (Z7L zn zu zb zh zj z2 z6) (EE 105 [(.ptr 0 0)] [(Zk (Zm.mk zn zu zb zh zj (Zl.mk z2 z6)) zp zd)]) := by
 unfold Z7L
 refine zf (ZE0 ..)<|ze<|zz (.ptr 1 0) [(Zk (Zm.mk zn zu zb zh zj (Zl.mk z2 z6)) zp zd), (Zq (Z7.mk 0 0 0 0 0 ([] : List Zc) ([] : List Z7)) .nl .nl)]<|ze<|zq<|zq<|zq<|ze<|zi fun r1 hr1 => ?_
 obtain ⟨qr1, er1, exr1, rfl⟩ := Z3L zn zu zb zh zj z2 z6 zp zd zy r1 hr1
 refine zc [0] (iv r1.1) [(Zk (Zm.mk zn r1.2 zb zh zj (Zl.mk z2 z6)) zp zd), (Zq (Z7.mk 0 0 0 0 0 ([] : List Zc) ([] : List Z7)) .nl .nl)] er1<|ze<|ze<|zq ?_
 refine za (r1.1 == 46) ?_ ?_
 ·refine ze<|zi fun r2 hr2 => ?_
  obtain ⟨qr2, er2, exr2, rfl⟩ := Z2m 10 r2 hr2
  refine zc [] (.p (.agg (ZW r2))) [(Zk (Zm.mk zn r1.2 zb zh zj (Zl.mk z2 z6)) zp zd), (Zq (Z7.mk 0 0 0 0 0 ([] : List Zc) ([] : List Z7)) .nl .nl)] er2<|zq<|zi fun r3 hr3 => ?_
  obtain ⟨qr3, er3, exr3, rfl⟩ := Z4d true ([r2] : List Zc) .sh r3 hr3
  refine zc [] (.p (.agg (ZG r3 .sh .sh))) [(Zk (Zm.mk zn r1.2 zb zh zj (Zl.mk z2 z6)) zp zd), (Zq (Z7.mk 0 0 0 0 0 ([] : List Zc) ([] : List Z7)) .nl .nl)] er3<|zt [(Zk (Zm.mk zn r1.2 zb zh zj (Zl.mk z2 z6)) zp zd), (Zq r3 .sh .sh)] ?_
  exact zr ((.p (.tup [(.agg (ZG r3 .sh .sh)), (.v (.bool true))])), [(Zk (Zm.mk zn r1.2 zb zh zj (Zl.mk z2 z6)) zp zd), (Zq r3 .sh .sh)]) ⟨zd, _, zy, rfl⟩
 ·refine ze<|zq ?_
  refine za (r1.1 == 94) ?_ ?_
  ·refine ze<|zq<|zt [(Zk (Zm.mk zn r1.2 zb zh zj (Zl.mk z2 z6)) zp zd), (Zq (Z7.mk 9 0 0 0 0 ([] : List Zc) ([] : List Z7)) .nl .nl)] ?_
   exact zr ((.p (.tup [(.agg (ZG (Z7.mk 9 0 0 0 0 ([] : List Zc) ([] : List Z7)) .sh .sh)), (.v (.bool false))])), [(Zk (Zm.mk zn r1.2 zb zh zj (Zl.mk z2 z6)) zp zd), (Zq (Z7.mk 9 0 0 0 0 ([] : List Zc) ([] : List Z7)) .nl .nl)]) ⟨zd, _, zy, rfl⟩
  ·refine ze<|zq ?_
   refine za (r1.1 == 36) ?_ ?_
   ·refine ze<|zq<|zt [(Zk (Zm.mk zn r1.2 zb zh zj (Zl.mk z2 z6)) zp zd), (Zq (Z7.mk 9 0 0 0 1 ([] : List Zc) ([] : List Z7)) .nl .nl)] ?_
    exact zr ((.p (.tup [(.agg (ZG (Z7.mk 9 0 0 0 1 ([] : List Zc) ([] : List Z7)) .sh .sh)), (.v (.bool false))])), [(Zk (Zm.mk zn r1.2 zb zh zj (Zl.mk z2 z6)) zp zd), (Zq (Z7.mk 9 0 0 0 1 ([] : List Zc) ([] : List Z7)) .nl .nl)]) ⟨zd, _, zy, rfl⟩
   ·refine ze<|zq ?_
    refine za (r1.1 == 92) ?_ ?_
    ·refine ze<|zi fun r4 hr4 => ?_
     obtain ⟨qr4, er4, or4_0_4, exr4, hor4_0_4, rfl⟩ := Zjo zu zn r1.2 zb zh zj z2 z6 zp zd zy r4 hr4
     refine zc [0] (.p (.agg (ZG r4.1 .sh .sh))) [(Zk (Zm.mk zn r4.2.1 zb zh r4.2.2.1 (Zl.mk r4.2.2.2.1 r4.2.2.2.2)) zp or4_0_4), (Zq (Z7.mk 0 0 0 0 0 ([] : List Zc) ([] : List Z7)) .nl .nl)] er4<|zz (.ptr 2 0) [(Zk (Zm.mk zn r4.2.1 zb zh r4.2.2.1 (Zl.mk r4.2.2.2.1 r4.2.2.2.2)) zp or4_0_4), (Zq (Z7.mk 0 0 0 0 0 ([] : List Zc) ([] : List Z7)) .nl .nl), (Zq (Z7.mk 0 0 0 0 0 ([] : List Zc) ([] : List Z7)) .nl .nl)]<|zt [(Zk (Zm.mk zn r4.2.1 zb zh r4.2.2.1 (Zl.mk r4.2.2.2.1 r4.2.2.2.2)) zp or4_0_4), (Zq (Z7.mk 0 0 0 0 0 ([] : List Zc) ([] : List Z7)) .nl .nl), (Zq r4.1 .sh .sh)]<|ze<|zq<|zq<|zq<|zq<|zt [(Zk (Zm.mk zn r4.2.1 zb zh r4.2.2.1 (Zl.mk r4.2.2.2.1 r4.2.2.2.2)) zp or4_0_4), (Zq r4.1 .sh .sh), (Zq r4.1 .sh .sh)]<|zg ?_
     exact zr ((.p (.tup [(.agg (ZG r4.1 .sh .sh)), (.v (.bool (r4.1.Kind != 9)))])), [(Zk (Zm.mk zn r4.2.1 zb zh r4.2.2.1 (Zl.mk r4.2.2.2.1 r4.2.2.2.2)) zp or4_0_4), (Zq r4.1 .sh .sh), (Zq r4.1 .sh .sh)]) ⟨or4_0_4, _, hor4_0_4, rfl⟩
    ·refine ze<|zq ?_
     refine za (r1.1 == 91) ?_ ?_
     ·refine ze<|zi fun r5 hr5 => ?_
      obtain ⟨qr5, er5, exr5, rfl⟩ := ZjR zu zn r1.2 zb zh zj z2 z6 zp zd zy r5 hr5
      refine zc [0] (.p (.agg (ZG r5.1 .sh .sh))) [(Zk (Zm.mk zn r5.2.1 zb zh zj (Zl.mk r5.2.2.1 r5.2.2.2)) zp zd), (Zq (Z7.mk 0 0 0 0 0 ([] : List Zc) ([] : List Z7)) .nl .nl)] er5<|zt [(Zk (Zm.mk zn r5.2.1 zb zh zj (Zl.mk r5.2.2.1 r5.2.2.2)) zp zd), (Zq r5.1 .sh .sh)] ?_
      exact zr ((.p (.tup [(.agg (ZG r5.1 .sh .sh)), (.v (.bool true))])), [(Zk (Zm.mk zn r5.2.1 zb zh zj (Zl.mk r5.2.2.1 r5.2.2.2)) zp zd), (Zq r5.1 .sh .sh)]) ⟨zd, _, zy, rfl⟩
     ·refine ze<|zq ?_
      refine za (r1.1 == 40) ?_ ?_
      ·refine ze<|zi fun r6 hr6 => ?_
       obtain ⟨qr6, er6, or6_0_4, exr6, hor6_0_4, rfl⟩ := ZjT zu zn r1.2 zb zh zj z2 z6 zp zd zy r6 hr6
       refine zc [0] (.p (.tup [(.agg (ZG r6.1 .sh .sh)), (.v (.bool r6.2.1))])) [(Zk (Zm.mk zn r6.2.2.1 r6.2.2.2.1 r6.2.2.2.2.1 r6.2.2.2.2.2.1 (Zl.mk r6.2.2.2.2.2.2.1 r6.2.2.2.2.2.2.2)) zp or6_0_4), (Zq (Z7.mk 0 0 0 0 0 ([] : List Zc) ([] : List Z7)) .nl .nl)] er6<|zq<|zq<|zt [(Zk (Zm.mk zn r6.2.2.1 r6.2.2.2.1 r6.2.2.2.2.1 r6.2.2.2.2.2.1 (Zl.mk r6.2.2.2.2.2.2.1 r6.2.2.2.2.2.2.2)) zp or6_0_4), (Zq r6.1 .sh .sh)] ?_
       exact zr ((.p (.tup [(.agg (ZG r6.1 .sh .sh)), (.v (.bool r6.2.1))])), [(Zk (Zm.mk zn r6.2.2.1 r6.2.2.2.1 r6.2.2.2.2.1 r6.2.2.2.2.2.1 (Zl.mk r6.2.2.2.2.2.2.1 r6.2.2.2.2.2.2.2)) zp or6_0_4), (Zq r6.1 .sh .sh)]) ⟨or6_0_4, _, hor6_0_4, rfl⟩
      ·refine ze<|zq ?_
       refine za (r1.1 == 42) ?_ ?_
       ·refine za (r1.1 == 42) ?_ ?_
        ·refine ze<|zi fun r7 hr7 => ?_
         obtain ⟨qr7, er7, exr7, rfl⟩ := Z1j 23 zu zn r1.2 zb zh zj z2 z6 zp zd zy r7 hr7
         refine zc [0] (.p (.tup [])) [(Zk (Zm.mk zn r7.1 zb zh zj (Zl.mk r7.2.1 r7.2.2)) zp zd), (Zq (Z7.mk 0 0 0 0 0 ([] : List Zc) ([] : List Z7)) .nl .nl)] er7 ?_
         exact zk (Z21 zn r7.1 zb zh zj r7.2.1 r7.2.2 (Z7.mk 0 0 0 0 0 ([] : List Zc) ([] : List Z7)) zp zd .nl .nl zy rfl rfl)
        ·refine ze<|zq ?_
         refine za (r1.1 == 93) ?_ ?_
         ·refine za (r1.1 == 93) ?_ ?_
          ·refine ze<|zi fun r8 hr8 => ?_
           obtain ⟨qr8, er8, exr8, rfl⟩ := Z1j 20 zu zn r1.2 zb zh zj z2 z6 zp zd zy r8 hr8
           refine zc [0] (.p (.tup [])) [(Zk (Zm.mk zn r8.1 zb zh zj (Zl.mk r8.2.1 r8.2.2)) zp zd), (Zq (Z7.mk 0 0 0 0 0 ([] : List Zc) ([] : List Z7)) .nl .nl)] er8 ?_
           exact zk (Z21 zn r8.1 zb zh zj r8.2.1 r8.2.2 (Z7.mk 0 0 0 0 0 ([] : List Zc) ([] : List Z7)) zp zd .nl .nl zy rfl rfl)
          ·refine ze<|zi fun r9 hr9 => ?_
           obtain ⟨qr9, er9, exr9, rfl⟩ := Z2m r1.1 r9 hr9
           refine zc [] (.p (.agg (ZW r9))) [(Zk (Zm.mk zn r1.2 zb zh zj (Zl.mk z2 z6)) zp zd), (Zq (Z7.mk 0 0 0 0 0 ([] : List Zc) ([] : List Z7)) .nl .nl)] er9<|zq<|zi fun r10 hr10 => ?_
           obtain ⟨qr10, er10, exr10, rfl⟩ := Z4d false ([r9] : List Zc) .sh r10 hr10
           refine zc [] (.p (.agg (ZG r10 .sh .sh))) [(Zk (Zm.mk zn r1.2 zb zh zj (Zl.mk z2 z6)) zp zd), (Zq (Z7.mk 0 0 0 0 0 ([] : List Zc) ([] : List Z7)) .nl .nl)] er10<|zt [(Zk (Zm.mk zn r1.2 zb zh zj (Zl.mk z2 z6)) zp zd), (Zq r10 .sh .sh)] ?_
           exact zr ((.p (.tup [(.agg (ZG r10 .sh .sh)), (.v (.bool true))])), [(Zk (Zm.mk zn r1.2 zb zh zj (Zl.mk z2 z6)) zp zd), (Zq r10 .sh .sh)]) ⟨zd, _, zy, rfl⟩
         ·refine ze<|zq ?_
          refine za (r1.1 == 125) ?_ ?_
          ·refine ze<|zi fun r11 hr11 => ?_
           obtain ⟨qr11, er11, exr11, rfl⟩ := Z1j 20 zu zn r1.2 zb zh zj z2 z6 zp zd zy r11 hr11
           refine zc [0] (.p (.tup [])) [(Zk (Zm.mk zn r11.1 zb zh zj (Zl.mk r11.2.1 r11.2.2)) zp zd), (Zq (Z7.mk 0 0 0 0 0 ([] : List Zc) ([] : List Z7)) .nl .nl)] er11 ?_
           exact zk (Z21 zn r11.1 zb zh zj r11.2.1 r11.2.2 (Z7.mk 0 0 0 0 0 ([] : List Zc) ([] : List Z7)) zp zd .nl .nl zy rfl rfl)
          ·refine ze<|zi fun r12 hr12 => ?_
           obtain ⟨qr12, er12, exr12, rfl⟩ := Z2m r1.1 r12 hr12
           refine zc [] (.p (.agg (ZW r12))) [(Zk (Zm.mk zn r1.2 zb zh zj (Zl.mk z2 z6)) zp zd), (Zq (Z7.mk 0 0 0 0 0 ([] : List Zc) ([] : List Z7)) .nl .nl)] er12<|zq<|zi fun r13 hr13 => ?_
           obtain ⟨qr13, er13, exr13, rfl⟩ := Z4d false ([r12] : List Zc) .sh r13 hr13
           refine zc [] (.p (.agg (ZG r13 .sh .sh))) [(Zk (Zm.mk zn r1.2 zb zh zj (Zl.mk z2 z6)) zp zd), (Zq (Z7.mk 0 0 0 0 0 ([] : List Zc) ([] : List Z7)) .nl .nl)] er13<|zt [(Zk (Zm.mk zn r1.2 zb zh zj (Zl.mk z2 z6)) zp zd), (Zq r13 .sh .sh)] ?_
           exact zr ((.p (.tup [(.agg (ZG r13 .sh .sh)), (.v (.bool true))])), [(Zk (Zm.mk zn r1.2 zb zh zj (Zl.mk z2 z6)) zp zd), (Zq r13 .sh .sh)]) ⟨zd, _, zy, rfl⟩
       ·refine ze<|zq ?_
        refine za (r1.1 == 43) ?_ ?_
        ·refine za (r1.1 == 43) ?_ ?_
         ·refine ze<|zi fun r14 hr14 => ?_
          obtain ⟨qr14, er14, exr14, rfl⟩ := Z1j 23 zu zn r1.2 zb zh zj z2 z6 zp zd zy r14 hr14
          refine zc [0] (.p (.tup [])) [(Zk (Zm.mk zn r14.1 zb zh zj (Zl.mk r14.2.1 r14.2.2)) zp zd), (Zq (Z7.mk 0 0 0 0 0 ([] : List Zc) ([] : List Z7)) .nl .nl)] er14 ?_
          exact zk (Z21 zn r14.1 zb zh zj r14.2.1 r14.2.2 (Z7.mk 0 0 0 0 0 ([] : List Zc) ([] : List Z7)) zp zd .nl .nl zy rfl rfl)
         ·refine ze<|zq ?_
          refine za (r1.1 == 93) ?_ ?_
          ·refine za (r1.1 == 93) ?_ ?_
           ·refine ze<|zi fun r15 hr15 => ?_
            obtain ⟨qr15, er15, exr15, rfl⟩ := Z1j 20 zu zn r1.2 zb zh zj z2 z6 zp zd zy r15 hr15
            refine zc [0] (.p (.tup [])) [(Zk (Zm.mk zn r15.1 zb zh zj (Zl.mk r15.2.1 r15.2.2)) zp zd), (Zq (Z7.mk 0 0 0 0 0 ([] : List Zc) ([] : List Z7)) .nl .nl)] er15 ?_
            exact zk (Z21 zn r15.1 zb zh zj r15.2.1 r15.2.2 (Z7.mk 0 0 0 0 0 ([] : List Zc) ([] : List Z7)) zp zd .nl .nl zy rfl rfl)
           ·refine ze<|zi fun r16 hr16 => ?_
            obtain ⟨qr16, er16, exr16, rfl⟩ := Z2m r1.1 r16 hr16
            refine zc [] (.p (.agg (ZW r16))) [(Zk (Zm.mk zn r1.2 zb zh zj (Zl.mk z2 z6)) zp zd), (Zq (Z7.mk 0 0 0 0 0 ([] : List Zc) ([] : List Z7)) .nl .nl)] er16<|zq<|zi fun r17 hr17 => ?_
            obtain ⟨qr17, er17, exr17, rfl⟩ := Z4d false ([r16] : List Zc) .sh r17 hr17
            refine zc [] (.p (.agg (ZG r17 .sh .sh))) [(Zk (Zm.mk zn r1.2 zb zh zj (Zl.mk z2 z6)) zp zd), (Zq (Z7.mk 0 0 0 0 0 ([] : List Zc) ([] : List Z7)) .nl .nl)] er17<|zt [(Zk (Zm.mk zn r1.2 zb zh zj (Zl.mk z2 z6)) zp zd), (Zq r17 .sh .sh)] ?_
            exact zr ((.p (.tup [(.agg (ZG r17 .sh .sh)), (.v (.bool true))])), [(Zk (Zm.mk zn r1.2 zb zh zj (Zl.mk z2 z6)) zp zd), (Zq r17 .sh .sh)]) ⟨zd, _, zy, rfl⟩
          ·refine ze<|zq ?_
           refine za (r1.1 == 125) ?_ ?_
           ·refine ze<|zi fun r18 hr18 => ?_
            obtain ⟨qr18, er18, exr18, rfl⟩ := Z1j 20 zu zn r1.2 zb zh zj z2 z6 zp zd zy r18 hr18
            refine zc [0] (.p (.tup [])) [(Zk (Zm.mk zn r18.1 zb zh zj (Zl.mk r18.2.1 r18.2.2)) zp zd), (Zq (Z7.mk 0 0 0 0 0 ([] : List Zc) ([] : List Z7)) .nl .nl)] er18 ?_
            exact zk (Z21 zn r18.1 zb zh zj r18.2.1 r18.2.2 (Z7.mk 0 0 0 0 0 ([] : List Zc) ([] : List Z7)) zp zd .nl .nl zy rfl rfl)
           ·refine ze<|zi fun r19 hr19 => ?_
            obtain ⟨qr19, er19, exr19, rfl⟩ := Z2m r1.1 r19 hr19
            refine zc [] (.p (.agg (ZW r19))) [(Zk (Zm.mk zn r1.2 zb zh zj (Zl.mk z2 z6)) zp zd), (Zq (Z7.mk 0 0 0 0 0 ([] : List Zc) ([] : List Z7)) .nl .nl)] er19<|zq<|zi fun r20 hr20 => ?_
            obtain ⟨qr20, er20, exr20, rfl⟩ := Z4d false ([r19] : List Zc) .sh r20 hr20
            refine zc [] (.p (.agg (ZG r20 .sh .sh))) [(Zk (Zm.mk zn r1.2 zb zh zj (Zl.mk z2 z6)) zp zd), (Zq (Z7.mk 0 0 0 0 0 ([] : List Zc) ([] : List Z7)) .nl .nl)] er20<|zt [(Zk (Zm.mk zn r1.2 zb zh zj (Zl.mk z2 z6)) zp zd), (Zq r20 .sh .sh)] ?_
            exact zr ((.p (.tup [(.agg (ZG r20 .sh .sh)), (.v (.bool true))])), [(Zk (Zm.mk zn r1.2 zb zh zj (Zl.mk z2 z6)) zp zd), (Zq r20 .sh .sh)]) ⟨zd, _, zy, rfl⟩
        ·refine ze<|zq ?_
         refine za (r1.1 == 63) ?_ ?_
         ·refine za (r1.1 == 63) ?_ ?_
          ·refine ze<|zi fun r21 hr21 => ?_
           obtain ⟨qr21, er21, exr21, rfl⟩ := Z1j 23 zu zn r1.2 zb zh zj z2 z6 zp zd zy r21 hr21
           refine zc [0] (.p (.tup [])) [(Zk (Zm.mk zn r21.1 zb zh zj (Zl.mk r21.2.1 r21.2.2)) zp zd), (Zq (Z7.mk 0 0 0 0 0 ([] : List Zc) ([] : List Z7)) .nl .nl)] er21 ?_
           exact zk (Z21 zn r21.1 zb zh zj r21.2.1 r21.2.2 (Z7.mk 0 0 0 0 0 ([] : List Zc) ([] : List Z7)) zp zd .nl .nl zy rfl rfl)
          ·refine ze<|zq ?_
           refine za (r1.1 == 93) ?_ ?_
           ·refine za (r1.1 == 93) ?_ ?_
            ·refine ze<|zi fun r22 hr22 => ?_
             obtain ⟨qr22, er22, exr22, rfl⟩ := Z1j 20 zu zn r1.2 zb zh zj z2 z6 zp zd zy r22 hr22
             refine zc [0] (.p (.tup [])) [(Zk (Zm.mk zn r22.1 zb zh zj (Zl.mk r22.2.1 r22.2.2)) zp zd), (Zq (Z7.mk 0 0 0 0 0 ([] : List Zc) ([] : List Z7)) .nl .nl)] er22 ?_
             exact zk (Z21 zn r22.1 zb zh zj r22.2.1 r22.2.2 (Z7.mk 0 0 0 0 0 ([] : List Zc) ([] : List Z7)) zp zd .nl .nl zy rfl rfl)
            ·refine ze<|zi fun r23 hr23 => ?_
             obtain ⟨qr23, er23, exr23, rfl⟩ := Z2m r1.1 r23 hr23
             refine zc [] (.p (.agg (ZW r23))) [(Zk (Zm.mk zn r1.2 zb zh zj (Zl.mk z2 z6)) zp zd), (Zq (Z7.mk 0 0 0 0 0 ([] : List Zc) ([] : List Z7)) .nl .nl)] er23<|zq<|zi fun r24 hr24 => ?_
             obtain ⟨qr24, er24, exr24, rfl⟩ := Z4d false ([r23] : List Zc) .sh r24 hr24
             refine zc [] (.p (.agg (ZG r24 .sh .sh))) [(Zk (Zm.mk zn r1.2 zb zh zj (Zl.mk z2 z6)) zp zd), (Zq (Z7.mk 0 0 0 0 0 ([] : List Zc) ([] : List Z7)) .nl .nl)] er24<|zt [(Zk (Zm.mk zn r1.2 zb zh zj (Zl.mk z2 z6)) zp zd), (Zq r24 .sh .sh)] ?_
             exact zr ((.p (.tup [(.agg (ZG r24 .sh .sh)), (.v (.bool true))])), [(Zk (Zm.mk zn r1.2 zb zh zj (Zl.mk z2 z6)) zp zd), (Zq r24 .sh .sh)]) ⟨zd, _, zy, rfl⟩
           ·refine ze<|zq ?_
            refine za (r1.1 == 125) ?_ ?_
            ·refine ze<|zi fun r25 hr25 => ?_
             obtain ⟨qr25, er25, exr25, rfl⟩ := Z1j 20 zu zn r1.2 zb zh zj z2 z6 zp zd zy r25 hr25
             refine zc [0] (.p (.tup [])) [(Zk (Zm.mk zn r25.1 zb zh zj (Zl.mk r25.2.1 r25.2.2)) zp zd), (Zq (Z7.mk 0 0 0 0 0 ([] : List Zc) ([] : List Z7)) .nl .nl)] er25 ?_
             exact zk (Z21 zn r25.1 zb zh zj r25.2.1 r25.2.2 (Z7.mk 0 0 0 0 0 ([] : List Zc) ([] : List Z7)) zp zd .nl .nl zy rfl rfl)
            ·refine ze<|zi fun r26 hr26 => ?_
             obtain ⟨qr26, er26, exr26, rfl⟩ := Z2m r1.1 r26 hr26
             refine zc [] (.p (.agg (ZW r26))) [(Zk (Zm.mk zn r1.2 zb zh zj (Zl.mk z2 z6)) zp zd), (Zq (Z7.mk 0 0 0 0 0 ([] : List Zc) ([] : List Z7)) .nl .nl)] er26<|zq<|zi fun r27 hr27 => ?_
             obtain ⟨qr27, er27, exr27, rfl⟩ := Z4d false ([r26] : List Zc) .sh r27 hr27
             refine zc [] (.p (.agg (ZG r27 .sh .sh))) [(Zk (Zm.mk zn r1.2 zb zh zj (Zl.mk z2 z6)) zp zd), (Zq (Z7.mk 0 0 0 0 0 ([] : List Zc) ([] : List Z7)) .nl .nl)] er27<|zt [(Zk (Zm.mk zn r1.2 zb zh zj (Zl.mk z2 z6)) zp zd), (Zq r27 .sh .sh)] ?_
             exact zr ((.p (.tup [(.agg (ZG r27 .sh .sh)), (.v (.bool true))])), [(Zk (Zm.mk zn r1.2 zb zh zj (Zl.mk z2 z6)) zp zd), (Zq r27 .sh .sh)]) ⟨zd, _, zy, rfl⟩
         ·refine ze<|zq ?_
          refine za (r1.1 == 123) ?_ ?_
          ·refine ze<|zi fun r28 hr28 => ?_
           obtain ⟨qr28, er28, exr28, rfl⟩ := Z1j 23 zu zn r1.2 zb zh zj z2 z6 zp zd zy r28 hr28
           refine zc [0] (.p (.tup [])) [(Zk (Zm.mk zn r28.1 zb zh zj (Zl.mk r28.2.1 r28.2.2)) zp zd), (Zq (Z7.mk 0 0 0 0 0 ([] : List Zc) ([] : List Z7)) .nl .nl)] er28 ?_
           exact zk (Z21 zn r28.1 zb zh zj r28.2.1 r28.2.2 (Z7.mk 0 0 0 0 0 ([] : List Zc) ([] : List Z7)) zp zd .nl .nl zy rfl rfl)
          ·refine ze<|zq ?_
           refine za (r1.1 == 93) ?_ ?_
           ·refine za (r1.1 == 93) ?_ ?_
            ·refine ze<|zi fun r29 hr29 => ?_
             obtain ⟨qr29, er29, exr29, rfl⟩ := Z1j 20 zu zn r1.2 zb zh zj z2 z6 zp zd zy r29 hr29
             refine zc [0] (.p (.tup [])) [(Zk (Zm.mk zn r29.1 zb zh zj (Zl.mk r29.2.1 r29.2.2)) zp zd), (Zq (Z7.mk 0 0 0 0 0 ([] : List Zc) ([] : List Z7)) .nl .nl)] er29 ?_
             exact zk (Z21 zn r29.1 zb zh zj r29.2.1 r29.2.2 (Z7.mk 0 0 0 0 0 ([] : List Zc) ([] : List Z7)) zp zd .nl .nl zy rfl rfl)
            ·refine ze<|zi fun r30 hr30 => ?_
             obtain ⟨qr30, er30, exr30, rfl⟩ := Z2m r1.1 r30 hr30
             refine zc [] (.p (.agg (ZW r30))) [(Zk (Zm.mk zn r1.2 zb zh zj (Zl.mk z2 z6)) zp zd), (Zq (Z7.mk 0 0 0 0 0 ([] : List Zc) ([] : List Z7)) .nl .nl)] er30<|zq<|zi fun r31 hr31 => ?_
             obtain ⟨qr31, er31, exr31, rfl⟩ := Z4d false ([r30] : List Zc) .sh r31 hr31
             refine zc [] (.p (.agg (ZG r31 .sh .sh))) [(Zk (Zm.mk zn r1.2 zb zh zj (Zl.mk z2 z6)) zp zd), (Zq (Z7.mk 0 0 0 0 0 ([] : List Zc) ([] : List Z7)) .nl .nl)] er31<|zt [(Zk (Zm.mk zn r1.2 zb zh zj (Zl.mk z2 z6)) zp zd), (Zq r31 .sh .sh)] ?_
             exact zr ((.p (.tup [(.agg (ZG r31 .sh .sh)), (.v (.bool true))])), [(Zk (Zm.mk zn r1.2 zb zh zj (Zl.mk z2 z6)) zp zd), (Zq r31 .sh .sh)]) ⟨zd, _, zy, rfl⟩
           ·refine ze<|zq ?_
            refine za (r1.1 == 125) ?_ ?_
            ·refine ze<|zi fun r32 hr32 => ?_
             obtain ⟨qr32, er32, exr32, rfl⟩ := Z1j 20 zu zn r1.2 zb zh zj z2 z6 zp zd zy r32 hr32
             refine zc [0] (.p (.tup [])) [(Zk (Zm.mk zn r32.1 zb zh zj (Zl.mk r32.2.1 r32.2.2)) zp zd), (Zq (Z7.mk 0 0 0 0 0 ([] : List Zc) ([] : List Z7)) .nl .nl)] er32 ?_
             exact zk (Z21 zn r32.1 zb zh zj r32.2.1 r32.2.2 (Z7.mk 0 0 0 0 0 ([] : List Zc) ([] : List Z7)) zp zd .nl .nl zy rfl rfl)
            ·refine ze<|zi fun r33 hr33 => ?_
             obtain ⟨qr33, er33, exr33, rfl⟩ := Z2m r1.1 r33 hr33
             refine zc [] (.p (.agg (ZW r33))) [(Zk (Zm.mk zn r1.2 zb zh zj (Zl.mk z2 z6)) zp zd), (Zq (Z7.mk 0 0 0 0 0 ([] : List Zc) ([] : List Z7)) .nl .nl)] er33<|zq<|zi fun r34 hr34 => ?_
             obtain ⟨qr34, er34, exr34, rfl⟩ := Z4d false ([r33] : List Zc) .sh r34 hr34
             refine zc [] (.p (.agg (ZG r34 .sh .sh))) [(Zk (Zm.mk zn r1.2 zb zh zj (Zl.mk z2 z6)) zp zd), (Zq (Z7.mk 0 0 0 0 0 ([] : List Zc) ([] : List Z7)) .nl .nl)] er34<|zt [(Zk (Zm.mk zn r1.2 zb zh zj (Zl.mk z2 z6)) zp zd), (Zq r34 .sh .sh)] ?_
             exact zr ((.p (.tup [(.agg (ZG r34 .sh .sh)), (.v (.bool true))])), [(Zk (Zm.mk zn r1.2 zb zh zj (Zl.mk z2 z6)) zp zd), (Zq r34 .sh .sh)]) ⟨zd, _, zy, rfl⟩
theorem ZkG (zn : List Int) (zu zb zh : Int) (zj : List Zv) (z2 z6 : Int) {r} (h : Z7L zn zu zb zh zj z2 z6 = some r) : Z9R zn zu zb zh zj z2 z6 = some r :=
 Z1a (fun _ _ ha hb => RRun.uniq (Zl2 _ _) (ha .ex .ex rfl) (hb .ex .ex rfl)) (fun zp zd zy => ZjP zn zu zb zh zj z2 z6 zp zd zy r h)
def Z9G (zn : List Int) (zu : Int) : Option (Int × Int) :=
 (Zen zn zu).bind fun r1 =>
 some (r1.1, (IntKind.i64.wrap (zu + r1.2)))
theorem ZjW zn zu zb zh zj z2 z6 zp zd (zy : ZL zd = true) : Sim (Z7I zn zb zh zj z2 z6 zp zd) (Z9G zn zu) (EE 127 [(.ptr 0 0)] [(Zk (Zm.mk zn zu zb zh zj (Zl.mk z2 z6)) zp zd)]) := by
 unfold Z9G
 refine zf (ZEc ..)<|ze<|ze<|zq<|zq<|zq<|zq<|zq<|zq<|zi fun r1 hr1 => ?_
 obtain ⟨qr1, er1, exr1, rfl⟩ := ZlT zn zu .sh r1 hr1
 refine zc [] (.p (.tup [(.v (.int .i64 r1.1)), (.v (.int .i64 r1.2))])) [(Zk (Zm.mk zn zu zb zh zj (Zl.mk z2 z6)) zp zd)] er1<|zq<|zq<|ze<|zq<|zq<|zq<|zq<|zq<|zq<|zt [(Zk (Zm.mk zn (IntKind.i64.wrap (zu + r1.2)) zb zh zj (Zl.mk z2 z6)) zp zd)]<|ze ?_
 exact zr ((iv r1.1), [(Zk (Zm.mk zn (IntKind.i64.wrap (zu + r1.2)) zb zh zj (Zl.mk z2 z6)) zp zd)]) ⟨_, rfl⟩
theorem ZkK (zn : List Int) (zu : Int) {r} (h : Z9G zn zu = some r) : Z3d zn zu = some r :=
 Z1a (fun _ _ ha hb => RRun.uniq (Zl5 _ _ _ _ _ _ _ _) (ha default default default default default .ex .ex rfl) (hb default default default default default .ex .ex rfl)) (fun zb zh zj z2 z6 zp zd zy => ZjW zn zu zb zh zj z2 z6 zp zd zy r h)
def Zkx (x0 : Int) : Option (Zc) :=
 some (Zc.mk x0 x0)
theorem Zrw x0 : Sim (ZdU) (Zkx x0) (EE 129 [(iv x0)] []) := by
 unfold Zkx
 refine zf (ZEf ..)<|ze<|zz (.ptr 0 0) [(Z2w (Zc.mk 0 0))]<|ze<|zq<|zt [(Z2w (Zc.mk x0 x0))] ?_
 exact zr ((.p (.agg (ZW (Zc.mk x0 x0)))), [(Z2w (Zc.mk x0 x0))]) ⟨_, rfl⟩
theorem ZtL (x0 : Int) {r} (h : Zkx x0 = some r) : Z2u x0 = some r :=
 Z1a (fun _ _ ha hb => RRun.uniq Zul (ha ) (hb )) (Zrw x0 r h)
def ZcZ (x5 : List Zc) : Option (Z7) :=
 some (Z7.mk 1 0 0 0 0 x5 ([] : List Z7))
theorem Zht (x5 : List Zc) b0 ox5 z1R z1z (zD7 : ZL z1R = true) (zBT : ZL z1z = true) : Sim (ZbW) (ZcZ x5) (ZoW 0 (.ptr 0 0) (.p (.lst ox5 (x5.map Zz))) [(Zq b0 z1R z1z)]) := by
 unfold ZcZ
 refine zf (ZyE ..)<|ze<|zq<|zt [(Zq (Z7.mk 1 0 0 0 0 x5 ([] : List Z7)) (shrO (shrO ox5)) .nl)] ?_
 exact zr ((.p (.agg (ZG (Z7.mk 1 0 0 0 0 x5 ([] : List Z7)) .sh .sh))), [(Zq (Z7.mk 1 0 0 0 0 x5 ([] : List Z7)) (shrO (shrO ox5)) .nl)]) ⟨_, rfl⟩
def Zh1 (x0 : Bool) (x1 : List Zc) : Option (Z7) :=
 (ZfC x1).bind fun r1 =>
 if (x0) = true then
 ((Zaj r1.1).bind fun r2 =>
 ZcZ r2.1)
 else
 (ZcZ r1.1)
theorem Zrx x0 (x1 : List Zc) ox1 : Sim (ZbW) (Zh1 x0 x1) (EE 128 [(bv x0), (.p (.lst ox1 (x1.map Zz)))] []) := by
 unfold Zh1
 refine zf (ZEd ..)<|ze<|zz (.ptr 0 0) [(Zq (Z7.mk 0 0 0 0 0 ([] : List Zc) ([] : List Z7)) .nl .nl)]<|ze<|zi fun r1 hr1 => ?_
 obtain ⟨qr1, er1, exr1, rfl⟩ := Zru x1 .sh r1 hr1
 refine zc [] (.p (.tup [(.lst .sh (r1.1.map Zz)), (.v (.int .i64 r1.2))])) [(Zq (Z7.mk 0 0 0 0 0 ([] : List Zc) ([] : List Z7)) .nl .nl)] er1<|zq<|zq<|ze ?_
 refine za x0 ?_ ?_
 ·refine ze<|zi fun r2 hr2 => ?_
  obtain ⟨qr2, er2, exr2, rfl⟩ := Zhm r1.1 .sh r2 hr2
  refine zc [] (.p (.tup [(.lst .sh (r2.1.map Zz)), (.v (.int .i64 r2.2))])) [(Zq (Z7.mk 0 0 0 0 0 ([] : List Zc) ([] : List Z7)) .nl .nl)] er2<|zq<|zq ?_
  exact zk (Zht r2.1 (Z7.mk 0 0 0 0 0 ([] : List Zc) ([] : List Z7)) .sh .nl .nl rfl rfl)
 ·exact zk (Zht r1.1 (Z7.mk 0 0 0 0 0 ([] : List Zc) ([] : List Z7)) .sh .nl .nl rfl rfl)
theorem ZtM (x0 : Bool) (x1 : List Zc) {r} (h : Zh1 x0 x1 = some r) : Z42 x0 x1 = some r :=
 Z1a (fun _ _ ha hb => RRun.uniq Zum (ha .ex) (hb .ex)) (fun ox1 => Zrx x0 x1 ox1 r h)
def Zc4 (x0 : List Zc) : Option ((List Zc) × Int) :=
 (Zd7 x0).bind fun r1 =>
 some (r1, 0)
theorem ZnP (x0 : List Zc) ox0 : Sim (ZaQ) (Zc4 x0) (Zsx 0 (.p (.lst ox0 (x0.map Zz))) []) := by
 unfold Zc4
 refine zf (ZyP ..)<|ze<|zi fun r1 hr1 => ?_
 obtain ⟨qr1, er1, exr1, rfl⟩ := Zi8 x0 .sh r1 hr1
 refine zc [] (.p (.lst .sh (r1.map Zz))) [] er1 ?_
 exact zr ((.p (.tup [(.lst .sh (r1.map Zz)), (.v (.int .i64 0))])), []) ⟨_, rfl⟩
def Zfw (x0 : List Zc) : Option ((List Zc) × Int) :=
 (Z5b x0).bind fun r1 =>
 if (r1) = true then
 (some (([] : List Zc), 13))
 else
 (Zc4 x0)
theorem Zqo (x0 : List Zc) ox0 : Sim (ZaQ) (Zfw x0) (EE 147 [(.p (.lst ox0 (x0.map Zz)))] []) := by
 unfold Zfw
 refine zf (ZEv ..)<|ze<|ze<|zi fun r1 hr1 => ?_
 obtain ⟨qr1, er1, exr1, rfl⟩ := ZdF x0 .sh r1 hr1
 refine zc [] (bv r1) [] er1 ?_
 refine za r1 ?_ ?_
 ·refine ze ?_
  exact zr ((.p (.tup [(.lst .sh []), (.v (.int .i64 13))])), []) ⟨_, rfl⟩
 ·exact zk (ZnP x0 ox0)
theorem Zrt (x0 : List Zc) {r} (h : Zfw x0 = some r) : ZfC x0 = some r :=
 Z1a (fun _ _ ha hb => RRun.uniq Zs6 (ha .ex) (hb .ex)) (fun ox0 => Zqo x0 ox0 r h)
def Z56 (x0 : List Zc) : Option (Bool) :=
 (Z69 x0).bind fun r1 =>
 some (decide (0 ≤ r1))
theorem Zdd (x0 : List Zc) ox0 : Sim (Z44) (Z56 x0) (EE 166 [(.p (.lst ox0 (x0.map Zz))), (.clo 167 [] [])] []) := by
 unfold Z56
 refine zf (ZEO ..)<|ze<|ze<|zi fun r1 hr1 => ?_
 obtain ⟨qr1, er1, exr1, rfl⟩ := Zfn x0 .sh r1 hr1
 refine zc [] (iv r1) [] er1<|zq ?_
 exact zr ((bv (decide (0 ≤ r1))), []) ⟨_, rfl⟩
theorem ZdE (x0 : List Zc) {r} (h : Z56 x0 = some r) : Z5b x0 = some r :=
 Z1a (fun _ _ ha hb => RRun.uniq ZdX (ha .ex) (hb .ex)) (fun ox0 => Zdd x0 ox0 r h)
def Z63 (x0 : List Zc) : Option (Int) :=
 Z4a x0 (x0.length : Int) 0
theorem ZeO (x0 : List Zc) ox0 : Sim (Z2c) (Z63 x0) (EE 179 [(.p (.lst ox0 (x0.map Zz))), (.clo 167 [] [])] []) := by
 unfold Z63
 refine zf (ZF2 ..)<|ze<|ze ?_
 refine zo (iv (x0.length : Int)) ?_ (Eq.trans (by kernel_rfl) (Z38 (P := PP) (t := 94) (d := 201) (by kernel_rfl) Zz (shrO ox0) x0))
 exact zk (Z8Z x0 (x0.length : Int) 0 ox0)
theorem Zfm (x0 : List Zc) {r} (h : Z63 x0 = some r) : Z69 x0 = some r :=
 Z1a (fun _ _ ha hb => RRun.uniq Za6 (ha .ex) (hb .ex)) (fun ox0 => ZeO x0 ox0 r h)
def Z59 (x0 : List Zc) (x7 x8 : Int) : Option (Int) :=
 Z4a x0 x7 (IntKind.i64.wrap (x8 + 1))
theorem Zdk (x0 : List Zc) x7 x8 ox0 : Sim (Z2c) (Z59 x0 x7 x8) (Ztc 0 (.p (.lst ox0 (x0.map Zz))) (.clo 167 [] []) (iv x7) (iv x8) []) := by
 unfold Z59
 refine zf (Zzn ..)<|ze<|zq ?_
 exact zk (Z8Z x0 x7 (IntKind.i64.wrap (x8 + 1)) ox0)
def Z58 (x0 : List Zc) (x7 x8 : Int) : Option (Int) :=
 (lget x0 x8).bind fun a1 =>
 (Zd5 a1).bind fun r2 =>
 if (r2) = true then
 (some (x8))
 else
 (Z59 x0 x7 x8)
theorem Zdj (x0 : List Zc) x7 x8 ox0 : Sim (Z2c) (Z58 x0 x7 x8) (Ztb 0 (.p (.lst ox0 (x0.map Zz))) (.clo 167 [] []) (iv x7) (iv x8) []) := by
 unfold Z58
 refine zf (Zzm ..)<|ze<|ze<|zi fun a1 ha1 => ?_
 refine zo (.cptr (ZW a1)) ?_ (Eq.trans (by kernel_rfl) (Z3Z (o := (shrO ox0)) (k := .i64) (n := 2) (e := Zz) (cs := Z7V) (fun _ => rfl) (fun _ => rfl) (by decide) ha1))
 refine zq<|zi fun r2 hr2 => ?_
 obtain ⟨qr2, er2, exr2, rfl⟩ := Zps a1 r2 hr2
 refine zv [] (bv r2) [] er2 ?_
 refine za r2 ?_ ?_
 ·refine ze ?_
  exact zr ((iv x8), []) ⟨_, rfl⟩
 ·exact zk (Zdk x0 x7 x8 ox0)
def Z7d  : Option (Int) :=
 some (-1)
theorem Zdl  : Sim (Z2c) (Z7d) (Ztd 0  []) := by
 unfold Z7d
 refine zf (Zzo ..)<|ze ?_
 exact zr ((iv (-1)), []) ⟨_, rfl⟩
def Z47 (x0 : List Zc) (x7 x8 : Int) : Option (Int) :=
 if (decide (x8 < x7)) = true then
 (Z58 x0 x7 x8)
 else
 (Z7d)
theorem Zdi (x0 : List Zc) x7 x8 ox0 : Sim (Z2c) (Z47 x0 x7 x8) (ZiT 0 (.p (.lst ox0 (x0.map Zz))) (.clo 167 [] []) (iv x7) (iv x8) []) := by
 unfold Z47
 refine zf (Zzl ..)<|ze<|zq ?_
 refine za (decide (x8 < x7)) ?_ ?_
 ·exact zk (Zdj x0 x7 x8 ox0)
 ·exact zk (Zdl )
theorem Z8Y (x0 : List Zc) (x7 x8 : Int) {r} (h : Z47 x0 x7 x8 = some r) : Z4a x0 x7 x8 = some r :=
 Z1a (fun _ _ ha hb => RRun.uniq Za6 (ha .ex) (hb .ex)) (fun ox0 => Zdi x0 x7 x8 ox0 r h)
def ZcU (x0 : Zc) : Option (Bool) :=
 (Z7R x0).bind fun r1 =>
 some (!r1)
theorem Zoa x0 : Sim (ZaR) (ZcU x0) (EE 167 [(.p (.agg (ZW x0)))] []) := by
 unfold ZcU
 refine zf (ZEP ..)<|ze<|zx (.ptr 0 0) [(Z2w x0)]<|ze<|zq<|zi fun r1 hr1 => ?_
 obtain ⟨qr1, er1, exr1, rfl⟩ := Ze3 x0 r1 hr1
 refine zc [] (bv r1) [(Z2w x0)] er1<|zq ?_
 exact zr ((bv (!r1)), [(Z2w x0)]) ⟨_, rfl⟩
theorem Zpr (x0 : Zc) {r} (h : ZcU x0 = some r) : Zd5 x0 = some r :=
 Z1a (fun _ _ ha hb => RRun.uniq Zq0 (ha ) (hb )) (Zoa x0 r h)
def Z9D (x0 : Zc) : Option (Bool) :=
 if (decide (0 ≤ x0.Lo)) = true then
 (if (decide (x0.Lo ≤ x0.Hi)) = true then
 (some (decide (x0.Hi ≤ 1114367)))
 else
 (some (false)))
 else
 (some (false))
theorem ZjL x0 : Sim (Z7H) (Z9D x0) (EE 168 [(.p (.agg (ZW x0)))] []) := by
 unfold Z9D
 refine zf (ZEQ ..)<|ze<|zx (.ptr 0 0) [(Z2w x0)]<|ze<|zq<|zq<|zq ?_
 refine za (decide (0 ≤ x0.Lo)) ?_ ?_
 ·refine zq<|zq<|zq<|zq<|zq ?_
  refine za (decide (x0.Lo ≤ x0.Hi)) ?_ ?_
  ·refine zq<|zq<|zq ?_
   exact zr ((bv (decide (x0.Hi ≤ 1114367))), [(Z2w x0)]) ⟨_, rfl⟩
  ·exact zr ((bv false), [(Z2w x0)]) ⟨_, rfl⟩
 ·exact zr ((bv false), [(Z2w x0)]) ⟨_, rfl⟩
theorem Zkz (x0 : Zc) {r} (h : Z9D x0 = some r) : Z7R x0 = some r :=
 Z1a (fun _ _ ha hb => RRun.uniq Zl1 (ha ) (hb )) (ZjL x0 r h)
def Za8 (x0 : List Zc) : Option ((List Zc) × Int) :=
 (Zcf x0).bind fun r1 =>
 some (r1, 0)
theorem ZkB (x0 : List Zc) ox0 : Sim (Z8t) (Za8 x0) (Zsy 0 (.p (.lst ox0 (x0.map Zz))) []) := by
 unfold Za8
 refine zf (ZyQ ..)<|ze<|zi fun r1 hr1 => ?_
 obtain ⟨qr1, er1, exr1, rfl⟩ := Zog x0 .sh r1 hr1
 refine zc [] (.p (.lst .sh (r1.map Zz))) [] er1 ?_
 exact zr ((.p (.tup [(.lst .sh (r1.map Zz)), (.v (.int .i64 0))])), []) ⟨_, rfl⟩
def Zc6 (x0 : List Zc) : Option ((List Zc) × Int) :=
 (Z6Y x0).bind fun r1 =>
 if (!r1) = true then
 (some (([] : List Zc), 10))
 else
 (Za8 x0)
theorem ZnR (x0 : List Zc) ox0 : Sim (Z8t) (Zc6 x0) (EE 148 [(.p (.lst ox0 (x0.map Zz)))] []) := by
 unfold Zc6
 refine zf (ZEx ..)<|ze<|ze<|zi fun r1 hr1 => ?_
 obtain ⟨qr1, er1, exr1, rfl⟩ := Zb1 x0 .sh r1 hr1
 refine zc [] (bv r1) [] er1<|zq ?_
 refine za (!r1) ?_ ?_
 ·refine ze ?_
  exact zr ((.p (.tup [(.lst .sh []), (.v (.int .i64 10))])), []) ⟨_, rfl⟩
 ·exact zk (ZkB x0 ox0)
theorem Zod (x0 : List Zc) {r} (h : Zc6 x0 = some r) : Zaj x0 = some r :=
 Z1a (fun _ _ ha hb => RRun.uniq Zpp (ha .ex) (hb .ex)) (fun ox0 => ZnR x0 ox0 r h)
def Za7 (x0 : List Zc) : Option (Bool) :=
 Z6Z (-2) x0 (x0.length : Int) 0
theorem ZkA (x0 : List Zc) ox0 : Sim (Z2Q) (Za7 x0) (EE 170 [(.p (.lst ox0 (x0.map Zz)))] []) := by
 unfold Za7
 refine zf (ZER ..)<|ze<|ze<|ze ?_
 refine zo (iv (x0.length : Int)) ?_ (Eq.trans (by kernel_rfl) (Z38 (P := PP) (t := 95) (d := 201) (by kernel_rfl) Zz (shrO ox0) x0))
 exact zk (Zcl (-2) x0 (x0.length : Int) 0 (shrO ox0))
theorem Zlx (x0 : List Zc) {r} (h : Za7 x0 = some r) : Z6Y x0 = some r :=
 Z1a (fun _ _ ha hb => RRun.uniq Zfr (ha .ex) (hb .ex)) (fun ox0 => ZkA x0 ox0 r h)
def Z8w  : Option (Bool) :=
 some (false)
theorem Zce  : Sim (Z2Q) (Z8w) (Zp4 0  []) := by
 unfold Z8w
 refine zf (Zz9 ..)<|ze ?_
 exact zr ((bv false), []) ⟨_, rfl⟩
def Z8y (x3 : Int) (x6 : List Zc) (x7 x8 : Int) : Option (Bool) :=
 Z6Z x3 x6 x7 (IntKind.i64.wrap (x8 + 1))
theorem Zii x3 (x6 : List Zc) x7 x8 ox6 : Sim (Z2Q) (Z8y x3 x6 x7 x8) (Zt0 0 (iv x3) (.p (.lst ox6 (x6.map Zz))) (iv x7) (iv x8) []) := by
 unfold Z8y
 refine zf (Zzb ..)<|ze<|zq ?_
 exact zk (Zcl x3 x6 x7 (IntKind.i64.wrap (x8 + 1)) ox6)
def Z8x (x6 : List Zc) (x7 x8 : Int) (b0 : Zc) : Option (Bool) :=
 Z8y b0.Hi x6 x7 x8
theorem Zih (x6 : List Zc) x7 x8 b0 ox6 : Sim (Z2Q) (Z8x x6 x7 x8 b0) (ZsZ 0 (.ptr 0 0) (.p (.lst ox6 (x6.map Zz))) (iv x7) (iv x8) [(Z2w b0)]) := by
 unfold Z8x
 refine zf (Zza ..)<|ze<|zq<|zq ?_
 exact zk (Zii b0.Hi x6 x7 x8 ox6)
def Z8v (x3 : Int) (x6 : List Zc) (x7 x8 : Int) : Option (Bool) :=
 (lget x6 x8).bind fun a1 =>
 (Z7R a1).bind fun r2 =>
 if (!r2) = true then
 (Z8w)
 else
 (if (decide (a1.Lo < (IntKind.i64.wrap (x3 + 2)))) = true then
 (Z8w)
 else
 (Z8x x6 x7 x8 a1))
theorem Zig x3 (x6 : List Zc) x7 x8 ox6 : Sim (Z2Q) (Z8v x3 x6 x7 x8) (ZsY 0 (iv x3) (.p (.lst ox6 (x6.map Zz))) (iv x7) (iv x8) []) := by
 unfold Z8v
 refine zf (Zz8 ..)<|ze<|zi fun a1 ha1 => ?_
 refine zo (.cptr (ZW a1)) ?_ (Eq.trans (by kernel_rfl) (Z3Z (o := ox6) (k := .i64) (n := 2) (e := Zz) (cs := Z7V) (fun _ => rfl) (fun _ => rfl) (by decide) ha1))
 refine zq<|zz (.ptr 0 0) [(Z2w (Zc.mk 0 0))]<|zt [(Z2w a1)]<|ze<|zq<|zi fun r2 hr2 => ?_
 obtain ⟨qr2, er2, exr2, rfl⟩ := Ze3 a1 r2 hr2
 refine zc [] (bv r2) [(Z2w a1)] er2<|zq ?_
 refine za (!r2) ?_ ?_
 ·exact zk (Zce )
 ·refine zq<|zq<|zq<|zq ?_
  refine za (decide (a1.Lo < (IntKind.i64.wrap (x3 + 2)))) ?_ ?_
  ·exact zk (Zce )
  ·exact zk (Zih x6 x7 x8 a1 ox6)
def ZaV  : Option (Bool) :=
 some (true)
theorem Zij  : Sim (Z2Q) (ZaV) (Zt1 0  []) := by
 unfold ZaV
 refine zf (Zzc ..)<|ze ?_
 exact zr ((bv true), []) ⟨_, rfl⟩
def Z6P (x3 : Int) (x6 : List Zc) (x7 x8 : Int) : Option (Bool) :=
 if (decide (x8 < x7)) = true then
 (Z8v x3 x6 x7 x8)
 else
 (ZaV)
theorem Zif x3 (x6 : List Zc) x7 x8 ox6 : Sim (Z2Q) (Z6P x3 x6 x7 x8) (ZiR 0 (iv x3) (.p (.lst ox6 (x6.map Zz))) (iv x7) (iv x8) []) := by
 unfold Z6P
 refine zf (Zz7 ..)<|ze<|zq ?_
 refine za (decide (x8 < x7)) ?_ ?_
 ·exact zk (Zig x3 x6 x7 x8 ox6)
 ·exact zk (Zij )
theorem Zck (x3 : Int) (x6 : List Zc) (x7 x8 : Int) {r} (h : Z6P x3 x6 x7 x8 = some r) : Z6Z x3 x6 x7 x8 = some r :=
 Z1a (fun _ _ ha hb => RRun.uniq Zfr (ha .ex) (hb .ex)) (fun ox6 => Zif x3 x6 x7 x8 ox6 r h)
def Zc7 (x0 : List Zc) : Option (List Zc) :=
 Z8n ([] : List Zc) 0 x0 (x0.length : Int) 0
theorem ZnS (x0 : List Zc) ox0 : Sim (Z3o) (Zc7 x0) (EE 171 [(.p (.lst ox0 (x0.map Zz)))] []) := by
 unfold Zc7
 refine zf (ZEV ..)<|ze<|ze<|ze<|ze ?_
 refine zo (iv (x0.length : Int)) ?_ (Eq.trans (by kernel_rfl) (Z38 (P := PP) (t := 95) (d := 201) (by kernel_rfl) Zz (shrO ox0) x0))
 exact zk (Zf4 ([] : List Zc) 0 x0 (x0.length : Int) 0 .nl (shrO ox0) rfl)
theorem Zof (x0 : List Zc) {r} (h : Zc7 x0 = some r) : Zcf x0 = some r :=
 Z1a (fun _ _ ha hb => RRun.uniq Zi4 (ha .ex) (hb .ex)) (fun ox0 => ZnS x0 ox0 r h)
def Zaa (x3 : List Zc) (x4 : Int) (x7 : List Zc) (x8 x9 : Int) : Option (List Zc) :=
 Z8n x3 x4 x7 x8 (IntKind.i64.wrap (x9 + 1))
theorem ZkE (x3 : List Zc) x4 (x7 : List Zc) x8 x9 ox3 ox7 (hox3 : ZL ox3 = true) : Sim (Z3o) (Zaa x3 x4 x7 x8 x9) (Zt4 0 (.p (.lst ox3 (x3.map Zz))) (iv x4) (.p (.lst ox7 (x7.map Zz))) (iv x8) (iv x9) []) := by
 unfold Zaa
 refine zf (Zzg ..)<|ze<|zq ?_
 exact zk (Zf4 x3 x4 x7 x8 (IntKind.i64.wrap (x9 + 1)) ox3 ox7 hox3)
def Z6Q (x3 x7 : List Zc) (x8 x9 : Int) (b0 : Zc) : Option (List Zc) :=
 Zaa x3 (IntKind.i64.wrap (b0.Hi + 1)) x7 x8 x9
theorem Ze4 (x3 x7 : List Zc) x8 x9 b0 ox3 ox7 (hox3 : ZL ox3 = true) : Sim (Z3o) (Z6Q x3 x7 x8 x9 b0) (Zp7 0 (.p (.lst ox3 (x3.map Zz))) (.ptr 0 0) (.p (.lst ox7 (x7.map Zz))) (iv x8) (iv x9) [(Z2w b0)]) := by
 unfold Z6Q
 refine zf (Zzf ..)<|ze<|zq<|zq<|zq ?_
 exact zk (ZkE x3 (IntKind.i64.wrap (b0.Hi + 1)) x7 x8 x9 ox3 ox7 hox3)
def Za9 (x3 : List Zc) (x4 : Int) (x7 : List Zc) (x8 x9 : Int) : Option (List Zc) :=
 (lget x7 x9).bind fun a1 =>
 if (decide (x4 < a1.Lo)) = true then
 ((lapp x3 ([(Zc.mk x4 (IntKind.i64.wrap (a1.Lo - 1)))] : List Zc)).bind fun a2 =>
 Z6Q a2 x7 x8 x9 a1)
 else
 (Z6Q x3 x7 x8 x9 a1)
theorem ZkD (x3 : List Zc) x4 (x7 : List Zc) x8 x9 ox3 ox7 (hox3 : ZL ox3 = true) : Sim (Z3o) (Za9 x3 x4 x7 x8 x9) (Zt3 0 (.p (.lst ox3 (x3.map Zz))) (iv x4) (.p (.lst ox7 (x7.map Zz))) (iv x8) (iv x9) []) := by
 unfold Za9
 refine zf (Zze ..)<|ze<|zi fun a1 ha1 => ?_
 refine zo (.cptr (ZW a1)) ?_ (Eq.trans (by kernel_rfl) (Z3Z (o := ox7) (k := .i64) (n := 2) (e := Zz) (cs := Z7V) (fun _ => rfl) (fun _ => rfl) (by decide) ha1))
 refine zq<|zz (.ptr 0 0) [(Z2w (Zc.mk 0 0))]<|zt [(Z2w a1)]<|ze<|zq<|zq<|zq ?_
 refine za (decide (x4 < a1.Lo)) ?_ ?_
 ·refine ze<|zq<|zq<|zq<|zq<|zq<|zi fun a2 ha2 => ?_
  refine zo (.p (.lst .un (a2.map Zz))) ?_ (Eq.trans (by kernel_rfl) <| Zj5 (n := 2) (o := ox3) (o' := .ex) (e := Zz) (ys := ([(Zc.mk x4 (IntKind.i64.wrap (a1.Lo - 1)))] : List Zc)) (fun _ => rfl) (by decide) hox3 ha2)
  exact zk (Ze4 a2 x7 x8 x9 a1 .un ox7 rfl)
 ·exact zk (Ze4 x3 x7 x8 x9 a1 ox3 ox7 hox3)
def Z6t (x3 : List Zc) : Option (List Zc) :=
 some (x3)
theorem Zdt (x3 : List Zc) ox3 (hox3 : ZL ox3 = true) : Sim (Z3o) (Z6t x3) (Zmt 0 (.p (.lst ox3 (x3.map Zz))) []) := by
 unfold Z6t
 refine zf (Zxi ..)<|ze ?_
 exact zr ((.p (.lst .sh (x3.map Zz))), []) ⟨_, rfl⟩
def Z9E (x3 : List Zc) (x4 : Int) : Option (List Zc) :=
 if (decide (x4 ≤ 1114367)) = true then
 ((lapp x3 ([(Zc.mk x4 1114367)] : List Zc)).bind fun a1 =>
 Z6t a1)
 else
 (Z6t x3)
theorem ZjM (x3 : List Zc) x4 ox3 (hox3 : ZL ox3 = true) : Sim (Z3o) (Z9E x3 x4) (Zqm 0 (.p (.lst ox3 (x3.map Zz))) (iv x4) []) := by
 unfold Z9E
 refine zf (Zxh ..)<|ze<|zq ?_
 refine za (decide (x4 ≤ 1114367)) ?_ ?_
 ·refine ze<|zq<|zq<|zi fun a1 ha1 => ?_
  refine zo (.p (.lst .un (a1.map Zz))) ?_ (Eq.trans (by kernel_rfl) <| Zj5 (n := 2) (o := ox3) (o' := .ex) (e := Zz) (ys := ([(Zc.mk x4 1114367)] : List Zc)) (fun _ => rfl) (by decide) hox3 ha1)
  exact zk (Zdt a1 .un rfl)
 ·exact zk (Zdt x3 ox3 hox3)
def Z8i (x3 : List Zc) (x4 : Int) (x7 : List Zc) (x8 x9 : Int) : Option (List Zc) :=
 if (decide (x9 < x8)) = true then
 (Za9 x3 x4 x7 x8 x9)
 else
 (Z9E x3 x4)
theorem ZkC (x3 : List Zc) x4 (x7 : List Zc) x8 x9 ox3 ox7 (hox3 : ZL ox3 = true) : Sim (Z3o) (Z8i x3 x4 x7 x8 x9) (ZiS 0 (.p (.lst ox3 (x3.map Zz))) (iv x4) (.p (.lst ox7 (x7.map Zz))) (iv x8) (iv x9) []) := by
 unfold Z8i
 refine zf (Zzd ..)<|ze<|zq ?_
 refine za (decide (x9 < x8)) ?_ ?_
 ·exact zk (ZkD x3 x4 x7 x8 x9 ox3 ox7 hox3)
 ·exact zk (ZjM x3 x4 ox3 hox3)
theorem Zf3 (x3 : List Zc) (x4 : Int) (x7 : List Zc) (x8 x9 : Int) {r} (h : Z8i x3 x4 x7 x8 x9 = some r) : Z8n x3 x4 x7 x8 x9 = some r :=
 Z1a (fun _ _ ha hb => RRun.uniq Zi4 (ha .ex .ex rfl) (hb .ex .ex rfl)) (fun ox3 ox7 hox3 => ZkC x3 x4 x7 x8 x9 ox3 ox7 hox3 r h)
def Z5j (x1 x5 zu : Int) (zj : List Zv) (z2 z6 : Int) : Option (Z7 × Int × (List Zv) × Int × Int) :=
 (lapp zj ([(Zv.mk (IntKind.i64.wrap (x5 - 48)) x1)] : List Zv)).bind fun a1 =>
 some ((Z7.mk 6 0 0 0 (IntKind.i64.wrap (x5 - 48)) ([] : List Zc) ([] : List Z7)), zu, a1, z2, z6)
theorem Zg5 x1 x5 zn zu zb zh zj z2 z6 b1 zp zd zH zE (zy : ZL zd = true) (z18 : ZL zH = true) (z10 : ZL zE = true) : Sim (Z3W zn zb zh zp) (Z5j x1 x5 zu zj z2 z6) (Zqb 1 (.ptr 0 0) (iv x1) (.ptr 1 0) (iv x5) [(Zk (Zm.mk zn zu zb zh zj (Zl.mk z2 z6)) zp zd), (Zq b1 zH zE)]) := by
 unfold Z5j
 refine zf (ZwW ..)<|ze<|zq<|zq<|zw (.p (.lst zd (zj.map Z2H))) [(Zk (Zm.mk zn zu zb zh zj (Zl.mk z2 z6)) zp (shrO zd)), (Zq b1 zH zE)]<|zq<|zq<|zq<|zi fun a1 ha1 => ?_
 refine zo (.p (.lst .un (a1.map Z2H))) ?_ (Eq.trans (by kernel_rfl) <| Zj5 (n := 2) (o := zd) (o' := .ex) (e := Z2H) (ys := ([(Zv.mk (IntKind.i64.wrap (x5 - 48)) x1)] : List Zv)) (fun _ => rfl) (by decide) zy ha1)
 refine zq<|zq<|zt [(Zk (Zm.mk zn zu zb zh a1 (Zl.mk z2 z6)) zp .un), (Zq b1 zH zE)]<|ze<|zq<|zq<|zt [(Zk (Zm.mk zn zu zb zh a1 (Zl.mk z2 z6)) zp .un), (Zq (Z7.mk 6 0 0 0 (IntKind.i64.wrap (x5 - 48)) ([] : List Zc) ([] : List Z7)) .nl .nl)] ?_
 exact zr ((.p (.agg (ZG (Z7.mk 6 0 0 0 (IntKind.i64.wrap (x5 - 48)) ([] : List Zc) ([] : List Z7)) .sh .sh))), [(Zk (Zm.mk zn zu zb zh a1 (Zl.mk z2 z6)) zp .un), (Zq (Z7.mk 6 0 0 0 (IntKind.i64.wrap (x5 - 48)) ([] : List Zc) ([] : List Z7)) .nl .nl)]) ⟨.un, _, rfl, rfl⟩
def Z3f (x1 x5 : Int) (zn : List Int) (zu zb zh : Int) (zj : List Zv) (z2 z6 : Int) : Option (Z7 × Int × (List Zv) × Int × Int) :=
 (Z7v x5 x1 zn zu zb zh zj z2 z6).bind fun r1 =>
 (Z2u r1.1).bind fun r2 =>
 (Z42 false ([r2] : List Zc)).bind fun r3 =>
 some (r3, r1.2.1, zj, r1.2.2.1, r1.2.2.2)
theorem Zaw x1 x5 zn zu zb zh zj z2 z6 b1 zp zd zH zE (zy : ZL zd = true) (z18 : ZL zH = true) (z10 : ZL zE = true) : Sim (Z3W zn zb zh zp) (Z3f x1 x5 zn zu zb zh zj z2 z6) (Zmn 1 (.ptr 0 0) (iv x1) (.ptr 1 0) (iv x5) [(Zk (Zm.mk zn zu zb zh zj (Zl.mk z2 z6)) zp zd), (Zq b1 zH zE)]) := by
 unfold Z3f
 refine zf (ZwX ..)<|ze<|zi fun r1 hr1 => ?_
 obtain ⟨qr1, er1, exr1, rfl⟩ := Zdu x5 x1 zn zu zb zh zj z2 z6 zp zd zy r1 hr1
 refine zc [0] (iv r1.1) [(Zk (Zm.mk zn r1.2.1 zb zh zj (Zl.mk r1.2.2.1 r1.2.2.2)) zp zd), (Zq b1 zH zE)] er1<|zi fun r2 hr2 => ?_
 obtain ⟨qr2, er2, exr2, rfl⟩ := Z2m r1.1 r2 hr2
 refine zc [] (.p (.agg (ZW r2))) [(Zk (Zm.mk zn r1.2.1 zb zh zj (Zl.mk r1.2.2.1 r1.2.2.2)) zp zd), (Zq b1 zH zE)] er2<|zq<|zi fun r3 hr3 => ?_
 obtain ⟨qr3, er3, exr3, rfl⟩ := Z4d false ([r2] : List Zc) .sh r3 hr3
 refine zc [] (.p (.agg (ZG r3 .sh .sh))) [(Zk (Zm.mk zn r1.2.1 zb zh zj (Zl.mk r1.2.2.1 r1.2.2.2)) zp zd), (Zq b1 zH zE)] er3<|zt [(Zk (Zm.mk zn r1.2.1 zb zh zj (Zl.mk r1.2.2.1 r1.2.2.2)) zp zd), (Zq r3 .sh .sh)] ?_
 exact zr ((.p (.agg (ZG r3 .sh .sh))), [(Zk (Zm.mk zn r1.2.1 zb zh zj (Zl.mk r1.2.2.1 r1.2.2.2)) zp zd), (Zq r3 .sh .sh)]) ⟨zd, _, zy, rfl⟩
def Z3m (x1 x5 : Int) (zn : List Int) (zu zb zh : Int) (zj : List Zv) (z2 z6 : Int) : Option (Z7 × Int × (List Zv) × Int × Int) :=
 (Z3d zn zu).bind fun r1 =>
 (Z7C x5).bind fun r2 =>
 (nilO r2.1 r2.2).bind fun a3 =>
 if (!a3) = true then
 ((Z7C x5).bind fun r4 =>
 (Z42 (decide (x5 < 97)) r4.2).bind fun r5 =>
 some (r5, r1.2, zj, z2, z6))
 else
 (if (x5 == 98) = true then
 (some ((Z7.mk 9 0 0 0 2 ([] : List Zc) ([] : List Z7)), r1.2, zj, z2, z6))
 else
 (if (x5 == 66) = true then
 (some ((Z7.mk 9 0 0 0 3 ([] : List Zc) ([] : List Z7)), r1.2, zj, z2, z6))
 else
 (if (decide (49 ≤ x5)) = true then
 (if (decide (x5 ≤ 57)) = true then
 (Z5j x1 x5 r1.2 zj z2 z6)
 else
 (Z3f x1 x5 zn r1.2 zb zh zj z2 z6))
 else
 (Z3f x1 x5 zn r1.2 zb zh zj z2 z6))))
theorem ZgF x1 x5 zn zu zb zh zj z2 z6 b1 zp zd zH zE (zy : ZL zd = true) (z18 : ZL zH = true) (z10 : ZL zE = true) : Sim (Z3W zn zb zh zp) (Z3m x1 x5 zn zu zb zh zj z2 z6) (Zsp 1 (.ptr 0 0) (iv x1) (.ptr 1 0) (iv x5) [(Zk (Zm.mk zn zu zb zh zj (Zl.mk z2 z6)) zp zd), (Zq b1 zH zE)]) := by
 unfold Z3m
 refine zf (ZyF ..)<|ze<|zi fun r1 hr1 => ?_
 obtain ⟨qr1, er1, exr1, rfl⟩ := Z3L zn zu zb zh zj z2 z6 zp zd zy r1 hr1
 refine zc [0] (iv r1.1) [(Zk (Zm.mk zn r1.2 zb zh zj (Zl.mk z2 z6)) zp zd), (Zq b1 zH zE)] er1<|ze<|zi fun r2 hr2 => ?_
 obtain ⟨qr2, er2, exr2, rfl⟩ := ZbE x5 r2 hr2
 refine zc [] (.p (.lst r2.1 (r2.2.map Zz))) [(Zk (Zm.mk zn r1.2 zb zh zj (Zl.mk z2 z6)) zp zd), (Zq b1 zH zE)] er2<|zi fun a3 ha3 => ?_
 refine zo (bv (!a3)) ?_ (Eq.trans (by kernel_rfl) (ZnC (P := PP) (t := 94) (c := .slice none 0 0) (e := Zz) (by kernel_rfl) ha3))
 refine za (!a3) ?_ ?_
 ·refine ze<|zq<|zi fun r4 hr4 => ?_
  obtain ⟨qr4, er4, exr4, rfl⟩ := ZbE x5 r4 hr4
  refine zc [] (.p (.lst r4.1 (r4.2.map Zz))) [(Zk (Zm.mk zn r1.2 zb zh zj (Zl.mk z2 z6)) zp zd), (Zq b1 zH zE)] er4<|zi fun r5 hr5 => ?_
  obtain ⟨qr5, er5, exr5, rfl⟩ := Z4d (decide (x5 < 97)) r4.2 .sh r5 hr5
  refine zc [] (.p (.agg (ZG r5 .sh .sh))) [(Zk (Zm.mk zn r1.2 zb zh zj (Zl.mk z2 z6)) zp zd), (Zq b1 zH zE)] er5<|zt [(Zk (Zm.mk zn r1.2 zb zh zj (Zl.mk z2 z6)) zp zd), (Zq r5 .sh .sh)] ?_
  exact zr ((.p (.agg (ZG r5 .sh .sh))), [(Zk (Zm.mk zn r1.2 zb zh zj (Zl.mk z2 z6)) zp zd), (Zq r5 .sh .sh)]) ⟨zd, _, zy, rfl⟩
 ·refine ze<|zq ?_
  refine za (x5 == 98) ?_ ?_
  ·refine ze<|zq<|zt [(Zk (Zm.mk zn r1.2 zb zh zj (Zl.mk z2 z6)) zp zd), (Zq (Z7.mk 9 0 0 0 2 ([] : List Zc) ([] : List Z7)) .nl .nl)] ?_
   exact zr ((.p (.agg (ZG (Z7.mk 9 0 0 0 2 ([] : List Zc) ([] : List Z7)) .sh .sh))), [(Zk (Zm.mk zn r1.2 zb zh zj (Zl.mk z2 z6)) zp zd), (Zq (Z7.mk 9 0 0 0 2 ([] : List Zc) ([] : List Z7)) .nl .nl)]) ⟨zd, _, zy, rfl⟩
  ·refine ze<|zq ?_
   refine za (x5 == 66) ?_ ?_
   ·refine ze<|zq<|zt [(Zk (Zm.mk zn r1.2 zb zh zj (Zl.mk z2 z6)) zp zd), (Zq (Z7.mk 9 0 0 0 3 ([] : List Zc) ([] : List Z7)) .nl .nl)] ?_
    exact zr ((.p (.agg (ZG (Z7.mk 9 0 0 0 3 ([] : List Zc) ([] : List Z7)) .sh .sh))), [(Zk (Zm.mk zn r1.2 zb zh zj (Zl.mk z2 z6)) zp zd), (Zq (Z7.mk 9 0 0 0 3 ([] : List Zc) ([] : List Z7)) .nl .nl)]) ⟨zd, _, zy, rfl⟩
   ·refine ze<|zq ?_
    refine za (decide (49 ≤ x5)) ?_ ?_
    ·refine zq ?_
     refine za (decide (x5 ≤ 57)) ?_ ?_
     ·exact zk (Zg5 x1 x5 zn r1.2 zb zh zj z2 z6 b1 zp zd zH zE zy z18 z10)
     ·exact zk (Zaw x1 x5 zn r1.2 zb zh zj z2 z6 b1 zp zd zH zE zy z18 z10)
    ·exact zk (Zaw x1 x5 zn r1.2 zb zh zj z2 z6 b1 zp zd zH zE zy z18 z10)
def Z5y (x1 : Int) (zn : List Int) (zu zb zh : Int) (zj : List Zv) (z2 z6 : Int) : Option (Z7 × Int × (List Zv) × Int × Int) :=
 (Z2C (Zm.mk zn zu zb zh zj (Zl.mk z2 z6))).bind fun r1 =>
 if (decide (r1 < 0)) = true then
 ((Z1g 21 x1 zn z2 z6).bind fun r2 =>
 some ((Z7.mk 0 0 0 0 0 ([] : List Zc) ([] : List Z7)), r2.1, zj, r2.2.1, r2.2.2))
 else
 (Z3m x1 r1 zn zu zb zh zj z2 z6)
theorem Ziu x1 zn zu zb zh zj z2 z6 zp zd (zy : ZL zd = true) : Sim (Z3W zn zb zh zp) (Z5y x1 zn zu zb zh zj z2 z6) (EE 130 [(.ptr 0 0), (iv x1)] [(Zk (Zm.mk zn zu zb zh zj (Zl.mk z2 z6)) zp zd)]) := by
 unfold Z5y
 refine zf (ZEg ..)<|ze<|zz (.ptr 1 0) [(Zk (Zm.mk zn zu zb zh zj (Zl.mk z2 z6)) zp zd), (Zq (Z7.mk 0 0 0 0 0 ([] : List Zc) ([] : List Z7)) .nl .nl)]<|ze<|zi fun r1 hr1 => ?_
 obtain ⟨qr1, er1, exr1, rfl⟩ := Z2L (Zm.mk zn zu zb zh zj (Zl.mk z2 z6)) zp zd zy r1 hr1
 refine zc [0] (iv r1) [(Zk (Zm.mk zn zu zb zh zj (Zl.mk z2 z6)) zp zd), (Zq (Z7.mk 0 0 0 0 0 ([] : List Zc) ([] : List Z7)) .nl .nl)] er1<|ze<|zq ?_
 refine za (decide (r1 < 0)) ?_ ?_
 ·refine ze<|zi fun r2 hr2 => ?_
  obtain ⟨qr2, er2, exr2, rfl⟩ := Z1j 21 x1 zn zu zb zh zj z2 z6 zp zd zy r2 hr2
  refine zc [0] (.p (.tup [])) [(Zk (Zm.mk zn r2.1 zb zh zj (Zl.mk r2.2.1 r2.2.2)) zp zd), (Zq (Z7.mk 0 0 0 0 0 ([] : List Zc) ([] : List Z7)) .nl .nl)] er2<|ze<|zq<|zt [(Zk (Zm.mk zn r2.1 zb zh zj (Zl.mk r2.2.1 r2.2.2)) zp zd), (Zq (Z7.mk 0 0 0 0 0 ([] : List Zc) ([] : List Z7)) .nl .nl)] ?_
  exact zr ((.p (.agg (ZG (Z7.mk 0 0 0 0 0 ([] : List Zc) ([] : List Z7)) .sh .sh))), [(Zk (Zm.mk zn r2.1 zb zh zj (Zl.mk r2.2.1 r2.2.2)) zp zd), (Zq (Z7.mk 0 0 0 0 0 ([] : List Zc) ([] : List Z7)) .nl .nl)]) ⟨zd, _, zy, rfl⟩
 ·exact zk (ZgF x1 r1 zn zu zb zh zj z2 z6 (Z7.mk 0 0 0 0 0 ([] : List Zc) ([] : List Z7)) zp zd .nl .nl zy rfl rfl)
theorem Zjn (x1 : Int) (zn : List Int) (zu zb zh : Int) (zj : List Zv) (z2 z6 : Int) {r} (h : Z5y x1 zn zu zb zh zj z2 z6 = some r) : Z4J x1 zn zu zb zh zj z2 z6 = some r :=
 Z1a (fun _ _ ha hb => RRun.uniq (ZjG _ _ _ _) (ha .ex .ex rfl) (hb .ex .ex rfl)) (fun zp zd zy => Ziu x1 zn zu zb zh zj z2 z6 zp zd zy r h)
end Go.Proofs.YteoeggbihfnbfaaGreatDoor.N2
end
noncomputable section
set_option linter.unusedSimpArgs false
set_option linter.unusedVariables false
namespace Go.Proofs.YteoeggbihfnbfaaGreatDoor.N2
open Go Go.Abs
set_option linter.unusedVariables false
set_option maxRecDepth 100000
def Z5c (zn : List Int) (z2 z6 : Int) : Option (Int × Int × Int) :=
 some ((zn.length : Int), z2, z6)
theorem ZbQ zn zu zb zh zj z2 z6 zp zd (zy : ZL zd = true) : Sim (Z6r zn zb zh zj zp zd) (Z5c zn z2 z6) (Zrl 1 (.ptr 0 0) [(Zk (Zm.mk zn zu zb zh zj (Zl.mk z2 z6)) zp zd)]) := by
 unfold Z5c
 refine zf (ZBq ..)<|ze<|zq<|zq<|zq ?_
 refine zo (iv (zn.length : Int)) ?_ (Eq.trans (by kernel_rfl) (Z38 (P := PP) (t := 141) (d := 5) (by kernel_rfl) (eI .u8) (shrO zp) zn))
 refine zq<|zq<|zt [(Zk (Zm.mk zn (zn.length : Int) zb zh zj (Zl.mk z2 z6)) zp zd)] ?_
 exact zr ((.p (.tup [])), [(Zk (Zm.mk zn (zn.length : Int) zb zh zj (Zl.mk z2 z6)) zp zd)]) ⟨_, rfl⟩
def Z7M (x1 x2 : Int) (zn : List Int) (z2 z6 : Int) : Option (Int × Int × Int) :=
 if (z2 == 0) = true then
 (Z5c zn x1 x2)
 else
 (Z5c zn z2 z6)
theorem ZjS x1 x2 zn zu zb zh zj z2 z6 zp zd (zy : ZL zd = true) : Sim (Z6r zn zb zh zj zp zd) (Z7M x1 x2 zn z2 z6) (EE 70 [(.ptr 0 0), (iv x1), (iv x2)] [(Zk (Zm.mk zn zu zb zh zj (Zl.mk z2 z6)) zp zd)]) := by
 unfold Z7M
 refine zf (ZGK ..)<|ze<|zq<|zq<|zq<|zq<|zq ?_
 refine za (z2 == 0) ?_ ?_
 ·refine ze<|zq<|zq<|zq<|zt [(Zk (Zm.mk zn zu zb zh zj (Zl.mk x1 x2)) zp zd)] ?_
  exact zk (ZbQ zn zu zb zh zj x1 x2 zp zd zy)
 ·exact zk (ZbQ zn zu zb zh zj z2 z6 zp zd zy)
theorem Ze6 (x1 x2 : Int) (zn : List Int) (z2 z6 : Int) {r} (h : Z7M x1 x2 zn z2 z6 = some r) : Z1g x1 x2 zn z2 z6 = some r :=
 Z1a (fun _ _ ha hb => RRun.uniq (Zl3 _ _ _ _ _ _) (ha default default default default .ex .ex rfl) (hb default default default default .ex .ex rfl)) (fun zu zb zh zj zp zd zy => ZjS x1 x2 zn zu zb zh zj z2 z6 zp zd zy r h)
def Z2S  : Option (Own × (List Zc)) :=
 some (.nl, ([] : List Zc))
theorem Z3g  : Sim (Z7y) (Z2S) (Zaq 0  []) := by
 unfold Z2S
 refine zf (Zxd ..)<|ze ?_
 exact zr ((.p (.lst .nl [])), []) ⟨_, rfl⟩
def Z40 (x0 : Int) : Option (Own × (List Zc)) :=
 if (x0 == 100) = true then
 (if (x0 == 100) = true then
 (some (.ex, ([(Zc.mk 48 57)] : List Zc)))
 else
 (if (x0 == 119) = true then
 (if (x0 == 119) = true then
 ((Z2u 95).bind fun r1 =>
 some (.ex, ([(Zc.mk 48 57), (Zc.mk 65 90), r1, (Zc.mk 97 122)] : List Zc)))
 else
 (if (x0 == 115) = true then
 (if (x0 == 115) = true then
 ((Z2u 32).bind fun r2 =>
 some (.ex, ([(Zc.mk 9 13), r2] : List Zc)))
 else
 (Z2S))
 else
 (if (x0 == 83) = true then
 ((Z2u 32).bind fun r3 =>
 some (.ex, ([(Zc.mk 9 13), r3] : List Zc)))
 else
 (Z2S))))
 else
 (if (x0 == 87) = true then
 ((Z2u 95).bind fun r4 =>
 some (.ex, ([(Zc.mk 48 57), (Zc.mk 65 90), r4, (Zc.mk 97 122)] : List Zc)))
 else
 (if (x0 == 115) = true then
 (if (x0 == 115) = true then
 ((Z2u 32).bind fun r5 =>
 some (.ex, ([(Zc.mk 9 13), r5] : List Zc)))
 else
 (Z2S))
 else
 (if (x0 == 83) = true then
 ((Z2u 32).bind fun r6 =>
 some (.ex, ([(Zc.mk 9 13), r6] : List Zc)))
 else
 (Z2S))))))
 else
 (if (x0 == 68) = true then
 (some (.ex, ([(Zc.mk 48 57)] : List Zc)))
 else
 (if (x0 == 119) = true then
 (if (x0 == 119) = true then
 ((Z2u 95).bind fun r7 =>
 some (.ex, ([(Zc.mk 48 57), (Zc.mk 65 90), r7, (Zc.mk 97 122)] : List Zc)))
 else
 (if (x0 == 115) = true then
 (if (x0 == 115) = true then
 ((Z2u 32).bind fun r8 =>
 some (.ex, ([(Zc.mk 9 13), r8] : List Zc)))
 else
 (Z2S))
 else
 (if (x0 == 83) = true then
 ((Z2u 32).bind fun r9 =>
 some (.ex, ([(Zc.mk 9 13), r9] : List Zc)))
 else
 (Z2S))))
 else
 (if (x0 == 87) = true then
 ((Z2u 95).bind fun r10 =>
 some (.ex, ([(Zc.mk 48 57), (Zc.mk 65 90), r10, (Zc.mk 97 122)] : List Zc)))
 else
 (if (x0 == 115) = true then
 (if (x0 == 115) = true then
 ((Z2u 32).bind fun r11 =>
 some (.ex, ([(Zc.mk 9 13), r11] : List Zc)))
 else
 (Z2S))
 else
 (if (x0 == 83) = true then
 ((Z2u 32).bind fun r12 =>
 some (.ex, ([(Zc.mk 9 13), r12] : List Zc)))
 else
 (Z2S))))))
theorem ZlE x0 : Sim (Z7y) (Z40 x0) (EE 149 [(iv x0)] []) := by
 unfold Z40
 refine zf (ZEz ..)<|ze<|ze<|ze<|zq ?_
 refine za (x0 == 100) ?_ ?_
 ·refine za (x0 == 100) ?_ ?_
  ·refine ze<|zq<|zq ?_
   exact zr ((.p (.lst .ex (([(Zc.mk 48 57)] : List Zc).map Zz))), []) ⟨_, rfl⟩
  ·refine ze<|zq ?_
   refine za (x0 == 119) ?_ ?_
   ·refine za (x0 == 119) ?_ ?_
    ·refine ze<|zq<|zq<|zi fun r1 hr1 => ?_
     obtain ⟨qr1, er1, exr1, rfl⟩ := Z2m 95 r1 hr1
     refine zc [] (.p (.agg (ZW r1))) [] er1<|zq<|zq ?_
     exact zr ((.p (.lst .ex (([(Zc.mk 48 57), (Zc.mk 65 90), r1, (Zc.mk 97 122)] : List Zc).map Zz))), []) ⟨_, rfl⟩
    ·refine ze<|zq ?_
     refine za (x0 == 115) ?_ ?_
     ·refine za (x0 == 115) ?_ ?_
      ·refine ze<|zq<|zi fun r2 hr2 => ?_
       obtain ⟨qr2, er2, exr2, rfl⟩ := Z2m 32 r2 hr2
       refine zc [] (.p (.agg (ZW r2))) [] er2<|zq ?_
       exact zr ((.p (.lst .ex (([(Zc.mk 9 13), r2] : List Zc).map Zz))), []) ⟨_, rfl⟩
      ·exact zk (Z3g )
     ·refine ze<|zq ?_
      refine za (x0 == 83) ?_ ?_
      ·refine ze<|zq<|zi fun r3 hr3 => ?_
       obtain ⟨qr3, er3, exr3, rfl⟩ := Z2m 32 r3 hr3
       refine zc [] (.p (.agg (ZW r3))) [] er3<|zq ?_
       exact zr ((.p (.lst .ex (([(Zc.mk 9 13), r3] : List Zc).map Zz))), []) ⟨_, rfl⟩
      ·exact zk (Z3g )
   ·refine ze<|zq ?_
    refine za (x0 == 87) ?_ ?_
    ·refine ze<|zq<|zq<|zi fun r4 hr4 => ?_
     obtain ⟨qr4, er4, exr4, rfl⟩ := Z2m 95 r4 hr4
     refine zc [] (.p (.agg (ZW r4))) [] er4<|zq<|zq ?_
     exact zr ((.p (.lst .ex (([(Zc.mk 48 57), (Zc.mk 65 90), r4, (Zc.mk 97 122)] : List Zc).map Zz))), []) ⟨_, rfl⟩
    ·refine ze<|zq ?_
     refine za (x0 == 115) ?_ ?_
     ·refine za (x0 == 115) ?_ ?_
      ·refine ze<|zq<|zi fun r5 hr5 => ?_
       obtain ⟨qr5, er5, exr5, rfl⟩ := Z2m 32 r5 hr5
       refine zc [] (.p (.agg (ZW r5))) [] er5<|zq ?_
       exact zr ((.p (.lst .ex (([(Zc.mk 9 13), r5] : List Zc).map Zz))), []) ⟨_, rfl⟩
      ·exact zk (Z3g )
     ·refine ze<|zq ?_
      refine za (x0 == 83) ?_ ?_
      ·refine ze<|zq<|zi fun r6 hr6 => ?_
       obtain ⟨qr6, er6, exr6, rfl⟩ := Z2m 32 r6 hr6
       refine zc [] (.p (.agg (ZW r6))) [] er6<|zq ?_
       exact zr ((.p (.lst .ex (([(Zc.mk 9 13), r6] : List Zc).map Zz))), []) ⟨_, rfl⟩
      ·exact zk (Z3g )
 ·refine ze<|zq ?_
  refine za (x0 == 68) ?_ ?_
  ·refine ze<|zq<|zq ?_
   exact zr ((.p (.lst .ex (([(Zc.mk 48 57)] : List Zc).map Zz))), []) ⟨_, rfl⟩
  ·refine ze<|zq ?_
   refine za (x0 == 119) ?_ ?_
   ·refine za (x0 == 119) ?_ ?_
    ·refine ze<|zq<|zq<|zi fun r7 hr7 => ?_
     obtain ⟨qr7, er7, exr7, rfl⟩ := Z2m 95 r7 hr7
     refine zc [] (.p (.agg (ZW r7))) [] er7<|zq<|zq ?_
     exact zr ((.p (.lst .ex (([(Zc.mk 48 57), (Zc.mk 65 90), r7, (Zc.mk 97 122)] : List Zc).map Zz))), []) ⟨_, rfl⟩
    ·refine ze<|zq ?_
     refine za (x0 == 115) ?_ ?_
     ·refine za (x0 == 115) ?_ ?_
      ·refine ze<|zq<|zi fun r8 hr8 => ?_
       obtain ⟨qr8, er8, exr8, rfl⟩ := Z2m 32 r8 hr8
       refine zc [] (.p (.agg (ZW r8))) [] er8<|zq ?_
       exact zr ((.p (.lst .ex (([(Zc.mk 9 13), r8] : List Zc).map Zz))), []) ⟨_, rfl⟩
      ·exact zk (Z3g )
     ·refine ze<|zq ?_
      refine za (x0 == 83) ?_ ?_
      ·refine ze<|zq<|zi fun r9 hr9 => ?_
       obtain ⟨qr9, er9, exr9, rfl⟩ := Z2m 32 r9 hr9
       refine zc [] (.p (.agg (ZW r9))) [] er9<|zq ?_
       exact zr ((.p (.lst .ex (([(Zc.mk 9 13), r9] : List Zc).map Zz))), []) ⟨_, rfl⟩
      ·exact zk (Z3g )
   ·refine ze<|zq ?_
    refine za (x0 == 87) ?_ ?_
    ·refine ze<|zq<|zq<|zi fun r10 hr10 => ?_
     obtain ⟨qr10, er10, exr10, rfl⟩ := Z2m 95 r10 hr10
     refine zc [] (.p (.agg (ZW r10))) [] er10<|zq<|zq ?_
     exact zr ((.p (.lst .ex (([(Zc.mk 48 57), (Zc.mk 65 90), r10, (Zc.mk 97 122)] : List Zc).map Zz))), []) ⟨_, rfl⟩
    ·refine ze<|zq ?_
     refine za (x0 == 115) ?_ ?_
     ·refine za (x0 == 115) ?_ ?_
      ·refine ze<|zq<|zi fun r11 hr11 => ?_
       obtain ⟨qr11, er11, exr11, rfl⟩ := Z2m 32 r11 hr11
       refine zc [] (.p (.agg (ZW r11))) [] er11<|zq ?_
       exact zr ((.p (.lst .ex (([(Zc.mk 9 13), r11] : List Zc).map Zz))), []) ⟨_, rfl⟩
      ·exact zk (Z3g )
     ·refine ze<|zq ?_
      refine za (x0 == 83) ?_ ?_
      ·refine ze<|zq<|zi fun r12 hr12 => ?_
       obtain ⟨qr12, er12, exr12, rfl⟩ := Z2m 32 r12 hr12
       refine zc [] (.p (.agg (ZW r12))) [] er12<|zq ?_
       exact zr ((.p (.lst .ex (([(Zc.mk 9 13), r12] : List Zc).map Zz))), []) ⟨_, rfl⟩
      ·exact zk (Z3g )
theorem ZmE (x0 : Int) {r} (h : Z40 x0 = some r) : Z7C x0 = some r :=
 Z1a (fun _ _ ha hb => RRun.uniq ZnI (ha ) (hb )) (ZlE x0 r h)
def Z2Y (x2 : Int) (zn : List Int) (z2 z6 : Int) : Option (Int × Int × Int × Int) :=
 (Z1g 21 x2 zn z2 z6).bind fun r1 =>
 some (0, r1.1, r1.2.1, r1.2.2)
theorem Z4K x2 zn zu zb zh zj z2 z6 zp zd (zy : ZL zd = true) : Sim (Z4P zn zb zh zj zp zd) (Z2Y x2 zn z2 z6) (ZeI 1 (.ptr 0 0) (iv x2) [(Zk (Zm.mk zn zu zb zh zj (Zl.mk z2 z6)) zp zd)]) := by
 unfold Z2Y
 refine zf (Zxf ..)<|ze<|zi fun r1 hr1 => ?_
 obtain ⟨qr1, er1, exr1, rfl⟩ := Z1j 21 x2 zn zu zb zh zj z2 z6 zp zd zy r1 hr1
 refine zc [0] (.p (.tup [])) [(Zk (Zm.mk zn r1.1 zb zh zj (Zl.mk r1.2.1 r1.2.2)) zp zd)] er1<|ze ?_
 exact zr ((iv 0), [(Zk (Zm.mk zn r1.1 zb zh zj (Zl.mk r1.2.1 r1.2.2)) zp zd)]) ⟨_, rfl⟩
def Z9j (x1 zu z2 z6 : Int) : Option (Int × Int × Int × Int) :=
 some (x1, zu, z2, z6)
theorem ZgM x1 zn zu zb zh zj z2 z6 zp zd (zy : ZL zd = true) : Sim (Z4P zn zb zh zj zp zd) (Z9j x1 zu z2 z6) (Zqj 1 (iv x1) [(Zk (Zm.mk zn zu zb zh zj (Zl.mk z2 z6)) zp zd)]) := by
 unfold Z9j
 refine zf (Zxe ..)<|ze ?_
 exact zr ((iv x1), [(Zk (Zm.mk zn zu zb zh zj (Zl.mk z2 z6)) zp zd)]) ⟨_, rfl⟩
def Z91 (x1 x2 : Int) (zn : List Int) (zu zb zh : Int) (zj : List Zv) (z2 z6 : Int) : Option (Int × Int × Int × Int) :=
 if (x1 == 110) = true then
 (some (10, zu, z2, z6))
 else
 (if (x1 == 116) = true then
 (some (9, zu, z2, z6))
 else
 (if (x1 == 114) = true then
 (some (13, zu, z2, z6))
 else
 (if (x1 == 120) = true then
 ((Z2C (Zm.mk zn zu zb zh zj (Zl.mk z2 z6))).bind fun r1 =>
 (Ze5 r1).bind fun r2 =>
 if (decide (0 ≤ r2)) = true then
 ((Z3d zn zu).bind fun r3 =>
 (Z2C (Zm.mk zn r3.2 zb zh zj (Zl.mk z2 z6))).bind fun r4 =>
 (Ze5 r4).bind fun r5 =>
 if (decide (0 ≤ r5)) = true then
 ((Z3d zn r3.2).bind fun r6 =>
 some ((IntKind.i64.wrap ((IntKind.i64.wrap (16 * r2)) + r5)), r6.2, z2, z6))
 else
 (Z2Y x2 zn z2 z6))
 else
 (Z2Y x2 zn z2 z6))
 else
 (if (decide (32 < x1)) = true then
 (if (decide (x1 < 127)) = true then
 ((Zai ([(Zc.mk 48 57), (Zc.mk 65 90), (Zc.mk 97 122)] : List Zc) x1).bind fun r7 =>
 if (!r7) = true then
 (Z9j x1 zu z2 z6)
 else
 (Z2Y x2 zn z2 z6))
 else
 (Z2Y x2 zn z2 z6))
 else
 (Z2Y x2 zn z2 z6)))))
theorem Zjr x1 x2 zn zu zb zh zj z2 z6 zp zd (zy : ZL zd = true) : Sim (Z4P zn zb zh zj zp zd) (Z91 x1 x2 zn zu zb zh zj z2 z6) (EE 150 [(.ptr 0 0), (iv x1), (iv x2)] [(Zk (Zm.mk zn zu zb zh zj (Zl.mk z2 z6)) zp zd)]) := by
 unfold Z91
 refine zf (ZEB ..)<|ze<|ze<|zq ?_
 refine za (x1 == 110) ?_ ?_
 ·refine ze ?_
  exact zr ((iv 10), [(Zk (Zm.mk zn zu zb zh zj (Zl.mk z2 z6)) zp zd)]) ⟨_, rfl⟩
 ·refine ze<|zq ?_
  refine za (x1 == 116) ?_ ?_
  ·refine ze ?_
   exact zr ((iv 9), [(Zk (Zm.mk zn zu zb zh zj (Zl.mk z2 z6)) zp zd)]) ⟨_, rfl⟩
  ·refine ze<|zq ?_
   refine za (x1 == 114) ?_ ?_
   ·refine ze ?_
    exact zr ((iv 13), [(Zk (Zm.mk zn zu zb zh zj (Zl.mk z2 z6)) zp zd)]) ⟨_, rfl⟩
   ·refine ze<|zq ?_
    refine za (x1 == 120) ?_ ?_
    ·refine ze<|zi fun r1 hr1 => ?_
     obtain ⟨qr1, er1, exr1, rfl⟩ := Z2L (Zm.mk zn zu zb zh zj (Zl.mk z2 z6)) zp zd zy r1 hr1
     refine zc [0] (iv r1) [(Zk (Zm.mk zn zu zb zh zj (Zl.mk z2 z6)) zp zd)] er1<|zi fun r2 hr2 => ?_
     obtain ⟨qr2, er2, exr2, rfl⟩ := ZlC r1 r2 hr2
     refine zc [] (iv r2) [(Zk (Zm.mk zn zu zb zh zj (Zl.mk z2 z6)) zp zd)] er2<|ze<|zq ?_
     refine za (decide (0 ≤ r2)) ?_ ?_
     ·refine ze<|zi fun r3 hr3 => ?_
      obtain ⟨qr3, er3, exr3, rfl⟩ := Z3L zn zu zb zh zj z2 z6 zp zd zy r3 hr3
      refine zc [0] (iv r3.1) [(Zk (Zm.mk zn r3.2 zb zh zj (Zl.mk z2 z6)) zp zd)] er3<|ze<|zi fun r4 hr4 => ?_
      obtain ⟨qr4, er4, exr4, rfl⟩ := Z2L (Zm.mk zn r3.2 zb zh zj (Zl.mk z2 z6)) zp zd zy r4 hr4
      refine zc [0] (iv r4) [(Zk (Zm.mk zn r3.2 zb zh zj (Zl.mk z2 z6)) zp zd)] er4<|zi fun r5 hr5 => ?_
      obtain ⟨qr5, er5, exr5, rfl⟩ := ZlC r4 r5 hr5
      refine zc [] (iv r5) [(Zk (Zm.mk zn r3.2 zb zh zj (Zl.mk z2 z6)) zp zd)] er5<|ze<|zq ?_
      refine za (decide (0 ≤ r5)) ?_ ?_
      ·refine ze<|zi fun r6 hr6 => ?_
       obtain ⟨qr6, er6, exr6, rfl⟩ := Z3L zn r3.2 zb zh zj z2 z6 zp zd zy r6 hr6
       refine zc [0] (iv r6.1) [(Zk (Zm.mk zn r6.2 zb zh zj (Zl.mk z2 z6)) zp zd)] er6<|ze<|zq<|zq ?_
       exact zr ((iv (IntKind.i64.wrap ((IntKind.i64.wrap (16 * r2)) + r5))), [(Zk (Zm.mk zn r6.2 zb zh zj (Zl.mk z2 z6)) zp zd)]) ⟨_, rfl⟩
      ·exact zk (Z4K x2 zn r3.2 zb zh zj z2 z6 zp zd zy)
     ·exact zk (Z4K x2 zn zu zb zh zj z2 z6 zp zd zy)
    ·refine ze<|zq ?_
     refine za (decide (32 < x1)) ?_ ?_
     ·refine zq ?_
      refine za (decide (x1 < 127)) ?_ ?_
      ·refine zq<|zq<|zq<|zq<|zi fun r7 hr7 => ?_
       obtain ⟨qr7, er7, exr7, rfl⟩ := Zoc ([(Zc.mk 48 57), (Zc.mk 65 90), (Zc.mk 97 122)] : List Zc) x1 .sh r7 hr7
       refine zc [] (bv r7) [(Zk (Zm.mk zn zu zb zh zj (Zl.mk z2 z6)) zp zd)] er7<|zq ?_
       refine za (!r7) ?_ ?_
       ·exact zk (ZgM x1 zn zu zb zh zj z2 z6 zp zd zy)
       ·exact zk (Z4K x2 zn zu zb zh zj z2 z6 zp zd zy)
      ·exact zk (Z4K x2 zn zu zb zh zj z2 z6 zp zd zy)
     ·exact zk (Z4K x2 zn zu zb zh zj z2 z6 zp zd zy)
theorem ZjV (x1 x2 : Int) (zn : List Int) (zu zb zh : Int) (zj : List Zv) (z2 z6 : Int) {r} (h : Z91 x1 x2 zn zu zb zh zj z2 z6 = some r) : Z7v x1 x2 zn zu zb zh zj z2 z6 = some r :=
 Z1a (fun _ _ ha hb => RRun.uniq (Zkw _ _ _ _ _ _) (ha .ex .ex rfl) (hb .ex .ex rfl)) (fun zp zd zy => Zjr x1 x2 zn zu zb zh zj z2 z6 zp zd zy r h)
def ZcW (x0 : Int) : Option (Int) :=
 some (IntKind.i64.wrap (x0 - 48))
theorem Zoh x0 : Sim (Z85) (ZcW x0) (Zt7 0 (iv x0) []) := by
 unfold ZcW
 refine zf (Zzh ..)<|ze<|zq ?_
 exact zr ((iv (IntKind.i64.wrap (x0 - 48))), []) ⟨_, rfl⟩
def ZcX (x0 : Int) : Option (Int) :=
 some (IntKind.i64.wrap ((IntKind.i64.wrap (x0 - 97)) + 10))
theorem Zoi x0 : Sim (Z85) (ZcX x0) (Zt8 0 (iv x0) []) := by
 unfold ZcX
 refine zf (Zzj ..)<|ze<|zq<|zq ?_
 exact zr ((iv (IntKind.i64.wrap ((IntKind.i64.wrap (x0 - 97)) + 10))), []) ⟨_, rfl⟩
def ZaX  : Option (Int) :=
 some (-1)
theorem Zho  : Sim (Z85) (ZaX) (Zp9 0  []) := by
 unfold ZaX
 refine zf (Zzk ..)<|ze ?_
 exact zr ((iv (-1)), []) ⟨_, rfl⟩
def ZaW (x0 : Int) : Option (Int) :=
 if (decide (97 ≤ x0)) = true then
 (if (decide (x0 ≤ 102)) = true then
 (ZcX x0)
 else
 (ZaX))
 else
 (ZaX)
theorem Zhn x0 : Sim (Z85) (ZaW x0) (Zp8 0 (iv x0) []) := by
 unfold ZaW
 refine zf (Zzi ..)<|ze<|zq ?_
 refine za (decide (97 ≤ x0)) ?_ ?_
 ·refine zq ?_
  refine za (decide (x0 ≤ 102)) ?_ ?_
  ·exact zk (Zoi x0)
  ·exact zk (Zho )
 ·exact zk (Zho )
def Zh0 (x0 : Int) : Option (Int) :=
 if (decide (48 ≤ x0)) = true then
 (if (decide (x0 ≤ 57)) = true then
 (ZcW x0)
 else
 (ZaW x0))
 else
 (ZaW x0)
theorem Zrv x0 : Sim (Z85) (Zh0 x0) (EE 172 [(iv x0)] []) := by
 unfold Zh0
 refine zf (ZEZ ..)<|ze<|ze<|zq ?_
 refine za (decide (48 ≤ x0)) ?_ ?_
 ·refine zq ?_
  refine za (decide (x0 ≤ 57)) ?_ ?_
  ·exact zk (Zoh x0)
  ·exact zk (Zhn x0)
 ·exact zk (Zhn x0)
theorem ZtK (x0 : Int) {r} (h : Zh0 x0 = some r) : Ze5 x0 = some r :=
 Z1a (fun _ _ ha hb => RRun.uniq Zuk (ha ) (hb )) (Zrv x0 r h)
def Zc5 (x0 : List Zc) (x1 : Int) : Option (Bool) :=
 (Z5a x0 x1).bind fun r1 =>
 some (r1)
theorem ZnQ (x0 : List Zc) x1 ox0 : Sim (Za3) (Zc5 x0 x1) (EE 173 [(.p (.lst ox0 (x0.map Zz))), (iv x1)] []) := by
 unfold Zc5
 refine zf (ZF1 ..)<|ze<|zx (.ptr 0 0) [[(iv x1)]]<|ze<|zi fun r1 hr1 => ?_
 obtain ⟨qr1, er1, exr1, rfl⟩ := ZdD x0 x1 .sh r1 hr1
 refine zc [0] (bv r1) [[(iv x1)]] er1 ?_
 exact zr ((bv r1), [[(iv x1)]]) ⟨_, rfl⟩
theorem Zob (x0 : List Zc) (x1 : Int) {r} (h : Zc5 x0 x1 = some r) : Zai x0 x1 = some r :=
 Z1a (fun _ _ ha hb => RRun.uniq Zpo (ha .ex) (hb .ex)) (fun ox0 => ZnQ x0 x1 ox0 r h)
def Z55 (x0 : List Zc) (z1p : Int) : Option (Bool) :=
 (Z68 x0 z1p).bind fun r1 =>
 some (decide (0 ≤ r1))
theorem Zdc (x0 : List Zc) z1p ox0 : Sim (Z43 z1p) (Z55 x0 z1p) (EE 184 [(.p (.lst ox0 (x0.map Zz))), (.clo 185 [] [(.ptr 0 0)])] [[(iv z1p)]]) := by
 unfold Z55
 refine zf (ZF4 ..)<|ze<|ze<|zi fun r1 hr1 => ?_
 obtain ⟨qr1, er1, exr1, rfl⟩ := Zfl x0 z1p .sh r1 hr1
 refine zc [0] (iv r1) [[(iv z1p)]] er1<|zq ?_
 exact zr ((bv (decide (0 ≤ r1))), [[(iv z1p)]]) ⟨_, rfl⟩
theorem ZdC (x0 : List Zc) (z1p : Int) {r} (h : Z55 x0 z1p = some r) : Z5a x0 z1p = some r :=
 Z1a (fun _ _ ha hb => RRun.uniq (ZdW _) (ha .ex) (hb .ex)) (fun ox0 => Zdc x0 z1p ox0 r h)
def Z62 (x0 : List Zc) (z1p : Int) : Option (Int) :=
 Z49 x0 (x0.length : Int) 0 z1p
theorem ZeN (x0 : List Zc) z1p ox0 : Sim (Z2b z1p) (Z62 x0 z1p) (EE 191 [(.p (.lst ox0 (x0.map Zz))), (.clo 185 [] [(.ptr 0 0)])] [[(iv z1p)]]) := by
 unfold Z62
 refine zf (ZF6 ..)<|ze<|ze ?_
 refine zo (iv (x0.length : Int)) ?_ (Eq.trans (by kernel_rfl) (Z38 (P := PP) (t := 95) (d := 201) (by kernel_rfl) Zz (shrO ox0) x0))
 exact zk (Z8X x0 (x0.length : Int) 0 z1p ox0)
theorem Zfk (x0 : List Zc) (z1p : Int) {r} (h : Z62 x0 z1p = some r) : Z68 x0 z1p = some r :=
 Z1a (fun _ _ ha hb => RRun.uniq (Za5 _) (ha .ex) (hb .ex)) (fun ox0 => ZeN x0 z1p ox0 r h)
def Z57 (x0 : List Zc) (x7 x8 z1p : Int) : Option (Int) :=
 Z49 x0 x7 (IntKind.i64.wrap (x8 + 1)) z1p
theorem Zdg (x0 : List Zc) x7 x8 z1p ox0 : Sim (Z2b z1p) (Z57 x0 x7 x8 z1p) (Zth 1 (.p (.lst ox0 (x0.map Zz))) (.clo 185 [] [(.ptr 0 0)]) (iv x7) (iv x8) [[(iv z1p)]]) := by
 unfold Z57
 refine zf (Zzr ..)<|ze<|zq ?_
 exact zk (Z8X x0 x7 (IntKind.i64.wrap (x8 + 1)) z1p ox0)
def Z46 (x0 : List Zc) (x7 x8 z1p : Int) : Option (Int) :=
 (lget x0 x8).bind fun a1 =>
 (ZaK a1 z1p).bind fun r2 =>
 if (r2) = true then
 (some (x8))
 else
 (Z57 x0 x7 x8 z1p)
theorem Zdf (x0 : List Zc) x7 x8 z1p ox0 : Sim (Z2b z1p) (Z46 x0 x7 x8 z1p) (Ztg 1 (.p (.lst ox0 (x0.map Zz))) (.clo 185 [] [(.ptr 0 0)]) (iv x7) (iv x8) [[(iv z1p)]]) := by
 unfold Z46
 refine zf (Zzq ..)<|ze<|ze<|zi fun a1 ha1 => ?_
 refine zo (.cptr (ZW a1)) ?_ (Eq.trans (by kernel_rfl) (Z3Z (o := (shrO ox0)) (k := .i64) (n := 2) (e := Zz) (cs := Z7V) (fun _ => rfl) (fun _ => rfl) (by decide) ha1))
 refine zq<|zi fun r2 hr2 => ?_
 obtain ⟨qr2, er2, exr2, rfl⟩ := ZmA a1 z1p r2 hr2
 refine zv [0] (bv r2) [[(iv z1p)]] er2 ?_
 refine za r2 ?_ ?_
 ·refine ze ?_
  exact zr ((iv x8), [[(iv z1p)]]) ⟨_, rfl⟩
 ·exact zk (Zdg x0 x7 x8 z1p ox0)
def Z7c  : Option (Int) :=
 some (-1)
theorem Zdh z1p : Sim (Z2b z1p) (Z7c) (Zti 1  [[(iv z1p)]]) := by
 unfold Z7c
 refine zf (Zzs ..)<|ze ?_
 exact zr ((iv (-1)), [[(iv z1p)]]) ⟨_, rfl⟩
def Z3k (x0 : List Zc) (x7 x8 z1p : Int) : Option (Int) :=
 if (decide (x8 < x7)) = true then
 (Z46 x0 x7 x8 z1p)
 else
 (Z7c)
theorem Zde (x0 : List Zc) x7 x8 z1p ox0 : Sim (Z2b z1p) (Z3k x0 x7 x8 z1p) (ZiU 1 (.p (.lst ox0 (x0.map Zz))) (.clo 185 [] [(.ptr 0 0)]) (iv x7) (iv x8) [[(iv z1p)]]) := by
 unfold Z3k
 refine zf (Zzp ..)<|ze<|zq ?_
 refine za (decide (x8 < x7)) ?_ ?_
 ·exact zk (Zdf x0 x7 x8 z1p ox0)
 ·exact zk (Zdh z1p)
theorem Z6g (x0 : List Zc) (x7 x8 z1p : Int) {r} (h : Z3k x0 x7 x8 z1p = some r) : Z49 x0 x7 x8 z1p = some r :=
 Z1a (fun _ _ ha hb => RRun.uniq (Za5 _) (ha .ex) (hb .ex)) (fun ox0 => Zde x0 x7 x8 z1p ox0 r h)
def Zay (x0 : Zc) (z1p : Int) : Option (Bool) :=
 if (decide (x0.Lo ≤ z1p)) = true then
 (some (decide (z1p ≤ x0.Hi)))
 else
 (some (false))
theorem Zlw x0 z1p : Sim (Z8I z1p) (Zay x0 z1p) (EE 185 [(.p (.agg (ZW x0))), (.ptr 0 0)] [[(iv z1p)]]) := by
 unfold Zay
 refine zf (ZF5 ..)<|ze<|zx (.ptr 1 0) [[(iv z1p)], (Z2w x0)]<|ze<|zq<|zq<|zq<|zq ?_
 refine za (decide (x0.Lo ≤ z1p)) ?_ ?_
 ·refine zq<|zq<|zq<|zq ?_
  exact zr ((bv (decide (z1p ≤ x0.Hi))), [[(iv z1p)], (Z2w x0)]) ⟨_, rfl⟩
 ·exact zr ((bv false), [[(iv z1p)], (Z2w x0)]) ⟨_, rfl⟩
theorem Zmz (x0 : Zc) (z1p : Int) {r} (h : Zay x0 z1p = some r) : ZaK x0 z1p = some r :=
 Z1a (fun _ _ ha hb => RRun.uniq (ZnH _) (ha ) (hb )) (Zlw x0 z1p r h)
def Z7g (x1 : Int) (zn : List Int) (zu zb zh : Int) (zj : List Zv) (z2 z6 : Int) : Option (Z7 × Int × Int × Int) :=
 (Z1G (ByteArray.mk #[94]) zn zu).bind fun r1 =>
 Z4b x1 r1.1 0 zn r1.2 zb zh zj z2 z6 ([] : List Zc)
theorem Zjl x1 zn zu zb zh zj z2 z6 zp zd (zy : ZL zd = true) : Sim (Z1L zn zb zh zj zp zd) (Z7g x1 zn zu zb zh zj z2 z6) (EE 131 [(.ptr 0 0), (iv x1)] [(Zk (Zm.mk zn zu zb zh zj (Zl.mk z2 z6)) zp zd)]) := by
 unfold Z7g
 refine zf (ZEj ..)<|ze<|zz (.ptr 1 0) [(Zk (Zm.mk zn zu zb zh zj (Zl.mk z2 z6)) zp zd), (Zq (Z7.mk 0 0 0 0 0 ([] : List Zc) ([] : List Z7)) .nl .nl)]<|ze<|zi fun r1 hr1 => ?_
 obtain ⟨qr1, er1, exr1, rfl⟩ := Z1P (ByteArray.mk #[94]) zn zu zb zh zj z2 z6 zp zd zy r1 hr1
 refine zc [0] (bv r1.1) [(Zk (Zm.mk zn r1.2 zb zh zj (Zl.mk z2 z6)) zp zd), (Zq (Z7.mk 0 0 0 0 0 ([] : List Zc) ([] : List Z7)) .nl .nl)] er1<|ze<|zz (.ptr 2 0) [(Zk (Zm.mk zn r1.2 zb zh zj (Zl.mk z2 z6)) zp zd), (Zq (Z7.mk 0 0 0 0 0 ([] : List Zc) ([] : List Z7)) .nl .nl), [(.p (.lst .nl []))]]<|ze<|ze ?_
 exact zk (ZbP x1 r1.1 0 zn r1.2 zb zh zj z2 z6 (Z7.mk 0 0 0 0 0 ([] : List Zc) ([] : List Z7)) ([] : List Zc) zp zd .nl .nl .nl zy rfl rfl)
theorem ZjQ (x1 : Int) (zn : List Int) (zu zb zh : Int) (zj : List Zv) (z2 z6 : Int) {r} (h : Z7g x1 zn zu zb zh zj z2 z6 = some r) : Z96 x1 zn zu zb zh zj z2 z6 = some r :=
 Z1a (fun _ _ ha hb => RRun.uniq (ZdV _ _ _ _ _ _) (ha .ex .ex rfl) (hb .ex .ex rfl)) (fun zp zd zy => Zjl x1 zn zu zb zh zj z2 z6 zp zd zy r h)
def Z1T (x1 : Int) (x5 : Bool) (x8 : Int) (zn : List Int) (zu zb zh : Int) (zj : List Zv) (z2 z6 : Int) (z11 : List Zc) : Option (Z7 × Int × Int × Int) :=
 Z4b x1 x5 (IntKind.i64.wrap (x8 + 1)) zn zu zb zh zj z2 z6 z11
theorem Z2J x1 x5 x8 zn zu zb zh zj z2 z6 b1 (z11 : List Zc) zp zd zH zE z1U (zy : ZL zd = true) (z18 : ZL zH = true) (z10 : ZL zE = true) : Sim (Z1L zn zb zh zj zp zd) (Z1T x1 x5 x8 zn zu zb zh zj z2 z6 z11) (Zb0 1 (.ptr 0 0) (iv x1) (.ptr 1 0) (bv x5) (.ptr 2 0) (.clo 151 [] [(.ptr 2 0)]) (iv x8) [(Zk (Zm.mk zn zu zb zh zj (Zl.mk z2 z6)) zp zd), (Zq b1 zH zE), [(.p (.lst z1U (z11.map Zz)))]]) := by
 unfold Z1T
 refine zf (ZyH ..)<|ze<|zq ?_
 exact zk (ZbP x1 x5 (IntKind.i64.wrap (x8 + 1)) zn zu zb zh zj z2 z6 b1 z11 zp zd zH zE z1U zy z18 z10)
def Z5Q (zu z2 z6 : Int) (z11 : List Zc) : Option (Z7 × Int × Int × Int) :=
 some ((Z7.mk 1 0 0 0 0 z11 ([] : List Z7)), zu, z2, z6)
theorem Zb3 zn zu zb zh zj z2 z6 b1 (z11 : List Zc) zp zd zH zE z1U (zy : ZL zd = true) (z18 : ZL zH = true) (z10 : ZL zE = true) : Sim (Z1L zn zb zh zj zp zd) (Z5Q zu z2 z6 z11) (Zmo 1 (.ptr 1 0) (.ptr 2 0) [(Zk (Zm.mk zn zu zb zh zj (Zl.mk z2 z6)) zp zd), (Zq b1 zH zE), [(.p (.lst z1U (z11.map Zz)))]]) := by
 unfold Z5Q
 refine zf (ZwZ ..)<|ze<|zq<|zq<|zt [(Zk (Zm.mk zn zu zb zh zj (Zl.mk z2 z6)) zp zd), (Zq (Z7.mk 1 0 0 0 0 z11 ([] : List Z7)) (shrO (shrO z1U)) .nl), [(.p (.lst z1U (z11.map Zz)))]] ?_
 exact zr ((.p (.agg (ZG (Z7.mk 1 0 0 0 0 z11 ([] : List Z7)) .sh .sh))), [(Zk (Zm.mk zn zu zb zh zj (Zl.mk z2 z6)) zp zd), (Zq (Z7.mk 1 0 0 0 0 z11 ([] : List Z7)) (shrO (shrO z1U)) .nl), [(.p (.lst z1U (z11.map Zz)))]]) ⟨_, rfl⟩
def Z7h (x5 : Bool) (zn : List Int) (zu z2 z6 : Int) (z11 : List Zc) : Option (Z7 × Int × Int × Int) :=
 (Z3d zn zu).bind fun r1 =>
 if (x5) = true then
 ((Zaj z11).bind fun r2 =>
 Z5Q r1.2 z2 z6 r2.1)
 else
 (Z5Q r1.2 z2 z6 z11)
theorem Zgz x5 zn zu zb zh zj z2 z6 b1 (z11 : List Zc) zp zd zH zE z1U (zy : ZL zd = true) (z18 : ZL zH = true) (z10 : ZL zE = true) : Sim (Z1L zn zb zh zj zp zd) (Z7h x5 zn zu z2 z6 z11) (Zqc 1 (.ptr 0 0) (.ptr 1 0) (bv x5) (.ptr 2 0) [(Zk (Zm.mk zn zu zb zh zj (Zl.mk z2 z6)) zp zd), (Zq b1 zH zE), [(.p (.lst z1U (z11.map Zz)))]]) := by
 unfold Z7h
 refine zf (ZwY ..)<|ze<|zi fun r1 hr1 => ?_
 obtain ⟨qr1, er1, exr1, rfl⟩ := Z3L zn zu zb zh zj z2 z6 zp zd zy r1 hr1
 refine zc [0] (iv r1.1) [(Zk (Zm.mk zn r1.2 zb zh zj (Zl.mk z2 z6)) zp zd), (Zq b1 zH zE), [(.p (.lst z1U (z11.map Zz)))]] er1<|ze ?_
 refine za x5 ?_ ?_
 ·refine ze<|zq<|zi fun r2 hr2 => ?_
  obtain ⟨qr2, er2, exr2, rfl⟩ := Zhm z11 .sh r2 hr2
  refine zc [] (.p (.tup [(.lst .sh (r2.1.map Zz)), (.v (.int .i64 r2.2))])) [(Zk (Zm.mk zn r1.2 zb zh zj (Zl.mk z2 z6)) zp zd), (Zq b1 zH zE), [(.p (.lst z1U (z11.map Zz)))]] er2<|zq<|zq<|zt [(Zk (Zm.mk zn r1.2 zb zh zj (Zl.mk z2 z6)) zp zd), (Zq b1 zH zE), [(.p (.lst .sh (r2.1.map Zz)))]] ?_
  exact zk (Zb3 zn r1.2 zb zh zj z2 z6 b1 r2.1 zp zd zH zE .sh zy z18 z10)
 ·exact zk (Zb3 zn r1.2 zb zh zj z2 z6 b1 z11 zp zd zH zE z1U zy z18 z10)
def Z3R (x1 : Int) (x5 : Bool) (x8 x9 : Int) (zn : List Int) (zb zh : Int) (zj : List Zv) (z2 z6 : Int) (z11 : List Zc) : Option (Z7 × Int × Int × Int) :=
 (Z1g 22 x9 zn z2 z6).bind fun r1 =>
 Z1T x1 x5 x8 zn r1.1 zb zh zj r1.2.1 r1.2.2 z11
theorem Z65 x1 x5 x8 x9 zn zu zb zh zj z2 z6 b1 (z11 : List Zc) zp zd zH zE z1U (zy : ZL zd = true) (z18 : ZL zH = true) (z10 : ZL zE = true) : Sim (Z1L zn zb zh zj zp zd) (Z3R x1 x5 x8 x9 zn zb zh zj z2 z6 z11) (Zgq 1 (.ptr 0 0) (iv x1) (.ptr 1 0) (bv x5) (.ptr 2 0) (.clo 151 [] [(.ptr 2 0)]) (iv x8) (iv x9) [(Zk (Zm.mk zn zu zb zh zj (Zl.mk z2 z6)) zp zd), (Zq b1 zH zE), [(.p (.lst z1U (z11.map Zz)))]]) := by
 unfold Z3R
 refine zf (Zx2 ..)<|ze<|zi fun r1 hr1 => ?_
 obtain ⟨qr1, er1, exr1, rfl⟩ := Z1j 22 x9 zn zu zb zh zj z2 z6 zp zd zy r1 hr1
 refine zc [0] (.p (.tup [])) [(Zk (Zm.mk zn r1.1 zb zh zj (Zl.mk r1.2.1 r1.2.2)) zp zd), (Zq b1 zH zE), [(.p (.lst z1U (z11.map Zz)))]] er1 ?_
 exact zk (Z2J x1 x5 x8 zn r1.1 zb zh zj r1.2.1 r1.2.2 b1 z11 zp zd zH zE z1U zy z18 z10)
def Z2x (x1 : Int) (x5 : Bool) (x8 x11 x15 : Int) (zn : List Int) (zu zb zh : Int) (zj : List Zv) (z2 z6 : Int) (z11 : List Zc) : Option (Z7 × Int × Int × Int) :=
 if (z2 == 0) = true then
 ((Z6w ([(Zc.mk x11 x15)] : List Zc) z11).bind fun r1 =>
 Z1T x1 x5 x8 zn zu zb zh zj z2 z6 r1)
 else
 (Z1T x1 x5 x8 zn zu zb zh zj z2 z6 z11)
theorem Z66 x1 x5 x8 x11 x15 zn zu zb zh zj z2 z6 b1 (z11 : List Zc) zp zd zH zE z1U (zy : ZL zd = true) (z18 : ZL zH = true) (z10 : ZL zE = true) : Sim (Z1L zn zb zh zj zp zd) (Z2x x1 x5 x8 x11 x15 zn zu zb zh zj z2 z6 z11) (Zgr 1 (.ptr 0 0) (iv x1) (.ptr 1 0) (bv x5) (.ptr 2 0) (.clo 151 [] [(.ptr 2 0)]) (iv x8) (iv x11) (iv x15) [(Zk (Zm.mk zn zu zb zh zj (Zl.mk z2 z6)) zp zd), (Zq b1 zH zE), [(.p (.lst z1U (z11.map Zz)))]]) := by
 unfold Z2x
 refine zf (Zx5 ..)<|ze<|zq<|zq<|zq<|zq<|zq ?_
 refine za (z2 == 0) ?_ ?_
 ·refine ze<|zq<|zq<|zi fun r1 hr1 => ?_
  obtain ⟨qr1, er1, or1_0_0, exr1, rfl⟩ := Zcg ([(Zc.mk x11 x15)] : List Zc) z11 .sh z1U r1 hr1
  refine zv [2] (.p (.tup [])) [(Zk (Zm.mk zn zu zb zh zj (Zl.mk z2 z6)) zp zd), (Zq b1 zH zE), [(.p (.lst or1_0_0 (r1.map Zz)))]] er1 ?_
  exact zk (Z2J x1 x5 x8 zn zu zb zh zj z2 z6 b1 r1 zp zd zH zE or1_0_0 zy z18 z10)
 ·exact zk (Z2J x1 x5 x8 zn zu zb zh zj z2 z6 b1 z11 zp zd zH zE z1U zy z18 z10)
def Z4G (x1 : Int) (x5 : Bool) (x8 x9 x11 x15 : Int) (zn : List Int) (zb zh : Int) (zj : List Zv) (z2 z6 : Int) (z11 : List Zc) : Option (Z7 × Int × Int × Int) :=
 (Z1g 22 x9 zn z2 z6).bind fun r1 =>
 Z2x x1 x5 x8 x11 x15 zn r1.1 zb zh zj r1.2.1 r1.2.2 z11
theorem Zb5 x1 x5 x8 x9 x11 x15 zn zu zb zh zj z2 z6 b1 (z11 : List Zc) zp zd zH zE z1U (zy : ZL zd = true) (z18 : ZL zH = true) (z10 : ZL zE = true) : Sim (Z1L zn zb zh zj zp zd) (Z4G x1 x5 x8 x9 x11 x15 zn zb zh zj z2 z6 z11) (Zmq 1 (.ptr 0 0) (iv x1) (.ptr 1 0) (bv x5) (.ptr 2 0) (.clo 151 [] [(.ptr 2 0)]) (iv x8) (iv x9) (iv x11) (iv x15) [(Zk (Zm.mk zn zu zb zh zj (Zl.mk z2 z6)) zp zd), (Zq b1 zH zE), [(.p (.lst z1U (z11.map Zz)))]]) := by
 unfold Z4G
 refine zf (Zx4 ..)<|ze<|zi fun r1 hr1 => ?_
 obtain ⟨qr1, er1, exr1, rfl⟩ := Z1j 22 x9 zn zu zb zh zj z2 z6 zp zd zy r1 hr1
 refine zc [0] (.p (.tup [])) [(Zk (Zm.mk zn r1.1 zb zh zj (Zl.mk r1.2.1 r1.2.2)) zp zd), (Zq b1 zH zE), [(.p (.lst z1U (z11.map Zz)))]] er1 ?_
 exact zk (Z66 x1 x5 x8 x11 x15 zn r1.1 zb zh zj r1.2.1 r1.2.2 b1 z11 zp zd zH zE z1U zy z18 z10)
def Z7i (x1 : Int) (x5 : Bool) (x8 x9 x11 : Int) (zn : List Int) (zu zb zh : Int) (zj : List Zv) (z2 z6 : Int) (z11 : List Zc) : Option (Z7 × Int × Int × Int) :=
 (Z5D zn zu zb zh zj z2 z6).bind fun r1 =>
 if (r1.2.2.2.2.1 == 0) = true then
 ((nilO (shrO (shrO (shrO (shrO r1.2.1.1)))) r1.2.1.2).bind fun a2 =>
 if (!a2) = true then
 (Z4G x1 x5 x8 x9 x11 r1.1 zn zb zh zj r1.2.2.2.2.1 r1.2.2.2.2.2 z11)
 else
 (if (decide (r1.1 < x11)) = true then
 (Z4G x1 x5 x8 x9 x11 r1.1 zn zb zh zj r1.2.2.2.2.1 r1.2.2.2.2.2 z11)
 else
 (Z2x x1 x5 x8 x11 r1.1 zn r1.2.2.2.1 zb zh zj r1.2.2.2.2.1 r1.2.2.2.2.2 z11)))
 else
 (Z2x x1 x5 x8 x11 r1.1 zn r1.2.2.2.1 zb zh zj r1.2.2.2.2.1 r1.2.2.2.2.2 z11)
theorem ZgB x1 x5 x8 x9 x11 zn zu zb zh zj z2 z6 b1 (z11 : List Zc) zp zd zH zE z1U (zy : ZL zd = true) (z18 : ZL zH = true) (z10 : ZL zE = true) : Sim (Z1L zn zb zh zj zp zd) (Z7i x1 x5 x8 x9 x11 zn zu zb zh zj z2 z6 z11) (Zqe 1 (.ptr 0 0) (iv x1) (.ptr 1 0) (bv x5) (.ptr 2 0) (.clo 151 [] [(.ptr 2 0)]) (iv x8) (iv x9) (iv x11) [(Zk (Zm.mk zn zu zb zh zj (Zl.mk z2 z6)) zp zd), (Zq b1 zH zE), [(.p (.lst z1U (z11.map Zz)))]]) := by
 unfold Z7i
 refine zf (Zx3 ..)<|ze<|zi fun r1 hr1 => ?_
 obtain ⟨qr1, er1, exr1, rfl⟩ := Zcx zn zu zb zh zj z2 z6 zp zd zy r1 hr1
 refine zc [0] (.p (.tup [(.v (.int .i64 r1.1)), (.lst r1.2.1.1 (r1.2.1.2.map Zz)), (.v (.bool r1.2.2.1))])) [(Zk (Zm.mk zn r1.2.2.2.1 zb zh zj (Zl.mk r1.2.2.2.2.1 r1.2.2.2.2.2)) zp zd), (Zq b1 zH zE), [(.p (.lst z1U (z11.map Zz)))]] er1<|zq<|zq<|zq<|ze<|zq<|zq<|zq<|zq<|zq ?_
 refine za (r1.2.2.2.2.1 == 0) ?_ ?_
 ·refine zi fun a2 ha2 => ?_
  refine zo (bv (!a2)) ?_ (Eq.trans (by kernel_rfl) (ZnC (P := PP) (t := 94) (c := .slice none 0 0) (e := Zz) (by kernel_rfl) ha2))
  refine za (!a2) ?_ ?_
  ·exact zk (Zb5 x1 x5 x8 x9 x11 r1.1 zn r1.2.2.2.1 zb zh zj r1.2.2.2.2.1 r1.2.2.2.2.2 b1 z11 zp zd zH zE z1U zy z18 z10)
  ·refine zq ?_
   refine za (decide (r1.1 < x11)) ?_ ?_
   ·exact zk (Zb5 x1 x5 x8 x9 x11 r1.1 zn r1.2.2.2.1 zb zh zj r1.2.2.2.2.1 r1.2.2.2.2.2 b1 z11 zp zd zH zE z1U zy z18 z10)
   ·exact zk (Z66 x1 x5 x8 x11 r1.1 zn r1.2.2.2.1 zb zh zj r1.2.2.2.2.1 r1.2.2.2.2.2 b1 z11 zp zd zH zE z1U zy z18 z10)
 ·exact zk (Z66 x1 x5 x8 x11 r1.1 zn r1.2.2.2.1 zb zh zj r1.2.2.2.2.1 r1.2.2.2.2.2 b1 z11 zp zd zH zE z1U zy z18 z10)
def Z5S (x1 : Int) (x5 : Bool) (x8 x9 x11 : Int) (zn : List Int) (zu zb zh : Int) (zj : List Zv) (z2 z6 : Int) (z11 : List Zc) : Option (Z7 × Int × Int × Int) :=
 (Z1G (ByteArray.mk #[45]) zn zu).bind fun r1 =>
 if (r1.1) = true then
 ((Z2C (Zm.mk zn r1.2 zb zh zj (Zl.mk z2 z6))).bind fun r2 =>
 if (r2 == 93) = true then
 (Z3R x1 x5 x8 x9 zn zb zh zj z2 z6 z11)
 else
 (if (r2 == 91) = true then
 (Z3R x1 x5 x8 x9 zn zb zh zj z2 z6 z11)
 else
 (if (r2 == 45) = true then
 (Z3R x1 x5 x8 x9 zn zb zh zj z2 z6 z11)
 else
 (if (decide (r2 < 0)) = true then
 (Z3R x1 x5 x8 x9 zn zb zh zj z2 z6 z11)
 else
 (Z7i x1 x5 x8 x9 x11 zn r1.2 zb zh zj z2 z6 z11)))))
 else
 (Z2x x1 x5 x8 x11 x11 zn r1.2 zb zh zj z2 z6 z11)
theorem ZgA x1 x5 x8 x9 x11 zn zu zb zh zj z2 z6 b1 (z11 : List Zc) zp zd zH zE z1U (zy : ZL zd = true) (z18 : ZL zH = true) (z10 : ZL zE = true) : Sim (Z1L zn zb zh zj zp zd) (Z5S x1 x5 x8 x9 x11 zn zu zb zh zj z2 z6 z11) (Zqd 1 (.ptr 0 0) (iv x1) (.ptr 1 0) (bv x5) (.ptr 2 0) (.clo 151 [] [(.ptr 2 0)]) (iv x8) (iv x9) (iv x11) [(Zk (Zm.mk zn zu zb zh zj (Zl.mk z2 z6)) zp zd), (Zq b1 zH zE), [(.p (.lst z1U (z11.map Zz)))]]) := by
 unfold Z5S
 refine zf (Zx1 ..)<|ze<|ze<|zi fun r1 hr1 => ?_
 obtain ⟨qr1, er1, exr1, rfl⟩ := Z1P (ByteArray.mk #[45]) zn zu zb zh zj z2 z6 zp zd zy r1 hr1
 refine zc [0] (bv r1.1) [(Zk (Zm.mk zn r1.2 zb zh zj (Zl.mk z2 z6)) zp zd), (Zq b1 zH zE), [(.p (.lst z1U (z11.map Zz)))]] er1 ?_
 refine za r1.1 ?_ ?_
 ·refine ze<|zi fun r2 hr2 => ?_
  obtain ⟨qr2, er2, exr2, rfl⟩ := Z2L (Zm.mk zn r1.2 zb zh zj (Zl.mk z2 z6)) zp zd zy r2 hr2
  refine zc [0] (iv r2) [(Zk (Zm.mk zn r1.2 zb zh zj (Zl.mk z2 z6)) zp zd), (Zq b1 zH zE), [(.p (.lst z1U (z11.map Zz)))]] er2<|ze<|zq ?_
  refine za (r2 == 93) ?_ ?_
  ·exact zk (Z65 x1 x5 x8 x9 zn r1.2 zb zh zj z2 z6 b1 z11 zp zd zH zE z1U zy z18 z10)
  ·refine zq ?_
   refine za (r2 == 91) ?_ ?_
   ·exact zk (Z65 x1 x5 x8 x9 zn r1.2 zb zh zj z2 z6 b1 z11 zp zd zH zE z1U zy z18 z10)
   ·refine zq ?_
    refine za (r2 == 45) ?_ ?_
    ·exact zk (Z65 x1 x5 x8 x9 zn r1.2 zb zh zj z2 z6 b1 z11 zp zd zH zE z1U zy z18 z10)
    ·refine zq ?_
     refine za (decide (r2 < 0)) ?_ ?_
     ·exact zk (Z65 x1 x5 x8 x9 zn r1.2 zb zh zj z2 z6 b1 z11 zp zd zH zE z1U zy z18 z10)
     ·exact zk (ZgB x1 x5 x8 x9 x11 zn r1.2 zb zh zj z2 z6 b1 z11 zp zd zH zE z1U zy z18 z10)
 ·exact zk (Z66 x1 x5 x8 x11 x11 zn r1.2 zb zh zj z2 z6 b1 z11 zp zd zH zE z1U zy z18 z10)
def Z5R (x1 : Int) (x5 : Bool) (x8 x9 : Int) (zn : List Int) (zu zb zh : Int) (zj : List Zv) (z2 z6 : Int) (z11 : List Zc) : Option (Z7 × Int × Int × Int) :=
 (Z5D zn zu zb zh zj z2 z6).bind fun r1 =>
 (nilO (shrO (shrO (shrO (shrO r1.2.1.1)))) r1.2.1.2).bind fun a2 =>
 if (!a2) = true then
 ((Z42 r1.2.2.1 r1.2.1.2).bind fun r3 =>
 (Z6w r3.Set z11).bind fun r4 =>
 (Z2C (Zm.mk zn r1.2.2.2.1 zb zh zj (Zl.mk r1.2.2.2.2.1 r1.2.2.2.2.2))).bind fun r5 =>
 if (r5 == 45) = true then
 ((Z1g 22 r1.2.2.2.1 zn r1.2.2.2.2.1 r1.2.2.2.2.2).bind fun r6 =>
 Z1T x1 x5 x8 zn r6.1 zb zh zj r6.2.1 r6.2.2 r4)
 else
 (Z1T x1 x5 x8 zn r1.2.2.2.1 zb zh zj r1.2.2.2.2.1 r1.2.2.2.2.2 r4))
 else
 (Z5S x1 x5 x8 x9 r1.1 zn r1.2.2.2.1 zb zh zj r1.2.2.2.2.1 r1.2.2.2.2.2 z11)
theorem Zb4 x1 x5 x8 x9 zn zu zb zh zj z2 z6 b1 (z11 : List Zc) zp zd zH zE z1U (zy : ZL zd = true) (z18 : ZL zH = true) (z10 : ZL zE = true) : Sim (Z1L zn zb zh zj zp zd) (Z5R x1 x5 x8 x9 zn zu zb zh zj z2 z6 z11) (Zmp 1 (.ptr 0 0) (iv x1) (.ptr 1 0) (bv x5) (.ptr 2 0) (.clo 151 [] [(.ptr 2 0)]) (iv x8) (iv x9) [(Zk (Zm.mk zn zu zb zh zj (Zl.mk z2 z6)) zp zd), (Zq b1 zH zE), [(.p (.lst z1U (z11.map Zz)))]]) := by
 unfold Z5R
 refine zf (Zx0 ..)<|ze<|zi fun r1 hr1 => ?_
 obtain ⟨qr1, er1, exr1, rfl⟩ := Zcx zn zu zb zh zj z2 z6 zp zd zy r1 hr1
 refine zc [0] (.p (.tup [(.v (.int .i64 r1.1)), (.lst r1.2.1.1 (r1.2.1.2.map Zz)), (.v (.bool r1.2.2.1))])) [(Zk (Zm.mk zn r1.2.2.2.1 zb zh zj (Zl.mk r1.2.2.2.2.1 r1.2.2.2.2.2)) zp zd), (Zq b1 zH zE), [(.p (.lst z1U (z11.map Zz)))]] er1<|zq<|zq<|zq<|ze<|zi fun a2 ha2 => ?_
 refine zo (bv (!a2)) ?_ (Eq.trans (by kernel_rfl) (ZnC (P := PP) (t := 94) (c := .slice none 0 0) (e := Zz) (by kernel_rfl) ha2))
 refine za (!a2) ?_ ?_
 ·refine ze<|zi fun r3 hr3 => ?_
  obtain ⟨qr3, er3, exr3, rfl⟩ := Z4d r1.2.2.1 r1.2.1.2 .sh r3 hr3
  refine zc [] (.p (.agg (ZG r3 .sh .sh))) [(Zk (Zm.mk zn r1.2.2.2.1 zb zh zj (Zl.mk r1.2.2.2.2.1 r1.2.2.2.2.2)) zp zd), (Zq b1 zH zE), [(.p (.lst z1U (z11.map Zz)))]] er3<|zz (.ptr 3 0) [(Zk (Zm.mk zn r1.2.2.2.1 zb zh zj (Zl.mk r1.2.2.2.2.1 r1.2.2.2.2.2)) zp zd), (Zq b1 zH zE), [(.p (.lst z1U (z11.map Zz)))], (Zq (Z7.mk 0 0 0 0 0 ([] : List Zc) ([] : List Z7)) .nl .nl)]<|zt [(Zk (Zm.mk zn r1.2.2.2.1 zb zh zj (Zl.mk r1.2.2.2.2.1 r1.2.2.2.2.2)) zp zd), (Zq b1 zH zE), [(.p (.lst z1U (z11.map Zz)))], (Zq r3 .sh .sh)]<|ze<|zq<|zq<|zi fun r4 hr4 => ?_
  obtain ⟨qr4, er4, or4_0_0, exr4, rfl⟩ := Zcg r3.Set z11 .sh z1U r4 hr4
  refine zv [2] (.p (.tup [])) [(Zk (Zm.mk zn r1.2.2.2.1 zb zh zj (Zl.mk r1.2.2.2.2.1 r1.2.2.2.2.2)) zp zd), (Zq b1 zH zE), [(.p (.lst or4_0_0 (r4.map Zz)))], (Zq r3 .sh .sh)] er4<|ze<|zi fun r5 hr5 => ?_
  obtain ⟨qr5, er5, exr5, rfl⟩ := Z2L (Zm.mk zn r1.2.2.2.1 zb zh zj (Zl.mk r1.2.2.2.2.1 r1.2.2.2.2.2)) zp zd zy r5 hr5
  refine zc [0] (iv r5) [(Zk (Zm.mk zn r1.2.2.2.1 zb zh zj (Zl.mk r1.2.2.2.2.1 r1.2.2.2.2.2)) zp zd), (Zq b1 zH zE), [(.p (.lst or4_0_0 (r4.map Zz)))], (Zq r3 .sh .sh)] er5<|zq ?_
  refine za (r5 == 45) ?_ ?_
  ·refine ze<|zq<|zq<|zq<|zi fun r6 hr6 => ?_
   obtain ⟨qr6, er6, exr6, rfl⟩ := Z1j 22 r1.2.2.2.1 zn r1.2.2.2.1 zb zh zj r1.2.2.2.2.1 r1.2.2.2.2.2 zp zd zy r6 hr6
   refine zc [0] (.p (.tup [])) [(Zk (Zm.mk zn r6.1 zb zh zj (Zl.mk r6.2.1 r6.2.2)) zp zd), (Zq b1 zH zE), [(.p (.lst or4_0_0 (r4.map Zz)))], (Zq r3 .sh .sh)] er6 ?_
   exact zk (Z2J x1 x5 x8 zn r6.1 zb zh zj r6.2.1 r6.2.2 b1 r4 zp zd zH zE or4_0_0 zy z18 z10)
  ·exact zk (Z2J x1 x5 x8 zn r1.2.2.2.1 zb zh zj r1.2.2.2.2.1 r1.2.2.2.2.2 b1 r4 zp zd zH zE or4_0_0 zy z18 z10)
 ·exact zk (ZgA x1 x5 x8 x9 r1.1 zn r1.2.2.2.1 zb zh zj r1.2.2.2.2.1 r1.2.2.2.2.2 b1 z11 zp zd zH zE z1U zy z18 z10)
def Z4O (x1 : Int) (x5 : Bool) (x8 : Int) (zn : List Int) (zu zb zh : Int) (zj : List Zv) (z2 z6 : Int) (z11 : List Zc) : Option (Z7 × Int × Int × Int) :=
 (Z2C (Zm.mk zn zu zb zh zj (Zl.mk z2 z6))).bind fun r1 =>
 if (r1 == (-1)) = true then
 ((Z1g 22 x1 zn z2 z6).bind fun r2 =>
 Z1T x1 x5 x8 zn r2.1 zb zh zj r2.2.1 r2.2.2 z11)
 else
 (if (r1 == 93) = true then
 (if (x8 == 0) = true then
 ((Z1g 22 x1 zn z2 z6).bind fun r3 =>
 Z1T x1 x5 x8 zn r3.1 zb zh zj r3.2.1 r3.2.2 z11)
 else
 (Z7h x5 zn zu z2 z6 z11))
 else
 (if (r1 == 91) = true then
 (if (r1 == 91) = true then
 ((Z1g 22 zu zn z2 z6).bind fun r4 =>
 Z1T x1 x5 x8 zn r4.1 zb zh zj r4.2.1 r4.2.2 z11)
 else
 (Z5R x1 x5 x8 zu zn zu zb zh zj z2 z6 z11))
 else
 (if (r1 == 45) = true then
 ((Z1g 22 zu zn z2 z6).bind fun r5 =>
 Z1T x1 x5 x8 zn r5.1 zb zh zj r5.2.1 r5.2.2 z11)
 else
 (Z5R x1 x5 x8 zu zn zu zb zh zj z2 z6 z11))))
theorem Zhq x1 x5 x8 zn zu zb zh zj z2 z6 b1 (z11 : List Zc) zp zd zH zE z1U (zy : ZL zd = true) (z18 : ZL zH = true) (z10 : ZL zE = true) : Sim (Z1L zn zb zh zj zp zd) (Z4O x1 x5 x8 zn zu zb zh zj z2 z6 z11) (Zss 1 (.ptr 0 0) (iv x1) (.ptr 1 0) (bv x5) (.ptr 2 0) (.clo 151 [] [(.ptr 2 0)]) (iv x8) [(Zk (Zm.mk zn zu zb zh zj (Zl.mk z2 z6)) zp zd), (Zq b1 zH zE), [(.p (.lst z1U (z11.map Zz)))]]) := by
 unfold Z4O
 refine zf (ZyI ..)<|ze<|zq<|zq<|zq<|ze<|zi fun r1 hr1 => ?_
 obtain ⟨qr1, er1, exr1, rfl⟩ := Z2L (Zm.mk zn zu zb zh zj (Zl.mk z2 z6)) zp zd zy r1 hr1
 refine zc [0] (iv r1) [(Zk (Zm.mk zn zu zb zh zj (Zl.mk z2 z6)) zp zd), (Zq b1 zH zE), [(.p (.lst z1U (z11.map Zz)))]] er1<|ze<|ze<|zq ?_
 refine za (r1 == (-1)) ?_ ?_
 ·refine ze<|zi fun r2 hr2 => ?_
  obtain ⟨qr2, er2, exr2, rfl⟩ := Z1j 22 x1 zn zu zb zh zj z2 z6 zp zd zy r2 hr2
  refine zc [0] (.p (.tup [])) [(Zk (Zm.mk zn r2.1 zb zh zj (Zl.mk r2.2.1 r2.2.2)) zp zd), (Zq b1 zH zE), [(.p (.lst z1U (z11.map Zz)))]] er2 ?_
  exact zk (Z2J x1 x5 x8 zn r2.1 zb zh zj r2.2.1 r2.2.2 b1 z11 zp zd zH zE z1U zy z18 z10)
 ·refine ze<|zq ?_
  refine za (r1 == 93) ?_ ?_
  ·refine ze<|zq ?_
   refine za (x8 == 0) ?_ ?_
   ·refine ze<|zi fun r3 hr3 => ?_
    obtain ⟨qr3, er3, exr3, rfl⟩ := Z1j 22 x1 zn zu zb zh zj z2 z6 zp zd zy r3 hr3
    refine zc [0] (.p (.tup [])) [(Zk (Zm.mk zn r3.1 zb zh zj (Zl.mk r3.2.1 r3.2.2)) zp zd), (Zq b1 zH zE), [(.p (.lst z1U (z11.map Zz)))]] er3 ?_
    exact zk (Z2J x1 x5 x8 zn r3.1 zb zh zj r3.2.1 r3.2.2 b1 z11 zp zd zH zE z1U zy z18 z10)
   ·exact zk (Zgz x5 zn zu zb zh zj z2 z6 b1 z11 zp zd zH zE z1U zy z18 z10)
  ·refine ze<|zq ?_
   refine za (r1 == 91) ?_ ?_
   ·refine za (r1 == 91) ?_ ?_
    ·refine ze<|zi fun r4 hr4 => ?_
     obtain ⟨qr4, er4, exr4, rfl⟩ := Z1j 22 zu zn zu zb zh zj z2 z6 zp zd zy r4 hr4
     refine zc [0] (.p (.tup [])) [(Zk (Zm.mk zn r4.1 zb zh zj (Zl.mk r4.2.1 r4.2.2)) zp zd), (Zq b1 zH zE), [(.p (.lst z1U (z11.map Zz)))]] er4 ?_
     exact zk (Z2J x1 x5 x8 zn r4.1 zb zh zj r4.2.1 r4.2.2 b1 z11 zp zd zH zE z1U zy z18 z10)
    ·exact zk (Zb4 x1 x5 x8 zu zn zu zb zh zj z2 z6 b1 z11 zp zd zH zE z1U zy z18 z10)
   ·refine ze<|zq ?_
    refine za (r1 == 45) ?_ ?_
    ·refine ze<|zi fun r5 hr5 => ?_
     obtain ⟨qr5, er5, exr5, rfl⟩ := Z1j 22 zu zn zu zb zh zj z2 z6 zp zd zy r5 hr5
     refine zc [0] (.p (.tup [])) [(Zk (Zm.mk zn r5.1 zb zh zj (Zl.mk r5.2.1 r5.2.2)) zp zd), (Zq b1 zH zE), [(.p (.lst z1U (z11.map Zz)))]] er5 ?_
     exact zk (Z2J x1 x5 x8 zn r5.1 zb zh zj r5.2.1 r5.2.2 b1 z11 zp zd zH zE z1U zy z18 z10)
    ·exact zk (Zb4 x1 x5 x8 zu zn zu zb zh zj z2 z6 b1 z11 zp zd zH zE z1U zy z18 z10)
def Z9h (zu z2 z6 : Int) : Option (Z7 × Int × Int × Int) :=
 some ((Z7.mk 0 0 0 0 0 ([] : List Zc) ([] : List Z7)), zu, z2, z6)
theorem ZgC zn zu zb zh zj z2 z6 b1 zp zd zH zE (zy : ZL zd = true) (z18 : ZL zH = true) (z10 : ZL zE = true) : Sim (Z1L zn zb zh zj zp zd) (Z9h zu z2 z6) (Zqf 1 (.ptr 1 0) [(Zk (Zm.mk zn zu zb zh zj (Zl.mk z2 z6)) zp zd), (Zq b1 zH zE)]) := by
 unfold Z9h
 refine zf (Zx6 ..)<|ze<|zq<|zt [(Zk (Zm.mk zn zu zb zh zj (Zl.mk z2 z6)) zp zd), (Zq (Z7.mk 0 0 0 0 0 ([] : List Zc) ([] : List Z7)) .nl .nl)] ?_
 exact zr ((.p (.agg (ZG (Z7.mk 0 0 0 0 0 ([] : List Zc) ([] : List Z7)) .sh .sh))), [(Zk (Zm.mk zn zu zb zh zj (Zl.mk z2 z6)) zp zd), (Zq (Z7.mk 0 0 0 0 0 ([] : List Zc) ([] : List Z7)) .nl .nl)]) ⟨_, rfl⟩
def Z6d (x1 : Int) (x5 : Bool) (x8 : Int) (zn : List Int) (zu zb zh : Int) (zj : List Zv) (z2 z6 : Int) (z11 : List Zc) : Option (Z7 × Int × Int × Int) :=
 if (z2 == 0) = true then
 (Z4O x1 x5 x8 zn zu zb zh zj z2 z6 z11)
 else
 (Z9h zu z2 z6)
theorem Zhp x1 x5 x8 zn zu zb zh zj z2 z6 b1 (z11 : List Zc) zp zd zH zE z1U (zy : ZL zd = true) (z18 : ZL zH = true) (z10 : ZL zE = true) : Sim (Z1L zn zb zh zj zp zd) (Z6d x1 x5 x8 zn zu zb zh zj z2 z6 z11) (ZiL 1 (.ptr 0 0) (iv x1) (.ptr 1 0) (bv x5) (.ptr 2 0) (.clo 151 [] [(.ptr 2 0)]) (iv x8) [(Zk (Zm.mk zn zu zb zh zj (Zl.mk z2 z6)) zp zd), (Zq b1 zH zE), [(.p (.lst z1U (z11.map Zz)))]]) := by
 unfold Z6d
 refine zf (ZyG ..)<|ze<|zq<|zq<|zq<|zq<|zq ?_
 refine za (z2 == 0) ?_ ?_
 ·exact zk (Zhq x1 x5 x8 zn zu zb zh zj z2 z6 b1 z11 zp zd zH zE z1U zy z18 z10)
 ·exact zk (ZgC zn zu zb zh zj z2 z6 b1 zp zd zH zE zy z18 z10)
theorem ZbO (x1 : Int) (x5 : Bool) (x8 : Int) (zn : List Int) (zu zb zh : Int) (zj : List Zv) (z2 z6 : Int) (z11 : List Zc) {r} (h : Z6d x1 x5 x8 zn zu zb zh zj z2 z6 z11 = some r) : Z4b x1 x5 x8 zn zu zb zh zj z2 z6 z11 = some r :=
 Z1a (fun _ _ ha hb => RRun.uniq (ZdV _ _ _ _ _ _) (ha default .ex .ex .ex .ex .ex rfl rfl rfl) (hb default .ex .ex .ex .ex .ex rfl rfl rfl)) (fun b1 zp zd zH zE z1U zy z18 z10 => Zhp x1 x5 x8 zn zu zb zh zj z2 z6 b1 z11 zp zd zH zE z1U zy z18 z10 r h)
def Z5k (x2 x5 : Int) (zn : List Int) (zu zb zh : Int) (zj : List Zv) (z2 z6 : Int) : Option (Int × (Own × (List Zc)) × Bool × Int × Int × Int) :=
 (Z7v x2 x5 zn zu zb zh zj z2 z6).bind fun r1 =>
 some (r1.1, (.nl, ([] : List Zc)), false, r1.2.1, r1.2.2.1, r1.2.2.2)
theorem Zg6 x2 x5 zn zu zb zh zj z2 z6 zp zd (zy : ZL zd = true) : Sim (Z3X zn zb zh zj zp zd) (Z5k x2 x5 zn zu zb zh zj z2 z6) (Zqk 1 (.ptr 0 0) (iv x2) (iv x5) [(Zk (Zm.mk zn zu zb zh zj (Zl.mk z2 z6)) zp zd)]) := by
 unfold Z5k
 refine zf (Zxg ..)<|ze<|zi fun r1 hr1 => ?_
 obtain ⟨qr1, er1, exr1, rfl⟩ := Zdu x2 x5 zn zu zb zh zj z2 z6 zp zd zy r1 hr1
 refine zc [0] (iv r1.1) [(Zk (Zm.mk zn r1.2.1 zb zh zj (Zl.mk r1.2.2.1 r1.2.2.2)) zp zd)] er1 ?_
 exact zr ((.p (.tup [(.v (.int .i64 r1.1)), (.lst .nl []), (.v (.bool false))])), [(Zk (Zm.mk zn r1.2.1 zb zh zj (Zl.mk r1.2.2.1 r1.2.2.2)) zp zd)]) ⟨_, rfl⟩
def Z7l (x2 x5 : Int) (zn : List Int) (zu zb zh : Int) (zj : List Zv) (z2 z6 : Int) : Option (Int × (Own × (List Zc)) × Bool × Int × Int × Int) :=
 (Z3d zn zu).bind fun r1 =>
 (Z7C x2).bind fun r2 =>
 (nilO (shrO r2.1) r2.2).bind fun a3 =>
 if (!a3) = true then
 (some (0, ((shrO r2.1), r2.2), (decide (x2 < 97)), r1.2, z2, z6))
 else
 (Z5k x2 x5 zn r1.2 zb zh zj z2 z6)
theorem ZgH x2 x5 zn zu zb zh zj z2 z6 zp zd (zy : ZL zd = true) : Sim (Z3X zn zb zh zj zp zd) (Z7l x2 x5 zn zu zb zh zj z2 z6) (ZsF 1 (.ptr 0 0) (iv x2) (iv x5) [(Zk (Zm.mk zn zu zb zh zj (Zl.mk z2 z6)) zp zd)]) := by
 unfold Z7l
 refine zf (ZyU ..)<|ze<|zi fun r1 hr1 => ?_
 obtain ⟨qr1, er1, exr1, rfl⟩ := Z3L zn zu zb zh zj z2 z6 zp zd zy r1 hr1
 refine zc [0] (iv r1.1) [(Zk (Zm.mk zn r1.2 zb zh zj (Zl.mk z2 z6)) zp zd)] er1<|ze<|zi fun r2 hr2 => ?_
 obtain ⟨qr2, er2, exr2, rfl⟩ := ZbE x2 r2 hr2
 refine zc [] (.p (.lst r2.1 (r2.2.map Zz))) [(Zk (Zm.mk zn r1.2 zb zh zj (Zl.mk z2 z6)) zp zd)] er2<|ze<|zi fun a3 ha3 => ?_
 refine zo (bv (!a3)) ?_ (Eq.trans (by kernel_rfl) (ZnC (P := PP) (t := 94) (c := .slice none 0 0) (e := Zz) (by kernel_rfl) ha3))
 refine za (!a3) ?_ ?_
 ·refine ze<|zq ?_
  exact zr ((.p (.tup [(.v (.int .i64 0)), (.lst (shrO r2.1) (r2.2.map Zz)), (.v (.bool (decide (x2 < 97))))])), [(Zk (Zm.mk zn r1.2 zb zh zj (Zl.mk z2 z6)) zp zd)]) ⟨_, rfl⟩
 ·exact zk (Zg6 x2 x5 zn r1.2 zb zh zj z2 z6 zp zd zy)
def Z7k (x5 : Int) (zn : List Int) (zu zb zh : Int) (zj : List Zv) (z2 z6 : Int) : Option (Int × (Own × (List Zc)) × Bool × Int × Int × Int) :=
 (Z2C (Zm.mk zn zu zb zh zj (Zl.mk z2 z6))).bind fun r1 =>
 if (decide (r1 < 0)) = true then
 ((Z1g 21 x5 zn z2 z6).bind fun r2 =>
 some (0, (.nl, ([] : List Zc)), false, r2.1, r2.2.1, r2.2.2))
 else
 (Z7l r1 x5 zn zu zb zh zj z2 z6)
theorem ZgG x5 zn zu zb zh zj z2 z6 zp zd (zy : ZL zd = true) : Sim (Z3X zn zb zh zj zp zd) (Z7k x5 zn zu zb zh zj z2 z6) (ZsE 1 (.ptr 0 0) (iv x5) [(Zk (Zm.mk zn zu zb zh zj (Zl.mk z2 z6)) zp zd)]) := by
 unfold Z7k
 refine zf (ZyT ..)<|ze<|zi fun r1 hr1 => ?_
 obtain ⟨qr1, er1, exr1, rfl⟩ := Z2L (Zm.mk zn zu zb zh zj (Zl.mk z2 z6)) zp zd zy r1 hr1
 refine zc [0] (iv r1) [(Zk (Zm.mk zn zu zb zh zj (Zl.mk z2 z6)) zp zd)] er1<|ze<|zq ?_
 refine za (decide (r1 < 0)) ?_ ?_
 ·refine ze<|zi fun r2 hr2 => ?_
  obtain ⟨qr2, er2, exr2, rfl⟩ := Z1j 21 x5 zn zu zb zh zj z2 z6 zp zd zy r2 hr2
  refine zc [0] (.p (.tup [])) [(Zk (Zm.mk zn r2.1 zb zh zj (Zl.mk r2.2.1 r2.2.2)) zp zd)] er2<|ze ?_
  exact zr ((.p (.tup [(.v (.int .i64 0)), (.lst .nl []), (.v (.bool false))])), [(Zk (Zm.mk zn r2.1 zb zh zj (Zl.mk r2.2.1 r2.2.2)) zp zd)]) ⟨_, rfl⟩
 ·exact zk (ZgH r1 x5 zn zu zb zh zj z2 z6 zp zd zy)
def Z6W (zn : List Int) (zu zb zh : Int) (zj : List Zv) (z2 z6 : Int) : Option (Int × (Own × (List Zc)) × Bool × Int × Int × Int) :=
 (Z3d zn zu).bind fun r1 =>
 if (r1.1 != 92) = true then
 (some (r1.1, (.nl, ([] : List Zc)), false, r1.2, z2, z6))
 else
 (Z7k zu zn r1.2 zb zh zj z2 z6)
theorem Ziv zn zu zb zh zj z2 z6 zp zd (zy : ZL zd = true) : Sim (Z3X zn zb zh zj zp zd) (Z6W zn zu zb zh zj z2 z6) (EE 153 [(.ptr 0 0)] [(Zk (Zm.mk zn zu zb zh zj (Zl.mk z2 z6)) zp zd)]) := by
 unfold Z6W
 refine zf (ZEH ..)<|ze<|ze<|zq<|zq<|zq<|ze<|zi fun r1 hr1 => ?_
 obtain ⟨qr1, er1, exr1, rfl⟩ := Z3L zn zu zb zh zj z2 z6 zp zd zy r1 hr1
 refine zc [0] (iv r1.1) [(Zk (Zm.mk zn r1.2 zb zh zj (Zl.mk z2 z6)) zp zd)] er1<|ze<|zq ?_
 refine za (r1.1 != 92) ?_ ?_
 ·refine ze ?_
  exact zr ((.p (.tup [(.v (.int .i64 r1.1)), (.lst .nl []), (.v (.bool false))])), [(Zk (Zm.mk zn r1.2 zb zh zj (Zl.mk z2 z6)) zp zd)]) ⟨_, rfl⟩
 ·exact zk (ZgG zu zn r1.2 zb zh zj z2 z6 zp zd zy)
theorem Zcw (zn : List Int) (zu zb zh : Int) (zj : List Zv) (z2 z6 : Int) {r} (h : Z6W zn zu zb zh zj z2 z6 = some r) : Z5D zn zu zb zh zj z2 z6 = some r :=
 Z1a (fun _ _ ha hb => RRun.uniq (ZjH _ _ _ _ _ _) (ha .ex .ex rfl) (hb .ex .ex rfl)) (fun zp zd zy => Ziv zn zu zb zh zj z2 z6 zp zd zy r h)
end Go.Proofs.YteoeggbihfnbfaaGreatDoor.N2
end
