/- The functions' typed texts. No condition. -/
import Derived.Test.YteoeggbihfnbfaaGreatDoorTypA

noncomputable section
set_option linter.unusedSimpArgs false
set_option linter.unusedVariables false
namespace Go.Proofs.YteoeggbihfnbfaaGreatDoor.N2
open Go Go.Abs
set_option linter.unusedVariables false
set_option maxRecDepth 100000
def Z46  : Option (Bool) :=
 some (true)
theorem Z8y  : Sim (Z2T) (Z46) (Zuw 0  []) := by
 unfold Z46
 refine zf (ZCN ..)<|ze ?_
 exact zr ((bv true), []) ⟨_, rfl⟩
def Z4Y (b0 : Zz) (z2s z2H z3m z2X : Int) (z3l : List Int) : Option (Bool) :=
 (ZbG b0 (ZL.mk z2s z2H z3m z2X ([] : List Zw) z3l)).bind fun r1 =>
 (Zb7 b0 (ZL.mk z2s z2H z3m z2X ([] : List Zw) z3l)).bind fun r2 =>
 some ((r1.2.Code == r2.2) && ((r1.2.Rule == 0) && ((r1.2.At == 0) && true)))
theorem Zd1 b0 z2s z2H z3m z2X zcg z3l zB zP zH : Sim (Z2T) (Z4Y b0 z2s z2H z3m z2X z3l) (ZzO 0 (.ptr 0 0) (.ptr 1 0) [(Zv b0 zB), (ZE (ZL.mk z2s z2H z3m z2X zcg z3l) zP zH)]) := by
 unfold Z4Y
 refine zf (ZCO ..)<|ze<|zq<|zt [(Zv b0 zB), (ZE (ZL.mk z2s z2H z3m z2X ([] : List Zw) z3l) .nl zH)]<|ze<|zq<|zq<|zi fun r1 hr1 => ?_
 obtain ⟨qr1, er1, exr1, rfl⟩ := ZnV b0 (ZL.mk z2s z2H z3m z2X ([] : List Zw) z3l) .sh .sh .sh r1 hr1
 refine zc [] (.p (.tup [(.agg (Z1e r1.1 .sh)), (.agg (Z19 r1.2))])) [(Zv b0 zB), (ZE (ZL.mk z2s z2H z3m z2X ([] : List Zw) z3l) .nl zH)] er1<|zq<|zq<|zz (.ptr 2 0) [(Zv b0 zB), (ZE (ZL.mk z2s z2H z3m z2X ([] : List Zw) z3l) .nl zH), (Zv (Zz.mk 0 0 0 0 ([] : List Zw)) .nl)]<|zz (.ptr 3 0) [(Zv b0 zB), (ZE (ZL.mk z2s z2H z3m z2X ([] : List Zw) z3l) .nl zH), (Zv (Zz.mk 0 0 0 0 ([] : List Zw)) .nl), (ZR (ZJ.mk 0 0 0))]<|zt [(Zv b0 zB), (ZE (ZL.mk z2s z2H z3m z2X ([] : List Zw) z3l) .nl zH), (Zv r1.1 .sh), (ZR (ZJ.mk 0 0 0))]<|zt [(Zv b0 zB), (ZE (ZL.mk z2s z2H z3m z2X ([] : List Zw) z3l) .nl zH), (Zv r1.1 .sh), (ZR r1.2)]<|ze<|zq<|zq<|zi fun r2 hr2 => ?_
 obtain ⟨qr2, er2, exr2, rfl⟩ := Zk6 b0 (ZL.mk z2s z2H z3m z2X ([] : List Zw) z3l) .sh .sh .sh r2 hr2
 refine zc [] (.p (.tup [(.agg (Z1e r2.1 .sh)), (.v (.int .i64 r2.2))])) [(Zv b0 zB), (ZE (ZL.mk z2s z2H z3m z2X ([] : List Zw) z3l) .nl zH), (Zv r1.1 .sh), (ZR r1.2)] er2<|zq<|zq<|zz (.ptr 4 0) [(Zv b0 zB), (ZE (ZL.mk z2s z2H z3m z2X ([] : List Zw) z3l) .nl zH), (Zv r1.1 .sh), (ZR r1.2), (Zv (Zz.mk 0 0 0 0 ([] : List Zw)) .nl)]<|zt [(Zv b0 zB), (ZE (ZL.mk z2s z2H z3m z2X ([] : List Zw) z3l) .nl zH), (Zv r1.1 .sh), (ZR r1.2), (Zv r2.1 .sh)]<|ze<|zq<|zq ?_
 refine zo (bv ((r1.2.Code == r2.2) && ((r1.2.Rule == 0) && ((r1.2.At == 0) && true)))) ?_ (Eq.trans (b := xbin PP .eql 32 (.p (.agg (Z19 r1.2))) (.p (.agg (Z19 (ZJ.mk r2.2 0 0))))) (by kernel_rfl) (Zpi (by kernel_rfl) (by kernel_rfl) (by kernel_rfl) (by kernel_rfl) (by kernel_rfl)))
 exact zr ((bv ((r1.2.Code == r2.2) && ((r1.2.Rule == 0) && ((r1.2.At == 0) && true)))), [(Zv b0 zB), (ZE (ZL.mk z2s z2H z3m z2X ([] : List Zw) z3l) .nl zH), (Zv r1.1 .sh), (ZR r1.2), (Zv r2.1 .sh)]) ⟨_, rfl⟩
def Z4X (b0 : Zz) (z2s z2H z3m z2X : Int) (zcg : List Zw) (z3l : List Int) : Option (Bool) :=
 (Z8z b0 (ZL.mk z2s z2H z3m z2X zcg z3l)).bind fun r1 =>
 if (!r1) = true then
 (Z46)
 else
 ((Z7t b0).bind fun r2 =>
 if (r2.Code != 0) = true then
 (Z46)
 else
 (Z4Y b0 z2s z2H z3m z2X z3l))
theorem Zd0 b0 z2s z2H z3m z2X zcg z3l zB zP zH : Sim (Z2T) (Z4X b0 z2s z2H z3m z2X zcg z3l) (ZzN 0 (.ptr 0 0) (.ptr 1 0) [(Zv b0 zB), (ZE (ZL.mk z2s z2H z3m z2X zcg z3l) zP zH)]) := by
 unfold Z4X
 refine zf (ZCM ..)<|ze<|zq<|zq<|zi fun r1 hr1 => ?_
 obtain ⟨qr1, er1, exr1, rfl⟩ := Zj9 b0 (ZL.mk z2s z2H z3m z2X zcg z3l) .sh .sh .sh r1 hr1
 refine zc [] (bv r1) [(Zv b0 zB), (ZE (ZL.mk z2s z2H z3m z2X zcg z3l) zP zH)] er1<|zq ?_
 refine za (!r1) ?_ ?_
 ·exact zk (Z8y )
 ·refine zq<|zi fun r2 hr2 => ?_
  obtain ⟨qr2, er2, exr2, rfl⟩ := Zah b0 .sh r2 hr2
  refine zc [] (.p (.agg (Z19 r2))) [(Zv b0 zB), (ZE (ZL.mk z2s z2H z3m z2X zcg z3l) zP zH)] er2<|zq<|zq ?_
  refine za (r2.Code != 0) ?_ ?_
  ·exact zk (Z8y )
  ·exact zk (Zd1 b0 z2s z2H z3m z2X zcg z3l zB zP zH)
def Z5V (x0 : Zz) (x1 : ZL) : Option (Bool) :=
 (Z8a).bind fun r1 =>
 if (!r1) = true then
 (some (false))
 else
 (Z4X x0 x1.Default x1.Closed x1.Fuel x1.Stack x1.Put x1.Drop)
theorem Zex x0 x1 zW z1H z1E : Sim (Z2T) (Z5V x0 x1) (EE 6 [(.p (.agg (Z1e x0 zW))), (.p (.agg (Z2J x1 z1H z1E)))] []) := by
 unfold Z5V
 refine zf (ZHb ..)<|ze<|zx (.ptr 0 0) [(Zv x0 zW)]<|zx (.ptr 1 0) [(Zv x0 zW), (ZE x1 z1H z1E)]<|ze<|zi fun r1 hr1 => ?_
 obtain ⟨qr1, er1, exr1, rfl⟩ := Zid  r1 hr1
 refine zc [] (bv r1) [(Zv x0 zW), (ZE x1 z1H z1E)] er1<|zq ?_
 refine za (!r1) ?_ ?_
 ·refine ze ?_
  exact zr ((bv false), [(Zv x0 zW), (ZE x1 z1H z1E)]) ⟨_, rfl⟩
 ·exact zk (Zd0 x0 x1.Default x1.Closed x1.Fuel x1.Stack x1.Put x1.Drop zW z1H z1E)
theorem Zf5 (x0 : Zz) (x1 : ZL) {r} (h : Z5V x0 x1 = some r) : Z7V x0 x1 = some r :=
 Z1a (fun _ _ ha hb => RRun.uniq Zfg (ha .ex .ex .ex) (hb .ex .ex .ex)) (fun zW z1H z1E => Zex x0 x1 zW z1H z1E r h)
def Z85  : Option (Bool) :=
 (Zcu).bind fun r1 =>
 (Z5a (ByteArray.mk #[97, 42, 42])).bind fun r2 =>
 if ((r2.Code == 23) && ((r2.Rule == 0) && ((r2.At == 2) && true))) = true then
 ((Z7t (Zz.mk r1.Default r1.Closed r1.Fuel r1.Stack ([(Zw.mk 3 0 0 1 (ByteArray.mk #[40])), (Zw.mk 7 0 0 1 (ByteArray.mk #[41]))] : List Zw))).bind fun r3 =>
 if ((r3.Code == 20) && ((r3.Rule == 3) && ((r3.At == 0) && true))) = true then
 ((Zcu).bind fun r4 =>
 (Z7t r4).bind fun r5 =>
 some ((r5.Code == 0) && ((r5.Rule == 0) && ((r5.At == 0) && true))))
 else
 (some (false)))
 else
 (some (false))
theorem ZhO  : Sim (Z6p) (Z85) (EE 14 [] []) := by
 unfold Z85
 refine zf (ZFV ..)<|ze<|ze<|zi fun r1 hr1 => ?_
 obtain ⟨qr1, er1, exr1, rfl⟩ := Zk7  r1 hr1
 refine zc [] (.p (.agg (Z1e r1 .sh))) [] er1<|zz (.ptr 0 0) [(Zv (Zz.mk 0 0 0 0 ([] : List Zw)) .nl)]<|zt [(Zv r1 .sh)]<|ze<|zq<|zq<|zq<|zq<|zt [(Zv (Zz.mk r1.Default r1.Closed r1.Fuel r1.Stack ([(Zw.mk 3 0 0 1 (ByteArray.mk #[40])), (Zw.mk 7 0 0 1 (ByteArray.mk #[41]))] : List Zw)) .ex)]<|ze<|zi fun r2 hr2 => ?_
 obtain ⟨qr2, er2, exr2, rfl⟩ := ZfH (ByteArray.mk #[97, 42, 42]) r2 hr2
 refine zc [] (.p (.agg (Z19 r2))) [(Zv (Zz.mk r1.Default r1.Closed r1.Fuel r1.Stack ([(Zw.mk 3 0 0 1 (ByteArray.mk #[40])), (Zw.mk 7 0 0 1 (ByteArray.mk #[41]))] : List Zw)) .ex)] er2<|zq ?_
 refine zo (bv ((r2.Code == 23) && ((r2.Rule == 0) && ((r2.At == 2) && true)))) ?_ (Eq.trans (b := xbin PP .eql 32 (.p (.agg (Z19 r2))) (.p (.agg (Z19 (ZJ.mk 23 0 2))))) (by kernel_rfl) (Zpi (by kernel_rfl) (by kernel_rfl) (by kernel_rfl) (by kernel_rfl) (by kernel_rfl)))
 refine za ((r2.Code == 23) && ((r2.Rule == 0) && ((r2.At == 2) && true))) ?_ ?_
 ·refine zq<|zi fun r3 hr3 => ?_
  obtain ⟨qr3, er3, exr3, rfl⟩ := Zah (Zz.mk r1.Default r1.Closed r1.Fuel r1.Stack ([(Zw.mk 3 0 0 1 (ByteArray.mk #[40])), (Zw.mk 7 0 0 1 (ByteArray.mk #[41]))] : List Zw)) .sh r3 hr3
  refine zc [] (.p (.agg (Z19 r3))) [(Zv (Zz.mk r1.Default r1.Closed r1.Fuel r1.Stack ([(Zw.mk 3 0 0 1 (ByteArray.mk #[40])), (Zw.mk 7 0 0 1 (ByteArray.mk #[41]))] : List Zw)) .ex)] er3<|zq ?_
  refine zo (bv ((r3.Code == 20) && ((r3.Rule == 3) && ((r3.At == 0) && true)))) ?_ (Eq.trans (b := xbin PP .eql 32 (.p (.agg (Z19 r3))) (.p (.agg (Z19 (ZJ.mk 20 3 0))))) (by kernel_rfl) (Zpi (by kernel_rfl) (by kernel_rfl) (by kernel_rfl) (by kernel_rfl) (by kernel_rfl)))
  refine za ((r3.Code == 20) && ((r3.Rule == 3) && ((r3.At == 0) && true))) ?_ ?_
  ·refine zi fun r4 hr4 => ?_
   obtain ⟨qr4, er4, exr4, rfl⟩ := Zk7  r4 hr4
   refine zc [] (.p (.agg (Z1e r4 .sh))) [(Zv (Zz.mk r1.Default r1.Closed r1.Fuel r1.Stack ([(Zw.mk 3 0 0 1 (ByteArray.mk #[40])), (Zw.mk 7 0 0 1 (ByteArray.mk #[41]))] : List Zw)) .ex)] er4<|zi fun r5 hr5 => ?_
   obtain ⟨qr5, er5, exr5, rfl⟩ := Zah r4 .sh r5 hr5
   refine zc [] (.p (.agg (Z19 r5))) [(Zv (Zz.mk r1.Default r1.Closed r1.Fuel r1.Stack ([(Zw.mk 3 0 0 1 (ByteArray.mk #[40])), (Zw.mk 7 0 0 1 (ByteArray.mk #[41]))] : List Zw)) .ex)] er5<|zq ?_
   refine zo (bv ((r5.Code == 0) && ((r5.Rule == 0) && ((r5.At == 0) && true)))) ?_ (Eq.trans (b := xbin PP .eql 32 (.p (.agg (Z19 r5))) (.p (.agg (Z19 (ZJ.mk 0 0 0))))) (by kernel_rfl) (Zpi (by kernel_rfl) (by kernel_rfl) (by kernel_rfl) (by kernel_rfl) (by kernel_rfl)))
   exact zr ((bv ((r5.Code == 0) && ((r5.Rule == 0) && ((r5.At == 0) && true)))), [(Zv (Zz.mk r1.Default r1.Closed r1.Fuel r1.Stack ([(Zw.mk 3 0 0 1 (ByteArray.mk #[40])), (Zw.mk 7 0 0 1 (ByteArray.mk #[41]))] : List Zw)) .ex)]) ⟨_, rfl⟩
  ·exact zr ((bv false), [(Zv (Zz.mk r1.Default r1.Closed r1.Fuel r1.Stack ([(Zw.mk 3 0 0 1 (ByteArray.mk #[40])), (Zw.mk 7 0 0 1 (ByteArray.mk #[41]))] : List Zw)) .ex)]) ⟨_, rfl⟩
 ·exact zr ((bv false), [(Zv (Zz.mk r1.Default r1.Closed r1.Fuel r1.Stack ([(Zw.mk 3 0 0 1 (ByteArray.mk #[40])), (Zw.mk 7 0 0 1 (ByteArray.mk #[41]))] : List Zw)) .ex)]) ⟨_, rfl⟩
theorem Zic  {r} (h : Z85 = some r) : Z8a = some r :=
 Z1a (fun _ _ ha hb => RRun.uniq ZiX (ha ) (hb )) (ZhO  r h)
def ZiZ  : Option (Zz) :=
 some (Zz.mk 0 255 10000 500 ([] : List Zw))
theorem Zqp  : Sim (Zcf) (ZiZ) (EE 43 [] []) := by
 unfold ZiZ
 refine zf (ZGh ..)<|ze<|zz (.ptr 0 0) [(Zv (Zz.mk 0 0 0 0 ([] : List Zw)) .nl)]<|ze<|zq<|zt [(Zv (Zz.mk 0 255 10000 500 ([] : List Zw)) .nl)] ?_
 exact zr ((.p (.agg (Z1e (Zz.mk 0 255 10000 500 ([] : List Zw)) .sh))), [(Zv (Zz.mk 0 255 10000 500 ([] : List Zw)) .nl)]) ⟨_, rfl⟩
theorem Zru  {r} (h : ZiZ = some r) : Zcu = some r :=
 Z1a (fun _ _ ha hb => RRun.uniq Zs2 (ha ) (hb )) (Zqp  r h)
def Z8Y (b1 : ZT) : Option (ZJ) :=
 (Zem b1).bind fun r1 =>
 some (ZJ.mk r1 0 0)
theorem Zjo b0 b1 zcF zbT : Sim (Z7w) (Z8Y b1) (Zvf 0 (.ptr 0 0) (.ptr 1 0) [(ZR b0), (ZU b1 zcF zbT)]) := by
 unfold Z8Y
 refine zf (ZAV ..)<|ze<|zq<|zi fun r1 hr1 => ?_
 obtain ⟨qr1, er1, exr1, rfl⟩ := Zqt b1 .sh .sh r1 hr1
 refine zc [] (iv r1) [(ZR b0), (ZU b1 zcF zbT)] er1<|zq<|zt [(ZR (ZJ.mk r1 0 0)), (ZU b1 zcF zbT)] ?_
 exact zr ((.p (.agg (Z19 (ZJ.mk r1 0 0)))), [(ZR (ZJ.mk r1 0 0)), (ZU b1 zcF zbT)]) ⟨_, rfl⟩
def Z7y (x0 : ByteArray) : Option (ZJ) :=
 (Zej x0).bind fun r1 =>
 if (r1.2.Code != 0) = true then
 (some (ZJ.mk r1.2.Code 0 r1.2.At))
 else
 (Z8Y r1.1)
theorem ZlN x0 : Sim (Z7w) (Z7y x0) (EE 21 [(.p (.v (.string x0)))] []) := by
 unfold Z7y
 refine zf (ZG6 ..)<|ze<|zz (.ptr 0 0) [(ZR (ZJ.mk 0 0 0))]<|ze<|zi fun r1 hr1 => ?_
 obtain ⟨qr1, er1, exr1, rfl⟩ := Zql x0 r1 hr1
 refine zc [] (.p (.tup [(.agg (Z33 r1.1 .sh .sh)), (.agg (Z58 r1.2))])) [(ZR (ZJ.mk 0 0 0))] er1<|zq<|zq<|zz (.ptr 1 0) [(ZR (ZJ.mk 0 0 0)), (ZU (ZT.mk (Z7.mk 0 0 0 0 0 ([] : List Zc) ([] : List Z7)) 0 false) .nl .nl)]<|zz (.ptr 2 0) [(ZR (ZJ.mk 0 0 0)), (ZU (ZT.mk (Z7.mk 0 0 0 0 0 ([] : List Zc) ([] : List Z7)) 0 false) .nl .nl), (Z1z (Zl.mk 0 0))]<|zt [(ZR (ZJ.mk 0 0 0)), (ZU r1.1 .sh .sh), (Z1z (Zl.mk 0 0))]<|zt [(ZR (ZJ.mk 0 0 0)), (ZU r1.1 .sh .sh), (Z1z r1.2)]<|ze<|zq<|zq<|zq ?_
 refine za (r1.2.Code != 0) ?_ ?_
 ·refine ze<|zq<|zq<|zq<|zq<|zq<|zt [(ZR (ZJ.mk r1.2.Code 0 r1.2.At)), (ZU r1.1 .sh .sh), (Z1z r1.2)] ?_
  exact zr ((.p (.agg (Z19 (ZJ.mk r1.2.Code 0 r1.2.At)))), [(ZR (ZJ.mk r1.2.Code 0 r1.2.At)), (ZU r1.1 .sh .sh), (Z1z r1.2)]) ⟨_, rfl⟩
 ·exact zk (Zjo (ZJ.mk 0 0 0) r1.1 .sh .sh)
theorem ZbH (x0 : ByteArray) {r} (h : Z7y x0 = some r) : Z5a x0 = some r :=
 Z1a (fun _ _ ha hb => RRun.uniq ZnI (ha ) (hb )) (ZlN x0 r h)
def Z4R (z2Y : List Int) (z1c : Int) (z1Y : List Zx) (zZ z1g z13 z1j z1i z14 z15 : Int) (z16 : List Zc) (z12 : List Z7) (z1B : Bool) : Option (ZT × Zl) :=
 Z7W z1Y (z1Y.length : Int) 0 z2Y z1c zZ z1g z13 z1j z1i z14 z15 z16 z12 z1B
theorem ZbE b0 b1 z2Y z2P z1c z2v z1Y zZ z1g z13 z1j z1i z14 z15 z16 z12 z2i z1B z1m z1f z3x z1I z1w z1t (z2r : ZN z1m = true) (z2d : ZN z1f = true) (z3N : ZN z1I = true) : Sim (Z3y) (Z4R z2Y z1c z1Y zZ z1g z13 z1j z1i z14 z15 z16 z12 z1B) (Zo4 0 (.ptr 0 0) (.ptr 1 0) (.ptr 2 0) (.ptr 3 0) [(ZU b0 z1m z1f), (Z1z b1), (Zk (Zm.mk z2Y z2P z1c z2v z1Y (Zl.mk zZ z1g)) z3x z1I), (ZU (ZT.mk (Z7.mk z13 z1j z1i z14 z15 z16 z12) z2i z1B) z1w z1t)]) := by
 unfold Z4R
 refine zf (ZB5 ..)<|ze<|zq<|zq<|zq ?_
 refine zo (iv (z1Y.length : Int)) ?_ (Eq.trans (by kernel_rfl) (Z3d (P := PP) (t := 142) (d := 149) (by kernel_rfl) Z2K (shrO z1I) z1Y))
 exact zk (Zg0 z1Y (z1Y.length : Int) 0 b0 b1 z2Y z2P z1c z2v z1Y zZ z1g z13 z1j z1i z14 z15 z16 z12 z2i z1B (shrO z1I) z1m z1f z3x z1I z1w z1t z2r z2d z3N)
def Z99 (z2Y : List Int) (z2P z1c : Int) (z1Y : List Zx) (zZ z1g z13 z1j z1i z14 z15 : Int) (z16 : List Zc) (z12 : List Z7) (z1B : Bool) : Option (ZT × Zl) :=
 (Z1h 20 z2P z2Y zZ z1g).bind fun r1 =>
 Z4R z2Y z1c z1Y r1.2.1 r1.2.2 z13 z1j z1i z14 z15 z16 z12 z1B
theorem Zmv b0 b1 z2Y z2P z1c z2v z1Y zZ z1g z13 z1j z1i z14 z15 z16 z12 z2i z1B z1m z1f z3x z1I z1w z1t (z2r : ZN z1m = true) (z2d : ZN z1f = true) (z3N : ZN z1I = true) : Sim (Z3y) (Z99 z2Y z2P z1c z1Y zZ z1g z13 z1j z1i z14 z15 z16 z12 z1B) (Zvn 0 (.ptr 0 0) (.ptr 1 0) (.ptr 2 0) (.ptr 3 0) [(ZU b0 z1m z1f), (Z1z b1), (Zk (Zm.mk z2Y z2P z1c z2v z1Y (Zl.mk zZ z1g)) z3x z1I), (ZU (ZT.mk (Z7.mk z13 z1j z1i z14 z15 z16 z12) z2i z1B) z1w z1t)]) := by
 unfold Z99
 refine zf (ZB4 ..)<|ze<|zq<|zq<|zq<|zi fun r1 hr1 => ?_
 obtain ⟨qr1, er1, exr1, rfl⟩ := Z1k 20 z2P z2Y z2P z1c z2v z1Y zZ z1g z3x z1I z3N r1 hr1
 refine zc [2] (.p (.tup [])) [(ZU b0 z1m z1f), (Z1z b1), (Zk (Zm.mk z2Y r1.1 z1c z2v z1Y (Zl.mk r1.2.1 r1.2.2)) z3x z1I), (ZU (ZT.mk (Z7.mk z13 z1j z1i z14 z15 z16 z12) z2i z1B) z1w z1t)] er1 ?_
 exact zk (ZbE b0 b1 z2Y r1.1 z1c z2v z1Y r1.2.1 r1.2.2 z13 z1j z1i z14 z15 z16 z12 z2i z1B z1m z1f z3x z1I z1w z1t z2r z2d z3N)
def Zbk (x0 : ByteArray) : Option (ZT × Zl) :=
 (Z1F (ByteArray.mk #[40, 63, 105, 41]) (Z4k x0) 0).bind fun r1 =>
 (Z4l (Z4k x0) r1.2 0 0 ([] : List Zx) 0 0).bind fun r2 =>
 if (r2.2.2.2.2.2.1 == 0) = true then
 (if (decide (r2.2.1 < ((Z4k x0).length : Int))) = true then
 (Z99 (Z4k x0) r2.2.1 r2.2.2.1 r2.2.2.2.2.1 r2.2.2.2.2.2.1 r2.2.2.2.2.2.2 r2.1.Kind r2.1.Lo r2.1.Hi r2.1.Mode r2.1.Ref r2.1.Set r2.1.Kids r1.1)
 else
 (Z4R (Z4k x0) r2.2.2.1 r2.2.2.2.2.1 r2.2.2.2.2.2.1 r2.2.2.2.2.2.2 r2.1.Kind r2.1.Lo r2.1.Hi r2.1.Mode r2.1.Ref r2.1.Set r2.1.Kids r1.1))
 else
 (Z4R (Z4k x0) r2.2.2.1 r2.2.2.2.2.1 r2.2.2.2.2.2.1 r2.2.2.2.2.2.2 r2.1.Kind r2.1.Lo r2.1.Hi r2.1.Mode r2.1.Ref r2.1.Set r2.1.Kids r1.1)
theorem Zmu x0 b0 b1 z1m z1f (z2r : ZN z1m = true) (z2d : ZN z1f = true) : Sim (Z3y) (Zbk x0) (Zvm 0 (.p (.v (.string x0))) (.ptr 0 0) (.ptr 1 0) [(ZU b0 z1m z1f), (Z1z b1)]) := by
 unfold Zbk
 refine zf (ZB3 ..)<|ze ?_
 refine zo (.p (.lst .sh ((Z4k x0).map (eI .u8)))) ?_ (Eq.trans (by kernel_rfl) (ZDu (P := PP) (s := 9) (d := 141) (by kernel_rfl) (by kernel_rfl) x0))
 refine zq<|zx (.ptr 2 0) [(ZU b0 z1m z1f), (Z1z b1), (Zk (Zm.mk (Z4k x0) 0 0 0 ([] : List Zx) (Zl.mk 0 0)) .sh .nl)]<|ze<|zi fun r1 hr1 => ?_
 obtain ⟨qr1, er1, exr1, rfl⟩ := Z1Q (ByteArray.mk #[40, 63, 105, 41]) (Z4k x0) 0 0 0 ([] : List Zx) 0 0 .sh .nl rfl r1 hr1
 refine zc [2] (bv r1.1) [(ZU b0 z1m z1f), (Z1z b1), (Zk (Zm.mk (Z4k x0) r1.2 0 0 ([] : List Zx) (Zl.mk 0 0)) .sh .nl)] er1<|zq<|zz (.ptr 3 0) [(ZU b0 z1m z1f), (Z1z b1), (Zk (Zm.mk (Z4k x0) r1.2 0 0 ([] : List Zx) (Zl.mk 0 0)) .sh .nl), (ZU (ZT.mk (Z7.mk 0 0 0 0 0 ([] : List Zc) ([] : List Z7)) 0 false) .nl .nl)]<|zt [(ZU b0 z1m z1f), (Z1z b1), (Zk (Zm.mk (Z4k x0) r1.2 0 0 ([] : List Zx) (Zl.mk 0 0)) .sh .nl), (ZU (ZT.mk (Z7.mk 0 0 0 0 0 ([] : List Zc) ([] : List Z7)) 0 r1.1) .nl .nl)]<|ze<|zi fun r2 hr2 => ?_
 obtain ⟨qr2, er2, or2_0_4, exr2, hor2_0_4, rfl⟩ := ZeV (Z4k x0) r1.2 0 0 ([] : List Zx) 0 0 .sh .nl rfl r2 hr2
 refine zc [2] (.p (.agg (ZG r2.1 .sh .sh))) [(ZU b0 z1m z1f), (Z1z b1), (Zk (Zm.mk (Z4k x0) r2.2.1 r2.2.2.1 r2.2.2.2.1 r2.2.2.2.2.1 (Zl.mk r2.2.2.2.2.2.1 r2.2.2.2.2.2.2)) .sh or2_0_4), (ZU (ZT.mk (Z7.mk 0 0 0 0 0 ([] : List Zc) ([] : List Z7)) 0 r1.1) .nl .nl)] er2<|zq<|zt [(ZU b0 z1m z1f), (Z1z b1), (Zk (Zm.mk (Z4k x0) r2.2.1 r2.2.2.1 r2.2.2.2.1 r2.2.2.2.2.1 (Zl.mk r2.2.2.2.2.2.1 r2.2.2.2.2.2.2)) .sh or2_0_4), (ZU (ZT.mk (Z7.mk r2.1.Kind r2.1.Lo r2.1.Hi r2.1.Mode r2.1.Ref r2.1.Set r2.1.Kids) 0 r1.1) .sh .sh)]<|ze<|zq<|zq<|zq<|zq<|zq ?_
 refine za (r2.2.2.2.2.2.1 == 0) ?_ ?_
 ·refine zq<|zq<|zq<|zq<|zq<|zq ?_
  refine zo (iv ((Z4k x0).length : Int)) ?_ (Eq.trans (by kernel_rfl) (Z3d (P := PP) (t := 141) (d := 5) (by kernel_rfl) (eI .u8) .sh (Z4k x0)))
  refine zq ?_
  refine za (decide (r2.2.1 < ((Z4k x0).length : Int))) ?_ ?_
  ·exact zk (Zmv b0 b1 (Z4k x0) r2.2.1 r2.2.2.1 r2.2.2.2.1 r2.2.2.2.2.1 r2.2.2.2.2.2.1 r2.2.2.2.2.2.2 r2.1.Kind r2.1.Lo r2.1.Hi r2.1.Mode r2.1.Ref r2.1.Set r2.1.Kids 0 r1.1 z1m z1f .sh or2_0_4 .sh .sh z2r z2d hor2_0_4)
  ·exact zk (ZbE b0 b1 (Z4k x0) r2.2.1 r2.2.2.1 r2.2.2.2.1 r2.2.2.2.2.1 r2.2.2.2.2.2.1 r2.2.2.2.2.2.2 r2.1.Kind r2.1.Lo r2.1.Hi r2.1.Mode r2.1.Ref r2.1.Set r2.1.Kids 0 r1.1 z1m z1f .sh or2_0_4 .sh .sh z2r z2d hor2_0_4)
 ·exact zk (ZbE b0 b1 (Z4k x0) r2.2.1 r2.2.2.1 r2.2.2.2.1 r2.2.2.2.2.1 r2.2.2.2.2.2.1 r2.2.2.2.2.2.2 r2.1.Kind r2.1.Lo r2.1.Hi r2.1.Mode r2.1.Ref r2.1.Set r2.1.Kids 0 r1.1 z1m z1f .sh or2_0_4 .sh .sh z2r z2d hor2_0_4)
def Zee (x0 : ByteArray) : Option (ZT × Zl) :=
 if (decide (256 < (x0.size : Int))) = true then
 (some ((ZT.mk (Z7.mk 0 0 0 0 0 ([] : List Zc) ([] : List Z7)) 0 false), (Zl.mk 12 0)))
 else
 (Zbk x0)
theorem Zpq x0 : Sim (Z3y) (Zee x0) (EE 47 [(.p (.v (.string x0)))] []) := by
 unfold Zee
 refine zf (ZGj ..)<|ze<|zz (.ptr 0 0) [(ZU (ZT.mk (Z7.mk 0 0 0 0 0 ([] : List Zc) ([] : List Z7)) 0 false) .nl .nl)]<|zz (.ptr 1 0) [(ZU (ZT.mk (Z7.mk 0 0 0 0 0 ([] : List Zc) ([] : List Z7)) 0 false) .nl .nl), (Z1z (Zl.mk 0 0))]<|ze<|zq<|zq ?_
 refine za (decide (256 < (x0.size : Int))) ?_ ?_
 ·refine ze<|zq<|zq<|zt [(ZU (ZT.mk (Z7.mk 0 0 0 0 0 ([] : List Zc) ([] : List Z7)) 0 false) .nl .nl), (Z1z (Zl.mk 0 0))]<|zt [(ZU (ZT.mk (Z7.mk 0 0 0 0 0 ([] : List Zc) ([] : List Z7)) 0 false) .nl .nl), (Z1z (Zl.mk 12 0))] ?_
  exact zr ((.p (.tup [(.agg (Z33 (ZT.mk (Z7.mk 0 0 0 0 0 ([] : List Zc) ([] : List Z7)) 0 false) .sh .sh)), (.agg (Z58 (Zl.mk 12 0)))])), [(ZU (ZT.mk (Z7.mk 0 0 0 0 0 ([] : List Zc) ([] : List Z7)) 0 false) .nl .nl), (Z1z (Zl.mk 12 0))]) ⟨_, rfl⟩
 ·exact zk (Zmu x0 (ZT.mk (Z7.mk 0 0 0 0 0 ([] : List Zc) ([] : List Z7)) 0 false) (Zl.mk 0 0) .nl .nl rfl rfl)
theorem Zqk (x0 : ByteArray) {r} (h : Zee x0 = some r) : Zej x0 = some r :=
 Z1a (fun _ _ ha hb => RRun.uniq Zk1 (ha ) (hb )) (Zpq x0 r h)
def Z59 (x50 : List Zx) (x51 x52 : Int) (z2Y : List Int) (z1c zZ z1g z13 z1j z1i z14 z15 : Int) (z16 : List Zc) (z12 : List Z7) (z1B : Bool) : Option (ZT × Zl) :=
 Z7W x50 x51 (IntKind.i64.wrap (x52 + 1)) z2Y z1c zZ z1g z13 z1j z1i z14 z15 z16 z12 z1B
theorem ZeT (x50 : List Zx) x51 x52 b0 b1 z2Y z2P z1c z2v z1Y zZ z1g z13 z1j z1i z14 z15 z16 z12 z2i z1B ox50 z1m z1f z3x z1I z1w z1t (z2r : ZN z1m = true) (z2d : ZN z1f = true) (z3N : ZN z1I = true) : Sim (Z3y) (Z59 x50 x51 x52 z2Y z1c zZ z1g z13 z1j z1i z14 z15 z16 z12 z1B) (Zp6 0 (.ptr 0 0) (.ptr 1 0) (.ptr 2 0) (.ptr 3 0) (.p (.lst ox50 (x50.map Z2K))) (iv x51) (iv x52) [(ZU b0 z1m z1f), (Z1z b1), (Zk (Zm.mk z2Y z2P z1c z2v z1Y (Zl.mk zZ z1g)) z3x z1I), (ZU (ZT.mk (Z7.mk z13 z1j z1i z14 z15 z16 z12) z2i z1B) z1w z1t)]) := by
 unfold Z59
 refine zf (ZzK ..)<|ze<|zq ?_
 exact zk (Zg0 x50 x51 (IntKind.i64.wrap (x52 + 1)) b0 b1 z2Y z2P z1c z2v z1Y zZ z1g z13 z1j z1i z14 z15 z16 z12 z2i z1B ox50 z1m z1f z3x z1I z1w z1t z2r z2d z3N)
def Z8L (x50 : List Zx) (x51 x52 : Int) (z2Y : List Int) (z1c zZ z1g z13 z1j z1i z14 z15 : Int) (z16 : List Zc) (z12 : List Z7) (z1B : Bool) : Option (ZT × Zl) :=
 (lget x50 x52).bind fun a1 =>
 if (decide (z1c < a1.group)) = true then
 ((Z1h 26 a1.at_ z2Y zZ z1g).bind fun r2 =>
 Z59 x50 x51 x52 z2Y z1c r2.2.1 r2.2.2 z13 z1j z1i z14 z15 z16 z12 z1B)
 else
 (Z59 x50 x51 x52 z2Y z1c zZ z1g z13 z1j z1i z14 z15 z16 z12 z1B)
theorem Zls (x50 : List Zx) x51 x52 b0 b1 z2Y z2P z1c z2v z1Y zZ z1g z13 z1j z1i z14 z15 z16 z12 z2i z1B ox50 z1m z1f z3x z1I z1w z1t (z2r : ZN z1m = true) (z2d : ZN z1f = true) (z3N : ZN z1I = true) : Sim (Z3y) (Z8L x50 x51 x52 z2Y z1c zZ z1g z13 z1j z1i z14 z15 z16 z12 z1B) (Ztx 0 (.ptr 0 0) (.ptr 1 0) (.ptr 2 0) (.ptr 3 0) (.p (.lst ox50 (x50.map Z2K))) (iv x51) (iv x52) [(ZU b0 z1m z1f), (Z1z b1), (Zk (Zm.mk z2Y z2P z1c z2v z1Y (Zl.mk zZ z1g)) z3x z1I), (ZU (ZT.mk (Z7.mk z13 z1j z1i z14 z15 z16 z12) z2i z1B) z1w z1t)]) := by
 unfold Z8L
 refine zf (ZzJ ..)<|ze<|zi fun a1 ha1 => ?_
 refine zo (.cptr (ZeI a1)) ?_ (Eq.trans (by kernel_rfl) (Z40 (o := ox50) (k := .i64) (n := 2) (e := Z2K) (cs := ZbC) (fun _ => rfl) (fun _ => rfl) (by decide) ha1))
 refine zq<|zz (.ptr 4 0) [(ZU b0 z1m z1f), (Z1z b1), (Zk (Zm.mk z2Y z2P z1c z2v z1Y (Zl.mk zZ z1g)) z3x z1I), (ZU (ZT.mk (Z7.mk z13 z1j z1i z14 z15 z16 z12) z2i z1B) z1w z1t), (ZeK (Zx.mk 0 0))]<|zt [(ZU b0 z1m z1f), (Z1z b1), (Zk (Zm.mk z2Y z2P z1c z2v z1Y (Zl.mk zZ z1g)) z3x z1I), (ZU (ZT.mk (Z7.mk z13 z1j z1i z14 z15 z16 z12) z2i z1B) z1w z1t), (ZeK a1)]<|ze<|zq<|zq<|zq<|zq<|zq<|zq ?_
 refine za (decide (z1c < a1.group)) ?_ ?_
 ·refine ze<|zq<|zq<|zi fun r2 hr2 => ?_
  obtain ⟨qr2, er2, exr2, rfl⟩ := Z1k 26 a1.at_ z2Y z2P z1c z2v z1Y zZ z1g z3x z1I z3N r2 hr2
  refine zc [2] (.p (.tup [])) [(ZU b0 z1m z1f), (Z1z b1), (Zk (Zm.mk z2Y r2.1 z1c z2v z1Y (Zl.mk r2.2.1 r2.2.2)) z3x z1I), (ZU (ZT.mk (Z7.mk z13 z1j z1i z14 z15 z16 z12) z2i z1B) z1w z1t), (ZeK a1)] er2 ?_
  exact zk (ZeT x50 x51 x52 b0 b1 z2Y r2.1 z1c z2v z1Y r2.2.1 r2.2.2 z13 z1j z1i z14 z15 z16 z12 z2i z1B ox50 z1m z1f z3x z1I z1w z1t z2r z2d z3N)
 ·exact zk (ZeT x50 x51 x52 b0 b1 z2Y z2P z1c z2v z1Y zZ z1g z13 z1j z1i z14 z15 z16 z12 z2i z1B ox50 z1m z1f z3x z1I z1w z1t z2r z2d z3N)
def Zdo (z1c z13 z1j z1i z14 z15 : Int) (z16 : List Zc) (z12 : List Z7) (z1B : Bool) : Option (ZT × Zl) :=
 some ((ZT.mk (Z7.mk z13 z1j z1i z14 z15 z16 z12) z1c z1B), (Zl.mk 0 0))
theorem Zlu b0 b1 z2Y z2P z1c z2v z1Y zZ z1g z13 z1j z1i z14 z15 z16 z12 z2i z1B z1m z1f z3x z1I z1w z1t (z2r : ZN z1m = true) (z2d : ZN z1f = true) (z3N : ZN z1I = true) : Sim (Z3y) (Zdo z1c z13 z1j z1i z14 z15 z16 z12 z1B) (Ztz 0 (.ptr 0 0) (.ptr 1 0) (.ptr 2 0) (.ptr 3 0) [(ZU b0 z1m z1f), (Z1z b1), (Zk (Zm.mk z2Y z2P z1c z2v z1Y (Zl.mk zZ z1g)) z3x z1I), (ZU (ZT.mk (Z7.mk z13 z1j z1i z14 z15 z16 z12) z2i z1B) z1w z1t)]) := by
 unfold Zdo
 refine zf (ZzM ..)<|ze<|zq<|zq<|zq<|zq<|zt [(ZU b0 z1m z1f), (Z1z b1), (Zk (Zm.mk z2Y z2P z1c z2v z1Y (Zl.mk zZ z1g)) z3x z1I), (ZU (ZT.mk (Z7.mk z13 z1j z1i z14 z15 z16 z12) z1c z1B) z1w z1t)]<|ze<|zq<|zq<|zt [(ZU (ZT.mk (Z7.mk z13 z1j z1i z14 z15 z16 z12) z1c z1B) (shrO z1w) (shrO z1t)), (Z1z b1), (Zk (Zm.mk z2Y z2P z1c z2v z1Y (Zl.mk zZ z1g)) z3x z1I), (ZU (ZT.mk (Z7.mk z13 z1j z1i z14 z15 z16 z12) z1c z1B) z1w z1t)]<|zt [(ZU (ZT.mk (Z7.mk z13 z1j z1i z14 z15 z16 z12) z1c z1B) (shrO z1w) (shrO z1t)), (Z1z (Zl.mk 0 0)), (Zk (Zm.mk z2Y z2P z1c z2v z1Y (Zl.mk zZ z1g)) z3x z1I), (ZU (ZT.mk (Z7.mk z13 z1j z1i z14 z15 z16 z12) z1c z1B) z1w z1t)] ?_
 exact zr ((.p (.tup [(.agg (Z33 (ZT.mk (Z7.mk z13 z1j z1i z14 z15 z16 z12) z1c z1B) .sh .sh)), (.agg (Z58 (Zl.mk 0 0)))])), [(ZU (ZT.mk (Z7.mk z13 z1j z1i z14 z15 z16 z12) z1c z1B) (shrO z1w) (shrO z1t)), (Z1z (Zl.mk 0 0)), (Zk (Zm.mk z2Y z2P z1c z2v z1Y (Zl.mk zZ z1g)) z3x z1I), (ZU (ZT.mk (Z7.mk z13 z1j z1i z14 z15 z16 z12) z1c z1B) z1w z1t)]) ⟨_, rfl⟩
def Z8M (z1c zZ z1g z13 z1j z1i z14 z15 : Int) (z16 : List Zc) (z12 : List Z7) (z1B : Bool) : Option (ZT × Zl) :=
 if (zZ != 0) = true then
 (some ((ZT.mk (Z7.mk 0 0 0 0 0 ([] : List Zc) ([] : List Z7)) 0 false), (Zl.mk zZ z1g)))
 else
 (Zdo z1c z13 z1j z1i z14 z15 z16 z12 z1B)
theorem Zlt b0 b1 z2Y z2P z1c z2v z1Y zZ z1g z13 z1j z1i z14 z15 z16 z12 z2i z1B z1m z1f z3x z1I z1w z1t (z2r : ZN z1m = true) (z2d : ZN z1f = true) (z3N : ZN z1I = true) : Sim (Z3y) (Z8M z1c zZ z1g z13 z1j z1i z14 z15 z16 z12 z1B) (Zty 0 (.ptr 0 0) (.ptr 1 0) (.ptr 2 0) (.ptr 3 0) [(ZU b0 z1m z1f), (Z1z b1), (Zk (Zm.mk z2Y z2P z1c z2v z1Y (Zl.mk zZ z1g)) z3x z1I), (ZU (ZT.mk (Z7.mk z13 z1j z1i z14 z15 z16 z12) z2i z1B) z1w z1t)]) := by
 unfold Z8M
 refine zf (ZzL ..)<|ze<|zq<|zq<|zq<|zq<|zq ?_
 refine za (zZ != 0) ?_ ?_
 ·refine ze<|zq<|zq<|zq<|zq<|zt [(ZU (ZT.mk (Z7.mk 0 0 0 0 0 ([] : List Zc) ([] : List Z7)) 0 false) .nl .nl), (Z1z b1), (Zk (Zm.mk z2Y z2P z1c z2v z1Y (Zl.mk zZ z1g)) z3x z1I), (ZU (ZT.mk (Z7.mk z13 z1j z1i z14 z15 z16 z12) z2i z1B) z1w z1t)]<|zt [(ZU (ZT.mk (Z7.mk 0 0 0 0 0 ([] : List Zc) ([] : List Z7)) 0 false) .nl .nl), (Z1z (Zl.mk zZ z1g)), (Zk (Zm.mk z2Y z2P z1c z2v z1Y (Zl.mk zZ z1g)) z3x z1I), (ZU (ZT.mk (Z7.mk z13 z1j z1i z14 z15 z16 z12) z2i z1B) z1w z1t)]<|zg ?_
  exact zr ((.p (.tup [(.agg (Z33 (ZT.mk (Z7.mk 0 0 0 0 0 ([] : List Zc) ([] : List Z7)) 0 false) .sh .sh)), (.agg (Z58 (Zl.mk zZ z1g)))])), [(ZU (ZT.mk (Z7.mk 0 0 0 0 0 ([] : List Zc) ([] : List Z7)) 0 false) .nl .nl), (Z1z (Zl.mk zZ z1g)), (Zk (Zm.mk z2Y z2P z1c z2v z1Y (Zl.mk zZ z1g)) z3x z1I), (ZU (ZT.mk (Z7.mk z13 z1j z1i z14 z15 z16 z12) z2i z1B) z1w z1t)]) ⟨_, rfl⟩
 ·exact zk (Zlu b0 b1 z2Y z2P z1c z2v z1Y zZ z1g z13 z1j z1i z14 z15 z16 z12 z2i z1B z1m z1f z3x z1I z1w z1t z2r z2d z3N)
def Z6D (x50 : List Zx) (x51 x52 : Int) (z2Y : List Int) (z1c zZ z1g z13 z1j z1i z14 z15 : Int) (z16 : List Zc) (z12 : List Z7) (z1B : Bool) : Option (ZT × Zl) :=
 if (decide (x52 < x51)) = true then
 (Z8L x50 x51 x52 z2Y z1c zZ z1g z13 z1j z1i z14 z15 z16 z12 z1B)
 else
 (Z8M z1c zZ z1g z13 z1j z1i z14 z15 z16 z12 z1B)
theorem Zmt (x50 : List Zx) x51 x52 b0 b1 z2Y z2P z1c z2v z1Y zZ z1g z13 z1j z1i z14 z15 z16 z12 z2i z1B ox50 z1m z1f z3x z1I z1w z1t (z2r : ZN z1m = true) (z2d : ZN z1f = true) (z3N : ZN z1I = true) : Sim (Z3y) (Z6D x50 x51 x52 z2Y z1c zZ z1g z13 z1j z1i z14 z15 z16 z12 z1B) (Zlh 0 (.ptr 0 0) (.ptr 1 0) (.ptr 2 0) (.ptr 3 0) (.p (.lst ox50 (x50.map Z2K))) (iv x51) (iv x52) [(ZU b0 z1m z1f), (Z1z b1), (Zk (Zm.mk z2Y z2P z1c z2v z1Y (Zl.mk zZ z1g)) z3x z1I), (ZU (ZT.mk (Z7.mk z13 z1j z1i z14 z15 z16 z12) z2i z1B) z1w z1t)]) := by
 unfold Z6D
 refine zf (ZB2 ..)<|ze<|zq ?_
 refine za (decide (x52 < x51)) ?_ ?_
 ·exact zk (Zls x50 x51 x52 b0 b1 z2Y z2P z1c z2v z1Y zZ z1g z13 z1j z1i z14 z15 z16 z12 z2i z1B ox50 z1m z1f z3x z1I z1w z1t z2r z2d z3N)
 ·exact zk (Zlt b0 b1 z2Y z2P z1c z2v z1Y zZ z1g z13 z1j z1i z14 z15 z16 z12 z2i z1B z1m z1f z3x z1I z1w z1t z2r z2d z3N)
theorem Z9M (x50 : List Zx) (x51 x52 : Int) (z2Y : List Int) (z1c zZ z1g z13 z1j z1i z14 z15 : Int) (z16 : List Zc) (z12 : List Z7) (z1B : Bool) {r} (h : Z6D x50 x51 x52 z2Y z1c zZ z1g z13 z1j z1i z14 z15 z16 z12 z1B = some r) : Z7W x50 x51 x52 z2Y z1c zZ z1g z13 z1j z1i z14 z15 z16 z12 z1B = some r :=
 Z1a (fun _ _ ha hb => RRun.uniq Zk1 (ha default default default default default default .ex .ex .ex .ex .ex .ex .ex rfl rfl rfl) (hb default default default default default default .ex .ex .ex .ex .ex .ex .ex rfl rfl rfl)) (fun b0 b1 z2P z2v z1Y z2i ox50 z1m z1f z3x z1I z1w z1t z2r z2d z3N => Zmt x50 x51 x52 b0 b1 z2Y z2P z1c z2v z1Y zZ z1g z13 z1j z1i z14 z15 z16 z12 z2i z1B ox50 z1m z1f z3x z1I z1w z1t z2r z2d z3N r h)
def Z88 (zu : Int) : Option (Bool × Int) :=
 some (false, zu)
theorem ZbR zn zu zb zh zj z2 z6 zp zd (zy : ZN zd = true) : Sim (Z5b zn zb zh zj z2 z6 zp zd) (Z88 zu) (Zrf 1  [(Zk (Zm.mk zn zu zb zh zj (Zl.mk z2 z6)) zp zd)]) := by
 unfold Z88
 refine zf (ZB8 ..)<|ze ?_
 exact zr ((bv false), [(Zk (Zm.mk zn zu zb zh zj (Zl.mk z2 z6)) zp zd)]) ⟨_, rfl⟩
def Z89 (x1 : ByteArray) (zu : Int) : Option (Bool × Int) :=
 some (true, (IntKind.i64.wrap (zu + (x1.size : Int))))
theorem ZhR x1 zn zu zb zh zj z2 z6 zp zd (zy : ZN zd = true) : Sim (Z5b zn zb zh zj z2 z6 zp zd) (Z89 x1 zu) (Zvq 1 (.ptr 0 0) (.p (.v (.string x1))) [(Zk (Zm.mk zn zu zb zh zj (Zl.mk z2 z6)) zp zd)]) := by
 unfold Z89
 refine zf (ZB9 ..)<|ze<|zq<|zq<|zq<|zq<|zq<|zq<|zq<|zt [(Zk (Zm.mk zn (IntKind.i64.wrap (zu + (x1.size : Int))) zb zh zj (Zl.mk z2 z6)) zp zd)]<|ze ?_
 exact zr ((bv true), [(Zk (Zm.mk zn (IntKind.i64.wrap (zu + (x1.size : Int))) zb zh zj (Zl.mk z2 z6)) zp zd)]) ⟨_, rfl⟩
def Z9B (x1 : ByteArray) (zn : List Int) (zu : Int) : Option (Bool × Int) :=
 if ((decide ((IntKind.i64.wrap ((zn.length : Int) - zu)) < (x1.size : Int)))) = true then
 (Z88 zu)
 else
 ((lsl zn zu (IntKind.i64.wrap (zu + (x1.size : Int)))).bind fun a1 =>
 if (!(seq (strI a1) x1)) = true then
 (Z88 zu)
 else
 (Z89 x1 zu))
theorem ZjP x1 zn zu zb zh zj z2 z6 zp zd (zy : ZN zd = true) : Sim (Z5b zn zb zh zj z2 z6 zp zd) (Z9B x1 zn zu) (EE 68 [(.ptr 0 0), (.p (.v (.string x1)))] [(Zk (Zm.mk zn zu zb zh zj (Zl.mk z2 z6)) zp zd)]) := by
 unfold Z9B
 refine zf (ZGs ..)<|ze<|ze<|zq<|zq<|zq ?_
 refine zo (iv (zn.length : Int)) ?_ (Eq.trans (by kernel_rfl) (Z3d (P := PP) (t := 141) (d := 5) (by kernel_rfl) (eI .u8) (shrO zp) zn))
 refine zq<|zq<|zq<|zq<|zq<|zq ?_
 refine za ((decide ((IntKind.i64.wrap ((zn.length : Int) - zu)) < (x1.size : Int)))) ?_ ?_
 ·exact zk (ZbR zn zu zb zh zj z2 z6 zp zd zy)
 ·refine zq<|zq<|zq<|zq<|zq<|zq<|zq<|zq<|zq<|zq<|zq<|zi fun a1 ha1 => ?_
  refine zo (.p (.lst (slO (shrO zp)) (a1.map (eI .u8)))) ?_ (Eq.trans (by kernel_rfl) <| ZCn (n := 1) (o := (shrO zp)) (lo := (some (iv zu))) (hi := (some (iv (IntKind.i64.wrap (zu + (x1.size : Int)))))) (e := (eI .u8)) (fun _ => rfl) (by decide) (by kernel_rfl) (by kernel_rfl) ha1)
  refine zo (.p (.v (.string (strI a1)))) ?_ (Eq.trans (by kernel_rfl) (ZDv (P := PP) (s := 141) (d := 9) (by kernel_rfl) (slO (shrO zp)) a1))
  refine zq ?_
  refine za (!(seq (strI a1) x1)) ?_ ?_
  ·exact zk (ZbR zn zu zb zh zj z2 z6 zp zd zy)
  ·exact zk (ZhR x1 zn zu zb zh zj z2 z6 zp zd zy)
theorem ZkH (x1 : ByteArray) (zn : List Int) (zu : Int) {r} (h : Z9B x1 zn zu = some r) : Z1F x1 zn zu = some r :=
 Z1a (fun _ _ ha hb => RRun.uniq (Zl3 _ _ _ _ _ _ _ _) (ha default default default default default .ex .ex rfl) (hb default default default default default .ex .ex rfl)) (fun zb zh zj z2 z6 zp zd zy => ZjP x1 zn zu zb zh zj z2 z6 zp zd zy r h)
def Z6M (zn : List Int) (zu zb zh : Int) (zj : List Zx) (z2 z6 : Int) : Option (Z7 × Int × Int × Int × (List Zx) × Int × Int) :=
 (Z6V zn zu zb zh zj z2 z6).bind fun r1 =>
 Z5v ([r1.1] : List Z7) zn r1.2.1 r1.2.2.1 r1.2.2.2.1 r1.2.2.2.2.1 r1.2.2.2.2.2.1 r1.2.2.2.2.2.2
theorem ZkB zn zu zb zh zj z2 z6 zp zd (zy : ZN zd = true) : Sim (Z3J zn zp) (Z6M zn zu zb zh zj z2 z6) (EE 69 [(.ptr 0 0)] [(Zk (Zm.mk zn zu zb zh zj (Zl.mk z2 z6)) zp zd)]) := by
 unfold Z6M
 refine zf (ZGu ..)<|ze<|zz (.ptr 1 0) [(Zk (Zm.mk zn zu zb zh zj (Zl.mk z2 z6)) zp zd), (Zq (Z7.mk 0 0 0 0 0 ([] : List Zc) ([] : List Z7)) .nl .nl)]<|ze<|zi fun r1 hr1 => ?_
 obtain ⟨qr1, er1, or1_0_4, exr1, hor1_0_4, rfl⟩ := ZeX zn zu zb zh zj z2 z6 zp zd zy r1 hr1
 refine zc [0] (.p (.agg (ZG r1.1 .sh .sh))) [(Zk (Zm.mk zn r1.2.1 r1.2.2.1 r1.2.2.2.1 r1.2.2.2.2.1 (Zl.mk r1.2.2.2.2.2.1 r1.2.2.2.2.2.2)) zp or1_0_4), (Zq (Z7.mk 0 0 0 0 0 ([] : List Zc) ([] : List Z7)) .nl .nl)] er1 ?_
 refine zo (.p (.lst .ex (([r1.1] : List Z7).map ZS))) ?_ (Eq.trans (b := some (.p (.lst .ex [.agg (Z2Z r1.1)]))) (by kernel_rfl) (by simp only [List.map_cons, List.map_nil, Z4T]))
 exact zk (Zcm ([r1.1] : List Z7) zn r1.2.1 r1.2.2.1 r1.2.2.2.1 r1.2.2.2.2.1 r1.2.2.2.2.2.1 r1.2.2.2.2.2.2 (Z7.mk 0 0 0 0 0 ([] : List Zc) ([] : List Z7)) .ex zp or1_0_4 .nl .nl rfl hor1_0_4 rfl rfl)
theorem ZeU (zn : List Int) (zu zb zh : Int) (zj : List Zx) (z2 z6 : Int) {r} (h : Z6M zn zu zb zh zj z2 z6 = some r) : Z4l zn zu zb zh zj z2 z6 = some r :=
 Z1a (fun _ _ ha hb => RRun.uniq (Zfh _ _) (ha .ex .ex rfl) (hb .ex .ex rfl)) (fun zp zd zy => ZkB zn zu zb zh zj z2 z6 zp zd zy r h)
def Z8x (x3 : List Z7) (zn : List Int) (zu zb zh : Int) (zj : List Zx) (z2 z6 : Int) : Option (Z7 × Int × Int × Int × (List Zx) × Int × Int) :=
 (Z6V zn zu zb zh zj z2 z6).bind fun r1 =>
 (lapp x3 ([r1.1] : List Z7)).bind fun a2 =>
 Z5v a2 zn r1.2.1 r1.2.2.1 r1.2.2.2.1 r1.2.2.2.2.1 r1.2.2.2.2.2.1 r1.2.2.2.2.2.2
theorem Zig (x3 : List Z7) zn zu zb zh zj z2 z6 b1 ox3 zp zd zI zD (hox3 : ZN ox3 = true) (zy : ZN zd = true) (z17 : ZN zI = true) (z10 : ZN zD = true) : Sim (Z3J zn zp) (Z8x x3 zn zu zb zh zj z2 z6) (Zvt 1 (.ptr 0 0) (.ptr 1 0) (.p (.lst ox3 (x3.map ZS))) [(Zk (Zm.mk zn zu zb zh zj (Zl.mk z2 z6)) zp zd), (Zq b1 zI zD)]) := by
 unfold Z8x
 refine zf (ZBb ..)<|ze<|zi fun r1 hr1 => ?_
 obtain ⟨qr1, er1, or1_0_4, exr1, hor1_0_4, rfl⟩ := ZeX zn zu zb zh zj z2 z6 zp zd zy r1 hr1
 refine zc [0] (.p (.agg (ZG r1.1 .sh .sh))) [(Zk (Zm.mk zn r1.2.1 r1.2.2.1 r1.2.2.2.1 r1.2.2.2.2.1 (Zl.mk r1.2.2.2.2.2.1 r1.2.2.2.2.2.2)) zp or1_0_4), (Zq b1 zI zD)] er1 ?_
 refine zo (.p (.lst .ex (([r1.1] : List Z7).map ZS))) ?_ (Eq.trans (b := some (.p (.lst .ex [.agg (Z2Z r1.1)]))) (by kernel_rfl) (by simp only [List.map_cons, List.map_nil, Z4T]))
 refine zi fun a2 ha2 => ?_
 refine zo (.p (.lst .un (a2.map ZS))) ?_ (Eq.trans (by kernel_rfl) <| ZiW (n := 7) (o := ox3) (o' := .ex) (e := ZS) (ys := ([r1.1] : List Z7)) ZlR (by decide) hox3 ha2)
 exact zk (Zcm a2 zn r1.2.1 r1.2.2.1 r1.2.2.2.1 r1.2.2.2.2.1 r1.2.2.2.2.2.1 r1.2.2.2.2.2.2 b1 .un zp or1_0_4 zI zD rfl hor1_0_4 z17 z10)
def Z6N (x3 : List Z7) (zu zb zh : Int) (zj : List Zx) (z2 z6 : Int) : Option (Z7 × Int × Int × Int × (List Zx) × Int × Int) :=
 (Zb2 3 x3).bind fun r1 =>
 some (r1, zu, zb, zh, zj, z2, z6)
theorem Zih (x3 : List Z7) zn zu zb zh zj z2 z6 b1 ox3 zp zd zI zD (hox3 : ZN ox3 = true) (zy : ZN zd = true) (z17 : ZN zI = true) (z10 : ZN zD = true) : Sim (Z3J zn zp) (Z6N x3 zu zb zh zj z2 z6) (Zvu 1 (.ptr 1 0) (.p (.lst ox3 (x3.map ZS))) [(Zk (Zm.mk zn zu zb zh zj (Zl.mk z2 z6)) zp zd), (Zq b1 zI zD)]) := by
 unfold Z6N
 refine zf (ZBc ..)<|ze<|zi fun r1 hr1 => ?_
 obtain ⟨qr1, er1, exr1, rfl⟩ := Zi1 3 x3 .sh r1 hr1
 refine zc [] (.p (.agg (ZG r1 .sh .sh))) [(Zk (Zm.mk zn zu zb zh zj (Zl.mk z2 z6)) zp zd), (Zq b1 zI zD)] er1<|zt [(Zk (Zm.mk zn zu zb zh zj (Zl.mk z2 z6)) zp zd), (Zq r1 .sh .sh)] ?_
 exact zr ((.p (.agg (ZG r1 .sh .sh))), [(Zk (Zm.mk zn zu zb zh zj (Zl.mk z2 z6)) zp zd), (Zq r1 .sh .sh)]) ⟨zd, _, zy, rfl⟩
def Z5r (x3 : List Z7) (zn : List Int) (zu zb zh : Int) (zj : List Zx) (z2 z6 : Int) : Option (Z7 × Int × Int × Int × (List Zx) × Int × Int) :=
 (Z1F (ByteArray.mk #[124]) zn zu).bind fun r1 =>
 if (r1.1) = true then
 (Z8x x3 zn r1.2 zb zh zj z2 z6)
 else
 (Z6N x3 r1.2 zb zh zj z2 z6)
theorem Zif (x3 : List Z7) zn zu zb zh zj z2 z6 b1 ox3 zp zd zI zD (hox3 : ZN ox3 = true) (zy : ZN zd = true) (z17 : ZN zI = true) (z10 : ZN zD = true) : Sim (Z3J zn zp) (Z5r x3 zn zu zb zh zj z2 z6) (Zli 1 (.ptr 0 0) (.ptr 1 0) (.p (.lst ox3 (x3.map ZS))) [(Zk (Zm.mk zn zu zb zh zj (Zl.mk z2 z6)) zp zd), (Zq b1 zI zD)]) := by
 unfold Z5r
 refine zf (ZBa ..)<|ze<|zi fun r1 hr1 => ?_
 obtain ⟨qr1, er1, exr1, rfl⟩ := Z1Q (ByteArray.mk #[124]) zn zu zb zh zj z2 z6 zp zd zy r1 hr1
 refine zc [0] (bv r1.1) [(Zk (Zm.mk zn r1.2 zb zh zj (Zl.mk z2 z6)) zp zd), (Zq b1 zI zD)] er1 ?_
 refine za r1.1 ?_ ?_
 ·exact zk (Zig x3 zn r1.2 zb zh zj z2 z6 b1 ox3 zp zd zI zD hox3 zy z17 z10)
 ·exact zk (Zih x3 zn r1.2 zb zh zj z2 z6 b1 ox3 zp zd zI zD hox3 zy z17 z10)
theorem Zcl (x3 : List Z7) (zn : List Int) (zu zb zh : Int) (zj : List Zx) (z2 z6 : Int) {r} (h : Z5r x3 zn zu zb zh zj z2 z6 = some r) : Z5v x3 zn zu zb zh zj z2 z6 = some r :=
 Z1a (fun _ _ ha hb => RRun.uniq (Zfh _ _) (ha default .ex .ex .ex .ex .ex rfl rfl rfl rfl) (hb default .ex .ex .ex .ex .ex rfl rfl rfl rfl)) (fun b1 ox3 zp zd zI zD hox3 zy z17 z10 => Zif x3 zn zu zb zh zj z2 z6 b1 ox3 zp zd zI zD hox3 zy z17 z10 r h)
def Z8g (zn : List Int) (zu zb zh : Int) (zj : List Zx) (z2 z6 : Int) : Option (Z7 × Int × Int × Int × (List Zx) × Int × Int) :=
 Z5w ([] : List Z7) zn zu zb zh zj z2 z6
theorem ZkE zn zu zb zh zj z2 z6 zp zd (zy : ZN zd = true) : Sim (Z3o zn zp) (Z8g zn zu zb zh zj z2 z6) (EE 91 [(.ptr 0 0)] [(Zk (Zm.mk zn zu zb zh zj (Zl.mk z2 z6)) zp zd)]) := by
 unfold Z8g
 refine zf (ZGL ..)<|ze<|zz (.ptr 1 0) [(Zk (Zm.mk zn zu zb zh zj (Zl.mk z2 z6)) zp zd), (Zq (Z7.mk 0 0 0 0 0 ([] : List Zc) ([] : List Z7)) .nl .nl)]<|ze ?_
 exact zk (Zco ([] : List Z7) zn zu zb zh zj z2 z6 (Z7.mk 0 0 0 0 0 ([] : List Zc) ([] : List Z7)) .nl zp zd .nl .nl rfl zy rfl rfl)
theorem ZeW (zn : List Int) (zu zb zh : Int) (zj : List Zx) (z2 z6 : Int) {r} (h : Z8g zn zu zb zh zj z2 z6 = some r) : Z6V zn zu zb zh zj z2 z6 = some r :=
 Z1a (fun _ _ ha hb => RRun.uniq (Zfi _ _) (ha .ex .ex rfl) (hb .ex .ex rfl)) (fun zp zd zy => ZkE zn zu zb zh zj z2 z6 zp zd zy r h)
def Z3t (x3 : List Z7) (zu zb zh : Int) (zj : List Zx) (z2 z6 : Int) : Option (Z7 × Int × Int × Int × (List Zx) × Int × Int) :=
 (Zb2 2 x3).bind fun r1 =>
 some (r1, zu, zb, zh, zj, z2, z6)
theorem Z75 (x3 : List Z7) zn zu zb zh zj z2 z6 b1 ox3 zp zd zI zD (hox3 : ZN ox3 = true) (zy : ZN zd = true) (z17 : ZN zI = true) (z10 : ZN zD = true) : Sim (Z3o zn zp) (Z3t x3 zu zb zh zj z2 z6) (Zln 1 (.ptr 1 0) (.p (.lst ox3 (x3.map ZS))) [(Zk (Zm.mk zn zu zb zh zj (Zl.mk z2 z6)) zp zd), (Zq b1 zI zD)]) := by
 unfold Z3t
 refine zf (ZBw ..)<|ze<|zi fun r1 hr1 => ?_
 obtain ⟨qr1, er1, exr1, rfl⟩ := Zi1 2 x3 .sh r1 hr1
 refine zc [] (.p (.agg (ZG r1 .sh .sh))) [(Zk (Zm.mk zn zu zb zh zj (Zl.mk z2 z6)) zp zd), (Zq b1 zI zD)] er1<|zt [(Zk (Zm.mk zn zu zb zh zj (Zl.mk z2 z6)) zp zd), (Zq r1 .sh .sh)] ?_
 exact zr ((.p (.agg (ZG r1 .sh .sh))), [(Zk (Zm.mk zn zu zb zh zj (Zl.mk z2 z6)) zp zd), (Zq r1 .sh .sh)]) ⟨zd, _, zy, rfl⟩
def Z4G (x3 : List Z7) (zn : List Int) (zu zb zh : Int) (zj : List Zx) (z2 z6 : Int) : Option (Z7 × Int × Int × Int × (List Zx) × Int × Int) :=
 (Z9N zn zu zb zh zj z2 z6).bind fun r1 =>
 (Z6X r1.1 r1.2.1 zn r1.2.2.1 r1.2.2.2.1 r1.2.2.2.2.1 r1.2.2.2.2.2.1 r1.2.2.2.2.2.2.1 r1.2.2.2.2.2.2.2).bind fun r2 =>
 (lapp x3 ([r2.1] : List Z7)).bind fun a3 =>
 Z5w a3 zn r2.2.1 r1.2.2.2.1 r1.2.2.2.2.1 r1.2.2.2.2.2.1 r2.2.2.1 r2.2.2.2
theorem Z90 (x3 : List Z7) zn zu zb zh zj z2 z6 b1 ox3 zp zd zI zD (hox3 : ZN ox3 = true) (zy : ZN zd = true) (z17 : ZN zI = true) (z10 : ZN zD = true) : Sim (Z3o zn zp) (Z4G x3 zn zu zb zh zj z2 z6) (Zo6 1 (.ptr 0 0) (.ptr 1 0) (.p (.lst ox3 (x3.map ZS))) [(Zk (Zm.mk zn zu zb zh zj (Zl.mk z2 z6)) zp zd), (Zq b1 zI zD)]) := by
 unfold Z4G
 refine zf (ZBv ..)<|ze<|zi fun r1 hr1 => ?_
 obtain ⟨qr1, er1, or1_0_4, exr1, hor1_0_4, rfl⟩ := ZkD zn zu zb zh zj z2 z6 zp zd zy r1 hr1
 refine zc [0] (.p (.tup [(.agg (ZG r1.1 .sh .sh)), (.v (.bool r1.2.1))])) [(Zk (Zm.mk zn r1.2.2.1 r1.2.2.2.1 r1.2.2.2.2.1 r1.2.2.2.2.2.1 (Zl.mk r1.2.2.2.2.2.2.1 r1.2.2.2.2.2.2.2)) zp or1_0_4), (Zq b1 zI zD)] er1<|zq<|zq<|zz (.ptr 2 0) [(Zk (Zm.mk zn r1.2.2.1 r1.2.2.2.1 r1.2.2.2.2.1 r1.2.2.2.2.2.1 (Zl.mk r1.2.2.2.2.2.2.1 r1.2.2.2.2.2.2.2)) zp or1_0_4), (Zq b1 zI zD), (Zq (Z7.mk 0 0 0 0 0 ([] : List Zc) ([] : List Z7)) .nl .nl)]<|zt [(Zk (Zm.mk zn r1.2.2.1 r1.2.2.2.1 r1.2.2.2.2.1 r1.2.2.2.2.2.1 (Zl.mk r1.2.2.2.2.2.2.1 r1.2.2.2.2.2.2.2)) zp or1_0_4), (Zq b1 zI zD), (Zq r1.1 .sh .sh)]<|ze<|zq<|zi fun r2 hr2 => ?_
 obtain ⟨qr2, er2, exr2, rfl⟩ := Zjj r1.1 r1.2.1 zn r1.2.2.1 r1.2.2.2.1 r1.2.2.2.2.1 r1.2.2.2.2.2.1 r1.2.2.2.2.2.2.1 r1.2.2.2.2.2.2.2 .sh .sh zp or1_0_4 hor1_0_4 r2 hr2
 refine zc [0] (.p (.agg (ZG r2.1 .sh .sh))) [(Zk (Zm.mk zn r2.2.1 r1.2.2.2.1 r1.2.2.2.2.1 r1.2.2.2.2.2.1 (Zl.mk r2.2.2.1 r2.2.2.2)) zp or1_0_4), (Zq b1 zI zD), (Zq r1.1 .sh .sh)] er2 ?_
 refine zo (.p (.lst .ex (([r2.1] : List Z7).map ZS))) ?_ (Eq.trans (b := some (.p (.lst .ex [.agg (Z2Z r2.1)]))) (by kernel_rfl) (by simp only [List.map_cons, List.map_nil, Z4T]))
 refine zi fun a3 ha3 => ?_
 refine zo (.p (.lst .un (a3.map ZS))) ?_ (Eq.trans (by kernel_rfl) <| ZiW (n := 7) (o := ox3) (o' := .ex) (e := ZS) (ys := ([r2.1] : List Z7)) ZlR (by decide) hox3 ha3)
 exact zk (Zco a3 zn r2.2.1 r1.2.2.2.1 r1.2.2.2.2.1 r1.2.2.2.2.2.1 r2.2.2.1 r2.2.2.2 b1 .un zp or1_0_4 zI zD rfl hor1_0_4 z17 z10)
def Z6P (x3 : List Z7) (zn : List Int) (zu zb zh : Int) (zj : List Zx) (z2 z6 : Int) : Option (Z7 × Int × Int × Int × (List Zx) × Int × Int) :=
 (Z2D (Zm.mk zn zu zb zh zj (Zl.mk z2 z6))).bind fun r1 =>
 if (r1 == (-1)) = true then
 (if (r1 == (-1)) = true then
 (Z3t x3 zu zb zh zj z2 z6)
 else
 (Z4G x3 zn zu zb zh zj z2 z6))
 else
 (if (r1 == 124) = true then
 (if (r1 == 124) = true then
 (Z3t x3 zu zb zh zj z2 z6)
 else
 (Z4G x3 zn zu zb zh zj z2 z6))
 else
 (if (r1 == 41) = true then
 (Z3t x3 zu zb zh zj z2 z6)
 else
 (Z4G x3 zn zu zb zh zj z2 z6)))
theorem Zij (x3 : List Z7) zn zu zb zh zj z2 z6 b1 ox3 zp zd zI zD (hox3 : ZN ox3 = true) (zy : ZN zd = true) (z17 : ZN zI = true) (z10 : ZN zD = true) : Sim (Z3o zn zp) (Z6P x3 zn zu zb zh zj z2 z6) (ZvL 1 (.ptr 0 0) (.ptr 1 0) (.p (.lst ox3 (x3.map ZS))) [(Zk (Zm.mk zn zu zb zh zj (Zl.mk z2 z6)) zp zd), (Zq b1 zI zD)]) := by
 unfold Z6P
 refine zf (ZBu ..)<|ze<|zi fun r1 hr1 => ?_
 obtain ⟨qr1, er1, exr1, rfl⟩ := Z2N (Zm.mk zn zu zb zh zj (Zl.mk z2 z6)) zp zd zy r1 hr1
 refine zc [0] (iv r1) [(Zk (Zm.mk zn zu zb zh zj (Zl.mk z2 z6)) zp zd), (Zq b1 zI zD)] er1<|ze<|zq ?_
 refine za (r1 == (-1)) ?_ ?_
 ·refine za (r1 == (-1)) ?_ ?_
  ·exact zk (Z75 x3 zn zu zb zh zj z2 z6 b1 ox3 zp zd zI zD hox3 zy z17 z10)
  ·exact zk (Z90 x3 zn zu zb zh zj z2 z6 b1 ox3 zp zd zI zD hox3 zy z17 z10)
 ·refine ze<|zq ?_
  refine za (r1 == 124) ?_ ?_
  ·refine za (r1 == 124) ?_ ?_
   ·exact zk (Z75 x3 zn zu zb zh zj z2 z6 b1 ox3 zp zd zI zD hox3 zy z17 z10)
   ·exact zk (Z90 x3 zn zu zb zh zj z2 z6 b1 ox3 zp zd zI zD hox3 zy z17 z10)
  ·refine ze<|zq ?_
   refine za (r1 == 41) ?_ ?_
   ·exact zk (Z75 x3 zn zu zb zh zj z2 z6 b1 ox3 zp zd zI zD hox3 zy z17 z10)
   ·exact zk (Z90 x3 zn zu zb zh zj z2 z6 b1 ox3 zp zd zI zD hox3 zy z17 z10)
def Z6O (x3 : List Z7) (zn : List Int) (zu zb zh : Int) (zj : List Zx) (z2 z6 : Int) : Option (Z7 × Int × Int × Int × (List Zx) × Int × Int) :=
 if (z2 == 0) = true then
 (Z6P x3 zn zu zb zh zj z2 z6)
 else
 (Z3t x3 zu zb zh zj z2 z6)
theorem Zii (x3 : List Z7) zn zu zb zh zj z2 z6 b1 ox3 zp zd zI zD (hox3 : ZN ox3 = true) (zy : ZN zd = true) (z17 : ZN zI = true) (z10 : ZN zD = true) : Sim (Z3o zn zp) (Z6O x3 zn zu zb zh zj z2 z6) (Zlm 1 (.ptr 0 0) (.ptr 1 0) (.p (.lst ox3 (x3.map ZS))) [(Zk (Zm.mk zn zu zb zh zj (Zl.mk z2 z6)) zp zd), (Zq b1 zI zD)]) := by
 unfold Z6O
 refine zf (ZBt ..)<|ze<|zq<|zq<|zq<|zq<|zq ?_
 refine za (z2 == 0) ?_ ?_
 ·exact zk (Zij x3 zn zu zb zh zj z2 z6 b1 ox3 zp zd zI zD hox3 zy z17 z10)
 ·exact zk (Z75 x3 zn zu zb zh zj z2 z6 b1 ox3 zp zd zI zD hox3 zy z17 z10)
theorem Zcn (x3 : List Z7) (zn : List Int) (zu zb zh : Int) (zj : List Zx) (z2 z6 : Int) {r} (h : Z6O x3 zn zu zb zh zj z2 z6 = some r) : Z5w x3 zn zu zb zh zj z2 z6 = some r :=
 Z1a (fun _ _ ha hb => RRun.uniq (Zfi _ _) (ha default .ex .ex .ex .ex .ex rfl rfl rfl rfl) (hb default .ex .ex .ex .ex .ex rfl rfl rfl rfl)) (fun b1 ox3 zp zd zI zD hox3 zy z17 z10 => Zii x3 zn zu zb zh zj z2 z6 b1 ox3 zp zd zI zD hox3 zy z17 z10 r h)
def Z87 (b0 : Zm) : Option (Int) :=
 (Zea b0.b b0.at_).bind fun r1 =>
 some (r1.1)
theorem ZhQ b0 zp zd (zy : ZN zd = true) : Sim (Z6n b0 zp zd) (Z87 b0) (Zs5 1 (.ptr 0 0) [(Zk b0 zp zd)]) := by
 unfold Z87
 refine zf (Zym ..)<|ze<|zq<|zq<|zq<|zq<|zq<|zq<|zi fun r1 hr1 => ?_
 obtain ⟨qr1, er1, exr1, rfl⟩ := ZlM b0.b b0.at_ .sh r1 hr1
 refine zc [] (.p (.tup [(.v (.int .i64 r1.1)), (.v (.int .i64 r1.2))])) [(Zk b0 zp zd)] er1<|zq<|zq<|ze ?_
 exact zr ((iv r1.1), [(Zk b0 zp zd)]) ⟨_, rfl⟩
def Z9z (b0 : Zm) : Option (Int) :=
 if (decide ((b0.b.length : Int) ≤ b0.at_)) = true then
 (some (-1))
 else
 (Z87 b0)
theorem ZjM b0 zp zd (zy : ZN zd = true) : Sim (Z6n b0 zp zd) (Z9z b0) (EE 104 [(.ptr 0 0)] [(Zk b0 zp zd)]) := by
 unfold Z9z
 refine zf (ZDL ..)<|ze<|ze<|zq<|zq<|zq<|zq<|zq<|zq ?_
 refine zo (iv (b0.b.length : Int)) ?_ (Eq.trans (by kernel_rfl) (Z3d (P := PP) (t := 141) (d := 5) (by kernel_rfl) (eI .u8) (shrO zp) b0.b))
 refine zq ?_
 refine za (decide ((b0.b.length : Int) ≤ b0.at_)) ?_ ?_
 ·refine ze ?_
  exact zr ((iv (-1)), [(Zk b0 zp zd)]) ⟨_, rfl⟩
 ·exact zk (ZhQ b0 zp zd zy)
theorem ZkF (b0 : Zm) {r} (h : Z9z b0 = some r) : Z2D b0 = some r :=
 Z1a (fun _ _ ha hb => RRun.uniq (Zl1 _ _ _) (ha .ex .ex rfl) (hb .ex .ex rfl)) (fun zp zd zy => ZjM b0 zp zd zy r h)
end Go.Proofs.YteoeggbihfnbfaaGreatDoor.N2
end
noncomputable section
set_option linter.unusedSimpArgs false
set_option linter.unusedVariables false
namespace Go.Proofs.YteoeggbihfnbfaaGreatDoor.N2
open Go Go.Abs
set_option linter.unusedVariables false
set_option maxRecDepth 100000
def ZcT  : Option (Int × Int) :=
 some (0, 0)
theorem Zhv  : Sim (Z84) (ZcT) (ZoQ 0  []) := by
 unfold ZcT
 refine zf (Zyx ..)<|ze ?_
 exact zr ((.p (.tup [(.v (.int .i64 0)), (.v (.int .i64 0))])), []) ⟨_, rfl⟩
def ZcV (x0 : List Int) (x1 : Int) : Option (Int × Int) :=
 (lget x0 x1).bind fun a1 =>
 some ((IntKind.i64.wrap (1114112 + (IntKind.i64.wrap a1))), 1)
theorem Zok (x0 : List Int) x1 ox0 : Sim (Z84) (ZcV x0 x1) (Zsj 0 (.p (.lst ox0 (x0.map (eI .u8)))) (iv x1) []) := by
 unfold ZcV
 refine zf (Zyz ..)<|ze<|zi fun a1 ha1 => ?_
 refine zo (.cptr [(.v (.int .u8 a1))]) ?_ (Eq.trans (by kernel_rfl) (Z40 (o := (shrO ox0)) (k := .i64) (n := 1) (e := (eI .u8)) (cs := (fun a => [(eI .u8) a])) (fun _ => rfl) (fun _ => rfl) (by decide) ha1))
 refine zq<|zq<|zq ?_
 exact zr ((.p (.tup [(.v (.int .i64 (IntKind.i64.wrap (1114112 + (IntKind.i64.wrap a1))))), (.v (.int .i64 1))])), []) ⟨_, rfl⟩
def Z98 (x6 x7 : Int) : Option (Int × Int) :=
 some ((IntKind.i64.wrap x6), x7)
theorem Zhw x6 x7 : Sim (Z84) (Z98 x6 x7) (ZoR 0 (.p (.v (.int .i32 x6))) (iv x7) []) := by
 unfold Z98
 refine zf (ZyA ..)<|ze<|zq ?_
 exact zr ((.p (.tup [(.v (.int .i64 (IntKind.i64.wrap x6))), (.v (.int .i64 x7))])), []) ⟨_, rfl⟩
def ZcU (x0 : List Int) (x1 : Int) : Option (Int × Int) :=
 (lsl x0 x1 (x0.length : Int)).bind fun a1 =>
 (Z92 a1).bind fun r2 =>
 if (r2.1 == 65533) = true then
 (if (r2.2 == 1) = true then
 (ZcV x0 x1)
 else
 (Z98 r2.1 r2.2))
 else
 (Z98 r2.1 r2.2)
theorem Zoj (x0 : List Int) x1 ox0 : Sim (Z84) (ZcU x0 x1) (Zsi 0 (.p (.lst ox0 (x0.map (eI .u8)))) (iv x1) []) := by
 unfold ZcU
 refine zf (Zyy ..)<|ze<|zi fun a1 ha1 => ?_
 refine zo (.p (.lst (slO (shrO ox0)) (a1.map (eI .u8)))) ?_ (Eq.trans (by kernel_rfl) <| ZCn (n := 1) (o := (shrO ox0)) (lo := (some (iv x1))) (hi := none) (e := (eI .u8)) (fun _ => rfl) (by decide) (by kernel_rfl) (by kernel_rfl) ha1)
 refine zi fun r2 hr2 => ?_
 obtain ⟨qr2, er2, exr2, rfl⟩ := ZgI a1 .sh r2 hr2
 refine zc [] (.p (.tup [(.v (.int .i32 r2.1)), (.v (.int .i64 r2.2))])) [] er2<|zq<|zq<|ze<|zq ?_
 refine za (r2.1 == 65533) ?_ ?_
 ·refine zq ?_
  refine za (r2.2 == 1) ?_ ?_
  ·exact zk (Zok x0 x1 ox0)
  ·exact zk (Zhw r2.1 r2.2)
 ·exact zk (Zhw r2.1 r2.2)
def ZgW (x0 : List Int) (x1 : Int) : Option (Int × Int) :=
 if (decide (x1 < 0)) = true then
 (ZcT)
 else
 (if (decide ((x0.length : Int) ≤ x1)) = true then
 (ZcT)
 else
 (ZcU x0 x1))
theorem Zrx (x0 : List Int) x1 ox0 : Sim (Z84) (ZgW x0 x1) (EE 126 [(.p (.lst ox0 (x0.map (eI .u8)))), (iv x1)] []) := by
 unfold ZgW
 refine zf (ZDW ..)<|ze<|ze<|zq ?_
 refine za (decide (x1 < 0)) ?_ ?_
 ·exact zk (Zhv )
 ·refine zo (iv (x0.length : Int)) ?_ (Eq.trans (by kernel_rfl) (Z3d (P := PP) (t := 141) (d := 5) (by kernel_rfl) (eI .u8) (shrO ox0) x0))
  refine zq ?_
  refine za (decide ((x0.length : Int) ≤ x1)) ?_ ?_
  ·exact zk (Zhv )
  ·exact zk (Zoj x0 x1 ox0)
theorem ZtL (x0 : List Int) (x1 : Int) {r} (h : ZgW x0 x1 = some r) : Zea x0 x1 = some r :=
 Z1a (fun _ _ ha hb => RRun.uniq Zum (ha .ex) (hb .ex)) (fun ox0 => Zrx x0 x1 ox0 r h)
def Zdp (x0 : Int) (x1 : List Z7) : Option (Z7) :=
 some (Z7.mk x0 0 0 0 0 ([] : List Zc) x1)
theorem Zlw x0 (x1 : List Z7) b0 ox1 z1R z1y (zCT : ZN z1R = true) (zBH : ZN z1y = true) : Sim (Z97) (Zdp x0 x1) (ZvM 0 (iv x0) (.p (.lst ox1 (x1.map ZS))) (.ptr 0 0) [(Zq b0 z1R z1y)]) := by
 unfold Zdp
 refine zf (ZBx ..)<|ze<|zq<|zt [(Zq (Z7.mk x0 0 0 0 0 ([] : List Zc) x1) .nl (shrO (shrO ox1)))] ?_
 exact zr ((.p (.agg (ZG (Z7.mk x0 0 0 0 0 ([] : List Zc) x1) .sh .sh))), [(Zq (Z7.mk x0 0 0 0 0 ([] : List Zc) x1) .nl (shrO (shrO ox1)))]) ⟨_, rfl⟩
def ZcQ (x0 : Int) (x1 : List Z7) : Option (Z7) :=
 if ((x1.length : Int) == 0) = true then
 (some (Z7.mk 0 0 0 0 0 ([] : List Zc) ([] : List Z7)))
 else
 (if ((x1.length : Int) == 1) = true then
 ((lget x1 0).bind fun a1 =>
 some (a1))
 else
 (Zdp x0 x1))
theorem Zog x0 (x1 : List Z7) ox1 : Sim (Z97) (ZcQ x0 x1) (EE 92 [(iv x0), (.p (.lst ox1 (x1.map ZS)))] []) := by
 unfold ZcQ
 refine zf (ZGO ..)<|ze<|zz (.ptr 0 0) [(Zq (Z7.mk 0 0 0 0 0 ([] : List Zc) ([] : List Z7)) .nl .nl)]<|ze ?_
 refine zo (iv (x1.length : Int)) ?_ (Eq.trans (by kernel_rfl) (Z3d (P := PP) (t := 96) (d := 98) (by kernel_rfl) ZS (shrO ox1) x1))
 refine ze<|zq ?_
 refine za ((x1.length : Int) == 0) ?_ ?_
 ·refine ze<|zq<|zt [(Zq (Z7.mk 0 0 0 0 0 ([] : List Zc) ([] : List Z7)) .nl .nl)] ?_
  exact zr ((.p (.agg (ZG (Z7.mk 0 0 0 0 0 ([] : List Zc) ([] : List Z7)) .sh .sh))), [(Zq (Z7.mk 0 0 0 0 0 ([] : List Zc) ([] : List Z7)) .nl .nl)]) ⟨_, rfl⟩
 ·refine ze<|zq ?_
  refine za ((x1.length : Int) == 1) ?_ ?_
  ·refine ze<|zi fun a1 ha1 => ?_
   refine zo (.cptr (ZG a1 .sh .sh)) ?_ (Eq.trans (by kernel_rfl) (Z40 (o := (shrO ox1)) (k := .i64) (n := 7) (e := ZS) (cs := Z2Z) Z68 (fun _ => rfl) (by decide) ha1))
   refine zq<|zt [(Zq a1 .sh .sh)] ?_
   exact zr ((.p (.agg (ZG a1 .sh .sh))), [(Zq a1 .sh .sh)]) ⟨_, rfl⟩
  ·exact zk (Zlw x0 x1 (Z7.mk 0 0 0 0 0 ([] : List Zc) ([] : List Z7)) ox1 .nl .nl rfl rfl)
theorem Zpr (x0 : Int) (x1 : List Z7) {r} (h : ZcQ x0 x1 = some r) : Zb2 x0 x1 = some r :=
 Z1a (fun _ _ ha hb => RRun.uniq ZpY (ha .ex) (hb .ex)) (fun ox1 => Zog x0 x1 ox1 r h)
def Z20 (zu zb zh : Int) (zj : List Zx) (z2 z6 : Int) : Option (Z7 × Bool × Int × Int × Int × (List Zx) × Int × Int) :=
 some ((Z7.mk 0 0 0 0 0 ([] : List Zc) ([] : List Z7)), true, zu, zb, zh, zj, z2, z6)
theorem Z22 zn zu zb zh zj z2 z6 b1 zp zd zI zD (zy : ZN zd = true) (z17 : ZN zI = true) (z10 : ZN zD = true) : Sim (Z6l zn zp) (Z20 zu zb zh zj z2 z6) (Z7q 1 (.ptr 1 0) [(Zk (Zm.mk zn zu zb zh zj (Zl.mk z2 z6)) zp zd), (Zq b1 zI zD)]) := by
 unfold Z20
 refine zf (ZwO ..)<|ze<|zq<|zt [(Zk (Zm.mk zn zu zb zh zj (Zl.mk z2 z6)) zp zd), (Zq (Z7.mk 0 0 0 0 0 ([] : List Zc) ([] : List Z7)) .nl .nl)] ?_
 exact zr ((.p (.tup [(.agg (ZG (Z7.mk 0 0 0 0 0 ([] : List Zc) ([] : List Z7)) .sh .sh)), (.v (.bool true))])), [(Zk (Zm.mk zn zu zb zh zj (Zl.mk z2 z6)) zp zd), (Zq (Z7.mk 0 0 0 0 0 ([] : List Zc) ([] : List Z7)) .nl .nl)]) ⟨zd, _, zy, rfl⟩
def Z7J (zn : List Int) (zu zb zh : Int) (zj : List Zx) (z2 z6 : Int) : Option (Z7 × Bool × Int × Int × Int × (List Zx) × Int × Int) :=
 (Z3e zn zu).bind fun r1 =>
 if (r1.1 == 46) = true then
 ((Z2u 10).bind fun r2 =>
 (Z43 true ([r2] : List Zc)).bind fun r3 =>
 some (r3, true, r1.2, zb, zh, zj, z2, z6))
 else
 (if (r1.1 == 94) = true then
 (some ((Z7.mk 9 0 0 0 0 ([] : List Zc) ([] : List Z7)), false, r1.2, zb, zh, zj, z2, z6))
 else
 (if (r1.1 == 36) = true then
 (some ((Z7.mk 9 0 0 0 1 ([] : List Zc) ([] : List Z7)), false, r1.2, zb, zh, zj, z2, z6))
 else
 (if (r1.1 == 92) = true then
 ((Z4K zu zn r1.2 zb zh zj z2 z6).bind fun r4 =>
 some (r4.1, (r4.1.Kind != 9), r4.2.1, zb, zh, r4.2.2.1, r4.2.2.2.1, r4.2.2.2.2))
 else
 (if (r1.1 == 91) = true then
 ((Z91 zu zn r1.2 zb zh zj z2 z6).bind fun r5 =>
 some (r5.1, true, r5.2.1, zb, zh, zj, r5.2.2.1, r5.2.2.2))
 else
 (if (r1.1 == 40) = true then
 ((Z4U zu zn r1.2 zb zh zj z2 z6).bind fun r6 =>
 some (r6.1, r6.2.1, r6.2.2.1, r6.2.2.2.1, r6.2.2.2.2.1, r6.2.2.2.2.2.1, r6.2.2.2.2.2.2.1, r6.2.2.2.2.2.2.2))
 else
 (if (r1.1 == 42) = true then
 (if (r1.1 == 42) = true then
 ((Z1h 23 zu zn z2 z6).bind fun r7 =>
 Z20 r7.1 zb zh zj r7.2.1 r7.2.2)
 else
 (if (r1.1 == 93) = true then
 (if (r1.1 == 93) = true then
 ((Z1h 20 zu zn z2 z6).bind fun r8 =>
 Z20 r8.1 zb zh zj r8.2.1 r8.2.2)
 else
 ((Z2u r1.1).bind fun r9 =>
 (Z43 false ([r9] : List Zc)).bind fun r10 =>
 some (r10, true, r1.2, zb, zh, zj, z2, z6)))
 else
 (if (r1.1 == 125) = true then
 ((Z1h 20 zu zn z2 z6).bind fun r11 =>
 Z20 r11.1 zb zh zj r11.2.1 r11.2.2)
 else
 ((Z2u r1.1).bind fun r12 =>
 (Z43 false ([r12] : List Zc)).bind fun r13 =>
 some (r13, true, r1.2, zb, zh, zj, z2, z6)))))
 else
 (if (r1.1 == 43) = true then
 (if (r1.1 == 43) = true then
 ((Z1h 23 zu zn z2 z6).bind fun r14 =>
 Z20 r14.1 zb zh zj r14.2.1 r14.2.2)
 else
 (if (r1.1 == 93) = true then
 (if (r1.1 == 93) = true then
 ((Z1h 20 zu zn z2 z6).bind fun r15 =>
 Z20 r15.1 zb zh zj r15.2.1 r15.2.2)
 else
 ((Z2u r1.1).bind fun r16 =>
 (Z43 false ([r16] : List Zc)).bind fun r17 =>
 some (r17, true, r1.2, zb, zh, zj, z2, z6)))
 else
 (if (r1.1 == 125) = true then
 ((Z1h 20 zu zn z2 z6).bind fun r18 =>
 Z20 r18.1 zb zh zj r18.2.1 r18.2.2)
 else
 ((Z2u r1.1).bind fun r19 =>
 (Z43 false ([r19] : List Zc)).bind fun r20 =>
 some (r20, true, r1.2, zb, zh, zj, z2, z6)))))
 else
 (if (r1.1 == 63) = true then
 (if (r1.1 == 63) = true then
 ((Z1h 23 zu zn z2 z6).bind fun r21 =>
 Z20 r21.1 zb zh zj r21.2.1 r21.2.2)
 else
 (if (r1.1 == 93) = true then
 (if (r1.1 == 93) = true then
 ((Z1h 20 zu zn z2 z6).bind fun r22 =>
 Z20 r22.1 zb zh zj r22.2.1 r22.2.2)
 else
 ((Z2u r1.1).bind fun r23 =>
 (Z43 false ([r23] : List Zc)).bind fun r24 =>
 some (r24, true, r1.2, zb, zh, zj, z2, z6)))
 else
 (if (r1.1 == 125) = true then
 ((Z1h 20 zu zn z2 z6).bind fun r25 =>
 Z20 r25.1 zb zh zj r25.2.1 r25.2.2)
 else
 ((Z2u r1.1).bind fun r26 =>
 (Z43 false ([r26] : List Zc)).bind fun r27 =>
 some (r27, true, r1.2, zb, zh, zj, z2, z6)))))
 else
 (if (r1.1 == 123) = true then
 ((Z1h 23 zu zn z2 z6).bind fun r28 =>
 Z20 r28.1 zb zh zj r28.2.1 r28.2.2)
 else
 (if (r1.1 == 93) = true then
 (if (r1.1 == 93) = true then
 ((Z1h 20 zu zn z2 z6).bind fun r29 =>
 Z20 r29.1 zb zh zj r29.2.1 r29.2.2)
 else
 ((Z2u r1.1).bind fun r30 =>
 (Z43 false ([r30] : List Zc)).bind fun r31 =>
 some (r31, true, r1.2, zb, zh, zj, z2, z6)))
 else
 (if (r1.1 == 125) = true then
 ((Z1h 20 zu zn z2 z6).bind fun r32 =>
 Z20 r32.1 zb zh zj r32.2.1 r32.2.2)
 else
 ((Z2u r1.1).bind fun r33 =>
 (Z43 false ([r33] : List Zc)).bind fun r34 =>
 some (r34, true, r1.2, zb, zh, zj, z2, z6)))))))))))))
theorem ZjH zn zu zb zh zj z2 z6 zp zd (zy : ZN zd = true) : Sim (Z6l zn zp) (Z7J zn zu zb zh zj z2 z6) (EE 105 [(.ptr 0 0)] [(Zk (Zm.mk zn zu zb zh zj (Zl.mk z2 z6)) zp zd)]) := by
 unfold Z7J
 refine zf (ZDN ..)<|ze<|zz (.ptr 1 0) [(Zk (Zm.mk zn zu zb zh zj (Zl.mk z2 z6)) zp zd), (Zq (Z7.mk 0 0 0 0 0 ([] : List Zc) ([] : List Z7)) .nl .nl)]<|ze<|zq<|zq<|zq<|ze<|zi fun r1 hr1 => ?_
 obtain ⟨qr1, er1, exr1, rfl⟩ := Z3M zn zu zb zh zj z2 z6 zp zd zy r1 hr1
 refine zc [0] (iv r1.1) [(Zk (Zm.mk zn r1.2 zb zh zj (Zl.mk z2 z6)) zp zd), (Zq (Z7.mk 0 0 0 0 0 ([] : List Zc) ([] : List Z7)) .nl .nl)] er1<|ze<|ze<|zq ?_
 refine za (r1.1 == 46) ?_ ?_
 ·refine ze<|zi fun r2 hr2 => ?_
  obtain ⟨qr2, er2, exr2, rfl⟩ := Z2l 10 r2 hr2
  refine zc [] (.p (.agg (ZX r2))) [(Zk (Zm.mk zn r1.2 zb zh zj (Zl.mk z2 z6)) zp zd), (Zq (Z7.mk 0 0 0 0 0 ([] : List Zc) ([] : List Z7)) .nl .nl)] er2<|zq<|zi fun r3 hr3 => ?_
  obtain ⟨qr3, er3, exr3, rfl⟩ := Z4d true ([r2] : List Zc) .sh r3 hr3
  refine zc [] (.p (.agg (ZG r3 .sh .sh))) [(Zk (Zm.mk zn r1.2 zb zh zj (Zl.mk z2 z6)) zp zd), (Zq (Z7.mk 0 0 0 0 0 ([] : List Zc) ([] : List Z7)) .nl .nl)] er3<|zt [(Zk (Zm.mk zn r1.2 zb zh zj (Zl.mk z2 z6)) zp zd), (Zq r3 .sh .sh)] ?_
  exact zr ((.p (.tup [(.agg (ZG r3 .sh .sh)), (.v (.bool true))])), [(Zk (Zm.mk zn r1.2 zb zh zj (Zl.mk z2 z6)) zp zd), (Zq r3 .sh .sh)]) ⟨zd, _, zy, rfl⟩
 ·refine ze<|zq ?_
  refine za (r1.1 == 94) ?_ ?_
  ·refine ze<|zq<|zt [(Zk (Zm.mk zn r1.2 zb zh zj (Zl.mk z2 z6)) zp zd), (Zq (Z7.mk 9 0 0 0 0 ([] : List Zc) ([] : List Z7)) .nl .nl)] ?_
   exact zr ((.p (.tup [(.agg (ZG (Z7.mk 9 0 0 0 0 ([] : List Zc) ([] : List Z7)) .sh .sh)), (.v (.bool false))])), [(Zk (Zm.mk zn r1.2 zb zh zj (Zl.mk z2 z6)) zp zd), (Zq (Z7.mk 9 0 0 0 0 ([] : List Zc) ([] : List Z7)) .nl .nl)]) ⟨zd, _, zy, rfl⟩
  ·refine ze<|zq ?_
   refine za (r1.1 == 36) ?_ ?_
   ·refine ze<|zq<|zt [(Zk (Zm.mk zn r1.2 zb zh zj (Zl.mk z2 z6)) zp zd), (Zq (Z7.mk 9 0 0 0 1 ([] : List Zc) ([] : List Z7)) .nl .nl)] ?_
    exact zr ((.p (.tup [(.agg (ZG (Z7.mk 9 0 0 0 1 ([] : List Zc) ([] : List Z7)) .sh .sh)), (.v (.bool false))])), [(Zk (Zm.mk zn r1.2 zb zh zj (Zl.mk z2 z6)) zp zd), (Zq (Z7.mk 9 0 0 0 1 ([] : List Zc) ([] : List Z7)) .nl .nl)]) ⟨zd, _, zy, rfl⟩
   ·refine ze<|zq ?_
    refine za (r1.1 == 92) ?_ ?_
    ·refine ze<|zi fun r4 hr4 => ?_
     obtain ⟨qr4, er4, or4_0_4, exr4, hor4_0_4, rfl⟩ := Zjf zu zn r1.2 zb zh zj z2 z6 zp zd zy r4 hr4
     refine zc [0] (.p (.agg (ZG r4.1 .sh .sh))) [(Zk (Zm.mk zn r4.2.1 zb zh r4.2.2.1 (Zl.mk r4.2.2.2.1 r4.2.2.2.2)) zp or4_0_4), (Zq (Z7.mk 0 0 0 0 0 ([] : List Zc) ([] : List Z7)) .nl .nl)] er4<|zz (.ptr 2 0) [(Zk (Zm.mk zn r4.2.1 zb zh r4.2.2.1 (Zl.mk r4.2.2.2.1 r4.2.2.2.2)) zp or4_0_4), (Zq (Z7.mk 0 0 0 0 0 ([] : List Zc) ([] : List Z7)) .nl .nl), (Zq (Z7.mk 0 0 0 0 0 ([] : List Zc) ([] : List Z7)) .nl .nl)]<|zt [(Zk (Zm.mk zn r4.2.1 zb zh r4.2.2.1 (Zl.mk r4.2.2.2.1 r4.2.2.2.2)) zp or4_0_4), (Zq (Z7.mk 0 0 0 0 0 ([] : List Zc) ([] : List Z7)) .nl .nl), (Zq r4.1 .sh .sh)]<|ze<|zq<|zq<|zq<|zq<|zt [(Zk (Zm.mk zn r4.2.1 zb zh r4.2.2.1 (Zl.mk r4.2.2.2.1 r4.2.2.2.2)) zp or4_0_4), (Zq r4.1 .sh .sh), (Zq r4.1 .sh .sh)]<|zg ?_
     exact zr ((.p (.tup [(.agg (ZG r4.1 .sh .sh)), (.v (.bool (r4.1.Kind != 9)))])), [(Zk (Zm.mk zn r4.2.1 zb zh r4.2.2.1 (Zl.mk r4.2.2.2.1 r4.2.2.2.2)) zp or4_0_4), (Zq r4.1 .sh .sh), (Zq r4.1 .sh .sh)]) ⟨or4_0_4, _, hor4_0_4, rfl⟩
    ·refine ze<|zq ?_
     refine za (r1.1 == 91) ?_ ?_
     ·refine ze<|zi fun r5 hr5 => ?_
      obtain ⟨qr5, er5, exr5, rfl⟩ := ZjJ zu zn r1.2 zb zh zj z2 z6 zp zd zy r5 hr5
      refine zc [0] (.p (.agg (ZG r5.1 .sh .sh))) [(Zk (Zm.mk zn r5.2.1 zb zh zj (Zl.mk r5.2.2.1 r5.2.2.2)) zp zd), (Zq (Z7.mk 0 0 0 0 0 ([] : List Zc) ([] : List Z7)) .nl .nl)] er5<|zt [(Zk (Zm.mk zn r5.2.1 zb zh zj (Zl.mk r5.2.2.1 r5.2.2.2)) zp zd), (Zq r5.1 .sh .sh)] ?_
      exact zr ((.p (.tup [(.agg (ZG r5.1 .sh .sh)), (.v (.bool true))])), [(Zk (Zm.mk zn r5.2.1 zb zh zj (Zl.mk r5.2.2.1 r5.2.2.2)) zp zd), (Zq r5.1 .sh .sh)]) ⟨zd, _, zy, rfl⟩
     ·refine ze<|zq ?_
      refine za (r1.1 == 40) ?_ ?_
      ·refine ze<|zi fun r6 hr6 => ?_
       obtain ⟨qr6, er6, or6_0_4, exr6, hor6_0_4, rfl⟩ := ZjL zu zn r1.2 zb zh zj z2 z6 zp zd zy r6 hr6
       refine zc [0] (.p (.tup [(.agg (ZG r6.1 .sh .sh)), (.v (.bool r6.2.1))])) [(Zk (Zm.mk zn r6.2.2.1 r6.2.2.2.1 r6.2.2.2.2.1 r6.2.2.2.2.2.1 (Zl.mk r6.2.2.2.2.2.2.1 r6.2.2.2.2.2.2.2)) zp or6_0_4), (Zq (Z7.mk 0 0 0 0 0 ([] : List Zc) ([] : List Z7)) .nl .nl)] er6<|zq<|zq<|zt [(Zk (Zm.mk zn r6.2.2.1 r6.2.2.2.1 r6.2.2.2.2.1 r6.2.2.2.2.2.1 (Zl.mk r6.2.2.2.2.2.2.1 r6.2.2.2.2.2.2.2)) zp or6_0_4), (Zq r6.1 .sh .sh)] ?_
       exact zr ((.p (.tup [(.agg (ZG r6.1 .sh .sh)), (.v (.bool r6.2.1))])), [(Zk (Zm.mk zn r6.2.2.1 r6.2.2.2.1 r6.2.2.2.2.1 r6.2.2.2.2.2.1 (Zl.mk r6.2.2.2.2.2.2.1 r6.2.2.2.2.2.2.2)) zp or6_0_4), (Zq r6.1 .sh .sh)]) ⟨or6_0_4, _, hor6_0_4, rfl⟩
      ·refine ze<|zq ?_
       refine za (r1.1 == 42) ?_ ?_
       ·refine za (r1.1 == 42) ?_ ?_
        ·refine ze<|zi fun r7 hr7 => ?_
         obtain ⟨qr7, er7, exr7, rfl⟩ := Z1k 23 zu zn r1.2 zb zh zj z2 z6 zp zd zy r7 hr7
         refine zc [0] (.p (.tup [])) [(Zk (Zm.mk zn r7.1 zb zh zj (Zl.mk r7.2.1 r7.2.2)) zp zd), (Zq (Z7.mk 0 0 0 0 0 ([] : List Zc) ([] : List Z7)) .nl .nl)] er7 ?_
         exact zk (Z22 zn r7.1 zb zh zj r7.2.1 r7.2.2 (Z7.mk 0 0 0 0 0 ([] : List Zc) ([] : List Z7)) zp zd .nl .nl zy rfl rfl)
        ·refine ze<|zq ?_
         refine za (r1.1 == 93) ?_ ?_
         ·refine za (r1.1 == 93) ?_ ?_
          ·refine ze<|zi fun r8 hr8 => ?_
           obtain ⟨qr8, er8, exr8, rfl⟩ := Z1k 20 zu zn r1.2 zb zh zj z2 z6 zp zd zy r8 hr8
           refine zc [0] (.p (.tup [])) [(Zk (Zm.mk zn r8.1 zb zh zj (Zl.mk r8.2.1 r8.2.2)) zp zd), (Zq (Z7.mk 0 0 0 0 0 ([] : List Zc) ([] : List Z7)) .nl .nl)] er8 ?_
           exact zk (Z22 zn r8.1 zb zh zj r8.2.1 r8.2.2 (Z7.mk 0 0 0 0 0 ([] : List Zc) ([] : List Z7)) zp zd .nl .nl zy rfl rfl)
          ·refine ze<|zi fun r9 hr9 => ?_
           obtain ⟨qr9, er9, exr9, rfl⟩ := Z2l r1.1 r9 hr9
           refine zc [] (.p (.agg (ZX r9))) [(Zk (Zm.mk zn r1.2 zb zh zj (Zl.mk z2 z6)) zp zd), (Zq (Z7.mk 0 0 0 0 0 ([] : List Zc) ([] : List Z7)) .nl .nl)] er9<|zq<|zi fun r10 hr10 => ?_
           obtain ⟨qr10, er10, exr10, rfl⟩ := Z4d false ([r9] : List Zc) .sh r10 hr10
           refine zc [] (.p (.agg (ZG r10 .sh .sh))) [(Zk (Zm.mk zn r1.2 zb zh zj (Zl.mk z2 z6)) zp zd), (Zq (Z7.mk 0 0 0 0 0 ([] : List Zc) ([] : List Z7)) .nl .nl)] er10<|zt [(Zk (Zm.mk zn r1.2 zb zh zj (Zl.mk z2 z6)) zp zd), (Zq r10 .sh .sh)] ?_
           exact zr ((.p (.tup [(.agg (ZG r10 .sh .sh)), (.v (.bool true))])), [(Zk (Zm.mk zn r1.2 zb zh zj (Zl.mk z2 z6)) zp zd), (Zq r10 .sh .sh)]) ⟨zd, _, zy, rfl⟩
         ·refine ze<|zq ?_
          refine za (r1.1 == 125) ?_ ?_
          ·refine ze<|zi fun r11 hr11 => ?_
           obtain ⟨qr11, er11, exr11, rfl⟩ := Z1k 20 zu zn r1.2 zb zh zj z2 z6 zp zd zy r11 hr11
           refine zc [0] (.p (.tup [])) [(Zk (Zm.mk zn r11.1 zb zh zj (Zl.mk r11.2.1 r11.2.2)) zp zd), (Zq (Z7.mk 0 0 0 0 0 ([] : List Zc) ([] : List Z7)) .nl .nl)] er11 ?_
           exact zk (Z22 zn r11.1 zb zh zj r11.2.1 r11.2.2 (Z7.mk 0 0 0 0 0 ([] : List Zc) ([] : List Z7)) zp zd .nl .nl zy rfl rfl)
          ·refine ze<|zi fun r12 hr12 => ?_
           obtain ⟨qr12, er12, exr12, rfl⟩ := Z2l r1.1 r12 hr12
           refine zc [] (.p (.agg (ZX r12))) [(Zk (Zm.mk zn r1.2 zb zh zj (Zl.mk z2 z6)) zp zd), (Zq (Z7.mk 0 0 0 0 0 ([] : List Zc) ([] : List Z7)) .nl .nl)] er12<|zq<|zi fun r13 hr13 => ?_
           obtain ⟨qr13, er13, exr13, rfl⟩ := Z4d false ([r12] : List Zc) .sh r13 hr13
           refine zc [] (.p (.agg (ZG r13 .sh .sh))) [(Zk (Zm.mk zn r1.2 zb zh zj (Zl.mk z2 z6)) zp zd), (Zq (Z7.mk 0 0 0 0 0 ([] : List Zc) ([] : List Z7)) .nl .nl)] er13<|zt [(Zk (Zm.mk zn r1.2 zb zh zj (Zl.mk z2 z6)) zp zd), (Zq r13 .sh .sh)] ?_
           exact zr ((.p (.tup [(.agg (ZG r13 .sh .sh)), (.v (.bool true))])), [(Zk (Zm.mk zn r1.2 zb zh zj (Zl.mk z2 z6)) zp zd), (Zq r13 .sh .sh)]) ⟨zd, _, zy, rfl⟩
       ·refine ze<|zq ?_
        refine za (r1.1 == 43) ?_ ?_
        ·refine za (r1.1 == 43) ?_ ?_
         ·refine ze<|zi fun r14 hr14 => ?_
          obtain ⟨qr14, er14, exr14, rfl⟩ := Z1k 23 zu zn r1.2 zb zh zj z2 z6 zp zd zy r14 hr14
          refine zc [0] (.p (.tup [])) [(Zk (Zm.mk zn r14.1 zb zh zj (Zl.mk r14.2.1 r14.2.2)) zp zd), (Zq (Z7.mk 0 0 0 0 0 ([] : List Zc) ([] : List Z7)) .nl .nl)] er14 ?_
          exact zk (Z22 zn r14.1 zb zh zj r14.2.1 r14.2.2 (Z7.mk 0 0 0 0 0 ([] : List Zc) ([] : List Z7)) zp zd .nl .nl zy rfl rfl)
         ·refine ze<|zq ?_
          refine za (r1.1 == 93) ?_ ?_
          ·refine za (r1.1 == 93) ?_ ?_
           ·refine ze<|zi fun r15 hr15 => ?_
            obtain ⟨qr15, er15, exr15, rfl⟩ := Z1k 20 zu zn r1.2 zb zh zj z2 z6 zp zd zy r15 hr15
            refine zc [0] (.p (.tup [])) [(Zk (Zm.mk zn r15.1 zb zh zj (Zl.mk r15.2.1 r15.2.2)) zp zd), (Zq (Z7.mk 0 0 0 0 0 ([] : List Zc) ([] : List Z7)) .nl .nl)] er15 ?_
            exact zk (Z22 zn r15.1 zb zh zj r15.2.1 r15.2.2 (Z7.mk 0 0 0 0 0 ([] : List Zc) ([] : List Z7)) zp zd .nl .nl zy rfl rfl)
           ·refine ze<|zi fun r16 hr16 => ?_
            obtain ⟨qr16, er16, exr16, rfl⟩ := Z2l r1.1 r16 hr16
            refine zc [] (.p (.agg (ZX r16))) [(Zk (Zm.mk zn r1.2 zb zh zj (Zl.mk z2 z6)) zp zd), (Zq (Z7.mk 0 0 0 0 0 ([] : List Zc) ([] : List Z7)) .nl .nl)] er16<|zq<|zi fun r17 hr17 => ?_
            obtain ⟨qr17, er17, exr17, rfl⟩ := Z4d false ([r16] : List Zc) .sh r17 hr17
            refine zc [] (.p (.agg (ZG r17 .sh .sh))) [(Zk (Zm.mk zn r1.2 zb zh zj (Zl.mk z2 z6)) zp zd), (Zq (Z7.mk 0 0 0 0 0 ([] : List Zc) ([] : List Z7)) .nl .nl)] er17<|zt [(Zk (Zm.mk zn r1.2 zb zh zj (Zl.mk z2 z6)) zp zd), (Zq r17 .sh .sh)] ?_
            exact zr ((.p (.tup [(.agg (ZG r17 .sh .sh)), (.v (.bool true))])), [(Zk (Zm.mk zn r1.2 zb zh zj (Zl.mk z2 z6)) zp zd), (Zq r17 .sh .sh)]) ⟨zd, _, zy, rfl⟩
          ·refine ze<|zq ?_
           refine za (r1.1 == 125) ?_ ?_
           ·refine ze<|zi fun r18 hr18 => ?_
            obtain ⟨qr18, er18, exr18, rfl⟩ := Z1k 20 zu zn r1.2 zb zh zj z2 z6 zp zd zy r18 hr18
            refine zc [0] (.p (.tup [])) [(Zk (Zm.mk zn r18.1 zb zh zj (Zl.mk r18.2.1 r18.2.2)) zp zd), (Zq (Z7.mk 0 0 0 0 0 ([] : List Zc) ([] : List Z7)) .nl .nl)] er18 ?_
            exact zk (Z22 zn r18.1 zb zh zj r18.2.1 r18.2.2 (Z7.mk 0 0 0 0 0 ([] : List Zc) ([] : List Z7)) zp zd .nl .nl zy rfl rfl)
           ·refine ze<|zi fun r19 hr19 => ?_
            obtain ⟨qr19, er19, exr19, rfl⟩ := Z2l r1.1 r19 hr19
            refine zc [] (.p (.agg (ZX r19))) [(Zk (Zm.mk zn r1.2 zb zh zj (Zl.mk z2 z6)) zp zd), (Zq (Z7.mk 0 0 0 0 0 ([] : List Zc) ([] : List Z7)) .nl .nl)] er19<|zq<|zi fun r20 hr20 => ?_
            obtain ⟨qr20, er20, exr20, rfl⟩ := Z4d false ([r19] : List Zc) .sh r20 hr20
            refine zc [] (.p (.agg (ZG r20 .sh .sh))) [(Zk (Zm.mk zn r1.2 zb zh zj (Zl.mk z2 z6)) zp zd), (Zq (Z7.mk 0 0 0 0 0 ([] : List Zc) ([] : List Z7)) .nl .nl)] er20<|zt [(Zk (Zm.mk zn r1.2 zb zh zj (Zl.mk z2 z6)) zp zd), (Zq r20 .sh .sh)] ?_
            exact zr ((.p (.tup [(.agg (ZG r20 .sh .sh)), (.v (.bool true))])), [(Zk (Zm.mk zn r1.2 zb zh zj (Zl.mk z2 z6)) zp zd), (Zq r20 .sh .sh)]) ⟨zd, _, zy, rfl⟩
        ·refine ze<|zq ?_
         refine za (r1.1 == 63) ?_ ?_
         ·refine za (r1.1 == 63) ?_ ?_
          ·refine ze<|zi fun r21 hr21 => ?_
           obtain ⟨qr21, er21, exr21, rfl⟩ := Z1k 23 zu zn r1.2 zb zh zj z2 z6 zp zd zy r21 hr21
           refine zc [0] (.p (.tup [])) [(Zk (Zm.mk zn r21.1 zb zh zj (Zl.mk r21.2.1 r21.2.2)) zp zd), (Zq (Z7.mk 0 0 0 0 0 ([] : List Zc) ([] : List Z7)) .nl .nl)] er21 ?_
           exact zk (Z22 zn r21.1 zb zh zj r21.2.1 r21.2.2 (Z7.mk 0 0 0 0 0 ([] : List Zc) ([] : List Z7)) zp zd .nl .nl zy rfl rfl)
          ·refine ze<|zq ?_
           refine za (r1.1 == 93) ?_ ?_
           ·refine za (r1.1 == 93) ?_ ?_
            ·refine ze<|zi fun r22 hr22 => ?_
             obtain ⟨qr22, er22, exr22, rfl⟩ := Z1k 20 zu zn r1.2 zb zh zj z2 z6 zp zd zy r22 hr22
             refine zc [0] (.p (.tup [])) [(Zk (Zm.mk zn r22.1 zb zh zj (Zl.mk r22.2.1 r22.2.2)) zp zd), (Zq (Z7.mk 0 0 0 0 0 ([] : List Zc) ([] : List Z7)) .nl .nl)] er22 ?_
             exact zk (Z22 zn r22.1 zb zh zj r22.2.1 r22.2.2 (Z7.mk 0 0 0 0 0 ([] : List Zc) ([] : List Z7)) zp zd .nl .nl zy rfl rfl)
            ·refine ze<|zi fun r23 hr23 => ?_
             obtain ⟨qr23, er23, exr23, rfl⟩ := Z2l r1.1 r23 hr23
             refine zc [] (.p (.agg (ZX r23))) [(Zk (Zm.mk zn r1.2 zb zh zj (Zl.mk z2 z6)) zp zd), (Zq (Z7.mk 0 0 0 0 0 ([] : List Zc) ([] : List Z7)) .nl .nl)] er23<|zq<|zi fun r24 hr24 => ?_
             obtain ⟨qr24, er24, exr24, rfl⟩ := Z4d false ([r23] : List Zc) .sh r24 hr24
             refine zc [] (.p (.agg (ZG r24 .sh .sh))) [(Zk (Zm.mk zn r1.2 zb zh zj (Zl.mk z2 z6)) zp zd), (Zq (Z7.mk 0 0 0 0 0 ([] : List Zc) ([] : List Z7)) .nl .nl)] er24<|zt [(Zk (Zm.mk zn r1.2 zb zh zj (Zl.mk z2 z6)) zp zd), (Zq r24 .sh .sh)] ?_
             exact zr ((.p (.tup [(.agg (ZG r24 .sh .sh)), (.v (.bool true))])), [(Zk (Zm.mk zn r1.2 zb zh zj (Zl.mk z2 z6)) zp zd), (Zq r24 .sh .sh)]) ⟨zd, _, zy, rfl⟩
           ·refine ze<|zq ?_
            refine za (r1.1 == 125) ?_ ?_
            ·refine ze<|zi fun r25 hr25 => ?_
             obtain ⟨qr25, er25, exr25, rfl⟩ := Z1k 20 zu zn r1.2 zb zh zj z2 z6 zp zd zy r25 hr25
             refine zc [0] (.p (.tup [])) [(Zk (Zm.mk zn r25.1 zb zh zj (Zl.mk r25.2.1 r25.2.2)) zp zd), (Zq (Z7.mk 0 0 0 0 0 ([] : List Zc) ([] : List Z7)) .nl .nl)] er25 ?_
             exact zk (Z22 zn r25.1 zb zh zj r25.2.1 r25.2.2 (Z7.mk 0 0 0 0 0 ([] : List Zc) ([] : List Z7)) zp zd .nl .nl zy rfl rfl)
            ·refine ze<|zi fun r26 hr26 => ?_
             obtain ⟨qr26, er26, exr26, rfl⟩ := Z2l r1.1 r26 hr26
             refine zc [] (.p (.agg (ZX r26))) [(Zk (Zm.mk zn r1.2 zb zh zj (Zl.mk z2 z6)) zp zd), (Zq (Z7.mk 0 0 0 0 0 ([] : List Zc) ([] : List Z7)) .nl .nl)] er26<|zq<|zi fun r27 hr27 => ?_
             obtain ⟨qr27, er27, exr27, rfl⟩ := Z4d false ([r26] : List Zc) .sh r27 hr27
             refine zc [] (.p (.agg (ZG r27 .sh .sh))) [(Zk (Zm.mk zn r1.2 zb zh zj (Zl.mk z2 z6)) zp zd), (Zq (Z7.mk 0 0 0 0 0 ([] : List Zc) ([] : List Z7)) .nl .nl)] er27<|zt [(Zk (Zm.mk zn r1.2 zb zh zj (Zl.mk z2 z6)) zp zd), (Zq r27 .sh .sh)] ?_
             exact zr ((.p (.tup [(.agg (ZG r27 .sh .sh)), (.v (.bool true))])), [(Zk (Zm.mk zn r1.2 zb zh zj (Zl.mk z2 z6)) zp zd), (Zq r27 .sh .sh)]) ⟨zd, _, zy, rfl⟩
         ·refine ze<|zq ?_
          refine za (r1.1 == 123) ?_ ?_
          ·refine ze<|zi fun r28 hr28 => ?_
           obtain ⟨qr28, er28, exr28, rfl⟩ := Z1k 23 zu zn r1.2 zb zh zj z2 z6 zp zd zy r28 hr28
           refine zc [0] (.p (.tup [])) [(Zk (Zm.mk zn r28.1 zb zh zj (Zl.mk r28.2.1 r28.2.2)) zp zd), (Zq (Z7.mk 0 0 0 0 0 ([] : List Zc) ([] : List Z7)) .nl .nl)] er28 ?_
           exact zk (Z22 zn r28.1 zb zh zj r28.2.1 r28.2.2 (Z7.mk 0 0 0 0 0 ([] : List Zc) ([] : List Z7)) zp zd .nl .nl zy rfl rfl)
          ·refine ze<|zq ?_
           refine za (r1.1 == 93) ?_ ?_
           ·refine za (r1.1 == 93) ?_ ?_
            ·refine ze<|zi fun r29 hr29 => ?_
             obtain ⟨qr29, er29, exr29, rfl⟩ := Z1k 20 zu zn r1.2 zb zh zj z2 z6 zp zd zy r29 hr29
             refine zc [0] (.p (.tup [])) [(Zk (Zm.mk zn r29.1 zb zh zj (Zl.mk r29.2.1 r29.2.2)) zp zd), (Zq (Z7.mk 0 0 0 0 0 ([] : List Zc) ([] : List Z7)) .nl .nl)] er29 ?_
             exact zk (Z22 zn r29.1 zb zh zj r29.2.1 r29.2.2 (Z7.mk 0 0 0 0 0 ([] : List Zc) ([] : List Z7)) zp zd .nl .nl zy rfl rfl)
            ·refine ze<|zi fun r30 hr30 => ?_
             obtain ⟨qr30, er30, exr30, rfl⟩ := Z2l r1.1 r30 hr30
             refine zc [] (.p (.agg (ZX r30))) [(Zk (Zm.mk zn r1.2 zb zh zj (Zl.mk z2 z6)) zp zd), (Zq (Z7.mk 0 0 0 0 0 ([] : List Zc) ([] : List Z7)) .nl .nl)] er30<|zq<|zi fun r31 hr31 => ?_
             obtain ⟨qr31, er31, exr31, rfl⟩ := Z4d false ([r30] : List Zc) .sh r31 hr31
             refine zc [] (.p (.agg (ZG r31 .sh .sh))) [(Zk (Zm.mk zn r1.2 zb zh zj (Zl.mk z2 z6)) zp zd), (Zq (Z7.mk 0 0 0 0 0 ([] : List Zc) ([] : List Z7)) .nl .nl)] er31<|zt [(Zk (Zm.mk zn r1.2 zb zh zj (Zl.mk z2 z6)) zp zd), (Zq r31 .sh .sh)] ?_
             exact zr ((.p (.tup [(.agg (ZG r31 .sh .sh)), (.v (.bool true))])), [(Zk (Zm.mk zn r1.2 zb zh zj (Zl.mk z2 z6)) zp zd), (Zq r31 .sh .sh)]) ⟨zd, _, zy, rfl⟩
           ·refine ze<|zq ?_
            refine za (r1.1 == 125) ?_ ?_
            ·refine ze<|zi fun r32 hr32 => ?_
             obtain ⟨qr32, er32, exr32, rfl⟩ := Z1k 20 zu zn r1.2 zb zh zj z2 z6 zp zd zy r32 hr32
             refine zc [0] (.p (.tup [])) [(Zk (Zm.mk zn r32.1 zb zh zj (Zl.mk r32.2.1 r32.2.2)) zp zd), (Zq (Z7.mk 0 0 0 0 0 ([] : List Zc) ([] : List Z7)) .nl .nl)] er32 ?_
             exact zk (Z22 zn r32.1 zb zh zj r32.2.1 r32.2.2 (Z7.mk 0 0 0 0 0 ([] : List Zc) ([] : List Z7)) zp zd .nl .nl zy rfl rfl)
            ·refine ze<|zi fun r33 hr33 => ?_
             obtain ⟨qr33, er33, exr33, rfl⟩ := Z2l r1.1 r33 hr33
             refine zc [] (.p (.agg (ZX r33))) [(Zk (Zm.mk zn r1.2 zb zh zj (Zl.mk z2 z6)) zp zd), (Zq (Z7.mk 0 0 0 0 0 ([] : List Zc) ([] : List Z7)) .nl .nl)] er33<|zq<|zi fun r34 hr34 => ?_
             obtain ⟨qr34, er34, exr34, rfl⟩ := Z4d false ([r33] : List Zc) .sh r34 hr34
             refine zc [] (.p (.agg (ZG r34 .sh .sh))) [(Zk (Zm.mk zn r1.2 zb zh zj (Zl.mk z2 z6)) zp zd), (Zq (Z7.mk 0 0 0 0 0 ([] : List Zc) ([] : List Z7)) .nl .nl)] er34<|zt [(Zk (Zm.mk zn r1.2 zb zh zj (Zl.mk z2 z6)) zp zd), (Zq r34 .sh .sh)] ?_
             exact zr ((.p (.tup [(.agg (ZG r34 .sh .sh)), (.v (.bool true))])), [(Zk (Zm.mk zn r1.2 zb zh zj (Zl.mk z2 z6)) zp zd), (Zq r34 .sh .sh)]) ⟨zd, _, zy, rfl⟩
theorem ZkC (zn : List Int) (zu zb zh : Int) (zj : List Zx) (z2 z6 : Int) {r} (h : Z7J zn zu zb zh zj z2 z6 = some r) : Z9N zn zu zb zh zj z2 z6 = some r :=
 Z1a (fun _ _ ha hb => RRun.uniq (ZkZ _ _) (ha .ex .ex rfl) (hb .ex .ex rfl)) (fun zp zd zy => ZjH zn zu zb zh zj z2 z6 zp zd zy r h)
def Z9A (zn : List Int) (zu : Int) : Option (Int × Int) :=
 (Zea zn zu).bind fun r1 =>
 some (r1.1, (IntKind.i64.wrap (zu + r1.2)))
theorem ZjO zn zu zb zh zj z2 z6 zp zd (zy : ZN zd = true) : Sim (Z7F zn zb zh zj z2 z6 zp zd) (Z9A zn zu) (EE 127 [(.ptr 0 0)] [(Zk (Zm.mk zn zu zb zh zj (Zl.mk z2 z6)) zp zd)]) := by
 unfold Z9A
 refine zf (ZDZ ..)<|ze<|ze<|zq<|zq<|zq<|zq<|zq<|zq<|zi fun r1 hr1 => ?_
 obtain ⟨qr1, er1, exr1, rfl⟩ := ZlM zn zu .sh r1 hr1
 refine zc [] (.p (.tup [(.v (.int .i64 r1.1)), (.v (.int .i64 r1.2))])) [(Zk (Zm.mk zn zu zb zh zj (Zl.mk z2 z6)) zp zd)] er1<|zq<|zq<|ze<|zq<|zq<|zq<|zq<|zq<|zq<|zt [(Zk (Zm.mk zn (IntKind.i64.wrap (zu + r1.2)) zb zh zj (Zl.mk z2 z6)) zp zd)]<|ze ?_
 exact zr ((iv r1.1), [(Zk (Zm.mk zn (IntKind.i64.wrap (zu + r1.2)) zb zh zj (Zl.mk z2 z6)) zp zd)]) ⟨_, rfl⟩
theorem ZkG (zn : List Int) (zu : Int) {r} (h : Z9A zn zu = some r) : Z3e zn zu = some r :=
 Z1a (fun _ _ ha hb => RRun.uniq (Zl2 _ _ _ _ _ _ _ _) (ha default default default default default .ex .ex rfl) (hb default default default default default .ex .ex rfl)) (fun zb zh zj z2 z6 zp zd zy => ZjO zn zu zb zh zj z2 z6 zp zd zy r h)
def Zkt (x0 : Int) : Option (Zc) :=
 some (Zc.mk x0 x0)
theorem Zrr x0 : Sim (ZdJ) (Zkt x0) (EE 129 [(iv x0)] []) := by
 unfold Zkt
 refine zf (ZE2 ..)<|ze<|zz (.ptr 0 0) [(Z2x (Zc.mk 0 0))]<|ze<|zq<|zt [(Z2x (Zc.mk x0 x0))] ?_
 exact zr ((.p (.agg (ZX (Zc.mk x0 x0)))), [(Z2x (Zc.mk x0 x0))]) ⟨_, rfl⟩
theorem ZtH (x0 : Int) {r} (h : Zkt x0 = some r) : Z2u x0 = some r :=
 Z1a (fun _ _ ha hb => RRun.uniq Zuj (ha ) (hb )) (Zrr x0 r h)
def ZcR (x5 : List Zc) : Option (Z7) :=
 some (Z7.mk 1 0 0 0 0 x5 ([] : List Z7))
theorem Zhm (x5 : List Zc) b0 ox5 z1R z1y (zCT : ZN z1R = true) (zBH : ZN z1y = true) : Sim (ZbW) (ZcR x5) (ZoS 0 (.ptr 0 0) (.p (.lst ox5 (x5.map ZA))) [(Zq b0 z1R z1y)]) := by
 unfold ZcR
 refine zf (ZyB ..)<|ze<|zq<|zt [(Zq (Z7.mk 1 0 0 0 0 x5 ([] : List Z7)) (shrO (shrO ox5)) .nl)] ?_
 exact zr ((.p (.agg (ZG (Z7.mk 1 0 0 0 0 x5 ([] : List Z7)) .sh .sh))), [(Zq (Z7.mk 1 0 0 0 0 x5 ([] : List Z7)) (shrO (shrO ox5)) .nl)]) ⟨_, rfl⟩
def ZgU (x0 : Bool) (x1 : List Zc) : Option (Z7) :=
 (Zfs x1).bind fun r1 =>
 if (x0) = true then
 ((Zaf r1.1).bind fun r2 =>
 ZcR r2.1)
 else
 (ZcR r1.1)
theorem Zrs x0 (x1 : List Zc) ox1 : Sim (ZbW) (ZgU x0 x1) (EE 128 [(bv x0), (.p (.lst ox1 (x1.map ZA)))] []) := by
 unfold ZgU
 refine zf (ZE0 ..)<|ze<|zz (.ptr 0 0) [(Zq (Z7.mk 0 0 0 0 0 ([] : List Zc) ([] : List Z7)) .nl .nl)]<|ze<|zi fun r1 hr1 => ?_
 obtain ⟨qr1, er1, exr1, rfl⟩ := Zrp x1 .sh r1 hr1
 refine zc [] (.p (.tup [(.lst .sh (r1.1.map ZA)), (.v (.int .i64 r1.2))])) [(Zq (Z7.mk 0 0 0 0 0 ([] : List Zc) ([] : List Z7)) .nl .nl)] er1<|zq<|zq<|ze ?_
 refine za x0 ?_ ?_
 ·refine ze<|zi fun r2 hr2 => ?_
  obtain ⟨qr2, er2, exr2, rfl⟩ := Zhf r1.1 .sh r2 hr2
  refine zc [] (.p (.tup [(.lst .sh (r2.1.map ZA)), (.v (.int .i64 r2.2))])) [(Zq (Z7.mk 0 0 0 0 0 ([] : List Zc) ([] : List Z7)) .nl .nl)] er2<|zq<|zq ?_
  exact zk (Zhm r2.1 (Z7.mk 0 0 0 0 0 ([] : List Zc) ([] : List Z7)) .sh .nl .nl rfl rfl)
 ·exact zk (Zhm r1.1 (Z7.mk 0 0 0 0 0 ([] : List Zc) ([] : List Z7)) .sh .nl .nl rfl rfl)
theorem ZtI (x0 : Bool) (x1 : List Zc) {r} (h : ZgU x0 x1 = some r) : Z43 x0 x1 = some r :=
 Z1a (fun _ _ ha hb => RRun.uniq Zuk (ha .ex) (hb .ex)) (fun ox1 => Zrs x0 x1 ox1 r h)
def Zc2 (x0 : List Zc) : Option ((List Zc) × Int) :=
 (ZcZ x0).bind fun r1 =>
 some (r1, 0)
theorem ZnJ (x0 : List Zc) ox0 : Sim (ZaQ) (Zc2 x0) (Zss 0 (.p (.lst ox0 (x0.map ZA))) []) := by
 unfold Zc2
 refine zf (ZyM ..)<|ze<|zi fun r1 hr1 => ?_
 obtain ⟨qr1, er1, exr1, rfl⟩ := Zi0 x0 .sh r1 hr1
 refine zc [] (.p (.lst .sh (r1.map ZA))) [] er1 ?_
 exact zr ((.p (.tup [(.lst .sh (r1.map ZA)), (.v (.int .i64 0))])), []) ⟨_, rfl⟩
def Zfl (x0 : List Zc) : Option ((List Zc) × Int) :=
 (Z55 x0).bind fun r1 =>
 if (r1) = true then
 (some (([] : List Zc), 13))
 else
 (Zc2 x0)
theorem Zqj (x0 : List Zc) ox0 : Sim (ZaQ) (Zfl x0) (EE 147 [(.p (.lst ox0 (x0.map ZA)))] []) := by
 unfold Zfl
 refine zf (ZEi ..)<|ze<|ze<|zi fun r1 hr1 => ?_
 obtain ⟨qr1, er1, exr1, rfl⟩ := Zdu x0 .sh r1 hr1
 refine zc [] (bv r1) [] er1 ?_
 refine za r1 ?_ ?_
 ·refine ze ?_
  exact zr ((.p (.tup [(.lst .sh []), (.v (.int .i64 13))])), []) ⟨_, rfl⟩
 ·exact zk (ZnJ x0 ox0)
theorem Zro (x0 : List Zc) {r} (h : Zfl x0 = some r) : Zfs x0 = some r :=
 Z1a (fun _ _ ha hb => RRun.uniq Zs1 (ha .ex) (hb .ex)) (fun ox0 => Zqj x0 ox0 r h)
def Z50 (x0 : List Zc) : Option (Bool) :=
 (Z64 x0).bind fun r1 =>
 some (decide (0 ≤ r1))
theorem Zd3 (x0 : List Zc) ox0 : Sim (Z45) (Z50 x0) (EE 166 [(.p (.lst ox0 (x0.map ZA))), (.clo 167 [] [])] []) := by
 unfold Z50
 refine zf (ZEB ..)<|ze<|ze<|zi fun r1 hr1 => ?_
 obtain ⟨qr1, er1, exr1, rfl⟩ := Zfb x0 .sh r1 hr1
 refine zc [] (iv r1) [] er1<|zq ?_
 exact zr ((bv (decide (0 ≤ r1))), []) ⟨_, rfl⟩
theorem Zdt (x0 : List Zc) {r} (h : Z50 x0 = some r) : Z55 x0 = some r :=
 Z1a (fun _ _ ha hb => RRun.uniq ZdM (ha .ex) (hb .ex)) (fun ox0 => Zd3 x0 ox0 r h)
def Z5Y (x0 : List Zc) : Option (Int) :=
 Z4a x0 (x0.length : Int) 0
theorem ZeB (x0 : List Zc) ox0 : Sim (Z2c) (Z5Y x0) (EE 179 [(.p (.lst ox0 (x0.map ZA))), (.clo 167 [] [])] []) := by
 unfold Z5Y
 refine zf (ZEP ..)<|ze<|ze ?_
 refine zo (iv (x0.length : Int)) ?_ (Eq.trans (by kernel_rfl) (Z3d (P := PP) (t := 94) (d := 201) (by kernel_rfl) ZA (shrO ox0) x0))
 exact zk (Z8V x0 (x0.length : Int) 0 ox0)
theorem Zfa (x0 : List Zc) {r} (h : Z5Y x0 = some r) : Z64 x0 = some r :=
 Z1a (fun _ _ ha hb => RRun.uniq Za1 (ha .ex) (hb .ex)) (fun ox0 => ZeB x0 ox0 r h)
def Z53 (x0 : List Zc) (x7 x8 : Int) : Option (Int) :=
 Z4a x0 x7 (IntKind.i64.wrap (x8 + 1))
theorem Zda (x0 : List Zc) x7 x8 ox0 : Sim (Z2c) (Z53 x0 x7 x8) (Zt7 0 (.p (.lst ox0 (x0.map ZA))) (.clo 167 [] []) (iv x7) (iv x8) []) := by
 unfold Z53
 refine zf (Zzk ..)<|ze<|zq ?_
 exact zk (Z8V x0 x7 (IntKind.i64.wrap (x8 + 1)) ox0)
def Z52 (x0 : List Zc) (x7 x8 : Int) : Option (Int) :=
 (lget x0 x8).bind fun a1 =>
 (ZcX a1).bind fun r2 =>
 if (r2) = true then
 (some (x8))
 else
 (Z53 x0 x7 x8)
theorem Zd9 (x0 : List Zc) x7 x8 ox0 : Sim (Z2c) (Z52 x0 x7 x8) (Zt6 0 (.p (.lst ox0 (x0.map ZA))) (.clo 167 [] []) (iv x7) (iv x8) []) := by
 unfold Z52
 refine zf (Zzj ..)<|ze<|ze<|zi fun a1 ha1 => ?_
 refine zo (.cptr (ZX a1)) ?_ (Eq.trans (by kernel_rfl) (Z40 (o := (shrO ox0)) (k := .i64) (n := 2) (e := ZA) (cs := Z7U) (fun _ => rfl) (fun _ => rfl) (by decide) ha1))
 refine zq<|zi fun r2 hr2 => ?_
 obtain ⟨qr2, er2, exr2, rfl⟩ := Zpn a1 r2 hr2
 refine zv [] (bv r2) [] er2 ?_
 refine za r2 ?_ ?_
 ·refine ze ?_
  exact zr ((iv x8), []) ⟨_, rfl⟩
 ·exact zk (Zda x0 x7 x8 ox0)
def Z79  : Option (Int) :=
 some (-1)
theorem Zdb  : Sim (Z2c) (Z79) (Zt8 0  []) := by
 unfold Z79
 refine zf (Zzl ..)<|ze ?_
 exact zr ((iv (-1)), []) ⟨_, rfl⟩
def Z48 (x0 : List Zc) (x7 x8 : Int) : Option (Int) :=
 if (decide (x8 < x7)) = true then
 (Z52 x0 x7 x8)
 else
 (Z79)
theorem Zd8 (x0 : List Zc) x7 x8 ox0 : Sim (Z2c) (Z48 x0 x7 x8) (ZiK 0 (.p (.lst ox0 (x0.map ZA))) (.clo 167 [] []) (iv x7) (iv x8) []) := by
 unfold Z48
 refine zf (Zzi ..)<|ze<|zq ?_
 refine za (decide (x8 < x7)) ?_ ?_
 ·exact zk (Zd9 x0 x7 x8 ox0)
 ·exact zk (Zdb )
theorem Z8U (x0 : List Zc) (x7 x8 : Int) {r} (h : Z48 x0 x7 x8 = some r) : Z4a x0 x7 x8 = some r :=
 Z1a (fun _ _ ha hb => RRun.uniq Za1 (ha .ex) (hb .ex)) (fun ox0 => Zd8 x0 x7 x8 ox0 r h)
def ZcM (x0 : Zc) : Option (Bool) :=
 (Z7P x0).bind fun r1 =>
 some (!r1)
theorem Zo7 x0 : Sim (ZaR) (ZcM x0) (EE 167 [(.p (.agg (ZX x0)))] []) := by
 unfold ZcM
 refine zf (ZEC ..)<|ze<|zx (.ptr 0 0) [(Z2x x0)]<|ze<|zq<|zi fun r1 hr1 => ?_
 obtain ⟨qr1, er1, exr1, rfl⟩ := ZdQ x0 r1 hr1
 refine zc [] (bv r1) [(Z2x x0)] er1<|zq ?_
 exact zr ((bv (!r1)), [(Z2x x0)]) ⟨_, rfl⟩
theorem Zpm (x0 : Zc) {r} (h : ZcM x0 = some r) : ZcX x0 = some r :=
 Z1a (fun _ _ ha hb => RRun.uniq ZpV (ha ) (hb )) (Zo7 x0 r h)
def Z9x (x0 : Zc) : Option (Bool) :=
 if (decide (0 ≤ x0.Lo)) = true then
 (if (decide (x0.Lo ≤ x0.Hi)) = true then
 (some (decide (x0.Hi ≤ 1114367)))
 else
 (some (false)))
 else
 (some (false))
theorem ZjD x0 : Sim (Z7E) (Z9x x0) (EE 168 [(.p (.agg (ZX x0)))] []) := by
 unfold Z9x
 refine zf (ZED ..)<|ze<|zx (.ptr 0 0) [(Z2x x0)]<|ze<|zq<|zq<|zq ?_
 refine za (decide (0 ≤ x0.Lo)) ?_ ?_
 ·refine zq<|zq<|zq<|zq<|zq ?_
  refine za (decide (x0.Lo ≤ x0.Hi)) ?_ ?_
  ·refine zq<|zq<|zq ?_
   exact zr ((bv (decide (x0.Hi ≤ 1114367))), [(Z2x x0)]) ⟨_, rfl⟩
  ·exact zr ((bv false), [(Z2x x0)]) ⟨_, rfl⟩
 ·exact zr ((bv false), [(Z2x x0)]) ⟨_, rfl⟩
theorem Zkv (x0 : Zc) {r} (h : Z9x x0 = some r) : Z7P x0 = some r :=
 Z1a (fun _ _ ha hb => RRun.uniq ZkY (ha ) (hb )) (ZjD x0 r h)
def Za4 (x0 : List Zc) : Option ((List Zc) × Int) :=
 (Zcd x0).bind fun r1 =>
 some (r1, 0)
theorem Zkx (x0 : List Zc) ox0 : Sim (Z8q) (Za4 x0) (Zst 0 (.p (.lst ox0 (x0.map ZA))) []) := by
 unfold Za4
 refine zf (ZyN ..)<|ze<|zi fun r1 hr1 => ?_
 obtain ⟨qr1, er1, exr1, rfl⟩ := Zod x0 .sh r1 hr1
 refine zc [] (.p (.lst .sh (r1.map ZA))) [] er1 ?_
 exact zr ((.p (.tup [(.lst .sh (r1.map ZA)), (.v (.int .i64 0))])), []) ⟨_, rfl⟩
def Zc4 (x0 : List Zc) : Option ((List Zc) × Int) :=
 (Z6T x0).bind fun r1 =>
 if (!r1) = true then
 (some (([] : List Zc), 10))
 else
 (Za4 x0)
theorem ZnL (x0 : List Zc) ox0 : Sim (Z8q) (Zc4 x0) (EE 148 [(.p (.lst ox0 (x0.map ZA)))] []) := by
 unfold Zc4
 refine zf (ZEk ..)<|ze<|ze<|zi fun r1 hr1 => ?_
 obtain ⟨qr1, er1, exr1, rfl⟩ := Zb1 x0 .sh r1 hr1
 refine zc [] (bv r1) [] er1<|zq ?_
 refine za (!r1) ?_ ?_
 ·refine ze ?_
  exact zr ((.p (.tup [(.lst .sh []), (.v (.int .i64 10))])), []) ⟨_, rfl⟩
 ·exact zk (Zkx x0 ox0)
theorem Zoa (x0 : List Zc) {r} (h : Zc4 x0 = some r) : Zaf x0 = some r :=
 Z1a (fun _ _ ha hb => RRun.uniq Zpk (ha .ex) (hb .ex)) (fun ox0 => ZnL x0 ox0 r h)
def Za3 (x0 : List Zc) : Option (Bool) :=
 Z6U (-2) x0 (x0.length : Int) 0
theorem Zkw (x0 : List Zc) ox0 : Sim (Z2S) (Za3 x0) (EE 170 [(.p (.lst ox0 (x0.map ZA)))] []) := by
 unfold Za3
 refine zf (ZEE ..)<|ze<|ze<|ze ?_
 refine zo (iv (x0.length : Int)) ?_ (Eq.trans (by kernel_rfl) (Z3d (P := PP) (t := 95) (d := 201) (by kernel_rfl) ZA (shrO ox0) x0))
 exact zk (Zck (-2) x0 (x0.length : Int) 0 (shrO ox0))
theorem Zlq (x0 : List Zc) {r} (h : Za3 x0 = some r) : Z6T x0 = some r :=
 Z1a (fun _ _ ha hb => RRun.uniq Zff (ha .ex) (hb .ex)) (fun ox0 => Zkw x0 ox0 r h)
def Z8t  : Option (Bool) :=
 some (false)
theorem Zcc  : Sim (Z2S) (Z8t) (Zp0 0  []) := by
 unfold Z8t
 refine zf (Zz6 ..)<|ze ?_
 exact zr ((bv false), []) ⟨_, rfl⟩
def Z8v (x3 : Int) (x6 : List Zc) (x7 x8 : Int) : Option (Bool) :=
 Z6U x3 x6 x7 (IntKind.i64.wrap (x8 + 1))
theorem Zia x3 (x6 : List Zc) x7 x8 ox6 : Sim (Z2S) (Z8v x3 x6 x7 x8) (ZsV 0 (iv x3) (.p (.lst ox6 (x6.map ZA))) (iv x7) (iv x8) []) := by
 unfold Z8v
 refine zf (Zz8 ..)<|ze<|zq ?_
 exact zk (Zck x3 x6 x7 (IntKind.i64.wrap (x8 + 1)) ox6)
def Z8u (x6 : List Zc) (x7 x8 : Int) (b0 : Zc) : Option (Bool) :=
 Z8v b0.Hi x6 x7 x8
theorem Zi9 (x6 : List Zc) x7 x8 b0 ox6 : Sim (Z2S) (Z8u x6 x7 x8 b0) (ZsU 0 (.ptr 0 0) (.p (.lst ox6 (x6.map ZA))) (iv x7) (iv x8) [(Z2x b0)]) := by
 unfold Z8u
 refine zf (Zz7 ..)<|ze<|zq<|zq ?_
 exact zk (Zia b0.Hi x6 x7 x8 ox6)
def Z8s (x3 : Int) (x6 : List Zc) (x7 x8 : Int) : Option (Bool) :=
 (lget x6 x8).bind fun a1 =>
 (Z7P a1).bind fun r2 =>
 if (!r2) = true then
 (Z8t)
 else
 (if (decide (a1.Lo < (IntKind.i64.wrap (x3 + 2)))) = true then
 (Z8t)
 else
 (Z8u x6 x7 x8 a1))
theorem Zi8 x3 (x6 : List Zc) x7 x8 ox6 : Sim (Z2S) (Z8s x3 x6 x7 x8) (ZsT 0 (iv x3) (.p (.lst ox6 (x6.map ZA))) (iv x7) (iv x8) []) := by
 unfold Z8s
 refine zf (Zz5 ..)<|ze<|zi fun a1 ha1 => ?_
 refine zo (.cptr (ZX a1)) ?_ (Eq.trans (by kernel_rfl) (Z40 (o := ox6) (k := .i64) (n := 2) (e := ZA) (cs := Z7U) (fun _ => rfl) (fun _ => rfl) (by decide) ha1))
 refine zq<|zz (.ptr 0 0) [(Z2x (Zc.mk 0 0))]<|zt [(Z2x a1)]<|ze<|zq<|zi fun r2 hr2 => ?_
 obtain ⟨qr2, er2, exr2, rfl⟩ := ZdQ a1 r2 hr2
 refine zc [] (bv r2) [(Z2x a1)] er2<|zq ?_
 refine za (!r2) ?_ ?_
 ·exact zk (Zcc )
 ·refine zq<|zq<|zq<|zq ?_
  refine za (decide (a1.Lo < (IntKind.i64.wrap (x3 + 2)))) ?_ ?_
  ·exact zk (Zcc )
  ·exact zk (Zi9 x6 x7 x8 a1 ox6)
def ZaV  : Option (Bool) :=
 some (true)
theorem Zib  : Sim (Z2S) (ZaV) (ZsW 0  []) := by
 unfold ZaV
 refine zf (Zz9 ..)<|ze ?_
 exact zr ((bv true), []) ⟨_, rfl⟩
def Z6K (x3 : Int) (x6 : List Zc) (x7 x8 : Int) : Option (Bool) :=
 if (decide (x8 < x7)) = true then
 (Z8s x3 x6 x7 x8)
 else
 (ZaV)
theorem Zi7 x3 (x6 : List Zc) x7 x8 ox6 : Sim (Z2S) (Z6K x3 x6 x7 x8) (ZiI 0 (iv x3) (.p (.lst ox6 (x6.map ZA))) (iv x7) (iv x8) []) := by
 unfold Z6K
 refine zf (Zz4 ..)<|ze<|zq ?_
 refine za (decide (x8 < x7)) ?_ ?_
 ·exact zk (Zi8 x3 x6 x7 x8 ox6)
 ·exact zk (Zib )
theorem Zcj (x3 : Int) (x6 : List Zc) (x7 x8 : Int) {r} (h : Z6K x3 x6 x7 x8 = some r) : Z6U x3 x6 x7 x8 = some r :=
 Z1a (fun _ _ ha hb => RRun.uniq Zff (ha .ex) (hb .ex)) (fun ox6 => Zi7 x3 x6 x7 x8 ox6 r h)
def Zc5 (x0 : List Zc) : Option (List Zc) :=
 Z8k ([] : List Zc) 0 x0 (x0.length : Int) 0
theorem ZnM (x0 : List Zc) ox0 : Sim (Z3r) (Zc5 x0) (EE 171 [(.p (.lst ox0 (x0.map ZA)))] []) := by
 unfold Zc5
 refine zf (ZEI ..)<|ze<|ze<|ze<|ze ?_
 refine zo (iv (x0.length : Int)) ?_ (Eq.trans (by kernel_rfl) (Z3d (P := PP) (t := 95) (d := 201) (by kernel_rfl) ZA (shrO ox0) x0))
 exact zk (ZeS ([] : List Zc) 0 x0 (x0.length : Int) 0 .nl (shrO ox0) rfl)
theorem Zoc (x0 : List Zc) {r} (h : Zc5 x0 = some r) : Zcd x0 = some r :=
 Z1a (fun _ _ ha hb => RRun.uniq ZhW (ha .ex) (hb .ex)) (fun ox0 => ZnM x0 ox0 r h)
def Za6 (x3 : List Zc) (x4 : Int) (x7 : List Zc) (x8 x9 : Int) : Option (List Zc) :=
 Z8k x3 x4 x7 x8 (IntKind.i64.wrap (x9 + 1))
theorem ZkA (x3 : List Zc) x4 (x7 : List Zc) x8 x9 ox3 ox7 (hox3 : ZN ox3 = true) : Sim (Z3r) (Za6 x3 x4 x7 x8 x9) (ZsZ 0 (.p (.lst ox3 (x3.map ZA))) (iv x4) (.p (.lst ox7 (x7.map ZA))) (iv x8) (iv x9) []) := by
 unfold Za6
 refine zf (Zzd ..)<|ze<|zq ?_
 exact zk (ZeS x3 x4 x7 x8 (IntKind.i64.wrap (x9 + 1)) ox3 ox7 hox3)
def Z6L (x3 x7 : List Zc) (x8 x9 : Int) (b0 : Zc) : Option (List Zc) :=
 Za6 x3 (IntKind.i64.wrap (b0.Hi + 1)) x7 x8 x9
theorem ZdR (x3 x7 : List Zc) x8 x9 b0 ox3 ox7 (hox3 : ZN ox3 = true) : Sim (Z3r) (Z6L x3 x7 x8 x9 b0) (Zp3 0 (.p (.lst ox3 (x3.map ZA))) (.ptr 0 0) (.p (.lst ox7 (x7.map ZA))) (iv x8) (iv x9) [(Z2x b0)]) := by
 unfold Z6L
 refine zf (Zzc ..)<|ze<|zq<|zq<|zq ?_
 exact zk (ZkA x3 (IntKind.i64.wrap (b0.Hi + 1)) x7 x8 x9 ox3 ox7 hox3)
def Za5 (x3 : List Zc) (x4 : Int) (x7 : List Zc) (x8 x9 : Int) : Option (List Zc) :=
 (lget x7 x9).bind fun a1 =>
 if (decide (x4 < a1.Lo)) = true then
 ((lapp x3 ([(Zc.mk x4 (IntKind.i64.wrap (a1.Lo - 1)))] : List Zc)).bind fun a2 =>
 Z6L a2 x7 x8 x9 a1)
 else
 (Z6L x3 x7 x8 x9 a1)
theorem Zkz (x3 : List Zc) x4 (x7 : List Zc) x8 x9 ox3 ox7 (hox3 : ZN ox3 = true) : Sim (Z3r) (Za5 x3 x4 x7 x8 x9) (ZsY 0 (.p (.lst ox3 (x3.map ZA))) (iv x4) (.p (.lst ox7 (x7.map ZA))) (iv x8) (iv x9) []) := by
 unfold Za5
 refine zf (Zzb ..)<|ze<|zi fun a1 ha1 => ?_
 refine zo (.cptr (ZX a1)) ?_ (Eq.trans (by kernel_rfl) (Z40 (o := ox7) (k := .i64) (n := 2) (e := ZA) (cs := Z7U) (fun _ => rfl) (fun _ => rfl) (by decide) ha1))
 refine zq<|zz (.ptr 0 0) [(Z2x (Zc.mk 0 0))]<|zt [(Z2x a1)]<|ze<|zq<|zq<|zq ?_
 refine za (decide (x4 < a1.Lo)) ?_ ?_
 ·refine ze<|zq<|zq<|zq<|zq<|zq<|zi fun a2 ha2 => ?_
  refine zo (.p (.lst .un (a2.map ZA))) ?_ (Eq.trans (by kernel_rfl) <| ZiW (n := 2) (o := ox3) (o' := .ex) (e := ZA) (ys := ([(Zc.mk x4 (IntKind.i64.wrap (a1.Lo - 1)))] : List Zc)) (fun _ => rfl) (by decide) hox3 ha2)
  exact zk (ZdR a2 x7 x8 x9 a1 .un ox7 rfl)
 ·exact zk (ZdR x3 x7 x8 x9 a1 ox3 ox7 hox3)
def Z6o (x3 : List Zc) : Option (List Zc) :=
 some (x3)
theorem Zdj (x3 : List Zc) ox3 (hox3 : ZN ox3 = true) : Sim (Z3r) (Z6o x3) (Zmm 0 (.p (.lst ox3 (x3.map ZA))) []) := by
 unfold Z6o
 refine zf (Zxe ..)<|ze ?_
 exact zr ((.p (.lst .sh (x3.map ZA))), []) ⟨_, rfl⟩
def Z9y (x3 : List Zc) (x4 : Int) : Option (List Zc) :=
 if (decide (x4 ≤ 1114367)) = true then
 ((lapp x3 ([(Zc.mk x4 1114367)] : List Zc)).bind fun a1 =>
 Z6o a1)
 else
 (Z6o x3)
theorem ZjE (x3 : List Zc) x4 ox3 (hox3 : ZN ox3 = true) : Sim (Z3r) (Z9y x3 x4) (Zqh 0 (.p (.lst ox3 (x3.map ZA))) (iv x4) []) := by
 unfold Z9y
 refine zf (Zxd ..)<|ze<|zq ?_
 refine za (decide (x4 ≤ 1114367)) ?_ ?_
 ·refine ze<|zq<|zq<|zi fun a1 ha1 => ?_
  refine zo (.p (.lst .un (a1.map ZA))) ?_ (Eq.trans (by kernel_rfl) <| ZiW (n := 2) (o := ox3) (o' := .ex) (e := ZA) (ys := ([(Zc.mk x4 1114367)] : List Zc)) (fun _ => rfl) (by decide) hox3 ha1)
  exact zk (Zdj a1 .un rfl)
 ·exact zk (Zdj x3 ox3 hox3)
def Z8f (x3 : List Zc) (x4 : Int) (x7 : List Zc) (x8 x9 : Int) : Option (List Zc) :=
 if (decide (x9 < x8)) = true then
 (Za5 x3 x4 x7 x8 x9)
 else
 (Z9y x3 x4)
theorem Zky (x3 : List Zc) x4 (x7 : List Zc) x8 x9 ox3 ox7 (hox3 : ZN ox3 = true) : Sim (Z3r) (Z8f x3 x4 x7 x8 x9) (ZiJ 0 (.p (.lst ox3 (x3.map ZA))) (iv x4) (.p (.lst ox7 (x7.map ZA))) (iv x8) (iv x9) []) := by
 unfold Z8f
 refine zf (Zza ..)<|ze<|zq ?_
 refine za (decide (x9 < x8)) ?_ ?_
 ·exact zk (Zkz x3 x4 x7 x8 x9 ox3 ox7 hox3)
 ·exact zk (ZjE x3 x4 ox3 hox3)
theorem ZeR (x3 : List Zc) (x4 : Int) (x7 : List Zc) (x8 x9 : Int) {r} (h : Z8f x3 x4 x7 x8 x9 = some r) : Z8k x3 x4 x7 x8 x9 = some r :=
 Z1a (fun _ _ ha hb => RRun.uniq ZhW (ha .ex .ex rfl) (hb .ex .ex rfl)) (fun ox3 ox7 hox3 => Zky x3 x4 x7 x8 x9 ox3 ox7 hox3 r h)
def Z5d (x1 x5 zu : Int) (zj : List Zx) (z2 z6 : Int) : Option (Z7 × Int × (List Zx) × Int × Int) :=
 (lapp zj ([(Zx.mk (IntKind.i64.wrap (x5 - 48)) x1)] : List Zx)).bind fun a1 =>
 some ((Z7.mk 6 0 0 0 (IntKind.i64.wrap (x5 - 48)) ([] : List Zc) ([] : List Z7)), zu, a1, z2, z6)
theorem ZfW x1 x5 zn zu zb zh zj z2 z6 b1 zp zd zI zD (zy : ZN zd = true) (z17 : ZN zI = true) (z10 : ZN zD = true) : Sim (Z3X zn zb zh zp) (Z5d x1 x5 zu zj z2 z6) (Zq6 1 (.ptr 0 0) (iv x1) (.ptr 1 0) (iv x5) [(Zk (Zm.mk zn zu zb zh zj (Zl.mk z2 z6)) zp zd), (Zq b1 zI zD)]) := by
 unfold Z5d
 refine zf (ZwS ..)<|ze<|zq<|zq<|zw (.p (.lst zd (zj.map Z2K))) [(Zk (Zm.mk zn zu zb zh zj (Zl.mk z2 z6)) zp (shrO zd)), (Zq b1 zI zD)]<|zq<|zq<|zq<|zi fun a1 ha1 => ?_
 refine zo (.p (.lst .un (a1.map Z2K))) ?_ (Eq.trans (by kernel_rfl) <| ZiW (n := 2) (o := zd) (o' := .ex) (e := Z2K) (ys := ([(Zx.mk (IntKind.i64.wrap (x5 - 48)) x1)] : List Zx)) (fun _ => rfl) (by decide) zy ha1)
 refine zq<|zq<|zt [(Zk (Zm.mk zn zu zb zh a1 (Zl.mk z2 z6)) zp .un), (Zq b1 zI zD)]<|ze<|zq<|zq<|zt [(Zk (Zm.mk zn zu zb zh a1 (Zl.mk z2 z6)) zp .un), (Zq (Z7.mk 6 0 0 0 (IntKind.i64.wrap (x5 - 48)) ([] : List Zc) ([] : List Z7)) .nl .nl)] ?_
 exact zr ((.p (.agg (ZG (Z7.mk 6 0 0 0 (IntKind.i64.wrap (x5 - 48)) ([] : List Zc) ([] : List Z7)) .sh .sh))), [(Zk (Zm.mk zn zu zb zh a1 (Zl.mk z2 z6)) zp .un), (Zq (Z7.mk 6 0 0 0 (IntKind.i64.wrap (x5 - 48)) ([] : List Zc) ([] : List Z7)) .nl .nl)]) ⟨.un, _, rfl, rfl⟩
def Z3g (x1 x5 : Int) (zn : List Int) (zu zb zh : Int) (zj : List Zx) (z2 z6 : Int) : Option (Z7 × Int × (List Zx) × Int × Int) :=
 (Z7r x5 x1 zn zu zb zh zj z2 z6).bind fun r1 =>
 (Z2u r1.1).bind fun r2 =>
 (Z43 false ([r2] : List Zc)).bind fun r3 =>
 some (r3, r1.2.1, zj, r1.2.2.1, r1.2.2.2)
theorem Zav x1 x5 zn zu zb zh zj z2 z6 b1 zp zd zI zD (zy : ZN zd = true) (z17 : ZN zI = true) (z10 : ZN zD = true) : Sim (Z3X zn zb zh zp) (Z3g x1 x5 zn zu zb zh zj z2 z6) (Zmg 1 (.ptr 0 0) (iv x1) (.ptr 1 0) (iv x5) [(Zk (Zm.mk zn zu zb zh zj (Zl.mk z2 z6)) zp zd), (Zq b1 zI zD)]) := by
 unfold Z3g
 refine zf (ZwT ..)<|ze<|zi fun r1 hr1 => ?_
 obtain ⟨qr1, er1, exr1, rfl⟩ := Zdk x5 x1 zn zu zb zh zj z2 z6 zp zd zy r1 hr1
 refine zc [0] (iv r1.1) [(Zk (Zm.mk zn r1.2.1 zb zh zj (Zl.mk r1.2.2.1 r1.2.2.2)) zp zd), (Zq b1 zI zD)] er1<|zi fun r2 hr2 => ?_
 obtain ⟨qr2, er2, exr2, rfl⟩ := Z2l r1.1 r2 hr2
 refine zc [] (.p (.agg (ZX r2))) [(Zk (Zm.mk zn r1.2.1 zb zh zj (Zl.mk r1.2.2.1 r1.2.2.2)) zp zd), (Zq b1 zI zD)] er2<|zq<|zi fun r3 hr3 => ?_
 obtain ⟨qr3, er3, exr3, rfl⟩ := Z4d false ([r2] : List Zc) .sh r3 hr3
 refine zc [] (.p (.agg (ZG r3 .sh .sh))) [(Zk (Zm.mk zn r1.2.1 zb zh zj (Zl.mk r1.2.2.1 r1.2.2.2)) zp zd), (Zq b1 zI zD)] er3<|zt [(Zk (Zm.mk zn r1.2.1 zb zh zj (Zl.mk r1.2.2.1 r1.2.2.2)) zp zd), (Zq r3 .sh .sh)] ?_
 exact zr ((.p (.agg (ZG r3 .sh .sh))), [(Zk (Zm.mk zn r1.2.1 zb zh zj (Zl.mk r1.2.2.1 r1.2.2.2)) zp zd), (Zq r3 .sh .sh)]) ⟨zd, _, zy, rfl⟩
def Z3p (x1 x5 : Int) (zn : List Int) (zu zb zh : Int) (zj : List Zx) (z2 z6 : Int) : Option (Z7 × Int × (List Zx) × Int × Int) :=
 (Z3e zn zu).bind fun r1 =>
 (Z7z x5).bind fun r2 =>
 (nilO r2.1 r2.2).bind fun a3 =>
 if (!a3) = true then
 ((Z7z x5).bind fun r4 =>
 (Z43 (decide (x5 < 97)) r4.2).bind fun r5 =>
 some (r5, r1.2, zj, z2, z6))
 else
 (if (x5 == 98) = true then
 (some ((Z7.mk 9 0 0 0 2 ([] : List Zc) ([] : List Z7)), r1.2, zj, z2, z6))
 else
 (if (x5 == 66) = true then
 (some ((Z7.mk 9 0 0 0 3 ([] : List Zc) ([] : List Z7)), r1.2, zj, z2, z6))
 else
 (if (decide (49 ≤ x5)) = true then
 (if (decide (x5 ≤ 57)) = true then
 (Z5d x1 x5 r1.2 zj z2 z6)
 else
 (Z3g x1 x5 zn r1.2 zb zh zj z2 z6))
 else
 (Z3g x1 x5 zn r1.2 zb zh zj z2 z6))))
theorem Zgy x1 x5 zn zu zb zh zj z2 z6 b1 zp zd zI zD (zy : ZN zd = true) (z17 : ZN zI = true) (z10 : ZN zD = true) : Sim (Z3X zn zb zh zp) (Z3p x1 x5 zn zu zb zh zj z2 z6) (Zsk 1 (.ptr 0 0) (iv x1) (.ptr 1 0) (iv x5) [(Zk (Zm.mk zn zu zb zh zj (Zl.mk z2 z6)) zp zd), (Zq b1 zI zD)]) := by
 unfold Z3p
 refine zf (ZyC ..)<|ze<|zi fun r1 hr1 => ?_
 obtain ⟨qr1, er1, exr1, rfl⟩ := Z3M zn zu zb zh zj z2 z6 zp zd zy r1 hr1
 refine zc [0] (iv r1.1) [(Zk (Zm.mk zn r1.2 zb zh zj (Zl.mk z2 z6)) zp zd), (Zq b1 zI zD)] er1<|ze<|zi fun r2 hr2 => ?_
 obtain ⟨qr2, er2, exr2, rfl⟩ := ZbF x5 r2 hr2
 refine zc [] (.p (.lst r2.1 (r2.2.map ZA))) [(Zk (Zm.mk zn r1.2 zb zh zj (Zl.mk z2 z6)) zp zd), (Zq b1 zI zD)] er2<|zi fun a3 ha3 => ?_
 refine zo (bv (!a3)) ?_ (Eq.trans (by kernel_rfl) (Znv (P := PP) (t := 94) (c := .slice none 0 0) (e := ZA) (by kernel_rfl) ha3))
 refine za (!a3) ?_ ?_
 ·refine ze<|zq<|zi fun r4 hr4 => ?_
  obtain ⟨qr4, er4, exr4, rfl⟩ := ZbF x5 r4 hr4
  refine zc [] (.p (.lst r4.1 (r4.2.map ZA))) [(Zk (Zm.mk zn r1.2 zb zh zj (Zl.mk z2 z6)) zp zd), (Zq b1 zI zD)] er4<|zi fun r5 hr5 => ?_
  obtain ⟨qr5, er5, exr5, rfl⟩ := Z4d (decide (x5 < 97)) r4.2 .sh r5 hr5
  refine zc [] (.p (.agg (ZG r5 .sh .sh))) [(Zk (Zm.mk zn r1.2 zb zh zj (Zl.mk z2 z6)) zp zd), (Zq b1 zI zD)] er5<|zt [(Zk (Zm.mk zn r1.2 zb zh zj (Zl.mk z2 z6)) zp zd), (Zq r5 .sh .sh)] ?_
  exact zr ((.p (.agg (ZG r5 .sh .sh))), [(Zk (Zm.mk zn r1.2 zb zh zj (Zl.mk z2 z6)) zp zd), (Zq r5 .sh .sh)]) ⟨zd, _, zy, rfl⟩
 ·refine ze<|zq ?_
  refine za (x5 == 98) ?_ ?_
  ·refine ze<|zq<|zt [(Zk (Zm.mk zn r1.2 zb zh zj (Zl.mk z2 z6)) zp zd), (Zq (Z7.mk 9 0 0 0 2 ([] : List Zc) ([] : List Z7)) .nl .nl)] ?_
   exact zr ((.p (.agg (ZG (Z7.mk 9 0 0 0 2 ([] : List Zc) ([] : List Z7)) .sh .sh))), [(Zk (Zm.mk zn r1.2 zb zh zj (Zl.mk z2 z6)) zp zd), (Zq (Z7.mk 9 0 0 0 2 ([] : List Zc) ([] : List Z7)) .nl .nl)]) ⟨zd, _, zy, rfl⟩
  ·refine ze<|zq ?_
   refine za (x5 == 66) ?_ ?_
   ·refine ze<|zq<|zt [(Zk (Zm.mk zn r1.2 zb zh zj (Zl.mk z2 z6)) zp zd), (Zq (Z7.mk 9 0 0 0 3 ([] : List Zc) ([] : List Z7)) .nl .nl)] ?_
    exact zr ((.p (.agg (ZG (Z7.mk 9 0 0 0 3 ([] : List Zc) ([] : List Z7)) .sh .sh))), [(Zk (Zm.mk zn r1.2 zb zh zj (Zl.mk z2 z6)) zp zd), (Zq (Z7.mk 9 0 0 0 3 ([] : List Zc) ([] : List Z7)) .nl .nl)]) ⟨zd, _, zy, rfl⟩
   ·refine ze<|zq ?_
    refine za (decide (49 ≤ x5)) ?_ ?_
    ·refine zq ?_
     refine za (decide (x5 ≤ 57)) ?_ ?_
     ·exact zk (ZfW x1 x5 zn r1.2 zb zh zj z2 z6 b1 zp zd zI zD zy z17 z10)
     ·exact zk (Zav x1 x5 zn r1.2 zb zh zj z2 z6 b1 zp zd zI zD zy z17 z10)
    ·exact zk (Zav x1 x5 zn r1.2 zb zh zj z2 z6 b1 zp zd zI zD zy z17 z10)
def Z5s (x1 : Int) (zn : List Int) (zu zb zh : Int) (zj : List Zx) (z2 z6 : Int) : Option (Z7 × Int × (List Zx) × Int × Int) :=
 (Z2D (Zm.mk zn zu zb zh zj (Zl.mk z2 z6))).bind fun r1 =>
 if (decide (r1 < 0)) = true then
 ((Z1h 21 x1 zn z2 z6).bind fun r2 =>
 some ((Z7.mk 0 0 0 0 0 ([] : List Zc) ([] : List Z7)), r2.1, zj, r2.2.1, r2.2.2))
 else
 (Z3p x1 r1 zn zu zb zh zj z2 z6)
theorem Zim x1 zn zu zb zh zj z2 z6 zp zd (zy : ZN zd = true) : Sim (Z3X zn zb zh zp) (Z5s x1 zn zu zb zh zj z2 z6) (EE 130 [(.ptr 0 0), (iv x1)] [(Zk (Zm.mk zn zu zb zh zj (Zl.mk z2 z6)) zp zd)]) := by
 unfold Z5s
 refine zf (ZE3 ..)<|ze<|zz (.ptr 1 0) [(Zk (Zm.mk zn zu zb zh zj (Zl.mk z2 z6)) zp zd), (Zq (Z7.mk 0 0 0 0 0 ([] : List Zc) ([] : List Z7)) .nl .nl)]<|ze<|zi fun r1 hr1 => ?_
 obtain ⟨qr1, er1, exr1, rfl⟩ := Z2N (Zm.mk zn zu zb zh zj (Zl.mk z2 z6)) zp zd zy r1 hr1
 refine zc [0] (iv r1) [(Zk (Zm.mk zn zu zb zh zj (Zl.mk z2 z6)) zp zd), (Zq (Z7.mk 0 0 0 0 0 ([] : List Zc) ([] : List Z7)) .nl .nl)] er1<|ze<|zq ?_
 refine za (decide (r1 < 0)) ?_ ?_
 ·refine ze<|zi fun r2 hr2 => ?_
  obtain ⟨qr2, er2, exr2, rfl⟩ := Z1k 21 x1 zn zu zb zh zj z2 z6 zp zd zy r2 hr2
  refine zc [0] (.p (.tup [])) [(Zk (Zm.mk zn r2.1 zb zh zj (Zl.mk r2.2.1 r2.2.2)) zp zd), (Zq (Z7.mk 0 0 0 0 0 ([] : List Zc) ([] : List Z7)) .nl .nl)] er2<|ze<|zq<|zt [(Zk (Zm.mk zn r2.1 zb zh zj (Zl.mk r2.2.1 r2.2.2)) zp zd), (Zq (Z7.mk 0 0 0 0 0 ([] : List Zc) ([] : List Z7)) .nl .nl)] ?_
  exact zr ((.p (.agg (ZG (Z7.mk 0 0 0 0 0 ([] : List Zc) ([] : List Z7)) .sh .sh))), [(Zk (Zm.mk zn r2.1 zb zh zj (Zl.mk r2.2.1 r2.2.2)) zp zd), (Zq (Z7.mk 0 0 0 0 0 ([] : List Zc) ([] : List Z7)) .nl .nl)]) ⟨zd, _, zy, rfl⟩
 ·exact zk (Zgy x1 r1 zn zu zb zh zj z2 z6 (Z7.mk 0 0 0 0 0 ([] : List Zc) ([] : List Z7)) zp zd .nl .nl zy rfl rfl)
theorem Zje (x1 : Int) (zn : List Int) (zu zb zh : Int) (zj : List Zx) (z2 z6 : Int) {r} (h : Z5s x1 zn zu zb zh zj z2 z6 = some r) : Z4K x1 zn zu zb zh zj z2 z6 = some r :=
 Z1a (fun _ _ ha hb => RRun.uniq (Zjy _ _ _ _) (ha .ex .ex rfl) (hb .ex .ex rfl)) (fun zp zd zy => Zim x1 zn zu zb zh zj z2 z6 zp zd zy r h)
end Go.Proofs.YteoeggbihfnbfaaGreatDoor.N2
end
noncomputable section
set_option linter.unusedSimpArgs false
set_option linter.unusedVariables false
namespace Go.Proofs.YteoeggbihfnbfaaGreatDoor.N2
open Go Go.Abs
set_option linter.unusedVariables false
set_option maxRecDepth 100000
def Z56 (zn : List Int) (z2 z6 : Int) : Option (Int × Int × Int) :=
 some ((zn.length : Int), z2, z6)
theorem ZbQ zn zu zb zh zj z2 z6 zp zd (zy : ZN zd = true) : Sim (Z6m zn zb zh zj zp zd) (Z56 zn z2 z6) (Zrg 1 (.ptr 0 0) [(Zk (Zm.mk zn zu zb zh zj (Zl.mk z2 z6)) zp zd)]) := by
 unfold Z56
 refine zf (ZBd ..)<|ze<|zq<|zq<|zq ?_
 refine zo (iv (zn.length : Int)) ?_ (Eq.trans (by kernel_rfl) (Z3d (P := PP) (t := 141) (d := 5) (by kernel_rfl) (eI .u8) (shrO zp) zn))
 refine zq<|zq<|zt [(Zk (Zm.mk zn (zn.length : Int) zb zh zj (Zl.mk z2 z6)) zp zd)] ?_
 exact zr ((.p (.tup [])), [(Zk (Zm.mk zn (zn.length : Int) zb zh zj (Zl.mk z2 z6)) zp zd)]) ⟨_, rfl⟩
def Z7K (x1 x2 : Int) (zn : List Int) (z2 z6 : Int) : Option (Int × Int × Int) :=
 if (z2 == 0) = true then
 (Z56 zn x1 x2)
 else
 (Z56 zn z2 z6)
theorem ZjK x1 x2 zn zu zb zh zj z2 z6 zp zd (zy : ZN zd = true) : Sim (Z6m zn zb zh zj zp zd) (Z7K x1 x2 zn z2 z6) (EE 70 [(.ptr 0 0), (iv x1), (iv x2)] [(Zk (Zm.mk zn zu zb zh zj (Zl.mk z2 z6)) zp zd)]) := by
 unfold Z7K
 refine zf (ZGx ..)<|ze<|zq<|zq<|zq<|zq<|zq ?_
 refine za (z2 == 0) ?_ ?_
 ·refine ze<|zq<|zq<|zq<|zt [(Zk (Zm.mk zn zu zb zh zj (Zl.mk x1 x2)) zp zd)] ?_
  exact zk (ZbQ zn zu zb zh zj x1 x2 zp zd zy)
 ·exact zk (ZbQ zn zu zb zh zj z2 z6 zp zd zy)
theorem ZdT (x1 x2 : Int) (zn : List Int) (z2 z6 : Int) {r} (h : Z7K x1 x2 zn z2 z6 = some r) : Z1h x1 x2 zn z2 z6 = some r :=
 Z1a (fun _ _ ha hb => RRun.uniq (Zl0 _ _ _ _ _ _) (ha default default default default .ex .ex rfl) (hb default default default default .ex .ex rfl)) (fun zu zb zh zj zp zd zy => ZjK x1 x2 zn zu zb zh zj z2 z6 zp zd zy r h)
def Z2V  : Option (Own × (List Zc)) :=
 some (.nl, ([] : List Zc))
theorem Z3h  : Sim (Z7v) (Z2V) (Zap 0  []) := by
 unfold Z2V
 refine zf (Zx9 ..)<|ze ?_
 exact zr ((.p (.lst .nl [])), []) ⟨_, rfl⟩
def Z41 (x0 : Int) : Option (Own × (List Zc)) :=
 if (x0 == 100) = true then
 (if (x0 == 100) = true then
 (some (.ex, ([(Zc.mk 48 57)] : List Zc)))
 else
 (if (x0 == 119) = true then
 (if (x0 == 119) = true then
 ((Z2u 95).bind fun r1 =>
 some (.ex, ([(Zc.mk 48 57), (Zc.mk 65 90), r1, (Zc.mk 97 122)] : List Zc)))
 else
 (if (x0 == 115) = true then
 (if (x0 == 115) = true then
 ((Z2u 32).bind fun r2 =>
 some (.ex, ([(Zc.mk 9 13), r2] : List Zc)))
 else
 (Z2V))
 else
 (if (x0 == 83) = true then
 ((Z2u 32).bind fun r3 =>
 some (.ex, ([(Zc.mk 9 13), r3] : List Zc)))
 else
 (Z2V))))
 else
 (if (x0 == 87) = true then
 ((Z2u 95).bind fun r4 =>
 some (.ex, ([(Zc.mk 48 57), (Zc.mk 65 90), r4, (Zc.mk 97 122)] : List Zc)))
 else
 (if (x0 == 115) = true then
 (if (x0 == 115) = true then
 ((Z2u 32).bind fun r5 =>
 some (.ex, ([(Zc.mk 9 13), r5] : List Zc)))
 else
 (Z2V))
 else
 (if (x0 == 83) = true then
 ((Z2u 32).bind fun r6 =>
 some (.ex, ([(Zc.mk 9 13), r6] : List Zc)))
 else
 (Z2V))))))
 else
 (if (x0 == 68) = true then
 (some (.ex, ([(Zc.mk 48 57)] : List Zc)))
 else
 (if (x0 == 119) = true then
 (if (x0 == 119) = true then
 ((Z2u 95).bind fun r7 =>
 some (.ex, ([(Zc.mk 48 57), (Zc.mk 65 90), r7, (Zc.mk 97 122)] : List Zc)))
 else
 (if (x0 == 115) = true then
 (if (x0 == 115) = true then
 ((Z2u 32).bind fun r8 =>
 some (.ex, ([(Zc.mk 9 13), r8] : List Zc)))
 else
 (Z2V))
 else
 (if (x0 == 83) = true then
 ((Z2u 32).bind fun r9 =>
 some (.ex, ([(Zc.mk 9 13), r9] : List Zc)))
 else
 (Z2V))))
 else
 (if (x0 == 87) = true then
 ((Z2u 95).bind fun r10 =>
 some (.ex, ([(Zc.mk 48 57), (Zc.mk 65 90), r10, (Zc.mk 97 122)] : List Zc)))
 else
 (if (x0 == 115) = true then
 (if (x0 == 115) = true then
 ((Z2u 32).bind fun r11 =>
 some (.ex, ([(Zc.mk 9 13), r11] : List Zc)))
 else
 (Z2V))
 else
 (if (x0 == 83) = true then
 ((Z2u 32).bind fun r12 =>
 some (.ex, ([(Zc.mk 9 13), r12] : List Zc)))
 else
 (Z2V))))))
theorem Zlx x0 : Sim (Z7v) (Z41 x0) (EE 149 [(iv x0)] []) := by
 unfold Z41
 refine zf (ZEm ..)<|ze<|ze<|ze<|zq ?_
 refine za (x0 == 100) ?_ ?_
 ·refine za (x0 == 100) ?_ ?_
  ·refine ze<|zq<|zq ?_
   exact zr ((.p (.lst .ex (([(Zc.mk 48 57)] : List Zc).map ZA))), []) ⟨_, rfl⟩
  ·refine ze<|zq ?_
   refine za (x0 == 119) ?_ ?_
   ·refine za (x0 == 119) ?_ ?_
    ·refine ze<|zq<|zq<|zi fun r1 hr1 => ?_
     obtain ⟨qr1, er1, exr1, rfl⟩ := Z2l 95 r1 hr1
     refine zc [] (.p (.agg (ZX r1))) [] er1<|zq<|zq ?_
     exact zr ((.p (.lst .ex (([(Zc.mk 48 57), (Zc.mk 65 90), r1, (Zc.mk 97 122)] : List Zc).map ZA))), []) ⟨_, rfl⟩
    ·refine ze<|zq ?_
     refine za (x0 == 115) ?_ ?_
     ·refine za (x0 == 115) ?_ ?_
      ·refine ze<|zq<|zi fun r2 hr2 => ?_
       obtain ⟨qr2, er2, exr2, rfl⟩ := Z2l 32 r2 hr2
       refine zc [] (.p (.agg (ZX r2))) [] er2<|zq ?_
       exact zr ((.p (.lst .ex (([(Zc.mk 9 13), r2] : List Zc).map ZA))), []) ⟨_, rfl⟩
      ·exact zk (Z3h )
     ·refine ze<|zq ?_
      refine za (x0 == 83) ?_ ?_
      ·refine ze<|zq<|zi fun r3 hr3 => ?_
       obtain ⟨qr3, er3, exr3, rfl⟩ := Z2l 32 r3 hr3
       refine zc [] (.p (.agg (ZX r3))) [] er3<|zq ?_
       exact zr ((.p (.lst .ex (([(Zc.mk 9 13), r3] : List Zc).map ZA))), []) ⟨_, rfl⟩
      ·exact zk (Z3h )
   ·refine ze<|zq ?_
    refine za (x0 == 87) ?_ ?_
    ·refine ze<|zq<|zq<|zi fun r4 hr4 => ?_
     obtain ⟨qr4, er4, exr4, rfl⟩ := Z2l 95 r4 hr4
     refine zc [] (.p (.agg (ZX r4))) [] er4<|zq<|zq ?_
     exact zr ((.p (.lst .ex (([(Zc.mk 48 57), (Zc.mk 65 90), r4, (Zc.mk 97 122)] : List Zc).map ZA))), []) ⟨_, rfl⟩
    ·refine ze<|zq ?_
     refine za (x0 == 115) ?_ ?_
     ·refine za (x0 == 115) ?_ ?_
      ·refine ze<|zq<|zi fun r5 hr5 => ?_
       obtain ⟨qr5, er5, exr5, rfl⟩ := Z2l 32 r5 hr5
       refine zc [] (.p (.agg (ZX r5))) [] er5<|zq ?_
       exact zr ((.p (.lst .ex (([(Zc.mk 9 13), r5] : List Zc).map ZA))), []) ⟨_, rfl⟩
      ·exact zk (Z3h )
     ·refine ze<|zq ?_
      refine za (x0 == 83) ?_ ?_
      ·refine ze<|zq<|zi fun r6 hr6 => ?_
       obtain ⟨qr6, er6, exr6, rfl⟩ := Z2l 32 r6 hr6
       refine zc [] (.p (.agg (ZX r6))) [] er6<|zq ?_
       exact zr ((.p (.lst .ex (([(Zc.mk 9 13), r6] : List Zc).map ZA))), []) ⟨_, rfl⟩
      ·exact zk (Z3h )
 ·refine ze<|zq ?_
  refine za (x0 == 68) ?_ ?_
  ·refine ze<|zq<|zq ?_
   exact zr ((.p (.lst .ex (([(Zc.mk 48 57)] : List Zc).map ZA))), []) ⟨_, rfl⟩
  ·refine ze<|zq ?_
   refine za (x0 == 119) ?_ ?_
   ·refine za (x0 == 119) ?_ ?_
    ·refine ze<|zq<|zq<|zi fun r7 hr7 => ?_
     obtain ⟨qr7, er7, exr7, rfl⟩ := Z2l 95 r7 hr7
     refine zc [] (.p (.agg (ZX r7))) [] er7<|zq<|zq ?_
     exact zr ((.p (.lst .ex (([(Zc.mk 48 57), (Zc.mk 65 90), r7, (Zc.mk 97 122)] : List Zc).map ZA))), []) ⟨_, rfl⟩
    ·refine ze<|zq ?_
     refine za (x0 == 115) ?_ ?_
     ·refine za (x0 == 115) ?_ ?_
      ·refine ze<|zq<|zi fun r8 hr8 => ?_
       obtain ⟨qr8, er8, exr8, rfl⟩ := Z2l 32 r8 hr8
       refine zc [] (.p (.agg (ZX r8))) [] er8<|zq ?_
       exact zr ((.p (.lst .ex (([(Zc.mk 9 13), r8] : List Zc).map ZA))), []) ⟨_, rfl⟩
      ·exact zk (Z3h )
     ·refine ze<|zq ?_
      refine za (x0 == 83) ?_ ?_
      ·refine ze<|zq<|zi fun r9 hr9 => ?_
       obtain ⟨qr9, er9, exr9, rfl⟩ := Z2l 32 r9 hr9
       refine zc [] (.p (.agg (ZX r9))) [] er9<|zq ?_
       exact zr ((.p (.lst .ex (([(Zc.mk 9 13), r9] : List Zc).map ZA))), []) ⟨_, rfl⟩
      ·exact zk (Z3h )
   ·refine ze<|zq ?_
    refine za (x0 == 87) ?_ ?_
    ·refine ze<|zq<|zq<|zi fun r10 hr10 => ?_
     obtain ⟨qr10, er10, exr10, rfl⟩ := Z2l 95 r10 hr10
     refine zc [] (.p (.agg (ZX r10))) [] er10<|zq<|zq ?_
     exact zr ((.p (.lst .ex (([(Zc.mk 48 57), (Zc.mk 65 90), r10, (Zc.mk 97 122)] : List Zc).map ZA))), []) ⟨_, rfl⟩
    ·refine ze<|zq ?_
     refine za (x0 == 115) ?_ ?_
     ·refine za (x0 == 115) ?_ ?_
      ·refine ze<|zq<|zi fun r11 hr11 => ?_
       obtain ⟨qr11, er11, exr11, rfl⟩ := Z2l 32 r11 hr11
       refine zc [] (.p (.agg (ZX r11))) [] er11<|zq ?_
       exact zr ((.p (.lst .ex (([(Zc.mk 9 13), r11] : List Zc).map ZA))), []) ⟨_, rfl⟩
      ·exact zk (Z3h )
     ·refine ze<|zq ?_
      refine za (x0 == 83) ?_ ?_
      ·refine ze<|zq<|zi fun r12 hr12 => ?_
       obtain ⟨qr12, er12, exr12, rfl⟩ := Z2l 32 r12 hr12
       refine zc [] (.p (.agg (ZX r12))) [] er12<|zq ?_
       exact zr ((.p (.lst .ex (([(Zc.mk 9 13), r12] : List Zc).map ZA))), []) ⟨_, rfl⟩
      ·exact zk (Z3h )
theorem Zmw (x0 : Int) {r} (h : Z41 x0 = some r) : Z7z x0 = some r :=
 Z1a (fun _ _ ha hb => RRun.uniq ZnC (ha ) (hb )) (Zlx x0 r h)
def Z32 (x2 : Int) (zn : List Int) (z2 z6 : Int) : Option (Int × Int × Int × Int) :=
 (Z1h 21 x2 zn z2 z6).bind fun r1 =>
 some (0, r1.1, r1.2.1, r1.2.2)
theorem Z4L x2 zn zu zb zh zj z2 z6 zp zd (zy : ZN zd = true) : Sim (Z4Q zn zb zh zj zp zd) (Z32 x2 zn z2 z6) (Zev 1 (.ptr 0 0) (iv x2) [(Zk (Zm.mk zn zu zb zh zj (Zl.mk z2 z6)) zp zd)]) := by
 unfold Z32
 refine zf (Zxb ..)<|ze<|zi fun r1 hr1 => ?_
 obtain ⟨qr1, er1, exr1, rfl⟩ := Z1k 21 x2 zn zu zb zh zj z2 z6 zp zd zy r1 hr1
 refine zc [0] (.p (.tup [])) [(Zk (Zm.mk zn r1.1 zb zh zj (Zl.mk r1.2.1 r1.2.2)) zp zd)] er1<|ze ?_
 exact zr ((iv 0), [(Zk (Zm.mk zn r1.1 zb zh zj (Zl.mk r1.2.1 r1.2.2)) zp zd)]) ⟨_, rfl⟩
def Z9c (x1 zu z2 z6 : Int) : Option (Int × Int × Int × Int) :=
 some (x1, zu, z2, z6)
theorem ZgF x1 zn zu zb zh zj z2 z6 zp zd (zy : ZN zd = true) : Sim (Z4Q zn zb zh zj zp zd) (Z9c x1 zu z2 z6) (Zqe 1 (iv x1) [(Zk (Zm.mk zn zu zb zh zj (Zl.mk z2 z6)) zp zd)]) := by
 unfold Z9c
 refine zf (Zxa ..)<|ze ?_
 exact zr ((iv x1), [(Zk (Zm.mk zn zu zb zh zj (Zl.mk z2 z6)) zp zd)]) ⟨_, rfl⟩
def Z8W (x1 x2 : Int) (zn : List Int) (zu zb zh : Int) (zj : List Zx) (z2 z6 : Int) : Option (Int × Int × Int × Int) :=
 if (x1 == 110) = true then
 (some (10, zu, z2, z6))
 else
 (if (x1 == 116) = true then
 (some (9, zu, z2, z6))
 else
 (if (x1 == 114) = true then
 (some (13, zu, z2, z6))
 else
 (if (x1 == 120) = true then
 ((Z2D (Zm.mk zn zu zb zh zj (Zl.mk z2 z6))).bind fun r1 =>
 (ZdS r1).bind fun r2 =>
 if (decide (0 ≤ r2)) = true then
 ((Z3e zn zu).bind fun r3 =>
 (Z2D (Zm.mk zn r3.2 zb zh zj (Zl.mk z2 z6))).bind fun r4 =>
 (ZdS r4).bind fun r5 =>
 if (decide (0 ≤ r5)) = true then
 ((Z3e zn r3.2).bind fun r6 =>
 some ((IntKind.i64.wrap ((IntKind.i64.wrap (16 * r2)) + r5)), r6.2, z2, z6))
 else
 (Z32 x2 zn z2 z6))
 else
 (Z32 x2 zn z2 z6))
 else
 (if (decide (32 < x1)) = true then
 (if (decide (x1 < 127)) = true then
 ((Zae ([(Zc.mk 48 57), (Zc.mk 65 90), (Zc.mk 97 122)] : List Zc) x1).bind fun r7 =>
 if (!r7) = true then
 (Z9c x1 zu z2 z6)
 else
 (Z32 x2 zn z2 z6))
 else
 (Z32 x2 zn z2 z6))
 else
 (Z32 x2 zn z2 z6)))))
theorem Zji x1 x2 zn zu zb zh zj z2 z6 zp zd (zy : ZN zd = true) : Sim (Z4Q zn zb zh zj zp zd) (Z8W x1 x2 zn zu zb zh zj z2 z6) (EE 150 [(.ptr 0 0), (iv x1), (iv x2)] [(Zk (Zm.mk zn zu zb zh zj (Zl.mk z2 z6)) zp zd)]) := by
 unfold Z8W
 refine zf (ZEo ..)<|ze<|ze<|zq ?_
 refine za (x1 == 110) ?_ ?_
 ·refine ze ?_
  exact zr ((iv 10), [(Zk (Zm.mk zn zu zb zh zj (Zl.mk z2 z6)) zp zd)]) ⟨_, rfl⟩
 ·refine ze<|zq ?_
  refine za (x1 == 116) ?_ ?_
  ·refine ze ?_
   exact zr ((iv 9), [(Zk (Zm.mk zn zu zb zh zj (Zl.mk z2 z6)) zp zd)]) ⟨_, rfl⟩
  ·refine ze<|zq ?_
   refine za (x1 == 114) ?_ ?_
   ·refine ze ?_
    exact zr ((iv 13), [(Zk (Zm.mk zn zu zb zh zj (Zl.mk z2 z6)) zp zd)]) ⟨_, rfl⟩
   ·refine ze<|zq ?_
    refine za (x1 == 120) ?_ ?_
    ·refine ze<|zi fun r1 hr1 => ?_
     obtain ⟨qr1, er1, exr1, rfl⟩ := Z2N (Zm.mk zn zu zb zh zj (Zl.mk z2 z6)) zp zd zy r1 hr1
     refine zc [0] (iv r1) [(Zk (Zm.mk zn zu zb zh zj (Zl.mk z2 z6)) zp zd)] er1<|zi fun r2 hr2 => ?_
     obtain ⟨qr2, er2, exr2, rfl⟩ := Zlv r1 r2 hr2
     refine zc [] (iv r2) [(Zk (Zm.mk zn zu zb zh zj (Zl.mk z2 z6)) zp zd)] er2<|ze<|zq ?_
     refine za (decide (0 ≤ r2)) ?_ ?_
     ·refine ze<|zi fun r3 hr3 => ?_
      obtain ⟨qr3, er3, exr3, rfl⟩ := Z3M zn zu zb zh zj z2 z6 zp zd zy r3 hr3
      refine zc [0] (iv r3.1) [(Zk (Zm.mk zn r3.2 zb zh zj (Zl.mk z2 z6)) zp zd)] er3<|ze<|zi fun r4 hr4 => ?_
      obtain ⟨qr4, er4, exr4, rfl⟩ := Z2N (Zm.mk zn r3.2 zb zh zj (Zl.mk z2 z6)) zp zd zy r4 hr4
      refine zc [0] (iv r4) [(Zk (Zm.mk zn r3.2 zb zh zj (Zl.mk z2 z6)) zp zd)] er4<|zi fun r5 hr5 => ?_
      obtain ⟨qr5, er5, exr5, rfl⟩ := Zlv r4 r5 hr5
      refine zc [] (iv r5) [(Zk (Zm.mk zn r3.2 zb zh zj (Zl.mk z2 z6)) zp zd)] er5<|ze<|zq ?_
      refine za (decide (0 ≤ r5)) ?_ ?_
      ·refine ze<|zi fun r6 hr6 => ?_
       obtain ⟨qr6, er6, exr6, rfl⟩ := Z3M zn r3.2 zb zh zj z2 z6 zp zd zy r6 hr6
       refine zc [0] (iv r6.1) [(Zk (Zm.mk zn r6.2 zb zh zj (Zl.mk z2 z6)) zp zd)] er6<|ze<|zq<|zq ?_
       exact zr ((iv (IntKind.i64.wrap ((IntKind.i64.wrap (16 * r2)) + r5))), [(Zk (Zm.mk zn r6.2 zb zh zj (Zl.mk z2 z6)) zp zd)]) ⟨_, rfl⟩
      ·exact zk (Z4L x2 zn r3.2 zb zh zj z2 z6 zp zd zy)
     ·exact zk (Z4L x2 zn zu zb zh zj z2 z6 zp zd zy)
    ·refine ze<|zq ?_
     refine za (decide (32 < x1)) ?_ ?_
     ·refine zq ?_
      refine za (decide (x1 < 127)) ?_ ?_
      ·refine zq<|zq<|zq<|zq<|zi fun r7 hr7 => ?_
       obtain ⟨qr7, er7, exr7, rfl⟩ := Zo9 ([(Zc.mk 48 57), (Zc.mk 65 90), (Zc.mk 97 122)] : List Zc) x1 .sh r7 hr7
       refine zc [] (bv r7) [(Zk (Zm.mk zn zu zb zh zj (Zl.mk z2 z6)) zp zd)] er7<|zq ?_
       refine za (!r7) ?_ ?_
       ·exact zk (ZgF x1 zn zu zb zh zj z2 z6 zp zd zy)
       ·exact zk (Z4L x2 zn zu zb zh zj z2 z6 zp zd zy)
      ·exact zk (Z4L x2 zn zu zb zh zj z2 z6 zp zd zy)
     ·exact zk (Z4L x2 zn zu zb zh zj z2 z6 zp zd zy)
theorem ZjN (x1 x2 : Int) (zn : List Int) (zu zb zh : Int) (zj : List Zx) (z2 z6 : Int) {r} (h : Z8W x1 x2 zn zu zb zh zj z2 z6 = some r) : Z7r x1 x2 zn zu zb zh zj z2 z6 = some r :=
 Z1a (fun _ _ ha hb => RRun.uniq (Zks _ _ _ _ _ _) (ha .ex .ex rfl) (hb .ex .ex rfl)) (fun zp zd zy => Zji x1 x2 zn zu zb zh zj z2 z6 zp zd zy r h)
def ZcO (x0 : Int) : Option (Int) :=
 some (IntKind.i64.wrap (x0 - 48))
theorem Zoe x0 : Sim (Z83) (ZcO x0) (Zt2 0 (iv x0) []) := by
 unfold ZcO
 refine zf (Zze ..)<|ze<|zq ?_
 exact zr ((iv (IntKind.i64.wrap (x0 - 48))), []) ⟨_, rfl⟩
def ZcP (x0 : Int) : Option (Int) :=
 some (IntKind.i64.wrap ((IntKind.i64.wrap (x0 - 97)) + 10))
theorem Zof x0 : Sim (Z83) (ZcP x0) (Zt3 0 (iv x0) []) := by
 unfold ZcP
 refine zf (Zzg ..)<|ze<|zq<|zq ?_
 exact zr ((iv (IntKind.i64.wrap ((IntKind.i64.wrap (x0 - 97)) + 10))), []) ⟨_, rfl⟩
def ZaX  : Option (Int) :=
 some (-1)
theorem Zhh  : Sim (Z83) (ZaX) (Zp5 0  []) := by
 unfold ZaX
 refine zf (Zzh ..)<|ze ?_
 exact zr ((iv (-1)), []) ⟨_, rfl⟩
def ZaW (x0 : Int) : Option (Int) :=
 if (decide (97 ≤ x0)) = true then
 (if (decide (x0 ≤ 102)) = true then
 (ZcP x0)
 else
 (ZaX))
 else
 (ZaX)
theorem Zhg x0 : Sim (Z83) (ZaW x0) (Zp4 0 (iv x0) []) := by
 unfold ZaW
 refine zf (Zzf ..)<|ze<|zq ?_
 refine za (decide (97 ≤ x0)) ?_ ?_
 ·refine zq ?_
  refine za (decide (x0 ≤ 102)) ?_ ?_
  ·exact zk (Zof x0)
  ·exact zk (Zhh )
 ·exact zk (Zhh )
def ZgT (x0 : Int) : Option (Int) :=
 if (decide (48 ≤ x0)) = true then
 (if (decide (x0 ≤ 57)) = true then
 (ZcO x0)
 else
 (ZaW x0))
 else
 (ZaW x0)
theorem Zrq x0 : Sim (Z83) (ZgT x0) (EE 172 [(iv x0)] []) := by
 unfold ZgT
 refine zf (ZEM ..)<|ze<|ze<|zq ?_
 refine za (decide (48 ≤ x0)) ?_ ?_
 ·refine zq ?_
  refine za (decide (x0 ≤ 57)) ?_ ?_
  ·exact zk (Zoe x0)
  ·exact zk (Zhg x0)
 ·exact zk (Zhg x0)
theorem ZtG (x0 : Int) {r} (h : ZgT x0 = some r) : ZdS x0 = some r :=
 Z1a (fun _ _ ha hb => RRun.uniq Zui (ha ) (hb )) (Zrq x0 r h)
def Zc3 (x0 : List Zc) (x1 : Int) : Option (Bool) :=
 (Z54 x0 x1).bind fun r1 =>
 some (r1)
theorem ZnK (x0 : List Zc) x1 ox0 : Sim (Z9Z) (Zc3 x0 x1) (EE 173 [(.p (.lst ox0 (x0.map ZA))), (iv x1)] []) := by
 unfold Zc3
 refine zf (ZEO ..)<|ze<|zx (.ptr 0 0) [[(iv x1)]]<|ze<|zi fun r1 hr1 => ?_
 obtain ⟨qr1, er1, exr1, rfl⟩ := Zds x0 x1 .sh r1 hr1
 refine zc [0] (bv r1) [[(iv x1)]] er1 ?_
 exact zr ((bv r1), [[(iv x1)]]) ⟨_, rfl⟩
theorem Zo8 (x0 : List Zc) (x1 : Int) {r} (h : Zc3 x0 x1 = some r) : Zae x0 x1 = some r :=
 Z1a (fun _ _ ha hb => RRun.uniq Zpj (ha .ex) (hb .ex)) (fun ox0 => ZnK x0 x1 ox0 r h)
def Z4Z (x0 : List Zc) (z1r : Int) : Option (Bool) :=
 (Z63 x0 z1r).bind fun r1 =>
 some (decide (0 ≤ r1))
theorem Zd2 (x0 : List Zc) z1r ox0 : Sim (Z44 z1r) (Z4Z x0 z1r) (EE 184 [(.p (.lst ox0 (x0.map ZA))), (.clo 185 [] [(.ptr 0 0)])] [[(iv z1r)]]) := by
 unfold Z4Z
 refine zf (ZER ..)<|ze<|ze<|zi fun r1 hr1 => ?_
 obtain ⟨qr1, er1, exr1, rfl⟩ := Zf9 x0 z1r .sh r1 hr1
 refine zc [0] (iv r1) [[(iv z1r)]] er1<|zq ?_
 exact zr ((bv (decide (0 ≤ r1))), [[(iv z1r)]]) ⟨_, rfl⟩
theorem Zdr (x0 : List Zc) (z1r : Int) {r} (h : Z4Z x0 z1r = some r) : Z54 x0 z1r = some r :=
 Z1a (fun _ _ ha hb => RRun.uniq (ZdL _) (ha .ex) (hb .ex)) (fun ox0 => Zd2 x0 z1r ox0 r h)
def Z5X (x0 : List Zc) (z1r : Int) : Option (Int) :=
 Z49 x0 (x0.length : Int) 0 z1r
theorem ZeA (x0 : List Zc) z1r ox0 : Sim (Z2b z1r) (Z5X x0 z1r) (EE 191 [(.p (.lst ox0 (x0.map ZA))), (.clo 185 [] [(.ptr 0 0)])] [[(iv z1r)]]) := by
 unfold Z5X
 refine zf (ZET ..)<|ze<|ze ?_
 refine zo (iv (x0.length : Int)) ?_ (Eq.trans (by kernel_rfl) (Z3d (P := PP) (t := 95) (d := 201) (by kernel_rfl) ZA (shrO ox0) x0))
 exact zk (Z8T x0 (x0.length : Int) 0 z1r ox0)
theorem Zf8 (x0 : List Zc) (z1r : Int) {r} (h : Z5X x0 z1r = some r) : Z63 x0 z1r = some r :=
 Z1a (fun _ _ ha hb => RRun.uniq (Za0 _) (ha .ex) (hb .ex)) (fun ox0 => ZeA x0 z1r ox0 r h)
def Z51 (x0 : List Zc) (x7 x8 z1r : Int) : Option (Int) :=
 Z49 x0 x7 (IntKind.i64.wrap (x8 + 1)) z1r
theorem Zd6 (x0 : List Zc) x7 x8 z1r ox0 : Sim (Z2b z1r) (Z51 x0 x7 x8 z1r) (Ztc 1 (.p (.lst ox0 (x0.map ZA))) (.clo 185 [] [(.ptr 0 0)]) (iv x7) (iv x8) [[(iv z1r)]]) := by
 unfold Z51
 refine zf (Zzo ..)<|ze<|zq ?_
 exact zk (Z8T x0 x7 (IntKind.i64.wrap (x8 + 1)) z1r ox0)
def Z47 (x0 : List Zc) (x7 x8 z1r : Int) : Option (Int) :=
 (lget x0 x8).bind fun a1 =>
 (ZaJ a1 z1r).bind fun r2 =>
 if (r2) = true then
 (some (x8))
 else
 (Z51 x0 x7 x8 z1r)
theorem Zd5 (x0 : List Zc) x7 x8 z1r ox0 : Sim (Z2b z1r) (Z47 x0 x7 x8 z1r) (Ztb 1 (.p (.lst ox0 (x0.map ZA))) (.clo 185 [] [(.ptr 0 0)]) (iv x7) (iv x8) [[(iv z1r)]]) := by
 unfold Z47
 refine zf (Zzn ..)<|ze<|ze<|zi fun a1 ha1 => ?_
 refine zo (.cptr (ZX a1)) ?_ (Eq.trans (by kernel_rfl) (Z40 (o := (shrO ox0)) (k := .i64) (n := 2) (e := ZA) (cs := Z7U) (fun _ => rfl) (fun _ => rfl) (by decide) ha1))
 refine zq<|zi fun r2 hr2 => ?_
 obtain ⟨qr2, er2, exr2, rfl⟩ := Zms a1 z1r r2 hr2
 refine zv [0] (bv r2) [[(iv z1r)]] er2 ?_
 refine za r2 ?_ ?_
 ·refine ze ?_
  exact zr ((iv x8), [[(iv z1r)]]) ⟨_, rfl⟩
 ·exact zk (Zd6 x0 x7 x8 z1r ox0)
def Z78  : Option (Int) :=
 some (-1)
theorem Zd7 z1r : Sim (Z2b z1r) (Z78) (Ztd 1  [[(iv z1r)]]) := by
 unfold Z78
 refine zf (Zzp ..)<|ze ?_
 exact zr ((iv (-1)), [[(iv z1r)]]) ⟨_, rfl⟩
def Z3n (x0 : List Zc) (x7 x8 z1r : Int) : Option (Int) :=
 if (decide (x8 < x7)) = true then
 (Z47 x0 x7 x8 z1r)
 else
 (Z78)
theorem Zd4 (x0 : List Zc) x7 x8 z1r ox0 : Sim (Z2b z1r) (Z3n x0 x7 x8 z1r) (ZiL 1 (.p (.lst ox0 (x0.map ZA))) (.clo 185 [] [(.ptr 0 0)]) (iv x7) (iv x8) [[(iv z1r)]]) := by
 unfold Z3n
 refine zf (Zzm ..)<|ze<|zq ?_
 refine za (decide (x8 < x7)) ?_ ?_
 ·exact zk (Zd5 x0 x7 x8 z1r ox0)
 ·exact zk (Zd7 z1r)
theorem Z6b (x0 : List Zc) (x7 x8 z1r : Int) {r} (h : Z3n x0 x7 x8 z1r = some r) : Z49 x0 x7 x8 z1r = some r :=
 Z1a (fun _ _ ha hb => RRun.uniq (Za0 _) (ha .ex) (hb .ex)) (fun ox0 => Zd4 x0 x7 x8 z1r ox0 r h)
def Zax (x0 : Zc) (z1r : Int) : Option (Bool) :=
 if (decide (x0.Lo ≤ z1r)) = true then
 (some (decide (z1r ≤ x0.Hi)))
 else
 (some (false))
theorem Zlp x0 z1r : Sim (Z8F z1r) (Zax x0 z1r) (EE 185 [(.p (.agg (ZX x0))), (.ptr 0 0)] [[(iv z1r)]]) := by
 unfold Zax
 refine zf (ZES ..)<|ze<|zx (.ptr 1 0) [[(iv z1r)], (Z2x x0)]<|ze<|zq<|zq<|zq<|zq ?_
 refine za (decide (x0.Lo ≤ z1r)) ?_ ?_
 ·refine zq<|zq<|zq<|zq ?_
  exact zr ((bv (decide (z1r ≤ x0.Hi))), [[(iv z1r)], (Z2x x0)]) ⟨_, rfl⟩
 ·exact zr ((bv false), [[(iv z1r)], (Z2x x0)]) ⟨_, rfl⟩
theorem Zmr (x0 : Zc) (z1r : Int) {r} (h : Zax x0 z1r = some r) : ZaJ x0 z1r = some r :=
 Z1a (fun _ _ ha hb => RRun.uniq (ZnB _) (ha ) (hb )) (Zlp x0 z1r r h)
def Z7c (x1 : Int) (zn : List Int) (zu zb zh : Int) (zj : List Zx) (z2 z6 : Int) : Option (Z7 × Int × Int × Int) :=
 (Z1F (ByteArray.mk #[94]) zn zu).bind fun r1 =>
 Z4b x1 r1.1 0 zn r1.2 zb zh zj z2 z6 ([] : List Zc)
theorem Zjc x1 zn zu zb zh zj z2 z6 zp zd (zy : ZN zd = true) : Sim (Z1L zn zb zh zj zp zd) (Z7c x1 zn zu zb zh zj z2 z6) (EE 131 [(.ptr 0 0), (iv x1)] [(Zk (Zm.mk zn zu zb zh zj (Zl.mk z2 z6)) zp zd)]) := by
 unfold Z7c
 refine zf (ZE6 ..)<|ze<|zz (.ptr 1 0) [(Zk (Zm.mk zn zu zb zh zj (Zl.mk z2 z6)) zp zd), (Zq (Z7.mk 0 0 0 0 0 ([] : List Zc) ([] : List Z7)) .nl .nl)]<|ze<|zi fun r1 hr1 => ?_
 obtain ⟨qr1, er1, exr1, rfl⟩ := Z1Q (ByteArray.mk #[94]) zn zu zb zh zj z2 z6 zp zd zy r1 hr1
 refine zc [0] (bv r1.1) [(Zk (Zm.mk zn r1.2 zb zh zj (Zl.mk z2 z6)) zp zd), (Zq (Z7.mk 0 0 0 0 0 ([] : List Zc) ([] : List Z7)) .nl .nl)] er1<|ze<|zz (.ptr 2 0) [(Zk (Zm.mk zn r1.2 zb zh zj (Zl.mk z2 z6)) zp zd), (Zq (Z7.mk 0 0 0 0 0 ([] : List Zc) ([] : List Z7)) .nl .nl), [(.p (.lst .nl []))]]<|ze<|ze ?_
 exact zk (ZbP x1 r1.1 0 zn r1.2 zb zh zj z2 z6 (Z7.mk 0 0 0 0 0 ([] : List Zc) ([] : List Z7)) ([] : List Zc) zp zd .nl .nl .nl zy rfl rfl)
theorem ZjI (x1 : Int) (zn : List Int) (zu zb zh : Int) (zj : List Zx) (z2 z6 : Int) {r} (h : Z7c x1 zn zu zb zh zj z2 z6 = some r) : Z91 x1 zn zu zb zh zj z2 z6 = some r :=
 Z1a (fun _ _ ha hb => RRun.uniq (ZdK _ _ _ _ _ _) (ha .ex .ex rfl) (hb .ex .ex rfl)) (fun zp zd zy => Zjc x1 zn zu zb zh zj z2 z6 zp zd zy r h)
def Z1T (x1 : Int) (x5 : Bool) (x8 : Int) (zn : List Int) (zu zb zh : Int) (zj : List Zx) (z2 z6 : Int) (z11 : List Zc) : Option (Z7 × Int × Int × Int) :=
 Z4b x1 x5 (IntKind.i64.wrap (x8 + 1)) zn zu zb zh zj z2 z6 z11
theorem Z2L x1 x5 x8 zn zu zb zh zj z2 z6 b1 (z11 : List Zc) zp zd zI zD z1U (zy : ZN zd = true) (z17 : ZN zI = true) (z10 : ZN zD = true) : Sim (Z1L zn zb zh zj zp zd) (Z1T x1 x5 x8 zn zu zb zh zj z2 z6 z11) (Zb0 1 (.ptr 0 0) (iv x1) (.ptr 1 0) (bv x5) (.ptr 2 0) (.clo 151 [] [(.ptr 2 0)]) (iv x8) [(Zk (Zm.mk zn zu zb zh zj (Zl.mk z2 z6)) zp zd), (Zq b1 zI zD), [(.p (.lst z1U (z11.map ZA)))]]) := by
 unfold Z1T
 refine zf (ZyE ..)<|ze<|zq ?_
 exact zk (ZbP x1 x5 (IntKind.i64.wrap (x8 + 1)) zn zu zb zh zj z2 z6 b1 z11 zp zd zI zD z1U zy z17 z10)
def Z5K (zu z2 z6 : Int) (z11 : List Zc) : Option (Z7 × Int × Int × Int) :=
 some ((Z7.mk 1 0 0 0 0 z11 ([] : List Z7)), zu, z2, z6)
theorem Zb3 zn zu zb zh zj z2 z6 b1 (z11 : List Zc) zp zd zI zD z1U (zy : ZN zd = true) (z17 : ZN zI = true) (z10 : ZN zD = true) : Sim (Z1L zn zb zh zj zp zd) (Z5K zu z2 z6 z11) (Zmh 1 (.ptr 1 0) (.ptr 2 0) [(Zk (Zm.mk zn zu zb zh zj (Zl.mk z2 z6)) zp zd), (Zq b1 zI zD), [(.p (.lst z1U (z11.map ZA)))]]) := by
 unfold Z5K
 refine zf (ZwV ..)<|ze<|zq<|zq<|zt [(Zk (Zm.mk zn zu zb zh zj (Zl.mk z2 z6)) zp zd), (Zq (Z7.mk 1 0 0 0 0 z11 ([] : List Z7)) (shrO (shrO z1U)) .nl), [(.p (.lst z1U (z11.map ZA)))]] ?_
 exact zr ((.p (.agg (ZG (Z7.mk 1 0 0 0 0 z11 ([] : List Z7)) .sh .sh))), [(Zk (Zm.mk zn zu zb zh zj (Zl.mk z2 z6)) zp zd), (Zq (Z7.mk 1 0 0 0 0 z11 ([] : List Z7)) (shrO (shrO z1U)) .nl), [(.p (.lst z1U (z11.map ZA)))]]) ⟨_, rfl⟩
def Z7d (x5 : Bool) (zn : List Int) (zu z2 z6 : Int) (z11 : List Zc) : Option (Z7 × Int × Int × Int) :=
 (Z3e zn zu).bind fun r1 =>
 if (x5) = true then
 ((Zaf z11).bind fun r2 =>
 Z5K r1.2 z2 z6 r2.1)
 else
 (Z5K r1.2 z2 z6 z11)
theorem Zgs x5 zn zu zb zh zj z2 z6 b1 (z11 : List Zc) zp zd zI zD z1U (zy : ZN zd = true) (z17 : ZN zI = true) (z10 : ZN zD = true) : Sim (Z1L zn zb zh zj zp zd) (Z7d x5 zn zu z2 z6 z11) (Zq7 1 (.ptr 0 0) (.ptr 1 0) (bv x5) (.ptr 2 0) [(Zk (Zm.mk zn zu zb zh zj (Zl.mk z2 z6)) zp zd), (Zq b1 zI zD), [(.p (.lst z1U (z11.map ZA)))]]) := by
 unfold Z7d
 refine zf (ZwU ..)<|ze<|zi fun r1 hr1 => ?_
 obtain ⟨qr1, er1, exr1, rfl⟩ := Z3M zn zu zb zh zj z2 z6 zp zd zy r1 hr1
 refine zc [0] (iv r1.1) [(Zk (Zm.mk zn r1.2 zb zh zj (Zl.mk z2 z6)) zp zd), (Zq b1 zI zD), [(.p (.lst z1U (z11.map ZA)))]] er1<|ze ?_
 refine za x5 ?_ ?_
 ·refine ze<|zq<|zi fun r2 hr2 => ?_
  obtain ⟨qr2, er2, exr2, rfl⟩ := Zhf z11 .sh r2 hr2
  refine zc [] (.p (.tup [(.lst .sh (r2.1.map ZA)), (.v (.int .i64 r2.2))])) [(Zk (Zm.mk zn r1.2 zb zh zj (Zl.mk z2 z6)) zp zd), (Zq b1 zI zD), [(.p (.lst z1U (z11.map ZA)))]] er2<|zq<|zq<|zt [(Zk (Zm.mk zn r1.2 zb zh zj (Zl.mk z2 z6)) zp zd), (Zq b1 zI zD), [(.p (.lst .sh (r2.1.map ZA)))]] ?_
  exact zk (Zb3 zn r1.2 zb zh zj z2 z6 b1 r2.1 zp zd zI zD .sh zy z17 z10)
 ·exact zk (Zb3 zn r1.2 zb zh zj z2 z6 b1 z11 zp zd zI zD z1U zy z17 z10)
def Z3S (x1 : Int) (x5 : Bool) (x8 x9 : Int) (zn : List Int) (zb zh : Int) (zj : List Zx) (z2 z6 : Int) (z11 : List Zc) : Option (Z7 × Int × Int × Int) :=
 (Z1h 22 x9 zn z2 z6).bind fun r1 =>
 Z1T x1 x5 x8 zn r1.1 zb zh zj r1.2.1 r1.2.2 z11
theorem Z60 x1 x5 x8 x9 zn zu zb zh zj z2 z6 b1 (z11 : List Zc) zp zd zI zD z1U (zy : ZN zd = true) (z17 : ZN zI = true) (z10 : ZN zD = true) : Sim (Z1L zn zb zh zj zp zd) (Z3S x1 x5 x8 x9 zn zb zh zj z2 z6 z11) (Zgj 1 (.ptr 0 0) (iv x1) (.ptr 1 0) (bv x5) (.ptr 2 0) (.clo 151 [] [(.ptr 2 0)]) (iv x8) (iv x9) [(Zk (Zm.mk zn zu zb zh zj (Zl.mk z2 z6)) zp zd), (Zq b1 zI zD), [(.p (.lst z1U (z11.map ZA)))]]) := by
 unfold Z3S
 refine zf (ZwY ..)<|ze<|zi fun r1 hr1 => ?_
 obtain ⟨qr1, er1, exr1, rfl⟩ := Z1k 22 x9 zn zu zb zh zj z2 z6 zp zd zy r1 hr1
 refine zc [0] (.p (.tup [])) [(Zk (Zm.mk zn r1.1 zb zh zj (Zl.mk r1.2.1 r1.2.2)) zp zd), (Zq b1 zI zD), [(.p (.lst z1U (z11.map ZA)))]] er1 ?_
 exact zk (Z2L x1 x5 x8 zn r1.1 zb zh zj r1.2.1 r1.2.2 b1 z11 zp zd zI zD z1U zy z17 z10)
def Z2y (x1 : Int) (x5 : Bool) (x8 x11 x15 : Int) (zn : List Int) (zu zb zh : Int) (zj : List Zx) (z2 z6 : Int) (z11 : List Zc) : Option (Z7 × Int × Int × Int) :=
 if (z2 == 0) = true then
 ((Z6r ([(Zc.mk x11 x15)] : List Zc) z11).bind fun r1 =>
 Z1T x1 x5 x8 zn zu zb zh zj z2 z6 r1)
 else
 (Z1T x1 x5 x8 zn zu zb zh zj z2 z6 z11)
theorem Z61 x1 x5 x8 x11 x15 zn zu zb zh zj z2 z6 b1 (z11 : List Zc) zp zd zI zD z1U (zy : ZN zd = true) (z17 : ZN zI = true) (z10 : ZN zD = true) : Sim (Z1L zn zb zh zj zp zd) (Z2y x1 x5 x8 x11 x15 zn zu zb zh zj z2 z6 z11) (Zgk 1 (.ptr 0 0) (iv x1) (.ptr 1 0) (bv x5) (.ptr 2 0) (.clo 151 [] [(.ptr 2 0)]) (iv x8) (iv x11) (iv x15) [(Zk (Zm.mk zn zu zb zh zj (Zl.mk z2 z6)) zp zd), (Zq b1 zI zD), [(.p (.lst z1U (z11.map ZA)))]]) := by
 unfold Z2y
 refine zf (Zx1 ..)<|ze<|zq<|zq<|zq<|zq<|zq ?_
 refine za (z2 == 0) ?_ ?_
 ·refine ze<|zq<|zq<|zi fun r1 hr1 => ?_
  obtain ⟨qr1, er1, or1_0_0, exr1, rfl⟩ := Zce ([(Zc.mk x11 x15)] : List Zc) z11 .sh z1U r1 hr1
  refine zv [2] (.p (.tup [])) [(Zk (Zm.mk zn zu zb zh zj (Zl.mk z2 z6)) zp zd), (Zq b1 zI zD), [(.p (.lst or1_0_0 (r1.map ZA)))]] er1 ?_
  exact zk (Z2L x1 x5 x8 zn zu zb zh zj z2 z6 b1 r1 zp zd zI zD or1_0_0 zy z17 z10)
 ·exact zk (Z2L x1 x5 x8 zn zu zb zh zj z2 z6 b1 z11 zp zd zI zD z1U zy z17 z10)
def Z4H (x1 : Int) (x5 : Bool) (x8 x9 x11 x15 : Int) (zn : List Int) (zb zh : Int) (zj : List Zx) (z2 z6 : Int) (z11 : List Zc) : Option (Z7 × Int × Int × Int) :=
 (Z1h 22 x9 zn z2 z6).bind fun r1 =>
 Z2y x1 x5 x8 x11 x15 zn r1.1 zb zh zj r1.2.1 r1.2.2 z11
theorem Zb5 x1 x5 x8 x9 x11 x15 zn zu zb zh zj z2 z6 b1 (z11 : List Zc) zp zd zI zD z1U (zy : ZN zd = true) (z17 : ZN zI = true) (z10 : ZN zD = true) : Sim (Z1L zn zb zh zj zp zd) (Z4H x1 x5 x8 x9 x11 x15 zn zb zh zj z2 z6 z11) (Zmj 1 (.ptr 0 0) (iv x1) (.ptr 1 0) (bv x5) (.ptr 2 0) (.clo 151 [] [(.ptr 2 0)]) (iv x8) (iv x9) (iv x11) (iv x15) [(Zk (Zm.mk zn zu zb zh zj (Zl.mk z2 z6)) zp zd), (Zq b1 zI zD), [(.p (.lst z1U (z11.map ZA)))]]) := by
 unfold Z4H
 refine zf (Zx0 ..)<|ze<|zi fun r1 hr1 => ?_
 obtain ⟨qr1, er1, exr1, rfl⟩ := Z1k 22 x9 zn zu zb zh zj z2 z6 zp zd zy r1 hr1
 refine zc [0] (.p (.tup [])) [(Zk (Zm.mk zn r1.1 zb zh zj (Zl.mk r1.2.1 r1.2.2)) zp zd), (Zq b1 zI zD), [(.p (.lst z1U (z11.map ZA)))]] er1 ?_
 exact zk (Z61 x1 x5 x8 x11 x15 zn r1.1 zb zh zj r1.2.1 r1.2.2 b1 z11 zp zd zI zD z1U zy z17 z10)
def Z7e (x1 : Int) (x5 : Bool) (x8 x9 x11 : Int) (zn : List Int) (zu zb zh : Int) (zj : List Zx) (z2 z6 : Int) (z11 : List Zc) : Option (Z7 × Int × Int × Int) :=
 (Z5x zn zu zb zh zj z2 z6).bind fun r1 =>
 if (r1.2.2.2.2.1 == 0) = true then
 ((nilO (shrO (shrO (shrO (shrO r1.2.1.1)))) r1.2.1.2).bind fun a2 =>
 if (!a2) = true then
 (Z4H x1 x5 x8 x9 x11 r1.1 zn zb zh zj r1.2.2.2.2.1 r1.2.2.2.2.2 z11)
 else
 (if (decide (r1.1 < x11)) = true then
 (Z4H x1 x5 x8 x9 x11 r1.1 zn zb zh zj r1.2.2.2.2.1 r1.2.2.2.2.2 z11)
 else
 (Z2y x1 x5 x8 x11 r1.1 zn r1.2.2.2.1 zb zh zj r1.2.2.2.2.1 r1.2.2.2.2.2 z11)))
 else
 (Z2y x1 x5 x8 x11 r1.1 zn r1.2.2.2.1 zb zh zj r1.2.2.2.2.1 r1.2.2.2.2.2 z11)
theorem Zgu x1 x5 x8 x9 x11 zn zu zb zh zj z2 z6 b1 (z11 : List Zc) zp zd zI zD z1U (zy : ZN zd = true) (z17 : ZN zI = true) (z10 : ZN zD = true) : Sim (Z1L zn zb zh zj zp zd) (Z7e x1 x5 x8 x9 x11 zn zu zb zh zj z2 z6 z11) (Zq9 1 (.ptr 0 0) (iv x1) (.ptr 1 0) (bv x5) (.ptr 2 0) (.clo 151 [] [(.ptr 2 0)]) (iv x8) (iv x9) (iv x11) [(Zk (Zm.mk zn zu zb zh zj (Zl.mk z2 z6)) zp zd), (Zq b1 zI zD), [(.p (.lst z1U (z11.map ZA)))]]) := by
 unfold Z7e
 refine zf (ZwZ ..)<|ze<|zi fun r1 hr1 => ?_
 obtain ⟨qr1, er1, exr1, rfl⟩ := Zcr zn zu zb zh zj z2 z6 zp zd zy r1 hr1
 refine zc [0] (.p (.tup [(.v (.int .i64 r1.1)), (.lst r1.2.1.1 (r1.2.1.2.map ZA)), (.v (.bool r1.2.2.1))])) [(Zk (Zm.mk zn r1.2.2.2.1 zb zh zj (Zl.mk r1.2.2.2.2.1 r1.2.2.2.2.2)) zp zd), (Zq b1 zI zD), [(.p (.lst z1U (z11.map ZA)))]] er1<|zq<|zq<|zq<|ze<|zq<|zq<|zq<|zq<|zq ?_
 refine za (r1.2.2.2.2.1 == 0) ?_ ?_
 ·refine zi fun a2 ha2 => ?_
  refine zo (bv (!a2)) ?_ (Eq.trans (by kernel_rfl) (Znv (P := PP) (t := 94) (c := .slice none 0 0) (e := ZA) (by kernel_rfl) ha2))
  refine za (!a2) ?_ ?_
  ·exact zk (Zb5 x1 x5 x8 x9 x11 r1.1 zn r1.2.2.2.1 zb zh zj r1.2.2.2.2.1 r1.2.2.2.2.2 b1 z11 zp zd zI zD z1U zy z17 z10)
  ·refine zq ?_
   refine za (decide (r1.1 < x11)) ?_ ?_
   ·exact zk (Zb5 x1 x5 x8 x9 x11 r1.1 zn r1.2.2.2.1 zb zh zj r1.2.2.2.2.1 r1.2.2.2.2.2 b1 z11 zp zd zI zD z1U zy z17 z10)
   ·exact zk (Z61 x1 x5 x8 x11 r1.1 zn r1.2.2.2.1 zb zh zj r1.2.2.2.2.1 r1.2.2.2.2.2 b1 z11 zp zd zI zD z1U zy z17 z10)
 ·exact zk (Z61 x1 x5 x8 x11 r1.1 zn r1.2.2.2.1 zb zh zj r1.2.2.2.2.1 r1.2.2.2.2.2 b1 z11 zp zd zI zD z1U zy z17 z10)
def Z5M (x1 : Int) (x5 : Bool) (x8 x9 x11 : Int) (zn : List Int) (zu zb zh : Int) (zj : List Zx) (z2 z6 : Int) (z11 : List Zc) : Option (Z7 × Int × Int × Int) :=
 (Z1F (ByteArray.mk #[45]) zn zu).bind fun r1 =>
 if (r1.1) = true then
 ((Z2D (Zm.mk zn r1.2 zb zh zj (Zl.mk z2 z6))).bind fun r2 =>
 if (r2 == 93) = true then
 (Z3S x1 x5 x8 x9 zn zb zh zj z2 z6 z11)
 else
 (if (r2 == 91) = true then
 (Z3S x1 x5 x8 x9 zn zb zh zj z2 z6 z11)
 else
 (if (r2 == 45) = true then
 (Z3S x1 x5 x8 x9 zn zb zh zj z2 z6 z11)
 else
 (if (decide (r2 < 0)) = true then
 (Z3S x1 x5 x8 x9 zn zb zh zj z2 z6 z11)
 else
 (Z7e x1 x5 x8 x9 x11 zn r1.2 zb zh zj z2 z6 z11)))))
 else
 (Z2y x1 x5 x8 x11 x11 zn r1.2 zb zh zj z2 z6 z11)
theorem Zgt x1 x5 x8 x9 x11 zn zu zb zh zj z2 z6 b1 (z11 : List Zc) zp zd zI zD z1U (zy : ZN zd = true) (z17 : ZN zI = true) (z10 : ZN zD = true) : Sim (Z1L zn zb zh zj zp zd) (Z5M x1 x5 x8 x9 x11 zn zu zb zh zj z2 z6 z11) (Zq8 1 (.ptr 0 0) (iv x1) (.ptr 1 0) (bv x5) (.ptr 2 0) (.clo 151 [] [(.ptr 2 0)]) (iv x8) (iv x9) (iv x11) [(Zk (Zm.mk zn zu zb zh zj (Zl.mk z2 z6)) zp zd), (Zq b1 zI zD), [(.p (.lst z1U (z11.map ZA)))]]) := by
 unfold Z5M
 refine zf (ZwX ..)<|ze<|ze<|zi fun r1 hr1 => ?_
 obtain ⟨qr1, er1, exr1, rfl⟩ := Z1Q (ByteArray.mk #[45]) zn zu zb zh zj z2 z6 zp zd zy r1 hr1
 refine zc [0] (bv r1.1) [(Zk (Zm.mk zn r1.2 zb zh zj (Zl.mk z2 z6)) zp zd), (Zq b1 zI zD), [(.p (.lst z1U (z11.map ZA)))]] er1 ?_
 refine za r1.1 ?_ ?_
 ·refine ze<|zi fun r2 hr2 => ?_
  obtain ⟨qr2, er2, exr2, rfl⟩ := Z2N (Zm.mk zn r1.2 zb zh zj (Zl.mk z2 z6)) zp zd zy r2 hr2
  refine zc [0] (iv r2) [(Zk (Zm.mk zn r1.2 zb zh zj (Zl.mk z2 z6)) zp zd), (Zq b1 zI zD), [(.p (.lst z1U (z11.map ZA)))]] er2<|ze<|zq ?_
  refine za (r2 == 93) ?_ ?_
  ·exact zk (Z60 x1 x5 x8 x9 zn r1.2 zb zh zj z2 z6 b1 z11 zp zd zI zD z1U zy z17 z10)
  ·refine zq ?_
   refine za (r2 == 91) ?_ ?_
   ·exact zk (Z60 x1 x5 x8 x9 zn r1.2 zb zh zj z2 z6 b1 z11 zp zd zI zD z1U zy z17 z10)
   ·refine zq ?_
    refine za (r2 == 45) ?_ ?_
    ·exact zk (Z60 x1 x5 x8 x9 zn r1.2 zb zh zj z2 z6 b1 z11 zp zd zI zD z1U zy z17 z10)
    ·refine zq ?_
     refine za (decide (r2 < 0)) ?_ ?_
     ·exact zk (Z60 x1 x5 x8 x9 zn r1.2 zb zh zj z2 z6 b1 z11 zp zd zI zD z1U zy z17 z10)
     ·exact zk (Zgu x1 x5 x8 x9 x11 zn r1.2 zb zh zj z2 z6 b1 z11 zp zd zI zD z1U zy z17 z10)
 ·exact zk (Z61 x1 x5 x8 x11 x11 zn r1.2 zb zh zj z2 z6 b1 z11 zp zd zI zD z1U zy z17 z10)
def Z5L (x1 : Int) (x5 : Bool) (x8 x9 : Int) (zn : List Int) (zu zb zh : Int) (zj : List Zx) (z2 z6 : Int) (z11 : List Zc) : Option (Z7 × Int × Int × Int) :=
 (Z5x zn zu zb zh zj z2 z6).bind fun r1 =>
 (nilO (shrO (shrO (shrO (shrO r1.2.1.1)))) r1.2.1.2).bind fun a2 =>
 if (!a2) = true then
 ((Z43 r1.2.2.1 r1.2.1.2).bind fun r3 =>
 (Z6r r3.Set z11).bind fun r4 =>
 (Z2D (Zm.mk zn r1.2.2.2.1 zb zh zj (Zl.mk r1.2.2.2.2.1 r1.2.2.2.2.2))).bind fun r5 =>
 if (r5 == 45) = true then
 ((Z1h 22 r1.2.2.2.1 zn r1.2.2.2.2.1 r1.2.2.2.2.2).bind fun r6 =>
 Z1T x1 x5 x8 zn r6.1 zb zh zj r6.2.1 r6.2.2 r4)
 else
 (Z1T x1 x5 x8 zn r1.2.2.2.1 zb zh zj r1.2.2.2.2.1 r1.2.2.2.2.2 r4))
 else
 (Z5M x1 x5 x8 x9 r1.1 zn r1.2.2.2.1 zb zh zj r1.2.2.2.2.1 r1.2.2.2.2.2 z11)
theorem Zb4 x1 x5 x8 x9 zn zu zb zh zj z2 z6 b1 (z11 : List Zc) zp zd zI zD z1U (zy : ZN zd = true) (z17 : ZN zI = true) (z10 : ZN zD = true) : Sim (Z1L zn zb zh zj zp zd) (Z5L x1 x5 x8 x9 zn zu zb zh zj z2 z6 z11) (Zmi 1 (.ptr 0 0) (iv x1) (.ptr 1 0) (bv x5) (.ptr 2 0) (.clo 151 [] [(.ptr 2 0)]) (iv x8) (iv x9) [(Zk (Zm.mk zn zu zb zh zj (Zl.mk z2 z6)) zp zd), (Zq b1 zI zD), [(.p (.lst z1U (z11.map ZA)))]]) := by
 unfold Z5L
 refine zf (ZwW ..)<|ze<|zi fun r1 hr1 => ?_
 obtain ⟨qr1, er1, exr1, rfl⟩ := Zcr zn zu zb zh zj z2 z6 zp zd zy r1 hr1
 refine zc [0] (.p (.tup [(.v (.int .i64 r1.1)), (.lst r1.2.1.1 (r1.2.1.2.map ZA)), (.v (.bool r1.2.2.1))])) [(Zk (Zm.mk zn r1.2.2.2.1 zb zh zj (Zl.mk r1.2.2.2.2.1 r1.2.2.2.2.2)) zp zd), (Zq b1 zI zD), [(.p (.lst z1U (z11.map ZA)))]] er1<|zq<|zq<|zq<|ze<|zi fun a2 ha2 => ?_
 refine zo (bv (!a2)) ?_ (Eq.trans (by kernel_rfl) (Znv (P := PP) (t := 94) (c := .slice none 0 0) (e := ZA) (by kernel_rfl) ha2))
 refine za (!a2) ?_ ?_
 ·refine ze<|zi fun r3 hr3 => ?_
  obtain ⟨qr3, er3, exr3, rfl⟩ := Z4d r1.2.2.1 r1.2.1.2 .sh r3 hr3
  refine zc [] (.p (.agg (ZG r3 .sh .sh))) [(Zk (Zm.mk zn r1.2.2.2.1 zb zh zj (Zl.mk r1.2.2.2.2.1 r1.2.2.2.2.2)) zp zd), (Zq b1 zI zD), [(.p (.lst z1U (z11.map ZA)))]] er3<|zz (.ptr 3 0) [(Zk (Zm.mk zn r1.2.2.2.1 zb zh zj (Zl.mk r1.2.2.2.2.1 r1.2.2.2.2.2)) zp zd), (Zq b1 zI zD), [(.p (.lst z1U (z11.map ZA)))], (Zq (Z7.mk 0 0 0 0 0 ([] : List Zc) ([] : List Z7)) .nl .nl)]<|zt [(Zk (Zm.mk zn r1.2.2.2.1 zb zh zj (Zl.mk r1.2.2.2.2.1 r1.2.2.2.2.2)) zp zd), (Zq b1 zI zD), [(.p (.lst z1U (z11.map ZA)))], (Zq r3 .sh .sh)]<|ze<|zq<|zq<|zi fun r4 hr4 => ?_
  obtain ⟨qr4, er4, or4_0_0, exr4, rfl⟩ := Zce r3.Set z11 .sh z1U r4 hr4
  refine zv [2] (.p (.tup [])) [(Zk (Zm.mk zn r1.2.2.2.1 zb zh zj (Zl.mk r1.2.2.2.2.1 r1.2.2.2.2.2)) zp zd), (Zq b1 zI zD), [(.p (.lst or4_0_0 (r4.map ZA)))], (Zq r3 .sh .sh)] er4<|ze<|zi fun r5 hr5 => ?_
  obtain ⟨qr5, er5, exr5, rfl⟩ := Z2N (Zm.mk zn r1.2.2.2.1 zb zh zj (Zl.mk r1.2.2.2.2.1 r1.2.2.2.2.2)) zp zd zy r5 hr5
  refine zc [0] (iv r5) [(Zk (Zm.mk zn r1.2.2.2.1 zb zh zj (Zl.mk r1.2.2.2.2.1 r1.2.2.2.2.2)) zp zd), (Zq b1 zI zD), [(.p (.lst or4_0_0 (r4.map ZA)))], (Zq r3 .sh .sh)] er5<|zq ?_
  refine za (r5 == 45) ?_ ?_
  ·refine ze<|zq<|zq<|zq<|zi fun r6 hr6 => ?_
   obtain ⟨qr6, er6, exr6, rfl⟩ := Z1k 22 r1.2.2.2.1 zn r1.2.2.2.1 zb zh zj r1.2.2.2.2.1 r1.2.2.2.2.2 zp zd zy r6 hr6
   refine zc [0] (.p (.tup [])) [(Zk (Zm.mk zn r6.1 zb zh zj (Zl.mk r6.2.1 r6.2.2)) zp zd), (Zq b1 zI zD), [(.p (.lst or4_0_0 (r4.map ZA)))], (Zq r3 .sh .sh)] er6 ?_
   exact zk (Z2L x1 x5 x8 zn r6.1 zb zh zj r6.2.1 r6.2.2 b1 r4 zp zd zI zD or4_0_0 zy z17 z10)
  ·exact zk (Z2L x1 x5 x8 zn r1.2.2.2.1 zb zh zj r1.2.2.2.2.1 r1.2.2.2.2.2 b1 r4 zp zd zI zD or4_0_0 zy z17 z10)
 ·exact zk (Zgt x1 x5 x8 x9 r1.1 zn r1.2.2.2.1 zb zh zj r1.2.2.2.2.1 r1.2.2.2.2.2 b1 z11 zp zd zI zD z1U zy z17 z10)
def Z4P (x1 : Int) (x5 : Bool) (x8 : Int) (zn : List Int) (zu zb zh : Int) (zj : List Zx) (z2 z6 : Int) (z11 : List Zc) : Option (Z7 × Int × Int × Int) :=
 (Z2D (Zm.mk zn zu zb zh zj (Zl.mk z2 z6))).bind fun r1 =>
 if (r1 == (-1)) = true then
 ((Z1h 22 x1 zn z2 z6).bind fun r2 =>
 Z1T x1 x5 x8 zn r2.1 zb zh zj r2.2.1 r2.2.2 z11)
 else
 (if (r1 == 93) = true then
 (if (x8 == 0) = true then
 ((Z1h 22 x1 zn z2 z6).bind fun r3 =>
 Z1T x1 x5 x8 zn r3.1 zb zh zj r3.2.1 r3.2.2 z11)
 else
 (Z7d x5 zn zu z2 z6 z11))
 else
 (if (r1 == 91) = true then
 (if (r1 == 91) = true then
 ((Z1h 22 zu zn z2 z6).bind fun r4 =>
 Z1T x1 x5 x8 zn r4.1 zb zh zj r4.2.1 r4.2.2 z11)
 else
 (Z5L x1 x5 x8 zu zn zu zb zh zj z2 z6 z11))
 else
 (if (r1 == 45) = true then
 ((Z1h 22 zu zn z2 z6).bind fun r5 =>
 Z1T x1 x5 x8 zn r5.1 zb zh zj r5.2.1 r5.2.2 z11)
 else
 (Z5L x1 x5 x8 zu zn zu zb zh zj z2 z6 z11))))
theorem Zhj x1 x5 x8 zn zu zb zh zj z2 z6 b1 (z11 : List Zc) zp zd zI zD z1U (zy : ZN zd = true) (z17 : ZN zI = true) (z10 : ZN zD = true) : Sim (Z1L zn zb zh zj zp zd) (Z4P x1 x5 x8 zn zu zb zh zj z2 z6 z11) (Zsn 1 (.ptr 0 0) (iv x1) (.ptr 1 0) (bv x5) (.ptr 2 0) (.clo 151 [] [(.ptr 2 0)]) (iv x8) [(Zk (Zm.mk zn zu zb zh zj (Zl.mk z2 z6)) zp zd), (Zq b1 zI zD), [(.p (.lst z1U (z11.map ZA)))]]) := by
 unfold Z4P
 refine zf (ZyF ..)<|ze<|zq<|zq<|zq<|ze<|zi fun r1 hr1 => ?_
 obtain ⟨qr1, er1, exr1, rfl⟩ := Z2N (Zm.mk zn zu zb zh zj (Zl.mk z2 z6)) zp zd zy r1 hr1
 refine zc [0] (iv r1) [(Zk (Zm.mk zn zu zb zh zj (Zl.mk z2 z6)) zp zd), (Zq b1 zI zD), [(.p (.lst z1U (z11.map ZA)))]] er1<|ze<|ze<|zq ?_
 refine za (r1 == (-1)) ?_ ?_
 ·refine ze<|zi fun r2 hr2 => ?_
  obtain ⟨qr2, er2, exr2, rfl⟩ := Z1k 22 x1 zn zu zb zh zj z2 z6 zp zd zy r2 hr2
  refine zc [0] (.p (.tup [])) [(Zk (Zm.mk zn r2.1 zb zh zj (Zl.mk r2.2.1 r2.2.2)) zp zd), (Zq b1 zI zD), [(.p (.lst z1U (z11.map ZA)))]] er2 ?_
  exact zk (Z2L x1 x5 x8 zn r2.1 zb zh zj r2.2.1 r2.2.2 b1 z11 zp zd zI zD z1U zy z17 z10)
 ·refine ze<|zq ?_
  refine za (r1 == 93) ?_ ?_
  ·refine ze<|zq ?_
   refine za (x8 == 0) ?_ ?_
   ·refine ze<|zi fun r3 hr3 => ?_
    obtain ⟨qr3, er3, exr3, rfl⟩ := Z1k 22 x1 zn zu zb zh zj z2 z6 zp zd zy r3 hr3
    refine zc [0] (.p (.tup [])) [(Zk (Zm.mk zn r3.1 zb zh zj (Zl.mk r3.2.1 r3.2.2)) zp zd), (Zq b1 zI zD), [(.p (.lst z1U (z11.map ZA)))]] er3 ?_
    exact zk (Z2L x1 x5 x8 zn r3.1 zb zh zj r3.2.1 r3.2.2 b1 z11 zp zd zI zD z1U zy z17 z10)
   ·exact zk (Zgs x5 zn zu zb zh zj z2 z6 b1 z11 zp zd zI zD z1U zy z17 z10)
  ·refine ze<|zq ?_
   refine za (r1 == 91) ?_ ?_
   ·refine za (r1 == 91) ?_ ?_
    ·refine ze<|zi fun r4 hr4 => ?_
     obtain ⟨qr4, er4, exr4, rfl⟩ := Z1k 22 zu zn zu zb zh zj z2 z6 zp zd zy r4 hr4
     refine zc [0] (.p (.tup [])) [(Zk (Zm.mk zn r4.1 zb zh zj (Zl.mk r4.2.1 r4.2.2)) zp zd), (Zq b1 zI zD), [(.p (.lst z1U (z11.map ZA)))]] er4 ?_
     exact zk (Z2L x1 x5 x8 zn r4.1 zb zh zj r4.2.1 r4.2.2 b1 z11 zp zd zI zD z1U zy z17 z10)
    ·exact zk (Zb4 x1 x5 x8 zu zn zu zb zh zj z2 z6 b1 z11 zp zd zI zD z1U zy z17 z10)
   ·refine ze<|zq ?_
    refine za (r1 == 45) ?_ ?_
    ·refine ze<|zi fun r5 hr5 => ?_
     obtain ⟨qr5, er5, exr5, rfl⟩ := Z1k 22 zu zn zu zb zh zj z2 z6 zp zd zy r5 hr5
     refine zc [0] (.p (.tup [])) [(Zk (Zm.mk zn r5.1 zb zh zj (Zl.mk r5.2.1 r5.2.2)) zp zd), (Zq b1 zI zD), [(.p (.lst z1U (z11.map ZA)))]] er5 ?_
     exact zk (Z2L x1 x5 x8 zn r5.1 zb zh zj r5.2.1 r5.2.2 b1 z11 zp zd zI zD z1U zy z17 z10)
    ·exact zk (Zb4 x1 x5 x8 zu zn zu zb zh zj z2 z6 b1 z11 zp zd zI zD z1U zy z17 z10)
def Z9a (zu z2 z6 : Int) : Option (Z7 × Int × Int × Int) :=
 some ((Z7.mk 0 0 0 0 0 ([] : List Zc) ([] : List Z7)), zu, z2, z6)
theorem Zgv zn zu zb zh zj z2 z6 b1 zp zd zI zD (zy : ZN zd = true) (z17 : ZN zI = true) (z10 : ZN zD = true) : Sim (Z1L zn zb zh zj zp zd) (Z9a zu z2 z6) (Zqa 1 (.ptr 1 0) [(Zk (Zm.mk zn zu zb zh zj (Zl.mk z2 z6)) zp zd), (Zq b1 zI zD)]) := by
 unfold Z9a
 refine zf (Zx2 ..)<|ze<|zq<|zt [(Zk (Zm.mk zn zu zb zh zj (Zl.mk z2 z6)) zp zd), (Zq (Z7.mk 0 0 0 0 0 ([] : List Zc) ([] : List Z7)) .nl .nl)] ?_
 exact zr ((.p (.agg (ZG (Z7.mk 0 0 0 0 0 ([] : List Zc) ([] : List Z7)) .sh .sh))), [(Zk (Zm.mk zn zu zb zh zj (Zl.mk z2 z6)) zp zd), (Zq (Z7.mk 0 0 0 0 0 ([] : List Zc) ([] : List Z7)) .nl .nl)]) ⟨_, rfl⟩
def Z69 (x1 : Int) (x5 : Bool) (x8 : Int) (zn : List Int) (zu zb zh : Int) (zj : List Zx) (z2 z6 : Int) (z11 : List Zc) : Option (Z7 × Int × Int × Int) :=
 if (z2 == 0) = true then
 (Z4P x1 x5 x8 zn zu zb zh zj z2 z6 z11)
 else
 (Z9a zu z2 z6)
theorem Zhi x1 x5 x8 zn zu zb zh zj z2 z6 b1 (z11 : List Zc) zp zd zI zD z1U (zy : ZN zd = true) (z17 : ZN zI = true) (z10 : ZN zD = true) : Sim (Z1L zn zb zh zj zp zd) (Z69 x1 x5 x8 zn zu zb zh zj z2 z6 z11) (ZiC 1 (.ptr 0 0) (iv x1) (.ptr 1 0) (bv x5) (.ptr 2 0) (.clo 151 [] [(.ptr 2 0)]) (iv x8) [(Zk (Zm.mk zn zu zb zh zj (Zl.mk z2 z6)) zp zd), (Zq b1 zI zD), [(.p (.lst z1U (z11.map ZA)))]]) := by
 unfold Z69
 refine zf (ZyD ..)<|ze<|zq<|zq<|zq<|zq<|zq ?_
 refine za (z2 == 0) ?_ ?_
 ·exact zk (Zhj x1 x5 x8 zn zu zb zh zj z2 z6 b1 z11 zp zd zI zD z1U zy z17 z10)
 ·exact zk (Zgv zn zu zb zh zj z2 z6 b1 zp zd zI zD zy z17 z10)
theorem ZbO (x1 : Int) (x5 : Bool) (x8 : Int) (zn : List Int) (zu zb zh : Int) (zj : List Zx) (z2 z6 : Int) (z11 : List Zc) {r} (h : Z69 x1 x5 x8 zn zu zb zh zj z2 z6 z11 = some r) : Z4b x1 x5 x8 zn zu zb zh zj z2 z6 z11 = some r :=
 Z1a (fun _ _ ha hb => RRun.uniq (ZdK _ _ _ _ _ _) (ha default .ex .ex .ex .ex .ex rfl rfl rfl) (hb default .ex .ex .ex .ex .ex rfl rfl rfl)) (fun b1 zp zd zI zD z1U zy z17 z10 => Zhi x1 x5 x8 zn zu zb zh zj z2 z6 b1 z11 zp zd zI zD z1U zy z17 z10 r h)
def Z5e (x2 x5 : Int) (zn : List Int) (zu zb zh : Int) (zj : List Zx) (z2 z6 : Int) : Option (Int × (Own × (List Zc)) × Bool × Int × Int × Int) :=
 (Z7r x2 x5 zn zu zb zh zj z2 z6).bind fun r1 =>
 some (r1.1, (.nl, ([] : List Zc)), false, r1.2.1, r1.2.2.1, r1.2.2.2)
theorem ZfX x2 x5 zn zu zb zh zj z2 z6 zp zd (zy : ZN zd = true) : Sim (Z3Y zn zb zh zj zp zd) (Z5e x2 x5 zn zu zb zh zj z2 z6) (Zqf 1 (.ptr 0 0) (iv x2) (iv x5) [(Zk (Zm.mk zn zu zb zh zj (Zl.mk z2 z6)) zp zd)]) := by
 unfold Z5e
 refine zf (Zxc ..)<|ze<|zi fun r1 hr1 => ?_
 obtain ⟨qr1, er1, exr1, rfl⟩ := Zdk x2 x5 zn zu zb zh zj z2 z6 zp zd zy r1 hr1
 refine zc [0] (iv r1.1) [(Zk (Zm.mk zn r1.2.1 zb zh zj (Zl.mk r1.2.2.1 r1.2.2.2)) zp zd)] er1 ?_
 exact zr ((.p (.tup [(.v (.int .i64 r1.1)), (.lst .nl []), (.v (.bool false))])), [(Zk (Zm.mk zn r1.2.1 zb zh zj (Zl.mk r1.2.2.1 r1.2.2.2)) zp zd)]) ⟨_, rfl⟩
def Z7h (x2 x5 : Int) (zn : List Int) (zu zb zh : Int) (zj : List Zx) (z2 z6 : Int) : Option (Int × (Own × (List Zc)) × Bool × Int × Int × Int) :=
 (Z3e zn zu).bind fun r1 =>
 (Z7z x2).bind fun r2 =>
 (nilO (shrO r2.1) r2.2).bind fun a3 =>
 if (!a3) = true then
 (some (0, ((shrO r2.1), r2.2), (decide (x2 < 97)), r1.2, z2, z6))
 else
 (Z5e x2 x5 zn r1.2 zb zh zj z2 z6)
theorem ZgA x2 x5 zn zu zb zh zj z2 z6 zp zd (zy : ZN zd = true) : Sim (Z3Y zn zb zh zj zp zd) (Z7h x2 x5 zn zu zb zh zj z2 z6) (ZsA 1 (.ptr 0 0) (iv x2) (iv x5) [(Zk (Zm.mk zn zu zb zh zj (Zl.mk z2 z6)) zp zd)]) := by
 unfold Z7h
 refine zf (ZyR ..)<|ze<|zi fun r1 hr1 => ?_
 obtain ⟨qr1, er1, exr1, rfl⟩ := Z3M zn zu zb zh zj z2 z6 zp zd zy r1 hr1
 refine zc [0] (iv r1.1) [(Zk (Zm.mk zn r1.2 zb zh zj (Zl.mk z2 z6)) zp zd)] er1<|ze<|zi fun r2 hr2 => ?_
 obtain ⟨qr2, er2, exr2, rfl⟩ := ZbF x2 r2 hr2
 refine zc [] (.p (.lst r2.1 (r2.2.map ZA))) [(Zk (Zm.mk zn r1.2 zb zh zj (Zl.mk z2 z6)) zp zd)] er2<|ze<|zi fun a3 ha3 => ?_
 refine zo (bv (!a3)) ?_ (Eq.trans (by kernel_rfl) (Znv (P := PP) (t := 94) (c := .slice none 0 0) (e := ZA) (by kernel_rfl) ha3))
 refine za (!a3) ?_ ?_
 ·refine ze<|zq ?_
  exact zr ((.p (.tup [(.v (.int .i64 0)), (.lst (shrO r2.1) (r2.2.map ZA)), (.v (.bool (decide (x2 < 97))))])), [(Zk (Zm.mk zn r1.2 zb zh zj (Zl.mk z2 z6)) zp zd)]) ⟨_, rfl⟩
 ·exact zk (ZfX x2 x5 zn r1.2 zb zh zj z2 z6 zp zd zy)
def Z7g (x5 : Int) (zn : List Int) (zu zb zh : Int) (zj : List Zx) (z2 z6 : Int) : Option (Int × (Own × (List Zc)) × Bool × Int × Int × Int) :=
 (Z2D (Zm.mk zn zu zb zh zj (Zl.mk z2 z6))).bind fun r1 =>
 if (decide (r1 < 0)) = true then
 ((Z1h 21 x5 zn z2 z6).bind fun r2 =>
 some (0, (.nl, ([] : List Zc)), false, r2.1, r2.2.1, r2.2.2))
 else
 (Z7h r1 x5 zn zu zb zh zj z2 z6)
theorem Zgz x5 zn zu zb zh zj z2 z6 zp zd (zy : ZN zd = true) : Sim (Z3Y zn zb zh zj zp zd) (Z7g x5 zn zu zb zh zj z2 z6) (Zsz 1 (.ptr 0 0) (iv x5) [(Zk (Zm.mk zn zu zb zh zj (Zl.mk z2 z6)) zp zd)]) := by
 unfold Z7g
 refine zf (ZyQ ..)<|ze<|zi fun r1 hr1 => ?_
 obtain ⟨qr1, er1, exr1, rfl⟩ := Z2N (Zm.mk zn zu zb zh zj (Zl.mk z2 z6)) zp zd zy r1 hr1
 refine zc [0] (iv r1) [(Zk (Zm.mk zn zu zb zh zj (Zl.mk z2 z6)) zp zd)] er1<|ze<|zq ?_
 refine za (decide (r1 < 0)) ?_ ?_
 ·refine ze<|zi fun r2 hr2 => ?_
  obtain ⟨qr2, er2, exr2, rfl⟩ := Z1k 21 x5 zn zu zb zh zj z2 z6 zp zd zy r2 hr2
  refine zc [0] (.p (.tup [])) [(Zk (Zm.mk zn r2.1 zb zh zj (Zl.mk r2.2.1 r2.2.2)) zp zd)] er2<|ze ?_
  exact zr ((.p (.tup [(.v (.int .i64 0)), (.lst .nl []), (.v (.bool false))])), [(Zk (Zm.mk zn r2.1 zb zh zj (Zl.mk r2.2.1 r2.2.2)) zp zd)]) ⟨_, rfl⟩
 ·exact zk (ZgA r1 x5 zn zu zb zh zj z2 z6 zp zd zy)
def Z6R (zn : List Int) (zu zb zh : Int) (zj : List Zx) (z2 z6 : Int) : Option (Int × (Own × (List Zc)) × Bool × Int × Int × Int) :=
 (Z3e zn zu).bind fun r1 =>
 if (r1.1 != 92) = true then
 (some (r1.1, (.nl, ([] : List Zc)), false, r1.2, z2, z6))
 else
 (Z7g zu zn r1.2 zb zh zj z2 z6)
theorem Zin zn zu zb zh zj z2 z6 zp zd (zy : ZN zd = true) : Sim (Z3Y zn zb zh zj zp zd) (Z6R zn zu zb zh zj z2 z6) (EE 153 [(.ptr 0 0)] [(Zk (Zm.mk zn zu zb zh zj (Zl.mk z2 z6)) zp zd)]) := by
 unfold Z6R
 refine zf (ZEu ..)<|ze<|ze<|zq<|zq<|zq<|ze<|zi fun r1 hr1 => ?_
 obtain ⟨qr1, er1, exr1, rfl⟩ := Z3M zn zu zb zh zj z2 z6 zp zd zy r1 hr1
 refine zc [0] (iv r1.1) [(Zk (Zm.mk zn r1.2 zb zh zj (Zl.mk z2 z6)) zp zd)] er1<|ze<|zq ?_
 refine za (r1.1 != 92) ?_ ?_
 ·refine ze ?_
  exact zr ((.p (.tup [(.v (.int .i64 r1.1)), (.lst .nl []), (.v (.bool false))])), [(Zk (Zm.mk zn r1.2 zb zh zj (Zl.mk z2 z6)) zp zd)]) ⟨_, rfl⟩
 ·exact zk (Zgz zu zn r1.2 zb zh zj z2 z6 zp zd zy)
theorem Zcq (zn : List Int) (zu zb zh : Int) (zj : List Zx) (z2 z6 : Int) {r} (h : Z6R zn zu zb zh zj z2 z6 = some r) : Z5x zn zu zb zh zj z2 z6 = some r :=
 Z1a (fun _ _ ha hb => RRun.uniq (Zjz _ _ _ _ _ _) (ha .ex .ex rfl) (hb .ex .ex rfl)) (fun zp zd zy => Zin zn zu zb zh zj z2 z6 zp zd zy r h)
end Go.Proofs.YteoeggbihfnbfaaGreatDoor.N2
end
noncomputable section
set_option linter.unusedSimpArgs false
set_option linter.unusedVariables false
namespace Go.Proofs.YteoeggbihfnbfaaGreatDoor.N2
open Go Go.Abs
set_option linter.unusedVariables false
set_option maxRecDepth 100000
def Z86 (x0 z1r : List Zc) : Option (List Zc) :=
 (ZcY z1r x0).bind fun r1 =>
 some (r1.1)
theorem ZhP (x0 z1r : List Zc) ox0 zh1 : Sim (Z6q) (Z86 x0 z1r) (EE 151 [(.p (.lst ox0 (x0.map ZA))), (.ptr 0 0)] [[(.p (.lst zh1 (z1r.map ZA)))]]) := by
 unfold Z86
 refine zf (ZEr ..)<|ze<|zq<|zi fun r1 hr1 => ?_
 obtain ⟨qr1, er1, exr1, rfl⟩ := Zpp z1r x0 .sh .sh r1 hr1
 refine zc [] (.p (.tup [(.lst .sh (r1.1.map ZA)), (.v (.int .i64 r1.2))])) [[(.p (.lst zh1 (z1r.map ZA)))]] er1<|zq<|zq<|zt [[(.p (.lst .sh (r1.1.map ZA)))]] ?_
 exact zr ((.p (.tup [])), [[(.p (.lst .sh (r1.1.map ZA)))]]) ⟨.sh, _, rfl⟩
theorem Zik (x0 z1r : List Zc) {r} (h : Z86 x0 z1r = some r) : Z6r x0 z1r = some r :=
 Z1a (fun _ _ ha hb => RRun.uniq ZiY (ha .ex .ex) (hb .ex .ex)) (fun ox0 zh1 => ZhP x0 z1r ox0 zh1 r h)
def Zay  : Option ((List Zc) × Int) :=
 some (([] : List Zc), 10)
theorem ZeQ  : Sim (Z7T) (Zay) (ZoY 0  []) := by
 unfold Zay
 refine zf (ZyO ..)<|ze ?_
 exact zr ((.p (.tup [(.lst .sh []), (.v (.int .i64 10))])), []) ⟨_, rfl⟩
def Zaz (x0 x1 : List Zc) : Option ((List Zc) × Int) :=
 (Zba ([x0, x1] : List (List Zc))).bind fun r1 =>
 (ZcZ r1).bind fun r2 =>
 some (r2, 0)
theorem Zlr (x0 x1 : List Zc) ox0 ox1 : Sim (Z7T) (Zaz x0 x1) (Zsx 0 (.p (.lst ox0 (x0.map ZA))) (.p (.lst ox1 (x1.map ZA))) []) := by
 unfold Zaz
 refine zf (ZyP ..)<|ze<|zq<|zi fun r1 hr1 => ?_
 obtain ⟨qr1, er1, exr1, rfl⟩ := Zjn ([x0, x1] : List (List Zc)) .sh r1 hr1
 refine zc [] (.p (.lst .sh (r1.map ZA))) [] er1<|zi fun r2 hr2 => ?_
 obtain ⟨qr2, er2, exr2, rfl⟩ := Zi0 r1 .sh r2 hr2
 refine zc [] (.p (.lst .sh (r2.map ZA))) [] er2 ?_
 exact zr ((.p (.tup [(.lst .sh (r2.map ZA)), (.v (.int .i64 0))])), []) ⟨_, rfl⟩
def ZcN (x0 x1 : List Zc) : Option ((List Zc) × Int) :=
 (Z6T x0).bind fun r1 =>
 if (!r1) = true then
 (Zay)
 else
 ((Z6T x1).bind fun r2 =>
 if (!r2) = true then
 (Zay)
 else
 (Zaz x0 x1))
theorem Zob (x0 x1 : List Zc) ox0 ox1 : Sim (Z7T) (ZcN x0 x1) (EE 152 [(.p (.lst ox0 (x0.map ZA))), (.p (.lst ox1 (x1.map ZA)))] []) := by
 unfold ZcN
 refine zf (ZEs ..)<|ze<|ze<|zi fun r1 hr1 => ?_
 obtain ⟨qr1, er1, exr1, rfl⟩ := Zb1 x0 .sh r1 hr1
 refine zc [] (bv r1) [] er1<|zq ?_
 refine za (!r1) ?_ ?_
 ·exact zk (ZeQ )
 ·refine zi fun r2 hr2 => ?_
  obtain ⟨qr2, er2, exr2, rfl⟩ := Zb1 x1 .sh r2 hr2
  refine zc [] (bv r2) [] er2<|zq ?_
  refine za (!r2) ?_ ?_
  ·exact zk (ZeQ )
  ·exact zk (Zlr x0 x1 ox0 ox1)
theorem Zpo (x0 x1 : List Zc) {r} (h : ZcN x0 x1 = some r) : ZcY x0 x1 = some r :=
 Z1a (fun _ _ ha hb => RRun.uniq ZpW (ha .ex .ex) (hb .ex .ex)) (fun ox0 ox1 => Zob x0 x1 ox0 ox1 r h)
def Z5N (zu zb zh : Int) (zj : List Zx) (z2 z6 z1G z2C z2B z1O z29 : Int) (z2a : List Zc) (b2 : Z7) : Option (Z7 × Bool × Int × Int × Int × (List Zx) × Int × Int) :=
 some ((Z7.mk z1G z2C z2B z1O z29 z2a ([b2] : List Z7)), (z1G != 7), zu, zb, zh, zj, z2, z6)
theorem ZgE zn zu zb zh zj z2 z6 z1G z2C z2B z1O z29 z2a z3c b2 zp zd zI zD z2M z2t (zy : ZN zd = true) (z17 : ZN zI = true) (z10 : ZN zD = true) : Sim (Z3k zn zp) (Z5N zu zb zh zj z2 z6 z1G z2C z2B z1O z29 z2a b2) (Zqc 1 (.ptr 1 0) (.ptr 2 0) [(Zk (Zm.mk zn zu zb zh zj (Zl.mk z2 z6)) zp zd), (Zq (Z7.mk z1G z2C z2B z1O z29 z2a z3c) zI zD), (Zq b2 z2M z2t)]) := by
 unfold Z5N
 refine zf (Zx6 ..)<|ze<|zq ?_
 refine zo (.p (.lst .ex (([b2] : List Z7).map ZS))) ?_ (Eq.trans (b := some (.p (.lst .ex [.agg (Z2Z b2)]))) (by kernel_rfl) (by simp only [List.map_cons, List.map_nil, Z4T]))
 refine zq<|zt [(Zk (Zm.mk zn zu zb zh zj (Zl.mk z2 z6)) zp zd), (Zq (Z7.mk z1G z2C z2B z1O z29 z2a ([b2] : List Z7)) zI .ex), (Zq b2 z2M z2t)]<|ze<|zq<|zq<|zq<|zq<|zt [(Zk (Zm.mk zn zu zb zh zj (Zl.mk z2 z6)) zp zd), (Zq (Z7.mk z1G z2C z2B z1O z29 z2a ([b2] : List Z7)) (shrO zI) .ex), (Zq b2 z2M z2t)] ?_
 exact zr ((.p (.tup [(.agg (ZG (Z7.mk z1G z2C z2B z1O z29 z2a ([b2] : List Z7)) .sh .sh)), (.v (.bool (z1G != 7)))])), [(Zk (Zm.mk zn zu zb zh zj (Zl.mk z2 z6)) zp zd), (Zq (Z7.mk z1G z2C z2B z1O z29 z2a ([b2] : List Z7)) (shrO zI) .ex), (Zq b2 z2M z2t)]) ⟨zd, _, zy, rfl⟩
def Z31 (zu zb zh : Int) (zj : List Zx) (z2 z6 z1G z2C z2B z1O z29 : Int) (z2a : List Zc) (b2 : Z7) : Option (Z7 × Bool × Int × Int × Int × (List Zx) × Int × Int) :=
 if (z1G == 0) = true then
 (some (b2, true, zu, zb, (IntKind.i64.wrap (zh - 1)), zj, z2, z6))
 else
 (Z5N zu zb (IntKind.i64.wrap (zh - 1)) zj z2 z6 z1G z2C z2B z1O z29 z2a b2)
theorem Z7Y zn zu zb zh zj z2 z6 z1G z2C z2B z1O z29 z2a z3c b2 zp zd zI zD z2M z2t (zy : ZN zd = true) (z17 : ZN zI = true) (z10 : ZN zD = true) : Sim (Z3k zn zp) (Z31 zu zb zh zj z2 z6 z1G z2C z2B z1O z29 z2a b2) (Zj6 1 (.ptr 0 0) (.ptr 1 0) (.ptr 2 0) [(Zk (Zm.mk zn zu zb zh zj (Zl.mk z2 z6)) zp zd), (Zq (Z7.mk z1G z2C z2B z1O z29 z2a z3c) zI zD), (Zq b2 z2M z2t)]) := by
 unfold Z31
 refine zf (Zx5 ..)<|ze<|zq<|zq<|zq<|zq<|zq<|zq<|zt [(Zk (Zm.mk zn zu zb (IntKind.i64.wrap (zh - 1)) zj (Zl.mk z2 z6)) zp zd), (Zq (Z7.mk z1G z2C z2B z1O z29 z2a z3c) zI zD), (Zq b2 z2M z2t)]<|ze<|zq<|zq<|zq ?_
 refine za (z1G == 0) ?_ ?_
 ·refine ze<|zq<|zt [(Zk (Zm.mk zn zu zb (IntKind.i64.wrap (zh - 1)) zj (Zl.mk z2 z6)) zp zd), (Zq b2 (shrO z2M) (shrO z2t)), (Zq b2 z2M z2t)] ?_
  exact zr ((.p (.tup [(.agg (ZG b2 .sh .sh)), (.v (.bool true))])), [(Zk (Zm.mk zn zu zb (IntKind.i64.wrap (zh - 1)) zj (Zl.mk z2 z6)) zp zd), (Zq b2 (shrO z2M) (shrO z2t)), (Zq b2 z2M z2t)]) ⟨zd, _, zy, rfl⟩
 ·exact zk (ZgE zn zu zb (IntKind.i64.wrap (zh - 1)) zj z2 z6 z1G z2C z2B z1O z29 z2a z3c b2 zp zd zI zD z2M z2t zy z17 z10)
def Z7k (x1 : Int) (zn : List Int) (zb zh : Int) (zj : List Zx) (z2 z6 z1G z2C z2B z1O z29 : Int) (z2a : List Zc) (b2 : Z7) : Option (Z7 × Bool × Int × Int × Int × (List Zx) × Int × Int) :=
 (Z1h 20 x1 zn z2 z6).bind fun r1 =>
 Z31 r1.1 zb zh zj r1.2.1 r1.2.2 z1G z2C z2B z1O z29 z2a b2
theorem ZgD x1 zn zu zb zh zj z2 z6 z1G z2C z2B z1O z29 z2a z3c b2 zp zd zI zD z2M z2t (zy : ZN zd = true) (z17 : ZN zI = true) (z10 : ZN zD = true) : Sim (Z3k zn zp) (Z7k x1 zn zb zh zj z2 z6 z1G z2C z2B z1O z29 z2a b2) (Zqb 1 (.ptr 0 0) (iv x1) (.ptr 1 0) (.ptr 2 0) [(Zk (Zm.mk zn zu zb zh zj (Zl.mk z2 z6)) zp zd), (Zq (Z7.mk z1G z2C z2B z1O z29 z2a z3c) zI zD), (Zq b2 z2M z2t)]) := by
 unfold Z7k
 refine zf (Zx4 ..)<|ze<|zi fun r1 hr1 => ?_
 obtain ⟨qr1, er1, exr1, rfl⟩ := Z1k 20 x1 zn zu zb zh zj z2 z6 zp zd zy r1 hr1
 refine zc [0] (.p (.tup [])) [(Zk (Zm.mk zn r1.1 zb zh zj (Zl.mk r1.2.1 r1.2.2)) zp zd), (Zq (Z7.mk z1G z2C z2B z1O z29 z2a z3c) zI zD), (Zq b2 z2M z2t)] er1 ?_
 exact zk (Z7Y zn r1.1 zb zh zj r1.2.1 r1.2.2 z1G z2C z2B z1O z29 z2a z3c b2 zp zd zI zD z2M z2t zy z17 z10)
def Z2p (x1 : Int) (zn : List Int) (zu zb zh : Int) (zj : List Zx) (z2 z6 z1G z2C z2B z1O z29 : Int) (z2a : List Zc) : Option (Z7 × Bool × Int × Int × Int × (List Zx) × Int × Int) :=
 (Z4l zn zu zb zh zj z2 z6).bind fun r1 =>
 if (r1.2.2.2.2.2.1 == 0) = true then
 ((Z1F (ByteArray.mk #[41]) zn r1.2.1).bind fun r2 =>
 if (!r2.1) = true then
 (Z7k x1 zn r1.2.2.1 r1.2.2.2.1 r1.2.2.2.2.1 r1.2.2.2.2.2.1 r1.2.2.2.2.2.2 z1G z2C z2B z1O z29 z2a r1.1)
 else
 (Z31 r2.2 r1.2.2.1 r1.2.2.2.1 r1.2.2.2.2.1 r1.2.2.2.2.2.1 r1.2.2.2.2.2.2 z1G z2C z2B z1O z29 z2a r1.1))
 else
 (Z31 r1.2.1 r1.2.2.1 r1.2.2.2.1 r1.2.2.2.2.1 r1.2.2.2.2.2.1 r1.2.2.2.2.2.2 z1G z2C z2B z1O z29 z2a r1.1)
theorem Z3Q x1 zn zu zb zh zj z2 z6 z1G z2C z2B z1O z29 z2a z3c zp zd zI zD (zy : ZN zd = true) (z17 : ZN zI = true) (z10 : ZN zD = true) : Sim (Z3k zn zp) (Z2p x1 zn zu zb zh zj z2 z6 z1G z2C z2B z1O z29 z2a) (Zci 1 (.ptr 0 0) (iv x1) (.ptr 1 0) [(Zk (Zm.mk zn zu zb zh zj (Zl.mk z2 z6)) zp zd), (Zq (Z7.mk z1G z2C z2B z1O z29 z2a z3c) zI zD)]) := by
 unfold Z2p
 refine zf (Zx3 ..)<|ze<|zi fun r1 hr1 => ?_
 obtain ⟨qr1, er1, or1_0_4, exr1, hor1_0_4, rfl⟩ := ZeV zn zu zb zh zj z2 z6 zp zd zy r1 hr1
 refine zc [0] (.p (.agg (ZG r1.1 .sh .sh))) [(Zk (Zm.mk zn r1.2.1 r1.2.2.1 r1.2.2.2.1 r1.2.2.2.2.1 (Zl.mk r1.2.2.2.2.2.1 r1.2.2.2.2.2.2)) zp or1_0_4), (Zq (Z7.mk z1G z2C z2B z1O z29 z2a z3c) zI zD)] er1<|zz (.ptr 2 0) [(Zk (Zm.mk zn r1.2.1 r1.2.2.1 r1.2.2.2.1 r1.2.2.2.2.1 (Zl.mk r1.2.2.2.2.2.1 r1.2.2.2.2.2.2)) zp or1_0_4), (Zq (Z7.mk z1G z2C z2B z1O z29 z2a z3c) zI zD), (Zq (Z7.mk 0 0 0 0 0 ([] : List Zc) ([] : List Z7)) .nl .nl)]<|zt [(Zk (Zm.mk zn r1.2.1 r1.2.2.1 r1.2.2.2.1 r1.2.2.2.2.1 (Zl.mk r1.2.2.2.2.2.1 r1.2.2.2.2.2.2)) zp or1_0_4), (Zq (Z7.mk z1G z2C z2B z1O z29 z2a z3c) zI zD), (Zq r1.1 .sh .sh)]<|ze<|zq<|zq<|zq<|zq<|zq ?_
 refine za (r1.2.2.2.2.2.1 == 0) ?_ ?_
 ·refine zi fun r2 hr2 => ?_
  obtain ⟨qr2, er2, exr2, rfl⟩ := Z1Q (ByteArray.mk #[41]) zn r1.2.1 r1.2.2.1 r1.2.2.2.1 r1.2.2.2.2.1 r1.2.2.2.2.2.1 r1.2.2.2.2.2.2 zp or1_0_4 hor1_0_4 r2 hr2
  refine zc [0] (bv r2.1) [(Zk (Zm.mk zn r2.2 r1.2.2.1 r1.2.2.2.1 r1.2.2.2.2.1 (Zl.mk r1.2.2.2.2.2.1 r1.2.2.2.2.2.2)) zp or1_0_4), (Zq (Z7.mk z1G z2C z2B z1O z29 z2a z3c) zI zD), (Zq r1.1 .sh .sh)] er2<|zq ?_
  refine za (!r2.1) ?_ ?_
  ·exact zk (ZgD x1 zn r2.2 r1.2.2.1 r1.2.2.2.1 r1.2.2.2.2.1 r1.2.2.2.2.2.1 r1.2.2.2.2.2.2 z1G z2C z2B z1O z29 z2a z3c r1.1 zp or1_0_4 zI zD .sh .sh hor1_0_4 z17 z10)
  ·exact zk (Z7Y zn r2.2 r1.2.2.1 r1.2.2.2.1 r1.2.2.2.2.1 r1.2.2.2.2.2.1 r1.2.2.2.2.2.2 z1G z2C z2B z1O z29 z2a z3c r1.1 zp or1_0_4 zI zD .sh .sh hor1_0_4 z17 z10)
 ·exact zk (Z7Y zn r1.2.1 r1.2.2.1 r1.2.2.2.1 r1.2.2.2.2.1 r1.2.2.2.2.2.1 r1.2.2.2.2.2.2 z1G z2C z2B z1O z29 z2a z3c r1.1 zp or1_0_4 zI zD .sh .sh hor1_0_4 z17 z10)
def Z6a (x1 : Int) (zn : List Int) (zu zb zh : Int) (zj : List Zx) (z2 z6 z1G z2C z2B z1O z29 : Int) (z2a : List Zc) : Option (Z7 × Bool × Int × Int × Int × (List Zx) × Int × Int) :=
 (Zek).bind fun r1 =>
 (Z5F r1 zn zu).bind fun r2 =>
 if (decide (0 ≤ r2.1)) = true then
 (Z2p x1 zn r2.2 zb (IntKind.i64.wrap (zh + 1)) zj z2 z6 7 0 0 r2.1 0 ([] : List Zc))
 else
 ((Z1F (ByteArray.mk #[63, 62]) zn r2.2).bind fun r3 =>
 if (r3.1) = true then
 (Z2p x1 zn r3.2 zb (IntKind.i64.wrap (zh + 1)) zj z2 z6 8 0 0 0 0 ([] : List Zc))
 else
 ((Z1F (ByteArray.mk #[63, 58]) zn r3.2).bind fun r4 =>
 if (r4.1) = true then
 (Z2p x1 zn r4.2 zb (IntKind.i64.wrap (zh + 1)) zj z2 z6 z1G z2C z2B z1O z29 z2a)
 else
 ((Z2D (Zm.mk zn r4.2 zb (IntKind.i64.wrap (zh + 1)) zj (Zl.mk z2 z6))).bind fun r5 =>
 if (r5 == 63) = true then
 ((Z1h 20 x1 zn z2 z6).bind fun r6 =>
 Z2p x1 zn r6.1 zb (IntKind.i64.wrap (zh + 1)) zj r6.2.1 r6.2.2 z1G z2C z2B z1O z29 z2a)
 else
 (if (zb == 9) = true then
 ((Z1h 24 x1 zn z2 z6).bind fun r7 =>
 Z2p x1 zn r7.1 zb (IntKind.i64.wrap (zh + 1)) zj r7.2.1 r7.2.2 z1G z2C z2B z1O z29 z2a)
 else
 (Z2p x1 zn r4.2 (IntKind.i64.wrap (zb + 1)) (IntKind.i64.wrap (zh + 1)) zj z2 z6 5 0 0 0 (IntKind.i64.wrap (zb + 1)) ([] : List Zc))))))
theorem Zhl x1 zn zu zb zh zj z2 z6 z1G z2C z2B z1O z29 z2a z3c zp zd zI zD (zy : ZN zd = true) (z17 : ZN zI = true) (z10 : ZN zD = true) : Sim (Z3k zn zp) (Z6a x1 zn zu zb zh zj z2 z6 z1G z2C z2B z1O z29 z2a) (Zso 1 (.ptr 0 0) (iv x1) (.ptr 1 0) [(Zk (Zm.mk zn zu zb zh zj (Zl.mk z2 z6)) zp zd), (Zq (Z7.mk z1G z2C z2B z1O z29 z2a z3c) zI zD)]) := by
 unfold Z6a
 refine zf (ZyG ..)<|ze<|zq<|zq<|zq<|zq<|zq<|zq<|zt [(Zk (Zm.mk zn zu zb (IntKind.i64.wrap (zh + 1)) zj (Zl.mk z2 z6)) zp zd), (Zq (Z7.mk z1G z2C z2B z1O z29 z2a z3c) zI zD)]<|ze<|zi fun r1 hr1 => ?_
 obtain ⟨qr1, er1, exr1, rfl⟩ := Zqn  r1 hr1
 refine zc [] (.p (.lst .sh (r1.map eS))) [(Zk (Zm.mk zn zu zb (IntKind.i64.wrap (zh + 1)) zj (Zl.mk z2 z6)) zp zd), (Zq (Z7.mk z1G z2C z2B z1O z29 z2a z3c) zI zD)] er1<|zi fun r2 hr2 => ?_
 obtain ⟨qr2, er2, exr2, rfl⟩ := ZeF r1 zn zu zb (IntKind.i64.wrap (zh + 1)) zj z2 z6 .sh zp zd zy r2 hr2
 refine zc [0] (iv r2.1) [(Zk (Zm.mk zn r2.2 zb (IntKind.i64.wrap (zh + 1)) zj (Zl.mk z2 z6)) zp zd), (Zq (Z7.mk z1G z2C z2B z1O z29 z2a z3c) zI zD)] er2<|ze<|zq ?_
 refine za (decide (0 ≤ r2.1)) ?_ ?_
 ·refine ze<|zq<|zt [(Zk (Zm.mk zn r2.2 zb (IntKind.i64.wrap (zh + 1)) zj (Zl.mk z2 z6)) zp zd), (Zq (Z7.mk 7 0 0 r2.1 0 ([] : List Zc) ([] : List Z7)) .nl .nl)] ?_
  exact zk (Z3Q x1 zn r2.2 zb (IntKind.i64.wrap (zh + 1)) zj z2 z6 7 0 0 r2.1 0 ([] : List Zc) ([] : List Z7) zp zd .nl .nl zy rfl rfl)
 ·refine ze<|zi fun r3 hr3 => ?_
  obtain ⟨qr3, er3, exr3, rfl⟩ := Z1Q (ByteArray.mk #[63, 62]) zn r2.2 zb (IntKind.i64.wrap (zh + 1)) zj z2 z6 zp zd zy r3 hr3
  refine zc [0] (bv r3.1) [(Zk (Zm.mk zn r3.2 zb (IntKind.i64.wrap (zh + 1)) zj (Zl.mk z2 z6)) zp zd), (Zq (Z7.mk z1G z2C z2B z1O z29 z2a z3c) zI zD)] er3 ?_
  refine za r3.1 ?_ ?_
  ·refine ze<|zq<|zt [(Zk (Zm.mk zn r3.2 zb (IntKind.i64.wrap (zh + 1)) zj (Zl.mk z2 z6)) zp zd), (Zq (Z7.mk 8 0 0 0 0 ([] : List Zc) ([] : List Z7)) .nl .nl)] ?_
   exact zk (Z3Q x1 zn r3.2 zb (IntKind.i64.wrap (zh + 1)) zj z2 z6 8 0 0 0 0 ([] : List Zc) ([] : List Z7) zp zd .nl .nl zy rfl rfl)
  ·refine ze<|zi fun r4 hr4 => ?_
   obtain ⟨qr4, er4, exr4, rfl⟩ := Z1Q (ByteArray.mk #[63, 58]) zn r3.2 zb (IntKind.i64.wrap (zh + 1)) zj z2 z6 zp zd zy r4 hr4
   refine zc [0] (bv r4.1) [(Zk (Zm.mk zn r4.2 zb (IntKind.i64.wrap (zh + 1)) zj (Zl.mk z2 z6)) zp zd), (Zq (Z7.mk z1G z2C z2B z1O z29 z2a z3c) zI zD)] er4 ?_
   refine za r4.1 ?_ ?_
   ·exact zk (Z3Q x1 zn r4.2 zb (IntKind.i64.wrap (zh + 1)) zj z2 z6 z1G z2C z2B z1O z29 z2a z3c zp zd zI zD zy z17 z10)
   ·refine ze<|zi fun r5 hr5 => ?_
    obtain ⟨qr5, er5, exr5, rfl⟩ := Z2N (Zm.mk zn r4.2 zb (IntKind.i64.wrap (zh + 1)) zj (Zl.mk z2 z6)) zp zd zy r5 hr5
    refine zc [0] (iv r5) [(Zk (Zm.mk zn r4.2 zb (IntKind.i64.wrap (zh + 1)) zj (Zl.mk z2 z6)) zp zd), (Zq (Z7.mk z1G z2C z2B z1O z29 z2a z3c) zI zD)] er5<|zq ?_
    refine za (r5 == 63) ?_ ?_
    ·refine ze<|zi fun r6 hr6 => ?_
     obtain ⟨qr6, er6, exr6, rfl⟩ := Z1k 20 x1 zn r4.2 zb (IntKind.i64.wrap (zh + 1)) zj z2 z6 zp zd zy r6 hr6
     refine zc [0] (.p (.tup [])) [(Zk (Zm.mk zn r6.1 zb (IntKind.i64.wrap (zh + 1)) zj (Zl.mk r6.2.1 r6.2.2)) zp zd), (Zq (Z7.mk z1G z2C z2B z1O z29 z2a z3c) zI zD)] er6 ?_
     exact zk (Z3Q x1 zn r6.1 zb (IntKind.i64.wrap (zh + 1)) zj r6.2.1 r6.2.2 z1G z2C z2B z1O z29 z2a z3c zp zd zI zD zy z17 z10)
    ·refine ze<|zq<|zq<|zq<|zq ?_
     refine za (zb == 9) ?_ ?_
     ·refine ze<|zi fun r7 hr7 => ?_
      obtain ⟨qr7, er7, exr7, rfl⟩ := Z1k 24 x1 zn r4.2 zb (IntKind.i64.wrap (zh + 1)) zj z2 z6 zp zd zy r7 hr7
      refine zc [0] (.p (.tup [])) [(Zk (Zm.mk zn r7.1 zb (IntKind.i64.wrap (zh + 1)) zj (Zl.mk r7.2.1 r7.2.2)) zp zd), (Zq (Z7.mk z1G z2C z2B z1O z29 z2a z3c) zI zD)] er7 ?_
      exact zk (Z3Q x1 zn r7.1 zb (IntKind.i64.wrap (zh + 1)) zj r7.2.1 r7.2.2 z1G z2C z2B z1O z29 z2a z3c zp zd zI zD zy z17 z10)
     ·refine ze<|zq<|zq<|zq<|zq<|zq<|zq<|zt [(Zk (Zm.mk zn r4.2 (IntKind.i64.wrap (zb + 1)) (IntKind.i64.wrap (zh + 1)) zj (Zl.mk z2 z6)) zp zd), (Zq (Z7.mk z1G z2C z2B z1O z29 z2a z3c) zI zD)]<|ze<|zq<|zq<|zq<|zq<|zt [(Zk (Zm.mk zn r4.2 (IntKind.i64.wrap (zb + 1)) (IntKind.i64.wrap (zh + 1)) zj (Zl.mk z2 z6)) zp zd), (Zq (Z7.mk 5 0 0 0 (IntKind.i64.wrap (zb + 1)) ([] : List Zc) ([] : List Z7)) .nl .nl)] ?_
      exact zk (Z3Q x1 zn r4.2 (IntKind.i64.wrap (zb + 1)) (IntKind.i64.wrap (zh + 1)) zj z2 z6 5 0 0 0 (IntKind.i64.wrap (zb + 1)) ([] : List Zc) ([] : List Z7) zp zd .nl .nl zy rfl rfl)
def Z5W (x1 : Int) (zn : List Int) (zu zb zh : Int) (zj : List Zx) (z2 z6 : Int) : Option (Z7 × Bool × Int × Int × Int × (List Zx) × Int × Int) :=
 if (zh == 32) = true then
 ((Z1h 25 x1 zn z2 z6).bind fun r1 =>
 some ((Z7.mk 0 0 0 0 0 ([] : List Zc) ([] : List Z7)), true, r1.1, zb, zh, zj, r1.2.1, r1.2.2))
 else
 (Z6a x1 zn zu zb zh zj z2 z6 0 0 0 0 0 ([] : List Zc))
theorem Zjh x1 zn zu zb zh zj z2 z6 zp zd (zy : ZN zd = true) : Sim (Z3k zn zp) (Z5W x1 zn zu zb zh zj z2 z6) (EE 132 [(.ptr 0 0), (iv x1)] [(Zk (Zm.mk zn zu zb zh zj (Zl.mk z2 z6)) zp zd)]) := by
 unfold Z5W
 refine zf (ZEb ..)<|ze<|zz (.ptr 1 0) [(Zk (Zm.mk zn zu zb zh zj (Zl.mk z2 z6)) zp zd), (Zq (Z7.mk 0 0 0 0 0 ([] : List Zc) ([] : List Z7)) .nl .nl)]<|ze<|zq<|zq<|zq<|zq ?_
 refine za (zh == 32) ?_ ?_
 ·refine ze<|zi fun r1 hr1 => ?_
  obtain ⟨qr1, er1, exr1, rfl⟩ := Z1k 25 x1 zn zu zb zh zj z2 z6 zp zd zy r1 hr1
  refine zc [0] (.p (.tup [])) [(Zk (Zm.mk zn r1.1 zb zh zj (Zl.mk r1.2.1 r1.2.2)) zp zd), (Zq (Z7.mk 0 0 0 0 0 ([] : List Zc) ([] : List Z7)) .nl .nl)] er1<|ze<|zq<|zt [(Zk (Zm.mk zn r1.1 zb zh zj (Zl.mk r1.2.1 r1.2.2)) zp zd), (Zq (Z7.mk 0 0 0 0 0 ([] : List Zc) ([] : List Z7)) .nl .nl)] ?_
  exact zr ((.p (.tup [(.agg (ZG (Z7.mk 0 0 0 0 0 ([] : List Zc) ([] : List Z7)) .sh .sh)), (.v (.bool true))])), [(Zk (Zm.mk zn r1.1 zb zh zj (Zl.mk r1.2.1 r1.2.2)) zp zd), (Zq (Z7.mk 0 0 0 0 0 ([] : List Zc) ([] : List Z7)) .nl .nl)]) ⟨zd, _, zy, rfl⟩
 ·exact zk (Zhl x1 zn zu zb zh zj z2 z6 0 0 0 0 0 ([] : List Zc) ([] : List Z7) zp zd .nl .nl zy rfl rfl)
theorem Z9R (x1 : Int) (zn : List Int) (zu zb zh : Int) (zj : List Zx) (z2 z6 : Int) {r} (h : Z5W x1 zn zu zb zh zj z2 z6 = some r) : Z4U x1 zn zu zb zh zj z2 z6 = some r :=
 Z1a (fun _ _ ha hb => RRun.uniq (Zkr _ _) (ha .ex .ex rfl) (hb .ex .ex rfl)) (fun zp zd zy => Zjh x1 zn zu zb zh zj z2 z6 zp zd zy r h)
def ZhN  : Option (List ByteArray) :=
 some ([(ByteArray.mk #[63, 61]), (ByteArray.mk #[63, 33]), (ByteArray.mk #[63, 60, 61]), (ByteArray.mk #[63, 60, 33])] : List ByteArray)
theorem Zps  : Sim (ZbK) (ZhN) (EE 155 [] []) := by
 unfold ZhN
 refine zf (ZEx ..)<|ze<|ze<|zq ?_
 exact zr ((.p (.lst .sh (([(ByteArray.mk #[63, 61]), (ByteArray.mk #[63, 33]), (ByteArray.mk #[63, 60, 61]), (ByteArray.mk #[63, 60, 33])] : List ByteArray).map eS))), []) ⟨_, rfl⟩
theorem Zqm  {r} (h : ZhN = some r) : Zek = some r :=
 Z1a (fun _ _ ha hb => RRun.uniq ZqT (ha ) (hb )) (Zps  r h)
def Z5B (x0 : List ByteArray) (zn : List Int) (zu : Int) : Option (Int × Int) :=
 Z2m x0 (x0.length : Int) 0 zn zu
theorem Ze9 (x0 : List ByteArray) zn zu zb zh zj z2 z6 ox0 zp zd (zy : ZN zd = true) : Sim (Z25 zn zb zh zj z2 z6 zp zd) (Z5B x0 zn zu) (EE 154 [(.p (.lst ox0 (x0.map eS))), (.clo 68 [(.ptr 0 0)] [])] [(Zk (Zm.mk zn zu zb zh zj (Zl.mk z2 z6)) zp zd)]) := by
 unfold Z5B
 refine zf (ZEv ..)<|ze<|ze ?_
 refine zo (iv (x0.length : Int)) ?_ (Eq.trans (by kernel_rfl) (Z3d (P := PP) (t := 226) (d := 9) (by kernel_rfl) eS (shrO ox0) x0))
 exact zk (Z8B x0 (x0.length : Int) 0 zn zu zb zh zj z2 z6 ox0 zp zd zy)
theorem ZeE (x0 : List ByteArray) (zn : List Int) (zu : Int) {r} (h : Z5B x0 zn zu = some r) : Z5F x0 zn zu = some r :=
 Z1a (fun _ _ ha hb => RRun.uniq (Z9P _ _ _ _ _ _ _ _) (ha default default default default default .ex .ex .ex rfl) (hb default default default default default .ex .ex .ex rfl)) (fun zb zh zj z2 z6 ox0 zp zd zy => Ze9 x0 zn zu zb zh zj z2 z6 ox0 zp zd zy r h)
def Z4S (x0 : List ByteArray) (x7 x8 : Int) (zn : List Int) (zu : Int) : Option (Int × Int) :=
 Z2m x0 x7 (IntKind.i64.wrap (x8 + 1)) zn zu
theorem Zcz (x0 : List ByteArray) x7 x8 zn zu zb zh zj z2 z6 ox0 zp zd (zy : ZN zd = true) : Sim (Z25 zn zb zh zj z2 z6 zp zd) (Z4S x0 x7 x8 zn zu) (ZsE 1 (.p (.lst ox0 (x0.map eS))) (.clo 68 [(.ptr 0 0)] []) (iv x7) (iv x8) [(Zk (Zm.mk zn zu zb zh zj (Zl.mk z2 z6)) zp zd)]) := by
 unfold Z4S
 refine zf (ZyU ..)<|ze<|zq ?_
 exact zk (Z8B x0 x7 (IntKind.i64.wrap (x8 + 1)) zn zu zb zh zj z2 z6 ox0 zp zd zy)
def Z3T (x0 : List ByteArray) (x7 x8 : Int) (zn : List Int) (zu : Int) : Option (Int × Int) :=
 (lget x0 x8).bind fun a1 =>
 (Z1F a1 zn zu).bind fun r2 =>
 if (r2.1) = true then
 (some (x8, r2.2))
 else
 (Z4S x0 x7 x8 zn r2.2)
theorem Zcy (x0 : List ByteArray) x7 x8 zn zu zb zh zj z2 z6 ox0 zp zd (zy : ZN zd = true) : Sim (Z25 zn zb zh zj z2 z6 zp zd) (Z3T x0 x7 x8 zn zu) (ZsD 1 (.p (.lst ox0 (x0.map eS))) (.clo 68 [(.ptr 0 0)] []) (iv x7) (iv x8) [(Zk (Zm.mk zn zu zb zh zj (Zl.mk z2 z6)) zp zd)]) := by
 unfold Z3T
 refine zf (ZyT ..)<|ze<|ze<|zi fun a1 ha1 => ?_
 refine zo (.cptr [(.v (.string a1))]) ?_ (Eq.trans (by kernel_rfl) (Z40 (o := (shrO ox0)) (k := .i64) (n := 1) (e := eS) (cs := (fun a => [eS a])) (fun _ => rfl) (fun _ => rfl) (by decide) ha1))
 refine zq<|zi fun r2 hr2 => ?_
 obtain ⟨qr2, er2, exr2, rfl⟩ := Z1Q a1 zn zu zb zh zj z2 z6 zp zd zy r2 hr2
 refine zv [0] (bv r2.1) [(Zk (Zm.mk zn r2.2 zb zh zj (Zl.mk z2 z6)) zp zd)] er2 ?_
 refine za r2.1 ?_ ?_
 ·refine ze ?_
  exact zr ((iv x8), [(Zk (Zm.mk zn r2.2 zb zh zj (Zl.mk z2 z6)) zp zd)]) ⟨_, rfl⟩
 ·exact zk (Zcz x0 x7 x8 zn r2.2 zb zh zj z2 z6 ox0 zp zd zy)
def Z6E (zu : Int) : Option (Int × Int) :=
 some ((-1), zu)
theorem ZcA zn zu zb zh zj z2 z6 zp zd (zy : ZN zd = true) : Sim (Z25 zn zb zh zj z2 z6 zp zd) (Z6E zu) (ZsF 1  [(Zk (Zm.mk zn zu zb zh zj (Zl.mk z2 z6)) zp zd)]) := by
 unfold Z6E
 refine zf (ZyV ..)<|ze ?_
 exact zr ((iv (-1)), [(Zk (Zm.mk zn zu zb zh zj (Zl.mk z2 z6)) zp zd)]) ⟨_, rfl⟩
def Z3i (x0 : List ByteArray) (x7 x8 : Int) (zn : List Int) (zu : Int) : Option (Int × Int) :=
 if (decide (x8 < x7)) = true then
 (Z3T x0 x7 x8 zn zu)
 else
 (Z6E zu)
theorem Zcx (x0 : List ByteArray) x7 x8 zn zu zb zh zj z2 z6 ox0 zp zd (zy : ZN zd = true) : Sim (Z25 zn zb zh zj z2 z6 zp zd) (Z3i x0 x7 x8 zn zu) (ZiG 1 (.p (.lst ox0 (x0.map eS))) (.clo 68 [(.ptr 0 0)] []) (iv x7) (iv x8) [(Zk (Zm.mk zn zu zb zh zj (Zl.mk z2 z6)) zp zd)]) := by
 unfold Z3i
 refine zf (ZyS ..)<|ze<|zq ?_
 refine za (decide (x8 < x7)) ?_ ?_
 ·exact zk (Zcy x0 x7 x8 zn zu zb zh zj z2 z6 ox0 zp zd zy)
 ·exact zk (ZcA zn zu zb zh zj z2 z6 zp zd zy)
theorem Z65 (x0 : List ByteArray) (x7 x8 : Int) (zn : List Int) (zu : Int) {r} (h : Z3i x0 x7 x8 zn zu = some r) : Z2m x0 x7 x8 zn zu = some r :=
 Z1a (fun _ _ ha hb => RRun.uniq (Z9P _ _ _ _ _ _ _ _) (ha default default default default default .ex .ex .ex rfl) (hb default default default default default .ex .ex .ex rfl)) (fun zb zh zj z2 z6 ox0 zp zd zy => Zcx x0 x7 x8 zn zu zb zh zj z2 z6 ox0 zp zd zy r h)
def Z4t (zu z2 z6 z38 z4B z4A z3P z3C : Int) (z3D : List Zc) (z37 : List Z7) : Option (Z7 × Int × Int × Int) :=
 some ((Z7.mk z38 z4B z4A z3P z3C z3D z37), zu, z2, z6)
theorem Z7C zn zu zb zh zj z2 z6 b1 b2 z38 z4B z4A z3P z3C z3D z37 zp zd zI zD z2M z2t z4N z3V (zy : ZN zd = true) (zeG : ZN z2M = true) (zcB : ZN z2t = true) (zeH : ZN z4N = true) (zcC : ZN z3V = true) : Sim (Z3Z zn zb zh zj zp zd) (Z4t zu z2 z6 z38 z4B z4A z3P z3C z3D z37) (Zj4 1 (.ptr 2 0) (.ptr 3 0) [(Zk (Zm.mk zn zu zb zh zj (Zl.mk z2 z6)) zp zd), (Zq b1 zI zD), (Zq b2 z2M z2t), (Zq (Z7.mk z38 z4B z4A z3P z3C z3D z37) z4N z3V)]) := by
 unfold Z4t
 refine zf (ZwR ..)<|ze<|zq<|zt [(Zk (Zm.mk zn zu zb zh zj (Zl.mk z2 z6)) zp zd), (Zq b1 zI zD), (Zq (Z7.mk z38 z4B z4A z3P z3C z3D z37) (shrO z4N) (shrO z3V)), (Zq (Z7.mk z38 z4B z4A z3P z3C z3D z37) z4N z3V)] ?_
 exact zr ((.p (.agg (ZG (Z7.mk z38 z4B z4A z3P z3C z3D z37) .sh .sh))), [(Zk (Zm.mk zn zu zb zh zj (Zl.mk z2 z6)) zp zd), (Zq b1 zI zD), (Zq (Z7.mk z38 z4B z4A z3P z3C z3D z37) (shrO z4N) (shrO z3V)), (Zq (Z7.mk z38 z4B z4A z3P z3C z3D z37) z4N z3V)]) ⟨_, rfl⟩
def Z3G (zn : List Int) (zu z2 z6 z38 z4B z4A z3P z3C : Int) (z3D : List Zc) (z37 : List Z7) : Option (Z7 × Int × Int × Int) :=
 (Z1F (ByteArray.mk #[63]) zn zu).bind fun r1 =>
 if (r1.1) = true then
 (Z4t r1.2 z2 z6 z38 z4B z4A 1 z3C z3D z37)
 else
 ((Z1F (ByteArray.mk #[43]) zn r1.2).bind fun r2 =>
 if (r2.1) = true then
 (Z4t r2.2 z2 z6 z38 z4B z4A 2 z3C z3D z37)
 else
 (Z4t r2.2 z2 z6 z38 z4B z4A z3P z3C z3D z37))
theorem Zaw zn zu zb zh zj z2 z6 b1 b2 z38 z4B z4A z3P z3C z3D z37 zp zd zI zD z2M z2t z4N z3V (zy : ZN zd = true) (zeG : ZN z2M = true) (zcB : ZN z2t = true) (zeH : ZN z4N = true) (zcC : ZN z3V = true) : Sim (Z3Z zn zb zh zj zp zd) (Z3G zn zu z2 z6 z38 z4B z4A z3P z3C z3D z37) (Zmf 1 (.ptr 0 0) (.ptr 2 0) (.ptr 3 0) [(Zk (Zm.mk zn zu zb zh zj (Zl.mk z2 z6)) zp zd), (Zq b1 zI zD), (Zq b2 z2M z2t), (Zq (Z7.mk z38 z4B z4A z3P z3C z3D z37) z4N z3V)]) := by
 unfold Z3G
 refine zf (ZwQ ..)<|ze<|zi fun r1 hr1 => ?_
 obtain ⟨qr1, er1, exr1, rfl⟩ := Z1Q (ByteArray.mk #[63]) zn zu zb zh zj z2 z6 zp zd zy r1 hr1
 refine zc [0] (bv r1.1) [(Zk (Zm.mk zn r1.2 zb zh zj (Zl.mk z2 z6)) zp zd), (Zq b1 zI zD), (Zq b2 z2M z2t), (Zq (Z7.mk z38 z4B z4A z3P z3C z3D z37) z4N z3V)] er1 ?_
 refine za r1.1 ?_ ?_
 ·refine ze<|zq<|zt [(Zk (Zm.mk zn r1.2 zb zh zj (Zl.mk z2 z6)) zp zd), (Zq b1 zI zD), (Zq b2 z2M z2t), (Zq (Z7.mk z38 z4B z4A 1 z3C z3D z37) z4N z3V)] ?_
  exact zk (Z7C zn r1.2 zb zh zj z2 z6 b1 b2 z38 z4B z4A 1 z3C z3D z37 zp zd zI zD z2M z2t z4N z3V zy zeG zcB zeH zcC)
 ·refine ze<|zi fun r2 hr2 => ?_
  obtain ⟨qr2, er2, exr2, rfl⟩ := Z1Q (ByteArray.mk #[43]) zn r1.2 zb zh zj z2 z6 zp zd zy r2 hr2
  refine zc [0] (bv r2.1) [(Zk (Zm.mk zn r2.2 zb zh zj (Zl.mk z2 z6)) zp zd), (Zq b1 zI zD), (Zq b2 z2M z2t), (Zq (Z7.mk z38 z4B z4A z3P z3C z3D z37) z4N z3V)] er2 ?_
  refine za r2.1 ?_ ?_
  ·refine ze<|zq<|zt [(Zk (Zm.mk zn r2.2 zb zh zj (Zl.mk z2 z6)) zp zd), (Zq b1 zI zD), (Zq b2 z2M z2t), (Zq (Z7.mk z38 z4B z4A 2 z3C z3D z37) z4N z3V)] ?_
   exact zk (Z7C zn r2.2 zb zh zj z2 z6 b1 b2 z38 z4B z4A 2 z3C z3D z37 zp zd zI zD z2M z2t z4N z3V zy zeG zcB zeH zcC)
  ·exact zk (Z7C zn r2.2 zb zh zj z2 z6 b1 b2 z38 z4B z4A z3P z3C z3D z37 zp zd zI zD z2M z2t z4N z3V zy zeG zcB zeH zcC)
def Z2W (x2 : Bool) (x7 : Int) (zn : List Int) (zu z2 z6 z38 z4B z4A z3P z3C : Int) (z3D : List Zc) (z37 : List Z7) : Option (Z7 × Int × Int × Int) :=
 if (!x2) = true then
 ((Z1h 23 x7 zn z2 z6).bind fun r1 =>
 Z3G zn r1.1 r1.2.1 r1.2.2 z38 z4B z4A z3P z3C z3D z37)
 else
 (Z3G zn zu z2 z6 z38 z4B z4A z3P z3C z3D z37)
theorem Z5D x2 x7 zn zu zb zh zj z2 z6 b1 b2 z38 z4B z4A z3P z3C z3D z37 zp zd zI zD z2M z2t z4N z3V (zy : ZN zd = true) (zeG : ZN z2M = true) (zcB : ZN z2t = true) (zeH : ZN z4N = true) (zcC : ZN z3V = true) : Sim (Z3Z zn zb zh zj zp zd) (Z2W x2 x7 zn zu z2 z6 z38 z4B z4A z3P z3C z3D z37) (Zgg 1 (.ptr 0 0) (bv x2) (.ptr 2 0) (iv x7) (.ptr 3 0) [(Zk (Zm.mk zn zu zb zh zj (Zl.mk z2 z6)) zp zd), (Zq b1 zI zD), (Zq b2 z2M z2t), (Zq (Z7.mk z38 z4B z4A z3P z3C z3D z37) z4N z3V)]) := by
 unfold Z2W
 refine zf (ZwP ..)<|ze<|zq ?_
 refine za (!x2) ?_ ?_
 ·refine ze<|zi fun r1 hr1 => ?_
  obtain ⟨qr1, er1, exr1, rfl⟩ := Z1k 23 x7 zn zu zb zh zj z2 z6 zp zd zy r1 hr1
  refine zc [0] (.p (.tup [])) [(Zk (Zm.mk zn r1.1 zb zh zj (Zl.mk r1.2.1 r1.2.2)) zp zd), (Zq b1 zI zD), (Zq b2 z2M z2t), (Zq (Z7.mk z38 z4B z4A z3P z3C z3D z37) z4N z3V)] er1 ?_
  exact zk (Zaw zn r1.1 zb zh zj r1.2.1 r1.2.2 b1 b2 z38 z4B z4A z3P z3C z3D z37 zp zd zI zD z2M z2t z4N z3V zy zeG zcB zeH zcC)
 ·exact zk (Zaw zn zu zb zh zj z2 z6 b1 b2 z38 z4B z4A z3P z3C z3D z37 zp zd zI zD z2M z2t z4N z3V zy zeG zcB zeH zcC)
def Z5t (x1 : Z7) (x2 : Bool) (zn : List Int) (zu zb zh : Int) (zj : List Zx) (z2 z6 : Int) : Option (Z7 × Int × Int × Int) :=
 (Z1F (ByteArray.mk #[42]) zn zu).bind fun r1 =>
 if (r1.1) = true then
 (Z2W x2 zu zn r1.2 z2 z6 4 0 (-1) 0 0 ([] : List Zc) ([x1] : List Z7))
 else
 ((Z1F (ByteArray.mk #[43]) zn r1.2).bind fun r2 =>
 if (r2.1) = true then
 (Z2W x2 zu zn r2.2 z2 z6 4 1 (-1) 0 0 ([] : List Zc) ([x1] : List Z7))
 else
 ((Z1F (ByteArray.mk #[63]) zn r2.2).bind fun r3 =>
 if (r3.1) = true then
 (Z2W x2 zu zn r3.2 z2 z6 4 0 1 0 0 ([] : List Zc) ([x1] : List Z7))
 else
 ((Z1F (ByteArray.mk #[123]) zn r3.2).bind fun r4 =>
 if (r4.1) = true then
 ((Z6W zu zn r4.2 zb zh zj z2 z6).bind fun r5 =>
 Z2W x2 zu zn r5.2.2.1 r5.2.2.2.1 r5.2.2.2.2 4 r5.1 r5.2.1 0 0 ([] : List Zc) ([x1] : List Z7))
 else
 (some (x1, r4.2, z2, z6)))))
theorem Zip x1 x2 zn zu zb zh zj z2 z6 z3j z2R zp zd (zy : ZN zd = true) : Sim (Z3Z zn zb zh zj zp zd) (Z5t x1 x2 zn zu zb zh zj z2 z6) (EE 106 [(.ptr 0 0), (.p (.agg (ZG x1 z3j z2R))), (bv x2)] [(Zk (Zm.mk zn zu zb zh zj (Zl.mk z2 z6)) zp zd)]) := by
 unfold Z5t
 refine zf (ZDP ..)<|ze<|zx (.ptr 1 0) [(Zk (Zm.mk zn zu zb zh zj (Zl.mk z2 z6)) zp zd), (Zq x1 z3j z2R)]<|zz (.ptr 2 0) [(Zk (Zm.mk zn zu zb zh zj (Zl.mk z2 z6)) zp zd), (Zq x1 z3j z2R), (Zq (Z7.mk 0 0 0 0 0 ([] : List Zc) ([] : List Z7)) .nl .nl)]<|ze<|zq<|zq<|zq<|ze<|zq ?_
 refine zo (.p (.lst .ex (([x1] : List Z7).map ZS))) ?_ (Eq.trans (b := some (.p (.lst .ex [.agg (Z2Z x1)]))) (by kernel_rfl) (by simp only [List.map_cons, List.map_nil, Z4T]))
 refine zq<|zz (.ptr 3 0) [(Zk (Zm.mk zn zu zb zh zj (Zl.mk z2 z6)) zp zd), (Zq x1 z3j z2R), (Zq (Z7.mk 0 0 0 0 0 ([] : List Zc) ([] : List Z7)) .nl .nl), (Zq (Z7.mk 0 0 0 0 0 ([] : List Zc) ([] : List Z7)) .nl .nl)]<|zt [(Zk (Zm.mk zn zu zb zh zj (Zl.mk z2 z6)) zp zd), (Zq x1 z3j z2R), (Zq (Z7.mk 0 0 0 0 0 ([] : List Zc) ([] : List Z7)) .nl .nl), (Zq (Z7.mk 4 0 (-1) 0 0 ([] : List Zc) ([x1] : List Z7)) .nl .ex)]<|ze<|zi fun r1 hr1 => ?_
 obtain ⟨qr1, er1, exr1, rfl⟩ := Z1Q (ByteArray.mk #[42]) zn zu zb zh zj z2 z6 zp zd zy r1 hr1
 refine zc [0] (bv r1.1) [(Zk (Zm.mk zn r1.2 zb zh zj (Zl.mk z2 z6)) zp zd), (Zq x1 z3j z2R), (Zq (Z7.mk 0 0 0 0 0 ([] : List Zc) ([] : List Z7)) .nl .nl), (Zq (Z7.mk 4 0 (-1) 0 0 ([] : List Zc) ([x1] : List Z7)) .nl .ex)] er1 ?_
 refine za r1.1 ?_ ?_
 ·exact zk (Z5D x2 zu zn r1.2 zb zh zj z2 z6 x1 (Z7.mk 0 0 0 0 0 ([] : List Zc) ([] : List Z7)) 4 0 (-1) 0 0 ([] : List Zc) ([x1] : List Z7) zp zd z3j z2R .nl .nl .nl .ex zy rfl rfl rfl rfl)
 ·refine ze<|zi fun r2 hr2 => ?_
  obtain ⟨qr2, er2, exr2, rfl⟩ := Z1Q (ByteArray.mk #[43]) zn r1.2 zb zh zj z2 z6 zp zd zy r2 hr2
  refine zc [0] (bv r2.1) [(Zk (Zm.mk zn r2.2 zb zh zj (Zl.mk z2 z6)) zp zd), (Zq x1 z3j z2R), (Zq (Z7.mk 0 0 0 0 0 ([] : List Zc) ([] : List Z7)) .nl .nl), (Zq (Z7.mk 4 0 (-1) 0 0 ([] : List Zc) ([x1] : List Z7)) .nl .ex)] er2 ?_
  refine za r2.1 ?_ ?_
  ·refine ze<|zq<|zt [(Zk (Zm.mk zn r2.2 zb zh zj (Zl.mk z2 z6)) zp zd), (Zq x1 z3j z2R), (Zq (Z7.mk 0 0 0 0 0 ([] : List Zc) ([] : List Z7)) .nl .nl), (Zq (Z7.mk 4 1 (-1) 0 0 ([] : List Zc) ([x1] : List Z7)) .nl .ex)] ?_
   exact zk (Z5D x2 zu zn r2.2 zb zh zj z2 z6 x1 (Z7.mk 0 0 0 0 0 ([] : List Zc) ([] : List Z7)) 4 1 (-1) 0 0 ([] : List Zc) ([x1] : List Z7) zp zd z3j z2R .nl .nl .nl .ex zy rfl rfl rfl rfl)
  ·refine ze<|zi fun r3 hr3 => ?_
   obtain ⟨qr3, er3, exr3, rfl⟩ := Z1Q (ByteArray.mk #[63]) zn r2.2 zb zh zj z2 z6 zp zd zy r3 hr3
   refine zc [0] (bv r3.1) [(Zk (Zm.mk zn r3.2 zb zh zj (Zl.mk z2 z6)) zp zd), (Zq x1 z3j z2R), (Zq (Z7.mk 0 0 0 0 0 ([] : List Zc) ([] : List Z7)) .nl .nl), (Zq (Z7.mk 4 0 (-1) 0 0 ([] : List Zc) ([x1] : List Z7)) .nl .ex)] er3 ?_
   refine za r3.1 ?_ ?_
   ·refine ze<|zq<|zt [(Zk (Zm.mk zn r3.2 zb zh zj (Zl.mk z2 z6)) zp zd), (Zq x1 z3j z2R), (Zq (Z7.mk 0 0 0 0 0 ([] : List Zc) ([] : List Z7)) .nl .nl), (Zq (Z7.mk 4 0 1 0 0 ([] : List Zc) ([x1] : List Z7)) .nl .ex)] ?_
    exact zk (Z5D x2 zu zn r3.2 zb zh zj z2 z6 x1 (Z7.mk 0 0 0 0 0 ([] : List Zc) ([] : List Z7)) 4 0 1 0 0 ([] : List Zc) ([x1] : List Z7) zp zd z3j z2R .nl .nl .nl .ex zy rfl rfl rfl rfl)
   ·refine ze<|zi fun r4 hr4 => ?_
    obtain ⟨qr4, er4, exr4, rfl⟩ := Z1Q (ByteArray.mk #[123]) zn r3.2 zb zh zj z2 z6 zp zd zy r4 hr4
    refine zc [0] (bv r4.1) [(Zk (Zm.mk zn r4.2 zb zh zj (Zl.mk z2 z6)) zp zd), (Zq x1 z3j z2R), (Zq (Z7.mk 0 0 0 0 0 ([] : List Zc) ([] : List Z7)) .nl .nl), (Zq (Z7.mk 4 0 (-1) 0 0 ([] : List Zc) ([x1] : List Z7)) .nl .ex)] er4 ?_
    refine za r4.1 ?_ ?_
    ·refine ze<|zi fun r5 hr5 => ?_
     obtain ⟨qr5, er5, exr5, rfl⟩ := Zjd zu zn r4.2 zb zh zj z2 z6 zp zd zy r5 hr5
     refine zc [0] (.p (.tup [(.v (.int .i64 r5.1)), (.v (.int .i64 r5.2.1))])) [(Zk (Zm.mk zn r5.2.2.1 zb zh zj (Zl.mk r5.2.2.2.1 r5.2.2.2.2)) zp zd), (Zq x1 z3j z2R), (Zq (Z7.mk 0 0 0 0 0 ([] : List Zc) ([] : List Z7)) .nl .nl), (Zq (Z7.mk 4 0 (-1) 0 0 ([] : List Zc) ([x1] : List Z7)) .nl .ex)] er5<|zq<|zq<|zq<|zt [(Zk (Zm.mk zn r5.2.2.1 zb zh zj (Zl.mk r5.2.2.2.1 r5.2.2.2.2)) zp zd), (Zq x1 z3j z2R), (Zq (Z7.mk 0 0 0 0 0 ([] : List Zc) ([] : List Z7)) .nl .nl), (Zq (Z7.mk 4 r5.1 (-1) 0 0 ([] : List Zc) ([x1] : List Z7)) .nl .ex)]<|zq<|zt [(Zk (Zm.mk zn r5.2.2.1 zb zh zj (Zl.mk r5.2.2.2.1 r5.2.2.2.2)) zp zd), (Zq x1 z3j z2R), (Zq (Z7.mk 0 0 0 0 0 ([] : List Zc) ([] : List Z7)) .nl .nl), (Zq (Z7.mk 4 r5.1 r5.2.1 0 0 ([] : List Zc) ([x1] : List Z7)) .nl .ex)] ?_
     exact zk (Z5D x2 zu zn r5.2.2.1 zb zh zj r5.2.2.2.1 r5.2.2.2.2 x1 (Z7.mk 0 0 0 0 0 ([] : List Zc) ([] : List Z7)) 4 r5.1 r5.2.1 0 0 ([] : List Zc) ([x1] : List Z7) zp zd z3j z2R .nl .nl .nl .ex zy rfl rfl rfl rfl)
    ·refine ze<|zq<|zt [(Zk (Zm.mk zn r4.2 zb zh zj (Zl.mk z2 z6)) zp zd), (Zq x1 z3j z2R), (Zq x1 (shrO z3j) (shrO z2R)), (Zq (Z7.mk 4 0 (-1) 0 0 ([] : List Zc) ([x1] : List Z7)) .nl .ex)] ?_
     exact zr ((.p (.agg (ZG x1 .sh .sh))), [(Zk (Zm.mk zn r4.2 zb zh zj (Zl.mk z2 z6)) zp zd), (Zq x1 z3j z2R), (Zq x1 (shrO z3j) (shrO z2R)), (Zq (Z7.mk 4 0 (-1) 0 0 ([] : List Zc) ([x1] : List Z7)) .nl .ex)]) ⟨_, rfl⟩
theorem Zct (x1 : Z7) (x2 : Bool) (zn : List Int) (zu zb zh : Int) (zj : List Zx) (z2 z6 : Int) {r} (h : Z5t x1 x2 zn zu zb zh zj z2 z6 = some r) : Z6X x1 x2 zn zu zb zh zj z2 z6 = some r :=
 Z1a (fun _ _ ha hb => RRun.uniq (ZjA _ _ _ _ _ _) (ha .ex .ex .ex .ex rfl) (hb .ex .ex .ex .ex rfl)) (fun z3j z2R zp zd zy => Zip x1 x2 zn zu zb zh zj z2 z6 z3j z2R zp zd zy r h)
def Z9b (x4 zu z2 z6 : Int) : Option (Int × Int × Int × Int × Int) :=
 some (x4, (-1), zu, z2, z6)
theorem Zgx x4 zn zu zb zh zj z2 z6 zp zd (zy : ZN zd = true) : Sim (Z2U zn zb zh zj zp zd) (Z9b x4 zu z2 z6) (Zsq 1 (iv x4) [(Zk (Zm.mk zn zu zb zh zj (Zl.mk z2 z6)) zp zd)]) := by
 unfold Z9b
 refine zf (ZyI ..)<|ze ?_
 exact zr ((.p (.tup [(.v (.int .i64 x4)), (.v (.int .i64 (-1)))])), [(Zk (Zm.mk zn zu zb zh zj (Zl.mk z2 z6)) zp zd)]) ⟨_, rfl⟩
def Z74 (x4 x5 zu z2 z6 : Int) : Option (Int × Int × Int × Int × Int) :=
 some (x4, x5, zu, z2, z6)
theorem Zau x4 x5 zn zu zb zh zj z2 z6 zp zd (zy : ZN zd = true) : Sim (Z2U zn zb zh zj zp zd) (Z74 x4 x5 zu z2 z6) (Zmk 1 (iv x4) (iv x5) [(Zk (Zm.mk zn zu zb zh zj (Zl.mk z2 z6)) zp zd)]) := by
 unfold Z74
 refine zf (Zx8 ..)<|ze ?_
 exact zr ((.p (.tup [(.v (.int .i64 x4)), (.v (.int .i64 x5))])), [(Zk (Zm.mk zn zu zb zh zj (Zl.mk z2 z6)) zp zd)]) ⟨_, rfl⟩
def Z3f (x1 x4 x5 : Int) (zn : List Int) (z2 z6 : Int) : Option (Int × Int × Int × Int × Int) :=
 (Z1h 23 x1 zn z2 z6).bind fun r1 =>
 Z74 x4 x5 r1.1 r1.2.1 r1.2.2
theorem Z5C x1 x4 x5 zn zu zb zh zj z2 z6 zp zd (zy : ZN zd = true) : Sim (Z2U zn zb zh zj zp zd) (Z3f x1 x4 x5 zn z2 z6) (Zgl 1 (.ptr 0 0) (iv x1) (iv x4) (iv x5) [(Zk (Zm.mk zn zu zb zh zj (Zl.mk z2 z6)) zp zd)]) := by
 unfold Z3f
 refine zf (Zx7 ..)<|ze<|zi fun r1 hr1 => ?_
 obtain ⟨qr1, er1, exr1, rfl⟩ := Z1k 23 x1 zn zu zb zh zj z2 z6 zp zd zy r1 hr1
 refine zc [0] (.p (.tup [])) [(Zk (Zm.mk zn r1.1 zb zh zj (Zl.mk r1.2.1 r1.2.2)) zp zd)] er1 ?_
 exact zk (Zau x4 x5 zn r1.1 zb zh zj r1.2.1 r1.2.2 zp zd zy)
def Z30 (x1 x4 x5 : Int) (zn : List Int) (zu z2 z6 : Int) : Option (Int × Int × Int × Int × Int) :=
 if (decide (x4 < 0)) = true then
 (Z3f x1 x4 x5 zn z2 z6)
 else
 (if (decide (x5 < x4)) = true then
 (Z3f x1 x4 x5 zn z2 z6)
 else
 (if (decide (64 < x5)) = true then
 (Z3f x1 x4 x5 zn z2 z6)
 else
 ((Z1F (ByteArray.mk #[125]) zn zu).bind fun r1 =>
 if (!r1.1) = true then
 (Z3f x1 x4 x5 zn z2 z6)
 else
 (Z74 x4 x5 r1.2 z2 z6))))
theorem Z62 x1 x4 x5 zn zu zb zh zj z2 z6 zp zd (zy : ZN zd = true) : Sim (Z2U zn zb zh zj zp zd) (Z30 x1 x4 x5 zn zu z2 z6) (ZiF 1 (.ptr 0 0) (iv x1) (iv x4) (iv x5) [(Zk (Zm.mk zn zu zb zh zj (Zl.mk z2 z6)) zp zd)]) := by
 unfold Z30
 refine zf (ZyK ..)<|ze<|zq ?_
 refine za (decide (x4 < 0)) ?_ ?_
 ·exact zk (Z5C x1 x4 x5 zn zu zb zh zj z2 z6 zp zd zy)
 ·refine zq ?_
  refine za (decide (x5 < x4)) ?_ ?_
  ·exact zk (Z5C x1 x4 x5 zn zu zb zh zj z2 z6 zp zd zy)
  ·refine zq ?_
   refine za (decide (64 < x5)) ?_ ?_
   ·exact zk (Z5C x1 x4 x5 zn zu zb zh zj z2 z6 zp zd zy)
   ·refine zi fun r1 hr1 => ?_
    obtain ⟨qr1, er1, exr1, rfl⟩ := Z1Q (ByteArray.mk #[125]) zn zu zb zh zj z2 z6 zp zd zy r1 hr1
    refine zc [0] (bv r1.1) [(Zk (Zm.mk zn r1.2 zb zh zj (Zl.mk z2 z6)) zp zd)] er1<|zq ?_
    refine za (!r1.1) ?_ ?_
    ·exact zk (Z5C x1 x4 x5 zn r1.2 zb zh zj z2 z6 zp zd zy)
    ·exact zk (Zau x4 x5 zn r1.2 zb zh zj z2 z6 zp zd zy)
def Z4I (x1 x4 : Int) (zn : List Int) (zu z2 z6 : Int) : Option (Int × Int × Int × Int × Int) :=
 Z30 x1 x4 (-2) zn zu z2 z6
theorem Zb6 x1 x4 zn zu zb zh zj z2 z6 zp zd (zy : ZN zd = true) : Sim (Z2U zn zb zh zj zp zd) (Z4I x1 x4 zn zu z2 z6) (ZoX 1 (.ptr 0 0) (iv x1) (iv x4) [(Zk (Zm.mk zn zu zb zh zj (Zl.mk z2 z6)) zp zd)]) := by
 unfold Z4I
 refine zf (ZyJ ..)<|ze ?_
 exact zk (Z62 x1 x4 (-2) zn zu zb zh zj z2 z6 zp zd zy)
def Z7f (x1 x4 : Int) (zn : List Int) (zu z2 z6 : Int) : Option (Int × Int × Int × Int × Int) :=
 (Z1F (ByteArray.mk #[125]) zn zu).bind fun r1 =>
 if (r1.1) = true then
 (if (decide (x4 ≤ 64)) = true then
 (Z9b x4 r1.2 z2 z6)
 else
 (Z4I x1 x4 zn r1.2 z2 z6))
 else
 (Z4I x1 x4 zn r1.2 z2 z6)
theorem Zgw x1 x4 zn zu zb zh zj z2 z6 zp zd (zy : ZN zd = true) : Sim (Z2U zn zb zh zj zp zd) (Z7f x1 x4 zn zu z2 z6) (Zsp 1 (.ptr 0 0) (iv x1) (iv x4) [(Zk (Zm.mk zn zu zb zh zj (Zl.mk z2 z6)) zp zd)]) := by
 unfold Z7f
 refine zf (ZyH ..)<|ze<|zi fun r1 hr1 => ?_
 obtain ⟨qr1, er1, exr1, rfl⟩ := Z1Q (ByteArray.mk #[125]) zn zu zb zh zj z2 z6 zp zd zy r1 hr1
 refine zc [0] (bv r1.1) [(Zk (Zm.mk zn r1.2 zb zh zj (Zl.mk z2 z6)) zp zd)] er1 ?_
 refine za r1.1 ?_ ?_
 ·refine zq ?_
  refine za (decide (x4 ≤ 64)) ?_ ?_
  ·exact zk (Zgx x4 zn r1.2 zb zh zj z2 z6 zp zd zy)
  ·exact zk (Zb6 x1 x4 zn r1.2 zb zh zj z2 z6 zp zd zy)
 ·exact zk (Zb6 x1 x4 zn r1.2 zb zh zj z2 z6 zp zd zy)
def Z6Q (x1 : Int) (zn : List Int) (zu zb zh : Int) (zj : List Zx) (z2 z6 : Int) : Option (Int × Int × Int × Int × Int) :=
 (Z5y zn zu zb zh zj z2 z6).bind fun r1 =>
 (Z1F (ByteArray.mk #[44]) zn r1.2).bind fun r2 =>
 if (r2.1) = true then
 ((Z5y zn r2.2 zb zh zj z2 z6).bind fun r3 =>
 if (decide (r3.1 < 0)) = true then
 (if (decide (0 ≤ r1.1)) = true then
 (Z7f x1 r1.1 zn r3.2 z2 z6)
 else
 (Z30 x1 r1.1 r3.1 zn r3.2 z2 z6))
 else
 (Z30 x1 r1.1 r3.1 zn r3.2 z2 z6))
 else
 (Z30 x1 r1.1 r1.1 zn r2.2 z2 z6)
theorem Zil x1 zn zu zb zh zj z2 z6 zp zd (zy : ZN zd = true) : Sim (Z2U zn zb zh zj zp zd) (Z6Q x1 zn zu zb zh zj z2 z6) (EE 133 [(.ptr 0 0), (iv x1)] [(Zk (Zm.mk zn zu zb zh zj (Zl.mk z2 z6)) zp zd)]) := by
 unfold Z6Q
 refine zf (ZEd ..)<|ze<|ze<|zi fun r1 hr1 => ?_
 obtain ⟨qr1, er1, exr1, rfl⟩ := Zcs zn zu zb zh zj z2 z6 zp zd zy r1 hr1
 refine zc [0] (iv r1.1) [(Zk (Zm.mk zn r1.2 zb zh zj (Zl.mk z2 z6)) zp zd)] er1<|ze<|ze<|zi fun r2 hr2 => ?_
 obtain ⟨qr2, er2, exr2, rfl⟩ := Z1Q (ByteArray.mk #[44]) zn r1.2 zb zh zj z2 z6 zp zd zy r2 hr2
 refine zc [0] (bv r2.1) [(Zk (Zm.mk zn r2.2 zb zh zj (Zl.mk z2 z6)) zp zd)] er2 ?_
 refine za r2.1 ?_ ?_
 ·refine ze<|zi fun r3 hr3 => ?_
  obtain ⟨qr3, er3, exr3, rfl⟩ := Zcs zn r2.2 zb zh zj z2 z6 zp zd zy r3 hr3
  refine zc [0] (iv r3.1) [(Zk (Zm.mk zn r3.2 zb zh zj (Zl.mk z2 z6)) zp zd)] er3<|ze<|zq ?_
  refine za (decide (r3.1 < 0)) ?_ ?_
  ·refine zq ?_
   refine za (decide (0 ≤ r1.1)) ?_ ?_
   ·exact zk (Zgw x1 r1.1 zn r3.2 zb zh zj z2 z6 zp zd zy)
   ·exact zk (Z62 x1 r1.1 r3.1 zn r3.2 zb zh zj z2 z6 zp zd zy)
  ·exact zk (Z62 x1 r1.1 r3.1 zn r3.2 zb zh zj z2 z6 zp zd zy)
 ·exact zk (Z62 x1 r1.1 r1.1 zn r2.2 zb zh zj z2 z6 zp zd zy)
theorem Zcp (x1 : Int) (zn : List Int) (zu zb zh : Int) (zj : List Zx) (z2 z6 : Int) {r} (h : Z6Q x1 zn zu zb zh zj z2 z6 = some r) : Z6W x1 zn zu zb zh zj z2 z6 = some r :=
 Z1a (fun _ _ ha hb => RRun.uniq (Zjx _ _ _ _ _ _) (ha .ex .ex rfl) (hb .ex .ex rfl)) (fun zp zd zy => Zil x1 zn zu zb zh zj z2 z6 zp zd zy r h)
def ZaY (zn : List Int) (zu zb zh : Int) (zj : List Zx) (z2 z6 : Int) : Option (Int × Int) :=
 Z3U (-1) 0 zn zu zb zh zj z2 z6
theorem Zio zn zu zb zh zj z2 z6 zp zd (zy : ZN zd = true) : Sim (Z3b zn zb zh zj z2 z6 zp zd) (ZaY zn zu zb zh zj z2 z6) (EE 156 [(.ptr 0 0)] [(Zk (Zm.mk zn zu zb zh zj (Zl.mk z2 z6)) zp zd)]) := by
 unfold ZaY
 refine zf (ZEy ..)<|ze<|ze<|ze ?_
 exact zk (Zbf (-1) 0 zn zu zb zh zj z2 z6 zp zd zy)
theorem Zjg (zn : List Int) (zu zb zh : Int) (zj : List Zx) (z2 z6 : Int) {r} (h : ZaY zn zu zb zh zj z2 z6 = some r) : Z5y zn zu zb zh zj z2 z6 = some r :=
 Z1a (fun _ _ ha hb => RRun.uniq (Zdi _ _ _ _ _ _ _ _) (ha .ex .ex rfl) (hb .ex .ex rfl)) (fun zp zd zy => Zio zn zu zb zh zj z2 z6 zp zd zy r h)
def Z7j (x3 x4 : Int) (zn : List Int) (zu zb zh : Int) (zj : List Zx) (z2 z6 : Int) : Option (Int × Int) :=
 (Z3e zn zu).bind fun r1 =>
 Z3U ((IntKind.i64.wrap ((IntKind.i64.wrap ((IntKind.i64.wrap (10 * (max x3 0))) + r1.1)) - 48))) (IntKind.i64.wrap (x4 + 1)) zn r1.2 zb zh zj z2 z6
theorem ZgC x3 x4 zn zu zb zh zj z2 z6 zp zd (zy : ZN zd = true) : Sim (Z3b zn zb zh zj z2 z6 zp zd) (Z7j x3 x4 zn zu zb zh zj z2 z6) (ZsI 1 (.ptr 0 0) (iv x3) (iv x4) [(Zk (Zm.mk zn zu zb zh zj (Zl.mk z2 z6)) zp zd)]) := by
 unfold Z7j
 refine zf (ZyX ..)<|ze ?_
 refine zo (iv (max x3 0)) ?_ (ZoH _ _)
 refine zq<|zi fun r1 hr1 => ?_
 obtain ⟨qr1, er1, exr1, rfl⟩ := Z3M zn zu zb zh zj z2 z6 zp zd zy r1 hr1
 refine zc [0] (iv r1.1) [(Zk (Zm.mk zn r1.2 zb zh zj (Zl.mk z2 z6)) zp zd)] er1<|zq<|zq<|ze<|zq ?_
 exact zk (Zbf ((IntKind.i64.wrap ((IntKind.i64.wrap ((IntKind.i64.wrap (10 * (max x3 0))) + r1.1)) - 48))) (IntKind.i64.wrap (x4 + 1)) zn r1.2 zb zh zj z2 z6 zp zd zy)
def Z4J (x3 zu : Int) : Option (Int × Int) :=
 some (x3, zu)
theorem Z7X x3 zn zu zb zh zj z2 z6 zp zd (zy : ZN zd = true) : Sim (Z3b zn zb zh zj z2 z6 zp zd) (Z4J x3 zu) (Zla 1 (iv x3) [(Zk (Zm.mk zn zu zb zh zj (Zl.mk z2 z6)) zp zd)]) := by
 unfold Z4J
 refine zf (ZyY ..)<|ze ?_
 exact zr ((iv x3), [(Zk (Zm.mk zn zu zb zh zj (Zl.mk z2 z6)) zp zd)]) ⟨_, rfl⟩
def Z7i (x3 x4 : Int) (zn : List Int) (zu zb zh : Int) (zj : List Zx) (z2 z6 : Int) : Option (Int × Int) :=
 if (decide (x4 < 2)) = true then
 ((Z2D (Zm.mk zn zu zb zh zj (Zl.mk z2 z6))).bind fun r1 =>
 if (decide (48 ≤ r1)) = true then
 ((Z2D (Zm.mk zn zu zb zh zj (Zl.mk z2 z6))).bind fun r2 =>
 if (decide (r2 ≤ 57)) = true then
 (Z7j x3 x4 zn zu zb zh zj z2 z6)
 else
 (Z4J x3 zu))
 else
 (Z4J x3 zu))
 else
 (Z4J x3 zu)
theorem ZgB x3 x4 zn zu zb zh zj z2 z6 zp zd (zy : ZN zd = true) : Sim (Z3b zn zb zh zj z2 z6 zp zd) (Z7i x3 x4 zn zu zb zh zj z2 z6) (ZiH 1 (.ptr 0 0) (iv x3) (iv x4) [(Zk (Zm.mk zn zu zb zh zj (Zl.mk z2 z6)) zp zd)]) := by
 unfold Z7i
 refine zf (ZyW ..)<|ze<|zq ?_
 refine za (decide (x4 < 2)) ?_ ?_
 ·refine zi fun r1 hr1 => ?_
  obtain ⟨qr1, er1, exr1, rfl⟩ := Z2N (Zm.mk zn zu zb zh zj (Zl.mk z2 z6)) zp zd zy r1 hr1
  refine zc [0] (iv r1) [(Zk (Zm.mk zn zu zb zh zj (Zl.mk z2 z6)) zp zd)] er1<|zq ?_
  refine za (decide (48 ≤ r1)) ?_ ?_
  ·refine zi fun r2 hr2 => ?_
   obtain ⟨qr2, er2, exr2, rfl⟩ := Z2N (Zm.mk zn zu zb zh zj (Zl.mk z2 z6)) zp zd zy r2 hr2
   refine zc [0] (iv r2) [(Zk (Zm.mk zn zu zb zh zj (Zl.mk z2 z6)) zp zd)] er2<|zq ?_
   refine za (decide (r2 ≤ 57)) ?_ ?_
   ·exact zk (ZgC x3 x4 zn zu zb zh zj z2 z6 zp zd zy)
   ·exact zk (Z7X x3 zn zu zb zh zj z2 z6 zp zd zy)
  ·exact zk (Z7X x3 zn zu zb zh zj z2 z6 zp zd zy)
 ·exact zk (Z7X x3 zn zu zb zh zj z2 z6 zp zd zy)
theorem Zhk (x3 x4 : Int) (zn : List Int) (zu zb zh : Int) (zj : List Zx) (z2 z6 : Int) {r} (h : Z7i x3 x4 zn zu zb zh zj z2 z6 = some r) : Z3U x3 x4 zn zu zb zh zj z2 z6 = some r :=
 Z1a (fun _ _ ha hb => RRun.uniq (Zdi _ _ _ _ _ _ _ _) (ha .ex .ex rfl) (hb .ex .ex rfl)) (fun zp zd zy => ZgB x3 x4 zn zu zb zh zj z2 z6 zp zd zy r h)
def Zbx  : Option (Int) :=
 some (0)
theorem Zn0  : Sim (Z9U) (Zbx) (Zvo 0  []) := by
 unfold Zbx
 refine zf (ZB6 ..)<|ze ?_
 exact zr ((iv 0), []) ⟨_, rfl⟩
def Zeg (x0 : ZT) : Option (Int) :=
 (Z4m x0.Root).bind fun r1 =>
 if (!r1) = true then
 (some (27))
 else
 ((Z5R x0.Root).bind fun r2 =>
 if (decide (2000 < (IntKind.i64.wrap (r2 + 3)))) = true then
 (some (28))
 else
 (Zbx))
theorem Zpv x0 z3W z3B : Sim (Z9U) (Zeg x0) (EE 48 [(.p (.agg (Z33 x0 z3W z3B)))] []) := by
 unfold Zeg
 refine zf (ZGm ..)<|ze<|zx (.ptr 0 0) [(ZU x0 z3W z3B)]<|ze<|zq<|zq<|zi fun r1 hr1 => ?_
 obtain ⟨qr1, er1, exr1, rfl⟩ := Zhs x0.Root .sh .sh r1 hr1
 refine zc [] (bv r1) [(ZU x0 z3W z3B)] er1<|zq ?_
 refine za (!r1) ?_ ?_
 ·refine ze ?_
  exact zr ((iv 27), [(ZU x0 z3W z3B)]) ⟨_, rfl⟩
 ·refine ze<|zq<|zq<|zi fun r2 hr2 => ?_
  obtain ⟨qr2, er2, exr2, rfl⟩ := Zk8 x0.Root .sh .sh r2 hr2
  refine zc [] (iv r2) [(ZU x0 z3W z3B)] er2<|zq<|zq ?_
  refine za (decide (2000 < (IntKind.i64.wrap (r2 + 3)))) ?_ ?_
  ·refine ze ?_
   exact zr ((iv 28), [(ZU x0 z3W z3B)]) ⟨_, rfl⟩
  ·exact zk (Zn0 )
theorem Zqs (x0 : ZT) {r} (h : Zeg x0 = some r) : Zem x0 = some r :=
 Z1a (fun _ _ ha hb => RRun.uniq ZqV (ha .ex .ex) (hb .ex .ex)) (fun z3W z3B => Zpv x0 z3W z3B r h)
end Go.Proofs.YteoeggbihfnbfaaGreatDoor.N2
end
