/- The functions' typed texts. No condition. -/
import Derived.Test.YteoeggbihfnbfaaGreatDoorTypA

noncomputable section
set_option linter.unusedSimpArgs false
set_option linter.unusedVariables false
namespace Go.Proofs.YteoeggbihfnbfaaGreatDoor.N2
open Go Go.Abs
set_option linter.unusedVariables false
set_option maxRecDepth 100000
def Z3y  : Option (Bool) :=
 some (true)
theorem Z6f  : Sim (Z2l) (Z3y) (ZrU 0  []) := by
 unfold Z3y
 refine zf (ZDz ..)<|ze ?_
 exact zr ((bv true), []) ⟨_, rfl⟩
def Z5k (b3 : ZI) : Option (Bool) :=
 some (b3.Code == 33)
theorem ZdJ b0 b1 b2 b3 zB zO : Sim (Z2l) (Z5k b3) (ZAs 0 (.ptr 3 0) [(Zo b0 zB), (ZW b1), (Zo b2 zO), (ZM b3)]) := by
 unfold Z5k
 refine zf (ZDB ..)<|ze<|zq<|zq<|zq ?_
 exact zr ((bv (b3.Code == 33)), [(Zo b0 zB), (ZW b1), (Zo b2 zO), (ZM b3)]) ⟨_, rfl⟩
def Z54 (b1 : Zp) (b2 : ZD) (b3 : ZI) : Option (Bool) :=
 (Zau b2 b1.ID).bind fun r1 =>
 if (b3.Code == 0) = true then
 (if (r1.2) = true then
 (some (((r1.1.ID == b1.ID) && ((r1.1.Priority == b1.Priority) && ((r1.1.Action == b1.Action) && ((r1.1.Scope == b1.Scope) && ((seq r1.1.Pattern b1.Pattern) && true)))))))
 else
 (some (false)))
 else
 (some (false))
theorem Zdi b0 b1 b2 b3 zB zO : Sim (Z2l) (Z54 b1 b2 b3) (Zwc 0 (.ptr 1 0) (.ptr 2 0) (.ptr 3 0) [(Zo b0 zB), (ZW b1), (Zo b2 zO), (ZM b3)]) := by
 unfold Z54
 refine zf (ZC7 ..)<|ze<|zq<|zq<|zq<|zi fun r1 hr1 => ?_
 obtain ⟨qr1, er1, exr1, rfl⟩ := ZhL b2 b1.ID .sh r1 hr1
 refine zc [] (.p (.tup [(.agg (Z1r r1.1)), (.v (.bool r1.2))])) [(Zo b0 zB), (ZW b1), (Zo b2 zO), (ZM b3)] er1<|zq<|zq<|zz (.ptr 4 0) [(Zo b0 zB), (ZW b1), (Zo b2 zO), (ZM b3), (ZW (Zp.mk 0 0 0 0 (ByteArray.mk #[])))]<|zt [(Zo b0 zB), (ZW b1), (Zo b2 zO), (ZM b3), (ZW r1.1)]<|ze<|zq<|zq<|zq ?_
 refine za (b3.Code == 0) ?_ ?_
 ·refine za r1.2 ?_ ?_
  ·refine zq<|zq ?_
   refine zo (bv ((r1.1.ID == b1.ID) && ((r1.1.Priority == b1.Priority) && ((r1.1.Action == b1.Action) && ((r1.1.Scope == b1.Scope) && ((seq r1.1.Pattern b1.Pattern) && true)))))) ?_ (Eq.trans (b := xbin PP .eql 43 (.p (.agg (Z1r r1.1))) (.p (.agg (Z1r b1)))) (by kernel_rfl) (ZmA (by kernel_rfl) (by kernel_rfl) (by kernel_rfl) (by kernel_rfl) (by kernel_rfl)))
   exact zr ((bv ((r1.1.ID == b1.ID) && ((r1.1.Priority == b1.Priority) && ((r1.1.Action == b1.Action) && ((r1.1.Scope == b1.Scope) && ((seq r1.1.Pattern b1.Pattern) && true)))))), [(Zo b0 zB), (ZW b1), (Zo b2 zO), (ZM b3), (ZW r1.1)]) ⟨_, rfl⟩
  ·exact zr ((bv false), [(Zo b0 zB), (ZW b1), (Zo b2 zO), (ZM b3), (ZW r1.1)]) ⟨_, rfl⟩
 ·exact zr ((bv false), [(Zo b0 zB), (ZW b1), (Zo b2 zO), (ZM b3), (ZW r1.1)]) ⟨_, rfl⟩
def Z35 (b1 : Zp) (b2 : ZD) (b3 b4 : ZI) : Option (Bool) :=
 if (b4.Code != 0) = true then
 (if ((b3.Code == b4.Code) && ((b3.Rule == b1.ID) && ((b3.At == b4.At) && true))) = true then
 (some ((b2.Rules.length : Int) == 0))
 else
 (some (false)))
 else
 (Z54 b1 b2 b3)
theorem Z8J b0 b1 b2 b3 b4 zB zO : Sim (Z2l) (Z35 b1 b2 b3 b4) (ZrT 0 (.ptr 1 0) (.ptr 2 0) (.ptr 3 0) (.ptr 4 0) [(Zo b0 zB), (ZW b1), (Zo b2 zO), (ZM b3), (ZM b4)]) := by
 unfold Z35
 refine zf (ZC6 ..)<|ze<|zq<|zq<|zq ?_
 refine za (b4.Code != 0) ?_ ?_
 ·refine ze<|zq<|zq<|zq<|zq<|zq<|zq<|zq<|zq ?_
  refine zo (bv ((b3.Code == b4.Code) && ((b3.Rule == b1.ID) && ((b3.At == b4.At) && true)))) ?_ (Eq.trans (b := xbin PP .eql 32 (.p (.agg (Z1d b3))) (.p (.agg (Z1d (ZI.mk b4.Code b1.ID b4.At))))) (by kernel_rfl) (ZmA (by kernel_rfl) (by kernel_rfl) (by kernel_rfl) (by kernel_rfl) (by kernel_rfl)))
  refine za ((b3.Code == b4.Code) && ((b3.Rule == b1.ID) && ((b3.At == b4.At) && true))) ?_ ?_
  ·refine zq<|zq ?_
   refine zo (iv (b2.Rules.length : Int)) ?_ (Eq.trans (by kernel_rfl) (Z30 (P := PP) (t := 22) (d := 43) (by kernel_rfl) ZF (shrO zO) b2.Rules))
   refine zq ?_
   exact zr ((bv ((b2.Rules.length : Int) == 0)), [(Zo b0 zB), (ZW b1), (Zo b2 zO), (ZM b3), (ZM b4)]) ⟨_, rfl⟩
  ·exact zr ((bv false), [(Zo b0 zB), (ZW b1), (Zo b2 zO), (ZM b3), (ZM b4)]) ⟨_, rfl⟩
 ·exact zk (Zdi b0 b1 b2 b3 zB zO)
def Z5j (b0 : ZD) (b1 : Zp) : Option (Bool) :=
 (ZbT b0 (ZX.mk (-1) (-1) (-1) (-1) ([b1] : List Zp) ([] : List Int))).bind fun r1 =>
 (Z4H b1.Pattern).bind fun r2 =>
 (Zau b0 b1.ID).bind fun r3 =>
 if (!r3.2) = true then
 (if ((b0.Rules.length : Int) == 16) = true then
 (Z5k r1.2)
 else
 (Z35 b1 r1.1 r1.2 r2))
 else
 (Z35 b1 r1.1 r1.2 r2)
theorem ZdI b0 b1 zB : Sim (Z2l) (Z5j b0 b1) (ZAr 0 (.ptr 0 0) (.ptr 1 0) [(Zo b0 zB), (ZW b1)]) := by
 unfold Z5j
 refine zf (ZDA ..)<|ze<|zq<|zq<|zq<|zq<|zi fun r1 hr1 => ?_
 obtain ⟨qr1, er1, exr1, rfl⟩ := Zou b0 (ZX.mk (-1) (-1) (-1) (-1) ([b1] : List Zp) ([] : List Int)) .sh .sh .sh r1 hr1
 refine zc [] (.p (.tup [(.agg (Z1h r1.1 .sh)), (.agg (Z1d r1.2))])) [(Zo b0 zB), (ZW b1)] er1<|zq<|zq<|zz (.ptr 2 0) [(Zo b0 zB), (ZW b1), (Zo (ZD.mk 0 0 0 0 ([] : List Zp)) .nl)]<|zz (.ptr 3 0) [(Zo b0 zB), (ZW b1), (Zo (ZD.mk 0 0 0 0 ([] : List Zp)) .nl), (ZM (ZI.mk 0 0 0))]<|zt [(Zo b0 zB), (ZW b1), (Zo r1.1 .sh), (ZM (ZI.mk 0 0 0))]<|zt [(Zo b0 zB), (ZW b1), (Zo r1.1 .sh), (ZM r1.2)]<|ze<|zq<|zq<|zi fun r2 hr2 => ?_
 obtain ⟨qr2, er2, exr2, rfl⟩ := ZbV b1.Pattern r2 hr2
 refine zc [] (.p (.agg (Z1d r2))) [(Zo b0 zB), (ZW b1), (Zo r1.1 .sh), (ZM r1.2)] er2<|zz (.ptr 4 0) [(Zo b0 zB), (ZW b1), (Zo r1.1 .sh), (ZM r1.2), (ZM (ZI.mk 0 0 0))]<|zt [(Zo b0 zB), (ZW b1), (Zo r1.1 .sh), (ZM r1.2), (ZM r2)]<|ze<|zq<|zq<|zq<|zi fun r3 hr3 => ?_
 obtain ⟨qr3, er3, exr3, rfl⟩ := ZhL b0 b1.ID .sh r3 hr3
 refine zc [] (.p (.tup [(.agg (Z1r r3.1)), (.v (.bool r3.2))])) [(Zo b0 zB), (ZW b1), (Zo r1.1 .sh), (ZM r1.2), (ZM r2)] er3<|zq<|zq<|zz (.ptr 5 0) [(Zo b0 zB), (ZW b1), (Zo r1.1 .sh), (ZM r1.2), (ZM r2), (ZW (Zp.mk 0 0 0 0 (ByteArray.mk #[])))]<|zt [(Zo b0 zB), (ZW b1), (Zo r1.1 .sh), (ZM r1.2), (ZM r2), (ZW r3.1)]<|ze<|zq ?_
 refine za (!r3.2) ?_ ?_
 ·refine zq<|zq ?_
  refine zo (iv (b0.Rules.length : Int)) ?_ (Eq.trans (by kernel_rfl) (Z30 (P := PP) (t := 22) (d := 43) (by kernel_rfl) ZF (shrO zB) b0.Rules))
  refine zq ?_
  refine za ((b0.Rules.length : Int) == 16) ?_ ?_
  ·exact zk (ZdJ b0 b1 r1.1 r1.2 zB .sh)
  ·exact zk (Z8J b0 b1 r1.1 r1.2 r2 zB .sh)
 ·exact zk (Z8J b0 b1 r1.1 r1.2 r2 zB .sh)
def Z5i (b0 : ZD) (b1 : Zp) : Option (Bool) :=
 (Z8K b0 (ZX.mk 0 0 0 0 ([b1] : List Zp) ([] : List Int))).bind fun r1 =>
 if (!r1) = true then
 (Z3y)
 else
 ((Z7A b0).bind fun r2 =>
 if (r2.Code != 0) = true then
 (Z3y)
 else
 ((Z7H b1).bind fun r3 =>
 if (!r3) = true then
 (Z3y)
 else
 (Z5j b0 b1)))
theorem ZdH b0 b1 zB : Sim (Z2l) (Z5i b0 b1) (ZAq 0 (.ptr 0 0) (.ptr 1 0) [(Zo b0 zB), (ZW b1)]) := by
 unfold Z5i
 refine zf (ZDy ..)<|ze<|zq<|zq<|zq<|zq<|zi fun r1 hr1 => ?_
 obtain ⟨qr1, er1, exr1, rfl⟩ := Zjy b0 (ZX.mk 0 0 0 0 ([b1] : List Zp) ([] : List Int)) .sh .sh .sh r1 hr1
 refine zc [] (bv r1) [(Zo b0 zB), (ZW b1)] er1<|zq ?_
 refine za (!r1) ?_ ?_
 ·exact zk (Z6f )
 ·refine zq<|zi fun r2 hr2 => ?_
  obtain ⟨qr2, er2, exr2, rfl⟩ := Zav b0 .sh r2 hr2
  refine zc [] (.p (.agg (Z1d r2))) [(Zo b0 zB), (ZW b1)] er2<|zq<|zq ?_
  refine za (r2.Code != 0) ?_ ?_
  ·exact zk (Z6f )
  ·refine zq<|zi fun r3 hr3 => ?_
   obtain ⟨qr3, er3, exr3, rfl⟩ := ZbS b1 r3 hr3
   refine zc [] (bv r3) [(Zo b0 zB), (ZW b1)] er3<|zq ?_
   refine za (!r3) ?_ ?_
   ·exact zk (Z6f )
   ·exact zk (ZdI b0 b1 zB)
def Z6i (x0 : ZD) (x1 : Zp) : Option (Bool) :=
 (Z8h).bind fun r1 =>
 if (!r1) = true then
 (some (false))
 else
 (Z5i x0 x1)
theorem Zfq x0 x1 zZ : Sim (Z2l) (Z6i x0 x1) (EE 7 [(.p (.agg (Z1h x0 zZ))), (.p (.agg (Z1r x1)))] []) := by
 unfold Z6i
 refine zf (ZI4 ..)<|ze<|zx (.ptr 0 0) [(Zo x0 zZ)]<|zx (.ptr 1 0) [(Zo x0 zZ), (ZW x1)]<|ze<|zi fun r1 hr1 => ?_
 obtain ⟨qr1, er1, exr1, rfl⟩ := ZiA  r1 hr1
 refine zc [] (bv r1) [(Zo x0 zZ), (ZW x1)] er1<|zq ?_
 refine za (!r1) ?_ ?_
 ·refine ze ?_
  exact zr ((bv false), [(Zo x0 zZ), (ZW x1)]) ⟨_, rfl⟩
 ·exact zk (ZdH x0 x1 zZ)
theorem ZfM (x0 : ZD) (x1 : Zp) {r} (h : Z6i x0 x1 = some r) : Z8u x0 x1 = some r :=
 Z1f (fun _ _ ha hb => RRun.uniq Zgc (ha .ex) (hb .ex)) (fun zZ => Zfq x0 x1 zZ r h)
def Z8c  : Option (Bool) :=
 (ZcK).bind fun r1 =>
 (Z4H (ByteArray.mk #[97, 42, 42])).bind fun r2 =>
 if ((r2.Code == 23) && ((r2.Rule == 0) && ((r2.At == 2) && true))) = true then
 ((Z7A (ZD.mk r1.Default r1.Closed r1.Fuel r1.Stack ([(Zp.mk 3 0 0 1 (ByteArray.mk #[40])), (Zp.mk 7 0 0 1 (ByteArray.mk #[41]))] : List Zp))).bind fun r3 =>
 if ((r3.Code == 20) && ((r3.Rule == 3) && ((r3.At == 0) && true))) = true then
 ((ZcK).bind fun r4 =>
 (Z7A r4).bind fun r5 =>
 some ((r5.Code == 0) && ((r5.Rule == 0) && ((r5.At == 0) && true))))
 else
 (some (false)))
 else
 (some (false))
theorem Zia  : Sim (Z6v) (Z8c) (EE 14 [] []) := by
 unfold Z8c
 refine zf (ZGL ..)<|ze<|ze<|zi fun r1 hr1 => ?_
 obtain ⟨qr1, er1, exr1, rfl⟩ := Zkw  r1 hr1
 refine zc [] (.p (.agg (Z1h r1 .sh))) [] er1<|zz (.ptr 0 0) [(Zo (ZD.mk 0 0 0 0 ([] : List Zp)) .nl)]<|zt [(Zo r1 .sh)]<|ze<|zq<|zq<|zq<|zq<|zt [(Zo (ZD.mk r1.Default r1.Closed r1.Fuel r1.Stack ([(Zp.mk 3 0 0 1 (ByteArray.mk #[40])), (Zp.mk 7 0 0 1 (ByteArray.mk #[41]))] : List Zp)) .ex)]<|ze<|zi fun r2 hr2 => ?_
 obtain ⟨qr2, er2, exr2, rfl⟩ := ZbV (ByteArray.mk #[97, 42, 42]) r2 hr2
 refine zc [] (.p (.agg (Z1d r2))) [(Zo (ZD.mk r1.Default r1.Closed r1.Fuel r1.Stack ([(Zp.mk 3 0 0 1 (ByteArray.mk #[40])), (Zp.mk 7 0 0 1 (ByteArray.mk #[41]))] : List Zp)) .ex)] er2<|zq ?_
 refine zo (bv ((r2.Code == 23) && ((r2.Rule == 0) && ((r2.At == 2) && true)))) ?_ (Eq.trans (b := xbin PP .eql 32 (.p (.agg (Z1d r2))) (.p (.agg (Z1d (ZI.mk 23 0 2))))) (by kernel_rfl) (ZmA (by kernel_rfl) (by kernel_rfl) (by kernel_rfl) (by kernel_rfl) (by kernel_rfl)))
 refine za ((r2.Code == 23) && ((r2.Rule == 0) && ((r2.At == 2) && true))) ?_ ?_
 ·refine zq<|zi fun r3 hr3 => ?_
  obtain ⟨qr3, er3, exr3, rfl⟩ := Zav (ZD.mk r1.Default r1.Closed r1.Fuel r1.Stack ([(Zp.mk 3 0 0 1 (ByteArray.mk #[40])), (Zp.mk 7 0 0 1 (ByteArray.mk #[41]))] : List Zp)) .sh r3 hr3
  refine zc [] (.p (.agg (Z1d r3))) [(Zo (ZD.mk r1.Default r1.Closed r1.Fuel r1.Stack ([(Zp.mk 3 0 0 1 (ByteArray.mk #[40])), (Zp.mk 7 0 0 1 (ByteArray.mk #[41]))] : List Zp)) .ex)] er3<|zq ?_
  refine zo (bv ((r3.Code == 20) && ((r3.Rule == 3) && ((r3.At == 0) && true)))) ?_ (Eq.trans (b := xbin PP .eql 32 (.p (.agg (Z1d r3))) (.p (.agg (Z1d (ZI.mk 20 3 0))))) (by kernel_rfl) (ZmA (by kernel_rfl) (by kernel_rfl) (by kernel_rfl) (by kernel_rfl) (by kernel_rfl)))
  refine za ((r3.Code == 20) && ((r3.Rule == 3) && ((r3.At == 0) && true))) ?_ ?_
  ·refine zi fun r4 hr4 => ?_
   obtain ⟨qr4, er4, exr4, rfl⟩ := Zkw  r4 hr4
   refine zc [] (.p (.agg (Z1h r4 .sh))) [(Zo (ZD.mk r1.Default r1.Closed r1.Fuel r1.Stack ([(Zp.mk 3 0 0 1 (ByteArray.mk #[40])), (Zp.mk 7 0 0 1 (ByteArray.mk #[41]))] : List Zp)) .ex)] er4<|zi fun r5 hr5 => ?_
   obtain ⟨qr5, er5, exr5, rfl⟩ := Zav r4 .sh r5 hr5
   refine zc [] (.p (.agg (Z1d r5))) [(Zo (ZD.mk r1.Default r1.Closed r1.Fuel r1.Stack ([(Zp.mk 3 0 0 1 (ByteArray.mk #[40])), (Zp.mk 7 0 0 1 (ByteArray.mk #[41]))] : List Zp)) .ex)] er5<|zq ?_
   refine zo (bv ((r5.Code == 0) && ((r5.Rule == 0) && ((r5.At == 0) && true)))) ?_ (Eq.trans (b := xbin PP .eql 32 (.p (.agg (Z1d r5))) (.p (.agg (Z1d (ZI.mk 0 0 0))))) (by kernel_rfl) (ZmA (by kernel_rfl) (by kernel_rfl) (by kernel_rfl) (by kernel_rfl) (by kernel_rfl)))
   exact zr ((bv ((r5.Code == 0) && ((r5.Rule == 0) && ((r5.At == 0) && true)))), [(Zo (ZD.mk r1.Default r1.Closed r1.Fuel r1.Stack ([(Zp.mk 3 0 0 1 (ByteArray.mk #[40])), (Zp.mk 7 0 0 1 (ByteArray.mk #[41]))] : List Zp)) .ex)]) ⟨_, rfl⟩
  ·exact zr ((bv false), [(Zo (ZD.mk r1.Default r1.Closed r1.Fuel r1.Stack ([(Zp.mk 3 0 0 1 (ByteArray.mk #[40])), (Zp.mk 7 0 0 1 (ByteArray.mk #[41]))] : List Zp)) .ex)]) ⟨_, rfl⟩
 ·exact zr ((bv false), [(Zo (ZD.mk r1.Default r1.Closed r1.Fuel r1.Stack ([(Zp.mk 3 0 0 1 (ByteArray.mk #[40])), (Zp.mk 7 0 0 1 (ByteArray.mk #[41]))] : List Zp)) .ex)]) ⟨_, rfl⟩
theorem Ziz  {r} (h : Z8c = some r) : Z8h = some r :=
 Z1f (fun _ _ ha hb => RRun.uniq Zjl (ha ) (hb )) (Zia  r h)
def Zjn  : Option (ZD) :=
 some (ZD.mk 0 255 10000 500 ([] : List Zp))
theorem ZqY  : Sim (Zcu) (Zjn) (EE 43 [] []) := by
 unfold Zjn
 refine zf (ZH9 ..)<|ze<|zz (.ptr 0 0) [(Zo (ZD.mk 0 0 0 0 ([] : List Zp)) .nl)]<|ze<|zq<|zt [(Zo (ZD.mk 0 255 10000 500 ([] : List Zp)) .nl)] ?_
 exact zr ((.p (.agg (Z1h (ZD.mk 0 255 10000 500 ([] : List Zp)) .sh))), [(Zo (ZD.mk 0 255 10000 500 ([] : List Zp)) .nl)]) ⟨_, rfl⟩
theorem Zs7  {r} (h : Zjn = some r) : ZcK = some r :=
 Z1f (fun _ _ ha hb => RRun.uniq ZsF (ha ) (hb )) (ZqY  r h)
def Z9a (b1 : ZY) : Option (ZI) :=
 (ZeG b1).bind fun r1 =>
 some (ZI.mk r1 0 0)
theorem ZjN b0 b1 zcV zc7 : Sim (Z7D) (Z9a b1) (ZvM 0 (.ptr 0 0) (.ptr 1 0) [(ZM b0), (Z10 b1 zcV zc7)]) := by
 unfold Z9a
 refine zf (ZBB ..)<|ze<|zq<|zi fun r1 hr1 => ?_
 obtain ⟨qr1, er1, exr1, rfl⟩ := Zr2 b1 .sh .sh r1 hr1
 refine zc [] (iv r1) [(ZM b0), (Z10 b1 zcV zc7)] er1<|zq<|zt [(ZM (ZI.mk r1 0 0)), (Z10 b1 zcV zc7)] ?_
 exact zr ((.p (.agg (Z1d (ZI.mk r1 0 0)))), [(ZM (ZI.mk r1 0 0)), (Z10 b1 zcV zc7)]) ⟨_, rfl⟩
def Z7F (x0 : ByteArray) : Option (ZI) :=
 (ZeD x0).bind fun r1 =>
 if (r1.2.Code != 0) = true then
 (some (ZI.mk r1.2.Code 0 r1.2.At))
 else
 (Z9a r1.1)
theorem Zmh x0 : Sim (Z7D) (Z7F x0) (EE 21 [(.p (.v (.string x0)))] []) := by
 unfold Z7F
 refine zf (ZGW ..)<|ze<|zz (.ptr 0 0) [(ZM (ZI.mk 0 0 0))]<|ze<|zi fun r1 hr1 => ?_
 obtain ⟨qr1, er1, exr1, rfl⟩ := ZqU x0 r1 hr1
 refine zc [] (.p (.tup [(.agg (Z3b r1.1 .sh .sh)), (.agg (Z5e r1.2))])) [(ZM (ZI.mk 0 0 0))] er1<|zq<|zq<|zz (.ptr 1 0) [(ZM (ZI.mk 0 0 0)), (Z10 (ZY.mk (Z7.mk 0 0 0 0 0 ([] : List Zc) ([] : List Z7)) 0 false) .nl .nl)]<|zz (.ptr 2 0) [(ZM (ZI.mk 0 0 0)), (Z10 (ZY.mk (Z7.mk 0 0 0 0 0 ([] : List Zc) ([] : List Z7)) 0 false) .nl .nl), (Z1E (Zl.mk 0 0))]<|zt [(ZM (ZI.mk 0 0 0)), (Z10 r1.1 .sh .sh), (Z1E (Zl.mk 0 0))]<|zt [(ZM (ZI.mk 0 0 0)), (Z10 r1.1 .sh .sh), (Z1E r1.2)]<|ze<|zq<|zq<|zq ?_
 refine za (r1.2.Code != 0) ?_ ?_
 ·refine ze<|zq<|zq<|zq<|zq<|zq<|zt [(ZM (ZI.mk r1.2.Code 0 r1.2.At)), (Z10 r1.1 .sh .sh), (Z1E r1.2)] ?_
  exact zr ((.p (.agg (Z1d (ZI.mk r1.2.Code 0 r1.2.At)))), [(ZM (ZI.mk r1.2.Code 0 r1.2.At)), (Z10 r1.1 .sh .sh), (Z1E r1.2)]) ⟨_, rfl⟩
 ·exact zk (ZjN (ZI.mk 0 0 0) r1.1 .sh .sh)
theorem ZbU (x0 : ByteArray) {r} (h : Z7F x0 = some r) : Z4H x0 = some r :=
 Z1f (fun _ _ ha hb => RRun.uniq Zog (ha ) (hb )) (Zmh x0 r h)
def Z4X (z34 : List Int) (z1i : Int) (z20 : List Zz) (z14 z1l z18 z1o z1n z19 z1a : Int) (z1b : List Zc) (z17 : List Z7) (z1H : Bool) : Option (ZY × Zl) :=
 Z83 z20 (z20.length : Int) 0 z34 z1i z14 z1l z18 z1o z1n z19 z1a z1b z17 z1H
theorem ZbQ b0 b1 z34 z2U z1i z2B z20 z14 z1l z18 z1o z1n z19 z1a z1b z17 z2p z1H z1s z1k z3D z1L z1B z1z (z2y : ZR z1s = true) (z2j : ZR z1k = true) (z3T : ZR z1L = true) : Sim (Z3E) (Z4X z34 z1i z20 z14 z1l z18 z1o z1n z19 z1a z1b z17 z1H) (ZoC 0 (.ptr 0 0) (.ptr 1 0) (.ptr 2 0) (.ptr 3 0) [(Z10 b0 z1s z1k), (Z1E b1), (Zk (Zm.mk z34 z2U z1i z2B z20 (Zl.mk z14 z1l)) z3D z1L), (Z10 (ZY.mk (Z7.mk z18 z1o z1n z19 z1a z1b z17) z2p z1H) z1B z1z)]) := by
 unfold Z4X
 refine zf (ZBQ ..)<|ze<|zq<|zq<|zq ?_
 refine zo (iv (z20.length : Int)) ?_ (Eq.trans (by kernel_rfl) (Z30 (P := PP) (t := 142) (d := 149) (by kernel_rfl) Z2P (shrO z1L) z20))
 exact zk (Zgk z20 (z20.length : Int) 0 b0 b1 z34 z2U z1i z2B z20 z14 z1l z18 z1o z1n z19 z1a z1b z17 z2p z1H (shrO z1L) z1s z1k z3D z1L z1B z1z z2y z2j z3T)
def Z9l (z34 : List Int) (z2U z1i : Int) (z20 : List Zz) (z14 z1l z18 z1o z1n z19 z1a : Int) (z1b : List Zc) (z17 : List Z7) (z1H : Bool) : Option (ZY × Zl) :=
 (Z1m 20 z2U z34 z14 z1l).bind fun r1 =>
 Z4X z34 z1i z20 r1.2.1 r1.2.2 z18 z1o z1n z19 z1a z1b z17 z1H
theorem Zn0 b0 b1 z34 z2U z1i z2B z20 z14 z1l z18 z1o z1n z19 z1a z1b z17 z2p z1H z1s z1k z3D z1L z1B z1z (z2y : ZR z1s = true) (z2j : ZR z1k = true) (z3T : ZR z1L = true) : Sim (Z3E) (Z9l z34 z2U z1i z20 z14 z1l z18 z1o z1n z19 z1a z1b z17 z1H) (ZvZ 0 (.ptr 0 0) (.ptr 1 0) (.ptr 2 0) (.ptr 3 0) [(Z10 b0 z1s z1k), (Z1E b1), (Zk (Zm.mk z34 z2U z1i z2B z20 (Zl.mk z14 z1l)) z3D z1L), (Z10 (ZY.mk (Z7.mk z18 z1o z1n z19 z1a z1b z17) z2p z1H) z1B z1z)]) := by
 unfold Z9l
 refine zf (ZBP ..)<|ze<|zq<|zq<|zq<|zi fun r1 hr1 => ?_
 obtain ⟨qr1, er1, exr1, rfl⟩ := Z1p 20 z2U z34 z2U z1i z2B z20 z14 z1l z3D z1L z3T r1 hr1
 refine zc [2] (.p (.tup [])) [(Z10 b0 z1s z1k), (Z1E b1), (Zk (Zm.mk z34 r1.1 z1i z2B z20 (Zl.mk r1.2.1 r1.2.2)) z3D z1L), (Z10 (ZY.mk (Z7.mk z18 z1o z1n z19 z1a z1b z17) z2p z1H) z1B z1z)] er1 ?_
 exact zk (ZbQ b0 b1 z34 r1.1 z1i z2B z20 r1.2.1 r1.2.2 z18 z1o z1n z19 z1a z1b z17 z2p z1H z1s z1k z3D z1L z1B z1z z2y z2j z3T)
def Zbw (x0 : ByteArray) : Option (ZY × Zl) :=
 (Z1J (ByteArray.mk #[40, 63, 105, 41]) (Z4q x0) 0).bind fun r1 =>
 (Z4r (Z4q x0) r1.2 0 0 ([] : List Zz) 0 0).bind fun r2 =>
 if (r2.2.2.2.2.2.1 == 0) = true then
 (if (decide (r2.2.1 < ((Z4q x0).length : Int))) = true then
 (Z9l (Z4q x0) r2.2.1 r2.2.2.1 r2.2.2.2.2.1 r2.2.2.2.2.2.1 r2.2.2.2.2.2.2 r2.1.Kind r2.1.Lo r2.1.Hi r2.1.Mode r2.1.Ref r2.1.Set r2.1.Kids r1.1)
 else
 (Z4X (Z4q x0) r2.2.2.1 r2.2.2.2.2.1 r2.2.2.2.2.2.1 r2.2.2.2.2.2.2 r2.1.Kind r2.1.Lo r2.1.Hi r2.1.Mode r2.1.Ref r2.1.Set r2.1.Kids r1.1))
 else
 (Z4X (Z4q x0) r2.2.2.1 r2.2.2.2.2.1 r2.2.2.2.2.2.1 r2.2.2.2.2.2.2 r2.1.Kind r2.1.Lo r2.1.Hi r2.1.Mode r2.1.Ref r2.1.Set r2.1.Kids r1.1)
theorem ZmZ x0 b0 b1 z1s z1k (z2y : ZR z1s = true) (z2j : ZR z1k = true) : Sim (Z3E) (Zbw x0) (ZvY 0 (.p (.v (.string x0))) (.ptr 0 0) (.ptr 1 0) [(Z10 b0 z1s z1k), (Z1E b1)]) := by
 unfold Zbw
 refine zf (ZBO ..)<|ze ?_
 refine zo (.p (.lst .sh ((Z4q x0).map (eI .u8)))) ?_ (Eq.trans (by kernel_rfl) (ZEi (P := PP) (s := 9) (d := 141) (by kernel_rfl) (by kernel_rfl) x0))
 refine zq<|zx (.ptr 2 0) [(Z10 b0 z1s z1k), (Z1E b1), (Zk (Zm.mk (Z4q x0) 0 0 0 ([] : List Zz) (Zl.mk 0 0)) .sh .nl)]<|ze<|zi fun r1 hr1 => ?_
 obtain ⟨qr1, er1, exr1, rfl⟩ := Z1S (ByteArray.mk #[40, 63, 105, 41]) (Z4q x0) 0 0 0 ([] : List Zz) 0 0 .sh .nl rfl r1 hr1
 refine zc [2] (bv r1.1) [(Z10 b0 z1s z1k), (Z1E b1), (Zk (Zm.mk (Z4q x0) r1.2 0 0 ([] : List Zz) (Zl.mk 0 0)) .sh .nl)] er1<|zq<|zz (.ptr 3 0) [(Z10 b0 z1s z1k), (Z1E b1), (Zk (Zm.mk (Z4q x0) r1.2 0 0 ([] : List Zz) (Zl.mk 0 0)) .sh .nl), (Z10 (ZY.mk (Z7.mk 0 0 0 0 0 ([] : List Zc) ([] : List Z7)) 0 false) .nl .nl)]<|zt [(Z10 b0 z1s z1k), (Z1E b1), (Zk (Zm.mk (Z4q x0) r1.2 0 0 ([] : List Zz) (Zl.mk 0 0)) .sh .nl), (Z10 (ZY.mk (Z7.mk 0 0 0 0 0 ([] : List Zc) ([] : List Z7)) 0 r1.1) .nl .nl)]<|ze<|zi fun r2 hr2 => ?_
 obtain ⟨qr2, er2, or2_0_4, exr2, hor2_0_4, rfl⟩ := Zfe (Z4q x0) r1.2 0 0 ([] : List Zz) 0 0 .sh .nl rfl r2 hr2
 refine zc [2] (.p (.agg (ZJ r2.1 .sh .sh))) [(Z10 b0 z1s z1k), (Z1E b1), (Zk (Zm.mk (Z4q x0) r2.2.1 r2.2.2.1 r2.2.2.2.1 r2.2.2.2.2.1 (Zl.mk r2.2.2.2.2.2.1 r2.2.2.2.2.2.2)) .sh or2_0_4), (Z10 (ZY.mk (Z7.mk 0 0 0 0 0 ([] : List Zc) ([] : List Z7)) 0 r1.1) .nl .nl)] er2<|zq<|zt [(Z10 b0 z1s z1k), (Z1E b1), (Zk (Zm.mk (Z4q x0) r2.2.1 r2.2.2.1 r2.2.2.2.1 r2.2.2.2.2.1 (Zl.mk r2.2.2.2.2.2.1 r2.2.2.2.2.2.2)) .sh or2_0_4), (Z10 (ZY.mk (Z7.mk r2.1.Kind r2.1.Lo r2.1.Hi r2.1.Mode r2.1.Ref r2.1.Set r2.1.Kids) 0 r1.1) .sh .sh)]<|ze<|zq<|zq<|zq<|zq<|zq ?_
 refine za (r2.2.2.2.2.2.1 == 0) ?_ ?_
 ·refine zq<|zq<|zq<|zq<|zq<|zq ?_
  refine zo (iv ((Z4q x0).length : Int)) ?_ (Eq.trans (by kernel_rfl) (Z30 (P := PP) (t := 141) (d := 5) (by kernel_rfl) (eI .u8) .sh (Z4q x0)))
  refine zq ?_
  refine za (decide (r2.2.1 < ((Z4q x0).length : Int))) ?_ ?_
  ·exact zk (Zn0 b0 b1 (Z4q x0) r2.2.1 r2.2.2.1 r2.2.2.2.1 r2.2.2.2.2.1 r2.2.2.2.2.2.1 r2.2.2.2.2.2.2 r2.1.Kind r2.1.Lo r2.1.Hi r2.1.Mode r2.1.Ref r2.1.Set r2.1.Kids 0 r1.1 z1s z1k .sh or2_0_4 .sh .sh z2y z2j hor2_0_4)
  ·exact zk (ZbQ b0 b1 (Z4q x0) r2.2.1 r2.2.2.1 r2.2.2.2.1 r2.2.2.2.2.1 r2.2.2.2.2.2.1 r2.2.2.2.2.2.2 r2.1.Kind r2.1.Lo r2.1.Hi r2.1.Mode r2.1.Ref r2.1.Set r2.1.Kids 0 r1.1 z1s z1k .sh or2_0_4 .sh .sh z2y z2j hor2_0_4)
 ·exact zk (ZbQ b0 b1 (Z4q x0) r2.2.1 r2.2.2.1 r2.2.2.2.1 r2.2.2.2.2.1 r2.2.2.2.2.2.1 r2.2.2.2.2.2.2 r2.1.Kind r2.1.Lo r2.1.Hi r2.1.Mode r2.1.Ref r2.1.Set r2.1.Kids 0 r1.1 z1s z1k .sh or2_0_4 .sh .sh z2y z2j hor2_0_4)
def Zey (x0 : ByteArray) : Option (ZY × Zl) :=
 if (decide (256 < (x0.size : Int))) = true then
 (some ((ZY.mk (Z7.mk 0 0 0 0 0 ([] : List Zc) ([] : List Z7)) 0 false), (Zl.mk 12 0)))
 else
 (Zbw x0)
theorem Zq0 x0 : Sim (Z3E) (Zey x0) (EE 47 [(.p (.v (.string x0)))] []) := by
 unfold Zey
 refine zf (ZHb ..)<|ze<|zz (.ptr 0 0) [(Z10 (ZY.mk (Z7.mk 0 0 0 0 0 ([] : List Zc) ([] : List Z7)) 0 false) .nl .nl)]<|zz (.ptr 1 0) [(Z10 (ZY.mk (Z7.mk 0 0 0 0 0 ([] : List Zc) ([] : List Z7)) 0 false) .nl .nl), (Z1E (Zl.mk 0 0))]<|ze<|zq<|zq ?_
 refine za (decide (256 < (x0.size : Int))) ?_ ?_
 ·refine ze<|zq<|zq<|zt [(Z10 (ZY.mk (Z7.mk 0 0 0 0 0 ([] : List Zc) ([] : List Z7)) 0 false) .nl .nl), (Z1E (Zl.mk 0 0))]<|zt [(Z10 (ZY.mk (Z7.mk 0 0 0 0 0 ([] : List Zc) ([] : List Z7)) 0 false) .nl .nl), (Z1E (Zl.mk 12 0))] ?_
  exact zr ((.p (.tup [(.agg (Z3b (ZY.mk (Z7.mk 0 0 0 0 0 ([] : List Zc) ([] : List Z7)) 0 false) .sh .sh)), (.agg (Z5e (Zl.mk 12 0)))])), [(Z10 (ZY.mk (Z7.mk 0 0 0 0 0 ([] : List Zc) ([] : List Z7)) 0 false) .nl .nl), (Z1E (Zl.mk 12 0))]) ⟨_, rfl⟩
 ·exact zk (ZmZ x0 (ZY.mk (Z7.mk 0 0 0 0 0 ([] : List Zc) ([] : List Z7)) 0 false) (Zl.mk 0 0) .nl .nl rfl rfl)
theorem ZqT (x0 : ByteArray) {r} (h : Zey x0 = some r) : ZeD x0 = some r :=
 Z1f (fun _ _ ha hb => RRun.uniq Zkp (ha ) (hb )) (Zq0 x0 r h)
def Z5f (x50 : List Zz) (x51 x52 : Int) (z34 : List Int) (z1i z14 z1l z18 z1o z1n z19 z1a : Int) (z1b : List Zc) (z17 : List Z7) (z1H : Bool) : Option (ZY × Zl) :=
 Z83 x50 x51 (IntKind.i64.wrap (x52 + 1)) z34 z1i z14 z1l z18 z1o z1n z19 z1a z1b z17 z1H
theorem Zfc (x50 : List Zz) x51 x52 b0 b1 z34 z2U z1i z2B z20 z14 z1l z18 z1o z1n z19 z1a z1b z17 z2p z1H ox50 z1s z1k z3D z1L z1B z1z (z2y : ZR z1s = true) (z2j : ZR z1k = true) (z3T : ZR z1L = true) : Sim (Z3E) (Z5f x50 x51 x52 z34 z1i z14 z1l z18 z1o z1n z19 z1a z1b z17 z1H) (ZpH 0 (.ptr 0 0) (.ptr 1 0) (.ptr 2 0) (.ptr 3 0) (.p (.lst ox50 (x50.map Z2P))) (iv x51) (iv x52) [(Z10 b0 z1s z1k), (Z1E b1), (Zk (Zm.mk z34 z2U z1i z2B z20 (Zl.mk z14 z1l)) z3D z1L), (Z10 (ZY.mk (Z7.mk z18 z1o z1n z19 z1a z1b z17) z2p z1H) z1B z1z)]) := by
 unfold Z5f
 refine zf (ZAl ..)<|ze<|zq ?_
 exact zk (Zgk x50 x51 (IntKind.i64.wrap (x52 + 1)) b0 b1 z34 z2U z1i z2B z20 z14 z1l z18 z1o z1n z19 z1a z1b z17 z2p z1H ox50 z1s z1k z3D z1L z1B z1z z2y z2j z3T)
def Z8X (x50 : List Zz) (x51 x52 : Int) (z34 : List Int) (z1i z14 z1l z18 z1o z1n z19 z1a : Int) (z1b : List Zc) (z17 : List Z7) (z1H : Bool) : Option (ZY × Zl) :=
 (lget x50 x52).bind fun a1 =>
 if (decide (z1i < a1.group)) = true then
 ((Z1m 26 a1.at_ z34 z14 z1l).bind fun r2 =>
 Z5f x50 x51 x52 z34 z1i r2.2.1 r2.2.2 z18 z1o z1n z19 z1a z1b z17 z1H)
 else
 (Z5f x50 x51 x52 z34 z1i z14 z1l z18 z1o z1n z19 z1a z1b z17 z1H)
theorem ZlW (x50 : List Zz) x51 x52 b0 b1 z34 z2U z1i z2B z20 z14 z1l z18 z1o z1n z19 z1a z1b z17 z2p z1H ox50 z1s z1k z3D z1L z1B z1z (z2y : ZR z1s = true) (z2j : ZR z1k = true) (z3T : ZR z1L = true) : Sim (Z3E) (Z8X x50 x51 x52 z34 z1i z14 z1l z18 z1o z1n z19 z1a z1b z17 z1H) (Zua 0 (.ptr 0 0) (.ptr 1 0) (.ptr 2 0) (.ptr 3 0) (.p (.lst ox50 (x50.map Z2P))) (iv x51) (iv x52) [(Z10 b0 z1s z1k), (Z1E b1), (Zk (Zm.mk z34 z2U z1i z2B z20 (Zl.mk z14 z1l)) z3D z1L), (Z10 (ZY.mk (Z7.mk z18 z1o z1n z19 z1a z1b z17) z2p z1H) z1B z1z)]) := by
 unfold Z8X
 refine zf (ZAk ..)<|ze<|zi fun a1 ha1 => ?_
 refine zo (.cptr (Zf1 a1)) ?_ (Eq.trans (by kernel_rfl) (Z3X (o := ox50) (k := .i64) (n := 2) (e := Z2P) (cs := ZbO) (fun _ => rfl) (fun _ => rfl) (by decide) ha1))
 refine zq<|zz (.ptr 4 0) [(Z10 b0 z1s z1k), (Z1E b1), (Zk (Zm.mk z34 z2U z1i z2B z20 (Zl.mk z14 z1l)) z3D z1L), (Z10 (ZY.mk (Z7.mk z18 z1o z1n z19 z1a z1b z17) z2p z1H) z1B z1z), (Zf3 (Zz.mk 0 0))]<|zt [(Z10 b0 z1s z1k), (Z1E b1), (Zk (Zm.mk z34 z2U z1i z2B z20 (Zl.mk z14 z1l)) z3D z1L), (Z10 (ZY.mk (Z7.mk z18 z1o z1n z19 z1a z1b z17) z2p z1H) z1B z1z), (Zf3 a1)]<|ze<|zq<|zq<|zq<|zq<|zq<|zq ?_
 refine za (decide (z1i < a1.group)) ?_ ?_
 ·refine ze<|zq<|zq<|zi fun r2 hr2 => ?_
  obtain ⟨qr2, er2, exr2, rfl⟩ := Z1p 26 a1.at_ z34 z2U z1i z2B z20 z14 z1l z3D z1L z3T r2 hr2
  refine zc [2] (.p (.tup [])) [(Z10 b0 z1s z1k), (Z1E b1), (Zk (Zm.mk z34 r2.1 z1i z2B z20 (Zl.mk r2.2.1 r2.2.2)) z3D z1L), (Z10 (ZY.mk (Z7.mk z18 z1o z1n z19 z1a z1b z17) z2p z1H) z1B z1z), (Zf3 a1)] er2 ?_
  exact zk (Zfc x50 x51 x52 b0 b1 z34 r2.1 z1i z2B z20 r2.2.1 r2.2.2 z18 z1o z1n z19 z1a z1b z17 z2p z1H ox50 z1s z1k z3D z1L z1B z1z z2y z2j z3T)
 ·exact zk (Zfc x50 x51 x52 b0 b1 z34 z2U z1i z2B z20 z14 z1l z18 z1o z1n z19 z1a z1b z17 z2p z1H ox50 z1s z1k z3D z1L z1B z1z z2y z2j z3T)
def ZdF (z1i z18 z1o z1n z19 z1a : Int) (z1b : List Zc) (z17 : List Z7) (z1H : Bool) : Option (ZY × Zl) :=
 some ((ZY.mk (Z7.mk z18 z1o z1n z19 z1a z1b z17) z1i z1H), (Zl.mk 0 0))
theorem ZlY b0 b1 z34 z2U z1i z2B z20 z14 z1l z18 z1o z1n z19 z1a z1b z17 z2p z1H z1s z1k z3D z1L z1B z1z (z2y : ZR z1s = true) (z2j : ZR z1k = true) (z3T : ZR z1L = true) : Sim (Z3E) (ZdF z1i z18 z1o z1n z19 z1a z1b z17 z1H) (Zuc 0 (.ptr 0 0) (.ptr 1 0) (.ptr 2 0) (.ptr 3 0) [(Z10 b0 z1s z1k), (Z1E b1), (Zk (Zm.mk z34 z2U z1i z2B z20 (Zl.mk z14 z1l)) z3D z1L), (Z10 (ZY.mk (Z7.mk z18 z1o z1n z19 z1a z1b z17) z2p z1H) z1B z1z)]) := by
 unfold ZdF
 refine zf (ZAn ..)<|ze<|zq<|zq<|zq<|zq<|zt [(Z10 b0 z1s z1k), (Z1E b1), (Zk (Zm.mk z34 z2U z1i z2B z20 (Zl.mk z14 z1l)) z3D z1L), (Z10 (ZY.mk (Z7.mk z18 z1o z1n z19 z1a z1b z17) z1i z1H) z1B z1z)]<|ze<|zq<|zq<|zt [(Z10 (ZY.mk (Z7.mk z18 z1o z1n z19 z1a z1b z17) z1i z1H) (shrO z1B) (shrO z1z)), (Z1E b1), (Zk (Zm.mk z34 z2U z1i z2B z20 (Zl.mk z14 z1l)) z3D z1L), (Z10 (ZY.mk (Z7.mk z18 z1o z1n z19 z1a z1b z17) z1i z1H) z1B z1z)]<|zt [(Z10 (ZY.mk (Z7.mk z18 z1o z1n z19 z1a z1b z17) z1i z1H) (shrO z1B) (shrO z1z)), (Z1E (Zl.mk 0 0)), (Zk (Zm.mk z34 z2U z1i z2B z20 (Zl.mk z14 z1l)) z3D z1L), (Z10 (ZY.mk (Z7.mk z18 z1o z1n z19 z1a z1b z17) z1i z1H) z1B z1z)] ?_
 exact zr ((.p (.tup [(.agg (Z3b (ZY.mk (Z7.mk z18 z1o z1n z19 z1a z1b z17) z1i z1H) .sh .sh)), (.agg (Z5e (Zl.mk 0 0)))])), [(Z10 (ZY.mk (Z7.mk z18 z1o z1n z19 z1a z1b z17) z1i z1H) (shrO z1B) (shrO z1z)), (Z1E (Zl.mk 0 0)), (Zk (Zm.mk z34 z2U z1i z2B z20 (Zl.mk z14 z1l)) z3D z1L), (Z10 (ZY.mk (Z7.mk z18 z1o z1n z19 z1a z1b z17) z1i z1H) z1B z1z)]) ⟨_, rfl⟩
def Z8Y (z1i z14 z1l z18 z1o z1n z19 z1a : Int) (z1b : List Zc) (z17 : List Z7) (z1H : Bool) : Option (ZY × Zl) :=
 if (z14 != 0) = true then
 (some ((ZY.mk (Z7.mk 0 0 0 0 0 ([] : List Zc) ([] : List Z7)) 0 false), (Zl.mk z14 z1l)))
 else
 (ZdF z1i z18 z1o z1n z19 z1a z1b z17 z1H)
theorem ZlX b0 b1 z34 z2U z1i z2B z20 z14 z1l z18 z1o z1n z19 z1a z1b z17 z2p z1H z1s z1k z3D z1L z1B z1z (z2y : ZR z1s = true) (z2j : ZR z1k = true) (z3T : ZR z1L = true) : Sim (Z3E) (Z8Y z1i z14 z1l z18 z1o z1n z19 z1a z1b z17 z1H) (Zub 0 (.ptr 0 0) (.ptr 1 0) (.ptr 2 0) (.ptr 3 0) [(Z10 b0 z1s z1k), (Z1E b1), (Zk (Zm.mk z34 z2U z1i z2B z20 (Zl.mk z14 z1l)) z3D z1L), (Z10 (ZY.mk (Z7.mk z18 z1o z1n z19 z1a z1b z17) z2p z1H) z1B z1z)]) := by
 unfold Z8Y
 refine zf (ZAm ..)<|ze<|zq<|zq<|zq<|zq<|zq ?_
 refine za (z14 != 0) ?_ ?_
 ·refine ze<|zq<|zq<|zq<|zq<|zt [(Z10 (ZY.mk (Z7.mk 0 0 0 0 0 ([] : List Zc) ([] : List Z7)) 0 false) .nl .nl), (Z1E b1), (Zk (Zm.mk z34 z2U z1i z2B z20 (Zl.mk z14 z1l)) z3D z1L), (Z10 (ZY.mk (Z7.mk z18 z1o z1n z19 z1a z1b z17) z2p z1H) z1B z1z)]<|zt [(Z10 (ZY.mk (Z7.mk 0 0 0 0 0 ([] : List Zc) ([] : List Z7)) 0 false) .nl .nl), (Z1E (Zl.mk z14 z1l)), (Zk (Zm.mk z34 z2U z1i z2B z20 (Zl.mk z14 z1l)) z3D z1L), (Z10 (ZY.mk (Z7.mk z18 z1o z1n z19 z1a z1b z17) z2p z1H) z1B z1z)]<|zg ?_
  exact zr ((.p (.tup [(.agg (Z3b (ZY.mk (Z7.mk 0 0 0 0 0 ([] : List Zc) ([] : List Z7)) 0 false) .sh .sh)), (.agg (Z5e (Zl.mk z14 z1l)))])), [(Z10 (ZY.mk (Z7.mk 0 0 0 0 0 ([] : List Zc) ([] : List Z7)) 0 false) .nl .nl), (Z1E (Zl.mk z14 z1l)), (Zk (Zm.mk z34 z2U z1i z2B z20 (Zl.mk z14 z1l)) z3D z1L), (Z10 (ZY.mk (Z7.mk z18 z1o z1n z19 z1a z1b z17) z2p z1H) z1B z1z)]) ⟨_, rfl⟩
 ·exact zk (ZlY b0 b1 z34 z2U z1i z2B z20 z14 z1l z18 z1o z1n z19 z1a z1b z17 z2p z1H z1s z1k z3D z1L z1B z1z z2y z2j z3T)
def Z6J (x50 : List Zz) (x51 x52 : Int) (z34 : List Int) (z1i z14 z1l z18 z1o z1n z19 z1a : Int) (z1b : List Zc) (z17 : List Z7) (z1H : Bool) : Option (ZY × Zl) :=
 if (decide (x52 < x51)) = true then
 (Z8X x50 x51 x52 z34 z1i z14 z1l z18 z1o z1n z19 z1a z1b z17 z1H)
 else
 (Z8Y z1i z14 z1l z18 z1o z1n z19 z1a z1b z17 z1H)
theorem ZmY (x50 : List Zz) x51 x52 b0 b1 z34 z2U z1i z2B z20 z14 z1l z18 z1o z1n z19 z1a z1b z17 z2p z1H ox50 z1s z1k z3D z1L z1B z1z (z2y : ZR z1s = true) (z2j : ZR z1k = true) (z3T : ZR z1L = true) : Sim (Z3E) (Z6J x50 x51 x52 z34 z1i z14 z1l z18 z1o z1n z19 z1a z1b z17 z1H) (ZlL 0 (.ptr 0 0) (.ptr 1 0) (.ptr 2 0) (.ptr 3 0) (.p (.lst ox50 (x50.map Z2P))) (iv x51) (iv x52) [(Z10 b0 z1s z1k), (Z1E b1), (Zk (Zm.mk z34 z2U z1i z2B z20 (Zl.mk z14 z1l)) z3D z1L), (Z10 (ZY.mk (Z7.mk z18 z1o z1n z19 z1a z1b z17) z2p z1H) z1B z1z)]) := by
 unfold Z6J
 refine zf (ZBN ..)<|ze<|zq ?_
 refine za (decide (x52 < x51)) ?_ ?_
 ·exact zk (ZlW x50 x51 x52 b0 b1 z34 z2U z1i z2B z20 z14 z1l z18 z1o z1n z19 z1a z1b z17 z2p z1H ox50 z1s z1k z3D z1L z1B z1z z2y z2j z3T)
 ·exact zk (ZlX b0 b1 z34 z2U z1i z2B z20 z14 z1l z18 z1o z1n z19 z1a z1b z17 z2p z1H z1s z1k z3D z1L z1B z1z z2y z2j z3T)
theorem Z9Y (x50 : List Zz) (x51 x52 : Int) (z34 : List Int) (z1i z14 z1l z18 z1o z1n z19 z1a : Int) (z1b : List Zc) (z17 : List Z7) (z1H : Bool) {r} (h : Z6J x50 x51 x52 z34 z1i z14 z1l z18 z1o z1n z19 z1a z1b z17 z1H = some r) : Z83 x50 x51 x52 z34 z1i z14 z1l z18 z1o z1n z19 z1a z1b z17 z1H = some r :=
 Z1f (fun _ _ ha hb => RRun.uniq Zkp (ha default default default default default default .ex .ex .ex .ex .ex .ex .ex rfl rfl rfl) (hb default default default default default default .ex .ex .ex .ex .ex .ex .ex rfl rfl rfl)) (fun b0 b1 z2U z2B z20 z2p ox50 z1s z1k z3D z1L z1B z1z z2y z2j z3T => ZmY x50 x51 x52 b0 b1 z34 z2U z1i z2B z20 z14 z1l z18 z1o z1n z19 z1a z1b z17 z2p z1H ox50 z1s z1k z3D z1L z1B z1z z2y z2j z3T r h)
def Z8f (zy : Int) : Option (Bool × Int) :=
 some (false, zy)
theorem Zc5 zn zy zb zh zj z2 z6 zu zd (zC : ZR zd = true) : Sim (Z5g zn zb zh zj z2 z6 zu zd) (Z8f zy) (ZrP 1  [(Zk (Zm.mk zn zy zb zh zj (Zl.mk z2 z6)) zu zd)]) := by
 unfold Z8f
 refine zf (ZBT ..)<|ze ?_
 exact zr ((bv false), [(Zk (Zm.mk zn zy zb zh zj (Zl.mk z2 z6)) zu zd)]) ⟨_, rfl⟩
def Z8g (x1 : ByteArray) (zy : Int) : Option (Bool × Int) :=
 some (true, (IntKind.i64.wrap (zy + (x1.size : Int))))
theorem Zid x1 zn zy zb zh zj z2 z6 zu zd (zC : ZR zd = true) : Sim (Z5g zn zb zh zj z2 z6 zu zd) (Z8g x1 zy) (Zw2 1 (.ptr 0 0) (.p (.v (.string x1))) [(Zk (Zm.mk zn zy zb zh zj (Zl.mk z2 z6)) zu zd)]) := by
 unfold Z8g
 refine zf (ZBU ..)<|ze<|zq<|zq<|zq<|zq<|zq<|zq<|zq<|zt [(Zk (Zm.mk zn (IntKind.i64.wrap (zy + (x1.size : Int))) zb zh zj (Zl.mk z2 z6)) zu zd)]<|ze ?_
 exact zr ((bv true), [(Zk (Zm.mk zn (IntKind.i64.wrap (zy + (x1.size : Int))) zb zh zj (Zl.mk z2 z6)) zu zd)]) ⟨_, rfl⟩
def Z9N (x1 : ByteArray) (zn : List Int) (zy : Int) : Option (Bool × Int) :=
 if ((decide ((IntKind.i64.wrap ((zn.length : Int) - zy)) < (x1.size : Int)))) = true then
 (Z8f zy)
 else
 ((lsl zn zy (IntKind.i64.wrap (zy + (x1.size : Int)))).bind fun a1 =>
 if (!(seq (strI a1) x1)) = true then
 (Z8f zy)
 else
 (Z8g x1 zy))
theorem Zkd x1 zn zy zb zh zj z2 z6 zu zd (zC : ZR zd = true) : Sim (Z5g zn zb zh zj z2 z6 zu zd) (Z9N x1 zn zy) (EE 68 [(.ptr 0 0), (.p (.v (.string x1)))] [(Zk (Zm.mk zn zy zb zh zj (Zl.mk z2 z6)) zu zd)]) := by
 unfold Z9N
 refine zf (ZHk ..)<|ze<|ze<|zq<|zq<|zq ?_
 refine zo (iv (zn.length : Int)) ?_ (Eq.trans (by kernel_rfl) (Z30 (P := PP) (t := 141) (d := 5) (by kernel_rfl) (eI .u8) (shrO zu) zn))
 refine zq<|zq<|zq<|zq<|zq<|zq ?_
 refine za ((decide ((IntKind.i64.wrap ((zn.length : Int) - zy)) < (x1.size : Int)))) ?_ ?_
 ·exact zk (Zc5 zn zy zb zh zj z2 z6 zu zd zC)
 ·refine zq<|zq<|zq<|zq<|zq<|zq<|zq<|zq<|zq<|zq<|zq<|zi fun a1 ha1 => ?_
  refine zo (.p (.lst (slO (shrO zu)) (a1.map (eI .u8)))) ?_ (Eq.trans (by kernel_rfl) <| ZD9 (n := 1) (o := (shrO zu)) (lo := (some (iv zy))) (hi := (some (iv (IntKind.i64.wrap (zy + (x1.size : Int)))))) (e := (eI .u8)) (fun _ => rfl) (by decide) (by kernel_rfl) (by kernel_rfl) ha1)
  refine zo (.p (.v (.string (strI a1)))) ?_ (Eq.trans (by kernel_rfl) (ZEj (P := PP) (s := 141) (d := 9) (by kernel_rfl) (slO (shrO zu)) a1))
  refine zq ?_
  refine za (!(seq (strI a1) x1)) ?_ ?_
  ·exact zk (Zc5 zn zy zb zh zj z2 z6 zu zd zC)
  ·exact zk (Zid x1 zn zy zb zh zj z2 z6 zu zd zC)
theorem Zl6 (x1 : ByteArray) (zn : List Int) (zy : Int) {r} (h : Z9N x1 zn zy = some r) : Z1J x1 zn zy = some r :=
 Z1f (fun _ _ ha hb => RRun.uniq (Zlw _ _ _ _ _ _ _ _) (ha default default default default default .ex .ex rfl) (hb default default default default default .ex .ex rfl)) (fun zb zh zj z2 z6 zu zd zC => Zkd x1 zn zy zb zh zj z2 z6 zu zd zC r h)
def Z6S (zn : List Int) (zy zb zh : Int) (zj : List Zz) (z2 z6 : Int) : Option (Z7 × Int × Int × Int × (List Zz) × Int × Int) :=
 (Z71 zn zy zb zh zj z2 z6).bind fun r1 =>
 Z5D ([r1.1] : List Z7) zn r1.2.1 r1.2.2.1 r1.2.2.2.1 r1.2.2.2.2.1 r1.2.2.2.2.2.1 r1.2.2.2.2.2.2
theorem Zl0 zn zy zb zh zj z2 z6 zu zd (zC : ZR zd = true) : Sim (Z3P zn zu) (Z6S zn zy zb zh zj z2 z6) (EE 69 [(.ptr 0 0)] [(Zk (Zm.mk zn zy zb zh zj (Zl.mk z2 z6)) zu zd)]) := by
 unfold Z6S
 refine zf (ZHm ..)<|ze<|zz (.ptr 1 0) [(Zk (Zm.mk zn zy zb zh zj (Zl.mk z2 z6)) zu zd), (Zv (Z7.mk 0 0 0 0 0 ([] : List Zc) ([] : List Z7)) .nl .nl)]<|ze<|zi fun r1 hr1 => ?_
 obtain ⟨qr1, er1, or1_0_4, exr1, hor1_0_4, rfl⟩ := Zfg zn zy zb zh zj z2 z6 zu zd zC r1 hr1
 refine zc [0] (.p (.agg (ZJ r1.1 .sh .sh))) [(Zk (Zm.mk zn r1.2.1 r1.2.2.1 r1.2.2.2.1 r1.2.2.2.2.1 (Zl.mk r1.2.2.2.2.2.1 r1.2.2.2.2.2.2)) zu or1_0_4), (Zv (Z7.mk 0 0 0 0 0 ([] : List Zc) ([] : List Z7)) .nl .nl)] er1 ?_
 refine zo (.p (.lst .ex (([r1.1] : List Z7).map ZV))) ?_ (Eq.trans (b := some (.p (.lst .ex [.agg (Z37 r1.1)]))) (by kernel_rfl) (by simp only [List.map_cons, List.map_nil, Z4Z]))
 exact zk (ZcB ([r1.1] : List Z7) zn r1.2.1 r1.2.2.1 r1.2.2.2.1 r1.2.2.2.2.1 r1.2.2.2.2.2.1 r1.2.2.2.2.2.2 (Z7.mk 0 0 0 0 0 ([] : List Zc) ([] : List Z7)) .ex zu or1_0_4 .nl .nl rfl hor1_0_4 rfl rfl)
theorem Zfd (zn : List Int) (zy zb zh : Int) (zj : List Zz) (z2 z6 : Int) {r} (h : Z6S zn zy zb zh zj z2 z6 = some r) : Z4r zn zy zb zh zj z2 z6 = some r :=
 Z1f (fun _ _ ha hb => RRun.uniq (ZfA _ _) (ha .ex .ex rfl) (hb .ex .ex rfl)) (fun zu zd zC => Zl0 zn zy zb zh zj z2 z6 zu zd zC r h)
def Z8I (x3 : List Z7) (zn : List Int) (zy zb zh : Int) (zj : List Zz) (z2 z6 : Int) : Option (Z7 × Int × Int × Int × (List Zz) × Int × Int) :=
 (Z71 zn zy zb zh zj z2 z6).bind fun r1 =>
 (lapp x3 ([r1.1] : List Z7)).bind fun a2 =>
 Z5D a2 zn r1.2.1 r1.2.2.1 r1.2.2.2.1 r1.2.2.2.2.1 r1.2.2.2.2.2.1 r1.2.2.2.2.2.2
theorem ZiD (x3 : List Z7) zn zy zb zh zj z2 z6 b1 ox3 zu zd zK zG (hox3 : ZR ox3 = true) (zC : ZR zd = true) (z1c : ZR zK = true) (z15 : ZR zG = true) : Sim (Z3P zn zu) (Z8I x3 zn zy zb zh zj z2 z6) (Zw5 1 (.ptr 0 0) (.ptr 1 0) (.p (.lst ox3 (x3.map ZV))) [(Zk (Zm.mk zn zy zb zh zj (Zl.mk z2 z6)) zu zd), (Zv b1 zK zG)]) := by
 unfold Z8I
 refine zf (ZBW ..)<|ze<|zi fun r1 hr1 => ?_
 obtain ⟨qr1, er1, or1_0_4, exr1, hor1_0_4, rfl⟩ := Zfg zn zy zb zh zj z2 z6 zu zd zC r1 hr1
 refine zc [0] (.p (.agg (ZJ r1.1 .sh .sh))) [(Zk (Zm.mk zn r1.2.1 r1.2.2.1 r1.2.2.2.1 r1.2.2.2.2.1 (Zl.mk r1.2.2.2.2.2.1 r1.2.2.2.2.2.2)) zu or1_0_4), (Zv b1 zK zG)] er1 ?_
 refine zo (.p (.lst .ex (([r1.1] : List Z7).map ZV))) ?_ (Eq.trans (b := some (.p (.lst .ex [.agg (Z37 r1.1)]))) (by kernel_rfl) (by simp only [List.map_cons, List.map_nil, Z4Z]))
 refine zi fun a2 ha2 => ?_
 refine zo (.p (.lst .un (a2.map ZV))) ?_ (Eq.trans (by kernel_rfl) <| Zjk (n := 7) (o := ox3) (o' := .ex) (e := ZV) (ys := ([r1.1] : List Z7)) Zml (by decide) hox3 ha2)
 exact zk (ZcB a2 zn r1.2.1 r1.2.2.1 r1.2.2.2.1 r1.2.2.2.2.1 r1.2.2.2.2.2.1 r1.2.2.2.2.2.2 b1 .un zu or1_0_4 zK zG rfl hor1_0_4 z1c z15)
def Z6T (x3 : List Z7) (zy zb zh : Int) (zj : List Zz) (z2 z6 : Int) : Option (Z7 × Int × Int × Int × (List Zz) × Int × Int) :=
 (Zbf 3 x3).bind fun r1 =>
 some (r1, zy, zb, zh, zj, z2, z6)
theorem ZiE (x3 : List Z7) zn zy zb zh zj z2 z6 b1 ox3 zu zd zK zG (hox3 : ZR ox3 = true) (zC : ZR zd = true) (z1c : ZR zK = true) (z15 : ZR zG = true) : Sim (Z3P zn zu) (Z6T x3 zy zb zh zj z2 z6) (Zw6 1 (.ptr 1 0) (.p (.lst ox3 (x3.map ZV))) [(Zk (Zm.mk zn zy zb zh zj (Zl.mk z2 z6)) zu zd), (Zv b1 zK zG)]) := by
 unfold Z6T
 refine zf (ZBX ..)<|ze<|zi fun r1 hr1 => ?_
 obtain ⟨qr1, er1, exr1, rfl⟩ := Zio 3 x3 .sh r1 hr1
 refine zc [] (.p (.agg (ZJ r1 .sh .sh))) [(Zk (Zm.mk zn zy zb zh zj (Zl.mk z2 z6)) zu zd), (Zv b1 zK zG)] er1<|zt [(Zk (Zm.mk zn zy zb zh zj (Zl.mk z2 z6)) zu zd), (Zv r1 .sh .sh)] ?_
 exact zr ((.p (.agg (ZJ r1 .sh .sh))), [(Zk (Zm.mk zn zy zb zh zj (Zl.mk z2 z6)) zu zd), (Zv r1 .sh .sh)]) ⟨zd, _, zC, rfl⟩
def Z5z (x3 : List Z7) (zn : List Int) (zy zb zh : Int) (zj : List Zz) (z2 z6 : Int) : Option (Z7 × Int × Int × Int × (List Zz) × Int × Int) :=
 (Z1J (ByteArray.mk #[124]) zn zy).bind fun r1 =>
 if (r1.1) = true then
 (Z8I x3 zn r1.2 zb zh zj z2 z6)
 else
 (Z6T x3 r1.2 zb zh zj z2 z6)
theorem ZiC (x3 : List Z7) zn zy zb zh zj z2 z6 b1 ox3 zu zd zK zG (hox3 : ZR ox3 = true) (zC : ZR zd = true) (z1c : ZR zK = true) (z15 : ZR zG = true) : Sim (Z3P zn zu) (Z5z x3 zn zy zb zh zj z2 z6) (ZlM 1 (.ptr 0 0) (.ptr 1 0) (.p (.lst ox3 (x3.map ZV))) [(Zk (Zm.mk zn zy zb zh zj (Zl.mk z2 z6)) zu zd), (Zv b1 zK zG)]) := by
 unfold Z5z
 refine zf (ZBV ..)<|ze<|zi fun r1 hr1 => ?_
 obtain ⟨qr1, er1, exr1, rfl⟩ := Z1S (ByteArray.mk #[124]) zn zy zb zh zj z2 z6 zu zd zC r1 hr1
 refine zc [0] (bv r1.1) [(Zk (Zm.mk zn r1.2 zb zh zj (Zl.mk z2 z6)) zu zd), (Zv b1 zK zG)] er1 ?_
 refine za r1.1 ?_ ?_
 ·exact zk (ZiD x3 zn r1.2 zb zh zj z2 z6 b1 ox3 zu zd zK zG hox3 zC z1c z15)
 ·exact zk (ZiE x3 zn r1.2 zb zh zj z2 z6 b1 ox3 zu zd zK zG hox3 zC z1c z15)
theorem ZcA (x3 : List Z7) (zn : List Int) (zy zb zh : Int) (zj : List Zz) (z2 z6 : Int) {r} (h : Z5z x3 zn zy zb zh zj z2 z6 = some r) : Z5D x3 zn zy zb zh zj z2 z6 = some r :=
 Z1f (fun _ _ ha hb => RRun.uniq (ZfA _ _) (ha default .ex .ex .ex .ex .ex rfl rfl rfl rfl) (hb default .ex .ex .ex .ex .ex rfl rfl rfl rfl)) (fun b1 ox3 zu zd zK zG hox3 zC z1c z15 => ZiC x3 zn zy zb zh zj z2 z6 b1 ox3 zu zd zK zG hox3 zC z1c z15 r h)
def Z8o (zn : List Int) (zy zb zh : Int) (zj : List Zz) (z2 z6 : Int) : Option (Z7 × Int × Int × Int × (List Zz) × Int × Int) :=
 Z5E ([] : List Z7) zn zy zb zh zj z2 z6
theorem Zl3 zn zy zb zh zj z2 z6 zu zd (zC : ZR zd = true) : Sim (Z3t zn zu) (Z8o zn zy zb zh zj z2 z6) (EE 91 [(.ptr 0 0)] [(Zk (Zm.mk zn zy zb zh zj (Zl.mk z2 z6)) zu zd)]) := by
 unfold Z8o
 refine zf (ZHD ..)<|ze<|zz (.ptr 1 0) [(Zk (Zm.mk zn zy zb zh zj (Zl.mk z2 z6)) zu zd), (Zv (Z7.mk 0 0 0 0 0 ([] : List Zc) ([] : List Z7)) .nl .nl)]<|ze ?_
 exact zk (ZcD ([] : List Z7) zn zy zb zh zj z2 z6 (Z7.mk 0 0 0 0 0 ([] : List Zc) ([] : List Z7)) .nl zu zd .nl .nl rfl zC rfl rfl)
theorem Zff (zn : List Int) (zy zb zh : Int) (zj : List Zz) (z2 z6 : Int) {r} (h : Z8o zn zy zb zh zj z2 z6 = some r) : Z71 zn zy zb zh zj z2 z6 = some r :=
 Z1f (fun _ _ ha hb => RRun.uniq (ZfB _ _) (ha .ex .ex rfl) (hb .ex .ex rfl)) (fun zu zd zC => Zl3 zn zy zb zh zj z2 z6 zu zd zC r h)
def Z3z (x3 : List Z7) (zy zb zh : Int) (zj : List Zz) (z2 z6 : Int) : Option (Z7 × Int × Int × Int × (List Zz) × Int × Int) :=
 (Zbf 2 x3).bind fun r1 =>
 some (r1, zy, zb, zh, zj, z2, z6)
theorem Z7a (x3 : List Z7) zn zy zb zh zj z2 z6 b1 ox3 zu zd zK zG (hox3 : ZR ox3 = true) (zC : ZR zd = true) (z1c : ZR zK = true) (z15 : ZR zG = true) : Sim (Z3t zn zu) (Z3z x3 zy zb zh zj z2 z6) (ZlR 1 (.ptr 1 0) (.p (.lst ox3 (x3.map ZV))) [(Zk (Zm.mk zn zy zb zh zj (Zl.mk z2 z6)) zu zd), (Zv b1 zK zG)]) := by
 unfold Z3z
 refine zf (ZCj ..)<|ze<|zi fun r1 hr1 => ?_
 obtain ⟨qr1, er1, exr1, rfl⟩ := Zio 2 x3 .sh r1 hr1
 refine zc [] (.p (.agg (ZJ r1 .sh .sh))) [(Zk (Zm.mk zn zy zb zh zj (Zl.mk z2 z6)) zu zd), (Zv b1 zK zG)] er1<|zt [(Zk (Zm.mk zn zy zb zh zj (Zl.mk z2 z6)) zu zd), (Zv r1 .sh .sh)] ?_
 exact zr ((.p (.agg (ZJ r1 .sh .sh))), [(Zk (Zm.mk zn zy zb zh zj (Zl.mk z2 z6)) zu zd), (Zv r1 .sh .sh)]) ⟨zd, _, zC, rfl⟩
def Z4M (x3 : List Z7) (zn : List Int) (zy zb zh : Int) (zj : List Zz) (z2 z6 : Int) : Option (Z7 × Int × Int × Int × (List Zz) × Int × Int) :=
 (Z9Z zn zy zb zh zj z2 z6).bind fun r1 =>
 (Z73 r1.1 r1.2.1 zn r1.2.2.1 r1.2.2.2.1 r1.2.2.2.2.1 r1.2.2.2.2.2.1 r1.2.2.2.2.2.2.1 r1.2.2.2.2.2.2.2).bind fun r2 =>
 (lapp x3 ([r2.1] : List Z7)).bind fun a3 =>
 Z5E a3 zn r2.2.1 r1.2.2.2.1 r1.2.2.2.2.1 r1.2.2.2.2.2.1 r2.2.2.1 r2.2.2.2
theorem Z9c (x3 : List Z7) zn zy zb zh zj z2 z6 b1 ox3 zu zd zK zG (hox3 : ZR ox3 = true) (zC : ZR zd = true) (z1c : ZR zK = true) (z15 : ZR zG = true) : Sim (Z3t zn zu) (Z4M x3 zn zy zb zh zj z2 z6) (ZoE 1 (.ptr 0 0) (.ptr 1 0) (.p (.lst ox3 (x3.map ZV))) [(Zk (Zm.mk zn zy zb zh zj (Zl.mk z2 z6)) zu zd), (Zv b1 zK zG)]) := by
 unfold Z4M
 refine zf (ZCi ..)<|ze<|zi fun r1 hr1 => ?_
 obtain ⟨qr1, er1, or1_0_4, exr1, hor1_0_4, rfl⟩ := Zl2 zn zy zb zh zj z2 z6 zu zd zC r1 hr1
 refine zc [0] (.p (.tup [(.agg (ZJ r1.1 .sh .sh)), (.v (.bool r1.2.1))])) [(Zk (Zm.mk zn r1.2.2.1 r1.2.2.2.1 r1.2.2.2.2.1 r1.2.2.2.2.2.1 (Zl.mk r1.2.2.2.2.2.2.1 r1.2.2.2.2.2.2.2)) zu or1_0_4), (Zv b1 zK zG)] er1<|zq<|zq<|zz (.ptr 2 0) [(Zk (Zm.mk zn r1.2.2.1 r1.2.2.2.1 r1.2.2.2.2.1 r1.2.2.2.2.2.1 (Zl.mk r1.2.2.2.2.2.2.1 r1.2.2.2.2.2.2.2)) zu or1_0_4), (Zv b1 zK zG), (Zv (Z7.mk 0 0 0 0 0 ([] : List Zc) ([] : List Z7)) .nl .nl)]<|zt [(Zk (Zm.mk zn r1.2.2.1 r1.2.2.2.1 r1.2.2.2.2.1 r1.2.2.2.2.2.1 (Zl.mk r1.2.2.2.2.2.2.1 r1.2.2.2.2.2.2.2)) zu or1_0_4), (Zv b1 zK zG), (Zv r1.1 .sh .sh)]<|ze<|zq<|zi fun r2 hr2 => ?_
 obtain ⟨qr2, er2, exr2, rfl⟩ := ZjI r1.1 r1.2.1 zn r1.2.2.1 r1.2.2.2.1 r1.2.2.2.2.1 r1.2.2.2.2.2.1 r1.2.2.2.2.2.2.1 r1.2.2.2.2.2.2.2 .sh .sh zu or1_0_4 hor1_0_4 r2 hr2
 refine zc [0] (.p (.agg (ZJ r2.1 .sh .sh))) [(Zk (Zm.mk zn r2.2.1 r1.2.2.2.1 r1.2.2.2.2.1 r1.2.2.2.2.2.1 (Zl.mk r2.2.2.1 r2.2.2.2)) zu or1_0_4), (Zv b1 zK zG), (Zv r1.1 .sh .sh)] er2 ?_
 refine zo (.p (.lst .ex (([r2.1] : List Z7).map ZV))) ?_ (Eq.trans (b := some (.p (.lst .ex [.agg (Z37 r2.1)]))) (by kernel_rfl) (by simp only [List.map_cons, List.map_nil, Z4Z]))
 refine zi fun a3 ha3 => ?_
 refine zo (.p (.lst .un (a3.map ZV))) ?_ (Eq.trans (by kernel_rfl) <| Zjk (n := 7) (o := ox3) (o' := .ex) (e := ZV) (ys := ([r2.1] : List Z7)) Zml (by decide) hox3 ha3)
 exact zk (ZcD a3 zn r2.2.1 r1.2.2.2.1 r1.2.2.2.2.1 r1.2.2.2.2.2.1 r2.2.2.1 r2.2.2.2 b1 .un zu or1_0_4 zK zG rfl hor1_0_4 z1c z15)
def Z6V (x3 : List Z7) (zn : List Int) (zy zb zh : Int) (zj : List Zz) (z2 z6 : Int) : Option (Z7 × Int × Int × Int × (List Zz) × Int × Int) :=
 (Z2J (Zm.mk zn zy zb zh zj (Zl.mk z2 z6))).bind fun r1 =>
 if (r1 == (-1)) = true then
 (if (r1 == (-1)) = true then
 (Z3z x3 zy zb zh zj z2 z6)
 else
 (Z4M x3 zn zy zb zh zj z2 z6))
 else
 (if (r1 == 124) = true then
 (if (r1 == 124) = true then
 (Z3z x3 zy zb zh zj z2 z6)
 else
 (Z4M x3 zn zy zb zh zj z2 z6))
 else
 (if (r1 == 41) = true then
 (Z3z x3 zy zb zh zj z2 z6)
 else
 (Z4M x3 zn zy zb zh zj z2 z6)))
theorem ZiG (x3 : List Z7) zn zy zb zh zj z2 z6 b1 ox3 zu zd zK zG (hox3 : ZR ox3 = true) (zC : ZR zd = true) (z1c : ZR zK = true) (z15 : ZR zG = true) : Sim (Z3t zn zu) (Z6V x3 zn zy zb zh zj z2 z6) (Zwm 1 (.ptr 0 0) (.ptr 1 0) (.p (.lst ox3 (x3.map ZV))) [(Zk (Zm.mk zn zy zb zh zj (Zl.mk z2 z6)) zu zd), (Zv b1 zK zG)]) := by
 unfold Z6V
 refine zf (ZCh ..)<|ze<|zi fun r1 hr1 => ?_
 obtain ⟨qr1, er1, exr1, rfl⟩ := Z2S (Zm.mk zn zy zb zh zj (Zl.mk z2 z6)) zu zd zC r1 hr1
 refine zc [0] (iv r1) [(Zk (Zm.mk zn zy zb zh zj (Zl.mk z2 z6)) zu zd), (Zv b1 zK zG)] er1<|ze<|zq ?_
 refine za (r1 == (-1)) ?_ ?_
 ·refine za (r1 == (-1)) ?_ ?_
  ·exact zk (Z7a x3 zn zy zb zh zj z2 z6 b1 ox3 zu zd zK zG hox3 zC z1c z15)
  ·exact zk (Z9c x3 zn zy zb zh zj z2 z6 b1 ox3 zu zd zK zG hox3 zC z1c z15)
 ·refine ze<|zq ?_
  refine za (r1 == 124) ?_ ?_
  ·refine za (r1 == 124) ?_ ?_
   ·exact zk (Z7a x3 zn zy zb zh zj z2 z6 b1 ox3 zu zd zK zG hox3 zC z1c z15)
   ·exact zk (Z9c x3 zn zy zb zh zj z2 z6 b1 ox3 zu zd zK zG hox3 zC z1c z15)
  ·refine ze<|zq ?_
   refine za (r1 == 41) ?_ ?_
   ·exact zk (Z7a x3 zn zy zb zh zj z2 z6 b1 ox3 zu zd zK zG hox3 zC z1c z15)
   ·exact zk (Z9c x3 zn zy zb zh zj z2 z6 b1 ox3 zu zd zK zG hox3 zC z1c z15)
def Z6U (x3 : List Z7) (zn : List Int) (zy zb zh : Int) (zj : List Zz) (z2 z6 : Int) : Option (Z7 × Int × Int × Int × (List Zz) × Int × Int) :=
 if (z2 == 0) = true then
 (Z6V x3 zn zy zb zh zj z2 z6)
 else
 (Z3z x3 zy zb zh zj z2 z6)
theorem ZiF (x3 : List Z7) zn zy zb zh zj z2 z6 b1 ox3 zu zd zK zG (hox3 : ZR ox3 = true) (zC : ZR zd = true) (z1c : ZR zK = true) (z15 : ZR zG = true) : Sim (Z3t zn zu) (Z6U x3 zn zy zb zh zj z2 z6) (ZlQ 1 (.ptr 0 0) (.ptr 1 0) (.p (.lst ox3 (x3.map ZV))) [(Zk (Zm.mk zn zy zb zh zj (Zl.mk z2 z6)) zu zd), (Zv b1 zK zG)]) := by
 unfold Z6U
 refine zf (ZCg ..)<|ze<|zq<|zq<|zq<|zq<|zq ?_
 refine za (z2 == 0) ?_ ?_
 ·exact zk (ZiG x3 zn zy zb zh zj z2 z6 b1 ox3 zu zd zK zG hox3 zC z1c z15)
 ·exact zk (Z7a x3 zn zy zb zh zj z2 z6 b1 ox3 zu zd zK zG hox3 zC z1c z15)
theorem ZcC (x3 : List Z7) (zn : List Int) (zy zb zh : Int) (zj : List Zz) (z2 z6 : Int) {r} (h : Z6U x3 zn zy zb zh zj z2 z6 = some r) : Z5E x3 zn zy zb zh zj z2 z6 = some r :=
 Z1f (fun _ _ ha hb => RRun.uniq (ZfB _ _) (ha default .ex .ex .ex .ex .ex rfl rfl rfl rfl) (hb default .ex .ex .ex .ex .ex rfl rfl rfl rfl)) (fun b1 ox3 zu zd zK zG hox3 zC z1c z15 => ZiF x3 zn zy zb zh zj z2 z6 b1 ox3 zu zd zK zG hox3 zC z1c z15 r h)
end Go.Proofs.YteoeggbihfnbfaaGreatDoor.N2
end
noncomputable section
set_option linter.unusedSimpArgs false
set_option linter.unusedVariables false
namespace Go.Proofs.YteoeggbihfnbfaaGreatDoor.N2
open Go Go.Abs
set_option linter.unusedVariables false
set_option maxRecDepth 100000
def Z8e (b0 : Zm) : Option (Int) :=
 (Zeu b0.b b0.at_).bind fun r1 =>
 some (r1.1)
theorem Zic b0 zu zd (zC : ZR zd = true) : Sim (Z6t b0 zu zd) (Z8e b0) (ZsI 1 (.ptr 0 0) [(Zk b0 zu zd)]) := by
 unfold Z8e
 refine zf (ZyX ..)<|ze<|zq<|zq<|zq<|zq<|zq<|zq<|zi fun r1 hr1 => ?_
 obtain ⟨qr1, er1, exr1, rfl⟩ := Zmg b0.b b0.at_ .sh r1 hr1
 refine zc [] (.p (.tup [(.v (.int .i64 r1.1)), (.v (.int .i64 r1.2))])) [(Zk b0 zu zd)] er1<|zq<|zq<|ze ?_
 exact zr ((iv r1.1), [(Zk b0 zu zd)]) ⟨_, rfl⟩
def Z9L (b0 : Zm) : Option (Int) :=
 if (decide ((b0.b.length : Int) ≤ b0.at_)) = true then
 (some (-1))
 else
 (Z8e b0)
theorem Zka b0 zu zd (zC : ZR zd = true) : Sim (Z6t b0 zu zd) (Z9L b0) (EE 104 [(.ptr 0 0)] [(Zk b0 zu zd)]) := by
 unfold Z9L
 refine zf (ZEB ..)<|ze<|ze<|zq<|zq<|zq<|zq<|zq<|zq ?_
 refine zo (iv (b0.b.length : Int)) ?_ (Eq.trans (by kernel_rfl) (Z30 (P := PP) (t := 141) (d := 5) (by kernel_rfl) (eI .u8) (shrO zu) b0.b))
 refine zq ?_
 refine za (decide ((b0.b.length : Int) ≤ b0.at_)) ?_ ?_
 ·refine ze ?_
  exact zr ((iv (-1)), [(Zk b0 zu zd)]) ⟨_, rfl⟩
 ·exact zk (Zic b0 zu zd zC)
theorem Zl4 (b0 : Zm) {r} (h : Z9L b0 = some r) : Z2J b0 = some r :=
 Z1f (fun _ _ ha hb => RRun.uniq (Zlu _ _ _) (ha .ex .ex rfl) (hb .ex .ex rfl)) (fun zu zd zC => Zka b0 zu zd zC r h)
def Zd9  : Option (Int × Int) :=
 some (0, 0)
theorem ZhR  : Sim (Z8b) (Zd9) (Zpr 0  []) := by
 unfold Zd9
 refine zf (Zz8 ..)<|ze ?_
 exact zr ((.p (.tup [(.v (.int .i64 0)), (.v (.int .i64 0))])), []) ⟨_, rfl⟩
def Zdb (x0 : List Int) (x1 : Int) : Option (Int × Int) :=
 (lget x0 x1).bind fun a1 =>
 some ((IntKind.i64.wrap (1114112 + (IntKind.i64.wrap a1))), 1)
theorem ZoU (x0 : List Int) x1 ox0 : Sim (Z8b) (Zdb x0 x1) (ZsW 0 (.p (.lst ox0 (x0.map (eI .u8)))) (iv x1) []) := by
 unfold Zdb
 refine zf (Zza ..)<|ze<|zi fun a1 ha1 => ?_
 refine zo (.cptr [(.v (.int .u8 a1))]) ?_ (Eq.trans (by kernel_rfl) (Z3X (o := (shrO ox0)) (k := .i64) (n := 1) (e := (eI .u8)) (cs := (fun a => [(eI .u8) a])) (fun _ => rfl) (fun _ => rfl) (by decide) ha1))
 refine zq<|zq<|zq ?_
 exact zr ((.p (.tup [(.v (.int .i64 (IntKind.i64.wrap (1114112 + (IntKind.i64.wrap a1))))), (.v (.int .i64 1))])), []) ⟨_, rfl⟩
def Z9k (x6 x7 : Int) : Option (Int × Int) :=
 some ((IntKind.i64.wrap x6), x7)
theorem ZhS x6 x7 : Sim (Z8b) (Z9k x6 x7) (Zps 0 (.p (.v (.int .i32 x6))) (iv x7) []) := by
 unfold Z9k
 refine zf (Zzb ..)<|ze<|zq ?_
 exact zr ((.p (.tup [(.v (.int .i64 (IntKind.i64.wrap x6))), (.v (.int .i64 x7))])), []) ⟨_, rfl⟩
def Zda (x0 : List Int) (x1 : Int) : Option (Int × Int) :=
 (lsl x0 x1 (x0.length : Int)).bind fun a1 =>
 (Z9e a1).bind fun r2 =>
 if (r2.1 == 65533) = true then
 (if (r2.2 == 1) = true then
 (Zdb x0 x1)
 else
 (Z9k r2.1 r2.2))
 else
 (Z9k r2.1 r2.2)
theorem ZoT (x0 : List Int) x1 ox0 : Sim (Z8b) (Zda x0 x1) (ZsV 0 (.p (.lst ox0 (x0.map (eI .u8)))) (iv x1) []) := by
 unfold Zda
 refine zf (Zz9 ..)<|ze<|zi fun a1 ha1 => ?_
 refine zo (.p (.lst (slO (shrO ox0)) (a1.map (eI .u8)))) ?_ (Eq.trans (by kernel_rfl) <| ZD9 (n := 1) (o := (shrO ox0)) (lo := (some (iv x1))) (hi := none) (e := (eI .u8)) (fun _ => rfl) (by decide) (by kernel_rfl) (by kernel_rfl) ha1)
 refine zi fun r2 hr2 => ?_
 obtain ⟨qr2, er2, exr2, rfl⟩ := Zh2 a1 .sh r2 hr2
 refine zc [] (.p (.tup [(.v (.int .i32 r2.1)), (.v (.int .i64 r2.2))])) [] er2<|zq<|zq<|ze<|zq ?_
 refine za (r2.1 == 65533) ?_ ?_
 ·refine zq ?_
  refine za (r2.2 == 1) ?_ ?_
  ·exact zk (ZoU x0 x1 ox0)
  ·exact zk (ZhS r2.1 r2.2)
 ·exact zk (ZhS r2.1 r2.2)
def Zhg (x0 : List Int) (x1 : Int) : Option (Int × Int) :=
 if (decide (x1 < 0)) = true then
 (Zd9)
 else
 (if (decide ((x0.length : Int) ≤ x1)) = true then
 (Zd9)
 else
 (Zda x0 x1))
theorem Zsa (x0 : List Int) x1 ox0 : Sim (Z8b) (Zhg x0 x1) (EE 126 [(.p (.lst ox0 (x0.map (eI .u8)))), (iv x1)] []) := by
 unfold Zhg
 refine zf (ZEM ..)<|ze<|ze<|zq ?_
 refine za (decide (x1 < 0)) ?_ ?_
 ·exact zk (ZhR )
 ·refine zo (iv (x0.length : Int)) ?_ (Eq.trans (by kernel_rfl) (Z30 (P := PP) (t := 141) (d := 5) (by kernel_rfl) (eI .u8) (shrO ox0) x0))
  refine zq ?_
  refine za (decide ((x0.length : Int) ≤ x1)) ?_ ?_
  ·exact zk (ZhR )
  ·exact zk (ZoT x0 x1 ox0)
theorem Zuo (x0 : List Int) (x1 : Int) {r} (h : Zhg x0 x1 = some r) : Zeu x0 x1 = some r :=
 Z1f (fun _ _ ha hb => RRun.uniq ZuX (ha .ex) (hb .ex)) (fun ox0 => Zsa x0 x1 ox0 r h)
def ZdG (x0 : Int) (x1 : List Z7) : Option (Z7) :=
 some (Z7.mk x0 0 0 0 0 ([] : List Zc) x1)
theorem Zm0 x0 (x1 : List Z7) b0 ox1 z1T z1D (zDG : ZR z1T = true) (zCt : ZR z1D = true) : Sim (Z9j) (ZdG x0 x1) (Zwn 0 (iv x0) (.p (.lst ox1 (x1.map ZV))) (.ptr 0 0) [(Zv b0 z1T z1D)]) := by
 unfold ZdG
 refine zf (ZCk ..)<|ze<|zq<|zt [(Zv (Z7.mk x0 0 0 0 0 ([] : List Zc) x1) .nl (shrO (shrO ox1)))] ?_
 exact zr ((.p (.agg (ZJ (Z7.mk x0 0 0 0 0 ([] : List Zc) x1) .sh .sh))), [(Zv (Z7.mk x0 0 0 0 0 ([] : List Zc) x1) .nl (shrO (shrO ox1)))]) ⟨_, rfl⟩
def Zd6 (x0 : Int) (x1 : List Z7) : Option (Z7) :=
 if ((x1.length : Int) == 0) = true then
 (some (Z7.mk 0 0 0 0 0 ([] : List Zc) ([] : List Z7)))
 else
 (if ((x1.length : Int) == 1) = true then
 ((lget x1 0).bind fun a1 =>
 some (a1))
 else
 (ZdG x0 x1))
theorem ZoP x0 (x1 : List Z7) ox1 : Sim (Z9j) (Zd6 x0 x1) (EE 92 [(iv x0), (.p (.lst ox1 (x1.map ZV)))] []) := by
 unfold Zd6
 refine zf (ZHG ..)<|ze<|zz (.ptr 0 0) [(Zv (Z7.mk 0 0 0 0 0 ([] : List Zc) ([] : List Z7)) .nl .nl)]<|ze ?_
 refine zo (iv (x1.length : Int)) ?_ (Eq.trans (by kernel_rfl) (Z30 (P := PP) (t := 96) (d := 98) (by kernel_rfl) ZV (shrO ox1) x1))
 refine ze<|zq ?_
 refine za ((x1.length : Int) == 0) ?_ ?_
 ·refine ze<|zq<|zt [(Zv (Z7.mk 0 0 0 0 0 ([] : List Zc) ([] : List Z7)) .nl .nl)] ?_
  exact zr ((.p (.agg (ZJ (Z7.mk 0 0 0 0 0 ([] : List Zc) ([] : List Z7)) .sh .sh))), [(Zv (Z7.mk 0 0 0 0 0 ([] : List Zc) ([] : List Z7)) .nl .nl)]) ⟨_, rfl⟩
 ·refine ze<|zq ?_
  refine za ((x1.length : Int) == 1) ?_ ?_
  ·refine ze<|zi fun a1 ha1 => ?_
   refine zo (.cptr (ZJ a1 .sh .sh)) ?_ (Eq.trans (by kernel_rfl) (Z3X (o := (shrO ox1)) (k := .i64) (n := 7) (e := ZV) (cs := Z37) Z6c (fun _ => rfl) (by decide) ha1))
   refine zq<|zt [(Zv a1 .sh .sh)] ?_
   exact zr ((.p (.agg (ZJ a1 .sh .sh))), [(Zv a1 .sh .sh)]) ⟨_, rfl⟩
  ·exact zk (Zm0 x0 x1 (Z7.mk 0 0 0 0 0 ([] : List Zc) ([] : List Z7)) ox1 .nl .nl rfl rfl)
theorem Zq1 (x0 : Int) (x1 : List Z7) {r} (h : Zd6 x0 x1 = some r) : Zbf x0 x1 = some r :=
 Z1f (fun _ _ ha hb => RRun.uniq Zqy (ha .ex) (hb .ex)) (fun ox1 => ZoP x0 x1 ox1 r h)
def Z22 (zy zb zh : Int) (zj : List Zz) (z2 z6 : Int) : Option (Z7 × Bool × Int × Int × Int × (List Zz) × Int × Int) :=
 some ((Z7.mk 0 0 0 0 0 ([] : List Zc) ([] : List Z7)), true, zy, zb, zh, zj, z2, z6)
theorem Z2a zn zy zb zh zj z2 z6 b1 zu zd zK zG (zC : ZR zd = true) (z1c : ZR zK = true) (z15 : ZR zG = true) : Sim (Z6r zn zu) (Z22 zy zb zh zj z2 z6) (Z7w 1 (.ptr 1 0) [(Zk (Zm.mk zn zy zb zh zj (Zl.mk z2 z6)) zu zd), (Zv b1 zK zG)]) := by
 unfold Z22
 refine zf (Zxn ..)<|ze<|zq<|zt [(Zk (Zm.mk zn zy zb zh zj (Zl.mk z2 z6)) zu zd), (Zv (Z7.mk 0 0 0 0 0 ([] : List Zc) ([] : List Z7)) .nl .nl)] ?_
 exact zr ((.p (.tup [(.agg (ZJ (Z7.mk 0 0 0 0 0 ([] : List Zc) ([] : List Z7)) .sh .sh)), (.v (.bool true))])), [(Zk (Zm.mk zn zy zb zh zj (Zl.mk z2 z6)) zu zd), (Zv (Z7.mk 0 0 0 0 0 ([] : List Zc) ([] : List Z7)) .nl .nl)]) ⟨zd, _, zC, rfl⟩
def Z7R (zn : List Int) (zy zb zh : Int) (zj : List Zz) (z2 z6 : Int) : Option (Z7 × Bool × Int × Int × Int × (List Zz) × Int × Int) :=
 (Z3k zn zy).bind fun r1 =>
 if (r1.1 == 46) = true then
 ((Z2A 10).bind fun r2 =>
 (Z49 true ([r2] : List Zc)).bind fun r3 =>
 some (r3, true, r1.2, zb, zh, zj, z2, z6))
 else
 (if (r1.1 == 94) = true then
 (some ((Z7.mk 9 0 0 0 0 ([] : List Zc) ([] : List Z7)), false, r1.2, zb, zh, zj, z2, z6))
 else
 (if (r1.1 == 36) = true then
 (some ((Z7.mk 9 0 0 0 1 ([] : List Zc) ([] : List Z7)), false, r1.2, zb, zh, zj, z2, z6))
 else
 (if (r1.1 == 92) = true then
 ((Z4Q zy zn r1.2 zb zh zj z2 z6).bind fun r4 =>
 some (r4.1, (r4.1.Kind != 9), r4.2.1, zb, zh, r4.2.2.1, r4.2.2.2.1, r4.2.2.2.2))
 else
 (if (r1.1 == 91) = true then
 ((Z9d zy zn r1.2 zb zh zj z2 z6).bind fun r5 =>
 some (r5.1, true, r5.2.1, zb, zh, zj, r5.2.2.1, r5.2.2.2))
 else
 (if (r1.1 == 40) = true then
 ((Z50 zy zn r1.2 zb zh zj z2 z6).bind fun r6 =>
 some (r6.1, r6.2.1, r6.2.2.1, r6.2.2.2.1, r6.2.2.2.2.1, r6.2.2.2.2.2.1, r6.2.2.2.2.2.2.1, r6.2.2.2.2.2.2.2))
 else
 (if (r1.1 == 42) = true then
 (if (r1.1 == 42) = true then
 ((Z1m 23 zy zn z2 z6).bind fun r7 =>
 Z22 r7.1 zb zh zj r7.2.1 r7.2.2)
 else
 (if (r1.1 == 93) = true then
 (if (r1.1 == 93) = true then
 ((Z1m 20 zy zn z2 z6).bind fun r8 =>
 Z22 r8.1 zb zh zj r8.2.1 r8.2.2)
 else
 ((Z2A r1.1).bind fun r9 =>
 (Z49 false ([r9] : List Zc)).bind fun r10 =>
 some (r10, true, r1.2, zb, zh, zj, z2, z6)))
 else
 (if (r1.1 == 125) = true then
 ((Z1m 20 zy zn z2 z6).bind fun r11 =>
 Z22 r11.1 zb zh zj r11.2.1 r11.2.2)
 else
 ((Z2A r1.1).bind fun r12 =>
 (Z49 false ([r12] : List Zc)).bind fun r13 =>
 some (r13, true, r1.2, zb, zh, zj, z2, z6)))))
 else
 (if (r1.1 == 43) = true then
 (if (r1.1 == 43) = true then
 ((Z1m 23 zy zn z2 z6).bind fun r14 =>
 Z22 r14.1 zb zh zj r14.2.1 r14.2.2)
 else
 (if (r1.1 == 93) = true then
 (if (r1.1 == 93) = true then
 ((Z1m 20 zy zn z2 z6).bind fun r15 =>
 Z22 r15.1 zb zh zj r15.2.1 r15.2.2)
 else
 ((Z2A r1.1).bind fun r16 =>
 (Z49 false ([r16] : List Zc)).bind fun r17 =>
 some (r17, true, r1.2, zb, zh, zj, z2, z6)))
 else
 (if (r1.1 == 125) = true then
 ((Z1m 20 zy zn z2 z6).bind fun r18 =>
 Z22 r18.1 zb zh zj r18.2.1 r18.2.2)
 else
 ((Z2A r1.1).bind fun r19 =>
 (Z49 false ([r19] : List Zc)).bind fun r20 =>
 some (r20, true, r1.2, zb, zh, zj, z2, z6)))))
 else
 (if (r1.1 == 63) = true then
 (if (r1.1 == 63) = true then
 ((Z1m 23 zy zn z2 z6).bind fun r21 =>
 Z22 r21.1 zb zh zj r21.2.1 r21.2.2)
 else
 (if (r1.1 == 93) = true then
 (if (r1.1 == 93) = true then
 ((Z1m 20 zy zn z2 z6).bind fun r22 =>
 Z22 r22.1 zb zh zj r22.2.1 r22.2.2)
 else
 ((Z2A r1.1).bind fun r23 =>
 (Z49 false ([r23] : List Zc)).bind fun r24 =>
 some (r24, true, r1.2, zb, zh, zj, z2, z6)))
 else
 (if (r1.1 == 125) = true then
 ((Z1m 20 zy zn z2 z6).bind fun r25 =>
 Z22 r25.1 zb zh zj r25.2.1 r25.2.2)
 else
 ((Z2A r1.1).bind fun r26 =>
 (Z49 false ([r26] : List Zc)).bind fun r27 =>
 some (r27, true, r1.2, zb, zh, zj, z2, z6)))))
 else
 (if (r1.1 == 123) = true then
 ((Z1m 23 zy zn z2 z6).bind fun r28 =>
 Z22 r28.1 zb zh zj r28.2.1 r28.2.2)
 else
 (if (r1.1 == 93) = true then
 (if (r1.1 == 93) = true then
 ((Z1m 20 zy zn z2 z6).bind fun r29 =>
 Z22 r29.1 zb zh zj r29.2.1 r29.2.2)
 else
 ((Z2A r1.1).bind fun r30 =>
 (Z49 false ([r30] : List Zc)).bind fun r31 =>
 some (r31, true, r1.2, zb, zh, zj, z2, z6)))
 else
 (if (r1.1 == 125) = true then
 ((Z1m 20 zy zn z2 z6).bind fun r32 =>
 Z22 r32.1 zb zh zj r32.2.1 r32.2.2)
 else
 ((Z2A r1.1).bind fun r33 =>
 (Z49 false ([r33] : List Zc)).bind fun r34 =>
 some (r34, true, r1.2, zb, zh, zj, z2, z6)))))))))))))
theorem Zk5 zn zy zb zh zj z2 z6 zu zd (zC : ZR zd = true) : Sim (Z6r zn zu) (Z7R zn zy zb zh zj z2 z6) (EE 105 [(.ptr 0 0)] [(Zk (Zm.mk zn zy zb zh zj (Zl.mk z2 z6)) zu zd)]) := by
 unfold Z7R
 refine zf (ZED ..)<|ze<|zz (.ptr 1 0) [(Zk (Zm.mk zn zy zb zh zj (Zl.mk z2 z6)) zu zd), (Zv (Z7.mk 0 0 0 0 0 ([] : List Zc) ([] : List Z7)) .nl .nl)]<|ze<|zq<|zq<|zq<|ze<|zi fun r1 hr1 => ?_
 obtain ⟨qr1, er1, exr1, rfl⟩ := Z3S zn zy zb zh zj z2 z6 zu zd zC r1 hr1
 refine zc [0] (iv r1.1) [(Zk (Zm.mk zn r1.2 zb zh zj (Zl.mk z2 z6)) zu zd), (Zv (Z7.mk 0 0 0 0 0 ([] : List Zc) ([] : List Z7)) .nl .nl)] er1<|ze<|ze<|zq ?_
 refine za (r1.1 == 46) ?_ ?_
 ·refine ze<|zi fun r2 hr2 => ?_
  obtain ⟨qr2, er2, exr2, rfl⟩ := Z2s 10 r2 hr2
  refine zc [] (.p (.agg (Z12 r2))) [(Zk (Zm.mk zn r1.2 zb zh zj (Zl.mk z2 z6)) zu zd), (Zv (Z7.mk 0 0 0 0 0 ([] : List Zc) ([] : List Z7)) .nl .nl)] er2<|zq<|zi fun r3 hr3 => ?_
  obtain ⟨qr3, er3, exr3, rfl⟩ := Z4i true ([r2] : List Zc) .sh r3 hr3
  refine zc [] (.p (.agg (ZJ r3 .sh .sh))) [(Zk (Zm.mk zn r1.2 zb zh zj (Zl.mk z2 z6)) zu zd), (Zv (Z7.mk 0 0 0 0 0 ([] : List Zc) ([] : List Z7)) .nl .nl)] er3<|zt [(Zk (Zm.mk zn r1.2 zb zh zj (Zl.mk z2 z6)) zu zd), (Zv r3 .sh .sh)] ?_
  exact zr ((.p (.tup [(.agg (ZJ r3 .sh .sh)), (.v (.bool true))])), [(Zk (Zm.mk zn r1.2 zb zh zj (Zl.mk z2 z6)) zu zd), (Zv r3 .sh .sh)]) ⟨zd, _, zC, rfl⟩
 ·refine ze<|zq ?_
  refine za (r1.1 == 94) ?_ ?_
  ·refine ze<|zq<|zt [(Zk (Zm.mk zn r1.2 zb zh zj (Zl.mk z2 z6)) zu zd), (Zv (Z7.mk 9 0 0 0 0 ([] : List Zc) ([] : List Z7)) .nl .nl)] ?_
   exact zr ((.p (.tup [(.agg (ZJ (Z7.mk 9 0 0 0 0 ([] : List Zc) ([] : List Z7)) .sh .sh)), (.v (.bool false))])), [(Zk (Zm.mk zn r1.2 zb zh zj (Zl.mk z2 z6)) zu zd), (Zv (Z7.mk 9 0 0 0 0 ([] : List Zc) ([] : List Z7)) .nl .nl)]) ⟨zd, _, zC, rfl⟩
  ·refine ze<|zq ?_
   refine za (r1.1 == 36) ?_ ?_
   ·refine ze<|zq<|zt [(Zk (Zm.mk zn r1.2 zb zh zj (Zl.mk z2 z6)) zu zd), (Zv (Z7.mk 9 0 0 0 1 ([] : List Zc) ([] : List Z7)) .nl .nl)] ?_
    exact zr ((.p (.tup [(.agg (ZJ (Z7.mk 9 0 0 0 1 ([] : List Zc) ([] : List Z7)) .sh .sh)), (.v (.bool false))])), [(Zk (Zm.mk zn r1.2 zb zh zj (Zl.mk z2 z6)) zu zd), (Zv (Z7.mk 9 0 0 0 1 ([] : List Zc) ([] : List Z7)) .nl .nl)]) ⟨zd, _, zC, rfl⟩
   ·refine ze<|zq ?_
    refine za (r1.1 == 92) ?_ ?_
    ·refine ze<|zi fun r4 hr4 => ?_
     obtain ⟨qr4, er4, or4_0_4, exr4, hor4_0_4, rfl⟩ := ZjE zy zn r1.2 zb zh zj z2 z6 zu zd zC r4 hr4
     refine zc [0] (.p (.agg (ZJ r4.1 .sh .sh))) [(Zk (Zm.mk zn r4.2.1 zb zh r4.2.2.1 (Zl.mk r4.2.2.2.1 r4.2.2.2.2)) zu or4_0_4), (Zv (Z7.mk 0 0 0 0 0 ([] : List Zc) ([] : List Z7)) .nl .nl)] er4<|zz (.ptr 2 0) [(Zk (Zm.mk zn r4.2.1 zb zh r4.2.2.1 (Zl.mk r4.2.2.2.1 r4.2.2.2.2)) zu or4_0_4), (Zv (Z7.mk 0 0 0 0 0 ([] : List Zc) ([] : List Z7)) .nl .nl), (Zv (Z7.mk 0 0 0 0 0 ([] : List Zc) ([] : List Z7)) .nl .nl)]<|zt [(Zk (Zm.mk zn r4.2.1 zb zh r4.2.2.1 (Zl.mk r4.2.2.2.1 r4.2.2.2.2)) zu or4_0_4), (Zv (Z7.mk 0 0 0 0 0 ([] : List Zc) ([] : List Z7)) .nl .nl), (Zv r4.1 .sh .sh)]<|ze<|zq<|zq<|zq<|zq<|zt [(Zk (Zm.mk zn r4.2.1 zb zh r4.2.2.1 (Zl.mk r4.2.2.2.1 r4.2.2.2.2)) zu or4_0_4), (Zv r4.1 .sh .sh), (Zv r4.1 .sh .sh)]<|zg ?_
     exact zr ((.p (.tup [(.agg (ZJ r4.1 .sh .sh)), (.v (.bool (r4.1.Kind != 9)))])), [(Zk (Zm.mk zn r4.2.1 zb zh r4.2.2.1 (Zl.mk r4.2.2.2.1 r4.2.2.2.2)) zu or4_0_4), (Zv r4.1 .sh .sh), (Zv r4.1 .sh .sh)]) ⟨or4_0_4, _, hor4_0_4, rfl⟩
    ·refine ze<|zq ?_
     refine za (r1.1 == 91) ?_ ?_
     ·refine ze<|zi fun r5 hr5 => ?_
      obtain ⟨qr5, er5, exr5, rfl⟩ := Zk7 zy zn r1.2 zb zh zj z2 z6 zu zd zC r5 hr5
      refine zc [0] (.p (.agg (ZJ r5.1 .sh .sh))) [(Zk (Zm.mk zn r5.2.1 zb zh zj (Zl.mk r5.2.2.1 r5.2.2.2)) zu zd), (Zv (Z7.mk 0 0 0 0 0 ([] : List Zc) ([] : List Z7)) .nl .nl)] er5<|zt [(Zk (Zm.mk zn r5.2.1 zb zh zj (Zl.mk r5.2.2.1 r5.2.2.2)) zu zd), (Zv r5.1 .sh .sh)] ?_
      exact zr ((.p (.tup [(.agg (ZJ r5.1 .sh .sh)), (.v (.bool true))])), [(Zk (Zm.mk zn r5.2.1 zb zh zj (Zl.mk r5.2.2.1 r5.2.2.2)) zu zd), (Zv r5.1 .sh .sh)]) ⟨zd, _, zC, rfl⟩
     ·refine ze<|zq ?_
      refine za (r1.1 == 40) ?_ ?_
      ·refine ze<|zi fun r6 hr6 => ?_
       obtain ⟨qr6, er6, or6_0_4, exr6, hor6_0_4, rfl⟩ := Zk9 zy zn r1.2 zb zh zj z2 z6 zu zd zC r6 hr6
       refine zc [0] (.p (.tup [(.agg (ZJ r6.1 .sh .sh)), (.v (.bool r6.2.1))])) [(Zk (Zm.mk zn r6.2.2.1 r6.2.2.2.1 r6.2.2.2.2.1 r6.2.2.2.2.2.1 (Zl.mk r6.2.2.2.2.2.2.1 r6.2.2.2.2.2.2.2)) zu or6_0_4), (Zv (Z7.mk 0 0 0 0 0 ([] : List Zc) ([] : List Z7)) .nl .nl)] er6<|zq<|zq<|zt [(Zk (Zm.mk zn r6.2.2.1 r6.2.2.2.1 r6.2.2.2.2.1 r6.2.2.2.2.2.1 (Zl.mk r6.2.2.2.2.2.2.1 r6.2.2.2.2.2.2.2)) zu or6_0_4), (Zv r6.1 .sh .sh)] ?_
       exact zr ((.p (.tup [(.agg (ZJ r6.1 .sh .sh)), (.v (.bool r6.2.1))])), [(Zk (Zm.mk zn r6.2.2.1 r6.2.2.2.1 r6.2.2.2.2.1 r6.2.2.2.2.2.1 (Zl.mk r6.2.2.2.2.2.2.1 r6.2.2.2.2.2.2.2)) zu or6_0_4), (Zv r6.1 .sh .sh)]) ⟨or6_0_4, _, hor6_0_4, rfl⟩
      ·refine ze<|zq ?_
       refine za (r1.1 == 42) ?_ ?_
       ·refine za (r1.1 == 42) ?_ ?_
        ·refine ze<|zi fun r7 hr7 => ?_
         obtain ⟨qr7, er7, exr7, rfl⟩ := Z1p 23 zy zn r1.2 zb zh zj z2 z6 zu zd zC r7 hr7
         refine zc [0] (.p (.tup [])) [(Zk (Zm.mk zn r7.1 zb zh zj (Zl.mk r7.2.1 r7.2.2)) zu zd), (Zv (Z7.mk 0 0 0 0 0 ([] : List Zc) ([] : List Z7)) .nl .nl)] er7 ?_
         exact zk (Z2a zn r7.1 zb zh zj r7.2.1 r7.2.2 (Z7.mk 0 0 0 0 0 ([] : List Zc) ([] : List Z7)) zu zd .nl .nl zC rfl rfl)
        ·refine ze<|zq ?_
         refine za (r1.1 == 93) ?_ ?_
         ·refine za (r1.1 == 93) ?_ ?_
          ·refine ze<|zi fun r8 hr8 => ?_
           obtain ⟨qr8, er8, exr8, rfl⟩ := Z1p 20 zy zn r1.2 zb zh zj z2 z6 zu zd zC r8 hr8
           refine zc [0] (.p (.tup [])) [(Zk (Zm.mk zn r8.1 zb zh zj (Zl.mk r8.2.1 r8.2.2)) zu zd), (Zv (Z7.mk 0 0 0 0 0 ([] : List Zc) ([] : List Z7)) .nl .nl)] er8 ?_
           exact zk (Z2a zn r8.1 zb zh zj r8.2.1 r8.2.2 (Z7.mk 0 0 0 0 0 ([] : List Zc) ([] : List Z7)) zu zd .nl .nl zC rfl rfl)
          ·refine ze<|zi fun r9 hr9 => ?_
           obtain ⟨qr9, er9, exr9, rfl⟩ := Z2s r1.1 r9 hr9
           refine zc [] (.p (.agg (Z12 r9))) [(Zk (Zm.mk zn r1.2 zb zh zj (Zl.mk z2 z6)) zu zd), (Zv (Z7.mk 0 0 0 0 0 ([] : List Zc) ([] : List Z7)) .nl .nl)] er9<|zq<|zi fun r10 hr10 => ?_
           obtain ⟨qr10, er10, exr10, rfl⟩ := Z4i false ([r9] : List Zc) .sh r10 hr10
           refine zc [] (.p (.agg (ZJ r10 .sh .sh))) [(Zk (Zm.mk zn r1.2 zb zh zj (Zl.mk z2 z6)) zu zd), (Zv (Z7.mk 0 0 0 0 0 ([] : List Zc) ([] : List Z7)) .nl .nl)] er10<|zt [(Zk (Zm.mk zn r1.2 zb zh zj (Zl.mk z2 z6)) zu zd), (Zv r10 .sh .sh)] ?_
           exact zr ((.p (.tup [(.agg (ZJ r10 .sh .sh)), (.v (.bool true))])), [(Zk (Zm.mk zn r1.2 zb zh zj (Zl.mk z2 z6)) zu zd), (Zv r10 .sh .sh)]) ⟨zd, _, zC, rfl⟩
         ·refine ze<|zq ?_
          refine za (r1.1 == 125) ?_ ?_
          ·refine ze<|zi fun r11 hr11 => ?_
           obtain ⟨qr11, er11, exr11, rfl⟩ := Z1p 20 zy zn r1.2 zb zh zj z2 z6 zu zd zC r11 hr11
           refine zc [0] (.p (.tup [])) [(Zk (Zm.mk zn r11.1 zb zh zj (Zl.mk r11.2.1 r11.2.2)) zu zd), (Zv (Z7.mk 0 0 0 0 0 ([] : List Zc) ([] : List Z7)) .nl .nl)] er11 ?_
           exact zk (Z2a zn r11.1 zb zh zj r11.2.1 r11.2.2 (Z7.mk 0 0 0 0 0 ([] : List Zc) ([] : List Z7)) zu zd .nl .nl zC rfl rfl)
          ·refine ze<|zi fun r12 hr12 => ?_
           obtain ⟨qr12, er12, exr12, rfl⟩ := Z2s r1.1 r12 hr12
           refine zc [] (.p (.agg (Z12 r12))) [(Zk (Zm.mk zn r1.2 zb zh zj (Zl.mk z2 z6)) zu zd), (Zv (Z7.mk 0 0 0 0 0 ([] : List Zc) ([] : List Z7)) .nl .nl)] er12<|zq<|zi fun r13 hr13 => ?_
           obtain ⟨qr13, er13, exr13, rfl⟩ := Z4i false ([r12] : List Zc) .sh r13 hr13
           refine zc [] (.p (.agg (ZJ r13 .sh .sh))) [(Zk (Zm.mk zn r1.2 zb zh zj (Zl.mk z2 z6)) zu zd), (Zv (Z7.mk 0 0 0 0 0 ([] : List Zc) ([] : List Z7)) .nl .nl)] er13<|zt [(Zk (Zm.mk zn r1.2 zb zh zj (Zl.mk z2 z6)) zu zd), (Zv r13 .sh .sh)] ?_
           exact zr ((.p (.tup [(.agg (ZJ r13 .sh .sh)), (.v (.bool true))])), [(Zk (Zm.mk zn r1.2 zb zh zj (Zl.mk z2 z6)) zu zd), (Zv r13 .sh .sh)]) ⟨zd, _, zC, rfl⟩
       ·refine ze<|zq ?_
        refine za (r1.1 == 43) ?_ ?_
        ·refine za (r1.1 == 43) ?_ ?_
         ·refine ze<|zi fun r14 hr14 => ?_
          obtain ⟨qr14, er14, exr14, rfl⟩ := Z1p 23 zy zn r1.2 zb zh zj z2 z6 zu zd zC r14 hr14
          refine zc [0] (.p (.tup [])) [(Zk (Zm.mk zn r14.1 zb zh zj (Zl.mk r14.2.1 r14.2.2)) zu zd), (Zv (Z7.mk 0 0 0 0 0 ([] : List Zc) ([] : List Z7)) .nl .nl)] er14 ?_
          exact zk (Z2a zn r14.1 zb zh zj r14.2.1 r14.2.2 (Z7.mk 0 0 0 0 0 ([] : List Zc) ([] : List Z7)) zu zd .nl .nl zC rfl rfl)
         ·refine ze<|zq ?_
          refine za (r1.1 == 93) ?_ ?_
          ·refine za (r1.1 == 93) ?_ ?_
           ·refine ze<|zi fun r15 hr15 => ?_
            obtain ⟨qr15, er15, exr15, rfl⟩ := Z1p 20 zy zn r1.2 zb zh zj z2 z6 zu zd zC r15 hr15
            refine zc [0] (.p (.tup [])) [(Zk (Zm.mk zn r15.1 zb zh zj (Zl.mk r15.2.1 r15.2.2)) zu zd), (Zv (Z7.mk 0 0 0 0 0 ([] : List Zc) ([] : List Z7)) .nl .nl)] er15 ?_
            exact zk (Z2a zn r15.1 zb zh zj r15.2.1 r15.2.2 (Z7.mk 0 0 0 0 0 ([] : List Zc) ([] : List Z7)) zu zd .nl .nl zC rfl rfl)
           ·refine ze<|zi fun r16 hr16 => ?_
            obtain ⟨qr16, er16, exr16, rfl⟩ := Z2s r1.1 r16 hr16
            refine zc [] (.p (.agg (Z12 r16))) [(Zk (Zm.mk zn r1.2 zb zh zj (Zl.mk z2 z6)) zu zd), (Zv (Z7.mk 0 0 0 0 0 ([] : List Zc) ([] : List Z7)) .nl .nl)] er16<|zq<|zi fun r17 hr17 => ?_
            obtain ⟨qr17, er17, exr17, rfl⟩ := Z4i false ([r16] : List Zc) .sh r17 hr17
            refine zc [] (.p (.agg (ZJ r17 .sh .sh))) [(Zk (Zm.mk zn r1.2 zb zh zj (Zl.mk z2 z6)) zu zd), (Zv (Z7.mk 0 0 0 0 0 ([] : List Zc) ([] : List Z7)) .nl .nl)] er17<|zt [(Zk (Zm.mk zn r1.2 zb zh zj (Zl.mk z2 z6)) zu zd), (Zv r17 .sh .sh)] ?_
            exact zr ((.p (.tup [(.agg (ZJ r17 .sh .sh)), (.v (.bool true))])), [(Zk (Zm.mk zn r1.2 zb zh zj (Zl.mk z2 z6)) zu zd), (Zv r17 .sh .sh)]) ⟨zd, _, zC, rfl⟩
          ·refine ze<|zq ?_
           refine za (r1.1 == 125) ?_ ?_
           ·refine ze<|zi fun r18 hr18 => ?_
            obtain ⟨qr18, er18, exr18, rfl⟩ := Z1p 20 zy zn r1.2 zb zh zj z2 z6 zu zd zC r18 hr18
            refine zc [0] (.p (.tup [])) [(Zk (Zm.mk zn r18.1 zb zh zj (Zl.mk r18.2.1 r18.2.2)) zu zd), (Zv (Z7.mk 0 0 0 0 0 ([] : List Zc) ([] : List Z7)) .nl .nl)] er18 ?_
            exact zk (Z2a zn r18.1 zb zh zj r18.2.1 r18.2.2 (Z7.mk 0 0 0 0 0 ([] : List Zc) ([] : List Z7)) zu zd .nl .nl zC rfl rfl)
           ·refine ze<|zi fun r19 hr19 => ?_
            obtain ⟨qr19, er19, exr19, rfl⟩ := Z2s r1.1 r19 hr19
            refine zc [] (.p (.agg (Z12 r19))) [(Zk (Zm.mk zn r1.2 zb zh zj (Zl.mk z2 z6)) zu zd), (Zv (Z7.mk 0 0 0 0 0 ([] : List Zc) ([] : List Z7)) .nl .nl)] er19<|zq<|zi fun r20 hr20 => ?_
            obtain ⟨qr20, er20, exr20, rfl⟩ := Z4i false ([r19] : List Zc) .sh r20 hr20
            refine zc [] (.p (.agg (ZJ r20 .sh .sh))) [(Zk (Zm.mk zn r1.2 zb zh zj (Zl.mk z2 z6)) zu zd), (Zv (Z7.mk 0 0 0 0 0 ([] : List Zc) ([] : List Z7)) .nl .nl)] er20<|zt [(Zk (Zm.mk zn r1.2 zb zh zj (Zl.mk z2 z6)) zu zd), (Zv r20 .sh .sh)] ?_
            exact zr ((.p (.tup [(.agg (ZJ r20 .sh .sh)), (.v (.bool true))])), [(Zk (Zm.mk zn r1.2 zb zh zj (Zl.mk z2 z6)) zu zd), (Zv r20 .sh .sh)]) ⟨zd, _, zC, rfl⟩
        ·refine ze<|zq ?_
         refine za (r1.1 == 63) ?_ ?_
         ·refine za (r1.1 == 63) ?_ ?_
          ·refine ze<|zi fun r21 hr21 => ?_
           obtain ⟨qr21, er21, exr21, rfl⟩ := Z1p 23 zy zn r1.2 zb zh zj z2 z6 zu zd zC r21 hr21
           refine zc [0] (.p (.tup [])) [(Zk (Zm.mk zn r21.1 zb zh zj (Zl.mk r21.2.1 r21.2.2)) zu zd), (Zv (Z7.mk 0 0 0 0 0 ([] : List Zc) ([] : List Z7)) .nl .nl)] er21 ?_
           exact zk (Z2a zn r21.1 zb zh zj r21.2.1 r21.2.2 (Z7.mk 0 0 0 0 0 ([] : List Zc) ([] : List Z7)) zu zd .nl .nl zC rfl rfl)
          ·refine ze<|zq ?_
           refine za (r1.1 == 93) ?_ ?_
           ·refine za (r1.1 == 93) ?_ ?_
            ·refine ze<|zi fun r22 hr22 => ?_
             obtain ⟨qr22, er22, exr22, rfl⟩ := Z1p 20 zy zn r1.2 zb zh zj z2 z6 zu zd zC r22 hr22
             refine zc [0] (.p (.tup [])) [(Zk (Zm.mk zn r22.1 zb zh zj (Zl.mk r22.2.1 r22.2.2)) zu zd), (Zv (Z7.mk 0 0 0 0 0 ([] : List Zc) ([] : List Z7)) .nl .nl)] er22 ?_
             exact zk (Z2a zn r22.1 zb zh zj r22.2.1 r22.2.2 (Z7.mk 0 0 0 0 0 ([] : List Zc) ([] : List Z7)) zu zd .nl .nl zC rfl rfl)
            ·refine ze<|zi fun r23 hr23 => ?_
             obtain ⟨qr23, er23, exr23, rfl⟩ := Z2s r1.1 r23 hr23
             refine zc [] (.p (.agg (Z12 r23))) [(Zk (Zm.mk zn r1.2 zb zh zj (Zl.mk z2 z6)) zu zd), (Zv (Z7.mk 0 0 0 0 0 ([] : List Zc) ([] : List Z7)) .nl .nl)] er23<|zq<|zi fun r24 hr24 => ?_
             obtain ⟨qr24, er24, exr24, rfl⟩ := Z4i false ([r23] : List Zc) .sh r24 hr24
             refine zc [] (.p (.agg (ZJ r24 .sh .sh))) [(Zk (Zm.mk zn r1.2 zb zh zj (Zl.mk z2 z6)) zu zd), (Zv (Z7.mk 0 0 0 0 0 ([] : List Zc) ([] : List Z7)) .nl .nl)] er24<|zt [(Zk (Zm.mk zn r1.2 zb zh zj (Zl.mk z2 z6)) zu zd), (Zv r24 .sh .sh)] ?_
             exact zr ((.p (.tup [(.agg (ZJ r24 .sh .sh)), (.v (.bool true))])), [(Zk (Zm.mk zn r1.2 zb zh zj (Zl.mk z2 z6)) zu zd), (Zv r24 .sh .sh)]) ⟨zd, _, zC, rfl⟩
           ·refine ze<|zq ?_
            refine za (r1.1 == 125) ?_ ?_
            ·refine ze<|zi fun r25 hr25 => ?_
             obtain ⟨qr25, er25, exr25, rfl⟩ := Z1p 20 zy zn r1.2 zb zh zj z2 z6 zu zd zC r25 hr25
             refine zc [0] (.p (.tup [])) [(Zk (Zm.mk zn r25.1 zb zh zj (Zl.mk r25.2.1 r25.2.2)) zu zd), (Zv (Z7.mk 0 0 0 0 0 ([] : List Zc) ([] : List Z7)) .nl .nl)] er25 ?_
             exact zk (Z2a zn r25.1 zb zh zj r25.2.1 r25.2.2 (Z7.mk 0 0 0 0 0 ([] : List Zc) ([] : List Z7)) zu zd .nl .nl zC rfl rfl)
            ·refine ze<|zi fun r26 hr26 => ?_
             obtain ⟨qr26, er26, exr26, rfl⟩ := Z2s r1.1 r26 hr26
             refine zc [] (.p (.agg (Z12 r26))) [(Zk (Zm.mk zn r1.2 zb zh zj (Zl.mk z2 z6)) zu zd), (Zv (Z7.mk 0 0 0 0 0 ([] : List Zc) ([] : List Z7)) .nl .nl)] er26<|zq<|zi fun r27 hr27 => ?_
             obtain ⟨qr27, er27, exr27, rfl⟩ := Z4i false ([r26] : List Zc) .sh r27 hr27
             refine zc [] (.p (.agg (ZJ r27 .sh .sh))) [(Zk (Zm.mk zn r1.2 zb zh zj (Zl.mk z2 z6)) zu zd), (Zv (Z7.mk 0 0 0 0 0 ([] : List Zc) ([] : List Z7)) .nl .nl)] er27<|zt [(Zk (Zm.mk zn r1.2 zb zh zj (Zl.mk z2 z6)) zu zd), (Zv r27 .sh .sh)] ?_
             exact zr ((.p (.tup [(.agg (ZJ r27 .sh .sh)), (.v (.bool true))])), [(Zk (Zm.mk zn r1.2 zb zh zj (Zl.mk z2 z6)) zu zd), (Zv r27 .sh .sh)]) ⟨zd, _, zC, rfl⟩
         ·refine ze<|zq ?_
          refine za (r1.1 == 123) ?_ ?_
          ·refine ze<|zi fun r28 hr28 => ?_
           obtain ⟨qr28, er28, exr28, rfl⟩ := Z1p 23 zy zn r1.2 zb zh zj z2 z6 zu zd zC r28 hr28
           refine zc [0] (.p (.tup [])) [(Zk (Zm.mk zn r28.1 zb zh zj (Zl.mk r28.2.1 r28.2.2)) zu zd), (Zv (Z7.mk 0 0 0 0 0 ([] : List Zc) ([] : List Z7)) .nl .nl)] er28 ?_
           exact zk (Z2a zn r28.1 zb zh zj r28.2.1 r28.2.2 (Z7.mk 0 0 0 0 0 ([] : List Zc) ([] : List Z7)) zu zd .nl .nl zC rfl rfl)
          ·refine ze<|zq ?_
           refine za (r1.1 == 93) ?_ ?_
           ·refine za (r1.1 == 93) ?_ ?_
            ·refine ze<|zi fun r29 hr29 => ?_
             obtain ⟨qr29, er29, exr29, rfl⟩ := Z1p 20 zy zn r1.2 zb zh zj z2 z6 zu zd zC r29 hr29
             refine zc [0] (.p (.tup [])) [(Zk (Zm.mk zn r29.1 zb zh zj (Zl.mk r29.2.1 r29.2.2)) zu zd), (Zv (Z7.mk 0 0 0 0 0 ([] : List Zc) ([] : List Z7)) .nl .nl)] er29 ?_
             exact zk (Z2a zn r29.1 zb zh zj r29.2.1 r29.2.2 (Z7.mk 0 0 0 0 0 ([] : List Zc) ([] : List Z7)) zu zd .nl .nl zC rfl rfl)
            ·refine ze<|zi fun r30 hr30 => ?_
             obtain ⟨qr30, er30, exr30, rfl⟩ := Z2s r1.1 r30 hr30
             refine zc [] (.p (.agg (Z12 r30))) [(Zk (Zm.mk zn r1.2 zb zh zj (Zl.mk z2 z6)) zu zd), (Zv (Z7.mk 0 0 0 0 0 ([] : List Zc) ([] : List Z7)) .nl .nl)] er30<|zq<|zi fun r31 hr31 => ?_
             obtain ⟨qr31, er31, exr31, rfl⟩ := Z4i false ([r30] : List Zc) .sh r31 hr31
             refine zc [] (.p (.agg (ZJ r31 .sh .sh))) [(Zk (Zm.mk zn r1.2 zb zh zj (Zl.mk z2 z6)) zu zd), (Zv (Z7.mk 0 0 0 0 0 ([] : List Zc) ([] : List Z7)) .nl .nl)] er31<|zt [(Zk (Zm.mk zn r1.2 zb zh zj (Zl.mk z2 z6)) zu zd), (Zv r31 .sh .sh)] ?_
             exact zr ((.p (.tup [(.agg (ZJ r31 .sh .sh)), (.v (.bool true))])), [(Zk (Zm.mk zn r1.2 zb zh zj (Zl.mk z2 z6)) zu zd), (Zv r31 .sh .sh)]) ⟨zd, _, zC, rfl⟩
           ·refine ze<|zq ?_
            refine za (r1.1 == 125) ?_ ?_
            ·refine ze<|zi fun r32 hr32 => ?_
             obtain ⟨qr32, er32, exr32, rfl⟩ := Z1p 20 zy zn r1.2 zb zh zj z2 z6 zu zd zC r32 hr32
             refine zc [0] (.p (.tup [])) [(Zk (Zm.mk zn r32.1 zb zh zj (Zl.mk r32.2.1 r32.2.2)) zu zd), (Zv (Z7.mk 0 0 0 0 0 ([] : List Zc) ([] : List Z7)) .nl .nl)] er32 ?_
             exact zk (Z2a zn r32.1 zb zh zj r32.2.1 r32.2.2 (Z7.mk 0 0 0 0 0 ([] : List Zc) ([] : List Z7)) zu zd .nl .nl zC rfl rfl)
            ·refine ze<|zi fun r33 hr33 => ?_
             obtain ⟨qr33, er33, exr33, rfl⟩ := Z2s r1.1 r33 hr33
             refine zc [] (.p (.agg (Z12 r33))) [(Zk (Zm.mk zn r1.2 zb zh zj (Zl.mk z2 z6)) zu zd), (Zv (Z7.mk 0 0 0 0 0 ([] : List Zc) ([] : List Z7)) .nl .nl)] er33<|zq<|zi fun r34 hr34 => ?_
             obtain ⟨qr34, er34, exr34, rfl⟩ := Z4i false ([r33] : List Zc) .sh r34 hr34
             refine zc [] (.p (.agg (ZJ r34 .sh .sh))) [(Zk (Zm.mk zn r1.2 zb zh zj (Zl.mk z2 z6)) zu zd), (Zv (Z7.mk 0 0 0 0 0 ([] : List Zc) ([] : List Z7)) .nl .nl)] er34<|zt [(Zk (Zm.mk zn r1.2 zb zh zj (Zl.mk z2 z6)) zu zd), (Zv r34 .sh .sh)] ?_
             exact zr ((.p (.tup [(.agg (ZJ r34 .sh .sh)), (.v (.bool true))])), [(Zk (Zm.mk zn r1.2 zb zh zj (Zl.mk z2 z6)) zu zd), (Zv r34 .sh .sh)]) ⟨zd, _, zC, rfl⟩
theorem Zl1 (zn : List Int) (zy zb zh : Int) (zj : List Zz) (z2 z6 : Int) {r} (h : Z7R zn zy zb zh zj z2 z6 = some r) : Z9Z zn zy zb zh zj z2 z6 = some r :=
 Z1f (fun _ _ ha hb => RRun.uniq (Zls _ _) (ha .ex .ex rfl) (hb .ex .ex rfl)) (fun zu zd zC => Zk5 zn zy zb zh zj z2 z6 zu zd zC r h)
def Z9M (zn : List Int) (zy : Int) : Option (Int × Int) :=
 (Zeu zn zy).bind fun r1 =>
 some (r1.1, (IntKind.i64.wrap (zy + r1.2)))
theorem Zkc zn zy zb zh zj z2 z6 zu zd (zC : ZR zd = true) : Sim (Z7O zn zb zh zj z2 z6 zu zd) (Z9M zn zy) (EE 127 [(.ptr 0 0)] [(Zk (Zm.mk zn zy zb zh zj (Zl.mk z2 z6)) zu zd)]) := by
 unfold Z9M
 refine zf (ZEP ..)<|ze<|ze<|zq<|zq<|zq<|zq<|zq<|zq<|zi fun r1 hr1 => ?_
 obtain ⟨qr1, er1, exr1, rfl⟩ := Zmg zn zy .sh r1 hr1
 refine zc [] (.p (.tup [(.v (.int .i64 r1.1)), (.v (.int .i64 r1.2))])) [(Zk (Zm.mk zn zy zb zh zj (Zl.mk z2 z6)) zu zd)] er1<|zq<|zq<|ze<|zq<|zq<|zq<|zq<|zq<|zq<|zt [(Zk (Zm.mk zn (IntKind.i64.wrap (zy + r1.2)) zb zh zj (Zl.mk z2 z6)) zu zd)]<|ze ?_
 exact zr ((iv r1.1), [(Zk (Zm.mk zn (IntKind.i64.wrap (zy + r1.2)) zb zh zj (Zl.mk z2 z6)) zu zd)]) ⟨_, rfl⟩
theorem Zl5 (zn : List Int) (zy : Int) {r} (h : Z9M zn zy = some r) : Z3k zn zy = some r :=
 Z1f (fun _ _ ha hb => RRun.uniq (Zlv _ _ _ _ _ _ _ _) (ha default default default default default .ex .ex rfl) (hb default default default default default .ex .ex rfl)) (fun zb zh zj z2 z6 zu zd zC => Zkc zn zy zb zh zj z2 z6 zu zd zC r h)
def ZkR (x0 : Int) : Option (Zc) :=
 some (Zc.mk x0 x0)
theorem Zs3 x0 : Sim (Ze3) (ZkR x0) (EE 129 [(iv x0)] []) := by
 unfold ZkR
 refine zf (ZES ..)<|ze<|zz (.ptr 0 0) [(Z2D (Zc.mk 0 0))]<|ze<|zq<|zt [(Z2D (Zc.mk x0 x0))] ?_
 exact zr ((.p (.agg (Z12 (Zc.mk x0 x0)))), [(Z2D (Zc.mk x0 x0))]) ⟨_, rfl⟩
theorem Zuk (x0 : Int) {r} (h : ZkR x0 = some r) : Z2A x0 = some r :=
 Z1f (fun _ _ ha hb => RRun.uniq ZuU (ha ) (hb )) (Zs3 x0 r h)
def Zd7 (x5 : List Zc) : Option (Z7) :=
 some (Z7.mk 1 0 0 0 0 x5 ([] : List Z7))
theorem ZhH (x5 : List Zc) b0 ox5 z1T z1D (zDG : ZR z1T = true) (zCt : ZR z1D = true) : Sim (Zca) (Zd7 x5) (Zpt 0 (.ptr 0 0) (.p (.lst ox5 (x5.map ZE))) [(Zv b0 z1T z1D)]) := by
 unfold Zd7
 refine zf (Zzc ..)<|ze<|zq<|zt [(Zv (Z7.mk 1 0 0 0 0 x5 ([] : List Z7)) (shrO (shrO ox5)) .nl)] ?_
 exact zr ((.p (.agg (ZJ (Z7.mk 1 0 0 0 0 x5 ([] : List Z7)) .sh .sh))), [(Zv (Z7.mk 1 0 0 0 0 x5 ([] : List Z7)) (shrO (shrO ox5)) .nl)]) ⟨_, rfl⟩
def Zhe (x0 : Bool) (x1 : List Zc) : Option (Z7) :=
 (ZfL x1).bind fun r1 =>
 if (x0) = true then
 ((Zas r1.1).bind fun r2 =>
 Zd7 r2.1)
 else
 (Zd7 r1.1)
theorem Zs4 x0 (x1 : List Zc) ox1 : Sim (Zca) (Zhe x0 x1) (EE 128 [(bv x0), (.p (.lst ox1 (x1.map ZE)))] []) := by
 unfold Zhe
 refine zf (ZEQ ..)<|ze<|zz (.ptr 0 0) [(Zv (Z7.mk 0 0 0 0 0 ([] : List Zc) ([] : List Z7)) .nl .nl)]<|ze<|zi fun r1 hr1 => ?_
 obtain ⟨qr1, er1, exr1, rfl⟩ := Zs1 x1 .sh r1 hr1
 refine zc [] (.p (.tup [(.lst .sh (r1.1.map ZE)), (.v (.int .i64 r1.2))])) [(Zv (Z7.mk 0 0 0 0 0 ([] : List Zc) ([] : List Z7)) .nl .nl)] er1<|zq<|zq<|ze ?_
 refine za x0 ?_ ?_
 ·refine ze<|zi fun r2 hr2 => ?_
  obtain ⟨qr2, er2, exr2, rfl⟩ := ZhA r1.1 .sh r2 hr2
  refine zc [] (.p (.tup [(.lst .sh (r2.1.map ZE)), (.v (.int .i64 r2.2))])) [(Zv (Z7.mk 0 0 0 0 0 ([] : List Zc) ([] : List Z7)) .nl .nl)] er2<|zq<|zq ?_
  exact zk (ZhH r2.1 (Z7.mk 0 0 0 0 0 ([] : List Zc) ([] : List Z7)) .sh .nl .nl rfl rfl)
 ·exact zk (ZhH r1.1 (Z7.mk 0 0 0 0 0 ([] : List Zc) ([] : List Z7)) .sh .nl .nl rfl rfl)
theorem Zul (x0 : Bool) (x1 : List Zc) {r} (h : Zhe x0 x1 = some r) : Z49 x0 x1 = some r :=
 Z1f (fun _ _ ha hb => RRun.uniq ZuV (ha .ex) (hb .ex)) (fun ox1 => Zs4 x0 x1 ox1 r h)
def Zcg (x0 : List Zc) : Option ((List Zc) × Int) :=
 (Zdh x0).bind fun r1 =>
 some (r1, 0)
theorem Zoh (x0 : List Zc) ox0 : Sim (Zb3) (Zcg x0) (Zt5 0 (.p (.lst ox0 (x0.map ZE))) []) := by
 unfold Zcg
 refine zf (Zzn ..)<|ze<|zi fun r1 hr1 => ?_
 obtain ⟨qr1, er1, exr1, rfl⟩ := Zin x0 .sh r1 hr1
 refine zc [] (.p (.lst .sh (r1.map ZE))) [] er1 ?_
 exact zr ((.p (.tup [(.lst .sh (r1.map ZE)), (.v (.int .i64 0))])), []) ⟨_, rfl⟩
def ZfE (x0 : List Zc) : Option ((List Zc) × Int) :=
 (Z5b x0).bind fun r1 =>
 if (r1) = true then
 (some (([] : List Zc), 13))
 else
 (Zcg x0)
theorem ZqS (x0 : List Zc) ox0 : Sim (Zb3) (ZfE x0) (EE 147 [(.p (.lst ox0 (x0.map ZE)))] []) := by
 unfold ZfE
 refine zf (ZF8 ..)<|ze<|ze<|zi fun r1 hr1 => ?_
 obtain ⟨qr1, er1, exr1, rfl⟩ := ZdO x0 .sh r1 hr1
 refine zc [] (bv r1) [] er1 ?_
 refine za r1 ?_ ?_
 ·refine ze ?_
  exact zr ((.p (.tup [(.lst .sh []), (.v (.int .i64 13))])), []) ⟨_, rfl⟩
 ·exact zk (Zoh x0 ox0)
theorem Zs0 (x0 : List Zc) {r} (h : ZfE x0 = some r) : ZfL x0 = some r :=
 Z1f (fun _ _ ha hb => RRun.uniq ZsE (ha .ex) (hb .ex)) (fun ox0 => ZqS x0 ox0 r h)
def Z56 (x0 : List Zc) : Option (Bool) :=
 (Z69 x0).bind fun r1 =>
 some (decide (0 ≤ r1))
theorem Zdk (x0 : List Zc) ox0 : Sim (Z4b) (Z56 x0) (EE 166 [(.p (.lst ox0 (x0.map ZE))), (.clo 167 [] [])] []) := by
 unfold Z56
 refine zf (ZFr ..)<|ze<|ze<|zi fun r1 hr1 => ?_
 obtain ⟨qr1, er1, exr1, rfl⟩ := Zfv x0 .sh r1 hr1
 refine zc [] (iv r1) [] er1<|zq ?_
 exact zr ((bv (decide (0 ≤ r1))), []) ⟨_, rfl⟩
theorem ZdN (x0 : List Zc) {r} (h : Z56 x0 = some r) : Z5b x0 = some r :=
 Z1f (fun _ _ ha hb => RRun.uniq Ze6 (ha .ex) (hb .ex)) (fun ox0 => Zdk x0 ox0 r h)
def Z63 (x0 : List Zc) : Option (Int) :=
 Z4f x0 (x0.length : Int) 0
theorem ZeU (x0 : List Zc) ox0 : Sim (Z2i) (Z63 x0) (EE 179 [(.p (.lst ox0 (x0.map ZE))), (.clo 167 [] [])] []) := by
 unfold Z63
 refine zf (ZFF ..)<|ze<|ze ?_
 refine zo (iv (x0.length : Int)) ?_ (Eq.trans (by kernel_rfl) (Z30 (P := PP) (t := 94) (d := 201) (by kernel_rfl) ZE (shrO ox0) x0))
 exact zk (Z96 x0 (x0.length : Int) 0 ox0)
theorem Zfu (x0 : List Zc) {r} (h : Z63 x0 = some r) : Z69 x0 = some r :=
 Z1f (fun _ _ ha hb => RRun.uniq Zad (ha .ex) (hb .ex)) (fun ox0 => ZeU x0 ox0 r h)
def Z59 (x0 : List Zc) (x7 x8 : Int) : Option (Int) :=
 Z4f x0 x7 (IntKind.i64.wrap (x8 + 1))
theorem Zdr (x0 : List Zc) x7 x8 ox0 : Sim (Z2i) (Z59 x0 x7 x8) (ZtK 0 (.p (.lst ox0 (x0.map ZE))) (.clo 167 [] []) (iv x7) (iv x8) []) := by
 unfold Z59
 refine zf (ZzV ..)<|ze<|zq ?_
 exact zk (Z96 x0 x7 (IntKind.i64.wrap (x8 + 1)) ox0)
def Z58 (x0 : List Zc) (x7 x8 : Int) : Option (Int) :=
 (lget x0 x8).bind fun a1 =>
 (Zdf a1).bind fun r2 =>
 if (r2) = true then
 (some (x8))
 else
 (Z59 x0 x7 x8)
theorem Zdq (x0 : List Zc) x7 x8 ox0 : Sim (Z2i) (Z58 x0 x7 x8) (ZtJ 0 (.p (.lst ox0 (x0.map ZE))) (.clo 167 [] []) (iv x7) (iv x8) []) := by
 unfold Z58
 refine zf (ZzU ..)<|ze<|ze<|zi fun a1 ha1 => ?_
 refine zo (.cptr (Z12 a1)) ?_ (Eq.trans (by kernel_rfl) (Z3X (o := (shrO ox0)) (k := .i64) (n := 2) (e := ZE) (cs := Z82) (fun _ => rfl) (fun _ => rfl) (by decide) ha1))
 refine zq<|zi fun r2 hr2 => ?_
 obtain ⟨qr2, er2, exr2, rfl⟩ := ZpX a1 r2 hr2
 refine zv [] (bv r2) [] er2 ?_
 refine za r2 ?_ ?_
 ·refine ze ?_
  exact zr ((iv x8), []) ⟨_, rfl⟩
 ·exact zk (Zdr x0 x7 x8 ox0)
def Z7e  : Option (Int) :=
 some (-1)
theorem Zds  : Sim (Z2i) (Z7e) (ZtL 0  []) := by
 unfold Z7e
 refine zf (ZzW ..)<|ze ?_
 exact zr ((iv (-1)), []) ⟨_, rfl⟩
def Z4d (x0 : List Zc) (x7 x8 : Int) : Option (Int) :=
 if (decide (x8 < x7)) = true then
 (Z58 x0 x7 x8)
 else
 (Z7e)
theorem Zdp (x0 : List Zc) x7 x8 ox0 : Sim (Z2i) (Z4d x0 x7 x8) (Zj8 0 (.p (.lst ox0 (x0.map ZE))) (.clo 167 [] []) (iv x7) (iv x8) []) := by
 unfold Z4d
 refine zf (ZzT ..)<|ze<|zq ?_
 refine za (decide (x8 < x7)) ?_ ?_
 ·exact zk (Zdq x0 x7 x8 ox0)
 ·exact zk (Zds )
theorem Z95 (x0 : List Zc) (x7 x8 : Int) {r} (h : Z4d x0 x7 x8 = some r) : Z4f x0 x7 x8 = some r :=
 Z1f (fun _ _ ha hb => RRun.uniq Zad (ha .ex) (hb .ex)) (fun ox0 => Zdp x0 x7 x8 ox0 r h)
def Zd2 (x0 : Zc) : Option (Bool) :=
 (Z7X x0).bind fun r1 =>
 some (!r1)
theorem ZoG x0 : Sim (Zb4) (Zd2 x0) (EE 167 [(.p (.agg (Z12 x0)))] []) := by
 unfold Zd2
 refine zf (ZFs ..)<|ze<|zx (.ptr 0 0) [(Z2D x0)]<|ze<|zq<|zi fun r1 hr1 => ?_
 obtain ⟨qr1, er1, exr1, rfl⟩ := Zea x0 r1 hr1
 refine zc [] (bv r1) [(Z2D x0)] er1<|zq ?_
 exact zr ((bv (!r1)), [(Z2D x0)]) ⟨_, rfl⟩
theorem ZpW (x0 : Zc) {r} (h : Zd2 x0 = some r) : Zdf x0 = some r :=
 Z1f (fun _ _ ha hb => RRun.uniq Zqv (ha ) (hb )) (ZoG x0 r h)
def Z9J (x0 : Zc) : Option (Bool) :=
 if (decide (0 ≤ x0.Lo)) = true then
 (if (decide (x0.Lo ≤ x0.Hi)) = true then
 (some (decide (x0.Hi ≤ 1114367)))
 else
 (some (false)))
 else
 (some (false))
theorem Zk1 x0 : Sim (Z7N) (Z9J x0) (EE 168 [(.p (.agg (Z12 x0)))] []) := by
 unfold Z9J
 refine zf (ZFt ..)<|ze<|zx (.ptr 0 0) [(Z2D x0)]<|ze<|zq<|zq<|zq ?_
 refine za (decide (0 ≤ x0.Lo)) ?_ ?_
 ·refine zq<|zq<|zq<|zq<|zq ?_
  refine za (decide (x0.Lo ≤ x0.Hi)) ?_ ?_
  ·refine zq<|zq<|zq ?_
   exact zr ((bv (decide (x0.Hi ≤ 1114367))), [(Z2D x0)]) ⟨_, rfl⟩
  ·exact zr ((bv false), [(Z2D x0)]) ⟨_, rfl⟩
 ·exact zr ((bv false), [(Z2D x0)]) ⟨_, rfl⟩
theorem ZkU (x0 : Zc) {r} (h : Z9J x0 = some r) : Z7X x0 = some r :=
 Z1f (fun _ _ ha hb => RRun.uniq Zlr (ha ) (hb )) (Zk1 x0 r h)
def Zaf (x0 : List Zc) : Option ((List Zc) × Int) :=
 (Zcs x0).bind fun r1 =>
 some (r1, 0)
theorem ZkW (x0 : List Zc) ox0 : Sim (Z8B) (Zaf x0) (Zt6 0 (.p (.lst ox0 (x0.map ZE))) []) := by
 unfold Zaf
 refine zf (Zzo ..)<|ze<|zi fun r1 hr1 => ?_
 obtain ⟨qr1, er1, exr1, rfl⟩ := ZoM x0 .sh r1 hr1
 refine zc [] (.p (.lst .sh (r1.map ZE))) [] er1 ?_
 exact zr ((.p (.tup [(.lst .sh (r1.map ZE)), (.v (.int .i64 0))])), []) ⟨_, rfl⟩
def Zci (x0 : List Zc) : Option ((List Zc) × Int) :=
 (Z6Z x0).bind fun r1 =>
 if (!r1) = true then
 (some (([] : List Zc), 10))
 else
 (Zaf x0)
theorem Zoj (x0 : List Zc) ox0 : Sim (Z8B) (Zci x0) (EE 148 [(.p (.lst ox0 (x0.map ZE)))] []) := by
 unfold Zci
 refine zf (ZFa ..)<|ze<|ze<|zi fun r1 hr1 => ?_
 obtain ⟨qr1, er1, exr1, rfl⟩ := Zbe x0 .sh r1 hr1
 refine zc [] (bv r1) [] er1<|zq ?_
 refine za (!r1) ?_ ?_
 ·refine ze ?_
  exact zr ((.p (.tup [(.lst .sh []), (.v (.int .i64 10))])), []) ⟨_, rfl⟩
 ·exact zk (ZkW x0 ox0)
theorem ZoJ (x0 : List Zc) {r} (h : Zci x0 = some r) : Zas x0 = some r :=
 Z1f (fun _ _ ha hb => RRun.uniq ZpU (ha .ex) (hb .ex)) (fun ox0 => Zoj x0 ox0 r h)
def Zae (x0 : List Zc) : Option (Bool) :=
 Z70 (-2) x0 (x0.length : Int) 0
theorem ZkV (x0 : List Zc) ox0 : Sim (Z2X) (Zae x0) (EE 170 [(.p (.lst ox0 (x0.map ZE)))] []) := by
 unfold Zae
 refine zf (ZFu ..)<|ze<|ze<|ze ?_
 refine zo (iv (x0.length : Int)) ?_ (Eq.trans (by kernel_rfl) (Z30 (P := PP) (t := 95) (d := 201) (by kernel_rfl) ZE (shrO ox0) x0))
 exact zk (Zcz (-2) x0 (x0.length : Int) 0 (shrO ox0))
theorem ZlU (x0 : List Zc) {r} (h : Zae x0 = some r) : Z6Z x0 = some r :=
 Z1f (fun _ _ ha hb => RRun.uniq Zfz (ha .ex) (hb .ex)) (fun ox0 => ZkV x0 ox0 r h)
def Z8E  : Option (Bool) :=
 some (false)
theorem Zcr  : Sim (Z2X) (Z8E) (ZpB 0  []) := by
 unfold Z8E
 refine zf (ZzH ..)<|ze ?_
 exact zr ((bv false), []) ⟨_, rfl⟩
def Z8G (x3 : Int) (x6 : List Zc) (x7 x8 : Int) : Option (Bool) :=
 Z70 x3 x6 x7 (IntKind.i64.wrap (x8 + 1))
theorem Zix x3 (x6 : List Zc) x7 x8 ox6 : Sim (Z2X) (Z8G x3 x6 x7 x8) (Zty 0 (iv x3) (.p (.lst ox6 (x6.map ZE))) (iv x7) (iv x8) []) := by
 unfold Z8G
 refine zf (ZzJ ..)<|ze<|zq ?_
 exact zk (Zcz x3 x6 x7 (IntKind.i64.wrap (x8 + 1)) ox6)
def Z8F (x6 : List Zc) (x7 x8 : Int) (b0 : Zc) : Option (Bool) :=
 Z8G b0.Hi x6 x7 x8
theorem Ziw (x6 : List Zc) x7 x8 b0 ox6 : Sim (Z2X) (Z8F x6 x7 x8 b0) (Ztx 0 (.ptr 0 0) (.p (.lst ox6 (x6.map ZE))) (iv x7) (iv x8) [(Z2D b0)]) := by
 unfold Z8F
 refine zf (ZzI ..)<|ze<|zq<|zq ?_
 exact zk (Zix b0.Hi x6 x7 x8 ox6)
def Z8D (x3 : Int) (x6 : List Zc) (x7 x8 : Int) : Option (Bool) :=
 (lget x6 x8).bind fun a1 =>
 (Z7X a1).bind fun r2 =>
 if (!r2) = true then
 (Z8E)
 else
 (if (decide (a1.Lo < (IntKind.i64.wrap (x3 + 2)))) = true then
 (Z8E)
 else
 (Z8F x6 x7 x8 a1))
theorem Ziv x3 (x6 : List Zc) x7 x8 ox6 : Sim (Z2X) (Z8D x3 x6 x7 x8) (Ztw 0 (iv x3) (.p (.lst ox6 (x6.map ZE))) (iv x7) (iv x8) []) := by
 unfold Z8D
 refine zf (ZzG ..)<|ze<|zi fun a1 ha1 => ?_
 refine zo (.cptr (Z12 a1)) ?_ (Eq.trans (by kernel_rfl) (Z3X (o := ox6) (k := .i64) (n := 2) (e := ZE) (cs := Z82) (fun _ => rfl) (fun _ => rfl) (by decide) ha1))
 refine zq<|zz (.ptr 0 0) [(Z2D (Zc.mk 0 0))]<|zt [(Z2D a1)]<|ze<|zq<|zi fun r2 hr2 => ?_
 obtain ⟨qr2, er2, exr2, rfl⟩ := Zea a1 r2 hr2
 refine zc [] (bv r2) [(Z2D a1)] er2<|zq ?_
 refine za (!r2) ?_ ?_
 ·exact zk (Zcr )
 ·refine zq<|zq<|zq<|zq ?_
  refine za (decide (a1.Lo < (IntKind.i64.wrap (x3 + 2)))) ?_ ?_
  ·exact zk (Zcr )
  ·exact zk (Ziw x6 x7 x8 a1 ox6)
def Zb8  : Option (Bool) :=
 some (true)
theorem Ziy  : Sim (Z2X) (Zb8) (Ztz 0  []) := by
 unfold Zb8
 refine zf (ZzK ..)<|ze ?_
 exact zr ((bv true), []) ⟨_, rfl⟩
def Z6Q (x3 : Int) (x6 : List Zc) (x7 x8 : Int) : Option (Bool) :=
 if (decide (x8 < x7)) = true then
 (Z8D x3 x6 x7 x8)
 else
 (Zb8)
theorem Ziu x3 (x6 : List Zc) x7 x8 ox6 : Sim (Z2X) (Z6Q x3 x6 x7 x8) (Zj6 0 (iv x3) (.p (.lst ox6 (x6.map ZE))) (iv x7) (iv x8) []) := by
 unfold Z6Q
 refine zf (ZzF ..)<|ze<|zq ?_
 refine za (decide (x8 < x7)) ?_ ?_
 ·exact zk (Ziv x3 x6 x7 x8 ox6)
 ·exact zk (Ziy )
theorem Zcy (x3 : Int) (x6 : List Zc) (x7 x8 : Int) {r} (h : Z6Q x3 x6 x7 x8 = some r) : Z70 x3 x6 x7 x8 = some r :=
 Z1f (fun _ _ ha hb => RRun.uniq Zfz (ha .ex) (hb .ex)) (fun ox6 => Ziu x3 x6 x7 x8 ox6 r h)
def Zcj (x0 : List Zc) : Option (List Zc) :=
 Z8t ([] : List Zc) 0 x0 (x0.length : Int) 0
theorem Zok (x0 : List Zc) ox0 : Sim (Z3w) (Zcj x0) (EE 171 [(.p (.lst ox0 (x0.map ZE)))] []) := by
 unfold Zcj
 refine zf (ZFy ..)<|ze<|ze<|ze<|ze ?_
 refine zo (iv (x0.length : Int)) ?_ (Eq.trans (by kernel_rfl) (Z30 (P := PP) (t := 95) (d := 201) (by kernel_rfl) ZE (shrO ox0) x0))
 exact zk (Zfb ([] : List Zc) 0 x0 (x0.length : Int) 0 .nl (shrO ox0) rfl)
theorem ZoL (x0 : List Zc) {r} (h : Zcj x0 = some r) : Zcs x0 = some r :=
 Z1f (fun _ _ ha hb => RRun.uniq Zii (ha .ex) (hb .ex)) (fun ox0 => Zok x0 ox0 r h)
def Zah (x3 : List Zc) (x4 : Int) (x7 : List Zc) (x8 x9 : Int) : Option (List Zc) :=
 Z8t x3 x4 x7 x8 (IntKind.i64.wrap (x9 + 1))
theorem ZkZ (x3 : List Zc) x4 (x7 : List Zc) x8 x9 ox3 ox7 (hox3 : ZR ox3 = true) : Sim (Z3w) (Zah x3 x4 x7 x8 x9) (ZtC 0 (.p (.lst ox3 (x3.map ZE))) (iv x4) (.p (.lst ox7 (x7.map ZE))) (iv x8) (iv x9) []) := by
 unfold Zah
 refine zf (ZzO ..)<|ze<|zq ?_
 exact zk (Zfb x3 x4 x7 x8 (IntKind.i64.wrap (x9 + 1)) ox3 ox7 hox3)
def Z6R (x3 x7 : List Zc) (x8 x9 : Int) (b0 : Zc) : Option (List Zc) :=
 Zah x3 (IntKind.i64.wrap (b0.Hi + 1)) x7 x8 x9
theorem Zeb (x3 x7 : List Zc) x8 x9 b0 ox3 ox7 (hox3 : ZR ox3 = true) : Sim (Z3w) (Z6R x3 x7 x8 x9 b0) (ZpE 0 (.p (.lst ox3 (x3.map ZE))) (.ptr 0 0) (.p (.lst ox7 (x7.map ZE))) (iv x8) (iv x9) [(Z2D b0)]) := by
 unfold Z6R
 refine zf (ZzN ..)<|ze<|zq<|zq<|zq ?_
 exact zk (ZkZ x3 (IntKind.i64.wrap (b0.Hi + 1)) x7 x8 x9 ox3 ox7 hox3)
def Zag (x3 : List Zc) (x4 : Int) (x7 : List Zc) (x8 x9 : Int) : Option (List Zc) :=
 (lget x7 x9).bind fun a1 =>
 if (decide (x4 < a1.Lo)) = true then
 ((lapp x3 ([(Zc.mk x4 (IntKind.i64.wrap (a1.Lo - 1)))] : List Zc)).bind fun a2 =>
 Z6R a2 x7 x8 x9 a1)
 else
 (Z6R x3 x7 x8 x9 a1)
theorem ZkY (x3 : List Zc) x4 (x7 : List Zc) x8 x9 ox3 ox7 (hox3 : ZR ox3 = true) : Sim (Z3w) (Zag x3 x4 x7 x8 x9) (ZtB 0 (.p (.lst ox3 (x3.map ZE))) (iv x4) (.p (.lst ox7 (x7.map ZE))) (iv x8) (iv x9) []) := by
 unfold Zag
 refine zf (ZzM ..)<|ze<|zi fun a1 ha1 => ?_
 refine zo (.cptr (Z12 a1)) ?_ (Eq.trans (by kernel_rfl) (Z3X (o := ox7) (k := .i64) (n := 2) (e := ZE) (cs := Z82) (fun _ => rfl) (fun _ => rfl) (by decide) ha1))
 refine zq<|zz (.ptr 0 0) [(Z2D (Zc.mk 0 0))]<|zt [(Z2D a1)]<|ze<|zq<|zq<|zq ?_
 refine za (decide (x4 < a1.Lo)) ?_ ?_
 ·refine ze<|zq<|zq<|zq<|zq<|zq<|zi fun a2 ha2 => ?_
  refine zo (.p (.lst .un (a2.map ZE))) ?_ (Eq.trans (by kernel_rfl) <| Zjk (n := 2) (o := ox3) (o' := .ex) (e := ZE) (ys := ([(Zc.mk x4 (IntKind.i64.wrap (a1.Lo - 1)))] : List Zc)) (fun _ => rfl) (by decide) hox3 ha2)
  exact zk (Zeb a2 x7 x8 x9 a1 .un ox7 rfl)
 ·exact zk (Zeb x3 x7 x8 x9 a1 ox3 ox7 hox3)
def Z6u (x3 : List Zc) : Option (List Zc) :=
 some (x3)
theorem ZdA (x3 : List Zc) ox3 (hox3 : ZR ox3 = true) : Sim (Z3w) (Z6u x3) (ZmR 0 (.p (.lst ox3 (x3.map ZE))) []) := by
 unfold Z6u
 refine zf (ZxN ..)<|ze ?_
 exact zr ((.p (.lst .sh (x3.map ZE))), []) ⟨_, rfl⟩
def Z9K (x3 : List Zc) (x4 : Int) : Option (List Zc) :=
 if (decide (x4 ≤ 1114367)) = true then
 ((lapp x3 ([(Zc.mk x4 1114367)] : List Zc)).bind fun a1 =>
 Z6u a1)
 else
 (Z6u x3)
theorem Zk2 (x3 : List Zc) x4 ox3 (hox3 : ZR ox3 = true) : Sim (Z3w) (Z9K x3 x4) (ZqQ 0 (.p (.lst ox3 (x3.map ZE))) (iv x4) []) := by
 unfold Z9K
 refine zf (ZxM ..)<|ze<|zq ?_
 refine za (decide (x4 ≤ 1114367)) ?_ ?_
 ·refine ze<|zq<|zq<|zi fun a1 ha1 => ?_
  refine zo (.p (.lst .un (a1.map ZE))) ?_ (Eq.trans (by kernel_rfl) <| Zjk (n := 2) (o := ox3) (o' := .ex) (e := ZE) (ys := ([(Zc.mk x4 1114367)] : List Zc)) (fun _ => rfl) (by decide) hox3 ha1)
  exact zk (ZdA a1 .un rfl)
 ·exact zk (ZdA x3 ox3 hox3)
def Z8n (x3 : List Zc) (x4 : Int) (x7 : List Zc) (x8 x9 : Int) : Option (List Zc) :=
 if (decide (x9 < x8)) = true then
 (Zag x3 x4 x7 x8 x9)
 else
 (Z9K x3 x4)
theorem ZkX (x3 : List Zc) x4 (x7 : List Zc) x8 x9 ox3 ox7 (hox3 : ZR ox3 = true) : Sim (Z3w) (Z8n x3 x4 x7 x8 x9) (Zj7 0 (.p (.lst ox3 (x3.map ZE))) (iv x4) (.p (.lst ox7 (x7.map ZE))) (iv x8) (iv x9) []) := by
 unfold Z8n
 refine zf (ZzL ..)<|ze<|zq ?_
 refine za (decide (x9 < x8)) ?_ ?_
 ·exact zk (ZkY x3 x4 x7 x8 x9 ox3 ox7 hox3)
 ·exact zk (Zk2 x3 x4 ox3 hox3)
theorem Zfa (x3 : List Zc) (x4 : Int) (x7 : List Zc) (x8 x9 : Int) {r} (h : Z8n x3 x4 x7 x8 x9 = some r) : Z8t x3 x4 x7 x8 x9 = some r :=
 Z1f (fun _ _ ha hb => RRun.uniq Zii (ha .ex .ex rfl) (hb .ex .ex rfl)) (fun ox3 ox7 hox3 => ZkX x3 x4 x7 x8 x9 ox3 ox7 hox3 r h)
def Z5l (x1 x5 zy : Int) (zj : List Zz) (z2 z6 : Int) : Option (Z7 × Int × (List Zz) × Int × Int) :=
 (lapp zj ([(Zz.mk (IntKind.i64.wrap (x5 - 48)) x1)] : List Zz)).bind fun a1 =>
 some ((Z7.mk 6 0 0 0 (IntKind.i64.wrap (x5 - 48)) ([] : List Zc) ([] : List Z7)), zy, a1, z2, z6)
theorem Zgg x1 x5 zn zy zb zh zj z2 z6 b1 zu zd zK zG (zC : ZR zd = true) (z1c : ZR zK = true) (z15 : ZR zG = true) : Sim (Z44 zn zb zh zu) (Z5l x1 x5 zy zj z2 z6) (ZqF 1 (.ptr 0 0) (iv x1) (.ptr 1 0) (iv x5) [(Zk (Zm.mk zn zy zb zh zj (Zl.mk z2 z6)) zu zd), (Zv b1 zK zG)]) := by
 unfold Z5l
 refine zf (Zxr ..)<|ze<|zq<|zq<|zw (.p (.lst zd (zj.map Z2P))) [(Zk (Zm.mk zn zy zb zh zj (Zl.mk z2 z6)) zu (shrO zd)), (Zv b1 zK zG)]<|zq<|zq<|zq<|zi fun a1 ha1 => ?_
 refine zo (.p (.lst .un (a1.map Z2P))) ?_ (Eq.trans (by kernel_rfl) <| Zjk (n := 2) (o := zd) (o' := .ex) (e := Z2P) (ys := ([(Zz.mk (IntKind.i64.wrap (x5 - 48)) x1)] : List Zz)) (fun _ => rfl) (by decide) zC ha1)
 refine zq<|zq<|zt [(Zk (Zm.mk zn zy zb zh a1 (Zl.mk z2 z6)) zu .un), (Zv b1 zK zG)]<|ze<|zq<|zq<|zt [(Zk (Zm.mk zn zy zb zh a1 (Zl.mk z2 z6)) zu .un), (Zv (Z7.mk 6 0 0 0 (IntKind.i64.wrap (x5 - 48)) ([] : List Zc) ([] : List Z7)) .nl .nl)] ?_
 exact zr ((.p (.agg (ZJ (Z7.mk 6 0 0 0 (IntKind.i64.wrap (x5 - 48)) ([] : List Zc) ([] : List Z7)) .sh .sh))), [(Zk (Zm.mk zn zy zb zh a1 (Zl.mk z2 z6)) zu .un), (Zv (Z7.mk 6 0 0 0 (IntKind.i64.wrap (x5 - 48)) ([] : List Zc) ([] : List Z7)) .nl .nl)]) ⟨.un, _, rfl, rfl⟩
def Z3m (x1 x5 : Int) (zn : List Int) (zy zb zh : Int) (zj : List Zz) (z2 z6 : Int) : Option (Z7 × Int × (List Zz) × Int × Int) :=
 (Z7y x5 x1 zn zy zb zh zj z2 z6).bind fun r1 =>
 (Z2A r1.1).bind fun r2 =>
 (Z49 false ([r2] : List Zc)).bind fun r3 =>
 some (r3, r1.2.1, zj, r1.2.2.1, r1.2.2.2)
theorem ZaI x1 x5 zn zy zb zh zj z2 z6 b1 zu zd zK zG (zC : ZR zd = true) (z1c : ZR zK = true) (z15 : ZR zG = true) : Sim (Z44 zn zb zh zu) (Z3m x1 x5 zn zy zb zh zj z2 z6) (ZmL 1 (.ptr 0 0) (iv x1) (.ptr 1 0) (iv x5) [(Zk (Zm.mk zn zy zb zh zj (Zl.mk z2 z6)) zu zd), (Zv b1 zK zG)]) := by
 unfold Z3m
 refine zf (Zxs ..)<|ze<|zi fun r1 hr1 => ?_
 obtain ⟨qr1, er1, exr1, rfl⟩ := ZdB x5 x1 zn zy zb zh zj z2 z6 zu zd zC r1 hr1
 refine zc [0] (iv r1.1) [(Zk (Zm.mk zn r1.2.1 zb zh zj (Zl.mk r1.2.2.1 r1.2.2.2)) zu zd), (Zv b1 zK zG)] er1<|zi fun r2 hr2 => ?_
 obtain ⟨qr2, er2, exr2, rfl⟩ := Z2s r1.1 r2 hr2
 refine zc [] (.p (.agg (Z12 r2))) [(Zk (Zm.mk zn r1.2.1 zb zh zj (Zl.mk r1.2.2.1 r1.2.2.2)) zu zd), (Zv b1 zK zG)] er2<|zq<|zi fun r3 hr3 => ?_
 obtain ⟨qr3, er3, exr3, rfl⟩ := Z4i false ([r2] : List Zc) .sh r3 hr3
 refine zc [] (.p (.agg (ZJ r3 .sh .sh))) [(Zk (Zm.mk zn r1.2.1 zb zh zj (Zl.mk r1.2.2.1 r1.2.2.2)) zu zd), (Zv b1 zK zG)] er3<|zt [(Zk (Zm.mk zn r1.2.1 zb zh zj (Zl.mk r1.2.2.1 r1.2.2.2)) zu zd), (Zv r3 .sh .sh)] ?_
 exact zr ((.p (.agg (ZJ r3 .sh .sh))), [(Zk (Zm.mk zn r1.2.1 zb zh zj (Zl.mk r1.2.2.1 r1.2.2.2)) zu zd), (Zv r3 .sh .sh)]) ⟨zd, _, zC, rfl⟩
def Z3u (x1 x5 : Int) (zn : List Int) (zy zb zh : Int) (zj : List Zz) (z2 z6 : Int) : Option (Z7 × Int × (List Zz) × Int × Int) :=
 (Z3k zn zy).bind fun r1 =>
 (Z7G x5).bind fun r2 =>
 (nilO r2.1 r2.2).bind fun a3 =>
 if (!a3) = true then
 ((Z7G x5).bind fun r4 =>
 (Z49 (decide (x5 < 97)) r4.2).bind fun r5 =>
 some (r5, r1.2, zj, z2, z6))
 else
 (if (x5 == 98) = true then
 (some ((Z7.mk 9 0 0 0 2 ([] : List Zc) ([] : List Z7)), r1.2, zj, z2, z6))
 else
 (if (x5 == 66) = true then
 (some ((Z7.mk 9 0 0 0 3 ([] : List Zc) ([] : List Z7)), r1.2, zj, z2, z6))
 else
 (if (decide (49 ≤ x5)) = true then
 (if (decide (x5 ≤ 57)) = true then
 (Z5l x1 x5 r1.2 zj z2 z6)
 else
 (Z3m x1 x5 zn r1.2 zb zh zj z2 z6))
 else
 (Z3m x1 x5 zn r1.2 zb zh zj z2 z6))))
theorem ZgS x1 x5 zn zy zb zh zj z2 z6 b1 zu zd zK zG (zC : ZR zd = true) (z1c : ZR zK = true) (z15 : ZR zG = true) : Sim (Z44 zn zb zh zu) (Z3u x1 x5 zn zy zb zh zj z2 z6) (ZsX 1 (.ptr 0 0) (iv x1) (.ptr 1 0) (iv x5) [(Zk (Zm.mk zn zy zb zh zj (Zl.mk z2 z6)) zu zd), (Zv b1 zK zG)]) := by
 unfold Z3u
 refine zf (Zzd ..)<|ze<|zi fun r1 hr1 => ?_
 obtain ⟨qr1, er1, exr1, rfl⟩ := Z3S zn zy zb zh zj z2 z6 zu zd zC r1 hr1
 refine zc [0] (iv r1.1) [(Zk (Zm.mk zn r1.2 zb zh zj (Zl.mk z2 z6)) zu zd), (Zv b1 zK zG)] er1<|ze<|zi fun r2 hr2 => ?_
 obtain ⟨qr2, er2, exr2, rfl⟩ := ZbR x5 r2 hr2
 refine zc [] (.p (.lst r2.1 (r2.2.map ZE))) [(Zk (Zm.mk zn r1.2 zb zh zj (Zl.mk z2 z6)) zu zd), (Zv b1 zK zG)] er2<|zi fun a3 ha3 => ?_
 refine zo (bv (!a3)) ?_ (Eq.trans (by kernel_rfl) (Zo3 (P := PP) (t := 94) (c := .slice none 0 0) (e := ZE) (by kernel_rfl) ha3))
 refine za (!a3) ?_ ?_
 ·refine ze<|zq<|zi fun r4 hr4 => ?_
  obtain ⟨qr4, er4, exr4, rfl⟩ := ZbR x5 r4 hr4
  refine zc [] (.p (.lst r4.1 (r4.2.map ZE))) [(Zk (Zm.mk zn r1.2 zb zh zj (Zl.mk z2 z6)) zu zd), (Zv b1 zK zG)] er4<|zi fun r5 hr5 => ?_
  obtain ⟨qr5, er5, exr5, rfl⟩ := Z4i (decide (x5 < 97)) r4.2 .sh r5 hr5
  refine zc [] (.p (.agg (ZJ r5 .sh .sh))) [(Zk (Zm.mk zn r1.2 zb zh zj (Zl.mk z2 z6)) zu zd), (Zv b1 zK zG)] er5<|zt [(Zk (Zm.mk zn r1.2 zb zh zj (Zl.mk z2 z6)) zu zd), (Zv r5 .sh .sh)] ?_
  exact zr ((.p (.agg (ZJ r5 .sh .sh))), [(Zk (Zm.mk zn r1.2 zb zh zj (Zl.mk z2 z6)) zu zd), (Zv r5 .sh .sh)]) ⟨zd, _, zC, rfl⟩
 ·refine ze<|zq ?_
  refine za (x5 == 98) ?_ ?_
  ·refine ze<|zq<|zt [(Zk (Zm.mk zn r1.2 zb zh zj (Zl.mk z2 z6)) zu zd), (Zv (Z7.mk 9 0 0 0 2 ([] : List Zc) ([] : List Z7)) .nl .nl)] ?_
   exact zr ((.p (.agg (ZJ (Z7.mk 9 0 0 0 2 ([] : List Zc) ([] : List Z7)) .sh .sh))), [(Zk (Zm.mk zn r1.2 zb zh zj (Zl.mk z2 z6)) zu zd), (Zv (Z7.mk 9 0 0 0 2 ([] : List Zc) ([] : List Z7)) .nl .nl)]) ⟨zd, _, zC, rfl⟩
  ·refine ze<|zq ?_
   refine za (x5 == 66) ?_ ?_
   ·refine ze<|zq<|zt [(Zk (Zm.mk zn r1.2 zb zh zj (Zl.mk z2 z6)) zu zd), (Zv (Z7.mk 9 0 0 0 3 ([] : List Zc) ([] : List Z7)) .nl .nl)] ?_
    exact zr ((.p (.agg (ZJ (Z7.mk 9 0 0 0 3 ([] : List Zc) ([] : List Z7)) .sh .sh))), [(Zk (Zm.mk zn r1.2 zb zh zj (Zl.mk z2 z6)) zu zd), (Zv (Z7.mk 9 0 0 0 3 ([] : List Zc) ([] : List Z7)) .nl .nl)]) ⟨zd, _, zC, rfl⟩
   ·refine ze<|zq ?_
    refine za (decide (49 ≤ x5)) ?_ ?_
    ·refine zq ?_
     refine za (decide (x5 ≤ 57)) ?_ ?_
     ·exact zk (Zgg x1 x5 zn r1.2 zb zh zj z2 z6 b1 zu zd zK zG zC z1c z15)
     ·exact zk (ZaI x1 x5 zn r1.2 zb zh zj z2 z6 b1 zu zd zK zG zC z1c z15)
    ·exact zk (ZaI x1 x5 zn r1.2 zb zh zj z2 z6 b1 zu zd zK zG zC z1c z15)
def Z5A (x1 : Int) (zn : List Int) (zy zb zh : Int) (zj : List Zz) (z2 z6 : Int) : Option (Z7 × Int × (List Zz) × Int × Int) :=
 (Z2J (Zm.mk zn zy zb zh zj (Zl.mk z2 z6))).bind fun r1 =>
 if (decide (r1 < 0)) = true then
 ((Z1m 21 x1 zn z2 z6).bind fun r2 =>
 some ((Z7.mk 0 0 0 0 0 ([] : List Zc) ([] : List Z7)), r2.1, zj, r2.2.1, r2.2.2))
 else
 (Z3u x1 r1 zn zy zb zh zj z2 z6)
theorem ZiJ x1 zn zy zb zh zj z2 z6 zu zd (zC : ZR zd = true) : Sim (Z44 zn zb zh zu) (Z5A x1 zn zy zb zh zj z2 z6) (EE 130 [(.ptr 0 0), (iv x1)] [(Zk (Zm.mk zn zy zb zh zj (Zl.mk z2 z6)) zu zd)]) := by
 unfold Z5A
 refine zf (ZET ..)<|ze<|zz (.ptr 1 0) [(Zk (Zm.mk zn zy zb zh zj (Zl.mk z2 z6)) zu zd), (Zv (Z7.mk 0 0 0 0 0 ([] : List Zc) ([] : List Z7)) .nl .nl)]<|ze<|zi fun r1 hr1 => ?_
 obtain ⟨qr1, er1, exr1, rfl⟩ := Z2S (Zm.mk zn zy zb zh zj (Zl.mk z2 z6)) zu zd zC r1 hr1
 refine zc [0] (iv r1) [(Zk (Zm.mk zn zy zb zh zj (Zl.mk z2 z6)) zu zd), (Zv (Z7.mk 0 0 0 0 0 ([] : List Zc) ([] : List Z7)) .nl .nl)] er1<|ze<|zq ?_
 refine za (decide (r1 < 0)) ?_ ?_
 ·refine ze<|zi fun r2 hr2 => ?_
  obtain ⟨qr2, er2, exr2, rfl⟩ := Z1p 21 x1 zn zy zb zh zj z2 z6 zu zd zC r2 hr2
  refine zc [0] (.p (.tup [])) [(Zk (Zm.mk zn r2.1 zb zh zj (Zl.mk r2.2.1 r2.2.2)) zu zd), (Zv (Z7.mk 0 0 0 0 0 ([] : List Zc) ([] : List Z7)) .nl .nl)] er2<|ze<|zq<|zt [(Zk (Zm.mk zn r2.1 zb zh zj (Zl.mk r2.2.1 r2.2.2)) zu zd), (Zv (Z7.mk 0 0 0 0 0 ([] : List Zc) ([] : List Z7)) .nl .nl)] ?_
  exact zr ((.p (.agg (ZJ (Z7.mk 0 0 0 0 0 ([] : List Zc) ([] : List Z7)) .sh .sh))), [(Zk (Zm.mk zn r2.1 zb zh zj (Zl.mk r2.2.1 r2.2.2)) zu zd), (Zv (Z7.mk 0 0 0 0 0 ([] : List Zc) ([] : List Z7)) .nl .nl)]) ⟨zd, _, zC, rfl⟩
 ·exact zk (ZgS x1 r1 zn zy zb zh zj z2 z6 (Z7.mk 0 0 0 0 0 ([] : List Zc) ([] : List Z7)) zu zd .nl .nl zC rfl rfl)
theorem ZjD (x1 : Int) (zn : List Int) (zy zb zh : Int) (zj : List Zz) (z2 z6 : Int) {r} (h : Z5A x1 zn zy zb zh zj z2 z6 = some r) : Z4Q x1 zn zy zb zh zj z2 z6 = some r :=
 Z1f (fun _ _ ha hb => RRun.uniq (ZjW _ _ _ _) (ha .ex .ex rfl) (hb .ex .ex rfl)) (fun zu zd zC => ZiJ x1 zn zy zb zh zj z2 z6 zu zd zC r h)
end Go.Proofs.YteoeggbihfnbfaaGreatDoor.N2
end
noncomputable section
set_option linter.unusedSimpArgs false
set_option linter.unusedVariables false
namespace Go.Proofs.YteoeggbihfnbfaaGreatDoor.N2
open Go Go.Abs
set_option linter.unusedVariables false
set_option maxRecDepth 100000
def Z5c (zn : List Int) (z2 z6 : Int) : Option (Int × Int × Int) :=
 some ((zn.length : Int), z2, z6)
theorem Zc4 zn zy zb zh zj z2 z6 zu zd (zC : ZR zd = true) : Sim (Z6s zn zb zh zj zu zd) (Z5c zn z2 z6) (ZrQ 1 (.ptr 0 0) [(Zk (Zm.mk zn zy zb zh zj (Zl.mk z2 z6)) zu zd)]) := by
 unfold Z5c
 refine zf (ZBY ..)<|ze<|zq<|zq<|zq ?_
 refine zo (iv (zn.length : Int)) ?_ (Eq.trans (by kernel_rfl) (Z30 (P := PP) (t := 141) (d := 5) (by kernel_rfl) (eI .u8) (shrO zu) zn))
 refine zq<|zq<|zt [(Zk (Zm.mk zn (zn.length : Int) zb zh zj (Zl.mk z2 z6)) zu zd)] ?_
 exact zr ((.p (.tup [])), [(Zk (Zm.mk zn (zn.length : Int) zb zh zj (Zl.mk z2 z6)) zu zd)]) ⟨_, rfl⟩
def Z7S (x1 x2 : Int) (zn : List Int) (z2 z6 : Int) : Option (Int × Int × Int) :=
 if (z2 == 0) = true then
 (Z5c zn x1 x2)
 else
 (Z5c zn z2 z6)
theorem Zk8 x1 x2 zn zy zb zh zj z2 z6 zu zd (zC : ZR zd = true) : Sim (Z6s zn zb zh zj zu zd) (Z7S x1 x2 zn z2 z6) (EE 70 [(.ptr 0 0), (iv x1), (iv x2)] [(Zk (Zm.mk zn zy zb zh zj (Zl.mk z2 z6)) zu zd)]) := by
 unfold Z7S
 refine zf (ZHp ..)<|ze<|zq<|zq<|zq<|zq<|zq ?_
 refine za (z2 == 0) ?_ ?_
 ·refine ze<|zq<|zq<|zq<|zt [(Zk (Zm.mk zn zy zb zh zj (Zl.mk x1 x2)) zu zd)] ?_
  exact zk (Zc4 zn zy zb zh zj x1 x2 zu zd zC)
 ·exact zk (Zc4 zn zy zb zh zj z2 z6 zu zd zC)
theorem Zed (x1 x2 : Int) (zn : List Int) (z2 z6 : Int) {r} (h : Z7S x1 x2 zn z2 z6 = some r) : Z1m x1 x2 zn z2 z6 = some r :=
 Z1f (fun _ _ ha hb => RRun.uniq (Zlt _ _ _ _ _ _) (ha default default default default .ex .ex rfl) (hb default default default default .ex .ex rfl)) (fun zy zb zh zj zu zd zC => Zk8 x1 x2 zn zy zb zh zj z2 z6 zu zd zC r h)
def Z2Z  : Option (Own × (List Zc)) :=
 some (.nl, ([] : List Zc))
theorem Z3n  : Sim (Z7C) (Z2Z) (ZaC 0  []) := by
 unfold Z2Z
 refine zf (ZxI ..)<|ze ?_
 exact zr ((.p (.lst .nl [])), []) ⟨_, rfl⟩
def Z47 (x0 : Int) : Option (Own × (List Zc)) :=
 if (x0 == 100) = true then
 (if (x0 == 100) = true then
 (some (.ex, ([(Zc.mk 48 57)] : List Zc)))
 else
 (if (x0 == 119) = true then
 (if (x0 == 119) = true then
 ((Z2A 95).bind fun r1 =>
 some (.ex, ([(Zc.mk 48 57), (Zc.mk 65 90), r1, (Zc.mk 97 122)] : List Zc)))
 else
 (if (x0 == 115) = true then
 (if (x0 == 115) = true then
 ((Z2A 32).bind fun r2 =>
 some (.ex, ([(Zc.mk 9 13), r2] : List Zc)))
 else
 (Z2Z))
 else
 (if (x0 == 83) = true then
 ((Z2A 32).bind fun r3 =>
 some (.ex, ([(Zc.mk 9 13), r3] : List Zc)))
 else
 (Z2Z))))
 else
 (if (x0 == 87) = true then
 ((Z2A 95).bind fun r4 =>
 some (.ex, ([(Zc.mk 48 57), (Zc.mk 65 90), r4, (Zc.mk 97 122)] : List Zc)))
 else
 (if (x0 == 115) = true then
 (if (x0 == 115) = true then
 ((Z2A 32).bind fun r5 =>
 some (.ex, ([(Zc.mk 9 13), r5] : List Zc)))
 else
 (Z2Z))
 else
 (if (x0 == 83) = true then
 ((Z2A 32).bind fun r6 =>
 some (.ex, ([(Zc.mk 9 13), r6] : List Zc)))
 else
 (Z2Z))))))
 else
 (if (x0 == 68) = true then
 (some (.ex, ([(Zc.mk 48 57)] : List Zc)))
 else
 (if (x0 == 119) = true then
 (if (x0 == 119) = true then
 ((Z2A 95).bind fun r7 =>
 some (.ex, ([(Zc.mk 48 57), (Zc.mk 65 90), r7, (Zc.mk 97 122)] : List Zc)))
 else
 (if (x0 == 115) = true then
 (if (x0 == 115) = true then
 ((Z2A 32).bind fun r8 =>
 some (.ex, ([(Zc.mk 9 13), r8] : List Zc)))
 else
 (Z2Z))
 else
 (if (x0 == 83) = true then
 ((Z2A 32).bind fun r9 =>
 some (.ex, ([(Zc.mk 9 13), r9] : List Zc)))
 else
 (Z2Z))))
 else
 (if (x0 == 87) = true then
 ((Z2A 95).bind fun r10 =>
 some (.ex, ([(Zc.mk 48 57), (Zc.mk 65 90), r10, (Zc.mk 97 122)] : List Zc)))
 else
 (if (x0 == 115) = true then
 (if (x0 == 115) = true then
 ((Z2A 32).bind fun r11 =>
 some (.ex, ([(Zc.mk 9 13), r11] : List Zc)))
 else
 (Z2Z))
 else
 (if (x0 == 83) = true then
 ((Z2A 32).bind fun r12 =>
 some (.ex, ([(Zc.mk 9 13), r12] : List Zc)))
 else
 (Z2Z))))))
theorem Zm1 x0 : Sim (Z7C) (Z47 x0) (EE 149 [(iv x0)] []) := by
 unfold Z47
 refine zf (ZFc ..)<|ze<|ze<|ze<|zq ?_
 refine za (x0 == 100) ?_ ?_
 ·refine za (x0 == 100) ?_ ?_
  ·refine ze<|zq<|zq ?_
   exact zr ((.p (.lst .ex (([(Zc.mk 48 57)] : List Zc).map ZE))), []) ⟨_, rfl⟩
  ·refine ze<|zq ?_
   refine za (x0 == 119) ?_ ?_
   ·refine za (x0 == 119) ?_ ?_
    ·refine ze<|zq<|zq<|zi fun r1 hr1 => ?_
     obtain ⟨qr1, er1, exr1, rfl⟩ := Z2s 95 r1 hr1
     refine zc [] (.p (.agg (Z12 r1))) [] er1<|zq<|zq ?_
     exact zr ((.p (.lst .ex (([(Zc.mk 48 57), (Zc.mk 65 90), r1, (Zc.mk 97 122)] : List Zc).map ZE))), []) ⟨_, rfl⟩
    ·refine ze<|zq ?_
     refine za (x0 == 115) ?_ ?_
     ·refine za (x0 == 115) ?_ ?_
      ·refine ze<|zq<|zi fun r2 hr2 => ?_
       obtain ⟨qr2, er2, exr2, rfl⟩ := Z2s 32 r2 hr2
       refine zc [] (.p (.agg (Z12 r2))) [] er2<|zq ?_
       exact zr ((.p (.lst .ex (([(Zc.mk 9 13), r2] : List Zc).map ZE))), []) ⟨_, rfl⟩
      ·exact zk (Z3n )
     ·refine ze<|zq ?_
      refine za (x0 == 83) ?_ ?_
      ·refine ze<|zq<|zi fun r3 hr3 => ?_
       obtain ⟨qr3, er3, exr3, rfl⟩ := Z2s 32 r3 hr3
       refine zc [] (.p (.agg (Z12 r3))) [] er3<|zq ?_
       exact zr ((.p (.lst .ex (([(Zc.mk 9 13), r3] : List Zc).map ZE))), []) ⟨_, rfl⟩
      ·exact zk (Z3n )
   ·refine ze<|zq ?_
    refine za (x0 == 87) ?_ ?_
    ·refine ze<|zq<|zq<|zi fun r4 hr4 => ?_
     obtain ⟨qr4, er4, exr4, rfl⟩ := Z2s 95 r4 hr4
     refine zc [] (.p (.agg (Z12 r4))) [] er4<|zq<|zq ?_
     exact zr ((.p (.lst .ex (([(Zc.mk 48 57), (Zc.mk 65 90), r4, (Zc.mk 97 122)] : List Zc).map ZE))), []) ⟨_, rfl⟩
    ·refine ze<|zq ?_
     refine za (x0 == 115) ?_ ?_
     ·refine za (x0 == 115) ?_ ?_
      ·refine ze<|zq<|zi fun r5 hr5 => ?_
       obtain ⟨qr5, er5, exr5, rfl⟩ := Z2s 32 r5 hr5
       refine zc [] (.p (.agg (Z12 r5))) [] er5<|zq ?_
       exact zr ((.p (.lst .ex (([(Zc.mk 9 13), r5] : List Zc).map ZE))), []) ⟨_, rfl⟩
      ·exact zk (Z3n )
     ·refine ze<|zq ?_
      refine za (x0 == 83) ?_ ?_
      ·refine ze<|zq<|zi fun r6 hr6 => ?_
       obtain ⟨qr6, er6, exr6, rfl⟩ := Z2s 32 r6 hr6
       refine zc [] (.p (.agg (Z12 r6))) [] er6<|zq ?_
       exact zr ((.p (.lst .ex (([(Zc.mk 9 13), r6] : List Zc).map ZE))), []) ⟨_, rfl⟩
      ·exact zk (Z3n )
 ·refine ze<|zq ?_
  refine za (x0 == 68) ?_ ?_
  ·refine ze<|zq<|zq ?_
   exact zr ((.p (.lst .ex (([(Zc.mk 48 57)] : List Zc).map ZE))), []) ⟨_, rfl⟩
  ·refine ze<|zq ?_
   refine za (x0 == 119) ?_ ?_
   ·refine za (x0 == 119) ?_ ?_
    ·refine ze<|zq<|zq<|zi fun r7 hr7 => ?_
     obtain ⟨qr7, er7, exr7, rfl⟩ := Z2s 95 r7 hr7
     refine zc [] (.p (.agg (Z12 r7))) [] er7<|zq<|zq ?_
     exact zr ((.p (.lst .ex (([(Zc.mk 48 57), (Zc.mk 65 90), r7, (Zc.mk 97 122)] : List Zc).map ZE))), []) ⟨_, rfl⟩
    ·refine ze<|zq ?_
     refine za (x0 == 115) ?_ ?_
     ·refine za (x0 == 115) ?_ ?_
      ·refine ze<|zq<|zi fun r8 hr8 => ?_
       obtain ⟨qr8, er8, exr8, rfl⟩ := Z2s 32 r8 hr8
       refine zc [] (.p (.agg (Z12 r8))) [] er8<|zq ?_
       exact zr ((.p (.lst .ex (([(Zc.mk 9 13), r8] : List Zc).map ZE))), []) ⟨_, rfl⟩
      ·exact zk (Z3n )
     ·refine ze<|zq ?_
      refine za (x0 == 83) ?_ ?_
      ·refine ze<|zq<|zi fun r9 hr9 => ?_
       obtain ⟨qr9, er9, exr9, rfl⟩ := Z2s 32 r9 hr9
       refine zc [] (.p (.agg (Z12 r9))) [] er9<|zq ?_
       exact zr ((.p (.lst .ex (([(Zc.mk 9 13), r9] : List Zc).map ZE))), []) ⟨_, rfl⟩
      ·exact zk (Z3n )
   ·refine ze<|zq ?_
    refine za (x0 == 87) ?_ ?_
    ·refine ze<|zq<|zq<|zi fun r10 hr10 => ?_
     obtain ⟨qr10, er10, exr10, rfl⟩ := Z2s 95 r10 hr10
     refine zc [] (.p (.agg (Z12 r10))) [] er10<|zq<|zq ?_
     exact zr ((.p (.lst .ex (([(Zc.mk 48 57), (Zc.mk 65 90), r10, (Zc.mk 97 122)] : List Zc).map ZE))), []) ⟨_, rfl⟩
    ·refine ze<|zq ?_
     refine za (x0 == 115) ?_ ?_
     ·refine za (x0 == 115) ?_ ?_
      ·refine ze<|zq<|zi fun r11 hr11 => ?_
       obtain ⟨qr11, er11, exr11, rfl⟩ := Z2s 32 r11 hr11
       refine zc [] (.p (.agg (Z12 r11))) [] er11<|zq ?_
       exact zr ((.p (.lst .ex (([(Zc.mk 9 13), r11] : List Zc).map ZE))), []) ⟨_, rfl⟩
      ·exact zk (Z3n )
     ·refine ze<|zq ?_
      refine za (x0 == 83) ?_ ?_
      ·refine ze<|zq<|zi fun r12 hr12 => ?_
       obtain ⟨qr12, er12, exr12, rfl⟩ := Z2s 32 r12 hr12
       refine zc [] (.p (.agg (Z12 r12))) [] er12<|zq ?_
       exact zr ((.p (.lst .ex (([(Zc.mk 9 13), r12] : List Zc).map ZE))), []) ⟨_, rfl⟩
      ·exact zk (Z3n )
theorem Zn1 (x0 : Int) {r} (h : Z47 x0 = some r) : Z7G x0 = some r :=
 Z1f (fun _ _ ha hb => RRun.uniq Zoa (ha ) (hb )) (Zm1 x0 r h)
def Z3a (x2 : Int) (zn : List Int) (z2 z6 : Int) : Option (Int × Int × Int × Int) :=
 (Z1m 21 x2 zn z2 z6).bind fun r1 =>
 some (0, r1.1, r1.2.1, r1.2.2)
theorem Z4R x2 zn zy zb zh zj z2 z6 zu zd (zC : ZR zd = true) : Sim (Z4W zn zb zh zj zu zd) (Z3a x2 zn z2 z6) (ZeP 1 (.ptr 0 0) (iv x2) [(Zk (Zm.mk zn zy zb zh zj (Zl.mk z2 z6)) zu zd)]) := by
 unfold Z3a
 refine zf (ZxK ..)<|ze<|zi fun r1 hr1 => ?_
 obtain ⟨qr1, er1, exr1, rfl⟩ := Z1p 21 x2 zn zy zb zh zj z2 z6 zu zd zC r1 hr1
 refine zc [0] (.p (.tup [])) [(Zk (Zm.mk zn r1.1 zb zh zj (Zl.mk r1.2.1 r1.2.2)) zu zd)] er1<|ze ?_
 exact zr ((iv 0), [(Zk (Zm.mk zn r1.1 zb zh zj (Zl.mk r1.2.1 r1.2.2)) zu zd)]) ⟨_, rfl⟩
def Z9o (x1 zy z2 z6 : Int) : Option (Int × Int × Int × Int) :=
 some (x1, zy, z2, z6)
theorem ZgZ x1 zn zy zb zh zj z2 z6 zu zd (zC : ZR zd = true) : Sim (Z4W zn zb zh zj zu zd) (Z9o x1 zy z2 z6) (ZqN 1 (iv x1) [(Zk (Zm.mk zn zy zb zh zj (Zl.mk z2 z6)) zu zd)]) := by
 unfold Z9o
 refine zf (ZxJ ..)<|ze ?_
 exact zr ((iv x1), [(Zk (Zm.mk zn zy zb zh zj (Zl.mk z2 z6)) zu zd)]) ⟨_, rfl⟩
def Z98 (x1 x2 : Int) (zn : List Int) (zy zb zh : Int) (zj : List Zz) (z2 z6 : Int) : Option (Int × Int × Int × Int) :=
 if (x1 == 110) = true then
 (some (10, zy, z2, z6))
 else
 (if (x1 == 116) = true then
 (some (9, zy, z2, z6))
 else
 (if (x1 == 114) = true then
 (some (13, zy, z2, z6))
 else
 (if (x1 == 120) = true then
 ((Z2J (Zm.mk zn zy zb zh zj (Zl.mk z2 z6))).bind fun r1 =>
 (Zec r1).bind fun r2 =>
 if (decide (0 ≤ r2)) = true then
 ((Z3k zn zy).bind fun r3 =>
 (Z2J (Zm.mk zn r3.2 zb zh zj (Zl.mk z2 z6))).bind fun r4 =>
 (Zec r4).bind fun r5 =>
 if (decide (0 ≤ r5)) = true then
 ((Z3k zn r3.2).bind fun r6 =>
 some ((IntKind.i64.wrap ((IntKind.i64.wrap (16 * r2)) + r5)), r6.2, z2, z6))
 else
 (Z3a x2 zn z2 z6))
 else
 (Z3a x2 zn z2 z6))
 else
 (if (decide (32 < x1)) = true then
 (if (decide (x1 < 127)) = true then
 ((Zar ([(Zc.mk 48 57), (Zc.mk 65 90), (Zc.mk 97 122)] : List Zc) x1).bind fun r7 =>
 if (!r7) = true then
 (Z9o x1 zy z2 z6)
 else
 (Z3a x2 zn z2 z6))
 else
 (Z3a x2 zn z2 z6))
 else
 (Z3a x2 zn z2 z6)))))
theorem ZjH x1 x2 zn zy zb zh zj z2 z6 zu zd (zC : ZR zd = true) : Sim (Z4W zn zb zh zj zu zd) (Z98 x1 x2 zn zy zb zh zj z2 z6) (EE 150 [(.ptr 0 0), (iv x1), (iv x2)] [(Zk (Zm.mk zn zy zb zh zj (Zl.mk z2 z6)) zu zd)]) := by
 unfold Z98
 refine zf (ZFe ..)<|ze<|ze<|zq ?_
 refine za (x1 == 110) ?_ ?_
 ·refine ze ?_
  exact zr ((iv 10), [(Zk (Zm.mk zn zy zb zh zj (Zl.mk z2 z6)) zu zd)]) ⟨_, rfl⟩
 ·refine ze<|zq ?_
  refine za (x1 == 116) ?_ ?_
  ·refine ze ?_
   exact zr ((iv 9), [(Zk (Zm.mk zn zy zb zh zj (Zl.mk z2 z6)) zu zd)]) ⟨_, rfl⟩
  ·refine ze<|zq ?_
   refine za (x1 == 114) ?_ ?_
   ·refine ze ?_
    exact zr ((iv 13), [(Zk (Zm.mk zn zy zb zh zj (Zl.mk z2 z6)) zu zd)]) ⟨_, rfl⟩
   ·refine ze<|zq ?_
    refine za (x1 == 120) ?_ ?_
    ·refine ze<|zi fun r1 hr1 => ?_
     obtain ⟨qr1, er1, exr1, rfl⟩ := Z2S (Zm.mk zn zy zb zh zj (Zl.mk z2 z6)) zu zd zC r1 hr1
     refine zc [0] (iv r1) [(Zk (Zm.mk zn zy zb zh zj (Zl.mk z2 z6)) zu zd)] er1<|zi fun r2 hr2 => ?_
     obtain ⟨qr2, er2, exr2, rfl⟩ := ZlZ r1 r2 hr2
     refine zc [] (iv r2) [(Zk (Zm.mk zn zy zb zh zj (Zl.mk z2 z6)) zu zd)] er2<|ze<|zq ?_
     refine za (decide (0 ≤ r2)) ?_ ?_
     ·refine ze<|zi fun r3 hr3 => ?_
      obtain ⟨qr3, er3, exr3, rfl⟩ := Z3S zn zy zb zh zj z2 z6 zu zd zC r3 hr3
      refine zc [0] (iv r3.1) [(Zk (Zm.mk zn r3.2 zb zh zj (Zl.mk z2 z6)) zu zd)] er3<|ze<|zi fun r4 hr4 => ?_
      obtain ⟨qr4, er4, exr4, rfl⟩ := Z2S (Zm.mk zn r3.2 zb zh zj (Zl.mk z2 z6)) zu zd zC r4 hr4
      refine zc [0] (iv r4) [(Zk (Zm.mk zn r3.2 zb zh zj (Zl.mk z2 z6)) zu zd)] er4<|zi fun r5 hr5 => ?_
      obtain ⟨qr5, er5, exr5, rfl⟩ := ZlZ r4 r5 hr5
      refine zc [] (iv r5) [(Zk (Zm.mk zn r3.2 zb zh zj (Zl.mk z2 z6)) zu zd)] er5<|ze<|zq ?_
      refine za (decide (0 ≤ r5)) ?_ ?_
      ·refine ze<|zi fun r6 hr6 => ?_
       obtain ⟨qr6, er6, exr6, rfl⟩ := Z3S zn r3.2 zb zh zj z2 z6 zu zd zC r6 hr6
       refine zc [0] (iv r6.1) [(Zk (Zm.mk zn r6.2 zb zh zj (Zl.mk z2 z6)) zu zd)] er6<|ze<|zq<|zq ?_
       exact zr ((iv (IntKind.i64.wrap ((IntKind.i64.wrap (16 * r2)) + r5))), [(Zk (Zm.mk zn r6.2 zb zh zj (Zl.mk z2 z6)) zu zd)]) ⟨_, rfl⟩
      ·exact zk (Z4R x2 zn r3.2 zb zh zj z2 z6 zu zd zC)
     ·exact zk (Z4R x2 zn zy zb zh zj z2 z6 zu zd zC)
    ·refine ze<|zq ?_
     refine za (decide (32 < x1)) ?_ ?_
     ·refine zq ?_
      refine za (decide (x1 < 127)) ?_ ?_
      ·refine zq<|zq<|zq<|zq<|zi fun r7 hr7 => ?_
       obtain ⟨qr7, er7, exr7, rfl⟩ := ZoI ([(Zc.mk 48 57), (Zc.mk 65 90), (Zc.mk 97 122)] : List Zc) x1 .sh r7 hr7
       refine zc [] (bv r7) [(Zk (Zm.mk zn zy zb zh zj (Zl.mk z2 z6)) zu zd)] er7<|zq ?_
       refine za (!r7) ?_ ?_
       ·exact zk (ZgZ x1 zn zy zb zh zj z2 z6 zu zd zC)
       ·exact zk (Z4R x2 zn zy zb zh zj z2 z6 zu zd zC)
      ·exact zk (Z4R x2 zn zy zb zh zj z2 z6 zu zd zC)
     ·exact zk (Z4R x2 zn zy zb zh zj z2 z6 zu zd zC)
theorem Zkb (x1 x2 : Int) (zn : List Int) (zy zb zh : Int) (zj : List Zz) (z2 z6 : Int) {r} (h : Z98 x1 x2 zn zy zb zh zj z2 z6 = some r) : Z7y x1 x2 zn zy zb zh zj z2 z6 = some r :=
 Z1f (fun _ _ ha hb => RRun.uniq (ZkQ _ _ _ _ _ _) (ha .ex .ex rfl) (hb .ex .ex rfl)) (fun zu zd zC => ZjH x1 x2 zn zy zb zh zj z2 z6 zu zd zC r h)
def Zd4 (x0 : Int) : Option (Int) :=
 some (IntKind.i64.wrap (x0 - 48))
theorem ZoN x0 : Sim (Z8a) (Zd4 x0) (ZtF 0 (iv x0) []) := by
 unfold Zd4
 refine zf (ZzP ..)<|ze<|zq ?_
 exact zr ((iv (IntKind.i64.wrap (x0 - 48))), []) ⟨_, rfl⟩
def Zd5 (x0 : Int) : Option (Int) :=
 some (IntKind.i64.wrap ((IntKind.i64.wrap (x0 - 97)) + 10))
theorem ZoO x0 : Sim (Z8a) (Zd5 x0) (ZtG 0 (iv x0) []) := by
 unfold Zd5
 refine zf (ZzR ..)<|ze<|zq<|zq ?_
 exact zr ((iv (IntKind.i64.wrap ((IntKind.i64.wrap (x0 - 97)) + 10))), []) ⟨_, rfl⟩
def Zba  : Option (Int) :=
 some (-1)
theorem ZhC  : Sim (Z8a) (Zba) (ZpG 0  []) := by
 unfold Zba
 refine zf (ZzS ..)<|ze ?_
 exact zr ((iv (-1)), []) ⟨_, rfl⟩
def Zb9 (x0 : Int) : Option (Int) :=
 if (decide (97 ≤ x0)) = true then
 (if (decide (x0 ≤ 102)) = true then
 (Zd5 x0)
 else
 (Zba))
 else
 (Zba)
theorem ZhB x0 : Sim (Z8a) (Zb9 x0) (ZpF 0 (iv x0) []) := by
 unfold Zb9
 refine zf (ZzQ ..)<|ze<|zq ?_
 refine za (decide (97 ≤ x0)) ?_ ?_
 ·refine zq ?_
  refine za (decide (x0 ≤ 102)) ?_ ?_
  ·exact zk (ZoO x0)
  ·exact zk (ZhC )
 ·exact zk (ZhC )
def Zhd (x0 : Int) : Option (Int) :=
 if (decide (48 ≤ x0)) = true then
 (if (decide (x0 ≤ 57)) = true then
 (Zd4 x0)
 else
 (Zb9 x0))
 else
 (Zb9 x0)
theorem Zs2 x0 : Sim (Z8a) (Zhd x0) (EE 172 [(iv x0)] []) := by
 unfold Zhd
 refine zf (ZFC ..)<|ze<|ze<|zq ?_
 refine za (decide (48 ≤ x0)) ?_ ?_
 ·refine zq ?_
  refine za (decide (x0 ≤ 57)) ?_ ?_
  ·exact zk (ZoN x0)
  ·exact zk (ZhB x0)
 ·exact zk (ZhB x0)
theorem Zuj (x0 : Int) {r} (h : Zhd x0 = some r) : Zec x0 = some r :=
 Z1f (fun _ _ ha hb => RRun.uniq ZuT (ha ) (hb )) (Zs2 x0 r h)
def Zch (x0 : List Zc) (x1 : Int) : Option (Bool) :=
 (Z5a x0 x1).bind fun r1 =>
 some (r1)
theorem Zoi (x0 : List Zc) x1 ox0 : Sim (Zab) (Zch x0 x1) (EE 173 [(.p (.lst ox0 (x0.map ZE))), (iv x1)] []) := by
 unfold Zch
 refine zf (ZFE ..)<|ze<|zx (.ptr 0 0) [[(iv x1)]]<|ze<|zi fun r1 hr1 => ?_
 obtain ⟨qr1, er1, exr1, rfl⟩ := ZdM x0 x1 .sh r1 hr1
 refine zc [0] (bv r1) [[(iv x1)]] er1 ?_
 exact zr ((bv r1), [[(iv x1)]]) ⟨_, rfl⟩
theorem ZoH (x0 : List Zc) (x1 : Int) {r} (h : Zch x0 x1 = some r) : Zar x0 x1 = some r :=
 Z1f (fun _ _ ha hb => RRun.uniq ZpT (ha .ex) (hb .ex)) (fun ox0 => Zoi x0 x1 ox0 r h)
def Z55 (x0 : List Zc) (z1x : Int) : Option (Bool) :=
 (Z68 x0 z1x).bind fun r1 =>
 some (decide (0 ≤ r1))
theorem Zdj (x0 : List Zc) z1x ox0 : Sim (Z4a z1x) (Z55 x0 z1x) (EE 184 [(.p (.lst ox0 (x0.map ZE))), (.clo 185 [] [(.ptr 0 0)])] [[(iv z1x)]]) := by
 unfold Z55
 refine zf (ZFH ..)<|ze<|ze<|zi fun r1 hr1 => ?_
 obtain ⟨qr1, er1, exr1, rfl⟩ := Zft x0 z1x .sh r1 hr1
 refine zc [0] (iv r1) [[(iv z1x)]] er1<|zq ?_
 exact zr ((bv (decide (0 ≤ r1))), [[(iv z1x)]]) ⟨_, rfl⟩
theorem ZdL (x0 : List Zc) (z1x : Int) {r} (h : Z55 x0 z1x = some r) : Z5a x0 z1x = some r :=
 Z1f (fun _ _ ha hb => RRun.uniq (Ze5 _) (ha .ex) (hb .ex)) (fun ox0 => Zdj x0 z1x ox0 r h)
def Z62 (x0 : List Zc) (z1x : Int) : Option (Int) :=
 Z4e x0 (x0.length : Int) 0 z1x
theorem ZeT (x0 : List Zc) z1x ox0 : Sim (Z2h z1x) (Z62 x0 z1x) (EE 191 [(.p (.lst ox0 (x0.map ZE))), (.clo 185 [] [(.ptr 0 0)])] [[(iv z1x)]]) := by
 unfold Z62
 refine zf (ZFJ ..)<|ze<|ze ?_
 refine zo (iv (x0.length : Int)) ?_ (Eq.trans (by kernel_rfl) (Z30 (P := PP) (t := 95) (d := 201) (by kernel_rfl) ZE (shrO ox0) x0))
 exact zk (Z94 x0 (x0.length : Int) 0 z1x ox0)
theorem Zfs (x0 : List Zc) (z1x : Int) {r} (h : Z62 x0 z1x = some r) : Z68 x0 z1x = some r :=
 Z1f (fun _ _ ha hb => RRun.uniq (Zac _) (ha .ex) (hb .ex)) (fun ox0 => ZeT x0 z1x ox0 r h)
def Z57 (x0 : List Zc) (x7 x8 z1x : Int) : Option (Int) :=
 Z4e x0 x7 (IntKind.i64.wrap (x8 + 1)) z1x
theorem Zdn (x0 : List Zc) x7 x8 z1x ox0 : Sim (Z2h z1x) (Z57 x0 x7 x8 z1x) (ZtP 1 (.p (.lst ox0 (x0.map ZE))) (.clo 185 [] [(.ptr 0 0)]) (iv x7) (iv x8) [[(iv z1x)]]) := by
 unfold Z57
 refine zf (ZzZ ..)<|ze<|zq ?_
 exact zk (Z94 x0 x7 (IntKind.i64.wrap (x8 + 1)) z1x ox0)
def Z4c (x0 : List Zc) (x7 x8 z1x : Int) : Option (Int) :=
 (lget x0 x8).bind fun a1 =>
 (ZaW a1 z1x).bind fun r2 =>
 if (r2) = true then
 (some (x8))
 else
 (Z57 x0 x7 x8 z1x)
theorem Zdm (x0 : List Zc) x7 x8 z1x ox0 : Sim (Z2h z1x) (Z4c x0 x7 x8 z1x) (ZtO 1 (.p (.lst ox0 (x0.map ZE))) (.clo 185 [] [(.ptr 0 0)]) (iv x7) (iv x8) [[(iv z1x)]]) := by
 unfold Z4c
 refine zf (ZzY ..)<|ze<|ze<|zi fun a1 ha1 => ?_
 refine zo (.cptr (Z12 a1)) ?_ (Eq.trans (by kernel_rfl) (Z3X (o := (shrO ox0)) (k := .i64) (n := 2) (e := ZE) (cs := Z82) (fun _ => rfl) (fun _ => rfl) (by decide) ha1))
 refine zq<|zi fun r2 hr2 => ?_
 obtain ⟨qr2, er2, exr2, rfl⟩ := ZmX a1 z1x r2 hr2
 refine zv [0] (bv r2) [[(iv z1x)]] er2 ?_
 refine za r2 ?_ ?_
 ·refine ze ?_
  exact zr ((iv x8), [[(iv z1x)]]) ⟨_, rfl⟩
 ·exact zk (Zdn x0 x7 x8 z1x ox0)
def Z7d  : Option (Int) :=
 some (-1)
theorem Zdo z1x : Sim (Z2h z1x) (Z7d) (ZtQ 1  [[(iv z1x)]]) := by
 unfold Z7d
 refine zf (ZA0 ..)<|ze ?_
 exact zr ((iv (-1)), [[(iv z1x)]]) ⟨_, rfl⟩
def Z3s (x0 : List Zc) (x7 x8 z1x : Int) : Option (Int) :=
 if (decide (x8 < x7)) = true then
 (Z4c x0 x7 x8 z1x)
 else
 (Z7d)
theorem Zdl (x0 : List Zc) x7 x8 z1x ox0 : Sim (Z2h z1x) (Z3s x0 x7 x8 z1x) (Zj9 1 (.p (.lst ox0 (x0.map ZE))) (.clo 185 [] [(.ptr 0 0)]) (iv x7) (iv x8) [[(iv z1x)]]) := by
 unfold Z3s
 refine zf (ZzX ..)<|ze<|zq ?_
 refine za (decide (x8 < x7)) ?_ ?_
 ·exact zk (Zdm x0 x7 x8 z1x ox0)
 ·exact zk (Zdo z1x)
theorem Z6g (x0 : List Zc) (x7 x8 z1x : Int) {r} (h : Z3s x0 x7 x8 z1x = some r) : Z4e x0 x7 x8 z1x = some r :=
 Z1f (fun _ _ ha hb => RRun.uniq (Zac _) (ha .ex) (hb .ex)) (fun ox0 => Zdl x0 x7 x8 z1x ox0 r h)
def ZaK (x0 : Zc) (z1x : Int) : Option (Bool) :=
 if (decide (x0.Lo ≤ z1x)) = true then
 (some (decide (z1x ≤ x0.Hi)))
 else
 (some (false))
theorem ZlT x0 z1x : Sim (Z8Q z1x) (ZaK x0 z1x) (EE 185 [(.p (.agg (Z12 x0))), (.ptr 0 0)] [[(iv z1x)]]) := by
 unfold ZaK
 refine zf (ZFI ..)<|ze<|zx (.ptr 1 0) [[(iv z1x)], (Z2D x0)]<|ze<|zq<|zq<|zq<|zq ?_
 refine za (decide (x0.Lo ≤ z1x)) ?_ ?_
 ·refine zq<|zq<|zq<|zq ?_
  exact zr ((bv (decide (z1x ≤ x0.Hi))), [[(iv z1x)], (Z2D x0)]) ⟨_, rfl⟩
 ·exact zr ((bv false), [[(iv z1x)], (Z2D x0)]) ⟨_, rfl⟩
theorem ZmW (x0 : Zc) (z1x : Int) {r} (h : ZaK x0 z1x = some r) : ZaW x0 z1x = some r :=
 Z1f (fun _ _ ha hb => RRun.uniq (Zo9 _) (ha ) (hb )) (ZlT x0 z1x r h)
def Z7i (x1 : Int) (zn : List Int) (zy zb zh : Int) (zj : List Zz) (z2 z6 : Int) : Option (Z7 × Int × Int × Int) :=
 (Z1J (ByteArray.mk #[94]) zn zy).bind fun r1 =>
 Z4g x1 r1.1 0 zn r1.2 zb zh zj z2 z6 ([] : List Zc)
theorem ZjB x1 zn zy zb zh zj z2 z6 zu zd (zC : ZR zd = true) : Sim (Z1O zn zb zh zj zu zd) (Z7i x1 zn zy zb zh zj z2 z6) (EE 131 [(.ptr 0 0), (iv x1)] [(Zk (Zm.mk zn zy zb zh zj (Zl.mk z2 z6)) zu zd)]) := by
 unfold Z7i
 refine zf (ZEW ..)<|ze<|zz (.ptr 1 0) [(Zk (Zm.mk zn zy zb zh zj (Zl.mk z2 z6)) zu zd), (Zv (Z7.mk 0 0 0 0 0 ([] : List Zc) ([] : List Z7)) .nl .nl)]<|ze<|zi fun r1 hr1 => ?_
 obtain ⟨qr1, er1, exr1, rfl⟩ := Z1S (ByteArray.mk #[94]) zn zy zb zh zj z2 z6 zu zd zC r1 hr1
 refine zc [0] (bv r1.1) [(Zk (Zm.mk zn r1.2 zb zh zj (Zl.mk z2 z6)) zu zd), (Zv (Z7.mk 0 0 0 0 0 ([] : List Zc) ([] : List Z7)) .nl .nl)] er1<|ze<|zz (.ptr 2 0) [(Zk (Zm.mk zn r1.2 zb zh zj (Zl.mk z2 z6)) zu zd), (Zv (Z7.mk 0 0 0 0 0 ([] : List Zc) ([] : List Z7)) .nl .nl), [(.p (.lst .nl []))]]<|ze<|ze ?_
 exact zk (Zc3 x1 r1.1 0 zn r1.2 zb zh zj z2 z6 (Z7.mk 0 0 0 0 0 ([] : List Zc) ([] : List Z7)) ([] : List Zc) zu zd .nl .nl .nl zC rfl rfl)
theorem Zk6 (x1 : Int) (zn : List Int) (zy zb zh : Int) (zj : List Zz) (z2 z6 : Int) {r} (h : Z7i x1 zn zy zb zh zj z2 z6 = some r) : Z9d x1 zn zy zb zh zj z2 z6 = some r :=
 Z1f (fun _ _ ha hb => RRun.uniq (Ze4 _ _ _ _ _ _) (ha .ex .ex rfl) (hb .ex .ex rfl)) (fun zu zd zC => ZjB x1 zn zy zb zh zj z2 z6 zu zd zC r h)
def Z1V (x1 : Int) (x5 : Bool) (x8 : Int) (zn : List Int) (zy zb zh : Int) (zj : List Zz) (z2 z6 : Int) (z16 : List Zc) : Option (Z7 × Int × Int × Int) :=
 Z4g x1 x5 (IntKind.i64.wrap (x8 + 1)) zn zy zb zh zj z2 z6 z16
theorem Z2Q x1 x5 x8 zn zy zb zh zj z2 z6 b1 (z16 : List Zc) zu zd zK zG z1W (zC : ZR zd = true) (z1c : ZR zK = true) (z15 : ZR zG = true) : Sim (Z1O zn zb zh zj zu zd) (Z1V x1 x5 x8 zn zy zb zh zj z2 z6 z16) (Zbd 1 (.ptr 0 0) (iv x1) (.ptr 1 0) (bv x5) (.ptr 2 0) (.clo 151 [] [(.ptr 2 0)]) (iv x8) [(Zk (Zm.mk zn zy zb zh zj (Zl.mk z2 z6)) zu zd), (Zv b1 zK zG), [(.p (.lst z1W (z16.map ZE)))]]) := by
 unfold Z1V
 refine zf (Zzf ..)<|ze<|zq ?_
 exact zk (Zc3 x1 x5 (IntKind.i64.wrap (x8 + 1)) zn zy zb zh zj z2 z6 b1 z16 zu zd zK zG z1W zC z1c z15)
def Z5S (zy z2 z6 : Int) (z16 : List Zc) : Option (Z7 × Int × Int × Int) :=
 some ((Z7.mk 1 0 0 0 0 z16 ([] : List Z7)), zy, z2, z6)
theorem Zbg zn zy zb zh zj z2 z6 b1 (z16 : List Zc) zu zd zK zG z1W (zC : ZR zd = true) (z1c : ZR zK = true) (z15 : ZR zG = true) : Sim (Z1O zn zb zh zj zu zd) (Z5S zy z2 z6 z16) (ZmM 1 (.ptr 1 0) (.ptr 2 0) [(Zk (Zm.mk zn zy zb zh zj (Zl.mk z2 z6)) zu zd), (Zv b1 zK zG), [(.p (.lst z1W (z16.map ZE)))]]) := by
 unfold Z5S
 refine zf (Zxu ..)<|ze<|zq<|zq<|zt [(Zk (Zm.mk zn zy zb zh zj (Zl.mk z2 z6)) zu zd), (Zv (Z7.mk 1 0 0 0 0 z16 ([] : List Z7)) (shrO (shrO z1W)) .nl), [(.p (.lst z1W (z16.map ZE)))]] ?_
 exact zr ((.p (.agg (ZJ (Z7.mk 1 0 0 0 0 z16 ([] : List Z7)) .sh .sh))), [(Zk (Zm.mk zn zy zb zh zj (Zl.mk z2 z6)) zu zd), (Zv (Z7.mk 1 0 0 0 0 z16 ([] : List Z7)) (shrO (shrO z1W)) .nl), [(.p (.lst z1W (z16.map ZE)))]]) ⟨_, rfl⟩
def Z7j (x5 : Bool) (zn : List Int) (zy z2 z6 : Int) (z16 : List Zc) : Option (Z7 × Int × Int × Int) :=
 (Z3k zn zy).bind fun r1 =>
 if (x5) = true then
 ((Zas z16).bind fun r2 =>
 Z5S r1.2 z2 z6 r2.1)
 else
 (Z5S r1.2 z2 z6 z16)
theorem ZgM x5 zn zy zb zh zj z2 z6 b1 (z16 : List Zc) zu zd zK zG z1W (zC : ZR zd = true) (z1c : ZR zK = true) (z15 : ZR zG = true) : Sim (Z1O zn zb zh zj zu zd) (Z7j x5 zn zy z2 z6 z16) (ZqG 1 (.ptr 0 0) (.ptr 1 0) (bv x5) (.ptr 2 0) [(Zk (Zm.mk zn zy zb zh zj (Zl.mk z2 z6)) zu zd), (Zv b1 zK zG), [(.p (.lst z1W (z16.map ZE)))]]) := by
 unfold Z7j
 refine zf (Zxt ..)<|ze<|zi fun r1 hr1 => ?_
 obtain ⟨qr1, er1, exr1, rfl⟩ := Z3S zn zy zb zh zj z2 z6 zu zd zC r1 hr1
 refine zc [0] (iv r1.1) [(Zk (Zm.mk zn r1.2 zb zh zj (Zl.mk z2 z6)) zu zd), (Zv b1 zK zG), [(.p (.lst z1W (z16.map ZE)))]] er1<|ze ?_
 refine za x5 ?_ ?_
 ·refine ze<|zq<|zi fun r2 hr2 => ?_
  obtain ⟨qr2, er2, exr2, rfl⟩ := ZhA z16 .sh r2 hr2
  refine zc [] (.p (.tup [(.lst .sh (r2.1.map ZE)), (.v (.int .i64 r2.2))])) [(Zk (Zm.mk zn r1.2 zb zh zj (Zl.mk z2 z6)) zu zd), (Zv b1 zK zG), [(.p (.lst z1W (z16.map ZE)))]] er2<|zq<|zq<|zt [(Zk (Zm.mk zn r1.2 zb zh zj (Zl.mk z2 z6)) zu zd), (Zv b1 zK zG), [(.p (.lst .sh (r2.1.map ZE)))]] ?_
  exact zk (Zbg zn r1.2 zb zh zj z2 z6 b1 r2.1 zu zd zK zG .sh zC z1c z15)
 ·exact zk (Zbg zn r1.2 zb zh zj z2 z6 b1 z16 zu zd zK zG z1W zC z1c z15)
def Z3Z (x1 : Int) (x5 : Bool) (x8 x9 : Int) (zn : List Int) (zb zh : Int) (zj : List Zz) (z2 z6 : Int) (z16 : List Zc) : Option (Z7 × Int × Int × Int) :=
 (Z1m 22 x9 zn z2 z6).bind fun r1 =>
 Z1V x1 x5 x8 zn r1.1 zb zh zj r1.2.1 r1.2.2 z16
theorem Z65 x1 x5 x8 x9 zn zy zb zh zj z2 z6 b1 (z16 : List Zc) zu zd zK zG z1W (zC : ZR zd = true) (z1c : ZR zK = true) (z15 : ZR zG = true) : Sim (Z1O zn zb zh zj zu zd) (Z3Z x1 x5 x8 x9 zn zb zh zj z2 z6 z16) (ZgD 1 (.ptr 0 0) (iv x1) (.ptr 1 0) (bv x5) (.ptr 2 0) (.clo 151 [] [(.ptr 2 0)]) (iv x8) (iv x9) [(Zk (Zm.mk zn zy zb zh zj (Zl.mk z2 z6)) zu zd), (Zv b1 zK zG), [(.p (.lst z1W (z16.map ZE)))]]) := by
 unfold Z3Z
 refine zf (Zxx ..)<|ze<|zi fun r1 hr1 => ?_
 obtain ⟨qr1, er1, exr1, rfl⟩ := Z1p 22 x9 zn zy zb zh zj z2 z6 zu zd zC r1 hr1
 refine zc [0] (.p (.tup [])) [(Zk (Zm.mk zn r1.1 zb zh zj (Zl.mk r1.2.1 r1.2.2)) zu zd), (Zv b1 zK zG), [(.p (.lst z1W (z16.map ZE)))]] er1 ?_
 exact zk (Z2Q x1 x5 x8 zn r1.1 zb zh zj r1.2.1 r1.2.2 b1 z16 zu zd zK zG z1W zC z1c z15)
def Z2E (x1 : Int) (x5 : Bool) (x8 x11 x15 : Int) (zn : List Int) (zy zb zh : Int) (zj : List Zz) (z2 z6 : Int) (z16 : List Zc) : Option (Z7 × Int × Int × Int) :=
 if (z2 == 0) = true then
 ((Z6x ([(Zc.mk x11 x15)] : List Zc) z16).bind fun r1 =>
 Z1V x1 x5 x8 zn zy zb zh zj z2 z6 r1)
 else
 (Z1V x1 x5 x8 zn zy zb zh zj z2 z6 z16)
theorem Z66 x1 x5 x8 x11 x15 zn zy zb zh zj z2 z6 b1 (z16 : List Zc) zu zd zK zG z1W (zC : ZR zd = true) (z1c : ZR zK = true) (z15 : ZR zG = true) : Sim (Z1O zn zb zh zj zu zd) (Z2E x1 x5 x8 x11 x15 zn zy zb zh zj z2 z6 z16) (ZgE 1 (.ptr 0 0) (iv x1) (.ptr 1 0) (bv x5) (.ptr 2 0) (.clo 151 [] [(.ptr 2 0)]) (iv x8) (iv x11) (iv x15) [(Zk (Zm.mk zn zy zb zh zj (Zl.mk z2 z6)) zu zd), (Zv b1 zK zG), [(.p (.lst z1W (z16.map ZE)))]]) := by
 unfold Z2E
 refine zf (ZxA ..)<|ze<|zq<|zq<|zq<|zq<|zq ?_
 refine za (z2 == 0) ?_ ?_
 ·refine ze<|zq<|zq<|zi fun r1 hr1 => ?_
  obtain ⟨qr1, er1, or1_0_0, exr1, rfl⟩ := Zct ([(Zc.mk x11 x15)] : List Zc) z16 .sh z1W r1 hr1
  refine zv [2] (.p (.tup [])) [(Zk (Zm.mk zn zy zb zh zj (Zl.mk z2 z6)) zu zd), (Zv b1 zK zG), [(.p (.lst or1_0_0 (r1.map ZE)))]] er1 ?_
  exact zk (Z2Q x1 x5 x8 zn zy zb zh zj z2 z6 b1 r1 zu zd zK zG or1_0_0 zC z1c z15)
 ·exact zk (Z2Q x1 x5 x8 zn zy zb zh zj z2 z6 b1 z16 zu zd zK zG z1W zC z1c z15)
def Z4N (x1 : Int) (x5 : Bool) (x8 x9 x11 x15 : Int) (zn : List Int) (zb zh : Int) (zj : List Zz) (z2 z6 : Int) (z16 : List Zc) : Option (Z7 × Int × Int × Int) :=
 (Z1m 22 x9 zn z2 z6).bind fun r1 =>
 Z2E x1 x5 x8 x11 x15 zn r1.1 zb zh zj r1.2.1 r1.2.2 z16
theorem Zbi x1 x5 x8 x9 x11 x15 zn zy zb zh zj z2 z6 b1 (z16 : List Zc) zu zd zK zG z1W (zC : ZR zd = true) (z1c : ZR zK = true) (z15 : ZR zG = true) : Sim (Z1O zn zb zh zj zu zd) (Z4N x1 x5 x8 x9 x11 x15 zn zb zh zj z2 z6 z16) (ZmO 1 (.ptr 0 0) (iv x1) (.ptr 1 0) (bv x5) (.ptr 2 0) (.clo 151 [] [(.ptr 2 0)]) (iv x8) (iv x9) (iv x11) (iv x15) [(Zk (Zm.mk zn zy zb zh zj (Zl.mk z2 z6)) zu zd), (Zv b1 zK zG), [(.p (.lst z1W (z16.map ZE)))]]) := by
 unfold Z4N
 refine zf (Zxz ..)<|ze<|zi fun r1 hr1 => ?_
 obtain ⟨qr1, er1, exr1, rfl⟩ := Z1p 22 x9 zn zy zb zh zj z2 z6 zu zd zC r1 hr1
 refine zc [0] (.p (.tup [])) [(Zk (Zm.mk zn r1.1 zb zh zj (Zl.mk r1.2.1 r1.2.2)) zu zd), (Zv b1 zK zG), [(.p (.lst z1W (z16.map ZE)))]] er1 ?_
 exact zk (Z66 x1 x5 x8 x11 x15 zn r1.1 zb zh zj r1.2.1 r1.2.2 b1 z16 zu zd zK zG z1W zC z1c z15)
def Z7k (x1 : Int) (x5 : Bool) (x8 x9 x11 : Int) (zn : List Int) (zy zb zh : Int) (zj : List Zz) (z2 z6 : Int) (z16 : List Zc) : Option (Z7 × Int × Int × Int) :=
 (Z5F zn zy zb zh zj z2 z6).bind fun r1 =>
 if (r1.2.2.2.2.1 == 0) = true then
 ((nilO (shrO (shrO (shrO (shrO r1.2.1.1)))) r1.2.1.2).bind fun a2 =>
 if (!a2) = true then
 (Z4N x1 x5 x8 x9 x11 r1.1 zn zb zh zj r1.2.2.2.2.1 r1.2.2.2.2.2 z16)
 else
 (if (decide (r1.1 < x11)) = true then
 (Z4N x1 x5 x8 x9 x11 r1.1 zn zb zh zj r1.2.2.2.2.1 r1.2.2.2.2.2 z16)
 else
 (Z2E x1 x5 x8 x11 r1.1 zn r1.2.2.2.1 zb zh zj r1.2.2.2.2.1 r1.2.2.2.2.2 z16)))
 else
 (Z2E x1 x5 x8 x11 r1.1 zn r1.2.2.2.1 zb zh zj r1.2.2.2.2.1 r1.2.2.2.2.2 z16)
theorem ZgO x1 x5 x8 x9 x11 zn zy zb zh zj z2 z6 b1 (z16 : List Zc) zu zd zK zG z1W (zC : ZR zd = true) (z1c : ZR zK = true) (z15 : ZR zG = true) : Sim (Z1O zn zb zh zj zu zd) (Z7k x1 x5 x8 x9 x11 zn zy zb zh zj z2 z6 z16) (ZqI 1 (.ptr 0 0) (iv x1) (.ptr 1 0) (bv x5) (.ptr 2 0) (.clo 151 [] [(.ptr 2 0)]) (iv x8) (iv x9) (iv x11) [(Zk (Zm.mk zn zy zb zh zj (Zl.mk z2 z6)) zu zd), (Zv b1 zK zG), [(.p (.lst z1W (z16.map ZE)))]]) := by
 unfold Z7k
 refine zf (Zxy ..)<|ze<|zi fun r1 hr1 => ?_
 obtain ⟨qr1, er1, exr1, rfl⟩ := ZcG zn zy zb zh zj z2 z6 zu zd zC r1 hr1
 refine zc [0] (.p (.tup [(.v (.int .i64 r1.1)), (.lst r1.2.1.1 (r1.2.1.2.map ZE)), (.v (.bool r1.2.2.1))])) [(Zk (Zm.mk zn r1.2.2.2.1 zb zh zj (Zl.mk r1.2.2.2.2.1 r1.2.2.2.2.2)) zu zd), (Zv b1 zK zG), [(.p (.lst z1W (z16.map ZE)))]] er1<|zq<|zq<|zq<|ze<|zq<|zq<|zq<|zq<|zq ?_
 refine za (r1.2.2.2.2.1 == 0) ?_ ?_
 ·refine zi fun a2 ha2 => ?_
  refine zo (bv (!a2)) ?_ (Eq.trans (by kernel_rfl) (Zo3 (P := PP) (t := 94) (c := .slice none 0 0) (e := ZE) (by kernel_rfl) ha2))
  refine za (!a2) ?_ ?_
  ·exact zk (Zbi x1 x5 x8 x9 x11 r1.1 zn r1.2.2.2.1 zb zh zj r1.2.2.2.2.1 r1.2.2.2.2.2 b1 z16 zu zd zK zG z1W zC z1c z15)
  ·refine zq ?_
   refine za (decide (r1.1 < x11)) ?_ ?_
   ·exact zk (Zbi x1 x5 x8 x9 x11 r1.1 zn r1.2.2.2.1 zb zh zj r1.2.2.2.2.1 r1.2.2.2.2.2 b1 z16 zu zd zK zG z1W zC z1c z15)
   ·exact zk (Z66 x1 x5 x8 x11 r1.1 zn r1.2.2.2.1 zb zh zj r1.2.2.2.2.1 r1.2.2.2.2.2 b1 z16 zu zd zK zG z1W zC z1c z15)
 ·exact zk (Z66 x1 x5 x8 x11 r1.1 zn r1.2.2.2.1 zb zh zj r1.2.2.2.2.1 r1.2.2.2.2.2 b1 z16 zu zd zK zG z1W zC z1c z15)
def Z5U (x1 : Int) (x5 : Bool) (x8 x9 x11 : Int) (zn : List Int) (zy zb zh : Int) (zj : List Zz) (z2 z6 : Int) (z16 : List Zc) : Option (Z7 × Int × Int × Int) :=
 (Z1J (ByteArray.mk #[45]) zn zy).bind fun r1 =>
 if (r1.1) = true then
 ((Z2J (Zm.mk zn r1.2 zb zh zj (Zl.mk z2 z6))).bind fun r2 =>
 if (r2 == 93) = true then
 (Z3Z x1 x5 x8 x9 zn zb zh zj z2 z6 z16)
 else
 (if (r2 == 91) = true then
 (Z3Z x1 x5 x8 x9 zn zb zh zj z2 z6 z16)
 else
 (if (r2 == 45) = true then
 (Z3Z x1 x5 x8 x9 zn zb zh zj z2 z6 z16)
 else
 (if (decide (r2 < 0)) = true then
 (Z3Z x1 x5 x8 x9 zn zb zh zj z2 z6 z16)
 else
 (Z7k x1 x5 x8 x9 x11 zn r1.2 zb zh zj z2 z6 z16)))))
 else
 (Z2E x1 x5 x8 x11 x11 zn r1.2 zb zh zj z2 z6 z16)
theorem ZgN x1 x5 x8 x9 x11 zn zy zb zh zj z2 z6 b1 (z16 : List Zc) zu zd zK zG z1W (zC : ZR zd = true) (z1c : ZR zK = true) (z15 : ZR zG = true) : Sim (Z1O zn zb zh zj zu zd) (Z5U x1 x5 x8 x9 x11 zn zy zb zh zj z2 z6 z16) (ZqH 1 (.ptr 0 0) (iv x1) (.ptr 1 0) (bv x5) (.ptr 2 0) (.clo 151 [] [(.ptr 2 0)]) (iv x8) (iv x9) (iv x11) [(Zk (Zm.mk zn zy zb zh zj (Zl.mk z2 z6)) zu zd), (Zv b1 zK zG), [(.p (.lst z1W (z16.map ZE)))]]) := by
 unfold Z5U
 refine zf (Zxw ..)<|ze<|ze<|zi fun r1 hr1 => ?_
 obtain ⟨qr1, er1, exr1, rfl⟩ := Z1S (ByteArray.mk #[45]) zn zy zb zh zj z2 z6 zu zd zC r1 hr1
 refine zc [0] (bv r1.1) [(Zk (Zm.mk zn r1.2 zb zh zj (Zl.mk z2 z6)) zu zd), (Zv b1 zK zG), [(.p (.lst z1W (z16.map ZE)))]] er1 ?_
 refine za r1.1 ?_ ?_
 ·refine ze<|zi fun r2 hr2 => ?_
  obtain ⟨qr2, er2, exr2, rfl⟩ := Z2S (Zm.mk zn r1.2 zb zh zj (Zl.mk z2 z6)) zu zd zC r2 hr2
  refine zc [0] (iv r2) [(Zk (Zm.mk zn r1.2 zb zh zj (Zl.mk z2 z6)) zu zd), (Zv b1 zK zG), [(.p (.lst z1W (z16.map ZE)))]] er2<|ze<|zq ?_
  refine za (r2 == 93) ?_ ?_
  ·exact zk (Z65 x1 x5 x8 x9 zn r1.2 zb zh zj z2 z6 b1 z16 zu zd zK zG z1W zC z1c z15)
  ·refine zq ?_
   refine za (r2 == 91) ?_ ?_
   ·exact zk (Z65 x1 x5 x8 x9 zn r1.2 zb zh zj z2 z6 b1 z16 zu zd zK zG z1W zC z1c z15)
   ·refine zq ?_
    refine za (r2 == 45) ?_ ?_
    ·exact zk (Z65 x1 x5 x8 x9 zn r1.2 zb zh zj z2 z6 b1 z16 zu zd zK zG z1W zC z1c z15)
    ·refine zq ?_
     refine za (decide (r2 < 0)) ?_ ?_
     ·exact zk (Z65 x1 x5 x8 x9 zn r1.2 zb zh zj z2 z6 b1 z16 zu zd zK zG z1W zC z1c z15)
     ·exact zk (ZgO x1 x5 x8 x9 x11 zn r1.2 zb zh zj z2 z6 b1 z16 zu zd zK zG z1W zC z1c z15)
 ·exact zk (Z66 x1 x5 x8 x11 x11 zn r1.2 zb zh zj z2 z6 b1 z16 zu zd zK zG z1W zC z1c z15)
def Z5T (x1 : Int) (x5 : Bool) (x8 x9 : Int) (zn : List Int) (zy zb zh : Int) (zj : List Zz) (z2 z6 : Int) (z16 : List Zc) : Option (Z7 × Int × Int × Int) :=
 (Z5F zn zy zb zh zj z2 z6).bind fun r1 =>
 (nilO (shrO (shrO (shrO (shrO r1.2.1.1)))) r1.2.1.2).bind fun a2 =>
 if (!a2) = true then
 ((Z49 r1.2.2.1 r1.2.1.2).bind fun r3 =>
 (Z6x r3.Set z16).bind fun r4 =>
 (Z2J (Zm.mk zn r1.2.2.2.1 zb zh zj (Zl.mk r1.2.2.2.2.1 r1.2.2.2.2.2))).bind fun r5 =>
 if (r5 == 45) = true then
 ((Z1m 22 r1.2.2.2.1 zn r1.2.2.2.2.1 r1.2.2.2.2.2).bind fun r6 =>
 Z1V x1 x5 x8 zn r6.1 zb zh zj r6.2.1 r6.2.2 r4)
 else
 (Z1V x1 x5 x8 zn r1.2.2.2.1 zb zh zj r1.2.2.2.2.1 r1.2.2.2.2.2 r4))
 else
 (Z5U x1 x5 x8 x9 r1.1 zn r1.2.2.2.1 zb zh zj r1.2.2.2.2.1 r1.2.2.2.2.2 z16)
theorem Zbh x1 x5 x8 x9 zn zy zb zh zj z2 z6 b1 (z16 : List Zc) zu zd zK zG z1W (zC : ZR zd = true) (z1c : ZR zK = true) (z15 : ZR zG = true) : Sim (Z1O zn zb zh zj zu zd) (Z5T x1 x5 x8 x9 zn zy zb zh zj z2 z6 z16) (ZmN 1 (.ptr 0 0) (iv x1) (.ptr 1 0) (bv x5) (.ptr 2 0) (.clo 151 [] [(.ptr 2 0)]) (iv x8) (iv x9) [(Zk (Zm.mk zn zy zb zh zj (Zl.mk z2 z6)) zu zd), (Zv b1 zK zG), [(.p (.lst z1W (z16.map ZE)))]]) := by
 unfold Z5T
 refine zf (Zxv ..)<|ze<|zi fun r1 hr1 => ?_
 obtain ⟨qr1, er1, exr1, rfl⟩ := ZcG zn zy zb zh zj z2 z6 zu zd zC r1 hr1
 refine zc [0] (.p (.tup [(.v (.int .i64 r1.1)), (.lst r1.2.1.1 (r1.2.1.2.map ZE)), (.v (.bool r1.2.2.1))])) [(Zk (Zm.mk zn r1.2.2.2.1 zb zh zj (Zl.mk r1.2.2.2.2.1 r1.2.2.2.2.2)) zu zd), (Zv b1 zK zG), [(.p (.lst z1W (z16.map ZE)))]] er1<|zq<|zq<|zq<|ze<|zi fun a2 ha2 => ?_
 refine zo (bv (!a2)) ?_ (Eq.trans (by kernel_rfl) (Zo3 (P := PP) (t := 94) (c := .slice none 0 0) (e := ZE) (by kernel_rfl) ha2))
 refine za (!a2) ?_ ?_
 ·refine ze<|zi fun r3 hr3 => ?_
  obtain ⟨qr3, er3, exr3, rfl⟩ := Z4i r1.2.2.1 r1.2.1.2 .sh r3 hr3
  refine zc [] (.p (.agg (ZJ r3 .sh .sh))) [(Zk (Zm.mk zn r1.2.2.2.1 zb zh zj (Zl.mk r1.2.2.2.2.1 r1.2.2.2.2.2)) zu zd), (Zv b1 zK zG), [(.p (.lst z1W (z16.map ZE)))]] er3<|zz (.ptr 3 0) [(Zk (Zm.mk zn r1.2.2.2.1 zb zh zj (Zl.mk r1.2.2.2.2.1 r1.2.2.2.2.2)) zu zd), (Zv b1 zK zG), [(.p (.lst z1W (z16.map ZE)))], (Zv (Z7.mk 0 0 0 0 0 ([] : List Zc) ([] : List Z7)) .nl .nl)]<|zt [(Zk (Zm.mk zn r1.2.2.2.1 zb zh zj (Zl.mk r1.2.2.2.2.1 r1.2.2.2.2.2)) zu zd), (Zv b1 zK zG), [(.p (.lst z1W (z16.map ZE)))], (Zv r3 .sh .sh)]<|ze<|zq<|zq<|zi fun r4 hr4 => ?_
  obtain ⟨qr4, er4, or4_0_0, exr4, rfl⟩ := Zct r3.Set z16 .sh z1W r4 hr4
  refine zv [2] (.p (.tup [])) [(Zk (Zm.mk zn r1.2.2.2.1 zb zh zj (Zl.mk r1.2.2.2.2.1 r1.2.2.2.2.2)) zu zd), (Zv b1 zK zG), [(.p (.lst or4_0_0 (r4.map ZE)))], (Zv r3 .sh .sh)] er4<|ze<|zi fun r5 hr5 => ?_
  obtain ⟨qr5, er5, exr5, rfl⟩ := Z2S (Zm.mk zn r1.2.2.2.1 zb zh zj (Zl.mk r1.2.2.2.2.1 r1.2.2.2.2.2)) zu zd zC r5 hr5
  refine zc [0] (iv r5) [(Zk (Zm.mk zn r1.2.2.2.1 zb zh zj (Zl.mk r1.2.2.2.2.1 r1.2.2.2.2.2)) zu zd), (Zv b1 zK zG), [(.p (.lst or4_0_0 (r4.map ZE)))], (Zv r3 .sh .sh)] er5<|zq ?_
  refine za (r5 == 45) ?_ ?_
  ·refine ze<|zq<|zq<|zq<|zi fun r6 hr6 => ?_
   obtain ⟨qr6, er6, exr6, rfl⟩ := Z1p 22 r1.2.2.2.1 zn r1.2.2.2.1 zb zh zj r1.2.2.2.2.1 r1.2.2.2.2.2 zu zd zC r6 hr6
   refine zc [0] (.p (.tup [])) [(Zk (Zm.mk zn r6.1 zb zh zj (Zl.mk r6.2.1 r6.2.2)) zu zd), (Zv b1 zK zG), [(.p (.lst or4_0_0 (r4.map ZE)))], (Zv r3 .sh .sh)] er6 ?_
   exact zk (Z2Q x1 x5 x8 zn r6.1 zb zh zj r6.2.1 r6.2.2 b1 r4 zu zd zK zG or4_0_0 zC z1c z15)
  ·exact zk (Z2Q x1 x5 x8 zn r1.2.2.2.1 zb zh zj r1.2.2.2.2.1 r1.2.2.2.2.2 b1 r4 zu zd zK zG or4_0_0 zC z1c z15)
 ·exact zk (ZgN x1 x5 x8 x9 r1.1 zn r1.2.2.2.1 zb zh zj r1.2.2.2.2.1 r1.2.2.2.2.2 b1 z16 zu zd zK zG z1W zC z1c z15)
def Z4V (x1 : Int) (x5 : Bool) (x8 : Int) (zn : List Int) (zy zb zh : Int) (zj : List Zz) (z2 z6 : Int) (z16 : List Zc) : Option (Z7 × Int × Int × Int) :=
 (Z2J (Zm.mk zn zy zb zh zj (Zl.mk z2 z6))).bind fun r1 =>
 if (r1 == (-1)) = true then
 ((Z1m 22 x1 zn z2 z6).bind fun r2 =>
 Z1V x1 x5 x8 zn r2.1 zb zh zj r2.2.1 r2.2.2 z16)
 else
 (if (r1 == 93) = true then
 (if (x8 == 0) = true then
 ((Z1m 22 x1 zn z2 z6).bind fun r3 =>
 Z1V x1 x5 x8 zn r3.1 zb zh zj r3.2.1 r3.2.2 z16)
 else
 (Z7j x5 zn zy z2 z6 z16))
 else
 (if (r1 == 91) = true then
 (if (r1 == 91) = true then
 ((Z1m 22 zy zn z2 z6).bind fun r4 =>
 Z1V x1 x5 x8 zn r4.1 zb zh zj r4.2.1 r4.2.2 z16)
 else
 (Z5T x1 x5 x8 zy zn zy zb zh zj z2 z6 z16))
 else
 (if (r1 == 45) = true then
 ((Z1m 22 zy zn z2 z6).bind fun r5 =>
 Z1V x1 x5 x8 zn r5.1 zb zh zj r5.2.1 r5.2.2 z16)
 else
 (Z5T x1 x5 x8 zy zn zy zb zh zj z2 z6 z16))))
theorem ZhE x1 x5 x8 zn zy zb zh zj z2 z6 b1 (z16 : List Zc) zu zd zK zG z1W (zC : ZR zd = true) (z1c : ZR zK = true) (z15 : ZR zG = true) : Sim (Z1O zn zb zh zj zu zd) (Z4V x1 x5 x8 zn zy zb zh zj z2 z6 z16) (Zt0 1 (.ptr 0 0) (iv x1) (.ptr 1 0) (bv x5) (.ptr 2 0) (.clo 151 [] [(.ptr 2 0)]) (iv x8) [(Zk (Zm.mk zn zy zb zh zj (Zl.mk z2 z6)) zu zd), (Zv b1 zK zG), [(.p (.lst z1W (z16.map ZE)))]]) := by
 unfold Z4V
 refine zf (Zzg ..)<|ze<|zq<|zq<|zq<|ze<|zi fun r1 hr1 => ?_
 obtain ⟨qr1, er1, exr1, rfl⟩ := Z2S (Zm.mk zn zy zb zh zj (Zl.mk z2 z6)) zu zd zC r1 hr1
 refine zc [0] (iv r1) [(Zk (Zm.mk zn zy zb zh zj (Zl.mk z2 z6)) zu zd), (Zv b1 zK zG), [(.p (.lst z1W (z16.map ZE)))]] er1<|ze<|ze<|zq ?_
 refine za (r1 == (-1)) ?_ ?_
 ·refine ze<|zi fun r2 hr2 => ?_
  obtain ⟨qr2, er2, exr2, rfl⟩ := Z1p 22 x1 zn zy zb zh zj z2 z6 zu zd zC r2 hr2
  refine zc [0] (.p (.tup [])) [(Zk (Zm.mk zn r2.1 zb zh zj (Zl.mk r2.2.1 r2.2.2)) zu zd), (Zv b1 zK zG), [(.p (.lst z1W (z16.map ZE)))]] er2 ?_
  exact zk (Z2Q x1 x5 x8 zn r2.1 zb zh zj r2.2.1 r2.2.2 b1 z16 zu zd zK zG z1W zC z1c z15)
 ·refine ze<|zq ?_
  refine za (r1 == 93) ?_ ?_
  ·refine ze<|zq ?_
   refine za (x8 == 0) ?_ ?_
   ·refine ze<|zi fun r3 hr3 => ?_
    obtain ⟨qr3, er3, exr3, rfl⟩ := Z1p 22 x1 zn zy zb zh zj z2 z6 zu zd zC r3 hr3
    refine zc [0] (.p (.tup [])) [(Zk (Zm.mk zn r3.1 zb zh zj (Zl.mk r3.2.1 r3.2.2)) zu zd), (Zv b1 zK zG), [(.p (.lst z1W (z16.map ZE)))]] er3 ?_
    exact zk (Z2Q x1 x5 x8 zn r3.1 zb zh zj r3.2.1 r3.2.2 b1 z16 zu zd zK zG z1W zC z1c z15)
   ·exact zk (ZgM x5 zn zy zb zh zj z2 z6 b1 z16 zu zd zK zG z1W zC z1c z15)
  ·refine ze<|zq ?_
   refine za (r1 == 91) ?_ ?_
   ·refine za (r1 == 91) ?_ ?_
    ·refine ze<|zi fun r4 hr4 => ?_
     obtain ⟨qr4, er4, exr4, rfl⟩ := Z1p 22 zy zn zy zb zh zj z2 z6 zu zd zC r4 hr4
     refine zc [0] (.p (.tup [])) [(Zk (Zm.mk zn r4.1 zb zh zj (Zl.mk r4.2.1 r4.2.2)) zu zd), (Zv b1 zK zG), [(.p (.lst z1W (z16.map ZE)))]] er4 ?_
     exact zk (Z2Q x1 x5 x8 zn r4.1 zb zh zj r4.2.1 r4.2.2 b1 z16 zu zd zK zG z1W zC z1c z15)
    ·exact zk (Zbh x1 x5 x8 zy zn zy zb zh zj z2 z6 b1 z16 zu zd zK zG z1W zC z1c z15)
   ·refine ze<|zq ?_
    refine za (r1 == 45) ?_ ?_
    ·refine ze<|zi fun r5 hr5 => ?_
     obtain ⟨qr5, er5, exr5, rfl⟩ := Z1p 22 zy zn zy zb zh zj z2 z6 zu zd zC r5 hr5
     refine zc [0] (.p (.tup [])) [(Zk (Zm.mk zn r5.1 zb zh zj (Zl.mk r5.2.1 r5.2.2)) zu zd), (Zv b1 zK zG), [(.p (.lst z1W (z16.map ZE)))]] er5 ?_
     exact zk (Z2Q x1 x5 x8 zn r5.1 zb zh zj r5.2.1 r5.2.2 b1 z16 zu zd zK zG z1W zC z1c z15)
    ·exact zk (Zbh x1 x5 x8 zy zn zy zb zh zj z2 z6 b1 z16 zu zd zK zG z1W zC z1c z15)
def Z9m (zy z2 z6 : Int) : Option (Z7 × Int × Int × Int) :=
 some ((Z7.mk 0 0 0 0 0 ([] : List Zc) ([] : List Z7)), zy, z2, z6)
theorem ZgP zn zy zb zh zj z2 z6 b1 zu zd zK zG (zC : ZR zd = true) (z1c : ZR zK = true) (z15 : ZR zG = true) : Sim (Z1O zn zb zh zj zu zd) (Z9m zy z2 z6) (ZqJ 1 (.ptr 1 0) [(Zk (Zm.mk zn zy zb zh zj (Zl.mk z2 z6)) zu zd), (Zv b1 zK zG)]) := by
 unfold Z9m
 refine zf (ZxB ..)<|ze<|zq<|zt [(Zk (Zm.mk zn zy zb zh zj (Zl.mk z2 z6)) zu zd), (Zv (Z7.mk 0 0 0 0 0 ([] : List Zc) ([] : List Z7)) .nl .nl)] ?_
 exact zr ((.p (.agg (ZJ (Z7.mk 0 0 0 0 0 ([] : List Zc) ([] : List Z7)) .sh .sh))), [(Zk (Zm.mk zn zy zb zh zj (Zl.mk z2 z6)) zu zd), (Zv (Z7.mk 0 0 0 0 0 ([] : List Zc) ([] : List Z7)) .nl .nl)]) ⟨_, rfl⟩
def Z6d (x1 : Int) (x5 : Bool) (x8 : Int) (zn : List Int) (zy zb zh : Int) (zj : List Zz) (z2 z6 : Int) (z16 : List Zc) : Option (Z7 × Int × Int × Int) :=
 if (z2 == 0) = true then
 (Z4V x1 x5 x8 zn zy zb zh zj z2 z6 z16)
 else
 (Z9m zy z2 z6)
theorem ZhD x1 x5 x8 zn zy zb zh zj z2 z6 b1 (z16 : List Zc) zu zd zK zG z1W (zC : ZR zd = true) (z1c : ZR zK = true) (z15 : ZR zG = true) : Sim (Z1O zn zb zh zj zu zd) (Z6d x1 x5 x8 zn zy zb zh zj z2 z6 z16) (Zj0 1 (.ptr 0 0) (iv x1) (.ptr 1 0) (bv x5) (.ptr 2 0) (.clo 151 [] [(.ptr 2 0)]) (iv x8) [(Zk (Zm.mk zn zy zb zh zj (Zl.mk z2 z6)) zu zd), (Zv b1 zK zG), [(.p (.lst z1W (z16.map ZE)))]]) := by
 unfold Z6d
 refine zf (Zze ..)<|ze<|zq<|zq<|zq<|zq<|zq ?_
 refine za (z2 == 0) ?_ ?_
 ·exact zk (ZhE x1 x5 x8 zn zy zb zh zj z2 z6 b1 z16 zu zd zK zG z1W zC z1c z15)
 ·exact zk (ZgP zn zy zb zh zj z2 z6 b1 zu zd zK zG zC z1c z15)
theorem Zc2 (x1 : Int) (x5 : Bool) (x8 : Int) (zn : List Int) (zy zb zh : Int) (zj : List Zz) (z2 z6 : Int) (z16 : List Zc) {r} (h : Z6d x1 x5 x8 zn zy zb zh zj z2 z6 z16 = some r) : Z4g x1 x5 x8 zn zy zb zh zj z2 z6 z16 = some r :=
 Z1f (fun _ _ ha hb => RRun.uniq (Ze4 _ _ _ _ _ _) (ha default .ex .ex .ex .ex .ex rfl rfl rfl) (hb default .ex .ex .ex .ex .ex rfl rfl rfl)) (fun b1 zu zd zK zG z1W zC z1c z15 => ZhD x1 x5 x8 zn zy zb zh zj z2 z6 b1 z16 zu zd zK zG z1W zC z1c z15 r h)
def Z5m (x2 x5 : Int) (zn : List Int) (zy zb zh : Int) (zj : List Zz) (z2 z6 : Int) : Option (Int × (Own × (List Zc)) × Bool × Int × Int × Int) :=
 (Z7y x2 x5 zn zy zb zh zj z2 z6).bind fun r1 =>
 some (r1.1, (.nl, ([] : List Zc)), false, r1.2.1, r1.2.2.1, r1.2.2.2)
theorem Zgh x2 x5 zn zy zb zh zj z2 z6 zu zd (zC : ZR zd = true) : Sim (Z45 zn zb zh zj zu zd) (Z5m x2 x5 zn zy zb zh zj z2 z6) (ZqO 1 (.ptr 0 0) (iv x2) (iv x5) [(Zk (Zm.mk zn zy zb zh zj (Zl.mk z2 z6)) zu zd)]) := by
 unfold Z5m
 refine zf (ZxL ..)<|ze<|zi fun r1 hr1 => ?_
 obtain ⟨qr1, er1, exr1, rfl⟩ := ZdB x2 x5 zn zy zb zh zj z2 z6 zu zd zC r1 hr1
 refine zc [0] (iv r1.1) [(Zk (Zm.mk zn r1.2.1 zb zh zj (Zl.mk r1.2.2.1 r1.2.2.2)) zu zd)] er1 ?_
 exact zr ((.p (.tup [(.v (.int .i64 r1.1)), (.lst .nl []), (.v (.bool false))])), [(Zk (Zm.mk zn r1.2.1 zb zh zj (Zl.mk r1.2.2.1 r1.2.2.2)) zu zd)]) ⟨_, rfl⟩
def Z7n (x2 x5 : Int) (zn : List Int) (zy zb zh : Int) (zj : List Zz) (z2 z6 : Int) : Option (Int × (Own × (List Zc)) × Bool × Int × Int × Int) :=
 (Z3k zn zy).bind fun r1 =>
 (Z7G x2).bind fun r2 =>
 (nilO (shrO r2.1) r2.2).bind fun a3 =>
 if (!a3) = true then
 (some (0, ((shrO r2.1), r2.2), (decide (x2 < 97)), r1.2, z2, z6))
 else
 (Z5m x2 x5 zn r1.2 zb zh zj z2 z6)
theorem ZgU x2 x5 zn zy zb zh zj z2 z6 zu zd (zC : ZR zd = true) : Sim (Z45 zn zb zh zj zu zd) (Z7n x2 x5 zn zy zb zh zj z2 z6) (Ztd 1 (.ptr 0 0) (iv x2) (iv x5) [(Zk (Zm.mk zn zy zb zh zj (Zl.mk z2 z6)) zu zd)]) := by
 unfold Z7n
 refine zf (Zzs ..)<|ze<|zi fun r1 hr1 => ?_
 obtain ⟨qr1, er1, exr1, rfl⟩ := Z3S zn zy zb zh zj z2 z6 zu zd zC r1 hr1
 refine zc [0] (iv r1.1) [(Zk (Zm.mk zn r1.2 zb zh zj (Zl.mk z2 z6)) zu zd)] er1<|ze<|zi fun r2 hr2 => ?_
 obtain ⟨qr2, er2, exr2, rfl⟩ := ZbR x2 r2 hr2
 refine zc [] (.p (.lst r2.1 (r2.2.map ZE))) [(Zk (Zm.mk zn r1.2 zb zh zj (Zl.mk z2 z6)) zu zd)] er2<|ze<|zi fun a3 ha3 => ?_
 refine zo (bv (!a3)) ?_ (Eq.trans (by kernel_rfl) (Zo3 (P := PP) (t := 94) (c := .slice none 0 0) (e := ZE) (by kernel_rfl) ha3))
 refine za (!a3) ?_ ?_
 ·refine ze<|zq ?_
  exact zr ((.p (.tup [(.v (.int .i64 0)), (.lst (shrO r2.1) (r2.2.map ZE)), (.v (.bool (decide (x2 < 97))))])), [(Zk (Zm.mk zn r1.2 zb zh zj (Zl.mk z2 z6)) zu zd)]) ⟨_, rfl⟩
 ·exact zk (Zgh x2 x5 zn r1.2 zb zh zj z2 z6 zu zd zC)
def Z7m (x5 : Int) (zn : List Int) (zy zb zh : Int) (zj : List Zz) (z2 z6 : Int) : Option (Int × (Own × (List Zc)) × Bool × Int × Int × Int) :=
 (Z2J (Zm.mk zn zy zb zh zj (Zl.mk z2 z6))).bind fun r1 =>
 if (decide (r1 < 0)) = true then
 ((Z1m 21 x5 zn z2 z6).bind fun r2 =>
 some (0, (.nl, ([] : List Zc)), false, r2.1, r2.2.1, r2.2.2))
 else
 (Z7n r1 x5 zn zy zb zh zj z2 z6)
theorem ZgT x5 zn zy zb zh zj z2 z6 zu zd (zC : ZR zd = true) : Sim (Z45 zn zb zh zj zu zd) (Z7m x5 zn zy zb zh zj z2 z6) (Ztc 1 (.ptr 0 0) (iv x5) [(Zk (Zm.mk zn zy zb zh zj (Zl.mk z2 z6)) zu zd)]) := by
 unfold Z7m
 refine zf (Zzr ..)<|ze<|zi fun r1 hr1 => ?_
 obtain ⟨qr1, er1, exr1, rfl⟩ := Z2S (Zm.mk zn zy zb zh zj (Zl.mk z2 z6)) zu zd zC r1 hr1
 refine zc [0] (iv r1) [(Zk (Zm.mk zn zy zb zh zj (Zl.mk z2 z6)) zu zd)] er1<|ze<|zq ?_
 refine za (decide (r1 < 0)) ?_ ?_
 ·refine ze<|zi fun r2 hr2 => ?_
  obtain ⟨qr2, er2, exr2, rfl⟩ := Z1p 21 x5 zn zy zb zh zj z2 z6 zu zd zC r2 hr2
  refine zc [0] (.p (.tup [])) [(Zk (Zm.mk zn r2.1 zb zh zj (Zl.mk r2.2.1 r2.2.2)) zu zd)] er2<|ze ?_
  exact zr ((.p (.tup [(.v (.int .i64 0)), (.lst .nl []), (.v (.bool false))])), [(Zk (Zm.mk zn r2.1 zb zh zj (Zl.mk r2.2.1 r2.2.2)) zu zd)]) ⟨_, rfl⟩
 ·exact zk (ZgU r1 x5 zn zy zb zh zj z2 z6 zu zd zC)
def Z6X (zn : List Int) (zy zb zh : Int) (zj : List Zz) (z2 z6 : Int) : Option (Int × (Own × (List Zc)) × Bool × Int × Int × Int) :=
 (Z3k zn zy).bind fun r1 =>
 if (r1.1 != 92) = true then
 (some (r1.1, (.nl, ([] : List Zc)), false, r1.2, z2, z6))
 else
 (Z7m zy zn r1.2 zb zh zj z2 z6)
theorem ZiK zn zy zb zh zj z2 z6 zu zd (zC : ZR zd = true) : Sim (Z45 zn zb zh zj zu zd) (Z6X zn zy zb zh zj z2 z6) (EE 153 [(.ptr 0 0)] [(Zk (Zm.mk zn zy zb zh zj (Zl.mk z2 z6)) zu zd)]) := by
 unfold Z6X
 refine zf (ZFk ..)<|ze<|ze<|zq<|zq<|zq<|ze<|zi fun r1 hr1 => ?_
 obtain ⟨qr1, er1, exr1, rfl⟩ := Z3S zn zy zb zh zj z2 z6 zu zd zC r1 hr1
 refine zc [0] (iv r1.1) [(Zk (Zm.mk zn r1.2 zb zh zj (Zl.mk z2 z6)) zu zd)] er1<|ze<|zq ?_
 refine za (r1.1 != 92) ?_ ?_
 ·refine ze ?_
  exact zr ((.p (.tup [(.v (.int .i64 r1.1)), (.lst .nl []), (.v (.bool false))])), [(Zk (Zm.mk zn r1.2 zb zh zj (Zl.mk z2 z6)) zu zd)]) ⟨_, rfl⟩
 ·exact zk (ZgT zy zn r1.2 zb zh zj z2 z6 zu zd zC)
theorem ZcF (zn : List Int) (zy zb zh : Int) (zj : List Zz) (z2 z6 : Int) {r} (h : Z6X zn zy zb zh zj z2 z6 = some r) : Z5F zn zy zb zh zj z2 z6 = some r :=
 Z1f (fun _ _ ha hb => RRun.uniq (ZjX _ _ _ _ _ _) (ha .ex .ex rfl) (hb .ex .ex rfl)) (fun zu zd zC => ZiK zn zy zb zh zj z2 z6 zu zd zC r h)
end Go.Proofs.YteoeggbihfnbfaaGreatDoor.N2
end
noncomputable section
set_option linter.unusedSimpArgs false
set_option linter.unusedVariables false
namespace Go.Proofs.YteoeggbihfnbfaaGreatDoor.N2
open Go Go.Abs
set_option linter.unusedVariables false
set_option maxRecDepth 100000
def Z8d (x0 z1x : List Zc) : Option (List Zc) :=
 (Zdg z1x x0).bind fun r1 =>
 some (r1.1)
theorem Zib (x0 z1x : List Zc) ox0 zhl : Sim (Z6w) (Z8d x0 z1x) (EE 151 [(.p (.lst ox0 (x0.map ZE))), (.ptr 0 0)] [[(.p (.lst zhl (z1x.map ZE)))]]) := by
 unfold Z8d
 refine zf (ZFh ..)<|ze<|zq<|zi fun r1 hr1 => ?_
 obtain ⟨qr1, er1, exr1, rfl⟩ := ZpZ z1x x0 .sh .sh r1 hr1
 refine zc [] (.p (.tup [(.lst .sh (r1.1.map ZE)), (.v (.int .i64 r1.2))])) [[(.p (.lst zhl (z1x.map ZE)))]] er1<|zq<|zq<|zt [[(.p (.lst .sh (r1.1.map ZE)))]] ?_
 exact zr ((.p (.tup [])), [[(.p (.lst .sh (r1.1.map ZE)))]]) ⟨.sh, _, rfl⟩
theorem ZiH (x0 z1x : List Zc) {r} (h : Z8d x0 z1x = some r) : Z6x x0 z1x = some r :=
 Z1f (fun _ _ ha hb => RRun.uniq Zjm (ha .ex .ex) (hb .ex .ex)) (fun ox0 zhl => Zib x0 z1x ox0 zhl r h)
def ZaL  : Option ((List Zc) × Int) :=
 some (([] : List Zc), 10)
theorem Zf9  : Sim (Z81) (ZaL) (Zpz 0  []) := by
 unfold ZaL
 refine zf (Zzp ..)<|ze ?_
 exact zr ((.p (.tup [(.lst .sh []), (.v (.int .i64 10))])), []) ⟨_, rfl⟩
def ZaM (x0 x1 : List Zc) : Option ((List Zc) × Int) :=
 (Zbl ([x0, x1] : List (List Zc))).bind fun r1 =>
 (Zdh r1).bind fun r2 =>
 some (r2, 0)
theorem ZlV (x0 x1 : List Zc) ox0 ox1 : Sim (Z81) (ZaM x0 x1) (Zta 0 (.p (.lst ox0 (x0.map ZE))) (.p (.lst ox1 (x1.map ZE))) []) := by
 unfold ZaM
 refine zf (Zzq ..)<|ze<|zq<|zi fun r1 hr1 => ?_
 obtain ⟨qr1, er1, exr1, rfl⟩ := ZjM ([x0, x1] : List (List Zc)) .sh r1 hr1
 refine zc [] (.p (.lst .sh (r1.map ZE))) [] er1<|zi fun r2 hr2 => ?_
 obtain ⟨qr2, er2, exr2, rfl⟩ := Zin r1 .sh r2 hr2
 refine zc [] (.p (.lst .sh (r2.map ZE))) [] er2 ?_
 exact zr ((.p (.tup [(.lst .sh (r2.map ZE)), (.v (.int .i64 0))])), []) ⟨_, rfl⟩
def Zd3 (x0 x1 : List Zc) : Option ((List Zc) × Int) :=
 (Z6Z x0).bind fun r1 =>
 if (!r1) = true then
 (ZaL)
 else
 ((Z6Z x1).bind fun r2 =>
 if (!r2) = true then
 (ZaL)
 else
 (ZaM x0 x1))
theorem ZoK (x0 x1 : List Zc) ox0 ox1 : Sim (Z81) (Zd3 x0 x1) (EE 152 [(.p (.lst ox0 (x0.map ZE))), (.p (.lst ox1 (x1.map ZE)))] []) := by
 unfold Zd3
 refine zf (ZFi ..)<|ze<|ze<|zi fun r1 hr1 => ?_
 obtain ⟨qr1, er1, exr1, rfl⟩ := Zbe x0 .sh r1 hr1
 refine zc [] (bv r1) [] er1<|zq ?_
 refine za (!r1) ?_ ?_
 ·exact zk (Zf9 )
 ·refine zi fun r2 hr2 => ?_
  obtain ⟨qr2, er2, exr2, rfl⟩ := Zbe x1 .sh r2 hr2
  refine zc [] (bv r2) [] er2<|zq ?_
  refine za (!r2) ?_ ?_
  ·exact zk (Zf9 )
  ·exact zk (ZlV x0 x1 ox0 ox1)
theorem ZpY (x0 x1 : List Zc) {r} (h : Zd3 x0 x1 = some r) : Zdg x0 x1 = some r :=
 Z1f (fun _ _ ha hb => RRun.uniq Zqw (ha .ex .ex) (hb .ex .ex)) (fun ox0 ox1 => ZoK x0 x1 ox0 ox1 r h)
def Z5V (zy zb zh : Int) (zj : List Zz) (z2 z6 z1K z2I z2H z1Q z2f : Int) (z2g : List Zc) (b2 : Z7) : Option (Z7 × Bool × Int × Int × Int × (List Zz) × Int × Int) :=
 some ((Z7.mk z1K z2I z2H z1Q z2f z2g ([b2] : List Z7)), (z1K != 7), zy, zb, zh, zj, z2, z6)
theorem ZgY zn zy zb zh zj z2 z6 z1K z2I z2H z1Q z2f z2g z3j b2 zu zd zK zG z2R z2z (zC : ZR zd = true) (z1c : ZR zK = true) (z15 : ZR zG = true) : Sim (Z3r zn zu) (Z5V zy zb zh zj z2 z6 z1K z2I z2H z1Q z2f z2g b2) (ZqL 1 (.ptr 1 0) (.ptr 2 0) [(Zk (Zm.mk zn zy zb zh zj (Zl.mk z2 z6)) zu zd), (Zv (Z7.mk z1K z2I z2H z1Q z2f z2g z3j) zK zG), (Zv b2 z2R z2z)]) := by
 unfold Z5V
 refine zf (ZxF ..)<|ze<|zq ?_
 refine zo (.p (.lst .ex (([b2] : List Z7).map ZV))) ?_ (Eq.trans (b := some (.p (.lst .ex [.agg (Z37 b2)]))) (by kernel_rfl) (by simp only [List.map_cons, List.map_nil, Z4Z]))
 refine zq<|zt [(Zk (Zm.mk zn zy zb zh zj (Zl.mk z2 z6)) zu zd), (Zv (Z7.mk z1K z2I z2H z1Q z2f z2g ([b2] : List Z7)) zK .ex), (Zv b2 z2R z2z)]<|ze<|zq<|zq<|zq<|zq<|zt [(Zk (Zm.mk zn zy zb zh zj (Zl.mk z2 z6)) zu zd), (Zv (Z7.mk z1K z2I z2H z1Q z2f z2g ([b2] : List Z7)) (shrO zK) .ex), (Zv b2 z2R z2z)] ?_
 exact zr ((.p (.tup [(.agg (ZJ (Z7.mk z1K z2I z2H z1Q z2f z2g ([b2] : List Z7)) .sh .sh)), (.v (.bool (z1K != 7)))])), [(Zk (Zm.mk zn zy zb zh zj (Zl.mk z2 z6)) zu zd), (Zv (Z7.mk z1K z2I z2H z1Q z2f z2g ([b2] : List Z7)) (shrO zK) .ex), (Zv b2 z2R z2z)]) ⟨zd, _, zC, rfl⟩
def Z39 (zy zb zh : Int) (zj : List Zz) (z2 z6 z1K z2I z2H z1Q z2f : Int) (z2g : List Zc) (b2 : Z7) : Option (Z7 × Bool × Int × Int × Int × (List Zz) × Int × Int) :=
 if (z1K == 0) = true then
 (some (b2, true, zy, zb, (IntKind.i64.wrap (zh - 1)), zj, z2, z6))
 else
 (Z5V zy zb (IntKind.i64.wrap (zh - 1)) zj z2 z6 z1K z2I z2H z1Q z2f z2g b2)
theorem Z85 zn zy zb zh zj z2 z6 z1K z2I z2H z1Q z2f z2g z3j b2 zu zd zK zG z2R z2z (zC : ZR zd = true) (z1c : ZR zK = true) (z15 : ZR zG = true) : Sim (Z3r zn zu) (Z39 zy zb zh zj z2 z6 z1K z2I z2H z1Q z2f z2g b2) (Zjv 1 (.ptr 0 0) (.ptr 1 0) (.ptr 2 0) [(Zk (Zm.mk zn zy zb zh zj (Zl.mk z2 z6)) zu zd), (Zv (Z7.mk z1K z2I z2H z1Q z2f z2g z3j) zK zG), (Zv b2 z2R z2z)]) := by
 unfold Z39
 refine zf (ZxE ..)<|ze<|zq<|zq<|zq<|zq<|zq<|zq<|zt [(Zk (Zm.mk zn zy zb (IntKind.i64.wrap (zh - 1)) zj (Zl.mk z2 z6)) zu zd), (Zv (Z7.mk z1K z2I z2H z1Q z2f z2g z3j) zK zG), (Zv b2 z2R z2z)]<|ze<|zq<|zq<|zq ?_
 refine za (z1K == 0) ?_ ?_
 ·refine ze<|zq<|zt [(Zk (Zm.mk zn zy zb (IntKind.i64.wrap (zh - 1)) zj (Zl.mk z2 z6)) zu zd), (Zv b2 (shrO z2R) (shrO z2z)), (Zv b2 z2R z2z)] ?_
  exact zr ((.p (.tup [(.agg (ZJ b2 .sh .sh)), (.v (.bool true))])), [(Zk (Zm.mk zn zy zb (IntKind.i64.wrap (zh - 1)) zj (Zl.mk z2 z6)) zu zd), (Zv b2 (shrO z2R) (shrO z2z)), (Zv b2 z2R z2z)]) ⟨zd, _, zC, rfl⟩
 ·exact zk (ZgY zn zy zb (IntKind.i64.wrap (zh - 1)) zj z2 z6 z1K z2I z2H z1Q z2f z2g z3j b2 zu zd zK zG z2R z2z zC z1c z15)
def Z7q (x1 : Int) (zn : List Int) (zb zh : Int) (zj : List Zz) (z2 z6 z1K z2I z2H z1Q z2f : Int) (z2g : List Zc) (b2 : Z7) : Option (Z7 × Bool × Int × Int × Int × (List Zz) × Int × Int) :=
 (Z1m 20 x1 zn z2 z6).bind fun r1 =>
 Z39 r1.1 zb zh zj r1.2.1 r1.2.2 z1K z2I z2H z1Q z2f z2g b2
theorem ZgX x1 zn zy zb zh zj z2 z6 z1K z2I z2H z1Q z2f z2g z3j b2 zu zd zK zG z2R z2z (zC : ZR zd = true) (z1c : ZR zK = true) (z15 : ZR zG = true) : Sim (Z3r zn zu) (Z7q x1 zn zb zh zj z2 z6 z1K z2I z2H z1Q z2f z2g b2) (ZqK 1 (.ptr 0 0) (iv x1) (.ptr 1 0) (.ptr 2 0) [(Zk (Zm.mk zn zy zb zh zj (Zl.mk z2 z6)) zu zd), (Zv (Z7.mk z1K z2I z2H z1Q z2f z2g z3j) zK zG), (Zv b2 z2R z2z)]) := by
 unfold Z7q
 refine zf (ZxD ..)<|ze<|zi fun r1 hr1 => ?_
 obtain ⟨qr1, er1, exr1, rfl⟩ := Z1p 20 x1 zn zy zb zh zj z2 z6 zu zd zC r1 hr1
 refine zc [0] (.p (.tup [])) [(Zk (Zm.mk zn r1.1 zb zh zj (Zl.mk r1.2.1 r1.2.2)) zu zd), (Zv (Z7.mk z1K z2I z2H z1Q z2f z2g z3j) zK zG), (Zv b2 z2R z2z)] er1 ?_
 exact zk (Z85 zn r1.1 zb zh zj r1.2.1 r1.2.2 z1K z2I z2H z1Q z2f z2g z3j b2 zu zd zK zG z2R z2z zC z1c z15)
def Z2w (x1 : Int) (zn : List Int) (zy zb zh : Int) (zj : List Zz) (z2 z6 z1K z2I z2H z1Q z2f : Int) (z2g : List Zc) : Option (Z7 × Bool × Int × Int × Int × (List Zz) × Int × Int) :=
 (Z4r zn zy zb zh zj z2 z6).bind fun r1 =>
 if (r1.2.2.2.2.2.1 == 0) = true then
 ((Z1J (ByteArray.mk #[41]) zn r1.2.1).bind fun r2 =>
 if (!r2.1) = true then
 (Z7q x1 zn r1.2.2.1 r1.2.2.2.1 r1.2.2.2.2.1 r1.2.2.2.2.2.1 r1.2.2.2.2.2.2 z1K z2I z2H z1Q z2f z2g r1.1)
 else
 (Z39 r2.2 r1.2.2.1 r1.2.2.2.1 r1.2.2.2.2.1 r1.2.2.2.2.2.1 r1.2.2.2.2.2.2 z1K z2I z2H z1Q z2f z2g r1.1))
 else
 (Z39 r1.2.1 r1.2.2.1 r1.2.2.2.1 r1.2.2.2.2.1 r1.2.2.2.2.2.1 r1.2.2.2.2.2.2 z1K z2I z2H z1Q z2f z2g r1.1)
theorem Z3W x1 zn zy zb zh zj z2 z6 z1K z2I z2H z1Q z2f z2g z3j zu zd zK zG (zC : ZR zd = true) (z1c : ZR zK = true) (z15 : ZR zG = true) : Sim (Z3r zn zu) (Z2w x1 zn zy zb zh zj z2 z6 z1K z2I z2H z1Q z2f z2g) (Zcx 1 (.ptr 0 0) (iv x1) (.ptr 1 0) [(Zk (Zm.mk zn zy zb zh zj (Zl.mk z2 z6)) zu zd), (Zv (Z7.mk z1K z2I z2H z1Q z2f z2g z3j) zK zG)]) := by
 unfold Z2w
 refine zf (ZxC ..)<|ze<|zi fun r1 hr1 => ?_
 obtain ⟨qr1, er1, or1_0_4, exr1, hor1_0_4, rfl⟩ := Zfe zn zy zb zh zj z2 z6 zu zd zC r1 hr1
 refine zc [0] (.p (.agg (ZJ r1.1 .sh .sh))) [(Zk (Zm.mk zn r1.2.1 r1.2.2.1 r1.2.2.2.1 r1.2.2.2.2.1 (Zl.mk r1.2.2.2.2.2.1 r1.2.2.2.2.2.2)) zu or1_0_4), (Zv (Z7.mk z1K z2I z2H z1Q z2f z2g z3j) zK zG)] er1<|zz (.ptr 2 0) [(Zk (Zm.mk zn r1.2.1 r1.2.2.1 r1.2.2.2.1 r1.2.2.2.2.1 (Zl.mk r1.2.2.2.2.2.1 r1.2.2.2.2.2.2)) zu or1_0_4), (Zv (Z7.mk z1K z2I z2H z1Q z2f z2g z3j) zK zG), (Zv (Z7.mk 0 0 0 0 0 ([] : List Zc) ([] : List Z7)) .nl .nl)]<|zt [(Zk (Zm.mk zn r1.2.1 r1.2.2.1 r1.2.2.2.1 r1.2.2.2.2.1 (Zl.mk r1.2.2.2.2.2.1 r1.2.2.2.2.2.2)) zu or1_0_4), (Zv (Z7.mk z1K z2I z2H z1Q z2f z2g z3j) zK zG), (Zv r1.1 .sh .sh)]<|ze<|zq<|zq<|zq<|zq<|zq ?_
 refine za (r1.2.2.2.2.2.1 == 0) ?_ ?_
 ·refine zi fun r2 hr2 => ?_
  obtain ⟨qr2, er2, exr2, rfl⟩ := Z1S (ByteArray.mk #[41]) zn r1.2.1 r1.2.2.1 r1.2.2.2.1 r1.2.2.2.2.1 r1.2.2.2.2.2.1 r1.2.2.2.2.2.2 zu or1_0_4 hor1_0_4 r2 hr2
  refine zc [0] (bv r2.1) [(Zk (Zm.mk zn r2.2 r1.2.2.1 r1.2.2.2.1 r1.2.2.2.2.1 (Zl.mk r1.2.2.2.2.2.1 r1.2.2.2.2.2.2)) zu or1_0_4), (Zv (Z7.mk z1K z2I z2H z1Q z2f z2g z3j) zK zG), (Zv r1.1 .sh .sh)] er2<|zq ?_
  refine za (!r2.1) ?_ ?_
  ·exact zk (ZgX x1 zn r2.2 r1.2.2.1 r1.2.2.2.1 r1.2.2.2.2.1 r1.2.2.2.2.2.1 r1.2.2.2.2.2.2 z1K z2I z2H z1Q z2f z2g z3j r1.1 zu or1_0_4 zK zG .sh .sh hor1_0_4 z1c z15)
  ·exact zk (Z85 zn r2.2 r1.2.2.1 r1.2.2.2.1 r1.2.2.2.2.1 r1.2.2.2.2.2.1 r1.2.2.2.2.2.2 z1K z2I z2H z1Q z2f z2g z3j r1.1 zu or1_0_4 zK zG .sh .sh hor1_0_4 z1c z15)
 ·exact zk (Z85 zn r1.2.1 r1.2.2.1 r1.2.2.2.1 r1.2.2.2.2.1 r1.2.2.2.2.2.1 r1.2.2.2.2.2.2 z1K z2I z2H z1Q z2f z2g z3j r1.1 zu or1_0_4 zK zG .sh .sh hor1_0_4 z1c z15)
def Z6e (x1 : Int) (zn : List Int) (zy zb zh : Int) (zj : List Zz) (z2 z6 z1K z2I z2H z1Q z2f : Int) (z2g : List Zc) : Option (Z7 × Bool × Int × Int × Int × (List Zz) × Int × Int) :=
 (ZeE).bind fun r1 =>
 (Z5N r1 zn zy).bind fun r2 =>
 if (decide (0 ≤ r2.1)) = true then
 (Z2w x1 zn r2.2 zb (IntKind.i64.wrap (zh + 1)) zj z2 z6 7 0 0 r2.1 0 ([] : List Zc))
 else
 ((Z1J (ByteArray.mk #[63, 62]) zn r2.2).bind fun r3 =>
 if (r3.1) = true then
 (Z2w x1 zn r3.2 zb (IntKind.i64.wrap (zh + 1)) zj z2 z6 8 0 0 0 0 ([] : List Zc))
 else
 ((Z1J (ByteArray.mk #[63, 58]) zn r3.2).bind fun r4 =>
 if (r4.1) = true then
 (Z2w x1 zn r4.2 zb (IntKind.i64.wrap (zh + 1)) zj z2 z6 z1K z2I z2H z1Q z2f z2g)
 else
 ((Z2J (Zm.mk zn r4.2 zb (IntKind.i64.wrap (zh + 1)) zj (Zl.mk z2 z6))).bind fun r5 =>
 if (r5 == 63) = true then
 ((Z1m 20 x1 zn z2 z6).bind fun r6 =>
 Z2w x1 zn r6.1 zb (IntKind.i64.wrap (zh + 1)) zj r6.2.1 r6.2.2 z1K z2I z2H z1Q z2f z2g)
 else
 (if (zb == 9) = true then
 ((Z1m 24 x1 zn z2 z6).bind fun r7 =>
 Z2w x1 zn r7.1 zb (IntKind.i64.wrap (zh + 1)) zj r7.2.1 r7.2.2 z1K z2I z2H z1Q z2f z2g)
 else
 (Z2w x1 zn r4.2 (IntKind.i64.wrap (zb + 1)) (IntKind.i64.wrap (zh + 1)) zj z2 z6 5 0 0 0 (IntKind.i64.wrap (zb + 1)) ([] : List Zc))))))
theorem ZhG x1 zn zy zb zh zj z2 z6 z1K z2I z2H z1Q z2f z2g z3j zu zd zK zG (zC : ZR zd = true) (z1c : ZR zK = true) (z15 : ZR zG = true) : Sim (Z3r zn zu) (Z6e x1 zn zy zb zh zj z2 z6 z1K z2I z2H z1Q z2f z2g) (Zt1 1 (.ptr 0 0) (iv x1) (.ptr 1 0) [(Zk (Zm.mk zn zy zb zh zj (Zl.mk z2 z6)) zu zd), (Zv (Z7.mk z1K z2I z2H z1Q z2f z2g z3j) zK zG)]) := by
 unfold Z6e
 refine zf (Zzh ..)<|ze<|zq<|zq<|zq<|zq<|zq<|zq<|zt [(Zk (Zm.mk zn zy zb (IntKind.i64.wrap (zh + 1)) zj (Zl.mk z2 z6)) zu zd), (Zv (Z7.mk z1K z2I z2H z1Q z2f z2g z3j) zK zG)]<|ze<|zi fun r1 hr1 => ?_
 obtain ⟨qr1, er1, exr1, rfl⟩ := ZqW  r1 hr1
 refine zc [] (.p (.lst .sh (r1.map eS))) [(Zk (Zm.mk zn zy zb (IntKind.i64.wrap (zh + 1)) zj (Zl.mk z2 z6)) zu zd), (Zv (Z7.mk z1K z2I z2H z1Q z2f z2g z3j) zK zG)] er1<|zi fun r2 hr2 => ?_
 obtain ⟨qr2, er2, exr2, rfl⟩ := ZeY r1 zn zy zb (IntKind.i64.wrap (zh + 1)) zj z2 z6 .sh zu zd zC r2 hr2
 refine zc [0] (iv r2.1) [(Zk (Zm.mk zn r2.2 zb (IntKind.i64.wrap (zh + 1)) zj (Zl.mk z2 z6)) zu zd), (Zv (Z7.mk z1K z2I z2H z1Q z2f z2g z3j) zK zG)] er2<|ze<|zq ?_
 refine za (decide (0 ≤ r2.1)) ?_ ?_
 ·refine ze<|zq<|zt [(Zk (Zm.mk zn r2.2 zb (IntKind.i64.wrap (zh + 1)) zj (Zl.mk z2 z6)) zu zd), (Zv (Z7.mk 7 0 0 r2.1 0 ([] : List Zc) ([] : List Z7)) .nl .nl)] ?_
  exact zk (Z3W x1 zn r2.2 zb (IntKind.i64.wrap (zh + 1)) zj z2 z6 7 0 0 r2.1 0 ([] : List Zc) ([] : List Z7) zu zd .nl .nl zC rfl rfl)
 ·refine ze<|zi fun r3 hr3 => ?_
  obtain ⟨qr3, er3, exr3, rfl⟩ := Z1S (ByteArray.mk #[63, 62]) zn r2.2 zb (IntKind.i64.wrap (zh + 1)) zj z2 z6 zu zd zC r3 hr3
  refine zc [0] (bv r3.1) [(Zk (Zm.mk zn r3.2 zb (IntKind.i64.wrap (zh + 1)) zj (Zl.mk z2 z6)) zu zd), (Zv (Z7.mk z1K z2I z2H z1Q z2f z2g z3j) zK zG)] er3 ?_
  refine za r3.1 ?_ ?_
  ·refine ze<|zq<|zt [(Zk (Zm.mk zn r3.2 zb (IntKind.i64.wrap (zh + 1)) zj (Zl.mk z2 z6)) zu zd), (Zv (Z7.mk 8 0 0 0 0 ([] : List Zc) ([] : List Z7)) .nl .nl)] ?_
   exact zk (Z3W x1 zn r3.2 zb (IntKind.i64.wrap (zh + 1)) zj z2 z6 8 0 0 0 0 ([] : List Zc) ([] : List Z7) zu zd .nl .nl zC rfl rfl)
  ·refine ze<|zi fun r4 hr4 => ?_
   obtain ⟨qr4, er4, exr4, rfl⟩ := Z1S (ByteArray.mk #[63, 58]) zn r3.2 zb (IntKind.i64.wrap (zh + 1)) zj z2 z6 zu zd zC r4 hr4
   refine zc [0] (bv r4.1) [(Zk (Zm.mk zn r4.2 zb (IntKind.i64.wrap (zh + 1)) zj (Zl.mk z2 z6)) zu zd), (Zv (Z7.mk z1K z2I z2H z1Q z2f z2g z3j) zK zG)] er4 ?_
   refine za r4.1 ?_ ?_
   ·exact zk (Z3W x1 zn r4.2 zb (IntKind.i64.wrap (zh + 1)) zj z2 z6 z1K z2I z2H z1Q z2f z2g z3j zu zd zK zG zC z1c z15)
   ·refine ze<|zi fun r5 hr5 => ?_
    obtain ⟨qr5, er5, exr5, rfl⟩ := Z2S (Zm.mk zn r4.2 zb (IntKind.i64.wrap (zh + 1)) zj (Zl.mk z2 z6)) zu zd zC r5 hr5
    refine zc [0] (iv r5) [(Zk (Zm.mk zn r4.2 zb (IntKind.i64.wrap (zh + 1)) zj (Zl.mk z2 z6)) zu zd), (Zv (Z7.mk z1K z2I z2H z1Q z2f z2g z3j) zK zG)] er5<|zq ?_
    refine za (r5 == 63) ?_ ?_
    ·refine ze<|zi fun r6 hr6 => ?_
     obtain ⟨qr6, er6, exr6, rfl⟩ := Z1p 20 x1 zn r4.2 zb (IntKind.i64.wrap (zh + 1)) zj z2 z6 zu zd zC r6 hr6
     refine zc [0] (.p (.tup [])) [(Zk (Zm.mk zn r6.1 zb (IntKind.i64.wrap (zh + 1)) zj (Zl.mk r6.2.1 r6.2.2)) zu zd), (Zv (Z7.mk z1K z2I z2H z1Q z2f z2g z3j) zK zG)] er6 ?_
     exact zk (Z3W x1 zn r6.1 zb (IntKind.i64.wrap (zh + 1)) zj r6.2.1 r6.2.2 z1K z2I z2H z1Q z2f z2g z3j zu zd zK zG zC z1c z15)
    ·refine ze<|zq<|zq<|zq<|zq ?_
     refine za (zb == 9) ?_ ?_
     ·refine ze<|zi fun r7 hr7 => ?_
      obtain ⟨qr7, er7, exr7, rfl⟩ := Z1p 24 x1 zn r4.2 zb (IntKind.i64.wrap (zh + 1)) zj z2 z6 zu zd zC r7 hr7
      refine zc [0] (.p (.tup [])) [(Zk (Zm.mk zn r7.1 zb (IntKind.i64.wrap (zh + 1)) zj (Zl.mk r7.2.1 r7.2.2)) zu zd), (Zv (Z7.mk z1K z2I z2H z1Q z2f z2g z3j) zK zG)] er7 ?_
      exact zk (Z3W x1 zn r7.1 zb (IntKind.i64.wrap (zh + 1)) zj r7.2.1 r7.2.2 z1K z2I z2H z1Q z2f z2g z3j zu zd zK zG zC z1c z15)
     ·refine ze<|zq<|zq<|zq<|zq<|zq<|zq<|zt [(Zk (Zm.mk zn r4.2 (IntKind.i64.wrap (zb + 1)) (IntKind.i64.wrap (zh + 1)) zj (Zl.mk z2 z6)) zu zd), (Zv (Z7.mk z1K z2I z2H z1Q z2f z2g z3j) zK zG)]<|ze<|zq<|zq<|zq<|zq<|zt [(Zk (Zm.mk zn r4.2 (IntKind.i64.wrap (zb + 1)) (IntKind.i64.wrap (zh + 1)) zj (Zl.mk z2 z6)) zu zd), (Zv (Z7.mk 5 0 0 0 (IntKind.i64.wrap (zb + 1)) ([] : List Zc) ([] : List Z7)) .nl .nl)] ?_
      exact zk (Z3W x1 zn r4.2 (IntKind.i64.wrap (zb + 1)) (IntKind.i64.wrap (zh + 1)) zj z2 z6 5 0 0 0 (IntKind.i64.wrap (zb + 1)) ([] : List Zc) ([] : List Z7) zu zd .nl .nl zC rfl rfl)
def Z61 (x1 : Int) (zn : List Int) (zy zb zh : Int) (zj : List Zz) (z2 z6 : Int) : Option (Z7 × Bool × Int × Int × Int × (List Zz) × Int × Int) :=
 if (zh == 32) = true then
 ((Z1m 25 x1 zn z2 z6).bind fun r1 =>
 some ((Z7.mk 0 0 0 0 0 ([] : List Zc) ([] : List Z7)), true, r1.1, zb, zh, zj, r1.2.1, r1.2.2))
 else
 (Z6e x1 zn zy zb zh zj z2 z6 0 0 0 0 0 ([] : List Zc))
theorem ZjG x1 zn zy zb zh zj z2 z6 zu zd (zC : ZR zd = true) : Sim (Z3r zn zu) (Z61 x1 zn zy zb zh zj z2 z6) (EE 132 [(.ptr 0 0), (iv x1)] [(Zk (Zm.mk zn zy zb zh zj (Zl.mk z2 z6)) zu zd)]) := by
 unfold Z61
 refine zf (ZF1 ..)<|ze<|zz (.ptr 1 0) [(Zk (Zm.mk zn zy zb zh zj (Zl.mk z2 z6)) zu zd), (Zv (Z7.mk 0 0 0 0 0 ([] : List Zc) ([] : List Z7)) .nl .nl)]<|ze<|zq<|zq<|zq<|zq ?_
 refine za (zh == 32) ?_ ?_
 ·refine ze<|zi fun r1 hr1 => ?_
  obtain ⟨qr1, er1, exr1, rfl⟩ := Z1p 25 x1 zn zy zb zh zj z2 z6 zu zd zC r1 hr1
  refine zc [0] (.p (.tup [])) [(Zk (Zm.mk zn r1.1 zb zh zj (Zl.mk r1.2.1 r1.2.2)) zu zd), (Zv (Z7.mk 0 0 0 0 0 ([] : List Zc) ([] : List Z7)) .nl .nl)] er1<|ze<|zq<|zt [(Zk (Zm.mk zn r1.1 zb zh zj (Zl.mk r1.2.1 r1.2.2)) zu zd), (Zv (Z7.mk 0 0 0 0 0 ([] : List Zc) ([] : List Z7)) .nl .nl)] ?_
  exact zr ((.p (.tup [(.agg (ZJ (Z7.mk 0 0 0 0 0 ([] : List Zc) ([] : List Z7)) .sh .sh)), (.v (.bool true))])), [(Zk (Zm.mk zn r1.1 zb zh zj (Zl.mk r1.2.1 r1.2.2)) zu zd), (Zv (Z7.mk 0 0 0 0 0 ([] : List Zc) ([] : List Z7)) .nl .nl)]) ⟨zd, _, zC, rfl⟩
 ·exact zk (ZhG x1 zn zy zb zh zj z2 z6 0 0 0 0 0 ([] : List Zc) ([] : List Z7) zu zd .nl .nl zC rfl rfl)
theorem Za3 (x1 : Int) (zn : List Int) (zy zb zh : Int) (zj : List Zz) (z2 z6 : Int) {r} (h : Z61 x1 zn zy zb zh zj z2 z6 = some r) : Z50 x1 zn zy zb zh zj z2 z6 = some r :=
 Z1f (fun _ _ ha hb => RRun.uniq (ZkP _ _) (ha .ex .ex rfl) (hb .ex .ex rfl)) (fun zu zd zC => ZjG x1 zn zy zb zh zj z2 z6 zu zd zC r h)
def Zi9  : Option (List ByteArray) :=
 some ([(ByteArray.mk #[63, 61]), (ByteArray.mk #[63, 33]), (ByteArray.mk #[63, 60, 61]), (ByteArray.mk #[63, 60, 33])] : List ByteArray)
theorem Zq2  : Sim (ZbY) (Zi9) (EE 155 [] []) := by
 unfold Zi9
 refine zf (ZFn ..)<|ze<|ze<|zq ?_
 exact zr ((.p (.lst .sh (([(ByteArray.mk #[63, 61]), (ByteArray.mk #[63, 33]), (ByteArray.mk #[63, 60, 61]), (ByteArray.mk #[63, 60, 33])] : List ByteArray).map eS))), []) ⟨_, rfl⟩
theorem ZqV  {r} (h : Zi9 = some r) : ZeE = some r :=
 Z1f (fun _ _ ha hb => RRun.uniq Zrt (ha ) (hb )) (Zq2  r h)
def Z5J (x0 : List ByteArray) (zn : List Int) (zy : Int) : Option (Int × Int) :=
 Z2t x0 (x0.length : Int) 0 zn zy
theorem Zet (x0 : List ByteArray) zn zy zb zh zj z2 z6 ox0 zu zd (zC : ZR zd = true) : Sim (Z2d zn zb zh zj z2 z6 zu zd) (Z5J x0 zn zy) (EE 154 [(.p (.lst ox0 (x0.map eS))), (.clo 68 [(.ptr 0 0)] [])] [(Zk (Zm.mk zn zy zb zh zj (Zl.mk z2 z6)) zu zd)]) := by
 unfold Z5J
 refine zf (ZFl ..)<|ze<|ze ?_
 refine zo (iv (x0.length : Int)) ?_ (Eq.trans (by kernel_rfl) (Z30 (P := PP) (t := 226) (d := 9) (by kernel_rfl) eS (shrO ox0) x0))
 exact zk (Z8N x0 (x0.length : Int) 0 zn zy zb zh zj z2 z6 ox0 zu zd zC)
theorem ZeX (x0 : List ByteArray) (zn : List Int) (zy : Int) {r} (h : Z5J x0 zn zy = some r) : Z5N x0 zn zy = some r :=
 Z1f (fun _ _ ha hb => RRun.uniq (Za1 _ _ _ _ _ _ _ _) (ha default default default default default .ex .ex .ex rfl) (hb default default default default default .ex .ex .ex rfl)) (fun zb zh zj z2 z6 ox0 zu zd zC => Zet x0 zn zy zb zh zj z2 z6 ox0 zu zd zC r h)
def Z4Y (x0 : List ByteArray) (x7 x8 : Int) (zn : List Int) (zy : Int) : Option (Int × Int) :=
 Z2t x0 x7 (IntKind.i64.wrap (x8 + 1)) zn zy
theorem ZcP (x0 : List ByteArray) x7 x8 zn zy zb zh zj z2 z6 ox0 zu zd (zC : ZR zd = true) : Sim (Z2d zn zb zh zj z2 z6 zu zd) (Z4Y x0 x7 x8 zn zy) (Zth 1 (.p (.lst ox0 (x0.map eS))) (.clo 68 [(.ptr 0 0)] []) (iv x7) (iv x8) [(Zk (Zm.mk zn zy zb zh zj (Zl.mk z2 z6)) zu zd)]) := by
 unfold Z4Y
 refine zf (Zzv ..)<|ze<|zq ?_
 exact zk (Z8N x0 x7 (IntKind.i64.wrap (x8 + 1)) zn zy zb zh zj z2 z6 ox0 zu zd zC)
def Z40 (x0 : List ByteArray) (x7 x8 : Int) (zn : List Int) (zy : Int) : Option (Int × Int) :=
 (lget x0 x8).bind fun a1 =>
 (Z1J a1 zn zy).bind fun r2 =>
 if (r2.1) = true then
 (some (x8, r2.2))
 else
 (Z4Y x0 x7 x8 zn r2.2)
theorem ZcO (x0 : List ByteArray) x7 x8 zn zy zb zh zj z2 z6 ox0 zu zd (zC : ZR zd = true) : Sim (Z2d zn zb zh zj z2 z6 zu zd) (Z40 x0 x7 x8 zn zy) (Ztg 1 (.p (.lst ox0 (x0.map eS))) (.clo 68 [(.ptr 0 0)] []) (iv x7) (iv x8) [(Zk (Zm.mk zn zy zb zh zj (Zl.mk z2 z6)) zu zd)]) := by
 unfold Z40
 refine zf (Zzu ..)<|ze<|ze<|zi fun a1 ha1 => ?_
 refine zo (.cptr [(.v (.string a1))]) ?_ (Eq.trans (by kernel_rfl) (Z3X (o := (shrO ox0)) (k := .i64) (n := 1) (e := eS) (cs := (fun a => [eS a])) (fun _ => rfl) (fun _ => rfl) (by decide) ha1))
 refine zq<|zi fun r2 hr2 => ?_
 obtain ⟨qr2, er2, exr2, rfl⟩ := Z1S a1 zn zy zb zh zj z2 z6 zu zd zC r2 hr2
 refine zv [0] (bv r2.1) [(Zk (Zm.mk zn r2.2 zb zh zj (Zl.mk z2 z6)) zu zd)] er2 ?_
 refine za r2.1 ?_ ?_
 ·refine ze ?_
  exact zr ((iv x8), [(Zk (Zm.mk zn r2.2 zb zh zj (Zl.mk z2 z6)) zu zd)]) ⟨_, rfl⟩
 ·exact zk (ZcP x0 x7 x8 zn r2.2 zb zh zj z2 z6 ox0 zu zd zC)
def Z6K (zy : Int) : Option (Int × Int) :=
 some ((-1), zy)
theorem ZcQ zn zy zb zh zj z2 z6 zu zd (zC : ZR zd = true) : Sim (Z2d zn zb zh zj z2 z6 zu zd) (Z6K zy) (Zti 1  [(Zk (Zm.mk zn zy zb zh zj (Zl.mk z2 z6)) zu zd)]) := by
 unfold Z6K
 refine zf (Zzw ..)<|ze ?_
 exact zr ((iv (-1)), [(Zk (Zm.mk zn zy zb zh zj (Zl.mk z2 z6)) zu zd)]) ⟨_, rfl⟩
def Z3o (x0 : List ByteArray) (x7 x8 : Int) (zn : List Int) (zy : Int) : Option (Int × Int) :=
 if (decide (x8 < x7)) = true then
 (Z40 x0 x7 x8 zn zy)
 else
 (Z6K zy)
theorem ZcN (x0 : List ByteArray) x7 x8 zn zy zb zh zj z2 z6 ox0 zu zd (zC : ZR zd = true) : Sim (Z2d zn zb zh zj z2 z6 zu zd) (Z3o x0 x7 x8 zn zy) (Zj4 1 (.p (.lst ox0 (x0.map eS))) (.clo 68 [(.ptr 0 0)] []) (iv x7) (iv x8) [(Zk (Zm.mk zn zy zb zh zj (Zl.mk z2 z6)) zu zd)]) := by
 unfold Z3o
 refine zf (Zzt ..)<|ze<|zq ?_
 refine za (decide (x8 < x7)) ?_ ?_
 ·exact zk (ZcO x0 x7 x8 zn zy zb zh zj z2 z6 ox0 zu zd zC)
 ·exact zk (ZcQ zn zy zb zh zj z2 z6 zu zd zC)
theorem Z6a (x0 : List ByteArray) (x7 x8 : Int) (zn : List Int) (zy : Int) {r} (h : Z3o x0 x7 x8 zn zy = some r) : Z2t x0 x7 x8 zn zy = some r :=
 Z1f (fun _ _ ha hb => RRun.uniq (Za1 _ _ _ _ _ _ _ _) (ha default default default default default .ex .ex .ex rfl) (hb default default default default default .ex .ex .ex rfl)) (fun zb zh zj z2 z6 ox0 zu zd zC => ZcN x0 x7 x8 zn zy zb zh zj z2 z6 ox0 zu zd zC r h)
def Z4y (zy z2 z6 z3f z4G z4F z3V z3I : Int) (z3J : List Zc) (z3e : List Z7) : Option (Z7 × Int × Int × Int) :=
 some ((Z7.mk z3f z4G z4F z3V z3I z3J z3e), zy, z2, z6)
theorem Z7L zn zy zb zh zj z2 z6 b1 b2 z3f z4G z4F z3V z3I z3J z3e zu zd zK zG z2R z2z z4T z42 (zC : ZR zd = true) (zeZ : ZR z2R = true) (zcR : ZR z2z = true) (zf0 : ZR z4T = true) (zcS : ZR z42 = true) : Sim (Z46 zn zb zh zj zu zd) (Z4y zy z2 z6 z3f z4G z4F z3V z3I z3J z3e) (Zjt 1 (.ptr 2 0) (.ptr 3 0) [(Zk (Zm.mk zn zy zb zh zj (Zl.mk z2 z6)) zu zd), (Zv b1 zK zG), (Zv b2 z2R z2z), (Zv (Z7.mk z3f z4G z4F z3V z3I z3J z3e) z4T z42)]) := by
 unfold Z4y
 refine zf (Zxq ..)<|ze<|zq<|zt [(Zk (Zm.mk zn zy zb zh zj (Zl.mk z2 z6)) zu zd), (Zv b1 zK zG), (Zv (Z7.mk z3f z4G z4F z3V z3I z3J z3e) (shrO z4T) (shrO z42)), (Zv (Z7.mk z3f z4G z4F z3V z3I z3J z3e) z4T z42)] ?_
 exact zr ((.p (.agg (ZJ (Z7.mk z3f z4G z4F z3V z3I z3J z3e) .sh .sh))), [(Zk (Zm.mk zn zy zb zh zj (Zl.mk z2 z6)) zu zd), (Zv b1 zK zG), (Zv (Z7.mk z3f z4G z4F z3V z3I z3J z3e) (shrO z4T) (shrO z42)), (Zv (Z7.mk z3f z4G z4F z3V z3I z3J z3e) z4T z42)]) ⟨_, rfl⟩
def Z3M (zn : List Int) (zy z2 z6 z3f z4G z4F z3V z3I : Int) (z3J : List Zc) (z3e : List Z7) : Option (Z7 × Int × Int × Int) :=
 (Z1J (ByteArray.mk #[63]) zn zy).bind fun r1 =>
 if (r1.1) = true then
 (Z4y r1.2 z2 z6 z3f z4G z4F 1 z3I z3J z3e)
 else
 ((Z1J (ByteArray.mk #[43]) zn r1.2).bind fun r2 =>
 if (r2.1) = true then
 (Z4y r2.2 z2 z6 z3f z4G z4F 2 z3I z3J z3e)
 else
 (Z4y r2.2 z2 z6 z3f z4G z4F z3V z3I z3J z3e))
theorem ZaJ zn zy zb zh zj z2 z6 b1 b2 z3f z4G z4F z3V z3I z3J z3e zu zd zK zG z2R z2z z4T z42 (zC : ZR zd = true) (zeZ : ZR z2R = true) (zcR : ZR z2z = true) (zf0 : ZR z4T = true) (zcS : ZR z42 = true) : Sim (Z46 zn zb zh zj zu zd) (Z3M zn zy z2 z6 z3f z4G z4F z3V z3I z3J z3e) (ZmK 1 (.ptr 0 0) (.ptr 2 0) (.ptr 3 0) [(Zk (Zm.mk zn zy zb zh zj (Zl.mk z2 z6)) zu zd), (Zv b1 zK zG), (Zv b2 z2R z2z), (Zv (Z7.mk z3f z4G z4F z3V z3I z3J z3e) z4T z42)]) := by
 unfold Z3M
 refine zf (Zxp ..)<|ze<|zi fun r1 hr1 => ?_
 obtain ⟨qr1, er1, exr1, rfl⟩ := Z1S (ByteArray.mk #[63]) zn zy zb zh zj z2 z6 zu zd zC r1 hr1
 refine zc [0] (bv r1.1) [(Zk (Zm.mk zn r1.2 zb zh zj (Zl.mk z2 z6)) zu zd), (Zv b1 zK zG), (Zv b2 z2R z2z), (Zv (Z7.mk z3f z4G z4F z3V z3I z3J z3e) z4T z42)] er1 ?_
 refine za r1.1 ?_ ?_
 ·refine ze<|zq<|zt [(Zk (Zm.mk zn r1.2 zb zh zj (Zl.mk z2 z6)) zu zd), (Zv b1 zK zG), (Zv b2 z2R z2z), (Zv (Z7.mk z3f z4G z4F 1 z3I z3J z3e) z4T z42)] ?_
  exact zk (Z7L zn r1.2 zb zh zj z2 z6 b1 b2 z3f z4G z4F 1 z3I z3J z3e zu zd zK zG z2R z2z z4T z42 zC zeZ zcR zf0 zcS)
 ·refine ze<|zi fun r2 hr2 => ?_
  obtain ⟨qr2, er2, exr2, rfl⟩ := Z1S (ByteArray.mk #[43]) zn r1.2 zb zh zj z2 z6 zu zd zC r2 hr2
  refine zc [0] (bv r2.1) [(Zk (Zm.mk zn r2.2 zb zh zj (Zl.mk z2 z6)) zu zd), (Zv b1 zK zG), (Zv b2 z2R z2z), (Zv (Z7.mk z3f z4G z4F z3V z3I z3J z3e) z4T z42)] er2 ?_
  refine za r2.1 ?_ ?_
  ·refine ze<|zq<|zt [(Zk (Zm.mk zn r2.2 zb zh zj (Zl.mk z2 z6)) zu zd), (Zv b1 zK zG), (Zv b2 z2R z2z), (Zv (Z7.mk z3f z4G z4F 2 z3I z3J z3e) z4T z42)] ?_
   exact zk (Z7L zn r2.2 zb zh zj z2 z6 b1 b2 z3f z4G z4F 2 z3I z3J z3e zu zd zK zG z2R z2z z4T z42 zC zeZ zcR zf0 zcS)
  ·exact zk (Z7L zn r2.2 zb zh zj z2 z6 b1 b2 z3f z4G z4F z3V z3I z3J z3e zu zd zK zG z2R z2z z4T z42 zC zeZ zcR zf0 zcS)
def Z31 (x2 : Bool) (x7 : Int) (zn : List Int) (zy z2 z6 z3f z4G z4F z3V z3I : Int) (z3J : List Zc) (z3e : List Z7) : Option (Z7 × Int × Int × Int) :=
 if (!x2) = true then
 ((Z1m 23 x7 zn z2 z6).bind fun r1 =>
 Z3M zn r1.1 r1.2.1 r1.2.2 z3f z4G z4F z3V z3I z3J z3e)
 else
 (Z3M zn zy z2 z6 z3f z4G z4F z3V z3I z3J z3e)
theorem Z5L x2 x7 zn zy zb zh zj z2 z6 b1 b2 z3f z4G z4F z3V z3I z3J z3e zu zd zK zG z2R z2z z4T z42 (zC : ZR zd = true) (zeZ : ZR z2R = true) (zcR : ZR z2z = true) (zf0 : ZR z4T = true) (zcS : ZR z42 = true) : Sim (Z46 zn zb zh zj zu zd) (Z31 x2 x7 zn zy z2 z6 z3f z4G z4F z3V z3I z3J z3e) (ZgA 1 (.ptr 0 0) (bv x2) (.ptr 2 0) (iv x7) (.ptr 3 0) [(Zk (Zm.mk zn zy zb zh zj (Zl.mk z2 z6)) zu zd), (Zv b1 zK zG), (Zv b2 z2R z2z), (Zv (Z7.mk z3f z4G z4F z3V z3I z3J z3e) z4T z42)]) := by
 unfold Z31
 refine zf (Zxo ..)<|ze<|zq ?_
 refine za (!x2) ?_ ?_
 ·refine ze<|zi fun r1 hr1 => ?_
  obtain ⟨qr1, er1, exr1, rfl⟩ := Z1p 23 x7 zn zy zb zh zj z2 z6 zu zd zC r1 hr1
  refine zc [0] (.p (.tup [])) [(Zk (Zm.mk zn r1.1 zb zh zj (Zl.mk r1.2.1 r1.2.2)) zu zd), (Zv b1 zK zG), (Zv b2 z2R z2z), (Zv (Z7.mk z3f z4G z4F z3V z3I z3J z3e) z4T z42)] er1 ?_
  exact zk (ZaJ zn r1.1 zb zh zj r1.2.1 r1.2.2 b1 b2 z3f z4G z4F z3V z3I z3J z3e zu zd zK zG z2R z2z z4T z42 zC zeZ zcR zf0 zcS)
 ·exact zk (ZaJ zn zy zb zh zj z2 z6 b1 b2 z3f z4G z4F z3V z3I z3J z3e zu zd zK zG z2R z2z z4T z42 zC zeZ zcR zf0 zcS)
def Z5B (x1 : Z7) (x2 : Bool) (zn : List Int) (zy zb zh : Int) (zj : List Zz) (z2 z6 : Int) : Option (Z7 × Int × Int × Int) :=
 (Z1J (ByteArray.mk #[42]) zn zy).bind fun r1 =>
 if (r1.1) = true then
 (Z31 x2 zy zn r1.2 z2 z6 4 0 (-1) 0 0 ([] : List Zc) ([x1] : List Z7))
 else
 ((Z1J (ByteArray.mk #[43]) zn r1.2).bind fun r2 =>
 if (r2.1) = true then
 (Z31 x2 zy zn r2.2 z2 z6 4 1 (-1) 0 0 ([] : List Zc) ([x1] : List Z7))
 else
 ((Z1J (ByteArray.mk #[63]) zn r2.2).bind fun r3 =>
 if (r3.1) = true then
 (Z31 x2 zy zn r3.2 z2 z6 4 0 1 0 0 ([] : List Zc) ([x1] : List Z7))
 else
 ((Z1J (ByteArray.mk #[123]) zn r3.2).bind fun r4 =>
 if (r4.1) = true then
 ((Z72 zy zn r4.2 zb zh zj z2 z6).bind fun r5 =>
 Z31 x2 zy zn r5.2.2.1 r5.2.2.2.1 r5.2.2.2.2 4 r5.1 r5.2.1 0 0 ([] : List Zc) ([x1] : List Z7))
 else
 (some (x1, r4.2, z2, z6)))))
theorem ZiM x1 x2 zn zy zb zh zj z2 z6 z3p z2W zu zd (zC : ZR zd = true) : Sim (Z46 zn zb zh zj zu zd) (Z5B x1 x2 zn zy zb zh zj z2 z6) (EE 106 [(.ptr 0 0), (.p (.agg (ZJ x1 z3p z2W))), (bv x2)] [(Zk (Zm.mk zn zy zb zh zj (Zl.mk z2 z6)) zu zd)]) := by
 unfold Z5B
 refine zf (ZEF ..)<|ze<|zx (.ptr 1 0) [(Zk (Zm.mk zn zy zb zh zj (Zl.mk z2 z6)) zu zd), (Zv x1 z3p z2W)]<|zz (.ptr 2 0) [(Zk (Zm.mk zn zy zb zh zj (Zl.mk z2 z6)) zu zd), (Zv x1 z3p z2W), (Zv (Z7.mk 0 0 0 0 0 ([] : List Zc) ([] : List Z7)) .nl .nl)]<|ze<|zq<|zq<|zq<|ze<|zq ?_
 refine zo (.p (.lst .ex (([x1] : List Z7).map ZV))) ?_ (Eq.trans (b := some (.p (.lst .ex [.agg (Z37 x1)]))) (by kernel_rfl) (by simp only [List.map_cons, List.map_nil, Z4Z]))
 refine zq<|zz (.ptr 3 0) [(Zk (Zm.mk zn zy zb zh zj (Zl.mk z2 z6)) zu zd), (Zv x1 z3p z2W), (Zv (Z7.mk 0 0 0 0 0 ([] : List Zc) ([] : List Z7)) .nl .nl), (Zv (Z7.mk 0 0 0 0 0 ([] : List Zc) ([] : List Z7)) .nl .nl)]<|zt [(Zk (Zm.mk zn zy zb zh zj (Zl.mk z2 z6)) zu zd), (Zv x1 z3p z2W), (Zv (Z7.mk 0 0 0 0 0 ([] : List Zc) ([] : List Z7)) .nl .nl), (Zv (Z7.mk 4 0 (-1) 0 0 ([] : List Zc) ([x1] : List Z7)) .nl .ex)]<|ze<|zi fun r1 hr1 => ?_
 obtain ⟨qr1, er1, exr1, rfl⟩ := Z1S (ByteArray.mk #[42]) zn zy zb zh zj z2 z6 zu zd zC r1 hr1
 refine zc [0] (bv r1.1) [(Zk (Zm.mk zn r1.2 zb zh zj (Zl.mk z2 z6)) zu zd), (Zv x1 z3p z2W), (Zv (Z7.mk 0 0 0 0 0 ([] : List Zc) ([] : List Z7)) .nl .nl), (Zv (Z7.mk 4 0 (-1) 0 0 ([] : List Zc) ([x1] : List Z7)) .nl .ex)] er1 ?_
 refine za r1.1 ?_ ?_
 ·exact zk (Z5L x2 zy zn r1.2 zb zh zj z2 z6 x1 (Z7.mk 0 0 0 0 0 ([] : List Zc) ([] : List Z7)) 4 0 (-1) 0 0 ([] : List Zc) ([x1] : List Z7) zu zd z3p z2W .nl .nl .nl .ex zC rfl rfl rfl rfl)
 ·refine ze<|zi fun r2 hr2 => ?_
  obtain ⟨qr2, er2, exr2, rfl⟩ := Z1S (ByteArray.mk #[43]) zn r1.2 zb zh zj z2 z6 zu zd zC r2 hr2
  refine zc [0] (bv r2.1) [(Zk (Zm.mk zn r2.2 zb zh zj (Zl.mk z2 z6)) zu zd), (Zv x1 z3p z2W), (Zv (Z7.mk 0 0 0 0 0 ([] : List Zc) ([] : List Z7)) .nl .nl), (Zv (Z7.mk 4 0 (-1) 0 0 ([] : List Zc) ([x1] : List Z7)) .nl .ex)] er2 ?_
  refine za r2.1 ?_ ?_
  ·refine ze<|zq<|zt [(Zk (Zm.mk zn r2.2 zb zh zj (Zl.mk z2 z6)) zu zd), (Zv x1 z3p z2W), (Zv (Z7.mk 0 0 0 0 0 ([] : List Zc) ([] : List Z7)) .nl .nl), (Zv (Z7.mk 4 1 (-1) 0 0 ([] : List Zc) ([x1] : List Z7)) .nl .ex)] ?_
   exact zk (Z5L x2 zy zn r2.2 zb zh zj z2 z6 x1 (Z7.mk 0 0 0 0 0 ([] : List Zc) ([] : List Z7)) 4 1 (-1) 0 0 ([] : List Zc) ([x1] : List Z7) zu zd z3p z2W .nl .nl .nl .ex zC rfl rfl rfl rfl)
  ·refine ze<|zi fun r3 hr3 => ?_
   obtain ⟨qr3, er3, exr3, rfl⟩ := Z1S (ByteArray.mk #[63]) zn r2.2 zb zh zj z2 z6 zu zd zC r3 hr3
   refine zc [0] (bv r3.1) [(Zk (Zm.mk zn r3.2 zb zh zj (Zl.mk z2 z6)) zu zd), (Zv x1 z3p z2W), (Zv (Z7.mk 0 0 0 0 0 ([] : List Zc) ([] : List Z7)) .nl .nl), (Zv (Z7.mk 4 0 (-1) 0 0 ([] : List Zc) ([x1] : List Z7)) .nl .ex)] er3 ?_
   refine za r3.1 ?_ ?_
   ·refine ze<|zq<|zt [(Zk (Zm.mk zn r3.2 zb zh zj (Zl.mk z2 z6)) zu zd), (Zv x1 z3p z2W), (Zv (Z7.mk 0 0 0 0 0 ([] : List Zc) ([] : List Z7)) .nl .nl), (Zv (Z7.mk 4 0 1 0 0 ([] : List Zc) ([x1] : List Z7)) .nl .ex)] ?_
    exact zk (Z5L x2 zy zn r3.2 zb zh zj z2 z6 x1 (Z7.mk 0 0 0 0 0 ([] : List Zc) ([] : List Z7)) 4 0 1 0 0 ([] : List Zc) ([x1] : List Z7) zu zd z3p z2W .nl .nl .nl .ex zC rfl rfl rfl rfl)
   ·refine ze<|zi fun r4 hr4 => ?_
    obtain ⟨qr4, er4, exr4, rfl⟩ := Z1S (ByteArray.mk #[123]) zn r3.2 zb zh zj z2 z6 zu zd zC r4 hr4
    refine zc [0] (bv r4.1) [(Zk (Zm.mk zn r4.2 zb zh zj (Zl.mk z2 z6)) zu zd), (Zv x1 z3p z2W), (Zv (Z7.mk 0 0 0 0 0 ([] : List Zc) ([] : List Z7)) .nl .nl), (Zv (Z7.mk 4 0 (-1) 0 0 ([] : List Zc) ([x1] : List Z7)) .nl .ex)] er4 ?_
    refine za r4.1 ?_ ?_
    ·refine ze<|zi fun r5 hr5 => ?_
     obtain ⟨qr5, er5, exr5, rfl⟩ := ZjC zy zn r4.2 zb zh zj z2 z6 zu zd zC r5 hr5
     refine zc [0] (.p (.tup [(.v (.int .i64 r5.1)), (.v (.int .i64 r5.2.1))])) [(Zk (Zm.mk zn r5.2.2.1 zb zh zj (Zl.mk r5.2.2.2.1 r5.2.2.2.2)) zu zd), (Zv x1 z3p z2W), (Zv (Z7.mk 0 0 0 0 0 ([] : List Zc) ([] : List Z7)) .nl .nl), (Zv (Z7.mk 4 0 (-1) 0 0 ([] : List Zc) ([x1] : List Z7)) .nl .ex)] er5<|zq<|zq<|zq<|zt [(Zk (Zm.mk zn r5.2.2.1 zb zh zj (Zl.mk r5.2.2.2.1 r5.2.2.2.2)) zu zd), (Zv x1 z3p z2W), (Zv (Z7.mk 0 0 0 0 0 ([] : List Zc) ([] : List Z7)) .nl .nl), (Zv (Z7.mk 4 r5.1 (-1) 0 0 ([] : List Zc) ([x1] : List Z7)) .nl .ex)]<|zq<|zt [(Zk (Zm.mk zn r5.2.2.1 zb zh zj (Zl.mk r5.2.2.2.1 r5.2.2.2.2)) zu zd), (Zv x1 z3p z2W), (Zv (Z7.mk 0 0 0 0 0 ([] : List Zc) ([] : List Z7)) .nl .nl), (Zv (Z7.mk 4 r5.1 r5.2.1 0 0 ([] : List Zc) ([x1] : List Z7)) .nl .ex)] ?_
     exact zk (Z5L x2 zy zn r5.2.2.1 zb zh zj r5.2.2.2.1 r5.2.2.2.2 x1 (Z7.mk 0 0 0 0 0 ([] : List Zc) ([] : List Z7)) 4 r5.1 r5.2.1 0 0 ([] : List Zc) ([x1] : List Z7) zu zd z3p z2W .nl .nl .nl .ex zC rfl rfl rfl rfl)
    ·refine ze<|zq<|zt [(Zk (Zm.mk zn r4.2 zb zh zj (Zl.mk z2 z6)) zu zd), (Zv x1 z3p z2W), (Zv x1 (shrO z3p) (shrO z2W)), (Zv (Z7.mk 4 0 (-1) 0 0 ([] : List Zc) ([x1] : List Z7)) .nl .ex)] ?_
     exact zr ((.p (.agg (ZJ x1 .sh .sh))), [(Zk (Zm.mk zn r4.2 zb zh zj (Zl.mk z2 z6)) zu zd), (Zv x1 z3p z2W), (Zv x1 (shrO z3p) (shrO z2W)), (Zv (Z7.mk 4 0 (-1) 0 0 ([] : List Zc) ([x1] : List Z7)) .nl .ex)]) ⟨_, rfl⟩
theorem ZcI (x1 : Z7) (x2 : Bool) (zn : List Int) (zy zb zh : Int) (zj : List Zz) (z2 z6 : Int) {r} (h : Z5B x1 x2 zn zy zb zh zj z2 z6 = some r) : Z73 x1 x2 zn zy zb zh zj z2 z6 = some r :=
 Z1f (fun _ _ ha hb => RRun.uniq (ZjY _ _ _ _ _ _) (ha .ex .ex .ex .ex rfl) (hb .ex .ex .ex .ex rfl)) (fun z3p z2W zu zd zC => ZiM x1 x2 zn zy zb zh zj z2 z6 z3p z2W zu zd zC r h)
def Z9n (x4 zy z2 z6 : Int) : Option (Int × Int × Int × Int × Int) :=
 some (x4, (-1), zy, z2, z6)
theorem ZgR x4 zn zy zb zh zj z2 z6 zu zd (zC : ZR zd = true) : Sim (Z2Y zn zb zh zj zu zd) (Z9n x4 zy z2 z6) (Zt3 1 (iv x4) [(Zk (Zm.mk zn zy zb zh zj (Zl.mk z2 z6)) zu zd)]) := by
 unfold Z9n
 refine zf (Zzj ..)<|ze ?_
 exact zr ((.p (.tup [(.v (.int .i64 x4)), (.v (.int .i64 (-1)))])), [(Zk (Zm.mk zn zy zb zh zj (Zl.mk z2 z6)) zu zd)]) ⟨_, rfl⟩
def Z79 (x4 x5 zy z2 z6 : Int) : Option (Int × Int × Int × Int × Int) :=
 some (x4, x5, zy, z2, z6)
theorem ZaH x4 x5 zn zy zb zh zj z2 z6 zu zd (zC : ZR zd = true) : Sim (Z2Y zn zb zh zj zu zd) (Z79 x4 x5 zy z2 z6) (ZmP 1 (iv x4) (iv x5) [(Zk (Zm.mk zn zy zb zh zj (Zl.mk z2 z6)) zu zd)]) := by
 unfold Z79
 refine zf (ZxH ..)<|ze ?_
 exact zr ((.p (.tup [(.v (.int .i64 x4)), (.v (.int .i64 x5))])), [(Zk (Zm.mk zn zy zb zh zj (Zl.mk z2 z6)) zu zd)]) ⟨_, rfl⟩
def Z3l (x1 x4 x5 : Int) (zn : List Int) (z2 z6 : Int) : Option (Int × Int × Int × Int × Int) :=
 (Z1m 23 x1 zn z2 z6).bind fun r1 =>
 Z79 x4 x5 r1.1 r1.2.1 r1.2.2
theorem Z5K x1 x4 x5 zn zy zb zh zj z2 z6 zu zd (zC : ZR zd = true) : Sim (Z2Y zn zb zh zj zu zd) (Z3l x1 x4 x5 zn z2 z6) (ZgF 1 (.ptr 0 0) (iv x1) (iv x4) (iv x5) [(Zk (Zm.mk zn zy zb zh zj (Zl.mk z2 z6)) zu zd)]) := by
 unfold Z3l
 refine zf (ZxG ..)<|ze<|zi fun r1 hr1 => ?_
 obtain ⟨qr1, er1, exr1, rfl⟩ := Z1p 23 x1 zn zy zb zh zj z2 z6 zu zd zC r1 hr1
 refine zc [0] (.p (.tup [])) [(Zk (Zm.mk zn r1.1 zb zh zj (Zl.mk r1.2.1 r1.2.2)) zu zd)] er1 ?_
 exact zk (ZaH x4 x5 zn r1.1 zb zh zj r1.2.1 r1.2.2 zu zd zC)
def Z38 (x1 x4 x5 : Int) (zn : List Int) (zy z2 z6 : Int) : Option (Int × Int × Int × Int × Int) :=
 if (decide (x4 < 0)) = true then
 (Z3l x1 x4 x5 zn z2 z6)
 else
 (if (decide (x5 < x4)) = true then
 (Z3l x1 x4 x5 zn z2 z6)
 else
 (if (decide (64 < x5)) = true then
 (Z3l x1 x4 x5 zn z2 z6)
 else
 ((Z1J (ByteArray.mk #[125]) zn zy).bind fun r1 =>
 if (!r1.1) = true then
 (Z3l x1 x4 x5 zn z2 z6)
 else
 (Z79 x4 x5 r1.2 z2 z6))))
theorem Z67 x1 x4 x5 zn zy zb zh zj z2 z6 zu zd (zC : ZR zd = true) : Sim (Z2Y zn zb zh zj zu zd) (Z38 x1 x4 x5 zn zy z2 z6) (Zj3 1 (.ptr 0 0) (iv x1) (iv x4) (iv x5) [(Zk (Zm.mk zn zy zb zh zj (Zl.mk z2 z6)) zu zd)]) := by
 unfold Z38
 refine zf (Zzl ..)<|ze<|zq ?_
 refine za (decide (x4 < 0)) ?_ ?_
 ·exact zk (Z5K x1 x4 x5 zn zy zb zh zj z2 z6 zu zd zC)
 ·refine zq ?_
  refine za (decide (x5 < x4)) ?_ ?_
  ·exact zk (Z5K x1 x4 x5 zn zy zb zh zj z2 z6 zu zd zC)
  ·refine zq ?_
   refine za (decide (64 < x5)) ?_ ?_
   ·exact zk (Z5K x1 x4 x5 zn zy zb zh zj z2 z6 zu zd zC)
   ·refine zi fun r1 hr1 => ?_
    obtain ⟨qr1, er1, exr1, rfl⟩ := Z1S (ByteArray.mk #[125]) zn zy zb zh zj z2 z6 zu zd zC r1 hr1
    refine zc [0] (bv r1.1) [(Zk (Zm.mk zn r1.2 zb zh zj (Zl.mk z2 z6)) zu zd)] er1<|zq ?_
    refine za (!r1.1) ?_ ?_
    ·exact zk (Z5K x1 x4 x5 zn r1.2 zb zh zj z2 z6 zu zd zC)
    ·exact zk (ZaH x4 x5 zn r1.2 zb zh zj z2 z6 zu zd zC)
def Z4O (x1 x4 : Int) (zn : List Int) (zy z2 z6 : Int) : Option (Int × Int × Int × Int × Int) :=
 Z38 x1 x4 (-2) zn zy z2 z6
theorem Zbj x1 x4 zn zy zb zh zj z2 z6 zu zd (zC : ZR zd = true) : Sim (Z2Y zn zb zh zj zu zd) (Z4O x1 x4 zn zy z2 z6) (Zpy 1 (.ptr 0 0) (iv x1) (iv x4) [(Zk (Zm.mk zn zy zb zh zj (Zl.mk z2 z6)) zu zd)]) := by
 unfold Z4O
 refine zf (Zzk ..)<|ze ?_
 exact zk (Z67 x1 x4 (-2) zn zy zb zh zj z2 z6 zu zd zC)
def Z7l (x1 x4 : Int) (zn : List Int) (zy z2 z6 : Int) : Option (Int × Int × Int × Int × Int) :=
 (Z1J (ByteArray.mk #[125]) zn zy).bind fun r1 =>
 if (r1.1) = true then
 (if (decide (x4 ≤ 64)) = true then
 (Z9n x4 r1.2 z2 z6)
 else
 (Z4O x1 x4 zn r1.2 z2 z6))
 else
 (Z4O x1 x4 zn r1.2 z2 z6)
theorem ZgQ x1 x4 zn zy zb zh zj z2 z6 zu zd (zC : ZR zd = true) : Sim (Z2Y zn zb zh zj zu zd) (Z7l x1 x4 zn zy z2 z6) (Zt2 1 (.ptr 0 0) (iv x1) (iv x4) [(Zk (Zm.mk zn zy zb zh zj (Zl.mk z2 z6)) zu zd)]) := by
 unfold Z7l
 refine zf (Zzi ..)<|ze<|zi fun r1 hr1 => ?_
 obtain ⟨qr1, er1, exr1, rfl⟩ := Z1S (ByteArray.mk #[125]) zn zy zb zh zj z2 z6 zu zd zC r1 hr1
 refine zc [0] (bv r1.1) [(Zk (Zm.mk zn r1.2 zb zh zj (Zl.mk z2 z6)) zu zd)] er1 ?_
 refine za r1.1 ?_ ?_
 ·refine zq ?_
  refine za (decide (x4 ≤ 64)) ?_ ?_
  ·exact zk (ZgR x4 zn r1.2 zb zh zj z2 z6 zu zd zC)
  ·exact zk (Zbj x1 x4 zn r1.2 zb zh zj z2 z6 zu zd zC)
 ·exact zk (Zbj x1 x4 zn r1.2 zb zh zj z2 z6 zu zd zC)
def Z6W (x1 : Int) (zn : List Int) (zy zb zh : Int) (zj : List Zz) (z2 z6 : Int) : Option (Int × Int × Int × Int × Int) :=
 (Z5G zn zy zb zh zj z2 z6).bind fun r1 =>
 (Z1J (ByteArray.mk #[44]) zn r1.2).bind fun r2 =>
 if (r2.1) = true then
 ((Z5G zn r2.2 zb zh zj z2 z6).bind fun r3 =>
 if (decide (r3.1 < 0)) = true then
 (if (decide (0 ≤ r1.1)) = true then
 (Z7l x1 r1.1 zn r3.2 z2 z6)
 else
 (Z38 x1 r1.1 r3.1 zn r3.2 z2 z6))
 else
 (Z38 x1 r1.1 r3.1 zn r3.2 z2 z6))
 else
 (Z38 x1 r1.1 r1.1 zn r2.2 z2 z6)
theorem ZiI x1 zn zy zb zh zj z2 z6 zu zd (zC : ZR zd = true) : Sim (Z2Y zn zb zh zj zu zd) (Z6W x1 zn zy zb zh zj z2 z6) (EE 133 [(.ptr 0 0), (iv x1)] [(Zk (Zm.mk zn zy zb zh zj (Zl.mk z2 z6)) zu zd)]) := by
 unfold Z6W
 refine zf (ZF3 ..)<|ze<|ze<|zi fun r1 hr1 => ?_
 obtain ⟨qr1, er1, exr1, rfl⟩ := ZcH zn zy zb zh zj z2 z6 zu zd zC r1 hr1
 refine zc [0] (iv r1.1) [(Zk (Zm.mk zn r1.2 zb zh zj (Zl.mk z2 z6)) zu zd)] er1<|ze<|ze<|zi fun r2 hr2 => ?_
 obtain ⟨qr2, er2, exr2, rfl⟩ := Z1S (ByteArray.mk #[44]) zn r1.2 zb zh zj z2 z6 zu zd zC r2 hr2
 refine zc [0] (bv r2.1) [(Zk (Zm.mk zn r2.2 zb zh zj (Zl.mk z2 z6)) zu zd)] er2 ?_
 refine za r2.1 ?_ ?_
 ·refine ze<|zi fun r3 hr3 => ?_
  obtain ⟨qr3, er3, exr3, rfl⟩ := ZcH zn r2.2 zb zh zj z2 z6 zu zd zC r3 hr3
  refine zc [0] (iv r3.1) [(Zk (Zm.mk zn r3.2 zb zh zj (Zl.mk z2 z6)) zu zd)] er3<|ze<|zq ?_
  refine za (decide (r3.1 < 0)) ?_ ?_
  ·refine zq ?_
   refine za (decide (0 ≤ r1.1)) ?_ ?_
   ·exact zk (ZgQ x1 r1.1 zn r3.2 zb zh zj z2 z6 zu zd zC)
   ·exact zk (Z67 x1 r1.1 r3.1 zn r3.2 zb zh zj z2 z6 zu zd zC)
  ·exact zk (Z67 x1 r1.1 r3.1 zn r3.2 zb zh zj z2 z6 zu zd zC)
 ·exact zk (Z67 x1 r1.1 r1.1 zn r2.2 zb zh zj z2 z6 zu zd zC)
theorem ZcE (x1 : Int) (zn : List Int) (zy zb zh : Int) (zj : List Zz) (z2 z6 : Int) {r} (h : Z6W x1 zn zy zb zh zj z2 z6 = some r) : Z72 x1 zn zy zb zh zj z2 z6 = some r :=
 Z1f (fun _ _ ha hb => RRun.uniq (ZjV _ _ _ _ _ _) (ha .ex .ex rfl) (hb .ex .ex rfl)) (fun zu zd zC => ZiI x1 zn zy zb zh zj z2 z6 zu zd zC r h)
def Zbb (zn : List Int) (zy zb zh : Int) (zj : List Zz) (z2 z6 : Int) : Option (Int × Int) :=
 Z41 (-1) 0 zn zy zb zh zj z2 z6
theorem ZiL zn zy zb zh zj z2 z6 zu zd (zC : ZR zd = true) : Sim (Z3i zn zb zh zj z2 z6 zu zd) (Zbb zn zy zb zh zj z2 z6) (EE 156 [(.ptr 0 0)] [(Zk (Zm.mk zn zy zb zh zj (Zl.mk z2 z6)) zu zd)]) := by
 unfold Zbb
 refine zf (ZFo ..)<|ze<|ze<|ze ?_
 exact zk (Zbq (-1) 0 zn zy zb zh zj z2 z6 zu zd zC)
theorem ZjF (zn : List Int) (zy zb zh : Int) (zj : List Zz) (z2 z6 : Int) {r} (h : Zbb zn zy zb zh zj z2 z6 = some r) : Z5G zn zy zb zh zj z2 z6 = some r :=
 Z1f (fun _ _ ha hb => RRun.uniq (Zdz _ _ _ _ _ _ _ _) (ha .ex .ex rfl) (hb .ex .ex rfl)) (fun zu zd zC => ZiL zn zy zb zh zj z2 z6 zu zd zC r h)
def Z7p (x3 x4 : Int) (zn : List Int) (zy zb zh : Int) (zj : List Zz) (z2 z6 : Int) : Option (Int × Int) :=
 (Z3k zn zy).bind fun r1 =>
 Z41 ((IntKind.i64.wrap ((IntKind.i64.wrap ((IntKind.i64.wrap (10 * (max x3 0))) + r1.1)) - 48))) (IntKind.i64.wrap (x4 + 1)) zn r1.2 zb zh zj z2 z6
theorem ZgW x3 x4 zn zy zb zh zj z2 z6 zu zd (zC : ZR zd = true) : Sim (Z3i zn zb zh zj z2 z6 zu zd) (Z7p x3 x4 zn zy zb zh zj z2 z6) (Ztl 1 (.ptr 0 0) (iv x3) (iv x4) [(Zk (Zm.mk zn zy zb zh zj (Zl.mk z2 z6)) zu zd)]) := by
 unfold Z7p
 refine zf (Zzy ..)<|ze ?_
 refine zo (iv (max x3 0)) ?_ (Zpj _ _)
 refine zq<|zi fun r1 hr1 => ?_
 obtain ⟨qr1, er1, exr1, rfl⟩ := Z3S zn zy zb zh zj z2 z6 zu zd zC r1 hr1
 refine zc [0] (iv r1.1) [(Zk (Zm.mk zn r1.2 zb zh zj (Zl.mk z2 z6)) zu zd)] er1<|zq<|zq<|ze<|zq ?_
 exact zk (Zbq ((IntKind.i64.wrap ((IntKind.i64.wrap ((IntKind.i64.wrap (10 * (max x3 0))) + r1.1)) - 48))) (IntKind.i64.wrap (x4 + 1)) zn r1.2 zb zh zj z2 z6 zu zd zC)
def Z4P (x3 zy : Int) : Option (Int × Int) :=
 some (x3, zy)
theorem Z84 x3 zn zy zb zh zj z2 z6 zu zd (zC : ZR zd = true) : Sim (Z3i zn zb zh zj z2 z6 zu zd) (Z4P x3 zy) (ZlD 1 (iv x3) [(Zk (Zm.mk zn zy zb zh zj (Zl.mk z2 z6)) zu zd)]) := by
 unfold Z4P
 refine zf (Zzz ..)<|ze ?_
 exact zr ((iv x3), [(Zk (Zm.mk zn zy zb zh zj (Zl.mk z2 z6)) zu zd)]) ⟨_, rfl⟩
def Z7o (x3 x4 : Int) (zn : List Int) (zy zb zh : Int) (zj : List Zz) (z2 z6 : Int) : Option (Int × Int) :=
 if (decide (x4 < 2)) = true then
 ((Z2J (Zm.mk zn zy zb zh zj (Zl.mk z2 z6))).bind fun r1 =>
 if (decide (48 ≤ r1)) = true then
 ((Z2J (Zm.mk zn zy zb zh zj (Zl.mk z2 z6))).bind fun r2 =>
 if (decide (r2 ≤ 57)) = true then
 (Z7p x3 x4 zn zy zb zh zj z2 z6)
 else
 (Z4P x3 zy))
 else
 (Z4P x3 zy))
 else
 (Z4P x3 zy)
theorem ZgV x3 x4 zn zy zb zh zj z2 z6 zu zd (zC : ZR zd = true) : Sim (Z3i zn zb zh zj z2 z6 zu zd) (Z7o x3 x4 zn zy zb zh zj z2 z6) (Zj5 1 (.ptr 0 0) (iv x3) (iv x4) [(Zk (Zm.mk zn zy zb zh zj (Zl.mk z2 z6)) zu zd)]) := by
 unfold Z7o
 refine zf (Zzx ..)<|ze<|zq ?_
 refine za (decide (x4 < 2)) ?_ ?_
 ·refine zi fun r1 hr1 => ?_
  obtain ⟨qr1, er1, exr1, rfl⟩ := Z2S (Zm.mk zn zy zb zh zj (Zl.mk z2 z6)) zu zd zC r1 hr1
  refine zc [0] (iv r1) [(Zk (Zm.mk zn zy zb zh zj (Zl.mk z2 z6)) zu zd)] er1<|zq ?_
  refine za (decide (48 ≤ r1)) ?_ ?_
  ·refine zi fun r2 hr2 => ?_
   obtain ⟨qr2, er2, exr2, rfl⟩ := Z2S (Zm.mk zn zy zb zh zj (Zl.mk z2 z6)) zu zd zC r2 hr2
   refine zc [0] (iv r2) [(Zk (Zm.mk zn zy zb zh zj (Zl.mk z2 z6)) zu zd)] er2<|zq ?_
   refine za (decide (r2 ≤ 57)) ?_ ?_
   ·exact zk (ZgW x3 x4 zn zy zb zh zj z2 z6 zu zd zC)
   ·exact zk (Z84 x3 zn zy zb zh zj z2 z6 zu zd zC)
  ·exact zk (Z84 x3 zn zy zb zh zj z2 z6 zu zd zC)
 ·exact zk (Z84 x3 zn zy zb zh zj z2 z6 zu zd zC)
theorem ZhF (x3 x4 : Int) (zn : List Int) (zy zb zh : Int) (zj : List Zz) (z2 z6 : Int) {r} (h : Z7o x3 x4 zn zy zb zh zj z2 z6 = some r) : Z41 x3 x4 zn zy zb zh zj z2 z6 = some r :=
 Z1f (fun _ _ ha hb => RRun.uniq (Zdz _ _ _ _ _ _ _ _) (ha .ex .ex rfl) (hb .ex .ex rfl)) (fun zu zd zC => ZgV x3 x4 zn zy zb zh zj z2 z6 zu zd zC r h)
def ZbJ  : Option (Int) :=
 some (0)
theorem Znw  : Sim (Za6) (ZbJ) (Zw0 0  []) := by
 unfold ZbJ
 refine zf (ZBR ..)<|ze ?_
 exact zr ((iv 0), []) ⟨_, rfl⟩
def ZeA (x0 : ZY) : Option (Int) :=
 (Z4s x0.Root).bind fun r1 =>
 if (!r1) = true then
 (some (27))
 else
 ((Z5Y x0.Root).bind fun r2 =>
 if (decide (2000 < (IntKind.i64.wrap (r2 + 3)))) = true then
 (some (28))
 else
 (ZbJ))
theorem Zq5 x0 z43 z3H : Sim (Za6) (ZeA x0) (EE 48 [(.p (.agg (Z3b x0 z43 z3H)))] []) := by
 unfold ZeA
 refine zf (ZHe ..)<|ze<|zx (.ptr 0 0) [(Z10 x0 z43 z3H)]<|ze<|zq<|zq<|zi fun r1 hr1 => ?_
 obtain ⟨qr1, er1, exr1, rfl⟩ := ZhO x0.Root .sh .sh r1 hr1
 refine zc [] (bv r1) [(Z10 x0 z43 z3H)] er1<|zq ?_
 refine za (!r1) ?_ ?_
 ·refine ze ?_
  exact zr ((iv 27), [(Z10 x0 z43 z3H)]) ⟨_, rfl⟩
 ·refine ze<|zq<|zq<|zi fun r2 hr2 => ?_
  obtain ⟨qr2, er2, exr2, rfl⟩ := Zkx x0.Root .sh .sh r2 hr2
  refine zc [] (iv r2) [(Z10 x0 z43 z3H)] er2<|zq<|zq ?_
  refine za (decide (2000 < (IntKind.i64.wrap (r2 + 3)))) ?_ ?_
  ·refine ze ?_
   exact zr ((iv 28), [(Z10 x0 z43 z3H)]) ⟨_, rfl⟩
  ·exact zk (Znw )
theorem Zr1 (x0 : ZY) {r} (h : ZeA x0 = some r) : ZeG x0 = some r :=
 Z1f (fun _ _ ha hb => RRun.uniq Zrv (ha .ex .ex) (hb .ex .ex)) (fun z43 z3H => Zq5 x0 z43 z3H r h)
end Go.Proofs.YteoeggbihfnbfaaGreatDoor.N2
end
